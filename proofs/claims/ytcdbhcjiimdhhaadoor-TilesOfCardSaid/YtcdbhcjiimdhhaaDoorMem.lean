/-
  Words for memory, of no program: a slice that reads as cells (Reads), a slice of the call's own, at whatever offset (Own), append onto it from whatever source; how both go on through draws, new blocks, stores elsewhere.
-/
import Derived.Below
import Derived.Laws.OwnMore
import Derived.Deep.AppendSrc
import Derived.Deep.Upon
import Derived.Deep.AppendLies
import Derived.Deep.Draws
import Derived.Deep.MidRow
import Derived.Maps.AppendAt
import Derived.RegionTactic
import Derived.OwnWalk
import Derived.Test.YtcdbhcjiimdhhaaDoorPx
namespace Go.Proofs.YtcdbhcjiimdhhaaDoor
open Go Go.RowKit

theorem block_of_add (a : Addr) (n : Nat) : (a.add n).block = a.block := by unfold Addr.add; split <;> rfl
theorem add_of_add (a : Addr) (i j : Nat) : (a.add i).add j = a.add (i + j) := by
  unfold Addr.add
  by_cases hi : i = 0 <;> by_cases hj : j = 0 <;> simp [hi, hj, Nat.add_assoc]
theorem add_lit (b o j : Nat) : (⟨b, o, none⟩ : Addr).add j = ⟨b, o + j, none⟩ := by unfold Addr.add; split <;> simp_all

theorem below_drewN {B : Nat} {a w : World} (h : Below B a w) (n : Nat) : Below B a (w.drewN n) := ⟨h.os, h.tape, h.output, h.size, h.block⟩
theorem cell_lt {w : World} {a : Addr} {u : Value} (h : w.cell? a = some u) : a.block < w.heap.size := World.block_lt_of_cell? w a h

/-- The slice '.slice A n c' reads as the cells xs, 'size' cells an element, in a block below B. -/
def Reads (w : World) (B size : Nat) (A : Option Addr) (n : Nat) (xs : List Value) : Prop :=
  xs.length = n * size ∧ (0 < n * size → ∃ b off, A = some ⟨b, off, none⟩ ∧ b < B ∧ ∀ j u, xs[j]? = some u → w.cell? ⟨b, off + j, none⟩ = some u)

section
variable {w w' : World} {B B' size n : Nat} {A : Option Addr} {xs : List Value}
theorem Reads.none_ : Reads w B size A 0 [] := ⟨by simp, fun h => absurd h (by omega)⟩
theorem Reads.keep (h : Reads w B size A n xs) (hk : ∀ p : Addr, p.block < B → w'.cell? p = w.cell? p) : Reads w' B size A n xs :=
  ⟨h.1, fun hn => by
    obtain ⟨b, off, e, hb, hc⟩ := h.2 hn
    exact ⟨b, off, e, hb, fun j u hu => (hk _ hb).trans (hc j u hu)⟩⟩
theorem Reads.more (h : Reads w B size A n xs) (hB : B ≤ B') : Reads w B' size A n xs :=
  ⟨h.1, fun hn => by
    obtain ⟨b, off, e, hb, hc⟩ := h.2 hn
    exact ⟨b, off, e, by omega, hc⟩⟩
theorem Reads.below (h : Reads w B size A n xs) {C : Nat} (hb : Below C w w') (hC : B ≤ C) : Reads w' B size A n xs := h.keep fun _ hp => hb.cell (by omega)
theorem Reads.drew (h : Reads w B size A n xs) : Reads w.drew B size A n xs := h
theorem Reads.drewN (h : Reads w B size A n xs) (k : Nat) : Reads (w.drewN k) B size A n xs := h
theorem Reads.alloc (h : Reads w B size A n xs) (hB : B ≤ w.heap.size) (o : Obj) : Reads (w.alloc o) B size A n xs := h.keep fun p hp => World.cell?_alloc_lt w o p (by omega)
theorem Reads.setCell (h : Reads w B size A n xs) {p : Addr} (hB : B ≤ p.block) (u : Value) : Reads (w.setCell p u) B size A n xs :=
  h.keep fun q hq => World.cell?_setCell_other w p q u (fun e => by subst e; omega)
theorem Reads.grown (h : Reads w B size A n xs) {row : Option Nat} (hg : w.grownBy w' row) (hB : B ≤ w.heap.size) (hr : ∀ g, row = some g → B ≤ g) : Reads w' B size A n xs :=
  h.keep fun p hp => World.cell?_of_block (hg.block p.block (by omega) (fun e => by have := hr _ e.symm; omega))
theorem Reads.cut (h : Reads w B size A n xs) {k cap : Nat} (hk : k ≤ n) (hc : n ≤ cap) :
    Reads w B size (if cap = k then A else A.map (·.add (k * size))) (n - k) (xs.drop (k * size)) := by
  refine ⟨by rw [List.length_drop, h.1, Nat.sub_mul], fun hn => ?_⟩
  have hpos : 0 < n * size := by
    rcases Nat.eq_zero_or_pos (n * size) with h0 | h0
    · rw [Nat.sub_mul] at hn; omega
    · exact h0
  obtain ⟨b, off, rfl, hb, hcell⟩ := h.2 hpos
  have hne : cap ≠ k := by
    rintro rfl
    have : n = cap := by omega
    subst this
    simp at hn
  rw [if_neg hne]
  refine ⟨b, off + k * size, by simp [add_lit], hb, fun j u hu => ?_⟩
  rw [Nat.add_assoc]
  exact hcell _ u (by rw [← hu, List.getElem?_drop])
theorem Reads.take (h : Reads w B size A n xs) {k : Nat} (hk : k ≤ n) : Reads w B size A k (xs.take (k * size)) := by
  have hle : k * size ≤ n * size := Nat.mul_le_mul_right _ hk
  refine ⟨by rw [List.length_take, h.1]; omega, fun hn => ?_⟩
  obtain ⟨b, off, rfl, hb, hcell⟩ := h.2 (by omega)
  refine ⟨b, off, rfl, hb, fun j u hu => hcell j u ?_⟩
  rw [List.getElem?_take] at hu
  split at hu
  · exact hu
  · cases hu
/-- What stands at one place. -/
theorem Reads.cell (h : Reads w B size A n xs) {b off : Nat} (hA : A = some ⟨b, off, none⟩) (j : Nat) (hj : j < n * size) : w.cell? ⟨b, off + j, none⟩ = xs[j]? := by
  obtain ⟨b', off', e, _, hc⟩ := h.2 (by omega)
  rw [hA] at e
  injection e with e
  injection e with e1 e2
  subst e1; subst e2
  have hl : j < xs.length := by rw [h.1]; exact hj
  rw [List.getElem?_eq_getElem hl]
  exact hc j _ (List.getElem?_eq_getElem hl)
theorem Reads.addr (h : Reads w B size A n xs) (hn : 0 < n * size) : ∃ b off, A = some ⟨b, off, none⟩ ∧ b < B := by
  obtain ⟨b, off, e, hb, _⟩ := h.2 hn
  exact ⟨b, off, e, hb⟩
theorem Reads.range (h : Reads w B size A n xs) {b off : Nat} (hA : A = some ⟨b, off, none⟩) (k : Nat) (hk : k < n) : w.rangeAt b (off + k * size) ((xs.drop (k * size)).take size) := by
  intro j v hv
  rw [List.getElem?_take] at hv
  split at hv
  · rename_i hj
    rw [List.getElem?_drop] at hv
    have hlt : k * size + j < n * size := by
      have : (k + 1) * size ≤ n * size := Nat.mul_le_mul_right _ hk
      rw [Nat.succ_mul] at this
      omega
    rw [Nat.add_assoc, h.cell hA _ hlt, hv]
  · cases hv
theorem Reads.src {P : Program} {tx e' : TypeId} (hk : P.underlying tx = some (.slice e')) (h : Reads w B size A n xs) (hs : 0 < size) (h1 : ∀ u ∈ xs, u.oneCell' = true) (c : Nat) : Src P size tx (.slice A n c) n xs w := by
  rcases Nat.eq_zero_or_pos n with h0 | h0
  · subst h0
    have hx : xs = [] := List.eq_nil_of_length_eq_zero (by simpa using h.1)
    subst hx
    cases A with
    | none => exact Src.ofNil w hk c
    | some a => exact Src.ofSlice w hk a 0 c [] (by simp) (fun j u hu => by simp at hu) (fun u hu => by cases hu)
  · obtain ⟨b, off, rfl, _, hc⟩ := h.2 (Nat.mul_pos h0 hs)
    exact Src.ofSlice w hk ⟨b, off, none⟩ n c xs h.1 (fun j u hu => by rw [add_lit]; exact hc j u hu) h1
end

/-- A slice of the call's own, at whatever offset of its block: its n elements hold the cells xs; all places up to its capacity are there and may be written. -/
def Own (w : World) (base size : Nat) (v : Value) (n : Nat) (xs : List Value) : Prop :=
  xs.length = n * size ∧
  ((v = .slice none 0 0 ∧ n = 0) ∨
   ∃ g off cap, v = .slice (some ⟨g, off, none⟩) n cap ∧ base ≤ g ∧ g < w.heap.size ∧ n ≤ cap ∧ cap ≤ maxLen ∧
     (∀ j, j < n * size → w.cell? ⟨g, off + j, none⟩ = xs[j]?) ∧ ∀ j, j < cap * size → (w.cell? ⟨g, off + j, none⟩).isSome = true ∧ w.frozen? ⟨g, off + j, none⟩ = false)

section
variable {w w' : World} {base size n : Nat} {v : Value} {xs : List Value}
theorem Own.nil (w : World) (base size : Nat) : Own w base size (.slice none 0 0) 0 [] := ⟨by simp, .inl ⟨rfl, rfl⟩⟩
theorem Own.of_row {e : TypeId} (h : w.ownsRow base e size v n xs) : Own w base size v n xs := by
  refine ⟨h.1, ?_⟩
  rcases h.2 with h0 | ⟨g, cap, cur, rfl, hb, hg, hn, hm, hs, ht⟩
  · exact .inl h0
  · refine .inr ⟨g, 0, cap, rfl, hb, (Array.getElem?_eq_some_iff.1 hg).1, hn, hm, fun j hj => ?_, fun j hj => ?_⟩
    · rw [cell_of_row w g (0 + j) cur e (0, 0) hg, Nat.zero_add, ← ht, List.getElem?_take, if_pos hj]
      simp
    · rw [cell_of_row w g (0 + j) cur e (0, 0) hg, Nat.zero_add]
      refine ⟨by simp [hs, hj], ?_⟩
      simp [World.frozen?, hg]
theorem Own.lt (h : Own w base size v n xs) : ∀ k, v.ownBlock = some k → base ≤ k ∧ k < w.heap.size := by
  intro k hk
  rcases h.2 with ⟨rfl, _⟩ | ⟨g, off, cap, rfl, hb, hg, _⟩
  · simp [Value.ownBlock] at hk
  · simp [Value.ownBlock] at hk
    subst hk
    exact ⟨hb, hg⟩
theorem Own.keep (h : Own w base size v n xs) (hs : w.heap.size ≤ w'.heap.size) (hc : ∀ g, v.ownBlock = some g → w'.heap[g]? = w.heap[g]?) : Own w' base size v n xs := by
  refine ⟨h.1, ?_⟩
  rcases h.2 with h0 | ⟨g, off, cap, rfl, hb, hg, hn, hm, hx, hf⟩
  · exact .inl h0
  · have e := hc g rfl
    refine .inr ⟨g, off, cap, rfl, hb, by omega, hn, hm, fun j hj => ?_, fun j hj => ?_⟩
    · rw [World.cell?_of_block (a := ⟨g, off + j, none⟩) e]; exact hx j hj
    · rw [World.cell?_of_block (a := ⟨g, off + j, none⟩) e, World.frozen?_of_block (a := ⟨g, off + j, none⟩) e]; exact hf j hj
theorem Own.kept {row : Option Nat} (h : Own w base size v n xs) (hg : w.grownBy w' row) (hne : v.ownBlock = none ∨ v.ownBlock ≠ row) : Own w' base size v n xs :=
  h.keep hg.size fun g hv => hg.block g (h.lt g hv).2 (by
    rcases hne with h0 | h0
    · rw [h0] at hv; cases hv
    · rw [← hv]; exact h0)
theorem Own.drew (h : Own w base size v n xs) : Own w.drew base size v n xs := h
theorem Own.drewN (h : Own w base size v n xs) (k : Nat) : Own (w.drewN k) base size v n xs := h
theorem Own.alloc (h : Own w base size v n xs) (o : Obj) : Own (w.alloc o) base size v n xs :=
  h.keep (by simp) fun g hv => heap_alloc_old w o g (h.lt g hv).2
theorem Own.setCell (h : Own w base size v n xs) {p : Addr} (hp : v.ownBlock ≠ some p.block) (u : Value) : Own (w.setCell p u) base size v n xs :=
  h.keep (by simp [World.setCell]) fun g hv => Below.heap_setCell w p u g (fun e => hp (by rw [hv, e]))
theorem Own.below {B : Nat} (h : Own w base size v n xs) (hb : Below B w w') (hB : w.heap.size ≤ B) : Own w' base size v n xs :=
  h.keep hb.size fun g hv => hb.block g (by have := (h.lt g hv).2; omega)
theorem Own.mono {base' : Nat} (h : Own w base size v n xs) (hb : base' ≤ base) : Own w base' size v n xs := by
  refine ⟨h.1, ?_⟩
  rcases h.2 with h0 | ⟨g, off, cap, rfl, hb', hg, hn, hm, hx, hf⟩
  · exact .inl h0
  · exact .inr ⟨g, off, cap, rfl, by omega, hg, hn, hm, hx, hf⟩
/-- Its form: a slice, whatever it owns. -/
theorem Own.form (h : Own w base size v n xs) : ∃ A c, v = .slice A n c ∧ n ≤ c ∧ Reads w w.heap.size size A n xs := by
  rcases h.2 with ⟨rfl, rfl⟩ | ⟨g, off, cap, rfl, hb, hg, hn, hm, hx, hf⟩
  · have hx : xs = [] := List.eq_nil_of_length_eq_zero (by simpa using h.1)
    subst hx
    exact ⟨none, 0, rfl, Nat.le_refl _, Reads.none_⟩
  · refine ⟨_, cap, rfl, hn, h.1, fun _ => ⟨g, off, rfl, hg, fun j u hu => ?_⟩⟩
    have hj : j < n * size := by rw [← h.1]; exact (List.getElem?_eq_some_iff.1 hu).1
    rw [hx j hj, hu]
theorem Own.reads {A : Option Addr} {m c : Nat} (h : Own w base size (.slice A m c) n xs) : m = n ∧ Reads w w.heap.size size A n xs := by
  obtain ⟨A', c', e, _, hr⟩ := h.form
  injection e with e1 e2 e3
  subst e1; subst e2
  exact ⟨rfl, hr⟩
/-- A cut from its beginning: the first k elements, the same places. -/
theorem Own.take {A : Option Addr} {c k : Nat} (h : Own w base size (.slice A n c) n xs) (hk : k ≤ n) : Own w base size (.slice A k c) k (xs.take (k * size)) := by
  have hle : k * size ≤ n * size := Nat.mul_le_mul_right _ hk
  refine ⟨by rw [List.length_take, h.1]; omega, ?_⟩
  rcases h.2 with ⟨e, h0⟩ | ⟨g, off, cap, e, hb, hg, hn, hm, hx, hf⟩
  · injection e with e1 e2 e3
    subst h0; subst e1; subst e3
    have : k = 0 := by omega
    subst this
    exact .inl ⟨rfl, rfl⟩
  · injection e with e1 e2 e3
    subst e1; subst e3
    refine .inr ⟨g, off, c, rfl, hb, hg, by omega, hm, fun j hj => ?_, hf⟩
    rw [hx j (by omega), List.getElem?_take, if_pos hj]
/-- A cut of its head: what stands from k on. -/
theorem Own.drop {A : Option Addr} {c k : Nat} (h : Own w base size (.slice A n c) n xs) (hk : k ≤ n) :
    Own w base size (.slice (if c = k then A else A.map (·.add (k * size))) (n - k) (c - k)) (n - k) (xs.drop (k * size)) := by
  refine ⟨by rw [List.length_drop, h.1, Nat.sub_mul], ?_⟩
  rcases h.2 with ⟨e, h0⟩ | ⟨g, off, cap, e, hb, hg, hn, hm, hx, hf⟩
  · injection e with e1 e2 e3
    subst h0; subst e1; subst e3
    have : k = 0 := by omega
    subst this
    exact .inl ⟨by simp, rfl⟩
  · injection e with e1 e2 e3
    subst e1; subst e3
    by_cases hck : c = k
    · subst hck
      rw [if_pos rfl]
      have h0 : n - c = 0 := by omega
      rw [h0, Nat.sub_self]
      exact .inr ⟨g, off, 0, rfl, hb, hg, Nat.le_refl _, Nat.zero_le _, fun j hj => by simp at hj, fun j hj => by simp at hj⟩
    · rw [if_neg hck]
      refine .inr ⟨g, off + k * size, c - k, by simp [add_lit], hb, hg, by omega, by omega, fun j hj => ?_, fun j hj => ?_⟩
      · have hlt : k * size + j < n * size := by rw [Nat.sub_mul] at hj; omega
        rw [Nat.add_assoc, hx _ hlt, List.getElem?_drop]
      · have hlt : k * size + j < c * size := by rw [Nat.sub_mul] at hj; omega
        rw [Nat.add_assoc]
        exact hf _ hlt
end

theorem size_setCells (b : Nat) : ∀ (vs : List Value) (o : Nat) (w : World), (w.setCells b o vs).heap.size = w.heap.size
  | [], _, _ => rfl
  | v :: vs, o, w => by rw [World.setCells, size_setCells b vs]; simp [World.setCell]
theorem tape_setCells (b : Nat) : ∀ (vs : List Value) (o : Nat) (w : World), (w.setCells b o vs).tape = w.tape
  | [], _, _ => rfl
  | v :: vs, o, w => by rw [World.setCells, tape_setCells b vs]; rfl

section
variable {P : Program} (w : World)

/-- append onto a slice of the call's own, whatever its offset, from whatever source. -/
theorem run_append_Own (base : Nat) (t tx ty e : TypeId) (i : TypeInfo) (z : Value) (size bytes : Nat) (ht : P.underlying t = some (.slice e)) (hi : P.info? e = some i) (hz : i.zero = some z)
    (hsize : i.size = size) (hby : i.bytes = bytes) (hzs : z.cells.size = size) (hsz : 0 < size)
    (v : Value) (n : Nat) (xs : List Value) (hown : Own w base size v n xs) (h1x : ∀ u ∈ xs, u.oneCell' = true) (x : Value) (m : Nat) (news : List Value) (hs : Src P size tx x m news w)
    (h63 : n + m ≤ maxLen) (hbytes : (n + m) * bytes ≤ 140737488355328) (hbase : base ≤ w.heap.size) :
    ∃ v' w', (Builtin.append_ #[t, tx] ty #[v, x]).run P w = .ok v' w' ∧ Own w' base size v' (n + m) (xs ++ news) ∧ w.grownBy w' v.ownBlock ∧
      (v'.ownBlock = v.ownBlock ∨ v'.ownBlock = some w.heap.size) := by
  subst hsize; subst hby
  have hnl := hs.newsLen
  have hlen : (xs ++ news).length = (n + m) * i.size := by rw [List.length_append, hown.1, hnl, Nat.add_mul]
  -- the arm that grows
  have grow : ∀ (A : Option Addr) (cap : Nat), v = .slice A n cap → cap < n + m →
      (Builtin.firstCells i.size n (.slice A n cap)).run P w.drew = .ok xs.toArray w.drew →
      ∃ v' w', (Builtin.append_ #[t, tx] ty #[v, x]).run P w = .ok v' w' ∧ Own w' base i.size v' (n + m) (xs ++ news) ∧ w.grownBy w' v.ownBlock ∧
        (v'.ownBlock = v.ownBlock ∨ v'.ownBlock = some w.heap.size) := by
    intro A cap hv hlt hfirst
    have hr := run_append_grow_src (P := P) w t tx ty e i z ht hi hz A n cap xs hfirst x m news hs hlt (by unfold maxLen at h63; omega) (growslice_fits (by omega) hbytes)
    rw [hv, hr]
    have hge := grownCap_ge w (n + m) cap e
    have hle := grownCap_le_maxLen w (n + m) cap e h63
    refine ⟨_, _, rfl, ?_, ?_, .inr rfl⟩
    · refine ⟨hlen, .inr ⟨w.heap.size, 0, _, rfl, hbase, by simp, hge, hle, fun j hj => ?_, fun j hj => ?_⟩⟩
      · have hb : (w.drew.alloc (.cells ((xs ++ news).toArray ++ Builtin.zeroCells z.cells (grownCap w (n + m) cap e - (n + m))) e)).heap[w.heap.size]? = some (.cells ((xs ++ news).toArray ++ Builtin.zeroCells z.cells (grownCap w (n + m) cap e - (n + m))) e (0, 0)) := heap_alloc_new w.drew _
        rw [cell_of_row _ w.heap.size (0 + j) _ e (0, 0) hb, Nat.zero_add, Array.getElem?_append_left (by simpa [hlen] using hj)]
        simp
      · have hb : (w.drew.alloc (.cells ((xs ++ news).toArray ++ Builtin.zeroCells z.cells (grownCap w (n + m) cap e - (n + m))) e)).heap[w.heap.size]? = some (.cells ((xs ++ news).toArray ++ Builtin.zeroCells z.cells (grownCap w (n + m) cap e - (n + m))) e (0, 0)) := heap_alloc_new w.drew _
        rw [cell_of_row _ w.heap.size (0 + j) _ e (0, 0) hb, Nat.zero_add]
        refine ⟨?_, by simp only [World.frozen?]; rw [hb]; simp⟩
        have hsz' : ((xs ++ news).toArray ++ Builtin.zeroCells z.cells (grownCap w (n + m) cap e - (n + m))).size = grownCap w (n + m) cap e * i.size := by
          rw [Array.size_append, size_zeroCells, hzs, List.size_toArray, hlen, ← Nat.add_mul]
          congr 1
          omega
        simp only [Array.getElem?_eq_getElem (show j < _ by rw [hsz']; exact hj)]
        rfl
    · exact ⟨rfl, rfl, rfl, by simp, fun k hk _ => heap_alloc_old w.drew _ k hk⟩
  rcases hown.2 with ⟨hv, h0⟩ | ⟨g, off, cap, hv, hb, hg, hn, hm, hx, hf⟩
  · subst h0
    have hx0 : xs = [] := List.eq_nil_of_length_eq_zero (by simpa using hown.1)
    rcases Nat.eq_zero_or_pos m with hm0 | hm0
    · subst hm0
      have hn0 : news = [] := List.eq_nil_of_length_eq_zero (by simpa using hnl)
      subst hn0; subst hx0
      refine ⟨v, w, ?_, by simpa using hown, World.grownBy.refl w _, .inl rfl⟩
      subst hv
      rcases hs.kind with ⟨e', hk⟩ | hk <;> simp [Builtin.append_, run_underlying ht, run_underlying hk, sizeOf, typeInfo, hi, hs.len, hs.cells]
    · subst hx0
      exact grow none 0 hv (by omega) (run_firstCells_none w.drew i.size 0 0 0)
  · by_cases hroom : n + m ≤ cap
    · have hmul : (n + m) * i.size ≤ cap * i.size := Nat.mul_le_mul_right _ hroom
      rw [Nat.add_mul] at hmul
      have hthere : ∀ j, j < news.length → (w.cell? ⟨g, off + n * i.size + j, none⟩).isSome = true ∧ w.frozen? ⟨g, off + n * i.size + j, none⟩ = false := fun j hj => by
        have := hf (n * i.size + j) (by omega)
        rwa [← Nat.add_assoc] at this
      have hr := run_append_room_src (P := P) w t tx ty e i ht hi g off n cap x m news hs hroom (fun j hj => (hthere j hj).1) (fun j hj => (hthere j hj).2)
      rw [hv, hr]
      refine ⟨_, _, rfl, ⟨hlen, .inr ⟨g, off, cap, rfl, hb, ?_, hroom, hm, fun j hj => ?_, fun j hj => ?_⟩⟩, ?_, .inl rfl⟩
      · rw [size_setCells]; exact hg
      · rcases Nat.lt_or_ge j (n * i.size) with hlt | hge
        · rw [World.cell?_setCells_out g news _ w ⟨g, off + j, none⟩ (fun _ _ => .inl (by show off + j < _; omega)), hx j hlt, List.getElem?_append_left (by rw [hown.1]; exact hlt)]
        · obtain ⟨k, rfl⟩ : ∃ k, j = n * i.size + k := ⟨j - n * i.size, by omega⟩
          have hk : k < news.length := by rw [hnl]; rw [Nat.add_mul] at hj; omega
          have := World.cell?_setCells_in g news (off + n * i.size) w (fun j hj => (hthere j hj).1) k hk
          rw [← Nat.add_assoc, this, List.getElem?_append_right (by rw [hown.1]; omega), hown.1, Nat.add_sub_cancel_left, List.getElem?_eq_getElem hk]
      · refine ⟨World.isSome_setCells g news _ w _ (hf j hj).1, ?_⟩
        rw [World.frozen?_setCells]
        exact (hf j hj).2
      · refine ⟨World.os_setCells w g _ news, tape_setCells g news _ w, World.output_setCells w g _ news, by rw [size_setCells]; exact Nat.le_refl _, fun k hk hne => ?_⟩
        exact World.heap_setCells_other w g _ news hk (fun e => hne (by simp [Value.ownBlock, e]))
    · refine grow _ cap hv (by omega) ?_
      refine run_firstCells_some (P := P) w.drew i.size n ⟨g, off, none⟩ n cap xs hown.1 (fun j u hu => ?_)
      rw [add_lit]
      have hj : j < n * i.size := by rw [← hown.1]; exact (List.getElem?_eq_some_iff.1 hu).1
      show w.cell? _ = _
      rw [hx j hj, hu]
theorem wp_append_Own {o : Oper} {a : Act} {K : Act → World → Prop} {Q : Exit → Act → World → Prop} (s x : Operand) (t tx : TypeId)
    (ho : o.op = .call { callee := .builtin .append, args := #[s, x], argTypes := #[t, tx] })
    (base : Nat) (e : TypeId) (i : TypeInfo) (z : Value) (size bytes : Nat) (ht : P.underlying t = some (.slice e)) (hi : P.info? e = some i) (hz : i.zero = some z)
    (hsize : i.size = size) (hby : i.bytes = bytes) (hzs : z.cells.size = size) (hsz : 0 < size)
    (v : Value) (n : Nat) (xs : List Value) (hs : a.eval s = v) (hown : Own w base size v n xs) (h1x : ∀ u ∈ xs, u.oneCell' = true)
    (m : Nat) (news : List Value) (hr : Src P size tx (a.eval x) m news w)
    (h63 : n + m ≤ maxLen) (hbytes : (n + m) * bytes ≤ 140737488355328) (hbase : base ≤ w.heap.size)
    (h : ∀ v' w', Own w' base size v' (n + m) (xs ++ news) → w.grownBy w' v.ownBlock → (v'.ownBlock = v.ownBlock ∨ v'.ownBlock = some w.heap.size) → K (a.put o.dst v') w') : o.wp P a w K Q := by
  obtain ⟨v', w', hrun, h2, h3, h4⟩ := run_append_Own (P := P) w base t tx o.type e i z size bytes ht hi hz hsize hby hzs hsz v n xs hown h1x _ m news hr h63 hbytes hbase
  unfold Oper.wp execOp
  simp only [ho, resolve, invoke, builtin, Sem.run_bind, Sem.run_pure, Result.andThen_ok, List.map_toArray, List.map_cons, List.map_nil, hs, hrun]
  exact h v' w' h2 h3 h4

theorem wpList_append_Own {ops : Array Oper} {rest : List Oper} {o : Oper} {a : Act} {Q : Exit → Act → World → Prop} (hgd : o.guard = none) (s x : Operand) (t tx : TypeId)
    (ho : o.op = .call { callee := .builtin .append, args := #[s, x], argTypes := #[t, tx] })
    (base : Nat) (e : TypeId) (i : TypeInfo) (z : Value) (size bytes : Nat) (ht : P.underlying t = some (.slice e)) (hi : P.info? e = some i) (hz : i.zero = some z)
    (hsize : i.size = size) (hby : i.bytes = bytes) (hzs : z.cells.size = size) (hsz : 0 < size)
    (v : Value) (n : Nat) (xs : List Value) (hs : a.eval s = v) (hown : Own w base size v n xs) (h1x : ∀ u ∈ xs, u.oneCell' = true)
    (m : Nat) (news : List Value) (hr : Src P size tx (a.eval x) m news w)
    (h63 : n + m ≤ maxLen) (hbytes : (n + m) * bytes ≤ 140737488355328) (hbase : base ≤ w.heap.size)
    (h : ∀ v' w', Own w' base size v' (n + m) (xs ++ news) → w.grownBy w' v.ownBlock → (v'.ownBlock = v.ownBlock ∨ v'.ownBlock = some w.heap.size) → wpList P ops Q rest (a.put o.dst v') w') : wpList P ops Q (o :: rest) a w :=
  wpList_plain hgd fun _ hK => wp_append_Own w s x t tx ho base e i z size bytes ht hi hz hsize hby hzs hsz v n xs hs hown h1x m news hr h63 hbytes hbase fun v' w' h2 h3 h4 => hK _ _ (h v' w' h2 h3 h4)

theorem step_append_Own {ops : Array Oper} {o : Oper} {a : Act} {K : Act → World → Prop} {Q : Exit → Act → World → Prop} {E : Prop} (hgd : o.guard = none) (s x : Operand) (t tx : TypeId)
    (ho : o.op = .call { callee := .builtin .append, args := #[s, x], argTypes := #[t, tx] })
    (base : Nat) (e : TypeId) (i : TypeInfo) (z : Value) (size bytes : Nat) (ht : P.underlying t = some (.slice e)) (hi : P.info? e = some i) (hz : i.zero = some z)
    (hsize : i.size = size) (hby : i.bytes = bytes) (hzs : z.cells.size = size) (hsz : 0 < size)
    (v : Value) (n : Nat) (xs : List Value) (hs : a.eval s = v) (hown : Own w base size v n xs) (h1x : ∀ u ∈ xs, u.oneCell' = true)
    (m : Nat) (news : List Value) (hr : Src P size tx (a.eval x) m news w)
    (h63 : n + m ≤ maxLen) (hbytes : (n + m) * bytes ≤ 140737488355328) (hbase : base ≤ w.heap.size)
    (h : ∀ v' w', Own w' base size v' (n + m) (xs ++ news) → w.grownBy w' v.ownBlock → (v'.ownBlock = v.ownBlock ∨ v'.ownBlock = some w.heap.size) → K (a.put o.dst v') w') :
    if Region.wanted o (yielded ops a.tmps) = true then Oper.wp P o a w K Q else E := by
  have hw : Region.wanted o (yielded ops a.tmps) = true := by simp [Region.wanted, hgd]
  rw [if_pos hw]
  exact wp_append_Own w s x t tx ho base e i z size bytes ht hi hz hsize hby hzs hsz v n xs hs hown h1x m news hr h63 hbytes hbase h
end

/-! ### pixels in memory -/
def pxCs (p : Px) : List Value := [.int .u8 p.r.toNat, .int .u8 p.g.toNat, .int .u8 p.b.toNat, .int .u8 p.a.toNat]
def pxV (p : Px) : Value := .agg #[.int .u8 p.r.toNat, .int .u8 p.g.toNat, .int .u8 p.b.toNat, .int .u8 p.a.toNat]
def pxCells (l : List Px) : List Value := l.flatMap pxCs

theorem pxCells_length (l : List Px) : (pxCells l).length = l.length * 4 := by
  induction l with
  | nil => rfl
  | cons p l ih => simp only [pxCells, List.flatMap_cons, List.length_append] at ih ⊢; rw [ih]; simp [pxCs]; omega
theorem pxCells_append (l m : List Px) : pxCells (l ++ m) = pxCells l ++ pxCells m := by simp [pxCells]
theorem pxCells_cons (p : Px) (l : List Px) : pxCells (p :: l) = pxCs p ++ pxCells l := by simp [pxCells]
theorem pxCells_one (l : List Px) : ∀ u ∈ pxCells l, u.oneCell' = true := by
  intro u hu
  obtain ⟨p, _, hp⟩ := List.mem_flatMap.1 hu
  simp only [pxCs, List.mem_cons, List.not_mem_nil, or_false] at hp
  rcases hp with rfl | rfl | rfl | rfl <;> rfl
theorem pxCells_at (l : List Px) : ∀ (k : Nat) (hk : k < l.length) (j : Nat), j < 4 → (pxCells l)[k * 4 + j]? = (pxCs l[k])[j]? := by
  induction l with
  | nil => intro k hk; simp at hk
  | cons p l ih =>
    intro k hk j hj
    rw [pxCells_cons]
    rcases k with _ | k
    · rw [Nat.zero_mul, Nat.zero_add, List.getElem?_append_left (by simpa [pxCs] using hj)]
      rfl
    · rw [List.getElem?_append_right (by simp [pxCs]; omega)]
      have e : (k + 1) * 4 + j - (pxCs p).length = k * 4 + j := by simp [pxCs]; omega
      rw [e, ih k (by simpa using hk) j hj]
      rfl
/-- A pixel of a slice that reads so: its four cells. -/
theorem Reads.px {w : World} {B n b off : Nat} {l : List Px} (h : Reads w B 4 (some ⟨b, off, none⟩) n (pxCells l)) (k : Nat) (hk : k < l.length) :
    w.cell? ⟨b, off + k * 4, none⟩ = some (.int .u8 l[k].r.toNat) ∧ w.cell? ⟨b, off + k * 4 + 1, none⟩ = some (.int .u8 l[k].g.toNat) ∧
    w.cell? ⟨b, off + k * 4 + 2, none⟩ = some (.int .u8 l[k].b.toNat) ∧ w.cell? ⟨b, off + k * 4 + 3, none⟩ = some (.int .u8 l[k].a.toNat) := by
  have hn : n * 4 = l.length * 4 := by rw [← h.1, pxCells_length]
  have key : ∀ j, j < 4 → w.cell? ⟨b, off + k * 4 + j, none⟩ = (pxCs l[k])[j]? := fun j hj => by
    rw [Nat.add_assoc, h.cell rfl _ (by omega), pxCells_at l k hk j hj]
  exact ⟨key 0 (by omega), key 1 (by omega), key 2 (by omega), key 3 (by omega)⟩
theorem Reads.pxLen {w : World} {B n : Nat} {A : Option Addr} {l : List Px} (h : Reads w B 4 A n (pxCells l)) : n = l.length := by
  have := h.1
  rw [pxCells_length] at this
  omega

/-! ### numbers in memory -/
def ints (l : List Int) : List Value := l.map (Value.int .i64)
theorem ints_length (l : List Int) : (ints l).length = l.length := by simp [ints]
theorem ints_one (l : List Int) : ∀ u ∈ ints l, u.oneCell' = true := by
  intro u hu
  obtain ⟨p, _, rfl⟩ := List.mem_map.1 hu
  rfl
theorem ints_snoc (l : List Int) (x : Int) : ints l ++ [.int .i64 x] = ints (l ++ [x]) := by simp [ints]
theorem ints_at (l : List Int) (k : Nat) (hk : k < l.length) : (ints l)[k]? = some (.int .i64 l[k]) := by simp [ints, hk]
/-- A slice that was made just now: what the cells of a new block give to an append. -/
theorem Src.new {P : Program} {tx e' : TypeId} (hk : P.underlying tx = some (.slice e')) (w : World) (cs : List Value) (t : TypeId) (size m c : Nat) (hl : cs.length = m * size) (h1 : ∀ u ∈ cs, u.oneCell' = true) :
    Src P size tx (.slice (some ⟨w.heap.size, 0, none⟩) m c) m cs (w.alloc (.cells cs.toArray t)) :=
  Src.ofSlice _ hk ⟨w.heap.size, 0, none⟩ m c cs hl (fun j u hu => by
    rw [add_lit, cell_of_row _ w.heap.size (0 + j) cs.toArray t (0, 0) ((heap_alloc_new w _)), Nat.zero_add]
    simpa using hu) h1
end Go.Proofs.YtcdbhcjiimdhhaaDoor
