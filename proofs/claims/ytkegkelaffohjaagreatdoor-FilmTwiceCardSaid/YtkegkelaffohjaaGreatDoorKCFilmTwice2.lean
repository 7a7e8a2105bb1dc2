/- PxKey, Uses, TileLaw, PakLaw, ChLaw, InfPl: put together. -/
import Derived.Test.YtkegkelaffohjaaGreatDoorKCFilmTwice0
import Derived.Laws.StructEq
import Derived.WalkKit
import Derived.Maps.OwnOps
import Derived.Test.YtkegkelaffohjaaGreatDoorProg
import Derived.WalkSpells
import Derived.WalkLawsBesides
import Derived.Handy
import Derived.KernelRfl
import Derived.Test.YtkegkelaffohjaaGreatDoorKCFilmTwice5
/- Maps of the call's own, of whatever key: what is known of one is the list of its entries, in the order in which they came. Pixels as keys; pixels compared. Pixels compared by the code. The row of int in the table of types. -/
namespace Go.Proofs.YtkegkelaffohjaaGreatDoor
open Go Go.RowKit
structure KeyLaw (P : Program) (K : TypeId) {κ : Type} [DecidableEq κ] (enc : κ → Value) : Prop where
 eq : ∀ (w : World) (p q : κ), (Op.equal K (enc p) (enc q)).run P w = .ok (decide (p = q)) w
 check : ∀ (w : World) (b : Bool) (p : κ), (Instr.checkKey b 10000 K (enc p)).run P w = .ok () w
 und : ∃ d, P.underlying K = some d ∧ ∀ p q r, Instr.sameNow d (enc p) (enc q) = some r → r = decide (p = q)
 bits : ∀ p, Instr.sameBits 10000 (enc p) (enc p) = true
section
variable {κ : Type} [DecidableEq κ]
def mfind (p : κ) : List (κ × Value) → Nat → Option (Nat × Value)
 | [], _ => none
 | (q, v) :: M, i => if p = q then some (i, v) else mfind p M (i + 1)
def mput (p : κ) (v : Value) : List (κ × Value) → List (κ × Value)
 | [] => [(p, v)]
 | (q, u) :: M => if p = q then (q, v) :: M else (q, u) :: mput p v M
theorem mput_none {p : κ} (v : Value) {M : List (κ × Value)} : ∀ {i : Nat}, mfind p M i = none → mput p v M = M ++ [(p, v)] := by
 induction M with
 | nil => intro i _; rfl
 | cons q M ih =>
  intro i h
  obtain ⟨q, u⟩ := q
  simp only [mfind] at h
  split at h
  ·cases h
  ·rename_i hne
   simp [mput, hne, ih h]
theorem mfind_some {p : κ} {M : List (κ × Value)} : ∀ {i j : Nat} {v : Value}, mfind p M i = some (j, v) → i ≤ j ∧ M[j - i]? = some (p, v) ∧ ∀ t q u, t < j - i → M[t]? = some (q, u) → q ≠ p := by
 induction M with
 | nil => intro i j v h; cases h
 | cons q M ih =>
  intro i j v h
  obtain ⟨q, u⟩ := q
  simp only [mfind] at h
  split at h
  ·rename_i e
   subst e
   simp only [Option.some.injEq, Prod.mk.injEq] at h
   obtain ⟨rfl, rfl⟩ := h
   refine ⟨Nat.le_refl _, by simp, fun t q u ht => ?_⟩
   omega
  ·rename_i hne
   obtain ⟨h1, h2, h3⟩ := ih h
   have e : j - i = (j - (i + 1)) + 1 := by omega
   refine ⟨by omega, by rw [e]; simpa using h2, fun t q' u' ht hq => ?_⟩
   rcases t with _ | t
   ·simp only [List.getElem?_cons_zero, Option.some.injEq, Prod.mk.injEq] at hq
    exact fun e' => hne (by rw [hq.1, e'])
   ·exact h3 t q' u' (by omega) (by simpa using hq)
end
section
variable {κ : Type}
def MapAt (w : World) (b : Nat) (enc : κ → Value) (M : List (κ × Value)) : Prop :=
 ∃ es clock, w.heap[b]? = some (.map es clock) ∧ es.toList.map (fun e => (e.key, e.val)) = M.map fun q => (enc q.1, q.2)
section
variable {w w' : World} {b : Nat} {enc : κ → Value} {M : List (κ × Value)}
theorem MapAt.lt (h : MapAt w b enc M) : b < w.heap.size := by
 obtain ⟨es, c, h, _⟩ := h
 exact (Array.getElem?_eq_some_iff.1 h).1
theorem MapAt.new (w : World) (enc : κ → Value) : MapAt (w.alloc (.map #[] 0)) w.heap.size enc ([] : List (κ × Value)) := ⟨#[], 0, heap_alloc_new w _, by simp⟩
theorem MapAt.keep (h : MapAt w b enc M) (e : w'.heap[b]? = w.heap[b]?) : MapAt w' b enc M := by
 obtain ⟨es, c, h, k⟩ := h
 exact ⟨es, c, e.trans h, k⟩
theorem MapAt.drew (h : MapAt w b enc M) : MapAt w.drew b enc M := h
theorem MapAt.alloc (h : MapAt w b enc M) (o : Obj) : MapAt (w.alloc o) b enc M := h.keep ((World.grownBy_alloc w o none).block b h.lt (by simp))
theorem MapAt.setCell (h : MapAt w b enc M) {p : Addr} (hp : b ≠ p.block) (u : Value) : MapAt (w.setCell p u) b enc M := h.keep (Below.heap_setCell w p u b hp)
theorem MapAt.grown {row : Option Nat} (h : MapAt w b enc M) (hg : w.grownBy w' row) (hr : some b ≠ row) : MapAt w' b enc M := h.keep (hg.block b h.lt hr)
end
end
section
variable {κ : Type} [DecidableEq κ] {w w' : World} {b : Nat} {enc : κ → Value} {M : List (κ × Value)} {P : Program} {K : TypeId}
theorem run_findAsking (L : KeyLaw P K enc) (w : World) (p : κ) : ∀ (es : List MapEntry) (M : List (κ × Value)) (i : Nat), es.map (fun e => (e.key, e.val)) = M.map (fun q => (enc q.1, q.2)) →
  (Instr.findAsking K (enc p) es i).run P w = .ok (mfind p M i) w := by
 intro es
 induction es with
 | nil =>
  intro M i h
  have : M = [] := by cases M with | nil => rfl | cons => simp at h
  subst this
  simp [Instr.findAsking, mfind]
 | cons e es ih =>
  intro M i h
  rcases M with _ | ⟨⟨q, v⟩, M⟩
  ·simp at h
  ·simp only [List.map_cons, List.cons.injEq, Prod.mk.injEq] at h
   obtain ⟨⟨h1, h2⟩, h3⟩ := h
   simp only [Instr.findAsking, Sem.run_bind, h1, L.eq, Result.andThen_ok, mfind]
   by_cases hpq : p = q
   ·simp [hpq, h2]
   ·simp [hpq, ih M (i + 1) h3]
theorem findNow_eq {d : TypeDesc} (hd : ∀ p q r, Instr.sameNow d (enc p) (enc q) = some r → r = decide (p = q)) (p : κ) : ∀ (es : List MapEntry) (M : List (κ × Value)) (i : Nat) (r : Option (Nat × Value)), es.map (fun e => (e.key, e.val)) = M.map (fun q => (enc q.1, q.2)) →
  Instr.findNow d (enc p) es i = some r → r = mfind p M i := by
 intro es
 induction es with
 | nil =>
  intro M i r h hr
  have : M = [] := by cases M with | nil => rfl | cons => simp at h
  subst this
  simp only [Instr.findNow, Option.some.injEq] at hr
  rw [← hr]
  rfl
 | cons e es ih =>
  intro M i r h hr
  rcases M with _ | ⟨⟨q, v⟩, M⟩
  ·simp at h
  ·simp only [List.map_cons, List.cons.injEq, Prod.mk.injEq] at h
   obtain ⟨⟨h1, h2⟩, h3⟩ := h
   simp only [Instr.findNow, h1] at hr
   have hk := hd p q
   cases hs : Instr.sameNow d (enc p) (enc q) with
   | none => rw [hs] at hr; cases hr
   | some b =>
    have e := hk b hs
    rw [hs] at hr
    cases b
    ·simp only at hr
     have hne : p ≠ q := by simpa using e.symm
     simp only [mfind, if_neg hne]
     exact ih M (i + 1) r h3 hr
    ·simp only [Option.some.injEq] at hr
     have heq : p = q := by simpa using e.symm
     simp only [mfind, if_pos heq, ← hr, h2]
theorem run_findKey (L : KeyLaw P K enc) (w : World) (p : κ) (es : List MapEntry) (M : List (κ × Value)) (h : es.map (fun e => (e.key, e.val)) = M.map (fun q => (enc q.1, q.2))) :
  (Instr.findKey K (enc p) es).run P w = .ok (mfind p M 0) w := by
 obtain ⟨d, hu, hd⟩ := L.und
 simp only [Instr.findKey, Sem.run_bind, run_underlying hu, Result.andThen_ok]
 cases hn : Instr.findNow d (enc p) es 0 with
 | some r => simp [findNow_eq hd p es M 0 r h hn]
 | none => exact run_findAsking L w p es M 0 h
theorem run_lookup_at {T e : TypeId} (L : KeyLaw P K enc) (hT : P.underlying T = some (.map K e)) {z : Value} (hz : (zeroValue e).run P w = .ok z w) (h : MapAt w b enc M) (p : κ) (ok : Bool) :
  (Instr.lookup T (.map (some b)) (enc p) ok).run P w = .ok (match mfind p M 0 with
   | some (_, v) => if ok then .tuple #[v, .bool true] else v
   | none => if ok then .tuple #[z, .bool false] else z) w := by
 obtain ⟨es, c, hh, hm⟩ := h
 have hg : (getObj b).run P w = .ok (.map es c) w := by simp [getObj, Sem.run, hh]
 have hk := run_findKey L w p es.toList M hm
 have hc := L.check w es.isEmpty p
 simp only [Instr.lookup, Sem.run_bind, run_underlying hT, Result.andThen_ok, hg, Sem.run_pure, hc, hk]
 cases mfind p M 0 with
 | none => simp [hz, Result.andThen]
 | some q => obtain ⟨i, v⟩ := q; simp
theorem mput_entries (p : κ) (v : Value) : ∀ (es : List MapEntry) (M : List (κ × Value)) (i : Nat), es.map (fun e => (e.key, e.val)) = M.map (fun q => (enc q.1, q.2)) → ∀ j u, mfind p M i = some (j, u) →
  (es.modify (j - i) fun e => { e with key := enc p, val := v }).map (fun e => (e.key, e.val)) = (mput p v M).map fun q => (enc q.1, q.2) := by
 intro es
 induction es with
 | nil =>
  intro M i h j u hf
  have : M = [] := by cases M with | nil => rfl | cons => simp at h
  subst this
  cases hf
 | cons e es ih =>
  intro M i h j u hf
  rcases M with _ | ⟨⟨q, x⟩, M⟩
  ·simp at h
  ·simp only [List.map_cons, List.cons.injEq, Prod.mk.injEq] at h
   obtain ⟨⟨h1, h2⟩, h3⟩ := h
   simp only [mfind] at hf
   by_cases hpq : p = q
   ·subst hpq
    simp only at hf
    obtain ⟨rfl, rfl⟩ := hf
    simp [mput, h3]
   ·rw [if_neg hpq] at hf
    obtain ⟨hle, _, _⟩ := mfind_some hf
    have e1 : j - i = (j - (i + 1)) + 1 := by omega
    rw [e1, List.modify_succ_cons, List.map_cons, ih M (i + 1) h3 j u hf]
    simp [mput, hpq, h1, h2]
theorem run_mapUpdate_at {T e : TypeId} (L : KeyLaw P K enc) (hT : P.underlying T = some (.map K e)) (h : MapAt w b enc M) (p : κ) (v : Value) :
  ∃ w1, (Instr.mapUpdate T (.map (some b)) (enc p) v).run P w = .ok () w1 ∧ MapAt w1 b enc (mput p v M) ∧ w.grownBy w1 (some b) ∧ w1.heap.size = w.heap.size := by
 have hlt := h.lt
 obtain ⟨es, c, hh, hm⟩ := h
 have hg : (getObj b).run P w = .ok (.map es c) w := by simp [getObj, Sem.run, hh]
 have hk := run_findKey L w p es.toList M hm
 have hc := L.check w false p
 have hset : ∀ es' c', (setObj b (.map es' c')).run P w = .ok () { w with heap := w.heap.setIfInBounds b (.map es' c') } := fun es' c' => by simp [setObj, Sem.run, hh]
 have grow : ∀ es' c', w.grownBy { w with heap := w.heap.setIfInBounds b (.map es' c') } (some b) := fun es' c' =>
  ⟨rfl, rfl, rfl, by simp, fun k hk hne => by
   have : b ≠ k := fun e => hne (by rw [e])
   simp [this]⟩
 have at_ : ∀ (es' : Array MapEntry) (c' : Nat) (M' : List (κ × Value)), es'.toList.map (fun e => (e.key, e.val)) = M'.map (fun q => (enc q.1, q.2)) → MapAt { w with heap := w.heap.setIfInBounds b (.map es' c') } b enc M' := fun es' c' M' hm' =>
  ⟨es', c', by simp [hlt], hm'⟩
 cases hf : mfind p M 0 with
 | none =>
  rw [hf] at hk
  refine ⟨_, ?_, at_ (es.push { key := enc p, val := v, born := c }) (c + 1) _ ?_, grow _ _, by simp⟩
  ·simp only [Instr.mapUpdate, Sem.run_bind, run_underlying hT, Result.andThen_ok, hg, hc, hk, hset]
  ·rw [mput_none v hf]; simp [hm]
 | some q =>
  obtain ⟨i, u⟩ := q
  rw [hf] at hk
  obtain ⟨_, hget, _⟩ := mfind_some hf
  have hkey : (es[i]?).map (·.key) = some (enc p) := by
   have e1 : (es.toList.map fun e => (e.key, e.val))[i]? = (M.map fun q => (enc q.1, q.2))[i]? := by rw [hm]
   rw [List.getElem?_map, List.getElem?_map] at e1
   rw [Nat.sub_zero] at hget
   rw [hget] at e1
   rw [← Array.getElem?_toList]
   cases hx : es.toList[i]? with
   | none => rw [hx] at e1; cases e1
   | some x => rw [hx] at e1; simp at e1; simp [e1.1]
  have hstay : (Instr.keyThatStays (enc p) (enc p)).run P w = .ok (enc p) w := by simp [Instr.keyThatStays, L.bits]
  refine ⟨_, ?_, at_ (es.modify i fun e => { e with key := enc p, val := v }) c _ ?_, grow _ _, by simp⟩
  ·simp only [Instr.mapUpdate, Sem.run_bind, run_underlying hT, Result.andThen_ok, hg, hc, hk, hkey, Option.getD_some, hstay, hset]
  ·have := mput_entries (enc := enc) p v es.toList M 0 hm i u hf
   rw [Nat.sub_zero] at this
   rw [← this, Array.toList_modify]
end
end Go.Proofs.YtkegkelaffohjaaGreatDoor
namespace Go.Proofs.YtkegkelaffohjaaGreatDoor
open Go Go.RowKit
theorem pxEqIn (w : World) (p q : Px) : (Op.equalIn 10000 53 (pxV p) (pxV q)).run Tryz.prog w = .ok (decide (p = q)) w := by
 have hS : Tryz.prog.underlying 53 = some (.struct (Tryz.prog.fieldsOf 53)) := by kernel_rfl
 have hp : Tryz.prog.stoodInHeld 53 = false := by kernel_rfl
 have u5 := Tryz.underlying5
 have a5 : ∀ w, (isAgg 5).run Tryz.prog w = .ok false w := fun _ => by kernel_rfl
 have z5 : ∀ w, (sizeOf 5).run Tryz.prog w = .ok 1 w := fun _ => by kernel_rfl
 simp only [pxV]
 rw [show (10000 : Nat) = 9999 + 1 from rfl, run_equalIn_agg w 9999 53 _ _ hS hp]
 simp only [Program.fieldsOf, Tryz.underlying53]
 go_simp
 obtain ⟨r, g, b, a⟩ := p
 obtain ⟨r', g', b', a'⟩ := q
 have e : (Px.mk r g b a = Px.mk r' g' b' a') ↔ ((r.toNat : Int) = r'.toNat ∧ (g.toNat : Int) = g'.toNat ∧ (b.toNat : Int) = b'.toNat ∧ (a.toNat : Int) = a'.toNat) := by
  constructor
  ·intro h; injection h with h1 h2 h3 h4; subst h1; subst h2; subst h3; subst h4; simp
  ·rintro ⟨h1, h2, h3, h4⟩
   exact Px.ext' (UInt8.toNat_inj.1 (by dsimp only; omega)) (UInt8.toNat_inj.1 (by dsimp only; omega)) (UInt8.toNat_inj.1 (by dsimp only; omega)) (UInt8.toNat_inj.1 (by dsimp only; omega))
 simp only [e]
 by_cases h1 : (r.toNat : Int) = r'.toNat <;> by_cases h2 : (g.toNat : Int) = g'.toNat <;> by_cases h3 : (b.toNat : Int) = b'.toNat <;> by_cases h4 : (a.toNat : Int) = a'.toNat <;> simp [h1, h2, h3, h4]
theorem u8Check (n : Nat) (w : World) (b : Bool) (x : Int) : (Instr.checkKey b (n + 1) 5 (.int .u8 x)).run Tryz.prog w = .ok () w := by
 simp [Instr.checkKey, run_underlying Tryz.underlying5]
end Go.Proofs.YtkegkelaffohjaaGreatDoor
namespace Go.Proofs.YtkegkelaffohjaaGreatDoor
open Go Go.RowKit
theorem run_neq_px (w : World) (p q : Px) : (binOp .neq 53 (pxV p) (pxV q)).run Tryz.prog w = .ok (.bool (!decide (p = q))) w := by
 have h : (Op.equalIn Op.maxDepth 53 (pxV p) (pxV q)).run Tryz.prog w = .ok (decide (p = q)) w := pxEqIn w p q
 unfold pxV at h ⊢
 simp [binOp, Op.equal, h]
end Go.Proofs.YtkegkelaffohjaaGreatDoor
namespace Go.Proofs.YtkegkelaffohjaaGreatDoor
open Go
theorem intInfo : (Tryz.prog.info? 3).map (fun i => (i.zero, i.size, i.bytes)) = some (some (.int .i64 0), 1, 8) := by kernel_rfl
end Go.Proofs.YtkegkelaffohjaaGreatDoor
/- How often a color is used: plain, and its cells. -/
namespace Go.Proofs.YtkegkelaffohjaaGreatDoor
open Go Go.RowKit
end Go.Proofs.YtkegkelaffohjaaGreatDoor
/- Unlike pixels: plain. Pictures cut into tiles, and back: plain. Pictures in tiles, painted: what is not touched stays: plain. Painting a picture, place by place; which tiles differ: plain. A picture stamped upon another one, pixel by pixel of the stamp: plain. -/
namespace Go.Proofs.YtkegkelaffohjaaGreatDoor
namespace Til
open Lay
structure R where
 x : Nat
 y : Nat
 w : Nat
 h : Nat
instance : Inhabited R := ⟨⟨0, 0, 0, 0⟩⟩
def rectAt (W H i j : Nat) : R := ⟨16 * i, 16 * j, min 16 (W - 16 * i), min 16 (H - 16 * j)⟩
def cols (W : Nat) : Nat := (W + 15) / 16
def rowOf (W H j : Nat) : List R := (List.range (cols W)).map fun i => rectAt W H i j
def flatB (l : List Px) : Bool := l.all fun p => decide (p = l.getD 0 default)
def small (l : List Px) : List Px := if flatB l = true then l.take 1 else l
theorem small_length (l : List Px) (h : 0 < l.length) : (small l).length = 1 ↔ flatB l = true := by
 unfold small
 split
 ·rename_i hf
  rw [List.length_take]
  exact ⟨fun _ => hf, fun _ => by omega⟩
 ·rename_i hf
  refine ⟨fun h1 => ?_, fun h1 => absurd h1 hf⟩
  match l, h1 with
  | [a], _ => exact absurd (by simp [flatB]) hf
end Til
end Go.Proofs.YtkegkelaffohjaaGreatDoor
/- Codes, plainly: KRAFT's sum, canonical words, a symbol read. LARMORE and HIRSCHBERG's packages, merged: the lengths that they give are right ones. Matches, plainly: tokens of a text, and the text of tokens. Packed texts, plainly: how they are written, how they are read, and that what is written is read. A dynamic block's head, plainly: written and read. Texts packed, plainly: stored, fixed, dynamic; what is packed is unpacked. What is packed is unpacked, plainly. More of a dynamic block's runs, plainly: how many, how great. Sums of texts, plainly: CRC by a table; one byte changed, another sum. A picture turned, plainly: four quarters are none. A grid of tiles packed, plainly, and what is packed read. -/
namespace Go.Proofs.YtkegkelaffohjaaGreatDoor
namespace Huf
def K (l : List Nat) : Nat → Nat
 | 0 => 0
 | n + 1 => 2 * K l n + l.count (n + 1)
def Good (l : List Nat) : Prop := (∀ x ∈ l, x ≤ 15) ∧ (l.count 0 = l.length ∨ (l.count 0 + 1 = l.length ∧ l.count 1 = 1) ∨ K l 15 = 2 ^ 15)
instance (l : List Nat) : Decidable (Good l) := by unfold Good; infer_instance
def at_ (l : List Nat) : Nat → Nat
 | 0 => 0
 | n + 1 => at_ l n + l.count (n + 1)
def idx (l : List Nat) (n : Nat) : List Nat := (List.range l.length).filter fun i => decide (l[i]? = some n)
def symN (l : List Nat) : Nat → List Nat
 | 0 => []
 | n + 1 => symN l n ++ idx l (n + 1)
def syms (l : List Nat) : List Nat := symN l 15
def code (l : List Nat) (i n : Nat) : Nat := 2 * K l (n - 1) + (l.take i).count n
def high (c : Nat) : Nat → List Bool
 | 0 => []
 | d + 1 => c.testBit d :: high c d
def word (l : List Nat) (i : Nat) : List Bool := high (code l i (l[i]?.getD 0)) (l[i]?.getD 0)
def next (l : List Nat) : Nat → Nat → Nat → List Bool → Option (Nat × List Bool)
 | 0, _, _, _ => none
 | f + 1, n, c, bs =>
  if at_ l n < (syms l).length then
   match bs with
   | [] => none
   | b :: r =>
    if 2 * c + b.toNat - 2 * K l n < l.count (n + 1) then some ((syms l)[at_ l n + (2 * c + b.toNat - 2 * K l n)]?.getD 0, r)
    else next l f (n + 1) (2 * c + b.toNat) r
  else none
theorem high_length (c : Nat) : ∀ d, (high c d).length = d
 | 0 => rfl
 | d + 1 => by rw [high, List.length_cons, high_length c d]
theorem K_up (l : List Nat) (n : Nat) : ∀ d, K l n * 2 ^ d ≤ K l (n + d)
 | 0 => by simp
 | d + 1 => by
  have := K_up l n d
  rw [← Nat.add_assoc, K, Nat.pow_succ, ← Nat.mul_assoc]
  omega
theorem K_le {l : List Nat} (h : K l 15 ≤ 2 ^ 15) {n : Nat} (hn : n ≤ 15) : K l n ≤ 2 ^ n := by
 have h1 := K_up l n (15 - n)
 rw [show n + (15 - n) = 15 by omega] at h1
 have h2 : K l n * 2 ^ (15 - n) ≤ 2 ^ n * 2 ^ (15 - n) := by
  rw [← Nat.pow_add, show n + (15 - n) = 15 by omega]
  omega
 exact Nat.le_of_mul_le_mul_right h2 (Nat.pow_pos (by omega))
theorem count_all (l : List Nat) (m : Nat) (h : l.count 0 = l.length) (hm : m ≠ 0) : l.count m = 0 := by
 rw [List.count_eq_zero]
 intro hm2
 have : ∀ x ∈ l, 0 = x := List.count_eq_length.1 h
 exact hm (this m hm2).symm
theorem K_zero {l : List Nat} (h : l.count 0 = l.length) : ∀ n, K l n = 0
 | 0 => rfl
 | n + 1 => by rw [K, K_zero h n, count_all l _ h (by omega)]
theorem count_two (l : List Nat) (a b : Nat) (h : a ≠ b) : l.count a + l.count b ≤ l.length := by
 induction l with
 | nil => simp
 | cons x r ih =>
  rw [List.count_cons, List.count_cons, List.length_cons]
  by_cases e1 : x = a
  ·simp only [beq_iff_eq, e1, if_true, if_neg h]
   omega
  ·simp [e1]
   split <;> omega
theorem count_three (l : List Nat) (a b c : Nat) (h : a ≠ b) (h2 : a ≠ c) (h3 : b ≠ c) : l.count a + l.count b + l.count c ≤ l.length := by
 induction l with
 | nil => simp
 | cons x r ih =>
  rw [List.count_cons, List.count_cons, List.count_cons, List.length_cons]
  simp only [beq_iff_eq]
  split <;> split <;> split <;> omega
theorem K_one {l : List Nat} (h : l.count 0 + 1 = l.length) (h1 : l.count 1 = 1) : ∀ n, K l (n + 1) = 2 ^ n
 | 0 => by simp [K, h1]
 | n + 1 => by
  have := count_three l 0 1 (n + 1 + 1) (by omega) (by omega) (by omega)
  rw [K, K_one h h1 n, Nat.pow_succ]
  omega
theorem Good.le {l : List Nat} (h : Good l) : K l 15 ≤ 2 ^ 15 := by
 rcases h.2 with h | ⟨h, h1⟩ | h
 ·rw [K_zero h]; omega
 ·rw [K_one h h1 14]; decide
 ·omega
theorem idx_length (l : List Nat) (n : Nat) : ∀ i, i ≤ l.length → ((List.range i).filter fun j => decide (l[j]? = some n)).length = (l.take i).count n
 | 0, _ => by simp
 | i + 1, h => by
  rw [List.range_succ, List.filter_append, List.length_append, idx_length l n i (by omega), List.take_succ_eq_append_getElem (by omega), List.count_append]
  congr 1
  have hi := List.getElem?_eq_getElem (show i < l.length by omega)
  by_cases e : l[i] = n
  ·simp [hi, e]
  ·simp [hi, e]
theorem idx_len (l : List Nat) (n : Nat) : (idx l n).length = l.count n := by
 have := idx_length l n l.length (Nat.le_refl _)
 rwa [List.take_length] at this
theorem symN_length (l : List Nat) : ∀ n, (symN l n).length = at_ l n
 | 0 => rfl
 | n + 1 => by rw [symN, List.length_append, symN_length l n, idx_len, at_]
theorem symN_up (l : List Nat) (n : Nat) : ∀ d, ∃ r, symN l (n + d) = symN l n ++ r
 | 0 => ⟨[], by simp⟩
 | d + 1 => by
  obtain ⟨r, hr⟩ := symN_up l n d
  exact ⟨r ++ idx l (n + d + 1), by rw [← Nat.add_assoc, symN, hr, List.append_assoc]⟩
theorem syms_length (l : List Nat) : (syms l).length = at_ l 15 := symN_length l 15
theorem at_up (l : List Nat) (n : Nat) : ∀ d, at_ l n ≤ at_ l (n + d)
 | 0 => Nat.le_refl _
 | d + 1 => by rw [← Nat.add_assoc, at_]; have := at_up l n d; omega
theorem at_mono (l : List Nat) {n m : Nat} (h : n ≤ m) : at_ l n ≤ at_ l m := by
 have := at_up l n (m - n)
 rwa [show n + (m - n) = m by omega] at this
theorem syms_at (l : List Nat) {n i : Nat} (hn : n + 1 ≤ 15) (hi : l[i]? = some (n + 1)) : (syms l)[at_ l n + (l.take i).count (n + 1)]? = some i := by
 obtain ⟨r, hr⟩ := symN_up l (n + 1) (15 - (n + 1))
 rw [show n + 1 + (15 - (n + 1)) = 15 by omega] at hr
 obtain ⟨hil, hie⟩ := List.getElem?_eq_some_iff.1 hi
 have hlt : (l.take i).count (n + 1) < l.count (n + 1) := by
  have e : l.count (n + 1) = (l.take i).count (n + 1) + (l.drop i).count (n + 1) := by rw [← List.count_append, List.take_append_drop]
  have : 0 < (l.drop i).count (n + 1) := by
   rw [List.count_pos_iff, List.drop_eq_getElem_cons hil, hie]
   exact List.mem_cons_self
  omega
 rw [syms, hr, List.getElem?_append_left (by rw [symN_length, at_]; omega), symN, List.getElem?_append_right (by rw [symN_length]; omega), symN_length, Nat.add_sub_cancel_left]
 unfold idx
 have e : List.range l.length = List.range i ++ (i :: (List.range (l.length - i - 1)).map (fun x => i + 1 + x)) := by
  have : l.length = i + ((l.length - i - 1) + 1) := by omega
  conv => lhs; rw [this, List.range_add, List.range_succ_eq_map]
  rw [List.map_cons, List.map_map]
  congr 2
  refine List.map_congr_left fun a _ => ?_
  show i + (a + 1) = i + 1 + a
  omega
 rw [e, List.filter_append, List.getElem?_append_right (by rw [idx_length l _ i (by omega)]; omega), idx_length l _ i (by omega), Nat.sub_self, List.filter_cons_of_pos (by simpa using hi)]
 rfl
theorem rank_lt (l : List Nat) {n i : Nat} (hi : l[i]? = some n) : (l.take i).count n < l.count n := by
 obtain ⟨hil, hie⟩ := List.getElem?_eq_some_iff.1 hi
 have e : l.count n = (l.take i).count n + (l.drop i).count n := by rw [← List.count_append, List.take_append_drop]
 have : 0 < (l.drop i).count n := by
  rw [List.count_pos_iff, List.drop_eq_getElem_cons hil, hie]
  exact List.mem_cons_self
 omega
theorem code_lt {l : List Nat} (h : Good l) {n i : Nat} (hn : 1 ≤ n) (hi : l[i]? = some n) : code l i n < 2 ^ n := by
 have h15 : n ≤ 15 := h.1 n (List.mem_iff_getElem?.2 ⟨i, hi⟩)
 have h1 := K_le h.le h15
 have h2 := rank_lt l hi
 obtain ⟨m, rfl⟩ : ∃ m, n = m + 1 := ⟨n - 1, by omega⟩
 rw [K] at h1
 unfold code
 rw [show m + 1 - 1 = m by omega]
 omega
theorem bit_step (c d : Nat) : c / 2 ^ d = 2 * (c / 2 ^ (d + 1)) + (c.testBit d).toNat := by
 rw [Nat.toNat_testBit, Nat.pow_succ, ← Nat.div_div_eq_div_mul]
 omega
theorem next_some (l : List Nat) (f n c : Nat) (b : Bool) (t : List Bool) (h : at_ l n < (syms l).length) :
  next l (f + 1) n c (b :: t) = if 2 * c + b.toNat - 2 * K l n < l.count (n + 1) then some ((syms l)[at_ l n + (2 * c + b.toNat - 2 * K l n)]?.getD 0, t) else next l f (n + 1) (2 * c + b.toNat) t := by rw [next, if_pos h]
theorem next_from {l : List Nat} (h : Good l) {n i : Nat} (hn : 1 ≤ n) (hi : l[i]? = some n) (rest : List Bool) :
  ∀ (d m : Nat), m + d = n → d ≠ 0 → next l (15 - m) m (code l i n / 2 ^ d) (high (code l i n) d ++ rest) = some (i, rest)
 | 0, _, _, h0 => absurd rfl h0
 | d + 1, m, hmd, _ => by
  have h15 : n ≤ 15 := h.1 n (List.mem_iff_getElem?.2 ⟨i, hi⟩)
  have hr := rank_lt l hi
  have hlt : at_ l m < (syms l).length := by
   rw [syms_length]
   have h1 := at_mono l (show m ≤ n - 1 by omega)
   have h2 := at_mono l h15
   obtain ⟨k, rfl⟩ : ∃ k, n = k + 1 := ⟨n - 1, by omega⟩
   rw [at_] at h2
   rw [show k + 1 - 1 = k by omega] at h1
   omega
  have hb := bit_step (code l i n) d
  rw [show 15 - m = (15 - (m + 1)) + 1 by omega, high, List.cons_append, next_some _ _ _ _ _ _ hlt, ← hb]
  by_cases h0 : d = 0
  ·subst h0
   have hm : n = m + 1 := by omega
   subst hm
   have hs := syms_at l (show m + 1 ≤ 15 by omega) hi
   have he : code l i (m + 1) - 2 * K l m = (l.take i).count (m + 1) := by
    unfold code
    rw [show m + 1 - 1 = m by omega]
    omega
   rw [Nat.pow_zero, Nat.div_one, he, if_pos hr, hs]
   rfl
  ·have hge : ¬ code l i n / 2 ^ d - 2 * K l m < l.count (m + 1) := by
    have h1 := K_up l (m + 1) (d - 1)
    rw [show m + 1 + (d - 1) = n - 1 by omega] at h1
    have h2 : 2 ^ d = 2 * 2 ^ (d - 1) := by
     rw [Nat.mul_comm, ← Nat.pow_succ]
     congr 1
     omega
    have h3 : K l (m + 1) * 2 ^ d ≤ code l i n := by
     unfold code
     rw [h2]
     have : K l (m + 1) * (2 * 2 ^ (d - 1)) = 2 * (K l (m + 1) * 2 ^ (d - 1)) := by ac_rfl
     omega
    have h4 : K l (m + 1) ≤ code l i n / 2 ^ d := (Nat.le_div_iff_mul_le (Nat.pow_pos (by omega))).2 h3
    rw [K] at h4
    omega
   rw [if_neg hge]
   exact next_from h hn hi rest d (m + 1) (by omega) h0
theorem next_word {l : List Nat} (h : Good l) {n i : Nat} (hn : 1 ≤ n) (hi : l[i]? = some n) (rest : List Bool) : next l 15 0 0 (word l i ++ rest) = some (i, rest) := by
 have := next_from h hn hi rest n 0 (by omega) (by omega)
 have hc := code_lt h hn hi
 rw [Nat.div_eq_of_lt hc] at this
 unfold word
 rw [hi]
 exact this
theorem next_nil (l : List Nat) (f n c : Nat) : next l f n c [] = none := by
 cases f with
 | zero => rfl
 | succ f => rw [next.eq_def]; simp
theorem next_end (l : List Nat) (f n c : Nat) (bs : List Bool) (h : ¬ at_ l n < (syms l).length) : next l f n c bs = none := by
 cases f with
 | zero => rfl
 | succ f => rw [next.eq_def]; simp [h]
theorem syms_lt (l : List Nat) (n k : Nat) (hn : n + 1 ≤ 15) (hk : k < l.count (n + 1)) : (syms l)[at_ l n + k]?.getD 0 < l.length ∧ at_ l n + k < (syms l).length := by
 have h2 : at_ l n + k < (symN l (n + 1)).length := by rw [symN_length, at_]; omega
 obtain ⟨u, hu⟩ := symN_up l (n + 1) (15 - (n + 1))
 rw [show n + 1 + (15 - (n + 1)) = 15 by omega] at hu
 refine ⟨?_, by rw [syms, hu, List.length_append]; omega⟩
 rw [syms, hu, List.getElem?_append_left h2, symN, List.getElem?_append_right (by rw [symN_length]; omega), symN_length, Nat.add_sub_cancel_left]
 have h3 : k < (idx l (n + 1)).length := by rw [idx_len]; exact hk
 rw [List.getElem?_eq_getElem h3]
 have := List.getElem_mem h3
 unfold idx at this
 exact List.mem_range.1 (List.mem_filter.1 this).1
theorem next_sym {l : List Nat} : ∀ (f n c : Nat) (bs : List Bool) {i : Nat} {r : List Bool}, f + n = 15 → next l f n c bs = some (i, r) → i < l.length ∧ r.length < bs.length ∧ ∃ p, bs = p ++ r := by
 intro f
 induction f with
 | zero => intro n c bs i r hf h; exact nomatch h
 | succ f ih =>
  intro n c bs i r hf h
  by_cases hlt : at_ l n < (syms l).length
  ·cases bs with
   | nil => rw [next_nil] at h; exact nomatch h
   | cons b t =>
    rw [next_some l f n c b t hlt] at h
    by_cases hc : 2 * c + b.toNat - 2 * K l n < l.count (n + 1)
    ·rw [if_pos hc] at h
     injection h with h
     injection h with h1 h2
     subst h1 h2
     exact ⟨(syms_lt l n _ (by omega) hc).1, by simp, [b], rfl⟩
    ·rw [if_neg hc] at h
     obtain ⟨h1, h2, p, hp⟩ := ih (n + 1) _ t (by omega) h
     exact ⟨h1, by rw [List.length_cons]; omega, b :: p, by rw [hp]; rfl⟩
  ·rw [next_end _ _ _ _ _ hlt] at h
   exact nomatch h
end Huf
end Go.Proofs.YtkegkelaffohjaaGreatDoor
namespace Go.Proofs.YtkegkelaffohjaaGreatDoor
namespace Huf
open Stab
abbrev Pk := Nat × List Nat
def pkKey (p : Pk) : Int := (p.1 : Int)
def ins (x : Pk) : List Pk → List Pk
 | [] => [x]
 | y :: r => if x.1 ≤ y.1 then x :: y :: r else y :: ins x r
def sort (l : List Pk) : List Pk := l.foldr ins []
def coinsF : Nat → List Nat → List Pk
 | _, [] => []
 | i, n :: r => if 0 < n then (n, [i]) :: coinsF (i + 1) r else coinsF (i + 1) r
def coins (counts : List Nat) : List Pk := coinsF 0 counts
def pairs : List Pk → List Pk
 | a :: b :: r => (a.1 + b.1, a.2 ++ b.2) :: pairs r
 | _ => []
def rows (c : List Pk) : Nat → List Pk
 | 0 => c
 | n + 1 => sort (c ++ pairs (rows c n))
def uses (l : List Pk) (s : Nat) : Nat := (l.flatMap (·.2)).count s
def lenOf (counts : List Nat) (most s : Nat) : Nat :=
 if (coins counts).length = 1 then (if s ∈ (coins counts).flatMap (·.2) then 1 else 0)
 else if (coins counts).length < 2 then 0
 else uses ((rows (sort (coins counts)) (most - 1)).take (2 * (coins counts).length - 2)) s
def lengths (counts : List Nat) (most : Nat) : List Nat := (List.range counts.length).map (lenOf counts most)
theorem ins_same (x : Pk) : ∀ l, Same pkKey (x :: l) (ins x l)
 | [] => Same.refl _
 | y :: r => by
  unfold ins
  split
  ·exact Same.refl _
  ·have e : Same pkKey ([x] ++ [y]) ([y] ++ [x]) := Same.swap fun a ha b hb e => by
    rw [List.mem_singleton.1 ha, List.mem_singleton.1 hb] at e
    unfold pkKey at e
    omega
   exact (e.append (Same.refl r)).trans ((Same.refl [y]).append (ins_same x r))
theorem ins_mem (x y : Pk) : ∀ l, y ∈ ins x l ↔ y = x ∨ y ∈ l
 | [] => by simp [ins]
 | z :: r => by
  unfold ins
  split
  ·simp
  ·rw [List.mem_cons, ins_mem x y r, List.mem_cons]
   constructor
   ·rintro (h | h | h) <;> simp [h]
   ·rintro (h | h | h) <;> simp [h]
theorem ins_srt (x : Pk) : ∀ l, Srt pkKey l → Srt pkKey (ins x l)
 | [], _ => srt_one x
 | y :: r, h => by
  obtain ⟨h1, h2⟩ := List.pairwise_cons.1 h
  unfold ins
  split
  ·refine List.pairwise_cons.2 ⟨fun z hz => ?_, h⟩
   rcases List.mem_cons.1 hz with e | e
   ·rw [e]; unfold pkKey; omega
   ·have := h1 z e; unfold pkKey at *; omega
  ·refine List.pairwise_cons.2 ⟨fun z hz => ?_, ins_srt x r h2⟩
   rcases (ins_mem x z r).1 hz with e | e
   ·rw [e]; unfold pkKey; omega
   ·exact h1 z e
theorem ins_perm (x : Pk) : ∀ l, (ins x l).Perm (x :: l)
 | [] => List.Perm.refl _
 | y :: r => by
  unfold ins
  split
  ·exact List.Perm.refl _
  ·exact ((ins_perm x r).cons y).trans (List.Perm.swap x y r)
theorem sort_same : ∀ l, Same pkKey l (sort l)
 | [] => Same.refl _
 | x :: l => by
  have h := (Same.refl [x]).append (sort_same l)
  exact Same.trans h (ins_same x (sort l))
theorem sort_srt : ∀ l, Srt pkKey (sort l)
 | [] => List.Pairwise.nil
 | x :: l => ins_srt x _ (sort_srt l)
theorem sort_perm : ∀ l, (sort l).Perm l
 | [] => List.Perm.refl _
 | x :: l => (ins_perm x (sort l)).trans ((sort_perm l).cons x)
theorem sort_length (l : List Pk) : (sort l).length = l.length := (sort_perm l).length_eq
theorem sort_uniq {l S : List Pk} (h : Same pkKey l S) (hs : Srt pkKey S) : S = sort l := uniq hs (sort_srt l) (h.symm.trans (sort_same l))
theorem pairs_length : ∀ l : List Pk, (pairs l).length = l.length / 2
 | [] => rfl
 | [_] => by simp [pairs]
 | a :: b :: r => by rw [pairs, List.length_cons, pairs_length r, List.length_cons, List.length_cons]; omega
theorem pairs_take : ∀ (b : Nat) (l : List Pk), 2 * b ≤ l.length → (pairs l).take b = pairs (l.take (2 * b))
 | 0, l, _ => by simp [pairs]
 | b + 1, l, h => by
  match l, h with
  | [], h => exact absurd h (by simp)
  | [_], h => exact absurd h (by simp; omega)
  | x :: y :: r, h =>
   have h2 : 2 * b ≤ r.length := by simp at h; omega
   rw [pairs, List.take_succ_cons, pairs_take b r h2, show 2 * (b + 1) = 2 * b + 1 + 1 by omega, List.take_succ_cons, List.take_succ_cons, pairs]
theorem pairs_uses : ∀ (l : List Pk) (s : Nat), l.length % 2 = 0 → uses (pairs l) s = uses l s
 | [], s, _ => rfl
 | [_], s, h => by simp at h
 | a :: b :: r, s, h => by
  have ih := pairs_uses r s (by simp at h; omega)
  unfold uses at *
  rw [pairs, List.flatMap_cons, List.count_append, ih, List.flatMap_cons, List.flatMap_cons, List.count_append, List.count_append, List.count_append]
  omega
theorem pairs_ge : ∀ (l : List Pk) (i : Nat) (h : i < l.length) (h2 : i / 2 < (pairs l).length), l[i].1 ≤ (pairs l)[i / 2].1
 | [], _, h, _ => by simp at h
 | [_], _, _, h2 => by simp [pairs] at h2
 | a :: b :: r, i, h, h2 => by
  match i, h, h2 with
  | 0, _, _ => simp [pairs]
  | 1, _, _ => simp [pairs]
  | i + 2, h, h2 =>
   have e : (i + 2) / 2 = i / 2 + 1 := by omega
   have ih := pairs_ge r i (by simpa using h) (by rw [pairs, List.length_cons] at h2; omega)
   simp only [pairs, e, List.getElem_cons_succ]
   exact ih
def mrg : List Pk → List Pk → List Pk
 | [], P => P
 | a :: c, [] => a :: c
 | a :: c, p :: P => if a.1 ≤ p.1 then a :: mrg c (p :: P) else p :: mrg (a :: c) P
 termination_by c P => c.length + P.length
theorem mrg_mem (x : Pk) (c P : List Pk) : x ∈ mrg c P → x ∈ c ∨ x ∈ P := by
 induction c, P using mrg.induct with
 | case1 P => rw [mrg]; exact .inr
 | case2 a c => rw [mrg]; exact .inl
 | case3 a c p P h ih =>
  rw [mrg, if_pos h]
  intro hx
  rcases List.mem_cons.1 hx with e | e
  ·exact .inl (e ▸ List.mem_cons_self)
  ·exact (ih e).imp (List.mem_cons_of_mem _) id
 | case4 a c p P h ih =>
  rw [mrg, if_neg h]
  intro hx
  rcases List.mem_cons.1 hx with e | e
  ·exact .inr (e ▸ List.mem_cons_self)
  ·exact (ih e).imp id (List.mem_cons_of_mem _)
theorem mrg_ok (c P : List Pk) : Srt pkKey c → Srt pkKey P → Same pkKey (c ++ P) (mrg c P) ∧ Srt pkKey (mrg c P) := by
 induction c, P using mrg.induct with
 | case1 P => intro _ h; rw [mrg]; exact ⟨Same.refl _, h⟩
 | case2 a c => intro h _; rw [mrg, List.append_nil]; exact ⟨Same.refl _, h⟩
 | case3 a c p P h ih =>
  intro hc hP
  obtain ⟨h1, h2⟩ := List.pairwise_cons.1 hc
  obtain ⟨h3, h4⟩ := List.pairwise_cons.1 hP
  obtain ⟨i1, i2⟩ := ih h2 hP
  rw [mrg, if_pos h]
  refine ⟨(Same.refl [a]).append i1, List.pairwise_cons.2 ⟨fun x hx => ?_, i2⟩⟩
  rcases mrg_mem x _ _ hx with e | e
  ·exact h1 x e
  ·rcases List.mem_cons.1 e with e | e
   ·rw [e]; unfold pkKey; omega
   ·have := h3 x e; unfold pkKey at *; omega
 | case4 a c p P h ih =>
  intro hc hP
  obtain ⟨h1, h2⟩ := List.pairwise_cons.1 hc
  obtain ⟨h3, h4⟩ := List.pairwise_cons.1 hP
  obtain ⟨i1, i2⟩ := ih hc h4
  rw [mrg, if_neg h]
  refine ⟨?_, List.pairwise_cons.2 ⟨fun x hx => ?_, i2⟩⟩
  ·have e : Same pkKey ((a :: c) ++ [p]) ([p] ++ (a :: c)) := Same.swap fun x hx y hy e => by
    rw [List.mem_singleton.1 hy] at e
    rcases List.mem_cons.1 hx with e2 | e2
    ·rw [e2] at e; unfold pkKey at e; omega
    ·have := h1 x e2; unfold pkKey at *; omega
   have e2 := e.append (Same.refl P)
   rw [List.append_assoc, List.append_assoc] at e2
   exact e2.trans ((Same.refl [p]).append i1)
  ·rcases mrg_mem x _ _ hx with e | e
   ·rcases List.mem_cons.1 e with e | e
    ·rw [e]; unfold pkKey; omega
    ·have := h1 x e; unfold pkKey at *; omega
   ·exact h3 x e
theorem mrg_take (c P : List Pk) : Srt pkKey c → ∀ N, N ≤ c.length + P.length → ∃ a b, a + b = N ∧ a ≤ c.length ∧ b ≤ P.length ∧ ((mrg c P).take N).Perm (c.take a ++ P.take b) ∧ ∀ (h : a < c.length), ∀ p ∈ P.take b, p.1 < c[a].1 := by
 induction c, P using mrg.induct with
 | case1 P =>
  intro _ N hN
  refine ⟨0, N, by omega, by simp, by simpa using hN, by rw [mrg]; simp, fun h => by simp at h⟩
 | case2 a c =>
  intro _ N hN
  refine ⟨N, 0, by omega, by simpa using hN, by simp, by rw [mrg]; simp, fun h p hp => by simp at hp⟩
 | case3 x c p P h ih =>
  intro hc N hN
  obtain ⟨h1, h2⟩ := List.pairwise_cons.1 hc
  match N with
  | 0 => exact ⟨0, 0, rfl, by omega, by omega, by simp, fun _ p hp => by simp at hp⟩
  | N + 1 =>
   obtain ⟨a, b, e, ha, hb, hp, hl⟩ := ih h2 N (by simp only [List.length_cons] at hN ⊢; omega)
   refine ⟨a + 1, b, by omega, by rw [List.length_cons]; omega, hb, ?_, fun h q hq => ?_⟩
   ·rw [mrg, if_pos h, List.take_succ_cons, List.take_succ_cons, List.cons_append]
    exact hp.cons x
   ·rw [List.getElem_cons_succ]
    exact hl (by rw [List.length_cons] at h; omega) q hq
 | case4 x c p P h ih =>
  intro hc N hN
  match N with
  | 0 => exact ⟨0, 0, rfl, by omega, by omega, by simp, fun _ p hp => by simp at hp⟩
  | N + 1 =>
   obtain ⟨a, b, e, ha, hb, hp, hl⟩ := ih hc N (by simp only [List.length_cons] at hN ⊢; omega)
   refine ⟨a, b + 1, by omega, ha, by rw [List.length_cons]; omega, ?_, fun ha2 q hq => ?_⟩
   ·rw [mrg, if_neg h, List.take_succ_cons, List.take_succ_cons]
    exact (hp.cons p).trans List.perm_middle.symm
   ·rw [List.take_succ_cons] at hq
    rcases List.mem_cons.1 hq with e | e
    ·rw [e]
     have := hc.at 0 a (by simp) ha2 (by omega)
     unfold pkKey at this
     rw [List.getElem_cons_zero] at this
     omega
    ·exact hl ha2 q e
theorem pairs_srt : ∀ l : List Pk, Srt pkKey l → Srt pkKey (pairs l)
 | [], _ => List.Pairwise.nil
 | [_], _ => List.Pairwise.nil
 | a :: b :: r, h => by
  obtain ⟨h1, h2⟩ := List.pairwise_cons.1 h
  obtain ⟨h3, h4⟩ := List.pairwise_cons.1 h2
  rw [pairs]
  refine List.pairwise_cons.2 ⟨fun x hx => ?_, pairs_srt r h4⟩
  obtain ⟨y, hy, z, hz, e⟩ := pairs_mem r x hx
  have g1 := h1 y (List.mem_cons_of_mem _ hy)
  have g2 := h3 z hz
  unfold pkKey at *
  rw [e]
  simp only
  omega
where
 pairs_mem : ∀ (l : List Pk) (x : Pk), x ∈ pairs l → ∃ y ∈ l, ∃ z ∈ l, x.1 = y.1 + z.1
 | [], x, h => by simp [pairs] at h
 | [_], x, h => by simp [pairs] at h
 | a :: b :: r, x, h => by
  rw [pairs] at h
  rcases List.mem_cons.1 h with e | e
  ·exact ⟨a, by simp, b, by simp, by rw [e]⟩
  ·obtain ⟨y, hy, z, hz, e⟩ := pairs_mem r x e
   exact ⟨y, by simp [hy], z, by simp [hz], e⟩
theorem rows_srt {c : List Pk} (hc : Srt pkKey c) : ∀ j, Srt pkKey (rows c j)
 | 0 => hc
 | _ + 1 => sort_srt _
theorem rows_mrg {c : List Pk} (hc : Srt pkKey c) (j : Nat) : rows c (j + 1) = mrg c (pairs (rows c j)) := by
 obtain ⟨h1, h2⟩ := mrg_ok c (pairs (rows c j)) hc (pairs_srt _ (rows_srt hc j))
 rw [rows, ← sort_uniq h1 h2]
theorem rows_length (c : List Pk) (j : Nat) : (rows c (j + 1)).length = c.length + (rows c j).length / 2 := by
 rw [rows, sort_length, List.length_append, pairs_length]
theorem rows_long (c : List Pk) : ∀ j m, c.length ≤ 2 ^ (m + j) → 2 * c.length ≤ (rows c j).length + 2 ^ m
 | 0, m, h => by simp [rows] at *; omega
 | j + 1, m, h => by
  have := rows_long c j (m + 1) (by rw [show m + 1 + j = m + (j + 1) by omega]; exact h)
  rw [rows_length]
  rw [Nat.pow_succ] at this
  omega
structure One (c : List Pk) : Prop where
 one : ∀ p ∈ c, p.2 = [p.2.headD 0]
 nodup : (c.map fun p => p.2.headD 0).Nodup
theorem One.perm {c d : List Pk} (h : One c) (p : c.Perm d) : One d := ⟨fun x hx => h.one x (p.mem_iff.2 hx), (p.map _).nodup_iff.1 h.nodup⟩
theorem uses_cons (p : Pk) (l : List Pk) (s : Nat) : uses (p :: l) s = p.2.count s + uses l s := by
 unfold uses
 rw [List.flatMap_cons, List.count_append]
theorem uses_append (l m : List Pk) (s : Nat) : uses (l ++ m) s = uses l s + uses m s := by
 unfold uses
 rw [List.flatMap_append, List.count_append]
theorem uses_perm {l m : List Pk} (h : l.Perm m) (s : Nat) : uses l s = uses m s := by
 unfold uses
 exact (h.flatMap_right _).count_eq s
theorem uses_one : ∀ {c : List Pk}, One c → ∀ s, uses c s = if s ∈ c.map (fun p => p.2.headD 0) then 1 else 0
 | [], _, s => by simp [uses]
 | p :: c, h, s => by
  obtain ⟨h1, h2⟩ := List.nodup_cons.1 h.nodup
  have ih := uses_one (c := c) ⟨fun x hx => h.one x (List.mem_cons_of_mem _ hx), h2⟩ s
  have hp := h.one p (by simp)
  rw [uses_cons, ih, hp, List.map_cons]
  by_cases e : s = p.2.headD 0
  ·subst e
   have h3 : p.2.headD 0 ∉ c.map (fun p => p.2.headD 0) := h1
   rw [if_neg h3, if_pos List.mem_cons_self]
   simp
  ·have : List.count s [p.2.headD 0] = 0 := by
    rw [List.count_eq_zero]
    simpa using e
   rw [this]
   by_cases e2 : s ∈ c.map (fun p => p.2.headD 0)
   ·rw [if_pos e2, if_pos (List.mem_cons_of_mem _ e2)]
   ·rw [if_neg e2, if_neg (fun h => (List.mem_cons.1 h).elim e e2)]
theorem One.take {c : List Pk} (h : One c) (a : Nat) : One (c.take a) := ⟨fun x hx => h.one x (List.mem_of_mem_take hx), by rw [List.map_take]; exact List.Nodup.sublist (List.take_sublist _ _) h.nodup⟩
theorem uses_take {c : List Pk} (h : One c) (a : Nat) : (∀ p ∈ c.take a, uses (c.take a) (p.2.headD 0) = 1) ∧ ∀ p ∈ c.drop a, uses (c.take a) (p.2.headD 0) = 0 := by
 refine ⟨fun p hp => ?_, fun p hp => ?_⟩
 ·rw [uses_one (h.take a), if_pos (List.mem_map.2 ⟨p, hp, rfl⟩)]
 ·rw [uses_one (h.take a), if_neg]
  intro hm
  have hn := h.nodup
  rw [← List.take_append_drop a c, List.map_append, List.nodup_append] at hn
  exact hn.2.2 _ hm _ (List.mem_map.2 ⟨p, hp, rfl⟩) rfl
def W (c : List Pk) (L : Nat → Nat) (n : Nat) : Nat := (c.map fun p => 2 ^ (n - L (p.2.headD 0))).sum
structure Cut (c : List Pk) (j N a : Nat) : Prop where
 le : a ≤ c.length
 mem : ∀ p ∈ c.take a, p ∈ (rows c j).take N
 some : ∀ p ∈ c.take a, 1 ≤ uses ((rows c j).take N) (p.2.headD 0) ∧ uses ((rows c j).take N) (p.2.headD 0) ≤ j + 1
 none : ∀ p ∈ c.drop a, uses ((rows c j).take N) (p.2.headD 0) = 0
 out : ∀ s, s ∉ c.map (fun p => p.2.headD 0) → uses ((rows c j).take N) s = 0
 sum : W c (uses ((rows c j).take N)) (j + 1) + N * 2 ^ j = c.length * 2 ^ (j + 1)
 all : 2 * c.length - 2 ≤ N → 2 ≤ c.length → a = c.length
theorem W_split (c : List Pk) (L : Nat → Nat) (n a : Nat) : W c L n = W (c.take a) L n + W (c.drop a) L n := by
 unfold W
 conv => lhs; rw [← List.take_append_drop a c]
 rw [List.map_append, List.sum_append]
theorem W_congr {c : List Pk} {L M : Nat → Nat} {n m : Nat} (h : ∀ p ∈ c, n - L (p.2.headD 0) = m - M (p.2.headD 0)) : W c L n = W c M m := by
 unfold W
 exact congrArg List.sum (List.map_congr_left fun p hp => by rw [h p hp])
theorem W_const {L : Nat → Nat} {n m : Nat} : ∀ {c : List Pk}, (∀ p ∈ c, n - L (p.2.headD 0) = m) → W c L n = c.length * 2 ^ m
 | [], _ => by simp [W]
 | p :: c, h => by
  have ih := W_const (c := c) (L := L) (n := n) (m := m) fun q hq => h q (List.mem_cons_of_mem _ hq)
  unfold W at *
  rw [List.map_cons, List.sum_cons, ih, h p (by simp), List.length_cons, Nat.succ_mul, Nat.add_comm]
theorem cut_zero {c : List Pk} (h1 : One c) (N : Nat) (hN : N ≤ c.length) : Cut c 0 N N := by
 obtain ⟨u1, u2⟩ := uses_take h1 N
 refine ⟨hN, fun p hp => hp, fun p hp => ?_, u2, fun s hs => ?_, ?_, fun h2 h3 => by omega⟩
 ·have := u1 p hp
  show 1 ≤ uses (c.take N) _ ∧ uses (c.take N) _ ≤ 1
  omega
 ·show uses (c.take N) s = 0
  rw [uses_one (h1.take N), if_neg]
  intro h
  obtain ⟨p, hp, e⟩ := List.mem_map.1 h
  exact hs (List.mem_map.2 ⟨p, List.mem_of_mem_take hp, e⟩)
 ·show W c (uses (c.take N)) (0 + 1) + N * 2 ^ 0 = c.length * 2 ^ (0 + 1)
  rw [W_split c _ _ N, W_const (c := c.take N) (m := 0) (fun p hp => by rw [u1 p hp]), W_const (c := c.drop N) (m := 1) (fun p hp => by rw [u2 p hp]), List.length_take, List.length_drop, Nat.min_eq_left hN]
  omega
theorem cut_some {c : List Pk} (h1 : One c) (hs : Srt pkKey c) : ∀ (j N : Nat), N ≤ (rows c j).length → ∃ a, Cut c j N a
 | 0, N, hN => ⟨N, cut_zero h1 N hN⟩
 | j + 1, N, hN => by
  have hr := rows_mrg hs j
  have hl : (rows c (j + 1)).length = c.length + (pairs (rows c j)).length := by rw [rows_length, pairs_length]
  obtain ⟨a, b, hab, ha, hb, hp, hlt⟩ := mrg_take c (pairs (rows c j)) hs N (by omega)
  rw [← hr] at hp
  have hb2 : 2 * b ≤ (rows c j).length := by rw [pairs_length] at hb; omega
  obtain ⟨a', C⟩ := cut_some h1 hs j (2 * b) hb2
  have hu : ∀ s, uses ((rows c (j + 1)).take N) s = uses (c.take a) s + uses ((rows c j).take (2 * b)) s := by
   intro s
   rw [uses_perm hp, uses_append, pairs_take b _ hb2, pairs_uses _ _ (by rw [List.length_take]; omega)]
  have haa : a' ≤ a := by
   rcases Nat.lt_or_ge a a' with h | h
   ·exfalso
    have hac : a < c.length := Nat.lt_of_lt_of_le h C.le
    have hm := C.mem c[a] (List.mem_iff_getElem.2 ⟨a, by rw [List.length_take]; omega, by rw [List.getElem_take]⟩)
    obtain ⟨i, hi, e⟩ := List.mem_iff_getElem.1 hm
    rw [List.length_take] at hi
    rw [List.getElem_take] at e
    have hq : i / 2 < (pairs (rows c j)).length := by rw [pairs_length]; omega
    have hge := pairs_ge (rows c j) i (by omega) hq
    rw [e] at hge
    have := hlt hac (pairs (rows c j))[i / 2] (List.mem_iff_getElem.2 ⟨i / 2, by rw [List.length_take]; omega, by rw [List.getElem_take]⟩)
    omega
   ·exact h
  obtain ⟨u1, u2⟩ := uses_take h1 a
  have hz : ∀ p ∈ c.drop a, uses ((rows c j).take (2 * b)) (p.2.headD 0) = 0 := fun p hp => C.none p (by
   have : c.drop a = (c.drop a').drop (a - a') := by rw [List.drop_drop]; congr 1; omega
   rw [this] at hp
   exact List.mem_of_mem_drop hp)
  have hm : ∀ p ∈ c.take a, uses ((rows c j).take (2 * b)) (p.2.headD 0) ≤ j + 1 := fun p hp => by
   have hc := List.mem_of_mem_take hp
   rw [← List.take_append_drop a' c] at hc
   rcases List.mem_append.1 hc with h | h
   ·exact (C.some p h).2
   ·rw [C.none p h]; omega
  refine ⟨a, ha, fun p hq => hp.mem_iff.2 (List.mem_append_left _ hq), fun p hq => ?_, fun p hq => ?_, fun s hs2 => ?_, ?_, fun h2 h3 => ?_⟩
  ·rw [hu, u1 p hq]
   have := hm p hq
   omega
  ·rw [hu, u2 p hq, hz p hq]
  ·rw [hu, C.out s hs2, uses_one (h1.take a), if_neg]
   intro h
   obtain ⟨p, hp, e⟩ := List.mem_map.1 h
   exact hs2 (List.mem_map.2 ⟨p, List.mem_of_mem_take hp, e⟩)
  ·have e1 : W (c.take a) (uses ((rows c (j + 1)).take N)) (j + 1 + 1) = W (c.take a) (uses ((rows c j).take (2 * b))) (j + 1) := W_congr fun p hq => by
    rw [hu, u1 p hq]
    omega
   have e2 : W (c.drop a) (uses ((rows c (j + 1)).take N)) (j + 1 + 1) = (c.drop a).length * 2 ^ (j + 1 + 1) := W_const fun p hq => by
    rw [hu, u2 p hq, hz p hq]
    rfl
   have e3 : W (c.drop a) (uses ((rows c j).take (2 * b))) (j + 1) = (c.drop a).length * 2 ^ (j + 1) := W_const fun p hq => by
    rw [hz p hq]
    rfl
   have e4 := C.sum
   rw [W_split c _ _ a, e3, List.length_drop] at e4
   rw [W_split c _ _ a, e1, e2, List.length_drop]
   have f1 : 2 ^ (j + 1 + 1) = 2 * 2 ^ (j + 1) := by rw [Nat.pow_succ 2 (j + 1)]; omega
   have f2 : 2 * b * 2 ^ j = b * 2 ^ (j + 1) := by rw [Nat.pow_succ]; ac_rfl
   obtain ⟨X, hX⟩ : ∃ X, X = 2 ^ (j + 1) := ⟨_, rfl⟩
   rw [f2] at e4
   rw [f1]
   rw [← hX] at e4 ⊢
   obtain ⟨d, hd⟩ : ∃ d, c.length = a + d := ⟨c.length - a, by omega⟩
   have g1 : c.length - a = d := by omega
   rw [g1] at e4 ⊢
   rw [hd] at e4 ⊢
   rw [← hab]
   have h1 : d * (2 * X) = 2 * (d * X) := by ac_rfl
   have h2 : (a + d) * (2 * X) = 2 * (a * X) + 2 * (d * X) := by rw [Nat.add_mul, show a * (2 * X) = 2 * (a * X) by ac_rfl, h1]
   rw [h1, h2, Nat.add_mul]
   rw [Nat.add_mul] at e4
   omega
  ·rcases Nat.lt_or_ge a c.length with h | h
   ·have := C.all (by omega) h3
    omega
   ·omega
theorem coinsF_sym : ∀ (i : Nat) (l : List Nat) (s : Nat), s ∈ (coinsF i l).map (fun p => p.2.headD 0) ↔ ∃ j, s = i + j ∧ 0 < l[j]?.getD 0
 | i, [], s => by simp [coinsF]
 | i, n :: r, s => by
  have ih := coinsF_sym (i + 1) r s
  have e : (∃ j, s = i + j ∧ 0 < (n :: r)[j]?.getD 0) ↔ (s = i ∧ 0 < n) ∨ ∃ j, s = i + 1 + j ∧ 0 < r[j]?.getD 0 := by
   constructor
   ·rintro ⟨j, hj, h⟩
    cases j with
    | zero => exact .inl ⟨by omega, by simpa using h⟩
    | succ j => exact .inr ⟨j, by omega, by simpa using h⟩
   ·rintro (⟨h1, h2⟩ | ⟨j, h1, h2⟩)
    ·exact ⟨0, by omega, by simpa using h2⟩
    ·exact ⟨j + 1, by omega, by simpa using h2⟩
  rw [e, coinsF, ← ih]
  split
  ·rename_i h
   rw [List.map_cons, List.mem_cons]
   simp [h]
  ·rename_i h
   simp [h]
theorem coinsF_one : ∀ (i : Nat) (l : List Nat), One (coinsF i l)
 | i, [] => ⟨by simp [coinsF], by simp [coinsF]⟩
 | i, n :: r => by
  have ih := coinsF_one (i + 1) r
  rw [coinsF]
  split
  ·refine ⟨fun p hp => ?_, ?_⟩
   ·rcases List.mem_cons.1 hp with e | e
    ·rw [e]; rfl
    ·exact ih.one p e
   ·rw [List.map_cons, List.nodup_cons]
    refine ⟨fun h => ?_, ih.nodup⟩
    obtain ⟨j, h1, _⟩ := (coinsF_sym (i + 1) r _).1 h
    simp at h1
    omega
  ·exact ih
theorem coinsF_sum (f : Nat → Nat) : ∀ (i : Nat) (l : List Nat), ((coinsF i l).map fun p => f (p.2.headD 0)).sum = ((List.range l.length).map fun j => if 0 < l[j]?.getD 0 then f (i + j) else 0).sum
 | i, [] => by simp [coinsF]
 | i, n :: r => by
  have ih := coinsF_sum f (i + 1) r
  rw [List.length_cons, List.range_succ_eq_map, List.map_cons, List.map_map, List.sum_cons]
  have e : (List.map ((fun j => if 0 < (n :: r)[j]?.getD 0 then f (i + j) else 0) ∘ Nat.succ) (List.range r.length)) = (List.range r.length).map fun j => if 0 < r[j]?.getD 0 then f (i + 1 + j) else 0 := by
   refine List.map_congr_left fun j _ => ?_
   show (if 0 < (n :: r)[j + 1]?.getD 0 then f (i + (j + 1)) else 0) = _
   rw [List.getElem?_cons_succ, show i + (j + 1) = i + 1 + j by omega]
  rw [e, ← ih, coinsF]
  show _ = (if 0 < n then f i else 0) + _
  split
  ·rw [List.map_cons, List.sum_cons]
   rfl
  ·rw [Nat.zero_add]
theorem K_step (l : List Nat) (n : Nat) : (l.map fun x => if 1 ≤ x ∧ x ≤ n + 1 then 2 ^ (n + 1 - x) else 0).sum = 2 * (l.map fun x => if 1 ≤ x ∧ x ≤ n then 2 ^ (n - x) else 0).sum + l.count (n + 1) := by
 induction l with
 | nil => simp
 | cons x r ih =>
  rw [List.map_cons, List.sum_cons, ih, List.map_cons, List.sum_cons, List.count_cons]
  have e : (if 1 ≤ x ∧ x ≤ n + 1 then 2 ^ (n + 1 - x) else 0) = 2 * (if 1 ≤ x ∧ x ≤ n then 2 ^ (n - x) else 0) + if (x == n + 1) = true then 1 else 0 := by
   by_cases h1 : x = n + 1
   ·subst h1
    rw [if_pos ⟨by omega, Nat.le_refl _⟩, if_neg (by omega), if_pos (by simp), Nat.sub_self]
   ·by_cases h2 : 1 ≤ x ∧ x ≤ n
    ·rw [if_pos ⟨h2.1, by omega⟩, if_pos h2, if_neg (by simpa using h1), show n + 1 - x = (n - x) + 1 by omega, Nat.pow_succ]
     omega
    ·rw [if_neg (by omega), if_neg h2, if_neg (by simpa using h1)]
  rw [e]
  omega
theorem K_sum (l : List Nat) : ∀ n, K l n = (l.map fun x => if 1 ≤ x ∧ x ≤ n then 2 ^ (n - x) else 0).sum
 | 0 => by
  rw [K]
  have e : ∀ x : Nat, (if 1 ≤ x ∧ x ≤ 0 then 2 ^ (0 - x) else 0) = 0 := fun x => if_neg (by omega)
  induction l with
  | nil => rfl
  | cons x r ih => rw [List.map_cons, List.sum_cons, e, ← ih]
 | n + 1 => by rw [K, K_sum l n, K_step]
theorem lengths_length (counts : List Nat) (most : Nat) : (lengths counts most).length = counts.length := by simp [lengths]
theorem lengths_at (counts : List Nat) (most i : Nat) (h : i < counts.length) : (lengths counts most)[i]? = some (lenOf counts most i) := by simp [lengths, h]
theorem lengths_good (counts : List Nat) (most : Nat) (h1 : 1 ≤ most) (h15 : most ≤ 15) (hk : (coins counts).length ≤ 2 ^ most) :
  Good (lengths counts most) ∧ ∀ i, i < counts.length → (0 < lenOf counts most i ↔ 0 < counts[i]?.getD 0) ∧ lenOf counts most i ≤ most := by
 have ho : One (coins counts) := coinsF_one 0 counts
 have hsy : ∀ s, s ∈ (coins counts).map (fun p => p.2.headD 0) ↔ 0 < counts[s]?.getD 0 := fun s => by
  have := coinsF_sym 0 counts s
  unfold coins
  rw [this]
  constructor
  ·rintro ⟨j, rfl, h⟩
   simpa using h
  ·intro h
   exact ⟨s, by omega, h⟩
 -- what is to be shown of the numbers
 suffices H : (∀ i, i < counts.length → (0 < lenOf counts most i ↔ 0 < counts[i]?.getD 0) ∧ lenOf counts most i ≤ most) ∧ ((coins counts).length = 0 ∨ ((coins counts).length = 1 ∧ ∀ i, i < counts.length → lenOf counts most i ≤ 1) ∨ W (coins counts) (lenOf counts most) most = 2 ^ most) by
  refine ⟨⟨fun x hx => ?_, ?_⟩, H.1⟩
  ·obtain ⟨i, hi, rfl⟩ := List.mem_map.1 hx
   exact Nat.le_trans (H.1 i (List.mem_range.1 hi)).2 h15
  ·have hW : ∀ n, most ≤ n → K (lengths counts most) n = W (coins counts) (lenOf counts most) n := fun n hn => by
    rw [K_sum, lengths, List.map_map]
    unfold W coins
    rw [coinsF_sum (fun s => 2 ^ (n - lenOf counts most s))]
    refine congrArg List.sum (List.map_congr_left fun i hi => ?_)
    have hi := List.mem_range.1 hi
    obtain ⟨g1, g2⟩ := H.1 i hi
    show (if 1 ≤ lenOf counts most i ∧ lenOf counts most i ≤ n then 2 ^ (n - lenOf counts most i) else 0) = _
    rw [Nat.zero_add]
    by_cases h : 0 < counts[i]?.getD 0
    ·rw [if_pos h, if_pos ⟨g1.2 h, by omega⟩]
    ·rw [if_neg h, if_neg (fun hh => h (g1.1 hh.1))]
   have hc1 : ∀ l : List Nat, (∀ x ∈ l, x ≤ 1) → l.count 0 + l.count 1 = l.length := by
    intro l hl
    induction l with
    | nil => rfl
    | cons x r ih =>
     have h1 := hl x (by simp)
     have := ih fun y hy => hl y (List.mem_cons_of_mem _ hy)
     rw [List.count_cons, List.count_cons, List.length_cons]
     have : x = 0 ∨ x = 1 := by omega
     rcases this with rfl | rfl <;> simp <;> omega
   rcases H.2 with h | ⟨h, hle⟩ | h
   ·refine .inl ?_
    rw [List.count_eq_length]
    intro x hx
    obtain ⟨i, hi, rfl⟩ := List.mem_map.1 hx
    have hi := List.mem_range.1 hi
    have hn : ¬ 0 < counts[i]?.getD 0 := fun hh => by
     have := (hsy i).2 hh
     rw [List.eq_nil_of_length_eq_zero h] at this
     simp at this
    have := (H.1 i hi).1
    omega
   ·refine .inr (.inl ?_)
    have hone : (lengths counts most).count 1 = 1 := by
     have e : (lengths counts most).count 1 = K (lengths counts most) 1 := by simp [K]
     have e2 : ∀ n, K (lengths counts most) (n + 1) = K (lengths counts most) 1 * 2 ^ n := by
      intro n
      induction n with
      | zero => simp
      | succ n ih =>
       rw [K, ih, Nat.pow_succ]
       have : (lengths counts most).count (n + 1 + 1) = 0 := by
        rw [List.count_eq_zero]
        intro hm
        obtain ⟨i, hi, e⟩ := List.mem_map.1 hm
        have := hle i (List.mem_range.1 hi)
        omega
       rw [this]
       have : K (lengths counts most) 1 * (2 ^ n * 2) = 2 * (K (lengths counts most) 1 * 2 ^ n) := by ac_rfl
       omega
     have e3 := hW most (Nat.le_refl _)
     obtain ⟨m, rfl⟩ : ∃ m, most = m + 1 := ⟨most - 1, by omega⟩
     rw [e2 m] at e3
     have e4 : W (coins counts) (lenOf counts (m + 1)) (m + 1) = (coins counts).length * 2 ^ m := W_const fun p hp => by
      have hs := (hsy _).1 (List.mem_map.2 ⟨p, hp, rfl⟩)
      have hlt : p.2.headD 0 < counts.length := by
       rcases Nat.lt_or_ge (p.2.headD 0) counts.length with g | g
       ·exact g
       ·rw [List.getElem?_eq_none g] at hs
        simp at hs
      have := (H.1 _ hlt).1.2 hs
      have := hle _ hlt
      omega
     rw [e4, h, Nat.one_mul] at e3
     rw [e]
     exact Nat.eq_of_mul_eq_mul_right (Nat.pow_pos (show 0 < 2 by omega)) (by rw [e3, Nat.one_mul])
    have := hc1 (lengths counts most) fun x hx => by
     obtain ⟨i, hi, rfl⟩ := List.mem_map.1 hx
     exact hle i (List.mem_range.1 hi)
    omega
   ·refine .inr (.inr ?_)
    rw [hW 15 h15]
    have e : ∀ c : List Pk, (∀ p ∈ c, lenOf counts most (p.2.headD 0) ≤ most) → W c (lenOf counts most) 15 = W c (lenOf counts most) most * 2 ^ (15 - most) := by
     intro c hc
     induction c with
     | nil => simp [W]
     | cons p c ih =>
      have := ih fun q hq => hc q (List.mem_cons_of_mem _ hq)
      unfold W at *
      rw [List.map_cons, List.sum_cons, this, List.map_cons, List.sum_cons, Nat.add_mul, ← Nat.pow_add]
      have := hc p (by simp)
      congr 2
      omega
    rw [e, h, ← Nat.pow_add, show most + (15 - most) = 15 by omega]
    intro p hp
    have hs := (hsy _).1 (List.mem_map.2 ⟨p, hp, rfl⟩)
    have hlt : p.2.headD 0 < counts.length := by
     rcases Nat.lt_or_ge (p.2.headD 0) counts.length with g | g
     ·exact g
     ·rw [List.getElem?_eq_none g] at hs
      simp at hs
    exact (H.1 _ hlt).2
 by_cases hc1 : (coins counts).length = 1
 ·have hl : ∀ s, lenOf counts most s = if s ∈ (coins counts).flatMap (·.2) then 1 else 0 := fun s => by unfold lenOf; rw [if_pos hc1]
  have hm : ∀ s, s ∈ (coins counts).flatMap (·.2) ↔ s ∈ (coins counts).map (fun p => p.2.headD 0) := fun s => by
   rw [List.mem_flatMap, List.mem_map]
   constructor
   ·rintro ⟨p, hp, h⟩
    rw [ho.one p hp, List.mem_singleton] at h
    exact ⟨p, hp, h.symm⟩
   ·rintro ⟨p, hp, h⟩
    exact ⟨p, hp, by rw [ho.one p hp, h]; exact List.mem_singleton.2 rfl⟩
  refine ⟨fun i _ => ?_, .inr (.inl ⟨hc1, fun i _ => ?_⟩)⟩
  ·rw [hl]
   by_cases h : i ∈ (coins counts).flatMap (·.2)
   ·rw [if_pos h]
    exact ⟨⟨fun _ => (hsy i).1 ((hm i).1 h), fun _ => by omega⟩, h1⟩
   ·rw [if_neg h]
    exact ⟨⟨fun hh => by omega, fun hh => absurd ((hm i).2 ((hsy i).2 hh)) h⟩, by omega⟩
  ·rw [hl]
   split <;> omega
 ·by_cases hc2 : (coins counts).length < 2
  ·have h0 : (coins counts).length = 0 := by omega
   refine ⟨fun i _ => ?_, .inl h0⟩
   have : lenOf counts most i = 0 := by unfold lenOf; rw [if_neg hc1, if_pos hc2]
   rw [this]
   have hn : ¬ 0 < counts[i]?.getD 0 := fun hh => by
    have := (hsy i).2 hh
    rw [List.eq_nil_of_length_eq_zero h0] at this
    simp at this
   omega
  ·obtain ⟨m, rfl⟩ : ∃ m, most = m + 1 := ⟨most - 1, by omega⟩
   have hp : (sort (coins counts)).Perm (coins counts) := sort_perm _
   have hlen := sort_length (coins counts)
   have hlong := rows_long (sort (coins counts)) m 1 (by rw [hlen, Nat.add_comm]; exact hk)
   rw [hlen] at hlong
   obtain ⟨a, C⟩ := cut_some (ho.perm hp.symm) (sort_srt _) m (2 * (coins counts).length - 2) (by omega)
   have hl : ∀ s, lenOf counts (m + 1) s = uses ((rows (sort (coins counts)) m).take (2 * (coins counts).length - 2)) s := fun s => by
    unfold lenOf
    rw [if_neg hc1, if_neg hc2]
    rfl
   have ha := C.all (by omega) (by omega)
   have hsome := C.some
   rw [ha, List.take_length] at hsome
   refine ⟨fun i _ => ?_, .inr (.inr ?_)⟩
   ·rw [hl]
    by_cases h : 0 < counts[i]?.getD 0
    ·obtain ⟨p, hpm, e⟩ := List.mem_map.1 ((hsy i).2 h)
     have := hsome p (hp.mem_iff.2 hpm)
     rw [e] at this
     exact ⟨⟨fun _ => h, fun _ => by omega⟩, this.2⟩
    ·have : i ∉ (sort (coins counts)).map (fun p => p.2.headD 0) := fun hm => by
      obtain ⟨p, hpm, e⟩ := List.mem_map.1 hm
      exact h ((hsy i).1 (List.mem_map.2 ⟨p, hp.mem_iff.1 hpm, e⟩))
     rw [C.out i this]
     exact ⟨⟨fun hh => by omega, fun hh => absurd hh h⟩, by omega⟩
   ·have hs := C.sum
    have e : W (coins counts) (lenOf counts (m + 1)) (m + 1) = W (sort (coins counts)) (uses ((rows (sort (coins counts)) m).take (2 * (coins counts).length - 2))) (m + 1) := by
     rw [W_congr (c := coins counts) (m := m + 1) (M := uses ((rows (sort (coins counts)) m).take (2 * (coins counts).length - 2))) (fun p _ => by rw [hl])]
     unfold W
     exact ((hp.map _).sum_nat).symm
    rw [e]
    rw [hlen] at hs
    obtain ⟨k, hk2⟩ : ∃ k, (coins counts).length = k + 1 := ⟨(coins counts).length - 1, by omega⟩
    rw [hk2, show 2 * (k + 1) - 2 = 2 * k by omega] at hs ⊢
    have f : 2 * k * 2 ^ m = k * 2 ^ (m + 1) := by rw [Nat.pow_succ]; ac_rfl
    rw [f, Nat.add_mul] at hs
    omega
end Huf
end Go.Proofs.YtkegkelaffohjaaGreatDoor
namespace Go.Proofs.YtkegkelaffohjaaGreatDoor
namespace Mat
structure Tok where
 b : UInt8
 n : Nat
 d : Nat
def copy (d : Nat) : Nat → List UInt8 → List UInt8
 | 0, out => out
 | n + 1, out => copy d n (out ++ [out.getD (out.length - d) 0])
def one (t : Tok) (out : List UInt8) : List UInt8 := if t.n = 0 then out ++ [t.b] else copy t.d t.n out
def expand : List Tok → List UInt8 → List UInt8
 | [], out => out
 | t :: l, out => expand l (one t out)
def key (s : List UInt8) (k : Nat) : List UInt8 := (s.drop k).take 3
def prev (s : List UInt8) : Nat → (List UInt8) → Option Nat
 | 0, _ => none
 | k + 1, c => if key s k = c then some k else prev s k c
def lcp : Nat → List UInt8 → List UInt8 → Nat
 | 0, _, _ => 0
 | m + 1, a :: x, b :: y => if a = b then lcp m x y + 1 else 0
 | _ + 1, _, _ => 0
def size (s : List UInt8) (k at_ : Nat) : Nat := lcp 258 (s.drop k) (s.drop at_)
def long (s : List UInt8) (at_ : Nat) : Nat → Option Nat → Nat × Nat → Nat × Nat
 | 0, _, b => b
 | _ + 1, none, b => b
 | t + 1, some k, b => if at_ - k ≤ 32768 then long s at_ t (prev s k (key s k)) (if b.1 < size s k at_ then (size s k at_, at_ - k) else b) else b
def longest (s : List UInt8) (tries at_ : Nat) : Nat × Nat := if s.length < at_ + 3 then (0, 0) else long s at_ tries (prev s at_ (key s at_)) (0, 0)
def tok (s : List UInt8) (tries at_ : Nat) : Tok := if 3 ≤ (longest s tries at_).1 then ⟨0, (longest s tries at_).1, (longest s tries at_).2⟩ else ⟨s.getD at_ 0, 0, 0⟩
def toks (s : List UInt8) (tries : Nat) : Nat → Nat → List Tok
 | 0, _ => []
 | f + 1, at_ => if at_ < s.length then tok s tries at_ :: toks s tries f (at_ + max 1 (tok s tries at_).n) else []
def tries (s : List UInt8) : Nat := if 3000 < s.length then 64 else s.length
def tokens (s : List UInt8) : List Tok := toks s (tries s) s.length 0
theorem prev_lt (s : List UInt8) (c : List UInt8) : ∀ (k j : Nat), prev s k c = some j → j < k ∧ key s j = c
 | 0, _, h => by cases h
 | k + 1, j, h => by
  rw [prev] at h
  split at h
  ·rename_i e
   injection h with h
   subst h
   exact ⟨by omega, e⟩
  ·have := prev_lt s c k j h
   exact ⟨by omega, this.2⟩
theorem lcp_le : ∀ (m : Nat) (x y : List UInt8), lcp m x y ≤ m ∧ lcp m x y ≤ y.length
 | 0, _, _ => by simp [lcp]
 | m + 1, a :: x, b :: y => by
  have := lcp_le m x y
  rw [lcp, List.length_cons]
  split <;> omega
 | m + 1, [], _ => by simp [lcp]
 | m + 1, _ :: _, [] => by simp [lcp]
theorem lcp_same : ∀ (m : Nat) (x y : List UInt8) (i : Nat), i < lcp m x y → x[i]? = y[i]?
 | 0, _, _, _, h => by simp [lcp] at h
 | m + 1, a :: x, b :: y, i, h => by
  rw [lcp] at h
  split at h
  ·rename_i e
   cases i with
   | zero => simp [e]
   | succ i =>
    rw [List.getElem?_cons_succ, List.getElem?_cons_succ]
    exact lcp_same m x y i (by omega)
  ·omega
 | m + 1, [], _, _, h => by simp [lcp] at h
 | m + 1, _ :: _, [], _, h => by simp [lcp] at h
structure Fit (s : List UInt8) (at_ : Nat) (p : Nat × Nat) : Prop where
 n258 : p.1 ≤ 258
 len : at_ + p.1 ≤ s.length
 d1 : p.1 ≠ 0 → 1 ≤ p.2 ∧ p.2 ≤ 32768 ∧ p.2 ≤ at_
 same : ∀ i, i < p.1 → s[at_ - p.2 + i]? = s[at_ + i]?
theorem fit_zero (s : List UInt8) (at_ : Nat) (h : at_ ≤ s.length) : Fit s at_ (0, 0) := ⟨by simp, by simpa using h, by simp, by simp⟩
theorem long_fit (s : List UInt8) (at_ : Nat) (h : at_ ≤ s.length) : ∀ (t : Nat) (k : Option Nat) (b : Nat × Nat), (∀ j, k = some j → j < at_) → Fit s at_ b → Fit s at_ (long s at_ t k b)
 | 0, _, _, _, hb => by rw [long]; exact hb
 | _ + 1, none, _, _, hb => by rw [long]; exact hb
 | t + 1, some k, b, hk, hb => by
  have hka := hk k rfl
  rw [long]
  split
  ·rename_i hw
   refine long_fit s at_ h t _ _ (fun j hj => ?_) ?_
   ·have := (prev_lt s _ _ _ hj).1
    omega
   ·split
    ·have hl := lcp_le 258 (s.drop k) (s.drop at_)
     rw [List.length_drop] at hl
     refine ⟨hl.1, ?_, fun _ => ⟨by simp only; omega, by simp only; omega, by simp only; omega⟩, fun i hi => ?_⟩
     ·show at_ + lcp 258 (s.drop k) (s.drop at_) ≤ s.length
      omega
     ·have := lcp_same 258 (s.drop k) (s.drop at_) i hi
      rw [List.getElem?_drop, List.getElem?_drop] at this
      simp only
      rw [show at_ - (at_ - k) = k by omega]
      exact this
    ·exact hb
  ·exact hb
theorem longest_fit (s : List UInt8) (tr at_ : Nat) (h : at_ ≤ s.length) : Fit s at_ (longest s tr at_) := by
 unfold longest
 split
 ·exact fit_zero s at_ h
 ·exact long_fit s at_ h _ _ _ (fun j hj => (prev_lt s _ _ _ hj).1) (fit_zero s at_ h)
def TokOK (most : Nat) (t : Tok) : Prop := (t.n = 0 ∧ t.d = 0) ∨ (t.b = 0 ∧ 3 ≤ t.n ∧ t.n ≤ 258 ∧ 1 ≤ t.d ∧ t.d ≤ 32768 ∧ t.d ≤ most)
theorem tok_ok (s : List UInt8) (tr at_ : Nat) (h : at_ < s.length) : TokOK at_ (tok s tr at_) ∧ at_ + max 1 (tok s tr at_).n ≤ s.length := by
 have f := longest_fit s tr at_ (by omega)
 unfold tok
 split
 ·rename_i h3
  have := f.d1 (by omega)
  have := f.len
  refine ⟨.inr ⟨rfl, h3, f.n258, ?_, ?_, ?_⟩, ?_⟩ <;> simp only <;> omega
 ·refine ⟨.inl ⟨rfl, rfl⟩, ?_⟩
  simp only
  omega
theorem copy_same (s : List UInt8) (d : Nat) (hd : 1 ≤ d) : ∀ (n at_ : Nat), d ≤ at_ → at_ + n ≤ s.length → (∀ i, i < n → s[at_ - d + i]? = s[at_ + i]?) → copy d n (s.take at_) = s.take (at_ + n)
 | 0, at_, _, _, _ => by rw [copy, Nat.add_zero]
 | n + 1, at_, h1, h2, h3 => by
  have e : s.take at_ ++ [(s.take at_).getD ((s.take at_).length - d) 0] = s.take (at_ + 1) := by
   rw [List.take_succ_eq_append_getElem (by omega), List.length_take, Nat.min_eq_left (by omega)]
   congr 2
   have h4 := h3 0 (by omega)
   rw [Nat.add_zero, Nat.add_zero, List.getElem?_eq_getElem (show at_ < s.length by omega)] at h4
   rw [List.getD_eq_getElem?_getD, List.getElem?_take, if_pos (by omega), h4]
   rfl
  rw [copy, e, copy_same s d hd n (at_ + 1) (by omega) (by omega) fun i hi => ?_, show at_ + 1 + n = at_ + (n + 1) by omega]
  have := h3 (i + 1) (by omega)
  rw [show at_ + 1 - d + i = at_ - d + (i + 1) by omega, show at_ + 1 + i = at_ + (i + 1) by omega]
  exact this
theorem one_tok (s : List UInt8) (tr at_ : Nat) (h : at_ < s.length) : one (tok s tr at_) (s.take at_) = s.take (at_ + max 1 (tok s tr at_).n) := by
 have f := longest_fit s tr at_ (by omega)
 have hf := f.len
 unfold tok
 split
 ·rename_i h3
  have hd := f.d1 (by omega)
  unfold one
  simp only
  rw [if_neg (by omega), copy_same s _ hd.1 _ _ hd.2.2 (by omega) f.same, Nat.max_eq_right (by omega)]
 ·unfold one
  simp only
  rw [if_pos trivial]
  show _ = s.take (at_ + 1)
  rw [List.take_succ_eq_append_getElem h, List.getD_eq_getElem?_getD, List.getElem?_eq_getElem h]
  rfl
theorem expand_toks (s : List UInt8) (tr : Nat) : ∀ (f at_ : Nat), s.length - at_ ≤ f → at_ ≤ s.length → expand (toks s tr f at_) (s.take at_) = s
 | 0, at_, h, h2 => by rw [toks, expand, List.take_of_length_le (by omega)]
 | f + 1, at_, h, h2 => by
  rw [toks]
  split
  ·rename_i hlt
   rw [expand, one_tok s tr at_ hlt]
   have := (tok_ok s tr at_ hlt).2
   exact expand_toks s tr f _ (by omega) this
  ·rw [expand, List.take_of_length_le (by omega)]
theorem expand_tokens (s : List UInt8) : expand (tokens s) [] = s := by
 have := expand_toks s (tries s) s.length 0 (by omega) (by omega)
 rwa [List.take_zero] at this
theorem copy_length (d : Nat) : ∀ (n : Nat) (out : List UInt8), (copy d n out).length = out.length + n
 | 0, out => rfl
 | n + 1, out => by rw [copy, copy_length d n, List.length_append, List.length_singleton]; omega
theorem one_length (t : Tok) (out : List UInt8) : (one t out).length = out.length + max 1 t.n := by
 unfold one
 split
 ·rename_i h
  rw [h, List.length_append]
  simp
 ·rw [copy_length, Nat.max_eq_right (by omega)]
def AllOK : List Tok → Nat → Prop
 | [], _ => True
 | t :: l, at_ => TokOK at_ t ∧ AllOK l (at_ + max 1 t.n)
theorem toks_ok (s : List UInt8) (tr : Nat) : ∀ (f at_ : Nat), AllOK (toks s tr f at_) at_
 | 0, _ => trivial
 | f + 1, at_ => by
  rw [toks]
  split
  ·rename_i h
   exact ⟨(tok_ok s tr at_ h).1, toks_ok s tr f _⟩
  ·trivial
theorem expand_length : ∀ (l : List Tok) (out : List UInt8), out.length + l.length ≤ (expand l out).length
 | [], out => by simp [expand]
 | t :: l, out => by
  have := expand_length l (one t out)
  rw [one_length] at this
  rw [expand, List.length_cons]
  omega
theorem tokens_length (s : List UInt8) : (tokens s).length ≤ s.length := by
 have := expand_length (tokens s) []
 rw [expand_tokens, List.length_nil] at this
 omega
end Mat
end Go.Proofs.YtkegkelaffohjaaGreatDoor
namespace Go.Proofs.YtkegkelaffohjaaGreatDoor
namespace Inf
open Mat Huf
def Lens : List Nat := [3, 4, 5, 6, 7, 8, 9, 10, 11, 13, 15, 17, 19, 23, 27, 31, 35, 43, 51, 59, 67, 83, 99, 115, 131, 163, 195, 227, 258]
def LenBits : List Nat := [0, 0, 0, 0, 0, 0, 0, 0, 1, 1, 1, 1, 2, 2, 2, 2, 3, 3, 3, 3, 4, 4, 4, 4, 5, 5, 5, 5, 0]
def Dists : List Nat := [1, 2, 3, 4, 5, 7, 9, 13, 17, 25, 33, 49, 65, 97, 129, 193, 257, 385, 513, 769, 1025, 1537, 2049, 3073, 4097, 6145, 8193, 12289, 16385, 24577]
def DistBits : List Nat := [0, 0, 0, 0, 1, 1, 2, 2, 3, 3, 4, 4, 5, 5, 6, 6, 7, 7, 8, 8, 9, 9, 10, 10, 11, 11, 12, 12, 13, 13]
def Order : List Nat := [16, 17, 18, 0, 8, 7, 9, 6, 10, 5, 11, 4, 12, 3, 13, 2, 14, 1, 15]
def place (row : List Nat) (n : Nat) : Nat → Nat
 | 0 => 0
 | k + 1 => if n < row.getD (k + 1) 0 then place row n k else k + 1
def lenAt (n : Nat) : Nat := place Lens n 28
def distAt (d : Nat) : Nat := place Dists d 29
def fixedL : List Nat := List.replicate 144 8 ++ List.replicate 112 9 ++ List.replicate 24 7 ++ List.replicate 8 8
/- written -/
def tokBits (wl wd : Nat → List Bool) (t : Tok) : List Bool :=
 if t.n = 0 then wl t.b.toNat
 else wl (257 + lenAt t.n) ++ Bit.low (t.n - Lens.getD (lenAt t.n) 0) (LenBits.getD (lenAt t.n) 0) ++ wd (distAt t.d) ++ Bit.low (t.d - Dists.getD (distAt t.d) 0) (DistBits.getD (distAt t.d) 0)
def toksBits (wl wd : Nat → List Bool) (l : List Tok) : List Bool := l.flatMap (tokBits wl wd) ++ wl 256
/- read -/
def get (k : Nat) (bs : List Bool) : Option (Nat × List Bool) := if bs.length < k then none else some (Bit.val (bs.take k), bs.drop k)
def rstep (nl nd : List Bool → Option (Nat × List Bool)) (most : Nat) (go : List Bool → List UInt8 → Except Nat (List Bool × List UInt8)) (bs : List Bool) (out : List UInt8) : Except Nat (List Bool × List UInt8) :=
 match nl bs with
 | none => .error 0
 | some (k, b1) =>
  if k = 256 then .ok (b1, out)
  else if k < 256 then (if out.length < most then go b1 (out ++ [UInt8.ofNat k]) else .error 1)
  else if 29 ≤ k - 257 then .error 0
  else match get (LenBits.getD (k - 257) 0) b1 with
   | none => .error 0
   | some (x, b2) =>
    match nd b2 with
    | none => .error 0
    | some (d, b3) =>
     if 30 ≤ d then .error 0
     else match get (DistBits.getD d 0) b3 with
      | none => .error 0
      | some (y, b4) =>
       if out.length < Dists.getD d 0 + y then .error 0
       else if most < out.length + (Lens.getD (k - 257) 0 + x) then .error 1
       else go b4 (copy (Dists.getD d 0 + y) (Lens.getD (k - 257) 0 + x) out)
def rtoks (nl nd : List Bool → Option (Nat × List Bool)) (most : Nat) : Nat → List Bool → List UInt8 → Except Nat (List Bool × List UInt8)
 | 0 => fun _ _ => .error 0
 | f + 1 => rstep nl nd most (rtoks nl nd most f)
theorem rtoks_succ (nl nd : List Bool → Option (Nat × List Bool)) (most f : Nat) (bs : List Bool) (out : List UInt8) : rtoks nl nd most (f + 1) bs out = rstep nl nd most (rtoks nl nd most f) bs out := rfl
def rstored (most : Nat) (bs : List Bool) (out : List UInt8) : Except Nat (List Bool × List UInt8) :=
 match get 16 (bs.drop (bs.length % 8)) with
 | none => .error 0
 | some (n, b1) =>
  match get 16 b1 with
  | none => .error 0
  | some (m, b2) =>
   if n + m ≠ 65535 then .error 0
   else if b2.length < 8 * n then .error 0
   else if most < out.length + n then .error 1
   else .ok (b2.drop (8 * n), out ++ Bit.pack (b2.take (8 * n)))
def five (bs : List Bool) : Option (Nat × List Bool) := if bs.length < 5 then none else some (Bit.val (bs.take 5).reverse, bs.drop 5)
def rsmall : List Nat → List Bool → List Nat → Option (List Nat × List Bool)
 | [], bs, l => some (l, bs)
 | k :: r, bs, l =>
  match get 3 bs with
  | none => none
  | some (x, b1) => rsmall r b1 (l.set k x)
def rmore (all : Nat) (go : List Bool → List Nat → Option (List Nat × List Bool)) (l : List Nat) (x : Option (Nat × List Bool)) (from_ what : Nat) : Option (List Nat × List Bool) :=
 match x with
 | none => none
 | some (y, b2) => if all < l.length + (from_ + y) then none else go b2 (l ++ List.replicate (from_ + y) what)
def rlstep (small : List Nat) (all : Nat) (go : List Bool → List Nat → Option (List Nat × List Bool)) (bs : List Bool) (l : List Nat) : Option (List Nat × List Bool) :=
 match next small 15 0 0 bs with
 | none => none
 | some (k, b1) =>
  if k = 16 then (if l = [] then none else rmore all go l (get 2 b1) 3 (l.getD (l.length - 1) 0))
  else if k = 17 then rmore all go l (get 3 b1) 3 0
  else if k = 18 then rmore all go l (get 7 b1) 11 0
  else rmore all go l (some (0, b1)) 1 k
def rlens (small : List Nat) (all : Nat) : Nat → List Bool → List Nat → Option (List Nat × List Bool)
 | 0 => fun _ _ => none
 | f + 1 => fun bs l => if l.length < all then rlstep small all (rlens small all f) bs l else some (l, bs)
theorem rlens_succ (small : List Nat) (all f : Nat) (bs : List Bool) (l : List Nat) : rlens small all (f + 1) bs l = if l.length < all then rlstep small all (rlens small all f) bs l else some (l, bs) := rfl
def rdynamic (bs : List Bool) : Option ((List Nat × List Nat) × List Bool) :=
 match get 5 bs with
 | none => none
 | some (a, b1) =>
  match get 5 b1 with
  | none => none
  | some (b, b2) =>
   match get 4 b2 with
   | none => none
   | some (c, b3) =>
    if 286 < a + 257 ∨ 30 < b + 1 then none
    else match rsmall (Order.take (c + 4)) b3 (List.replicate 19 0) with
     | none => none
     | some (small, b4) =>
      if ¬ Huf.Good small then none
      else match rlens small (a + 257 + (b + 1)) (b4.length + 1) b4 [] with
       | none => none
       | some (l, b5) =>
        if ¬ Huf.Good (l.take (a + 257)) ∨ ¬ Huf.Good (l.drop (a + 257)) ∨ (l.take (a + 257)).getD 256 0 = 0 then none
        else some ((l.take (a + 257), l.drop (a + 257)), b5)
def rblock (most : Nat) (bs : List Bool) (out : List UInt8) : Except Nat (Bool × List Bool × List UInt8) :=
 match get 1 bs with
 | none => .error 0
 | some (last, b1) =>
  match get 2 b1 with
  | none => .error 0
  | some (kind, b2) =>
   match (if kind = 0 then rstored most b2 out
    else if kind = 1 then rtoks (next fixedL 15 0 0) five most (b2.length + 1) b2 out
    else if kind = 2 then (match rdynamic b2 with
     | none => .error 0
     | some (ls, b3) => rtoks (next ls.1 15 0 0) (next ls.2 15 0 0) most (b3.length + 1) b3 out)
    else .error 0) with
   | .error e => .error e
   | .ok (b3, out2) => .ok (last == 1, b3, out2)
def rblocks (most : Nat) : Nat → List Bool → List UInt8 → Except Nat (List Bool × List UInt8)
 | 0, _, _ => .error 0
 | f + 1, bs, out =>
  match rblock most bs out with
  | .error e => .error e
  | .ok (last, b1, out2) => if last then .ok (b1, out2) else rblocks most f b1 out2
def inflate (s : List UInt8) (most : Nat) : Except Nat (List UInt8 × Nat) :=
 match rblocks most (8 * s.length + 1) (Bit.bits s) [] with
 | .error e => .error e
 | .ok (bs, out) => .ok (out, s.length - bs.length / 8)
/- a token is read -/
theorem get_low (x k : Nat) (rest : List Bool) (h : x < 2 ^ k) : get k (Bit.low x k ++ rest) = some (x, rest) := by
 unfold get
 rw [List.length_append, Bit.low_length, if_neg (by omega), List.take_left' (Bit.low_length x k), List.drop_left' (Bit.low_length x k), Bit.val_low_of h]
theorem place_is (row : List Nat) (n : Nat) : ∀ k, row.getD 0 0 ≤ n → place row n k ≤ k ∧ row.getD (place row n k) 0 ≤ n ∧ (place row n k < k → n < row.getD (place row n k + 1) 0)
 | 0, h => ⟨Nat.le_refl _, h, fun h => by omega⟩
 | k + 1, h => by
  rw [place]
  split
  ·rename_i hlt
   obtain ⟨h1, h2, h3⟩ := place_is row n k h
   refine ⟨by omega, h2, fun _ => ?_⟩
   rcases Nat.lt_or_ge (place row n k) k with g | g
   ·exact h3 g
   ·have : place row n k = k := by omega
    rw [this]
    exact hlt
  ·exact ⟨Nat.le_refl _, by omega, fun h => by omega⟩
theorem len_place (n : Nat) (h3 : 3 ≤ n) (h : n ≤ 258) : lenAt n < 29 ∧ Lens.getD (lenAt n) 0 ≤ n ∧ n - Lens.getD (lenAt n) 0 < 2 ^ LenBits.getD (lenAt n) 0 := by
 obtain ⟨h1, h2, h4⟩ := place_is Lens n 28 (by simpa [Lens] using h3)
 unfold lenAt
 have e : ∀ j, j < 28 → Lens.getD (j + 1) 0 ≤ Lens.getD j 0 + 2 ^ LenBits.getD j 0 := by decide
 refine ⟨by omega, h2, ?_⟩
 rcases Nat.lt_or_ge (place Lens n 28) 28 with g | g
 ·have := h4 g
  have := e _ g
  omega
 ·have g : place Lens n 28 = 28 := by omega
  rw [g]
  simp [Lens, LenBits]
  omega
theorem dist_place (d : Nat) (h1 : 1 ≤ d) (h : d ≤ 32768) : distAt d < 30 ∧ Dists.getD (distAt d) 0 ≤ d ∧ d - Dists.getD (distAt d) 0 < 2 ^ DistBits.getD (distAt d) 0 := by
 obtain ⟨h0, h2, h4⟩ := place_is Dists d 29 (by simpa [Dists] using h1)
 unfold distAt
 have e : ∀ j, j < 29 → Dists.getD (j + 1) 0 ≤ Dists.getD j 0 + 2 ^ DistBits.getD j 0 := by decide
 refine ⟨by omega, h2, ?_⟩
 rcases Nat.lt_or_ge (place Dists d 29) 29 with g | g
 ·have := h4 g
  have := e _ g
  omega
 ·have g : place Dists d 29 = 29 := by omega
  rw [g]
  simp [Dists, DistBits]
  omega
def Rd (nl : List Bool → Option (Nat × List Bool)) (wl : Nat → List Bool) (k : Nat) : Prop := wl k ≠ [] ∧ ∀ rest, nl (wl k ++ rest) = some (k, rest)
def TokRd (nl nd : List Bool → Option (Nat × List Bool)) (wl wd : Nat → List Bool) (t : Tok) : Prop := if t.n = 0 then Rd nl wl t.b.toNat else Rd nl wl (257 + lenAt t.n) ∧ Rd nd wd (distAt t.d)
theorem tokBits_pos {nl nd : List Bool → Option (Nat × List Bool)} {wl wd : Nat → List Bool} {t : Tok} (h : TokRd nl nd wl wd t) : 1 ≤ (tokBits wl wd t).length := by
 unfold TokRd at h
 unfold tokBits
 split
 ·rename_i e
  rw [if_pos e] at h
  exact List.length_pos_iff.2 h.1
 ·rename_i e
  rw [if_neg e] at h
  have := List.length_pos_iff.2 h.1.1
  simp only [List.length_append]
  omega
theorem rtoks_step {nl nd : List Bool → Option (Nat × List Bool)} {wl wd : Nat → List Bool} {most : Nat} {t : Tok} {out : List UInt8} (f : Nat) (rest : List Bool) (h : TokRd nl nd wl wd t) (ok : TokOK out.length t) (hm : (one t out).length ≤ most) :
  rtoks nl nd most (f + 1) (tokBits wl wd t ++ rest) out = rtoks nl nd most f rest (one t out) := by
 unfold TokRd at h
 rw [one_length] at hm
 rcases ok with ⟨n0, d0⟩ | ⟨b0, n3, n258, d1, d32, dm⟩
 ·rw [if_pos n0] at h
  unfold tokBits one
  rw [if_pos n0, if_pos n0, rtoks_succ, rstep, h.2]
  have h256 := t.b.toNat_lt
  simp only
  rw [if_neg (by omega), if_pos (by omega), if_pos (by rw [n0] at hm; simp at hm; omega), UInt8.ofNat_toNat]
 ·rw [if_neg (by omega)] at h
  obtain ⟨l1, l2, l3⟩ := len_place t.n n3 n258
  obtain ⟨g1, g2, g3⟩ := dist_place t.d d1 d32
  unfold tokBits one
  rw [if_neg (by omega), if_neg (by omega), rtoks_succ, rstep, List.append_assoc, List.append_assoc, List.append_assoc, h.1.2]
  simp only
  rw [if_neg (by omega), if_neg (by omega), if_neg (by omega), show 257 + lenAt t.n - 257 = lenAt t.n by omega, get_low _ _ _ l3]
  simp only
  rw [h.2.2]
  simp only
  rw [if_neg (by omega), get_low _ _ _ g3]
  simp only
  rw [show Dists.getD (distAt t.d) 0 + (t.d - Dists.getD (distAt t.d) 0) = t.d by omega, show Lens.getD (lenAt t.n) 0 + (t.n - Lens.getD (lenAt t.n) 0) = t.n by omega, if_neg (by omega), if_neg (by omega)]
theorem rtoks_toks {nl nd : List Bool → Option (Nat × List Bool)} {wl wd : Nat → List Bool} {most : Nat} (rest : List Bool) (he : Rd nl wl 256) : ∀ (l : List Tok) (f : Nat) (out : List UInt8), l.length < f → (∀ t ∈ l, TokRd nl nd wl wd t) → AllOK l out.length → (expand l out).length ≤ most →
  rtoks nl nd most f (toksBits wl wd l ++ rest) out = .ok (rest, expand l out)
 | [], 0, _, h, _, _, _ => absurd h (by simp)
 | [], f + 1, out, _, _, _, _ => by
  unfold toksBits
  rw [List.flatMap_nil, List.nil_append, rtoks_succ, rstep, he.2]
  simp only
  rw [if_pos trivial]
  rfl
 | t :: l, 0, _, h, _, _, _ => absurd h (by simp)
 | t :: l, f + 1, out, h, hr, ok, hm => by
  have h1 : toksBits wl wd (t :: l) ++ rest = tokBits wl wd t ++ (toksBits wl wd l ++ rest) := by
   unfold toksBits
   rw [List.flatMap_cons]
   simp only [List.append_assoc]
  have h2 := expand_length l (one t out)
  rw [expand] at hm
  rw [h1, rtoks_step f _ (hr t (by simp)) ok.1 (by omega), rtoks_toks rest he l f (one t out) (by simpa using h) (fun u hu => hr u (List.mem_cons_of_mem _ hu)) (by rw [one_length]; exact ok.2) hm, expand]
end Inf
end Go.Proofs.YtkegkelaffohjaaGreatDoor
namespace Go.Proofs.YtkegkelaffohjaaGreatDoor
namespace Inf
open Mat Huf
abbrev Run := Nat × Nat × Nat
def runOf (what : Nat) : Nat → Nat → List Run
 | 0, _ => []
 | f + 1, n =>
  if n = 0 then []
  else if what = 0 ∧ 11 ≤ n then (18, min n 138 - 11, 7) :: runOf what f (n - min n 138)
  else if what = 0 ∧ 3 ≤ n then [(17, n - 3, 3)]
  else if 0 < what ∧ 3 ≤ n then (16, min n 6 - 3, 2) :: runOf what f (n - min n 6)
  else (what, 0, 0) :: runOf what f (n - 1)
def alike (a : Nat) : List Nat → Nat
 | [] => 0
 | b :: r => if b = a then alike a r + 1 else 0
def runsF : Nat → List Nat → List Run
 | 0, _ => []
 | _ + 1, [] => []
 | f + 1, a :: r => (if 0 < a then (a, 0, 0) :: runOf a (alike a r) (alike a r) else runOf a (alike a r + 1) (alike a r + 1)) ++ runsF f (r.drop (alike a r))
def runs (l : List Nat) : List Run := runsF l.length l
def runBits (small : List Nat) (r : Run) : List Bool := word small r.1 ++ Bit.low r.2.1 r.2.2
def runsBits (small : List Nat) (rs : List Run) : List Bool := rs.flatMap (runBits small)
theorem alike_spec (a : Nat) : ∀ r : List Nat, alike a r ≤ r.length ∧ r.take (alike a r) = List.replicate (alike a r) a
 | [] => by simp [alike]
 | b :: r => by
  have ih := alike_spec a r
  rw [alike]
  split
  ·rename_i e
   subst e
   refine ⟨by rw [List.length_cons]; omega, ?_⟩
   rw [List.take_succ_cons, ih.2, List.replicate_succ]
  ·exact ⟨by omega, by simp⟩
def SRd (small : List Nat) (k : Nat) : Prop := Rd (next small 15 0 0) (word small) k
theorem rlens_one (small : List Nat) (all f : Nat) (rest : List Bool) (l : List Nat) (r : Run) (n what : Nat) (hs : SRd small r.1) (hl : l.length < all) (hn : l.length + n ≤ all)
  (h : (r.1 = 16 ∧ r.2.2 = 2 ∧ r.2.1 < 4 ∧ n = 3 + r.2.1 ∧ l ≠ [] ∧ l.getD (l.length - 1) 0 = what) ∨ (r.1 = 17 ∧ r.2.2 = 3 ∧ r.2.1 < 8 ∧ n = 3 + r.2.1 ∧ what = 0) ∨ (r.1 = 18 ∧ r.2.2 = 7 ∧ r.2.1 < 128 ∧ n = 11 + r.2.1 ∧ what = 0) ∨ (r.1 ≤ 15 ∧ r.2.1 = 0 ∧ r.2.2 = 0 ∧ n = 1 ∧ what = r.1)) :
  rlens small all (f + 1) (runBits small r ++ rest) l = rlens small all f rest (l ++ List.replicate n what) := by
 rw [rlens_succ, if_pos hl, runBits, List.append_assoc, rlstep, hs.2]
 simp only
 rcases h with ⟨h1, h2, h3, h4, h5, h6⟩ | ⟨h1, h2, h3, h4, h5⟩ | ⟨h1, h2, h3, h4, h5⟩ | ⟨h1, h2, h3, h4, h5⟩
 ·rw [h1, if_pos rfl, if_neg h5, h2, get_low _ _ _ h3, rmore]
  rw [if_neg (by omega), h6, ← h4]
 ·rw [h1, if_neg (by decide), if_pos rfl, h2, get_low _ _ _ h3, rmore]
  rw [if_neg (by omega), ← h4, h5]
 ·rw [h1, if_neg (by decide), if_neg (by decide), if_pos rfl, h2, get_low _ _ _ h3, rmore]
  rw [if_neg (by omega), ← h4, h5]
 ·rw [if_neg (by omega), if_neg (by omega), if_neg (by omega), rmore]
  rw [h2, h3, if_neg (by omega), h4, h5]
  rfl
theorem last_of (l : List Nat) (n a : Nat) (h : l ≠ [] ∧ l.getD (l.length - 1) 0 = a) : l ++ List.replicate n a ≠ [] ∧ (l ++ List.replicate n a).getD ((l ++ List.replicate n a).length - 1) 0 = a := by
 refine ⟨by simp [h.1], ?_⟩
 have hl := List.length_pos_iff.2 h.1
 rcases Nat.eq_zero_or_pos n with e | e
 ·subst e
  simpa using h.2
 ·rw [List.getD_eq_getElem?_getD, List.length_append, List.length_replicate, List.getElem?_append_right (by omega), List.getElem?_replicate, if_pos (by omega)]
  rfl
theorem rlens_runOf (small : List Nat) (all : Nat) (rest : List Bool) (what : Nat) (hw : what ≤ 15) : ∀ (f n g : Nat) (l : List Nat), n ≤ f → l.length + n ≤ all → (what = 0 ∨ (l ≠ [] ∧ l.getD (l.length - 1) 0 = what)) → (∀ r ∈ runOf what f n, SRd small r.1) →
  rlens small all (g + (runOf what f n).length) (runsBits small (runOf what f n) ++ rest) l = rlens small all g rest (l ++ List.replicate n what)
 | 0, n, g, l, h, _, _, _ => by
  have : n = 0 := by omega
  subst this
  simp [runOf, runsBits]
 | f + 1, n, g, l, h, hl, hlast, hr => by
  by_cases h0 : n = 0
  ·subst h0
   simp [runOf, runsBits]
  ·have hcons : ∀ (r : Run) (rs : List Run) (k : Nat), runOf what (f + 1) n = r :: rs → rs = runOf what f (n - k) → k ≤ n → 1 ≤ k →
     (∀ (f2 : Nat) (rest : List Bool), rlens small all (f2 + 1) (runBits small r ++ rest) l = rlens small all f2 rest (l ++ List.replicate k what)) →
     rlens small all (g + (runOf what (f + 1) n).length) (runsBits small (runOf what (f + 1) n) ++ rest) l = rlens small all g rest (l ++ List.replicate n what) := by
    intro r rs k e1 e2 hk hk1 hone
    have e3 : runsBits small (r :: rs) ++ rest = runBits small r ++ (runsBits small rs ++ rest) := by
     unfold runsBits
     rw [List.flatMap_cons, List.append_assoc]
    rw [e1, List.length_cons, e3, show g + (rs.length + 1) = (g + rs.length) + 1 by omega, hone, e2]
    rw [rlens_runOf small all rest what hw f (n - k) g _ (by omega) (by rw [List.length_append, List.length_replicate]; omega) (hlast.imp id fun h => last_of l k what h) (fun q hq => hr q (by rw [e1, e2]; exact List.mem_cons_of_mem _ hq)), List.append_assoc, List.replicate_append_replicate, show k + (n - k) = n by omega]
   by_cases h1 : what = 0 ∧ 11 ≤ n
   ·have e : runOf what (f + 1) n = (18, min n 138 - 11, 7) :: runOf what f (n - min n 138) := by rw [runOf, if_neg h0, if_pos h1]
    refine hcons _ _ (min n 138) e rfl (by omega) (by omega) fun f2 rest => ?_
    refine rlens_one small all f2 rest l _ _ what (hr _ (by rw [e]; simp)) (by omega) (by omega) (.inr (.inr (.inl ⟨rfl, rfl, ?_, ?_, h1.1⟩))) <;> simp only <;> omega
   ·by_cases h2 : what = 0 ∧ 3 ≤ n
    ·have e : runOf what (f + 1) n = (17, n - 3, 3) :: runOf what f (n - n) := by
      rw [runOf, if_neg h0, if_neg h1, if_pos h2, Nat.sub_self]
      cases f <;> simp [runOf]
     refine hcons _ _ n e rfl (by omega) (by omega) fun f2 rest => ?_
     refine rlens_one small all f2 rest l _ _ what (hr _ (by rw [e]; simp)) (by omega) (by omega) (.inr (.inl ⟨rfl, rfl, ?_, ?_, h2.1⟩)) <;> simp only <;> omega
    ·by_cases h3 : 0 < what ∧ 3 ≤ n
     ·have e : runOf what (f + 1) n = (16, min n 6 - 3, 2) :: runOf what f (n - min n 6) := by rw [runOf, if_neg h0, if_neg h1, if_neg h2, if_pos h3]
      have hla := hlast.resolve_left (by omega)
      refine hcons _ _ (min n 6) e rfl (by omega) (by omega) fun f2 rest => ?_
      refine rlens_one small all f2 rest l _ _ what (hr _ (by rw [e]; simp)) (by omega) (by omega) (.inl ⟨rfl, rfl, ?_, ?_, hla.1, hla.2⟩) <;> simp only <;> omega
     ·have e : runOf what (f + 1) n = (what, 0, 0) :: runOf what f (n - 1) := by rw [runOf, if_neg h0, if_neg h1, if_neg h2, if_neg h3]
      refine hcons _ _ 1 e rfl (by omega) (by omega) fun f2 rest => ?_
      exact rlens_one small all f2 rest l _ _ what (hr _ (by rw [e]; simp)) (by omega) (by omega) (.inr (.inr (.inr ⟨hw, rfl, rfl, rfl, rfl⟩)))
theorem runsBits_append (small : List Nat) (a b : List Run) : runsBits small (a ++ b) = runsBits small a ++ runsBits small b := by
 unfold runsBits
 rw [List.flatMap_append]
theorem rlens_runsF (small : List Nat) (all : Nat) (rest : List Bool) : ∀ (f g : Nat) (m l : List Nat), m.length ≤ f → (∀ x ∈ m, x ≤ 15) → l.length + m.length ≤ all → (∀ r ∈ runsF f m, SRd small r.1) →
  rlens small all (g + (runsF f m).length) (runsBits small (runsF f m) ++ rest) l = rlens small all g rest (l ++ m)
 | 0, g, m, l, h, _, _, _ => by
  have : m = [] := List.eq_nil_of_length_eq_zero (by omega)
  subst this
  simp [runsF, runsBits]
 | f + 1, g, [], l, _, _, _, _ => by simp [runsF, runsBits]
 | f + 1, g, a :: r, l, h, h15, hl, hr => by
  obtain ⟨s1, s2⟩ := alike_spec a r
  have ha := h15 a (by simp)
  rw [List.length_cons] at h hl
  have hm : a :: r = List.replicate (alike a r + 1) a ++ r.drop (alike a r) := by
   rw [List.replicate_succ, List.cons_append, ← s2, List.take_append_drop]
  have hrest := rlens_runsF small all rest f g (r.drop (alike a r)) (l ++ List.replicate (alike a r + 1) a) (by rw [List.length_drop]; omega) (fun x hx => h15 x (List.mem_cons_of_mem _ (List.mem_of_mem_drop hx))) (by rw [List.length_append, List.length_replicate, List.length_drop]; omega) (fun q hq => hr q (by rw [runsF]; exact List.mem_append_right _ hq))
  rw [runsF, List.length_append, runsBits_append, List.append_assoc]
  conv => rhs; rw [hm, ← List.append_assoc, ← hrest]
  rw [show ∀ x y, g + (x + y) = (g + y) + x by omega]
  have hr2 : ∀ q ∈ (if 0 < a then ((a, 0, 0) :: runOf a (alike a r) (alike a r) : List Run) else runOf a (alike a r + 1) (alike a r + 1)), SRd small q.1 := fun q hq => hr q (by rw [runsF]; exact List.mem_append_left _ hq)
  by_cases h0 : 0 < a
  ·rw [if_pos h0] at hr2 ⊢
   have e3 : ∀ rest2, runsBits small ((a, 0, 0) :: runOf a (alike a r) (alike a r)) ++ rest2 = runBits small (a, 0, 0) ++ (runsBits small (runOf a (alike a r) (alike a r)) ++ rest2) := by
    intro rest2
    unfold runsBits
    rw [List.flatMap_cons, List.append_assoc]
   rw [e3, List.length_cons, ← Nat.add_assoc, rlens_one small all _ _ l (a, 0, 0) 1 a (hr2 _ (by simp)) (by omega) (by omega) (.inr (.inr (.inr ⟨ha, rfl, rfl, rfl, rfl⟩))), rlens_runOf small all _ a ha _ _ _ _ (Nat.le_refl _) (by rw [List.length_append, List.length_replicate]; omega) (.inr ⟨by simp, by simp⟩) (fun q hq => hr2 q (List.mem_cons_of_mem _ hq)), List.append_assoc, List.replicate_append_replicate, Nat.add_comm 1]
  ·rw [if_neg h0] at hr2 ⊢
   rw [rlens_runOf small all _ a ha _ _ _ _ (Nat.le_refl _) (by omega) (.inl (by omega)) hr2]
theorem rlens_end (small : List Nat) (all f : Nat) (bs : List Bool) (l : List Nat) (h : ¬ l.length < all) : rlens small all (f + 1) bs l = some (l, bs) := by rw [rlens_succ, if_neg h]
theorem runsBits_long (small : List Nat) : ∀ rs : List Run, (∀ r ∈ rs, SRd small r.1) → rs.length ≤ (runsBits small rs).length
 | [], _ => by simp
 | r :: rs, h => by
  have ih := runsBits_long small rs fun q hq => h q (List.mem_cons_of_mem _ hq)
  have h1 := List.length_pos_iff.2 (h r (by simp)).1
  unfold runsBits at *
  rw [List.flatMap_cons, List.length_append, List.length_cons, runBits, List.length_append]
  omega
end Inf
end Go.Proofs.YtkegkelaffohjaaGreatDoor
namespace Go.Proofs.YtkegkelaffohjaaGreatDoor
namespace Inf
open Mat Huf
theorem high_low (c : Nat) : ∀ d, high c d = (Bit.low c d).reverse
 | 0 => rfl
 | d + 1 => by
  rw [high, high_low c d]
  unfold Bit.low
  rw [List.range_succ, List.map_append, List.reverse_append]
  rfl
theorem five_word (d : Nat) (h : d < 32) (rest : List Bool) : five (high d 5 ++ rest) = some (d, rest) := by
 unfold five
 rw [List.length_append, high_length, if_neg (by omega), List.take_left' (high_length d 5), List.drop_left' (high_length d 5), high_low, List.reverse_reverse, Bit.val_low_of (by omega)]
theorem fixed_count (n : Nat) : fixedL.count n = if n = 7 then 24 else if n = 8 then 152 else if n = 9 then 112 else 0 := by
 unfold fixedL
 simp only [List.count_append, List.count_replicate, beq_iff_eq]
 by_cases h7 : n = 7
 ·subst h7; rfl
 ·by_cases h8 : n = 8
  ·subst h8; rfl
  ·by_cases h9 : n = 9
   ·subst h9; rfl
   ·rw [if_neg (by omega), if_neg (by omega), if_neg (by omega), if_neg (by omega), if_neg h7, if_neg h8, if_neg h9]
theorem fixed_good : Huf.Good fixedL := by
 refine ⟨fun x hx => ?_, .inr (.inr (by simp [K, fixed_count]))⟩
 unfold fixedL at hx
 simp only [List.mem_append, List.mem_replicate] at hx
 omega
theorem fixed_at : ∀ k, k < 288 → ∃ n, 1 ≤ n ∧ fixedL[k]? = some n := by
 intro k hk
 have h : ∀ x ∈ fixedL, 1 ≤ x := by
  intro x hx
  unfold fixedL at hx
  simp only [List.mem_append, List.mem_replicate] at hx
  omega
 have hl : fixedL.length = 288 := by unfold fixedL; rw [List.length_append, List.length_append, List.length_append, List.length_replicate, List.length_replicate, List.length_replicate, List.length_replicate]
 have hk2 : k < fixedL.length := by rw [hl]; exact hk
 exact ⟨fixedL[k]'hk2, h _ (List.getElem_mem hk2), List.getElem?_eq_getElem hk2⟩
theorem word_rd {l : List Nat} (h : Huf.Good l) {i n : Nat} (hn : 1 ≤ n) (hi : l[i]? = some n) : Rd (next l 15 0 0) (word l) i := by
 refine ⟨fun e => ?_, fun rest => next_word h hn hi rest⟩
 have := congrArg List.length e
 unfold word at this
 rw [hi, high_length] at this
 simp at this
 omega
/- counts -/
def bump (l : List Nat) (k : Nat) : List Nat := l.set k (l.getD k 0 + 1)
theorem bump_length (l : List Nat) (k : Nat) : (bump l k).length = l.length := by simp [bump]
theorem bump_at (l : List Nat) (k j : Nat) (hk : k < l.length) : (bump l k).getD j 0 = l.getD j 0 + if j = k then 1 else 0 := by
 unfold bump
 rw [List.getD_eq_getElem?_getD, List.getElem?_set]
 by_cases e : k = j
 ·subst e
  rw [if_pos rfl, if_pos hk, if_pos rfl]
  rfl
 ·rw [if_neg e, if_neg (fun h => e h.symm), List.getD_eq_getElem?_getD]
  rfl
theorem bump_ge (l : List Nat) (k j : Nat) : l.getD j 0 ≤ (bump l k).getD j 0 := by
 rcases Nat.lt_or_ge k l.length with h | h
 ·rw [bump_at l k j h]; omega
 ·unfold bump
  rw [List.set_eq_of_length_le h]
  exact Nat.le_refl _
theorem bumps_length : ∀ (ks l : List Nat), (ks.foldl bump l).length = l.length
 | [], _ => rfl
 | k :: ks, l => by rw [List.foldl_cons, bumps_length ks, bump_length]
theorem bumps_ge : ∀ (ks l : List Nat) (j : Nat), l.getD j 0 ≤ (ks.foldl bump l).getD j 0
 | [], _, _ => Nat.le_refl _
 | k :: ks, l, j => by rw [List.foldl_cons]; exact Nat.le_trans (bump_ge l k j) (bumps_ge ks _ j)
theorem bumps_pos : ∀ (ks l : List Nat) (k : Nat), k ∈ ks → k < l.length → 0 < (ks.foldl bump l).getD k 0
 | [], _, _, h, _ => by simp at h
 | a :: ks, l, k, h, hk => by
  rw [List.foldl_cons]
  rcases List.mem_cons.1 h with e | e
  ·subst e
   have h1 := bumps_ge ks (bump l k) k
   have h2 := bump_at l k k hk
   rw [if_pos rfl] at h2
   omega
  ·exact bumps_pos ks _ k e (by rw [bump_length]; exact hk)
def symOf (t : Tok) : Nat := if t.n = 0 then t.b.toNat else 257 + lenAt t.n
def symCounts (l : List Tok) : List Nat := (l.map symOf).foldl bump ((List.replicate 286 0).set 256 1)
def distCounts (l : List Tok) : List Nat := ((l.filter fun t => decide (t.n ≠ 0)).map fun t => distAt t.d).foldl bump (List.replicate 30 0)
def runCounts (rs : List Run) : List Nat := (rs.map (·.1)).foldl bump (List.replicate 19 0)
def trim (l : List Nat) (o : Nat → Nat) (least : Nat) : Nat → Nat
 | 0 => 0
 | k + 1 => if least < k + 1 ∧ l.getD (o k) 0 = 0 then trim l o least k else k + 1
theorem trim_is (l : List Nat) (o : Nat → Nat) (least : Nat) : ∀ n, least ≤ n → least ≤ trim l o least n ∧ trim l o least n ≤ n ∧ ∀ k, trim l o least n ≤ k → k < n → l.getD (o k) 0 = 0
 | 0, h => ⟨by simpa [trim] using h, by simp [trim], fun k _ h => by omega⟩
 | n + 1, h => by
  rw [trim]
  split
  ·rename_i hc
   obtain ⟨h1, h2, h3⟩ := trim_is l o least n (by omega)
   refine ⟨h1, by omega, fun k hk hk2 => ?_⟩
   rcases Nat.lt_or_ge k n with g | g
   ·exact h3 k hk g
   ·have : k = n := by omega
    rw [this]
    exact hc.2
  ·exact ⟨h, Nat.le_refl _, fun k hk hk2 => by omega⟩
def lensOf (l : List Tok) : List Nat := lengths (symCounts l) 15
def distsOf (l : List Tok) : List Nat := lengths (distCounts l) 15
def manyOf (l : List Tok) : Nat := trim (lensOf l) id 257 286
def farOf (l : List Tok) : Nat := trim (distsOf l) id 1 30
def rowOf (l : List Tok) : List Run := runs ((lensOf l).take (manyOf l) ++ (distsOf l).take (farOf l))
def smallOf (l : List Tok) : List Nat := lengths (runCounts (rowOf l)) 7
def fewOf (l : List Tok) : Nat := trim (smallOf l) (fun k => Order.getD k 0) 4 19
def dynBits (l : List Tok) : List Bool :=
 Bit.low 5 3 ++ Bit.low (manyOf l - 257) 5 ++ Bit.low (farOf l - 1) 5 ++ Bit.low (fewOf l - 4) 4 ++ (Order.take (fewOf l)).flatMap (fun k => Bit.low ((smallOf l).getD k 0) 3) ++ runsBits (smallOf l) (rowOf l) ++ toksBits (word (lensOf l)) (word (distsOf l)) l
def fixBits (l : List Tok) : List Bool := Bit.low 3 3 ++ toksBits (word fixedL) (fun d => high d 5) l
def align (bs : List Bool) : List Bool := bs ++ List.replicate (8 * ((bs.length + 7) / 8) - bs.length) false
def storedF : Nat → List UInt8 → List Bool → List Bool
 | 0, _, bs => bs
 | f + 1, s, bs =>
  if s.length ≤ 65535 then align (bs ++ Bit.low 1 3) ++ Bit.low s.length 16 ++ Bit.low (65535 - s.length) 16 ++ Bit.bits s
  else storedF f (s.drop 65535) (align (bs ++ Bit.low 0 3) ++ Bit.low 65535 16 ++ Bit.low 0 16 ++ Bit.bits (s.take 65535))
def stored (s : List UInt8) : List UInt8 := Bit.pack (storedF (s.length + 1) s [])
def shorter (a b : List UInt8) : List UInt8 := if a.length < b.length then a else b
def deflate (s : List UInt8) : List UInt8 := shorter (Bit.pack (dynBits (tokens s))) (shorter (Bit.pack (fixBits (tokens s))) (stored s))
/- read back -/
theorem toksBits_long {nl nd : List Bool → Option (Nat × List Bool)} {wl wd : Nat → List Bool} (he : Rd nl wl 256) : ∀ (l : List Tok), (∀ t ∈ l, TokRd nl nd wl wd t) → l.length < (toksBits wl wd l).length
 | [], _ => by unfold toksBits; rw [List.flatMap_nil, List.nil_append, List.length_nil]; exact List.length_pos_iff.2 he.1
 | t :: l, h => by
  have ih := toksBits_long he l fun u hu => h u (List.mem_cons_of_mem _ hu)
  have h1 := tokBits_pos (h t (by simp))
  unfold toksBits at *
  rw [List.flatMap_cons, List.length_append, List.length_append, List.length_cons]
  rw [List.length_append] at ih
  omega
theorem allOK_of : ∀ (l : List Tok) (a : Nat), AllOK l a → ∀ t ∈ l, t.n = 0 ∨ (3 ≤ t.n ∧ t.n ≤ 258 ∧ 1 ≤ t.d ∧ t.d ≤ 32768)
 | [], _, _, t, h => by simp at h
 | u :: l, a, ok, t, h => by
  rcases List.mem_cons.1 h with e | e
  ·subst e
   rcases ok.1 with h | h
   ·exact .inl h.1
   ·exact .inr ⟨h.2.1, h.2.2.1, h.2.2.2.1, h.2.2.2.2.1⟩
  ·exact allOK_of l _ ok.2 t e
theorem rblock_fix (l : List Tok) (most : Nat) (rest : List Bool) (ok : AllOK l 0) (hm : (expand l []).length ≤ most) : rblock most (fixBits l ++ rest) [] = .ok (true, rest, expand l []) := by
 have hw : ∀ k, k < 288 → Rd (next fixedL 15 0 0) (word fixedL) k := fun k hk => by
  obtain ⟨n, h1, h2⟩ := fixed_at k hk
  exact word_rd fixed_good h1 h2
 have hr : ∀ t ∈ l, TokRd (next fixedL 15 0 0) five (word fixedL) (fun d => high d 5) t := fun t ht => by
  unfold TokRd
  rcases allOK_of l 0 ok t ht with h | ⟨h1, h2, h3, h4⟩
  ·rw [if_pos h]
   exact hw _ (by have := t.b.toNat_lt; omega)
  ·rw [if_neg (by omega)]
   have := (len_place t.n h1 h2).1
   have h5 := (dist_place t.d h3 h4).1
   refine ⟨hw _ (by omega), fun e => ?_, fun rest => five_word _ (by omega) rest⟩
   have := congrArg List.length e
   rw [high_length] at this
   simp at this
 unfold rblock fixBits
 rw [show Bit.low 3 3 = Bit.low 1 1 ++ Bit.low 1 2 by decide, List.append_assoc, List.append_assoc, get_low _ _ _ (by decide)]
 simp only
 rw [get_low _ _ _ (by decide)]
 simp only
 have hlong := toksBits_long (hw 256 (by omega)) l hr
 rw [if_neg (by decide), if_pos trivial, rtoks_toks rest (hw 256 (by omega)) l _ [] (by rw [List.length_append]; omega) hr ok hm]
 rfl
theorem coinsF_length : ∀ (i : Nat) (l : List Nat), (coinsF i l).length ≤ l.length
 | _, [] => by simp [coinsF]
 | i, n :: r => by
  have := coinsF_length (i + 1) r
  rw [coinsF, List.length_cons]
  split
  ·rw [List.length_cons]; omega
  ·omega
theorem K_trim {l : List Nat} {m : Nat} (h : ∀ k, m ≤ k → k < l.length → l.getD k 0 = 0) : (∀ n, n ≠ 0 → (l.take m).count n = l.count n) ∧ ∀ n, K (l.take m) n = K l n := by
 have h0 : ∀ n, n ≠ 0 → (l.drop m).count n = 0 := by
  intro n hn
  rw [List.count_eq_zero]
  intro hm
  obtain ⟨i, hi, e⟩ := List.getElem_of_mem hm
  rw [List.length_drop] at hi
  have := h (m + i) (by omega) (by omega)
  rw [List.getD_eq_getElem?_getD, List.getElem?_eq_getElem (by omega)] at this
  rw [List.getElem_drop] at e
  simp only [Option.getD_some] at this
  omega
 have h1 : ∀ n, n ≠ 0 → (l.take m).count n = l.count n := by
  intro n hn
  have : l.count n = (l.take m).count n + (l.drop m).count n := by rw [← List.count_append, List.take_append_drop]
  rw [h0 n hn] at this
  omega
 refine ⟨h1, fun n => ?_⟩
 induction n with
 | zero => rfl
 | succ n ih => rw [K, K, ih, h1 _ (by omega)]
theorem good_trim {l : List Nat} {m : Nat} (hm : m ≤ l.length) (h : ∀ k, m ≤ k → k < l.length → l.getD k 0 = 0) (g : Huf.Good l) : Huf.Good (l.take m) := by
 obtain ⟨h1, h2⟩ := K_trim h
 have hd : (l.drop m).count 0 = l.length - m := by
  have := List.length_drop (i := m) (l := l)
  rw [← this, List.count_eq_length]
  intro x hx
  obtain ⟨i, hi, e⟩ := List.getElem_of_mem hx
  rw [List.length_drop] at hi
  have := h (m + i) (by omega) (by omega)
  rw [List.getD_eq_getElem?_getD, List.getElem?_eq_getElem (by omega)] at this
  rw [List.getElem_drop] at e
  simp only [Option.getD_some] at this
  omega
 have hc : l.count 0 = (l.take m).count 0 + (l.drop m).count 0 := by rw [← List.count_append, List.take_append_drop]
 have hl : (l.take m).length = m := by rw [List.length_take, Nat.min_eq_left hm]
 refine ⟨fun x hx => g.1 x (List.mem_of_mem_take hx), ?_⟩
 rw [hl, h1 1 (by omega), h2]
 rcases g.2 with e | ⟨e1, e2⟩ | e
 ·exact .inl (by omega)
 ·exact .inr (.inl ⟨by omega, e2⟩)
 ·exact .inr (.inr e)
theorem word_trim {l : List Nat} {m i : Nat} (hi : i < m) (h : ∀ k, m ≤ k → k < l.length → l.getD k 0 = 0) : word (l.take m) i = word l i := by
 unfold word code
 rw [List.getElem?_take, if_pos hi, (K_trim h).2, List.take_take, Nat.min_eq_left (by omega)]
theorem lengths_rd (counts : List Nat) (most : Nat) (h1 : 1 ≤ most) (h15 : most ≤ 15) (hc : counts.length ≤ 2 ^ most) (k : Nat) (hk : 0 < counts.getD k 0) : Huf.Good (lengths counts most) ∧ k < counts.length ∧ 0 < (lengths counts most).getD k 0 ∧ Rd (next (lengths counts most) 15 0 0) (word (lengths counts most)) k := by
 obtain ⟨g, h⟩ := lengths_good counts most h1 h15 (Nat.le_trans (coinsF_length 0 counts) hc)
 have hlt : k < counts.length := by
  rcases Nat.lt_or_ge k counts.length with e | e
  ·exact e
  ·rw [List.getD_eq_getElem?_getD, List.getElem?_eq_none e] at hk
   simp at hk
 have ha := lengths_at counts most k hlt
 have hp := (h k hlt).1.2 (by rw [← List.getD_eq_getElem?_getD]; exact hk)
 refine ⟨g, hlt, ?_, word_rd g hp ha⟩
 rw [List.getD_eq_getElem?_getD, ha]
 exact hp
theorem rsmall_is (small : List Nat) (h8 : ∀ k, small.getD k 0 < 8) (rest : List Bool) : ∀ (ks : List Nat) (l : List Nat), rsmall ks (ks.flatMap (fun k => Bit.low (small.getD k 0) 3) ++ rest) l = some (ks.foldl (fun l k => l.set k (small.getD k 0)) l, rest)
 | [], l => rfl
 | k :: ks, l => by
  rw [List.flatMap_cons, List.append_assoc, rsmall, get_low _ _ _ (h8 k)]
  simp only
  rw [rsmall_is small h8 rest ks, List.foldl_cons]
theorem sets_at (small : List Nat) (j : Nat) : ∀ (ks l : List Nat), j < l.length → (ks.foldl (fun l k => l.set k (small.getD k 0)) l)[j]? = if j ∈ ks then some (small.getD j 0) else l[j]?
 | [], l, _ => by simp
 | k :: ks, l, h => by
  rw [List.foldl_cons, sets_at small j ks _ (by simpa using h)]
  by_cases e : j ∈ ks
  ·rw [if_pos e, if_pos (List.mem_cons_of_mem _ e)]
  ·rw [if_neg e, List.getElem?_set]
   by_cases e2 : k = j
   ·subst e2
    rw [if_pos rfl, if_pos h, if_pos List.mem_cons_self]
   ·rw [if_neg e2, if_neg (fun hm => (List.mem_cons.1 hm).elim (fun e3 => e2 e3.symm) e)]
theorem sets_length (small : List Nat) : ∀ (ks l : List Nat), (ks.foldl (fun l k => l.set k (small.getD k 0)) l).length = l.length
 | [], _ => rfl
 | k :: ks, l => by rw [List.foldl_cons, sets_length small ks, List.length_set]
theorem small_back (small : List Nat) (few : Nat) (hl : small.length = 19) (hz : ∀ j, few ≤ j → j < 19 → small.getD (Order.getD j 0) 0 = 0) : (Order.take few).foldl (fun l k => l.set k (small.getD k 0)) (List.replicate 19 0) = small := by
 refine List.ext_getElem? fun j => ?_
 rcases Nat.lt_or_ge j 19 with h | h
 ·rw [sets_at small j _ _ (by simpa using h), List.getElem?_eq_getElem (by omega : j < small.length)]
  have hs : small.getD j 0 = small[j]'(by omega) := by rw [List.getD_eq_getElem?_getD, List.getElem?_eq_getElem (by omega : j < small.length)]; rfl
  by_cases e : j ∈ Order.take few
  ·rw [if_pos e, hs]
  ·rw [if_neg e, List.getElem?_replicate, if_pos h, ← hs]
   have hm : ∀ j, j < 19 → ∃ i, i < 19 ∧ Order[i]? = some j := by decide
   obtain ⟨i, hi, he⟩ := hm j h
   have hle : few ≤ i := by
    rcases Nat.lt_or_ge i few with g | g
    ·exact absurd (List.mem_iff_getElem?.2 ⟨i, by rw [List.getElem?_take, if_pos g]; exact he⟩) e
    ·exact g
   have := hz i hle hi
   rw [List.getD_eq_getElem?_getD (l := Order), he] at this
   exact congrArg some this.symm
 ·rw [List.getElem?_eq_none (by rw [sets_length]; simpa using h), List.getElem?_eq_none (by omega)]
theorem runOf_sym (what : Nat) (hw : what ≤ 15) : ∀ (f n : Nat), ∀ r ∈ runOf what f n, r.1 < 19
 | 0, _, r, h => by simp [runOf] at h
 | f + 1, n, r, h => by
  have ih := runOf_sym what hw f
  rw [runOf] at h
  split at h
  ·simp at h
  ·split at h
   ·rcases List.mem_cons.1 h with e | e
    ·rw [e]; simp
    ·exact ih _ r e
   ·split at h
    ·rw [List.mem_singleton.1 h]; simp
    ·split at h
     ·rcases List.mem_cons.1 h with e | e
      ·rw [e]; simp
      ·exact ih _ r e
     ·rcases List.mem_cons.1 h with e | e
      ·rw [e]; simp only; omega
      ·exact ih _ r e
theorem runsF_sym : ∀ (f : Nat) (l : List Nat), (∀ x ∈ l, x ≤ 15) → ∀ r ∈ runsF f l, r.1 < 19
 | 0, _, _, r, h => by simp [runsF] at h
 | _ + 1, [], _, r, h => by simp [runsF] at h
 | f + 1, a :: l, h15, r, h => by
  have ha := h15 a (by simp)
  rw [runsF] at h
  rcases List.mem_append.1 h with h | h
  ·split at h
   ·rcases List.mem_cons.1 h with e | e
    ·rw [e]; simp only; omega
    ·exact runOf_sym a ha _ _ r e
   ·exact runOf_sym a ha _ _ r h
  ·exact runsF_sym f _ (fun x hx => h15 x (List.mem_cons_of_mem _ (List.mem_of_mem_drop hx))) r h
structure Dyn (l : List Tok) : Prop where
 many : 257 ≤ manyOf l ∧ manyOf l ≤ 286
 far : 1 ≤ farOf l ∧ farOf l ≤ 30
 few : 4 ≤ fewOf l ∧ fewOf l ≤ 19
 gl : Huf.Good ((lensOf l).take (manyOf l))
 gd : Huf.Good ((distsOf l).take (farOf l))
 gs : Huf.Good (smallOf l)
 end_ : 0 < (lensOf l).getD 256 0
 back : (Order.take (fewOf l)).foldl (fun l2 k => l2.set k ((smallOf l).getD k 0)) (List.replicate 19 0) = smallOf l
 s8 : ∀ k, (smallOf l).getD k 0 < 8
 srd : ∀ r ∈ rowOf l, SRd (smallOf l) r.1
 l15 : ∀ x ∈ (lensOf l).take (manyOf l) ++ (distsOf l).take (farOf l), x ≤ 15
 ll : (lensOf l).length = 286
 dl : (distsOf l).length = 30
 wl : ∀ k, k < manyOf l → word ((lensOf l).take (manyOf l)) k = word (lensOf l) k
 wd : ∀ k, k < farOf l → word ((distsOf l).take (farOf l)) k = word (distsOf l) k
 tl : ∀ k, 0 < (symCounts l).getD k 0 → k < manyOf l ∧ Rd (next ((lensOf l).take (manyOf l)) 15 0 0) (word (lensOf l)) k
 td : ∀ k, 0 < (distCounts l).getD k 0 → k < farOf l ∧ Rd (next ((distsOf l).take (farOf l)) 15 0 0) (word (distsOf l)) k
theorem symCounts_length (l : List Tok) : (symCounts l).length = 286 := by unfold symCounts; rw [bumps_length, List.length_set, List.length_replicate]
theorem distCounts_length (l : List Tok) : (distCounts l).length = 30 := by unfold distCounts; rw [bumps_length, List.length_replicate]
theorem runCounts_length (rs : List Run) : (runCounts rs).length = 19 := by unfold runCounts; rw [bumps_length, List.length_replicate]
theorem dyn_ok (l : List Tok) : Dyn l := by
 have cl := symCounts_length l
 have cd := distCounts_length l
 have c256 : 0 < (symCounts l).getD 256 0 := by
  unfold symCounts
  have := bumps_ge (l.map symOf) ((List.replicate 286 0).set 256 1) 256
  have e : ((List.replicate 286 0).set 256 1).getD 256 0 = 1 := by rw [List.getD_eq_getElem?_getD, List.getElem?_set, if_pos rfl, if_pos (by rw [List.length_replicate]; omega)]; rfl
  omega
 obtain ⟨gl, _, end_, _⟩ := lengths_rd (symCounts l) 15 (by omega) (by omega) (by omega) 256 c256
 obtain ⟨gd, _⟩ := lengths_good (distCounts l) 15 (by omega) (by omega) (Nat.le_trans (coinsF_length 0 _) (by omega))
 have ll : (lensOf l).length = 286 := by unfold lensOf; rw [lengths_length, cl]
 have dl : (distsOf l).length = 30 := by unfold distsOf; rw [lengths_length, cd]
 obtain ⟨m1, m2, m3⟩ := trim_is (lensOf l) id 257 286 (by omega)
 obtain ⟨f1, f2, f3⟩ := trim_is (distsOf l) id 1 30 (by omega)
 have mz : ∀ k, manyOf l ≤ k → k < (lensOf l).length → (lensOf l).getD k 0 = 0 := fun k h1 h2 => m3 k h1 (by omega)
 have fz : ∀ k, farOf l ≤ k → k < (distsOf l).length → (distsOf l).getD k 0 = 0 := fun k h1 h2 => f3 k h1 (by omega)
 have gl2 := good_trim (m := manyOf l) (by unfold manyOf; omega) mz gl
 have gd2 := good_trim (m := farOf l) (by unfold farOf; omega) fz gd
 have l15 : ∀ x ∈ (lensOf l).take (manyOf l) ++ (distsOf l).take (farOf l), x ≤ 15 := fun x hx => by
  rcases List.mem_append.1 hx with h | h
  ·exact gl2.1 x h
  ·exact gd2.1 x h
 have wl : ∀ k, k < manyOf l → word ((lensOf l).take (manyOf l)) k = word (lensOf l) k := fun k hk => word_trim hk mz
 have wd : ∀ k, k < farOf l → word ((distsOf l).take (farOf l)) k = word (distsOf l) k := fun k hk => word_trim hk fz
 have rc := runCounts_length (rowOf l)
 obtain ⟨gs, s7⟩ := lengths_good (runCounts (rowOf l)) 7 (by omega) (by omega) (Nat.le_trans (coinsF_length 0 _) (by omega))
 have sl : (smallOf l).length = 19 := by unfold smallOf; rw [lengths_length, rc]
 obtain ⟨w1, w2, w3⟩ := trim_is (smallOf l) (fun k => Order.getD k 0) 4 19 (by omega)
 have tr : ∀ (m : List Nat) (n : Nat) (counts : List Nat), m = lengths counts 15 → counts.length ≤ 2 ^ 15 → (∀ k, n ≤ k → k < m.length → m.getD k 0 = 0) → Huf.Good (m.take n) → ∀ k, 0 < counts.getD k 0 → k < n ∧ Rd (next (m.take n) 15 0 0) (word m) k := by
  intro m n counts hm hc hz hg k hk
  obtain ⟨_, hk2, hp, _⟩ := lengths_rd counts 15 (by omega) (by omega) hc k hk
  rw [← hm] at hp
  have hml : m.length = counts.length := by rw [hm, lengths_length]
  have hkn : k < n := by
   rcases Nat.lt_or_ge k n with g | g
   ·exact g
   ·have := hz k g (by omega)
    omega
  refine ⟨hkn, ?_⟩
  have hi : (m.take n)[k]? = some (m.getD k 0) := by rw [List.getElem?_take, if_pos hkn, List.getD_eq_getElem?_getD, List.getElem?_eq_getElem (by omega)]; rfl
  obtain ⟨g1, g2⟩ := word_rd hg hp hi
  rw [word_trim hkn hz] at g1 g2
  exact ⟨g1, g2⟩
 refine ⟨⟨m1, m2⟩, ⟨f1, f2⟩, ⟨w1, w2⟩, gl2, gd2, gs, end_, small_back _ _ sl w3, fun k => ?_, fun r hr => ?_, l15, ll, dl, wl, wd, tr _ _ _ rfl (by omega) mz gl2, tr _ _ _ rfl (by omega) fz gd2⟩
 ·rcases Nat.lt_or_ge k 19 with h | h
  ·have := (s7 k (by omega)).2
   unfold smallOf
   rw [List.getD_eq_getElem?_getD, lengths_at _ _ _ (by omega)]
   simp only [Option.getD_some]
   omega
  ·rw [List.getD_eq_getElem?_getD, List.getElem?_eq_none (by omega)]
   simp
 ·have h19 := runsF_sym _ _ l15 r hr
  have hp := bumps_pos ((rowOf l).map (·.1)) (List.replicate 19 0) r.1 (List.mem_map.2 ⟨r, hr, rfl⟩) (by rw [List.length_replicate]; exact h19)
  exact (lengths_rd (runCounts (rowOf l)) 7 (by omega) (by omega) (by omega) r.1 hp).2.2.2
theorem rdynamic_dyn (l : List Tok) (rest : List Bool) : rdynamic (Bit.low (manyOf l - 257) 5 ++ (Bit.low (farOf l - 1) 5 ++ (Bit.low (fewOf l - 4) 4 ++ ((Order.take (fewOf l)).flatMap (fun k => Bit.low ((smallOf l).getD k 0) 3) ++ (runsBits (smallOf l) (rowOf l) ++ rest))))) = some (((lensOf l).take (manyOf l), (distsOf l).take (farOf l)), rest) := by
 have D := dyn_ok l
 obtain ⟨m1, m2⟩ := D.many
 obtain ⟨f1, f2⟩ := D.far
 obtain ⟨w1, w2⟩ := D.few
 have hll : ((lensOf l).take (manyOf l)).length = manyOf l := by rw [List.length_take, D.ll]; omega
 have hdl : ((distsOf l).take (farOf l)).length = farOf l := by rw [List.length_take, D.dl]; omega
 have hlong := runsBits_long (smallOf l) (rowOf l) D.srd
 unfold rdynamic
 rw [get_low _ _ _ (by omega)]
 simp only
 rw [get_low _ _ _ (by omega)]
 simp only
 rw [get_low _ _ _ (by omega)]
 simp only
 rw [if_neg (by omega), show fewOf l - 4 + 4 = fewOf l by omega, rsmall_is _ D.s8, D.back]
 simp only
 have e : (runsBits (smallOf l) (rowOf l) ++ rest).length + 1 = ((runsBits (smallOf l) (rowOf l) ++ rest).length - (rowOf l).length + 1) + (rowOf l).length := by
  rw [List.length_append]
  omega
 have hr := rlens_runsF (smallOf l) (manyOf l - 257 + 257 + (farOf l - 1 + 1)) rest ((lensOf l).take (manyOf l) ++ (distsOf l).take (farOf l)).length ((runsBits (smallOf l) (rowOf l) ++ rest).length - (rowOf l).length + 1) ((lensOf l).take (manyOf l) ++ (distsOf l).take (farOf l)) [] (Nat.le_refl _) D.l15 (by rw [List.length_append, hll, hdl, List.length_nil]; omega) D.srd
 rw [if_neg (fun h => h D.gs), e]
 have hr2 : rlens (smallOf l) (manyOf l - 257 + 257 + (farOf l - 1 + 1)) ((runsBits (smallOf l) (rowOf l) ++ rest).length - (rowOf l).length + 1 + (rowOf l).length) (runsBits (smallOf l) (rowOf l) ++ rest) [] = some ((lensOf l).take (manyOf l) ++ (distsOf l).take (farOf l), rest) := by
  refine hr.trans ?_
  rw [List.nil_append, rlens_end _ _ _ _ _ (by rw [List.length_append, hll, hdl]; omega)]
 rw [hr2]
 simp only
 have h1 : ((lensOf l).take (manyOf l) ++ (distsOf l).take (farOf l)).take (manyOf l - 257 + 257) = (lensOf l).take (manyOf l) := List.take_left' (by omega)
 have h2 : ((lensOf l).take (manyOf l) ++ (distsOf l).take (farOf l)).drop (manyOf l - 257 + 257) = (distsOf l).take (farOf l) := List.drop_left' (by omega)
 rw [h1, h2, if_neg]
 rintro (h | h | h)
 ·exact h D.gl
 ·exact h D.gd
 ·have := D.end_
  rw [List.getD_eq_getElem?_getD, List.getElem?_take, if_pos (by omega), ← List.getD_eq_getElem?_getD] at h
  omega
theorem rblock_dyn (l : List Tok) (most : Nat) (rest : List Bool) (ok : AllOK l 0) (hm : (expand l []).length ≤ most) : rblock most (dynBits l ++ rest) [] = .ok (true, rest, expand l []) := by
 have D := dyn_ok l
 have he := D.tl 256 (by
  unfold symCounts
  have := bumps_ge (l.map symOf) ((List.replicate 286 0).set 256 1) 256
  have e : ((List.replicate 286 0).set 256 1).getD 256 0 = 1 := by rw [List.getD_eq_getElem?_getD, List.getElem?_set, if_pos rfl, if_pos (by rw [List.length_replicate]; omega)]; rfl
  omega)
 have hr : ∀ t ∈ l, TokRd (next ((lensOf l).take (manyOf l)) 15 0 0) (next ((distsOf l).take (farOf l)) 15 0 0) (word (lensOf l)) (word (distsOf l)) t := fun t ht => by
  have hs : symOf t < 286 → 0 < (symCounts l).getD (symOf t) 0 := fun h => bumps_pos _ _ _ (List.mem_map.2 ⟨t, ht, rfl⟩) (by rw [List.length_set, List.length_replicate]; exact h)
  unfold TokRd
  unfold symOf at hs
  rcases allOK_of l 0 ok t ht with h | ⟨h1, h2, h3, h4⟩
  ·rw [if_pos h] at hs ⊢
   exact (D.tl _ (hs (by have := t.b.toNat_lt; omega))).2
  ·rw [if_neg (by omega)] at hs ⊢
   have h5 := (len_place t.n h1 h2).1
   have h6 := (dist_place t.d h3 h4).1
   refine ⟨(D.tl _ (hs (by omega))).2, (D.td _ ?_).2⟩
   exact bumps_pos _ _ _ (List.mem_map.2 ⟨t, List.mem_filter.2 ⟨ht, by simp; omega⟩, rfl⟩) (by rw [List.length_replicate]; exact h6)
 have hlong := toksBits_long he.2 l hr
 unfold rblock dynBits
 simp only [List.append_assoc]
 rw [show Bit.low 5 3 = Bit.low 1 1 ++ Bit.low 2 2 by decide, List.append_assoc, get_low _ _ _ (by decide)]
 simp only
 rw [get_low _ _ _ (by decide)]
 simp only
 rw [if_neg (by decide), if_neg (by decide), if_pos trivial, rdynamic_dyn]
 simp only
 rw [rtoks_toks rest he.2 l _ [] (by rw [List.length_append]; omega) hr ok hm]
 rfl
end Inf
end Go.Proofs.YtkegkelaffohjaaGreatDoor
namespace Go.Proofs.YtkegkelaffohjaaGreatDoor
namespace Inf
open Mat Huf
theorem pack_bits (s : List UInt8) : Bit.pack (Bit.bits s) = s := by
 have hl : (Bit.pack (Bit.bits s)).length = s.length := by rw [Bit.pack_length, Bit.bits_length]; omega
 refine List.ext_getElem hl fun j h1 h2 => ?_
 rw [Bit.pack_get]
 refine UInt8.toNat_inj.1 ?_
 have hlt := Bit.byteOf_lt (Bit.bits s) j
 rw [UInt8.toNat_ofNat_of_lt' (by show _ < 256; omega)]
 refine Nat.eq_of_testBit_eq fun k => ?_
 unfold Bit.byteOf
 rw [Bit.testBit_val]
 rcases Nat.lt_or_ge k 8 with h | h
 ·rw [List.getElem?_take, if_pos h, List.getElem?_drop, Bit.bits_at _ _ (by omega), show (8 * j + k) / 8 = j by omega, show (8 * j + k) % 8 = k by omega, List.getElem?_eq_getElem h2]
  rfl
 ·rw [List.getElem?_take, if_neg (by omega)]
  have := s[j].toNat_lt
  have h3 : (2 : Nat) ^ 8 ≤ 2 ^ k := Nat.pow_le_pow_right (by omega) h
  rw [Nat.testBit_lt_two_pow (by omega)]
  rfl
def storedB (last : Nat) (c : List UInt8) : List Bool := Bit.low last 3 ++ (List.replicate 5 false ++ (Bit.low c.length 16 ++ (Bit.low (65535 - c.length) 16 ++ Bit.bits c)))
def storedG : Nat → List UInt8 → List Bool
 | 0, _ => []
 | f + 1, s => if s.length ≤ 65535 then storedB 1 s else storedB 0 (s.take 65535) ++ storedG f (s.drop 65535)
theorem storedB_length (last : Nat) (c : List UInt8) : (storedB last c).length = 40 + 8 * c.length := by
 unfold storedB
 simp only [List.length_append, Bit.low_length, List.length_replicate, Bit.bits_length]
 omega
theorem align_three (bs : List Bool) (k : Nat) (h : bs.length % 8 = 0) : align (bs ++ Bit.low k 3) = bs ++ (Bit.low k 3 ++ List.replicate 5 false) := by
 unfold align
 rw [List.length_append, Bit.low_length, List.append_assoc, show 8 * ((bs.length + 3 + 7) / 8) - (bs.length + 3) = 5 by omega]
theorem storedF_is : ∀ (f : Nat) (s : List UInt8) (bs : List Bool), bs.length % 8 = 0 → storedF f s bs = bs ++ storedG f s
 | 0, s, bs, _ => by simp [storedF, storedG]
 | f + 1, s, bs, h => by
  rw [storedF, storedG, align_three _ _ h, align_three _ _ h]
  split
  ·unfold storedB
   simp only [List.append_assoc]
  ·rename_i hs
   have hl : (s.take 65535).length = 65535 := by rw [List.length_take]; omega
   have e : bs ++ (Bit.low 0 3 ++ List.replicate 5 false) ++ Bit.low 65535 16 ++ Bit.low 0 16 ++ Bit.bits (s.take 65535) = bs ++ storedB 0 (s.take 65535) := by
    unfold storedB
    rw [hl]
    simp only [List.append_assoc]
   rw [e, storedF_is f _ _ (by rw [List.length_append, storedB_length]; omega), List.append_assoc]
theorem rblock_stored (last most : Nat) (hlast : last < 2) (c : List UInt8) (hc : c.length ≤ 65535) (rest : List Bool) (hr : rest.length % 8 = 0) (out : List UInt8) (hm : out.length + c.length ≤ most) :
  rblock most (storedB last c ++ rest) out = .ok (last == 1, rest, out ++ c) := by
 have e3 : Bit.low last 3 = Bit.low last 1 ++ Bit.low 0 2 := by
  have : ∀ k, k < 2 → Bit.low k 3 = Bit.low k 1 ++ Bit.low 0 2 := by decide
  exact this last hlast
 unfold rblock storedB
 rw [e3]
 simp only [List.append_assoc]
 rw [get_low _ _ _ (by omega)]
 simp only
 rw [get_low _ _ _ (by omega)]
 simp only
 rw [if_pos trivial]
 unfold rstored
 have hl : (List.replicate 5 false ++ (Bit.low c.length 16 ++ (Bit.low (65535 - c.length) 16 ++ (Bit.bits c ++ rest)))).length % 8 = 5 := by
  simp only [List.length_append, Bit.low_length, List.length_replicate, Bit.bits_length]
  omega
 rw [hl, List.drop_left' (by simp), get_low _ _ _ (by omega)]
 simp only
 rw [get_low _ _ _ (by omega)]
 simp only
 have hb := Bit.bits_length c
 rw [if_neg (by omega), if_neg (by rw [List.length_append]; omega), if_neg (by omega), List.drop_left' hb, List.take_left' hb, pack_bits]
theorem storedG_mod : ∀ (g : Nat) (s : List UInt8), (storedG g s).length % 8 = 0
 | 0, _ => rfl
 | g + 1, s => by
  rw [storedG]
  split
  ·rw [storedB_length]; omega
  ·rw [List.length_append, storedB_length]
   have := storedG_mod g (s.drop 65535)
   omega
theorem rblocks_stored (most : Nat) (rest : List Bool) (hr : rest.length % 8 = 0) : ∀ (g f : Nat) (s out : List UInt8), s.length < g → g ≤ f → out.length + s.length ≤ most → rblocks most f (storedG g s ++ rest) out = .ok (rest, out ++ s)
 | 0, _, _, _, h, _, _ => absurd h (by omega)
 | g + 1, 0, _, _, _, h, _ => absurd h (by omega)
 | g + 1, f + 1, s, out, h, hf, hm => by
  rw [rblocks, storedG]
  by_cases hs : s.length ≤ 65535
  ·rw [if_pos hs]
   rw [rblock_stored 1 most (by omega) s hs rest hr out hm]
   rfl
  ·rw [if_neg hs]
   have hl : (s.take 65535).length = 65535 := by rw [List.length_take]; omega
   have hg : (storedG g (s.drop 65535) ++ rest).length % 8 = 0 := by
    rw [List.length_append]
    have := storedG_mod g (s.drop 65535)
    omega
   rw [List.append_assoc, rblock_stored 0 most (by omega) _ (by omega) _ hg out (by omega)]
   simp only
   rw [if_neg (by decide), rblocks_stored most rest hr g f _ _ (by rw [List.length_drop]; omega) (by omega) (by rw [List.length_append, List.length_drop]; omega), List.append_assoc, List.take_append_drop]
theorem storedG_long : ∀ (g : Nat) (s : List UInt8), s.length < g → 8 * s.length + 8 ≤ (storedG g s).length
 | 0, _, h => absurd h (by omega)
 | g + 1, s, h => by
  rw [storedG]
  split
  ·rw [storedB_length]; omega
  ·have := storedG_long g (s.drop 65535) (by rw [List.length_drop]; omega)
   rw [List.length_append, storedB_length, List.length_take]
   rw [List.length_drop] at this
   omega
theorem bits_of_pack (B : List Bool) : ∃ pad : List Bool, Bit.bits (Bit.pack B) = B ++ pad ∧ pad.length < 8 ∧ (B.length + pad.length) % 8 = 0 := by
 refine ⟨_, Bit.bits_pack B, ?_, ?_⟩ <;> rw [List.length_replicate] <;> omega
end Inf
end Go.Proofs.YtkegkelaffohjaaGreatDoor
namespace Go.Proofs.YtkegkelaffohjaaGreatDoor
namespace Inf
open Mat Huf
def RunFit (r : Run) : Prop := r.1 < 19 ∧ r.2.1 < 2 ^ r.2.2 ∧ r.2.2 ≤ 7
theorem runOf_fit (a : Nat) (ha : a ≤ 15) : ∀ f n, (∀ r ∈ runOf a f n, RunFit r) ∧ (runOf a f n).length ≤ n
 | 0, n => ⟨fun r h => by simp [runOf] at h, by simp [runOf]⟩
 | f + 1, n => by
  rw [runOf]
  split
  ·exact ⟨fun r h => by simp at h, by simp⟩
  ·split
   ·rename_i h0 h
    obtain ⟨h1, h2⟩ := runOf_fit a ha f (n - min n 138)
    refine ⟨fun r hr => ?_, by rw [List.length_cons]; omega⟩
    rcases List.mem_cons.1 hr with e | e
    ·rw [e]; exact ⟨by simp only; omega, by simp only; omega, by simp only; omega⟩
    ·exact h1 r e
   ·split
    ·rename_i h0 h1 h
     refine ⟨fun r hr => ?_, by simp only [List.length_singleton]; omega⟩
     rw [List.mem_singleton.1 hr]
     exact ⟨by simp only; omega, by simp only; omega, by simp only; omega⟩
    ·split
     ·rename_i h0 h1 h2 h
      obtain ⟨h3, h4⟩ := runOf_fit a ha f (n - min n 6)
      refine ⟨fun r hr => ?_, by rw [List.length_cons]; omega⟩
      rcases List.mem_cons.1 hr with e | e
      ·rw [e]; exact ⟨by simp only; omega, by simp only; omega, by simp only; omega⟩
      ·exact h3 r e
     ·obtain ⟨h3, h4⟩ := runOf_fit a ha f (n - 1)
      refine ⟨fun r hr => ?_, by rw [List.length_cons]; omega⟩
      rcases List.mem_cons.1 hr with e | e
      ·rw [e]; exact ⟨by simp only; omega, by simp, by simp⟩
      ·exact h3 r e
theorem runsF_fit : ∀ (f : Nat) (l : List Nat), (∀ x ∈ l, x ≤ 15) → (∀ r ∈ runsF f l, RunFit r) ∧ (runsF f l).length ≤ l.length
 | 0, l, _ => ⟨fun r h => by simp [runsF] at h, by simp [runsF]⟩
 | _ + 1, [], _ => ⟨fun r h => by simp [runsF] at h, by simp [runsF]⟩
 | f + 1, a :: l, h => by
  have ha := h a (by simp)
  have hs := (alike_spec a l).1
  obtain ⟨h1, h2⟩ := runsF_fit f (l.drop (alike a l)) fun x hx => h x (List.mem_cons_of_mem _ (List.mem_of_mem_drop hx))
  rw [List.length_drop] at h2
  rw [runsF]
  split
  ·obtain ⟨h3, h4⟩ := runOf_fit a ha (alike a l) (alike a l)
   refine ⟨fun r hr => ?_, by rw [List.length_append, List.length_cons, List.length_cons]; omega⟩
   rcases List.mem_append.1 hr with e | e
   ·rcases List.mem_cons.1 e with e | e
    ·rw [e]; exact ⟨by simp only; omega, by simp, by simp⟩
    ·exact h3 r e
   ·exact h1 r e
  ·obtain ⟨h3, h4⟩ := runOf_fit a ha (alike a l + 1) (alike a l + 1)
   refine ⟨fun r hr => ?_, by rw [List.length_append, List.length_cons]; omega⟩
   rcases List.mem_append.1 hr with e | e
   ·exact h3 r e
   ·exact h1 r e
theorem row_fit (l : List Tok) : (∀ r ∈ rowOf l, RunFit r) ∧ (rowOf l).length ≤ 316 := by
 have D := dyn_ok l
 obtain ⟨h1, h2⟩ := runsF_fit _ _ D.l15
 refine ⟨h1, Nat.le_trans h2 ?_⟩
 rw [List.length_append, List.length_take, List.length_take, D.ll, D.dl]
 have := D.many.2
 have := D.far.2
 omega
theorem small_length (l : List Tok) : (smallOf l).length = 19 := by unfold smallOf; rw [lengths_length, runCounts_length]
theorem lens_good (l : List Tok) : Huf.Good (lensOf l) := (lengths_good (symCounts l) 15 (by omega) (by omega) (Nat.le_trans (coinsF_length 0 _) (by rw [symCounts_length]; decide))).1
theorem dists_good (l : List Tok) : Huf.Good (distsOf l) := (lengths_good (distCounts l) 15 (by omega) (by omega) (Nat.le_trans (coinsF_length 0 _) (by rw [distCounts_length]; decide))).1
theorem coins_le (counts : List Nat) (n most : Nat) (h : counts.length = n) (hn : n ≤ 2 ^ most) : (coins counts).length ≤ 2 ^ most := Nat.le_trans (coinsF_length 0 counts) (by omega)
end Inf
end Go.Proofs.YtkegkelaffohjaaGreatDoor
namespace Go.Proofs.YtkegkelaffohjaaGreatDoor
namespace Crc
def bit (c : Nat) : Nat := (c >>> 1) ^^^ (if c % 2 = 1 then 3988292384 else 0)
def bits8 (c : Nat) : Nat → Nat
 | 0 => c
 | k + 1 => bit (bits8 c k)
def tab (i : Nat) : Nat := bits8 i 8
def step (c : Nat) (b : UInt8) : Nat := tab ((c ^^^ b.toNat) % 256) ^^^ (c >>> 8)
def run (c : Nat) (s : List UInt8) : Nat := s.foldl step c
def crc (s : List UInt8) : Nat := run 4294967295 s ^^^ 4294967295
theorem xor_lt {a b k : Nat} (h : a < 2 ^ k) (g : b < 2 ^ k) : a ^^^ b < 2 ^ k := Nat.xor_lt_two_pow h g
theorem bit_lt {c : Nat} (h : c < 2 ^ 32) : bit c < 2 ^ 32 := by
 unfold bit
 refine xor_lt ?_ ?_
 ·rw [Nat.shiftRight_eq_div_pow]
  omega
 ·split <;> omega
theorem bits8_lt {c : Nat} (h : c < 2 ^ 32) : ∀ k, bits8 c k < 2 ^ 32
 | 0 => h
 | k + 1 => bit_lt (bits8_lt h k)
theorem tab_lt {i : Nat} (h : i < 256) : tab i < 2 ^ 32 := bits8_lt (by omega) 8
theorem step_lt {c : Nat} (h : c < 2 ^ 32) (b : UInt8) : step c b < 2 ^ 32 := by
 unfold step
 refine xor_lt (tab_lt (by omega)) ?_
 rw [Nat.shiftRight_eq_div_pow]
 omega
theorem run_lt : ∀ (s : List UInt8) {c : Nat}, c < 2 ^ 32 → run c s < 2 ^ 32
 | [], _, h => h
 | b :: s, _, h => run_lt s (step_lt h b)
theorem crc_lt (s : List UInt8) : crc s < 4294967296 := xor_lt (k := 32) (run_lt s (by decide)) (by decide)
theorem low_xor (c : Nat) (b : UInt8) : (c ^^^ b.toNat) % 256 = (c % 256) ^^^ b.toNat := by
 have hb := b.toNat_lt
 have := Nat.xor_mod_two_pow (a := c) (b := b.toNat) (n := 8)
 rw [Nat.mod_eq_of_lt (show b.toNat < 2 ^ 8 by omega)] at this
 exact this
def num (n : Nat) : List UInt8 := [UInt8.ofNat (n / 16777216), UInt8.ofNat (n / 65536), UInt8.ofNat (n / 256), UInt8.ofNat n]
def val (l : List UInt8) : Nat := l.foldl (fun n b => n * 256 + b.toNat) 0
theorem val_num (n : Nat) (h : n < 4294967296) : val (num n) = n := by
 unfold val num
 simp only [List.foldl_cons, List.foldl_nil, UInt8.toNat_ofNat']
 omega
end Crc
end Go.Proofs.YtkegkelaffohjaaGreatDoor
namespace Go.Proofs.YtkegkelaffohjaaGreatDoor
namespace Pak
open Crc Til
def pxBytes (l : List Px) : List UInt8 := l.flatMap fun p => [p.r, p.g, p.b, p.a]
def pixels : List UInt8 → List Px
 | a :: b :: c :: d :: r => ⟨a, b, c, d⟩ :: pixels r
 | _ => []
theorem num_length (n : Nat) : (num n).length = 4 := rfl
theorem pxBytes_length (l : List Px) : (pxBytes l).length = 4 * l.length := by
 unfold pxBytes
 induction l with
 | nil => rfl
 | cons p l ih => rw [List.flatMap_cons, List.length_append, ih, List.length_cons]; simp; omega
theorem pixels_bytes : ∀ l : List Px, pixels (pxBytes l) = l
 | [] => rfl
 | p :: l => by
  have := pixels_bytes l
  unfold pxBytes at *
  rw [List.flatMap_cons]
  simp only [List.cons_append, List.nil_append, pixels]
  rw [this]
theorem deflate_short (s : List UInt8) (h : s.length ≤ 65535) : (Inf.deflate s).length ≤ s.length + 5 := by
 have hst : (Inf.stored s).length = s.length + 5 := by
  unfold Inf.stored
  rw [Inf.storedF_is _ _ _ rfl, List.nil_append, Bit.pack_length, Inf.storedG, if_pos h, Inf.storedB_length]
  omega
 have hs : ∀ a b : List UInt8, (Inf.shorter a b).length ≤ b.length := by
  intro a b
  unfold Inf.shorter
  split <;> omega
 unfold Inf.deflate
 have h1 := hs (Bit.pack (Inf.dynBits (Mat.tokens s))) (Inf.shorter (Bit.pack (Inf.fixBits (Mat.tokens s))) (Inf.stored s))
 have h2 := hs (Bit.pack (Inf.fixBits (Mat.tokens s))) (Inf.stored s)
 omega
end Pak
end Go.Proofs.YtkegkelaffohjaaGreatDoor
/- Chunks of a file: plainly. What is written is read. -/
namespace Go.Proofs.YtkegkelaffohjaaGreatDoor
namespace Chk
open Crc
abbrev C := List UInt8 × List UInt8
def letter (c : UInt8) : Bool := decide (97 ≤ (c ||| 32).toNat ∧ (c ||| 32).toNat ≤ 122)
def isKind (k : List UInt8) : Bool := decide (k.length = 4) && k.all letter
def sig : List UInt8 := [137, 80, 78, 71, 13, 10, 26, 10]
def chunkB (c : C) : List UInt8 := num c.2.length ++ (c.1 ++ (c.2 ++ num (crc (c.1 ++ c.2))))
def file (l : List C) : List UInt8 := sig ++ l.flatMap chunkB
def cons (c : C) (r : Except (Nat × Int) (List C)) : Except (Nat × Int) (List C) :=
 match r with
 | .error e => .error e
 | .ok l => .ok (c :: l)
def rch : Nat → Nat → List UInt8 → Except (Nat × Int) (List C)
 | 0, _, _ => .ok []
 | f + 1, at_, s =>
  if s = [] then .ok []
  else if s.length < 12 then .error (0, at_)
  else if s.length - 12 < val (s.take 4) ∨ isKind ((s.drop 4).take 4) = false then .error (0, at_)
  else if val ((s.drop (8 + val (s.take 4))).take 4) ≠ crc ((s.drop 4).take (4 + val (s.take 4))) then .error (3, at_)
  else cons ((s.drop 4).take 4, (s.drop 8).take (val (s.take 4))) (rch f (at_ + 12 + val (s.take 4)) (s.drop (12 + val (s.take 4))))
def chunks (s : List UInt8) : Except (Nat × Int) (List C) :=
 if 300000 < s.length then .error (1, -1)
 else if s.take 8 ≠ sig then .error (0, 0)
 else rch s.length 8 (s.drop 8)
theorem isKind_length {k : List UInt8} (h : isKind k = true) : k.length = 4 := by
 unfold isKind at h
 rw [Bool.and_eq_true] at h
 exact of_decide_eq_true h.1
theorem chunkB_length (c : C) (h : isKind c.1 = true) : (chunkB c).length = c.2.length + 12 := by
 have := isKind_length h
 unfold chunkB
 rw [List.length_append, List.length_append, List.length_append, Pak.num_length, Pak.num_length]
 omega
theorem rch_one (f at_ : Nat) (c : C) (rest : List UInt8) (hk : isKind c.1 = true) (hl : c.2.length < 4294967296) : rch (f + 1) at_ (chunkB c ++ rest) = cons c (rch f (at_ + 12 + c.2.length) rest) := by
 obtain ⟨k, d⟩ := c
 have h4 : k.length = 4 := isKind_length hk
 have hlen : (chunkB (k, d) ++ rest).length = d.length + 12 + rest.length := by rw [List.length_append, chunkB_length _ hk]
 have e1 : (chunkB (k, d) ++ rest).take 4 = num d.length := by unfold chunkB; rw [List.append_assoc]; exact List.take_left' rfl
 have e2 : (chunkB (k, d) ++ rest).drop 4 = k ++ (d ++ num (crc (k ++ d)) ++ rest) := by unfold chunkB; rw [List.append_assoc, List.drop_left' (Pak.num_length _), List.append_assoc]
 have e3 : ((chunkB (k, d) ++ rest).drop 4).take 4 = k := by rw [e2]; exact List.take_left' h4
 have e4 : (chunkB (k, d) ++ rest).drop 8 = d ++ num (crc (k ++ d)) ++ rest := by
  rw [show (8 : Nat) = 4 + 4 from rfl, ← List.drop_drop, e2]; exact List.drop_left' h4
 have e5 : ((chunkB (k, d) ++ rest).drop 8).take d.length = d := by rw [e4, List.append_assoc]; exact List.take_left' rfl
 have e6 : ((chunkB (k, d) ++ rest).drop 4).take (4 + d.length) = k ++ d := by
  rw [e2, ← List.append_assoc, ← List.append_assoc, List.append_assoc]; exact List.take_left' (by rw [List.length_append]; omega)
 have e7 : (chunkB (k, d) ++ rest).drop (8 + d.length) = num (crc (k ++ d)) ++ rest := by
  rw [← List.drop_drop, e4, List.append_assoc]; exact List.drop_left' rfl
 have e8 : (chunkB (k, d) ++ rest).drop (12 + d.length) = rest := by
  rw [show 12 + d.length = 8 + d.length + 4 by omega, ← List.drop_drop, e7]; exact List.drop_left' rfl
 have e9 : ((chunkB (k, d) ++ rest).drop (8 + d.length)).take 4 = num (crc (k ++ d)) := by rw [e7]; exact List.take_left' rfl
 rw [rch, if_neg (fun e => by rw [e] at hlen; simp at hlen; omega), if_neg (by omega), e1, val_num _ hl, e3, e5, e6, e8, e9, val_num _ (crc_lt _), if_neg (by rw [hlen]; simp only at hk; rw [hk]; simp; omega), if_neg (by simp)]
theorem rch_file : ∀ (l : List C) (f at_ : Nat), l.length ≤ f → (∀ c ∈ l, isKind c.1 = true ∧ c.2.length < 4294967296) → rch f at_ (l.flatMap chunkB) = .ok l
 | [], 0, _, _, _ => rfl
 | [], f + 1, at_, _, _ => by rw [List.flatMap_nil, rch, if_pos rfl]
 | c :: l, 0, _, h, _ => by simp at h
 | c :: l, f + 1, at_, h, hl => by
  rw [List.flatMap_cons, rch_one f at_ c _ (hl c (by simp)).1 (hl c (by simp)).2, rch_file l f _ (by simpa using h) fun d hd => hl d (List.mem_cons_of_mem _ hd)]
  rfl
theorem flat_len : ∀ (l : List C), (∀ c ∈ l, isKind c.1 = true) → l.length ≤ (l.flatMap chunkB).length
 | [], _ => Nat.zero_le _
 | c :: l, h => by
  rw [List.flatMap_cons, List.length_append, chunkB_length c (h c (by simp)), List.length_cons]
  have := flat_len l fun d hd => h d (List.mem_cons_of_mem _ hd)
  omega
theorem chunks_file (l : List C) (h : ∀ c ∈ l, isKind c.1 = true) (hm : (file l).length ≤ 300000) : chunks (file l) = .ok l := by
 have h8 : (file l).length = 8 + (l.flatMap chunkB).length := by unfold file; rw [List.length_append]; rfl
 have hf := flat_len l h
 have e1 : (file l).take 8 = sig := by unfold file; exact List.take_left' rfl
 have e2 : (file l).drop 8 = l.flatMap chunkB := by unfold file; exact List.drop_left' rfl
 have hd : ∀ c ∈ l, c.2.length ≤ (l.flatMap chunkB).length := fun c hc => by
  have h1 : (chunkB c).length ≤ (l.flatMap chunkB).length := by
   clear hm h8 hf e1 e2 h
   induction l with
   | nil => cases hc
   | cons d l ih =>
    rw [List.flatMap_cons, List.length_append]
    rcases List.mem_cons.1 hc with rfl | hc
    ·omega
    ·have := ih hc; omega
  rw [chunkB_length c (h c hc)] at h1
  omega
 unfold chunks
 rw [if_neg (by omega), e1, if_neg (by simp), e2]
 exact rch_file l _ 8 (by omega) fun c hc => ⟨h c hc, by have := hd c hc; omega⟩
end Chk
end Go.Proofs.YtkegkelaffohjaaGreatDoor
/- What is read of a packed text, plainly: how long it is, what is left. -/
namespace Go.Proofs.YtkegkelaffohjaaGreatDoor
namespace Inf
open Mat
theorem get_drop {k : Nat} {bs b1 : List Bool} {x : Nat} (h : get k bs = some (x, b1)) : b1.length = bs.length - k ∧ k ≤ bs.length := by
 unfold get at h
 split at h
 ·cases h
 ·injection h with h
  injection h with h1 h2
  rw [← h2, List.length_drop]
  omega
theorem copyLen (d : Nat) : ∀ (n : Nat) (out : List UInt8), (copy d n out).length = out.length + n
 | 0, _ => rfl
 | n + 1, out => by rw [copy, copyLen d n, List.length_append]; simp; omega
theorem rtoks_len {nl nd : List Bool → Option (Nat × List Bool)} (hl : ∀ b k r, nl b = some (k, r) → r.length ≤ b.length) (hd : ∀ b k r, nd b = some (k, r) → r.length ≤ b.length) (most : Nat) :
  ∀ (f : Nat) (bs : List Bool) (out : List UInt8) (b : List Bool) (o : List UInt8), rtoks nl nd most f bs out = .ok (b, o) → out.length ≤ most → b.length ≤ bs.length ∧ o.length ≤ most
 | 0, _, _, _, _, h, _ => by cases h
 | f + 1, bs, out, b, o, h, ho => by
  rw [rtoks_succ] at h
  unfold rstep at h
  cases hn : nl bs with
  | none => rw [hn] at h; cases h
  | some r =>
   obtain ⟨k, b1⟩ := r
   have h1 := hl _ _ _ hn
   rw [hn] at h
   simp only at h
   split at h
   ·injection h with h
    injection h with e1 e2
    subst e1; subst e2
    exact ⟨h1, ho⟩
   ·split at h
    ·split at h
     ·have := rtoks_len hl hd most f b1 _ b o h (by rw [List.length_append]; simp; omega)
      omega
     ·cases h
    ·split at h
     ·cases h
     ·cases hx : get (LenBits.getD (k - 257) 0) b1 with
      | none => rw [hx] at h; cases h
      | some r =>
       obtain ⟨x, b2⟩ := r
       have h2 := get_drop hx
       rw [hx] at h
       simp only at h
       cases hdd : nd b2 with
       | none => rw [hdd] at h; cases h
       | some r =>
        obtain ⟨d, b3⟩ := r
        have h3 := hd _ _ _ hdd
        rw [hdd] at h
        simp only at h
        split at h
        ·cases h
        ·cases hy : get (DistBits.getD d 0) b3 with
         | none => rw [hy] at h; cases h
         | some r =>
          obtain ⟨y, b4⟩ := r
          have h4 := get_drop hy
          rw [hy] at h
          simp only at h
          split at h
          ·cases h
          ·split at h
           ·cases h
           ·have := rtoks_len hl hd most f b4 _ b o h (by rw [copyLen]; omega)
            omega
theorem rstored_len {most : Nat} {bs b : List Bool} {out o : List UInt8} (h : rstored most bs out = .ok (b, o)) : b.length ≤ bs.length ∧ o.length ≤ most := by
 unfold rstored at h
 cases h1 : get 16 (bs.drop (bs.length % 8)) with
 | none => rw [h1] at h; cases h
 | some r =>
  obtain ⟨n, b1⟩ := r
  have g1 := get_drop h1
  rw [h1] at h
  simp only at h
  cases h2 : get 16 b1 with
  | none => rw [h2] at h; cases h
  | some r =>
   obtain ⟨m, b2⟩ := r
   have g2 := get_drop h2
   rw [h2] at h
   simp only at h
   split at h
   ·cases h
   ·split at h
    ·cases h
    ·split at h
     ·cases h
     ·rename_i q1 q2 q3
      injection h with h
      injection h with e1 e2
      rw [List.length_drop] at g1
      subst e1; subst e2
      refine ⟨by rw [List.length_drop]; omega, ?_⟩
      rw [List.length_append, Bit.pack_length, List.length_take]
      omega
theorem next_len (l : List Nat) (b : List Bool) (k : Nat) (r : List Bool) (h : Huf.next l 15 0 0 b = some (k, r)) : r.length ≤ b.length := by
 have := (Huf.next_sym 15 0 0 b (by omega) h).2.1
 omega
theorem five_len (b : List Bool) (k : Nat) (r : List Bool) (h : five b = some (k, r)) : r.length ≤ b.length := by
 unfold five at h
 split at h
 ·cases h
 ·injection h with h
  injection h with h1 h2
  rw [← h2, List.length_drop]
  omega
theorem five_lt (b : List Bool) (k : Nat) (r : List Bool) (h : five b = some (k, r)) : k < 32 := by
 unfold five at h
 split at h
 ·cases h
 ·injection h with h
  injection h with h1 h2
  rw [← h1]
  have := Bit.val_lt (b.take 5).reverse
  rw [List.length_reverse, List.length_take] at this
  exact Nat.lt_of_lt_of_le this (Nat.pow_le_pow_right (by omega) (Nat.min_le_left _ _))
theorem rsmall_len : ∀ (o : List Nat) (b : List Bool) (l : List Nat) (l' : List Nat) (r : List Bool), rsmall o b l = some (l', r) → r.length ≤ b.length
 | [], b, l, l', r, h => by rw [rsmall] at h; injection h with h; injection h with h1 h2; rw [h2]; exact Nat.le_refl _
 | k :: o, b, l, l', r, h => by
  rw [rsmall] at h
  cases hx : get 3 b with
  | none => rw [hx] at h; cases h
  | some q =>
   obtain ⟨x, b1⟩ := q
   have g := get_drop hx
   rw [hx] at h
   have := rsmall_len o b1 _ l' r h
   omega
theorem rmore_len {all : Nat} {go : List Bool → List Nat → Option (List Nat × List Bool)} {B : Nat} (hgo : ∀ b l l' r, b.length ≤ B → l.length ≤ all → go b l = some (l', r) → r.length ≤ b.length ∧ l'.length = all) {l l' : List Nat} {x : Option (Nat × List Bool)} {fr wh : Nat} {r : List Bool} (hx : ∀ y b, x = some (y, b) → b.length ≤ B) (h : rmore all go l x fr wh = some (l', r)) : r.length ≤ B ∧ l'.length = all := by
 unfold rmore at h
 cases x with
 | none => cases h
 | some q =>
  obtain ⟨y, b⟩ := q
  simp only at h
  split at h
  ·cases h
  ·have h1 := hx y b rfl
   have := hgo b _ l' r h1 (by rw [List.length_append, List.length_replicate]; omega) h
   omega
theorem rlens_len (small : List Nat) (all : Nat) : ∀ (f : Nat) (b : List Bool) (l l' : List Nat) (r : List Bool), l.length ≤ all → rlens small all f b l = some (l', r) → r.length ≤ b.length ∧ l'.length = all
 | 0, _, _, _, _, _, h => by cases h
 | f + 1, b, l, l', r, hl, h => by
  rw [rlens_succ] at h
  split at h
  ·unfold rlstep at h
   cases hn : Huf.next small 15 0 0 b with
   | none => rw [hn] at h; cases h
   | some q =>
    obtain ⟨k, b1⟩ := q
    have h1 := next_len _ _ _ _ hn
    rw [hn] at h
    simp only at h
    have hgo : ∀ b' m m' r', b'.length ≤ b1.length → m.length ≤ all → rlens small all f b' m = some (m', r') → r'.length ≤ b'.length ∧ m'.length = all := fun b' m m' r' _ h2 h3 => rlens_len small all f b' m m' r' h2 h3
    have hg : ∀ n y b', get n b1 = some (y, b') → b'.length ≤ b1.length := fun n y b' h2 => by have := get_drop h2; omega
    split at h
    ·split at h
     ·cases h
     ·have := rmore_len hgo (hg 2) h; omega
    ·split at h
     ·have := rmore_len hgo (hg 3) h; omega
     ·split at h
      ·have := rmore_len hgo (hg 7) h; omega
      ·have := rmore_len hgo (fun y b' e => by injection e with e; injection e with e1 e2; rw [e2]; exact Nat.le_refl _) h; omega
  ·injection h with h
   injection h with e1 e2
   subst e1; subst e2
   exact ⟨Nat.le_refl _, by omega⟩
theorem rdynamic_some {bs b : List Bool} {l d : List Nat} (h : rdynamic bs = some ((l, d), b)) : Huf.Good l ∧ Huf.Good d ∧ l.length ≤ 286 ∧ d.length ≤ 30 ∧ b.length ≤ bs.length := by
 unfold rdynamic at h
 cases h1 : get 5 bs with
 | none => rw [h1] at h; cases h
 | some q =>
 obtain ⟨x, b1⟩ := q
 have g1 := get_drop h1
 rw [h1] at h
 simp only at h
 cases h2 : get 5 b1 with
 | none => rw [h2] at h; cases h
 | some q =>
 obtain ⟨y, b2⟩ := q
 have g2 := get_drop h2
 rw [h2] at h
 simp only at h
 cases h3 : get 4 b2 with
 | none => rw [h3] at h; cases h
 | some q =>
 obtain ⟨z, b3⟩ := q
 have g3 := get_drop h3
 rw [h3] at h
 simp only at h
 split at h
 ·cases h
 ·rename_i hm
  cases h4 : rsmall (Order.take (z + 4)) b3 (List.replicate 19 0) with
  | none => rw [h4] at h; cases h
  | some q =>
  obtain ⟨small, b4⟩ := q
  have g4 := rsmall_len _ _ _ _ _ h4
  rw [h4] at h
  simp only at h
  split at h
  ·cases h
  ·cases h5 : rlens small (x + 257 + (y + 1)) (b4.length + 1) b4 [] with
   | none => rw [h5] at h; cases h
   | some q =>
   obtain ⟨ls, b5⟩ := q
   have g5 := rlens_len _ _ _ _ _ _ _ (Nat.zero_le _) h5
   rw [h5] at h
   simp only at h
   split at h
   ·cases h
   ·rename_i hq
    injection h with h
    injection h with e1 e2
    injection e1 with e3 e4
    subst e3; subst e4; subst e2
    refine ⟨Decidable.byContradiction fun e => hq (.inl e), Decidable.byContradiction fun e => hq (.inr (.inl e)), by rw [List.length_take]; omega, by rw [List.length_drop]; omega, by omega⟩
theorem rblock_len {most : Nat} {bs b : List Bool} {out o : List UInt8} {last : Bool} (h : rblock most bs out = .ok (last, b, o)) (ho : out.length ≤ most) : b.length < bs.length ∧ o.length ≤ most := by
 unfold rblock at h
 cases h1 : get 1 bs with
 | none => rw [h1] at h; cases h
 | some q =>
 obtain ⟨x, b1⟩ := q
 have g1 := get_drop h1
 rw [h1] at h
 simp only at h
 cases h2 : get 2 b1 with
 | none => rw [h2] at h; cases h
 | some q =>
 obtain ⟨y, b2⟩ := q
 have g2 := get_drop h2
 rw [h2] at h
 simp only at h
 have key : ∀ (E : Except Nat (List Bool × List UInt8)), (∀ b' o', E = .ok (b', o') → b'.length ≤ b2.length ∧ o'.length ≤ most) → (match E with | .error e => Except.error e | .ok (b3, out2) => .ok (x == 1, b3, out2)) = Except.ok (last, b, o) → b.length ≤ b2.length ∧ o.length ≤ most := fun E hE h => by
  cases E with
  | error e => cases h
  | ok q =>
   obtain ⟨b', o'⟩ := q
   injection h with h
   injection h with e1 e2
   injection e2 with e2 e3
   subst e2; subst e3
   exact hE _ _ rfl
 have hk := key _ (fun b' o' hE => ?_) h
 ·omega
 ·split at hE
  ·exact rstored_len hE
  ·split at hE
   ·exact rtoks_len (next_len _) five_len most _ _ _ _ _ hE ho
   ·split at hE
    ·cases h3 : rdynamic b2 with
     | none => rw [h3] at hE; cases hE
     | some q =>
      obtain ⟨⟨l, d⟩, b3⟩ := q
      have g3 := rdynamic_some h3
      rw [h3] at hE
      have := rtoks_len (next_len _) (next_len _) most _ _ _ _ _ hE ho
      omega
    ·cases hE
end Inf
end Go.Proofs.YtkegkelaffohjaaGreatDoor
