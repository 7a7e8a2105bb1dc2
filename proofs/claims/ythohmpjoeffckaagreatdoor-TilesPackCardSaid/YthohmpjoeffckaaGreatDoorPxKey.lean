/- Maps of the call's own, of whatever key: what is known of one is the list of its entries, in the order in which they came. Pixels as keys; pixels compared. Pixels compared by the code. The row of int in the table of types. -/
import Derived.Test.YthohmpjoeffckaaGreatDoorMem
import Derived.Laws.StructEq
import Derived.WalkKit
import Derived.Maps.OwnOps
import Derived.Test.YthohmpjoeffckaaGreatDoorProg
import Derived.WalkSpells
import Derived.WalkLawsBesides
import Derived.Handy
import Derived.KernelRfl
namespace Go.Proofs.YthohmpjoeffckaaGreatDoor
open Go Go.RowKit

/-- What the model does with keys of a type, told by their encoding. -/
structure KeyLaw (P : Program) (K : TypeId) {κ : Type} [DecidableEq κ] (enc : κ → Value) : Prop where
  eq : ∀ (w : World) (p q : κ), (Op.equal K (enc p) (enc q)).run P w = .ok (decide (p = q)) w
  check : ∀ (w : World) (b : Bool) (p : κ), (Instr.checkKey b 10000 K (enc p)).run P w = .ok () w
  und : ∃ d, P.underlying K = some d ∧ ∀ p q r, Instr.sameNow d (enc p) (enc q) = some r → r = decide (p = q)
  bits : ∀ p, Instr.sameBits 10000 (enc p) (enc p) = true

section
variable {κ : Type} [DecidableEq κ]
/-- The first entry of a key: its place, its value. -/
def mfind (p : κ) : List (κ × Value) → Nat → Option (Nat × Value)
  | [], _ => none
  | (q, v) :: M, i => if p = q then some (i, v) else mfind p M (i + 1)
/-- A store. -/
def mput (p : κ) (v : Value) : List (κ × Value) → List (κ × Value)
  | [] => [(p, v)]
  | (q, u) :: M => if p = q then (q, v) :: M else (q, u) :: mput p v M

theorem mput_none {p : κ} (v : Value) {M : List (κ × Value)} : ∀ {i : Nat}, mfind p M i = none → mput p v M = M ++ [(p, v)] := by
  induction M with
  | nil => intro i _; rfl
  | cons q M ih =>
    intro i h
    obtain ⟨q, u⟩ := q
    simp only [mfind] at h
    split at h
    · cases h
    · rename_i hne
      simp [mput, hne, ih h]
theorem mfind_some {p : κ} {M : List (κ × Value)} : ∀ {i j : Nat} {v : Value}, mfind p M i = some (j, v) → i ≤ j ∧ M[j - i]? = some (p, v) ∧ ∀ t q u, t < j - i → M[t]? = some (q, u) → q ≠ p := by
  induction M with
  | nil => intro i j v h; cases h
  | cons q M ih =>
    intro i j v h
    obtain ⟨q, u⟩ := q
    simp only [mfind] at h
    split at h
    · rename_i e
      subst e
      simp only [Option.some.injEq, Prod.mk.injEq] at h
      obtain ⟨rfl, rfl⟩ := h
      refine ⟨Nat.le_refl _, by simp, fun t q u ht => ?_⟩
      omega
    · rename_i hne
      obtain ⟨h1, h2, h3⟩ := ih h
      have e : j - i = (j - (i + 1)) + 1 := by omega
      refine ⟨by omega, by rw [e]; simpa using h2, fun t q' u' ht hq => ?_⟩
      rcases t with _ | t
      · simp only [List.getElem?_cons_zero, Option.some.injEq, Prod.mk.injEq] at hq
        exact fun e' => hne (by rw [hq.1, e'])
      · exact h3 t q' u' (by omega) (by simpa using hq)

end

section
variable {κ : Type}
/-- Block b is a map whose entries are these, in this order. -/
def MapAt (w : World) (b : Nat) (enc : κ → Value) (M : List (κ × Value)) : Prop :=
  ∃ es clock, w.heap[b]? = some (.map es clock) ∧ es.toList.map (fun e => (e.key, e.val)) = M.map fun q => (enc q.1, q.2)

section
variable {w w' : World} {b : Nat} {enc : κ → Value} {M : List (κ × Value)}
theorem MapAt.lt (h : MapAt w b enc M) : b < w.heap.size := by
  obtain ⟨es, c, h, _⟩ := h
  exact (Array.getElem?_eq_some_iff.1 h).1
theorem MapAt.new (w : World) (enc : κ → Value) : MapAt (w.alloc (.map #[] 0)) w.heap.size enc ([] : List (κ × Value)) := ⟨#[], 0, heap_alloc_new w _, by simp⟩
theorem MapAt.keep (h : MapAt w b enc M) (e : w'.heap[b]? = w.heap[b]?) : MapAt w' b enc M := by
  obtain ⟨es, c, h, k⟩ := h
  exact ⟨es, c, e.trans h, k⟩
theorem MapAt.drew (h : MapAt w b enc M) : MapAt w.drew b enc M := h
theorem MapAt.alloc (h : MapAt w b enc M) (o : Obj) : MapAt (w.alloc o) b enc M := h.keep ((World.grownBy_alloc w o none).block b h.lt (by simp))
theorem MapAt.setCell (h : MapAt w b enc M) {p : Addr} (hp : b ≠ p.block) (u : Value) : MapAt (w.setCell p u) b enc M := h.keep (Below.heap_setCell w p u b hp)
theorem MapAt.below {B : Nat} (h : MapAt w b enc M) (hb : Below B w w') (hB : b < B) : MapAt w' b enc M := h.keep (hb.block b hB)
theorem MapAt.grown {row : Option Nat} (h : MapAt w b enc M) (hg : w.grownBy w' row) (hr : some b ≠ row) : MapAt w' b enc M := h.keep (hg.block b h.lt hr)

end
end

section
variable {κ : Type} [DecidableEq κ] {w w' : World} {b : Nat} {enc : κ → Value} {M : List (κ × Value)} {P : Program} {K : TypeId}

theorem run_findAsking (L : KeyLaw P K enc) (w : World) (p : κ) : ∀ (es : List MapEntry) (M : List (κ × Value)) (i : Nat), es.map (fun e => (e.key, e.val)) = M.map (fun q => (enc q.1, q.2)) →
    (Instr.findAsking K (enc p) es i).run P w = .ok (mfind p M i) w := by
  intro es
  induction es with
  | nil =>
    intro M i h
    have : M = [] := by cases M with | nil => rfl | cons => simp at h
    subst this
    simp [Instr.findAsking, mfind]
  | cons e es ih =>
    intro M i h
    rcases M with _ | ⟨⟨q, v⟩, M⟩
    · simp at h
    · simp only [List.map_cons, List.cons.injEq, Prod.mk.injEq] at h
      obtain ⟨⟨h1, h2⟩, h3⟩ := h
      simp only [Instr.findAsking, Sem.run_bind, h1, L.eq, Result.andThen_ok, mfind]
      by_cases hpq : p = q
      · simp [hpq, h2]
      · simp [hpq, ih M (i + 1) h3]
theorem findNow_eq {d : TypeDesc} (hd : ∀ p q r, Instr.sameNow d (enc p) (enc q) = some r → r = decide (p = q)) (p : κ) : ∀ (es : List MapEntry) (M : List (κ × Value)) (i : Nat) (r : Option (Nat × Value)), es.map (fun e => (e.key, e.val)) = M.map (fun q => (enc q.1, q.2)) →
    Instr.findNow d (enc p) es i = some r → r = mfind p M i := by
  intro es
  induction es with
  | nil =>
    intro M i r h hr
    have : M = [] := by cases M with | nil => rfl | cons => simp at h
    subst this
    simp only [Instr.findNow, Option.some.injEq] at hr
    rw [← hr]
    rfl
  | cons e es ih =>
    intro M i r h hr
    rcases M with _ | ⟨⟨q, v⟩, M⟩
    · simp at h
    · simp only [List.map_cons, List.cons.injEq, Prod.mk.injEq] at h
      obtain ⟨⟨h1, h2⟩, h3⟩ := h
      simp only [Instr.findNow, h1] at hr
      have hk := hd p q
      cases hs : Instr.sameNow d (enc p) (enc q) with
      | none => rw [hs] at hr; cases hr
      | some b =>
        have e := hk b hs
        rw [hs] at hr
        cases b
        · simp only at hr
          have hne : p ≠ q := by simpa using e.symm
          simp only [mfind, if_neg hne]
          exact ih M (i + 1) r h3 hr
        · simp only [Option.some.injEq] at hr
          have heq : p = q := by simpa using e.symm
          simp only [mfind, if_pos heq, ← hr, h2]
theorem run_findKey (L : KeyLaw P K enc) (w : World) (p : κ) (es : List MapEntry) (M : List (κ × Value)) (h : es.map (fun e => (e.key, e.val)) = M.map (fun q => (enc q.1, q.2))) :
    (Instr.findKey K (enc p) es).run P w = .ok (mfind p M 0) w := by
  obtain ⟨d, hu, hd⟩ := L.und
  simp only [Instr.findKey, Sem.run_bind, run_underlying hu, Result.andThen_ok]
  cases hn : Instr.findNow d (enc p) es 0 with
  | some r => simp [findNow_eq hd p es M 0 r h hn]
  | none => exact run_findAsking L w p es M 0 h

theorem run_lookup_at {T e : TypeId} (L : KeyLaw P K enc) (hT : P.underlying T = some (.map K e)) {z : Value} (hz : (zeroValue e).run P w = .ok z w) (h : MapAt w b enc M) (p : κ) (ok : Bool) :
    (Instr.lookup T (.map (some b)) (enc p) ok).run P w = .ok (match mfind p M 0 with
      | some (_, v) => if ok then .tuple #[v, .bool true] else v
      | none => if ok then .tuple #[z, .bool false] else z) w := by
  obtain ⟨es, c, hh, hm⟩ := h
  have hg : (getObj b).run P w = .ok (.map es c) w := by simp [getObj, Sem.run, hh]
  have hk := run_findKey L w p es.toList M hm
  have hc := L.check w es.isEmpty p
  simp only [Instr.lookup, Sem.run_bind, run_underlying hT, Result.andThen_ok, hg, Sem.run_pure, hc, hk]
  cases mfind p M 0 with
  | none => simp [hz, Result.andThen]
  | some q => obtain ⟨i, v⟩ := q; simp

theorem mput_entries (p : κ) (v : Value) : ∀ (es : List MapEntry) (M : List (κ × Value)) (i : Nat), es.map (fun e => (e.key, e.val)) = M.map (fun q => (enc q.1, q.2)) → ∀ j u, mfind p M i = some (j, u) →
    (es.modify (j - i) fun e => { e with key := enc p, val := v }).map (fun e => (e.key, e.val)) = (mput p v M).map fun q => (enc q.1, q.2) := by
  intro es
  induction es with
  | nil =>
    intro M i h j u hf
    have : M = [] := by cases M with | nil => rfl | cons => simp at h
    subst this
    cases hf
  | cons e es ih =>
    intro M i h j u hf
    rcases M with _ | ⟨⟨q, x⟩, M⟩
    · simp at h
    · simp only [List.map_cons, List.cons.injEq, Prod.mk.injEq] at h
      obtain ⟨⟨h1, h2⟩, h3⟩ := h
      simp only [mfind] at hf
      by_cases hpq : p = q
      · subst hpq
        simp only at hf
        obtain ⟨rfl, rfl⟩ := hf
        simp [mput, h3]
      · rw [if_neg hpq] at hf
        obtain ⟨hle, _, _⟩ := mfind_some hf
        have e1 : j - i = (j - (i + 1)) + 1 := by omega
        rw [e1, List.modify_succ_cons, List.map_cons, ih M (i + 1) h3 j u hf]
        simp [mput, hpq, h1, h2]

theorem run_mapUpdate_at {T e : TypeId} (L : KeyLaw P K enc) (hT : P.underlying T = some (.map K e)) (h : MapAt w b enc M) (p : κ) (v : Value) :
    ∃ w1, (Instr.mapUpdate T (.map (some b)) (enc p) v).run P w = .ok () w1 ∧ MapAt w1 b enc (mput p v M) ∧ w.grownBy w1 (some b) ∧ w1.heap.size = w.heap.size := by
  have hlt := h.lt
  obtain ⟨es, c, hh, hm⟩ := h
  have hg : (getObj b).run P w = .ok (.map es c) w := by simp [getObj, Sem.run, hh]
  have hk := run_findKey L w p es.toList M hm
  have hc := L.check w false p
  have hset : ∀ es' c', (setObj b (.map es' c')).run P w = .ok () { w with heap := w.heap.setIfInBounds b (.map es' c') } := fun es' c' => by simp [setObj, Sem.run, hh]
  have grow : ∀ es' c', w.grownBy { w with heap := w.heap.setIfInBounds b (.map es' c') } (some b) := fun es' c' =>
    ⟨rfl, rfl, rfl, by simp, fun k hk hne => by
      have : b ≠ k := fun e => hne (by rw [e])
      simp [this]⟩
  have at_ : ∀ (es' : Array MapEntry) (c' : Nat) (M' : List (κ × Value)), es'.toList.map (fun e => (e.key, e.val)) = M'.map (fun q => (enc q.1, q.2)) → MapAt { w with heap := w.heap.setIfInBounds b (.map es' c') } b enc M' := fun es' c' M' hm' =>
    ⟨es', c', by simp [hlt], hm'⟩
  cases hf : mfind p M 0 with
  | none =>
    rw [hf] at hk
    refine ⟨_, ?_, at_ (es.push { key := enc p, val := v, born := c }) (c + 1) _ ?_, grow _ _, by simp⟩
    · simp only [Instr.mapUpdate, Sem.run_bind, run_underlying hT, Result.andThen_ok, hg, hc, hk, hset]
    · rw [mput_none v hf]; simp [hm]
  | some q =>
    obtain ⟨i, u⟩ := q
    rw [hf] at hk
    obtain ⟨_, hget, _⟩ := mfind_some hf
    have hkey : (es[i]?).map (·.key) = some (enc p) := by
      have e1 : (es.toList.map fun e => (e.key, e.val))[i]? = (M.map fun q => (enc q.1, q.2))[i]? := by rw [hm]
      rw [List.getElem?_map, List.getElem?_map] at e1
      rw [Nat.sub_zero] at hget
      rw [hget] at e1
      rw [← Array.getElem?_toList]
      cases hx : es.toList[i]? with
      | none => rw [hx] at e1; cases e1
      | some x => rw [hx] at e1; simp at e1; simp [e1.1]
    have hstay : (Instr.keyThatStays (enc p) (enc p)).run P w = .ok (enc p) w := by simp [Instr.keyThatStays, L.bits]
    refine ⟨_, ?_, at_ (es.modify i fun e => { e with key := enc p, val := v }) c _ ?_, grow _ _, by simp⟩
    · simp only [Instr.mapUpdate, Sem.run_bind, run_underlying hT, Result.andThen_ok, hg, hc, hk, hkey, Option.getD_some, hstay, hset]
    · have := mput_entries (enc := enc) p v es.toList M 0 hm i u hf
      rw [Nat.sub_zero] at this
      rw [← this, Array.toList_modify]

end
end Go.Proofs.YthohmpjoeffckaaGreatDoor
namespace Go.Proofs.YthohmpjoeffckaaGreatDoor
open Go Go.RowKit

theorem pxEqIn (w : World) (p q : Px) : (Op.equalIn 10000 47 (pxV p) (pxV q)).run Tryz.prog w = .ok (decide (p = q)) w := by
  have hS : Tryz.prog.underlying 47 = some (.struct (Tryz.prog.fieldsOf 47)) := by kernel_rfl
  have hp : Tryz.prog.stoodInHeld 47 = false := by kernel_rfl
  have u5 := Tryz.underlying5
  have a5 : ∀ w, (isAgg 5).run Tryz.prog w = .ok false w := fun _ => by kernel_rfl
  have z5 : ∀ w, (sizeOf 5).run Tryz.prog w = .ok 1 w := fun _ => by kernel_rfl
  simp only [pxV]
  rw [show (10000 : Nat) = 9999 + 1 from rfl, run_equalIn_agg w 9999 47 _ _ hS hp]
  simp only [Program.fieldsOf, Tryz.underlying47]
  go_simp
  obtain ⟨r, g, b, a⟩ := p
  obtain ⟨r', g', b', a'⟩ := q
  have e : (Px.mk r g b a = Px.mk r' g' b' a') ↔ ((r.toNat : Int) = r'.toNat ∧ (g.toNat : Int) = g'.toNat ∧ (b.toNat : Int) = b'.toNat ∧ (a.toNat : Int) = a'.toNat) := by
    constructor
    · intro h; injection h with h1 h2 h3 h4; subst h1; subst h2; subst h3; subst h4; simp
    · rintro ⟨h1, h2, h3, h4⟩
      exact Px.ext' (UInt8.toNat_inj.1 (by dsimp only; omega)) (UInt8.toNat_inj.1 (by dsimp only; omega)) (UInt8.toNat_inj.1 (by dsimp only; omega)) (UInt8.toNat_inj.1 (by dsimp only; omega))
  simp only [e]
  by_cases h1 : (r.toNat : Int) = r'.toNat <;> by_cases h2 : (g.toNat : Int) = g'.toNat <;> by_cases h3 : (b.toNat : Int) = b'.toNat <;> by_cases h4 : (a.toNat : Int) = a'.toNat <;> simp [h1, h2, h3, h4]

theorem u8Check (n : Nat) (w : World) (b : Bool) (x : Int) : (Instr.checkKey b (n + 1) 5 (.int .u8 x)).run Tryz.prog w = .ok () w := by
  simp [Instr.checkKey, run_underlying Tryz.underlying5]

end Go.Proofs.YthohmpjoeffckaaGreatDoor
namespace Go.Proofs.YthohmpjoeffckaaGreatDoor
open Go Go.RowKit
theorem run_neq_px (w : World) (p q : Px) : (binOp .neq 47 (pxV p) (pxV q)).run Tryz.prog w = .ok (.bool (!decide (p = q))) w := by
  have h : (Op.equalIn Op.maxDepth 47 (pxV p) (pxV q)).run Tryz.prog w = .ok (decide (p = q)) w := pxEqIn w p q
  unfold pxV at h ⊢
  simp [binOp, Op.equal, h]
end Go.Proofs.YthohmpjoeffckaaGreatDoor
namespace Go.Proofs.YthohmpjoeffckaaGreatDoor
open Go
theorem intInfo : (Tryz.prog.info? 3).map (fun i => (i.zero, i.size, i.bytes)) = some (some (.int .i64 0), 1, 8) := by kernel_rfl
end Go.Proofs.YthohmpjoeffckaaGreatDoor
