/- A region that draws its order, loads cells and, at its end, writes them: a condition on the world that is to hold until one operation (x) is carried out, which waits for the loads. deflate.fixed: the walk. -/
import Derived.OrdersHeld
import Derived.Deep.RegionHeld
import Derived.Test.YtkegkelaffohjaaGreatDoorQCFilmTwiceDefTok
import Derived.Test.YtkegkelaffohjaaGreatDoorQCFilmTwiceFixLen
import Derived.Test.YtkegkelaffohjaaGreatDoorQCFilmTwiceHufCodes
import Derived.Deep.RegionLaw
import Derived.Deep.Cut
import Derived.Deep.DeepCutAuto
import Derived.Deep.CutBlock
namespace Go.Proofs.YtkegkelaffohjaaGreatDoor
open Go
section
variable {P : Program} {ops : Array Oper} {Q : Exit → Act → World → Prop} {md : Region.Mode} {S : World → Prop} {x : Nat}
def AnyX (P : Program) (md : Region.Mode) (ops : Array Oper) (Q : Exit → Act → World → Prop) (S : World → Prop) (x : Nat) : Nat → Array Bool → Act → World → Prop
 | 0, listed, a, w => Region.ready md ops listed = [] ∧ Q .normal a w
 | fuel + 1, listed, a, w => (Region.ready md ops listed = [] → Q .normal a w) ∧
  ∀ i ∈ Region.ready md ops listed, wpOp P ops Q i (fun a' w' => ((listed.setIfInBounds i true).getD x false = true ∨ S w') ∧ AnyX P md ops Q S x fuel (listed.setIfInBounds i true) a' w') a w
theorem anyX_any : ∀ (fuel : Nat) (listed : Array Bool) (a : Act) (w : World), AnyX P md ops Q S x fuel listed a w → wpAny P md ops Q fuel listed a w
 | 0, _, _, _, h => h
 | fuel + 1, _, _, _, h => ⟨h.1, fun i hi => wpOp_mono (fun a' w' k => anyX_any fuel _ a' w' k.2) (h.2 i hi)⟩
theorem anyX_first {i : Nat} {oi : Oper} {v : Value} (hi : ops[i]? = some oi) (hsel : ∀ (j : Nat) (o : Oper) cs b, ops[j]? = some o → o.op ≠ .select cs b)
  (hQ : ∀ c a w, Q (.panic c) (a.put oi.dst v) w → Q (.panic c) a w) (hx : ∀ ox, ops[x]? = some ox → ∃ e ∈ ox.after, Region.binds md e = true ∧ e.on = i) :
  ∀ (fuel : Nat) (listed : Array Bool) (a : Act) (w : World), listed.getD x false = false →
   (∀ j oj, ops[j]? = some oj → j ≠ i → listed.getD j true = false → (∀ e ∈ oj.after, Region.binds md e = true → e.on ≠ i) → oi.apart ops oj = true) →
   i ∈ Region.ready md ops listed → YieldsIf P ops S oi v a → S w →
   AnyX P md ops Q S x fuel (listed.setIfInBounds i true) (a.put oi.dst v) w → AnyX P md ops Q S x (fuel + 1) listed a w := by
 intro fuel
 induction fuel with
 | zero =>
  intro listed a w _ _ hr hy hS H
  refine ⟨fun h => (by rw [h] at hr; cases hr), fun j hj => ?_⟩
  rcases Nat.decEq j i with hne | rfl
  ·have := ready_mono hj hne
   rw [H.1] at this
   cases this
  ·exact hy.wpOp hi hS ⟨.inr hS, H⟩
 | succ fuel ih =>
  intro listed a w hxl hfree hr hy hS H
  refine ⟨fun h => (by rw [h] at hr; cases hr), fun j hj => ?_⟩
  rcases Nat.decEq j i with hne | rfl
  ·obtain ⟨u1, oj, u2, u3⟩ := mem_ready.1 hj
   have hui := (mem_ready.1 hr).1
   -- an operation that may come up now does not wait for i
   have hno : ∀ e ∈ oj.after, Region.binds md e = true → e.on ≠ i := fun e he hb heq => by
    have k := u3 e he hb
    rw [heq] at k
    rcases Nat.lt_or_ge i listed.size with h' | h'
    ·simp [h'] at hui k; rw [hui] at k; cases k
    ·simp [Array.getElem?_eq_none h'] at k
   have hjx : j ≠ x := fun e => by
    subst e
    obtain ⟨e, he, hb, heq⟩ := hx oj u2
    exact hno e he hb heq
   have hxl2 : ((listed.setIfInBounds i true).setIfInBounds j true).getD x false = false ∨ i = x := by
    by_cases hix : i = x
    ·exact .inr hix
    ·left
     rw [getD_set_ne false hjx, getD_set_ne false hix]
     exact hxl
   have hstep := wpOp_putIf u2 (hfree j oj u2 hne u1 hno) (fun cs b => hsel i oi cs b hi) (fun cs b => hsel j oj cs b u2) hQ hy (H.2 j (ready_mono hj hne))
   have hix : i ≠ x := fun e => by
    subst e
    obtain ⟨e, he, hb, heq⟩ := hx oi hi
    have k := (mem_ready.1 hr).2
    obtain ⟨o2, k1, k2⟩ := k
    rw [hi] at k1
    injection k1 with k1
    subst k1
    have k := k2 e he hb
    rw [heq] at k
    rcases Nat.lt_or_ge i listed.size with h' | h'
    ·simp [h'] at hui k; rw [hui] at k; cases k
    ·simp [Array.getElem?_eq_none h'] at k
   refine wpOp_mono (fun a' w' k => ?_) hstep
   have hSw : S w' := k.2.1.resolve_left (by
    have := hxl2.resolve_right hix
    rw [this]
    exact Bool.false_ne_true)
   have hxj : (listed.setIfInBounds j true).getD x false = false := by rw [getD_set_ne false hjx]; exact hxl
   refine ⟨.inr hSw, ih (listed.setIfInBounds j true) a' w' hxj (fun m om hm hmi hmu hmo => ?_) (ready_mono hr (Ne.symm hne)) k.1 hSw ?_⟩
   ·refine hfree m om hm hmi ?_ hmo
    rcases Nat.decEq j m with hjm | rfl
    ·rw [getD_set_ne true hjm] at hmu; exact hmu
    ·exact u1
   ·rw [Array.setIfInBounds_comm _ _ hne]
    exact k.2.2
  ·exact hy.wpOp hi hS ⟨.inr hS, H⟩
def waits (md : Region.Mode) (ops : Array Oper) (x i : Nat) : Bool := match ops[x]? with
 | some ox => ox.after.any fun e => Region.binds md e && e.on == i
 | none => false
theorem anyX_take {i : Nat} {oi : Oper} {v : Value} {fuel : Nat} {listed : Array Bool} {a : Act} {w : World} (hi : ops[i]? = some oi)
  (hs : Region.noSelect ops = true) (hf : Region.free md ops listed i = true) (hr : (Region.ready md ops listed).contains i = true) (hx : waits md ops x i = true) (hxl : listed.getD x false = false)
  (hQ : ∀ c a w, Q (.panic c) (a.put oi.dst v) w → Q (.panic c) a w) (hy : YieldsIf P ops S oi v a) (hS : S w)
  (h : AnyX P md ops Q S x fuel (listed.setIfInBounds i true) (a.put oi.dst v) w) : AnyX P md ops Q S x (fuel + 1) listed a w :=
 anyX_first hi (Region.noSelect_spec hs) hQ (fun ox hox => by
  unfold waits at hx
  rw [hox] at hx
  obtain ⟨e, he, hb⟩ := Array.any_eq_true'.1 hx
  simp only [Bool.and_eq_true, beq_iff_eq] at hb
  exact ⟨e, he, hb.1, hb.2⟩) fuel listed a w hxl (Region.free_spec hi hf) (by simpa using hr) hy hS h
theorem anyX_pure_first {i : Nat} {oi : Oper} {v : Value} (hi : ops[i]? = some oi) (hsel : ∀ (j : Nat) (o : Oper) cs b, ops[j]? = some o → o.op ≠ .select cs b)
  (hQ : ∀ c a w, Q (.panic c) (a.put oi.dst v) w → Q (.panic c) a w) (hix : i ≠ x) :
  ∀ (fuel : Nat) (listed : Array Bool) (a : Act) (w : World),
   (∀ j oj, ops[j]? = some oj → j ≠ i → listed.getD j true = false → (∀ e ∈ oj.after, Region.binds md e = true → e.on ≠ i) → oi.apart ops oj = true) →
   i ∈ Region.ready md ops listed → YieldsIf P ops (fun _ => True) oi v a → (listed.getD x false = true ∨ S w) →
   AnyX P md ops Q S x fuel (listed.setIfInBounds i true) (a.put oi.dst v) w → AnyX P md ops Q S x (fuel + 1) listed a w := by
 intro fuel
 induction fuel with
 | zero =>
  intro listed a w _ hr hy hS H
  refine ⟨fun h => (by rw [h] at hr; cases hr), fun j hj => ?_⟩
  rcases Nat.decEq j i with hne | rfl
  ·have := ready_mono hj hne
   rw [H.1] at this
   cases this
  ·exact hy.wpOp hi trivial ⟨by rw [getD_set_ne false hix]; exact hS, H⟩
 | succ fuel ih =>
  intro listed a w hfree hr hy hS H
  refine ⟨fun h => (by rw [h] at hr; cases hr), fun j hj => ?_⟩
  rcases Nat.decEq j i with hne | rfl
  ·obtain ⟨u1, oj, u2, u3⟩ := mem_ready.1 hj
   have hui := (mem_ready.1 hr).1
   have hno : ∀ e ∈ oj.after, Region.binds md e = true → e.on ≠ i := fun e he hb heq => by
    have k := u3 e he hb
    rw [heq] at k
    rcases Nat.lt_or_ge i listed.size with h' | h'
    ·simp [h'] at hui k; rw [hui] at k; cases k
    ·simp [Array.getElem?_eq_none h'] at k
   have hstep := wpOp_putIf u2 (hfree j oj u2 hne u1 hno) (fun cs b => hsel i oi cs b hi) (fun cs b => hsel j oj cs b u2) hQ hy (H.2 j (ready_mono hj hne))
   refine wpOp_mono (fun a' w' k => ?_) hstep
   have hS' : (listed.setIfInBounds j true).getD x false = true ∨ S w' := k.2.1.imp (fun e => by
    rw [Array.setIfInBounds_comm _ _ (Ne.symm hne), getD_set_ne false hix] at e
    exact e) id
   refine ⟨hS', ih (listed.setIfInBounds j true) a' w' (fun m om hm hmi hmu hmo => ?_) (ready_mono hr (Ne.symm hne)) k.1 hS' ?_⟩
   ·refine hfree m om hm hmi ?_ hmo
    rcases Nat.decEq j m with hjm | rfl
    ·rw [getD_set_ne true hjm] at hmu; exact hmu
    ·exact u1
   ·rw [Array.setIfInBounds_comm _ _ hne]
    exact k.2.2
  ·exact hy.wpOp hi trivial ⟨by rw [getD_set_ne false hix]; exact hS, H⟩
theorem anyX_pure {i : Nat} {oi : Oper} {v : Value} {fuel : Nat} {listed : Array Bool} {a : Act} {w : World} (hi : ops[i]? = some oi)
  (hs : Region.noSelect ops = true) (hf : Region.free md ops listed i = true) (hr : (Region.ready md ops listed).contains i = true) (hix : i ≠ x)
  (hQ : ∀ c a w, Q (.panic c) (a.put oi.dst v) w → Q (.panic c) a w) (hy : YieldsIf P ops (fun _ => True) oi v a) (hS : S w)
  (h : AnyX P md ops Q S x fuel (listed.setIfInBounds i true) (a.put oi.dst v) w) : AnyX P md ops Q S x (fuel + 1) listed a w :=
 anyX_pure_first hi (Region.noSelect_spec hs) hQ hix fuel listed a w (Region.free_spec hi hf) (by simpa using hr) hy (.inr hS) h
def AllX (P : Program) (md : Region.Mode) (ops : Array Oper) (Q : Exit → Act → World → Prop) (S : World → Prop) (x fuel : Nat) (listed : Array Bool) (a : Act) (w : World) (rs : List Nat) : Prop :=
 ∀ i ∈ rs, wpOp P ops Q i (fun a' w' => ((listed.setIfInBounds i true).getD x false = true ∨ S w') ∧ AnyX P md ops Q S x fuel (listed.setIfInBounds i true) a' w') a w
theorem AllX.nil {fuel : Nat} {listed : Array Bool} {a : Act} {w : World} : AllX P md ops Q S x fuel listed a w [] := fun _ h => by cases h
theorem AllX.cons {fuel : Nat} {listed : Array Bool} {a : Act} {w : World} {i : Nat} {o : Oper} {rs : List Nat} (ho : ops[i]? = some o)
  (h : ∀ K' : Act → World → Prop, Shut (∀ a w, S w → (S w → AnyX P md ops Q S x fuel (listed.setIfInBounds i true) a w) → K' a w) → if Region.wanted o (yielded ops a.tmps) = true then Oper.wp P o a w K' Q else K' (a.put o.dst undef) w)
  (hs : AllX P md ops Q S x fuel listed a w rs) : AllX P md ops Q S x fuel listed a w (i :: rs) := fun j hj => by
 rcases List.mem_cons.1 hj with rfl | hj
 ·exact wpOp_step ho (fun K' hK => h K' (fun a w hS hW => hK a w ⟨.inr hS, hW hS⟩))
 ·exact hs j hj
theorem AllX.past {fuel : Nat} {listed : Array Bool} {a : Act} {w : World} {i : Nat} {o : Oper} {rs : List Nat} (ho : ops[i]? = some o) (hx : (listed.setIfInBounds i true).getD x false = true)
  (h : ∀ K' : Act → World → Prop, Shut (∀ a w, AnyX P md ops Q S x fuel (listed.setIfInBounds i true) a w → K' a w) → if Region.wanted o (yielded ops a.tmps) = true then Oper.wp P o a w K' Q else K' (a.put o.dst undef) w)
  (hs : AllX P md ops Q S x fuel listed a w rs) : AllX P md ops Q S x fuel listed a w (i :: rs) := fun j hj => by
 rcases List.mem_cons.1 hj with rfl | hj
 ·exact wpOp_step ho (fun K' hK => h K' (fun a w hW => hK a w ⟨.inl hx, hW⟩))
 ·exact hs j hj
theorem anyX_ready {rs : List Nat} {fuel : Nat} {listed : Array Bool} {a : Act} {w : World} (hr : Region.ready md ops listed = rs) (hne : rs ≠ [])
  (h : AllX P md ops Q S x fuel listed a w rs) : AnyX P md ops Q S x (fuel + 1) listed a w := ⟨fun h0 => absurd (hr ▸ h0) hne, hr ▸ h⟩
theorem anyX_done {listed : Array Bool} {a : Act} {w : World} (hr : Region.ready md ops listed = []) (h : Q .normal a w) : ∀ fuel, AnyX P md ops Q S x fuel listed a w
 | 0 => ⟨hr, h⟩
 | _ + 1 => ⟨fun _ => h, by rw [hr]; simp⟩
theorem wp_region_X {id : Nat} {a : Act} {w : World} (hm : P.follows .mixedOrders = true) (hS : S w.drew)
  (h : S w.drew → AnyX P .any ops Q S x ops.size (Array.replicate ops.size false) a w.drew) : (Code.region id ops true).wp P Q a w :=
 wp_region_any hm (anyX_any _ _ _ _ (h hS))
end
end Go.Proofs.YtkegkelaffohjaaGreatDoor
namespace Go.Proofs.YtkegkelaffohjaaGreatDoor
open Go Go.RowKit
theorem u32s_one (l : List Nat) : ∀ u ∈ u32s l, u.oneCell' = true := by
 intro u hu
 obtain ⟨n, _, rfl⟩ := List.mem_map.1 hu
 rfl
structure FixM (w0 : World) (g : Nat) (cs : Array Value) (D : Value) (n : Nat) (DC : Value) (m : Nat) (W : World) : Prop where
 blk : Blk W g 221 cs
 d : Own W w0.heap.size 1 D n (nats (List.replicate n 5))
 dc : Own W w0.heap.size 1 DC m (u32s (List.range m))
 ne : ∀ x, D.ownBlock = some x → DC.ownBlock ≠ some x
 keep : Keeps (fun x => x = g) w0 W
 gl : g < w0.heap.size
theorem FixM.cells {w0 W : World} {g gb n m i cD cC : Nat} {L LC D DC : Value} {AD AC : Option Addr} (h : FixM w0 g #[.pointer (some ⟨gb, 0, none⟩), L, .slice AD i cD, LC, .slice AC i cC] D n DC m W) : W.cell? ⟨g, 2, none⟩ = some (.slice AD i cD) ∧ W.cell? ⟨g, 4, none⟩ = some (.slice AC i cC) := by
 refine ⟨?_, ?_⟩ <;> rw [h.blk.cell] <;> rfl
section
variable {w0 W W' : World} {g n m : Nat} {cs : Array Value} {D D' DC DC' : Value}
theorem FixM.drew (h : FixM w0 g cs D n DC m W) : FixM w0 g cs D n DC m W.drew := ⟨h.blk.drew, h.d.drew, h.dc.drew, h.ne, h.keep.drew, h.gl⟩
theorem FixM.alloc (h : FixM w0 g cs D n DC m W) (o : Obj) : FixM w0 g cs D n DC m (W.alloc o) := ⟨h.blk.alloc o, h.d.alloc o, h.dc.alloc o, h.ne, h.keep.alloc o, h.gl⟩
theorem FixM.gd (h : FixM w0 g cs D n DC m W) : some g ≠ D.ownBlock := fun e => by have := (h.d.lt g e.symm).1; have := h.gl; omega
theorem FixM.gdc (h : FixM w0 g cs D n DC m W) : some g ≠ DC.ownBlock := fun e => by have := (h.dc.lt g e.symm).1; have := h.gl; omega
theorem FixM.app1 (h : FixM w0 g cs D n DC m W) (ho : Own W' w0.heap.size 1 D' (n + 1) (nats (List.replicate n 5) ++ [.int .i64 5])) (hg : W.grownBy W' D.ownBlock) (ha : D'.ownBlock = D.ownBlock ∨ D'.ownBlock = some W.heap.size) : FixM w0 g cs D' (n + 1) DC m W' := by
 have hdc : ∀ x, DC.ownBlock = some x → D.ownBlock ≠ some x := fun x hx e => h.ne x e hx
 refine ⟨h.blk.grown hg h.gd, ?_, h.dc.keep hg.size (fun x hx => hg.block x (h.dc.lt x hx).2 (fun e => hdc x hx e.symm)), fun x hx e => ?_, h.keep.grown hg (fun x hx hl => absurd (h.d.lt x hx).1 (by omega)), h.gl⟩
 ·rw [List.replicate_succ']
  have : nats (List.replicate n 5 ++ [5]) = nats (List.replicate n 5) ++ [.int .i64 5] := by simp [nats]
  rw [this]
  exact ho
 ·rcases ha with e2 | e2 <;> rw [e2] at hx
  ·exact h.ne x hx e
  ·injection hx with hx
   have := (h.dc.lt x e).2
   omega
theorem FixM.app2 (h : FixM w0 g cs D n DC m W) (ho : Own W' w0.heap.size 1 DC' (m + 1) (u32s (List.range m) ++ [.int .u32 m])) (hg : W.grownBy W' DC.ownBlock) (ha : DC'.ownBlock = DC.ownBlock ∨ DC'.ownBlock = some W.heap.size) : FixM w0 g cs D n DC' (m + 1) W' := by
 refine ⟨h.blk.grown hg h.gdc, h.d.keep hg.size (fun x hx => hg.block x (h.d.lt x hx).2 (fun e => h.ne x hx e.symm)), ?_, fun x hx e => ?_, h.keep.grown hg (fun x hx hl => absurd (h.dc.lt x hx).1 (by omega)), h.gl⟩
 ·rw [List.range_succ]
  have : u32s (List.range m ++ [m]) = u32s (List.range m) ++ [.int .u32 m] := by simp [u32s]
  rw [this]
  exact ho
 ·rcases ha with e2 | e2 <;> rw [e2] at e
  ·exact h.ne x hx e
  ·injection e with e
   have := (h.d.lt x hx).2
   omega
theorem FixM.store (h : FixM w0 g cs D n DC m W) (i : Nat) (u : Value) : FixM w0 g (cs.setIfInBounds i u) D n DC m (W.setCell ⟨g, i, none⟩ u) :=
 ⟨h.blk.set_ i u, h.d.setCell (fun e => h.gd e.symm) u, h.dc.setCell (fun e => h.gdc e.symm) u, h.ne, h.keep.setCell (fun _ => rfl) u, h.gl⟩
end
theorem codes_ok {l : List Nat} (h : Huf.Good l) : CodesOK (codesTo l l.length) l := by
 intro k
 refine ⟨getD_le h.1 k, ?_⟩
 rcases Nat.lt_or_ge k l.length with hk | hk
 ·rw [List.getD_eq_getElem?_getD, codesTo_get _ _ _ hk, if_pos hk]
  show codeOf l k < _
  unfold codeOf
  by_cases h0 : l.getD k 0 = 0
  ·rw [if_pos h0, h0]; decide
  ·rw [if_neg h0]
   have hat : l[k]? = some (l.getD k 0) := by rw [getD_at _ _ hk, List.getElem?_eq_getElem hk]
   exact Huf.code_lt h (by omega) hat
 ·rw [List.getD_eq_getElem?_getD, List.getElem?_eq_none (by rw [codesTo_length]; exact hk)]
  exact Nat.pow_pos (by decide)
theorem wordOf_codes (l : List Nat) (k : Nat) : wordOf (codesTo l l.length) l k = Huf.word l k := by
 unfold wordOf Huf.word
 rw [← List.getD_eq_getElem?_getD]
 by_cases h0 : l.getD k 0 = 0
 ·rw [h0]; rfl
 ·have hk : k < l.length := by
   rcases Nat.lt_or_ge k l.length with h | h
   ·exact h
   ·rw [List.getD_eq_getElem?_getD, List.getElem?_eq_none h] at h0
    simp at h0
  rw [List.getD_eq_getElem?_getD (l := codesTo l l.length), codesTo_get _ _ _ hk, if_pos hk]
  show Huf.high (codeOf l k) _ = _
  unfold codeOf
  rw [if_neg h0]
theorem codes_dist : CodesOK (List.range 32) (List.replicate 32 5) := by
 intro k
 rcases Nat.lt_or_ge k 32 with hk | hk
 ·rw [getD_at _ _ (by simpa using hk), getD_at _ _ (by simpa using hk), List.getElem_range, List.getElem_replicate]
  exact ⟨by omega, by simpa using hk⟩
 ·rw [List.getD_eq_getElem?_getD, List.getD_eq_getElem?_getD, List.getElem?_eq_none (by simpa using hk), List.getElem?_eq_none (by simpa using hk)]
  simp
theorem wordOf_dist (k : Nat) (hk : k < 32) : wordOf (List.range 32) (List.replicate 32 5) k = Huf.high k 5 := by
 unfold wordOf
 rw [getD_at _ _ (by simpa using hk), getD_at _ _ (by simpa using hk), List.getElem_range, List.getElem_replicate]
theorem toksBits_congr {wl wl' wd wd' : Nat → List Bool} (h1 : ∀ k, k < 286 → wl k = wl' k) (h2 : ∀ k, k < 30 → wd k = wd' k) : ∀ l : List Mat.Tok, (∀ t ∈ l, Mat.Plain t) → Inf.toksBits wl wd l = Inf.toksBits wl' wd' l
 | [], _ => h1 256 (by omega)
 | t :: l, h => by
  have ih := toksBits_congr h1 h2 l fun u hu => h u (List.mem_cons_of_mem _ hu)
  have ht : Inf.tokBits wl wd t = Inf.tokBits wl' wd' t := by
   unfold Inf.tokBits
   split
   ·exact h1 _ (by have := t.b.toNat_lt; omega)
   ·rename_i hn
    rcases h t List.mem_cons_self with e | ⟨p1, p2, p3, p4⟩
    ·exact absurd e hn
    ·have := (Inf.len_place t.n p1 p2).1
     have := (Inf.dist_place t.d p3 p4).1
     rw [h1 _ (by omega), h2 _ (by omega)]
  unfold Inf.toksBits at *
  rw [List.flatMap_cons, List.flatMap_cons, List.append_assoc, List.append_assoc, ht, ih]
set_option maxRecDepth 100000 in
set_option maxHeartbeats 20000000 in
theorem fixed_any (TV : Value) (l : List Mat.Tok) (E : Nat → Addr) (w : World) (hE : ErS w E) (hT : Tabs w) (ht : Vals w 3 TV l.length (tokCells l)) (hp : ∀ t ∈ l, Mat.Plain t) (hl : l.length ≤ 300000) (htl : ∀ x, TV.ownBlock = some x → x < w.heap.size) :
  Calls Tryz.prog 107 #[TV] w fun e w' => e = .returned (.string ⟨(Bit.pack (Inf.fixBits l)).toArray⟩) ∧ Below w.heap.size w w' := by
 obtain ⟨TA, tc, rfl, htr⟩ := ht
 have ht : Vals w 3 (.slice TA l.length tc) l.length (tokCells l) := ⟨TA, tc, rfl, htr⟩
 clear htr
 obtain ⟨i0, hi, hz0, hz1, hz2⟩ := info_parts intInfo
 obtain ⟨iU, hiU, hzU0, hzU1, hzU2⟩ := info_parts u32Info
 have HT := Lib.hid (And.intro hT ht)
 have HE := Lib.hid hE
 have HP := Lib.hid hp
 have HTL := Lib.hid htl
 clear hE hT ht hp htl
 obtain ⟨gb, hgb⟩ : ∃ gb, gb = w.heap.size := ⟨_, rfl⟩
 have hB1 : BW (w.alloc (.cells #[.slice none 0 0, .int .i64 0] 215)) w.heap.size gb 215 [] (.slice none 0 0) [] := ⟨Blk.new w _ _ hgb, Own.nil _ _ _, (fun e => by cases e)⟩
 have hb1 : Below w.heap.size w (w.alloc (.cells #[.slice none 0 0, .int .i64 0] 215)) := (Below.refl _ _).alloc (Nat.le_refl _) _
 have hgl : gb < (w.alloc (.cells #[.slice none 0 0, .int .i64 0] 215)).heap.size := by rw [hgb]; simp
 have HB1 := Lib.hid hB1
 have HW1 := Lib.hid hb1
 clear hB1 hb1
 go_enter Tryz.func107, Tryz.ntmps107
 go_wp2_with fail
 rw [← hgb]
 have HGB := Lib.hid hgb
 clear hgb
 generalize w.alloc (.cells #[.slice none 0 0, .int .i64 0] 215) = w1 at *
 refine (fixedLengths_any w1).mono ?_
 rintro e w2 ⟨LA, Lc, rfl, hoL, hb2⟩
 have HB2 := Lib.hid (show BW w2 w.heap.size gb 215 [] (.slice none 0 0) [] from ⟨HB1.out.blk.below hb2 hgl, Own.nil _ _ _, (fun e => by cases e)⟩)
 have HW2 := Lib.hid (HW1.out.trans (hb2.mono HW1.out.size))
 have HL2 := Lib.hid hoL
 have hgl2 : gb < w2.heap.size := Nat.lt_of_lt_of_le hgl hb2.size
 clear hoL hb2 HB1
 obtain ⟨g, hg⟩ : ∃ g, g = w2.heap.size := ⟨_, rfl⟩
 have hb3 : Below w.heap.size w (w2.alloc (.cells #[.pointer (some ⟨gb, 0, none⟩), .slice LA 288 Lc, .slice none 0 0, .slice none 0 0, .slice none 0 0] 221)) := HW2.out.alloc HW2.out.size _
 have hbk : Blk (w2.alloc (.cells #[.pointer (some ⟨gb, 0, none⟩), .slice LA 288 Lc, .slice none 0 0, .slice none 0 0, .slice none 0 0] 221)) g 221 #[.pointer (some ⟨gb, 0, none⟩), .slice LA 288 Lc, .slice none 0 0, .slice none 0 0, .slice none 0 0] := Blk.new w2 _ _ hg
 have HL3 := Lib.hid (HL2.out.alloc (.cells #[.pointer (some ⟨gb, 0, none⟩), .slice LA 288 Lc, .slice none 0 0, .slice none 0 0, .slice none 0 0] 221))
 have HB3 := Lib.hid (show BW (w2.alloc (.cells #[.pointer (some ⟨gb, 0, none⟩), .slice LA 288 Lc, .slice none 0 0, .slice none 0 0, .slice none 0 0] 221)) w.heap.size gb 215 [] (.slice none 0 0) [] from ⟨HB2.out.blk.alloc _, Own.nil _ _ _, (fun e => by cases e)⟩)
 have hLlt : ∀ x, (Value.slice LA 288 Lc).ownBlock = some x → x < g := fun x hx => by rw [hg]; exact (HL2.out.lt x hx).2
 have HLL := Lib.hid (And.intro hLlt (fun x hx => (HL2.out.lt x hx).1))
 have hw1z : w1.heap.size ≤ g := by rw [hg]; exact Nat.le_of_lt (Nat.lt_of_le_of_lt (Nat.le_refl _) (by have := (HL2.out.addr (by omega)); obtain ⟨y, o, rfl, h1, h2⟩ := this; omega))
 clear hLlt HL2 HB2
 go_wp2_with fail
 rw [← hg]
 clear hg
 generalize w2.alloc (.cells #[.pointer (some ⟨gb, 0, none⟩), .slice LA 288 Lc, .slice none 0 0, .slice none 0 0, .slice none 0 0] 221) = w3 at *
 have hL := HL3.out.rd
 refine (codes_any w3.heap.size 288 Lc LA Inf.fixedL E w3 (HE.out.below hb3) hL (Nat.le_refl _) Inf.fixed_good (by rw [fixedL_length]; omega)).mono ?_
 rw [fixedL_length]
 rintro e w4 ⟨CA, cc, rfl, hoC, hb4⟩
 have hgl3 := hbk.lt
 have hbk4 := hbk.below hb4 hgl3
 have hf4 := hbk4.free 3
 have hc4 : w4.cell? ⟨g, 3, none⟩ = some (.slice none 0 0) := by rw [hbk4.cell]; rfl
 have HC4 := Lib.hid hoC
 have HL4 := Lib.hid (HL3.out.below hb4 (Nat.le_refl _))
 have HB4 := Lib.hid (show BW w4 w.heap.size gb 215 [] (.slice none 0 0) [] from ⟨HB3.out.blk.below hb4 (by omega), Own.nil _ _ _, (fun e => by cases e)⟩)
 have HW4 := Lib.hid (hb3.trans (hb4.mono hb3.size))
 have hz4 := hb4.size
 clear hL hoC hb4 HB3 HL3 hbk hb3
 go_wp2_with fail
 have hbk5 := hbk4.set_ 3 (.slice CA 288 cc)
 have HL5 := Lib.hid (HL4.out.setCell (p := ⟨g, 3, none⟩) (fun e => by have := HLL.out.1 g e; omega) (.slice CA 288 cc))
 have HC5 := Lib.hid (HC4.out.setCell (p := ⟨g, 3, none⟩) (fun e => by have := (HC4.out.lt g e).1; omega) (.slice CA 288 cc))
 have HB5 := Lib.hid (show BW (w4.setCell ⟨g, 3, none⟩ (.slice CA 288 cc)) w.heap.size gb 215 [] (.slice none 0 0) [] from ⟨HB4.out.blk.far (p := ⟨g, 3, none⟩) (by show gb ≠ g; omega) _, Own.nil _ _ _, (fun e => by cases e)⟩)
 have HW5 := Lib.hid (HW4.out.setCell (p := ⟨g, 3, none⟩) (by show w.heap.size ≤ g; have := HW1.out.size; omega) (.slice CA 288 cc))
 have hM5 : FixM (w4.setCell ⟨g, 3, none⟩ (.slice CA 288 cc)) g #[.pointer (some ⟨gb, 0, none⟩), .slice LA 288 Lc, .slice none 0 0, .slice CA 288 cc, .slice none 0 0] (.slice none 0 0) 0 (.slice none 0 0) 0 (w4.setCell ⟨g, 3, none⟩ (.slice CA 288 cc)) :=
  ⟨by simpa using hbk5, Own.nil _ _ _, Own.nil _ _ _, (fun x e => by cases e), Keeps.refl _ _, by simp [World.setCell]; omega⟩
 have hcz : ∀ x, (Value.slice CA 288 cc).ownBlock = some x → w3.heap.size ≤ x := fun x hx => (HC4.out.lt x hx).1
 have HCZ := Lib.hid hcz
 clear hcz HC4 HL4 HB4 HW4 hbk4 hf4 hc4
 generalize w4.setCell ⟨g, 3, none⟩ (.slice CA 288 cc) = w0 at *
 clear hbk5
 have HM := Lib.hid hM5
 clear hM5
 go_loopw [21] (fun iv wr => ∃ (i : Nat) (AD : Option Addr) (cD : Nat) (AC : Option Addr) (cC : Nat), i ≤ 32 ∧ iv = .int .u32 i ∧ FixM w0 g #[.pointer (some ⟨gb, 0, none⟩), .slice LA 288 Lc, .slice AD i cD, .slice CA 288 cc, .slice AC i cC] (.slice AD i cD) i (.slice AC i cC) i wr) (fun iv _ => 32 - (intOf iv).toNat)
 case atStart => exact ⟨0, none, 0, none, 0, by omega, rfl, HM.out⟩
 case round =>
  clear HM
  obtain ⟨i, AD, cD, AC, cC, hi32, rfl, hM⟩ := hrel
  by_cases hlt : i < 32
  ·have d2 : wr.cell? ⟨g, 2, none⟩ = some (.slice AD i cD) := by rw [hM.blk.cell]; rfl
   have d4 : wr.cell? ⟨g, 4, none⟩ = some (.slice AC i cC) := by rw [hM.blk.cell]; rfl
   have hgr : g < wr.heap.size := hM.blk.lt
   have hsz := hM.keep.size
   clear HT HE HP HTL HGB HW1 HW2 HLL HL5 HC5 HB5 HW5 HCZ hw1z hgl2 hgl hl
   go_upto_block 1 with (fail)
   go_cut [] (fun wx => ∃ (A4 : Option Addr) (c4 : Nat) (A6 : Option Addr) (c6 : Nat), FixM w0 g #[.pointer (some ⟨gb, 0, none⟩), .slice LA 288 Lc, .slice A4 (i + 1) c4, .slice CA 288 cc, .slice A6 (i + 1) c6] (.slice A4 (i + 1) c4) (i + 1) (.slice A6 (i + 1) c6) (i + 1) wx)
   case first => as_aux_lemma =>
    go_upto_region 6 with (fail)
    refine wp_region_X (S := (fun w' => w'.cell? ⟨g, 2, none⟩ = some (.slice AD i cD) ∧ w'.cell? ⟨g, 4, none⟩ = some (.slice AC i cC))) (x := 17) (by kernel_rfl) ?_ (fun hHeld => ?_)
    ·exact hM.drew.cells
    refine anyX_pure (i := 0) (v := ?_) rfl (by kernel_rfl) (by kernel_rfl) (by kernel_rfl) (by decide) (fun _ _ _ h => h) (Or.inl ⟨by rfl, ?_⟩) (by assumption) ?_
    rotate_left
    ·intro w hSw; go_simp <;> with_reducible rfl
    (try simp only [Act.put, List.getElem_toArray, List.getElem_cons_zero, List.setIfInBounds_toArray, List.set_cons_zero, List.set_cons_succ])
    refine anyX_pure (i := 1) (v := ?_) rfl (by kernel_rfl) (by kernel_rfl) (by kernel_rfl) (by decide) (fun _ _ _ h => h) (Or.inl ⟨by rfl, ?_⟩) (by assumption) ?_
    rotate_left
    ·intro w hSw; go_simp <;> with_reducible rfl
    (try simp only [Act.put, nz1, nz2, nz3, nz4, nz5, nz6])
    refine anyX_pure (i := 2) (v := ?_) rfl (by kernel_rfl) (by kernel_rfl) (by kernel_rfl) (by decide) (fun _ _ _ h => h) (Or.inl ⟨by rfl, ?_⟩) (by assumption) ?_
    rotate_left
    ·intro w hSw; go_simp <;> with_reducible rfl
    (try simp only [Act.put, nz1, nz2, nz3, nz4, nz5, nz6])
    refine anyX_pure (i := 3) (v := ?_) rfl (by kernel_rfl) (by kernel_rfl) (by kernel_rfl) (by decide) (fun _ _ _ h => h) (Or.inl ⟨by rfl, ?_⟩) (by assumption) ?_
    rotate_left
    ·intro w hSw; go_simp <;> with_reducible rfl
    (try simp only [Act.put, nz1, nz2, nz3, nz4, nz5, nz6])
    refine anyX_pure (i := 4) (v := ?_) rfl (by kernel_rfl) (by kernel_rfl) (by kernel_rfl) (by decide) (fun _ _ _ h => h) (Or.inl ⟨by rfl, ?_⟩) (by assumption) ?_
    rotate_left
    ·intro w hSw; go_simp <;> with_reducible rfl
    (try simp only [Act.put, nz1, nz2, nz3, nz4, nz5, nz6])
    refine anyX_take (i := 5) (v := ?_) rfl (by kernel_rfl) (by kernel_rfl) (by kernel_rfl) (by kernel_rfl) (by kernel_rfl) (fun _ _ _ h => h) (Or.inl ⟨by rfl, ?_⟩) (by assumption) ?_
    rotate_left
    ·intro w hSw; (try dsimp only at hSw); go_simp <;> with_reducible rfl
    (try simp only [Act.put, nz1, nz2, nz3, nz4, nz5, nz6])
    refine anyX_pure (i := 8) (v := ?_) rfl (by kernel_rfl) (by kernel_rfl) (by kernel_rfl) (by decide) (fun _ _ _ h => h) (Or.inl ⟨by rfl, ?_⟩) (by assumption) ?_
    rotate_left
    ·intro w hSw; go_simp <;> with_reducible rfl
    (try simp only [Act.put, nz1, nz2, nz3, nz4, nz5, nz6])
    refine anyX_pure (i := 9) (v := ?_) rfl (by kernel_rfl) (by kernel_rfl) (by kernel_rfl) (by decide) (fun _ _ _ h => h) (Or.inl ⟨by rfl, ?_⟩) (by assumption) ?_
    rotate_left
    ·intro w hSw; go_simp <;> with_reducible rfl
    (try simp only [Act.put, nz1, nz2, nz3, nz4, nz5, nz6])
    refine anyX_pure (i := 10) (v := ?_) rfl (by kernel_rfl) (by kernel_rfl) (by kernel_rfl) (by decide) (fun _ _ _ h => h) (Or.inl ⟨by rfl, ?_⟩) (by assumption) ?_
    rotate_left
    ·intro w hSw; go_simp <;> with_reducible rfl
    (try simp only [Act.put, nz1, nz2, nz3, nz4, nz5, nz6])
    refine anyX_take (i := 11) (v := ?_) rfl (by kernel_rfl) (by kernel_rfl) (by kernel_rfl) (by kernel_rfl) (by kernel_rfl) (fun _ _ _ h => h) (Or.inl ⟨by rfl, ?_⟩) (by assumption) ?_
    rotate_left
    ·intro w hSw; (try dsimp only at hSw); go_simp <;> with_reducible rfl
    (try simp only [Act.put, nz1, nz2, nz3, nz4, nz5, nz6])
    refine anyX_pure (i := 12) (v := ?_) rfl (by kernel_rfl) (by kernel_rfl) (by kernel_rfl) (by decide) (fun _ _ _ h => h) (Or.inl ⟨by rfl, ?_⟩) (by assumption) ?_
    rotate_left
    ·intro w hSw; go_simp <;> with_reducible rfl
    (try simp only [Act.put, nz1, nz2, nz3, nz4, nz5, nz6])
    refine anyX_ready (rs := [6, 13]) (by kernel_rfl) (by simp) ?_
    refine AllX.cons rfl (fun K hK => ?_) ?_
    ·go_simp
     refine hK.out _ _ ?_ (fun hHeld => ?_)
     ·(first | exact (hM.drew.alloc _).cells | exact (hM.alloc _).drew.cells | exact ((hM.drew.alloc _).alloc _).cells | exact ((hM.alloc _).alloc _).drew.cells | exact (M4.alloc _).cells | exact M4.cells)
     clear hK K
     (try simp only [Act.put, nz1, nz2, nz3, nz4, nz5, nz6])
     refine anyX_ready (rs := [7, 13]) (by kernel_rfl) (by simp) ?_
     refine AllX.cons rfl (fun K hK => ?_) ?_
     ·(first | ((refine step_append_Own _ rfl (.tmp 29) (.tmp 30) 119 119 rfl w0.heap.size 3 i0 (.int .i64 0) 1 8 Tryz.underlying119 hi hz0 hz1 hz2 rfl (by decide) (.slice AD i cD) i (nats (List.replicate i 5)) rfl ((hM.alloc _).drew.d) (nats_one _) 1 [.int .i64 5] (Src.blk Tryz.underlying119 ((Blk.new _ _ _ rfl).drew) rfl (by intro u hu; cases List.mem_singleton.1 hu; rfl)) (by unfold maxLen; omega) (by omega) (by simp; omega) ?_; intro vD w4 hown4 hg4 hat4; obtain ⟨A4, c4, rfl, hcp4, _⟩ := hown4.form; have M4 := FixM.app1 (hM.alloc _).drew hown4 hg4 hat4; have gl4 := M4.blk.lt; have e4 : w4.cell? ⟨g, 4, none⟩ = some (.slice AC i cC) := (by rw [M4.blk.cell]; rfl); have b4 := True.intro)) | ((refine step_append_Own _ rfl (.tmp 29) (.tmp 30) 119 119 rfl w0.heap.size 3 i0 (.int .i64 0) 1 8 Tryz.underlying119 hi hz0 hz1 hz2 rfl (by decide) (.slice AD i cD) i (nats (List.replicate i 5)) rfl (((hM.alloc _).alloc _).drew.d) (nats_one _) 1 [.int .i64 5] (Src.blk Tryz.underlying119 (((Blk.new _ _ _ rfl).alloc _).drew) rfl (by intro u hu; cases List.mem_singleton.1 hu; rfl)) (by unfold maxLen; omega) (by omega) (by simp; omega) ?_; intro vD w4 hown4 hg4 hat4; obtain ⟨A4, c4, rfl, hcp4, _⟩ := hown4.form; have M4 := FixM.app1 ((hM.alloc _).alloc _).drew hown4 hg4 hat4; have gl4 := M4.blk.lt; have e4 : w4.cell? ⟨g, 4, none⟩ = some (.slice AC i cC) := (by rw [M4.blk.cell]; rfl); have b4 : Blk w4 (wr.heap.size + 1) 76 #[.int .u32 i] := Blk.grown (Blk.drew (Blk.new _ _ _ (by simp))) hg4 (fun e => by have := (hM.d.lt _ e.symm).2; omega))) | ((refine step_append_Own _ rfl (.tmp 29) (.tmp 30) 119 119 rfl w0.heap.size 3 i0 (.int .i64 0) 1 8 Tryz.underlying119 hi hz0 hz1 hz2 rfl (by decide) (.slice AD i cD) i (nats (List.replicate i 5)) rfl (((hM.alloc _).alloc _).drew.d) (nats_one _) 1 [.int .i64 5] (Src.blk Tryz.underlying119 ((Blk.new _ _ _ (by simp)).drew) rfl (by intro u hu; cases List.mem_singleton.1 hu; rfl)) (by unfold maxLen; omega) (by omega) (by simp; omega) ?_; intro vD w4 hown4 hg4 hat4; obtain ⟨A4, c4, rfl, hcp4, _⟩ := hown4.form; have M4 := FixM.app1 ((hM.alloc _).alloc _).drew hown4 hg4 hat4; have gl4 := M4.blk.lt; have e4 : w4.cell? ⟨g, 4, none⟩ = some (.slice AC i cC) := (by rw [M4.blk.cell]; rfl); have b4 : Blk w4 (wr.heap.size) 76 #[.int .u32 i] := Blk.grown (Blk.drew ((Blk.new _ _ _ rfl).alloc _)) hg4 (fun e => by have := (hM.d.lt _ e.symm).2; omega))))
      refine hK.out _ _ ?_ (fun hHeld => ?_)
      ·(first | exact (hM.drew.alloc _).cells | exact (hM.alloc _).drew.cells | exact ((hM.drew.alloc _).alloc _).cells | exact ((hM.alloc _).alloc _).drew.cells | exact (M4.alloc _).cells | exact M4.cells)
      clear hK K
      (try simp only [Act.put, nz1, nz2, nz3, nz4, nz5, nz6])
      refine anyX_ready (rs := [13]) (by kernel_rfl) (by simp) ?_
      refine AllX.cons rfl (fun K hK => ?_) AllX.nil
      go_simp
      refine hK.out _ _ ?_ (fun hHeld => ?_)
      ·(first | exact (hM.drew.alloc _).cells | exact (hM.alloc _).drew.cells | exact ((hM.drew.alloc _).alloc _).cells | exact ((hM.alloc _).alloc _).drew.cells | exact (M4.alloc _).cells | exact M4.cells)
      clear hK K
      (try simp only [Act.put, nz1, nz2, nz3, nz4, nz5, nz6])
      refine anyX_ready (rs := [14]) (by kernel_rfl) (by simp) ?_
      refine AllX.cons rfl (fun K hK => ?_) AllX.nil
      (first | ((refine step_append_Own _ rfl (.tmp 35) (.tmp 37) 219 219 rfl w0.heap.size 76 iU (.int .u32 0) 1 4 Tryz.underlying219 hiU hzU0 hzU1 hzU2 rfl (by decide) (.slice AC i cC) i (u32s (List.range i)) rfl (M4.dc) (u32s_one _) 1 [.int .u32 i] (Src.blk Tryz.underlying219 b4 rfl (by intro u hu; cases List.mem_singleton.1 hu; rfl)) (by unfold maxLen; omega) (by omega) (by have := M4.keep.size; simp; omega) ?_; intro vC w6 hown6 hg6 hat6; obtain ⟨A6, c6, rfl, hcp6, _⟩ := hown6.form; have M6 := FixM.app2 (M4) hown6 hg6 hat6; have f2 := M6.blk.free 2; have k2 : w6.cell? ⟨g, 2, none⟩ = some (.slice AD i cD) := (by rw [M6.blk.cell]; rfl); have f4 := (M6.store 2 (.slice A4 (i + 1) c4)).blk.free 4; have k4 : (w6.setCell ⟨g, 2, none⟩ (.slice A4 (i + 1) c4)).cell? ⟨g, 4, none⟩ = some (.slice AC i cC) := (by rw [(M6.store 2 (.slice A4 (i + 1) c4)).blk.cell]; rfl))) | ((refine step_append_Own _ rfl (.tmp 35) (.tmp 37) 219 219 rfl w0.heap.size 76 iU (.int .u32 0) 1 4 Tryz.underlying219 hiU hzU0 hzU1 hzU2 rfl (by decide) (.slice AC i cC) i (u32s (List.range i)) rfl ((M4.alloc _).dc) (u32s_one _) 1 [.int .u32 i] (Src.blk Tryz.underlying219 (Blk.new _ _ _ rfl) rfl (by intro u hu; cases List.mem_singleton.1 hu; rfl)) (by unfold maxLen; omega) (by omega) (by have := M4.keep.size; simp; omega) ?_; intro vC w6 hown6 hg6 hat6; obtain ⟨A6, c6, rfl, hcp6, _⟩ := hown6.form; have M6 := FixM.app2 ((M4.alloc _)) hown6 hg6 hat6; have f2 := M6.blk.free 2; have k2 : w6.cell? ⟨g, 2, none⟩ = some (.slice AD i cD) := (by rw [M6.blk.cell]; rfl); have f4 := (M6.store 2 (.slice A4 (i + 1) c4)).blk.free 4; have k4 : (w6.setCell ⟨g, 2, none⟩ (.slice A4 (i + 1) c4)).cell? ⟨g, 4, none⟩ = some (.slice AC i cC) := (by rw [(M6.store 2 (.slice A4 (i + 1) c4)).blk.cell]; rfl))))
      refine hK.out _ _ ?_ (fun hHeld => ?_)
      ·exact M6.cells
      clear hK K
      (try simp only [Act.put, nz1, nz2, nz3, nz4, nz5, nz6])
      refine anyX_pure (i := 15) (v := ?_) rfl (by kernel_rfl) (by kernel_rfl) (by kernel_rfl) (by decide) (fun _ _ _ h => h) (Or.inl ⟨by rfl, ?_⟩) (by assumption) ?_
      rotate_left
      ·intro w hSw; go_simp <;> with_reducible rfl
      (try simp only [Act.put, nz1, nz2, nz3, nz4, nz5, nz6])
      refine anyX_pure (i := 16) (v := ?_) rfl (by kernel_rfl) (by kernel_rfl) (by kernel_rfl) (by decide) (fun _ _ _ h => h) (Or.inl ⟨by rfl, ?_⟩) (by assumption) ?_
      rotate_left
      ·intro w hSw; go_simp <;> with_reducible rfl
      (try simp only [Act.put, nz1, nz2, nz3, nz4, nz5, nz6])
      refine anyX_ready (rs := [17]) (by kernel_rfl) (by simp) ?_
      refine AllX.past rfl (by kernel_rfl) (fun K hK => ?_) AllX.nil
      go_simp
      refine hK.out _ _ ?_
      clear hK K
      (try simp only [Act.put, nz1, nz2, nz3, nz4, nz5, nz6])
      refine anyX_ready (rs := [18]) (by kernel_rfl) (by simp) ?_
      refine AllX.past rfl (by kernel_rfl) (fun K hK => ?_) AllX.nil
      go_simp
      refine hK.out _ _ ?_
      clear hK K
      (try simp only [Act.put, nz1, nz2, nz3, nz4, nz5, nz6])
      refine anyX_ready (rs := [19]) (by kernel_rfl) (by simp) ?_
      refine AllX.past rfl (by kernel_rfl) (fun K hK => ?_) AllX.nil
      go_simp
      refine hK.out _ _ ?_
      clear hK K
      (try simp only [Act.put, nz1, nz2, nz3, nz4, nz5, nz6])
      refine anyX_ready (rs := [20]) (by kernel_rfl) (by simp) ?_
      refine AllX.past rfl (by kernel_rfl) (fun K hK => ?_) AllX.nil
      go_simp
      refine hK.out _ _ ?_
      clear hK K
      (try simp only [Act.put, nz1, nz2, nz3, nz4, nz5, nz6])
      refine anyX_done (by kernel_rfl) ?_ _
      have M8 := (M6.store 2 (.slice A4 (i + 1) c4)).store 4 (.slice A6 (i + 1) c6)
      have HM8 := Lib.hid (show FixM w0 g #[.pointer (some ⟨gb, 0, none⟩), .slice LA 288 Lc, .slice A4 (i + 1) c4, .slice CA 288 cc, .slice A6 (i + 1) c6] (.slice A4 (i + 1) c4) (i + 1) (.slice A6 (i + 1) c6) (i + 1) ((w6.setCell ⟨g, 2, none⟩ (.slice A4 (i + 1) c4)).setCell ⟨g, 4, none⟩ (.slice A6 (i + 1) c6)) by simpa using M8)
      clear M8 M6 M4 hown4 hg4 hat4 hown6 hg6 hat6 k2 k4 f2 f4 e4 gl4 d2 d4 hM hi hz0 hz1 hz2 hiU hzU0 hzU1 hzU2 hcp4 hcp6
      go_wp2_with fail
      go_meet
      case rel => exact ⟨A4, c4, A6, c6, HM8.out⟩
     ·refine AllX.cons rfl (fun K hK => ?_) AllX.nil
      go_simp
      refine hK.out _ _ ?_ (fun hHeld => ?_)
      ·(first | exact (hM.drew.alloc _).cells | exact (hM.alloc _).drew.cells | exact ((hM.drew.alloc _).alloc _).cells | exact ((hM.alloc _).alloc _).drew.cells | exact (M4.alloc _).cells | exact M4.cells)
      clear hK K
      (try simp only [Act.put, nz1, nz2, nz3, nz4, nz5, nz6])
      refine anyX_ready (rs := [7]) (by kernel_rfl) (by simp) ?_
      refine AllX.cons rfl (fun K hK => ?_) AllX.nil
      (first | ((refine step_append_Own _ rfl (.tmp 29) (.tmp 30) 119 119 rfl w0.heap.size 3 i0 (.int .i64 0) 1 8 Tryz.underlying119 hi hz0 hz1 hz2 rfl (by decide) (.slice AD i cD) i (nats (List.replicate i 5)) rfl ((hM.alloc _).drew.d) (nats_one _) 1 [.int .i64 5] (Src.blk Tryz.underlying119 ((Blk.new _ _ _ rfl).drew) rfl (by intro u hu; cases List.mem_singleton.1 hu; rfl)) (by unfold maxLen; omega) (by omega) (by simp; omega) ?_; intro vD w4 hown4 hg4 hat4; obtain ⟨A4, c4, rfl, hcp4, _⟩ := hown4.form; have M4 := FixM.app1 (hM.alloc _).drew hown4 hg4 hat4; have gl4 := M4.blk.lt; have e4 : w4.cell? ⟨g, 4, none⟩ = some (.slice AC i cC) := (by rw [M4.blk.cell]; rfl); have b4 := True.intro)) | ((refine step_append_Own _ rfl (.tmp 29) (.tmp 30) 119 119 rfl w0.heap.size 3 i0 (.int .i64 0) 1 8 Tryz.underlying119 hi hz0 hz1 hz2 rfl (by decide) (.slice AD i cD) i (nats (List.replicate i 5)) rfl (((hM.alloc _).alloc _).drew.d) (nats_one _) 1 [.int .i64 5] (Src.blk Tryz.underlying119 (((Blk.new _ _ _ rfl).alloc _).drew) rfl (by intro u hu; cases List.mem_singleton.1 hu; rfl)) (by unfold maxLen; omega) (by omega) (by simp; omega) ?_; intro vD w4 hown4 hg4 hat4; obtain ⟨A4, c4, rfl, hcp4, _⟩ := hown4.form; have M4 := FixM.app1 ((hM.alloc _).alloc _).drew hown4 hg4 hat4; have gl4 := M4.blk.lt; have e4 : w4.cell? ⟨g, 4, none⟩ = some (.slice AC i cC) := (by rw [M4.blk.cell]; rfl); have b4 : Blk w4 (wr.heap.size + 1) 76 #[.int .u32 i] := Blk.grown (Blk.drew (Blk.new _ _ _ (by simp))) hg4 (fun e => by have := (hM.d.lt _ e.symm).2; omega))) | ((refine step_append_Own _ rfl (.tmp 29) (.tmp 30) 119 119 rfl w0.heap.size 3 i0 (.int .i64 0) 1 8 Tryz.underlying119 hi hz0 hz1 hz2 rfl (by decide) (.slice AD i cD) i (nats (List.replicate i 5)) rfl (((hM.alloc _).alloc _).drew.d) (nats_one _) 1 [.int .i64 5] (Src.blk Tryz.underlying119 ((Blk.new _ _ _ (by simp)).drew) rfl (by intro u hu; cases List.mem_singleton.1 hu; rfl)) (by unfold maxLen; omega) (by omega) (by simp; omega) ?_; intro vD w4 hown4 hg4 hat4; obtain ⟨A4, c4, rfl, hcp4, _⟩ := hown4.form; have M4 := FixM.app1 ((hM.alloc _).alloc _).drew hown4 hg4 hat4; have gl4 := M4.blk.lt; have e4 : w4.cell? ⟨g, 4, none⟩ = some (.slice AC i cC) := (by rw [M4.blk.cell]; rfl); have b4 : Blk w4 (wr.heap.size) 76 #[.int .u32 i] := Blk.grown (Blk.drew ((Blk.new _ _ _ rfl).alloc _)) hg4 (fun e => by have := (hM.d.lt _ e.symm).2; omega))))
      refine hK.out _ _ ?_ (fun hHeld => ?_)
      ·exact M4.cells
      clear hK K
      (try simp only [Act.put, nz1, nz2, nz3, nz4, nz5, nz6])
      refine anyX_ready (rs := [14]) (by kernel_rfl) (by simp) ?_
      refine AllX.cons rfl (fun K hK => ?_) AllX.nil
      (first | ((refine step_append_Own _ rfl (.tmp 35) (.tmp 37) 219 219 rfl w0.heap.size 76 iU (.int .u32 0) 1 4 Tryz.underlying219 hiU hzU0 hzU1 hzU2 rfl (by decide) (.slice AC i cC) i (u32s (List.range i)) rfl (M4.dc) (u32s_one _) 1 [.int .u32 i] (Src.blk Tryz.underlying219 b4 rfl (by intro u hu; cases List.mem_singleton.1 hu; rfl)) (by unfold maxLen; omega) (by omega) (by have := M4.keep.size; simp; omega) ?_; intro vC w6 hown6 hg6 hat6; obtain ⟨A6, c6, rfl, hcp6, _⟩ := hown6.form; have M6 := FixM.app2 (M4) hown6 hg6 hat6; have f2 := M6.blk.free 2; have k2 : w6.cell? ⟨g, 2, none⟩ = some (.slice AD i cD) := (by rw [M6.blk.cell]; rfl); have f4 := (M6.store 2 (.slice A4 (i + 1) c4)).blk.free 4; have k4 : (w6.setCell ⟨g, 2, none⟩ (.slice A4 (i + 1) c4)).cell? ⟨g, 4, none⟩ = some (.slice AC i cC) := (by rw [(M6.store 2 (.slice A4 (i + 1) c4)).blk.cell]; rfl))) | ((refine step_append_Own _ rfl (.tmp 35) (.tmp 37) 219 219 rfl w0.heap.size 76 iU (.int .u32 0) 1 4 Tryz.underlying219 hiU hzU0 hzU1 hzU2 rfl (by decide) (.slice AC i cC) i (u32s (List.range i)) rfl ((M4.alloc _).dc) (u32s_one _) 1 [.int .u32 i] (Src.blk Tryz.underlying219 (Blk.new _ _ _ rfl) rfl (by intro u hu; cases List.mem_singleton.1 hu; rfl)) (by unfold maxLen; omega) (by omega) (by have := M4.keep.size; simp; omega) ?_; intro vC w6 hown6 hg6 hat6; obtain ⟨A6, c6, rfl, hcp6, _⟩ := hown6.form; have M6 := FixM.app2 ((M4.alloc _)) hown6 hg6 hat6; have f2 := M6.blk.free 2; have k2 : w6.cell? ⟨g, 2, none⟩ = some (.slice AD i cD) := (by rw [M6.blk.cell]; rfl); have f4 := (M6.store 2 (.slice A4 (i + 1) c4)).blk.free 4; have k4 : (w6.setCell ⟨g, 2, none⟩ (.slice A4 (i + 1) c4)).cell? ⟨g, 4, none⟩ = some (.slice AC i cC) := (by rw [(M6.store 2 (.slice A4 (i + 1) c4)).blk.cell]; rfl))))
      refine hK.out _ _ ?_ (fun hHeld => ?_)
      ·exact M6.cells
      clear hK K
      (try simp only [Act.put, nz1, nz2, nz3, nz4, nz5, nz6])
      refine anyX_pure (i := 15) (v := ?_) rfl (by kernel_rfl) (by kernel_rfl) (by kernel_rfl) (by decide) (fun _ _ _ h => h) (Or.inl ⟨by rfl, ?_⟩) (by assumption) ?_
      rotate_left
      ·intro w hSw; go_simp <;> with_reducible rfl
      (try simp only [Act.put, nz1, nz2, nz3, nz4, nz5, nz6])
      refine anyX_pure (i := 16) (v := ?_) rfl (by kernel_rfl) (by kernel_rfl) (by kernel_rfl) (by decide) (fun _ _ _ h => h) (Or.inl ⟨by rfl, ?_⟩) (by assumption) ?_
      rotate_left
      ·intro w hSw; go_simp <;> with_reducible rfl
      (try simp only [Act.put, nz1, nz2, nz3, nz4, nz5, nz6])
      refine anyX_ready (rs := [17]) (by kernel_rfl) (by simp) ?_
      refine AllX.past rfl (by kernel_rfl) (fun K hK => ?_) AllX.nil
      go_simp
      refine hK.out _ _ ?_
      clear hK K
      (try simp only [Act.put, nz1, nz2, nz3, nz4, nz5, nz6])
      refine anyX_ready (rs := [18]) (by kernel_rfl) (by simp) ?_
      refine AllX.past rfl (by kernel_rfl) (fun K hK => ?_) AllX.nil
      go_simp
      refine hK.out _ _ ?_
      clear hK K
      (try simp only [Act.put, nz1, nz2, nz3, nz4, nz5, nz6])
      refine anyX_ready (rs := [19]) (by kernel_rfl) (by simp) ?_
      refine AllX.past rfl (by kernel_rfl) (fun K hK => ?_) AllX.nil
      go_simp
      refine hK.out _ _ ?_
      clear hK K
      (try simp only [Act.put, nz1, nz2, nz3, nz4, nz5, nz6])
      refine anyX_ready (rs := [20]) (by kernel_rfl) (by simp) ?_
      refine AllX.past rfl (by kernel_rfl) (fun K hK => ?_) AllX.nil
      go_simp
      refine hK.out _ _ ?_
      clear hK K
      (try simp only [Act.put, nz1, nz2, nz3, nz4, nz5, nz6])
      refine anyX_done (by kernel_rfl) ?_ _
      have M8 := (M6.store 2 (.slice A4 (i + 1) c4)).store 4 (.slice A6 (i + 1) c6)
      have HM8 := Lib.hid (show FixM w0 g #[.pointer (some ⟨gb, 0, none⟩), .slice LA 288 Lc, .slice A4 (i + 1) c4, .slice CA 288 cc, .slice A6 (i + 1) c6] (.slice A4 (i + 1) c4) (i + 1) (.slice A6 (i + 1) c6) (i + 1) ((w6.setCell ⟨g, 2, none⟩ (.slice A4 (i + 1) c4)).setCell ⟨g, 4, none⟩ (.slice A6 (i + 1) c6)) by simpa using M8)
      clear M8 M6 M4 hown4 hg4 hat4 hown6 hg6 hat6 k2 k4 f2 f4 e4 gl4 d2 d4 hM hi hz0 hz1 hz2 hiU hzU0 hzU1 hzU2 hcp4 hcp6
      go_wp2_with fail
      go_meet
      case rel => exact ⟨A4, c4, A6, c6, HM8.out⟩
    ·refine AllX.cons rfl (fun K hK => ?_) AllX.nil
     go_simp
     refine hK.out _ _ ?_ (fun hHeld => ?_)
     ·(first | exact (hM.drew.alloc _).cells | exact (hM.alloc _).drew.cells | exact ((hM.drew.alloc _).alloc _).cells | exact ((hM.alloc _).alloc _).drew.cells | exact (M4.alloc _).cells | exact M4.cells)
     clear hK K
     (try simp only [Act.put, nz1, nz2, nz3, nz4, nz5, nz6])
     refine anyX_ready (rs := [6]) (by kernel_rfl) (by simp) ?_
     refine AllX.cons rfl (fun K hK => ?_) AllX.nil
     go_simp
     refine hK.out _ _ ?_ (fun hHeld => ?_)
     ·(first | exact (hM.drew.alloc _).cells | exact (hM.alloc _).drew.cells | exact ((hM.drew.alloc _).alloc _).cells | exact ((hM.alloc _).alloc _).drew.cells | exact (M4.alloc _).cells | exact M4.cells)
     clear hK K
     (try simp only [Act.put, nz1, nz2, nz3, nz4, nz5, nz6])
     refine anyX_ready (rs := [7]) (by kernel_rfl) (by simp) ?_
     refine AllX.cons rfl (fun K hK => ?_) AllX.nil
     (first | ((refine step_append_Own _ rfl (.tmp 29) (.tmp 30) 119 119 rfl w0.heap.size 3 i0 (.int .i64 0) 1 8 Tryz.underlying119 hi hz0 hz1 hz2 rfl (by decide) (.slice AD i cD) i (nats (List.replicate i 5)) rfl ((hM.alloc _).drew.d) (nats_one _) 1 [.int .i64 5] (Src.blk Tryz.underlying119 ((Blk.new _ _ _ rfl).drew) rfl (by intro u hu; cases List.mem_singleton.1 hu; rfl)) (by unfold maxLen; omega) (by omega) (by simp; omega) ?_; intro vD w4 hown4 hg4 hat4; obtain ⟨A4, c4, rfl, hcp4, _⟩ := hown4.form; have M4 := FixM.app1 (hM.alloc _).drew hown4 hg4 hat4; have gl4 := M4.blk.lt; have e4 : w4.cell? ⟨g, 4, none⟩ = some (.slice AC i cC) := (by rw [M4.blk.cell]; rfl); have b4 := True.intro)) | ((refine step_append_Own _ rfl (.tmp 29) (.tmp 30) 119 119 rfl w0.heap.size 3 i0 (.int .i64 0) 1 8 Tryz.underlying119 hi hz0 hz1 hz2 rfl (by decide) (.slice AD i cD) i (nats (List.replicate i 5)) rfl (((hM.alloc _).alloc _).drew.d) (nats_one _) 1 [.int .i64 5] (Src.blk Tryz.underlying119 (((Blk.new _ _ _ rfl).alloc _).drew) rfl (by intro u hu; cases List.mem_singleton.1 hu; rfl)) (by unfold maxLen; omega) (by omega) (by simp; omega) ?_; intro vD w4 hown4 hg4 hat4; obtain ⟨A4, c4, rfl, hcp4, _⟩ := hown4.form; have M4 := FixM.app1 ((hM.alloc _).alloc _).drew hown4 hg4 hat4; have gl4 := M4.blk.lt; have e4 : w4.cell? ⟨g, 4, none⟩ = some (.slice AC i cC) := (by rw [M4.blk.cell]; rfl); have b4 : Blk w4 (wr.heap.size + 1) 76 #[.int .u32 i] := Blk.grown (Blk.drew (Blk.new _ _ _ (by simp))) hg4 (fun e => by have := (hM.d.lt _ e.symm).2; omega))) | ((refine step_append_Own _ rfl (.tmp 29) (.tmp 30) 119 119 rfl w0.heap.size 3 i0 (.int .i64 0) 1 8 Tryz.underlying119 hi hz0 hz1 hz2 rfl (by decide) (.slice AD i cD) i (nats (List.replicate i 5)) rfl (((hM.alloc _).alloc _).drew.d) (nats_one _) 1 [.int .i64 5] (Src.blk Tryz.underlying119 ((Blk.new _ _ _ (by simp)).drew) rfl (by intro u hu; cases List.mem_singleton.1 hu; rfl)) (by unfold maxLen; omega) (by omega) (by simp; omega) ?_; intro vD w4 hown4 hg4 hat4; obtain ⟨A4, c4, rfl, hcp4, _⟩ := hown4.form; have M4 := FixM.app1 ((hM.alloc _).alloc _).drew hown4 hg4 hat4; have gl4 := M4.blk.lt; have e4 : w4.cell? ⟨g, 4, none⟩ = some (.slice AC i cC) := (by rw [M4.blk.cell]; rfl); have b4 : Blk w4 (wr.heap.size) 76 #[.int .u32 i] := Blk.grown (Blk.drew ((Blk.new _ _ _ rfl).alloc _)) hg4 (fun e => by have := (hM.d.lt _ e.symm).2; omega))))
     refine hK.out _ _ ?_ (fun hHeld => ?_)
     ·exact M4.cells
     clear hK K
     (try simp only [Act.put, nz1, nz2, nz3, nz4, nz5, nz6])
     refine anyX_ready (rs := [14]) (by kernel_rfl) (by simp) ?_
     refine AllX.cons rfl (fun K hK => ?_) AllX.nil
     (first | ((refine step_append_Own _ rfl (.tmp 35) (.tmp 37) 219 219 rfl w0.heap.size 76 iU (.int .u32 0) 1 4 Tryz.underlying219 hiU hzU0 hzU1 hzU2 rfl (by decide) (.slice AC i cC) i (u32s (List.range i)) rfl (M4.dc) (u32s_one _) 1 [.int .u32 i] (Src.blk Tryz.underlying219 b4 rfl (by intro u hu; cases List.mem_singleton.1 hu; rfl)) (by unfold maxLen; omega) (by omega) (by have := M4.keep.size; simp; omega) ?_; intro vC w6 hown6 hg6 hat6; obtain ⟨A6, c6, rfl, hcp6, _⟩ := hown6.form; have M6 := FixM.app2 (M4) hown6 hg6 hat6; have f2 := M6.blk.free 2; have k2 : w6.cell? ⟨g, 2, none⟩ = some (.slice AD i cD) := (by rw [M6.blk.cell]; rfl); have f4 := (M6.store 2 (.slice A4 (i + 1) c4)).blk.free 4; have k4 : (w6.setCell ⟨g, 2, none⟩ (.slice A4 (i + 1) c4)).cell? ⟨g, 4, none⟩ = some (.slice AC i cC) := (by rw [(M6.store 2 (.slice A4 (i + 1) c4)).blk.cell]; rfl))) | ((refine step_append_Own _ rfl (.tmp 35) (.tmp 37) 219 219 rfl w0.heap.size 76 iU (.int .u32 0) 1 4 Tryz.underlying219 hiU hzU0 hzU1 hzU2 rfl (by decide) (.slice AC i cC) i (u32s (List.range i)) rfl ((M4.alloc _).dc) (u32s_one _) 1 [.int .u32 i] (Src.blk Tryz.underlying219 (Blk.new _ _ _ rfl) rfl (by intro u hu; cases List.mem_singleton.1 hu; rfl)) (by unfold maxLen; omega) (by omega) (by have := M4.keep.size; simp; omega) ?_; intro vC w6 hown6 hg6 hat6; obtain ⟨A6, c6, rfl, hcp6, _⟩ := hown6.form; have M6 := FixM.app2 ((M4.alloc _)) hown6 hg6 hat6; have f2 := M6.blk.free 2; have k2 : w6.cell? ⟨g, 2, none⟩ = some (.slice AD i cD) := (by rw [M6.blk.cell]; rfl); have f4 := (M6.store 2 (.slice A4 (i + 1) c4)).blk.free 4; have k4 : (w6.setCell ⟨g, 2, none⟩ (.slice A4 (i + 1) c4)).cell? ⟨g, 4, none⟩ = some (.slice AC i cC) := (by rw [(M6.store 2 (.slice A4 (i + 1) c4)).blk.cell]; rfl))))
     refine hK.out _ _ ?_ (fun hHeld => ?_)
     ·exact M6.cells
     clear hK K
     (try simp only [Act.put, nz1, nz2, nz3, nz4, nz5, nz6])
     refine anyX_pure (i := 15) (v := ?_) rfl (by kernel_rfl) (by kernel_rfl) (by kernel_rfl) (by decide) (fun _ _ _ h => h) (Or.inl ⟨by rfl, ?_⟩) (by assumption) ?_
     rotate_left
     ·intro w hSw; go_simp <;> with_reducible rfl
     (try simp only [Act.put, nz1, nz2, nz3, nz4, nz5, nz6])
     refine anyX_pure (i := 16) (v := ?_) rfl (by kernel_rfl) (by kernel_rfl) (by kernel_rfl) (by decide) (fun _ _ _ h => h) (Or.inl ⟨by rfl, ?_⟩) (by assumption) ?_
     rotate_left
     ·intro w hSw; go_simp <;> with_reducible rfl
     (try simp only [Act.put, nz1, nz2, nz3, nz4, nz5, nz6])
     refine anyX_ready (rs := [17]) (by kernel_rfl) (by simp) ?_
     refine AllX.past rfl (by kernel_rfl) (fun K hK => ?_) AllX.nil
     go_simp
     refine hK.out _ _ ?_
     clear hK K
     (try simp only [Act.put, nz1, nz2, nz3, nz4, nz5, nz6])
     refine anyX_ready (rs := [18]) (by kernel_rfl) (by simp) ?_
     refine AllX.past rfl (by kernel_rfl) (fun K hK => ?_) AllX.nil
     go_simp
     refine hK.out _ _ ?_
     clear hK K
     (try simp only [Act.put, nz1, nz2, nz3, nz4, nz5, nz6])
     refine anyX_ready (rs := [19]) (by kernel_rfl) (by simp) ?_
     refine AllX.past rfl (by kernel_rfl) (fun K hK => ?_) AllX.nil
     go_simp
     refine hK.out _ _ ?_
     clear hK K
     (try simp only [Act.put, nz1, nz2, nz3, nz4, nz5, nz6])
     refine anyX_ready (rs := [20]) (by kernel_rfl) (by simp) ?_
     refine AllX.past rfl (by kernel_rfl) (fun K hK => ?_) AllX.nil
     go_simp
     refine hK.out _ _ ?_
     clear hK K
     (try simp only [Act.put, nz1, nz2, nz3, nz4, nz5, nz6])
     refine anyX_done (by kernel_rfl) ?_ _
     have M8 := (M6.store 2 (.slice A4 (i + 1) c4)).store 4 (.slice A6 (i + 1) c6)
     have HM8 := Lib.hid (show FixM w0 g #[.pointer (some ⟨gb, 0, none⟩), .slice LA 288 Lc, .slice A4 (i + 1) c4, .slice CA 288 cc, .slice A6 (i + 1) c6] (.slice A4 (i + 1) c4) (i + 1) (.slice A6 (i + 1) c6) (i + 1) ((w6.setCell ⟨g, 2, none⟩ (.slice A4 (i + 1) c4)).setCell ⟨g, 4, none⟩ (.slice A6 (i + 1) c6)) by simpa using M8)
     clear M8 M6 M4 hown4 hg4 hat4 hown6 hg6 hat6 k2 k4 f2 f4 e4 gl4 d2 d4 hM hi hz0 hz1 hz2 hiU hzU0 hzU1 hzU2 hcp4 hcp6
     go_wp2_with fail
     go_meet
     case rel => exact ⟨A4, c4, A6, c6, HM8.out⟩
   case rest => as_aux_lemma =>
    obtain ⟨A4, c4, A6, c6, hM8⟩ := hcut
    have q1 : IntKind.u32.wrap ((i : Int) + 1) = (i : Int) + 1 := IntWalk.u32_in _ (by omega)
    have HM8 := Lib.hid hM8
    clear hM8 hM d2 d4
    go_wp2_with fail
    go_roundw
    case rel => exact ⟨i + 1, A4, c4, A6, c6, hlt, by go_num, HM8.out⟩
    case measure => simp [intOf]; omega
  ·have hi2 : i = 32 := by omega
   subst hi2
   have hbkr := hM.blk
   have hkr := hM.keep
   have hL6 : Vals wr 1 (.slice LA 288 Lc) 288 (nats Inf.fixedL) := (Vals.of_own HL5.out).keeps hkr (fun x hx e => by have := HLL.out.1 x hx; omega)
   have hC6 : Vals wr 1 (.slice CA 288 cc) 288 (u32s (codesTo Inf.fixedL 288)) := (Vals.of_own HC5.out).keeps hkr (fun x hx e => by have := HCZ.out x hx; omega)
   have hgbg : ¬ gb = g := by omega
   have hB6 : BW wr w.heap.size gb 215 [] (.slice none 0 0) [] := ⟨HB5.out.blk.keeps hkr hgbg, Own.nil _ _ _, (fun e => by cases e)⟩
   have hW6 : Below w.heap.size w wr := HW5.out.trans (hkr.below (fun x hx => by rw [hx]; have := HW1.out.size; omega) HW5.out.size)
   have hTt : Tabs wr := HT.out.1.below hW6 HT.out.1.size
   have hTk : Vals wr 3 (.slice TA l.length tc) l.length (tokCells l) := HT.out.2.below hW6
   have hfar : ∀ x, x < wr.heap.size → x ≠ gb → Far wr gb (.slice none 0 0) x := fun x h1 h2 => ⟨h1, h2, (fun e => by cases e)⟩
   have hws := hW6.size
   have HTW := Lib.hid (show TW wr g gb (.slice none 0 0) (.slice LA 288 Lc) (.slice AD 32 cD) (.slice CA 288 cc) (.slice AC 32 cC) (.slice TA l.length tc) Inf.fixedL (List.replicate 32 5) (codesTo Inf.fixedL 288) (List.range 32) l from
    ⟨⟨hbkr, by rw [fixedL_length]; exact hL6, by rw [List.length_replicate]; exact Vals.of_own hM.d, by rw [codesTo_length, fixedL_length]; exact hC6, by rw [List.length_range]; exact Vals.of_own hM.dc,
     hfar g hbkr.lt (by omega), fun x hx => hfar x (by have := HLL.out.1 x hx; have := hbkr.lt; omega) (by have := HLL.out.2 x hx; omega),
     fun x hx => hfar x (hM.d.lt x hx).2 (by have := (hM.d.lt x hx).1; have := hM.gl; omega), fun x hx => hfar x (Nat.lt_of_lt_of_le (HC5.out.lt x hx).2 hkr.size) (by have := HCZ.out x hx; omega),
     fun x hx => hfar x (hM.dc.lt x hx).2 (by have := (hM.dc.lt x hx).1; have := hM.gl; omega)⟩,
     hTk, fun x hx => hfar x (by have := HTL.out x hx; omega) (by have := HTL.out x hx; have := HGB.out; omega), hTt, by have := HT.out.1.size; have := HGB.out; omega, (fun x e => by cases e)⟩)
   have c0 : wr.cell? ⟨g, 0, none⟩ = some (.pointer (some ⟨gb, 0, none⟩)) := by rw [hbkr.cell]; rfl
   have HW6 := Lib.hid hW6
   have HB6 := Lib.hid hB6
   have hgb6 := hB6.blk.lt
   have hgw : w.heap.size ≤ gb := by have := HGB.out; omega
   clear hM hbkr hkr hL6 hC6 hB6 hW6 hTt hTk hfar
   go_wp2_with fail
   refine (put_any w.heap.size gb 215 [] (.slice none 0 0) [] 3 3 _ HB6.out (by omega) (by omega) (by simp) (by omega)).mono ?_
   rintro e w7 ⟨rfl, hw7⟩
   obtain ⟨v7, hT7, hB7, hf7, hk7⟩ := HTW.out.wrote hw7
   have HW7 := Lib.hid (HW6.out.trans (hk7.below (fun x hx => by rcases hx with e | e <;> first | omega | cases e) hws))
   go_wp2_with fail
   refine (wtokens_any w.heap.size g gb v7 (.slice LA 288 Lc) (.slice AD 32 cD) (.slice CA 288 cc) (.slice AC 32 cC) (.slice TA l.length tc) Inf.fixedL (List.replicate 32 5) (codesTo Inf.fixedL 288) (List.range 32) l ([] ++ Bit.low 3 3) w7 hT7 hB7 (by rw [fixedL_length]; omega) (by rw [List.length_replicate]; omega) (by rw [codesTo_length]) (by rw [List.length_range, List.length_replicate]) (by have := codes_ok Inf.fixed_good; rw [fixedL_length] at this; exact this) codes_dist HP.out (by rw [List.nil_append, Bit.low_length]; omega) HW7.out.size).mono ?_
   rintro e w8 ⟨rfl, hw8⟩
   obtain ⟨v8, hT8, hB8, hf8, hk8⟩ := hT7.wrote hw8
   have HW8 := Lib.hid (HW7.out.trans (hk8.below (fun x hx => by rcases hx with e | e <;> first | omega | exact (hB7.own.lt x e).1) HW7.out.size))
   have c0 : w8.cell? ⟨g, 0, none⟩ = some (.pointer (some ⟨gb, 0, none⟩)) := by rw [hT8.wri.blk.cell]; rfl
   have hbits : [] ++ Bit.low 3 3 ++ Inf.toksBits (wordOf (codesTo Inf.fixedL 288) Inf.fixedL) (wordOf (List.range 32) (List.replicate 32 5)) l = Inf.fixBits l := by
    unfold Inf.fixBits
    rw [List.nil_append]
    congr 1
    exact toksBits_congr (fun k _ => by have := wordOf_codes Inf.fixedL k; rw [fixedL_length] at this; exact this) (fun k hk => wordOf_dist k (by omega)) l HP.out
   rw [hbits] at hB8
   clear hbits hT7 hB7 hf7 hk7 hT8 hf8 hk8 hw7 hw8
   go_wp2_with fail
   refine (wtext_any w.heap.size gb 215 [] v8 (Inf.fixBits l) _ hB8).mono ?_
   rintro e w9 ⟨rfl, rfl⟩
   go_wp2_with fail
   go_ret
   exact ⟨rfl, HW8.out⟩
end Go.Proofs.YtkegkelaffohjaaGreatDoor
