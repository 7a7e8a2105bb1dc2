/- huff.Lengths: the walk. -/
import Derived.Test.YtkegkelaffohjaaGreatDoorQCFilmTwiceFixLen
import Derived.Test.YtkegkelaffohjaaGreatDoorQCFilmTwiceDefCnt
import Derived.Deep.RegionLaw
import Derived.Deep.Cut
import Derived.Deep.DeepCutAuto
import Derived.Deep.CutBlock
namespace Go.Proofs.YtkegkelaffohjaaGreatDoor
open Go Go.RowKit
def SyOK (b k n : Nat) (l : List PkV) : Prop := ∀ p ∈ l, p.cost ≤ b ∧ 1 ≤ p.sy.length ∧ p.sy.length ≤ k ∧ ∀ s ∈ p.sy, s < n
section
variable {b k n b' k' : Nat} {l m : List PkV}
theorem SyOK.small (h : SyOK b k n l) (hb : b ≤ 1099511627776) : SmallU l := fun p hp => Nat.le_trans (h p hp).1 hb
theorem SyOK.more (h : SyOK b k n l) (hb : b ≤ b') (hk : k ≤ k') : SyOK b' k' n l := fun p hp => ⟨Nat.le_trans (h p hp).1 hb, (h p hp).2.1, Nat.le_trans (h p hp).2.2.1 hk, (h p hp).2.2.2⟩
theorem SyOK.append (h : SyOK b k n l) (h2 : SyOK b k n m) : SyOK b k n (l ++ m) := fun p hp => (List.mem_append.1 hp).elim (h p) (h2 p)
theorem SyOK.sub (h : SyOK b k n l) (hm : ∀ p ∈ m, p ∈ l) : SyOK b k n m := fun p hp => h p (hm p hp)
end
theorem coinsF_end : ∀ (i : Nat), Huf.coinsF i [] = [] := fun _ => rfl
theorem coinsF_step (l : List Nat) (j : Nat) (h : j < l.length) : Huf.coinsF j (l.drop j) = (if 0 < l[j] then [(l[j], [j])] else []) ++ Huf.coinsF (j + 1) (l.drop (j + 1)) := by
 rw [List.drop_eq_getElem_cons h, Huf.coinsF]
 split <;> rfl
structure CoinR (w : World) (n b : Nat) (v : Value) (acc : List PkV) (wr : World) : Prop where
 own : Own wr w.heap.size 2 v acc.length (pkCells acc)
 ok : PkOK wr (fun x => v.ownBlock = some x) acc
 bel : Below w.heap.size w wr
 sy : SyOK b 1 n acc
theorem CoinR.snoc {w wr w' : World} {n b j x : Nat} {v v' : Value} {acc : List PkV} (h : CoinR w n b v acc wr) (hx : x ≤ b) (hj : j < n)
  (ho : Own w' w.heap.size 2 v' (acc.length + 1) (pkCells (acc ++ [⟨x, some ⟨wr.heap.size, 0, none⟩, 1, [j]⟩]))) {o : Obj}
  (hg : ((wr.alloc (.cells #[.int .i64 j] 3)).alloc o).grownBy w' v.ownBlock) (ha : v'.ownBlock = v.ownBlock ∨ v'.ownBlock = some ((wr.alloc (.cells #[.int .i64 j] 3)).alloc o).heap.size) :
  CoinR w n b v' (acc ++ [⟨x, some ⟨wr.heap.size, 0, none⟩, 1, [j]⟩]) w' := by
 have hb2 : Below w.heap.size w ((wr.alloc (.cells #[.int .i64 j] 3)).alloc o) := (h.bel.alloc h.bel.size _).alloc (by have := h.bel.size; simp; omega) _
 have hk : Keeps (fun y => v.ownBlock = some y) wr w' := Keeps.grown (((Keeps.refl _ wr).alloc _).alloc _) hg fun g e _ => e
 have hfr : ∀ y, v'.ownBlock = some y → v.ownBlock = some y ∨ wr.heap.size + 2 ≤ y := fun y hy => by
  rcases ha with e | e <;> rw [e] at hy
  ·exact .inl hy
  ·injection hy with hy
   simp at hy
   exact .inr (by omega)
 have hvl : ∀ y, v.ownBlock = some y → y < wr.heap.size := fun y hy => (h.own.lt y hy).2
 refine ⟨by rw [List.length_append, List.length_singleton]; exact ho, ?_, hb2.grown hg hb2.size fun g e => (h.own.lt g e).1, ?_⟩
 ·refine PkOK.append ?_ fun p hp => ?_
  ·have hs : PkOK wr (fun y => v.ownBlock = some y ∨ v'.ownBlock = some y) acc := h.ok.mono fun y hy e => by
    rcases e with e | e
    ·exact e
    ·rcases hfr y e with e2 | e2
     ·exact e2
     ·omega
   exact (hs.keeps hk fun _ _ e => .inl e).mono fun _ _ e => .inr e
  ·rw [List.mem_singleton.1 hp]
   have hB : Blk w' wr.heap.size 3 #[.int .i64 j] := ((Blk.new wr _ _ rfl).alloc o).grown hg (fun e => by have := hvl _ e.symm; omega)
   refine ⟨⟨some ⟨wr.heap.size, 0, none⟩, 1, rfl, rfl, fun _ => ⟨wr.heap.size, 0, rfl, hB.lt, fun i u hu => ?_⟩⟩, fun y hy => ?_⟩
   ·rw [Nat.zero_add, hB.cell]
    simpa [nats] using hu
   ·have hy2 : wr.heap.size = y := Option.some.inj hy
    subst hy2
    refine ⟨hB.lt, fun e => ?_⟩
    rcases hfr _ e with e2 | e2
    ·have := hvl _ e2; omega
    ·omega
 ·refine SyOK.append h.sy fun p hp => ?_
  rw [List.mem_singleton.1 hp]
  exact ⟨hx, Nat.le_refl _, Nat.le_refl _, fun s hs => by rw [List.mem_singleton.1 hs]; exact hj⟩
theorem own_row_nats {w2 : World} {base N g : Nat} (h : w2.ownsRow base 3 1 (.slice (some ⟨g, 0, none⟩) N N) N (madeCells (Value.int .i64 0).cells (N * 1)).toList) : Own w2 base 1 (.slice (some ⟨g, 0, none⟩) N N) N (nats (List.replicate N 0)) := by
 have hown := Own.of_row h
 rw [made_nats _ N rfl] at hown
 exact hown
theorem own_zero {w : World} {base N g c : Nat} (h : Own w base 1 (.slice (some ⟨g, 0, none⟩) N c) N (nats (List.replicate N 0))) (j : Nat) (hj : j < N) : w.cell? ⟨g, j, none⟩ = some (.int .i64 0) ∧ w.frozen? ⟨g, j, none⟩ = false := by
 obtain ⟨h1, h2⟩ := h.cellAt j hj
 rw [Nat.zero_add] at h1 h2
 rw [nats_at _ _ (by simpa using hj), List.getElem_replicate] at h1
 exact ⟨h1, h2⟩
def Apt (u v : Value) : Prop := ∀ x, u.ownBlock = some x → v.ownBlock ≠ some x
theorem Apt.symm {u v : Value} (h : Apt u v) : Apt v u := fun x hx e => h x e hx
structure LenS (w : World) (n : Nat) (vc vr vo vp : Value) (cs rs ps : List PkV) (wr : World) : Prop where
 c : Own wr w.heap.size 2 vc cs.length (pkCells cs)
 r : Own wr w.heap.size 2 vr rs.length (pkCells rs)
 o : Own wr w.heap.size 1 vo n (nats (List.replicate n 0))
 p : Own wr w.heap.size 2 vp ps.length (pkCells ps)
 ok : PkOK wr (fun x => vc.ownBlock = some x ∨ vr.ownBlock = some x ∨ vo.ownBlock = some x ∨ vp.ownBlock = some x) (cs ++ rs ++ ps)
 cr : Apt vc vr
 co : Apt vc vo
 cp : Apt vc vp
 ro : Apt vr vo
 rp : Apt vr vp
 op : Apt vo vp
 bel : Below w.heap.size w wr
section
variable {w wr w' : World} {n : Nat} {vc vr vo vp vr' vp' : Value} {cs rs ps rs' : List PkV}
theorem LenS.below (h : LenS w n vc vr vo vp cs rs ps wr) (hb : Below wr.heap.size wr w') : LenS w n vc vr vo vp cs rs ps w' :=
 ⟨h.c.below hb (Nat.le_refl _), h.r.below hb (Nat.le_refl _), h.o.below hb (Nat.le_refl _), h.p.below hb (Nat.le_refl _), h.ok.below hb, h.cr, h.co, h.cp, h.ro, h.rp, h.op, h.bel.trans (hb.mono h.bel.size)⟩
theorem LenS.snoc (h : LenS w n vc vr vo vp cs rs ps wr) {q : PkV} {wa : World} (ha : Below wr.heap.size wr wa) (ho : Own w' w.heap.size 2 vp' (ps.length + 1) (pkCells (ps ++ [q]))) (hg : wa.grownBy w' vp.ownBlock) (hat : vp'.ownBlock = vp.ownBlock ∨ vp'.ownBlock = some wa.heap.size)
  (hq : Vals wa 1 q.v q.sy.length (nats q.sy)) (hql : ∀ x, q.v.ownBlock = some x → wr.heap.size ≤ x ∧ x < wa.heap.size) : LenS w n vc vr vo vp' cs rs (ps ++ [q]) w' := by
 have hk : Keeps (fun y => vp.ownBlock = some y) wr w' := (Keeps.of_below (S := fun y => vp.ownBlock = some y) ha fun g hg _ => hg).grown hg fun g e _ => e
 have hk2 : Keeps (fun y => vp.ownBlock = some y) wa w' := (Keeps.refl _ wa).grown hg fun g e _ => e
 have hfr : ∀ y, vp'.ownBlock = some y → vp.ownBlock = some y ∨ wa.heap.size ≤ y := fun y hy => by
  rcases hat with e | e <;> rw [e] at hy
  ·exact .inl hy
  ·injection hy with hy
   exact .inr (by omega)
 have has := ha.size
 have apt : ∀ {u : Value} {size m : Nat} {xs : List Value}, Own wr w.heap.size size u m xs → Apt u vp → Apt u vp' := fun hu hap x hx e => by
  rcases hfr x e with e2 | e2
  ·exact hap x hx e2
  ·have := (hu.lt x hx).2; omega
 have kp : ∀ {u : Value} {size m : Nat} {xs : List Value}, Own wr w.heap.size size u m xs → Apt u vp → Own w' w.heap.size size u m xs := fun hu hap => hu.keeps hk fun g hg e => hap g hg e
 refine ⟨kp h.c h.cp, kp h.r h.rp, kp h.o h.op, by rw [List.length_append, List.length_singleton]; exact ho, ?_, h.cr, h.co, apt h.c h.cp, h.ro, apt h.r h.rp, apt h.o h.op, (h.bel.trans (ha.mono h.bel.size)).grown hg (Nat.le_trans h.bel.size has) fun g e => (h.p.lt g e).1⟩
 rw [← List.append_assoc]
 refine PkOK.append ?_ fun p hp => ?_
 ·have hs : PkOK wr (fun x => (vc.ownBlock = some x ∨ vr.ownBlock = some x ∨ vo.ownBlock = some x ∨ vp.ownBlock = some x) ∨ (vc.ownBlock = some x ∨ vr.ownBlock = some x ∨ vo.ownBlock = some x ∨ vp'.ownBlock = some x)) (cs ++ rs ++ ps) := h.ok.mono fun y hy e => by
   rcases e with e | e | e | e | e
   ·exact e
   ·exact .inl e
   ·exact .inr (.inl e)
   ·exact .inr (.inr (.inl e))
   ·rcases hfr y e with e2 | e2
    ·exact .inr (.inr (.inr e2))
    ·omega
  exact (hs.keeps hk fun _ _ e => .inl (.inr (.inr (.inr e)))).mono fun _ _ e => .inr e
 ·rw [List.mem_singleton.1 hp]
  refine ⟨hq.keeps hk2 fun x hx e => ?_, fun x hx => ⟨Nat.lt_of_lt_of_le (hql x hx).2 hk2.size, fun e => ?_⟩⟩
  ·have := (h.p.lt x e).2
   have := (hql x hx).1
   omega
  ·have h1 := hql x hx
   rcases e with e | e | e | e
   ·have := (h.c.lt x e).2; omega
   ·have := (h.r.lt x e).2; omega
   ·have := (h.o.lt x e).2; omega
   ·rcases hfr x e with e2 | e2
    ·have := (h.p.lt x e2).2; omega
    ·omega
theorem LenS.row (h : LenS w n vc vr vo vp cs rs ps wr) (hb : Below wr.heap.size wr w') (hr : Own w' w.heap.size 2 vr' rs'.length (pkCells rs')) (hf : ∀ x, vr'.ownBlock = some x → wr.heap.size ≤ x) (hm : ∀ p ∈ rs', p ∈ cs ∨ p ∈ ps) : LenS w n vc vr' vo (.slice none 0 0) cs rs' [] w' := by
 have hnil : ∀ u : Value, Apt u (.slice none 0 0) := fun u x _ e => by cases e
 have h2 := h.below hb
 have apt : ∀ {u : Value} {size m : Nat} {xs : List Value}, Own wr w.heap.size size u m xs → Apt u vr' := fun hu x hx e => by
  have := (hu.lt x hx).2
  have := hf x e
  omega
 refine ⟨h2.c, hr, h2.o, Own.nil _ _ _, fun p hp => ?_, apt h.c, h.co, hnil _, (apt h.o).symm, hnil _, hnil _, h2.bel⟩
 have hp2 : p ∈ cs ++ rs ++ ps := by
  rw [List.append_nil] at hp
  rcases List.mem_append.1 hp with e | e
  ·exact List.mem_append_left _ (List.mem_append_left _ e)
  ·rcases hm p e with e | e
   ·exact List.mem_append_left _ (List.mem_append_left _ e)
   ·exact List.mem_append_right _ e
 obtain ⟨q1, q2⟩ := h.ok p hp2
 refine ⟨q1.below hb, fun x hx => ⟨Nat.lt_of_lt_of_le (q2 x hx).1 hb.size, fun e => ?_⟩⟩
 rcases e with e | e | e | e
 ·exact (q2 x hx).2 (.inl e)
 ·have := (q2 x hx).1; have := hf x e; omega
 ·exact (q2 x hx).2 (.inr (.inr (.inl e)))
 ·cases e
theorem LenS.sorted (h : LenS w n vc vr vo vp cs rs ps wr) {g : Nat} (hg : vr.ownBlock = some g) (hk : Keeps (fun b => b = g) wr w') (hr : Own w' w.heap.size 2 vr rs'.length (pkCells rs')) (hm : ∀ p ∈ rs', p ∈ rs) : LenS w n vc vr vo vp cs rs' ps w' := by
 have kp : ∀ {u : Value} {size m : Nat} {xs : List Value}, Own wr w.heap.size size u m xs → Apt u vr → Own w' w.heap.size size u m xs := fun hu hap => hu.keeps hk fun x hx e => hap x hx (by rw [e]; exact hg)
 refine ⟨kp h.c h.cr, hr, kp h.o h.ro.symm, kp h.p h.rp.symm, ?_, h.cr, h.co, h.cp, h.ro, h.rp, h.op, h.bel.trans (hk.below (fun x hx => by rw [hx]; exact (h.r.lt g hg).1) h.bel.size)⟩
 refine (h.ok.keeps hk fun x _ e => by rw [e]; exact .inr (.inl hg)).sub fun p hp => ?_
 rcases List.mem_append.1 hp with e | e
 ·rcases List.mem_append.1 e with e | e
  ·exact List.mem_append_left _ (List.mem_append_left _ e)
  ·exact List.mem_append_left _ (List.mem_append_right _ (hm p e))
 ·exact List.mem_append_right _ e
theorem LenS.first (hc : Own w' w.heap.size 2 vc cs.length (pkCells cs)) (hr : Own w' w.heap.size 2 vr rs.length (pkCells rs)) (ho : Own w' w.heap.size 1 vo n (nats (List.replicate n 0))) (hb : Below w.heap.size w w') (ok : PkOK w' (fun x => vc.ownBlock = some x ∨ vr.ownBlock = some x ∨ vo.ownBlock = some x) (cs ++ rs)) (cr : Apt vc vr) (co : Apt vc vo) (ro : Apt vr vo) : LenS w n vc vr vo (.slice none 0 0) cs rs [] w' := by
 have hnil : ∀ u : Value, Apt u (.slice none 0 0) := fun u x _ e => by cases e
 refine ⟨hc, hr, ho, Own.nil _ _ _, ?_, cr, co, hnil _, ro, hnil _, hnil _, hb⟩
 rw [List.append_nil]
 refine ok.mono fun x _ e => ?_
 rcases e with e | e | e | e
 ·exact .inl e
 ·exact .inr (.inl e)
 ·exact .inr (.inr e)
 ·cases e
end
theorem concat2_any (A1 A2 : Option Addr) (c1 c2 c : Nat) (a b y : List Nat) (hy : y = a ++ b) (g : Nat) (w wx : World) (hg : g = w.heap.size) (hwx : wx = (w.alloc (.cells #[.slice A1 a.length c1, .slice A2 b.length c2] 119)).drew) (h1 : Vals w 1 (.slice A1 a.length c1) a.length (nats a)) (h2 : Vals w 1 (.slice A2 b.length c2) b.length (nats b)) (hn : a.length + b.length ≤ 100000) :
  Calls Tryz.prog 162 #[.slice (some ⟨g, 0, none⟩) 2 c] wx fun e w' => ∃ A' c', e = .returned (.slice A' y.length c') ∧ Own w' w.heap.size 1 (.slice A' y.length c') y.length (nats y) ∧ Below w.heap.size w w' := by
 subst hy
 have hB : Blk wx g 119 #[.slice A1 a.length c1, .slice A2 b.length c2] := by rw [hwx]; exact (Blk.new w _ _ hg).drew
 have hb : Below w.heap.size w wx := by rw [hwx]; exact ((Below.refl _ w).alloc (Nat.le_refl _) _).drew
 have h1' := h1.below hb
 have h2' := h2.below hb
 obtain ⟨B1, d1, e1, r1⟩ := h1'
 obtain ⟨B2, d2, e2, r2⟩ := h2'
 injection e1 with e1 _ _
 injection e2 with e2 _ _
 subst e1 e2
 refine (concatI_any g 0 c [⟨A1, a.length, c1, nats a⟩, ⟨A2, b.length, c2, nats b⟩] wx (by simp) (fun i h => ?_) (fun p hp => ?_) (by simpa [sumI] using hn)).mono ?_
 ·rw [Nat.zero_add, hB.cell]
  match i, h with
  | 0, _ => rfl
  | 1, _ => rfl
 ·simp only [List.mem_cons, List.not_mem_nil, or_false] at hp
  rcases hp with rfl | rfl
  ·exact ⟨r1, nats_one _⟩
  ·exact ⟨r2, nats_one _⟩
 ·rintro e w' ⟨A', c', rfl, ho, hb2⟩
  have e1 : sumI [⟨A1, a.length, c1, nats a⟩, ⟨A2, b.length, c2, nats b⟩] = (a ++ b).length := by simp [sumI]
  have e2 : allI [⟨A1, a.length, c1, nats a⟩, ⟨A2, b.length, c2, nats b⟩] = nats (a ++ b) := by simp [allI, nats]
  rw [e1, e2] at ho
  rw [e1]
  exact ⟨A', c', rfl, ho.mono hb.size, hb.trans (hb2.mono hb.size)⟩
theorem concatP2_any (A1 A2 : Option Addr) (c1 c2 c : Nat) (a b y : List PkV) (hy : y = a ++ b) (g : Nat) (w wx : World) (hg : g = w.heap.size) (hwx : wx = w.alloc (.cells #[.slice A1 a.length c1, .slice A2 b.length c2] 260)) (h1 : Reads w w.heap.size 2 A1 a.length (pkCells a)) (h2 : Reads w w.heap.size 2 A2 b.length (pkCells b)) (hn : a.length + b.length ≤ 100000) :
  Calls Tryz.prog 173 #[.slice (some ⟨g, 0, none⟩) 2 c] wx fun e w' => ∃ A' c', e = .returned (.slice A' y.length c') ∧ Own w' w.heap.size 2 (.slice A' y.length c') y.length (pkCells y) ∧ Below w.heap.size w w' := by
 subst hy
 have hB : Blk wx g 260 #[.slice A1 a.length c1, .slice A2 b.length c2] := by rw [hwx]; exact Blk.new w _ _ hg
 have hb : Below w.heap.size w wx := by rw [hwx]; exact (Below.refl _ w).alloc (Nat.le_refl _) _
 have r1 := (h1.below hb (Nat.le_refl _)).more hb.size
 have r2 := (h2.below hb (Nat.le_refl _)).more hb.size
 refine (concatP_any g 0 c [⟨A1, a.length, c1, pkCells a⟩, ⟨A2, b.length, c2, pkCells b⟩] wx (by simp) (fun i h => ?_) (fun p hp => ?_) (by simpa [sumP] using hn)).mono ?_
 ·rw [Nat.zero_add, hB.cell]
  match i, h with
  | 0, _ => rfl
  | 1, _ => rfl
 ·simp only [List.mem_cons, List.not_mem_nil, or_false] at hp
  rcases hp with rfl | rfl
  ·exact ⟨r1, pkCells_one _⟩
  ·exact ⟨r2, pkCells_one _⟩
 ·rintro e w' ⟨A', c', rfl, ho, hb2⟩
  have e1 : sumP [⟨A1, a.length, c1, pkCells a⟩, ⟨A2, b.length, c2, pkCells b⟩] = (a ++ b).length := by simp [sumP]
  have e2 : allP [⟨A1, a.length, c1, pkCells a⟩, ⟨A2, b.length, c2, pkCells b⟩] = pkCells (a ++ b) := by simp [allP, pkCells]
  rw [e1, e2] at ho
  rw [e1]
  exact ⟨A', c', rfl, ho.mono hb.size, hb.trans (hb2.mono hb.size)⟩
def outN (n : Nat) (S : List Nat) : List Nat := (List.range n).map fun s => S.count s
theorem outN_nil (n : Nat) : outN n [] = List.replicate n 0 := by
 unfold outN
 refine List.ext_getElem (by simp) fun i h1 h2 => by simp
theorem outN_length (n : Nat) (S : List Nat) : (outN n S).length = n := by simp [outN]
theorem outN_get (n : Nat) (S : List Nat) (s : Nat) (h : s < n) : (outN n S)[s]? = some (S.count s) := by
 unfold outN
 rw [List.getElem?_map, List.getElem?_range h]
 rfl
theorem outN_snoc (n : Nat) (S : List Nat) (s : Nat) (h : s < n) : (outN n S).set s (S.count s + 1) = outN n (S ++ [s]) := by
 refine List.ext_getElem? fun k => ?_
 rw [List.getElem?_set, outN_length]
 rcases Nat.lt_or_ge k n with hk | hk
 ·rw [outN_get _ _ _ hk, outN_get _ _ _ hk, List.count_append]
  by_cases e : s = k
  ·subst e
   rw [if_pos rfl, if_pos h]
   simp
  ·rw [if_neg e]
   have : List.count k [s] = 0 := by rw [List.count_eq_zero]; simp; omega
   rw [this]
   rfl
 ·rw [if_neg (by omega), List.getElem?_eq_none (by rw [outN_length]; exact hk), List.getElem?_eq_none (by rw [outN_length]; exact hk)]
theorem lengths_many (l : List Nat) (most : Nat) (h : 2 ≤ (Huf.coins l).length) (S : List Nat) (hS : S = ((Huf.rows (Huf.sort (Huf.coins l)) (most - 1)).take (2 * (Huf.coins l).length - 2)).flatMap (·.2)) : outN l.length S = Huf.lengths l most := by
 unfold outN Huf.lengths
 refine List.map_congr_left fun s _ => ?_
 unfold Huf.lenOf Huf.uses
 rw [if_neg (by omega), if_neg (by omega), hS]
theorem lengths_none (l : List Nat) (most : Nat) (h : (Huf.coins l).length = 0) : List.replicate l.length 0 = Huf.lengths l most := by
 unfold Huf.lengths
 refine List.ext_getElem (by simp) fun i h1 h2 => ?_
 rw [List.getElem_replicate, List.getElem_map]
 unfold Huf.lenOf
 rw [if_neg (by omega), if_pos (by omega)]
theorem lengths_one (l : List Nat) (most j x : Nat) (h : Huf.coins l = [(x, [j])]) : (List.replicate l.length 0).set j 1 = Huf.lengths l most := by
 have key : ∀ s, Huf.lenOf l most s = if s = j then 1 else 0 := fun s => by
  unfold Huf.lenOf
  rw [h, if_pos (by rfl)]
  simp
 unfold Huf.lengths
 refine List.ext_getElem (by simp) fun i h1 h2 => ?_
 rw [List.getElem_set, List.getElem_replicate, List.getElem_map, key, List.getElem_range]
 by_cases e : j = i
 ·rw [if_pos e, if_pos e.symm]
 ·rw [if_neg e, if_neg (fun h => e h.symm)]
set_option maxRecDepth 100000 in
set_option maxHeartbeats 20000000 in
theorem lengths_any (B n c most : Nat) (A : Option Addr) (l : List Nat) (w : World) (hr : Reads w B 1 A n (nats l)) (hB : B ≤ w.heap.size) (hl : l.length ≤ 300) (hb : ∀ x ∈ l, x ≤ 300001) (h715 : most = 7 ∨ most = 15) (hk : (Huf.coins l).length ≤ 2 ^ most) :
  Calls Tryz.prog 146 #[.slice A n c, .int .i64 most] w fun e w' => ∃ A' c', e = .returned (.tuple #[.slice A' l.length c', .nilIface]) ∧ Own w' w.heap.size 1 (.slice A' l.length c') l.length (nats (Huf.lengths l most)) ∧ Below w.heap.size w w' := by
 have hn : n = l.length := by have := hr.1; rw [nats_length] at this; omega
 subst hn
 obtain ⟨i0, hi, hz0, hz1, hz2⟩ := info_parts pkInfo
 have HMO := Lib.hid h715
 have h1 : 1 ≤ most := by omega
 have h15 : most ≤ 15 := by omega
 clear h715
 have HR := Lib.hid hr
 have HB := Lib.hid hb
 have HK := Lib.hid hk
 have hm1 : (1 : Int) ≤ most := by omega
 have hm2 : (most : Int) ≤ 15 := by omega
 clear hr hb hk
 go_enter Tryz.func146, Tryz.ntmps146
 go_wp2_with fail
 refine (containsLen_any B l.length c A l _ HR.out (fun x hx => Nat.le_trans (HB.out x hx) (by omega)) (by omega)).mono ?_
 rintro e w1 ⟨rfl, rfl⟩
 have HC0 := Lib.hid (show ([] : List PkV).map PkV.pk ++ Huf.coinsF 0 (l.drop 0) = Huf.coins l from rfl)
 go_wp2_with fail
 go_loopw [6, 35] (fun cv iv wr => ∃ (j : Nat) (acc : List PkV) (Ac : Option Addr) (cc : Nat), j ≤ l.length ∧ iv = .int .i64 j ∧ cv = .slice Ac acc.length cc ∧ acc.length ≤ j ∧ acc.map PkV.pk ++ Huf.coinsF j (l.drop j) = Huf.coins l ∧ CoinR w1 l.length 300001 (.slice Ac acc.length cc) acc wr) (fun _ iv _ => l.length - (intOf iv).toNat)
 case atStart => exact ⟨0, [], none, 0, Nat.zero_le _, rfl, rfl, Nat.le_refl _, HC0.out, ⟨Own.nil _ _ _, (fun p hp => by cases hp), Below.refl _ _, (fun p hp => by cases hp)⟩⟩
 case round =>
  clear HC0
  obtain ⟨j, acc, Ac, cc, hj, rfl, rfl, hacc, hco, hC⟩ := hrel
  have HC := Lib.hid hC
  have HCO := Lib.hid hco
  clear hC hco
  by_cases hlt : j < l.length
  ·as_aux_lemma =>
   obtain ⟨ga, oa, rfl, hga⟩ := HR.out.addr (by omega)
   have hcell := (HR.out.below HC.out.bel hB).cell rfl j (by rw [Nat.mul_one]; exact hlt)
   rw [nats_at _ _ hlt] at hcell
   have hxb := HB.out l[j] (List.getElem_mem hlt)
   have hco := HCO.out
   rw [coinsF_step l j hlt] at hco
   obtain ⟨x, hx⟩ : ∃ x, x = l[j] := ⟨_, rfl⟩
   rw [← hx] at hcell hxb hco
   have hbz := HC.out.bel.size
   clear hx
   by_cases h0 : 0 < x
   ·rw [if_pos h0] at hco
    have h0i : (0 : Int) < x := by omega
    have HCO2 := Lib.hid hco
    have hown := HC.out.own
    clear hco h0 HCO HR HB HK
    go_wp2_with (at_builtin; refine wpList_append_S rfl (.tmp 42) (.tmp 47) 260 260 rfl (w1.heap.size) 262 i0 _ 2 32 Tryz.underlying260 hi hz0 hz1 hz2 rfl (by decide) (.slice Ac acc.length cc) (acc.length) (pkCells (acc)) rfl ((hown.alloc _).alloc _) (pkCells_one _) (1) (pkCells [⟨x, some ⟨wr.heap.size, 0, none⟩, 1, [j]⟩]) (Src.made Tryz.underlying260 (by first | rfl | simp) rfl (pkCells_one [⟨x, some ⟨wr.heap.size, 0, none⟩, 1, [j]⟩])) (acc.length + 1) (by omega) (pkCells (acc ++ [⟨x, some ⟨wr.heap.size, 0, none⟩, 1, [j]⟩])) (by simp [pkCells]) (by unfold maxLen; omega) (by omega) (by first | omega | (simp; done) | (simp; omega)) ?_; intro A' c' w4 hown4 hg4 hat4)
    have HC4 := Lib.hid (HC.out.snoc hxb hlt hown4 hg4 hat4)
    clear hown4 hg4 hat4 hown
    go_roundw
    case rel => exact ⟨j + 1, acc ++ [⟨x, some ⟨wr.heap.size, 0, none⟩, 1, [j]⟩], A', c', hlt, by go_num, by rw [List.length_append, List.length_singleton], by rw [List.length_append, List.length_singleton]; omega, by rw [List.map_append, List.append_assoc]; exact HCO2.out, by rw [List.length_append, List.length_singleton]; exact HC4.out⟩
    case measure => simp [intOf]; omega
   ·rw [if_neg h0, List.nil_append] at hco
    have h0i : (x : Int) ≤ 0 := by omega
    have HCO2 := Lib.hid hco
    clear hco h0 HCO HR HB HK
    go_wp2_with fail
    go_roundw
    case rel => exact ⟨j + 1, acc, Ac, cc, hlt, by go_num, rfl, by omega, HCO2.out, HC.out⟩
    case measure => simp [intOf]; omega
  ·have hj2 : j = l.length := by omega
   subst hj2
   have hco := HCO.out
   rw [List.drop_length, coinsF_end, List.append_nil] at hco
   have HCO2 := Lib.hid hco
   have hal : acc.length ≤ 2 ^ most := by have := congrArg List.length hco; rw [List.length_map] at this; rw [this]; exact HK.out
   clear hco HCO
   have hali : (acc.length : Int) ≤ wrap64 (2 ^ most) := by
    rcases HMO.out with h | h
    ·subst h
     have e : wrap64 ((2 : Int) ^ 7) = 128 := by rw [show (2 : Int) ^ 7 = 128 by simp]; exact IntWalk.wrap64_in _ (by omega)
     rw [e]; omega
    ·subst h
     have e : wrap64 ((2 : Int) ^ 15) = 32768 := by rw [show (2 : Int) ^ 15 = 32768 by simp]; exact IntWalk.wrap64_in _ (by omega)
     rw [e]; omega
   clear hal
   have hbz := HC.out.bel.size
   obtain ⟨iN, hiN, hzN0, hzN1, hzN2⟩ := info_parts intInfo
   by_cases hc1 : acc.length < 2
   ·as_aux_lemma =>
    by_cases hc0 : acc.length = 0
    ·have hne1 : ((acc.length : Int) == 1) = false := by rw [hc0]; rfl
     have hlt2 : (acc.length : Int) < 2 := by omega
     have hfin := lengths_none l most (by have := congrArg List.length HCO2.out; rw [List.length_map] at this; omega)
     have HF := Lib.hid hfin
     clear hc1 hc0 hfin
     go_wp2_with (refine wpList_make_full _ rfl (.tmp 57) (.tmp 57) 119 rfl w1.heap.size 3 iN _ 1 Tryz.underlying119 hiN hzN0 hzN1 .i64 .i64 _ _ l.length rfl rfl rfl rfl (by rw [hzN2]; omega) (by unfold maxLen; omega) hbz ?_; intro w2 hrow2 hg2)
     have ho := own_row_nats hrow2
     rw [HF.out] at ho
     have hb2 := Below.grown HC.out.bel hg2 hbz (fun g hg => by cases hg)
     clear hrow2 hg2
     go_ret2
     exact ⟨_, _, rfl, ho, hb2⟩
    ·have hc1' : acc.length = 1 := by omega
     obtain ⟨p, hp⟩ : ∃ p, acc = [p] := List.length_eq_one_iff.1 hc1'
     rw [hc1'] at hali
     replace hali : (1 : Int) ≤ wrap64 (2 ^ most) := hali
     subst hp
     obtain ⟨⟨s1, s2⟩, hsy⟩ := And.intro (HC.out.ok p (by simp)) (HC.out.sy p (by simp))
     obtain ⟨y1, y2, y3, y4⟩ := hsy
     obtain ⟨j, hj⟩ : ∃ j, p.sy = [j] := List.length_eq_one_iff.1 (by omega)
     have hjl : j < l.length := y4 j (by rw [hj]; simp)
     have hco : Huf.coins l = [(p.cost, [j])] := by rw [← HCO2.out, ← hj]; rfl
     have hfin := lengths_one l most j p.cost hco
     have HF := Lib.hid hfin
     obtain ⟨gc, oc, rfl, hgc1, hgc2⟩ := HC.out.own.addr (by simp)
     have hcell := HC.out.own.reads.2.pk 0 (by simp)
     obtain ⟨k1, k2⟩ := hcell
     obtain ⟨A2, c2, e2, hrs⟩ := s1
     unfold PkV.v at e2 s2
     rw [hj] at e2 hrs s2
     injection e2 with e2 _ e3
     subst e2
     obtain ⟨gs, os, hpa, hgs⟩ := hrs.addr (by simp)
     have k3 := hrs.cell hpa 0 (by simp)
     have k3 : wr.cell? ⟨gs, os, none⟩ = some (.int .i64 j) := by simpa [nats] using k3
     have k2 : wr.cell? ⟨gc, oc + 1, none⟩ = some (.slice (some ⟨gs, os, none⟩) 1 p.c) := by
      have k2 : wr.cell? ⟨gc, oc + 0 * 2 + 1, none⟩ = some (.slice p.A p.sy.length p.c) := k2
      rw [hj, hpa] at k2
      simpa using k2
     have hjli : (j : Int) < l.length := by omega
     have HW := Lib.hid HC.out.bel
     have hgsl := cell_lt k3
     have hgcl := cell_lt k2
     clear hc1 hc0 hfin hco hj hrs hpa s2 y1 y2 y3 y4 k1 HC HCO2 hgs
     go_wp2_with (refine wpList_make_full _ rfl (.tmp 57) (.tmp 57) 119 rfl w1.heap.size 3 iN _ 1 Tryz.underlying119 hiN hzN0 hzN1 .i64 .i64 _ _ l.length rfl rfl rfl rfl (by rw [hzN2]; omega) (by unfold maxLen; omega) hbz ?_; intro w2 hrow2 hg2; have m2 : w2.cell? ⟨gc, oc + 1, none⟩ = some (.slice (some ⟨gs, os, none⟩) 1 p.c) := ((hg2.cell_far ⟨gc, oc + 1, none⟩ hgcl (by simp)).trans k2); have m3 : w2.cell? ⟨gs, os, none⟩ = some (.int .i64 j) := ((hg2.cell_far ⟨gs, os, none⟩ hgsl (by simp)).trans k3); have ho := own_row_nats hrow2; have m4 := own_zero ho j hjl; obtain ⟨m5, m6⟩ := m4)
     have ho1 := ho.setNat j hjl 1
     rw [Nat.zero_add, HF.out] at ho1
     have hb2 := Below.setCell (p := ⟨wr.heap.size, j, none⟩) (Below.grown HW.out hg2 hbz (fun g hg => by cases hg)) hbz (.int .i64 1)
     have HO1 := Lib.hid ho1
     have HB2 := Lib.hid hb2
     clear ho1 hb2 ho hrow2 hg2 m2 m3 m5 m6
     go_ret2
     exact ⟨_, _, rfl, HO1.out, HB2.out⟩
   ·as_aux_lemma =>
    have hc2 : 2 ≤ acc.length := by omega
    have hc2i : (2 : Int) ≤ acc.length := by omega
    have hne1 : ((acc.length : Int) == 1) = false := by rw [beq_eq_false_iff_ne]; omega
    clear hc1
    go_wp2_with (refine wpList_make_full _ rfl (.tmp 57) (.tmp 57) 119 rfl w1.heap.size 3 iN _ 1 Tryz.underlying119 hiN hzN0 hzN1 .i64 .i64 _ _ l.length rfl rfl rfl rfl (by rw [hzN2]; omega) (by unfold maxLen; omega) hbz ?_; intro w2 hrow2 hg2)
    have ho2 := own_row_nats hrow2
    have hb2 : Below wr.heap.size wr w2 := Below.grown (Below.refl _ _) hg2 (Nat.le_refl _) (fun g hg => by cases hg)
    have hol := (ho2.lt _ rfl).2
    obtain ⟨go_, hgo⟩ : ∃ go_, go_ = wr.heap.size := ⟨_, rfl⟩
    rw [← hgo] at ho2 hol ⊢
    have hCb := HC.out.bel.trans (hb2.mono HC.out.bel.size)
    have hCo := HC.out.own.below hb2 (Nat.le_refl _)
    have hCk : PkOK w2 (fun x => (Value.slice Ac acc.length cc).ownBlock = some x ∨ x = go_) acc := (HC.out.ok.mono fun x hx e => e.resolve_right (by omega)).below hb2
    have hCl : ∀ x, (Value.slice Ac acc.length cc).ownBlock = some x → x < go_ := fun x hx => by rw [hgo]; exact (HC.out.own.lt x hx).2
    have hsy := HC.out.sy
    obtain ⟨gc, oc, rfl, hgc1, hgc2⟩ := HC.out.own.addr (by omega)
    have hgcl : gc < go_ := hCl gc rfl
    have hSP : SoP w1.heap.size gc oc acc.length cc w2 acc w2 := ⟨hCo, rfl, Keeps.refl _ _⟩
    clear hrow2 hg2 hgo hb2 hgc1 hgc2 hCl HC hbz
    refine (sortStable_any w1.heap.size gc oc acc.length cc acc w2 w2 hSP (hsy.small (by omega)) (by have := congrArg List.length HCO2.out; rw [List.length_map] at this; omega)).mono ?_
    rintro e w3 ⟨rfl, cs, hSo, hsame, hsrt⟩
    have hcl : cs.length = acc.length := hSo.len
    have hcm : ∀ p ∈ cs, p ∈ acc := fun p hp => hsame.symm.mem hp
    have hcp : cs.map PkV.pk = Huf.sort (Huf.coins l) := by rw [sorted_pk hsame hsrt, HCO2.out]
    have hC3 : Own w3 w1.heap.size 2 (.slice (some ⟨gc, oc, none⟩) cs.length cc) cs.length (pkCells cs) := by rw [hcl]; exact hSo.own
    have hO3 : Own w3 w1.heap.size 1 (.slice (some ⟨go_, 0, none⟩) l.length l.length) l.length (nats (List.replicate l.length 0)) := ho2.keeps hSo.keep fun x hx e => by have hx2 : go_ = x := Option.some.inj hx; omega
    have hK3 : PkOK w3 (fun x => (Value.slice (some ⟨gc, oc, none⟩) cs.length cc).ownBlock = some x ∨ x = go_) cs := by
     have h1 : PkOK w2 (fun x => gc = x ∨ x = go_) acc := hCk.mono fun x hx e => e.imp (fun e => by rw [e]; rfl) id
     exact (h1.sub hcm).keeps hSo.keep (fun x _ e => .inl e.symm) |>.mono fun x _ e => e.imp (fun e => Option.some.inj e) id
    have hB3 : Below w1.heap.size w1 w3 := hCb.trans (hSo.keep.below (fun x hx => by rw [hx]; exact (hSo.own.lt gc rfl).1) hCb.size)
    have hs3 : SyOK 300001 1 l.length cs := hsy.sub hcm
    have HC3 := Lib.hid hC3
    have HO3 := Lib.hid hO3
    have HK3 := Lib.hid hK3
    have HB3 := Lib.hid hB3
    have HS3 := Lib.hid hs3
    have HCP := Lib.hid hcp
    have hcsl : cs.length ≤ 300 := by omega
    have hcs2 : 2 ≤ cs.length := by omega
    have hcsE := Lib.hid hcl
    rw [← hcl] at hc2i ⊢
    clear hC3 hO3 hK3 hB3 hs3 hcp hcl hcm hSo hsame hsrt ho2 hol hCb hCo hCk hsy hSP hc2 hacc hne1 hali
    go_wp2_with fail
    refine (clonePk_any gc oc cs.length cc cs w3 HC3.out.reads.2 (by omega)).mono ?_
    rintro e w4 ⟨RA, rc, rfl, hoR, hb4⟩
    have hL4 : LenS w1 l.length (.slice (some ⟨gc, oc, none⟩) cs.length cc) (.slice RA cs.length rc) (.slice (some ⟨go_, 0, none⟩) l.length l.length) (.slice none 0 0) cs cs [] w4 := by
     have hlt3 : ∀ x, (Value.slice RA cs.length rc).ownBlock = some x → w3.heap.size ≤ x := fun x hx => (hoR.lt x hx).1
     have hgc3 := (HC3.out.lt gc rfl).2
     have hgo3 := (HO3.out.lt go_ rfl).2
     refine LenS.first (HC3.out.below hb4 (Nat.le_refl _)) (hoR.mono HB3.out.size) (HO3.out.below hb4 (Nat.le_refl _)) (HB3.out.trans (hb4.mono HB3.out.size)) ?_ ?_ ?_ ?_
     ·have h1 : PkOK w3 (fun x => (Value.slice (some ⟨gc, oc, none⟩) cs.length cc).ownBlock = some x ∨ (Value.slice RA cs.length rc).ownBlock = some x ∨ (Value.slice (some ⟨go_, 0, none⟩) l.length l.length).ownBlock = some x) cs := HK3.out.mono fun x hx e => by
       rcases e with e | e | e
       ·exact .inl e
       ·have := hlt3 x e; omega
       ·exact .inr (Option.some.inj e).symm
      exact (h1.below hb4).append (h1.below hb4)
     ·intro x hx e
      have hx2 : gc = x := Option.some.inj hx
      have := hlt3 x e
      omega
     ·intro x hx e
      have hx2 : gc = x := Option.some.inj hx
      have hx3 : go_ = x := Option.some.inj e
      omega
     ·intro x hx e
      have hx3 : go_ = x := Option.some.inj e
      have := hlt3 x hx
      omega
    have HL4 := Lib.hid hL4
    clear hL4 hoR hb4 HC3 HO3 HK3 HB3
    go_wp2_with fail
    obtain ⟨M, hM⟩ : ∃ M, M = most - 1 := ⟨_, rfl⟩
    have hMi : (most : Int) - 1 = (M : Nat) := by omega
    have hM14 : M ≤ 14 := by omega
    have HMM := Lib.hid hM
    rw [hMi]
    clear hM hMi
    go_loopw [10, 80] (fun rv iv wr => ∃ (k : Nat) (rs : List PkV) (A : Option Addr) (c : Nat), k ≤ M ∧ iv = .int .i64 k ∧ rv = .slice A rs.length c ∧ LenS w1 l.length (.slice (some ⟨gc, oc, none⟩) cs.length cc) rv (.slice (some ⟨go_, 0, none⟩) l.length l.length) (.slice none 0 0) cs rs [] wr ∧ rs.map PkV.pk = Huf.rows (Huf.sort (Huf.coins l)) k ∧ SyOK (300001 * 2 ^ k) (2 ^ k) l.length rs ∧ rs.length ≤ 2 * cs.length ∧ 2 ≤ rs.length) (fun _ iv _ => M - (intOf iv).toNat)
    case atStart => exact ⟨0, cs, RA, rc, Nat.zero_le _, rfl, rfl, HL4.out, HCP.out, HS3.out.more (by omega) (by omega), by omega, hcs2⟩
    case round =>
     clear HL4
     obtain ⟨k, rs, RA, rc, hkM, rfl, rfl, hL, hrp, hsy, hrl, hr2⟩ := hrel
     have HL := Lib.hid hL
     have HRP := Lib.hid hrp
     have HSY := Lib.hid hsy
     clear hL hrp hsy
     by_cases hlt : k < M
     ·as_aux_lemma =>
      have hlti : (k : Int) < M := by omega
      have hkk : 2 ^ k ≤ 2 ^ 14 := Nat.pow_le_pow_right (by omega) (by omega)
      obtain ⟨P, hP⟩ : ∃ P, P = 2 ^ k := ⟨_, rfl⟩
      have hP2 : 2 ^ (k + 1) = 2 * P := by rw [Nat.pow_succ, hP]; omega
      rw [← hP] at HSY hkk
      have hP1 : 1 ≤ P := by rw [hP]; exact Nat.pow_pos (by omega)
      have HP2 := Lib.hid hP2
      clear hP hP2
      go_wp2_with fail
      go_loopw [11, 12] (fun pv iv wx => ∃ (i : Nat) (ps : List PkV) (A : Option Addr) (c : Nat), i ≤ rs.length ∧ iv = .int .i64 i ∧ pv = .slice A ps.length c ∧ LenS w1 l.length (.slice (some ⟨gc, oc, none⟩) cs.length cc) (.slice RA rs.length rc) (.slice (some ⟨go_, 0, none⟩) l.length l.length) pv cs rs ps wx ∧ ps.map PkV.pk ++ Huf.pairs ((rs.drop i).map PkV.pk) = Huf.pairs (rs.map PkV.pk) ∧ SyOK (300001 * (2 * P)) (2 * P) l.length ps ∧ 2 * ps.length ≤ i) (fun _ iv _ => rs.length + 1 - (intOf iv).toNat)
      case atStart => exact ⟨0, [], none, 0, Nat.zero_le _, rfl, rfl, HL.out, by simp, (fun p hp => by cases hp), by simp⟩
      case round =>
       clear HL
       obtain ⟨i, ps, PA, pc, hir, rfl, rfl, hLX, hpr, hsp, hpl⟩ := hrel
       have HLX := Lib.hid hLX
       have HPR := Lib.hid hpr
       have HSP := Lib.hid hsp
       clear hLX hpr hsp
       obtain ⟨i1, hi1⟩ : ∃ i1, i1 = i + 1 := ⟨_, rfl⟩
       have hii : (i : Int) + 1 = (i1 : Nat) := by omega
       by_cases hlt1 : i1 < rs.length
       ·as_aux_lemma =>
        have hlt1i : (i1 : Int) < rs.length := by omega
        have hlt0 : i < rs.length := by omega
        have hlt0i : (i : Int) < rs.length := by omega
        have hwi : IntKind.i64.wrap (i1 : Int) = (i1 : Nat) := IntWalk.i64_in _ (by omega)
        obtain ⟨gr, orr, rfl, hgr1, hgr2⟩ := HLX.out.r.addr (by omega)
        have hdr : rs.drop i = rs[i] :: rs[i1] :: rs.drop (i + 2) := by
         rw [List.drop_eq_getElem_cons hlt0, List.drop_eq_getElem_cons (show i + 1 < rs.length by omega)]
         simp only [hi1]
        have hpr := HPR.out
        rw [hdr, List.map_cons, List.map_cons, Huf.pairs] at hpr
        have hs1 := HSY.out rs[i] (List.getElem_mem hlt0)
        have hs2 := HSY.out rs[i1] (List.getElem_mem hlt1)
        have hv1 := (HLX.out.ok rs[i] (List.mem_append_left _ (List.mem_append_right _ (List.getElem_mem hlt0)))).1
        have hv2 := (HLX.out.ok rs[i1] (List.mem_append_left _ (List.mem_append_right _ (List.getElem_mem hlt1)))).1
        have hks : ∀ wy, (Own wy w1.heap.size 2 (.slice (some ⟨gr, orr, none⟩) rs.length rc) rs.length (pkCells rs)) → wy.cell? ⟨gr, orr + i * 2, none⟩ = some (.int .i64 rs[i].cost) ∧ wy.cell? ⟨gr, orr + i * 2 + 1, none⟩ = some (.slice rs[i].A rs[i].sy.length rs[i].c) ∧ wy.cell? ⟨gr, orr + i1 * 2, none⟩ = some (.int .i64 rs[i1].cost) ∧ wy.cell? ⟨gr, orr + i1 * 2 + 1, none⟩ = some (.slice rs[i1].A rs[i1].sy.length rs[i1].c) := fun wy h => by
         obtain ⟨q1, q2⟩ := h.reads.2.pk i hlt0
         obtain ⟨q3, q4⟩ := h.reads.2.pk i1 hlt1
         exact ⟨q1, q2, q3, q4⟩
        obtain ⟨x1, hx1⟩ : ∃ x1, x1 = rs[i] := ⟨_, rfl⟩
        obtain ⟨x2, hx2⟩ : ∃ x2, x2 = rs[i1] := ⟨_, rfl⟩
        rw [← hx1] at hpr hs1 hv1 hks
        rw [← hx2] at hpr hs2 hv2 hks
        obtain ⟨C, hC⟩ : ∃ C, C = x1.cost + x2.cost := ⟨_, rfl⟩
        obtain ⟨y, hy⟩ : ∃ y, y = x1.sy ++ x2.sy := ⟨_, rfl⟩
        have hyl : y.length = x1.sy.length + x2.sy.length := by rw [hy, List.length_append]
        have hpr2 : ps.map PkV.pk ++ ((C, y) :: Huf.pairs ((rs.drop (i + 2)).map PkV.pk)) = Huf.pairs (rs.map PkV.pk) := by rw [hC, hy]; exact hpr
        have hCb : C ≤ 300001 * (2 * P) := by omega
        have hCi : (x1.cost : Int) + x2.cost = (C : Nat) := by omega
        have hCw : IntKind.i64.wrap (C : Int) = (C : Nat) := IntWalk.i64_in _ (by omega)
        have hn2 : x1.sy.length + x2.sy.length ≤ 100000 := by omega
        have hq : ∀ (CA : Option Addr) (c5 : Nat), SyOK (300001 * (2 * P)) (2 * P) l.length [⟨C, CA, c5, y⟩] := fun CA c5 p hp => by
         rw [List.mem_singleton.1 hp]
         refine ⟨hCb, by show 1 ≤ y.length; omega, by show y.length ≤ _; omega, fun s hs => ?_⟩
         have hs' : s ∈ x1.sy ++ x2.sy := by rw [← hy]; exact hs
         rcases List.mem_append.1 hs' with e | e
         ·exact hs1.2.2.2 s e
         ·exact hs2.2.2.2 s e
        have hcc := fun wx h => concat2_any x1.A x2.A x1.c x2.c 2 x1.sy x2.sy y hy wr.heap.size wr wx rfl h hv1 hv2 hn2
        obtain ⟨k0, k1, k2, k3⟩ := hks wr.drew HLX.out.r.drew
        have HKS := Lib.hid hks
        have HCC := Lib.hid hcc
        have HPR2 := Lib.hid hpr2
        have HQ := Lib.hid hq
        have hbz := HLX.out.bel.size
        have hpsl : ps.length ≤ 600 := by omega
        have HI1 := Lib.hid hi1
        clear hdr hpr hs1 hs2 hv1 hv2 hks hx1 hx2 hC hy hyl hpr2 hcc hq hi1 HPR
        go_upto_region 25 with (fail)
        refine wp_region_held_drew (S := (fun w' => w'.cell? ⟨gr, orr + i * 2, none⟩ = some (.int .i64 x1.cost) ∧ w'.cell? ⟨gr, orr + i * 2 + 1, none⟩ = some (.slice x1.A x1.sy.length x1.c) ∧ w'.cell? ⟨gr, orr + i1 * 2, none⟩ = some (.int .i64 x2.cost) ∧ w'.cell? ⟨gr, orr + i1 * 2 + 1, none⟩ = some (.slice x2.A x2.sy.length x2.c))) (by kernel_rfl) ?_ (fun hHeld => ?_)
        ·exact ⟨k0, k1, k2, k3⟩
        refine opT 0 rfl ?_; refine opT 1 rfl ?_; refine opT 2 rfl ?_; refine opT 3 rfl ?_; refine opT 4 rfl ?_; refine opT 5 rfl ?_; refine opT 6 rfl ?_; refine opT 7 rfl ?_; refine opT 8 rfl ?_; refine opT 9 rfl ?_; refine opT 10 rfl ?_; refine opT 11 rfl ?_
        refine opV 12 (.int .i64 C) rfl ?_ ?_
        ·intro w hSw; (try dsimp only at hSw); go_simp <;> (first | with_reducible rfl | assumption | omega | (simp [hii]; done))
        (try simp only [Act.put, nz1, nz2, nz3, nz4, nz5, nz6])
        refine opT 13 rfl ?_; refine opT 14 rfl ?_; refine opT 15 rfl ?_; refine opT 16 rfl ?_; refine opT 17 rfl ?_; refine opT 18 rfl ?_; refine opT 19 rfl ?_; refine opT 20 rfl ?_; refine opT 21 rfl ?_; refine opT 22 rfl ?_; refine opT 23 rfl ?_
        refine opD 24 rfl (fun K hK => ?_)
        go_simp
        refine hK.out _ _ ?_ (fun hHeld => ?_)
        ·(first | exact HKS.out _ (HLX.out.r.alloc (.cells #[.slice x1.A x1.sy.length x1.c, .slice x2.A x2.sy.length x2.c] 119)).drew | exact HKS.out _ (HLX.out.r.drew.alloc (.cells #[.slice x1.A x1.sy.length x1.c, .slice x2.A x2.sy.length x2.c] 119)))
        clear hK K
        (try simp only [Act.put, nz1, nz2, nz3, nz4, nz5, nz6])
        refine opD 25 rfl (fun K hK => ?_)
        go_simp
        (go_at_call 162; refine (HCC.out _ rfl).mono ?_; rintro e w5 ⟨CA, c5, rfl, ho5, hb5⟩)
        refine hK.out _ _ ?_ (fun hHeld => ?_)
        ·exact HKS.out _ (HLX.out.below hb5).r
        clear hK K
        (try simp only [Act.put, nz1, nz2, nz3, nz4, nz5, nz6])
        refine opT 26 rfl ?_
        refine opD 27 rfl (fun K hK => ?_)
        go_simp
        refine hK.out _ _ ?_ (fun hHeld => ?_)
        ·exact HKS.out _ ((HLX.out.below hb5).r.alloc (.cells #[.int .i64 C, .slice CA y.length c5] 262))
        clear hK K
        (try simp only [Act.put, nz1, nz2, nz3, nz4, nz5, nz6])
        refine opD 28 rfl (fun K hK => ?_)
        (refine step_append_Own _ rfl (.tmp 89) (.tmp 116) 260 260 rfl w1.heap.size 262 i0 _ 2 32 Tryz.underlying260 hi hz0 hz1 hz2 rfl (by decide) (.slice PA ps.length pc) ps.length (pkCells ps) rfl ((HLX.out.below hb5).p.alloc _) (pkCells_one _) 1 (pkCells [⟨C, CA, c5, y⟩]) (Src.made Tryz.underlying260 (by first | rfl | simp) rfl (pkCells_one [⟨C, CA, c5, y⟩])) (by unfold maxLen; omega) (by omega) (by have := (HLX.out.below hb5).bel.size; simp; omega) ?_; intro vq w6 hown6 hg6 hat6; obtain ⟨A6, c6, rfl, hc6, _⟩ := hown6.form; rw [show pkCells ps ++ pkCells [⟨C, CA, c5, y⟩] = pkCells (ps ++ [⟨C, CA, c5, y⟩]) by simp [pkCells]] at hown6; have M6 := HLX.out.snoc (q := ⟨C, CA, c5, y⟩) (hb5.alloc hb5.size (.cells #[.int .i64 C, .slice CA y.length c5] 262)) hown6 hg6 hat6 (((Vals.of_own ho5).below ((Below.refl _ w5).alloc (Nat.le_refl _) (.cells #[.int .i64 C, .slice CA y.length c5] 262)))) (fun x hx => ⟨(ho5.lt x hx).1, Nat.lt_of_lt_of_le (ho5.lt x hx).2 (by simp)⟩))
        refine hK.out _ _ ?_ (fun hHeld => ?_)
        ·exact HKS.out _ M6.r
        clear hK K
        (try simp only [Act.put, nz1, nz2, nz3, nz4, nz5, nz6])
        refine opT 29 rfl ?_
        refine wpAnyH_done (by kernel_rfl) ?_ _
        have HM6 := Lib.hid M6
        clear hown6 hg6 hat6 ho5 hb5 M6 HKS HCC k0 k1 k2 k3 hHeld hc6 hi hz0 hz1 hz2
        go_wp2_with fail
        go_roundw
        case rel =>
         refine ⟨i + 2, ps ++ [⟨C, CA, c5, y⟩], A6, c6, by have := HI1.out; omega, by first | rfl | go_num | (congr 1), by rw [List.length_append, List.length_singleton], HM6.out, ?_, HSP.out.append (HQ.out CA c5), by rw [List.length_append, List.length_singleton]; omega⟩
         rw [List.map_append, List.append_assoc]
         exact HPR2.out
        case measure => have := HI1.out; simp [intOf] <;> omega
       ·as_aux_lemma =>
        have hge : (rs.length : Int) ≤ i1 := by omega
        have hps : ps.map PkV.pk = Huf.pairs (rs.map PkV.pk) := by
         have h := HPR.out
         have hd : (rs.drop i).length ≤ 1 := by rw [List.length_drop]; omega
         have he : Huf.pairs ((rs.drop i).map PkV.pk) = [] := by
          match hx : rs.drop i, hd with
          | [], _ => rfl
          | [z], _ => rfl
          | _ :: _ :: _, h => simp at h
         rw [he, List.append_nil] at h
         exact h
        have hpl2 : ps.length ≤ rs.length := by omega
        obtain ⟨Y, hY⟩ : ∃ Y, Y = cs ++ ps := ⟨_, rfl⟩
        have hYl : Y.length = cs.length + ps.length := by rw [hY, List.length_append]
        have hps2 : 2 * ps.length ≤ rs.length := by omega
        have hrow : Huf.sort (Y.map PkV.pk) = Huf.rows (Huf.sort (Huf.coins l)) (k + 1) := by
         rw [hY, List.map_append, HCP.out, hps, HRP.out]
         rfl
        have hsyY : SyOK (300001 * 2 ^ (k + 1)) (2 ^ (k + 1)) l.length Y := by
         rw [HP2.out, hY]
         exact (HS3.out.more (by omega) (by omega)).append HSP.out
        have hcat := concatP2_any (some ⟨gc, oc, none⟩) PA cc pc 2 cs ps Y hY wr.heap.size wr _ rfl rfl HLX.out.c.reads.2 HLX.out.p.reads.2 (by omega)
        have HCAT := Lib.hid hcat
        have HROW := Lib.hid hrow
        have HSYY := Lib.hid hsyY
        have HYM := Lib.hid (show ∀ p ∈ Y, p ∈ cs ∨ p ∈ ps by rw [hY]; exact fun p hp => List.mem_append.1 hp)
        have hY2 : 2 ≤ Y.length := by omega
        have hY600 : Y.length ≤ 600 := by omega
        have hYcs : Y.length ≤ 2 * cs.length := by omega
        clear hps hY hYl hrow hsyY hcat hlt1 hi1 HPR HSP HSY HRP hpl hi hz0 hz1 hz2
        go_wp2_with fail
        with_reducible refine HCAT.out.mono ?_
        rintro e w5 ⟨YA, yc, rfl, ho5, hb5⟩
        obtain ⟨gy, oy, rfl, hgy1, hgy2⟩ := ho5.addr (by omega)
        have hLY := HLX.out.row hb5 (ho5.mono HLX.out.bel.size) (fun x hx => (ho5.lt x hx).1) HYM.out
        have HLY := Lib.hid hLY
        have hSP : SoP w1.heap.size gy oy Y.length yc w5 Y w5 := ⟨hLY.r, rfl, Keeps.refl _ _⟩
        have HSP := Lib.hid hSP
        have hbig : 300001 * 2 ^ (k + 1) ≤ 1099511627776 := by rw [HP2.out]; omega
        have HBIG := Lib.hid hbig
        clear hbig ho5 hb5 hgy1 hgy2 hLY hSP HCAT HLX
        go_wp2_with fail
        refine (sortStable_any w1.heap.size gy oy Y.length yc Y w5 w5 HSP.out (HSYY.out.small HBIG.out) (by omega)).mono ?_
        rintro e w6 ⟨rfl, zs, hSo, hsame, hsrt⟩
        have hzl : zs.length = Y.length := hSo.len
        have hzm : ∀ p ∈ zs, p ∈ Y := fun p hp => hsame.symm.mem hp
        have hzr : zs.map PkV.pk = Huf.rows (Huf.sort (Huf.coins l)) (k + 1) := by rw [sorted_pk hsame hsrt, HROW.out]
        have hzo : Own w6 w1.heap.size 2 (.slice (some ⟨gy, oy, none⟩) Y.length yc) zs.length (pkCells zs) := by rw [hzl]; exact hSo.own
        have hLZ := HLY.out.sorted (rs' := zs) rfl hSo.keep hzo hzm
        rw [← hzl] at hLZ
        have HLZ := Lib.hid (And.intro hLZ (And.intro hzr (HSYY.out.sub hzm)))
        have hzl2 : Y.length = zs.length := hzl.symm
        rw [hzl2] at hY2 hYcs ⊢
        clear hLZ hzo hzr hzm hzl hzl2 hSo hsame hsrt HLY HSP HSYY HROW HYM HBIG hY600
        go_wp2_with fail
        go_roundw
        case rel => exact ⟨k + 1, zs, some ⟨gy, oy, none⟩, yc, hlt, by go_num, rfl, HLZ.out.1, HLZ.out.2.1, HLZ.out.2.2, hYcs, hY2⟩
        case measure => simp [intOf] <;> omega
     ·as_aux_lemma =>
      have hkM2 : k = M := by omega
      have hkm : k = most - 1 := by have := HMM.out; omega
      have hkk : 2 ^ k ≤ 2 ^ 14 := Nat.pow_le_pow_right (by omega) (by omega)
      have hrp := HRP.out
      rw [hkm] at hrp
      have hcl := congrArg List.length HCP.out
      rw [List.length_map, Huf.sort_length] at hcl
      have hlong := Huf.rows_long (Huf.sort (Huf.coins l)) (most - 1) 1 (by rw [Huf.sort_length, show 1 + (most - 1) = most by omega]; exact HK.out)
      rw [← hrp, List.length_map, Huf.sort_length, ← hcl] at hlong
      obtain ⟨m, hm⟩ : ∃ m, m = 2 * cs.length - 2 := ⟨_, rfl⟩
      have hmr : m ≤ rs.length := by omega
      have hm6 : m ≤ 600 := by omega
      have hfin := lengths_many l most (by omega) ((rs.take m).flatMap fun p => p.sy) (by
       rw [← hrp, ← hcl, ← hm, ← List.map_take, List.flatMap_map]
       rfl)
      have HFIN := Lib.hid hfin
      obtain ⟨RA2, rc2, e2, hrc, _⟩ := HL.out.r.form
      injection e2 with e2 _ e3
      subst e2 e3
      obtain ⟨gr, orr, rfl, hgr1, hgr2⟩ := HL.out.r.addr (by omega)
      have hmi : (cs.length : Int) * 2 - 2 = (m : Nat) := by omega
      have hmi2 : (2 : Int) * cs.length - 2 = (m : Nat) := by omega
      have hmc : m ≤ rc := by omega
      have hmci : (m : Int) ≤ rc := by omega
      have hmw : wrap64 (m : Int) = (m : Nat) := IntWalk.wrap64_in _ (by omega)
      have hcw : wrap64 ((2 : Int) * cs.length) = (2 : Int) * cs.length := IntWalk.wrap64_in _ (by omega)
      have hgo : gr ≠ go_ := fun e => HL.out.ro gr rfl (by rw [e]; rfl)
      have hgol := (HL.out.o.lt go_ rfl)
      obtain ⟨w5, hw5⟩ : ∃ w5, w5 = wr := ⟨_, rfl⟩
      rw [← hw5] at HL hgol ⊢
      have hO0 : Own w5 w1.heap.size 1 (.slice (some ⟨go_, 0, none⟩) l.length l.length) l.length (nats (outN l.length ((rs.take 0).flatMap fun p => p.sy))) := by
       have h := HL.out.o
       rw [← outN_nil] at h
       exact h
      have HO0 := Lib.hid hO0
      have hsyl : ∀ p ∈ rs, p.sy.length ≤ 16384 ∧ ∀ s ∈ p.sy, s < l.length := fun p hp => ⟨Nat.le_trans (HSY.out p hp).2.2.1 hkk, (HSY.out p hp).2.2.2⟩
      have HSL := Lib.hid hsyl
      clear hrp hcl hlong hm hfin hsyl hO0 hkm hkM2 hkk HRP HSY HCP HS3 hrl hw5 hgr1 hgr2
      go_wp2_with fail
      go_loopw [132] (fun iv wx => ∃ j : Nat, j ≤ m ∧ iv = .int .i64 j ∧ ((rs.take j).flatMap fun p => p.sy).length ≤ 16384 * j ∧ Own wx w1.heap.size 1 (.slice (some ⟨go_, 0, none⟩) l.length l.length) l.length (nats (outN l.length ((rs.take j).flatMap fun p => p.sy))) ∧ Keeps (fun x => x = go_) w5 wx) (fun iv _ => m - (intOf iv).toNat)
      case atStart => exact ⟨0, Nat.zero_le _, rfl, by simp, HO0.out, Keeps.refl _ _⟩
      case round =>
       clear HO0
       obtain ⟨j, hjm, rfl, hSl, hO, hK⟩ := hrel
       have HO := Lib.hid hO
       have HKK := Lib.hid hK
       clear hO hK
       by_cases hlt2 : j < m
       ·as_aux_lemma =>
        have hjr : j < rs.length := by omega
        have hjmi : (j : Int) < m := by omega
        have hst : (rs.take (j + 1)).flatMap (fun p => p.sy) = (rs.take j).flatMap (fun p => p.sy) ++ (rs[j]).sy := by rw [List.take_succ_eq_append_getElem hjr, List.flatMap_append, List.flatMap_cons, List.flatMap_nil, List.append_nil]
        have hRx : Own wr w1.heap.size 2 (.slice (some ⟨gr, orr, none⟩) rs.length rc) rs.length (pkCells rs) := HL.out.r.keeps HKK.out fun x hx e => by have hx2 : gr = x := Option.some.inj hx; omega
        obtain ⟨q1, q2⟩ := hRx.reads.2.pk j hjr
        obtain ⟨hv, hvb⟩ := HL.out.ok rs[j] (List.mem_append_left _ (List.mem_append_right _ (List.getElem_mem hjr)))
        have hsy := HSL.out rs[j] (List.getElem_mem hjr)
        obtain ⟨x, hx⟩ : ∃ x, x = rs[j] := ⟨_, rfl⟩
        rw [← hx] at hst q1 q2 hv hvb hsy
        obtain ⟨S0, hS0⟩ : ∃ S0, S0 = (rs.take j).flatMap (fun p => p.sy) := ⟨_, rfl⟩
        rw [← hS0] at hst HO hSl
        have hvgo : ∀ y, x.v.ownBlock = some y → y ≠ go_ := fun y hy e => (hvb y hy).2 (.inr (.inr (.inl (by rw [e]; rfl))))
        have HV := Lib.hid (And.intro hv hvgo)
        have HST := Lib.hid hst
        have HSYX := Lib.hid hsy.2
        have hsl := hsy.1
        obtain ⟨L, hLe⟩ : ∃ L, L = x.sy.length := ⟨_, rfl⟩
        rw [← hLe] at q2 hsl
        have hLL := Lib.hid hLe
        have hO6 : Own (wr.alloc (.cells #[.int .i64 x.cost, .slice x.A L x.c] 262)) w1.heap.size 1 (.slice (some ⟨go_, 0, none⟩) l.length l.length) l.length (nats (outN l.length (S0 ++ x.sy.take 0))) := by
         rw [List.take_zero, List.append_nil]
         exact HO.out.alloc _
        have hK6 : Keeps (fun x => x = go_) w5 (wr.alloc (.cells #[.int .i64 x.cost, .slice x.A L x.c] 262)) := HKK.out.alloc _
        have HO6 := Lib.hid hO6
        have HK6 := Lib.hid hK6
        clear hst hv hvb hsy hx hS0 hvgo hRx hLe hO6 hK6 HO HKK
        go_wp2_with fail
        obtain ⟨w6, hw6⟩ : ∃ w6, w6 = wr.alloc (.cells #[.int .i64 x.cost, .slice x.A L x.c] 262) := ⟨_, rfl⟩
        rw [← hw6] at HO6 HK6 ⊢
        clear hw6
        go_loopw [139] (fun iv wx => ∃ t : Nat, t ≤ L ∧ iv = .int .i64 t ∧ Own wx w1.heap.size 1 (.slice (some ⟨go_, 0, none⟩) l.length l.length) l.length (nats (outN l.length (S0 ++ x.sy.take t))) ∧ Keeps (fun x => x = go_) w5 wx) (fun iv _ => L - (intOf iv).toNat)
        case atStart => exact ⟨0, Nat.zero_le _, rfl, HO6.out, HK6.out⟩
        case round =>
         clear HO6 HK6
         obtain ⟨t, htL, rfl, hO, hK⟩ := hrel
         by_cases hlt3 : t < L
         ·as_aux_lemma =>
          have htl : t < x.sy.length := by rw [← hLL.out]; exact hlt3
          have hlt3i : (t : Int) < L := by omega
          obtain ⟨hv, hvgo⟩ := HV.out
          have hvx := hv.keeps hK fun y hy e => hvgo y hy e
          obtain ⟨gs, os, cs', e1, e2⟩ := hvx.at t htl
          rw [nats_at _ _ htl] at e2
          unfold PkV.v at e1
          injection e1 with e1 _ e3
          have hsn := HSYX.out x.sy[t] (List.getElem_mem htl)
          have htk : x.sy.take (t + 1) = x.sy.take t ++ [x.sy[t]] := List.take_succ_eq_append_getElem htl
          have hsng := outN_snoc l.length (S0 ++ x.sy.take t) x.sy[t] hsn
          rw [List.append_assoc, ← htk] at hsng
          have hcle := List.count_le_length (a := x.sy[t]) (l := S0 ++ x.sy.take t)
          rw [List.length_append, List.length_take] at hcle
          obtain ⟨k1, k2⟩ := hO.cellAt x.sy[t] hsn
          rw [Nat.zero_add] at k1 k2
          rw [nats_at _ _ (by rw [outN_length]; exact hsn)] at k1
          have hg0 : (outN l.length (S0 ++ x.sy.take t))[x.sy[t]]'(by rw [outN_length]; exact hsn) = (S0 ++ x.sy.take t).count x.sy[t] := by
           have := outN_get l.length (S0 ++ x.sy.take t) x.sy[t] hsn
           rw [List.getElem?_eq_getElem (by rw [outN_length]; exact hsn)] at this
           exact Option.some.inj this
          rw [hg0] at k1
          obtain ⟨cnt, hcnt⟩ : ∃ cnt, cnt = (S0 ++ x.sy.take t).count x.sy[t] := ⟨_, rfl⟩
          rw [← hcnt] at k1 hsng hcle
          obtain ⟨s, hs⟩ : ∃ s, s = x.sy[t] := ⟨_, rfl⟩
          rw [← hs] at k1 k2 e2 hsn hsng
          have hcb : cnt ≤ 100000000 := by omega
          have hOn := hO.setNat s hsn (cnt + 1)
          rw [Nat.zero_add, hsng] at hOn
          have HON := Lib.hid hOn
          have HKN := Lib.hid (hK.setCell (p := ⟨go_, s, none⟩) (fun _ => rfl) (.int .i64 (cnt + 1 : Nat)))
          have hsni : (s : Int) < l.length := by omega
          rw [e1]
          clear hv hvgo hvx e1 e3 htk hsng hcle hg0 hcnt hs hOn hO hK
          go_wp2_with fail
          go_roundw
          case rel => exact ⟨t + 1, hlt3, by go_num, HON.out, HKN.out⟩
          case measure => simp [intOf] <;> omega
         ·as_aux_lemma =>
          have htL2 : t = x.sy.length := by rw [← hLL.out]; omega
          have hge : (L : Int) ≤ t := by omega
          rw [htL2, List.take_length] at hO
          have HO7 := Lib.hid hO
          have HK7 := Lib.hid hK
          have hlen : (S0 ++ x.sy).length ≤ 16384 * (j + 1) := by rw [List.length_append, ← hLL.out]; omega
          clear hO hK htL2
          go_wp2_with fail
          go_roundw
          case rel => exact ⟨j + 1, hlt2, by go_num, by rw [HST.out]; exact hlen, by rw [HST.out]; exact HO7.out, HK7.out⟩
          case measure => simp [intOf] <;> omega
       ·as_aux_lemma =>
        have hjm2 : j = m := by omega
        subst hjm2
        have hO := HO.out
        rw [HFIN.out] at hO
        have hbel : Below w1.heap.size w1 wr := HL.out.bel.trans (HKK.out.below (fun x hx => by rw [hx]; exact hgol.1) HL.out.bel.size)
        clear HFIN HO hSl hmr hm6 hmc hlt2
        go_wp2_with fail
        go_ret2
        exact ⟨_, _, rfl, hO, hbel⟩
end Go.Proofs.YtkegkelaffohjaaGreatDoor
