/- deflate.dynamic: the walk. Printed by mkdefdyn.py. -/
import Derived.Test.YtkegkelaffohjaaGreatDoorQCFilmTwiceHufLens
import Derived.Test.YtkegkelaffohjaaGreatDoorQCFilmTwiceDefFix
import Derived.Test.YtkegkelaffohjaaGreatDoorQCFilmTwiceDefRun
import Derived.Test.YtkegkelaffohjaaGreatDoorKCFilmTwice2
import Derived.Deep.RegionLaw
import Derived.Deep.Cut
import Derived.Deep.DeepCutAuto
import Derived.Deep.CutBlock
namespace Go.Proofs.YtkegkelaffohjaaGreatDoor
open Go Go.RowKit
structure VF (w : World) (gb : Nat) (v : Value) (size : Nat) (V : Value) (n : Nat) (xs : List Value) : Prop where
 val : Vals w size V n xs
 far : ∀ x, V.ownBlock = some x → Far w gb v x
section
variable {w w' : World} {gb size n : Nat} {v v' V : Value} {xs : List Value}
theorem VF.on (h : VF w gb v size V n xs) (hf : Fresh w v v') (k : Keeps (fun x => x = gb ∨ v.ownBlock = some x) w w') : VF w' gb v' size V n xs :=
 ⟨h.val.keeps k fun x hx => (h.far x hx).off, fun x hx => (h.far x hx).on k.size hf⟩
theorem VF.below (h : VF w gb v size V n xs) (hb : Below w.heap.size w w') : VF w' gb v size V n xs := h.on (Fresh.refl _ _) (Keeps.of_below hb fun _ hg _ => hg)
end
theorem TW.below {w w' : World} {g gb : Nat} {v L D LC DC TV : Value} {ln dn lc dc : List Nat} {l : List Mat.Tok} (h : TW w g gb v L D LC DC TV ln dn lc dc l) (hb : Below w.heap.size w w') : TW w' g gb v L D LC DC TV ln dn lc dc l :=
 h.on (Fresh.refl _ _) (Keeps.of_below hb fun _ hg _ => hg)
theorem BW.below {w w' : World} {B g : Nat} {T : TypeId} {r : List Value} {v : Value} {bs : List Bool} (h : BW w B g T r v bs) (hb : Below w.heap.size w w') : BW w' B g T r v bs := ⟨h.blk.below hb h.blk.lt, h.own.below hb (Nat.le_refl _), h.ne⟩
structure WB (w0 : World) (g gb : Nat) (cells : Array Value) (w : World) : Prop where
 blk : Blk w g 221 cells
 bw : BW w w0.heap.size gb 215 [] (.slice none 0 0) []
 bel : Below w0.heap.size w0 w
 ge : w0.heap.size ≤ g
 ne : gb ≠ g
theorem WB.step {w0 w w3 : World} {g gb : Nat} {cells : Array Value} (h : WB w0 g gb cells w) (hb : Below w.heap.size w w3) (i : Nat) (u : Value) : WB w0 g gb (cells.setIfInBounds i u) (w3.setCell ⟨g, i, none⟩ u) :=
 ⟨(h.blk.below hb h.blk.lt).set_ i u, ⟨(h.bw.below hb).blk.far (p := ⟨g, i, none⟩) h.ne u, Own.nil _ _ _, (fun e => by cases e)⟩, (h.bel.trans (hb.mono h.bel.size)).setCell (p := ⟨g, i, none⟩) h.ge u, h.ge, h.ne⟩
theorem Own.stepg {w w3 : World} {base size n g : Nat} {V : Value} {xs : List Value} (h : Own w base size V n xs) (hb : Below w.heap.size w w3) (hne : V.ownBlock ≠ some g) (i : Nat) (u : Value) : Own (w3.setCell ⟨g, i, none⟩ u) base size V n xs :=
 (h.below hb (Nat.le_refl _)).setCell (p := ⟨g, i, none⟩) hne u
theorem Own.off {w : World} {base size n g : Nat} {V : Value} {xs : List Value} (h : Own w base size V n xs) (hg : g < base) : V.ownBlock ≠ some g := fun e => by have := (h.lt g e).1; omega
structure RowR (w : World) (v : Value) (n : Nat) (l : List Nat) (W : World) : Prop where
 own : Own W w.heap.size 1 v n (nats l)
 bel : Below w.heap.size w W
theorem RowR.app {w W W' : World} {v v' : Value} {n m : Nat} {l l2 : List Nat} (h : RowR w v n l W) (ho : Own W' w.heap.size 1 v' (n + m) (nats l ++ nats l2)) (hg : W.grownBy W' v.ownBlock) : RowR w v' (n + m) (l ++ l2) W' :=
 ⟨by rw [nats_append]; exact ho, h.bel.grown hg h.bel.size fun x hx => (h.own.lt x hx).1⟩
theorem Src.nats_ {tx e' : TypeId} (hk : Tryz.prog.underlying tx = some (.slice e')) {W : World} {b o m c : Nat} {l : List Nat} (hl : l.length = m) (h : ∀ j, j < m → W.cell? ⟨b, o + j, none⟩ = some (.int .i64 (l.getD j 0))) :
  Src Tryz.prog 1 tx (.slice (some ⟨b, o, none⟩) m c) m (nats l) W :=
 Src.ofSlice W hk ⟨b, o, none⟩ m c (nats l) (by rw [nats_length]; omega) (fun j u hu => by
  rw [add_lit]
  have hj : j < l.length := by have := (List.getElem?_eq_some_iff.1 hu).1; rwa [nats_length] at this
  rw [h j (by omega), ← hu, nats_at _ _ hj, getD_at _ _ hj]) (nats_one _)
theorem getD_take (l : List Nat) (k j : Nat) (hj : j < k) : (l.take k).getD j 0 = l.getD j 0 := by
 rw [List.getD_eq_getElem?_getD, List.getD_eq_getElem?_getD, List.getElem?_take, if_pos hj]
def useTo (rs : List Inf.Run) (j : Nat) : List Nat := ((rs.take j).map (·.1)).foldl Inf.bump (List.replicate 19 0)
theorem useTo_succ (rs : List Inf.Run) (j : Nat) (h : j < rs.length) : useTo rs (j + 1) = Inf.bump (useTo rs j) (rs[j]).1 := by
 unfold useTo
 rw [List.take_succ_eq_append_getElem h, List.map_append, List.foldl_append]
 rfl
theorem useTo_all (rs : List Inf.Run) : useTo rs rs.length = Inf.runCounts rs := by unfold useTo Inf.runCounts; rw [List.take_length]
theorem useTo_le (rs : List Inf.Run) (j k : Nat) : (useTo rs j).getD k 0 ≤ rs.length := by
 have h1 := Inf.bumps_le ((rs.take j).map (·.1)) (List.replicate 19 0) k
 rw [List.length_map, List.length_take] at h1
 have h2 : (List.replicate 19 0).getD k 0 = 0 := by
  rw [List.getD_eq_getElem?_getD, List.getElem?_replicate]
  split <;> simp
 unfold useTo
 omega
structure UseS (w : World) (a : Nat) (S : List Nat) (W : World) : Prop where
 s : Own W w.heap.size 1 (.slice (some ⟨a, 0, none⟩) 19 19) 19 (nats S)
 bel : Below w.heap.size w W
section
variable {w W : World} {a : Nat} {S : List Nat}
theorem UseS.alloc (h : UseS w a S W) (o : Obj) : UseS w a S (W.alloc o) := ⟨h.s.alloc o, h.bel.alloc h.bel.size o⟩
theorem UseS.len (h : UseS w a S W) : S.length = 19 := by have h1 := h.s.1; rw [nats_length] at h1; omega
theorem UseS.set_ (h : UseS w a S W) (i : Nat) (hi : i < 19) (x : Nat) : UseS w a (S.set i x) (W.setCell ⟨a, i, none⟩ (.int .i64 x)) := by
 have h1 := h.s.setNat i hi x
 rw [Nat.zero_add] at h1
 exact ⟨h1, h.bel.setCell (p := ⟨a, i, none⟩) (h.s.lt a rfl).1 _⟩
theorem UseS.at_ (h : UseS w a S W) (i : Nat) (hi : i < 19) : W.cell? ⟨a, i, none⟩ = some (.int .i64 (S.getD i 0)) ∧ W.frozen? ⟨a, i, none⟩ = false := by
 have hl := h.len
 obtain ⟨h1, h2⟩ := h.s.cellAt i hi
 rw [Nat.zero_add] at h1 h2
 rw [nats_at _ _ (by omega), ← getD_at _ _ (by omega)] at h1
 exact ⟨h1, h2⟩
end
theorem order_lt : ∀ k, Inf.Order.getD k 0 < 19 := fun k => by
 rcases Nat.lt_or_ge k 19 with h | h
 ·have : ∀ k : Fin 19, Inf.Order.getD k.val 0 < 19 := by decide
  exact this ⟨k, h⟩
 ·rw [List.getD_eq_getElem?_getD, List.getElem?_eq_none h]; decide
theorem low3_len (f : Nat → Nat) (n : Nat) : ∀ l : List Nat, (l.flatMap fun k => Bit.low (f k) n).length = n * l.length
 | [] => rfl
 | k :: l => by rw [List.flatMap_cons, List.length_append, low3_len f n l, Bit.low_length, List.length_cons, Nat.mul_add]; omega
theorem take_snoc (l : List Nat) (i : Nat) (h : i < l.length) : l.take (i + 1) = l.take i ++ [l.getD i 0] := by
 rw [List.take_succ_eq_append_getElem h, getD_at _ _ h]
theorem runs_len (sm : List Nat) (h8 : ∀ k, sm.getD k 0 < 8) : ∀ rs : List Inf.Run, (∀ r ∈ rs, r.2.2 ≤ 7) → (Inf.runsBits sm rs).length ≤ 14 * rs.length
 | [], _ => by simp [Inf.runsBits]
 | r :: rs, h => by
  have ih := runs_len sm h8 rs fun x hx => h x (List.mem_cons_of_mem _ hx)
  have h1 := h r List.mem_cons_self
  have h2 := h8 r.1
  rw [List.getD_eq_getElem?_getD] at h2
  unfold Inf.runsBits at *
  rw [List.flatMap_cons, List.length_append, List.length_cons, Inf.runBits, List.length_append, Huf.word, Huf.high_length, Bit.low_length]
  omega
structure DS (w0 W : World) (g gb : Nat) (v L D LC DC TV SV KV RV : Value) (ln dn lc dc sm kc : List Nat) (l : List Mat.Tok) (rs : List Inf.Run) (bs : List Bool) : Prop where
 tw : TW W g gb v L D LC DC TV ln dn lc dc l
 bw : BW W w0.heap.size gb 215 [] v bs
 bel : Below w0.heap.size w0 W
 s : VF W gb v 1 SV 19 (nats sm)
 k : VF W gb v 1 KV 19 (u32s kc)
 r : VF W gb v 3 RV rs.length (runCells rs)
 ge : w0.heap.size ≤ gb
section
variable {w0 W W' : World} {g gb : Nat} {v L D LC DC TV SV KV RV : Value} {ln dn lc dc sm kc : List Nat} {l : List Mat.Tok} {rs : List Inf.Run} {bs bs' : List Bool}
theorem DS.wrote (h : DS w0 W g gb v L D LC DC TV SV KV RV ln dn lc dc sm kc l rs bs) (hw : Wrote W w0.heap.size gb 215 [] v bs' W') : ∃ v', DS w0 W' g gb v' L D LC DC TV SV KV RV ln dn lc dc sm kc l rs bs' ∧ Keeps (fun x => x = gb ∨ v.ownBlock = some x) W W' ∧ Fresh W v v' := by
 obtain ⟨v1, hT, hB, hf, hk⟩ := h.tw.wrote hw
 exact ⟨v1, ⟨hT, hB, h.bel.trans (hk.below (fun x hx => by rcases hx with e | e <;> first | (have := h.ge; omega) | exact (h.bw.own.lt x e).1) h.bel.size), h.s.on hf hk, h.k.on hf hk, h.r.on hf hk, h.ge⟩, hk, hf⟩
theorem DS.below (h : DS w0 W g gb v L D LC DC TV SV KV RV ln dn lc dc sm kc l rs bs) (hb : Below W.heap.size W W') : DS w0 W' g gb v L D LC DC TV SV KV RV ln dn lc dc sm kc l rs bs :=
 ⟨h.tw.below hb, h.bw.below hb, h.bel.trans (hb.mono h.bel.size), h.s.below hb, h.k.below hb, h.r.below hb, h.ge⟩
theorem DS.smAt {b o c : Nat} (h : DS w0 W g gb v L D LC DC TV (.slice (some ⟨b, o, none⟩) 19 c) KV RV ln dn lc dc sm kc l rs bs) (i : Nat) (hi : i < 19) : W.cell? ⟨b, o + i, none⟩ = some (.int .i64 (sm.getD i 0)) := by
 obtain ⟨A, c', e, hr⟩ := h.s.val
 injection e with e1 e2 e3
 subst e1
 have h1 := hr.1
 rw [nats_length] at h1
 rw [hr.cell rfl i (by omega), nats_at _ _ (by omega), getD_at _ _ (by omega)]
theorem DS.kcAt {b o c : Nat} (h : DS w0 W g gb v L D LC DC TV SV (.slice (some ⟨b, o, none⟩) 19 c) RV ln dn lc dc sm kc l rs bs) (i : Nat) (hi : i < 19) : W.cell? ⟨b, o + i, none⟩ = some (.int .u32 (kc.getD i 0)) := by
 obtain ⟨A, c', e, hr⟩ := h.k.val
 injection e with e1 e2 e3
 subst e1
 have h1 := hr.1
 rw [u32s_length] at h1
 rw [hr.cell rfl i (by omega), u32s_at _ _ (by omega), getD_at _ _ (by omega)]
theorem DS.rAt {b o c : Nat} (h : DS w0 W g gb v L D LC DC TV SV KV (.slice (some ⟨b, o, none⟩) rs.length c) ln dn lc dc sm kc l rs bs) (i : Nat) (hi : i < rs.length) :
  W.cell? ⟨b, o + i * 3, none⟩ = some (.int .i64 (rs[i].1 : Int)) ∧ W.cell? ⟨b, o + i * 3 + 1, none⟩ = some (.int .i64 (rs[i].2.1 : Int)) ∧ W.cell? ⟨b, o + i * 3 + 2, none⟩ = some (.int .i64 (rs[i].2.2 : Int)) := by
 obtain ⟨A, c', e, hr⟩ := h.r.val
 injection e with e1 e2 e3
 subst e1
 exact hr.run i hi
theorem DS.c0 (h : DS w0 W g gb v L D LC DC TV SV KV RV ln dn lc dc sm kc l rs bs) : W.cell? ⟨g, 0, none⟩ = some (.pointer (some ⟨gb, 0, none⟩)) := by rw [h.tw.wri.blk.cell]; rfl
end
set_option maxRecDepth 100000 in
set_option maxHeartbeats 20000000 in
theorem dynamic_any (TV : Value) (l : List Mat.Tok) (E : Nat → Addr) (w : World) (hE : ErS w E) (hT : Tabs w) (ht : Vals w 3 TV l.length (tokCells l)) (hp : ∀ t ∈ l, Mat.Plain t) (hl : l.length ≤ 300000) (htl : ∀ x, TV.ownBlock = some x → x < w.heap.size) :
  Calls Tryz.prog 108 #[TV] w fun e w' => e = .returned (.string ⟨(Bit.pack (Inf.dynBits l)).toArray⟩) ∧ Below w.heap.size w w' := by
 obtain ⟨TA, tc, rfl, htr⟩ := ht
 have ht : Vals w 3 (.slice TA l.length tc) l.length (tokCells l) := ⟨TA, tc, rfl, htr⟩
 have HT := Lib.hid (And.intro hT ht)
 have HE := Lib.hid hE
 have HP := Lib.hid hp
 have HTL := Lib.hid htl
 have hcl := Inf.symCounts_length l
 have hcd := Inf.distCounts_length l
 have hcs : ∀ x ∈ Inf.symCounts l, x ≤ 300001 := fun x hx => by
  obtain ⟨k, hk, e⟩ := List.getElem_of_mem hx
  have h1 := symTo_le l l.length k
  have e1 : symTo l l.length = Inf.symCounts l := by unfold symTo; rw [List.take_length]; rfl
  rw [e1, getD_at _ _ hk, e] at h1
  omega
 have hcd2 : ∀ x ∈ Inf.distCounts l, x ≤ 300001 := fun x hx => by
  obtain ⟨k, hk, e⟩ := List.getElem_of_mem hx
  have h1 := distTo_le l l.length k
  have e1 : distTo l l.length = Inf.distCounts l := by unfold distTo; rw [List.take_length]; rfl
  rw [e1, getD_at _ _ hk, e] at h1
  omega
 have HCC := Lib.hid (And.intro (And.intro hcl hcs) (And.intro hcd hcd2))
 clear hE hT ht hp htl htr hcl hcd hcs hcd2
 go_enter Tryz.func108, Tryz.ntmps108
 go_wp2_with fail
 refine (counts_any (.slice TA l.length tc) l w HT.out.1 HT.out.2 HP.out hl).mono ?_
 rintro e w1 ⟨SA, sc, DA, dc, rfl, hoS, hoD, _, hb1⟩
 have HS1 := Lib.hid hoS
 have HD1 := Lib.hid hoD
 have HW1 := Lib.hid hb1
 clear hoS hoD hb1
 obtain ⟨gb, hgb⟩ : ∃ gb, gb = w1.heap.size := ⟨_, rfl⟩
 obtain ⟨g, hg⟩ : ∃ g, g = gb + 1 := ⟨_, rfl⟩
 obtain ⟨w2, hw2⟩ : ∃ w2, w2 = (w1.alloc (.cells #[.slice none 0 0, .int .i64 0] 215)).alloc (.cells #[.pointer (some ⟨gb, 0, none⟩), .slice none 0 0, .slice none 0 0, .slice none 0 0, .slice none 0 0] 221) := ⟨_, rfl⟩
 have hb12 : Below w1.heap.size w1 w2 := by rw [hw2]; exact ((Below.refl _ w1).alloc (Nat.le_refl _) _).alloc (by simp) _
 have hB2 : BW w2 w.heap.size gb 215 [] (.slice none 0 0) [] := by
  rw [hw2]
  exact ⟨(Blk.new w1 _ _ hgb).alloc _, Own.nil _ _ _, (fun e => by cases e)⟩
 have hg2 : Blk w2 g 221 #[.pointer (some ⟨gb, 0, none⟩), .slice none 0 0, .slice none 0 0, .slice none 0 0, .slice none 0 0] := by
  rw [hw2]
  exact Blk.new _ _ _ (by rw [hg, hgb]; simp)
 have HB2 := Lib.hid hB2
 have HG2 := Lib.hid hg2
 have HBW2 := Lib.hid hb12
 have hgb2 : gb < g := by omega
 have HGB := Lib.hid (And.intro hgb hg)
 have HDG := Lib.hid (show ∀ x, (Value.slice DA 30 dc).ownBlock = some x → x ≠ g from fun x hx e => by have := (HD1.out.lt x hx).2; omega)
 have HS2 := Lib.hid (HS1.out.below hb12 (Nat.le_refl _))
 have HD2 := Lib.hid (HD1.out.below hb12 (Nat.le_refl _))
 go_upto_region 3 with (fail)
 rw [← hgb, ← hg, ← hw2]
 clear hw2 hB2 hg2 hb12 hgb hg HS1 HD1
 have HWB2 := Lib.hid (show WB w g gb #[.pointer (some ⟨gb, 0, none⟩), .slice none 0 0, .slice none 0 0, .slice none 0 0, .slice none 0 0] w2 from ⟨HG2.out, HB2.out, HW1.out.trans (HBW2.out.mono HW1.out.size), by have := HGB.out; have := HW1.out.size; omega, by omega⟩)
 have hgl2 : g < w2.heap.size := HG2.out.lt
 have hgz2 := hgl2
 have hDg : (Value.slice DA 30 dc).ownBlock ≠ some g := fun e => HDG.out g e rfl
 clear HG2 HB2 HBW2 HDG
 go_wp2_with fail
 refine (lengths_any w2.heap.size 286 sc 15 SA (Inf.symCounts l) w2 HS2.out.reads.2 (Nat.le_refl _) (by rw [HCC.out.1.1]; omega) HCC.out.1.2 (.inr rfl) (Inf.coins_le _ 286 15 HCC.out.1.1 (by decide))).mono ?_
 rw [HCC.out.1.1]
 rintro e w3 ⟨LA, Lc, rfl, hoL, hb3⟩
 replace hoL : Own w3 w2.heap.size 1 (.slice LA 286 Lc) 286 (nats (Inf.lensOf l)) := hoL
 have hg3 := HWB2.out.blk.below hb3 hgl2
 have hc3 : w3.cell? ⟨g, 1, none⟩ = some (.slice none 0 0) := by rw [hg3.cell]; rfl
 have hf3 := hg3.free 1
 have HL4 := Lib.hid (hoL.setCell (p := ⟨g, 1, none⟩) (hoL.off hgl2) (.slice LA 286 Lc))
 have HLO := Lib.hid (hoL.off hgl2)
 have HWB4 := Lib.hid (HWB2.out.step hb3 1 (.slice LA 286 Lc))
 have HD4 := Lib.hid (HD2.out.stepg hb3 hDg 1 (.slice LA 286 Lc))
 have hgl3 := hg3.lt
 clear hoL hb3 HS2 HWB2 HD2
 go_wp2_with fail
 have hgl4 : g < (w3.setCell ⟨g, 1, none⟩ (.slice LA 286 Lc)).heap.size := HWB4.out.blk.lt
 have hgz4 := hgl4
 clear hc3 hf3 hg3
 generalize w3.setCell ⟨g, 1, none⟩ (.slice LA 286 Lc) = w4 at *
 refine (lengths_any w4.heap.size 30 dc 15 DA (Inf.distCounts l) w4 HD4.out.reads.2 (Nat.le_refl _) (by rw [HCC.out.2.1]; omega) HCC.out.2.2 (.inr rfl) (Inf.coins_le _ 30 15 HCC.out.2.1 (by decide))).mono ?_
 rw [HCC.out.2.1]
 rintro e w5 ⟨QA, Qc, rfl, hoQ, hb5⟩
 replace hoQ : Own w5 w4.heap.size 1 (.slice QA 30 Qc) 30 (nats (Inf.distsOf l)) := hoQ
 have hg5 := HWB4.out.blk.below hb5 hgl4
 have hc5 : w5.cell? ⟨g, 2, none⟩ = some (.slice none 0 0) := by rw [hg5.cell]; rfl
 have hf5 := hg5.free 2
 have HQ6 := Lib.hid (hoQ.setCell (p := ⟨g, 2, none⟩) (hoQ.off hgl4) (.slice QA 30 Qc))
 have HQO := Lib.hid (hoQ.off hgl4)
 have HWB6 := Lib.hid (HWB4.out.step hb5 2 (.slice QA 30 Qc))
 have HL6 := Lib.hid (HL4.out.stepg hb5 HLO.out 2 (.slice QA 30 Qc))
 have hgl5 := hg5.lt
 have hgl6 : g < (w5.setCell ⟨g, 2, none⟩ (.slice QA 30 Qc)).heap.size := HWB6.out.blk.lt
 have hgz6 := hgl6
 have hz6 : w4.heap.size ≤ (w5.setCell ⟨g, 2, none⟩ (.slice QA 30 Qc)).heap.size := by have := hoQ.addr (by omega); obtain ⟨y, o, e, h1, h2⟩ := this; simp; omega
 have hcg6 : (w5.setCell ⟨g, 2, none⟩ (.slice QA 30 Qc)).cell? ⟨g, 1, none⟩ = some (.slice LA 286 Lc) := by rw [HWB6.out.blk.cell]; rfl
 clear hoQ hb5 HD4 HWB4 HL4
 go_wp2_with fail
 generalize w5.setCell ⟨g, 2, none⟩ (.slice QA 30 Qc) = w6 at *
 have hL6r : Reads w6 w6.heap.size 1 LA 286 (nats (Inf.lensOf l)) := HL6.out.rd
 have HE6 := Lib.hid (HE.out.below HWB6.out.bel)
 refine (codes_any w6.heap.size 286 Lc LA (Inf.lensOf l) E w6 HE6.out hL6r (Nat.le_refl _) (Inf.lens_good l) (by rw [(Inf.dyn_ok l).ll]; omega)).mono ?_
 rw [(Inf.dyn_ok l).ll]
 rintro e w7 ⟨MA, Mc, rfl, hoM, hb7⟩
 have hg7 := HWB6.out.blk.below hb7 hgl6
 have hc7 : w7.cell? ⟨g, 3, none⟩ = some (.slice none 0 0) := by rw [hg7.cell]; rfl
 have hf7 := hg7.free 3
 have HM8 := Lib.hid (hoM.setCell (p := ⟨g, 3, none⟩) (hoM.off hgl6) (.slice MA 286 Mc))
 have HMO := Lib.hid (hoM.off hgl6)
 have HWB8 := Lib.hid (HWB6.out.step hb7 3 (.slice MA 286 Mc))
 have HL8 := Lib.hid (HL6.out.stepg hb7 HLO.out 3 (.slice MA 286 Mc))
 have HQ8 := Lib.hid (HQ6.out.stepg hb7 HQO.out 3 (.slice MA 286 Mc))
 have hgl7 := hg7.lt
 have hgl8 : g < (w7.setCell ⟨g, 3, none⟩ (.slice MA 286 Mc)).heap.size := HWB8.out.blk.lt
 have hgz8 := hgl8
 have hcg8 : (w7.setCell ⟨g, 3, none⟩ (.slice MA 286 Mc)).cell? ⟨g, 2, none⟩ = some (.slice QA 30 Qc) := by rw [HWB8.out.blk.cell]; rfl
 have hz8 : w6.heap.size ≤ (w7.setCell ⟨g, 3, none⟩ (.slice MA 286 Mc)).heap.size := by have := hb7.size; simp; omega
 clear hoM hb7 HL6 HQ6 HWB6 hcg6 hL6r HE6
 go_wp2_with fail
 clear hc7 hf7 hg7
 generalize w7.setCell ⟨g, 3, none⟩ (.slice MA 286 Mc) = w8 at *
 have hQ8r : Reads w8 w8.heap.size 1 QA 30 (nats (Inf.distsOf l)) := HQ8.out.rd
 have HE8 := Lib.hid (HE.out.below HWB8.out.bel)
 refine (codes_any w8.heap.size 30 Qc QA (Inf.distsOf l) E w8 HE8.out hQ8r (Nat.le_refl _) (Inf.dists_good l) (by rw [(Inf.dyn_ok l).dl]; omega)).mono ?_
 rw [(Inf.dyn_ok l).dl]
 rintro e w9 ⟨NA, Nc, rfl, hoN, hb9⟩
 have hg9 := HWB8.out.blk.below hb9 hgl8
 have hc9 : w9.cell? ⟨g, 4, none⟩ = some (.slice none 0 0) := by rw [hg9.cell]; rfl
 have hf9 := hg9.free 4
 have hgl9 := hg9.lt
 have HN10 := Lib.hid (hoN.setCell (p := ⟨g, 4, none⟩) (hoN.off hgl8) (.slice NA 30 Nc))
 have HWB10 := Lib.hid (HWB8.out.step hb9 4 (.slice NA 30 Nc))
 have HL10 := Lib.hid (HL8.out.stepg hb9 HLO.out 4 (.slice NA 30 Nc))
 have HQ10 := Lib.hid (HQ8.out.stepg hb9 HQO.out 4 (.slice NA 30 Nc))
 have HM10 := Lib.hid (HM8.out.stepg hb9 HMO.out 4 (.slice NA 30 Nc))
 have hz10 : w8.heap.size ≤ (w9.setCell ⟨g, 4, none⟩ (.slice NA 30 Nc)).heap.size := by have := hb9.size; simp; omega
 clear hoN hb9 HL8 HQ8 HM8 HWB8 hcg8 hQ8r HE8
 go_upto_block 0 with (fail)
 clear hc9 hf9 hg9 hgl9 hgl8 hgl7 hgl6 hgl5 hgl4 hgl3 hgl2 hDg
 generalize w9.setCell ⟨g, 4, none⟩ (.slice NA 30 Nc) = w10 at *
 clear hc5 hf5 hg5
 have HFAR := Lib.hid (And.intro hgz2 (And.intro hgz4 (And.intro hgz6 hgz8)))
 clear hgz2 hgz4 hgz6 hgz8
 obtain ⟨LB, lo, rfl, hL1, hL2⟩ := HL10.out.addr (by omega)
 obtain ⟨QB, qo, rfl, hQ1, hQ2⟩ := HQ10.out.addr (by omega)
 have hdL : ∀ k, k < 286 → w10.cell? ⟨LB, lo + k, none⟩ = some (.int .i64 ((Inf.lensOf l).getD k 0)) := fun k hk => by
  have h1 : k < (Inf.lensOf l).length := by rw [(Inf.dyn_ok l).ll]; exact hk
  rw [HL10.out.reads.2.cell rfl k (by omega), nats_at _ _ h1, getD_at _ _ h1]
 have hdQ : ∀ k, k < 30 → w10.cell? ⟨QB, qo + k, none⟩ = some (.int .i64 ((Inf.distsOf l).getD k 0)) := fun k hk => by
  have h1 : k < (Inf.distsOf l).length := by rw [(Inf.dyn_ok l).dl]; exact hk
  rw [HQ10.out.reads.2.cell rfl k (by omega), nats_at _ _ h1, getD_at _ _ h1]
 have hd1 : w10.cell? ⟨g, 1, none⟩ = some (.slice (some ⟨LB, lo, none⟩) 286 Lc) := by rw [HWB10.out.blk.cell]; rfl
 have hd2 : w10.cell? ⟨g, 2, none⟩ = some (.slice (some ⟨QB, qo, none⟩) 30 Qc) := by rw [HWB10.out.blk.cell]; rfl
 obtain ⟨ln, hln⟩ : ∃ ln, ln = Inf.lensOf l := ⟨_, rfl⟩
 obtain ⟨dn, hdn⟩ : ∃ dn, dn = Inf.distsOf l := ⟨_, rfl⟩
 rw [← hln] at hdL
 rw [← hdn] at hdQ
 have HLD := Lib.hid (And.intro hln hdn)
 have HDL := Lib.hid hdL
 have HDQ := Lib.hid hdQ
 clear hln hdn hdL hdQ hL1 hL2 hQ1 hQ2
 go_cut [6] (fun kv wx => kv = .int .i64 (Inf.manyOf l : Nat) ∧ w10 = wx)
 case first => as_aux_lemma =>
  go_wp2_with fail
  go_loopw [6] (fun kv wr => ∃ k : Nat, 257 ≤ k ∧ k ≤ 286 ∧ kv = .int .i64 k ∧ Inf.trim ln id 257 k = Inf.trim ln id 257 286 ∧ wr = w10) (fun kv _ => (intOf kv).toNat)
  case atStart => exact ⟨286, by omega, by omega, rfl, rfl, rfl⟩
  case round =>
   obtain ⟨k, hk1, hk2, rfl, htr, rfl⟩ := hrel
   obtain ⟨m, rfl⟩ : ∃ m, k = m + 1 := ⟨k - 1, by omega⟩
   have HTR := Lib.hid htr
   clear htr
   by_cases hlt : 257 ≤ m
   ·have hdm := HDL.out m (by omega)
    have q1 : IntKind.i64.wrap ((m : Int) + 1 - 1) = (m : Int) := by rw [IntWalk.i64_in _ (by omega)]; omega
    by_cases h0 : ln.getD m 0 = 0
    ·rw [h0] at hdm
     have H0 := Lib.hid h0
     clear h0
     go_wp2_with fail
     have ht2 := HTR.out
     rw [Inf.trim, if_pos ⟨by omega, H0.out⟩] at ht2
     exact ⟨⟨m, hlt, by omega, rfl, ht2, trivial⟩, by simp [intOf]⟩
    ·have ht2 := HTR.out
     rw [Inf.trim, if_neg (fun e => h0 e.2)] at ht2
     have HT2 := Lib.hid ht2
     obtain ⟨x, hx⟩ : ∃ x, x = ln.getD m 0 := ⟨_, rfl⟩
     rw [← hx] at hdm h0
     have hx0 : (0 : Int) < (x : Int) := by omega
     clear hx h0 ht2
     go_wp2_with fail
     go_meet
     case rel => exact ⟨by rw [Inf.manyOf, ← HLD.out.1, ← HT2.out] <;> first | rfl | go_num, rfl⟩
   ·have hm : m + 1 = 257 := by omega
    have ht2 := HTR.out
    rw [Inf.trim, if_neg (fun e => hlt (by omega)), hm] at ht2
    have HT2 := Lib.hid ht2
    obtain rfl : m = 256 := by omega
    clear ht2 hm hlt
    go_wp2_with fail
    go_meet
    case rel => exact ⟨by rw [Inf.manyOf, ← HLD.out.1, ← HT2.out] <;> first | rfl | go_num, rfl⟩
 obtain ⟨rfl, hwc⟩ := hcut
 subst hwc
 have HDY := Lib.hid (Inf.dyn_ok l)
 obtain ⟨many, hmany⟩ : ∃ many, many = Inf.manyOf l := ⟨_, rfl⟩
 have hm1 : 257 ≤ many ∧ many ≤ 286 := by rw [hmany]; exact (Inf.dyn_ok l).many
 rw [← hmany]
 have HMY := Lib.hid hmany
 clear hmany
 obtain ⟨hm1, hm2⟩ := hm1
 go_upto_block 2 with (fail)
 go_cut [7] (fun kv wx => kv = .int .i64 (Inf.farOf l : Nat) ∧ w10 = wx)
 case first => as_aux_lemma =>
  go_wp2_with fail
  go_loopw [7] (fun kv wr => ∃ k : Nat, 1 ≤ k ∧ k ≤ 30 ∧ kv = .int .i64 k ∧ Inf.trim dn id 1 k = Inf.trim dn id 1 30 ∧ wr = w10) (fun kv _ => (intOf kv).toNat)
  case atStart => exact ⟨30, by omega, by omega, rfl, rfl, rfl⟩
  case round =>
   obtain ⟨k, hk1, hk2, rfl, htr, rfl⟩ := hrel
   obtain ⟨m, rfl⟩ : ∃ m, k = m + 1 := ⟨k - 1, by omega⟩
   have HTR := Lib.hid htr
   clear htr
   by_cases hlt : 1 ≤ m
   ·have hdm := HDQ.out m (by omega)
    have q1 : IntKind.i64.wrap ((m : Int) + 1 - 1) = (m : Int) := by rw [IntWalk.i64_in _ (by omega)]; omega
    by_cases h0 : dn.getD m 0 = 0
    ·rw [h0] at hdm
     have H0 := Lib.hid h0
     clear h0
     go_wp2_with fail
     have ht2 := HTR.out
     rw [Inf.trim, if_pos ⟨by omega, H0.out⟩] at ht2
     exact ⟨⟨m, hlt, by omega, rfl, ht2, trivial⟩, by simp [intOf]⟩
    ·have ht2 := HTR.out
     rw [Inf.trim, if_neg (fun e => h0 e.2)] at ht2
     have HT2 := Lib.hid ht2
     obtain ⟨x, hx⟩ : ∃ x, x = dn.getD m 0 := ⟨_, rfl⟩
     rw [← hx] at hdm h0
     have hx0 : (0 : Int) < (x : Int) := by omega
     clear hx h0 ht2
     go_wp2_with fail
     go_meet
     case rel => exact ⟨by rw [Inf.farOf, ← HLD.out.2, ← HT2.out] <;> first | rfl | go_num, rfl⟩
   ·have hm : m + 1 = 1 := by omega
    have ht2 := HTR.out
    rw [Inf.trim, if_neg (fun e => hlt (by omega)), hm] at ht2
    have HT2 := Lib.hid ht2
    obtain rfl : m = 0 := by omega
    clear ht2 hm hlt
    go_wp2_with fail
    go_meet
    case rel => exact ⟨by rw [Inf.farOf, ← HLD.out.2, ← HT2.out] <;> first | rfl | go_num, rfl⟩
 obtain ⟨rfl, hwc⟩ := hcut
 subst hwc
 obtain ⟨far, hfar⟩ : ∃ far, far = Inf.farOf l := ⟨_, rfl⟩
 have hf1 : 1 ≤ far ∧ far ≤ 30 := by rw [hfar]; exact (Inf.dyn_ok l).far
 rw [← hfar]
 have HFY := Lib.hid hfar
 clear hfar
 obtain ⟨hf1, hf2⟩ := hf1
 go_upto_region 12 with (fail)
 have hLc : 286 ≤ Lc := by obtain ⟨A, c, e, hc, _⟩ := HL10.out.form; injection e with e1 e2 e3; omega
 have hQc : 30 ≤ Qc := by obtain ⟨A, c, e, hc, _⟩ := HQ10.out.form; injection e with e1 e2 e3; omega
 have hmLc : many ≤ Lc := by omega
 have hfQc : far ≤ Qc := by omega
 have hlnl : ln.length = 286 := by rw [HLD.out.1]; exact HDY.out.ll
 have hdnl : dn.length = 30 := by rw [HLD.out.2]; exact HDY.out.dl
 have HROW := Lib.hid (show Inf.runs (ln.take many ++ dn.take far) = Inf.rowOf l by rw [HLD.out.1, HLD.out.2, HMY.out, HFY.out]; rfl)
 obtain ⟨i0, hi, hz0, hz1, hz2⟩ := info_parts intInfo
 have HS1 := Lib.hid (show ∀ W, Below w10.heap.size w10 W → Src Tryz.prog 1 119 (.slice (some ⟨LB, lo, none⟩) many Lc) many (nats (ln.take many)) W from fun W hb =>
  Src.nats_ Tryz.underlying119 (by rw [List.length_take]; omega) fun j hj => by rw [hb.cell (p := ⟨LB, lo + j, none⟩) (HL10.out.lt LB rfl).2, HDL.out j (by omega), getD_take _ _ _ hj])
 have HS2 := Lib.hid (show ∀ W, Below w10.heap.size w10 W → Src Tryz.prog 1 119 (.slice (some ⟨QB, qo, none⟩) far Qc) far (nats (dn.take far)) W from fun W hb =>
  Src.nats_ Tryz.underlying119 (by rw [List.length_take]; omega) fun j hj => by rw [hb.cell (p := ⟨QB, qo + j, none⟩) (HQ10.out.lt QB rfl).2, HDQ.out j (by omega), getD_take _ _ _ hj])
 have HKS := Lib.hid (show ∀ W, Below w10.heap.size w10 W → W.cell? ⟨g, 1, none⟩ = some (.slice (some ⟨LB, lo, none⟩) 286 Lc) ∧ W.cell? ⟨g, 2, none⟩ = some (.slice (some ⟨QB, qo, none⟩) 30 Qc) from fun W hb => by
  rw [hb.cell (p := ⟨g, 1, none⟩) HWB10.out.blk.lt, hb.cell (p := ⟨g, 2, none⟩) HWB10.out.blk.lt]; exact ⟨hd1, hd2⟩)
 have M0 : RowR w10 (.slice none 0 0) 0 [] w10.drew := ⟨Own.nil _ _ _, (Below.refl _ _).drew⟩
 have HLR := Lib.hid (show (ln.take many ++ dn.take far).length ≤ 1000 by simp only [List.length_append, List.length_take]; omega)
 refine wp_region_held_drew (S := (fun w' => w'.cell? ⟨g, 1, none⟩ = some (.slice (some ⟨LB, lo, none⟩) 286 Lc) ∧ w'.cell? ⟨g, 2, none⟩ = some (.slice (some ⟨QB, qo, none⟩) 30 Qc))) (by kernel_rfl) ?_ (fun hHeld => ?_)
 ·exact ⟨hd1, hd2⟩
 refine opT 0 rfl ?_; refine opT 1 rfl ?_; refine opT 2 rfl ?_; refine opT 3 rfl ?_; refine opT 4 rfl ?_; refine opT 5 rfl ?_; refine opT 7 rfl ?_; refine opT 8 rfl ?_; refine opT 9 rfl ?_; refine opT 10 rfl ?_; refine opT 11 rfl ?_; refine opT 12 rfl ?_
 refine opD 6 rfl (fun K hK => ?_)
 (refine step_append_Own _ rfl (.const (.slice none 0 0)) (.tmp 103) 119 119 rfl w10.heap.size 3 i0 (.int .i64 0) 1 8 Tryz.underlying119 hi hz0 hz1 hz2 rfl (by decide) (.slice none 0 0) 0 (nats []) rfl M0.own (nats_one _) many (nats (ln.take many)) (HS1.out _ M0.bel) (by unfold maxLen; omega) (by omega) M0.bel.size ?_; intro vq wq hownq hgq hatq; obtain ⟨A1, c1, rfl, hc1, _⟩ := hownq.form; have M1 := M0.app hownq hgq; clear hownq hgq hatq)
 refine hK.out _ _ ?_ (fun hHeld => ?_)
 ·exact HKS.out _ M1.bel
 clear hK K
 (try simp only [Act.put, nz1, nz2, nz3, nz4, nz5, nz6])
 refine opD 13 rfl (fun K hK => ?_)
 (refine step_append_Own _ rfl (.tmp 104) (.tmp 110) 119 119 rfl w10.heap.size 3 i0 (.int .i64 0) 1 8 Tryz.underlying119 hi hz0 hz1 hz2 rfl (by decide) (.slice A1 (0 + many) c1) (0 + many) (nats ([] ++ ln.take many)) rfl M1.own (nats_one _) far (nats (dn.take far)) (HS2.out _ M1.bel) (by unfold maxLen; omega) (by omega) M1.bel.size ?_; intro vq wq hownq hgq hatq; obtain ⟨A2, c2, rfl, hc2, _⟩ := hownq.form; have M2 := M1.app hownq hgq; clear hownq hgq hatq; simp only [Nat.zero_add, List.nil_append] at M2)
 refine hK.out _ _ ?_ (fun hHeld => ?_)
 ·exact HKS.out _ M2.bel
 clear hK K
 (try simp only [Act.put, nz1, nz2, nz3, nz4, nz5, nz6])
 refine opD 14 rfl (fun K hK => ?_)
 go_simp
 (go_at_call 147; refine (runs_any _ (many + far) c2 A2 (ln.take many ++ dn.take far) _ M2.own.rd (Nat.le_refl _) HLR.out).mono ?_; rintro e w11 ⟨RA, rc, rfl, hoR, hb11⟩)
 refine hK.out _ _ ?_ (fun hHeld => ?_)
 ·exact HKS.out _ (M2.bel.trans (hb11.mono M2.bel.size))
 clear hK K
 (try simp only [Act.put, nz1, nz2, nz3, nz4, nz5, nz6])
 refine opT 15 rfl ?_
 refine wpAnyH_done (by kernel_rfl) ?_ _
 obtain ⟨rs, hrs⟩ : ∃ rs, rs = Inf.rowOf l := ⟨_, rfl⟩
 rw [HROW.out, ← hrs] at hoR
 rw [HROW.out, ← hrs]
 have HFIT := Lib.hid (Inf.row_fit l)
 rw [← hrs] at HFIT
 have HRS := Lib.hid hrs
 have HR11 := Lib.hid hoR
 have HBL11 := Lib.hid (M2.bel.trans (hb11.mono M2.bel.size))
 have hrl : rs.length ≤ 316 := HFIT.out.2
 have HNR := Lib.hid (show ∀ x, (Value.slice RA rs.length rc).ownBlock = some x → x ≠ gb from fun x hx => by have := (hoR.lt x hx).1; have := M2.bel.size; have := HWB10.out.blk.lt; omega)
 clear hrs hoR M2 M1 M0 hb11 hHeld HKS HS1 HS2 HROW HLR hd1 hd2 hlnl hdnl
 obtain ⟨Z, hZ⟩ : ∃ Z, Z = madeCells (Value.int .i64 0).cells (19 * i0.size) := ⟨_, rfl⟩
 have hmk : ∀ W : World, (Instr.makeSlice 119 (.int .i64 19) (.int .i64 19)).run Tryz.prog W = .ok (.slice (some ⟨W.heap.size, 0, none⟩) 19 19) (W.alloc (.cells Z 3)) := fun W => by
  rw [hZ]
  exact run_make (P := Tryz.prog) W 119 3 i0 _ Tryz.underlying119 hi hz0 .i64 .i64 19 19 (by decide) (by decide) (by rw [hz2]; decide) (by decide)
 have HZ := Lib.hid (show Z.toList = nats (List.replicate 19 0) from made_nats _ _ (by rw [hZ, hz1]))
 clear hZ
 obtain ⟨ug, hug⟩ : ∃ ug, ug = w11.heap.size := ⟨_, rfl⟩
 have hU0 : UseS w11 ug (useTo rs 0) (w11.alloc (.cells Z 3)) := ⟨own_made w11 Z 19 _ _ HZ.out hug (by omega) (by decide), (Below.refl _ w11).alloc (Nat.le_refl _) _⟩
 go_upto_block 4 with (fail)
 rw [← hug]
 generalize w11.alloc (.cells Z 3) = w12 at *
 have HU0 := Lib.hid hU0
 have HUG := Lib.hid hug
 clear hU0 hmk HZ hug
 go_cut [] (fun wx => UseS w11 ug (Inf.runCounts rs) wx)
 case first => as_aux_lemma =>
  go_wp2_with fail
  go_loopw [116] (fun iv wr => ∃ j : Nat, j ≤ rs.length ∧ iv = .int .i64 j ∧ UseS w11 ug (useTo rs j) wr) (fun iv _ => rs.length - (intOf iv).toNat)
  case atStart => exact ⟨0, Nat.zero_le _, rfl, HU0.out⟩
  case round =>
   clear HU0
   obtain ⟨j, hj, rfl, hU⟩ := hrel
   by_cases hlt : j < rs.length
   ·obtain ⟨ga, oa, rfl, hga⟩ := (HR11.out.rd.below hU.bel (Nat.le_refl _)).addr (by omega)
    obtain ⟨t0, t1, t2⟩ := (HR11.out.rd.below hU.bel (Nat.le_refl _)).run j hlt
    obtain ⟨f1, f2, f3⟩ := HFIT.out.1 rs[j] (List.getElem_mem hlt)
    have hss := useTo_succ rs j hlt
    obtain ⟨r, hr⟩ : ∃ r, r = rs[j] := ⟨_, rfl⟩
    rw [← hr] at t0 t1 t2 f1 f2 f3 hss
    have hU1 := hU.alloc (.cells #[.int .i64 (r.1 : Int), .int .i64 (r.2.1 : Int), .int .i64 (r.2.2 : Int)] 232)
    have hle := useTo_le rs j r.1
    obtain ⟨x, hx⟩ : ∃ x, x = (useTo rs j).getD r.1 0 := ⟨_, rfl⟩
    have hss2 : useTo rs (j + 1) = (useTo rs j).set r.1 (x + 1) := by rw [hss, hx]; rfl
    rw [← hx] at hle
    obtain ⟨ca, fa⟩ := hU1.at_ r.1 f1
    rw [← hx] at ca
    have hxw : IntKind.i64.wrap ((x : Int) + 1) = (x : Int) + 1 := IntWalk.i64_in _ (by omega)
    have hri : (r.1 : Int) < 19 := by omega
    have HSS := Lib.hid hss2
    have HU2 := Lib.hid (hU1.set_ r.1 f1 (x + 1))
    clear hss hss2 hr hx hU hU1
    go_wp2_with fail
    go_roundw
    case rel => exact ⟨j + 1, hlt, by go_num, by rw [HSS.out]; exact HU2.out⟩
    case measure => simp [intOf]; omega
   ·have hj2 : j = rs.length := by omega
    subst hj2
    have hU2 := hU
    rw [useTo_all] at hU2
    have HU2 := Lib.hid hU2
    clear hU hU2
    go_wp2_with fail
    go_meet
    case rel => exact HU2.out
 have HU12 := Lib.hid hcut
 clear HU0 hcut
 have hrcl := Inf.runCounts_length rs
 have hrcb : ∀ x ∈ Inf.runCounts rs, x ≤ 300001 := fun x hx => by
  obtain ⟨k, hk, e⟩ := List.getElem_of_mem hx
  have h1 := useTo_le rs rs.length k
  rw [useTo_all, getD_at _ _ hk, e] at h1
  omega
 have HRC := Lib.hid (And.intro hrcl hrcb)
 have hU12 : Reads wc wc.heap.size 1 (some ⟨ug, 0, none⟩) 19 (nats (Inf.runCounts rs)) := HU12.out.s.rd
 clear hrcl hrcb
 go_wp2_with fail
 refine (lengths_any wc.heap.size 19 19 7 (some ⟨ug, 0, none⟩) (Inf.runCounts rs) wc hU12 (Nat.le_refl _) (by rw [HRC.out.1]; omega) HRC.out.2 (.inl rfl) (Inf.coins_le _ 19 7 HRC.out.1 (by decide))).mono ?_
 rw [HRC.out.1]
 rintro e w13 ⟨VA, vc, rfl, hoV, hb13⟩
 have hsm : Huf.lengths (Inf.runCounts rs) 7 = Inf.smallOf l := by rw [HRS.out]; rfl
 rw [hsm] at hoV
 obtain ⟨sm, hsme⟩ : ∃ sm, sm = Inf.smallOf l := ⟨_, rfl⟩
 rw [← hsme] at hoV
 have hsml : sm.length = 19 := by rw [hsme]; exact Inf.small_length l
 have hsmg : Huf.Good sm := by rw [hsme]; exact HDY.out.gs
 have hsm8 : ∀ k, sm.getD k 0 < 8 := by rw [hsme]; exact HDY.out.s8
 have HSM := Lib.hid hsme
 have HSG := Lib.hid (And.intro hsml (And.intro hsmg hsm8))
 have HB13 := Lib.hid ((HBL11.out.trans (HU12.out.bel.mono HBL11.out.size)).trans (hb13.mono (HBL11.out.trans (HU12.out.bel.mono HBL11.out.size)).size))
 have HR13 := Lib.hid ((HR11.out.below HU12.out.bel (Nat.le_refl _)).below hb13 (Nat.le_refl _))
 have HV13 := Lib.hid hoV
 have HNV := Lib.hid (show ∀ x, (Value.slice VA 19 vc).ownBlock = some x → x ≠ gb from fun x hx => by have := (hoV.lt x hx).1; have := HU12.out.bel.size; have := HBL11.out.size; have := HWB10.out.blk.lt; omega)
 have hV13 : Reads w13 w13.heap.size 1 VA 19 (nats sm) := hoV.rd
 have HE13 := Lib.hid (HE.out.below (HWB10.out.bel.trans (HB13.out.mono HWB10.out.bel.size)))
 clear hsm hsme hsml hsmg hsm8 hoV hb13 HR11 HBL11 HU12 hU12 HRC
 go_wp2_with fail
 refine (codes_any w13.heap.size 19 vc VA sm E w13 HE13.out hV13 (Nat.le_refl _) HSG.out.2.1 (by rw [HSG.out.1]; omega)).mono ?_
 rw [HSG.out.1]
 rintro e w14 ⟨KA, kc, rfl, hoK, hb14⟩
 have HK14 := Lib.hid hoK
 have HNK := Lib.hid (show ∀ x, (Value.slice KA 19 kc).ownBlock = some x → x ≠ gb from fun x hx => by have := (hoK.lt x hx).1; have := HB13.out.size; have := HWB10.out.blk.lt; omega)
 have HV14 := Lib.hid (HV13.out.below hb14 (Nat.le_refl _))
 have HR14 := Lib.hid (HR13.out.below hb14 (Nat.le_refl _))
 have HB14 := Lib.hid (HB13.out.trans (hb14.mono HB13.out.size))
 clear hoK hb14 HV13 HR13 HB13 HE13 hV13
 have HT14 := Lib.hid (HT.out.1.below (HWB10.out.bel.trans (HB14.out.mono HWB10.out.bel.size)) HT.out.1.size)
 go_upto_block 6 with (fail)
 obtain ⟨VB, vo, rfl, hV1, hV2⟩ := HV14.out.addr (by omega)
 have hdV : ∀ k, k < 19 → w14.cell? ⟨VB, vo + k, none⟩ = some (.int .i64 (sm.getD k 0)) := fun k hk => by
  have h1 : k < sm.length := by rw [HSG.out.1]; exact hk
  rw [HV14.out.reads.2.cell rfl k (by omega), nats_at _ _ h1, getD_at _ _ h1]
 have HDV := Lib.hid hdV
 have hdO : ∀ k, k < 19 → w14.cell? ⟨10, k, none⟩ = some (.int .i64 (Inf.Order.getD k 0)) := fun k hk => by
  have h1 : k < Inf.Order.length := hk
  have h2 := HT14.out.order.cell rfl k (by omega)
  rw [Nat.zero_add] at h2
  rw [h2, nats_at _ _ h1, getD_at _ _ h1]
 have HDO := Lib.hid hdO
 clear hdV hdO hV1 hV2
 go_cut [16] (fun kv wx => kv = .int .i64 (Inf.fewOf l : Nat) ∧ w14 = wx)
 case first => as_aux_lemma =>
  go_wp2_with fail
  go_loopw [16] (fun kv wr => ∃ k : Nat, 4 ≤ k ∧ k ≤ 19 ∧ kv = .int .i64 k ∧ Inf.trim sm (fun k => Inf.Order.getD k 0) 4 k = Inf.trim sm (fun k => Inf.Order.getD k 0) 4 19 ∧ wr = w14) (fun kv _ => (intOf kv).toNat)
  case atStart => exact ⟨19, by omega, by omega, rfl, rfl, rfl⟩
  case round =>
   obtain ⟨k, hk1, hk2, rfl, htr, rfl⟩ := hrel
   obtain ⟨m, rfl⟩ : ∃ m, k = m + 1 := ⟨k - 1, by omega⟩
   have HTR := Lib.hid htr
   clear htr
   by_cases hlt : 4 ≤ m
   ·have hdo := HDO.out m (by omega)
    have hod := order_lt m
    obtain ⟨o, ho⟩ : ∃ o, o = Inf.Order.getD m 0 := ⟨_, rfl⟩
    rw [← ho] at hdo hod
    have hdm := HDV.out o hod
    have HOE := Lib.hid ho
    have hoi : (o : Int) < 19 := by omega
    have q1 : IntKind.i64.wrap ((m : Int) + 1 - 1) = (m : Int) := by rw [IntWalk.i64_in _ (by omega)]; omega
    clear ho
    by_cases h0 : sm.getD o 0 = 0
    ·rw [h0] at hdm
     have ht2 := HTR.out
     rw [Inf.trim, if_pos ⟨by omega, by show sm.getD (Inf.Order.getD m 0) 0 = 0; rw [← HOE.out]; exact h0⟩] at ht2
     have HT2 := Lib.hid ht2
     clear h0 ht2
     go_wp2_with fail
     exact ⟨⟨m, hlt, by omega, rfl, HT2.out, trivial⟩, by simp [intOf]⟩
    ·have ht2 := HTR.out
     rw [Inf.trim, if_neg (fun e => h0 (by have := e.2; rw [HOE.out]; exact this))] at ht2
     have HT2 := Lib.hid ht2
     obtain ⟨x, hx⟩ : ∃ x, x = sm.getD o 0 := ⟨_, rfl⟩
     rw [← hx] at hdm h0
     have hx0 : (0 : Int) < (x : Int) := by omega
     clear hx h0 ht2
     go_wp2_with fail
     go_meet
     case rel => exact ⟨by rw [Inf.fewOf, ← HSM.out, ← HT2.out] <;> first | rfl | go_num, rfl⟩
   ·have hm : m + 1 = 4 := by omega
    have ht2 := HTR.out
    rw [Inf.trim, if_neg (fun e => hlt (by omega)), hm] at ht2
    have HT2 := Lib.hid ht2
    obtain rfl : m = 3 := by omega
    clear ht2 hm hlt
    go_wp2_with fail
    go_meet
    case rel => exact ⟨by rw [Inf.fewOf, ← HSM.out, ← HT2.out] <;> first | rfl | go_num, rfl⟩
 obtain ⟨rfl, hwc⟩ := hcut
 subst hwc
 obtain ⟨few, hfew⟩ : ∃ few, few = Inf.fewOf l := ⟨_, rfl⟩
 have hw1 : 4 ≤ few ∧ few ≤ 19 := by rw [hfew]; exact (Inf.dyn_ok l).few
 rw [← hfew]
 have HWY := Lib.hid hfew
 clear hfew
 obtain ⟨hw1, hw2⟩ := hw1
 have hgbw : w.heap.size ≤ gb := by have := HGB.out; have := HW1.out.size; omega
 have hB10 := HB14.out.size
 have hgl14 : g < w14.heap.size := by have := HWB10.out.blk.lt; omega
 have hfar : ∀ x, x < w14.heap.size → x ≠ gb → Far w14 gb (.slice none 0 0) x := fun x h1 h2 => ⟨h1, h2, (fun e => by cases e)⟩
 have hln : ln = Inf.lensOf l := HLD.out.1
 have hdn : dn = Inf.distsOf l := HLD.out.2
 have hlnl : ln.length = 286 := by rw [hln]; exact HDY.out.ll
 have hdnl : dn.length = 30 := by rw [hdn]; exact HDY.out.dl
 have hF := HFAR.out
 have hoL := HL10.out.below HB14.out (Nat.le_refl _)
 have hoQ := HQ10.out.below HB14.out (Nat.le_refl _)
 have hoM := HM10.out.below HB14.out (Nat.le_refl _)
 have hoN := HN10.out.below HB14.out (Nat.le_refl _)
 rw [← hln] at hoL hoM
 rw [← hdn] at hoQ hoN
 have hwW := HWB10.out.bel.trans (HB14.out.mono HWB10.out.bel.size)
 have hTk : Vals w14 3 (.slice TA l.length tc) l.length (tokCells l) := HT.out.2.below hwW
 have HDS := Lib.hid (show DS w w14 g gb (.slice none 0 0) (.slice (some ⟨LB, lo, none⟩) 286 Lc) (.slice (some ⟨QB, qo, none⟩) 30 Qc) (.slice MA 286 Mc) (.slice NA 30 Nc) (.slice TA l.length tc) (.slice (some ⟨VB, vo, none⟩) 19 vc) (.slice KA 19 kc) (.slice RA rs.length rc) ln dn (codesTo ln 286) (codesTo dn 30) sm (codesTo sm 19) l rs [] from
  ⟨⟨⟨HWB10.out.blk.below HB14.out HWB10.out.blk.lt, by rw [hlnl]; exact Vals.of_own hoL, by rw [hdnl]; exact Vals.of_own hoQ, by rw [codesTo_length, hlnl]; exact Vals.of_own hoM, by rw [codesTo_length, hdnl]; exact Vals.of_own hoN,
   hfar g hgl14 (by omega), fun x hx => hfar x (hoL.lt x hx).2 (by have := (hoL.lt x hx).1; omega), fun x hx => hfar x (hoQ.lt x hx).2 (by have := (hoQ.lt x hx).1; omega), fun x hx => hfar x (hoM.lt x hx).2 (by have := (hoM.lt x hx).1; omega), fun x hx => hfar x (hoN.lt x hx).2 (by have := (hoN.lt x hx).1; omega)⟩,
   hTk, fun x hx => hfar x (by have := HTL.out x hx; have := HWB10.out.bel.size; omega) (by have := HTL.out x hx; omega), HT14.out, by have := HT.out.1.size; omega, (fun x e => by cases e)⟩,
   HWB10.out.bw.below HB14.out, hwW, ⟨Vals.of_own HV14.out, fun x hx => hfar x (HV14.out.lt x hx).2 (HNV.out x hx)⟩, ⟨Vals.of_own HK14.out, fun x hx => hfar x (HK14.out.lt x hx).2 (HNK.out x hx)⟩, ⟨Vals.of_own HR14.out, fun x hx => hfar x (HR14.out.lt x hx).2 (HNR.out x hx)⟩, hgbw⟩)
 clear HT HE HTL HCC HW1 HGB HFAR HWB10 HL10 HQ10 HM10 HN10 HDL HDQ HB14 HV14 HK14 HR14 HT14 HDV HDO HNR HNV HNK HLO HQO HMO hgbw hB10 hgl14 hfar hF hoL hoQ hoM hoN hwW hTk hz6 hz8 hz10 hLc hQc hmLc hfQc
 have c0 := HDS.out.c0
 go_wp2_with fail
 refine (put_any w.heap.size gb 215 [] (.slice none 0 0) [] 5 3 w14 HDS.out.bw (by omega) (by omega) (by simp) HDS.out.bel.size).mono ?_
 rintro e w15 ⟨rfl, hw15⟩
 obtain ⟨v15, hD15, _, _⟩ := HDS.out.wrote hw15
 have HD15 := Lib.hid hD15
 clear HDS hw15 hD15 c0
 have c0 := HD15.out.c0
 go_wp2_with fail
 rw [show (many : Int) - 257 = ((many - 257 : Nat) : Int) from by omega]
 refine (put_any w.heap.size gb 215 [] v15 ([] ++ Bit.low 5 3) (many - 257) 5 w15 HD15.out.bw (by omega) (by omega) (by simp [Bit.low_length]) HD15.out.bel.size).mono ?_
 rintro e w16 ⟨rfl, hw16⟩
 obtain ⟨v16, hD16, _, _⟩ := HD15.out.wrote hw16
 have HD16 := Lib.hid hD16
 clear HD15 hw16 hD16 c0
 have c0 := HD16.out.c0
 go_wp2_with fail
 rw [show (far : Int) - 1 = ((far - 1 : Nat) : Int) from by omega]
 refine (put_any w.heap.size gb 215 [] v16 ([] ++ Bit.low 5 3 ++ Bit.low (many - 257) 5) (far - 1) 5 w16 HD16.out.bw (by omega) (by omega) (by simp [Bit.low_length]) HD16.out.bel.size).mono ?_
 rintro e w17 ⟨rfl, hw17⟩
 obtain ⟨v17, hD17, _, _⟩ := HD16.out.wrote hw17
 have HD17 := Lib.hid hD17
 clear HD16 hw17 hD17 c0
 have c0 := HD17.out.c0
 go_wp2_with fail
 rw [show (few : Int) - 4 = ((few - 4 : Nat) : Int) from by omega]
 refine (put_any w.heap.size gb 215 [] v17 ([] ++ Bit.low 5 3 ++ Bit.low (many - 257) 5 ++ Bit.low (far - 1) 5) (few - 4) 4 w17 HD17.out.bw (by omega) (by omega) (by simp [Bit.low_length]) HD17.out.bel.size).mono ?_
 rintro e w18 ⟨rfl, hw18⟩
 obtain ⟨v18, hD18, _, _⟩ := HD17.out.wrote hw18
 have HD18 := Lib.hid hD18
 clear HD17 hw18 hD18 c0
 have c0 := HD18.out.c0
 obtain ⟨P, hP⟩ : ∃ P, P = [] ++ Bit.low 5 3 ++ Bit.low (many - 257) 5 ++ Bit.low (far - 1) 5 ++ Bit.low (few - 4) 4 := ⟨_, rfl⟩
 have hPl : P.length = 17 := by rw [hP]; simp [Bit.low_length]
 have HPE := Lib.hid hP
 have HD := Lib.hid (show DS w w18 g gb v18 (.slice (some ⟨LB, lo, none⟩) 286 Lc) (.slice (some ⟨QB, qo, none⟩) 30 Qc) (.slice MA 286 Mc) (.slice NA 30 Nc) (.slice TA l.length tc) (.slice (some ⟨VB, vo, none⟩) 19 vc) (.slice KA 19 kc) (.slice RA rs.length rc) ln dn (codesTo ln 286) (codesTo dn 30) sm (codesTo sm 19) l rs P by rw [hP]; exact HD18.out)
 clear HD18 hP c0
 have hfi : (few : Int) ≤ 19 := by omega
 go_upto_block 8 with (fail)
 have HTL := Lib.hid (HD.out.bel.size)
 go_cut [] (fun wx => ∃ v', DS w wx g gb v' (.slice (some ⟨LB, lo, none⟩) 286 Lc) (.slice (some ⟨QB, qo, none⟩) 30 Qc) (.slice MA 286 Mc) (.slice NA 30 Nc) (.slice TA l.length tc) (.slice (some ⟨VB, vo, none⟩) 19 vc) (.slice KA 19 kc) (.slice RA rs.length rc) ln dn (codesTo ln 286) (codesTo dn 30) sm (codesTo sm 19) l rs (P ++ (Inf.Order.take few).flatMap fun k => Bit.low (sm.getD k 0) 3))
 case first => as_aux_lemma =>
  go_wp2_with fail
  go_loopw [184] (fun iv wr => ∃ (i : Nat) (v' : Value), i ≤ few ∧ iv = .int .i64 i ∧ DS w wr g gb v' (.slice (some ⟨LB, lo, none⟩) 286 Lc) (.slice (some ⟨QB, qo, none⟩) 30 Qc) (.slice MA 286 Mc) (.slice NA 30 Nc) (.slice TA l.length tc) (.slice (some ⟨VB, vo, none⟩) 19 vc) (.slice KA 19 kc) (.slice RA rs.length rc) ln dn (codesTo ln 286) (codesTo dn 30) sm (codesTo sm 19) l rs (P ++ (Inf.Order.take i).flatMap fun k => Bit.low (sm.getD k 0) 3)) (fun iv _ => few - (intOf iv).toNat)
  case atStart => exact ⟨0, v18, Nat.zero_le _, rfl, by simpa using HD.out⟩
  case round =>
   clear HD
   obtain ⟨i, v', hi1, rfl, hD⟩ := hrel
   by_cases hlt : i < few
   ·have c0 := hD.c0
    have hdo := hD.tw.tab i hD.tw.tabs.order (by omega)
    have hod := order_lt i
    have hbl : (P ++ (Inf.Order.take i).flatMap fun k => Bit.low (sm.getD k 0) 3).length ≤ 1000 := by
     rw [List.length_append, hPl, low3_len, List.length_take]; omega
    have htk : (P ++ (Inf.Order.take i).flatMap fun k => Bit.low (sm.getD k 0) 3) ++ Bit.low (sm.getD (Inf.Order.getD i 0) 0) 3 = P ++ (Inf.Order.take (i + 1)).flatMap fun k => Bit.low (sm.getD k 0) 3 := by
     rw [take_snoc _ _ (show i < Inf.Order.length from by show i < 19; omega), List.flatMap_append, List.append_assoc]; simp
    obtain ⟨o, ho⟩ : ∃ o, o = Inf.Order.getD i 0 := ⟨_, rfl⟩
    rw [← ho] at hdo hod htk
    have hdm := hD.smAt o hod
    have hs8 := HSG.out.2.2 o
    obtain ⟨x, hx⟩ : ∃ x, x = sm.getD o 0 := ⟨_, rfl⟩
    rw [← hx] at hdm hs8 htk
    have hoi : (o : Int) < 19 := by omega
    have hxu : IntKind.u32.wrap (x : Int) = (x : Nat) := IntWalk.u32_in _ (by omega)
    obtain ⟨bs, hbs⟩ : ∃ bs, bs = (P ++ (Inf.Order.take i).flatMap fun k => Bit.low (sm.getD k 0) 3) := ⟨_, rfl⟩
    rw [← hbs] at hD hbl htk
    have HPUT := Lib.hid (put_any w.heap.size gb 215 [] v' bs x 3 wr.drew hD.bw.drew (by omega) (by omega) (by omega) hD.bel.size)
    have HDD := Lib.hid hD
    have HTK := Lib.hid htk
    have hif : (i : Int) < few := by omega
    have HX := Lib.hid hx
    clear hD hx ho hbs htk hs8
    go_wp2_with fail
    refine wp_region_held_drew (S := (fun w' => w'.cell? ⟨g, 0, none⟩ = some (.pointer (some ⟨gb, 0, none⟩)) ∧ w'.cell? ⟨VB, vo + o, none⟩ = some (.int .i64 (x : Int)))) (by kernel_rfl) ?_ (fun hHeld => ?_)
    ·exact ⟨c0, hdm⟩
    refine opT 0 rfl ?_; refine opT 1 rfl ?_; refine opT 2 rfl ?_; refine opT 3 rfl ?_; refine opT 4 rfl ?_; refine opT 5 rfl ?_; refine opT 6 rfl ?_; refine opT 7 rfl ?_; refine opT 8 rfl ?_
    refine opD 9 rfl (fun K hK => ?_)
    go_simp
    (go_at_call 138; refine HPUT.out.mono ?_; rintro e w2 ⟨rfl, hw2⟩; obtain ⟨v2, hD2, hk2, _⟩ := HDD.out.wrote hw2.undrew)
    refine hK.out _ _ ?_ (fun hHeld => ?_)
    ·exact ⟨hD2.c0, by rw [HX.out]; exact hD2.smAt o hod⟩
    clear hK K
    (try simp only [Act.put, nz1, nz2, nz3, nz4, nz5, nz6])
    refine wpAnyH_done (by kernel_rfl) ?_ _
    have HD2 := Lib.hid hD2
    clear hw2 hD2 hk2 HPUT HDD c0 hdo hdm hHeld
    go_wp2_with fail
    exact ⟨⟨i + 1, v2, hlt, by go_num, by rw [← HTK.out]; exact HD2.out⟩, by simp [intOf]; omega⟩
   ·have hi2 : i = few := by omega
    have HD2 := Lib.hid hD
    clear hD
    subst hi2
    go_wp2_with fail
    go_meet
    case rel => exact ⟨v', HD2.out⟩
 obtain ⟨v2, hD2⟩ := hcut
 obtain ⟨P2, hP2⟩ : ∃ P2, P2 = P ++ (Inf.Order.take few).flatMap fun k => Bit.low (sm.getD k 0) 3 := ⟨_, rfl⟩
 have hP2l : P2.length ≤ 1000 := by rw [hP2, List.length_append, hPl, low3_len, List.length_take]; omega
 rw [← hP2] at hD2
 have HP2 := Lib.hid (And.intro HPE.out hP2)
 have HD2 := Lib.hid hD2
 clear HD hP2 hD2 hPl HPE
 go_upto_block 10 with (fail)
 go_cut [] (fun wx => ∃ v', DS w wx g gb v' (.slice (some ⟨LB, lo, none⟩) 286 Lc) (.slice (some ⟨QB, qo, none⟩) 30 Qc) (.slice MA 286 Mc) (.slice NA 30 Nc) (.slice TA l.length tc) (.slice (some ⟨VB, vo, none⟩) 19 vc) (.slice KA 19 kc) (.slice RA rs.length rc) ln dn (codesTo ln 286) (codesTo dn 30) sm (codesTo sm 19) l rs (P2 ++ Inf.runsBits sm rs))
 case first => as_aux_lemma =>
  go_wp2_with fail
  go_loopw [201] (fun iv wr => ∃ (j : Nat) (v' : Value), j ≤ rs.length ∧ iv = .int .i64 j ∧ DS w wr g gb v' (.slice (some ⟨LB, lo, none⟩) 286 Lc) (.slice (some ⟨QB, qo, none⟩) 30 Qc) (.slice MA 286 Mc) (.slice NA 30 Nc) (.slice TA l.length tc) (.slice (some ⟨VB, vo, none⟩) 19 vc) (.slice KA 19 kc) (.slice RA rs.length rc) ln dn (codesTo ln 286) (codesTo dn 30) sm (codesTo sm 19) l rs (P2 ++ Inf.runsBits sm (rs.take j))) (fun iv _ => rs.length - (intOf iv).toNat)
  case atStart => exact ⟨0, v2, Nat.zero_le _, rfl, by simpa [Inf.runsBits] using HD2.out⟩
  case round =>
   clear HD2
   obtain ⟨j, v', hj, rfl, hD⟩ := hrel
   by_cases hlt : j < rs.length
   ·obtain ⟨A1, c1', e1, hr1⟩ := hD.r.val
    obtain ⟨RB, ro, e2, hR1⟩ := hr1.addr (by omega)
    obtain rfl : RA = some ⟨RB, ro, none⟩ := by rw [← e2]; injection e1
    obtain ⟨A3, c3', e3, hr3⟩ := hD.k.val
    obtain ⟨KB, ko, e4, hK1⟩ := hr3.addr (by omega)
    obtain rfl : KA = some ⟨KB, ko, none⟩ := by rw [← e4]; injection e3
    clear e1 hr1 e2 hR1 e3 hr3 e4 hK1
    obtain ⟨t0, t1, t2⟩ := hD.rAt j hlt
    obtain ⟨f1, f2, f3⟩ := HFIT.out.1 rs[j] (List.getElem_mem hlt)
    have hbl := runs_len sm HSG.out.2.2 (rs.take j) (fun r hr => (HFIT.out.1 r (List.mem_of_mem_take hr)).2.2)
    have htk : P2 ++ Inf.runsBits sm (rs.take j) ++ Huf.high ((codesTo sm 19).getD (rs[j]).1 0) (sm.getD (rs[j]).1 0) ++ Bit.low (rs[j]).2.1 (rs[j]).2.2 = P2 ++ Inf.runsBits sm (rs.take (j + 1)) := by
     have hw := wordOf_codes sm (rs[j]).1
     rw [HSG.out.1] at hw
     unfold wordOf at hw
     rw [hw, List.take_succ_eq_append_getElem hlt, Inf.runsBits_append]
     simp [Inf.runsBits, Inf.runBits]
    have hck := codes_ok HSG.out.2.1 (rs[j]).1
    rw [HSG.out.1] at hck
    obtain ⟨r, hr⟩ : ∃ r, r = rs[j] := ⟨_, rfl⟩
    rw [← hr] at t0 t1 t2 f1 f2 f3 htk hck
    rw [List.length_take] at hbl
    have hB1 := Blk.new wr 232 #[.int .i64 (r.1 : Int), .int .i64 (r.2.1 : Int), .int .i64 (r.2.2 : Int)] rfl
    have hD1 := hD.below ((Below.refl wr.heap.size wr).alloc (Nat.le_refl _) (.cells #[.int .i64 (r.1 : Int), .int .i64 (r.2.1 : Int), .int .i64 (r.2.2 : Int)] 232))
    have hgn : wr.heap.size ≠ gb := by have := hD.bw.blk.lt; omega
    have hvn : v'.ownBlock ≠ some wr.heap.size := fun e => by have := (hD.bw.own.lt _ e).2; omega
    have HB1 := Lib.hid hB1
    have HD1 := Lib.hid hD1
    have HN1 := Lib.hid (And.intro hgn hvn)
    clear hB1 hD1 hgn hvn hD hr
    go_upto_region 36 with (fail)
    obtain ⟨tg, htg⟩ : ∃ tg, tg = wr.heap.size := ⟨_, rfl⟩
    rw [← htg] at HB1 HN1
    rw [← htg]
    clear htg t0 t1 t2
    generalize wr.alloc (.cells #[.int .i64 (r.1 : Int), .int .i64 (r.2.1 : Int), .int .i64 (r.2.2 : Int)] 232) = W1 at *
    have c0 := HD1.out.c0
    have hk := HD1.out.kcAt r.1 f1
    have hs := HD1.out.smAt r.1 f1
    have r0 : W1.cell? ⟨tg, 0, none⟩ = some (.int .i64 (r.1 : Int)) := by rw [HB1.out.cell]; rfl
    obtain ⟨code, hcode⟩ : ∃ code, code = (codesTo sm 19).getD r.1 0 := ⟨_, rfl⟩
    obtain ⟨len, hlen⟩ : ∃ len, len = sm.getD r.1 0 := ⟨_, rfl⟩
    rw [← hcode] at hk htk hck
    rw [← hlen] at hs htk hck
    have hri : (r.1 : Int) < 19 := by omega
    obtain ⟨bs, hbs⟩ : ∃ bs, bs = P2 ++ Inf.runsBits sm (rs.take j) := ⟨_, rfl⟩
    have hbl2 : bs.length ≤ 100000 := by rw [hbs, List.length_append]; omega
    rw [← hbs] at HD1 htk
    have hpt := turned_any w.heap.size gb 215 [] v' bs code len W1.drew HD1.out.bw.drew (by omega) hck.2 (by omega) HD1.out.bel.size
    have HPUT := Lib.hid hpt
    have HCO := Lib.hid (And.intro hcode hlen)
    have HTK := Lib.hid htk
    have HFI := Lib.hid (And.intro f2 f3)
    have h15 : len ≤ 15 := hck.1
    clear hcode hlen hbs hpt htk hck hbl f2
    refine wp_region_held_drew (S := (fun w' => w'.cell? ⟨g, 0, none⟩ = some (.pointer (some ⟨gb, 0, none⟩)) ∧ w'.cell? ⟨KB, ko + r.1, none⟩ = some (.int .u32 (code : Int)) ∧ w'.cell? ⟨VB, vo + r.1, none⟩ = some (.int .i64 (len : Int)) ∧ w'.cell? ⟨tg, 0, none⟩ = some (.int .i64 (r.1 : Int)))) (by kernel_rfl) ?_ (fun hHeld => ?_)
    ·exact ⟨c0, hk, hs, r0⟩
    refine opT 0 rfl ?_; refine opT 1 rfl ?_; refine opT 2 rfl ?_; refine opT 3 rfl ?_; refine opT 4 rfl ?_; refine opT 5 rfl ?_; refine opT 6 rfl ?_; refine opT 7 rfl ?_; refine opT 8 rfl ?_; refine opT 9 rfl ?_; refine opT 10 rfl ?_; refine opT 11 rfl ?_; refine opT 12 rfl ?_; refine opT 13 rfl ?_
    refine opD 14 rfl (fun K hK => ?_)
    go_simp
    (go_at_call 148; refine HPUT.out.mono ?_; rintro e w2 ⟨rfl, hw2⟩; obtain ⟨v2, hD2, hk2, hf2⟩ := HD1.out.wrote hw2.undrew)
    refine hK.out _ _ ?_ (fun hHeld => ?_)
    ·exact ⟨hD2.c0, by rw [HCO.out.1]; exact hD2.kcAt r.1 f1, by rw [HCO.out.2]; exact hD2.smAt r.1 f1, by rw [(HB1.out.keeps hk2 (fun e => e.elim HN1.out.1 HN1.out.2)).cell]; rfl⟩
    clear hK K
    (try simp only [Act.put, nz1, nz2, nz3, nz4, nz5, nz6])
    refine wpAnyH_done (by kernel_rfl) ?_ _
    have hB2 := HB1.out.keeps hk2 (fun e => e.elim HN1.out.1 HN1.out.2)
    have HD2 := Lib.hid hD2
    have HB2 := Lib.hid (And.intro hB2 (And.intro HN1.out.1 (show v2.ownBlock ≠ some tg from fun e => (hf2 tg e).elim HN1.out.2 (fun h => by have := HB1.out.lt; omega))))
    have c02 := hD2.c0
    have r1 : w2.cell? ⟨tg, 1, none⟩ = some (.int .i64 (r.2.1 : Int)) := by rw [hB2.cell]; rfl
    have r2 : w2.cell? ⟨tg, 2, none⟩ = some (.int .i64 (r.2.2 : Int)) := by rw [hB2.cell]; rfl
    have h128 : r.2.1 < 128 := Nat.lt_of_lt_of_le HFI.out.1 (Nat.pow_le_pow_right (by decide) HFI.out.2)
    have hru : IntKind.u32.wrap (r.2.1 : Int) = (r.2.1 : Nat) := IntWalk.u32_in _ (by omega)
    have hpt := put_any w.heap.size gb 215 [] v2 (bs ++ Huf.high code len) r.2.1 r.2.2 w2.drew hD2.bw.drew (by omega) HFI.out.1 (by rw [List.length_append, Huf.high_length]; omega) hD2.bel.size
    have HPUT2 := Lib.hid hpt
    clear hw2 hD2 hk2 hB2 HB1 HN1 hpt HPUT HD1 c0 hk hs r0 hHeld
    go_wp2_with fail
    refine wp_region_held_drew (S := (fun w' => w'.cell? ⟨g, 0, none⟩ = some (.pointer (some ⟨gb, 0, none⟩)) ∧ w'.cell? ⟨tg, 1, none⟩ = some (.int .i64 (r.2.1 : Int)) ∧ w'.cell? ⟨tg, 2, none⟩ = some (.int .i64 (r.2.2 : Int)))) (by kernel_rfl) ?_ (fun hHeld => ?_)
    ·exact ⟨c02, r1, r2⟩
    refine opT 0 rfl ?_; refine opT 1 rfl ?_; refine opT 2 rfl ?_; refine opT 3 rfl ?_; refine opT 4 rfl ?_; refine opT 5 rfl ?_; refine opT 6 rfl ?_; refine opT 7 rfl ?_; refine opT 8 rfl ?_
    refine opD 9 rfl (fun K hK => ?_)
    go_simp
    (go_at_call 138; refine HPUT2.out.mono ?_; rintro e w3 ⟨rfl, hw3⟩; obtain ⟨v3, hD3, hk3, _⟩ := HD2.out.wrote hw3.undrew)
    refine hK.out _ _ ?_ (fun hHeld => ?_)
    ·exact ⟨hD3.c0, by rw [(HB2.out.1.keeps hk3 (fun e => e.elim HB2.out.2.1 HB2.out.2.2)).cell]; rfl, by rw [(HB2.out.1.keeps hk3 (fun e => e.elim HB2.out.2.1 HB2.out.2.2)).cell]; rfl⟩
    clear hK K
    (try simp only [Act.put, nz1, nz2, nz3, nz4, nz5, nz6])
    refine wpAnyH_done (by kernel_rfl) ?_ _
    have HD3 := Lib.hid hD3
    clear hw3 hD3 HPUT2 HD2 c02 r1 r2 hHeld hk3 HB2
    go_wp2_with fail
    exact ⟨⟨j + 1, v3, hlt, by go_num, by rw [← HTK.out]; exact HD3.out⟩, by simp [intOf]; omega⟩
   ·have hj2 : j = rs.length := by omega
    subst hj2
    rw [List.take_length] at hD
    have HD2 := Lib.hid hD
    clear hD
    go_wp2_with fail
    go_meet
    case rel => exact ⟨v', HD2.out⟩
 obtain ⟨v3, hD3⟩ := hcut
 obtain ⟨P3, hP3⟩ : ∃ P3, P3 = P2 ++ Inf.runsBits sm rs := ⟨_, rfl⟩
 have hP3l : P3.length ≤ 100000 := by
  have := runs_len sm HSG.out.2.2 rs fun r hr => (HFIT.out.1 r hr).2.2
  rw [hP3, List.length_append]; omega
 rw [← hP3] at hD3
 have HP3 := Lib.hid (And.intro HP2.out hP3)
 have HD3 := Lib.hid hD3
 clear HD2 HP2 hP3 hD3 hP2l
 have HLN := Lib.hid (And.intro (And.intro hln hdn) (And.intro hlnl hdnl))
 clear hln hdn hlnl hdnl
 go_wp2_with fail
 refine (wtokens_any w.heap.size g gb v3 (.slice (some ⟨LB, lo, none⟩) 286 Lc) (.slice (some ⟨QB, qo, none⟩) 30 Qc) (.slice MA 286 Mc) (.slice NA 30 Nc) (.slice TA l.length tc) ln dn (codesTo ln 286) (codesTo dn 30) l P3 wc HD3.out.tw HD3.out.bw (by rw [HLN.out.2.1]; omega) (by rw [HLN.out.2.2]; omega) (codesTo_length _ _) (codesTo_length _ _) (by have h := codes_ok (Inf.lens_good l); rw [← HLN.out.1.1, HLN.out.2.1] at h; exact h) (by have h := codes_ok (Inf.dists_good l); rw [← HLN.out.1.2, HLN.out.2.2] at h; exact h) HP.out (by omega) HD3.out.bel.size).mono ?_
 rintro e w4 ⟨rfl, hw4⟩
 obtain ⟨v4, hD4, _, _⟩ := HD3.out.wrote hw4
 have hbits : P3 ++ Inf.toksBits (wordOf (codesTo ln 286) ln) (wordOf (codesTo dn 30) dn) l = Inf.dynBits l := by
  have e1 : Inf.toksBits (wordOf (codesTo ln 286) ln) (wordOf (codesTo dn 30) dn) l = Inf.toksBits (Huf.word ln) (Huf.word dn) l :=
   toksBits_congr (fun k _ => by have := wordOf_codes ln k; rw [HLN.out.2.1] at this; exact this) (fun k _ => by have := wordOf_codes dn k; rw [HLN.out.2.2] at this; exact this) l HP.out
  rw [e1, HP3.out.2, HP3.out.1.2, HP3.out.1.1, HMY.out, HFY.out, HWY.out, HSM.out, HRS.out, HLN.out.1.1, HLN.out.1.2, List.nil_append]
  rfl
 rw [hbits] at hD4
 have c0 := hD4.c0
 have HD4 := Lib.hid hD4
 clear hbits hD4 HD3 hw4
 go_wp2_with fail
 refine (wtext_any w.heap.size gb 215 [] v4 (Inf.dynBits l) _ HD4.out.bw).mono ?_
 rintro e w9 ⟨rfl, rfl⟩
 go_wp2_with fail
 go_ret
 exact ⟨rfl, HD4.out.bel⟩
end Go.Proofs.YtkegkelaffohjaaGreatDoor
