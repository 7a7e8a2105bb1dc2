/- deflate.writer.tokens: the walk. Printed by mkdeftok.py. -/
import Derived.Test.YtkegkelaffohjaaGreatDoorQCFilmTwiceTokMem
import Derived.Deep.RegionLaw
namespace Go.Proofs.YtkegkelaffohjaaGreatDoor
open Go Go.RowKit
theorem Keeps.cell_ {S : Nat → Prop} {a w : World} (k : Keeps S a w) {p : Addr} {u : Value} (hp : ¬ S p.block) (h : a.cell? p = some u) : w.cell? p = some u :=
 (World.cell?_of_block (k.block _ (cell_lt h) hp)).trans h
theorem Tabs.size {w : World} (h : Tabs w) : 15 ≤ w.heap.size := by
 have h1 : w.cell? ⟨14, 0 + 0, none⟩ = some (.int .i64 0) := h.distBits.cell rfl 0 (by decide)
 have h2 : 14 < w.heap.size := cell_lt h1
 have h3 : w.cell? ⟨10, 0 + 0, none⟩ = some (.int .i64 16) := h.order.cell rfl 0 (by decide)
 have h4 : 10 < w.heap.size := cell_lt h3
 omega
structure TW (w : World) (g gb : Nat) (v L D LC DC TV : Value) (ln dn lc dc : List Nat) (l : List Mat.Tok) : Prop where
 wri : Wri w g gb v L D LC DC ln dn lc dc
 tok : Vals w 3 TV l.length (tokCells l)
 far : ∀ x, TV.ownBlock = some x → Far w gb v x
 tabs : Tabs w
 gb_ : 15 ≤ gb
 v_ : ∀ x, v.ownBlock = some x → 15 ≤ x
section
variable {w w' : World} {g gb : Nat} {v v' L D LC DC TV : Value} {ln dn lc dc : List Nat} {l : List Mat.Tok}
theorem TW.off (h : TW w g gb v L D LC DC TV ln dn lc dc l) (x : Nat) (hx : x < 15) : ¬ (x = gb ∨ v.ownBlock = some x) := fun e => by
 rcases e with e | e
 ·have := h.gb_; omega
 ·have := h.v_ x e; omega
theorem TW.on (h : TW w g gb v L D LC DC TV ln dn lc dc l) (hf : Fresh w v v') (k : Keeps (fun x => x = gb ∨ v.ownBlock = some x) w w') : TW w' g gb v' L D LC DC TV ln dn lc dc l :=
 ⟨h.wri.on hf k, h.tok.keeps k fun x hx => (h.far x hx).off, fun x hx => (h.far x hx).on k.size hf, h.tabs.keeps k h.tabs.size h.off, h.gb_, fun x hx => by
  rcases hf x hx with e | e
  ·exact h.v_ x e
  ·exact Nat.le_trans h.tabs.size e⟩
theorem TW.wrote {B : Nat} {bs : List Bool} (h : TW w g gb v L D LC DC TV ln dn lc dc l) (hw : Wrote w B gb 215 [] v bs w') : ∃ v1, TW w' g gb v1 L D LC DC TV ln dn lc dc l ∧ BW w' B gb 215 [] v1 bs ∧ Fresh w v v1 ∧ Keeps (fun x => x = gb ∨ v.ownBlock = some x) w w' := by
 obtain ⟨v1, h1, h2, h3⟩ := hw
 exact ⟨v1, h.on h2 h3, h1, h2, h3⟩
theorem TW.tab (_h : TW w g gb v L D LC DC TV ln dn lc dc l) (k : Nat) {r : List Nat} {m x : Nat} (hr : Reads w 15 1 (some ⟨x, 0, none⟩) m (nats r)) (hk : k < m) : w.cell? ⟨x, k, none⟩ = some (.int .i64 (r.getD k 0)) := by
 have hm := hr.1
 rw [nats_length] at hm
 have h1 := hr.cell rfl k (by omega)
 rw [nats_at _ _ (by omega), ← getD_at _ _ (by omega), Nat.zero_add] at h1
 exact h1
end
theorem wordOf_le {lc ln : List Nat} (h : CodesOK lc ln) (k : Nat) : (wordOf lc ln k).length ≤ 15 := by
 unfold wordOf
 rw [Huf.high_length]
 exact (h k).1
theorem Vals.cellAt {w : World} {g off n c : Nat} {xs : List Value} (h : Vals w 1 (.slice (some ⟨g, off, none⟩) n c) n xs) (k : Nat) (hk : k < n) : w.cell? ⟨g, off + k, none⟩ = xs[k]? := by
 obtain ⟨A, c2, e, hr⟩ := h
 injection e with e1 _ e3
 subst e1 e3
 exact hr.cell rfl k (by omega)
structure TS (w : World) (B g gb tg : Nat) (v L D LC DC TV : Value) (ln dn lc dc : List Nat) (l : List Mat.Tok) (t : Mat.Tok) (w' : World) (v' : Value) (X : List Bool) : Prop where
 tw : TW w' g gb v' L D LC DC TV ln dn lc dc l
 bw : BW w' B gb 215 [] v' X
 tk : Blk w' tg 193 #[.int .u8 t.b.toNat, .int .i64 t.n, .int .i64 t.d]
 far : Far w' gb v' tg
 fr : Fresh w v v'
 kp : Keeps (fun x => x = gb ∨ v.ownBlock = some x) w w'
section
variable {w w' w2 : World} {B g gb tg : Nat} {v v' L D LC DC TV : Value} {ln dn lc dc : List Nat} {l : List Mat.Tok} {t : Mat.Tok} {X Y : List Bool}
theorem TS.step (h : TS w B g gb tg v L D LC DC TV ln dn lc dc l t w' v' X) (hgb : gb < w.heap.size) (hw : Wrote w' B gb 215 [] v' Y w2) : ∃ v2, TS w B g gb tg v L D LC DC TV ln dn lc dc l t w2 v2 Y := by
 have hall := Wrote.trans hgb h.fr h.kp hw
 obtain ⟨v2, h1, h2, h3⟩ := hw
 refine ⟨v2, h.tw.on h2 h3, h1, h.tk.keeps h3 h.far.off, h.far.on h3.size h2, fun x hx => ?_, ?_⟩
 ·rcases h2 x hx with e | e
  ·exact h.fr x e
  ·exact .inr (Nat.le_trans h.kp.size e)
 ·obtain ⟨_, _, _, k⟩ := hall
  exact k
theorem TS.drew (h : TS w B g gb tg v L D LC DC TV ln dn lc dc l t w' v' X) : TS w B g gb tg v L D LC DC TV ln dn lc dc l t w'.drew v' X :=
 ⟨h.tw.on (Fresh.refl _ _) (Keeps.refl _ w').drew, h.bw.drew, h.tk.drew, h.far.on (Nat.le_refl _) (Fresh.refl _ _), h.fr, h.kp.drew⟩
theorem TS.wrote (h : TS w B g gb tg v L D LC DC TV ln dn lc dc l t w' v' X) : Wrote w B gb 215 [] v X w' := ⟨v', h.bw, h.fr, h.kp⟩
theorem TS.size (h : TS w B g gb tg v L D LC DC TV ln dn lc dc l t w' v' X) : w.heap.size ≤ w'.heap.size := h.kp.size
theorem TS.cG (h : TS w B g gb tg v L D LC DC TV ln dn lc dc l t w' v' X) : w'.cell? ⟨g, 0, none⟩ = some (.pointer (some ⟨gb, 0, none⟩)) := by rw [h.tw.wri.blk.cell]; rfl
theorem TS.cgD (h : TS w B g gb tg v L D LC DC TV ln dn lc dc l t w' v' X) : w'.cell? ⟨g, 2, none⟩ = some D := by rw [h.tw.wri.blk.cell]; rfl
theorem TS.cgDC (h : TS w B g gb tg v L D LC DC TV ln dn lc dc l t w' v' X) : w'.cell? ⟨g, 4, none⟩ = some DC := by rw [h.tw.wri.blk.cell]; rfl
theorem TS.cN (h : TS w B g gb tg v L D LC DC TV ln dn lc dc l t w' v' X) : w'.cell? ⟨tg, 1, none⟩ = some (.int .i64 t.n) := by rw [h.tk.cell]; rfl
theorem TS.cT (h : TS w B g gb tg v L D LC DC TV ln dn lc dc l t w' v' X) : w'.cell? ⟨tg, 2, none⟩ = some (.int .i64 t.d) := by rw [h.tk.cell]; rfl
theorem TS.tab (h : TS w B g gb tg v L D LC DC TV ln dn lc dc l t w' v' X) (k : Nat) {r : List Nat} {m x z : Nat} (hr : Reads w' 15 1 (some ⟨x, 0, none⟩) m (nats r)) (hk : k < m) (hz : z = r.getD k 0) : w'.cell? ⟨x, k, none⟩ = some (.int .i64 z) := by
 rw [hz]
 exact h.tw.tab k hr hk
end
set_option maxRecDepth 100000 in
set_option maxHeartbeats 4000000 in
theorem wtokens_any (B g gb : Nat) (v L D LC DC TV : Value) (ln dn lc dc : List Nat) (l : List Mat.Tok) (bs : List Bool) (w : World) (hT : TW w g gb v L D LC DC TV ln dn lc dc l) (hw : BW w B gb 215 [] v bs)
  (hl : 286 ≤ ln.length) (hd : 30 ≤ dn.length) (hlc : lc.length = ln.length) (hdc : dc.length = dn.length) (oL : CodesOK lc ln) (oD : CodesOK dc dn) (hp : ∀ t ∈ l, Mat.Plain t) (hlen : bs.length + 48 * (l.length + 1) ≤ 549755813888) (hB : B ≤ w.heap.size) :
  Calls Tryz.prog 144 #[.pointer (some ⟨g, 0, none⟩), TV] w fun e w' => e = .returned (.tuple #[]) ∧ Wrote w B gb 215 [] v (bs ++ Inf.toksBits (wordOf lc ln) (wordOf dc dn) l) w' := by
 obtain ⟨A, c, rfl, hr⟩ := hT.tok
 have gbl := hw.blk.lt
 obtain ⟨tb, htb⟩ : ∃ tb, tb = Inf.tokBits (wordOf lc ln) (wordOf dc dn) := ⟨_, rfl⟩
 have htbs : Inf.toksBits (wordOf lc ln) (wordOf dc dn) l = l.flatMap tb ++ wordOf lc ln 256 := by rw [htb]; rfl
 rw [htbs]
 have hbits : ∀ j, ((l.take j).flatMap tb).length ≤ 48 * l.length := fun j => by
  rw [htb]
  refine Nat.le_trans (Inf.toksBits_le _ _ (wordOf_le oL) (wordOf_le oD) _) ?_
  rw [List.length_take]
  omega
 have HBITS := Lib.hid hbits
 have HTB := Lib.hid htb
 have HP := Lib.hid hp
 clear hbits htb hp htbs hr
 have H0 := Lib.hid (show Wrote w B gb 215 [] v (bs ++ (l.take 0).flatMap tb) w from ⟨v, by simpa using hw, Fresh.refl _ _, Keeps.refl _ _⟩)
 clear hw
 go_enter Tryz.func144, Tryz.ntmps144
 go_wp2_with fail
 go_loopw [10] (fun i wr => ∃ j : Nat, j ≤ l.length ∧ i = .int .i64 j ∧ Wrote w B gb 215 [] v (bs ++ (l.take j).flatMap tb) wr) (fun i _ => l.length - (intOf i).toNat)
 case atStart => exact ⟨0, Nat.zero_le _, rfl, H0.out⟩
 case round =>
  clear H0
  obtain ⟨j, hj, rfl, hwj⟩ := hrel
  have hbl := HBITS.out j
  obtain ⟨X, hX⟩ : ∃ X, X = bs ++ (l.take j).flatMap tb := ⟨_, rfl⟩
  rw [← hX] at hwj
  have hXl : X.length + 48 ≤ 549755813888 := by rw [hX, List.length_append]; omega
  have HX := Lib.hid hX
  clear hX hbl
  by_cases hlt : j < l.length
  ·as_aux_lemma =>
   obtain ⟨v0, hT0, hb0, hf0, hk0⟩ := hT.wrote hwj
   obtain ⟨A2, c2, e2, hr⟩ := hT0.tok
   injection e2 with e2 _ e3
   subst e2 e3
   obtain ⟨ga, oa, rfl, hga⟩ := hr.addr (by omega)
   obtain ⟨t0, t1, t2⟩ := hr.tok j hlt
   have hpt := HP.out l[j] (List.getElem_mem hlt)
   have hst : (l.take (j + 1)).flatMap tb = (l.take j).flatMap tb ++ tb l[j] := by rw [List.take_succ_eq_append_getElem hlt, List.flatMap_append, List.flatMap_cons, List.flatMap_nil, List.append_nil]
   have HST := Lib.hid hst
   clear hst hr HP
   obtain ⟨t, ht⟩ : ∃ t, t = l[j] := ⟨_, rfl⟩
   rw [← ht] at t0 t1 t2 hpt
   rw [← ht] at HST
   clear ht
   obtain ⟨tg, htg⟩ : ∃ tg, tg = wr.heap.size := ⟨_, rfl⟩
   have htl : gb < tg := by have := hk0.size; omega
   have hS0 : TS w B g gb tg v L D LC DC (.slice (some ⟨ga, oa, none⟩) l.length c) ln dn lc dc l t (wr.alloc (.cells #[.int .u8 t.b.toNat, .int .i64 t.n, .int .i64 t.d] 193)) v0 X :=
    ⟨hT0.on (Fresh.refl _ _) ((Keeps.refl _ wr).alloc _), ⟨hb0.blk.alloc _, hb0.own.alloc _, hb0.ne⟩, Blk.new wr _ _ htg, ⟨by rw [htg]; simp, by omega, fun e => by have := (hb0.own.lt _ e).2; omega⟩, hf0, hk0.alloc _⟩
   have HS0 := Lib.hid hS0
   clear hS0 hT0 hb0 hf0 hk0 hwj
   rcases hpt with hn0 | ⟨p1, p2, p3, p4⟩
   ·as_aux_lemma =>
    have htb0 : tb t = wordOf lc ln t.b.toNat := by rw [HTB.out]; unfold Inf.tokBits; rw [if_pos hn0]
    have HT0 := Lib.hid htb0
    have hz : ((t.n : Int) == 0) = true := by rw [hn0]; rfl
    have hb256 := t.b.toNat_lt
    have hbw : IntKind.i64.wrap (t.b.toNat : Int) = t.b.toNat := IntWalk.i64_in _ (by omega)
    clear htb0 hn0
    go_wp2_with fail
    rw [← htg]
    generalize wr.alloc (.cells #[.int .u8 t.b.toNat, .int .i64 t.n, .int .i64 t.d] 193) = w2 at *
    clear t0 t1 t2
    refine (symbol_any B g gb t.b.toNat v0 L D LC DC ln dn lc dc X w2 HS0.out.tw.wri HS0.out.bw (by omega) (by omega) (oL _).1 (oL _).2 (by omega) (by have := HS0.out.size; omega)).mono ?_
    rintro e w3 ⟨rfl, hw3⟩
    have hw4 := Wrote.trans gbl HS0.out.fr HS0.out.kp hw3
    clear hw3 HS0
    go_wp2
    go_roundw
    case rel => exact ⟨j + 1, hlt, by go_num, by rw [HST.out, HT0.out, ← List.append_assoc, ← HX.out]; exact hw4⟩
    case measure => simp [intOf]; omega
   ·as_aux_lemma =>
    obtain ⟨gd, od, cd, rfl, _⟩ := HS0.out.tw.wri.d.at 0 (by omega)
    obtain ⟨gc, oc, cc, rfl, _⟩ := HS0.out.tw.wri.dc.at 0 (by omega)
    obtain ⟨l1, l2, l3⟩ := Inf.len_place t.n p1 p2
    obtain ⟨d1, d2, d3⟩ := Inf.dist_place t.d p3 p4
    have hlb := Inf.lenBits_le (Inf.lenAt t.n)
    have hdb := Inf.distBits_le (Inf.distAt t.d)
    have htb1 : tb t = wordOf lc ln (257 + Inf.lenAt t.n) ++ Bit.low (t.n - Inf.Lens.getD (Inf.lenAt t.n) 0) (Inf.LenBits.getD (Inf.lenAt t.n) 0) ++ wordOf dc dn (Inf.distAt t.d) ++ Bit.low (t.d - Inf.Dists.getD (Inf.distAt t.d) 0) (Inf.DistBits.getD (Inf.distAt t.d) 0) := by rw [HTB.out]; unfold Inf.tokBits; rw [if_neg (by omega)]
    have hpl : Inf.place Inf.Lens t.n (Inf.Lens.length - 1) = Inf.lenAt t.n := rfl
    have hpd : Inf.place Inf.Dists t.d (Inf.Dists.length - 1) = Inf.distAt t.d := rfl
    obtain ⟨K, hK⟩ : ∃ K, K = Inf.lenAt t.n := ⟨_, rfl⟩
    obtain ⟨Q, hQ⟩ : ∃ Q, Q = Inf.distAt t.d := ⟨_, rfl⟩
    rw [← hK] at l1 l2 l3 hlb htb1 hpl
    rw [← hQ] at d1 d2 d3 hdb htb1 hpd
    obtain ⟨LK, hLK⟩ : ∃ LK, LK = Inf.Lens.getD K 0 := ⟨_, rfl⟩
    obtain ⟨LB, hLB⟩ : ∃ LB, LB = Inf.LenBits.getD K 0 := ⟨_, rfl⟩
    obtain ⟨DK, hDK⟩ : ∃ DK, DK = Inf.Dists.getD Q 0 := ⟨_, rfl⟩
    obtain ⟨DB, hDB⟩ : ∃ DB, DB = Inf.DistBits.getD Q 0 := ⟨_, rfl⟩
    rw [← hLK] at l2 l3 htb1
    rw [← hLB] at l3 hlb htb1
    rw [← hDK] at d2 d3 htb1
    rw [← hDB] at d3 hdb htb1
    obtain ⟨x, hx⟩ : ∃ x, x = t.n - LK := ⟨_, rfl⟩
    obtain ⟨y, hy⟩ : ∃ y, y = t.d - DK := ⟨_, rfl⟩
    rw [← hx] at l3 htb1
    rw [← hy] at d3 htb1
    obtain ⟨K2, hK2⟩ : ∃ K2, K2 = 257 + K := ⟨_, rfl⟩
    rw [← hK2] at htb1
    obtain ⟨nd, hnd⟩ : ∃ nd, nd = dn.getD Q 0 := ⟨_, rfl⟩
    obtain ⟨code, hcd⟩ : ∃ code, code = dc.getD Q 0 := ⟨_, rfl⟩
    have hn15 : nd ≤ 15 := by rw [hnd]; exact (oD Q).1
    have hcode : code < 2 ^ nd := by rw [hnd, hcd]; exact (oD Q).2
    have hwd : wordOf dc dn Q = Huf.high code nd := by unfold wordOf; rw [← hnd, ← hcd]
    rw [hwd] at htb1
    have hwl := wordOf_le oL K2
    have hq : (257 : Int) + K = (K2 : Nat) := by omega
    have HK2L := Lib.hid (show K2 < ln.length by omega)
    have hx5 : x ≤ 258 := by omega
    have hy5 : y ≤ 32768 := by omega
    have hq1 : IntKind.i64.wrap ((t.n : Int) - LK) = (x : Nat) := by rw [show (t.n : Int) - LK = (x : Nat) by omega]; exact IntWalk.i64_in _ (by omega)
    have hq2 : IntKind.u32.wrap (x : Int) = (x : Nat) := IntWalk.u32_in _ (by omega)
    have hr1 : IntKind.i64.wrap ((t.d : Int) - DK) = (y : Nat) := by rw [show (t.d : Int) - DK = (y : Nat) by omega]; exact IntWalk.i64_in _ (by omega)
    have hr2 : IntKind.u32.wrap (y : Int) = (y : Nat) := IntWalk.u32_in _ (by omega)
    have l1i : (K : Int) < 29 := by omega
    have d1i : (Q : Int) < 30 := by omega
    have e1i : (Q : Int) < dn.length := by omega
    have e2i : (Q : Int) < dc.length := by omega
    have HLK := Lib.hid hLK
    have HLB := Lib.hid hLB
    have HDK := Lib.hid hDK
    have HDB := Lib.hid hDB
    have HND := Lib.hid hnd.symm
    have HCODE := Lib.hid hcd.symm
    have HTB1 := Lib.hid htb1
    have hz : ((t.n : Int) == 0) = false := by rw [beq_eq_false_iff_ne]; omega
    have hw0 := HS0.out.size
    have HR1 := Lib.hid hr1
    have HR2 := Lib.hid hr2
    have HQ2 := Lib.hid hq1
    have HQ3 := Lib.hid hq2
    have HPL := Lib.hid (place_any 15 29 29 t.n (some ⟨11, 0, none⟩) Inf.Lens (wr.alloc (.cells #[.int .u8 t.b.toNat, .int .i64 t.n, .int .i64 t.d] 193)).drew HS0.out.drew.tw.tabs.lens (by decide) (by decide) (by show 3 ≤ t.n; omega) (by omega))
    have d2t : (wr.alloc (.cells #[.int .u8 t.b.toNat, .int .i64 t.n, .int .i64 t.d] 193)).cell? ⟨tg, 1, none⟩ = some (.int .i64 t.n) := HS0.out.cN
    have hlens := Inf.Lens.length
    rw [hpl] at HPL
    clear hK hQ hLK hLB hDK hDB hx hy hK2 hnd hcd hwd htb1 hpl hr1 hr2 l2 d2 HTB hlens hq1 hq2
    go_wp2_with fail
    rw [← htg]
    clear htg
    go_region_with ((go_at_call 167; with_reducible refine HPL.out.mono ?_; rintro e wp ⟨rfl, rfl⟩))
    have HS2 := Lib.hid HS0.out.drew
    clear HS0 HPL d2t t0 t1 t2
    generalize (wr.alloc (.cells #[.int .u8 t.b.toNat, .int .i64 t.n, .int .i64 t.d] 193)).drew = w2 at *
    go_wp2_with fail
    refine (symbol_any B g gb K2 v0 L _ LC _ ln dn lc dc X w2 HS2.out.tw.wri HS2.out.bw HK2L.out (by have := HK2L.out; omega) (oL _).1 (oL _).2 (by omega) (by have := HS2.out.size; omega)).mono ?_
    rintro e w3 ⟨rfl, hw3⟩
    obtain ⟨v3, HS3⟩ := HS2.out.step gbl hw3
    replace HS3 := Lib.hid HS3
    clear HS2 hw3 hq
    have hq1 := HQ2.out
    have hq2 := HQ3.out
    go_wp2_with fail
    have HC := Lib.hid (put_any B gb 215 [] v3 (X ++ wordOf lc ln K2) x LB w3.drew HS3.out.bw.drew (by omega) l3 (by simp only [List.length_append]; omega) (by have := HS3.out.size; show B ≤ w3.heap.size; omega))
    have HCK := Lib.hid (show ∀ wn, Wrote w3 B gb 215 [] v3 (X ++ wordOf lc ln K2 ++ Bit.low x LB) wn → (fun w' => w'.cell? ⟨g, 0, none⟩ = some (.pointer (some ⟨gb, 0, none⟩)) ∧ w'.cell? ⟨tg, 1, none⟩ = some (.int .i64 t.n) ∧ w'.cell? ⟨11, K, none⟩ = some (.int .i64 LK) ∧ w'.cell? ⟨12, K, none⟩ = some (.int .i64 LB)) wn from fun wn hwn => by
     obtain ⟨vn, hn⟩ := HS3.out.step gbl hwn
     exact ⟨hn.cG, hn.cN, hn.tab K hn.tw.tabs.lens (by omega) HLK.out, hn.tab K hn.tw.tabs.lenBits (by omega) HLB.out⟩)
    have s0 := HS3.out.cG
    have s1 := HS3.out.cN
    have s2 := HS3.out.tab K HS3.out.tw.tabs.lens (by omega) HLK.out
    have s3 := HS3.out.tab K HS3.out.tw.tabs.lenBits (by omega) HLB.out
    refine wp_region_held_drew (S := (fun w' => w'.cell? ⟨g, 0, none⟩ = some (.pointer (some ⟨gb, 0, none⟩)) ∧ w'.cell? ⟨tg, 1, none⟩ = some (.int .i64 t.n) ∧ w'.cell? ⟨11, K, none⟩ = some (.int .i64 LK) ∧ w'.cell? ⟨12, K, none⟩ = some (.int .i64 LB))) (by kernel_rfl) ?_ (fun hHeld => ?_)
    ·exact ⟨s0, s1, s2, s3⟩
    refine opT 0 rfl ?_; refine opT 1 rfl ?_; refine opT 2 rfl ?_; refine opT 3 rfl ?_; refine opT 4 rfl ?_; refine opT 5 rfl ?_; refine opT 6 rfl ?_; refine opT 7 rfl ?_; refine opT 8 rfl ?_
    refine opV 9 (.int .i64 x) rfl ?_ ?_
    ·intro w hSw; (try dsimp only at hSw); go_simp <;> (first | with_reducible rfl | assumption | (simp [hq1]; done) | omega)
    (try simp only [Act.put, nz1, nz2, nz3, nz4, nz5, nz6])
    refine opV 10 (.int .u32 x) rfl ?_ ?_
    ·intro w hSw; (try dsimp only at hSw); go_simp <;> (first | with_reducible rfl | assumption | (simp [hq2]; done) | omega)
    (try simp only [Act.put, nz1, nz2, nz3, nz4, nz5, nz6])
    refine opT 11 rfl ?_; refine opT 12 rfl ?_; refine opT 13 rfl ?_
    refine opD 14 rfl (fun K hK => ?_)
    go_simp
    (go_at_call 138; with_reducible refine HC.out.mono ?_; rintro e wn ⟨rfl, hwn⟩)
    refine hK.out _ _ ?_ (fun hHeld => ?_)
    ·exact HCK.out _ hwn.undrew
    clear hK K
    (try simp only [Act.put, nz1, nz2, nz3, nz4, nz5, nz6])
    refine wpAnyH_done (by kernel_rfl) ?_ _
    obtain ⟨v4, HS4⟩ := HS3.out.step gbl hwn.undrew
    replace HS4 := Lib.hid HS4
    generalize wn = w4 at *
    clear s0 s1 s2 s3 HC HCK hwn hHeld
    clear hq1 hq2 HS3
    have d5t : w4.cell? ⟨tg, 2, none⟩ = some (.int .i64 t.d) := HS4.out.cT
    have HPD := Lib.hid (place_any 15 30 30 t.d (some ⟨13, 0, none⟩) Inf.Dists w4.drew HS4.out.drew.tw.tabs.dists (by decide) (by decide) (by show 1 ≤ t.d; omega) (by omega))
    rw [hpd] at HPD
    clear hpd
    go_wp2_with fail
    go_region_with ((go_at_call 167; with_reducible refine HPD.out.mono ?_; rintro e wp ⟨rfl, rfl⟩))
    have HS5 := Lib.hid HS4.out.drew
    clear HS4 HPD d5t
    generalize w4.drew = w5 at *
    generalize v4 = v5 at *
    obtain ⟨X4, hX4⟩ : ∃ X4, X4 = X ++ wordOf lc ln K2 ++ Bit.low x LB := ⟨_, rfl⟩
    rw [← hX4] at HS5
    have HX4 := Lib.hid hX4
    clear hX4
    go_wp2_with fail
    have HC := Lib.hid (turned_any B gb 215 [] v5 (X4) code nd w5.drew HS5.out.bw.drew (by omega) hcode (by rw [HX4.out]; simp only [List.length_append, Bit.low_length]; omega) (by have := HS5.out.size; show B ≤ w5.heap.size; omega))
    have HCC := Lib.hid (show ∀ wn vn, TS w B g gb tg v L (.slice (some ⟨gd, od, none⟩) dn.length cd) LC (.slice (some ⟨gc, oc, none⟩) dc.length cc) (.slice (some ⟨ga, oa, none⟩) l.length c) ln dn lc dc l t wn vn (X4) ∨ TS w B g gb tg v L (.slice (some ⟨gd, od, none⟩) dn.length cd) LC (.slice (some ⟨gc, oc, none⟩) dc.length cc) (.slice (some ⟨ga, oa, none⟩) l.length c) ln dn lc dc l t wn vn (X4 ++ Huf.high code nd) → (fun w' => w'.cell? ⟨g, 0, none⟩ = some (.pointer (some ⟨gb, 0, none⟩)) ∧ w'.cell? ⟨g, 4, none⟩ = some (.slice (some ⟨gc, oc, none⟩) dc.length cc) ∧ w'.cell? ⟨g, 2, none⟩ = some (.slice (some ⟨gd, od, none⟩) dn.length cd) ∧ w'.cell? ⟨gc, oc + Q, none⟩ = some (.int .u32 code) ∧ w'.cell? ⟨gd, od + Q, none⟩ = some (.int .i64 nd)) wn from fun wn vn h => by
     rcases h with h | h
     all_goals
      refine ⟨h.cG, h.cgDC, h.cgD, ?_, ?_⟩
      ·rw [h.tw.wri.dc.cellAt Q (by omega), u32s_at _ _ (by omega), ← getD_at _ _ (by omega), HCODE.out]
      ·rw [h.tw.wri.d.cellAt Q (by omega), nats_at _ _ (by omega), ← getD_at _ _ (by omega), HND.out])
    have HCK := Lib.hid (show ∀ wn, Wrote w5 B gb 215 [] v5 (X4 ++ Huf.high code nd) wn → (fun w' => w'.cell? ⟨g, 0, none⟩ = some (.pointer (some ⟨gb, 0, none⟩)) ∧ w'.cell? ⟨g, 4, none⟩ = some (.slice (some ⟨gc, oc, none⟩) dc.length cc) ∧ w'.cell? ⟨g, 2, none⟩ = some (.slice (some ⟨gd, od, none⟩) dn.length cd) ∧ w'.cell? ⟨gc, oc + Q, none⟩ = some (.int .u32 code) ∧ w'.cell? ⟨gd, od + Q, none⟩ = some (.int .i64 nd)) wn from fun wn hwn => by
     obtain ⟨vn, hn⟩ := HS5.out.step gbl hwn
     exact HCC.out wn vn (.inr hn))
    obtain ⟨s0, s1, s2, s3, s4⟩ := HCC.out w5 v5 (.inl HS5.out)
    clear HCC
    refine wp_region_held_drew (S := (fun w' => w'.cell? ⟨g, 0, none⟩ = some (.pointer (some ⟨gb, 0, none⟩)) ∧ w'.cell? ⟨g, 4, none⟩ = some (.slice (some ⟨gc, oc, none⟩) dc.length cc) ∧ w'.cell? ⟨g, 2, none⟩ = some (.slice (some ⟨gd, od, none⟩) dn.length cd) ∧ w'.cell? ⟨gc, oc + Q, none⟩ = some (.int .u32 code) ∧ w'.cell? ⟨gd, od + Q, none⟩ = some (.int .i64 nd))) (by kernel_rfl) ?_ (fun hHeld => ?_)
    ·exact ⟨s0, s1, s2, s3, s4⟩
    refine opT 0 rfl ?_; refine opT 1 rfl ?_; refine opT 2 rfl ?_; refine opT 3 rfl ?_; refine opT 4 rfl ?_; refine opT 5 rfl ?_; refine opT 6 rfl ?_; refine opT 7 rfl ?_; refine opT 8 rfl ?_; refine opT 9 rfl ?_; refine opT 10 rfl ?_; refine opT 11 rfl ?_; refine opT 12 rfl ?_; refine opT 13 rfl ?_; refine opT 14 rfl ?_; refine opT 15 rfl ?_; refine opT 16 rfl ?_; refine opT 17 rfl ?_
    refine opD 18 rfl (fun K hK => ?_)
    go_simp
    (go_at_call 148; with_reducible refine HC.out.mono ?_; rintro e wn ⟨rfl, hwn⟩)
    refine hK.out _ _ ?_ (fun hHeld => ?_)
    ·exact HCK.out _ hwn.undrew
    clear hK K
    (try simp only [Act.put, nz1, nz2, nz3, nz4, nz5, nz6])
    refine wpAnyH_done (by kernel_rfl) ?_ _
    obtain ⟨v6, HS6⟩ := HS5.out.step gbl hwn.undrew
    replace HS6 := Lib.hid HS6
    generalize wn = w6 at *
    clear s0 s1 s2 s3 s4 HC HCK hwn hHeld
    clear HS5
    have hq1 := HR1.out
    have hq2 := HR2.out
    have hX4l : X4.length ≤ X.length + 20 := by rw [HX4.out]; simp only [List.length_append, Bit.low_length]; omega
    go_wp2_with fail
    have HC := Lib.hid (put_any B gb 215 [] v6 (X4 ++ Huf.high code nd) y DB w6.drew HS6.out.bw.drew (by omega) d3 (by simp only [List.length_append, Huf.high_length]; omega) (by have := HS6.out.size; show B ≤ w6.heap.size; omega))
    have HCK := Lib.hid (show ∀ wn, Wrote w6 B gb 215 [] v6 (X4 ++ Huf.high code nd ++ Bit.low y DB) wn → (fun w' => w'.cell? ⟨g, 0, none⟩ = some (.pointer (some ⟨gb, 0, none⟩)) ∧ w'.cell? ⟨tg, 2, none⟩ = some (.int .i64 t.d) ∧ w'.cell? ⟨13, Q, none⟩ = some (.int .i64 DK) ∧ w'.cell? ⟨14, Q, none⟩ = some (.int .i64 DB)) wn from fun wn hwn => by
     obtain ⟨vn, hn⟩ := HS6.out.step gbl hwn
     exact ⟨hn.cG, hn.cT, hn.tab Q hn.tw.tabs.dists (by omega) HDK.out, hn.tab Q hn.tw.tabs.distBits (by omega) HDB.out⟩)
    have s0 := HS6.out.cG
    have s1 := HS6.out.cT
    have s2 := HS6.out.tab Q HS6.out.tw.tabs.dists (by omega) HDK.out
    have s3 := HS6.out.tab Q HS6.out.tw.tabs.distBits (by omega) HDB.out
    refine wp_region_held_drew (S := (fun w' => w'.cell? ⟨g, 0, none⟩ = some (.pointer (some ⟨gb, 0, none⟩)) ∧ w'.cell? ⟨tg, 2, none⟩ = some (.int .i64 t.d) ∧ w'.cell? ⟨13, Q, none⟩ = some (.int .i64 DK) ∧ w'.cell? ⟨14, Q, none⟩ = some (.int .i64 DB))) (by kernel_rfl) ?_ (fun hHeld => ?_)
    ·exact ⟨s0, s1, s2, s3⟩
    refine opT 0 rfl ?_; refine opT 1 rfl ?_; refine opT 2 rfl ?_; refine opT 3 rfl ?_; refine opT 4 rfl ?_; refine opT 5 rfl ?_; refine opT 6 rfl ?_; refine opT 7 rfl ?_; refine opT 8 rfl ?_
    refine opV 9 (.int .i64 y) rfl ?_ ?_
    ·intro w hSw; (try dsimp only at hSw); go_simp <;> (first | with_reducible rfl | assumption | (simp [hq1]; done) | omega)
    (try simp only [Act.put, nz1, nz2, nz3, nz4, nz5, nz6])
    refine opV 10 (.int .u32 y) rfl ?_ ?_
    ·intro w hSw; (try dsimp only at hSw); go_simp <;> (first | with_reducible rfl | assumption | (simp [hq2]; done) | omega)
    (try simp only [Act.put, nz1, nz2, nz3, nz4, nz5, nz6])
    refine opT 11 rfl ?_; refine opT 12 rfl ?_; refine opT 13 rfl ?_
    refine opD 14 rfl (fun K hK => ?_)
    go_simp
    (go_at_call 138; with_reducible refine HC.out.mono ?_; rintro e wn ⟨rfl, hwn⟩)
    refine hK.out _ _ ?_ (fun hHeld => ?_)
    ·exact HCK.out _ hwn.undrew
    clear hK K
    (try simp only [Act.put, nz1, nz2, nz3, nz4, nz5, nz6])
    refine wpAnyH_done (by kernel_rfl) ?_ _
    obtain ⟨v7, HS7⟩ := HS6.out.step gbl hwn.undrew
    replace HS7 := Lib.hid HS7
    generalize wn = w7 at *
    clear s0 s1 s2 s3 HC HCK hwn hHeld
    clear hq1 hq2 HS6
    go_wp2
    go_roundw
    case rel =>
     refine ⟨j + 1, hlt, by go_num, ?_⟩
     rw [HST.out, HTB1.out]
     have := HS7.out.wrote
     rw [HX4.out, HX.out] at this
     simpa [List.append_assoc] using this
    case measure => simp [intOf]; omega
  ·as_aux_lemma =>
   have hj2 : j = l.length := by omega
   subst hj2
   rw [List.take_length] at HX
   obtain ⟨v2, hT2, hw2', hf2, hk2⟩ := hT.wrote hwj
   go_wp2_with fail
   refine (symbol_any B g gb 256 v2 L D LC DC ln dn lc dc X wr hT2.wri hw2' (by omega) (by omega) (oL _).1 (oL _).2 (by omega) (by have := hk2.size; omega)).mono ?_
   rintro e w3 ⟨rfl, hw3⟩
   have hw4 := Wrote.trans gbl hf2 hk2 hw3
   go_wp2
   go_end0
   exact ⟨rfl, by rw [← List.append_assoc, ← HX.out]; exact hw4⟩
end Go.Proofs.YtkegkelaffohjaaGreatDoor
