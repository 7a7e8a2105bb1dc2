/- inflate.reader.tokens: the walk. Printed by mk.py. -/
import Derived.Test.YtkegkelaffohjaaGreatDoorQCFilmTwiceInfSto
import Derived.Test.YtkegkelaffohjaaGreatDoorQCFilmTwiceTokMem
import Derived.Deep.LoopGhost
import Derived.Deep.CutBlock
namespace Go.Proofs.YtkegkelaffohjaaGreatDoor
open Go Go.RowKit
namespace Inf
section
variable {nl nd : List Bool → Option (Nat × List Bool)} {most : Nat} {go : List Bool → List UInt8 → Except Nat (List Bool × List UInt8)} {bs b1 b2 b3 b4 : List Bool} {out : List UInt8} {k x d y : Nat}
theorem rstep_no (h : nl bs = none) : rstep nl nd most go bs out = .error 0 := by unfold rstep; rw [h]
theorem rstep_end (h : nl bs = some (256, b1)) : rstep nl nd most go bs out = .ok (b1, out) := by unfold rstep; rw [h]; simp
theorem rstep_lit (h : nl bs = some (k, b1)) (hk : k < 256) : rstep nl nd most go bs out = if out.length < most then go b1 (out ++ [UInt8.ofNat k]) else .error 1 := by
 unfold rstep; rw [h]; simp only; rw [if_neg (by omega), if_pos hk]
theorem rstep_sym (h : nl bs = some (k, b1)) (hk : 257 ≤ k) (h29 : 29 ≤ k - 257) : rstep nl nd most go bs out = .error 0 := by
 unfold rstep; rw [h]; simp only; rw [if_neg (by omega), if_neg (by omega), if_pos h29]
theorem rstep_len (h : nl bs = some (k, b1)) (hk : 257 ≤ k) (h29 : ¬ 29 ≤ k - 257) (hx : get (LenBits.getD (k - 257) 0) b1 = none) : rstep nl nd most go bs out = .error 0 := by
 unfold rstep; rw [h]; simp only; rw [if_neg (by omega), if_neg (by omega), if_neg h29, hx]
theorem rstep_dist (h : nl bs = some (k, b1)) (hk : 257 ≤ k) (h29 : ¬ 29 ≤ k - 257) (hx : get (LenBits.getD (k - 257) 0) b1 = some (x, b2)) (hd : nd b2 = none) : rstep nl nd most go bs out = .error 0 := by
 unfold rstep; rw [h]; simp only; rw [if_neg (by omega), if_neg (by omega), if_neg h29, hx]; simp only; rw [hd]
theorem rstep_d30 (h : nl bs = some (k, b1)) (hk : 257 ≤ k) (h29 : ¬ 29 ≤ k - 257) (hx : get (LenBits.getD (k - 257) 0) b1 = some (x, b2)) (hd : nd b2 = some (d, b3)) (h30 : 30 ≤ d) : rstep nl nd most go bs out = .error 0 := by
 unfold rstep; rw [h]; simp only; rw [if_neg (by omega), if_neg (by omega), if_neg h29, hx]; simp only; rw [hd]; simp only; rw [if_pos h30]
theorem rstep_db (h : nl bs = some (k, b1)) (hk : 257 ≤ k) (h29 : ¬ 29 ≤ k - 257) (hx : get (LenBits.getD (k - 257) 0) b1 = some (x, b2)) (hd : nd b2 = some (d, b3)) (h30 : ¬ 30 ≤ d) (hy : get (DistBits.getD d 0) b3 = none) : rstep nl nd most go bs out = .error 0 := by
 unfold rstep; rw [h]; simp only; rw [if_neg (by omega), if_neg (by omega), if_neg h29, hx]; simp only; rw [hd]; simp only; rw [if_neg h30, hy]
theorem rstep_is (h : nl bs = some (k, b1)) (hk : 257 ≤ k) (h29 : ¬ 29 ≤ k - 257) (hx : get (LenBits.getD (k - 257) 0) b1 = some (x, b2)) (hd : nd b2 = some (d, b3)) (h30 : ¬ 30 ≤ d) (hy : get (DistBits.getD d 0) b3 = some (y, b4)) :
  rstep nl nd most go bs out = if out.length < Dists.getD d 0 + y then .error 0 else if most < out.length + (Lens.getD (k - 257) 0 + x) then .error 1 else go b4 (Mat.copy (Dists.getD d 0 + y) (Lens.getD (k - 257) 0 + x) out) := by
 unfold rstep; rw [h]; simp only; rw [if_neg (by omega), if_neg (by omega), if_neg h29, hx]; simp only; rw [hd]; simp only; rw [if_neg h30, hy]
end
open Mat in
theorem lens_le : ∀ k, Lens.getD k 0 ≤ 258 := fun k => by
 rcases Nat.lt_or_ge k 29 with h | h
 ·have : ∀ k : Fin 29, Lens.getD k.val 0 ≤ 258 := by decide
  exact this ⟨k, h⟩
 ·rw [List.getD_eq_getElem?_getD, List.getElem?_eq_none h]; decide
theorem dists_le : ∀ k, Dists.getD k 0 ≤ 24577 := fun k => by
 rcases Nat.lt_or_ge k 30 with h | h
 ·have : ∀ k : Fin 30, Dists.getD k.val 0 ≤ 24577 := by decide
  exact this ⟨k, h⟩
 ·rw [List.getD_eq_getElem?_getD, List.getElem?_eq_none h]; decide
theorem dists_pos : ∀ k, k < 30 → 1 ≤ Dists.getD k 0 := fun k h => by
 have : ∀ k : Fin 30, 1 ≤ Dists.getD k.val 0 := by decide
 exact this ⟨k, h⟩
end Inf
structure TrI (w : World) (g gb : Nat) (v : Value) (gt : Nat) (l : List Nat) : Prop where
 ex : ∃ B tv, TreeAt w B gt l (Huf.syms l) tv ∧ tv.ownBlock ≠ some g ∧ tv.ownBlock ≠ some gb ∧ v.ownBlock ≠ some gt ∧ ∀ x, v.ownBlock = some x → tv.ownBlock ≠ some x
 ng : g ≠ gt
 nb : gb ≠ gt
theorem TrI.on {w w' : World} {g gb gt : Nat} {v v' : Value} {l : List Nat} (h : TrI w g gb v gt l) (k : KF w w' g gb v v') : TrI w' g gb v' gt l := by
 obtain ⟨B, tv, hT, h1, h2, h3, h4⟩ := h.ex
 have hl := hT.blk.lt
 have nS : ¬ (gt = g ∨ gt = gb ∨ v.ownBlock = some gt) := fun e => by
  rcases e with e | e | e
  ·exact h.ng e.symm
  ·exact h.nb e.symm
  ·exact h3 e
 refine ⟨⟨B, tv, ⟨hT.blk.keeps k.keeps nS, hT.own.keeps k.keeps fun x hx e => ?_, hT.ne, hT.bg⟩, h1, h2, fun e => ?_, fun x hx e => ?_⟩, h.ng, h.nb⟩
 ·rcases e with e | e | e
  ·exact h1 (by rw [hx, e])
  ·exact h2 (by rw [hx, e])
  ·exact h4 x e hx
 ·rcases k.fresh gt e with e2 | e2
  ·exact h3 e2
  ·omega
 ·rcases k.fresh x hx with e2 | e2
  ·exact h4 x e2 e
  ·have := (hT.own.lt x e).2; omega
theorem Keeps.cellOld {w w' : World} {gb a i : Nat} {u : Value} (k : Keeps (fun x => x = gb) w w') (hne : a ≠ gb) (h : w.cell? ⟨a, i, none⟩ = some u) : w'.cell? ⟨a, i, none⟩ = some u := by
 have hl := cell_lt h
 rw [← h]
 unfold World.cell?
 rw [k.block a hl hne]
section
variable (B g gb most : Nat) (s : ByteArray) (E : Nat → Addr) (w : World)
set_option maxHeartbeats 40000000 in
set_option maxRecDepth 100000 in
theorem itokens_any (gt fk : Nat) (caps : Array Value) (l : List Nat) (nd : List Bool → Option (Nat × List Bool)) (bs : List Bool) (v : Value) (out : List UInt8) (hE : Er4 w E) (hTb : Tabs w) (h : RdI w B g gb s most bs v out) (hT : TrI w g gb v gt l) (hcf : ∀ w : World, (callFunc fk caps).run Tryz.prog w = .ok (.enter fk caps) w) (hgl : Huf.Good l) (hll : l.length ≤ 300)
  (hnd : ∀ b d r, nd b = some (d, r) → d < 1000 ∧ r.length ≤ b.length)
  (hdist : ∀ (W : World) (b : List Bool) (v' : Value) (o : List UInt8), KF w W g gb v v' → RdI W B g gb s most b v' o → Calls Tryz.prog fk caps W fun e w' => ReadI W gb s E (nd b) e w')
  (hG : 15 ≤ B) (hB : B ≤ w.heap.size) (hs : s.size ≤ 300000) (hm : most ≤ 300000) (ho : out.length ≤ most) :
  Calls Tryz.prog 152 #[.pointer (some ⟨g, 0, none⟩), .pointer (some ⟨gt, 0, none⟩), .func (.func fk) #[] caps] w fun e w' => StepI w B g gb s most E v (Inf.rtoks (Huf.next l 15 0 0) nd most (bs.length + 1) bs out) e w' := by
 obtain ⟨R, hRe⟩ : ∃ R, R = Inf.rtoks (Huf.next l 15 0 0) nd most (bs.length + 1) bs out := ⟨_, rfl⟩
 rw [← hRe]
 have HR := Lib.hid hRe
 have hGb : 15 ≤ gb := Nat.le_trans hG h.bb
 have HK := Lib.hid hgl.le
 have H := Lib.hid h
 have HE := Lib.hid hE
 have HT := Lib.hid hT
 have HTB := Lib.hid hTb
 have HND := Lib.hid hnd
 have HD := Lib.hid hdist
 clear hRe h hE hT hTb hnd hdist hgl
 go_enter Tryz.func152, Tryz.ntmps152
 go_wp2_with fail
 go_loopg [] (bs.length + 1) (fun f wr => ∃ (b : List Bool) (v' : Value) (o : List UInt8), b.length < f ∧ RdI wr B g gb s most b v' o ∧ KF w wr g gb v v' ∧ o.length ≤ most ∧ Inf.rtoks (Huf.next l 15 0 0) nd most f b o = R)
 case atStart => exact ⟨bs, v, out, Nat.lt_succ_self _, H.out, KF.refl _ _ _ _, ho, HR.out.symm⟩
 case round =>
  obtain ⟨b, v', o, hbf, hI, hk, hol, hRr⟩ := hrel
  obtain ⟨f, rfl⟩ : ∃ f, gk = f + 1 := ⟨gk - 1, by omega⟩
  rw [Inf.rtoks_succ] at hRr
  obtain ⟨go, hgo⟩ : ∃ go, go = Inf.rtoks (Huf.next l 15 0 0) nd most f := ⟨_, rfl⟩
  rw [← hgo] at hRr
  have HGO := Lib.hid hgo
  have HRR := Lib.hid hRr
  have HI := Lib.hid hI
  have K := Lib.hid hk
  have hE1 := Lib.hid (KF.er4 HE.out H.out hk hB hG)
  have HT1 := Lib.hid (HT.out.on hk)
  clear hRr hI hk hgo
  obtain ⟨Bt, tv, hTA, q1, q2, q3, q4⟩ := HT1.out.ex
  go_wp2_with fail
  refine (inext_any g gb s E wr gt Bt l tv b v' (.int .i64 most) hE1.out HI.out.blk hTA HI.out.rd hGb HT1.out.nb q2 (by omega) HK.out hll).mono ?_
  rintro e w2 ⟨hk2, he2⟩
  have K2 := Lib.hid (K.out.trans (KF.of_read (g := g) (v := v') hk2))
  have HBL := Lib.hid (K2.out.below H.out hB)
  have hE2 := Lib.hid (KF.er4 HE.out H.out K2.out hB hG)
  clear hTA q1 q2 q3 q4
  cases hn : Huf.next l 15 0 0 b with
  | none =>
   rw [hn] at he2
   replace he2 : e = .panicked (thrownI E 0) := he2
   subst he2
   have hR : R = .error 0 := by rw [← HRR.out]; exact Inf.rstep_no hn
   subst hR
   go_wp2_with fail
   exact ⟨rfl, rfl, HBL.out⟩
  | some r =>
   obtain ⟨k, b1⟩ := r
   rw [hn] at he2
   replace he2 : e = .returned (.int .i64 k) ∧ RdB w2 gb s b1 := he2
   obtain ⟨rfl, hR2⟩ := he2
   obtain ⟨hkl, hbl, _⟩ := Huf.next_sym 15 0 0 b (by omega) hn
   have H2 := Lib.hid (HI.out.read hk2 hR2)
   have HN := Lib.hid hn
   have hbf1 : b1.length < f := by omega
   clear hn hR2 hk2 hbl hbf
   have hk3 : (k : Int) < 300 := by omega
   by_cases h256 : k = 256
   ·subst h256
    have hR : R = .ok (b1, o) := by rw [← HRR.out]; exact Inf.rstep_end HN.out
    subst hR
    go_wp2_with fail
    go_end0
    exact ⟨rfl, v', H2.out, K2.out⟩
   ·have hne : ((k : Int) == 256) = false := by rw [beq_eq_false_iff_ne]; omega
    by_cases hlt : k < 256
    ·
     have hlti : (k : Int) < 256 := by omega
     have hRl := HRR.out
     rw [Inf.rstep_lit HN.out hlt] at hRl
     have HRL := Lib.hid hRl
     clear hRl h256
     have dB := hE2.out.bound
     obtain ⟨A, c, hv, hc, _⟩ := H2.out.own.form
     subst hv
     have c1 := H2.out.c1
     have c2 := H2.out.c2
     go_upto_region 3 with (fail)
     by_cases hom : o.length < most
     ·have hbi : decide (o.length < most) = true := decide_eq_true hom
      have hRl := HRL.out
      rw [if_pos hom] at hRl
      have HR4 := Lib.hid hRl
      clear hRl
      refine wp_region_held_drew (S := (fun w' => w'.cell? ⟨g, 1, none⟩ = some (.slice A o.length c) ∧ w'.cell? ⟨g, 2, none⟩ = some (.int .i64 most) ∧ w'.cell? ⟨1, 0, none⟩ = some (.iface 290 (.pointer (some (E 1)))))) (by kernel_rfl) ?_ (fun hHeld => ?_)
      ·exact ⟨c1, c2, dB⟩
      refine opT 0 rfl ?_; refine opT 1 rfl ?_; refine opT 2 rfl ?_; refine opT 3 rfl ?_; refine opT 4 rfl ?_; refine opT 5 rfl ?_; refine opT 6 rfl ?_; refine opT 7 rfl ?_; refine opT 8 rfl ?_; refine opT 9 rfl ?_; refine opT 10 rfl ?_; refine opT 11 rfl ?_
      refine opD 12 rfl (fun K hK => ?_)
      go_simp
      (go_at_call 175; refine (must_yes g _ _).mono ?_; rintro e w3 ⟨rfl, rfl⟩)
      refine hK.out _ _ ?_ (fun hHeld => ?_)
      ·exact ⟨c1, c2, dB⟩
      clear hK K
      (try simp only [Act.put, nz1, nz2, nz3, nz4, nz5, nz6])
      refine wpAnyH_done (by kernel_rfl) ?_ _
      obtain ⟨i0, hi, hz0, hz1, hz2⟩ := info_parts byteInfo
      have H3 := Lib.hid (H2.out.below ((Below.refl w2.heap.size w2).alloc (Nat.le_refl _) (.cells #[.int .u8 k] 5)).drew)
      have K3 := Lib.hid (K2.out.trans (KF.of_below (g := g) (gb := gb) (v := .slice A o.length c) ((Below.refl w2.heap.size w2).alloc (Nat.le_refl _) (.cells #[.int .u8 k] 5)).drew))
      have nA2 : some g ≠ (Value.slice A o.length c).ownBlock := fun e => H2.out.ng e.symm
      have hB7 : B ≤ (w2.alloc (.cells #[.int .u8 k] 5)).drew.heap.size := Nat.le_trans hB K3.out.keeps.size
      have hwk : IntKind.u8.wrap (k : Int) = k := IntWalk.u8_in _ (by omega)
      have hkm : (k : Int) % 256 = k := by omega
      have HOM := Lib.hid hom
      have hby : bytes o ++ [Value.int .u8 (k : Int)] = bytes (o ++ [UInt8.ofNat k]) := by
       rw [bytes_append]
       have : ((UInt8.ofNat k).toNat : Int) = (k : Int) := by rw [UInt8.toNat_ofNat_of_lt' (by show _ < 256; omega)]
       simp [bytes]
       omega
      have HBY := Lib.hid hby
      have c01 : w2.drew.cell? ⟨g, 1, none⟩ = some (.slice A o.length c) := c1
      clear c1 c2 dB hbi hom hby
      go_wp2_with (at_builtin; refine wpList_append_S rfl (.tmp 36) (.tmp 39) 102 102 rfl B 5 i0 (.int .u8 0) 1 1 Tryz.underlying102 hi hz0 hz1 hz2 rfl (by decide) (.slice A o.length c) o.length (bytes o) rfl H3.out.own (bytes_one _) 1 [.int .u8 (k : Int)] (Src.blk Tryz.underlying102 (Blk.drew (Blk.new w2 5 #[.int .u8 (k : Int)] rfl)) rfl (by intro u hu; cases List.mem_singleton.1 hu; rfl)) (o.length + 1) rfl (bytes (o ++ [UInt8.ofNat k])) HBY.out (by unfold maxLen; omega) (by omega) hB7 ?_; intro A' c' w8 ho8 hg8 ha8; have B8 := H3.out.blk.grown hg8 nA2; have q1 := B8.free 1; have e1 : w8.cell? ⟨g, 1, none⟩ = some (.slice A o.length c) := (by rw [B8.cell]; rfl))
      obtain ⟨hP1, hP2⟩ := RdI.push H3.out (xs := [UInt8.ofNat k]) rfl ho8 hg8 ha8
      have HP1 := Lib.hid hP1
      have HP2 := Lib.hid (K3.out.trans hP2)
      clear hP1 hP2 ho8 hg8 ha8 B8 q1 e1
      go_roundg f
      case rel => exact ⟨b1, _, _, hbf1, HP1.out, HP2.out, by rw [List.length_append]; exact HOM.out, by rw [← HGO.out]; exact HR4.out⟩
      case measure => exact Nat.lt_succ_self f
     ·have hbi : decide (o.length < most) = false := decide_eq_false hom
      have hR := HRL.out
      rw [if_neg hom] at hR
      subst hR
      clear hom
      refine wp_region_held_drew (S := (fun w' => w'.cell? ⟨g, 1, none⟩ = some (.slice A o.length c) ∧ w'.cell? ⟨g, 2, none⟩ = some (.int .i64 most) ∧ w'.cell? ⟨1, 0, none⟩ = some (.iface 290 (.pointer (some (E 1)))))) (by kernel_rfl) ?_ (fun hHeld => ?_)
      ·exact ⟨c1, c2, dB⟩
      refine opT 0 rfl ?_; refine opT 1 rfl ?_; refine opT 2 rfl ?_; refine opT 3 rfl ?_; refine opT 4 rfl ?_; refine opT 5 rfl ?_; refine opT 6 rfl ?_; refine opT 7 rfl ?_; refine opT 8 rfl ?_; refine opT 9 rfl ?_; refine opT 10 rfl ?_; refine opT 11 rfl ?_
      refine opD 12 rfl (fun K hK => ?_)
      go_simp
      (go_at_call 175; refine (must_no g E _ 1).mono ?_; rintro e w3 ⟨rfl, rfl⟩; exact bodyPost_pan rfl ⟨rfl, HBL.out.drew⟩)
    ·obtain ⟨kk, hkk⟩ : ∃ kk, kk = k - 257 := ⟨_, rfl⟩
     have hk7 : 257 ≤ k := by omega
     have hki : (k : Int) - 257 = kk := by omega
     have hkw : IntKind.i64.wrap ((k : Int) - 257) = kk := by rw [hki]; exact IntWalk.i64_in _ (by omega)
     have hge : decide (k < 256) = false := decide_eq_false hlt
     have hgei : (256 : Int) ≤ k := by omega
     have HKK := Lib.hid hkk
     have HN2 := Lib.hid (show Huf.next l 15 0 0 b = some (k, b1) from HN.out)
     have dE := hE2.out.text
     clear hkk h256 hlt hge
     by_cases h29 : 29 ≤ kk
     ·have hR : R = .error 0 := by rw [← HRR.out]; exact Inf.rstep_sym HN2.out hk7 (by have := HKK.out; omega)
      subst hR
      have h29i : decide ((kk : Int) < 29) = false := decide_eq_false (by omega)
      go_wp2_with fail
      refine (must_no g E w2 0).mono ?_
      rintro e w3 ⟨rfl, rfl⟩
      go_wp2_with fail
      exact ⟨rfl, rfl, HBL.out⟩
     have h29i : decide ((kk : Int) < 29) = true := decide_eq_true (by omega)
     have h29n : kk < 29 := by omega
     have h29r : (kk : Int) < 29 := by omega
     go_wp2_with fail
     refine (must_yes g w2 _).mono ?_
     rintro e w3 ⟨rfl, hw3⟩
     rw [hw3]
     clear hw3 w3
     have hkn : k - 257 = kk := HKK.out.symm
     have h29x : ¬ 29 ≤ k - 257 := by omega
     obtain ⟨L0, hL0⟩ : ∃ L0, L0 = Inf.Lens.getD kk 0 := ⟨_, rfl⟩
     obtain ⟨lb, hlb⟩ : ∃ lb, lb = Inf.LenBits.getD kk 0 := ⟨_, rfl⟩
     have hL0b : L0 ≤ 258 := by rw [hL0]; exact Inf.lens_le kk
     have hlb5 : lb ≤ 5 := by rw [hlb]; exact Inf.lenBits_le kk
     have hTw2 := HTB.out.below (K2.out.below H.out hB) hG
     have t1 : w2.cell? ⟨11, kk, none⟩ = some (.int .i64 (L0 : Nat)) := by
      have := hTw2.lens.cell rfl kk (by omega)
      rw [Nat.zero_add, nats_at _ _ (show kk < Inf.Lens.length from h29n), ← getD_at _ _ (show kk < Inf.Lens.length from h29n), ← hL0] at this
      exact this
     have t2 : w2.cell? ⟨12, kk, none⟩ = some (.int .i64 (lb : Nat)) := by
      have := hTw2.lenBits.cell rfl kk (by omega)
      rw [Nat.zero_add, nats_at _ _ (show kk < Inf.LenBits.length from h29n), ← getD_at _ _ (show kk < Inf.LenBits.length from h29n), ← hlb] at this
      exact this
     have hGL1 : 11 ≠ gb := by omega
     have hGL2 : 12 ≠ gb := by omega
     have hGL3 : 13 ≠ gb := by omega
     have hGL4 : 14 ≠ gb := by omega
     have HLL := Lib.hid (And.intro hL0 hlb)
     have HG7 := Lib.hid (iget_any g gb s E w2.drew lb b1 v' (.int .i64 most) (hE2.out.below (Below.here w2)) H2.out.blk.drew H2.out.rd.drew hGb (by omega) (by omega))
     have HH := Lib.hid (And.intro hk7 (And.intro hkn h29x))
     clear hL0 hlb hTw2 hk7 hkn h29x hkw hki hgei
     go_upto_region 7 with (fail)
     cases hx : Inf.get lb b1 with
     | none =>
      have hR : R = .error 0 := by rw [← HRR.out]; exact Inf.rstep_len HN2.out HH.out.1 HH.out.2.2 (by rw [HH.out.2.1, ← HLL.out.2]; exact hx)
      subst hR
      have HX := Lib.hid hx
      have HEND := Lib.hid (show ∀ w', Keeps (fun x => x = gb) w2 w' → StepI w B g gb s most E v (.error 0) (.panicked (thrownI E 0)) w' from fun w' k => ⟨rfl, (K2.out.trans (KF.of_read (g := g) (v := v') k)).below H.out hB⟩)
      clear hx
      refine wp_region_held_drew (S := (fun w' => w'.cell? ⟨11, kk, none⟩ = some (.int .i64 (L0 : Nat)) ∧ w'.cell? ⟨12, kk, none⟩ = some (.int .i64 (lb : Nat)))) (by kernel_rfl) ?_ (fun hHeld => ?_)
      ·exact ⟨t1, t2⟩
      refine opT 0 rfl ?_; refine opT 1 rfl ?_; refine opT 2 rfl ?_; refine opT 3 rfl ?_; refine opT 4 rfl ?_; refine opT 5 rfl ?_; refine opT 6 rfl ?_
      refine opD 7 rfl (fun K hK => ?_)
      go_simp
      (go_at_call 150; refine HG7.out.mono ?_; rintro e w3 ⟨hk3, he3⟩; rw [HX.out] at he3; replace he3 : e = .panicked (thrownI E 0) := he3; subst he3; exact bodyPost_pan rfl (HEND.out _ hk3.fromDrew_))
     | some r =>
      obtain ⟨x, b2⟩ := r
      obtain ⟨hxl, hxd, hx2⟩ := Inf.get_some hx
      have hx5 : x < 32 := Nat.lt_of_lt_of_le hx2 (Nat.pow_le_pow_right (show 0 < 2 by omega) hlb5)
      have hb2l : b2.length ≤ b1.length := by rw [hxd, List.length_drop]; omega
      have HX := Lib.hid hx
      obtain ⟨N, hN⟩ : ∃ N, N = L0 + x := ⟨_, rfl⟩
      have hwN : IntKind.i64.wrap ((L0 : Int) + x) = N := by rw [hN, Int.natCast_add]; exact IntWalk.i64_in _ (by omega)
      have hNb : N ≤ 300 := by omega
      have HNN := Lib.hid hN
      clear hx hxl hxd hx2 hN
      refine wp_region_held_drew (S := (fun w' => w'.cell? ⟨11, kk, none⟩ = some (.int .i64 (L0 : Nat)) ∧ w'.cell? ⟨12, kk, none⟩ = some (.int .i64 (lb : Nat)))) (by kernel_rfl) ?_ (fun hHeld => ?_)
      ·exact ⟨t1, t2⟩
      refine opT 0 rfl ?_; refine opT 1 rfl ?_; refine opT 2 rfl ?_; refine opT 3 rfl ?_; refine opT 4 rfl ?_; refine opT 5 rfl ?_; refine opT 6 rfl ?_
      refine opD 7 rfl (fun K hK => ?_)
      go_simp
      (go_at_call 150; refine HG7.out.mono ?_; rintro e w3 ⟨hk3, he3⟩; rw [HX.out] at he3; obtain ⟨rfl, hR3⟩ := he3)
      refine hK.out _ _ ?_ (fun hHeld => ?_)
      ·exact ⟨hk3.fromDrew_.cellOld hGL1 t1, hk3.fromDrew_.cellOld hGL2 t2⟩
      clear hK K
      refine opT 8 rfl ?_; refine opT 9 rfl ?_
      refine wpAnyH_done (by kernel_rfl) ?_ _
      have K3 := Lib.hid (K2.out.trans (KF.of_read (g := g) (v := v') hk3.fromDrew_))
      have H3 := Lib.hid (H2.out.read hk3.fromDrew_ hR3)
      have HDC := Lib.hid (HD.out w3 b2 v' o K3.out H3.out)
      have hE3 := Lib.hid (KF.er4 HE.out H.out K3.out hB hG)
      clear hk3 hR3 t1 t2 hwN
      go_wp2_with fail
      refine HDC.out.mono ?_
      rintro e w4 ⟨hk4, he4⟩
      have K4 := Lib.hid (K3.out.trans (KF.of_read (g := g) (v := v') hk4))
      have HBL4 := Lib.hid (K4.out.below H.out hB)
      have hE4 := Lib.hid (KF.er4 HE.out H.out K4.out hB hG)
      cases hd : nd b2 with
      | none =>
       rw [hd] at he4
       replace he4 : e = .panicked (thrownI E 0) := he4
       subst he4
       have hR : R = .error 0 := by rw [← HRR.out]; exact Inf.rstep_dist HN2.out HH.out.1 HH.out.2.2 (by rw [HH.out.2.1, ← HLL.out.2]; exact HX.out) hd
       subst hR
       go_wp2_with fail
       exact ⟨rfl, rfl, HBL4.out⟩
      | some r =>
       obtain ⟨d, b3⟩ := r
       rw [hd] at he4
       replace he4 : e = .returned (.int .i64 d) ∧ RdB w4 gb s b3 := he4
       obtain ⟨rfl, hR4⟩ := he4
       obtain ⟨hd1, hb3l⟩ := HND.out _ _ _ hd
       have H4 := Lib.hid (H3.out.read hk4 hR4)
       have HDD := Lib.hid hd
       have dE := hE4.out.text
       clear hd hR4 hk4
       by_cases h30 : 30 ≤ d
       ·have hR : R = .error 0 := by rw [← HRR.out]; exact Inf.rstep_d30 HN2.out HH.out.1 HH.out.2.2 (by rw [HH.out.2.1, ← HLL.out.2]; exact HX.out) HDD.out h30
        subst hR
        have h30i : decide ((d : Int) < 30) = false := decide_eq_false (by omega)
        go_wp2_with fail
        refine (must_no g E w4 0).mono ?_
        rintro e w5 ⟨rfl, rfl⟩
        go_wp2_with fail
        exact ⟨rfl, rfl, HBL4.out⟩
       have h30i : decide ((d : Int) < 30) = true := decide_eq_true (by omega)
       have h30n : d < 30 := by omega
       have h30r : (d : Int) < 30 := by omega
       go_wp2_with fail
       refine (must_yes g w4 _).mono ?_
       rintro e w5 ⟨rfl, hw5⟩
       rw [hw5]
       clear hw5 w5
       obtain ⟨D0, hD0⟩ : ∃ D0, D0 = Inf.Dists.getD d 0 := ⟨_, rfl⟩
       obtain ⟨db, hdb⟩ : ∃ db, db = Inf.DistBits.getD d 0 := ⟨_, rfl⟩
       have hD0b : D0 ≤ 24577 := by rw [hD0]; exact Inf.dists_le d
       have hD01 : 1 ≤ D0 := by rw [hD0]; exact Inf.dists_pos d h30n
       have hdb13 : db ≤ 13 := by rw [hdb]; exact Inf.distBits_le d
       have hTw4 := HTB.out.below HBL4.out hG
       have t1 : w4.cell? ⟨13, d, none⟩ = some (.int .i64 (D0 : Nat)) := by
        have := hTw4.dists.cell rfl d (by omega)
        rw [Nat.zero_add, nats_at _ _ (show d < Inf.Dists.length from h30n), ← getD_at _ _ (show d < Inf.Dists.length from h30n), ← hD0] at this
        exact this
       have t2 : w4.cell? ⟨14, d, none⟩ = some (.int .i64 (db : Nat)) := by
        have := hTw4.distBits.cell rfl d (by omega)
        rw [Nat.zero_add, nats_at _ _ (show d < Inf.DistBits.length from h30n), ← getD_at _ _ (show d < Inf.DistBits.length from h30n), ← hdb] at this
        exact this
       have HDL := Lib.hid (And.intro hD0 hdb)
       have HG10 := Lib.hid (iget_any g gb s E w4.drew db b3 v' (.int .i64 most) (hE4.out.below (Below.here w4)) H4.out.blk.drew H4.out.rd.drew hGb (by omega) (by omega))
       have H30 := Lib.hid h30
       have HXX := Lib.hid (show Inf.get (Inf.LenBits.getD (k - 257) 0) b1 = some (x, b2) by rw [HH.out.2.1, ← HLL.out.2]; exact HX.out)
       clear hD0 hdb hTw4 dE h30
       go_upto_region 10 with (fail)
       cases hy : Inf.get db b3 with
       | none =>
        have hR : R = .error 0 := by rw [← HRR.out]; exact Inf.rstep_db HN2.out HH.out.1 HH.out.2.2 HXX.out HDD.out H30.out (by rw [← HDL.out.2]; exact hy)
        subst hR
        have HY := Lib.hid hy
        have HEND := Lib.hid (show ∀ w', Keeps (fun x => x = gb) w4 w' → StepI w B g gb s most E v (.error 0) (.panicked (thrownI E 0)) w' from fun w' k => ⟨rfl, (K4.out.trans (KF.of_read (g := g) (v := v') k)).below H.out hB⟩)
        clear hy
        refine wp_region_held_drew (S := (fun w' => w'.cell? ⟨13, d, none⟩ = some (.int .i64 (D0 : Nat)) ∧ w'.cell? ⟨14, d, none⟩ = some (.int .i64 (db : Nat)))) (by kernel_rfl) ?_ (fun hHeld => ?_)
        ·exact ⟨t1, t2⟩
        refine opT 0 rfl ?_; refine opT 1 rfl ?_; refine opT 2 rfl ?_; refine opT 3 rfl ?_; refine opT 4 rfl ?_; refine opT 5 rfl ?_; refine opT 6 rfl ?_
        refine opD 7 rfl (fun K hK => ?_)
        go_simp
        (go_at_call 150; refine HG10.out.mono ?_; rintro e w5 ⟨hk5, he5⟩; rw [HY.out] at he5; replace he5 : e = .panicked (thrownI E 0) := he5; subst he5; exact bodyPost_pan rfl (HEND.out _ hk5.fromDrew_))
       | some r =>
        obtain ⟨y, b4⟩ := r
        obtain ⟨hyl, hyd, hy2⟩ := Inf.get_some hy
        have hy13 : y < 8192 := Nat.lt_of_lt_of_le hy2 (Nat.pow_le_pow_right (show 0 < 2 by omega) hdb13)
        have hb4l : b4.length ≤ b3.length := by rw [hyd, List.length_drop]; omega
        have HY := Lib.hid hy
        have hRl := Inf.rstep_is (nl := Huf.next l 15 0 0) (nd := nd) (most := most) (go := go) (out := o) HN2.out HH.out.1 HH.out.2.2 HXX.out HDD.out H30.out (by rw [← HDL.out.2]; exact hy)
        rw [HRR.out, ← HDL.out.1, HH.out.2.1, ← HLL.out.1, ← HNN.out] at hRl
        obtain ⟨bk, hbk⟩ : ∃ bk, bk = D0 + y := ⟨_, rfl⟩
        rw [← hbk] at hRl
        have hwb : IntKind.i64.wrap ((D0 : Int) + y) = bk := by rw [hbk, Int.natCast_add]; exact IntWalk.i64_in _ (by omega)
        have hbkb : bk ≤ 40000 := by omega
        have hbk1 : 1 ≤ bk := by omega
        have HRL := Lib.hid hRl
        clear hy hyl hyd hy2 hbk hRl
        refine wp_region_held_drew (S := (fun w' => w'.cell? ⟨13, d, none⟩ = some (.int .i64 (D0 : Nat)) ∧ w'.cell? ⟨14, d, none⟩ = some (.int .i64 (db : Nat)))) (by kernel_rfl) ?_ (fun hHeld => ?_)
        ·exact ⟨t1, t2⟩
        refine opT 0 rfl ?_; refine opT 1 rfl ?_; refine opT 2 rfl ?_; refine opT 3 rfl ?_; refine opT 4 rfl ?_; refine opT 5 rfl ?_; refine opT 6 rfl ?_
        refine opD 7 rfl (fun K hK => ?_)
        go_simp
        (go_at_call 150; refine HG10.out.mono ?_; rintro e w5 ⟨hk5, he5⟩; rw [HY.out] at he5; obtain ⟨rfl, hR5⟩ := he5)
        refine hK.out _ _ ?_ (fun hHeld => ?_)
        ·exact ⟨hk5.fromDrew_.cellOld hGL3 t1, hk5.fromDrew_.cellOld hGL4 t2⟩
        clear hK K
        refine opT 8 rfl ?_; refine opT 9 rfl ?_
        refine wpAnyH_done (by kernel_rfl) ?_ _
        have K5 := Lib.hid (K4.out.trans (KF.of_read (g := g) (v := v') hk5.fromDrew_))
        have H5 := Lib.hid (H4.out.read hk5.fromDrew_ hR5)
        have hE5 := Lib.hid (KF.er4 HE.out H.out K5.out hB hG)
        have HBL := Lib.hid (K5.out.below H.out hB)
        have dE := hE5.out.text
        have dB := hE5.out.bound
        clear hk5 hR5 t1 t2 hwb HBL4
        obtain ⟨A, c, hv, hc, _⟩ := H5.out.own.form
        subst hv
        have c1 := H5.out.c1
        have c2 := H5.out.c2
        go_upto_region 11 with (fail)
        by_cases hbo : o.length < bk
        ·have hR := HRL.out
         rw [if_pos hbo] at hR
         subst hR
         have hbi : decide (bk ≤ o.length) = false := decide_eq_false (by omega)
         clear hbo
         refine wp_region_held_drew (S := (fun w' => w'.cell? ⟨g, 1, none⟩ = some (.slice A o.length c) ∧ w'.cell? ⟨0, 0, none⟩ = some (.iface 290 (.pointer (some (E 0)))))) (by kernel_rfl) ?_ (fun hHeld => ?_)
         ·exact ⟨c1, dE⟩
         refine opT 0 rfl ?_; refine opT 1 rfl ?_; refine opT 2 rfl ?_; refine opT 3 rfl ?_; refine opT 4 rfl ?_; refine opT 5 rfl ?_; refine opT 6 rfl ?_; refine opT 7 rfl ?_; refine opT 8 rfl ?_
         refine opD 9 rfl (fun K hK => ?_)
         go_simp
         (go_at_call 175; refine (must_no g E _ 0).mono ?_; rintro e w6 ⟨rfl, rfl⟩; exact bodyPost_pan rfl ⟨rfl, HBL.out.drew⟩)
        ·have hRl := HRL.out
         rw [if_neg hbo] at hRl
         have HRL2 := Lib.hid hRl
         have hbi : decide (bk ≤ o.length) = true := decide_eq_true (by omega)
         have HBO := Lib.hid (show bk ≤ o.length by omega)
         clear hbo hRl
         refine wp_region_held_drew (S := (fun w' => w'.cell? ⟨g, 1, none⟩ = some (.slice A o.length c) ∧ w'.cell? ⟨0, 0, none⟩ = some (.iface 290 (.pointer (some (E 0)))))) (by kernel_rfl) ?_ (fun hHeld => ?_)
         ·exact ⟨c1, dE⟩
         refine opT 0 rfl ?_; refine opT 1 rfl ?_; refine opT 2 rfl ?_; refine opT 3 rfl ?_; refine opT 4 rfl ?_; refine opT 5 rfl ?_; refine opT 6 rfl ?_; refine opT 7 rfl ?_; refine opT 8 rfl ?_
         refine opD 9 rfl (fun K hK => ?_)
         go_simp
         (go_at_call 175; refine (must_yes g _ _).mono ?_; rintro e w6 ⟨rfl, rfl⟩)
         refine hK.out _ _ ?_ (fun hHeld => ?_)
         ·exact ⟨c1, dE⟩
         clear hK K
         (try simp only [Act.put, nz1, nz2, nz3, nz4, nz5, nz6])
         refine wpAnyH_done (by kernel_rfl) ?_ _
         clear hbi
         go_upto_region 12 with (fail)
         obtain ⟨M, hM⟩ : ∃ M, M = o.length + N := ⟨_, rfl⟩
         have hwM : IntKind.i64.wrap ((o.length : Int) + N) = M := by rw [hM, Int.natCast_add]; exact IntWalk.i64_in _ (by omega)
         have HMM := Lib.hid hM
         by_cases hbm : most < o.length + N
         ·have hR := HRL2.out
          rw [if_pos hbm] at hR
          subst hR
          have hbi : decide (M ≤ most) = false := decide_eq_false (by omega)
          clear hbm hM
          refine wp_region_held_drew (S := (fun w' => w'.cell? ⟨g, 1, none⟩ = some (.slice A o.length c) ∧ w'.cell? ⟨g, 2, none⟩ = some (.int .i64 most) ∧ w'.cell? ⟨1, 0, none⟩ = some (.iface 290 (.pointer (some (E 1)))))) (by kernel_rfl) ?_ (fun hHeld => ?_)
          ·exact ⟨c1, c2, dB⟩
          refine opT 0 rfl ?_; refine opT 1 rfl ?_; refine opT 2 rfl ?_; refine opT 3 rfl ?_; refine opT 4 rfl ?_; refine opT 5 rfl ?_; refine opT 6 rfl ?_; refine opT 7 rfl ?_; refine opT 8 rfl ?_; refine opT 9 rfl ?_; refine opT 10 rfl ?_; refine opT 11 rfl ?_; refine opT 12 rfl ?_; refine opT 13 rfl ?_
          refine opD 14 rfl (fun K hK => ?_)
          go_simp
          (go_at_call 175; refine (must_no g E _ 1).mono ?_; rintro e w7 ⟨rfl, rfl⟩; exact bodyPost_pan rfl ⟨rfl, HBL.out.drew.drew⟩)
         ·have hRl := HRL2.out
          rw [if_neg hbm] at hRl
          have HRL3 := Lib.hid hRl
          have hbi : decide (M ≤ most) = true := decide_eq_true (by omega)
          have HBM := Lib.hid (show o.length + N ≤ most by omega)
          clear hbm hRl hM
          refine wp_region_held_drew (S := (fun w' => w'.cell? ⟨g, 1, none⟩ = some (.slice A o.length c) ∧ w'.cell? ⟨g, 2, none⟩ = some (.int .i64 most) ∧ w'.cell? ⟨1, 0, none⟩ = some (.iface 290 (.pointer (some (E 1)))))) (by kernel_rfl) ?_ (fun hHeld => ?_)
          ·exact ⟨c1, c2, dB⟩
          refine opT 0 rfl ?_; refine opT 1 rfl ?_; refine opT 2 rfl ?_; refine opT 3 rfl ?_; refine opT 4 rfl ?_; refine opT 5 rfl ?_; refine opT 6 rfl ?_; refine opT 7 rfl ?_; refine opT 8 rfl ?_; refine opT 9 rfl ?_; refine opT 10 rfl ?_; refine opT 11 rfl ?_; refine opT 12 rfl ?_; refine opT 13 rfl ?_
          refine opD 14 rfl (fun K hK => ?_)
          go_simp
          (go_at_call 175; refine (must_yes g _ _).mono ?_; rintro e w7 ⟨rfl, rfl⟩)
          refine hK.out _ _ ?_ (fun hHeld => ?_)
          ·exact ⟨c1, c2, dB⟩
          clear hK K
          (try simp only [Act.put, nz1, nz2, nz3, nz4, nz5, nz6])
          refine wpAnyH_done (by kernel_rfl) ?_ _
          clear hbi hwM dB dE
          have H7 := Lib.hid H5.out.drew.drew
          have K7 := Lib.hid K5.out.drew.drew
          have HNl := Lib.hid (show N ≤ 300 from hNb)
          clear c1 c2
          go_upto_block 3 with (fail)
          obtain ⟨w7, hw7⟩ : ∃ w7, w7 = w5.drew.drew := ⟨_, rfl⟩
          rw [← hw7] at H7 K7
          have hw72 : w5.drewN 2 = w7 := by rw [hw7]; rfl
          first | rw [← hw7] | rw [hw72]
          clear hw7 hw72 K5 H5 hE5 HBL
          go_wp2_with fail
          go_loopw [101] (fun i wr => ∃ (j : Nat) (v2 : Value) (o2 : List UInt8), j ≤ N ∧ i = .int .i64 j ∧ RdI wr B g gb s most b4 v2 o2 ∧ KF w wr g gb v v2 ∧ o2.length = o.length + j ∧ Mat.copy bk (N - j) o2 = Mat.copy bk N o) (fun i _ => N - (intOf i).toNat)
          case atStart => exact ⟨0, _, o, Nat.zero_le _, rfl, H7.out, K7.out, rfl, rfl⟩
          case round =>
           clear H7 K7
           obtain ⟨j, v2, o2, hj, rfl, hI2, hK2, hlen, hcopy⟩ := hrel
           by_cases hjN : j < N
           ·obtain ⟨i0, hi, hz0, hz1, hz2⟩ := info_parts byteInfo
            obtain ⟨A2, c2, rfl, hc2, _⟩ := hI2.own.form
            obtain ⟨gA, oA, rfl, _, _⟩ := hI2.own.addr (by have := HBO.out; omega)
            obtain ⟨I, hI⟩ : ∃ I, I = o2.length - bk := ⟨_, rfl⟩
            have hbo2 : bk ≤ o2.length := by have := HBO.out; omega
            have hIl : I < o2.length := by omega
            obtain ⟨x, hx⟩ : ∃ x, x = o2.getD I 0 := ⟨_, rfl⟩
            have hcx := hI2.own.reads.2.cell rfl I (by omega)
            rw [bytes_at, List.getElem?_eq_getElem hIl, Option.map_some, show o2[I] = x by rw [hx, List.getD_eq_getElem?_getD, List.getElem?_eq_getElem hIl]; rfl] at hcx
            have e1 := hI2.c1
            have hIi : (o2.length : Int) - bk = I := by omega
            have hIw : IntKind.i64.wrap (I : Int) = I := IntWalk.i64_in _ (by have := HBM.out; omega)
            have hIl2 : (I : Int) < o2.length := by omega
            have hcs : Mat.copy bk (N - (j + 1)) (o2 ++ [x]) = Mat.copy bk N o := by
             rw [show N - j = (N - (j + 1)) + 1 by omega, Mat.copy, ← hI, ← hx] at hcopy
             exact hcopy
            have hjl : j < 300 := by omega
            have hol2 : o2.length + 1 ≤ 300000 := by have := HBM.out; omega
            have nT : some g ≠ (Value.slice (some ⟨gA, oA, none⟩) o2.length c2).ownBlock := fun e => hI2.ng e.symm
            have hB2 : B ≤ wr.heap.size := Nat.le_trans hB hK2.keeps.size
            have hby : bytes o2 ++ [Value.int .u8 (x.toNat : Int)] = bytes (o2 ++ [x]) := by rw [bytes_append]; rfl
            have HIX := Lib.hid hI2
            have HKX := Lib.hid hK2
            have HLX := Lib.hid (And.intro hlen (And.intro hcs hby))
            have hBS := Blk.drew (Blk.new wr 5 #[.int .u8 (x.toNat : Int)] rfl)
            have hjNi : (j : Int) < N := by omega
            have hI8 := hI2.below ((Below.refl wr.heap.size wr).alloc (Nat.le_refl _) (.cells #[.int .u8 (x.toNat : Int)] 5)).drew
            have HI8 := Lib.hid hI8
            have hgl := hI2.lg
            clear hI hx hlen hcopy hcs hK2 hI2 hI8 hby
            go_wp2_with fail
            go_region_law
             ((refine step_append_Own _ rfl (.tmp 107) (.tmp 121) 102 102 rfl B 5 i0 (.int .u8 0) 1 1 Tryz.underlying102 hi hz0 hz1 hz2 rfl (by decide) (.slice (some ⟨gA, oA, none⟩) o2.length c2) o2.length (bytes o2) rfl HI8.out.own (bytes_one _) 1 [.int .u8 (x.toNat : Int)] (Src.blk Tryz.underlying102 hBS rfl (by intro u hu; cases List.mem_singleton.1 hu; rfl)) (by unfold maxLen; omega) (by omega) (by simp; omega) ?_; intro vT wT hownT hgT hatT; obtain ⟨Ap, cp, rfl, hcp, _⟩ := hownT.form; have B5 := HI8.out.blk.grown hgT nT; have d5 : wT.cell? ⟨g, 1, none⟩ = some (.slice (some ⟨gA, oA, none⟩) o2.length c2) := (by rw [B5.cell]; rfl); have f5 := B5.free 1))
            all_goals
             obtain ⟨hP1, hP2⟩ := RdI.push HI8.out (xs := [x]) rfl (by rw [← HLX.out.2.2]; exact hownT) hgT hatT
             have HP1 := Lib.hid hP1
             have HP2 := Lib.hid (HKX.out.trans ((KF.of_below (g := g) (gb := gb) (v := .slice (some ⟨gA, oA, none⟩) o2.length c2) ((Below.refl wr.heap.size wr).alloc (Nat.le_refl _) (.cells #[.int .u8 (x.toNat : Int)] 5)).drew).trans hP2))
             clear hP1 hP2 hownT hgT hatT B5 d5 f5 hBS e1 hcx
             go_wp2_with fail
             go_roundw
             case rel => exact ⟨j + 1, _, o2 ++ [x], hjN, by go_num, HP1.out, HP2.out, by rw [List.length_append, HLX.out.1]; rfl, HLX.out.2.1⟩
             case measure => simp [intOf]; omega
           ·have hjN2 : j = N := by omega
            subst hjN2
            rw [Nat.sub_self] at hcopy
            have hcp : o2 = Mat.copy bk j o := hcopy
            have HI2 := Lib.hid hI2
            have HK2 := Lib.hid hK2
            have HCP := Lib.hid (And.intro hcp hlen)
            clear hcp hcopy hlen hI2 hK2
            go_wp2_with fail
            go_roundg f
            case rel => exact ⟨b4, v2, o2, by omega, HI2.out, HK2.out, by rw [HCP.out.2]; exact HBM.out, by rw [← HGO.out, HCP.out.1]; exact HRL3.out.symm⟩
            case measure => exact Nat.lt_succ_self f
end
end Go.Proofs.YtkegkelaffohjaaGreatDoor
