/- inflate.reader.block and its closures: the walks. Printed by mk.py. -/
import Derived.Test.YtkegkelaffohjaaGreatDoorQCFilmTwiceInfTok
import Derived.Test.YtkegkelaffohjaaGreatDoorQCFilmTwiceInfDyn
import Derived.Test.YtkegkelaffohjaaGreatDoorQCFilmTwiceFixLen
import Derived.Test.YtkegkelaffohjaaGreatDoorKCFilmTwice2
namespace Go.Proofs.YtkegkelaffohjaaGreatDoor
open Go Go.RowKit
theorem get_one (bs : List Bool) (j : Nat) (h : j < bs.length) : Inf.get 1 (bs.drop j) = some ((bs[j]).toNat, bs.drop (j + 1)) := by
 have e := List.drop_eq_getElem_cons h
 unfold Inf.get
 rw [if_neg (by rw [List.length_drop]; omega), e]
 show some (Bit.val [bs[j]], bs.drop (j + 1)) = _
 rw [u32_bit]
theorem two_step (n j : Nat) (b : Bool) (h : n < 2 ^ j) : 2 * n + b.toNat < 2 ^ (j + 1) := by
 have : b.toNat ≤ 1 := by cases b <;> decide
 rw [Nat.pow_succ]
 omega
theorem five_next (bs : List Bool) (j : Nat) (h : j < bs.length) : Bit.val ((bs.take (j + 1)).reverse) = 2 * Bit.val ((bs.take j).reverse) + (bs[j]).toNat := by
 rw [List.take_succ_eq_append_getElem h, List.reverse_append]
 simp [Bit.val]
 omega
section
variable (B g gb most : Nat) (s : ByteArray) (E : Nat → Addr) (w : World)
set_option maxHeartbeats 4000000 in
set_option maxRecDepth 100000 in
theorem blk1_any (gr : Nat) (bs : List Bool) (c1 c2 : Value) (hE : Er4 w E) (hb : Blk w g 187 #[.pointer (some ⟨gb, 0, none⟩), c1, c2]) (hr : Blk w gr 183 #[.pointer (some ⟨g, 0, none⟩)]) (hR : RdB w gb s bs) (hne : g ≠ gb) (hnr : gr ≠ gb) (hG : 15 ≤ gb) (hs : s.size ≤ 300000) :
  Calls Tryz.prog 154 #[.pointer (some ⟨gr, 0, none⟩)] w fun e w' => ReadI w gb s E (Inf.five bs) e w' := by
 have hgl : gb < w.heap.size := by obtain ⟨p, h1, _⟩ := hR.ex; exact h1.lt
 have HS0 := Lib.hid (show DyS w g gb s c1 c2 bs w from ⟨hb, hR, Keeps.refl _ _⟩)
 have HRB := Lib.hid hr
 have HE := Lib.hid hE
 obtain ⟨R, hRe⟩ : ∃ R, R = Inf.five bs := ⟨_, rfl⟩
 rw [← hRe]
 unfold Inf.five at hRe
 have HR := Lib.hid hRe
 clear hb hr hR hE hRe
 go_enter Tryz.func154, Tryz.ntmps154
 go_wp2_with fail
 go_loopw [2, 3] (fun nv iv wr => ∃ (j n : Nat), j ≤ 5 ∧ j ≤ bs.length ∧ iv = .int .i64 j ∧ nv = .int .i64 n ∧ n = Bit.val ((bs.take j).reverse) ∧ n < 2 ^ j ∧ DyS w g gb s c1 c2 (bs.drop j) wr) (fun _ iv _ => 5 - (intOf iv).toNat)
 case atStart => exact ⟨0, 0, by omega, by omega, rfl, rfl, rfl, by decide, HS0.out⟩
 case round =>
  clear HS0
  obtain ⟨j, n, hj5, hjl, rfl, rfl, hn, hnl, hS⟩ := hrel
  have HS := Lib.hid hS
  have HN := Lib.hid hn
  clear hS hn
  by_cases hlt : j < 5
  ·have k0 : wr.cell? ⟨gr, 0, none⟩ = some (.pointer (some ⟨g, 0, none⟩)) := by rw [(HRB.out.keeps HS.out.kp hnr).cell]; rfl
   have hn32 : n < 32 := Nat.lt_of_lt_of_le hnl (Nat.pow_le_pow_right (show 0 < 2 by omega) (show j ≤ 5 by omega))
   have hji : (j : Int) < 5 := by omega
   go_wp2_with fail
   refine (iget_any g gb s E wr 1 (bs.drop j) c1 c2 (HS.out.er HE.out hG hgl) HS.out.blk HS.out.rd hG (by omega) (by omega)).mono ?_
   rintro e w2 ⟨hk2, he2⟩
   cases hx : Inf.get 1 (bs.drop j) with
   | none =>
    rw [hx] at he2
    replace he2 : e = .panicked (thrownI E 0) := he2
    subst he2
    have hR : R = none := by
     unfold Inf.get at hx
     split at hx
     ·rename_i h1
      rw [List.length_drop] at h1
      rw [HR.out, if_pos (by omega)]
     ·cases hx
    subst hR
    go_wp2_with fail
    exact ⟨rfl, HS.out.kp.trans hk2 (fun _ _ e => e), rfl⟩
   | some r =>
    obtain ⟨x, b1⟩ := r
    rw [hx] at he2
    replace he2 : e = .returned (.int .i64 x) ∧ RdB w2 gb s b1 := he2
    obtain ⟨rfl, hR2⟩ := he2
    obtain ⟨h1, h2, h3⟩ := Inf.get_some hx
    rw [List.length_drop] at h1
    have hjb : j < bs.length := by omega
    obtain ⟨b, hbx⟩ : ∃ b, b = bs[j] := ⟨_, rfl⟩
    have hxb : x = b.toNat := by
     rw [get_one bs j hjb] at hx
     injection hx with hx
     injection hx with hx _
     rw [hbx, hx]
    subst hxb
    have hS2 := HS.out.step hne hk2 hR2
    rw [h2, List.drop_drop] at hS2
    have HS2 := Lib.hid hS2
    have hor := i64_or_bit n b (by omega)
    have hfn := five_next bs j hjb
    rw [← HN.out, ← hbx] at hfn
    have HFN := Lib.hid hfn
    obtain ⟨n2, hn2⟩ : ∃ n2, n2 = 2 * n + b.toNat := ⟨_, rfl⟩
    have hbl : b.toNat ≤ 1 := by cases b <;> decide
    rw [← hn2] at hor
    have HN2 := Lib.hid (And.intro hn2 (show n2 < 2 ^ (j + 1) by rw [hn2]; exact two_step n j b hnl))
    have hsh : (n : Int) * 2 = ((2 * n : Nat) : Int) := by omega
    have hor2 : bits .or .i64 (2 * (n : Int)) (b.toNat : Int) = (n2 : Int) := by rw [show (2 * (n : Int)) = ((2 * n : Nat) : Int) by omega]; exact hor
    have HOR := Lib.hid hor2
    clear hx hk2 hR2 h1 h2 h3 hbx hS2 hfn hn2
    go_wp2_with fail
    go_roundw
    case rel => exact ⟨j + 1, n2, hlt, hjb, by go_num, by first | rfl | (rw [HOR.out]) | go_num, by rw [HN2.out.1]; exact HFN.out.symm, HN2.out.2, HS2.out⟩
    case measure => simp [intOf]; omega
  ·have hj : j = 5 := by omega
   subst hj
   have hR : R = some (n, bs.drop 5) := by rw [HR.out, if_neg (by omega), ← HN.out]
   subst hR
   go_wp2_with fail
   go_ret
   exact ⟨HS.out.kp, rfl, HS.out.rd⟩
set_option maxRecDepth 100000 in
theorem blk2_any (gr gd gt Bt : Nat) (l : List Nat) (tv : Value) (bs : List Bool) (c1 c2 : Value) (hE : Er4 w E) (hb : Blk w g 187 #[.pointer (some ⟨gb, 0, none⟩), c1, c2]) (hr : Blk w gr 183 #[.pointer (some ⟨g, 0, none⟩)]) (hd : Blk w gd 239 #[.pointer (some ⟨gt, 0, none⟩)])
  (hT : TreeAt w Bt gt l (Huf.syms l) tv) (hR : RdB w gb s bs) (hG : 15 ≤ gb) (hgt : gb ≠ gt) (hvg : tv.ownBlock ≠ some gb) (hs : s.size ≤ 1099511627776) (hk : Huf.K l 15 ≤ 2 ^ 15) (hm : l.length ≤ 300) :
  Calls Tryz.prog 156 #[.pointer (some ⟨gr, 0, none⟩), .pointer (some ⟨gd, 0, none⟩)] w fun e w' => ReadI w gb s E (Huf.next l 15 0 0 bs) e w' := by
 have k0 : w.cell? ⟨gr, 0, none⟩ = some (.pointer (some ⟨g, 0, none⟩)) := by rw [hr.cell]; rfl
 have k1 : w.cell? ⟨gd, 0, none⟩ = some (.pointer (some ⟨gt, 0, none⟩)) := by rw [hd.cell]; rfl
 have hN := inext_any g gb s E w gt Bt l tv bs c1 c2 hE hb hT hR hG hgt hvg hs hk hm
 obtain ⟨R, hRe⟩ : ∃ R, R = Huf.next l 15 0 0 bs := ⟨_, rfl⟩
 rw [← hRe] at hN ⊢
 clear hRe hr hd
 go_enter Tryz.func156, Tryz.ntmps156
 go_wp2_with fail
 refine hN.mono ?_
 rintro e w1 ⟨hk1, he⟩
 cases R with
 | none =>
  replace he : e = .panicked (thrownI E 0) := he
  subst he
  go_wp2_with fail
  exact ⟨rfl, hk1, rfl⟩
 | some r =>
  replace he : e = .returned (.int .i64 r.1) ∧ RdB w1 gb s r.2 := he
  obtain ⟨rfl, hR1⟩ := he
  go_wp2_with fail
  go_ret
  exact ⟨hk1, rfl, hR1⟩
end
namespace Inf
def fin (x : Nat) (q : Except Nat (List Bool × List UInt8)) : Except Nat (Bool × List Bool × List UInt8) :=
 match q with
 | .error e => .error e
 | .ok (b3, out2) => .ok (x == 1, b3, out2)
section
variable {most x y : Nat} {bs b1 b2 : List Bool} {out : List UInt8}
theorem bk_1 (h : get 1 bs = none) : rblock most bs out = .error 0 := by unfold rblock; rw [h]
theorem bk_2 (h : get 1 bs = some (x, b1)) (h2 : get 2 b1 = none) : rblock most bs out = .error 0 := by unfold rblock; rw [h]; simp only; rw [h2]
theorem bk_s (h : get 1 bs = some (x, b1)) (h2 : get 2 b1 = some (0, b2)) : rblock most bs out = fin x (rstored most b2 out) := by unfold rblock fin; rw [h]; simp only; rw [h2]; rfl
theorem bk_f (h : get 1 bs = some (x, b1)) (h2 : get 2 b1 = some (1, b2)) : rblock most bs out = fin x (rtoks (Huf.next fixedL 15 0 0) five most (b2.length + 1) b2 out) := by unfold rblock fin; rw [h]; simp only; rw [h2]; simp only; rw [if_neg (by decide), if_pos trivial]; generalize rtoks (Huf.next fixedL 15 0 0) five most (b2.length + 1) b2 out = q; cases q <;> rfl
theorem bk_dn (h : get 1 bs = some (x, b1)) (h2 : get 2 b1 = some (2, b2)) (h3 : rdynamic b2 = none) : rblock most bs out = .error 0 := by unfold rblock; rw [h]; simp only; rw [h2]; simp only; rw [if_neg (by decide), if_neg (by decide), if_pos trivial, h3]
theorem bk_d (h : get 1 bs = some (x, b1)) (h2 : get 2 b1 = some (2, b2)) {ls : List Nat × List Nat} {b3 : List Bool} (h3 : rdynamic b2 = some (ls, b3)) : rblock most bs out = fin x (rtoks (Huf.next ls.1 15 0 0) (Huf.next ls.2 15 0 0) most (b3.length + 1) b3 out) := by unfold rblock fin; rw [h]; simp only; rw [h2]; simp only; rw [if_neg (by decide), if_neg (by decide), if_pos trivial, h3]; simp only; generalize rtoks (Huf.next ls.1 15 0 0) (Huf.next ls.2 15 0 0) most (b3.length + 1) b3 out = q; cases q <;> rfl
theorem bk_3 (h : get 1 bs = some (x, b1)) (h2 : get 2 b1 = some (3, b2)) : rblock most bs out = .error 0 := by unfold rblock; rw [h]; simp only; rw [h2]; rfl
end
end Inf
def BlkI (w : World) (B g gb : Nat) (s : ByteArray) (most : Nat) (E : Nat → Addr) (R : Except Nat (Bool × List Bool × List UInt8)) (e : Ending) (w' : World) : Prop :=
 match R with
 | .error k => e = .panicked (thrownI E k) ∧ Below B w w'
 | .ok q => e = .returned (.bool q.1) ∧ ∃ v', RdI w' B g gb s most q.2.1 v' q.2.2 ∧ Below B w w'
section
variable (B g gb most : Nat) (s : ByteArray) (E : Nat → Addr) (w : World)
set_option maxHeartbeats 8000000 in
set_option maxRecDepth 100000 in
theorem iblock_any (bs : List Bool) (v : Value) (out : List UInt8) (hE : Er4 w E) (hTb : Tabs w) (h : RdI w B g gb s most bs v out) (hG : 15 ≤ B) (hB : B ≤ w.heap.size) (hs : s.size ≤ 300000) (hm : most ≤ 300000) (ho : out.length ≤ most) :
  Calls Tryz.prog 118 #[.pointer (some ⟨g, 0, none⟩)] w fun e w' => BlkI w B g gb s most E (Inf.rblock most bs out) e w' := by
 obtain ⟨R, hRe⟩ : ∃ R, R = Inf.rblock most bs out := ⟨_, rfl⟩
 rw [← hRe]
 have HR := Lib.hid hRe
 clear hRe
 have hGb : 15 ≤ gb := Nat.le_trans hG h.bb
 obtain ⟨gr, hgr⟩ : ∃ gr, gr = w.heap.size := ⟨_, rfl⟩
 have hb0 : Below w.heap.size w (w.alloc (.cells #[.pointer (some ⟨g, 0, none⟩)] 183)) := (Below.refl _ _).alloc (Nat.le_refl _) _
 have HBR := Blk.new w 183 #[.pointer (some ⟨g, 0, none⟩)] hgr
 have H0 := Lib.hid h
 have K0 := KF.of_below (g := g) (gb := gb) (v := v) hb0
 have h0 := h.below hb0
 have hE0 := hE.below hb0
 have hgg : gr ≠ g := by have := h.lg; omega
 have hgb : gr ≠ gb := by have := h.lb; omega
 have hgv : v.ownBlock ≠ some gr := fun e => by have := (h.own.lt _ e).2; omega
 have HTB := Lib.hid hTb
 clear h hE hTb
 have hmf : ∀ (fn : Fn) (first cap : Array Value) (w : World), (Instr.makeFunc fn first cap).run Tryz.prog w = .ok (.func fn first cap) w := fun _ _ _ _ => rfl
 go_enter Tryz.func118, Tryz.ntmps118
 go_upto_region 1 with (fail)
 rw [← hgr]
 generalize w.alloc (.cells #[.pointer (some ⟨g, 0, none⟩)] 183) = w1 at *
 have HRB := Lib.hid HBR
 have c0r : w1.cell? ⟨gr, 0, none⟩ = some (.pointer (some ⟨g, 0, none⟩)) := by rw [HBR.cell]; rfl
 clear hgr HBR
 go_wp2_with fail
 refine (iget_any g gb s E w1 1 bs v (.int .i64 most) hE0 h0.blk h0.rd hGb (by omega) (by omega)).mono ?_
 rintro e w2 ⟨hk2, he2⟩
 have K2 := K0.trans (KF.of_read (g := g) (v := v) hk2)
 cases hx : Inf.get 1 bs with
 | none =>
  rw [hx] at he2
  replace he2 : e = .panicked (thrownI E 0) := he2
  subst he2
  have hR : R = .error 0 := by rw [HR.out]; exact Inf.bk_1 hx
  subst hR
  go_wp2_with fail
  exact ⟨rfl, rfl, K2.below H0.out hB⟩
 | some r =>
 obtain ⟨x, b1⟩ := r
 rw [hx] at he2
 replace he2 : e = .returned (.int .i64 x) ∧ RdB w2 gb s b1 := he2
 obtain ⟨rfl, hR2⟩ := he2
 have h2 := h0.read hk2 hR2
 have HX := Lib.hid hx
 have hE2 := KF.er4 (H0.out |> fun _ => hE0) h0 (KF.of_read (g := g) (v := v) hk2) (Nat.le_trans hB K0.keeps.size) hG
 obtain ⟨lb, hlb⟩ : ∃ lb : Bool, lb = (x == 1) := ⟨_, rfl⟩
 have hxl : ((x : Int) == 1) = lb := by
  rw [hlb, Bool.eq_iff_iff, beq_iff_eq, beq_iff_eq]
  omega
 have HLB := Lib.hid hlb
 have c0r2 : w2.cell? ⟨gr, 0, none⟩ = some (.pointer (some ⟨g, 0, none⟩)) := by rw [(HRB.out.keeps hk2 hgb).cell]; rfl
 clear hx hR2 hlb
 go_wp2_with fail
 refine (iget_any g gb s E w2 2 b1 v (.int .i64 most) hE2 h2.blk h2.rd hGb (by omega) (by omega)).mono ?_
 rintro e w3 ⟨hk3, he3⟩
 have K3 := K2.trans (KF.of_read (g := g) (v := v) hk3)
 cases hy : Inf.get 2 b1 with
 | none =>
  rw [hy] at he3
  replace he3 : e = .panicked (thrownI E 0) := he3
  subst he3
  have hR : R = .error 0 := by rw [HR.out]; exact Inf.bk_2 HX.out hy
  subst hR
  go_wp2_with fail
  exact ⟨rfl, rfl, K3.below H0.out hB⟩
 | some r =>
 obtain ⟨y, b2⟩ := r
 rw [hy] at he3
 replace he3 : e = .returned (.int .i64 y) ∧ RdB w3 gb s b2 := he3
 obtain ⟨rfl, hR3⟩ := he3
 obtain ⟨_, _, hy4⟩ := Inf.get_some hy
 replace hy4 : y < 4 := hy4
 have H3 := h2.read hk3 hR3
 have hE3 := KF.er4 hE2 h2 (KF.of_read (g := g) (v := v) hk3) (Nat.le_trans hB K2.keeps.size) hG
 have HRB3 := Lib.hid ((HRB.out.keeps hk2 hgb).keeps hk3 hgb)
 have c0r : w3.cell? ⟨gr, 0, none⟩ = some (.pointer (some ⟨g, 0, none⟩)) := by rw [HRB3.out.cell]; rfl
 have hgrl : gr < w3.heap.size := HRB3.out.lt
 have hB3 : B ≤ w3.heap.size := Nat.le_trans hB K3.keeps.size
 have HTB3 := Lib.hid (HTB.out.below (K3.below H0.out hB) hG)
 have HY := Lib.hid hy
 clear hy hk2 hk3 hR3 c0r2 h2 hE2 h0 hE0 K0 K2
 rcases (show y = 0 ∨ y = 1 ∨ y = 2 ∨ y = 3 by omega) with rfl | rfl | rfl | rfl
 ·-- stored
  have hR := HR.out
  rw [Inf.bk_s HX.out HY.out] at hR
  go_wp2_with fail
  refine (istored_any B g gb most s E w3 b2 v out hE3 H3 hG hB3 hs hm ho).mono ?_
  rintro e w4 he4
  cases hq : Inf.rstored most b2 out with
  | error k =>
   rw [hq] at he4 hR
   replace hR : R = .error k := hR
   obtain ⟨rfl, hb4⟩ := he4
   subst hR
   go_wp2_with fail
   exact ⟨rfl, rfl, (K3.below H0.out hB).trans hb4⟩
  | ok q =>
   obtain ⟨b3, o3⟩ := q
   rw [hq] at he4 hR
   replace hR : R = .ok (x == 1, b3, o3) := hR
   obtain ⟨rfl, v4, H4, K4⟩ := he4
   rw [← HLB.out] at hR
   subst hR
   clear hq
   go_wp2_with fail
   go_ret
   exact ⟨rfl, v4, H4, (K3.below H0.out hB).trans (K4.below H3 hB3)⟩
 ·-- fixed
  have hR := HR.out
  rw [Inf.bk_f HX.out HY.out] at hR
  have HTK := Lib.hid (show ∀ (w4 w5 : World) (gt : Nat) (tv : Value), Below w3.heap.size w3 w4 → Below w4.heap.size w4 w5 → TreeAt w5 w4.heap.size gt Inf.fixedL (Huf.syms Inf.fixedL) tv → RdI w5 B g gb s most b2 v out → KF w w5 g gb v v →
    Calls Tryz.prog 152 #[.pointer (some ⟨g, 0, none⟩), .pointer (some ⟨gt, 0, none⟩), .func (.func 154) #[] #[.pointer (some ⟨gr, 0, none⟩)]] w5 fun e w' => StepI w5 B g gb s most E v (Inf.rtoks (Huf.next Inf.fixedL 15 0 0) Inf.five most (b2.length + 1) b2 out) e w' from fun w4 w5 gt tv hb4 hb5 hT5 H5 K5 => by
   have hb35 := hb4.trans (hb5.mono hb4.size)
   have hE5 := hE3.below hb35
   have hgt1 : gt ≠ g := by have := hT5.bg; have := hb4.size; have := H3.lg; omega
   have hgt2 : gt ≠ gb := by have := hT5.bg; have := hb4.size; have := H3.lb; omega
   have hlo : ∀ x, tv.ownBlock = some x → w3.heap.size ≤ x := fun x hx => Nat.le_trans hb4.size (hT5.own.lt x hx).1
   have hRB5 := HRB3.out.below hb35 hgrl
   exact itokens_any B g gb most s E w5 gt _ _ Inf.fixedL Inf.five b2 v out hE5 (HTB3.out.below hb35 HTB3.out.size) H5 ⟨⟨w4.heap.size, tv, hT5, fun e => by have := hlo _ e; have := H3.lg; omega, fun e => by have := hlo _ e; have := H3.lb; omega, fun e => by have := (H3.own.lt _ e).2; have := hT5.bg; have := hb4.size; omega, fun x hx e => by have := (H3.own.lt _ hx).2; have := hlo _ e; omega⟩, fun e => hgt1 e.symm, fun e => hgt2 e.symm⟩ (fun _ => by kernel_rfl) Inf.fixed_good (by rw [fixedL_length]; decide) (fun b d r h => ⟨by have := Inf.five_lt b d r h; omega, Inf.five_len b d r h⟩)
    (fun W b v' o kf rdi => blk1_any g gb s E W gr b v' (.int .i64 most) (kf.er4 hE5 H5 (Nat.le_trans hB3 hb35.size) hG) rdi.blk (hRB5.keeps kf.keeps (fun e => by rcases e with e | e | e; exact hgg e; exact hgb e; exact hgv e)) rdi.rd rdi.ne hgb hGb hs) hG (Nat.le_trans hB3 hb35.size) hs hm ho)
  go_upto_region 7 with (fail)
  cases hq : Inf.rtoks (Huf.next Inf.fixedL 15 0 0) Inf.five most (b2.length + 1) b2 out with
  | error k =>
   rw [hq] at hR
   replace hR : R = .error k := hR
   subst hR
   have HRT := Lib.hid hq
   clear hq
   refine wp_region_held_drew (S := (fun w' => w'.cell? ⟨gr, 0, none⟩ = some (.pointer (some ⟨g, 0, none⟩)))) (by kernel_rfl) ?_ (fun hHeld => ?_)
   ·exact c0r
   refine opT 0 rfl ?_; refine opT 1 rfl ?_; refine opT 4 rfl ?_
   refine opD 2 rfl (fun K hK => ?_)
   go_simp
   (go_at_call 142; refine (fixedLengths_any _).mono ?_; rintro e w4 ⟨FA, fc, rfl, hof, hb4⟩; have hb4 := Below.fromDrew hb4; have H4 := H3.below hb4; have K4 := K3.trans (KF.of_below (g := g) (gb := gb) (v := v) hb4); have hE4 := hE3.below hb4)
   refine hK.out _ _ ?_ (fun hHeld => ?_)
   ·exact bcell_ hb4 (by omega) c0r
   clear hK K
   (try simp only [Act.put, nz1, nz2, nz3, nz4, nz5, nz6])
   refine opD 3 rfl (fun K hK => ?_)
   go_simp
   (go_at_call 153; refine (itree_good g E w4 w4.heap.size 288 fc FA Inf.fixedL hE4 hof.rd (Nat.le_refl _) Inf.fixed_good (by rw [fixedL_length]; decide)).mono ?_; rintro e w5 ⟨gt, tv, rfl, hT5, hb5⟩; have H5 := H4.below hb5; have K5 := K4.trans (KF.of_below (g := g) (gb := gb) (v := v) hb5); have HTOK := HTK.out w4 w5 gt tv hb4 hb5 hT5 H5 K5)
   refine hK.out _ _ ?_ (fun hHeld => ?_)
   ·exact bcell_ hb5 (by have := hb4.size; show gr < w4.heap.size; omega) hHeld
   clear hK K
   (try simp only [Act.put, nz1, nz2, nz3, nz4, nz5, nz6])
   refine opD 5 rfl (fun K hK => ?_)
   go_simp
   (go_at_call 152; refine HTOK.mono ?_; rintro e w6 he6; rw [HRT.out] at he6; obtain ⟨rfl, hb6⟩ := he6; exact bodyPost_pan rfl ⟨rfl, (K5.below H0.out hB).trans hb6⟩)
  | ok q =>
   obtain ⟨b3, o3⟩ := q
   rw [hq] at hR
   replace hR : R = .ok (x == 1, b3, o3) := hR
   rw [← HLB.out] at hR
   subst hR
   have HRT := Lib.hid hq
   clear hq
   refine wp_region_held_drew (S := (fun w' => w'.cell? ⟨gr, 0, none⟩ = some (.pointer (some ⟨g, 0, none⟩)))) (by kernel_rfl) ?_ (fun hHeld => ?_)
   ·exact c0r
   refine opT 0 rfl ?_; refine opT 1 rfl ?_; refine opT 4 rfl ?_
   refine opD 2 rfl (fun K hK => ?_)
   go_simp
   (go_at_call 142; refine (fixedLengths_any _).mono ?_; rintro e w4 ⟨FA, fc, rfl, hof, hb4⟩; have hb4 := Below.fromDrew hb4; have H4 := H3.below hb4; have K4 := K3.trans (KF.of_below (g := g) (gb := gb) (v := v) hb4); have hE4 := hE3.below hb4)
   refine hK.out _ _ ?_ (fun hHeld => ?_)
   ·exact bcell_ hb4 (by omega) c0r
   clear hK K
   (try simp only [Act.put, nz1, nz2, nz3, nz4, nz5, nz6])
   refine opD 3 rfl (fun K hK => ?_)
   go_simp
   (go_at_call 153; refine (itree_good g E w4 w4.heap.size 288 fc FA Inf.fixedL hE4 hof.rd (Nat.le_refl _) Inf.fixed_good (by rw [fixedL_length]; decide)).mono ?_; rintro e w5 ⟨gt, tv, rfl, hT5, hb5⟩; have H5 := H4.below hb5; have K5 := K4.trans (KF.of_below (g := g) (gb := gb) (v := v) hb5); have HTOK := HTK.out w4 w5 gt tv hb4 hb5 hT5 H5 K5)
   refine hK.out _ _ ?_ (fun hHeld => ?_)
   ·exact bcell_ hb5 (by have := hb4.size; show gr < w4.heap.size; omega) hHeld
   clear hK K
   (try simp only [Act.put, nz1, nz2, nz3, nz4, nz5, nz6])
   refine opD 5 rfl (fun K hK => ?_)
   go_simp
   (go_at_call 152; refine HTOK.mono ?_; rintro e w6 he6; rw [HRT.out] at he6; obtain ⟨rfl, v6, H6, K6⟩ := he6)
   refine hK.out _ _ ?_ (fun hHeld => ?_)
   ·exact K6.keeps.cell_ (fun e => by rcases e with e | e | e; exact hgg e; exact hgb e; exact hgv e) hHeld
   clear hK K
   (try simp only [Act.put, nz1, nz2, nz3, nz4, nz5, nz6])
   refine wpAnyH_done (by kernel_rfl) ?_ _
   go_wp2_with fail
   go_ret
   exact ⟨rfl, v6, H6, (K5.below H0.out hB).trans (K6.below H5 (Nat.le_trans hB K5.keeps.size))⟩
 ·-- dynamic
  go_wp2_with fail
  refine (idynamic_any g gb s E w3 b2 v (.int .i64 most) hE3 HTB3.out H3.blk H3.rd H3.ne hGb hs).mono ?_
  rintro e w4 ⟨hk4, he4⟩
  have K4 := K3.trans (KF.of_read (g := g) (v := v) hk4)
  cases hd : Inf.rdynamic b2 with
  | none =>
   rw [hd] at he4
   replace he4 : e = .panicked (thrownI E 0) := he4
   subst he4
   have hR : R = .error 0 := by rw [HR.out]; exact Inf.bk_dn HX.out HY.out hd
   subst hR
   go_wp2_with fail
   exact ⟨rfl, rfl, K4.below H0.out hB⟩
  | some r =>
  obtain ⟨⟨ls, ds⟩, b3⟩ := r
  rw [hd] at he4
  obtain ⟨g1, g2, v1, v2, rfl, hR4, hT1, hT2⟩ := he4
  have hR := HR.out
  rw [Inf.bk_d HX.out HY.out hd] at hR
  obtain ⟨gl, gd, ll, dl, _⟩ := Inf.rdynamic_some hd
  replace hT1 : TreeAt w4 w3.heap.size g1 ls (Huf.syms ls) v1 := hT1
  replace hT2 : TreeAt w4 w3.heap.size g2 ds (Huf.syms ds) v2 := hT2
  replace hR4 : RdB w4 gb s b3 := hR4
  have h4 := H3.read hk4 hR4
  have hE4 := KF.er4 hE3 H3 (KF.of_read (g := g) (v := v) hk4) hB3 hG
  have hRB4 := HRB3.out.keeps hk4 hgb
  obtain ⟨gq, hgq⟩ : ∃ gq, gq = w4.heap.size := ⟨_, rfl⟩
  have hba : Below w4.heap.size w4 (w4.alloc (.cells #[.pointer (some ⟨g2, 0, none⟩)] 239)) := (Below.refl _ _).alloc (Nat.le_refl _) _
  have BQ := Blk.new w4 239 #[.pointer (some ⟨g2, 0, none⟩)] hgq
  have H5 := h4.below hba
  have K5 := K4.trans (KF.of_below (g := g) (gb := gb) (v := v) hba)
  have hE5 := hE4.below hba
  have hRB5 := hRB4.below hba hRB4.lt
  have hT15 := hT1.below hba
  have hT25 := hT2.below hba
  have hqg : gq ≠ g := by have := h4.lg; omega
  have hqb : gq ≠ gb := by have := h4.lb; omega
  have hqv : v.ownBlock ≠ some gq := fun e => by have := (h4.own.lt _ e).2; omega
  have hTB5 := HTB3.out.below (((KF.of_read (g := g) (v := v) hk4).below H3 hB3).trans (hba.mono (Nat.le_trans hB3 hk4.size))) hG
  have c0r5 : (w4.alloc (.cells #[.pointer (some ⟨g2, 0, none⟩)] 239)).cell? ⟨gr, 0, none⟩ = some (.pointer (some ⟨g, 0, none⟩)) := by rw [hRB5.cell]; rfl
  have c0r4 : w4.cell? ⟨gr, 0, none⟩ = some (.pointer (some ⟨g, 0, none⟩)) := by rw [hRB4.cell]; rfl
  have hz3 := hk4.size
  have lg := H3.lg
  have lb' := H3.lb
  have lv : ∀ x, v.ownBlock = some x → x < w3.heap.size := fun x hx => (H3.own.lt x hx).2
  clear hd hk4 hR4 h4 hE4 hT1 hT2 hRB4
  go_upto_region 10 with (fail)
  rw [← hgq]
  clear hgq
  generalize w4.alloc (.cells #[.pointer (some ⟨g2, 0, none⟩)] 239) = w5 at *
  go_wp2_with fail
  have trI : ∀ (W : World) (v' : Value) (gt : Nat) (l : List Nat) (tv : Value), TreeAt w5 w3.heap.size gt l (Huf.syms l) tv → KF w5 W g gb v v' → TrI W g gb v' gt l := fun W v' gt l tv hT kf => by
   have hlo : ∀ x, tv.ownBlock = some x → w3.heap.size ≤ x := fun x hx => (hT.own.lt x hx).1
   have hgt := hT.bg
   exact TrI.on (w := w5) (v := v) ⟨⟨w3.heap.size, tv, hT, fun e => by have := hlo _ e; omega, fun e => by have := hlo _ e; omega, fun e => by have := lv _ e; omega, fun x hx e => by have := lv _ hx; have := hlo _ e; omega⟩, fun e => by omega, fun e => by omega⟩ kf
  refine (itokens_any B g gb most s E w5 g1 _ _ ls (Huf.next ds 15 0 0) b3 v out hE5 hTB5 H5 (trI w5 v g1 ls v1 hT15 (KF.refl _ _ _ _)) (fun _ => by kernel_rfl) gl (by omega) (fun b d r h => ⟨by have := (Huf.next_sym 15 0 0 b (by omega) h).1; omega, Inf.next_len _ b d r h⟩)
   (fun W b v' o kf rdi => by
    obtain ⟨Bt, tv, hTv, q1, q2, q3, q4⟩ := (trI W v' g2 ds v2 hT25 kf).ex
    exact blk2_any g gb s E W gr gq g2 Bt ds tv b v' (.int .i64 most) (kf.er4 hE5 H5 (Nat.le_trans hB K5.keeps.size) hG) rdi.blk (hRB5.keeps kf.keeps (fun e => by rcases e with e | e | e; exact hgg e; exact hgb e; exact hgv e)) (BQ.keeps kf.keeps (fun e => by rcases e with e | e | e; exact hqg e; exact hqb e; exact hqv e)) hTv rdi.rd hGb (trI W v' g2 ds v2 hT25 kf).nb q2 (by omega) gd.le (by omega)) hG (Nat.le_trans hB K5.keeps.size) hs hm ho).mono ?_
  rintro e w6 he6
  cases hq : Inf.rtoks (Huf.next ls 15 0 0) (Huf.next ds 15 0 0) most (b3.length + 1) b3 out with
  | error k =>
   rw [hq] at he6
   have hR2 : R = Inf.fin x (.error k) := by rw [hR]; exact congrArg _ hq
   replace hR2 : R = .error k := hR2
   obtain ⟨rfl, hb6⟩ := he6
   subst hR2
   go_wp2_with fail
   exact ⟨rfl, rfl, (K5.below H0.out hB).trans hb6⟩
  | ok q =>
   obtain ⟨b4, o4⟩ := q
   rw [hq] at he6
   have hR2 : R = Inf.fin x (.ok (b4, o4)) := by rw [hR]; exact congrArg _ hq
   replace hR2 : R = .ok (x == 1, b4, o4) := hR2
   rw [← HLB.out] at hR2
   obtain ⟨rfl, v6, H6, K6⟩ := he6
   subst hR2
   clear hq hR
   go_wp2_with fail
   go_ret
   exact ⟨rfl, v6, H6, (K5.below H0.out hB).trans (K6.below H5 (Nat.le_trans hB K5.keeps.size))⟩
 ·-- no such kind
  have hR : R = .error 0 := by rw [HR.out]; exact Inf.bk_3 HX.out HY.out
  subst hR
  have dE := hE3.text
  go_wp2_with fail
  exact ⟨rfl, rfl, K3.below H0.out hB⟩
end
end Go.Proofs.YtkegkelaffohjaaGreatDoor
