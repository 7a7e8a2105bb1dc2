/- inflate.Inflate: the walk; what is thrown in it is caught. Printed by mk.py. -/
import Derived.Test.YtkegkelaffohjaaGreatDoorQCFilmTwiceInfBlk
import Derived.Defers
import Derived.Recover
namespace Go.Proofs.YtkegkelaffohjaaGreatDoor
open Go Go.RowKit
def NoText (ga gn ge : Nat) (ev : Value) (w w' : World) : Prop :=
 Blk w' ga 9 #[.string ⟨#[]⟩] ∧ Blk w' gn 3 #[.int .i64 0] ∧ Blk w' ge 25 #[ev] ∧ Keeps (fun x => x = ga ∨ x = gn ∨ x = ge) w w'
set_option maxRecDepth 100000 in
set_option maxHeartbeats 1000000 in
theorem icaught_any (ga gn ge k : Nat) (E : Nat → Addr) (l n r : Value) (w : World) (hl : Blk w ga 9 #[l]) (hn : Blk w gn 3 #[n]) (hk : Blk w ge 25 #[r]) (h1 : ga ≠ gn) (h2 : ga ≠ ge) (h3 : gn ≠ ge) :
  CallsD Tryz.prog 116 #[.pointer (some ⟨ga, 0, none⟩), .pointer (some ⟨gn, 0, none⟩), .pointer (some ⟨ge, 0, none⟩)] (.panicking (thrownI E k)) w
   fun e u' w' => e = .returned (.tuple #[]) ∧ u' = .panicking [{ v := .iface 182 (.agg #[errV (E k)]), recovered := true }] ∧ NoText ga gn ge (errV (E k)) w w' := by
 have hl0 := hl.lt
 have hn0 := hn.lt
 have hk0 := hk.lt
 have cl : w.cell? ⟨ga, 0, none⟩ = some l := by rw [hl.cell]; rfl
 have cn : w.cell? ⟨gn, 0, none⟩ = some n := by rw [hn.cell]; rfl
 have ck : w.cell? ⟨ge, 0, none⟩ = some r := by rw [hk.cell]; rfl
 have fl := hl.free 0
 have fn := hn.free 0
 have fk := hk.free 0
 have h1' : gn ≠ ga := fun e => h1 e.symm
 have h2' : ge ≠ ga := fun e => h2 e.symm
 have h3' : ge ≠ gn := fun e => h3 e.symm
 unfold thrownI errV
 generalize E k = a
 have hta : ∀ w : World, (Instr.typeAssert (.iface 182 (.agg #[.iface 290 (.pointer (some a))])) 20 182 true).run Tryz.prog w = .ok (.tuple #[.agg #[.iface 290 (.pointer (some a))], .bool true]) w := fun w => by kernel_rfl
 refine callsD_of_wpS Tryz.func116 rfl fun c₀ cs hu => ?_
 apply wpS_seq
 apply wpS_region
 simp [wpOpsS, go_sem, recoverD, hu, Tryz.ntmps116, Exit.thenS]
 refine wpS_of_wp ?_
 change Code.wp _ _ _ { tmps := #[.pointer (some ⟨ga, 0, none⟩), .pointer (some ⟨gn, 0, none⟩), .pointer (some ⟨ge, 0, none⟩), undef, undef, undef, .iface 182 (.agg #[.iface 290 (.pointer (some a))]), undef, undef, undef, undef, undef, undef, undef], defers := [] } w
 go_wp2
 go_region
 all_goals
  go_wp2
  refine ⟨rfl, _, rfl, .tuple #[], results_none rfl _ _ _, rfl, rfl, ?_, ?_, ?_, ?_⟩
  ·exact Blk.drew (Blk.alloc (((hl.set_ 0 (.string ⟨#[]⟩)).far (p := ⟨gn, 0, none⟩) h1 _).far (p := ⟨ge, 0, none⟩) h2 _) _)
  ·exact Blk.drew (Blk.alloc (((hn.far (p := ⟨ga, 0, none⟩) h1' _).set_ 0 (.int .i64 0)).far (p := ⟨ge, 0, none⟩) h3 _) _)
  ·exact Blk.drew (Blk.alloc (((hk.far (p := ⟨ga, 0, none⟩) h2' _).far (p := ⟨gn, 0, none⟩) h3' _).set_ 0 (.iface 290 (.pointer (some a)))) _)
  ·exact (((((Keeps.refl (fun x => x = ga ∨ x = gn ∨ x = ge) w).setCell (p := ⟨ga, 0, none⟩) (fun _ => .inl rfl) _).setCell (p := ⟨gn, 0, none⟩) (fun _ => .inr (.inl rfl)) _).setCell (p := ⟨ge, 0, none⟩) (fun _ => .inr (.inr rfl)) _).alloc _).drew
set_option maxRecDepth 100000 in
theorem iidle_any (a b c : Value) (w : World) :
  CallsD Tryz.prog 116 #[a, b, c] .returning w fun e u' w' => e = .returned (.tuple #[]) ∧ u' = .returning ∧ w' = w := by
 refine callsD_of_wpS Tryz.func116 rfl fun c₀ cs hu => ?_
 apply wpS_seq
 apply wpS_region
 simp [wpOpsS, go_sem, recoverD, hu, Tryz.ntmps116, Exit.thenS]
 refine wpS_of_wp ?_
 change Code.wp _ _ _ { tmps := #[a, b, c, undef, undef, undef, .nilIface, undef, undef, undef, undef, undef, undef, undef], defers := [] } w
 go_wp2
 cases c₀
 simp_all [bodyPostS, results, Tryz.results116]
def InfR (E : Nat → Addr) (w : World) (R : Except Nat (List UInt8 × Nat)) (e : Ending) (w' : World) : Prop :=
 Below w.heap.size w w' ∧ match R with
 | .error k => e = .returned (.tuple #[.string ⟨#[]⟩, .int .i64 0, errV (E k)])
 | .ok q => e = .returned (.tuple #[.string ⟨q.1.toArray⟩, .int .i64 q.2, .nilIface])
section
variable {w w1 : World} {ga gn ge : Nat} {E : Nat → Addr} {tmps : Array Value} {l n k : Value} (h4 : tmps[4]? = some (.pointer (some ⟨ga, 0, none⟩))) (h5 : tmps[5]? = some (.pointer (some ⟨gn, 0, none⟩))) (h6 : tmps[6]? = some (.pointer (some ⟨ge, 0, none⟩)))
 (bl : Blk w1 ga 9 #[l]) (bn : Blk w1 gn 3 #[n]) (bk : Blk w1 ge 25 #[k])
include h4 h5 h6 bl bn bk
theorem inf_read : (results Tryz.f82 tmps).run Tryz.prog w1 = .ok (.tuple #[l, n, k]) w1 := by
 have c0 : w1.cell? ⟨ga, 0, none⟩ = some l := by rw [bl.cell]; rfl
 have c1 : w1.cell? ⟨gn, 0, none⟩ = some n := by rw [bn.cell]; rfl
 have c2 : w1.cell? ⟨ge, 0, none⟩ = some k := by rw [bk.cell]; rfl
 simp [results, Tryz.results82, go_sem, h4, h5, h6, c0, c1, c2]
theorem inf_back (R : Except Nat (List UInt8 × Nat)) (hR : InfR E w R (.returned (.tuple #[l, n, k])) w1) :
  Leaves Tryz.prog Tryz.f82 tmps (fun e w' => InfR E w R e w') [{ target := .fn (.func 116) #[.pointer (some ⟨ga, 0, none⟩), .pointer (some ⟨gn, 0, none⟩), .pointer (some ⟨ge, 0, none⟩)], args := #[] }] .returning w1 := by
 refine leaves_cons (f := 116) (args := #[.pointer (some ⟨ga, 0, none⟩), .pointer (some ⟨gn, 0, none⟩), .pointer (some ⟨ge, 0, none⟩)]) (by simp) (by simp [go_sem]) ?_
 refine (iidle_any _ _ _ w1).mono ?_
 rintro e u' w'' ⟨rfl, rfl, rfl⟩
 exact ⟨_, inf_read h4 h5 h6 bl bn bk, hR⟩
theorem inf_thrown (j : Nat) (n1 : ga ≠ gn) (n2 : ga ≠ ge) (n3 : gn ≠ ge) (K : Below w.heap.size w w1) (hl : w.heap.size ≤ ga) (hn : w.heap.size ≤ gn) (hk : w.heap.size ≤ ge) :
  Leaves Tryz.prog Tryz.f82 tmps (fun e w' => InfR E w (.error j) e w') [{ target := .fn (.func 116) #[.pointer (some ⟨ga, 0, none⟩), .pointer (some ⟨gn, 0, none⟩), .pointer (some ⟨ge, 0, none⟩)], args := #[] }] (.panicking (thrownI E j)) w1 := by
 refine leaves_cons (f := 116) (args := #[.pointer (some ⟨ga, 0, none⟩), .pointer (some ⟨gn, 0, none⟩), .pointer (some ⟨ge, 0, none⟩)]) (by simp) (by simp [go_sem]) ?_
 refine (icaught_any ga gn ge j E l n k w1 bl bn bk n1 n2 n3).mono ?_
 rintro e u' w'' ⟨rfl, rfl, b1, b2, b3, K2⟩
 refine ⟨_, inf_read h4 h5 h6 b1 b2 b3, K.trans (K2.below (fun b hb => ?_) K.size), rfl⟩
 rcases hb with e | e | e <;> omega
end
theorem bound_no (s : ByteArray) (most : Nat) (w : World) (hs : s.size ≤ 300000) (hm : most ≤ 300000) :
  Calls Tryz.prog 81 #[.string s, .int .i64 most] w fun e w' => e = .returned (.bool false) ∧ w' = w := by
 have h1 : (most : Int) ≤ 300000 := by omega
 have h2 : (s.size : Int) ≤ 300000 := by omega
 have h3 : decide ((300000 : Int) < most) = false := decide_eq_false (by omega)
 have h4 : decide ((300000 : Int) < s.size) = false := decide_eq_false (by omega)
 go_enter Tryz.func81, Tryz.ntmps81
 go_wp2_with fail
 go_ret
 refine ⟨?_, rfl⟩
 first | rfl | (simp; omega)
structure InR (w0 : World) (B g gb ga gn ge : Nat) (s : ByteArray) (most : Nat) (RL : Except Nat (List Bool × List UInt8)) (f : Nat) (wr : World) : Prop where
 ex : ∃ (bs : List Bool) (v : Value) (out : List UInt8), RdI wr B g gb s most bs v out ∧ out.length ≤ most ∧ bs.length < f ∧ Inf.rblocks most f bs out = RL
 bl : Blk wr ga 9 #[.string ⟨#[]⟩]
 bn : Blk wr gn 3 #[.int .i64 0]
 bk : Blk wr ge 25 #[.nilIface]
 bel : Below B w0 wr
theorem Inf.inflate_is (s : List UInt8) (most : Nat) : inflate s most = (match rblocks most (8 * s.length + 1) (Bit.bits s) [] with
 | .error e => .error e
 | .ok (bs, out) => .ok (out, s.length - bs.length / 8)) := rfl
set_option maxHeartbeats 4000000 in
set_option maxRecDepth 100000 in
theorem inflate_any (s : ByteArray) (most : Nat) (E : Nat → Addr) (w : World) (hE : Er4 w E) (hTb : Tabs w) (hG : 15 ≤ w.heap.size) (hs : s.size ≤ 300000) (hm : most ≤ 300000) :
  Calls Tryz.prog 82 #[.string s, .int .i64 most] w fun e w' => InfR E w (Inf.inflate (lst s) most) e w' := by
 have hmf : ∀ (fn : Fn) (first cap : Array Value) (w : World), (Instr.makeFunc fn first cap).run Tryz.prog w = .ok (.func fn first cap) w := fun _ _ _ _ => rfl
 obtain ⟨R, hR⟩ : ∃ R, R = Inf.inflate (lst s) most := ⟨_, rfl⟩
 rw [← hR]
 rw [Inf.inflate_is] at hR
 obtain ⟨RL, hRL⟩ : ∃ RL, RL = Inf.rblocks most (8 * (lst s).length + 1) (Bit.bits (lst s)) [] := ⟨_, rfl⟩
 rw [← hRL, lst_length] at hR
 rw [lst_length] at hRL
 have HR := Lib.hid hR
 have HRL := Lib.hid hRL
 clear hR hRL
 obtain ⟨w0, hw0⟩ : ∃ w0, w0 = ((w.alloc (.cells #[.string ⟨#[]⟩] 9)).alloc (.cells #[.int .i64 0] 3)).alloc (.cells #[.nilIface] 25) := ⟨_, rfl⟩
 have bl : Blk w0 w.heap.size 9 #[.string ⟨#[]⟩] := by rw [hw0]; exact ((Blk.new w _ _ rfl).alloc _).alloc _
 have bn : Blk w0 (w.heap.size + 1) 3 #[.int .i64 0] := by rw [hw0]; exact (Blk.new (w.alloc (.cells #[.string ⟨#[]⟩] 9)) _ _ (by simp)).alloc _
 have bk : Blk w0 (w.heap.size + 1 + 1) 25 #[.nilIface] := by rw [hw0]; exact Blk.new _ _ _ (by simp)
 have k0 : Below w.heap.size w w0 := by rw [hw0]; exact (((Below.refl _ _).alloc (Nat.le_refl _) _).alloc (by simp) _).alloc (by simp; omega) _
 have hz0 : w0.heap.size = w.heap.size + 1 + 1 + 1 := by rw [hw0]; simp
 have HE0 := Lib.hid (hE.below k0)
 have HT0 := Lib.hid (hTb.below k0 hTb.size)
 have HW0 := Lib.hid hw0
 clear hw0 hE hTb
 obtain ⟨B, hB⟩ : ∃ B, B = w0.heap.size := ⟨_, rfl⟩
 obtain ⟨w2, hw2⟩ : ∃ w2, w2 = w0.alloc (.cells #[.string s, .int .i64 0] 237) := ⟨_, rfl⟩
 have hz2 : w2.heap.size = B + 1 := by rw [hw2, hB]; simp
 obtain ⟨g, hg⟩ : ∃ g, g = w2.heap.size := ⟨_, rfl⟩
 obtain ⟨w3, hw3⟩ : ∃ w3, w3 = w2.alloc (.cells #[.pointer (some ⟨B, 0, none⟩), .slice none 0 0, .int .i64 most] 187) := ⟨_, rfl⟩
 have hb2 : Below B w0 w2 := by rw [hw2, hB]; exact (Below.refl _ _).alloc (Nat.le_refl _) _
 have hb3 : Below B w0 w3 := by rw [hw3]; exact hb2.alloc (by omega) _
 have hI3 : RdI w3 B g B s most (Bit.bits (lst s)) (.slice none 0 0) [] := by
  refine ⟨?_, ⟨0, ?_, by omega, rfl⟩, Own.nil _ _ _, by omega, (fun e => by cases e), (fun e => by cases e), by omega, Nat.le_refl _⟩
  ·rw [hw3]; exact Blk.new _ _ _ hg
  ·rw [hw3, hw2]; exact (Blk.new w0 _ _ hB).alloc _
 have hL0 : InR w0 B g B w.heap.size (w.heap.size + 1) (w.heap.size + 1 + 1) s most RL (8 * s.size + 1) w3 :=
  ⟨⟨_, _, _, hI3, Nat.zero_le _, by rw [Bit.bits_length, lst_length]; omega, HRL.out.symm⟩, bl.below hb3 (by omega), bn.below hb3 (by omega), bk.below hb3 (by omega), hb3⟩
 have HW2 := Lib.hid hw2
 have HW3 := Lib.hid hw3
 clear hw2 hw3 hI3 hb2 hb3
 go_enter_defers Tryz.func82, Tryz.ntmps82
 go_wp2_with fail
 obtain ⟨ga, hga⟩ : ∃ ga, ga = w.heap.size := ⟨_, rfl⟩
 obtain ⟨gn, hgn⟩ : ∃ gn, gn = ga + 1 := ⟨_, rfl⟩
 obtain ⟨ge, hge⟩ : ∃ ge, ge = gn + 1 := ⟨_, rfl⟩
 rw [← HW0.out]
 rw [← hga, ← hgn, ← hge]
 rw [← hga] at bl bn bk hL0
 rw [← hgn] at bn bk hL0
 rw [← hge] at bk hL0
 have HL0 := Lib.hid hL0
 have y1 : ga ≠ gn := by omega
 have y2 : ga ≠ ge := by omega
 have y3 : gn ≠ ge := by omega
 have x1 : w.heap.size ≤ ga := by omega
 have x2 : w.heap.size ≤ gn := by omega
 have x3 : w.heap.size ≤ ge := by omega
 have ob1 : ga < B := by omega
 have ob2 : gn < B := by omega
 have ob3 : ge < B := by omega
 have HGB : Hid (15 ≤ B) := Lib.hid (by omega)
 have hwB : w.heap.size ≤ B := by omega
 have HBB := Lib.hid hB
 have HG := Lib.hid hg
 clear bl bn bk hL0 hB hg hga hgn hge hz0 hz2
 refine (bound_no s most w0 hs hm).mono ?_
 rintro e w0 ⟨rfl, rfl⟩
 go_wp2_with fail
 refine (newReader_any s w0).mono ?_
 rintro e w1 ⟨rfl, rfl⟩
 rw [← HW2.out, ← HBB.out]
 go_upto_block 0 with (fail)
 rw [← HG.out, ← HW3.out]
 go_wp2_with fail
 go_loopg [] (8 * s.size + 1) (fun f wr => InR w0 B g B ga gn ge s most RL f wr)
 case atStart => exact HL0.out
 case round =>
  clear HL0 HW0 HW2 HW3 HG HRL
  obtain ⟨⟨bs, v, out, hI, ho, hbf, heq⟩, bl, bn, bk, bel⟩ := hrel
  obtain ⟨f, rfl⟩ : ∃ f, gk = f + 1 := ⟨gk - 1, by omega⟩
  rw [Inf.rblocks] at heq
  have hbel : Below B w0 wr := bel
  have hzr : B ≤ wr.heap.size := Nat.le_trans (by rw [HBB.out]; exact Nat.le_refl _) hbel.size
  have hE1 := HE0.out.below (hbel.mono (by rw [HBB.out]; exact Nat.le_refl _))
  have hT1 := HT0.out.below (hbel.mono (by rw [HBB.out]; exact Nat.le_refl _)) HT0.out.size
  have HI := Lib.hid hI
  have HEQ := Lib.hid heq
  have HBF := Lib.hid hbf
  clear hI heq hbf
  go_wp2_with fail
  refine (iblock_any B g B most s E wr bs v out hE1 hT1 HI.out HGB.out hzr hs hm ho).mono ?_
  rintro e w5 he
  have heq := HEQ.out
  cases hx : Inf.rblock most bs out with
  | error k =>
   rw [hx] at he heq
   obtain ⟨rfl, hb5⟩ := he
   have hRn : R = .error k := by rw [HR.out, ← heq]
   subst hRn
   have bl5 := bl.below hb5 ob1
   have bn5 := bn.below hb5 ob2
   have bk5 := bk.below hb5 ob3
   have HB5 := Lib.hid (k0.trans ((hbel.trans hb5).mono hwB))
   clear bl bn bk heq hb5
   go_wp2_with fail
   exact inf_thrown rfl rfl rfl bl5 bn5 bk5 k y1 y2 y3 HB5.out x1 x2 x3
  | ok q =>
   obtain ⟨last, b1, out2⟩ := q
   rw [hx] at he heq
   obtain ⟨rfl, v', hI5, hb5⟩ := he
   have hln := Inf.rblock_len hx ho
   have bl5 := bl.below hb5 ob1
   have bn5 := bn.below hb5 ob2
   have bk5 := bk.below hb5 ob3
   have hb5 := hbel.trans hb5
   have HI5 := Lib.hid hI5
   have HL5 := Lib.hid hln
   clear bl bn bk hI5 hbel bel hx hln
   cases last with
   | false =>
    replace heq : Inf.rblocks most f b1 out2 = RL := heq
    have HEQ2 := Lib.hid heq
    clear heq
    go_wp2_with fail
    go_roundg f
    case rel => exact ⟨⟨b1, v', out2, HI5.out, HL5.out.2, by have := HL5.out.1; have := HBF.out; omega, HEQ2.out⟩, bl5, bn5, bk5, hb5⟩
    case measure => exact Nat.lt_succ_self f
   | true =>
    replace heq : Except.ok (b1, out2) = RL := heq
    obtain ⟨u, hu0⟩ : ∃ u, u = s.size - b1.length / 8 := ⟨_, rfl⟩
    have hRn : R = .ok (out2, u) := by rw [HR.out, ← heq, hu0]
    subst hRn
    have HU := Lib.hid hu0
    clear heq hu0
    have d0 := HI5.out.c0
    go_wp2_with fail
    refine (ralign_any B s b1 w5 HI5.out.rd (by omega)).mono ?_
    rintro e w6 ⟨rfl, hR6, hk6⟩
    have hI6 := HI5.out.read hk6 hR6
    have hb6 := hb5.trans (hk6.below (fun b hb => by rw [hb]; exact Nat.le_refl _) (Nat.le_trans (by rw [HBB.out]; exact Nat.le_refl _) hb5.size))
    have bl6 := bl5.keeps hk6 (by omega)
    have bn6 := bn5.keeps hk6 (by omega)
    have bk6 := bk5.keeps hk6 (by omega)
    have hHB6 := k0.trans (hb6.mono hwB)
    obtain ⟨p, hpb, hp1, hp2⟩ := hR6.ex
    have hup : u = p / 8 := by
     rw [HU.out]
     have h1 := congrArg List.length hp2
     rw [List.length_drop, List.length_drop, Bit.bits_length, lst_length] at h1
     have h2 := hR6.len
     rw [List.length_drop] at h2
     omega
    have hui : (p : Int) / 8 = (u : Nat) := by omega
    obtain ⟨A, cc, rfl, -, -⟩ := hI6.own.form
    have hcv := conv_reads w6.drew A out2.length cc _ _ hI6.own.drew.reads.2
    have e0 := hI6.c0
    have e1 := hI6.c1
    have ca : w6.cell? ⟨ga, 0, none⟩ = some (.string ⟨#[]⟩) := by rw [bl6.cell]; rfl
    have cn : w6.cell? ⟨gn, 0, none⟩ = some (.int .i64 0) := by rw [bn6.cell]; rfl
    have ck : w6.cell? ⟨ge, 0, none⟩ = some .nilIface := by rw [bk6.cell]; rfl
    have huw : IntKind.i64.wrap (u : Int) = u := IntWalk.i64_in _ (by omega)
    have fa := bl6.free 0
    have fn := bn6.free 0
    have fe := bk6.free 0
    have HI6 := Lib.hid hI6
    have HHB := Lib.hid hHB6
    clear hR6 hk6 bl5 bn5 bk5 hb5 hb6 hI6 hHB6 hp1 hp2 d0 hup
    go_wp2_with fail
    refine wp_region_noPanic ?_
    go_region_law ((go_simp; go_at_call 120; refine (at_any B s p w6.drew (Blk.drew hpb)).mono ?_; rintro e wA ⟨rfl, rfl⟩))
    all_goals
     unfold NoPanic
     go_wp2_with fail
     refine inf_back (l := .string ⟨out2.toArray⟩) (n := .int .i64 u) (k := .nilIface) rfl rfl rfl ?_ ?_ ?_ (.ok (out2, u)) ⟨?_, rfl⟩
     ·exact Blk.drew (((bl6.set_ 0 (.string ⟨out2.toArray⟩)).far (p := ⟨gn, 0, none⟩) y1 _).far (p := ⟨ge, 0, none⟩) y2 _)
     ·exact Blk.drew (((bn6.far (p := ⟨ga, 0, none⟩) (fun e => y1 e.symm) _).set_ 0 (.int .i64 u)).far (p := ⟨ge, 0, none⟩) y3 _)
     ·exact Blk.drew (((bk6.far (p := ⟨ga, 0, none⟩) (fun e => y2 e.symm) _).far (p := ⟨gn, 0, none⟩) (fun e => y3 e.symm) _).set_ 0 (.nilIface))
     ·exact (((HHB.out.setCell (p := ⟨ga, 0, none⟩) x1 _).setCell (p := ⟨gn, 0, none⟩) x2 _).setCell (p := ⟨ge, 0, none⟩) x3 _).drew
end Go.Proofs.YtkegkelaffohjaaGreatDoor
