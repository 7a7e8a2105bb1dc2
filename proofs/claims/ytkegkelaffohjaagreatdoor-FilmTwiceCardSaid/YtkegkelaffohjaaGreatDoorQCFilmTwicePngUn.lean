/- png.Unpack, samples: the walks. Printed by mk.py. -/
import Derived.Test.YtkegkelaffohjaaGreatDoorQCFilmTwiceZip
import Derived.Test.YtkegkelaffohjaaGreatDoorKCFilmTwice10
namespace Go.Proofs.YtkegkelaffohjaaGreatDoor
open Go Go.RowKit
namespace Film
def unpackU (W H : Nat) (z : List UInt8) : Except Nat (List UInt8) :=
 match Inf.unzip z (H * (4 * W + 1)) with
 | .error k => .error k
 | .ok t =>
  if t.length < H * (4 * W + 1) then .error 0
  else match Fil.fback (4 * W) 4 H t [] with
   | none => .error 0
   | some u => .ok u
theorem unpackF_is (W H : Nat) (z : List UInt8) : unpackF W H z = (match unpackU W H z with | .error k => .error k | .ok u => .ok (Pak.pixels u)) := by
 unfold unpackF unpackU
 cases Inf.unzip z (H * (4 * W + 1)) with
 | error k => rfl
 | ok t =>
  simp only
  split
  ·rfl
  ·cases Fil.fback (4 * W) 4 H t [] <;> rfl
end Film
theorem unzip_len {s t : List UInt8} {most : Nat} (h : Inf.unzip s most = .ok t) : t.length ≤ most := by
 unfold Inf.unzip at h
 split at h
 ·cases h
 ·split at h
  ·cases h
  ·split at h
   ·cases h
   ·rename_i q _ hx
    split at h
    ·cases h
    ·split at h
     ·cases h
     ·injection h with h
      rw [← h]
      exact (Inf.inflate_len hx).1
set_option maxRecDepth 100000 in
set_option maxHeartbeats 2000000 in
theorem punpack_any (W H : Nat) (d : ByteArray) (E : Nat → Addr) (w : World) (hE : Er4 w E) (hTb : Tabs w) (hG : 15 ≤ w.heap.size) (hd : d.size ≤ 300000) (hW : 1 ≤ W ∧ W ≤ 256) (hH : 1 ≤ H ∧ H ≤ 256) :
  Calls Tryz.prog 23 #[.string d, .int .i64 H, .int .i64 (4 * W : Nat), .int .i64 4] w fun e w' => UzR w E (Film.unpackU W H (lst d)) e w' := by
 obtain ⟨R, hR⟩ : ∃ R, R = Film.unpackU W H (lst d) := ⟨_, rfl⟩
 rw [← hR]
 unfold Film.unpackU at hR
 obtain ⟨V, hV⟩ : ∃ V, V = 4 * W := ⟨_, rfl⟩
 obtain ⟨M, hM⟩ : ∃ M, M = H * (V + 1) := ⟨_, rfl⟩
 rw [← hV, ← hM] at hR
 rw [← hV]
 have hVl : V ≤ 1024 := by omega
 have hMl : M ≤ 262400 := by rw [hM]; exact Nat.mul_le_mul hH.2 (show V + 1 ≤ 1025 by omega)
 obtain ⟨V1, hV1⟩ : ∃ V1, V1 = V + 1 := ⟨_, rfl⟩
 have hv1 : (V : Int) + 1 = (V1 : Nat) := by omega
 have hm1 : (H : Int) * (V1 : Int) = (M : Nat) := by rw [hM, hV1, Int.natCast_mul]
 have hv1w : IntKind.i64.wrap (V1 : Int) = V1 := IntWalk.i64_in _ (by omega)
 have hm1w : IntKind.i64.wrap (M : Int) = M := IntWalk.i64_in _ (by omega)
 have HR := Lib.hid hR
 have HE := Lib.hid hE
 have HM := Lib.hid hM
 have HV := Lib.hid (show 1 ≤ V by omega)
 clear hR hM hV hV1 hE
 go_enter Tryz.func23, Tryz.ntmps23
 go_wp2_with fail
 refine (unzip_any d M E w HE.out hTb hG hd (by omega)).mono ?_
 rintro e w1 ⟨hb1, he⟩
 have hR := HR.out
 cases hx : Inf.unzip (lst d) M with
 | error k =>
  rw [hx] at he hR
  replace he : e = .returned (.tuple #[.string ⟨#[]⟩, errV (E k)]) := he
  replace hR : R = .error k := hR
  subst he
  subst hR
  unfold errV
  go_wp2_with fail
  go_ret2
  exact ⟨hb1, rfl⟩
 | ok t =>
  rw [hx] at he hR
  obtain ⟨z, rfl, hz⟩ := he
  have htl := unzip_len hx
  replace hR : R = if t.length < M then .error 0 else match Fil.fback V 4 H t [] with | none => .error 0 | some u => .ok u := hR
  rw [← hz] at hR htl
  rw [lst_length] at hR htl
  have HR2 := Lib.hid hR
  have dT := (HE.out.below hb1).text
  clear hR hx hz
  by_cases hl : z.size < M
  ·have hRn : R = .error 0 := by rw [HR2.out, if_pos hl]
   subst hRn
   have hli : (z.size : Int) < M := by omega
   clear hl
   go_wp2_with fail
   go_quiet (fail)
   go_wp2_with fail
   go_ret2
   exact ⟨below_drewN hb1 _, rfl⟩
  have hR3 := HR2.out
  rw [if_neg hl] at hR3
  have HR3 := Lib.hid hR3
  have hli : (M : Int) ≤ z.size := by omega
  have hzM : z.size = H * (V + 1) := by rw [← HM.out]; omega
  have HZM := Lib.hid hzM
  clear hR3 hl hzM
  go_wp2_with fail
  refine (fback_any V 4 H z E w1 (HE.out.below hb1) (by have := HV.out; omega) (by omega) (by omega) HZM.out).mono ?_
  rintro e w2 ⟨hb2, he⟩
  have hb12 := hb1.trans (hb2.mono hb1.size)
  have dT2 := (HE.out.below hb12).text
  have hR4 := HR3.out
  cases hf : Fil.fback V 4 H (lst z) [] with
  | none =>
   rw [hf] at he hR4
   obtain ⟨ty, u, rfl⟩ := he
   replace hR4 : R = .error 0 := hR4
   subst hR4
   clear hf dT
   go_wp2_with fail
   go_quiet (fail)
   go_wp2_with fail
   go_ret2
   exact ⟨below_drewN hb12 _, rfl⟩
  | some u =>
   rw [hf] at he hR4
   obtain ⟨zz, rfl, hzz⟩ := he
   replace hR4 : R = .ok u := hR4
   subst hR4
   clear hf dT
   go_wp2_with fail
   go_ret2
   exact ⟨hb12, zz, rfl, hzz⟩
/- Numbers as keys. -/
def natV (k : Nat) : Value := .int .i64 (k : Int)
theorem natKey : KeyLaw Tryz.prog 3 natV := by
 refine ⟨fun w p q => ?_, fun w b p => ?_, ⟨_, Tryz.underlying3, fun p q r h => ?_⟩, fun p => ?_⟩
 ·have h : ∀ n, (Op.equalIn (n + 1) 3 (natV p) (natV q)).run Tryz.prog w = .ok (decide (p = q)) w := by
   intro n
   have e : ((p : Int) == (q : Int)) = decide (p = q) := by rw [Bool.eq_iff_iff, beq_iff_eq, decide_eq_true_eq]; omega
   unfold Op.equalIn
   simp [natV, run_underlying Tryz.underlying3, e]
  exact h 9999
 ·have h : ∀ n, (Instr.checkKey b (n + 1) 3 (natV p)).run Tryz.prog w = .ok () w := by intro n; simp [Instr.checkKey, natV, run_underlying Tryz.underlying3]
  exact h 9999
 ·simp [Instr.sameNow, natV] at h
  rw [← h, Bool.eq_iff_iff, beq_iff_eq, decide_eq_true_eq]
  omega
 ·simp [Instr.sameBits, natV]
def smpl : List (Nat × Value) := [(0, .int .i64 1), (2, .int .i64 3), (3, .int .i64 1), (6, .int .i64 4)]
set_option maxRecDepth 100000 in
theorem samples_any (w : World) :
  Calls Tryz.prog 48 #[] w fun e w' => ∃ b, e = .returned (.map (some b)) ∧ MapAt w' b natV smpl ∧ w.heap.size ≤ b ∧ Below w.heap.size w w' := by
 have hmm := @run_makeMap Tryz.prog
 obtain ⟨b, hb⟩ : ∃ b, b = w.heap.size := ⟨_, rfl⟩
 have h0 : MapAt (w.alloc (.map #[] 0)) b natV ([] : List (Nat × Value)) := by rw [hb]; exact MapAt.new w natV
 have k0 : Below w.heap.size w (w.alloc (.map #[] 0)) := (Below.refl _ _).alloc (Nat.le_refl _) _
 obtain ⟨w1, r1, h1, g1, s1⟩ := run_mapUpdate_at natKey Tryz.underlying109 h0 0 (.int .i64 1)
 obtain ⟨w2, r2, h2, g2, s2⟩ := run_mapUpdate_at natKey Tryz.underlying109 h1 2 (.int .i64 3)
 obtain ⟨w3, r3, h3, g3, s3⟩ := run_mapUpdate_at natKey Tryz.underlying109 h2 3 (.int .i64 1)
 obtain ⟨w4, r4, h4, g4, s4⟩ := run_mapUpdate_at natKey Tryz.underlying109 h3 6 (.int .i64 4)
 replace r1 : (Instr.mapUpdate 109 (.map (some b)) (.int .i64 0) (.int .i64 1)).run Tryz.prog (w.alloc (.map #[] 0)) = .ok () w1 := r1
 replace r2 : (Instr.mapUpdate 109 (.map (some b)) (.int .i64 2) (.int .i64 3)).run Tryz.prog w1 = .ok () w2 := r2
 replace r3 : (Instr.mapUpdate 109 (.map (some b)) (.int .i64 3) (.int .i64 1)).run Tryz.prog w2 = .ok () w3 := r3
 replace r4 : (Instr.mapUpdate 109 (.map (some b)) (.int .i64 6) (.int .i64 4)).run Tryz.prog w3 = .ok () w4 := r4
 have z0 := k0.size
 have row : ∀ g, some b = some g → w.heap.size ≤ g := fun g e => by injection e with e; omega
 have k1 := Below.grown k0 g1 z0 row
 have k2 := Below.grown k1 g2 k1.size row
 have k3 := Below.grown k2 g3 k2.size row
 have k4 := Below.grown k3 g4 k3.size row
 rw [hb] at r1 r2 r3 r4
 have H4 := Lib.hid h4
 have K4 := Lib.hid k4
 have HB := Lib.hid hb
 clear h0 h1 h2 h3 h4 k0 k1 k2 k3 k4 g1 g2 g3 g4 s1 s2 s3 s4 row hb
 go_enter Tryz.func48, Tryz.ntmps48
 go_wp2_with fail
 go_ret
 rw [← HB.out]
 exact ⟨b, rfl, H4.out, Nat.le_refl _, by have h := K4.out; rw [← HB.out] at h; exact h⟩
end Go.Proofs.YtkegkelaffohjaaGreatDoor
