/- match.Tokens: the walk. -/
import Derived.Test.YtkegkelaffohjaaGreatDoorQCFilmTwiceMatLong
import Derived.Test.YtkegkelaffohjaaGreatDoorQCFilmTwiceTokMem
import Derived.Deep.Cut
import Derived.Deep.DeepCutAuto
namespace Go.Proofs.YtkegkelaffohjaaGreatDoor
open Go Go.RowKit
theorem tokInfo : (Tryz.prog.info? 193).map (fun i => (i.zero, i.size, i.bytes)) = some (some (.agg #[.int .u8 0, .int .i64 0, .int .i64 0]), 3, 24) := by kernel_rfl
structure TokSt (w : World) (s : ByteArray) (fb mb : Nat) (v vo : Value) (acc : List Mat.Tok) (a : Nat) (wr : World) : Prop where
 fnd : Fnd wr w.heap.size fb mb v s (Mat.tries (lst s)) a
 out : Own wr w.heap.size 3 vo acc.length (tokCells acc)
 of_ : vo.ownBlock ≠ some fb
 om : vo.ownBlock ≠ some mb
 ov : ∀ x, vo.ownBlock = some x → v.ownBlock ≠ some x
 bel : Below w.heap.size w wr
theorem Fnd.grown {w w' : World} {B fb mb : Nat} {v : Value} {s : ByteArray} {tr a : Nat} {row : Option Nat} (h : Fnd w B fb mb v s tr a) (hg : w.grownBy w' row) (h1 : row ≠ some fb) (h2 : row ≠ some mb) (h3 : ∀ x, row = some x → v.ownBlock ≠ some x) : Fnd w' B fb mb v s tr a :=
 ⟨h.blk.grown hg (fun e => h1 e.symm), h.map.grown hg (fun e => h2 e.symm), h.own.keep hg.size (fun g hv => hg.block g (h.own.lt g hv).2 (fun e => h3 g e.symm hv)), h.fm, h.vf, h.vm, h.bf, h.bm⟩
theorem Fnd.alloc {w : World} {B fb mb : Nat} {v : Value} {s : ByteArray} {tr a : Nat} (h : Fnd w B fb mb v s tr a) (o : Obj) : Fnd (w.alloc o) B fb mb v s tr a := ⟨h.blk.alloc o, h.map.alloc o, h.own.alloc o, h.fm, h.vf, h.vm, h.bf, h.bm⟩
theorem Fnd.drewN {w : World} {B fb mb : Nat} {v : Value} {s : ByteArray} {tr a : Nat} (h : Fnd w B fb mb v s tr a) (k : Nat) : Fnd (w.drewN k) B fb mb v s tr a := ⟨h.blk.drewN k, h.map, h.own.drewN k, h.fm, h.vf, h.vm, h.bf, h.bm⟩
section
variable {w wr w' : World} {s : ByteArray} {fb mb : Nat} {v vo : Value} {acc : List Mat.Tok} {a : Nat}
theorem TokSt.drewN (h : TokSt w s fb mb v vo acc a wr) (k : Nat) : TokSt w s fb mb v vo acc a (wr.drewN k) := ⟨h.fnd.drewN k, h.out.drewN k, h.of_, h.om, h.ov, below_drewN h.bel k⟩
theorem TokSt.alloc (h : TokSt w s fb mb v vo acc a wr) (o : Obj) : TokSt w s fb mb v vo acc a (wr.alloc o) := ⟨h.fnd.alloc o, h.out.alloc o, h.of_, h.om, h.ov, h.bel.alloc h.bel.size o⟩
theorem TokSt.put (h : TokSt w s fb mb v vo acc a wr) (p : PutF wr w.heap.size fb mb v s (Mat.tries (lst s)) (a + 1) w') : TokSt w s fb mb v vo acc (a + 1) w' := by
 refine ⟨p.fnd, h.out.keeps p.keeps fun g hg e => ?_, h.of_, h.om, h.ov, h.bel.trans (p.keeps.below (fun g hg => ?_) h.bel.size)⟩
 ·rcases e with e | e
  ·exact h.om (by rw [hg, e])
  ·exact h.ov g hg e
 ·rcases hg with e | e
  ·rw [e]; exact h.fnd.bm
  ·exact (h.fnd.own.lt g e).1
theorem TokSt.snoc (h : TokSt w s fb mb v vo acc a wr) {vo' : Value} {t : Mat.Tok} (ho : Own w' w.heap.size 3 vo' (acc.length + 1) (tokCells (acc ++ [t]))) (hg : wr.grownBy w' vo.ownBlock) (ha : vo'.ownBlock = vo.ownBlock ∨ vo'.ownBlock = some wr.heap.size) : TokSt w s fb mb v vo' (acc ++ [t]) a w' := by
 have f1 := h.fnd.blk.lt
 have f2 := h.fnd.map.lt
 refine ⟨h.fnd.grown hg h.of_ h.om h.ov, by rw [List.length_append, List.length_singleton]; exact ho, ?_, ?_, fun x hx => ?_, h.bel.grown hg h.bel.size fun g hg2 => (h.out.lt g hg2).1⟩
 ·rcases ha with e | e <;> rw [e]
  ·exact h.of_
  ·intro e2; injection e2 with e2; omega
 ·rcases ha with e | e <;> rw [e]
  ·exact h.om
  ·intro e2; injection e2 with e2; omega
 ·rcases ha with e | e <;> rw [e] at hx
  ·exact h.ov x hx
  ·injection hx with hx
   intro e2
   have := (h.fnd.own.lt x e2).2
   omega
end
set_option maxRecDepth 100000 in
set_option maxHeartbeats 4000000 in
theorem tokens_any (s : ByteArray) (w : World) (hs : s.size ≤ 300000) :
  Calls Tryz.prog 105 #[.string s, .int .i64 32768] w fun e w' => ∃ A c, e = .returned (.tuple #[.slice A (Mat.tokens (lst s)).length c, .nilIface]) ∧ Own w' w.heap.size 3 (.slice A (Mat.tokens (lst s)).length c) (Mat.tokens (lst s)).length (tokCells (Mat.tokens (lst s))) ∧ Below w.heap.size w w' := by
 obtain ⟨i0, hi, hz0, hz1, hz2⟩ := info_parts tokInfo
 obtain ⟨T, hT⟩ : ∃ T, T = Mat.tokens (lst s) := ⟨_, rfl⟩
 rw [← hT]
 obtain ⟨tr, htr⟩ : ∃ tr, tr = Mat.tries (lst s) := ⟨_, rfl⟩
 have htr2 : tr = if 3000 < s.size then 64 else s.size := by rw [htr]; unfold Mat.tries; rw [lst_length]
 have hT2 : [] ++ Mat.toks (lst s) tr s.size 0 = T := by rw [List.nil_append, htr, hT]; unfold Mat.tokens; rw [lst_length]
 have htl : tr ≤ 300000 := by rw [htr2]; split <;> omega
 have HT := Lib.hid hT2
 have HTR := Lib.hid htr
 have HTR2 := Lib.hid htr2
 clear hT hT2 htr htr2
 go_enter Tryz.func105, Tryz.ntmps105
 go_wp2_with fail
 refine (mbad_no s _ hs).mono ?_
 rintro e w1 ⟨rfl, rfl⟩
 go_upto_if 21 with (fail)
 go_cut [6] (fun x wx => x = .int .i64 (tr : Nat) ∧ w1 = wx)
 case first =>
  by_cases h3 : 3000 < s.size
  ·have h3i : (3000 : Int) < s.size := by omega
   have htr := HTR2.out
   rw [if_pos h3] at htr
   have HX := Lib.hid htr
   clear h3 htr
   go_wp2_with fail
   go_meet
   case rel => exact ⟨by rw [HX.out]; rfl, rfl⟩
  ·have h3i : (s.size : Int) ≤ 3000 := by omega
   have htr := HTR2.out
   rw [if_neg h3] at htr
   have HX := Lib.hid htr
   clear h3 htr
   go_wp2_with fail
   go_meet
   case rel => exact ⟨by rw [HX.out], rfl⟩
 case rest =>
  obtain ⟨rfl, rfl⟩ := hcut
  clear HTR2
  go_wp2_with fail
  refine (newFinder_any s tr _ hs).mono ?_
  rintro e w2 ⟨fb, mb, v, rfl, hF, hb2⟩
  have HF := Lib.hid (show TokSt w1 s fb mb v (.slice none 0 0) [] 0 w2 from ⟨by rw [← HTR.out]; exact hF, Own.nil _ _ _, (fun e => by cases e), (fun e => by cases e), (fun x e => by cases e), hb2⟩)
  clear hF hb2
  go_wp2_with fail
  go_loopw [8, 9] (fun vo av wr => ∃ (a : Nat) (acc : List Mat.Tok) (f : Nat) (A : Option Addr) (c : Nat), vo = .slice A acc.length c ∧ av = .int .i64 a ∧ acc.length ≤ a ∧ a ≤ s.size ∧ s.size - a ≤ f ∧ acc ++ Mat.toks (lst s) tr f a = T ∧ TokSt w1 s fb mb v (.slice A acc.length c) acc a wr) (fun _ av _ => s.size - (intOf av).toNat)
  case atStart => exact ⟨0, [], s.size, none, 0, rfl, rfl, Nat.zero_le _, Nat.zero_le _, by omega, HT.out, HF.out⟩
  case round =>
   clear HF HT
   obtain ⟨a, acc, f, A, c, rfl, rfl, hacc, has, hf, hT, hS⟩ := hrel
   have HS := Lib.hid hS
   have HT := Lib.hid hT
   clear hS hT
   by_cases hlt : a < s.size
   ·as_aux_lemma =>
    obtain ⟨f, rfl⟩ : ∃ f', f = f' + 1 := ⟨f - 1, by omega⟩
    obtain ⟨tk1, tk2⟩ := Mat.tok_ok (lst s) tr a (by rw [lst_length]; exact hlt)
    have hst := HT.out
    rw [Mat.toks, if_pos (by rw [lst_length]; exact hlt)] at hst
    obtain ⟨t, ht⟩ : ∃ t, t = Mat.tok (lst s) tr a := ⟨_, rfl⟩
    rw [← ht] at tk1 tk2 hst
    rw [lst_length] at tk2
    obtain ⟨p, hp⟩ : ∃ p, p = Mat.longest (lst s) tr a := ⟨_, rfl⟩
    have hfit := Mat.longest_fit (lst s) tr a (by rw [lst_length]; omega)
    rw [← hp] at hfit
    have hp258 := hfit.n258
    have htp : t = if 3 ≤ p.1 then ⟨0, p.1, p.2⟩ else ⟨(lst s).getD a 0, 0, 0⟩ := by rw [ht, hp]; rfl
    have hxa : (lst s).getD a 0 = s[a] := by rw [List.getD_eq_getElem?_getD, List.getElem?_eq_getElem (by rw [lst_length]; exact hlt)]; rfl
    rw [hxa] at htp
    obtain ⟨x, hx⟩ : ∃ x : UInt8, s[a] = x := ⟨_, rfl⟩
    rw [hx] at htp
    have hlong := longest_any w1.heap.size fb mb v s tr a wr (by rw [HTR.out]; exact HS.out.fnd) hlt hs htl
    rw [← hp] at hlong
    have HLG := Lib.hid hlong
    have HTP := Lib.hid htp
    have HST := Lib.hid hst
    obtain ⟨M, hM⟩ : ∃ M, M = max 1 t.n := ⟨_, rfl⟩
    rw [← hM] at tk2
    have hM1 : 1 ≤ M := by omega
    have hM2 : M ≤ 258 := by
     rw [hM]
     rcases tk1 with h | h
     ·omega
     ·omega
    have hn : t.n = 0 ∨ 3 ≤ t.n := by
     rcases tk1 with h | h
     ·exact .inl h.1
     ·exact .inr h.2.1
    have HM := Lib.hid hM
    have HN := Lib.hid hn
    clear hlong htp hst tk1 hfit hxa ht hp hM hn HT
    go_wp2_with fail
    with_reducible refine HLG.out.mono ?_
    rintro e w3 ⟨rfl, q, rfl⟩
    obtain ⟨p1, p2⟩ := p
    simp only at *
    have HSA := Lib.hid (HS.out.drewN q)
    clear HS HLG
    generalize wr.drewN q = w3 at *
    go_upto_if 41 with (fail)
    obtain ⟨tg, htg⟩ : ∃ tg, tg = w3.heap.size := ⟨_, rfl⟩
    rw [← htg]
    go_cut [12] (fun y wx => y = .pointer (some ⟨tg, 0, none⟩) ∧ wx = w3.alloc (.cells #[.int .u8 t.b.toNat, .int .i64 t.n, .int .i64 t.d] 193))
    case first =>
     rw [htg]
     have HTG := Lib.hid htg
     clear htg
     have htp := HTP.out
     by_cases h3 : 3 ≤ p1
     ·rw [if_pos h3] at htp
      subst htp
      have h3i : (3 : Int) ≤ p1 := by omega
      clear h3
      go_wp2_with fail
      go_meet
      case rel => exact ⟨by rw [HTG.out], rfl⟩
     ·rw [if_neg h3] at htp
      subst htp
      have h3i : (p1 : Int) < 3 := by omega
      clear h3
      go_wp2_with fail
      go_meet
      case rel => exact ⟨by rw [HTG.out], rfl⟩
    case rest =>
     obtain ⟨rfl, rfl⟩ := hcut
     have hB := Blk.new w3 193 #[.int .u8 t.b.toNat, .int .i64 t.n, .int .i64 t.d] htg
     have HSB := Lib.hid (HSA.out.alloc (.cells #[.int .u8 t.b.toNat, .int .i64 t.n, .int .i64 t.d] 193))
     have hown := HSB.out.out
     have tgl := hB.lt
     have hbz : w1.heap.size ≤ (w3.alloc (.cells #[.int .u8 t.b.toNat, .int .i64 t.n, .int .i64 t.d] 193)).heap.size := HSB.out.bel.size
     have hne : some tg ≠ (Value.slice A acc.length c).ownBlock := fun e => by
      have := (HSA.out.out.lt tg e.symm).2
      omega
     clear htg HTP HSA
     generalize w3.alloc (.cells #[.int .u8 t.b.toNat, .int .i64 t.n, .int .i64 t.d] 193) = wx at *
     have b0 : wx.cell? ⟨tg, 0, none⟩ = some (.int .u8 t.b.toNat) := by rw [hB.cell]; rfl
     have b1 : wx.cell? ⟨tg, 1, none⟩ = some (.int .i64 t.n) := by rw [hB.cell]; rfl
     have b2 : wx.cell? ⟨tg, 2, none⟩ = some (.int .i64 t.d) := by rw [hB.cell]; rfl
     go_upto_region 15 with (at_builtin; refine wpList_append_S rfl (.tmp 45) (.tmp 47) 120 120 rfl (w1.heap.size) 193 i0 _ 3 24 Tryz.underlying120 hi hz0 hz1 hz2 rfl (by decide) (.slice A acc.length c) (acc.length) (tokCells (acc)) rfl (hown.alloc _) (tokCells_one _) (1) (tokCells [t]) (Src.made Tryz.underlying120 (by first | rfl | simp) rfl (tokCells_one [t])) (acc.length + 1) (by omega) (tokCells (acc ++ [t])) (by simp [tokCells]) (by unfold maxLen; omega) (by omega) (by first | omega | (simp; done) | (simp; omega)) ?_; intro A' c' w4 hown4 hg4 hat4; have hB4 := (hB.alloc (.cells #[.int .u8 t.b.toNat, .int .i64 t.n, .int .i64 t.d] 193)).grown hg4 hne; have d1 : w4.cell? ⟨tg, 1, none⟩ = some (.int .i64 t.n) := by rw [hB4.cell]; rfl)
     have HS4 := Lib.hid (TokSt.snoc (HSB.out.alloc _) hown4 hg4 hat4)
     clear b0 b1 b2 hbz hg4 hat4 hB HSB hown hne hown4 hB4
     go_cut [51, 52] (fun m i wy => m = .int .i64 (M : Nat) ∧ i = .int .i64 0 ∧ w4 = wy)
     case first =>
      rcases HN.out with h0 | h3
      ·have hmm : M = 1 := by have := HM.out; omega
       subst hmm
       have h0i : (t.n : Int) < 1 := by omega
       clear h0
       go_wp2_with fail
       go_meet
       case rel => exact ⟨by first | rfl | simp, rfl, rfl⟩
      ·have hmm : M = t.n := by have := HM.out; omega
       subst hmm
       have h0i : (1 : Int) < t.n := by omega
       have h0j : (1 : Int) ≤ t.n := by omega
       clear h3
       go_wp2_with fail
       go_meet
       case rel => exact ⟨by first | rfl | simp, rfl, rfl⟩
     case rest =>
      obtain ⟨rfl, rfl, rfl⟩ := hcut
      clear HN d1
      go_wp2_with fail
      go_loopw [9, 52] (fun av iv wz => ∃ i : Nat, i ≤ M ∧ av = .int .i64 (a + i : Nat) ∧ iv = .int .i64 i ∧ TokSt w1 s fb mb v (.slice A' (acc.length + 1) c') (acc ++ [t]) (a + i) wz) (fun _ iv _ => M - (intOf iv).toNat)
      case atStart => exact ⟨0, Nat.zero_le _, rfl, rfl, HS4.out⟩
      case round =>
       clear HS4
       obtain ⟨i, hiM, rfl, rfl, hSi⟩ := hrel
       have HSI := Lib.hid hSi
       clear hSi
       obtain ⟨b, hb⟩ : ∃ b, b = a + i := ⟨_, rfl⟩
       rw [← hb]
       rw [← hb] at HSI
       have HBB := Lib.hid hb
       by_cases hiM2 : i < M
       ·have hbs : b < s.size := by omega
        have hput := mput_any w1.heap.size fb mb v s tr b wr (by rw [HTR.out]; exact HSI.out.fnd) hbs hs HSI.out.bel.size
        have HPUT := Lib.hid hput
        clear hput hb
        go_wp2_with fail
        with_reducible refine HPUT.out.mono ?_
        rintro e w5 ⟨rfl, hput⟩
        have HS5 := Lib.hid (HSI.out.put (by rw [← HTR.out]; exact hput))
        clear hput HSI HPUT
        go_wp2
        go_roundw
        case rel => exact ⟨i + 1, hiM2, by rw [show a + (i + 1) = b + 1 by have := HBB.out; omega]; go_num, by go_num, by rw [show a + (i + 1) = b + 1 by have := HBB.out; omega]; exact HS5.out⟩
        case measure => simp [intOf]; omega
       ·have hiM3 : i = M := by omega
        subst hiM3
        clear hb hiM2
        go_wp2
        go_roundw
        case rel =>
         have hb := HBB.out
         refine ⟨b, acc ++ [t], f, A', c', by rw [List.length_append, List.length_singleton], rfl, by rw [List.length_append, List.length_singleton]; omega, by omega, by omega, ?_, by rw [List.length_append, List.length_singleton]; exact HSI.out⟩
         rw [List.append_assoc, hb, HM.out]
         exact HST.out
        case measure => have := HBB.out; simp [intOf]; omega
   ·as_aux_lemma =>
    have hT := HT.out
    rw [Mat.toks_end _ _ _ _ (by rw [lst_length]; omega), List.append_nil] at hT
    subst hT
    clear HT
    go_wp2
    go_ret2
    exact ⟨A, c, rfl, HS.out.out, HS.out.bel⟩
end Go.Proofs.YtkegkelaffohjaaGreatDoor
