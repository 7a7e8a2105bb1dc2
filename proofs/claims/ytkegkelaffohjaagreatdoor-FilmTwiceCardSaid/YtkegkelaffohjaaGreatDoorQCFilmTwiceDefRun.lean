/- deflate.runs: the walk. Printed by mkdefrun.py. -/
import Derived.Test.YtkegkelaffohjaaGreatDoorQCFilmTwiceDefCnt
import Derived.Deep.CutBlock
namespace Go.Proofs.YtkegkelaffohjaaGreatDoor
open Go Go.RowKit
theorem runInfo : (Tryz.prog.info? 232).map (fun i => (i.zero, i.size, i.bytes)) = some (some (.agg #[.int .i64 0, .int .i64 0, .int .i64 0]), 3, 24) := by kernel_rfl
def runCs (r : Inf.Run) : List Value := [.int .i64 (r.1 : Int), .int .i64 (r.2.1 : Int), .int .i64 (r.2.2 : Int)]
def runCells (l : List Inf.Run) : List Value := l.flatMap runCs
theorem runCells_length (l : List Inf.Run) : (runCells l).length = l.length * 3 := flatCells_length runCs 3 (fun _ => rfl) l
theorem runCells_one (l : List Inf.Run) : ∀ u ∈ runCells l, u.oneCell' = true := by
 intro u hu
 obtain ⟨p, _, hp⟩ := List.mem_flatMap.1 hu
 simp only [runCs, List.mem_cons, List.not_mem_nil, or_false] at hp
 rcases hp with rfl | rfl | rfl <;> rfl
theorem Reads.run {w : World} {B n g off : Nat} {l : List Inf.Run} (h : Reads w B 3 (some ⟨g, off, none⟩) n (runCells l)) (i : Nat) (hi : i < l.length) :
  w.cell? ⟨g, off + i * 3, none⟩ = some (.int .i64 (l[i].1 : Int)) ∧ w.cell? ⟨g, off + i * 3 + 1, none⟩ = some (.int .i64 (l[i].2.1 : Int)) ∧ w.cell? ⟨g, off + i * 3 + 2, none⟩ = some (.int .i64 (l[i].2.2 : Int)) := by
 have hn : n * 3 = l.length * 3 := by rw [← h.1, runCells_length]
 have key : ∀ j, j < 3 → w.cell? ⟨g, off + i * 3 + j, none⟩ = (runCs l[i])[j]? := fun j hj => by
  have h1 := h.cell rfl (i * 3 + j) (by omega)
  have h2 := flatCells_at runCs 3 (fun _ => rfl) l i hi j hj
  rw [Nat.add_assoc, h1]
  exact h2
 exact ⟨key 0 (by omega), key 1 (by omega), key 2 (by omega)⟩
namespace Inf
theorem runOf_zero (a : Nat) : ∀ f, runOf a f 0 = []
 | 0 => rfl
 | f + 1 => by rw [runOf, if_pos rfl]
theorem runsF_nil : ∀ f, runsF f [] = []
 | 0 => rfl
 | _ + 1 => rfl
theorem alike_is (a : Nat) : ∀ (r : List Nat) (m : Nat), (∀ k, k < m → r[k]? = some a) → r[m]? ≠ some a → alike a r = m
 | [], m, h1, _ => by
  match m with
  | 0 => rfl
  | m + 1 => exact absurd (h1 0 (by omega)) (by simp)
 | b :: r, 0, _, h2 => by
  rw [alike, if_neg]
  intro e
  exact h2 (by simp [e])
 | b :: r, m + 1, h1, h2 => by
  have e : b = a := by simpa using h1 0 (by omega)
  rw [alike, if_pos e, alike_is a r m (fun k hk => by simpa using h1 (k + 1) (by omega)) (by simpa using h2)]
end Inf
structure RunR (w : World) (v : Value) (acc : List Inf.Run) (wr : World) : Prop where
 own : Own wr w.heap.size 3 v acc.length (runCells acc)
 bel : Below w.heap.size w wr
section
variable {w wr w' : World} {v v' : Value} {acc : List Inf.Run}
theorem RunR.drewN (h : RunR w v acc wr) (k : Nat) : RunR w v acc (wr.drewN k) := ⟨h.own.drewN k, below_drewN h.bel k⟩
theorem RunR.snoc (h : RunR w v acc wr) {r : Inf.Run} {o : Obj} (ho : Own w' w.heap.size 3 v' (acc.length + 1) (runCells (acc ++ [r]))) (hg : (wr.alloc o).grownBy w' v.ownBlock) : RunR w v' (acc ++ [r]) w' :=
 ⟨by rw [List.length_append, List.length_singleton]; exact ho, (h.bel.alloc h.bel.size o).grown hg (by have := h.bel.size; simp; omega) fun g hg2 => (h.own.lt g hg2).1⟩
end
set_option maxRecDepth 100000 in
set_option maxHeartbeats 8000000 in
theorem runs_any (B n0 c0 : Nat) (A0 : Option Addr) (l : List Nat) (w : World) (hr : Reads w B 1 A0 n0 (nats l)) (hB : B ≤ w.heap.size) (hl : l.length ≤ 1000) :
  Calls Tryz.prog 147 #[.slice A0 n0 c0] w fun e w' => ∃ A c, e = .returned (.slice A (Inf.runs l).length c) ∧ Own w' w.heap.size 3 (.slice A (Inf.runs l).length c) (Inf.runs l).length (runCells (Inf.runs l)) ∧ Below w.heap.size w w' := by
 have hn0 : n0 = l.length := by have := hr.1; rw [nats_length] at this; omega
 subst hn0
 obtain ⟨i0, hi, hz0, hz1, hz2⟩ := info_parts runInfo
 obtain ⟨R, hRe⟩ : ∃ R, R = Inf.runs l := ⟨_, rfl⟩
 rw [← hRe]
 have HR0 := Lib.hid (show ([] : List Inf.Run) ++ Inf.runsF l.length (l.drop 0) = R by rw [hRe]; rfl)
 have HRD := Lib.hid hr
 clear hRe hr
 go_enter Tryz.func147, Tryz.ntmps147
 go_wp2_with fail
 go_loopw [3, 4] (fun ov iv wr => ∃ (i f : Nat) (acc : List Inf.Run) (A : Option Addr) (c : Nat), ov = .slice A acc.length c ∧ iv = .int .i64 i ∧ i ≤ l.length ∧ l.length - i ≤ f ∧ acc.length ≤ i ∧ acc ++ Inf.runsF f (l.drop i) = R ∧ RunR w (.slice A acc.length c) acc wr) (fun _ iv _ => l.length - (intOf iv).toNat)
 case atStart => exact ⟨0, l.length, [], none, 0, rfl, rfl, Nat.zero_le _, by omega, Nat.le_refl _, HR0.out, ⟨Own.nil _ _ _, Below.refl _ _⟩⟩
 case round =>
  clear HR0
  obtain ⟨i, f, acc, A, c, rfl, rfl, hil, hf, hacc, hRe, hR⟩ := hrel
  by_cases hlt : i < l.length
  ·as_aux_lemma =>
   obtain ⟨f, rfl⟩ : ∃ f', f = f' + 1 := ⟨f - 1, by omega⟩
   obtain ⟨ga, oa, rfl, hga⟩ := HRD.out.addr (by omega)
   obtain ⟨a, ha⟩ : ∃ a, a = l[i] := ⟨_, rfl⟩
   obtain ⟨r, hrr⟩ : ∃ r, r = l.drop (i + 1) := ⟨_, rfl⟩
   have hdr : l.drop i = a :: r := by rw [ha, hrr]; exact List.drop_eq_getElem_cons hlt
   have hrl : r.length = l.length - (i + 1) := by rw [hrr, List.length_drop]
   have hrk : ∀ k, r[k]? = l[i + 1 + k]? := fun k => by rw [hrr, List.getElem?_drop]
   have hcell : ∀ (wx : World), Below w.heap.size w wx → ∀ k (hk : k < l.length), wx.cell? ⟨ga, oa + k, none⟩ = some (.int .i64 l[k]) := fun wx hb k hk => by
    have h := (HRD.out.below hb hB).cell rfl k (by rw [Nat.mul_one]; exact hk)
    rw [nats_at _ _ hk] at h
    exact h
   have HCELL := Lib.hid hcell
   have HRK := Lib.hid hrk
   have HDR := Lib.hid hdr
   have HRE := Lib.hid hRe
   have HA := Lib.hid ha
   have HRL := Lib.hid hrl
   have HR := Lib.hid hR
   clear hcell hrk hdr hRe ha hrr hrl hR
   go_upto_block 2 with (fail)
   go_cut [5] (fun nv wx => ∃ q, nv = .int .i64 (Inf.alike a r + 1 : Nat) ∧ wx = wr.drewN q)
   case first => as_aux_lemma =>
    have h0 : ∀ k, k < 0 → r[k]? = some a := fun k hk => absurd hk (by omega)
    have H0 := Lib.hid h0
    clear h0
    go_wp2_with fail
    go_loopw [5] (fun nv wx => ∃ (m : Nat) (q : Nat), nv = .int .i64 (m + 1 : Nat) ∧ i + (m + 1) ≤ l.length ∧ (∀ k, k < m → r[k]? = some a) ∧ wx = wr.drewN q) (fun nv _ => l.length - (intOf nv).toNat)
    case atStart => exact ⟨0, 0, rfl, by omega, H0.out, rfl⟩
    case round =>
     clear H0
     obtain ⟨m, q, rfl, hml, hal, rfl⟩ := hrel
     have HAL := Lib.hid hal
     clear hal
     obtain ⟨n, hn⟩ : ∃ n, n = m + 1 := ⟨_, rfl⟩
     rw [← hn]
     obtain ⟨p, hp⟩ : ∃ p, p = i + n := ⟨_, rfl⟩
     have hpi : (i : Int) + n = (p : Nat) := by omega
     have hpw : IntKind.i64.wrap (p : Int) = (p : Nat) := IntWalk.i64_in _ (by omega)
     have HN := Lib.hid hn
     have HPP := Lib.hid hp
     have hcall := HCELL.out (wr.drewN q).drew (by exact (below_drewN HR.out.bel q).drew)
     have hca := hcall i hlt
     rw [← HA.out] at hca
     have hii : (i : Int) < l.length := by omega
     have hwi : IntKind.i64.wrap (i : Int) = (i : Nat) := IntWalk.i64_in _ (by omega)
     by_cases hpl : p < l.length
     ·have hcx := hcall p hpl
      obtain ⟨x, hx⟩ : ∃ x, x = l[p] := ⟨_, rfl⟩
      rw [← hx] at hcx
      have hrm : r[m]? = some x := by rw [HRK.out, show i + 1 + m = p by omega, List.getElem?_eq_getElem hpl, hx]
      have HRM := Lib.hid hrm
      have hdI : decide ((p : Int) < (l.length : Int)) = true := by simpa using hpl
      have hdN : decide (p < l.length) = true := by simpa using hpl
      have hdA : decide ((i : Int) + n < (l.length : Int)) = true := by rw [hpi]; exact hdI
      have hpli : (p : Int) < l.length := by omega
      clear hcall hrm hx hp hn
      by_cases hxa : x = a
      ·as_aux_lemma =>
       have HXA := Lib.hid hxa
       have hdE : ((x : Int) == (a : Int)) = true := by rw [hxa]; simp
       clear hxa
       go_wp2_with fail
       refine wp_region_held_drew (S := (fun w' => w'.cell? ⟨ga, oa + p, none⟩ = some (.int .i64 x) ∧ w'.cell? ⟨ga, oa + i, none⟩ = some (.int .i64 a))) (by kernel_rfl) ?_ (fun hHeld => ?_)
       ·exact ⟨hcx, hca⟩
       refine opT 0 rfl ?_; refine opT 1 rfl ?_; refine opT 2 rfl ?_; refine opT 3 rfl ?_; refine opT 4 rfl ?_
       refine opV 5 (.bool true) rfl ?_ ?_
       ·intro w hSw; (try dsimp only at hSw); go_simp <;> (first | with_reducible rfl | assumption | (simp [hdA]; done) | (simp [hdI]; done) | (simp [hdN]; done) | (with_reducible exact hdI) | omega | (simp; omega))
       (try simp only [Act.put, nz1, nz2, nz3, nz4, nz5, nz6])
       refine opT 6 rfl ?_; refine opT 7 rfl ?_; refine opT 8 rfl ?_; refine opT 9 rfl ?_; refine opT 10 rfl ?_; refine opT 11 rfl ?_; refine opT 12 rfl ?_; refine opT 13 rfl ?_; refine opT 14 rfl ?_; refine opT 15 rfl ?_; refine opT 16 rfl ?_
       refine opV 17 (.bool true) rfl ?_ ?_
       ·intro w hSw; (try dsimp only at hSw); go_simp <;> (first | with_reducible rfl | assumption | (simp [hdA]; done) | (simp [hdE]; done) | (simp [hdN]; done) | (with_reducible exact hdE) | omega | (simp; omega))
       (try simp only [Act.put, nz1, nz2, nz3, nz4, nz5, nz6])
       refine opT 18 rfl ?_
       refine wpAnyH_done (by kernel_rfl) ?_ _
       go_wp2_with fail
       go_roundw
       case rel => exact ⟨m + 1, q + 1, by rw [HN.out]; go_num, by have := HPP.out; have := HN.out; omega, fun k hk => by
        rcases Nat.lt_or_ge k m with h | h
        ·exact HAL.out k h
        ·have : k = m := by omega
         rw [this, HRM.out, HXA.out], rfl⟩
       case measure => have := HN.out; simp [intOf]; omega
      ·as_aux_lemma =>
       have hdE : ((x : Int) == (a : Int)) = false := by rw [beq_eq_false_iff_ne]; omega
       have hall : Inf.alike a r = m := Inf.alike_is a r m HAL.out (by rw [HRM.out]; intro e; exact hxa (Option.some.inj e))
       have HALL := Lib.hid hall
       clear hxa hall
       go_wp2_with fail
       refine wp_region_held_drew (S := (fun w' => w'.cell? ⟨ga, oa + p, none⟩ = some (.int .i64 x) ∧ w'.cell? ⟨ga, oa + i, none⟩ = some (.int .i64 a))) (by kernel_rfl) ?_ (fun hHeld => ?_)
       ·exact ⟨hcx, hca⟩
       refine opT 0 rfl ?_; refine opT 1 rfl ?_; refine opT 2 rfl ?_; refine opT 3 rfl ?_; refine opT 4 rfl ?_
       refine opV 5 (.bool true) rfl ?_ ?_
       ·intro w hSw; (try dsimp only at hSw); go_simp <;> (first | with_reducible rfl | assumption | (simp [hdA]; done) | (simp [hdI]; done) | (simp [hdN]; done) | (with_reducible exact hdI) | omega | (simp; omega))
       (try simp only [Act.put, nz1, nz2, nz3, nz4, nz5, nz6])
       refine opT 6 rfl ?_; refine opT 7 rfl ?_; refine opT 8 rfl ?_; refine opT 9 rfl ?_; refine opT 10 rfl ?_; refine opT 11 rfl ?_; refine opT 12 rfl ?_; refine opT 13 rfl ?_; refine opT 14 rfl ?_; refine opT 15 rfl ?_; refine opT 16 rfl ?_
       refine opV 17 (.bool false) rfl ?_ ?_
       ·intro w hSw; (try dsimp only at hSw); go_simp <;> (first | with_reducible rfl | assumption | (simp [hdA]; done) | (simp [hdE]; done) | (simp [hdN]; done) | (with_reducible exact hdE) | omega | (simp; omega))
       (try simp only [Act.put, nz1, nz2, nz3, nz4, nz5, nz6])
       refine opT 18 rfl ?_
       refine wpAnyH_done (by kernel_rfl) ?_ _
       go_wp2_with fail
       go_meet
       case rel => exact ⟨q + 1, by rw [HALL.out, HN.out], rfl⟩
     ·as_aux_lemma =>
      have hall : Inf.alike a r = m := Inf.alike_is a r m HAL.out (by rw [HRK.out, List.getElem?_eq_none (by omega)]; intro e; cases e)
      have HALL := Lib.hid hall
      have hdI : decide ((p : Int) < (l.length : Int)) = false := by rw [decide_eq_false_iff_not]; omega
      have hdN : decide (p < l.length) = false := by rw [decide_eq_false_iff_not]; omega
      have hdA : decide ((i : Int) + n < (l.length : Int)) = false := by rw [hpi]; exact hdI
      have hpli : (l.length : Int) ≤ p := by omega
      clear hall hcall hpl hp hn
      go_wp2_with fail
      refine wp_region_held_drew (S := (fun _ => True)) (by kernel_rfl) ?_ (fun hHeld => ?_)
      ·trivial
      refine opT 0 rfl ?_; refine opT 1 rfl ?_; refine opT 2 rfl ?_; refine opT 3 rfl ?_; refine opT 4 rfl ?_
      refine opV 5 (.bool false) rfl ?_ ?_
      ·intro w hSw; (try dsimp only at hSw); go_simp <;> (first | with_reducible rfl | assumption | (simp [hdA]; done) | (simp [hdI]; done) | (simp [hdN]; done) | (with_reducible exact hdI) | omega | (simp; omega))
      (try simp only [Act.put, nz1, nz2, nz3, nz4, nz5, nz6])
      refine opT 6 rfl ?_
      refine opU 7 rfl ?_; refine opU 8 rfl ?_; refine opU 9 rfl ?_; refine opU 10 rfl ?_; refine opU 11 rfl ?_; refine opU 12 rfl ?_; refine opU 13 rfl ?_; refine opU 14 rfl ?_; refine opU 15 rfl ?_; refine opU 16 rfl ?_; refine opU 17 rfl ?_
      refine opT 18 rfl ?_
      refine wpAnyH_done (by kernel_rfl) ?_ _
      go_wp2_with fail
      go_meet
      case rel => exact ⟨q + 1, by rw [HALL.out, HN.out], rfl⟩
   case rest => as_aux_lemma =>
    obtain ⟨q, rfl, rfl⟩ := hcut
    have HR1 := Lib.hid (HR.out.drewN q)
    have hca := HCELL.out (wr.drewN q) (below_drewN HR.out.bel q) i hlt
    rw [← HA.out] at hca
    clear HR
    generalize wr.drewN q = w2 at *
    have hal := Inf.alike_spec a r
    obtain ⟨al, hale⟩ : ∃ al, al = Inf.alike a r := ⟨_, rfl⟩
    rw [← hale] at hal ⊢
    have hre := HRE.out
    rw [HDR.out, Inf.runsF, ← hale] at hre
    obtain ⟨rest, hrest⟩ : ∃ rest, rest = Inf.runsF f (r.drop al) := ⟨_, rfl⟩
    rw [← hrest] at hre
    have hall := hal.1
    have hrl := HRL.out
    obtain ⟨n, hn⟩ : ∃ n, n = al + 1 := ⟨_, rfl⟩
    rw [← hn]
    obtain ⟨p, hp⟩ : ∃ p, p = i + n := ⟨_, rfl⟩
    have hpi : (i : Int) + n = (p : Nat) := by omega
    have hpl : p ≤ l.length := by omega
    have hdrop : l.drop p = r.drop al := by
     have h1 : l.drop p = (l.drop i).drop n := by rw [List.drop_drop, hp]
     rw [h1, HDR.out, hn]
     rfl
    rw [← hdrop] at hrest
    have hap : acc.length + n ≤ p := by omega
    have HREST := Lib.hid hrest
    have HN := Lib.hid hn
    have HP := Lib.hid hp
    have hre2 : if 0 < a then acc ++ ([(a, 0, 0)] ++ (Inf.runOf a al al ++ rest)) = R else acc ++ (Inf.runOf a n n ++ rest) = R := by
     rw [hn]
     split
     ·rename_i h
      rw [if_pos h] at hre
      simpa using hre
     ·rename_i h
      rw [if_neg h] at hre
      exact hre
    have HRE2 := Lib.hid hre2
    have hne : al = n - 1 := by omega
    have hn1 : 1 ≤ n := by omega
    have hnl : n ≤ 1000 := by omega
    have HNE := Lib.hid hne
    clear HRE HRK HCELL hal hale hre hrest hall hrl hn hp hdrop hre2 hne
    go_upto_if 42 with (fail)
    go_cut [3, 5] (fun ov nv wx => ∃ (acc1 : List Inf.Run) (m : Nat) (A1 : Option Addr) (c1 : Nat), ov = .slice A1 acc1.length c1 ∧ nv = .int .i64 m ∧ acc1 ++ (Inf.runOf a m m ++ rest) = R ∧ acc1.length + m ≤ p ∧ m ≤ 1000 ∧ RunR w (.slice A1 acc1.length c1) acc1 wx)
    case first => as_aux_lemma =>
     by_cases h0 : 0 < a
     ·have h0i : (0 : Int) < a := by omega
      have hre := HRE2.out
      rw [if_pos h0] at hre
      have HRE3 := Lib.hid hre
      have hR := HR1.out
      have hbz := hR.bel.size
      obtain ⟨m, hm⟩ : ∃ m, m = n - 1 := ⟨_, rfl⟩
      have hmi : (n : Int) - 1 = (m : Nat) := by omega
      have HM := Lib.hid hm
      have haw : acc.length ≤ 1000 := by omega
      clear hre h0 hm
      go_wp2_with (at_builtin; refine wpList_append_S rfl (.tmp 43) (.tmp 46) 229 229 rfl (w.heap.size) 232 i0 _ 3 24 Tryz.underlying229 hi hz0 hz1 hz2 rfl (by decide) (.slice A acc.length c) (acc.length) (runCells (acc)) rfl (hR.own.alloc _) (runCells_one _) (1) (runCells [(a, 0, 0)]) (Src.made Tryz.underlying229 (by first | rfl | simp) rfl (runCells_one [(a, 0, 0)])) (acc.length + 1) (by omega) (runCells (acc ++ [(a, 0, 0)])) (by simp [runCells]) (by unfold maxLen; omega) (by omega) (by first | omega | (simp; done) | (simp; omega)) ?_; intro A' c' w4 hown4 hg4 hat4)
      have HR4 := Lib.hid (hR.snoc hown4 hg4)
      clear hown4 hg4 hat4 hR HR1
      go_meet
      case rel =>
       refine ⟨acc ++ [(a, 0, 0)], m, A', c', by rw [List.length_append, List.length_singleton], rfl, ?_, by rw [List.length_append, List.length_singleton]; have := HM.out; omega, by have := HM.out; omega, by rw [List.length_append, List.length_singleton]; exact HR4.out⟩
       have h := HRE3.out
       rw [HNE.out, ← HM.out, ← List.append_assoc] at h
       exact h
     ·have h0i : (a : Int) ≤ 0 := by omega
      have hre := HRE2.out
      rw [if_neg h0] at hre
      have HRE3 := Lib.hid hre
      clear hre h0
      go_wp2_with fail
      go_meet
      case rel => exact ⟨acc, n, A, c, rfl, rfl, HRE3.out, hap, hnl, HR1.out⟩
    case rest => as_aux_lemma =>
     obtain ⟨acc1, m1, A1, c1, rfl, rfl, hre, hap1, hm1, hR⟩ := hcut
     have HRE := Lib.hid hre
     have HR := Lib.hid hR
     clear hre hR HR1 HRE2 HNE hca hap
     go_wp2_with fail
     go_loopw [3, 5] (fun ov nv wx => ∃ (acc : List Inf.Run) (m fu : Nat) (A : Option Addr) (c : Nat), ov = .slice A acc.length c ∧ nv = .int .i64 m ∧ m ≤ fu ∧ acc ++ (Inf.runOf a fu m ++ rest) = R ∧ acc.length + m ≤ p ∧ m ≤ 1000 ∧ RunR w (.slice A acc.length c) acc wx) (fun _ nv _ => (intOf nv).toNat)
     case atStart => exact ⟨acc1, m1, m1, A1, c1, rfl, rfl, Nat.le_refl _, HRE.out, hap1, hm1, HR.out⟩
     case round =>
      clear HRE HR
      obtain ⟨acc, m, fu, A, c, rfl, rfl, hmf, hre, hap, hm, hR⟩ := hrel
      by_cases hm0 : m = 0
      ·as_aux_lemma =>
       subst hm0
       rw [Inf.runOf_zero, List.nil_append] at hre
       have HRE := Lib.hid hre
       clear hre
       go_wp2_with fail
       go_roundw
       case rel =>
        refine ⟨p, f, acc, A, c, rfl, by go_num, hpl, by have := HP.out; omega, by omega, ?_, hR⟩
        have h := HRE.out
        rw [HREST.out] at h
        exact h
       case measure => have := HP.out; simp [intOf]; omega
      ·obtain ⟨fu, rfl⟩ : ∃ fu', fu = fu' + 1 := ⟨fu - 1, by omega⟩
       rw [Inf.runOf, if_neg hm0] at hre
       have hm0i : (0 : Int) < m := by omega
       have hbz := hR.bel.size
       have haw : acc.length ≤ 1000 := by omega
       by_cases q1 : a = 0 ∧ 11 ≤ m
       ·rw [if_pos q1] at hre
        obtain ⟨q1a, q1b⟩ := q1
        have hya : ((a : Int) == 0) = true := by rw [q1a]; rfl
        have hyb : (11 : Int) ≤ m := by omega
        have HQA := Lib.hid q1a
        clear q1a
        rcases Nat.lt_trichotomy m 138 with h | h | h
        ·as_aux_lemma =>
         have hmi : (m : Int) < 138 := by omega
         have hmin : min m 138 = m := by omega
         rw [hmin] at hre
         obtain ⟨x, hx⟩ : ∃ x, x = m - 11 := ⟨_, rfl⟩
         obtain ⟨y, hy⟩ : ∃ y, y = m - m := ⟨_, rfl⟩
         have hxi : ((m : Int)) - 11 = (x : Nat) := by omega
         have hyi : ((m : Int)) - m = (y : Nat) := by omega
         rw [← hx, ← hy] at hre
         have HRE := Lib.hid hre
         have HY := Lib.hid hy
         clear hre hx hmin hy h
         go_wp2_with (at_builtin; refine wpList_append_S rfl (.tmp 68) (.tmp 72) 229 229 rfl (w.heap.size) 232 i0 _ 3 24 Tryz.underlying229 hi hz0 hz1 hz2 rfl (by decide) (.slice A acc.length c) (acc.length) (runCells (acc)) rfl (hR.own.alloc _) (runCells_one _) (1) (runCells [(18, x, 7)]) (Src.made Tryz.underlying229 (by first | rfl | simp) rfl (runCells_one [(18, x, 7)])) (acc.length + 1) (by omega) (runCells (acc ++ [(18, x, 7)])) (by simp [runCells]) (by unfold maxLen; omega) (by omega) (by first | omega | (simp; done) | (simp; omega)) ?_; intro A' c' w4 hown4 hg4 hat4)
         have HR4 := Lib.hid (hR.snoc hown4 hg4)
         clear hown4 hg4 hat4 hR
         go_roundw
         case rel =>
          have hy := HY.out
          refine ⟨acc ++ [(18, x, 7)], y, fu, A', c', by rw [List.length_append, List.length_singleton], by first | rfl | (congr 1; omega) | go_num, by omega, ?_, by rw [List.length_append, List.length_singleton]; omega, by omega, by rw [List.length_append, List.length_singleton]; exact HR4.out⟩
          have h := HRE.out
          rw [List.append_assoc]
          exact h
         case measure => have hy := HY.out; simp [intOf] <;> omega
        ·as_aux_lemma =>
         subst h
         have hmin : min 138 138 = 138 := rfl
         rw [hmin] at hre
         obtain ⟨x, hx⟩ : ∃ x, x = 138 - 11 := ⟨_, rfl⟩
         obtain ⟨y, hy⟩ : ∃ y, y = 138 - 138 := ⟨_, rfl⟩
         have hxi : ((138 : Int)) - 11 = (x : Nat) := by omega
         have hyi : ((138 : Int)) - 138 = (y : Nat) := by omega
         rw [← hx, ← hy] at hre
         have HRE := Lib.hid hre
         have HY := Lib.hid hy
         clear hre hx hmin hy 
         go_wp2_with (at_builtin; refine wpList_append_S rfl (.tmp 68) (.tmp 72) 229 229 rfl (w.heap.size) 232 i0 _ 3 24 Tryz.underlying229 hi hz0 hz1 hz2 rfl (by decide) (.slice A acc.length c) (acc.length) (runCells (acc)) rfl (hR.own.alloc _) (runCells_one _) (1) (runCells [(18, x, 7)]) (Src.made Tryz.underlying229 (by first | rfl | simp) rfl (runCells_one [(18, x, 7)])) (acc.length + 1) (by omega) (runCells (acc ++ [(18, x, 7)])) (by simp [runCells]) (by unfold maxLen; omega) (by omega) (by first | omega | (simp; done) | (simp; omega)) ?_; intro A' c' w4 hown4 hg4 hat4)
         have HR4 := Lib.hid (hR.snoc hown4 hg4)
         clear hown4 hg4 hat4 hR
         go_roundw
         case rel =>
          have hy := HY.out
          refine ⟨acc ++ [(18, x, 7)], y, fu, A', c', by rw [List.length_append, List.length_singleton], by first | rfl | (congr 1; omega) | go_num, by omega, ?_, by rw [List.length_append, List.length_singleton]; omega, by omega, by rw [List.length_append, List.length_singleton]; exact HR4.out⟩
          have h := HRE.out
          rw [List.append_assoc]
          exact h
         case measure => have hy := HY.out; simp [intOf] <;> omega
        ·as_aux_lemma =>
         have hmi : (138 : Int) < m := by omega
         have hmin : min m 138 = 138 := by omega
         rw [hmin] at hre
         obtain ⟨x, hx⟩ : ∃ x, x = 138 - 11 := ⟨_, rfl⟩
         obtain ⟨y, hy⟩ : ∃ y, y = m - 138 := ⟨_, rfl⟩
         have hxi : ((138 : Int)) - 11 = (x : Nat) := by omega
         have hyi : ((m : Int)) - 138 = (y : Nat) := by omega
         rw [← hx, ← hy] at hre
         have HRE := Lib.hid hre
         have HY := Lib.hid hy
         clear hre hx hmin hy h
         go_wp2_with (at_builtin; refine wpList_append_S rfl (.tmp 68) (.tmp 72) 229 229 rfl (w.heap.size) 232 i0 _ 3 24 Tryz.underlying229 hi hz0 hz1 hz2 rfl (by decide) (.slice A acc.length c) (acc.length) (runCells (acc)) rfl (hR.own.alloc _) (runCells_one _) (1) (runCells [(18, x, 7)]) (Src.made Tryz.underlying229 (by first | rfl | simp) rfl (runCells_one [(18, x, 7)])) (acc.length + 1) (by omega) (runCells (acc ++ [(18, x, 7)])) (by simp [runCells]) (by unfold maxLen; omega) (by omega) (by first | omega | (simp; done) | (simp; omega)) ?_; intro A' c' w4 hown4 hg4 hat4)
         have HR4 := Lib.hid (hR.snoc hown4 hg4)
         clear hown4 hg4 hat4 hR
         go_roundw
         case rel =>
          have hy := HY.out
          refine ⟨acc ++ [(18, x, 7)], y, fu, A', c', by rw [List.length_append, List.length_singleton], by first | rfl | (congr 1; omega) | go_num, by omega, ?_, by rw [List.length_append, List.length_singleton]; omega, by omega, by rw [List.length_append, List.length_singleton]; exact HR4.out⟩
          have h := HRE.out
          rw [List.append_assoc]
          exact h
         case measure => have hy := HY.out; simp [intOf] <;> omega
       ·rw [if_neg q1] at hre
        by_cases q2 : a = 0 ∧ 3 ≤ m
        ·as_aux_lemma =>
         rw [if_pos q2] at hre
         obtain ⟨q2a, q2b⟩ := q2
         have hya : ((a : Int) == 0) = true := by rw [q2a]; rfl
         have hyb : (m : Int) < 11 := by omega
         have hyc : (3 : Int) ≤ m := by omega
         obtain ⟨x, hx⟩ : ∃ x, x = m - 3 := ⟨_, rfl⟩
         have hxi : (m : Int) - 3 = (x : Nat) := by omega
         rw [← hx] at hre
         have HRE := Lib.hid hre
         clear hre hx q2a q1
         go_wp2_with (at_builtin; refine wpList_append_S rfl (.tmp 84) (.tmp 88) 229 229 rfl (w.heap.size) 232 i0 _ 3 24 Tryz.underlying229 hi hz0 hz1 hz2 rfl (by decide) (.slice A acc.length c) (acc.length) (runCells (acc)) rfl (hR.own.alloc _) (runCells_one _) (1) (runCells [(17, x, 3)]) (Src.made Tryz.underlying229 (by first | rfl | simp) rfl (runCells_one [(17, x, 3)])) (acc.length + 1) (by omega) (runCells (acc ++ [(17, x, 3)])) (by simp [runCells]) (by unfold maxLen; omega) (by omega) (by first | omega | (simp; done) | (simp; omega)) ?_; intro A' c' w4 hown4 hg4 hat4)
         have HR4 := Lib.hid (hR.snoc hown4 hg4)
         clear hown4 hg4 hat4 hR
         go_roundw
         case rel =>
          refine ⟨acc ++ [(17, x, 3)], 0, fu, A', c', by rw [List.length_append, List.length_singleton], rfl, Nat.zero_le _, ?_, by rw [List.length_append, List.length_singleton]; omega, by omega, by rw [List.length_append, List.length_singleton]; exact HR4.out⟩
          have h := HRE.out
          rw [Inf.runOf_zero, List.nil_append, List.append_assoc]
          exact h
         case measure => simp [intOf]; omega
        ·rw [if_neg q2] at hre
         by_cases q3 : 0 < a ∧ 3 ≤ m
         ·rw [if_pos q3] at hre
          obtain ⟨q3a, q3b⟩ := q3
          have hya : ((a : Int) == 0) = false := by rw [beq_eq_false_iff_ne]; omega
          have hyb : (0 : Int) < a := by omega
          have hyc : (3 : Int) ≤ m := by omega
          clear q1 q2
          rcases Nat.lt_trichotomy m 6 with h | h | h
          ·as_aux_lemma =>
           have hmi : (m : Int) < 6 := by omega
           have hmin : min m 6 = m := by omega
           rw [hmin] at hre
           obtain ⟨x, hx⟩ : ∃ x, x = m - 3 := ⟨_, rfl⟩
           obtain ⟨y, hy⟩ : ∃ y, y = m - m := ⟨_, rfl⟩
           have hxi : ((m : Int)) - 3 = (x : Nat) := by omega
           have hyi : ((m : Int)) - m = (y : Nat) := by omega
           rw [← hx, ← hy] at hre
           have HRE := Lib.hid hre
           have HY := Lib.hid hy
           clear hre hx hmin hy h
           go_wp2_with (at_builtin; refine wpList_append_S rfl (.tmp 99) (.tmp 103) 229 229 rfl (w.heap.size) 232 i0 _ 3 24 Tryz.underlying229 hi hz0 hz1 hz2 rfl (by decide) (.slice A acc.length c) (acc.length) (runCells (acc)) rfl (hR.own.alloc _) (runCells_one _) (1) (runCells [(16, x, 2)]) (Src.made Tryz.underlying229 (by first | rfl | simp) rfl (runCells_one [(16, x, 2)])) (acc.length + 1) (by omega) (runCells (acc ++ [(16, x, 2)])) (by simp [runCells]) (by unfold maxLen; omega) (by omega) (by first | omega | (simp; done) | (simp; omega)) ?_; intro A' c' w4 hown4 hg4 hat4)
           have HR4 := Lib.hid (hR.snoc hown4 hg4)
           clear hown4 hg4 hat4 hR
           go_roundw
           case rel =>
            have hy := HY.out
            refine ⟨acc ++ [(16, x, 2)], y, fu, A', c', by rw [List.length_append, List.length_singleton], by first | rfl | (congr 1; omega) | go_num, by omega, ?_, by rw [List.length_append, List.length_singleton]; omega, by omega, by rw [List.length_append, List.length_singleton]; exact HR4.out⟩
            have h := HRE.out
            rw [List.append_assoc]
            exact h
           case measure => have hy := HY.out; simp [intOf] <;> omega
          ·as_aux_lemma =>
           subst h
           have hmin : min 6 6 = 6 := rfl
           rw [hmin] at hre
           obtain ⟨x, hx⟩ : ∃ x, x = 6 - 3 := ⟨_, rfl⟩
           obtain ⟨y, hy⟩ : ∃ y, y = 6 - 6 := ⟨_, rfl⟩
           have hxi : ((6 : Int)) - 3 = (x : Nat) := by omega
           have hyi : ((6 : Int)) - 6 = (y : Nat) := by omega
           rw [← hx, ← hy] at hre
           have HRE := Lib.hid hre
           have HY := Lib.hid hy
           clear hre hx hmin hy 
           go_wp2_with (at_builtin; refine wpList_append_S rfl (.tmp 99) (.tmp 103) 229 229 rfl (w.heap.size) 232 i0 _ 3 24 Tryz.underlying229 hi hz0 hz1 hz2 rfl (by decide) (.slice A acc.length c) (acc.length) (runCells (acc)) rfl (hR.own.alloc _) (runCells_one _) (1) (runCells [(16, x, 2)]) (Src.made Tryz.underlying229 (by first | rfl | simp) rfl (runCells_one [(16, x, 2)])) (acc.length + 1) (by omega) (runCells (acc ++ [(16, x, 2)])) (by simp [runCells]) (by unfold maxLen; omega) (by omega) (by first | omega | (simp; done) | (simp; omega)) ?_; intro A' c' w4 hown4 hg4 hat4)
           have HR4 := Lib.hid (hR.snoc hown4 hg4)
           clear hown4 hg4 hat4 hR
           go_roundw
           case rel =>
            have hy := HY.out
            refine ⟨acc ++ [(16, x, 2)], y, fu, A', c', by rw [List.length_append, List.length_singleton], by first | rfl | (congr 1; omega) | go_num, by omega, ?_, by rw [List.length_append, List.length_singleton]; omega, by omega, by rw [List.length_append, List.length_singleton]; exact HR4.out⟩
            have h := HRE.out
            rw [List.append_assoc]
            exact h
           case measure => have hy := HY.out; simp [intOf] <;> omega
          ·as_aux_lemma =>
           have hmi : (6 : Int) < m := by omega
           have hmin : min m 6 = 6 := by omega
           rw [hmin] at hre
           obtain ⟨x, hx⟩ : ∃ x, x = 6 - 3 := ⟨_, rfl⟩
           obtain ⟨y, hy⟩ : ∃ y, y = m - 6 := ⟨_, rfl⟩
           have hxi : ((6 : Int)) - 3 = (x : Nat) := by omega
           have hyi : ((m : Int)) - 6 = (y : Nat) := by omega
           rw [← hx, ← hy] at hre
           have HRE := Lib.hid hre
           have HY := Lib.hid hy
           clear hre hx hmin hy h
           go_wp2_with (at_builtin; refine wpList_append_S rfl (.tmp 99) (.tmp 103) 229 229 rfl (w.heap.size) 232 i0 _ 3 24 Tryz.underlying229 hi hz0 hz1 hz2 rfl (by decide) (.slice A acc.length c) (acc.length) (runCells (acc)) rfl (hR.own.alloc _) (runCells_one _) (1) (runCells [(16, x, 2)]) (Src.made Tryz.underlying229 (by first | rfl | simp) rfl (runCells_one [(16, x, 2)])) (acc.length + 1) (by omega) (runCells (acc ++ [(16, x, 2)])) (by simp [runCells]) (by unfold maxLen; omega) (by omega) (by first | omega | (simp; done) | (simp; omega)) ?_; intro A' c' w4 hown4 hg4 hat4)
           have HR4 := Lib.hid (hR.snoc hown4 hg4)
           clear hown4 hg4 hat4 hR
           go_roundw
           case rel =>
            have hy := HY.out
            refine ⟨acc ++ [(16, x, 2)], y, fu, A', c', by rw [List.length_append, List.length_singleton], by first | rfl | (congr 1; omega) | go_num, by omega, ?_, by rw [List.length_append, List.length_singleton]; omega, by omega, by rw [List.length_append, List.length_singleton]; exact HR4.out⟩
            have h := HRE.out
            rw [List.append_assoc]
            exact h
           case measure => have hy := HY.out; simp [intOf] <;> omega
         ·as_aux_lemma =>
          rw [if_neg q3] at hre
          obtain ⟨x, hx⟩ : ∃ x, x = m - 1 := ⟨_, rfl⟩
          have hxi : (m : Int) - 1 = (x : Nat) := by omega
          rw [← hx] at hre
          have HRE := Lib.hid hre
          have HX := Lib.hid hx
          clear hre hx
          by_cases h0 : a = 0
          ·have hya : ((a : Int) == 0) = true := by rw [h0]; rfl
           have hyb : (m : Int) < 11 := by omega
           have hyc : (m : Int) < 3 := by omega
           have hyd : (a : Int) ≤ 0 := by omega
           clear q1 q2 q3 h0
           go_wp2_with (at_builtin; refine wpList_append_S rfl (.tmp 52) (.tmp 55) 229 229 rfl (w.heap.size) 232 i0 _ 3 24 Tryz.underlying229 hi hz0 hz1 hz2 rfl (by decide) (.slice A acc.length c) (acc.length) (runCells (acc)) rfl (hR.own.alloc _) (runCells_one _) (1) (runCells [(a, 0, 0)]) (Src.made Tryz.underlying229 (by first | rfl | simp) rfl (runCells_one [(a, 0, 0)])) (acc.length + 1) (by omega) (runCells (acc ++ [(a, 0, 0)])) (by simp [runCells]) (by unfold maxLen; omega) (by omega) (by first | omega | (simp; done) | (simp; omega)) ?_; intro A' c' w4 hown4 hg4 hat4)
           have HR4 := Lib.hid (hR.snoc hown4 hg4)
           clear hown4 hg4 hat4 hR
           go_roundw
           case rel =>
            have hx := HX.out
            refine ⟨acc ++ [(a, 0, 0)], x, fu, A', c', by rw [List.length_append, List.length_singleton], by first | rfl | (congr 1; omega) | go_num, by omega, ?_, by rw [List.length_append, List.length_singleton]; omega, by omega, by rw [List.length_append, List.length_singleton]; exact HR4.out⟩
            have h := HRE.out
            rw [List.append_assoc]
            exact h
           case measure => have hx := HX.out; simp [intOf] <;> omega
          ·have hya : ((a : Int) == 0) = false := by rw [beq_eq_false_iff_ne]; omega
           have hyc : (m : Int) < 3 := by omega
           have hyd : (0 : Int) < a := by omega
           clear q1 q2 q3 h0
           go_wp2_with (at_builtin; refine wpList_append_S rfl (.tmp 52) (.tmp 55) 229 229 rfl (w.heap.size) 232 i0 _ 3 24 Tryz.underlying229 hi hz0 hz1 hz2 rfl (by decide) (.slice A acc.length c) (acc.length) (runCells (acc)) rfl (hR.own.alloc _) (runCells_one _) (1) (runCells [(a, 0, 0)]) (Src.made Tryz.underlying229 (by first | rfl | simp) rfl (runCells_one [(a, 0, 0)])) (acc.length + 1) (by omega) (runCells (acc ++ [(a, 0, 0)])) (by simp [runCells]) (by unfold maxLen; omega) (by omega) (by first | omega | (simp; done) | (simp; omega)) ?_; intro A' c' w4 hown4 hg4 hat4)
           have HR4 := Lib.hid (hR.snoc hown4 hg4)
           clear hown4 hg4 hat4 hR
           go_roundw
           case rel =>
            have hx := HX.out
            refine ⟨acc ++ [(a, 0, 0)], x, fu, A', c', by rw [List.length_append, List.length_singleton], by first | rfl | (congr 1; omega) | go_num, by omega, ?_, by rw [List.length_append, List.length_singleton]; omega, by omega, by rw [List.length_append, List.length_singleton]; exact HR4.out⟩
            have h := HRE.out
            rw [List.append_assoc]
            exact h
           case measure => have hx := HX.out; simp [intOf] <;> omega
  ·as_aux_lemma =>
   rw [List.drop_of_length_le (by omega), Inf.runsF_nil, List.append_nil] at hRe
   subst hRe
   have hii : i = l.length := by omega
   subst hii
   clear hil hlt
   go_wp2
   go_ret
   exact ⟨_, _, rfl, hR.own, hR.bel⟩
end Go.Proofs.YtkegkelaffohjaaGreatDoor
