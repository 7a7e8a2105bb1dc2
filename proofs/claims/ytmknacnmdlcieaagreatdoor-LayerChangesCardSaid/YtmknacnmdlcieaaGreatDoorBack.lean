/- back: a document of the package as one of the reference; SameDoc of two documents of the same layers: the walks. -/
import Derived.Test.YtmknacnmdlcieaaGreatDoorOwnRef
namespace Go.Proofs.YtmknacnmdlcieaaGreatDoor
open Go Go.RowKit

set_option maxRecDepth 100000 in
set_option maxHeartbeats 4000000 in
theorem back_any (W H : Int) (A : Option Addr) (n c : Nat) (ms : List LM) (w : World) (hL : Lays w w.heap.size A n ms) (hn : n ≤ 4096) :
    Calls Tryz.prog 36 #[.agg #[.int .i64 W, .int .i64 H, .slice A n c]] w
      fun e w' => ∃ A' c', e = .returned (.agg #[.int .i64 W, .int .i64 H, .slice A' n c']) ∧ LaysO w' w.heap.size (.slice A' n c') ms ∧ Below w.heap.size w w' := by
  obtain ⟨i0, hi, hz0, hz1, hz2⟩ := info_parts layInfo3
  obtain rfl := hL.len
  go_enter Tryz.func36, Tryz.ntmps36
  go_wp2_with fail
  go_loopw [4] (fun i wr => ∃ (k : Nat) (v : Value), k ≤ ms.length ∧ i = .int .i64 k ∧ DcR 39 24 W H A ms.length c w v (ms.take k) wr) (fun i _ => ms.length - (intOf i).toNat)
  case atStart => exact ⟨0, _, Nat.zero_le _, rfl, ((Blk.new _ _ _ rfl).alloc _).alloc _, (Blk.new _ _ _ (by simp)).alloc _, Blk.new _ _ _ (by simp), LaysO.nil _ _, (fun m h => by cases h), by go_grown⟩
  case round =>
    obtain ⟨k, v, hk, rfl, F⟩ := hrel
    obtain ⟨wi, rfl⟩ : ∃ wi : World, wi = wr := ⟨_, rfl⟩
    obtain ⟨ns, hns⟩ : ∃ ns, ns = ms.take k := ⟨_, rfl⟩
    rw [← hns] at F
    have c1 := F.b1.cell
    have c2 := F.b2.cell
    have f2 := F.b2.free
    obtain ⟨Av, cv, rfl, hcv, _⟩ := F.own.own.form
    have hnl : ns.length = k := by rw [hns, List.length_take]; omega
    have HNS := Lib.hid hns
    clear hns
    by_cases hlt : k < ms.length
    · obtain ⟨b, off, rfl, hbl⟩ := hL.1.addr (by omega)
      have hLo := hL.below F.bel (Nat.le_refl _)
      have q0 := hLo.at k hlt 0 (by omega)
      have q1 := hLo.at k hlt 1 (by omega)
      have q2 := hLo.at k hlt 2 (by omega)
      have q3 := hLo.at k hlt 3 (by omega)
      have q4 := hLo.at k hlt 4 (by omega)
      have q5 := hLo.at k hlt 5 (by omega)
      have q6 := hLo.at k hlt 6 (by omega)
      have q7 := hLo.at k hlt 7 (by omega)
      have q8 := hLo.at k hlt 8 (by omega)
      have hpx := (hLo.px k hlt).more (show w.heap.size ≤ wi.heap.size by have := F.b1.lt; omega)
      have HO := Lib.hid (show ∀ b off, ms[k].A = some ⟨b, off, none⟩ → 0 < ms[k].n → b < w.heap.size from fun b off e hn => by
        obtain ⟨b2, o2, e2, hb, _⟩ := (hL.px k hlt).2 (by omega)
        rw [e] at e2
        injection e2 with e2
        injection e2 with e2
        omega)
      have HT := Lib.hid (List.take_succ_eq_append_getElem hlt)
      obtain ⟨m, hm⟩ : ∃ m, m = ms[k] := ⟨_, rfl⟩
      rw [← hm] at q0 q1 q2 q3 q4 q5 q6 q7 q8 hpx HO HT
      clear hm
      simp only [layCs, List.getElem?_cons_zero, List.getElem?_cons_succ] at q0 q1 q2 q3 q4 q5 q6 q7 q8
      rw [Nat.add_zero] at q0
      have hnk : ns.length ≤ 4096 := by omega
      have HNL := Lib.hid hnl
      have j0 : (0 : Int) ≤ (k : Int) := by omega
      have j1 : (k : Int) < (ms.length : Int) := by omega
      have HF := Lib.hid F
      have hF3 := F.b3.lt
      have HOW := Lib.hid F.own.own
      have HPX := Lib.hid hpx
      clear hnl hLo f2 c2 hpx
      have c3 := F.b3.cell
      have f3 := F.b3.free
      have l3 := F.b3.lt
      have hwz : w.heap.size ≤ wi.heap.size := F.bel.size
      clear F
      go_upto_region 6 with fail
      obtain ⟨W2, hW2⟩ : ∃ W2, W2 = wi.alloc (.cells #[.string m.l.name, .int .i64 m.l.x, .int .i64 m.l.y, .bool m.l.hidden, .int .i64 m.l.opacity, .int .i64 m.l.mode, .int .i64 m.l.wide, .int .i64 m.l.high, .slice m.A m.n m.c] 45) := ⟨_, rfl⟩
      obtain ⟨gB, hgB⟩ : ∃ gB, gB = wi.heap.size := ⟨_, rfl⟩
      have BB : Blk W2 gB 45 #[.string m.l.name, .int .i64 m.l.x, .int .i64 m.l.y, .bool m.l.hidden, .int .i64 m.l.opacity, .int .i64 m.l.mode, .int .i64 m.l.wide, .int .i64 m.l.high, .slice m.A m.n m.c] := by rw [hW2, hgB]; exact Blk.new _ _ _ rfl
      have b02 : Below wi.heap.size wi W2 := by rw [hW2]; exact Below.alloc (Below.refl _ _) (Nat.le_refl _) _
      rw [← hW2, ← hgB]
      clear hW2 hgB c3 f3 l3 c1
      have F2 := HF.out.step b02
      have c3 := F2.b3.cell
      have f3 := F2.b3.free
      have l3 := F2.b3.lt
      have hwz2 : w.heap.size ≤ W2.heap.size := F2.bel.size
      have cB := BB.cell
      have lB := BB.lt
      have HF2 := Lib.hid F2
      have HOW := Lib.hid F2.own.own
      have HP2 := Lib.hid ((HPX.out.below b02 (Nat.le_refl _)).more b02.size)
      clear F2 BB
      go_wp2_with (at_builtin; refine wpList_append_S rfl (.tmp 24) (.tmp 40) 22 22 rfl (w.heap.size + 3) 29 i0 _ 9 96 Tryz.underlying22 hi hz0 hz1 hz2 rfl (by decide) (.slice Av ns.length cv) (ns.length) (layCells ns) rfl (HOW.out.alloc _) (layCells_one _) (1) (layCs m) (Src.made Tryz.underlying22 (by first | rfl | simp) rfl (by intro u hu; exact layCells_one [m] u (by rw [layCells_single]; exact hu))) (ns.length + 1) (by omega) (layCells ns ++ layCs m) (rfl) (by unfold maxLen; omega) (by omega) (by simp; omega) ?_; intro A' c' wn hownn hgn hatn; have n3 : some (w.heap.size + 2) ≠ (Value.slice Av ns.length cv).ownBlock := (fun e => by have := (HOW.out.lt _ e.symm).1; omega); have t3 : wn.cell? ⟨w.heap.size + 2, 2, none⟩ = some (.slice Av ns.length cv) := (hgn.cell_far ⟨w.heap.size + 2, 2, none⟩ (by simp; omega) n3).trans (cell_past _ ((HF2.out.b3.cell 2).trans rfl)); have f3 : wn.frozen? ⟨w.heap.size + 2, 2, none⟩ = false := (hgn.frozen_far ⟨w.heap.size + 2, 2, none⟩ (by simp; omega) n3).trans (free_past _ (by simp; omega) (HF2.out.b3.free 2)); clear n3)
      have F9 := HF2.out.push HP2.out (fun b off e hn => .inl (HO.out b off e hn)) (fun b off e hn e2 => by have h1 := (HOW.out.lt _ e2).1; have := HO.out b off e hn; omega) hownn hgn hatn
      have HF9 := Lib.hid F9
      clear F9 hownn hgn hatn t3 f3
      go_roundw
      case rel => exact ⟨k + 1, _, by omega, by go_num, by rw [HT.out, ← HNS.out]; exact HF9.out⟩
      case measure => simp [intOf]; omega
    · have e : k = ms.length := by omega
      have HE := Lib.hid (show ns = ms by rw [HNS.out, e, List.take_length])
      clear e hnl
      have ho := F.own
      have HO := Lib.hid ho
      have HH := Lib.hid F.hi
      have c3 := F.b3.cell
      have n1 : (Value.slice Av ns.length cv).ownBlock ≠ some (w.heap.size + 1) := fun e => by have := (ho.own.lt _ e).1; omega
      have HN1 := Lib.hid n1
      clear ho n1
      go_wp2_with fail
      refine bodyPost_ret (v := .agg #[.int .i64 W, .int .i64 H, .slice Av ns.length cv]) (by simp [results, Tryz.results36, go_sem, c2]) rfl ?_
      rw [← HE.out]
      refine ⟨Av, cv, rfl, ?_, ?_⟩
      · exact (((HO.out.outSet HN1.out HH.out (by simp) (by simp) _).outSet HN1.out HH.out (by simp) (by simp) _).outSet HN1.out HH.out (by simp) (by simp) _).mono (by omega)
      · exact ((F.bel.setCell (by simp) _).setCell (by simp) _).setCell (by simp) _
end Go.Proofs.YtmknacnmdlcieaaGreatDoor
