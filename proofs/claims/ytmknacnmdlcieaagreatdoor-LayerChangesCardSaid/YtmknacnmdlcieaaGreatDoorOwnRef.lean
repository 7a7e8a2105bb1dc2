/- A list of layers that is built up in a document; the reference's OwnDoc; back: the walks. -/
import Derived.Test.YtmknacnmdlcieaaGreatDoorDocOf
import Derived.Deep.Cut
namespace Go.Proofs.YtmknacnmdlcieaaGreatDoor
open Go Go.RowKit

theorem layInfo3 : (Tryz.prog.info? 29).map (fun i => (i.zero, i.size, i.bytes)) = some (some (.agg #[.string ⟨#[]⟩, .int .i64 0, .int .i64 0, .bool false, .int .i64 0, .int .i64 0, .int .i64 0, .int .i64 0, .slice none 0 0]), 9, 96) := by kernel_rfl
/-- A layer's pixels lie in no block from lo up to hi. -/
def OutAt (lo hi : Nat) (m : LM) : Prop := ∀ b off, m.A = some ⟨b, off, none⟩ → 0 < m.n → b < lo ∨ hi ≤ b
theorem HiAt.out {B lo : Nat} {m : LM} (h : HiAt B m) : OutAt lo B m := fun b off e hn => .inr (h b off e hn)
theorem OutAt.lays {w : World} {B hi n : Nat} {A : Option Addr} {ms : List LM} (h : Lays w B A n ms) {m : LM} (hm : m ∈ ms) : OutAt B hi m := fun b off e hn => .inl (by
  obtain ⟨b2, o2, e2, hb, _⟩ := (h.2 m hm).2 (by omega)
  rw [e] at e2
  injection e2 with e2
  injection e2 with e2
  omega)
/-- What stands through a loop that builds a document up. -/
structure DcR (T1 T2 : TypeId) (W H : Int) (A : Option Addr) (n c : Nat) (w : World) (v : Value) (ns : List LM) (wr : World) : Prop where
  b1 : Blk wr w.heap.size T1 #[.int .i64 W, .int .i64 H, .slice A n c]
  b2 : Blk wr (w.heap.size + 1) T2 #[.int .i64 0, .int .i64 0, .slice none 0 0]
  b3 : Blk wr (w.heap.size + 2) T2 #[.int .i64 W, .int .i64 H, v]
  own : LaysO wr (w.heap.size + 3) v ns
  hi : ∀ m ∈ ns, OutAt w.heap.size (w.heap.size + 3) m
  bel : Below w.heap.size w wr
theorem DcR.step {T1 T2 : TypeId} {W H : Int} {A : Option Addr} {n c : Nat} {w wr w' : World} {v : Value} {ns : List LM} (h : DcR T1 T2 W H A n c w v ns wr) (hb : Below wr.heap.size wr w') : DcR T1 T2 W H A n c w v ns w' :=
  ⟨h.b1.below hb h.b1.lt, h.b2.below hb h.b2.lt, h.b3.below hb h.b3.lt, h.own.below hb (Nat.le_refl _), h.hi, h.bel.trans (hb.mono (by have := h.b1.lt; omega))⟩
theorem DcR.push {T1 T2 : TypeId} {W H : Int} {A : Option Addr} {n c : Nat} {w wA wT : World} {v v' : Value} {ns : List LM} {m : LM} {o : Obj} (F : DcR T1 T2 W H A n c w v ns wA) (hm : Reads wA wA.heap.size 4 m.A m.n (pxCells m.l.ps)) (hh : OutAt w.heap.size (w.heap.size + 3) m) (hoff : OffAt m.A m.n v)
    (ho : Own wT (w.heap.size + 3) 9 v' (ns.length + 1) (layCells ns ++ layCs m)) (hg : (wA.alloc o).grownBy wT v.ownBlock) (hat : v'.ownBlock = v.ownBlock ∨ v'.ownBlock = some (wA.alloc o).heap.size) : DcR T1 T2 W H A n c w v' (ns ++ [m]) (wT.setCell ⟨w.heap.size + 2, 2, none⟩ v') := by
  have F1 := F.step (Below.alloc (Below.refl _ _) (Nat.le_refl _) o)
  have h1 := F1.b1.lt
  have h2 := F1.b2.lt
  have h3 := F1.b3.lt
  have ne : ∀ g, g < w.heap.size + 3 → some g ≠ v.ownBlock := fun g hg' e => by have := (F1.own.own.lt g e.symm).1; omega
  have n3 : v'.ownBlock ≠ some (w.heap.size + 2) := by
    intro e
    rcases hat with h | h <;> rw [h] at e
    · exact ne _ (by omega) e.symm
    · injection e with e
      omega
  have L := F1.own.snoc ho hg hat ((hm.alloc (Nat.le_refl _) o).more (by simp)) hoff
  have HI : ∀ x ∈ ns ++ [m], OutAt w.heap.size (w.heap.size + 3) x := fun x hx => by
    rcases List.mem_append.1 hx with h | h
    · exact F.hi x h
    · rw [List.mem_singleton.1 h]; exact hh
  refine ⟨(F1.b1.grown hg (ne _ (by omega))).far (by simp) _, (F1.b2.grown hg (ne _ (by omega))).far (by simp) _, ?_, ?_, HI, ?_⟩
  · have := (F1.b3.grown hg (ne _ (by omega))).set_ 2 v'
    simpa using this
  · have hs : (wT.setCell ⟨w.heap.size + 2, 2, none⟩ v').heap.size = wT.heap.size := by simp [World.setCell]
    refine ⟨L.own.setCell n3 _, fun x hx => (L.px x hx).keepAt (by omega) fun b off e hb' hn => Below.heap_setCell _ _ _ _ ?_, L.off⟩
    intro e2
    have hbx : b = w.heap.size + 2 := e2
    have := HI x hx b off e (by omega)
    omega
  · exact (F1.bel.grown hg (by omega) (fun g e => by have := (F1.own.own.lt g e).1; omega)).setCell (by show w.heap.size ≤ w.heap.size + 2; omega) _
theorem LaysO.outSet {w : World} {base lo hi : Nat} {v : Value} {ns : List LM} (h : LaysO w base v ns) {p : Addr} (hp : v.ownBlock ≠ some p.block) (ho : ∀ m ∈ ns, OutAt lo hi m) (hl : lo ≤ p.block) (hB : p.block < hi) (u : Value) : LaysO (w.setCell p u) base v ns := by
  refine ⟨h.own.setCell hp u, fun m hm => (h.px m hm).keepAt (by simp [World.setCell]) fun b off e _ hn => Below.heap_setCell _ _ _ _ ?_, h.off⟩
  intro e2
  have := ho m hm b off e (by omega)
  omega

set_option maxRecDepth 100000 in
set_option maxHeartbeats 4000000 in
theorem refOwn_any (W H : Int) (A : Option Addr) (n c : Nat) (ms : List LM) (w : World) (hL : Lays w w.heap.size A n ms) (hn : n ≤ 4096) (hp : ∀ m ∈ ms, m.n ≤ 1048576) :
    Calls Tryz.prog 8 #[.agg #[.int .i64 W, .int .i64 H, .slice A n c]] w
      fun e w' => ∃ A' c' ns, e = .returned (.agg #[.int .i64 W, .int .i64 H, .slice A' ns.length c']) ∧ LaysO w' w.heap.size (.slice A' ns.length c') ns ∧ lsOf ns = lsOf ms ∧ (∀ m ∈ ns, HiAt w.heap.size m) ∧ Below w.heap.size w w' := by
  obtain ⟨i0, hi, hz0, hz1, hz2⟩ := info_parts layInfo3
  obtain rfl := hL.len
  have HP := Lib.hid hp
  clear hp
  go_enter Tryz.func8, Tryz.ntmps8
  go_wp2_with fail
  go_loopw [4] (fun i wr => ∃ (k : Nat) (v : Value) (ns : List LM), k ≤ ms.length ∧ i = .int .i64 k ∧ lsOf ns = lsOf (ms.take k) ∧ (∀ m ∈ ns, HiAt (w.heap.size + 3) m) ∧ DcR 24 24 W H A ms.length c w v ns wr) (fun i _ => ms.length - (intOf i).toNat)
  case atStart => exact ⟨0, _, [], Nat.zero_le _, rfl, rfl, (fun m h => by cases h), ((Blk.new _ _ _ rfl).alloc _).alloc _, (Blk.new _ _ _ (by simp)).alloc _, Blk.new _ _ _ (by simp), LaysO.nil _ _, (fun m h => by cases h), by go_grown⟩
  case round =>
    obtain ⟨k, v, ns, hk, rfl, hns, hhi, F⟩ := hrel
    obtain ⟨wi, rfl⟩ : ∃ wi : World, wi = wr := ⟨_, rfl⟩
    have c1 := F.b1.cell
    have c2 := F.b2.cell
    have f2 := F.b2.free
    obtain ⟨Av, cv, rfl, hcv, _⟩ := F.own.own.form
    have hnl : ns.length = k := by rw [← lsOf_len, hns, lsOf_len, List.length_take]; omega
    have HNS := Lib.hid hns
    have HHI := Lib.hid hhi
    clear hns hhi
    by_cases hlt : k < ms.length
    · obtain ⟨b, off, rfl, hbl⟩ := hL.1.addr (by omega)
      have hLo := hL.below F.bel (Nat.le_refl _)
      have q0 := hLo.at k hlt 0 (by omega)
      have q1 := hLo.at k hlt 1 (by omega)
      have q2 := hLo.at k hlt 2 (by omega)
      have q3 := hLo.at k hlt 3 (by omega)
      have q4 := hLo.at k hlt 4 (by omega)
      have q5 := hLo.at k hlt 5 (by omega)
      have q6 := hLo.at k hlt 6 (by omega)
      have q7 := hLo.at k hlt 7 (by omega)
      have q8 := hLo.at k hlt 8 (by omega)
      have hpx := (hLo.px k hlt).more (show w.heap.size ≤ wi.heap.size by have := F.b1.lt; omega)
      have hpn := HP.out ms[k] (List.getElem_mem hlt)
      have HT := Lib.hid (List.take_succ_eq_append_getElem hlt)
      obtain ⟨m, hm⟩ : ∃ m, m = ms[k] := ⟨_, rfl⟩
      rw [← hm] at q0 q1 q2 q3 q4 q5 q6 q7 q8 hpx hpn HT
      clear hm
      simp only [layCs, List.getElem?_cons_zero, List.getElem?_cons_succ] at q0 q1 q2 q3 q4 q5 q6 q7 q8
      rw [Nat.add_zero] at q0
      have hnk : ns.length ≤ 4096 := by omega
      have HNL := Lib.hid hnl
      have j0 : (0 : Int) ≤ (k : Int) := by omega
      have j1 : (k : Int) < (ms.length : Int) := by omega
      have HF := Lib.hid F
      have hF3 := F.b3.lt
      clear hnl hLo f2 c2 F
      go_wp2_with fail
      obtain ⟨gB, hgB⟩ : ∃ gB, gB = wi.heap.size := ⟨_, rfl⟩
      obtain ⟨W1, hW1⟩ : ∃ W1, W1 = wi.alloc (.cells #[.string m.l.name, .int .i64 m.l.x, .int .i64 m.l.y, .bool m.l.hidden, .int .i64 m.l.opacity, .int .i64 m.l.mode, .int .i64 m.l.wide, .int .i64 m.l.high, .slice m.A m.n m.c] 29) := ⟨_, rfl⟩
      have BB : Blk W1 gB 29 #[.string m.l.name, .int .i64 m.l.x, .int .i64 m.l.y, .bool m.l.hidden, .int .i64 m.l.opacity, .int .i64 m.l.mode, .int .i64 m.l.wide, .int .i64 m.l.high, .slice m.A m.n m.c] := by rw [hW1, hgB]; exact Blk.new _ _ _ rfl
      have b01 : Below wi.heap.size wi W1 := by rw [hW1]; exact Below.alloc (Below.refl _ _) (Nat.le_refl _) _
      have HGB := Lib.hid hgB
      rw [← hW1, ← hgB]
      clear hW1 hgB c1 q0 q1 q2 q3 q4 q5 q6 q7 q8
      refine (own_any m.l.wide m.l.high m.A m.n m.c m.l.ps _ ((hpx.below b01 (Nat.le_refl _)).more b01.size) hpn).mono ?_
      rintro e wA ⟨Ap, cp, rfl, hoA, hbA⟩
      have BA := BB.below hbA BB.lt
      have b0A := b01.trans (hbA.mono b01.size)
      have cB := BA.cell
      have fB := BA.free
      have lB := BA.lt
      have HOA := Lib.hid hoA
      have HB1 := Lib.hid b01.size
      have HBL := Lib.hid BB.lt
      clear hbA hoA b01 BB
      go_upto_region 7 with fail
      obtain ⟨W2, hW2⟩ : ∃ W2, W2 = ((wA.setCell ⟨gB, 6, none⟩ (.int .i64 m.l.wide)).setCell ⟨gB, 7, none⟩ (.int .i64 m.l.high)).setCell ⟨gB, 8, none⟩ (.slice Ap m.n cp) := ⟨_, rfl⟩
      have hgw : wi.heap.size ≤ gB := by rw [HGB.out]; exact Nat.le_refl _
      have b02 : Below wi.heap.size wi W2 := by rw [hW2]; exact ((b0A.setCell hgw _).setCell hgw _).setCell hgw _
      have BB2 : Blk W2 gB 29 #[.string m.l.name, .int .i64 m.l.x, .int .i64 m.l.y, .bool m.l.hidden, .int .i64 m.l.opacity, .int .i64 m.l.mode, .int .i64 m.l.wide, .int .i64 m.l.high, .slice Ap m.n cp] := by
        rw [hW2]
        have := ((BA.set_ 6 (.int .i64 m.l.wide)).set_ 7 (.int .i64 m.l.high)).set_ 8 (.slice Ap m.n cp)
        simpa using this
      have hO2 : Own W2 W1.heap.size 4 (.slice Ap m.n cp) m.n (pxCells m.l.ps) := by
        rw [hW2]
        have n1 : (Value.slice Ap m.n cp).ownBlock ≠ some gB := fun e => by have := (HOA.out.lt _ e).1; have := HBL.out; omega
        exact ((HOA.out.setCell n1 _).setCell n1 _).setCell n1 _
      rw [← hW2]
      clear hW2 cB fB lB BA b0A
      have F2 := HF.out.step b02
      have c3 := F2.b3.cell
      have f3 := F2.b3.free
      have l3 := F2.b3.lt
      have cB := BB2.cell
      have lB := BB2.lt
      have HF2 := Lib.hid F2
      have hwz : w.heap.size ≤ W2.heap.size := F2.bel.size
      have HOW := Lib.hid F2.own.own
      clear F2 BB2
      go_wp2_with (at_builtin; refine wpList_append_S rfl (.tmp 28) (.tmp 30) 22 22 rfl (w.heap.size + 3) 29 i0 _ 9 96 Tryz.underlying22 hi hz0 hz1 hz2 rfl (by decide) (.slice Av ns.length cv) (ns.length) (layCells ns) rfl (HOW.out.alloc _) (layCells_one _) (1) (layCs ⟨m.l, Ap, m.n, cp⟩) (Src.made Tryz.underlying22 (by first | rfl | simp) rfl (by intro u hu; exact layCells_one [⟨m.l, Ap, m.n, cp⟩] u (by rw [layCells_single]; exact hu))) (ns.length + 1) (by omega) (layCells ns ++ layCs ⟨m.l, Ap, m.n, cp⟩) (rfl) (by unfold maxLen; omega) (by omega) (by simp; omega) ?_; intro A' c' wn hownn hgn hatn; have n3 : some (w.heap.size + 2) ≠ (Value.slice Av ns.length cv).ownBlock := (fun e => by have := (HOW.out.lt _ e.symm).1; omega); have t3 : wn.cell? ⟨w.heap.size + 2, 2, none⟩ = some (.slice Av ns.length cv) := (hgn.cell_far ⟨w.heap.size + 2, 2, none⟩ (by simp; omega) n3).trans (cell_past _ ((HF2.out.b3.cell 2).trans rfl)); have f3 : wn.frozen? ⟨w.heap.size + 2, 2, none⟩ = false := (hgn.frozen_far ⟨w.heap.size + 2, 2, none⟩ (by simp; omega) n3).trans (free_past _ (by simp; omega) (HF2.out.b3.free 2)); clear n3)
      have hgt : HiAt (w.heap.size + 3) ⟨m.l, Ap, m.n, cp⟩ := (HiAt.own (m := ⟨m.l, Ap, m.n, cp⟩) hO2).mono (by have := HB1.out; omega)
      have F9 := HF2.out.push (m := ⟨m.l, Ap, m.n, cp⟩) hO2.reads.2 hgt.out ((HiAt.own (m := ⟨m.l, Ap, m.n, cp⟩) hO2).off fun g hg => by have := (HF.out.own.own.lt g hg).2; have := HB1.out; omega) hownn hgn hatn
      have HF9 := Lib.hid F9
      have HGT := Lib.hid hgt
      clear F9 hownn hgn hatn t3 f3 hgt hO2
      go_roundw
      case rel =>
        refine ⟨k + 1, _, ns ++ [⟨m.l, Ap, m.n, cp⟩], by omega, by go_num, ?_, ?_, HF9.out⟩
        · rw [HT.out]
          have := HNS.out
          simp only [lsOf, List.map_append] at this ⊢
          rw [this]
          rfl
        · intro x hx
          rcases List.mem_append.1 hx with h | h
          · exact HHI.out x h
          · rw [List.mem_singleton.1 h]; exact HGT.out
      case measure => simp [intOf]; omega
    · have e : k = ms.length := by omega
      have HE := Lib.hid (show lsOf ns = lsOf ms by rw [HNS.out, e, List.take_length])
      clear e hnl
      have ho := F.own
      have HO := Lib.hid ho
      have h1 := F.hi
      have HH := Lib.hid h1
      have c3 := F.b3.cell
      have n1 : (Value.slice Av ns.length cv).ownBlock ≠ some (w.heap.size + 1) := fun e => by have := (ho.own.lt _ e).1; omega
      have HN1 := Lib.hid n1
      clear ho h1 n1
      go_wp2_with fail
      refine bodyPost_ret (v := .agg #[.int .i64 W, .int .i64 H, .slice Av ns.length cv]) (by simp [results, Tryz.results8, go_sem, c2]) rfl ⟨Av, cv, ns, rfl, ?_, HE.out, fun m hm => (HHI.out m hm).mono (by omega), ?_⟩
      · exact ((HO.out.far HN1.out HHI.out (by show w.heap.size + 1 < w.heap.size + 3; omega) _).far HN1.out HHI.out (by show w.heap.size + 1 < w.heap.size + 3; omega) _).far HN1.out HHI.out (by show w.heap.size + 1 < w.heap.size + 3; omega) _ |>.mono (by omega)
      · exact ((F.bel.setCell (by simp) _).setCell (by simp) _).setCell (by simp) _
end Go.Proofs.YtmknacnmdlcieaaGreatDoor
