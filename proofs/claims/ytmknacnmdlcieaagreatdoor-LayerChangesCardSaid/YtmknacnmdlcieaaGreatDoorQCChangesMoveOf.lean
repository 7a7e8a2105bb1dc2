/- MoveOf of the reference: the walk. Printed by mkmoveof.py. -/
import Derived.Test.YtmknacnmdlcieaaGreatDoorKCChanges0
namespace Go.Proofs.YtmknacnmdlcieaaGreatDoor
open Go Go.RowKit

theorem run_doc_list (a b : Int) (C : Option Addr) (n c : Nat) (w : World) : (Instr.field 24 (.agg #[.int .i64 a, .int .i64 b, .slice C n c]) 2).run Tryz.prog w = .ok (.slice C n c) w := by kernel_rfl
set_option maxRecDepth 100000 in
set_option maxHeartbeats 4000000 in
theorem moveOf_any (W H : Int) (A : Option Addr) (n c k tt : Nat) (ms : List LM) (w : World) (hL : Lays w w.heap.size A n ms) (hn : n ≤ 4096) (hp : ∀ m ∈ ms, m.n ≤ 1048576) (hk : k < n) (ht : tt < n) :
    Calls Tryz.prog 20 #[.agg #[.int .i64 W, .int .i64 H, .slice A n c], .int .i64 k, .int .i64 tt] w
      fun e w' => ∃ A' c' ns x, e = .returned (.agg #[.int .i64 W, .int .i64 H, .slice A' ns.length c']) ∧ LaysO w' w.heap.size (.slice A' ns.length c') ns ∧ (lsOf ms)[k]? = some x ∧ lsOf ns = movedL (lsOf ms) k tt x ∧ Below w.heap.size w w' := by
  obtain ⟨i0, hi, hz0, hz1, hz2⟩ := info_parts layInfo3
  have HLN := Lib.hid hL.len
  have HL0 := Lib.hid hL
  have HL1 := Lib.hid (fun o o2 => (hL.step (Below.alloc (Below.refl _ _) (Nat.le_refl _) o)).step (Below.alloc (Below.refl _ _) (Nat.le_refl _) o2))
  have HPP := Lib.hid hp
  have hfd := run_doc_list
  clear hL hp
  go_enter Tryz.func20, Tryz.ntmps20
  go_wp2_with fail
  refine (refOwn_any W H A n c ms _ (HL1.out _ _) hn HPP.out).mono ?_
  rintro e w1 ⟨A1, c1, ns, rfl, hO, hns, hhi, hb1⟩
  have BD := (Blk.new w 24 #[.int .i64 W, .int .i64 H, .slice A n c] rfl).alloc (.cells #[.int .i64 0, .int .i64 0, .slice none 0 0] 24) |>.below hb1 (by simp; omega)
  have B4 := (Blk.new (w.alloc (.cells #[.int .i64 W, .int .i64 H, .slice A n c] 24)) 24 #[.int .i64 0, .int .i64 0, .slice none 0 0] rfl).below hb1 (by simp)
  simp at B4
  have HBW := Lib.hid (Below.trans (show Below w.heap.size w ((w.alloc (.cells #[.int .i64 W, .int .i64 H, .slice A n c] 24)).alloc (.cells #[.int .i64 0, .int .i64 0, .slice none 0 0] 24)) by go_grown) (hb1.mono (by simp; omega)))
  have HNL := Lib.hid (same_lays hns)
  obtain ⟨g, off, rfl, hg1, hg2⟩ := hO.own.addr (by have := HNL.out; have := HLN.out; omega)
  have hkn : k < ns.length := by have := HNL.out; have := HLN.out; omega
  have q0 := hO.lays.at k hkn 0 (by omega)
  have q1 := hO.lays.at k hkn 1 (by omega)
  have q2 := hO.lays.at k hkn 2 (by omega)
  have q3 := hO.lays.at k hkn 3 (by omega)
  have q4 := hO.lays.at k hkn 4 (by omega)
  have q5 := hO.lays.at k hkn 5 (by omega)
  have q6 := hO.lays.at k hkn 6 (by omega)
  have q7 := hO.lays.at k hkn 7 (by omega)
  have q8 := hO.lays.at k hkn 8 (by omega)
  have hpx := hO.px ns[k] (List.getElem_mem hkn)
  have HX := Lib.hid (show (lsOf ms)[k]? = some ns[k].l by rw [← hns, List.getElem?_eq_getElem (by rw [lsOf_len]; exact hkn), lsOf_get ns k hkn])
  obtain ⟨x, hx⟩ : ∃ x, x = ns[k] := ⟨_, rfl⟩
  rw [← hx] at q0 q1 q2 q3 q4 q5 q6 q7 q8 hpx HX
  simp only [layCs, List.getElem?_cons_zero, List.getElem?_cons_succ] at q0 q1 q2 q3 q4 q5 q6 q7 q8
  rw [Nat.add_zero] at q0
  have HPX := Lib.hid hpx
  have HBD := Lib.hid BD
  have HB4 := Lib.hid B4
  have z0 : (0 : Int) ≤ (k : Int) := by omega
  have z1 : (k : Int) < (ns.length : Int) := by omega
  have lD := BD.lt
  have cD := BD.cell
  have l4 := B4.lt
  clear hx hpx hns hhi hb1 hO BD B4
  go_wp2_with fail
  obtain ⟨W2, hW2⟩ : ∃ W2, W2 = w1.alloc (.cells #[.string x.l.name, .int .i64 x.l.x, .int .i64 x.l.y, .bool x.l.hidden, .int .i64 x.l.opacity, .int .i64 x.l.mode, .int .i64 x.l.wide, .int .i64 x.l.high, .slice x.A x.n x.c] 29) := ⟨_, rfl⟩
  obtain ⟨gX, hgX⟩ : ∃ gX, gX = w1.heap.size := ⟨_, rfl⟩
  have b12 : Below w1.heap.size w1 W2 := by rw [hW2]; exact Below.alloc (Below.refl _ _) (Nat.le_refl _) _
  have BX : Blk W2 gX 29 #[.string x.l.name, .int .i64 x.l.x, .int .i64 x.l.y, .bool x.l.hidden, .int .i64 x.l.opacity, .int .i64 x.l.mode, .int .i64 x.l.wide, .int .i64 x.l.high, .slice x.A x.n x.c] := by rw [hW2, hgX]; exact Blk.new _ _ _ rfl
  have hgx1 : w1.heap.size ≤ gX := by omega
  have HB2 := Lib.hid (HBW.out.trans (b12.mono HBW.out.size))
  have HBX := Lib.hid BX
  have HPX2 := Lib.hid ((HPX.out.below b12 (Nat.le_refl _)).more b12.size)
  have HBD2 := Lib.hid (HBD.out.below b12 HBD.out.lt)
  have HB42 := Lib.hid (HB4.out.below b12 HB4.out.lt)
  rw [← hW2, ← hgX]
  clear hW2 hgX q0 q1 q2 q3 q4 q5 q6 q7 q8 b12 BX z0 z1 cD
  refine (removeOf_any W H A n c k ms W2 ((HL0.out.below HB2.out (Nat.le_refl _)).more HB2.out.size) hn HPP.out hk).mono ?_
  rintro e w3 ⟨A3, c3, es, rfl, hO3, hes, hb3⟩
  have hel : es.length + 1 = n := by
    have h := congrArg List.length hes
    rw [lsOf_len, List.length_eraseIdx_of_lt (by rw [lsOf_len, ← HLN.out]; exact hk), lsOf_len] at h
    have := HLN.out
    omega
  have BX3 := HBX.out.below hb3 HBX.out.lt
  have B43 := HB42.out.below hb3 HB42.out.lt
  have HB3 := Lib.hid (HB2.out.trans (hb3.mono HB2.out.size))
  have HPX3 := Lib.hid ((HPX2.out.below hb3 (Nat.le_refl _)).more hb3.size)
  have HO3 := Lib.hid hO3
  have hrm : es.length ≤ c3 ∧ c3 ≤ 9223372036854775807 := by
    rcases hO3.own.2 with ⟨e, h0⟩ | ⟨_, _, _, e, _, _, h1, h, _⟩
    · injection e with e1 e2 e3
      omega
    · injection e with _ _ e3
      unfold maxLen at h
      omega
  obtain ⟨hr1, hr2⟩ := hrm
  have HES := Lib.hid hes
  have HBX3 := Lib.hid BX3
  have HB43 := Lib.hid B43
  have hgx3 : gX < w3.heap.size := BX3.lt
  have l43 : w.heap.size + 1 < w3.heap.size := B43.lt
  have hne5 : w.heap.size + 1 < gX := by omega
  obtain ⟨m, hm⟩ : ∃ m, es.length = tt + m := ⟨es.length - tt, by omega⟩
  have HM := Lib.hid hm
  have HEL := Lib.hid hel
  have hadr := hO3.own.addrOk
  rw [hm] at HO3 hr1
  have hnn : tt + m ≤ 4096 := by omega
  clear hes BX3 B43 hO3 hb3 hel
  clear hm
  rw [HM.out]
  have hti : (0 : Int) ≤ (tt : Int) := by omega
  have htj : (tt : Int) ≤ (c3 : Int) := by omega
  have htk : (tt : Int) ≤ (tt : Int) + m := by omega
  have htl : (tt : Int) + m ≤ (c3 : Int) := by omega
  rcases hadr with rfl | ⟨g3, o3, rfl⟩
  · have h0 : tt + m = 0 ∧ c3 = 0 := by
      rcases HO3.out.own.2 with ⟨e, _⟩ | ⟨_, _, _, e, _⟩
      · injection e with _ e2 e3
        exact ⟨e2, e3⟩
      · injection e with e1
        cases e1
    obtain ⟨h0, rfl⟩ := h0
    obtain ⟨rfl, rfl⟩ : tt = 0 ∧ m = 0 := by omega
    clear h0 hti htj htk htl
    have HE := Lib.hid (show es = [] from List.eq_nil_of_length_eq_zero HM.out)
    go_upto_region 4 with fail
    obtain ⟨W4, hW4⟩ : ∃ W4, W4 = w3.alloc (.cells #[.int .i64 W, .int .i64 H, .slice none (0) 0] 24) := ⟨_, rfl⟩
    obtain ⟨gO, hgO⟩ : ∃ gO, gO = w3.heap.size := ⟨_, rfl⟩
    have HDO := Lib.hid (show Blk W4 gO 24 #[.int .i64 W, .int .i64 H, .slice none (0) 0] by rw [hW4, hgO]; exact Blk.new _ _ _ rfl)
    have HB34 := Lib.hid (show Below w3.heap.size w3 W4 by rw [hW4]; exact Below.alloc (Below.refl _ _) (Nat.le_refl _) _)
    have hgo3 : w3.heap.size ≤ gO := by omega
    have hgo4 : gO = w3.heap.size := hgO
    have HGO := Lib.hid hgo4
    clear hgo4
    rw [← hW4, ← hgO]
    clear hW4 hgO
    have cO := HDO.out.cell
    have lO := HDO.out.lt
    have hz4 : w3.heap.size ≤ W4.heap.size := HB34.out.size
    have HR1 := Lib.hid (show Reads W4 W4.heap.size 9 none 0 (layCells (es.take 0)) from (by rw [HE.out]; exact Reads.none_))
    go_upto_region 5 with (at_builtin; refine wpList_append_S rfl (.tmp 19) (.tmp 23) 22 22 rfl (w3.heap.size) 29 i0 _ 9 96 Tryz.underlying22 hi hz0 hz1 hz2 rfl (by decide) (.slice none 0 0) (0) ([]) rfl (Own.nil _ _ _) (by intro u hu; cases hu) (0) (layCells (es.take 0)) (Reads.src Tryz.underlying22 HR1.out (by decide) (layCells_one _) _) (0) (by omega) (layCells (es.take 0)) (rfl) (by unfold maxLen; omega) (by omega) (by first | omega | (simp; omega)) ?_; intro A5 c5 wa howna hga hata)
    have bWa : Below W4.heap.size W4 wa := (Below.refl W4.heap.size W4).grown hga (Nat.le_refl _) (fun g' e => by cases e)
    have HDA := Lib.hid (HDO.out.below bWa HDO.out.lt)
    have HNA := Lib.hid (show some gO ≠ (Value.slice A5 0 c5).ownBlock from fun e => by
      rcases hata with h | h
      · rw [h] at e; cases e
      · rw [h] at e; injection e with e; have := HDO.out.lt; omega)
    have HOA := Lib.hid howna
    have HBA := Lib.hid (HB34.out.trans (bWa.mono HB34.out.size))
    have BXa := HBX3.out.below HBA.out HBX3.out.lt
    have cX := BXa.cell
    have lX := BXa.lt
    have cDa := HDA.out.cell
    have lDa := HDA.out.lt
    have hza : w3.heap.size ≤ wa.heap.size := HBA.out.size
    clear howna hga hata bWa cO lO BXa
    go_upto_region 6 with (at_builtin; refine wpList_append_S rfl (.tmp 25) (.tmp 27) 22 22 rfl (w3.heap.size) 29 i0 _ 9 96 Tryz.underlying22 hi hz0 hz1 hz2 rfl (by decide) (.slice A5 0 c5) (0) (layCells (es.take 0)) rfl (HOA.out.alloc _) (layCells_one _) (1) (layCs x) (Src.made Tryz.underlying22 (by first | rfl | simp) rfl (by intro u hu; exact layCells_one [x] u (by rw [layCells_single]; exact hu))) (0 + 1) (by omega) (layCells (es.take 0) ++ layCs x) (rfl) (by unfold maxLen; omega) (by omega) (by first | omega | (simp; omega)) ?_; intro A6 c6 wb hownb hgb hatb)
    have HBB := Lib.hid (show Below w3.heap.size w3 wb from (HBA.out.alloc hza _).grown hgb (by simp; omega) (fun g' e => (HOA.out.lt g' e).1))
    have HDB := Lib.hid ((HDA.out.alloc (.cells #[.string x.l.name, .int .i64 x.l.x, .int .i64 x.l.y, .bool x.l.hidden, .int .i64 x.l.opacity, .int .i64 x.l.mode, .int .i64 x.l.wide, .int .i64 x.l.high, .slice x.A x.n x.c] 29)).grown hgb HNA.out)
    have HNB := Lib.hid (show some gO ≠ (Value.slice A6 (0 + 1) c6).ownBlock from fun e => by
      rcases hatb with h | h
      · exact HNA.out (e.trans h)
      · have h3 := e.trans h
        injection h3 with h3
        simp at h3
        omega)
    have HOB := Lib.hid hownb
    have hzB : w3.heap.size ≤ wb.heap.size := HBB.out.size
    have cDb := HDB.out.cell
    have HR2 := Lib.hid (show Reads wb wb.heap.size 9 none 0 (layCells (es.drop 0)) from (by rw [HE.out]; exact Reads.none_))
    clear hownb hgb hatb cX lX cDa lDa
    go_wp2_with (at_builtin; refine wpList_append_S rfl (.tmp 29) (.tmp 33) 22 22 rfl (w3.heap.size) 29 i0 _ 9 96 Tryz.underlying22 hi hz0 hz1 hz2 rfl (by decide) (.slice A6 (0 + 1) c6) (0 + 1) (layCells (es.take 0) ++ layCs x) rfl (HOB.out) (by intro u hu; rcases List.mem_append.1 hu with h | h; exact layCells_one _ u h; exact layCells_one [x] u (by rw [layCells_single]; exact h)) (0) (layCells (es.drop 0)) (Reads.src Tryz.underlying22 HR2.out (by decide) (layCells_one _) _) (0 + 1 + 0) (by omega) (layCells (es.take 0) ++ layCs x ++ layCells (es.drop 0)) (rfl) (by unfold maxLen; omega) (by omega) (by first | omega | (simp; omega)) ?_; intro A7 c7 wn hownn hgn hatn; have HDm := HDB.out.grown hgn HNB.out; have cDm := HDm.cell; have fDm := HDm.free; have lDm := HDm.lt; have bnm := HBB.out.grown hgn hzB (fun g' e => (HOB.out.lt g' e).1); have B4m := HB43.out.below bnm l43; have c4m := B4m.cell; have f4m := B4m.free; have l4m := B4m.lt)
    have hbn : Below w3.heap.size w3 wn := HBB.out.grown hgn hzB (fun g' e => (HOB.out.lt g' e).1)
    have hxs : (es.take 0 ++ [x] ++ es.drop 0).length = 0 + 1 + 0 := by have := HM.out; rw [List.length_append, List.length_append, List.length_take, List.length_drop, List.length_singleton]; omega
    have hcs : layCells (es.take 0 ++ [x] ++ es.drop 0) = layCells (es.take 0) ++ layCs x ++ layCells (es.drop 0) := by rw [layCells_append, layCells_append, layCells_single]
    have HN7 : (Value.slice A7 (0 + 1 + 0) c7).ownBlock ≠ some gO := fun e => by
      rcases hatn with h | h
      · exact HNB.out (e.symm.trans h)
      · rw [h] at e; injection e with e; have := HDB.out.lt; omega
    have hbs : Below w3.heap.size w3 (wn.setCell ⟨gO, 2, none⟩ (.slice A7 (0 + 1 + 0) c7)) := hbn.setCell hgo3 _
    have F := LaysO.ofPx (w := w3) (xs := es.take 0 ++ [x] ++ es.drop 0) (v' := .slice A7 (0 + 1 + 0) c7) (base' := w3.heap.size) (fun y hy => by
      rcases List.mem_append.1 hy with h | h
      · rcases List.mem_append.1 h with h | h
        · exact HO3.out.px y (List.mem_of_mem_take h)
        · rw [List.mem_singleton.1 h]; exact HPX3.out
      · exact HO3.out.px y (List.mem_of_mem_drop h)) (by rw [hxs, hcs]; exact hownn.setCell HN7 _) hbs (Nat.le_refl _)
    have HF := Lib.hid F
    have HBS := Lib.hid (HB3.out.trans (hbs.mono HB3.out.size))
    have B4n := HB43.out.below hbn l43
    have n1 : (Value.slice A7 (0 + 1 + 0) c7).ownBlock ≠ some (w.heap.size + 1) := fun e => by have := (hownn.lt _ e).1; omega
    have hoff : ∀ y ∈ es.take 0 ++ [x] ++ es.drop 0, OffB (w.heap.size + 1) y := fun y hy => OffB.blk (F.px y hy) (B4n.far (by simp; omega) _)
    refine bodyPost_ret (v := .agg #[.int .i64 W, .int .i64 H, .slice A7 (0 + 1 + 0) c7]) (by simp [results, Tryz.results20, go_sem, B4n.cell]) rfl ?_
    have hz2 : w.heap.size ≤ w.heap.size + 1 := by omega
    refine ⟨A7, c7, es.take 0 ++ [x] ++ es.drop 0, x.l, by rw [hxs], ?_, HX.out, lsOf_moved es x (lsOf ms) k 0 HES.out, ((HBS.out.setCell hz2 _).setCell hz2 _).setCell hz2 _⟩
    rw [hxs]
    exact (((HF.out.farB n1 hoff _).farB n1 hoff _).farB n1 hoff _).mono HB3.out.size
  · by_cases hck : c3 = tt
    · subst hck
      obtain rfl : m = 0 := by omega
      go_upto_region 4 with fail
      obtain ⟨W4, hW4⟩ : ∃ W4, W4 = w3.alloc (.cells #[.int .i64 W, .int .i64 H, .slice (some ⟨g3, o3, none⟩) (c3) c3] 24) := ⟨_, rfl⟩
      obtain ⟨gO, hgO⟩ : ∃ gO, gO = w3.heap.size := ⟨_, rfl⟩
      have HDO := Lib.hid (show Blk W4 gO 24 #[.int .i64 W, .int .i64 H, .slice (some ⟨g3, o3, none⟩) (c3) c3] by rw [hW4, hgO]; exact Blk.new _ _ _ rfl)
      have HB34 := Lib.hid (show Below w3.heap.size w3 W4 by rw [hW4]; exact Below.alloc (Below.refl _ _) (Nat.le_refl _) _)
      have hgo3 : w3.heap.size ≤ gO := by omega
      have hgo4 : gO = w3.heap.size := hgO
      have HGO := Lib.hid hgo4
      clear hgo4
      rw [← hW4, ← hgO]
      clear hW4 hgO
      have cO := HDO.out.cell
      have lO := HDO.out.lt
      have hz4 : w3.heap.size ≤ W4.heap.size := HB34.out.size
      have HR1 := Lib.hid (show Reads W4 W4.heap.size 9 (some ⟨g3, o3, none⟩) c3 (layCells (es.take c3)) from (((HO3.out.own.reads.2).below HB34.out (Nat.le_refl _)).more hz4).head c3 (by have := HM.out; omega))
      go_upto_region 5 with (at_builtin; refine wpList_append_S rfl (.tmp 19) (.tmp 23) 22 22 rfl (w3.heap.size) 29 i0 _ 9 96 Tryz.underlying22 hi hz0 hz1 hz2 rfl (by decide) (.slice none 0 0) (0) ([]) rfl (Own.nil _ _ _) (by intro u hu; cases hu) (c3) (layCells (es.take c3)) (Reads.src Tryz.underlying22 HR1.out (by decide) (layCells_one _) _) (c3) (by omega) (layCells (es.take c3)) (rfl) (by unfold maxLen; omega) (by omega) (by first | omega | (simp; omega)) ?_; intro A5 c5 wa howna hga hata)
      have bWa : Below W4.heap.size W4 wa := (Below.refl W4.heap.size W4).grown hga (Nat.le_refl _) (fun g' e => by cases e)
      have HDA := Lib.hid (HDO.out.below bWa HDO.out.lt)
      have HNA := Lib.hid (show some gO ≠ (Value.slice A5 c3 c5).ownBlock from fun e => by
        rcases hata with h | h
        · rw [h] at e; cases e
        · rw [h] at e; injection e with e; have := HDO.out.lt; omega)
      have HOA := Lib.hid howna
      have HBA := Lib.hid (HB34.out.trans (bWa.mono HB34.out.size))
      have BXa := HBX3.out.below HBA.out HBX3.out.lt
      have cX := BXa.cell
      have lX := BXa.lt
      have cDa := HDA.out.cell
      have lDa := HDA.out.lt
      have hza : w3.heap.size ≤ wa.heap.size := HBA.out.size
      clear howna hga hata bWa cO lO BXa
      go_upto_region 6 with (at_builtin; refine wpList_append_S rfl (.tmp 25) (.tmp 27) 22 22 rfl (w3.heap.size) 29 i0 _ 9 96 Tryz.underlying22 hi hz0 hz1 hz2 rfl (by decide) (.slice A5 c3 c5) (c3) (layCells (es.take c3)) rfl (HOA.out.alloc _) (layCells_one _) (1) (layCs x) (Src.made Tryz.underlying22 (by first | rfl | simp) rfl (by intro u hu; exact layCells_one [x] u (by rw [layCells_single]; exact hu))) (c3 + 1) (by omega) (layCells (es.take c3) ++ layCs x) (rfl) (by unfold maxLen; omega) (by omega) (by first | omega | (simp; omega)) ?_; intro A6 c6 wb hownb hgb hatb)
      have HBB := Lib.hid (show Below w3.heap.size w3 wb from (HBA.out.alloc hza _).grown hgb (by simp; omega) (fun g' e => (HOA.out.lt g' e).1))
      have HDB := Lib.hid ((HDA.out.alloc (.cells #[.string x.l.name, .int .i64 x.l.x, .int .i64 x.l.y, .bool x.l.hidden, .int .i64 x.l.opacity, .int .i64 x.l.mode, .int .i64 x.l.wide, .int .i64 x.l.high, .slice x.A x.n x.c] 29)).grown hgb HNA.out)
      have HNB := Lib.hid (show some gO ≠ (Value.slice A6 (c3 + 1) c6).ownBlock from fun e => by
        rcases hatb with h | h
        · exact HNA.out (e.trans h)
        · have h3 := e.trans h
          injection h3 with h3
          simp at h3
          omega)
      have HOB := Lib.hid hownb
      have hzB : w3.heap.size ≤ wb.heap.size := HBB.out.size
      have cDb := HDB.out.cell
      have HR2 := Lib.hid (show Reads wb wb.heap.size 9 (some ⟨g3, o3, none⟩) 0 (layCells (es.drop c3)) from Reads.none9 (by have := HM.out; omega))
      clear hownb hgb hatb cX lX cDa lDa
      go_wp2_with (at_builtin; refine wpList_append_S rfl (.tmp 29) (.tmp 33) 22 22 rfl (w3.heap.size) 29 i0 _ 9 96 Tryz.underlying22 hi hz0 hz1 hz2 rfl (by decide) (.slice A6 (c3 + 1) c6) (c3 + 1) (layCells (es.take c3) ++ layCs x) rfl (HOB.out) (by intro u hu; rcases List.mem_append.1 hu with h | h; exact layCells_one _ u h; exact layCells_one [x] u (by rw [layCells_single]; exact h)) (0) (layCells (es.drop c3)) (Reads.src Tryz.underlying22 HR2.out (by decide) (layCells_one _) _) (c3 + 1 + 0) (by omega) (layCells (es.take c3) ++ layCs x ++ layCells (es.drop c3)) (rfl) (by unfold maxLen; omega) (by omega) (by first | omega | (simp; omega)) ?_; intro A7 c7 wn hownn hgn hatn; have HDm := HDB.out.grown hgn HNB.out; have cDm := HDm.cell; have fDm := HDm.free; have lDm := HDm.lt; have bnm := HBB.out.grown hgn hzB (fun g' e => (HOB.out.lt g' e).1); have B4m := HB43.out.below bnm l43; have c4m := B4m.cell; have f4m := B4m.free; have l4m := B4m.lt)
      have hbn : Below w3.heap.size w3 wn := HBB.out.grown hgn hzB (fun g' e => (HOB.out.lt g' e).1)
      have hxs : (es.take c3 ++ [x] ++ es.drop c3).length = c3 + 1 + 0 := by have := HM.out; rw [List.length_append, List.length_append, List.length_take, List.length_drop, List.length_singleton]; omega
      have hcs : layCells (es.take c3 ++ [x] ++ es.drop c3) = layCells (es.take c3) ++ layCs x ++ layCells (es.drop c3) := by rw [layCells_append, layCells_append, layCells_single]
      have HN7 : (Value.slice A7 (c3 + 1 + 0) c7).ownBlock ≠ some gO := fun e => by
        rcases hatn with h | h
        · exact HNB.out (e.symm.trans h)
        · rw [h] at e; injection e with e; have := HDB.out.lt; omega
      have hbs : Below w3.heap.size w3 (wn.setCell ⟨gO, 2, none⟩ (.slice A7 (c3 + 1 + 0) c7)) := hbn.setCell hgo3 _
      have F := LaysO.ofPx (w := w3) (xs := es.take c3 ++ [x] ++ es.drop c3) (v' := .slice A7 (c3 + 1 + 0) c7) (base' := w3.heap.size) (fun y hy => by
        rcases List.mem_append.1 hy with h | h
        · rcases List.mem_append.1 h with h | h
          · exact HO3.out.px y (List.mem_of_mem_take h)
          · rw [List.mem_singleton.1 h]; exact HPX3.out
        · exact HO3.out.px y (List.mem_of_mem_drop h)) (by rw [hxs, hcs]; exact hownn.setCell HN7 _) hbs (Nat.le_refl _)
      have HF := Lib.hid F
      have HBS := Lib.hid (HB3.out.trans (hbs.mono HB3.out.size))
      have B4n := HB43.out.below hbn l43
      have n1 : (Value.slice A7 (c3 + 1 + 0) c7).ownBlock ≠ some (w.heap.size + 1) := fun e => by have := (hownn.lt _ e).1; omega
      have hoff : ∀ y ∈ es.take c3 ++ [x] ++ es.drop c3, OffB (w.heap.size + 1) y := fun y hy => OffB.blk (F.px y hy) (B4n.far (by simp; omega) _)
      refine bodyPost_ret (v := .agg #[.int .i64 W, .int .i64 H, .slice A7 (c3 + 1 + 0) c7]) (by simp [results, Tryz.results20, go_sem, B4n.cell]) rfl ?_
      have hz2 : w.heap.size ≤ w.heap.size + 1 := by omega
      refine ⟨A7, c7, es.take c3 ++ [x] ++ es.drop c3, x.l, by rw [hxs], ?_, HX.out, lsOf_moved es x (lsOf ms) k c3 HES.out, ((HBS.out.setCell hz2 _).setCell hz2 _).setCell hz2 _⟩
      rw [hxs]
      exact (((HF.out.farB n1 hoff _).farB n1 hoff _).farB n1 hoff _).mono HB3.out.size
    · go_upto_region 4 with fail
      obtain ⟨W4, hW4⟩ : ∃ W4, W4 = w3.alloc (.cells #[.int .i64 W, .int .i64 H, .slice (some ⟨g3, o3, none⟩) (tt + m) c3] 24) := ⟨_, rfl⟩
      obtain ⟨gO, hgO⟩ : ∃ gO, gO = w3.heap.size := ⟨_, rfl⟩
      have HDO := Lib.hid (show Blk W4 gO 24 #[.int .i64 W, .int .i64 H, .slice (some ⟨g3, o3, none⟩) (tt + m) c3] by rw [hW4, hgO]; exact Blk.new _ _ _ rfl)
      have HB34 := Lib.hid (show Below w3.heap.size w3 W4 by rw [hW4]; exact Below.alloc (Below.refl _ _) (Nat.le_refl _) _)
      have hgo3 : w3.heap.size ≤ gO := by omega
      have hgo4 : gO = w3.heap.size := hgO
      have HGO := Lib.hid hgo4
      clear hgo4
      rw [← hW4, ← hgO]
      clear hW4 hgO
      have cO := HDO.out.cell
      have lO := HDO.out.lt
      have hz4 : w3.heap.size ≤ W4.heap.size := HB34.out.size
      have HR1 := Lib.hid (show Reads W4 W4.heap.size 9 (some ⟨g3, o3, none⟩) tt (layCells (es.take tt)) from (((HO3.out.own.reads.2).below HB34.out (Nat.le_refl _)).more hz4).head tt (by have := HM.out; omega))
      go_upto_region 5 with (at_builtin; refine wpList_append_S rfl (.tmp 19) (.tmp 23) 22 22 rfl (w3.heap.size) 29 i0 _ 9 96 Tryz.underlying22 hi hz0 hz1 hz2 rfl (by decide) (.slice none 0 0) (0) ([]) rfl (Own.nil _ _ _) (by intro u hu; cases hu) (tt) (layCells (es.take tt)) (Reads.src Tryz.underlying22 HR1.out (by decide) (layCells_one _) _) (tt) (by omega) (layCells (es.take tt)) (rfl) (by unfold maxLen; omega) (by omega) (by first | omega | (simp; omega)) ?_; intro A5 c5 wa howna hga hata)
      have bWa : Below W4.heap.size W4 wa := (Below.refl W4.heap.size W4).grown hga (Nat.le_refl _) (fun g' e => by cases e)
      have HDA := Lib.hid (HDO.out.below bWa HDO.out.lt)
      have HNA := Lib.hid (show some gO ≠ (Value.slice A5 tt c5).ownBlock from fun e => by
        rcases hata with h | h
        · rw [h] at e; cases e
        · rw [h] at e; injection e with e; have := HDO.out.lt; omega)
      have HOA := Lib.hid howna
      have HBA := Lib.hid (HB34.out.trans (bWa.mono HB34.out.size))
      have BXa := HBX3.out.below HBA.out HBX3.out.lt
      have cX := BXa.cell
      have lX := BXa.lt
      have cDa := HDA.out.cell
      have lDa := HDA.out.lt
      have hza : w3.heap.size ≤ wa.heap.size := HBA.out.size
      clear howna hga hata bWa cO lO BXa
      go_upto_region 6 with (at_builtin; refine wpList_append_S rfl (.tmp 25) (.tmp 27) 22 22 rfl (w3.heap.size) 29 i0 _ 9 96 Tryz.underlying22 hi hz0 hz1 hz2 rfl (by decide) (.slice A5 tt c5) (tt) (layCells (es.take tt)) rfl (HOA.out.alloc _) (layCells_one _) (1) (layCs x) (Src.made Tryz.underlying22 (by first | rfl | simp) rfl (by intro u hu; exact layCells_one [x] u (by rw [layCells_single]; exact hu))) (tt + 1) (by omega) (layCells (es.take tt) ++ layCs x) (rfl) (by unfold maxLen; omega) (by omega) (by first | omega | (simp; omega)) ?_; intro A6 c6 wb hownb hgb hatb)
      have HBB := Lib.hid (show Below w3.heap.size w3 wb from (HBA.out.alloc hza _).grown hgb (by simp; omega) (fun g' e => (HOA.out.lt g' e).1))
      have HDB := Lib.hid ((HDA.out.alloc (.cells #[.string x.l.name, .int .i64 x.l.x, .int .i64 x.l.y, .bool x.l.hidden, .int .i64 x.l.opacity, .int .i64 x.l.mode, .int .i64 x.l.wide, .int .i64 x.l.high, .slice x.A x.n x.c] 29)).grown hgb HNA.out)
      have HNB := Lib.hid (show some gO ≠ (Value.slice A6 (tt + 1) c6).ownBlock from fun e => by
        rcases hatb with h | h
        · exact HNA.out (e.trans h)
        · have h3 := e.trans h
          injection h3 with h3
          simp at h3
          omega)
      have HOB := Lib.hid hownb
      have hzB : w3.heap.size ≤ wb.heap.size := HBB.out.size
      have cDb := HDB.out.cell
      have HR2 := Lib.hid (show Reads wb wb.heap.size 9 (some ⟨g3, o3 + tt * 9, none⟩) m (layCells (es.drop tt)) from (((HO3.out.own.reads.2).below HBB.out (Nat.le_refl _)).more hzB).tail tt m HM.out.symm)
      clear hownb hgb hatb cX lX cDa lDa
      go_wp2_with (at_builtin; refine wpList_append_S rfl (.tmp 29) (.tmp 33) 22 22 rfl (w3.heap.size) 29 i0 _ 9 96 Tryz.underlying22 hi hz0 hz1 hz2 rfl (by decide) (.slice A6 (tt + 1) c6) (tt + 1) (layCells (es.take tt) ++ layCs x) rfl (HOB.out) (by intro u hu; rcases List.mem_append.1 hu with h | h; exact layCells_one _ u h; exact layCells_one [x] u (by rw [layCells_single]; exact h)) (m) (layCells (es.drop tt)) (Reads.src Tryz.underlying22 HR2.out (by decide) (layCells_one _) _) (tt + 1 + m) (by omega) (layCells (es.take tt) ++ layCs x ++ layCells (es.drop tt)) (rfl) (by unfold maxLen; omega) (by omega) (by first | omega | (simp; omega)) ?_; intro A7 c7 wn hownn hgn hatn; have HDm := HDB.out.grown hgn HNB.out; have cDm := HDm.cell; have fDm := HDm.free; have lDm := HDm.lt; have bnm := HBB.out.grown hgn hzB (fun g' e => (HOB.out.lt g' e).1); have B4m := HB43.out.below bnm l43; have c4m := B4m.cell; have f4m := B4m.free; have l4m := B4m.lt)
      have hbn : Below w3.heap.size w3 wn := HBB.out.grown hgn hzB (fun g' e => (HOB.out.lt g' e).1)
      have hxs : (es.take tt ++ [x] ++ es.drop tt).length = tt + 1 + m := by have := HM.out; rw [List.length_append, List.length_append, List.length_take, List.length_drop, List.length_singleton]; omega
      have hcs : layCells (es.take tt ++ [x] ++ es.drop tt) = layCells (es.take tt) ++ layCs x ++ layCells (es.drop tt) := by rw [layCells_append, layCells_append, layCells_single]
      have HN7 : (Value.slice A7 (tt + 1 + m) c7).ownBlock ≠ some gO := fun e => by
        rcases hatn with h | h
        · exact HNB.out (e.symm.trans h)
        · rw [h] at e; injection e with e; have := HDB.out.lt; omega
      have hbs : Below w3.heap.size w3 (wn.setCell ⟨gO, 2, none⟩ (.slice A7 (tt + 1 + m) c7)) := hbn.setCell hgo3 _
      have F := LaysO.ofPx (w := w3) (xs := es.take tt ++ [x] ++ es.drop tt) (v' := .slice A7 (tt + 1 + m) c7) (base' := w3.heap.size) (fun y hy => by
        rcases List.mem_append.1 hy with h | h
        · rcases List.mem_append.1 h with h | h
          · exact HO3.out.px y (List.mem_of_mem_take h)
          · rw [List.mem_singleton.1 h]; exact HPX3.out
        · exact HO3.out.px y (List.mem_of_mem_drop h)) (by rw [hxs, hcs]; exact hownn.setCell HN7 _) hbs (Nat.le_refl _)
      have HF := Lib.hid F
      have HBS := Lib.hid (HB3.out.trans (hbs.mono HB3.out.size))
      have B4n := HB43.out.below hbn l43
      have n1 : (Value.slice A7 (tt + 1 + m) c7).ownBlock ≠ some (w.heap.size + 1) := fun e => by have := (hownn.lt _ e).1; omega
      have hoff : ∀ y ∈ es.take tt ++ [x] ++ es.drop tt, OffB (w.heap.size + 1) y := fun y hy => OffB.blk (F.px y hy) (B4n.far (by simp; omega) _)
      refine bodyPost_ret (v := .agg #[.int .i64 W, .int .i64 H, .slice A7 (tt + 1 + m) c7]) (by simp [results, Tryz.results20, go_sem, B4n.cell]) rfl ?_
      have hz2 : w.heap.size ≤ w.heap.size + 1 := by omega
      refine ⟨A7, c7, es.take tt ++ [x] ++ es.drop tt, x.l, by rw [hxs], ?_, HX.out, lsOf_moved es x (lsOf ms) k tt HES.out, ((HBS.out.setCell hz2 _).setCell hz2 _).setCell hz2 _⟩
      rw [hxs]
      exact (((HF.out.farB n1 hoff _).farB n1 hoff _).farB n1 hoff _).mono HB3.out.size
end Go.Proofs.YtmknacnmdlcieaaGreatDoor
