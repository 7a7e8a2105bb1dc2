/- layer.own: the walk (slices.Clone at layers). -/
import Derived.Test.YtmknacnmdlcieaaGreatDoorDocOf
import Derived.Test.YtmknacnmdlcieaaGreatDoorBase
namespace Go.Proofs.YtmknacnmdlcieaaGreatDoor
open Go Go.RowKit

theorem Lays.clone {w w' : World} {n c : Nat} {A A' : Option Addr} {ms : List LM} (hL : Lays w w.heap.size A n ms) (ho : Own w' w.heap.size 9 (.slice A' n c) n (layCells ms)) (hb : Below w.heap.size w w') : LaysO w' w.heap.size (.slice A' n c) ms := by
  obtain rfl := hL.len
  refine ⟨ho, fun m hm => ((hL.2 m hm).below hb (Nat.le_refl _)).more hb.size, fun m hm b off e hn e2 => ?_⟩
  obtain ⟨b', off', e', hb', _⟩ := (hL.2 m hm).2 (by omega)
  rw [e] at e'
  injection e' with e'
  injection e' with e' _
  have := (ho.lt _ e2).1
  omega
set_option maxRecDepth 100000 in
theorem cloneLay_any (b off n c : Nat) (ms : List LM) (w : World) (hL : Lays w w.heap.size (some ⟨b, off, none⟩) n ms) (hn : n ≤ 4096) :
    Calls Tryz.prog 52 #[.slice (some ⟨b, off, none⟩) n c] w fun e w' => ∃ A' c', e = .returned (.slice A' n c') ∧ LaysO w' w.heap.size (.slice A' n c') ms ∧ Below w.heap.size w w' := by
  obtain ⟨i0, hi, hz0, hz1, hz2⟩ := info_parts layInfo
  have hnil := @Lib.run_eql_slice_nil Tryz.prog
  go_enter Tryz.func52, Tryz.ntmps52
  go_wp2_with (at_builtin; refine wpList_append_S rfl (.tmp 5) (.tmp 6) 37 37 rfl (w.heap.size) 45 i0 _ 9 96 Tryz.underlying37 hi hz0 hz1 hz2 rfl (by decide) (.slice (some ⟨w.heap.size, 0, none⟩) 0 0) (0) ([]) rfl (Own.emptyRow _ _ _ _ _ (Nat.le_refl _) rfl) (by intro u hu; cases hu) (n) (layCells ms) (Reads.src Tryz.underlying37 (hL.1.alloc (Nat.le_refl _) _) (by decide) (layCells_one _) _) (n) (by omega) (layCells ms) (rfl) (by unfold maxLen; omega) (by omega) (by first | omega | (simp; done) | (simp; omega)) ?_; intro A' c' w1 hown1 hg1 hat1)
  go_ret
  have hb : Below w.heap.size w w1 := (Below.alloc (Below.refl _ _) (Nat.le_refl _) _).grown hg1 (by simp) (fun g hg => by simp [Value.ownBlock] at hg; omega)
  exact ⟨A', c', rfl, hL.clone hown1 hb, hb⟩

/-- A layer none of whose pixels lie in a block. -/
def OffB (g : Nat) (m : LM) : Prop := ∀ b off, m.A = some ⟨b, off, none⟩ → 0 < m.n → b ≠ g
theorem OffB.lt {w : World} {B g : Nat} {m : LM} {xs : List Value} (h : Reads w B 4 m.A m.n xs) (hB : B ≤ g) : OffB g m := fun b off e hn e2 => by
  obtain ⟨b', off', e', hb', _⟩ := h.2 (by omega)
  rw [e] at e'
  injection e' with e'
  injection e' with e' _
  omega
theorem LaysO.farB {w : World} {base : Nat} {v : Value} {ns : List LM} (h : LaysO w base v ns) {p : Addr} (hp : v.ownBlock ≠ some p.block) (hi : ∀ m ∈ ns, OffB p.block m) (u : Value) : LaysO (w.setCell p u) base v ns := by
  have hs : (w.setCell p u).heap.size = w.heap.size := by simp [World.setCell]
  exact ⟨h.own.setCell hp _, fun x hx => (h.px x hx).keepAt (by omega) fun b off e hb hn => Below.heap_setCell _ _ _ _ (hi x hx b off e (by omega)), h.off⟩
/-- What stands through own's loop. -/
structure OwR (W H : Int) (w : World) (g off n c : Nat) (ns : List LM) (wr : World) : Prop where
  b1 : Blk wr w.heap.size 39 #[.int .i64 W, .int .i64 H, .slice (some ⟨g, off, none⟩) n c]
  b2 : Blk wr (w.heap.size + 1) 39 #[.int .i64 0, .int .i64 0, .slice none 0 0]
  own : LaysO wr (w.heap.size + 2) (.slice (some ⟨g, off, none⟩) n c) ns
  o1 : ∀ m ∈ ns, OffB w.heap.size m
  o2 : ∀ m ∈ ns, OffB (w.heap.size + 1) m
  bel : Below w.heap.size w wr
theorem OwR.step {W H : Int} {w wr w' : World} {g off n c : Nat} {ns : List LM} (h : OwR W H w g off n c ns wr) (hb : Below wr.heap.size wr w') : OwR W H w g off n c ns w' :=
  ⟨h.b1.below hb h.b1.lt, h.b2.below hb h.b2.lt, h.own.below hb (Nat.le_refl _), h.o1, h.o2, h.bel.trans (hb.mono (by have := h.b1.lt; omega))⟩
theorem mem_set {α : Type} {l : List α} {k : Nat} {x y : α} (h : x ∈ l.set k y) : x = y ∨ x ∈ l := by
  rcases List.mem_or_eq_of_mem_set h with h2 | h2
  · exact .inr h2
  · exact .inl h2
theorem OwR.put {W H : Int} {w wr : World} {g off n c : Nat} {ns : List LM} (h : OwR W H w g off n c ns wr) (k : Nat) (hk : k < ns.length) (m : LM) (hu : layCs m = (layCs ns[k]).set 8 (.slice m.A m.n m.c)) (hm : Reads wr wr.heap.size 4 m.A m.n (pxCells m.l.ps)) (B : Nat) (hh : HiAt B m) (hB : w.heap.size + 2 ≤ B) (hg : g < B) :
    OwR W H w g off n c (ns.set k m) (wr.setCell ⟨g, off + k * 9 + 8, none⟩ (.slice m.A m.n m.c)) := by
  have hge := (h.own.own.lt g rfl).1
  refine ⟨h.b1.far (by simp; omega) _, h.b2.far (by simp; omega) _, h.own.set_ k hk 8 (by omega) _ m hu hm (hh.off fun g' e => (show g = g' by simpa [Value.ownBlock] using e) ▸ hg), fun x hx => ?_, fun x hx => ?_, h.bel.setCell (by show w.heap.size ≤ g; omega) _⟩
  · rcases mem_set hx with rfl | h2
    · exact fun b off e hn e2 => by have := hh b off e hn; omega
    · exact h.o1 x h2
  · rcases mem_set hx with rfl | h2
    · exact fun b off e hn e2 => by have := hh b off e hn; omega
    · exact h.o2 x h2

theorem lsOf_set {ns : List LM} {k : Nat} (hk : k < ns.length) {m : LM} (h : m.l = ns[k].l) : lsOf (ns.set k m) = lsOf ns := by
  unfold lsOf
  rw [List.map_set, h]
  apply List.ext_getElem
  · simp
  · intro i h1 h2
    rw [List.getElem_set]
    split
    · rename_i e
      subst e
      simp
    · rfl
set_option maxRecDepth 100000 in
set_option maxHeartbeats 4000000 in
theorem ownDoc_any (W H : Int) (b0 off0 n c : Nat) (ms : List LM) (w : World) (hL : Lays w w.heap.size (some ⟨b0, off0, none⟩) n ms) (hn : n ≤ 4096) (hp : ∀ m ∈ ms, 0 < m.n ∧ m.n ≤ 1048576) (hpos : 0 < n) :
    Calls Tryz.prog 32 #[.agg #[.int .i64 W, .int .i64 H, .slice (some ⟨b0, off0, none⟩) n c]] w
      fun e w' => ∃ g off c' ns, e = .returned (.agg #[.int .i64 W, .int .i64 H, .slice (some ⟨g, off, none⟩) ns.length c']) ∧ LaysO w' w.heap.size (.slice (some ⟨g, off, none⟩) ns.length c') ns ∧ lsOf ns = lsOf ms ∧ Below w.heap.size w w' := by
  obtain rfl := hL.len
  have HP := Lib.hid hp
  have hL1 := fun o o2 => (hL.step (Below.alloc (Below.refl _ _) (Nat.le_refl _) o)).step (Below.alloc (Below.refl _ _) (Nat.le_refl _) o2)
  have HL1 := Lib.hid hL1
  clear hp hL1
  go_enter Tryz.func32, Tryz.ntmps32
  go_wp2_with fail
  refine (cloneLay_any b0 off0 ms.length c ms _ (HL1.out _ _) hn).mono ?_
  rintro e w1 ⟨A', c', rfl, hO, hb1⟩
  have B1 := ((Blk.new w 39 #[.int .i64 W, .int .i64 H, .slice (some ⟨b0, off0, none⟩) ms.length c] rfl).alloc (.cells #[.int .i64 0, .int .i64 0, .slice none 0 0] 39)).below hb1 (by simp; omega)
  have B2 := (Blk.new (w.alloc (.cells #[.int .i64 W, .int .i64 H, .slice (some ⟨b0, off0, none⟩) ms.length c] 39)) 39 #[.int .i64 0, .int .i64 0, .slice none 0 0] rfl).below hb1 (by simp)
  have hbw : Below w.heap.size w w1 := Below.trans (by go_grown) (hb1.mono (by simp; omega))
  simp at B2
  have c1 := B1.cell
  have f1 := B1.free
  obtain ⟨g, off, rfl, hg1, hg2⟩ := hO.own.addr hpos
  simp at hg1
  have F0 : OwR W H w g off ms.length c' ms (w1.setCell ⟨w.heap.size, 2, none⟩ (.slice (some ⟨g, off, none⟩) ms.length c')) := by
    refine ⟨by have := B1.set_ 2 (.slice (some ⟨g, off, none⟩) ms.length c'); simpa using this, B2.far (by simp) _, ?_, fun m hm => OffB.lt (hL.2 m hm) (Nat.le_refl _), fun m hm => OffB.lt (hL.2 m hm) (by omega), hbw.setCell (Nat.le_refl _) _⟩
    have hO' := hO.mono (base' := w.heap.size + 2) (by simp)
    exact hO'.farB (by simp [Value.ownBlock]; omega) (fun m hm => OffB.lt (hL.2 m hm) (Nat.le_refl _)) _
  have HF0 := Lib.hid F0
  clear F0 hO B1 B2 hbw hb1
  go_wp2_with fail
  obtain ⟨w2, hw2⟩ : ∃ w2, w2 = w1.setCell ⟨w.heap.size, 2, none⟩ (.slice (some ⟨g, off, none⟩) ms.length c') := ⟨_, rfl⟩
  have F0 := HF0.out
  rw [← hw2] at F0 ⊢
  clear hw2 HF0 c1 f1
  go_loopw [11] (fun i wr => ∃ (k : Nat) (ns : List LM), k ≤ ms.length ∧ i = .int .i64 k ∧ lsOf ns = lsOf ms ∧ (∀ m ∈ ns, 0 < m.n ∧ m.n ≤ 1048576) ∧ OwR W H w g off ms.length c' ns wr) (fun i _ => ms.length - (intOf i).toNat)
  case atStart => exact ⟨0, ms, Nat.zero_le _, rfl, rfl, HP.out, F0⟩
  case round =>
    clear F0
    obtain ⟨k, ns, hk, rfl, hns, hpn, F⟩ := hrel
    obtain ⟨wi, rfl⟩ : ∃ wi : World, wi = wr := ⟨_, rfl⟩
    have hnl := same_lays hns
    have HNL := Lib.hid hnl
    have HNS := Lib.hid hns
    have HPN := Lib.hid hpn
    clear hns hpn
    by_cases hlt : k < ms.length
    · have hkn : k < ns.length := by omega
      have q8 := (F.own.cell k hkn 8 (by omega)).1
      have fq8 := (F.own.cell k hkn 8 (by omega)).2
      have hpx := F.own.px ns[k] (List.getElem_mem hkn)
      obtain ⟨hp0, hp1⟩ := HPN.out ns[k] (List.getElem_mem hkn)
      have HSET := Lib.hid (fun m h => lsOf_set (m := m) hkn h)
      have HPUT := Lib.hid (fun w' F' m a b d e f g' => OwR.put (W := W) (H := H) (w := w) (wr := w') (g := g) (off := off) (n := ms.length) (c := c') (ns := ns) F' k hkn m a b d e f g')
      obtain ⟨m, hm⟩ : ∃ m, m = ns[k] := ⟨_, rfl⟩
      rw [← hm] at q8 hpx hp0 hp1 HSET HPUT
      have HM := Lib.hid hm
      clear hm hnl
      simp only [layCs, List.getElem?_cons_zero, List.getElem?_cons_succ] at q8
      obtain ⟨bp, op, hA, hbp⟩ := hpx.addr (by omega)
      rw [hA] at q8 hpx
      have HA := Lib.hid hA
      clear hA
      have s2 : wi.cell? ⟨w.heap.size, 2, none⟩ = some (.slice (some ⟨g, off, none⟩) ms.length c') := (F.b1.cell 2).trans rfl
      have j0 : (0 : Int) ≤ (k : Int) := by omega
      have j1 : (k : Int) < (ms.length : Int) := by omega
      have hgl := (F.own.own.lt g rfl).2
      go_wp2_with fail
      go_region_law
        ((go_simp; go_at_call 33; refine (clonePx_any bp op m.n m.c m.l.ps wi.drew hpx hp1).mono ?_; rintro e wA ⟨Ap, cp, rfl, hoA, hbA⟩; have a2 := bkeep hbA s2; have a8 := bkeep hbA q8; have fa8 := bfree_ hbA (show g < wi.drew.heap.size from hgl) fq8))
      all_goals
        have F1 := F.step ((Below.here wi).trans hbA)
        have F9 := HPUT.out wA F1 ⟨m.l, Ap, m.n, cp⟩ rfl hoA.reads.2 wi.heap.size (HiAt.own hoA) (by have := F.b2.lt; omega) hgl
        have HF9 := Lib.hid F9
        clear F9 F1 a2 a8 fa8 s2 q8 fq8 hoA
        go_wp2_with fail
        go_roundw
        case rel =>
          refine ⟨k + 1, _, by omega, by go_num, ?_, ?_, HF9.out⟩
          · rw [HSET.out ⟨m.l, Ap, m.n, cp⟩ rfl]; exact HNS.out
          · intro x hx
            rcases mem_set hx with rfl | h2
            · exact ⟨hp0, hp1⟩
            · exact HPN.out x h2
        case measure => simp [intOf]; omega
    · have c1 := F.b1.cell
      have c2 := F.b2.cell
      have f2 := F.b2.free
      have ho := F.own
      have HO := Lib.hid ho
      have ho2 := F.o2
      have HO2 := Lib.hid ho2
      have hge := (F.own.own.lt g rfl).1
      have n1 : (Value.slice (some ⟨g, off, none⟩) ns.length c').ownBlock ≠ some (w.heap.size + 1) := by simp [Value.ownBlock]; omega
      have HN1 := Lib.hid n1
      clear ho ho2 n1 hnl
      go_wp2_with fail
      refine bodyPost_ret (v := .agg #[.int .i64 W, .int .i64 H, .slice (some ⟨g, off, none⟩) ms.length c']) (by simp [results, Tryz.results32, go_sem, c2]) rfl ⟨g, off, c', ns, by rw [HNL.out], ?_, HNS.out, ?_⟩
      · have ho := HO.out
        rw [← HNL.out] at ho
        exact (((ho.farB HN1.out HO2.out _).farB HN1.out HO2.out _).farB HN1.out HO2.out _).mono (by omega)
      · exact ((F.bel.setCell (by simp) _).setCell (by simp) _).setCell (by simp) _
end Go.Proofs.YtmknacnmdlcieaaGreatDoor
