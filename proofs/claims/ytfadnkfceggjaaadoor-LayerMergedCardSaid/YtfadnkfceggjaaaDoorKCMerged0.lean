/- Replace, MergeLaw, Merge, MergeWith, LMerged: put together. -/
import Derived.Test.YtfadnkfceggjaaaDoorRemove
import Derived.Test.YtfadnkfceggjaaaDoorLayDoc
import Derived.Test.YtfadnkfceggjaaaDoorLHidden
import Derived.IntWalk
import Derived.Deep.RegionHeld3
/- slices.Replace at layers, all of them by one. -/
namespace Go.Proofs.YtfadnkfceggjaaaDoor
open Go Go.RowKit

/-- append where there is room, as one operation of a list. -/
theorem wpList_append_room_src {P : Program} {w : World} {ops : Array Oper} {rest : List Oper} {o : Oper} {a : Act} {Q : Exit → Act → World → Prop} (hgd : o.guard = none) (s x : Operand) (t tx : TypeId)
    (ho : o.op = .call { callee := .builtin .append, args := #[s, x], argTypes := #[t, tx] }) (e : TypeId) (i : TypeInfo) (size : Nat) (ht : P.underlying t = some (.slice e)) (hi : P.info? e = some i) (hsize : i.size = size)
    (b off n cap : Nat) (hs : a.eval s = .slice (some ⟨b, off, none⟩) n cap) (m : Nat) (news : List Value) (hr : Src P size tx (a.eval x) m news w) (hroom : n + m ≤ cap)
    (hth : ∀ j, j < news.length → (w.cell? ⟨b, off + n * size + j, none⟩).isSome = true ∧ w.frozen? ⟨b, off + n * size + j, none⟩ = false)
    (h : wpList P ops Q rest (a.put o.dst (.slice (some ⟨b, off, none⟩) (n + m) cap)) (w.setCells b (off + n * size) news)) : wpList P ops Q (o :: rest) a w :=
  wpList_plain hgd fun K hK => by
    subst hsize
    have hrun := run_append_room_src (P := P) w t tx o.type e i ht hi b off n cap _ m news hr hroom (fun j hj => (hth j hj).1) (fun j hj => (hth j hj).2)
    unfold Oper.wp execOp
    simp only [ho, resolve, invoke, builtin, Sem.run_bind, Sem.run_pure, Result.andThen_ok, List.map_toArray, List.map_cons, List.map_nil, hs, hrun]
    exact hK _ _ h

theorem replace_end {w W1 : World} {base g off n c : Nat} {ms : List LM} {m : LM} (hO : LaysO w base (.slice (some ⟨g, off, none⟩) n c) ms) (hn : n = ms.length) (h0 : 0 < n) (hm : Reads w w.heap.size 4 m.A m.n (pxCells m.l.ps)) (hoff : OffAt m.A m.n (.slice (some ⟨g, off, none⟩) n c))
    (hW : W1 = w.setCells g off (layCs m)) (ys : List Value) (hy : ys.length ≤ (n - 1) * 9) : LaysO (W1.setCells g (off + 9) ys) base (.slice (some ⟨g, off, none⟩) 1 c) [m] ∧ w.grownBy (W1.setCells g (off + 9) ys) (some g) := by
  subst hn
  have hnc : ms.length ≤ c := by
    obtain ⟨_, _, e, h, _⟩ := hO.own.form
    injection e with _ _ e3
    omega
  have h1 : w.grownBy W1 (some g) := by rw [hW]; exact grown_setCells w g _ _
  have h2 := h1.trans (grown_setCells W1 g (off + 9) ys)
  have ho := hO.own.splice 0 1 (by omega) (by omega) (layCs m) rfl
  rw [Nat.zero_mul, Nat.add_zero, List.take_zero, List.nil_append, Nat.zero_add, ← hW] at ho
  have h3 := ho.clearTail (ms.length - 1) (by omega) hy
  rw [Nat.one_mul] at h3
  refine ⟨⟨by rw [layCells_single]; exact h3, fun x hx => ?_, fun x hx => ?_⟩, h2⟩
  · rw [List.mem_singleton.1 hx]
    exact hm.keepAt h2.size fun b o e hb hn => h2.block b hb (fun e2 => hoff b o e (by omega) (by simpa [Value.ownBlock] using e2.symm))
  · rw [List.mem_singleton.1 hx]
    exact fun b o e hn => hoff b o e hn

theorem nine_lt {n c j : Nat} (h : j < (n - 1) * (Value.agg #[.string ⟨#[]⟩, .int .i64 0, .int .i64 0, .bool false, .int .i64 0, .int .i64 0, .int .i64 0, .int .i64 0, .slice none 0 0]).cells.size) (hc : n ≤ c) : 9 + j < c * 9 := by
  have e : (Value.agg #[.string ⟨#[]⟩, .int .i64 0, .int .i64 0, .bool false, .int .i64 0, .int .i64 0, .int .i64 0, .int .i64 0, .slice none 0 0]).cells.size = 9 := rfl
  rw [e] at h
  omega
set_option maxRecDepth 100000 in
set_option maxHeartbeats 2000000 in
theorem replace_all (base g off n c gv cv : Nat) (ms : List LM) (m : LM) (w : World) (hO : LaysO w base (.slice (some ⟨g, off, none⟩) n c) ms) (hn0 : 0 < n) (hn : n ≤ 4096) (hm : Reads w w.heap.size 4 m.A m.n (pxCells m.l.ps))
    (hoff : OffAt m.A m.n (.slice (some ⟨g, off, none⟩) n c)) (hv : Blk w gv 39 (layCs m).toArray) :
    Calls Tryd.prog 53 #[.slice (some ⟨g, off, none⟩) n c, .int .i64 0, .int .i64 n, .slice (some ⟨gv, 0, none⟩) 1 cv] w
      fun e w' => e = .returned (.slice (some ⟨g, off, none⟩) 1 c) ∧ LaysO w' base (.slice (some ⟨g, off, none⟩) 1 c) [m] ∧ w.grownBy w' (some g) := by
  obtain ⟨i0, hi, hz0, hz1, hz2⟩ := info_parts layInfo
  have hnl := hO.lays.len
  have hnc : n ≤ c := by
    obtain ⟨_, _, e, h, _⟩ := hO.own.form
    injection e with _ _ e3
    omega
  have hcm : c ≤ 9223372036854775807 := by
    rcases hO.own.2 with ⟨e, _⟩ | ⟨_, _, _, e, _, _, _, h, _⟩
    · cases e
    · injection e with _ _ e3
      unfold maxLen at h
      omega
  have hthere : ∀ j, j < c * 9 → (w.cell? ⟨g, off + j, none⟩).isSome = true ∧ w.frozen? ⟨g, off + j, none⟩ = false := by
    rcases hO.own.2 with ⟨e, _⟩ | ⟨_, _, _, e, _, _, _, _, _, h⟩
    · cases e
    · injection e with e1 e2 e3
      injection e1 with e1
      injection e1 with e1 e4
      subst e1; subst e4; subst e3
      exact h
  have HT := Lib.hid hthere
  have HO := Lib.hid hO
  have HNL := Lib.hid hnl
  have HM := Lib.hid hm
  have HOFF := Lib.hid hoff
  have HV := Lib.hid hv
  clear hthere hO hnl hm hoff hv
  have e1 : ((0 : Int) == (n : Int)) = false := by rw [beq_eq_false_iff_ne]; omega
  have d1 : ¬ c = 0 := by omega
  have z2 : (0 : Int) ≤ (n : Int) := by omega
  have z4 : (n : Int) ≤ c := by omega
  by_cases h1 : n = 1
  · subst h1
    go_enter Tryd.func53, Tryd.ntmps53
    go_wp2_with (at_builtin; refine wpList_append_room_src rfl (.tmp 32) (.tmp 33) 31 31 rfl 39 i0 9 Tryd.underlying31 hi hz1 g off 0 c rfl 1 (layCs m) (Src.blk Tryd.underlying31 HV.out rfl (by intro u hu; exact layCells_one [m] u (by rw [layCells_single]; exact hu))) (by omega) (fun j hj => by have := HT.out j (by have : (layCs m).length = 9 := rfl; omega); simpa using this) ?_; obtain ⟨W1, hW1⟩ : ∃ W1, W1 = w.setCells g (off + 0 * 9) (layCs m) := ⟨_, rfl⟩; rw [← hW1]; have HW1 := Lib.hid hW1; clear hW1)
    go_ret
    have h := replace_end HO.out HNL.out (by omega) HM.out HOFF.out (W1 := W1) (by rw [HW1.out, Nat.zero_mul, Nat.add_zero]) [] (by simp)
    exact ⟨rfl, h.1, h.2⟩
  · have h2 : 1 < n := by omega
    have h2' : (1 : Int) < (n : Int) := by omega
    go_enter Tryd.func53, Tryd.ntmps53
    go_wp2_with (at_builtin; refine wpList_append_room_src rfl (.tmp 32) (.tmp 33) 31 31 rfl 39 i0 9 Tryd.underlying31 hi hz1 g off 0 c rfl 1 (layCs m) (Src.blk Tryd.underlying31 HV.out rfl (by intro u hu; exact layCells_one [m] u (by rw [layCells_single]; exact hu))) (by omega) (fun j hj => by have := HT.out j (by have : (layCs m).length = 9 := rfl; omega); simpa using this) ?_; obtain ⟨W1, hW1⟩ : ∃ W1, W1 = w.setCells g (off + 0 * 9) (layCs m) := ⟨_, rfl⟩; have hth : ∀ j, j < c * 9 → (W1.cell? ⟨g, off + j, none⟩).isSome = true ∧ W1.frozen? ⟨g, off + j, none⟩ = false := (fun j hj => by rw [hW1]; exact ⟨World.isSome_setCells _ _ _ _ _ (HT.out j hj).1, by rw [World.frozen?_setCells]; exact (HT.out j hj).2⟩); have hcl : ∀ ty, (Builtin.clear_ #[31] ty #[.slice (some ⟨g, off + 9, none⟩) (n - 1) (c - 1)]).run Tryd.prog W1 = .ok (.tuple #[]) (W1.setCells g (off + 9) (Builtin.zeroCells (Value.agg #[.string ⟨#[]⟩, .int .i64 0, .int .i64 0, .bool false, .int .i64 0, .int .i64 0, .int .i64 0, .int .i64 0, .slice none 0 0]).cells (n - 1)).toList) := (fun ty => run_clear_cells W1 _ _ ty _ Tryd.underlying31 layZero layZero1 (by decide) g (off + 9) (n - 1) (c - 1) (by omega) (fun j hj => by have := (hth (9 + j) (nine_lt hj hnc)).1; rwa [← Nat.add_assoc] at this) (fun j hj => by have := (hth (9 + j) (nine_lt hj hnc)).2; rwa [← Nat.add_assoc] at this)); rw [← hW1]; have HW1 := Lib.hid hW1; clear hW1 hth)
    go_ret
    have h := replace_end HO.out HNL.out (by omega) HM.out HOFF.out (W1 := W1) (by rw [HW1.out, Nat.zero_mul, Nat.add_zero]) (Builtin.zeroCells (Value.agg #[.string ⟨#[]⟩, .int .i64 0, .int .i64 0, .bool false, .int .i64 0, .int .i64 0, .int .i64 0, .int .i64 0, .slice none 0 0]).cells (n - 1)).toList (by rw [Array.length_toList, size_zeroCells]; simp [Value.cells])
    exact ⟨rfl, h.1, h.2⟩
end Go.Proofs.YtfadnkfceggjaaaDoor
/- One layer that is the whole: plain. -/
namespace Go.Proofs.YtfadnkfceggjaaaDoor
namespace Lay
def merged (name : ByteArray) (W H : Int) (L : List Px) : Layer := ⟨name, 0, 0, false, 255, 0, W, H, L⟩
theorem put_merged (ls : List Layer) (name : ByteArray) (W H x y : Nat) (hx : x < W) (hy : y < H) : put (x : Int) (y : Int) Pix.nil (merged name W H (flat ls W H)) = dot ls (x : Int) (y : Int) := by
  have hs : seen (merged name W H (flat ls W H)) (x : Int) (y : Int) = true := by
    simp only [seen, merged, Int.sub_zero, Bool.not_false, Bool.true_and, Bool.and_eq_true, decide_eq_true_eq]
    omega
  have hp : spot (merged name W H (flat ls W H)) (x : Int) (y : Int) = dot ls (x : Int) (y : Int) := by
    unfold spot merged
    simp only
    rw [Int.sub_zero, Int.sub_zero, ← Int.natCast_mul, ← Int.natCast_add, Int.toNat_natCast, List.getD_eq_getElem?_getD, flat_at ls W H x y hx hy]
    rfl
  rw [put, if_pos hs, hp]
  show Pix.over 0 (Pix.fade (dot ls (x : Int) (y : Int)) 255) Pix.nil = _
  rw [Pix.fade_full _ (dot_clear ls _ _), Pix.over_on_nil _ (dot_clear ls _ _)]
theorem flat_merged (ls : List Layer) (name : ByteArray) (W H : Nat) : flat [merged name W H (flat ls W H)] W H = flat ls W H :=
  flat_congr _ _ _ _ fun x y hx hy => by
    rw [← put_merged ls name W H x y hx hy]
    rfl
theorem good_merged {W H : Int} (hW : sideP W = true) (hH : sideP H = true) {name : ByteArray} (hn : isName name = true) {L : List Px} (hl : (L.length : Int) = W * H) : Good W H [merged name W H L] := by
  refine good_mk hW hH (by simp) (fun i j hi hj => ?_) (fun l hm => ?_)
  · simp at hi
    omega
  · rw [List.mem_singleton] at hm
    subst hm
    exact ⟨hn, rfl, rfl, rfl, rfl, by simp [rightL, merged, hW, hH, hl]⟩
end Lay
end Go.Proofs.YtfadnkfceggjaaaDoor
/- Merge: its closure. -/
namespace Go.Proofs.YtfadnkfceggjaaaDoor
open Go Go.RowKit

set_option maxRecDepth 100000 in
set_option maxHeartbeats 4000000 in
theorem merge1_any (W H : Int) (base g off c k pb : Nat) (ms : List LM) (name : ByteArray) (w : World) (hO : LaysO w base (.slice (some ⟨g, off, none⟩) (k + 1) c) ms) (hn : k + 1 ≤ 4096) (hB : base ≤ w.heap.size) (hG : Lay.Good W H (lsOf ms))
    (hs : w.cell? ⟨pb, 0, none⟩ = some (.string name)) (L : List Px) (hq : Lay.flat (lsOf ms) W.toNat H.toNat = L) :
    Calls Tryd.prog 52 #[.agg #[.int .i64 W, .int .i64 H, .slice (some ⟨g, off, none⟩) (k + 1) c], .int .i64 k, .pointer (some ⟨pb, 0, none⟩)] w
      fun e w' => ∃ Ap cp, e = .returned (.tuple #[.agg #[.int .i64 W, .int .i64 H, .slice (some ⟨g, off, none⟩) 1 c], .nilIface]) ∧ LaysO w' base (.slice (some ⟨g, off, none⟩) 1 c) [⟨Lay.merged name W H L, Ap, L.length, cp⟩] ∧ Below base w w' := by
  have hg := hO.own.lt g rfl
  have hkc : k + 1 ≤ c := by
    obtain ⟨_, _, e, h, _⟩ := hO.own.form
    injection e with _ _ e3
    have := hO.lays.len
    omega
  have z0 : (0 : Int) ≤ (k : Int) + 1 := by omega
  have z1 : (k : Int) + 1 ≤ (c : Int) := by omega
  have HQ := Lib.hid hq
  have HG := Lib.hid hG
  clear hq hG
  go_enter Tryd.func52, Tryd.ntmps52
  go_wp2_with fail
  obtain ⟨W0, hW0⟩ : ∃ W0, W0 = (w.alloc (.cells #[.int .i64 W, .int .i64 H, .slice (some ⟨g, off, none⟩) (k + 1) c] 33)).alloc (.cells #[.int .i64 0, .int .i64 0, .slice none 0 0] 33) := ⟨_, rfl⟩
  have bD : Blk W0 w.heap.size 33 #[.int .i64 W, .int .i64 H, .slice (some ⟨g, off, none⟩) (k + 1) c] := by rw [hW0]; exact (Blk.new _ _ _ rfl).alloc _
  have bR : Blk W0 (w.heap.size + 1) 33 #[.int .i64 0, .int .i64 0, .slice none 0 0] := by rw [hW0]; exact Blk.new _ _ _ (by simp)
  have hb0 : Below w.heap.size w W0 := by rw [hW0]; go_grown
  have HO := Lib.hid (hO.below hb0 (Nat.le_refl _))
  have LL := Lib.hid HO.out.lays
  have hs0 := bkeep hb0 hs
  rw [← hW0]
  clear hW0 hO hs
  have hz1 := bD.lt
  have hw1 : IntKind.i64.wrap ((k : Int) + 1) = (k : Int) + 1 := IntWalk.i64_in _ (by omega)
  have hw2 : ((k : Int) + 1).toNat = k + 1 := by omega
  have s0 : W0.cell? ⟨w.heap.size, 0, none⟩ = some (.int .i64 W) := (bD.cell 0).trans rfl
  have s1 : W0.cell? ⟨w.heap.size, 1, none⟩ = some (.int .i64 H) := (bD.cell 1).trans rfl
  have s2 : W0.cell? ⟨w.heap.size, 2, none⟩ = some (.slice (some ⟨g, off, none⟩) (k + 1) c) := (bD.cell 2).trans rfl
  go_region_held3 (fun w' => w'.cell? ⟨w.heap.size, 0, none⟩ = some (.int .i64 W) ∧ w'.cell? ⟨w.heap.size, 1, none⟩ = some (.int .i64 H) ∧ w'.cell? ⟨w.heap.size, 2, none⟩ = some (.slice (some ⟨g, off, none⟩) (k + 1) c))
    ((go_split_ands
      refine ⟨?_, ?_, ?_⟩
      · (first | (with_reducible exact s0) | ((with_reducible refine bkeep hbA ?_); exact s0) | ((with_reducible refine cell_past _ ?_); exact s0) | ((with_reducible refine bkeep hbA ?_); exact cell_past _ s0) | ((with_reducible refine cell_past _ ?_); (with_reducible refine bkeep hbA ?_); exact s0) | ((with_reducible refine cell_set_other _ (ne_blk hz1 _ _) ?_); (with_reducible refine cell_set_other _ (ne_blk hz1 _ _) ?_); (with_reducible refine cell_set_other _ (ne_blk hz1 _ _) ?_); (with_reducible refine bkeep hbA ?_); exact cell_past _ s0) | exact s0 | exact cell_past _ s0)
      · (first | (with_reducible exact s1) | ((with_reducible refine bkeep hbA ?_); exact s1) | ((with_reducible refine cell_past _ ?_); exact s1) | ((with_reducible refine bkeep hbA ?_); exact cell_past _ s1) | ((with_reducible refine cell_past _ ?_); (with_reducible refine bkeep hbA ?_); exact s1) | ((with_reducible refine cell_set_other _ (ne_blk hz1 _ _) ?_); (with_reducible refine cell_set_other _ (ne_blk hz1 _ _) ?_); (with_reducible refine cell_set_other _ (ne_blk hz1 _ _) ?_); (with_reducible refine bkeep hbA ?_); exact cell_past _ s1) | exact s1 | exact cell_past _ s1)
      · (first | (with_reducible exact s2) | ((with_reducible refine bkeep hbA ?_); exact s2) | ((with_reducible refine cell_past _ ?_); exact s2) | ((with_reducible refine bkeep hbA ?_); exact cell_past _ s2) | ((with_reducible refine cell_past _ ?_); (with_reducible refine bkeep hbA ?_); exact s2) | ((with_reducible refine cell_set_other _ (ne_blk hz1 _ _) ?_); (with_reducible refine cell_set_other _ (ne_blk hz1 _ _) ?_); (with_reducible refine cell_set_other _ (ne_blk hz1 _ _) ?_); (with_reducible refine bkeep hbA ?_); exact cell_past _ s2) | exact s2 | exact cell_past _ s2)))
    (first
      | (go_at_call 13; refine (flatten_as W H _ (k + 1) c ms (W0.alloc (.cells #[.int .i64 0, .int .i64 0, .slice none 0 0] 37)).drew (LL.out.step (Below.alloc (Below.refl W0.heap.size W0) (Nat.le_refl _) (.cells #[.int .i64 0, .int .i64 0, .slice none 0 0] 37)).drew) HG.out L HQ.out).mono ?_; rintro e wA ⟨Ap, cp, rfl, hoA, hbA⟩; have kB : Blk wA W0.heap.size 37 #[.int .i64 0, .int .i64 0, .slice none 0 0] := (Blk.drew (Blk.new W0 _ _ rfl)).below hbA (by simp); have kc := kB.cell; have kf := kB.free)
      | (go_at_call 13; refine (flatten_as W H _ (k + 1) c ms W0.drew LL.out HG.out L HQ.out).mono ?_; rintro e wA ⟨Ap, cp, rfl, hoA, hbA⟩))
  · obtain ⟨W7, hW7⟩ : ∃ W7, W7 = wA.alloc (.cells #[.int .i64 W, .int .i64 H, .slice Ap L.length cp] 37) := ⟨_, rfl⟩
    rw [← hW7]
    have P7 : Blk W7 wA.heap.size 37 #[.int .i64 W, .int .i64 H, .slice Ap L.length cp] := by rw [hW7]; exact Blk.new _ _ _ rfl
    have b07 : Below W0.heap.size W0 W7 := by rw [hW7]; exact (((Below.refl W0.heap.size W0).drew.trans hbA).alloc (by have := hbA.size; exact this) _)
    have R7 : Reads W7 W7.heap.size 4 Ap L.length (pxCells L) := by rw [hW7]; exact (hoA.reads.2.alloc (Nat.le_refl _) _).more (by simp)
    clear hW7
    clear s0 s1 s2 hw1 hw2
    have b1 := bD.below b07 bD.lt
    have b2 := bR.below b07 bR.lt
    have c1 := b1.cell
    have f1 := b1.free
    have c7 := P7.cell
    have hs7 := bkeep b07 hs0
    have hO7 := HO.out.below b07 (Nat.le_refl _)
    have hbw := hb0.trans (b07.mono hb0.size)
    have h1l := b1.lt
    have h2l := b2.lt
    have hof : OffAt Ap L.length (.slice (some ⟨g, off, none⟩) (k + 1) c) := fun b o e hn e2 => by
      rw [e] at hoA
      have h5 : W0.heap.size ≤ b := (hoA.lt b rfl).1
      have h6 : g = b := by simpa [Value.ownBlock] using e2
      have h7 := hb0.size
      omega
    have HOF := Lib.hid hof
    have HO7 := Lib.hid hO7
    have HR7 := Lib.hid R7
    clear hof hO7 R7 hoA
    go_wp2_with fail
    refine (replace_all base g off (k + 1) c W7.heap.size 1 ms ⟨Lay.merged name W H L, Ap, L.length, cp⟩ _ (HO7.out.alloc _) (by omega) hn ((HR7.out.alloc (Nat.le_refl _) _).more (by simp)) HOF.out (Blk.new _ _ _ rfl)).mono ?_
    rintro e w8 ⟨rfl, hO8, hgr⟩
    have B1 := (b1.alloc (.cells (layCs ⟨Lay.merged name W H L, Ap, L.length, cp⟩).toArray 39)).grown hgr (by simp; omega)
    have B2 := (b2.alloc (.cells (layCs ⟨Lay.merged name W H L, Ap, L.length, cp⟩).toArray 39)).grown hgr (by simp; omega)
    have o1 : ∀ x ∈ [(⟨Lay.merged name W H L, Ap, L.length, cp⟩ : LM)], OffB w.heap.size x := fun x hx => OffB.blk (hO8.px x hx) B1
    have o2 : ∀ x ∈ [(⟨Lay.merged name W H L, Ap, L.length, cp⟩ : LM)], OffB (w.heap.size + 1) x := fun x hx => OffB.blk (hO8.px x hx) B2
    have hz8 := hgr.size
    simp at hz8
    have hbw8 : Below base w w8 := ((hbw.mono hB).alloc (by have := hbw.size; omega) _).grown hgr (by simp; have := hbw.size; omega) (fun g' e => by injection e with e; omega)
    have d1 := B1.cell
    have f1' := B1.free
    have d2 := B2.cell
    have f2 := B2.free
    have HO8 := Lib.hid hO8
    have HO1 := Lib.hid o1
    have HO2 := Lib.hid o2
    have hne : ¬ w.heap.size + 1 = w.heap.size := by omega
    clear hO8 hgr o1 o2 c1 f1 c7 hs7
    go_wp2_with fail
    refine bodyPost_ret (v := .tuple #[.agg #[.int .i64 W, .int .i64 H, .slice (some ⟨g, off, none⟩) 1 c], .nilIface]) (by simp [results, Tryd.results52, go_sem, d2]) rfl ⟨Ap, cp, rfl, ?_, ?_⟩
    · have n1 : ∀ G, w.heap.size ≤ G → (Value.slice (some ⟨g, off, none⟩) 1 c).ownBlock ≠ some G := fun G hG => by simp [Value.ownBlock]; omega
      exact ((((HO8.out.farB (p := ⟨w.heap.size, 2, none⟩) (n1 _ (Nat.le_refl _)) HO1.out _).farB (p := ⟨w.heap.size + 1, 0, none⟩) (n1 _ (by simp)) HO2.out _).farB (p := ⟨w.heap.size + 1, 1, none⟩) (n1 _ (by simp)) HO2.out _).farB (p := ⟨w.heap.size + 1, 2, none⟩) (n1 _ (by simp)) HO2.out _)
    · exact (((hbw8.setCell (by show base ≤ w.heap.size; omega) _).setCell (by show base ≤ w.heap.size + 1; omega) _).setCell (by show base ≤ w.heap.size + 1; omega) _).setCell (by show base ≤ w.heap.size + 1; omega) _
  · obtain ⟨W7, hW7⟩ : ∃ W7, W7 = ((wA.setCell ⟨W0.heap.size, 0, none⟩ (.int .i64 W)).setCell ⟨W0.heap.size, 1, none⟩ (.int .i64 H)).setCell ⟨W0.heap.size, 2, none⟩ (.slice Ap L.length cp) := ⟨_, rfl⟩
    rw [← hW7]
    have P7 : Blk W7 W0.heap.size 37 #[.int .i64 W, .int .i64 H, .slice Ap L.length cp] := by rw [hW7]; exact (by simpa using ((kB.set_ 0 (.int .i64 W)).set_ 1 (.int .i64 H)).set_ 2 (.slice Ap L.length cp))
    have b07 : Below W0.heap.size W0 W7 := by rw [hW7]; exact (((((((Below.refl W0.heap.size W0).alloc (Nat.le_refl _) (.cells #[.int .i64 0, .int .i64 0, .slice none 0 0] 37)).drew.trans (hbA.mono (by simp)))).setCell (Nat.le_refl _) _).setCell (Nat.le_refl _) _).setCell (Nat.le_refl _) _)
    have R7 : Reads W7 W7.heap.size 4 Ap L.length (pxCells L) := by rw [hW7]; exact ((((hoA.setCell (fun e => by have h8 := (hoA.lt _ e).1; simp at h8; omega) _).setCell (fun e => by have h8 := (hoA.lt _ e).1; simp at h8; omega) _).setCell (fun e => by have h8 := (hoA.lt _ e).1; simp at h8; omega) _).reads.2)
    clear hW7 kB kc kf
    clear s0 s1 s2 hw1 hw2
    have b1 := bD.below b07 bD.lt
    have b2 := bR.below b07 bR.lt
    have c1 := b1.cell
    have f1 := b1.free
    have c7 := P7.cell
    have hs7 := bkeep b07 hs0
    have hO7 := HO.out.below b07 (Nat.le_refl _)
    have hbw := hb0.trans (b07.mono hb0.size)
    have h1l := b1.lt
    have h2l := b2.lt
    have hof : OffAt Ap L.length (.slice (some ⟨g, off, none⟩) (k + 1) c) := fun b o e hn e2 => by
      rw [e] at hoA
      have h5 : W0.heap.size ≤ b := by have h8 := (hoA.lt b rfl).1; simp at h8; omega
      have h6 : g = b := by simpa [Value.ownBlock] using e2
      have h7 := hb0.size
      omega
    have HOF := Lib.hid hof
    have HO7 := Lib.hid hO7
    have HR7 := Lib.hid R7
    clear hof hO7 R7 hoA
    go_wp2_with fail
    refine (replace_all base g off (k + 1) c W7.heap.size 1 ms ⟨Lay.merged name W H L, Ap, L.length, cp⟩ _ (HO7.out.alloc _) (by omega) hn ((HR7.out.alloc (Nat.le_refl _) _).more (by simp)) HOF.out (Blk.new _ _ _ rfl)).mono ?_
    rintro e w8 ⟨rfl, hO8, hgr⟩
    have B1 := (b1.alloc (.cells (layCs ⟨Lay.merged name W H L, Ap, L.length, cp⟩).toArray 39)).grown hgr (by simp; omega)
    have B2 := (b2.alloc (.cells (layCs ⟨Lay.merged name W H L, Ap, L.length, cp⟩).toArray 39)).grown hgr (by simp; omega)
    have o1 : ∀ x ∈ [(⟨Lay.merged name W H L, Ap, L.length, cp⟩ : LM)], OffB w.heap.size x := fun x hx => OffB.blk (hO8.px x hx) B1
    have o2 : ∀ x ∈ [(⟨Lay.merged name W H L, Ap, L.length, cp⟩ : LM)], OffB (w.heap.size + 1) x := fun x hx => OffB.blk (hO8.px x hx) B2
    have hz8 := hgr.size
    simp at hz8
    have hbw8 : Below base w w8 := ((hbw.mono hB).alloc (by have := hbw.size; omega) _).grown hgr (by simp; have := hbw.size; omega) (fun g' e => by injection e with e; omega)
    have d1 := B1.cell
    have f1' := B1.free
    have d2 := B2.cell
    have f2 := B2.free
    have HO8 := Lib.hid hO8
    have HO1 := Lib.hid o1
    have HO2 := Lib.hid o2
    have hne : ¬ w.heap.size + 1 = w.heap.size := by omega
    clear hO8 hgr o1 o2 c1 f1 c7 hs7
    go_wp2_with fail
    refine bodyPost_ret (v := .tuple #[.agg #[.int .i64 W, .int .i64 H, .slice (some ⟨g, off, none⟩) 1 c], .nilIface]) (by simp [results, Tryd.results52, go_sem, d2]) rfl ⟨Ap, cp, rfl, ?_, ?_⟩
    · have n1 : ∀ G, w.heap.size ≤ G → (Value.slice (some ⟨g, off, none⟩) 1 c).ownBlock ≠ some G := fun G hG => by simp [Value.ownBlock]; omega
      exact ((((HO8.out.farB (p := ⟨w.heap.size, 2, none⟩) (n1 _ (Nat.le_refl _)) HO1.out _).farB (p := ⟨w.heap.size + 1, 0, none⟩) (n1 _ (by simp)) HO2.out _).farB (p := ⟨w.heap.size + 1, 1, none⟩) (n1 _ (by simp)) HO2.out _).farB (p := ⟨w.heap.size + 1, 2, none⟩) (n1 _ (by simp)) HO2.out _)
    · exact (((hbw8.setCell (by show base ≤ w.heap.size; omega) _).setCell (by show base ≤ w.heap.size + 1; omega) _).setCell (by show base ≤ w.heap.size + 1; omega) _).setCell (by show base ≤ w.heap.size + 1; omega) _
end Go.Proofs.YtfadnkfceggjaaaDoor
/- with, for Merge; Merge. -/
namespace Go.Proofs.YtfadnkfceggjaaaDoor
open Go Go.RowKit

theorem merge1_n (W H : Int) (base g off c k n pb : Nat) (ms : List LM) (name : ByteArray) (w : World) (hk : k + 1 = n) (hO : LaysO w base (.slice (some ⟨g, off, none⟩) n c) ms) (hn : n ≤ 4096) (hB : base ≤ w.heap.size) (hG : Lay.Good W H (lsOf ms))
    (hs : w.cell? ⟨pb, 0, none⟩ = some (.string name)) (L : List Px) (hq : Lay.flat (lsOf ms) W.toNat H.toNat = L) :
    Calls Tryd.prog 52 #[.agg #[.int .i64 W, .int .i64 H, .slice (some ⟨g, off, none⟩) n c], .int .i64 k, .pointer (some ⟨pb, 0, none⟩)] w
      fun e w' => ∃ Ap cp, e = .returned (.tuple #[.agg #[.int .i64 W, .int .i64 H, .slice (some ⟨g, off, none⟩) 1 c], .nilIface]) ∧ LaysO w' base (.slice (some ⟨g, off, none⟩) 1 c) [⟨Lay.merged name W H L, Ap, L.length, cp⟩] ∧ Below base w w' := by
  subst hk
  exact merge1_any W H base g off c k pb ms name w hO hn hB hG hs L hq
set_option maxRecDepth 100000 in
set_option maxHeartbeats 2000000 in
theorem withMerge_any (W H : Int) (A : Option Addr) (n c k : Nat) (s : ByteArray) (ms : List LM) (w : World) (hL : Lays w w.heap.size A n ms) (hG : Lay.Good W H (lsOf ms)) (hf : Lay.find (lsOf ms) s = k) (hk : k + 1 = n) (pb : Nat) (hpb : w.cell? ⟨pb, 0, none⟩ = some (.string s)) (L : List Px) (hq : Lay.flat (lsOf ms) W.toNat H.toNat = L) :
    Calls Tryd.prog 39 #[.agg #[.int .i64 W, .int .i64 H, .slice A n c], .string s, .func (.func 52) #[] #[.pointer (some ⟨pb, 0, none⟩)]] w
      fun e w' => ∃ g off c' ns, e = .returned (.tuple #[.agg #[.int .i64 W, .int .i64 H, .slice (some ⟨g, off, none⟩) 1 c'], .nilIface]) ∧ LaysO w' w.heap.size (.slice (some ⟨g, off, none⟩) 1 c') ns ∧ lsOf ns = [Lay.merged s W H L] ∧ Below w.heap.size w w' := by
  obtain rfl := hL.len
  have hok := layOK_of hG hL
  have hn8 : ms.length ≤ 8 := by have := hG.n; rw [lsOf_len] at this; exact this
  have hp : ∀ m ∈ ms, 0 < m.n ∧ m.n ≤ 1048576 := by
    intro m hm
    have h := hok m hm
    obtain ⟨h1, h2⟩ := h.wd
    obtain ⟨h3, h4⟩ := h.hg
    have h5 := h.n
    obtain ⟨z1, z2⟩ := mul_bounds (show 0 ≤ m.l.wide by omega) h2 (show 0 ≤ m.l.high by omega) h4
    have z3 := Int.mul_le_mul h1 h3 (by omega) (by omega)
    omega
  obtain ⟨b0, off0, rfl, hb0⟩ := hL.1.addr (by omega)
  have HF := Lib.hid hf
  have HPB := Lib.hid hpb
  have HQ := Lib.hid hq
  clear hpb hq
  have HG := Lib.hid hG
  have HP := Lib.hid hp
  have HK := Lib.hid hk
  have hk1 : k < ms.length := by omega
  clear hf hG hp hok hk
  have hL1 := fun o o2 => (hL.step (Below.alloc (Below.refl _ _) (Nat.le_refl _) o)).step (Below.alloc (Below.refl _ _) (Nat.le_refl _) o2)
  have HL1 := Lib.hid hL1
  clear hL1
  go_enter Tryd.func39, Tryd.ntmps39
  go_wp2_with fail
  refine (check_good W H _ ms.length c ms _ (HL1.out _ _) HG.out).mono ?_
  rintro e w1 ⟨rfl, hb1⟩
  have K1 : B2 w.heap.size w w1 w.heap.size 33 #[.int .i64 W, .int .i64 H, .slice (some ⟨b0, off0, none⟩) ms.length c] (w.heap.size + 1) 33 #[.int .i64 0, .int .i64 0, .slice none 0 0] :=
    B2.step ⟨(Blk.new _ _ _ rfl).alloc _, Blk.new _ _ _ (by simp), by go_grown, by simp; omega⟩ hb1
  have c1 := K1.b1.cell
  have L1 := Lib.hid (hL.here K1.bel (Nat.le_refl _) K1.hB)
  clear hb1
  go_wp2_with fail
  refine (find_any W H _ ms.length c ms s _ L1.out (by omega)).mono ?_
  rintro e w2 ⟨rfl, hb2⟩
  have K2 := K1.step hb2
  have e1 := K2.b1.cell
  have L2 := Lib.hid (hL.here K2.bel (Nat.le_refl _) K2.hB)
  rw [HF.out]
  clear c1 hb2
  have k0 : (0 : Int) ≤ (k : Int) := by omega
  go_wp2_with fail
  refine (ownDoc_any W H b0 off0 ms.length c ms _ L2.out (by omega) HP.out (by omega)).mono ?_
  rintro e w3 ⟨g, off, c', ns, rfl, hO, hns, hb3⟩
  have K3 := K2.step hb3
  have c3 := K3.b1.cell
  have HNS := Lib.hid hns
  have hge := (hO.own.lt g rfl).1
  have hkn := Lib.hid (show k + 1 = ns.length by rw [same_lays hns]; exact HK.out)
  have hns8 : ns.length ≤ 4096 := by rw [same_lays hns]; omega
  have HO := Lib.hid hO
  have hz3 := hb3.size
  have hpb3 := Lib.hid (show w3.cell? ⟨pb, 0, none⟩ = some (.string s) from bkeep K3.bel HPB.out)
  have hG3 := Lib.hid (show Lay.Good W H (lsOf ns) by rw [HNS.out]; exact HG.out)
  have hq3 := Lib.hid (show Lay.flat (lsOf ns) W.toNat H.toNat = L by rw [HNS.out]; exact HQ.out)
  clear hO hns hb3 e1
  go_wp2_with fail
  refine (merge1_n W H w2.heap.size g off c' k ns.length pb ns s w3 hkn.out HO.out hns8 hz3 hG3.out hpb3.out L hq3.out).mono ?_
  rintro e w4 ⟨Ap, cp, rfl, hO4, hb4⟩
  have b24 := K3.b2.below hb4 K2.b2.lt
  have c4 := b24.cell
  have f4 := b24.free
  have h2l := K2.b2.lt
  have hbw : Below w.heap.size w w4 := K3.bel.trans (hb4.mono K2.hB)
  have hoff : ∀ x ∈ [(⟨Lay.merged s W H L, Ap, L.length, cp⟩ : LM)], OffB (w.heap.size + 1) x := fun x hx => OffB.blk (hO4.px x hx) b24
  have HOFF := Lib.hid hoff
  have HO4 := Lib.hid hO4
  clear hO4 hoff c3
  go_wp2_with fail
  refine bodyPost_ret (v := .tuple #[.agg #[.int .i64 W, .int .i64 H, .slice (some ⟨g, off, none⟩) 1 c'], .nilIface]) (by simp [results, Tryd.results39, go_sem, c4]) rfl ⟨g, off, c', [⟨Lay.merged s W H L, Ap, L.length, cp⟩], rfl, ?_, rfl, ?_⟩
  · have n1 : (Value.slice (some ⟨g, off, none⟩) 1 c').ownBlock ≠ some (w.heap.size + 1) := by simp [Value.ownBlock]; omega
    exact (((HO4.out.farB n1 HOFF.out _).farB n1 HOFF.out _).farB n1 HOFF.out _).mono K2.hB
  · exact ((hbw.setCell (by simp) _).setCell (by simp) _).setCell (by simp) _

set_option maxRecDepth 100000 in
theorem merge_any (W H : Int) (A : Option Addr) (n c k : Nat) (s : ByteArray) (ms : List LM) (w : World) (hL : Lays w w.heap.size A n ms) (hG : Lay.Good W H (lsOf ms)) (hf : Lay.find (lsOf ms) s = k) (hk : k + 1 = n) (L : List Px) (hq : Lay.flat (lsOf ms) W.toNat H.toNat = L) :
    Calls Tryd.prog 21 #[.agg #[.int .i64 W, .int .i64 H, .slice A n c], .string s] w
      fun e w' => ∃ g off c' ns, e = .returned (.tuple #[.agg #[.int .i64 W, .int .i64 H, .slice (some ⟨g, off, none⟩) 1 c'], .nilIface]) ∧ LaysO w' w.heap.size (.slice (some ⟨g, off, none⟩) 1 c') ns ∧ lsOf ns = [Lay.merged s W H L] ∧ Below w.heap.size w w' := by
  have HF := Lib.hid hf
  have HG := Lib.hid hG
  have HQ := Lib.hid hq
  clear hf hG hq
  have hL1 := fun o o2 o3 => ((hL.step (Below.alloc (Below.refl _ _) (Nat.le_refl _) o)).step (Below.alloc (Below.refl _ _) (Nat.le_refl _) o2)).step (Below.alloc (Below.refl _ _) (Nat.le_refl _) o3)
  have HL1 := Lib.hid hL1
  clear hL1
  go_enter Tryd.func21, Tryd.ntmps21
  go_wp2_with fail
  refine (withMerge_any W H A n c k s ms _ (HL1.out _ _ _) HG.out HF.out hk (w.heap.size + 1) (((Blk.new (w.alloc (.cells #[.int .i64 W, .int .i64 H, .slice A n c] 33)) 9 #[.string s] (by simp)).alloc (.cells #[.int .i64 0, .int .i64 0, .slice none 0 0] 33)).cell 0) L HQ.out).mono ?_
  rintro e w4 ⟨g, off, c', ns, rfl, hO4, hns, hb4⟩
  have b24 := (Blk.new ((w.alloc (.cells #[.int .i64 W, .int .i64 H, .slice A n c] 33)).alloc (.cells #[.string s] 9)) 33 #[.int .i64 0, .int .i64 0, .slice none 0 0] rfl).below hb4 (by simp)
  simp at b24
  have c4 := b24.cell
  have f4 := b24.free
  have hge := (hO4.own.lt g rfl).1
  simp at hge
  have hbw : Below w.heap.size w w4 := Below.trans (by go_grown) (hb4.mono (by simp; omega))
  have hoff : ∀ x ∈ ns, OffB (w.heap.size + 1 + 1) x := fun x hx => OffB.blk (hO4.px x hx) b24
  have HOFF := Lib.hid hoff
  have HO4 := Lib.hid hO4
  have HNS := Lib.hid hns
  clear hO4 hoff hns hb4
  go_wp2_with fail
  refine bodyPost_ret (v := .tuple #[.agg #[.int .i64 W, .int .i64 H, .slice (some ⟨g, off, none⟩) 1 c'], .nilIface]) (by simp [results, Tryd.results21, go_sem, c4]) rfl ⟨g, off, c', ns, rfl, ?_, HNS.out, ?_⟩
  · have n1 : (Value.slice (some ⟨g, off, none⟩) 1 c').ownBlock ≠ some (w.heap.size + 1 + 1) := by simp [Value.ownBlock]; omega
    exact (((HO4.out.farB n1 HOFF.out _).farB n1 HOFF.out _).farB n1 HOFF.out _).mono (by simp; omega)
  · exact ((hbw.setCell (by show w.heap.size ≤ w.heap.size + 1 + 1; omega) _).setCell (by show w.heap.size ≤ w.heap.size + 1 + 1; omega) _).setCell (by show w.heap.size ≤ w.heap.size + 1 + 1; omega) _

end Go.Proofs.YtfadnkfceggjaaaDoor
/- LayerMerged: the law's walk. -/
namespace Go.Proofs.YtfadnkfceggjaaaDoor
open Go Go.RowKit

theorem docOf_as (W H : Int) (A : Option Addr) (n c : Nat) (ms : List LM) (w : World) (hL : Lays w w.heap.size A n ms) (hn : n ≤ 4096) (hp : ∀ m ∈ ms, m.n ≤ 1048576) :
    Calls Tryd.prog 11 #[.agg #[.int .i64 W, .int .i64 H, .slice A n c]] w
      fun e w' => ∃ A' c' na, e = .returned (.agg #[.int .i64 W, .int .i64 H, .slice A' n c']) ∧ LaysO w' w.heap.size (.slice A' n c') na ∧ lsOf na = lsOf ms ∧ Below w.heap.size w w' := by
  refine (docOf_any W H A n c ms w hL hn hp).mono fun e w' ⟨A', c', na, he, hO, hs, _, hb⟩ => ?_
  have hna : na.length = n := by rw [same_lays hs, hL.len]
  rw [hna] at he hO
  exact ⟨A', c', na, he, hO, hs, hb⟩
theorem flat_merged' {W H : Int} (hW : 0 ≤ W) (hH : 0 ≤ H) (ls : List Lay.Layer) (name : ByteArray) (L : List Px) (hq : Lay.flat ls W.toNat H.toNat = L) : Lay.flat [Lay.merged name W H L] W.toNat H.toNat = L := by
  obtain ⟨W', rfl⟩ : ∃ W' : Nat, W = W' := ⟨W.toNat, by omega⟩
  obtain ⟨H', rfl⟩ : ∃ H' : Nat, H = H' := ⟨H.toNat, by omega⟩
  rw [Int.toNat_natCast, Int.toNat_natCast] at *
  rw [← hq]
  exact Lay.flat_merged ls name W' H'
theorem good_merged' {W H : Int} {ls : List Lay.Layer} (h : Lay.Good W H ls) {name : ByteArray} (hn : Lay.isName name = true) {L : List Px} (hq : Lay.flat ls W.toNat H.toNat = L) : Lay.Good W H [Lay.merged name W H L] := by
  refine Lay.good_merged h.wd h.hg hn ?_
  obtain ⟨a1, a2⟩ := sideB_true h.wd
  obtain ⟨a3, a4⟩ := sideB_true h.hg
  rw [← hq, Lay.flat_length, Int.natCast_mul, Int.mul_comm]
  rw [Int.toNat_of_nonneg (by omega), Int.toNat_of_nonneg (by omega)]

set_option maxRecDepth 100000 in
set_option maxHeartbeats 4000000 in
theorem layerMerged_any (W H : Int) (A : Option Addr) (n c : Nat) (ms : List LM) (w : World) (hL : Lays w w.heap.size A n ms) (hn : n ≤ 9223372036854775807) :
    Calls Tryd.prog 5 #[.agg #[.int .i64 W, .int .i64 H, .slice A n c]] w fun e w' => e = .returned (.bool true) ∧ Below w.heap.size w w' := by
  obtain ⟨ck, hck⟩ : ∃ f, f = Lay.check W H (lsOf ms) := ⟨_, rfl⟩
  have HCK := Lib.hid hck
  clear hck
  have hlen := hL.len
  have HLEN := Lib.hid hlen
  clear hlen
  have hfd := run_fault_code
  go_enter Tryd.func5, Tryd.ntmps5
  go_wp2_with fail
  refine (still_any _).mono ?_
  rintro e w1 ⟨rfl, hb1⟩
  have B := (Blk.new w 24 #[.int .i64 W, .int .i64 H, .slice A n c] rfl).below hb1 (by simp)
  have hb := Below.trans (show Below w.heap.size w (w.alloc (.cells #[.int .i64 W, .int .i64 H, .slice A n c] 24)) by go_grown) (hb1.mono (by simp))
  have cB := B.cell
  clear hb1
  go_wp2_with fail
  refine (tame_some W H A n c ms _ (hL.here hb (Nat.le_refl _) hb.size) hn).mono ?_
  rintro e w2 ⟨⟨tb, rfl⟩, hb2⟩
  have B2 := B.below hb2 B.lt
  have hbw2 := hb.trans (hb2.mono hb.size)
  have cB2 := B2.cell
  clear cB hb2 hb B
  cases tb with
  | false =>
    go_wp2_with fail
    go_ret
    exact ⟨rfl, hbw2⟩
  | true =>
    go_wp2_with fail
    refine (checkOf_any W H A n c ms _ (hL.here hbw2 (Nat.le_refl _) hbw2.size)).mono ?_
    rw [← HCK.out]
    rintro e w3 ⟨rfl, hb3⟩
    have B3 := B2.below hb3 B2.lt
    have hbw3 := hbw2.trans (hb3.mono hbw2.size)
    have cB3 := B3.cell
    unfold faultV
    clear cB2 hb3 hbw2 B2
    by_cases h0 : ck.1 = 0
    · have HG := Lib.hid (show Lay.Good W H (lsOf ms) from Lay.good_of (by rw [← HCK.out]; exact h0))
      obtain ⟨f1, f2⟩ := ck
      simp only at h0
      subst h0
      by_cases hz : n = 0
      · subst hz
        go_wp2_with fail
        go_ret
        exact ⟨rfl, hbw3⟩
      · have hn8 : n ≤ 4096 := by have := HG.out.n; rw [lsOf_len, ← HLEN.out] at this; omega
        have hz' : ¬ (n : Int) = 0 := by omega
        obtain ⟨k, hk⟩ : ∃ k, n = k + 1 := ⟨n - 1, by omega⟩
        have HK := Lib.hid hk
        have k0 : (0 : Int) ≤ (k : Int) := by omega
        have k1 : (k : Int) < (n : Int) := by omega
        have k2 : IntKind.i64.wrap ((n : Int) - 1) = (k : Int) := by rw [show (n : Int) - 1 = (k : Int) by omega]; exact IntWalk.i64_in _ (by omega)
        have hkm : k < ms.length := by rw [← HLEN.out]; omega
        obtain ⟨b, off, rfl, hbl⟩ := hL.1.addr (by omega)
        have hok := layOK_of HG.out hL
        have hpm : ∀ m ∈ ms, m.n ≤ 1048576 := by
          intro m hm
          have h := hok m hm
          obtain ⟨h1, h2⟩ := h.wd
          obtain ⟨h3, h4⟩ := h.hg
          have h5 := h.n
          obtain ⟨z1, z2⟩ := mul_bounds (show 0 ≤ m.l.wide by omega) h2 (show 0 ≤ m.l.high by omega) h4
          omega
        have HPM := Lib.hid hpm
        obtain ⟨nm, hnm⟩ : ∃ nm, nm = ms[k].l.name := ⟨_, rfl⟩
        have HFK := Lib.hid (show Lay.find (lsOf ms) nm = k by
          have h := HG.out.find k (by rw [lsOf_len]; exact hkm)
          rw [lsOf_get ms k hkm] at h
          rw [hnm]
          exact h)
        have HIN := Lib.hid (show Lay.isName nm = true by rw [hnm]; exact (good_at HG.out k hkm).1)
        have qn := hL.at k hkm 0 (by omega)
        simp only [layCs, List.getElem?_cons_zero] at qn
        rw [← hnm, Nat.add_zero] at qn
        have HQN := Lib.hid qn
        obtain ⟨L, hLq⟩ : ∃ L, Lay.flat (lsOf ms) W.toNat H.toNat = L := ⟨_, rfl⟩
        have HLQ := Lib.hid hLq
        have hLn : L.length ≤ 1048576 := by
          rw [← hLq, Lay.flat_length]
          obtain ⟨a1, a2⟩ := sideB_true HG.out.wd
          obtain ⟨a3, a4⟩ := sideB_true HG.out.hg
          have := Nat.mul_le_mul (show H.toNat ≤ 256 by omega) (show W.toNat ≤ 256 by omega)
          omega
        clear hok hpm hkm hnm qn hLq hk hz
        go_wp2_with fail
        refine (docOf_as W H _ n c ms _ (hL.here hbw3 (Nat.le_refl _) hbw3.size) hn8 HPM.out).mono ?_
        rintro e w4 ⟨A4, c4, na, rfl, hO4, hs4, hb4⟩
        have B4 := B3.below hb4 B3.lt
        have hbw4 := hbw3.trans (hb4.mono hbw3.size)
        have cB4 := B4.cell
        clear cB3 hb4 hbw3 B3
        go_wp2_with fail
        refine (flatten_as W H A4 n c4 na _ hO4.lays (by rw [hs4]; exact HG.out) L (by rw [hs4]; exact HLQ.out)).mono ?_
        rintro e w5 ⟨Ap, cp, rfl, hOp, hb5⟩
        have B5 := B4.below hb5 B4.lt
        have hbw5 := hbw4.trans (hb5.mono hbw4.size)
        have cB5 := B5.cell
        have RP := hOp.reads.2
        clear hOp hO4 hs4 hb5 cB4 hbw4 B4
        go_wp2_with fail
        obtain ⟨W0, hW0⟩ : ∃ W0, W0 = w5.alloc (.cells #[.int .i64 W, .int .i64 H, .slice Ap L.length cp] 37) := ⟨_, rfl⟩
        have hb0 : Below w5.heap.size w5 W0 := by rw [hW0]; exact (Below.refl _ _).alloc (Nat.le_refl _) _
        have P0 : Blk W0 w5.heap.size 37 #[.int .i64 W, .int .i64 H, .slice Ap L.length cp] := by rw [hW0]; exact Blk.new _ _ _ rfl
        have B0 := B5.below hb0 B5.lt
        have RP0 := (RP.below hb0 (Nat.le_refl _)).more hb0.size
        have hbw0 := hbw5.trans (hb0.mono hbw5.size)
        rw [← hW0]
        clear hW0 hb0 RP B5 hbw5 cB5
        have s0 : W0.cell? ⟨w.heap.size, 0, none⟩ = some (.int .i64 W) := (B0.cell 0).trans rfl
        have s1 : W0.cell? ⟨w.heap.size, 1, none⟩ = some (.int .i64 H) := (B0.cell 1).trans rfl
        have s2 : W0.cell? ⟨w.heap.size, 2, none⟩ = some (.slice (some ⟨b, off, none⟩) n c) := (B0.cell 2).trans rfl
        have s3 : W0.cell? ⟨b, off + k * 9, none⟩ = some (.string nm) := bkeep hbw0 HQN.out
        have LL := Lib.hid (hL.here hbw0 (Nat.le_refl _) hbw0.size)
        have HRP := Lib.hid RP0
        have HP0 := Lib.hid P0
        have HBW := Lib.hid hbw0
        have hz1 := B0.lt
        have hz2 : b < W0.heap.size := by omega
        clear RP0 P0 hbw0 B0
        go_region_held3 (fun w' => w'.cell? ⟨w.heap.size, 0, none⟩ = some (.int .i64 W) ∧ w'.cell? ⟨w.heap.size, 1, none⟩ = some (.int .i64 H) ∧ w'.cell? ⟨w.heap.size, 2, none⟩ = some (.slice (some ⟨b, off, none⟩) n c) ∧ w'.cell? ⟨b, off + k * 9, none⟩ = some (.string nm))
          ((go_split_ands
            refine ⟨?_, ?_, ?_, ?_⟩
            · ((repeat' (first | (with_reducible exact s0) | (with_reducible refine cell_set_other _ (ne_blk hz1 _ _) ?_) | (with_reducible refine cell_set_other _ (ne_blk hz3 _ _) ?_) | (with_reducible refine bkeep hbM ?_) | (with_reducible refine bkeep hbA ?_) | (with_reducible refine cell_past _ ?_))) <;> first | exact s0 | exact cell_past _ s0)
            · ((repeat' (first | (with_reducible exact s1) | (with_reducible refine cell_set_other _ (ne_blk hz1 _ _) ?_) | (with_reducible refine cell_set_other _ (ne_blk hz3 _ _) ?_) | (with_reducible refine bkeep hbM ?_) | (with_reducible refine bkeep hbA ?_) | (with_reducible refine cell_past _ ?_))) <;> first | exact s1 | exact cell_past _ s1)
            · ((repeat' (first | (with_reducible exact s2) | (with_reducible refine cell_set_other _ (ne_blk hz1 _ _) ?_) | (with_reducible refine cell_set_other _ (ne_blk hz3 _ _) ?_) | (with_reducible refine bkeep hbM ?_) | (with_reducible refine bkeep hbA ?_) | (with_reducible refine cell_past _ ?_))) <;> first | exact s2 | exact cell_past _ s2)
            · ((repeat' (first | (with_reducible exact s3) | (with_reducible refine cell_set_other _ (ne_blk hz2 _ _) ?_) | (with_reducible refine cell_set_other _ (ne_blk hz4 _ _) ?_) | (with_reducible refine bkeep hbM ?_) | (with_reducible refine bkeep hbA ?_) | (with_reducible refine cell_past _ ?_))) <;> first | exact s3 | exact cell_past _ s3)))
          (first
            | (go_at_call 11; refine (docOf_as W H _ n c ms (W0.alloc (.cells #[.int .i64 0, .int .i64 0, .slice none 0 0] 33)).drew (LL.out.step (Below.alloc (Below.refl W0.heap.size W0) (Nat.le_refl _) (.cells #[.int .i64 0, .int .i64 0, .slice none 0 0] 33)).drew) hn8 HPM.out).mono ?_; rintro e wA ⟨A6, c6, nb, rfl, hO6, hs6, hbA⟩; have hzA : W0.heap.size ≤ wA.heap.size := Nat.le_trans (show W0.heap.size ≤ (W0.alloc (.cells #[.int .i64 0, .int .i64 0, .slice none 0 0] 33)).drew.heap.size by simp) hbA.size; have hz3 : w.heap.size < wA.heap.size := Nat.lt_of_lt_of_le hz1 hzA; have hz4 : b < wA.heap.size := Nat.lt_of_lt_of_le hz2 hzA; have kA : Blk wA W0.heap.size 33 #[.int .i64 0, .int .i64 0, .slice none 0 0] := (Blk.drew (Blk.new W0 _ _ rfl)).below hbA (by simp))
            | (go_at_call 11; refine (docOf_as W H _ n c ms W0.drew LL.out hn8 HPM.out).mono ?_; rintro e wA ⟨A6, c6, nb, rfl, hO6, hs6, hbA⟩; have hzA : W0.heap.size ≤ wA.heap.size := hbA.size; have hz3 : w.heap.size < wA.heap.size := Nat.lt_of_lt_of_le hz1 hzA; have hz4 : b < wA.heap.size := Nat.lt_of_lt_of_le hz2 hzA)
            | (go_at_call 21; refine (merge_any W H A6 n c6 k nm nb wA hO6.lays (by rw [hs6]; exact HG.out) (by rw [hs6]; exact HFK.out) HK.out.symm L (by rw [hs6]; exact HLQ.out)).mono ?_; rintro e wM ⟨gm, om, cm, nc, rfl, hOm, hsm, hbM⟩; first | (have kB := kA.below hbM kA.lt; have kc := kB.cell; have kf := kB.free) | skip)
            | (go_at_call 21; refine (merge_any W H A6 n c6 k nm nb (wA.alloc (.cells #[.int .i64 0, .int .i64 0, .slice none 0 0] 33)) (hO6.lays.step (Below.alloc (Below.refl _ _) (Nat.le_refl _) _)) (by rw [hs6]; exact HG.out) (by rw [hs6]; exact HFK.out) HK.out.symm L (by rw [hs6]; exact HLQ.out)).mono ?_; rintro e wM ⟨gm, om, cm, nc, rfl, hOm, hsm, hbM⟩; have kB := (Blk.new wA 33 #[.int .i64 0, .int .i64 0, .slice none 0 0] rfl).below hbM (by simp); have kc := kB.cell; have kf := kB.free))
        all_goals
          have GM := Lib.hid (show Lay.Good W H (lsOf nc) by rw [hsm]; exact good_merged' HG.out HIN.out HLQ.out)
          have QM := Lib.hid (show Lay.flat (lsOf nc) W.toNat H.toNat = L by
            rw [hsm]
            obtain ⟨a1, _⟩ := sideB_true HG.out.wd
            obtain ⟨a3, _⟩ := sideB_true HG.out.hg
            exact flat_merged' (by omega) (by omega) _ _ _ HLQ.out)
          have hgm := (hOm.own.lt gm rfl).1
          have hzM := hbM.size
          first
            | (obtain ⟨W7, hW7⟩ : ∃ W7, W7 = wM.alloc (.cells #[.int .i64 W, .int .i64 H, .slice (some ⟨gm, om, none⟩) 1 cm] 33) := ⟨_, rfl⟩
               rw [← hW7]
               have M7 : Blk W7 wM.heap.size 33 #[.int .i64 W, .int .i64 H, .slice (some ⟨gm, om, none⟩) 1 cm] := by rw [hW7]; exact Blk.new _ _ _ rfl
               have O7 : LaysO W7 wA.heap.size (.slice (some ⟨gm, om, none⟩) 1 cm) nc := by rw [hW7]; exact hOm.alloc _
               have b7 : Below W0.heap.size W0 W7 := by rw [hW7]; exact (((Below.refl W0.heap.size W0).drew.trans hbA).trans (hbM.mono hzA)).alloc (by omega) _)
            | (obtain ⟨W7, hW7⟩ : ∃ W7, W7 = ((wM.setCell ⟨W0.heap.size, 0, none⟩ (.int .i64 W)).setCell ⟨W0.heap.size, 1, none⟩ (.int .i64 H)).setCell ⟨W0.heap.size, 2, none⟩ (.slice (some ⟨gm, om, none⟩) 1 cm) := ⟨_, rfl⟩
               rw [← hW7]
               have M7 : Blk W7 W0.heap.size 33 #[.int .i64 W, .int .i64 H, .slice (some ⟨gm, om, none⟩) 1 cm] := by rw [hW7]; exact (by simpa using ((kB.set_ 0 (.int .i64 W)).set_ 1 (.int .i64 H)).set_ 2 (.slice (some ⟨gm, om, none⟩) 1 cm))
               have O7 : LaysO W7 wA.heap.size (.slice (some ⟨gm, om, none⟩) 1 cm) nc := by
                 rw [hW7]
                 have hS := kA.lt
                 have hoff : ∀ x ∈ nc, OffB W0.heap.size x := fun x hx => OffB.blk (hOm.px x hx) kB
                 have n1 : (Value.slice (some ⟨gm, om, none⟩) 1 cm).ownBlock ≠ some W0.heap.size := by simp [Value.ownBlock]; omega
                 exact ((hOm.farB n1 hoff _).farB n1 hoff _).farB n1 hoff _
               have b7 : Below W0.heap.size W0 W7 := by
                 rw [hW7]
                 exact (((((((Below.refl W0.heap.size W0).alloc (Nat.le_refl _) (.cells #[.int .i64 0, .int .i64 0, .slice none 0 0] 33)).drew.trans (hbA.mono (by simp))).trans (hbM.mono hzA)).setCell (Nat.le_refl _) _).setCell (Nat.le_refl _) _).setCell (Nat.le_refl _) _))
            | (obtain ⟨W7, hW7⟩ : ∃ W7, W7 = ((wM.setCell ⟨wA.heap.size, 0, none⟩ (.int .i64 W)).setCell ⟨wA.heap.size, 1, none⟩ (.int .i64 H)).setCell ⟨wA.heap.size, 2, none⟩ (.slice (some ⟨gm, om, none⟩) 1 cm) := ⟨_, rfl⟩
               rw [← hW7]
               have M7 : Blk W7 wA.heap.size 33 #[.int .i64 W, .int .i64 H, .slice (some ⟨gm, om, none⟩) 1 cm] := by rw [hW7]; exact (by simpa using ((kB.set_ 0 (.int .i64 W)).set_ 1 (.int .i64 H)).set_ 2 (.slice (some ⟨gm, om, none⟩) 1 cm))
               have O7 : LaysO W7 wA.heap.size (.slice (some ⟨gm, om, none⟩) 1 cm) nc := by
                 rw [hW7]
                 simp at hgm
                 have hoff : ∀ x ∈ nc, OffB wA.heap.size x := fun x hx => OffB.blk (hOm.px x hx) kB
                 have n1 : (Value.slice (some ⟨gm, om, none⟩) 1 cm).ownBlock ≠ some wA.heap.size := by simp [Value.ownBlock]; omega
                 exact (((hOm.mono (by simp)).farB n1 hoff _).farB n1 hoff _).farB n1 hoff _
               have b7 : Below W0.heap.size W0 W7 := by
                 rw [hW7]
                 exact ((((((Below.refl W0.heap.size W0).drew.trans hbA).alloc hzA (.cells #[.int .i64 0, .int .i64 0, .slice none 0 0] 33)).trans (hbM.mono (by simp; omega))).setCell hzA _).setCell hzA _).setCell hzA _)
          have hz7 := b7.size
          have P7 := HP0.out.below b7 HP0.out.lt
          have RP7 := (HRP.out.below b7 (Nat.le_refl _)).more hz7
          have hbw7 := HBW.out.trans (b7.mono HBW.out.size)
          have cM := M7.cell
          have L7 := O7.lays
          clear hW7 s0 s1 s2 s3 hOm hbM hbA hO6 hs6 hsm O7 b7
          go_wp2_with fail
          refine (flatten_as W H _ 1 cm nc W7 L7 GM.out L QM.out).mono ?_
          rintro e w8 ⟨Aq, cq, rfl, hOq, hb8⟩
          have P8 := P7.below hb8 P7.lt
          have RP8 := (RP7.below hb8 (Nat.le_refl _)).more hb8.size
          have hbw8 := hbw7.trans (hb8.mono hbw7.size)
          have RQ8 := hOq.reads.2
          have cP := P8.cell
          have lP := P8.lt
          clear hOq hb8 P7 RP7 hbw7 L7 cM M7
          go_wp2_with fail
          obtain ⟨w9, hw9⟩ : ∃ w9, w9 = w8.alloc (.cells #[.int .i64 W, .int .i64 H, .slice Aq L.length cq] 37) := ⟨_, rfl⟩
          have hb9 : Below w8.heap.size w8 w9 := by rw [hw9]; exact (Below.refl _ _).alloc (Nat.le_refl _) _
          have RP9 := (RP8.below hb9 (Nat.le_refl _)).more hb9.size
          have RQ9 := (RQ8.below hb9 (Nat.le_refl _)).more hb9.size
          have hbw9 := hbw8.trans (hb9.mono hbw8.size)
          rw [← hw9]
          clear hw9 hb9 RP8 RQ8 hbw8 P8 cP lP
          refine (samePicture_same W H Ap L.length cp Aq cq L _ RP9 RQ9 hLn).mono ?_
          rintro e w10 ⟨rfl, hb10⟩
          have hbw10 := hbw9.trans (hb10.mono hbw9.size)
          go_wp2_with fail
          go_ret
          exact ⟨rfl, hbw10⟩
    · have h1 : 0 < (ck.1 : Int) := by omega
      obtain ⟨f1, f2⟩ := ck
      simp only at h0 h1
      go_wp2_with fail
      go_ret
      exact ⟨rfl, hbw3⟩
end Go.Proofs.YtfadnkfceggjaaaDoor
