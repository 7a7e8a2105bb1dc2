/- CopyN, Replace, Insert, Move, MoveAll, ReplaceK: put together. -/
import Derived.Test.YtmknacnmdlcieaaGreatDoorDelete
import Derived.Lib.Overlaps
import Derived.Deep.RegionLaw
import Derived.Test.YtmknacnmdlcieaaGreatDoorKCChanges0
import Derived.Laws.Externs
import Derived.IntWalk
import Derived.Deep.Cut
import Derived.Deep.DeepCutAuto
import Derived.Deep.QuietTactic
import Derived.BigQuiet
/- copy, of elements of so many cells; a slice of one's own turned in place. -/
namespace Go.Proofs.YtmknacnmdlcieaaGreatDoor
open Go Go.RowKit

/-- copy, of elements of however many cells: all is read ahead of what is written. -/
theorem run_copy_cells_n {P : Program} (w : World) (dT sT ty elem : TypeId) (i : TypeInfo) (size : Nat) (b o dLen dCap : Nat) (a : Addr) (sLen sCap : Nat) (cs : List Value)
    (hu : P.underlying dT = some (.slice elem)) (hi : P.info? elem = some i) (hs : i.size = size) (hn : cs.length = Nat.min sLen dLen * size)
    (hsrc : ∀ j v, cs[j]? = some v → w.cell? (a.add j) = some v) (hc : ∀ j, j < cs.length → (w.cell? ⟨b, o + j, none⟩).isSome = true) (hf : ∀ j, j < cs.length → w.frozen? ⟨b, o + j, none⟩ = false) (h1 : ∀ v ∈ cs, v.oneCell' = true) :
    (Builtin.copy_ #[dT, sT] ty #[.slice (some ⟨b, o, none⟩) dLen dCap, .slice (some a) sLen sCap]).run P w = .ok (goInt (Nat.min sLen dLen)) (w.setCells b o cs) := by
  have hl := run_loadCells_list (P := P) w a cs hsrc
  have hst := run_storeCells_cells (P := P) b o cs 0 w (by simpa using hc) (by simpa using hf) h1
  subst hs
  simp [Builtin.copy_, run_underlying hu, Builtin.lenOf, Builtin.firstCells, sizeOf, typeInfo, hi, ← hn, hl, hst]

/-- A copy whose run is known, as one operation of a list. -/
theorem wpList_copy_run {P : Program} (w : World) {ops : Array Oper} {rest : List Oper} {o : Oper} {a : Act} {Q : Exit → Act → World → Prop} (hgd : o.guard = none) (d s : Operand) (t t' : TypeId)
    (ho : o.op = .call { callee := .builtin .copy, args := #[d, s], argTypes := #[t, t'] }) (v u : Value) (hd : a.eval d = v) (hs : a.eval s = u) {v' : Value} {w' : World}
    (hr : (Builtin.copy_ #[t, t'] o.type #[v, u]).run P w = .ok v' w') (h : wpList P ops Q rest (a.put o.dst v') w') : wpList P ops Q (o :: rest) a w :=
  wpList_plain hgd fun K hK => by
    unfold Oper.wp execOp
    simp only [ho, resolve, invoke, builtin, Sem.run_bind, Sem.run_pure, Result.andThen_ok, List.map_toArray, List.map_cons, List.map_nil, hd, hs, hr]
    exact hK _ _ h
/-- .. as a step of a region that draws. -/
theorem step_copy_run {P : Program} {ops : Array Oper} {o : Oper} {a : Act} {w : World} {K : Act → World → Prop} {Q : Exit → Act → World → Prop} {E : Prop}
    (hg : o.guard = none) (d x : Operand) (dT sT : TypeId) (hop : o.op = Op.call { callee := Callee.builtin Builtin.copy, args := #[d, x], argTypes := #[dT, sT] })
    (v u : Value) (hd : a.eval d = v) (hx : a.eval x = u) {v' : Value} {w' : World} (hr : (Builtin.copy_ #[dT, sT] o.type #[v, u]).run P w = .ok v' w') (hK : K (a.put o.dst v') w') :
    if Region.wanted o (yielded ops a.tmps) = true then Oper.wp P o a w K Q else E := by
  have hw : Region.wanted o (yielded ops a.tmps) = true := by simp [Region.wanted, hg]
  rw [if_pos hw]
  unfold Oper.wp
  simp [execOp, hop, resolve, invoke, builtin, hd, hx, hr, Result.andThen]
  exact hK

/-- What may be written behind a slice of one's own. -/
theorem Own.room {w : World} {base size n c g off : Nat} {xs : List Value} (h : Own w base size (.slice (some ⟨g, off, none⟩) n c) n xs) : n ≤ c ∧ c ≤ maxLen ∧ (∀ j, j < n * size → w.cell? ⟨g, off + j, none⟩ = xs[j]?) ∧ ∀ j, j < c * size → (w.cell? ⟨g, off + j, none⟩).isSome = true ∧ w.frozen? ⟨g, off + j, none⟩ = false := by
  rcases h.2 with ⟨e, _⟩ | ⟨g', off', cap, e, hb, hg, hn, hm, hx, hf⟩
  · cases e
  · injection e with e1 e2 e3
    injection e1 with e1
    injection e1 with e1 e4
    subst e1; subst e4; subst e3
    exact ⟨hn, hm, hx, hf⟩
/-- A slice of one's own, its cells turned in place. -/
theorem Own.turn {w w' : World} {base size n n' c g off : Nat} {xs ys : List Value} (h : Own w base size (.slice (some ⟨g, off, none⟩) n c) n xs) (hn : n' ≤ c) (hl : ys.length = n' * size) (hs : w'.heap.size = w.heap.size)
    (hx : ∀ j, j < n' * size → w'.cell? ⟨g, off + j, none⟩ = ys[j]?) (ht : ∀ j, j < c * size → (w'.cell? ⟨g, off + j, none⟩).isSome = true) (hf : ∀ a, w'.frozen? a = w.frozen? a) :
    Own w' base size (.slice (some ⟨g, off, none⟩) n' c) n' ys := by
  have hg := h.lt g rfl
  obtain ⟨_, hm, _, hr⟩ := h.room
  exact ⟨hl, .inr ⟨g, off, c, rfl, hg.1, by rw [hs]; exact hg.2, hn, hm, hx, fun j hj => ⟨ht j hj, by rw [hf]; exact (hr j hj).2⟩⟩⟩
/-- A cell of a block into which cells were laid. -/
theorem cell_setCells {w : World} {g o j : Nat} {vs : List Value} (hs : ∀ t, t < vs.length → (w.cell? ⟨g, o + t, none⟩).isSome = true) : (w.setCells g o vs).cell? ⟨g, j, none⟩ = if o ≤ j ∧ j < o + vs.length then vs[j - o]? else w.cell? ⟨g, j, none⟩ := by
  split
  · rename_i h
    have := World.cell?_setCells_in g vs o w hs (j - o) (by omega)
    rw [show o + (j - o) = j by omega] at this
    rw [this, List.getElem?_eq_getElem]
  · rename_i h
    exact World.cell?_setCells_out g vs o w _ (fun _ _ => by show j < o ∨ o + vs.length ≤ j; omega)

/-- One element laid into a slice of one's own that has room: the rest one place on. -/
theorem insert_own {w : World} {base g off n c i size : Nat} {xs vs : List Value} (h : Own w base size (.slice (some ⟨g, off, none⟩) n c) n xs) (hi : i ≤ n) (hc : n + 1 ≤ c) (hv : vs.length = size) :
    Own ((w.setCells g (off + (i + 1) * size) (xs.drop (i * size))).setCells g (off + i * size) vs) base size (.slice (some ⟨g, off, none⟩) (n + 1) c) (n + 1) (xs.take (i * size) ++ vs ++ xs.drop (i * size)) := by
  obtain ⟨_, _, hx, ht⟩ := h.room
  have hin : i * size ≤ n * size := Nat.mul_le_mul_right _ hi
  have e1 : (i + 1) * size = i * size + size := by rw [Nat.add_mul, Nat.one_mul]
  have e2 : (n + 1) * size = n * size + size := by rw [Nat.add_mul, Nat.one_mul]
  have hcn : n * size + size ≤ c * size := by rw [← e2]; exact Nat.mul_le_mul_right _ hc
  have hd : (xs.drop (i * size)).length = n * size - i * size := by rw [List.length_drop, h.1]
  have htk : (xs.take (i * size)).length = i * size := by rw [List.length_take, h.1]; omega
  have s1 : ∀ t, t < (xs.drop (i * size)).length → (w.cell? ⟨g, off + (i + 1) * size + t, none⟩).isSome = true := fun t h' => by
    rw [Nat.add_assoc]
    exact (ht _ (by rw [e1]; omega)).1
  have s2 : ∀ j, j < c * size → ((w.setCells g (off + (i + 1) * size) (xs.drop (i * size))).cell? ⟨g, off + j, none⟩).isSome = true := fun j hj => World.isSome_setCells _ _ _ _ _ (ht j hj).1
  refine h.turn hc ?_ (by rw [size_setCells, size_setCells]) (fun j hj => ?_) (fun j hj => World.isSome_setCells _ _ _ _ _ (s2 j hj)) (fun a => by rw [World.frozen?_setCells, World.frozen?_setCells])
  · rw [List.length_append, List.length_append, htk, hd, hv, e2]
    omega
  · rw [e2] at hj
    rw [cell_setCells (fun t h' => by rw [Nat.add_assoc]; exact s2 _ (by omega)), cell_setCells s1, e1]
    by_cases h1 : j < i * size
    · rw [if_neg (by omega), if_neg (by omega), hx j (by omega), List.append_assoc, List.getElem?_append_left (by omega), List.getElem?_take, if_pos h1]
    · by_cases h2 : j < i * size + size
      · rw [if_pos (by omega), List.append_assoc, List.getElem?_append_right (by omega), List.getElem?_append_left (by omega), htk]
        congr 1
        omega
      · rw [if_neg (by omega), if_pos (by omega), List.getElem?_append_right (by rw [List.length_append]; omega), List.length_append, htk, hv]
        congr 1
        omega
end Go.Proofs.YtmknacnmdlcieaaGreatDoor
/- slices.Replace at layers, all of them by one. -/
namespace Go.Proofs.YtmknacnmdlcieaaGreatDoor
open Go Go.RowKit

/-- append where there is room, as one operation of a list. -/
theorem wpList_append_room_src {P : Program} {w : World} {ops : Array Oper} {rest : List Oper} {o : Oper} {a : Act} {Q : Exit → Act → World → Prop} (hgd : o.guard = none) (s x : Operand) (t tx : TypeId)
    (ho : o.op = .call { callee := .builtin .append, args := #[s, x], argTypes := #[t, tx] }) (e : TypeId) (i : TypeInfo) (size : Nat) (ht : P.underlying t = some (.slice e)) (hi : P.info? e = some i) (hsize : i.size = size)
    (b off n cap : Nat) (hs : a.eval s = .slice (some ⟨b, off, none⟩) n cap) (m : Nat) (news : List Value) (hr : Src P size tx (a.eval x) m news w) (hroom : n + m ≤ cap)
    (hth : ∀ j, j < news.length → (w.cell? ⟨b, off + n * size + j, none⟩).isSome = true ∧ w.frozen? ⟨b, off + n * size + j, none⟩ = false)
    (h : wpList P ops Q rest (a.put o.dst (.slice (some ⟨b, off, none⟩) (n + m) cap)) (w.setCells b (off + n * size) news)) : wpList P ops Q (o :: rest) a w :=
  wpList_plain hgd fun K hK => by
    subst hsize
    have hrun := run_append_room_src (P := P) w t tx o.type e i ht hi b off n cap _ m news hr hroom (fun j hj => (hth j hj).1) (fun j hj => (hth j hj).2)
    unfold Oper.wp execOp
    simp only [ho, resolve, invoke, builtin, Sem.run_bind, Sem.run_pure, Result.andThen_ok, List.map_toArray, List.map_cons, List.map_nil, hs, hrun]
    exact hK _ _ h

theorem replace_end {w W1 : World} {base g off n c : Nat} {ms : List LM} {m : LM} (hO : LaysO w base (.slice (some ⟨g, off, none⟩) n c) ms) (hn : n = ms.length) (h0 : 0 < n) (hm : Reads w w.heap.size 4 m.A m.n (pxCells m.l.ps)) (hoff : OffAt m.A m.n (.slice (some ⟨g, off, none⟩) n c))
    (hW : W1 = w.setCells g off (layCs m)) (ys : List Value) (hy : ys.length ≤ (n - 1) * 9) : LaysO (W1.setCells g (off + 9) ys) base (.slice (some ⟨g, off, none⟩) 1 c) [m] ∧ w.grownBy (W1.setCells g (off + 9) ys) (some g) := by
  subst hn
  have hnc : ms.length ≤ c := by
    obtain ⟨_, _, e, h, _⟩ := hO.own.form
    injection e with _ _ e3
    omega
  have h1 : w.grownBy W1 (some g) := by rw [hW]; exact grown_setCells w g _ _
  have h2 := h1.trans (grown_setCells W1 g (off + 9) ys)
  have ho := hO.own.splice 0 1 (by omega) (by omega) (layCs m) rfl
  rw [Nat.zero_mul, Nat.add_zero, List.take_zero, List.nil_append, Nat.zero_add, ← hW] at ho
  have h3 := ho.clearTail (ms.length - 1) (by omega) hy
  rw [Nat.one_mul] at h3
  refine ⟨⟨by rw [layCells_single]; exact h3, fun x hx => ?_, fun x hx => ?_⟩, h2⟩
  · rw [List.mem_singleton.1 hx]
    exact hm.keepAt h2.size fun b o e hb hn => h2.block b hb (fun e2 => hoff b o e (by omega) (by simpa [Value.ownBlock] using e2.symm))
  · rw [List.mem_singleton.1 hx]
    exact fun b o e hn => hoff b o e hn

theorem nine_lt {n c j : Nat} (h : j < (n - 1) * (Value.agg #[.string ⟨#[]⟩, .int .i64 0, .int .i64 0, .bool false, .int .i64 0, .int .i64 0, .int .i64 0, .int .i64 0, .slice none 0 0]).cells.size) (hc : n ≤ c) : 9 + j < c * 9 := by
  have e : (Value.agg #[.string ⟨#[]⟩, .int .i64 0, .int .i64 0, .bool false, .int .i64 0, .int .i64 0, .int .i64 0, .int .i64 0, .slice none 0 0]).cells.size = 9 := rfl
  rw [e] at h
  omega
set_option maxRecDepth 100000 in
set_option maxHeartbeats 2000000 in
theorem replace_all (base g off n c gv cv : Nat) (ms : List LM) (m : LM) (w : World) (hO : LaysO w base (.slice (some ⟨g, off, none⟩) n c) ms) (hn0 : 0 < n) (hn : n ≤ 4096) (hm : Reads w w.heap.size 4 m.A m.n (pxCells m.l.ps))
    (hoff : OffAt m.A m.n (.slice (some ⟨g, off, none⟩) n c)) (hv : Blk w gv 45 (layCs m).toArray) :
    Calls Tryz.prog 43 #[.slice (some ⟨g, off, none⟩) n c, .int .i64 0, .int .i64 n, .slice (some ⟨gv, 0, none⟩) 1 cv] w
      fun e w' => e = .returned (.slice (some ⟨g, off, none⟩) 1 c) ∧ LaysO w' base (.slice (some ⟨g, off, none⟩) 1 c) [m] ∧ w.grownBy w' (some g) := by
  obtain ⟨i0, hi, hz0, hz1, hz2⟩ := info_parts layInfo
  have hnl := hO.lays.len
  have hnc : n ≤ c := by
    obtain ⟨_, _, e, h, _⟩ := hO.own.form
    injection e with _ _ e3
    omega
  have hcm : c ≤ 9223372036854775807 := by
    rcases hO.own.2 with ⟨e, _⟩ | ⟨_, _, _, e, _, _, _, h, _⟩
    · cases e
    · injection e with _ _ e3
      unfold maxLen at h
      omega
  have hthere : ∀ j, j < c * 9 → (w.cell? ⟨g, off + j, none⟩).isSome = true ∧ w.frozen? ⟨g, off + j, none⟩ = false := by
    rcases hO.own.2 with ⟨e, _⟩ | ⟨_, _, _, e, _, _, _, _, _, h⟩
    · cases e
    · injection e with e1 e2 e3
      injection e1 with e1
      injection e1 with e1 e4
      subst e1; subst e4; subst e3
      exact h
  have HT := Lib.hid hthere
  have HO := Lib.hid hO
  have HNL := Lib.hid hnl
  have HM := Lib.hid hm
  have HOFF := Lib.hid hoff
  have HV := Lib.hid hv
  clear hthere hO hnl hm hoff hv
  have e1 : ((0 : Int) == (n : Int)) = false := by rw [beq_eq_false_iff_ne]; omega
  have d1 : ¬ c = 0 := by omega
  have z2 : (0 : Int) ≤ (n : Int) := by omega
  have z4 : (n : Int) ≤ c := by omega
  by_cases h1 : n = 1
  · subst h1
    go_enter Tryz.func43, Tryz.ntmps43
    go_wp2_with (at_builtin; refine wpList_append_room_src rfl (.tmp 32) (.tmp 33) 37 37 rfl 45 i0 9 Tryz.underlying37 hi hz1 g off 0 c rfl 1 (layCs m) (Src.blk Tryz.underlying37 HV.out rfl (by intro u hu; exact layCells_one [m] u (by rw [layCells_single]; exact hu))) (by omega) (fun j hj => by have := HT.out j (by have : (layCs m).length = 9 := rfl; omega); simpa using this) ?_; obtain ⟨W1, hW1⟩ : ∃ W1, W1 = w.setCells g (off + 0 * 9) (layCs m) := ⟨_, rfl⟩; rw [← hW1]; have HW1 := Lib.hid hW1; clear hW1)
    go_ret
    have h := replace_end HO.out HNL.out (by omega) HM.out HOFF.out (W1 := W1) (by rw [HW1.out, Nat.zero_mul, Nat.add_zero]) [] (by simp)
    exact ⟨rfl, h.1, h.2⟩
  · have h2 : 1 < n := by omega
    have h2' : (1 : Int) < (n : Int) := by omega
    go_enter Tryz.func43, Tryz.ntmps43
    go_wp2_with (at_builtin; refine wpList_append_room_src rfl (.tmp 32) (.tmp 33) 37 37 rfl 45 i0 9 Tryz.underlying37 hi hz1 g off 0 c rfl 1 (layCs m) (Src.blk Tryz.underlying37 HV.out rfl (by intro u hu; exact layCells_one [m] u (by rw [layCells_single]; exact hu))) (by omega) (fun j hj => by have := HT.out j (by have : (layCs m).length = 9 := rfl; omega); simpa using this) ?_; obtain ⟨W1, hW1⟩ : ∃ W1, W1 = w.setCells g (off + 0 * 9) (layCs m) := ⟨_, rfl⟩; have hth : ∀ j, j < c * 9 → (W1.cell? ⟨g, off + j, none⟩).isSome = true ∧ W1.frozen? ⟨g, off + j, none⟩ = false := (fun j hj => by rw [hW1]; exact ⟨World.isSome_setCells _ _ _ _ _ (HT.out j hj).1, by rw [World.frozen?_setCells]; exact (HT.out j hj).2⟩); have hcl : ∀ ty, (Builtin.clear_ #[37] ty #[.slice (some ⟨g, off + 9, none⟩) (n - 1) (c - 1)]).run Tryz.prog W1 = .ok (.tuple #[]) (W1.setCells g (off + 9) (Builtin.zeroCells (Value.agg #[.string ⟨#[]⟩, .int .i64 0, .int .i64 0, .bool false, .int .i64 0, .int .i64 0, .int .i64 0, .int .i64 0, .slice none 0 0]).cells (n - 1)).toList) := (fun ty => run_clear_cells W1 _ _ ty _ Tryz.underlying37 layZero layZero1 (by decide) g (off + 9) (n - 1) (c - 1) (by omega) (fun j hj => by have := (hth (9 + j) (nine_lt hj hnc)).1; rwa [← Nat.add_assoc] at this) (fun j hj => by have := (hth (9 + j) (nine_lt hj hnc)).2; rwa [← Nat.add_assoc] at this)); rw [← hW1]; have HW1 := Lib.hid hW1; clear hW1 hth)
    go_ret
    have h := replace_end HO.out HNL.out (by omega) HM.out HOFF.out (W1 := W1) (by rw [HW1.out, Nat.zero_mul, Nat.add_zero]) (Builtin.zeroCells (Value.agg #[.string ⟨#[]⟩, .int .i64 0, .int .i64 0, .bool false, .int .i64 0, .int .i64 0, .int .i64 0, .int .i64 0, .slice none 0 0]).cells (n - 1)).toList (by rw [Array.length_toList, size_zeroCells]; simp [Value.cells])
    exact ⟨rfl, h.1, h.2⟩
end Go.Proofs.YtmknacnmdlcieaaGreatDoor
/- slices.Insert at layers: one layer more, in place. -/
namespace Go.Proofs.YtmknacnmdlcieaaGreatDoor
open Go Go.RowKit

/-- Layers in a slice that was turned in place: the old ones, and one more. -/
theorem LaysO.turned {w w' : World} {base g off n n' c : Nat} {ms xs : List LM} {m : LM} (hO : LaysO w base (.slice (some ⟨g, off, none⟩) n c) ms) (hm : Reads w w.heap.size 4 m.A m.n (pxCells m.l.ps)) (hoff : OffAt m.A m.n (.slice (some ⟨g, off, none⟩) n c))
    (ho : Own w' base 9 (.slice (some ⟨g, off, none⟩) n' c) xs.length (layCells xs)) (hg : w.grownBy w' (some g)) (hs : ∀ x ∈ xs, x = m ∨ x ∈ ms) : LaysO w' base (.slice (some ⟨g, off, none⟩) n' c) xs := by
  refine ⟨ho, fun x hx => ?_, fun x hx b o e hn => ?_⟩
  · rcases hs x hx with rfl | h
    · exact hm.keepAt hg.size fun b o e hb hn => hg.block b hb (fun e2 => hoff b o e (by omega) (by simpa [Value.ownBlock] using e2.symm))
    · exact (hO.px x h).keepAt hg.size fun b o e hb hn => hg.block b hb (fun e2 => hO.off x h b o e (by omega) (by simpa [Value.ownBlock] using e2.symm))
  · rcases hs x hx with rfl | h
    · exact hoff b o e hn
    · exact hO.off x h b o e hn
/-- A block of which a cell is there is a row that has cells. -/
theorem shape_of {w : World} {g o : Nat} {u : Value} (h : w.cell? ⟨g, o, none⟩ = some u) : ∃ t k, w.shape? g = some (t, k) ∧ k ≠ 0 := by
  unfold World.cell? at h
  unfold World.shape?
  simp only at h ⊢
  split at h
  · rename_i c t f hh
    simp at h
    obtain ⟨h1, _⟩ := Array.getElem?_eq_some_iff.1 h
    exact ⟨t, c.size, rfl, by omega⟩
  · cases h
theorem Blk.shape {w : World} {g t : Nat} {cs : Array Value} (h : Blk w g t cs) : w.shape? g = some (t, cs.size) := by
  unfold World.shape?
  rw [show w.heap[g]? = _ from h]

theorem layInfo9 : (Tryz.prog.info? 45).map (fun i => (i.zero, i.size, i.bytes)) = some (some (.agg #[.string ⟨#[]⟩, .int .i64 0, .int .i64 0, .bool false, .int .i64 0, .int .i64 0, .int .i64 0, .int .i64 0, .slice none 0 0]), 9, 96) := layInfo
theorem laySize (w : World) : (Go.sizeOf 45).run Tryz.prog w = .ok 9 w := by kernel_rfl
/-- Two slices in two blocks do not overlap. -/
theorem overlaps_no (w : World) (gv cv g off o lb cb : Nat) (cs : Array Value) (u : Value) (hv : Blk w gv 45 cs) (hg : w.cell? ⟨g, o, none⟩ = some u) (hne : gv ≠ g) :
    (callFunc 54 #[.slice (some ⟨gv, 0, none⟩) 1 cv, .slice (some ⟨g, off, none⟩) lb cb]).run Tryz.prog w = .ok (.value (.bool false)) w := by
  obtain ⟨t, k, hs, hk⟩ := shape_of hg
  rw [run_callFunc_extern Tryz.func54 (by kernel_rfl) (by kernel_rfl) (by kernel_rfl) (e := Extern.SlicesOverlaps.overlaps #[37, 37] #[4]) (by kernel_rfl),
    Lib.run_overlaps_apart w 37 4 45 Tryz.underlying37 9 laySize ⟨gv, 0, none⟩ ⟨g, off, none⟩ 1 cv lb cb hne _ _ _ _ hv.shape hs hk (hv.free 0) (hv.free _)]
  rfl

set_option maxRecDepth 100000 in
set_option maxHeartbeats 4000000 in
theorem insert_any (base g off n c i gv cv : Nat) (ms : List LM) (m : LM) (w : World) (hO : LaysO w base (.slice (some ⟨g, off, none⟩) n c) ms) (hi : i ≤ n) (hc : n + 1 ≤ c) (hn : n ≤ 4096) (hm : Reads w w.heap.size 4 m.A m.n (pxCells m.l.ps))
    (hoff : OffAt m.A m.n (.slice (some ⟨g, off, none⟩) n c)) (hv : Blk w gv 45 (layCs m).toArray) (hvg : gv ≠ g) :
    Calls Tryz.prog 41 #[.slice (some ⟨g, off, none⟩) n c, .int .i64 i, .slice (some ⟨gv, 0, none⟩) 1 cv] w
      fun e w' => e = .returned (.slice (some ⟨g, off, none⟩) (n + 1) c) ∧ LaysO w' base (.slice (some ⟨g, off, none⟩) (n + 1) c) (ms.take i ++ [m] ++ ms.drop i) ∧ w.grownBy w' (some g) := by
  obtain ⟨i0, hi', hz0, hz1, hz2⟩ := info_parts layInfo
  have hnl := hO.lays.len
  have hO1 := hO.own
  rw [← hnl] at hO1
  obtain ⟨_, hcm, hx, ht⟩ := hO1.room
  unfold maxLen at hcm
  have hmem : ∀ x ∈ ms.take i ++ [m] ++ ms.drop i, x = m ∨ x ∈ ms := fun x hx => by
    rcases List.mem_append.1 hx with h | h
    · rcases List.mem_append.1 h with h | h
      · exact .inr (List.mem_of_mem_take h)
      · exact .inl (List.mem_singleton.1 h)
    · exact .inr (List.mem_of_mem_drop h)
  have hlen : (ms.take i ++ [m] ++ ms.drop i).length = n + 1 := by rw [List.length_append, List.length_append, List.length_take, List.length_drop]; simp; omega
  have hcells : layCells (ms.take i ++ [m] ++ ms.drop i) = (layCells ms).take (i * 9) ++ layCs m ++ (layCells ms).drop (i * 9) := by
    rw [layCells_append, layCells_append, layCells_single, layCells_take ms i (by omega), layCells_drop ms i (by omega)]
  have fin : ∀ w', Own w' base 9 (.slice (some ⟨g, off, none⟩) (n + 1) c) (n + 1) ((layCells ms).take (i * 9) ++ layCs m ++ (layCells ms).drop (i * 9)) → w.grownBy w' (some g) → LaysO w' base (.slice (some ⟨g, off, none⟩) (n + 1) c) (ms.take i ++ [m] ++ ms.drop i) := fun w' ho hg =>
    hO.turned hm hoff (by rw [hlen, hcells]; exact ho) hg hmem
  have HFIN := Lib.hid fin
  have HT := Lib.hid ht
  have HX := Lib.hid hx
  have HO1 := Lib.hid hO1
  have HV := Lib.hid hv
  have HNL := Lib.hid hnl
  clear fin ht hx hO1 hlen hcells hmem hO hm hoff hv hnl
  have z1 : (0 : Int) ≤ (i : Int) := by omega
  have z2 : (i : Int) ≤ n := by omega
  have z3 : (i : Int) ≤ c := by omega
  have d1 : ¬ c = i := by omega
  have z4 : (n : Int) + 1 ≤ c := by omega
  by_cases hin : i = n
  · subst hin
    go_enter Tryz.func41, Tryz.ntmps41
    go_wp2_with (at_builtin; refine wpList_append_room_src rfl (.tmp 23) (.tmp 24) 37 37 rfl 45 i0 9 Tryz.underlying37 hi' hz1 g off i c rfl 1 (layCs m) (Src.blk Tryz.underlying37 HV.out rfl (by intro u hu; exact layCells_one [m] u (by rw [layCells_single]; exact hu))) (by omega) (fun j hj => by have := HT.out (i * 9 + j) (by have : (layCs m).length = 9 := rfl; omega); rwa [← Nat.add_assoc] at this) ?_)
    go_ret
    refine ⟨rfl, HFIN.out _ ?_ (grown_setCells w g _ _), grown_setCells w g _ _⟩
    have h := HO1.out.splice i 1 (Nat.le_refl _) (by omega) (layCs m) rfl
    rw [List.drop_eq_nil_of_le (by rw [layCells_length, HNL.out]; exact Nat.le_refl _), List.append_nil]
    exact h
  · have h2 : ¬ ((i : Int) = (n : Int)) := by omega
    have h3 : i < n := by omega
    have h4 : (i : Int) < (n : Int) := by omega
    have d2 : ¬ c = i + 1 := by omega
    have z5 : (i : Int) + 1 ≤ (n : Int) + 1 := by omega
    have z6 : (0 : Int) ≤ (i : Int) + 1 := by omega
    have z8 : (i : Int) ≤ (n : Int) + 1 := by omega
    have zw : IntKind.i64.wrap ((i : Int) + 1) = (i : Int) + 1 := IntWalk.i64_in _ (by omega)
    have zt : ((i : Int) + 1).toNat = i + 1 := by omega
    have hc0 : (w.cell? ⟨g, off + 0, none⟩).isSome = true := (HT.out 0 (by omega)).1
    obtain ⟨u0, hu0⟩ := Option.isSome_iff_exists.1 hc0
    have HU := Lib.hid hu0
    clear hc0 hu0
    have hov : ∀ lb cb, (callFunc 54 #[.slice (some ⟨gv, 0, none⟩) 1 cv, .slice (some ⟨g, off + (i + 1) * 9, none⟩) lb cb]).run Tryz.prog w = .ok (.value (.bool false)) w := fun lb cb => overlaps_no w gv cv g _ _ lb cb _ u0 HV.out HU.out hvg
    have hdl : ((layCells ms).drop (i * 9)).length = (n - i) * 9 := by rw [List.length_drop, layCells_length, ← HNL.out]; omega
    have hcp1 : ∀ ty dl dc sl sc, Nat.min sl dl = n - i → (Builtin.copy_ #[37, 37] ty #[.slice (some ⟨g, off + (i + 1) * 9, none⟩) dl dc, .slice (some ⟨g, off + i * 9, none⟩) sl sc]).run Tryz.prog w.drew = .ok (goInt (Nat.min sl dl)) (w.drew.setCells g (off + (i + 1) * 9) ((layCells ms).drop (i * 9))) := fun ty dl dc sl sc hmin =>
      run_copy_cells_n w.drew _ _ ty 45 i0 9 g (off + (i + 1) * 9) dl dc ⟨g, off + i * 9, none⟩ sl sc _ Tryz.underlying37 hi' hz1 (by rw [hmin]; exact hdl)
        (fun j v hj => by
          rw [List.getElem?_drop] at hj
          rw [add_lit, Nat.add_assoc]
          have hl := (List.getElem?_eq_some_iff.1 hj).1
          rw [layCells_length, ← HNL.out] at hl
          exact (HX.out _ hl).trans hj)
        (fun j hj => by rw [Nat.add_assoc]; exact (HT.out _ (by omega)).1) (fun j hj => by rw [Nat.add_assoc]; exact (HT.out _ (by omega)).2) (fun v hv => layCells_one _ v (List.mem_of_mem_drop hv))
    obtain ⟨W1, hW1⟩ : ∃ W1, W1 = w.drew.setCells g (off + (i + 1) * 9) ((layCells ms).drop (i * 9)) := ⟨_, rfl⟩
    have g1 : w.grownBy W1 (some g) := by rw [hW1]; have hx := grown_setCells w.drew g (off + (i + 1) * 9) ((layCells ms).drop (i * 9)); exact ⟨hx.os, hx.tape, hx.output, hx.size, hx.block⟩
    have hV1 : Blk W1 gv 45 (layCs m).toArray := HV.out.grown g1 (by simpa using hvg)
    have hs1 : ∀ j, j < c * 9 → (W1.cell? ⟨g, off + j, none⟩).isSome = true ∧ W1.frozen? ⟨g, off + j, none⟩ = false := fun j hj => by
      rw [hW1]
      exact ⟨World.isSome_setCells _ _ _ _ _ (HT.out j hj).1, by rw [World.frozen?_setCells]; exact (HT.out j hj).2⟩
    have hcp2 : ∀ ty dl dc, 1 ≤ dl → (Builtin.copy_ #[37, 37] ty #[.slice (some ⟨g, off + i * 9, none⟩) dl dc, .slice (some ⟨gv, 0, none⟩) 1 cv]).run Tryz.prog W1 = .ok (goInt (Nat.min 1 dl)) (W1.setCells g (off + i * 9) (layCs m)) := fun ty dl dc hdl1 =>
      run_copy_cells_n W1 _ _ ty 45 i0 9 g (off + i * 9) dl dc ⟨gv, 0, none⟩ 1 cv (layCs m) Tryz.underlying37 hi' hz1 (by have : Nat.min 1 dl = 1 := Nat.min_eq_left hdl1; rw [this]; rfl)
        (fun j v hj => by rw [add_lit, hV1.cell, Nat.zero_add]; simpa using hj)
        (fun j hj => by have : (layCs m).length = 9 := rfl; rw [Nat.add_assoc]; exact (hs1 _ (by omega)).1) (fun j hj => by have : (layCs m).length = 9 := rfl; rw [Nat.add_assoc]; exact (hs1 _ (by omega)).2) (by intro u hu; exact layCells_one [m] u (by rw [layCells_single]; exact hu))
    have HC1 := Lib.hid hcp1
    have HC2 := Lib.hid hcp2
    have HOW := Lib.hid (show Own (W1.setCells g (off + i * 9) (layCs m)) base 9 (.slice (some ⟨g, off, none⟩) (n + 1) c) (n + 1) ((layCells ms).take (i * 9) ++ layCs m ++ (layCells ms).drop (i * 9)) by
      rw [hW1]; exact insert_own HO1.out.drew hi hc rfl)
    have HG := Lib.hid (g1.trans (grown_setCells W1 g (off + i * 9) (layCs m)))
    have HW1 := Lib.hid hW1
    have hmin : Nat.min (n + 1 - i) (n - i) = n - i := Nat.min_eq_right (by omega)
    have HMIN := Lib.hid hmin
    clear hmin
    clear hcp1 hcp2 g1 hV1 hs1 hdl hW1
    go_enter Tryz.func41, Tryz.ntmps41
    go_wp2_with (simp only [hov])
    go_region_law
      ((refine step_copy_run rfl (.tmp 73) (.tmp 76) 37 37 rfl (.slice (some ⟨g, off + (i + 1) * 9, none⟩) (n - i) (c - (i + 1))) (.slice (some ⟨g, off + i * 9, none⟩) (n + 1 - i) (c - i)) (by simp [Act.eval, Act.put]) (by simp [Act.eval, Act.put]) (HC1.out _ _ _ _ _ HMIN.out) ?_))
    rw [← HW1.out]
    go_wp2_with (with_reducible refine wpList_copy_run _ rfl (.tmp 80) (.tmp 81) 37 37 rfl (.slice (some ⟨g, off + i * 9, none⟩) (n + 1 - i) (c - i)) (.slice (some ⟨gv, 0, none⟩) 1 cv) rfl rfl (HC2.out _ _ _ (by omega)) ?_)
    go_ret
    exact ⟨rfl, HFIN.out _ HOW.out HG.out, HG.out⟩
end Go.Proofs.YtmknacnmdlcieaaGreatDoor
/- Move's closure; Move: the walks. Printed by mkmove.py. -/
namespace Go.Proofs.YtmknacnmdlcieaaGreatDoor
open Go Go.RowKit

theorem LaysO.drew {w : World} {base : Nat} {v : Value} {ms : List LM} (h : LaysO w base v ms) : LaysO w.drew base v ms := h.drewN 1
/-- Behind Delete and Insert. -/
structure MvR (W H : Int) (base g off c k m : Nat) (w : World) (L : List Lay.Layer) (wx : World) : Prop where
  d : Blk wx w.heap.size 39 #[.int .i64 W, .int .i64 H, .slice (some ⟨g, off, none⟩) (k + m + 1) c]
  r : Blk wx (w.heap.size + 1) 39 #[.int .i64 0, .int .i64 0, .slice none 0 0]
  own : ∃ ns, LaysO wx base (.slice (some ⟨g, off, none⟩) (k + m + 1) c) ns ∧ ns.length = k + m + 1 ∧ lsOf ns = L ∧ ∀ G, w.heap.size ≤ G → ∀ y ∈ ns, OffB G y
  bel : Below base w wx
  lt : base ≤ g ∧ g < w.heap.size
theorem MvR.fin {W H : Int} {base g off c k m : Nat} {w : World} {L : List Lay.Layer} {wx : World} (h : MvR W H base g off c k m w L wx) (hB : base ≤ w.heap.size) (a b u : Value) :
    DocNew W H base L w (.returned (.tuple #[.agg #[.int .i64 W, .int .i64 H, .slice (some ⟨g, off, none⟩) (k + m + 1) c], .nilIface])) (((wx.setCell ⟨w.heap.size + 1, 0, none⟩ a).setCell ⟨w.heap.size + 1, 1, none⟩ b).setCell ⟨w.heap.size + 1, 2, none⟩ u) := by
  obtain ⟨ns, hO, hl, hs, hoff⟩ := h.own
  have hlt := h.lt
  have n1 : (Value.slice (some ⟨g, off, none⟩) (k + m + 1) c).ownBlock ≠ some (w.heap.size + 1) := by simp [Value.ownBlock]; omega
  have o1 := hoff (w.heap.size + 1) (by omega)
  refine ⟨some ⟨g, off, none⟩, c, ns, by rw [hl], ?_, hs, ?_⟩
  · rw [hl]
    exact ((hO.farB (p := ⟨w.heap.size + 1, 0, none⟩) n1 o1 _).farB (p := ⟨w.heap.size + 1, 1, none⟩) n1 o1 _).farB (p := ⟨w.heap.size + 1, 2, none⟩) n1 o1 _
  · exact ((h.bel.setCell (by show base ≤ w.heap.size + 1; omega) _).setCell (by show base ≤ w.heap.size + 1; omega) _).setCell (by show base ≤ w.heap.size + 1; omega) _
/-- A cell beside the one block that was turned. -/
theorem keepG {w w' : World} {g : Nat} (h : w.grownBy w' (some g)) {p : Addr} {u : Value} (hp : p.block ≠ g) (hc : w.cell? p = some u) : w'.cell? p = some u :=
  (h.cell_far p (cell_lt hc) (fun e => by injection e with e; exact hp e)).trans hc
set_option maxRecDepth 100000 in
set_option maxHeartbeats 4000000 in
theorem move1_good (W H : Int) (base g off c k m tt tb : Nat) (ms : List LM) (x : LM) (w : World) (hO : LaysO w base (.slice (some ⟨g, off, none⟩) (k + 1 + m) c) ms) (hx : ms[k]? = some x) (hn : k + 1 + m ≤ 4096) (hB : base ≤ w.heap.size) (ht : tt < k + 1 + m) (hs : w.cell? ⟨tb, 0, none⟩ = some (.int .i64 tt)) (htg : tb ≠ g) :
    Calls Tryz.prog 40 #[.agg #[.int .i64 W, .int .i64 H, .slice (some ⟨g, off, none⟩) (k + 1 + m) c], .int .i64 k, .pointer (some ⟨tb, 0, none⟩)] w
      (DocNew W H base (movedL (lsOf ms) k tt x.l) w) := by
  have hg := hO.own.lt g rfl
  have hlen := hO.lays.len
  have hkl : k < ms.length := by omega
  obtain rfl : ms[k] = x := by rw [List.getElem?_eq_getElem hkl] at hx; exact Option.some.inj hx
  have hroom : k + m + 1 ≤ c ∧ c ≤ 9223372036854775807 := by
    have h := hO.own
    rw [← hlen] at h
    obtain ⟨h1, h2, _⟩ := h.room
    unfold maxLen at h2
    omega
  have q0 := (hO.cell k hkl 0 (by omega)).1
  have q1 := (hO.cell k hkl 1 (by omega)).1
  have q2 := (hO.cell k hkl 2 (by omega)).1
  have q3 := (hO.cell k hkl 3 (by omega)).1
  have q4 := (hO.cell k hkl 4 (by omega)).1
  have q5 := (hO.cell k hkl 5 (by omega)).1
  have q6 := (hO.cell k hkl 6 (by omega)).1
  have q7 := (hO.cell k hkl 7 (by omega)).1
  have q8 := (hO.cell k hkl 8 (by omega)).1
  have hpx := hO.px ms[k] (List.getElem_mem hkl)
  have hxo : OffAt ms[k].A ms[k].n (.slice (some ⟨g, off, none⟩) (k + m) c) := hO.off ms[k] (List.getElem_mem hkl)
  have HMV := Lib.hid (fun es (h : lsOf es = (lsOf ms).eraseIdx k) => lsOf_moved es ms[k] (lsOf ms) k tt h)
  have HOB := Lib.hid (fun (b : Nat) (hb : w.heap.size ≤ b) => OffB.lt hpx hb)
  have HPX := Lib.hid hpx
  have HXO := Lib.hid hxo
  obtain ⟨x, hxe⟩ : ∃ x, x = ms[k] := ⟨_, rfl⟩
  rw [← hxe] at q0 q1 q2 q3 q4 q5 q6 q7 q8 HPX HXO HMV HOB ⊢
  simp only [layCs, List.getElem?_cons_zero, List.getElem?_cons_succ] at q0 q1 q2 q3 q4 q5 q6 q7 q8
  rw [Nat.add_zero] at q0
  have HO := Lib.hid hO
  have HLN := Lib.hid (show ((ms.eraseIdx k).take tt ++ [x] ++ (ms.eraseIdx k).drop tt).length = k + m + 1 by
    rw [List.length_append, List.length_append, List.length_take, List.length_drop, List.length_eraseIdx_of_lt hkl, List.length_singleton]; omega)
  have HOF := Lib.hid (fun (G : Nat) (hG : w.heap.size ≤ G) => (show ∀ y ∈ (ms.eraseIdx k).take tt ++ [x] ++ (ms.eraseIdx k).drop tt, OffB G y from fun y hy => by
    rcases List.mem_append.1 hy with h | h
    · rcases List.mem_append.1 h with h | h
      · exact OffB.lt (hO.px y (List.mem_of_mem_eraseIdx (List.mem_of_mem_take h))) hG
      · rw [List.mem_singleton.1 h]; exact HOB.out G hG
    · exact OffB.lt (hO.px y (List.mem_of_mem_eraseIdx (List.mem_of_mem_drop h))) hG))
  have HN1 := Lib.hid (fun (G : Nat) (hG : w.heap.size ≤ G) => (show (Value.slice (some ⟨g, off, none⟩) (k + m + 1) c).ownBlock ≠ some G from by simp [Value.ownBlock]; omega))
  have tl := cell_lt hs
  simp only at tl
  clear hx hxe hpx hxo hlen hkl hO
  obtain ⟨hr1, hr2⟩ := hroom
  have z0 : (0 : Int) ≤ (k : Int) := by omega
  have z1 : (k : Int) < (k : Int) + 1 + m := by omega
  have z2 : (0 : Int) ≤ (tt : Int) := by omega
  have z3 : (tt : Int) < (k : Int) + 1 + m := by omega
  have z4 : ¬ ((k : Int) + 1 + m ≤ (tt : Int)) := by omega
  have zw : IntKind.i64.wrap ((k : Int) + 1) = (k : Int) + 1 := IntWalk.i64_in _ (by omega)
  go_enter Tryz.func40, Tryz.ntmps40
  go_wp2_with fail
  obtain ⟨W0, hW0⟩ : ∃ W0, W0 = ((w.alloc (.cells #[.int .i64 W, .int .i64 H, .slice (some ⟨g, off, none⟩) (k + 1 + m) c] 39)).alloc (.cells #[.int .i64 0, .int .i64 0, .slice none 0 0] 39)).alloc (.cells #[.string x.l.name, .int .i64 x.l.x, .int .i64 x.l.y, .bool x.l.hidden, .int .i64 x.l.opacity, .int .i64 x.l.mode, .int .i64 x.l.wide, .int .i64 x.l.high, .slice x.A x.n x.c] 45) := ⟨_, rfl⟩
  have bD : Blk W0 w.heap.size 39 #[.int .i64 W, .int .i64 H, .slice (some ⟨g, off, none⟩) (k + 1 + m) c] := by rw [hW0]; exact ((Blk.new _ _ _ rfl).alloc _).alloc _
  have bR : Blk W0 (w.heap.size + 1) 39 #[.int .i64 0, .int .i64 0, .slice none 0 0] := by rw [hW0]; exact (Blk.new _ _ _ (by simp)).alloc _
  have bX : Blk W0 (w.heap.size + 1 + 1) 45 (layCs x).toArray := by rw [hW0]; exact Blk.new _ _ _ (by simp)
  have hb0 : Below w.heap.size w W0 := by rw [hW0]; go_grown
  rw [← hW0]
  clear hW0 q0 q1 q2 q3 q4 q5 q6 q7 q8
  have HO0 := Lib.hid (HO.out.below hb0 (Nat.le_refl _))
  have HPX0 := Lib.hid ((HPX.out.below hb0 (Nat.le_refl _)).more hb0.size)
  have hlX := bX.lt
  have hsz := hb0.size
  have sD : W0.cell? ⟨w.heap.size, 2, none⟩ = some (.slice (some ⟨g, off, none⟩) (k + 1 + m) c) := (bD.cell 2).trans rfl
  have sT : W0.cell? ⟨tb, 0, none⟩ = some (.int .i64 tt) := bkeep hb0 hs
  have s0 : W0.cell? ⟨w.heap.size + 1 + 1, 0, none⟩ = some (.string x.l.name) := (bX.cell 0).trans rfl
  have s1 : W0.cell? ⟨w.heap.size + 1 + 1, 1, none⟩ = some (.int .i64 x.l.x) := (bX.cell 1).trans rfl
  have s2 : W0.cell? ⟨w.heap.size + 1 + 1, 2, none⟩ = some (.int .i64 x.l.y) := (bX.cell 2).trans rfl
  have s3 : W0.cell? ⟨w.heap.size + 1 + 1, 3, none⟩ = some (.bool x.l.hidden) := (bX.cell 3).trans rfl
  have s4 : W0.cell? ⟨w.heap.size + 1 + 1, 4, none⟩ = some (.int .i64 x.l.opacity) := (bX.cell 4).trans rfl
  have s5 : W0.cell? ⟨w.heap.size + 1 + 1, 5, none⟩ = some (.int .i64 x.l.mode) := (bX.cell 5).trans rfl
  have s6 : W0.cell? ⟨w.heap.size + 1 + 1, 6, none⟩ = some (.int .i64 x.l.wide) := (bX.cell 6).trans rfl
  have s7 : W0.cell? ⟨w.heap.size + 1 + 1, 7, none⟩ = some (.int .i64 x.l.high) := (bX.cell 7).trans rfl
  have s8 : W0.cell? ⟨w.heap.size + 1 + 1, 8, none⟩ = some (.slice x.A x.n x.c) := (bX.cell 8).trans rfl
  have HBD := Lib.hid bD
  have HBR := Lib.hid bR
  have HB0 := Lib.hid hb0
  have hDg : w.heap.size ≠ g := by omega
  have hTg : tb ≠ g := htg
  have hXg : w.heap.size + 1 + 1 ≠ g := by omega
  have hvA : W0.heap.size ≠ g := by omega
  have hti : tt ≤ k + m := by omega
  have hnk : k + m ≤ 4096 := by omega
  have HPX1 := Lib.hid (fun (wA : World) (hgA : W0.drew.grownBy wA (some g)) => (show Reads (wA.alloc (.cells #[.string x.l.name, .int .i64 x.l.x, .int .i64 x.l.y, .bool x.l.hidden, .int .i64 x.l.opacity, .int .i64 x.l.mode, .int .i64 x.l.wide, .int .i64 x.l.high, .slice x.A x.n x.c] 45)) (wA.alloc (.cells #[.string x.l.name, .int .i64 x.l.x, .int .i64 x.l.y, .bool x.l.hidden, .int .i64 x.l.opacity, .int .i64 x.l.mode, .int .i64 x.l.wide, .int .i64 x.l.high, .slice x.A x.n x.c] 45)).heap.size 4 x.A x.n (pxCells x.l.ps) from ((HPX0.out.drew.keepAt hgA.size fun b o e hb hn => hgA.block b hb (fun e2 => HXO.out b o e (by omega) (by simpa [Value.ownBlock] using e2.symm))).alloc (Nat.le_refl _) _).more (by simp)))
  have HPX2 := Lib.hid (fun (wA : World) (hgA : (W0.drew.alloc (.cells #[.string x.l.name, .int .i64 x.l.x, .int .i64 x.l.y, .bool x.l.hidden, .int .i64 x.l.opacity, .int .i64 x.l.mode, .int .i64 x.l.wide, .int .i64 x.l.high, .slice x.A x.n x.c] 45)).grownBy wA (some g)) => (show Reads wA wA.heap.size 4 x.A x.n (pxCells x.l.ps) from (((HPX0.out.drew.alloc (Nat.le_refl _) (.cells #[.string x.l.name, .int .i64 x.l.x, .int .i64 x.l.y, .bool x.l.hidden, .int .i64 x.l.opacity, .int .i64 x.l.mode, .int .i64 x.l.wide, .int .i64 x.l.high, .slice x.A x.n x.c] 45)).more (by simp)).keepAt hgA.size fun b o e hb hn => hgA.block b hb (fun e2 => HXO.out b o e (by omega) (by simpa [Value.ownBlock] using e2.symm)))))
  have hDl : w.heap.size < W0.heap.size := by omega
  have hXl : w.heap.size + 1 + 1 < W0.heap.size := by omega
  have hTl : tb < W0.heap.size := by omega
  have hRgs : some (w.heap.size + 1) ≠ some g := fun e => by injection e with e; omega
  have HG1 := Lib.hid (fun (wA wI : World) (h1 : W0.drew.grownBy wA (some g)) (h2 : (wA.alloc (.cells #[.string x.l.name, .int .i64 x.l.x, .int .i64 x.l.y, .bool x.l.hidden, .int .i64 x.l.opacity, .int .i64 x.l.mode, .int .i64 x.l.wide, .int .i64 x.l.high, .slice x.A x.n x.c] 45)).grownBy wI (some g)) => (show W0.grownBy wI (some g) from ((⟨h1.os, h1.tape, h1.output, h1.size, h1.block⟩ : W0.grownBy wA (some g)).trans ((World.grownBy_alloc wA (.cells #[.string x.l.name, .int .i64 x.l.x, .int .i64 x.l.y, .bool x.l.hidden, .int .i64 x.l.opacity, .int .i64 x.l.mode, .int .i64 x.l.wide, .int .i64 x.l.high, .slice x.A x.n x.c] 45) none).but (some g))).trans h2))
  have HG2 := Lib.hid (fun (wA wI : World) (h1 : (W0.drew.alloc (.cells #[.string x.l.name, .int .i64 x.l.x, .int .i64 x.l.y, .bool x.l.hidden, .int .i64 x.l.opacity, .int .i64 x.l.mode, .int .i64 x.l.wide, .int .i64 x.l.high, .slice x.A x.n x.c] 45)).grownBy wA (some g)) (h2 : wA.grownBy wI (some g)) => (show W0.grownBy wI (some g) from by
    have h0 := ((World.grownBy_alloc W0.drew (.cells #[.string x.l.name, .int .i64 x.l.x, .int .i64 x.l.y, .bool x.l.hidden, .int .i64 x.l.opacity, .int .i64 x.l.mode, .int .i64 x.l.wide, .int .i64 x.l.high, .slice x.A x.n x.c] 45) none).but (some g)).trans (h1.trans h2)
    exact ⟨h0.os, h0.tape, h0.output, h0.size, h0.block⟩))
  have HFF := Lib.hid (fun (wI : World) (hG : W0.grownBy wI (some g)) (hOI : LaysO wI base (.slice (some ⟨g, off, none⟩) (k + m + 1) c) ((ms.eraseIdx k).take tt ++ [x] ++ (ms.eraseIdx k).drop tt)) => (show MvR W H base g off c k m w (movedL (lsOf ms) k tt x.l) (wI.setCell ⟨w.heap.size, 2, none⟩ (.slice (some ⟨g, off, none⟩) (k + m + 1) c)) from
    ⟨(by have := (HBD.out.grown hG (fun e => by injection e with e; omega)).set_ 2 (.slice (some ⟨g, off, none⟩) (k + m + 1) c); simpa using this), (HBR.out.grown hG (fun e => by injection e with e; omega)).far (by simp) _,
      ⟨_, hOI.farB (p := ⟨w.heap.size, 2, none⟩) (HN1.out _ (Nat.le_refl _)) (HOF.out _ (Nat.le_refl _)) _, HLN.out, HMV.out _ (lsOf_erase ms k), HOF.out⟩, ((HB0.out.mono hB).grown hG (by omega) (fun g' e => by injection e with e; omega)).setCell hB _, hg⟩))
  have hDgs : some w.heap.size ≠ some g := fun e => by injection e with e; omega
  have hvAs : some W0.heap.size ≠ some g := fun e => by injection e with e; omega
  clear bD bR bX hb0 hs
  go_upto_region 4 with fail
  go_cut [33] (fun s wx => MvR W H base g off c k m w (movedL (lsOf ms) k tt x.l) wx)
  case first =>
   go_region_law
    (first
      | (go_simp; go_at_call 39; refine (delete_any base g off (k + 1 + m) c k m ms W0.drew HO0.out.drew rfl hn).mono ?_; rintro e wA ⟨rfl, hOA, hgA⟩; have hzA : W0.heap.size ≤ wA.heap.size := hgA.size; have hvB : wA.heap.size ≠ g := (fun e => by rw [e] at hzA; omega); have kD := HBD.out.drew.grown hgA hDgs; have hTa : tb < wA.heap.size := Nat.lt_of_lt_of_le hTl hzA; have sDa := keepG hgA hDg (sD); have sTa := keepG hgA hTg (sT); have s0a := keepG hgA hXg (s0); have s1a := keepG hgA hXg (s1); have s2a := keepG hgA hXg (s2); have s3a := keepG hgA hXg (s3); have s4a := keepG hgA hXg (s4); have s5a := keepG hgA hXg (s5); have s6a := keepG hgA hXg (s6); have s7a := keepG hgA hXg (s7); have s8a := keepG hgA hXg (s8))
      | (go_simp; go_at_call 39; refine (delete_any base g off (k + 1 + m) c k m ms (W0.drew.alloc (.cells #[.string x.l.name, .int .i64 x.l.x, .int .i64 x.l.y, .bool x.l.hidden, .int .i64 x.l.opacity, .int .i64 x.l.mode, .int .i64 x.l.wide, .int .i64 x.l.high, .slice x.A x.n x.c] 45)) (HO0.out.drew.alloc _) rfl hn).mono ?_; rintro e wA ⟨rfl, hOA, hgA⟩; have kV := (Blk.new W0.drew 45 (layCs x).toArray rfl).grown hgA hvAs; have kD := (HBD.out.drew.alloc (.cells #[.string x.l.name, .int .i64 x.l.x, .int .i64 x.l.y, .bool x.l.hidden, .int .i64 x.l.opacity, .int .i64 x.l.mode, .int .i64 x.l.wide, .int .i64 x.l.high, .slice x.A x.n x.c] 45)).grown hgA hDgs; have sDa := keepG hgA hDg (cell_past _ sD); have sTa := keepG hgA hTg (cell_past _ sT); have s0a := keepG hgA hXg (cell_past _ s0); have s1a := keepG hgA hXg (cell_past _ s1); have s2a := keepG hgA hXg (cell_past _ s2); have s3a := keepG hgA hXg (cell_past _ s3); have s4a := keepG hgA hXg (cell_past _ s4); have s5a := keepG hgA hXg (cell_past _ s5); have s6a := keepG hgA hXg (cell_past _ s6); have s7a := keepG hgA hXg (cell_past _ s7); have s8a := keepG hgA hXg (cell_past _ s8))
      | (go_simp; go_at_call 41; refine (insert_any base g off (k + m) c tt W0.heap.size 1 (ms.eraseIdx k) x wA hOA hti hr1 hnk (HPX2.out wA hgA) HXO.out kV hvA).mono ?_; rintro e wI ⟨rfl, hOI, hgI⟩; have kI := kD.grown hgI hDgs; have kc := kI.cell; have kf := kI.free)
      | (go_simp; go_at_call 41; refine (insert_any base g off (k + m) c tt wA.heap.size 1 (ms.eraseIdx k) x (wA.alloc (.cells #[.string x.l.name, .int .i64 x.l.x, .int .i64 x.l.y, .bool x.l.hidden, .int .i64 x.l.opacity, .int .i64 x.l.mode, .int .i64 x.l.wide, .int .i64 x.l.high, .slice x.A x.n x.c] 45)) (hOA.alloc _) hti hr1 hnk (HPX1.out wA hgA) HXO.out (Blk.new _ _ _ rfl) hvB).mono ?_; rintro e wI ⟨rfl, hOI, hgI⟩; have kI := (kD.alloc (.cells #[.string x.l.name, .int .i64 x.l.x, .int .i64 x.l.y, .bool x.l.hidden, .int .i64 x.l.opacity, .int .i64 x.l.mode, .int .i64 x.l.wide, .int .i64 x.l.high, .slice x.A x.n x.c] 45)).grown hgI hDgs; have kc := kI.cell; have kf := kI.free))
   all_goals
    have hG : W0.grownBy wI (some g) := by first | exact HG1.out wA wI hgA hgI | exact HG2.out wA wI hgA hgI
    have FF := HFF.out wI hG hOI
    clear sD sT s0 s1 s2 s3 s4 s5 s6 s7 s8 sDa sTa s0a s1a s2a s3a s4a s5a s6a s7a s8a hOI hG kI kD kc kf hgA hgI hOA zw
    go_wp2_with fail
    go_meet
    exact FF
  case rest =>
   have c5 := hcut.d.cell
   have c6 := hcut.r.cell
   have f6 := hcut.r.free
   have l6 := hcut.r.lt
   have HC := Lib.hid hcut
   clear hcut sD sT s0 s1 s2 s3 s4 s5 s6 s7 s8 zw
   go_wp2_with fail
   have hz2 : w.heap.size ≤ w.heap.size + 1 := by omega
   refine bodyPost_ret (v := .tuple #[.agg #[.int .i64 W, .int .i64 H, .slice (some ⟨g, off, none⟩) (k + m + 1) c], .nilIface]) (by simp [results, Tryz.results40, go_sem, c6]) rfl (HC.out.fin hB _ _ _)
end Go.Proofs.YtmknacnmdlcieaaGreatDoor
/- Move: to a number that is not there; to one that is: the walks. -/
namespace Go.Proofs.YtmknacnmdlcieaaGreatDoor
open Go Go.RowKit

set_option maxRecDepth 100000 in
set_option maxHeartbeats 4000000 in
theorem move1_bad (W H : Int) (base g off n c k tb : Nat) (tt : Int) (E : Nat → Addr) (w : World) (hE : ErrsAt w E) (hB : base ≤ w.heap.size) (ht : tt < 0 ∨ (n : Int) ≤ tt) (hs : w.cell? ⟨tb, 0, none⟩ = some (.int .i64 tt)) :
    Calls Tryz.prog 40 #[.agg #[.int .i64 W, .int .i64 H, .slice (some ⟨g, off, none⟩) n c], .int .i64 k, .pointer (some ⟨tb, 0, none⟩)] w
      (HowBad E (2, -1) base w) := by
  have tl := cell_lt hs
  simp only at tl
  have hb0 : ∀ o o2, Below w.heap.size w ((w.alloc o).alloc o2) := fun o o2 => by go_grown
  have HE := Lib.hid hE
  have HB0 := Lib.hid hb0
  have dB := hE.bound
  have lB := cell_lt dB
  simp only at lB
  have hne : ¬ w.heap.size + 1 = 0 := by omega
  have hne' : ¬ 0 = w.heap.size + 1 := by omega
  have hz2 : base ≤ w.heap.size + 1 := by omega
  clear hE hb0
  by_cases h0 : tt < 0
  · clear ht
    go_enter Tryz.func40, Tryz.ntmps40
    go_wp2_with fail
    go_region
    all_goals
      go_wp2_with fail
      refine bodyPost_ret (v := .tuple #[.agg #[.int .i64 0, .int .i64 0, .slice none 0 0], errV (E 1)]) (by simp [results, Tryz.results40, go_sem, errV]) rfl ?_
      exact ⟨_, rfl, errIs_bare E _ 1, (((Below.refl base w).alloc hB _).alloc (by simp; omega) _).drew⟩
  · have h1 : (n : Int) ≤ tt := by omega
    clear ht
    go_enter Tryz.func40, Tryz.ntmps40
    go_wp2_with fail
    go_region
    all_goals
      go_wp2_with fail
      refine bodyPost_ret (v := .tuple #[.agg #[.int .i64 0, .int .i64 0, .slice none 0 0], errV (E 1)]) (by simp [results, Tryz.results40, go_sem, errV]) rfl ?_
      exact ⟨_, rfl, errIs_bare E _ 1, (((Below.refl base w).alloc hB _).alloc (by simp; omega) _).drew⟩

set_option maxRecDepth 100000 in
set_option maxHeartbeats 2000000 in
theorem move_bound (W H : Int) (A : Option Addr) (n c k : Nat) (s : ByteArray) (tt : Int) (ms : List LM) (E : Nat → Addr) (w : World) (hE : ErrsAt w E) (hL : Lays w w.heap.size A n ms) (hG : Lay.Good W H (lsOf ms)) (hf : Lay.find (lsOf ms) s = k) (hk : k < n) (ht : tt < 0 ∨ (n : Int) ≤ tt) :
    Calls Tryz.prog 16 #[.agg #[.int .i64 W, .int .i64 H, .slice A n c], .string s, .int .i64 tt] w (BadPost E (2, -1) w) := by
  have HF := Lib.hid hf
  have HG := Lib.hid hG
  have HE := Lib.hid hE
  have HT := Lib.hid ht
  have hb0 : ∀ o o2 o3, Below w.heap.size w (((w.alloc o).alloc o2).alloc o3) := fun o o2 o3 => by go_grown
  have HL := Lib.hid hL
  have HLN := Lib.hid hL.len
  have HB0 := Lib.hid hb0
  clear hf hG hE hL hb0 ht
  go_enter Tryz.func16, Tryz.ntmps16
  go_wp2_with fail
  refine (with_move_bad W H A n c k s ms (w.heap.size + 1) E (2, -1) _ (HL.out.step (HB0.out _ _ _)) HG.out HF.out hk (fun w3 base hb hz hB g off c' ns hO hs => ?_)).mono ?_
  · have hn : ns.length = n := by rw [same_lays hs, HLN.out]
    rw [hn]
    exact move1_bad W H base g off n c' k (w.heap.size + 1) tt E w3 (HE.out.below ((HB0.out _ _ _).trans (hb.mono (by simp; omega)))) hB HT.out (bkeep hb (((Blk.new (w.alloc (.cells #[.int .i64 W, .int .i64 H, .slice A n c] 39)) 3 #[.int .i64 tt] (by simp)).alloc (.cells #[.int .i64 0, .int .i64 0, .slice none 0 0] 39)).cell 0))
  rintro e w1 ⟨v, rfl, hv, hb1⟩
  have B2 := (Blk.new ((w.alloc (.cells #[.int .i64 W, .int .i64 H, .slice A n c] 39)).alloc (.cells #[.int .i64 tt] 3)) 39 #[.int .i64 0, .int .i64 0, .slice none 0 0] rfl).below hb1 (by simp)
  simp at B2
  have c2 := B2.cell
  have f2 := B2.free
  have hbw : Below w.heap.size w w1 := Below.trans (by go_grown) (hb1.mono (by simp; omega))
  have HV := Lib.hid hv
  have l2 := B2.lt
  have hz2 : w.heap.size ≤ w.heap.size + 1 + 1 := by omega
  clear hv hb1
  go_wp2_with fail
  exact bodyPost_ret (v := .tuple #[.agg #[.int .i64 0, .int .i64 0, .slice none 0 0], v]) (by simp [results, Tryz.results16, go_sem, c2]) rfl ⟨_, rfl, HV.out.zero3 B2 rfl _ _ _, ((hbw.setCell hz2 _).setCell hz2 _).setCell hz2 _⟩

set_option maxRecDepth 100000 in
set_option maxHeartbeats 2000000 in
theorem move_good (W H : Int) (A : Option Addr) (n c k tt : Nat) (s : ByteArray) (ms : List LM) (x : Lay.Layer) (w : World) (hL : Lays w w.heap.size A n ms) (hG : Lay.Good W H (lsOf ms)) (hf : Lay.find (lsOf ms) s = k) (hk : k < n) (ht : tt < n) (hx : (lsOf ms)[k]? = some x) :
    Calls Tryz.prog 16 #[.agg #[.int .i64 W, .int .i64 H, .slice A n c], .string s, .int .i64 tt] w (DocNew W H w.heap.size (movedL (lsOf ms) k tt x) w) := by
  have HF := Lib.hid hf
  have HG := Lib.hid hG
  have HX := Lib.hid hx
  have hb0 : ∀ o o2 o3, Below w.heap.size w (((w.alloc o).alloc o2).alloc o3) := fun o o2 o3 => by go_grown
  have HL := Lib.hid hL
  have HLN := Lib.hid hL.len
  have hn8 : n ≤ 8 := by have := hG.n; rw [lsOf_len] at this; rw [HLN.out]; exact this
  have HB0 := Lib.hid hb0
  clear hf hG hL hb0 hx
  go_enter Tryz.func16, Tryz.ntmps16
  go_wp2_with fail
  refine (with_move W H A n c k s ms (w.heap.size + 1) (movedL (lsOf ms) k tt x) _ (HL.out.step (HB0.out _ _ _)) HG.out HF.out hk (fun w3 base hb hz hB g off c' ns hO hs => ?_)).mono ?_
  · obtain ⟨m, hm⟩ : ∃ m, ns.length = k + 1 + m := ⟨ns.length - (k + 1), by have := same_lays hs; have := HLN.out; omega⟩
    have hkl : k < ns.length := by omega
    have hxl : ns[k].l = x := by
      have h := HX.out
      rw [← hs, List.getElem?_eq_getElem (by rw [lsOf_len]; exact hkl), lsOf_get ns k hkl] at h
      exact Option.some.inj h
    have hgb := (hO.own.lt g rfl).1
    rw [hm] at hO ⊢
    rw [← hxl, ← hs]
    refine move1_good W H base g off c' k m tt (w.heap.size + 1) ns ns[k] w3 hO (List.getElem?_eq_getElem hkl) (by have := same_lays hs; have := HLN.out; omega) hB (by have := same_lays hs; have := HLN.out; omega) (bkeep hb (((Blk.new (w.alloc (.cells #[.int .i64 W, .int .i64 H, .slice A n c] 39)) 3 #[.int .i64 tt] (by simp)).alloc (.cells #[.int .i64 0, .int .i64 0, .slice none 0 0] 39)).cell 0)) ?_
    simp at hz
    omega
  rintro e w4 ⟨A4, cc4, ns4, rfl, hO4, hs4, hb4⟩
  have b24 := (Blk.new ((w.alloc (.cells #[.int .i64 W, .int .i64 H, .slice A n c] 39)).alloc (.cells #[.int .i64 tt] 3)) 39 #[.int .i64 0, .int .i64 0, .slice none 0 0] rfl).below hb4 (by simp)
  simp at b24
  have c4 := b24.cell
  have f4 := b24.free
  have hbw : Below w.heap.size w w4 := Below.trans (by go_grown) (hb4.mono (by simp; omega))
  have hoff : ∀ y ∈ ns4, OffB (w.heap.size + 1 + 1) y := fun y hy => OffB.blk (hO4.px y hy) b24
  have HOFF := Lib.hid hoff
  have HO4 := Lib.hid hO4
  have HS4 := Lib.hid hs4
  have l4 := b24.lt
  clear hO4 hoff hs4 hb4
  go_wp2_with fail
  refine bodyPost_ret (v := .tuple #[.agg #[.int .i64 W, .int .i64 H, .slice A4 ns4.length cc4], .nilIface]) (by simp [results, Tryz.results16, go_sem, c4]) rfl ⟨A4, cc4, ns4, rfl, ?_, HS4.out, ?_⟩
  · have n1 : (Value.slice A4 ns4.length cc4).ownBlock ≠ some (w.heap.size + 1 + 1) := fun e => by have := (HO4.out.own.lt _ e).1; simp at this; omega
    exact (((HO4.out.farB n1 HOFF.out _).farB n1 HOFF.out _).farB n1 HOFF.out _).mono (by simp; omega)
  · exact ((hbw.setCell (by show w.heap.size ≤ w.heap.size + 1 + 1; omega) _).setCell (by show w.heap.size ≤ w.heap.size + 1 + 1; omega) _).setCell (by show w.heap.size ≤ w.heap.size + 1 + 1; omega) _
end Go.Proofs.YtmknacnmdlcieaaGreatDoor
/- slices.Replace at layers: the first k + 1 of them by one, in place; some stay behind. -/
namespace Go.Proofs.YtmknacnmdlcieaaGreatDoor
open Go Go.RowKit

theorem run_clear_empty {P : Program} (w : World) (t e ty : TypeId) (ht : P.underlying t = some (.slice e)) (A : Option Addr) (c : Nat) : (Builtin.clear_ #[t] ty #[.slice A 0 c]).run P w = .ok (.tuple #[]) w := by
  cases A <;> simp [Builtin.clear_, run_underlying ht]

theorem grownBy_drewN (w : World) (q : Nat) (row : Option Nat) : w.grownBy (w.drewN q) row := by
  have h := below_drewN (Below.refl w.heap.size w) q
  exact ⟨h.os, h.tape, h.output, h.size, fun b hb _ => h.block b hb⟩
theorem clear_lt {k r c j : Nat} (h : j < (k + 1 + r - (1 + r)) * (Value.agg #[.string ⟨#[]⟩, .int .i64 0, .int .i64 0, .bool false, .int .i64 0, .int .i64 0, .int .i64 0, .int .i64 0, .slice none 0 0]).cells.size) (hc : k + 1 + r ≤ c) : (1 + r) * 9 + j < c * 9 := by
  have e : (Value.agg #[.string ⟨#[]⟩, .int .i64 0, .int .i64 0, .bool false, .int .i64 0, .int .i64 0, .int .i64 0, .int .i64 0, .slice none 0 0]).cells.size = 9 := rfl
  rw [e] at h
  omega
/-- clear of the places behind the first n elements of a slice of one's own, one world for each way. -/
theorem replace_own {w : World} {base g off n c k r : Nat} {ms : List LM} {vs : List Value} (h : Own w base 9 (.slice (some ⟨g, off, none⟩) n c) n (layCells ms)) (hn : n = k + 1 + r) (hl : ms.length = n) (hv : vs.length = 9) (ys : List Value) (hy : ys.length ≤ k * 9) :
    Own (((w.setCells g off vs).drew.setCells g (off + 9) (layCells (ms.drop (k + 1)))).setCells g (off + (1 + r) * 9) ys) base 9 (.slice (some ⟨g, off, none⟩) (1 + r) c) (1 + r) (vs ++ layCells (ms.drop (k + 1))) := by
  obtain ⟨hnc, hm, hx, ht⟩ := h.room
  have hd : (layCells (ms.drop (k + 1))).length = r * 9 := by rw [layCells_length, List.length_drop]; omega
  have h1 := h.splice 0 1 (by omega) (by omega) vs (by omega)
  rw [Nat.zero_mul, Nat.add_zero, List.take_zero, List.nil_append, Nat.zero_add] at h1
  have h2 := h1.drew.splice 1 r (Nat.le_refl _) (by omega) (layCells (ms.drop (k + 1))) hd
  rw [Nat.one_mul, List.take_of_length_le (by omega)] at h2
  have h3 := h2.clearTail k (by omega) hy
  exact h3

set_option maxRecDepth 100000 in
set_option maxHeartbeats 4000000 in
theorem replace_head (base g off n c gv cv k r : Nat) (ms : List LM) (m : LM) (w : World) (hO : LaysO w base (.slice (some ⟨g, off, none⟩) n c) ms) (hkr : n = k + 1 + r) (hr : 0 < r) (hn : n ≤ 4096) (hm : Reads w w.heap.size 4 m.A m.n (pxCells m.l.ps))
    (hoff : OffAt m.A m.n (.slice (some ⟨g, off, none⟩) n c)) (hv : Blk w gv 45 (layCs m).toArray) :
    Calls Tryz.prog 43 #[.slice (some ⟨g, off, none⟩) n c, .int .i64 0, .int .i64 (k + 1), .slice (some ⟨gv, 0, none⟩) 1 cv] w
      fun e w' => e = .returned (.slice (some ⟨g, off, none⟩) (1 + r) c) ∧ LaysO w' base (.slice (some ⟨g, off, none⟩) (1 + r) c) (m :: ms.drop (k + 1)) ∧ w.grownBy w' (some g) := by
  obtain ⟨i0, hi', hz0, hz1, hz2⟩ := info_parts layInfo
  have hnl := hO.lays.len
  have hO1 := hO.own
  rw [← hnl] at hO1
  obtain ⟨hnc, hcm, hx, ht⟩ := hO1.room
  unfold maxLen at hcm
  have hmem : ∀ x ∈ m :: ms.drop (k + 1), x = m ∨ x ∈ ms := fun x hx => by
    rcases List.mem_cons.1 hx with h | h
    · exact .inl h
    · exact .inr (List.mem_of_mem_drop h)
  have hlen : (m :: ms.drop (k + 1)).length = 1 + r := by rw [List.length_cons, List.length_drop]; omega
  have hcells : layCells (m :: ms.drop (k + 1)) = layCs m ++ layCells (ms.drop (k + 1)) := rfl
  have fin : ∀ w', Own w' base 9 (.slice (some ⟨g, off, none⟩) (1 + r) c) (1 + r) (layCs m ++ layCells (ms.drop (k + 1))) → w.grownBy w' (some g) → LaysO w' base (.slice (some ⟨g, off, none⟩) (1 + r) c) (m :: ms.drop (k + 1)) := fun w' ho hg =>
    hO.turned hm hoff (by rw [hlen, hcells]; exact ho) hg hmem
  have hdl : (layCells (ms.drop (k + 1))).length = r * 9 := by rw [layCells_length, List.length_drop]; omega
  have HFIN := Lib.hid fin
  have HX := Lib.hid hx
  have HT := Lib.hid ht
  have HO1 := Lib.hid hO1
  have HV := Lib.hid hv
  have HNL := Lib.hid hnl
  have HDL := Lib.hid hdl
  clear fin hx ht hO1 hlen hcells hmem hO hm hoff hv hnl hdl
  have HKR := Lib.hid hkr
  subst hkr
  have e1 : ((0 : Int) == (k : Int) + 1) = false := by rw [beq_eq_false_iff_ne]; omega
  have e2 : ¬ ((0 : Int) = (k : Int) + 1) := by omega
  have e3 : ¬ ((k : Int) + 1 = (k : Int) + 1 + r) := by omega
  have d1 : ¬ c = 0 := by omega
  have d2 : ¬ c = k + 1 := by omega
  have d3 : ¬ c = 1 := by omega
  have z1 : (0 : Int) ≤ (k : Int) + 1 := by omega
  have z2 : (k : Int) + 1 ≤ c := by omega
  have z3 : (1 : Int) + r ≤ c := by omega
  have z4 : (0 : Int) ≤ 1 + (r : Int) := by omega
  have z5 : (k : Int) + 1 ≤ (k : Int) + 1 + r := by omega
  have z6 : (1 : Int) ≤ (k : Int) + 1 := by omega
  have z7 : (1 : Int) ≤ c := by omega
  have z8 : (1 : Int) + r ≤ (k : Int) + 1 + r := by omega
  have zt : ((1 : Int) + r).toNat = 1 + r := by omega
  have zk : ((k : Int) + 1).toNat = k + 1 := by omega
  have z9 : (1 : Int) ≤ 1 + (r : Int) := by omega
  have zw1 : IntKind.i64.wrap (1 : Int) = 1 := by decide
  have HMIN := Lib.hid (show Nat.min r r = r from Nat.min_self r)
  have zw : IntKind.i64.wrap (1 + (r : Int)) = 1 + (r : Int) := IntWalk.i64_in _ (by omega)
  go_enter Tryz.func43, Tryz.ntmps43
  go_wp2_with fail
  go_quiet (fail)
  go_upto_region 17 with fail
  obtain ⟨w0, hw0⟩ : ∃ w0, w0 = w.drewN nq := ⟨_, rfl⟩
  have hO0 := HO1.out.drewN nq
  have hx : ∀ j, j < (k + 1 + r) * 9 → w0.cell? ⟨g, off + j, none⟩ = (layCells ms)[j]? := by rw [hw0]; exact HX.out
  have ht : ∀ j, j < c * 9 → (w0.cell? ⟨g, off + j, none⟩).isSome = true ∧ w0.frozen? ⟨g, off + j, none⟩ = false := by rw [hw0]; exact HT.out
  have hv : Blk w0 gv 45 (layCs m).toArray := by rw [hw0]; exact HV.out.drewN nq
  have hg0 : w.grownBy w0 (some g) := by rw [hw0]; exact grownBy_drewN w nq (some g)
  rw [← hw0] at hO0 ⊢
  clear hw0
  have h9 : (layCs m).length = 9 := rfl
  have hcp1 : ∀ ty dl dc, 1 ≤ dl → (Builtin.copy_ #[37, 37] ty #[.slice (some ⟨g, off, none⟩) dl dc, .slice (some ⟨gv, 0, none⟩) 1 cv]).run Tryz.prog w0 = .ok (goInt (Nat.min 1 dl)) (w0.setCells g off (layCs m)) := fun ty dl dc hdl1 =>
    run_copy_cells_n w0 _ _ ty 45 i0 9 g off dl dc ⟨gv, 0, none⟩ 1 cv (layCs m) Tryz.underlying37 hi' hz1 (by have : Nat.min 1 dl = 1 := Nat.min_eq_left hdl1; rw [this]; rfl)
      (fun j v hj => by rw [add_lit, hv.cell, Nat.zero_add]; simpa using hj)
      (fun j hj => (ht j (by omega)).1) (fun j hj => (ht j (by omega)).2) (by intro u hu; exact layCells_one [m] u (by rw [layCells_single]; exact hu))
  obtain ⟨W1, hW1⟩ : ∃ W1, W1 = w0.setCells g off (layCs m) := ⟨_, rfl⟩
  have hs1 : ∀ j, j < c * 9 → (W1.cell? ⟨g, off + j, none⟩).isSome = true ∧ W1.frozen? ⟨g, off + j, none⟩ = false := fun j hj => by
    rw [hW1]
    exact ⟨World.isSome_setCells _ _ _ _ _ (ht j hj).1, by rw [World.frozen?_setCells]; exact (ht j hj).2⟩
  have hx1 : ∀ j u, (layCells (ms.drop (k + 1)))[j]? = some u → W1.cell? ⟨g, off + (k + 1) * 9 + j, none⟩ = some u := fun j u hj => by
    have hl := (List.getElem?_eq_some_iff.1 hj).1
    have hdl := HDL.out
    have hnl := HNL.out
    rw [hW1, World.cell?_setCells_out g (layCs m) off w0 _ (fun _ _ => .inr (by show off + (layCs m).length ≤ off + (k + 1) * 9 + j; omega)), Nat.add_assoc]
    rw [← layCells_drop ms (k + 1) (by omega), List.getElem?_drop] at hj
    exact (hx _ (by omega)).trans hj
  have hcp2 : ∀ ty dl dc sl sc, Nat.min sl dl = r → (Builtin.copy_ #[37, 37] ty #[.slice (some ⟨g, off + 9, none⟩) dl dc, .slice (some ⟨g, off + (k + 1) * 9, none⟩) sl sc]).run Tryz.prog W1.drew = .ok (goInt (Nat.min sl dl)) (W1.drew.setCells g (off + 9) (layCells (ms.drop (k + 1)))) := fun ty dl dc sl sc hmin =>
    run_copy_cells_n W1.drew _ _ ty 45 i0 9 g (off + 9) dl dc ⟨g, off + (k + 1) * 9, none⟩ sl sc _ Tryz.underlying37 hi' hz1 (by rw [hmin]; exact HDL.out)
      (fun j v hj => by rw [add_lit]; exact hx1 j v hj)
      (fun j hj => by have := HDL.out; rw [Nat.add_assoc]; exact (hs1 _ (by omega)).1) (fun j hj => by have := HDL.out; rw [Nat.add_assoc]; exact (hs1 _ (by omega)).2) (layCells_one _)
  obtain ⟨W2, hW2⟩ : ∃ W2, W2 = W1.drew.setCells g (off + 9) (layCells (ms.drop (k + 1))) := ⟨_, rfl⟩
  have hs2 : ∀ j, j < c * 9 → (W2.cell? ⟨g, off + j, none⟩).isSome = true ∧ W2.frozen? ⟨g, off + j, none⟩ = false := fun j hj => by
    rw [hW2]
    exact ⟨World.isSome_setCells _ _ _ _ _ (hs1 j hj).1, by rw [World.frozen?_setCells]; exact (hs1 j hj).2⟩
  have hg2 : w.grownBy W2 (some g) := by
    have a1 : w0.grownBy W1 (some g) := by rw [hW1]; exact grown_setCells w0 g off (layCs m)
    have a2 : W1.grownBy W2 (some g) := by rw [hW2]; have hx := grown_setCells W1.drew g (off + 9) (layCells (ms.drop (k + 1))); exact ⟨hx.os, hx.tape, hx.output, hx.size, hx.block⟩
    exact (hg0.trans a1).trans a2
  have HOW := Lib.hid (fun ys (hy : ys.length ≤ k * 9) => (show Own (W2.setCells g (off + (1 + r) * 9) ys) base 9 (.slice (some ⟨g, off, none⟩) (1 + r) c) (1 + r) (layCs m ++ layCells (ms.drop (k + 1))) by
    rw [hW2, hW1]; exact replace_own hO0 rfl HNL.out.symm h9 ys hy))
  have HG := Lib.hid (fun ys => hg2.trans (grown_setCells W2 g (off + (1 + r) * 9) ys))
  have HC1 := Lib.hid hcp1
  have HC2 := Lib.hid hcp2
  have HS2 := Lib.hid hs2
  have HW1 := Lib.hid hW1
  have HW2 := Lib.hid hW2
  clear hcp1 hcp2 hs1 hs2 hx1 hW1 hW2 hx ht hv hg0 hg2 h9 hO0
  go_wp2_with (with_reducible refine wpList_copy_run _ rfl (.tmp 95) (.tmp 96) 37 37 rfl (.slice (some ⟨g, off, none⟩) (1 + r) c) (.slice (some ⟨gv, 0, none⟩) 1 cv) rfl rfl (HC1.out _ _ _ (by omega)) ?_)
  rw [← HW1.out]
  go_region_law
    ((refine step_copy_run rfl (.tmp 103) (.tmp 106) 37 37 rfl (.slice (some ⟨g, off + 9, none⟩) r (c - 1)) (.slice (some ⟨g, off + (k + 1) * 9, none⟩) r (c - (k + 1))) (by simp [Act.eval, Act.put]) (by simp [Act.eval, Act.put]) (HC2.out _ _ _ _ _ HMIN.out) ?_))
  rw [← HW2.out]
  by_cases hk0 : k = 0
  · have hcl : ∀ ty A C, (Builtin.clear_ #[37] ty #[.slice A (k + 1 + r - (1 + r)) C]).run Tryz.prog W2 = .ok (.tuple #[]) W2 := fun ty A C => by
      rw [show k + 1 + r - (1 + r) = 0 by omega]
      exact run_clear_empty W2 _ _ ty Tryz.underlying37 A C
    have h1 := HFIN.out W2 (HOW.out [] (by simp)) (HG.out [])
    have h2 := HG.out []
    have H1 := Lib.hid h1
    have H2 := Lib.hid (show w.grownBy W2 (some g) from h2)
    clear h1 h2 hk0
    by_cases d4 : c = 1 + r
    all_goals
      go_wp2_with fail
      go_ret
      exact ⟨rfl, H1.out, H2.out⟩
  · have d4 : ¬ c = 1 + r := by omega
    have hcl : ∀ ty, (Builtin.clear_ #[37] ty #[.slice (some ⟨g, off + (1 + r) * 9, none⟩) (k + 1 + r - (1 + r)) (c - (1 + r))]).run Tryz.prog W2 = .ok (.tuple #[]) (W2.setCells g (off + (1 + r) * 9) (Builtin.zeroCells (Value.agg #[.string ⟨#[]⟩, .int .i64 0, .int .i64 0, .bool false, .int .i64 0, .int .i64 0, .int .i64 0, .int .i64 0, .slice none 0 0]).cells (k + 1 + r - (1 + r))).toList) :=
      fun ty => run_clear_cells W2 _ _ ty _ Tryz.underlying37 layZero layZero1 (by decide) g (off + (1 + r) * 9) (k + 1 + r - (1 + r)) (c - (1 + r)) (by omega)
        (fun j hj => by have h := (HS2.out ((1 + r) * 9 + j) (clear_lt hj (by omega))).1; rwa [← Nat.add_assoc] at h) (fun j hj => by have h := (HS2.out ((1 + r) * 9 + j) (clear_lt hj (by omega))).2; rwa [← Nat.add_assoc] at h)
    have hz : (Builtin.zeroCells (Value.agg #[.string ⟨#[]⟩, .int .i64 0, .int .i64 0, .bool false, .int .i64 0, .int .i64 0, .int .i64 0, .int .i64 0, .slice none 0 0]).cells (k + 1 + r - (1 + r))).toList.length ≤ k * 9 := by
      rw [Array.length_toList, size_zeroCells]
      have e : k + 1 + r - (1 + r) = k := by omega
      rw [e]
      exact Nat.le_refl _
    have H1 := Lib.hid (HFIN.out _ (HOW.out _ hz) (HG.out _))
    have H2 := Lib.hid (HG.out (Builtin.zeroCells (Value.agg #[.string ⟨#[]⟩, .int .i64 0, .int .i64 0, .bool false, .int .i64 0, .int .i64 0, .int .i64 0, .int .i64 0, .slice none 0 0]).cells (k + 1 + r - (1 + r))).toList)
    clear hz hk0
    go_wp2_with fail
    go_ret
    exact ⟨rfl, H1.out, H2.out⟩
end Go.Proofs.YtmknacnmdlcieaaGreatDoor
