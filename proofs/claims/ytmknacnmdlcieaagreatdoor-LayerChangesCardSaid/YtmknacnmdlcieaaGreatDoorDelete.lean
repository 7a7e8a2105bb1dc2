/- slices.Delete at layers: one layer less; Remove's closure; with; Remove. -/
import Derived.Test.YtmknacnmdlcieaaGreatDoorOwnDoc
namespace Go.Proofs.YtmknacnmdlcieaaGreatDoor
open Go Go.RowKit

/-- Cells laid behind the first k elements of a slice of one's own, in place. -/
theorem Own.splice {w : World} {base size n c g off : Nat} {xs : List Value} (h : Own w base size (.slice (some ⟨g, off, none⟩) n c) n xs) (k m : Nat) (hk : k ≤ n) (hc : k + m ≤ c) (news : List Value) (hn : news.length = m * size) :
    Own (w.setCells g (off + k * size) news) base size (.slice (some ⟨g, off, none⟩) (k + m) c) (k + m) (xs.take (k * size) ++ news) := by
  have hle : k * size ≤ n * size := Nat.mul_le_mul_right _ hk
  have hlen : (xs.take (k * size)).length = k * size := by rw [List.length_take, h.1]; omega
  refine ⟨by rw [List.length_append, hlen, hn, Nat.add_mul], ?_⟩
  rcases h.2 with ⟨e, _⟩ | ⟨g', off', cap, e, hb, hg, hn', hm, hx, hf⟩
  · cases e
  · injection e with e1 e2 e3
    injection e1 with e1
    injection e1 with e1 e4
    subst e1; subst e4; subst e3
    have hcs : (k + m) * size ≤ c * size := Nat.mul_le_mul_right _ hc
    rw [Nat.add_mul] at hcs
    refine .inr ⟨g, off, c, rfl, hb, by rw [size_setCells]; exact hg, hc, hm, fun j hj => ?_, fun j hj => ⟨World.isSome_setCells _ _ _ _ _ (hf j hj).1, by rw [World.frozen?_setCells]; exact (hf j hj).2⟩⟩
    rw [Nat.add_mul] at hj
    by_cases hjk : j < k * size
    · rw [World.cell?_setCells_out g news (off + k * size) w _ (fun _ _ => .inl (by show off + j < off + k * size; omega)), hx j (by omega), List.getElem?_append_left (by omega), List.getElem?_take, if_pos hjk]
    · obtain ⟨i, rfl⟩ : ∃ i, j = k * size + i := ⟨j - k * size, by omega⟩
      rw [← Nat.add_assoc, World.cell?_setCells_in g news (off + k * size) w (fun t ht => by have := (hf (k * size + t) (by omega)).1; rwa [← Nat.add_assoc] at this) i (by omega), List.getElem?_append_right (by omega), hlen, Nat.add_sub_cancel_left, List.getElem?_eq_getElem]
theorem grown_setCells (w : World) (g o : Nat) (vs : List Value) : w.grownBy (w.setCells g o vs) (some g) :=
  ⟨World.os_setCells w g _ vs, tape_setCells g vs _ w, World.output_setCells w g _ vs, by rw [size_setCells]; exact Nat.le_refl _, fun k hk hne => World.heap_setCells_other w g _ vs hk (fun e => hne (by rw [e]))⟩

theorem layZero (w : World) : (zeroValue 45).run Tryz.prog w = .ok (.agg #[.string ⟨#[]⟩, .int .i64 0, .int .i64 0, .bool false, .int .i64 0, .int .i64 0, .int .i64 0, .int .i64 0, .slice none 0 0]) w := by kernel_rfl

theorem lt9 {k m j : Nat} (h : j < (k + 1 + m - (k + m)) * 9) : j < 9 := by
  have e : k + 1 + m - (k + m) = 1 := by omega
  rw [e] at h
  omega
theorem layZero1 : ∀ u ∈ (Builtin.zeroCells (Value.agg #[.string ⟨#[]⟩, .int .i64 0, .int .i64 0, .bool false, .int .i64 0, .int .i64 0, .int .i64 0, .int .i64 0, .slice none 0 0]).cells 1).toList, u.oneCell' = true := by
  have h : (Builtin.zeroCells (Value.agg #[.string ⟨#[]⟩, .int .i64 0, .int .i64 0, .bool false, .int .i64 0, .int .i64 0, .int .i64 0, .int .i64 0, .slice none 0 0]).cells 1).toList.all (·.oneCell') = true := by kernel_rfl
  exact List.all_eq_true.1 h
theorem layCells_split (ms : List LM) (k : Nat) : layCells ms = layCells (ms.take k) ++ layCells (ms.drop k) := by rw [← layCells_append, List.take_append_drop]
theorem layCells_take (ms : List LM) (k : Nat) (hk : k ≤ ms.length) : (layCells ms).take (k * 9) = layCells (ms.take k) := by
  rw [layCells_split ms k, List.take_left' (by rw [layCells_length, List.length_take]; omega)]
theorem layCells_drop (ms : List LM) (k : Nat) (hk : k ≤ ms.length) : (layCells ms).drop (k * 9) = layCells (ms.drop k) := by
  conv => lhs; rw [layCells_split ms k]
  rw [List.drop_left' (by rw [layCells_length, List.length_take]; omega)]
theorem layCells_erase (ms : List LM) (k : Nat) : layCells (ms.eraseIdx k) = layCells (ms.take k) ++ layCells (ms.drop (k + 1)) := by rw [List.eraseIdx_eq_take_drop_succ, layCells_append]

theorem delete_end {w W1 : World} {base g off k m c : Nat} {ms : List LM} (hO : LaysO w base (.slice (some ⟨g, off, none⟩) (k + 1 + m) c) ms) (hl : k + 1 + m = ms.length)
    (ho : Own W1 base 9 (.slice (some ⟨g, off, none⟩) (k + m) c) (k + m) ((layCells ms).take (k * 9) ++ layCells (ms.drop (k + 1)))) (hg : w.grownBy W1 (some g)) (ys : List Value) (hy : ys.length ≤ 9) (hc : k + m + 1 ≤ c) :
    LaysO (W1.setCells g (off + (k + m) * 9) ys) base (.slice (some ⟨g, off, none⟩) (k + m) c) (ms.eraseIdx k) ∧ w.grownBy (W1.setCells g (off + (k + m) * 9) ys) (some g) := by
  have h2 := grown_setCells W1 g (off + (k + m) * 9) ys
  have hg2 : w.grownBy (W1.setCells g (off + (k + m) * 9) ys) (some g) := ⟨h2.os.trans hg.os, h2.tape.trans hg.tape, h2.output.trans hg.output, Nat.le_trans hg.size h2.size, fun b hb hn => (h2.block b (Nat.lt_of_lt_of_le hb hg.size) hn).trans (hg.block b hb hn)⟩
  have hlen : (ms.eraseIdx k).length = k + m := by rw [List.length_eraseIdx_of_lt (by omega)]; omega
  rw [layCells_take ms k (by omega), ← layCells_erase] at ho
  have h3 := ho.clearTail 1 hc (by simpa using hy)
  rw [← hlen] at h3 ⊢
  exact ⟨hO.sub h3 (by rw [hlen]; exact hg2) (by simp [Value.ownBlock]) (fun x hx => List.mem_of_mem_eraseIdx hx), by rw [hlen]; exact hg2⟩
set_option maxRecDepth 100000 in
set_option maxHeartbeats 2000000 in
theorem delete_any (base g off n c k m : Nat) (ms : List LM) (w : World) (hO : LaysO w base (.slice (some ⟨g, off, none⟩) n c) ms) (hkm : n = k + 1 + m) (hn : n ≤ 4096) :
    Calls Tryz.prog 39 #[.slice (some ⟨g, off, none⟩) n c, .int .i64 k, .int .i64 (k + 1)] w
      fun e w' => e = .returned (.slice (some ⟨g, off, none⟩) (k + m) c) ∧ LaysO w' base (.slice (some ⟨g, off, none⟩) (k + m) c) (ms.eraseIdx k) ∧ w.grownBy w' (some g) := by
  obtain ⟨i0, hi, hz0, hz1, hz2⟩ := info_parts layInfo
  have hnl := hO.lays.len
  have hnc : n ≤ c := by
    obtain ⟨_, _, e, h, _⟩ := hO.own.form
    injection e with _ _ e3
    omega
  have hcm : c ≤ 9223372036854775807 := by
    rcases hO.own.2 with ⟨e, _⟩ | ⟨_, _, _, e, _, _, _, h, _⟩
    · cases e
    · injection e with _ _ e3
      unfold maxLen at h
      omega
  subst hkm
  have hO1 := hO.own
  rw [← hnl] at hO1
  have hnews : (layCells (ms.drop (k + 1))).length = m * 9 := by rw [layCells_length, List.length_drop]; omega
  have hthere : ∀ j, j < c * 9 → (w.cell? ⟨g, off + j, none⟩).isSome = true ∧ w.frozen? ⟨g, off + j, none⟩ = false := by
    rcases hO1.2 with ⟨e, _⟩ | ⟨_, _, _, e, _, _, _, _, _, h⟩
    · cases e
    · injection e with e1 e2 e3
      injection e1 with e1
      injection e1 with e1 e4
      subst e1; subst e4; subst e3
      exact h
  have HT := Lib.hid hthere
  have hcell : ∀ j u, (layCells (ms.drop (k + 1)))[j]? = some u → w.cell? ⟨g, off + (k + 1) * 9 + j, none⟩ = some u := by
    intro j u hu
    rw [← layCells_drop ms (k + 1) (by omega), List.getElem?_drop] at hu
    have hl := (List.getElem?_eq_some_iff.1 hu).1
    rw [layCells_length] at hl
    rw [Nat.add_assoc, hO.lays.1.cell rfl _ (by omega), hu]
  have HC := Lib.hid hcell
  have HNW := Lib.hid hnews
  have HO1 := Lib.hid hO1
  have HO := Lib.hid hO
  have HNL := Lib.hid hnl
  clear hthere hcell hnews hO1 hO hnl
  have e1 : ((k : Int) == (k : Int) + 1) = false := by rw [beq_eq_false_iff_ne]; omega
  have d1 : ¬ c = k + m := by omega
  have z1 : (0 : Int) ≤ (k : Int) := by omega
  have z2 : (k : Int) ≤ c := by omega
  have z6 : (k : Int) ≤ (k : Int) + 1 := by omega
  have z5 : (0 : Int) ≤ (k : Int) + 1 := by omega
  have z3 : (k : Int) + 1 ≤ k + 1 + m := by omega
  have z4 : (k : Int) + 1 + m ≤ c := by omega
  by_cases hck : c = k + 1
  · have hm0 : m = 0 := by omega
    subst hm0
    subst hck
    go_enter Tryz.func39, Tryz.ntmps39
    go_wp2_with fail
    go_region_law
      ((refine step_append_room rfl (.tmp 22) (.tmp 25) 37 rfl 45 i0 9 Tryz.underlying37 hi hz1 g off k (k + 1) rfl ⟨g, off, none⟩ 0 0 [] rfl rfl (fun j u hu => by simp at hu) (fun u hu => by cases hu) (by omega) (fun j hj => by simp at hj) ?_))
    have HW := Lib.hid (HO1.out.drew.splice k 0 (by omega) (by omega) [] rfl)
    obtain ⟨W1, hW1⟩ : ∃ W1, W1 = w.drew.setCells g (off + k * 9) [] := ⟨_, rfl⟩
    have ho1 : Own W1 base 9 (.slice (some ⟨g, off, none⟩) (k + 0) (k + 1)) (k + 0) ((layCells ms).take (k * 9) ++ []) := by rw [hW1]; exact HW.out
    have hgr : w.grownBy W1 (some g) := by rw [hW1]; have hx := grown_setCells w.drew g (off + k * 9) []; exact ⟨hx.os, hx.tape, hx.output, hx.size, hx.block⟩
    have hth : ∀ j, j < 9 → (W1.cell? ⟨g, off + k * 9 + j, none⟩).isSome = true ∧ W1.frozen? ⟨g, off + k * 9 + j, none⟩ = false := by
      rcases ho1.2 with ⟨e, _⟩ | ⟨_, _, _, e, _, _, _, _, _, h⟩
      · cases e
      · injection e with e1 e2 e3
        injection e1 with e1
        injection e1 with e1 e4
        subst e1; subst e4; subst e3
        intro j hj
        have := h (k * 9 + j) (by omega)
        rwa [← Nat.add_assoc] at this
    have HTH := Lib.hid hth
    have HO2 := Lib.hid ho1
    have HGR := Lib.hid hgr
    clear ho1 hgr hth
    rw [← hW1]
    clear hW1
    have hcl : ∀ ty, (Builtin.clear_ #[37] ty #[.slice (some ⟨g, off + k * 9, none⟩) 1 1]).run Tryz.prog W1 = .ok (.tuple #[]) (W1.setCells g (off + k * 9) (Builtin.zeroCells (Value.agg #[.string ⟨#[]⟩, .int .i64 0, .int .i64 0, .bool false, .int .i64 0, .int .i64 0, .int .i64 0, .int .i64 0, .slice none 0 0]).cells 1).toList) :=
      fun ty => run_clear_cells W1 _ _ ty _ Tryz.underlying37 layZero layZero1 (by decide) g (off + k * 9) 1 1 (by decide) (fun j hj => (HTH.out j hj).1) (fun j hj => (HTH.out j hj).2)
    go_wp2_with fail
    go_ret
    have hz9 : (Builtin.zeroCells (Value.agg #[.string ⟨#[]⟩, .int .i64 0, .int .i64 0, .bool false, .int .i64 0, .int .i64 0, .int .i64 0, .int .i64 0, .slice none 0 0]).cells 1).toList.length ≤ 9 := by
      rw [Array.length_toList, size_zeroCells]
      simp [Value.cells]
    exact ⟨rfl, delete_end (m := 0) HO.out HNL.out (by simpa [show layCells (ms.drop (k + 1)) = [] from List.eq_nil_of_length_eq_zero (by simpa using HNW.out)] using HO2.out) HGR.out _ hz9 (by omega)⟩
  · have d2 : ¬ c = k := by omega
    go_enter Tryz.func39, Tryz.ntmps39
    go_wp2_with fail
    go_region_law
      ((refine step_append_room rfl (.tmp 22) (.tmp 25) 37 rfl 45 i0 9 Tryz.underlying37 hi hz1 g off k c rfl ⟨g, off + (k + 1) * 9, none⟩ m (c - (k + 1)) (layCells (ms.drop (k + 1))) rfl HNW.out (fun j u hu => by rw [add_lit]; exact HC.out j u hu) (layCells_one _) (by omega) (fun j hj => by have := HT.out (k * 9 + j) (by have := HNW.out; omega); rwa [← Nat.add_assoc] at this) ?_))
    have HW := Lib.hid (HO1.out.drew.splice k m (by omega) (by omega) (layCells (ms.drop (k + 1))) HNW.out)
    obtain ⟨W1, hW1⟩ : ∃ W1, W1 = w.drew.setCells g (off + k * 9) (layCells (ms.drop (k + 1))) := ⟨_, rfl⟩
    have ho1 : Own W1 base 9 (.slice (some ⟨g, off, none⟩) (k + m) c) (k + m) ((layCells ms).take (k * 9) ++ (layCells (ms.drop (k + 1)))) := by rw [hW1]; exact HW.out
    have hgr : w.grownBy W1 (some g) := by rw [hW1]; have hx := grown_setCells w.drew g (off + k * 9) (layCells (ms.drop (k + 1))); exact ⟨hx.os, hx.tape, hx.output, hx.size, hx.block⟩
    have hth : ∀ j, j < 9 → (W1.cell? ⟨g, off + (k + m) * 9 + j, none⟩).isSome = true ∧ W1.frozen? ⟨g, off + (k + m) * 9 + j, none⟩ = false := by
      rcases ho1.2 with ⟨e, _⟩ | ⟨_, _, _, e, _, _, _, _, _, h⟩
      · cases e
      · injection e with e1 e2 e3
        injection e1 with e1
        injection e1 with e1 e4
        subst e1; subst e4; subst e3
        intro j hj
        have := h ((k + m) * 9 + j) (by omega)
        rwa [← Nat.add_assoc] at this
    have HTH := Lib.hid hth
    have HO2 := Lib.hid ho1
    have HGR := Lib.hid hgr
    clear ho1 hgr hth
    rw [← hW1]
    clear hW1
    have hcl : ∀ ty, (Builtin.clear_ #[37] ty #[.slice (some ⟨g, off + (k + m) * 9, none⟩) (k + 1 + m - (k + m)) (c - (k + m))]).run Tryz.prog W1 = .ok (.tuple #[]) (W1.setCells g (off + (k + m) * 9) (Builtin.zeroCells (Value.agg #[.string ⟨#[]⟩, .int .i64 0, .int .i64 0, .bool false, .int .i64 0, .int .i64 0, .int .i64 0, .int .i64 0, .slice none 0 0]).cells (k + 1 + m - (k + m))).toList) :=
      fun ty => run_clear_cells W1 _ _ ty _ Tryz.underlying37 layZero layZero1 (by decide) g (off + (k + m) * 9) (k + 1 + m - (k + m)) (c - (k + m)) (by omega) (fun j hj => (HTH.out j (lt9 hj)).1) (fun j hj => (HTH.out j (lt9 hj)).2)
    go_wp2_with fail
    go_ret
    have hz9 : (Builtin.zeroCells (Value.agg #[.string ⟨#[]⟩, .int .i64 0, .int .i64 0, .bool false, .int .i64 0, .int .i64 0, .int .i64 0, .int .i64 0, .slice none 0 0]).cells (k + 1 + m - (k + m))).toList.length ≤ 9 := by
      rw [Array.length_toList, size_zeroCells]
      simp [Value.cells]
      omega
    exact ⟨rfl, delete_end HO.out HNL.out HO2.out HGR.out _ hz9 (by omega)⟩
end Go.Proofs.YtmknacnmdlcieaaGreatDoor
