/- Plain, Size, At of a grid; Of of a picture that is not right: the walks. -/
import Derived.Test.YtcdbhcjiimdhhaaDoorGridPix
namespace Go.Proofs.YtcdbhcjiimdhhaaDoor
open Go Go.RowKit

set_option maxRecDepth 100000 in
set_option maxHeartbeats 1000000 in
theorem gplain_any (gb W H : Nat) (ts : List TM) (ps : List Px) (w : World) (hg : Gd w gb W H ts) (ht : TsOf ps W H ts) (hn : ts.length ≤ 1000) :
    Calls Tryd.prog 13 #[.pointer (some ⟨gb, 0, none⟩)] w fun e w' => e = .returned (.int .i64 (Til.plain (Til.tilesOf ps W H))) ∧ w' = w := by
  obtain ⟨A, c, hbG, hrd⟩ := hg.ex
  have HP := Lib.hid (show Til.plain (Til.tilesOf ps W H) = Til.plain ((ts.map (·.l)).take ts.length) by rw [← ht.px, List.take_of_length_le (by simp)])
  have HG := Lib.hid hg
  have d2 : w.cell? ⟨gb, 2, none⟩ = some (.slice A ts.length c) := (hbG.cell 2).trans rfl
  obtain ⟨N, hN⟩ : ∃ N, ts.length = N := ⟨_, rfl⟩
  rw [hN] at d2 hn HP
  have HN := Lib.hid hN
  have HRD := Lib.hid hrd
  clear hg hbG hrd hN ht
  go_enter Tryd.func13, Tryd.ntmps13
  go_wp2_with fail
  go_loopw [3, 13] (fun z i wr => ∃ k p : Nat, k ≤ N ∧ p ≤ k ∧ i = .int .i64 k ∧ z = .int .i64 p ∧ wr = w ∧ p = Til.plain ((ts.map (·.l)).take k)) (fun _ i _ => N - (intOf i).toNat)
  case atStart => exact ⟨0, 0, Nat.zero_le _, Nat.le_refl _, rfl, rfl, rfl, rfl⟩
  case round =>
    obtain ⟨k, p, hk, hpk, rfl, rfl, rfl, hp⟩ := hrel
    have HPK := Lib.hid hp
    clear hp
    by_cases hlt : k < N
    · have hkt : k < ts.length := by rw [HN.out]; exact hlt
      have hrd := HRD.out
      obtain ⟨b, off, rfl, hb⟩ := hrd.addr (by omega)
      have z0 := hrd.cell rfl k (by omega)
      rw [tmCells_at ts k hkt] at z0
      unfold tmPtr at z0
      have hti := HG.out.ti ts[k] (List.getElem_mem hkt)
      have HTK := Lib.hid (show (ts.map (·.l)).take (k + 1) = (ts.map (·.l)).take k ++ [ts[k].l] by rw [List.take_succ_eq_append_getElem (by simpa using hkt)]; simp)
      obtain ⟨t, hte⟩ : ∃ t, ts[k] = t := ⟨_, rfl⟩
      rw [hte] at z0 hti HTK
      have t2 : wr.cell? ⟨t.b, 2, none⟩ = some (.slice t.A t.n t.c) := (hti.blk.cell 2).trans rfl
      have hln := hti.px.pxLen
      have HLN := Lib.hid hln
      clear hrd hti hte hln hkt
      by_cases h1 : t.n = 1
      · rw [h1] at t2
        have HS := Lib.hid (show p + 1 = Til.plain ((ts.map (·.l)).take (k + 1)) by rw [HTK.out, Til.plain_snoc, ← HPK.out, if_pos (by rw [← HLN.out]; exact h1)])
        clear h1
        go_wp2_with fail
        go_roundw
        case rel => exact ⟨k + 1, p + 1, by omega, by omega, by go_num, by go_num, trivial, HS.out⟩
        case measure => simp [intOf]; omega
      · have h1' : ¬ (t.n : Int) = 1 := by omega
        have HS := Lib.hid (show p = Til.plain ((ts.map (·.l)).take (k + 1)) by rw [HTK.out, Til.plain_snoc, ← HPK.out, if_neg (by rw [← HLN.out]; exact h1)]; rfl)
        clear h1
        go_wp2_with fail
        go_roundw
        case rel => exact ⟨k + 1, p, by omega, by omega, by go_num, rfl, trivial, HS.out⟩
        case measure => simp [intOf]; omega
    · have e : k = N := by omega
      have HE := Lib.hid (show p = Til.plain (Til.tilesOf ps W H) by rw [HP.out, HPK.out, e])
      go_wp2_with fail
      go_ret
      exact ⟨(by rw [← HE.out]; rfl), rfl⟩

set_option maxRecDepth 100000 in
theorem gsize_any (gb W H : Nat) (ts : List TM) (w : World) (hg : Gd w gb W H ts) :
    Calls Tryd.prog 15 #[.pointer (some ⟨gb, 0, none⟩)] w fun e w' => e = .returned (.tuple #[.int .i64 W, .int .i64 H]) ∧ Below w.heap.size w w' := by
  obtain ⟨A, c, hbG, _⟩ := hg.ex
  have d0 : w.cell? ⟨gb, 0, none⟩ = some (.int .i64 W) := (hbG.cell 0).trans rfl
  have d1 : w.cell? ⟨gb, 1, none⟩ = some (.int .i64 H) := (hbG.cell 1).trans rfl
  clear hbG hg
  go_enter Tryd.func15, Tryd.ntmps15
  go_wp2_with fail
  go_quiet (fail)
  go_wp2_with fail
  go_ret2
  exact ⟨rfl, below_drewN (Below.refl _ _) _⟩

set_option maxRecDepth 100000 in
set_option maxHeartbeats 1000000 in
theorem gat_in (gb W H : Nat) (ts : List TM) (ps : List Px) (x y : Nat) (q : Px) (w : World) (hg : Gd w gb W H ts) (ht : TsOf ps W H ts) (hW : 1 ≤ W ∧ W ≤ 256) (hH : 1 ≤ H ∧ H ≤ 256) (hx : x < W) (hy : y < H) (hq : ps.getD (y * W + x) default = q) :
    Calls Tryd.prog 16 #[.pointer (some ⟨gb, 0, none⟩), .int .i64 x, .int .i64 y] w fun e w' => e = .returned (.tuple #[.agg #[.int .u8 q.r.toNat, .int .u8 q.g.toNat, .int .u8 q.b.toNat, .int .u8 q.a.toNat], .nilIface]) ∧ Below w.heap.size w w' := by
  obtain ⟨A, c, hbG, _⟩ := hg.ex
  have c0 := (hbG.alloc (.cells #[.int .u8 0, .int .u8 0, .int .u8 0, .int .u8 0] 41)).cell
  have lG := hbG.lt
  have HC := Lib.hid (gpixel_any gb W H ts ps x y q (w.alloc (.cells #[.int .u8 0, .int .u8 0, .int .u8 0, .int .u8 0] 41)) (hg.step (Below.alloc (Below.refl _ _) (Nat.le_refl _) _)) ht hW hH hx hy hq)
  have hx' : (x : Int) < (W : Int) := by omega
  have hy' : (y : Int) < (H : Int) := by omega
  clear hg ht hbG hq
  go_enter Tryd.func16, Tryd.ntmps16
  go_wp2_with fail
  refine HC.out.mono ?_
  rintro e w2 ⟨rfl, hb2⟩
  have B2 := (Blk.new w 41 #[.int .u8 0, .int .u8 0, .int .u8 0, .int .u8 0] rfl).below hb2 (by simp)
  have c2 := B2.cell
  have f2 := B2.free
  have hbw : Below w.heap.size w w2 := Below.trans (by go_grown) (hb2.mono (by simp))
  clear hb2
  go_wp2_with fail
  refine bodyPost_ret (v := .tuple #[.agg #[.int .u8 q.r.toNat, .int .u8 q.g.toNat, .int .u8 q.b.toNat, .int .u8 q.a.toNat], .nilIface]) (by simp [results, Tryd.results16, go_sem, c2]) rfl ⟨rfl, ?_⟩
  exact ((((hbw.setCell (Nat.le_refl _) _).setCell (Nat.le_refl _) _).setCell (Nat.le_refl _) _).setCell (Nat.le_refl _) _)

set_option maxRecDepth 100000 in
set_option maxHeartbeats 1000000 in
theorem gat_out (gb W H : Nat) (ts : List TM) (x y : Int) (E : Nat → Addr) (w : World) (hE : ErrsAt w E) (hg : Gd w gb W H ts) (hin : Lay.inP W H x y = false) :
    Calls Tryd.prog 16 #[.pointer (some ⟨gb, 0, none⟩), .int .i64 x, .int .i64 y] w fun e w' => e = .returned (.tuple #[.agg #[.int .u8 0, .int .u8 0, .int .u8 0, .int .u8 0], errV (E 1)]) ∧ Below w.heap.size w w' := by
  obtain ⟨A, c, hbG, _⟩ := hg.ex
  have c0 := (hbG.alloc (.cells #[.int .u8 0, .int .u8 0, .int .u8 0, .int .u8 0] 41)).cell
  have lG := hbG.lt
  have hcs : x < 0 ∨ (0 ≤ x ∧ (W : Int) ≤ x) ∨ (0 ≤ x ∧ x < (W : Int) ∧ y < 0) ∨ (0 ≤ x ∧ x < (W : Int) ∧ 0 ≤ y ∧ (H : Int) ≤ y) := by
    simp only [Lay.inP, Bool.and_eq_false_iff, decide_eq_false_iff_not] at hin
    omega
  have dB := fun o => cell_past (w := w) o hE.bound
  have lB : 1 < w.heap.size := cell_lt hE.bound
  have dB := dB (.cells #[.int .u8 0, .int .u8 0, .int .u8 0, .int .u8 0] 41)
  have z := (Blk.new w 41 #[.int .u8 0, .int .u8 0, .int .u8 0, .int .u8 0] rfl).cell
  have hne : ¬ w.heap.size = 1 := by omega
  have hne' : ¬ 1 = w.heap.size := by omega
  have hb0 : Below w.heap.size w (w.alloc (.cells #[.int .u8 0, .int .u8 0, .int .u8 0, .int .u8 0] 41)) := by go_grown
  clear hg hE hbG hin
  rcases hcs with h1 | ⟨h1, h2⟩ | ⟨h1, h2, h3⟩ | ⟨h1, h2, h3, h4⟩
  all_goals
    go_enter Tryd.func16, Tryd.ntmps16
    go_wp2_with fail
    go_region
    all_goals
      go_wp2_with fail
      refine bodyPost_ret (v := .tuple #[.agg #[.int .u8 0, .int .u8 0, .int .u8 0, .int .u8 0], errV (E 1)]) (by simp [results, Tryd.results16, go_sem, errV]) rfl ⟨rfl, ?_⟩
      first
        | exact hb0.drew
        | exact ((((hb0.setCell (Nat.le_refl _) _).setCell (Nat.le_refl _) _).setCell (Nat.le_refl _) _).setCell (Nat.le_refl _) _).drew

set_option maxRecDepth 100000 in
set_option maxHeartbeats 1000000 in
theorem of_bad (W H : Int) (A : Option Addr) (n c : Nat) (E : Nat → Addr) (w : World) (hE : ErrsAt w E) (hr : rightB W H n = false) :
    Calls Tryd.prog 7 #[.agg #[.int .i64 W, .int .i64 H, .slice A n c]] w fun e w' => e = .returned (.tuple #[.pointer none, errV (E 2)]) ∧ Below w.heap.size w w' := by
  have HR := Lib.hid hr
  have HE := Lib.hid hE
  clear hr hE
  go_enter Tryd.func7, Tryd.ntmps7
  go_wp2_with fail
  refine (rright_any W H A n c _).mono ?_
  rw [HR.out]
  rintro e w1 ⟨rfl, hb1⟩
  have hbw : Below w.heap.size w w1 := Below.trans (by go_grown) (hb1.mono (by simp))
  have dS := (HE.out.below hbw).shape
  clear hb1
  go_wp2_with fail
  go_quiet (fail)
  go_wp2_with fail
  go_ret2
  exact ⟨rfl, below_drewN hbw _⟩
end Go.Proofs.YtcdbhcjiimdhhaaDoor
