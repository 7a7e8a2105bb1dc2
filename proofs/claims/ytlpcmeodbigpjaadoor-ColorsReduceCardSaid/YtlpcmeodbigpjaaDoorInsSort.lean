/- slices.insertionSortCmpFunc at colors.Use; the closure that compares: the walks. -/
import Derived.Test.YtlpcmeodbigpjaaDoorSwapRange
import Derived.Test.YtlpcmeodbigpjaaDoorReduceLaw
import Derived.Deep.RegionHeld3
import Derived.Deep.DeepCutAuto
namespace Go.Proofs.YtlpcmeodbigpjaaDoor
open Go Go.RowKit
open Stab Col

/-- The closure that compares. -/
def useV (x : Px × Nat) : Value := .agg #[.int .u8 x.1.r.toNat, .int .u8 x.1.g.toNat, .int .u8 x.1.b.toNat, .int .u8 x.1.a.toNat, .int .i64 x.2]
def cmpV : Value := .func (.func 18) #[] #[]
theorem cmpUse_any (x y : Px × Nat) (w : World) (hx : x.2 ≤ 1048576) (hy : y.2 ≤ 1048576) :
    Calls Tryd.prog 18 #[.agg #[.int .u8 x.1.r.toNat, .int .u8 x.1.g.toNat, .int .u8 x.1.b.toNat, .int .u8 x.1.a.toNat, .int .i64 x.2], .agg #[.int .u8 y.1.r.toNat, .int .u8 y.1.g.toNat, .int .u8 y.1.b.toNat, .int .u8 y.1.a.toNat, .int .i64 y.2]] w
      fun e w' => e = .returned (.int .i64 ((y.2 : Int) - x.2)) ∧ Below w.heap.size w w' := by
  go_enter Tryd.func18, Tryd.ntmps18
  go_wp2
  go_ret
  exact ⟨rfl, by go_grown⟩

/-- A part sorted, stably. -/
def SortedTo (base g off n c : Nat) (P L S : List (Px × Nat)) (w0 w' : World) : Prop := ∃ L', SoR base g off n c w0 (P ++ L' ++ S) w' ∧ Same useKey L L' ∧ Srt useKey L'
/-- Counts that do not overflow. -/
def SmallU (l : List (Px × Nat)) : Prop := ∀ x ∈ l, x.2 ≤ 1048576
/-- The inner loop's end: one element more is sorted in. -/
theorem ins_done {base g off n c : Nat} {P L Q R S : List (Px × Nat)} {x : Px × Nat} {t : Nat} {w0 wr : World} (hs : Same useKey L (Q ++ x :: R)) (hq : Srt useKey Q) (h : SoR base g off n c w0 (mov P x Q (R ++ S) t) wr) (_ht : t ≤ Q.length)
    (h1 : t = 0 ∨ ∃ h1 : t - 1 < Q.length, useKey Q[t - 1] ≤ useKey x) (h2 : t = Q.length ∨ ∃ h1 : t < Q.length, useKey x + 1 ≤ useKey Q[t]) :
    ∃ Q' : List (Px × Nat), Q'.length = Q.length + 1 ∧ SoR base g off n c w0 (P ++ Q' ++ R ++ S) wr ∧ Same useKey L (Q' ++ R) ∧ Srt useKey Q' := by
  obtain ⟨a1, a2⟩ := one_last hq t h1 h2
  refine ⟨Q.take t ++ x :: Q.drop t, ?_, ?_, ?_, a2⟩
  · rw [List.length_append, List.length_cons, List.length_take, List.length_drop]; omega
  · unfold mov at h
    simpa using h
  · have h3 : Same useKey (Q ++ x :: R) ((Q ++ [x]) ++ R) := by rw [List.append_assoc]; exact Same.refl _
    exact hs.trans (h3.trans (a1.append (Same.refl R)))
set_option maxRecDepth 100000 in
set_option maxHeartbeats 2000000 in
theorem insSort_any (base g off n c : Nat) (P L S : List (Px × Nat)) (w0 w : World) (a b : Nat) (ha : a = P.length) (hb : b = P.length + L.length) (h : SoR base g off n c w0 (P ++ L ++ S) w) (hu : SmallU L) (hn : n ≤ 1048576) :
    Calls Tryd.prog 35 #[.slice (some ⟨g, off, none⟩) n c, .int .i64 a, .int .i64 b, cmpV] w
      fun e w' => e = .returned (.tuple #[]) ∧ SortedTo base g off n c P L S w0 w' := by
  have hlen : P.length + L.length + S.length = n := by rw [← h.len]; simp only [List.length_append]
  have HS := Lib.hid h
  have HA := Lib.hid ha
  have HB := Lib.hid hb
  have HU := Lib.hid hu
  have hab : a ≤ b := by omega
  have hbn : b ≤ n := by omega
  clear h hlen ha hb hu
  unfold cmpV
  rcases Nat.eq_zero_or_pos L.length with hz | hpos
  · have h1 : ¬ (a : Int) + 1 < (b : Int) := by have := HA.out; have := HB.out; omega
    have HL := Lib.hid (List.eq_nil_of_length_eq_zero hz)
    clear hz
    go_enter Tryd.func35, Tryd.ntmps35
    go_wp2
    go_loopw [8] (fun i wr => i = .int .i64 ((a : Int) + 1) ∧ w = wr) (fun i _ => 0)
    case atStart => exact ⟨rfl, rfl⟩
    case round =>
      obtain ⟨rfl, rfl⟩ := hrel
      go_wp2
      go_end0
      exact ⟨rfl, L, HS.out, Same.refl _, by rw [HL.out]; exact List.Pairwise.nil⟩
  have H0 := Lib.hid (show ∃ (Q R : List (Px × Nat)), (Value.int .i64 ((a : Int) + 1)) = .int .i64 ((a : Int) + Q.length) ∧ a + Q.length + R.length = b ∧ SoR base g off n c w0 (P ++ Q ++ R ++ S) w ∧ Same useKey L (Q ++ R) ∧ Srt useKey Q by
    refine ⟨L.take 1, L.drop 1, ?_, ?_, ?_, ?_, ?_⟩
    · rw [List.length_take, Nat.min_eq_left (by omega)]; rfl
    · rw [List.length_take, List.length_drop]; have := HA.out; have := HB.out; omega
    · rw [List.append_assoc P, List.take_append_drop]; exact HS.out
    · rw [List.take_append_drop]; exact Same.refl _
    · match L, hpos with
      | x :: r, _ => exact srt_one x)
  clear hpos
  go_enter Tryd.func35, Tryd.ntmps35
  go_wp2
  go_loopw [8] (fun i wr => ∃ (Q R : List (Px × Nat)), i = .int .i64 ((a : Int) + Q.length) ∧ a + Q.length + R.length = b ∧ SoR base g off n c w0 (P ++ Q ++ R ++ S) wr ∧ Same useKey L (Q ++ R) ∧ Srt useKey Q) (fun i _ => b - (intOf i).toNat)
  case atStart => exact H0.out
  case round =>
    clear H0
    obtain ⟨Q, R, rfl, hlen, hR, hsame, hsrt⟩ := hrel
    have HR := Lib.hid hR
    have HSA := Lib.hid hsame
    have HSR := Lib.hid hsrt
    clear hR hsame hsrt
    match R with
    | [] =>
      have h1 : ¬ (a : Int) + Q.length < (b : Int) := by simp at hlen; omega
      clear hlen
      go_wp2
      go_end0
      have h := HR.out
      have h2 := HSA.out
      rw [List.append_nil] at h h2
      exact ⟨rfl, Q, h, h2, HSR.out⟩
    | x :: R =>
      have hq : a + Q.length + 1 + R.length = b := by simp at hlen; omega
      have h1 : (a : Int) + Q.length < (b : Int) := by omega
      clear hlen
      obtain ⟨q, hqe⟩ : ∃ q, q = Q.length := ⟨_, rfl⟩
      have HQ := Lib.hid hqe
      rw [← hqe] at hq h1 ⊢
      clear hqe
      have HUX := Lib.hid (show SmallU (Q ++ x :: R) from fun y hy => HU.out y (HSA.out.symm.mem hy))
      obtain ⟨wo, rfl⟩ : ∃ wo : World, wo = wr := ⟨_, rfl⟩
      go_wp2
      go_loopw [9] (fun j wr => ∃ t : Nat, j = .int .i64 ((a : Int) + t) ∧ t ≤ q ∧ SoR base g off n c w0 (mov P x Q (R ++ S) t) wr ∧ (t = q ∨ ∃ h1 : t < Q.length, useKey x + 1 ≤ useKey Q[t])) (fun j _ => (intOf j).toNat - a)
      case atStart =>
        refine ⟨q, rfl, Nat.le_refl _, ?_, .inl rfl⟩
        rw [mov_all P x Q (R ++ S) q (by rw [HQ.out]; exact Nat.le_refl _)]
        simpa using HR.out
      case round =>
        obtain ⟨t, rfl, htq, hM, hT⟩ := hrel
        have HMv := Lib.hid hM
        have HT := Lib.hid hT
        clear hM hT
        rcases Nat.eq_zero_or_pos t with rfl | ht0
        · rw [show (a : Int) + ((0 : Nat) : Int) = (a : Int) by omega]
          have h2 : ¬ a < a := by omega
          have h3 : decide (a < a) = false := decide_eq_false h2
          go_wp2_with fail
          go_big_region
          go_wp2
          go_roundw
          case rel =>
            obtain ⟨Q', e1, e2, e3, e4⟩ := ins_done HSA.out HSR.out HMv.out.drew (Nat.zero_le _) (.inl rfl) (by have h := HT.out; rw [HQ.out] at h; exact h)
            exact ⟨Q', R, by rw [e1, HQ.out]; congr 1, by rw [e1, ← HQ.out]; omega, e2, e3, e4⟩
          case measure => simp [intOf] <;> omega
        · obtain ⟨t, rfl⟩ : ∃ t', t = t' + 1 := ⟨t - 1, by omega⟩
          have hql : t < Q.length := by have := HQ.out; omega
          obtain ⟨y, hye⟩ : ∃ y, y = Q[t] := ⟨_, rfl⟩
          obtain ⟨jp, hjp⟩ : ∃ jp, jp = a + t := ⟨_, rfl⟩
          obtain ⟨j, hj⟩ : ∃ j, j = jp + 1 := ⟨_, rfl⟩
          rw [show (a : Int) + ((t + 1 : Nat) : Int) = (j : Int) by omega]
          have cx := HMv.out.at j x (mov_fst P x Q (R ++ S) (t + 1) j (by omega) (by have := HA.out; omega))
          have cy := HMv.out.at jp y (by rw [hye]; exact mov_pred P x Q (R ++ S) t jp hql (by have := HA.out; omega))
          obtain ⟨cx0, cx1, cx2, cx3, cx4⟩ := cx
          obtain ⟨cy0, cy1, cy2, cy3, cy4⟩ := cy
          have q1 : IntKind.i64.wrap ((j : Int) - 1) = (jp : Int) := by rw [show (j : Int) - 1 = (jp : Int) by omega]; exact IntWalk.i64_in _ (by omega)
          have p0 : (0 : Int) ≤ (j : Int) := by omega
          have p1 : (j : Int) < (n : Int) := by omega
          have p2 : (0 : Int) ≤ (jp : Int) := by omega
          have p3 : (jp : Int) < (n : Int) := by omega
          have p4 : (a : Int) < (j : Int) := by omega
          have p6 : a < j := by omega
          have p5 : decide (a < j) = true := decide_eq_true p6
          have HJ := Lib.hid hj
          have HJP := Lib.hid hjp
          have HYE := Lib.hid hye
          have HUXY := Lib.hid (show x.2 ≤ 1048576 ∧ y.2 ≤ 1048576 from ⟨HUX.out x (by simp), HUX.out y (by rw [hye]; simp)⟩)
          clear hj hjp hye
          go_wp2_with fail
          refine wp_region_held_drew (S := (fun w' => w'.cell? ⟨g, off + j * 5, none⟩ = some (.int .u8 x.1.r.toNat) ∧ w'.cell? ⟨g, off + j * 5 + 1, none⟩ = some (.int .u8 x.1.g.toNat) ∧ w'.cell? ⟨g, off + j * 5 + 2, none⟩ = some (.int .u8 x.1.b.toNat) ∧ w'.cell? ⟨g, off + j * 5 + 3, none⟩ = some (.int .u8 x.1.a.toNat) ∧ w'.cell? ⟨g, off + j * 5 + 4, none⟩ = some (.int .i64 x.2) ∧ w'.cell? ⟨g, off + jp * 5, none⟩ = some (.int .u8 y.1.r.toNat) ∧ w'.cell? ⟨g, off + jp * 5 + 1, none⟩ = some (.int .u8 y.1.g.toNat) ∧ w'.cell? ⟨g, off + jp * 5 + 2, none⟩ = some (.int .u8 y.1.b.toNat) ∧ w'.cell? ⟨g, off + jp * 5 + 3, none⟩ = some (.int .u8 y.1.a.toNat) ∧ w'.cell? ⟨g, off + jp * 5 + 4, none⟩ = some (.int .i64 y.2))) (by kernel_rfl) ?_ (fun hHeld => ?_)
          · exact ⟨cx0, cx1, cx2, cx3, cx4, cy0, cy1, cy2, cy3, cy4⟩
          refine wpAnyH_take (i := 0) (v := ?_) rfl (by kernel_rfl) (by kernel_rfl) (by kernel_rfl) (fun _ _ _ h => h) (Or.inl ⟨by rfl, ?_⟩) (by assumption) ?_
          rotate_left
          · intro w hSw; (try dsimp only at hSw); go_simp <;> with_reducible rfl
          (try simp only [Act.put, List.getElem_toArray, List.getElem_cons_zero, List.setIfInBounds_toArray, List.set_cons_zero, List.set_cons_succ])
          refine wpAnyH_take (i := 1) (v := ?_) rfl (by kernel_rfl) (by kernel_rfl) (by kernel_rfl) (fun _ _ _ h => h) (Or.inl ⟨by rfl, ?_⟩) (by assumption) ?_
          rotate_left
          · intro w hSw; (try dsimp only at hSw); go_simp <;> with_reducible rfl
          (try simp only [Act.put, List.getElem_toArray, List.getElem_cons_zero, List.getElem_cons_succ, List.setIfInBounds_toArray, List.set_cons_zero, List.set_cons_succ])
          refine wpAnyH_take (i := 2) (v := ?_) rfl (by kernel_rfl) (by kernel_rfl) (by kernel_rfl) (fun _ _ _ h => h) (Or.inl ⟨by rfl, ?_⟩) (by assumption) ?_
          rotate_left
          · intro w hSw; (try dsimp only at hSw); go_simp <;> with_reducible rfl
          (try simp only [Act.put, List.getElem_toArray, List.getElem_cons_zero, List.getElem_cons_succ, List.setIfInBounds_toArray, List.set_cons_zero, List.set_cons_succ])
          refine wpAnyH_take (i := 3) (v := ?_) rfl (by kernel_rfl) (by kernel_rfl) (by kernel_rfl) (fun _ _ _ h => h) (Or.inl ⟨by rfl, ?_⟩) (by assumption) ?_
          rotate_left
          · intro w hSw; (try dsimp only at hSw); go_simp <;> with_reducible rfl
          (try simp only [Act.put, List.getElem_toArray, List.getElem_cons_zero, List.getElem_cons_succ, List.setIfInBounds_toArray, List.set_cons_zero, List.set_cons_succ])
          refine wpAnyH_take (i := 4) (v := ?_) rfl (by kernel_rfl) (by kernel_rfl) (by kernel_rfl) (fun _ _ _ h => h) (Or.inl ⟨by rfl, ?_⟩) (by assumption) ?_
          rotate_left
          · intro w hSw; (try dsimp only at hSw); go_simp <;> with_reducible rfl
          (try simp only [Act.put, List.getElem_toArray, List.getElem_cons_zero, List.getElem_cons_succ, List.setIfInBounds_toArray, List.set_cons_zero, List.set_cons_succ])
          refine wpAnyH_take (i := 5) (v := ?_) rfl (by kernel_rfl) (by kernel_rfl) (by kernel_rfl) (fun _ _ _ h => h) (Or.inl ⟨by rfl, ?_⟩) (by assumption) ?_
          rotate_left
          · intro w hSw; (try dsimp only at hSw); go_simp <;> with_reducible rfl
          (try simp only [Act.put, List.getElem_toArray, List.getElem_cons_zero, List.getElem_cons_succ, List.setIfInBounds_toArray, List.set_cons_zero, List.set_cons_succ])
          refine wpAnyH_take (i := 6) (v := ?_) rfl (by kernel_rfl) (by kernel_rfl) (by kernel_rfl) (fun _ _ _ h => h) (Or.inl ⟨by rfl, ?_⟩) (by assumption) ?_
          rotate_left
          · intro w hSw; (try dsimp only at hSw); go_simp <;> with_reducible rfl
          (try simp only [Act.put, List.getElem_toArray, List.getElem_cons_zero, List.getElem_cons_succ, List.setIfInBounds_toArray, List.set_cons_zero, List.set_cons_succ])
          refine wpAnyH_take (i := 7) (v := ?_) rfl (by kernel_rfl) (by kernel_rfl) (by kernel_rfl) (fun _ _ _ h => h) (Or.inl ⟨by rfl, ?_⟩) (by assumption) ?_
          rotate_left
          · intro w hSw; (try dsimp only at hSw); go_simp <;> with_reducible rfl
          (try simp only [Act.put, List.getElem_toArray, List.getElem_cons_zero, List.getElem_cons_succ, List.setIfInBounds_toArray, List.set_cons_zero, List.set_cons_succ])
          refine wpAnyH_take (i := 8) (v := ?_) rfl (by kernel_rfl) (by kernel_rfl) (by kernel_rfl) (fun _ _ _ h => h) (Or.inl ⟨by rfl, ?_⟩) (by assumption) ?_
          rotate_left
          · intro w hSw; (try dsimp only at hSw); go_simp <;> with_reducible rfl
          (try simp only [Act.put, List.getElem_toArray, List.getElem_cons_zero, List.getElem_cons_succ, List.setIfInBounds_toArray, List.set_cons_zero, List.set_cons_succ])
          refine wpAnyH_take (i := 9) (v := ?_) rfl (by kernel_rfl) (by kernel_rfl) (by kernel_rfl) (fun _ _ _ h => h) (Or.inl ⟨by rfl, ?_⟩) (by assumption) ?_
          rotate_left
          · intro w hSw; (try dsimp only at hSw); go_simp <;> with_reducible rfl
          (try simp only [Act.put, List.getElem_toArray, List.getElem_cons_zero, List.getElem_cons_succ, List.setIfInBounds_toArray, List.set_cons_zero, List.set_cons_succ])
          refine wpAnyH_take (i := 10) (v := ?_) rfl (by kernel_rfl) (by kernel_rfl) (by kernel_rfl) (fun _ _ _ h => h) (Or.inl ⟨by rfl, ?_⟩) (by assumption) ?_
          rotate_left
          · intro w hSw; (try dsimp only at hSw); go_simp <;> with_reducible rfl
          (try simp only [Act.put, List.getElem_toArray, List.getElem_cons_zero, List.getElem_cons_succ, List.setIfInBounds_toArray, List.set_cons_zero, List.set_cons_succ])
          refine wpAnyH_take (i := 11) (v := ?_) rfl (by kernel_rfl) (by kernel_rfl) (by kernel_rfl) (fun _ _ _ h => h) (Or.inl ⟨by rfl, ?_⟩) (by assumption) ?_
          rotate_left
          · intro w hSw; (try dsimp only at hSw); go_simp <;> with_reducible rfl
          (try simp only [Act.put, List.getElem_toArray, List.getElem_cons_zero, List.getElem_cons_succ, List.setIfInBounds_toArray, List.set_cons_zero, List.set_cons_succ])
          refine wpAnyH_take (i := 12) (v := ?_) rfl (by kernel_rfl) (by kernel_rfl) (by kernel_rfl) (fun _ _ _ h => h) (Or.inl ⟨by rfl, ?_⟩) (by assumption) ?_
          rotate_left
          · intro w hSw; (try dsimp only at hSw); go_simp <;> with_reducible rfl
          (try simp only [Act.put, List.getElem_toArray, List.getElem_cons_zero, List.getElem_cons_succ, List.setIfInBounds_toArray, List.set_cons_zero, List.set_cons_succ])
          refine wpAnyH_take (i := 13) (v := ?_) rfl (by kernel_rfl) (by kernel_rfl) (by kernel_rfl) (fun _ _ _ h => h) (Or.inl ⟨by rfl, ?_⟩) (by assumption) ?_
          rotate_left
          · intro w hSw; (try dsimp only at hSw); go_simp <;> with_reducible rfl
          (try simp only [Act.put, List.getElem_toArray, List.getElem_cons_zero, List.getElem_cons_succ, List.setIfInBounds_toArray, List.set_cons_zero, List.set_cons_succ])
          refine wpAnyH_ready (rs := [14]) (by kernel_rfl) (by simp) ?_
          refine AllReadyH.cons rfl (fun K hK => ?_) AllReadyH.nil
          go_simp
          (go_at_call 18; refine (cmpUse_any x y wr.drew HUXY.out.1 HUXY.out.2).mono ?_; rintro e wC ⟨rfl, hbC⟩)
          refine hK.out _ _ ?_ (fun hHeld => ?_)
          · exact ⟨bkeep (Below.fromDrew hbC) cx0, bkeep (Below.fromDrew hbC) cx1, bkeep (Below.fromDrew hbC) cx2, bkeep (Below.fromDrew hbC) cx3, bkeep (Below.fromDrew hbC) cx4, bkeep (Below.fromDrew hbC) cy0, bkeep (Below.fromDrew hbC) cy1, bkeep (Below.fromDrew hbC) cy2, bkeep (Below.fromDrew hbC) cy3, bkeep (Below.fromDrew hbC) cy4⟩
          clear hK K
          (try simp only [Act.put, List.getElem_toArray, List.getElem_cons_zero, List.getElem_cons_succ, List.setIfInBounds_toArray, List.set_cons_zero, List.set_cons_succ])
          refine wpAnyH_take (i := 15) (v := ?_) rfl (by kernel_rfl) (by kernel_rfl) (by kernel_rfl) (fun _ _ _ h => h) (Or.inl ⟨by rfl, ?_⟩) (by assumption) ?_
          rotate_left
          · intro w hSw; (try dsimp only at hSw); go_simp <;> with_reducible rfl
          (try simp only [Act.put, List.getElem_toArray, List.getElem_cons_zero, List.getElem_cons_succ, List.setIfInBounds_toArray, List.set_cons_zero, List.set_cons_succ])
          refine wpAnyH_take (i := 16) (v := ?_) rfl (by kernel_rfl) (by kernel_rfl) (by kernel_rfl) (fun _ _ _ h => h) (Or.inl ⟨by rfl, ?_⟩) (by assumption) ?_
          rotate_left
          · intro w hSw; (try dsimp only at hSw); go_simp <;> with_reducible rfl
          (try simp only [Act.put, List.getElem_toArray, List.getElem_cons_zero, List.getElem_cons_succ, List.setIfInBounds_toArray, List.set_cons_zero, List.set_cons_succ])
          refine wpAnyH_done (by kernel_rfl) ?_ _
          have HMC := Lib.hid (HMv.out.below (Below.fromDrew hbC))
          clear cx0 cx1 cx2 cx3 cx4 cy0 cy1 cy2 cy3 cy4 hbC
          by_cases hc : (y.2 : Int) - x.2 < 0
          · have hjj := HJ.out
            have hjpp := HJP.out
            obtain ⟨dx0, dx1, dx2, dx3, dx4⟩ := HMC.out.at j x (mov_fst P x Q (R ++ S) (t + 1) j (by omega) (by have := HA.out; omega))
            obtain ⟨dy0, dy1, dy2, dy3, dy4⟩ := HMC.out.at jp y (by rw [HYE.out]; exact mov_pred P x Q (R ++ S) t jp hql (by have := HA.out; omega))
            obtain ⟨fx0, fx1, fx2, fx3, fx4⟩ := HMC.out.free j (by omega)
            obtain ⟨fy0, fy1, fy2, fy3, fy4⟩ := HMC.out.free jp (by omega)
            have hne : jp < j := by omega
            clear hjj hjpp
            go_wp2_with fail
            go_big_region
            have HSS := Lib.hid (HMC.out.swapC j jp (by omega) (by omega) x y (mov P x Q (R ++ S) t) (by rw [HYE.out]; exact mov_back P x Q (R ++ S) t jp j hql (by rw [HJP.out, HA.out]) (by rw [HJ.out, HJP.out, HA.out]))).drew
            clear dx0 dx1 dx2 dx3 dx4 dy0 dy1 dy2 dy3 dy4 fx0 fx1 fx2 fx3 fx4 fy0 fy1 fy2 fy3 fy4 q1
            go_wp2
            go_roundw
            case rel => exact ⟨t, by have := HJ.out; have := HJP.out; congr 1; omega, by have := HQ.out; omega, HSS.out, .inr ⟨hql, by have := HYE.out; rw [← this]; unfold useKey; omega⟩⟩
            case measure => have := HJ.out; have := HJP.out; simp [intOf] <;> omega
          · go_wp2
            go_roundw
            case rel =>
              obtain ⟨Q', e1, e2, e3, e4⟩ := ins_done HSA.out HSR.out HMC.out hql (.inr ⟨hql, by have := HYE.out; show useKey Q[t] ≤ _; rw [← this]; unfold useKey; omega⟩) (by have h := HT.out; rw [HQ.out] at h; exact h)
              exact ⟨Q', R, by rw [e1, HQ.out]; congr 1, by rw [e1, ← HQ.out]; omega, e2, e3, e4⟩
            case measure => simp [intOf] <;> omega
end Go.Proofs.YtlpcmeodbigpjaaDoor
