/- layer.Check: a document with a fault. -/
import Derived.Test.YtmknacnmdlcieaaGreatDoorCheck
import Derived.Test.YtmknacnmdlcieaaGreatDoorCode
namespace Go.Proofs.YtmknacnmdlcieaaGreatDoor
open Go Go.RowKit

/-- An error of that number and that place. -/
def ErrIs (E : Nat → Addr) (w : World) (v : Value) (f : Nat × Int) : Prop :=
  if f.1 = 0 then v = .nilIface else if f.2 < 0 then v = errV (E (f.1 - 1)) else ∃ b, v = .iface 78 (.pointer (some ⟨b, 0, none⟩)) ∧ Blk w b 80 #[.int .i64 f.2, errV (E (f.1 - 1))]
theorem ErrIs.below {E : Nat → Addr} {w w' : World} {v : Value} {f : Nat × Int} (h : ErrIs E w v f) (hb : Below w.heap.size w w') : ErrIs E w' v f := by
  unfold ErrIs at h ⊢
  split
  · rename_i h0; rw [if_pos h0] at h; exact h
  · rename_i h0
    rw [if_neg h0] at h
    split
    · rename_i h1; rw [if_pos h1] at h; exact h
    · rename_i h1
      rw [if_neg h1] at h
      obtain ⟨b, e, hB⟩ := h
      exact ⟨b, e, hB.below hb hB.lt⟩
theorem errIs_nil (E : Nat → Addr) (w : World) : ErrIs E w .nilIface (0, -1) := by unfold ErrIs; rw [if_pos rfl]
theorem errIs_bare (E : Nat → Addr) (w : World) (c : Nat) : ErrIs E w (errV (E c)) (c + 1, -1) := by unfold ErrIs; rw [if_neg (by simp), if_pos (by simp)]; simp
theorem errIs_at (E : Nat → Addr) (w : World) (c k b : Nat) (h : Blk w b 80 #[.int .i64 k, errV (E c)]) : ErrIs E w (.iface 78 (.pointer (some ⟨b, 0, none⟩))) (c + 1, (k : Int)) := by
  unfold ErrIs
  rw [if_neg (by simp), if_neg (by simp)]
  exact ⟨b, rfl, by simpa using h⟩
def ChkPost (E : Nat → Addr) (f : Nat × Int) (w : World) (e : Ending) (w' : World) : Prop := ∃ v, e = .returned v ∧ ErrIs E w' v f ∧ Below w.heap.size w w'

set_option maxRecDepth 100000 in
set_option maxHeartbeats 2000000 in
theorem check_bound (W H : Int) (A : Option Addr) (n c : Nat) (ls : List Lay.Layer) (E : Nat → Addr) (w : World) (hE : ErrsAt w E) (hl : n = ls.length) (h : sideB W = false ∨ sideB H = false ∨ 8 < n) :
    Calls Tryz.prog 31 #[.agg #[.int .i64 W, .int .i64 H, .slice A n c]] w (ChkPost E (Lay.check W H ls) w) := by
  have HE := Lib.hid (show Lay.check W H ls = (1 + 1, -1) from Lay.check_bound (by rw [← hl]; exact h))
  clear hl
  have dB := hE.bound
  have lB := cell_lt hE.bound
  obtain ⟨sW, hW⟩ : ∃ b, sideB W = b := ⟨_, rfl⟩
  obtain ⟨sH, hH⟩ : ∃ b, sideB H = b := ⟨_, rfl⟩
  go_enter Tryz.func31, Tryz.ntmps31
  go_wp2_with fail
  refine (cside_any W _).mono ?_
  rintro e w1 ⟨rfl, rfl⟩
  rw [hW]
  cases sW with
  | false =>
    go_wp2_with fail
    go_ret
    exact ⟨_, rfl, by rw [HE.out]; exact errIs_bare E _ 1, by go_grown⟩
  | true =>
    go_wp2_with fail
    refine (cside_any H _).mono ?_
    rintro e w1 ⟨rfl, rfl⟩
    rw [hH]
    cases sH with
    | false =>
      go_wp2_with fail
      go_ret
      exact ⟨_, rfl, by rw [HE.out]; exact errIs_bare E _ 1, by go_grown⟩
    | true =>
      have h8 : 8 < n := by
        rcases h with h | h | h
        · rw [hW] at h; cases h
        · rw [hH] at h; cases h
        · exact h
      clear h
      have h8' : (8 : Int) < n := by omega
      go_wp2_with fail
      go_ret
      exact ⟨_, rfl, by rw [HE.out]; exact errIs_bare E _ 1, by go_grown⟩

set_option maxRecDepth 100000 in
set_option maxHeartbeats 8000000 in
theorem check_in (W H : Int) (A : Option Addr) (n c : Nat) (ms : List LM) (E : Nat → Addr) (w : World) (hE : ErrsAt w E) (hL : Lays w w.heap.size A n ms) (hW : sideB W = true) (hH : sideB H = true) (hn : n ≤ 8) :
    Calls Tryz.prog 31 #[.agg #[.int .i64 W, .int .i64 H, .slice A n c]] w (ChkPost E (Lay.check W H (lsOf ms)) w) := by
  obtain rfl := hL.len
  obtain ⟨r, hr⟩ : ∃ r, r = Lay.check W H (lsOf ms) := ⟨_, rfl⟩
  rw [← hr]
  have HR := Lib.hid hr
  have HW := Lib.hid hW
  have HH := Lib.hid hH
  clear hr
  have hn' := Int.ofNat_le.2 hn
  go_enter Tryz.func31, Tryz.ntmps31
  go_wp2_with fail
  refine (cside_any W _).mono ?_
  rintro e w1 ⟨rfl, rfl⟩
  rw [hW]
  go_wp2_with fail
  refine (cside_any H _).mono ?_
  rintro e w1 ⟨rfl, rfl⟩
  rw [hH]
  clear hW hH
  go_wp2_with fail
  go_loopw [30] (fun i wr => ∃ k : Nat, CpR W H A c ms w i wr k) (fun i _ => ms.length - (intOf i).toNat)
  case atStart => exact ⟨0, Nat.zero_le _, rfl, Blk.new _ _ _ rfl, by go_grown, fun j _ hj => by omega⟩
  case round =>
    obtain ⟨k, hk, rfl, h1, hb, hall⟩ := hrel
    obtain ⟨wo, rfl⟩ : ∃ wo : World, wo = wr := ⟨_, rfl⟩
    have HA := Lib.hid hall
    clear hall
    have hwl := h1.lt
    have d1 := h1.cell
    by_cases hlt : k < ms.length
    · obtain ⟨b, off, rfl, hbl⟩ := hL.1.addr (by omega)
      have hLo := hL.below hb (Nat.le_refl _)
      have q0 := hLo.at k hlt 0 (by omega)
      have q1 := hLo.at k hlt 1 (by omega)
      have q2 := hLo.at k hlt 2 (by omega)
      have q3 := hLo.at k hlt 3 (by omega)
      have q4 := hLo.at k hlt 4 (by omega)
      have q5 := hLo.at k hlt 5 (by omega)
      have q6 := hLo.at k hlt 6 (by omega)
      have q7 := hLo.at k hlt 7 (by omega)
      have q8 := hLo.at k hlt 8 (by omega)
      have hpn := (hLo.px k hlt).pxLen
      have fc := fault_case (lsOf ms) k ms[k] hpn
      have HCK := Lib.hid (fun f hf h0 => check_here (W := W) (H := H) HW.out HH.out hn k hlt HA.out f hf h0)
      obtain ⟨m, hm⟩ : ∃ m, m = ms[k] := ⟨_, rfl⟩
      rw [← hm] at q0 q1 q2 q3 q4 q5 q6 q7 q8 fc hpn HCK
      have HM := Lib.hid hm
      have HPN := Lib.hid hpn
      clear hm hpn
      simp only [layCs, List.getElem?_cons_zero, List.getElem?_cons_succ] at q0 q1 q2 q3 q4 q5 q6 q7 q8
      rw [Nat.add_zero] at q0
      have K0 : ∀ o, B2 w.heap.size w (wo.alloc (.cells o 45)) w.heap.size 39 #[.int .i64 W, .int .i64 H, .slice (some ⟨b, off, none⟩) ms.length c] wo.heap.size 45 o :=
        fun o => ⟨h1.alloc _, Blk.new _ _ _ rfl, hb.alloc (by omega) _, by simp; omega⟩
      have HK0 := Lib.hid K0
      clear K0 hLo
      cases fc with
      | name h e0 =>
        have E0 := Lib.hid e0
        clear e0
        go_wp2_with fail
        refine (name_any _ _).mono ?_
        rintro e w2 ⟨rfl, hb2⟩
        have K := (HK0.out _).step hb2
        have e1 := K.b1.cell
        have e2 := K.b2.cell
        have hz2 := hb2.size
        simp at hz2
        have L2 := hL.here K.bel (Nat.le_refl _) K.hB
        have HL2 := Lib.hid L2
        clear L2
        rw [h]
        have dE := bcell_ K.bel (cell_lt hE.name) hE.name
        go_wp2_with fail
        go_ret
        exact ⟨_, rfl, by rw [HR.out, HCK.out 5 E0.out (by decide)]; exact errIs_at E _ 4 k _ (Blk.new _ _ _ rfl), K.bel.alloc (K.hB) _⟩
      | twice h h2 e0 =>
        have E0 := Lib.hid e0
        clear e0
        go_wp2_with fail
        refine (name_any _ _).mono ?_
        rintro e w2 ⟨rfl, hb2⟩
        have K := (HK0.out _).step hb2
        have e1 := K.b1.cell
        have e2 := K.b2.cell
        have hz2 := hb2.size
        simp at hz2
        have L2 := hL.here K.bel (Nat.le_refl _) K.hB
        have HL2 := Lib.hid L2
        clear L2
        rw [h]
        go_wp2_with fail
        refine (find_any W H _ _ c ms _ _ HL2.out (by omega)).mono ?_
        rintro e w3 ⟨rfl, hb3⟩
        have K3 := K.step hb3
        have e3 := K3.b1.cell
        have e4 := K3.b2.cell
        have hz3 := hb3.size
        have dE := bcell_ K3.bel (cell_lt hE.name) hE.name
        go_wp2_with fail
        go_ret
        exact ⟨_, rfl, by rw [HR.out, HCK.out 5 E0.out (by decide)]; exact errIs_at E _ 4 k _ (Blk.new _ _ _ rfl), K3.bel.alloc (K3.hB) _⟩
      | x h h2 h3 e0 =>
        have E0 := Lib.hid e0
        clear e0
        go_wp2_with fail
        refine (name_any _ _).mono ?_
        rintro e w2 ⟨rfl, hb2⟩
        have K := (HK0.out _).step hb2
        have e1 := K.b1.cell
        have e2 := K.b2.cell
        have hz2 := hb2.size
        simp at hz2
        have L2 := hL.here K.bel (Nat.le_refl _) K.hB
        have HL2 := Lib.hid L2
        clear L2
        rw [h]
        go_wp2_with fail
        refine (find_any W H _ _ c ms _ _ HL2.out (by omega)).mono ?_
        rintro e w3 ⟨rfl, hb3⟩
        have K3 := K.step hb3
        have e3 := K3.b1.cell
        have e4 := K3.b2.cell
        have hz3 := hb3.size
        go_wp2_with fail
        refine (cnear_any _ _).mono ?_
        rintro e w4 ⟨rfl, rfl⟩
        rw [h3]
        have dE := bcell_ K3.bel (cell_lt hE.bound) hE.bound
        go_wp2_with fail
        go_ret
        exact ⟨_, rfl, by rw [HR.out, HCK.out 2 E0.out (by decide)]; exact errIs_at E _ 1 k _ (Blk.new _ _ _ rfl), K3.bel.alloc (K3.hB) _⟩
      | y h h2 h3 h4 e0 =>
        have E0 := Lib.hid e0
        clear e0
        go_wp2_with fail
        refine (name_any _ _).mono ?_
        rintro e w2 ⟨rfl, hb2⟩
        have K := (HK0.out _).step hb2
        have e1 := K.b1.cell
        have e2 := K.b2.cell
        have hz2 := hb2.size
        simp at hz2
        have L2 := hL.here K.bel (Nat.le_refl _) K.hB
        have HL2 := Lib.hid L2
        clear L2
        rw [h]
        go_wp2_with fail
        refine (find_any W H _ _ c ms _ _ HL2.out (by omega)).mono ?_
        rintro e w3 ⟨rfl, hb3⟩
        have K3 := K.step hb3
        have e3 := K3.b1.cell
        have e4 := K3.b2.cell
        have hz3 := hb3.size
        go_wp2_with fail
        refine (cnear_any _ _).mono ?_
        rintro e w4 ⟨rfl, rfl⟩
        rw [h3]
        go_wp2_with fail
        refine (cnear_any _ _).mono ?_
        rintro e w4 ⟨rfl, rfl⟩
        rw [h4]
        have dE := bcell_ K3.bel (cell_lt hE.bound) hE.bound
        go_wp2_with fail
        go_ret
        exact ⟨_, rfl, by rw [HR.out, HCK.out 2 E0.out (by decide)]; exact errIs_at E _ 1 k _ (Blk.new _ _ _ rfl), K3.bel.alloc (K3.hB) _⟩
      | lo h h2 h3 h4 h5 e0 =>
        have E0 := Lib.hid e0
        clear e0
        go_wp2_with fail
        refine (name_any _ _).mono ?_
        rintro e w2 ⟨rfl, hb2⟩
        have K := (HK0.out _).step hb2
        have e1 := K.b1.cell
        have e2 := K.b2.cell
        have hz2 := hb2.size
        simp at hz2
        have L2 := hL.here K.bel (Nat.le_refl _) K.hB
        have HL2 := Lib.hid L2
        clear L2
        rw [h]
        go_wp2_with fail
        refine (find_any W H _ _ c ms _ _ HL2.out (by omega)).mono ?_
        rintro e w3 ⟨rfl, hb3⟩
        have K3 := K.step hb3
        have e3 := K3.b1.cell
        have e4 := K3.b2.cell
        have hz3 := hb3.size
        go_wp2_with fail
        refine (cnear_any _ _).mono ?_
        rintro e w4 ⟨rfl, rfl⟩
        rw [h3]
        go_wp2_with fail
        refine (cnear_any _ _).mono ?_
        rintro e w4 ⟨rfl, rfl⟩
        rw [h4]
        have dE := bcell_ K3.bel (cell_lt hE.bound) hE.bound
        go_wp2_with fail
        go_ret
        exact ⟨_, rfl, by rw [HR.out, HCK.out 2 E0.out (by decide)]; exact errIs_at E _ 1 k _ (Blk.new _ _ _ rfl), K3.bel.alloc (K3.hB) _⟩
      | hi h h2 h3 h4 h5 h6 e0 =>
        have E0 := Lib.hid e0
        clear e0
        go_wp2_with fail
        refine (name_any _ _).mono ?_
        rintro e w2 ⟨rfl, hb2⟩
        have K := (HK0.out _).step hb2
        have e1 := K.b1.cell
        have e2 := K.b2.cell
        have hz2 := hb2.size
        simp at hz2
        have L2 := hL.here K.bel (Nat.le_refl _) K.hB
        have HL2 := Lib.hid L2
        clear L2
        rw [h]
        go_wp2_with fail
        refine (find_any W H _ _ c ms _ _ HL2.out (by omega)).mono ?_
        rintro e w3 ⟨rfl, hb3⟩
        have K3 := K.step hb3
        have e3 := K3.b1.cell
        have e4 := K3.b2.cell
        have hz3 := hb3.size
        go_wp2_with fail
        refine (cnear_any _ _).mono ?_
        rintro e w4 ⟨rfl, rfl⟩
        rw [h3]
        go_wp2_with fail
        refine (cnear_any _ _).mono ?_
        rintro e w4 ⟨rfl, rfl⟩
        rw [h4]
        have dE := bcell_ K3.bel (cell_lt hE.bound) hE.bound
        go_wp2_with fail
        go_ret
        exact ⟨_, rfl, by rw [HR.out, HCK.out 2 E0.out (by decide)]; exact errIs_at E _ 1 k _ (Blk.new _ _ _ rfl), K3.bel.alloc (K3.hB) _⟩
      | mode h h2 h3 h4 h5 h6 h7 e0 =>
        have E0 := Lib.hid e0
        clear e0
        go_wp2_with fail
        refine (name_any _ _).mono ?_
        rintro e w2 ⟨rfl, hb2⟩
        have K := (HK0.out _).step hb2
        have e1 := K.b1.cell
        have e2 := K.b2.cell
        have hz2 := hb2.size
        simp at hz2
        have L2 := hL.here K.bel (Nat.le_refl _) K.hB
        have HL2 := Lib.hid L2
        clear L2
        rw [h]
        go_wp2_with fail
        refine (find_any W H _ _ c ms _ _ HL2.out (by omega)).mono ?_
        rintro e w3 ⟨rfl, hb3⟩
        have K3 := K.step hb3
        have e3 := K3.b1.cell
        have e4 := K3.b2.cell
        have hz3 := hb3.size
        go_wp2_with fail
        refine (cnear_any _ _).mono ?_
        rintro e w4 ⟨rfl, rfl⟩
        rw [h3]
        go_wp2_with fail
        refine (cnear_any _ _).mono ?_
        rintro e w4 ⟨rfl, rfl⟩
        rw [h4]
        go_wp2_with fail
        refine (mode_any _ _).mono ?_
        rintro e w4 ⟨rfl, rfl⟩
        rw [h7]
        have dE := bcell_ K3.bel (cell_lt hE.bound) hE.bound
        go_wp2_with fail
        go_ret
        exact ⟨_, rfl, by rw [HR.out, HCK.out 2 E0.out (by decide)]; exact errIs_at E _ 1 k _ (Blk.new _ _ _ rfl), K3.bel.alloc (K3.hB) _⟩
      | shape hf h8 e0 =>
        have E0 := Lib.hid e0
        clear e0
        obtain ⟨h, h2, h3, h4, h5, h6, h7⟩ := hf
        go_wp2_with fail
        refine (name_any _ _).mono ?_
        rintro e w2 ⟨rfl, hb2⟩
        have K := (HK0.out _).step hb2
        have e1 := K.b1.cell
        have e2 := K.b2.cell
        have hz2 := hb2.size
        simp at hz2
        have L2 := hL.here K.bel (Nat.le_refl _) K.hB
        have HL2 := Lib.hid L2
        clear L2
        rw [h]
        go_wp2_with fail
        refine (find_any W H _ _ c ms _ _ HL2.out (by omega)).mono ?_
        rintro e w3 ⟨rfl, hb3⟩
        have K3 := K.step hb3
        have e3 := K3.b1.cell
        have e4 := K3.b2.cell
        have hz3 := hb3.size
        go_wp2_with fail
        refine (cnear_any _ _).mono ?_
        rintro e w4 ⟨rfl, rfl⟩
        rw [h3]
        go_wp2_with fail
        refine (cnear_any _ _).mono ?_
        rintro e w4 ⟨rfl, rfl⟩
        rw [h4]
        go_wp2_with fail
        refine (mode_any _ _).mono ?_
        rintro e w4 ⟨rfl, rfl⟩
        rw [h7]
        go_wp2_with fail
        refine (rright_any _ _ _ _ _ _).mono ?_
        rintro e w5 ⟨rfl, hb5⟩
        have K5 := K3.step hb5
        have e5 := K5.b1.cell
        have e6 := K5.b2.cell
        have hz5 := hb5.size
        unfold rightM at h8
        rw [h8]
        have dE := bcell_ K5.bel (cell_lt hE.shape) hE.shape
        go_wp2_with fail
        go_ret
        exact ⟨_, rfl, by rw [HR.out, HCK.out 3 E0.out (by decide)]; exact errIs_at E _ 2 k _ (Blk.new _ _ _ rfl), K5.bel.alloc (K5.hB) _⟩
      | fine hf h8 e0 =>
        have E0 := Lib.hid e0
        clear e0
        obtain ⟨h, h2, h3, h4, h5, h6, h7⟩ := hf
        go_wp2_with fail
        refine (name_any _ _).mono ?_
        rintro e w2 ⟨rfl, hb2⟩
        have K := (HK0.out _).step hb2
        have e1 := K.b1.cell
        have e2 := K.b2.cell
        have hz2 := hb2.size
        simp at hz2
        have L2 := hL.here K.bel (Nat.le_refl _) K.hB
        have HL2 := Lib.hid L2
        clear L2
        rw [h]
        go_wp2_with fail
        refine (find_any W H _ _ c ms _ _ HL2.out (by omega)).mono ?_
        rintro e w3 ⟨rfl, hb3⟩
        have K3 := K.step hb3
        have e3 := K3.b1.cell
        have e4 := K3.b2.cell
        have hz3 := hb3.size
        go_wp2_with fail
        refine (cnear_any _ _).mono ?_
        rintro e w4 ⟨rfl, rfl⟩
        rw [h3]
        go_wp2_with fail
        refine (cnear_any _ _).mono ?_
        rintro e w4 ⟨rfl, rfl⟩
        rw [h4]
        go_wp2_with fail
        refine (mode_any _ _).mono ?_
        rintro e w4 ⟨rfl, rfl⟩
        rw [h7]
        go_wp2_with fail
        refine (rright_any _ _ _ _ _ _).mono ?_
        rintro e w5 ⟨rfl, hb5⟩
        have K5 := K3.step hb5
        have e5 := K5.b1.cell
        have e6 := K5.b2.cell
        have hz5 := hb5.size
        unfold rightM at h8
        rw [h8]
        go_wp2_with fail
        go_roundw
        case rel =>
          refine ⟨k + 1, by omega, by go_num, K5.b1, K5.bel, fun j hj hjk => ?_⟩
          by_cases ej : j = k
          · subst ej; rw [← HM.out]; exact E0.out
          · exact HA.out j hj (by omega)
        case measure => simp [intOf]; omega
    · have HK := Lib.hid (check_fine (W := W) (H := H) HW.out HH.out hn (ms := ms) fun j hj => HA.out j hj (by omega))
      go_wp2_with fail
      go_ret
      exact ⟨_, rfl, by rw [HR.out, HK.out]; exact errIs_nil E _, hb⟩

theorem check_any (W H : Int) (A : Option Addr) (n c : Nat) (ms : List LM) (E : Nat → Addr) (w : World) (hE : ErrsAt w E) (hL : Lays w w.heap.size A n ms) :
    Calls Tryz.prog 31 #[.agg #[.int .i64 W, .int .i64 H, .slice A n c]] w (ChkPost E (Lay.check W H (lsOf ms)) w) := by
  by_cases h : sideB W = false ∨ sideB H = false ∨ 8 < n
  · exact check_bound W H A n c (lsOf ms) E w hE (by rw [lsOf_len]; exact hL.len) h
  · have hW : sideB W = true := by
      cases e : sideB W with
      | true => rfl
      | false => exact absurd (.inl e) h
    have hH : sideB H = true := by
      cases e : sideB H with
      | true => rfl
      | false => exact absurd (.inr (.inl e)) h
    exact check_in W H A n c ms E w hE hL hW hH (Nat.le_of_not_lt fun e => h (.inr (.inr e)))
end Go.Proofs.YtmknacnmdlcieaaGreatDoor
