/- layer.Check: a document without a fault. -/
import Derived.Test.YtmknacnmdlcieaaGreatDoorCheckOf
namespace Go.Proofs.YtmknacnmdlcieaaGreatDoor
open Go Go.RowKit
/-- Two blocks that stand, and nothing below turned. -/
structure B2 (B : Nat) (w0 w : World) (g1 t1 : Nat) (c1 : Array Value) (g2 t2 : Nat) (c2 : Array Value) : Prop where
  b1 : Blk w g1 t1 c1
  b2 : Blk w g2 t2 c2
  bel : Below B w0 w
  hB : B ≤ w.heap.size
theorem B2.step {B : Nat} {w0 w w' : World} {g1 t1 : Nat} {c1 : Array Value} {g2 t2 : Nat} {c2 : Array Value} (h : B2 B w0 w g1 t1 c1 g2 t2 c2) (hb : Below w.heap.size w w') : B2 B w0 w' g1 t1 c1 g2 t2 c2 :=
  ⟨h.b1.below hb h.b1.lt, h.b2.below hb h.b2.lt, h.bel.trans (hb.mono h.hB), by have := hb.size; have := h.hB; omega⟩
/-- The relation of Check's loop. -/
structure CpR (W H : Int) (A : Option Addr) (c : Nat) (ms : List LM) (w : World) (i : Value) (wr : World) (k : Nat) : Prop where
  hk : k ≤ ms.length
  hi : i = .int .i64 k
  b1 : Blk wr w.heap.size 39 #[.int .i64 W, .int .i64 H, .slice A ms.length c]
  bel : Below w.heap.size w wr
  all : ∀ j, (hj : j < ms.length) → j < k → Lay.faultAt (lsOf ms) j ms[j].l = 0

set_option maxRecDepth 100000 in
set_option maxHeartbeats 2000000 in
theorem check_good (W H : Int) (A : Option Addr) (n c : Nat) (ms : List LM) (w : World) (hL : Lays w w.heap.size A n ms) (hG : Lay.Good W H (lsOf ms)) :
    Calls Tryz.prog 31 #[.agg #[.int .i64 W, .int .i64 H, .slice A n c]] w fun e w' => e = .returned .nilIface ∧ Below w.heap.size w w' := by
  obtain rfl := hL.len
  have hW : sideB W = true := hG.wd
  have hH : sideB H = true := hG.hg
  have hn : ms.length ≤ 8 := by have := hG.n; rw [lsOf_len] at this; exact this
  have HG := Lib.hid hG
  have hn' := Int.ofNat_le.2 hn
  go_enter Tryz.func31, Tryz.ntmps31
  go_wp2_with fail
  refine (cside_any W _).mono ?_
  rintro e w1 ⟨rfl, rfl⟩
  rw [hW]
  go_wp2_with fail
  refine (cside_any H _).mono ?_
  rintro e w1 ⟨rfl, rfl⟩
  rw [hH]
  clear hW hH hG
  go_wp2_with fail
  go_loopw [30] (fun i wr => ∃ k : Nat, CpR W H A c ms w i wr k) (fun i _ => ms.length - (intOf i).toNat)
  case atStart => exact ⟨0, Nat.zero_le _, rfl, Blk.new _ _ _ rfl, by go_grown, fun j _ hj => by omega⟩
  case round =>
    obtain ⟨k, hk, rfl, h1, hb, hall⟩ := hrel
    obtain ⟨wo, rfl⟩ : ∃ wo : World, wo = wr := ⟨_, rfl⟩
    have HA := Lib.hid hall
    clear hall
    have hwl := h1.lt
    have d1 := h1.cell
    by_cases hlt : k < ms.length
    · obtain ⟨b, off, rfl, hbl⟩ := hL.1.addr (by omega)
      have hLo := hL.below hb (Nat.le_refl _)
      have q0 := hLo.at k hlt 0 (by omega)
      have q1 := hLo.at k hlt 1 (by omega)
      have q2 := hLo.at k hlt 2 (by omega)
      have q3 := hLo.at k hlt 3 (by omega)
      have q4 := hLo.at k hlt 4 (by omega)
      have q5 := hLo.at k hlt 5 (by omega)
      have q6 := hLo.at k hlt 6 (by omega)
      have q7 := hLo.at k hlt 7 (by omega)
      have q8 := hLo.at k hlt 8 (by omega)
      have hpn := (hLo.px k hlt).pxLen
      have fc := fault_case (lsOf ms) k ms[k] hpn
      have HZ := Lib.hid (show Lay.faultAt (lsOf ms) k ms[k].l = 0 by have := HG.out.at_ k (by rw [lsOf_len]; exact hlt); rwa [lsOf_get ms k hlt] at this)
      obtain ⟨m, hm⟩ : ∃ m, m = ms[k] := ⟨_, rfl⟩
      rw [← hm] at q0 q1 q2 q3 q4 q5 q6 q7 q8 fc hpn HZ
      have HM := Lib.hid hm
      have HPN := Lib.hid hpn
      clear hm hpn
      simp only [layCs, List.getElem?_cons_zero, List.getElem?_cons_succ] at q0 q1 q2 q3 q4 q5 q6 q7 q8
      rw [Nat.add_zero] at q0
      have K0 : ∀ o, B2 w.heap.size w (wo.alloc (.cells o 45)) w.heap.size 39 #[.int .i64 W, .int .i64 H, .slice (some ⟨b, off, none⟩) ms.length c] wo.heap.size 45 o :=
        fun o => ⟨h1.alloc _, Blk.new _ _ _ rfl, hb.alloc (by omega) _, by simp; omega⟩
      have HK0 := Lib.hid K0
      clear K0 hLo
      cases fc with
      | name h e0 => exact absurd (e0.symm.trans HZ.out) (by decide)
      | twice h h2 e0 => exact absurd (e0.symm.trans HZ.out) (by decide)
      | x h h2 h3 e0 => exact absurd (e0.symm.trans HZ.out) (by decide)
      | y h h2 h3 h4 e0 => exact absurd (e0.symm.trans HZ.out) (by decide)
      | lo h h2 h3 h4 h5 e0 => exact absurd (e0.symm.trans HZ.out) (by decide)
      | hi h h2 h3 h4 h5 h6 e0 => exact absurd (e0.symm.trans HZ.out) (by decide)
      | mode h h2 h3 h4 h5 h6 h7 e0 => exact absurd (e0.symm.trans HZ.out) (by decide)
      | shape hf h8 e0 => exact absurd (e0.symm.trans HZ.out) (by decide)
      | fine hf h8 e0 =>
        have E0 := Lib.hid e0
        clear e0
        obtain ⟨h, h2, h3, h4, h5, h6, h7⟩ := hf
        go_wp2_with fail
        refine (name_any _ _).mono ?_
        rintro e w2 ⟨rfl, hb2⟩
        have K := (HK0.out _).step hb2
        have e1 := K.b1.cell
        have e2 := K.b2.cell
        have hz2 := hb2.size
        simp at hz2
        have L2 := hL.here K.bel (Nat.le_refl _) K.hB
        have HL2 := Lib.hid L2
        clear L2
        rw [h]
        go_wp2_with fail
        refine (find_any W H _ _ c ms _ _ HL2.out (by omega)).mono ?_
        rintro e w3 ⟨rfl, hb3⟩
        have K3 := K.step hb3
        have e3 := K3.b1.cell
        have e4 := K3.b2.cell
        have hz3 := hb3.size
        go_wp2_with fail
        refine (cnear_any _ _).mono ?_
        rintro e w4 ⟨rfl, rfl⟩
        rw [h3]
        go_wp2_with fail
        refine (cnear_any _ _).mono ?_
        rintro e w4 ⟨rfl, rfl⟩
        rw [h4]
        go_wp2_with fail
        refine (mode_any _ _).mono ?_
        rintro e w4 ⟨rfl, rfl⟩
        rw [h7]
        go_wp2_with fail
        refine (rright_any _ _ _ _ _ _).mono ?_
        rintro e w5 ⟨rfl, hb5⟩
        have K5 := K3.step hb5
        have e5 := K5.b1.cell
        have e6 := K5.b2.cell
        have hz5 := hb5.size
        unfold rightM at h8
        rw [h8]
        go_wp2_with fail
        go_roundw
        case rel =>
          refine ⟨k + 1, by omega, by go_num, K5.b1, K5.bel, fun j hj hjk => ?_⟩
          by_cases ej : j = k
          · subst ej; rw [← HM.out]; exact E0.out
          · exact HA.out j hj (by omega)
        case measure => simp [intOf]; omega
    · go_wp2_with fail
      go_ret
      exact ⟨rfl, hb⟩
end Go.Proofs.YtmknacnmdlcieaaGreatDoor
