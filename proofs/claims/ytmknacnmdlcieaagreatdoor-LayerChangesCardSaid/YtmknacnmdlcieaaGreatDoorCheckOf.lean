/- layercakeref3.CheckOf: the walk. -/
import Derived.Test.YtmknacnmdlcieaaGreatDoorRefBase
import Derived.Test.YtmknacnmdlcieaaGreatDoorChk
import Derived.Deep.QuietTactic
import Derived.BigQuiet
namespace Go.Proofs.YtmknacnmdlcieaaGreatDoor
open Go Go.RowKit

/-- Three blocks that stand, and nothing below turned. -/
structure B3 (B : Nat) (w0 w : World) (g1 t1 : Nat) (c1 : Array Value) (g2 t2 : Nat) (c2 : Array Value) (g3 t3 : Nat) (c3 : Array Value) : Prop where
  b1 : Blk w g1 t1 c1
  b2 : Blk w g2 t2 c2
  b3 : Blk w g3 t3 c3
  bel : Below B w0 w
  hB : B ≤ w.heap.size
theorem B3.step {B : Nat} {w0 w w' : World} {g1 t1 : Nat} {c1 : Array Value} {g2 t2 : Nat} {c2 : Array Value} {g3 t3 : Nat} {c3 : Array Value} (h : B3 B w0 w g1 t1 c1 g2 t2 c2 g3 t3 c3) (hb : Below w.heap.size w w') : B3 B w0 w' g1 t1 c1 g2 t2 c2 g3 t3 c3 :=
  ⟨h.b1.below hb h.b1.lt, h.b2.below hb h.b2.lt, h.b3.below hb h.b3.lt, h.bel.trans (hb.mono h.hB), by have := hb.size; have := h.hB; omega⟩
theorem Lays.here {w w' : World} {B n : Nat} {A : Option Addr} {ms : List LM} (h : Lays w B A n ms) {C : Nat} (hb : Below C w w') (hC : B ≤ C) (hs : B ≤ w'.heap.size) : Lays w' w'.heap.size A n ms := (h.below hb hC).more hs
def faultV (f : Nat × Int) : Value := .agg #[.int .i64 f.1, .int .i64 f.2]

/-- The relation of CheckOf's loop. -/
structure CkR (W H : Int) (A : Option Addr) (c : Nat) (ms : List LM) (w : World) (i : Value) (wr : World) (k : Nat) : Prop where
  hk : k ≤ ms.length
  hi : i = .int .i64 k
  b1 : Blk wr w.heap.size 24 #[.int .i64 W, .int .i64 H, .slice A ms.length c]
  b2 : Blk wr (w.heap.size + 1) 34 #[.int .i64 0, .int .i64 0]
  bel : Below w.heap.size w wr
  all : ∀ j, (hj : j < ms.length) → j < k → Lay.faultAt (lsOf ms) j ms[j].l = 0

theorem bare_any (n : Int) (w : World) : Calls Tryz.prog 14 #[.int .i64 n] w fun e w' => e = .returned (.agg #[.int .i64 n, .int .i64 (-1)]) ∧ Below w.heap.size w w' := by
  go_enter Tryz.func14, Tryz.ntmps14
  go_wp2_with fail
  exact bodyPost_ret (v := .agg #[.int .i64 n, .int .i64 (-1)]) (by simp [results, Tryz.results14, go_sem]) rfl ⟨rfl, by go_grown⟩
theorem fine_any (w : World) : Calls Tryz.prog 29 #[] w fun e w' => e = .returned (.agg #[.int .i64 0, .int .i64 (-1)]) ∧ Below w.heap.size w w' := by
  go_enter Tryz.func29, Tryz.ntmps29
  go_wp2_with fail
  exact bodyPost_ret (v := .agg #[.int .i64 0, .int .i64 (-1)]) (by simp [results, Tryz.results29, go_sem]) rfl ⟨rfl, by go_grown⟩

set_option maxRecDepth 100000 in
set_option maxHeartbeats 2000000 in
theorem checkOf_bound (W H : Int) (A : Option Addr) (n c : Nat) (ls : List Lay.Layer) (w : World) (hl : n = ls.length) (h : sideB W = false ∨ sideB H = false ∨ 8 < n) :
    Calls Tryz.prog 7 #[.agg #[.int .i64 W, .int .i64 H, .slice A n c]] w fun e w' => e = .returned (faultV (Lay.check W H ls)) ∧ Below w.heap.size w w' := by
  have HE := Lib.hid (show faultV (Lay.check W H ls) = .agg #[.int .i64 2, .int .i64 (-1)] by
    rw [Lay.check_bound (by rw [← hl]; exact h)]; rfl)
  clear hl
  obtain ⟨sW, hW⟩ : ∃ b, sideB W = b := ⟨_, rfl⟩
  obtain ⟨sH, hH⟩ : ∃ b, sideB H = b := ⟨_, rfl⟩
  go_enter Tryz.func7, Tryz.ntmps7
  go_wp2_with fail
  refine (pside_any W _).mono ?_
  rintro e w1 ⟨rfl, rfl⟩
  rw [hW]
  cases sW with
  | false =>
    go_wp2_with fail
    refine (bare_any 2 _).mono ?_
    rintro e w1 ⟨rfl, hb1⟩
    obtain ⟨hc, hf⟩ := bcell hb1
    have hz := hb1.size
    simp at hz
    go_wp2_with fail
    refine bodyPost_ret (v := .agg #[.int .i64 2, .int .i64 (-1)]) (by simp [results, Tryz.results7, go_sem, hc]) rfl ⟨by rw [HE.out], ?_⟩
    exact ((Below.trans (by go_grown) (hb1.mono (by simp; omega))).setCell (by simp) _).setCell (by simp) _
  | true =>
    go_wp2_with fail
    refine (pside_any H _).mono ?_
    rintro e w1 ⟨rfl, rfl⟩
    rw [hH]
    cases sH with
    | false =>
      go_wp2_with fail
      refine (bare_any 2 _).mono ?_
      rintro e w1 ⟨rfl, hb1⟩
      obtain ⟨hc, hf⟩ := bcell hb1
      have hz := hb1.size
      simp at hz
      go_wp2_with fail
      refine bodyPost_ret (v := .agg #[.int .i64 2, .int .i64 (-1)]) (by simp [results, Tryz.results7, go_sem, hc]) rfl ⟨by rw [HE.out], ?_⟩
      exact ((Below.trans (by go_grown) (hb1.mono (by simp; omega))).setCell (by simp) _).setCell (by simp) _
    | true =>
      have h8 : 8 < n := by
        rcases h with h | h | h
        · rw [hW] at h; cases h
        · rw [hH] at h; cases h
        · exact h
      clear h
      have h8' : (8 : Int) < n := by omega
      go_wp2_with fail
      refine (bare_any 2 _).mono ?_
      rintro e w1 ⟨rfl, hb1⟩
      obtain ⟨hc, hf⟩ := bcell hb1
      have hz := hb1.size
      simp at hz
      go_wp2_with fail
      refine bodyPost_ret (v := .agg #[.int .i64 2, .int .i64 (-1)]) (by simp [results, Tryz.results7, go_sem, hc]) rfl ⟨by rw [HE.out], ?_⟩
      exact ((Below.trans (by go_grown) (hb1.mono (by simp; omega))).setCell (by simp) _).setCell (by simp) _

set_option maxRecDepth 100000 in
set_option maxHeartbeats 8000000 in
theorem checkOf_in (W H : Int) (A : Option Addr) (n c : Nat) (ms : List LM) (w : World) (hL : Lays w w.heap.size A n ms) (hW : sideB W = true) (hH : sideB H = true) (hn : n ≤ 8) :
    Calls Tryz.prog 7 #[.agg #[.int .i64 W, .int .i64 H, .slice A n c]] w fun e w' => e = .returned (faultV (Lay.check W H (lsOf ms))) ∧ Below w.heap.size w w' := by
  obtain rfl := hL.len
  obtain ⟨r, hr⟩ : ∃ r, r = Lay.check W H (lsOf ms) := ⟨_, rfl⟩
  rw [← hr]
  have HR := Lib.hid hr
  have HW := Lib.hid hW
  have HH := Lib.hid hH
  clear hr
  have hn' := Int.ofNat_le.2 hn
  go_enter Tryz.func7, Tryz.ntmps7
  go_wp2_with fail
  refine (pside_any W _).mono ?_
  rintro e w1 ⟨rfl, rfl⟩
  rw [hW]
  go_wp2_with fail
  refine (pside_any H _).mono ?_
  rintro e w1 ⟨rfl, rfl⟩
  rw [hH]
  clear hW hH
  go_wp2_with fail
  go_loopw [3] (fun i wr => ∃ k : Nat, CkR W H A c ms w i wr k) (fun i _ => ms.length - (intOf i).toNat)
  case atStart => exact ⟨0, Nat.zero_le _, rfl, (Blk.new _ _ _ rfl).alloc _, Blk.new _ _ _ (by simp), by go_grown, fun j _ hj => by omega⟩
  case round =>
    obtain ⟨k, hk, rfl, h1, h2, hb, hall⟩ := hrel
    obtain ⟨wo, rfl⟩ : ∃ wo : World, wo = wr := ⟨_, rfl⟩
    have HA := Lib.hid hall
    clear hall
    have hBs := h2.lt
    have hwl := h1.lt
    have d1 := h1.cell
    have d2 := h2.cell
    have f2 := h2.free
    by_cases hlt : k < ms.length
    · obtain ⟨b, off, rfl, hbl⟩ := hL.1.addr (by omega)
      have hLo := hL.below hb (Nat.le_refl _)
      have q0 := hLo.at k hlt 0 (by omega)
      have q1 := hLo.at k hlt 1 (by omega)
      have q2 := hLo.at k hlt 2 (by omega)
      have q3 := hLo.at k hlt 3 (by omega)
      have q4 := hLo.at k hlt 4 (by omega)
      have q5 := hLo.at k hlt 5 (by omega)
      have q6 := hLo.at k hlt 6 (by omega)
      have q7 := hLo.at k hlt 7 (by omega)
      have q8 := hLo.at k hlt 8 (by omega)
      have hpn := (hLo.px k hlt).pxLen
      have fc := fault_case (lsOf ms) k ms[k] hpn
      have HCK := Lib.hid (fun f hf h0 => check_here (W := W) (H := H) HW.out HH.out hn k hlt HA.out f hf h0)
      obtain ⟨m, hm⟩ : ∃ m, m = ms[k] := ⟨_, rfl⟩
      rw [← hm] at q0 q1 q2 q3 q4 q5 q6 q7 q8 fc hpn HCK
      have HM := Lib.hid hm
      have HPN := Lib.hid hpn
      clear hm hpn
      simp only [layCs, List.getElem?_cons_zero, List.getElem?_cons_succ] at q0 q1 q2 q3 q4 q5 q6 q7 q8
      rw [Nat.add_zero] at q0
      have K0 : ∀ o, B3 w.heap.size w (wo.alloc (.cells o 29)) w.heap.size 24 #[.int .i64 W, .int .i64 H, .slice (some ⟨b, off, none⟩) ms.length c] (w.heap.size + 1) 34 #[.int .i64 0, .int .i64 0] wo.heap.size 29 o :=
        fun o => ⟨h1.alloc _, h2.alloc _, Blk.new _ _ _ rfl, hb.alloc (by omega) _, by simp; omega⟩
      have HK0 := Lib.hid K0
      clear K0 hLo
      cases fc with
      | name h e0 =>
        have E0 := Lib.hid e0
        clear e0
        go_wp2_with fail
        refine (isName_any _ _).mono ?_
        rintro e w3 ⟨rfl, hw⟩
        rw [h]
        have K := HK0.out #[.string m.l.name, .int .i64 m.l.x, .int .i64 m.l.y, .bool m.l.hidden, .int .i64 m.l.opacity, .int .i64 m.l.mode, .int .i64 m.l.wide, .int .i64 m.l.high, .slice m.A m.n m.c]
        rw [← hw] at K
        clear hw
        have e2 := K.b2.cell
        have e4 := K.b2.free
        have e3 := K.b3.cell
        go_wp2_with fail
        refine bodyPost_ret (v := .agg #[.int .i64 5, .int .i64 k]) (by simp [results, Tryz.results7, go_sem, e2]) rfl ⟨by rw [HR.out, HCK.out 5 E0.out (by decide)] <;> rfl, ?_⟩
        exact ((K.bel).setCell (by simp) _).setCell (by simp) _
      | twice h h2 e0 =>
        have E0 := Lib.hid e0
        clear e0
        go_wp2_with fail
        refine (isName_any _ _).mono ?_
        rintro e w1 ⟨rfl, rfl⟩
        rw [h]
        go_wp2_with fail
        refine (refFind_any W H _ _ c ms _ _ (hL.here (HK0.out _).bel (Nat.le_refl _) (by simp; omega)) (by omega)).mono ?_
        rintro e w3 ⟨rfl, hb3⟩
        have K := (HK0.out _).step hb3
        have e1 := K.b1.cell
        have e2 := K.b2.cell
        have e3 := K.b3.cell
        have e4 := K.b2.free
        have hz := hb3.size
        simp at hz
        go_wp2_with fail
        refine bodyPost_ret (v := .agg #[.int .i64 5, .int .i64 k]) (by simp [results, Tryz.results7, go_sem, e2]) rfl ⟨by rw [HR.out, HCK.out 5 E0.out (by decide)] <;> rfl, ?_⟩
        exact ((K.bel).setCell (by simp) _).setCell (by simp) _
      | x h h2 h3 e0 =>
        have E0 := Lib.hid e0
        clear e0
        go_wp2_with fail
        refine (isName_any _ _).mono ?_
        rintro e w1 ⟨rfl, rfl⟩
        rw [h]
        go_wp2_with fail
        refine (refFind_any W H _ _ c ms _ _ (hL.here (HK0.out _).bel (Nat.le_refl _) (by simp; omega)) (by omega)).mono ?_
        rintro e w3 ⟨rfl, hb3⟩
        have K := (HK0.out _).step hb3
        have e1 := K.b1.cell
        have e2 := K.b2.cell
        have e3 := K.b3.cell
        have e4 := K.b2.free
        have hz := hb3.size
        simp at hz
        go_wp2_with fail
        refine (near_any _ _).mono ?_
        rintro e w4 ⟨rfl, rfl⟩
        rw [h3]
        go_wp2_with fail
        refine bodyPost_ret (v := .agg #[.int .i64 2, .int .i64 k]) (by simp [results, Tryz.results7, go_sem, e2]) rfl ⟨by rw [HR.out, HCK.out 2 E0.out (by decide)] <;> rfl, ?_⟩
        exact ((K.bel).setCell (by simp) _).setCell (by simp) _
      | y h h2 h3 h4 e0 =>
        have E0 := Lib.hid e0
        clear e0
        go_wp2_with fail
        refine (isName_any _ _).mono ?_
        rintro e w1 ⟨rfl, rfl⟩
        rw [h]
        go_wp2_with fail
        refine (refFind_any W H _ _ c ms _ _ (hL.here (HK0.out _).bel (Nat.le_refl _) (by simp; omega)) (by omega)).mono ?_
        rintro e w3 ⟨rfl, hb3⟩
        have K := (HK0.out _).step hb3
        have e1 := K.b1.cell
        have e2 := K.b2.cell
        have e3 := K.b3.cell
        have e4 := K.b2.free
        have hz := hb3.size
        simp at hz
        go_wp2_with fail
        refine (near_any _ _).mono ?_
        rintro e w4 ⟨rfl, rfl⟩
        rw [h3]
        go_wp2_with fail
        refine (near_any _ _).mono ?_
        rintro e w4 ⟨rfl, rfl⟩
        rw [h4]
        go_wp2_with fail
        refine bodyPost_ret (v := .agg #[.int .i64 2, .int .i64 k]) (by simp [results, Tryz.results7, go_sem, e2]) rfl ⟨by rw [HR.out, HCK.out 2 E0.out (by decide)] <;> rfl, ?_⟩
        exact ((K.bel).setCell (by simp) _).setCell (by simp) _
      | lo h h2 h3 h4 h5 e0 =>
        have E0 := Lib.hid e0
        clear e0
        go_wp2_with fail
        refine (isName_any _ _).mono ?_
        rintro e w1 ⟨rfl, rfl⟩
        rw [h]
        go_wp2_with fail
        refine (refFind_any W H _ _ c ms _ _ (hL.here (HK0.out _).bel (Nat.le_refl _) (by simp; omega)) (by omega)).mono ?_
        rintro e w3 ⟨rfl, hb3⟩
        have K := (HK0.out _).step hb3
        have e1 := K.b1.cell
        have e2 := K.b2.cell
        have e3 := K.b3.cell
        have e4 := K.b2.free
        have hz := hb3.size
        simp at hz
        go_wp2_with fail
        refine (near_any _ _).mono ?_
        rintro e w4 ⟨rfl, rfl⟩
        rw [h3]
        go_wp2_with fail
        refine (near_any _ _).mono ?_
        rintro e w4 ⟨rfl, rfl⟩
        rw [h4]
        go_wp2_with fail
        refine bodyPost_ret (v := .agg #[.int .i64 2, .int .i64 k]) (by simp [results, Tryz.results7, go_sem, e2]) rfl ⟨by rw [HR.out, HCK.out 2 E0.out (by decide)] <;> rfl, ?_⟩
        exact ((K.bel).setCell (by simp) _).setCell (by simp) _
      | hi h h2 h3 h4 h5 h6 e0 =>
        have E0 := Lib.hid e0
        clear e0
        go_wp2_with fail
        refine (isName_any _ _).mono ?_
        rintro e w1 ⟨rfl, rfl⟩
        rw [h]
        go_wp2_with fail
        refine (refFind_any W H _ _ c ms _ _ (hL.here (HK0.out _).bel (Nat.le_refl _) (by simp; omega)) (by omega)).mono ?_
        rintro e w3 ⟨rfl, hb3⟩
        have K := (HK0.out _).step hb3
        have e1 := K.b1.cell
        have e2 := K.b2.cell
        have e3 := K.b3.cell
        have e4 := K.b2.free
        have hz := hb3.size
        simp at hz
        go_wp2_with fail
        refine (near_any _ _).mono ?_
        rintro e w4 ⟨rfl, rfl⟩
        rw [h3]
        go_wp2_with fail
        refine (near_any _ _).mono ?_
        rintro e w4 ⟨rfl, rfl⟩
        rw [h4]
        go_wp2_with fail
        refine bodyPost_ret (v := .agg #[.int .i64 2, .int .i64 k]) (by simp [results, Tryz.results7, go_sem, e2]) rfl ⟨by rw [HR.out, HCK.out 2 E0.out (by decide)] <;> rfl, ?_⟩
        exact ((K.bel).setCell (by simp) _).setCell (by simp) _
      | mode h h2 h3 h4 h5 h6 h7 e0 =>
        have E0 := Lib.hid e0
        clear e0
        go_wp2_with fail
        refine (isName_any _ _).mono ?_
        rintro e w1 ⟨rfl, rfl⟩
        rw [h]
        go_wp2_with fail
        refine (refFind_any W H _ _ c ms _ _ (hL.here (HK0.out _).bel (Nat.le_refl _) (by simp; omega)) (by omega)).mono ?_
        rintro e w3 ⟨rfl, hb3⟩
        have K := (HK0.out _).step hb3
        have e1 := K.b1.cell
        have e2 := K.b2.cell
        have e3 := K.b3.cell
        have e4 := K.b2.free
        have hz := hb3.size
        simp at hz
        go_wp2_with fail
        refine (near_any _ _).mono ?_
        rintro e w4 ⟨rfl, rfl⟩
        rw [h3]
        go_wp2_with fail
        refine (near_any _ _).mono ?_
        rintro e w4 ⟨rfl, rfl⟩
        rw [h4]
        go_wp2_with fail
        refine (isMode_any _ _).mono ?_
        rintro e w4 ⟨rfl, rfl⟩
        rw [h7]
        go_wp2_with fail
        refine bodyPost_ret (v := .agg #[.int .i64 2, .int .i64 k]) (by simp [results, Tryz.results7, go_sem, e2]) rfl ⟨by rw [HR.out, HCK.out 2 E0.out (by decide)] <;> rfl, ?_⟩
        exact ((K.bel).setCell (by simp) _).setCell (by simp) _
      | shape hf h8 e0 =>
        have E0 := Lib.hid e0
        clear e0
        obtain ⟨h, h2, h3, h4, h5, h6, h7⟩ := hf
        go_wp2_with fail
        refine (isName_any _ _).mono ?_
        rintro e w1 ⟨rfl, rfl⟩
        rw [h]
        go_wp2_with fail
        refine (refFind_any W H _ _ c ms _ _ (hL.here (HK0.out _).bel (Nat.le_refl _) (by simp; omega)) (by omega)).mono ?_
        rintro e w3 ⟨rfl, hb3⟩
        have K := (HK0.out _).step hb3
        have e1 := K.b1.cell
        have e2 := K.b2.cell
        have e3 := K.b3.cell
        have e4 := K.b2.free
        have hz := hb3.size
        simp at hz
        go_wp2_with fail
        refine (near_any _ _).mono ?_
        rintro e w4 ⟨rfl, rfl⟩
        rw [h3]
        go_wp2_with fail
        refine (near_any _ _).mono ?_
        rintro e w4 ⟨rfl, rfl⟩
        rw [h4]
        go_wp2_with fail
        refine (isMode_any _ _).mono ?_
        rintro e w4 ⟨rfl, rfl⟩
        rw [h7]
        go_wp2_with fail
        refine (pright_any _ _ _ _ _ _).mono ?_
        rintro e w5 ⟨rfl, hb5⟩
        have K5 := K.step hb5
        have e5 := K5.b1.cell
        have e6 := K5.b2.cell
        have e7 := K5.b2.free
        have hz5 := hb5.size
        unfold rightM at h8
        rw [h8]
        go_wp2_with fail
        refine bodyPost_ret (v := .agg #[.int .i64 3, .int .i64 k]) (by simp [results, Tryz.results7, go_sem, e6]) rfl ⟨by rw [HR.out, HCK.out 3 E0.out (by decide)] <;> rfl, ?_⟩
        exact ((K5.bel).setCell (by simp) _).setCell (by simp) _
      | fine hf h8 e0 =>
        have E0 := Lib.hid e0
        clear e0
        obtain ⟨h, h2, h3, h4, h5, h6, h7⟩ := hf
        go_wp2_with fail
        refine (isName_any _ _).mono ?_
        rintro e w1 ⟨rfl, rfl⟩
        rw [h]
        go_wp2_with fail
        refine (refFind_any W H _ _ c ms _ _ (hL.here (HK0.out _).bel (Nat.le_refl _) (by simp; omega)) (by omega)).mono ?_
        rintro e w3 ⟨rfl, hb3⟩
        have K := (HK0.out _).step hb3
        have e1 := K.b1.cell
        have e2 := K.b2.cell
        have e3 := K.b3.cell
        have e4 := K.b2.free
        have hz := hb3.size
        simp at hz
        go_wp2_with fail
        refine (near_any _ _).mono ?_
        rintro e w4 ⟨rfl, rfl⟩
        rw [h3]
        go_wp2_with fail
        refine (near_any _ _).mono ?_
        rintro e w4 ⟨rfl, rfl⟩
        rw [h4]
        go_wp2_with fail
        refine (isMode_any _ _).mono ?_
        rintro e w4 ⟨rfl, rfl⟩
        rw [h7]
        go_wp2_with fail
        refine (pright_any _ _ _ _ _ _).mono ?_
        rintro e w5 ⟨rfl, hb5⟩
        have K5 := K.step hb5
        have e5 := K5.b1.cell
        have e6 := K5.b2.cell
        have e7 := K5.b2.free
        have hz5 := hb5.size
        unfold rightM at h8
        rw [h8]
        go_wp2_with fail
        go_roundw
        case rel =>
          refine ⟨k + 1, by omega, by go_num, K5.b1, K5.b2, K5.bel, fun j hj hjk => ?_⟩
          by_cases ej : j = k
          · subst ej; rw [← HM.out]; exact E0.out
          · exact HA.out j hj (by omega)
        case measure => simp [intOf]; omega
    · have HK := Lib.hid (check_fine (W := W) (H := H) HW.out HH.out hn (ms := ms) fun j hj => HA.out j hj (by omega))
      go_wp2_with fail
      refine (fine_any _).mono ?_
      rintro e w1 ⟨rfl, hb1⟩
      have b2 := h2.below hb1 h2.lt
      have e2 := b2.cell
      have e4 := b2.free
      have hz := hb1.size
      go_wp2_with fail
      refine bodyPost_ret (v := .agg #[.int .i64 0, .int .i64 (-1)]) (by simp [results, Tryz.results7, go_sem, e2]) rfl ⟨by rw [HR.out, HK.out] <;> rfl, ?_⟩
      exact ((hb.trans (hb1.mono (by omega))).setCell (by simp) _).setCell (by simp) _

theorem checkOf_any (W H : Int) (A : Option Addr) (n c : Nat) (ms : List LM) (w : World) (hL : Lays w w.heap.size A n ms) :
    Calls Tryz.prog 7 #[.agg #[.int .i64 W, .int .i64 H, .slice A n c]] w fun e w' => e = .returned (faultV (Lay.check W H (lsOf ms))) ∧ Below w.heap.size w w' := by
  by_cases h : sideB W = false ∨ sideB H = false ∨ 8 < n
  · exact checkOf_bound W H A n c (lsOf ms) w (by rw [lsOf_len]; exact hL.len) h
  · have hW : sideB W = true := by
      cases e : sideB W with
      | true => rfl
      | false => exact absurd (.inl e) h
    have hH : sideB H = true := by
      cases e : sideB H with
      | true => rfl
      | false => exact absurd (.inr (.inl e)) h
    exact checkOf_in W H A n c ms w hL hW hH (Nat.le_of_not_lt fun e => h (.inr (.inr e)))
end Go.Proofs.YtmknacnmdlcieaaGreatDoor
