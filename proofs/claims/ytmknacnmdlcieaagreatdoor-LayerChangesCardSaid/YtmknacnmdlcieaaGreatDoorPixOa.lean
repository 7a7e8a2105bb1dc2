/- pixel.Over at mode 0: the walk. pixel.Over at mode 1: the walk. -/
import Derived.Test.YtmknacnmdlcieaaGreatDoorPix4
import Derived.Deep.RegionHeld3
import Derived.BigRegion
namespace Go.Proofs.YtmknacnmdlcieaaGreatDoor
open Go Go.RowKit

set_option maxRecDepth 100000 in
set_option maxHeartbeats 4000000 in
theorem over0_any (t u : Px) (w : World) (hc : 0 < Pix.covers t.a.toNat u.a.toNat) :
    Calls Tryz.prog 60 #[.int .i64 0, pxV t, pxV u] w fun e w' => e = .returned (.tuple #[pxV (Pix.over 0 t u), .nilIface]) ∧ Below w.heap.size w w' := by
  obtain ⟨a1, a2⟩ := Pix.a_nonneg t.a
  obtain ⟨b1, b2⟩ := Pix.a_nonneg u.a
  obtain ⟨r1, r2⟩ := Pix.a_nonneg t.r
  obtain ⟨r3, r4⟩ := Pix.a_nonneg u.r
  obtain ⟨g1, g2⟩ := Pix.a_nonneg t.g
  obtain ⟨g3, g4⟩ := Pix.a_nonneg u.g
  obtain ⟨h1, h2⟩ := Pix.a_nonneg t.b
  obtain ⟨h3, h4⟩ := Pix.a_nonneg u.b
  obtain ⟨x3, x4⟩ := mul_bounds b1 b2 (show 0 ≤ 255 - (t.a.toNat : Int) by omega) (show 255 - (t.a.toNat : Int) ≤ 255 by omega)
  obtain ⟨_, _, c3⟩ := Pix.covers_bound a1 a2 b1 b2
  have HO := Lib.hid (show Pix.over 0 t u = ⟨Pix.u8 (Pix.col 0 t.a.toNat u.a.toNat t.r.toNat u.r.toNat), Pix.u8 (Pix.col 0 t.a.toNat u.a.toNat t.g.toNat u.g.toNat), Pix.u8 (Pix.col 0 t.a.toNat u.a.toNat t.b.toNat u.b.toNat), Pix.u8 (Pix.rnd (Pix.covers t.a.toNat u.a.toNat) 255)⟩ by rw [Pix.over, if_neg (by omega)])
  have hce : Pix.covers t.a.toNat u.a.toNat = 255 * t.a.toNat + u.a.toNat * (255 - t.a.toNat) := rfl
  have HC := Lib.hid hc
  rw [hce] at hc c3
  clear hce
  have hst := @run_store_func Tryz.prog
  have hmf : ∀ (fn : Fn) (first cap : Array Value) (w : World), (Instr.makeFunc fn first cap).run Tryz.prog w = .ok (.func fn first cap) w := fun _ _ _ _ => rfl
  have hix : ∀ w, (Instr.index 107 (.agg #[.func (.func 85) #[] #[], .func (.func 86) #[] #[], .func (.func 87) #[] #[], .func (.func 88) #[] #[], .func (.func 89) #[] #[], .func (.func 90) #[] #[]]) (.int .i64 0)).run Tryz.prog w = .ok (.func (.func 85) #[] #[]) w := fun _ => by kernel_rfl
  unfold pxV
  go_enter Tryz.func60, Tryz.ntmps60
  go_wp2_with fail
  refine (mode_any 0 _).mono ?_
  rintro e w1 ⟨rfl, rfl⟩
  rw [show modeB 0 = true by decide]
  go_wp2_with fail
  go_region
  · go_wp2_with fail
    refine (blends_any _).mono ?_
    rintro e w2 ⟨rfl, hb2⟩
    unfold blendV
    have hz2 : w.heap.size + 6 ≤ w2.heap.size := by have := hb2.size; simpa using this
    have e0 : w2.cell? ⟨w.heap.size, 0, none⟩ = some (.int .u8 t.r.toNat) := bcell_ hb2 (by first | omega | (simp; done) | (simp; omega)) (by go_simp)
    have e1 : w2.cell? ⟨w.heap.size, 1, none⟩ = some (.int .u8 t.g.toNat) := bcell_ hb2 (by first | omega | (simp; done) | (simp; omega)) (by go_simp)
    have e2 : w2.cell? ⟨w.heap.size, 2, none⟩ = some (.int .u8 t.b.toNat) := bcell_ hb2 (by first | omega | (simp; done) | (simp; omega)) (by go_simp)
    have e3 : w2.cell? ⟨w.heap.size + 1, 0, none⟩ = some (.int .u8 u.r.toNat) := bcell_ hb2 (by first | omega | (simp; done) | (simp; omega)) (by go_simp)
    have e4 : w2.cell? ⟨w.heap.size + 1, 1, none⟩ = some (.int .u8 u.g.toNat) := bcell_ hb2 (by first | omega | (simp; done) | (simp; omega)) (by go_simp)
    have e5 : w2.cell? ⟨w.heap.size + 1, 2, none⟩ = some (.int .u8 u.b.toNat) := bcell_ hb2 (by first | omega | (simp; done) | (simp; omega)) (by go_simp)
    have z0 : w2.cell? ⟨w.heap.size + 1 + 1, 0, none⟩ = some (.int .u8 0) := bcell_ hb2 (by first | omega | (simp; done) | (simp; omega)) (by go_simp)
    have z1 : w2.cell? ⟨w.heap.size + 1 + 1, 1, none⟩ = some (.int .u8 0) := bcell_ hb2 (by first | omega | (simp; done) | (simp; omega)) (by go_simp)
    have z2 : w2.cell? ⟨w.heap.size + 1 + 1, 2, none⟩ = some (.int .u8 0) := bcell_ hb2 (by first | omega | (simp; done) | (simp; omega)) (by go_simp)
    have z3 : w2.cell? ⟨w.heap.size + 1 + 1, 3, none⟩ = some (.int .u8 0) := bcell_ hb2 (by first | omega | (simp; done) | (simp; omega)) (by go_simp)
    have f0 : w2.frozen? ⟨w.heap.size + 1 + 1, 0, none⟩ = false := bfree_ hb2 (by first | omega | (simp; done) | (simp; omega)) (by go_simp)
    have f1 : w2.frozen? ⟨w.heap.size + 1 + 1, 1, none⟩ = false := bfree_ hb2 (by first | omega | (simp; done) | (simp; omega)) (by go_simp)
    have f2 : w2.frozen? ⟨w.heap.size + 1 + 1, 2, none⟩ = false := bfree_ hb2 (by first | omega | (simp; done) | (simp; omega)) (by go_simp)
    have f3 : w2.frozen? ⟨w.heap.size + 1 + 1, 3, none⟩ = false := bfree_ hb2 (by first | omega | (simp; done) | (simp; omega)) (by go_simp)
    have ea : w2.cell? ⟨w.heap.size + 1 + 1 + 1, 0, none⟩ = some (.int .i64 t.a.toNat) := bcell_ hb2 (by first | omega | (simp; done) | (simp; omega)) (by go_simp)
    have eb : w2.cell? ⟨w.heap.size + 1 + 1 + 1 + 1, 0, none⟩ = some (.int .i64 u.a.toNat) := bcell_ hb2 (by first | omega | (simp; done) | (simp; omega)) (by go_simp)
    have ec : w2.cell? ⟨w.heap.size + 1 + 1 + 1 + 1 + 1, 0, none⟩ = some (.int .i64 (255 * t.a.toNat + u.a.toNat * (255 - t.a.toNat))) := bcell_ hb2 (by first | omega | (simp; done) | (simp; omega)) (by go_simp)
    have hbw : Below w.heap.size w w2 := Below.trans (by go_grown) (hb2.mono (by first | omega | (simp; done) | (simp; omega)))
    clear hb2
    have z0' : ∀ o, (w2.alloc o).cell? ⟨w.heap.size + 1 + 1, 0, none⟩ = some (.int .u8 0) := fun o => cell_past o z0
    have f0' : ∀ o, (w2.alloc o).frozen? ⟨w.heap.size + 1 + 1, 0, none⟩ = false := fun o => free_past o (by show w.heap.size + 1 + 1 < w2.heap.size; omega) f0
    have z1' : ∀ o, (w2.alloc o).cell? ⟨w.heap.size + 1 + 1, 1, none⟩ = some (.int .u8 0) := fun o => cell_past o z1
    have f1' : ∀ o, (w2.alloc o).frozen? ⟨w.heap.size + 1 + 1, 1, none⟩ = false := fun o => free_past o (by show w.heap.size + 1 + 1 < w2.heap.size; omega) f1
    have z2' : ∀ o, (w2.alloc o).cell? ⟨w.heap.size + 1 + 1, 2, none⟩ = some (.int .u8 0) := fun o => cell_past o z2
    have f2' : ∀ o, (w2.alloc o).frozen? ⟨w.heap.size + 1 + 1, 2, none⟩ = false := fun o => free_past o (by show w.heap.size + 1 + 1 < w2.heap.size; omega) f2
    have z3' : ∀ o, (w2.alloc o).cell? ⟨w.heap.size + 1 + 1, 3, none⟩ = some (.int .u8 0) := fun o => cell_past o z3
    have f3' : ∀ o, (w2.alloc o).frozen? ⟨w.heap.size + 1 + 1, 3, none⟩ = false := fun o => free_past o (by show w.heap.size + 1 + 1 < w2.heap.size; omega) f3
    have hne1 : ¬ (w.heap.size + 1 + 1 = w.heap.size) := by omega
    have hne2 : ¬ (w.heap.size = w.heap.size + 1 + 1) := by omega
    go_wp2_with fail
    go_region_held3 (fun w' => w'.cell? ⟨w.heap.size, 0, none⟩ = some (.int .u8 t.r.toNat) ∧ w'.cell? ⟨w.heap.size, 1, none⟩ = some (.int .u8 t.g.toNat) ∧ w'.cell? ⟨w.heap.size, 2, none⟩ = some (.int .u8 t.b.toNat) ∧ w'.cell? ⟨w.heap.size + 1, 0, none⟩ = some (.int .u8 u.r.toNat) ∧ w'.cell? ⟨w.heap.size + 1, 1, none⟩ = some (.int .u8 u.g.toNat) ∧ w'.cell? ⟨w.heap.size + 1, 2, none⟩ = some (.int .u8 u.b.toNat) ∧ w'.cell? ⟨w.heap.size + 1 + 1 + 1 + 1 + 1, 0, none⟩ = some (.int .i64 (255 * t.a.toNat + u.a.toNat * (255 - t.a.toNat))) ∧ w'.cell? ⟨w.heap.size + 1 + 1 + 1, 0, none⟩ = some (.int .i64 t.a.toNat) ∧ w'.cell? ⟨w.heap.size + 1 + 1 + 1 + 1, 0, none⟩ = some (.int .i64 u.a.toNat))
          (go_keep)
          ((first | (go_at_call 75; refine (overc0_any _ _ _ _ t.a.toNat u.a.toNat _ _ _ _ rfl a1 a2 b1 b2 (by omega) (by omega) (by omega) (by omega) HC.out (by go_simp) (by go_simp) (by go_simp) (by unfold Pix.covers; go_simp)).mono ?_; rintro e w3 ⟨rfl, q3, rfl⟩) | (go_at_call 73; refine (round_any _ _ _ _ rfl (by omega) (by omega) (by omega) (by omega)).mono ?_; rintro e w3 ⟨rfl, rfl⟩)))
    go_wp2_with fail
    refine bodyPost_ret (v := .tuple #[.agg #[.int .u8 (Pix.u8 (Pix.col 0 t.a.toNat u.a.toNat t.r.toNat u.r.toNat)).toNat, .int .u8 (Pix.u8 (Pix.col 0 t.a.toNat u.a.toNat t.g.toNat u.g.toNat)).toNat, .int .u8 (Pix.u8 (Pix.col 0 t.a.toNat u.a.toNat t.b.toNat u.b.toNat)).toNat, .int .u8 (Pix.u8 (Pix.rnd (255 * t.a.toNat + u.a.toNat * (255 - t.a.toNat)) 255)).toNat], .nilIface]) (by simp [results, Tryz.results60, go_sem, *]) rfl ⟨by rw [HO.out]; rfl, ?_⟩
    exact (((((below_drewN (Below.alloc hbw (by omega) _) _).setCell (by first | omega | (simp; done) | (simp; omega)) _).setCell (by first | omega | (simp; done) | (simp; omega)) _).setCell (by first | omega | (simp; done) | (simp; omega)) _).setCell (by first | omega | (simp; done) | (simp; omega)) _)
  · go_wp2_with fail
    refine (blends_any _).mono ?_
    rintro e w2 ⟨rfl, hb2⟩
    unfold blendV
    have hz2 : w.heap.size + 6 ≤ w2.heap.size := by have := hb2.size; simpa using this
    have e0 : w2.cell? ⟨w.heap.size, 0, none⟩ = some (.int .u8 t.r.toNat) := bcell_ hb2 (by first | omega | (simp; done) | (simp; omega)) (by go_simp)
    have e1 : w2.cell? ⟨w.heap.size, 1, none⟩ = some (.int .u8 t.g.toNat) := bcell_ hb2 (by first | omega | (simp; done) | (simp; omega)) (by go_simp)
    have e2 : w2.cell? ⟨w.heap.size, 2, none⟩ = some (.int .u8 t.b.toNat) := bcell_ hb2 (by first | omega | (simp; done) | (simp; omega)) (by go_simp)
    have e3 : w2.cell? ⟨w.heap.size + 1, 0, none⟩ = some (.int .u8 u.r.toNat) := bcell_ hb2 (by first | omega | (simp; done) | (simp; omega)) (by go_simp)
    have e4 : w2.cell? ⟨w.heap.size + 1, 1, none⟩ = some (.int .u8 u.g.toNat) := bcell_ hb2 (by first | omega | (simp; done) | (simp; omega)) (by go_simp)
    have e5 : w2.cell? ⟨w.heap.size + 1, 2, none⟩ = some (.int .u8 u.b.toNat) := bcell_ hb2 (by first | omega | (simp; done) | (simp; omega)) (by go_simp)
    have z0 : w2.cell? ⟨w.heap.size + 1 + 1, 0, none⟩ = some (.int .u8 0) := bcell_ hb2 (by first | omega | (simp; done) | (simp; omega)) (by go_simp)
    have z1 : w2.cell? ⟨w.heap.size + 1 + 1, 1, none⟩ = some (.int .u8 0) := bcell_ hb2 (by first | omega | (simp; done) | (simp; omega)) (by go_simp)
    have z2 : w2.cell? ⟨w.heap.size + 1 + 1, 2, none⟩ = some (.int .u8 0) := bcell_ hb2 (by first | omega | (simp; done) | (simp; omega)) (by go_simp)
    have z3 : w2.cell? ⟨w.heap.size + 1 + 1, 3, none⟩ = some (.int .u8 0) := bcell_ hb2 (by first | omega | (simp; done) | (simp; omega)) (by go_simp)
    have f0 : w2.frozen? ⟨w.heap.size + 1 + 1, 0, none⟩ = false := bfree_ hb2 (by first | omega | (simp; done) | (simp; omega)) (by go_simp)
    have f1 : w2.frozen? ⟨w.heap.size + 1 + 1, 1, none⟩ = false := bfree_ hb2 (by first | omega | (simp; done) | (simp; omega)) (by go_simp)
    have f2 : w2.frozen? ⟨w.heap.size + 1 + 1, 2, none⟩ = false := bfree_ hb2 (by first | omega | (simp; done) | (simp; omega)) (by go_simp)
    have f3 : w2.frozen? ⟨w.heap.size + 1 + 1, 3, none⟩ = false := bfree_ hb2 (by first | omega | (simp; done) | (simp; omega)) (by go_simp)
    have ea : w2.cell? ⟨w.heap.size + 1 + 1 + 1 + 1, 0, none⟩ = some (.int .i64 t.a.toNat) := bcell_ hb2 (by first | omega | (simp; done) | (simp; omega)) (by go_simp)
    have eb : w2.cell? ⟨w.heap.size + 1 + 1 + 1, 0, none⟩ = some (.int .i64 u.a.toNat) := bcell_ hb2 (by first | omega | (simp; done) | (simp; omega)) (by go_simp)
    have ec : w2.cell? ⟨w.heap.size + 1 + 1 + 1 + 1 + 1, 0, none⟩ = some (.int .i64 (255 * t.a.toNat + u.a.toNat * (255 - t.a.toNat))) := bcell_ hb2 (by first | omega | (simp; done) | (simp; omega)) (by go_simp)
    have hbw : Below w.heap.size w w2 := Below.trans (by go_grown) (hb2.mono (by first | omega | (simp; done) | (simp; omega)))
    clear hb2
    have z0' : ∀ o, (w2.alloc o).cell? ⟨w.heap.size + 1 + 1, 0, none⟩ = some (.int .u8 0) := fun o => cell_past o z0
    have f0' : ∀ o, (w2.alloc o).frozen? ⟨w.heap.size + 1 + 1, 0, none⟩ = false := fun o => free_past o (by show w.heap.size + 1 + 1 < w2.heap.size; omega) f0
    have z1' : ∀ o, (w2.alloc o).cell? ⟨w.heap.size + 1 + 1, 1, none⟩ = some (.int .u8 0) := fun o => cell_past o z1
    have f1' : ∀ o, (w2.alloc o).frozen? ⟨w.heap.size + 1 + 1, 1, none⟩ = false := fun o => free_past o (by show w.heap.size + 1 + 1 < w2.heap.size; omega) f1
    have z2' : ∀ o, (w2.alloc o).cell? ⟨w.heap.size + 1 + 1, 2, none⟩ = some (.int .u8 0) := fun o => cell_past o z2
    have f2' : ∀ o, (w2.alloc o).frozen? ⟨w.heap.size + 1 + 1, 2, none⟩ = false := fun o => free_past o (by show w.heap.size + 1 + 1 < w2.heap.size; omega) f2
    have z3' : ∀ o, (w2.alloc o).cell? ⟨w.heap.size + 1 + 1, 3, none⟩ = some (.int .u8 0) := fun o => cell_past o z3
    have f3' : ∀ o, (w2.alloc o).frozen? ⟨w.heap.size + 1 + 1, 3, none⟩ = false := fun o => free_past o (by show w.heap.size + 1 + 1 < w2.heap.size; omega) f3
    have hne1 : ¬ (w.heap.size + 1 + 1 = w.heap.size) := by omega
    have hne2 : ¬ (w.heap.size = w.heap.size + 1 + 1) := by omega
    go_wp2_with fail
    go_region_held3 (fun w' => w'.cell? ⟨w.heap.size, 0, none⟩ = some (.int .u8 t.r.toNat) ∧ w'.cell? ⟨w.heap.size, 1, none⟩ = some (.int .u8 t.g.toNat) ∧ w'.cell? ⟨w.heap.size, 2, none⟩ = some (.int .u8 t.b.toNat) ∧ w'.cell? ⟨w.heap.size + 1, 0, none⟩ = some (.int .u8 u.r.toNat) ∧ w'.cell? ⟨w.heap.size + 1, 1, none⟩ = some (.int .u8 u.g.toNat) ∧ w'.cell? ⟨w.heap.size + 1, 2, none⟩ = some (.int .u8 u.b.toNat) ∧ w'.cell? ⟨w.heap.size + 1 + 1 + 1 + 1 + 1, 0, none⟩ = some (.int .i64 (255 * t.a.toNat + u.a.toNat * (255 - t.a.toNat))) ∧ w'.cell? ⟨w.heap.size + 1 + 1 + 1 + 1, 0, none⟩ = some (.int .i64 t.a.toNat) ∧ w'.cell? ⟨w.heap.size + 1 + 1 + 1, 0, none⟩ = some (.int .i64 u.a.toNat))
          (go_keep)
          ((first | (go_at_call 75; refine (overc0_any _ _ _ _ t.a.toNat u.a.toNat _ _ _ _ rfl a1 a2 b1 b2 (by omega) (by omega) (by omega) (by omega) HC.out (by go_simp) (by go_simp) (by go_simp) (by unfold Pix.covers; go_simp)).mono ?_; rintro e w3 ⟨rfl, q3, rfl⟩) | (go_at_call 73; refine (round_any _ _ _ _ rfl (by omega) (by omega) (by omega) (by omega)).mono ?_; rintro e w3 ⟨rfl, rfl⟩)))
    go_wp2_with fail
    refine bodyPost_ret (v := .tuple #[.agg #[.int .u8 (Pix.u8 (Pix.col 0 t.a.toNat u.a.toNat t.r.toNat u.r.toNat)).toNat, .int .u8 (Pix.u8 (Pix.col 0 t.a.toNat u.a.toNat t.g.toNat u.g.toNat)).toNat, .int .u8 (Pix.u8 (Pix.col 0 t.a.toNat u.a.toNat t.b.toNat u.b.toNat)).toNat, .int .u8 (Pix.u8 (Pix.rnd (255 * t.a.toNat + u.a.toNat * (255 - t.a.toNat)) 255)).toNat], .nilIface]) (by simp [results, Tryz.results60, go_sem, *]) rfl ⟨by rw [HO.out]; rfl, ?_⟩
    exact (((((below_drewN (Below.alloc hbw (by omega) _) _).setCell (by first | omega | (simp; done) | (simp; omega)) _).setCell (by first | omega | (simp; done) | (simp; omega)) _).setCell (by first | omega | (simp; done) | (simp; omega)) _).setCell (by first | omega | (simp; done) | (simp; omega)) _)
end Go.Proofs.YtmknacnmdlcieaaGreatDoor
namespace Go.Proofs.YtmknacnmdlcieaaGreatDoor
open Go Go.RowKit

set_option maxRecDepth 100000 in
set_option maxHeartbeats 4000000 in
theorem over1_any (t u : Px) (w : World) (hc : 0 < Pix.covers t.a.toNat u.a.toNat) :
    Calls Tryz.prog 60 #[.int .i64 1, pxV t, pxV u] w fun e w' => e = .returned (.tuple #[pxV (Pix.over 1 t u), .nilIface]) ∧ Below w.heap.size w w' := by
  obtain ⟨a1, a2⟩ := Pix.a_nonneg t.a
  obtain ⟨b1, b2⟩ := Pix.a_nonneg u.a
  obtain ⟨r1, r2⟩ := Pix.a_nonneg t.r
  obtain ⟨r3, r4⟩ := Pix.a_nonneg u.r
  obtain ⟨g1, g2⟩ := Pix.a_nonneg t.g
  obtain ⟨g3, g4⟩ := Pix.a_nonneg u.g
  obtain ⟨h1, h2⟩ := Pix.a_nonneg t.b
  obtain ⟨h3, h4⟩ := Pix.a_nonneg u.b
  obtain ⟨x3, x4⟩ := mul_bounds b1 b2 (show 0 ≤ 255 - (t.a.toNat : Int) by omega) (show 255 - (t.a.toNat : Int) ≤ 255 by omega)
  obtain ⟨_, _, c3⟩ := Pix.covers_bound a1 a2 b1 b2
  have HO := Lib.hid (show Pix.over 1 t u = ⟨Pix.u8 (Pix.col 1 t.a.toNat u.a.toNat t.r.toNat u.r.toNat), Pix.u8 (Pix.col 1 t.a.toNat u.a.toNat t.g.toNat u.g.toNat), Pix.u8 (Pix.col 1 t.a.toNat u.a.toNat t.b.toNat u.b.toNat), Pix.u8 (Pix.rnd (Pix.covers t.a.toNat u.a.toNat) 255)⟩ by rw [Pix.over, if_neg (by omega)])
  have hce : Pix.covers t.a.toNat u.a.toNat = 255 * t.a.toNat + u.a.toNat * (255 - t.a.toNat) := rfl
  have HC := Lib.hid hc
  rw [hce] at hc c3
  clear hce
  have hst := @run_store_func Tryz.prog
  have hmf : ∀ (fn : Fn) (first cap : Array Value) (w : World), (Instr.makeFunc fn first cap).run Tryz.prog w = .ok (.func fn first cap) w := fun _ _ _ _ => rfl
  have hix : ∀ w, (Instr.index 107 (.agg #[.func (.func 85) #[] #[], .func (.func 86) #[] #[], .func (.func 87) #[] #[], .func (.func 88) #[] #[], .func (.func 89) #[] #[], .func (.func 90) #[] #[]]) (.int .i64 1)).run Tryz.prog w = .ok (.func (.func 86) #[] #[]) w := fun _ => by kernel_rfl
  unfold pxV
  go_enter Tryz.func60, Tryz.ntmps60
  go_wp2_with fail
  refine (mode_any 1 _).mono ?_
  rintro e w1 ⟨rfl, rfl⟩
  rw [show modeB 1 = true by decide]
  go_wp2_with fail
  go_region
  · go_wp2_with fail
    refine (blends_any _).mono ?_
    rintro e w2 ⟨rfl, hb2⟩
    unfold blendV
    have hz2 : w.heap.size + 6 ≤ w2.heap.size := by have := hb2.size; simpa using this
    have e0 : w2.cell? ⟨w.heap.size, 0, none⟩ = some (.int .u8 t.r.toNat) := bcell_ hb2 (by first | omega | (simp; done) | (simp; omega)) (by go_simp)
    have e1 : w2.cell? ⟨w.heap.size, 1, none⟩ = some (.int .u8 t.g.toNat) := bcell_ hb2 (by first | omega | (simp; done) | (simp; omega)) (by go_simp)
    have e2 : w2.cell? ⟨w.heap.size, 2, none⟩ = some (.int .u8 t.b.toNat) := bcell_ hb2 (by first | omega | (simp; done) | (simp; omega)) (by go_simp)
    have e3 : w2.cell? ⟨w.heap.size + 1, 0, none⟩ = some (.int .u8 u.r.toNat) := bcell_ hb2 (by first | omega | (simp; done) | (simp; omega)) (by go_simp)
    have e4 : w2.cell? ⟨w.heap.size + 1, 1, none⟩ = some (.int .u8 u.g.toNat) := bcell_ hb2 (by first | omega | (simp; done) | (simp; omega)) (by go_simp)
    have e5 : w2.cell? ⟨w.heap.size + 1, 2, none⟩ = some (.int .u8 u.b.toNat) := bcell_ hb2 (by first | omega | (simp; done) | (simp; omega)) (by go_simp)
    have z0 : w2.cell? ⟨w.heap.size + 1 + 1, 0, none⟩ = some (.int .u8 0) := bcell_ hb2 (by first | omega | (simp; done) | (simp; omega)) (by go_simp)
    have z1 : w2.cell? ⟨w.heap.size + 1 + 1, 1, none⟩ = some (.int .u8 0) := bcell_ hb2 (by first | omega | (simp; done) | (simp; omega)) (by go_simp)
    have z2 : w2.cell? ⟨w.heap.size + 1 + 1, 2, none⟩ = some (.int .u8 0) := bcell_ hb2 (by first | omega | (simp; done) | (simp; omega)) (by go_simp)
    have z3 : w2.cell? ⟨w.heap.size + 1 + 1, 3, none⟩ = some (.int .u8 0) := bcell_ hb2 (by first | omega | (simp; done) | (simp; omega)) (by go_simp)
    have f0 : w2.frozen? ⟨w.heap.size + 1 + 1, 0, none⟩ = false := bfree_ hb2 (by first | omega | (simp; done) | (simp; omega)) (by go_simp)
    have f1 : w2.frozen? ⟨w.heap.size + 1 + 1, 1, none⟩ = false := bfree_ hb2 (by first | omega | (simp; done) | (simp; omega)) (by go_simp)
    have f2 : w2.frozen? ⟨w.heap.size + 1 + 1, 2, none⟩ = false := bfree_ hb2 (by first | omega | (simp; done) | (simp; omega)) (by go_simp)
    have f3 : w2.frozen? ⟨w.heap.size + 1 + 1, 3, none⟩ = false := bfree_ hb2 (by first | omega | (simp; done) | (simp; omega)) (by go_simp)
    have ea : w2.cell? ⟨w.heap.size + 1 + 1 + 1, 0, none⟩ = some (.int .i64 t.a.toNat) := bcell_ hb2 (by first | omega | (simp; done) | (simp; omega)) (by go_simp)
    have eb : w2.cell? ⟨w.heap.size + 1 + 1 + 1 + 1, 0, none⟩ = some (.int .i64 u.a.toNat) := bcell_ hb2 (by first | omega | (simp; done) | (simp; omega)) (by go_simp)
    have ec : w2.cell? ⟨w.heap.size + 1 + 1 + 1 + 1 + 1, 0, none⟩ = some (.int .i64 (255 * t.a.toNat + u.a.toNat * (255 - t.a.toNat))) := bcell_ hb2 (by first | omega | (simp; done) | (simp; omega)) (by go_simp)
    have hbw : Below w.heap.size w w2 := Below.trans (by go_grown) (hb2.mono (by first | omega | (simp; done) | (simp; omega)))
    clear hb2
    have z0' : ∀ o, (w2.alloc o).cell? ⟨w.heap.size + 1 + 1, 0, none⟩ = some (.int .u8 0) := fun o => cell_past o z0
    have f0' : ∀ o, (w2.alloc o).frozen? ⟨w.heap.size + 1 + 1, 0, none⟩ = false := fun o => free_past o (by show w.heap.size + 1 + 1 < w2.heap.size; omega) f0
    have z1' : ∀ o, (w2.alloc o).cell? ⟨w.heap.size + 1 + 1, 1, none⟩ = some (.int .u8 0) := fun o => cell_past o z1
    have f1' : ∀ o, (w2.alloc o).frozen? ⟨w.heap.size + 1 + 1, 1, none⟩ = false := fun o => free_past o (by show w.heap.size + 1 + 1 < w2.heap.size; omega) f1
    have z2' : ∀ o, (w2.alloc o).cell? ⟨w.heap.size + 1 + 1, 2, none⟩ = some (.int .u8 0) := fun o => cell_past o z2
    have f2' : ∀ o, (w2.alloc o).frozen? ⟨w.heap.size + 1 + 1, 2, none⟩ = false := fun o => free_past o (by show w.heap.size + 1 + 1 < w2.heap.size; omega) f2
    have z3' : ∀ o, (w2.alloc o).cell? ⟨w.heap.size + 1 + 1, 3, none⟩ = some (.int .u8 0) := fun o => cell_past o z3
    have f3' : ∀ o, (w2.alloc o).frozen? ⟨w.heap.size + 1 + 1, 3, none⟩ = false := fun o => free_past o (by show w.heap.size + 1 + 1 < w2.heap.size; omega) f3
    have hne1 : ¬ (w.heap.size + 1 + 1 = w.heap.size) := by omega
    have hne2 : ¬ (w.heap.size = w.heap.size + 1 + 1) := by omega
    go_wp2_with fail
    go_region_held3 (fun w' => w'.cell? ⟨w.heap.size, 0, none⟩ = some (.int .u8 t.r.toNat) ∧ w'.cell? ⟨w.heap.size, 1, none⟩ = some (.int .u8 t.g.toNat) ∧ w'.cell? ⟨w.heap.size, 2, none⟩ = some (.int .u8 t.b.toNat) ∧ w'.cell? ⟨w.heap.size + 1, 0, none⟩ = some (.int .u8 u.r.toNat) ∧ w'.cell? ⟨w.heap.size + 1, 1, none⟩ = some (.int .u8 u.g.toNat) ∧ w'.cell? ⟨w.heap.size + 1, 2, none⟩ = some (.int .u8 u.b.toNat) ∧ w'.cell? ⟨w.heap.size + 1 + 1 + 1 + 1 + 1, 0, none⟩ = some (.int .i64 (255 * t.a.toNat + u.a.toNat * (255 - t.a.toNat))) ∧ w'.cell? ⟨w.heap.size + 1 + 1 + 1, 0, none⟩ = some (.int .i64 t.a.toNat) ∧ w'.cell? ⟨w.heap.size + 1 + 1 + 1 + 1, 0, none⟩ = some (.int .i64 u.a.toNat))
          (go_keep)
          ((first | (go_at_call 75; refine (overc1_any _ _ _ _ t.a.toNat u.a.toNat _ _ _ _ rfl a1 a2 b1 b2 (by omega) (by omega) (by omega) (by omega) HC.out (by go_simp) (by go_simp) (by go_simp) (by unfold Pix.covers; go_simp)).mono ?_; rintro e w3 ⟨rfl, q3, rfl⟩) | (go_at_call 73; refine (round_any _ _ _ _ rfl (by omega) (by omega) (by omega) (by omega)).mono ?_; rintro e w3 ⟨rfl, rfl⟩)))
    go_wp2_with fail
    refine bodyPost_ret (v := .tuple #[.agg #[.int .u8 (Pix.u8 (Pix.col 1 t.a.toNat u.a.toNat t.r.toNat u.r.toNat)).toNat, .int .u8 (Pix.u8 (Pix.col 1 t.a.toNat u.a.toNat t.g.toNat u.g.toNat)).toNat, .int .u8 (Pix.u8 (Pix.col 1 t.a.toNat u.a.toNat t.b.toNat u.b.toNat)).toNat, .int .u8 (Pix.u8 (Pix.rnd (255 * t.a.toNat + u.a.toNat * (255 - t.a.toNat)) 255)).toNat], .nilIface]) (by simp [results, Tryz.results60, go_sem, *]) rfl ⟨by rw [HO.out]; rfl, ?_⟩
    exact (((((below_drewN (Below.alloc hbw (by omega) _) _).setCell (by first | omega | (simp; done) | (simp; omega)) _).setCell (by first | omega | (simp; done) | (simp; omega)) _).setCell (by first | omega | (simp; done) | (simp; omega)) _).setCell (by first | omega | (simp; done) | (simp; omega)) _)
  · go_wp2_with fail
    refine (blends_any _).mono ?_
    rintro e w2 ⟨rfl, hb2⟩
    unfold blendV
    have hz2 : w.heap.size + 6 ≤ w2.heap.size := by have := hb2.size; simpa using this
    have e0 : w2.cell? ⟨w.heap.size, 0, none⟩ = some (.int .u8 t.r.toNat) := bcell_ hb2 (by first | omega | (simp; done) | (simp; omega)) (by go_simp)
    have e1 : w2.cell? ⟨w.heap.size, 1, none⟩ = some (.int .u8 t.g.toNat) := bcell_ hb2 (by first | omega | (simp; done) | (simp; omega)) (by go_simp)
    have e2 : w2.cell? ⟨w.heap.size, 2, none⟩ = some (.int .u8 t.b.toNat) := bcell_ hb2 (by first | omega | (simp; done) | (simp; omega)) (by go_simp)
    have e3 : w2.cell? ⟨w.heap.size + 1, 0, none⟩ = some (.int .u8 u.r.toNat) := bcell_ hb2 (by first | omega | (simp; done) | (simp; omega)) (by go_simp)
    have e4 : w2.cell? ⟨w.heap.size + 1, 1, none⟩ = some (.int .u8 u.g.toNat) := bcell_ hb2 (by first | omega | (simp; done) | (simp; omega)) (by go_simp)
    have e5 : w2.cell? ⟨w.heap.size + 1, 2, none⟩ = some (.int .u8 u.b.toNat) := bcell_ hb2 (by first | omega | (simp; done) | (simp; omega)) (by go_simp)
    have z0 : w2.cell? ⟨w.heap.size + 1 + 1, 0, none⟩ = some (.int .u8 0) := bcell_ hb2 (by first | omega | (simp; done) | (simp; omega)) (by go_simp)
    have z1 : w2.cell? ⟨w.heap.size + 1 + 1, 1, none⟩ = some (.int .u8 0) := bcell_ hb2 (by first | omega | (simp; done) | (simp; omega)) (by go_simp)
    have z2 : w2.cell? ⟨w.heap.size + 1 + 1, 2, none⟩ = some (.int .u8 0) := bcell_ hb2 (by first | omega | (simp; done) | (simp; omega)) (by go_simp)
    have z3 : w2.cell? ⟨w.heap.size + 1 + 1, 3, none⟩ = some (.int .u8 0) := bcell_ hb2 (by first | omega | (simp; done) | (simp; omega)) (by go_simp)
    have f0 : w2.frozen? ⟨w.heap.size + 1 + 1, 0, none⟩ = false := bfree_ hb2 (by first | omega | (simp; done) | (simp; omega)) (by go_simp)
    have f1 : w2.frozen? ⟨w.heap.size + 1 + 1, 1, none⟩ = false := bfree_ hb2 (by first | omega | (simp; done) | (simp; omega)) (by go_simp)
    have f2 : w2.frozen? ⟨w.heap.size + 1 + 1, 2, none⟩ = false := bfree_ hb2 (by first | omega | (simp; done) | (simp; omega)) (by go_simp)
    have f3 : w2.frozen? ⟨w.heap.size + 1 + 1, 3, none⟩ = false := bfree_ hb2 (by first | omega | (simp; done) | (simp; omega)) (by go_simp)
    have ea : w2.cell? ⟨w.heap.size + 1 + 1 + 1 + 1, 0, none⟩ = some (.int .i64 t.a.toNat) := bcell_ hb2 (by first | omega | (simp; done) | (simp; omega)) (by go_simp)
    have eb : w2.cell? ⟨w.heap.size + 1 + 1 + 1, 0, none⟩ = some (.int .i64 u.a.toNat) := bcell_ hb2 (by first | omega | (simp; done) | (simp; omega)) (by go_simp)
    have ec : w2.cell? ⟨w.heap.size + 1 + 1 + 1 + 1 + 1, 0, none⟩ = some (.int .i64 (255 * t.a.toNat + u.a.toNat * (255 - t.a.toNat))) := bcell_ hb2 (by first | omega | (simp; done) | (simp; omega)) (by go_simp)
    have hbw : Below w.heap.size w w2 := Below.trans (by go_grown) (hb2.mono (by first | omega | (simp; done) | (simp; omega)))
    clear hb2
    have z0' : ∀ o, (w2.alloc o).cell? ⟨w.heap.size + 1 + 1, 0, none⟩ = some (.int .u8 0) := fun o => cell_past o z0
    have f0' : ∀ o, (w2.alloc o).frozen? ⟨w.heap.size + 1 + 1, 0, none⟩ = false := fun o => free_past o (by show w.heap.size + 1 + 1 < w2.heap.size; omega) f0
    have z1' : ∀ o, (w2.alloc o).cell? ⟨w.heap.size + 1 + 1, 1, none⟩ = some (.int .u8 0) := fun o => cell_past o z1
    have f1' : ∀ o, (w2.alloc o).frozen? ⟨w.heap.size + 1 + 1, 1, none⟩ = false := fun o => free_past o (by show w.heap.size + 1 + 1 < w2.heap.size; omega) f1
    have z2' : ∀ o, (w2.alloc o).cell? ⟨w.heap.size + 1 + 1, 2, none⟩ = some (.int .u8 0) := fun o => cell_past o z2
    have f2' : ∀ o, (w2.alloc o).frozen? ⟨w.heap.size + 1 + 1, 2, none⟩ = false := fun o => free_past o (by show w.heap.size + 1 + 1 < w2.heap.size; omega) f2
    have z3' : ∀ o, (w2.alloc o).cell? ⟨w.heap.size + 1 + 1, 3, none⟩ = some (.int .u8 0) := fun o => cell_past o z3
    have f3' : ∀ o, (w2.alloc o).frozen? ⟨w.heap.size + 1 + 1, 3, none⟩ = false := fun o => free_past o (by show w.heap.size + 1 + 1 < w2.heap.size; omega) f3
    have hne1 : ¬ (w.heap.size + 1 + 1 = w.heap.size) := by omega
    have hne2 : ¬ (w.heap.size = w.heap.size + 1 + 1) := by omega
    go_wp2_with fail
    go_region_held3 (fun w' => w'.cell? ⟨w.heap.size, 0, none⟩ = some (.int .u8 t.r.toNat) ∧ w'.cell? ⟨w.heap.size, 1, none⟩ = some (.int .u8 t.g.toNat) ∧ w'.cell? ⟨w.heap.size, 2, none⟩ = some (.int .u8 t.b.toNat) ∧ w'.cell? ⟨w.heap.size + 1, 0, none⟩ = some (.int .u8 u.r.toNat) ∧ w'.cell? ⟨w.heap.size + 1, 1, none⟩ = some (.int .u8 u.g.toNat) ∧ w'.cell? ⟨w.heap.size + 1, 2, none⟩ = some (.int .u8 u.b.toNat) ∧ w'.cell? ⟨w.heap.size + 1 + 1 + 1 + 1 + 1, 0, none⟩ = some (.int .i64 (255 * t.a.toNat + u.a.toNat * (255 - t.a.toNat))) ∧ w'.cell? ⟨w.heap.size + 1 + 1 + 1 + 1, 0, none⟩ = some (.int .i64 t.a.toNat) ∧ w'.cell? ⟨w.heap.size + 1 + 1 + 1, 0, none⟩ = some (.int .i64 u.a.toNat))
          (go_keep)
          ((first | (go_at_call 75; refine (overc1_any _ _ _ _ t.a.toNat u.a.toNat _ _ _ _ rfl a1 a2 b1 b2 (by omega) (by omega) (by omega) (by omega) HC.out (by go_simp) (by go_simp) (by go_simp) (by unfold Pix.covers; go_simp)).mono ?_; rintro e w3 ⟨rfl, q3, rfl⟩) | (go_at_call 73; refine (round_any _ _ _ _ rfl (by omega) (by omega) (by omega) (by omega)).mono ?_; rintro e w3 ⟨rfl, rfl⟩)))
    go_wp2_with fail
    refine bodyPost_ret (v := .tuple #[.agg #[.int .u8 (Pix.u8 (Pix.col 1 t.a.toNat u.a.toNat t.r.toNat u.r.toNat)).toNat, .int .u8 (Pix.u8 (Pix.col 1 t.a.toNat u.a.toNat t.g.toNat u.g.toNat)).toNat, .int .u8 (Pix.u8 (Pix.col 1 t.a.toNat u.a.toNat t.b.toNat u.b.toNat)).toNat, .int .u8 (Pix.u8 (Pix.rnd (255 * t.a.toNat + u.a.toNat * (255 - t.a.toNat)) 255)).toNat], .nilIface]) (by simp [results, Tryz.results60, go_sem, *]) rfl ⟨by rw [HO.out]; rfl, ?_⟩
    exact (((((below_drewN (Below.alloc hbw (by omega) _) _).setCell (by first | omega | (simp; done) | (simp; omega)) _).setCell (by first | omega | (simp; done) | (simp; omega)) _).setCell (by first | omega | (simp; done) | (simp; omega)) _).setCell (by first | omega | (simp; done) | (simp; omega)) _)
end Go.Proofs.YtmknacnmdlcieaaGreatDoor
