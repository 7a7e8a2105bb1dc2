/- What is wrong with a layer: the cases, in the words of the contracts. -/
import Derived.Test.YtmknacnmdlcieaaGreatDoorFind
namespace Go.Proofs.YtmknacnmdlcieaaGreatDoor
open Go Go.RowKit

theorem bcell {W w1 : World} {B : Nat} (hb : Below B W w1) : (∀ b o, b < B → w1.cell? ⟨b, o, none⟩ = W.cell? ⟨b, o, none⟩) ∧ (∀ b o, b < B → w1.frozen? ⟨b, o, none⟩ = W.frozen? ⟨b, o, none⟩) :=
  ⟨fun b o h => hb.cell (p := ⟨b, o, none⟩) h, fun b o h => hb.frozen (p := ⟨b, o, none⟩) h⟩

def rightM (m : LM) : Bool := rightB m.l.wide m.l.high m.n
theorem rightM_eq {m : LM} (h : m.n = m.l.ps.length) : Lay.rightL m.l = rightM m := by
  unfold Lay.rightL rightM rightB
  rw [h]
  rfl
/-- Nothing is wrong but perhaps the pixels' number. -/
structure Fits (ls : List Lay.Layer) (i : Nat) (l : Lay.Layer) : Prop where
  nm : Lay.isName l.name = true
  fd : (i : Int) ≤ Lay.find ls l.name
  x : nearB l.x = true
  y : nearB l.y = true
  o1 : 0 ≤ l.opacity
  o2 : l.opacity ≤ 255
  md : modeB l.mode = true
inductive FaultCase (ls : List Lay.Layer) (i : Nat) (m : LM) : Prop
  | name (h : Lay.isName m.l.name = false) (e : Lay.faultAt ls i m.l = 5)
  | twice (h : Lay.isName m.l.name = true) (h2 : Lay.find ls m.l.name < (i : Int)) (e : Lay.faultAt ls i m.l = 5)
  | x (h : Lay.isName m.l.name = true) (h2 : (i : Int) ≤ Lay.find ls m.l.name) (h3 : nearB m.l.x = false) (e : Lay.faultAt ls i m.l = 2)
  | y (h : Lay.isName m.l.name = true) (h2 : (i : Int) ≤ Lay.find ls m.l.name) (h3 : nearB m.l.x = true) (h4 : nearB m.l.y = false) (e : Lay.faultAt ls i m.l = 2)
  | lo (h : Lay.isName m.l.name = true) (h2 : (i : Int) ≤ Lay.find ls m.l.name) (h3 : nearB m.l.x = true) (h4 : nearB m.l.y = true) (h5 : m.l.opacity < 0) (e : Lay.faultAt ls i m.l = 2)
  | hi (h : Lay.isName m.l.name = true) (h2 : (i : Int) ≤ Lay.find ls m.l.name) (h3 : nearB m.l.x = true) (h4 : nearB m.l.y = true) (h5 : 0 ≤ m.l.opacity) (h6 : 255 < m.l.opacity) (e : Lay.faultAt ls i m.l = 2)
  | mode (h : Lay.isName m.l.name = true) (h2 : (i : Int) ≤ Lay.find ls m.l.name) (h3 : nearB m.l.x = true) (h4 : nearB m.l.y = true) (h5 : 0 ≤ m.l.opacity) (h6 : m.l.opacity ≤ 255) (h7 : modeB m.l.mode = false) (e : Lay.faultAt ls i m.l = 2)
  | shape (h : Fits ls i m.l) (h8 : rightM m = false) (e : Lay.faultAt ls i m.l = 3)
  | fine (h : Fits ls i m.l) (h8 : rightM m = true) (e : Lay.faultAt ls i m.l = 0)
theorem opacP_lo {n : Int} (h : n < 0) : Lay.opacP n = false := by simp [Lay.opacP]; omega
theorem opacP_hi {n : Int} (h : 255 < n) : Lay.opacP n = false := by simp [Lay.opacP]; omega
theorem opacP_in {n : Int} (h : 0 ≤ n) (h2 : n ≤ 255) : Lay.opacP n = true := by simp [Lay.opacP]; omega
theorem fault_case (ls : List Lay.Layer) (i : Nat) (m : LM) (hn : m.n = m.l.ps.length) : FaultCase ls i m := by
  have hx : nearB m.l.x = Lay.nearP m.l.x := rfl
  have hy : nearB m.l.y = Lay.nearP m.l.y := rfl
  have hm : modeB m.l.mode = Lay.modeP m.l.mode := rfl
  have hr := rightM_eq hn
  cases h1 : Lay.isName m.l.name with
  | false => exact .name h1 (by simp [Lay.faultAt, h1])
  | true =>
    by_cases h2 : Lay.find ls m.l.name < (i : Int)
    · exact .twice h1 h2 (by simp [Lay.faultAt, h2])
    · have h2' : (i : Int) ≤ Lay.find ls m.l.name := by omega
      have a1 : (!Lay.isName m.l.name || decide (Lay.find ls m.l.name < (i : Int))) = false := by simp [h1]; omega
      cases h3 : nearB m.l.x with
      | false => exact .x h1 h2' h3 (by rw [Lay.faultAt, a1]; simp [← hx, h3])
      | true =>
        cases h4 : nearB m.l.y with
        | false => exact .y h1 h2' h3 h4 (by rw [Lay.faultAt, a1]; simp [← hx, ← hy, h3, h4])
        | true =>
          by_cases h5 : m.l.opacity < 0
          · exact .lo h1 h2' h3 h4 h5 (by rw [Lay.faultAt, a1]; simp [← hx, ← hy, h3, h4, opacP_lo h5])
          · by_cases h6 : 255 < m.l.opacity
            · exact .hi h1 h2' h3 h4 (by omega) h6 (by rw [Lay.faultAt, a1]; simp [← hx, ← hy, h3, h4, opacP_hi h6])
            · have ho := opacP_in (n := m.l.opacity) (by omega) (by omega)
              cases h7 : modeB m.l.mode with
              | false => exact .mode h1 h2' h3 h4 (by omega) (by omega) h7 (by rw [Lay.faultAt, a1]; simp [← hx, ← hy, ← hm, h3, h4, ho, h7])
              | true =>
                have hf : Fits ls i m.l := ⟨h1, h2', h3, h4, by omega, by omega, h7⟩
                cases h8 : rightM m with
                | false => exact .shape hf h8 (by rw [Lay.faultAt, a1]; simp [← hx, ← hy, ← hm, h3, h4, ho, h7, hr, h8])
                | true => exact .fine hf h8 (by rw [Lay.faultAt, a1]; simp [← hx, ← hy, ← hm, h3, h4, ho, h7, hr, h8])
/-- What stands behind the first layers. -/
theorem check_here {W H : Int} {ms : List LM} (hW : sideB W = true) (hH : sideB H = true) (hn : ms.length ≤ 8) (k : Nat) (hk : k < ms.length) (h : ∀ j, (hj : j < ms.length) → j < k → Lay.faultAt (lsOf ms) j ms[j].l = 0) (f : Nat) (hf : Lay.faultAt (lsOf ms) k ms[k].l = f) (h0 : f ≠ 0) :
    Lay.check W H (lsOf ms) = (f, (k : Int)) := by
  have := Lay.check_bad (W := W) (H := H) (ls := lsOf ms) hW hH (by rw [lsOf_len]; exact hn) k (by rw [lsOf_len]; exact hk) (fun j hj => by rw [lsOf_get ms j (by omega)]; exact h j (by omega) hj) (by rw [lsOf_get ms k hk, hf]; exact h0)
  rw [this, lsOf_get ms k hk, hf]
theorem check_fine {W H : Int} {ms : List LM} (hW : sideB W = true) (hH : sideB H = true) (hn : ms.length ≤ 8) (h : ∀ j, (hj : j < ms.length) → Lay.faultAt (lsOf ms) j ms[j].l = 0) : Lay.check W H (lsOf ms) = (0, -1) :=
  Lay.check_good hW hH (by rw [lsOf_len]; exact hn) (fun j hj => by rw [lsOf_len] at hj; rw [lsOf_get ms j hj]; exact h j hj)
end Go.Proofs.YtmknacnmdlcieaaGreatDoor
