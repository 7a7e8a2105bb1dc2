/- slices.rotateCmpFunc at colors.Use: the walk. -/
import Derived.Test.YtlpcmeodbigpjaaDoorSwapRange
namespace Go.Proofs.YtlpcmeodbigpjaaDoor
open Go Go.RowKit

theorem swapRange_as (base g off n c : Nat) (P X M Y S : List (Px × Nat)) (fv : Value) (w0 w : World) (a b m : Int) (ha : a = P.length) (hb : b = P.length + X.length + M.length) (hm : m = X.length) (h : SoR base g off n c w0 (P ++ X ++ M ++ Y ++ S) w) (hxy : X.length = Y.length) (hn : n ≤ 1048576) :
    Calls Tryd.prog 48 #[.slice (some ⟨g, off, none⟩) n c, .int .i64 a, .int .i64 b, .int .i64 m, fv] w
      fun e w' => e = .returned (.tuple #[]) ∧ SoR base g off n c w0 (P ++ Y ++ M ++ X ++ S) w' := by
  subst ha hb hm
  exact swapRange_any base g off n c P X M Y S fv w0 w h hxy hn
/-- What stands through rotate's loop. -/
def RoR (base g off n c : Nat) (w0 : World) (m : Nat) (T : List (Px × Nat)) (i j : Value) (wr : World) : Prop :=
  ∃ (Pre X Y Post : List (Px × Nat)), i = .int .i64 X.length ∧ j = .int .i64 Y.length ∧ 0 < X.length ∧ 0 < Y.length ∧ Pre.length + X.length = m ∧ m + Y.length ≤ n ∧ Pre ++ Y ++ X ++ Post = T ∧ SoR base g off n c w0 (Pre ++ X ++ Y ++ Post) wr
set_option maxRecDepth 100000 in
set_option maxHeartbeats 2000000 in
theorem rotate_any (base g off n c : Nat) (P U V S : List (Px × Nat)) (fv : Value) (w0 w : World) (a m b : Nat) (ha : a = P.length) (hm : m = P.length + U.length) (hb : b = P.length + U.length + V.length) (h : SoR base g off n c w0 (P ++ U ++ V ++ S) w) (hU : 0 < U.length) (hV : 0 < V.length) (hn : n ≤ 1048576) :
    Calls Tryd.prog 44 #[.slice (some ⟨g, off, none⟩) n c, .int .i64 a, .int .i64 m, .int .i64 b, fv] w
      fun e w' => e = .returned (.tuple #[]) ∧ SoR base g off n c w0 (P ++ V ++ U ++ S) w' := by
  have hlen : P.length + U.length + V.length + S.length = n := by rw [← h.len]; simp only [List.length_append]
  have HS := Lib.hid h
  have ham : a ≤ m := by omega
  have hmb : m ≤ b := by omega
  have hbn : b ≤ n := by omega
  have H0 := Lib.hid (show RoR base g off n c w0 m (P ++ V ++ U ++ S) (.int .i64 ((m : Int) - a)) (.int .i64 ((b : Int) - m)) w from ⟨P, U, V, S, by congr 1; omega, by congr 1; omega, hU, hV, by omega, by omega, rfl, h⟩)
  clear h hlen ha hm hb hU hV
  go_enter Tryd.func44, Tryd.ntmps44
  go_wp2
  go_loopw [10, 11] (fun i j wr => RoR base g off n c w0 m (P ++ V ++ U ++ S) i j wr) (fun i j _ => (intOf i).toNat + (intOf j).toNat)
  case atStart => exact H0.out
  case round =>
    obtain ⟨Pre, X, Y, Post, rfl, rfl, hX, hY, hmX, hmY, hT, hR⟩ := hrel
    have HR := Lib.hid hR
    have HT := Lib.hid hT
    clear hR hT
    rcases Nat.lt_trichotomy X.length Y.length with hlt | heq | hgt
    · have e1 : ((X.length : Int) == (Y.length : Int)) = false := by simp; omega
      have e2 : ((X.length : Int) != (Y.length : Int)) = true := by simp; omega
      have e3 : ¬ (Y.length : Int) < (X.length : Int) := by omega
      obtain ⟨Y1, Y2, hY12, hY2⟩ : ∃ Y1 Y2, Y = Y1 ++ Y2 ∧ Y2.length = X.length := ⟨Y.take (Y.length - X.length), Y.drop (Y.length - X.length), (List.take_append_drop _ _).symm, by rw [List.length_drop]; omega⟩
      have hyl : Y.length = Y1.length + Y2.length := by rw [hY12, List.length_append]
      have HY := Lib.hid hY12
      have HR2 := Lib.hid (show SoR base g off n c w0 (Pre ++ X ++ Y1 ++ Y2 ++ Post) wr by have h := HR.out; rw [hY12] at h; simpa using h)
      clear hY12
      have q1 : IntKind.i64.wrap ((m : Int) - X.length) = (m : Int) - X.length := IntWalk.i64_in _ (by omega)
      go_wp2_with fail
      refine (swapRange_as base g off n c Pre X Y1 Y2 Post fv w0 wr _ _ _ (by omega) (by omega) (by omega) HR2.out (by omega) hn).mono ?_
      rintro e w1 ⟨rfl, hS1⟩
      have HS1 := Lib.hid hS1
      clear hS1 q1
      go_wp2
      go_roundw
      case rel => exact ⟨Pre, Y2, Y1, X ++ Post, by first | (congr 1; done) | (congr 1; omega), by first | (congr 1; done) | (congr 1; omega), by omega, by omega, by omega, by omega, by rw [← HT.out, HY.out]; simp, by have h := HS1.out; simpa using h⟩
      case measure => simp [intOf] <;> omega
    · have e1 : ((X.length : Int) == (Y.length : Int)) = true := by simp; omega
      have e2 : ((X.length : Int) != (Y.length : Int)) = false := by simp; omega
      go_wp2_with fail
      refine (swapRange_as base g off n c Pre X [] Y Post fv w0 wr _ _ _ (by omega) (by simp; omega) (by omega) (by simpa using HR.out) (by omega) hn).mono ?_
      rintro e w1 ⟨rfl, hS1⟩
      have HS1 := Lib.hid hS1
      clear hS1
      go_wp2
      go_end0
      exact ⟨rfl, by rw [← HT.out]; simpa using HS1.out⟩
    · have e1 : ((X.length : Int) == (Y.length : Int)) = false := by simp; omega
      have e2 : ((X.length : Int) != (Y.length : Int)) = true := by simp; omega
      have e3 : (Y.length : Int) < (X.length : Int) := by omega
      obtain ⟨X1, X2, hX12, hX1⟩ : ∃ X1 X2, X = X1 ++ X2 ∧ X1.length = Y.length := ⟨X.take Y.length, X.drop Y.length, (List.take_append_drop _ _).symm, by rw [List.length_take]; omega⟩
      have hxl : X.length = X1.length + X2.length := by rw [hX12, List.length_append]
      have HX := Lib.hid hX12
      have HR2 := Lib.hid (show SoR base g off n c w0 (Pre ++ X1 ++ X2 ++ Y ++ Post) wr by have h := HR.out; rw [hX12] at h; simpa using h)
      clear hX12
      go_wp2_with fail
      refine (swapRange_as base g off n c Pre X1 X2 Y Post fv w0 wr _ _ _ (by omega) (by omega) (by omega) HR2.out (by omega) hn).mono ?_
      rintro e w1 ⟨rfl, hS1⟩
      have HS1 := Lib.hid hS1
      clear hS1
      go_wp2
      go_roundw
      case rel => exact ⟨Pre ++ Y, X2, X1, Post, by first | (congr 1; done) | (congr 1; omega), by first | (congr 1; done) | (congr 1; omega), by omega, by omega, by rw [List.length_append]; omega, by omega, by rw [← HT.out, HX.out]; simp, by have h := HS1.out; simpa using h⟩
      case measure => simp [intOf] <;> omega
end Go.Proofs.YtlpcmeodbigpjaaDoor
