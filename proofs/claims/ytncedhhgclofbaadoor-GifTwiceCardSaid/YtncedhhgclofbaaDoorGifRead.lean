/- gif.Read: the walk. -/
import Derived.Test.YtncedhhgclofbaaDoorRdAll
import Derived.Test.YtncedhhgclofbaaDoorGifWrite
namespace Go.Proofs.YtncedhhgclofbaaDoor
open Go Go.RowKit

/-- What Read gives of a text that is not too long. -/
def ReadG (E : Nat → Addr) (w : World) (R : Option (List Fr × Nat)) (e : Ending) (w' : World) : Prop :=
  Below w.heap.size w w' ∧ match R with
  | none => e = .returned (.tuple #[.slice none 0 0, .int .i64 0, errV (E 0)])
  | some r => ∃ A c ms, e = .returned (.tuple #[.slice A ms.length c, .int .i64 r.2, .nilIface]) ∧ ms.map (·.f) = r.1 ∧ Frs w' w'.heap.size A ms.length ms
theorem errIs_iface {E : Nat → Addr} {w : World} {v : Value} {c : Nat} {z : Int} (h : ErrIs E w v (c + 1, z)) : ∃ t u, v = .iface t u := by
  unfold ErrIs at h
  split at h
  · rename_i h0
    simp at h0
  · split at h
    · exact ⟨_, _, h⟩
    · obtain ⟨g, rfl, _⟩ := h
      exact ⟨_, _, rfl⟩
set_option maxHeartbeats 4000000 in
set_option maxRecDepth 100000 in
theorem gread_any (s : ByteArray) (E : Nat → Addr) (w : World) (hE : Er4 w E) (hs0 : s.size ≤ 300000) :
    Calls Tryd.prog 10 #[.string s] w fun e w' => ReadG E w (Gif.read (lst s)) e w' := by
  have hbi : (s.size : Int) ≤ 300000 := by omega
  have hs : (lst s).length ≤ 300000 := hs0
  obtain ⟨R, hR⟩ : ∃ R, R = Gif.read (lst s) := ⟨_, rfl⟩
  rw [← hR]
  have HR := Lib.hid hR
  clear hR
  have hB1 := Blk.new w 72 #[.string s] rfl
  have hb1 : Below w.heap.size w (w.alloc (.cells #[.string s] 72)) := (Below.refl _ _).alloc (Nat.le_refl _) _
  have hE1 := hE.below hb1
  have hN := hE.erN (Nat.le_refl w.heap.size)
  have hgl : w.heap.size < (w.alloc (.cells #[.string s] 72)).heap.size := by simp
  go_enter Tryd.func10, Tryd.ntmps10
  go_wp2_with fail
  refine (all_any w.heap.size (lst s) E _ hE1 hN ⟨s, hB1, rfl⟩ hs hgl).mono ?_
  rintro e w2 ⟨K2, he2⟩
  have hw2 : Below w.heap.size w w2 := hb1.trans (K2.below (B := w.heap.size) (fun g hg => by omega) hb1.size)
  have hE2 := hE.below hw2
  cases hra : Gif.rall (lst s) with
  | none =>
    rw [hra] at he2
    replace he2 : e = .returned (.tuple #[.slice none 0 0, .int .i64 0, .bool false]) := he2
    subst he2
    have hRn : R = none := by rw [HR.out]; unfold Gif.read; rw [hra]
    have HRN := Lib.hid hRn
    have htx := hE2.text
    clear hra hRn
    go_wp2_with fail
    go_quiet (fail)
    go_wp2
    exact bodyPost_ret (v := .tuple #[.slice none 0 0, .int .i64 0, errV (E 0)]) (by simp [results, Tryd.results10, go_sem, errV]) rfl ⟨below_drewN hw2 _, by rw [HRN.out]⟩
  | some r =>
    obtain ⟨fs, n⟩ := r
    rw [hra] at he2
    obtain ⟨A, c, ms, he, hms, hfr⟩ := he2
    replace he : e = .returned (.tuple #[.slice A ms.length c, .int .i64 n, .bool true]) := he
    subst he
    replace hms : ms.map (·.f) = fs := hms
    have hR2 : R = if Gif.gif fs n = .inl (lst s) then some (fs, n) else none := by rw [HR.out]; unfold Gif.read; rw [hra]
    rw [← hms] at hR2
    have HR2 := Lib.hid hR2
    have HMS := Lib.hid hms
    clear hra hR2 hms HR
    have hfrs := hfr.frs
    go_wp2_with fail
    refine (write_any A ms.length c ms n E w2 hE2 hfrs).mono ?_
    rintro e w3 ⟨hb3, he3⟩
    have hw3 := hw2.trans (hb3.mono hw2.size)
    have hE3 := hE.below hw3
    have htx := hE3.text
    cases hg : Gif.gif (ms.map (·.f)) n with
    | inr f =>
      rw [hg] at he3
      obtain ⟨v, rfl, hv⟩ := he3
      obtain ⟨ty, u, rfl⟩ := errIs_iface hv
      have hRn : R = none := by rw [HR2.out, hg, if_neg (by simp)]
      have HRN := Lib.hid hRn
      clear hg hRn hv
      go_wp2_with fail
      go_quiet (fail)
      go_wp2
      exact bodyPost_ret (v := .tuple #[.slice none 0 0, .int .i64 0, errV (E 0)]) (by simp [results, Tryd.results10, go_sem, errV]) rfl ⟨below_drewN hw3 _, by rw [HRN.out]⟩
    | inl s2 =>
      rw [hg] at he3
      obtain ⟨t, rfl, ht⟩ := he3
      by_cases hts : s2 = lst s
      · have hRn : R = some (ms.map (·.f), n) := by rw [HR2.out, hg, if_pos (by rw [hts])]
        have HRN := Lib.hid hRn
        have hq : (t.toList == s.toList) = true := by rw [Lib.toList_data, Lib.toList_data, beq_iff_eq]; exact ht.trans hts
        clear hg hRn ht hts
        go_wp2_with fail
        exact bodyPost_ret (v := .tuple #[.slice A ms.length c, .int .i64 n, .nilIface]) (by simp [results, Tryd.results10, go_sem]) rfl ⟨hw3, by rw [HRN.out]; exact ⟨A, c, ms, rfl, rfl, hfrs.step hb3⟩⟩
      · have hRn : R = none := by rw [HR2.out, hg, if_neg (fun e => hts (by injection e))]
        have HRN := Lib.hid hRn
        have hq : (t.toList == s.toList) = false := by
          rw [Lib.toList_data, Lib.toList_data, beq_eq_false_iff_ne]
          intro e
          exact hts (ht.symm.trans e)
        clear hg hRn ht hts
        go_wp2_with fail
        go_quiet (fail)
        go_wp2
        exact bodyPost_ret (v := .tuple #[.slice none 0 0, .int .i64 0, errV (E 0)]) (by simp [results, Tryd.results10, go_sem, errV]) rfl ⟨below_drewN hw3 _, by rw [HRN.out]⟩
end Go.Proofs.YtncedhhgclofbaaDoor
