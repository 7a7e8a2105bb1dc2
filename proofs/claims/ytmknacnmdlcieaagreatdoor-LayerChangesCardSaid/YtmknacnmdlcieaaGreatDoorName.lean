/- Names: layercakeref3.IsName; layer.Name (slices.ContainsFunc and IndexFunc at bytes). -/
import Derived.Test.YtmknacnmdlcieaaGreatDoorLayOwn
import Derived.Test.YtmknacnmdlcieaaGreatDoorPix5
import Derived.Lib.ConvBytes
namespace Go.Proofs.YtmknacnmdlcieaaGreatDoor
open Go Go.RowKit

theorem all_take (s : ByteArray) (h : ∀ j, (hj : j < s.size) → Lay.lowB s[j] = true) : s.data.toList.all Lay.lowB = true := by
  rw [List.all_eq_true]
  intro c hc
  obtain ⟨j, hj, rfl⟩ := List.getElem_of_mem hc
  exact h j (by simpa using hj)
theorem all_not (s : ByteArray) (k : Nat) (hk : k < s.size) (h : Lay.lowB s[k] = false) : s.data.toList.all Lay.lowB = false := by
  rw [← Bool.not_eq_true, List.all_eq_true]
  intro ha
  have := ha s[k] (by
    show s.data[k] ∈ s.data.toList
    exact Array.mem_toList_iff.2 (Array.getElem_mem _))
  rw [h] at this
  cases this
theorem isName_long {s : ByteArray} (h : ¬ (1 ≤ s.size ∧ s.size ≤ 12)) : Lay.isName s = false := by
  unfold Lay.isName
  by_cases h1 : 1 ≤ s.size
  · have h2 : ¬ s.size ≤ 12 := fun h2 => h ⟨h1, h2⟩
    simp [h2]
  · simp [h1]
theorem isName_all {s : ByteArray} (h1 : 1 ≤ s.size) (h2 : s.size ≤ 12) : Lay.isName s = s.data.toList.all Lay.lowB := by
  unfold Lay.isName
  simp [h1, h2]
theorem lowB_lo {c : UInt8} (h : (c.toNat : Int) < 97) : Lay.lowB c = false := by simp [Lay.lowB]; omega
theorem lowB_hi {c : UInt8} (h : 122 < (c.toNat : Int)) : Lay.lowB c = false := by simp [Lay.lowB]; omega
theorem lowB_in {c : UInt8} (h : 97 ≤ (c.toNat : Int)) (h2 : (c.toNat : Int) ≤ 122) : Lay.lowB c = true := by simp [Lay.lowB]; omega
theorem ret_bool {a b : Bool} (h : a = b) : Ending.returned (.bool a) = .returned (.bool b) := by rw [h]

theorem isName_any (s : ByteArray) (w : World) : Calls Tryz.prog 25 #[.string s] w fun e w' => e = .returned (.bool (Lay.isName s)) ∧ w' = w := by
  by_cases h1 : s.size < 1
  · have H := Lib.hid (isName_long (s := s) (by omega))
    go_enter Tryz.func25, Tryz.ntmps25
    go_wp2_with fail
    go_ret
    exact ⟨by rw [H.out] <;> rfl, rfl⟩
  · by_cases h2 : 12 < s.size
    · have H := Lib.hid (isName_long (s := s) (by omega))
      have h1' : 1 ≤ s.size := by omega
      go_enter Tryz.func25, Tryz.ntmps25
      go_wp2_with fail
      go_ret
      exact ⟨by rw [H.out] <;> rfl, rfl⟩
    · have H := Lib.hid (isName_all (s := s) (by omega) (by omega))
      have h1' : 1 ≤ s.size := by omega
      have h2' : s.size ≤ 12 := by omega
      go_enter Tryz.func25, Tryz.ntmps25
      go_wp2_with fail
      go_loop [3] (fun i => ∃ k : Nat, k ≤ s.size ∧ i = .int .i64 k ∧ ∀ j, (hj : j < s.size) → j < k → Lay.lowB s[j] = true) (fun i => s.size - (intOf i).toNat)
      case atStart => exact ⟨0, Nat.zero_le _, rfl, fun j _ hj => by omega⟩
      case round =>
        obtain ⟨k, hk, rfl, hall⟩ := hrel
        have HA := Lib.hid hall
        clear hall
        by_cases hlt : k < s.size
        · by_cases hlo : (s[k].toNat : Int) < 97
          · have HN := Lib.hid (all_not s k hlt (lowB_lo hlo))
            go_wp2_with fail
            go_ret
            exact ⟨by rw [H.out, HN.out] <;> rfl, rfl⟩
          · by_cases hhi : 122 < (s[k].toNat : Int)
            · have HN := Lib.hid (all_not s k hlt (lowB_hi hhi))
              go_wp2_with fail
              go_ret
              exact ⟨by rw [H.out, HN.out] <;> rfl, rfl⟩
            · have HL := Lib.hid (lowB_in (c := s[k]) (by omega) (by omega))
              go_wp2_with fail
              go_round
              case rel =>
                refine ⟨k + 1, by omega, by go_num, fun j hj hjk => ?_⟩
                by_cases e : j = k
                · subst e; exact HL.out
                · exact HA.out j hj (by omega)
              case measure => simp [intOf]; omega
        · go_wp2_with fail
          go_ret
          exact ⟨by rw [H.out, all_take s fun j hj => HA.out j hj (by omega)] <;> rfl, rfl⟩

/-- The bytes of a text in a slice. -/
theorem bad_any (c : UInt8) (w : World) : Calls Tryz.prog 62 #[.int .u8 c.toNat] w fun e w' => e = .returned (.bool (!Lay.lowB c)) ∧ w' = w := by
  have hc := c.toNat_lt
  by_cases hlo : (c.toNat : Int) < 97
  · have H := Lib.hid (lowB_lo hlo)
    go_enter Tryz.func62, Tryz.ntmps62
    go_wp2_with fail
    go_ret
    exact ⟨by rw [H.out] <;> rfl, rfl⟩
  · by_cases hhi : 122 < (c.toNat : Int)
    · have H := Lib.hid (lowB_hi hhi)
      go_enter Tryz.func62, Tryz.ntmps62
      go_wp2_with fail
      go_ret
      exact ⟨by rw [H.out] <;> rfl, rfl⟩
    · have H := Lib.hid (lowB_in (c := c) (by omega) (by omega))
      go_enter Tryz.func62, Tryz.ntmps62
      go_wp2_with fail
      go_ret
      exact ⟨by rw [H.out] <;> rfl, rfl⟩

/-- The number of the first byte that is none of a name's; -1: all are. -/
def firstBad (s : ByteArray) (r : Int) : Prop := (r = -1 ∧ ∀ j, (hj : j < s.size) → Lay.lowB s[j] = true) ∨ (0 ≤ r ∧ ∃ k, ∃ hk : k < s.size, Lay.lowB s[k] = false)
theorem indexBad_any (s : ByteArray) (g c : Nat) (w : World) (hs : s.size ≤ 12) (hcell : ∀ j, (hj : j < s.size) → w.cell? ⟨g, j, none⟩ = some (.int .u8 s[j].toNat)) :
    Calls Tryz.prog 76 #[.slice (some ⟨g, 0, none⟩) s.size c, .func (.func 62) #[] #[]] w fun e w' => (∃ r : Int, firstBad s r ∧ e = .returned (.int .i64 r)) ∧ w' = w := by
  have HC := Lib.hid hcell
  clear hcell
  go_enter Tryz.func76, Tryz.ntmps76
  go_wp2_with fail
  go_loop [8] (fun i => ∃ k : Nat, k ≤ s.size ∧ i = .int .i64 k ∧ ∀ j, (hj : j < s.size) → j < k → Lay.lowB s[j] = true) (fun i => s.size - (intOf i).toNat)
  case atStart => exact ⟨0, Nat.zero_le _, rfl, fun j _ hj => by omega⟩
  case round =>
    obtain ⟨k, hk, rfl, hall⟩ := hrel
    have HA := Lib.hid hall
    clear hall
    by_cases hlt : k < s.size
    · have hc := HC.out k hlt
      cases hb : Lay.lowB s[k] with
      | false =>
        have HB := Lib.hid hb
        clear hb
        go_wp2_with fail
        refine (bad_any s[k] _).mono ?_
        rintro e w1 ⟨rfl, rfl⟩
        rw [HB.out]
        go_wp2_with fail
        go_ret
        exact ⟨⟨k, .inr ⟨by omega, k, hlt, HB.out⟩, rfl⟩, rfl⟩
      | true =>
        have HB := Lib.hid hb
        clear hb
        go_wp2_with fail
        refine (bad_any s[k] _).mono ?_
        rintro e w1 ⟨rfl, rfl⟩
        rw [HB.out]
        go_wp2_with fail
        go_round
        case rel =>
          refine ⟨k + 1, by omega, by go_num, fun j hj hjk => ?_⟩
          by_cases e : j = k
          · subst e; exact HB.out
          · exact HA.out j hj (by omega)
        case measure => simp [intOf]; omega
    · go_wp2_with fail
      go_ret
      exact ⟨⟨-1, .inl ⟨rfl, fun j hj => HA.out j hj (by omega)⟩, rfl⟩, rfl⟩

theorem containsBad_any (s : ByteArray) (g c : Nat) (w : World) (hs : s.size ≤ 12) (hcell : ∀ j, (hj : j < s.size) → w.cell? ⟨g, j, none⟩ = some (.int .u8 s[j].toNat)) :
    Calls Tryz.prog 61 #[.slice (some ⟨g, 0, none⟩) s.size c, .func (.func 62) #[] #[]] w fun e w' => e = .returned (.bool (!s.data.toList.all Lay.lowB)) ∧ w' = w := by
  have HC := Lib.hid hcell
  clear hcell
  go_enter Tryz.func61, Tryz.ntmps61
  go_wp2_with fail
  refine (indexBad_any s g c _ hs HC.out).mono ?_
  rintro e w1 ⟨⟨r, hr, rfl⟩, rfl⟩
  rcases hr with ⟨rfl, h⟩ | ⟨h0, k, hk, h⟩
  · have H := Lib.hid (all_take s h)
    clear h
    go_wp2_with fail
    go_ret
    exact ⟨by rw [H.out] <;> rfl, rfl⟩
  · have H := Lib.hid (all_not s k hk h)
    clear h
    go_wp2_with fail
    go_ret
    exact ⟨by rw [H.out] <;> rfl, rfl⟩

theorem Below.bytes_ (w : World) (e : TypeId) (s : ByteArray) : Below w.heap.size w (Lib.bytesWorld w e s) :=
  ⟨rfl, rfl, rfl, by rw [Lib.bytesWorld_size]; omega, fun g hg => Lib.bytesWorld_at_old w e s g hg⟩

theorem name_any (s : ByteArray) (w : World) : Calls Tryz.prog 48 #[.string s] w fun e w' => e = .returned (.bool (Lay.isName s)) ∧ Below w.heap.size w w' := by
  by_cases h1 : s.size < 1
  · have H := Lib.hid (isName_long (s := s) (by omega))
    go_enter Tryz.func48, Tryz.ntmps48
    go_wp2_with fail
    go_ret
    exact ⟨by rw [H.out] <;> rfl, Below.refl _ _⟩
  · by_cases h2 : 12 < s.size
    · have H := Lib.hid (isName_long (s := s) (by omega))
      have h1' : 1 ≤ s.size := by omega
      go_enter Tryz.func48, Tryz.ntmps48
      go_wp2_with fail
      go_ret
      exact ⟨by rw [H.out] <;> rfl, Below.refl _ _⟩
    · have H := Lib.hid (isName_all (s := s) (by omega) (by omega))
      have h1' : 1 ≤ s.size := by omega
      have h2' : s.size ≤ 12 := by omega
      have hcv := fun (W : World) => Lib.run_convert_string_bytes (P := Tryz.prog) W 9 93 5 s Tryz.underlying9 Tryz.underlying93 Tryz.underlying5
      go_enter Tryz.func48, Tryz.ntmps48
      go_wp2_with fail
      refine (containsBad_any s w.heap.size _ _ h2' (fun j hj => ?_)).mono ?_
      · rw [Lib.bytesWorld_cell _ _ _ _ hj]
        simp [List.getD, hj]
        rfl
      rintro e w1 ⟨rfl, rfl⟩
      clear hcv
      cases hb : s.data.toList.all Lay.lowB with
      | false =>
        rw [hb] at H
        go_wp2_with fail
        go_ret
        exact ⟨by rw [H.out] <;> rfl, Below.bytes_ _ _ _⟩
      | true =>
        rw [hb] at H
        go_wp2_with fail
        go_ret
        exact ⟨by rw [H.out] <;> rfl, Below.bytes_ _ _ _⟩
end Go.Proofs.YtmknacnmdlcieaaGreatDoor
