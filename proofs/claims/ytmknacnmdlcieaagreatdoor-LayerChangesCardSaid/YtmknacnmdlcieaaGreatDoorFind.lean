/- The number of the layer of a name: layercakeref3's Find; layer's find (slices.IndexFunc at layers). -/
import Derived.Test.YtmknacnmdlcieaaGreatDoorName
namespace Go.Proofs.YtmknacnmdlcieaaGreatDoor
open Go Go.RowKit

def lsOf (ms : List LM) : List Lay.Layer := ms.map (·.l)
theorem lsOf_get (ms : List LM) (k : Nat) (hk : k < ms.length) : (lsOf ms)[k]'(by simpa [lsOf] using hk) = ms[k].l := by simp [lsOf]
theorem lsOf_len (ms : List LM) : (lsOf ms).length = ms.length := by simp [lsOf]
theorem find_here {ms : List LM} {s : ByteArray} {k : Nat} (hk : k < ms.length) (h : ∀ j, (hj : j < ms.length) → j < k → ms[j].l.name ≠ s) (e : ms[k].l.name = s) : Lay.find (lsOf ms) s = k :=
  Lay.find_of _ _ k (by rw [lsOf_len]; exact hk) (fun j hj => by rw [lsOf_get ms j (by omega)]; exact h j (by omega) hj) (by rw [lsOf_get ms k hk]; exact e)
theorem find_nowhere {ms : List LM} {s : ByteArray} (h : ∀ j, (hj : j < ms.length) → ms[j].l.name ≠ s) : Lay.find (lsOf ms) s = -1 :=
  Lay.find_none _ _ (fun j hj => by rw [lsOf_len] at hj; rw [lsOf_get ms j hj]; exact h j hj)
theorem name_ne {a b : ByteArray} (h : a ≠ b) : (a.toList == b.toList) = false := by
  rw [beq_eq_false_iff_ne]
  intro e
  rw [ByteArray.toList_eq, ByteArray.toList_eq] at e
  exact h (ByteArray.ext (Array.toList_inj.1 e))

set_option maxRecDepth 100000 in
theorem refFind_any (W H : Int) (A : Option Addr) (n c : Nat) (ms : List LM) (s : ByteArray) (w : World) (hL : Lays w w.heap.size A n ms) (hn : n ≤ 1048576) :
    Calls Tryz.prog 13 #[.agg #[.int .i64 W, .int .i64 H, .slice A n c], .string s] w fun e w' => e = .returned (.int .i64 (Lay.find (lsOf ms) s)) ∧ Below w.heap.size w w' := by
  obtain rfl := hL.len
  obtain ⟨r, hr⟩ : ∃ r, r = Lay.find (lsOf ms) s := ⟨_, rfl⟩
  rw [← hr]
  have HR := Lib.hid hr
  clear hr
  go_enter Tryz.func13, Tryz.ntmps13
  go_wp2_with fail
  go_loopw [5] (fun i wr => ∃ k : Nat, k ≤ ms.length ∧ i = .int .i64 k ∧ Blk wr w.heap.size 24 #[.int .i64 W, .int .i64 H, .slice A ms.length c] ∧ Below w.heap.size w wr ∧ ∀ j, (hj : j < ms.length) → j < k → ms[j].l.name ≠ s) (fun i _ => ms.length - (intOf i).toNat)
  case atStart => exact ⟨0, Nat.zero_le _, rfl, Blk.new _ _ _ rfl, by go_grown, fun j _ hj => by omega⟩
  case round =>
    obtain ⟨k, hk, rfl, hbx, hb, hall⟩ := hrel
    obtain ⟨wo, rfl⟩ : ∃ wo : World, wo = wr := ⟨_, rfl⟩
    have HA := Lib.hid hall
    clear hall
    have d2 : wo.cell? ⟨w.heap.size, 2, none⟩ = some (.slice A ms.length c) := by rw [hbx.cell]; rfl
    by_cases hlt : k < ms.length
    · obtain ⟨b, off, rfl, hbl⟩ := hL.1.addr (by omega)
      have q0 := (hL.below hb (Nat.le_refl _)).at k hlt 0 (by omega)
      simp only [layCs, List.getElem?_cons_zero] at q0
      rw [Nat.add_zero] at q0
      obtain ⟨t, ht⟩ : ∃ t, t = ms[k].l.name := ⟨_, rfl⟩
      rw [← ht] at q0
      by_cases e : t = s
      · subst e
        have HK := Lib.hid (find_here hlt HA.out ht.symm)
        clear ht
        go_wp2_with fail
        go_ret
        exact ⟨by rw [HR.out, HK.out] <;> rfl, hb⟩
      · have HT := Lib.hid ht
        clear ht
        have e1 := name_ne e
        have HE := Lib.hid e
        clear e
        go_wp2_with fail
        go_roundw
        case rel =>
          refine ⟨k + 1, by omega, by go_num, hbx, hb, fun j hj hjk => ?_⟩
          by_cases ej : j = k
          · subst ej; rw [← HT.out]; exact HE.out
          · exact HA.out j hj (by omega)
        case measure => simp [intOf]; omega
    · have HK := Lib.hid (find_nowhere (ms := ms) (s := s) fun j hj => HA.out j hj (by omega))
      go_wp2_with fail
      go_ret
      exact ⟨by rw [HR.out, HK.out] <;> rfl, hb⟩

theorem findIs_yes (m : LM) (pb : Nat) (w : World) (hs : w.cell? ⟨pb, 0, none⟩ = some (.string m.l.name)) :
    Calls Tryz.prog 64 #[.agg (layCs m).toArray, .pointer (some ⟨pb, 0, none⟩)] w fun e w' => e = .returned (.bool true) ∧ Below w.heap.size w w' := by
  have d := fun o => cell_past (w := w) o hs
  unfold layCs
  go_enter Tryz.func64, Tryz.ntmps64
  go_wp2_with fail
  go_ret
  exact ⟨rfl, by go_grown⟩
theorem findIs_no (m : LM) (s : ByteArray) (pb : Nat) (w : World) (hs : w.cell? ⟨pb, 0, none⟩ = some (.string s)) (hne : (m.l.name.toList == s.toList) = false) :
    Calls Tryz.prog 64 #[.agg (layCs m).toArray, .pointer (some ⟨pb, 0, none⟩)] w fun e w' => e = .returned (.bool false) ∧ Below w.heap.size w w' := by
  have d := fun o => cell_past (w := w) o hs
  unfold layCs
  go_enter Tryz.func64, Tryz.ntmps64
  go_wp2_with fail
  go_ret
  exact ⟨rfl, by go_grown⟩

set_option maxRecDepth 100000 in
theorem indexName_any (A : Option Addr) (n c : Nat) (ms : List LM) (s : ByteArray) (pb : Nat) (w : World) (hL : Lays w w.heap.size A n ms) (hs : w.cell? ⟨pb, 0, none⟩ = some (.string s)) (hn : n ≤ 1048576) :
    Calls Tryz.prog 63 #[.slice A n c, .func (.func 64) #[] #[.pointer (some ⟨pb, 0, none⟩)]] w fun e w' => e = .returned (.int .i64 (Lay.find (lsOf ms) s)) ∧ Below w.heap.size w w' := by
  obtain rfl := hL.len
  obtain ⟨r, hr⟩ : ∃ r, r = Lay.find (lsOf ms) s := ⟨_, rfl⟩
  rw [← hr]
  have HR := Lib.hid hr
  clear hr
  go_enter Tryz.func63, Tryz.ntmps63
  go_wp2_with fail
  go_loopw [8] (fun i wr => ∃ k : Nat, k ≤ ms.length ∧ i = .int .i64 k ∧ Below w.heap.size w wr ∧ ∀ j, (hj : j < ms.length) → j < k → ms[j].l.name ≠ s) (fun i _ => ms.length - (intOf i).toNat)
  case atStart => exact ⟨0, Nat.zero_le _, rfl, Below.refl _ _, fun j _ hj => by omega⟩
  case round =>
    obtain ⟨k, hk, rfl, hb, hall⟩ := hrel
    obtain ⟨wo, rfl⟩ : ∃ wo : World, wo = wr := ⟨_, rfl⟩
    have HA := Lib.hid hall
    clear hall
    by_cases hlt : k < ms.length
    · obtain ⟨b, off, rfl, hbl⟩ := hL.1.addr (by omega)
      have hLo := hL.below hb (Nat.le_refl _)
      have q0 := hLo.at k hlt 0 (by omega)
      have q1 := hLo.at k hlt 1 (by omega)
      have q2 := hLo.at k hlt 2 (by omega)
      have q3 := hLo.at k hlt 3 (by omega)
      have q4 := hLo.at k hlt 4 (by omega)
      have q5 := hLo.at k hlt 5 (by omega)
      have q6 := hLo.at k hlt 6 (by omega)
      have q7 := hLo.at k hlt 7 (by omega)
      have q8 := hLo.at k hlt 8 (by omega)
      have hso := bkeep hb hs
      obtain ⟨m, hm⟩ : ∃ m, m = ms[k] := ⟨_, rfl⟩
      rw [← hm] at q0 q1 q2 q3 q4 q5 q6 q7 q8
      simp only [layCs, List.getElem?_cons_zero, List.getElem?_cons_succ] at q0 q1 q2 q3 q4 q5 q6 q7 q8
      rw [Nat.add_zero] at q0
      clear hLo
      by_cases e : m.l.name = s
      · subst e
        have HK := Lib.hid (find_here hlt HA.out (by rw [hm]))
        clear hm
        go_wp2_with fail
        refine (findIs_yes m pb _ hso).mono ?_
        rintro e w3 ⟨rfl, hb3⟩
        go_wp2_with fail
        go_ret
        exact ⟨by rw [HR.out, HK.out] <;> rfl, hb.trans (hb3.mono hb.size)⟩
      · have HM := Lib.hid hm
        clear hm
        have e1 := name_ne e
        have HE := Lib.hid e
        clear e
        go_wp2_with fail
        refine (findIs_no m s pb _ hso e1).mono ?_
        rintro e w3 ⟨rfl, hb3⟩
        go_wp2_with fail
        go_roundw
        case rel =>
          refine ⟨k + 1, by omega, by go_num, hb.trans (hb3.mono hb.size), fun j hj hjk => ?_⟩
          by_cases ej : j = k
          · subst ej; rw [← HM.out]; exact HE.out
          · exact HA.out j hj (by omega)
        case measure => simp [intOf]; omega
    · have HK := Lib.hid (find_nowhere (ms := ms) (s := s) fun j hj => HA.out j hj (by omega))
      go_wp2_with fail
      go_ret
      exact ⟨by rw [HR.out, HK.out] <;> rfl, hb⟩

set_option maxRecDepth 100000 in
theorem find_any (W H : Int) (A : Option Addr) (n c : Nat) (ms : List LM) (s : ByteArray) (w : World) (hL : Lays w w.heap.size A n ms) (hn : n ≤ 1048576) :
    Calls Tryz.prog 49 #[.agg #[.int .i64 W, .int .i64 H, .slice A n c], .string s] w fun e w' => e = .returned (.int .i64 (Lay.find (lsOf ms) s)) ∧ Below w.heap.size w w' := by
  have hL1 := fun o => hL.step (Below.alloc (Below.refl _ _) (Nat.le_refl _) o)
  have HL := Lib.hid hL1
  clear hL1
  go_enter Tryz.func49, Tryz.ntmps49
  go_wp2_with fail
  refine (indexName_any A n c ms s (w.heap.size + 1) _ ((HL.out _).step (Below.alloc (Below.refl _ _) (Nat.le_refl _) _)) (cell_made _ _ _ (by simp) rfl) hn).mono ?_
  rintro e w1 ⟨rfl, hb1⟩
  go_wp2_with fail
  go_ret
  exact ⟨rfl, Below.trans (by go_grown) (hb1.mono (by simp; omega))⟩
end Go.Proofs.YtmknacnmdlcieaaGreatDoor
