/- match.newFinder, put, bad: the walks. -/
import Derived.Test.YtkegkelaffohjaaGreatDoorQCFilmTwiceTokMem
import Derived.Deep.RegionHeld3
namespace Go.Proofs.YtkegkelaffohjaaGreatDoor
open Go Go.RowKit
theorem mbad_no (s : ByteArray) (w : World) (hs : s.size ≤ 300000) :
  Calls Tryz.prog 134 #[.string s, .int .i64 32768] w fun e w' => e = .returned (.bool false) ∧ w' = w := by
 have h : ¬ (300000 : Int) < s.size := by omega
 go_enter Tryz.func134, Tryz.ntmps134
 go_wp2
 go_ret
 exact ⟨by simp, rfl⟩
set_option maxHeartbeats 1000000 in
set_option maxRecDepth 100000 in
theorem newFinder_any (s : ByteArray) (tr : Nat) (w : World) (hs : s.size ≤ 300000) :
  Calls Tryz.prog 135 #[.string s, .int .i64 32768, .int .i64 tr] w fun e w' => ∃ fb mb v, e = .returned (.pointer (some ⟨fb, 0, none⟩)) ∧ Fnd w' w.heap.size fb mb v s tr 0 ∧ Below w.heap.size w w' := by
 obtain ⟨i0, hi, hz0, hz1, hz2⟩ := info_parts intInfo
 have hmm := @run_makeMap Tryz.prog
 go_enter Tryz.func135, Tryz.ntmps135
 go_wp2_with (refine wpList_make_full _ rfl (.tmp 11) (.tmp 11) 119 rfl w.heap.size 3 i0 _ 1 Tryz.underlying119 hi hz0 hz1 .i64 .i64 _ _ s.size rfl rfl rfl rfl (by rw [hz2]; omega) (by unfold maxLen; omega) (by simp) ?_; intro w2 hrow2 hg2)
 have hown := Own.of_row hrow2
 rw [made_same _ (.int .i64 0) (by decide) (by intro j hj; have : j = 0 := (by simp [Value.cells] at hj; omega); subst this; rfl), Nat.mul_one] at hown
 have hsz := hg2.size
 have hm := (MapAt.new w triV).grown hg2 (by intro e; cases e)
 have hb := ((Below.refl w.heap.size w).alloc (Nat.le_refl _) (.map #[] 0))
 have hb2 := Below.grown hb hg2 (by simp) (fun g hg => by cases hg)
 have hsa : (w.alloc (.map #[] 0)).heap.size = w.heap.size + 1 := by simp
 rw [hsa] at hsz hown
 go_ret
 refine ⟨_, _, _, rfl, ⟨Blk.new _ _ _ rfl, hm.alloc _, ?_, ?_, ?_, ?_, ?_, ?_⟩, hb2.alloc (by omega) _⟩
 ·rw [ahead_zero, lst_length]
  have : ints (List.replicate s.size 0) = List.replicate s.size (.int .i64 0) := by simp [ints]
  rw [this]
  exact hown.alloc _
 all_goals
  have hlt : w.heap.size + 1 < w2.heap.size := (hown.lt (w.heap.size + 1) rfl).2
  first | omega | (intro e; have e2 : w.heap.size + 1 = w2.heap.size := Option.some.inj e; omega) | (intro e; have e2 : w.heap.size + 1 = w.heap.size := Option.some.inj e; omega)
structure PutF (w : World) (B fb mb : Nat) (v : Value) (s : ByteArray) (tr a : Nat) (w' : World) : Prop where
 fnd : Fnd w' B fb mb v s tr a
 keeps : Keeps (fun x => x = mb ∨ v.ownBlock = some x) w w'
theorem Own.setInt {w : World} {base n c g off : Nat} {l : List Int} (h : Own w base 1 (.slice (some ⟨g, off, none⟩) n c) n (ints l)) (i : Nat) (hi : i < n) (x : Int) :
  Own (w.setCell ⟨g, off + i, none⟩ (.int .i64 x)) base 1 (.slice (some ⟨g, off, none⟩) n c) n (ints (l.set i x)) := by
 have hl : l.length = n := by have := h.1; rw [ints_length] at this; omega
 have := h.setOne i hi [.int .i64 x] (ints (l.set i x)) rfl (by rw [ints_length, List.length_set, hl]; omega) (fun j hj => by
  have : j = 0 := by omega
  subst this
  unfold ints
  simp [hl, hi]) (fun j hj => by
  unfold ints
  rw [List.getElem?_map, List.getElem?_map, List.getElem?_set]
  rw [if_neg (by omega)])
 simpa [World.setCells] using this
set_option maxHeartbeats 2000000 in
set_option maxRecDepth 100000 in
theorem mput_any (B fb mb : Nat) (v : Value) (s : ByteArray) (tr a : Nat) (w : World) (h : Fnd w B fb mb v s tr a) (ha : a < s.size) (hs : s.size ≤ 300000) (_hB : B ≤ w.heap.size) :
  Calls Tryz.prog 137 #[.pointer (some ⟨fb, 0, none⟩), .int .i64 a] w fun e w' => e = .returned (.tuple #[]) ∧ PutF w B fb mb v s tr (a + 1) w' := by
 obtain ⟨hb, hm, ho, hfm, hvf, hvm, hbf, hbm⟩ := h
 obtain ⟨A, c, rfl, hc, hr⟩ := ho.form
 have d0 : w.cell? ⟨fb, 0, none⟩ = some (.string s) := by rw [hb.cell]; rfl
 by_cases h3 : s.size < a + 3
 ·have h3i : (s.size : Int) < a + 3 := by omega
  have e1 : triMap (lst s) (a + 1) = triMap (lst s) a := by rw [triMap, if_neg (by rw [lst_length]; omega)]
  have e2 := ahead_same (lst s) a (by rw [lst_length]; exact h3)
  go_enter Tryz.func137, Tryz.ntmps137
  go_wp2_with fail
  refine bodyPost_ret (v := .tuple #[]) (by simp [results, Tryz.results137, go_sem]) rfl ?_
  exact ⟨rfl, ⟨hb, by rw [e1]; exact hm, by rw [e2]; exact ho, hfm, hvf, hvm, hbf, hbm⟩, Keeps.refl _ _⟩
 ·obtain ⟨q, off, rfl, hBq, hqs⟩ := ho.addr (by omega)
  have d2 : w.cell? ⟨fb, 2, none⟩ = some (.map (some mb)) := by rw [hb.cell]; rfl
  have d3 : w.cell? ⟨fb, 3, none⟩ = some (.slice (some ⟨q, off, none⟩) s.size c) := by rw [hb.cell]; rfl
  have fl := hb.lt
  have ml := hm.lt
  obtain ⟨a1, ha1⟩ : ∃ a1, a1 = a + 1 := ⟨_, rfl⟩
  obtain ⟨a2, ha2⟩ : ∃ a2, a2 = a + 2 := ⟨_, rfl⟩
  have hb1 : a1 < s.size := by omega
  have hb2 : a2 < s.size := by omega
  have h1i : (a : Int) + 1 = (a1 : Nat) := by omega
  have h2i : (a : Int) + 2 = (a2 : Nat) := by omega
  have h3i : (a : Int) + 3 ≤ s.size := by omega
  obtain ⟨x, hx⟩ : ∃ x : UInt8, s[a] = x := ⟨_, rfl⟩
  obtain ⟨y, hy⟩ : ∃ y : UInt8, s[a1] = y := ⟨_, rfl⟩
  obtain ⟨z, hz⟩ : ∃ z : UInt8, s[a2] = z := ⟨_, rfl⟩
  have HA1 := Lib.hid ha1
  have HA2 := Lib.hid ha2
  clear ha1 ha2
  go_enter Tryz.func137, Tryz.ntmps137
  go_wp2_with fail
  go_region
  have kb := (Blk.new w 248 #[.int .u8 x.toNat, .int .u8 y.toNat, .int .u8 z.toNat] rfl).drew
  have hb1' := (hb.alloc (.cells #[.int .u8 x.toNat, .int .u8 y.toNat, .int .u8 z.toNat] 248)).drew
  have hm1' := (hm.alloc (.cells #[.int .u8 x.toNat, .int .u8 y.toNat, .int .u8 z.toNat] 248)).drew
  have ho1' := (ho.alloc (.cells #[.int .u8 x.toNat, .int .u8 y.toNat, .int .u8 z.toNat] 248)).drew
  have hk1 : Keeps (fun x => x = mb ∨ (Value.slice (some ⟨q, off, none⟩) s.size c).ownBlock = some x) w (w.alloc (.cells #[.int .u8 x.toNat, .int .u8 y.toNat, .int .u8 z.toNat] 248)).drew := ((Keeps.refl _ w).alloc _).drew
  obtain ⟨g, hg⟩ : ∃ g, g = w.heap.size := ⟨_, rfl⟩
  rw [← hg] at kb
  have hgq : g ≠ q := by omega
  have hgf : g ≠ fb := by omega
  have hgm : g ≠ mb := by omega
  have hfq : fb ≠ q := fun e => hvf (by rw [e]; rfl)
  have hmq : mb ≠ q := fun e => hvm (by rw [e]; rfl)
  rw [← hg]
  generalize (w.alloc (.cells #[.int .u8 x.toNat, .int .u8 y.toNat, .int .u8 z.toNat] 248)).drew = wa at *
  have e3 : wa.cell? ⟨fb, 3, none⟩ = some (.slice (some ⟨q, off, none⟩) s.size c) := by rw [hb1'.cell]; rfl
  obtain ⟨ta, pa⟩ := ho1'.cellAt a ha
  have hal : a < (ahead (lst s) a).length := by rw [ahead_length, lst_length]; exact ha
  rw [ints_at _ _ hal] at ta
  clear d0 d2 d3 ho hb hm hr hg
  go_wp2_with fail
  have hb2' := hb1'.far (p := ⟨q, off + a, none⟩) hfq (.int .i64 (-1))
  have hm2' := hm1'.setCell (p := ⟨q, off + a, none⟩) hmq (.int .i64 (-1))
  have ho2' := ho1'.setInt a ha (-1)
  have kb2 := kb.far (p := ⟨q, off + a, none⟩) hgq (.int .i64 (-1))
  have hk2 := hk1.setCell (p := ⟨q, off + a, none⟩) (fun _ => .inr rfl) (.int .i64 (-1))
  generalize wa.setCell ⟨q, off + a, none⟩ (.int .i64 (-1)) = wb at *
  clear kb hb1' hm1' ho1' hk1 e3 ta pa
  have e2 : wb.cell? ⟨fb, 2, none⟩ = some (.map (some mb)) := by rw [hb2'.cell]; rfl
  have e3 : wb.cell? ⟨fb, 3, none⟩ = some (.slice (some ⟨q, off, none⟩) s.size c) := by rw [hb2'.cell]; rfl
  have k0 : wb.cell? ⟨g, 0, none⟩ = some (.int .u8 x.toNat) := by rw [kb2.cell]; rfl
  have k1 : wb.cell? ⟨g, 1, none⟩ = some (.int .u8 y.toNat) := by rw [kb2.cell]; rfl
  have k2 : wb.cell? ⟨g, 2, none⟩ = some (.int .u8 z.toNat) := by rw [kb2.cell]; rfl
  have hlk := tri_lookup wb.drew mb (lst s) a (x, y, z) hm2'.drew
  unfold triV at hlk
  simp only at hlk
  have htri : tri (lst s) a = (x, y, z) := by
   have g0 : (lst s).getD a 0 = x := by rw [List.getD_eq_getElem?_getD, List.getElem?_eq_getElem (by rw [lst_length]; exact ha), ← hx]; rfl
   have g1 : (lst s).getD (a + 1) 0 = y := by rw [← HA1.out, List.getD_eq_getElem?_getD, List.getElem?_eq_getElem (by rw [lst_length]; exact hb1), ← hy]; rfl
   have g2 : (lst s).getD (a + 2) 0 = z := by rw [← HA2.out, List.getD_eq_getElem?_getD, List.getElem?_eq_getElem (by rw [lst_length]; exact hb2), ← hz]; rfl
   unfold tri
   rw [g0, g1, g2]
  have HT := Lib.hid htri
  have HA3 := Lib.hid (show a + 3 ≤ s.size by omega)
  have hkey := key_tri (lst s) a (by rw [lst_length]; omega)
  rw [htri] at hkey
  obtain ⟨tb, pb⟩ := ho2'.cellAt a ha
  rw [ints_at _ _ (by rw [List.length_set]; exact hal), List.getElem_set_self] at tb
  clear htri hx hy hz hb1 hb2
  cases hp : Mat.prev (lst s) a (triL (x, y, z)) with
  | none =>
   rw [hp] at hlk
   simp only at hlk
   have hone : ahOne (lst s) a = -1 := by unfold ahOne; rw [hkey, hp]
   have HO := Lib.hid hone
   clear hone hp hkey
   go_region
   have hbX := hb2'.drew
   have hmX := hm2'.drew
   have hoX := ho2'.drew
   have hkX := hk2.drew
   clear hlk
   have hm4 := hmX.drew
   obtain ⟨w3, hrun, hmap3, hg3, _⟩ := run_mapUpdate_at triKey Tryz.underlying245 hm4 (x, y, z) (.int .i64 a)
   replace hrun : (Instr.mapUpdate 245 (.map (some mb)) (.agg #[.int .u8 x.toNat, .int .u8 y.toNat, .int .u8 z.toNat]) (.int .i64 a)).run Tryz.prog wb.drew.drew = .ok .unit w3 := hrun
   go_wp2_with fail
   go_region
   go_wp2
   go_end0
   refine ⟨rfl, ⟨hbX.drew.grown hg3 (by intro e; injection e with e; exact hfm e), by rw [triMap, if_pos (by rw [lst_length]; exact HA3.out), HT.out]; exact hmap3, ?_, hfm, hvf, hvm, hbf, hbm⟩, hkX.drew.grown hg3 (fun x hx _ => by injection hx with hx; exact .inl hx.symm)⟩
   have := hoX.drew.kept hg3 (.inr hvm)
   rw [← ahead_set (lst s) a (by rw [lst_length]; exact HA3.out), HO.out]
   exact this
  | some j =>
   rw [hp] at hlk
   simp only at hlk
   have hone : ahOne (lst s) a = (j : Int) := by unfold ahOne; rw [hkey, hp]
   have HO := Lib.hid hone
   clear hone hp hkey
   go_region
   have hbX := hb2'.far (p := ⟨q, off + a, none⟩) hfq (.int .i64 j)
   have hmX := hm2'.setCell (p := ⟨q, off + a, none⟩) hmq (.int .i64 j)
   have hoX := ho2'.setInt a ha j
   have hkX := hk2.setCell (p := ⟨q, off + a, none⟩) (fun _ => .inr rfl) (.int .i64 j)
   rw [List.set_set] at hoX
   have hk2c := kb2.far (p := ⟨q, off + a, none⟩) hgq (.int .i64 j)
   go_wp2_with fail
   generalize wb.setCell ⟨q, off + a, none⟩ (.int .i64 j) = wc at *
   have e2 : wc.cell? ⟨fb, 2, none⟩ = some (.map (some mb)) := by rw [hbX.cell]; rfl
   have k0 : wc.cell? ⟨g, 0, none⟩ = some (.int .u8 x.toNat) := by rw [hk2c.cell]; rfl
   have k1 : wc.cell? ⟨g, 1, none⟩ = some (.int .u8 y.toNat) := by rw [hk2c.cell]; rfl
   have k2 : wc.cell? ⟨g, 2, none⟩ = some (.int .u8 z.toNat) := by rw [hk2c.cell]; rfl
   replace hbX := hbX.drew
   replace hmX := hmX.drew
   replace hoX := hoX.drew
   replace hkX := hkX.drew
   clear hlk
   have hm4 := hmX.drew
   obtain ⟨w3, hrun, hmap3, hg3, _⟩ := run_mapUpdate_at triKey Tryz.underlying245 hm4 (x, y, z) (.int .i64 a)
   replace hrun : (Instr.mapUpdate 245 (.map (some mb)) (.agg #[.int .u8 x.toNat, .int .u8 y.toNat, .int .u8 z.toNat]) (.int .i64 a)).run Tryz.prog wc.drew.drew = .ok .unit w3 := hrun
   go_region
   go_wp2
   go_end0
   refine ⟨rfl, ⟨hbX.drew.grown hg3 (by intro e; injection e with e; exact hfm e), by rw [triMap, if_pos (by rw [lst_length]; exact HA3.out), HT.out]; exact hmap3, ?_, hfm, hvf, hvm, hbf, hbm⟩, hkX.drew.grown hg3 (fun x hx _ => by injection hx with hx; exact .inl hx.symm)⟩
   have := hoX.drew.kept hg3 (.inr hvm)
   rw [← ahead_set (lst s) a (by rw [lst_length]; exact HA3.out), HO.out]
   exact this
end Go.Proofs.YtkegkelaffohjaaGreatDoor
