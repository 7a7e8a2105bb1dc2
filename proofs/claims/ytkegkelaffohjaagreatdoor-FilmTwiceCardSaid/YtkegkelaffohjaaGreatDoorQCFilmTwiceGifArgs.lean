/- layercakelaw3.short, framesOf, backFrames; layercakeref3.SameFrames: the walks. -/
import Derived.Test.YtkegkelaffohjaaGreatDoorKCFilmTwice9
import Derived.Test.YtkegkelaffohjaaGreatDoorKCFilmTwice3
import Derived.Test.YtkegkelaffohjaaGreatDoorKCFilmTwice13
import Derived.Deep.RegionLaw
import Derived.Deep.RegionHeld3
namespace Go.Proofs.YtkegkelaffohjaaGreatDoor
open Go Go.RowKit
def sumN (ms : List FM) : Nat := (ms.map (·.n)).sum
theorem sumN_take (ms : List FM) (k : Nat) (hk : k < ms.length) : sumN (ms.take (k + 1)) = sumN (ms.take k) + ms[k].n := by
 unfold sumN
 rw [List.take_succ_eq_append_getElem hk, List.map_append, List.sum_append]
 simp
theorem sumN_le (ms : List FM) (B : Nat) (h : ∀ m ∈ ms, m.n ≤ B) : ∀ k, k ≤ ms.length → sumN (ms.take k) ≤ k * B
 | 0, _ => by simp [sumN]
 | k + 1, hk => by
  rw [sumN_take ms k (by omega)]
  have h1 := sumN_le ms B h k (by omega)
  have h2 := h ms[k] (List.getElem_mem (by omega))
  rw [Nat.add_mul, Nat.one_mul]
  omega
theorem sumN_mem {m : FM} : ∀ {ms : List FM}, m ∈ ms → m.n ≤ sumN ms
 | x :: r, h => by
  unfold sumN
  rw [List.map_cons, List.sum_cons]
  rcases List.mem_cons.1 h with rfl | h
  ·omega
  ·have := sumN_mem h
   unfold sumN at this
   omega
theorem gfrInfo : (Tryz.prog.info? 54).map (fun i => (i.zero, i.size, i.bytes)) = some (some (.agg #[.int .i64 0, .int .i64 0, .slice none 0 0, .int .i64 0]), 4, 48) := by kernel_rfl
theorem rfrInfo : (Tryz.prog.info? 49).map (fun i => (i.zero, i.size, i.bytes)) = some (some (.agg #[.int .i64 0, .int .i64 0, .slice none 0 0, .int .i64 0]), 4, 48) := by kernel_rfl
def shortB (ms : List FM) : Bool := decide (ms.length ≤ 20 ∧ sumN ms ≤ 3000)
set_option maxRecDepth 100000 in
set_option maxHeartbeats 1000000 in
theorem short_any (A : Option Addr) (n c : Nat) (ms : List FM) (w : World) (hF : Frs w w.heap.size A n ms) (hB : ∀ m ∈ ms, m.n ≤ reachBytes) (hn : n ≤ 9223372036854775807) :
  Calls Tryz.prog 12 #[.slice A n c] w fun e w' => e = .returned (.bool (shortB ms)) ∧ w = w' := by
 obtain rfl := hF.len
 obtain ⟨b, hb⟩ : ∃ b, b = shortB ms := ⟨_, rfl⟩
 rw [← hb]
 have HBB := Lib.hid hb
 clear hb
 by_cases h20 : ms.length ≤ 20
 ·have h20i : (ms.length : Int) ≤ 20 := by omega
  go_enter Tryz.func12, Tryz.ntmps12
  go_wp2_with fail
  go_loop [3, 4] (fun s i => ∃ k : Nat, k ≤ ms.length ∧ i = .int .i64 k ∧ s = .int .i64 (sumN (ms.take k) : Nat)) (fun _ i => ms.length - (intOf i).toNat)
  case atStart => exact ⟨0, Nat.zero_le _, rfl, by simp [sumN]⟩
  case round =>
   obtain ⟨k, hk, rfl, rfl⟩ := hrel
   have hle := sumN_le ms reachBytes hB k hk
   have hle2 : sumN (ms.take k) ≤ 20 * reachBytes := Nat.le_trans hle (Nat.mul_le_mul_right _ (by omega))
   have hr : reachBytes = 140737488351232 := rfl
   rw [hr] at hle2
   obtain ⟨x, hx⟩ : ∃ x, x = sumN (ms.take k) := ⟨_, rfl⟩
   rw [← hx] at hle2 ⊢
   have HX := Lib.hid hx
   clear hle hx
   by_cases hlt : k < ms.length
   ·obtain ⟨b0, off, rfl, hbl⟩ := hF.1.addr (by omega)
    have c2 : w.cell? ⟨b0, off + k * 4 + 2, none⟩ = some (.slice ms[k].A ms[k].n ms[k].c) := by have := hF.at k hlt 2 (by omega); simpa [frCs] using this
    have hmn := hB _ (List.getElem_mem hlt)
    rw [hr] at hmn
    have hst := sumN_take ms k hlt
    rw [← HX.out] at hst
    generalize ms[k] = m at *
    have HST := Lib.hid hst
    clear hst
    go_wp2_with fail
    go_round
    case rel => exact ⟨k + 1, hlt, by go_num, by rw [HST.out]; push_cast; rfl⟩
    case measure => simp [intOf]; omega
   ·have hk2 : k = ms.length := by omega
    have hlt2 : (ms.length : Int) ≤ k := by omega
    have hb : b = decide (x ≤ 3000) := by
     rw [HBB.out, HX.out, hk2, List.take_length]
     unfold shortB
     simp only [h20, true_and]
    clear hlt hk2 HX
    by_cases hxx : x ≤ 3000
    ·rw [decide_eq_true hxx] at hb
     subst hb
     have hxi : (x : Int) ≤ 3000 := by omega
     clear hxx
     go_wp2_with fail
     go_ret
     exact ⟨rfl, rfl⟩
    ·rw [decide_eq_false hxx] at hb
     subst hb
     have hxi : (3000 : Int) < x := by omega
     clear hxx
     go_wp2_with fail
     go_ret
     first | exact ⟨rfl, rfl⟩ | (refine ⟨?_, rfl⟩; simp; omega)
 ·have hbf : b = false := by rw [HBB.out]; exact decide_eq_false (fun h => h20 h.1)
  subst hbf
  have h20i : (20 : Int) < ms.length := by omega
  clear h20
  go_enter Tryz.func12, Tryz.ntmps12
  go_wp2_with fail
  go_loop [3, 4] (fun s i => ∃ k : Nat, k ≤ ms.length ∧ i = .int .i64 k ∧ ∃ x : Int, s = .int .i64 x) (fun _ i => ms.length - (intOf i).toNat)
  case atStart => exact ⟨0, Nat.zero_le _, rfl, _, rfl⟩
  case round =>
   obtain ⟨k, hk, rfl, x, rfl⟩ := hrel
   by_cases hlt : k < ms.length
   ·obtain ⟨b0, off, rfl, hbl⟩ := hF.1.addr (by omega)
    have c2 : w.cell? ⟨b0, off + k * 4 + 2, none⟩ = some (.slice ms[k].A ms[k].n ms[k].c) := by have := hF.at k hlt 2 (by omega); simpa [frCs] using this
    generalize ms[k] = m at *
    go_wp2_with fail
    go_round
    case rel => exact ⟨k + 1, hlt, by go_num, _, rfl⟩
    case measure => simp [intOf]; omega
   ·have hlt2 : (ms.length : Int) ≤ k := by omega
    clear hlt
    by_cases hxx : x ≤ 3000
    ·go_wp2_with fail
     go_ret
     first | exact ⟨rfl, rfl⟩ | (refine ⟨?_, rfl⟩; simp; omega)
    ·have hxi : (3000 : Int) < x := by omega
     clear hxx
     go_wp2_with fail
     go_ret
     first | exact ⟨rfl, rfl⟩ | (refine ⟨?_, rfl⟩; simp; omega)
structure FoR (w : World) (ms : List FM) (k : Nat) (v : Value) (wr : World) : Prop where
 a : ∃ A c ms', v = .slice A k c ∧ ms'.length = k ∧ ms'.map (·.f) = (ms.take k).map (·.f) ∧ FrsO wr w.heap.size (.slice A k c) ms'
 bel : Below w.heap.size w wr
set_option maxRecDepth 100000 in
set_option maxHeartbeats 2000000 in
theorem framesOf_any (A : Option Addr) (n c : Nat) (ms : List FM) (w : World) (hF : Frs w w.heap.size A n ms) (h20 : n ≤ 20) (hB : ∀ m ∈ ms, m.n ≤ 1048576) :
  Calls Tryz.prog 14 #[.slice A n c] w fun e w' => ∃ A' c' ms', e = .returned (.slice A' ms'.length c') ∧ ms'.map (·.f) = ms.map (·.f) ∧ FrsO w' w.heap.size (.slice A' ms'.length c') ms' ∧ Below w.heap.size w w' := by
 obtain rfl := hF.len
 obtain ⟨iF, hiF, hzF0, hzF1, hzF2⟩ := info_parts gfrInfo
 go_enter Tryz.func14, Tryz.ntmps14
 go_wp2_with fail
 go_loopw [3, 4] (fun v i wr => ∃ k : Nat, k ≤ ms.length ∧ i = .int .i64 k ∧ FoR w ms k v wr) (fun _ i _ => ms.length - (intOf i).toNat)
 case atStart => exact ⟨0, Nat.zero_le _, rfl, ⟨none, 0, [], rfl, rfl, rfl, FrsO.nil _ _⟩, Below.refl _ _⟩
 case round =>
  obtain ⟨k, hk, rfl, ⟨A1, c1, ms1, rfl, hl1, hm1, hfr⟩, hb⟩ := hrel
  obtain ⟨wk, hwk⟩ : ∃ wk, wk = wr := ⟨_, rfl⟩
  rw [← hwk] at hfr hb ⊢
  clear hwk
  have HL1 := Lib.hid hl1
  have HM1 := Lib.hid hm1
  have hzk := hb.size
  by_cases hlt : k < ms.length
  ·obtain ⟨b0, off, rfl, hbl⟩ := hF.1.addr (by omega)
   have hFk := hF.below hb (Nat.le_refl _)
   have k0 : wk.cell? ⟨b0, off + k * 4, none⟩ = some (.int .i64 ms[k].f.wide) := by have := hFk.at k hlt 0 (by omega); simpa [frCs] using this
   have k1 : wk.cell? ⟨b0, off + k * 4 + 1, none⟩ = some (.int .i64 ms[k].f.high) := by have := hFk.at k hlt 1 (by omega); simpa [frCs] using this
   have k2 : wk.cell? ⟨b0, off + k * 4 + 2, none⟩ = some (.slice ms[k].A ms[k].n ms[k].c) := by have := hFk.at k hlt 2 (by omega); simpa [frCs] using this
   have k3 : wk.cell? ⟨b0, off + k * 4 + 3, none⟩ = some (.int .i64 ms[k].f.delay) := by have := hFk.at k hlt 3 (by omega); simpa [frCs] using this
   have hpx := (hFk.px k hlt).more hzk
   have hmn := hB _ (List.getElem_mem hlt)
   have htk : (ms.take (k + 1)).map (·.f) = (ms.take k).map (·.f) ++ [ms[k].f] := by rw [List.take_succ_eq_append_getElem hlt, List.map_append]; rfl
   rw [← hm1] at htk
   generalize ms[k] = m at *
   have HTK := Lib.hid htk
   clear htk hl1 hm1
   have hown := hfr.own
   rw [HL1.out] at hown
   go_wp2_with fail
   go_region_law
    (first
     | (go_simp; go_at_call 43; refine (own_any m.f.wide m.f.high m.A m.n m.c m.f.ps wk.drew hpx hmn).mono ?_; rintro e wA ⟨A5, c5, rfl, ho5, hbA0⟩; have hbA := Below.fromDrew hbA0; have r3 := bkeep hbA k3; have hfrA := FrsO.below hfr hbA (Nat.le_refl _); have hownA := Own.below hown hbA (Nat.le_refl _); have hzA := hbA.size; have hBS := Blk.new wA 54 #[.int .i64 m.f.wide, .int .i64 m.f.high, .slice A5 m.n c5, .int .i64 m.f.delay] rfl)
     | (refine step_append_Own _ rfl (.tmp 11) (.tmp 24) 23 23 rfl w.heap.size 54 iF _ 4 48 Tryz.underlying23 hiF hzF0 hzF1 hzF2 rfl (by decide) (.slice A1 k c1) k (frCells ms1) rfl (hownA.alloc _) (frCells_one _) 1 (frCs ⟨m.f, A5, m.n, c5⟩) (Src.blk Tryz.underlying23 hBS rfl (by intro u hu; exact frCells_one [⟨m.f, A5, m.n, c5⟩] u (by rw [frCells_single]; exact hu))) (by unfold maxLen; omega) (by omega) (by simp; omega) ?_; intro v8 w8 ho8 hg8 ha8; obtain ⟨A8, c8, rfl, hc8, _⟩ := ho8.form))
   all_goals
    go_wp2_with fail
    go_roundw
    case rel =>
     have hln : (ms1 ++ [(⟨m.f, A5, m.n, c5⟩ : FM)]).length = k + 1 := by simp [HL1.out]
     refine ⟨k + 1, hlt, by go_num, ⟨A8, c8, ms1 ++ [⟨m.f, A5, m.n, c5⟩], rfl, hln, ?_, ?_⟩, ?_⟩
     ·rw [HTK.out, List.map_append]
      rfl
     ·refine FrsO.snoc (hfrA.alloc (.cells #[.int .i64 m.f.wide, .int .i64 m.f.high, .slice A5 m.n c5, .int .i64 m.f.delay] 54)) (m := ⟨m.f, A5, m.n, c5⟩) (by rw [HL1.out]; exact ho8) hg8 ha8 ((ho5.alloc _).reads.2) (fun b off e _ e2 => ?_)
      have h1 := (ho5.lt b (by rw [show A5 = some ⟨b, off, none⟩ from e]; rfl)).1
      have h2 := (hfr.own.lt b e2).2
      have h3 : wk.heap.size ≤ b := h1
      omega
     ·exact ((hb.trans (hbA.mono hzk)).alloc (Nat.le_trans hzk hzA) _).grown hg8 (by simp; omega) (fun g hg => (hfr.own.lt g hg).1)
    case measure => simp [intOf]; omega
  ·have hk2 : k = ms.length := by omega
   have hlt2 : (ms.length : Int) ≤ k := by omega
   clear hlt
   go_wp2_with fail
   go_ret
   refine ⟨A1, c1, ms1, ?_, ?_, by rw [HL1.out]; exact hfr, hb⟩
   ·rw [HL1.out, hk2]
    rfl
   ·rw [HM1.out, hk2, List.take_length]
set_option maxRecDepth 100000 in
set_option maxHeartbeats 2000000 in
theorem backFrames_any (A : Option Addr) (n c : Nat) (ms : List FM) (w : World) (hF : Frs w w.heap.size A n ms) (h20 : n ≤ 20) :
  Calls Tryz.prog 11 #[.slice A n c] w fun e w' => ∃ A' c' ms', e = .returned (.slice A' ms'.length c') ∧ ms'.map (·.f) = ms.map (·.f) ∧ FrsO w' w.heap.size (.slice A' ms'.length c') ms' ∧ Below w.heap.size w w' := by
 obtain rfl := hF.len
 obtain ⟨iF, hiF, hzF0, hzF1, hzF2⟩ := info_parts rfrInfo
 go_enter Tryz.func11, Tryz.ntmps11
 go_wp2_with fail
 go_loopw [3, 4] (fun v i wr => ∃ k : Nat, k ≤ ms.length ∧ i = .int .i64 k ∧ FoR w ms k v wr) (fun _ i _ => ms.length - (intOf i).toNat)
 case atStart => exact ⟨0, Nat.zero_le _, rfl, ⟨none, 0, [], rfl, rfl, rfl, FrsO.nil _ _⟩, Below.refl _ _⟩
 case round =>
  obtain ⟨k, hk, rfl, ⟨A1, c1, ms1, rfl, hl1, hm1, hfr⟩, hb⟩ := hrel
  obtain ⟨wk, hwk⟩ : ∃ wk, wk = wr := ⟨_, rfl⟩
  rw [← hwk] at hfr hb ⊢
  clear hwk
  have HL1 := Lib.hid hl1
  have HM1 := Lib.hid hm1
  have hzk := hb.size
  by_cases hlt : k < ms.length
  ·obtain ⟨b0, off, rfl, hbl⟩ := hF.1.addr (by omega)
   have hFk := hF.below hb (Nat.le_refl _)
   have k0 : wk.cell? ⟨b0, off + k * 4, none⟩ = some (.int .i64 ms[k].f.wide) := by have := hFk.at k hlt 0 (by omega); simpa [frCs] using this
   have k1 : wk.cell? ⟨b0, off + k * 4 + 1, none⟩ = some (.int .i64 ms[k].f.high) := by have := hFk.at k hlt 1 (by omega); simpa [frCs] using this
   have k2 : wk.cell? ⟨b0, off + k * 4 + 2, none⟩ = some (.slice ms[k].A ms[k].n ms[k].c) := by have := hFk.at k hlt 2 (by omega); simpa [frCs] using this
   have k3 : wk.cell? ⟨b0, off + k * 4 + 3, none⟩ = some (.int .i64 ms[k].f.delay) := by have := hFk.at k hlt 3 (by omega); simpa [frCs] using this
   have hpx0 := hFk.px k hlt
   have hpx := hpx0.more hzk
   have htk : (ms.take (k + 1)).map (·.f) = (ms.take k).map (·.f) ++ [ms[k].f] := by rw [List.take_succ_eq_append_getElem hlt, List.map_append]; rfl
   rw [← hm1] at htk
   generalize ms[k] = m at *
   have HTK := Lib.hid htk
   clear htk hl1 hm1
   have hown := hfr.own
   rw [HL1.out] at hown
   have hBS := (Blk.new wk 49 #[.int .i64 m.f.wide, .int .i64 m.f.high, .slice m.A m.n m.c, .int .i64 m.f.delay] rfl).drew
   go_wp2_with fail
   go_region_law
    ((refine step_append_Own _ rfl (.tmp 11) (.tmp 23) 28 28 rfl w.heap.size 49 iF _ 4 48 Tryz.underlying28 hiF hzF0 hzF1 hzF2 rfl (by decide) (.slice A1 k c1) k (frCells ms1) rfl ((hown.alloc _).drew) (frCells_one _) 1 (frCs m) (Src.blk Tryz.underlying28 hBS rfl (by intro u hu; exact frCells_one [m] u (by rw [frCells_single]; exact hu))) (by unfold maxLen; omega) (by omega) (by simp; omega) ?_; intro v8 w8 ho8 hg8 ha8; obtain ⟨A8, c8, rfl, hc8, _⟩ := ho8.form))
   all_goals
    go_wp2_with fail
    go_roundw
    case rel =>
     have hln : (ms1 ++ [m]).length = k + 1 := by simp [HL1.out]
     refine ⟨k + 1, hlt, by go_num, ⟨A8, c8, ms1 ++ [m], rfl, hln, ?_, ?_⟩, ?_⟩
     ·rw [HTK.out, List.map_append]
      rfl
     ·refine FrsO.snoc (w := (wk.alloc (.cells #[.int .i64 m.f.wide, .int .i64 m.f.high, .slice m.A m.n m.c, .int .i64 m.f.delay] 49)).drew) ((hfr.alloc (.cells #[.int .i64 m.f.wide, .int .i64 m.f.high, .slice m.A m.n m.c, .int .i64 m.f.delay] 49)).below (Below.here _) (Nat.le_refl _)) (m := m) (by rw [HL1.out]; exact ho8) hg8 ha8 ?_ (fun b off e hn e2 => ?_)
      ·exact ((hpx.alloc (Nat.le_refl _) _).more (by simp)).drew
      ·obtain ⟨b2, off2, e3, hb2⟩ := hpx0.addr (by omega)
       rw [e] at e3
       injection e3 with e3
       injection e3 with e3 _ _
       have h2 := (hfr.own.lt b e2).1
       omega
     ·exact (((hb.alloc hzk _).drew).grown hg8 (by simp; omega) (fun g hg => (hfr.own.lt g hg).1))
    case measure => simp [intOf]; omega
  ·have hk2 : k = ms.length := by omega
   have hlt2 : (ms.length : Int) ≤ k := by omega
   clear hlt
   go_wp2_with fail
   go_ret
   refine ⟨A1, c1, ms1, ?_, ?_, by rw [HL1.out]; exact hfr, hb⟩
   ·rw [HL1.out, hk2]
    rfl
   ·rw [HM1.out, hk2, List.take_length]
theorem map_at {a b : List FM} (h : a.map (·.f) = b.map (·.f)) (k : Nat) (ha : k < a.length) (hb : k < b.length) : a[k].f = b[k].f := by
 have e : (a.map (·.f))[k]? = (b.map (·.f))[k]? := by rw [h]
 rw [List.getElem?_map, List.getElem?_map, List.getElem?_eq_getElem ha, List.getElem?_eq_getElem hb] at e
 exact Option.some.inj e
set_option maxRecDepth 100000 in
set_option maxHeartbeats 2000000 in
theorem sameFrames_any (A1 A2 : Option Addr) (c1 c2 : Nat) (xs ys : List FM) (w : World) (h1 : Frs w w.heap.size A1 xs.length xs) (h2 : Frs w w.heap.size A2 ys.length ys) (he : xs.map (·.f) = ys.map (·.f)) (hB : ∀ m ∈ xs, m.n ≤ 1048576) (hn : xs.length ≤ 20) :
  Calls Tryz.prog 10 #[.slice A1 xs.length c1, .slice A2 ys.length c2] w fun e w' => e = .returned (.bool true) ∧ Below w.heap.size w w' := by
 have hlen : ys.length = xs.length := by have := congrArg List.length he; simpa using this.symm
 obtain ⟨n, hn0⟩ : ∃ n, n = xs.length := ⟨_, rfl⟩
 have hN := Lib.hid hn0
 rw [hlen] at h2 ⊢
 rw [← hn0] at h1 h2 hn ⊢
 have HL := Lib.hid hlen
 have HE := Lib.hid he
 clear hlen hn0 he
 go_enter Tryz.func10, Tryz.ntmps10
 go_wp2_with fail
 go_loopw [5] (fun i wr => ∃ k : Nat, k ≤ n ∧ i = .int .i64 k ∧ Below w.heap.size w wr) (fun i _ => n - (intOf i).toNat)
 case atStart => exact ⟨0, Nat.zero_le _, rfl, Below.refl _ _⟩
 case round =>
  obtain ⟨k, hk, rfl, hb⟩ := hrel
  obtain ⟨wk, hwk⟩ : ∃ wk, wk = wr := ⟨_, rfl⟩
  rw [← hwk] at hb ⊢
  clear hwk
  have hzk := hb.size
  by_cases hlt : k < n
  ·have hx : k < xs.length := by rw [← hN.out]; exact hlt
   have hy : k < ys.length := by rw [HL.out]; exact hx
   have hfe := map_at HE.out k hx hy
   have hFx := (h1.below hb (Nat.le_refl _)).more hzk
   have hFy := (h2.below hb (Nat.le_refl _)).more hzk
   obtain ⟨b0, off, rfl, hbl⟩ := h1.1.addr (by omega)
   obtain ⟨b9, off9, rfl, hbl9⟩ := h2.1.addr (by omega)
   have k0 : wk.cell? ⟨b0, off + k * 4, none⟩ = some (.int .i64 xs[k].f.wide) := by have := hFx.at k hx 0 (by omega); simpa [frCs] using this
   have k1 : wk.cell? ⟨b0, off + k * 4 + 1, none⟩ = some (.int .i64 xs[k].f.high) := by have := hFx.at k hx 1 (by omega); simpa [frCs] using this
   have k2 : wk.cell? ⟨b0, off + k * 4 + 2, none⟩ = some (.slice xs[k].A xs[k].n xs[k].c) := by have := hFx.at k hx 2 (by omega); simpa [frCs] using this
   have k3 : wk.cell? ⟨b0, off + k * 4 + 3, none⟩ = some (.int .i64 xs[k].f.delay) := by have := hFx.at k hx 3 (by omega); simpa [frCs] using this
   have j0 : wk.cell? ⟨b9, off9 + k * 4, none⟩ = some (.int .i64 xs[k].f.wide) := by have := hFy.at k hy 0 (by omega); rw [hfe]; simpa [frCs] using this
   have j1 : wk.cell? ⟨b9, off9 + k * 4 + 1, none⟩ = some (.int .i64 xs[k].f.high) := by have := hFy.at k hy 1 (by omega); rw [hfe]; simpa [frCs] using this
   have j2 : wk.cell? ⟨b9, off9 + k * 4 + 2, none⟩ = some (.slice ys[k].A ys[k].n ys[k].c) := by have := hFy.at k hy 2 (by omega); simpa [frCs] using this
   have j3 : wk.cell? ⟨b9, off9 + k * 4 + 3, none⟩ = some (.int .i64 xs[k].f.delay) := by have := hFy.at k hy 3 (by omega); rw [hfe]; simpa [frCs] using this
   have px := hFx.px k hx
   have py := hFy.px k hy
   rw [← hfe] at py
   have hnx : xs[k].n = xs[k].f.ps.length := px.pxLen
   have hny : ys[k].n = xs[k].f.ps.length := py.pxLen
   have hmn := hB _ (List.getElem_mem hx)
   have hnn : ys[k].n = xs[k].n := by rw [hny, hnx]
   rw [hnn] at py j2
   clear hfe hnx hny hnn
   generalize xs[k] = m at *
   generalize ys[k] = m2 at *
   go_wp2_with fail
   refine wp_region_held_drew (S := (fun w' => w'.cell? ⟨b0, off + k * 4, none⟩ = some (.int .i64 m.f.wide) ∧ w'.cell? ⟨b0, off + k * 4 + 1, none⟩ = some (.int .i64 m.f.high) ∧ w'.cell? ⟨b0, off + k * 4 + 2, none⟩ = some (.slice m.A m.n m.c) ∧ w'.cell? ⟨b0, off + k * 4 + 3, none⟩ = some (.int .i64 m.f.delay) ∧ w'.cell? ⟨b9, off9 + k * 4, none⟩ = some (.int .i64 m.f.wide) ∧ w'.cell? ⟨b9, off9 + k * 4 + 1, none⟩ = some (.int .i64 m.f.high) ∧ w'.cell? ⟨b9, off9 + k * 4 + 2, none⟩ = some (.slice m2.A m.n m2.c) ∧ w'.cell? ⟨b9, off9 + k * 4 + 3, none⟩ = some (.int .i64 m.f.delay) ∧ Below wk.heap.size wk w')) (by kernel_rfl) ?_ (fun hHeld => ?_)
   ·exact ⟨k0, k1, k2, k3, j0, j1, j2, j3, Below.here wk⟩
   refine opT 0 rfl ?_; refine opT 1 rfl ?_; refine opT 2 rfl ?_; refine opT 3 rfl ?_; refine opT 4 rfl ?_; refine opT 5 rfl ?_; refine opT 6 rfl ?_; refine opT 7 rfl ?_; refine opT 8 rfl ?_; refine opT 9 rfl ?_; refine opT 10 rfl ?_; refine opT 11 rfl ?_; refine opT 12 rfl ?_; refine opT 13 rfl ?_; refine opT 14 rfl ?_; refine opT 15 rfl ?_; refine opT 16 rfl ?_; refine opT 17 rfl ?_; refine opT 18 rfl ?_
   refine opT 19 rfl ?_; refine opT 20 rfl ?_; refine opT 21 rfl ?_
   refine opD 22 rfl (fun K hK => ?_)
   go_simp
   (go_at_call 17; refine (samePicture_same m.f.wide m.f.high m.A m.n m.c m2.A m2.c m.f.ps wk.drew px py hmn).mono ?_; rintro e wA ⟨rfl, hbA⟩)
   refine hK.out _ _ ?_ (fun hHeld => ?_)
   ·obtain ⟨z0, z1, z2, z3, z4, z5, z6, z7, z8⟩ := hHeld; exact ⟨bkeep hbA z0, bkeep hbA z1, bkeep hbA z2, bkeep hbA z3, bkeep hbA z4, bkeep hbA z5, bkeep hbA z6, bkeep hbA z7, z8.trans (hbA.mono z8.size)⟩
   clear hK K
   (try simp only [Act.put, nz1, nz2, nz3, nz4, nz5, nz6])
   refine opT 23 rfl ?_; refine opT 24 rfl ?_
   refine wpAnyH_done (by kernel_rfl) ?_ _
   obtain ⟨-, -, -, -, -, -, -, -, hbA⟩ := hHeld
   go_wp2_with fail
   go_roundw
   case rel => exact ⟨k + 1, hlt, by go_num, hb.trans (hbA.mono hzk)⟩
   case measure => simp [intOf]; omega
  ·have hlt2 : (n : Int) ≤ k := by omega
   clear hlt
   go_wp2_with fail
   go_ret
   exact ⟨rfl, hb⟩
end Go.Proofs.YtkegkelaffohjaaGreatDoor
