/- (gif.reader).frame: the walk. -/
import Derived.Test.YtncedhhgclofbaaDoorReader
import Derived.Test.YtncedhhgclofbaaDoorUnpWalk
import Derived.Test.YtncedhhgclofbaaDoorJoin
import Derived.Deep.Cut
import Derived.Deep.DeepCutAuto
namespace Go.Proofs.YtncedhhgclofbaaDoor
open Go Go.RowKit

theorem nat1_drop (S : List UInt8) (p i : Nat) : Gif.nat1 (S.drop p) i = Gif.nat1 S (p + i) := by
  unfold Gif.nat1
  rw [List.getD_eq_getElem?_getD, List.getD_eq_getElem?_getD, List.getElem?_drop]
theorem nat2_drop (S : List UInt8) (p i : Nat) : Gif.nat2 (S.drop p) i = Gif.nat2 S (p + i) := by
  unfold Gif.nat2
  rw [nat1_drop, nat1_drop, Nat.add_assoc]
/-- The error variables are other blocks than g. -/
structure ErN (g : Nat) : Prop where
  text : 2 < g
  bound : 1 < g
  shape : 3 < g
  colors : 0 < g
theorem Er4.erN {w : World} {E : Nat → Addr} {g : Nat} (h : Er4 w E) (hg : w.heap.size ≤ g) : ErN g := by
  have h1 := cell_lt h.text
  have h2 := cell_lt h.bound
  have h3 := cell_lt h.shape
  have h4 := cell_lt h.colors
  simp only at h1 h2 h3 h4
  exact ⟨by omega, by omega, by omega, by omega⟩
theorem Er4.keeps {w w' : World} {E : Nat → Addr} {T : Nat → Prop} (h : Er4 w E) (k : Keeps T w w') (hT : ∀ x, T x → ErN x) : Er4 w' E := by
  have key : ∀ (b : Nat) (u : Value), w.cell? ⟨b, 0, none⟩ = some u → ¬ T b → w'.cell? ⟨b, 0, none⟩ = some u := by
    intro b u hb hn
    have hl := cell_lt hb
    have e := k.block b hl hn
    rw [← hb]
    unfold World.cell?
    rw [e]
  exact ⟨key _ _ h.text fun e => by have := (hT _ e).text; omega, key _ _ h.bound fun e => by have := (hT _ e).bound; omega, key _ _ h.shape fun e => by have := (hT _ e).shape; omega, key _ _ h.colors fun e => by have := (hT _ e).colors; omega⟩
/-- What frame gives. -/
def FrmR (w : World) (g : Nat) (S : List UInt8) (R : Option (Fr × List UInt8)) (e : Ending) (w' : World) : Prop :=
  Keeps (fun x => x = g) w w' ∧ match R with
  | none => e = .panicked thrown
  | some r => ∃ A c q, e = .returned (.agg #[.int .i64 r.1.wide, .int .i64 r.1.high, .slice A r.1.ps.length c, .int .i64 r.1.delay]) ∧ Own w' w.heap.size 4 (.slice A r.1.ps.length c) r.1.ps.length (pxCells r.1.ps) ∧ RdA w' g S q ∧ q ≤ S.length ∧ S.drop q = r.2
/-- What the loop of frame keeps. -/
structure FlR (w : World) (g gF : Nat) (S : List UInt8) (q : Nat) (W H dl : Nat) (ps : List Px) (wr : World) : Prop where
  a : ∃ A c, Blk wr gF 37 #[.int .i64 W, .int .i64 H, .slice A ps.length c, .int .i64 dl] ∧ Own wr (gF + 1) 4 (.slice A ps.length c) ps.length (pxCells ps)
  b : Blk wr w.heap.size 37 #[.int .i64 0, .int .i64 0, .slice none 0 0, .int .i64 0]
  rd : RdA wr g S q
  keeps : Keeps (fun x => x = g) w wr
theorem keeps_setCells (w : World) (g o : Nat) (vs : List Value) : Keeps (fun x => x = g) w (w.setCells g o vs) :=
  ⟨os_setCells g vs o w, tape_setCells g vs o w, output_setCells g vs o w, Nat.le_of_eq (size_setCells g vs o w).symm, fun b _ hn => heap_setCells g b hn vs o w⟩
/-- One's own pixel. -/
theorem own_px1 (w : World) (p : Px) : Own (w.alloc (.cells #[.int .u8 p.r.toNat, .int .u8 p.g.toNat, .int .u8 p.b.toNat, .int .u8 p.a.toNat] 52)) w.heap.size 4 (.slice (some ⟨w.heap.size, 0, none⟩) 1 1) 1 (pxCells [p]) := by
  have hB := Blk.new w 52 #[.int .u8 p.r.toNat, .int .u8 p.g.toNat, .int .u8 p.b.toNat, .int .u8 p.a.toNat] rfl
  refine ⟨rfl, .inr ⟨w.heap.size, 0, 1, rfl, Nat.le_refl _, by simp, Nat.le_refl _, by decide, fun j hj => ?_, fun j hj => ?_⟩⟩
  · rw [Nat.zero_add, hB.cell]
    simp [pxCells, pxCs]
  · rw [Nat.zero_add, hB.cell, hB.free]
    refine ⟨?_, rfl⟩
    simp
    omega
set_option maxHeartbeats 4000000 in
set_option maxRecDepth 100000 in
theorem frame_any (g p W H : Nat) (S : List UInt8) (E : Nat → Addr) (w : World) (hE : Er4 w E) (hN : ErN g) (h : RdA w g S p) (hp : p ≤ S.length) (hs : S.length ≤ 300000) (hW : W ≤ 256) (hH : H ≤ 256) (hgl : g < w.heap.size) :
    Calls Tryd.prog 47 #[.pointer (some ⟨g, 0, none⟩), .int .i64 W, .int .i64 H] w fun e w' => FrmR w g S (Gif.rframe W H (S.drop p)) e w' := by
  obtain ⟨R, hR⟩ : ∃ R, R = Gif.rframe W H (S.drop p) := ⟨_, rfl⟩
  rw [← hR]
  have hsl : (S.drop p).length = S.length - p := List.length_drop
  unfold Gif.rframe at hR
  simp only [nat1_drop, nat2_drop, hsl, List.drop_drop] at hR
  have no18 : S.length < p + 18 → R = none := fun h => by rw [hR, if_pos (by omega)]
  have NO18 := Lib.hid no18
  have HR := Lib.hid hR
  have hWH : W * H ≤ 65536 := Nat.mul_le_mul hW hH
  obtain ⟨M, hM⟩ : ∃ M, M = W * H := ⟨_, rfl⟩
  have hMi : (W : Int) * (H : Int) = (M : Int) := by rw [hM]; push_cast; rfl
  have HM := Lib.hid hM
  rw [← hM] at hWH
  clear no18 hR hsl hM
  have h1 := h.below ((Below.refl w.heap.size w).alloc (Nat.le_refl _) (.cells #[.int .i64 0, .int .i64 0, .slice none 0 0, .int .i64 0] 37)) hgl
  have hB0 := Blk.new w 37 #[.int .i64 0, .int .i64 0, .slice none 0 0, .int .i64 0] rfl
  have k1 : Keeps (fun x => x = g) w (w.alloc (.cells #[.int .i64 0, .int .i64 0, .slice none 0 0, .int .i64 0] 37)) := (Keeps.refl (fun x => x = g) w).alloc _
  have hsz1 : (w.alloc (.cells #[.int .i64 0, .int .i64 0, .slice none 0 0, .int .i64 0] 37)).heap.size = w.heap.size + 1 := by simp
  have HSZ1 := Lib.hid hsz1
  clear hsz1
  go_enter Tryd.func47, Tryd.ntmps47
  go_wp2_with fail
  generalize w.alloc (.cells #[.int .i64 0, .int .i64 0, .slice none 0 0, .int .i64 0] 37) = w1 at *
  have hz1 : w1.heap.size = w.heap.size + 1 := HSZ1.out
  by_cases c2 : S.length < p + 3
  · refine (take_no g 3 p S w1 h1 hp c2).mono ?_
    rintro e w2 ⟨rfl, rfl⟩
    have hRn := NO18.out (by omega)
    subst hRn
    go_wp2_with fail
    exact ⟨rfl, k1, rfl⟩
  replace c2 : p + 3 ≤ S.length := Nat.le_of_not_lt c2
  refine (take_yes g 3 p S w1 h1 c2 hs).mono ?_
  rintro e w2 ⟨t3, rfl, -, h2, k2⟩
  replace hB0 := hB0.keeps k2 (by omega)
  replace k2 := k1.trans k2 (fun _ _ h => h)
  clear h1 k1
  go_wp2_with fail
  by_cases c3 : S.length < p + 4
  · refine (rbyte_no g (p + 3) S w2 h2 (by omega) c3).mono ?_
    rintro e w3 ⟨rfl, rfl⟩
    have hRn := NO18.out (by omega)
    subst hRn
    go_wp2_with fail
    exact ⟨rfl, k2, rfl⟩
  replace c3 : p + 4 ≤ S.length := Nat.le_of_not_lt c3
  refine (rbyte_yes g (p + 3) S w2 h2 c3 hs).mono ?_
  rintro e w3 ⟨rfl, h3, k3⟩
  replace hB0 := hB0.keeps k3 (by omega)
  replace k3 := k2.trans k3 (fun _ _ h => h)
  clear h2 k2
  obtain ⟨fl, hfl⟩ : ∃ fl, fl = Gif.nat1 S (p + 3) := ⟨_, rfl⟩
  rw [← hfl]
  have HFL := Lib.hid hfl
  clear hfl
  go_wp2_with fail
  by_cases c4 : S.length < p + 6
  · refine (rtwo_no g (p + 4) S w3 h3 (by omega) c4 hs).mono ?_
    rintro e w4 ⟨rfl, k4⟩
    have hRn := NO18.out (by omega)
    subst hRn
    go_wp2_with fail
    exact ⟨rfl, k3.trans k4 (fun _ _ h => h), rfl⟩
  replace c4 : p + 6 ≤ S.length := Nat.le_of_not_lt c4
  refine (rtwo_yes g (p + 4) S w3 h3 c4 hs).mono ?_
  rintro e w4 ⟨rfl, h4, k4⟩
  replace hB0 := hB0.keeps k4 (by omega)
  replace k4 := k3.trans k4 (fun _ _ h => h)
  clear h3 k3
  obtain ⟨dl, hdl⟩ : ∃ dl, dl = Gif.nat2 S (p + 4) := ⟨_, rfl⟩
  rw [← hdl]
  have HDL := Lib.hid hdl
  clear hdl
  have hz4 := k4.size
  have hB4 := hB0.lt
  replace hB0 := hB0.alloc (.cells #[.int .i64 0, .int .i64 0, .slice none 0 0, .int .i64 dl] 37)
  have hF := Blk.new w4 37 #[.int .i64 0, .int .i64 0, .slice none 0 0, .int .i64 dl] rfl
  have k5 := k4.alloc (.cells #[.int .i64 0, .int .i64 0, .slice none 0 0, .int .i64 dl] 37)
  have h5 : RdA (w4.alloc (.cells #[.int .i64 0, .int .i64 0, .slice none 0 0, .int .i64 dl] 37)) g S (p + 4 + 2) := h4.below ((Below.refl w4.heap.size w4).alloc (Nat.le_refl _) _) (by omega)
  go_wp2_with fail
  obtain ⟨gF, hgF⟩ : ∃ gF, gF = w4.heap.size := ⟨_, rfl⟩
  have hgF1 : w.heap.size < gF := by omega
  rw [← hgF] at hF ⊢
  have hgFl := hF.lt
  generalize w4.alloc (.cells #[.int .i64 0, .int .i64 0, .slice none 0 0, .int .i64 dl] 37) = w5 at *
  clear h4 k4 hgF hz4 hB4 hz1
  by_cases c6 : S.length < p + 7
  · refine (rbyte_no g (p + 4 + 2) S w5 h5 (by omega) (by omega)).mono ?_
    rintro e w6 ⟨rfl, rfl⟩
    have hRn := NO18.out (by omega)
    subst hRn
    go_wp2_with fail
    exact ⟨rfl, k5, rfl⟩
  replace c6 : p + 7 ≤ S.length := Nat.le_of_not_lt c6
  refine (rbyte_yes g (p + 4 + 2) S w5 h5 c6 hs).mono ?_
  rintro e w6 ⟨rfl, h6, k6⟩
  replace hB0 := hB0.keeps k6 (by omega)
  replace hF := hF.keeps k6 (by omega)
  replace k6 := k5.trans k6 (fun _ _ h => h)
  clear h5 k5
  obtain ⟨cl, hcl⟩ : ∃ cl, cl = Gif.nat1 S (p + 4 + 2) := ⟨_, rfl⟩
  rw [← hcl]
  have HCL := Lib.hid hcl
  clear hcl
  go_wp2_with fail
  by_cases c7 : S.length < p + 17
  · refine (take_no g 10 (p + 4 + 2 + 1) S w6 h6 (by omega) (by omega)).mono ?_
    rintro e w7 ⟨rfl, rfl⟩
    have hRn := NO18.out (by omega)
    subst hRn
    go_wp2_with fail
    exact ⟨rfl, k6, rfl⟩
  replace c7 : p + 17 ≤ S.length := Nat.le_of_not_lt c7
  refine (take_yes g 10 (p + 4 + 2 + 1) S w6 h6 c7 hs).mono ?_
  rintro e w7 ⟨t7, rfl, -, h7, k7⟩
  replace hB0 := hB0.keeps k7 (by omega)
  replace hF := hF.keeps k7 (by omega)
  replace k7 := k6.trans k7 (fun _ _ h => h)
  clear h6 k6
  go_wp2_with fail
  by_cases c8 : S.length < p + 18
  · refine (rbyte_no g (p + 4 + 2 + 1 + 10) S w7 h7 (by omega) (by omega)).mono ?_
    rintro e w8 ⟨rfl, rfl⟩
    have hRn := NO18.out (by omega)
    subst hRn
    go_wp2_with fail
    exact ⟨rfl, k7, rfl⟩
  replace c8 : p + 18 ≤ S.length := Nat.le_of_not_lt c8
  refine (rbyte_yes g (p + 4 + 2 + 1 + 10) S w7 h7 c8 hs).mono ?_
  rintro e w8 ⟨rfl, h8, k8⟩
  replace hB0 := hB0.keeps k8 (by omega)
  replace hF := hF.keeps k8 (by omega)
  replace k8 := k7.trans k8 (fun _ _ h => h)
  clear h7 k7
  obtain ⟨zz, hzz⟩ : ∃ zz, zz = Gif.nat1 S (p + 4 + 2 + 1 + 10) := ⟨_, rfl⟩
  have hzl : zz < 256 := by rw [hzz]; exact nat1_lt _ _
  have hand := i64_and7 zz hzl
  obtain ⟨z, hz⟩ : ∃ z, z = zz % 8 := ⟨_, rfl⟩
  have hz7 : z ≤ 7 := by omega
  have hze : z = Gif.nat1 S (p + 17) % 8 := by rw [hz, hzz]
  obtain ⟨P, hP⟩ : ∃ P : Nat, P = 2 ^ z := ⟨_, rfl⟩
  have hPi : (2 : Int) ^ z = P := by rw [hP]; exact (Int.natCast_pow 2 z).symm
  have hPl : P ≤ 128 := by rw [hP]; exact Nat.le_trans (Nat.pow_le_pow_right (show 0 < 2 by omega) hz7) (by decide)
  have hP1 : 1 ≤ P := by rw [hP]; exact Nat.two_pow_pos z
  have hpow : 3 * 2 ^ (Gif.nat1 S (p + 17) % 8 + 1) = 6 * P := by rw [← hze, hP, Nat.pow_succ]; omega
  rw [← hz] at hand
  rw [← hzz]
  have hR2 := HR.out
  rw [if_neg (by omega), hpow] at hR2
  have HR2 := Lib.hid hR2
  have HPOW := Lib.hid hpow
  clear hzz hz hze hP hR2 hpow HR NO18
  go_wp2_with fail
  obtain ⟨Y, hY⟩ : ∃ Y : Nat, Y = 6 * P := ⟨_, rfl⟩
  have hY6 : (3 : Int) * (2 * (P : Int)) = (Y : Int) := by omega
  have hYl : Y ≤ 768 := by omega
  have hR2 := HR2.out
  rw [← hY] at hR2
  have HR3 := Lib.hid hR2
  rw [hY6]
  clear HR2 hR2 hY
  obtain ⟨q, hq⟩ : ∃ q, q = p + 4 + 2 + 1 + 10 + 1 := ⟨_, rfl⟩
  have hqp : q = p + 18 := by omega
  rw [← hq] at h8
  replace c8 : q ≤ S.length := by omega
  clear hq c7 c6 c4 c3 c2
  by_cases c9 : S.length < q + Y
  · refine (take_no g Y q S w8 h8 c8 c9).mono ?_
    rintro e w9 ⟨rfl, rfl⟩
    have hRn : R = none := by rw [HR3.out, if_pos (by omega)]
    subst hRn
    go_wp2_with fail
    exact ⟨rfl, k8, rfl⟩
  replace c9 : q + Y ≤ S.length := Nat.le_of_not_lt c9
  refine (take_yes g Y q S w8 h8 c9 hs).mono ?_
  rintro e w9 ⟨tT, rfl, hT, h9, k9⟩
  replace hB0 := hB0.keeps k9 (by omega)
  replace hF := hF.keeps k9 (by omega)
  replace k9 := k8.trans k9 (fun _ _ h => h)
  clear h8 k8
  have hTz : tT.size = Y := by rw [← lst_length, hT, List.length_take, List.length_drop]; omega
  have HT := Lib.hid hT
  have hTzi : (tT.size : Int) = Y := by omega
  clear hT
  go_wp2_with fail
  by_cases c10 : S.length < q + Y + 1
  · refine (rbyte_no g (q + Y) S w9 h9 c9 (by omega)).mono ?_
    rintro e w10 ⟨rfl, rfl⟩
    have hRn : R = none := by rw [HR3.out, if_neg (by omega), if_pos (by omega)]
    subst hRn
    go_wp2_with fail
    exact ⟨rfl, k9, rfl⟩
  replace c10 : q + Y + 1 ≤ S.length := Nat.le_of_not_lt c10
  refine (rbyte_yes g (q + Y) S w9 h9 c10 hs).mono ?_
  rintro e w10 ⟨rfl, h10, k10⟩
  replace hB0 := hB0.keeps k10 (by omega)
  replace hF := hF.keeps k10 (by omega)
  replace k10 := k9.trans k10 (fun _ _ h => h)
  clear h9 k9
  obtain ⟨wd, hwd⟩ : ∃ wd, wd = Gif.nat1 S (q + Y) := ⟨_, rfl⟩
  rw [← hwd]
  have HWD := Lib.hid hwd
  obtain ⟨t, hbt, htl⟩ := h10
  have d0 : w10.cell? ⟨g, 0, none⟩ = some (.string t) := by rw [hbt.cell]; rfl
  have hts : t.size ≤ 300000 := by rw [← lst_length, htl, List.length_drop]; omega
  obtain ⟨q2, hq2⟩ : ∃ q2, q2 = q + Y + 1 := ⟨_, rfl⟩
  rw [← hq2] at htl c10
  have htz : t.size = S.length - q2 := by rw [← lst_length, htl, List.length_drop]
  have hR4 : R = match Blo.joinF (t.size + 1) (lst t) [] 0 with
      | none => none
      | some (z, used) => match Gif.unpack z wd M with
        | none => none
        | some l => if l.length ≠ M then none else
          match Gif.pixsOf fl cl (lst tT) l with
          | none => none
          | some ps => some (⟨W, H, ps, dl⟩, S.drop (q2 + used)) := by
    rw [HR3.out, if_neg (by omega), if_neg (by omega), show p + (19 + Y) = q2 by omega, ← htl, HM.out, HWD.out, HFL.out, HCL.out, HDL.out, HT.out, show p + (18 + Y) = q + Y by omega, show p + 18 = q by omega, show p + 4 + 2 = p + 6 by omega]
    rfl
  have HR4 := Lib.hid hR4
  have HTL := Lib.hid htl
  have hE10 := hE.keeps k10 (fun x hx => by rw [hx]; exact hN)
  clear hR4 HR3 htl hwd HWD HT HM HFL HCL HDL HPOW
  go_wp2_with fail
  refine (join_any t E w10 hE10 (by omega)).mono ?_
  rintro e w11 ⟨hb11, he11⟩
  have h11 : RdA w11 g S q2 := ⟨t, hbt.below hb11 hbt.lt, HTL.out⟩
  replace hB0 := hB0.below hb11 hB0.lt
  replace hF := hF.below hb11 hF.lt
  have hE11 := hE10.below hb11
  have k11 := k10.trans (Keeps.of_below (S := fun x => x = g) hb11 (fun g hg _ => hg)) (fun _ _ h => h)
  cases hj : Blo.joinF (t.size + 1) (lst t) [] 0 with
  | none =>
    rw [hj] at he11
    replace he11 : e = .returned (.tuple #[.string ⟨#[]⟩, .int .i64 0, errV (E 0)]) := he11
    subst he11
    have hRn : R = none := by rw [HR4.out, hj]
    subst hRn
    clear hj
    unfold errV
    go_wp2_with fail
    exact ⟨rfl, k11, rfl⟩
  | some r =>
    obtain ⟨zs, used⟩ := r
    rw [hj] at he11
    obtain ⟨he, hu1, hu2⟩ := he11
    replace he : e = .returned (.tuple #[.string ⟨zs.toArray⟩, .int .i64 used, .nilIface]) := he
    replace hu1 : used ≤ t.size := hu1
    replace hu2 : zs.length ≤ t.size := hu2
    subst he
    have hR5 := HR4.out
    rw [hj] at hR5
    have HR5 := Lib.hid hR5
    clear hj hR5 HR4 hbt d0 hb11 hE10 k10
    obtain ⟨sz, hsz⟩ : ∃ sz : ByteArray, sz = ⟨zs.toArray⟩ := ⟨_, rfl⟩
    have hszl : sz.size ≤ 300000 := by rw [hsz]; show zs.length ≤ _; omega
    have hszz : lst sz = zs := by rw [hsz]
    have HSZ := Lib.hid hszz
    rw [← hsz]
    clear hsz hszz
    go_wp2_with fail
    refine (take_yes g used q2 S w11 h11 (by omega) hs).mono ?_
    rintro e w12 ⟨t12, rfl, -, h12, k12⟩
    replace hB0 := hB0.keeps k12 (by omega)
    replace hF := hF.keeps k12 (by omega)
    have hE12 := hE11.keeps k12 (fun x hx => by rw [hx]; exact hN)
    replace k12 := k11.trans k12 (fun _ _ h => h)
    clear h11 k11 hE11
    go_wp2_with fail
    refine (unpack_any sz wd M E w12 hE12 hszl (by omega)).mono ?_
    rintro e w13 ⟨hb13, he13⟩
    rw [HSZ.out] at he13
    replace hB0 := hB0.below hb13 hB0.lt
    replace hF := hF.below hb13 hF.lt
    have hg12 : g < w12.heap.size := by have := k12.size; omega
    have h13 := h12.below hb13 hg12
    have k13 := k12.trans (Keeps.of_below (S := fun x => x = g) hb13 (fun g hg _ => hg)) (fun _ _ h => h)
    clear h12 k12 hb13 hE12 hg12 HSZ
    cases hun : Gif.unpack zs wd M with
    | none =>
      rw [hun] at he13
      obtain ⟨j, rfl⟩ := he13
      have hRn : R = none := by
        have := HR5.out
        simp only [hun] at this
        exact this
      subst hRn
      clear hun
      unfold errV
      go_wp2_with fail
      exact ⟨rfl, k13, rfl⟩
    | some l =>
      rw [hun] at he13
      obtain ⟨zi, rfl⟩ := he13
      have hR6 : R = if l.length ≠ M then none else
          match Gif.pixsOf fl cl (lst tT) l with
          | none => none
          | some ps => some (⟨W, H, ps, dl⟩, S.drop (q2 + used)) := by
        have := HR5.out
        simp only [hun] at this
        exact this
      obtain ⟨sl, hsl⟩ : ∃ sl : ByteArray, sl = ⟨l.toArray⟩ := ⟨_, rfl⟩
      have hsll : sl.size = l.length := by rw [hsl]; rfl
      have hslt : lst sl = l := by rw [hsl]
      have HSL := Lib.hid hslt
      have HSLL := Lib.hid hsll
      rw [← hsl]
      rw [← hsll] at hR6
      have HR6 := Lib.hid hR6
      clear hun hR6 HR5 hsl hsll hslt
      by_cases hlen : sl.size = M
      · have hR7 := HR6.out
        rw [if_neg (fun h => h hlen)] at hR7
        have HR7 := Lib.hid hR7
        have hlb : ((sl.size : Int) != (M : Int)) = false := by rw [bne_eq_false_iff_eq]; omega
        have hsM : sl.size ≤ 65536 := by omega
        have c0 : w13.cell? ⟨gF, 0, none⟩ = some (.int .i64 0) := by rw [hF.cell]; rfl
        have c1 : w13.cell? ⟨gF, 1, none⟩ = some (.int .i64 0) := by rw [hF.cell]; rfl
        have c2 : w13.cell? ⟨gF, 2, none⟩ = some (.slice none 0 0) := by rw [hF.cell]; rfl
        have f0 := hF.free 0
        have f1 := hF.free 1
        have f2 := hF.free 2
        clear hR7 HR6 hlen
        have hgw : gF < w13.heap.size := hF.lt
        have hL0 : FlR w g gF S (q2 + used) W H dl [] (((w13.setCell ⟨gF, 0, none⟩ (.int .i64 W)).setCell ⟨gF, 1, none⟩ (.int .i64 H)).setCell ⟨gF, 2, none⟩ (.slice none 0 0)) := by
          refine ⟨⟨none, 0, ?_, Own.nil _ _ _⟩, ?_, ?_, ?_⟩
          · exact ((hF.set_ 0 (.int .i64 W)).set_ 1 (.int .i64 H)).set_ 2 (.slice none 0 0)
          · exact ((hB0.far (p := ⟨gF, 0, none⟩) (Nat.ne_of_lt hgF1) _).far (p := ⟨gF, 1, none⟩) (Nat.ne_of_lt hgF1) _).far (p := ⟨gF, 2, none⟩) (Nat.ne_of_lt hgF1) _
          · obtain ⟨t9, q1, q3⟩ := h13
            have hne : g ≠ gF := by omega
            exact ⟨t9, ((q1.far (p := ⟨gF, 0, none⟩) hne _).far (p := ⟨gF, 1, none⟩) hne _).far (p := ⟨gF, 2, none⟩) hne _, q3⟩
          · exact ((k13.setCell (p := ⟨gF, 0, none⟩) (fun (h : gF < w.heap.size) => absurd h (by omega)) _).setCell (p := ⟨gF, 1, none⟩) (fun (h : gF < w.heap.size) => absurd h (by omega)) _).setCell (p := ⟨gF, 2, none⟩) (fun (h : gF < w.heap.size) => absurd h (by omega)) _
        have HL0 := Lib.hid hL0
        clear hL0 hB0 hF h13 k13
        go_wp2_with fail
        obtain ⟨iP, hiP, hzP0, hzP1, hzP2⟩ := info_parts pxInfo
        go_loopw [86] (fun i wr => ∃ (k : Nat) (ps : List Px), i = .int .i64 k ∧ k ≤ sl.size ∧ Gif.pixsOf fl cl (lst tT) ((lst sl).take k) = some ps ∧ FlR w g gF S (q2 + used) W H dl ps wr) (fun i _ => sl.size - (intOf i).toNat)
        case atStart => exact ⟨0, [], rfl, Nat.zero_le _, rfl, HL0.out⟩
        case round =>
          clear HL0 c0 c1 c2 f0 f1 f2
          obtain ⟨k, ps, rfl, hk, hpx, ⟨A, c, hF, hown⟩, hB0, hrd, hkr⟩ := hrel
          obtain ⟨wk, hwk⟩ : ∃ wk, wk = wr := ⟨_, rfl⟩
          rw [← hwk] at hF hown hB0 hrd hkr ⊢
          clear hwk
          have hpsl := Gif.pixsOf_length _ _ _ _ _ hpx
          have hpk : ps.length = k := by rw [hpsl, List.length_take, lst_length]; omega
          rw [hpk] at hF hown
          have HPX := Lib.hid hpx
          have HPK := Lib.hid hpk
          clear hpx hpsl hpk
          by_cases hlt : k < sl.size
          · obtain ⟨x, hx⟩ : ∃ x : Nat, sl[k].toNat = x := ⟨_, rfl⟩
            have hxl : x < 256 := by rw [← hx]; exact sl[k].toNat_lt
            have hcons : (lst sl).drop k = sl[k] :: (lst sl).drop (k + 1) := by
              rw [List.drop_eq_getElem_cons (by rw [lst_length]; exact hlt)]
              rfl
            have HC := Lib.hid hcons
            clear hcons
            by_cases hbig : tT.size ≤ 3 * x
            · have hRn : R = none := by
                rw [HR7.out, ← HSL.out, ← List.take_append_drop k (lst sl), HC.out, Gif.pixsOf_none]
                unfold Gif.pixOf
                rw [hx, lst_length, if_pos hbig]
              have hbi : (tT.size : Int) ≤ 3 * (x : Int) := by omega
              have HX := Lib.hid hx
              subst hRn
              clear hbig
              go_wp2_with fail
              exact ⟨rfl, hkr, rfl⟩
            · replace hbig : 3 * x < tT.size := Nat.lt_of_not_le hbig
              have hbi : (3 : Int) * (x : Int) < tT.size := by omega
              obtain ⟨a0, ha0⟩ : ∃ a0 : Nat, a0 = 3 * x := ⟨_, rfl⟩
              have hpm : 3 * x + 2 < tT.size := by
                rw [hTz] at hbig ⊢
                omega
              obtain ⟨a1, ha1⟩ : ∃ a1 : Nat, a1 = a0 + 1 := ⟨_, rfl⟩
              obtain ⟨a2, ha2⟩ : ∃ a2 : Nat, a2 = a0 + 2 := ⟨_, rfl⟩
              have w0 : (3 : Int) * (x : Int) = (a0 : Int) := by omega
              have w1i : (a0 : Int) + 1 = (a1 : Int) := by omega
              have w2i : (a0 : Int) + 2 = (a2 : Int) := by omega
              have l0 : a0 < tT.size := by omega
              have l1 : a1 < tT.size := by omega
              have l2 : a2 < tT.size := by omega
              have m0 : a0 < Y := by omega
              have m1 : a1 < Y := by omega
              have m2 : a2 < Y := by omega
              obtain ⟨pr, hpr⟩ : ∃ pr, pr = tT[a0] := ⟨_, rfl⟩
              obtain ⟨pg, hpg⟩ : ∃ pg, pg = tT[a1] := ⟨_, rfl⟩
              obtain ⟨pb, hpb⟩ : ∃ pb, pb = tT[a2] := ⟨_, rfl⟩
              have hA0 := Lib.hid ha0
              have hR0 : ((lst tT).getD (3 * x) 0 = pr) ∧ ((lst tT).getD (3 * x + 1) 0 = pg) ∧ ((lst tT).getD (3 * x + 2) 0 = pb) := by
                have key : ∀ i (h : i < tT.size), (lst tT).getD i 0 = tT[i] := fun i h => by
                  rw [List.getD_eq_getElem?_getD, List.getElem?_eq_getElem (by rw [lst_length]; exact h)]
                  rfl
                rw [← ha0, ← ha1, ← ha2, key _ l0, key _ l1, key _ l2]
                exact ⟨hpr.symm, hpg.symm, hpb.symm⟩
              have HR0 := Lib.hid hR0
              have HX := Lib.hid hx
              have HPR := Lib.hid hpr
              have HPG := Lib.hid hpg
              have HPB := Lib.hid hpb
              clear hR0 ha0 ha1 ha2 hpr hpg hpb hbig hpm hbi
              go_upto_region 23 with (fail)
              go_wp2_with fail
              go_region
              go_upto_region 24 with (fail)
              have hOY : Own (wk.alloc (.cells #[.int .u8 tT[a0].toNat, .int .u8 tT[a1].toNat, .int .u8 tT[a2].toNat, .int .u8 255] 52)).drew wk.heap.size 4 (.slice (some ⟨wk.heap.size, 0, none⟩) 1 1) 1 (pxCells [⟨pr, pg, pb, 255⟩]) := by
                have := (own_px1 wk ⟨pr, pg, pb, 255⟩).drew
                rw [HPR.out, HPG.out, HPB.out] at this ⊢
                exact this
              obtain ⟨y, hy⟩ : ∃ y : Px, y = ⟨pr, pg, pb, 255⟩ := ⟨_, rfl⟩
              rw [← hy] at hOY
              have HYY := Lib.hid hy
              have hF' := (hF.alloc (.cells #[.int .u8 tT[a0].toNat, .int .u8 tT[a1].toNat, .int .u8 tT[a2].toNat, .int .u8 255] 52)).drew
              have hown' := (hown.alloc (.cells #[.int .u8 tT[a0].toNat, .int .u8 tT[a1].toNat, .int .u8 tT[a2].toNat, .int .u8 255] 52)).drew
              have hB0' := (hB0.alloc (.cells #[.int .u8 tT[a0].toNat, .int .u8 tT[a1].toNat, .int .u8 tT[a2].toNat, .int .u8 255] 52)).drew
              have hkr' := (hkr.alloc (.cells #[.int .u8 tT[a0].toNat, .int .u8 tT[a1].toNat, .int .u8 tT[a2].toNat, .int .u8 255] 52)).drew
              have hrd' : RdA (wk.alloc (.cells #[.int .u8 tT[a0].toNat, .int .u8 tT[a1].toNat, .int .u8 tT[a2].toNat, .int .u8 255] 52)).drew g S (q2 + used) := by
                obtain ⟨t9, q1, q3⟩ := hrd
                exact ⟨t9, (q1.alloc _).drew, q3⟩
              obtain ⟨gP, hgP⟩ : ∃ gP, gP = wk.heap.size := ⟨_, rfl⟩
              have hgPF : gF < gP := by have := hF.lt; omega
              have hgPg : g < gP := by have := hkr.size; omega
              have hAP : ∀ b, (Value.slice A k c).ownBlock = some b → b < gP := fun b hb => by have := (hown.lt b hb).2; omega
              rw [← hgP] at hOY ⊢
              generalize (wk.alloc (.cells #[.int .u8 tT[a0].toNat, .int .u8 tT[a1].toNat, .int .u8 tT[a2].toNat, .int .u8 255] 52)).drew = wp at *
              clear hy hF hown hB0 hkr hrd hgP HPR HPG HPB
              obtain ⟨bz, hbz⟩ : ∃ bz : Bool, bz = decide (fl = 9 ∧ x = cl) := ⟨_, rfl⟩
              have HBZ := Lib.hid hbz
              clear hbz w0 w1i w2i
              go_cut [121] (fun s wx => s = .bool bz ∧ wp = wx)
              case first =>
                have hbz := HBZ.out
                by_cases h9 : fl = 9
                · have h9b : ((fl : Int) == 9) = true := by rw [beq_iff_eq]; omega
                  by_cases hxc : x = cl
                  · have hxb : ((x : Int) == cl) = true := by rw [beq_iff_eq]; omega
                    rw [decide_eq_true ⟨h9, hxc⟩] at hbz
                    subst hbz
                    clear h9 hxc
                    go_wp2_with fail
                    go_meet
                    case rel => first | exact ⟨rfl, rfl⟩ | exact ⟨by rw [hxb], rfl⟩
                  · have hxb : ((x : Int) == cl) = false := by rw [beq_eq_false_iff_ne]; omega
                    rw [decide_eq_false (fun h => hxc h.2)] at hbz
                    subst hbz
                    clear h9 hxc
                    go_wp2_with fail
                    go_meet
                    case rel => first | exact ⟨rfl, rfl⟩ | exact ⟨by rw [hxb], rfl⟩
                · have h9b : ((fl : Int) == 9) = false := by rw [beq_eq_false_iff_ne]; omega
                  rw [decide_eq_false (fun h => h9 h.1)] at hbz
                  subst hbz
                  clear h9
                  go_wp2_with fail
                  go_meet
                  case rel => first | exact ⟨rfl, rfl⟩ | exact ⟨by rw [h9b]; rfl, rfl⟩
              case rest =>
                obtain ⟨rfl, rfl⟩ := hcut
                obtain ⟨pf, hpf⟩ : ∃ pf : Px, pf = if fl = 9 ∧ x = cl then Px.zero else y := ⟨_, rfl⟩
                have HPF := Lib.hid hpf
                clear hpf
                go_upto_if 121 with (fail)
                go_cut [] (fun wx => Own wx gP 4 (.slice (some ⟨gP, 0, none⟩) 1 1) 1 (pxCells [pf]) ∧ Keeps (fun x => x = gP) wp wx)
                case first =>
                  cases bz with
                  | true =>
                    have hpf : pf = Px.zero := by rw [HPF.out, if_pos (of_decide_eq_true HBZ.out.symm)]
                    have hset := hOY.setPx 0 (by omega) Px.zero
                    have hth := hOY.there 0 (by omega)
                    have HSET := Lib.hid hset
                    have HPF2 := Lib.hid hpf
                    clear hset hpf
                    go_wp2_with (refine wpList_store_px rfl 52 (by kernel_rfl) (.tmp 20) (.tmp 122) rfl gP 0 Px.zero ?_ ?_ ?_ ?_)
                    · kernel_rfl
                    · kernel_rfl
                    · exact hth
                    go_wp2_with fail
                    go_meet
                    case rel => exact ⟨by rw [HPF2.out]; exact HSET.out, keeps_setCells wp gP 0 _⟩
                  | false =>
                    have hpf : pf = y := by rw [HPF.out, if_neg (of_decide_eq_false HBZ.out.symm)]
                    have HPF2 := Lib.hid hpf
                    clear hpf
                    go_wp2_with fail
                    go_meet
                    case rel => exact ⟨by rw [HPF2.out]; exact hOY, Keeps.refl _ _⟩
                case rest =>
                  obtain ⟨hOX, KX⟩ := hcut
                  obtain ⟨wX, hwX⟩ : ∃ wX, wX = wc := ⟨_, rfl⟩
                  rw [← hwX] at hOX KX ⊢
                  have hF := hF'.keeps KX (by omega)
                  have hown := hown'.keeps KX (fun b hb e => by have := hAP b hb; omega)
                  have hB0 := hB0'.keeps KX (by omega)
                  have hrd := hrd'.keeps KX (by omega)
                  have hkr := hkr'.trans KX (fun b hb e => absurd (show b = gP from e) (by omega))
                  obtain ⟨g0, g1, g2, g3⟩ := (hOX.reads.2).px 0 (by simp)
                  replace g0 : wX.cell? ⟨gP, 0, none⟩ = some (.int .u8 pf.r.toNat) := by simpa using g0
                  replace g1 : wX.cell? ⟨gP, 1, none⟩ = some (.int .u8 pf.g.toNat) := by simpa using g1
                  replace g2 : wX.cell? ⟨gP, 2, none⟩ = some (.int .u8 pf.b.toNat) := by simpa using g2
                  replace g3 : wX.cell? ⟨gP, 3, none⟩ = some (.int .u8 pf.a.toNat) := by simpa using g3
                  have f2 : wX.cell? ⟨gF, 2, none⟩ = some (.slice A k c) := by rw [hF.cell]; rfl
                  have hgFl2 := hF.lt
                  have hgw2 := hkr.size
                  clear hwX hF' hown' hB0' hrd' hkr' KX hOX hOY
                  have hneF : some gF ≠ (Value.slice A k c).ownBlock := fun e => by have := (hown.lt gF e.symm).1; omega
                  have hneW : some w.heap.size ≠ (Value.slice A k c).ownBlock := fun e => by have := (hown.lt _ e.symm).1; omega
                  have hneG : some g ≠ (Value.slice A k c).ownBlock := fun e => by have := (hown.lt _ e.symm).1; omega
                  have hnext : Gif.pixsOf fl cl (lst tT) ((lst sl).take (k + 1)) = some (ps ++ [pf]) := by
                    have e1 : (lst sl).take (k + 1) = (lst sl).take k ++ [sl[k]] := by
                      rw [List.take_succ_eq_append_getElem (by rw [lst_length]; exact hlt)]
                      rfl
                    rw [e1, Gif.pixsOf_snoc, HPX.out]
                    have e2 : Gif.pixOf fl cl (lst tT) sl[k] = some pf := by
                      unfold Gif.pixOf
                      rw [HX.out, lst_length, if_neg (by have := hA0.out; omega), HR0.out.1, HR0.out.2.1, HR0.out.2.2, HPF.out, HYY.out]
                    rw [e2]
                  have HNEXT := Lib.hid hnext
                  clear hnext
                  go_wp2_with (at_builtin; refine wpList_append_S rfl (.tmp 125) (.tmp 127) 33 33 rfl (gF + 1) 52 iP _ 4 4 Tryd.underlying33 hiP hzP0 hzP1 hzP2 rfl (by decide) (.slice A k c) k (pxCells ps) rfl (hown.alloc _) (pxCells_one _) 1 (pxCs pf) (Src.made Tryd.underlying33 (by first | rfl | simp) rfl (by intro v hv; exact pxCells_one [pf] v (by simpa [pxCells] using hv))) (k + 1) rfl (pxCells (ps ++ [pf])) (by rw [pxCells_append]; simp [pxCells]) (by unfold maxLen; omega) (by omega) (by first | omega | (simp; done) | (simp; omega)) ?_; intro A6 c6 w6 ho6 hg6 ha6; have hF6 := (hF.alloc _).grown hg6 hneF; have q2c : w6.cell? ⟨gF, 2, none⟩ = some (.slice A k c) := (by rw [hF6.cell]; rfl); have q2f := hF6.free 2)
                  go_roundw
                  case rel =>
                    have hne6 : ∀ b, b ≤ gF → (Value.slice A6 (k + 1) c6).ownBlock ≠ some b := fun b hb e => by have := (ho6.lt b e).1; omega
                    have hpk1 : (ps ++ [pf]).length = k + 1 := by rw [List.length_append, List.length_singleton, HPK.out]
                    refine ⟨k + 1, ps ++ [pf], by go_num, hlt, HNEXT.out, ⟨⟨A6, c6, ?_, ?_⟩, ?_, ?_, ?_⟩⟩
                    · rw [hpk1]
                      exact hF6.set_ 2 _
                    · rw [hpk1]
                      exact ho6.setCell (p := ⟨gF, 2, none⟩) (hne6 gF (Nat.le_refl _)) _
                    · exact ((hB0.alloc _).grown hg6 hneW).far (p := ⟨gF, 2, none⟩) (Nat.ne_of_lt hgF1) _
                    · obtain ⟨t9, q1, q3⟩ := hrd
                      exact ⟨t9, ((q1.alloc _).grown hg6 hneG).far (p := ⟨gF, 2, none⟩) (by show g ≠ gF; omega) _, q3⟩
                    · exact (((hkr.alloc _).grown hg6 (fun b hb hl => absurd (hown.lt b hb).1 (by omega)))).setCell (p := ⟨gF, 2, none⟩) (fun (h : gF < w.heap.size) => absurd h (by omega)) _
                  case measure => simp [intOf]; omega
          · have hks : k = sl.size := by omega
            have hlt3 : (sl.size : Int) ≤ k := by omega
            have hR8 : R = some (⟨W, H, ps, dl⟩, S.drop (q2 + used)) := by
              have h5 := HPX.out
              rw [hks, List.take_of_length_le (by rw [lst_length]; exact Nat.le_refl _), HSL.out] at h5
              rw [HR7.out, h5]
            have HR8 := Lib.hid hR8
            have d0 : wk.cell? ⟨gF, 0, none⟩ = some (.int .i64 W) := by rw [hF.cell]; rfl
            have d1 : wk.cell? ⟨gF, 1, none⟩ = some (.int .i64 H) := by rw [hF.cell]; rfl
            have d2 : wk.cell? ⟨gF, 2, none⟩ = some (.slice A k c) := by rw [hF.cell]; rfl
            have d3 : wk.cell? ⟨gF, 3, none⟩ = some (.int .i64 dl) := by rw [hF.cell]; rfl
            have e0 : wk.cell? ⟨w.heap.size, 0, none⟩ = some (.int .i64 0) := by rw [hB0.cell]; rfl
            have e1 : wk.cell? ⟨w.heap.size, 1, none⟩ = some (.int .i64 0) := by rw [hB0.cell]; rfl
            have e2 : wk.cell? ⟨w.heap.size, 2, none⟩ = some (.slice none 0 0) := by rw [hB0.cell]; rfl
            have e3 : wk.cell? ⟨w.heap.size, 3, none⟩ = some (.int .i64 0) := by rw [hB0.cell]; rfl
            have z0 := hB0.free 0
            have z1 := hB0.free 1
            have z2 := hB0.free 2
            have z3 := hB0.free 3
            have hgFne : gF ≠ w.heap.size := by omega
            have hgFne2 : w.heap.size ≠ gF := by omega
            clear hlt hks hR8
            have B9 := (((hB0.set_ 0 (.int .i64 W)).set_ 1 (.int .i64 H)).set_ 2 (.slice A k c)).set_ 3 (.int .i64 dl)
            have r0 := B9.cell
            (repeat (first | go_values | go_skip | go_guarded | go_step | go_upon | (simp only [Int.not_lt] at *; (try simp only [Int.not_le] at *); go_simp) | (simp only [Int.not_le] at *; go_simp) | (go_values <;> (try go_simp)) | (go_ite <;> go_prune <;> (try go_simp)))); (try simp only [Exit.then])
            refine bodyPost_ret (v := .agg #[.int .i64 W, .int .i64 H, .slice A k c, .int .i64 dl]) (by simp [results, Tryd.results47, go_sem, r0]) rfl ⟨?_, ?_⟩
            · exact (((hkr.setCell (p := ⟨w.heap.size, 0, none⟩) (fun (h : w.heap.size < w.heap.size) => absurd h (Nat.lt_irrefl _)) _).setCell (p := ⟨w.heap.size, 1, none⟩) (fun (h : w.heap.size < w.heap.size) => absurd h (Nat.lt_irrefl _)) _).setCell (p := ⟨w.heap.size, 2, none⟩) (fun (h : w.heap.size < w.heap.size) => absurd h (Nat.lt_irrefl _)) _).setCell (p := ⟨w.heap.size, 3, none⟩) (fun (h : w.heap.size < w.heap.size) => absurd h (Nat.lt_irrefl _)) _
            · rw [HR8.out]
              have hnW : (Value.slice A k c).ownBlock ≠ some w.heap.size := fun e => by have := (hown.lt _ e).1; omega
              obtain ⟨t9, q1, q3⟩ := hrd
              have hgW : g ≠ w.heap.size := by omega
              refine ⟨A, c, q2 + used, ?_, ?_, ⟨t9, (((q1.far (p := ⟨w.heap.size, 0, none⟩) hgW _).far (p := ⟨w.heap.size, 1, none⟩) hgW _).far (p := ⟨w.heap.size, 2, none⟩) hgW _).far (p := ⟨w.heap.size, 3, none⟩) hgW _, q3⟩, by omega, rfl⟩
              · show _ = Ending.returned (.agg #[.int .i64 W, .int .i64 H, .slice A ps.length c, .int .i64 dl])
                rw [HPK.out]
              · show Own _ w.heap.size 4 (.slice A ps.length c) ps.length (pxCells ps)
                rw [HPK.out]
                exact (((((hown.setCell (p := ⟨w.heap.size, 0, none⟩) hnW _).setCell (p := ⟨w.heap.size, 1, none⟩) hnW _).setCell (p := ⟨w.heap.size, 2, none⟩) hnW _).setCell (p := ⟨w.heap.size, 3, none⟩) hnW _)).mono (by omega)
      · have hRn : R = none := by rw [HR6.out, if_pos hlen]
        subst hRn
        have hlb : ((sl.size : Int) != (M : Int)) = true := by rw [bne_iff_ne]; omega
        clear hlen
        go_wp2_with fail
        exact ⟨rfl, k13, rfl⟩
end Go.Proofs.YtncedhhgclofbaaDoor
