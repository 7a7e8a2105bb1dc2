/- gif.reader: take, byte, two: the walks; what is thrown. strings.HasPrefix. strings.HasPrefix; the closure of (gif.reader).all, where something was thrown and where nothing was: the walks. -/
import Derived.Test.YtncedhhgclofbaaDoorReadLaw
import Derived.Test.YtncedhhgclofbaaDoorPacker
import Derived.Test.YtncedhhgclofbaaDoorText
import Derived.Laws.BitsAllLaws
import Derived.RegionCalls
import Derived.Deep.RegionWith
import Derived.Deep.RegionLaw
import Derived.Defers
import Derived.Recover
import Derived.Lib.Strings
namespace Go.Proofs.YtncedhhgclofbaaDoor
open Go Go.RowKit

theorem ofInt_i64 (a : Nat) (ha : a < 9223372036854775808) : (BitVec.ofInt 64 (a : Int)).toNat = a := by
  rw [BitVec.ofInt_natCast, BitVec.toNat_ofNat]
  exact Nat.mod_eq_of_lt (by omega)
theorem i64_or_join (x y : Nat) (hx : x < 256) (hy : y < 256) : bits .or .i64 (x : Int) ((y : Int) * 256) = ((x + 256 * y : Nat) : Int) := by
  have e : (y : Int) * 256 = ((256 * y : Nat) : Int) := by omega
  have hj : (256 * y) ||| x = 256 * y + x := nat_join 8 (256 * y) x (by omega) hx
  rw [e]
  show IntKind.i64.wrap ((BitVec.ofInt 64 (x : Int) ||| BitVec.ofInt 64 ((256 * y : Nat) : Int)).toNat : Int) = _
  rw [BitVec.toNat_or, ofInt_i64 x (by omega), ofInt_i64 (256 * y) (by omega), Nat.or_comm, hj, IntWalk.i64_in _ (by omega), Nat.add_comm]
theorem nat1_lt (S : List UInt8) (p : Nat) : Gif.nat1 S p < 256 := (S.getD p 0).toNat_lt
theorem i64_and7 (n : Nat) (h : n < 256) : bits .and .i64 (n : Int) 7 = ((n % 8 : Nat) : Int) := by
  show IntKind.i64.wrap ((BitVec.ofInt 64 (n : Int) &&& BitVec.ofInt 64 ((7 : Nat) : Int)).toNat : Int) = _
  rw [BitVec.toNat_and, ofInt_i64 n (by omega), ofInt_i64 7 (by omega), show (7 : Nat) = 2 ^ 3 - 1 from rfl, Nat.and_two_pow_sub_one_eq_mod, IntWalk.i64_in _ (by omega)]
/-- What is thrown. -/
def thrown : List PanicEntry := [{ v := .iface 91 (.agg #[]), recovered := false }]
/-- A reader of S that stands at p. -/
def RdA (w : World) (g : Nat) (S : List UInt8) (p : Nat) : Prop := ∃ t : ByteArray, Blk w g 72 #[.string t] ∧ lst t = S.drop p
theorem RdA.keeps {w w' : World} {g : Nat} {S : List UInt8} {p : Nat} {T : Nat → Prop} (h : RdA w g S p) (k : Keeps T w w') (hn : ¬ T g) : RdA w' g S p := by
  obtain ⟨t, h1, h2⟩ := h
  exact ⟨t, h1.keeps k hn, h2⟩
theorem RdA.below {w w' : World} {g : Nat} {S : List UInt8} {p B : Nat} (h : RdA w g S p) (hb : Below B w w') (hg : g < B) : RdA w' g S p := by
  obtain ⟨t, h1, h2⟩ := h
  exact ⟨t, h1.below hb hg, h2⟩
section
variable (g n p : Nat) (S : List UInt8) (w : World)
set_option maxHeartbeats 1000000 in
theorem take_yes (h : RdA w g S p) (hn : p + n ≤ S.length) (_hs : S.length ≤ 300000) :
    Calls Tryd.prog 44 #[.pointer (some ⟨g, 0, none⟩), .int .i64 n] w fun e w' => ∃ t : ByteArray, e = .returned (.string t) ∧ lst t = (S.drop p).take n ∧ RdA w' g S (p + n) ∧ Keeps (fun x => x = g) w w' := by
  obtain ⟨t, hb, ht⟩ := h
  have d0 : w.cell? ⟨g, 0, none⟩ = some (.string t) := by rw [hb.cell]; rfl
  have f0 := hb.free 0
  have htz : t.size = S.length - p := by rw [← lst_length, ht, List.length_drop]
  have hnz : (n : Int) ≤ t.size := by omega
  have hnz2 : n ≤ t.size := by omega
  have HT := Lib.hid ht
  clear ht htz
  go_enter Tryd.func44, Tryd.ntmps44
  go_wp2_with fail
  go_ret
  refine ⟨_, rfl, ?_, ⟨_, hb.set_ 0 _, ?_⟩, (Keeps.refl (fun x => x = g) w).setCell (p := ⟨g, 0, none⟩) (fun _ => rfl) _⟩
  · rw [lst_extract, HT.out]
    simp
  · rw [lst_extract, HT.out, List.drop_drop]
    rw [List.take_of_length_le]
    rw [List.length_drop, ← lst_length, HT.out, List.length_drop]
    omega
theorem take_no (h : RdA w g S p) (hp : p ≤ S.length) (hn : S.length < p + n) :
    Calls Tryd.prog 44 #[.pointer (some ⟨g, 0, none⟩), .int .i64 n] w fun e w' => e = .panicked thrown ∧ w = w' := by
  obtain ⟨t, hb, ht⟩ := h
  have d0 : w.cell? ⟨g, 0, none⟩ = some (.string t) := by rw [hb.cell]; rfl
  have htz : t.size = S.length - p := by rw [← lst_length, ht, List.length_drop]
  have hnz : (t.size : Int) < n := by omega
  clear ht htz hn hp
  go_enter Tryd.func44, Tryd.ntmps44
  go_wp2_with fail
  exact ⟨rfl, rfl, rfl⟩
theorem rbyte_yes (h : RdA w g S p) (hn : p + 1 ≤ S.length) (hs : S.length ≤ 300000) :
    Calls Tryd.prog 60 #[.pointer (some ⟨g, 0, none⟩)] w fun e w' => e = .returned (.int .i64 (Gif.nat1 S p : Nat)) ∧ RdA w' g S (p + 1) ∧ Keeps (fun x => x = g) w w' := by
  obtain ⟨y, hy⟩ : ∃ y : Nat, y = Gif.nat1 S p := ⟨_, rfl⟩
  rw [← hy]
  have HY := Lib.hid hy
  clear hy
  go_enter Tryd.func60, Tryd.ntmps60
  go_wp2_with fail
  refine (take_yes g 1 p S w h hn hs).mono ?_
  rintro e w1 ⟨t, rfl, ht, h1, k1⟩
  have htz : t.size = 1 := by rw [← lst_length, ht, List.length_take, List.length_drop]; omega
  have h0 : (0 : Nat) < t.size := by omega
  have hyl : wrap64 (y : Int) = y := IntWalk.wrap64_in _ (by have := nat1_lt S p; have := HY.out; omega)
  have hx : t[0].toNat = y := by
    have e1 : (lst t)[0]? = some t[0] := by rw [List.getElem?_eq_getElem (by rw [lst_length]; exact h0)]; rfl
    rw [ht, List.getElem?_take_of_lt (by omega), List.getElem?_drop, Nat.add_zero] at e1
    rw [HY.out]
    unfold Gif.nat1
    rw [List.getD_eq_getElem?_getD, e1]
    rfl
  clear ht htz
  go_wp2_with fail
  go_ret
  refine ⟨?_, h1, k1⟩
  show Ending.returned (.int .i64 (wrap64 (y : Int))) = _
  rw [hyl]
theorem rbyte_no (h : RdA w g S p) (hp : p ≤ S.length) (hn : S.length < p + 1) :
    Calls Tryd.prog 60 #[.pointer (some ⟨g, 0, none⟩)] w fun e w' => e = .panicked thrown ∧ w = w' := by
  go_enter Tryd.func60, Tryd.ntmps60
  go_wp2_with fail
  refine (take_no g 1 p S w h hp hn).mono ?_
  rintro e w1 ⟨rfl, rfl⟩
  go_wp2_with fail
  exact ⟨rfl, rfl, rfl⟩
theorem rtwo_yes (h : RdA w g S p) (hn : p + 2 ≤ S.length) (hs : S.length ≤ 300000) :
    Calls Tryd.prog 45 #[.pointer (some ⟨g, 0, none⟩)] w fun e w' => e = .returned (.int .i64 (Gif.nat2 S p : Nat)) ∧ RdA w' g S (p + 2) ∧ Keeps (fun x => x = g) w w' := by
  obtain ⟨x, hx⟩ : ∃ x, x = Gif.nat1 S p := ⟨_, rfl⟩
  obtain ⟨y, hy⟩ : ∃ y, y = Gif.nat1 S (p + 1) := ⟨_, rfl⟩
  have hx2 : x < 256 := by rw [hx]; exact nat1_lt _ _
  have hy2 : y < 256 := by rw [hy]; exact nat1_lt _ _
  have e : Gif.nat2 S p = x + 256 * y := by rw [hx, hy]; rfl
  rw [e]
  have HX := Lib.hid hx
  have HY := Lib.hid hy
  clear e hx hy
  go_enter Tryd.func45, Tryd.ntmps45
  go_wp2_with fail
  refine (rbyte_yes g p S w h (by omega) hs).mono ?_
  rintro e w1 ⟨rfl, h1, k1⟩
  go_wp2_with fail
  refine (rbyte_yes g (p + 1) S w1 h1 (by omega) hs).mono ?_
  rintro e w2 ⟨rfl, h2, k2⟩
  rw [← HX.out, ← HY.out]
  have hor := i64_or_join x y hx2 hy2
  go_wp2_with fail
  go_ret
  exact ⟨rfl, h2, k1.trans k2 (fun g _ h => h)⟩
theorem rtwo_no (h : RdA w g S p) (hp : p ≤ S.length) (hn : S.length < p + 2) (hs : S.length ≤ 300000) :
    Calls Tryd.prog 45 #[.pointer (some ⟨g, 0, none⟩)] w fun e w' => e = .panicked thrown ∧ Keeps (fun x => x = g) w w' := by
  go_enter Tryd.func45, Tryd.ntmps45
  go_wp2_with fail
  by_cases h1 : S.length < p + 1
  · refine (rbyte_no g p S w h hp h1).mono ?_
    rintro e w1 ⟨rfl, rfl⟩
    go_wp2_with fail
    exact ⟨rfl, rfl, Keeps.refl _ _⟩
  · refine (rbyte_yes g p S w h (by omega) hs).mono ?_
    rintro e w1 ⟨rfl, h1, k1⟩
    go_wp2_with fail
    refine (rbyte_no g (p + 1) S w1 h1 (by omega) hn).mono ?_
    rintro e w2 ⟨rfl, rfl⟩
    go_wp2_with fail
    exact ⟨rfl, rfl, k1⟩
end
end Go.Proofs.YtncedhhgclofbaaDoor
namespace Go.Proofs.YtncedhhgclofbaaDoor
open Go Go.RowKit

/-- What the closure leaves where something was thrown. -/
def Nothing (gl gn gk : Nat) (w w' : World) : Prop :=
  Blk w' gl 29 #[.slice none 0 0] ∧ Blk w' gn 3 #[.int .i64 0] ∧ Blk w' gk 4 #[.bool false] ∧ Keeps (fun x => x = gl ∨ x = gn ∨ x = gk) w w'
set_option maxRecDepth 100000 in
set_option maxHeartbeats 1000000 in
theorem caught_any (gl gn gk : Nat) (l n k : Value) (w : World) (hl : Blk w gl 29 #[l]) (hn : Blk w gn 3 #[n]) (hk : Blk w gk 4 #[k]) (h1 : gl ≠ gn) (h2 : gl ≠ gk) (h3 : gn ≠ gk) :
    CallsD Tryd.prog 43 #[.pointer (some ⟨gl, 0, none⟩), .pointer (some ⟨gn, 0, none⟩), .pointer (some ⟨gk, 0, none⟩)] (.panicking thrown) w
      fun e u' w' => e = .returned (.tuple #[]) ∧ u' = .panicking [{ v := .iface 91 (.agg #[]), recovered := true }] ∧ Nothing gl gn gk w w' := by
  have hl0 := hl.lt
  have hn0 := hn.lt
  have hk0 := hk.lt
  have cl : w.cell? ⟨gl, 0, none⟩ = some l := by rw [hl.cell]; rfl
  have cn : w.cell? ⟨gn, 0, none⟩ = some n := by rw [hn.cell]; rfl
  have ck : w.cell? ⟨gk, 0, none⟩ = some k := by rw [hk.cell]; rfl
  have fl := hl.free 0
  have fn := hn.free 0
  have fk := hk.free 0
  have h1' : gn ≠ gl := fun e => h1 e.symm
  have h2' : gk ≠ gl := fun e => h2 e.symm
  have h3' : gk ≠ gn := fun e => h3 e.symm
  have hta : ∀ w : World, (Instr.typeAssert (.iface 91 (.agg #[])) 20 91 true).run Tryd.prog w = .ok (.tuple #[.agg #[], .bool true]) w := fun w => by kernel_rfl
  refine callsD_of_wpS Tryd.func43 rfl fun c₀ cs hu => ?_
  apply wpS_seq
  apply wpS_region
  simp [wpOpsS, go_sem, recoverD, hu, thrown, Tryd.ntmps43, Exit.thenS]
  refine wpS_of_wp ?_
  change Code.wp _ _ _ { tmps := #[.pointer (some ⟨gl, 0, none⟩), .pointer (some ⟨gn, 0, none⟩), .pointer (some ⟨gk, 0, none⟩), .iface 91 (.agg #[]), undef, undef, .iface 91 (.agg #[]), undef, undef, undef, undef, undef, undef, undef, undef, undef, undef], defers := [] } w
  go_wp2
  refine ⟨rfl, _, rfl, .tuple #[], results_none rfl _ _ _, rfl, rfl, ?_, ?_, ?_, ?_⟩
  · exact ((((hl.set_ 0 (.slice none 0 0)).far (p := ⟨gn, 0, none⟩) h1 _).far (p := ⟨gk, 0, none⟩) h2 _)).alloc _
  · exact ((((hn.far (p := ⟨gl, 0, none⟩) h1' _).set_ 0 (.int .i64 0)).far (p := ⟨gk, 0, none⟩) h3 _)).alloc _
  · exact ((((hk.far (p := ⟨gl, 0, none⟩) h2' _).far (p := ⟨gn, 0, none⟩) h3' _).set_ 0 (.bool false))).alloc _
  · exact ((((Keeps.refl (fun x => x = gl ∨ x = gn ∨ x = gk) w).setCell (p := ⟨gl, 0, none⟩) (fun _ => .inl rfl) _).setCell (p := ⟨gn, 0, none⟩) (fun _ => .inr (.inl rfl)) _).setCell (p := ⟨gk, 0, none⟩) (fun _ => .inr (.inr rfl)) _).alloc _
set_option maxRecDepth 100000 in
theorem idle_any (a b c : Value) (w : World) :
    CallsD Tryd.prog 43 #[a, b, c] .returning w fun e u' w' => e = .returned (.tuple #[]) ∧ u' = .returning ∧ w' = w := by
  refine callsD_of_wpS Tryd.func43 rfl fun c₀ cs hu => ?_
  apply wpS_seq
  apply wpS_region
  simp [wpOpsS, go_sem, recoverD, hu, Tryd.ntmps43, Exit.thenS]
  refine wpS_of_wp ?_
  change Code.wp _ _ _ { tmps := #[a, b, c, .nilIface, undef, undef, .nilIface, undef, undef, undef, undef, undef, undef, undef, undef, undef, undef], defers := [] } w
  go_wp2
  cases c₀
  simp_all [bodyPostS, results, Tryd.results43]
theorem prefix_any (s p : ByteArray) (b : Bool) (hb : b = decide ((lst s).take p.size = lst p)) (w : World) (_hs : s.size ≤ 1099511627776) (_hp : p.size ≤ 100) :
    Calls Tryd.prog 46 #[.string s, .string p] w fun e w' => e = .returned (.bool b) ∧ w = w' := by
  have HB := Lib.hid hb
  clear hb
  by_cases h1 : s.size < p.size
  · have e : b = false := by
      rw [HB.out]
      refine decide_eq_false fun h => ?_
      have := congrArg List.length h
      rw [List.length_take, lst_length, lst_length] at this
      omega
    subst e
    have h1i : (s.size : Int) < p.size := by omega
    clear h1
    go_enter Tryd.func46, Tryd.ntmps46
    go_wp2
    go_ret
    exact ⟨rfl, rfl⟩
  · have h1i : (p.size : Int) ≤ s.size := by omega
    have hps : p.size ≤ s.size := by omega
    have he : ((s.extract 0 p.size).toList == p.toList) = b := by
      have e1 := lst_extract s 0 p.size
      rw [List.drop_zero, Nat.sub_zero] at e1
      rw [HB.out, Lib.toList_data, Lib.toList_data, ← e1, Bool.eq_iff_iff, beq_iff_eq, decide_eq_true_eq]
    clear h1
    go_enter Tryd.func46, Tryd.ntmps46
    go_wp2
    go_ret
    exact ⟨rfl, rfl⟩
end Go.Proofs.YtncedhhgclofbaaDoor
