/- (gif.reader).all: the walk; what is thrown in it is caught. -/
import Derived.Test.YtncedhhgclofbaaDoorRdFrame
import Derived.Test.YtncedhhgclofbaaDoorReader
import Derived.Deep.LoopGhost
import Derived.Deep.CutBlock
namespace Go.Proofs.YtncedhhgclofbaaDoor
open Go Go.RowKit

theorem frInfo : (Tryd.prog.info? 37).map (fun i => (i.zero, i.size, i.bytes)) = some (some (.agg #[.int .i64 0, .int .i64 0, .slice none 0 0, .int .i64 0]), 4, 48) := by kernel_rfl
/-- What all gives. -/
def AllR (w : World) (g : Nat) (R : Option (List Fr × Nat)) (e : Ending) (w' : World) : Prop :=
  Keeps (fun x => x = g) w w' ∧ match R with
  | none => e = .returned (.tuple #[.slice none 0 0, .int .i64 0, .bool false])
  | some r => ∃ A c ms, e = .returned (.tuple #[.slice A ms.length c, .int .i64 r.2, .bool true]) ∧ ms.map (·.f) = r.1 ∧ FrsO w' w.heap.size (.slice A ms.length c) ms
section
variable {w w1 : World} {g gl gn gb : Nat} {tmps : Array Value} {l n k : Value} (h2 : tmps[2]? = some (.pointer (some ⟨gl, 0, none⟩))) (h3 : tmps[3]? = some (.pointer (some ⟨gn, 0, none⟩))) (h4 : tmps[4]? = some (.pointer (some ⟨gb, 0, none⟩)))
  (bl : Blk w1 gl 29 #[l]) (bn : Blk w1 gn 3 #[n]) (bk : Blk w1 gb 4 #[k])
include h2 h3 h4 bl bn bk
theorem all_read : (results Tryd.f26 tmps).run Tryd.prog w1 = .ok (.tuple #[l, n, k]) w1 := by
  have c0 : w1.cell? ⟨gl, 0, none⟩ = some l := by rw [bl.cell]; rfl
  have c1 : w1.cell? ⟨gn, 0, none⟩ = some n := by rw [bn.cell]; rfl
  have c2 : w1.cell? ⟨gb, 0, none⟩ = some k := by rw [bk.cell]; rfl
  simp [results, Tryd.results26, go_sem, h2, h3, h4, c0, c1, c2]
/-- Behind the closure where nothing was thrown. -/
theorem all_back (R : Option (List Fr × Nat)) (hR : AllR w g R (.returned (.tuple #[l, n, k])) w1) :
    Leaves Tryd.prog Tryd.f26 tmps (fun e w' => AllR w g R e w') [{ target := .fn (.func 43) #[.pointer (some ⟨gl, 0, none⟩), .pointer (some ⟨gn, 0, none⟩), .pointer (some ⟨gb, 0, none⟩)], args := #[] }] .returning w1 := by
  refine leaves_cons (f := 43) (args := #[.pointer (some ⟨gl, 0, none⟩), .pointer (some ⟨gn, 0, none⟩), .pointer (some ⟨gb, 0, none⟩)]) (by simp) (by simp [go_sem]) ?_
  refine (idle_any _ _ _ w1).mono ?_
  rintro e u' w'' ⟨rfl, rfl, rfl⟩
  exact ⟨_, all_read h2 h3 h4 bl bn bk, hR⟩
/-- Behind the closure where something was thrown. -/
theorem all_thrown (n1 : gl ≠ gn) (n2 : gl ≠ gb) (n3 : gn ≠ gb) (K : Keeps (fun x => x = g) w w1) (hl : w.heap.size ≤ gl) (hn : w.heap.size ≤ gn) (hk : w.heap.size ≤ gb) :
    Leaves Tryd.prog Tryd.f26 tmps (fun e w' => AllR w g none e w') [{ target := .fn (.func 43) #[.pointer (some ⟨gl, 0, none⟩), .pointer (some ⟨gn, 0, none⟩), .pointer (some ⟨gb, 0, none⟩)], args := #[] }] (.panicking thrown) w1 := by
  refine leaves_cons (f := 43) (args := #[.pointer (some ⟨gl, 0, none⟩), .pointer (some ⟨gn, 0, none⟩), .pointer (some ⟨gb, 0, none⟩)]) (by simp) (by simp [go_sem]) ?_
  refine (caught_any gl gn gb l n k w1 bl bn bk n1 n2 n3).mono ?_
  rintro e u' w'' ⟨rfl, rfl, b1, b2, b3, K2⟩
  refine ⟨_, all_read h2 h3 h4 b1 b2 b3, K.trans K2 (fun b hb e => ?_), rfl⟩
  rcases e with e | e | e <;> omega
/-- Nothing is given, without a throw. -/
theorem all_nil (n1 : gl ≠ gn) (n2 : gl ≠ gb) (n3 : gn ≠ gb) (K : Keeps (fun x => x = g) w w1) (hl : w.heap.size ≤ gl) (hn : w.heap.size ≤ gn) (hk : w.heap.size ≤ gb) :
    Leaves Tryd.prog Tryd.f26 tmps (fun e w' => AllR w g none e w') [{ target := .fn (.func 43) #[.pointer (some ⟨gl, 0, none⟩), .pointer (some ⟨gn, 0, none⟩), .pointer (some ⟨gb, 0, none⟩)], args := #[] }] .returning
      (((w1.setCell ⟨gl, 0, none⟩ (.slice none 0 0)).setCell ⟨gn, 0, none⟩ (.int .i64 0)).setCell ⟨gb, 0, none⟩ (.bool false)) := by
  refine all_back (l := .slice none 0 0) (n := .int .i64 0) (k := .bool false) h2 h3 h4 ?_ ?_ ?_ none ⟨?_, rfl⟩
  · exact ((bl.set_ 0 (.slice none 0 0)).far (p := ⟨gn, 0, none⟩) n1 _).far (p := ⟨gb, 0, none⟩) n2 _
  · exact ((bn.far (p := ⟨gl, 0, none⟩) (fun e => n1 e.symm) _).set_ 0 (.int .i64 0)).far (p := ⟨gb, 0, none⟩) n3 _
  · exact ((bk.far (p := ⟨gl, 0, none⟩) (fun e => n2 e.symm) _).far (p := ⟨gn, 0, none⟩) (fun e => n3 e.symm) _).set_ 0 (.bool false)
  · exact ((K.setCell (p := ⟨gl, 0, none⟩) (fun (e : gl < w.heap.size) => absurd e (by omega)) _).setCell (p := ⟨gn, 0, none⟩) (fun (e : gn < w.heap.size) => absurd e (by omega)) _).setCell (p := ⟨gb, 0, none⟩) (fun (e : gb < w.heap.size) => absurd e (by omega)) _
end
/-- The post of a region that throws. -/
def PanQ (gl gn gb : Nat) (G : World → Prop) : Exit → Act → World → Prop
  | .panic ch, a, w => a.tmps[2]? = some (.pointer (some ⟨gl, 0, none⟩)) ∧ a.tmps[3]? = some (.pointer (some ⟨gn, 0, none⟩)) ∧ a.tmps[4]? = some (.pointer (some ⟨gb, 0, none⟩)) ∧
    a.defers = [{ target := .fn (.func 43) #[.pointer (some ⟨gl, 0, none⟩), .pointer (some ⟨gn, 0, none⟩), .pointer (some ⟨gb, 0, none⟩)], args := #[] }] ∧ ch = thrown ∧ G w
  | _, _, _ => False
theorem panQ_put {gl gn gb : Nat} {G : World → Prop} {ch : List PanicEntry} {a : Act} {d : Option Tmp} {v : Value} {w : World} (h2 : d ≠ some 2) (h3 : d ≠ some 3) (h4 : d ≠ some 4) (h : PanQ gl gn gb G (.panic ch) (a.put d v) w) : PanQ gl gn gb G (.panic ch) a w := by
  cases d with
  | none => exact h
  | some i =>
    obtain ⟨q2, q3, q4, q5, q6, q7⟩ := h
    have key : ∀ j, j ≠ i → (a.put (some i) v).tmps[j]? = a.tmps[j]? := fun j hj => by
      show (a.tmps.setIfInBounds i v)[j]? = _
      rw [Array.getElem?_setIfInBounds_ne (fun e => hj e.symm)]
    rw [key 2 (fun e => h2 (by rw [e]))] at q2
    rw [key 3 (fun e => h3 (by rw [e]))] at q3
    rw [key 4 (fun e => h4 (by rw [e]))] at q4
    exact ⟨q2, q3, q4, q5, q6, q7⟩
theorem FrsO.keeps {w w' : World} {base : Nat} {v : Value} {ms : List FM} {T : Nat → Prop} (h : FrsO w base v ms) (k : Keeps T w w') (hv : ∀ b, v.ownBlock = some b → ¬ T b) (hp : ∀ m ∈ ms, ∀ b off, m.A = some ⟨b, off, none⟩ → 0 < m.n → ¬ T b) : FrsO w' base v ms :=
  ⟨h.own.keeps k hv, fun m hm => (h.px m hm).keepAt k.size fun b off e hb hn => k.block b hb (hp m hm b off e (by omega)), h.off⟩
/-- What the loop of all keeps: f frames more may be read. -/
structure AlR (w : World) (g gl gn gb : Nat) (S : List UInt8) (W H : Nat) (RL : Option (List Fr)) (n : Nat) (f : Nat) (wr : World) : Prop where
  a : ∃ (p : Nat) (ms : List FM) (A : Option Addr) (c : Nat), RdA wr g S p ∧ p ≤ S.length ∧ Blk wr gl 29 #[.slice A ms.length c] ∧ FrsO wr (gb + 1) (.slice A ms.length c) ms ∧ (∀ m ∈ ms, ∀ b off, m.A = some ⟨b, off, none⟩ → 0 < m.n → gb < b) ∧
    Gif.rframes W H f (S.drop p) (ms.map (·.f)) = RL ∧ ms.length + f = 17 ∧ ms.length ≤ 16
  bn : Blk wr gn 3 #[.int .i64 n]
  bk : Blk wr gb 4 #[.bool false]
  keeps : Keeps (fun x => x = g) w wr
set_option maxHeartbeats 4000000 in
set_option maxRecDepth 100000 in
theorem all_any (g : Nat) (S : List UInt8) (E : Nat → Addr) (w : World) (hE : Er4 w E) (hN : ErN g) (h : RdA w g S 0) (hs : S.length ≤ 300000) (hgl : g < w.heap.size) :
    Calls Tryd.prog 26 #[.pointer (some ⟨g, 0, none⟩)] w fun e w' => AllR w g (Gif.rall S) e w' := by
  have hmf : ∀ (fn : Fn) (first cap : Array Value) (w : World), (Instr.makeFunc fn first cap).run Tryd.prog w = .ok (.func fn first cap) w := fun _ _ _ _ => rfl
  obtain ⟨R, hR⟩ : ∃ R, R = Gif.rall S := ⟨_, rfl⟩
  rw [← hR]
  unfold Gif.rall at hR
  have no13 : S.length < 13 → R = none := fun h => by rw [hR, if_pos h]
  have NO13 := Lib.hid no13
  have HR := Lib.hid hR
  clear no13 hR
  obtain ⟨w0, hw0⟩ : ∃ w0, w0 = ((w.alloc (.cells #[.slice none 0 0] 29)).alloc (.cells #[.int .i64 0] 3)).alloc (.cells #[.bool false] 4) := ⟨_, rfl⟩
  have bl : Blk w0 w.heap.size 29 #[.slice none 0 0] := by rw [hw0]; exact ((Blk.new w _ _ rfl).alloc _).alloc _
  have bn : Blk w0 (w.heap.size + 1) 3 #[.int .i64 0] := by rw [hw0]; exact (Blk.new (w.alloc (.cells #[.slice none 0 0] 29)) _ _ (by simp)).alloc _
  have bk : Blk w0 (w.heap.size + 1 + 1) 4 #[.bool false] := by rw [hw0]; exact Blk.new _ _ _ (by simp)
  have k0 : Keeps (fun x => x = g) w w0 := by rw [hw0]; exact (((Keeps.refl (fun x => x = g) w).alloc _).alloc _).alloc _
  have h0 : RdA w0 g S 0 := by
    obtain ⟨t, q1, q2⟩ := h
    rw [hw0]
    exact ⟨t, ((q1.alloc _).alloc _).alloc _, q2⟩
  have HW0 := Lib.hid hw0
  clear hw0
  go_enter_defers Tryd.func26, Tryd.ntmps26
  go_wp2_with fail
  obtain ⟨gl, hgl2⟩ : ∃ gl, gl = w.heap.size := ⟨_, rfl⟩
  obtain ⟨gn, hgn⟩ : ∃ gn, gn = gl + 1 := ⟨_, rfl⟩
  obtain ⟨gb, hgk⟩ : ∃ gb, gb = gn + 1 := ⟨_, rfl⟩
  rw [← HW0.out]
  rw [← hgl2, ← hgn, ← hgk]
  rw [← hgl2] at bl bn bk
  rw [← hgn] at bn bk
  rw [← hgk] at bk
  have y1 : gl ≠ gn := by omega
  have y2 : gl ≠ gb := by omega
  have y3 : gn ≠ gb := by omega
  have x1 : w.heap.size ≤ gl := by omega
  have x2 : w.heap.size ≤ gn := by omega
  have x3 : w.heap.size ≤ gb := by omega
  have gg1 : g ≠ gl := by omega
  have gg2 : g ≠ gn := by omega
  have gg3 : g ≠ gb := by omega
  have G1 : ¬ gl = g := fun e => gg1 e.symm
  have G2 : ¬ gn = g := fun e => gg2 e.symm
  have G3 : ¬ gb = g := fun e => gg3 e.symm
  have ob1 : gl < gb := by omega
  have ob2 : gn < gb := by omega
  clear hgl2 hgn hgk
  by_cases c1 : S.length < 0 + 6
  · refine (take_no g 6 0 S w0 h0 (Nat.zero_le _) c1).mono ?_
    rintro e w1 ⟨rfl, rfl⟩
    have hRn : R = none := NO13.out (by omega)
    subst hRn
    go_wp2_with fail
    exact all_thrown rfl rfl rfl bl bn bk y1 y2 y3 (k0) x1 x2 x3
  replace c1 : 0 + 6 ≤ S.length := Nat.le_of_not_lt c1
  refine (take_yes g 6 0 S w0 h0 c1 hs).mono ?_
  rintro e w1 ⟨t1, rfl, -, h1, k1⟩
  replace bl := bl.keeps k1 G1
  replace bn := bn.keeps k1 G2
  replace bk := bk.keeps k1 G3
  replace k1 := k0.trans k1 (fun _ _ h => h)
  clear h0 k0
  go_wp2_with fail
  by_cases c2 : S.length < 0 + 6 + 2
  · refine (rtwo_no g (0 + 6) S w1 h1 (by omega) c2 hs).mono ?_
    rintro e w2 ⟨rfl, k2⟩
    have hRn : R = none := NO13.out (by omega)
    subst hRn
    replace bl := bl.keeps k2 G1
    replace bn := bn.keeps k2 G2
    replace bk := bk.keeps k2 G3
    go_wp2_with fail
    exact all_thrown rfl rfl rfl bl bn bk y1 y2 y3 (k1.trans k2 (fun _ _ h => h)) x1 x2 x3
  replace c2 : 0 + 6 + 2 ≤ S.length := Nat.le_of_not_lt c2
  refine (rtwo_yes g (0 + 6) S w1 h1 c2 hs).mono ?_
  rintro e w2 ⟨rfl, h2, k2⟩
  replace bl := bl.keeps k2 G1
  replace bn := bn.keeps k2 G2
  replace bk := bk.keeps k2 G3
  replace k2 := k1.trans k2 (fun _ _ h => h)
  clear h1 k1
  go_wp2_with fail
  by_cases c3 : S.length < 0 + 6 + 2 + 2
  · refine (rtwo_no g (0 + 6 + 2) S w2 h2 (by omega) c3 hs).mono ?_
    rintro e w3 ⟨rfl, k3⟩
    have hRn : R = none := NO13.out (by omega)
    subst hRn
    replace bl := bl.keeps k3 G1
    replace bn := bn.keeps k3 G2
    replace bk := bk.keeps k3 G3
    go_wp2_with fail
    exact all_thrown rfl rfl rfl bl bn bk y1 y2 y3 (k2.trans k3 (fun _ _ h => h)) x1 x2 x3
  replace c3 : 0 + 6 + 2 + 2 ≤ S.length := Nat.le_of_not_lt c3
  refine (rtwo_yes g (0 + 6 + 2) S w2 h2 c3 hs).mono ?_
  rintro e w3 ⟨rfl, h3, k3⟩
  replace bl := bl.keeps k3 G1
  replace bn := bn.keeps k3 G2
  replace bk := bk.keeps k3 G3
  replace k3 := k2.trans k3 (fun _ _ h => h)
  clear h2 k2
  obtain ⟨W, hW⟩ : ∃ W, W = Gif.nat2 S (0 + 6) := ⟨_, rfl⟩
  obtain ⟨H, hH⟩ : ∃ H, H = Gif.nat2 S (0 + 6 + 2) := ⟨_, rfl⟩
  rw [← hW, ← hH]
  have HWW := Lib.hid hW
  have HHH := Lib.hid hH
  clear hW hH
  go_wp2_with fail
  by_cases c4 : S.length < 0 + 6 + 2 + 2 + 3
  · refine (take_no g 3 (0 + 6 + 2 + 2) S w3 h3 (by omega) c4).mono ?_
    rintro e w4 ⟨rfl, rfl⟩
    have hRn : R = none := NO13.out (by omega)
    subst hRn
    go_wp2_with fail
    exact all_thrown rfl rfl rfl bl bn bk y1 y2 y3 (k3) x1 x2 x3
  replace c4 : 0 + 6 + 2 + 2 + 3 ≤ S.length := Nat.le_of_not_lt c4
  refine (take_yes g 3 (0 + 6 + 2 + 2) S w3 h3 c4 hs).mono ?_
  rintro e w4 ⟨t4, rfl, -, h4, k4⟩
  replace bl := bl.keeps k4 G1
  replace bn := bn.keeps k4 G2
  replace bk := bk.keeps k4 G3
  replace k4 := k3.trans k4 (fun _ _ h => h)
  clear h3 k3
  have hR2 : R = if W < 1 ∨ 256 < W ∨ H < 1 ∨ 256 < H then none else
      if (S.drop 13).take 2 = [33, 255] then
        if S.length < 32 then none else
        match Gif.rframes W H 17 (S.drop 32) [] with
        | none => none
        | some l => some (l, Gif.nat2 S 29)
      else match Gif.rframes W H 17 (S.drop 13) [] with
        | none => none
        | some l => some (l, 0) := by
    rw [HR.out, if_neg (by omega), HWW.out, HHH.out]
    rfl
  have HR2 := Lib.hid hR2
  obtain ⟨b29, hb29⟩ : ∃ b29 : Bool, b29 = decide (W < 1 ∨ 256 < W ∨ H < 1 ∨ 256 < H) := ⟨_, rfl⟩
  have HB29 := Lib.hid hb29
  clear hR2 hb29 HR NO13 HWW HHH
  go_upto_region 5 with (fail)
  go_cut [29] from 16 to 29 (fun s wx => s = .bool b29 ∧ w4 = wx)
  case first =>
    have hb := HB29.out
    by_cases d1 : W < 1
    · rw [decide_eq_true (.inl d1)] at hb
      subst hb
      have d1i : (W : Int) < 1 := by omega
      clear d1
      go_wp2_with fail
      go_meet
      case rel => first | exact ⟨rfl, rfl⟩ | exact ⟨by simp, rfl⟩
    · have d1i : (1 : Int) ≤ W := by omega
      by_cases d2 : 256 < W
      · rw [decide_eq_true (.inr (.inl d2))] at hb
        subst hb
        have d2i : (256 : Int) < W := by omega
        clear d1 d2
        go_wp2_with fail
        go_meet
        case rel => first | exact ⟨rfl, rfl⟩ | exact ⟨by simp, rfl⟩
      · have d2i : (W : Int) ≤ 256 := by omega
        by_cases d3 : H < 1
        · rw [decide_eq_true (.inr (.inr (.inl d3)))] at hb
          subst hb
          have d3i : (H : Int) < 1 := by omega
          clear d1 d2 d3
          go_wp2_with fail
          go_meet
          case rel => first | exact ⟨rfl, rfl⟩ | exact ⟨by simp, rfl⟩
        · have d3i : (1 : Int) ≤ H := by omega
          by_cases d4 : 256 < H
          · rw [decide_eq_true (.inr (.inr (.inr d4)))] at hb
            subst hb
            have d4i : (256 : Int) < H := by omega
            clear d1 d2 d3 d4
            go_wp2_with fail
            go_meet
            case rel => first | exact ⟨rfl, rfl⟩ | exact ⟨by simp; omega, rfl⟩
          · rw [decide_eq_false (by omega)] at hb
            subst hb
            have d4i : (H : Int) ≤ 256 := by omega
            clear d1 d2 d3 d4
            go_wp2_with fail
            go_meet
            case rel => first | exact ⟨rfl, rfl⟩ | exact ⟨by simp; omega, rfl⟩
  case rest =>
    obtain ⟨rfl, rfl⟩ := hcut
    have e1 : w4.cell? ⟨gl, 0, none⟩ = some (.slice none 0 0) := by rw [bl.cell]; rfl
    have e2 : w4.cell? ⟨gn, 0, none⟩ = some (.int .i64 0) := by rw [bn.cell]; rfl
    have e3 : w4.cell? ⟨gb, 0, none⟩ = some (.bool false) := by rw [bk.cell]; rfl
    have f1 := bl.free 0
    have f2 := bn.free 0
    have f3 := bk.free 0
    cases b29 with
    | true =>
      have hRn : R = none := by rw [HR2.out, if_pos (of_decide_eq_true HB29.out.symm)]
      subst hRn
      go_wp2_with fail
      exact all_nil rfl rfl rfl bl bn bk y1 y2 y3 k4 x1 x2 x3
    | false =>
      have hR3 := HR2.out
      rw [if_neg (of_decide_eq_false HB29.out.symm)] at hR3
      have hWH := of_decide_eq_false HB29.out.symm
      have hW256 : W ≤ 256 := by omega
      have hH256 : H ≤ 256 := by omega
      have HR3 := Lib.hid hR3
      obtain ⟨t, q1, q2⟩ := h4
      have d0 : w4.cell? ⟨g, 0, none⟩ = some (.string t) := by rw [q1.cell]; rfl
      have hts : t.size ≤ 300000 := by rw [← lst_length, q2, List.length_drop]; omega
      obtain ⟨b34, hb34⟩ : ∃ b34 : Bool, b34 = decide ((lst t).take 2 = [33, 255]) := ⟨_, rfl⟩
      have HB34 := Lib.hid hb34
      have HQ2 := Lib.hid q2
      clear hR3 HR2 HB29 hWH hb34 q2
      go_wp2_with fail
      refine (prefix_any t ⟨#[33, 255]⟩ b34 (by rw [HB34.out]; rfl) w4 (by omega) (by decide)).mono ?_
      rintro e w5 ⟨rfl, rfl⟩
      go_upto_if 34 with (fail)
      go_cut [] from 35 to 40 (fun wx => ∃ (p n : Nat), RdA wx g S p ∧ p ≤ S.length ∧ (R = match Gif.rframes W H 17 (S.drop p) [] with
        | none => none
        | some l => some (l, n)) ∧ Blk wx gl 29 #[.slice none 0 0] ∧ Blk wx gn 3 #[.int .i64 n] ∧ Blk wx gb 4 #[.bool false] ∧ Keeps (fun x => x = g) w wx)
      case first =>
        have h4 : RdA w4 g S (0 + 6 + 2 + 2 + 3) := ⟨t, q1, HQ2.out⟩
        have hR4 := HR3.out
        cases b34 with
        | false =>
          have h9 := of_decide_eq_false HB34.out.symm
          rw [HQ2.out] at h9
          rw [if_neg h9] at hR4
          have HR4 := Lib.hid hR4
          clear hR4 h9
          go_wp2_with fail
          go_meet
          case rel => exact ⟨13, 0, h4, c4, HR4.out, bl, bn, bk, k4⟩
        | true =>
          have h9 := of_decide_eq_true HB34.out.symm
          rw [HQ2.out] at h9
          rw [if_pos h9] at hR4
          have HR4 := Lib.hid hR4
          clear hR4 h9 e1 e3 f1 f3
          go_wp2_with fail
          by_cases c6 : S.length < 0 + 6 + 2 + 2 + 3 + 16
          · refine (take_no g 16 (0 + 6 + 2 + 2 + 3) S w4 h4 c4 c6).mono ?_
            rintro e w6 ⟨rfl, rfl⟩
            have hRn : R = none := by rw [HR4.out, if_pos (by omega)]
            subst hRn
            go_wp2_with fail
            exact all_thrown rfl rfl rfl bl bn bk y1 y2 y3 (k4) x1 x2 x3
          replace c6 : 0 + 6 + 2 + 2 + 3 + 16 ≤ S.length := Nat.le_of_not_lt c6
          refine (take_yes g 16 (0 + 6 + 2 + 2 + 3) S w4 h4 c6 hs).mono ?_
          rintro e w6 ⟨t6, rfl, -, h6, k6⟩
          replace bl := bl.keeps k6 G1
          replace bn := bn.keeps k6 G2
          replace bk := bk.keeps k6 G3
          replace k6 := k4.trans k6 (fun _ _ h => h)
          clear h4 k4
          go_wp2_with fail
          by_cases c7 : S.length < 0 + 6 + 2 + 2 + 3 + 16 + 2
          · refine (rtwo_no g (0 + 6 + 2 + 2 + 3 + 16) S w6 h6 c6 c7 hs).mono ?_
            rintro e w7 ⟨rfl, k7⟩
            have hRn : R = none := by rw [HR4.out, if_pos (by omega)]
            subst hRn
            replace bl := bl.keeps k7 G1
            replace bn := bn.keeps k7 G2
            replace bk := bk.keeps k7 G3
            go_wp2_with fail
            exact all_thrown rfl rfl rfl bl bn bk y1 y2 y3 (k6.trans k7 (fun _ _ h => h)) x1 x2 x3
          replace c7 : 0 + 6 + 2 + 2 + 3 + 16 + 2 ≤ S.length := Nat.le_of_not_lt c7
          refine (rtwo_yes g (0 + 6 + 2 + 2 + 3 + 16) S w6 h6 c7 hs).mono ?_
          rintro e w7 ⟨rfl, h7, k7⟩
          replace bl := bl.keeps k7 G1
          replace bn := bn.keeps k7 G2
          replace bk := bk.keeps k7 G3
          replace k7 := k6.trans k7 (fun _ _ h => h)
          clear h6 k6
          obtain ⟨n, hn⟩ : ∃ n, n = Gif.nat2 S (0 + 6 + 2 + 2 + 3 + 16) := ⟨_, rfl⟩
          rw [← hn]
          have HNN := Lib.hid hn
          have e2 : w7.cell? ⟨gn, 0, none⟩ = some (.int .i64 0) := by rw [bn.cell]; rfl
          have f2 := bn.free 0
          clear hn
          replace bl := bl.far (p := ⟨gn, 0, none⟩) y1 (.int .i64 n)
          replace bn := bn.set_ 0 (.int .i64 n)
          replace bk := bk.far (p := ⟨gn, 0, none⟩) (fun (e : gb = gn) => y3 e.symm) (.int .i64 n)
          have k8 := k7.setCell (p := ⟨gn, 0, none⟩) (fun (e : gn < w.heap.size) => absurd e (by omega)) (.int .i64 n)
          have h8 : RdA (w7.setCell ⟨gn, 0, none⟩ (.int .i64 n)) g S (0 + 6 + 2 + 2 + 3 + 16 + 2) := by
            obtain ⟨t9, r1, r2⟩ := h7
            exact ⟨t9, r1.far (p := ⟨gn, 0, none⟩) gg2 _, r2⟩
          go_wp2_with fail
          generalize w7.setCell ⟨gn, 0, none⟩ (.int .i64 n) = w8 at *
          by_cases c9 : S.length < 0 + 6 + 2 + 2 + 3 + 16 + 2 + 1
          · refine (take_no g 1 (0 + 6 + 2 + 2 + 3 + 16 + 2) S w8 h8 c7 c9).mono ?_
            rintro e w9 ⟨rfl, rfl⟩
            have hRn : R = none := by rw [HR4.out, if_pos (by omega)]
            subst hRn
            go_wp2_with fail
            exact all_thrown rfl rfl rfl bl bn bk y1 y2 y3 (k8) x1 x2 x3
          replace c9 : 0 + 6 + 2 + 2 + 3 + 16 + 2 + 1 ≤ S.length := Nat.le_of_not_lt c9
          refine (take_yes g 1 (0 + 6 + 2 + 2 + 3 + 16 + 2) S w8 h8 c9 hs).mono ?_
          rintro e w9 ⟨t9, rfl, -, h9, k9⟩
          replace bl := bl.keeps k9 G1
          replace bn := bn.keeps k9 G2
          replace bk := bk.keeps k9 G3
          replace k9 := k8.trans k9 (fun _ _ h => h)
          clear h8 k8
          go_wp2_with fail
          go_meet
          case rel => exact ⟨32, n, h9, c9, by rw [HR4.out, if_neg (by omega), HNN.out], bl, bn, bk, k9⟩
      case rest =>
        clear bl bn bk k4 e1 e2 e3 f1 f2 f3 q1 d0 HQ2 HB34 HR3 hts
        obtain ⟨p, n, hrd, hp, hR5, bl, bn, bk, k5⟩ := hcut
        obtain ⟨w5, hw5⟩ : ∃ w5, w5 = wc := ⟨_, rfl⟩
        rw [← hw5] at hrd bl bn bk k5 ⊢
        obtain ⟨RL, hRL⟩ : ∃ RL, RL = Gif.rframes W H 17 (S.drop p) [] := ⟨_, rfl⟩
        rw [← hRL] at hR5
        have HR5 := Lib.hid hR5
        have hgg : w.heap.size ≤ gb := by omega
        have hL0 : AlR w g gl gn gb S W H RL n 17 w5 := ⟨⟨p, [], none, 0, hrd, hp, bl, FrsO.nil _ _, (fun m hm => by cases hm), hRL.symm, rfl, by decide⟩, bn, bk, k5⟩
        have HL0 := Lib.hid hL0
        clear hw5 hRL hR5 hL0 hrd hp bl bn bk k5
        obtain ⟨iF, hiF, hzF0, hzF1, hzF2⟩ := info_parts frInfo
        go_wp2_with fail
        go_loopg [] 17 (fun f wr => AlR w g gl gn gb S W H RL n f wr)
        case atStart => exact HL0.out
        case round =>
          clear HL0
          obtain ⟨⟨p, ms, A, c, hrd, hp, bl, hfr, hpx, heq, hsum, h16⟩, bn, bk, k5⟩ := hrel
          obtain ⟨f, rfl⟩ : ∃ f, gk = f + 1 := ⟨gk - 1, by omega⟩
          rw [Gif.rframes] at heq
          obtain ⟨t, q1, q2⟩ := hrd
          have d0 : wr.cell? ⟨g, 0, none⟩ = some (.string t) := by rw [q1.cell]; rfl
          have hts : t.size ≤ 300000 := by rw [← lst_length, q2, List.length_drop]; omega
          obtain ⟨b, hb⟩ : ∃ b : Bool, b = decide ((lst t).take 1 = [59]) := ⟨_, rfl⟩
          have HB := Lib.hid hb
          have HEQ := Lib.hid heq
          have HQ2 := Lib.hid q2
          have hrd : RdA wr g S p := ⟨t, q1, q2⟩
          have e1 : wr.cell? ⟨gl, 0, none⟩ = some (.slice A ms.length c) := by rw [bl.cell]; rfl
          have e2 : wr.cell? ⟨gn, 0, none⟩ = some (.int .i64 n) := by rw [bn.cell]; rfl
          have e3 : wr.cell? ⟨gb, 0, none⟩ = some (.bool false) := by rw [bk.cell]; rfl
          have f1 := bl.free 0
          have f2 := bn.free 0
          have f3 := bk.free 0
          have hzr := k5.size
          have hE5 := hE.keeps k5 (fun x hx => by rw [hx]; exact hN)
          have hE6 : Er4 wr.drew E := hE5.below (Below.here wr)
          have hrd2 : RdA wr.drew g S p := hrd
          clear hb heq q1 q2
          go_wp2_with fail
          refine (prefix_any t ⟨#[59]⟩ b (by rw [HB.out]; rfl) wr (by omega) (by decide)).mono ?_
          rintro e w6 ⟨rfl, rfl⟩
          cases b with
          | true =>
            have h9 := of_decide_eq_true HB.out.symm
            rw [HQ2.out] at h9
            have heq := HEQ.out
            rw [if_pos h9] at heq
            have hR6 : R = some (ms.map (·.f), n) := by rw [HR5.out, ← heq]
            have HR6 := Lib.hid hR6
            clear h9 heq hR6 hrd
            go_wp2_with fail
            go_region
            go_wp2_with fail
            refine all_back (l := .slice A ms.length c) (n := .int .i64 n) (k := .bool true) rfl rfl rfl ?_ ?_ ?_ R ⟨?_, ?_⟩
            · exact Blk.drew (((bl.set_ 0 (.slice A ms.length c)).far (p := ⟨gn, 0, none⟩) y1 _).far (p := ⟨gb, 0, none⟩) y2 _)
            · exact Blk.drew (((bn.far (p := ⟨gl, 0, none⟩) (fun e => y1 e.symm) _).set_ 0 (.int .i64 n)).far (p := ⟨gb, 0, none⟩) y3 _)
            · exact Blk.drew (((bk.far (p := ⟨gl, 0, none⟩) (fun e => y2 e.symm) _).far (p := ⟨gn, 0, none⟩) (fun e => y3 e.symm) _).set_ 0 (.bool true))
            · exact (((k5.setCell (p := ⟨gl, 0, none⟩) (fun (e : gl < w.heap.size) => absurd e (by omega)) _).setCell (p := ⟨gn, 0, none⟩) (fun (e : gn < w.heap.size) => absurd e (by omega)) _).setCell (p := ⟨gb, 0, none⟩) (fun (e : gb < w.heap.size) => absurd e (by omega)) _).drew
            · rw [HR6.out]
              refine ⟨A, c, ms, rfl, rfl, ?_⟩
              have hk : Keeps (fun x => x = gl ∨ x = gn ∨ x = gb) wr (((wr.setCell ⟨gl, 0, none⟩ (.slice A ms.length c)).setCell ⟨gn, 0, none⟩ (.int .i64 n)).setCell ⟨gb, 0, none⟩ (.bool true)).drew := ((((Keeps.refl (fun x => x = gl ∨ x = gn ∨ x = gb) wr).setCell (p := ⟨gl, 0, none⟩) (fun _ => .inl rfl) _).setCell (p := ⟨gn, 0, none⟩) (fun _ => .inr (.inl rfl)) _).setCell (p := ⟨gb, 0, none⟩) (fun _ => .inr (.inr rfl)) _).drew
              have h8 := FrsO.keeps hfr hk (fun b hb e => by have := (hfr.own.lt b hb).1; rcases e with e | e | e <;> omega) (fun m hm b off h1 h2 e => by have := hpx m hm b off h1 h2; rcases e with e | e | e <;> omega)
              exact ⟨h8.own.mono (by omega), h8.px, h8.off⟩
          | false =>
            have h9 := of_decide_eq_false HB.out.symm
            rw [HQ2.out] at h9
            have heq := HEQ.out
            rw [if_neg h9] at heq
            have HEQ2 := Lib.hid heq
            clear h9 heq HEQ d0 hts
            cases hf : Gif.rframe W H (S.drop p) with
            | none =>
              have hR6 : R = none := by
                have := HEQ2.out
                rw [hf] at this
                rw [HR5.out, ← this]
              subst hR6
              have HF := Lib.hid hf
              clear hf
              go_upto_region 12 with (fail)
              refine wp_mono (Q := PanQ gl gn gb (Keeps (fun x => x = g) wr)) ?_ (fun e a w7 hq => ?_)
              rotate_left
              · cases e with
                | panic ch =>
                  obtain ⟨q2, q3, q4, q5, rfl, K7⟩ := hq
                  have hth := all_thrown (w := w) (g := g) q2 q3 q4 (bl.keeps K7 G1) (bn.keeps K7 G2) (bk.keeps K7 G3) y1 y2 y3 (k5.trans K7 (fun _ _ h => h)) x1 x2 x3
                  rw [← q5] at hth
                  exact hth
                | normal => exact hq.elim
                | exit i => exact hq.elim
                | goto i => exact hq.elim
                | ret => exact hq.elim
                | outgrown => exact hq.elim
              refine wp_region_held_drew (S := (fun x => x = wr.drew)) (by kernel_rfl) ?_ (fun hHeld => ?_)
              · rfl
              refine wpAnyH_take (i := 0) (v := ?_) rfl (by kernel_rfl) (by kernel_rfl) (by kernel_rfl) (fun _ _ _ h => panQ_put (by decide) (by decide) (by decide) h) (Or.inl ⟨by rfl, ?_⟩) (by assumption) ?_
              rotate_left
              · intro w hSw; subst hSw; go_simp <;> with_reducible rfl
              (try simp only [Act.put, List.getElem_toArray, List.getElem_cons_zero, List.setIfInBounds_toArray, List.set_cons_zero, List.set_cons_succ])
              refine wpAnyH_take (i := 1) (v := ?_) rfl (by kernel_rfl) (by kernel_rfl) (by kernel_rfl) (fun _ _ _ h => panQ_put (by decide) (by decide) (by decide) h) (Or.inl ⟨by rfl, ?_⟩) (by assumption) ?_
              rotate_left
              · intro w hSw; subst hSw; go_simp <;> with_reducible rfl
              (try simp only [Act.put, List.getElem_toArray, List.getElem_cons_zero, List.getElem_cons_succ, List.setIfInBounds_toArray, List.set_cons_zero, List.set_cons_succ])
              refine wpAnyH_take (i := 2) (v := ?_) rfl (by kernel_rfl) (by kernel_rfl) (by kernel_rfl) (fun _ _ _ h => panQ_put (by decide) (by decide) (by decide) h) (Or.inl ⟨by rfl, ?_⟩) (by assumption) ?_
              rotate_left
              · intro w hSw; subst hSw; go_simp <;> with_reducible rfl
              (try simp only [Act.put, List.getElem_toArray, List.getElem_cons_zero, List.getElem_cons_succ, List.setIfInBounds_toArray, List.set_cons_zero, List.set_cons_succ])
              refine wpAnyH_take (i := 3) (v := ?_) rfl (by kernel_rfl) (by kernel_rfl) (by kernel_rfl) (fun _ _ _ h => panQ_put (by decide) (by decide) (by decide) h) (Or.inl ⟨by rfl, ?_⟩) (by assumption) ?_
              rotate_left
              · intro w hSw; subst hSw; go_simp <;> with_reducible rfl
              (try simp only [Act.put, List.getElem_toArray, List.getElem_cons_zero, List.getElem_cons_succ, List.setIfInBounds_toArray, List.set_cons_zero, List.set_cons_succ])
              refine wpAnyH_ready (rs := [4]) (by kernel_rfl) (by simp) ?_
              refine AllReadyH.cons rfl (fun K hK => ?_) AllReadyH.nil
              go_simp
              go_at_call 47
              refine (frame_any g p W H S E wr.drew hE6 hN hrd2 hp hs hW256 hH256 (by show g < wr.heap.size; omega)).mono ?_
              rintro e w7 ⟨K7, he7⟩
              rw [HF.out] at he7
              replace he7 : e = .panicked thrown := he7
              subst he7
              exact ⟨rfl, rfl, rfl, rfl, rfl, K7.fromDrew⟩
            | some r =>
              obtain ⟨x, rest⟩ := r
              have heq := HEQ2.out
              rw [hf] at heq
              replace heq : (if 16 < (ms.map (·.f)).length + 1 then none else Gif.rframes W H f rest (ms.map (·.f) ++ [x])) = RL := heq
              rw [List.length_map] at heq
              have HEQ3 := Lib.hid heq
              have HF := Lib.hid hf
              have hcl := Gif.rframe_clean hf
              have hpsl : x.ps.length ≤ 65536 := by rw [hcl.2.2.2.1]; exact Nat.mul_le_mul hW256 hH256
              have hglr : g < wr.heap.size := by omega
              have hgbr : gb < wr.heap.size := bk.lt
              obtain ⟨m, hm⟩ : ∃ m : FM → Prop, m = fun y => y.f = x ∧ y.n = x.ps.length := ⟨_, rfl⟩
              have hneL : some gl ≠ (Value.slice A ms.length c).ownBlock := fun e => by have := (hfr.own.lt _ e.symm).1; omega
              have hneN : some gn ≠ (Value.slice A ms.length c).ownBlock := fun e => by have := (hfr.own.lt _ e.symm).1; omega
              have hneB : some gb ≠ (Value.slice A ms.length c).ownBlock := fun e => by have := (hfr.own.lt _ e.symm).1; omega
              have hneG : some g ≠ (Value.slice A ms.length c).ownBlock := fun e => by have := (hfr.own.lt _ e.symm).1; omega
              have hgg4 : g < gb := by omega
              clear hf heq HEQ2 hcl hm m
              go_upto_region 12 with (fail)
              refine wp_region_noPanic ?_
              go_region_law
                (first
                  | (go_simp; go_at_call 47; refine (frame_any g p W H S E wr.drew hE6 hN hrd2 hp hs hW256 hH256 hglr).mono ?_; rintro e w7 ⟨K7, he7⟩; rw [HF.out] at he7; obtain ⟨Ax, cx, q, rfl, hox, hrx, hqx, hdx⟩ := he7; have K7 := K7.fromDrew; have bl7 := bl.keeps K7 G1; have hz7 := K7.size; have hgl7 := bl7.lt; have e7 : w7.cell? ⟨gl, 0, none⟩ = some (.slice A ms.length c) := (by rw [bl7.cell]; rfl); have hfr7 := FrsO.keeps hfr K7 (fun b hb e => hneG (by rw [hb, e])) (fun m hm b off h1 h2 e => by have := hpx m hm b off h1 h2; omega); have hBS := Blk.new w7 37 #[.int .i64 x.wide, .int .i64 x.high, .slice Ax x.ps.length cx, .int .i64 x.delay] rfl)
                  | (refine step_append_Own _ rfl (.tmp 47) (.tmp 52) 29 29 rfl (gb + 1) 37 iF _ 4 48 Tryd.underlying29 hiF hzF0 hzF1 hzF2 rfl (by decide) (.slice A ms.length c) ms.length (frCells ms) rfl (hfr7.own.alloc _) (frCells_one _) 1 (frCs ⟨x, Ax, x.ps.length, cx⟩) (Src.blk Tryd.underlying29 hBS rfl (by intro u hu; exact frCells_one [⟨x, Ax, x.ps.length, cx⟩] u (by rw [frCells_single]; exact hu))) (by unfold maxLen; omega) (by omega) (by simp; omega) ?_; intro v8 w8 ho8 hg8 ha8; obtain ⟨A8, c8, rfl, hc8, _⟩ := ho8.form; have bl8 := Blk.grown (Blk.alloc bl7 _) hg8 hneL; have e8 : w8.cell? ⟨gl, 0, none⟩ = some (.slice A ms.length c) := (by rw [bl8.cell]; rfl); have f8 := bl8.free 0))
              all_goals
                unfold NoPanic
                have k8 := ((k5.trans K7 (fun _ _ h => h)).alloc (.cells #[.int .i64 x.wide, .int .i64 x.high, .slice Ax x.ps.length cx, .int .i64 x.delay] 37)).grown hg8 (fun b hb hl => absurd (hfr.own.lt b hb).1 (by omega))
                have bn8 := Blk.grown (Blk.alloc (bn.keeps K7 G2) (.cells #[.int .i64 x.wide, .int .i64 x.high, .slice Ax x.ps.length cx, .int .i64 x.delay] 37)) hg8 hneN
                have bk8 := Blk.grown (Blk.alloc (bk.keeps K7 G3) (.cells #[.int .i64 x.wide, .int .i64 x.high, .slice Ax x.ps.length cx, .int .i64 x.delay] 37)) hg8 hneB
                have e9 : (w8.setCell ⟨gl, 0, none⟩ (.slice A8 (ms.length + 1) c8)).cell? ⟨gl, 0, none⟩ = some (.slice A8 (ms.length + 1) c8) := by rw [(bl8.set_ 0 _).cell]; rfl
                have e10 : (w8.setCell ⟨gl, 0, none⟩ (.slice A8 (ms.length + 1) c8)).cell? ⟨gn, 0, none⟩ = some (.int .i64 n) := by rw [(bn8.far (p := ⟨gl, 0, none⟩) (fun e => y1 e.symm) _).cell]; rfl
                have e11 : (w8.setCell ⟨gl, 0, none⟩ (.slice A8 (ms.length + 1) c8)).cell? ⟨gb, 0, none⟩ = some (.bool false) := by rw [(bk8.far (p := ⟨gl, 0, none⟩) (fun e => y2 e.symm) _).cell]; rfl
                have bl9 := bl8.set_ 0 (.slice A8 (ms.length + 1) c8)
                have bn9 := bn8.far (p := ⟨gl, 0, none⟩) (fun e => y1 e.symm) (.slice A8 (ms.length + 1) c8)
                have bk9 := bk8.far (p := ⟨gl, 0, none⟩) (fun e => y2 e.symm) (.slice A8 (ms.length + 1) c8)
                have k9 := k8.setCell (p := ⟨gl, 0, none⟩) (fun (e : gl < w.heap.size) => absurd e (by omega)) (.slice A8 (ms.length + 1) c8)
                have f9 := bl9.free 0
                have f10 := bn9.free 0
                have f11 := bk9.free 0
                by_cases h17 : 16 < ms.length + 1
                · have hR6 : R = none := by
                    have := HEQ3.out
                    rw [if_pos h17] at this
                    rw [HR5.out, ← this]
                  subst hR6
                  have h17i : (16 : Int) < (ms.length : Int) + 1 := by omega
                  clear h17
                  go_wp2_with fail
                  exact all_nil rfl rfl rfl bl9 bn9 bk9 y1 y2 y3 k9 x1 x2 x3
                · have heq := HEQ3.out
                  rw [if_neg h17] at heq
                  have HEQ4 := Lib.hid heq
                  have h17i : (ms.length : Int) + 1 ≤ 16 := by omega
                  have h17n : ms.length + 1 ≤ 16 := by omega
                  clear h17 heq
                  go_wp2_with fail
                  go_roundg f
                  case measure => exact Nat.lt_succ_self f
                  case rel =>
                    have hln : (ms ++ [(⟨x, Ax, x.ps.length, cx⟩ : FM)]).length = ms.length + 1 := by simp
                    have hxb : ∀ b, (Value.slice Ax x.ps.length cx).ownBlock = some b → wr.heap.size ≤ b := fun b hb => (hox.lt b hb).1
                    have hbx : ∀ b off, Ax = some ⟨b, off, none⟩ → (Value.slice Ax x.ps.length cx).ownBlock = some b := fun b off e => by rw [e]; rfl
                    have hfr8 := FrsO.snoc (hfr7.alloc (.cells #[.int .i64 x.wide, .int .i64 x.high, .slice Ax x.ps.length cx, .int .i64 x.delay] 37)) (m := ⟨x, Ax, x.ps.length, cx⟩) ho8 hg8 ha8 ((hox.alloc _).reads.2) (fun b off e _ e2 => by
                      have h1 := hxb b (hbx b off e)
                      have h2 := (hfr.own.lt b e2).2
                      omega)
                    have hpxn : ∀ m ∈ ms ++ [(⟨x, Ax, x.ps.length, cx⟩ : FM)], ∀ b off, m.A = some ⟨b, off, none⟩ → 0 < m.n → gb < b := fun m hm b off e h0 => by
                      rcases List.mem_append.1 hm with h1 | h1
                      · exact hpx m h1 b off e h0
                      · rw [List.mem_singleton.1 h1] at e
                        have := hxb b (hbx b off e)
                        omega
                    have hkl : Keeps (fun x => x = gl) w8 (w8.setCell ⟨gl, 0, none⟩ (.slice A8 (ms.length + 1) c8)) := (Keeps.refl (fun x => x = gl) w8).setCell (p := ⟨gl, 0, none⟩) (fun _ => rfl) _
                    have hfr9 := FrsO.keeps hfr8 hkl (fun b hb e => by have := (ho8.lt b hb).1; omega) (fun m hm b off e h0 e2 => by have := hpxn m hm b off e h0; omega)
                    obtain ⟨t9, r1, r2⟩ := hrx
                    refine ⟨⟨q, ms ++ [⟨x, Ax, x.ps.length, cx⟩], A8, c8, ⟨t9, ((r1.alloc _).grown hg8 hneG).far (p := ⟨gl, 0, none⟩) gg1 _, r2⟩, hqx, by rw [hln]; exact bl9, by rw [hln]; exact hfr9, hpxn, ?_, by rw [hln]; omega, by rw [hln]; exact h17n⟩, bn9, bk9, k9⟩
                    rw [hdx, List.map_append]
                    exact HEQ4.out
end Go.Proofs.YtncedhhgclofbaaDoor
