/- The reference's Unlike: the walk. -/
import Derived.Test.YtncedhhgclofbaaDoorTileLaw
import Derived.Test.YtncedhhgclofbaaDoorPxKey
import Derived.Test.YtncedhhgclofbaaDoorBase
import Derived.BigQuiet
import Derived.Deep.QuietTactic
namespace Go.Proofs.YtncedhhgclofbaaDoor
open Go Go.RowKit

/-- The relation of Unlike's loop. -/
structure UR (w : World) (W H : Int) (A : Option Addr) (c : Nat) (ps : List Px) (vl vn i : Value) (wr : World) (k : Nat) : Prop where
  hk : k ≤ ps.length
  hi : i = .int .i64 k
  ol : Own wr (w.heap.size + 1) 4 vl (Col.unl (ps.take k)).1.length (pxCells (Col.unl (ps.take k)).1)
  on : Own wr (w.heap.size + 1) 1 vn k (ints (Col.unl (ps.take k)).2)
  ne : ∀ g, vl.ownBlock = some g → vn.ownBlock ≠ some g
  box : Blk wr w.heap.size 35 #[.int .i64 W, .int .i64 H, .slice A ps.length c]
  bel : Below w.heap.size w wr
theorem unl_len (ps : List Px) : ∀ k, k ≤ ps.length → (Col.unl (ps.take k)).1.length ≤ k ∧ (Col.unl (ps.take k)).2.length = k
  | 0, _ => by simp [Col.unl]
  | k + 1, h => by
    obtain ⟨h1, h2⟩ := unl_len ps k (by omega)
    rw [Col.unl_take ps k (by omega)]
    unfold Col.unlStep
    refine ⟨?_, by simp [h2]⟩
    simp only
    split
    · simp; omega
    · omega

theorem Own.kept2 {w w' : World} {base size n : Nat} {v u : Value} {xs : List Value} (h : Own w base size v n xs) (hg : w.grownBy w' u.ownBlock) (hne : ∀ g, u.ownBlock = some g → v.ownBlock ≠ some g) : Own w' base size v n xs := by
  cases hv : v.ownBlock with
  | none => exact h.kept hg (.inl hv)
  | some g => exact h.kept hg (.inr (fun e => hne g (e.symm.trans hv) hv))
set_option maxRecDepth 100000 in
set_option maxHeartbeats 1000000 in
theorem unlike_any (W H : Int) (A : Option Addr) (n c : Nat) (ps : List Px) (w : World) (hp : Reads w w.heap.size 4 A n (pxCells ps)) (hn : n ≤ 1048576) :
    Calls Tryd.prog 33 #[.agg #[.int .i64 W, .int .i64 H, .slice A n c]] w
      fun e w' => ∃ A1 c1 A2 c2, e = .returned (.tuple #[.slice A1 (Col.unl ps).1.length c1, .slice A2 n c2]) ∧ Own w' w.heap.size 4 (.slice A1 (Col.unl ps).1.length c1) (Col.unl ps).1.length (pxCells (Col.unl ps).1) ∧
        Own w' w.heap.size 1 (.slice A2 n c2) n (ints (Col.unl ps).2) ∧ Below w.heap.size w w' := by
  obtain rfl := hp.pxLen
  obtain ⟨i0, hi, hz0, hz1, hz2⟩ := info_parts pxInfo
  go_enter Tryd.func33, Tryd.ntmps33
  go_wp2_with fail
  go_loopw [4, 5, 6] (fun vl vn i wr => ∃ k, UR w W H A c ps vl vn i wr k) (fun _ _ i _ => ps.length - (intOf i).toNat)
  case atStart => exact ⟨0, Nat.zero_le _, rfl, Own.nil _ _ _, Own.nil _ _ _, fun g hg => by simp [Value.ownBlock] at hg, Blk.new _ _ _ rfl, by go_grown⟩
  case round =>
    obtain ⟨k, hk, rfl, hol, hon, hne, hbox, hb⟩ := hrel
    obtain ⟨wo, rfl⟩ : ∃ wo : World, wo = wr := ⟨_, rfl⟩
    have x0 := hbox.cell
    have hbxl := hbox.lt
    by_cases hlt : k < ps.length
    · obtain ⟨b, off, rfl, hbl⟩ := hp.addr (by omega)
      obtain ⟨p0, p1, p2, p3⟩ := (hp.below hb (Nat.le_refl _)).px k hlt
      obtain ⟨ul1, ul2⟩ := unl_len ps k hk
      have HU := Lib.hid (Col.unl_take ps k hlt)
      obtain ⟨l, hl⟩ : ∃ l, l = (Col.unl (ps.take k)).1 := ⟨_, rfl⟩
      rw [← hl] at hol ul1
      have HL := Lib.hid hl
      clear hl
      obtain ⟨Al, cl, rfl, hcl, hrl⟩ := hol.form
      obtain ⟨An, cn, rfl, hcn, hrn⟩ := hon.form
      have hbl2 : ∀ g, (Value.slice Al l.length cl).ownBlock = some g → w.heap.size + 1 ≤ g ∧ g < wo.heap.size := fun g hg => hol.lt g hg
      have hbn2 : ∀ g, (Value.slice An k cn).ownBlock = some g → w.heap.size + 1 ≤ g ∧ g < wo.heap.size := fun g hg => hon.lt g hg
      have HN := Lib.hid hne
      clear hne
      obtain ⟨s, hs⟩ : ∃ s, s = (Col.unl (ps.take k)).2 := ⟨_, rfl⟩
      rw [← hs] at hon ul2
      have HS := Lib.hid hs
      clear hs
      have pl := Col.placeOf_le ps[k] l
      go_wp2_with fail
      go_loopw [7] (fun i wr => ∃ j q, j ≤ Col.placeOf ps[k] l ∧ i = .int .i64 j ∧ wr = wo.drewN q) (fun i _ => l.length - (intOf i).toNat)
      case atStart => exact ⟨0, 0, Nat.zero_le _, rfl, rfl⟩
      case round =>
        obtain ⟨j, q, hj, rfl, rfl⟩ := hrel
        by_cases hjl : j < l.length
        · obtain ⟨gl, ol, rfl, _⟩ := hrl.addr (by omega)
          obtain ⟨y0, y1, y2, y3⟩ := hrl.px j hjl
          have hjl' : (j : Int) < l.length := by omega
          have hnq := fun w => run_neq_px w l[j] ps[k]
          unfold pxV at hnq
          by_cases hxe : l[j] = ps[k]
          · have hpl : Col.placeOf ps[k] l = j := Col.placeOf_of ps[k] l j (by omega) (fun t ht => Col.placeOf_ne ps[k] l t (by omega) (by omega)) (fun _ => hxe)
            have HP := Lib.hid hpl
            clear hpl
            rw [decide_eq_true hxe] at hnq
            go_wp2_with fail
            go_quiet (fail)
            obtain ⟨i0, hi, hz0, hz1, hz2⟩ := info_parts intInfo
            go_wp2_with ((at_builtin; refine wpList_append_S rfl (.tmp 45) (.tmp 47) 77 77 rfl (w.heap.size + 1) 3 i0 (.int .i64 0) 1 8 Tryd.underlying77 hi hz0 hz1 hz2 rfl (by decide) (.slice An k cn) (k) (ints (s)) rfl ((hon.drewN _).alloc _) (ints_one _) (1) ([.int .i64 j]) (Src.made Tryd.underlying77 (by first | rfl | simp) rfl (by intro u hu; cases List.mem_singleton.1 hu; rfl)) (k + 1) (by omega) (ints (s ++ [(j : Int)])) (by rw [← ints_snoc]) (by unfold maxLen; omega) (by omega) (by first | omega | (simp; done) | (simp; omega)) ?_; intro A' c' w4 hown4 hg4 hat4))
            have hs4 := hg4.size
            simp at hs4
            have hstep : Col.unl (ps.take (k + 1)) = (l, s ++ [(j : Int)]) := by
              rw [HU.out]
              unfold Col.unlStep
              rw [← HL.out, ← HS.out, HP.out, if_neg (by omega)]
            have HW := Lib.hid hstep
            clear hstep
            go_roundw
            case rel =>
              refine ⟨k + 1, by omega, by go_num, ?_, ?_, ?_, ?_, ?_⟩
              · rw [HW.out]
                exact ((hol.drewN _).alloc _).kept hg4 (.inr (fun e => HN.out gl rfl e.symm))
              · rw [HW.out]; exact hown4
              · intro g hg he
                simp [Value.ownBlock] at hg
                subst hg
                rcases hat4 with e | e
                · rw [e] at he; exact HN.out gl rfl he
                · rw [e] at he
                  have h9 := (hbl2 gl rfl).2
                  simp at he
                  omega
              · exact ((hbox.drewN _).alloc _).grown hg4 (fun e => by have := (hbn2 _ e.symm).1; omega)
              · exact Below.grown (Below.alloc (below_drewN hb _) (by simp; omega) _) hg4 (by simp; omega) (fun g hg => by have := (hbn2 g hg).1; omega)
            case measure => simp [intOf]; omega
          · have hjp : j + 1 ≤ Col.placeOf ps[k] l := by
              rcases Nat.lt_or_ge j (Col.placeOf ps[k] l) with h | h
              · exact h
              · have e : Col.placeOf ps[k] l = j := by omega
                have := Col.placeOf_at ps[k] l (by omega)
                simp only [e] at this
                exact absurd this hxe
            go_wp2_with fail
            go_quiet (fail)
            go_wp2_with fail
            go_roundw
            case rel => exact ⟨j + 1, _, hjp, by go_num, rfl⟩
            case measure => simp [intOf]; omega
        · have hjl' : decide ((j : Int) < l.length) = false := decide_eq_false (by omega)
          go_wp2_with fail
          go_quiet (fail)
          obtain ⟨iN, hiN, hzN0, hzN1, hzN2⟩ := info_parts intInfo
          have hje : j = l.length := by omega
          subst hje
          have HP := Lib.hid (show Col.placeOf ps[k] l = l.length by omega)
          go_wp2_with (first
            | (at_builtin; refine wpList_append_S rfl (.tmp 37) (.tmp 43) 33 33 rfl (w.heap.size + 1) 52 i0 _ 4 4 Tryd.underlying33 hi hz0 hz1 hz2 rfl (by decide) (.slice Al l.length cl) (l.length) (pxCells (l)) rfl ((hol.drewN _).alloc _) (pxCells_one _) (1) ([.int .u8 ps[k].r.toNat, .int .u8 ps[k].g.toNat, .int .u8 ps[k].b.toNat, .int .u8 ps[k].a.toNat]) (Src.made Tryd.underlying33 (by first | rfl | simp) rfl (by intro u hu; exact pxCells_one [ps[k]] u hu)) (l.length + 1) (by omega) (pxCells (l ++ [ps[k]])) (by rw [pxCells_append]; rfl) (by unfold maxLen; omega) (by omega) (by first | omega | (simp; done) | (simp; omega)) ?_; intro A3 c3 w3 hown3 hg3 hat3; have hs3 : wo.heap.size + 1 ≤ w3.heap.size := (by have h9 := hg3.size; simpa using h9); have hon3 : Own w3 (w.heap.size + 1) 1 (.slice An k cn) k (ints s) := ((hon.drewN _).alloc _).kept2 hg3 HN.out)
            | (at_builtin; refine wpList_append_S rfl (.tmp 45) (.tmp 47) 77 77 rfl (w.heap.size + 1) 3 iN (.int .i64 0) 1 8 Tryd.underlying77 hiN hzN0 hzN1 hzN2 rfl (by decide) (.slice An k cn) (k) (ints (s)) rfl (hon3.alloc _) (ints_one _) (1) ([.int .i64 l.length]) (Src.made Tryd.underlying77 (by first | rfl | simp) rfl (by intro u hu; cases List.mem_singleton.1 hu; rfl)) (k + 1) (by omega) (ints (s ++ [(l.length : Int)])) (by rw [← ints_snoc]) (by unfold maxLen; omega) (by omega) (by first | omega | (simp; done) | (simp; omega)) ?_; intro A' c' w4 hown4 hg4 hat4))
          have hs4 := hg4.size
          simp at hs4
          have hstep : Col.unl (ps.take (k + 1)) = (l ++ [ps[k]], s ++ [(l.length : Int)]) := by
            rw [HU.out]
            unfold Col.unlStep
            rw [← HL.out, ← HS.out, HP.out, if_pos rfl]
          have HW := Lib.hid hstep
          clear hstep
          have hap : ∀ g, (Value.slice An k cn).ownBlock = some g → (Value.slice A3 (l.length + 1) c3).ownBlock ≠ some g := by
            intro g hg he
            rcases hat3 with e | e
            · rw [e] at he; exact HN.out g he hg
            · rw [e] at he
              have h9 := (hbn2 g hg).2
              simp at he
              omega
          go_roundw
          case rel =>
            refine ⟨k + 1, by omega, by go_num, ?_, ?_, ?_, ?_, ?_⟩
            · rw [HW.out, List.length_append]
              exact (hown3.alloc _).kept2 hg4 hap
            · rw [HW.out]; exact hown4
            · intro g hg he
              rcases hat4 with e | e
              · rw [e] at he; exact hap g he hg
              · rw [e] at he
                have h9 := (hown3.lt g hg).2
                simp at he
                omega
            · exact ((((hbox.drewN _).alloc _).grown hg3 (fun e => by have := (hbl2 _ e.symm).1; omega)).alloc _).grown hg4 (fun e => by have := (hbn2 _ e.symm).1; omega)
            · exact Below.grown (Below.alloc (Below.grown (Below.alloc (below_drewN hb _) (by simp; omega) _) hg3 (by simp; omega) (fun g hg => by have := (hbl2 g hg).1; omega)) (by omega) _) hg4 (by simp; omega) (fun g hg => by have := (hbn2 g hg).1; omega)
          case measure => simp [intOf]; omega
    · have e : k = ps.length := by omega
      subst e
      rw [List.take_length] at hol hon
      obtain ⟨A1, c1, rfl, _, _⟩ := hol.form
      obtain ⟨A2, c2, rfl, _, _⟩ := hon.form
      go_wp2_with fail
      go_ret2
      exact ⟨A1, c1, A2, c2, rfl, hol.mono (by omega), hon.mono (by omega), hb⟩
end Go.Proofs.YtncedhhgclofbaaDoor
