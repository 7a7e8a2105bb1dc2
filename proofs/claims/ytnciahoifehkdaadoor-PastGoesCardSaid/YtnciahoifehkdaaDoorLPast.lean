/- PastGoes: the law's walk. -/
import Derived.Test.YtnciahoifehkdaaDoorPastDo
import Derived.Test.YtnciahoifehkdaaDoorFirst
import Derived.Test.YtnciahoifehkdaaDoorSteps
import Derived.Test.YtnciahoifehkdaaDoorCoded
import Derived.Deep.Cut
namespace Go.Proofs.YtnciahoifehkdaaDoor
open Go Go.RowKit

theorem fresh_of {w w0 : World} {v v' : Value} (hat : v'.ownBlock = v.ownBlock ∨ v'.ownBlock = some w.heap.size) (h : w0.heap.size ≤ w.heap.size) : Fresh w0 v v' := fun g hg => by
  rcases hat with e | e <;> rw [e] at hg
  · exact .inl hg
  · have : w.heap.size = g := by simpa using hg
    exact .inr (by omega)
theorem snoc_of (l : List Int) (h : 0 < l.length) : ∃ a x, l = a ++ [x] := ⟨l.dropLast, l.getLast (by intro e; subst e; simp at h), (List.dropLast_concat_getLast _).symm⟩

/-- The relation of PastGoes' loop. -/
def PR (w : World) (gp : Nat) (most : Int) (n : Nat) (t10 t11 t12 t13 : Value) (wr : World) : Prop :=
  ∃ (k : Nat) (now : Int) (back forth : List Int) (vb vf : Value), k ≤ n ∧ t13 = .int .i64 k ∧ t10 = .int .i64 now ∧ PG w wr w.heap.size gp now most back forth back forth vb vf t11 t12 ∧ (back.length : Int) + forth.length ≤ most

set_option maxRecDepth 100000 in
set_option maxHeartbeats 4000000 in
theorem pastGoes_any (start most : Int) (A : Option Addr) (n c : Nat) (ps : List (Int × Int)) (E : Nat → Addr) (w : World) (hp : Reads w w.heap.size 2 A n (ps.flatMap stepCs)) (hE : ErrsAt w E) :
    Calls Tryd.prog 5 #[.int .i64 start, .int .i64 most, .slice A n c] w
      fun e w' => e = .returned (.bool true) ∧ Below w.heap.size w w' := by
  obtain ⟨i0, hi, hz0, hz1, hz2⟩ := info_parts intInfo
  obtain rfl := hp.stepLen
  go_enter Tryd.func5, Tryd.ntmps5
  go_wp2_with fail
  refine (first_any _).mono ?_
  rintro e w1 ⟨rfl, hb1⟩
  have hE1 := hE.below hb1
  by_cases hn : ps.length ≤ 200
  · have hn' := Int.ofNat_le.2 hn
    by_cases hm : 0 ≤ most ∧ most ≤ 20
    · obtain ⟨m0, m1⟩ := hm
      go_wp2_with fail
      refine (pnew_any start most _ m0 m1).mono ?_
      rintro e w2 ⟨rfl, rfl⟩
      have hz1' := hb1.size
      have G0 : PG w (w1.alloc (.cells #[.int .i64 start, .int .i64 most, .slice none 0 0, .slice none 0 0] 157)) w.heap.size w1.heap.size start most [] [] [] [] (.slice none 0 0) (.slice none 0 0) (.slice none 0 0) (.slice none 0 0) :=
        ⟨⟨Blk.new _ _ _ rfl, hz1', Own.nil _ _ _, Own.nil _ _ _, by simp [Value.ownBlock], by simp [Value.ownBlock], fun g h => by simp [Value.ownBlock] at h⟩, Own.nil _ _ _, Own.nil _ _ _, by simp [Value.ownBlock], by simp [Value.ownBlock],
          fun g h => by simp [Value.ownBlock] at h, fun g h => by simp [Value.ownBlock] at h, fun g h => by simp [Value.ownBlock] at h, fun g h => by simp [Value.ownBlock] at h, fun g h => by simp [Value.ownBlock] at h, Below.alloc hb1 hz1' _⟩
      obtain ⟨gp, hgp⟩ : ∃ gp, gp = w1.heap.size := ⟨_, rfl⟩
      rw [← hgp] at G0 ⊢
      obtain ⟨w2, hw2⟩ : ∃ w2, w2 = w1.alloc (.cells #[.int .i64 start, .int .i64 most, .slice none 0 0, .slice none 0 0] 157) := ⟨_, rfl⟩
      rw [← hw2] at G0 ⊢
      clear hw2 hgp hE1 hb1 hz1'
      go_wp2_with fail
      go_loopw [10, 11, 12, 13] (fun t10 t11 t12 t13 wr => PR w gp most ps.length t10 t11 t12 t13 wr) (fun _ _ _ t13 _ => ps.length - (intOf t13).toNat)
      case atStart => exact ⟨0, start, [], [], _, _, Nat.zero_le _, rfl, rfl, G0, by simpa using m0⟩
      case round =>
        clear G0
        obtain ⟨k, now, back, forth, vb, vf, hk, rfl, rfl, G, hlen⟩ := hrel
        obtain ⟨wo, rfl⟩ : ∃ wo : World, wo = wr := ⟨_, rfl⟩
        have hB := G.bel.size
        by_cases hlt : k < ps.length
        · obtain ⟨b, off, rfl, hbl⟩ := hp.addr (by omega)
          have hps := hp.below G.bel (Nat.le_refl _)
          obtain ⟨s0, s1⟩ := hps.step k hlt
          obtain ⟨kd, hkd⟩ : ∃ kd, kd = ps[k].1 := ⟨_, rfl⟩
          obtain ⟨x, hx⟩ : ∃ x, x = ps[k].2 := ⟨_, rfl⟩
          rw [← hkd] at s0
          rw [← hx] at s1
          have HX := Lib.hid hx
          clear hkd hx
          by_cases h0 : kd = 0
          · subst h0
            obtain ⟨Ah, ch, rfl, hch, _⟩ := G.oh.form
            obtain ⟨Aa, ca, rfl, hca, _⟩ := G.oa.form
            go_wp2_with fail
            refine (do_any w.heap.size gp now most x vb vf back forth _ G.p (by omega) m1 hB).mono ?_
            rintro e w3 ⟨rfl, vb', hP', fr, kp⟩
            have kp' := kp.size
            have G1 := G.struct hP' fr (fun g hg => by simp [Value.ownBlock] at hg) kp (fun g hg => by rcases hg with h | h; exact .inl h; exact .inr (.inl h)) hB
            have hB3 := G1.bel.size
            have t1 := (hp.below G1.bel (Nat.le_refl _)).step k hlt
            clear G kp hP' fr s0 s1 hps
            obtain ⟨bk, hbk⟩ : ∃ bk, bk = pushed most back now := ⟨_, rfl⟩
            rw [← hbk] at G1
            have HBK := Lib.hid hbk
            clear hbk
            go_upto_region 19 with (at_builtin; refine wpList_append_S rfl (.tmp 72) (.tmp 74) 63 63 rfl (w.heap.size) 3 i0 (.int .i64 0) 1 8 Tryd.underlying63 hi hz0 hz1 hz2 rfl (by decide) (.slice Ah back.length ch) (back.length) (ints (back)) rfl (G1.oh.alloc _) (ints_one _) (1) ([.int .i64 now]) (Src.made Tryd.underlying63 (by first | rfl | simp) rfl (by intro u hu; cases List.mem_singleton.1 hu; rfl)) (back.length + 1) (by omega) (ints (back ++ [now])) (by rw [← ints_snoc]) (by unfold maxLen; omega) (by omega) (by first | omega | (simp; done) | (simp; omega)) ?_; intro A' c' w4 hown4 hg4 hat4)
            have hs4 := hg4.size
            simp at hs4
            have G2 := (G1.new (Below.alloc (Below.refl _ _) (Nat.le_refl _) (.cells #[.int .i64 now] 3)) hB3).seth (hs' := back ++ [now]) (by rw [List.length_append]; exact hown4) hg4 (fresh_of hat4 (Nat.le_refl _)) (by simp; omega)
            have t2 := ((hp.below G2.bel (Nat.le_refl _)).step k hlt).2
            rw [← HX.out] at t2
            have hB4 := G2.bel.size
            clear t1 hat4 hg4
            by_cases hlm : (back.length : Int) < most
            · have hbe : bk = back ++ [now] := by rw [HBK.out, pushed, if_pos hlm]
              have hbl : bk.length = back.length + 1 := by rw [hbe]; simp
              rw [← hbe] at G2
              have G8 := G2.cuta (az' := []) (Own.nil _ _ _) (fun g hg => by simp [Value.ownBlock] at hg) hB4
              clear G1 G2 hbe
              have hB8 := G8.bel.size
              obtain ⟨Ab, cb, rfl, _, _⟩ := G8.p.ob.form
              go_wp2_with fail
              refine (pkept_any gp x most Ab none (bk).length cb 0 0 _ G8.p.blk).mono ?_
              rintro e w9 ⟨rfl, q9, rfl⟩
              go_wp2_with fail
              refine (pnow_any gp x most _ _ _ (G8.p.blk.drewN _)).mono ?_
              rintro e w9 ⟨rfl, rfl⟩
              go_wp2_with fail
              go_roundw
              case rel => exact ⟨k + 1, x, bk, ([] : List Int), _, _, by omega, by go_num, rfl, G8.new (below_drewN (Below.refl _ _) _) hB8, by first | omega | (simp; omega)⟩
              case measure => simp [intOf]; omega

            · have hbe : bk = (back ++ [now]).drop 1 := by rw [HBK.out, pushed, if_neg hlm]
              have hbl : bk.length = back.length := by rw [hbe]; simp
              have hlq : (back.length : Int) = most := by omega
              have hlq' : most < (back.length : Int) + 1 := by omega
              clear hlq
              obtain ⟨gA, oA, rfl, hgA1, hgA2⟩ := hown4.addr (by omega)
              have hcl : back.length + 1 ≤ c' := by
                obtain ⟨_, _, e, h, _⟩ := hown4.form
                injection e with _ _ e3
                omega
              by_cases hc : c' = 1
              · subst hc
                have hn0 : back = [] := List.eq_nil_of_length_eq_zero (by omega)
                subst hn0
                have HD := hown4.drop (k := 1) (by omega)
                rw [if_pos rfl] at HD
                have hbe0 : bk = [] := by rw [hbe]; rfl
                have G8 := (G2.cuth (vh' := .slice (some ⟨gA, oA, none⟩) 0 0) (hs' := bk) (by rw [hbe0]; exact HD) (fun g hg => hg) hB4).cuta (az' := []) (Own.nil _ _ _) (fun g hg => by simp [Value.ownBlock] at hg) hB4
                clear G1 G2 hbe HD hown4 hbe0
                have hB8 := G8.bel.size
                obtain ⟨Ab, cb, rfl, _, _⟩ := G8.p.ob.form
                go_wp2_with fail
                refine (pkept_any gp x most Ab none (bk).length cb 0 0 _ G8.p.blk).mono ?_
                rintro e w9 ⟨rfl, q9, rfl⟩
                go_wp2_with fail
                refine (pnow_any gp x most _ _ _ (G8.p.blk.drewN _)).mono ?_
                rintro e w9 ⟨rfl, rfl⟩
                go_wp2_with fail
                go_roundw
                case rel => exact ⟨k + 1, x, bk, ([] : List Int), _, _, by omega, by go_num, rfl, G8.new (below_drewN (Below.refl _ _) _) hB8, by first | omega | (simp; omega)⟩
                case measure => simp [intOf]; omega

              · have HD : Own w4 w.heap.size 1 (.slice (some ⟨gA, oA + 1, none⟩) back.length (c' - 1)) back.length (ints ((back ++ [now]).drop 1)) := by
                  have := hown4.drop (k := 1) (by omega)
                  rw [if_neg hc, Nat.add_sub_cancel] at this
                  have e : (ints (back ++ [now])).drop (1 * 1) = ints ((back ++ [now]).drop 1) := by simp [ints]
                  rw [e] at this
                  have e2 : (some (⟨gA, oA, none⟩ : Addr)).map (·.add (1 * 1)) = some ⟨gA, oA + 1, none⟩ := by simp [add_lit]
                  rw [e2] at this
                  exact this
                have G8 := (G2.cuth (vh' := .slice (some ⟨gA, oA + 1, none⟩) back.length (c' - 1)) (hs' := bk) (by rw [hbl, hbe]; exact HD) (fun g hg => hg) hB4).cuta (az' := []) (Own.nil _ _ _) (fun g hg => by simp [Value.ownBlock] at hg) hB4
                clear G1 G2 hbe HD hown4
                have hB8 := G8.bel.size
                obtain ⟨Ab, cb, rfl, _, _⟩ := G8.p.ob.form
                go_wp2_with fail
                refine (pkept_any gp x most Ab none (bk).length cb 0 0 _ G8.p.blk).mono ?_
                rintro e w9 ⟨rfl, q9, rfl⟩
                go_wp2_with fail
                refine (pnow_any gp x most _ _ _ (G8.p.blk.drewN _)).mono ?_
                rintro e w9 ⟨rfl, rfl⟩
                go_wp2_with fail
                go_roundw
                case rel => exact ⟨k + 1, x, bk, ([] : List Int), _, _, by omega, by go_num, rfl, G8.new (below_drewN (Below.refl _ _) _) hB8, by first | omega | (simp; omega)⟩
                case measure => simp [intOf]; omega
          · by_cases h1 : kd = 1
            · subst h1
              clear h0
              by_cases hz : 0 < back.length
              · have hz' := Int.ofNat_lt.2 hz
                obtain ⟨bs, y, hbs⟩ := snoc_of back hz
                subst hbs
                obtain ⟨ot, hot⟩ : ∃ ot, ot = forth := ⟨_, rfl⟩
                subst hot
                have ohx := G.oh
                rw [List.length_append] at ohx hlen
                simp only [List.length_cons, List.length_nil, Nat.zero_add] at ohx hlen
                obtain ⟨Ah, ch, rfl, hch, _⟩ := ohx.form
                obtain ⟨Aa, ca, rfl, hca, _⟩ := G.oa.form
                obtain ⟨gh, oh, rfl, hgh1, hgh2⟩ := ohx.addr (by omega)
                go_wp2_with fail
                refine (undo_yes w.heap.size gp now most y vb vf bs ot _ G.p (by omega) (by omega) hB).mono ?_
                rintro e w3 ⟨rfl, vb', vf', hP', fb, ff, kp⟩
                have kp' := kp.size
                have G1 := G.struct hP' fb ff kp (fun g hg => by rcases hg with h | h; exact .inl h; exact .inr (.inr h)) hB
                have hB3 := G1.bel.size
                clear G kp hP' fb ff s0 s1 hps ohx
                go_upto_region 29 with (at_builtin; refine wpList_append_S rfl (.tmp 97) (.tmp 99) 63 63 rfl (w.heap.size) 3 i0 (.int .i64 0) 1 8 Tryd.underlying63 hi hz0 hz1 hz2 rfl (by decide) (.slice Aa ot.length ca) (ot.length) (ints (ot)) rfl (G1.oa.alloc _) (ints_one _) (1) ([.int .i64 now]) (Src.made Tryd.underlying63 (by first | rfl | simp) rfl (by intro u hu; cases List.mem_singleton.1 hu; rfl)) (ot.length + 1) (by omega) (ints (ot ++ [now])) (by rw [← ints_snoc]) (by unfold maxLen; omega) (by omega) (by first | omega | (simp; done) | (simp; omega)) ?_; intro A' c' w4 hown4 hg4 hat4)
                have hs4 := hg4.size
                simp at hs4
                have G2 := (G1.new (Below.alloc (Below.refl _ _) (Nat.le_refl _) (.cells #[.int .i64 now] 3)) hB3).seta (az' := ot ++ [now]) (by rw [List.length_append]; exact hown4) hg4 (fresh_of hat4 (Nat.le_refl _)) (by simp; omega)
                have hB4 := G2.bel.size
                have ohy := G2.oh
                rw [List.length_append] at ohy
                simp only [List.length_cons, List.length_nil, Nat.zero_add] at ohy
                have ey : w4.cell? ⟨gh, oh + bs.length, none⟩ = some (.int .i64 y) := by
                  rw [ohy.reads.2.cell rfl bs.length (by omega), ints_at _ bs.length (by simp)]
                  simp
                have oht := ohy.take (k := bs.length) (by omega)
                rw [show (ints (bs ++ [y])).take (bs.length * 1) = ints bs by simp [ints]] at oht
                have G8 := G2.cuth (vh' := .slice (some ⟨gh, oh, none⟩) bs.length ch) (hs' := bs) oht (fun g hg => hg) hB4
                clear G1 G2 hat4 hg4 hown4 ohy oht

                have hB8 := G8.bel.size
                obtain ⟨Ab, cb, rfl, _, _⟩ := G8.p.ob.form
                obtain ⟨Af, cf, rfl, _, _⟩ := G8.p.of_.form
                go_wp2_with fail
                refine (pkept_any gp y most Ab Af (bs).length cb ((ot ++ [now])).length cf _ G8.p.blk).mono ?_
                rintro e w9 ⟨rfl, q9, rfl⟩
                go_wp2_with fail
                refine (pnow_any gp y most _ _ _ (G8.p.blk.drewN _)).mono ?_
                rintro e w9 ⟨rfl, rfl⟩
                go_wp2_with fail
                go_roundw
                case rel => exact ⟨k + 1, y, bs, (ot ++ [now]), _, _, by omega, by go_num, rfl, G8.new (below_drewN (Below.refl _ _) _) hB8, by first | omega | (simp; omega)⟩
                case measure => simp [intOf]; omega
              · obtain rfl : back = [] := List.eq_nil_of_length_eq_zero (by omega)
                have ohx := G.oh
                simp only [List.length_nil] at ohx hlen
                obtain ⟨Ah, ch, rfl, hch, _⟩ := ohx.form
                obtain ⟨Aa, ca, rfl, hca, _⟩ := G.oa.form
                go_wp2_with fail
                refine (undo_no w.heap.size gp now most vb vf forth _ G.p).mono ?_
                rintro e w3 ⟨rfl, q3, hw3⟩
                have G8 := G.new (below_drewN (Below.refl _ _) q3) hB
                rw [← hw3] at G8
                clear G hps s0 s1 ohx hw3

                have hB8 := G8.bel.size
                obtain ⟨Ab, cb, rfl, _, _⟩ := G8.p.ob.form
                obtain ⟨Af, cf, rfl, _, _⟩ := G8.p.of_.form
                go_wp2_with fail
                refine (pkept_any gp now most Ab Af (([] : List Int)).length cb (forth).length cf _ G8.p.blk).mono ?_
                rintro e w9 ⟨rfl, q9, rfl⟩
                go_wp2_with fail
                refine (pnow_any gp now most _ _ _ (G8.p.blk.drewN _)).mono ?_
                rintro e w9 ⟨rfl, rfl⟩
                go_wp2_with fail
                go_roundw
                case rel => exact ⟨k + 1, now, ([] : List Int), forth, _, _, by omega, by go_num, rfl, G8.new (below_drewN (Below.refl _ _) _) hB8, by first | omega | (simp; omega)⟩
                case measure => simp [intOf]; omega
            · by_cases h2 : kd = 2
              · subst h2
                clear h0 h1
                by_cases hz : 0 < forth.length
                · have hz' := Int.ofNat_lt.2 hz
                  obtain ⟨bs, y, hbs⟩ := snoc_of forth hz
                  subst hbs
                  obtain ⟨ot, hot⟩ : ∃ ot, ot = back := ⟨_, rfl⟩
                  subst hot
                  have ohx := G.oa
                  rw [List.length_append] at ohx hlen
                  simp only [List.length_cons, List.length_nil, Nat.zero_add] at ohx hlen
                  obtain ⟨Ah, ch, rfl, hch, _⟩ := ohx.form
                  obtain ⟨Aa, ca, rfl, hca, _⟩ := G.oh.form
                  obtain ⟨gh, oh, rfl, hgh1, hgh2⟩ := ohx.addr (by omega)
                  go_wp2_with fail
                  refine (redo_yes w.heap.size gp now most y vb vf bs ot _ G.p (by omega) (by omega) hB).mono ?_
                  rintro e w3 ⟨rfl, vb', vf', hP', fb, ff, kp⟩
                  have kp' := kp.size
                  have G1 := G.struct hP' fb ff kp (fun g hg => by rcases hg with h | h; exact .inl h; exact .inr (.inl h)) hB
                  have hB3 := G1.bel.size
                  clear G kp hP' fb ff s0 s1 hps ohx
                  go_upto_region 37 with (at_builtin; refine wpList_append_S rfl (.tmp 122) (.tmp 124) 63 63 rfl (w.heap.size) 3 i0 (.int .i64 0) 1 8 Tryd.underlying63 hi hz0 hz1 hz2 rfl (by decide) (.slice Aa ot.length ca) (ot.length) (ints (ot)) rfl (G1.oh.alloc _) (ints_one _) (1) ([.int .i64 now]) (Src.made Tryd.underlying63 (by first | rfl | simp) rfl (by intro u hu; cases List.mem_singleton.1 hu; rfl)) (ot.length + 1) (by omega) (ints (ot ++ [now])) (by rw [← ints_snoc]) (by unfold maxLen; omega) (by omega) (by first | omega | (simp; done) | (simp; omega)) ?_; intro A' c' w4 hown4 hg4 hat4)
                  have hs4 := hg4.size
                  simp at hs4
                  have G2 := (G1.new (Below.alloc (Below.refl _ _) (Nat.le_refl _) (.cells #[.int .i64 now] 3)) hB3).seth (hs' := ot ++ [now]) (by rw [List.length_append]; exact hown4) hg4 (fresh_of hat4 (Nat.le_refl _)) (by simp; omega)
                  have hB4 := G2.bel.size
                  have ohy := G2.oa
                  rw [List.length_append] at ohy
                  simp only [List.length_cons, List.length_nil, Nat.zero_add] at ohy
                  have ey : w4.cell? ⟨gh, oh + bs.length, none⟩ = some (.int .i64 y) := by
                    rw [ohy.reads.2.cell rfl bs.length (by omega), ints_at _ bs.length (by simp)]
                    simp
                  have oht := ohy.take (k := bs.length) (by omega)
                  rw [show (ints (bs ++ [y])).take (bs.length * 1) = ints bs by simp [ints]] at oht
                  have G8 := G2.cuta (va' := .slice (some ⟨gh, oh, none⟩) bs.length ch) (az' := bs) oht (fun g hg => hg) hB4
                  clear G1 G2 hat4 hg4 hown4 ohy oht

                  have hB8 := G8.bel.size
                  obtain ⟨Ab, cb, rfl, _, _⟩ := G8.p.ob.form
                  obtain ⟨Af, cf, rfl, _, _⟩ := G8.p.of_.form
                  go_wp2_with fail
                  refine (pkept_any gp y most Ab Af ((ot ++ [now])).length cb (bs).length cf _ G8.p.blk).mono ?_
                  rintro e w9 ⟨rfl, q9, rfl⟩
                  go_wp2_with fail
                  refine (pnow_any gp y most _ _ _ (G8.p.blk.drewN _)).mono ?_
                  rintro e w9 ⟨rfl, rfl⟩
                  go_wp2_with fail
                  go_roundw
                  case rel => exact ⟨k + 1, y, (ot ++ [now]), bs, _, _, by omega, by go_num, rfl, G8.new (below_drewN (Below.refl _ _) _) hB8, by first | omega | (simp; omega)⟩
                  case measure => simp [intOf]; omega
                · obtain rfl : forth = [] := List.eq_nil_of_length_eq_zero (by omega)
                  have ohx := G.oa
                  simp only [List.length_nil] at ohx hlen
                  obtain ⟨Ah, ch, rfl, hch, _⟩ := ohx.form
                  obtain ⟨Aa, ca, rfl, hca, _⟩ := G.oh.form
                  go_wp2_with fail
                  refine (redo_no w.heap.size gp now most vb vf back _ G.p).mono ?_
                  rintro e w3 ⟨rfl, q3, hw3⟩
                  have G8 := G.new (below_drewN (Below.refl _ _) q3) hB
                  rw [← hw3] at G8
                  clear G hps s0 s1 ohx hw3

                  have hB8 := G8.bel.size
                  obtain ⟨Ab, cb, rfl, _, _⟩ := G8.p.ob.form
                  obtain ⟨Af, cf, rfl, _, _⟩ := G8.p.of_.form
                  go_wp2_with fail
                  refine (pkept_any gp now most Ab Af (back).length cb (([] : List Int)).length cf _ G8.p.blk).mono ?_
                  rintro e w9 ⟨rfl, q9, rfl⟩
                  go_wp2_with fail
                  refine (pnow_any gp now most _ _ _ (G8.p.blk.drewN _)).mono ?_
                  rintro e w9 ⟨rfl, rfl⟩
                  go_wp2_with fail
                  go_roundw
                  case rel => exact ⟨k + 1, now, back, ([] : List Int), _, _, by omega, by go_num, rfl, G8.new (below_drewN (Below.refl _ _) _) hB8, by first | omega | (simp; omega)⟩
                  case measure => simp [intOf]; omega
              · obtain ⟨Ah, ch, rfl, hch, _⟩ := G.oh.form
                obtain ⟨Aa, ca, rfl, hca, _⟩ := G.oa.form
                have G8 := G
                clear G
                have hB8 := G8.bel.size
                obtain ⟨Ab, cb, rfl, _, _⟩ := G8.p.ob.form
                obtain ⟨Af, cf, rfl, _, _⟩ := G8.p.of_.form
                go_wp2_with fail
                refine (pkept_any gp now most Ab Af (back).length cb (forth).length cf _ G8.p.blk).mono ?_
                rintro e w9 ⟨rfl, q9, rfl⟩
                go_wp2_with fail
                refine (pnow_any gp now most _ _ _ (G8.p.blk.drewN _)).mono ?_
                rintro e w9 ⟨rfl, rfl⟩
                go_wp2_with fail
                go_roundw
                case rel => exact ⟨k + 1, now, back, forth, _, _, by omega, by go_num, rfl, G8.new (below_drewN (Below.refl _ _) _) hB8, by first | omega | (simp; omega)⟩
                case measure => simp [intOf]; omega
        · obtain ⟨Ah, ch, rfl, hch, _⟩ := G.oh.form
          go_wp2_with fail
          go_ret
          exact ⟨rfl, G.bel⟩
    · have hm' : most < 0 ∨ 20 < most := by omega
      rcases hm' with hm' | hm'
      all_goals
        go_wp2_with fail
        refine (pnew_no start most E _ hE1 (by omega)).mono ?_
        rintro e w2 ⟨rfl, hb2⟩
        have hE2 := hE1.below hb2
        go_wp2_with fail
        refine (coded_sent E 1 (by omega) 2 _ hE2).mono ?_
        rintro e w3 ⟨rfl, hb3⟩
        go_wp2_with fail
        go_ret
        exact ⟨rfl, hb1.trans ((hb2.mono hb1.size).trans (hb3.mono (Nat.le_trans hb1.size hb2.size)))⟩
  · go_wp2_with fail
    go_ret
    exact ⟨rfl, hb1⟩
end Go.Proofs.YtnciahoifehkdaaDoor
