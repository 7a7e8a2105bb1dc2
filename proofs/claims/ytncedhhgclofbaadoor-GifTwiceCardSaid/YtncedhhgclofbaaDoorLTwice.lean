/- layercakelaw3.GifTwice: the walk: what is written is read. -/
import Derived.Test.YtncedhhgclofbaaDoorBlink
import Derived.Test.YtncedhhgclofbaaDoorClean
import Derived.Deep.RegionHeld3
namespace Go.Proofs.YtncedhhgclofbaaDoor
open Go Go.RowKit

set_option maxRecDepth 100000 in
set_option maxHeartbeats 8000000 in
theorem gifTwice_any (A : Option Addr) (n c : Nat) (ms : List FM) (loops : Int) (E : Nat → Addr) (w : World) (hF : Frs w w.heap.size A n ms) (hB : ∀ m ∈ ms, m.n ≤ reachBytes) (hn : n ≤ 9223372036854775807) (hE : Er4 w E) :
    Calls Tryd.prog 3 #[.slice A n c, .int .i64 loops] w fun e w' => e = .returned (.bool true) ∧ Below w.heap.size w w' := by
  have hnl := hF.len
  have HNL := Lib.hid hnl
  clear hnl
  go_enter Tryd.func3, Tryd.ntmps3
  go_wp2_with fail
  refine (blink_any E w hE).mono ?_
  rintro e w1 ⟨rfl, hw1⟩
  have hF1 := hF.step hw1
  have hE1 := hE.below hw1
  go_wp2_with fail
  refine (short_any A n c ms w1 hF1 hB hn).mono ?_
  rintro e w2 ⟨rfl, rfl⟩
  cases hsh : shortB ms with
  | false =>
    clear hsh
    go_wp2_with fail
    go_ret
    exact ⟨rfl, hw1⟩
  | true =>
    have hsb := of_decide_eq_true hsh
    obtain ⟨h20, h3000⟩ := hsb
    have hn20 : n ≤ 20 := by rw [HNL.out]; exact h20
    have hmn : ∀ m ∈ ms, m.n ≤ 3000 := fun m hm => Nat.le_trans (sumN_mem hm) h3000
    have HMN := Lib.hid hmn
    have H3 := Lib.hid h3000
    clear hsh h20 h3000 hmn
    go_wp2_with fail
    refine (framesOf_any A n c ms w1 hF1 hn20 (fun m hm => Nat.le_trans (HMN.out m hm) (by decide))).mono ?_
    rintro e w3 ⟨A3, c3, ms3, rfl, hm3, hfr3, hb3⟩
    have hw3 := hw1.trans (hb3.mono hw1.size)
    have hF3 := hF1.step hb3
    have HM3 := Lib.hid hm3
    have hfs3 := hfr3.frs
    clear hm3
    go_wp2_with fail
    refine (write_any A3 ms3.length c3 ms3 loops E w3 (hE.below hw3) hfs3).mono ?_
    rintro e w4 ⟨hb4, he4⟩
    have hw4 := hw3.trans (hb4.mono hw3.size)
    have hF4 := hF3.step hb4
    rw [HM3.out] at he4
    cases hg : Gif.gif (ms.map (·.f)) loops with
    | inr f =>
      rw [hg] at he4
      obtain ⟨v, rfl, hv⟩ := he4
      obtain ⟨ty, u, rfl⟩ := errIs_iface hv
      clear hg hv
      go_wp2_with fail
      go_ret
      exact ⟨rfl, hw4⟩
    | inl s =>
      rw [hg] at he4
      obtain ⟨t, rfl, ht⟩ := he4
      obtain ⟨l1, -, ⟨q1, q2⟩, l4⟩ := Gif.gif_len _ _ s hg
      obtain ⟨lp, hlp⟩ := Int.eq_ofNat_of_zero_le q1
      subst hlp
      have hrb := Gif.read_back (ms.map (·.f)) lp s hg
      have hsum : ((ms.map (·.f)).map (·.ps.length)).sum ≤ 3000 := by
        have e : (ms.map (·.f)).map (·.ps.length) = ms.map (·.n) := by
          rw [List.map_map]
          exact List.map_congr_left fun m hm => (hF.2 m hm).pxLen.symm
        rw [e]
        exact H3.out
      have htz : t.size ≤ 300000 := by rw [← lst_length, ht]; omega
      have hmsl : (ms.map (·.f)).length = n := by rw [List.length_map, HNL.out]
      rw [hmsl] at hrb l4
      rw [← ht] at hrb
      have HRB := Lib.hid hrb
      clear hrb ht hsum l1 hg hmsl q1
      go_wp2_with fail
      refine (gread_any t E w4 (hE.below hw4) htz).mono ?_
      rintro e w5 ⟨hb5, he5⟩
      rw [HRB.out] at he5
      obtain ⟨A5, c5, ms5, he, hm5, hF5⟩ := he5
      have hw5 := hw4.trans (hb5.mono hw4.size)
      have hFx := hF4.step hb5
      obtain ⟨n5, hn5⟩ : ∃ n5 : Nat, n5 = if 1 < n then lp else 0 := ⟨_, rfl⟩
      replace he : e = .returned (.tuple #[.slice A5 ms5.length c5, .int .i64 (if 1 < n then lp else 0 : Nat), .nilIface]) := he
      rw [← hn5] at he
      subst he
      replace hm5 : ms5.map (·.f) = (ms.map (·.f)).map Gif.cleanFr := hm5
      have hl5 : ms5.length = n := by have := congrArg List.length hm5; rw [List.length_map, List.length_map, List.length_map] at this; rw [this, HNL.out]
      rw [hl5] at hF5 ⊢
      have HL5 := Lib.hid hl5
      have HM5 := Lib.hid hm5
      have HN5 := Lib.hid hn5
      have hnb : ((n : Int) != (n : Int)) = false := by simp
      clear hl5 hm5 hn5 hF1 hF3 hF4 hfr3 hfs3 hb3 hb4 hb5 hw3 hw4 hw1 hF hE1 hB
      go_upto_region 8 with (fail)
      go_cut [64] (fun sv wx => sv = .bool false ∧ w5 = wx)
      case first =>
        have hn5 := HN5.out
        by_cases h1 : 1 < n
        · rw [if_pos h1] at hn5
          subst hn5
          have h1i : (1 : Int) < n := by omega
          have hne1 : ((n : Int) == 1) = false := by rw [beq_eq_false_iff_ne]; omega
          have hll : ((n5 : Int) != (n5 : Int)) = false := by simp
          clear h1
          go_wp2_with fail
          go_meet
          case rel => first | exact ⟨rfl, rfl⟩ | exact ⟨by simp, rfl⟩
        · rw [if_neg h1] at hn5
          subst hn5
          have h1i : (n : Int) = 1 := by omega
          have hn1 : n = 1 := by omega
          subst hn1
          clear h1 h1i
          go_wp2_with fail
          go_meet
          case rel => first | exact ⟨rfl, rfl⟩ | exact ⟨by simp, rfl⟩
      case rest =>
        obtain ⟨rfl, rfl⟩ := hcut
        go_wp2_with fail
        go_loopw [10] (fun i wr => ∃ k : Nat, k ≤ n ∧ i = .int .i64 k ∧ Below w5.heap.size w5 wr) (fun i _ => n - (intOf i).toNat)
        case atStart => exact ⟨0, Nat.zero_le _, rfl, Below.refl _ _⟩
        case round =>
          obtain ⟨k, hk, rfl, hb⟩ := hrel
          obtain ⟨wk, hwk⟩ : ∃ wk, wk = wr := ⟨_, rfl⟩
          rw [← hwk] at hb ⊢
          clear hwk
          have hzk := hb.size
          by_cases hlt : k < n
          · have hx : k < ms5.length := by rw [HL5.out]; exact hlt
            have hy : k < ms.length := by rw [← HNL.out]; exact hlt
            have hfe : ms5[k].f = Gif.cleanFr ms[k].f := by
              have e : (ms5.map (·.f))[k]? = ((ms.map (·.f)).map Gif.cleanFr)[k]? := by rw [HM5.out]
              rw [List.getElem?_map, List.getElem?_map, List.getElem?_map, List.getElem?_eq_getElem hx, List.getElem?_eq_getElem hy] at e
              exact Option.some.inj e
            have hFa := hF5.step hb
            have hFb := hFx.step hb
            obtain ⟨b0, off, rfl, hbl⟩ := hF5.1.addr (by omega)
            obtain ⟨b9, off9, rfl, hbl9⟩ := hFx.1.addr (by omega)
            have hmn := HMN.out _ (List.getElem_mem hy)
            have k0 : wk.cell? ⟨b0, off + k * 4, none⟩ = some (.int .i64 ms[k].f.wide) := by have := hFa.at k hx 0 (by omega); simpa [frCs, hfe, Gif.cleanFr] using this
            have k1 : wk.cell? ⟨b0, off + k * 4 + 1, none⟩ = some (.int .i64 ms[k].f.high) := by have := hFa.at k hx 1 (by omega); simpa [frCs, hfe, Gif.cleanFr] using this
            have k2 : wk.cell? ⟨b0, off + k * 4 + 2, none⟩ = some (.slice ms5[k].A ms5[k].n ms5[k].c) := by have := hFa.at k hx 2 (by omega); simpa [frCs] using this
            have k3 : wk.cell? ⟨b0, off + k * 4 + 3, none⟩ = some (.int .i64 ms[k].f.delay) := by have := hFa.at k hx 3 (by omega); simpa [frCs, hfe, Gif.cleanFr] using this
            have j0 : wk.cell? ⟨b9, off9 + k * 4, none⟩ = some (.int .i64 ms[k].f.wide) := by have := hFb.at k hy 0 (by omega); simpa [frCs] using this
            have j1 : wk.cell? ⟨b9, off9 + k * 4 + 1, none⟩ = some (.int .i64 ms[k].f.high) := by have := hFb.at k hy 1 (by omega); simpa [frCs] using this
            have j2 : wk.cell? ⟨b9, off9 + k * 4 + 2, none⟩ = some (.slice ms[k].A ms[k].n ms[k].c) := by have := hFb.at k hy 2 (by omega); simpa [frCs] using this
            have j3 : wk.cell? ⟨b9, off9 + k * 4 + 3, none⟩ = some (.int .i64 ms[k].f.delay) := by have := hFb.at k hy 3 (by omega); simpa [frCs] using this
            have px := hFa.px k hx
            have py := hFb.px k hy
            rw [hfe] at px
            have hnx : ms5[k].n = (Gif.clean ms[k].f.ps).length := px.pxLen
            have hny : ms[k].n = ms[k].f.ps.length := py.pxLen
            have hnn : ms5[k].n = ms[k].n := by rw [hnx, Gif.clean_length, hny]
            rw [hnn] at px k2
            replace px : Reads wk wk.heap.size 4 ms5[k].A ms[k].n (pxCells (Gif.clean ms[k].f.ps)) := px
            clear hfe hnx hny hnn
            generalize ms[k] = m at *
            generalize ms5[k] = m2 at *
            have pxd : Reads wk.drew wk.drew.heap.size 4 m2.A m.n (pxCells (Gif.clean m.f.ps)) := px
            have hq3 : ((m.f.delay : Int) != m.f.delay) = false := by simp
            go_wp2_with fail
            refine wp_region_held_drew (S := (fun w' => w'.cell? ⟨b0, off + k * 4, none⟩ = some (.int .i64 m.f.wide) ∧ w'.cell? ⟨b0, off + k * 4 + 1, none⟩ = some (.int .i64 m.f.high) ∧ w'.cell? ⟨b0, off + k * 4 + 2, none⟩ = some (.slice m2.A m.n m2.c) ∧ w'.cell? ⟨b0, off + k * 4 + 3, none⟩ = some (.int .i64 m.f.delay) ∧ w'.cell? ⟨b9, off9 + k * 4, none⟩ = some (.int .i64 m.f.wide) ∧ w'.cell? ⟨b9, off9 + k * 4 + 1, none⟩ = some (.int .i64 m.f.high) ∧ w'.cell? ⟨b9, off9 + k * 4 + 2, none⟩ = some (.slice m.A m.n m.c) ∧ w'.cell? ⟨b9, off9 + k * 4 + 3, none⟩ = some (.int .i64 m.f.delay) ∧ Below wk.heap.size wk w')) (by kernel_rfl) ?_ (fun hHeld => ?_)
            · exact ⟨k0, k1, k2, k3, j0, j1, j2, j3, Below.here wk⟩
            refine wpAnyH_take (i := 0) (v := ?_) rfl (by kernel_rfl) (by kernel_rfl) (by kernel_rfl) (fun _ _ _ h => h) (Or.inl ⟨by rfl, ?_⟩) (by assumption) ?_
            rotate_left
            · intro w hSw; (try dsimp only at hSw); go_simp <;> with_reducible rfl
            (try simp only [Act.put, List.getElem_toArray, List.getElem_cons_zero, List.setIfInBounds_toArray, List.set_cons_zero, List.set_cons_succ])
            refine wpAnyH_take (i := 1) (v := ?_) rfl (by kernel_rfl) (by kernel_rfl) (by kernel_rfl) (fun _ _ _ h => h) (Or.inl ⟨by rfl, ?_⟩) (by assumption) ?_
            rotate_left
            · intro w hSw; (try dsimp only at hSw); go_simp <;> with_reducible rfl
            (try simp only [Act.put, List.getElem_toArray, List.getElem_cons_zero, List.getElem_cons_succ, List.setIfInBounds_toArray, List.set_cons_zero, List.set_cons_succ])
            refine wpAnyH_take (i := 2) (v := ?_) rfl (by kernel_rfl) (by kernel_rfl) (by kernel_rfl) (fun _ _ _ h => h) (Or.inl ⟨by rfl, ?_⟩) (by assumption) ?_
            rotate_left
            · intro w hSw; (try dsimp only at hSw); go_simp <;> with_reducible rfl
            (try simp only [Act.put, List.getElem_toArray, List.getElem_cons_zero, List.getElem_cons_succ, List.setIfInBounds_toArray, List.set_cons_zero, List.set_cons_succ])
            refine wpAnyH_take (i := 3) (v := ?_) rfl (by kernel_rfl) (by kernel_rfl) (by kernel_rfl) (fun _ _ _ h => h) (Or.inl ⟨by rfl, ?_⟩) (by assumption) ?_
            rotate_left
            · intro w hSw; (try dsimp only at hSw); go_simp <;> with_reducible rfl
            (try simp only [Act.put, List.getElem_toArray, List.getElem_cons_zero, List.getElem_cons_succ, List.setIfInBounds_toArray, List.set_cons_zero, List.set_cons_succ])
            refine wpAnyH_take (i := 4) (v := ?_) rfl (by kernel_rfl) (by kernel_rfl) (by kernel_rfl) (fun _ _ _ h => h) (Or.inl ⟨by rfl, ?_⟩) (by assumption) ?_
            rotate_left
            · intro w hSw; (try dsimp only at hSw); go_simp <;> with_reducible rfl
            (try simp only [Act.put, List.getElem_toArray, List.getElem_cons_zero, List.getElem_cons_succ, List.setIfInBounds_toArray, List.set_cons_zero, List.set_cons_succ])
            refine wpAnyH_take (i := 5) (v := ?_) rfl (by kernel_rfl) (by kernel_rfl) (by kernel_rfl) (fun _ _ _ h => h) (Or.inl ⟨by rfl, ?_⟩) (by assumption) ?_
            rotate_left
            · intro w hSw; (try dsimp only at hSw); go_simp <;> with_reducible rfl
            (try simp only [Act.put, List.getElem_toArray, List.getElem_cons_zero, List.getElem_cons_succ, List.setIfInBounds_toArray, List.set_cons_zero, List.set_cons_succ])
            refine wpAnyH_take (i := 6) (v := ?_) rfl (by kernel_rfl) (by kernel_rfl) (by kernel_rfl) (fun _ _ _ h => h) (Or.inl ⟨by rfl, ?_⟩) (by assumption) ?_
            rotate_left
            · intro w hSw; (try dsimp only at hSw); go_simp <;> with_reducible rfl
            (try simp only [Act.put, List.getElem_toArray, List.getElem_cons_zero, List.getElem_cons_succ, List.setIfInBounds_toArray, List.set_cons_zero, List.set_cons_succ])
            refine wpAnyH_take (i := 7) (v := ?_) rfl (by kernel_rfl) (by kernel_rfl) (by kernel_rfl) (fun _ _ _ h => h) (Or.inl ⟨by rfl, ?_⟩) (by assumption) ?_
            rotate_left
            · intro w hSw; (try dsimp only at hSw); go_simp <;> with_reducible rfl
            (try simp only [Act.put, List.getElem_toArray, List.getElem_cons_zero, List.getElem_cons_succ, List.setIfInBounds_toArray, List.set_cons_zero, List.set_cons_succ])
            refine wpAnyH_take (i := 8) (v := ?_) rfl (by kernel_rfl) (by kernel_rfl) (by kernel_rfl) (fun _ _ _ h => h) (Or.inl ⟨by rfl, ?_⟩) (by assumption) ?_
            rotate_left
            · intro w hSw; (try dsimp only at hSw); go_simp <;> with_reducible rfl
            (try simp only [Act.put, List.getElem_toArray, List.getElem_cons_zero, List.getElem_cons_succ, List.setIfInBounds_toArray, List.set_cons_zero, List.set_cons_succ])
            refine wpAnyH_take (i := 9) (v := ?_) rfl (by kernel_rfl) (by kernel_rfl) (by kernel_rfl) (fun _ _ _ h => h) (Or.inl ⟨by rfl, ?_⟩) (by assumption) ?_
            rotate_left
            · intro w hSw; (try dsimp only at hSw); go_simp <;> with_reducible rfl
            (try simp only [Act.put, List.getElem_toArray, List.getElem_cons_zero, List.getElem_cons_succ, List.setIfInBounds_toArray, List.set_cons_zero, List.set_cons_succ])
            refine wpAnyH_take (i := 10) (v := ?_) rfl (by kernel_rfl) (by kernel_rfl) (by kernel_rfl) (fun _ _ _ h => h) (Or.inl ⟨by rfl, ?_⟩) (by assumption) ?_
            rotate_left
            · intro w hSw; (try dsimp only at hSw); go_simp <;> with_reducible rfl
            (try simp only [Act.put, List.getElem_toArray, List.getElem_cons_zero, List.getElem_cons_succ, List.setIfInBounds_toArray, List.set_cons_zero, List.set_cons_succ])
            refine wpAnyH_take (i := 11) (v := ?_) rfl (by kernel_rfl) (by kernel_rfl) (by kernel_rfl) (fun _ _ _ h => h) (Or.inl ⟨by rfl, ?_⟩) (by assumption) ?_
            rotate_left
            · intro w hSw; (try dsimp only at hSw); go_simp <;> with_reducible rfl
            (try simp only [Act.put, List.getElem_toArray, List.getElem_cons_zero, List.getElem_cons_succ, List.setIfInBounds_toArray, List.set_cons_zero, List.set_cons_succ])
            refine wpAnyH_take (i := 12) (v := ?_) rfl (by kernel_rfl) (by kernel_rfl) (by kernel_rfl) (fun _ _ _ h => h) (Or.inl ⟨by rfl, ?_⟩) (by assumption) ?_
            rotate_left
            · intro w hSw; (try dsimp only at hSw); go_simp <;> with_reducible rfl
            (try simp only [Act.put, List.getElem_toArray, List.getElem_cons_zero, List.getElem_cons_succ, List.setIfInBounds_toArray, List.set_cons_zero, List.set_cons_succ])
            refine wpAnyH_take (i := 13) (v := ?_) rfl (by kernel_rfl) (by kernel_rfl) (by kernel_rfl) (fun _ _ _ h => h) (Or.inl ⟨by rfl, ?_⟩) (by assumption) ?_
            rotate_left
            · intro w hSw; (try dsimp only at hSw); go_simp <;> with_reducible rfl
            (try simp only [Act.put, List.getElem_toArray, List.getElem_cons_zero, List.getElem_cons_succ, List.setIfInBounds_toArray, List.set_cons_zero, List.set_cons_succ])
            refine wpAnyH_take (i := 14) (v := ?_) rfl (by kernel_rfl) (by kernel_rfl) (by kernel_rfl) (fun _ _ _ h => h) (Or.inl ⟨by rfl, ?_⟩) (by assumption) ?_
            rotate_left
            · intro w hSw; (try dsimp only at hSw); go_simp <;> with_reducible rfl
            (try simp only [Act.put, List.getElem_toArray, List.getElem_cons_zero, List.getElem_cons_succ, List.setIfInBounds_toArray, List.set_cons_zero, List.set_cons_succ])
            refine wpAnyH_take (i := 15) (v := ?_) rfl (by kernel_rfl) (by kernel_rfl) (by kernel_rfl) (fun _ _ _ h => h) (Or.inl ⟨by rfl, ?_⟩) (by assumption) ?_
            rotate_left
            · intro w hSw; (try dsimp only at hSw); go_simp <;> with_reducible rfl
            (try simp only [Act.put, List.getElem_toArray, List.getElem_cons_zero, List.getElem_cons_succ, List.setIfInBounds_toArray, List.set_cons_zero, List.set_cons_succ])
            refine wpAnyH_take (i := 16) (v := ?_) rfl (by kernel_rfl) (by kernel_rfl) (by kernel_rfl) (fun _ _ _ h => h) (Or.inl ⟨by rfl, ?_⟩) (by assumption) ?_
            rotate_left
            · intro w hSw; (try dsimp only at hSw); go_simp <;> with_reducible rfl
            (try simp only [Act.put, List.getElem_toArray, List.getElem_cons_zero, List.getElem_cons_succ, List.setIfInBounds_toArray, List.set_cons_zero, List.set_cons_succ])
            refine wpAnyH_take (i := 17) (v := ?_) rfl (by kernel_rfl) (by kernel_rfl) (by kernel_rfl) (fun _ _ _ h => h) (Or.inl ⟨by rfl, ?_⟩) (by assumption) ?_
            rotate_left
            · intro w hSw; (try dsimp only at hSw); go_simp <;> with_reducible rfl
            (try simp only [Act.put, List.getElem_toArray, List.getElem_cons_zero, List.getElem_cons_succ, List.setIfInBounds_toArray, List.set_cons_zero, List.set_cons_succ])
            refine wpAnyH_take (i := 18) (v := ?_) rfl (by kernel_rfl) (by kernel_rfl) (by kernel_rfl) (fun _ _ _ h => h) (Or.inl ⟨by rfl, ?_⟩) (by assumption) ?_
            rotate_left
            · intro w hSw; (try dsimp only at hSw); go_simp <;> with_reducible rfl
            (try simp only [Act.put, List.getElem_toArray, List.getElem_cons_zero, List.getElem_cons_succ, List.setIfInBounds_toArray, List.set_cons_zero, List.set_cons_succ])
            refine wpAnyH_take (i := 19) (v := ?_) rfl (by kernel_rfl) (by kernel_rfl) (by kernel_rfl) (fun _ _ _ h => h) (Or.inl ⟨by rfl, ?_⟩) (by assumption) ?_
            rotate_left
            · intro w hSw; (try dsimp only at hSw); go_simp <;> with_reducible rfl
            (try simp only [Act.put, List.getElem_toArray, List.getElem_cons_zero, List.getElem_cons_succ, List.setIfInBounds_toArray, List.set_cons_zero, List.set_cons_succ])
            refine wpAnyH_take (i := 20) (v := ?_) rfl (by kernel_rfl) (by kernel_rfl) (by kernel_rfl) (fun _ _ _ h => h) (Or.inl ⟨by rfl, ?_⟩) (by assumption) ?_
            rotate_left
            · intro w hSw; (try dsimp only at hSw); go_simp <;> with_reducible rfl
            (try simp only [Act.put, List.getElem_toArray, List.getElem_cons_zero, List.getElem_cons_succ, List.setIfInBounds_toArray, List.set_cons_zero, List.set_cons_succ])
            refine wpAnyH_take (i := 21) (v := ?_) rfl (by kernel_rfl) (by kernel_rfl) (by kernel_rfl) (fun _ _ _ h => h) (Or.inl ⟨by rfl, ?_⟩) (by assumption) ?_
            rotate_left
            · intro w hSw; (try dsimp only at hSw); go_simp <;> with_reducible rfl
            (try simp only [Act.put, List.getElem_toArray, List.getElem_cons_zero, List.getElem_cons_succ, List.setIfInBounds_toArray, List.set_cons_zero, List.set_cons_succ])
            refine wpAnyH_ready (rs := [22]) (by kernel_rfl) (by simp) ?_
            refine AllReadyH.cons rfl (fun K hK => ?_) AllReadyH.nil
            go_simp
            (go_at_call 12; refine (clean_any m.f.wide m.f.high m.A m.n m.c m.f.ps wk.drew py (Nat.le_trans hmn (by decide))).mono ?_; rintro e wA ⟨A7, c7, rfl, ho7, hbA⟩)
            refine hK.out _ _ ?_ (fun hHeld => ?_)
            · obtain ⟨z0, z1, z2, z3, z4, z5, z6, z7, z8⟩ := hHeld; exact ⟨bkeep hbA z0, bkeep hbA z1, bkeep hbA z2, bkeep hbA z3, bkeep hbA z4, bkeep hbA z5, bkeep hbA z6, bkeep hbA z7, z8.trans (hbA.mono z8.size)⟩
            clear hK K
            (try simp only [Act.put, List.getElem_toArray, List.getElem_cons_zero, List.getElem_cons_succ, List.setIfInBounds_toArray, List.set_cons_zero, List.set_cons_succ])
            refine wpAnyH_ready (rs := [23]) (by kernel_rfl) (by simp) ?_
            refine AllReadyH.cons rfl (fun K hK => ?_) AllReadyH.nil
            go_simp
            (go_at_call 11; refine (samePicture_same m.f.wide m.f.high m2.A m.n m2.c A7 c7 (Gif.clean m.f.ps) wA ((pxd.below hbA (Nat.le_refl _)).more hbA.size) ho7.reads.2 (Nat.le_trans hmn (by decide))).mono ?_; rintro e wB ⟨rfl, hbB⟩)
            refine hK.out _ _ ?_ (fun hHeld => ?_)
            · obtain ⟨z0, z1, z2, z3, z4, z5, z6, z7, z8⟩ := hHeld; exact ⟨bkeep hbB z0, bkeep hbB z1, bkeep hbB z2, bkeep hbB z3, bkeep hbB z4, bkeep hbB z5, bkeep hbB z6, bkeep hbB z7, z8.trans (hbB.mono z8.size)⟩
            clear hK K
            (try simp only [Act.put, List.getElem_toArray, List.getElem_cons_zero, List.getElem_cons_succ, List.setIfInBounds_toArray, List.set_cons_zero, List.set_cons_succ])
            refine wpAnyH_take (i := 24) (v := ?_) rfl (by kernel_rfl) (by kernel_rfl) (by kernel_rfl) (fun _ _ _ h => h) (Or.inl ⟨by rfl, ?_⟩) (by assumption) ?_
            rotate_left
            · intro w hSw; (try dsimp only at hSw); go_simp <;> with_reducible rfl
            (try simp only [Act.put, List.getElem_toArray, List.getElem_cons_zero, List.getElem_cons_succ, List.setIfInBounds_toArray, List.set_cons_zero, List.set_cons_succ])
            refine wpAnyH_take (i := 25) (v := ?_) rfl (by kernel_rfl) (by kernel_rfl) (by kernel_rfl) (fun _ _ _ h => h) (Or.inl ⟨by rfl, ?_⟩) (by assumption) ?_
            rotate_left
            · intro w hSw; (try dsimp only at hSw); go_simp <;> with_reducible rfl
            (try simp only [Act.put, List.getElem_toArray, List.getElem_cons_zero, List.getElem_cons_succ, List.setIfInBounds_toArray, List.set_cons_zero, List.set_cons_succ])
            refine wpAnyH_done (by kernel_rfl) ?_ _
            obtain ⟨-, -, -, -, -, -, -, -, hbA⟩ := hHeld
            go_wp2_with fail
            go_roundw
            case rel => exact ⟨k + 1, hlt, by go_num, hb.trans (hbA.mono hzk)⟩
            case measure => simp [intOf]; omega
          · have hlt2 : (n : Int) ≤ k := by omega
            clear hlt
            go_wp2_with fail
            go_ret
            exact ⟨rfl, hw5.trans (hb.mono hw5.size)⟩
end Go.Proofs.YtncedhhgclofbaaDoor
