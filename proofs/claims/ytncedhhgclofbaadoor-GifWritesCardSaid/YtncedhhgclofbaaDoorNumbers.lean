/- gif.numbers: colors of a frame, and each pixel's: the walk. -/
import Derived.Test.YtncedhhgclofbaaDoorGifLaw
import Derived.Test.YtncedhhgclofbaaDoorUses
import Derived.Test.YtncedhhgclofbaaDoorUnlikeOf
namespace Go.Proofs.YtncedhhgclofbaaDoor
open Go Go.RowKit

/-- A map from colors to their numbers. -/
def colMap (u : List Px) : List (Px × Value) := (List.range u.length).map fun j => (u.getD j default, .int .i64 j)
theorem colMap_at (u : List Px) (j : Nat) (hj : j < u.length) : (colMap u)[j]? = some (u[j], .int .i64 j) := by
  simp [colMap, hj]
theorem colMap_length (u : List Px) : (colMap u).length = u.length := by simp [colMap]
theorem colMap_snoc (u : List Px) (x : Px) : colMap (u ++ [x]) = colMap u ++ [(x, .int .i64 u.length)] := by
  apply List.ext_getElem?
  intro j
  rcases Nat.lt_trichotomy j u.length with h | h | h
  · rw [colMap_at _ j (by simp; omega), List.getElem?_append_left (by rw [colMap_length]; exact h), colMap_at _ j h, List.getElem_append_left h]
  · subst h
    rw [colMap_at _ _ (by simp), List.getElem?_append_right (by rw [colMap_length]; omega)]
    simp [colMap_length]
  · rw [List.getElem?_eq_none (by rw [colMap_length]; simp; omega), List.getElem?_eq_none (by simp [colMap_length]; omega)]
theorem colMap_some {x : Px} {u : List Px} {j : Nat} {v : Value} (h : mfind x (colMap u) 0 = some (j, v)) : j < u.length ∧ Col.placeOf x u = j ∧ v = .int .i64 j := by
  obtain ⟨_, h2, h3⟩ := mfind_some h
  rw [Nat.sub_zero] at h2 h3
  have hj : j < u.length := by
    have := (List.getElem?_eq_some_iff.1 h2).1
    rwa [colMap_length] at this
  rw [colMap_at u j hj] at h2
  injection h2 with h2
  injection h2 with h4 h5
  refine ⟨hj, Col.placeOf_of x u j (by omega) (fun t ht => ?_) (fun _ => h4), h5.symm⟩
  exact h3 t _ _ ht (colMap_at u t (by omega))
theorem colMap_none {x : Px} {u : List Px} (h : mfind x (colMap u) 0 = none) : Col.placeOf x u = u.length := by
  have h2 := (mfind_none (M := colMap u) 0).1 h
  refine Col.placeOf_of x u _ (Nat.le_refl _) (fun t ht e => h2 ?_) (fun h => absurd h (by omega))
  have := colMap_at u t ht
  exact List.mem_map.2 ⟨_, List.mem_of_getElem? this, e⟩
theorem cl_a (p : Px) : (Gif.cl p).a = p.a := by
  unfold Gif.cl
  split
  · rename_i h; rw [h]; rfl
  · rfl
/-- The colors so far never grow fewer. -/
theorem unl_mono (l m : List Px) : (Col.unl l).1.length ≤ (Col.unl (l ++ m)).1.length := by
  have key : ∀ (m : List Px) (s : List Px × List Int), s.1.length ≤ (m.foldl Col.unlStep s).1.length := by
    intro m
    induction m with
    | nil => intro s; exact Nat.le_refl _
    | cons x m ih =>
      intro s
      rw [List.foldl_cons]
      refine Nat.le_trans ?_ (ih _)
      unfold Col.unlStep
      simp only
      split <;> simp
  unfold Col.unl
  rw [List.foldl_append]
  exact key m _
theorem clean_take1 (ps : List Px) (k : Nat) (hk : k < ps.length) : Gif.clean (ps.take (k + 1)) = Gif.clean (ps.take k) ++ [Gif.cl ps[k]] := by
  unfold Gif.clean
  rw [List.take_succ_eq_append_getElem hk, List.map_append]
  rfl
theorem unl_step (ps : List Px) (k : Nat) (hk : k < ps.length) : Col.unl (Gif.clean (ps.take (k + 1))) = Col.unlStep (Col.unl (Gif.clean (ps.take k))) (Gif.cl ps[k]) := by
  rw [clean_take1 ps k hk]
  unfold Col.unl
  rw [List.foldl_append]
  rfl
theorem unl_mem : ∀ (l : List Px) (y : Px), y ∈ (Col.unl l).1 → y ∈ l := by
  have key : ∀ (m : List Px) (s : List Px × List Int) (y : Px), y ∈ (m.foldl Col.unlStep s).1 → y ∈ s.1 ∨ y ∈ m := by
    intro m
    induction m with
    | nil => intro s y h; exact .inl h
    | cons x m ih =>
      intro s y h
      rw [List.foldl_cons] at h
      rcases ih _ _ h with h1 | h1
      · unfold Col.unlStep at h1
        simp only at h1
        split at h1
        · rcases List.mem_append.1 h1 with h2 | h2
          · exact .inl h2
          · rw [List.mem_singleton.1 h2]; exact .inr (by simp)
        · exact .inl h1
      · exact .inr (by simp [h1])
  intro l y h
  rcases key l _ y h with h1 | h1
  · cases h1
  · exact h1
theorem all_false {ps : List Px} {k : Nat} (hk : k < ps.length) (h : Gif.okA ps[k] = false) : Gif.colOK ps = false := by
  unfold Gif.colOK
  have : ps.all Gif.okA = false := by
    rw [← Bool.not_eq_true, List.all_eq_true]
    intro h2
    have := h2 ps[k] (List.getElem_mem hk)
    rw [h] at this
    cases this
  rw [this, Bool.false_and]
theorem many_false {ps : List Px} {k : Nat} (hk : k < ps.length) (h : (Col.unl (Gif.clean (ps.take k))).1.length = 256) (hn : Col.placeOf (Gif.cl ps[k]) (Col.unl (Gif.clean (ps.take k))).1 = 256) : Gif.colOK ps = false := by
  unfold Gif.colOK
  have h1 : (Col.unl (Gif.clean (ps.take (k + 1)))).1.length = 257 := by
    rw [unl_step ps k hk]
    unfold Col.unlStep
    simp only
    rw [if_pos (by rw [hn, h])]
    simp [h]
  have h2 : Gif.clean ps = Gif.clean (ps.take (k + 1)) ++ Gif.clean (ps.drop (k + 1)) := by
    unfold Gif.clean
    rw [← List.map_append, List.take_append_drop]
  have h3 := unl_mono (Gif.clean (ps.take (k + 1))) (Gif.clean (ps.drop (k + 1)))
  rw [← h2, h1] at h3
  have h4 : decide ((Col.unl (Gif.clean ps)).1.length ≤ 256) = false := by
    rw [decide_eq_false_iff_not]
    omega
  rw [h4, Bool.and_false]
/-- What numbers leaves. -/
def Numbered (w : World) (ps : List Px) (n : Nat) (e : Ending) (w' : World) : Prop :=
  Below w.heap.size w w' ∧
  if Gif.colOK ps = true then ∃ A1 c1 A2 c2, e = .returned (.tuple #[.slice A1 (Col.unl (Gif.clean ps)).1.length c1, .slice A2 n c2, .int .i64 (Gif.clr (Col.unl (Gif.clean ps)).1), .bool true]) ∧
      Own w' w.heap.size 4 (.slice A1 (Col.unl (Gif.clean ps)).1.length c1) (Col.unl (Gif.clean ps)).1.length (pxCells (Col.unl (Gif.clean ps)).1) ∧ Own w' w.heap.size 1 (.slice A2 n c2) n (bytes (Gif.nums (Col.unl (Gif.clean ps)).2))
  else e = .returned (.tuple #[.slice none 0 0, .slice none 0 0, .int .i64 0, .bool false])
/-- What the loop of numbers keeps. -/
structure NuR (w : World) (ps : List Px) (mb : Nat) (vc vl : Value) (k : Nat) (u : List Px) (ns : List Int) (wr : World) : Prop where
  un : Col.unl (Gif.clean (ps.take k)) = (u, ns)
  all : (ps.take k).all Gif.okA = true
  most : u.length ≤ 256
  oc : Own wr (w.heap.size + 2) 4 vc u.length (pxCells u)
  ol : Own wr (w.heap.size + 2) 1 vl k (bytes (Gif.nums ns))
  mp : MapAt wr (w.heap.size + 1) pxV (colMap u)
  ap : ∀ g, vc.ownBlock = some g → vl.ownBlock ≠ some g
  bel : Below w.heap.size w wr
  big : w.heap.size + 2 ≤ wr.heap.size
set_option maxRecDepth 100000 in
set_option maxHeartbeats 4000000 in
theorem numbers_any (W H : Int) (A : Option Addr) (n c : Nat) (ps : List Px) (w : World) (hp : Reads w w.heap.size 4 A n (pxCells ps)) (hn : n ≤ 65536) :
    Calls Tryd.prog 40 #[.agg #[.int .i64 W, .int .i64 H, .slice A n c]] w fun e w' => Numbered w ps n e w' := by
  obtain rfl := hp.pxLen
  obtain ⟨i0, hi, hz0, hz1, hz2⟩ := info_parts byteInfo
  obtain ⟨iP, hiP, hzP0, hzP1, hzP2⟩ := info_parts pxInfo
  have hmm := @run_makeMap Tryd.prog
  have hzz : ∀ W : World, (zeroValue 3).run Tryd.prog W = .ok (.int .i64 0) W := fun _ => by kernel_rfl
  go_enter Tryd.func40, Tryd.ntmps40
  go_wp2_with fail
  go_loopw [2, 3, 4, 15] (fun vc vl cr i wr => ∃ (k : Nat) (u : List Px) (ns : List Int), k ≤ ps.length ∧ i = .int .i64 k ∧ cr = .int .i64 (Gif.clr u) ∧ NuR w ps (w.heap.size + 1) vc vl k u ns wr) (fun _ _ _ i _ => ps.length - (intOf i).toNat)
  case atStart =>
    refine ⟨0, [], [], Nat.zero_le _, rfl, rfl, ⟨rfl, rfl, by simp, Own.nil _ _ _, Own.nil _ _ _, ?_, fun g hg => by simp [Value.ownBlock] at hg, by go_grown, by simp⟩⟩
    have := MapAt.new (w.alloc (.cells #[.int .i64 W, .int .i64 H, .slice A ps.length c] 35)) pxV
    rw [World.size_alloc] at this
    exact this
  case round =>
    obtain ⟨k, u, ns, hk, rfl, rfl, ⟨hun, hall, hmost, hoc, hol, hmp, hap, hbel, hbig⟩⟩ := hrel
    obtain ⟨wo, rfl⟩ : ∃ wo : World, wo = wr := ⟨_, rfl⟩
    have hml := hmp.lt
    obtain ⟨Ac, cc, rfl, hcc, _⟩ := hoc.form
    obtain ⟨Al, cl, rfl, hcl, _⟩ := hol.form
    have hbc : ∀ g, (Value.slice Ac u.length cc).ownBlock = some g → w.heap.size + 2 ≤ g ∧ g < wo.heap.size := fun g hg => hoc.lt g hg
    have hbl : ∀ g, (Value.slice Al k cl).ownBlock = some g → w.heap.size + 2 ≤ g ∧ g < wo.heap.size := fun g hg => hol.lt g hg
    by_cases hlt : k < ps.length
    · obtain ⟨b, off, rfl, hbb⟩ := hp.addr (by omega)
      obtain ⟨p0, p1, p2, p3⟩ := (hp.below hbel (Nat.le_refl _)).px k hlt
      have hst := unl_step ps k hlt
      rw [hun] at hst
      have hal : (ps.take (k + 1)).all Gif.okA = Gif.okA ps[k] := by
        rw [List.take_succ_eq_append_getElem hlt, List.all_append, hall]
        simp
      have hold : ∀ y ∈ u, Gif.okA y = true := fun y hy => by
        have h1 := unl_mem (Gif.clean (ps.take k)) y (by rw [hun]; exact hy)
        obtain ⟨z, hz, e⟩ := List.mem_map.1 h1
        have h2 := List.all_eq_true.1 hall z hz
        subst e
        unfold Gif.okA at h2 ⊢
        rw [cl_a]
        exact h2
      have hbad := fun h => all_false hlt h
      have hmany := fun h1 h2 => many_false hlt h1 h2
      rw [hun] at hmany
      have HST := Lib.hid hst
      have HAL := Lib.hid hal
      have HOLD := Lib.hid hold
      have HBAD := Lib.hid hbad
      have HMANY := Lib.hid hmany
      have HUN := Lib.hid hun
      clear hst hal hold hbad hmany hun hall
      obtain ⟨x, hx⟩ : ∃ x, x = ps[k] := ⟨_, rfl⟩
      rw [← hx] at p0 p1 p2 p3
      have HX := Lib.hid hx
      clear hx
      by_cases h0 : x.a = 0
      · have hq : ((x.a.toNat : Int) == 0) = true := by rw [h0]; rfl
        have hcl2 : Gif.cl ps[k] = Px.zero := by rw [← HX.out]; unfold Gif.cl; rw [if_pos h0]
        have hgood : Gif.okA ps[k] = true := by rw [← HX.out]; unfold Gif.okA; rw [h0]; rfl
        have HG := Lib.hid hgood
        clear hgood
        have HC := Lib.hid hcl2
        clear hcl2
        cases hf : mfind Px.zero (colMap u) 0 with
        | some q =>
          obtain ⟨j, v⟩ := q
          obtain ⟨hj, hpl, rfl⟩ := colMap_some hf
          have HF := Lib.hid hf
          have hstep : Col.unl (Gif.clean (ps.take (k + 1))) = (u, ns ++ [(j : Int)]) := by
            rw [HST.out, HC.out]
            unfold Col.unlStep
            simp only
            rw [hpl, if_neg (by omega)]
          have HS := Lib.hid hstep
          have HNB : bytes (Gif.nums ns) ++ [.int .u8 (j : Int)] = bytes (Gif.nums (ns ++ [(j : Int)])) := by
            unfold Gif.nums
            rw [List.map_append, bytes_append]
            congr 1
            simp [bytes]
            omega
          clear hf hpl hstep
          go_wp2_with (first | (refine wpList_lookup_at rfl (.tmp 24) (.tmp 25) 108 true rfl pxKey Tryd.underlying108 (hzz _) rfl (hmp.alloc _) Px.zero rfl (.tuple #[.int .i64 j, .bool true]) (by rw [HF.out]; rfl) ?_) | (at_builtin; refine wpList_append_S rfl (.tmp 56) (.tmp 59) 56 56 rfl (w.heap.size + 2) 5 i0 (.int .u8 0) 1 1 Tryd.underlying56 hi hz0 hz1 hz2 rfl (by decide) (.slice Al k cl) k (bytes (Gif.nums ns)) rfl ((hol.alloc _).alloc _) (bytes_one _) 1 [.int .u8 (j : Int)] (Src.made Tryd.underlying56 (by first | rfl | simp) rfl (by intro v hv; cases List.mem_singleton.1 hv; rfl)) (k + 1) rfl (bytes (Gif.nums (ns ++ [((j : Int) : Int)]))) HNB (by unfold maxLen; omega) (by omega) (by first | omega | (simp; done) | (simp; omega)) ?_; intro A9 c9 w9 ho9 hg9 ha9))
          go_roundw
          case rel =>
            have nb : ∀ g, (Value.slice Al k cl).ownBlock = some g → g ≠ w.heap.size + 1 := fun g hg e => by have := (hbl g hg).1; omega
            refine ⟨k + 1, u, ns ++ [(j : Int)], by omega, by go_num, rfl, ⟨HS.out, by rw [HAL.out, HG.out], hmost, ?_, ho9, ((hmp.alloc _).alloc _).grown hg9 (fun e => nb _ e.symm rfl), fun g h1 h2 => ?_, ?_, ?_⟩⟩
            · refine ((hoc.alloc _).alloc _).kept hg9 ?_
              cases e : (Value.slice Ac u.length cc).ownBlock with
              | none => exact .inl rfl
              | some g => exact .inr fun e2 => hap g e e2.symm
            · rcases ha9 with e | e
              · exact hap g h1 (e ▸ h2)
              · rw [e] at h2
                injection h2 with h2
                have := (hbc g h1).2
                simp at h2
                omega
            · exact (((hbel.alloc (by omega) _).alloc (by simp; omega) _).grown hg9 (by simp; omega) (fun g hg => by have := (hbl g hg).1; omega))
            · have := hg9.size
              simp at this
              omega
          case measure => simp [intOf]; omega
        | none =>
          have hpl := colMap_none hf
          have HF := Lib.hid hf
          clear hf
          by_cases hful : u.length = 256
          · have hqf : ((u.length : Int) == 256) = true := by rw [beq_iff_eq]; omega
            have HBD := Lib.hid (HMANY.out hful (by rw [HC.out, hpl]; exact hful))
            clear hpl hful
            go_wp2_with (first | (refine wpList_lookup_at rfl (.tmp 24) (.tmp 25) 108 true rfl pxKey Tryd.underlying108 (hzz _) rfl (hmp.alloc _) Px.zero rfl (.tuple #[.int .i64 0, .bool false]) (by rw [HF.out]; rfl) ?_))
            refine bodyPost_ret (v := .tuple #[.slice none 0 0, .slice none 0 0, .int .i64 0, .bool false]) (by simp [results, Tryd.results40, go_sem]) rfl ⟨by first | exact hbel.alloc (by omega) _ | exact (hbel.alloc (by omega) _).setCell (by simp; omega) _, ?_⟩
            rw [if_neg (by rw [HBD.out]; decide)]
          · have hm2 : u.length < 256 := by omega
            have hqf : ((u.length : Int) == 256) = false := by rw [beq_eq_false_iff_ne]; omega
            obtain ⟨u2, hu2⟩ : ∃ u2, u2 = u ++ [Px.zero] := ⟨_, rfl⟩
            have hstep : Col.unl (Gif.clean (ps.take (k + 1))) = (u2, ns ++ [(u.length : Int)]) := by
              rw [HST.out, HC.out, hu2]
              unfold Col.unlStep
              simp only
              rw [hpl, if_pos rfl]
            have hclr : Gif.clr u2 = (u.length : Int) := by rw [hu2, Gif.clr_snoc, if_pos (show Px.zero.a = 0 from rfl)]
            have HS := Lib.hid hstep
            have HCL := Lib.hid hclr
            have HM2 := Lib.hid (show colMap u2 = mput Px.zero (.int .i64 u.length) (colMap u) by rw [mput_none _ HF.out, hu2, colMap_snoc])
            have HLN := Lib.hid (show u2.length = u.length + 1 by rw [hu2]; simp)
            have HPC : pxCells u ++ pxCs Px.zero = pxCells u2 := by rw [hu2, pxCells_append]; simp [pxCells]
            have HNB : bytes (Gif.nums ns) ++ [.int .u8 (u.length : Int)] = bytes (Gif.nums (ns ++ [(u.length : Int)])) := by
              unfold Gif.nums
              rw [List.map_append, bytes_append]
              congr 1
              simp [bytes]
              omega
            clear hpl hstep hclr hu2 hful
            go_wp2_with (first | (refine wpList_lookup_at rfl (.tmp 24) (.tmp 25) 108 true rfl pxKey Tryd.underlying108 (hzz _) rfl (hmp.alloc _) Px.zero rfl (.tuple #[.int .i64 0, .bool false]) (by rw [HF.out]; rfl) ?_) | (at_mapUpdate; refine wpList_mapUpdate_at rfl (.tmp 49) (.tmp 50) (.tmp 51) 108 rfl pxKey Tryd.underlying108 rfl (hmp.alloc _) Px.zero rfl (.int .i64 u.length) rfl ?_; intro w3 hmap3 hg3; have b0 : w3.cell? ⟨wo.heap.size, 0, none⟩ = some (.int .u8 Px.zero.r.toNat) := hg3.cell (cell_made _ _ _ rfl rfl) (by simp; omega); have b1 : w3.cell? ⟨wo.heap.size, 1, none⟩ = some (.int .u8 Px.zero.g.toNat) := hg3.cell (cell_made _ _ _ rfl rfl) (by simp; omega); have b2 : w3.cell? ⟨wo.heap.size, 2, none⟩ = some (.int .u8 Px.zero.b.toNat) := hg3.cell (cell_made _ _ _ rfl rfl) (by simp; omega); have b3 : w3.cell? ⟨wo.heap.size, 3, none⟩ = some (.int .u8 Px.zero.a.toNat) := hg3.cell (cell_made _ _ _ rfl rfl) (by simp; omega); have hoc3 : Own w3 (w.heap.size + 2) 4 (.slice Ac u.length cc) u.length (pxCells u) := (hoc.alloc _).kept hg3 (.inr (fun e => by have h8 := (hbc _ e).1; omega)); have hol3 : Own w3 (w.heap.size + 2) 1 (.slice Al k cl) k (bytes (Gif.nums ns)) := (hol.alloc _).kept hg3 (.inr (fun e => by have h8 := (hbl _ e).1; omega)); have hz3 : wo.heap.size + 1 ≤ w3.heap.size := by have hs3 := hg3.size; simpa using hs3) | (at_builtin; refine wpList_append_S rfl (.tmp 52) (.tmp 54) 33 33 rfl (w.heap.size + 2) 52 iP _ 4 4 Tryd.underlying33 hiP hzP0 hzP1 hzP2 rfl (by decide) (.slice Ac u.length cc) u.length (pxCells u) rfl (hoc3.alloc _) (pxCells_one _) 1 (pxCs Px.zero) (Src.made Tryd.underlying33 (by first | rfl | simp) rfl (by intro v hv; exact pxCells_one [Px.zero] v (by simpa [pxCells] using hv))) (u.length + 1) rfl (pxCells u2) HPC (by unfold maxLen; omega) (by omega) (by first | omega | (simp; done) | (simp; omega)) ?_; intro A4 c4 w4 ho4 hg4 ha4; have hol4 : Own w4 (w.heap.size + 2) 1 (.slice Al k cl) k (bytes (Gif.nums ns)) := Own.kept2 (hol3.alloc _) hg4 hap; have hz4 : w3.heap.size + 1 ≤ w4.heap.size := by have hs4 := hg4.size; simpa using hs4) | (at_builtin; refine wpList_append_S rfl (.tmp 56) (.tmp 59) 56 56 rfl (w.heap.size + 2) 5 i0 (.int .u8 0) 1 1 Tryd.underlying56 hi hz0 hz1 hz2 rfl (by decide) (.slice Al k cl) k (bytes (Gif.nums ns)) rfl (hol4.alloc _) (bytes_one _) 1 [.int .u8 (u.length : Int)] (Src.made Tryd.underlying56 (by first | rfl | simp) rfl (by intro v hv; cases List.mem_singleton.1 hv; rfl)) (k + 1) rfl (bytes (Gif.nums (ns ++ [((u.length : Int) : Int)]))) HNB (by unfold maxLen; omega) (by omega) (by first | omega | (simp; done) | (simp; omega)) ?_; intro A9 c9 w9 ho9 hg9 ha9))
            have hs9 := hg9.size
            simp at hs9
            go_roundw
            case rel =>
              have nb : ∀ g, (Value.slice Al k cl).ownBlock = some g → g ≠ w.heap.size + 1 := fun g hg e => by have := (hbl g hg).1; omega
              have nc : ∀ g, (Value.slice Ac u.length cc).ownBlock = some g → g ≠ w.heap.size + 1 := fun g hg e => by have := (hbc g hg).1; omega
              have hbA4 : ∀ g, (Value.slice A4 (u.length + 1) c4).ownBlock = some g → (Value.slice Al k cl).ownBlock ≠ some g := fun g h1 h2 => by
                rcases ha4 with e | e
                · exact hap g (e ▸ h1) h2
                · rw [e] at h1
                  injection h1 with h1
                  have := (hbl g h2).2
                  simp at h1
                  omega
              refine ⟨k + 1, u2, ns ++ [(u.length : Int)], by omega, by go_num, by rw [HCL.out], ⟨HS.out, by rw [HAL.out, HG.out], by rw [HLN.out]; omega, ?_, ho9, ?_, fun g h1 h2 => ?_, ?_, by omega⟩⟩
              · rw [HLN.out]
                refine (ho4.alloc _).kept hg9 ?_
                cases e : (Value.slice A4 (u.length + 1) c4).ownBlock with
                | none => exact .inl rfl
                | some g => exact .inr fun e2 => hbA4 g e e2.symm
              · rw [HM2.out]
                exact ((((hmap3.alloc _).grown hg4 (fun e => nc _ e.symm rfl)).alloc _).grown hg9 (fun e => nb _ e.symm rfl))
              · rcases ha9 with e | e
                · exact hbA4 g h1 (e ▸ h2)
                · rw [e] at h2
                  injection h2 with h2
                  have := (ho4.lt g h1).2
                  simp at h2
                  omega
              · refine ((((((hbel.alloc (by omega) _).grown hg3 (by simp; omega) (fun g hg => by injection hg with hg; omega)).alloc (by omega) _).grown hg4 (by simp; omega) (fun g hg => by have := (hbc g hg).1; omega)).alloc (by omega) _).grown hg9 (by simp; omega) (fun g hg => by have := (hbl g hg).1; omega))
            case measure => simp [intOf]; omega
      · have hq : ((x.a.toNat : Int) == 0) = false := by
          rw [beq_eq_false_iff_ne]
          intro e
          exact h0 (UInt8.toNat_inj.1 (by simpa using e))
        have hq1 : ((x.a.toNat : Int) != 0) = true := by
          rw [bne_iff_ne]
          intro e
          exact h0 (UInt8.toNat_inj.1 (by simpa using e))
        have hcl2 : Gif.cl ps[k] = x := by rw [← HX.out]; unfold Gif.cl; rw [if_neg h0]
        have HC := Lib.hid hcl2
        clear hcl2
        cases hf : mfind x (colMap u) 0 with
        | some q =>
          obtain ⟨j, v⟩ := q
          obtain ⟨hj, hpl, rfl⟩ := colMap_some hf
          have HF := Lib.hid hf
          have hstep : Col.unl (Gif.clean (ps.take (k + 1))) = (u, ns ++ [(j : Int)]) := by
            rw [HST.out, HC.out]
            unfold Col.unlStep
            simp only
            rw [hpl, if_neg (by omega)]
          have HS := Lib.hid hstep
          have hgood : Gif.okA ps[k] = true := by
            have h1 := HOLD.out u[j] (List.getElem_mem hj)
            have h2 := Col.placeOf_at x u (by rw [hpl]; exact hj)
            simp only [hpl] at h2
            rw [h2] at h1
            rw [← HX.out]
            exact h1
          have HG := Lib.hid hgood
          clear hgood
          have HNB : bytes (Gif.nums ns) ++ [.int .u8 (j : Int)] = bytes (Gif.nums (ns ++ [(j : Int)])) := by
            unfold Gif.nums
            rw [List.map_append, bytes_append]
            congr 1
            simp [bytes]
            omega
          clear hf hpl hstep
          go_wp2_with (first | (refine wpList_lookup_at rfl (.tmp 24) (.tmp 25) 108 true rfl pxKey Tryd.underlying108 (hzz _) rfl (hmp.alloc _) x rfl (.tuple #[.int .i64 j, .bool true]) (by rw [HF.out]; rfl) ?_) | (at_builtin; refine wpList_append_S rfl (.tmp 56) (.tmp 59) 56 56 rfl (w.heap.size + 2) 5 i0 (.int .u8 0) 1 1 Tryd.underlying56 hi hz0 hz1 hz2 rfl (by decide) (.slice Al k cl) k (bytes (Gif.nums ns)) rfl ((hol.alloc _).alloc _) (bytes_one _) 1 [.int .u8 (j : Int)] (Src.made Tryd.underlying56 (by first | rfl | simp) rfl (by intro v hv; cases List.mem_singleton.1 hv; rfl)) (k + 1) rfl (bytes (Gif.nums (ns ++ [((j : Int) : Int)]))) HNB (by unfold maxLen; omega) (by omega) (by first | omega | (simp; done) | (simp; omega)) ?_; intro A9 c9 w9 ho9 hg9 ha9))
          go_roundw
          case rel =>
            have nb : ∀ g, (Value.slice Al k cl).ownBlock = some g → g ≠ w.heap.size + 1 := fun g hg e => by have := (hbl g hg).1; omega
            refine ⟨k + 1, u, ns ++ [(j : Int)], by omega, by go_num, rfl, ⟨HS.out, by rw [HAL.out, HG.out], hmost, ?_, ho9, ((hmp.alloc _).alloc _).grown hg9 (fun e => nb _ e.symm rfl), fun g h1 h2 => ?_, ?_, ?_⟩⟩
            · refine ((hoc.alloc _).alloc _).kept hg9 ?_
              cases e : (Value.slice Ac u.length cc).ownBlock with
              | none => exact .inl rfl
              | some g => exact .inr fun e2 => hap g e e2.symm
            · rcases ha9 with e | e
              · exact hap g h1 (e ▸ h2)
              · rw [e] at h2
                injection h2 with h2
                have := (hbc g h1).2
                simp at h2
                omega
            · exact (((hbel.alloc (by omega) _).alloc (by simp; omega) _).grown hg9 (by simp; omega) (fun g hg => by have := (hbl g hg).1; omega))
            · have := hg9.size
              simp at this
              omega
          case measure => simp [intOf]; omega
        | none =>
          have hpl := colMap_none hf
          have HF := Lib.hid hf
          clear hf
          by_cases h255 : x.a = 255
          · have hq2 : ((x.a.toNat : Int) != 255) = false := by rw [h255]; rfl
            have hgood : Gif.okA ps[k] = true := by rw [← HX.out]; unfold Gif.okA; rw [h255]; rfl
            have HG := Lib.hid hgood
            clear hgood h255
            by_cases hful : u.length = 256
            · have hqf : ((u.length : Int) == 256) = true := by rw [beq_iff_eq]; omega
              have HBD := Lib.hid (HMANY.out hful (by rw [HC.out, hpl]; exact hful))
              clear hpl hful
              go_wp2_with (first | (refine wpList_lookup_at rfl (.tmp 24) (.tmp 25) 108 true rfl pxKey Tryd.underlying108 (hzz _) rfl (hmp.alloc _) x rfl (.tuple #[.int .i64 0, .bool false]) (by rw [HF.out]; rfl) ?_))
              refine bodyPost_ret (v := .tuple #[.slice none 0 0, .slice none 0 0, .int .i64 0, .bool false]) (by simp [results, Tryd.results40, go_sem]) rfl ⟨by first | exact hbel.alloc (by omega) _ | exact (hbel.alloc (by omega) _).setCell (by simp; omega) _, ?_⟩
              rw [if_neg (by rw [HBD.out]; decide)]
            · have hm2 : u.length < 256 := by omega
              have hqf : ((u.length : Int) == 256) = false := by rw [beq_eq_false_iff_ne]; omega
              obtain ⟨u2, hu2⟩ : ∃ u2, u2 = u ++ [x] := ⟨_, rfl⟩
              have hstep : Col.unl (Gif.clean (ps.take (k + 1))) = (u2, ns ++ [(u.length : Int)]) := by
                rw [HST.out, HC.out, hu2]
                unfold Col.unlStep
                simp only
                rw [hpl, if_pos rfl]
              have hclr : Gif.clr u2 = Gif.clr u := by rw [hu2, Gif.clr_snoc, if_neg h0]
              have HS := Lib.hid hstep
              have HCL := Lib.hid hclr
              have HM2 := Lib.hid (show colMap u2 = mput x (.int .i64 u.length) (colMap u) by rw [mput_none _ HF.out, hu2, colMap_snoc])
              have HLN := Lib.hid (show u2.length = u.length + 1 by rw [hu2]; simp)
              have HPC : pxCells u ++ pxCs x = pxCells u2 := by rw [hu2, pxCells_append]; simp [pxCells]
              have HNB : bytes (Gif.nums ns) ++ [.int .u8 (u.length : Int)] = bytes (Gif.nums (ns ++ [(u.length : Int)])) := by
                unfold Gif.nums
                rw [List.map_append, bytes_append]
                congr 1
                simp [bytes]
                omega
              clear hpl hstep hclr hu2 hful h0
              go_wp2_with (first | (refine wpList_lookup_at rfl (.tmp 24) (.tmp 25) 108 true rfl pxKey Tryd.underlying108 (hzz _) rfl (hmp.alloc _) x rfl (.tuple #[.int .i64 0, .bool false]) (by rw [HF.out]; rfl) ?_) | (at_mapUpdate; refine wpList_mapUpdate_at rfl (.tmp 49) (.tmp 50) (.tmp 51) 108 rfl pxKey Tryd.underlying108 rfl (hmp.alloc _) x rfl (.int .i64 u.length) rfl ?_; intro w3 hmap3 hg3; have b0 : w3.cell? ⟨wo.heap.size, 0, none⟩ = some (.int .u8 x.r.toNat) := hg3.cell (cell_made _ _ _ rfl rfl) (by simp; omega); have b1 : w3.cell? ⟨wo.heap.size, 1, none⟩ = some (.int .u8 x.g.toNat) := hg3.cell (cell_made _ _ _ rfl rfl) (by simp; omega); have b2 : w3.cell? ⟨wo.heap.size, 2, none⟩ = some (.int .u8 x.b.toNat) := hg3.cell (cell_made _ _ _ rfl rfl) (by simp; omega); have b3 : w3.cell? ⟨wo.heap.size, 3, none⟩ = some (.int .u8 x.a.toNat) := hg3.cell (cell_made _ _ _ rfl rfl) (by simp; omega); have hoc3 : Own w3 (w.heap.size + 2) 4 (.slice Ac u.length cc) u.length (pxCells u) := (hoc.alloc _).kept hg3 (.inr (fun e => by have h8 := (hbc _ e).1; omega)); have hol3 : Own w3 (w.heap.size + 2) 1 (.slice Al k cl) k (bytes (Gif.nums ns)) := (hol.alloc _).kept hg3 (.inr (fun e => by have h8 := (hbl _ e).1; omega)); have hz3 : wo.heap.size + 1 ≤ w3.heap.size := by have hs3 := hg3.size; simpa using hs3) | (at_builtin; refine wpList_append_S rfl (.tmp 52) (.tmp 54) 33 33 rfl (w.heap.size + 2) 52 iP _ 4 4 Tryd.underlying33 hiP hzP0 hzP1 hzP2 rfl (by decide) (.slice Ac u.length cc) u.length (pxCells u) rfl (hoc3.alloc _) (pxCells_one _) 1 (pxCs x) (Src.made Tryd.underlying33 (by first | rfl | simp) rfl (by intro v hv; exact pxCells_one [x] v (by simpa [pxCells] using hv))) (u.length + 1) rfl (pxCells u2) HPC (by unfold maxLen; omega) (by omega) (by first | omega | (simp; done) | (simp; omega)) ?_; intro A4 c4 w4 ho4 hg4 ha4; have hol4 : Own w4 (w.heap.size + 2) 1 (.slice Al k cl) k (bytes (Gif.nums ns)) := Own.kept2 (hol3.alloc _) hg4 hap; have hz4 : w3.heap.size + 1 ≤ w4.heap.size := by have hs4 := hg4.size; simpa using hs4) | (at_builtin; refine wpList_append_S rfl (.tmp 56) (.tmp 59) 56 56 rfl (w.heap.size + 2) 5 i0 (.int .u8 0) 1 1 Tryd.underlying56 hi hz0 hz1 hz2 rfl (by decide) (.slice Al k cl) k (bytes (Gif.nums ns)) rfl (hol4.alloc _) (bytes_one _) 1 [.int .u8 (u.length : Int)] (Src.made Tryd.underlying56 (by first | rfl | simp) rfl (by intro v hv; cases List.mem_singleton.1 hv; rfl)) (k + 1) rfl (bytes (Gif.nums (ns ++ [((u.length : Int) : Int)]))) HNB (by unfold maxLen; omega) (by omega) (by first | omega | (simp; done) | (simp; omega)) ?_; intro A9 c9 w9 ho9 hg9 ha9))
              have hs9 := hg9.size
              simp at hs9
              go_roundw
              case rel =>
                have nb : ∀ g, (Value.slice Al k cl).ownBlock = some g → g ≠ w.heap.size + 1 := fun g hg e => by have := (hbl g hg).1; omega
                have nc : ∀ g, (Value.slice Ac u.length cc).ownBlock = some g → g ≠ w.heap.size + 1 := fun g hg e => by have := (hbc g hg).1; omega
                have hbA4 : ∀ g, (Value.slice A4 (u.length + 1) c4).ownBlock = some g → (Value.slice Al k cl).ownBlock ≠ some g := fun g h1 h2 => by
                  rcases ha4 with e | e
                  · exact hap g (e ▸ h1) h2
                  · rw [e] at h1
                    injection h1 with h1
                    have := (hbl g h2).2
                    simp at h1
                    omega
                refine ⟨k + 1, u2, ns ++ [(u.length : Int)], by omega, by go_num, by rw [HCL.out], ⟨HS.out, by rw [HAL.out, HG.out], by rw [HLN.out]; omega, ?_, ho9, ?_, fun g h1 h2 => ?_, ?_, by omega⟩⟩
                · rw [HLN.out]
                  refine (ho4.alloc _).kept hg9 ?_
                  cases e : (Value.slice A4 (u.length + 1) c4).ownBlock with
                  | none => exact .inl rfl
                  | some g => exact .inr fun e2 => hbA4 g e e2.symm
                · rw [HM2.out]
                  exact ((((hmap3.alloc _).grown hg4 (fun e => nc _ e.symm rfl)).alloc _).grown hg9 (fun e => nb _ e.symm rfl))
                · rcases ha9 with e | e
                  · exact hbA4 g h1 (e ▸ h2)
                  · rw [e] at h2
                    injection h2 with h2
                    have := (ho4.lt g h1).2
                    simp at h2
                    omega
                · refine ((((((hbel.alloc (by omega) _).grown hg3 (by simp; omega) (fun g hg => by injection hg with hg; omega)).alloc (by omega) _).grown hg4 (by simp; omega) (fun g hg => by have := (hbc g hg).1; omega)).alloc (by omega) _).grown hg9 (by simp; omega) (fun g hg => by have := (hbl g hg).1; omega))
              case measure => simp [intOf]; omega
          · have hq2 : ((x.a.toNat : Int) != 255) = true := by
              rw [bne_iff_ne]
              intro e
              exact h255 (UInt8.toNat_inj.1 (by
                have : (255 : UInt8).toNat = 255 := rfl
                omega))
            have HBD := Lib.hid (HBAD.out (by rw [← HX.out]; unfold Gif.okA; simp [h0, h255]))
            clear hpl h255 h0
            go_wp2_with (first | (refine wpList_lookup_at rfl (.tmp 24) (.tmp 25) 108 true rfl pxKey Tryd.underlying108 (hzz _) rfl (hmp.alloc _) x rfl (.tuple #[.int .i64 0, .bool false]) (by rw [HF.out]; rfl) ?_))
            refine bodyPost_ret (v := .tuple #[.slice none 0 0, .slice none 0 0, .int .i64 0, .bool false]) (by simp [results, Tryd.results40, go_sem]) rfl ⟨by first | exact hbel.alloc (by omega) _ | exact (hbel.alloc (by omega) _).setCell (by simp; omega) _, ?_⟩
            rw [if_neg (by rw [HBD.out]; decide)]
    · have e : k = ps.length := by omega
      subst e
      rw [List.take_length] at hun hall
      have hfin : Gif.colOK ps = true := by
        unfold Gif.colOK
        rw [hall, hun, Bool.true_and, decide_eq_true_eq]
        exact hmost
      have HFIN := Lib.hid hfin
      have HUN := Lib.hid hun
      clear hfin hall hun hk
      go_wp2_with fail
      refine bodyPost_ret (v := .tuple #[.slice Ac u.length cc, .slice Al ps.length cl, .int .i64 (Gif.clr u), .bool true]) (by simp [results, Tryd.results40, go_sem]) rfl ⟨hbel, ?_⟩
      rw [if_pos HFIN.out, HUN.out]
      exact ⟨Ac, cc, Al, cl, rfl, hoc.mono (by omega), hol.mono (by omega)⟩
end Go.Proofs.YtncedhhgclofbaaDoor
