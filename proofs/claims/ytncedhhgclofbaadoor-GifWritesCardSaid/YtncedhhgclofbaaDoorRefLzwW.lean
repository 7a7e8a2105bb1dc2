/- layercakeref1.LzwOf: the walk. -/
import Derived.Test.YtncedhhgclofbaaDoorRefLzw
namespace Go.Proofs.YtncedhhgclofbaaDoor
open Go Go.RowKit

/-- What stands at the head of LzwOf's great loop. -/
structure RzL (w : World) (W : Nat) (s : List UInt8) (k size : Nat) (bs : List Bool) (L : List Lz.Word) (vb vl : Value) (wr : World) : Prop where
  rz : RZ w wr bs L vb vl
  wrt : Lz.Wr W L size
  most : bs.length ≤ 24 * k + 24
  len : ∀ x ∈ L, x.1.length ≤ s.length
  eq : ∃ f, s.length - k ≤ f ∧ bs ++ Lz.enc W f (s.drop k) L size = Lz.lzw W s
set_option maxHeartbeats 4000000 in
set_option maxRecDepth 100000 in
theorem lzwOf_any (s : ByteArray) (W : Nat) (w : World) (h2 : 2 ≤ W) (h8 : W ≤ 8) (hr : ∀ b ∈ lst s, b.toNat < 2 ^ W) (hl : s.size ≤ 300000) :
    Calls Tryd.prog 35 #[.string s, .int .i64 W] w fun e w' => ∃ t, e = .returned (.string t) ∧ lst t = Bit.pack (Lz.lzw W (lst s)) ∧ Below w.heap.size w w' := by
  obtain ⟨i0, hi, hz0, hz1, hz2⟩ := info_parts byteInfo
  obtain ⟨iN, hiN, hzN0, hzN1, hzN2⟩ := info_parts listedInfo
  obtain ⟨X, hX⟩ : ∃ X : Nat, X = 2 ^ W := ⟨_, rfl⟩
  have hX2 : (2 : Int) ^ W = X := by rw [hX]; exact (Int.natCast_pow 2 W).symm
  have hXl : X ≤ 256 := by rw [hX]; exact Nat.pow_le_pow_right (show 0 < 2 by omega) h8
  have hX4 : 4 ≤ X := by rw [hX]; exact Nat.pow_le_pow_right (show 0 < 2 by omega) h2
  have HX := Lib.hid hX
  have HRR := Lib.hid hr
  clear hX hr
  go_enter Tryd.func35, Tryd.ntmps35
  go_wp2_with fail
  refine (low_any X (W + 1) (by omega) (by omega) _).mono ?_
  rintro e w1 ⟨t1, rfl, ht1, hb1⟩
  have hz1' : t1.size ≤ 9 := by rw [← lst_length, ht1, chars_length, Bit.low_length]; omega
  obtain ⟨c2, w2, hcv, hown2, hb2⟩ := conv_string w1 t1 (by unfold maxLen; omega)
  rw [ht1] at hown2
  have hlt1 : t1.size = (Bit.low X (W + 1)).length := by rw [← lst_length, ht1, chars_length]
  have hrz2 : RZ w w2 (Bit.low X (W + 1)) [] (.slice (some ⟨w1.heap.size, 0, none⟩) t1.size c2) (.slice none 0 0) :=
    ⟨by rw [← hlt1]; exact hown2.mono hb1.size, Own.nil _ _ _, fun g _ hl => by simp [Value.ownBlock] at hl, hb1.trans (hb2.mono hb1.size)⟩
  have HRZ2 := Lib.hid hrz2
  clear hown2 hlt1 hrz2
  go_wp2_with fail
  go_loopw [5, 6, 7, 8, 9] (fun sz vb vl nx at_ wr => ∃ (k size : Nat) (bs : List Bool) (L : List Lz.Word), sz = .int .i64 size ∧ (∃ N : Nat, nx = .int .i64 N ∧ N = Lz.base W + L.length) ∧ at_ = .int .i64 k ∧ k ≤ s.size ∧ RzL w W (lst s) k size bs L vb vl wr) (fun _ _ _ _ i _ => s.size - (intOf i).toNat)
  case atStart =>
    refine ⟨0, W + 1, Bit.low (2 ^ W) (W + 1), [], by go_num, ⟨X + 2, rfl, by unfold Lz.base; rw [← HX.out]; rfl⟩, rfl, Nat.zero_le _, ⟨by rw [← HX.out]; exact HRZ2.out, Lz.Wr.new h2 h8, by rw [Bit.low_length]; omega, fun x hx => by simp at hx, ⟨(lst s).length, Nat.le_refl _, rfl⟩⟩⟩
  case round =>
    clear hcv hb1 hb2 ht1 hz1'
    obtain ⟨k, size, bs, L, rfl, ⟨N, rfl, hN⟩, rfl, hk, hrz, hwr, hmost, hlen, ⟨f, hf, heq⟩⟩ := hrel
    have HLEN := Lib.hid hlen
    clear hlen
    have HN := Lib.hid hN
    have hNl : N ≤ 4095 := by have := hwr.most; omega
    clear hN
    have HWR := Lib.hid hwr
    have HEQ := Lib.hid heq
    have hs12 := hwr.s12
    have hsW := hwr.sW
    have hfm := hwr.most
    have hbsz := hrz.bel.size
    obtain ⟨Ab, cb, rfl, hcb, _⟩ := hrz.ob.form
    obtain ⟨Al, cl, rfl, hcl, hrl⟩ := hrz.ol.form
    clear hwr heq
    by_cases hlt : k < s.size
    · obtain ⟨x, hx⟩ : ∃ x : Nat, s[k].toNat = x := ⟨_, rfl⟩
      have hx255 : x < 256 := by rw [← hx]; exact s[k].toNat_lt
      obtain ⟨R, hR⟩ : ∃ R, R = (lst s).drop k := ⟨_, rfl⟩
      have hRl : R.length = s.size - k := by rw [hR, List.length_drop, lst_length]
      have hRc : R = s[k] :: (lst s).drop (k + 1) := by rw [hR, List.drop_eq_getElem_cons (by rw [lst_length]; exact hlt)]; rfl
      have hRne : R ≠ [] := by rw [hRc]; simp
      have hS1 : s.extract k (k + 1) = mkS (Lz.one R).1 := mkS_of (by rw [lst_extract, ← hR, Nat.add_sub_cancel_left]; rfl)
      have hx1 : x = (Lz.one R).2 := by rw [hRc, ← hx]; rfl
      have HR := Lib.hid hR
      have HRL := Lib.hid hRl
      have HRN := Lib.hid hRne
      have HX1 := Lib.hid hx1
      have HXR := Lib.hid (show x < 2 ^ W by rw [← hx]; exact HRR.out _ (List.getElem_mem _))
      clear hR hRl hRc hRne hx1
      go_wp2_with fail
      go_region
      go_wp2_with fail
      have hB0 := (Blk.new wr 100 #[.string (mkS (Lz.one R).1), .int .i64 x] rfl).drew
      have hrz0 := hrz.new (((Below.refl wr.heap.size wr).alloc (Nat.le_refl _) (.cells #[.string (mkS (Lz.one R).1), .int .i64 x] 100)).drew)
      generalize (wr.alloc (.cells #[.string (mkS (Lz.one R).1), .int .i64 x] 100)).drew = wa at *
      have hgz : w.heap.size ≤ wr.heap.size := hbsz
      have nb : (Value.slice Ab bs.length cb).ownBlock ≠ some wr.heap.size := fun e => by have := (hrz.lb _ e).2; omega
      have nl : (Value.slice Al L.length cl).ownBlock ≠ some wr.heap.size := fun e => by have := (hrz.ll _ e).2; omega
      obtain ⟨g, hg⟩ : ∃ g, g = wr.heap.size := ⟨_, rfl⟩
      rw [← hg] at hB0 nb nl hgz ⊢
      have HB0 := Lib.hid hB0
      have HZ0 := Lib.hid hrz0
      have HNB := Lib.hid nb
      have HNL := Lib.hid nl
      clear hg hB0 hrz0 nb nl hx hS1
      go_loopw [11] (fun i wi => ∃ j : Nat, i = .int .i64 j ∧ j ≤ L.length ∧ Blk wi g 100 (wcs ((L.take j).foldl (Lz.bstep R) (Lz.one R))).toArray ∧ RZ w wi bs L (.slice Ab bs.length cb) (.slice Al L.length cl)) (fun i _ => L.length - (intOf i).toNat)
      case atStart =>
        refine ⟨0, rfl, Nat.zero_le _, ?_, HZ0.out⟩
        have := HB0.out
        rw [HX1.out] at this
        exact this
      case round =>
        clear hrl
        obtain ⟨j, rfl, hj, hB, hZ⟩ := hrel
        obtain ⟨bb, hbb⟩ : ∃ bb, bb = (L.take j).foldl (Lz.bstep R) (Lz.one R) := ⟨_, rfl⟩
        rw [← hbb] at hB
        have c0 : wr.cell? ⟨g, 0, none⟩ = some (.string (mkS bb.1)) := by rw [hB.cell]; rfl
        have c1 : wr.cell? ⟨g, 1, none⟩ = some (.int .i64 bb.2) := by rw [hB.cell]; rfl
        have f0 := hB.free 0
        have f1 := hB.free 1
        have HBB := Lib.hid hbb
        clear hbb
        by_cases hjl : j < L.length
        · obtain ⟨gl, ol, rfl, hgl1, hgl2⟩ := hZ.ol.addr (by omega)
          have hrl := hZ.ol.reads.2
          obtain ⟨xx, hxx⟩ : ∃ xx, xx = L[j] := ⟨_, rfl⟩
          have e0 : wr.cell? ⟨gl, ol + j * 2, none⟩ = some (.string (mkS xx.1)) := by
            have := hrl.cell rfl (j * 2) (by omega)
            rw [this, hxx]
            exact wcells_at L j hjl 0 (by omega)
          have e1 : wr.cell? ⟨gl, ol + j * 2 + 1, none⟩ = some (.int .i64 xx.2) := by
            have := hrl.cell rfl (j * 2 + 1) (by omega)
            rw [Nat.add_assoc, this, hxx]
            exact wcells_at L j hjl 1 (by omega)
          have hsucc : (L.take (j + 1)).foldl (Lz.bstep R) (Lz.one R) = Lz.bstep R bb xx := by
            rw [List.take_succ_eq_append_getElem hjl, List.foldl_append, ← HBB.out, hxx]
            rfl
          have HS := Lib.hid hsucc
          have HXX := Lib.hid hxx
          clear hsucc hxx hrl
          obtain ⟨u, hu⟩ : ∃ u, u = mkS xx.1 := ⟨_, rfl⟩
          obtain ⟨b1, hb1⟩ : ∃ b1, b1 = mkS bb.1 := ⟨_, rfl⟩
          have hul : u.size = xx.1.length := by rw [hu, size_mkS]
          have hbl : b1.size = bb.1.length := by rw [hb1, size_mkS]
          have hus : u.size ≤ 300000 := by
            have h3 := HLEN.out xx (by rw [HXX.out]; exact List.getElem_mem hjl)
            rw [lst_length] at h3
            omega
          rw [← hu] at e0
          rw [← hb1] at c0
          have HU := Lib.hid hu
          have HB1 := Lib.hid hb1
          have HUL := Lib.hid hul
          have HBL := Lib.hid hbl
          clear hu hb1 hul hbl
          by_cases t1' : b1.size < u.size
          · by_cases t2 : k + u.size ≤ s.size
            · have hex : lst (s.extract k (k + u.size)) = R.take xx.1.length := by rw [lst_extract, ← HR.out, Nat.add_sub_cancel_left, HUL.out]
              by_cases t3 : xx.1 = R.take xx.1.length
              · have hq : ((s.extract k (k + u.size)).toList == u.toList) = true := by
                  rw [beq_iff_eq, Lib.toList_data, Lib.toList_data]
                  show lst _ = lst u
                  rw [hex, HU.out, lst_mkS, ← t3]
                have hstep : Lz.bstep R bb xx = xx := by
                  unfold Lz.bstep
                  rw [if_pos ⟨by rw [← HBL.out, ← HUL.out]; exact t1', t3⟩]
                have HST := Lib.hid hstep
                clear hex t3 hstep
                go_wp2_with fail
                go_roundw
                case rel =>
                  refine ⟨j + 1, by go_num, by omega, ?_, (hZ.far (p := ⟨g, 0, none⟩) HNB.out HNL.out hgz _).far (p := ⟨g, 1, none⟩) HNB.out HNL.out hgz _⟩
                  rw [HS.out, HST.out]
                  have h9 := (hB.set_ 0 (.string u)).set_ 1 (.int .i64 xx.2)
                  rw [HU.out] at h9 ⊢
                  simpa [wcs] using h9
                case measure => simp [intOf]; omega
              · have hq : ((s.extract k (k + u.size)).toList == u.toList) = false := by
                  rw [beq_eq_false_iff_ne]
                  intro e
                  rw [Lib.toList_data, Lib.toList_data] at e
                  have e2 : lst (s.extract k (k + u.size)) = lst u := e
                  rw [hex, HU.out, lst_mkS] at e2
                  exact t3 e2.symm
                have hstep : Lz.bstep R bb xx = bb := by
                  unfold Lz.bstep
                  rw [if_neg (fun h => t3 h.2)]
                have HST := Lib.hid hstep
                clear hex t3 hstep
                go_wp2_with fail
                go_roundw
                case rel => exact ⟨j + 1, by go_num, by omega, by rw [HS.out, HST.out]; exact hB, hZ⟩
                case measure => simp [intOf]; omega
            · have hstep : Lz.bstep R bb xx = bb := by
                unfold Lz.bstep
                rw [if_neg (fun h => t2 (by
                  have h3 := congrArg List.length h.2
                  rw [List.length_take, HRL.out, ← HUL.out] at h3
                  omega))]
              have HST := Lib.hid hstep
              clear hstep
              go_wp2_with fail
              go_roundw
              case rel => exact ⟨j + 1, by go_num, by omega, by rw [HS.out, HST.out]; exact hB, hZ⟩
              case measure => simp [intOf]; omega
          · have hstep : Lz.bstep R bb xx = bb := by
              unfold Lz.bstep
              rw [if_neg (fun h => t1' (by rw [HBL.out, HUL.out]; exact h.1))]
            have HST := Lib.hid hstep
            clear hstep
            go_wp2_with fail
            go_roundw
            case rel => exact ⟨j + 1, by go_num, by omega, by rw [HS.out, HST.out]; exact hB, hZ⟩
            case measure => simp [intOf]; omega
        · have ej : j = L.length := by omega
          subst ej
          have hbest : bb = Lz.best R L := by
            have := HBB.out
            rw [List.take_length] at this
            exact this
          have hbi := Lz.best_is R L HRN.out
          have hble := Lz.best_le R L HRN.out
          rw [← hbest] at hbi hble
          obtain ⟨m, hm⟩ : ∃ m, m = bb.1.length := ⟨_, rfl⟩
          obtain ⟨cd, hcd⟩ : ∃ cd, cd = bb.2 := ⟨_, rfl⟩
          have hcode : cd < 2 ^ size := by
            have hfit := HWR.out.fit
            rcases hbi.mem with e | e
            · rw [hcd, e]
              have h1 := HX1.out
              rw [← h1]
              have h3 : (2 : Nat) ^ (W + 1) ≤ 2 ^ size := Nat.pow_le_pow_right (by omega) hsW
              have h4 : x < 2 ^ W := HXR.out
              rw [Nat.pow_succ] at h3
              omega
            · obtain ⟨i, hi2, ei⟩ := List.getElem_of_mem e
              have hc := HWR.out.code i hi2
              rw [ei, ← hcd] at hc
              omega
          have h2s : (2 : Nat) ^ size ≤ 2 ^ 12 := Nat.pow_le_pow_right (by omega) hs12
          have hcl2 : cd ≤ 4095 := by omega
          have hmR : m ≤ s.size - k := by rw [hm, ← HRL.out]; exact hble
          have hmp : 1 ≤ m := by rw [hm]; exact hbi.pos
          obtain ⟨u, hu⟩ : ∃ u, u = mkS bb.1 := ⟨_, rfl⟩
          have hul : u.size = m := by rw [hu, size_mkS, hm]
          rw [← hu] at c0
          rw [← hcd] at c1
          have hbb2 : Lz.best R L = (R.take m, cd) := by rw [← hbest, hm, hcd]; exact Prod.ext hbi.here rfl
          have hlk2 : (lst s).length - k ≤ f := hf
          obtain ⟨f', rfl⟩ : ∃ f', f = f' + 1 := ⟨f - 1, by rw [lst_length] at hlk2; omega⟩
          have henc := Lz.enc_step W f' R L size m cd HRN.out (by rw [HRL.out]; exact hmR) hbb2
          have heq := HEQ.out
          rw [← HR.out, henc, ← List.append_assoc, HRL.out] at heq
          have HE := Lib.hid heq
          obtain ⟨Y, hY⟩ : ∃ Y : Nat, Y = 2 ^ size := ⟨_, rfl⟩
          have hY2 : (2 : Int) ^ size = Y := by rw [hY]; exact (Int.natCast_pow 2 size).symm
          have hYl : Y ≤ 4096 := by rw [hY]; exact h2s
          obtain ⟨Z, hZZ⟩ : ∃ Z : Nat, Z = X + 1 := ⟨_, rfl⟩
          have hZ2 : (X : Int) + 1 = Z := by omega
          have hZl : Z ≤ 257 := by omega
          have HY := Lib.hid hY
          have HZZ := Lib.hid hZZ
          have hc0 := Lib.hid hcode
          clear hbest hbi hble hm hcd hcode h2s hu hbb2 hlk2 henc heq hY hZZ
          go_wp2_with fail
          refine (low_any cd size (by omega) (by omega) _).mono ?_
          rintro e w7 ⟨t7, rfl, htt7, hb7⟩
          have hB7 := hB.below hb7 hB.lt
          have rz7 := hZ.new hb7
          have hzw7 := rz7.bel.size
          have hst7 : t7.size = size := by rw [← lst_length, htt7, chars_length, Bit.low_length]
          have hst72 : t7.size ≤ 12 := by omega
          obtain ⟨bs7, hbs7⟩ : ∃ bs7, bs7 = bs ++ Bit.low cd size := ⟨_, rfl⟩
          have HLNbs7 := Lib.hid (show bs7.length = bs.length + t7.size by rw [hbs7, List.length_append, Bit.low_length, hst7])
          have hlbs7 : bs7.length ≤ bs.length + 12 := by have := HLNbs7.out; omega
          have HBYbs7 : bytes (chars bs) ++ byteCells t7 = bytes (chars bs7) := by
            rw [hbs7, chars_append, bytes_append, ← htt7]
            rfl
          have Hbs7 := Lib.hid hbs7
          clear hbs7 htt7 hst7 hb7
          have p0 : w7.cell? ⟨g, 0, none⟩ = some (.string u) := by rw [hB7.cell, ← hB.cell]; exact c0
          have gg7 := hB7.lt
          clear f0 f1 c0 c1
          rcases Nat.lt_or_ge (k + m) s.size with hkm0 | hkm0
          · by_cases hEq : N = Y
            · have hq : ((N : Int) == Y) = true := by rw [beq_iff_eq]; omega
              by_cases hlt12 : size < 12
              · obtain ⟨S1, hS1⟩ : ∃ S1 : Nat, S1 = size + 1 := ⟨_, rfl⟩
                have hS2 : (size : Int) + 1 = S1 := by omega
                have hgr : Lz.grow W L.length size = S1 := by
                  unfold Lz.grow
                  rw [← HN.out, ← HY.out, if_pos ⟨hEq, hlt12⟩, hS1]
                have HG := Lib.hid hgr
                clear hgr
                have HS1 := Lib.hid hS1
                have hS12 : S1 ≤ 12 := by omega
                have hSW : W + 1 ≤ S1 := by omega
                clear hS1
                subst hEq
                by_cases hfu : N + 1 = 4096
                · have hend : ((k : Int) + m == s.size) = false := by rw [beq_eq_false_iff_ne]; omega
                  have hkm : k + m + 1 ≤ s.size := by omega
                  have hS2 : s.extract k (k + m + 1) = mkS (R.take (m + 1)) := mkS_of (by rw [lst_extract, ← HR.out]; congr 1; omega)
                  obtain ⟨u2, hu2⟩ : ∃ u2, s.extract k (k + m + 1) = u2 := ⟨_, rfl⟩
                  have hu3 : u2 = mkS (R.take (m + 1)) := by rw [← hu2]; exact hS2
                  obtain ⟨L2, hL2⟩ : ∃ L2, L2 = L ++ [(R.take (m + 1), N)] := ⟨_, rfl⟩
                  have HW2 : wcells L ++ [.string u2, .int .i64 N] = wcells L2 := by rw [hL2, wcells_append, hu3]; rfl
                  have HLL := Lib.hid (show L2.length = L.length + 1 by rw [hL2]; simp)
                  have HL2 := Lib.hid hL2
                  clear hS2 hu3 hL2
                  have hfull : ((N : Int) + 1 == 4096) = true := by rw [beq_iff_eq]; omega
                  go_wp2_with (first | (at_builtin; refine wpList_append_S rfl (.tmp 78) (.tmp 83) 56 9 rfl w.heap.size 5 i0 (.int .u8 0) 1 1 Tryd.underlying56 hi hz0 hz1 hz2 rfl (by decide) (.slice Ab bs.length cb) bs.length (bytes (chars bs)) rfl rz7.ob (bytes_one _) t7.size (byteCells t7) (Src.ofString _ Tryd.underlying9 _) bs7.length (by rw [HLNbs7.out]) (bytes (chars bs7)) HBYbs7 (by unfold maxLen; omega) (by omega) (by omega) ?_; intro A8 c8 w8 ho8 hg8 ha8; have q0 : w8.cell? ⟨g, 0, none⟩ = some (.string u) := (hg8.cell_far ⟨g, 0, none⟩ gg7 (fun e => HNB.out e.symm)).trans p0) | (at_builtin; refine wpList_append_S rfl (.tmp 104) (.tmp 116) 98 98 rfl w.heap.size 100 iN _ 2 24 Tryd.underlying98 hiN hzN0 hzN1 hzN2 rfl (by decide) (.slice Al L.length cl) L.length (wcells L) rfl ((rz7.bits ho8 hg8 ha8).ol.alloc _) (wcells_one _) 1 [.string u2, .int .i64 N] (Src.made Tryd.underlying98 (by first | rfl | simp) rfl (by intro v hv; simp only [List.mem_cons, List.not_mem_nil, or_false] at hv; rcases hv with rfl | rfl <;> rfl)) (L.length + 1) rfl (wcells L2) HW2 (by unfold maxLen; omega) (by omega) (by have h1 := hg8.size; simp; omega) ?_; intro A12 c12 w12 ho12 hg12 ha12))
                  have rz8 := (rz7.bits ho8 hg8 ha8).new ((Below.refl w8.heap.size w8).alloc (Nat.le_refl _) (.cells #[.string u2, .int .i64 N] 100))
                  have rz12 := rz8.list (v' := .slice A12 (L.length + 1) c12) (L' := L2) (by rw [HLL.out]; exact ho12) hg12 (by rcases ha12 with e | e; exact .inl e; exact .inr e)
                  refine (low_any X S1 (by omega) (by omega) _).mono ?_
                  rintro e w13 ⟨t13, rfl, htt13, hb13⟩
                  have rz13 := rz12.new hb13
                  have hzw13 := rz13.bel.size
                  have hst13 : t13.size = S1 := by rw [← lst_length, htt13, chars_length, Bit.low_length]
                  have hst132 : t13.size ≤ 12 := by omega
                  obtain ⟨bs13, hbs13⟩ : ∃ bs13, bs13 = bs7 ++ Bit.low X S1 := ⟨_, rfl⟩
                  have HLNbs13 := Lib.hid (show bs13.length = bs7.length + t13.size by rw [hbs13, List.length_append, Bit.low_length, hst13])
                  have hlbs13 : bs13.length ≤ bs7.length + 12 := by have := HLNbs13.out; omega
                  have HBYbs13 : bytes (chars bs7) ++ byteCells t13 = bytes (chars bs13) := by
                    rw [hbs13, chars_append, bytes_append, ← htt13]
                    rfl
                  have Hbs13 := Lib.hid hbs13
                  clear hbs13 htt13 hst13 hb13
                  go_wp2_with (at_builtin; refine wpList_append_S rfl (.tmp 122) (.tmp 126) 56 9 rfl w.heap.size 5 i0 (.int .u8 0) 1 1 Tryd.underlying56 hi hz0 hz1 hz2 rfl (by decide) (.slice A8 bs7.length c8) bs7.length (bytes (chars bs7)) rfl rz13.ob (bytes_one _) t13.size (byteCells t13) (Src.ofString _ Tryd.underlying9 _) bs13.length (by rw [HLNbs13.out]) (bytes (chars bs13)) HBYbs13 (by unfold maxLen; omega) (by omega) (by omega) ?_; intro A14 c14 w14 ho14 hg14 ha14)
                  have rz14 := (rz13.bits ho14 hg14 ha14).nolist
                  go_roundw
                  case rel =>
                    have h1 := HE.out
                    have hx := HX.out
                    rw [if_neg (by omega), if_pos (by rw [← HN.out]; exact hfu), HG.out, ← hx, ← Hbs7.out, ← List.append_assoc, ← Hbs13.out] at h1
                    refine ⟨k + m, W + 1, bs13, [], by go_num, ⟨X + 2, rfl, by unfold Lz.base; rw [← hx]; rfl⟩, by go_num, by omega, ⟨rz14, Lz.Wr.new h2 h8, by omega, fun y hy => by simp at hy, ⟨f', by rw [lst_length] at hf ⊢; omega, ?_⟩⟩⟩
                    rw [HR.out, List.drop_drop] at h1
                    exact h1
                  case measure => simp [intOf]; omega
                · have hend : ((k : Int) + m == s.size) = false := by rw [beq_eq_false_iff_ne]; omega
                  have hkm : k + m + 1 ≤ s.size := by omega
                  have hS2 : s.extract k (k + m + 1) = mkS (R.take (m + 1)) := mkS_of (by rw [lst_extract, ← HR.out]; congr 1; omega)
                  obtain ⟨u2, hu2⟩ : ∃ u2, s.extract k (k + m + 1) = u2 := ⟨_, rfl⟩
                  have hu3 : u2 = mkS (R.take (m + 1)) := by rw [← hu2]; exact hS2
                  obtain ⟨L2, hL2⟩ : ∃ L2, L2 = L ++ [(R.take (m + 1), N)] := ⟨_, rfl⟩
                  have HW2 : wcells L ++ [.string u2, .int .i64 N] = wcells L2 := by rw [hL2, wcells_append, hu3]; rfl
                  have HLL := Lib.hid (show L2.length = L.length + 1 by rw [hL2]; simp)
                  have HL2 := Lib.hid hL2
                  clear hS2 hu3 hL2
                  have hfull : ((N : Int) + 1 == 4096) = false := by rw [beq_eq_false_iff_ne]; omega
                  go_wp2_with (first | (at_builtin; refine wpList_append_S rfl (.tmp 78) (.tmp 83) 56 9 rfl w.heap.size 5 i0 (.int .u8 0) 1 1 Tryd.underlying56 hi hz0 hz1 hz2 rfl (by decide) (.slice Ab bs.length cb) bs.length (bytes (chars bs)) rfl rz7.ob (bytes_one _) t7.size (byteCells t7) (Src.ofString _ Tryd.underlying9 _) bs7.length (by rw [HLNbs7.out]) (bytes (chars bs7)) HBYbs7 (by unfold maxLen; omega) (by omega) (by omega) ?_; intro A8 c8 w8 ho8 hg8 ha8; have q0 : w8.cell? ⟨g, 0, none⟩ = some (.string u) := (hg8.cell_far ⟨g, 0, none⟩ gg7 (fun e => HNB.out e.symm)).trans p0) | (at_builtin; refine wpList_append_S rfl (.tmp 104) (.tmp 116) 98 98 rfl w.heap.size 100 iN _ 2 24 Tryd.underlying98 hiN hzN0 hzN1 hzN2 rfl (by decide) (.slice Al L.length cl) L.length (wcells L) rfl ((rz7.bits ho8 hg8 ha8).ol.alloc _) (wcells_one _) 1 [.string u2, .int .i64 N] (Src.made Tryd.underlying98 (by first | rfl | simp) rfl (by intro v hv; simp only [List.mem_cons, List.not_mem_nil, or_false] at hv; rcases hv with rfl | rfl <;> rfl)) (L.length + 1) rfl (wcells L2) HW2 (by unfold maxLen; omega) (by omega) (by have h1 := hg8.size; simp; omega) ?_; intro A12 c12 w12 ho12 hg12 ha12))
                  have rz8 := (rz7.bits ho8 hg8 ha8).new ((Below.refl w8.heap.size w8).alloc (Nat.le_refl _) (.cells #[.string u2, .int .i64 N] 100))
                  have rz12 := rz8.list (v' := .slice A12 (L.length + 1) c12) (L' := L2) (by rw [HLL.out]; exact ho12) hg12 (by rcases ha12 with e | e; exact .inl e; exact .inr e)
                  go_roundw
                  case rel =>
                    have h1 := HE.out
                    rw [if_neg (by omega), if_neg (by rw [← HN.out]; exact hfu), HG.out, ← Hbs7.out, ← HN.out, ← HL2.out] at h1
                    refine ⟨k + m, _, bs7, L2, rfl, ⟨N + 1, by go_num, by rw [HLL.out, HN.out]; omega⟩, by go_num, by omega, ⟨rz12, ?_, by omega, fun y hy => ?_, ⟨f', by rw [lst_length] at hf ⊢; omega, ?_⟩⟩⟩
                    · have h3 := HWR.out.more (R.take (m + 1)) (by rw [← HN.out]; exact hfu)
                      rw [← HN.out, ← HL2.out, HG.out] at h3
                      exact h3
                    · rw [HL2.out] at hy
                      rcases List.mem_append.1 hy with hy | hy
                      · exact HLEN.out y hy
                      · simp only [List.mem_singleton] at hy
                        rw [hy, lst_length]
                        show (R.take (m + 1)).length ≤ _
                        rw [List.length_take, HRL.out]
                        omega
                    · rw [HR.out, List.drop_drop] at h1
                      rw [HR.out] at *
                      exact h1
                  case measure => simp [intOf]; omega
              · have hgr : Lz.grow W L.length size = size := by
                  unfold Lz.grow
                  rw [← HN.out, ← HY.out, if_neg (fun e => hlt12 e.2)]
                have HG := Lib.hid hgr
                clear hgr
                subst hEq
                by_cases hfu : N + 1 = 4096
                · have hend : ((k : Int) + m == s.size) = false := by rw [beq_eq_false_iff_ne]; omega
                  have hkm : k + m + 1 ≤ s.size := by omega
                  have hS2 : s.extract k (k + m + 1) = mkS (R.take (m + 1)) := mkS_of (by rw [lst_extract, ← HR.out]; congr 1; omega)
                  obtain ⟨u2, hu2⟩ : ∃ u2, s.extract k (k + m + 1) = u2 := ⟨_, rfl⟩
                  have hu3 : u2 = mkS (R.take (m + 1)) := by rw [← hu2]; exact hS2
                  obtain ⟨L2, hL2⟩ : ∃ L2, L2 = L ++ [(R.take (m + 1), N)] := ⟨_, rfl⟩
                  have HW2 : wcells L ++ [.string u2, .int .i64 N] = wcells L2 := by rw [hL2, wcells_append, hu3]; rfl
                  have HLL := Lib.hid (show L2.length = L.length + 1 by rw [hL2]; simp)
                  have HL2 := Lib.hid hL2
                  clear hS2 hu3 hL2
                  have hfull : ((N : Int) + 1 == 4096) = true := by rw [beq_iff_eq]; omega
                  go_wp2_with (first | (at_builtin; refine wpList_append_S rfl (.tmp 78) (.tmp 83) 56 9 rfl w.heap.size 5 i0 (.int .u8 0) 1 1 Tryd.underlying56 hi hz0 hz1 hz2 rfl (by decide) (.slice Ab bs.length cb) bs.length (bytes (chars bs)) rfl rz7.ob (bytes_one _) t7.size (byteCells t7) (Src.ofString _ Tryd.underlying9 _) bs7.length (by rw [HLNbs7.out]) (bytes (chars bs7)) HBYbs7 (by unfold maxLen; omega) (by omega) (by omega) ?_; intro A8 c8 w8 ho8 hg8 ha8; have q0 : w8.cell? ⟨g, 0, none⟩ = some (.string u) := (hg8.cell_far ⟨g, 0, none⟩ gg7 (fun e => HNB.out e.symm)).trans p0) | (at_builtin; refine wpList_append_S rfl (.tmp 104) (.tmp 116) 98 98 rfl w.heap.size 100 iN _ 2 24 Tryd.underlying98 hiN hzN0 hzN1 hzN2 rfl (by decide) (.slice Al L.length cl) L.length (wcells L) rfl ((rz7.bits ho8 hg8 ha8).ol.alloc _) (wcells_one _) 1 [.string u2, .int .i64 N] (Src.made Tryd.underlying98 (by first | rfl | simp) rfl (by intro v hv; simp only [List.mem_cons, List.not_mem_nil, or_false] at hv; rcases hv with rfl | rfl <;> rfl)) (L.length + 1) rfl (wcells L2) HW2 (by unfold maxLen; omega) (by omega) (by have h1 := hg8.size; simp; omega) ?_; intro A12 c12 w12 ho12 hg12 ha12))
                  have rz8 := (rz7.bits ho8 hg8 ha8).new ((Below.refl w8.heap.size w8).alloc (Nat.le_refl _) (.cells #[.string u2, .int .i64 N] 100))
                  have rz12 := rz8.list (v' := .slice A12 (L.length + 1) c12) (L' := L2) (by rw [HLL.out]; exact ho12) hg12 (by rcases ha12 with e | e; exact .inl e; exact .inr e)
                  refine (low_any X size (by omega) (by omega) _).mono ?_
                  rintro e w13 ⟨t13, rfl, htt13, hb13⟩
                  have rz13 := rz12.new hb13
                  have hzw13 := rz13.bel.size
                  have hst13 : t13.size = size := by rw [← lst_length, htt13, chars_length, Bit.low_length]
                  have hst132 : t13.size ≤ 12 := by omega
                  obtain ⟨bs13, hbs13⟩ : ∃ bs13, bs13 = bs7 ++ Bit.low X size := ⟨_, rfl⟩
                  have HLNbs13 := Lib.hid (show bs13.length = bs7.length + t13.size by rw [hbs13, List.length_append, Bit.low_length, hst13])
                  have hlbs13 : bs13.length ≤ bs7.length + 12 := by have := HLNbs13.out; omega
                  have HBYbs13 : bytes (chars bs7) ++ byteCells t13 = bytes (chars bs13) := by
                    rw [hbs13, chars_append, bytes_append, ← htt13]
                    rfl
                  have Hbs13 := Lib.hid hbs13
                  clear hbs13 htt13 hst13 hb13
                  go_wp2_with (at_builtin; refine wpList_append_S rfl (.tmp 122) (.tmp 126) 56 9 rfl w.heap.size 5 i0 (.int .u8 0) 1 1 Tryd.underlying56 hi hz0 hz1 hz2 rfl (by decide) (.slice A8 bs7.length c8) bs7.length (bytes (chars bs7)) rfl rz13.ob (bytes_one _) t13.size (byteCells t13) (Src.ofString _ Tryd.underlying9 _) bs13.length (by rw [HLNbs13.out]) (bytes (chars bs13)) HBYbs13 (by unfold maxLen; omega) (by omega) (by omega) ?_; intro A14 c14 w14 ho14 hg14 ha14)
                  have rz14 := (rz13.bits ho14 hg14 ha14).nolist
                  go_roundw
                  case rel =>
                    have h1 := HE.out
                    have hx := HX.out
                    rw [if_neg (by omega), if_pos (by rw [← HN.out]; exact hfu), HG.out, ← hx, ← Hbs7.out, ← List.append_assoc, ← Hbs13.out] at h1
                    refine ⟨k + m, W + 1, bs13, [], by go_num, ⟨X + 2, rfl, by unfold Lz.base; rw [← hx]; rfl⟩, by go_num, by omega, ⟨rz14, Lz.Wr.new h2 h8, by omega, fun y hy => by simp at hy, ⟨f', by rw [lst_length] at hf ⊢; omega, ?_⟩⟩⟩
                    rw [HR.out, List.drop_drop] at h1
                    exact h1
                  case measure => simp [intOf]; omega
                · have hend : ((k : Int) + m == s.size) = false := by rw [beq_eq_false_iff_ne]; omega
                  have hkm : k + m + 1 ≤ s.size := by omega
                  have hS2 : s.extract k (k + m + 1) = mkS (R.take (m + 1)) := mkS_of (by rw [lst_extract, ← HR.out]; congr 1; omega)
                  obtain ⟨u2, hu2⟩ : ∃ u2, s.extract k (k + m + 1) = u2 := ⟨_, rfl⟩
                  have hu3 : u2 = mkS (R.take (m + 1)) := by rw [← hu2]; exact hS2
                  obtain ⟨L2, hL2⟩ : ∃ L2, L2 = L ++ [(R.take (m + 1), N)] := ⟨_, rfl⟩
                  have HW2 : wcells L ++ [.string u2, .int .i64 N] = wcells L2 := by rw [hL2, wcells_append, hu3]; rfl
                  have HLL := Lib.hid (show L2.length = L.length + 1 by rw [hL2]; simp)
                  have HL2 := Lib.hid hL2
                  clear hS2 hu3 hL2
                  have hfull : ((N : Int) + 1 == 4096) = false := by rw [beq_eq_false_iff_ne]; omega
                  go_wp2_with (first | (at_builtin; refine wpList_append_S rfl (.tmp 78) (.tmp 83) 56 9 rfl w.heap.size 5 i0 (.int .u8 0) 1 1 Tryd.underlying56 hi hz0 hz1 hz2 rfl (by decide) (.slice Ab bs.length cb) bs.length (bytes (chars bs)) rfl rz7.ob (bytes_one _) t7.size (byteCells t7) (Src.ofString _ Tryd.underlying9 _) bs7.length (by rw [HLNbs7.out]) (bytes (chars bs7)) HBYbs7 (by unfold maxLen; omega) (by omega) (by omega) ?_; intro A8 c8 w8 ho8 hg8 ha8; have q0 : w8.cell? ⟨g, 0, none⟩ = some (.string u) := (hg8.cell_far ⟨g, 0, none⟩ gg7 (fun e => HNB.out e.symm)).trans p0) | (at_builtin; refine wpList_append_S rfl (.tmp 104) (.tmp 116) 98 98 rfl w.heap.size 100 iN _ 2 24 Tryd.underlying98 hiN hzN0 hzN1 hzN2 rfl (by decide) (.slice Al L.length cl) L.length (wcells L) rfl ((rz7.bits ho8 hg8 ha8).ol.alloc _) (wcells_one _) 1 [.string u2, .int .i64 N] (Src.made Tryd.underlying98 (by first | rfl | simp) rfl (by intro v hv; simp only [List.mem_cons, List.not_mem_nil, or_false] at hv; rcases hv with rfl | rfl <;> rfl)) (L.length + 1) rfl (wcells L2) HW2 (by unfold maxLen; omega) (by omega) (by have h1 := hg8.size; simp; omega) ?_; intro A12 c12 w12 ho12 hg12 ha12))
                  have rz8 := (rz7.bits ho8 hg8 ha8).new ((Below.refl w8.heap.size w8).alloc (Nat.le_refl _) (.cells #[.string u2, .int .i64 N] 100))
                  have rz12 := rz8.list (v' := .slice A12 (L.length + 1) c12) (L' := L2) (by rw [HLL.out]; exact ho12) hg12 (by rcases ha12 with e | e; exact .inl e; exact .inr e)
                  go_roundw
                  case rel =>
                    have h1 := HE.out
                    rw [if_neg (by omega), if_neg (by rw [← HN.out]; exact hfu), HG.out, ← Hbs7.out, ← HN.out, ← HL2.out] at h1
                    refine ⟨k + m, _, bs7, L2, rfl, ⟨N + 1, by go_num, by rw [HLL.out, HN.out]; omega⟩, by go_num, by omega, ⟨rz12, ?_, by omega, fun y hy => ?_, ⟨f', by rw [lst_length] at hf ⊢; omega, ?_⟩⟩⟩
                    · have h3 := HWR.out.more (R.take (m + 1)) (by rw [← HN.out]; exact hfu)
                      rw [← HN.out, ← HL2.out, HG.out] at h3
                      exact h3
                    · rw [HL2.out] at hy
                      rcases List.mem_append.1 hy with hy | hy
                      · exact HLEN.out y hy
                      · simp only [List.mem_singleton] at hy
                        rw [hy, lst_length]
                        show (R.take (m + 1)).length ≤ _
                        rw [List.length_take, HRL.out]
                        omega
                    · rw [HR.out, List.drop_drop] at h1
                      rw [HR.out] at *
                      exact h1
                  case measure => simp [intOf]; omega
            · have hq : ((N : Int) == Y) = false := by rw [beq_eq_false_iff_ne]; omega
              have hgr : Lz.grow W L.length size = size := by
                unfold Lz.grow
                rw [← HN.out, ← HY.out, if_neg (fun e => hEq e.1)]
              have HG := Lib.hid hgr
              clear hgr
              by_cases hfu : N + 1 = 4096
              · have hend : ((k : Int) + m == s.size) = false := by rw [beq_eq_false_iff_ne]; omega
                have hkm : k + m + 1 ≤ s.size := by omega
                have hS2 : s.extract k (k + m + 1) = mkS (R.take (m + 1)) := mkS_of (by rw [lst_extract, ← HR.out]; congr 1; omega)
                obtain ⟨u2, hu2⟩ : ∃ u2, s.extract k (k + m + 1) = u2 := ⟨_, rfl⟩
                have hu3 : u2 = mkS (R.take (m + 1)) := by rw [← hu2]; exact hS2
                obtain ⟨L2, hL2⟩ : ∃ L2, L2 = L ++ [(R.take (m + 1), N)] := ⟨_, rfl⟩
                have HW2 : wcells L ++ [.string u2, .int .i64 N] = wcells L2 := by rw [hL2, wcells_append, hu3]; rfl
                have HLL := Lib.hid (show L2.length = L.length + 1 by rw [hL2]; simp)
                have HL2 := Lib.hid hL2
                clear hS2 hu3 hL2
                have hfull : ((N : Int) + 1 == 4096) = true := by rw [beq_iff_eq]; omega
                go_wp2_with (first | (at_builtin; refine wpList_append_S rfl (.tmp 78) (.tmp 83) 56 9 rfl w.heap.size 5 i0 (.int .u8 0) 1 1 Tryd.underlying56 hi hz0 hz1 hz2 rfl (by decide) (.slice Ab bs.length cb) bs.length (bytes (chars bs)) rfl rz7.ob (bytes_one _) t7.size (byteCells t7) (Src.ofString _ Tryd.underlying9 _) bs7.length (by rw [HLNbs7.out]) (bytes (chars bs7)) HBYbs7 (by unfold maxLen; omega) (by omega) (by omega) ?_; intro A8 c8 w8 ho8 hg8 ha8; have q0 : w8.cell? ⟨g, 0, none⟩ = some (.string u) := (hg8.cell_far ⟨g, 0, none⟩ gg7 (fun e => HNB.out e.symm)).trans p0) | (at_builtin; refine wpList_append_S rfl (.tmp 104) (.tmp 116) 98 98 rfl w.heap.size 100 iN _ 2 24 Tryd.underlying98 hiN hzN0 hzN1 hzN2 rfl (by decide) (.slice Al L.length cl) L.length (wcells L) rfl ((rz7.bits ho8 hg8 ha8).ol.alloc _) (wcells_one _) 1 [.string u2, .int .i64 N] (Src.made Tryd.underlying98 (by first | rfl | simp) rfl (by intro v hv; simp only [List.mem_cons, List.not_mem_nil, or_false] at hv; rcases hv with rfl | rfl <;> rfl)) (L.length + 1) rfl (wcells L2) HW2 (by unfold maxLen; omega) (by omega) (by have h1 := hg8.size; simp; omega) ?_; intro A12 c12 w12 ho12 hg12 ha12))
                have rz8 := (rz7.bits ho8 hg8 ha8).new ((Below.refl w8.heap.size w8).alloc (Nat.le_refl _) (.cells #[.string u2, .int .i64 N] 100))
                have rz12 := rz8.list (v' := .slice A12 (L.length + 1) c12) (L' := L2) (by rw [HLL.out]; exact ho12) hg12 (by rcases ha12 with e | e; exact .inl e; exact .inr e)
                refine (low_any X size (by omega) (by omega) _).mono ?_
                rintro e w13 ⟨t13, rfl, htt13, hb13⟩
                have rz13 := rz12.new hb13
                have hzw13 := rz13.bel.size
                have hst13 : t13.size = size := by rw [← lst_length, htt13, chars_length, Bit.low_length]
                have hst132 : t13.size ≤ 12 := by omega
                obtain ⟨bs13, hbs13⟩ : ∃ bs13, bs13 = bs7 ++ Bit.low X size := ⟨_, rfl⟩
                have HLNbs13 := Lib.hid (show bs13.length = bs7.length + t13.size by rw [hbs13, List.length_append, Bit.low_length, hst13])
                have hlbs13 : bs13.length ≤ bs7.length + 12 := by have := HLNbs13.out; omega
                have HBYbs13 : bytes (chars bs7) ++ byteCells t13 = bytes (chars bs13) := by
                  rw [hbs13, chars_append, bytes_append, ← htt13]
                  rfl
                have Hbs13 := Lib.hid hbs13
                clear hbs13 htt13 hst13 hb13
                go_wp2_with (at_builtin; refine wpList_append_S rfl (.tmp 122) (.tmp 126) 56 9 rfl w.heap.size 5 i0 (.int .u8 0) 1 1 Tryd.underlying56 hi hz0 hz1 hz2 rfl (by decide) (.slice A8 bs7.length c8) bs7.length (bytes (chars bs7)) rfl rz13.ob (bytes_one _) t13.size (byteCells t13) (Src.ofString _ Tryd.underlying9 _) bs13.length (by rw [HLNbs13.out]) (bytes (chars bs13)) HBYbs13 (by unfold maxLen; omega) (by omega) (by omega) ?_; intro A14 c14 w14 ho14 hg14 ha14)
                have rz14 := (rz13.bits ho14 hg14 ha14).nolist
                go_roundw
                case rel =>
                  have h1 := HE.out
                  have hx := HX.out
                  rw [if_neg (by omega), if_pos (by rw [← HN.out]; exact hfu), HG.out, ← hx, ← Hbs7.out, ← List.append_assoc, ← Hbs13.out] at h1
                  refine ⟨k + m, W + 1, bs13, [], by go_num, ⟨X + 2, rfl, by unfold Lz.base; rw [← hx]; rfl⟩, by go_num, by omega, ⟨rz14, Lz.Wr.new h2 h8, by omega, fun y hy => by simp at hy, ⟨f', by rw [lst_length] at hf ⊢; omega, ?_⟩⟩⟩
                  rw [HR.out, List.drop_drop] at h1
                  exact h1
                case measure => simp [intOf]; omega
              · have hend : ((k : Int) + m == s.size) = false := by rw [beq_eq_false_iff_ne]; omega
                have hkm : k + m + 1 ≤ s.size := by omega
                have hS2 : s.extract k (k + m + 1) = mkS (R.take (m + 1)) := mkS_of (by rw [lst_extract, ← HR.out]; congr 1; omega)
                obtain ⟨u2, hu2⟩ : ∃ u2, s.extract k (k + m + 1) = u2 := ⟨_, rfl⟩
                have hu3 : u2 = mkS (R.take (m + 1)) := by rw [← hu2]; exact hS2
                obtain ⟨L2, hL2⟩ : ∃ L2, L2 = L ++ [(R.take (m + 1), N)] := ⟨_, rfl⟩
                have HW2 : wcells L ++ [.string u2, .int .i64 N] = wcells L2 := by rw [hL2, wcells_append, hu3]; rfl
                have HLL := Lib.hid (show L2.length = L.length + 1 by rw [hL2]; simp)
                have HL2 := Lib.hid hL2
                clear hS2 hu3 hL2
                have hfull : ((N : Int) + 1 == 4096) = false := by rw [beq_eq_false_iff_ne]; omega
                go_wp2_with (first | (at_builtin; refine wpList_append_S rfl (.tmp 78) (.tmp 83) 56 9 rfl w.heap.size 5 i0 (.int .u8 0) 1 1 Tryd.underlying56 hi hz0 hz1 hz2 rfl (by decide) (.slice Ab bs.length cb) bs.length (bytes (chars bs)) rfl rz7.ob (bytes_one _) t7.size (byteCells t7) (Src.ofString _ Tryd.underlying9 _) bs7.length (by rw [HLNbs7.out]) (bytes (chars bs7)) HBYbs7 (by unfold maxLen; omega) (by omega) (by omega) ?_; intro A8 c8 w8 ho8 hg8 ha8; have q0 : w8.cell? ⟨g, 0, none⟩ = some (.string u) := (hg8.cell_far ⟨g, 0, none⟩ gg7 (fun e => HNB.out e.symm)).trans p0) | (at_builtin; refine wpList_append_S rfl (.tmp 104) (.tmp 116) 98 98 rfl w.heap.size 100 iN _ 2 24 Tryd.underlying98 hiN hzN0 hzN1 hzN2 rfl (by decide) (.slice Al L.length cl) L.length (wcells L) rfl ((rz7.bits ho8 hg8 ha8).ol.alloc _) (wcells_one _) 1 [.string u2, .int .i64 N] (Src.made Tryd.underlying98 (by first | rfl | simp) rfl (by intro v hv; simp only [List.mem_cons, List.not_mem_nil, or_false] at hv; rcases hv with rfl | rfl <;> rfl)) (L.length + 1) rfl (wcells L2) HW2 (by unfold maxLen; omega) (by omega) (by have h1 := hg8.size; simp; omega) ?_; intro A12 c12 w12 ho12 hg12 ha12))
                have rz8 := (rz7.bits ho8 hg8 ha8).new ((Below.refl w8.heap.size w8).alloc (Nat.le_refl _) (.cells #[.string u2, .int .i64 N] 100))
                have rz12 := rz8.list (v' := .slice A12 (L.length + 1) c12) (L' := L2) (by rw [HLL.out]; exact ho12) hg12 (by rcases ha12 with e | e; exact .inl e; exact .inr e)
                go_roundw
                case rel =>
                  have h1 := HE.out
                  rw [if_neg (by omega), if_neg (by rw [← HN.out]; exact hfu), HG.out, ← Hbs7.out, ← HN.out, ← HL2.out] at h1
                  refine ⟨k + m, _, bs7, L2, rfl, ⟨N + 1, by go_num, by rw [HLL.out, HN.out]; omega⟩, by go_num, by omega, ⟨rz12, ?_, by omega, fun y hy => ?_, ⟨f', by rw [lst_length] at hf ⊢; omega, ?_⟩⟩⟩
                  · have h3 := HWR.out.more (R.take (m + 1)) (by rw [← HN.out]; exact hfu)
                    rw [← HN.out, ← HL2.out, HG.out] at h3
                    exact h3
                  · rw [HL2.out] at hy
                    rcases List.mem_append.1 hy with hy | hy
                    · exact HLEN.out y hy
                    · simp only [List.mem_singleton] at hy
                      rw [hy, lst_length]
                      show (R.take (m + 1)).length ≤ _
                      rw [List.length_take, HRL.out]
                      omega
                  · rw [HR.out, List.drop_drop] at h1
                    rw [HR.out] at *
                    exact h1
                case measure => simp [intOf]; omega
          · have hkme : k + m = s.size := by omega
            by_cases hEq : N = Y
            · have hq : ((N : Int) == Y) = true := by rw [beq_iff_eq]; omega
              by_cases hlt12 : size < 12
              · obtain ⟨S1, hS1⟩ : ∃ S1 : Nat, S1 = size + 1 := ⟨_, rfl⟩
                have hS2 : (size : Int) + 1 = S1 := by omega
                have hgr : Lz.grow W L.length size = S1 := by
                  unfold Lz.grow
                  rw [← HN.out, ← HY.out, if_pos ⟨hEq, hlt12⟩, hS1]
                have HG := Lib.hid hgr
                clear hgr
                have HS1 := Lib.hid hS1
                have hS12 : S1 ≤ 12 := by omega
                have hSW : W + 1 ≤ S1 := by omega
                clear hS1
                subst hEq
                have hend : ((k : Int) + m == s.size) = true := by rw [beq_iff_eq]; omega
                have hFE : bs7 ++ Bit.low Z S1 = Lz.lzw W (lst s) := by
                  have h1 := HE.out
                  rw [if_pos (by omega), HG.out, ← HX.out, ← HZZ.out, ← Hbs7.out] at h1
                  exact h1
                have HF := Lib.hid hFE
                clear hFE
                go_wp2_with (at_builtin; refine wpList_append_S rfl (.tmp 78) (.tmp 83) 56 9 rfl w.heap.size 5 i0 (.int .u8 0) 1 1 Tryd.underlying56 hi hz0 hz1 hz2 rfl (by decide) (.slice Ab bs.length cb) bs.length (bytes (chars bs)) rfl rz7.ob (bytes_one _) t7.size (byteCells t7) (Src.ofString _ Tryd.underlying9 _) bs7.length (by rw [HLNbs7.out]) (bytes (chars bs7)) HBYbs7 (by unfold maxLen; omega) (by omega) (by omega) ?_; intro A8 c8 w8 ho8 hg8 ha8; have q0 : w8.cell? ⟨g, 0, none⟩ = some (.string u) := (hg8.cell_far ⟨g, 0, none⟩ gg7 (fun e => HNB.out e.symm)).trans p0)
                have rz8 := rz7.bits ho8 hg8 ha8
                refine (low_any Z S1 (by omega) (by omega) _).mono ?_
                rintro e w9 ⟨t9, rfl, htt9, hb9⟩
                have rz9 := rz8.new hb9
                have hzw9 := rz9.bel.size
                have hst9 : t9.size = S1 := by rw [← lst_length, htt9, chars_length, Bit.low_length]
                have hst92 : t9.size ≤ 12 := by omega
                obtain ⟨bs9, hbs9⟩ : ∃ bs9, bs9 = bs7 ++ Bit.low Z S1 := ⟨_, rfl⟩
                have HLNbs9 := Lib.hid (show bs9.length = bs7.length + t9.size by rw [hbs9, List.length_append, Bit.low_length, hst9])
                have hlbs9 : bs9.length ≤ bs7.length + 12 := by have := HLNbs9.out; omega
                have HBYbs9 : bytes (chars bs7) ++ byteCells t9 = bytes (chars bs9) := by
                  rw [hbs9, chars_append, bytes_append, ← htt9]
                  rfl
                have Hbs9 := Lib.hid hbs9
                clear hbs9 htt9 hst9 hb9
                go_wp2_with (at_builtin; refine wpList_append_S rfl (.tmp 133) (.tmp 138) 56 9 rfl w.heap.size 5 i0 (.int .u8 0) 1 1 Tryd.underlying56 hi hz0 hz1 hz2 rfl (by decide) (.slice A8 bs7.length c8) bs7.length (bytes (chars bs7)) rfl rz9.ob (bytes_one _) t9.size (byteCells t9) (Src.ofString _ Tryd.underlying9 _) bs9.length (by rw [HLNbs9.out]) (bytes (chars bs9)) HBYbs9 (by unfold maxLen; omega) (by omega) (by omega) ?_; intro A9 c9 w10 ho10 hg10 ha10; have hcv := conv_reads w10 _ bs9.length c9 _ _ ho10.reads.2)
                refine (packed_any ⟨(chars bs9).toArray⟩ bs9 rfl (by omega) _).mono ?_
                rintro e w11 ⟨t11, rfl, ht11, hb11⟩
                go_wp2
                go_ret
                exact ⟨t11, rfl, by rw [ht11, Hbs9.out, HF.out], (rz9.bel.grown hg10 hzw9 (fun g hg => (rz9.lb g hg).1)).trans (hb11.mono (by have := hg10.size; omega))⟩
              · have hgr : Lz.grow W L.length size = size := by
                  unfold Lz.grow
                  rw [← HN.out, ← HY.out, if_neg (fun e => hlt12 e.2)]
                have HG := Lib.hid hgr
                clear hgr
                subst hEq
                have hend : ((k : Int) + m == s.size) = true := by rw [beq_iff_eq]; omega
                have hFE : bs7 ++ Bit.low Z size = Lz.lzw W (lst s) := by
                  have h1 := HE.out
                  rw [if_pos (by omega), HG.out, ← HX.out, ← HZZ.out, ← Hbs7.out] at h1
                  exact h1
                have HF := Lib.hid hFE
                clear hFE
                go_wp2_with (at_builtin; refine wpList_append_S rfl (.tmp 78) (.tmp 83) 56 9 rfl w.heap.size 5 i0 (.int .u8 0) 1 1 Tryd.underlying56 hi hz0 hz1 hz2 rfl (by decide) (.slice Ab bs.length cb) bs.length (bytes (chars bs)) rfl rz7.ob (bytes_one _) t7.size (byteCells t7) (Src.ofString _ Tryd.underlying9 _) bs7.length (by rw [HLNbs7.out]) (bytes (chars bs7)) HBYbs7 (by unfold maxLen; omega) (by omega) (by omega) ?_; intro A8 c8 w8 ho8 hg8 ha8; have q0 : w8.cell? ⟨g, 0, none⟩ = some (.string u) := (hg8.cell_far ⟨g, 0, none⟩ gg7 (fun e => HNB.out e.symm)).trans p0)
                have rz8 := rz7.bits ho8 hg8 ha8
                refine (low_any Z size (by omega) (by omega) _).mono ?_
                rintro e w9 ⟨t9, rfl, htt9, hb9⟩
                have rz9 := rz8.new hb9
                have hzw9 := rz9.bel.size
                have hst9 : t9.size = size := by rw [← lst_length, htt9, chars_length, Bit.low_length]
                have hst92 : t9.size ≤ 12 := by omega
                obtain ⟨bs9, hbs9⟩ : ∃ bs9, bs9 = bs7 ++ Bit.low Z size := ⟨_, rfl⟩
                have HLNbs9 := Lib.hid (show bs9.length = bs7.length + t9.size by rw [hbs9, List.length_append, Bit.low_length, hst9])
                have hlbs9 : bs9.length ≤ bs7.length + 12 := by have := HLNbs9.out; omega
                have HBYbs9 : bytes (chars bs7) ++ byteCells t9 = bytes (chars bs9) := by
                  rw [hbs9, chars_append, bytes_append, ← htt9]
                  rfl
                have Hbs9 := Lib.hid hbs9
                clear hbs9 htt9 hst9 hb9
                go_wp2_with (at_builtin; refine wpList_append_S rfl (.tmp 133) (.tmp 138) 56 9 rfl w.heap.size 5 i0 (.int .u8 0) 1 1 Tryd.underlying56 hi hz0 hz1 hz2 rfl (by decide) (.slice A8 bs7.length c8) bs7.length (bytes (chars bs7)) rfl rz9.ob (bytes_one _) t9.size (byteCells t9) (Src.ofString _ Tryd.underlying9 _) bs9.length (by rw [HLNbs9.out]) (bytes (chars bs9)) HBYbs9 (by unfold maxLen; omega) (by omega) (by omega) ?_; intro A9 c9 w10 ho10 hg10 ha10; have hcv := conv_reads w10 _ bs9.length c9 _ _ ho10.reads.2)
                refine (packed_any ⟨(chars bs9).toArray⟩ bs9 rfl (by omega) _).mono ?_
                rintro e w11 ⟨t11, rfl, ht11, hb11⟩
                go_wp2
                go_ret
                exact ⟨t11, rfl, by rw [ht11, Hbs9.out, HF.out], (rz9.bel.grown hg10 hzw9 (fun g hg => (rz9.lb g hg).1)).trans (hb11.mono (by have := hg10.size; omega))⟩
            · have hq : ((N : Int) == Y) = false := by rw [beq_eq_false_iff_ne]; omega
              have hgr : Lz.grow W L.length size = size := by
                unfold Lz.grow
                rw [← HN.out, ← HY.out, if_neg (fun e => hEq e.1)]
              have HG := Lib.hid hgr
              clear hgr
              have hend : ((k : Int) + m == s.size) = true := by rw [beq_iff_eq]; omega
              have hFE : bs7 ++ Bit.low Z size = Lz.lzw W (lst s) := by
                have h1 := HE.out
                rw [if_pos (by omega), HG.out, ← HX.out, ← HZZ.out, ← Hbs7.out] at h1
                exact h1
              have HF := Lib.hid hFE
              clear hFE
              go_wp2_with (at_builtin; refine wpList_append_S rfl (.tmp 78) (.tmp 83) 56 9 rfl w.heap.size 5 i0 (.int .u8 0) 1 1 Tryd.underlying56 hi hz0 hz1 hz2 rfl (by decide) (.slice Ab bs.length cb) bs.length (bytes (chars bs)) rfl rz7.ob (bytes_one _) t7.size (byteCells t7) (Src.ofString _ Tryd.underlying9 _) bs7.length (by rw [HLNbs7.out]) (bytes (chars bs7)) HBYbs7 (by unfold maxLen; omega) (by omega) (by omega) ?_; intro A8 c8 w8 ho8 hg8 ha8; have q0 : w8.cell? ⟨g, 0, none⟩ = some (.string u) := (hg8.cell_far ⟨g, 0, none⟩ gg7 (fun e => HNB.out e.symm)).trans p0)
              have rz8 := rz7.bits ho8 hg8 ha8
              refine (low_any Z size (by omega) (by omega) _).mono ?_
              rintro e w9 ⟨t9, rfl, htt9, hb9⟩
              have rz9 := rz8.new hb9
              have hzw9 := rz9.bel.size
              have hst9 : t9.size = size := by rw [← lst_length, htt9, chars_length, Bit.low_length]
              have hst92 : t9.size ≤ 12 := by omega
              obtain ⟨bs9, hbs9⟩ : ∃ bs9, bs9 = bs7 ++ Bit.low Z size := ⟨_, rfl⟩
              have HLNbs9 := Lib.hid (show bs9.length = bs7.length + t9.size by rw [hbs9, List.length_append, Bit.low_length, hst9])
              have hlbs9 : bs9.length ≤ bs7.length + 12 := by have := HLNbs9.out; omega
              have HBYbs9 : bytes (chars bs7) ++ byteCells t9 = bytes (chars bs9) := by
                rw [hbs9, chars_append, bytes_append, ← htt9]
                rfl
              have Hbs9 := Lib.hid hbs9
              clear hbs9 htt9 hst9 hb9
              go_wp2_with (at_builtin; refine wpList_append_S rfl (.tmp 133) (.tmp 138) 56 9 rfl w.heap.size 5 i0 (.int .u8 0) 1 1 Tryd.underlying56 hi hz0 hz1 hz2 rfl (by decide) (.slice A8 bs7.length c8) bs7.length (bytes (chars bs7)) rfl rz9.ob (bytes_one _) t9.size (byteCells t9) (Src.ofString _ Tryd.underlying9 _) bs9.length (by rw [HLNbs9.out]) (bytes (chars bs9)) HBYbs9 (by unfold maxLen; omega) (by omega) (by omega) ?_; intro A9 c9 w10 ho10 hg10 ha10; have hcv := conv_reads w10 _ bs9.length c9 _ _ ho10.reads.2)
              refine (packed_any ⟨(chars bs9).toArray⟩ bs9 rfl (by omega) _).mono ?_
              rintro e w11 ⟨t11, rfl, ht11, hb11⟩
              go_wp2
              go_ret
              exact ⟨t11, rfl, by rw [ht11, Hbs9.out, HF.out], (rz9.bel.grown hg10 hzw9 (fun g hg => (rz9.lb g hg).1)).trans (hb11.mono (by have := hg10.size; omega))⟩
    · have ek : k = s.size := by omega
      subst ek
      obtain ⟨Z, hZZ⟩ : ∃ Z : Nat, Z = X + 1 := ⟨_, rfl⟩
      have hZ2 : (X : Int) + 1 = Z := by omega
      have hZl : Z ≤ 257 := by omega
      have hFE : bs ++ Bit.low Z size = Lz.lzw W (lst s) := by
        have h1 := HEQ.out
        rw [List.drop_of_length_le (by rw [lst_length]; exact Nat.le_refl _), Lz.enc_nil, ← HX.out, ← hZZ] at h1
        exact h1
      have HF := Lib.hid hFE
      have HZZ := Lib.hid hZZ
      clear hFE hZZ hf
      go_wp2_with fail
      refine (low_any Z size (by omega) (by omega) _).mono ?_
      rintro e w9 ⟨t9, rfl, htt9, hb9⟩
      have rz9 := hrz.new hb9
      have hzw9 := rz9.bel.size
      have hst9 : t9.size = size := by rw [← lst_length, htt9, chars_length, Bit.low_length]
      have hst92 : t9.size ≤ 12 := by omega
      obtain ⟨bs9, hbs9⟩ : ∃ bs9, bs9 = bs ++ Bit.low Z size := ⟨_, rfl⟩
      have HLNbs9 := Lib.hid (show bs9.length = bs.length + t9.size by rw [hbs9, List.length_append, Bit.low_length, hst9])
      have hlbs9 : bs9.length ≤ bs.length + 12 := by have := HLNbs9.out; omega
      have HBYbs9 : bytes (chars bs) ++ byteCells t9 = bytes (chars bs9) := by
        rw [hbs9, chars_append, bytes_append, ← htt9]
        rfl
      have Hbs9 := Lib.hid hbs9
      clear hbs9 htt9 hst9 hb9
      go_wp2_with (at_builtin; refine wpList_append_S rfl (.tmp 133) (.tmp 138) 56 9 rfl w.heap.size 5 i0 (.int .u8 0) 1 1 Tryd.underlying56 hi hz0 hz1 hz2 rfl (by decide) (.slice Ab bs.length cb) bs.length (bytes (chars bs)) rfl rz9.ob (bytes_one _) t9.size (byteCells t9) (Src.ofString _ Tryd.underlying9 _) bs9.length (by rw [HLNbs9.out]) (bytes (chars bs9)) HBYbs9 (by unfold maxLen; omega) (by omega) (by omega) ?_; intro A9 c9 w10 ho10 hg10 ha10; have hcv := conv_reads w10 _ bs9.length c9 _ _ ho10.reads.2)
      refine (packed_any ⟨(chars bs9).toArray⟩ bs9 rfl (by omega) _).mono ?_
      rintro e w11 ⟨t11, rfl, ht11, hb11⟩
      go_wp2
      go_ret
      exact ⟨t11, rfl, by rw [ht11, Hbs9.out, HF.out], (rz9.bel.grown hg10 hzw9 (fun g hg => (rz9.lb g hg).1)).trans (hb11.mono (by have := hg10.size; omega))⟩
end Go.Proofs.YtncedhhgclofbaaDoor
