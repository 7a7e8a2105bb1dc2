/- lzw.Pack: the walk. -/
import Derived.Test.YtncedhhgclofbaaDoorPackLz
import Derived.Test.YtncedhhgclofbaaDoorLzwLaw
import Derived.Lib.Strings
namespace Go.Proofs.YtncedhhgclofbaaDoor
open Go Go.RowKit

theorem trie_some {p : Nat × UInt8} {T : List ((Nat × UInt8) × Nat)} {j : Nat} {v : Value} (h : mfind p (trieMap T) 0 = some (j, v)) : ∃ hj : j < T.length, T[j].1 = p ∧ v = .int .i64 T[j].2 := by
  obtain ⟨_, h2, _⟩ := mfind_some h
  rw [Nat.sub_zero] at h2
  unfold trieMap at h2
  rw [List.getElem?_map] at h2
  obtain ⟨q, hq, e⟩ := Option.map_eq_some_iff.1 h2
  obtain ⟨hj, e2⟩ := List.getElem?_eq_some_iff.1 hq
  injection e with e3 e4
  exact ⟨hj, by rw [e2]; exact e3, by rw [e2]; exact e4.symm⟩
theorem trie_none {p : Nat × UInt8} {T : List ((Nat × UInt8) × Nat)} (h : mfind p (trieMap T) 0 = none) : ∀ i (hi : i < T.length), T[i].1 ≠ p := by
  intro i hi e
  refine (mfind_none (M := trieMap T) 0).1 h ?_
  unfold trieMap
  rw [List.map_map]
  exact List.mem_map.2 ⟨T[i], List.getElem_mem hi, e⟩
theorem PK.drew {w : World} {B g W size : Nat} {bs : List Bool} {T : List ((Nat × UInt8) × Nat)} {v : Value} {mb : Nat} (h : PK w B g W size bs T v mb) : PK w.drew B g W size bs T v mb :=
  ⟨⟨h.bw.blk.drew, h.bw.own.drew, h.bw.ne⟩, h.mp.drew, h.mg, h.mv, h.ml⟩
theorem PK.wrote {w w' : World} {B g W size : Nat} {bs bs' : List Bool} {T : List ((Nat × UInt8) × Nat)} {v : Value} {mb : Nat} (h : PK w B g W size bs T v mb)
    (hw : Wrote w B g 115 [.int .i64 W, .int .i64 size, .int .i64 (Lz.base W + T.length : Nat), .map (some mb)] v bs' w') : ∃ v', PK w' B g W size bs' T v' mb ∧ Fresh w v v' ∧ Keeps (fun x => x = g ∨ v.ownBlock = some x) w w' := by
  obtain ⟨v', h1, h2, h3⟩ := hw
  refine ⟨v', ⟨h1, h.mp.keep (h3.block _ h.mp.lt ?_), h.mg, ?_, h.ml⟩, h2, h3⟩
  · rintro (e | e)
    · exact h.mg e
    · exact h.mv e
  · intro e
    rcases h2 _ e with e2 | e2
    · exact h.mv e2
    · have := h.mp.lt; omega
/-- What stands at the head of Pack's great loop. -/
structure PkL (w : World) (g W : Nat) (s : List UInt8) (k size : Nat) (bs : List Bool) (T : List ((Nat × UInt8) × Nat)) (L : List Lz.Word) (v : Value) (mb : Nat) (wr : World) : Prop where
  pk : PK wr w.heap.size g W size bs T v mb
  trie : Lz.Trie W T L
  wrt : Lz.Wr W L size
  most : bs.length ≤ 24 * k + 24
  eq : ∃ f, s.length - k ≤ f ∧ bs ++ (if k = s.length ∧ k ≠ 0 then Bit.low (2 ^ W + 1) (Lz.grow W L.length size) else Lz.enc W f (s.drop k) L size) = Lz.lzw W s
  bel : Below w.heap.size w wr
set_option maxHeartbeats 4000000 in
set_option maxRecDepth 100000 in
theorem pack_any (s : ByteArray) (W : Nat) (w : World) (h2 : 2 ≤ W) (h8 : W ≤ 8) (hr : ∀ b ∈ lst s, b.toNat < 2 ^ W) (hl : s.size ≤ 300000) :
    Calls Tryd.prog 41 #[.string s, .int .i64 W] w fun e w' => ∃ t, e = .returned (.tuple #[.string t, .nilIface]) ∧ lst t = Bit.pack (Lz.lzw W (lst s)) ∧ Below w.heap.size w w' := by
  go_enter Tryd.func41, Tryd.ntmps41
  go_wp2_with fail
  refine (bad_no W h2 h8 _).mono ?_
  rintro e w1 ⟨rfl, rfl⟩
  have HRR := Lib.hid hr
  clear hr
  go_wp2_with fail
  go_loop [22] (fun i => ∃ k : Nat, k ≤ s.size ∧ i = .int .i64 k) (fun i => s.size - (intOf i).toNat)
  case atStart => exact ⟨0, Nat.zero_le _, rfl⟩
  case round =>
    obtain ⟨k, hk, rfl⟩ := hrel
    by_cases hlt : k < s.size
    · obtain ⟨x, hx⟩ : ∃ x : Nat, s[k].toNat = x := ⟨_, rfl⟩
      have hxl : x < 2 ^ W := by rw [← hx]; exact HRR.out _ (by show s.data[k] ∈ _; simp)
      have hx255 : x < 256 := by rw [← hx]; exact s[k].toNat_lt
      have hq : (x : Int) / 2 ^ W = 0 := by
        have : x / 2 ^ W = 0 := Nat.div_eq_of_lt hxl
        exact_mod_cast this
      go_wp2_with fail
      go_round
      case rel => exact ⟨k + 1, by omega, by go_num⟩
      case measure => simp [intOf]; omega
    · have hbw0 : BW (w1.alloc (.cells #[.slice none 0 0, .int .i64 0, .int .i64 W, .int .i64 (W + 1), .int .i64 0, .map none] 115)) w1.heap.size w1.heap.size 115 [.int .i64 W, .int .i64 (W + 1 : Nat), .int .i64 0, .map none] (.slice none 0 0) [] :=
        ⟨Blk.new _ _ _ rfl, Own.nil _ _ _, by simp [Value.ownBlock]⟩
      have HBW := Lib.hid hbw0
      clear hbw0
      go_wp2_with fail
      refine (clear_any w1.heap.size w1.heap.size W (W + 1) (.int .i64 0) (.map none) (.slice none 0 0) [] _ HBW.out h2 h8 (Nat.le_refl _) (by omega) (by simp) (by simp)).mono ?_
      rintro e w2 ⟨rfl, v0, mb0, hpk0, _, _, hk0⟩
      have hb0 : Below w1.heap.size w1 w2 := by
        have := hk0.below (B := w1.heap.size) (fun x hx => by
          rcases hx with rfl | hx
          · exact Nat.le_refl _
          · simp [Value.ownBlock] at hx) (by simp)
        exact ((Below.refl _ _).alloc (Nat.le_refl _) _).trans this
      have HPK := Lib.hid hpk0
      clear hlt
      have h64 : (2 : Nat) ^ W ≤ 2 ^ 8 := Nat.pow_le_pow_right (by omega) h8
      clear hpk0 hk0
      go_wp2_with fail
      go_loopw [8] (fun i wr => ∃ (k size : Nat) (bs : List Bool) (T : List ((Nat × UInt8) × Nat)) (L : List Lz.Word) (v : Value) (mb : Nat), i = .int .i64 k ∧ k ≤ s.size ∧ PkL w1 w1.heap.size W (lst s) k size bs T L v mb wr) (fun i _ => s.size - (intOf i).toNat)
      case atStart =>
        refine ⟨0, W + 1, Bit.low (2 ^ W) (W + 1), [], [], v0, mb0, rfl, Nat.zero_le _, ⟨HPK.out, Lz.Trie.nil W, Lz.Wr.new h2 h8, by rw [Bit.low_length]; omega, ⟨(lst s).length, Nat.le_refl _, ?_⟩, hb0⟩⟩
        rw [if_neg (by omega)]
        rfl
      case round =>
        clear hb0 hk
        obtain ⟨k, size, bs, T, L, v, mb, rfl, hk, hpk, htr, hwr, hmost, ⟨f, hf, heq⟩, hbel⟩ := hrel
        have HTR := Lib.hid htr
        have HWR := Lib.hid hwr
        have HEQ := Lib.hid heq
        have hs12 := hwr.s12
        have hsW := hwr.sW
        have hfm := hwr.most
        have hLT := htr.len
        have hbsz := hbel.size
        have hgl := hpk.bw.blk.lt
        have hml := hpk.mp.lt
        clear htr hwr heq
        by_cases hlt : k < s.size
        · have hx255 : s[k].toNat < 256 := s[k].toNat_lt
          obtain ⟨x, hx⟩ : ∃ x : Nat, s[k].toNat = x := ⟨_, rfl⟩
          have hxl : x < 2 ^ W := by rw [← hx]; exact HRR.out _ (by show s.data[k] ∈ _; simp)
          have hxt : Lz.txt W L x = ((lst s).drop k).take 1 := by
            unfold Lz.txt
            rw [if_pos hxl, List.drop_eq_getElem_cons (by rw [lst_length]; exact hlt), ← hx]
            simp
            rfl
          rw [hx] at hx255
          have HXL := Lib.hid hxl
          have HXT := Lib.hid hxt
          clear hxl hxt
          go_wp2_with fail
          go_loopw [8, 9] (fun i nn wi => ∃ (p n : Nat), i = .int .i64 p ∧ nn = .int .i64 n ∧ k < p ∧ p ≤ s.size ∧ Lz.Ok W L.length n ∧ Lz.txt W L n = ((lst s).drop k).take (p - k) ∧ PK wi w1.heap.size w1.heap.size W size bs T v mb ∧ Below w1.heap.size w1 wi) (fun i _ _ => s.size - (intOf i).toNat)
          case atStart => exact ⟨k + 1, x, by go_num, rfl, by omega, by omega, .inl HXL.out, by rw [Nat.add_sub_cancel_left]; exact HXT.out, hpk, hbel⟩
          case round =>
            clear hpk hbel hbsz hml hgl hx
            obtain ⟨p, n, rfl, rfl, hkp, hps, hok, htx, hpk, hbel⟩ := hrel
            have hbsz := hbel.size
            have hml := hpk.mp.lt
            have hgl := hpk.bw.blk.lt
            have hn2 : n < 4096 := by
              have h1 := HWR.out.code_lt hok
              have h3 : (2 : Nat) ^ size ≤ 2 ^ 12 := Nat.pow_le_pow_right (by omega) hs12
              omega
            have HOK := Lib.hid hok
            have HTX := Lib.hid htx
            have hblen : bs.length ≤ 8000000 := by omega
            clear hok htx
            by_cases hlt2 : p < s.size
            · have hy255 : s[p].toNat < 256 := s[p].toNat_lt
              have hz : ∀ W' : World, (zeroValue 3).run Tryd.prog W' = .ok (.int .i64 0) W' := fun _ => by kernel_rfl
              have d5 : wr.cell? ⟨w1.heap.size, 5, none⟩ = some (.map (some mb)) := by rw [hpk.bw.blk.cell]; simp
              cases hfd : mfind (n, s[p]) (trieMap T) 0 with
              | some r =>
                obtain ⟨j, u⟩ := r
                obtain ⟨hj, he, rfl⟩ := trie_some hfd
                have hlk := run_lookup_at lzKey Tryd.underlying113 (hz _) (show MapAt wr.drew mb lzV (trieMap T) from hpk.mp) (n, s[p]) true
                rw [hfd] at hlk
                replace hlk : (Instr.lookup 113 (.map (some mb)) (.agg #[.int .i64 n, .int .u8 s[p].toNat]) true).run Tryd.prog wr.drew = .ok (.tuple #[.int .i64 T[j].2, .bool true]) wr.drew := hlk
                have hget : ((lst s).drop k)[p - k]? = some s[p] := by
                  rw [List.getElem?_drop, show k + (p - k) = p by omega, List.getElem?_eq_getElem (by rw [lst_length]; exact hlt2)]
                  rfl
                have hlen : p - k < ((lst s).drop k).length := by rw [List.length_drop, lst_length]; omega
                have hnx := HTR.out.next ((lst s).drop k) (p - k) n hlen HTX.out j hj (by rw [he, (List.getElem?_eq_some_iff.1 hget).2])
                have HNX := Lib.hid hnx
                clear hget hlen hnx he
                go_wp2_with fail
                go_region
                go_wp2_with fail
                go_roundw
                case rel => exact ⟨p + 1, T[j].2, by go_num, rfl, by omega, by omega, HNX.out.1, by rw [HNX.out.2]; congr 1; omega, hpk.drew, hbel.drew⟩
                case measure => simp [intOf]; omega
              | none =>
                have hlk := run_lookup_at lzKey Tryd.underlying113 (hz _) (show MapAt wr.drew mb lzV (trieMap T) from hpk.mp) (n, s[p]) true
                rw [hfd] at hlk
                replace hlk : (Instr.lookup 113 (.map (some mb)) (.agg #[.int .i64 n, .int .u8 s[p].toNat]) true).run Tryd.prog wr.drew = .ok (.tuple #[.int .i64 0, .bool false]) wr.drew := hlk
                have HFD := Lib.hid hfd
                clear hfd
                go_wp2_with fail
                go_region
                clear hlk hz
                go_wp2_with fail
                refine (code_any w1.heap.size w1.heap.size W size n _ _ v bs _ hpk.drew.bw (HWR.out.code_lt HOK.out) hs12 (by omega) hbsz).mono ?_
                rintro e w5 ⟨rfl, hw5⟩
                obtain ⟨v5, hpk5, hf5, hk5⟩ := hpk.drew.wrote hw5
                have hb5 : Below w1.heap.size w1 w5 := hbel.drew.trans (hk5.below (B := w1.heap.size) (fun x hx => by
                  rcases hx with rfl | hx
                  · exact Nat.le_refl _
                  · exact (hpk.bw.own.lt x hx).1) hbsz)
                have hz5 := hb5.size
                have hlen5 : (bs ++ Bit.low n size).length ≤ 8000012 := by rw [List.length_append, Bit.low_length]; omega
                obtain ⟨bs5, hbs5⟩ : ∃ bs5, bs5 = bs ++ Bit.low n size := ⟨_, rfl⟩
                rw [← hbs5] at hpk5 hlen5
                have HBS := Lib.hid hbs5
                have hrest : (lst s).drop k ≠ [] := by intro e; have := congrArg List.length e; rw [List.length_drop, lst_length] at this; simp at this; omega
                have hget : ((lst s).drop k)[p - k]? = some s[p] := by
                  rw [List.getElem?_drop, show k + (p - k) = p by omega, List.getElem?_eq_getElem (by rw [lst_length]; exact hlt2)]
                  rfl
                have hlen : p - k < ((lst s).drop k).length := by rw [List.length_drop, lst_length]; omega
                have hge : ((lst s).drop k)[p - k] = s[p] := (List.getElem?_eq_some_iff.1 hget).2
                have hno2 : ∀ i (hi : i < T.length), T[i].1 ≠ (n, ((lst s).drop k)[p - k]) := fun i hi => by rw [hge]; exact trie_none HFD.out i hi
                have hbest := HTR.out.best h8 ((lst s).drop k) (fun b hb => HRR.out b (List.mem_of_mem_drop hb)) (p - k) n (by omega) (by omega) HOK.out HTX.out (fun _ => hno2)
                have hmore := HTR.out.more ((lst s).drop k) (p - k) n hlen HOK.out HTX.out hno2
                rw [hge] at hmore
                have hlk2 : (lst s).length - k ≤ f := hf
                obtain ⟨f', rfl⟩ : ∃ f', f = f' + 1 := ⟨f - 1, by rw [lst_length] at hlk2; omega⟩
                have henc := Lz.enc_step W f' ((lst s).drop k) L size (p - k) n hrest (by omega) hbest
                rw [if_neg (by rw [List.length_drop, lst_length]; omega), List.drop_drop, show k + (p - k) = p by omega] at henc
                have heq := HEQ.out
                rw [if_neg (by rw [lst_length]; omega), henc, ← List.append_assoc, ← hbs5] at heq
                have HM := Lib.hid hmore
                have HE := Lib.hid heq
                clear hbs5 hrest hget hlen hge hno2 hbest hmore hlk2 henc heq hw5 hf5 hk5 hbel hpk
                by_cases hfull : Lz.base W + T.length + 1 = 4096
                · go_wp2_with fail
                  refine (add_full w1.heap.size w1.heap.size W size bs5 T v5 mb (n, s[p]) _ hpk5 HFD.out h2 h8 hsW hs12 (by omega) hz5 hfull).mono ?_
                  rintro e w6 ⟨rfl, v6, mb6, ha⟩
                  go_wp2_with fail
                  go_roundw
                  case rel =>
                    refine ⟨p, W + 1, _, [], [], v6, mb6, rfl, hps, ⟨ha.pk, Lz.Trie.nil W, Lz.Wr.new h2 h8, ?_, ⟨f', by rw [lst_length] at hf ⊢; omega, ?_⟩, hb5.trans (ha.keeps.below (fun x hx => ?_) hz5)⟩⟩
                    · have hg := HWR.out.grow
                      have h1 := HBS.out
                      rw [List.length_append, Bit.low_length, h1, List.length_append, Bit.low_length]
                      rw [hLT]
                      omega
                    · have h1 := HE.out
                      rw [if_pos (by rw [← hLT]; exact hfull)] at h1
                      rw [if_neg (by rw [lst_length]; omega), List.append_assoc, hLT]
                      exact h1
                    · rcases hx with rfl | hx | rfl
                      · exact Nat.le_refl _
                      · exact (hpk5.bw.own.lt x hx).1
                      · exact hpk5.ml
                  case measure => simp [intOf]; omega
                · go_wp2_with fail
                  refine (add_plain w1.heap.size w1.heap.size W size bs5 T v5 mb (n, s[p]) _ hpk5 HFD.out hs12 (by omega) hfull).mono ?_
                  rintro e w6 ⟨rfl, v6, mb6, ha⟩
                  go_wp2_with fail
                  go_roundw
                  case rel =>
                    have hpk6 := ha.pk
                    rw [hLT] at hpk6
                    refine ⟨p, _, bs5, _, _, v6, mb6, rfl, hps, ⟨hpk6, HM.out, HWR.out.more _ (by rw [← hLT]; exact hfull), ?_, ⟨f', by rw [lst_length] at hf ⊢; omega, ?_⟩, hb5.trans (ha.keeps.below (fun x hx => ?_) hz5)⟩⟩
                    · have h1 := HBS.out
                      rw [h1, List.length_append, Bit.low_length]
                      omega
                    · have h1 := HE.out
                      rw [if_neg (by rw [← hLT]; exact hfull)] at h1
                      rw [if_neg (by rw [lst_length]; omega)]
                      exact h1
                    · rcases hx with rfl | hx | rfl
                      · exact Nat.le_refl _
                      · exact (hpk5.bw.own.lt x hx).1
                      · exact hpk5.ml
                  case measure => simp [intOf]; omega
            · have ep : p = s.size := by omega
              subst ep
              go_wp2_with fail
              refine (code_any w1.heap.size w1.heap.size W size n _ _ v bs _ hpk.bw (HWR.out.code_lt HOK.out) hs12 (by omega) hbsz).mono ?_
              rintro e w5 ⟨rfl, hw5⟩
              obtain ⟨v5, hpk5, hf5, hk5⟩ := hpk.wrote hw5
              have hb5 : Below w1.heap.size w1 w5 := hbel.trans (hk5.below (B := w1.heap.size) (fun x hx => by
                rcases hx with rfl | hx
                · exact Nat.le_refl _
                · exact (hpk.bw.own.lt x hx).1) hbsz)
              have HPK5 := Lib.hid hpk5
              have HB5 := Lib.hid hb5
              clear hpk5 hb5 hpk hbel hw5 hf5 hk5
              go_wp2_with fail
              go_roundw
              case rel =>
                have hlk2 : (lst s).length - k ≤ f := hf
                obtain ⟨f', rfl⟩ : ∃ f', f = f' + 1 := ⟨f - 1, by rw [lst_length] at hlk2; omega⟩
                have hrest : (lst s).drop k ≠ [] := by intro e; have := congrArg List.length e; rw [List.length_drop, lst_length] at this; simp at this; omega
                have hrl : ((lst s).drop k).length = s.size - k := by rw [List.length_drop, lst_length]
                have hbest := HTR.out.best h8 ((lst s).drop k) (fun b hb => HRR.out b (List.mem_of_mem_drop hb)) (s.size - k) n (by omega) (by omega) HOK.out HTX.out (fun h => by omega)
                have henc := Lz.enc_step W f' ((lst s).drop k) L size (s.size - k) n hrest (by omega) hbest
                rw [if_pos hrl.symm] at henc
                have heq := HEQ.out
                rw [if_neg (by rw [lst_length]; omega), henc, ← List.append_assoc] at heq
                refine ⟨s.size, size, _, T, L, v5, mb, rfl, Nat.le_refl _, ⟨HPK5.out, HTR.out, HWR.out, ?_, ⟨f' + 1, by rw [lst_length]; omega, ?_⟩, HB5.out⟩⟩
                · rw [List.length_append, Bit.low_length]
                  omega
                · rw [if_pos ⟨(lst_length s).symm, by omega⟩]
                  exact heq
              case measure => simp [intOf]; omega
        · have ek : k = s.size := by omega
          subst ek
          obtain ⟨X, hX⟩ : ∃ X : Nat, X = 2 ^ W := ⟨_, rfl⟩
          have hX2 : (2 : Int) ^ W = X := by rw [hX]; exact (Int.natCast_pow 2 W).symm
          have hXl : X ≤ 256 := by omega
          obtain ⟨Z, hZ⟩ : ∃ Z : Nat, Z = X + 1 := ⟨_, rfl⟩
          have hZ2 : (X : Int) + 1 = Z := by omega
          obtain ⟨N, hN⟩ : ∃ N, N = Lz.base W + T.length := ⟨_, rfl⟩
          obtain ⟨hbw, hmp, hmg, hmv, hml2⟩ := hpk
          rw [← hN] at hbw
          obtain ⟨Y, hY⟩ : ∃ Y : Nat, Y = 2 ^ size := ⟨_, rfl⟩
          have hY2 : (2 : Int) ^ size = Y := by rw [hY]; exact (Int.natCast_pow 2 size).symm
          have hYl : Y ≤ 4096 := by rw [hY]; exact Nat.pow_le_pow_right (show 0 < 2 by omega) hs12
          have hNl : N ≤ 4095 := by omega
          have hZX : ∀ z, W + 1 ≤ z → Z < 2 ^ z := fun z hz => by
            have h1 : (2 : Nat) ^ (W + 1) ≤ 2 ^ z := Nat.pow_le_pow_right (by omega) hz
            have h3 : (2 : Nat) ^ 2 ≤ 2 ^ W := Nat.pow_le_pow_right (by omega) h2
            rw [Nat.pow_succ] at h1
            omega
          have HZX := Lib.hid hZX
          have HN := Lib.hid hN
          have HY := Lib.hid hY
          have HX := Lib.hid hX
          have HZ := Lib.hid hZ
          have hblen : bs.length ≤ 8000000 := by omega
          have d3 : wr.cell? ⟨w1.heap.size, 3, none⟩ = some (.int .i64 size) := by rw [hbw.blk.cell]; simp
          have d4 : wr.cell? ⟨w1.heap.size, 4, none⟩ = some (.int .i64 N) := by rw [hbw.blk.cell]; simp
          have f3 := hbw.blk.free 3
          clear hN hY hX hZ hZX hfm hmost hf
          by_cases h0 : s.size = 0
          · have hn : lst s = [] := List.eq_nil_of_length_eq_zero (by rw [lst_length]; exact h0)
            have hn2 : s.toList = [] := by rw [Lib.toList_data]; exact hn
            have hn3 : (!s.toList.isEmpty) = false := by rw [hn2]; rfl
            have hfin : bs ++ Bit.low Z size = Lz.lzw W (lst s) := by
              rw [← HEQ.out, if_neg (by omega), List.drop_of_length_le (by rw [lst_length]; exact Nat.le_refl _), Lz.enc_nil, HZ.out, HX.out]
            have HF := Lib.hid hfin
            clear hn hfin h0
            go_wp2_with fail
            go_region
            go_wp2_with fail
            refine (code_any w1.heap.size w1.heap.size W (size) Z (.int .i64 N) (.map (some mb)) v bs _ ⟨hbw.blk.drew, hbw.own.drew, hbw.ne⟩ (HZX.out _ (by omega)) (by omega) (by omega) hbsz).mono ?_
            rintro e w5 ⟨rfl, v5, hbw5, hf5, hk5⟩
            go_wp2_with fail
            refine (text_any _ _ _ _ _ _ _ hbw5).mono ?_
            rintro e w6 ⟨rfl, rfl⟩
            go_wp2
            go_ret2
            refine ⟨_, rfl, by rw [HF.out], ?_⟩
            have hk6 : Below w1.heap.size _ _ := hk5.below (B := w1.heap.size) (fun x hx => by
              rcases hx with rfl | hx
              · exact Nat.le_refl _
              · exact (hbw.own.lt x hx).1) hbsz
            exact (hbel.drew).trans hk6
          · have hn2 : s.toList ≠ [] := by
              rw [Lib.toList_data]
              intro e
              have : s.size = 0 := by rw [← lst_length]; unfold lst; rw [e]; rfl
              omega
            have hn3 : (!s.toList.isEmpty) = true := by cases h : s.toList with
              | nil => exact absurd h hn2
              | cons => rfl
            by_cases hEq : N = Y
            · have hq : ((N : Int) == Y) = true := by rw [beq_iff_eq]; omega
              by_cases hlt12 : size < 12
              · have hgr : Lz.grow W L.length size = size + 1 := by
                  unfold Lz.grow
                  rw [← hLT, ← HN.out, ← HY.out, if_pos ⟨hEq, hlt12⟩]
                have hfin : bs ++ Bit.low Z (size + 1) = Lz.lzw W (lst s) := by
                  rw [← HEQ.out, if_pos ⟨lst_length s, h0⟩, hgr, HZ.out, HX.out]
                have HF := Lib.hid hfin
                clear hgr hfin h0
                have hB6 := hbw.blk.set_ 3 (.int .i64 (size + 1))
                have hB7 : Blk (wr.setCell ⟨w1.heap.size, 3, none⟩ (.int .i64 (size + 1))) w1.heap.size 115 (v :: .int .i64 bs.length :: [.int .i64 W, .int .i64 (size + 1 : Nat), .int .i64 N, .map (some mb)]).toArray := by simpa using hB6
                have HB7 := Lib.hid hB7
                have HO7 := Lib.hid (hbw.own.setCell (p := ⟨w1.heap.size, 3, none⟩) hbw.ne (.int .i64 (size + 1)))
                clear hB6 hB7
                subst hEq
                go_wp2_with fail
                go_region
                go_wp2_with fail
                refine (code_any w1.heap.size w1.heap.size W (size + 1) Z (.int .i64 N) (.map (some mb)) v bs _ ⟨HB7.out.drew, HO7.out.drew, hbw.ne⟩ (HZX.out _ (by omega)) (by omega) (by omega) (by simpa [World.setCell] using hbsz)).mono ?_
                rintro e w5 ⟨rfl, v5, hbw5, hf5, hk5⟩
                go_wp2_with fail
                refine (text_any _ _ _ _ _ _ _ hbw5).mono ?_
                rintro e w6 ⟨rfl, rfl⟩
                go_wp2
                go_ret2
                refine ⟨_, rfl, by rw [HF.out], ?_⟩
                have hk6 : Below w1.heap.size _ _ := hk5.below (B := w1.heap.size) (fun x hx => by
                  rcases hx with rfl | hx
                  · exact Nat.le_refl _
                  · exact (hbw.own.lt x hx).1) (by simpa [World.setCell] using hbsz)
                exact ((hbel.setCell (p := ⟨w1.heap.size, 3, none⟩) (Nat.le_refl _) _).drew).trans hk6
              · have hgr : Lz.grow W L.length size = size := by
                  unfold Lz.grow
                  rw [← hLT, ← HN.out, ← HY.out, if_neg (fun e => hlt12 e.2)]
                have hfin : bs ++ Bit.low Z (size) = Lz.lzw W (lst s) := by
                  rw [← HEQ.out, if_pos ⟨lst_length s, h0⟩, hgr, HZ.out, HX.out]
                have HF := Lib.hid hfin
                clear hgr hfin h0
                subst hEq
                go_wp2_with fail
                go_region
                go_wp2_with fail
                refine (code_any w1.heap.size w1.heap.size W (size) Z (.int .i64 N) (.map (some mb)) v bs _ ⟨hbw.blk.drew, hbw.own.drew, hbw.ne⟩ (HZX.out _ (by omega)) (by omega) (by omega) hbsz).mono ?_
                rintro e w5 ⟨rfl, v5, hbw5, hf5, hk5⟩
                go_wp2_with fail
                refine (text_any _ _ _ _ _ _ _ hbw5).mono ?_
                rintro e w6 ⟨rfl, rfl⟩
                go_wp2
                go_ret2
                refine ⟨_, rfl, by rw [HF.out], ?_⟩
                have hk6 : Below w1.heap.size _ _ := hk5.below (B := w1.heap.size) (fun x hx => by
                  rcases hx with rfl | hx
                  · exact Nat.le_refl _
                  · exact (hbw.own.lt x hx).1) hbsz
                exact (hbel.drew).trans hk6
            · have hq : ((N : Int) == Y) = false := by rw [beq_eq_false_iff_ne]; omega
              have hgr : Lz.grow W L.length size = size := by
                unfold Lz.grow
                rw [← hLT, ← HN.out, ← HY.out, if_neg (fun e => hEq e.1)]
              have hfin : bs ++ Bit.low Z (size) = Lz.lzw W (lst s) := by
                rw [← HEQ.out, if_pos ⟨lst_length s, h0⟩, hgr, HZ.out, HX.out]
              have HF := Lib.hid hfin
              clear hgr hfin h0
              go_wp2_with fail
              go_region
              go_wp2_with fail
              refine (code_any w1.heap.size w1.heap.size W (size) Z (.int .i64 N) (.map (some mb)) v bs _ ⟨hbw.blk.drew, hbw.own.drew, hbw.ne⟩ (HZX.out _ (by omega)) (by omega) (by omega) hbsz).mono ?_
              rintro e w5 ⟨rfl, v5, hbw5, hf5, hk5⟩
              go_wp2_with fail
              refine (text_any _ _ _ _ _ _ _ hbw5).mono ?_
              rintro e w6 ⟨rfl, rfl⟩
              go_wp2
              go_ret2
              refine ⟨_, rfl, by rw [HF.out], ?_⟩
              have hk6 : Below w1.heap.size _ _ := hk5.below (B := w1.heap.size) (fun x hx => by
                rcases hx with rfl | hx
                · exact Nat.le_refl _
                · exact (hbw.own.lt x hx).1) hbsz
              exact (hbel.drew).trans hk6
end Go.Proofs.YtncedhhgclofbaaDoor
