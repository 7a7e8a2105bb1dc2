/- lzw.Join: the walk. -/
import Derived.Test.YtncedhhgclofbaaDoorRefBits
import Derived.Test.YtncedhhgclofbaaDoorLzwLaw
import Derived.Test.YtncedhhgclofbaaDoorEr4
namespace Go.Proofs.YtncedhhgclofbaaDoor
open Go Go.RowKit

/-- What Join's loop keeps. -/
structure JnR (w : World) (s : ByteArray) (R : Option (List UInt8 × Nat)) (u o : Value) (wr : World) : Prop where
  a : ∃ (k f : Nat) (t : List UInt8), u = .int .i64 k ∧ k ≤ s.size ∧ s.size < f + k ∧ t.length ≤ k ∧ Blo.joinF f (lst s) t k = R ∧ Own wr w.heap.size 1 o t.length (bytes t)
  bel : Below w.heap.size w wr
/-- What Join gives. -/
def Joined (E : Nat → Addr) (w : World) (R : Option (List UInt8 × Nat)) (n : Nat) (e : Ending) (w' : World) : Prop :=
  Below w.heap.size w w' ∧ match R with
  | some r => e = .returned (.tuple #[.string ⟨r.1.toArray⟩, .int .i64 r.2, .nilIface]) ∧ r.2 ≤ n ∧ r.1.length ≤ n
  | none => e = .returned (.tuple #[.string ⟨#[]⟩, .int .i64 0, errV (E 0)])
set_option maxHeartbeats 2000000 in
set_option maxRecDepth 100000 in
theorem join_any (s : ByteArray) (E : Nat → Addr) (w : World) (hE : Er4 w E) (hl : s.size ≤ 1099511627776) :
    Calls Tryd.prog 62 #[.string s] w fun e w' => Joined E w (Blo.joinF (s.size + 1) (lst s) [] 0) s.size e w' := by
  obtain ⟨i0, hi, hz0, hz1, hz2⟩ := info_parts byteInfo
  obtain ⟨R, hR⟩ : ∃ R, R = Blo.joinF (s.size + 1) (lst s) [] 0 := ⟨_, rfl⟩
  rw [← hR]
  have HR := Lib.hid hR
  clear hR
  go_enter Tryd.func62, Tryd.ntmps62
  go_wp2_with fail
  go_loopw [3, 5] (fun u o wr => JnR w s R u o wr) (fun u _ _ => s.size - (intOf u).toNat)
  case atStart => exact ⟨⟨0, s.size + 1, [], rfl, Nat.zero_le _, by omega, Nat.zero_le _, HR.out.symm, Own.nil _ _ _⟩, Below.refl _ _⟩
  case round =>
    obtain ⟨⟨k, f, t, rfl, hk, hf, ht, heq, hown⟩, hb⟩ := hrel
    have hsz := hb.size
    obtain ⟨A, c, rfl, hc, _⟩ := hown.form
    by_cases hlt : k < s.size
    · obtain ⟨f', rfl⟩ : ∃ f', f = f' + 1 := ⟨f - 1, by omega⟩
      have hq : (lst s)[k]? = some s[k] := by rw [List.getElem?_eq_getElem (by rw [lst_length]; exact hlt)]; rfl
      rw [Blo.joinF, hq] at heq
      replace heq : (if s[k].toNat = 0 then some (t, k + 1) else if (lst s).length < k + 1 + s[k].toNat then none else Blo.joinF f' (lst s) (t ++ ((lst s).drop (k + 1)).take s[k].toNat) (k + 1 + s[k].toNat)) = R := heq
      clear hq
      obtain ⟨x, hx⟩ : ∃ x, s[k].toNat = x := ⟨_, rfl⟩
      have h255 : x ≤ 255 := by have := s[k].toNat_lt; omega
      rw [hx] at heq
      by_cases h0 : x = 0
      · rw [if_pos h0] at heq
        subst h0
        subst heq
        have hcv := conv_reads wr _ t.length c _ _ hown.reads.2
        go_wp2_with fail
        exact bodyPost_ret (v := .tuple #[.string ⟨t.toArray⟩, .int .i64 (k + 1 : Nat), .nilIface]) (by simp [results, Tryd.results62, go_sem]) rfl ⟨hb, rfl, by show k + 1 ≤ s.size; omega, by show t.length ≤ s.size; omega⟩
      · rw [if_neg h0, lst_length] at heq
        have hz : ((x : Int) == 0) = false := by rw [beq_eq_false_iff_ne]; omega
        by_cases hgt : s.size < k + 1 + x
        · rw [if_pos hgt] at heq
          subst heq
          have hgt3 : (s.size : Int) < k + 1 + x := by omega
          have hEr := hE.below hb
          have htx := hEr.text
          go_wp2_with fail
          go_quiet (fail)
          go_wp2
          exact bodyPost_ret (v := .tuple #[.string ⟨#[]⟩, .int .i64 0, errV (E 0)]) (by simp [results, Tryd.results62, go_sem, errV]) rfl ⟨below_drewN hb _, rfl⟩
        · rw [if_neg hgt] at heq
          have hgt2 : k + 1 + x ≤ s.size := by omega
          have hgt3 : (k : Int) + 1 + x ≤ s.size := by omega
          have HE := Lib.hid heq
          clear heq
          have e1 : lst (s.extract (k + 1) (k + 1 + x)) = ((lst s).drop (k + 1)).take x := by rw [lst_extract, Nat.add_sub_cancel_left]
          have hy : (s.extract (k + 1) (k + 1 + x)).size = x := by rw [← lst_length, e1, List.length_take, List.length_drop, lst_length]; omega
          have hy2 : (s.extract (k + 1) (k + 1 + x)).size ≤ 255 := by omega
          obtain ⟨t2, ht2⟩ : ∃ t2, t2 = t ++ lst (s.extract (k + 1) (k + 1 + x)) := ⟨_, rfl⟩
          have HT2 : bytes t ++ byteCells (s.extract (k + 1) (k + 1 + x)) = bytes t2 := by rw [ht2, bytes_append]; rfl
          have hl2 : t2.length = t.length + x := by rw [ht2, List.length_append, lst_length, hy]
          have H2 := Lib.hid ht2
          have H3 := Lib.hid e1
          have H6 := Lib.hid hy
          have H7 := Lib.hid hl2
          clear ht2 e1 hy hl2
          go_wp2_with (at_builtin; refine wpList_append_S rfl (.tmp 28) (.tmp 34) 56 9 rfl w.heap.size 5 i0 (.int .u8 0) 1 1 Tryd.underlying56 hi hz0 hz1 hz2 rfl (by decide) (.slice A t.length c) t.length (bytes t) rfl hown (bytes_one _) (s.extract (k + 1) (k + 1 + x)).size (byteCells (s.extract (k + 1) (k + 1 + x))) (Src.ofString _ Tryd.underlying9 _) (t.length + x) (by rw [H6.out]) (bytes t2) HT2 (by unfold maxLen; omega) (by omega) (by first | omega | (simp; done) | (simp; omega)) ?_; intro A' c' w4 hown4 hg4 hat4)
          go_roundw
          case rel =>
            refine ⟨⟨k + 1 + x, f', t2, by go_num, by omega, by omega, by rw [H7.out]; omega, ?_, by rw [H7.out]; exact hown4⟩, hb.grown hg4 hsz (fun g hg => (hown.lt g hg).1)⟩
            rw [← HE.out, H2.out, H3.out]
          case measure => simp [intOf]; omega
    · have hEr := hE.below hb
      have htx := hEr.text
      have HE := Lib.hid heq
      clear heq
      go_wp2_with fail
      go_quiet (fail)
      go_wp2
      have hR : R = none := by
        obtain ⟨f', rfl⟩ : ∃ f', f = f' + 1 := ⟨f - 1, by omega⟩
        rw [← HE.out, Blo.joinF, List.getElem?_eq_none (by rw [lst_length]; omega)]
      subst hR
      exact bodyPost_ret (v := .tuple #[.string ⟨#[]⟩, .int .i64 0, errV (E 0)]) (by simp [results, Tryd.results62, go_sem, errV]) rfl ⟨below_drewN hb _, rfl⟩
end Go.Proofs.YtncedhhgclofbaaDoor
