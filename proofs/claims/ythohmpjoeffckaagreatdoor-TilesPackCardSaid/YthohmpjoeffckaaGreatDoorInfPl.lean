/- What is read of a packed text, plainly: how long it is, what is left. -/
import Derived.Test.YthohmpjoeffckaaGreatDoorPakLaw
namespace Go.Proofs.YthohmpjoeffckaaGreatDoor
namespace Inf
open Mat
theorem get_drop {k : Nat} {bs b1 : List Bool} {x : Nat} (h : get k bs = some (x, b1)) : b1.length = bs.length - k ∧ k ≤ bs.length := by
  unfold get at h
  split at h
  · cases h
  · injection h with h
    injection h with h1 h2
    rw [← h2, List.length_drop]
    omega
theorem copyLen (d : Nat) : ∀ (n : Nat) (out : List UInt8), (copy d n out).length = out.length + n
  | 0, _ => rfl
  | n + 1, out => by rw [copy, copyLen d n, List.length_append]; simp; omega
theorem rtoks_len {nl nd : List Bool → Option (Nat × List Bool)} (hl : ∀ b k r, nl b = some (k, r) → r.length ≤ b.length) (hd : ∀ b k r, nd b = some (k, r) → r.length ≤ b.length) (most : Nat) :
    ∀ (f : Nat) (bs : List Bool) (out : List UInt8) (b : List Bool) (o : List UInt8), rtoks nl nd most f bs out = .ok (b, o) → out.length ≤ most → b.length ≤ bs.length ∧ o.length ≤ most
  | 0, _, _, _, _, h, _ => by cases h
  | f + 1, bs, out, b, o, h, ho => by
    rw [rtoks_succ] at h
    unfold rstep at h
    cases hn : nl bs with
    | none => rw [hn] at h; cases h
    | some r =>
      obtain ⟨k, b1⟩ := r
      have h1 := hl _ _ _ hn
      rw [hn] at h
      simp only at h
      split at h
      · injection h with h
        injection h with e1 e2
        subst e1; subst e2
        exact ⟨h1, ho⟩
      · split at h
        · split at h
          · have := rtoks_len hl hd most f b1 _ b o h (by rw [List.length_append]; simp; omega)
            omega
          · cases h
        · split at h
          · cases h
          · cases hx : get (LenBits.getD (k - 257) 0) b1 with
            | none => rw [hx] at h; cases h
            | some r =>
              obtain ⟨x, b2⟩ := r
              have h2 := get_drop hx
              rw [hx] at h
              simp only at h
              cases hdd : nd b2 with
              | none => rw [hdd] at h; cases h
              | some r =>
                obtain ⟨d, b3⟩ := r
                have h3 := hd _ _ _ hdd
                rw [hdd] at h
                simp only at h
                split at h
                · cases h
                · cases hy : get (DistBits.getD d 0) b3 with
                  | none => rw [hy] at h; cases h
                  | some r =>
                    obtain ⟨y, b4⟩ := r
                    have h4 := get_drop hy
                    rw [hy] at h
                    simp only at h
                    split at h
                    · cases h
                    · split at h
                      · cases h
                      · have := rtoks_len hl hd most f b4 _ b o h (by rw [copyLen]; omega)
                        omega
theorem rstored_len {most : Nat} {bs b : List Bool} {out o : List UInt8} (h : rstored most bs out = .ok (b, o)) : b.length ≤ bs.length ∧ o.length ≤ most := by
  unfold rstored at h
  cases h1 : get 16 (bs.drop (bs.length % 8)) with
  | none => rw [h1] at h; cases h
  | some r =>
    obtain ⟨n, b1⟩ := r
    have g1 := get_drop h1
    rw [h1] at h
    simp only at h
    cases h2 : get 16 b1 with
    | none => rw [h2] at h; cases h
    | some r =>
      obtain ⟨m, b2⟩ := r
      have g2 := get_drop h2
      rw [h2] at h
      simp only at h
      split at h
      · cases h
      · split at h
        · cases h
        · split at h
          · cases h
          · rename_i q1 q2 q3
            injection h with h
            injection h with e1 e2
            rw [List.length_drop] at g1
            subst e1; subst e2
            refine ⟨by rw [List.length_drop]; omega, ?_⟩
            rw [List.length_append, Bit.pack_length, List.length_take]
            omega
theorem next_len (l : List Nat) (b : List Bool) (k : Nat) (r : List Bool) (h : Huf.next l 15 0 0 b = some (k, r)) : r.length ≤ b.length := by
  have := (Huf.next_sym 15 0 0 b (by omega) h).2.1
  omega
theorem five_len (b : List Bool) (k : Nat) (r : List Bool) (h : five b = some (k, r)) : r.length ≤ b.length := by
  unfold five at h
  split at h
  · cases h
  · injection h with h
    injection h with h1 h2
    rw [← h2, List.length_drop]
    omega
theorem five_lt (b : List Bool) (k : Nat) (r : List Bool) (h : five b = some (k, r)) : k < 32 := by
  unfold five at h
  split at h
  · cases h
  · injection h with h
    injection h with h1 h2
    rw [← h1]
    have := Bit.val_lt (b.take 5).reverse
    rw [List.length_reverse, List.length_take] at this
    exact Nat.lt_of_lt_of_le this (Nat.pow_le_pow_right (by omega) (Nat.min_le_left _ _))
theorem rsmall_len : ∀ (o : List Nat) (b : List Bool) (l : List Nat) (l' : List Nat) (r : List Bool), rsmall o b l = some (l', r) → r.length ≤ b.length
  | [], b, l, l', r, h => by rw [rsmall] at h; injection h with h; injection h with h1 h2; rw [h2]; exact Nat.le_refl _
  | k :: o, b, l, l', r, h => by
    rw [rsmall] at h
    cases hx : get 3 b with
    | none => rw [hx] at h; cases h
    | some q =>
      obtain ⟨x, b1⟩ := q
      have g := get_drop hx
      rw [hx] at h
      have := rsmall_len o b1 _ l' r h
      omega
theorem rmore_len {all : Nat} {go : List Bool → List Nat → Option (List Nat × List Bool)} {B : Nat} (hgo : ∀ b l l' r, b.length ≤ B → l.length ≤ all → go b l = some (l', r) → r.length ≤ b.length ∧ l'.length = all) {l l' : List Nat} {x : Option (Nat × List Bool)} {fr wh : Nat} {r : List Bool} (hx : ∀ y b, x = some (y, b) → b.length ≤ B) (h : rmore all go l x fr wh = some (l', r)) : r.length ≤ B ∧ l'.length = all := by
  unfold rmore at h
  cases x with
  | none => cases h
  | some q =>
    obtain ⟨y, b⟩ := q
    simp only at h
    split at h
    · cases h
    · have h1 := hx y b rfl
      have := hgo b _ l' r h1 (by rw [List.length_append, List.length_replicate]; omega) h
      omega
theorem rlens_len (small : List Nat) (all : Nat) : ∀ (f : Nat) (b : List Bool) (l l' : List Nat) (r : List Bool), l.length ≤ all → rlens small all f b l = some (l', r) → r.length ≤ b.length ∧ l'.length = all
  | 0, _, _, _, _, _, h => by cases h
  | f + 1, b, l, l', r, hl, h => by
    rw [rlens_succ] at h
    split at h
    · unfold rlstep at h
      cases hn : Huf.next small 15 0 0 b with
      | none => rw [hn] at h; cases h
      | some q =>
        obtain ⟨k, b1⟩ := q
        have h1 := next_len _ _ _ _ hn
        rw [hn] at h
        simp only at h
        have hgo : ∀ b' m m' r', b'.length ≤ b1.length → m.length ≤ all → rlens small all f b' m = some (m', r') → r'.length ≤ b'.length ∧ m'.length = all := fun b' m m' r' _ h2 h3 => rlens_len small all f b' m m' r' h2 h3
        have hg : ∀ n y b', get n b1 = some (y, b') → b'.length ≤ b1.length := fun n y b' h2 => by have := get_drop h2; omega
        split at h
        · split at h
          · cases h
          · have := rmore_len hgo (hg 2) h; omega
        · split at h
          · have := rmore_len hgo (hg 3) h; omega
          · split at h
            · have := rmore_len hgo (hg 7) h; omega
            · have := rmore_len hgo (fun y b' e => by injection e with e; injection e with e1 e2; rw [e2]; exact Nat.le_refl _) h; omega
    · injection h with h
      injection h with e1 e2
      subst e1; subst e2
      exact ⟨Nat.le_refl _, by omega⟩
/-- What a dynamic block's head gives. -/
theorem rdynamic_some {bs b : List Bool} {l d : List Nat} (h : rdynamic bs = some ((l, d), b)) : Huf.Good l ∧ Huf.Good d ∧ l.length ≤ 286 ∧ d.length ≤ 30 ∧ b.length ≤ bs.length := by
  unfold rdynamic at h
  cases h1 : get 5 bs with
  | none => rw [h1] at h; cases h
  | some q =>
  obtain ⟨x, b1⟩ := q
  have g1 := get_drop h1
  rw [h1] at h
  simp only at h
  cases h2 : get 5 b1 with
  | none => rw [h2] at h; cases h
  | some q =>
  obtain ⟨y, b2⟩ := q
  have g2 := get_drop h2
  rw [h2] at h
  simp only at h
  cases h3 : get 4 b2 with
  | none => rw [h3] at h; cases h
  | some q =>
  obtain ⟨z, b3⟩ := q
  have g3 := get_drop h3
  rw [h3] at h
  simp only at h
  split at h
  · cases h
  · rename_i hm
    cases h4 : rsmall (Order.take (z + 4)) b3 (List.replicate 19 0) with
    | none => rw [h4] at h; cases h
    | some q =>
    obtain ⟨small, b4⟩ := q
    have g4 := rsmall_len _ _ _ _ _ h4
    rw [h4] at h
    simp only at h
    split at h
    · cases h
    · cases h5 : rlens small (x + 257 + (y + 1)) (b4.length + 1) b4 [] with
      | none => rw [h5] at h; cases h
      | some q =>
      obtain ⟨ls, b5⟩ := q
      have g5 := rlens_len _ _ _ _ _ _ _ (Nat.zero_le _) h5
      rw [h5] at h
      simp only at h
      split at h
      · cases h
      · rename_i hq
        injection h with h
        injection h with e1 e2
        injection e1 with e3 e4
        subst e3; subst e4; subst e2
        refine ⟨Decidable.byContradiction fun e => hq (.inl e), Decidable.byContradiction fun e => hq (.inr (.inl e)), by rw [List.length_take]; omega, by rw [List.length_drop]; omega, by omega⟩
/-- A block takes a bit at least; its text is not beyond the bound. -/
theorem rblock_len {most : Nat} {bs b : List Bool} {out o : List UInt8} {last : Bool} (h : rblock most bs out = .ok (last, b, o)) (ho : out.length ≤ most) : b.length < bs.length ∧ o.length ≤ most := by
  unfold rblock at h
  cases h1 : get 1 bs with
  | none => rw [h1] at h; cases h
  | some q =>
  obtain ⟨x, b1⟩ := q
  have g1 := get_drop h1
  rw [h1] at h
  simp only at h
  cases h2 : get 2 b1 with
  | none => rw [h2] at h; cases h
  | some q =>
  obtain ⟨y, b2⟩ := q
  have g2 := get_drop h2
  rw [h2] at h
  simp only at h
  have key : ∀ (E : Except Nat (List Bool × List UInt8)), (∀ b' o', E = .ok (b', o') → b'.length ≤ b2.length ∧ o'.length ≤ most) → (match E with | .error e => Except.error e | .ok (b3, out2) => .ok (x == 1, b3, out2)) = Except.ok (last, b, o) → b.length ≤ b2.length ∧ o.length ≤ most := fun E hE h => by
    cases E with
    | error e => cases h
    | ok q =>
      obtain ⟨b', o'⟩ := q
      injection h with h
      injection h with e1 e2
      injection e2 with e2 e3
      subst e2; subst e3
      exact hE _ _ rfl
  have hk := key _ (fun b' o' hE => ?_) h
  · omega
  · split at hE
    · exact rstored_len hE
    · split at hE
      · exact rtoks_len (next_len _) five_len most _ _ _ _ _ hE ho
      · split at hE
        · cases h3 : rdynamic b2 with
          | none => rw [h3] at hE; cases hE
          | some q =>
            obtain ⟨⟨l, d⟩, b3⟩ := q
            have g3 := rdynamic_some h3
            rw [h3] at hE
            have := rtoks_len (next_len _) (next_len _) most _ _ _ _ _ hE ho
            omega
        · cases hE
end Inf
end Go.Proofs.YthohmpjoeffckaaGreatDoor
