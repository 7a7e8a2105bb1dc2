/- What a film's reader answers, on bytes: plainly. -/
import Derived.Test.YtkegkelaffohjaaGreatDoorQCFilmTwiceFilmFrame
namespace Go.Proofs.YtkegkelaffohjaaGreatDoor
open Go Go.RowKit
def framesB (W H : Nat) : Nat → Nat → List CB → Option (List (Nat × ByteArray) × List CB)
 | 0, _, l => some ([], l)
 | n + 1, i, l =>
  match frameB W H (2 * i - 1) i l with
  | none => none
  | some (f, l1) =>
   match framesB W H n (i + 1) l1 with
   | none => none
   | some (fs, l2) => some (f :: fs, l2)
def lsD (ds : List (Nat × ByteArray)) : List (Nat × List UInt8) := ds.map fun q => (q.1, lst q.2)
theorem framesB_is (W H : Nat) : ∀ (n i : Nat) (l : List CB), (framesB W H n i l).map (fun p => (lsD p.1, chL p.2)) = Film.rframes W H n i (chL l)
 | 0, _, _ => rfl
 | n + 1, i, l => by
  have h1 := frameB_is W H i l
  rw [framesB, Film.rframes, ← h1]
  cases frameB W H (2 * i - 1) i l with
  | none => rfl
  | some p =>
   obtain ⟨f, l1⟩ := p
   have h2 := framesB_is W H n (i + 1) l1
   simp only [Option.map_some]
   rw [← h2]
   cases framesB W H n (i + 1) l1 with
   | none => rfl
   | some q => rfl
def aheadD (ds : List (Nat × ByteArray)) (r : Option (List (Nat × ByteArray) × List CB)) : Option (List (Nat × ByteArray) × List CB) := r.map fun p => (ds ++ p.1, p.2)
theorem aheadD_one (W H n i : Nat) (ds : List (Nat × ByteArray)) (l : List CB) : aheadD ds (framesB W H (n + 1) i l) = match frameB W H (2 * i - 1) i l with
  | none => none
  | some (f, l1) => aheadD (ds ++ [f]) (framesB W H n (i + 1) l1) := by
 unfold aheadD
 rw [framesB]
 cases frameB W H (2 * i - 1) i l with
 | none => rfl
 | some p =>
  obtain ⟨f, l1⟩ := p
  simp only
  cases framesB W H n (i + 1) l1 with
  | none => rfl
  | some q => simp
theorem aheadD_nil (r : Option (List (Nat × ByteArray) × List CB)) : aheadD [] r = r := by cases r <;> rfl
def Short (M : Nat) (l : List CB) : Prop := ∀ x ∈ l, x.2.size ≤ M
theorem takeB_short {M : Nat} {k d : ByteArray} {z : Int} {l l' : List CB} (h : takeB k z l = some (d, l')) (hs : Short M l) : d.size ≤ M ∧ Short M l' := by
 cases l with
 | nil => cases h
 | cons x l =>
  unfold takeB at h
  simp only at h
  split at h
  ·cases h
  ·injection h with h
   injection h with h1 h2
   subst h1; subst h2
   exact ⟨hs x (by simp), fun y hy => hs y (List.mem_cons_of_mem _ hy)⟩
theorem frameB_short {M W H nx i : Nat} {l l' : List CB} {f : Nat × ByteArray} (h : frameB W H nx i l = some (f, l')) (hs : Short M l) : f.2.size ≤ M ∧ Short M l' := by
 unfold frameB at h
 cases h1 : takeB ⟨#[102, 99, 84, 76]⟩ 26 l with
 | none => rw [h1] at h; cases h
 | some p =>
  obtain ⟨c, l1⟩ := p
  rw [h1] at h
  simp only at h
  have s1 := (takeB_short h1 hs).2
  split at h
  ·cases h
  ·split at h
   ·cases h2 : takeB ⟨#[73, 68, 65, 84]⟩ (-1) l1 with
    | none => rw [h2] at h; cases h
    | some q =>
     obtain ⟨d, l2⟩ := q
     rw [h2] at h
     injection h with h
     injection h with h3 h4
     subst h3; subst h4
     exact takeB_short h2 s1
   ·cases h2 : takeB ⟨#[102, 100, 65, 84]⟩ (-1) l1 with
    | none => rw [h2] at h; cases h
    | some q =>
     obtain ⟨d, l2⟩ := q
     rw [h2] at h
     simp only at h
     split at h
     ·cases h
     ·injection h with h
      injection h with h3 h4
      subst h3; subst h4
      have s2 := takeB_short h2 s1
      refine ⟨?_, s2.2⟩
      show (d.extract 4 d.size).size ≤ M
      rw [ByteArray.size_extract]
      omega
theorem headB_short {M : Nat} {l l' : List CB} {r : Nat × Nat × Nat × Nat} (h : headB l = some (r, l')) (hs : Short M l) : Short M l' := by
 unfold headB at h
 cases h1 : takeB ⟨#[73, 72, 68, 82]⟩ 13 l with
 | none => rw [h1] at h; cases h
 | some p =>
  obtain ⟨c, l1⟩ := p
  rw [h1] at h
  simp only at h
  have s1 := (takeB_short h1 hs).2
  cases h2 : takeB ⟨#[97, 99, 84, 76]⟩ 8 l1 with
  | none => rw [h2] at h; cases h
  | some q =>
   obtain ⟨d, l2⟩ := q
   rw [h2] at h
   simp only at h
   split at h
   ·cases h
   ·split at h
    ·cases h
    ·injection h with h
     injection h with h3 h4
     subst h4
     exact (takeB_short h2 s1).2
theorem headB_most {l l' : List CB} {W H m lp : Nat} (h : headB l = some ((W, H, m, lp), l')) : (1 ≤ W ∧ W ≤ 256) ∧ (1 ≤ H ∧ H ≤ 256) ∧ (1 ≤ m ∧ m ≤ 16) ∧ lp ≤ 65535 := by
 unfold headB at h
 cases h1 : takeB ⟨#[73, 72, 68, 82]⟩ 13 l with
 | none => rw [h1] at h; cases h
 | some p =>
  obtain ⟨c, l1⟩ := p
  rw [h1] at h
  simp only at h
  cases h2 : takeB ⟨#[97, 99, 84, 76]⟩ 8 l1 with
  | none => rw [h2] at h; cases h
  | some q =>
   obtain ⟨d, l2⟩ := q
   rw [h2] at h
   simp only at h
   split at h
   ·cases h
   ·rename_i q1
    split at h
    ·cases h
    ·rename_i q2
     injection h with h
     injection h with h3 h4
     injection h3 with e1 h3
     injection h3 with e2 h3
     injection h3 with e3 e4
     omega
theorem chunks_short {s : List UInt8} {l : List Chk.C} (h : Chk.chunks s = .ok l) : s.length ≤ 300000 ∧ ∀ c ∈ l, c.2.length ≤ s.length := by
 have key : ∀ (f k : Nat) (s : List UInt8) (l : List Chk.C), Chk.rch f k s = .ok l → ∀ c ∈ l, c.2.length ≤ s.length := by
  intro f
  induction f with
  | zero =>
   intro k s l h c hc
   injection h with h
   subst h
   cases hc
  | succ f ih =>
   intro k s l h c hc
   rw [Chk.rch] at h
   split at h
   ·injection h with h
    subst h
    cases hc
   ·split at h
    ·cases h
    ·split at h
     ·cases h
     ·split at h
      ·cases h
      ·revert h
       cases hr : Chk.rch f (k + 12 + Crc.val (s.take 4)) (s.drop (12 + Crc.val (s.take 4))) with
       | error e => intro h; cases h
       | ok l2 =>
        intro h
        injection h with h
        subst h
        rcases List.mem_cons.1 hc with rfl | hc
        ·show (List.take _ (List.drop _ _)).length ≤ _
         rw [List.length_take, List.length_drop]
         omega
        ·have := ih _ _ _ hr c hc
         rw [List.length_drop] at this
         omega
 unfold Chk.chunks at h
 split at h
 ·cases h
 ·split at h
  ·cases h
  ·refine ⟨by omega, fun c hc => ?_⟩
   have := key _ _ _ _ h c hc
   rw [List.length_drop] at this
   omega
theorem short_of {s : List UInt8} {l : List CB} (h : Chk.chunks s = .ok (chL l)) : Short 300000 l := fun x hx => by
 have h1 := chunks_short h
 have h2 := h1.2 (lst x.1, lst x.2) (List.mem_map.2 ⟨x, hx, rfl⟩)
 rw [lst_length] at h2
 omega
theorem end_is (l : List CB) : (∃ l', takeB ⟨#[73, 69, 78, 68]⟩ 0 l = some (⟨#[]⟩, l') ∧ l' = []) ↔ chL l = [(Film.kIEND, [])] := by
 constructor
 ·rintro ⟨l', h, rfl⟩
  have h2 := takeB_is ⟨#[73, 69, 78, 68]⟩ 0 l
  rw [h] at h2
  replace h2 : some (([] : List UInt8), ([] : List Chk.C)) = Film.takeC Film.kIEND (some 0) (chL l) := h2
  cases hl : chL l with
  | nil => rw [hl] at h2; cases h2
  | cons x r =>
   rw [hl] at h2
   rw [Film.takeC] at h2
   split at h2
   ·cases h2
   ·rename_i hn
    injection h2 with h2
    injection h2 with h3 h4
    rw [← h4]
    have e1 : x.1 = Film.kIEND := Decidable.byContradiction fun e => hn (.inl e)
    rw [show x = (x.1, x.2) from rfl, e1, ← h3]
 ·intro h
  cases l with
  | nil => cases h
  | cons x r =>
   have h1 : chL (x :: r) = (lst x.1, lst x.2) :: chL r := rfl
   rw [h1] at h
   injection h with h2 h3
   injection h2 with h4 h5
   have e1 : x.1 = ⟨#[73, 69, 78, 68]⟩ := lst_inj h4
   have e2 : x.2 = ⟨#[]⟩ := lst_inj h5
   have e3 : r = [] := by
    cases r with
    | nil => rfl
    | cons y t => cases h3
   refine ⟨[], ?_, rfl⟩
   unfold takeB
   simp only
   rw [if_neg, e2, e3]
   rintro (h | ⟨-, h⟩)
   ·exact h e1
   ·rw [e2] at h
    exact h rfl
end Go.Proofs.YtkegkelaffohjaaGreatDoor
