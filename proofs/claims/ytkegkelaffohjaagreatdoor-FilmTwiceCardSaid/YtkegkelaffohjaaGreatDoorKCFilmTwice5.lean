/- LzwLaw, StableLaw, FilLaw: put together. -/
/- Bits, plainly: bits of a number, the lowest first; bits packed into bytes; bits of bytes. LZW, plainly: codes of words of a growing list: by searching the list (the document), by a tree of words (the program). LZW read, plainly; what is packed is read. A reader of codes, plainly: what it keeps is sound. Blocks of a text, plainly: cut into pieces of at most 255 bytes; joined again. -/
namespace Go.Proofs.YtkegkelaffohjaaGreatDoor
namespace Bit
def val : List Bool → Nat
 | [] => 0
 | b :: l => b.toNat + 2 * val l
def low (n w : Nat) : List Bool := (List.range w).map n.testBit
def byteOf (bs : List Bool) (j : Nat) : Nat := val ((bs.drop (8 * j)).take 8)
def pack (bs : List Bool) : List UInt8 := (List.range ((bs.length + 7) / 8)).map fun j => UInt8.ofNat (byteOf bs j)
def bits (s : List UInt8) : List Bool := (List.range (8 * s.length)).map fun i => ((s[i / 8]?.getD 0).toNat).testBit (i % 8)
theorem val_lt : ∀ l : List Bool, val l < 2 ^ l.length
 | [] => by simp [val]
 | b :: l => by
  have := val_lt l
  rw [List.length_cons, Nat.pow_succ, val]
  cases b <;> simp <;> omega
theorem val_snoc (b : Bool) : ∀ l : List Bool, val (l ++ [b]) = val l + b.toNat * 2 ^ l.length
 | [] => by simp [val]
 | c :: l => by
  rw [List.cons_append, val, val, val_snoc b l, List.length_cons, Nat.pow_succ, Nat.mul_add, ← Nat.add_assoc]
  congr 1
  rw [← Nat.mul_assoc, Nat.mul_comm 2, Nat.mul_assoc, Nat.mul_comm 2]
theorem testBit_val : ∀ (l : List Bool) (k : Nat), (val l).testBit k = l[k]?.getD false
 | [], k => by simp [val]
 | b :: l, 0 => by
  rw [val, Nat.testBit_zero]
  cases b <;> simp <;> omega
 | b :: l, k + 1 => by
  rw [Nat.testBit_succ, val]
  have : (b.toNat + 2 * val l) / 2 = val l := by cases b <;> simp <;> omega
  rw [this, testBit_val l k]
  simp
theorem low_length (n w : Nat) : (low n w).length = w := by simp [low]
theorem val_low (n : Nat) : ∀ w, val (low n w) = n % 2 ^ w
 | 0 => by simp [low, val, Nat.mod_one]
 | w + 1 => by
  have e : low n (w + 1) = low n w ++ [n.testBit w] := by simp [low, List.range_succ]
  rw [e, val_snoc, val_low n w, low_length, Nat.testBit_eq_decide_div_mod_eq, Nat.pow_succ, Nat.mod_mul]
  have h2 := Nat.mod_two_eq_zero_or_one (n / 2 ^ w)
  rcases h2 with h | h <;> simp [h]
theorem val_low_of {n w : Nat} (h : n < 2 ^ w) : val (low n w) = n := by rw [val_low, Nat.mod_eq_of_lt h]
theorem bits_length (s : List UInt8) : (bits s).length = 8 * s.length := by simp [bits]
theorem pack_length (bs : List Bool) : (pack bs).length = (bs.length + 7) / 8 := by simp [pack]
theorem pack_get (bs : List Bool) (j : Nat) (h : j < (pack bs).length) : (pack bs)[j] = UInt8.ofNat (byteOf bs j) := by simp [pack]
theorem byteOf_lt (bs : List Bool) (j : Nat) : byteOf bs j < 256 := by
 have h := val_lt ((bs.drop (8 * j)).take 8)
 have hl : ((bs.drop (8 * j)).take 8).length ≤ 8 := List.length_take_le _ _
 have := Nat.pow_le_pow_right (show 0 < 2 by omega) hl
 unfold byteOf
 omega
theorem byteOf_snoc (bs : List Bool) (b : Bool) (j : Nat) : byteOf (bs ++ [b]) j = byteOf bs j + if j = bs.length / 8 then b.toNat * 2 ^ (bs.length % 8) else 0 := by
 unfold byteOf
 by_cases h1 : j = bs.length / 8
 ·rw [if_pos h1]
  have hl : (bs.drop (8 * j)).length = bs.length % 8 := by rw [List.length_drop]; omega
  rw [List.drop_append_of_le_length (by omega), List.take_of_length_le (by rw [List.length_append, hl]; simp; omega), List.take_of_length_le (by omega), val_snoc, hl]
 ·rw [if_neg h1, Nat.add_zero]
  rcases Nat.lt_or_ge (8 * j) (bs.length + 1) with h2 | h2
  ·have h3 : 8 * j + 8 ≤ bs.length := by omega
   rw [List.drop_append_of_le_length (by omega), List.take_append_of_le_length (by rw [List.length_drop]; omega)]
  ·rw [List.drop_eq_nil_of_le (by simp; omega), List.drop_eq_nil_of_le (by omega)]
theorem byteOf_small (bs : List Bool) : byteOf bs (bs.length / 8) < 2 ^ (bs.length % 8) := by
 have h := val_lt ((bs.drop (8 * (bs.length / 8))).take 8)
 have hl : ((bs.drop (8 * (bs.length / 8))).take 8).length = bs.length % 8 := by rw [List.length_take, List.length_drop]; omega
 rw [hl] at h
 exact h
theorem byteOf_beyond (bs : List Bool) (j : Nat) (h : bs.length ≤ 8 * j) : byteOf bs j = 0 := by
 unfold byteOf
 rw [List.drop_eq_nil_of_le h]
 rfl
theorem pack_new (bs : List Bool) (b : Bool) (h : bs.length % 8 = 0) : pack (bs ++ [b]) = pack bs ++ [UInt8.ofNat b.toNat] := by
 have e : (bs.length + 1 + 7) / 8 = (bs.length + 7) / 8 + 1 := by omega
 have e2 : (bs.length + 7) / 8 = bs.length / 8 := by omega
 unfold pack
 rw [List.length_append, List.length_singleton, e, List.range_succ, List.map_append, List.map_singleton]
 congr 1
 ·apply List.map_congr_left
  intro j hj
  have := List.mem_range.1 hj
  rw [byteOf_snoc, if_neg (by omega), Nat.add_zero]
 ·rw [byteOf_snoc, if_pos e2, e2, byteOf_beyond _ _ (by omega), h]
  simp
theorem pack_more (bs : List Bool) (b : Bool) (h : bs.length % 8 ≠ 0) : pack (bs ++ [b]) = (pack bs).set (bs.length / 8) (UInt8.ofNat (byteOf bs (bs.length / 8) + b.toNat * 2 ^ (bs.length % 8))) := by
 have e : (bs.length + 1 + 7) / 8 = (bs.length + 7) / 8 := by omega
 apply List.ext_getElem
 ·rw [List.length_set, pack_length, pack_length, List.length_append, List.length_singleton, e]
 ·intro j h1 h2
  rw [List.getElem_set, pack_get, byteOf_snoc]
  by_cases hj : j = bs.length / 8
  ·rw [if_pos hj, if_pos hj.symm, hj]
  ·rw [if_neg hj, if_neg (fun e => hj e.symm), Nat.add_zero, pack_get]
theorem pack_last (bs : List Bool) (h : bs.length % 8 ≠ 0) : (pack bs)[bs.length / 8]? = some (UInt8.ofNat (byteOf bs (bs.length / 8))) := by
 unfold pack
 rw [List.getElem?_map, List.getElem?_range (by omega)]
 rfl
theorem or_add (a k : Nat) (b : Bool) (h : a < 2 ^ k) : a ||| (b.toNat <<< k) = a + b.toNat * 2 ^ k := by
 cases b
 ·simp
 ·rw [Nat.or_comm, Nat.shiftLeft_eq, Bool.toNat_true, Nat.one_mul, Nat.add_comm]
  have := (Nat.two_pow_add_eq_or_of_lt h 1).symm
  simpa using this
theorem bits_pack (bs : List Bool) : bits (pack bs) = bs ++ List.replicate (8 * ((bs.length + 7) / 8) - bs.length) false := by
 apply List.ext_getElem?
 intro i
 by_cases hi : i < 8 * ((bs.length + 7) / 8)
 ·unfold bits
  rw [List.getElem?_map, List.getElem?_range (by rw [pack_length]; exact hi), Option.map_some]
  unfold pack
  rw [List.getElem?_map, List.getElem?_range (by omega), Option.map_some, Option.getD_some, UInt8.toNat_ofNat_of_lt' (byteOf_lt _ _)]
  unfold byteOf
  rw [testBit_val, List.getElem?_take_of_lt (Nat.mod_lt _ (by omega)), List.getElem?_drop, Nat.div_add_mod]
  by_cases hb : i < bs.length
  ·rw [List.getElem?_append_left hb, List.getElem?_eq_getElem hb]
   rfl
  ·rw [List.getElem?_append_right (by omega), List.getElem?_eq_none (by omega), List.getElem?_replicate_of_lt (by omega)]
   rfl
 ·rw [List.getElem?_eq_none (by rw [bits_length, pack_length]; omega), List.getElem?_eq_none (by rw [List.length_append, List.length_replicate]; omega)]
theorem bits_at (s : List UInt8) (i : Nat) (h : i < 8 * s.length) : (bits s)[i]? = some (((s[i / 8]?.getD 0).toNat).testBit (i % 8)) := by
 unfold bits
 rw [List.getElem?_map, List.getElem?_range h]
 rfl
theorem val_more (l : List Bool) (a i : Nat) (h : a + i < l.length) : val ((l.drop a).take (i + 1)) = val ((l.drop a).take i) ||| ((l[a + i]).toNat <<< i) := by
 have hl : ((l.drop a).take i).length = i := by rw [List.length_take, List.length_drop]; omega
 have e : (l.drop a).take (i + 1) = (l.drop a).take i ++ [l[a + i]] := by
  rw [List.take_succ_eq_append_getElem (by rw [List.length_drop]; omega), List.getElem_drop]
 have := val_lt ((l.drop a).take i)
 rw [hl] at this
 rw [e, val_snoc, hl, or_add _ _ _ this]
end Bit
end Go.Proofs.YtkegkelaffohjaaGreatDoor
/- Stable sorting, plainly: what insertion sort and merging in place do to a list of elements with keys. -/
namespace Go.Proofs.YtkegkelaffohjaaGreatDoor
namespace Stab
variable {α : Type} {k : α → Int}
def Same (k : α → Int) (l l' : List α) : Prop := ∀ v : Int, l.filter (fun x => decide (k x = v)) = l'.filter (fun x => decide (k x = v))
def Srt (k : α → Int) (l : List α) : Prop := l.Pairwise (fun x y => k x ≤ k y)
theorem Same.refl (l : List α) : Same k l l := fun _ => rfl
theorem Same.symm {l l' : List α} (h : Same k l l') : Same k l' l := fun v => (h v).symm
theorem Same.trans {l l' l'' : List α} (h : Same k l l') (g : Same k l' l'') : Same k l l'' := fun v => (h v).trans (g v)
theorem Same.append {a a' b b' : List α} (h : Same k a a') (g : Same k b b') : Same k (a ++ b) (a' ++ b') := fun v => by
 rw [List.filter_append, List.filter_append, h v, g v]
theorem Same.mem {l l' : List α} (h : Same k l l') {x : α} (hx : x ∈ l) : x ∈ l' := by
 have h1 : x ∈ l.filter (fun y => decide (k y = k x)) := List.mem_filter.2 ⟨hx, by simp⟩
 rw [h (k x)] at h1
 exact (List.mem_filter.1 h1).1
theorem Same.swap {a b : List α} (h : ∀ x ∈ a, ∀ y ∈ b, k x ≠ k y) : Same k (a ++ b) (b ++ a) := fun v => by
 rw [List.filter_append, List.filter_append]
 by_cases ha : a.filter (fun x => decide (k x = v)) = []
 ·rw [ha, List.append_nil, List.nil_append]
 ·have hb : b.filter (fun x => decide (k x = v)) = [] := by
   rw [List.filter_eq_nil_iff]
   intro y hy hyv
   obtain ⟨x, hx⟩ := List.exists_mem_of_ne_nil _ ha
   obtain ⟨hx, hxv⟩ := List.mem_filter.1 hx
   exact h x hx y hy (by have := of_decide_eq_true hxv; have := of_decide_eq_true hyv; omega)
  rw [hb, List.append_nil, List.nil_append]
theorem uniq : ∀ {l l' : List α}, Srt k l → Srt k l' → Same k l l' → l = l'
 | [], l', _, _, h => by
  cases l' with
  | nil => rfl
  | cons y t => exact absurd (h.symm.mem (List.mem_cons_self)) (by simp)
 | x :: t, l', hl, hl', h => by
  cases l' with
  | nil => exact absurd (h.mem (List.mem_cons_self)) (by simp)
  | cons y t' =>
   obtain ⟨h1, h2⟩ := List.pairwise_cons.1 hl
   obtain ⟨h3, h4⟩ := List.pairwise_cons.1 hl'
   have hk : k x = k y := by
    have a1 : k y ≤ k x := by
     rcases List.mem_cons.1 (h.mem (List.mem_cons_self)) with e | e
     ·rw [e]; exact Int.le_refl _
     ·exact h3 x e
    have a2 : k x ≤ k y := by
     rcases List.mem_cons.1 (h.symm.mem (List.mem_cons_self)) with e | e
     ·rw [e]; exact Int.le_refl _
     ·exact h1 y e
    omega
   have hxy := h (k x)
   rw [List.filter_cons_of_pos (by simp), List.filter_cons_of_pos (by simp [hk])] at hxy
   obtain rfl : x = y := by injection hxy
   refine congrArg (x :: ·) (uniq h2 h4 fun v => ?_)
   have hv := h v
   by_cases e : k x = v
   ·rw [List.filter_cons_of_pos (by simpa using e), List.filter_cons_of_pos (by simpa using e)] at hv
    injection hv
   ·rw [List.filter_cons_of_neg (by simpa using e), List.filter_cons_of_neg (by simpa using e)] at hv
    exact hv
def Le (k : α → Int) (a b : List α) : Prop := ∀ x ∈ a, ∀ y ∈ b, k x ≤ k y
def Lt (k : α → Int) (a b : List α) : Prop := ∀ x ∈ a, ∀ y ∈ b, k x < k y
theorem srt_append {a b : List α} : Srt k (a ++ b) ↔ Srt k a ∧ Srt k b ∧ Le k a b := List.pairwise_append
theorem Srt.take {l : List α} (h : Srt k l) (i : Nat) : Srt k (l.take i) := List.Pairwise.sublist (List.take_sublist i l) h
theorem Srt.drop {l : List α} (h : Srt k l) (i : Nat) : Srt k (l.drop i) := List.Pairwise.sublist (List.drop_sublist i l) h
theorem Srt.at {l : List α} (h : Srt k l) (i j : Nat) (hi : i < l.length) (hj : j < l.length) (hij : i ≤ j) : k l[i] ≤ k l[j] := by
 rcases Nat.lt_or_ge i j with hlt | hge
 ·exact List.pairwise_iff_getElem.1 h i j hi hj hlt
 ·have : i = j := by omega
  subst this
  exact Int.le_refl _
theorem srt_one (x : α) : Srt k [x] := List.pairwise_singleton _ _
theorem mem_take_at {l : List α} {i : Nat} {x : α} (h : x ∈ l.take i) : ∃ j, ∃ hj : j < l.length, j < i ∧ l[j] = x := by
 obtain ⟨j, hj, e⟩ := List.getElem_of_mem h
 rw [List.length_take] at hj
 exact ⟨j, by omega, by omega, by rw [← e, List.getElem_take]⟩
theorem mem_drop_at {l : List α} {i : Nat} {x : α} (h : x ∈ l.drop i) : ∃ j, ∃ hj : j < l.length, i ≤ j ∧ l[j] = x := by
 obtain ⟨j, hj, e⟩ := List.getElem_of_mem h
 rw [List.length_drop] at hj
 exact ⟨i + j, by omega, by omega, by rw [← e, List.getElem_drop]⟩
theorem halves {A B : List α} (hA : Srt k A) (hB : Srt k B) (h i : Nat) (hi : i ≤ A.length) (hih : i ≤ h) (hb : h - i ≤ B.length)
  (l : i = 0 ∨ h - i = B.length ∨ ∃ (h1 : i - 1 < A.length) (h2 : h - i < B.length), k A[i - 1] ≤ k B[h - i])
  (r : i = A.length ∨ i = h ∨ ∃ (h1 : i < A.length) (h2 : h - 1 - i < B.length), k B[h - 1 - i] < k A[i]) :
  Le k (A.take i) (B.drop (h - i)) ∧ Lt k (B.take (h - i)) (A.drop i) := by
 refine ⟨fun x hx y hy => ?_, fun x hx y hy => ?_⟩
 ·obtain ⟨j, hj, hji, rfl⟩ := mem_take_at hx
  obtain ⟨t, ht, hti, rfl⟩ := mem_drop_at hy
  rcases l with rfl | e | ⟨h1, h2, hl⟩
  ·omega
  ·omega
  ·have e1 : j ≤ i - 1 := by clear r hl; omega
   have a1 := hA.at j (i - 1) hj h1 e1
   have a2 := hB.at (h - i) t h2 ht hti
   omega
 ·obtain ⟨j, hj, hji, rfl⟩ := mem_take_at hx
  obtain ⟨t, ht, hti, rfl⟩ := mem_drop_at hy
  rcases r with rfl | e | ⟨h1, h2, hl⟩
  ·omega
  ·omega
  ·have e1 : j ≤ h - 1 - i := by clear l hl; omega
   have a1 := hB.at j (h - 1 - i) hj h2 e1
   have a2 := hA.at i t h1 ht hti
   omega
theorem merged {A1 A2 B1 B2 C1 C2 : List α} (hA : Srt k (A1 ++ A2)) (hB : Srt k (B1 ++ B2)) (h1 : Le k A1 B2) (h2 : Lt k B1 A2)
  (s1 : Same k (A1 ++ B1) C1) (t1 : Srt k C1) (s2 : Same k (A2 ++ B2) C2) (t2 : Srt k C2) : Same k ((A1 ++ A2) ++ (B1 ++ B2)) (C1 ++ C2) ∧ Srt k (C1 ++ C2) := by
 obtain ⟨_, _, a3⟩ := srt_append.1 hA
 obtain ⟨_, _, b3⟩ := srt_append.1 hB
 refine ⟨?_, srt_append.2 ⟨t1, t2, fun x hx y hy => ?_⟩⟩
 ·have e : Same k ((A1 ++ A2) ++ (B1 ++ B2)) ((A1 ++ B1) ++ (A2 ++ B2)) := by
   rw [List.append_assoc, List.append_assoc, ← List.append_assoc A2, ← List.append_assoc B1]
   exact (Same.refl A1).append ((Same.swap (fun x hx y hy e => by have := h2 y hy x hx; omega)).append (Same.refl B2))
  exact e.trans (s1.append s2)
 ·have hx' := s1.symm.mem hx
  have hy' := s2.symm.mem hy
  rcases List.mem_append.1 hx' with hx' | hx' <;> rcases List.mem_append.1 hy' with hy' | hy'
  ·exact a3 x hx' y hy'
  ·exact h1 x hx' y hy'
  ·exact Int.le_of_lt (h2 x hx' y hy')
  ·exact b3 x hx' y hy'
theorem inserted {A1 A2 : List α} {x : α} (hA : Srt k (A1 ++ A2)) (h1 : ∀ y ∈ A1, k y ≤ k x) (h2 : ∀ y ∈ A2, k x ≤ k y) : Srt k (A1 ++ [x] ++ A2) := by
 obtain ⟨a1, a2, a3⟩ := srt_append.1 hA
 refine srt_append.2 ⟨srt_append.2 ⟨a1, srt_one x, fun y hy z hz => ?_⟩, a2, fun y hy z hz => ?_⟩
 ·rw [List.mem_singleton.1 hz]; exact h1 y hy
 ·rcases List.mem_append.1 hy with hy | hy
  ·exact a3 y hy z hz
  ·rw [List.mem_singleton.1 hy]; exact h2 z hz
def swp (l : List α) (i j : Nat) (x y : α) : List α := (l.set i y).set j x
theorem swp_mid (P M S : List α) (x y : α) (i j : Nat) (hi : i = P.length) (hj : j = P.length + 1 + M.length) : swp (P ++ x :: (M ++ y :: S)) i j x y = P ++ y :: (M ++ x :: S) := by
 subst hi hj
 unfold swp
 rw [List.set_append_right _ _ (Nat.le_refl _), Nat.sub_self, List.set_cons_zero, List.set_append_right _ _ (by omega)]
 rw [show P.length + 1 + M.length - P.length = M.length + 1 by omega, List.set_cons_succ, List.set_append_right _ _ (Nat.le_refl _), Nat.sub_self, List.set_cons_zero]
theorem swp_comm (l : List α) (i j : Nat) (x y : α) (h : i ≠ j) : swp l i j x y = swp l j i y x := by
 unfold swp
 rw [List.set_comm _ _ h]
theorem swp_length (l : List α) (i j : Nat) (x y : α) : (swp l i j x y).length = l.length := by
 unfold swp
 rw [List.length_set, List.length_set]
def xch (P X M Y S : List α) (t : Nat) : List α := P ++ Y.take t ++ (X.drop t ++ (M ++ X.take t ++ (Y.drop t ++ S)))
theorem xch_zero (P X M Y S : List α) : xch P X M Y S 0 = P ++ X ++ M ++ Y ++ S := by simp [xch]
theorem xch_all (P X M Y S : List α) (h : X.length = Y.length) : xch P X M Y S X.length = P ++ Y ++ M ++ X ++ S := by
 unfold xch
 rw [List.drop_length, List.take_length, h, List.take_length, List.drop_length]
 simp
theorem xch_parts (P X M Y S : List α) (t : Nat) (hx : t < X.length) (hy : t < Y.length) :
  xch P X M Y S t = (P ++ Y.take t) ++ X[t] :: ((X.drop (t + 1) ++ (M ++ X.take t)) ++ Y[t] :: (Y.drop (t + 1) ++ S)) := by
 unfold xch
 rw [List.drop_eq_getElem_cons hx, List.drop_eq_getElem_cons hy]
 simp [-List.getElem_cons_drop, -List.take_append_getElem]
theorem xch_step (P X M Y S : List α) (t a b : Nat) (hx : t < X.length) (hy : t < Y.length) (ha : a = P.length + t) (hb : b = P.length + X.length + M.length + t) :
  swp (xch P X M Y S t) a b X[t] Y[t] = xch P X M Y S (t + 1) := by
 rw [xch_parts P X M Y S t hx hy, swp_mid _ _ _ _ _ a b (by rw [List.length_append, List.length_take]; omega) (by
  rw [List.length_append, List.length_append, List.length_append, List.length_take, List.length_take, List.length_drop]; omega)]
 unfold xch
 rw [List.take_succ_eq_append_getElem hx, List.take_succ_eq_append_getElem hy]
 simp [-List.getElem_cons_drop, -List.take_append_getElem]
theorem get_mid (P S : List α) (x : α) (i : Nat) (hi : i = P.length) : (P ++ x :: S)[i]? = some x := by
 subst hi
 rw [List.getElem?_append_right (Nat.le_refl _), Nat.sub_self]
 rfl
theorem xch_fst (P X M Y S : List α) (t a : Nat) (hx : t < X.length) (hy : t < Y.length) (ha : a = P.length + t) : (xch P X M Y S t)[a]? = some X[t] := by
 rw [xch_parts P X M Y S t hx hy]
 exact get_mid _ _ _ _ (by rw [List.length_append, List.length_take]; omega)
theorem xch_snd (P X M Y S : List α) (t b : Nat) (hx : t < X.length) (hy : t < Y.length) (hb : b = P.length + X.length + M.length + t) : (xch P X M Y S t)[b]? = some Y[t] := by
 rw [xch_parts P X M Y S t hx hy, ← List.cons_append, ← List.append_assoc]
 exact get_mid _ _ _ _ (by
  rw [List.length_append, List.length_cons, List.length_append, List.length_append, List.length_append, List.length_take, List.length_take, List.length_drop]; omega)
def mov (P : List α) (x : α) (B S : List α) (t : Nat) : List α := P ++ B.take t ++ x :: (B.drop t ++ S)
theorem mov_zero (P : List α) (x : α) (B S : List α) : mov P x B S 0 = P ++ x :: (B ++ S) := by simp [mov]
theorem mov_all (P : List α) (x : α) (B S : List α) (t : Nat) (h : B.length ≤ t) : mov P x B S t = P ++ B ++ x :: S := by
 unfold mov
 rw [List.take_of_length_le h, List.drop_of_length_le h]
 simp [-List.getElem_cons_drop, -List.take_append_getElem]
theorem mov_parts (P : List α) (x : α) (B S : List α) (t : Nat) (ht : t < B.length) : mov P x B S t = (P ++ B.take t) ++ x :: ([] ++ B[t] :: (B.drop (t + 1) ++ S)) := by
 unfold mov
 rw [List.drop_eq_getElem_cons ht]
 simp [-List.getElem_cons_drop, -List.take_append_getElem]
theorem mov_step (P : List α) (x : α) (B S : List α) (t a b : Nat) (ht : t < B.length) (ha : a = P.length + t) (hb : b = P.length + t + 1) : swp (mov P x B S t) a b x B[t] = mov P x B S (t + 1) := by
 rw [mov_parts P x B S t ht, swp_mid _ _ _ _ _ a b (by rw [List.length_append, List.length_take]; omega) (by rw [List.length_append, List.length_take, List.length_nil]; omega)]
 unfold mov
 rw [List.take_succ_eq_append_getElem ht]
 simp [-List.getElem_cons_drop, -List.take_append_getElem]
theorem mov_back (P : List α) (x : α) (B S : List α) (t a b : Nat) (ht : t < B.length) (ha : a = P.length + t) (hb : b = P.length + t + 1) : swp (mov P x B S (t + 1)) b a x B[t] = mov P x B S t := by
 have e : mov P x B S (t + 1) = (P ++ B.take t) ++ B[t] :: ([] ++ x :: (B.drop (t + 1) ++ S)) := by
  unfold mov
  rw [List.take_succ_eq_append_getElem ht]
  simp [-List.getElem_cons_drop, -List.take_append_getElem]
 rw [swp_comm _ _ _ _ _ (by omega), e, swp_mid _ _ _ _ _ a b (by rw [List.length_append, List.length_take]; omega) (by rw [List.length_append, List.length_take, List.length_nil]; omega), mov_parts P x B S t ht]
theorem mov_fst (P : List α) (x : α) (B S : List α) (t a : Nat) (ht : t ≤ B.length) (ha : a = P.length + t) : (mov P x B S t)[a]? = some x := get_mid _ _ _ _ (by rw [List.length_append, List.length_take]; omega)
theorem mov_snd (P : List α) (x : α) (B S : List α) (t b : Nat) (ht : t < B.length) (hb : b = P.length + t + 1) : (mov P x B S t)[b]? = some B[t] := by
 rw [mov_parts P x B S t ht, List.nil_append, ← List.singleton_append, ← List.append_assoc]
 exact get_mid _ _ _ _ (by rw [List.length_append, List.length_append, List.length_take, List.length_singleton]; omega)
theorem mov_pred (P : List α) (x : α) (B S : List α) (t a : Nat) (ht : t < B.length) (ha : a = P.length + t) : (mov P x B S (t + 1))[a]? = some B[t] := by
 unfold mov
 rw [List.take_succ_eq_append_getElem ht, ← List.append_assoc, List.append_assoc _ [B[t]], List.singleton_append]
 exact get_mid _ _ _ _ (by rw [List.length_append, List.length_take]; omega)
theorem below_take {B : List α} (hB : Srt k B) (i : Nat) (v : Int) (h : i = 0 ∨ ∃ h1 : i - 1 < B.length, k B[i - 1] ≤ v) : ∀ y ∈ B.take i, k y ≤ v := fun y hy => by
 obtain ⟨j, hj, hji, rfl⟩ := mem_take_at hy
 rcases h with rfl | ⟨h1, h2⟩
 ·omega
 ·have e : j ≤ i - 1 := by omega
  have := hB.at j (i - 1) hj h1 e
  omega
theorem above_drop {B : List α} (hB : Srt k B) (i : Nat) (v : Int) (h : i = B.length ∨ ∃ h1 : i < B.length, v ≤ k B[i]) : ∀ y ∈ B.drop i, v ≤ k y := fun y hy => by
 obtain ⟨j, hj, hji, rfl⟩ := mem_drop_at hy
 rcases h with rfl | ⟨h1, h2⟩
 ·omega
 ·have := hB.at i j h1 hj hji
  omega
theorem one_first {B : List α} {x : α} (hB : Srt k B) (i : Nat) (h1 : i = 0 ∨ ∃ h1 : i - 1 < B.length, k B[i - 1] ≤ k x - 1) (h2 : i = B.length ∨ ∃ h1 : i < B.length, k x ≤ k B[i]) :
  Same k (x :: B) (B.take i ++ x :: B.drop i) ∧ Srt k (B.take i ++ x :: B.drop i) := by
 have a := below_take hB i _ h1
 have b := above_drop hB i _ h2
 constructor
 ·have e : Same k ([x] ++ B.take i) (B.take i ++ [x]) := Same.swap fun y hy z hz e => by
   rw [List.mem_singleton.1 hy] at e
   have := a z hz
   omega
  have := e.append (Same.refl (B.drop i))
  simpa using this
 ·have := inserted (A1 := B.take i) (A2 := B.drop i) (x := x) (by rw [List.take_append_drop]; exact hB) (fun y hy => by have := a y hy; omega) b
  simpa using this
theorem one_last {A : List α} {y : α} (hA : Srt k A) (i : Nat) (h1 : i = 0 ∨ ∃ h1 : i - 1 < A.length, k A[i - 1] ≤ k y) (h2 : i = A.length ∨ ∃ h1 : i < A.length, k y + 1 ≤ k A[i]) :
  Same k (A ++ [y]) (A.take i ++ y :: A.drop i) ∧ Srt k (A.take i ++ y :: A.drop i) := by
 have a := below_take hA i _ h1
 have b := above_drop hA i _ h2
 constructor
 ·have e : Same k (A.drop i ++ [y]) ([y] ++ A.drop i) := Same.swap fun x hx z hz e => by
   rw [List.mem_singleton.1 hz] at e
   have := b x hx
   omega
  have := (Same.refl (A.take i)).append e
  rw [← List.append_assoc, List.take_append_drop] at this
  simpa using this
 ·have := inserted (A1 := A.take i) (A2 := A.drop i) (x := y) (by rw [List.take_append_drop]; exact hA) a (fun z hz => by have := b z hz; omega)
  simpa using this
def Blks (k : α → Int) (s : Nat) (l : List α) : Prop := ∀ i, Srt k ((l.drop (i * s)).take s)
theorem blks_nil (s : Nat) : Blks k s ([] : List α) := fun i => by simp [Srt]
theorem Blks.head {s : Nat} {l : List α} (h : Blks k s l) : Srt k (l.take s) := by simpa using h 0
theorem Blks.tail {s : Nat} {l : List α} (h : Blks k s l) : Blks k s (l.drop s) := fun i => by
 rw [List.drop_drop, show s + i * s = (i + 1) * s by rw [Nat.add_mul]; omega]
 exact h (i + 1)
theorem Blks.small {s : Nat} {l : List α} (h : Blks k s l) (hl : l.length ≤ s) : Srt k l := by
 have := h.head
 rwa [List.take_of_length_le hl] at this
theorem Blks.snoc {s m : Nat} {D B : List α} (h : Blks k s D) (hD : D.length = m * s) (hB : Srt k B) (hl : B.length ≤ s) : Blks k s (D ++ B) := fun i => by
 rcases Nat.lt_or_ge i m with hi | hi
 ·have h1 := Nat.mul_le_mul_right s (show i + 1 ≤ m from hi)
  rw [Nat.add_mul, Nat.one_mul] at h1
  rw [List.drop_append_of_le_length (by omega), List.take_append_of_le_length (by rw [List.length_drop]; omega)]
  exact h i
 ·have h1 := Nat.mul_le_mul_right s hi
  rw [List.drop_append, List.drop_of_length_le (by omega), List.nil_append]
  exact (hB.drop _).take _
end Stab
end Go.Proofs.YtkegkelaffohjaaGreatDoor
/- Rows foretold: plainly. What is foretold is told back. -/
namespace Go.Proofs.YtkegkelaffohjaaGreatDoor
namespace Fil
def pae (a b c : UInt8) : UInt8 :=
 let p : Int := a.toNat + b.toNat - c.toNat
 let q : UInt8 × Int := if max (p - b.toNat) (-(p - b.toNat)) < max (p - a.toNat) (-(p - a.toNat)) then (b, max (p - b.toNat) (-(p - b.toNat))) else (a, max (p - a.toNat) (-(p - a.toNat)))
 if max (p - c.toNat) (-(p - c.toNat)) < q.2 then c else q.1
def fore (k : Nat) (a b c : UInt8) : UInt8 :=
 if k = 1 then a else if k = 2 then b else if k = 3 then UInt8.ofNat ((a.toNat + b.toNat) / 2) else if k = 4 then pae a b c else 0
def bk (s : List UInt8) (i step : Nat) : UInt8 := if i < step then 0 else s.getD (i - step) 0
def one (kind step : Nat) (row ahead : List UInt8) (i : Nat) : UInt8 := row.getD i 0 - fore kind (bk row i step) (ahead.getD i 0) (bk ahead i step)
def doRow (kind step : Nat) (row ahead : List UInt8) : List UInt8 := (List.range row.length).map (one kind step row ahead)
def undoTo (kind step : Nat) (row ahead : List UInt8) : Nat → List UInt8
 | 0 => []
 | k + 1 => undoTo kind step row ahead k ++ [row.getD k 0 + fore kind (bk (undoTo kind step row ahead k) k step) (ahead.getD k 0) (bk ahead k step)]
def undo (kind step : Nat) (row ahead : List UInt8) : List UInt8 := undoTo kind step row ahead row.length
def cost (l : List UInt8) : Nat := (l.map fun x => min x.toNat (256 - x.toNat)).sum
def pick (step : Nat) (row ahead : List UInt8) (q : Nat × Int) (k : Nat) : Nat × Int := if q.2 < 0 ∨ (cost (doRow k step row ahead) : Int) < q.2 then (k, cost (doRow k step row ahead)) else q
def bestTo (step : Nat) (row ahead : List UInt8) : Nat → Nat × Int
 | 0 => (0, -1)
 | k + 1 => pick step row ahead (bestTo step row ahead k) k
def best (step : Nat) (row ahead : List UInt8) : Nat := (bestTo step row ahead 5).1
def frows (wide step : Nat) : Nat → List UInt8 → List UInt8 → List UInt8
 | 0, _, _ => []
 | n + 1, s, ahead => UInt8.ofNat (best step (s.take wide) ahead) :: (doRow (best step (s.take wide) ahead) step (s.take wide) ahead ++ frows wide step n (s.drop wide) (s.take wide))
def fback (wide step : Nat) : Nat → List UInt8 → List UInt8 → Option (List UInt8)
 | 0, _, _ => some []
 | n + 1, s, ahead =>
  if 4 < (s.getD 0 0).toNat then none
  else (fback wide step n (s.drop (wide + 1)) (undo (s.getD 0 0).toNat step ((s.drop 1).take wide) ahead)).map (undo (s.getD 0 0).toNat step ((s.drop 1).take wide) ahead ++ ·)
theorem doRow_length (kind step : Nat) (row ahead : List UInt8) : (doRow kind step row ahead).length = row.length := by simp [doRow]
theorem doRow_at (kind step : Nat) (row ahead : List UInt8) (i : Nat) (h : i < row.length) : (doRow kind step row ahead).getD i 0 = one kind step row ahead i := by
 rw [List.getD_eq_getElem?_getD, List.getElem?_eq_getElem (by rw [doRow_length]; exact h)]
 simp [doRow]
theorem undoTo_length (kind step : Nat) (row ahead : List UInt8) : ∀ k, (undoTo kind step row ahead k).length = k
 | 0 => rfl
 | k + 1 => by rw [undoTo, List.length_append, undoTo_length]; rfl
theorem undo_length (kind step : Nat) (row ahead : List UInt8) : (undo kind step row ahead).length = row.length := undoTo_length _ _ _ _ _
theorem bk_take (row : List UInt8) (k step : Nat) (hs : 1 ≤ step) (_hk : k ≤ row.length) : bk (row.take k) k step = bk row k step := by
 unfold bk
 split
 ·rfl
 ·rw [List.getD_eq_getElem?_getD, List.getD_eq_getElem?_getD, List.getElem?_take_of_lt (by omega)]
theorem undoTo_do (kind step : Nat) (row ahead : List UInt8) (hs : 1 ≤ step) : ∀ k, k ≤ row.length → undoTo kind step (doRow kind step row ahead) ahead k = row.take k
 | 0, _ => by simp [undoTo]
 | k + 1, h => by
  rw [undoTo, undoTo_do kind step row ahead hs k (by omega), doRow_at _ _ _ _ _ (by omega), bk_take row k step hs (by omega), one, UInt8.sub_add_cancel, List.take_succ_eq_append_getElem (by omega)]
  congr 1
  rw [List.getD_eq_getElem?_getD, List.getElem?_eq_getElem (by omega)]
  rfl
theorem undo_do (kind step : Nat) (row ahead : List UInt8) (hs : 1 ≤ step) : undo kind step (doRow kind step row ahead) ahead = row := by
 unfold undo
 rw [doRow_length, undoTo_do kind step row ahead hs _ (Nat.le_refl _), List.take_length]
theorem bestTo_lt (step : Nat) (row ahead : List UInt8) : ∀ k, (bestTo step row ahead (k + 1)).1 ≤ k
 | 0 => by unfold bestTo pick bestTo; split <;> exact Nat.le_refl _
 | k + 1 => by
  have ih := bestTo_lt step row ahead k
  rw [bestTo]
  unfold pick
  split
  ·exact Nat.le_refl _
  ·omega
theorem best_le (step : Nat) (row ahead : List UInt8) : best step row ahead ≤ 4 := bestTo_lt step row ahead 4
theorem frows_length (wide step : Nat) : ∀ (n : Nat) (s ahead : List UInt8), s.length = n * wide → (frows wide step n s ahead).length = n * (wide + 1)
 | 0, _, _, _ => by rw [frows]; simp
 | n + 1, s, ahead, h => by
  rw [Nat.add_mul, Nat.one_mul] at h
  rw [frows, List.length_cons, List.length_append, doRow_length, List.length_take, frows_length wide step n _ _ (by rw [List.length_drop]; omega), Nat.min_eq_left (by omega), Nat.add_mul, Nat.one_mul]
  omega
theorem fback_frows (wide step : Nat) (hs : 1 ≤ step) : ∀ (n : Nat) (s ahead : List UInt8), s.length = n * wide → fback wide step n (frows wide step n s ahead) ahead = some s
 | 0, s, _, h => by
  have : s = [] := List.eq_nil_of_length_eq_zero (by omega)
  subst this
  rfl
 | n + 1, s, ahead, h => by
  rw [Nat.add_mul, Nat.one_mul] at h
  have hb := best_le step (s.take wide) ahead
  have hk : (UInt8.ofNat (best step (s.take wide) ahead)).toNat = best step (s.take wide) ahead := by rw [UInt8.toNat_ofNat']; omega
  have hl : (doRow (best step (s.take wide) ahead) step (s.take wide) ahead).length = wide := by rw [doRow_length, List.length_take]; omega
  rw [frows, fback]
  simp only [List.getD_cons_zero, List.drop_succ_cons, List.drop_zero]
  rw [hk, if_neg (by omega), List.take_left' hl, List.drop_left' hl, undo_do _ _ _ _ hs, fback_frows wide step hs n _ _ (by rw [List.length_drop]; omega)]
  simp
theorem fback_length (wide step : Nat) : ∀ (n : Nat) (s ahead t : List UInt8), s.length = n * (wide + 1) → fback wide step n s ahead = some t → t.length = n * wide
 | 0, _, _, t, _, h => by
  rw [fback] at h
  injection h with h
  subst h
  simp
 | n + 1, s, ahead, t, hl, h => by
  rw [Nat.add_mul, Nat.one_mul] at hl
  rw [fback] at h
  split at h
  ·cases h
  ·cases hx : fback wide step n (s.drop (wide + 1)) (undo (s.getD 0 0).toNat step ((s.drop 1).take wide) ahead) with
   | none => rw [hx] at h; cases h
   | some u =>
    rw [hx] at h
    injection h with h
    have := fback_length wide step n _ _ u (by rw [List.length_drop]; omega) hx
    rw [← h, List.length_append, undo_length, List.length_take, List.length_drop, this, Nat.add_mul, Nat.one_mul]
    omega
end Fil
end Go.Proofs.YtkegkelaffohjaaGreatDoor
