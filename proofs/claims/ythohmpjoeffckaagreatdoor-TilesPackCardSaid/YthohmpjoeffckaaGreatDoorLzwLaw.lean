/- Bits, plainly: bits of a number, the lowest first; bits packed into bytes; bits of bytes. LZW, plainly: codes of words of a growing list: by searching the list (the document), by a tree of words (the program). LZW read, plainly; what is packed is read. A reader of codes, plainly: what it keeps is sound. Blocks of a text, plainly: cut into pieces of at most 255 bytes; joined again. -/
namespace Go.Proofs.YthohmpjoeffckaaGreatDoor
namespace Bit

/-- The number of bits, the lowest first. -/
def val : List Bool → Nat
  | [] => 0
  | b :: l => b.toNat + 2 * val l
/-- Bits of a number, the lowest first. -/
def low (n w : Nat) : List Bool := (List.range w).map n.testBit
/-- Byte j of packed bits. -/
def byteOf (bs : List Bool) (j : Nat) : Nat := val ((bs.drop (8 * j)).take 8)
/-- Bits packed into bytes. -/
def pack (bs : List Bool) : List UInt8 := (List.range ((bs.length + 7) / 8)).map fun j => UInt8.ofNat (byteOf bs j)
/-- Bits of bytes. -/
def bits (s : List UInt8) : List Bool := (List.range (8 * s.length)).map fun i => ((s[i / 8]?.getD 0).toNat).testBit (i % 8)

theorem val_lt : ∀ l : List Bool, val l < 2 ^ l.length
  | [] => by simp [val]
  | b :: l => by
    have := val_lt l
    rw [List.length_cons, Nat.pow_succ, val]
    cases b <;> simp <;> omega
theorem val_snoc (b : Bool) : ∀ l : List Bool, val (l ++ [b]) = val l + b.toNat * 2 ^ l.length
  | [] => by simp [val]
  | c :: l => by
    rw [List.cons_append, val, val, val_snoc b l, List.length_cons, Nat.pow_succ, Nat.mul_add, ← Nat.add_assoc]
    congr 1
    rw [← Nat.mul_assoc, Nat.mul_comm 2, Nat.mul_assoc, Nat.mul_comm 2]
theorem testBit_val : ∀ (l : List Bool) (k : Nat), (val l).testBit k = l[k]?.getD false
  | [], k => by simp [val]
  | b :: l, 0 => by
    rw [val, Nat.testBit_zero]
    cases b <;> simp <;> omega
  | b :: l, k + 1 => by
    rw [Nat.testBit_succ, val]
    have : (b.toNat + 2 * val l) / 2 = val l := by cases b <;> simp <;> omega
    rw [this, testBit_val l k]
    simp
theorem low_length (n w : Nat) : (low n w).length = w := by simp [low]
theorem val_low (n : Nat) : ∀ w, val (low n w) = n % 2 ^ w
  | 0 => by simp [low, val, Nat.mod_one]
  | w + 1 => by
    have e : low n (w + 1) = low n w ++ [n.testBit w] := by simp [low, List.range_succ]
    rw [e, val_snoc, val_low n w, low_length, Nat.testBit_eq_decide_div_mod_eq, Nat.pow_succ, Nat.mod_mul]
    have h2 := Nat.mod_two_eq_zero_or_one (n / 2 ^ w)
    rcases h2 with h | h <;> simp [h]
theorem val_low_of {n w : Nat} (h : n < 2 ^ w) : val (low n w) = n := by rw [val_low, Nat.mod_eq_of_lt h]
theorem bits_length (s : List UInt8) : (bits s).length = 8 * s.length := by simp [bits]
theorem pack_length (bs : List Bool) : (pack bs).length = (bs.length + 7) / 8 := by simp [pack]
theorem pack_get (bs : List Bool) (j : Nat) (h : j < (pack bs).length) : (pack bs)[j] = UInt8.ofNat (byteOf bs j) := by simp [pack]
theorem byteOf_lt (bs : List Bool) (j : Nat) : byteOf bs j < 256 := by
  have h := val_lt ((bs.drop (8 * j)).take 8)
  have hl : ((bs.drop (8 * j)).take 8).length ≤ 8 := List.length_take_le _ _
  have := Nat.pow_le_pow_right (show 0 < 2 by omega) hl
  unfold byteOf
  omega
theorem byteOf_snoc (bs : List Bool) (b : Bool) (j : Nat) : byteOf (bs ++ [b]) j = byteOf bs j + if j = bs.length / 8 then b.toNat * 2 ^ (bs.length % 8) else 0 := by
  unfold byteOf
  by_cases h1 : j = bs.length / 8
  · rw [if_pos h1]
    have hl : (bs.drop (8 * j)).length = bs.length % 8 := by rw [List.length_drop]; omega
    rw [List.drop_append_of_le_length (by omega), List.take_of_length_le (by rw [List.length_append, hl]; simp; omega), List.take_of_length_le (by omega), val_snoc, hl]
  · rw [if_neg h1, Nat.add_zero]
    rcases Nat.lt_or_ge (8 * j) (bs.length + 1) with h2 | h2
    · have h3 : 8 * j + 8 ≤ bs.length := by omega
      rw [List.drop_append_of_le_length (by omega), List.take_append_of_le_length (by rw [List.length_drop]; omega)]
    · rw [List.drop_eq_nil_of_le (by simp; omega), List.drop_eq_nil_of_le (by omega)]
theorem byteOf_small (bs : List Bool) : byteOf bs (bs.length / 8) < 2 ^ (bs.length % 8) := by
  have h := val_lt ((bs.drop (8 * (bs.length / 8))).take 8)
  have hl : ((bs.drop (8 * (bs.length / 8))).take 8).length = bs.length % 8 := by rw [List.length_take, List.length_drop]; omega
  rw [hl] at h
  exact h
theorem byteOf_beyond (bs : List Bool) (j : Nat) (h : bs.length ≤ 8 * j) : byteOf bs j = 0 := by
  unfold byteOf
  rw [List.drop_eq_nil_of_le h]
  rfl
/-- A bit more: a new byte. -/
theorem pack_new (bs : List Bool) (b : Bool) (h : bs.length % 8 = 0) : pack (bs ++ [b]) = pack bs ++ [UInt8.ofNat b.toNat] := by
  have e : (bs.length + 1 + 7) / 8 = (bs.length + 7) / 8 + 1 := by omega
  have e2 : (bs.length + 7) / 8 = bs.length / 8 := by omega
  unfold pack
  rw [List.length_append, List.length_singleton, e, List.range_succ, List.map_append, List.map_singleton]
  congr 1
  · apply List.map_congr_left
    intro j hj
    have := List.mem_range.1 hj
    rw [byteOf_snoc, if_neg (by omega), Nat.add_zero]
  · rw [byteOf_snoc, if_pos e2, e2, byteOf_beyond _ _ (by omega), h]
    simp
/-- A bit more: in the last byte. -/
theorem pack_more (bs : List Bool) (b : Bool) (h : bs.length % 8 ≠ 0) : pack (bs ++ [b]) = (pack bs).set (bs.length / 8) (UInt8.ofNat (byteOf bs (bs.length / 8) + b.toNat * 2 ^ (bs.length % 8))) := by
  have e : (bs.length + 1 + 7) / 8 = (bs.length + 7) / 8 := by omega
  apply List.ext_getElem
  · rw [List.length_set, pack_length, pack_length, List.length_append, List.length_singleton, e]
  · intro j h1 h2
    rw [List.getElem_set, pack_get, byteOf_snoc]
    by_cases hj : j = bs.length / 8
    · rw [if_pos hj, if_pos hj.symm, hj]
    · rw [if_neg hj, if_neg (fun e => hj e.symm), Nat.add_zero, pack_get]
theorem pack_last (bs : List Bool) (h : bs.length % 8 ≠ 0) : (pack bs)[bs.length / 8]? = some (UInt8.ofNat (byteOf bs (bs.length / 8))) := by
  unfold pack
  rw [List.getElem?_map, List.getElem?_range (by omega)]
  rfl
theorem or_add (a k : Nat) (b : Bool) (h : a < 2 ^ k) : a ||| (b.toNat <<< k) = a + b.toNat * 2 ^ k := by
  cases b
  · simp
  · rw [Nat.or_comm, Nat.shiftLeft_eq, Bool.toNat_true, Nat.one_mul, Nat.add_comm]
    have := (Nat.two_pow_add_eq_or_of_lt h 1).symm
    simpa using this
/-- Packed bits have these bits, and zeros behind them. -/
theorem bits_pack (bs : List Bool) : bits (pack bs) = bs ++ List.replicate (8 * ((bs.length + 7) / 8) - bs.length) false := by
  apply List.ext_getElem?
  intro i
  by_cases hi : i < 8 * ((bs.length + 7) / 8)
  · unfold bits
    rw [List.getElem?_map, List.getElem?_range (by rw [pack_length]; exact hi), Option.map_some]
    unfold pack
    rw [List.getElem?_map, List.getElem?_range (by omega), Option.map_some, Option.getD_some, UInt8.toNat_ofNat_of_lt' (byteOf_lt _ _)]
    unfold byteOf
    rw [testBit_val, List.getElem?_take_of_lt (Nat.mod_lt _ (by omega)), List.getElem?_drop, Nat.div_add_mod]
    by_cases hb : i < bs.length
    · rw [List.getElem?_append_left hb, List.getElem?_eq_getElem hb]
      rfl
    · rw [List.getElem?_append_right (by omega), List.getElem?_eq_none (by omega), List.getElem?_replicate_of_lt (by omega)]
      rfl
  · rw [List.getElem?_eq_none (by rw [bits_length, pack_length]; omega), List.getElem?_eq_none (by rw [List.length_append, List.length_replicate]; omega)]
theorem bits_at (s : List UInt8) (i : Nat) (h : i < 8 * s.length) : (bits s)[i]? = some (((s[i / 8]?.getD 0).toNat).testBit (i % 8)) := by
  unfold bits
  rw [List.getElem?_map, List.getElem?_range h]
  rfl
/-- A bit more is read. -/
theorem val_more (l : List Bool) (a i : Nat) (h : a + i < l.length) : val ((l.drop a).take (i + 1)) = val ((l.drop a).take i) ||| ((l[a + i]).toNat <<< i) := by
  have hl : ((l.drop a).take i).length = i := by rw [List.length_take, List.length_drop]; omega
  have e : (l.drop a).take (i + 1) = (l.drop a).take i ++ [l[a + i]] := by
    rw [List.take_succ_eq_append_getElem (by rw [List.length_drop]; omega), List.getElem_drop]
  have := val_lt ((l.drop a).take i)
  rw [hl] at this
  rw [e, val_snoc, hl, or_add _ _ _ this]
end Bit
end Go.Proofs.YthohmpjoeffckaaGreatDoor
namespace Go.Proofs.YthohmpjoeffckaaGreatDoor
namespace Lz
open Bit

abbrev Word := List UInt8 × Nat
def base (W : Nat) : Nat := 2 ^ W + 2
/-- One step of the search. -/
def bstep (rest : List UInt8) (b x : Word) : Word := if b.1.length < x.1.length ∧ x.1 = rest.take x.1.length then x else b
/-- The word of one number. -/
def one (rest : List UInt8) : Word := (rest.take 1, (rest.headD 0).toNat)
/-- The longest word of the list that comes next. -/
def best (rest : List UInt8) (L : List Word) : Word := L.foldl (bstep rest) (one rest)
/-- How many bits the next code has. -/
def grow (W n size : Nat) : Nat := if base W + n = 2 ^ size ∧ size < 12 then size + 1 else size
/-- Codes of the rest. -/
def enc (W : Nat) : Nat → List UInt8 → List Word → Nat → List Bool
  | 0, _, _, size => low (2 ^ W + 1) size
  | f + 1, rest, L, size =>
    if rest = [] then low (2 ^ W + 1) size else
    low (best rest L).2 size ++
      (if rest.drop (best rest L).1.length = [] then low (2 ^ W + 1) (grow W L.length size)
       else if base W + L.length + 1 = 4096 then low (2 ^ W) (grow W L.length size) ++ enc W f (rest.drop (best rest L).1.length) [] (W + 1)
       else enc W f (rest.drop (best rest L).1.length) (L ++ [(rest.take ((best rest L).1.length + 1), base W + L.length)]) (grow W L.length size))


/-- Of all words of a list the best is the one: it comes next, none that comes next is longer. -/
structure Best (rest : List UInt8) (L : List Word) (b : Word) : Prop where
  mem : b = one rest ∨ b ∈ L
  here : b.1 = rest.take b.1.length
  most : ∀ x ∈ L, x.1 = rest.take x.1.length → x.1.length ≤ b.1.length
  pos : 1 ≤ b.1.length
theorem foldl_best (rest : List UInt8) : ∀ (L P : List Word) (b : Word), Best rest P b → Best rest (P ++ L) (L.foldl (bstep rest) b)
  | [], P, b, h => by simpa using h
  | x :: L, P, b, h => by
    have e : P ++ x :: L = (P ++ [x]) ++ L := by simp
    rw [e, List.foldl_cons]
    apply foldl_best rest L (P ++ [x])
    unfold bstep
    split
    · rename_i hx
      refine ⟨.inr (by simp), hx.2, fun y hy hy2 => ?_, by omega⟩
      rcases List.mem_append.1 hy with hy | hy
      · have := h.most y hy hy2; omega
      · simp at hy; subst hy; exact Nat.le_refl _
    · rename_i hx
      refine ⟨?_, h.here, fun y hy hy2 => ?_, h.pos⟩
      · rcases h.mem with e | e
        · exact .inl e
        · exact .inr (by simp [e])
      · rcases List.mem_append.1 hy with hy | hy
        · exact h.most y hy hy2
        · simp at hy
          subst hy
          rcases Nat.lt_or_ge b.1.length y.1.length with h2 | h2
          · exact absurd ⟨h2, hy2⟩ hx
          · exact h2
theorem best_is (rest : List UInt8) (L : List Word) (h : rest ≠ []) : Best rest L (best rest L) := by
  have h1 : 1 ≤ rest.length := List.length_pos_iff.2 h
  have := foldl_best rest L [] (one rest) ⟨.inl rfl, by simp [one, Nat.min_eq_left h1], fun x hx => by simp at hx, by simp [one]; omega⟩
  exact this
theorem best_le (rest : List UInt8) (L : List Word) (h : rest ≠ []) : (best rest L).1.length ≤ rest.length := by
  have := congrArg List.length (best_is rest L h).here
  rw [List.length_take] at this
  omega

/-- The text of a code. -/
def txt (W : Nat) (L : List Word) (n : Nat) : List UInt8 := if n < 2 ^ W then [UInt8.ofNat n] else ((L[n - base W]?).map (·.1)).getD []
/-- A code that there is. -/
def Ok (W m n : Nat) : Prop := n < 2 ^ W ∨ (base W ≤ n ∧ n < base W + m)
/-- A tree of words (the word ahead, the last number; the code) beside the list of them. -/
structure Trie (W : Nat) (T : List ((Nat × UInt8) × Nat)) (L : List Word) : Prop where
  len : T.length = L.length
  code : ∀ i (h : i < L.length), L[i].2 = base W + i
  codeT : ∀ i (h : i < T.length), T[i].2 = base W + i
  ok : ∀ i (h : i < T.length), Ok W i T[i].1.1
  text : ∀ i (h : i < T.length) (h' : i < L.length), L[i].1 = txt W L T[i].1.1 ++ [T[i].1.2]
  keys : ∀ i j (hi : i < T.length) (hj : j < T.length), T[i].1 = T[j].1 → i = j
theorem Trie.nil (W : Nat) : Trie W [] [] := ⟨rfl, by simp, by simp, by simp, by simp, by simp⟩
section
variable {W : Nat} {T : List ((Nat × UInt8) × Nat)} {L : List Word}
theorem txt_entry (i : Nat) (h : i < L.length) : txt W L (base W + i) = L[i].1 := by
  unfold txt
  rw [if_neg (by unfold base; omega), Nat.add_sub_cancel_left, List.getElem?_eq_getElem h]
  rfl
theorem txt_append (L' : List Word) {n : Nat} (h : Ok W L.length n) : txt W (L ++ L') n = txt W L n := by
  unfold txt
  split
  · rfl
  · rename_i hn
    have hl : n - base W < L.length := by rcases h with h | h <;> omega
    rw [List.getElem?_append_left hl]
theorem Ok.mono {m m' n : Nat} (h : Ok W m n) (hm : m ≤ m') : Ok W m' n := h.elim .inl fun h => .inr ⟨h.1, by omega⟩
theorem Trie.pos (h : Trie W T L) {n : Nat} (hn : Ok W L.length n) : 1 ≤ (txt W L n).length := by
  rcases hn with hn | ⟨h1, h2⟩
  · simp [txt, hn]
  · obtain ⟨i, rfl⟩ : ∃ i, n = base W + i := ⟨n - base W, by omega⟩
    rw [txt_entry i (by omega), h.text i (by have := h.len; omega) (by omega)]
    simp
theorem Trie.long (h : Trie W T L) (i : Nat) (hi : i < L.length) : 2 ≤ L[i].1.length := by
  have hT := h.len
  rw [h.text i (by omega) hi]
  have := h.pos ((h.ok i (by omega)).mono (show i ≤ L.length by omega))
  simp
  omega
/-- Codes of one text are one. -/
theorem Trie.inj (h : Trie W T L) (hW : W ≤ 8) : ∀ (k n m : Nat), n ≤ k → Ok W L.length n → Ok W L.length m → txt W L n = txt W L m → n = m := by
  intro k
  induction k using Nat.strongRecOn with
  | ind k ih =>
  intro n m hk hn hm e
  have hp : (2 : Nat) ^ W ≤ 256 := Nat.pow_le_pow_right (by omega) hW
  have hT := h.len
  rcases hn with hn | ⟨h1, h2⟩
  · rcases hm with hm | ⟨h3, h4⟩
    · simp only [txt, hn, hm, if_true, List.cons.injEq, and_true] at e
      have := congrArg UInt8.toNat e
      rwa [UInt8.toNat_ofNat_of_lt' (Nat.lt_of_lt_of_le (by assumption) hp), UInt8.toNat_ofNat_of_lt' (Nat.lt_of_lt_of_le (by assumption) hp)] at this
    · obtain ⟨j, rfl⟩ : ∃ j, m = base W + j := ⟨m - base W, by omega⟩
      have := h.long j (by omega)
      rw [txt_entry j (by omega)] at e
      rw [← e] at this
      simp [txt, hn] at this
  · obtain ⟨i, rfl⟩ : ∃ i, n = base W + i := ⟨n - base W, by omega⟩
    rw [txt_entry i (by omega)] at e
    rcases hm with hm | ⟨h3, h4⟩
    · have := h.long i (by omega)
      rw [e] at this
      simp [txt, hm] at this
    · obtain ⟨j, rfl⟩ : ∃ j, m = base W + j := ⟨m - base W, by omega⟩
      rw [txt_entry j (by omega), h.text i (by omega) (by omega), h.text j (by omega) (by omega)] at e
      obtain ⟨e1, e2⟩ := List.append_inj' e rfl
      have o1 := h.ok i (by omega)
      have o2 := h.ok j (by omega)
      have hlt : T[i].1.1 < base W + i := o1.elim (fun o1 => by unfold base; omega) fun o1 => o1.2
      have := ih (T[i].1.1) (by omega) _ _ (Nat.le_refl _) (o1.mono (by omega)) (o2.mono (show j ≤ L.length by omega)) e1
      have hk2 : T[i].1 = T[j].1 := by
        apply Prod.ext this
        simpa using e2
      have := h.keys i j (by omega) (by omega) hk2
      omega
/-- A word of the list that comes next has one of each smaller length that comes next. -/
theorem Trie.chain (h : Trie W T L) (rest : List UInt8) (k : Nat) : ∀ (d m : Nat) (i : Nat) (hi : i < L.length), m = k + 1 + d → 1 ≤ k → L[i].1 = rest.take m → L[i].1.length = m →
    ∃ (j : Nat) (hj : j < L.length), L[j].1 = rest.take (k + 1) ∧ L[j].1.length = k + 1 := by
  intro d
  induction d with
  | zero =>
    intro m i hi hm hk h1 h2
    subst hm
    exact ⟨i, hi, h1, h2⟩
  | succ d ih =>
    intro m i hi hm hk h1 h2
    have hT := h.len
    have ht := h.text i (by omega) hi
    have hl : (txt W L T[i].1.1).length = m - 1 := by
      have := congrArg List.length ht
      rw [h2, List.length_append, List.length_singleton] at this
      omega
    have hx : txt W L T[i].1.1 = rest.take (m - 1) := by
      have e1 : (L[i].1).take (m - 1) = txt W L T[i].1.1 := by
        rw [ht, List.take_append_of_le_length (by omega), List.take_of_length_le (by omega)]
      rw [← e1, h1, List.take_take, Nat.min_eq_left (by omega)]
    rcases h.ok i (by omega) with o | ⟨o1, o2⟩
    · have : (txt W L T[i].1.1).length = 1 := by simp [txt, o]
      omega
    · obtain ⟨j, hj⟩ : ∃ j, T[i].1.1 = base W + j := ⟨T[i].1.1 - base W, by omega⟩
      rw [hj, txt_entry j (by omega)] at hx hl
      exact ih (m - 1) j (by omega) (by omega) hk hx hl
/-- What the tree finds is the best word. -/
theorem Trie.best (h : Trie W T L) (hW : W ≤ 8) (rest : List UInt8) (hr : ∀ b ∈ rest, b.toNat < 2 ^ W) (k n : Nat) (hk : 1 ≤ k) (hle : k ≤ rest.length) (hn : Ok W L.length n) (ht : txt W L n = rest.take k)
    (hno : ∀ hlt : k < rest.length, ∀ i (hi : i < T.length), T[i].1 ≠ (n, rest[k])) : best rest L = (rest.take k, n) := by
  have hne : rest ≠ [] := by rintro rfl; simp at hle; omega
  have hT := h.len
  have hb := best_is rest L hne
  have hlt := best_le rest L hne
  obtain ⟨b, eb⟩ : ∃ b, b = Lz.best rest L := ⟨_, rfl⟩
  rw [← eb] at hb hlt ⊢
  -- no longer one
  have h1 : b.1.length ≤ k := by
    rcases Nat.lt_or_ge k b.1.length with hc | hc
    · exfalso
      rcases hb.mem with e | e
      · rw [e] at hc; simp [one] at hc; omega
      · obtain ⟨i, hi, rfl⟩ := List.getElem_of_mem e
        obtain ⟨j, hj, e1, e2⟩ := h.chain rest k (L[i].1.length - (k + 1)) _ i hi (by omega) hk hb.here rfl
        have hk2 : k < rest.length := by omega
        have ht2 := h.text j (by omega) hj
        rw [e1, List.take_succ_eq_append_getElem hk2] at ht2
        obtain ⟨e3, e4⟩ := List.append_inj' ht2 rfl
        have := h.inj hW _ _ _ (Nat.le_refl _) hn ((h.ok j (by omega)).mono (show j ≤ L.length by omega)) (ht.trans e3)
        exact hno hk2 j (by omega) (by rw [Prod.ext_iff]; exact ⟨this.symm, by simpa using e4.symm⟩)
    · exact hc
  -- no shorter one
  have h2 : k ≤ b.1.length := by
    rcases hn with hn | ⟨h3, h4⟩
    · have : (txt W L n).length = 1 := by simp [txt, hn]
      rw [ht, List.length_take] at this
      have := hb.pos
      omega
    · obtain ⟨i, rfl⟩ : ∃ i, n = base W + i := ⟨n - base W, by omega⟩
      rw [txt_entry i (by omega)] at ht
      have hl : L[i].1.length = k := by rw [ht, List.length_take]; omega
      have := hb.most L[i] (List.getElem_mem _) (by rw [hl]; exact ht)
      omega
  have h3 : b.1.length = k := by omega
  have h4 := hb.here
  rw [h3] at h4
  apply Prod.ext h4
  show b.2 = n
  have key : ∀ m, Ok W L.length m → txt W L m = rest.take k → m = n := fun m hm e => h.inj hW _ _ _ (Nat.le_refl _) hm hn (e.trans ht.symm)
  rcases hb.mem with e | e
  · have h5 : k = 1 := by rw [← h3, e]; simp [one]; omega
    subst h5
    rw [e]
    refine key _ (.inl ?_) ?_
    · cases rest with
      | nil => exact absurd rfl hne
      | cons x r => exact hr x (by simp)
    · cases rest with
      | nil => exact absurd rfl hne
      | cons x r =>
        have := hr x (by simp)
        simp [one, txt, this]
  · obtain ⟨i, hi, e2⟩ := List.getElem_of_mem e
    rw [← e2, h.code i hi]
    refine key _ (.inr ⟨by omega, by omega⟩) ?_
    rw [txt_entry i hi, e2]
    exact h4
/-- A word more. -/
theorem Trie.more (h : Trie W T L) (rest : List UInt8) (k n : Nat) (hlt : k < rest.length) (hn : Ok W L.length n) (ht : txt W L n = rest.take k) (hno : ∀ i (hi : i < T.length), T[i].1 ≠ (n, rest[k])) :
    Trie W (T ++ [((n, rest[k]), base W + L.length)]) (L ++ [(rest.take (k + 1), base W + L.length)]) := by
  have hT := h.len
  refine ⟨by simp [hT], fun i hi => ?_, fun i hi => ?_, fun i hi => ?_, fun i hi hi' => ?_, fun i j hi hj e => ?_⟩
  · rw [List.length_append, List.length_singleton] at hi
    rcases Nat.lt_or_ge i L.length with h1 | h1
    · rw [List.getElem_append_left h1]; exact h.code i h1
    · have : i = L.length := by omega
      subst this
      simp
  · rw [List.length_append, List.length_singleton] at hi
    rcases Nat.lt_or_ge i T.length with h1 | h1
    · rw [List.getElem_append_left h1]; exact h.codeT i h1
    · have : i = T.length := by omega
      subst this
      simp [hT]
  · rw [List.length_append, List.length_singleton] at hi
    rcases Nat.lt_or_ge i T.length with h1 | h1
    · rw [List.getElem_append_left h1]; exact h.ok i h1
    · have : i = T.length := by omega
      subst this
      simp
      exact hn.mono (by omega)
  · rw [List.length_append, List.length_singleton] at hi hi'
    rcases Nat.lt_or_ge i T.length with h1 | h1
    · rw [List.getElem_append_left h1, List.getElem_append_left (by omega), txt_append _ ((h.ok i h1).mono (by omega))]; exact h.text i h1 (by omega)
    · have : i = T.length := by omega
      subst this
      rw [List.getElem_append_right (by omega), List.getElem_append_right (by omega)]
      simp only [Nat.sub_self, List.getElem_singleton, hT]
      rw [txt_append _ hn, ht, List.take_succ_eq_append_getElem hlt]
  · rw [List.length_append, List.length_singleton] at hi hj
    rcases Nat.lt_or_ge i T.length with h1 | h1 <;> rcases Nat.lt_or_ge j T.length with h2 | h2
    · rw [List.getElem_append_left h1, List.getElem_append_left h2] at e
      exact h.keys i j h1 h2 e
    · have : j = T.length := by omega
      subst this
      rw [List.getElem_append_left h1, List.getElem_append_right (Nat.le_refl _)] at e
      simp only [Nat.sub_self, List.getElem_singleton] at e
      exact absurd e (hno i h1)
    · have : i = T.length := by omega
      subst this
      rw [List.getElem_append_left h2, List.getElem_append_right (Nat.le_refl _)] at e
      simp only [Nat.sub_self, List.getElem_singleton] at e
      exact absurd e.symm (hno j h2)
    · omega
/-- One number on. -/
theorem Trie.next (h : Trie W T L) (rest : List UInt8) (k n : Nat) (hlt : k < rest.length) (ht : txt W L n = rest.take k) (i : Nat) (hi : i < T.length) (he : T[i].1 = (n, rest[k])) :
    Ok W L.length T[i].2 ∧ txt W L T[i].2 = rest.take (k + 1) := by
  have hT := h.len
  rw [h.codeT i hi]
  refine ⟨.inr ⟨by omega, by omega⟩, ?_⟩
  rw [txt_entry i (by omega), h.text i hi (by omega), he, ht, List.take_succ_eq_append_getElem hlt]
end
end Lz
end Go.Proofs.YthohmpjoeffckaaGreatDoor
namespace Go.Proofs.YthohmpjoeffckaaGreatDoor
namespace Lz
open Bit

/-- What a reader of codes keeps: words by their codes, how many bits the next code has, the word ahead. -/
structure U where
  words : List (List UInt8)
  size : Nat
  last : List UInt8
def ones (W : Nat) : List (List UInt8) := (List.range (2 ^ W)).map (fun i => [UInt8.ofNat i]) ++ [[], []]
def U.new (W : Nat) : U := ⟨ones W, W + 1, []⟩
/-- The word of a code. -/
def U.text (u : U) (n : Nat) : Option (List UInt8) := if n < u.words.length then u.words[n]? else if n = u.words.length ∧ u.last ≠ [] then some (u.last ++ u.last.take 1) else none
/-- What is kept behind it. -/
def U.more (u : U) (w : List UInt8) : List (List UInt8) := if u.last ≠ [] ∧ u.words.length < 4096 then u.words ++ [u.last ++ w.take 1] else u.words
def U.wide (u : U) (w : List UInt8) : Nat := if (u.more w).length = 2 ^ u.size ∧ u.size < 12 then u.size + 1 else u.size
def U.next (u : U) (w : List UInt8) : U := ⟨u.more w, u.wide w, w⟩

theorem ones_length (W : Nat) : (ones W).length = base W := by simp [ones, base]
/-- The reader is one word behind the writer. -/
def Lag (W : Nat) (L : List Word) (size : Nat) (rest : List UInt8) (u : U) : Prop :=
  (L = [] ∧ u = U.new W ∧ size = W + 1) ∨
  (u.size = size ∧ u.last ≠ [] ∧ ∃ D, u.words = ones W ++ D.map (·.1) ∧ L = D ++ [(u.last ++ [rest.headD 0], base W + D.length)])
/-- What stands of the writer. -/
structure Wr (W : Nat) (L : List Word) (size : Nat) : Prop where
  code : ∀ i (h : i < L.length), L[i].2 = base W + i
  fit : base W + L.length ≤ 2 ^ size
  most : base W + L.length ≤ 4095
  s12 : size ≤ 12
  sW : W + 1 ≤ size
theorem Wr.new {W : Nat} (h2 : 2 ≤ W) (h8 : W ≤ 8) : Wr W [] (W + 1) := by
  have h1 : (2 : Nat) ^ 2 ≤ 2 ^ W := Nat.pow_le_pow_right (by omega) h2
  have h3 : (2 : Nat) ^ W ≤ 2 ^ 8 := Nat.pow_le_pow_right (by omega) h8
  refine ⟨by simp, ?_, ?_, by omega, by omega⟩ <;> simp [base, Nat.pow_succ] <;> omega
theorem Wr.grow {W size : Nat} {L : List Word} (h : Wr W L size) : base W + L.length + 1 ≤ 2 ^ (grow W L.length size) ∧ grow W L.length size ≤ 12 ∧ size ≤ grow W L.length size := by
  have h1 := h.fit; have h2 := h.most; have h3 := h.s12
  unfold Lz.grow
  by_cases hc : base W + L.length = 2 ^ size ∧ size < 12
  · rw [if_pos hc, Nat.pow_succ]
    have := Nat.two_pow_pos size
    omega
  · rw [if_neg hc]
    refine ⟨?_, h3, Nat.le_refl _⟩
    rcases Nat.lt_or_ge (base W + L.length) (2 ^ size) with h4 | h4
    · omega
    · have h5 : size = 12 := by
        rcases Nat.lt_or_ge size 12 with h6 | h6
        · exact absurd ⟨by omega, h6⟩ hc
        · omega
      subst h5
      have : (2 : Nat) ^ 12 = 4096 := by decide
      omega
theorem Lag.size {W size : Nat} {L : List Word} {rest : List UInt8} {u : U} (h : Lag W L size rest u) : u.size = size := by
  rcases h with ⟨_, rfl, rfl⟩ | ⟨h, _⟩
  · rfl
  · exact h
/-- The reader takes the best word. -/
theorem Lag.text {W size : Nat} {L : List Word} {rest : List UInt8} {u : U} (h : Lag W L size rest u) (hw : Wr W L size) (hne : rest ≠ []) (h8 : W ≤ 8) (hr : ∀ b ∈ rest, b.toNat < 2 ^ W) :
    u.text (best rest L).2 = some (best rest L).1 ∧ u.more (best rest L).1 = ones W ++ L.map (·.1) := by
  have hb := best_is rest L hne
  obtain ⟨b, eb⟩ : ∃ b, b = best rest L := ⟨_, rfl⟩
  rw [← eb] at hb ⊢
  obtain ⟨x, r, rfl⟩ := List.exists_cons_of_ne_nil hne
  have hx := hr x (by simp)
  have ht1 : b.1.take 1 = [x] := by
    rw [hb.here, List.take_take, Nat.min_eq_left hb.pos]
    rfl
  have hp : (2 : Nat) ^ W ≤ 256 := Nat.pow_le_pow_right (by omega) h8
  have single : ∀ (l : List (List UInt8)), b = one (x :: r) → (ones W ++ l)[b.2]? = some b.1 := by
    intro l e
    rw [e, List.getElem?_append_left (by rw [ones_length]; unfold base; simp [one]; omega)]
    unfold ones
    rw [List.getElem?_append_left (by simp [one]; exact hx), List.getElem?_map, List.getElem?_range (by simpa [one] using hx)]
    simp [one]
  rcases h with ⟨rfl, rfl, _⟩ | ⟨h1, h2, D, h3, rfl⟩
  · have e : b = one (x :: r) := hb.mem.elim id fun e => by cases e
    refine ⟨?_, by simp [U.more, U.new]⟩
    have := single [] e
    rw [List.append_nil] at this
    unfold U.text
    rw [if_pos (by show b.2 < (ones W).length; exact (List.getElem?_eq_some_iff.1 this).1)]
    exact this
  · have hm := hw.most
    rw [List.length_append, List.length_singleton] at hm
    have hl : u.words.length = base W + D.length := by rw [h3, List.length_append, ones_length, List.length_map]
    constructor
    · rcases hb.mem with e | e
      · have := single (D.map (·.1)) e
        rw [← h3] at this
        unfold U.text
        rw [if_pos (List.getElem?_eq_some_iff.1 this).1]
        exact this
      · obtain ⟨i, hi, ei⟩ := List.getElem_of_mem e
        have hc := hw.code i hi
        rw [ei] at hc
        rw [List.length_append, List.length_singleton] at hi
        unfold U.text
        rcases Nat.lt_or_ge i D.length with h4 | h4
        · rw [if_pos (by omega), h3, List.getElem?_append_right (by rw [ones_length]; omega), ones_length, hc, Nat.add_sub_cancel_left, List.getElem?_map, List.getElem?_eq_getElem h4, Option.map_some]
          rw [List.getElem_append_left h4] at ei
          rw [ei]
        · have h5 : i = D.length := by omega
          subst h5
          rw [if_neg (by omega), if_pos ⟨by omega, h2⟩]
          simp only [List.getElem_append_right (Nat.le_refl _), Nat.sub_self, List.getElem_singleton, List.headD_cons] at ei
          obtain ⟨y, l, hy⟩ := List.exists_cons_of_ne_nil h2
          have : b.1.take 1 = [y] := by rw [← ei, hy]; rfl
          rw [ht1] at this
          rw [← ei, hy]
          simp only [List.take_succ_cons, List.take_zero]
          rw [this]
    · unfold U.more
      rw [if_pos ⟨h2, by omega⟩, ht1, h3]
      simp
theorem Wr.more {W size : Nat} {L : List Word} (h : Wr W L size) (t : List UInt8) (hc : base W + L.length + 1 ≠ 4096) : Wr W (L ++ [(t, base W + L.length)]) (Lz.grow W L.length size) := by
  have hg := h.grow
  have hm := h.most
  have hs := h.sW
  refine ⟨fun i hi => ?_, by simp; omega, by simp; omega, hg.2.1, by omega⟩
  rw [List.length_append, List.length_singleton] at hi
  rcases Nat.lt_or_ge i L.length with h1 | h1
  · rw [List.getElem_append_left h1]; exact h.code i h1
  · have : i = L.length := by omega
    subst this
    simp
theorem Wr.code_lt {W size n : Nat} {L : List Word} (h : Wr W L size) (hn : Ok W L.length n) : n < 2 ^ size := by
  have h1 := h.fit
  rcases hn with h2 | h2
  · unfold base at h1; omega
  · omega
end Lz
end Go.Proofs.YthohmpjoeffckaaGreatDoor
namespace Go.Proofs.YthohmpjoeffckaaGreatDoor
namespace Lz
/-- What a reader of codes keeps, sound. -/
structure U.Ok (W : Nat) (u : U) : Prop where
  len0 : base W ≤ u.words.length
  len1 : u.words.length ≤ 4096
  sW : W + 1 ≤ u.size
  s12 : u.size ≤ 12
  ne : ∀ i (h : i < u.words.length), i ≠ 2 ^ W → i ≠ 2 ^ W + 1 → u.words[i] ≠ []
  most : ∀ s ∈ u.words, s.length ≤ u.words.length
  last : u.last.length ≤ u.words.length
theorem U.Ok.new {W : Nat} (h2 : 2 ≤ W) (h8 : W ≤ 8) : U.Ok W (U.new W) := by
  have h3 : (2 : Nat) ^ W ≤ 2 ^ 8 := Nat.pow_le_pow_right (by omega) h8
  have hl : (U.new W).words.length = base W := ones_length W
  refine ⟨by rw [hl]; exact Nat.le_refl _, by rw [hl]; unfold base; omega, Nat.le_refl _, by show W + 1 ≤ 12; omega, fun i h h4 h5 => ?_, fun s hs => ?_, Nat.zero_le _⟩
  · rw [hl] at h
    unfold base at h
    have e : (U.new W).words[i]? = some [UInt8.ofNat i] := by
      show (ones W)[i]? = _
      unfold ones
      rw [List.getElem?_append_left (by simp; omega), List.getElem?_map, List.getElem?_range (by omega)]
      rfl
    rw [(List.getElem?_eq_some_iff.1 e).2]
    simp
  · rw [hl]
    have hs : s ∈ ones W := hs
    unfold ones at hs
    rcases List.mem_append.1 hs with h | h
    · obtain ⟨i, _, rfl⟩ := List.mem_map.1 h
      unfold base
      simp
    · simp at h
      rw [h]
      exact Nat.zero_le _
section
variable {W n : Nat} {u : U} {w : List UInt8}
theorem U.Ok.textMost (h : U.Ok W u) (ht : u.text n = some w) : w.length ≤ u.words.length + 1 := by
  unfold U.text at ht
  split at ht
  · rename_i hl
    rw [List.getElem?_eq_getElem hl] at ht
    cases ht
    have := h.most _ (List.getElem_mem hl)
    omega
  · split at ht
    · cases ht
      have := h.last
      rw [List.length_append, List.length_take]
      omega
    · cases ht
theorem U.Ok.next (h : U.Ok W u) (ht : u.text n = some w) (hn : n < 4096) : U.Ok W (u.next w) := by
  have hm := h.textMost ht
  have hl0 := h.last
  by_cases hc : u.last ≠ [] ∧ u.words.length < 4096
  · have e : u.more w = u.words ++ [u.last ++ w.take 1] := by unfold U.more; rw [if_pos hc]
    have hl : (u.next w).words.length = u.words.length + 1 := by show (u.more w).length = _; rw [e]; simp
    have h9 : (u.next w).size = u.wide w := rfl
    refine ⟨by have := h.len0; omega, by omega, ?_, ?_, fun i hi h1 h2 => ?_, fun s hs => ?_, by show w.length ≤ _; omega⟩
    · rw [h9]; unfold U.wide; have := h.sW; split <;> omega
    · rw [h9]; unfold U.wide; have := h.s12; split <;> omega
    · have e2 : (u.next w).words = u.words ++ [u.last ++ w.take 1] := e
      simp only [e2] at hi ⊢
      rcases Nat.lt_or_ge i u.words.length with h3 | h3
      · rw [List.getElem_append_left h3]; exact h.ne i h3 h1 h2
      · rw [List.getElem_append_right h3]
        simp [hc.1]
    · have hs : s ∈ u.more w := hs
      rw [e] at hs
      rcases List.mem_append.1 hs with h3 | h3
      · have := h.most s h3; omega
      · simp at h3
        rw [h3, hl, List.length_append, List.length_take]
        omega
  · have e : u.more w = u.words := by unfold U.more; rw [if_neg hc]
    have hl : (u.next w).words.length = u.words.length := by show (u.more w).length = _; rw [e]
    have h9 : (u.next w).size = u.wide w := rfl
    refine ⟨by have := h.len0; omega, by have := h.len1; omega, ?_, ?_, fun i hi h1 h2 => ?_, fun s hs => ?_, ?_⟩
    · rw [h9]; unfold U.wide; have := h.sW; split <;> omega
    · rw [h9]; unfold U.wide; have := h.s12; split <;> omega
    · have e2 : (u.next w).words = u.words := e
      simp only [e2] at hi ⊢
      exact h.ne i hi h1 h2
    · have hs : s ∈ u.more w := hs
      rw [e] at hs
      rw [hl]
      exact h.most s hs
    · show w.length ≤ _
      rw [hl]
      unfold U.text at ht
      split at ht
      · rename_i h3
        rw [List.getElem?_eq_getElem h3] at ht
        cases ht
        exact h.most _ (List.getElem_mem h3)
      · split at ht
        · rename_i h3
          exact absurd ⟨h3.2, by omega⟩ hc
        · cases ht
end
end Lz
end Go.Proofs.YthohmpjoeffckaaGreatDoor
namespace Go.Proofs.YthohmpjoeffckaaGreatDoor
namespace Blo

end Blo
end Go.Proofs.YthohmpjoeffckaaGreatDoor
