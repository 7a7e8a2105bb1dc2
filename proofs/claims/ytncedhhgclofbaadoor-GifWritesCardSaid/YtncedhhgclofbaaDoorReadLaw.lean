/- A moving picture read, plainly: frames of bytes; what is written is read. -/
import Derived.Test.YtncedhhgclofbaaDoorGifWr0
import Derived.Test.YtncedhhgclofbaaDoorLzwLaw
namespace Go.Proofs.YtncedhhgclofbaaDoor
namespace Gif

def nat1 (s : List UInt8) (i : Nat) : Nat := (s.getD i 0).toNat
def nat2 (s : List UInt8) (i : Nat) : Nat := nat1 s i + 256 * nat1 s (i + 1)
/-- The pixel of a number. -/
def pixOf (flags clear : Nat) (t : List UInt8) (b : UInt8) : Option Px :=
  if t.length ≤ 3 * b.toNat then none else some (if flags = 9 ∧ b.toNat = clear then Px.zero else ⟨t.getD (3 * b.toNat) 0, t.getD (3 * b.toNat + 1) 0, t.getD (3 * b.toNat + 2) 0, 255⟩)
def pixsOf (flags clear : Nat) (t : List UInt8) : List UInt8 → Option (List Px)
  | [] => some []
  | b :: r => match pixOf flags clear t b with
    | none => none
    | some p => match pixsOf flags clear t r with
      | none => none
      | some ps => some (p :: ps)
theorem pixsOf_snoc (flags clear : Nat) (t : List UInt8) (b : UInt8) : ∀ l : List UInt8, pixsOf flags clear t (l ++ [b]) = match pixsOf flags clear t l with
    | none => none
    | some ps => match pixOf flags clear t b with
      | none => none
      | some p => some (ps ++ [p])
  | [] => by
    simp only [List.nil_append, pixsOf]
  | c :: l => by
    simp only [List.cons_append, pixsOf, pixsOf_snoc flags clear t b l]
    cases pixOf flags clear t c with
    | none => rfl
    | some p =>
      cases pixsOf flags clear t l with
      | none => rfl
      | some ps =>
        cases pixOf flags clear t b with
        | none => rfl
        | some q => rfl
theorem pixsOf_none (flags clear : Nat) (t : List UInt8) (b : UInt8) (hb : pixOf flags clear t b = none) : ∀ l r : List UInt8, pixsOf flags clear t (l ++ b :: r) = none
  | [], r => by simp only [List.nil_append, pixsOf, hb]
  | c :: l, r => by
    simp only [List.cons_append, pixsOf, pixsOf_none flags clear t b hb l r]
    cases pixOf flags clear t c <;> rfl
theorem pixsOf_length (flags clear : Nat) (t : List UInt8) : ∀ (l : List UInt8) (ps : List Px), pixsOf flags clear t l = some ps → ps.length = l.length
  | [], ps, h => by
    cases h
    rfl
  | b :: l, ps, h => by
    rw [pixsOf] at h
    split at h
    · cases h
    · split at h
      · cases h
      · rename_i qs hq
        cases h
        simp [pixsOf_length flags clear t l qs hq]
/-- Numbers of codes. -/
def unpack (z : List UInt8) (W most : Nat) : Option (List UInt8) :=
  if W < 2 ∨ 8 < W ∨ 300000 < z.length then none else Lz.dec W most (8 * z.length + 1) (Bit.bits z) (Lz.U.new W) []
/-- A frame of bytes; the bytes behind it. -/
def rframe (wide high : Nat) (s : List UInt8) : Option (Fr × List UInt8) :=
  if s.length < 18 then none else
  if s.length < 18 + 3 * 2 ^ (nat1 s 17 % 8 + 1) then none else
  if s.length < 19 + 3 * 2 ^ (nat1 s 17 % 8 + 1) then none else
  match Blo.joinF ((s.drop (19 + 3 * 2 ^ (nat1 s 17 % 8 + 1))).length + 1) (s.drop (19 + 3 * 2 ^ (nat1 s 17 % 8 + 1))) [] 0 with
  | none => none
  | some (z, used) => match unpack z (nat1 s (18 + 3 * 2 ^ (nat1 s 17 % 8 + 1))) (wide * high) with
    | none => none
    | some l => if l.length ≠ wide * high then none else
      match pixsOf (nat1 s 3) (nat1 s 6) ((s.drop 18).take (3 * 2 ^ (nat1 s 17 % 8 + 1))) l with
      | none => none
      | some ps => some (⟨wide, high, ps, nat2 s 4⟩, (s.drop (19 + 3 * 2 ^ (nat1 s 17 % 8 + 1))).drop used)
/-- Frames of bytes, up to a byte 59. -/
def rframes (wide high : Nat) : Nat → List UInt8 → List Fr → Option (List Fr)
  | 0, _, _ => none
  | f + 1, s, acc => if s.take 1 = [59] then some acc else match rframe wide high s with
    | none => none
    | some (x, r) => if 16 < acc.length + 1 then none else rframes wide high f r (acc ++ [x])
/-- All of them, and how often they are shown. -/
def rall (s : List UInt8) : Option (List Fr × Nat) :=
  if s.length < 13 then none else
  if nat2 s 6 < 1 ∨ 256 < nat2 s 6 ∨ nat2 s 8 < 1 ∨ 256 < nat2 s 8 then none else
  if (s.drop 13).take 2 = [33, 255] then
    if s.length < 32 then none else
    match rframes (nat2 s 6) (nat2 s 8) 17 (s.drop 32) [] with
    | none => none
    | some l => some (l, nat2 s 29)
  else match rframes (nat2 s 6) (nat2 s 8) 17 (s.drop 13) [] with
    | none => none
    | some l => some (l, 0)
/-- What Read gives of a text that is not too long. -/
def read (s : List UInt8) : Option (List Fr × Nat) :=
  match rall s with
  | none => none
  | some (l, n) => if gif l n = .inl s then some (l, n) else none

/-! What is written is read. -/
def cleanFr (f : Fr) : Fr := ⟨f.wide, f.high, clean f.ps, f.delay⟩
theorem cl_cl (p : Px) : cl (cl p) = cl p := by
  unfold cl
  by_cases h : p.a = 0
  · rw [if_pos h]
    exact if_pos rfl
  · rw [if_neg h, if_neg h]
theorem clean_clean (ps : List Px) : clean (clean ps) = clean ps := by
  unfold clean
  rw [List.map_map]
  exact List.map_congr_left fun p _ => cl_cl p
theorem clean_length (ps : List Px) : (clean ps).length = ps.length := by simp [clean]
theorem okA_cl (p : Px) : okA (cl p) = okA p := by
  unfold cl
  by_cases h : p.a = 0
  · rw [if_pos h]
    unfold okA
    rw [h]
    rfl
  · rw [if_neg h]
theorem colOK_clean (ps : List Px) : colOK (clean ps) = colOK ps := by
  unfold colOK
  rw [clean_clean]
  congr 1
  unfold clean
  rw [List.all_map]
  congr 1
  funext p
  exact okA_cl p
theorem frame_clean (f : Fr) : frame (cleanFr f) = frame f := by
  unfold frame cleanFr
  simp only [clean_clean]
  rfl
theorem err_clean (a b : Fr) : err (cleanFr a) (cleanFr b) = err a b := by
  unfold err right cleanFr
  simp only [clean_length, colOK_clean]
theorem body_clean (a : Fr) : ∀ (fs : List Fr) (i : Nat) (acc : List UInt8), body (cleanFr a) (fs.map cleanFr) i acc = body a fs i acc
  | [], _, _ => rfl
  | f :: r, i, acc => by
    rw [List.map_cons, body, body, err_clean, frame_clean]
    cases err a f with
    | none => exact body_clean a r (i + 1) _
    | some c => rfl
theorem bad_clean (fs : List Fr) (n : Int) : bad (fs.map cleanFr) n = bad fs n := by
  cases fs with
  | nil => rfl
  | cons f r =>
    unfold bad right cleanFr
    simp only [List.map_cons, List.length_cons, List.length_map, clean_length]
theorem gif_clean (fs : List Fr) (n : Int) : gif (fs.map cleanFr) n = gif fs n := by
  cases fs with
  | nil => rfl
  | cons f r =>
    have h1 := bad_clean (f :: r) n
    rw [List.map_cons] at h1
    unfold gif
    simp only [List.map_cons, h1]
    rw [← List.map_cons, body_clean, List.length_map]
    rfl

theorem clrF_no : ∀ (u : List Px) (i : Nat) (c : Int), (∀ x ∈ u, x.a ≠ 0) → clrF u i c = c
  | [], _, _, _ => rfl
  | x :: u, i, c, h => by
    rw [clrF, if_neg (h x (by simp)), clrF_no u _ _ fun y hy => h y (by simp [hy])]
/-- There is one that covers nothing: it has this number. -/
theorem clr_at (u : List Px) (k : Nat) (hk : k < u.length) (h0 : u[k].a = 0) (h1 : ∀ i (hi : i < u.length), k < i → u[i].a ≠ 0) : clr u = k := by
  have e : u = u.take k ++ (u[k] :: u.drop (k + 1)) := by rw [← List.drop_eq_getElem_cons hk, List.take_append_drop]
  have hl : (u.take k).length = k := by rw [List.length_take]; omega
  unfold clr
  rw [e, clrF_append, hl, clrF, if_pos h0, Nat.zero_add]
  refine clrF_no _ _ _ fun x hx => ?_
  obtain ⟨i, hi, rfl⟩ := List.getElem_of_mem hx
  rw [List.getElem_drop]
  rw [List.length_drop] at hi
  exact h1 _ (by omega) (by omega)
theorem clr_ge (u : List Px) (h : 0 ≤ clr u) : ∃ h : (clr u).toNat < u.length, u[(clr u).toNat].a = 0 := by
  have key : ∀ (n : Nat) (u : List Px), u.length = n → 0 ≤ clr u → ∃ h : (clr u).toNat < u.length, u[(clr u).toNat].a = 0 := by
    intro n
    induction n with
    | zero =>
      intro u hu h0
      rw [List.eq_nil_of_length_eq_zero hu] at h0
      exact absurd h0 (by decide)
    | succ n ih =>
      intro u hu h0
      have hne : u ≠ [] := by rintro rfl; simp at hu
      obtain ⟨v, x, rfl⟩ : ∃ v x, u = v ++ [x] := ⟨u.dropLast, u.getLast hne, (List.dropLast_concat_getLast hne).symm⟩
      rw [clr_snoc] at h0
      by_cases hx : x.a = 0
      · have e : (clr (v ++ [x])).toNat = v.length := by rw [clr_snoc, if_pos hx]; simp
        refine ⟨by rw [e]; simp, ?_⟩
        have : (v ++ [x])[(clr (v ++ [x])).toNat]? = some x := by rw [e]; simp
        rw [(List.getElem?_eq_some_iff.1 this).2]
        exact hx
      · rw [if_neg hx] at h0
        obtain ⟨h3, h4⟩ := ih v (by simpa using hu) h0
        have e : (clr (v ++ [x])).toNat = (clr v).toNat := by rw [clr_snoc, if_neg hx]
        refine ⟨by rw [e]; simp; omega, ?_⟩
        have : (v ++ [x])[(clr (v ++ [x])).toNat]? = some v[(clr v).toNat] := by rw [e, List.getElem?_append_left h3, List.getElem?_eq_getElem h3]
        rw [(List.getElem?_eq_some_iff.1 this).2]
        exact h4
  exact key _ u rfl h
theorem table_get (u : List Px) (k : Nat) : ∀ m, k < m → (table u m)[3 * k]? = some (u.getD k Px.zero).r ∧ (table u m)[3 * k + 1]? = some (u.getD k Px.zero).g ∧ (table u m)[3 * k + 2]? = some (u.getD k Px.zero).b
  | 0, h => by omega
  | m + 1, h => by
    rw [table_succ]
    have hl := table_length u m
    rcases Nat.lt_or_ge k m with h1 | h1
    · rw [List.getElem?_append_left (by omega), List.getElem?_append_left (by omega), List.getElem?_append_left (by omega)]
      exact table_get u k m h1
    · have : k = m := by omega
      subst this
      rw [List.getElem?_append_right (by omega), List.getElem?_append_right (by omega), List.getElem?_append_right (by omega), hl]
      refine ⟨?_, ?_, ?_⟩
      · rw [Nat.sub_self]; rfl
      · rw [show 3 * k + 1 - 3 * k = 1 by omega]; rfl
      · rw [show 3 * k + 2 - 3 * k = 2 by omega]; rfl
theorem clean_a (ps : List Px) (h : ps.all okA = true) : ∀ x ∈ clean ps, x = Px.zero ∨ (x.a ≠ 0 ∧ x.a = 255) := by
  intro x hx
  obtain ⟨p, hp, rfl⟩ := List.mem_map.1 hx
  have h1 := List.all_eq_true.1 h p hp
  unfold okA at h1
  rw [Bool.or_eq_true, decide_eq_true_eq, decide_eq_true_eq] at h1
  unfold cl
  by_cases h0 : p.a = 0
  · rw [if_pos h0]; exact .inl rfl
  · rw [if_neg h0]
    exact .inr ⟨h0, h1.elim (fun e => absurd e h0) id⟩
/-- Numbers are read as the pixels that they are of. -/
theorem pixs_back (ps : List Px) (h : colOK ps = true) : pixsOf (if 0 ≤ clr (Col.unl (clean ps)).1 then 9 else 8) (clr (Col.unl (clean ps)).1).toNat (table (Col.unl (clean ps)).1 (2 ^ (size (Col.unl (clean ps)).1.length + 1)))
    (nums (Col.unl (clean ps)).2) = some (clean ps) := by
  unfold colOK at h
  rw [Bool.and_eq_true, decide_eq_true_eq] at h
  obtain ⟨hall, hlen⟩ := h
  have hA := clean_a ps hall
  have hin := Col.unl_in (clean ps)
  have hmem := unl_mem (clean ps)
  have hfit := size_fit _ hlen
  rw [Col.unl_nums]
  have hnd : ∀ i j (hi : i < (Col.unl (clean ps)).1.length) (hj : j < (Col.unl (clean ps)).1.length), (Col.unl (clean ps)).1[i] = (Col.unl (clean ps)).1[j] → i = j := by
    intro i j hi hj e
    have hu := Col.uses_nodup (clean ps) _ (Nat.le_refl _)
    rw [List.take_length, ← Col.unl_cols] at hu
    have hp := List.pairwise_iff_getElem.1 hu
    rcases Nat.lt_trichotomy i j with h | h | h
    · exact absurd e (hp i j hi hj h)
    · exact h
    · exact absurd e.symm (hp j i hj hi h)
  generalize hU : (Col.unl (clean ps)).1 = u at *
  obtain ⟨T, hT⟩ : ∃ T, T = table u (2 ^ (size u.length + 1)) := ⟨_, rfl⟩
  have hTl : T.length = 3 * 2 ^ (size u.length + 1) := by rw [hT, table_length]
  have one : ∀ x ∈ clean ps, pixOf (if 0 ≤ clr u then 9 else 8) (clr u).toNat T (UInt8.ofNat (Int.toNat ((Col.placeOf x u : Nat) : Int))) = some x := by
    intro x hx
    have hp := hin x hx
    have hat := Col.placeOf_at x u hp
    obtain ⟨k, hk⟩ : ∃ k, k = Col.placeOf x u := ⟨_, rfl⟩
    simp only [← hk] at hp hat ⊢
    have hb : (UInt8.ofNat (Int.toNat ((k : Nat) : Int))).toNat = k := by rw [Int.toNat_natCast]; exact UInt8.toNat_ofNat_of_lt' (by show _ < 256; omega)
    unfold pixOf
    rw [hb, if_neg (by omega)]
    obtain ⟨t0, t1, t2⟩ := table_get u k _ (show k < 2 ^ (size u.length + 1) by omega)
    rw [← hT] at t0 t1 t2
    have hget : u.getD k Px.zero = x := by rw [List.getD_eq_getElem?_getD, List.getElem?_eq_getElem hp, hat]; rfl
    rw [hget] at t0 t1 t2
    rcases hA x hx with h0 | ⟨h0, h255⟩
    · have hc : clr u = k := by
        refine clr_at u k hp (by rw [hat, h0]; rfl) fun i hi hki h2 => ?_
        have h3 := hA u[i] (hmem _ (List.getElem_mem hi))
        rcases h3 with h3 | h3
        · have := hnd i k hi hp (by rw [h3, hat, h0])
          omega
        · exact h3.1 h2
      have e9 : (if (0 : Int) ≤ (k : Int) then 9 else 8) = 9 := if_pos (by omega)
      rw [hc, e9, if_pos ⟨rfl, by omega⟩, h0]
    · have hne : ¬ ((if 0 ≤ clr u then 9 else 8) = 9 ∧ k = (clr u).toNat) := by
        rintro ⟨e1, e2⟩
        by_cases hc : 0 ≤ clr u
        · obtain ⟨h4, h5⟩ := clr_ge u hc
          have : u[(clr u).toNat]? = some u[k] := by rw [← e2, List.getElem?_eq_getElem hp]
          rw [(List.getElem?_eq_some_iff.1 this).2, hat] at h5
          exact h0 h5
        · rw [if_neg hc] at e1
          omega
      rw [if_neg hne]
      simp only [List.getD_eq_getElem?_getD, t0, t1, t2, Option.getD_some]
      rw [← h255]
  rw [← hT]
  generalize clean ps = l at one
  clear hA hin hmem hall hlen hU hnd
  induction l with
  | nil => rfl
  | cons x l ih =>
    have h1 := one x (by simp)
    have h2 := ih fun y hy => one y (by simp [hy])
    unfold nums at h2 ⊢
    simp only [List.map_cons, pixsOf, h1]
    rw [h2]
/-- What stands in a frame. -/
structure Shape (f : Fr) (post : List UInt8) (z : Nat) (u : List Px) (s : List UInt8) : Prop where
  flags : nat1 s 3 = if 0 ≤ clr u then 9 else 8
  delay : nat2 s 4 = f.delay.toNat
  clear : nat1 s 6 = (clr u).toNat
  size : nat1 s 17 = 128 + z
  long : s.length = 19 + 3 * 2 ^ (z + 1) + (Blo.blocks (Bit.pack (Lz.lzw (width z) (nums (Col.unl (clean f.ps)).2)))).length + post.length
  table : (s.drop 18).take (3 * 2 ^ (z + 1)) = Gif.table u (2 ^ (z + 1))
  width : nat1 s (18 + 3 * 2 ^ (z + 1)) = Gif.width z
  rest : s.drop (19 + 3 * 2 ^ (z + 1)) = Blo.blocks (Bit.pack (Lz.lzw (Gif.width z) (nums (Col.unl (clean f.ps)).2))) ++ post
theorem frame_shape (f : Fr) (post : List UInt8) (h : colOK f.ps = true) (hd : 0 ≤ f.delay ∧ f.delay ≤ 65535) : Shape f post (Gif.size (Col.unl (clean f.ps)).1.length) (Col.unl (clean f.ps)).1 (frame f ++ post) := by
  unfold colOK at h
  rw [Bool.and_eq_true, decide_eq_true_eq] at h
  have hlen := h.2
  have hz := size_le _ hlen
  unfold frame
  generalize (Col.unl (clean f.ps)).1 = u at *
  obtain ⟨z, hze⟩ : ∃ z, z = Gif.size u.length := ⟨_, rfl⟩
  rw [← hze] at hz ⊢
  generalize hB : Blo.blocks (Bit.pack (Lz.lzw (Gif.width z) (nums (Col.unl (clean f.ps)).2))) = B
  have hT := table_length u (2 ^ (z + 1))
  generalize hTt : Gif.table u (2 ^ (z + 1)) = T at *
  have hc : (clr u).toNat < 256 := by rcases clr_range u with h1 | h1 <;> omega
  obtain ⟨fl, hfl⟩ : ∃ fl : Nat, fl = if 0 ≤ clr u then 9 else 8 := ⟨_, rfl⟩
  have hf9 : fl < 256 := by rw [hfl]; split <;> omega
  obtain ⟨d, hdd⟩ : ∃ d : Nat, d = f.delay.toNat := ⟨_, rfl⟩
  have hd6 : d ≤ 65535 := by omega
  unfold front pair
  rw [← hfl, ← hdd, ← hze]
  have b1 : ∀ n : Nat, n < 256 → (UInt8.ofNat n).toNat = n := fun n hn => UInt8.toNat_ofNat_of_lt' hn
  have hw : Gif.width z < 256 := by unfold Gif.width; omega
  obtain ⟨tl, htl⟩ : ∃ tl, tl = 3 * 2 ^ (z + 1) := ⟨_, rfl⟩
  rw [← htl] at hT
  refine ⟨?_, ?_, ?_, ?_, ?_, ?_, ?_, ?_⟩
  · rw [← hfl]
    exact b1 fl hf9
  · rw [← hdd]
    show (UInt8.ofNat (d % 256)).toNat + 256 * (UInt8.ofNat (d / 256)).toNat = d
    rw [b1 _ (by omega), b1 _ (by omega)]
    omega
  · exact b1 _ hc
  · exact b1 _ (by omega)
  · rw [hB, ← htl]
    simp only [List.length_append, List.length_cons, List.length_nil, hT]
    omega
  · rw [← htl, hTt]
    simp only [List.append_assoc, List.cons_append, List.nil_append, List.drop_succ_cons, List.drop_zero]
    rw [List.take_append_of_le_length (by omega), List.take_of_length_le (by omega)]
  · rw [← htl]
    unfold nat1
    rw [List.getD_eq_getElem?_getD]
    simp only [List.append_assoc]
    have e : ∀ (a : List UInt8) (l : List UInt8), a.length = 18 → (a ++ (T ++ (UInt8.ofNat (Gif.width z) :: l)))[18 + tl]? = some (UInt8.ofNat (Gif.width z)) := by
      intro a l ha
      rw [List.getElem?_append_right (by omega), ha, List.getElem?_append_right (by omega), show 18 + tl - 18 - T.length = 0 by omega]
      rfl
    have := e ([33, 249, 4, UInt8.ofNat fl, UInt8.ofNat (d % 256), UInt8.ofNat (d / 256), UInt8.ofNat (clr u).toNat, 0, 44, 0, 0, 0, 0, UInt8.ofNat (f.wide.toNat % 256), UInt8.ofNat (f.wide.toNat / 256), UInt8.ofNat (f.high.toNat % 256), UInt8.ofNat (f.high.toNat / 256), UInt8.ofNat (128 + z)]) (B ++ post) rfl
    simp only [List.cons_append, List.nil_append] at this ⊢
    rw [this]
    exact b1 _ hw
  · rw [← htl, hB]
    have e : ∀ (a : List UInt8), a.length = 18 → (a ++ (T ++ (UInt8.ofNat (Gif.width z) :: (B ++ post)))).drop (19 + tl) = B ++ post := by
      intro a ha
      rw [show 19 + tl = 18 + (tl + 1) by omega, ← List.drop_drop, ← ha, List.drop_left, ← List.drop_drop, ← hT, List.drop_left]
      rfl
    have := e ([33, 249, 4, UInt8.ofNat fl, UInt8.ofNat (d % 256), UInt8.ofNat (d / 256), UInt8.ofNat (clr u).toNat, 0, 44, 0, 0, 0, 0, UInt8.ofNat (f.wide.toNat % 256), UInt8.ofNat (f.wide.toNat / 256), UInt8.ofNat (f.high.toNat % 256), UInt8.ofNat (f.high.toNat / 256), UInt8.ofNat (128 + z)]) rfl
    simp only [List.append_assoc, List.cons_append, List.nil_append] at this ⊢
    exact this
/-- A frame that is written is read. -/
theorem rframe_back (f : Fr) (post : List UInt8) (W H : Nat) (hw : f.wide = W) (hh : f.high = H) (hr : right f = true) (h : colOK f.ps = true) (hd : 0 ≤ f.delay ∧ f.delay ≤ 65535) :
    rframe W H (frame f ++ post) = some (cleanFr f, post) := by
  have hs := frame_shape f post h hd
  have hback := pixs_back f.ps h
  have hrt := rightB_true hr
  have hlen : (Col.unl (clean f.ps)).1.length ≤ 256 := by
    unfold colOK at h
    rw [Bool.and_eq_true, decide_eq_true_eq] at h
    exact h.2
  have hz := size_le _ hlen
  have hfit := size_fit _ hlen
  have hnl := nums_length (clean f.ps)
  have hnt := nums_lt (clean f.ps)
  rw [clean_length] at hnl
  have hpl : f.ps.length = W * H := by
    have := hrt.2.2.1
    rw [hw, hh] at this
    exact_mod_cast this
  have hp6 : f.ps.length ≤ 65536 := hrt.2.2.2
  clear hrt
  generalize frame f ++ post = s at *
  obtain ⟨z, hze⟩ : ∃ z, z = Gif.size (Col.unl (clean f.ps)).1.length := ⟨_, rfl⟩
  rw [← hze] at hs hback hz hfit
  have e17 : nat1 s 17 % 8 = z := by rw [hs.size]; omega
  have hww : 2 ≤ Gif.width z ∧ Gif.width z ≤ 8 := by unfold Gif.width; omega
  have hwz : 2 ^ (z + 1) ≤ 2 ^ Gif.width z := Nat.pow_le_pow_right (by omega) (by unfold Gif.width; omega)
  have hnlt : ∀ b ∈ nums (Col.unl (clean f.ps)).2, b.toNat < 2 ^ Gif.width z := fun b hb => by have := hnt b hb hlen; omega
  have hun : unpack (Bit.pack (Lz.lzw (Gif.width z) (nums (Col.unl (clean f.ps)).2))) (Gif.width z) (W * H) = some (nums (Col.unl (clean f.ps)).2) := by
    unfold unpack
    rw [if_neg]
    · exact Lz.unlzw_lzw _ _ _ hww.1 hww.2 hnlt (by omega) _ (by omega)
    · have hlz : (Lz.lzw (Gif.width z) (nums (Col.unl (clean f.ps)).2)).length ≤ 24 * 65536 + 30 := by
        unfold Lz.lzw
        rw [List.length_append, Bit.low_length]
        have h1 := Lz.enc_most (Gif.width z) (nums (Col.unl (clean f.ps)).2).length (nums (Col.unl (clean f.ps)).2) [] (Gif.width z + 1) (Nat.le_refl _) (by omega) (by omega)
        omega
      have hpl2 := Bit.pack_length (Lz.lzw (Gif.width z) (nums (Col.unl (clean f.ps)).2))
      omega
  unfold rframe
  rw [e17]
  have hl := hs.long
  rw [if_neg (by omega), if_neg (by omega), if_neg (by omega), hs.rest, hs.width]
  have hj := Blo.join_blocks _ ((Blo.blocks (Bit.pack (Lz.lzw (Gif.width z) (nums (Col.unl (clean f.ps)).2))) ++ post).length + 1) (Bit.pack (Lz.lzw (Gif.width z) (nums (Col.unl (clean f.ps)).2))) [] [] post (Nat.le_refl _) (by rw [List.length_append]; have := Blo.blocks_long (Bit.pack (Lz.lzw (Gif.width z) (nums (Col.unl (clean f.ps)).2))); omega)
  simp only [List.nil_append, List.length_nil, Nat.zero_add] at hj
  unfold Blo.blocks at hj ⊢
  rw [hj]
  simp only
  rw [hun]
  simp only
  rw [if_neg (by omega), hs.flags, hs.clear, hs.table, hback]
  simp only
  rw [hs.delay, List.drop_left]
  unfold cleanFr
  rw [hw, hh]
  congr 3
  omega
theorem body_ok (a : Fr) : ∀ (fs : List Fr) (i : Nat) (acc s : List UInt8), body a fs i acc = .inl s → s = acc ++ fs.flatMap frame ++ [59] ∧ ∀ f ∈ fs, err a f = none
  | [], _, acc, s, h => by
    rw [body] at h
    injection h with h
    exact ⟨by rw [← h]; simp, fun f hf => by cases hf⟩
  | f :: r, i, acc, s, h => by
    rw [body] at h
    cases he : err a f with
    | some c => rw [he] at h; cases h
    | none =>
      rw [he] at h
      obtain ⟨h1, h2⟩ := body_ok a r (i + 1) (acc ++ frame f) s h
      refine ⟨by rw [h1]; simp, fun x hx => ?_⟩
      rcases List.mem_cons.1 hx with rfl | hx
      · exact he
      · exact h2 x hx
theorem body_yes (a : Fr) : ∀ (fs : List Fr) (i : Nat) (acc : List UInt8), (∀ f ∈ fs, err a f = none) → body a fs i acc = .inl (acc ++ fs.flatMap frame ++ [59])
  | [], _, acc, _ => by rw [body]; simp
  | f :: r, i, acc, h => by
    rw [body, h f (by simp)]
    simp only
    rw [body_yes a r (i + 1) _ fun x hx => h x (by simp [hx])]
    simp
theorem err_no {a f : Fr} (h : err a f = none) : right f = true ∧ f.wide = a.wide ∧ f.high = a.high ∧ (0 ≤ f.delay ∧ f.delay ≤ 65535) ∧ colOK f.ps = true := by
  unfold err at h
  split at h
  · cases h
  · rename_i h1
    split at h
    · cases h
    · rename_i h2
      split at h
      · cases h
      · rename_i h3
        refine ⟨?_, ?_, ?_, by omega, ?_⟩
        · cases hr : right f
          · exact absurd (.inl hr) h1
          · rfl
        · exact Decidable.byContradiction fun e => h1 (.inr (.inl e))
        · exact Decidable.byContradiction fun e => h1 (.inr (.inr e))
        · cases hc : colOK f.ps
          · exact absurd hc h3
          · rfl
theorem frame_head (f : Fr) : ∃ r, frame f = 33 :: 249 :: r := ⟨_, rfl⟩
theorem rframes_back (a : Fr) (W H : Nat) (hw : a.wide = W) (hh : a.high = H) : ∀ (fs : List Fr) (g : Nat) (acc : List Fr), fs.length < g → acc.length + fs.length ≤ 16 → (∀ f ∈ fs, err a f = none) →
    rframes W H g (fs.flatMap frame ++ [59]) acc = some (acc ++ fs.map cleanFr)
  | [], g, acc, hg, _, _ => by
    obtain ⟨g, rfl⟩ : ∃ g', g = g' + 1 := ⟨g - 1, by simp at hg; omega⟩
    rw [rframes, if_pos (by rfl)]
    simp
  | f :: r, g, acc, hg, ha, he => by
    rw [List.length_cons] at hg ha
    obtain ⟨g, rfl⟩ : ∃ g', g = g' + 1 := ⟨g - 1, by omega⟩
    obtain ⟨e1, e2, e3, e4, e5⟩ := err_no (he f (by simp))
    obtain ⟨t, ht⟩ := frame_head f
    rw [rframes, List.flatMap_cons, List.append_assoc, if_neg (by rw [ht]; simp), rframe_back f _ W H (e2.trans hw) (e3.trans hh) e1 e5 e4]
    simp only
    rw [if_neg (by omega), rframes_back a W H hw hh r g _ (by omega) (by rw [List.length_append, List.length_singleton]; omega) fun x hx => he x (by simp [hx])]
    simp
theorem head_shape (f : Fr) (n : Nat) (loops : Nat) (W H : Nat) (hw : f.wide = W) (hh : f.high = H) (hW : W < 65536) (hH : H < 65536) (hl : loops < 65536) (post : List UInt8) :
    13 ≤ (head f n loops ++ post).length ∧ nat2 (head f n loops ++ post) 6 = W ∧ nat2 (head f n loops ++ post) 8 = H ∧
    (1 < n → 32 ≤ (head f n loops ++ post).length ∧ ((head f n loops ++ post).drop 13).take 2 = [33, 255] ∧ nat2 (head f n loops ++ post) 29 = loops ∧ (head f n loops ++ post).drop 32 = post) ∧
    (¬ 1 < n → (head f n loops ++ post).drop 13 = post) := by
  have b1 : ∀ n : Nat, n < 256 → (UInt8.ofNat n).toNat = n := fun n hn => UInt8.toNat_ofNat_of_lt' hn
  have two : ∀ n : Nat, n < 65536 → (UInt8.ofNat (n % 256)).toNat + 256 * (UInt8.ofNat (n / 256)).toNat = n := fun n hn => by rw [b1 _ (by omega), b1 _ (by omega)]; omega
  have hw2 : f.wide.toNat = W := by omega
  have hh2 : f.high.toNat = H := by omega
  have hl2 : (loops : Int).toNat = loops := by omega
  unfold head pair
  rw [hw2, hh2, hl2]
  by_cases h : 1 < n
  · rw [if_pos h]
    refine ⟨?_, two W hW, two H hH, fun _ => ⟨?_, rfl, two loops hl, rfl⟩, fun e => absurd h e⟩
    · simp
    · simp
  · rw [if_neg h]
    refine ⟨?_, two W hW, two H hH, fun e => absurd e h, fun _ => rfl⟩
    simp
/-- What is written is read. -/
theorem rall_back (fs : List Fr) (loops : Nat) (s : List UInt8) (h : gif fs loops = .inl s) : rall s = some (fs.map cleanFr, if 1 < fs.length then loops else 0) := by
  cases hb : bad fs loops with
  | true => rw [gif_bad fs loops hb] at h; cases h
  | false =>
    cases fs with
    | nil => cases hb
    | cons f r =>
      obtain ⟨h16, _, hl⟩ := bad_no2 hb
      rw [gif_ok f r loops hb] at h
      obtain ⟨hs, he⟩ := body_ok f (f :: r) 0 _ s h
      obtain ⟨e1, -, -, -, -⟩ := err_no (he f (by simp))
      obtain ⟨⟨w1, w2⟩, ⟨h1, h2⟩, -, -⟩ := rightB_true e1
      obtain ⟨W, hW⟩ := Int.eq_ofNat_of_zero_le (show 0 ≤ f.wide by omega)
      obtain ⟨H, hH⟩ := Int.eq_ofNat_of_zero_le (show 0 ≤ f.high by omega)
      have hsh := head_shape f (r.length + 1) loops W H hW hH (by omega) (by omega) (by omega) ((f :: r).flatMap frame ++ [59])
      have hfr := rframes_back f W H hW hH (f :: r) 17 [] (by rw [List.length_cons]; omega) (by rw [List.length_cons, List.length_nil]; omega) he
      obtain ⟨t, ht⟩ : ∃ t, (f :: r).flatMap frame ++ [59] = 33 :: 249 :: t := by
        obtain ⟨t, ht⟩ := frame_head f
        rw [List.flatMap_cons, ht]
        exact ⟨_, rfl⟩
      rw [List.append_assoc] at hs
      rw [← hs] at hsh
      obtain ⟨s1, s2, s3, s4, s5⟩ := hsh
      unfold rall
      rw [if_neg (by omega), s2, s3, if_neg (by omega), List.length_cons]
      by_cases hn : 1 < r.length + 1
      · obtain ⟨s6, s7, s8, s9⟩ := s4 hn
        rw [if_pos s7, if_neg (by omega), s8, s9, hfr, if_pos hn]
        rfl
      · rw [s5 hn, if_neg (by rw [ht]; simp), hfr, if_neg hn]
        rfl
theorem gif_loops (fs : List Fr) (n m : Nat) (h : ¬ 1 < fs.length) (hn : n ≤ 65535) (hm : m ≤ 65535) : gif fs n = gif fs m := by
  cases fs with
  | nil => rfl
  | cons f r =>
    have e : bad (f :: r) n = bad (f :: r) m := by
      unfold bad
      simp only
      have e1 : decide ((n : Int) < 0) = decide ((m : Int) < 0) := by rw [decide_eq_false (by omega), decide_eq_false (by omega)]
      have e2 : decide (65535 < (n : Int)) = decide (65535 < (m : Int)) := by rw [decide_eq_false (by omega), decide_eq_false (by omega)]
      rw [e1, e2]
    have e2 : head f (f :: r).length n = head f (f :: r).length m := by
      unfold head
      rw [if_neg h, if_neg h]
    unfold gif
    simp only
    rw [e, e2]
theorem read_back (fs : List Fr) (loops : Nat) (s : List UInt8) (h : gif fs loops = .inl s) : read s = some (fs.map cleanFr, if 1 < fs.length then loops else 0) := by
  unfold read
  rw [rall_back fs loops s h]
  simp only
  rw [if_pos]
  rw [gif_clean, ← h]
  by_cases hn : 1 < fs.length
  · rw [if_pos hn]
  · rw [if_neg hn]
    have hl : loops ≤ 65535 := by
      cases hb : bad fs loops with
      | true => rw [gif_bad fs loops hb] at h; cases h
      | false =>
        cases fs with
        | nil => cases hb
        | cons f r => have := (bad_no2 hb).2.2; omega
    exact gif_loops fs 0 loops hn (by omega) hl
/-! What is read is clean, and written as what it was read of. -/
theorem pixsOf_clean (flags clear : Nat) (t : List UInt8) : ∀ (l : List UInt8) (ps : List Px), pixsOf flags clear t l = some ps → clean ps = ps
  | [], ps, h => by
    cases h
    rfl
  | b :: l, ps, h => by
    rw [pixsOf] at h
    split at h
    · cases h
    · rename_i p hp
      split at h
      · cases h
      · rename_i qs hq
        cases h
        have ih := pixsOf_clean flags clear t l qs hq
        unfold clean at ih ⊢
        rw [List.map_cons, ih]
        congr 1
        unfold pixOf at hp
        split at hp
        · cases hp
        · cases hp
          split <;> rfl
theorem rframe_clean {W H : Nat} {s r : List UInt8} {f : Fr} (h : rframe W H s = some (f, r)) : clean f.ps = f.ps ∧ f.wide = W ∧ f.high = H ∧ f.ps.length = W * H ∧ r.length < s.length := by
  unfold rframe at h
  split at h
  · cases h
  split at h
  · cases h
  split at h
  · cases h
  split at h
  · cases h
  split at h
  · cases h
  split at h
  · cases h
  split at h
  · cases h
  · rename_i ps hps
    rename_i hl
    cases h
    refine ⟨pixsOf_clean _ _ _ _ _ hps, rfl, rfl, ?_, ?_⟩
    · have := pixsOf_length _ _ _ _ _ hps
      simp only
      omega
    · simp only [List.length_drop]
      omega
theorem rframes_clean (W H : Nat) : ∀ (g : Nat) (s : List UInt8) (acc l : List Fr), rframes W H g s acc = some l → (∀ f ∈ acc, clean f.ps = f.ps) → ∀ f ∈ l, clean f.ps = f.ps
  | 0, s, acc, l, h, _ => by cases h
  | g + 1, s, acc, l, h, ha => by
    rw [rframes] at h
    split at h
    · cases h
      exact ha
    · split at h
      · cases h
      · rename_i x r hx
        split at h
        · cases h
        · refine rframes_clean W H g r _ l h fun f hf => ?_
          rcases List.mem_append.1 hf with h1 | h1
          · exact ha f h1
          · rw [List.mem_singleton.1 h1]
            exact (rframe_clean hx).1
theorem read_clean {s : List UInt8} {l : List Fr} {n : Nat} (h : read s = some (l, n)) : gif l n = .inl s ∧ (∀ f ∈ l, clean f.ps = f.ps) ∧ (1 < l.length ∨ n = 0) := by
  unfold read at h
  split at h
  · cases h
  · rename_i l' n' hr
    split at h
    · rename_i hg
      cases h
      refine ⟨hg, ?_, ?_⟩
      · unfold rall at hr
        split at hr
        · cases hr
        split at hr
        · cases hr
        split at hr
        · split at hr
          · cases hr
          split at hr
          · cases hr
          · rename_i q hq
            cases hr
            exact rframes_clean _ _ _ _ _ _ hq fun f hf => by cases hf
        · split at hr
          · cases hr
          · rename_i q hq
            cases hr
            exact rframes_clean _ _ _ _ _ _ hq fun f hf => by cases hf
      · by_cases h1 : 1 < l.length
        · exact .inl h1
        · refine .inr ?_
          cases hb : bad l n with
          | true => rw [gif_bad l n hb] at hg; cases hg
          | false =>
            cases l with
            | nil => cases hb
            | cons f r =>
              rw [gif_ok f r n hb] at hg
              obtain ⟨hs, -⟩ := body_ok f (f :: r) 0 _ s hg
              obtain ⟨t, ht⟩ := frame_head f
              unfold head at hs
              rw [if_neg (by rw [List.length_cons] at h1; exact h1), List.flatMap_cons, ht] at hs
              unfold rall at hr
              split at hr
              · cases hr
              split at hr
              · cases hr
              split at hr
              · rename_i h5
                rw [hs] at h5
                unfold pair at h5
                simp at h5
              · split at hr
                · cases hr
                · cases hr
                  rfl
    · cases h
end Gif
end Go.Proofs.YtncedhhgclofbaaDoor
