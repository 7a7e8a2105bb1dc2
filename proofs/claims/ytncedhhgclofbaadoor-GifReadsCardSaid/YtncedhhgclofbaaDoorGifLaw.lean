/- A moving picture, plainly: what frames are as bytes; their faults. -/
import Derived.Test.YtncedhhgclofbaaDoorFrMem
import Derived.Test.YtncedhhgclofbaaDoorTileLaw
import Derived.Test.YtncedhhgclofbaaDoorText
import Derived.Test.YtncedhhgclofbaaDoorLzwLaw
namespace Go.Proofs.YtncedhhgclofbaaDoor
namespace Gif

def cl (p : Px) : Px := if p.a = 0 then Px.zero else p
/-- Pixels that cover nothing are zero. -/
def clean (ps : List Px) : List Px := ps.map cl
def okA (p : Px) : Bool := p.a = 0 || p.a = 255
/-- May a frame have these? -/
def colOK (ps : List Px) : Bool := ps.all okA && decide ((Col.unl (clean ps)).1.length ≤ 256)
/-- The number of what covers nothing (-1: none). -/
def clrF : List Px → Nat → Int → Int
  | [], _, c => c
  | x :: r, i, c => clrF r (i + 1) (if x.a = 0 then i else c)
def clr (u : List Px) : Int := clrF u 0 (-1)
theorem clrF_append : ∀ (u v : List Px) (i : Nat) (c : Int), clrF (u ++ v) i c = clrF v (i + u.length) (clrF u i c)
  | [], v, i, c => rfl
  | x :: u, v, i, c => by
    show clrF (u ++ v) (i + 1) _ = _
    rw [clrF_append u v (i + 1)]
    simp only [List.length_cons, clrF]
    congr 1
    omega
theorem clr_snoc (u : List Px) (x : Px) : clr (u ++ [x]) = if x.a = 0 then (u.length : Int) else clr u := by
  unfold clr
  rw [clrF_append]
  simp [clrF]
theorem clr_range (u : List Px) : -1 ≤ clr u ∧ clr u < u.length ∨ clr u = -1 := by
  have key : ∀ (n : Nat) (u : List Px), u.length = n → -1 ≤ clr u ∧ clr u < u.length ∨ clr u = -1 := by
    intro n
    induction n with
    | zero => intro u h; right; rw [List.eq_nil_of_length_eq_zero h]; rfl
    | succ n ih =>
      intro u h
      have hne : u ≠ [] := by rintro rfl; simp at h
      obtain ⟨v, x, rfl⟩ : ∃ v x, u = v ++ [x] := ⟨u.dropLast, u.getLast hne, (List.dropLast_concat_getLast hne).symm⟩
      rw [clr_snoc]
      have hl : v.length = n := by simpa using h
      split
      · left; simp; omega
      · rcases ih v hl with h2 | h2
        · left; simp; omega
        · right; exact h2
  exact key _ u rfl
/-- The size of a table of so many colors: 2 << size is enough. -/
def sizeF : Nat → Nat → Nat → Nat
  | 0, z, _ => z
  | f + 1, z, n => if 2 ^ (z + 1) < n then sizeF f (z + 1) n else z
def size (n : Nat) : Nat := sizeF 8 0 n
theorem sizeF_le : ∀ (f z n : Nat), n ≤ 256 → z ≤ 7 → sizeF f z n ≤ 7
  | 0, z, n, _, hz => hz
  | f + 1, z, n, hn, hz => by
    rw [sizeF]
    split
    · rename_i h
      apply sizeF_le f (z + 1) n hn
      have h3 : z + 1 < 8 := by
        rcases Nat.lt_or_ge (z + 1) 8 with h2 | h2
        · exact h2
        · have : (2 : Nat) ^ 8 ≤ 2 ^ (z + 1) := Nat.pow_le_pow_right (by omega) h2
          omega
      omega
    · exact hz
theorem size_le (n : Nat) (h : n ≤ 256) : size n ≤ 7 := sizeF_le 8 0 n h (by omega)
theorem sizeF_fit : ∀ (f z n : Nat), z + f = 8 → n ≤ 256 → n ≤ 2 ^ (sizeF f z n + 1)
  | 0, z, n, hz, hn => by
    rw [sizeF]
    have : (2 : Nat) ^ 9 = 512 := by decide
    have e : z = 8 := by omega
    rw [e, this]
    omega
  | f + 1, z, n, hz, hn => by
    rw [sizeF]
    split
    · exact sizeF_fit f (z + 1) n (by omega) hn
    · rename_i h
      omega
theorem size_fit (n : Nat) (h : n ≤ 256) : n ≤ 2 ^ (size n + 1) := sizeF_fit 8 0 n rfl h
/-- The table of colors: so many. -/
def table (u : List Px) (many : Nat) : List UInt8 := (List.range many).flatMap fun k => [(u.getD k Px.zero).r, (u.getD k Px.zero).g, (u.getD k Px.zero).b]
theorem table_succ (u : List Px) (k : Nat) : table u (k + 1) = table u k ++ [(u.getD k Px.zero).r, (u.getD k Px.zero).g, (u.getD k Px.zero).b] := by
  unfold table
  rw [List.range_succ, List.flatMap_append]
  simp
theorem table_length (u : List Px) : ∀ k, (table u k).length = 3 * k
  | 0 => rfl
  | k + 1 => by rw [table_succ, List.length_append, table_length u k]; simp; omega
/-- Numbers as bytes. -/
def nums (l : List Int) : List UInt8 := l.map fun z => UInt8.ofNat z.toNat
def width (z : Nat) : Nat := max 2 (z + 1)
/-- What stands ahead of a frame's table. -/
def front (f : Fr) (u : List Px) : List UInt8 :=
  [33, 249, 4, UInt8.ofNat (if 0 ≤ clr u then 9 else 8)] ++ pair f.delay.toNat ++ [UInt8.ofNat (clr u).toNat, 0, 44, 0, 0, 0, 0] ++ pair f.wide.toNat ++ pair f.high.toNat ++ [UInt8.ofNat (128 + size u.length)]
/-- A frame as bytes. -/
def frame (f : Fr) : List UInt8 :=
  front f (Col.unl (clean f.ps)).1 ++ table (Col.unl (clean f.ps)).1 (2 ^ (size (Col.unl (clean f.ps)).1.length + 1)) ++ [UInt8.ofNat (width (size (Col.unl (clean f.ps)).1.length))] ++
    Blo.blocks (Bit.pack (Lz.lzw (width (size (Col.unl (clean f.ps)).1.length)) (nums (Col.unl (clean f.ps)).2)))
def right (f : Fr) : Bool := rightB f.wide f.high f.ps.length
/-- A frame's fault. -/
def err (first f : Fr) : Option Nat :=
  if right f = false ∨ f.wide ≠ first.wide ∨ f.high ≠ first.high then some 2 else if f.delay < 0 ∨ 65535 < f.delay then some 1 else if colOK f.ps = false then some 6 else none
/-- Bounds of frames. -/
def bad (fs : List Fr) (loops : Int) : Bool :=
  match fs with
  | [] => true
  | f :: _ => decide (16 < fs.length) || decide (loops < 0) || decide (65535 < loops) || (right f && decide (60000 < f.wide * f.high * fs.length))
def head (f : Fr) (n : Nat) (loops : Int) : List UInt8 :=
  [71, 73, 70, 56, 57, 97] ++ pair f.wide.toNat ++ pair f.high.toNat ++ [112, 0, 0] ++ (if 1 < n then [33, 255, 11, 78, 69, 84, 83, 67, 65, 80, 69, 50, 46, 48, 3, 1] ++ pair loops.toNat ++ [0] else [])
/-- Frames as bytes, one by one: the bytes, or an error's number and place. -/
def body (first : Fr) : List Fr → Nat → List UInt8 → List UInt8 ⊕ (Nat × Int)
  | [], _, acc => .inl (acc ++ [59])
  | f :: r, i, acc => match err first f with
    | some c => .inr (c, i)
    | none => body first r (i + 1) (acc ++ frame f)
def gif (fs : List Fr) (loops : Int) : List UInt8 ⊕ (Nat × Int) :=
  match fs with
  | [] => .inr (1, -1)
  | f :: _ => if bad fs loops then .inr (1, -1) else body f fs 0 (head f fs.length loops)
end Gif
end Go.Proofs.YtncedhhgclofbaaDoor
