/- Pixels over pixels: plain. Layers, one upon the other: plain. A document of layers: names, what is right, the first fault: plain. Pictures place by place; a picture stamped upon another one; layers stamped one by one: plain. -/
import Derived.Test.YthohmpjoeffckaaDoorMem
namespace Go.Proofs.YthohmpjoeffckaaDoor
namespace Pix

/-- A rounded part, halves up. -/
def rnd (n d : Int) : Int := (2 * n + d) / (2 * d)
theorem rnd_ref (n d : Int) (hd : 0 < d) : (if d ≤ 2 * (n - n / d * d) then n / d + 1 else n / d) = rnd n d := by
  unfold rnd
  have h1 : n / d * d + n % d = n := by rw [Int.mul_comm]; exact Int.mul_ediv_add_emod n d
  have h2 := Int.emod_nonneg n (show d ≠ 0 by omega)
  have h3 := Int.emod_lt_of_pos n hd
  generalize n / d = q at *
  generalize n % d = r at *
  have e : 2 * n + d = (2 * r + d) + 2 * d * q := by rw [← h1]; grind
  rw [e, Int.add_mul_ediv_left _ _ (by omega)]
  have e2 : n - q * d = r := by omega
  rw [e2]
  split
  · rename_i h
    have e3 : 2 * r + d = (2 * r - d) + 2 * d * 1 := by omega
    rw [e3, Int.add_mul_ediv_left _ _ (by omega), Int.ediv_eq_zero_of_lt (by omega) (by omega)]
    omega
  · rw [Int.ediv_eq_zero_of_lt (by omega) (by omega)]
    omega
theorem rnd_mul (d k : Int) (hd : 0 < d) : rnd (d * k) d = k := by
  unfold rnd
  have e : 2 * (d * k) + d = d + 2 * d * k := by grind
  rw [e, Int.add_mul_ediv_left _ _ (by omega), Int.ediv_eq_zero_of_lt (by omega) (by omega)]
  omega
theorem rnd_nonneg (n d : Int) (hn : 0 ≤ n) (hd : 0 < d) : 0 ≤ rnd n d := Int.ediv_nonneg (by omega) (by omega)
theorem rnd_le (n d k : Int) (hd : 0 < d) (h : n ≤ d * k) : rnd n d ≤ k := by
  rw [← rnd_mul d k hd]
  exact Int.ediv_le_ediv (by omega) (by omega)
theorem rnd_mono (n m d : Int) (hd : 0 < d) (h : n ≤ m) : rnd n d ≤ rnd m d := Int.ediv_le_ediv (by omega) (by omega)
theorem rnd_255 (n : Int) (h : 128 ≤ n) : 1 ≤ rnd n 255 := by unfold rnd; omega

/-- 255 times what two colors make. -/
def blend (m s d : Int) : Int :=
  if m = 1 then s * d else if m = 2 then 255 * (s + d) - s * d else if m = 3 then 255 * min s d else if m = 4 then 255 * max s d else if m = 5 then 255 * max (s - d) (d - s) else 255 * s
theorem mul_byte {x y : Int} (h1 : 0 ≤ x) (h2 : x ≤ 255) (h3 : 0 ≤ y) (h4 : y ≤ 255) : 0 ≤ x * y ∧ x * y ≤ 255 * x ∧ x * y ≤ 255 * y := by
  have a := Int.mul_nonneg h1 h3
  have b : 0 ≤ x * (255 - y) := Int.mul_nonneg h1 (by omega)
  have c : 0 ≤ (255 - x) * y := Int.mul_nonneg (by omega) h3
  rw [Int.mul_sub] at b
  rw [Int.sub_mul] at c
  omega
theorem blend_bound (m : Int) {s d : Int} (h1 : 0 ≤ s) (h2 : s ≤ 255) (h3 : 0 ≤ d) (h4 : d ≤ 255) : 0 ≤ blend m s d ∧ blend m s d ≤ 65025 := by
  obtain ⟨a, b, c⟩ := mul_byte h1 h2 h3 h4
  have e : 0 ≤ (255 - s) * (255 - d) := Int.mul_nonneg (by omega) (by omega)
  have e2 : (255 - s) * (255 - d) = 65025 - 255 * s - 255 * d + s * d := by grind
  unfold blend
  repeat' split
  all_goals omega

/-- How much two pixels cover, 255 times. -/
def covers (a b : Int) : Int := 255 * a + b * (255 - a)
theorem covers_eq (a b : Int) : covers a b = 255 * a + 255 * b - a * b := by unfold covers; grind
theorem covers_bound {a b : Int} (h1 : 0 ≤ a) (h2 : a ≤ 255) (h3 : 0 ≤ b) (h4 : b ≤ 255) : 255 * a ≤ covers a b ∧ 255 * b ≤ covers a b ∧ covers a b ≤ 65025 := by
  obtain ⟨x, y, z⟩ := mul_byte h1 h2 h3 h4
  have e : 0 ≤ (255 - a) * (255 - b) := Int.mul_nonneg (by omega) (by omega)
  have e2 : (255 - a) * (255 - b) = 65025 - 255 * a - 255 * b + a * b := by grind
  rw [covers_eq]
  omega
/-- The top of a color's part. -/
def num (m a b s d : Int) : Int := 255 * (a * (255 - b) * s + b * (255 - a) * d) + a * b * blend m s d
theorem num_bound (m : Int) {a b s d : Int} (a1 : 0 ≤ a) (a2 : a ≤ 255) (b1 : 0 ≤ b) (b2 : b ≤ 255) (s1 : 0 ≤ s) (s2 : s ≤ 255) (d1 : 0 ≤ d) (d2 : d ≤ 255) :
    0 ≤ num m a b s d ∧ num m a b s d ≤ 255 * covers a b * 255 := by
  obtain ⟨l1, l2⟩ := blend_bound m s1 s2 d1 d2
  have x1 : 0 ≤ a * (255 - b) := Int.mul_nonneg a1 (by omega)
  have x2 : 0 ≤ b * (255 - a) := Int.mul_nonneg b1 (by omega)
  have x3 : 0 ≤ a * b := Int.mul_nonneg a1 b1
  have y1 := Int.mul_nonneg x1 s1
  have y2 := Int.mul_nonneg x2 d1
  have y3 := Int.mul_nonneg x3 l1
  have z1 : a * (255 - b) * s ≤ a * (255 - b) * 255 := Int.mul_le_mul_of_nonneg_left s2 x1
  have z2 : b * (255 - a) * d ≤ b * (255 - a) * 255 := Int.mul_le_mul_of_nonneg_left d2 x2
  have z3 : a * b * blend m s d ≤ a * b * 65025 := Int.mul_le_mul_of_nonneg_left l2 x3
  have e : 255 * covers a b * 255 = 255 * (a * (255 - b) * 255 + b * (255 - a) * 255) + a * b * 65025 := by unfold covers; grind
  rw [e]
  unfold num
  omega
/-- A color of one pixel over another one. -/
def col (m a b s d : Int) : Int := rnd (num m a b s d) (255 * covers a b)
theorem col_bound (m : Int) {a b s d : Int} (a1 : 0 ≤ a) (a2 : a ≤ 255) (b1 : 0 ≤ b) (b2 : b ≤ 255) (s1 : 0 ≤ s) (s2 : s ≤ 255) (d1 : 0 ≤ d) (d2 : d ≤ 255) (hc : 0 < covers a b) :
    0 ≤ col m a b s d ∧ col m a b s d ≤ 255 := by
  obtain ⟨h1, h2⟩ := num_bound m a1 a2 b1 b2 s1 s2 d1 d2
  exact ⟨rnd_nonneg _ _ h1 (by omega), rnd_le _ _ _ (by omega) h2⟩
def u8 (n : Int) : UInt8 := UInt8.ofNat n.toNat
theorem u8_toNat {n : Int} (h0 : 0 ≤ n) (h1 : n ≤ 255) : ((u8 n).toNat : Int) = n := by
  unfold u8
  rw [UInt8.toNat_ofNat']
  omega
theorem u8_of (x : UInt8) : u8 (x.toNat : Int) = x := by
  apply UInt8.toNat_inj.1
  have := u8_toNat (n := (x.toNat : Int)) (by omega) (by have := x.toNat_lt; omega)
  omega
def nil : Px := ⟨0, 0, 0, 0⟩
def over (m : Int) (t u : Px) : Px :=
  if covers t.a.toNat u.a.toNat = 0 then nil else
  ⟨u8 (col m t.a.toNat u.a.toNat t.r.toNat u.r.toNat), u8 (col m t.a.toNat u.a.toNat t.g.toNat u.g.toNat), u8 (col m t.a.toNat u.a.toNat t.b.toNat u.b.toNat), u8 (rnd (covers t.a.toNat u.a.toNat) 255)⟩
def fade (p : Px) (o : Int) : Px := if rnd (p.a.toNat * o) 255 = 0 then nil else ⟨p.r, p.g, p.b, u8 (rnd (p.a.toNat * o) 255)⟩

/-- What covers nothing is zero. -/
def Clear (p : Px) : Prop := p.a = 0 → p = nil
theorem clear_nil : Clear nil := fun _ => rfl
theorem a_nonneg (x : UInt8) : (0 : Int) ≤ x.toNat ∧ (x.toNat : Int) ≤ 255 := by have := x.toNat_lt; omega
theorem a_zero {x : UInt8} (h : (x.toNat : Int) = 0) : x = 0 := by
  apply UInt8.toNat_inj.1
  simp; omega
theorem over_clear (m : Int) (t u : Px) : Clear (over m t u) := by
  unfold over
  split
  · exact clear_nil
  · rename_i h
    intro h0
    exfalso
    obtain ⟨a1, a2⟩ := a_nonneg t.a
    obtain ⟨b1, b2⟩ := a_nonneg u.a
    obtain ⟨c1, c2, c3⟩ := covers_bound a1 a2 b1 b2
    have h255 : 255 ≤ covers t.a.toNat u.a.toNat := by
      rcases Int.lt_or_le 0 (t.a.toNat : Int) with g | g
      · omega
      · have e : (t.a.toNat : Int) = 0 := by omega
        rw [e] at h c2 ⊢
        rcases Int.lt_or_le 0 (u.a.toNat : Int) with g2 | g2
        · omega
        · have e2 : (u.a.toNat : Int) = 0 := by omega
          rw [e2] at h
          exact absurd rfl h
    have hr := rnd_255 _ (show 128 ≤ covers t.a.toNat u.a.toNat by omega)
    have hr2 := rnd_le (covers t.a.toNat u.a.toNat) 255 255 (by omega) (by omega)
    have := u8_toNat (show 0 ≤ rnd (covers t.a.toNat u.a.toNat) 255 by omega) hr2
    simp only at h0
    rw [h0] at this
    simp at this
    omega
theorem fade_clear (p : Px) (o : Int) (h0 : 0 ≤ o) (h1 : o ≤ 255) : Clear (fade p o) := by
  unfold fade
  split
  · exact clear_nil
  · rename_i h
    intro e
    exfalso
    obtain ⟨a1, a2⟩ := a_nonneg p.a
    obtain ⟨m1, m2, m3⟩ := mul_byte a1 a2 h0 h1
    have r1 := rnd_nonneg (p.a.toNat * o) 255 m1 (by omega)
    have r2 := rnd_le (p.a.toNat * o) 255 255 (by omega) (by omega)
    have := u8_toNat r1 r2
    simp only at e
    rw [e] at this
    simp at this
    omega
/-- What covers nothing changes nothing. -/
theorem over_nil (m : Int) (u : Px) (hu : Clear u) : over m nil u = u := by
  unfold over
  have e0 : ((nil.a).toNat : Int) = 0 := rfl
  rw [e0]
  obtain ⟨b1, b2⟩ := a_nonneg u.a
  have ec : covers 0 (u.a.toNat : Int) = 255 * u.a.toNat := by unfold covers; omega
  split
  · rename_i h
    rw [ec] at h
    exact (hu (a_zero (by omega))).symm
  · rename_i h
    rw [ec] at h
    have key : ∀ s d : Int, col m 0 u.a.toNat s d = d := by
      intro s d
      unfold col num
      rw [ec]
      have e1 : 255 * (0 * (255 - (u.a.toNat : Int)) * s + (u.a.toNat : Int) * (255 - 0) * d) + 0 * (u.a.toNat : Int) * blend m s d = 255 * (255 * (u.a.toNat : Int)) * d := by grind
      rw [e1, rnd_mul _ _ (by omega)]
    rw [key, key, key, u8_of, u8_of, u8_of, ec, rnd_mul _ _ (by omega), u8_of]
/-- Over nothing, plainly. -/
theorem over_on_nil (t : Px) (ht : Clear t) : over 0 t nil = t := by
  unfold over
  have e0 : ((nil.a).toNat : Int) = 0 := rfl
  rw [e0]
  obtain ⟨a1, a2⟩ := a_nonneg t.a
  have ec : covers (t.a.toNat : Int) 0 = 255 * t.a.toNat := by unfold covers; omega
  split
  · rename_i h
    rw [ec] at h
    exact (ht (a_zero (by omega))).symm
  · rename_i h
    rw [ec] at h
    have key : ∀ s d : Int, col 0 t.a.toNat 0 s d = s := by
      intro s d
      unfold col num
      rw [ec]
      have e1 : 255 * ((t.a.toNat : Int) * (255 - 0) * s + 0 * (255 - (t.a.toNat : Int)) * d) + (t.a.toNat : Int) * 0 * blend 0 s d = 255 * (255 * (t.a.toNat : Int)) * s := by grind
      rw [e1, rnd_mul _ _ (by omega)]
    rw [key, key, key, u8_of, u8_of, u8_of, ec, rnd_mul _ _ (by omega), u8_of]
theorem fade_zero (p : Px) : fade p 0 = nil := by
  unfold fade
  rw [Int.mul_zero, if_pos (by decide)]
theorem fade_full (p : Px) (hp : Clear p) : fade p 255 = p := by
  unfold fade
  rw [Int.mul_comm, rnd_mul _ _ (by omega)]
  split
  · rename_i h
    exact (hp (a_zero h)).symm
  · rw [u8_of]
end Pix
end Go.Proofs.YthohmpjoeffckaaDoor
namespace Go.Proofs.YthohmpjoeffckaaDoor
namespace Lay

structure Layer where
  name : ByteArray
  x : Int
  y : Int
  hidden : Bool
  opacity : Int
  mode : Int
  wide : Int
  high : Int
  ps : List Px
instance : Inhabited Layer := ⟨⟨default, 0, 0, false, 0, 0, 0, 0, []⟩⟩

/-- Does a layer show at a place? -/
def seen (l : Layer) (x y : Int) : Bool := !l.hidden && decide (0 ≤ x - l.x) && decide (x - l.x < l.wide) && decide (0 ≤ y - l.y) && decide (y - l.y < l.high)
/-- Its pixel there. -/
def spot (l : Layer) (x y : Int) : Px := l.ps.getD ((y - l.y) * l.wide + (x - l.x)).toNat default
/-- One layer more. -/
def put (x y : Int) (p : Px) (l : Layer) : Px := if seen l x y = true then Pix.over l.mode (Pix.fade (spot l x y) l.opacity) p else p
def dot (ls : List Layer) (x y : Int) : Px := ls.foldl (put x y) Pix.nil
def flat (ls : List Layer) (wide high : Nat) : List Px := (List.range high).flatMap fun y : Nat => (List.range wide).map fun x : Nat => dot ls (x : Int) (y : Int)

theorem put_clear (x y : Int) (p : Px) (l : Layer) (hp : Pix.Clear p) : Pix.Clear (put x y p l) := by
  unfold put
  split
  · exact Pix.over_clear _ _ _
  · exact hp
theorem foldl_clear (x y : Int) : ∀ (ls : List Layer) (p : Px), Pix.Clear p → Pix.Clear (ls.foldl (put x y) p)
  | [], _, h => h
  | l :: ls, p, h => foldl_clear x y ls _ (put_clear x y p l h)
theorem dot_clear (ls : List Layer) (x y : Int) : Pix.Clear (dot ls x y) := foldl_clear x y ls _ Pix.clear_nil
theorem dot_append (a b : List Layer) (x y : Int) : dot (a ++ b) x y = b.foldl (put x y) (dot a x y) := by simp [dot, List.foldl_append]
theorem dot_snoc (a : List Layer) (l : Layer) (x y : Int) : dot (a ++ [l]) x y = put x y (dot a x y) l := by simp [dot, List.foldl_append]
theorem dot_take (ls : List Layer) (k : Nat) (hk : k < ls.length) (x y : Int) : dot (ls.take (k + 1)) x y = put x y (dot (ls.take k) x y) ls[k] := by
  rw [List.take_succ_eq_append_getElem hk, dot_snoc]
/-- A layer that changes nothing may go. -/
theorem dot_without (a b : List Layer) (l : Layer) (x y : Int) (h : ∀ p, Pix.Clear p → put x y p l = p) : dot (a ++ l :: b) x y = dot (a ++ b) x y := by
  rw [dot_append, dot_append, List.foldl_cons, h _ (dot_clear a x y)]
theorem put_hidden (x y : Int) (p : Px) (l : Layer) (h : l.hidden = true) : put x y p l = p := by simp [put, seen, h]
theorem put_zero (x y : Int) (p : Px) (l : Layer) (h : l.opacity = 0) (hp : Pix.Clear p) : put x y p l = p := by
  unfold put
  split
  · rw [h, Pix.fade_zero, Pix.over_nil _ _ hp]
  · rfl
theorem flat_length (ls : List Layer) (wide high : Nat) : (flat ls wide high).length = high * wide := by
  unfold flat
  induction high with
  | zero => simp
  | succ n ih => rw [List.range_succ, List.flatMap_append, List.length_append, ih]; simp [Nat.succ_mul]
theorem flat_congr (a b : List Layer) (wide high : Nat) (h : ∀ x y : Nat, x < wide → y < high → dot a x y = dot b x y) : flat a wide high = flat b wide high := by
  unfold flat
  rw [List.flatMap_eq_foldl, List.flatMap_eq_foldl]
  have : ∀ (l : List Nat) (acc : List Px), (∀ y ∈ l, y < high) → List.foldl (fun acc (y : Nat) => acc ++ (List.range wide).map fun x : Nat => dot a (x : Int) (y : Int)) acc l = List.foldl (fun acc (y : Nat) => acc ++ (List.range wide).map fun x : Nat => dot b (x : Int) (y : Int)) acc l := by
    intro l
    induction l with
    | nil => intro acc _; rfl
    | cons y l ih =>
      intro acc hl
      rw [List.foldl_cons, List.foldl_cons]
      have e : ((List.range wide).map fun x : Nat => dot a (x : Int) (y : Int)) = (List.range wide).map fun x : Nat => dot b (x : Int) (y : Int) :=
        List.map_congr_left fun x hx => h x y (List.mem_range.1 hx) (hl y (by simp))
      rw [e]
      exact ih _ fun y' hy => hl y' (by simp [hy])
  exact this _ _ fun y hy => List.mem_range.1 hy
theorem flat_hidden (a b : List Layer) (l : Layer) (h : l.hidden = true) (wide high : Nat) : flat (a ++ l :: b) wide high = flat (a ++ b) wide high :=
  flat_congr _ _ _ _ fun x y _ _ => dot_without a b l x y fun p _ => put_hidden _ _ p l h
theorem flat_zero (a b : List Layer) (l : Layer) (h : l.opacity = 0) (wide high : Nat) : flat (a ++ l :: b) wide high = flat (a ++ b) wide high :=
  flat_congr _ _ _ _ fun x y _ _ => dot_without a b l x y fun p hp => put_zero _ _ p l h hp
/-- A place of the whole. -/
theorem flat_at (ls : List Layer) (wide : Nat) : ∀ (high x y : Nat), x < wide → y < high → (flat ls wide high)[y * wide + x]? = some (dot ls x y) := by
  intro high
  induction high with
  | zero => intro x y _ hy; omega
  | succ n ih =>
    intro x y hx hy
    have e : flat ls wide (n + 1) = flat ls wide n ++ (List.range wide).map fun x : Nat => dot ls (x : Int) (n : Int) := by
      unfold flat
      rw [List.range_succ, List.flatMap_append]
      simp
    rw [e]
    rcases Nat.lt_or_ge y n with h | h
    · have hm : (y + 1) * wide ≤ n * wide := Nat.mul_le_mul_right _ h
      rw [Nat.succ_mul] at hm
      rw [List.getElem?_append_left (by rw [flat_length]; omega), ih x y hx h]
    · have hy' : y = n := by omega
      subst hy'
      rw [List.getElem?_append_right (by rw [flat_length]; omega), flat_length]
      have e2 : y * wide + x - y * wide = x := by omega
      rw [e2]
      simp [hx]
end Lay
end Go.Proofs.YthohmpjoeffckaaDoor
namespace Go.Proofs.YthohmpjoeffckaaDoor
namespace Lay
def sideP (n : Int) : Bool := decide (1 ≤ n) && decide (n ≤ 256)
def nearP (n : Int) : Bool := decide (-10000 ≤ n) && decide (n ≤ 10000)
def modeP (m : Int) : Bool := decide (0 ≤ m) && decide (m < 6)
def opacP (n : Int) : Bool := decide (0 ≤ n) && decide (n ≤ 255)
def lowB (c : UInt8) : Bool := decide (97 ≤ (c.toNat : Int)) && decide ((c.toNat : Int) ≤ 122)
def isName (s : ByteArray) : Bool := decide (1 ≤ s.size) && decide (s.size ≤ 12) && s.data.toList.all lowB
/-- The number of the first layer of that name, or -1. -/
def find : List Layer → ByteArray → Int
  | [], _ => -1
  | l :: r, s => if l.name = s then 0 else if find r s < 0 then -1 else find r s + 1
def rightL (l : Layer) : Bool := sideP l.wide && sideP l.high && decide ((l.ps.length : Int) = l.wide * l.high)
/-- What is wrong with a layer that stands at a place: 0 nothing. -/
def faultAt (ls : List Layer) (i : Nat) (l : Layer) : Nat :=
  if !isName l.name || decide (find ls l.name < i) then 5
  else if !nearP l.x || !nearP l.y || !opacP l.opacity || !modeP l.mode then 2
  else if !rightL l then 3 else 0
def checkFrom (ls : List Layer) : List Layer → Nat → Nat × Int
  | [], _ => (0, -1)
  | l :: r, i => if faultAt ls i l = 0 then checkFrom ls r (i + 1) else (faultAt ls i l, i)
/-- The first fault of a document: its number, its place. -/
def check (W H : Int) (ls : List Layer) : Nat × Int := if !sideP W || !sideP H || decide (8 < ls.length) then (2, -1) else checkFrom ls ls 0

theorem find_lt : ∀ (ls : List Layer) (s : ByteArray), -1 ≤ find ls s ∧ find ls s < ls.length
  | [], s => by simp [find]
  | l :: r, s => by
    have := find_lt r s
    simp only [find, List.length_cons]
    split
    · omega
    · split <;> omega
/-- No layer below k has the name, the k-th has it. -/
theorem find_of : ∀ (ls : List Layer) (s : ByteArray) (k : Nat) (hk : k < ls.length), (∀ j, (hj : j < k) → ls[j].name ≠ s) → ls[k].name = s → find ls s = k
  | [], s, k, hk, _, _ => by simp at hk
  | l :: r, s, 0, hk, _, h => by simp [find, show l.name = s from h]
  | l :: r, s, k + 1, hk, hn, h => by
    have h0 : l.name ≠ s := hn 0 (by omega)
    have ih := find_of r s k (Nat.lt_of_succ_lt_succ hk) (fun j hj => hn (j + 1) (by omega)) h
    rw [find, if_neg h0, ih]
    rw [if_neg (by omega)]
    omega
theorem find_none : ∀ (ls : List Layer) (s : ByteArray), (∀ j, (hj : j < ls.length) → ls[j].name ≠ s) → find ls s = -1
  | [], s, _ => rfl
  | l :: r, s, h => by
    have h0 : l.name ≠ s := h 0 (by simp)
    have ih := find_none r s fun j hj => h (j + 1) (Nat.succ_lt_succ hj)
    rw [find, if_neg h0, ih]
    rfl
theorem find_at : ∀ (ls : List Layer) (s : ByteArray) (k : Nat), find ls s = k → ∃ hk : k < ls.length, ls[k].name = s ∧ ∀ j, (hj : j < k) → ls[j].name ≠ s
  | [], s, k, h => by simp [find] at h
  | l :: r, s, k, h => by
    rw [find] at h
    split at h
    · rename_i e
      have : k = 0 := by omega
      subst this
      exact ⟨by simp, e, fun j hj => by omega⟩
    · rename_i e
      split at h
      · omega
      · obtain ⟨k', rfl⟩ : ∃ k', k = k' + 1 := ⟨k - 1, by omega⟩
        obtain ⟨hk, h1, h2⟩ := find_at r s k' (by omega)
        refine ⟨Nat.succ_lt_succ hk, h1, fun j hj => ?_⟩
        cases j with
        | zero => exact e
        | succ j => exact h2 j (by omega)
/-- A name that stands at a place is found there or before it. -/
theorem find_le (ls : List Layer) (k : Nat) (hk : k < ls.length) : 0 ≤ find ls ls[k].name ∧ find ls ls[k].name ≤ k := by
  induction ls generalizing k with
  | nil => simp at hk
  | cons l r ih =>
    rw [find]
    split
    · omega
    · rename_i e
      cases k with
      | zero => exact absurd rfl e
      | succ k =>
        obtain ⟨h1, h2⟩ := ih k (by simpa using hk)
        have hk' : k < r.length := Nat.lt_of_succ_lt_succ hk
        have e2 : (l :: r)[k + 1].name = r[k].name := rfl
        rw [e2]
        rw [if_neg (by omega)]
        omega

theorem checkFrom_good (ls : List Layer) : ∀ (r : List Layer) (i : Nat), (∀ j, (hj : j < r.length) → faultAt ls (i + j) r[j] = 0) → checkFrom ls r i = (0, -1)
  | [], i, _ => rfl
  | l :: r, i, h => by
    have h0 : faultAt ls i l = 0 := h 0 (Nat.succ_pos _)
    rw [checkFrom, if_pos h0]
    refine checkFrom_good ls r (i + 1) fun j hj => ?_
    have := h (j + 1) (Nat.succ_lt_succ hj)
    rw [show i + 1 + j = i + (j + 1) by omega]
    exact this
theorem checkFrom_bad (ls : List Layer) : ∀ (r : List Layer) (i k : Nat) (hk : k < r.length), (∀ j, (hj : j < k) → faultAt ls (i + j) r[j] = 0) → faultAt ls (i + k) r[k] ≠ 0 → checkFrom ls r i = (faultAt ls (i + k) r[k], ((i + k : Nat) : Int))
  | [], i, k, hk, _, _ => by simp at hk
  | l :: r, i, 0, hk, _, h => by
    rw [checkFrom, if_neg (show ¬ faultAt ls i l = 0 from h)]
    rfl
  | l :: r, i, k + 1, hk, hj, h => by
    have h0 : faultAt ls i l = 0 := hj 0 (by omega)
    have e : i + (k + 1) = i + 1 + k := by omega
    rw [checkFrom, if_pos h0, checkFrom_bad ls r (i + 1) k (Nat.lt_of_succ_lt_succ hk) (fun j hj' => by
      have := hj (j + 1) (by omega)
      rw [show i + 1 + j = i + (j + 1) by omega]
      exact this) (by rw [← e]; exact h), e]
    rfl
theorem check_good {W H : Int} {ls : List Layer} (hW : sideP W = true) (hH : sideP H = true) (hn : ls.length ≤ 8) (h : ∀ j, (hj : j < ls.length) → faultAt ls j ls[j] = 0) : check W H ls = (0, -1) := by
  rw [check, hW, hH, if_neg (by simpa using hn)]
  exact checkFrom_good ls ls 0 fun j hj => by simpa using h j hj
theorem check_bad {W H : Int} {ls : List Layer} (hW : sideP W = true) (hH : sideP H = true) (hn : ls.length ≤ 8) (k : Nat) (hk : k < ls.length) (h : ∀ j, (hj : j < k) → faultAt ls j ls[j] = 0) (hb : faultAt ls k ls[k] ≠ 0) :
    check W H ls = (faultAt ls k ls[k], (k : Int)) := by
  rw [check, hW, hH, if_neg (by simpa using hn)]
  have := checkFrom_bad ls ls 0 k hk (fun j hj => by simpa using h j hj) (by simpa using hb)
  simpa using this
theorem check_bound {W H : Int} {ls : List Layer} (h : sideP W = false ∨ sideP H = false ∨ 8 < ls.length) : check W H ls = (2, -1) := by
  rw [check, if_pos]
  rcases h with h | h | h <;> simp [h]

/-- A document without a fault. -/
structure Good (W H : Int) (ls : List Layer) : Prop where
  wd : sideP W = true
  hg : sideP H = true
  n : ls.length ≤ 8
  at_ : ∀ j, (hj : j < ls.length) → faultAt ls j ls[j] = 0
theorem checkFrom_zero (ls : List Layer) : ∀ (r : List Layer) (i : Nat), (checkFrom ls r i).1 = 0 → ∀ j, (hj : j < r.length) → faultAt ls (i + j) r[j] = 0
  | [], _, _, j, hj => by simp at hj
  | l :: r, i, h, j, hj => by
    rw [checkFrom] at h
    split at h
    · rename_i h0
      cases j with
      | zero => exact h0
      | succ j =>
        have := checkFrom_zero ls r (i + 1) h j (Nat.lt_of_succ_lt_succ hj)
        rw [show i + (j + 1) = i + 1 + j by omega]
        exact this
    · rename_i h0
      exact absurd h h0
theorem good_of {W H : Int} {ls : List Layer} (h : (check W H ls).1 = 0) : Good W H ls := by
  rw [check] at h
  split at h
  · simp at h
  · rename_i h0
    simp at h0
    obtain ⟨⟨h1, h2⟩, h3⟩ := h0
    exact ⟨h1, h2, by omega, fun j hj => by simpa using checkFrom_zero ls ls 0 h j hj⟩
theorem Good.check {W H : Int} {ls : List Layer} (h : Good W H ls) : Lay.check W H ls = (0, -1) := check_good h.wd h.hg h.n h.at_

theorem fault_zero {ls : List Layer} {i : Nat} {l : Layer} (h : faultAt ls i l = 0) :
    isName l.name = true ∧ (i : Int) ≤ find ls l.name ∧ nearP l.x = true ∧ nearP l.y = true ∧ opacP l.opacity = true ∧ modeP l.mode = true ∧ rightL l = true := by
  unfold faultAt at h
  split at h
  · simp at h
  · rename_i h1
    split at h
    · simp at h
    · rename_i h2
      split at h
      · simp at h
      · rename_i h3
        simp at h1 h2 h3
        exact ⟨h1.1, by omega, h2.1.1.1, h2.1.1.2, h2.1.2, h2.2, h3⟩
theorem fault_mk {ls : List Layer} {i : Nat} {l : Layer} (h1 : isName l.name = true) (h2 : (i : Int) ≤ find ls l.name) (h3 : nearP l.x = true) (h4 : nearP l.y = true) (h5 : opacP l.opacity = true) (h6 : modeP l.mode = true) (h7 : rightL l = true) : faultAt ls i l = 0 := by
  unfold faultAt
  rw [if_neg (by simp [h1]; omega), if_neg (by simp [h3, h4, h5, h6]), if_neg (by simp [h7])]
/-- In a good document every name is found where it stands. -/
theorem Good.find {W H : Int} {ls : List Layer} (h : Good W H ls) (k : Nat) (hk : k < ls.length) : find ls ls[k].name = k := by
  have h1 := (fault_zero (h.at_ k hk)).2.1
  have h2 := find_le ls k hk
  omega
/-- No two names are the same: told by names alone. -/
theorem Good.ne {W H : Int} {ls : List Layer} (h : Good W H ls) (i j : Nat) (hi : i < ls.length) (hj : j < i) : ls[j].name ≠ ls[i].name := by
  intro e
  have h1 := h.find i hi
  have h2 := h.find j (by omega)
  rw [e, h1] at h2
  omega
theorem good_mk {W H : Int} {ls : List Layer} (hW : sideP W = true) (hH : sideP H = true) (hn : ls.length ≤ 8) (hne : ∀ i j, (hi : i < ls.length) → (hj : j < i) → ls[j].name ≠ ls[i].name)
    (h : ∀ l ∈ ls, isName l.name = true ∧ nearP l.x = true ∧ nearP l.y = true ∧ opacP l.opacity = true ∧ modeP l.mode = true ∧ rightL l = true) : Good W H ls := by
  refine ⟨hW, hH, hn, fun k hk => ?_⟩
  obtain ⟨h1, h3, h4, h5, h6, h7⟩ := h _ (List.getElem_mem hk)
  refine fault_mk h1 ?_ h3 h4 h5 h6 h7
  rw [find_of ls _ k hk (fun j hj => hne k j hk hj) rfl]
  omega
theorem Good.all {W H : Int} {ls : List Layer} (h : Good W H ls) : ∀ l ∈ ls, isName l.name = true ∧ nearP l.x = true ∧ nearP l.y = true ∧ opacP l.opacity = true ∧ modeP l.mode = true ∧ rightL l = true := by
  intro l hl
  obtain ⟨k, hk, rfl⟩ := List.getElem_of_mem hl
  obtain ⟨h1, _, h3⟩ := fault_zero (h.at_ k hk)
  exact ⟨h1, h3⟩
/-- Layers that differ in nothing that is asked: a good document stays good. -/
theorem Good.congr {W H : Int} {ls ms : List Layer} (h : Good W H ls) (hl : ms.length = ls.length) (e : ∀ k, (hk : k < ls.length) → (ms[k]'(by omega)).name = ls[k].name ∧
    (isName (ms[k]'(by omega)).name = true ∧ nearP (ms[k]'(by omega)).x = true ∧ nearP (ms[k]'(by omega)).y = true ∧ opacP (ms[k]'(by omega)).opacity = true ∧ modeP (ms[k]'(by omega)).mode = true ∧ rightL (ms[k]'(by omega)) = true)) : Good W H ms := by
  refine good_mk h.wd h.hg (by rw [hl]; exact h.n) (fun i j hi hj => ?_) (fun l hm => ?_)
  · rw [(e i (by omega)).1, (e j (by omega)).1]
    exact h.ne i j (by omega) hj
  · obtain ⟨k, hk, rfl⟩ := List.getElem_of_mem hm
    exact (e k (by omega)).2
theorem Good.erase {W H : Int} {ls : List Layer} (h : Good W H ls) (k : Nat) : Good W H (ls.eraseIdx k) := by
  have hlen : (ls.eraseIdx k).length ≤ ls.length := by rw [List.length_eraseIdx]; split <;> omega
  refine good_mk h.wd h.hg (by have := h.n; omega) (fun i j hi hj => ?_) (fun l hm => h.all l (List.mem_of_mem_eraseIdx hm))
  rw [List.getElem_eraseIdx, List.getElem_eraseIdx]
  have hi' : i < ls.length := by omega
  have hi2 : ¬ i < k → i + 1 < ls.length := by
    intro hik
    rw [List.length_eraseIdx] at hi
    split at hi <;> omega
  split
  · split
    · exact h.ne i j hi' hj
    · exact h.ne (i + 1) j (hi2 (by assumption)) (by omega)
  · split
    · rename_i h1 h2
      omega
    · exact h.ne (i + 1) (j + 1) (hi2 (by assumption)) (by omega)
end Lay
end Go.Proofs.YthohmpjoeffckaaDoor
namespace Go.Proofs.YthohmpjoeffckaaDoor
namespace Lay
/-- Pixels, row by row. -/
def grid (f : Nat → Nat → Px) (wide high : Nat) : List Px := (List.range high).flatMap fun y : Nat => (List.range wide).map fun x : Nat => f x y
/-- The first rows, and the first places of the next one. -/
def gridTo (f : Nat → Nat → Px) (wide k j : Nat) : List Px := grid f wide k ++ (List.range j).map fun x : Nat => f x k
theorem grid_length (f : Nat → Nat → Px) (wide high : Nat) : (grid f wide high).length = high * wide := by
  unfold grid
  induction high with
  | zero => simp
  | succ n ih => rw [List.range_succ, List.flatMap_append, List.length_append, ih]; simp [Nat.succ_mul]
theorem gridTo_length (f : Nat → Nat → Px) (wide k j : Nat) : (gridTo f wide k j).length = k * wide + j := by simp [gridTo, grid_length]
theorem gridTo_zero (f : Nat → Nat → Px) (wide k : Nat) : gridTo f wide k 0 = grid f wide k := by simp [gridTo]
theorem gridTo_succ (f : Nat → Nat → Px) (wide k j : Nat) : gridTo f wide k (j + 1) = gridTo f wide k j ++ [f j k] := by simp [gridTo, List.range_succ]
theorem gridTo_full (f : Nat → Nat → Px) (wide k : Nat) : gridTo f wide k wide = grid f wide (k + 1) := by
  unfold gridTo grid
  rw [List.range_succ, List.flatMap_append]
  simp
theorem grid_nil (f : Nat → Nat → Px) (wide : Nat) : grid f wide 0 = [] := rfl
theorem grid_at (f : Nat → Nat → Px) (wide : Nat) : ∀ (high x y : Nat), x < wide → y < high → (grid f wide high)[y * wide + x]? = some (f x y) := by
  intro high
  induction high with
  | zero => intro x y _ hy; omega
  | succ n ih =>
    intro x y hx hy
    rw [← gridTo_full]
    unfold gridTo
    rcases Nat.lt_or_ge y n with h | h
    · have hm : (y + 1) * wide ≤ n * wide := Nat.mul_le_mul_right _ h
      rw [Nat.succ_mul] at hm
      rw [List.getElem?_append_left (by rw [grid_length]; omega), ih x y hx h]
    · have hy' : y = n := by omega
      subst hy'
      rw [List.getElem?_append_right (by rw [grid_length]; omega), grid_length]
      have e2 : y * wide + x - y * wide = x := by omega
      rw [e2]
      simp [hx]
theorem grid_congr (f g : Nat → Nat → Px) (wide high : Nat) (h : ∀ x y : Nat, x < wide → y < high → f x y = g x y) : grid f wide high = grid g wide high := by
  induction high with
  | zero => rfl
  | succ n ih =>
    rw [← gridTo_full, ← gridTo_full, gridTo, gridTo, ih fun x y hx hy => h x y hx (by omega)]
    congr 1
    exact List.map_congr_left fun x hx => h x n (List.mem_range.1 hx) (by omega)
theorem flat_grid (ls : List Layer) (wide high : Nat) : flat ls wide high = grid (fun x y => dot ls (x : Int) (y : Int)) wide high := rfl
/-- What is done in place: the places that were reached are new, the others as they were. -/
def mixTo (f : Nat → Nat → Px) (ps : List Px) (wide k j : Nat) : List Px := gridTo f wide k j ++ ps.drop (k * wide + j)
theorem mixTo_start (f : Nat → Nat → Px) (ps : List Px) (wide : Nat) : mixTo f ps wide 0 0 = ps := by simp [mixTo, gridTo, grid]
theorem mixTo_full (f : Nat → Nat → Px) (ps : List Px) (wide k : Nat) : mixTo f ps wide k wide = mixTo f ps wide (k + 1) 0 := by
  rw [mixTo, mixTo, gridTo_full, gridTo_zero]
  congr 2
  rw [Nat.succ_mul]; omega
theorem mixTo_end (f : Nat → Nat → Px) (ps : List Px) (wide high : Nat) (h : ps.length = high * wide) : mixTo f ps wide high 0 = grid f wide high := by
  rw [mixTo, gridTo_zero, List.drop_eq_nil_of_le (by omega), List.append_nil]
theorem mixTo_length (f : Nat → Nat → Px) (ps : List Px) (wide k j : Nat) (h : k * wide + j ≤ ps.length) : (mixTo f ps wide k j).length = ps.length := by
  rw [mixTo, List.length_append, gridTo_length, List.length_drop]
  omega
theorem mixTo_set (f : Nat → Nat → Px) (ps : List Px) (wide k j : Nat) (h : k * wide + j < ps.length) : (mixTo f ps wide k j).set (k * wide + j) (f j k) = mixTo f ps wide k (j + 1) := by
  rw [mixTo, mixTo, List.set_append_right _ _ (by rw [gridTo_length]; omega), gridTo_length, Nat.sub_self, List.drop_eq_getElem_cons h, List.set_cons_zero, gridTo_succ, List.append_assoc]
  rfl
theorem mixTo_keep (f : Nat → Nat → Px) (ps : List Px) (wide k j : Nat) (h : k * wide + j < ps.length) (e : f j k = ps.getD (k * wide + j) default) : mixTo f ps wide k j = mixTo f ps wide k (j + 1) := by
  rw [← mixTo_set f ps wide k j h, e, mixTo]
  rw [List.set_append_right _ _ (by rw [gridTo_length]; omega), gridTo_length, Nat.sub_self, List.drop_eq_getElem_cons h, List.set_cons_zero, List.getD_eq_getElem?_getD, List.getElem?_eq_getElem h]
  rfl
/-- The place that is next is still as it was. -/
theorem mixTo_here (f : Nat → Nat → Px) (ps : List Px) (wide k j : Nat) : (mixTo f ps wide k j)[k * wide + j]? = ps[k * wide + j]? := by
  rw [mixTo, List.getElem?_append_right (by rw [gridTo_length]; omega), gridTo_length, Nat.sub_self, List.getElem?_drop]
  congr 1

/-- Does a place lie in a picture? -/
def inP (W H x y : Int) : Bool := decide (0 ≤ x) && decide (0 ≤ y) && decide (x < W) && decide (y < H)
/-- A pixel of a picture that is stamped upon another one. -/
def stampAt (ps qs : List Px) (W : Nat) (Wq Hq x y mode : Int) (u v : Nat) : Px :=
  if inP Wq Hq (u - x) (v - y) = true then Pix.over mode (qs.getD ((v - y) * Wq + (u - x)).toNat default) (ps.getD (v * W + u) default) else ps.getD (v * W + u) default
theorem inP_seen (l : Layer) (x y : Int) (h : l.hidden = false) : inP l.wide l.high (x - l.x) (y - l.y) = seen l x y := by
  unfold inP seen
  rw [h]
  rcases decide (0 ≤ x - l.x) with _ | _ <;> rcases decide (0 ≤ y - l.y) with _ | _ <;> rcases decide (x - l.x < l.wide) with _ | _ <;> rcases decide (y - l.y < l.high) with _ | _ <;> rfl
theorem spot_in (l : Layer) (x y : Int) (hn : (l.ps.length : Int) = l.wide * l.high) (h : inP l.wide l.high (x - l.x) (y - l.y) = true) : ((y - l.y) * l.wide + (x - l.x)).toNat < l.ps.length := by
  simp only [inP, Bool.and_eq_true, decide_eq_true_eq] at h
  obtain ⟨⟨⟨h1, h2⟩, h3⟩, h4⟩ := h
  generalize x - l.x = u at *
  generalize y - l.y = v at *
  have a1 : (v + 1) * l.wide ≤ l.high * l.wide := Int.mul_le_mul_of_nonneg_right (by omega) (by omega)
  have a2 : 0 ≤ v * l.wide := Int.mul_nonneg h2 (by omega)
  rw [Int.add_mul, Int.one_mul, Int.mul_comm l.high] at a1
  omega
theorem flat_stamp (a : List Layer) (l : Layer) (W H : Nat) (hh : l.hidden = false) (hn : (l.ps.length : Int) = l.wide * l.high) :
    grid (stampAt (flat a W H) (l.ps.map fun p => Pix.fade p l.opacity) W l.wide l.high l.x l.y l.mode) W H = flat (a ++ [l]) W H := by
  rw [flat_grid (a ++ [l])]
  refine grid_congr _ _ _ _ fun x y hx hy => ?_
  rw [dot_snoc, put, ← inP_seen l _ _ hh]
  have e : (flat a W H).getD (y * W + x) default = dot a (x : Int) (y : Int) := by rw [List.getD_eq_getElem?_getD, flat_at a W H x y hx hy]; rfl
  unfold stampAt
  rw [e]
  split
  · rename_i h
    have hk := spot_in l x y hn h
    rw [spot, List.getD_eq_getElem?_getD, List.getD_eq_getElem?_getD, List.getElem?_map, List.getElem?_eq_getElem hk]
    rfl
  · rfl
/-- The whole of no layers is clear. -/
theorem flat_none (W H : Nat) : flat [] W H = List.replicate (W * H) Pix.nil := by
  apply List.ext_getElem?
  intro i
  by_cases h : i < H * W
  · have hW : 0 < W := by
      rcases Nat.eq_zero_or_pos W with e | e
      · subst e; simp at h
      · exact e
    have hi : i = i / W * W + i % W := by have := Nat.div_add_mod i W; rw [Nat.mul_comm] at this; omega
    rw [List.getElem?_replicate, if_pos (by rw [Nat.mul_comm]; exact h)]
    conv => lhs; rw [hi]
    rw [flat_at [] W H _ _ (Nat.mod_lt _ hW) (Nat.div_lt_of_lt_mul (by rwa [Nat.mul_comm]))]
    rfl
  · rw [List.getElem?_eq_none (by rw [flat_length]; omega), List.getElem?_eq_none (by rw [List.length_replicate, Nat.mul_comm]; omega)]
theorem flat_skip (a : List Layer) (l : Layer) (W H : Nat) (hh : l.hidden = true) : flat (a ++ [l]) W H = flat a W H := by
  have := flat_hidden a [] l hh W H
  simpa using this
end Lay

namespace Pix
/-- As the document says it: a rounded part. -/
def rounded (n d : Int) : Int := if d ≤ 2 * (n - n / d * d) then n / d + 1 else n / d
theorem rounded_eq (n d : Int) (h : 0 < d) : rounded n d = rnd n d := rnd_ref n d h
/-- The colors of two pixels as the document says it. -/
def numRef (m a b s d : Int) : Int := 255 * a * (255 - b) * s + 255 * b * (255 - a) * d + a * b * blend m s d
theorem numRef_eq (m a b s d : Int) : numRef m a b s d = num m a b s d := by unfold numRef num; grind
end Pix
end Go.Proofs.YthohmpjoeffckaaDoor
