/- Pixels over pixels: plain. -/
import Derived.Test.YtcdbhcjiimdhhaaDoorPx
namespace Go.Proofs.YtcdbhcjiimdhhaaDoor
namespace Pix

/-- A rounded part, halves up. -/
def rnd (n d : Int) : Int := (2 * n + d) / (2 * d)
theorem rnd_ref (n d : Int) (hd : 0 < d) : (if d ≤ 2 * (n - n / d * d) then n / d + 1 else n / d) = rnd n d := by
  unfold rnd
  have h1 : n / d * d + n % d = n := by rw [Int.mul_comm]; exact Int.mul_ediv_add_emod n d
  have h2 := Int.emod_nonneg n (show d ≠ 0 by omega)
  have h3 := Int.emod_lt_of_pos n hd
  generalize n / d = q at *
  generalize n % d = r at *
  have e : 2 * n + d = (2 * r + d) + 2 * d * q := by rw [← h1]; grind
  rw [e, Int.add_mul_ediv_left _ _ (by omega)]
  have e2 : n - q * d = r := by omega
  rw [e2]
  split
  · rename_i h
    have e3 : 2 * r + d = (2 * r - d) + 2 * d * 1 := by omega
    rw [e3, Int.add_mul_ediv_left _ _ (by omega), Int.ediv_eq_zero_of_lt (by omega) (by omega)]
    omega
  · rw [Int.ediv_eq_zero_of_lt (by omega) (by omega)]
    omega
theorem rnd_mul (d k : Int) (hd : 0 < d) : rnd (d * k) d = k := by
  unfold rnd
  have e : 2 * (d * k) + d = d + 2 * d * k := by grind
  rw [e, Int.add_mul_ediv_left _ _ (by omega), Int.ediv_eq_zero_of_lt (by omega) (by omega)]
  omega
theorem rnd_nonneg (n d : Int) (hn : 0 ≤ n) (hd : 0 < d) : 0 ≤ rnd n d := Int.ediv_nonneg (by omega) (by omega)
theorem rnd_le (n d k : Int) (hd : 0 < d) (h : n ≤ d * k) : rnd n d ≤ k := by
  rw [← rnd_mul d k hd]
  exact Int.ediv_le_ediv (by omega) (by omega)
theorem rnd_mono (n m d : Int) (hd : 0 < d) (h : n ≤ m) : rnd n d ≤ rnd m d := Int.ediv_le_ediv (by omega) (by omega)
theorem rnd_255 (n : Int) (h : 128 ≤ n) : 1 ≤ rnd n 255 := by unfold rnd; omega

/-- 255 times what two colors make. -/
def blend (m s d : Int) : Int :=
  if m = 1 then s * d else if m = 2 then 255 * (s + d) - s * d else if m = 3 then 255 * min s d else if m = 4 then 255 * max s d else if m = 5 then 255 * max (s - d) (d - s) else 255 * s
theorem mul_byte {x y : Int} (h1 : 0 ≤ x) (h2 : x ≤ 255) (h3 : 0 ≤ y) (h4 : y ≤ 255) : 0 ≤ x * y ∧ x * y ≤ 255 * x ∧ x * y ≤ 255 * y := by
  have a := Int.mul_nonneg h1 h3
  have b : 0 ≤ x * (255 - y) := Int.mul_nonneg h1 (by omega)
  have c : 0 ≤ (255 - x) * y := Int.mul_nonneg (by omega) h3
  rw [Int.mul_sub] at b
  rw [Int.sub_mul] at c
  omega
theorem blend_bound (m : Int) {s d : Int} (h1 : 0 ≤ s) (h2 : s ≤ 255) (h3 : 0 ≤ d) (h4 : d ≤ 255) : 0 ≤ blend m s d ∧ blend m s d ≤ 65025 := by
  obtain ⟨a, b, c⟩ := mul_byte h1 h2 h3 h4
  have e : 0 ≤ (255 - s) * (255 - d) := Int.mul_nonneg (by omega) (by omega)
  have e2 : (255 - s) * (255 - d) = 65025 - 255 * s - 255 * d + s * d := by grind
  unfold blend
  repeat' split
  all_goals omega

/-- How much two pixels cover, 255 times. -/
def covers (a b : Int) : Int := 255 * a + b * (255 - a)
theorem covers_eq (a b : Int) : covers a b = 255 * a + 255 * b - a * b := by unfold covers; grind
theorem covers_bound {a b : Int} (h1 : 0 ≤ a) (h2 : a ≤ 255) (h3 : 0 ≤ b) (h4 : b ≤ 255) : 255 * a ≤ covers a b ∧ 255 * b ≤ covers a b ∧ covers a b ≤ 65025 := by
  obtain ⟨x, y, z⟩ := mul_byte h1 h2 h3 h4
  have e : 0 ≤ (255 - a) * (255 - b) := Int.mul_nonneg (by omega) (by omega)
  have e2 : (255 - a) * (255 - b) = 65025 - 255 * a - 255 * b + a * b := by grind
  rw [covers_eq]
  omega
/-- The top of a color's part. -/
def num (m a b s d : Int) : Int := 255 * (a * (255 - b) * s + b * (255 - a) * d) + a * b * blend m s d
theorem num_bound (m : Int) {a b s d : Int} (a1 : 0 ≤ a) (a2 : a ≤ 255) (b1 : 0 ≤ b) (b2 : b ≤ 255) (s1 : 0 ≤ s) (s2 : s ≤ 255) (d1 : 0 ≤ d) (d2 : d ≤ 255) :
    0 ≤ num m a b s d ∧ num m a b s d ≤ 255 * covers a b * 255 := by
  obtain ⟨l1, l2⟩ := blend_bound m s1 s2 d1 d2
  have x1 : 0 ≤ a * (255 - b) := Int.mul_nonneg a1 (by omega)
  have x2 : 0 ≤ b * (255 - a) := Int.mul_nonneg b1 (by omega)
  have x3 : 0 ≤ a * b := Int.mul_nonneg a1 b1
  have y1 := Int.mul_nonneg x1 s1
  have y2 := Int.mul_nonneg x2 d1
  have y3 := Int.mul_nonneg x3 l1
  have z1 : a * (255 - b) * s ≤ a * (255 - b) * 255 := Int.mul_le_mul_of_nonneg_left s2 x1
  have z2 : b * (255 - a) * d ≤ b * (255 - a) * 255 := Int.mul_le_mul_of_nonneg_left d2 x2
  have z3 : a * b * blend m s d ≤ a * b * 65025 := Int.mul_le_mul_of_nonneg_left l2 x3
  have e : 255 * covers a b * 255 = 255 * (a * (255 - b) * 255 + b * (255 - a) * 255) + a * b * 65025 := by unfold covers; grind
  rw [e]
  unfold num
  omega
/-- A color of one pixel over another one. -/
def col (m a b s d : Int) : Int := rnd (num m a b s d) (255 * covers a b)
theorem col_bound (m : Int) {a b s d : Int} (a1 : 0 ≤ a) (a2 : a ≤ 255) (b1 : 0 ≤ b) (b2 : b ≤ 255) (s1 : 0 ≤ s) (s2 : s ≤ 255) (d1 : 0 ≤ d) (d2 : d ≤ 255) (hc : 0 < covers a b) :
    0 ≤ col m a b s d ∧ col m a b s d ≤ 255 := by
  obtain ⟨h1, h2⟩ := num_bound m a1 a2 b1 b2 s1 s2 d1 d2
  exact ⟨rnd_nonneg _ _ h1 (by omega), rnd_le _ _ _ (by omega) h2⟩
def u8 (n : Int) : UInt8 := UInt8.ofNat n.toNat
theorem u8_toNat {n : Int} (h0 : 0 ≤ n) (h1 : n ≤ 255) : ((u8 n).toNat : Int) = n := by
  unfold u8
  rw [UInt8.toNat_ofNat']
  omega
theorem u8_of (x : UInt8) : u8 (x.toNat : Int) = x := by
  apply UInt8.toNat_inj.1
  have := u8_toNat (n := (x.toNat : Int)) (by omega) (by have := x.toNat_lt; omega)
  omega
def nil : Px := ⟨0, 0, 0, 0⟩
def over (m : Int) (t u : Px) : Px :=
  if covers t.a.toNat u.a.toNat = 0 then nil else
  ⟨u8 (col m t.a.toNat u.a.toNat t.r.toNat u.r.toNat), u8 (col m t.a.toNat u.a.toNat t.g.toNat u.g.toNat), u8 (col m t.a.toNat u.a.toNat t.b.toNat u.b.toNat), u8 (rnd (covers t.a.toNat u.a.toNat) 255)⟩
def fade (p : Px) (o : Int) : Px := if rnd (p.a.toNat * o) 255 = 0 then nil else ⟨p.r, p.g, p.b, u8 (rnd (p.a.toNat * o) 255)⟩

/-- What covers nothing is zero. -/
def Clear (p : Px) : Prop := p.a = 0 → p = nil
theorem clear_nil : Clear nil := fun _ => rfl
theorem a_nonneg (x : UInt8) : (0 : Int) ≤ x.toNat ∧ (x.toNat : Int) ≤ 255 := by have := x.toNat_lt; omega
theorem a_zero {x : UInt8} (h : (x.toNat : Int) = 0) : x = 0 := by
  apply UInt8.toNat_inj.1
  simp; omega
theorem over_clear (m : Int) (t u : Px) : Clear (over m t u) := by
  unfold over
  split
  · exact clear_nil
  · rename_i h
    intro h0
    exfalso
    obtain ⟨a1, a2⟩ := a_nonneg t.a
    obtain ⟨b1, b2⟩ := a_nonneg u.a
    obtain ⟨c1, c2, c3⟩ := covers_bound a1 a2 b1 b2
    have h255 : 255 ≤ covers t.a.toNat u.a.toNat := by
      rcases Int.lt_or_le 0 (t.a.toNat : Int) with g | g
      · omega
      · have e : (t.a.toNat : Int) = 0 := by omega
        rw [e] at h c2 ⊢
        rcases Int.lt_or_le 0 (u.a.toNat : Int) with g2 | g2
        · omega
        · have e2 : (u.a.toNat : Int) = 0 := by omega
          rw [e2] at h
          exact absurd rfl h
    have hr := rnd_255 _ (show 128 ≤ covers t.a.toNat u.a.toNat by omega)
    have hr2 := rnd_le (covers t.a.toNat u.a.toNat) 255 255 (by omega) (by omega)
    have := u8_toNat (show 0 ≤ rnd (covers t.a.toNat u.a.toNat) 255 by omega) hr2
    simp only at h0
    rw [h0] at this
    simp at this
    omega
theorem fade_clear (p : Px) (o : Int) (h0 : 0 ≤ o) (h1 : o ≤ 255) : Clear (fade p o) := by
  unfold fade
  split
  · exact clear_nil
  · rename_i h
    intro e
    exfalso
    obtain ⟨a1, a2⟩ := a_nonneg p.a
    obtain ⟨m1, m2, m3⟩ := mul_byte a1 a2 h0 h1
    have r1 := rnd_nonneg (p.a.toNat * o) 255 m1 (by omega)
    have r2 := rnd_le (p.a.toNat * o) 255 255 (by omega) (by omega)
    have := u8_toNat r1 r2
    simp only at e
    rw [e] at this
    simp at this
    omega
/-- What covers nothing changes nothing. -/
theorem over_nil (m : Int) (u : Px) (hu : Clear u) : over m nil u = u := by
  unfold over
  have e0 : ((nil.a).toNat : Int) = 0 := rfl
  rw [e0]
  obtain ⟨b1, b2⟩ := a_nonneg u.a
  have ec : covers 0 (u.a.toNat : Int) = 255 * u.a.toNat := by unfold covers; omega
  split
  · rename_i h
    rw [ec] at h
    exact (hu (a_zero (by omega))).symm
  · rename_i h
    rw [ec] at h
    have key : ∀ s d : Int, col m 0 u.a.toNat s d = d := by
      intro s d
      unfold col num
      rw [ec]
      have e1 : 255 * (0 * (255 - (u.a.toNat : Int)) * s + (u.a.toNat : Int) * (255 - 0) * d) + 0 * (u.a.toNat : Int) * blend m s d = 255 * (255 * (u.a.toNat : Int)) * d := by grind
      rw [e1, rnd_mul _ _ (by omega)]
    rw [key, key, key, u8_of, u8_of, u8_of, ec, rnd_mul _ _ (by omega), u8_of]
/-- Over nothing, plainly. -/
theorem over_on_nil (t : Px) (ht : Clear t) : over 0 t nil = t := by
  unfold over
  have e0 : ((nil.a).toNat : Int) = 0 := rfl
  rw [e0]
  obtain ⟨a1, a2⟩ := a_nonneg t.a
  have ec : covers (t.a.toNat : Int) 0 = 255 * t.a.toNat := by unfold covers; omega
  split
  · rename_i h
    rw [ec] at h
    exact (ht (a_zero (by omega))).symm
  · rename_i h
    rw [ec] at h
    have key : ∀ s d : Int, col 0 t.a.toNat 0 s d = s := by
      intro s d
      unfold col num
      rw [ec]
      have e1 : 255 * ((t.a.toNat : Int) * (255 - 0) * s + 0 * (255 - (t.a.toNat : Int)) * d) + (t.a.toNat : Int) * 0 * blend 0 s d = 255 * (255 * (t.a.toNat : Int)) * s := by grind
      rw [e1, rnd_mul _ _ (by omega)]
    rw [key, key, key, u8_of, u8_of, u8_of, ec, rnd_mul _ _ (by omega), u8_of]
theorem fade_zero (p : Px) : fade p 0 = nil := by
  unfold fade
  rw [Int.mul_zero, if_pos (by decide)]
theorem fade_full (p : Px) (hp : Clear p) : fade p 255 = p := by
  unfold fade
  rw [Int.mul_comm, rnd_mul _ _ (by omega)]
  split
  · rename_i h
    exact (hp (a_zero h)).symm
  · rw [u8_of]
end Pix
end Go.Proofs.YtcdbhcjiimdhhaaDoor
