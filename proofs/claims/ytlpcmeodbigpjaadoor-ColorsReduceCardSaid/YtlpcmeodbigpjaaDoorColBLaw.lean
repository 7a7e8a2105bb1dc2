/- The sums of a better palette: plain. -/
import Derived.Test.YtlpcmeodbigpjaaDoorColorLaw
namespace Go.Proofs.YtlpcmeodbigpjaaDoor
namespace Col

/-- What a pixel adds to the five sums of its color. -/
def comp (c : Nat) (p : Px) : Int := match c with
  | 0 => p.r.toNat
  | 1 => p.g.toNat
  | 2 => p.b.toNat
  | 3 => p.a.toNat
  | _ => 1
/-- The sums, all in one row: five for each color. -/
def bS (ps pal : List Px) (t : Nat) : Int := ((cls ps pal (t / 5)).map (comp (t % 5))).sum
/-- Amid a pixel: so many of its bytes have been added. -/
def bM (ps pal : List Px) (p : Px) (c t : Nat) : Int := bS ps pal t + if t / 5 = (near p pal).1 ∧ t % 5 < c then comp (t % 5) p else 0

theorem bS_nil (pal : List Px) (t : Nat) : bS [] pal t = 0 := by simp [bS, cls]
theorem bM_zero (ps pal : List Px) (p : Px) (t : Nat) : bM ps pal p 0 t = bS ps pal t := by simp [bM]
theorem bS_snoc (ps pal : List Px) (p : Px) (t : Nat) : bS (ps ++ [p]) pal t = bM ps pal p 5 t := by
  unfold bM bS cls
  rw [List.filter_append, List.map_append, List.sum_append]
  have h5 : t % 5 < 5 := Nat.mod_lt _ (by omega)
  by_cases h : t / 5 = (near p pal).1
  · simp [h, h5]
  · have : ((near p pal).1 == t / 5) = false := by
      simp only [beq_eq_false_iff_ne, ne_eq]
      exact fun e => h e.symm
    simp [this, h]
theorem bS_take (ps pal : List Px) (k : Nat) (hk : k < ps.length) (t : Nat) : bS (ps.take (k + 1)) pal t = bM (ps.take k) pal ps[k] 5 t := by
  rw [List.take_succ_eq_append_getElem hk, bS_snoc]
/-- One byte more. -/
theorem bM_step (ps pal : List Px) (p : Px) (c t : Nat) (hc : c < 5) :
    bM ps pal p (c + 1) t = if t = (near p pal).1 * 5 + c then bM ps pal p c t + comp c p else bM ps pal p c t := by
  unfold bM
  by_cases h : t = (near p pal).1 * 5 + c
  · have h1 : t / 5 = (near p pal).1 := by omega
    have h2 : t % 5 = c := by omega
    rw [if_pos h, if_pos ⟨h1, by omega⟩, if_neg (by omega), h2]
    omega
  · rw [if_neg h]
    by_cases h1 : t / 5 = (near p pal).1
    · have h2 : t % 5 ≠ c := by omega
      by_cases h3 : t % 5 < c
      · have : t % 5 < c + 1 := by omega
        simp [h1, h3, this]
      · have : ¬ t % 5 < c + 1 := by omega
        simp [h3, this]
    · simp [h1]
theorem comp_bounds (c : Nat) (p : Px) : 0 ≤ comp c p ∧ comp c p ≤ 255 := by
  have h1 := p.r.toNat_lt
  have h2 := p.g.toNat_lt
  have h3 := p.b.toNat_lt
  have h4 := p.a.toNat_lt
  unfold comp
  split <;> omega
theorem bS_bounds (ps pal : List Px) (t : Nat) : 0 ≤ bS ps pal t ∧ bS ps pal t ≤ 255 * ps.length := by
  unfold bS
  have h := sum_bound ((cls ps pal (t / 5)).map (comp (t % 5))) 255 (fun x hx => by
    obtain ⟨p, _, rfl⟩ := List.mem_map.1 hx
    exact comp_bounds _ _)
  rw [List.length_map] at h
  have hl : (cls ps pal (t / 5)).length ≤ ps.length := List.length_filter_le _ _
  omega
theorem bM_bounds (ps pal : List Px) (p : Px) (c t : Nat) : 0 ≤ bM ps pal p c t ∧ bM ps pal p c t ≤ 255 * ps.length + 255 := by
  have h := bS_bounds ps pal t
  have h' := comp_bounds (t % 5) p
  unfold bM
  split <;> omega
/-- What the sums make of a color. -/
theorem bS_count (ps pal : List Px) (j : Nat) : bS ps pal (j * 5 + 4) = (cls ps pal j).length := by
  have h1 : (j * 5 + 4) / 5 = j := by omega
  have h2 : (j * 5 + 4) % 5 = 4 := by omega
  unfold bS
  rw [h1, h2]
  generalize cls ps pal j = l
  induction l with
  | nil => rfl
  | cons x l ih => simp [ih, comp]; omega
theorem bS_part (ps pal : List Px) (j c : Nat) (hc : c < 4) (f : Px → UInt8) (hf : ∀ p, comp c p = (f p).toNat) : bS ps pal (j * 5 + c) = part f (cls ps pal j) := by
  have h1 : (j * 5 + c) / 5 = j := by omega
  have h2 : (j * 5 + c) % 5 = c := by omega
  unfold bS part
  rw [h1, h2]
  congr 1
  exact List.map_congr_left fun x _ => hf x
/-- The color that the walk reckons. -/
def meanS (s n : Int) : UInt8 := UInt8.ofNat (meanOf s n).toNat
theorem bcolor_eq (ps pal : List Px) (j : Nat) (c : Px) : bcolor (cls ps pal j) c = if 0 < bS ps pal (j * 5 + 4) then
    ⟨meanS (bS ps pal (j * 5 + 0)) (bS ps pal (j * 5 + 4)), meanS (bS ps pal (j * 5 + 1)) (bS ps pal (j * 5 + 4)), meanS (bS ps pal (j * 5 + 2)) (bS ps pal (j * 5 + 4)), meanS (bS ps pal (j * 5 + 3)) (bS ps pal (j * 5 + 4))⟩ else c := by
  rw [bS_count, bS_part ps pal j 0 (by omega) Px.r (fun _ => rfl), bS_part ps pal j 1 (by omega) Px.g (fun _ => rfl), bS_part ps pal j 2 (by omega) Px.b (fun _ => rfl), bS_part ps pal j 3 (by omega) Px.a (fun _ => rfl)]
  unfold bcolor
  by_cases h : cls ps pal j = []
  · simp [h]
  · have : 0 < (cls ps pal j).length := List.length_pos_iff.2 h
    have h0 : (0 : Int) < (cls ps pal j).length := by omega
    rw [if_neg h, if_pos h0]
    rfl
end Col
end Go.Proofs.YtlpcmeodbigpjaaDoor
