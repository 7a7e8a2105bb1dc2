/- Layers, one upon the other: plain. -/
import Derived.Test.YtcdbhcjiimdhhaaDoorPixLaw
namespace Go.Proofs.YtcdbhcjiimdhhaaDoor
namespace Lay

structure Layer where
  name : ByteArray
  x : Int
  y : Int
  hidden : Bool
  opacity : Int
  mode : Int
  wide : Int
  high : Int
  ps : List Px
instance : Inhabited Layer := ⟨⟨default, 0, 0, false, 0, 0, 0, 0, []⟩⟩

/-- Does a layer show at a place? -/
def seen (l : Layer) (x y : Int) : Bool := !l.hidden && decide (0 ≤ x - l.x) && decide (x - l.x < l.wide) && decide (0 ≤ y - l.y) && decide (y - l.y < l.high)
/-- Its pixel there. -/
def spot (l : Layer) (x y : Int) : Px := l.ps.getD ((y - l.y) * l.wide + (x - l.x)).toNat default
/-- One layer more. -/
def put (x y : Int) (p : Px) (l : Layer) : Px := if seen l x y = true then Pix.over l.mode (Pix.fade (spot l x y) l.opacity) p else p
def dot (ls : List Layer) (x y : Int) : Px := ls.foldl (put x y) Pix.nil
def flat (ls : List Layer) (wide high : Nat) : List Px := (List.range high).flatMap fun y : Nat => (List.range wide).map fun x : Nat => dot ls (x : Int) (y : Int)

theorem put_clear (x y : Int) (p : Px) (l : Layer) (hp : Pix.Clear p) : Pix.Clear (put x y p l) := by
  unfold put
  split
  · exact Pix.over_clear _ _ _
  · exact hp
theorem foldl_clear (x y : Int) : ∀ (ls : List Layer) (p : Px), Pix.Clear p → Pix.Clear (ls.foldl (put x y) p)
  | [], _, h => h
  | l :: ls, p, h => foldl_clear x y ls _ (put_clear x y p l h)
theorem dot_clear (ls : List Layer) (x y : Int) : Pix.Clear (dot ls x y) := foldl_clear x y ls _ Pix.clear_nil
theorem dot_append (a b : List Layer) (x y : Int) : dot (a ++ b) x y = b.foldl (put x y) (dot a x y) := by simp [dot, List.foldl_append]
theorem dot_snoc (a : List Layer) (l : Layer) (x y : Int) : dot (a ++ [l]) x y = put x y (dot a x y) l := by simp [dot, List.foldl_append]
theorem dot_take (ls : List Layer) (k : Nat) (hk : k < ls.length) (x y : Int) : dot (ls.take (k + 1)) x y = put x y (dot (ls.take k) x y) ls[k] := by
  rw [List.take_succ_eq_append_getElem hk, dot_snoc]
/-- A layer that changes nothing may go. -/
theorem dot_without (a b : List Layer) (l : Layer) (x y : Int) (h : ∀ p, Pix.Clear p → put x y p l = p) : dot (a ++ l :: b) x y = dot (a ++ b) x y := by
  rw [dot_append, dot_append, List.foldl_cons, h _ (dot_clear a x y)]
theorem put_hidden (x y : Int) (p : Px) (l : Layer) (h : l.hidden = true) : put x y p l = p := by simp [put, seen, h]
theorem put_zero (x y : Int) (p : Px) (l : Layer) (h : l.opacity = 0) (hp : Pix.Clear p) : put x y p l = p := by
  unfold put
  split
  · rw [h, Pix.fade_zero, Pix.over_nil _ _ hp]
  · rfl
theorem flat_length (ls : List Layer) (wide high : Nat) : (flat ls wide high).length = high * wide := by
  unfold flat
  induction high with
  | zero => simp
  | succ n ih => rw [List.range_succ, List.flatMap_append, List.length_append, ih]; simp [Nat.succ_mul]
theorem flat_congr (a b : List Layer) (wide high : Nat) (h : ∀ x y : Nat, x < wide → y < high → dot a x y = dot b x y) : flat a wide high = flat b wide high := by
  unfold flat
  rw [List.flatMap_eq_foldl, List.flatMap_eq_foldl]
  have : ∀ (l : List Nat) (acc : List Px), (∀ y ∈ l, y < high) → List.foldl (fun acc (y : Nat) => acc ++ (List.range wide).map fun x : Nat => dot a (x : Int) (y : Int)) acc l = List.foldl (fun acc (y : Nat) => acc ++ (List.range wide).map fun x : Nat => dot b (x : Int) (y : Int)) acc l := by
    intro l
    induction l with
    | nil => intro acc _; rfl
    | cons y l ih =>
      intro acc hl
      rw [List.foldl_cons, List.foldl_cons]
      have e : ((List.range wide).map fun x : Nat => dot a (x : Int) (y : Int)) = (List.range wide).map fun x : Nat => dot b (x : Int) (y : Int) :=
        List.map_congr_left fun x hx => h x y (List.mem_range.1 hx) (hl y (by simp))
      rw [e]
      exact ih _ fun y' hy => hl y' (by simp [hy])
  exact this _ _ fun y hy => List.mem_range.1 hy
theorem flat_hidden (a b : List Layer) (l : Layer) (h : l.hidden = true) (wide high : Nat) : flat (a ++ l :: b) wide high = flat (a ++ b) wide high :=
  flat_congr _ _ _ _ fun x y _ _ => dot_without a b l x y fun p _ => put_hidden _ _ p l h
theorem flat_zero (a b : List Layer) (l : Layer) (h : l.opacity = 0) (wide high : Nat) : flat (a ++ l :: b) wide high = flat (a ++ b) wide high :=
  flat_congr _ _ _ _ fun x y _ _ => dot_without a b l x y fun p hp => put_zero _ _ p l h hp
/-- A place of the whole. -/
theorem flat_at (ls : List Layer) (wide : Nat) : ∀ (high x y : Nat), x < wide → y < high → (flat ls wide high)[y * wide + x]? = some (dot ls x y) := by
  intro high
  induction high with
  | zero => intro x y _ hy; omega
  | succ n ih =>
    intro x y hx hy
    have e : flat ls wide (n + 1) = flat ls wide n ++ (List.range wide).map fun x : Nat => dot ls (x : Int) (n : Int) := by
      unfold flat
      rw [List.range_succ, List.flatMap_append]
      simp
    rw [e]
    rcases Nat.lt_or_ge y n with h | h
    · have hm : (y + 1) * wide ≤ n * wide := Nat.mul_le_mul_right _ h
      rw [Nat.succ_mul] at hm
      rw [List.getElem?_append_left (by rw [flat_length]; omega), ih x y hx h]
    · have hy' : y = n := by omega
      subst hy'
      rw [List.getElem?_append_right (by rw [flat_length]; omega), flat_length]
      have e2 : y * wide + x - y * wide = x := by omega
      rw [e2]
      simp [hx]
end Lay
end Go.Proofs.YtcdbhcjiimdhhaaDoor
