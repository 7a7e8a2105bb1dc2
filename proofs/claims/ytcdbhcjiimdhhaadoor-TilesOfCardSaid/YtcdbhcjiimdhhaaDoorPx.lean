/-
  Pixels as plain data: four bytes.
-/
namespace Go.Proofs.YtcdbhcjiimdhhaaDoor

structure Px where
  r : UInt8
  g : UInt8
  b : UInt8
  a : UInt8

theorem Px.ext' {x y : Px} (h1 : x.r = y.r) (h2 : x.g = y.g) (h3 : x.b = y.b) (h4 : x.a = y.a) : x = y := by
  cases x; cases y; simp_all
instance : DecidableEq Px := fun x y =>
  if h : x.r = y.r ∧ x.g = y.g ∧ x.b = y.b ∧ x.a = y.a then .isTrue (Px.ext' h.1 h.2.1 h.2.2.1 h.2.2.2) else .isFalse (by rintro rfl; simp at h)
instance : Inhabited Px := ⟨⟨0, 0, 0, 0⟩⟩
def Px.zero : Px := ⟨0, 0, 0, 0⟩

end Go.Proofs.YtcdbhcjiimdhhaaDoor
