/- Pixels compared by the code. -/
import Derived.Test.YtcdbhcjiimdhhaaDoorPxKey
namespace Go.Proofs.YtcdbhcjiimdhhaaDoor
open Go Go.RowKit
theorem run_eql_px (w : World) (p q : Px) : (binOp .eql 41 (pxV p) (pxV q)).run Tryd.prog w = .ok (.bool (decide (p = q))) w := by
  have h : (Op.equalIn Op.maxDepth 41 (pxV p) (pxV q)).run Tryd.prog w = .ok (decide (p = q)) w := pxEqIn w p q
  unfold pxV at h ⊢
  simp [binOp, Op.equal, h]
theorem run_neq_px (w : World) (p q : Px) : (binOp .neq 41 (pxV p) (pxV q)).run Tryd.prog w = .ok (.bool (!decide (p = q))) w := by
  have h : (Op.equalIn Op.maxDepth 41 (pxV p) (pxV q)).run Tryd.prog w = .ok (decide (p = q)) w := pxEqIn w p q
  unfold pxV at h ⊢
  simp [binOp, Op.equal, h]
end Go.Proofs.YtcdbhcjiimdhhaaDoor
