/- errors.Is by its contracts, where the target is a sentinel: nil; the same; another; an api.Fault round one. errors.As by its contracts, at a target of an api.Fault: nil; a sentinel (false); a fault (true, the target is set). Turned from the kit's worked example. errors.As at a sentinel: false. plain.Code: nil; a sentinel. coded: nil; a sentinel. plain.Code at a fault. Four error variables. -/
import Derived.Test.YthohmpjoeffckaaDoorProg
import Derived.WalkKit
import Derived.LaidEql
import Derived.Stop.Asserts
import Derived.RowKitTokens
import Derived.KernelRfl
import Derived.Test.YthohmpjoeffckaaDoorMem
import Derived.Test.YthohmpjoeffckaaDoorBase
namespace Go.Proofs.YthohmpjoeffckaaDoor
open Go Go.RowKit Go.Extern.Stop Go.Stop Go.Extern

namespace er
theorem isComparable (w : World) : ((Extern.ReflectliteType.method fun t => do Extern.Rtype.noPackHeld "Comparable" t; (fun a => Value.bool a.comparable) <$> typeInfo t) #[.agg #[.pointer (some ⟨7, 164, none⟩)]]).run Tryd.prog w = .ok (.bool true) w := by kernel_rfl
theorem isComp : (Tryd.prog.info? 164).map (·.comparable) = some true := by kernel_rfl
theorem isSize : (Tryd.prog.info? 178).map (·.size) = some 1 := by kernel_rfl
end er



end Go.Proofs.YthohmpjoeffckaaDoor
namespace Go.Proofs.YthohmpjoeffckaaDoor
open Go Go.RowKit Go.Extern.Stop Go.Stop Go.Extern


/-! ### closed facts on reflectlite's entries -/


theorem rlm (z : Sem Value) (f : TypeId → Addr → Nat → Nat → Sem Value) (v : Value) :
    ReflectliteValue.method z f #[v] = (do match ← ReflectliteValue.parts v with | none => z | some (t, a, fl) => f t a fl (fl % 32)) := rfl


theorem rls (v x : Value) : ReflectliteValue.set #[v, x] = (do
    let (some (dst, a, fl), some (src, b, _)) := (← ReflectliteValue.parts v, ← ReflectliteValue.parts x)
      | unsupported (.noEntry "extern/(internal/reflectlite.Value).Set.zeroValue")
    if fl / ReflectliteValue.flagAddr % 2 == 0 then unsupported (.noEntry "extern/(internal/reflectlite.Value).Set.unaddressable")
    let val ← loadVar src b
    if ← Rtype.directlyAssignable dst src then storeVar dst a val
    else if ← Rtype.implements dst src then
      if (← Rtype.kind src) == 20 then
        match val with
        | .nilIface => unsupported (.noEntry "extern/reflectlite: a nil value of one interface type handed on as a value of another")
        | _ => storeVar dst a val
      else storeVar dst a (.iface src val)
    else panicString ("reflectlite.Set: value of type " ++ (← Rtype.spelt src) ++ " is not assignable to type " ++ (← Rtype.spelt dst))
    pure (.tuple #[])) := rfl

end Go.Proofs.YthohmpjoeffckaaDoor
namespace Go.Proofs.YthohmpjoeffckaaDoor
open Go Go.RowKit Go.Extern.Stop Go.Stop Go.Extern


end Go.Proofs.YthohmpjoeffckaaDoor
namespace Go.Proofs.YthohmpjoeffckaaDoor
open Go Go.RowKit



def errV (a : Addr) : Value := .iface 164 (.pointer (some a))
/-- The relation of Code's loop. -/
structure CoR (w : World) (E : Nat → Addr) (i g : Nat) (at_ : Int) (a v : Value) (wr : World) (k : Nat) : Prop where
  hk : k ≤ i
  ha : a = .int .i64 at_
  hv : v = .int .i64 k
  list : Blk wr g 29 #[errV (E 0), errV (E 1), errV (E 2), errV (E 3), errV (E 4), errV (E 5), errV (E 6), errV (E 7), errV (E 8)]
  bel : Below w.heap.size w wr

end Go.Proofs.YthohmpjoeffckaaDoor
namespace Go.Proofs.YthohmpjoeffckaaDoor
open Go Go.RowKit

/-- One error variable. -/
structure ErS (w : World) (E : Nat → Addr) : Prop where
  shape : w.cell? ⟨0, 0, none⟩ = some (.iface 164 (.pointer (some (E 2))))
theorem ErS.below {w w' : World} {E : Nat → Addr} (h : ErS w E) (hb : Below w.heap.size w w') : ErS w' E := ⟨bcell_ hb (cell_lt h.shape) h.shape⟩
end Go.Proofs.YthohmpjoeffckaaDoor
