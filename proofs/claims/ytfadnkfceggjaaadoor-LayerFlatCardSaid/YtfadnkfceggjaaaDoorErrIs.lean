/- errors.Is by its contracts, where the target is a sentinel: nil; the same; another; an api.Fault round one. -/
import Derived.Test.YtfadnkfceggjaaaDoorProg
import Derived.WalkKit
import Derived.LaidEql
import Derived.Stop.Asserts
import Derived.RowKitTokens
import Derived.KernelRfl
namespace Go.Proofs.YtfadnkfceggjaaaDoor
open Go Go.RowKit Go.Extern.Stop Go.Stop Go.Extern

namespace er
theorem isTypeOf (v : Value) (w : World) : (Extern.ReflectliteType.typeOf #[.iface 173 v]).run Tryd.prog w = .ok (.iface 157 (.agg #[.pointer (some ⟨10, 173, none⟩)])) w := by kernel_rfl
theorem isComparable (w : World) : ((Extern.ReflectliteType.method fun t => do Extern.Rtype.noPackHeld "Comparable" t; (fun a => Value.bool a.comparable) <$> typeInfo t) #[.agg #[.pointer (some ⟨10, 173, none⟩)]]).run Tryd.prog w = .ok (.bool true) w := by kernel_rfl
theorem isMethodComparable (v : Value) (w : World) : (Go.method 307 157 v "Comparable").run Tryd.prog w = .ok (137, v) w := by kernel_rfl
theorem isComp : (Tryd.prog.info? 173).map (·.comparable) = some true := by kernel_rfl
theorem isSize : (Tryd.prog.info? 195).map (·.size) = some 1 := by kernel_rfl
theorem noIsE (v : Value) (xT : TypeId) (w : World) : (Instr.typeAssert (.iface 173 v) xT 168 true).run Tryd.prog w = .ok (.tuple #[.nilIface, .bool false]) w := run_typeAssert_lacksB Tryd.underlying168 (by kernel_rfl) (by kernel_rfl) v xT w
theorem noUnwrapE (v : Value) (xT : TypeId) (w : World) : (Instr.typeAssert (.iface 173 v) xT 164 true).run Tryd.prog w = .ok (.tuple #[.nilIface, .bool false]) w := run_typeAssert_lacksB Tryd.underlying164 (by kernel_rfl) (by kernel_rfl) v xT w
theorem noUnwrapsE (v : Value) (xT : TypeId) (w : World) : (Instr.typeAssert (.iface 173 v) xT 166 true).run Tryd.prog w = .ok (.tuple #[.nilIface, .bool false]) w := run_typeAssert_lacksB Tryd.underlying166 (by kernel_rfl) (by kernel_rfl) v xT w
theorem noIsW (v : Value) (xT : TypeId) (w : World) : (Instr.typeAssert (.iface 83 v) xT 168 true).run Tryd.prog w = .ok (.tuple #[.nilIface, .bool false]) w := run_typeAssert_lacksB Tryd.underlying168 (by kernel_rfl) (by kernel_rfl) v xT w
theorem hasUnwrapW (v : Value) (xT : TypeId) (w : World) : (Instr.typeAssert (.iface 83 v) xT 164 true).run Tryd.prog w = .ok (.tuple #[.iface 83 v, .bool true]) w := run_typeAssert_hasB Tryd.underlying164 (by kernel_rfl) v xT w
theorem methodUnwrap (v : Value) (w : World) : (Go.method 307 83 v "Unwrap").run Tryd.prog w = .ok (131, v) w := by kernel_rfl
end er

set_option maxRecDepth 100000 in
/-- errors.Is(x, x). -/
theorem is_same (a : Addr) (w : World) :
    Calls Tryd.prog 67 #[.iface 173 (.pointer (some a)), .iface 173 (.pointer (some a))] w fun e w' => e = .returned (.bool true) ∧ w' = w := by
  obtain ⟨i, hi, hcmp⟩ := Option.map_eq_some_iff.1 er.isComp
  obtain ⟨j, hj, hjs⟩ := Option.map_eq_some_iff.1 er.isSize
  have h8 := @run_callFunc_extern Tryd.prog 93 _ Extern.ReflectliteType.typeOf Tryd.func93 (by kernel_rfl) (by kernel_rfl) (by kernel_rfl) (by kernel_rfl)
  have h32 := @run_callFunc_extern Tryd.prog 137 _ (Extern.ReflectliteType.method fun t => do Extern.Rtype.noPackHeld "Comparable" t; pure (.bool (← typeInfo t).comparable)) Tryd.func137 (by kernel_rfl) (by kernel_rfl) (by kernel_rfl) (by kernel_rfl)
  have tT := er.isTypeOf
  have cT := er.isComparable
  have mR := er.isMethodComparable
  have heq := run_eql_iface_ptr_same (P := Tryd.prog) w a Tryd.underlying41 Tryd.underlying173 hi hcmp hj
  go_enter Tryd.func67, Tryd.ntmps67
  go_wp2
  refine wp_loop_rounds 1 ?_
  rw [rounds_succ]
  go_wp2
  go_ret
  exact ⟨rfl, rfl⟩
set_option maxRecDepth 100000 in
/-- errors.Is(x, y), two different sentinels. -/
theorem is_other (a b : Addr) (ca cb : Array Value) (ta tb : TypeId) (w : World) (hne : a ≠ b) (ha : w.heap[a.block]? = some (.cells ca ta (0, 0))) (hb : w.heap[b.block]? = some (.cells cb tb (0, 0))) :
    Calls Tryd.prog 67 #[.iface 173 (.pointer (some a)), .iface 173 (.pointer (some b))] w fun e w' => e = .returned (.bool false) ∧ w' = w := by
  obtain ⟨i, hi, hcmp⟩ := Option.map_eq_some_iff.1 er.isComp
  obtain ⟨j, hj, hjs⟩ := Option.map_eq_some_iff.1 er.isSize
  have h8 := @run_callFunc_extern Tryd.prog 93 _ Extern.ReflectliteType.typeOf Tryd.func93 (by kernel_rfl) (by kernel_rfl) (by kernel_rfl) (by kernel_rfl)
  have h32 := @run_callFunc_extern Tryd.prog 137 _ (Extern.ReflectliteType.method fun t => do Extern.Rtype.noPackHeld "Comparable" t; pure (.bool (← typeInfo t).comparable)) Tryd.func137 (by kernel_rfl) (by kernel_rfl) (by kernel_rfl) (by kernel_rfl)
  have tT := er.isTypeOf
  have cT := er.isComparable
  have mR := er.isMethodComparable
  have nE := er.noIsE
  have uE := er.noUnwrapE
  have vE := er.noUnwrapsE
  have nW := er.noIsW
  have uW := er.hasUnwrapW
  have mU := er.methodUnwrap
  have heq := run_eql_iface_ptr_other (P := Tryd.prog) w Tryd.underlying41 Tryd.underlying173 hi hcmp hj (by rw [hjs]; decide) hne ha hb
  go_enter Tryd.func67, Tryd.ntmps67
  go_wp2
  refine wp_loop_rounds 1 ?_
  rw [rounds_succ]
  go_wp2
  go_ret
  exact ⟨rfl, rfl⟩

set_option maxRecDepth 100000 in
/-- errors.Is(f, x), f an api.Fault round x itself. -/
theorem is_fault_same (pb po : Nat) (b : Addr) (w : World) (h1 : w.cell? ⟨pb, po + 1, none⟩ = some (.iface 173 (.pointer (some b)))) :
    Calls Tryd.prog 67 #[.iface 83 (.pointer (some ⟨pb, po, none⟩)), .iface 173 (.pointer (some b))] w fun e w' => e = .returned (.bool true) ∧ w' = w := by
  obtain ⟨i, hi, hcmp⟩ := Option.map_eq_some_iff.1 er.isComp
  obtain ⟨j, hj, hjs⟩ := Option.map_eq_some_iff.1 er.isSize
  have h8 := @run_callFunc_extern Tryd.prog 93 _ Extern.ReflectliteType.typeOf Tryd.func93 (by kernel_rfl) (by kernel_rfl) (by kernel_rfl) (by kernel_rfl)
  have h32 := @run_callFunc_extern Tryd.prog 137 _ (Extern.ReflectliteType.method fun t => do Extern.Rtype.noPackHeld "Comparable" t; pure (.bool (← typeInfo t).comparable)) Tryd.func137 (by kernel_rfl) (by kernel_rfl) (by kernel_rfl) (by kernel_rfl)
  have tT := er.isTypeOf
  have cT := er.isComparable
  have mR := er.isMethodComparable
  have nE := er.noIsE
  have uE := er.noUnwrapE
  have vE := er.noUnwrapsE
  have nW := er.noIsW
  have uW := er.hasUnwrapW
  have mU := er.methodUnwrap
  have heq := run_eql_iface_ptr_same (P := Tryd.prog) w b Tryd.underlying41 Tryd.underlying173 hi hcmp hj
  have hty := run_eql_iface_types (P := Tryd.prog) 83 173 (.pointer (some ⟨pb, po, none⟩)) (.pointer (some b)) Tryd.underlying41 (by decide) w
  go_enter Tryd.func67, Tryd.ntmps67
  go_wp2
  refine wp_loop_rounds 2 ?_
  rw [rounds_succ]
  go_wp2
  rw [rounds_succ]
  go_wp2
  go_ret
  exact ⟨rfl, rfl⟩

set_option maxRecDepth 100000 in
/-- errors.Is(f, x), f an api.Fault round another sentinel. -/
theorem is_fault_other (pb po : Nat) (b a : Addr) (ca cb : Array Value) (ta tb : TypeId) (w : World) (h1 : w.cell? ⟨pb, po + 1, none⟩ = some (.iface 173 (.pointer (some a)))) (hne : a ≠ b) (ha : w.heap[a.block]? = some (.cells ca ta (0, 0))) (hb : w.heap[b.block]? = some (.cells cb tb (0, 0))) :
    Calls Tryd.prog 67 #[.iface 83 (.pointer (some ⟨pb, po, none⟩)), .iface 173 (.pointer (some b))] w fun e w' => e = .returned (.bool false) ∧ w' = w := by
  obtain ⟨i, hi, hcmp⟩ := Option.map_eq_some_iff.1 er.isComp
  obtain ⟨j, hj, hjs⟩ := Option.map_eq_some_iff.1 er.isSize
  have h8 := @run_callFunc_extern Tryd.prog 93 _ Extern.ReflectliteType.typeOf Tryd.func93 (by kernel_rfl) (by kernel_rfl) (by kernel_rfl) (by kernel_rfl)
  have h32 := @run_callFunc_extern Tryd.prog 137 _ (Extern.ReflectliteType.method fun t => do Extern.Rtype.noPackHeld "Comparable" t; pure (.bool (← typeInfo t).comparable)) Tryd.func137 (by kernel_rfl) (by kernel_rfl) (by kernel_rfl) (by kernel_rfl)
  have tT := er.isTypeOf
  have cT := er.isComparable
  have mR := er.isMethodComparable
  have nE := er.noIsE
  have uE := er.noUnwrapE
  have vE := er.noUnwrapsE
  have nW := er.noIsW
  have uW := er.hasUnwrapW
  have mU := er.methodUnwrap
  have heq := run_eql_iface_ptr_other (P := Tryd.prog) w Tryd.underlying41 Tryd.underlying173 hi hcmp hj (by rw [hjs]; decide) hne ha hb
  have hty := run_eql_iface_types (P := Tryd.prog) 83 173 (.pointer (some ⟨pb, po, none⟩)) (.pointer (some b)) Tryd.underlying41 (by decide) w
  go_enter Tryd.func67, Tryd.ntmps67
  go_wp2
  refine wp_loop_rounds 2 ?_
  rw [rounds_succ]
  go_wp2
  rw [rounds_succ]
  go_wp2
  go_ret
  exact ⟨rfl, rfl⟩
end Go.Proofs.YtfadnkfceggjaaaDoor
