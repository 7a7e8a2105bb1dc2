/- errors.Is by its contracts, where the target is a sentinel: nil; the same; another; an api.Fault round one. -/
import Derived.Test.YtmknacnmdlcieaaGreatDoorProg
import Derived.WalkKit
import Derived.LaidEql
import Derived.Stop.Asserts
import Derived.RowKitTokens
import Derived.KernelRfl
namespace Go.Proofs.YtmknacnmdlcieaaGreatDoor
open Go Go.RowKit Go.Extern.Stop Go.Stop Go.Extern

namespace er
theorem isTypeOf (v : Value) (w : World) : (Extern.ReflectliteType.typeOf #[.iface 143 v]).run Tryz.prog w = .ok (.iface 129 (.agg #[.pointer (some ⟨10, 143, none⟩)])) w := by kernel_rfl
theorem isComparable (w : World) : ((Extern.ReflectliteType.method fun t => do Extern.Rtype.noPackHeld "Comparable" t; (fun a => Value.bool a.comparable) <$> typeInfo t) #[.agg #[.pointer (some ⟨10, 143, none⟩)]]).run Tryz.prog w = .ok (.bool true) w := by kernel_rfl
theorem isMethodComparable (v : Value) (w : World) : (Go.method 277 129 v "Comparable").run Tryz.prog w = .ok (117, v) w := by kernel_rfl
theorem isComp : (Tryz.prog.info? 143).map (·.comparable) = some true := by kernel_rfl
theorem isSize : (Tryz.prog.info? 165).map (·.size) = some 1 := by kernel_rfl
theorem noIsE (v : Value) (xT : TypeId) (w : World) : (Instr.typeAssert (.iface 143 v) xT 140 true).run Tryz.prog w = .ok (.tuple #[.nilIface, .bool false]) w := run_typeAssert_lacksB Tryz.underlying140 (by kernel_rfl) (by kernel_rfl) v xT w
theorem noUnwrapE (v : Value) (xT : TypeId) (w : World) : (Instr.typeAssert (.iface 143 v) xT 136 true).run Tryz.prog w = .ok (.tuple #[.nilIface, .bool false]) w := run_typeAssert_lacksB Tryz.underlying136 (by kernel_rfl) (by kernel_rfl) v xT w
theorem noUnwrapsE (v : Value) (xT : TypeId) (w : World) : (Instr.typeAssert (.iface 143 v) xT 138 true).run Tryz.prog w = .ok (.tuple #[.nilIface, .bool false]) w := run_typeAssert_lacksB Tryz.underlying138 (by kernel_rfl) (by kernel_rfl) v xT w
theorem noIsW (v : Value) (xT : TypeId) (w : World) : (Instr.typeAssert (.iface 78 v) xT 140 true).run Tryz.prog w = .ok (.tuple #[.nilIface, .bool false]) w := run_typeAssert_lacksB Tryz.underlying140 (by kernel_rfl) (by kernel_rfl) v xT w
theorem hasUnwrapW (v : Value) (xT : TypeId) (w : World) : (Instr.typeAssert (.iface 78 v) xT 136 true).run Tryz.prog w = .ok (.tuple #[.iface 78 v, .bool true]) w := run_typeAssert_hasB Tryz.underlying136 (by kernel_rfl) v xT w
theorem methodUnwrap (v : Value) (w : World) : (Go.method 277 78 v "Unwrap").run Tryz.prog w = .ok (111, v) w := by kernel_rfl
end er

set_option maxRecDepth 100000 in
/-- errors.Is(x, x). -/
theorem is_same (a : Addr) (w : World) :
    Calls Tryz.prog 67 #[.iface 143 (.pointer (some a)), .iface 143 (.pointer (some a))] w fun e w' => e = .returned (.bool true) ∧ w' = w := by
  obtain ⟨i, hi, hcmp⟩ := Option.map_eq_some_iff.1 er.isComp
  obtain ⟨j, hj, hjs⟩ := Option.map_eq_some_iff.1 er.isSize
  have h8 := @run_callFunc_extern Tryz.prog 81 _ Extern.ReflectliteType.typeOf Tryz.func81 (by kernel_rfl) (by kernel_rfl) (by kernel_rfl) (by kernel_rfl)
  have h32 := @run_callFunc_extern Tryz.prog 117 _ (Extern.ReflectliteType.method fun t => do Extern.Rtype.noPackHeld "Comparable" t; pure (.bool (← typeInfo t).comparable)) Tryz.func117 (by kernel_rfl) (by kernel_rfl) (by kernel_rfl) (by kernel_rfl)
  have tT := er.isTypeOf
  have cT := er.isComparable
  have mR := er.isMethodComparable
  have heq := run_eql_iface_ptr_same (P := Tryz.prog) w a Tryz.underlying41 Tryz.underlying143 hi hcmp hj
  go_enter Tryz.func67, Tryz.ntmps67
  go_wp2
  refine wp_loop_rounds 1 ?_
  rw [rounds_succ]
  go_wp2
  go_ret
  exact ⟨rfl, rfl⟩
set_option maxRecDepth 100000 in
/-- errors.Is(x, y), two different sentinels. -/
theorem is_other (a b : Addr) (ca cb : Array Value) (ta tb : TypeId) (w : World) (hne : a ≠ b) (ha : w.heap[a.block]? = some (.cells ca ta (0, 0))) (hb : w.heap[b.block]? = some (.cells cb tb (0, 0))) :
    Calls Tryz.prog 67 #[.iface 143 (.pointer (some a)), .iface 143 (.pointer (some b))] w fun e w' => e = .returned (.bool false) ∧ w' = w := by
  obtain ⟨i, hi, hcmp⟩ := Option.map_eq_some_iff.1 er.isComp
  obtain ⟨j, hj, hjs⟩ := Option.map_eq_some_iff.1 er.isSize
  have h8 := @run_callFunc_extern Tryz.prog 81 _ Extern.ReflectliteType.typeOf Tryz.func81 (by kernel_rfl) (by kernel_rfl) (by kernel_rfl) (by kernel_rfl)
  have h32 := @run_callFunc_extern Tryz.prog 117 _ (Extern.ReflectliteType.method fun t => do Extern.Rtype.noPackHeld "Comparable" t; pure (.bool (← typeInfo t).comparable)) Tryz.func117 (by kernel_rfl) (by kernel_rfl) (by kernel_rfl) (by kernel_rfl)
  have tT := er.isTypeOf
  have cT := er.isComparable
  have mR := er.isMethodComparable
  have nE := er.noIsE
  have uE := er.noUnwrapE
  have vE := er.noUnwrapsE
  have nW := er.noIsW
  have uW := er.hasUnwrapW
  have mU := er.methodUnwrap
  have heq := run_eql_iface_ptr_other (P := Tryz.prog) w Tryz.underlying41 Tryz.underlying143 hi hcmp hj (by rw [hjs]; decide) hne ha hb
  go_enter Tryz.func67, Tryz.ntmps67
  go_wp2
  refine wp_loop_rounds 1 ?_
  rw [rounds_succ]
  go_wp2
  go_ret
  exact ⟨rfl, rfl⟩

set_option maxRecDepth 100000 in
/-- errors.Is(f, x), f an api.Fault round x itself. -/
theorem is_fault_same (pb po : Nat) (b : Addr) (w : World) (h1 : w.cell? ⟨pb, po + 1, none⟩ = some (.iface 143 (.pointer (some b)))) :
    Calls Tryz.prog 67 #[.iface 78 (.pointer (some ⟨pb, po, none⟩)), .iface 143 (.pointer (some b))] w fun e w' => e = .returned (.bool true) ∧ w' = w := by
  obtain ⟨i, hi, hcmp⟩ := Option.map_eq_some_iff.1 er.isComp
  obtain ⟨j, hj, hjs⟩ := Option.map_eq_some_iff.1 er.isSize
  have h8 := @run_callFunc_extern Tryz.prog 81 _ Extern.ReflectliteType.typeOf Tryz.func81 (by kernel_rfl) (by kernel_rfl) (by kernel_rfl) (by kernel_rfl)
  have h32 := @run_callFunc_extern Tryz.prog 117 _ (Extern.ReflectliteType.method fun t => do Extern.Rtype.noPackHeld "Comparable" t; pure (.bool (← typeInfo t).comparable)) Tryz.func117 (by kernel_rfl) (by kernel_rfl) (by kernel_rfl) (by kernel_rfl)
  have tT := er.isTypeOf
  have cT := er.isComparable
  have mR := er.isMethodComparable
  have nE := er.noIsE
  have uE := er.noUnwrapE
  have vE := er.noUnwrapsE
  have nW := er.noIsW
  have uW := er.hasUnwrapW
  have mU := er.methodUnwrap
  have heq := run_eql_iface_ptr_same (P := Tryz.prog) w b Tryz.underlying41 Tryz.underlying143 hi hcmp hj
  have hty := run_eql_iface_types (P := Tryz.prog) 78 143 (.pointer (some ⟨pb, po, none⟩)) (.pointer (some b)) Tryz.underlying41 (by decide) w
  go_enter Tryz.func67, Tryz.ntmps67
  go_wp2
  refine wp_loop_rounds 2 ?_
  rw [rounds_succ]
  go_wp2
  rw [rounds_succ]
  go_wp2
  go_ret
  exact ⟨rfl, rfl⟩

set_option maxRecDepth 100000 in
/-- errors.Is(f, x), f an api.Fault round another sentinel. -/
theorem is_fault_other (pb po : Nat) (b a : Addr) (ca cb : Array Value) (ta tb : TypeId) (w : World) (h1 : w.cell? ⟨pb, po + 1, none⟩ = some (.iface 143 (.pointer (some a)))) (hne : a ≠ b) (ha : w.heap[a.block]? = some (.cells ca ta (0, 0))) (hb : w.heap[b.block]? = some (.cells cb tb (0, 0))) :
    Calls Tryz.prog 67 #[.iface 78 (.pointer (some ⟨pb, po, none⟩)), .iface 143 (.pointer (some b))] w fun e w' => e = .returned (.bool false) ∧ w' = w := by
  obtain ⟨i, hi, hcmp⟩ := Option.map_eq_some_iff.1 er.isComp
  obtain ⟨j, hj, hjs⟩ := Option.map_eq_some_iff.1 er.isSize
  have h8 := @run_callFunc_extern Tryz.prog 81 _ Extern.ReflectliteType.typeOf Tryz.func81 (by kernel_rfl) (by kernel_rfl) (by kernel_rfl) (by kernel_rfl)
  have h32 := @run_callFunc_extern Tryz.prog 117 _ (Extern.ReflectliteType.method fun t => do Extern.Rtype.noPackHeld "Comparable" t; pure (.bool (← typeInfo t).comparable)) Tryz.func117 (by kernel_rfl) (by kernel_rfl) (by kernel_rfl) (by kernel_rfl)
  have tT := er.isTypeOf
  have cT := er.isComparable
  have mR := er.isMethodComparable
  have nE := er.noIsE
  have uE := er.noUnwrapE
  have vE := er.noUnwrapsE
  have nW := er.noIsW
  have uW := er.hasUnwrapW
  have mU := er.methodUnwrap
  have heq := run_eql_iface_ptr_other (P := Tryz.prog) w Tryz.underlying41 Tryz.underlying143 hi hcmp hj (by rw [hjs]; decide) hne ha hb
  have hty := run_eql_iface_types (P := Tryz.prog) 78 143 (.pointer (some ⟨pb, po, none⟩)) (.pointer (some b)) Tryz.underlying41 (by decide) w
  go_enter Tryz.func67, Tryz.ntmps67
  go_wp2
  refine wp_loop_rounds 2 ?_
  rw [rounds_succ]
  go_wp2
  rw [rounds_succ]
  go_wp2
  go_ret
  exact ⟨rfl, rfl⟩
end Go.Proofs.YtmknacnmdlcieaaGreatDoor
