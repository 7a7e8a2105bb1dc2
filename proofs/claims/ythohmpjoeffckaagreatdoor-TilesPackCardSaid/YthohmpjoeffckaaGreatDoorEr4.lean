/- errors.Is by its contracts, where the target is a sentinel: nil; the same; another; an api.Fault round one. errors.As by its contracts, at a target of an api.Fault: nil; a sentinel (false); a fault (true, the target is set). Turned from the kit's worked example. errors.As at a sentinel: false. plain.Code: nil; a sentinel. coded: nil; a sentinel. plain.Code at a fault. Four error variables. -/
import Derived.Test.YthohmpjoeffckaaGreatDoorProg
import Derived.WalkKit
import Derived.LaidEql
import Derived.Stop.Asserts
import Derived.RowKitTokens
import Derived.KernelRfl
import Derived.Test.YthohmpjoeffckaaGreatDoorMem
import Derived.Test.YthohmpjoeffckaaGreatDoorBase
namespace Go.Proofs.YthohmpjoeffckaaGreatDoor
open Go Go.RowKit Go.Extern.Stop Go.Stop Go.Extern

namespace er
theorem isTypeOf (v : Value) (w : World) : (Extern.ReflectliteType.typeOf #[.iface 230 v]).run Tryz.prog w = .ok (.iface 192 (.agg #[.pointer (some ⟨15, 230, none⟩)])) w := by kernel_rfl
theorem isComparable (w : World) : ((Extern.ReflectliteType.method fun t => do Extern.Rtype.noPackHeld "Comparable" t; (fun a => Value.bool a.comparable) <$> typeInfo t) #[.agg #[.pointer (some ⟨15, 230, none⟩)]]).run Tryz.prog w = .ok (.bool true) w := by kernel_rfl
theorem isMethodComparable (v : Value) (w : World) : (Go.method 361 192 v "Comparable").run Tryz.prog w = .ok (151, v) w := by kernel_rfl
theorem isComp : (Tryz.prog.info? 230).map (·.comparable) = some true := by kernel_rfl
theorem isSize : (Tryz.prog.info? 249).map (·.size) = some 1 := by kernel_rfl
theorem noIsE (v : Value) (xT : TypeId) (w : World) : (Instr.typeAssert (.iface 230 v) xT 203 true).run Tryz.prog w = .ok (.tuple #[.nilIface, .bool false]) w := run_typeAssert_lacksB Tryz.underlying203 (by kernel_rfl) (by kernel_rfl) v xT w
theorem noUnwrapE (v : Value) (xT : TypeId) (w : World) : (Instr.typeAssert (.iface 230 v) xT 199 true).run Tryz.prog w = .ok (.tuple #[.nilIface, .bool false]) w := run_typeAssert_lacksB Tryz.underlying199 (by kernel_rfl) (by kernel_rfl) v xT w
theorem noUnwrapsE (v : Value) (xT : TypeId) (w : World) : (Instr.typeAssert (.iface 230 v) xT 201 true).run Tryz.prog w = .ok (.tuple #[.nilIface, .bool false]) w := run_typeAssert_lacksB Tryz.underlying201 (by kernel_rfl) (by kernel_rfl) v xT w
theorem noIsW (v : Value) (xT : TypeId) (w : World) : (Instr.typeAssert (.iface 91 v) xT 203 true).run Tryz.prog w = .ok (.tuple #[.nilIface, .bool false]) w := run_typeAssert_lacksB Tryz.underlying203 (by kernel_rfl) (by kernel_rfl) v xT w
theorem hasUnwrapW (v : Value) (xT : TypeId) (w : World) : (Instr.typeAssert (.iface 91 v) xT 199 true).run Tryz.prog w = .ok (.tuple #[.iface 91 v, .bool true]) w := run_typeAssert_hasB Tryz.underlying199 (by kernel_rfl) v xT w
theorem methodUnwrap (v : Value) (w : World) : (Go.method 361 91 v "Unwrap").run Tryz.prog w = .ok (145, v) w := by kernel_rfl
end er

set_option maxRecDepth 100000 in
/-- errors.Is(x, x). -/
theorem is_same (a : Addr) (w : World) :
    Calls Tryz.prog 44 #[.iface 230 (.pointer (some a)), .iface 230 (.pointer (some a))] w fun e w' => e = .returned (.bool true) ∧ w' = w := by
  obtain ⟨i, hi, hcmp⟩ := Option.map_eq_some_iff.1 er.isComp
  obtain ⟨j, hj, hjs⟩ := Option.map_eq_some_iff.1 er.isSize
  have h8 := @run_callFunc_extern Tryz.prog 78 _ Extern.ReflectliteType.typeOf Tryz.func78 (by kernel_rfl) (by kernel_rfl) (by kernel_rfl) (by kernel_rfl)
  have h32 := @run_callFunc_extern Tryz.prog 151 _ (Extern.ReflectliteType.method fun t => do Extern.Rtype.noPackHeld "Comparable" t; pure (.bool (← typeInfo t).comparable)) Tryz.func151 (by kernel_rfl) (by kernel_rfl) (by kernel_rfl) (by kernel_rfl)
  have tT := er.isTypeOf
  have cT := er.isComparable
  have mR := er.isMethodComparable
  have heq := run_eql_iface_ptr_same (P := Tryz.prog) w a Tryz.underlying29 Tryz.underlying230 hi hcmp hj
  go_enter Tryz.func44, Tryz.ntmps44
  go_wp2
  refine wp_loop_rounds 1 ?_
  rw [rounds_succ]
  go_wp2
  go_ret
  exact ⟨rfl, rfl⟩
set_option maxRecDepth 100000 in
/-- errors.Is(x, y), two different sentinels. -/
theorem is_other (a b : Addr) (ca cb : Array Value) (ta tb : TypeId) (w : World) (hne : a ≠ b) (ha : w.heap[a.block]? = some (.cells ca ta (0, 0))) (hb : w.heap[b.block]? = some (.cells cb tb (0, 0))) :
    Calls Tryz.prog 44 #[.iface 230 (.pointer (some a)), .iface 230 (.pointer (some b))] w fun e w' => e = .returned (.bool false) ∧ w' = w := by
  obtain ⟨i, hi, hcmp⟩ := Option.map_eq_some_iff.1 er.isComp
  obtain ⟨j, hj, hjs⟩ := Option.map_eq_some_iff.1 er.isSize
  have h8 := @run_callFunc_extern Tryz.prog 78 _ Extern.ReflectliteType.typeOf Tryz.func78 (by kernel_rfl) (by kernel_rfl) (by kernel_rfl) (by kernel_rfl)
  have h32 := @run_callFunc_extern Tryz.prog 151 _ (Extern.ReflectliteType.method fun t => do Extern.Rtype.noPackHeld "Comparable" t; pure (.bool (← typeInfo t).comparable)) Tryz.func151 (by kernel_rfl) (by kernel_rfl) (by kernel_rfl) (by kernel_rfl)
  have tT := er.isTypeOf
  have cT := er.isComparable
  have mR := er.isMethodComparable
  have nE := er.noIsE
  have uE := er.noUnwrapE
  have vE := er.noUnwrapsE
  have nW := er.noIsW
  have uW := er.hasUnwrapW
  have mU := er.methodUnwrap
  have heq := run_eql_iface_ptr_other (P := Tryz.prog) w Tryz.underlying29 Tryz.underlying230 hi hcmp hj (by rw [hjs]; decide) hne ha hb
  go_enter Tryz.func44, Tryz.ntmps44
  go_wp2
  refine wp_loop_rounds 1 ?_
  rw [rounds_succ]
  go_wp2
  go_ret
  exact ⟨rfl, rfl⟩


end Go.Proofs.YthohmpjoeffckaaGreatDoor
namespace Go.Proofs.YthohmpjoeffckaaGreatDoor
open Go Go.RowKit Go.Extern.Stop Go.Stop Go.Extern


/-! ### closed facts on reflectlite's entries -/
theorem ea.valueOf27 (t : Addr) (w : World) : (ReflectliteValue.unpack (.iface 93 (.pointer (some t)))).run Tryz.prog w
    = .ok (.agg #[.pointer (some ⟨15, 93, none⟩), .pointer (some ⟨w.heap.size, 0, none⟩), .int .u64 150]) (w.alloc (.cells #[.pointer (some t)] 93)) := by kernel_rfl
theorem ea.type27 (a : Addr) (w : World) : (ReflectliteValue.methodAny (ReflectliteValue.valueError "reflectlite.Value.Type" 0) (fun t _ _ _ => ReflectliteType.toType t) #[.agg #[.pointer (some ⟨15, 93, none⟩), .pointer (some a), .int .u64 150]]).run Tryz.prog w
    = .ok (.iface 192 (.agg #[.pointer (some ⟨15, 93, none⟩)])) w := by kernel_rfl
theorem ea.methodKind (h : Value) (w : World) : (Go.method 361 192 (.agg #[h]) "Kind").run Tryz.prog w = .ok (139, h) w := by kernel_rfl
theorem ea.kind27 (w : World) : ((ReflectliteType.abiMethod fun t => (fun a : Nat => Value.int IntKind.u8 (a : Int)) <$> Rtype.kind t) #[.pointer (some ⟨15, 93, none⟩)]).run Tryz.prog w = .ok (.int .u8 22) w := by kernel_rfl
theorem ea.kind25 (w : World) : ((ReflectliteType.abiMethod fun t => (fun a : Nat => Value.int IntKind.u8 (a : Int)) <$> Rtype.kind t) #[.pointer (some ⟨15, 91, none⟩)]).run Tryz.prog w = .ok (.int .u8 22) w := by kernel_rfl


theorem rlm (z : Sem Value) (f : TypeId → Addr → Nat → Nat → Sem Value) (v : Value) :
    ReflectliteValue.method z f #[v] = (do match ← ReflectliteValue.parts v with | none => z | some (t, a, fl) => f t a fl (fl % 32)) := rfl
theorem ea.parts27 (a : Addr) (w : World) : (ReflectliteValue.parts (.agg #[.pointer (some ⟨15, 93, none⟩), .pointer (some a), .int .u64 150])).run Tryz.prog w = .ok (some (93, a, 150)) w := by kernel_rfl
/-- (Value).IsNil at the Value of a **p.E that is not nil. -/
theorem ea.isNil27 (a p : Addr) (W : World) (ha : W.cell? a = some (.pointer (some p))) :
    (ReflectliteValue.method (ReflectliteValue.valueError "reflectlite.Value.IsNil" 0) ReflectliteValue.isNil #[.agg #[.pointer (some ⟨15, 93, none⟩), .pointer (some a), .int .u64 150]]).run Tryz.prog W = .ok (.bool false) W := by
  rw [rlm]
  simp only [Sem.run_bind, ea.parts27, Result.andThen]
  simp [ReflectliteValue.isNil, loadVar, isAgg, underlying, Tryz.underlying93, ha, Result.andThen]

theorem ea.methodElem (h : Value) (w : World) : (Go.method 361 192 (.agg #[h]) "Elem").run Tryz.prog w = .ok (152, .agg #[h]) w := by kernel_rfl
theorem ea.methodImplements (h : Value) (w : World) : (Go.method 361 192 (.agg #[h]) "Implements").run Tryz.prog w = .ok (153, .agg #[h]) w := by kernel_rfl
theorem ea.methodAssignableTo (h : Value) (w : World) : (Go.method 361 192 (.agg #[h]) "AssignableTo").run Tryz.prog w = .ok (150, .agg #[h]) w := by kernel_rfl
theorem ea.elem27 (w : World) : (ReflectliteType.method ReflectliteType.elem #[.agg #[.pointer (some ⟨15, 93, none⟩)]]).run Tryz.prog w = .ok (.iface 192 (.agg #[.pointer (some ⟨15, 91, none⟩)])) w := by kernel_rfl
theorem ea.implements25 (w : World) : (ReflectliteType.relation "Implements" ReflectliteType.implements_ #[.agg #[.pointer (some ⟨15, 91, none⟩)], .iface 192 (.agg #[.pointer (some ⟨15, 29, none⟩)])]).run Tryz.prog w = .ok (.bool true) w := by kernel_rfl


end Go.Proofs.YthohmpjoeffckaaGreatDoor
namespace Go.Proofs.YthohmpjoeffckaaGreatDoor
open Go Go.RowKit Go.Extern.Stop Go.Stop Go.Extern

theorem ea.assignableE (w : World) : (ReflectliteType.relation "AssignableTo" ReflectliteType.assignableTo #[.agg #[.pointer (some ⟨15, 230, none⟩)], .iface 192 (.agg #[.pointer (some ⟨15, 91, none⟩)])]).run Tryz.prog w = .ok (.bool false) w := by kernel_rfl
theorem ea.noAsE (v : Value) (xT : TypeId) (w : World) : (Instr.typeAssert (.iface 230 v) xT 196 true).run Tryz.prog w = .ok (.tuple #[.nilIface, .bool false]) w := run_typeAssert_lacksB Tryz.underlying196 (by kernel_rfl) (by kernel_rfl) v xT w

set_option maxRecDepth 100000 in
set_option maxHeartbeats 4000000 in
theorem as_miss (a t : Addr) (old : Value) (w : World) (hg : w.cell? ⟨10, 0, none⟩ = some (.iface 192 (.agg #[.pointer (some ⟨15, 29, none⟩)]))) (_ht0 : w.cell? t = some old) :
    Calls Tryz.prog 43 #[.iface 230 (.pointer (some a)), .iface 93 (.pointer (some t))] w fun ev w' => ev = .returned (.bool false) ∧ w' = ((w.alloc (.cells #[.pointer (some t)] 93)).alloc (.cells #[.pointer (some ⟨15, 93, none⟩), .pointer (some ⟨w.heap.size, 0, none⟩), .int .u64 150] 145)).alloc (.cells #[.pointer (some ⟨15, 93, none⟩), .pointer (some ⟨w.heap.size, 0, none⟩), .int .u64 150] 145) := by
  have h6 := @run_callFunc_extern Tryz.prog 74 _ (fun args => ReflectliteValue.unpack (args.getD 0 (.tuple #[]))) Tryz.func74 (by kernel_rfl) (by kernel_rfl) (by kernel_rfl) (by kernel_rfl)
  have h7 := @run_callFunc_extern Tryz.prog 75 _ (ReflectliteValue.methodAny (ReflectliteValue.valueError "reflectlite.Value.Type" 0) (fun t _ _ _ => ReflectliteType.toType t)) Tryz.func75 (by kernel_rfl) (by kernel_rfl) (by kernel_rfl) (by kernel_rfl)
  have h8 := @run_callFunc_extern Tryz.prog 76 _ (ReflectliteValue.method (ReflectliteValue.valueError "reflectlite.Value.IsNil" 0) ReflectliteValue.isNil) Tryz.func76 (by kernel_rfl) (by kernel_rfl) (by kernel_rfl) (by kernel_rfl)
  have h27 := @run_callFunc_extern Tryz.prog 139 _ (ReflectliteType.abiMethod fun t => do pure (.int .u8 (← Rtype.kind t))) Tryz.func139 (by kernel_rfl) (by kernel_rfl) (by kernel_rfl) (by kernel_rfl)
  have h37 := @run_callFunc_extern Tryz.prog 152 _ (ReflectliteType.method ReflectliteType.elem) Tryz.func152 (by kernel_rfl) (by kernel_rfl) (by kernel_rfl) (by kernel_rfl)
  have h38 := @run_callFunc_extern Tryz.prog 153 _ (ReflectliteType.relation "Implements" ReflectliteType.implements_) Tryz.func153 (by kernel_rfl) (by kernel_rfl) (by kernel_rfl) (by kernel_rfl)
  have h10 := @run_callFunc_extern Tryz.prog 78 _ ReflectliteType.typeOf Tryz.func78 (by kernel_rfl) (by kernel_rfl) (by kernel_rfl) (by kernel_rfl)
  have h35 := @run_callFunc_extern Tryz.prog 150 _ (ReflectliteType.relation "AssignableTo" ReflectliteType.assignableTo) Tryz.func150 (by kernel_rfl) (by kernel_rfl) (by kernel_rfl) (by kernel_rfl)
  have tO := er.isTypeOf
  have mA := ea.methodAssignableTo
  have aE := ea.assignableE
  have nA := ea.noAsE
  have uE := er.noUnwrapE
  have vE := er.noUnwrapsE
  have f6 := ea.valueOf27
  have f7 := ea.type27
  have mK := ea.methodKind
  have mE := ea.methodElem
  have mI := ea.methodImplements
  have k27 := ea.kind27
  have k25 := ea.kind25
  have e27 := ea.elem27
  have i25 := ea.implements25
  have n8 := ea.isNil27 ⟨w.heap.size, 0, none⟩ t ((w.alloc (.cells #[.pointer (some t)] 93)).alloc (.cells #[.pointer (some ⟨15, 93, none⟩), .pointer (some ⟨w.heap.size, 0, none⟩), .int .u64 150] 145)) (by simp)
  have hlt : 10 < w.heap.size := World.block_lt_of_cell? w _ hg
  have hg2 : ((w.alloc (.cells #[.pointer (some t)] 93)).alloc (.cells #[.pointer (some ⟨15, 93, none⟩), .pointer (some ⟨w.heap.size, 0, none⟩), .int .u64 150] 145)).cell? ⟨10, 0, none⟩ = some (.iface 192 (.agg #[.pointer (some ⟨15, 29, none⟩)])) := by
    rw [World.cell?_alloc_lt _ _ ⟨10, 0, none⟩ (by simp; omega), World.cell?_alloc_lt _ _ ⟨10, 0, none⟩ hlt]; exact hg
  go_enter Tryz.func43, Tryz.ntmps43
  go_wp2
  refine wp_loop_rounds 1 ?_
  rw [rounds_succ]
  go_wp2
  go_ret
  exact ⟨rfl, rfl⟩
end Go.Proofs.YthohmpjoeffckaaGreatDoor
namespace Go.Proofs.YthohmpjoeffckaaGreatDoor
open Go Go.RowKit

/-- The error variables: each holds a pointer to a block of its own; no two the same. -/
structure ErrsAt (w : World) (E : Nat → Addr) : Prop where
  typ : w.cell? ⟨10, 0, none⟩ = some (.iface 192 (.agg #[.pointer (some ⟨15, 29, none⟩)]))
  text : w.cell? ⟨2, 0, none⟩ = some (.iface 230 (.pointer (some (E 0))))
  bound : w.cell? ⟨1, 0, none⟩ = some (.iface 230 (.pointer (some (E 1))))
  shape : w.cell? ⟨0, 0, none⟩ = some (.iface 230 (.pointer (some (E 2))))
  sum : w.cell? ⟨3, 0, none⟩ = some (.iface 230 (.pointer (some (E 3))))
  name : w.cell? ⟨4, 0, none⟩ = some (.iface 230 (.pointer (some (E 4))))
  none_ : w.cell? ⟨5, 0, none⟩ = some (.iface 230 (.pointer (some (E 5))))
  colors : w.cell? ⟨6, 0, none⟩ = some (.iface 230 (.pointer (some (E 6))))
  full : w.cell? ⟨7, 0, none⟩ = some (.iface 230 (.pointer (some (E 7))))
  power : w.cell? ⟨8, 0, none⟩ = some (.iface 230 (.pointer (some (E 8))))
  blk : ∀ i, i < 9 → ∃ c t, w.heap[(E i).block]? = some (.cells c t (0, 0))
  ne : ∀ i j, i < 9 → j < 9 → i ≠ j → E i ≠ E j
theorem ErrsAt.below {w w' : World} {E : Nat → Addr} (h : ErrsAt w E) (hb : Below w.heap.size w w') : ErrsAt w' E :=
  ⟨bcell_ hb (cell_lt h.typ) h.typ, bcell_ hb (cell_lt h.text) h.text, bcell_ hb (cell_lt h.bound) h.bound, bcell_ hb (cell_lt h.shape) h.shape, bcell_ hb (cell_lt h.sum) h.sum, bcell_ hb (cell_lt h.name) h.name,
    bcell_ hb (cell_lt h.none_) h.none_, bcell_ hb (cell_lt h.colors) h.colors, bcell_ hb (cell_lt h.full) h.full, bcell_ hb (cell_lt h.power) h.power,
    fun i hi => by
      obtain ⟨c, t, e⟩ := h.blk i hi
      exact ⟨c, t, by rw [hb.block _ (Array.getElem?_eq_some_iff.1 e).1]; exact e⟩, h.ne⟩

theorem code_nil (w : World) : Calls Tryz.prog 29 #[.nilIface] w fun e w' => e = .returned (.tuple #[.int .i64 0, .int .i64 (-1)]) ∧ w' = w := by
  go_enter Tryz.func29, Tryz.ntmps29
  go_wp2
  go_ret2
  exact ⟨rfl, rfl⟩

def errV (a : Addr) : Value := .iface 230 (.pointer (some a))
/-- The relation of Code's loop. -/
structure CoR (w : World) (E : Nat → Addr) (i g : Nat) (at_ : Int) (a v : Value) (wr : World) (k : Nat) : Prop where
  hk : k ≤ i
  ha : a = .int .i64 at_
  hv : v = .int .i64 k
  list : Blk wr g 29 #[errV (E 0), errV (E 1), errV (E 2), errV (E 3), errV (E 4), errV (E 5), errV (E 6), errV (E 7), errV (E 8)]
  bel : Below w.heap.size w wr

set_option maxRecDepth 100000 in
set_option maxHeartbeats 1000000 in
theorem code_sent (E : Nat → Addr) (i : Nat) (hi9 : i < 9) (w : World) (hE : ErrsAt w E) :
    Calls Tryz.prog 29 #[.iface 230 (.pointer (some (E i)))] w fun e w' => e = .returned (.tuple #[.int .i64 (i + 1 : Nat), .int .i64 (-1)]) ∧ Below w.heap.size w w' := by
  go_enter Tryz.func29, Tryz.ntmps29
  go_wp2_with fail
  have lt := cell_lt hE.typ
  refine (as_miss (E i) ⟨w.heap.size, 0, none⟩ (.pointer none) _ (cell_past _ hE.typ) (cell_made _ _ _ rfl rfl)).mono ?_
  rintro e w1 ⟨rfl, hw1⟩
  have hb1 : Below w.heap.size w w1 := by rw [hw1]; go_grown
  clear hw1
  have hE1 := hE.below hb1
  have d0 := hE1.text
  have d1 := hE1.bound
  have d2 := hE1.shape
  have d3 := hE1.sum
  have d4 := hE1.name
  have d5 := hE1.none_
  have d6 := hE1.colors
  have d7 := hE1.full
  have d8 := hE1.power
  go_wp2_with fail
  go_loopw [3, 27] (fun a v wr => ∃ k, CoR w E i w1.heap.size (-1) a v wr k) (fun _ v _ => 9 - (intOf v).toNat)
  case atStart => exact ⟨0, Nat.zero_le _, rfl, rfl, Blk.new _ _ _ rfl, Below.alloc hb1 hb1.size _⟩
  case round =>
    obtain ⟨k, hk, rfl, rfl, hlist, hb⟩ := hrel
    obtain ⟨wo, rfl⟩ : ∃ wo : World, wo = wr := ⟨_, rfl⟩
    have hEo := hE.below hb
    have dk : wo.cell? ⟨w1.heap.size, k, none⟩ = some (.iface 230 (.pointer (some (E k)))) := by
      rw [hlist.cell]
      have hk9 : k < 9 := by omega
      match k, hk9 with
      | 0, _ => rfl
      | 1, _ => rfl
      | 2, _ => rfl
      | 3, _ => rfl
      | 4, _ => rfl
      | 5, _ => rfl
      | 6, _ => rfl
      | 7, _ => rfl
      | 8, _ => rfl
    by_cases hki : k = i
    · subst hki
      go_wp2_with fail
      refine (is_same (E k) wo).mono ?_
      rintro e w3 ⟨rfl, rfl⟩
      go_wp2_with fail
      go_ret2
      exact ⟨rfl, hb⟩
    · obtain ⟨ci, ti, hbi⟩ := hEo.blk i hi9
      obtain ⟨ck, tk, hbk⟩ := hEo.blk k (by omega)
      have hne := hEo.ne i k hi9 (by omega) (fun e => hki e.symm)
      go_wp2_with fail
      refine (is_other (E i) (E k) ci ck ti tk wo hne hbi hbk).mono ?_
      rintro e w3 ⟨rfl, rfl⟩
      go_wp2_with fail
      go_roundw
      case rel => exact ⟨k + 1, by omega, rfl, by go_num, hlist, hb⟩
      case measure => simp [intOf]; omega
end Go.Proofs.YthohmpjoeffckaaGreatDoor
namespace Go.Proofs.YthohmpjoeffckaaGreatDoor
open Go Go.RowKit

structure Er4 (w : World) (E : Nat → Addr) : Prop where
  text : w.cell? ⟨2, 0, none⟩ = some (.iface 230 (.pointer (some (E 0))))
  bound : w.cell? ⟨1, 0, none⟩ = some (.iface 230 (.pointer (some (E 1))))
  shape : w.cell? ⟨0, 0, none⟩ = some (.iface 230 (.pointer (some (E 2))))
  colors : w.cell? ⟨6, 0, none⟩ = some (.iface 230 (.pointer (some (E 6))))
/-- One error variable. -/
structure ErS (w : World) (E : Nat → Addr) : Prop where
  shape : w.cell? ⟨0, 0, none⟩ = some (.iface 230 (.pointer (some (E 2))))
theorem ErS.below {w w' : World} {E : Nat → Addr} (h : ErS w E) (hb : Below w.heap.size w w') : ErS w' E := ⟨bcell_ hb (cell_lt h.shape) h.shape⟩
theorem Er4.ers {w : World} {E : Nat → Addr} (h : Er4 w E) : ErS w E := ⟨h.shape⟩
theorem ErrsAt.er4 {w : World} {E : Nat → Addr} (h : ErrsAt w E) : Er4 w E := ⟨h.text, h.bound, h.shape, h.colors⟩
theorem Er4.below {w w' : World} {E : Nat → Addr} (h : Er4 w E) (hb : Below w.heap.size w w') : Er4 w' E :=
  ⟨bcell_ hb (cell_lt h.text) h.text, bcell_ hb (cell_lt h.bound) h.bound, bcell_ hb (cell_lt h.shape) h.shape, bcell_ hb (cell_lt h.colors) h.colors⟩
end Go.Proofs.YthohmpjoeffckaaGreatDoor
