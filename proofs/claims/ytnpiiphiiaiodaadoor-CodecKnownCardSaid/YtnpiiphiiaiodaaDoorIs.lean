/-
  errors.Is at an error that is a *api.Fault, at a target that is an api.Errno: whether the fault's code is that number; nothing turns. It proves no statement by itself.
-/
import Derived.Test.YtnpiiphiiaiodaaDoorAs
namespace Go.Proofs.YtnpiiphiiaiodaaDoor
open Go.RowKit Go.Extern.Stop Go.Stop Go.Extern

theorem i_typeOf (v : Value) (w : World) : (ReflectliteType.typeOf #[.iface 22 v]).run Tryd.prog w = .ok (.iface 133 (.agg #[.pointer (some ⟨1, 22, none⟩)])) w := by kernel_rfl
theorem i_methodComparable (h : Value) (w : World) : (Go.method 297 133 (.agg #[h]) "Comparable").run Tryd.prog w = .ok (104, .agg #[h]) w := by kernel_rfl
theorem i_comparable (w : World) : ((ReflectliteType.method fun t => do Rtype.noPackHeld "Comparable" t; pure (.bool (← typeInfo t).comparable)) #[.agg #[.pointer (some ⟨1, 22, none⟩)]]).run Tryd.prog w = .ok (.bool true) w := by kernel_rfl
theorem i_methodUnwrap (b o : Nat) (w : World) : (Go.method 297 73 (.pointer (some ⟨b, o, none⟩)) "Unwrap").run Tryd.prog w = .ok (71, .pointer (some ⟨b, o, none⟩)) w := by kernel_rfl
theorem i_noIs1 (v : Value) (xT : TypeId) (w : World) : (Instr.typeAssert (.iface 73 v) xT 145 true).run Tryd.prog w = .ok (.tuple #[.nilIface, .bool false]) w := run_typeAssert_lacksB Tryd.underlying145 (by kernel_rfl) (by kernel_rfl) v xT w
theorem i_noIs2 (v : Value) (xT : TypeId) (w : World) : (Instr.typeAssert (.iface 22 v) xT 145 true).run Tryd.prog w = .ok (.tuple #[.nilIface, .bool false]) w := run_typeAssert_lacksB Tryd.underlying145 (by kernel_rfl) (by kernel_rfl) v xT w
theorem i_un1 (v : Value) (xT : TypeId) (w : World) : (Instr.typeAssert (.iface 73 v) xT 140 true).run Tryd.prog w = .ok (.tuple #[.iface 73 v, .bool true]) w := run_typeAssert_hasB Tryd.underlying140 (by kernel_rfl) v xT w
theorem i_un2 (v : Value) (xT : TypeId) (w : World) : (Instr.typeAssert (.iface 22 v) xT 140 true).run Tryd.prog w = .ok (.tuple #[.nilIface, .bool false]) w := run_typeAssert_lacksB Tryd.underlying140 (by kernel_rfl) (by kernel_rfl) v xT w
theorem i_uns2 (v : Value) (xT : TypeId) (w : World) : (Instr.typeAssert (.iface 22 v) xT 142 true).run Tryd.prog w = .ok (.tuple #[.nilIface, .bool false]) w := run_typeAssert_lacksB Tryd.underlying142 (by kernel_rfl) (by kernel_rfl) v xT w
theorem i_ne (x y : Value) (w : World) : (binOp .eql 29 (.iface 73 x) (.iface 22 y)).run Tryd.prog w = .ok (.bool false) w := run_eql_iface_types _ _ x y Tryd.underlying29 (by decide) w
theorem i_info : ∃ i, Tryd.prog.info? 22 = some i ∧ i.comparable = true := by
  have h : (Tryd.prog.info? 22).map (·.comparable) = some true := by kernel_rfl
  exact Option.map_eq_some_iff.1 h
theorem i_eq (n m : Int) (w : World) : (binOp .eql 29 (.iface 22 (.int .i64 n)) (.iface 22 (.int .i64 m))).run Tryd.prog w = .ok (.bool (n == m)) w := by
  obtain ⟨i, hi, hc⟩ := i_info
  have h : ∀ d : Nat, (Op.equalIn (d + 2) 29 (.iface 22 (.int .i64 n)) (.iface 22 (.int .i64 m))).run Tryd.prog w = .ok (n == m) w := fun d => by
    rw [Op.equalIn]
    simp [run_underlying Tryd.underlying29, typeInfo, hi, hc, Op.equalIn, run_underlying Tryd.underlying22]
  simp only [binOp]
  simp [Op.equal, Op.maxDepth, h 9998]

theorem unwrap_hit (b o : Nat) (n : Int) (w : World) (h : w.cell? ⟨b, o, none⟩ = some (.int .i64 n)) : Calls Tryd.prog 71 #[.pointer (some ⟨b, o, none⟩)] w fun e w' => e = .returned (.iface 22 (.int .i64 n)) ∧ w' = w := by
  go_enter Tryd.func71, Tryd.ntmps71
  go_wp2
  go_ret
  exact ⟨rfl, rfl⟩

set_option maxHeartbeats 4000000 in
theorem is_hit (b o : Nat) (n m : Int) (w : World) (h : w.cell? ⟨b, o, none⟩ = some (.int .i64 n)) : Calls Tryd.prog 48 #[.iface 73 (.pointer (some ⟨b, o, none⟩)), .iface 22 (.int .i64 m), .bool true] w fun e w' => e = .returned (.bool (n == m)) ∧ w' = w := by
  have a1 := i_noIs1
  have a2 := i_noIs2
  have a3 := i_un1
  have a4 := i_un2
  have a5 := i_uns2
  have a6 := i_ne
  have a7 := i_eq
  have a8 := i_methodUnwrap
  cases hnm : (n == m) with
  | true =>
    go_enter Tryd.func48, Tryd.ntmps48
    go_wp2
    refine wp_loop_rounds 2 ?_
    rw [rounds_succ]
    go_wp2_with (go_at_call 71; refine (unwrap_hit b o n _ h).mono ?_; rintro e w' ⟨rfl, rfl⟩)
    rw [rounds_succ]
    go_wp2
    go_ret
    exact ⟨rfl, rfl⟩
  | false =>
    go_enter Tryd.func48, Tryd.ntmps48
    go_wp2
    refine wp_loop_rounds 2 ?_
    rw [rounds_succ]
    go_wp2_with (go_at_call 71; refine (unwrap_hit b o n _ h).mono ?_; rintro e w' ⟨rfl, rfl⟩)
    rw [rounds_succ]
    go_wp2
    go_ret
    exact ⟨rfl, rfl⟩

theorem i_callComparable (w : World) : (callFunc 104 #[.agg #[.pointer (some ⟨1, 22, none⟩)]]).run Tryd.prog w = .ok (.value (.bool true)) w := by
  have h := @run_callFunc_extern Tryd.prog 104 _ (ReflectliteType.method fun t => do Rtype.noPackHeld "Comparable" t; pure (.bool (← typeInfo t).comparable)) Tryd.func104 (by kernel_rfl) (by kernel_rfl) (by kernel_rfl) (by kernel_rfl)
  rw [h]
  have h2 := i_comparable w
  rw [h2]
  rfl

set_option maxHeartbeats 4000000 in
theorem Is_hit (b o : Nat) (n m : Int) (w : World) (h : w.cell? ⟨b, o, none⟩ = some (.int .i64 n)) : Calls Tryd.prog 27 #[.iface 73 (.pointer (some ⟨b, o, none⟩)), .iface 22 (.int .i64 m)] w fun e w' => e = .returned (.bool (n == m)) ∧ w' = w := by
  have h10 := @run_callFunc_extern Tryd.prog 47 _ ReflectliteType.typeOf Tryd.func47 (by kernel_rfl) (by kernel_rfl) (by kernel_rfl) (by kernel_rfl)
  have b1 := i_typeOf
  have b2 := i_methodComparable
  have b3 := i_callComparable
  go_enter Tryd.func27, Tryd.ntmps27
  go_wp2_with (go_at_call 48; refine (is_hit b o n m _ h).mono ?_; rintro e w' ⟨rfl, rfl⟩)
  go_ret
  exact ⟨rfl, rfl⟩
end Go.Proofs.YtnpiiphiiaiodaaDoor
