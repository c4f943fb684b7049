/-
  errors.Is at an error that is a *api.Fault, at a target that is an api.Errno: whether the fault's code is that number; nothing turns. It proves no statement by itself.
-/
import Derived.Test.YtcnbecdpfildnaaDoorAs
namespace Go.Proofs.YtcnbecdpfildnaaDoor
open Go.RowKit Go.Extern.Stop Go.Stop Go.Extern

theorem i_typeOf (v : Value) (w : World) : (ReflectliteType.typeOf #[.iface 46 v]).run Tryd.prog w = .ok (.iface 110 (.agg #[.pointer (some ⟨1, 46, none⟩)])) w := by kernel_rfl
theorem i_methodComparable (h : Value) (w : World) : (Go.method 252 110 (.agg #[h]) "Comparable").run Tryd.prog w = .ok (75, .agg #[h]) w := by kernel_rfl
theorem i_comparable (w : World) : ((ReflectliteType.method fun t => do Rtype.noPackHeld "Comparable" t; pure (.bool (← typeInfo t).comparable)) #[.agg #[.pointer (some ⟨1, 46, none⟩)]]).run Tryd.prog w = .ok (.bool true) w := by kernel_rfl
theorem i_methodUnwrap (b o : Nat) (w : World) : (Go.method 252 88 (.pointer (some ⟨b, o, none⟩)) "Unwrap").run Tryd.prog w = .ok (69, .pointer (some ⟨b, o, none⟩)) w := by kernel_rfl
theorem i_noIs1 (v : Value) (xT : TypeId) (w : World) : (Instr.typeAssert (.iface 88 v) xT 121 true).run Tryd.prog w = .ok (.tuple #[.nilIface, .bool false]) w := run_typeAssert_lacksB Tryd.underlying121 (by kernel_rfl) (by kernel_rfl) v xT w
theorem i_noIs2 (v : Value) (xT : TypeId) (w : World) : (Instr.typeAssert (.iface 46 v) xT 121 true).run Tryd.prog w = .ok (.tuple #[.nilIface, .bool false]) w := run_typeAssert_lacksB Tryd.underlying121 (by kernel_rfl) (by kernel_rfl) v xT w
theorem i_un1 (v : Value) (xT : TypeId) (w : World) : (Instr.typeAssert (.iface 88 v) xT 117 true).run Tryd.prog w = .ok (.tuple #[.iface 88 v, .bool true]) w := run_typeAssert_hasB Tryd.underlying117 (by kernel_rfl) v xT w
theorem i_un2 (v : Value) (xT : TypeId) (w : World) : (Instr.typeAssert (.iface 46 v) xT 117 true).run Tryd.prog w = .ok (.tuple #[.nilIface, .bool false]) w := run_typeAssert_lacksB Tryd.underlying117 (by kernel_rfl) (by kernel_rfl) v xT w
theorem i_uns2 (v : Value) (xT : TypeId) (w : World) : (Instr.typeAssert (.iface 46 v) xT 118 true).run Tryd.prog w = .ok (.tuple #[.nilIface, .bool false]) w := run_typeAssert_lacksB Tryd.underlying118 (by kernel_rfl) (by kernel_rfl) v xT w
theorem i_ne (x y : Value) (w : World) : (binOp .eql 43 (.iface 88 x) (.iface 46 y)).run Tryd.prog w = .ok (.bool false) w := run_eql_iface_types _ _ x y Tryd.underlying43 (by decide) w
theorem i_info : ∃ i, Tryd.prog.info? 46 = some i ∧ i.comparable = true := by
  have h : (Tryd.prog.info? 46).map (·.comparable) = some true := by kernel_rfl
  exact Option.map_eq_some_iff.1 h
theorem i_eq (n m : Int) (w : World) : (binOp .eql 43 (.iface 46 (.int .i64 n)) (.iface 46 (.int .i64 m))).run Tryd.prog w = .ok (.bool (n == m)) w := by
  obtain ⟨i, hi, hc⟩ := i_info
  have h : ∀ d : Nat, (Op.equalIn (d + 2) 43 (.iface 46 (.int .i64 n)) (.iface 46 (.int .i64 m))).run Tryd.prog w = .ok (n == m) w := fun d => by
    rw [Op.equalIn]
    simp [run_underlying Tryd.underlying43, typeInfo, hi, hc, Op.equalIn, run_underlying Tryd.underlying46]
  simp only [binOp]
  simp [Op.equal, Op.maxDepth, h 9998]

theorem unwrap_hit (b o : Nat) (n : Int) (w : World) (h : w.cell? ⟨b, o, none⟩ = some (.int .i64 n)) : Calls Tryd.prog 69 #[.pointer (some ⟨b, o, none⟩)] w fun e w' => e = .returned (.iface 46 (.int .i64 n)) ∧ w' = w := by
  go_enter Tryd.func69, Tryd.ntmps69
  go_wp2
  go_ret
  exact ⟨rfl, rfl⟩

set_option maxHeartbeats 4000000 in
theorem is_hit (b o : Nat) (n m : Int) (w : World) (h : w.cell? ⟨b, o, none⟩ = some (.int .i64 n)) : Calls Tryd.prog 47 #[.iface 88 (.pointer (some ⟨b, o, none⟩)), .iface 46 (.int .i64 m), .bool true] w fun e w' => e = .returned (.bool (n == m)) ∧ w' = w := by
  have a1 := i_noIs1
  have a2 := i_noIs2
  have a3 := i_un1
  have a4 := i_un2
  have a5 := i_uns2
  have a6 := i_ne
  have a7 := i_eq
  have a8 := i_methodUnwrap
  cases hnm : (n == m) with
  | true =>
    go_enter Tryd.func47, Tryd.ntmps47
    go_wp2
    refine wp_loop_rounds 2 ?_
    rw [rounds_succ]
    go_wp2_with (go_at_call 69; refine (unwrap_hit b o n _ h).mono ?_; rintro e w' ⟨rfl, rfl⟩)
    rw [rounds_succ]
    go_wp2
    go_ret
    exact ⟨rfl, rfl⟩
  | false =>
    go_enter Tryd.func47, Tryd.ntmps47
    go_wp2
    refine wp_loop_rounds 2 ?_
    rw [rounds_succ]
    go_wp2_with (go_at_call 69; refine (unwrap_hit b o n _ h).mono ?_; rintro e w' ⟨rfl, rfl⟩)
    rw [rounds_succ]
    go_wp2
    go_ret
    exact ⟨rfl, rfl⟩

theorem i_callComparable (w : World) : (callFunc 75 #[.agg #[.pointer (some ⟨1, 46, none⟩)]]).run Tryd.prog w = .ok (.value (.bool true)) w := by
  have h := @run_callFunc_extern Tryd.prog 75 _ (ReflectliteType.method fun t => do Rtype.noPackHeld "Comparable" t; pure (.bool (← typeInfo t).comparable)) Tryd.func75 (by kernel_rfl) (by kernel_rfl) (by kernel_rfl) (by kernel_rfl)
  rw [h]
  have h2 := i_comparable w
  rw [h2]
  rfl

set_option maxHeartbeats 4000000 in
theorem Is_hit (b o : Nat) (n m : Int) (w : World) (h : w.cell? ⟨b, o, none⟩ = some (.int .i64 n)) : Calls Tryd.prog 39 #[.iface 88 (.pointer (some ⟨b, o, none⟩)), .iface 46 (.int .i64 m)] w fun e w' => e = .returned (.bool (n == m)) ∧ w' = w := by
  have h10 := @run_callFunc_extern Tryd.prog 46 _ ReflectliteType.typeOf Tryd.func46 (by kernel_rfl) (by kernel_rfl) (by kernel_rfl) (by kernel_rfl)
  have b1 := i_typeOf
  have b2 := i_methodComparable
  have b3 := i_callComparable
  go_enter Tryd.func39, Tryd.ntmps39
  go_wp2_with (go_at_call 47; refine (is_hit b o n m _ h).mono ?_; rintro e w' ⟨rfl, rfl⟩)
  go_ret
  exact ⟨rfl, rfl⟩
end Go.Proofs.YtcnbecdpfildnaaDoor
