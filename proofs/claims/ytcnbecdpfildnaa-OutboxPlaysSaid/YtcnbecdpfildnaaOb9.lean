/-
  Messages are alike themselves (the document's SameMsg).
-/
import Derived.Test.YtcnbecdpfildnaaOb7
import Derived.Test.YtcnbecdpfildnaaEx9
namespace Go.Proofs.Ytcnbecdpfildnaa
open Go.RowKit

namespace Same
noncomputable def xf51 : XF := ⟨Try.f51, (Try.f51.body).getD .skip, T.ofList [(1, (6, .calm 0 <| .calm 2 <| .must 1 <| .must 3 <| .calm 4 <| .calm 5 <| .done))], 31⟩
theorem xf51_ok : GoodF Try.prog 51 xf51 := ⟨Try.func51, by kernel_rfl, inferInstance, by kernel_rfl⟩
noncomputable def xf52 : XF := ⟨Try.f52, (Try.f52.body).getD .skip, T.ofList [(1, (6, .calm 0 <| .calm 2 <| .must 1 <| .must 3 <| .calm 4 <| .calm 5 <| .done))], 31⟩
theorem xf52_ok : GoodF Try.prog 52 xf52 := ⟨Try.func52, by kernel_rfl, inferInstance, by kernel_rfl⟩
noncomputable def xf55 : XF := ⟨Try.f55, (Try.f55.body).getD .skip, T.ofList [(1, (14, .calm 0 <| .calm 1 <| .calm 3 <| .calm 4 <| .calm 7 <| .calm 8 <| .calm 9 <| .calm 10 <| .must 2 <| .must 5 <| .calm 6 <| .must 11 <| .calm 12 <| .calm 13 <| .done)), (6, (18, .calm 0 <| .calm 1 <| .calm 2 <| .calm 5 <| .calm 6 <| .calm 9 <| .calm 10 <| .calm 13 <| .calm 14 <| .must 3 <| .calm 4 <| .must 7 <| .calm 8 <| .must 11 <| .calm 12 <| .must 15 <| .calm 16 <| .calm 17 <| .done))], 4194335⟩
theorem xf55_ok : GoodF Try.prog 55 xf55 := ⟨Try.func55, by kernel_rfl, inferInstance, by kernel_rfl⟩
noncomputable def xf56 : XF := ⟨Try.f56, (Try.f56.body).getD .skip, T.ofList [(1, (18, .calm 0 <| .calm 1 <| .calm 3 <| .calm 4 <| .calm 7 <| .calm 8 <| .calm 11 <| .calm 12 <| .calm 13 <| .calm 14 <| .must 2 <| .must 5 <| .calm 6 <| .must 9 <| .calm 10 <| .must 15 <| .calm 16 <| .calm 17 <| .done))], 67108895⟩
theorem xf56_ok : GoodF Try.prog 56 xf56 := ⟨Try.func56, by kernel_rfl, inferInstance, by kernel_rfl⟩
noncomputable def xf57 : XF := ⟨Try.f57, (Try.f57.body).getD .skip, T.ofList [], 5⟩
theorem xf57_ok : GoodF Try.prog 57 xf57 := ⟨Try.func57, by kernel_rfl, inferInstance, by kernel_rfl⟩
noncomputable def xf58 : XF := ⟨Try.f58, (Try.f58.body).getD .skip, T.ofList [], 21⟩
theorem xf58_ok : GoodF Try.prog 58 xf58 := ⟨Try.func58, by kernel_rfl, inferInstance, by kernel_rfl⟩
noncomputable def xf59 : XF := ⟨Try.f59, (Try.f59.body).getD .skip, T.ofList [], 262333⟩
theorem xf59_ok : GoodF Try.prog 59 xf59 := ⟨Try.func59, by kernel_rfl, inferInstance, by kernel_rfl⟩
noncomputable def xf60 : XF := ⟨Try.f60, (Try.f60.body).getD .skip, T.ofList [(1, (16, .calm 0 <| .calm 1 <| .calm 3 <| .calm 4 <| .calm 7 <| .calm 8 <| .calm 11 <| .calm 12 <| .must 2 <| .must 5 <| .calm 6 <| .must 9 <| .calm 10 <| .must 13 <| .calm 14 <| .calm 15 <| .done))], 7⟩
theorem xf60_ok : GoodF Try.prog 60 xf60 := ⟨Try.func60, by kernel_rfl, inferInstance, by kernel_rfl⟩
noncomputable def xf61 : XF := ⟨Try.f61, (Try.f61.body).getD .skip, T.ofList [], 13⟩
theorem xf61_ok : GoodF Try.prog 61 xf61 := ⟨Try.func61, by kernel_rfl, inferInstance, by kernel_rfl⟩
noncomputable def xf62 : XF := ⟨Try.f62, (Try.f62.body).getD .skip, T.ofList [(1, (26, .calm 0 <| .calm 1 <| .calm 3 <| .calm 4 <| .calm 5 <| .calm 8 <| .calm 9 <| .calm 12 <| .calm 13 <| .calm 16 <| .calm 17 <| .calm 21 <| .calm 22 <| .par [(2, []), (6, [2]), (7, [2, 6]), (10, [2, 6]), (11, [2, 6, 7, 10]), (14, [2, 6, 10]), (15, [2, 6, 7, 10, 11, 14]), (18, []), (19, [18]), (20, [2, 6, 7, 10, 11, 14, 15, 18, 19]), (23, [2, 6, 10, 14])] <| .calm 24 <| .calm 25 <| .done))], 7⟩
theorem xf62_ok : GoodF Try.prog 62 xf62 := ⟨Try.func62, by kernel_rfl, inferInstance, by kernel_rfl⟩
noncomputable def xf63 : XF := ⟨Try.f63, (Try.f63.body).getD .skip, T.ofList [(1, (20, .calm 0 <| .calm 1 <| .calm 3 <| .calm 4 <| .calm 7 <| .calm 8 <| .calm 11 <| .calm 12 <| .calm 15 <| .calm 16 <| .must 2 <| .must 5 <| .calm 6 <| .must 9 <| .calm 10 <| .must 13 <| .calm 14 <| .must 17 <| .calm 18 <| .calm 19 <| .done))], 7⟩
theorem xf63_ok : GoodF Try.prog 63 xf63 := ⟨Try.func63, by kernel_rfl, inferInstance, by kernel_rfl⟩
noncomputable def tabL : List (Nat × XF) := [(51, xf51), (52, xf52), (55, xf55), (56, xf56), (57, xf57), (58, xf58), (59, xf59), (60, xf60), (61, xf61), (62, xf62), (63, xf63)]
noncomputable def tab : T XF := T.ofList tabL
theorem tab_ok : ∀ f x, tab.get f = some x → GoodF Try.prog f x := fun f x h => GoodL.mem (l := tabL) ⟨xf51_ok, xf52_ok, xf55_ok, xf56_ok, xf57_ok, xf58_ok, xf59_ok, xf60_ok, xf61_ok, xf62_ok, xf63_ok, trivial⟩ (f, x) (T.get_ofList h)

end Same
/-- A function that comes to true at arguments that are known. -/
noncomputable def trueA (P : Program) (tab : T XF) (lf n : Nat) (f : FuncId) (us : List V) : Bool := match (funX P tab lf noPr n).f f us ⟨.e, 0, [], []⟩ with
  | some (.bool true, _) => true
  | _ => false
theorem runA {P : Program} {tab : T XF} {lf n : Nat} {f : FuncId} {us : List V} {vs : List Value} (hmix : P.follows .mixedOrders = true) (htab : ∀ f x, tab.get f = some x → GoodF P f x) (hv : RVs [] us vs) (h : trueA P tab lf n f us = true) (F : List (Nat × Obj)) : Fn P f vs F (fun v L' => v = .bool true ∧ L' = F) := fun g w hm => by
  unfold trueA at h
  split at h
  · rename_i H2 h1
    have h2 := (funX_ok noPr_ok hmix htab n).fn _ _ _ _ _ h1 [] [] F vs ⟨rfl, fun k o hk => (by cases hk), fun j k o o' b x y x' y' hj => (by cases hj)⟩ hv
    refine (h2 g w hm).mono fun e w' ⟨v, L', e1, e2, r, M', e3, e4, e5, e6, e7, e8⟩ => ?_
    cases e4
    subst e3
    exact ⟨.bool true, F, e1, e2.sub hm.nodup (fun q hq => List.mem_append_right _ hq), rfl, rfl⟩
  · cases h
attribute [local irreducible] Fn WC WL WR OW Qt YieldFn QW FnP FnD
theorem sameCmd_fn (F : List (Nat × Obj)) : Fn Try.prog 51 [.agg zc43, .agg zc43] F (fun v L' => v = .bool true ∧ L' = F) := by
  obtain ⟨u, hu, ht⟩ : ∃ u, V.ofConst (.agg zc43) = some u ∧ trueA Try.prog Same.tab 100000 200 51 [u, u] = true := ⟨_, rfl, by kernel_rfl⟩
  exact runA mixed Same.tab_ok (.cons (V.ofConst_ok hu) (.cons (V.ofConst_ok hu) .nil)) ht F
theorem sameChunk_fn (F : List (Nat × Obj)) : Fn Try.prog 52 [.agg zc46, .agg zc46] F (fun v L' => v = .bool true ∧ L' = F) := by
  obtain ⟨u, hu, ht⟩ : ∃ u, V.ofConst (.agg zc46) = some u ∧ trueA Try.prog Same.tab 100000 200 52 [u, u] = true := ⟨_, rfl, by kernel_rfl⟩
  exact runA mixed Same.tab_ok (.cons (V.ofConst_ok hu) (.cons (V.ofConst_ok hu) .nil)) ht F
theorem rec_self (w : World) : (Op.equalIn 10000 38 (.agg zc38) (.agg zc38)).run Try.prog w = .ok true w := by
  obtain ⟨u, hu, ht⟩ : ∃ u, V.ofConst (.agg zc38) = some u ∧ eqX Try.prog 10 38 u u = some true := ⟨_, rfl, by kernel_rfl⟩
  exact eqX_ok (bs := []) 10 ht (V.ofConst_ok hu) (V.ofConst_ok hu) 9990 w
theorem rec_guard : Try.prog.eqGuardType Try.prog.depth 38 = false := by kernel_rfl
theorem Qt_eql_rec {g : World} {N n : Nat} {r : Option Nat} {s : List (Nat × Value)} {L : List (Nat × Obj)} {o : Oper} {x y : Operand} {t' : TypeId} (ho : o.op = .binOp .eql 38 x y t') (hx : ev s x = some (.agg zc38) := by exact rfl) (hy : ev s y = some (.agg zc38) := by exact rfl) : Qt ⟨Try.prog, g, N, n, r⟩ s L o (.bool true) :=
  Qt_eql_struct' ho hx hy rec_guard rec_self


set_option maxHeartbeats 2000000 in
theorem sameMsg_fn (a : Nat) (F : List (Nat × Obj)) : Fn Try.prog 41 [.agg (mC (a : Nat)), .agg (mC (a : Nat))] F (fun v L' => v = .bool true ∧ L' = F) := by
  have e1 : (((a : Nat) : Int) == ((a : Nat) : Int)) = true := by simp
  have z1 : 2 + 6 ≤ (mC (a : Nat)).size := Nat.le_of_ble_eq_true rfl
  have z2 : 10 + 10 ≤ (mC (a : Nat)).size := Nat.le_of_ble_eq_true rfl
  have z3 : 20 + 4 ≤ (mC (a : Nat)).size := Nat.le_of_ble_eq_true rfl
  refine Fn_enter Try.func41 rfl Try.ntmps41 rfl fun g => ?_
  repeat (first | ((first | refine WL_Q ?_ | refine WL_Y ?_); (first | refine QW_a ?_ | refine QW_of (Qt_eql_rec rfl) ?_)) | ((first | refine WL_op rfl ?_ | refine WL_yes (h := ?_)); (first | refine OW_box rfl (hk := fun _ => ?_) | refine OW_callP rfl (hF := sameCmd_fn _) (hk := ?_) | refine OW_callP rfl (hF := sameChunk_fn _) (hk := ?_))) | refine WL_nil ?_ | refine WL_un (h := ?_) | refine WL_N ?_ | refine WL_M ?_ | refine WC_seq ?_ | refine WC_block ?_ | refine WC_cond_t (ht := ?_) | refine WC_cond_f (he := ?_) | refine WC_skip ?_ | refine WC_ret ?_ | refine WC_exit ?_ | refine WC_region ?_)
  exact ⟨rfl, _, _, Res1 rfl (resV_tmp rfl), .cons _ (.cons _ (.refl _)), rfl, rfl⟩
set_option maxHeartbeats 2000000 in
theorem sameZero_fn (F : List (Nat × Obj)) : Fn Try.prog 41 [.agg zc48, .agg zc48] F (fun v L' => v = .bool true ∧ L' = F) := by
  have z1 : 2 + 6 ≤ zc48.size := by decide
  have z2 : 10 + 10 ≤ zc48.size := by decide
  have z3 : 20 + 4 ≤ zc48.size := by decide
  refine Fn_enter Try.func41 rfl Try.ntmps41 rfl fun g => ?_
  repeat (first | ((first | refine WL_Q ?_ | refine WL_Y ?_); (first | refine QW_a ?_ | refine QW_of (Qt_eql_rec rfl) ?_)) | ((first | refine WL_op rfl ?_ | refine WL_yes (h := ?_)); (first | refine OW_box rfl (hk := fun _ => ?_) | refine OW_callP rfl (hF := sameCmd_fn _) (hk := ?_) | refine OW_callP rfl (hF := sameChunk_fn _) (hk := ?_))) | refine WL_nil ?_ | refine WL_un (h := ?_) | refine WL_N ?_ | refine WL_M ?_ | refine WC_seq ?_ | refine WC_block ?_ | refine WC_cond_t (ht := ?_) | refine WC_cond_f (he := ?_) | refine WC_skip ?_ | refine WC_ret ?_ | refine WC_exit ?_ | refine WC_region ?_)
  exact ⟨rfl, _, _, Res1 rfl (resV_tmp rfl), .cons _ (.cons _ (.refl _)), rfl, rfl⟩
end Go.Proofs.Ytcnbecdpfildnaa
