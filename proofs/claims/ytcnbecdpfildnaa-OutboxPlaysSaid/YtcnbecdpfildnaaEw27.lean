/-
  The functions that layer 27's works reaches, and the orders of their operations. works() by computing. It proves no statement by itself.
-/
import Derived.Test.YtcnbecdpfildnaaEx9
import Derived.Test.YtcnbecdpfildnaaTy
namespace Go.Proofs.Ytcnbecdpfildnaa
open Go.RowKit
noncomputable def xf24 : XF := ⟨Try.f24, (Try.f24.body).getD .skip, T.ofList [], 261⟩
theorem xf24_ok : GoodF Try.prog 24 xf24 := ⟨Try.func24, by kernel_rfl, inferInstance, by kernel_rfl⟩
noncomputable def xf26 : XF := ⟨Try.f26, (Try.f26.body).getD .skip, T.ofList [], 4327⟩
theorem xf26_ok : GoodF Try.prog 26 xf26 := ⟨Try.func26, by kernel_rfl, inferInstance, by kernel_rfl⟩
noncomputable def xf27 : XF := ⟨Try.f27, (Try.f27.body).getD .skip, T.ofList [], 5⟩
theorem xf27_ok : GoodF Try.prog 27 xf27 := ⟨Try.func27, by kernel_rfl, inferInstance, by kernel_rfl⟩
noncomputable def xf29 : XF := ⟨Try.f29, (Try.f29.body).getD .skip, T.ofList [], 28859⟩
theorem xf29_ok : GoodF Try.prog 29 xf29 := ⟨Try.func29, by kernel_rfl, inferInstance, by kernel_rfl⟩
noncomputable def xf31 : XF := ⟨Try.f31, (Try.f31.body).getD .skip, T.ofList [(6, (14, .calm 0 <| .calm 1 <| .calm 2 <| .calm 3 <| .calm 4 <| .calm 5 <| .calm 6 <| .calm 7 <| .calm 8 <| .calm 9 <| .calm 10 <| .calm 11 <| .calm 12 <| .calm 13 <| .must 14 <| .done))], 8755⟩
theorem xf31_ok : GoodF Try.prog 31 xf31 := ⟨Try.func31, by kernel_rfl, inferInstance, by kernel_rfl⟩
noncomputable def xf34 : XF := ⟨Try.f34, (Try.f34.body).getD .skip, T.ofList [], 7344243⟩
theorem xf34_ok : GoodF Try.prog 34 xf34 := ⟨Try.func34, by kernel_rfl, inferInstance, by kernel_rfl⟩
noncomputable def xf37 : XF := ⟨Try.f37, (Try.f37.body).getD .skip, T.ofList [], 7213⟩
theorem xf37_ok : GoodF Try.prog 37 xf37 := ⟨Try.func37, by kernel_rfl, inferInstance, by kernel_rfl⟩
noncomputable def xf39 : XF := ⟨Try.f39, (Try.f39.body).getD .skip, T.ofList [], 563⟩
theorem xf39_ok : GoodF Try.prog 39 xf39 := ⟨Try.func39, by kernel_rfl, inferInstance, by kernel_rfl⟩
noncomputable def xf43 : XF := ⟨Try.f43, (Try.f43.body).getD .skip, T.ofList [], 275⟩
theorem xf43_ok : GoodF Try.prog 43 xf43 := ⟨Try.func43, by kernel_rfl, inferInstance, by kernel_rfl⟩
noncomputable def xf44 : XF := ⟨Try.f44, (Try.f44.body).getD .skip, T.ofList [], 1279⟩
theorem xf44_ok : GoodF Try.prog 44 xf44 := ⟨Try.func44, by kernel_rfl, inferInstance, by kernel_rfl⟩
noncomputable def xf45 : XF := ⟨Try.f45, (Try.f45.body).getD .skip, T.ofList [], 455⟩
theorem xf45_ok : GoodF Try.prog 45 xf45 := ⟨Try.func45, by kernel_rfl, inferInstance, by kernel_rfl⟩
noncomputable def xf48 : XF := ⟨Try.f48, (Try.f48.body).getD .skip, T.ofList [], 307⟩
theorem xf48_ok : GoodF Try.prog 48 xf48 := ⟨Try.func48, by kernel_rfl, inferInstance, by kernel_rfl⟩
noncomputable def xf49 : XF := ⟨Try.f49, (Try.f49.body).getD .skip, T.ofList [(0, (15, .calm 0 <| .calm 1 <| .calm 2 <| .calm 3 <| .calm 4 <| .calm 5 <| .calm 6 <| .calm 7 <| .calm 8 <| .calm 9 <| .calm 10 <| .calm 11 <| .calm 12 <| .must 13 <| .calm 14 <| .must 15 <| .done))], 7⟩
theorem xf49_ok : GoodF Try.prog 49 xf49 := ⟨Try.func49, by kernel_rfl, inferInstance, by kernel_rfl⟩
noncomputable def xf50 : XF := ⟨Try.f50, (Try.f50.body).getD .skip, T.ofList [(1, (12, .calm 0 <| .calm 1 <| .calm 2 <| .calm 3 <| .calm 4 <| .calm 5 <| .calm 6 <| .calm 7 <| .calm 8 <| .must 9 <| .calm 10 <| .calm 11 <| .done))], 33554631⟩
theorem xf50_ok : GoodF Try.prog 50 xf50 := ⟨Try.func50, by kernel_rfl, inferInstance, by kernel_rfl⟩
noncomputable def xf53 : XF := ⟨Try.f53, (Try.f53.body).getD .skip, T.ofList [], 79⟩
theorem xf53_ok : GoodF Try.prog 53 xf53 := ⟨Try.func53, by kernel_rfl, inferInstance, by kernel_rfl⟩
noncomputable def tabL : List (Nat × XF) := [(24, xf24), (26, xf26), (27, xf27), (29, xf29), (31, xf31), (34, xf34), (37, xf37), (39, xf39), (43, xf43), (44, xf44), (45, xf45), (48, xf48), (49, xf49), (50, xf50), (53, xf53)]
noncomputable def tab : T XF := T.ofList tabL
theorem tab_ok : ∀ f x, tab.get f = some x → GoodF Try.prog f x := fun f x h => GoodL.mem (l := tabL) ⟨xf24_ok, xf26_ok, xf27_ok, xf29_ok, xf31_ok, xf34_ok, xf37_ok, xf39_ok, xf43_ok, xf44_ok, xf45_ok, xf48_ok, xf49_ok, xf50_ok, xf53_ok, trivial⟩ (f, x) (T.get_ofList h)

theorem works27_run : trueG Try.prog tab 100000 noPr ⟨.e, 1, [], []⟩ 200 44 = true := by kernel_rfl
theorem works27_fn (L : List (Nat × Obj)) : Fn Try.prog 44 [] L (fun v L' => v = .bool true ∧ L' = L) :=
  runG (bs0 := [(0, 0, 0)]) (M0 := []) noPr_ok mixed tab_ok ⟨rfl, fun k o hk => (by cases hk), fun j k o o' b x y x' y' hj => (by cases hj)⟩ (fun k o hk => (by cases hk)) works27_run L
end Go.Proofs.Ytcnbecdpfildnaa
