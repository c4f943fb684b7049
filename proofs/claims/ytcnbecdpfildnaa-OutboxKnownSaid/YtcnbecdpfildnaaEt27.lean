/-
  The functions that OutboxKnown reaches, and the orders of their operations. It proves no statement by itself.
-/
import Derived.Test.YtcnbecdpfildnaaEx7
import Derived.Test.YtcnbecdpfildnaaTy
namespace Go.Proofs.Ytcnbecdpfildnaa
open Go.RowKit
noncomputable def xf9 : XF := ⟨Try.f9, (Try.f9.body).getD .skip, T.ofList []⟩
theorem xf9_ok : GoodF Try.prog 9 xf9 := ⟨Try.func9, by kernel_rfl, inferInstance, by kernel_rfl⟩
noncomputable def xf24 : XF := ⟨Try.f24, (Try.f24.body).getD .skip, T.ofList []⟩
theorem xf24_ok : GoodF Try.prog 24 xf24 := ⟨Try.func24, by kernel_rfl, inferInstance, by kernel_rfl⟩
noncomputable def xf26 : XF := ⟨Try.f26, (Try.f26.body).getD .skip, T.ofList []⟩
theorem xf26_ok : GoodF Try.prog 26 xf26 := ⟨Try.func26, by kernel_rfl, inferInstance, by kernel_rfl⟩
noncomputable def xf27 : XF := ⟨Try.f27, (Try.f27.body).getD .skip, T.ofList []⟩
theorem xf27_ok : GoodF Try.prog 27 xf27 := ⟨Try.func27, by kernel_rfl, inferInstance, by kernel_rfl⟩
noncomputable def xf29 : XF := ⟨Try.f29, (Try.f29.body).getD .skip, T.ofList []⟩
theorem xf29_ok : GoodF Try.prog 29 xf29 := ⟨Try.func29, by kernel_rfl, inferInstance, by kernel_rfl⟩
noncomputable def xf31 : XF := ⟨Try.f31, (Try.f31.body).getD .skip, T.ofList [(6, (14, .calm 0 <| .calm 1 <| .calm 2 <| .calm 3 <| .calm 4 <| .calm 5 <| .calm 6 <| .calm 7 <| .calm 8 <| .calm 9 <| .calm 10 <| .calm 11 <| .calm 12 <| .calm 13 <| .must 14 <| .done))]⟩
theorem xf31_ok : GoodF Try.prog 31 xf31 := ⟨Try.func31, by kernel_rfl, inferInstance, by kernel_rfl⟩
noncomputable def xf34 : XF := ⟨Try.f34, (Try.f34.body).getD .skip, T.ofList []⟩
theorem xf34_ok : GoodF Try.prog 34 xf34 := ⟨Try.func34, by kernel_rfl, inferInstance, by kernel_rfl⟩
noncomputable def xf35 : XF := ⟨Try.f35, (Try.f35.body).getD .skip, T.ofList [(3, (11, .calm 0 <| .calm 1 <| .calm 2 <| .calm 3 <| .calm 4 <| .calm 5 <| .calm 6 <| .calm 7 <| .calm 8 <| .calm 9 <| .calm 10 <| .done)), (5, (12, .calm 0 <| .calm 1 <| .calm 2 <| .calm 3 <| .calm 4 <| .calm 5 <| .calm 6 <| .calm 7 <| .calm 8 <| .calm 9 <| .calm 10 <| .calm 11 <| .must 12 <| .done)), (7, (8, .calm 0 <| .calm 1 <| .calm 2 <| .calm 3 <| .calm 4 <| .calm 5 <| .must 6 <| .must 7 <| .must 8 <| .must 9 <| .must 10 <| .done))]⟩
theorem xf35_ok : GoodF Try.prog 35 xf35 := ⟨Try.func35, by kernel_rfl, inferInstance, by kernel_rfl⟩
noncomputable def xf37 : XF := ⟨Try.f37, (Try.f37.body).getD .skip, T.ofList []⟩
theorem xf37_ok : GoodF Try.prog 37 xf37 := ⟨Try.func37, by kernel_rfl, inferInstance, by kernel_rfl⟩
noncomputable def xf39 : XF := ⟨Try.f39, (Try.f39.body).getD .skip, T.ofList []⟩
theorem xf39_ok : GoodF Try.prog 39 xf39 := ⟨Try.func39, by kernel_rfl, inferInstance, by kernel_rfl⟩
noncomputable def xf43 : XF := ⟨Try.f43, (Try.f43.body).getD .skip, T.ofList []⟩
theorem xf43_ok : GoodF Try.prog 43 xf43 := ⟨Try.func43, by kernel_rfl, inferInstance, by kernel_rfl⟩
noncomputable def xf44 : XF := ⟨Try.f44, (Try.f44.body).getD .skip, T.ofList []⟩
theorem xf44_ok : GoodF Try.prog 44 xf44 := ⟨Try.func44, by kernel_rfl, inferInstance, by kernel_rfl⟩
noncomputable def xf45 : XF := ⟨Try.f45, (Try.f45.body).getD .skip, T.ofList []⟩
theorem xf45_ok : GoodF Try.prog 45 xf45 := ⟨Try.func45, by kernel_rfl, inferInstance, by kernel_rfl⟩
noncomputable def xf48 : XF := ⟨Try.f48, (Try.f48.body).getD .skip, T.ofList []⟩
theorem xf48_ok : GoodF Try.prog 48 xf48 := ⟨Try.func48, by kernel_rfl, inferInstance, by kernel_rfl⟩
noncomputable def xf49 : XF := ⟨Try.f49, (Try.f49.body).getD .skip, T.ofList [(0, (15, .calm 0 <| .calm 1 <| .calm 2 <| .calm 3 <| .calm 4 <| .calm 5 <| .calm 6 <| .calm 7 <| .calm 8 <| .calm 9 <| .calm 10 <| .calm 11 <| .calm 12 <| .must 13 <| .calm 14 <| .must 15 <| .done))]⟩
theorem xf49_ok : GoodF Try.prog 49 xf49 := ⟨Try.func49, by kernel_rfl, inferInstance, by kernel_rfl⟩
noncomputable def xf50 : XF := ⟨Try.f50, (Try.f50.body).getD .skip, T.ofList [(1, (12, .calm 0 <| .calm 1 <| .calm 2 <| .calm 3 <| .calm 4 <| .calm 5 <| .calm 6 <| .calm 7 <| .calm 8 <| .must 9 <| .calm 10 <| .calm 11 <| .done))]⟩
theorem xf50_ok : GoodF Try.prog 50 xf50 := ⟨Try.func50, by kernel_rfl, inferInstance, by kernel_rfl⟩
noncomputable def xf53 : XF := ⟨Try.f53, (Try.f53.body).getD .skip, T.ofList []⟩
theorem xf53_ok : GoodF Try.prog 53 xf53 := ⟨Try.func53, by kernel_rfl, inferInstance, by kernel_rfl⟩
noncomputable def tabL : List (Nat × XF) := [(9, xf9), (24, xf24), (26, xf26), (27, xf27), (29, xf29), (31, xf31), (34, xf34), (35, xf35), (37, xf37), (39, xf39), (43, xf43), (44, xf44), (45, xf45), (48, xf48), (49, xf49), (50, xf50), (53, xf53)]
noncomputable def tab : T XF := T.ofList tabL
theorem tab_ok : ∀ f x, tab.get f = some x → GoodF Try.prog f x := fun f x h => GoodL.mem (l := tabL) ⟨xf9_ok, xf24_ok, xf26_ok, xf27_ok, xf29_ok, xf31_ok, xf34_ok, xf35_ok, xf37_ok, xf39_ok, xf43_ok, xf44_ok, xf45_ok, xf48_ok, xf49_ok, xf50_ok, xf53_ok, trivial⟩ (f, x) (T.get_ofList h)

end Go.Proofs.Ytcnbecdpfildnaa
