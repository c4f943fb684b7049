/-
  The functions that layer 1's works reaches, and the orders of their operations; works() by computing. It proves no statement by itself.
-/
import Derived.Test.YtcnbecdpfildnaaDoorPr
namespace Go.Proofs.YtcnbecdpfildnaaDoor
open Go.RowKit
noncomputable def xf8 : XF := ⟨Tryd.f8, (Tryd.f8.body).getD .skip, T.ofList [], 1⟩
theorem xf8_ok : GoodF Tryd.prog 8 xf8 := ⟨Tryd.func8, by kernel_rfl, inferInstance, by kernel_rfl⟩
noncomputable def xf9 : XF := ⟨Tryd.f9, (Tryd.f9.body).getD .skip, T.ofList [(9, (10, .calm 0 <| .calm 1 <| .calm 2 <| .calm 3 <| .calm 4 <| .calm 5 <| .calm 6 <| .calm 7 <| .must 8 <| .calm 9 <| .done))], 32883⟩
theorem xf9_ok : GoodF Tryd.prog 9 xf9 := ⟨Tryd.func9, by kernel_rfl, inferInstance, by kernel_rfl⟩
noncomputable def xf10 : XF := ⟨Tryd.f10, (Tryd.f10.body).getD .skip, T.ofList [], 19⟩
theorem xf10_ok : GoodF Tryd.prog 10 xf10 := ⟨Tryd.func10, by kernel_rfl, inferInstance, by kernel_rfl⟩
noncomputable def xf15 : XF := ⟨Tryd.f15, (Tryd.f15.body).getD .skip, T.ofList [], 19⟩
theorem xf15_ok : GoodF Tryd.prog 15 xf15 := ⟨Tryd.func15, by kernel_rfl, inferInstance, by kernel_rfl⟩
noncomputable def xf17 : XF := ⟨Tryd.f17, (Tryd.f17.body).getD .skip, T.ofList [], 5⟩
theorem xf17_ok : GoodF Tryd.prog 17 xf17 := ⟨Tryd.func17, by kernel_rfl, inferInstance, by kernel_rfl⟩
noncomputable def xf18 : XF := ⟨Tryd.f18, (Tryd.f18.body).getD .skip, T.ofList [], 61⟩
theorem xf18_ok : GoodF Tryd.prog 18 xf18 := ⟨Tryd.func18, by kernel_rfl, inferInstance, by kernel_rfl⟩
noncomputable def xf20 : XF := ⟨Tryd.f20, (Tryd.f20.body).getD .skip, T.ofList [(4, (18, .calm 0 <| .calm 1 <| .must 2 <| .calm 3 <| .calm 7 <| .must 4 <| .calm 5 <| .must 6 <| .calm 8 <| .calm 9 <| .calm 10 <| .calm 11 <| .calm 12 <| .calm 13 <| .calm 14 <| .must 15 <| .calm 16 <| .calm 17 <| .done))], 4155⟩
theorem xf20_ok : GoodF Tryd.prog 20 xf20 := ⟨Tryd.func20, by kernel_rfl, inferInstance, by kernel_rfl⟩
noncomputable def xf29 : XF := ⟨Tryd.f29, (Tryd.f29.body).getD .skip, T.ofList [], 21⟩
theorem xf29_ok : GoodF Tryd.prog 29 xf29 := ⟨Tryd.func29, by kernel_rfl, inferInstance, by kernel_rfl⟩
noncomputable def xf33 : XF := ⟨Tryd.f33, (Tryd.f33.body).getD .skip, T.ofList [], 2291⟩
theorem xf33_ok : GoodF Tryd.prog 33 xf33 := ⟨Tryd.func33, by kernel_rfl, inferInstance, by kernel_rfl⟩
noncomputable def xf34 : XF := ⟨Tryd.f34, (Tryd.f34.body).getD .skip, T.ofList [], 16541⟩
theorem xf34_ok : GoodF Tryd.prog 34 xf34 := ⟨Tryd.func34, by kernel_rfl, inferInstance, by kernel_rfl⟩
noncomputable def xf35 : XF := ⟨Tryd.f35, (Tryd.f35.body).getD .skip, T.ofList [], 21⟩
theorem xf35_ok : GoodF Tryd.prog 35 xf35 := ⟨Tryd.func35, by kernel_rfl, inferInstance, by kernel_rfl⟩
noncomputable def xf36 : XF := ⟨Tryd.f36, (Tryd.f36.body).getD .skip, T.ofList [(5, (12, .calm 0 <| .calm 1 <| .calm 2 <| .calm 3 <| .calm 4 <| .calm 5 <| .calm 6 <| .calm 7 <| .calm 8 <| .calm 9 <| .calm 10 <| .must 11 <| .done)), (8, (20, .calm 0 <| .calm 1 <| .calm 2 <| .calm 3 <| .calm 4 <| .calm 5 <| .calm 6 <| .calm 7 <| .calm 8 <| .calm 9 <| .calm 10 <| .calm 11 <| .calm 12 <| .calm 13 <| .calm 14 <| .calm 15 <| .calm 16 <| .calm 17 <| .calm 18 <| .must 19 <| .done)), (9, (13, .calm 0 <| .calm 1 <| .calm 2 <| .calm 3 <| .calm 4 <| .calm 5 <| .calm 6 <| .calm 7 <| .calm 8 <| .calm 9 <| .calm 12 <| .must 10 <| .calm 11 <| .done))], 4642275147320176030938824797⟩
theorem xf36_ok : GoodF Tryd.prog 36 xf36 := ⟨Tryd.func36, by kernel_rfl, inferInstance, by kernel_rfl⟩
noncomputable def xf38 : XF := ⟨Tryd.f38, (Tryd.f38.body).getD .skip, T.ofList [], 34368129779⟩
theorem xf38_ok : GoodF Tryd.prog 38 xf38 := ⟨Tryd.func38, by kernel_rfl, inferInstance, by kernel_rfl⟩
noncomputable def xf39 : XF := ⟨Tryd.f39, (Tryd.f39.body).getD .skip, T.ofList [], 2099⟩
theorem xf39_ok : GoodF Tryd.prog 39 xf39 := ⟨Tryd.func39, by kernel_rfl, inferInstance, by kernel_rfl⟩
noncomputable def xf41 : XF := ⟨Tryd.f41, (Tryd.f41.body).getD .skip, T.ofList [], 135⟩
theorem xf41_ok : GoodF Tryd.prog 41 xf41 := ⟨Tryd.func41, by kernel_rfl, inferInstance, by kernel_rfl⟩
noncomputable def xf45 : XF := ⟨Tryd.f45, (Tryd.f45.body).getD .skip, T.ofList [], 1193287703199244111⟩
theorem xf45_ok : GoodF Tryd.prog 45 xf45 := ⟨Tryd.func45, by kernel_rfl, inferInstance, by kernel_rfl⟩
noncomputable def xf47 : XF := ⟨Tryd.f47, (Tryd.f47.body).getD .skip, T.ofList [], 4639143427053511⟩
theorem xf47_ok : GoodF Tryd.prog 47 xf47 := ⟨Tryd.func47, by kernel_rfl, inferInstance, by kernel_rfl⟩
noncomputable def xf69 : XF := ⟨Tryd.f69, (Tryd.f69.body).getD .skip, T.ofList [], 5⟩
theorem xf69_ok : GoodF Tryd.prog 69 xf69 := ⟨Tryd.func69, by kernel_rfl, inferInstance, by kernel_rfl⟩
noncomputable def tabL : List (Nat × XF) := [(8, xf8), (9, xf9), (10, xf10), (15, xf15), (17, xf17), (18, xf18), (20, xf20), (29, xf29), (33, xf33), (34, xf34), (35, xf35), (36, xf36), (38, xf38), (39, xf39), (41, xf41), (45, xf45), (47, xf47), (69, xf69)]
noncomputable def tab : T XF := T.ofList tabL
theorem tab_ok : ∀ f x, tab.get f = some x → GoodF Tryd.prog f x := fun f x h => GoodL.mem (l := tabL) ⟨xf8_ok, xf9_ok, xf10_ok, xf15_ok, xf17_ok, xf18_ok, xf20_ok, xf29_ok, xf33_ok, xf34_ok, xf35_ok, xf36_ok, xf38_ok, xf39_ok, xf41_ok, xf45_ok, xf47_ok, xf69_ok, trivial⟩ (f, x) (T.get_ofList h)

theorem works_run : trueG Tryd.prog tab 100000 doorPr doorH 200 8 = true := by kernel_rfl
end Go.Proofs.YtcnbecdpfildnaaDoor
