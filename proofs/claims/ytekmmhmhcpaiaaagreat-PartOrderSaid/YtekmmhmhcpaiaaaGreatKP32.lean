/-
  A part of what the last of these texts needs; by itself it proves no statement.
-/
import Derived.Test.YtekmmhmhcpaiaaaGreatKP31
namespace Go.Proofs.YtekmmhmhcpaiaaaGreat
open Go.RowKit
theorem sum_tell (s : Int) : (IntKind.i64.wrap (s % 18446744073709551616)).fdiv (2 ^ min (Int.toNat 63) IntKind.i64.bits) = s / 18446744073709551616 ↔ (-9223372036854775808 ≤ s ∧ s < 9223372036854775808) := by
  rw [Int.fdiv_eq_ediv_of_nonneg _ (by decide)]
  show IntKind.i64.wrap (s % 18446744073709551616) / 9223372036854775808 = _ ↔ _
  rw [IntKind.wrap_i64]
  omega
theorem sum_fits {s : Int} (h : -9223372036854775808 ≤ s ∧ s < 9223372036854775808) : IntKind.i64.wrap (s % 18446744073709551616) = s := by
  rw [IntKind.wrap_i64]
  omega
attribute [local irreducible] Fn WC WL WR OW Qt YieldFn QW FnP FnD FnE
theorem res1_fn {a : AcV} {L : List (Nat × Obj)} : Fn Tryz.prog 136 [.agg (agC a)] L (fun v L' => v = .tuple #[iV a.n, .bool true] ∧ L' = L) := by
  refine Fn_enter Tryz.func136 rfl Tryz.ntmps136 rfl fun gw => ?_
  repeat (first | refine RQ ?_ | (refine WL_Q ?_; (first | refine QW_of (Qt_buildA rfl (hf := rs_fill)) ?_ | refine QW_of (Qt_indexV rfl (hv := by with_reducible assumption)) ?_)) | (refine RE ?_; try intro _) | refine RC ?_ | refine WC_region ?_)
  exact ⟨rfl, _, _, Res2 rfl (resV_tmp rfl) (resV_tmp rfl), .cons _ (.refl _), rfl, rfl⟩
theorem res2_fn {a : AcV} {L : List (Nat × Obj)} : Fn Tryz.prog 137 [.agg (agC a)] L (fun v L' => v = .tuple #[iV a.mn, .bool true] ∧ L' = L) := by
  refine Fn_enter Tryz.func137 rfl Tryz.ntmps137 rfl fun gw => ?_
  repeat (first | refine RQ ?_ | (refine WL_Q ?_; (first | refine QW_of (Qt_buildA rfl (hf := rs_fill)) ?_ | refine QW_of (Qt_indexV rfl (hv := by with_reducible assumption)) ?_)) | (refine RE ?_; try intro _) | refine RC ?_ | refine WC_region ?_)
  exact ⟨rfl, _, _, Res2 rfl (resV_tmp rfl) (resV_tmp rfl), .cons _ (.refl _), rfl, rfl⟩
theorem res3_fn {a : AcV} {L : List (Nat × Obj)} : Fn Tryz.prog 138 [.agg (agC a)] L (fun v L' => v = .tuple #[iV a.mx, .bool true] ∧ L' = L) := by
  refine Fn_enter Tryz.func138 rfl Tryz.ntmps138 rfl fun gw => ?_
  repeat (first | refine RQ ?_ | (refine WL_Q ?_; (first | refine QW_of (Qt_buildA rfl (hf := rs_fill)) ?_ | refine QW_of (Qt_indexV rfl (hv := by with_reducible assumption)) ?_)) | (refine RE ?_; try intro _) | refine RC ?_ | refine WC_region ?_)
  exact ⟨rfl, _, _, Res2 rfl (resV_tmp rfl) (resV_tmp rfl), .cons _ (.refl _), rfl, rfl⟩
theorem res4_fn {a : AcV} {L : List (Nat × Obj)} : Fn Tryz.prog 139 [.agg (agC a)] L (fun v L' => v = .tuple #[iV (resA a 1).1, .bool (resA a 1).2] ∧ L' = L) := by
  refine Fn_enter Tryz.func139 rfl Tryz.ntmps139 rfl fun gw => ?_
  by_cases h : -9223372036854775808 ≤ a.s ∧ a.s < 9223372036854775808
  · have d : ((IntKind.i64.wrap (a.s % 18446744073709551616)).fdiv (2 ^ min (Int.toNat 63) IntKind.i64.bits) == a.s / 18446744073709551616) = true := by simpa using (sum_tell a.s).2 h
    repeat (first | refine RQ ?_ | (refine WL_Q ?_; (first | refine QW_of (Qt_buildA rfl (hf := rs_fill)) ?_ | refine QW_of (Qt_indexV rfl (hv := by with_reducible assumption)) ?_)) | (refine RE ?_; try intro _) | refine RC ?_ | refine WC_region ?_)
    rw [sum_fits h]
    exact ⟨rfl, _, _, Res2 rfl (resV_tmp rfl) (resV_tmp rfl), .cons _ (.refl _), by unfold resA; rw [if_neg (by decide), if_neg (by decide), if_neg (by decide), if_pos h], rfl⟩
  · have d : ((IntKind.i64.wrap (a.s % 18446744073709551616)).fdiv (2 ^ min (Int.toNat 63) IntKind.i64.bits) == a.s / 18446744073709551616) = false := by simpa using fun hh => h ((sum_tell a.s).1 hh)
    repeat (first | refine RQ ?_ | (refine WL_Q ?_; (first | refine QW_of (Qt_buildA rfl (hf := rs_fill)) ?_ | refine QW_of (Qt_indexV rfl (hv := by with_reducible assumption)) ?_)) | (refine RE ?_; try intro _) | refine RC ?_ | refine WC_region ?_)
    exact ⟨rfl, _, _, Res2 rfl (resV_tmp rfl) (resV_tmp rfl), .cons _ (.refl _), by unfold resA; rw [if_neg (by decide), if_neg (by decide), if_neg (by decide), if_neg h], rfl⟩
abbrev rsV : Array Value := #[.func (.func 136) #[] #[], .func (.func 139) #[] #[], .func (.func 137) #[] #[], .func (.func 138) #[] #[]]
theorem rs_fill : FilledA 1 zc188 [(0, .func (.func 136) #[] #[]), (2, .func (.func 137) #[] #[]), (3, .func (.func 138) #[] #[]), (1, .func (.func 139) #[] #[])] rsV := ⟨rfl, Nat.le_of_ble_eq_true rfl, rfl, Nat.le_of_ble_eq_true rfl, rfl, Nat.le_of_ble_eq_true rfl, rfl, Nat.le_of_ble_eq_true rfl, rfl⟩
instance : TBuildA Tryz.prog 188 zc188 1 := ⟨fun _ => by kernel_rfl⟩
theorem results_fn {L : List (Nat × Obj)} : Fn Tryz.prog 93 [] L (fun v L' => v = .agg rsV ∧ L' = L) := by
  refine Fn_enter Tryz.func93 rfl Tryz.ntmps93 rfl fun gw => ?_
  repeat (first | refine RQ ?_ | (refine WL_Q ?_; (first | refine QW_of (Qt_buildA rfl (hf := rs_fill)) ?_ | refine QW_of (Qt_indexV rfl (hv := by with_reducible assumption)) ?_)) | (refine RE ?_; try intro _) | refine RC ?_ | refine WC_region ?_)
  exact ⟨rfl, _, _, Res1 rfl (resV_cellN rfl 0 rfl rfl), .cons _ (.refl _), rfl, rfl⟩
set_option maxHeartbeats 4000000 in
theorem Result_fn {a : AcV} {g : Int} (hg : 0 ≤ g ∧ g ≤ 3) {L : List (Nat × Obj)} : Fn Tryz.prog 48 [.agg (agC a), iV g] L (fun v L' => v = .tuple #[iV (resA a g).1, .bool (resA a g).2] ∧ L' = L) := by
  refine Fn_enter Tryz.func48 rfl Tryz.ntmps48 rfl fun gw => ?_
  have hsz : (agC a).size = 5 := rfl
  have hone : ((agC a).toList.all fun v => v.oneCell') = true := rfl
  have hc : g = 0 ∨ g = 1 ∨ g = 2 ∨ g = 3 := by omega
  rcases hc with rfl | rfl | rfl | rfl
  · have hi : rsV[Int.toNat 0 * 1]? = some (.func (.func 136) #[] #[]) := rfl
    repeat (first | refine RQ ?_ | ((first | refine WL_Q ?_ | refine WL_Y ?_); (first | refine QW_of (Qt_buildA rfl (hf := rs_fill)) ?_ | refine QW_of (Qt_indexV rfl (hv := by with_reducible assumption)) ?_)) | (refine RE ?_; try intro _) | refine RC ?_ | refine WG 0 ?_ | refine WG 1 ?_)
    refine WC_draw_sub (id := 3) 9 (Cs [1,3] <| .must 0 <| .calm 2 <| .must 4 <| Cs [5,6,7,8] <| .done) mixed (by kernel_rfl) (List.Sublist.refl _) ?_
    repeat (first | refine RQr ?_ | (refine RX ?_; (first | refine QW_of (Qt_buildA rfl (hf := rs_fill)) ?_ | refine QW_of (Qt_indexV rfl (hv := by with_reducible assumption)) ?_)) | (refine OX ?_; (first | refine OW_callP rfl (hF := results_fn) (hk := ?_)); try refine SD ?_) | refine RC ?_ | refine RU ?_ | refine WC_draw_all (id := 3) 9 (Cs [1,3] <| .must 0 <| .calm 2 <| .must 4 <| Cs [5,6,7,8] <| .done) mixed (by kernel_rfl) ?_)
    refine WR_op rfl rfl (OW_callv rfl rfl rfl rfl rfl res1_fn ?_)
    rintro _ _ ⟨rfl, rfl⟩
    refine ⟨fun q hq => hq, ?_⟩
    repeat (first | refine RQr ?_ | (refine RX ?_; (first | refine QW_of (Qt_buildA rfl (hf := rs_fill)) ?_ | refine QW_of (Qt_indexV rfl (hv := by with_reducible assumption)) ?_)) | (refine OX ?_; (first | refine OW_callP rfl (hF := results_fn) (hk := ?_)); try refine SD ?_) | refine RC ?_ | refine RU ?_ | refine WC_draw_all (id := 3) 9 (Cs [1,3] <| .must 0 <| .calm 2 <| .must 4 <| Cs [5,6,7,8] <| .done) mixed (by kernel_rfl) ?_)
    exact ⟨rfl, _, _, Res2 rfl (resV_tmp rfl) (resV_tmp rfl), .cons _ (.refl _), rfl, rfl⟩
  · have hi : rsV[Int.toNat 1 * 1]? = some (.func (.func 139) #[] #[]) := rfl
    repeat (first | refine RQ ?_ | ((first | refine WL_Q ?_ | refine WL_Y ?_); (first | refine QW_of (Qt_buildA rfl (hf := rs_fill)) ?_ | refine QW_of (Qt_indexV rfl (hv := by with_reducible assumption)) ?_)) | (refine RE ?_; try intro _) | refine RC ?_ | refine WG 0 ?_ | refine WG 1 ?_)
    refine WC_draw_sub (id := 3) 9 (Cs [1,3] <| .must 0 <| .calm 2 <| .must 4 <| Cs [5,6,7,8] <| .done) mixed (by kernel_rfl) (List.Sublist.refl _) ?_
    repeat (first | refine RQr ?_ | (refine RX ?_; (first | refine QW_of (Qt_buildA rfl (hf := rs_fill)) ?_ | refine QW_of (Qt_indexV rfl (hv := by with_reducible assumption)) ?_)) | (refine OX ?_; (first | refine OW_callP rfl (hF := results_fn) (hk := ?_)); try refine SD ?_) | refine RC ?_ | refine RU ?_ | refine WC_draw_all (id := 3) 9 (Cs [1,3] <| .must 0 <| .calm 2 <| .must 4 <| Cs [5,6,7,8] <| .done) mixed (by kernel_rfl) ?_)
    refine WR_op rfl rfl (OW_callv rfl rfl rfl rfl rfl res4_fn ?_)
    rintro _ _ ⟨rfl, rfl⟩
    refine ⟨fun q hq => hq, ?_⟩
    repeat (first | refine RQr ?_ | (refine RX ?_; (first | refine QW_of (Qt_buildA rfl (hf := rs_fill)) ?_ | refine QW_of (Qt_indexV rfl (hv := by with_reducible assumption)) ?_)) | (refine OX ?_; (first | refine OW_callP rfl (hF := results_fn) (hk := ?_)); try refine SD ?_) | refine RC ?_ | refine RU ?_ | refine WC_draw_all (id := 3) 9 (Cs [1,3] <| .must 0 <| .calm 2 <| .must 4 <| Cs [5,6,7,8] <| .done) mixed (by kernel_rfl) ?_)
    exact ⟨rfl, _, _, Res2 rfl (resV_tmp rfl) (resV_tmp rfl), .cons _ (.refl _), rfl, rfl⟩
  · have hi : rsV[Int.toNat 2 * 1]? = some (.func (.func 137) #[] #[]) := rfl
    repeat (first | refine RQ ?_ | ((first | refine WL_Q ?_ | refine WL_Y ?_); (first | refine QW_of (Qt_buildA rfl (hf := rs_fill)) ?_ | refine QW_of (Qt_indexV rfl (hv := by with_reducible assumption)) ?_)) | (refine RE ?_; try intro _) | refine RC ?_ | refine WG 0 ?_ | refine WG 1 ?_)
    refine WC_draw_sub (id := 3) 9 (Cs [1,3] <| .must 0 <| .calm 2 <| .must 4 <| Cs [5,6,7,8] <| .done) mixed (by kernel_rfl) (List.Sublist.refl _) ?_
    repeat (first | refine RQr ?_ | (refine RX ?_; (first | refine QW_of (Qt_buildA rfl (hf := rs_fill)) ?_ | refine QW_of (Qt_indexV rfl (hv := by with_reducible assumption)) ?_)) | (refine OX ?_; (first | refine OW_callP rfl (hF := results_fn) (hk := ?_)); try refine SD ?_) | refine RC ?_ | refine RU ?_ | refine WC_draw_all (id := 3) 9 (Cs [1,3] <| .must 0 <| .calm 2 <| .must 4 <| Cs [5,6,7,8] <| .done) mixed (by kernel_rfl) ?_)
    refine WR_op rfl rfl (OW_callv rfl rfl rfl rfl rfl res2_fn ?_)
    rintro _ _ ⟨rfl, rfl⟩
    refine ⟨fun q hq => hq, ?_⟩
    repeat (first | refine RQr ?_ | (refine RX ?_; (first | refine QW_of (Qt_buildA rfl (hf := rs_fill)) ?_ | refine QW_of (Qt_indexV rfl (hv := by with_reducible assumption)) ?_)) | (refine OX ?_; (first | refine OW_callP rfl (hF := results_fn) (hk := ?_)); try refine SD ?_) | refine RC ?_ | refine RU ?_ | refine WC_draw_all (id := 3) 9 (Cs [1,3] <| .must 0 <| .calm 2 <| .must 4 <| Cs [5,6,7,8] <| .done) mixed (by kernel_rfl) ?_)
    exact ⟨rfl, _, _, Res2 rfl (resV_tmp rfl) (resV_tmp rfl), .cons _ (.refl _), rfl, rfl⟩
  · have hi : rsV[Int.toNat 3 * 1]? = some (.func (.func 138) #[] #[]) := rfl
    repeat (first | refine RQ ?_ | ((first | refine WL_Q ?_ | refine WL_Y ?_); (first | refine QW_of (Qt_buildA rfl (hf := rs_fill)) ?_ | refine QW_of (Qt_indexV rfl (hv := by with_reducible assumption)) ?_)) | (refine RE ?_; try intro _) | refine RC ?_ | refine WG 0 ?_ | refine WG 1 ?_)
    refine WC_draw_sub (id := 3) 9 (Cs [1,3] <| .must 0 <| .calm 2 <| .must 4 <| Cs [5,6,7,8] <| .done) mixed (by kernel_rfl) (List.Sublist.refl _) ?_
    repeat (first | refine RQr ?_ | (refine RX ?_; (first | refine QW_of (Qt_buildA rfl (hf := rs_fill)) ?_ | refine QW_of (Qt_indexV rfl (hv := by with_reducible assumption)) ?_)) | (refine OX ?_; (first | refine OW_callP rfl (hF := results_fn) (hk := ?_)); try refine SD ?_) | refine RC ?_ | refine RU ?_ | refine WC_draw_all (id := 3) 9 (Cs [1,3] <| .must 0 <| .calm 2 <| .must 4 <| Cs [5,6,7,8] <| .done) mixed (by kernel_rfl) ?_)
    refine WR_op rfl rfl (OW_callv rfl rfl rfl rfl rfl res3_fn ?_)
    rintro _ _ ⟨rfl, rfl⟩
    refine ⟨fun q hq => hq, ?_⟩
    repeat (first | refine RQr ?_ | (refine RX ?_; (first | refine QW_of (Qt_buildA rfl (hf := rs_fill)) ?_ | refine QW_of (Qt_indexV rfl (hv := by with_reducible assumption)) ?_)) | (refine OX ?_; (first | refine OW_callP rfl (hF := results_fn) (hk := ?_)); try refine SD ?_) | refine RC ?_ | refine RU ?_ | refine WC_draw_all (id := 3) 9 (Cs [1,3] <| .must 0 <| .calm 2 <| .must 4 <| Cs [5,6,7,8] <| .done) mixed (by kernel_rfl) ?_)
    exact ⟨rfl, _, _, Res2 rfl (resV_tmp rfl) (resV_tmp rfl), .cons _ (.refl _), rfl, rfl⟩
end Go.Proofs.YtekmmhmhcpaiaaaGreat
