/-
  A part of what the last of these texts needs; by itself it proves no statement.
-/
import Derived.Test.YtekmmhmhcpaiaaaGreatKP9
namespace Go.Proofs.YtekmmhmhcpaiaaaGreat
open Go.RowKit
attribute [local irreducible] Fn WC WL WR OW Qt YieldFn QW FnP FnD
theorem Qt_indexX {c : Cx} {s : List (Nat × Value)} {L : List (Nat × Obj)} {o : Oper} {t len E n : Nat} [TUnd c.P t (.array len E)] [TSize c.P E n] [TAgg c.P E true] {x y : Operand} {k : IntKind} {i : Int} {vs ws : Array Value} (ho : o.op = .index t x y) (hx : ev s x = some (.agg vs) := by exact rfl) (hy : ev s y = some (.int k i) := by exact rfl) (hv : vs.extract (i.toNat * n) (i.toNat * n + n) = ws := by with_reducible assumption) (h0 : 0 ≤ i := by first | decide | with_reducible assumption | omega) (h1 : i < len := by first | decide | with_reducible assumption | omega) : Qt c s L o (.agg ws) := by
  subst hv
  exact Qt_indexA ho hx hy h0 h1
def inF (n lo hi : Int) : Bool := decide (lo ≤ n) && decide (n ≤ hi)
abbrev opC (k a b g : Int) : Array Value := #[.int .i64 k, .int .i64 a, .int .i64 b, .int .i64 g]
def mayF (k a b : Int) : Bool :=
  if k = 0 then true else if k = 1 then inF a 1 4294967295 && inF b 0 4294967295 else if k = 2 then inF a 1 1073741824 && inF b 0 (a - 1) else if k = 3 then inF a 1 3
  else if k = 5 then inF a 1 1073741824 && decide (1 ≤ b) && (a.tmod b == 0) && decide (a ≤ 4 * b) else inF a 1 1073741824 && (b == 0)
def clsF (k : Int) : Int := if 0 ≤ k ∧ k ≤ 3 then 0 else if 4 ≤ k ∧ k ≤ 6 then 1 else if k = 7 then 2 else -1
def opF (k a b g : Int) : Bool := decide (0 ≤ k) && decide (k ≤ 7) && decide (0 ≤ g) && decide (g ≤ if clsF k = 1 then 3 else 0) && mayF k a b
structure OpR (k a b g : Int) : Prop where
  k : -9223372036854775808 ≤ k ∧ k < 9223372036854775808
  a : -9223372036854775808 ≤ a ∧ a < 9223372036854775808
  b : -9223372036854775808 ≤ b ∧ b < 9223372036854775808
  g : -9223372036854775808 ≤ g ∧ g < 9223372036854775808
theorem inP_fn {n lo hi : Int} {L : List (Nat × Obj)} : Fn Tryz.prog 100 [.int .i64 n, .int .i64 lo, .int .i64 hi] L (fun v L' => v = .bool (inF n lo hi) ∧ L' = L) := by
  refine Fn_enter Tryz.func100 rfl Tryz.ntmps100 rfl fun gw => ?_
  by_cases h : lo ≤ n
  · have d : decide (n ≥ lo) = true := decide_eq_true h
    repeat (first | refine RQ ?_ | ((first | refine WL_Q ?_ | refine WL_Y ?_); (first | refine QW_of (Qt_buildA rfl (hf := kinds_fill)) ?_ | refine QW_of (Qt_indexX rfl) ?_ | refine QW_of (Qt_fieldV rfl) ?_)) | refine RC ?_ | refine WC_region ?_)
    refine ⟨rfl, _, _, Res1 rfl (resV_tmp rfl), .refl _, ?_, rfl⟩
    simp [inF, h]
  · have d : decide (n ≥ lo) = false := decide_eq_false h
    repeat (first | refine RQ ?_ | ((first | refine WL_Q ?_ | refine WL_Y ?_); (first | refine QW_of (Qt_buildA rfl (hf := kinds_fill)) ?_ | refine QW_of (Qt_indexX rfl) ?_ | refine QW_of (Qt_fieldV rfl) ?_)) | refine RC ?_ | refine WC_region ?_)
    refine ⟨rfl, _, _, Res1 rfl (resV_tmp rfl), .refl _, ?_, rfl⟩
    simp [inF, h]
theorem inR_fn {n lo hi : Int} {L : List (Nat × Obj)} : Fn Tryz.prog 158 [.int .i64 n, .int .i64 lo, .int .i64 hi] L (fun v L' => v = .bool (inF n lo hi) ∧ L' = L) := by
  refine Fn_enter Tryz.func158 rfl Tryz.ntmps158 rfl fun gw => ?_
  by_cases h : lo ≤ n
  · have d : decide (n ≥ lo) = true := decide_eq_true h
    repeat (first | refine RQ ?_ | ((first | refine WL_Q ?_ | refine WL_Y ?_); (first | refine QW_of (Qt_buildA rfl (hf := kinds_fill)) ?_ | refine QW_of (Qt_indexX rfl) ?_ | refine QW_of (Qt_fieldV rfl) ?_)) | refine RC ?_ | refine WC_region ?_)
    refine ⟨rfl, _, _, Res1 rfl (resV_tmp rfl), .refl _, ?_, rfl⟩
    simp [inF, h]
  · have d : decide (n ≥ lo) = false := decide_eq_false h
    repeat (first | refine RQ ?_ | ((first | refine WL_Q ?_ | refine WL_Y ?_); (first | refine QW_of (Qt_buildA rfl (hf := kinds_fill)) ?_ | refine QW_of (Qt_indexX rfl) ?_ | refine QW_of (Qt_fieldV rfl) ?_)) | refine RC ?_ | refine WC_region ?_)
    refine ⟨rfl, _, _, Res1 rfl (resV_tmp rfl), .refl _, ?_, rfl⟩
    simp [inF, h]
theorem sized_fn {k a b g : Int} {L : List (Nat × Obj)} : Fn Tryz.prog 103 [.agg (opC k a b g)] L (fun v L' => v = .bool (inF a 1 1073741824) ∧ L' = L) := by
  refine Fn_enter Tryz.func103 rfl Tryz.ntmps103 rfl fun gw => ?_
  repeat (first | refine RQ ?_ | (refine WL_Q ?_; (first | refine QW_of (Qt_buildA rfl (hf := kinds_fill)) ?_ | refine QW_of (Qt_indexX rfl) ?_ | refine QW_of (Qt_fieldV rfl) ?_)) | (refine RE ?_; try intro _) | (refine WL_op rfl ?_; (first | refine OW_callP rfl (hF := inP_fn) (hk := ?_))) | refine RC ?_ | refine WC_region ?_)
  exact ⟨rfl, _, _, Res1 rfl (resV_tmp rfl), .cons _ (.refl _), rfl, rfl⟩
theorem may0_fn {k a b g : Int} {L : List (Nat × Obj)} : Fn Tryz.prog 97 [.agg (opC k a b g)] L (fun v L' => v = .bool (true) ∧ L' = L) := by
  refine Fn_enter Tryz.func97 rfl Tryz.ntmps97 rfl fun gw => ?_
  repeat (first | refine RQ ?_ | (refine WL_Q ?_; (first | refine QW_of (Qt_buildA rfl (hf := kinds_fill)) ?_ | refine QW_of (Qt_indexX rfl) ?_ | refine QW_of (Qt_fieldV rfl) ?_)) | (refine RE ?_; try intro _) | refine RC ?_ | refine WC_region ?_)
  exact ⟨rfl, _, _, Res1 rfl (resV_tmp rfl), .cons _ (.refl _), rfl, rfl⟩
theorem may3_fn {k a b g : Int} {L : List (Nat × Obj)} : Fn Tryz.prog 105 [.agg (opC k a b g)] L (fun v L' => v = .bool (inF a 1 3) ∧ L' = L) := by
  refine Fn_enter Tryz.func105 rfl Tryz.ntmps105 rfl fun gw => ?_
  repeat (first | refine RQ ?_ | (refine WL_Q ?_; (first | refine QW_of (Qt_buildA rfl (hf := kinds_fill)) ?_ | refine QW_of (Qt_indexX rfl) ?_ | refine QW_of (Qt_fieldV rfl) ?_)) | (refine RE ?_; try intro _) | (refine WL_op rfl ?_; (first | refine OW_callP rfl (hF := inP_fn) (hk := ?_))) | refine RC ?_ | refine WC_region ?_)
  exact ⟨rfl, _, _, Res1 rfl (resV_tmp rfl), .cons _ (.refl _), rfl, rfl⟩
theorem plain_fn {k a b g : Int} {L : List (Nat × Obj)} : Fn Tryz.prog 107 [.agg (opC k a b g)] L (fun v L' => v = .bool (inF a 1 1073741824 && (b == 0)) ∧ L' = L) := by
  refine Fn_enter Tryz.func107 rfl Tryz.ntmps107 rfl fun gw => ?_
  cases h : inF a 1 1073741824
  · repeat (first | refine RQ ?_ | ((first | refine WL_Q ?_ | refine WL_Y ?_); (first | refine QW_of (Qt_buildA rfl (hf := kinds_fill)) ?_ | refine QW_of (Qt_indexX rfl) ?_ | refine QW_of (Qt_fieldV rfl) ?_)) | (refine RE ?_; try intro _) | ((first | refine WL_op rfl ?_ | refine WL_yes (h := ?_)); (first | refine OW_callP rfl (hF := sized_fn) (hk := ?_))) | refine RC ?_ | refine WC_region ?_)
    refine ⟨rfl, _, _, Res1 rfl (resV_tmp rfl), .cons _ (.refl _), ?_, rfl⟩
    rfl
  · repeat (first | refine RQ ?_ | ((first | refine WL_Q ?_ | refine WL_Y ?_); (first | refine QW_of (Qt_buildA rfl (hf := kinds_fill)) ?_ | refine QW_of (Qt_indexX rfl) ?_ | refine QW_of (Qt_fieldV rfl) ?_)) | (refine RE ?_; try intro _) | ((first | refine WL_op rfl ?_ | refine WL_yes (h := ?_)); (first | refine OW_callP rfl (hF := sized_fn) (hk := ?_))) | refine RC ?_ | refine WC_region ?_)
    refine ⟨rfl, _, _, Res1 rfl (resV_tmp rfl), .cons _ (.refl _), ?_, rfl⟩
    rfl
theorem may1_fn {k a b g : Int} {L : List (Nat × Obj)} : Fn Tryz.prog 99 [.agg (opC k a b g)] L (fun v L' => v = .bool (inF a 1 4294967295 && inF b 0 4294967295) ∧ L' = L) := by
  refine Fn_enter Tryz.func99 rfl Tryz.ntmps99 rfl fun gw => ?_
  cases h : inF a 1 4294967295
  · repeat (first | refine RQ ?_ | ((first | refine WL_Q ?_ | refine WL_Y ?_); (first | refine QW_of (Qt_buildA rfl (hf := kinds_fill)) ?_ | refine QW_of (Qt_indexX rfl) ?_ | refine QW_of (Qt_fieldV rfl) ?_)) | (refine RE ?_; try intro _) | ((first | refine WL_op rfl ?_ | refine WL_yes (h := ?_)); (first | refine OW_callP rfl (hF := inP_fn) (hk := ?_))) | refine RC ?_ | refine WC_region ?_)
    refine ⟨rfl, _, _, Res1 rfl (resV_tmp rfl), .cons _ (.refl _), ?_, rfl⟩
    rfl
  · repeat (first | refine RQ ?_ | ((first | refine WL_Q ?_ | refine WL_Y ?_); (first | refine QW_of (Qt_buildA rfl (hf := kinds_fill)) ?_ | refine QW_of (Qt_indexX rfl) ?_ | refine QW_of (Qt_fieldV rfl) ?_)) | (refine RE ?_; try intro _) | ((first | refine WL_op rfl ?_ | refine WL_yes (h := ?_)); (first | refine OW_callP rfl (hF := inP_fn) (hk := ?_))) | refine RC ?_ | refine WC_region ?_)
    refine ⟨rfl, _, _, Res1 rfl (resV_tmp rfl), .cons _ (.refl _), ?_, rfl⟩
    rfl
theorem may2_fn {k a b g : Int} {L : List (Nat × Obj)} : Fn Tryz.prog 102 [.agg (opC k a b g)] L (fun v L' => v = .bool (inF a 1 1073741824 && inF b 0 (a - 1)) ∧ L' = L) := by
  refine Fn_enter Tryz.func102 rfl Tryz.ntmps102 rfl fun gw => ?_
  cases h : inF a 1 1073741824
  · repeat (first | refine RQ ?_ | ((first | refine WL_Q ?_ | refine WL_Y ?_); (first | refine QW_of (Qt_buildA rfl (hf := kinds_fill)) ?_ | refine QW_of (Qt_indexX rfl) ?_ | refine QW_of (Qt_fieldV rfl) ?_)) | (refine RE ?_; try intro _) | ((first | refine WL_op rfl ?_ | refine WL_yes (h := ?_)); (first | refine OW_callP rfl (hF := inP_fn) (hk := ?_) | refine OW_callP rfl (hF := sized_fn) (hk := ?_))) | refine RC ?_ | refine WC_region ?_)
    refine ⟨rfl, _, _, Res1 rfl (resV_tmp rfl), .cons _ (.refl _), ?_, rfl⟩
    rfl
  · repeat (first | refine RQ ?_ | ((first | refine WL_Q ?_ | refine WL_Y ?_); (first | refine QW_of (Qt_buildA rfl (hf := kinds_fill)) ?_ | refine QW_of (Qt_indexX rfl) ?_ | refine QW_of (Qt_fieldV rfl) ?_)) | (refine RE ?_; try intro _) | ((first | refine WL_op rfl ?_ | refine WL_yes (h := ?_)); (first | refine OW_callP rfl (hF := inP_fn) (hk := ?_) | refine OW_callP rfl (hF := sized_fn) (hk := ?_))) | refine RC ?_ | refine WC_region ?_)
    refine ⟨rfl, _, _, Res1 rfl (resV_tmp rfl), .cons _ (.refl _), ?_, rfl⟩
    have : 1 ≤ a ∧ a ≤ 1073741824 := by simpa [inF] using h
    rw [wI64 (by omega) (by omega)]; rfl
set_option maxHeartbeats 4000000 in
theorem may5_fn {k a b g : Int} {L : List (Nat × Obj)} : Fn Tryz.prog 108 [.agg (opC k a b g)] L (fun v L' => v = .bool (mayF 5 a b) ∧ L' = L) := by
  refine Fn_enter Tryz.func108 rfl Tryz.ntmps108 rfl fun gw => ?_
  have e : mayF 5 a b = (inF a 1 1073741824 && decide (1 ≤ b) && (a.tmod b == 0) && decide (a ≤ 4 * b)) := rfl
  rw [e]
  cases h1 : inF a 1 1073741824
  · repeat (first | refine RQ ?_ | ((first | refine WL_Q ?_ | refine WL_Y ?_); (first | refine QW_of (Qt_buildA rfl (hf := kinds_fill)) ?_ | refine QW_of (Qt_indexX rfl) ?_ | refine QW_of (Qt_fieldV rfl) ?_)) | (refine RE ?_; try intro _) | ((first | refine WL_op rfl ?_ | refine WL_yes (h := ?_)); (first | refine OW_callP rfl (hF := sized_fn) (hk := ?_))) | refine RC ?_ | refine WC_region ?_)
    exact ⟨rfl, _, _, Res1 rfl (resV_tmp rfl), .cons _ (.refl _), rfl, rfl⟩
  have ha : 1 ≤ a ∧ a ≤ 1073741824 := by simpa [inF] using h1
  by_cases h2 : 1 ≤ b
  · have d2 : decide (b ≥ 1) = true := decide_eq_true h2
    have hne : b ≠ 0 := by omega
    cases h3 : (a.tmod b == 0)
    · repeat (first | refine RQ ?_ | ((first | refine WL_Q ?_ | refine WL_Y ?_); (first | refine QW_of (Qt_buildA rfl (hf := kinds_fill)) ?_ | refine QW_of (Qt_indexX rfl) ?_ | refine QW_of (Qt_fieldV rfl) ?_)) | (refine RE ?_; try intro _) | ((first | refine WL_op rfl ?_ | refine WL_yes (h := ?_)); (first | refine OW_callP rfl (hF := sized_fn) (hk := ?_))) | refine RC ?_ | refine WC_region ?_)
      refine ⟨rfl, _, _, Res1 rfl (resV_tmp rfl), .cons _ (.refl _), ?_, rfl⟩
      simp [h2]
    · have hba : b ≤ a := by
        have h4 : a.tmod b = 0 := by simpa using h3
        rcases Int.lt_or_le a b with hl | hl
        · rw [Int.tmod_eq_of_lt (by omega) hl] at h4; omega
        · exact hl
      repeat (first | refine RQ ?_ | ((first | refine WL_Q ?_ | refine WL_Y ?_); (first | refine QW_of (Qt_buildA rfl (hf := kinds_fill)) ?_ | refine QW_of (Qt_indexX rfl) ?_ | refine QW_of (Qt_fieldV rfl) ?_)) | (refine RE ?_; try intro _) | ((first | refine WL_op rfl ?_ | refine WL_yes (h := ?_)); (first | refine OW_callP rfl (hF := sized_fn) (hk := ?_))) | refine RC ?_ | refine WC_region ?_)
      refine ⟨rfl, _, _, Res1 rfl (resV_tmp rfl), .cons _ (.refl _), ?_, rfl⟩
      rw [wI64 (x := 4 * b) (by omega) (by omega)]
      simp [h2]
  · have d2 : decide (b ≥ 1) = false := decide_eq_false h2
    repeat (first | refine RQ ?_ | ((first | refine WL_Q ?_ | refine WL_Y ?_); (first | refine QW_of (Qt_buildA rfl (hf := kinds_fill)) ?_ | refine QW_of (Qt_indexX rfl) ?_ | refine QW_of (Qt_fieldV rfl) ?_)) | (refine RE ?_; try intro _) | ((first | refine WL_op rfl ?_ | refine WL_yes (h := ?_)); (first | refine OW_callP rfl (hF := sized_fn) (hk := ?_))) | refine RC ?_ | refine WC_region ?_)
    refine ⟨rfl, _, _, Res1 rfl (resV_tmp rfl), .cons _ (.refl _), ?_, rfl⟩
    simp [h2]
abbrev kdC (c : Int) (m w : Value) : Array Value := #[.int .i64 c, m, w]
abbrev fV (n : Nat) : Value := .func (.func n) #[] #[]
def kindsC : Array Value := #[.int .i64 0, fV 97, fV 98, .int .i64 0, fV 99, fV 101, .int .i64 0, fV 102, fV 104, .int .i64 0, fV 105, fV 106, .int .i64 1, fV 107, .nilFunc, .int .i64 1, fV 108, .nilFunc, .int .i64 1, fV 107, .nilFunc, .int .i64 2, fV 107, .nilFunc]
theorem kinds_fill : FilledA 3 zc139 [(0, .agg (kdC 0 (fV 97) (fV 98))), (1, .agg (kdC 0 (fV 99) (fV 101))), (2, .agg (kdC 0 (fV 102) (fV 104))), (3, .agg (kdC 0 (fV 105) (fV 106))), (4, .agg (kdC 1 (fV 107) .nilFunc)), (5, .agg (kdC 1 (fV 108) .nilFunc)), (6, .agg (kdC 1 (fV 107) .nilFunc)), (7, .agg (kdC 2 (fV 107) .nilFunc))] kindsC := by
  repeat (first | exact rfl | refine ⟨rfl, Nat.le_of_ble_eq_true rfl, ?_⟩)
instance : TBuildA Tryz.prog 139 zc139 3 := ⟨fun _ => by kernel_rfl⟩
theorem kinds_fn {L : List (Nat × Obj)} : Fn Tryz.prog 54 [] L (fun v L' => v = .agg kindsC ∧ L' = L) := by
  refine Fn_enter Tryz.func54 rfl Tryz.ntmps54 rfl fun gw => ?_
  have hone : (kindsC.toList.all fun v => v.oneCell') = true := rfl
  repeat (first | refine RQ ?_ | (refine WL_Q ?_; (first | refine QW_of (Qt_buildA rfl (hf := kinds_fill)) ?_ | refine QW_of (Qt_indexX rfl) ?_ | refine QW_of (Qt_fieldV rfl) ?_)) | (refine RE ?_; try intro _) | refine RC ?_ | refine WC_region ?_)
  exact ⟨rfl, _, _, Res1 rfl (resV_cellN rfl 0 rfl rfl), .cons _ (.refl _), rfl, rfl⟩
set_option maxHeartbeats 2000000 in
theorem Class_fn {k a b g : Int} {L : List (Nat × Obj)} : Fn Tryz.prog 24 [.agg (opC k a b g)] L (fun v L' => v = .int .i64 (clsF k) ∧ L' = L) := by
  refine Fn_enter Tryz.func24 rfl Tryz.ntmps24 rfl fun gw => ?_
  by_cases h0 : k < 0
  · have d0 : decide (k < 0) = true := decide_eq_true h0
    repeat (first | refine RQr ?_ | ((first | refine WL_Q ?_ | refine WL_Y ?_ | refine WR_Q rfl ?_ | refine WR_late rfl rfl rfl (OW_Q ?_) | refine WR_Y rfl ?_); (first | refine QW_of (Qt_buildA rfl (hf := kinds_fill)) ?_ | refine QW_of (Qt_indexX rfl) ?_ | refine QW_of (Qt_fieldV rfl) ?_)) | ((first | refine WL_op rfl ?_ | refine WL_yes (h := ?_) | refine WR_late rfl rfl rfl ?_ | refine WR_opG rfl rfl ?_ | refine WR_opYG rfl (h := ?_)); (first | (refine OE ?_; try intro _) | refine OW_callP rfl (hF := kinds_fn) (hk := ?_)); try refine SD ?_) | refine RC ?_ | refine RU ?_ | refine WC_draw_all (id := 3) 6 (Cs [1,2] <| .must 0 <| Cs [3,4,5] <| .done) mixed (by kernel_rfl) ?_ | refine WC_region ?_)
    refine ⟨rfl, _, _, Res1 rfl (resV_tmp rfl), .cons _ (.refl _), ?_, rfl⟩
    unfold clsF; rw [if_neg (by omega), if_neg (by omega), if_neg (by omega)]
  have d0 : decide (k < 0) = false := decide_eq_false h0
  by_cases h7 : k > 7
  · have d7 : decide (k > 7) = true := decide_eq_true h7
    repeat (first | refine RQr ?_ | ((first | refine WL_Q ?_ | refine WL_Y ?_ | refine WR_Q rfl ?_ | refine WR_late rfl rfl rfl (OW_Q ?_) | refine WR_Y rfl ?_); (first | refine QW_of (Qt_buildA rfl (hf := kinds_fill)) ?_ | refine QW_of (Qt_indexX rfl) ?_ | refine QW_of (Qt_fieldV rfl) ?_)) | ((first | refine WL_op rfl ?_ | refine WL_yes (h := ?_) | refine WR_late rfl rfl rfl ?_ | refine WR_opG rfl rfl ?_ | refine WR_opYG rfl (h := ?_)); (first | (refine OE ?_; try intro _) | refine OW_callP rfl (hF := kinds_fn) (hk := ?_)); try refine SD ?_) | refine RC ?_ | refine RU ?_ | refine WC_draw_all (id := 3) 6 (Cs [1,2] <| .must 0 <| Cs [3,4,5] <| .done) mixed (by kernel_rfl) ?_ | refine WC_region ?_)
    refine ⟨rfl, _, _, Res1 rfl (resV_tmp rfl), .cons _ (.refl _), ?_, rfl⟩
    unfold clsF; rw [if_neg (by omega), if_neg (by omega), if_neg (by omega)]
  have d7 : decide (k > 7) = false := decide_eq_false h7
  have p0 : 0 ≤ k := by omega
  have p1 : k < ((8 : Nat) : Int) := by omega
  have hk : k = 0 ∨ k = 1 ∨ k = 2 ∨ k = 3 ∨ k = 4 ∨ k = 5 ∨ k = 6 ∨ k = 7 := by omega
  rcases hk with rfl | rfl | rfl | rfl | rfl | rfl | rfl | rfl
  · have hx : kindsC.extract ((0 : Int).toNat * 3) ((0 : Int).toNat * 3 + 3) = (kdC 0 (fV 97) (fV 98)) := rfl
    repeat (first | refine RQr ?_ | ((first | refine WL_Q ?_ | refine WL_Y ?_ | refine WR_Q rfl ?_ | refine WR_late rfl rfl rfl (OW_Q ?_) | refine WR_Y rfl ?_); (first | refine QW_of (Qt_buildA rfl (hf := kinds_fill)) ?_ | refine QW_of (Qt_indexX rfl) ?_ | refine QW_of (Qt_fieldV rfl) ?_)) | ((first | refine WL_op rfl ?_ | refine WL_yes (h := ?_) | refine WR_late rfl rfl rfl ?_ | refine WR_opG rfl rfl ?_ | refine WR_opYG rfl (h := ?_)); (first | (refine OE ?_; try intro _) | refine OW_callP rfl (hF := kinds_fn) (hk := ?_)); try refine SD ?_) | refine RC ?_ | refine RU ?_ | refine WC_draw_all (id := 3) 6 (Cs [1,2] <| .must 0 <| Cs [3,4,5] <| .done) mixed (by kernel_rfl) ?_ | refine WC_region ?_)
    exact ⟨rfl, _, _, Res1 rfl (resV_tmp rfl), .cons _ (.refl _), rfl, rfl⟩
  · have hx : kindsC.extract ((1 : Int).toNat * 3) ((1 : Int).toNat * 3 + 3) = (kdC 0 (fV 99) (fV 101)) := rfl
    repeat (first | refine RQr ?_ | ((first | refine WL_Q ?_ | refine WL_Y ?_ | refine WR_Q rfl ?_ | refine WR_late rfl rfl rfl (OW_Q ?_) | refine WR_Y rfl ?_); (first | refine QW_of (Qt_buildA rfl (hf := kinds_fill)) ?_ | refine QW_of (Qt_indexX rfl) ?_ | refine QW_of (Qt_fieldV rfl) ?_)) | ((first | refine WL_op rfl ?_ | refine WL_yes (h := ?_) | refine WR_late rfl rfl rfl ?_ | refine WR_opG rfl rfl ?_ | refine WR_opYG rfl (h := ?_)); (first | (refine OE ?_; try intro _) | refine OW_callP rfl (hF := kinds_fn) (hk := ?_)); try refine SD ?_) | refine RC ?_ | refine RU ?_ | refine WC_draw_all (id := 3) 6 (Cs [1,2] <| .must 0 <| Cs [3,4,5] <| .done) mixed (by kernel_rfl) ?_ | refine WC_region ?_)
    exact ⟨rfl, _, _, Res1 rfl (resV_tmp rfl), .cons _ (.refl _), rfl, rfl⟩
  · have hx : kindsC.extract ((2 : Int).toNat * 3) ((2 : Int).toNat * 3 + 3) = (kdC 0 (fV 102) (fV 104)) := rfl
    repeat (first | refine RQr ?_ | ((first | refine WL_Q ?_ | refine WL_Y ?_ | refine WR_Q rfl ?_ | refine WR_late rfl rfl rfl (OW_Q ?_) | refine WR_Y rfl ?_); (first | refine QW_of (Qt_buildA rfl (hf := kinds_fill)) ?_ | refine QW_of (Qt_indexX rfl) ?_ | refine QW_of (Qt_fieldV rfl) ?_)) | ((first | refine WL_op rfl ?_ | refine WL_yes (h := ?_) | refine WR_late rfl rfl rfl ?_ | refine WR_opG rfl rfl ?_ | refine WR_opYG rfl (h := ?_)); (first | (refine OE ?_; try intro _) | refine OW_callP rfl (hF := kinds_fn) (hk := ?_)); try refine SD ?_) | refine RC ?_ | refine RU ?_ | refine WC_draw_all (id := 3) 6 (Cs [1,2] <| .must 0 <| Cs [3,4,5] <| .done) mixed (by kernel_rfl) ?_ | refine WC_region ?_)
    exact ⟨rfl, _, _, Res1 rfl (resV_tmp rfl), .cons _ (.refl _), rfl, rfl⟩
  · have hx : kindsC.extract ((3 : Int).toNat * 3) ((3 : Int).toNat * 3 + 3) = (kdC 0 (fV 105) (fV 106)) := rfl
    repeat (first | refine RQr ?_ | ((first | refine WL_Q ?_ | refine WL_Y ?_ | refine WR_Q rfl ?_ | refine WR_late rfl rfl rfl (OW_Q ?_) | refine WR_Y rfl ?_); (first | refine QW_of (Qt_buildA rfl (hf := kinds_fill)) ?_ | refine QW_of (Qt_indexX rfl) ?_ | refine QW_of (Qt_fieldV rfl) ?_)) | ((first | refine WL_op rfl ?_ | refine WL_yes (h := ?_) | refine WR_late rfl rfl rfl ?_ | refine WR_opG rfl rfl ?_ | refine WR_opYG rfl (h := ?_)); (first | (refine OE ?_; try intro _) | refine OW_callP rfl (hF := kinds_fn) (hk := ?_)); try refine SD ?_) | refine RC ?_ | refine RU ?_ | refine WC_draw_all (id := 3) 6 (Cs [1,2] <| .must 0 <| Cs [3,4,5] <| .done) mixed (by kernel_rfl) ?_ | refine WC_region ?_)
    exact ⟨rfl, _, _, Res1 rfl (resV_tmp rfl), .cons _ (.refl _), rfl, rfl⟩
  · have hx : kindsC.extract ((4 : Int).toNat * 3) ((4 : Int).toNat * 3 + 3) = (kdC 1 (fV 107) .nilFunc) := rfl
    repeat (first | refine RQr ?_ | ((first | refine WL_Q ?_ | refine WL_Y ?_ | refine WR_Q rfl ?_ | refine WR_late rfl rfl rfl (OW_Q ?_) | refine WR_Y rfl ?_); (first | refine QW_of (Qt_buildA rfl (hf := kinds_fill)) ?_ | refine QW_of (Qt_indexX rfl) ?_ | refine QW_of (Qt_fieldV rfl) ?_)) | ((first | refine WL_op rfl ?_ | refine WL_yes (h := ?_) | refine WR_late rfl rfl rfl ?_ | refine WR_opG rfl rfl ?_ | refine WR_opYG rfl (h := ?_)); (first | (refine OE ?_; try intro _) | refine OW_callP rfl (hF := kinds_fn) (hk := ?_)); try refine SD ?_) | refine RC ?_ | refine RU ?_ | refine WC_draw_all (id := 3) 6 (Cs [1,2] <| .must 0 <| Cs [3,4,5] <| .done) mixed (by kernel_rfl) ?_ | refine WC_region ?_)
    exact ⟨rfl, _, _, Res1 rfl (resV_tmp rfl), .cons _ (.refl _), rfl, rfl⟩
  · have hx : kindsC.extract ((5 : Int).toNat * 3) ((5 : Int).toNat * 3 + 3) = (kdC 1 (fV 108) .nilFunc) := rfl
    repeat (first | refine RQr ?_ | ((first | refine WL_Q ?_ | refine WL_Y ?_ | refine WR_Q rfl ?_ | refine WR_late rfl rfl rfl (OW_Q ?_) | refine WR_Y rfl ?_); (first | refine QW_of (Qt_buildA rfl (hf := kinds_fill)) ?_ | refine QW_of (Qt_indexX rfl) ?_ | refine QW_of (Qt_fieldV rfl) ?_)) | ((first | refine WL_op rfl ?_ | refine WL_yes (h := ?_) | refine WR_late rfl rfl rfl ?_ | refine WR_opG rfl rfl ?_ | refine WR_opYG rfl (h := ?_)); (first | (refine OE ?_; try intro _) | refine OW_callP rfl (hF := kinds_fn) (hk := ?_)); try refine SD ?_) | refine RC ?_ | refine RU ?_ | refine WC_draw_all (id := 3) 6 (Cs [1,2] <| .must 0 <| Cs [3,4,5] <| .done) mixed (by kernel_rfl) ?_ | refine WC_region ?_)
    exact ⟨rfl, _, _, Res1 rfl (resV_tmp rfl), .cons _ (.refl _), rfl, rfl⟩
  · have hx : kindsC.extract ((6 : Int).toNat * 3) ((6 : Int).toNat * 3 + 3) = (kdC 1 (fV 107) .nilFunc) := rfl
    repeat (first | refine RQr ?_ | ((first | refine WL_Q ?_ | refine WL_Y ?_ | refine WR_Q rfl ?_ | refine WR_late rfl rfl rfl (OW_Q ?_) | refine WR_Y rfl ?_); (first | refine QW_of (Qt_buildA rfl (hf := kinds_fill)) ?_ | refine QW_of (Qt_indexX rfl) ?_ | refine QW_of (Qt_fieldV rfl) ?_)) | ((first | refine WL_op rfl ?_ | refine WL_yes (h := ?_) | refine WR_late rfl rfl rfl ?_ | refine WR_opG rfl rfl ?_ | refine WR_opYG rfl (h := ?_)); (first | (refine OE ?_; try intro _) | refine OW_callP rfl (hF := kinds_fn) (hk := ?_)); try refine SD ?_) | refine RC ?_ | refine RU ?_ | refine WC_draw_all (id := 3) 6 (Cs [1,2] <| .must 0 <| Cs [3,4,5] <| .done) mixed (by kernel_rfl) ?_ | refine WC_region ?_)
    exact ⟨rfl, _, _, Res1 rfl (resV_tmp rfl), .cons _ (.refl _), rfl, rfl⟩
  · have hx : kindsC.extract ((7 : Int).toNat * 3) ((7 : Int).toNat * 3 + 3) = (kdC 2 (fV 107) .nilFunc) := rfl
    repeat (first | refine RQr ?_ | ((first | refine WL_Q ?_ | refine WL_Y ?_ | refine WR_Q rfl ?_ | refine WR_late rfl rfl rfl (OW_Q ?_) | refine WR_Y rfl ?_); (first | refine QW_of (Qt_buildA rfl (hf := kinds_fill)) ?_ | refine QW_of (Qt_indexX rfl) ?_ | refine QW_of (Qt_fieldV rfl) ?_)) | ((first | refine WL_op rfl ?_ | refine WL_yes (h := ?_) | refine WR_late rfl rfl rfl ?_ | refine WR_opG rfl rfl ?_ | refine WR_opYG rfl (h := ?_)); (first | (refine OE ?_; try intro _) | refine OW_callP rfl (hF := kinds_fn) (hk := ?_)); try refine SD ?_) | refine RC ?_ | refine RU ?_ | refine WC_draw_all (id := 3) 6 (Cs [1,2] <| .must 0 <| Cs [3,4,5] <| .done) mixed (by kernel_rfl) ?_ | refine WC_region ?_)
    exact ⟨rfl, _, _, Res1 rfl (resV_tmp rfl), .cons _ (.refl _), rfl, rfl⟩
set_option maxHeartbeats 8000000 in
theorem Check_fn {k a b g : Int} {L : List (Nat × Obj)} : Fn Tryz.prog 72 [.agg (opC k a b g)] L (fun v L' => v = .int .i64 (if opF k a b g = true then 0 else 13) ∧ L' = L) := by
  refine Fn_enter Tryz.func72 rfl Tryz.ntmps72 rfl fun gw => ?_
  by_cases h0 : k < 0
  · have d0 : decide (k < 0) = true := decide_eq_true h0
    repeat (first | refine RQr ?_ | ((first | refine WL_Q ?_ | refine WL_Y ?_ | refine WR_Q rfl ?_ | refine WR_late rfl rfl rfl (OW_Q ?_) | refine WR_Y rfl ?_); (first | refine QW_of (Qt_buildA rfl (hf := kinds_fill)) ?_ | refine QW_of (Qt_indexX rfl) ?_ | refine QW_of (Qt_fieldV rfl) ?_)) | ((first | refine WL_op rfl ?_ | refine WL_yes (h := ?_) | refine WR_late rfl rfl rfl ?_ | refine WR_opG rfl rfl ?_ | refine WR_opYG rfl (h := ?_)); (first | (refine OE ?_; try intro _) | refine OW_callP rfl (hF := kinds_fn) (hk := ?_)); try refine SD ?_) | refine RC ?_ | refine RU ?_ | refine WC_draw_all (id := 3) 5 (Cs [1,2] <| .either 0 (.calm 3 <| .must 4 <| .must 5 <| .done) 4 (.must 0 <| .calm 3 <| .must 5 <| .done)) mixed (by kernel_rfl) ?_ | refine WC_region ?_)
    refine ⟨rfl, _, _, Res1 rfl (resV_tmp rfl), .cons _ (.refl _), ?_, rfl⟩
    rw [if_neg]; simp [opF]; omega
  have d0 : decide (k < 0) = false := decide_eq_false h0
  by_cases h7 : k > 7
  · have d7 : decide (k > 7) = true := decide_eq_true h7
    repeat (first | refine RQr ?_ | ((first | refine WL_Q ?_ | refine WL_Y ?_ | refine WR_Q rfl ?_ | refine WR_late rfl rfl rfl (OW_Q ?_) | refine WR_Y rfl ?_); (first | refine QW_of (Qt_buildA rfl (hf := kinds_fill)) ?_ | refine QW_of (Qt_indexX rfl) ?_ | refine QW_of (Qt_fieldV rfl) ?_)) | ((first | refine WL_op rfl ?_ | refine WL_yes (h := ?_) | refine WR_late rfl rfl rfl ?_ | refine WR_opG rfl rfl ?_ | refine WR_opYG rfl (h := ?_)); (first | (refine OE ?_; try intro _) | refine OW_callP rfl (hF := kinds_fn) (hk := ?_)); try refine SD ?_) | refine RC ?_ | refine RU ?_ | refine WC_draw_all (id := 3) 5 (Cs [1,2] <| .either 0 (.calm 3 <| .must 4 <| .must 5 <| .done) 4 (.must 0 <| .calm 3 <| .must 5 <| .done)) mixed (by kernel_rfl) ?_ | refine WC_region ?_)
    refine ⟨rfl, _, _, Res1 rfl (resV_tmp rfl), .cons _ (.refl _), ?_, rfl⟩
    rw [if_neg]; simp [opF]; omega
  have d7 : decide (k > 7) = false := decide_eq_false h7
  have hk : k = 0 ∨ k = 1 ∨ k = 2 ∨ k = 3 ∨ k = 4 ∨ k = 5 ∨ k = 6 ∨ k = 7 := by omega
  rcases hk with rfl | rfl | rfl | rfl | rfl | rfl | rfl | rfl
  · have hx : kindsC.extract ((0 : Int).toNat * 3) ((0 : Int).toNat * 3 + 3) = (kdC 0 (fV 97) (fV 98)) := rfl
    have eO : opF 0 a b g = (decide (0 ≤ g) && decide (g ≤ 0) && true) := rfl
    have hone : (((kdC 0 (fV 97) (fV 98))).toList.all fun v => v.oneCell') = true := rfl
    rw [eO]
    repeat (first | refine RQ ?_ | ((first | refine WL_Q ?_ | refine WL_Y ?_); (first | refine QW_of (Qt_buildA rfl (hf := kinds_fill)) ?_ | refine QW_of (Qt_indexX rfl) ?_ | refine QW_of (Qt_fieldV rfl) ?_)) | (refine RE ?_; try intro _) | refine RC ?_ | refine WG 0 ?_ | refine WG 1 ?_)
    rename_i x1
    refine WC_meet (fun σ => ∃ x3 : Nat, σ = ⟨[(3, .pointer (some ⟨x3, 0, none⟩)), (1, .pointer (some ⟨x1, 0, none⟩))], [], (x3, .cells (kdC 0 (fV 97) (fV 98)) 138 (0, 0)) :: (x1, .cells (opC 0 a b g) 59 (0, 0)) :: L⟩) ?_ ?_
    · repeat' (first | refine RQr ?_ | (refine RX ?_; (first | refine QW_of (Qt_buildA rfl (hf := kinds_fill)) ?_ | refine QW_of (Qt_indexX rfl) ?_ | refine QW_of (Qt_fieldV rfl) ?_)) | (refine OX ?_; (first | (refine OE ?_; try intro _) | refine OW_callP rfl (hF := kinds_fn) (hk := ?_)); try refine SD ?_) | refine RC ?_ | refine RU ?_ | refine WC_draw_all (id := 3) 5 (Cs [1,2] <| .either 0 (.calm 3 <| .must 4 <| .must 5 <| .done) 4 (.must 0 <| .calm 3 <| .must 5 <| .done)) mixed (by kernel_rfl) ?_ | refine WR_either ?_ ?_)
      all_goals exact ⟨_, ⟨_, rfl⟩, ⟨rfl, rfl, trivial⟩, rfl, .refl _⟩
    rintro _ ⟨x3, rfl⟩
    by_cases g0 : g < 0
    · have e0 : decide (g < 0) = true := decide_eq_true g0
      repeat (first | refine RQr ?_ | ((first | refine WL_Q ?_ | refine WL_Y ?_ | refine WR_Q rfl ?_ | refine WR_late rfl rfl rfl (OW_Q ?_) | refine WR_Y rfl ?_); (first | refine QW_of (Qt_buildA rfl (hf := kinds_fill)) ?_ | refine QW_of (Qt_indexX rfl) ?_ | refine QW_of (Qt_fieldV rfl) ?_)) | ((first | refine WL_op rfl ?_ | refine WL_yes (h := ?_) | refine WR_late rfl rfl rfl ?_ | refine WR_opG rfl rfl ?_ | refine WR_opYG rfl (h := ?_)); (first | (refine OE ?_; try intro _) | refine OW_callP rfl (hF := kinds_fn) (hk := ?_)); try refine SD ?_) | refine RC ?_ | refine RU ?_ | refine WC_draw_all (id := 3) 5 (Cs [1,2] <| .either 0 (.calm 3 <| .must 4 <| .must 5 <| .done) 4 (.must 0 <| .calm 3 <| .must 5 <| .done)) mixed (by kernel_rfl) ?_ | refine WC_region ?_)
      refine ⟨rfl, _, _, Res1 rfl (resV_tmp rfl), .cons _ (.cons _ (.refl _)), ?_, rfl⟩
      rw [if_neg]; simp; omega
    have e0 : decide (g < 0) = false := decide_eq_false g0
    by_cases g1 : g > 0
    · have e1 : decide (g > 0) = true := decide_eq_true g1
      repeat (first | refine RQr ?_ | ((first | refine WL_Q ?_ | refine WL_Y ?_ | refine WR_Q rfl ?_ | refine WR_late rfl rfl rfl (OW_Q ?_) | refine WR_Y rfl ?_); (first | refine QW_of (Qt_buildA rfl (hf := kinds_fill)) ?_ | refine QW_of (Qt_indexX rfl) ?_ | refine QW_of (Qt_fieldV rfl) ?_)) | ((first | refine WL_op rfl ?_ | refine WL_yes (h := ?_) | refine WR_late rfl rfl rfl ?_ | refine WR_opG rfl rfl ?_ | refine WR_opYG rfl (h := ?_)); (first | (refine OE ?_; try intro _) | refine OW_callP rfl (hF := kinds_fn) (hk := ?_)); try refine SD ?_) | refine RC ?_ | refine RU ?_ | refine WC_draw_all (id := 3) 5 (Cs [1,2] <| .either 0 (.calm 3 <| .must 4 <| .must 5 <| .done) 4 (.must 0 <| .calm 3 <| .must 5 <| .done)) mixed (by kernel_rfl) ?_ | refine WC_region ?_)
      refine ⟨rfl, _, _, Res1 rfl (resV_tmp rfl), .cons _ (.cons _ (.refl _)), ?_, rfl⟩
      rw [if_neg]; simp; omega
    have e1 : decide (g > 0) = false := decide_eq_false g1
    have e2 : (decide (0 ≤ g) && decide (g ≤ 0)) = true := by simp; omega
    repeat (first | refine RQr ?_ | ((first | refine WL_Q ?_ | refine WL_Y ?_ | refine WR_Q rfl ?_ | refine WR_late rfl rfl rfl (OW_Q ?_) | refine WR_Y rfl ?_); (first | refine QW_of (Qt_buildA rfl (hf := kinds_fill)) ?_ | refine QW_of (Qt_indexX rfl) ?_ | refine QW_of (Qt_fieldV rfl) ?_)) | ((first | refine WL_op rfl ?_ | refine WL_yes (h := ?_) | refine WR_late rfl rfl rfl ?_ | refine WR_opG rfl rfl ?_ | refine WR_opYG rfl (h := ?_)); (first | (refine OE ?_; try intro _) | refine OW_callP rfl (hF := kinds_fn) (hk := ?_)); try refine SD ?_) | refine RC ?_ | refine RU ?_ | refine WC_draw_all (id := 3) 5 (Cs [1,2] <| .either 0 (.calm 3 <| .must 4 <| .must 5 <| .done) 4 (.must 0 <| .calm 3 <| .must 5 <| .done)) mixed (by kernel_rfl) ?_ | refine WC_region ?_)
    refine WL_yes rfl rfl rfl (by first | with_reducible assumption | rfl) rfl (OW_callv rfl rfl rfl rfl rfl (may0_fn) ?_)
    rintro _ _ ⟨rfl, rfl⟩
    rw [e2, Bool.true_and]
    repeat (first | refine RQr ?_ | ((first | refine WL_Q ?_ | refine WL_Y ?_ | refine WR_Q rfl ?_ | refine WR_late rfl rfl rfl (OW_Q ?_) | refine WR_Y rfl ?_); (first | refine QW_of (Qt_buildA rfl (hf := kinds_fill)) ?_ | refine QW_of (Qt_indexX rfl) ?_ | refine QW_of (Qt_fieldV rfl) ?_)) | ((first | refine WL_op rfl ?_ | refine WL_yes (h := ?_) | refine WR_late rfl rfl rfl ?_ | refine WR_opG rfl rfl ?_ | refine WR_opYG rfl (h := ?_)); (first | (refine OE ?_; try intro _) | refine OW_callP rfl (hF := kinds_fn) (hk := ?_)); try refine SD ?_) | refine RC ?_ | refine RU ?_ | refine WC_draw_all (id := 3) 5 (Cs [1,2] <| .either 0 (.calm 3 <| .must 4 <| .must 5 <| .done) 4 (.must 0 <| .calm 3 <| .must 5 <| .done)) mixed (by kernel_rfl) ?_ | refine WC_region ?_)
    exact ⟨rfl, _, _, Res1 rfl (resV_tmp rfl), .cons _ (.cons _ (.refl _)), rfl, rfl⟩
  · have hx : kindsC.extract ((1 : Int).toNat * 3) ((1 : Int).toNat * 3 + 3) = (kdC 0 (fV 99) (fV 101)) := rfl
    have eO : opF 1 a b g = (decide (0 ≤ g) && decide (g ≤ 0) && (inF a 1 4294967295 && inF b 0 4294967295)) := rfl
    have hone : (((kdC 0 (fV 99) (fV 101))).toList.all fun v => v.oneCell') = true := rfl
    rw [eO]
    repeat (first | refine RQ ?_ | ((first | refine WL_Q ?_ | refine WL_Y ?_); (first | refine QW_of (Qt_buildA rfl (hf := kinds_fill)) ?_ | refine QW_of (Qt_indexX rfl) ?_ | refine QW_of (Qt_fieldV rfl) ?_)) | (refine RE ?_; try intro _) | refine RC ?_ | refine WG 0 ?_ | refine WG 1 ?_)
    rename_i x1
    refine WC_meet (fun σ => ∃ x3 : Nat, σ = ⟨[(3, .pointer (some ⟨x3, 0, none⟩)), (1, .pointer (some ⟨x1, 0, none⟩))], [], (x3, .cells (kdC 0 (fV 99) (fV 101)) 138 (0, 0)) :: (x1, .cells (opC 1 a b g) 59 (0, 0)) :: L⟩) ?_ ?_
    · repeat' (first | refine RQr ?_ | (refine RX ?_; (first | refine QW_of (Qt_buildA rfl (hf := kinds_fill)) ?_ | refine QW_of (Qt_indexX rfl) ?_ | refine QW_of (Qt_fieldV rfl) ?_)) | (refine OX ?_; (first | (refine OE ?_; try intro _) | refine OW_callP rfl (hF := kinds_fn) (hk := ?_)); try refine SD ?_) | refine RC ?_ | refine RU ?_ | refine WC_draw_all (id := 3) 5 (Cs [1,2] <| .either 0 (.calm 3 <| .must 4 <| .must 5 <| .done) 4 (.must 0 <| .calm 3 <| .must 5 <| .done)) mixed (by kernel_rfl) ?_ | refine WR_either ?_ ?_)
      all_goals exact ⟨_, ⟨_, rfl⟩, ⟨rfl, rfl, trivial⟩, rfl, .refl _⟩
    rintro _ ⟨x3, rfl⟩
    by_cases g0 : g < 0
    · have e0 : decide (g < 0) = true := decide_eq_true g0
      repeat (first | refine RQr ?_ | ((first | refine WL_Q ?_ | refine WL_Y ?_ | refine WR_Q rfl ?_ | refine WR_late rfl rfl rfl (OW_Q ?_) | refine WR_Y rfl ?_); (first | refine QW_of (Qt_buildA rfl (hf := kinds_fill)) ?_ | refine QW_of (Qt_indexX rfl) ?_ | refine QW_of (Qt_fieldV rfl) ?_)) | ((first | refine WL_op rfl ?_ | refine WL_yes (h := ?_) | refine WR_late rfl rfl rfl ?_ | refine WR_opG rfl rfl ?_ | refine WR_opYG rfl (h := ?_)); (first | (refine OE ?_; try intro _) | refine OW_callP rfl (hF := kinds_fn) (hk := ?_)); try refine SD ?_) | refine RC ?_ | refine RU ?_ | refine WC_draw_all (id := 3) 5 (Cs [1,2] <| .either 0 (.calm 3 <| .must 4 <| .must 5 <| .done) 4 (.must 0 <| .calm 3 <| .must 5 <| .done)) mixed (by kernel_rfl) ?_ | refine WC_region ?_)
      refine ⟨rfl, _, _, Res1 rfl (resV_tmp rfl), .cons _ (.cons _ (.refl _)), ?_, rfl⟩
      rw [if_neg]; simp; omega
    have e0 : decide (g < 0) = false := decide_eq_false g0
    by_cases g1 : g > 0
    · have e1 : decide (g > 0) = true := decide_eq_true g1
      repeat (first | refine RQr ?_ | ((first | refine WL_Q ?_ | refine WL_Y ?_ | refine WR_Q rfl ?_ | refine WR_late rfl rfl rfl (OW_Q ?_) | refine WR_Y rfl ?_); (first | refine QW_of (Qt_buildA rfl (hf := kinds_fill)) ?_ | refine QW_of (Qt_indexX rfl) ?_ | refine QW_of (Qt_fieldV rfl) ?_)) | ((first | refine WL_op rfl ?_ | refine WL_yes (h := ?_) | refine WR_late rfl rfl rfl ?_ | refine WR_opG rfl rfl ?_ | refine WR_opYG rfl (h := ?_)); (first | (refine OE ?_; try intro _) | refine OW_callP rfl (hF := kinds_fn) (hk := ?_)); try refine SD ?_) | refine RC ?_ | refine RU ?_ | refine WC_draw_all (id := 3) 5 (Cs [1,2] <| .either 0 (.calm 3 <| .must 4 <| .must 5 <| .done) 4 (.must 0 <| .calm 3 <| .must 5 <| .done)) mixed (by kernel_rfl) ?_ | refine WC_region ?_)
      refine ⟨rfl, _, _, Res1 rfl (resV_tmp rfl), .cons _ (.cons _ (.refl _)), ?_, rfl⟩
      rw [if_neg]; simp; omega
    have e1 : decide (g > 0) = false := decide_eq_false g1
    have e2 : (decide (0 ≤ g) && decide (g ≤ 0)) = true := by simp; omega
    repeat (first | refine RQr ?_ | ((first | refine WL_Q ?_ | refine WL_Y ?_ | refine WR_Q rfl ?_ | refine WR_late rfl rfl rfl (OW_Q ?_) | refine WR_Y rfl ?_); (first | refine QW_of (Qt_buildA rfl (hf := kinds_fill)) ?_ | refine QW_of (Qt_indexX rfl) ?_ | refine QW_of (Qt_fieldV rfl) ?_)) | ((first | refine WL_op rfl ?_ | refine WL_yes (h := ?_) | refine WR_late rfl rfl rfl ?_ | refine WR_opG rfl rfl ?_ | refine WR_opYG rfl (h := ?_)); (first | (refine OE ?_; try intro _) | refine OW_callP rfl (hF := kinds_fn) (hk := ?_)); try refine SD ?_) | refine RC ?_ | refine RU ?_ | refine WC_draw_all (id := 3) 5 (Cs [1,2] <| .either 0 (.calm 3 <| .must 4 <| .must 5 <| .done) 4 (.must 0 <| .calm 3 <| .must 5 <| .done)) mixed (by kernel_rfl) ?_ | refine WC_region ?_)
    refine WL_yes rfl rfl rfl (by first | with_reducible assumption | rfl) rfl (OW_callv rfl rfl rfl rfl rfl (may1_fn) ?_)
    rintro _ _ ⟨rfl, rfl⟩
    rw [e2, Bool.true_and]
    cases hm : (inF a 1 4294967295 && inF b 0 4294967295)
    · repeat (first | refine RQr ?_ | ((first | refine WL_Q ?_ | refine WL_Y ?_ | refine WR_Q rfl ?_ | refine WR_late rfl rfl rfl (OW_Q ?_) | refine WR_Y rfl ?_); (first | refine QW_of (Qt_buildA rfl (hf := kinds_fill)) ?_ | refine QW_of (Qt_indexX rfl) ?_ | refine QW_of (Qt_fieldV rfl) ?_)) | ((first | refine WL_op rfl ?_ | refine WL_yes (h := ?_) | refine WR_late rfl rfl rfl ?_ | refine WR_opG rfl rfl ?_ | refine WR_opYG rfl (h := ?_)); (first | (refine OE ?_; try intro _) | refine OW_callP rfl (hF := kinds_fn) (hk := ?_)); try refine SD ?_) | refine RC ?_ | refine RU ?_ | refine WC_draw_all (id := 3) 5 (Cs [1,2] <| .either 0 (.calm 3 <| .must 4 <| .must 5 <| .done) 4 (.must 0 <| .calm 3 <| .must 5 <| .done)) mixed (by kernel_rfl) ?_ | refine WC_region ?_)
      exact ⟨rfl, _, _, Res1 rfl (resV_tmp rfl), .cons _ (.cons _ (.refl _)), rfl, rfl⟩
    · repeat (first | refine RQr ?_ | ((first | refine WL_Q ?_ | refine WL_Y ?_ | refine WR_Q rfl ?_ | refine WR_late rfl rfl rfl (OW_Q ?_) | refine WR_Y rfl ?_); (first | refine QW_of (Qt_buildA rfl (hf := kinds_fill)) ?_ | refine QW_of (Qt_indexX rfl) ?_ | refine QW_of (Qt_fieldV rfl) ?_)) | ((first | refine WL_op rfl ?_ | refine WL_yes (h := ?_) | refine WR_late rfl rfl rfl ?_ | refine WR_opG rfl rfl ?_ | refine WR_opYG rfl (h := ?_)); (first | (refine OE ?_; try intro _) | refine OW_callP rfl (hF := kinds_fn) (hk := ?_)); try refine SD ?_) | refine RC ?_ | refine RU ?_ | refine WC_draw_all (id := 3) 5 (Cs [1,2] <| .either 0 (.calm 3 <| .must 4 <| .must 5 <| .done) 4 (.must 0 <| .calm 3 <| .must 5 <| .done)) mixed (by kernel_rfl) ?_ | refine WC_region ?_)
      exact ⟨rfl, _, _, Res1 rfl (resV_tmp rfl), .cons _ (.cons _ (.refl _)), rfl, rfl⟩
  · have hx : kindsC.extract ((2 : Int).toNat * 3) ((2 : Int).toNat * 3 + 3) = (kdC 0 (fV 102) (fV 104)) := rfl
    have eO : opF 2 a b g = (decide (0 ≤ g) && decide (g ≤ 0) && (inF a 1 1073741824 && inF b 0 (a - 1))) := rfl
    have hone : (((kdC 0 (fV 102) (fV 104))).toList.all fun v => v.oneCell') = true := rfl
    rw [eO]
    repeat (first | refine RQ ?_ | ((first | refine WL_Q ?_ | refine WL_Y ?_); (first | refine QW_of (Qt_buildA rfl (hf := kinds_fill)) ?_ | refine QW_of (Qt_indexX rfl) ?_ | refine QW_of (Qt_fieldV rfl) ?_)) | (refine RE ?_; try intro _) | refine RC ?_ | refine WG 0 ?_ | refine WG 1 ?_)
    rename_i x1
    refine WC_meet (fun σ => ∃ x3 : Nat, σ = ⟨[(3, .pointer (some ⟨x3, 0, none⟩)), (1, .pointer (some ⟨x1, 0, none⟩))], [], (x3, .cells (kdC 0 (fV 102) (fV 104)) 138 (0, 0)) :: (x1, .cells (opC 2 a b g) 59 (0, 0)) :: L⟩) ?_ ?_
    · repeat' (first | refine RQr ?_ | (refine RX ?_; (first | refine QW_of (Qt_buildA rfl (hf := kinds_fill)) ?_ | refine QW_of (Qt_indexX rfl) ?_ | refine QW_of (Qt_fieldV rfl) ?_)) | (refine OX ?_; (first | (refine OE ?_; try intro _) | refine OW_callP rfl (hF := kinds_fn) (hk := ?_)); try refine SD ?_) | refine RC ?_ | refine RU ?_ | refine WC_draw_all (id := 3) 5 (Cs [1,2] <| .either 0 (.calm 3 <| .must 4 <| .must 5 <| .done) 4 (.must 0 <| .calm 3 <| .must 5 <| .done)) mixed (by kernel_rfl) ?_ | refine WR_either ?_ ?_)
      all_goals exact ⟨_, ⟨_, rfl⟩, ⟨rfl, rfl, trivial⟩, rfl, .refl _⟩
    rintro _ ⟨x3, rfl⟩
    by_cases g0 : g < 0
    · have e0 : decide (g < 0) = true := decide_eq_true g0
      repeat (first | refine RQr ?_ | ((first | refine WL_Q ?_ | refine WL_Y ?_ | refine WR_Q rfl ?_ | refine WR_late rfl rfl rfl (OW_Q ?_) | refine WR_Y rfl ?_); (first | refine QW_of (Qt_buildA rfl (hf := kinds_fill)) ?_ | refine QW_of (Qt_indexX rfl) ?_ | refine QW_of (Qt_fieldV rfl) ?_)) | ((first | refine WL_op rfl ?_ | refine WL_yes (h := ?_) | refine WR_late rfl rfl rfl ?_ | refine WR_opG rfl rfl ?_ | refine WR_opYG rfl (h := ?_)); (first | (refine OE ?_; try intro _) | refine OW_callP rfl (hF := kinds_fn) (hk := ?_)); try refine SD ?_) | refine RC ?_ | refine RU ?_ | refine WC_draw_all (id := 3) 5 (Cs [1,2] <| .either 0 (.calm 3 <| .must 4 <| .must 5 <| .done) 4 (.must 0 <| .calm 3 <| .must 5 <| .done)) mixed (by kernel_rfl) ?_ | refine WC_region ?_)
      refine ⟨rfl, _, _, Res1 rfl (resV_tmp rfl), .cons _ (.cons _ (.refl _)), ?_, rfl⟩
      rw [if_neg]; simp; omega
    have e0 : decide (g < 0) = false := decide_eq_false g0
    by_cases g1 : g > 0
    · have e1 : decide (g > 0) = true := decide_eq_true g1
      repeat (first | refine RQr ?_ | ((first | refine WL_Q ?_ | refine WL_Y ?_ | refine WR_Q rfl ?_ | refine WR_late rfl rfl rfl (OW_Q ?_) | refine WR_Y rfl ?_); (first | refine QW_of (Qt_buildA rfl (hf := kinds_fill)) ?_ | refine QW_of (Qt_indexX rfl) ?_ | refine QW_of (Qt_fieldV rfl) ?_)) | ((first | refine WL_op rfl ?_ | refine WL_yes (h := ?_) | refine WR_late rfl rfl rfl ?_ | refine WR_opG rfl rfl ?_ | refine WR_opYG rfl (h := ?_)); (first | (refine OE ?_; try intro _) | refine OW_callP rfl (hF := kinds_fn) (hk := ?_)); try refine SD ?_) | refine RC ?_ | refine RU ?_ | refine WC_draw_all (id := 3) 5 (Cs [1,2] <| .either 0 (.calm 3 <| .must 4 <| .must 5 <| .done) 4 (.must 0 <| .calm 3 <| .must 5 <| .done)) mixed (by kernel_rfl) ?_ | refine WC_region ?_)
      refine ⟨rfl, _, _, Res1 rfl (resV_tmp rfl), .cons _ (.cons _ (.refl _)), ?_, rfl⟩
      rw [if_neg]; simp; omega
    have e1 : decide (g > 0) = false := decide_eq_false g1
    have e2 : (decide (0 ≤ g) && decide (g ≤ 0)) = true := by simp; omega
    repeat (first | refine RQr ?_ | ((first | refine WL_Q ?_ | refine WL_Y ?_ | refine WR_Q rfl ?_ | refine WR_late rfl rfl rfl (OW_Q ?_) | refine WR_Y rfl ?_); (first | refine QW_of (Qt_buildA rfl (hf := kinds_fill)) ?_ | refine QW_of (Qt_indexX rfl) ?_ | refine QW_of (Qt_fieldV rfl) ?_)) | ((first | refine WL_op rfl ?_ | refine WL_yes (h := ?_) | refine WR_late rfl rfl rfl ?_ | refine WR_opG rfl rfl ?_ | refine WR_opYG rfl (h := ?_)); (first | (refine OE ?_; try intro _) | refine OW_callP rfl (hF := kinds_fn) (hk := ?_)); try refine SD ?_) | refine RC ?_ | refine RU ?_ | refine WC_draw_all (id := 3) 5 (Cs [1,2] <| .either 0 (.calm 3 <| .must 4 <| .must 5 <| .done) 4 (.must 0 <| .calm 3 <| .must 5 <| .done)) mixed (by kernel_rfl) ?_ | refine WC_region ?_)
    refine WL_yes rfl rfl rfl (by first | with_reducible assumption | rfl) rfl (OW_callv rfl rfl rfl rfl rfl (may2_fn) ?_)
    rintro _ _ ⟨rfl, rfl⟩
    rw [e2, Bool.true_and]
    cases hm : (inF a 1 1073741824 && inF b 0 (a - 1))
    · repeat (first | refine RQr ?_ | ((first | refine WL_Q ?_ | refine WL_Y ?_ | refine WR_Q rfl ?_ | refine WR_late rfl rfl rfl (OW_Q ?_) | refine WR_Y rfl ?_); (first | refine QW_of (Qt_buildA rfl (hf := kinds_fill)) ?_ | refine QW_of (Qt_indexX rfl) ?_ | refine QW_of (Qt_fieldV rfl) ?_)) | ((first | refine WL_op rfl ?_ | refine WL_yes (h := ?_) | refine WR_late rfl rfl rfl ?_ | refine WR_opG rfl rfl ?_ | refine WR_opYG rfl (h := ?_)); (first | (refine OE ?_; try intro _) | refine OW_callP rfl (hF := kinds_fn) (hk := ?_)); try refine SD ?_) | refine RC ?_ | refine RU ?_ | refine WC_draw_all (id := 3) 5 (Cs [1,2] <| .either 0 (.calm 3 <| .must 4 <| .must 5 <| .done) 4 (.must 0 <| .calm 3 <| .must 5 <| .done)) mixed (by kernel_rfl) ?_ | refine WC_region ?_)
      exact ⟨rfl, _, _, Res1 rfl (resV_tmp rfl), .cons _ (.cons _ (.refl _)), rfl, rfl⟩
    · repeat (first | refine RQr ?_ | ((first | refine WL_Q ?_ | refine WL_Y ?_ | refine WR_Q rfl ?_ | refine WR_late rfl rfl rfl (OW_Q ?_) | refine WR_Y rfl ?_); (first | refine QW_of (Qt_buildA rfl (hf := kinds_fill)) ?_ | refine QW_of (Qt_indexX rfl) ?_ | refine QW_of (Qt_fieldV rfl) ?_)) | ((first | refine WL_op rfl ?_ | refine WL_yes (h := ?_) | refine WR_late rfl rfl rfl ?_ | refine WR_opG rfl rfl ?_ | refine WR_opYG rfl (h := ?_)); (first | (refine OE ?_; try intro _) | refine OW_callP rfl (hF := kinds_fn) (hk := ?_)); try refine SD ?_) | refine RC ?_ | refine RU ?_ | refine WC_draw_all (id := 3) 5 (Cs [1,2] <| .either 0 (.calm 3 <| .must 4 <| .must 5 <| .done) 4 (.must 0 <| .calm 3 <| .must 5 <| .done)) mixed (by kernel_rfl) ?_ | refine WC_region ?_)
      exact ⟨rfl, _, _, Res1 rfl (resV_tmp rfl), .cons _ (.cons _ (.refl _)), rfl, rfl⟩
  · have hx : kindsC.extract ((3 : Int).toNat * 3) ((3 : Int).toNat * 3 + 3) = (kdC 0 (fV 105) (fV 106)) := rfl
    have eO : opF 3 a b g = (decide (0 ≤ g) && decide (g ≤ 0) && inF a 1 3) := rfl
    have hone : (((kdC 0 (fV 105) (fV 106))).toList.all fun v => v.oneCell') = true := rfl
    rw [eO]
    repeat (first | refine RQ ?_ | ((first | refine WL_Q ?_ | refine WL_Y ?_); (first | refine QW_of (Qt_buildA rfl (hf := kinds_fill)) ?_ | refine QW_of (Qt_indexX rfl) ?_ | refine QW_of (Qt_fieldV rfl) ?_)) | (refine RE ?_; try intro _) | refine RC ?_ | refine WG 0 ?_ | refine WG 1 ?_)
    rename_i x1
    refine WC_meet (fun σ => ∃ x3 : Nat, σ = ⟨[(3, .pointer (some ⟨x3, 0, none⟩)), (1, .pointer (some ⟨x1, 0, none⟩))], [], (x3, .cells (kdC 0 (fV 105) (fV 106)) 138 (0, 0)) :: (x1, .cells (opC 3 a b g) 59 (0, 0)) :: L⟩) ?_ ?_
    · repeat' (first | refine RQr ?_ | (refine RX ?_; (first | refine QW_of (Qt_buildA rfl (hf := kinds_fill)) ?_ | refine QW_of (Qt_indexX rfl) ?_ | refine QW_of (Qt_fieldV rfl) ?_)) | (refine OX ?_; (first | (refine OE ?_; try intro _) | refine OW_callP rfl (hF := kinds_fn) (hk := ?_)); try refine SD ?_) | refine RC ?_ | refine RU ?_ | refine WC_draw_all (id := 3) 5 (Cs [1,2] <| .either 0 (.calm 3 <| .must 4 <| .must 5 <| .done) 4 (.must 0 <| .calm 3 <| .must 5 <| .done)) mixed (by kernel_rfl) ?_ | refine WR_either ?_ ?_)
      all_goals exact ⟨_, ⟨_, rfl⟩, ⟨rfl, rfl, trivial⟩, rfl, .refl _⟩
    rintro _ ⟨x3, rfl⟩
    by_cases g0 : g < 0
    · have e0 : decide (g < 0) = true := decide_eq_true g0
      repeat (first | refine RQr ?_ | ((first | refine WL_Q ?_ | refine WL_Y ?_ | refine WR_Q rfl ?_ | refine WR_late rfl rfl rfl (OW_Q ?_) | refine WR_Y rfl ?_); (first | refine QW_of (Qt_buildA rfl (hf := kinds_fill)) ?_ | refine QW_of (Qt_indexX rfl) ?_ | refine QW_of (Qt_fieldV rfl) ?_)) | ((first | refine WL_op rfl ?_ | refine WL_yes (h := ?_) | refine WR_late rfl rfl rfl ?_ | refine WR_opG rfl rfl ?_ | refine WR_opYG rfl (h := ?_)); (first | (refine OE ?_; try intro _) | refine OW_callP rfl (hF := kinds_fn) (hk := ?_)); try refine SD ?_) | refine RC ?_ | refine RU ?_ | refine WC_draw_all (id := 3) 5 (Cs [1,2] <| .either 0 (.calm 3 <| .must 4 <| .must 5 <| .done) 4 (.must 0 <| .calm 3 <| .must 5 <| .done)) mixed (by kernel_rfl) ?_ | refine WC_region ?_)
      refine ⟨rfl, _, _, Res1 rfl (resV_tmp rfl), .cons _ (.cons _ (.refl _)), ?_, rfl⟩
      rw [if_neg]; simp; omega
    have e0 : decide (g < 0) = false := decide_eq_false g0
    by_cases g1 : g > 0
    · have e1 : decide (g > 0) = true := decide_eq_true g1
      repeat (first | refine RQr ?_ | ((first | refine WL_Q ?_ | refine WL_Y ?_ | refine WR_Q rfl ?_ | refine WR_late rfl rfl rfl (OW_Q ?_) | refine WR_Y rfl ?_); (first | refine QW_of (Qt_buildA rfl (hf := kinds_fill)) ?_ | refine QW_of (Qt_indexX rfl) ?_ | refine QW_of (Qt_fieldV rfl) ?_)) | ((first | refine WL_op rfl ?_ | refine WL_yes (h := ?_) | refine WR_late rfl rfl rfl ?_ | refine WR_opG rfl rfl ?_ | refine WR_opYG rfl (h := ?_)); (first | (refine OE ?_; try intro _) | refine OW_callP rfl (hF := kinds_fn) (hk := ?_)); try refine SD ?_) | refine RC ?_ | refine RU ?_ | refine WC_draw_all (id := 3) 5 (Cs [1,2] <| .either 0 (.calm 3 <| .must 4 <| .must 5 <| .done) 4 (.must 0 <| .calm 3 <| .must 5 <| .done)) mixed (by kernel_rfl) ?_ | refine WC_region ?_)
      refine ⟨rfl, _, _, Res1 rfl (resV_tmp rfl), .cons _ (.cons _ (.refl _)), ?_, rfl⟩
      rw [if_neg]; simp; omega
    have e1 : decide (g > 0) = false := decide_eq_false g1
    have e2 : (decide (0 ≤ g) && decide (g ≤ 0)) = true := by simp; omega
    repeat (first | refine RQr ?_ | ((first | refine WL_Q ?_ | refine WL_Y ?_ | refine WR_Q rfl ?_ | refine WR_late rfl rfl rfl (OW_Q ?_) | refine WR_Y rfl ?_); (first | refine QW_of (Qt_buildA rfl (hf := kinds_fill)) ?_ | refine QW_of (Qt_indexX rfl) ?_ | refine QW_of (Qt_fieldV rfl) ?_)) | ((first | refine WL_op rfl ?_ | refine WL_yes (h := ?_) | refine WR_late rfl rfl rfl ?_ | refine WR_opG rfl rfl ?_ | refine WR_opYG rfl (h := ?_)); (first | (refine OE ?_; try intro _) | refine OW_callP rfl (hF := kinds_fn) (hk := ?_)); try refine SD ?_) | refine RC ?_ | refine RU ?_ | refine WC_draw_all (id := 3) 5 (Cs [1,2] <| .either 0 (.calm 3 <| .must 4 <| .must 5 <| .done) 4 (.must 0 <| .calm 3 <| .must 5 <| .done)) mixed (by kernel_rfl) ?_ | refine WC_region ?_)
    refine WL_yes rfl rfl rfl (by first | with_reducible assumption | rfl) rfl (OW_callv rfl rfl rfl rfl rfl (may3_fn) ?_)
    rintro _ _ ⟨rfl, rfl⟩
    rw [e2, Bool.true_and]
    cases hm : inF a 1 3
    · repeat (first | refine RQr ?_ | ((first | refine WL_Q ?_ | refine WL_Y ?_ | refine WR_Q rfl ?_ | refine WR_late rfl rfl rfl (OW_Q ?_) | refine WR_Y rfl ?_); (first | refine QW_of (Qt_buildA rfl (hf := kinds_fill)) ?_ | refine QW_of (Qt_indexX rfl) ?_ | refine QW_of (Qt_fieldV rfl) ?_)) | ((first | refine WL_op rfl ?_ | refine WL_yes (h := ?_) | refine WR_late rfl rfl rfl ?_ | refine WR_opG rfl rfl ?_ | refine WR_opYG rfl (h := ?_)); (first | (refine OE ?_; try intro _) | refine OW_callP rfl (hF := kinds_fn) (hk := ?_)); try refine SD ?_) | refine RC ?_ | refine RU ?_ | refine WC_draw_all (id := 3) 5 (Cs [1,2] <| .either 0 (.calm 3 <| .must 4 <| .must 5 <| .done) 4 (.must 0 <| .calm 3 <| .must 5 <| .done)) mixed (by kernel_rfl) ?_ | refine WC_region ?_)
      exact ⟨rfl, _, _, Res1 rfl (resV_tmp rfl), .cons _ (.cons _ (.refl _)), rfl, rfl⟩
    · repeat (first | refine RQr ?_ | ((first | refine WL_Q ?_ | refine WL_Y ?_ | refine WR_Q rfl ?_ | refine WR_late rfl rfl rfl (OW_Q ?_) | refine WR_Y rfl ?_); (first | refine QW_of (Qt_buildA rfl (hf := kinds_fill)) ?_ | refine QW_of (Qt_indexX rfl) ?_ | refine QW_of (Qt_fieldV rfl) ?_)) | ((first | refine WL_op rfl ?_ | refine WL_yes (h := ?_) | refine WR_late rfl rfl rfl ?_ | refine WR_opG rfl rfl ?_ | refine WR_opYG rfl (h := ?_)); (first | (refine OE ?_; try intro _) | refine OW_callP rfl (hF := kinds_fn) (hk := ?_)); try refine SD ?_) | refine RC ?_ | refine RU ?_ | refine WC_draw_all (id := 3) 5 (Cs [1,2] <| .either 0 (.calm 3 <| .must 4 <| .must 5 <| .done) 4 (.must 0 <| .calm 3 <| .must 5 <| .done)) mixed (by kernel_rfl) ?_ | refine WC_region ?_)
      exact ⟨rfl, _, _, Res1 rfl (resV_tmp rfl), .cons _ (.cons _ (.refl _)), rfl, rfl⟩
  · have hx : kindsC.extract ((4 : Int).toNat * 3) ((4 : Int).toNat * 3 + 3) = (kdC 1 (fV 107) .nilFunc) := rfl
    have eO : opF 4 a b g = (decide (0 ≤ g) && decide (g ≤ 3) && (inF a 1 1073741824 && (b == 0))) := rfl
    have hone : (((kdC 1 (fV 107) .nilFunc)).toList.all fun v => v.oneCell') = true := rfl
    rw [eO]
    repeat (first | refine RQ ?_ | ((first | refine WL_Q ?_ | refine WL_Y ?_); (first | refine QW_of (Qt_buildA rfl (hf := kinds_fill)) ?_ | refine QW_of (Qt_indexX rfl) ?_ | refine QW_of (Qt_fieldV rfl) ?_)) | (refine RE ?_; try intro _) | refine RC ?_ | refine WG 0 ?_ | refine WG 1 ?_)
    rename_i x1
    refine WC_meet (fun σ => ∃ x3 : Nat, σ = ⟨[(3, .pointer (some ⟨x3, 0, none⟩)), (1, .pointer (some ⟨x1, 0, none⟩))], [], (x3, .cells (kdC 1 (fV 107) .nilFunc) 138 (0, 0)) :: (x1, .cells (opC 4 a b g) 59 (0, 0)) :: L⟩) ?_ ?_
    · repeat' (first | refine RQr ?_ | (refine RX ?_; (first | refine QW_of (Qt_buildA rfl (hf := kinds_fill)) ?_ | refine QW_of (Qt_indexX rfl) ?_ | refine QW_of (Qt_fieldV rfl) ?_)) | (refine OX ?_; (first | (refine OE ?_; try intro _) | refine OW_callP rfl (hF := kinds_fn) (hk := ?_)); try refine SD ?_) | refine RC ?_ | refine RU ?_ | refine WC_draw_all (id := 3) 5 (Cs [1,2] <| .either 0 (.calm 3 <| .must 4 <| .must 5 <| .done) 4 (.must 0 <| .calm 3 <| .must 5 <| .done)) mixed (by kernel_rfl) ?_ | refine WR_either ?_ ?_)
      all_goals exact ⟨_, ⟨_, rfl⟩, ⟨rfl, rfl, trivial⟩, rfl, .refl _⟩
    rintro _ ⟨x3, rfl⟩
    by_cases g0 : g < 0
    · have e0 : decide (g < 0) = true := decide_eq_true g0
      repeat (first | refine RQr ?_ | ((first | refine WL_Q ?_ | refine WL_Y ?_ | refine WR_Q rfl ?_ | refine WR_late rfl rfl rfl (OW_Q ?_) | refine WR_Y rfl ?_); (first | refine QW_of (Qt_buildA rfl (hf := kinds_fill)) ?_ | refine QW_of (Qt_indexX rfl) ?_ | refine QW_of (Qt_fieldV rfl) ?_)) | ((first | refine WL_op rfl ?_ | refine WL_yes (h := ?_) | refine WR_late rfl rfl rfl ?_ | refine WR_opG rfl rfl ?_ | refine WR_opYG rfl (h := ?_)); (first | (refine OE ?_; try intro _) | refine OW_callP rfl (hF := kinds_fn) (hk := ?_)); try refine SD ?_) | refine RC ?_ | refine RU ?_ | refine WC_draw_all (id := 3) 5 (Cs [1,2] <| .either 0 (.calm 3 <| .must 4 <| .must 5 <| .done) 4 (.must 0 <| .calm 3 <| .must 5 <| .done)) mixed (by kernel_rfl) ?_ | refine WC_region ?_)
      refine ⟨rfl, _, _, Res1 rfl (resV_tmp rfl), .cons _ (.cons _ (.refl _)), ?_, rfl⟩
      rw [if_neg]; simp; omega
    have e0 : decide (g < 0) = false := decide_eq_false g0
    by_cases g1 : g > 3
    · have e1 : decide (g > 3) = true := decide_eq_true g1
      repeat (first | refine RQr ?_ | ((first | refine WL_Q ?_ | refine WL_Y ?_ | refine WR_Q rfl ?_ | refine WR_late rfl rfl rfl (OW_Q ?_) | refine WR_Y rfl ?_); (first | refine QW_of (Qt_buildA rfl (hf := kinds_fill)) ?_ | refine QW_of (Qt_indexX rfl) ?_ | refine QW_of (Qt_fieldV rfl) ?_)) | ((first | refine WL_op rfl ?_ | refine WL_yes (h := ?_) | refine WR_late rfl rfl rfl ?_ | refine WR_opG rfl rfl ?_ | refine WR_opYG rfl (h := ?_)); (first | (refine OE ?_; try intro _) | refine OW_callP rfl (hF := kinds_fn) (hk := ?_)); try refine SD ?_) | refine RC ?_ | refine RU ?_ | refine WC_draw_all (id := 3) 5 (Cs [1,2] <| .either 0 (.calm 3 <| .must 4 <| .must 5 <| .done) 4 (.must 0 <| .calm 3 <| .must 5 <| .done)) mixed (by kernel_rfl) ?_ | refine WC_region ?_)
      refine ⟨rfl, _, _, Res1 rfl (resV_tmp rfl), .cons _ (.cons _ (.refl _)), ?_, rfl⟩
      rw [if_neg]; simp; omega
    have e1 : decide (g > 3) = false := decide_eq_false g1
    have e2 : (decide (0 ≤ g) && decide (g ≤ 3)) = true := by simp; omega
    repeat (first | refine RQr ?_ | ((first | refine WL_Q ?_ | refine WL_Y ?_ | refine WR_Q rfl ?_ | refine WR_late rfl rfl rfl (OW_Q ?_) | refine WR_Y rfl ?_); (first | refine QW_of (Qt_buildA rfl (hf := kinds_fill)) ?_ | refine QW_of (Qt_indexX rfl) ?_ | refine QW_of (Qt_fieldV rfl) ?_)) | ((first | refine WL_op rfl ?_ | refine WL_yes (h := ?_) | refine WR_late rfl rfl rfl ?_ | refine WR_opG rfl rfl ?_ | refine WR_opYG rfl (h := ?_)); (first | (refine OE ?_; try intro _) | refine OW_callP rfl (hF := kinds_fn) (hk := ?_)); try refine SD ?_) | refine RC ?_ | refine RU ?_ | refine WC_draw_all (id := 3) 5 (Cs [1,2] <| .either 0 (.calm 3 <| .must 4 <| .must 5 <| .done) 4 (.must 0 <| .calm 3 <| .must 5 <| .done)) mixed (by kernel_rfl) ?_ | refine WC_region ?_)
    refine WL_yes rfl rfl rfl (by first | with_reducible assumption | rfl) rfl (OW_callv rfl rfl rfl rfl rfl (plain_fn) ?_)
    rintro _ _ ⟨rfl, rfl⟩
    rw [e2, Bool.true_and]
    cases hm : (inF a 1 1073741824 && (b == 0))
    · repeat (first | refine RQr ?_ | ((first | refine WL_Q ?_ | refine WL_Y ?_ | refine WR_Q rfl ?_ | refine WR_late rfl rfl rfl (OW_Q ?_) | refine WR_Y rfl ?_); (first | refine QW_of (Qt_buildA rfl (hf := kinds_fill)) ?_ | refine QW_of (Qt_indexX rfl) ?_ | refine QW_of (Qt_fieldV rfl) ?_)) | ((first | refine WL_op rfl ?_ | refine WL_yes (h := ?_) | refine WR_late rfl rfl rfl ?_ | refine WR_opG rfl rfl ?_ | refine WR_opYG rfl (h := ?_)); (first | (refine OE ?_; try intro _) | refine OW_callP rfl (hF := kinds_fn) (hk := ?_)); try refine SD ?_) | refine RC ?_ | refine RU ?_ | refine WC_draw_all (id := 3) 5 (Cs [1,2] <| .either 0 (.calm 3 <| .must 4 <| .must 5 <| .done) 4 (.must 0 <| .calm 3 <| .must 5 <| .done)) mixed (by kernel_rfl) ?_ | refine WC_region ?_)
      exact ⟨rfl, _, _, Res1 rfl (resV_tmp rfl), .cons _ (.cons _ (.refl _)), rfl, rfl⟩
    · repeat (first | refine RQr ?_ | ((first | refine WL_Q ?_ | refine WL_Y ?_ | refine WR_Q rfl ?_ | refine WR_late rfl rfl rfl (OW_Q ?_) | refine WR_Y rfl ?_); (first | refine QW_of (Qt_buildA rfl (hf := kinds_fill)) ?_ | refine QW_of (Qt_indexX rfl) ?_ | refine QW_of (Qt_fieldV rfl) ?_)) | ((first | refine WL_op rfl ?_ | refine WL_yes (h := ?_) | refine WR_late rfl rfl rfl ?_ | refine WR_opG rfl rfl ?_ | refine WR_opYG rfl (h := ?_)); (first | (refine OE ?_; try intro _) | refine OW_callP rfl (hF := kinds_fn) (hk := ?_)); try refine SD ?_) | refine RC ?_ | refine RU ?_ | refine WC_draw_all (id := 3) 5 (Cs [1,2] <| .either 0 (.calm 3 <| .must 4 <| .must 5 <| .done) 4 (.must 0 <| .calm 3 <| .must 5 <| .done)) mixed (by kernel_rfl) ?_ | refine WC_region ?_)
      exact ⟨rfl, _, _, Res1 rfl (resV_tmp rfl), .cons _ (.cons _ (.refl _)), rfl, rfl⟩
  · have hx : kindsC.extract ((5 : Int).toNat * 3) ((5 : Int).toNat * 3 + 3) = (kdC 1 (fV 108) .nilFunc) := rfl
    have eO : opF 5 a b g = (decide (0 ≤ g) && decide (g ≤ 3) && mayF 5 a b) := rfl
    have hone : (((kdC 1 (fV 108) .nilFunc)).toList.all fun v => v.oneCell') = true := rfl
    rw [eO]
    repeat (first | refine RQ ?_ | ((first | refine WL_Q ?_ | refine WL_Y ?_); (first | refine QW_of (Qt_buildA rfl (hf := kinds_fill)) ?_ | refine QW_of (Qt_indexX rfl) ?_ | refine QW_of (Qt_fieldV rfl) ?_)) | (refine RE ?_; try intro _) | refine RC ?_ | refine WG 0 ?_ | refine WG 1 ?_)
    rename_i x1
    refine WC_meet (fun σ => ∃ x3 : Nat, σ = ⟨[(3, .pointer (some ⟨x3, 0, none⟩)), (1, .pointer (some ⟨x1, 0, none⟩))], [], (x3, .cells (kdC 1 (fV 108) .nilFunc) 138 (0, 0)) :: (x1, .cells (opC 5 a b g) 59 (0, 0)) :: L⟩) ?_ ?_
    · repeat' (first | refine RQr ?_ | (refine RX ?_; (first | refine QW_of (Qt_buildA rfl (hf := kinds_fill)) ?_ | refine QW_of (Qt_indexX rfl) ?_ | refine QW_of (Qt_fieldV rfl) ?_)) | (refine OX ?_; (first | (refine OE ?_; try intro _) | refine OW_callP rfl (hF := kinds_fn) (hk := ?_)); try refine SD ?_) | refine RC ?_ | refine RU ?_ | refine WC_draw_all (id := 3) 5 (Cs [1,2] <| .either 0 (.calm 3 <| .must 4 <| .must 5 <| .done) 4 (.must 0 <| .calm 3 <| .must 5 <| .done)) mixed (by kernel_rfl) ?_ | refine WR_either ?_ ?_)
      all_goals exact ⟨_, ⟨_, rfl⟩, ⟨rfl, rfl, trivial⟩, rfl, .refl _⟩
    rintro _ ⟨x3, rfl⟩
    by_cases g0 : g < 0
    · have e0 : decide (g < 0) = true := decide_eq_true g0
      repeat (first | refine RQr ?_ | ((first | refine WL_Q ?_ | refine WL_Y ?_ | refine WR_Q rfl ?_ | refine WR_late rfl rfl rfl (OW_Q ?_) | refine WR_Y rfl ?_); (first | refine QW_of (Qt_buildA rfl (hf := kinds_fill)) ?_ | refine QW_of (Qt_indexX rfl) ?_ | refine QW_of (Qt_fieldV rfl) ?_)) | ((first | refine WL_op rfl ?_ | refine WL_yes (h := ?_) | refine WR_late rfl rfl rfl ?_ | refine WR_opG rfl rfl ?_ | refine WR_opYG rfl (h := ?_)); (first | (refine OE ?_; try intro _) | refine OW_callP rfl (hF := kinds_fn) (hk := ?_)); try refine SD ?_) | refine RC ?_ | refine RU ?_ | refine WC_draw_all (id := 3) 5 (Cs [1,2] <| .either 0 (.calm 3 <| .must 4 <| .must 5 <| .done) 4 (.must 0 <| .calm 3 <| .must 5 <| .done)) mixed (by kernel_rfl) ?_ | refine WC_region ?_)
      refine ⟨rfl, _, _, Res1 rfl (resV_tmp rfl), .cons _ (.cons _ (.refl _)), ?_, rfl⟩
      rw [if_neg]; simp; omega
    have e0 : decide (g < 0) = false := decide_eq_false g0
    by_cases g1 : g > 3
    · have e1 : decide (g > 3) = true := decide_eq_true g1
      repeat (first | refine RQr ?_ | ((first | refine WL_Q ?_ | refine WL_Y ?_ | refine WR_Q rfl ?_ | refine WR_late rfl rfl rfl (OW_Q ?_) | refine WR_Y rfl ?_); (first | refine QW_of (Qt_buildA rfl (hf := kinds_fill)) ?_ | refine QW_of (Qt_indexX rfl) ?_ | refine QW_of (Qt_fieldV rfl) ?_)) | ((first | refine WL_op rfl ?_ | refine WL_yes (h := ?_) | refine WR_late rfl rfl rfl ?_ | refine WR_opG rfl rfl ?_ | refine WR_opYG rfl (h := ?_)); (first | (refine OE ?_; try intro _) | refine OW_callP rfl (hF := kinds_fn) (hk := ?_)); try refine SD ?_) | refine RC ?_ | refine RU ?_ | refine WC_draw_all (id := 3) 5 (Cs [1,2] <| .either 0 (.calm 3 <| .must 4 <| .must 5 <| .done) 4 (.must 0 <| .calm 3 <| .must 5 <| .done)) mixed (by kernel_rfl) ?_ | refine WC_region ?_)
      refine ⟨rfl, _, _, Res1 rfl (resV_tmp rfl), .cons _ (.cons _ (.refl _)), ?_, rfl⟩
      rw [if_neg]; simp; omega
    have e1 : decide (g > 3) = false := decide_eq_false g1
    have e2 : (decide (0 ≤ g) && decide (g ≤ 3)) = true := by simp; omega
    repeat (first | refine RQr ?_ | ((first | refine WL_Q ?_ | refine WL_Y ?_ | refine WR_Q rfl ?_ | refine WR_late rfl rfl rfl (OW_Q ?_) | refine WR_Y rfl ?_); (first | refine QW_of (Qt_buildA rfl (hf := kinds_fill)) ?_ | refine QW_of (Qt_indexX rfl) ?_ | refine QW_of (Qt_fieldV rfl) ?_)) | ((first | refine WL_op rfl ?_ | refine WL_yes (h := ?_) | refine WR_late rfl rfl rfl ?_ | refine WR_opG rfl rfl ?_ | refine WR_opYG rfl (h := ?_)); (first | (refine OE ?_; try intro _) | refine OW_callP rfl (hF := kinds_fn) (hk := ?_)); try refine SD ?_) | refine RC ?_ | refine RU ?_ | refine WC_draw_all (id := 3) 5 (Cs [1,2] <| .either 0 (.calm 3 <| .must 4 <| .must 5 <| .done) 4 (.must 0 <| .calm 3 <| .must 5 <| .done)) mixed (by kernel_rfl) ?_ | refine WC_region ?_)
    refine WL_yes rfl rfl rfl (by first | with_reducible assumption | rfl) rfl (OW_callv rfl rfl rfl rfl rfl (may5_fn) ?_)
    rintro _ _ ⟨rfl, rfl⟩
    rw [e2, Bool.true_and]
    cases hm : mayF 5 a b
    · repeat (first | refine RQr ?_ | ((first | refine WL_Q ?_ | refine WL_Y ?_ | refine WR_Q rfl ?_ | refine WR_late rfl rfl rfl (OW_Q ?_) | refine WR_Y rfl ?_); (first | refine QW_of (Qt_buildA rfl (hf := kinds_fill)) ?_ | refine QW_of (Qt_indexX rfl) ?_ | refine QW_of (Qt_fieldV rfl) ?_)) | ((first | refine WL_op rfl ?_ | refine WL_yes (h := ?_) | refine WR_late rfl rfl rfl ?_ | refine WR_opG rfl rfl ?_ | refine WR_opYG rfl (h := ?_)); (first | (refine OE ?_; try intro _) | refine OW_callP rfl (hF := kinds_fn) (hk := ?_)); try refine SD ?_) | refine RC ?_ | refine RU ?_ | refine WC_draw_all (id := 3) 5 (Cs [1,2] <| .either 0 (.calm 3 <| .must 4 <| .must 5 <| .done) 4 (.must 0 <| .calm 3 <| .must 5 <| .done)) mixed (by kernel_rfl) ?_ | refine WC_region ?_)
      exact ⟨rfl, _, _, Res1 rfl (resV_tmp rfl), .cons _ (.cons _ (.refl _)), rfl, rfl⟩
    · repeat (first | refine RQr ?_ | ((first | refine WL_Q ?_ | refine WL_Y ?_ | refine WR_Q rfl ?_ | refine WR_late rfl rfl rfl (OW_Q ?_) | refine WR_Y rfl ?_); (first | refine QW_of (Qt_buildA rfl (hf := kinds_fill)) ?_ | refine QW_of (Qt_indexX rfl) ?_ | refine QW_of (Qt_fieldV rfl) ?_)) | ((first | refine WL_op rfl ?_ | refine WL_yes (h := ?_) | refine WR_late rfl rfl rfl ?_ | refine WR_opG rfl rfl ?_ | refine WR_opYG rfl (h := ?_)); (first | (refine OE ?_; try intro _) | refine OW_callP rfl (hF := kinds_fn) (hk := ?_)); try refine SD ?_) | refine RC ?_ | refine RU ?_ | refine WC_draw_all (id := 3) 5 (Cs [1,2] <| .either 0 (.calm 3 <| .must 4 <| .must 5 <| .done) 4 (.must 0 <| .calm 3 <| .must 5 <| .done)) mixed (by kernel_rfl) ?_ | refine WC_region ?_)
      exact ⟨rfl, _, _, Res1 rfl (resV_tmp rfl), .cons _ (.cons _ (.refl _)), rfl, rfl⟩
  · have hx : kindsC.extract ((6 : Int).toNat * 3) ((6 : Int).toNat * 3 + 3) = (kdC 1 (fV 107) .nilFunc) := rfl
    have eO : opF 6 a b g = (decide (0 ≤ g) && decide (g ≤ 3) && (inF a 1 1073741824 && (b == 0))) := rfl
    have hone : (((kdC 1 (fV 107) .nilFunc)).toList.all fun v => v.oneCell') = true := rfl
    rw [eO]
    repeat (first | refine RQ ?_ | ((first | refine WL_Q ?_ | refine WL_Y ?_); (first | refine QW_of (Qt_buildA rfl (hf := kinds_fill)) ?_ | refine QW_of (Qt_indexX rfl) ?_ | refine QW_of (Qt_fieldV rfl) ?_)) | (refine RE ?_; try intro _) | refine RC ?_ | refine WG 0 ?_ | refine WG 1 ?_)
    rename_i x1
    refine WC_meet (fun σ => ∃ x3 : Nat, σ = ⟨[(3, .pointer (some ⟨x3, 0, none⟩)), (1, .pointer (some ⟨x1, 0, none⟩))], [], (x3, .cells (kdC 1 (fV 107) .nilFunc) 138 (0, 0)) :: (x1, .cells (opC 6 a b g) 59 (0, 0)) :: L⟩) ?_ ?_
    · repeat' (first | refine RQr ?_ | (refine RX ?_; (first | refine QW_of (Qt_buildA rfl (hf := kinds_fill)) ?_ | refine QW_of (Qt_indexX rfl) ?_ | refine QW_of (Qt_fieldV rfl) ?_)) | (refine OX ?_; (first | (refine OE ?_; try intro _) | refine OW_callP rfl (hF := kinds_fn) (hk := ?_)); try refine SD ?_) | refine RC ?_ | refine RU ?_ | refine WC_draw_all (id := 3) 5 (Cs [1,2] <| .either 0 (.calm 3 <| .must 4 <| .must 5 <| .done) 4 (.must 0 <| .calm 3 <| .must 5 <| .done)) mixed (by kernel_rfl) ?_ | refine WR_either ?_ ?_)
      all_goals exact ⟨_, ⟨_, rfl⟩, ⟨rfl, rfl, trivial⟩, rfl, .refl _⟩
    rintro _ ⟨x3, rfl⟩
    by_cases g0 : g < 0
    · have e0 : decide (g < 0) = true := decide_eq_true g0
      repeat (first | refine RQr ?_ | ((first | refine WL_Q ?_ | refine WL_Y ?_ | refine WR_Q rfl ?_ | refine WR_late rfl rfl rfl (OW_Q ?_) | refine WR_Y rfl ?_); (first | refine QW_of (Qt_buildA rfl (hf := kinds_fill)) ?_ | refine QW_of (Qt_indexX rfl) ?_ | refine QW_of (Qt_fieldV rfl) ?_)) | ((first | refine WL_op rfl ?_ | refine WL_yes (h := ?_) | refine WR_late rfl rfl rfl ?_ | refine WR_opG rfl rfl ?_ | refine WR_opYG rfl (h := ?_)); (first | (refine OE ?_; try intro _) | refine OW_callP rfl (hF := kinds_fn) (hk := ?_)); try refine SD ?_) | refine RC ?_ | refine RU ?_ | refine WC_draw_all (id := 3) 5 (Cs [1,2] <| .either 0 (.calm 3 <| .must 4 <| .must 5 <| .done) 4 (.must 0 <| .calm 3 <| .must 5 <| .done)) mixed (by kernel_rfl) ?_ | refine WC_region ?_)
      refine ⟨rfl, _, _, Res1 rfl (resV_tmp rfl), .cons _ (.cons _ (.refl _)), ?_, rfl⟩
      rw [if_neg]; simp; omega
    have e0 : decide (g < 0) = false := decide_eq_false g0
    by_cases g1 : g > 3
    · have e1 : decide (g > 3) = true := decide_eq_true g1
      repeat (first | refine RQr ?_ | ((first | refine WL_Q ?_ | refine WL_Y ?_ | refine WR_Q rfl ?_ | refine WR_late rfl rfl rfl (OW_Q ?_) | refine WR_Y rfl ?_); (first | refine QW_of (Qt_buildA rfl (hf := kinds_fill)) ?_ | refine QW_of (Qt_indexX rfl) ?_ | refine QW_of (Qt_fieldV rfl) ?_)) | ((first | refine WL_op rfl ?_ | refine WL_yes (h := ?_) | refine WR_late rfl rfl rfl ?_ | refine WR_opG rfl rfl ?_ | refine WR_opYG rfl (h := ?_)); (first | (refine OE ?_; try intro _) | refine OW_callP rfl (hF := kinds_fn) (hk := ?_)); try refine SD ?_) | refine RC ?_ | refine RU ?_ | refine WC_draw_all (id := 3) 5 (Cs [1,2] <| .either 0 (.calm 3 <| .must 4 <| .must 5 <| .done) 4 (.must 0 <| .calm 3 <| .must 5 <| .done)) mixed (by kernel_rfl) ?_ | refine WC_region ?_)
      refine ⟨rfl, _, _, Res1 rfl (resV_tmp rfl), .cons _ (.cons _ (.refl _)), ?_, rfl⟩
      rw [if_neg]; simp; omega
    have e1 : decide (g > 3) = false := decide_eq_false g1
    have e2 : (decide (0 ≤ g) && decide (g ≤ 3)) = true := by simp; omega
    repeat (first | refine RQr ?_ | ((first | refine WL_Q ?_ | refine WL_Y ?_ | refine WR_Q rfl ?_ | refine WR_late rfl rfl rfl (OW_Q ?_) | refine WR_Y rfl ?_); (first | refine QW_of (Qt_buildA rfl (hf := kinds_fill)) ?_ | refine QW_of (Qt_indexX rfl) ?_ | refine QW_of (Qt_fieldV rfl) ?_)) | ((first | refine WL_op rfl ?_ | refine WL_yes (h := ?_) | refine WR_late rfl rfl rfl ?_ | refine WR_opG rfl rfl ?_ | refine WR_opYG rfl (h := ?_)); (first | (refine OE ?_; try intro _) | refine OW_callP rfl (hF := kinds_fn) (hk := ?_)); try refine SD ?_) | refine RC ?_ | refine RU ?_ | refine WC_draw_all (id := 3) 5 (Cs [1,2] <| .either 0 (.calm 3 <| .must 4 <| .must 5 <| .done) 4 (.must 0 <| .calm 3 <| .must 5 <| .done)) mixed (by kernel_rfl) ?_ | refine WC_region ?_)
    refine WL_yes rfl rfl rfl (by first | with_reducible assumption | rfl) rfl (OW_callv rfl rfl rfl rfl rfl (plain_fn) ?_)
    rintro _ _ ⟨rfl, rfl⟩
    rw [e2, Bool.true_and]
    cases hm : (inF a 1 1073741824 && (b == 0))
    · repeat (first | refine RQr ?_ | ((first | refine WL_Q ?_ | refine WL_Y ?_ | refine WR_Q rfl ?_ | refine WR_late rfl rfl rfl (OW_Q ?_) | refine WR_Y rfl ?_); (first | refine QW_of (Qt_buildA rfl (hf := kinds_fill)) ?_ | refine QW_of (Qt_indexX rfl) ?_ | refine QW_of (Qt_fieldV rfl) ?_)) | ((first | refine WL_op rfl ?_ | refine WL_yes (h := ?_) | refine WR_late rfl rfl rfl ?_ | refine WR_opG rfl rfl ?_ | refine WR_opYG rfl (h := ?_)); (first | (refine OE ?_; try intro _) | refine OW_callP rfl (hF := kinds_fn) (hk := ?_)); try refine SD ?_) | refine RC ?_ | refine RU ?_ | refine WC_draw_all (id := 3) 5 (Cs [1,2] <| .either 0 (.calm 3 <| .must 4 <| .must 5 <| .done) 4 (.must 0 <| .calm 3 <| .must 5 <| .done)) mixed (by kernel_rfl) ?_ | refine WC_region ?_)
      exact ⟨rfl, _, _, Res1 rfl (resV_tmp rfl), .cons _ (.cons _ (.refl _)), rfl, rfl⟩
    · repeat (first | refine RQr ?_ | ((first | refine WL_Q ?_ | refine WL_Y ?_ | refine WR_Q rfl ?_ | refine WR_late rfl rfl rfl (OW_Q ?_) | refine WR_Y rfl ?_); (first | refine QW_of (Qt_buildA rfl (hf := kinds_fill)) ?_ | refine QW_of (Qt_indexX rfl) ?_ | refine QW_of (Qt_fieldV rfl) ?_)) | ((first | refine WL_op rfl ?_ | refine WL_yes (h := ?_) | refine WR_late rfl rfl rfl ?_ | refine WR_opG rfl rfl ?_ | refine WR_opYG rfl (h := ?_)); (first | (refine OE ?_; try intro _) | refine OW_callP rfl (hF := kinds_fn) (hk := ?_)); try refine SD ?_) | refine RC ?_ | refine RU ?_ | refine WC_draw_all (id := 3) 5 (Cs [1,2] <| .either 0 (.calm 3 <| .must 4 <| .must 5 <| .done) 4 (.must 0 <| .calm 3 <| .must 5 <| .done)) mixed (by kernel_rfl) ?_ | refine WC_region ?_)
      exact ⟨rfl, _, _, Res1 rfl (resV_tmp rfl), .cons _ (.cons _ (.refl _)), rfl, rfl⟩
  · have hx : kindsC.extract ((7 : Int).toNat * 3) ((7 : Int).toNat * 3 + 3) = (kdC 2 (fV 107) .nilFunc) := rfl
    have eO : opF 7 a b g = (decide (0 ≤ g) && decide (g ≤ 0) && (inF a 1 1073741824 && (b == 0))) := rfl
    have hone : (((kdC 2 (fV 107) .nilFunc)).toList.all fun v => v.oneCell') = true := rfl
    rw [eO]
    repeat (first | refine RQ ?_ | ((first | refine WL_Q ?_ | refine WL_Y ?_); (first | refine QW_of (Qt_buildA rfl (hf := kinds_fill)) ?_ | refine QW_of (Qt_indexX rfl) ?_ | refine QW_of (Qt_fieldV rfl) ?_)) | (refine RE ?_; try intro _) | refine RC ?_ | refine WG 0 ?_ | refine WG 1 ?_)
    rename_i x1
    refine WC_meet (fun σ => ∃ x3 : Nat, σ = ⟨[(3, .pointer (some ⟨x3, 0, none⟩)), (1, .pointer (some ⟨x1, 0, none⟩))], [], (x3, .cells (kdC 2 (fV 107) .nilFunc) 138 (0, 0)) :: (x1, .cells (opC 7 a b g) 59 (0, 0)) :: L⟩) ?_ ?_
    · repeat' (first | refine RQr ?_ | (refine RX ?_; (first | refine QW_of (Qt_buildA rfl (hf := kinds_fill)) ?_ | refine QW_of (Qt_indexX rfl) ?_ | refine QW_of (Qt_fieldV rfl) ?_)) | (refine OX ?_; (first | (refine OE ?_; try intro _) | refine OW_callP rfl (hF := kinds_fn) (hk := ?_)); try refine SD ?_) | refine RC ?_ | refine RU ?_ | refine WC_draw_all (id := 3) 5 (Cs [1,2] <| .either 0 (.calm 3 <| .must 4 <| .must 5 <| .done) 4 (.must 0 <| .calm 3 <| .must 5 <| .done)) mixed (by kernel_rfl) ?_ | refine WR_either ?_ ?_)
      all_goals exact ⟨_, ⟨_, rfl⟩, ⟨rfl, rfl, trivial⟩, rfl, .refl _⟩
    rintro _ ⟨x3, rfl⟩
    by_cases g0 : g < 0
    · have e0 : decide (g < 0) = true := decide_eq_true g0
      repeat (first | refine RQr ?_ | ((first | refine WL_Q ?_ | refine WL_Y ?_ | refine WR_Q rfl ?_ | refine WR_late rfl rfl rfl (OW_Q ?_) | refine WR_Y rfl ?_); (first | refine QW_of (Qt_buildA rfl (hf := kinds_fill)) ?_ | refine QW_of (Qt_indexX rfl) ?_ | refine QW_of (Qt_fieldV rfl) ?_)) | ((first | refine WL_op rfl ?_ | refine WL_yes (h := ?_) | refine WR_late rfl rfl rfl ?_ | refine WR_opG rfl rfl ?_ | refine WR_opYG rfl (h := ?_)); (first | (refine OE ?_; try intro _) | refine OW_callP rfl (hF := kinds_fn) (hk := ?_)); try refine SD ?_) | refine RC ?_ | refine RU ?_ | refine WC_draw_all (id := 3) 5 (Cs [1,2] <| .either 0 (.calm 3 <| .must 4 <| .must 5 <| .done) 4 (.must 0 <| .calm 3 <| .must 5 <| .done)) mixed (by kernel_rfl) ?_ | refine WC_region ?_)
      refine ⟨rfl, _, _, Res1 rfl (resV_tmp rfl), .cons _ (.cons _ (.refl _)), ?_, rfl⟩
      rw [if_neg]; simp; omega
    have e0 : decide (g < 0) = false := decide_eq_false g0
    by_cases g1 : g > 0
    · have e1 : decide (g > 0) = true := decide_eq_true g1
      repeat (first | refine RQr ?_ | ((first | refine WL_Q ?_ | refine WL_Y ?_ | refine WR_Q rfl ?_ | refine WR_late rfl rfl rfl (OW_Q ?_) | refine WR_Y rfl ?_); (first | refine QW_of (Qt_buildA rfl (hf := kinds_fill)) ?_ | refine QW_of (Qt_indexX rfl) ?_ | refine QW_of (Qt_fieldV rfl) ?_)) | ((first | refine WL_op rfl ?_ | refine WL_yes (h := ?_) | refine WR_late rfl rfl rfl ?_ | refine WR_opG rfl rfl ?_ | refine WR_opYG rfl (h := ?_)); (first | (refine OE ?_; try intro _) | refine OW_callP rfl (hF := kinds_fn) (hk := ?_)); try refine SD ?_) | refine RC ?_ | refine RU ?_ | refine WC_draw_all (id := 3) 5 (Cs [1,2] <| .either 0 (.calm 3 <| .must 4 <| .must 5 <| .done) 4 (.must 0 <| .calm 3 <| .must 5 <| .done)) mixed (by kernel_rfl) ?_ | refine WC_region ?_)
      refine ⟨rfl, _, _, Res1 rfl (resV_tmp rfl), .cons _ (.cons _ (.refl _)), ?_, rfl⟩
      rw [if_neg]; simp; omega
    have e1 : decide (g > 0) = false := decide_eq_false g1
    have e2 : (decide (0 ≤ g) && decide (g ≤ 0)) = true := by simp; omega
    repeat (first | refine RQr ?_ | ((first | refine WL_Q ?_ | refine WL_Y ?_ | refine WR_Q rfl ?_ | refine WR_late rfl rfl rfl (OW_Q ?_) | refine WR_Y rfl ?_); (first | refine QW_of (Qt_buildA rfl (hf := kinds_fill)) ?_ | refine QW_of (Qt_indexX rfl) ?_ | refine QW_of (Qt_fieldV rfl) ?_)) | ((first | refine WL_op rfl ?_ | refine WL_yes (h := ?_) | refine WR_late rfl rfl rfl ?_ | refine WR_opG rfl rfl ?_ | refine WR_opYG rfl (h := ?_)); (first | (refine OE ?_; try intro _) | refine OW_callP rfl (hF := kinds_fn) (hk := ?_)); try refine SD ?_) | refine RC ?_ | refine RU ?_ | refine WC_draw_all (id := 3) 5 (Cs [1,2] <| .either 0 (.calm 3 <| .must 4 <| .must 5 <| .done) 4 (.must 0 <| .calm 3 <| .must 5 <| .done)) mixed (by kernel_rfl) ?_ | refine WC_region ?_)
    refine WL_yes rfl rfl rfl (by first | with_reducible assumption | rfl) rfl (OW_callv rfl rfl rfl rfl rfl (plain_fn) ?_)
    rintro _ _ ⟨rfl, rfl⟩
    rw [e2, Bool.true_and]
    cases hm : (inF a 1 1073741824 && (b == 0))
    · repeat (first | refine RQr ?_ | ((first | refine WL_Q ?_ | refine WL_Y ?_ | refine WR_Q rfl ?_ | refine WR_late rfl rfl rfl (OW_Q ?_) | refine WR_Y rfl ?_); (first | refine QW_of (Qt_buildA rfl (hf := kinds_fill)) ?_ | refine QW_of (Qt_indexX rfl) ?_ | refine QW_of (Qt_fieldV rfl) ?_)) | ((first | refine WL_op rfl ?_ | refine WL_yes (h := ?_) | refine WR_late rfl rfl rfl ?_ | refine WR_opG rfl rfl ?_ | refine WR_opYG rfl (h := ?_)); (first | (refine OE ?_; try intro _) | refine OW_callP rfl (hF := kinds_fn) (hk := ?_)); try refine SD ?_) | refine RC ?_ | refine RU ?_ | refine WC_draw_all (id := 3) 5 (Cs [1,2] <| .either 0 (.calm 3 <| .must 4 <| .must 5 <| .done) 4 (.must 0 <| .calm 3 <| .must 5 <| .done)) mixed (by kernel_rfl) ?_ | refine WC_region ?_)
      exact ⟨rfl, _, _, Res1 rfl (resV_tmp rfl), .cons _ (.cons _ (.refl _)), rfl, rfl⟩
    · repeat (first | refine RQr ?_ | ((first | refine WL_Q ?_ | refine WL_Y ?_ | refine WR_Q rfl ?_ | refine WR_late rfl rfl rfl (OW_Q ?_) | refine WR_Y rfl ?_); (first | refine QW_of (Qt_buildA rfl (hf := kinds_fill)) ?_ | refine QW_of (Qt_indexX rfl) ?_ | refine QW_of (Qt_fieldV rfl) ?_)) | ((first | refine WL_op rfl ?_ | refine WL_yes (h := ?_) | refine WR_late rfl rfl rfl ?_ | refine WR_opG rfl rfl ?_ | refine WR_opYG rfl (h := ?_)); (first | (refine OE ?_; try intro _) | refine OW_callP rfl (hF := kinds_fn) (hk := ?_)); try refine SD ?_) | refine RC ?_ | refine RU ?_ | refine WC_draw_all (id := 3) 5 (Cs [1,2] <| .either 0 (.calm 3 <| .must 4 <| .must 5 <| .done) 4 (.must 0 <| .calm 3 <| .must 5 <| .done)) mixed (by kernel_rfl) ?_ | refine WC_region ?_)
      exact ⟨rfl, _, _, Res1 rfl (resV_tmp rfl), .cons _ (.cons _ (.refl _)), rfl, rfl⟩
end Go.Proofs.YtekmmhmhcpaiaaaGreat
