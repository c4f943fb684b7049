/-
  A part of what the last of these texts needs; by itself it proves no statement.
-/
import Derived.Test.YtncgndcepoicbaaGreatKH11
namespace Go.Proofs.YtncgndcepoicbaaGreat
open Go.RowKit
def moveF (t : TbV) (c : CmV) : Int := if risF (-1) c.bins = false then 15 else if c.to ∉ t.act then 16 else if c.bins.any (fun b => hasF t.spans b == c.to) = true then 17 else 0
theorem risF_in : ∀ {l : List Int} {la : Int}, risF la l = true → -1 ≤ la → ∀ b ∈ l, 0 ≤ b ∧ b < 8
  | [], _, _, _, b, hb => by cases hb
  | x :: r, la, h, hla, b, hb => by
    unfold risF at h
    split at h
    · cases h
    · rename_i hn
      rcases List.mem_cons.1 hb with rfl | hb
      · omega
      · exact risF_in h (by omega) b hb
attribute [local irreducible] Fn WC WL WR OW Qt YieldFn QW FnP FnD FnE
theorem must_ok {t : Bool} (h : t = true) {e : Int} {L : List (Nat × Obj)} : Fn Tryz.prog 52 [.bool t, .int .i64 e] L (fun v L' => v = .tuple #[] ∧ L' = L) := by
  subst h
  refine Fn_enter Tryz.func52 rfl Tryz.ntmps52 rfl fun g => ?_
  repeat (first | refine RQ ?_ | refine RC ?_ | refine WC_region ?_)
  exact ⟨rfl, _, _, Res0 rfl, .refl _, rfl, rfl⟩
theorem must_no {t : Bool} (h : t = false) {e : Int} {L : List (Nat × Obj)} : FnP Tryz.prog 52 [.bool t, .int .i64 e] L (fun v L' => v = rfu e ∧ L' = L) :=
  FnE.toFnP (must_fn.mono (fun _ _ h => h) (fun _ _ h1 => ⟨h1.1.2, h1.2⟩)) (fun _ _ h1 => by rw [h] at h1; cases h1.1)
set_option maxHeartbeats 4000000 in
theorem move_fn {tb : Nat} {t : TbV} {c : CmV} {bv : Value} {L : List (Nat × Obj)} (h : TabIn tb L t) (hb : VecM 1 L bv c.bins.length (c.bins.map iV)) : Asked 55 [.pointer (some ⟨tb, 0, none⟩), .agg (cmC c bv).toArray] L (moveF t c) := by
  obtain ⟨cs, cv, sv, av, nv, rv, lc, h1, h2, h3, h4, h5, h6, _⟩ := h.h
  obtain ⟨i, hi⟩ := List.mem_iff_getElem?.1 h1
  have hca := h2.a
  refine FnE.sub ?_
  refine FnE_enter Tryz.func55 rfl Tryz.ntmps55 rfl fun g => ?_
  repeat (first | refine RQ ?_ | (refine RE ?_; try intro _) | refine RC ?_ | refine WG 0 ?_)
  rename_i x3
  have hs : ∀ q ∈ L, q ∈ (x3, Obj.cells (cmC c bv).toArray 42 (0, 0)) :: L := fun q hq => List.mem_cons_of_mem _ hq
  have hi' : ((x3, Obj.cells (cmC c bv).toArray 42 (0, 0)) :: L)[i + 1]? = some (tb, .cells cs 110 (0, 0)) := hi
  cases hr : risF (-1) c.bins
  · have e : moveF t c = 15 := if_pos hr
    repeat (first | refine RQ ?_ | (refine WL_op rfl ?_; (first | refine OW_callP rfl (hF := must_ok (by first | with_reducible assumption | rfl)) (hk := ?_) | refine OW_callP rfl (hF := rising_fn (hb.vec hs)) (hk := ?_))) | refine RC ?_ | refine WG 1 ?_)
    refine WL_op rfl (OW_pan rfl (must_no hr) ?_)
    rintro v L' ⟨rfl, rfl⟩
    exact ⟨_, rfl, ⟨by rw [e]; decide, by rw [e]⟩, .cons _ (.refl _)⟩
  repeat (first | refine RQ ?_ | (refine WL_op rfl ?_; (first | refine OW_callP rfl (hF := must_ok (by first | with_reducible assumption | rfl)) (hk := ?_) | refine OW_callP rfl (hF := rising_fn (hb.vec hs)) (hk := ?_))) | refine RC ?_ | refine WG 1 ?_)
  by_cases ht : c.to ∈ t.act
  rotate_left
  · have dt : decide (c.to ∈ t.act) = false := decide_eq_false ht
    have e : moveF t c = 16 := by unfold moveF; rw [if_neg (by rw [hr]; decide), if_pos ht]
    repeat (first | refine RQr ?_ | (refine OX ?_; (first | refine OW_callP rfl (hF := must_ok (by first | with_reducible assumption | rfl)) (hk := ?_) | refine OW_callP rfl (hF := contains_fn (h6.vec hs)) (hk := ?_)); try refine SD ?_) | refine RC ?_ | refine RU ?_ | refine WC_draw_all (id := 2) 8 (Cs [0,1,2,3,4,5] <| .must 6 <| .must 7 <| .done) mixed (by kernel_rfl) ?_)
    refine WR_op rfl rfl (OW_pan rfl (must_no dt) ?_)
    rintro v L' ⟨rfl, rfl⟩
    exact ⟨_, rfl, ⟨by rw [e]; decide, by rw [e]⟩, .cons _ (.refl _)⟩
  have dt : decide (c.to ∈ t.act) = true := decide_eq_true ht
  have hin := risF_in hr (Int.le_refl _)
  obtain ⟨hbl, ba, bcap, rfl, hbc, hbm, hbx⟩ := hb.vec hs
  repeat (first | refine RQr ?_ | (refine OX ?_; (first | refine OW_callP rfl (hF := must_ok (by first | with_reducible assumption | rfl)) (hk := ?_) | refine OW_callP rfl (hF := contains_fn (h6.vec hs)) (hk := ?_)); try refine SD ?_) | refine RC ?_ | refine RU ?_ | refine WC_draw_all (id := 2) 8 (Cs [0,1,2,3,4,5] <| .must 6 <| .must 7 <| .done) mixed (by kernel_rfl) ?_ | refine WG 3 ?_)
  refine WC_wk [(21, .int .i64 ((0 : Nat) : Int)), (20, .int .i64 (c.bins.length : Nat)), (19, .slice ba c.bins.length bcap), (3, .pointer (some ⟨x3, 0, none⟩)), (0, .pointer (some ⟨tb, 0, none⟩))] ⟨rfl, rfl, rfl, rfl, rfl, trivial⟩ ?_
  refine WC_loop (fun m σ => ∃ k : Nat, m = c.bins.length - k ∧ k ≤ c.bins.length ∧ (c.bins.take k).any (fun b => hasF t.spans b == c.to) = false ∧ σ = ⟨[(21, .int .i64 (k : Nat)), (20, .int .i64 (c.bins.length : Nat)), (19, .slice ba c.bins.length bcap), (3, .pointer (some ⟨x3, 0, none⟩)), (0, .pointer (some ⟨tb, 0, none⟩))], [], (x3, Obj.cells (cmC c (.slice ba c.bins.length bcap)).toArray 42 (0, 0)) :: L⟩) c.bins.length ⟨0, rfl, Nat.zero_le _, rfl, rfl⟩ ?_
  rintro m σ ⟨k, rfl, hk, hany, rfl⟩
  by_cases hlt : k < c.bins.length
  rotate_left
  · have d : decide ((k : Int) < ((c.bins.length : Nat) : Int)) = false := decide_eq_false (by omega)
    rw [List.take_of_length_le (by omega)] at hany
    have e : moveF t c = 0 := by unfold moveF; rw [if_neg (by rw [hr]; decide), if_neg (not_not_intro ht), if_neg (by rw [hany]; decide)]
    repeat (first | refine RQ ?_ | refine RC ?_ | refine WG 4 ?_)
    exact ⟨_, _, Res0 rfl, .cons _ (.refl _), e, rfl⟩
  have d : decide ((k : Int) < ((c.bins.length : Nat) : Int)) = true := decide_eq_true (by omega)
  have p0 : (0 : Int) ≤ (k : Int) := by omega
  have p1 : ((k : Nat) : Int) < ((c.bins.length : Nat) : Int) := by omega
  have w : IntKind.i64.wrap ((k : Int) + 1) = ((k + 1 : Nat) : Int) := by rw [wI64 (by omega) (by simp only [maxLen] at hbm; omega)]; omega
  obtain ⟨b0, off, cc, E, fr, j, rfl, hj, hcc⟩ := hbx.resolve_left (by omega)
  obtain ⟨y, hy⟩ : ∃ y, c.bins[k]? = some y := ⟨_, List.getElem?_eq_getElem hlt⟩
  have hc1 : cc[off + ((k : Nat) : Int).toNat * 1]? = some (iV y) := by rw [Int.toNat_natCast, Nat.mul_one]; exact hcc k _ (by rw [List.getElem?_map, hy]; rfl)
  have hbk := hin y (List.mem_of_getElem? hy)
  cases hz : (hasF t.spans y == c.to)
  · have dz : (hasF t.spans y != c.to) = true := by rw [bne, hz]; rfl
    repeat (first | refine RQr ?_ | (refine OX ?_; (first | refine OW_callP rfl (hF := must_ok (by first | with_reducible assumption | rfl)) (hk := ?_) | refine OW_callP rfl (hF := has_fn (h.mem hs) hbk) (hk := ?_)); try refine SD ?_) | refine RC ?_ | refine RU ?_ | refine WC_draw_all (id := 6) 7 (Cs [0,1,3,4] <| .must 2 <| .calm 5 <| .must 6 <| .done) mixed (by kernel_rfl) ?_ | refine WG 4 ?_ | refine WG 5 ?_ | refine WG 7 ?_)
    rw [w]
    refine ⟨_, _, by omega, ⟨k + 1, rfl, by omega, ?_, rfl⟩, ⟨rfl, rfl, rfl, rfl, rfl, trivial⟩, rfl, .refl _⟩
    rw [List.take_add_one, hy, List.any_append, hany]
    simpa using hz
  · have dz : (hasF t.spans y != c.to) = false := by rw [bne, hz]; rfl
    have e : moveF t c = 17 := by
      unfold moveF
      rw [if_neg (by rw [hr]; decide), if_neg (not_not_intro ht), if_pos (List.any_eq_true.2 ⟨y, List.mem_of_getElem? hy, hz⟩)]
    repeat (first | refine RQr ?_ | (refine OX ?_; (first | refine OW_callP rfl (hF := must_ok (by first | with_reducible assumption | rfl)) (hk := ?_) | refine OW_callP rfl (hF := has_fn (h.mem hs) hbk) (hk := ?_)); try refine SD ?_) | refine RC ?_ | refine RU ?_ | refine WC_draw_all (id := 6) 7 (Cs [0,1,3,4] <| .must 2 <| .calm 5 <| .must 6 <| .done) mixed (by kernel_rfl) ?_ | refine WG 4 ?_ | refine WG 5 ?_)
    refine WR_op rfl rfl (OW_pan rfl (must_no dz) ?_)
    rintro v L' ⟨rfl, rfl⟩
    exact ⟨_, rfl, ⟨by rw [e]; decide, by rw [e]⟩, .cons _ (.refl _)⟩
def joinF (t : TbV) (c : CmV) : Int := if ¬ (1 ≤ c.to ∧ c.to ≤ t.wk) then 16 else if c.to ∈ t.act then 11 else 0
def leaveF (t : TbV) (c : CmV) : Int := if c.to ∉ t.act then 16 else if t.act.length ≤ 1 then 10 else 0
set_option maxHeartbeats 4000000 in
theorem join_fn {tb : Nat} {t : TbV} {c : CmV} {bv : Value} {L : List (Nat × Obj)} (h : TabIn tb L t) : Asked 56 [.pointer (some ⟨tb, 0, none⟩), .agg (cmC c bv).toArray] L (joinF t c) := by
  obtain ⟨cs, cv, sv, av, nv, rv, lc, h1, h2, h3, h4, h5, h6, h7, _⟩ := h.h
  obtain ⟨i, hi⟩ := List.mem_iff_getElem?.1 h1
  have hca := h2.a; have hcw := h2.w; have hcn := h2.n
  refine FnE.sub ?_
  refine FnE_enter Tryz.func56 rfl Tryz.ntmps56 rfl fun g => ?_
  repeat (first | refine RQ ?_ | (refine RE ?_; try intro _) | refine RC ?_ | refine WG 0 ?_)
  rename_i x3
  have hs : ∀ q ∈ L, q ∈ (x3, Obj.cells (cmC c bv).toArray 42 (0, 0)) :: L := fun q hq => List.mem_cons_of_mem _ hq
  have hi' : ((x3, Obj.cells (cmC c bv).toArray 42 (0, 0)) :: L)[i + 1]? = some (tb, .cells cs 110 (0, 0)) := hi
  by_cases hw : 1 ≤ c.to ∧ c.to ≤ t.wk
  rotate_left
  · have dw : decide (1 ≤ c.to ∧ c.to ≤ t.wk) = false := decide_eq_false hw
    have e : joinF t c = 16 := if_pos hw
    repeat (first | refine RQr ?_ | (refine OX ?_; (first | refine OW_callP rfl (hF := must_ok (by first | with_reducible assumption | rfl)) (hk := ?_) | refine OW_callP rfl (hF := within_fn) (hk := ?_)); try refine SD ?_) | refine RC ?_ | refine RU ?_ | refine WC_draw_all (id := 1) 10 (Cs [0,1,2,3,4,5,6,7] <| .must 8 <| .must 9 <| .done) mixed (by kernel_rfl) ?_)
    refine WR_op rfl rfl (OW_pan rfl (must_no dw) ?_)
    rintro v L' ⟨rfl, rfl⟩
    exact ⟨_, rfl, ⟨by rw [e]; decide, by rw [e]⟩, .cons _ (.refl _)⟩
  have dw : decide (1 ≤ c.to ∧ c.to ≤ t.wk) = true := decide_eq_true hw
  by_cases ht : c.to ∈ t.act
  · have dt : decide (c.to ∈ t.act) = true := decide_eq_true ht
    have dn : (!decide (c.to ∈ t.act)) = false := by rw [dt]; rfl
    have e : joinF t c = 11 := by unfold joinF; rw [if_neg (not_not_intro hw), if_pos ht]
    repeat (first | refine RQr ?_ | (refine OX ?_; (first | refine OW_callP rfl (hF := must_ok (by first | with_reducible assumption | rfl)) (hk := ?_) | refine OW_callP rfl (hF := contains_fn (h6.vec hs)) (hk := ?_) | refine OW_callP rfl (hF := within_fn) (hk := ?_)); try refine SD ?_) | refine RC ?_ | refine RU ?_ | refine WC_draw_all (id := 1) 10 (Cs [0,1,2,3,4,5,6,7] <| .must 8 <| .must 9 <| .done) mixed (by kernel_rfl) ?_ | refine WC_draw_all (id := 2) 9 (Cs [0,1,2,3,4,5] <| .must 6 <| .calm 7 <| .must 8 <| .done) mixed (by kernel_rfl) ?_)
    refine WR_op rfl rfl (OW_pan rfl (must_no dn) ?_)
    rintro v L' ⟨rfl, rfl⟩
    exact ⟨_, rfl, ⟨by rw [e]; decide, by rw [e]⟩, .cons _ (.refl _)⟩
  have dn : (!decide (c.to ∈ t.act)) = true := by rw [decide_eq_false ht]; rfl
  have e : joinF t c = 0 := by unfold joinF; rw [if_neg (not_not_intro hw), if_neg ht]
  repeat (first | refine RQr ?_ | (refine OX ?_; (first | refine OW_callP rfl (hF := must_ok (by first | with_reducible assumption | rfl)) (hk := ?_) | refine OW_callP rfl (hF := contains_fn (h6.vec hs)) (hk := ?_) | refine OW_callP rfl (hF := within_fn) (hk := ?_)); try refine SD ?_) | refine RC ?_ | refine RU ?_ | refine WC_draw_all (id := 1) 10 (Cs [0,1,2,3,4,5,6,7] <| .must 8 <| .must 9 <| .done) mixed (by kernel_rfl) ?_ | refine WC_draw_all (id := 2) 9 (Cs [0,1,2,3,4,5] <| .must 6 <| .calm 7 <| .must 8 <| .done) mixed (by kernel_rfl) ?_)
  exact ⟨_, _, Res0 rfl, .cons _ (.refl _), e, rfl⟩
set_option maxHeartbeats 4000000 in
theorem leave_fn {tb : Nat} {t : TbV} {c : CmV} {bv : Value} {L : List (Nat × Obj)} (h : TabIn tb L t) : Asked 57 [.pointer (some ⟨tb, 0, none⟩), .agg (cmC c bv).toArray] L (leaveF t c) := by
  obtain ⟨cs, cv, sv, av, nv, rv, lc, h1, h2, h3, h4, h5, h6, h7, _⟩ := h.h
  obtain ⟨i, hi⟩ := List.mem_iff_getElem?.1 h1
  have hca := h2.a; have hcw := h2.w; have hcn := h2.n
  refine FnE.sub ?_
  refine FnE_enter Tryz.func57 rfl Tryz.ntmps57 rfl fun g => ?_
  repeat (first | refine RQ ?_ | (refine RE ?_; try intro _) | refine RC ?_ | refine WG 0 ?_)
  rename_i x3
  have hs : ∀ q ∈ L, q ∈ (x3, Obj.cells (cmC c bv).toArray 42 (0, 0)) :: L := fun q hq => List.mem_cons_of_mem _ hq
  have hi' : ((x3, Obj.cells (cmC c bv).toArray 42 (0, 0)) :: L)[i + 1]? = some (tb, .cells cs 110 (0, 0)) := hi
  by_cases ht : c.to ∈ t.act
  rotate_left
  · have dt : decide (c.to ∈ t.act) = false := decide_eq_false ht
    have e : leaveF t c = 16 := if_pos ht
    repeat (first | refine RQr ?_ | (refine OX ?_; (first | refine OW_callP rfl (hF := must_ok (by first | with_reducible assumption | rfl)) (hk := ?_) | refine OW_callP rfl (hF := contains_fn (h6.vec hs)) (hk := ?_)); try refine SD ?_) | refine RC ?_ | refine RU ?_ | refine WC_draw_all (id := 1) 8 (Cs [0,1,2,3,4,5] <| .must 6 <| .must 7 <| .done) mixed (by kernel_rfl) ?_)
    refine WR_op rfl rfl (OW_pan rfl (must_no dt) ?_)
    rintro v L' ⟨rfl, rfl⟩
    exact ⟨_, rfl, ⟨by rw [e]; decide, by rw [e]⟩, .cons _ (.refl _)⟩
  have dt : decide (c.to ∈ t.act) = true := decide_eq_true ht
  obtain ⟨_, aa, acap, rfl, _⟩ := id h6
  by_cases hn : t.act.length ≤ 1
  · have dn : decide (((t.act.length : Nat) : Int) > 1) = false := decide_eq_false (by omega)
    have e : leaveF t c = 10 := by unfold leaveF; rw [if_neg (not_not_intro ht), if_pos hn]
    repeat (first | refine RQr ?_ | (refine OX ?_; (first | refine OW_callP rfl (hF := must_ok (by first | with_reducible assumption | rfl)) (hk := ?_) | refine OW_callP rfl (hF := contains_fn (h6.vec hs)) (hk := ?_)); try refine SD ?_) | refine RC ?_ | refine RU ?_ | refine WC_draw_all (id := 1) 8 (Cs [0,1,2,3,4,5] <| .must 6 <| .must 7 <| .done) mixed (by kernel_rfl) ?_ | refine WG 2 ?_)
    refine WL_op rfl (OW_pan rfl (must_no dn) ?_)
    rintro v L' ⟨rfl, rfl⟩
    exact ⟨_, rfl, ⟨by rw [e]; decide, by rw [e]⟩, .cons _ (.refl _)⟩
  have dn : decide (((t.act.length : Nat) : Int) > 1) = true := decide_eq_true (by omega)
  have e : leaveF t c = 0 := by unfold leaveF; rw [if_neg (not_not_intro ht), if_neg hn]
  repeat (first | refine RQr ?_ | (refine OX ?_; (first | refine OW_callP rfl (hF := must_ok (by first | with_reducible assumption | rfl)) (hk := ?_) | refine OW_callP rfl (hF := contains_fn (h6.vec hs)) (hk := ?_)); try refine SD ?_) | refine RC ?_ | refine RU ?_ | refine WC_draw_all (id := 1) 8 (Cs [0,1,2,3,4,5] <| .must 6 <| .must 7 <| .done) mixed (by kernel_rfl) ?_ | refine WG 2 ?_)
  exact ⟨_, _, Res0 rfl, .cons _ (.refl _), e, rfl⟩
def replF (t : TbV) (c : CmV) : Int := if ¬ ((0 ≤ c.node ∧ c.node ≤ (t.nodes.length : Int) - 1) ∧ (0 ≤ c.mode ∧ c.mode ≤ 2)) then 2 else if c.op.ok = false then 13 else if clsF c.op.1 ≠ clsF ((t.nodes[c.node.toNat]?).getD (0, 0, 0, 0)).1 then 14 else 0
set_option maxHeartbeats 4000000 in
theorem replace_fn {tb : Nat} {t : TbV} {c : CmV} {bv : Value} {L : List (Nat × Obj)} (h : TabIn tb L t) : Asked 58 [.pointer (some ⟨tb, 0, none⟩), .agg (cmC c bv).toArray] L (replF t c) := by
  obtain ⟨cs, cv, sv, av, nv, rv, lc, h1, h2, h3, h4, h5, h6, h7, _⟩ := h.h
  obtain ⟨i, hi⟩ := List.mem_iff_getElem?.1 h1
  have hca := h2.a; have hcw := h2.w; have hcn := h2.n
  refine FnE.sub ?_
  refine FnE_enter Tryz.func58 rfl Tryz.ntmps58 rfl fun g => ?_
  repeat (first | refine RQ ?_ | (refine RE ?_; try intro _) | refine RC ?_ | refine WG 0 ?_)
  rename_i x3
  have hs : ∀ q ∈ L, q ∈ (x3, Obj.cells (cmC c bv).toArray 42 (0, 0)) :: L := fun q hq => List.mem_cons_of_mem _ hq
  have hi' : ((x3, Obj.cells (cmC c bv).toArray 42 (0, 0)) :: L)[i + 1]? = some (tb, .cells cs 110 (0, 0)) := hi
  obtain ⟨_, na, ncap, rfl, hnc, hnm, hnx⟩ := h7.vec hs
  have wl : IntKind.i64.wrap (((t.nodes.length : Nat) : Int) - 1) = ((t.nodes.length : Nat) : Int) - 1 := wI64 (by omega) (by simp only [maxLen] at hnm; omega)
  have hxo : (cmC c bv).toArray.extract 5 (5 + 4) = opC c.op.1 c.op.2.1 c.op.2.2.1 c.op.2.2.2 := rfl
  have hcz : 5 + 4 ≤ (cmC c bv).toArray.size := Nat.le_of_ble_eq_true rfl
  by_cases hn : 0 ≤ c.node ∧ c.node ≤ (t.nodes.length : Int) - 1
  rotate_left
  · have dn : decide (0 ≤ c.node ∧ c.node ≤ IntKind.i64.wrap (((t.nodes.length : Nat) : Int) - 1)) = false := by rw [wl]; exact decide_eq_false hn
    have e : replF t c = 2 := if_pos (fun hc => hn hc.1)
    repeat (first | refine RQr ?_ | ((first | refine WL_op rfl ?_ | refine WL_yes (h := ?_) | refine WR_late rfl rfl rfl ?_ | refine WR_opG rfl rfl ?_ | refine WR_opYG rfl (h := ?_)); (first | refine OW_callP rfl (hF := must_ok (by first | with_reducible assumption | rfl)) (hk := ?_) | refine OW_callP rfl (hF := within_fn) (hk := ?_)); try refine SD ?_) | refine RC ?_ | refine RU ?_ | refine WC_draw_all (id := 1) 15 (Cs [0,1,2,3,4,5,6,7] <| .must 8 <| Cs [9,10,11] <| .must 12 <| .calm 13 <| .must 14 <| .done) mixed (by kernel_rfl) ?_)
    refine WR_op rfl rfl (OW_pan rfl (must_no rfl) ?_)
    rintro v L' ⟨rfl, rfl⟩
    exact ⟨_, rfl, ⟨by rw [e]; decide, by rw [e]⟩, .cons _ (.refl _)⟩
  have dn : decide (0 ≤ c.node ∧ c.node ≤ IntKind.i64.wrap (((t.nodes.length : Nat) : Int) - 1)) = true := by rw [wl]; exact decide_eq_true hn
  by_cases hm : 0 ≤ c.mode ∧ c.mode ≤ 2
  rotate_left
  · have dm : decide (0 ≤ c.mode ∧ c.mode ≤ 2) = false := decide_eq_false hm
    have e : replF t c = 2 := if_pos (fun hc => hm hc.2)
    repeat (first | refine RQr ?_ | ((first | refine WL_op rfl ?_ | refine WL_yes (h := ?_) | refine WR_late rfl rfl rfl ?_ | refine WR_opG rfl rfl ?_ | refine WR_opYG rfl (h := ?_)); (first | refine OW_callP rfl (hF := must_ok (by first | with_reducible assumption | rfl)) (hk := ?_) | refine OW_callP rfl (hF := within_fn) (hk := ?_)); try refine SD ?_) | refine RC ?_ | refine RU ?_ | refine WC_draw_all (id := 1) 15 (Cs [0,1,2,3,4,5,6,7] <| .must 8 <| Cs [9,10,11] <| .must 12 <| .calm 13 <| .must 14 <| .done) mixed (by kernel_rfl) ?_)
    refine WR_op rfl rfl (OW_pan rfl (must_no dm) ?_)
    rintro v L' ⟨rfl, rfl⟩
    exact ⟨_, rfl, ⟨by rw [e]; decide, by rw [e]⟩, .cons _ (.refl _)⟩
  have dm : decide (0 ≤ c.mode ∧ c.mode ≤ 2) = true := decide_eq_true hm
  have hnm' : ¬ ¬ ((0 ≤ c.node ∧ c.node ≤ (t.nodes.length : Int) - 1) ∧ (0 ≤ c.mode ∧ c.mode ≤ 2)) := not_not_intro ⟨hn, hm⟩
  cases ho : c.op.ok
  · have ho' : ¬ opF c.op.1 c.op.2.1 c.op.2.2.1 c.op.2.2.2 = true := by rw [show opF c.op.1 c.op.2.1 c.op.2.2.1 c.op.2.2.2 = false from ho]; decide
    have e : replF t c = 13 := by unfold replF; rw [if_neg hnm', if_pos ho]
    have d1 : ((if opF c.op.1 c.op.2.1 c.op.2.2.1 c.op.2.2.2 = true then (0 : Int) else 13) == 0) = false := by rw [if_neg ho']; rfl
    repeat (first | refine RQr ?_ | ((first | refine WL_op rfl ?_ | refine WL_yes (h := ?_) | refine WR_late rfl rfl rfl ?_ | refine WR_opG rfl rfl ?_ | refine WR_opYG rfl (h := ?_)); (first | refine OW_callP rfl (hF := must_ok (by first | with_reducible assumption | rfl)) (hk := ?_) | refine OW_callP rfl (hF := within_fn) (hk := ?_) | refine OW_callP rfl (hF := Check_fn) (hk := ?_)); try refine SD ?_) | refine RC ?_ | refine RU ?_ | refine WC_draw_all (id := 1) 15 (Cs [0,1,2,3,4,5,6,7] <| .must 8 <| Cs [9,10,11] <| .must 12 <| .calm 13 <| .must 14 <| .done) mixed (by kernel_rfl) ?_ | refine WG 2 ?_)
    rw [hxo]
    repeat (first | refine RQ ?_ | (refine WL_op rfl ?_; (first | refine OW_callP rfl (hF := must_ok (by first | with_reducible assumption | rfl)) (hk := ?_) | refine OW_callP rfl (hF := Check_fn) (hk := ?_))) | refine RC ?_ | refine WG 2 ?_)
    refine WL_op rfl (OW_pan rfl (must_no d1) ?_)
    rintro v L' ⟨rfl, rfl⟩
    exact ⟨_, rfl, ⟨by rw [e]; decide, by rw [e]⟩, .cons _ (.refl _)⟩
  have ho' : opF c.op.1 c.op.2.1 c.op.2.2.1 c.op.2.2.2 = true := ho
  have d1 : ((if opF c.op.1 c.op.2.1 c.op.2.2.1 c.op.2.2.2 = true then (0 : Int) else 13) == 0) = true := by rw [if_pos ho']; rfl
  obtain ⟨nb, noff, cc, E, fr, j, rfl, hj, hcc⟩ := hnx.resolve_left (by omega)
  obtain ⟨o, hok⟩ : ∃ o, t.nodes[c.node.toNat]? = some o := ⟨_, List.getElem?_eq_getElem (by omega)⟩
  have p0 : (0 : Int) ≤ c.node := hn.1
  have p1 : c.node < ((t.nodes.length : Nat) : Int) := by omega
  have hxn : cc.extract (noff + c.node.toNat * 4) (noff + c.node.toNat * 4 + 4) = opC o.1 o.2.1 o.2.2.1 o.2.2.2 := by
    have h4 := opL_at hok
    apply Array.ext_getElem?
    intro q
    by_cases hq : q < 4
    · obtain ⟨u, hu⟩ : ∃ u, (opC o.1 o.2.1 o.2.2.1 o.2.2.2)[q]? = some u := ⟨_, Array.getElem?_eq_getElem hq⟩
      have hu' : (((opL t.nodes).drop (c.node.toNat * 4)).take 4)[q]? = some u := by rw [h4]; simpa using hu
      rw [List.getElem?_take_of_lt hq, List.getElem?_drop] at hu'
      have h5 := hcc _ _ hu'
      rw [Array.getElem?_extract, hu, if_pos, ← h5, Nat.add_assoc]
      have := (Array.getElem?_eq_some_iff.1 h5).1
      omega
    · rw [Array.getElem?_eq_none (by rw [Array.size_extract]; omega), Array.getElem?_eq_none (by show 4 ≤ q; omega)]
  have hxs : noff + c.node.toNat * 4 + 4 ≤ cc.size := by
    have := congrArg Array.size hxn
    rw [Array.size_extract] at this
    have e4 : (opC o.1 o.2.1 o.2.2.1 o.2.2.2).size = 4 := rfl
    rw [e4] at this
    omega
  by_cases hcl : clsF c.op.1 = clsF o.1
  · have d2 : (clsF c.op.1 == clsF o.1) = true := by simpa using hcl
    have e : replF t c = 0 := by unfold replF; rw [if_neg hnm', if_neg (by rw [ho]; decide), hok]; exact if_neg (not_not_intro hcl)
    repeat (first | refine RQr ?_ | ((first | refine WL_op rfl ?_ | refine WL_yes (h := ?_) | refine WR_late rfl rfl rfl ?_ | refine WR_opG rfl rfl ?_ | refine WR_opYG rfl (h := ?_)); (first | refine OW_callP rfl (hF := must_ok (by first | with_reducible assumption | rfl)) (hk := ?_) | refine OW_callP rfl (hF := within_fn) (hk := ?_) | refine OW_callP rfl (hF := Check_fn) (hk := ?_)); try refine SD ?_) | refine RC ?_ | refine RU ?_ | refine WC_draw_all (id := 1) 15 (Cs [0,1,2,3,4,5,6,7] <| .must 8 <| Cs [9,10,11] <| .must 12 <| .calm 13 <| .must 14 <| .done) mixed (by kernel_rfl) ?_ | refine WG 2 ?_)
    rw [hxo]
    repeat (first | refine RQr ?_ | (refine OX ?_; (first | refine OW_callP rfl (hF := must_ok (by first | with_reducible assumption | rfl)) (hk := ?_) | refine OW_callP rfl (hF := Check_fn) (hk := ?_) | refine OW_callP rfl (hF := Class_fn) (hk := ?_)); try refine SD ?_) | refine RC ?_ | refine RU ?_ | refine WC_draw_all (id := 3) 14 (Cs [0,1,3,4,5,6,7,8,9,10] <| .must 2 <| .must 11 <| .calm 12 <| .must 13 <| .done) mixed (by kernel_rfl) ?_ | refine WG 2 ?_)
    rw [hxo, hxn]
    repeat (first | refine RQr ?_ | (refine OX ?_; (first | refine OW_callP rfl (hF := must_ok (by first | with_reducible assumption | rfl)) (hk := ?_) | refine OW_callP rfl (hF := Class_fn) (hk := ?_)); try refine SD ?_) | refine RC ?_ | refine RU ?_ | refine WC_draw_all (id := 3) 14 (Cs [0,1,3,4,5,6,7,8,9,10] <| .must 2 <| .must 11 <| .calm 12 <| .must 13 <| .done) mixed (by kernel_rfl) ?_)
    exact ⟨_, _, Res0 rfl, .cons _ (.refl _), e, rfl⟩
  · have d2 : (clsF c.op.1 == clsF o.1) = false := by simpa using hcl
    have e : replF t c = 14 := by unfold replF; rw [if_neg hnm', if_neg (by rw [ho]; decide), hok]; exact if_pos hcl
    repeat (first | refine RQr ?_ | ((first | refine WL_op rfl ?_ | refine WL_yes (h := ?_) | refine WR_late rfl rfl rfl ?_ | refine WR_opG rfl rfl ?_ | refine WR_opYG rfl (h := ?_)); (first | refine OW_callP rfl (hF := must_ok (by first | with_reducible assumption | rfl)) (hk := ?_) | refine OW_callP rfl (hF := within_fn) (hk := ?_) | refine OW_callP rfl (hF := Check_fn) (hk := ?_)); try refine SD ?_) | refine RC ?_ | refine RU ?_ | refine WC_draw_all (id := 1) 15 (Cs [0,1,2,3,4,5,6,7] <| .must 8 <| Cs [9,10,11] <| .must 12 <| .calm 13 <| .must 14 <| .done) mixed (by kernel_rfl) ?_ | refine WG 2 ?_)
    rw [hxo]
    repeat (first | refine RQr ?_ | (refine OX ?_; (first | refine OW_callP rfl (hF := must_ok (by first | with_reducible assumption | rfl)) (hk := ?_) | refine OW_callP rfl (hF := Check_fn) (hk := ?_) | refine OW_callP rfl (hF := Class_fn) (hk := ?_)); try refine SD ?_) | refine RC ?_ | refine RU ?_ | refine WC_draw_all (id := 3) 14 (Cs [0,1,3,4,5,6,7,8,9,10] <| .must 2 <| .must 11 <| .calm 12 <| .must 13 <| .done) mixed (by kernel_rfl) ?_ | refine WG 2 ?_)
    rw [hxo, hxn]
    repeat (first | refine RQr ?_ | (refine OX ?_; (first | refine OW_callP rfl (hF := must_ok (by first | with_reducible assumption | rfl)) (hk := ?_) | refine OW_callP rfl (hF := Class_fn) (hk := ?_)); try refine SD ?_) | refine RC ?_ | refine RU ?_ | refine WC_draw_all (id := 3) 14 (Cs [0,1,3,4,5,6,7,8,9,10] <| .must 2 <| .must 11 <| .calm 12 <| .must 13 <| .done) mixed (by kernel_rfl) ?_)
    refine WR_op rfl rfl (OW_pan rfl (must_no d2) ?_)
    rintro v L' ⟨rfl, rfl⟩
    exact ⟨_, rfl, ⟨by rw [e]; decide, by rw [e]⟩, .cons _ (.refl _)⟩
end Go.Proofs.YtncgndcepoicbaaGreat
