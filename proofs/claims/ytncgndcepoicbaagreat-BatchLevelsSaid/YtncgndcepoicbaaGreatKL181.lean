/-
  A part of what the last of these texts needs; by itself it proves no statement.
-/
import Derived.Test.YtncgndcepoicbaaGreatKL172
namespace Go.Proofs.YtncgndcepoicbaaGreat
open Go.RowKit
theorem list8 {l : List Int} (h : l.length = 8) : ∃ a b c d e f g i, l = [a, b, c, d, e, f, g, i] := by
  obtain ⟨a, l, rfl⟩ : ∃ a r, l = a :: r := by cases l; simp at h; exact ⟨_, _, rfl⟩
  obtain ⟨b, l, rfl⟩ : ∃ a r, l = a :: r := by cases l; simp at h; exact ⟨_, _, rfl⟩
  obtain ⟨c, l, rfl⟩ : ∃ a r, l = a :: r := by cases l; simp at h; exact ⟨_, _, rfl⟩
  obtain ⟨d, l, rfl⟩ : ∃ a r, l = a :: r := by cases l; simp at h; exact ⟨_, _, rfl⟩
  obtain ⟨e, l, rfl⟩ : ∃ a r, l = a :: r := by cases l; simp at h; exact ⟨_, _, rfl⟩
  obtain ⟨f, l, rfl⟩ : ∃ a r, l = a :: r := by cases l; simp at h; exact ⟨_, _, rfl⟩
  obtain ⟨g, l, rfl⟩ : ∃ a r, l = a :: r := by cases l; simp at h; exact ⟨_, _, rfl⟩
  obtain ⟨i, l, rfl⟩ : ∃ a r, l = a :: r := by cases l; simp at h; exact ⟨_, _, rfl⟩
  obtain rfl : l = [] := by cases l; rfl; simp at h
  exact ⟨_, _, _, _, _, _, _, _, rfl⟩
def wnC (want : List Int) : Array Value := (want.map iV).toArray
theorem wnC_size {want : List Int} (h : want.length = 8) : (wnC want).size = 8 := by simp [wnC, h]
theorem wnC_all {want : List Int} : ((wnC want).toList.all fun v => v.oneCell') = true := by
  rw [List.all_eq_true]
  intro v hv
  simp only [wnC, List.mem_map] at hv
  obtain ⟨x, _, rfl⟩ := hv
  rfl
theorem wnC_at {want : List Int} (h : want.length = 8) {b : Int} (hb : 0 ≤ b ∧ b < 8) : (wnC want)[b.toNat * 1]? = some (iV (wnF want b)) := by
  obtain ⟨k, rfl⟩ : ∃ k : Nat, b = k := ⟨b.toNat, by omega⟩
  rw [Int.toNat_natCast, Nat.mul_one, wnC, List.getElem?_toArray, List.getElem?_map]
  have hk : k < want.length := by omega
  simp [wnF, List.getElem?_eq_getElem hk]
theorem pln_build {tb : Nat} {want : List Int} (h : want.length = 8) : putR (putR zc168 0 (Value.pointer (some ⟨tb, 0, none⟩)).cells) 1 (Value.agg (wnC want)).cells = plnC tb want := by
  obtain ⟨a, b, c, d, e, f, g, i, rfl⟩ := list8 h
  rfl
theorem perm_mv5 {α : Type} (xm xp x16 x15 x14 : α) (M : List α) : (x14 :: x16 :: x15 :: xm :: xp :: M).Perm (xm :: xp :: x16 :: x15 :: x14 :: M) := by
  classical
  rw [List.perm_iff_count]
  intro z
  simp only [List.count_cons]
  omega
theorem perm_mv6 {α : Type} (d x14 x16 U xm xp : α) (T G Z M : List α) : (d :: x14 :: x16 :: U :: (T ++ (G ++ (Z ++ xm :: xp :: M)))).Perm (d :: ((x14 :: x16 :: U :: (T ++ xm :: xp :: M)) ++ (G ++ Z))) := by
  classical
  rw [List.perm_iff_count]
  intro z
  simp only [List.count_cons, List.count_append]
  omega
attribute [local irreducible] Fn WC WL WR OW Qt YieldFn QW FnP FnD FnE plnC wnC
theorem pmoves_fn {tb : Nat} {want : List Int} {m : Int} (hw : want.length = 8) {L : List (Nat × Obj)} : Fn Tryz.prog 95 [.agg (plnC tb want), iV m] L (fun v L' => ∃ xp xm, v = .func (.func 128) #[] #[.pointer (some ⟨xp, 0, none⟩), .pointer (some ⟨xm, 0, none⟩)] ∧ L' = (xm, Obj.cells #[iV m] 3 (0, 0)) :: (xp, Obj.cells (plnC tb want) 168 (0, 0)) :: L) := by
  have hsz := plnC_size (tb := tb) hw
  have hall := plnC_all (tb := tb) (want := want)
  refine Fn_enter Tryz.func95 rfl Tryz.ntmps95 rfl fun g => ?_
  repeat (first | (refine WL_Q ?_; (first | refine QW_a ?_ | refine QW_of (Qt_ldX rfl (hn := by with_reducible assumption)) ?_ | refine QW_of (Qt_indexV rfl) ?_)) | (refine WL_op rfl ?_; (first | refine OW_box rfl (hk := fun _ => ?_))) | refine WL_nil ?_ | refine WC_seq ?_ | refine WC_ret ?_ | refine WC_region ?_)
  exact ⟨rfl, _, _, Res1 rfl (resV_tmp rfl), .refl _, _, _, rfl, rfl⟩
set_option maxHeartbeats 4000000 in
theorem Moves_fn {tb : Nat} {t : TbV} {want : List Int} {a most : Int} {M : List (Nat × Obj)} (h : TabIn tb M t) (hT : TbOk t) (hB : ∀ x ∈ t.cmds, x.bins.length ≤ 1000) (hw : want.length = 8) (ha : 0 ≤ a ∧ a ≤ 4611686018427387904) : Fn Tryz.prog 36 [.pointer (some ⟨tb, 0, none⟩), .agg (wnC want), iV a, iV most] M (fun v L' => ∃ X lv lc, L' = X ++ M ∧ v = .tuple #[lv, iV (movesF t want a most).2] ∧ VecM 10 X lv (movesF t want a most).1.length lc.flatten ∧ CmsAt X lc (movesF t want a most).1) := by
  have hwz := wnC_size hw
  have hwa := wnC_all (want := want)
  have hsz := plnC_size (tb := tb) hw
  have hall := plnC_all (tb := tb) (want := want)
  have hp0 := plnC_0 (tb := tb) (want := want)
  refine Fn_enterM Tryz.func36 rfl Tryz.ntmps36 rfl fun g => ?_
  have hm2 : ∀ b : Bool, movesF t want a most = ([], 2) → ∃ X lv lc, ([] : List (Nat × Obj)) ++ M = X ++ M ∧ Value.tuple #[.slice none 0 0, iV 2] = .tuple #[lv, iV (movesF t want a most).2] ∧ VecM 10 X lv (movesF t want a most).1.length lc.flatten ∧ CmsAt X lc (movesF t want a most).1 := fun _ e => by
    rw [e]
    exact ⟨[], _, [], rfl, rfl, VecM.nil _ _, trivial⟩
  by_cases hmo : most < 1 ∨ 8 < most
  · have e2 : movesF t want a most = ([], 2) := by unfold movesF; rw [if_pos hmo]
    by_cases hm1 : most < 1
    · have d1 : decide (most < 1) = true := decide_eq_true hm1
      repeat (first | ((first | refine WL_Q ?_ | refine WL_Y ?_); (first | refine QW_a ?_ | refine QW_of (Qt_ldX rfl (hn := by with_reducible assumption)) ?_ | refine QW_of (Qt_indexV rfl) ?_)) | ((first | refine WL_op rfl ?_ | refine WL_yes (h := ?_)); (first | refine OW_box rfl (hk := fun _ => ?_))) | refine WL_nil ?_ | refine WL_un (h := ?_) | refine WL_N ?_ | refine WL_M ?_ | refine WC_seq ?_ | refine WC_block ?_ | refine WC_cond_t (ht := ?_) | refine WC_cond_f (he := ?_) | refine WC_skip ?_ | refine WC_ret ?_ | refine WC_exit ?_ | refine WG 0 ?_ | refine WG 1 ?_ | refine WG 3 ?_ | refine WG 4 ?_)
      exact ⟨_, rfl, _, _, Res2 rfl (resV_tmp rfl) (resV_tmp rfl), .cons _ (.refl _), hm2 true e2⟩
    · have d1 : decide (most < 1) = false := decide_eq_false hm1
      have d2 : decide (most > 8) = true := decide_eq_true (by omega)
      repeat (first | ((first | refine WL_Q ?_ | refine WL_Y ?_); (first | refine QW_a ?_ | refine QW_of (Qt_ldX rfl (hn := by with_reducible assumption)) ?_ | refine QW_of (Qt_indexV rfl) ?_)) | ((first | refine WL_op rfl ?_ | refine WL_yes (h := ?_)); (first | refine OW_box rfl (hk := fun _ => ?_))) | refine WL_nil ?_ | refine WL_un (h := ?_) | refine WL_N ?_ | refine WL_M ?_ | refine WC_seq ?_ | refine WC_block ?_ | refine WC_cond_t (ht := ?_) | refine WC_cond_f (he := ?_) | refine WC_skip ?_ | refine WC_ret ?_ | refine WC_exit ?_ | refine WG 0 ?_ | refine WG 1 ?_ | refine WG 3 ?_ | refine WG 4 ?_)
      exact ⟨_, rfl, _, _, Res2 rfl (resV_tmp rfl) (resV_tmp rfl), .cons _ (.refl _), hm2 true e2⟩
  have d1 : decide (most < 1) = false := decide_eq_false (by omega)
  have d2 : decide (most > 8) = false := decide_eq_false (by omega)
  repeat (first | ((first | refine WL_Q ?_ | refine WL_Y ?_); (first | refine QW_a ?_ | refine QW_of (Qt_ldX rfl (hn := by with_reducible assumption)) ?_ | refine QW_of (Qt_indexV rfl) ?_)) | ((first | refine WL_op rfl ?_ | refine WL_yes (h := ?_)); (first | refine OW_box rfl (hk := fun _ => ?_) | refine OW_alloc rfl (hk := fun _ => ?_) | refine OW_stA rfl ?_ | refine OW_stN rfl ?_)) | refine WL_nil ?_ | refine WL_un (h := ?_) | refine WL_N ?_ | refine WL_M ?_ | refine WC_seq ?_ | refine WC_block ?_ | refine WC_cond_t (ht := ?_) | refine WC_cond_f (he := ?_) | refine WC_skip ?_ | refine WC_ret ?_ | refine WC_exit ?_ | refine WG 0 ?_ | refine WG 1 ?_ | refine WG 3 ?_ | refine WG 5 ?_)
  rename_i x5 x10
  rw [pln_build hw]
  repeat (first | (refine WL_Q ?_; (first | refine QW_a ?_ | refine QW_of (Qt_ldX rfl (hn := by with_reducible assumption)) ?_ | refine QW_of (Qt_indexV rfl) ?_)) | (refine WL_op rfl ?_; (first | refine OW_alloc rfl (hk := fun _ => ?_) | refine OW_stA rfl ?_ | refine OW_stN rfl ?_ | (refine OW_call rfl (hF := active_fn (h.mem fun q hq => .tail _ (.tail _ hq)) (by have := hT.few3; omega)) (hk := ?_); rintro v11 _ ⟨Ta, rfl, hTa⟩))) | refine WL_nil ?_ | refine WC_seq ?_ | refine WC_block ?_ | refine WC_cond_t (ht := ?_) | refine WC_cond_f (he := ?_) | refine WC_skip ?_ | refine WC_ret ?_ | refine WC_exit ?_ | refine WG 5 ?_ | refine WG 6 ?_)
  obtain ⟨_, aa, ca, rfl, hac, hmx, _⟩ := Buf.vecM hTa
  obtain ⟨M5, hM5⟩ : ∃ M5, M5 = Ta ++ (x10, Obj.cells (plnC tb want) 168 (0, 0)) :: (x5, Obj.cells (wnC want) 61 (0, 0)) :: M := ⟨_, rfl⟩
  refine WC_permT (L' := M5) (by rw [hM5]) ?_
  have hMM5 : M.Sublist M5 := by rw [hM5]; exact (List.Sublist.cons _ (.cons _ (.refl _))).trans (List.sublist_append_right Ta _)
  have hIn5 : TabIn tb M5 t := h.mem fun q hq => hMM5.mem hq
  obtain ⟨i10, hi10⟩ := List.mem_iff_getElem?.1 (show (x10, Obj.cells (plnC tb want) 168 (0, 0)) ∈ M5 by rw [hM5]; exact List.mem_append_right _ (.head _))
  obtain ⟨i5, hi5⟩ := List.mem_iff_getElem?.1 (show (x5, Obj.cells (wnC want) 61 (0, 0)) ∈ M5 by rw [hM5]; exact List.mem_append_right _ (.tail _ (.head _)))
  have hTa5 : VecM 1 M5 (.slice aa t.act.length ca) t.act.length (t.act.map iV) := (Buf.vecM hTa).mem fun q hq => by rw [hM5]; exact List.mem_append_left _ hq
  obtain ⟨X5, hX5, hXM⟩ : ∃ X5, M5 = X5 ++ M ∧ True := ⟨Ta ++ [(x10, Obj.cells (plnC tb want) 168 (0, 0)), (x5, Obj.cells (wnC want) 61 (0, 0))], by rw [hM5]; simp, trivial⟩
  clear hM5 hm2
  repeat (first | (refine WL_Q ?_; (first | refine QW_a ?_ | refine QW_of (Qt_ldX rfl (hn := by with_reducible assumption)) ?_ | refine QW_of (Qt_indexV rfl) ?_)) | refine WL_nil ?_ | refine WC_seq ?_ | refine WC_block ?_ | refine WC_cond_t (ht := ?_) | refine WC_cond_f (he := ?_) | refine WC_skip ?_ | refine WC_ret ?_ | refine WC_exit ?_ | refine WG 7 ?_)
  refine WC_wk [(34, iV ((0 : Nat) : Int)), (33, .agg (wnC want)), (11, .slice aa t.act.length ca), (10, .pointer (some ⟨x10, 0, none⟩)), (0, .pointer (some ⟨tb, 0, none⟩)), (2, iV a), (3, iV most)] ⟨rfl, rfl, rfl, rfl, rfl, rfl, rfl, trivial⟩ ?_
  refine WC_loop (fun m σ => ∃ k : Nat, m = 8 - k ∧ k ≤ 8 ∧ (∀ j : Nat, j < k → wnF want j ∈ t.act) ∧ σ = ⟨[(34, iV (k : Int)), (33, .agg (wnC want)), (11, .slice aa t.act.length ca), (10, .pointer (some ⟨x10, 0, none⟩)), (0, .pointer (some ⟨tb, 0, none⟩)), (2, iV a), (3, iV most)], [], M5⟩) 8 ⟨0, rfl, by decide, fun j hj => by omega, rfl⟩ ?_
  rintro _ σ ⟨k, rfl, hk, hin, rfl⟩
  have hwn : ∀ j : Nat, j < 8 → want[j]? = some (wnF want j) := fun j hj => by
    have : j < want.length := by omega
    simp [wnF, List.getElem?_eq_getElem this]
  by_cases hk8 : k < 8
  · have e1 : decide ((k : Int) < 8) = true := decide_eq_true (by omega)
    have p0 : (0 : Int) ≤ (k : Int) := by omega
    have p1 : (k : Int) < 8 := by omega
    have w1 : (wnC want)[((k : Nat) : Int).toNat * 1]? = some (iV (wnF want k)) := wnC_at hw ⟨p0, p1⟩
    have ww : IntKind.i64.wrap ((k : Int) + 1) = ((k + 1 : Nat) : Int) := by rw [wI64 (by omega) (by omega)]; omega
    repeat (first | (refine WL_Q ?_; (first | refine QW_a ?_ | refine QW_of (Qt_ldX rfl (hn := by with_reducible assumption)) ?_ | refine QW_of (Qt_indexV rfl) ?_)) | (refine WL_op rfl ?_; (first | refine OW_callP rfl (hF := contains_fn (x := wnF want k) (hTa5.vec fun _ h => h)) (hk := ?_))) | refine WL_nil ?_ | refine WC_seq ?_ | refine WC_block ?_ | refine WC_cond_t (ht := ?_) | refine WC_cond_f (he := ?_) | refine WC_skip ?_ | refine WC_ret ?_ | refine WC_exit ?_ | refine WG 8 ?_ | refine WG 9 ?_ | refine WG 10 ?_)
    by_cases hc : wnF want k ∈ t.act
    · have e2 : decide (wnF want k ∈ t.act) = true := decide_eq_true hc
      rw [e2]
      repeat (first | (refine WL_Q ?_; (first | refine QW_a ?_ | refine QW_of (Qt_ldX rfl (hn := by with_reducible assumption)) ?_ | refine QW_of (Qt_indexV rfl) ?_)) | (refine WL_op rfl ?_; (first | refine OW_callP rfl (hF := contains_fn (x := wnF want k) (hTa5.vec fun _ h => h)) (hk := ?_))) | refine WL_nil ?_ | refine WC_seq ?_ | refine WC_block ?_ | refine WC_cond_t (ht := ?_) | refine WC_cond_f (he := ?_) | refine WC_skip ?_ | refine WC_ret ?_ | refine WC_exit ?_ | refine WG 10 ?_ | refine WG 12 ?_)
      rw [ww]
      exact ⟨_, _, by omega, ⟨k + 1, rfl, by omega, fun j hj => by
        rcases Nat.lt_or_ge j k with h | h
        · exact hin j h
        · obtain rfl : j = k := by omega
          exact hc, rfl⟩, ⟨rfl, rfl, rfl, rfl, rfl, rfl, rfl, trivial⟩, rfl, .refl _⟩
    · have e2 : decide (wnF want k ∈ t.act) = false := decide_eq_false hc
      rw [e2]
      have e16 : movesF t want a most = ([], 16) := by
        unfold movesF
        rw [if_neg hmo, if_pos (List.any_eq_true.2 ⟨_, List.mem_of_getElem? (hwn k hk8), by simpa using hc⟩)]
      repeat (first | (refine WL_Q ?_; (first | refine QW_a ?_ | refine QW_of (Qt_ldX rfl (hn := by with_reducible assumption)) ?_ | refine QW_of (Qt_indexV rfl) ?_)) | (refine WL_op rfl ?_; (first | refine OW_callP rfl (hF := contains_fn (x := wnF want k) (hTa5.vec fun _ h => h)) (hk := ?_))) | refine WL_nil ?_ | refine WC_seq ?_ | refine WC_block ?_ | refine WC_cond_t (ht := ?_) | refine WC_cond_f (he := ?_) | refine WC_skip ?_ | refine WC_ret ?_ | refine WC_exit ?_ | refine WG 10 ?_ | refine WG 11 ?_)
      refine ⟨_, rfl, _, _, Res2 rfl (resV_tmp rfl) (resV_tmp rfl), .refl _, X5, _, [], hX5, by rw [e16], ?_, ?_⟩
      · rw [e16]; exact VecM.nil _ _
      · rw [e16]; trivial
  obtain rfl : k = 8 := by omega
  have hany : ¬ want.any (fun w => !decide (w ∈ t.act)) = true := by
    intro h
    obtain ⟨w, hw1, hw2⟩ := List.any_eq_true.1 h
    obtain ⟨j, hj⟩ := List.mem_iff_getElem?.1 hw1
    have hj8 := (List.getElem?_eq_some_iff.1 hj).1
    rw [hw] at hj8
    rw [hwn j hj8] at hj
    cases hj
    simp [hin j hj8] at hw2
  have wa1 : IntKind.i64.wrap (a - 1) = a - 1 := wI64 (by omega) (by omega)
  repeat (first | (refine WL_Q ?_; (first | refine QW_a ?_ | refine QW_of (Qt_ldX rfl (hn := by with_reducible assumption)) ?_ | refine QW_of (Qt_indexV rfl) ?_)) | (refine WL_op rfl ?_; (first | refine OW_alloc rfl (hk := fun _ => ?_) | refine OW_st1 rfl ?_ | (refine OW_call rfl (hF := pmoves_fn hw) (hk := ?_); rintro _ _ ⟨xp, xm, rfl, rfl⟩))) | refine WL_nil ?_ | refine WC_seq ?_ | refine WC_block ?_ | refine WC_cond_t (ht := ?_) | refine WC_cond_f (he := ?_) | refine WC_skip ?_ | refine WC_ret ?_ | refine WC_exit ?_ | refine WG 8 ?_ | refine WG 13 ?_ | refine WG 14 ?_ | refine WG 15 ?_ | refine WG 16 ?_)
  rename_i x14 x15 x16
  rw [wa1]
  obtain ⟨m, rfl, hm1, hm8⟩ : ∃ m : Nat, most = m ∧ 1 ≤ m ∧ m ≤ 8 := ⟨most.toNat, by omega, by omega, by omega⟩
  refine WL_permT (L' := (x16, Obj.cells #[.slice none 0 0] 91 (0, 0)) :: (x15, Obj.cells #[.func (.func 94) #[] #[.pointer (some ⟨x14, 0, none⟩)]] 123 (0, 0)) :: (x14, Obj.cells #[iV (a - 1)] 2 (0, 0)) :: M5) (.refl _) ?_
  have hi13 : ((x16, Obj.cells #[.slice none 0 0] 91 (0, 0)) :: (x15, Obj.cells #[.func (.func 94) #[] #[.pointer (some ⟨x14, 0, none⟩)]] 123 (0, 0)) :: (x14, Obj.cells #[iV (a - 1)] 2 (0, 0)) :: M5)[i10 + 1 + 1 + 1]? = some (x10, Obj.cells (plnC tb want) 168 (0, 0)) := hi10
  repeat (first | (refine WL_Q ?_; (first | refine QW_a ?_ | refine QW_of (Qt_ldX rfl (hn := by with_reducible assumption)) ?_ | refine QW_of (Qt_indexV rfl) ?_)) | (refine WL_op rfl ?_; (first | (refine OW_call rfl (hF := pmoves_fn hw) (hk := ?_); rintro _ _ ⟨xp, xm, rfl, rfl⟩))) | refine WL_nil ?_ | refine WC_seq ?_ | refine WC_block ?_ | refine WC_cond_t (ht := ?_) | refine WC_cond_f (he := ?_) | refine WC_skip ?_ | refine WC_ret ?_ | refine WC_exit ?_ | refine WG 16 ?_)
  refine WC_wk [(47, .func (.func 128) #[] #[.pointer (some ⟨xp, 0, none⟩), .pointer (some ⟨xm, 0, none⟩)]), (16, .pointer (some ⟨x16, 0, none⟩)), (15, .pointer (some ⟨x15, 0, none⟩)), (14, .pointer (some ⟨x14, 0, none⟩)), (10, .pointer (some ⟨x10, 0, none⟩)), (0, .pointer (some ⟨tb, 0, none⟩)), (2, iV a)] ⟨rfl, rfl, rfl, rfl, rfl, rfl, rfl, trivial⟩ ?_
  obtain ⟨R, hR⟩ : ∃ R, R = (xm, Obj.cells #[iV m] 3 (0, 0)) :: (xp, Obj.cells (plnC tb want) 168 (0, 0)) :: M5 := ⟨_, rfl⟩
  obtain ⟨U, hU⟩ : ∃ U : Nat × Obj, U = (x15, Obj.cells #[.func (.func 94) #[] #[.pointer (some ⟨x14, 0, none⟩)]] 123 (0, 0)) := ⟨_, rfl⟩
  have hMR : M5.Sublist R := by rw [hR]; exact .cons _ (.cons _ (.refl _))
  refine WC_permT (L' := (x14, Obj.cells #[iV (a - 1)] 2 (0, 0)) :: (x16, Obj.cells #[.slice none 0 0] 91 (0, 0)) :: U :: R) (by rw [hR, hU]; exact perm_mv5 ..) ?_
  obtain ⟨P, hP⟩ : ∃ P, P = pairsF t.act (hasF t.spans) want m := ⟨_, rfl⟩
  have hPl : P.length ≤ 8 := by rw [hP]; exact pairs_few hm1 (hT.rise.imp fun h => by omega)
  let I : List (Nat × Obj) → List (Int × List Int) → List (Nat × Obj) → Prop := fun G pre L' => ∃ lv T lc, pre.length ≤ 8 ∧ Buf 42 10 lv T pre.length lc.flatten ∧ CmsAt G lc (mvL a pre) ∧ L' = (x14, Obj.cells #[iV (a - 1 + pre.length)] 2 (0, 0)) :: (x16, Obj.cells #[lv] 91 (0, 0)) :: U :: (T ++ R)
  refine WC_rangeZ (α := Int × List Int × Value) (γ := List (Nat × Obj) × List (Nat × Obj) × List (Int × List Int) × List (Nat × Obj)) rfl (fun y => [iV y.1, y.2.2]) (fun _ => rfl) rfl (fun st => st.2.2.2 ++ (st.1 ++ st.2.1))
    (fun st y => (st.2.2.1 ++ [(y.1, y.2.1)]) <+: P ∧ VecM 1 st.1 y.2.2 y.2.1.length (y.2.1.map iV) ∧ I st.1 st.2.2.1 st.2.2.2) (fun st y st' => st'.1 = st.1 ∧ st'.2.1 = st.2.1 ∧ I st.1 (st.2.2.1 ++ [(y.1, y.2.1)]) st'.2.2.2) (fun st => I st.1 P st.2.2.2) (fun _ _ => False) ?_ ?_ ?_ ?_
  · intro ly d o1 o2 Jx hJ hyr
    refine (moves1_fn (tb := tb) (t := t) (want := want) (m := m) (I := I) hT hw hm1 hm8 ?_ ?_ ?_ ⟨_, [], [], by decide, Buf.nil _ _, trivial, by simp⟩).mono ?_
    · rintro G pre L' ⟨lv, T, lc, _, _, _, rfl⟩
      have hRL : ∀ q ∈ R, q ∈ (x14, Obj.cells #[iV (a - 1 + pre.length)] 2 (0, 0)) :: (x16, Obj.cells #[lv] 91 (0, 0)) :: U :: (T ++ R) := fun q hq => .tail _ (.tail _ (.tail _ (List.mem_append_right _ hq)))
      exact ⟨hIn5.mem fun q hq => hRL q (hMR.mem hq), List.mem_iff_getElem?.1 (hRL _ (by rw [hR]; exact .tail _ (.head _))), List.mem_iff_getElem?.1 (hRL _ (by rw [hR]; exact .head _))⟩
    · rintro G G' pre L' hG ⟨lv, T, lc, h1, h2, h3, rfl⟩
      exact ⟨lv, T, lc, h1, h2, h3.mem hG, rfl⟩
    · intro G Z pre w l v L' hpre hv hI
      refine (hyr (G, Z, pre, L') (w, l, v) ⟨by rw [hP]; exact hpre, hv, hI⟩).monoY ?_
      rintro v' L2 (⟨rfl, ⟨G', Z', pre', L''⟩, ⟨h1, h2, h3⟩, rfl⟩ | ⟨_, h⟩)
      · simp only at h1 h2 h3
        subst h1 h2
        exact ⟨rfl, L'', rfl, h3⟩
      · obtain ⟨_, _, _, _, h⟩ := hJ _ h
        exact h.elim
    · rintro v L2 ⟨G, L', rfl, hI⟩
      rw [← hP] at hI
      exact .inl ⟨(G, [], P, L'), hI, by simp⟩
  · rintro g' n' ly d ⟨G, Z, pre, L'⟩ ⟨w, l, v⟩ ⟨hpre, hv, lv, T, lc, h8, hb, hc, hL'⟩ ol od hol
    simp only at hpre hv h8 hb hc hL' ⊢
    subst hL'
    obtain ⟨_, av, cv, rfl, _, _, _⟩ := id hv
    obtain ⟨al, cl, rfl, _, _⟩ := id hb.val
    repeat (first | (refine WL_Q ?_; (first | refine QW_a ?_ | refine QW_of (Qt_ldX rfl (hn := by with_reducible assumption)) ?_ | refine QW_of (Qt_indexV rfl) ?_)) | refine WL_nil ?_ | refine WC_seq ?_ | refine WC_block ?_ | refine WC_cond_t (ht := ?_) | refine WC_cond_f (he := ?_) | refine WC_skip ?_ | refine WC_ret ?_ | refine WC_exit ?_ | refine WG 17 ?_ | refine WG 18 ?_)
    refine ⟨rfl, _, [], _, rfl, fun ol' hol' => ?_⟩
    simp only [List.nil_append, List.cons_append, List.append_assoc]
    have w14 : IntKind.i64.wrap (a - 1 + (pre.length : Int) + 1) = a + (pre.length : Int) := by rw [wI64 (by omega) (by omega)]; omega
    rw [hU]
    repeat (first | (refine WL_Q ?_; (first | refine QW_a ?_ | refine QW_of (Qt_ldX rfl (hn := by with_reducible assumption)) ?_ | refine QW_of (Qt_indexV rfl) ?_)) | refine WL_nil ?_ | refine WC_seq ?_ | refine WC_block ?_ | refine WC_cond_t (ht := ?_) | refine WC_cond_f (he := ?_) | refine WC_skip ?_ | refine WC_ret ?_ | refine WC_exit ?_)
    refine WC_draw_sub (id := 19) 8 (Cs [0,1,3,4] <| .must 2 <| .calm 5 <| .must 6 <| .must 7 <| .must 8 <| .done) mixed (by kernel_rfl) (.cons _ (.cons _ (.cons _ (.cons_cons _ (.cons_cons _ (List.nil_sublist _)))))) ?_
    repeat (first | (refine RX ?_; (first | refine QW_a ?_ | refine QW_of (Qt_ldX rfl (hn := by with_reducible assumption)) ?_ | refine QW_of (Qt_indexV rfl) ?_)) | ((first | refine WL_op rfl ?_ | refine WR_late rfl rfl rfl ?_ | refine WR_op rfl rfl ?_); (first | refine OW_build1 rfl (hk := fun _ => ?_) | refine OW_st1 rfl ?_); try refine ⟨(by first | exact fun _ h => h | exact sub_mem (by repeat (first | exact .refl _ | exact List.nil_sublist _ | exact List.sublist_append_right _ _ | exact List.Sublist.append (.refl _) (List.sublist_append_right _ _) | apply List.Sublist.cons_cons | apply List.Sublist.cons))), ?_⟩) | refine WL_nil ?_ | refine WR_nil ?_ | refine WC_seq ?_ | refine WC_block ?_ | refine WC_cond_t (ht := ?_) | refine WC_cond_f (he := ?_) | refine WC_skip ?_ | refine WC_ret ?_ | refine WC_exit ?_ | refine WC_draw_all (id := 19) 8 (Cs [0,1,3,4] <| .must 2 <| .calm 5 <| .must 6 <| .must 7 <| .must 8 <| .done) mixed (by kernel_rfl) ?_)
    have htick : ∀ F : List (Nat × Obj), Fn Tryz.prog 94 [.pointer (some ⟨x14, 0, none⟩)] ((x14, Obj.cells #[iV (a - 1 + pre.length)] 2 (0, 0)) :: F) (fun v L' => ∃ o', L' = (x14, o') :: F ∧ v = iV (a + pre.length) ∧ o' = Obj.cells #[iV (a + pre.length)] 2 (0, 0)) := fun F => tick_fn.mono (by
      rintro v L' ⟨h1, h2⟩
      rw [w14] at h1 h2
      exact ⟨_, h2, h1, rfl⟩)
    refine WR_op rfl rfl (OW_callv rfl rfl rfl rfl rfl (Fn.at_upd htick 2 rfl) ?_)
    rintro _ _ ⟨_, rfl, rfl, rfl⟩
    refine ⟨fun q hq => by
      simp only [List.mem_cons, List.not_mem_nil, or_false] at hq
      rcases hq with rfl | rfl
      · exact .tail _ (.tail _ (.tail _ (.head _)))
      · exact .tail _ (.tail _ (.tail _ (.tail _ (.head _)))), ?_⟩
    simp only [List.set_cons_succ, List.set_cons_zero]
    repeat (first | (refine RX ?_; (first | refine QW_a ?_ | refine QW_of (Qt_ldX rfl (hn := by with_reducible assumption)) ?_ | refine QW_of (Qt_indexV rfl) ?_)) | ((first | refine WL_op rfl ?_ | refine WR_late rfl rfl rfl ?_ | refine WR_op rfl rfl ?_); (first | refine OW_build1 rfl (hk := fun _ => ?_) | refine OW_st1 rfl ?_); try refine ⟨(by first | exact fun _ h => h | exact sub_mem (by repeat (first | exact .refl _ | exact List.nil_sublist _ | exact List.sublist_append_right _ _ | exact List.Sublist.append (.refl _) (List.sublist_append_right _ _) | apply List.Sublist.cons_cons | apply List.Sublist.cons))), ?_⟩) | refine WL_nil ?_ | refine WR_nil ?_ | refine WC_seq ?_ | refine WC_block ?_ | refine WC_cond_t (ht := ?_) | refine WC_cond_f (he := ?_) | refine WC_skip ?_ | refine WC_ret ?_ | refine WC_exit ?_ | refine WC_draw_all (id := 19) 8 (Cs [0,1,3,4] <| .must 2 <| .calm 5 <| .must 6 <| .must 7 <| .must 8 <| .done) mixed (by kernel_rfl) ?_)
    rename_i xs
    have hpn : pre.length < 8 := by
      have := hpre.length_le
      rw [List.length_append] at this
      simp only [List.length_cons, List.length_nil] at this
      omega
    obtain ⟨x, hx⟩ : ∃ x, x = mvC (a + pre.length) (w, l) := ⟨_, rfl⟩
    have hca : ((cmC x (.slice av l.length cv)).toArray.toList.all fun v => v.oneCell') = true := by rw [hx]; rfl
    refine WR_op rfl rfl (OW_permT2 (L' := [(xs, Obj.cells (cmC x (.slice av l.length cv)).toArray 42 (0, 0)), (ly, ol'), (d, od), (x14, Obj.cells #[iV (a + pre.length)] 2 (0, 0)), (x16, Obj.cells #[.slice al pre.length cl] 91 (0, 0)), (x15, Obj.cells #[.func (.func 94) #[] #[.pointer (some ⟨x14, 0, none⟩)]] 123 (0, 0))] ++ (T ++ (R ++ (G ++ Z)))) (by rw [hx]; exact .refl _) (OW_append_buf (T := T) (B := R ++ (G ++ Z)) rfl rfl rfl rfl rfl hb (m := 1) (news := cmC x (.slice av l.length cv)) (srcVec (sz := 10) ⟨rfl, _, _, rfl, Nat.le_refl _, by decide, .inr ⟨_, _, _, _, _, 0, rfl, rfl, fun j y hy => by rw [Nat.zero_add]; simpa using hy⟩⟩ (fun u hu => List.all_eq_true.1 hca u (by simpa using hu))) (by decide) (by simp only [maxLen]; omega) (by omega) ?_))
    intro v' T' hb'
    refine ⟨fun q hq => by
      simp only [List.mem_cons, List.not_mem_nil, or_false] at hq
      rcases hq with rfl | rfl
      · exact .tail _ (.tail _ (.tail _ (.tail _ (.head _))))
      · exact .tail _ (.tail _ (.tail _ (.tail _ (.tail _ (.head _))))), ?_⟩
    obtain ⟨al', cl', rfl, _, _⟩ := id hb'.val
    simp only [List.nil_append, List.cons_append]
    repeat (first | (refine RX ?_; (first | refine QW_a ?_ | refine QW_of (Qt_ldX rfl (hn := by with_reducible assumption)) ?_ | refine QW_of (Qt_indexV rfl) ?_)) | ((first | refine WL_op rfl ?_ | refine WR_late rfl rfl rfl ?_ | refine WR_op rfl rfl ?_); (first | refine OW_build1 rfl (hk := fun _ => ?_) | refine OW_st1 rfl ?_); try refine ⟨(by first | exact fun _ h => h | exact sub_mem (by repeat (first | exact .refl _ | exact List.nil_sublist _ | exact List.sublist_append_right _ _ | exact List.Sublist.append (.refl _) (List.sublist_append_right _ _) | apply List.Sublist.cons_cons | apply List.Sublist.cons))), ?_⟩) | refine WL_nil ?_ | refine WR_nil ?_ | refine WC_seq ?_ | refine WC_block ?_ | refine WC_cond_t (ht := ?_) | refine WC_cond_f (he := ?_) | refine WC_skip ?_ | refine WC_ret ?_ | refine WC_exit ?_ | refine WC_draw_all (id := 19) 8 (Cs [0,1,3,4] <| .must 2 <| .calm 5 <| .must 6 <| .must 7 <| .must 8 <| .done) mixed (by kernel_rfl) ?_)
    have hmv : mvL a (pre ++ [(w, l)]) = mvL a pre ++ [x] := by rw [mvL_snoc, hx]
    have hpl : (pre ++ [(w, l)]).length = pre.length + 1 := by simp
    have hmR : CmR (mvC (a + pre.length) (w, l)) := by
      obtain ⟨e1, _, _, _, e5⟩ := pairs_each hm1 (show (w, l) ∈ pairsF t.act (hasF t.spans) want m by rw [← hP]; exact hpre.subset (List.mem_append_right _ (.head _)))
      have e2 := hT.one w e1
      have e3 := hT.wk
      exact ⟨i64q_of (x := 0) (by decide), (by unfold i64q; simp only [mvC]; omega), fun b hb => by have := (e5 b hb).1; unfold i64q; omega, (by unfold i64q; simp only [mvC]; omega), i64q_of (x := 0) (by decide), ⟨i64q_of (x := 0) (by decide), i64q_of (x := 0) (by decide), i64q_of (x := 0) (by decide), i64q_of (x := 0) (by decide)⟩, i64q_of (x := 0) (by decide)⟩
    refine ⟨_, .cons _ (.refl _), (G, Z, pre ++ [(w, l)], (x14, Obj.cells #[iV (a - 1 + (pre ++ [(w, l)]).length)] 2 (0, 0)) :: (x16, Obj.cells #[.slice al' (pre.length + 1) cl'] 91 (0, 0)) :: U :: (T' ++ R)), ⟨rfl, rfl, .slice al' (pre.length + 1) cl', T', lc ++ [cmC x (.slice av l.length cv)], by omega, ?_, ?_, rfl⟩, ?_⟩
    · rw [hpl, List.flatten_append, List.flatten_cons, List.flatten_nil, List.append_nil]
      exact hb'
    · rw [hmv]
      exact CmsAt.snoc ⟨_, rfl, by rw [hx]; exact hv, by rw [hx]; exact hmR⟩ hc
    · rw [hpl, show a - 1 + ((pre.length + 1 : Nat) : Int) = a + pre.length by omega, hU]
      simp
  · rintro d ⟨G, Z, pre, L'⟩ ⟨lv, T, lc, h8, hb, hc, hL'⟩
    simp only at hb hc hL' ⊢
    subst hL'
    obtain ⟨al, cl, rfl, _, _⟩ := id hb.val
    obtain ⟨V, hV⟩ : ∃ V, V = T ++ (G ++ (Z ++ ((xm, Obj.cells #[iV m] 3 (0, 0)) :: (xp, Obj.cells (plnC tb want) 168 (0, 0)) :: M5))) := ⟨_, rfl⟩
    refine WC_permT (L' := dfS d :: (x14, Obj.cells #[iV (a - 1 + P.length)] 2 (0, 0)) :: (x16, Obj.cells #[.slice al P.length cl] 91 (0, 0)) :: U :: V) (by rw [hV, hR]; exact perm_mv6 ..) ?_
    have hM5V : M5.Sublist V := by rw [hV]; exact (List.Sublist.cons _ (.cons _ (.refl _))).trans ((List.sublist_append_right Z _).trans ((List.sublist_append_right G _).trans (List.sublist_append_right T _)))
    have hMV : M.Sublist V := hMM5.trans hM5V
    have hTV : (T ++ (G ++ M)).Sublist V := by
      rw [hV]
      exact List.Sublist.append (.refl _) (List.Sublist.append (.refl _) ((hMM5.trans (.cons _ (.cons _ (.refl _)))).trans (List.sublist_append_right Z _)))
    have hF : movesF t want a m = if P = [] then ([], 0) else if 64 < t.cmds.length + P.length then ([], 8) else if a ≤ lastF t ∨ 1099511627776 < a ∨ 1099511627776 < a - 1 + P.length then ([], 12) else (mvL a P, 0) := by
      unfold movesF
      rw [if_neg hmo, if_neg hany, Int.toNat_natCast, ← hP]
    have hnil : ∀ e : Int, movesF t want a m = ([], e) → ∃ X lv lc, M = X ++ M ∧ Value.tuple #[.slice none 0 0, iV e] = .tuple #[lv, iV (movesF t want a m).2] ∧ VecM 10 X lv (movesF t want a m).1.length lc.flatten ∧ CmsAt X lc (movesF t want a m).1 := fun e h => by
      rw [h]
      exact ⟨[], _, [], rfl, rfl, VecM.nil _ _, trivial⟩
    have hinV : ∀ q ∈ M5, q ∈ dfS d :: (x14, Obj.cells #[iV (a - 1 + P.length)] 2 (0, 0)) :: (x16, Obj.cells #[.slice al P.length cl] 91 (0, 0)) :: U :: V := fun q hq => .tail _ (.tail _ (.tail _ (.tail _ (hM5V.mem hq))))
    obtain ⟨j10, hj10⟩ := List.mem_iff_getElem?.1 (hinV _ (List.mem_of_getElem? hi10))
    have hInV := hIn5.mem hinV
    clear hV
    by_cases hP0 : P = []
    · have e1 : (((P.length : Nat) : Int) == 0) = true := by rw [hP0]; rfl
      repeat (first | (refine WL_Q ?_; (first | refine QW_a ?_ | refine QW_of (Qt_ldX rfl (hn := by with_reducible assumption)) ?_ | refine QW_of (Qt_indexV rfl) ?_)) | refine WL_nil ?_ | refine WC_seq ?_ | refine WC_block ?_ | refine WC_cond_t (ht := ?_) | refine WC_cond_f (he := ?_) | refine WC_skip ?_ | refine WC_ret ?_ | refine WC_exit ?_ | refine WG 20 ?_ | refine WG 21 ?_)
      exact ⟨_, ⟨d, 0, _, rfl, rfl, rfl, rfl⟩, _, _, Res2 rfl (resV_tmp rfl) (resV_tmp rfl), .cons _ (.cons _ (.cons _ (.cons _ hMV))), hnil 0 (by rw [hF, if_pos hP0])⟩
    have hPp : 0 < P.length := List.length_pos_iff.2 hP0
    have e1 : (((P.length : Nat) : Int) == 0) = false := by rw [beq_eq_false_iff_ne]; omega
    rw [if_neg hP0] at hF
    have hn64 := hT.few
    have ws : IntKind.i64.wrap ((t.cmds.length : Int) + (P.length : Int)) = ((t.cmds.length + P.length : Nat) : Int) := by rw [wI64 (by omega) (by omega)]; omega
    by_cases h64 : 64 < t.cmds.length + P.length
    · have e2 : decide (IntKind.i64.wrap ((t.cmds.length : Int) + (P.length : Int)) > 64) = true := by rw [ws]; exact decide_eq_true (by omega)
      rw [if_pos h64] at hF
      repeat (first | (refine RX ?_; (first | refine QW_a ?_ | refine QW_of (Qt_ldX rfl (hn := by with_reducible assumption)) ?_ | refine QW_of (Qt_indexV rfl) ?_)) | (refine OX ?_; (first | refine OW_callP rfl (hF := count_fn hInV) (hk := ?_)); try refine ⟨(by first | exact fun _ h => h | exact sub_mem (by repeat (first | exact .refl _ | exact List.nil_sublist _ | exact List.sublist_append_right _ _ | exact List.Sublist.append (.refl _) (List.sublist_append_right _ _) | apply List.Sublist.cons_cons | apply List.Sublist.cons))), ?_⟩) | refine WL_nil ?_ | refine WR_nil ?_ | refine WC_seq ?_ | refine WC_block ?_ | refine WC_cond_t (ht := ?_) | refine WC_cond_f (he := ?_) | refine WC_skip ?_ | refine WC_ret ?_ | refine WC_exit ?_ | refine WC_draw_all (id := 22) 7 (Cs [0,2,3] <| .must 1 <| Cs [4,5,6] <| .done) mixed (by kernel_rfl) ?_ | refine WG 20 ?_ | refine WG 23 ?_)
      exact ⟨_, ⟨d, 0, _, rfl, rfl, rfl, rfl⟩, _, _, Res2 rfl (resV_tmp rfl) (resV_tmp rfl), .cons _ (.cons _ (.cons _ (.cons _ hMV))), hnil 8 hF⟩
    have e2 : decide (IntKind.i64.wrap ((t.cmds.length : Int) + (P.length : Int)) > 64) = false := by rw [ws]; exact decide_eq_false (by omega)
    rw [if_neg h64] at hF
    repeat (first | (refine RX ?_; (first | refine QW_a ?_ | refine QW_of (Qt_ldX rfl (hn := by with_reducible assumption)) ?_ | refine QW_of (Qt_indexV rfl) ?_)) | (refine OX ?_; (first | refine OW_callP rfl (hF := count_fn hInV) (hk := ?_)); try refine ⟨(by first | exact fun _ h => h | exact sub_mem (by repeat (first | exact .refl _ | exact List.nil_sublist _ | exact List.sublist_append_right _ _ | exact List.Sublist.append (.refl _) (List.sublist_append_right _ _) | apply List.Sublist.cons_cons | apply List.Sublist.cons))), ?_⟩) | refine WL_nil ?_ | refine WR_nil ?_ | refine WC_seq ?_ | refine WC_block ?_ | refine WC_cond_t (ht := ?_) | refine WC_cond_f (he := ?_) | refine WC_skip ?_ | refine WC_ret ?_ | refine WC_exit ?_ | refine WC_draw_all (id := 22) 7 (Cs [0,2,3] <| .must 1 <| Cs [4,5,6] <| .done) mixed (by kernel_rfl) ?_ | refine WG 20 ?_)
    by_cases ht : a ≤ lastF t ∨ 1099511627776 < a ∨ 1099511627776 < a - 1 + P.length
    · rw [if_pos ht] at hF
      by_cases t1 : a ≤ lastF t
      · have f1 : decide (a ≤ lastF t) = true := decide_eq_true t1
        repeat (first | ((first | refine WL_Q ?_ | refine WL_Y ?_); (first | refine QW_a ?_ | refine QW_of (Qt_ldX rfl (hn := by with_reducible assumption)) ?_ | refine QW_of (Qt_indexV rfl) ?_)) | ((first | refine WL_op rfl ?_ | refine WL_yes (h := ?_)); (first | refine OW_callP rfl (hF := plast_fn hInV hT hB hw) (hk := ?_))) | refine WL_nil ?_ | refine WL_un (h := ?_) | refine WL_N ?_ | refine WL_M ?_ | refine WC_seq ?_ | refine WC_block ?_ | refine WC_cond_t (ht := ?_) | refine WC_cond_f (he := ?_) | refine WC_skip ?_ | refine WC_ret ?_ | refine WC_exit ?_ | refine WG 24 ?_ | refine WG 25 ?_)
        exact ⟨_, ⟨d, 0, _, rfl, rfl, rfl, rfl⟩, _, _, Res2 rfl (resV_tmp rfl) (resV_tmp rfl), .cons _ (.cons _ (.cons _ (.cons _ hMV))), hnil 12 hF⟩
      have f1 : decide (a ≤ lastF t) = false := decide_eq_false t1
      by_cases t2 : 1099511627776 < a
      · have f2 : decide (a > 1099511627776) = true := decide_eq_true t2
        repeat (first | ((first | refine WL_Q ?_ | refine WL_Y ?_); (first | refine QW_a ?_ | refine QW_of (Qt_ldX rfl (hn := by with_reducible assumption)) ?_ | refine QW_of (Qt_indexV rfl) ?_)) | ((first | refine WL_op rfl ?_ | refine WL_yes (h := ?_)); (first | refine OW_callP rfl (hF := plast_fn hInV hT hB hw) (hk := ?_))) | refine WL_nil ?_ | refine WL_un (h := ?_) | refine WL_N ?_ | refine WL_M ?_ | refine WC_seq ?_ | refine WC_block ?_ | refine WC_cond_t (ht := ?_) | refine WC_cond_f (he := ?_) | refine WC_skip ?_ | refine WC_ret ?_ | refine WC_exit ?_ | refine WG 24 ?_ | refine WG 25 ?_)
        exact ⟨_, ⟨d, 0, _, rfl, rfl, rfl, rfl⟩, _, _, Res2 rfl (resV_tmp rfl) (resV_tmp rfl), .cons _ (.cons _ (.cons _ (.cons _ hMV))), hnil 12 hF⟩
      have f2 : decide (a > 1099511627776) = false := decide_eq_false t2
      have f3 : decide (a - 1 + (P.length : Int) > 1099511627776) = true := decide_eq_true (by omega)
      repeat (first | ((first | refine WL_Q ?_ | refine WL_Y ?_); (first | refine QW_a ?_ | refine QW_of (Qt_ldX rfl (hn := by with_reducible assumption)) ?_ | refine QW_of (Qt_indexV rfl) ?_)) | ((first | refine WL_op rfl ?_ | refine WL_yes (h := ?_)); (first | refine OW_callP rfl (hF := plast_fn hInV hT hB hw) (hk := ?_))) | refine WL_nil ?_ | refine WL_un (h := ?_) | refine WL_N ?_ | refine WL_M ?_ | refine WC_seq ?_ | refine WC_block ?_ | refine WC_cond_t (ht := ?_) | refine WC_cond_f (he := ?_) | refine WC_skip ?_ | refine WC_ret ?_ | refine WC_exit ?_ | refine WG 24 ?_ | refine WG 25 ?_)
      exact ⟨_, ⟨d, 0, _, rfl, rfl, rfl, rfl⟩, _, _, Res2 rfl (resV_tmp rfl) (resV_tmp rfl), .cons _ (.cons _ (.cons _ (.cons _ hMV))), hnil 12 hF⟩
    rw [if_neg ht] at hF
    have f1 : decide (a ≤ lastF t) = false := decide_eq_false (by omega)
    have f2 : decide (a > 1099511627776) = false := decide_eq_false (by omega)
    have f3 : decide (a - 1 + (P.length : Int) > 1099511627776) = false := decide_eq_false (by omega)
    repeat (first | ((first | refine WL_Q ?_ | refine WL_Y ?_); (first | refine QW_a ?_ | refine QW_of (Qt_ldX rfl (hn := by with_reducible assumption)) ?_ | refine QW_of (Qt_indexV rfl) ?_)) | ((first | refine WL_op rfl ?_ | refine WL_yes (h := ?_)); (first | refine OW_callP rfl (hF := plast_fn hInV hT hB hw) (hk := ?_))) | refine WL_nil ?_ | refine WL_un (h := ?_) | refine WL_N ?_ | refine WL_M ?_ | refine WC_seq ?_ | refine WC_block ?_ | refine WC_cond_t (ht := ?_) | refine WC_cond_f (he := ?_) | refine WC_skip ?_ | refine WC_ret ?_ | refine WC_exit ?_ | refine WG 24 ?_ | refine WG 26 ?_)
    refine ⟨_, ⟨d, 0, _, rfl, rfl, rfl, rfl⟩, _, _, Res2 rfl (resV_tmp rfl) (resV_tmp rfl), .cons _ (.cons _ (.cons _ (.cons _ hTV))), T ++ G, _, lc, (List.append_assoc ..).symm, by rw [hF], ?_, ?_⟩
    · rw [hF, mvL_len]
      exact hb.vecM.mem fun q hq => List.mem_append_left _ hq
    · rw [hF]
      exact hc.mem fun q hq => List.mem_append_right _ hq
  · intro _ _ _ h
    exact h.elim
end Go.Proofs.YtncgndcepoicbaaGreat
