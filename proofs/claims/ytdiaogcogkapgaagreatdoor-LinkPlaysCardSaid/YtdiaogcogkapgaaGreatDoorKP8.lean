/-
  A part of what the last of these texts needs; by itself it proves no statement.
-/
import Derived.Test.YtdiaogcogkapgaaGreatDoorKP7
namespace Go.Proofs.YtdiaogcogkapgaaGreatDoor
open Go.RowKit
attribute [local irreducible] Fn WC WL WR OW Qt YieldFn QW FnP FnD FnE
def IMany (qb nb : Nat) (l : List UInt8) (a most : Nat) (F : List (Nat × Obj)) (v : Value) (L' : List (Nat × Obj)) : Prop :=
  (uCode l a = 0 ∧ uVal l a ≤ most ∧ v = .int .i64 (uVal l a : Nat) ∧ L' = IM qb nb l (uNext l a) 0 0 F) ∨
  (∃ c b, (uCode l a ≠ 0 ∧ c = uCode l a ∨ uCode l a = 0 ∧ most < uVal l a ∧ c = 4) ∧ b ≤ l.length ∧ v = .int .i64 0 ∧ L' = IM qb nb l b c a F)
theorem In_many_no {qb nb a c e most : Nat} {l : List UInt8} (hc : c ≠ 0) (F : List (Nat × Obj)) : Fn Tryz.prog 140 [.pointer (some ⟨nb, 0, none⟩), .int .u64 (most : Nat)] (IM qb nb l a c e F) (fun v L' => v = .int .i64 0 ∧ L' = IM qb nb l a c e F) := by
  have d1 : decide ((0 : Int) > ((most : Nat) : Int)) = false := decide_eq_false (by omega)
  refine Fn_enter Tryz.func140 rfl Tryz.ntmps140 rfl fun g => ?_
  repeat (first | refine RQ ?_ | (refine RE ?_; try intro _) | refine RC ?_ | refine WC_region ?_)
  refine WL_op rfl (OW_call rfl (hF := In_u_no hc F) (hk := ?_))
  rintro _ _ ⟨rfl, rfl⟩
  repeat (first | refine RQ ?_ | (refine RE ?_; try intro _) | refine RC ?_ | refine WC_region ?_)
  exact ⟨rfl, _, _, Res1 rfl (resV_tmp rfl), .refl _, rfl, rfl⟩
set_option maxHeartbeats 1000000 in
theorem In_many {qb nb a most : Nat} {l : List UInt8} (ha : a ≤ l.length) (hl9 : l.length ≤ 1000000000) (hm : most ≤ 1000) (F : List (Nat × Obj)) : Fn Tryz.prog 140 [.pointer (some ⟨nb, 0, none⟩), .int .u64 (most : Nat)] (IM qb nb l a 0 0 F) (IMany qb nb l a most F) := by
  refine Fn_enter Tryz.func140 rfl Tryz.ntmps140 rfl fun g => ?_
  repeat (first | refine RQ ?_ | (refine RE ?_; try intro _) | refine RC ?_ | refine WC_region ?_)
  refine WL_op rfl (OW_call rfl (hF := In_u ha hl9 F) (hk := ?_))
  rintro v _ (⟨b, h1, rfl⟩ | ⟨c, e, b, h1, hc, hb, hok, hz, rfl⟩)
  · have hw := pr_went h1
    simp only [Fk.pr] at h1
    split at h1
    · rename_i h0
      cases h1
      by_cases hlt : uVal l a ≤ most
      · have d1 : decide (((uVal l a : Nat) : Int) > ((most : Nat) : Int)) = false := decide_eq_false (by omega)
        repeat (first | refine RQ ?_ | (refine RE ?_; try intro _) | refine RC ?_ | refine WC_region ?_)
        refine ⟨rfl, _, _, Res1 rfl (resV_tmp rfl), .refl _, .inl ⟨h0, hlt, ?_, rfl⟩⟩
        rw [wI64 (by omega) (by omega)]
      · have d1 : decide (((uVal l a : Nat) : Int) > ((most : Nat) : Int)) = true := decide_eq_true (by omega)
        repeat (first | refine RQ ?_ | (refine RE ?_; try intro _) | refine RC ?_ | refine WC_region ?_)
        refine WL_op rfl (OW_stN (off := 1) (n := 2) (cs := #[.pointer (some ⟨qb, 0, none⟩), .int .i64 ((0 : Nat) : Int), .int .i64 ((0 : Nat) : Int)]) (vs := #[.int .i64 4, .int .i64 (a : Nat)]) rfl ?_ (hl := Nat.le_refl 3))
        repeat (first | refine RQ ?_ | (refine RE ?_; try intro _) | refine RC ?_ | refine WC_region ?_)
        exact ⟨rfl, _, _, Res1 rfl (resV_tmp rfl), .refl _, .inr ⟨4, uNext l a, .inr ⟨h0, by omega, rfl⟩, hw.2.2.1, rfl, rfl⟩⟩
    · cases h1
  · obtain rfl : v = .int .u64 0 := by
      rcases hz with h | h
      · cases h
      · exact h
    simp only [Fk.pr] at h1
    split at h1
    · cases h1
    · rename_i h0
      cases h1
      have d1 : decide ((0 : Int) > ((most : Nat) : Int)) = false := decide_eq_false (by omega)
      repeat (first | refine RQ ?_ | (refine RE ?_; try intro _) | refine RC ?_ | refine WC_region ?_)
      exact ⟨rfl, _, _, Res1 rfl (resV_tmp rfl), .refl _, .inr ⟨uCode l a, b, .inl ⟨h0, rfl⟩, hb, rfl, rfl⟩⟩
end Go.Proofs.YtdiaogcogkapgaaGreatDoor
namespace Go.Proofs.YtdiaogcogkapgaaGreatDoor
open Go.RowKit
attribute [local irreducible] Fn WC WL WR OW Qt YieldFn QW FnP FnD FnE
structure ISt where
  a : Nat
  c : Nat
  e : Nat
structure IStep (l : List UInt8) (fs : List Fk) (s : ISt) (vs : List Value) (s' : ISt) : Prop where
  oks : Oks fs vs
  le : s'.a ≤ l.length
  ok : s.c = 0 → (prs l fs s.a = .ok vs s'.a ∧ s'.c = 0 ∧ s'.e = 0) ∨ (prs l fs s.a = .bad s'.c s'.e ∧ s'.c ≠ 0)
  no : s.c ≠ 0 → s'.c = s.c ∧ s'.e = s.e
theorem prs1_ok {l : List UInt8} {a b : Nat} {k : Fk} {v : Value} (h : Fk.pr l a k = .ok v b) : prs l [k] a = .ok [v] b := by simp only [prs, h, PR.bind]
theorem prs1_bad {l : List UInt8} {a c e : Nat} {k : Fk} (h : Fk.pr l a k = .bad c e) : prs l [k] a = .bad c e := by simp only [prs, h, PR.bind]
theorem IStep.nil {l : List UInt8} {s : ISt} (h : s.a ≤ l.length) (he : s.c = 0 → s.e = 0) : IStep l [] s [] s :=
  ⟨trivial, h, fun hc => .inl ⟨rfl, hc, he hc⟩, fun _ => ⟨rfl, rfl⟩⟩
theorem IStep.app {l : List UInt8} {fs gs : List Fk} {s s1 s2 : ISt} {vs us : List Value} (h1 : IStep l fs s vs s1) (h2 : IStep l gs s1 us s2) : IStep l (fs ++ gs) s (vs ++ us) s2 := by
  refine ⟨Oks.app h1.oks h2.oks, h2.le, fun hc => ?_, fun hc => ?_⟩
  · rw [prs_app]
    rcases h1.ok hc with ⟨e1, c1, _⟩ | ⟨e1, c1⟩
    · rw [e1]
      rcases h2.ok c1 with ⟨e2, c2, d2⟩ | ⟨e2, c2⟩
      · exact .inl ⟨by simp only [PR.bind, e2], c2, d2⟩
      · exact .inr ⟨by simp only [PR.bind, e2], c2⟩
    · obtain ⟨q1, q2⟩ := h2.no c1
      rw [e1, q1, q2]
      exact .inr ⟨rfl, c1⟩
  · obtain ⟨q1, q2⟩ := h1.no hc
    obtain ⟨r1, r2⟩ := h2.no (by rw [q1]; exact hc)
    exact ⟨r1.trans q1, r2.trans q2⟩
abbrev IMs (qb nb : Nat) (l : List UInt8) (s : ISt) (F : List (Nat × Obj)) : List (Nat × Obj) := IM qb nb l s.a s.c s.e F
def IAny (f : FuncId) (k : Fk) : Prop := ∀ (qb nb : Nat) (l : List UInt8) (s : ISt) (F : List (Nat × Obj)), s.a ≤ l.length → l.length ≤ 1000000000 → (s.c = 0 → s.e = 0) →
  Fn Tryz.prog f [.pointer (some ⟨nb, 0, none⟩)] (IMs qb nb l s F) (fun v L' => ∃ s', IStep l [k] s [v] s' ∧ L' = IMs qb nb l s' F)
theorem IAny.mk {f : FuncId} {k : Fk} (h1 : ∀ {qb nb a : Nat} {l : List UInt8}, a ≤ l.length → l.length ≤ 1000000000 → ∀ F, Fn Tryz.prog f [.pointer (some ⟨nb, 0, none⟩)] (IM qb nb l a 0 0 F) (IRead qb nb l a F k))
    (h2 : ∀ {qb nb a c e : Nat} {l : List UInt8}, c ≠ 0 → ∀ F, Fn Tryz.prog f [.pointer (some ⟨nb, 0, none⟩)] (IM qb nb l a c e F) (fun v L' => v = k.z ∧ L' = IM qb nb l a c e F)) (hz : k.ok k.z) : IAny f k := by
  rintro qb nb l ⟨a, c, e⟩ F ha hl he
  by_cases hc : c = 0
  · subst hc
    obtain rfl : e = 0 := he rfl
    refine (h1 ha hl F).mono ?_
    rintro v L' (⟨b, q1, rfl⟩ | ⟨c, e, b, q1, q2, q3, q4, _, rfl⟩)
    · have w := pr_went q1
      exact ⟨⟨b, 0, 0⟩, ⟨⟨w.1, trivial⟩, w.2.2.1, fun _ => .inl ⟨prs1_ok q1, rfl, rfl⟩, fun h => absurd rfl h⟩, rfl⟩
    · exact ⟨⟨b, c, e⟩, ⟨⟨q4, trivial⟩, q3, fun _ => .inr ⟨prs1_bad q1, q2⟩, fun h => absurd rfl h⟩, rfl⟩
  · refine (h2 hc F).mono ?_
    rintro v L' ⟨rfl, rfl⟩
    exact ⟨⟨a, c, e⟩, ⟨⟨hz, trivial⟩, ha, fun h => absurd h hc, fun _ => ⟨rfl, rfl⟩⟩, rfl⟩
theorem i_any : IAny 127 .ww := .mk In_i In_i_no ⟨0, rfl, by omega, by omega⟩
theorem n_any : IAny 125 .ww := .mk In_n In_n_no ⟨0, rfl, by omega, by omega⟩
theorem u_any : IAny 143 .nn := .mk In_u In_u_no ⟨0, rfl, by omega, by omega⟩
theorem t_any : IAny 138 .tt := .mk In_t In_t_no ⟨false, rfl⟩
theorem b_any : IAny 137 .bb := .mk In_b In_b_no ⟨0, rfl⟩
theorem key_any : IAny 136 .kk := .mk In_key In_key_no ⟨0, rfl, by omega, by omega⟩
end Go.Proofs.YtdiaogcogkapgaaGreatDoor
namespace Go.Proofs.YtdiaogcogkapgaaGreatDoor
open Go.RowKit
attribute [local irreducible] Fn WC WL WR OW Qt YieldFn QW FnP FnD FnE
theorem IStep.he {l : List UInt8} {fs : List Fk} {s s' : ISt} {vs : List Value} (h : IStep l fs s vs s') : s'.c = 0 → s'.e = 0 := fun hc => by
  by_cases h0 : s.c = 0
  · rcases h.ok h0 with ⟨_, _, e⟩ | ⟨_, e⟩
    · exact e
    · exact absurd hc e
  · exact absurd ((h.no h0).1.symm.trans hc) h0
def IFlat (f : FuncId) (fs : List Fk) : Prop := ∀ (qb nb : Nat) (l : List UInt8) (s : ISt) (F : List (Nat × Obj)), s.a ≤ l.length → l.length ≤ 1000000000 → (s.c = 0 → s.e = 0) →
  Fn Tryz.prog f [.pointer (some ⟨nb, 0, none⟩)] (IMs qb nb l s F) (fun v L' => ∃ us s', IStep l fs s us s' ∧ v = .agg us.toArray ∧ L' = IMs qb nb l s' F)
set_option maxHeartbeats 2000000 in
theorem Op_any : IFlat 141 opF := by
  intro qb nb l s F ha hl he
  have S := IStep.nil ha he
  refine Fn_enter Tryz.func141 rfl Tryz.ntmps141 rfl fun g => ?_
  repeat (first | refine RQ ?_ | (refine RE ?_; try intro _) | refine RC ?_ | refine WC_regB 2 ?_)
  refine WC_front 2 rfl ?_
  refine WC_front 3 rfl ?_
  refine WC_front 1 rfl ?_
  repeat (first | refine RQ ?_ | (refine RE ?_; try intro _) | refine RC ?_ | refine WC_regB 3 ?_)
  refine WL_op rfl (OW_call rfl (hF := n_any qb nb l _ _ S.le hl S.he) (hk := ?_))
  rintro v0 _ ⟨s0, h0, rfl⟩
  replace S := S.app h0
  have o0 := Fk.ok_one h0.oks.1
  repeat (first | refine RQ ?_ | (refine RE ?_; try intro _) | refine RC ?_ | refine WC_regB 3 ?_)
  refine WL_op rfl (OW_st1 rfl ?_ (h1 := o0) (hl := by first | decide | (simp only [Array.size_setIfInBounds]; decide)))
  repeat (first | refine RQ ?_ | (refine RE ?_; try intro _) | refine RC ?_ | refine WC_regB 4 ?_)
  refine WL_op rfl (OW_call rfl (hF := i_any qb nb l _ _ S.le hl S.he) (hk := ?_))
  rintro v1 _ ⟨s1, h1, rfl⟩
  replace S := S.app h1
  have o1 := Fk.ok_one h1.oks.1
  repeat (first | refine RQ ?_ | (refine RE ?_; try intro _) | refine RC ?_ | refine WC_regB 4 ?_)
  refine WL_op rfl (OW_st1 rfl ?_ (h1 := o1) (hl := by first | decide | (simp only [Array.size_setIfInBounds]; decide)))
  repeat (first | refine RQ ?_ | (refine RE ?_; try intro _) | refine RC ?_ | refine WC_regB 5 ?_)
  refine WL_op rfl (OW_call rfl (hF := i_any qb nb l _ _ S.le hl S.he) (hk := ?_))
  rintro v2 _ ⟨s2, h2, rfl⟩
  replace S := S.app h2
  have o2 := Fk.ok_one h2.oks.1
  repeat (first | refine RQ ?_ | (refine RE ?_; try intro _) | refine RC ?_ | refine WC_regB 5 ?_)
  refine WL_op rfl (OW_st1 rfl ?_ (h1 := o2) (hl := by first | decide | (simp only [Array.size_setIfInBounds]; decide)))
  repeat (first | refine RQ ?_ | (refine RE ?_; try intro _) | refine RC ?_ | refine WC_regB 6 ?_)
  refine WL_op rfl (OW_call rfl (hF := n_any qb nb l _ _ S.le hl S.he) (hk := ?_))
  rintro v3 _ ⟨s3, h3, rfl⟩
  replace S := S.app h3
  have o3 := Fk.ok_one h3.oks.1
  repeat (first | refine RQ ?_ | (refine RE ?_; try intro _) | refine RC ?_ | refine WC_regB 6 ?_)
  refine WL_op rfl (OW_st1 rfl ?_ (h1 := o3) (hl := by first | decide | (simp only [Array.size_setIfInBounds]; decide)))
  have hone := S.oks.cells1
  repeat (first | refine RQ ?_ | (refine RE ?_; try intro _) | refine RC ?_ | refine WC_region ?_)
  exact ⟨rfl, _, _, Res1 rfl (resV_cellN rfl 3 rfl rfl), .cons_cons _ (.cons_cons _ (.cons _ (.cons _ (.refl _)))), _, _, S, rfl, rfl⟩
set_option maxHeartbeats 2000000 in
theorem Rec_any : IFlat 126 recF := by
  intro qb nb l s F ha hl he
  have S := IStep.nil ha he
  refine Fn_enter Tryz.func126 rfl Tryz.ntmps126 rfl fun g => ?_
  repeat (first | refine RQ ?_ | (refine RE ?_; try intro _) | refine RC ?_ | refine WC_regB 2 ?_)
  refine WC_front 2 rfl ?_
  refine WC_front 3 rfl ?_
  refine WC_front 1 rfl ?_
  repeat (first | refine RQ ?_ | (refine RE ?_; try intro _) | refine RC ?_ | refine WC_regB 3 ?_)
  refine WL_op rfl (OW_call rfl (hF := key_any qb nb l _ _ S.le hl S.he) (hk := ?_))
  rintro v0 _ ⟨s0, h0, rfl⟩
  replace S := S.app h0
  have o0 := Fk.ok_one h0.oks.1
  repeat (first | refine RQ ?_ | (refine RE ?_; try intro _) | refine RC ?_ | refine WC_regB 3 ?_)
  refine WL_op rfl (OW_st1 rfl ?_ (h1 := o0) (hl := by first | decide | (simp only [Array.size_setIfInBounds]; decide)))
  repeat (first | refine RQ ?_ | (refine RE ?_; try intro _) | refine RC ?_ | refine WC_regB 4 ?_)
  refine WL_op rfl (OW_call rfl (hF := i_any qb nb l _ _ S.le hl S.he) (hk := ?_))
  rintro v1 _ ⟨s1, h1, rfl⟩
  replace S := S.app h1
  have o1 := Fk.ok_one h1.oks.1
  repeat (first | refine RQ ?_ | (refine RE ?_; try intro _) | refine RC ?_ | refine WC_regB 4 ?_)
  refine WL_op rfl (OW_st1 rfl ?_ (h1 := o1) (hl := by first | decide | (simp only [Array.size_setIfInBounds]; decide)))
  repeat (first | refine RQ ?_ | (refine RE ?_; try intro _) | refine RC ?_ | refine WC_regB 5 ?_)
  refine WL_op rfl (OW_call rfl (hF := i_any qb nb l _ _ S.le hl S.he) (hk := ?_))
  rintro v2 _ ⟨s2, h2, rfl⟩
  replace S := S.app h2
  have o2 := Fk.ok_one h2.oks.1
  repeat (first | refine RQ ?_ | (refine RE ?_; try intro _) | refine RC ?_ | refine WC_regB 5 ?_)
  refine WL_op rfl (OW_st1 rfl ?_ (h1 := o2) (hl := by first | decide | (simp only [Array.size_setIfInBounds]; decide)))
  repeat (first | refine RQ ?_ | (refine RE ?_; try intro _) | refine RC ?_ | refine WC_regB 6 ?_)
  refine WL_op rfl (OW_call rfl (hF := b_any qb nb l _ _ S.le hl S.he) (hk := ?_))
  rintro v3 _ ⟨s3, h3, rfl⟩
  replace S := S.app h3
  have o3 := Fk.ok_one h3.oks.1
  repeat (first | refine RQ ?_ | (refine RE ?_; try intro _) | refine RC ?_ | refine WC_regB 6 ?_)
  refine WL_op rfl (OW_st1 rfl ?_ (h1 := o3) (hl := by first | decide | (simp only [Array.size_setIfInBounds]; decide)))
  repeat (first | refine RQ ?_ | (refine RE ?_; try intro _) | refine RC ?_ | refine WC_regB 7 ?_)
  refine WL_op rfl (OW_call rfl (hF := t_any qb nb l _ _ S.le hl S.he) (hk := ?_))
  rintro v4 _ ⟨s4, h4, rfl⟩
  replace S := S.app h4
  have o4 := Fk.ok_one h4.oks.1
  repeat (first | refine RQ ?_ | (refine RE ?_; try intro _) | refine RC ?_ | refine WC_regB 7 ?_)
  refine WL_op rfl (OW_st1 rfl ?_ (h1 := o4) (hl := by first | decide | (simp only [Array.size_setIfInBounds]; decide)))
  repeat (first | refine RQ ?_ | (refine RE ?_; try intro _) | refine RC ?_ | refine WC_regB 8 ?_)
  refine WL_op rfl (OW_call rfl (hF := t_any qb nb l _ _ S.le hl S.he) (hk := ?_))
  rintro v5 _ ⟨s5, h5, rfl⟩
  replace S := S.app h5
  have o5 := Fk.ok_one h5.oks.1
  repeat (first | refine RQ ?_ | (refine RE ?_; try intro _) | refine RC ?_ | refine WC_regB 8 ?_)
  refine WL_op rfl (OW_st1 rfl ?_ (h1 := o5) (hl := by first | decide | (simp only [Array.size_setIfInBounds]; decide)))
  have hone := S.oks.cells1
  repeat (first | refine RQ ?_ | (refine RE ?_; try intro _) | refine RC ?_ | refine WC_region ?_)
  exact ⟨rfl, _, _, Res1 rfl (resV_cellN rfl 3 rfl rfl), .cons_cons _ (.cons_cons _ (.cons _ (.cons _ (.refl _)))), _, _, S, rfl, rfl⟩
set_option maxHeartbeats 2000000 in
theorem Acc_any : IFlat 146 accF := by
  intro qb nb l s F ha hl he
  have S := IStep.nil ha he
  refine Fn_enter Tryz.func146 rfl Tryz.ntmps146 rfl fun g => ?_
  repeat (first | refine RQ ?_ | (refine RE ?_; try intro _) | refine RC ?_ | refine WC_regB 2 ?_)
  refine WC_front 2 rfl ?_
  refine WC_front 3 rfl ?_
  refine WC_front 1 rfl ?_
  repeat (first | refine RQ ?_ | (refine RE ?_; try intro _) | refine RC ?_ | refine WC_regB 3 ?_)
  refine WL_op rfl (OW_call rfl (hF := i_any qb nb l _ _ S.le hl S.he) (hk := ?_))
  rintro v0 _ ⟨s0, h0, rfl⟩
  replace S := S.app h0
  have o0 := Fk.ok_one h0.oks.1
  repeat (first | refine RQ ?_ | (refine RE ?_; try intro _) | refine RC ?_ | refine WC_regB 3 ?_)
  refine WL_op rfl (OW_st1 rfl ?_ (h1 := o0) (hl := by first | decide | (simp only [Array.size_setIfInBounds]; decide)))
  repeat (first | refine RQ ?_ | (refine RE ?_; try intro _) | refine RC ?_ | refine WC_regB 4 ?_)
  refine WL_op rfl (OW_call rfl (hF := i_any qb nb l _ _ S.le hl S.he) (hk := ?_))
  rintro v1 _ ⟨s1, h1, rfl⟩
  replace S := S.app h1
  have o1 := Fk.ok_one h1.oks.1
  repeat (first | refine RQ ?_ | (refine RE ?_; try intro _) | refine RC ?_ | refine WC_regB 4 ?_)
  refine WL_op rfl (OW_st1 rfl ?_ (h1 := o1) (hl := by first | decide | (simp only [Array.size_setIfInBounds]; decide)))
  repeat (first | refine RQ ?_ | (refine RE ?_; try intro _) | refine RC ?_ | refine WC_regB 5 ?_)
  refine WL_op rfl (OW_call rfl (hF := u_any qb nb l _ _ S.le hl S.he) (hk := ?_))
  rintro v2 _ ⟨s2, h2, rfl⟩
  replace S := S.app h2
  have o2 := Fk.ok_one h2.oks.1
  repeat (first | refine RQ ?_ | (refine RE ?_; try intro _) | refine RC ?_ | refine WC_regB 5 ?_)
  refine WL_op rfl (OW_st1 rfl ?_ (h1 := o2) (hl := by first | decide | (simp only [Array.size_setIfInBounds]; decide)))
  repeat (first | refine RQ ?_ | (refine RE ?_; try intro _) | refine RC ?_ | refine WC_regB 6 ?_)
  refine WL_op rfl (OW_call rfl (hF := i_any qb nb l _ _ S.le hl S.he) (hk := ?_))
  rintro v3 _ ⟨s3, h3, rfl⟩
  replace S := S.app h3
  have o3 := Fk.ok_one h3.oks.1
  repeat (first | refine RQ ?_ | (refine RE ?_; try intro _) | refine RC ?_ | refine WC_regB 6 ?_)
  refine WL_op rfl (OW_st1 rfl ?_ (h1 := o3) (hl := by first | decide | (simp only [Array.size_setIfInBounds]; decide)))
  repeat (first | refine RQ ?_ | (refine RE ?_; try intro _) | refine RC ?_ | refine WC_regB 7 ?_)
  refine WL_op rfl (OW_call rfl (hF := i_any qb nb l _ _ S.le hl S.he) (hk := ?_))
  rintro v4 _ ⟨s4, h4, rfl⟩
  replace S := S.app h4
  have o4 := Fk.ok_one h4.oks.1
  repeat (first | refine RQ ?_ | (refine RE ?_; try intro _) | refine RC ?_ | refine WC_regB 7 ?_)
  refine WL_op rfl (OW_st1 rfl ?_ (h1 := o4) (hl := by first | decide | (simp only [Array.size_setIfInBounds]; decide)))
  have hone := S.oks.cells1
  repeat (first | refine RQ ?_ | (refine RE ?_; try intro _) | refine RC ?_ | refine WC_region ?_)
  exact ⟨rfl, _, _, Res1 rfl (resV_cellN rfl 3 rfl rfl), .cons_cons _ (.cons_cons _ (.cons _ (.cons _ (.refl _)))), _, _, S, rfl, rfl⟩
end Go.Proofs.YtdiaogcogkapgaaGreatDoor
namespace Go.Proofs.YtdiaogcogkapgaaGreatDoor
open Go.RowKit
attribute [local irreducible] Fn WC WL WR OW Qt YieldFn QW FnP FnD FnE
set_option maxHeartbeats 2000000 in
theorem Entry_any : IFlat 142 entryF := by
  intro qb nb l s F ha hl he
  have S := IStep.nil ha he
  refine Fn_enter Tryz.func142 rfl Tryz.ntmps142 rfl fun g => ?_
  repeat (first | refine RQ ?_ | (refine RE ?_; try intro _) | refine RC ?_ | refine WC_regB 2 ?_)
  refine WC_front 2 rfl ?_
  refine WC_front 3 rfl ?_
  refine WC_front 1 rfl ?_
  repeat (first | refine RQ ?_ | (refine RE ?_; try intro _) | refine RC ?_ | refine WC_regB 3 ?_)
  refine WL_op rfl (OW_call rfl (hF := n_any qb nb l _ _ S.le hl S.he) (hk := ?_))
  rintro v0 _ ⟨s0, h0, rfl⟩
  replace S := S.app h0
  have o0 := Fk.ok_one h0.oks.1
  repeat (first | refine RQ ?_ | (refine RE ?_; try intro _) | refine RC ?_ | refine WC_regB 3 ?_)
  refine WL_op rfl (OW_st1 rfl ?_ (h1 := o0) (hl := by first | decide | (simp only [Array.size_setIfInBounds]; decide)))
  repeat (first | refine RQ ?_ | (refine RE ?_; try intro _) | refine RC ?_ | refine WC_regB 4 ?_)
  refine WL_op rfl (OW_call rfl (hF := key_any qb nb l _ _ S.le hl S.he) (hk := ?_))
  rintro v1 _ ⟨s1, h1, rfl⟩
  replace S := S.app h1
  have o1 := Fk.ok_one h1.oks.1
  repeat (first | refine RQ ?_ | (refine RE ?_; try intro _) | refine RC ?_ | refine WC_regB 4 ?_)
  refine WL_op rfl (OW_st1 rfl ?_ (h1 := o1) (hl := by first | decide | (simp only [Array.size_setIfInBounds]; decide)))
  repeat (first | refine RQ ?_ | (refine RE ?_; try intro _) | refine RC ?_ | refine WC_regB 5 ?_)
  refine WL_op rfl (OW_call rfl (hF := i_any qb nb l _ _ S.le hl S.he) (hk := ?_))
  rintro v2 _ ⟨s2, h2, rfl⟩
  replace S := S.app h2
  have o2 := Fk.ok_one h2.oks.1
  repeat (first | refine RQ ?_ | (refine RE ?_; try intro _) | refine RC ?_ | refine WC_regB 5 ?_)
  refine WL_op rfl (OW_st1 rfl ?_ (h1 := o2) (hl := by first | decide | (simp only [Array.size_setIfInBounds]; decide)))
  repeat (first | refine RQ ?_ | (refine RE ?_; try intro _) | refine RC ?_ | refine WC_regB 6 ?_)
  refine WL_op rfl (OW_call rfl (hF := i_any qb nb l _ _ S.le hl S.he) (hk := ?_))
  rintro v3 _ ⟨s3, h3, rfl⟩
  replace S := S.app h3
  have o3 := Fk.ok_one h3.oks.1
  repeat (first | refine RQ ?_ | (refine RE ?_; try intro _) | refine RC ?_ | refine WC_regB 6 ?_)
  refine WL_op rfl (OW_st1 rfl ?_ (h1 := o3) (hl := by first | decide | (simp only [Array.size_setIfInBounds]; decide)))
  repeat (first | refine RQ ?_ | (refine RE ?_; try intro _) | refine RC ?_ | refine WC_regB 7 ?_)
  refine WL_op rfl (OW_call rfl (hF := b_any qb nb l _ _ S.le hl S.he) (hk := ?_))
  rintro v4 _ ⟨s4, h4, rfl⟩
  replace S := S.app h4
  have o4 := Fk.ok_one h4.oks.1
  repeat (first | refine RQ ?_ | (refine RE ?_; try intro _) | refine RC ?_ | refine WC_regB 7 ?_)
  refine WL_op rfl (OW_st1 rfl ?_ (h1 := o4) (hl := by first | decide | (simp only [Array.size_setIfInBounds]; decide)))
  repeat (first | refine RQ ?_ | (refine RE ?_; try intro _) | refine RC ?_ | refine WC_regB 8 ?_)
  refine WL_op rfl (OW_call rfl (hF := Acc_any qb nb l _ _ S.le hl S.he) (hk := ?_))
  rintro _ _ ⟨us, sx, hx, rfl, rfl⟩
  have q0 := hx.oks
  obtain ⟨u0, us, rfl, _, q1⟩ := q0.split
  obtain ⟨u1, us, rfl, _, q2⟩ := q1.split
  obtain ⟨u2, us, rfl, _, q3⟩ := q2.split
  obtain ⟨u3, us, rfl, _, q4⟩ := q3.split
  obtain ⟨u4, us, rfl, _, q5⟩ := q4.split
  obtain rfl := q5.nil
  replace S := S.app hx
  have ox := hx.oks.cells1
  have hlen := hx.oks.len
  repeat (first | refine RQ ?_ | (refine RE ?_; try intro _) | refine RC ?_ | refine WC_regB 8 ?_)
  refine WL_op rfl (OW_stN (off := 5) (n := 5) rfl ?_ (hn := hlen) (h1 := ox) (hl := by simp only [Array.size_setIfInBounds]; decide))
  have hone := S.oks.cells1
  have hlS := S.oks.len
  repeat (first | refine RQ ?_ | (refine RE ?_; try intro _) | refine RC ?_ | refine WC_region ?_)
  exact ⟨rfl, _, _, Res1 rfl (resV_cellN rfl 3 rfl hlS), .cons_cons _ (.cons_cons _ (.cons _ (.cons _ (.refl _)))), _, _, S, rfl, rfl⟩
end Go.Proofs.YtdiaogcogkapgaaGreatDoor
namespace Go.Proofs.YtdiaogcogkapgaaGreatDoor
open Go.RowKit
attribute [local irreducible] Fn WC WL WR OW Qt YieldFn QW FnP FnD FnE
structure IHow (l : List UInt8) (most : Nat) (s : ISt) (n : Nat) (s1 : ISt) : Prop where
  le : n ≤ most
  at_ : s1.a ≤ l.length
  he : s1.c = 0 → s1.e = 0
  ok : s.c = 0 → (s1.c = 0 ∧ ∀ es, prl l most es s.a = prn l es n s1.a) ∨ (s1.c ≠ 0 ∧ n = 0 ∧ ∀ es, prl l most es s.a = .bad s1.c s1.e)
  no : s.c ≠ 0 → n = 0 ∧ s1.c = s.c ∧ s1.e = s.e
theorem many_any (qb nb : Nat) (l : List UInt8) (s : ISt) (most : Nat) (F : List (Nat × Obj)) (ha : s.a ≤ l.length) (hl : l.length ≤ 1000000000) (hm : most ≤ 1000) (he : s.c = 0 → s.e = 0) :
    Fn Tryz.prog 140 [.pointer (some ⟨nb, 0, none⟩), .int .u64 (most : Nat)] (IMs qb nb l s F) (fun v L' => ∃ n s1, IHow l most s n s1 ∧ v = .int .i64 (n : Nat) ∧ L' = IMs qb nb l s1 F) := by
  obtain ⟨a, c, e⟩ := s
  by_cases hc : c = 0
  · subst hc
    obtain rfl : e = 0 := he rfl
    refine (In_many ha hl hm F).mono ?_
    rintro v L' (⟨h0, h1, rfl, rfl⟩ | ⟨c, b, h1, hb, rfl, rfl⟩)
    · have e0 : Fk.pr l a .nn = .ok (.int .u64 (uVal l a)) (uNext l a) := by simp only [Fk.pr]; rw [if_pos h0]
      exact ⟨uVal l a, ⟨uNext l a, 0, 0⟩, ⟨h1, (pr_went e0).2.2.1, fun _ => rfl, fun _ => .inl ⟨rfl, fun es => by unfold prl; rw [e0]; simp only [PR.bind]; rw [if_pos h1]⟩, fun h => absurd rfl h⟩, rfl, rfl⟩
    · refine ⟨0, ⟨b, c, a⟩, ⟨Nat.zero_le _, hb, fun h => ?_, fun _ => .inr ⟨?_, rfl, fun es => ?_⟩, fun h => absurd rfl h⟩, rfl, rfl⟩
      · rcases h1 with ⟨q, rfl⟩ | ⟨_, _, rfl⟩
        · exact absurd h q
        · cases h
      · rcases h1 with ⟨q, rfl⟩ | ⟨_, _, rfl⟩
        · exact q
        · show (4 : Nat) ≠ 0
          decide
      · rcases h1 with ⟨q, rfl⟩ | ⟨h0, h2, rfl⟩
        · have e0 : Fk.pr l a .nn = .bad (uCode l a) a := by simp only [Fk.pr]; rw [if_neg q]
          unfold prl; rw [e0]; rfl
        · have e0 : Fk.pr l a .nn = .ok (.int .u64 (uVal l a)) (uNext l a) := by simp only [Fk.pr]; rw [if_pos h0]
          unfold prl; rw [e0]; simp only [PR.bind]; rw [if_neg (Nat.not_le_of_lt h2)]
  · refine (In_many_no hc F).mono ?_
    rintro v L' ⟨rfl, rfl⟩
    exact ⟨0, ⟨a, c, e⟩, ⟨Nat.zero_le _, ha, he, fun h => absurd h hc, fun _ => ⟨rfl, rfl, rfl⟩⟩, rfl, rfl⟩
end Go.Proofs.YtdiaogcogkapgaaGreatDoor
namespace Go.Proofs.YtdiaogcogkapgaaGreatDoor
structure IL (l : List UInt8) (es : List Fk) (n : Nat) (s1 : ISt) (j : Nat) (vss : List (List Value)) (sj : ISt) : Prop where
  len : vss.length = j
  oks : ∀ vs ∈ vss, Oks es vs
  at_ : sj.a ≤ l.length
  he : sj.c = 0 → sj.e = 0
  ok : s1.c = 0 → (sj.c = 0 ∧ prn l es n s1.a = (prn l es (n - j) sj.a).bind fun vs b => .ok (vss ++ vs) b) ∨ (sj.c ≠ 0 ∧ prn l es n s1.a = .bad sj.c sj.e)
  no : s1.c ≠ 0 → sj.c = s1.c ∧ sj.e = s1.e
theorem IL.zero {l : List UInt8} {es : List Fk} {n : Nat} {s1 : ISt} (ha : s1.a ≤ l.length) (he : s1.c = 0 → s1.e = 0) : IL l es n s1 0 [] s1 :=
  ⟨rfl, (fun _ h => (by cases h)), ha, he, fun hc => .inl ⟨hc, (by rw [Nat.sub_zero]; cases prn l es n s1.a <;> rfl)⟩, fun _ => ⟨rfl, rfl⟩⟩
theorem IL.step {l : List UInt8} {es : List Fk} {n j : Nat} {s1 sj s' : ISt} {vss : List (List Value)} {us : List Value} (h : IL l es n s1 j vss sj) (hj : j < n) (h1 : IStep l es sj us s') : IL l es n s1 (j + 1) (vss ++ [us]) s' := by
  refine ⟨by rw [List.length_append, h.len]; rfl, fun vs hm => ?_, h1.le, h1.he, fun hc => ?_, fun hc => ?_⟩
  · rcases List.mem_append.1 hm with q | q
    · exact h.oks vs q
    · rw [List.mem_singleton.1 q]; exact h1.oks
  · rcases h.ok hc with ⟨c0, e0⟩ | ⟨c0, e0⟩
    · rcases h1.ok c0 with ⟨e1, c1, _⟩ | ⟨e1, c1⟩
      · exact .inl ⟨c1, prn_step e0 hj e1⟩
      · exact .inr ⟨c1, prn_stop e0 hj e1⟩
    · obtain ⟨q1, q2⟩ := h1.no c0
      rw [q1, q2]
      exact .inr ⟨c0, e0⟩
  · obtain ⟨q1, q2⟩ := h.no hc
    obtain ⟨r1, r2⟩ := h1.no (by rw [q1]; exact hc)
    exact ⟨r1.trans q1, r2.trans q2⟩
theorem IL.all {l : List UInt8} {es : List Fk} {n : Nat} {s1 sj : ISt} {vss : List (List Value)} (h : IL l es n s1 n vss sj) (hc : s1.c = 0) : (sj.c = 0 ∧ prn l es n s1.a = .ok vss sj.a) ∨ (sj.c ≠ 0 ∧ prn l es n s1.a = .bad sj.c sj.e) := by
  rcases h.ok hc with ⟨c0, e0⟩ | q
  · rw [Nat.sub_self] at e0
    exact .inl ⟨c0, by rw [e0]; simp [prn, PR.bind]⟩
  · exact .inr q
end Go.Proofs.YtdiaogcogkapgaaGreatDoor
namespace Go.Proofs.YtdiaogcogkapgaaGreatDoor
open Go.RowKit
attribute [local irreducible] Fn WC WL WR OW Qt YieldFn QW FnP FnD FnE
structure IGen {α : Type} (l : List UInt8) (pr : Nat → PR α) (s : ISt) (x : α) (s' : ISt) : Prop where
  le : s'.a ≤ l.length
  he : s'.c = 0 → s'.e = 0
  ok : s.c = 0 → (pr s.a = .ok x s'.a ∧ s'.c = 0) ∨ (pr s.a = .bad s'.c s'.e ∧ s'.c ≠ 0)
  no : s.c ≠ 0 → s'.c = s.c ∧ s'.e = s.e
theorem IStep.gen {l : List UInt8} {fs : List Fk} {s s' : ISt} {vs : List Value} (h : IStep l fs s vs s') : IGen l (prs l fs) s vs s' :=
  ⟨h.le, h.he, fun hc => (h.ok hc).imp (fun q => ⟨q.1, q.2.1⟩) id, h.no⟩
theorem list_gen {l : List UInt8} {most n : Nat} {es : List Fk} {s s1 sj : ISt} {vss : List (List Value)} (H : IHow l most s n s1) (HL : IL l es n s1 n vss sj) : IGen l (prl l most es) s vss sj := by
  refine ⟨HL.at_, HL.he, fun hc => ?_, fun hc => ?_⟩
  · rcases H.ok hc with ⟨c1, e1⟩ | ⟨c1, h0, e1⟩
    · rw [e1]
      rcases HL.all c1 with ⟨c2, e2⟩ | ⟨c2, e2⟩
      · exact .inl ⟨e2, c2⟩
      · exact .inr ⟨e2, c2⟩
    · obtain ⟨q1, q2⟩ := HL.no c1
      rw [q1, q2]
      exact .inr ⟨e1 es, c1⟩
  · obtain ⟨_, h1, h2⟩ := H.no hc
    obtain ⟨q1, q2⟩ := HL.no (by rw [h1]; exact hc)
    exact ⟨q1.trans h1, q2.trans h2⟩
theorem IGen.bind {α β γ : Type} {l : List UInt8} {p : Nat → PR α} {q : Nat → PR β} {s s1 s2 : ISt} {x : α} {y : β} (h1 : IGen l p s x s1) (h2 : IGen l q s1 y s2) (f : α → β → γ) : IGen l (fun a => (p a).bind fun x b => (q b).bind fun y c => .ok (f x y) c) s (f x y) s2 := by
  refine ⟨h2.le, h2.he, fun hc => ?_, fun hc => ?_⟩
  · rcases h1.ok hc with ⟨e1, c1⟩ | ⟨e1, c1⟩
    · simp only [e1, PR.bind]
      rcases h2.ok c1 with ⟨e2, c2⟩ | ⟨e2, c2⟩
      · exact .inl ⟨by rw [e2], c2⟩
      · exact .inr ⟨by rw [e2], c2⟩
    · obtain ⟨q1, q2⟩ := h2.no c1
      simp only [e1, PR.bind]
      rw [q1, q2]
      exact .inr ⟨rfl, c1⟩
  · obtain ⟨q1, q2⟩ := h1.no hc
    obtain ⟨r1, r2⟩ := h2.no (by rw [q1]; exact hc)
    exact ⟨r1.trans q1, r2.trans q2⟩
theorem IGen.of_eq {α : Type} {l : List UInt8} {p q : Nat → PR α} {s s' : ISt} {x : α} (h : IGen l p s x s') (e : ∀ a, q a = p a) : IGen l q s x s' := by
  rw [show q = p from funext e]; exact h
theorem buf_one {E sz : Nat} {v : Value} {T : List (Nat × Obj)} {n : Nat} {xs : List Value} (h : Buf E sz v T n xs) : v.oneCell' = true := by
  obtain ⟨ag, cap, rfl, _⟩ := h.val
  rfl
theorem src_list {c : Cx} {L : List (Nat × Obj)} {t2 e b E n : Nat} {us : List Value} [TUnd c.P t2 (.slice e)] (i : Nat) (hi : L[i]? = some (b, .cells us.toArray E (0, 0))) (h1 : ∀ u ∈ us, u.oneCell' = true) (hl : us.length = n) : SrcL c L n t2 (.slice (some ⟨b, 0, none⟩) 1 1) 1 us :=
  srcVec ⟨by rw [hl]; omega, _, _, rfl, Nat.le_refl _, by decide, .inr ⟨b, 0, us.toArray, E, (0, 0), i, rfl, hi, fun j v h => by rw [Nat.zero_add]; simpa using h⟩⟩ h1
def ChunkR (qb nb : Nat) (l : List UInt8) (s : ISt) (F : List (Nat × Obj)) (v : Value) (L' : List (Nat × Obj)) : Prop :=
  ∃ kh ents sj ve T, IGen l (prChunk l) s (kh, ents) sj ∧ Oks khF kh ∧ (∀ vs ∈ ents, Oks entryF vs) ∧ Buf 214 10 ve T ents.length ents.flatten ∧ v = .agg (kh ++ [ve]).toArray ∧ L' = IMs qb nb l sj (T ++ F)
def CmdR (qb nb : Nat) (l : List UInt8) (s : ISt) (F : List (Nat × Obj)) (v : Value) (L' : List (Nat × Obj)) : Prop :=
  ∃ ch bins ct sj vb T, IGen l (prCmd l) s (ch, bins, ct) sj ∧ Oks chF ch ∧ (∀ vs ∈ bins, Oks binF vs) ∧ Oks ctF ct ∧ Buf 3 1 vb T bins.length bins.flatten ∧ v = .agg (ch ++ (vb :: ct)).toArray ∧ L' = IMs qb nb l sj (T ++ F)
def IThing (f : FuncId) (R : Nat → Nat → List UInt8 → ISt → List (Nat × Obj) → Value → List (Nat × Obj) → Prop) : Prop := ∀ (qb nb : Nat) (l : List UInt8) (s : ISt) (F : List (Nat × Obj)), s.a ≤ l.length → l.length ≤ 1000000000 → (s.c = 0 → s.e = 0) →
  Fn Tryz.prog f [.pointer (some ⟨nb, 0, none⟩)] (IMs qb nb l s F) (R qb nb l s F)
set_option maxHeartbeats 8000000 in
theorem Chunk_any : IThing 129 ChunkR := by
  intro qb nb l s F ha hl he
  have S := IStep.nil ha he
  refine Fn_enter Tryz.func129 rfl Tryz.ntmps129 rfl fun g => ?_
  repeat (first | refine RQ ?_ | (refine RE ?_; try intro _) | refine RC ?_ | refine WC_regB 2 ?_)
  rename_i rb xb
  refine WC_front 2 rfl ?_
  refine WC_front 3 rfl ?_
  refine WC_front 1 rfl ?_
  repeat (first | refine RQ ?_ | (refine RE ?_; try intro _) | refine RC ?_ | refine WC_regB 3 ?_)
  refine WL_op rfl (OW_call rfl (hF := n_any qb nb l _ _ S.le hl S.he) (hk := ?_))
  rintro v0 _ ⟨s0, h0, rfl⟩
  replace S := S.app h0
  have o0 := Fk.ok_one h0.oks.1
  repeat (first | refine RQ ?_ | (refine RE ?_; try intro _) | refine RC ?_ | refine WC_regB 3 ?_)
  refine WL_op rfl (OW_st1 rfl ?_ (h1 := o0) (hl := by first | decide | (simp only [Array.size_setIfInBounds]; decide)))
  repeat (first | refine RQ ?_ | (refine RE ?_; try intro _) | refine RC ?_ | refine WC_regB 4 ?_)
  refine WL_op rfl (OW_call rfl (hF := n_any qb nb l _ _ S.le hl S.he) (hk := ?_))
  rintro v1 _ ⟨s1, h1, rfl⟩
  replace S := S.app h1
  have o1 := Fk.ok_one h1.oks.1
  repeat (first | refine RQ ?_ | (refine RE ?_; try intro _) | refine RC ?_ | refine WC_regB 4 ?_)
  refine WL_op rfl (OW_st1 rfl ?_ (h1 := o1) (hl := by first | decide | (simp only [Array.size_setIfInBounds]; decide)))
  repeat (first | refine RQ ?_ | (refine RE ?_; try intro _) | refine RC ?_ | refine WC_regB 5 ?_)
  refine WL_op rfl (OW_call rfl (hF := t_any qb nb l _ _ S.le hl S.he) (hk := ?_))
  rintro v2 _ ⟨s2, h2, rfl⟩
  replace S := S.app h2
  have o2 := Fk.ok_one h2.oks.1
  repeat (first | refine RQ ?_ | (refine RE ?_; try intro _) | refine RC ?_ | refine WC_regB 5 ?_)
  refine WL_op rfl (OW_st1 rfl ?_ (h1 := o2) (hl := by first | decide | (simp only [Array.size_setIfInBounds]; decide)))
  repeat (first | refine RQ ?_ | (refine RE ?_; try intro _) | refine RC ?_ | refine WC_regB 6 ?_)
  refine WL_op rfl (OW_call rfl (hF := many_any qb nb l _ 64 _ S.le hl (by decide) S.he) (hk := ?_))
  rintro _ _ ⟨n, sn, H, rfl, rfl⟩
  repeat (first | refine RQ ?_ | (refine RE ?_; try intro _) | refine RC0 ?_ | refine WC_block (id := 1) ?_ | refine WC_regB 7 ?_)
  refine WC_wk [(5, .int .i64 ((0 : Nat) : Int)), (4, .int .i64 (n : Nat)), (0, .pointer (some ⟨nb, 0, none⟩)), (2, .pointer (some ⟨rb, 0, none⟩)), (3, .pointer (some ⟨xb, 0, none⟩))] ⟨rfl, rfl, rfl, rfl, rfl, trivial⟩ ?_
  have hn := H.le
  refine WC_meet (fun σ => ∃ (sj : ISt) (Tj : List (Nat × Obj)) (vj : Value) (vssj : List (List Value)), IL l entryF n sn n vssj sj ∧ Buf 214 10 vj Tj n vssj.flatten ∧ σ = ⟨[(0, .pointer (some ⟨nb, 0, none⟩)), (2, .pointer (some ⟨rb, 0, none⟩)), (3, .pointer (some ⟨xb, 0, none⟩))], [], (qb, qdO l sj.a) :: (nb, inO qb sj.c sj.e) :: (xb, Obj.cells #[v0, v1, v2, vj] 41 (0, 0)) :: (rb, Obj.cells zc41 41 (0, 0)) :: (Tj ++ F)⟩) ?_ ?_
  · refine WC_block (WC_loop (fun m σ => ∃ (j : Nat) (sj : ISt) (Tj : List (Nat × Obj)) (vj : Value) (vssj : List (List Value)), m = n - j ∧ j ≤ n ∧ IL l entryF n sn j vssj sj ∧ Buf 214 10 vj Tj j vssj.flatten ∧ σ = ⟨[(5, .int .i64 (j : Nat)), (4, .int .i64 (n : Nat)), (0, .pointer (some ⟨nb, 0, none⟩)), (2, .pointer (some ⟨rb, 0, none⟩)), (3, .pointer (some ⟨xb, 0, none⟩))], [], (qb, qdO l sj.a) :: (nb, inO qb sj.c sj.e) :: (xb, Obj.cells #[v0, v1, v2, vj] 41 (0, 0)) :: (rb, Obj.cells zc41 41 (0, 0)) :: (Tj ++ F)⟩) n ⟨0, sn, [], .slice none 0 0, [], by omega, by omega, IL.zero H.at_ H.he, Buf.nil _ _, rfl⟩ ?_)
    rintro m σ ⟨j, sj, Tj, vj, vssj, rfl, hj, HL, hbuf, rfl⟩
    by_cases hlt : j < n
    · have d1 : decide (((j : Nat) : Int) < ((n : Nat) : Int)) = true := decide_eq_true (by omega)
      have hw1 : IntKind.i64.wrap (((j : Nat) : Int) + 1) = ((j + 1 : Nat) : Int) := by rw [wI64 (by omega) (by omega)]; omega
      have hsub : [(xb, Obj.cells #[v0, v1, v2, vj] 41 (0, 0))].Sublist ((qb, qdO l sj.a) :: (nb, inO qb sj.c sj.e) :: (xb, Obj.cells #[v0, v1, v2, vj] 41 (0, 0)) :: (rb, Obj.cells zc41 41 (0, 0)) :: (Tj ++ F)) := .cons _ (.cons _ (.cons_cons _ (List.nil_sublist _)))
      repeat (first | refine RQ ?_ | (refine RE ?_; try intro _) | refine RC ?_ | refine WG 0 ?_ | refine WG 1 ?_ | refine WG 2 ?_ | refine WG 3 ?_ | refine WG 4 ?_ | refine WG 5 ?_ | refine WG 6 ?_ | refine WG 7 ?_ | refine WG 8 ?_ | refine WG 10 ?_)
      refine WC_draw_sub (id := 9) 7 (Cs [0,1,2] <| .must 3 <| .must 4 <| .must 5 <| .calm 6 <| .must 7 <| .done) mixed (by kernel_rfl) (hsub) ?_
      repeat (first | refine RQr ?_ | ((first | refine WL_op rfl ?_ | refine WR_late rfl rfl rfl ?_ | refine WR_op rfl rfl ?_); (first | (refine OE ?_; try intro _)); try refine SD ?_) | refine RC ?_ | refine RU ?_ | refine WC_draw_all (id := 9) 7 (Cs [0,1,2] <| .must 3 <| .must 4 <| .must 5 <| .calm 6 <| .must 7 <| .done) mixed (by kernel_rfl) ?_ | refine WC_regB 10 ?_)
      refine WR_op rfl rfl (OW_call rfl (hF := Entry_any qb nb l sj _ HL.at_ hl HL.he) (hk := ?_))
      rintro _ _ ⟨us, s', hst, rfl, rfl⟩
      have hone := hst.oks.cells1
      have hlen : us.toArray.size = 10 := hst.oks.len
      refine ⟨sub_mem (.cons _ (.cons _ (.cons_cons _ (List.nil_sublist _)))), ?_⟩
      refine WR_op rfl rfl (OW_build1 rfl (hn := hlen) (hk := fun eb => ?_))
      refine ⟨sub_mem (.cons _ (.cons _ (.cons _ (.cons_cons _ (List.nil_sublist _))))), ?_⟩
      refine WR_op rfl rfl (OW_append_buf (A := (eb, Obj.cells us.toArray 214 (0, 0)) :: (qb, qdO l s'.a) :: (nb, inO qb s'.c s'.e) :: (xb, Obj.cells #[v0, v1, v2, vj] 41 (0, 0)) :: (rb, Obj.cells zc41 41 (0, 0)) :: []) (B := F) rfl rfl rfl rfl rfl hbuf (src_list 0 rfl (oks_one hst.oks) hst.oks.len) (by omega) (by simp only [maxLen]; omega) (by omega) fun v' T' hb' => ?_)
      refine ⟨sub_mem (.cons _ (.cons _ (.cons _ (.cons_cons _ (List.nil_sublist _))))), ?_⟩
      obtain ⟨ag', cap', rfl, _⟩ := hb'.val
      repeat (first | refine RQr ?_ | ((first | refine WL_op rfl ?_ | refine WR_late rfl rfl rfl ?_ | refine WR_op rfl rfl ?_); (first | (refine OE ?_; try intro _)); try refine SD ?_) | refine RC ?_ | refine RU ?_ | refine WC_draw_all (id := 9) 7 (Cs [0,1,2] <| .must 3 <| .must 4 <| .must 5 <| .calm 6 <| .must 7 <| .done) mixed (by kernel_rfl) ?_ | refine WC_region ?_)
      rw [hw1]
      exact ⟨_, _, by omega, ⟨j + 1, s', T', _, vssj ++ [us], rfl, by omega, HL.step hlt hst, by rw [List.flatten_append]; simpa using hb', rfl⟩, ⟨rfl, rfl, rfl, rfl, rfl, trivial⟩, rfl, .cons _ (.refl _)⟩
    · have d1 : decide (((j : Nat) : Int) < ((n : Nat) : Int)) = false := decide_eq_false (by omega)
      obtain rfl : j = n := by omega
      repeat (first | refine RQr ?_ | (refine OX ?_; (first | (refine OE ?_; try intro _)); try refine SD ?_) | refine RC ?_ | refine RU ?_ | refine WC_draw_all (id := 9) 7 (Cs [0,1,2] <| .must 3 <| .must 4 <| .must 5 <| .calm 6 <| .must 7 <| .done) mixed (by kernel_rfl) ?_ | refine WC_region ?_)
      exact ⟨_, ⟨sj, Tj, vj, vssj, HL, hbuf, rfl⟩, ⟨rfl, rfl, rfl, trivial⟩, rfl, .refl _⟩
  rintro _ ⟨sj, Tj, vj, vssj, HL, hbuf, rfl⟩
  have G := list_gen H HL
  have ov := buf_one hbuf
  have hbuf' : Buf 214 10 vj Tj vssj.length vssj.flatten := by rw [HL.len]; exact hbuf
  have hone : (#[v0, v1, v2, vj].toList.all fun v => v.oneCell') = true := by simp [o0, o1, o2, ov]
  repeat (first | refine RQr ?_ | (refine OX ?_; (first | (refine OE ?_; try intro _)); try refine SD ?_) | refine RC ?_ | refine RU ?_ | refine WC_draw_all (id := 9) 7 (Cs [0,1,2] <| .must 3 <| .must 4 <| .must 5 <| .calm 6 <| .must 7 <| .done) mixed (by kernel_rfl) ?_ | refine WC_region ?_)
  exact ⟨rfl, _, _, Res1 rfl (resV_cellN rfl 3 rfl rfl), .cons_cons _ (.cons_cons _ (.cons _ (.cons _ (.refl _)))), _, vssj, sj, vj, Tj, (S.gen.bind G (fun x y => (x, y))).of_eq (fun a => rfl), S.oks, HL.oks, hbuf', rfl, rfl⟩
theorem prCmd_eq (l : List UInt8) (a : Nat) : prCmd l a = (prs l chF a).bind fun x b => (((prl l 8 binF b).bind fun y c => (prs l ctF c).bind fun z d => PR.ok (y, z) d)).bind fun y c => .ok (x, y.1, y.2) c := by
  unfold prCmd
  cases prs l chF a with
  | bad c e => rfl
  | ok ch a1 =>
    simp only [PR.bind]
    cases prl l 8 binF a1 with
    | bad c e => rfl
    | ok bins a2 =>
      simp only
      cases prs l ctF a2 with
      | bad c e => rfl
      | ok ct a3 => rfl
set_option maxHeartbeats 8000000 in
theorem Cmd_any : IThing 128 CmdR := by
  intro qb nb l s F ha hl he
  have S := IStep.nil ha he
  refine Fn_enter Tryz.func128 rfl Tryz.ntmps128 rfl fun g => ?_
  repeat (first | refine RQ ?_ | (refine RE ?_; try intro _) | refine RC ?_ | refine WC_regB 2 ?_)
  rename_i rb xb
  refine WC_front 2 rfl ?_
  refine WC_front 3 rfl ?_
  refine WC_front 1 rfl ?_
  repeat (first | refine RQ ?_ | (refine RE ?_; try intro _) | refine RC ?_ | refine WC_regB 3 ?_)
  refine WL_op rfl (OW_call rfl (hF := n_any qb nb l _ _ S.le hl S.he) (hk := ?_))
  rintro v0 _ ⟨s0, h0, rfl⟩
  replace S := S.app h0
  have o0 := Fk.ok_one h0.oks.1
  repeat (first | refine RQ ?_ | (refine RE ?_; try intro _) | refine RC ?_ | refine WC_regB 3 ?_)
  refine WL_op rfl (OW_st1 rfl ?_ (h1 := o0) (hl := by first | decide | (simp only [Array.size_setIfInBounds]; decide)))
  repeat (first | refine RQ ?_ | (refine RE ?_; try intro _) | refine RC ?_ | refine WC_regB 4 ?_)
  refine WL_op rfl (OW_call rfl (hF := i_any qb nb l _ _ S.le hl S.he) (hk := ?_))
  rintro v1 _ ⟨s1, h1, rfl⟩
  replace S := S.app h1
  have o1 := Fk.ok_one h1.oks.1
  repeat (first | refine RQ ?_ | (refine RE ?_; try intro _) | refine RC ?_ | refine WC_regB 4 ?_)
  refine WL_op rfl (OW_st1 rfl ?_ (h1 := o1) (hl := by first | decide | (simp only [Array.size_setIfInBounds]; decide)))
  repeat (first | refine RQ ?_ | (refine RE ?_; try intro _) | refine RC ?_ | refine WC_regB 5 ?_)
  refine WL_op rfl (OW_call rfl (hF := many_any qb nb l _ 8 _ S.le hl (by decide) S.he) (hk := ?_))
  rintro _ _ ⟨n, sn, H, rfl, rfl⟩
  repeat (first | refine RQ ?_ | (refine RE ?_; try intro _) | refine RC0 ?_ | refine WC_block (id := 1) ?_ | refine WC_regB 6 ?_)
  refine WC_wk [(5, .int .i64 ((0 : Nat) : Int)), (4, .int .i64 (n : Nat)), (0, .pointer (some ⟨nb, 0, none⟩)), (2, .pointer (some ⟨rb, 0, none⟩)), (3, .pointer (some ⟨xb, 0, none⟩))] ⟨rfl, rfl, rfl, rfl, rfl, trivial⟩ ?_
  have hn := H.le
  refine WC_meet (fun σ => ∃ (sj : ISt) (Tj : List (Nat × Obj)) (vj : Value) (vssj : List (List Value)), IL l binF n sn n vssj sj ∧ Buf 3 1 vj Tj n vssj.flatten ∧ σ = ⟨[(0, .pointer (some ⟨nb, 0, none⟩)), (2, .pointer (some ⟨rb, 0, none⟩)), (3, .pointer (some ⟨xb, 0, none⟩))], [], (qb, qdO l sj.a) :: (nb, inO qb sj.c sj.e) :: (xb, Obj.cells #[v0, v1, vj, zI, zI, zI, zI, zI, zI, zI] 38 (0, 0)) :: (rb, Obj.cells zc38 38 (0, 0)) :: (Tj ++ F)⟩) ?_ ?_
  · refine WC_block (WC_loop (fun m σ => ∃ (j : Nat) (sj : ISt) (Tj : List (Nat × Obj)) (vj : Value) (vssj : List (List Value)), m = n - j ∧ j ≤ n ∧ IL l binF n sn j vssj sj ∧ Buf 3 1 vj Tj j vssj.flatten ∧ σ = ⟨[(5, .int .i64 (j : Nat)), (4, .int .i64 (n : Nat)), (0, .pointer (some ⟨nb, 0, none⟩)), (2, .pointer (some ⟨rb, 0, none⟩)), (3, .pointer (some ⟨xb, 0, none⟩))], [], (qb, qdO l sj.a) :: (nb, inO qb sj.c sj.e) :: (xb, Obj.cells #[v0, v1, vj, zI, zI, zI, zI, zI, zI, zI] 38 (0, 0)) :: (rb, Obj.cells zc38 38 (0, 0)) :: (Tj ++ F)⟩) n ⟨0, sn, [], .slice none 0 0, [], by omega, by omega, IL.zero H.at_ H.he, Buf.nil _ _, rfl⟩ ?_)
    rintro m σ ⟨j, sj, Tj, vj, vssj, rfl, hj, HL, hbuf, rfl⟩
    by_cases hlt : j < n
    · have d1 : decide (((j : Nat) : Int) < ((n : Nat) : Int)) = true := decide_eq_true (by omega)
      have hw1 : IntKind.i64.wrap (((j : Nat) : Int) + 1) = ((j + 1 : Nat) : Int) := by rw [wI64 (by omega) (by omega)]; omega
      have hsub : [(xb, Obj.cells #[v0, v1, vj, zI, zI, zI, zI, zI, zI, zI] 38 (0, 0))].Sublist ((qb, qdO l sj.a) :: (nb, inO qb sj.c sj.e) :: (xb, Obj.cells #[v0, v1, vj, zI, zI, zI, zI, zI, zI, zI] 38 (0, 0)) :: (rb, Obj.cells zc38 38 (0, 0)) :: (Tj ++ F)) := .cons _ (.cons _ (.cons_cons _ (List.nil_sublist _)))
      repeat (first | refine RQ ?_ | (refine RE ?_; try intro _) | refine RC ?_ | refine WG 0 ?_ | refine WG 1 ?_ | refine WG 2 ?_ | refine WG 3 ?_ | refine WG 4 ?_ | refine WG 5 ?_ | refine WG 6 ?_ | refine WG 7 ?_ | refine WG 9 ?_ | refine WG 10 ?_ | refine WG 11 ?_ | refine WG 12 ?_ | refine WG 13 ?_)
      refine WC_draw_sub (id := 8) 7 (Cs [0,1,2] <| .must 3 <| .must 4 <| .must 5 <| .calm 6 <| .must 7 <| .done) mixed (by kernel_rfl) (hsub) ?_
      repeat (first | refine RQr ?_ | ((first | refine WL_op rfl ?_ | refine WR_late rfl rfl rfl ?_ | refine WR_op rfl rfl ?_); (first | (refine OE ?_; try intro _)); try refine SD ?_) | refine RC ?_ | refine RU ?_ | refine WC_draw_all (id := 8) 7 (Cs [0,1,2] <| .must 3 <| .must 4 <| .must 5 <| .calm 6 <| .must 7 <| .done) mixed (by kernel_rfl) ?_ | refine WC_regB 13 ?_)
      refine WR_op rfl rfl (OW_call rfl (hF := n_any qb nb l sj _ HL.at_ hl HL.he) (hk := ?_))
      rintro u _ ⟨s', hst, rfl⟩
      obtain ⟨x, rfl, hx0, hx1⟩ := hst.oks.1
      have hlen : (#[Value.int .i64 x] : Array Value).size = 1 := rfl
      refine ⟨sub_mem (.cons _ (.cons _ (.cons_cons _ (List.nil_sublist _)))), ?_⟩
      refine WR_op rfl rfl (OW_build1 rfl (hn := hlen) (hk := fun eb => ?_))
      refine ⟨sub_mem (.cons _ (.cons _ (.cons _ (.cons_cons _ (List.nil_sublist _))))), ?_⟩
      refine WR_op rfl rfl (OW_append_buf (A := (eb, Obj.cells #[Value.int .i64 x] 3 (0, 0)) :: (qb, qdO l s'.a) :: (nb, inO qb s'.c s'.e) :: (xb, Obj.cells #[v0, v1, vj, zI, zI, zI, zI, zI, zI, zI] 38 (0, 0)) :: (rb, Obj.cells zc38 38 (0, 0)) :: []) (B := F) rfl rfl rfl rfl rfl hbuf (src_list 0 rfl (oks_one hst.oks) hst.oks.len) (by omega) (by simp only [maxLen]; omega) (by omega) fun v' T' hb' => ?_)
      refine ⟨sub_mem (.cons _ (.cons _ (.cons _ (.cons_cons _ (List.nil_sublist _))))), ?_⟩
      obtain ⟨ag', cap', rfl, _⟩ := hb'.val
      repeat (first | refine RQr ?_ | ((first | refine WL_op rfl ?_ | refine WR_late rfl rfl rfl ?_ | refine WR_op rfl rfl ?_); (first | (refine OE ?_; try intro _)); try refine SD ?_) | refine RC ?_ | refine RU ?_ | refine WC_draw_all (id := 8) 7 (Cs [0,1,2] <| .must 3 <| .must 4 <| .must 5 <| .calm 6 <| .must 7 <| .done) mixed (by kernel_rfl) ?_ | refine WC_region ?_)
      rw [hw1]
      exact ⟨_, _, by omega, ⟨j + 1, s', T', _, vssj ++ [[Value.int .i64 x]], rfl, by omega, HL.step hlt hst, by rw [List.flatten_append]; simpa using hb', rfl⟩, ⟨rfl, rfl, rfl, rfl, rfl, trivial⟩, rfl, .cons _ (.refl _)⟩
    · have d1 : decide (((j : Nat) : Int) < ((n : Nat) : Int)) = false := decide_eq_false (by omega)
      obtain rfl : j = n := by omega
      repeat (first | refine RQr ?_ | (refine OX ?_; (first | (refine OE ?_; try intro _)); try refine SD ?_) | refine RC ?_ | refine RU ?_ | refine WC_draw_all (id := 8) 7 (Cs [0,1,2] <| .must 3 <| .must 4 <| .must 5 <| .calm 6 <| .must 7 <| .done) mixed (by kernel_rfl) ?_ | refine WC_region ?_)
      exact ⟨_, ⟨sj, Tj, vj, vssj, HL, hbuf, rfl⟩, ⟨rfl, rfl, rfl, trivial⟩, rfl, .refl _⟩
  rintro _ ⟨sj, Tj, vj, vssj, HL, hbuf, rfl⟩
  have G := list_gen H HL
  have ov := buf_one hbuf
  have hbuf' : Buf 3 1 vj Tj vssj.length vssj.flatten := by rw [HL.len]; exact hbuf
  have S2 := IStep.nil G.le G.he
  repeat (first | refine RQr ?_ | (refine OX ?_; (first | (refine OE ?_; try intro _)); try refine SD ?_) | refine RC ?_ | refine RU ?_ | refine WC_draw_all (id := 8) 7 (Cs [0,1,2] <| .must 3 <| .must 4 <| .must 5 <| .calm 6 <| .must 7 <| .done) mixed (by kernel_rfl) ?_ | refine WC_regB 10 ?_)
  refine WL_op rfl (OW_call rfl (hF := n_any qb nb l _ _ S2.le hl S2.he) (hk := ?_))
  rintro t0 _ ⟨p0, g0, rfl⟩
  replace S2 := S2.app g0
  have q0 := Fk.ok_one g0.oks.1
  repeat (first | refine RQr ?_ | (refine OX ?_; (first | (refine OE ?_; try intro _)); try refine SD ?_) | refine RC ?_ | refine RU ?_ | refine WC_draw_all (id := 8) 7 (Cs [0,1,2] <| .must 3 <| .must 4 <| .must 5 <| .calm 6 <| .must 7 <| .done) mixed (by kernel_rfl) ?_ | refine WC_regB 10 ?_)
  refine WL_op rfl (OW_st1 rfl ?_ (h1 := q0) (hl := by first | exact Nat.le_of_ble_eq_true rfl | (simp only [Array.size_setIfInBounds]; decide)))
  repeat (first | refine RQr ?_ | (refine OX ?_; (first | (refine OE ?_; try intro _)); try refine SD ?_) | refine RC ?_ | refine RU ?_ | refine WC_draw_all (id := 8) 7 (Cs [0,1,2] <| .must 3 <| .must 4 <| .must 5 <| .calm 6 <| .must 7 <| .done) mixed (by kernel_rfl) ?_ | refine WC_regB 11 ?_)
  refine WL_op rfl (OW_call rfl (hF := n_any qb nb l _ _ S2.le hl S2.he) (hk := ?_))
  rintro t1 _ ⟨p1, g1, rfl⟩
  replace S2 := S2.app g1
  have q1 := Fk.ok_one g1.oks.1
  repeat (first | refine RQr ?_ | (refine OX ?_; (first | (refine OE ?_; try intro _)); try refine SD ?_) | refine RC ?_ | refine RU ?_ | refine WC_draw_all (id := 8) 7 (Cs [0,1,2] <| .must 3 <| .must 4 <| .must 5 <| .calm 6 <| .must 7 <| .done) mixed (by kernel_rfl) ?_ | refine WC_regB 11 ?_)
  refine WL_op rfl (OW_st1 rfl ?_ (h1 := q1) (hl := by first | exact Nat.le_of_ble_eq_true rfl | (simp only [Array.size_setIfInBounds]; decide)))
  repeat (first | refine RQr ?_ | (refine OX ?_; (first | (refine OE ?_; try intro _)); try refine SD ?_) | refine RC ?_ | refine RU ?_ | refine WC_draw_all (id := 8) 7 (Cs [0,1,2] <| .must 3 <| .must 4 <| .must 5 <| .calm 6 <| .must 7 <| .done) mixed (by kernel_rfl) ?_ | refine WC_regB 12 ?_)
  refine WL_op rfl (OW_call rfl (hF := Op_any qb nb l _ _ S2.le hl S2.he) (hk := ?_))
  rintro _ _ ⟨us, sx, hx, rfl, rfl⟩
  have w0 := hx.oks
  obtain ⟨u0, us, rfl, _, w1⟩ := w0.split
  obtain ⟨u1, us, rfl, _, w2⟩ := w1.split
  obtain ⟨u2, us, rfl, _, w3⟩ := w2.split
  obtain ⟨u3, us, rfl, _, w4⟩ := w3.split
  obtain rfl := w4.nil
  replace S2 := S2.app hx
  have ox := hx.oks.cells1
  have hlen := hx.oks.len
  repeat (first | refine RQr ?_ | (refine OX ?_; (first | (refine OE ?_; try intro _)); try refine SD ?_) | refine RC ?_ | refine RU ?_ | refine WC_draw_all (id := 8) 7 (Cs [0,1,2] <| .must 3 <| .must 4 <| .must 5 <| .calm 6 <| .must 7 <| .done) mixed (by kernel_rfl) ?_ | refine WC_regB 12 ?_)
  refine WL_op rfl (OW_stN (off := 5) (n := 4) rfl ?_ (hn := hlen) (h1 := ox) (hl := by exact Nat.le_of_ble_eq_true rfl))
  repeat (first | refine RQr ?_ | (refine OX ?_; (first | (refine OE ?_; try intro _)); try refine SD ?_) | refine RC ?_ | refine RU ?_ | refine WC_draw_all (id := 8) 7 (Cs [0,1,2] <| .must 3 <| .must 4 <| .must 5 <| .calm 6 <| .must 7 <| .done) mixed (by kernel_rfl) ?_ | refine WC_regB 13 ?_)
  refine WL_op rfl (OW_call rfl (hF := n_any qb nb l _ _ S2.le hl S2.he) (hk := ?_))
  rintro t3 _ ⟨p3, g3, rfl⟩
  replace S2 := S2.app g3
  have q3 := Fk.ok_one g3.oks.1
  repeat (first | refine RQr ?_ | (refine OX ?_; (first | (refine OE ?_; try intro _)); try refine SD ?_) | refine RC ?_ | refine RU ?_ | refine WC_draw_all (id := 8) 7 (Cs [0,1,2] <| .must 3 <| .must 4 <| .must 5 <| .calm 6 <| .must 7 <| .done) mixed (by kernel_rfl) ?_ | refine WC_regB 13 ?_)
  refine WL_op rfl (OW_st1 rfl ?_ (h1 := q3) (hl := by first | exact Nat.le_of_ble_eq_true rfl | (simp only [Array.size_setIfInBounds]; decide)))
  have hone : ((#[v0, v1, vj, t0, t1, u0, u1, u2, u3, t3] : Array Value).toList.all fun v => v.oneCell') = true := by
    have h7 : ([t0, t1, u0, u1, u2, u3, t3].all fun v => v.oneCell') = true := S2.oks.cells1
    show (([v0, v1, vj] ++ [t0, t1, u0, u1, u2, u3, t3]).all fun v => v.oneCell') = true
    rw [List.all_append, h7]
    simp [o0, o1, ov]
  repeat (first | refine RQr ?_ | (refine OX ?_; (first | (refine OE ?_; try intro _)); try refine SD ?_) | refine RC ?_ | refine RU ?_ | refine WC_draw_all (id := 8) 7 (Cs [0,1,2] <| .must 3 <| .must 4 <| .must 5 <| .calm 6 <| .must 7 <| .done) mixed (by kernel_rfl) ?_ | refine WC_region ?_)
  exact ⟨rfl, _, _, Res1 rfl (resV_cellN rfl 3 rfl rfl), .cons_cons _ (.cons_cons _ (.cons _ (.cons _ (.refl _)))), _, vssj, _, _, vj, Tj, (S.gen.bind (G.bind S2.gen (fun y z => (y, z))) (fun x y => (x, y.1, y.2))).of_eq (prCmd_eq l), S.oks, HL.oks, S2.oks, hbuf', rfl, rfl⟩
end Go.Proofs.YtdiaogcogkapgaaGreatDoor
namespace Go.Proofs.YtdiaogcogkapgaaGreatDoor
open Go.RowKit
theorem WL_perm {c : Cx} {ops : Array Oper} {l : List Oper} {K : Exit → St → Prop} {s : List (Nat × Value)} {D : List Deferred} {L L' : List (Nat × Obj)} (hp : L'.Perm L) (h : WL c ops l K ⟨s, D, L'⟩) : WL c ops l K ⟨s, D, L⟩ := fun a w ha => h a w (ha.mem' (ha.mem.perm hp))
attribute [local irreducible] Fn WC WL WR OW Qt YieldFn QW FnP FnD FnE
theorem IGen.bindD {α β : Type} {l : List UInt8} {p : Nat → PR α} {q : α → Nat → PR β} {s s1 s2 : ISt} {x : α} {y : β} (h1 : IGen l p s x s1) (h2 : IGen l (q x) s1 y s2) : IGen l (fun a => (p a).bind q) s y s2 := by
  refine ⟨h2.le, h2.he, fun hc => ?_, fun hc => ?_⟩
  · rcases h1.ok hc with ⟨e1, c1⟩ | ⟨e1, c1⟩
    · simp only [e1, PR.bind]
      exact h2.ok c1
    · obtain ⟨q1, q2⟩ := h2.no c1
      simp only [e1, PR.bind]
      rw [q1, q2]
      exact .inr ⟨rfl, c1⟩
  · obtain ⟨q1, q2⟩ := h1.no hc
    obtain ⟨r1, r2⟩ := h2.no (by rw [q1]; exact hc)
    exact ⟨r1.trans q1, r2.trans q2⟩
theorem IGen.map {α β : Type} {l : List UInt8} {p : Nat → PR α} {s s1 : ISt} {x : α} (h1 : IGen l p s x s1) (f : α → β) : IGen l (fun a => (p a).bind fun x b => .ok (f x) b) s (f x) s1 := by
  refine ⟨h1.le, h1.he, fun hc => ?_, h1.no⟩
  rcases h1.ok hc with ⟨e1, c1⟩ | ⟨e1, c1⟩
  · exact .inl ⟨by simp only [e1, PR.bind], c1⟩
  · exact .inr ⟨by simp only [e1, PR.bind], c1⟩
theorem IStep.genI {l : List UInt8} {s s' : ISt} {x : Int} (h : IStep l [.ww] s [.int .i64 x] s') : IGen l (prI l) s x s' := by
  refine ⟨h.le, h.he, fun hc => ?_, h.no⟩
  rcases h.ok hc with ⟨e, c, _⟩ | ⟨e, c⟩
  · rw [prs_ww] at e
    cases h5 : prI l s.a with
    | bad c a => rw [h5] at e; cases e
    | ok y b =>
      rw [h5] at e
      simp only [PR.bind, PR.ok.injEq, List.cons.injEq, Value.int.injEq, and_true, true_and] at e
      obtain ⟨rfl, rfl⟩ := e
      exact .inl ⟨rfl, c⟩
  · rw [prs_ww] at e
    cases h5 : prI l s.a with
    | ok y b => rw [h5] at e; cases e
    | bad c' a' =>
      rw [h5] at e
      simp only [PR.bind, PR.bad.injEq] at e
      obtain ⟨rfl, rfl⟩ := e
      exact .inr ⟨rfl, c⟩
def prK (l : List UInt8) (a : Nat) : PR Int := (prI l a).bind fun k a1 => if 0 ≤ k ∧ k ≤ 4 then .ok k a1 else .bad 6 a
theorem kind_in {l : List UInt8} {s s1 : ISt} {k : Int} (h : IGen l (prI l) s k s1) (hk : s1.c = 0 → 0 ≤ k ∧ k ≤ 4) : IGen l (prK l) s k s1 := by
  refine ⟨h.le, h.he, fun hc => ?_, h.no⟩
  rcases h.ok hc with ⟨e, c⟩ | ⟨e, c⟩
  · exact .inl ⟨by unfold prK; rw [e]; simp only [PR.bind]; rw [if_pos (hk c)], c⟩
  · exact .inr ⟨by unfold prK; rw [e]; rfl, c⟩
theorem kind_out {l : List UInt8} {s s1 : ISt} {k : Int} (h : IGen l (prI l) s k s1) (hc1 : s1.c = 0) (hk : ¬ (0 ≤ k ∧ k ≤ 4)) : IGen l (prK l) s k ⟨s1.a, 6, s.a⟩ := by
  refine ⟨h.le, (fun q => (by cases q)), fun hc => ?_, fun hc => ?_⟩
  · rcases h.ok hc with ⟨e, _⟩ | ⟨_, c⟩
    · exact .inr ⟨by unfold prK; rw [e]; simp only [PR.bind]; rw [if_neg hk], by show (6 : Nat) ≠ 0; decide⟩
    · exact absurd hc1 c
  · exact absurd ((h.no hc).1.symm.trans hc1) hc
theorem prMsg_eq (l : List UInt8) (a : Nat) : prMsg l a = (prK l a).bind fun k a1 => (prI l a1).bind fun v a2 => prBody l k v a2 := by
  unfold prMsg prK
  cases prI l a with
  | bad c e => rfl
  | ok k a1 =>
    simp only [PR.bind]
    split <;> rfl
def MsgR (qb nb : Nat) (l : List UInt8) (s : ISt) (F : List (Nat × Obj)) (v : Value) (L' : List (Nat × Obj)) : Prop :=
  ∃ m sj vb ve T1 T2, IGen l (prMsg l) s m sj ∧ m.Ok ∧ Buf 3 1 vb T1 m.bins.length m.bins.flatten ∧ Buf 214 10 ve T2 m.ents.length m.ents.flatten ∧ v = .agg (m.cellsV vb ve).toArray ∧ L' = IMs qb nb l sj (T1 ++ (T2 ++ F))
theorem perm4 (a b x y : Nat × Obj) (T F : List (Nat × Obj)) : (a :: b :: x :: y :: (T ++ F)).Perm (a :: b :: (T ++ (x :: y :: F))) := .cons _ (.cons _ (perm2 T F x y))
set_option maxHeartbeats 8000000 in
set_option maxRecDepth 100000 in
theorem Msg_any : IThing 104 MsgR := by
  intro qb nb l s F ha hl he
  refine Fn_enter Tryz.func104 rfl Tryz.ntmps104 rfl fun g => ?_
  repeat (first | refine RQ ?_ | (refine RE ?_; try intro _) | refine RC ?_ | refine WG 0 ?_ | refine WG 1 ?_ | refine WG 2 ?_)
  rename_i rb xb
  refine WC_front 2 rfl ?_
  refine WC_front 3 rfl ?_
  refine WC_front 1 rfl ?_
  repeat (first | refine RQ ?_ | (refine RE ?_; try intro _) | refine RC ?_ | refine WG 3 ?_)
  refine WL_op rfl (OW_call rfl (hF := n_any qb nb l s _ ha hl he) (hk := ?_))
  rintro _ _ ⟨s1, h1, rfl⟩
  obtain ⟨k, rfl, hk0, hk1⟩ := h1.oks.1
  have G1 := h1.genI
  have e1 := h1.he
  repeat (first | refine RQ ?_ | (refine RE ?_; try intro _) | refine RC ?_ | refine WG 3 ?_)
  refine WC_wk [(0, .pointer (some ⟨nb, 0, none⟩)), (2, .pointer (some ⟨rb, 0, none⟩)), (3, .int .i64 (s.a : Nat)), (4, .pointer (some ⟨xb, 0, none⟩))] ⟨rfl, rfl, rfl, rfl, trivial⟩ ?_
  refine WC_meet2 (fun σ => ∃ sk, IGen l (prK l) s k sk ∧ σ = ⟨[(0, .pointer (some ⟨nb, 0, none⟩)), (2, .pointer (some ⟨rb, 0, none⟩)), (4, .pointer (some ⟨xb, 0, none⟩))], [], IMs qb nb l sk ((xb, Obj.cells #[.int .i64 k, zI, .int .u32 0, zI, zI, .int .u8 0, .bool false, .bool false, zI, zI, zI, zI, nilS, zI, zI, zI, zI, zI, zI, zI, zI, zI, .bool false, nilS] 43 (0, 0)) :: (rb, Obj.cells zc43 43 (0, 0)) :: F)⟩) ?_ ?_
  · by_cases hc : s1.c = 0
    · have d0 : (((s1.c : Nat) : Int) == 0) = true := by simp [hc]
      by_cases hn : k < 0
      · have d1 : decide (k < 0) = true := decide_eq_true hn
        repeat (first | refine RQ ?_ | (refine RE ?_; try intro _) | refine RC ?_ | refine WG 4 ?_ | refine WG 5 ?_)
        refine WL_op rfl (OW_stN (off := 1) (n := 2) (cs := #[.pointer (some ⟨qb, 0, none⟩), .int .i64 (s1.c : Nat), .int .i64 (s1.e : Nat)]) (vs := #[.int .i64 ((6 : Nat) : Int), .int .i64 (s.a : Nat)]) rfl ?_ (hl := Nat.le_refl 3))
        repeat (first | refine RQ ?_ | (refine RE ?_; try intro _) | refine RC ?_ | refine WG 4 ?_ | refine WG 5 ?_)
        exact ⟨_, ⟨_, kind_out G1 hc (by omega), rfl⟩, ⟨rfl, rfl, rfl, trivial⟩, rfl, .refl _⟩
      · have d1 : decide (k < 0) = false := decide_eq_false hn
        by_cases hm : k > 4
        · have d2 : decide (k > 4) = true := decide_eq_true hm
          repeat (first | refine RQ ?_ | (refine RE ?_; try intro _) | refine RC ?_ | refine WG 4 ?_ | refine WG 5 ?_)
          refine WL_op rfl (OW_stN (off := 1) (n := 2) (cs := #[.pointer (some ⟨qb, 0, none⟩), .int .i64 (s1.c : Nat), .int .i64 (s1.e : Nat)]) (vs := #[.int .i64 ((6 : Nat) : Int), .int .i64 (s.a : Nat)]) rfl ?_ (hl := Nat.le_refl 3))
          repeat (first | refine RQ ?_ | (refine RE ?_; try intro _) | refine RC ?_ | refine WG 4 ?_ | refine WG 5 ?_)
          exact ⟨_, ⟨_, kind_out G1 hc (by omega), rfl⟩, ⟨rfl, rfl, rfl, trivial⟩, rfl, .refl _⟩
        · have d2 : decide (k > 4) = false := decide_eq_false hm
          repeat (first | refine RQ ?_ | (refine RE ?_; try intro _) | refine RC ?_ | refine WG 4 ?_ | refine WG 5 ?_)
          exact ⟨_, ⟨_, kind_in G1 (fun _ => ⟨by omega, by omega⟩), rfl⟩, ⟨rfl, rfl, rfl, trivial⟩, rfl, .refl _⟩
    · have d0 : (((s1.c : Nat) : Int) == 0) = false := by simp; omega
      repeat (first | refine RQ ?_ | (refine RE ?_; try intro _) | refine RC ?_ | refine WG 4 ?_ | refine WG 5 ?_)
      exact ⟨_, ⟨_, kind_in G1 (fun q => absurd q hc), rfl⟩, ⟨rfl, rfl, rfl, trivial⟩, rfl, .refl _⟩
  rintro _ ⟨sk, GK, rfl⟩
  repeat (first | refine RQ ?_ | (refine RE ?_; try intro _) | refine RC ?_ | refine WG 6 ?_)
  refine WL_op rfl (OW_call rfl (hF := n_any qb nb l sk _ GK.le hl GK.he) (hk := ?_))
  rintro _ _ ⟨s2, h2, rfl⟩
  obtain ⟨v, rfl, hv0, hv1⟩ := h2.oks.1
  have G2 := h2.genI
  repeat (first | refine RQ ?_ | (refine RE ?_; try intro _) | refine RC ?_ | refine WG 6 ?_ | refine WG 7 ?_)
  have fin : ∀ {m : MV} {sj : ISt}, IGen l (prBody l k v) s2 m sj → IGen l (prMsg l) s m sj := fun G3 => (GK.bindD (q := fun k a1 => (prI l a1).bind fun v a2 => prBody l k v a2) (G2.bindD (q := fun v a2 => prBody l k v a2) G3)).of_eq (prMsg_eq l)
  have N := MV.none_ok
  by_cases n0 : k = 0
  · have d0 : (k == 0) = true := by simpa using n0
    repeat (first | refine RQ ?_ | (refine RE ?_; try intro _) | refine RC ?_ | refine WG 9 ?_ | refine WG 10 ?_)
    refine WL_op rfl (OW_call rfl (hF := Rec_any qb nb l s2 _ h2.le hl h2.he) (hk := ?_))
    rintro _ _ ⟨us, s3, h3, rfl, rfl⟩
    have w0 := h3.oks
    obtain ⟨u0, us, rfl, _, w1⟩ := w0.split
    obtain ⟨u1, us, rfl, _, w2⟩ := w1.split
    obtain ⟨u2, us, rfl, _, w3⟩ := w2.split
    obtain ⟨u3, us, rfl, _, w4⟩ := w3.split
    obtain ⟨u4, us, rfl, _, w5⟩ := w4.split
    obtain ⟨u5, us, rfl, _, w6⟩ := w5.split
    obtain rfl := w6.nil
    have ox := h3.oks.cells1
    have hlen := h3.oks.len
    repeat (first | refine RQ ?_ | (refine RE ?_; try intro _) | refine RC ?_ | refine WG 10 ?_)
    refine WL_op rfl (OW_stN (off := 2) (n := 6) rfl ?_ (hn := hlen) (h1 := ox) (hl := by exact Nat.le_of_ble_eq_true rfl))
    repeat (first | refine RQ ?_ | (refine RE ?_; try intro _) | refine RC ?_ | refine WG 10 ?_)
    have hmo : ({ MV.none with kind := k, ver := v, rc := [u0, u1, u2, u3, u4, u5] } : MV).Ok := ⟨⟨hk0, hk1⟩, ⟨hv0, hv1⟩, h3.oks, N.time, N.num, N.ch, N.bins, N.ct, N.kh, N.ents⟩
    have hone : ((({ MV.none with kind := k, ver := v, rc := [u0, u1, u2, u3, u4, u5] } : MV).cellsV nilS nilS).toArray.toList.all fun v => v.oneCell') = true := MV.cellsV_one hmo rfl rfl
    repeat (first | refine RQ ?_ | (refine RE ?_; try intro _) | refine RC ?_ | refine WG 17 ?_)
    exact ⟨rfl, _, _, Res1 rfl (resV_cellN rfl 3 rfl rfl), .cons_cons _ (.cons_cons _ (.cons _ (.cons _ (.refl _)))), ({ MV.none with kind := k, ver := v, rc := [u0, u1, u2, u3, u4, u5] } : MV), s3, nilS, nilS, [], [], fin ((h3.gen.map (fun x => ({ MV.none with kind := k, ver := v, rc := x } : MV))).of_eq (fun a => by unfold prBody; rw [if_pos n0])), hmo, Buf.nil _ _, Buf.nil _ _, rfl, rfl⟩
  by_cases n1 : k = 1
  · have d0 : (k == 0) = false := by simpa using n0
    have d1 : (k == 1) = true := by simpa using n1
    repeat (first | refine RQ ?_ | (refine RE ?_; try intro _) | refine RC ?_ | refine WG 9 ?_ | refine WG 11 ?_ | refine WG 12 ?_)
    refine WL_op rfl (OW_call rfl (hF := i_any qb nb l s2 _ h2.le hl h2.he) (hk := ?_))
    rintro _ _ ⟨s3, h3, rfl⟩
    obtain ⟨x, rfl, hx0, hx1⟩ := h3.oks.1
    repeat (first | refine RQ ?_ | (refine RE ?_; try intro _) | refine RC ?_ | refine WG 12 ?_)
    have hone : ((({ MV.none with kind := k, ver := v, time := x } : MV).cellsV nilS nilS).all fun v => v.oneCell') = true := rfl
    repeat (first | refine RQ ?_ | (refine RE ?_; try intro _) | refine RC ?_ | refine WG 17 ?_)
    exact ⟨rfl, _, _, Res1 rfl (resV_cellN rfl 3 rfl rfl), .cons_cons _ (.cons_cons _ (.cons _ (.cons _ (.refl _)))), ({ MV.none with kind := k, ver := v, time := x } : MV), s3, nilS, nilS, [], [], fin ((h3.genI.map (fun x => ({ MV.none with kind := k, ver := v, time := x } : MV))).of_eq (fun a => by unfold prBody; rw [if_neg n0, if_pos n1])), ⟨⟨hk0, hk1⟩, ⟨hv0, hv1⟩, N.rc, ⟨hx0, hx1⟩, N.num, N.ch, N.bins, N.ct, N.kh, N.ents⟩, Buf.nil _ _, Buf.nil _ _, rfl, rfl⟩
  by_cases n2 : k = 2
  · have d0 : (k == 0) = false := by simpa using n0
    have d1 : (k == 1) = false := by simpa using n1
    have d2 : (k == 2) = true := by simpa using n2
    repeat (first | refine RQ ?_ | (refine RE ?_; try intro _) | refine RC ?_ | refine WG 9 ?_ | refine WG 11 ?_ | refine WG 13 ?_ | refine WG 14 ?_)
    refine WL_op rfl (OW_call rfl (hF := n_any qb nb l s2 _ h2.le hl h2.he) (hk := ?_))
    rintro _ _ ⟨s3, h3, rfl⟩
    obtain ⟨x, rfl, hx0, hx1⟩ := h3.oks.1
    repeat (first | refine RQ ?_ | (refine RE ?_; try intro _) | refine RC ?_ | refine WG 14 ?_)
    have hone : ((({ MV.none with kind := k, ver := v, num := x } : MV).cellsV nilS nilS).all fun v => v.oneCell') = true := rfl
    repeat (first | refine RQ ?_ | (refine RE ?_; try intro _) | refine RC ?_ | refine WG 17 ?_)
    exact ⟨rfl, _, _, Res1 rfl (resV_cellN rfl 3 rfl rfl), .cons_cons _ (.cons_cons _ (.cons _ (.cons _ (.refl _)))), ({ MV.none with kind := k, ver := v, num := x } : MV), s3, nilS, nilS, [], [], fin ((h3.genI.map (fun x => ({ MV.none with kind := k, ver := v, num := x } : MV))).of_eq (fun a => by unfold prBody; rw [if_neg n0, if_neg n1, if_pos n2])), ⟨⟨hk0, hk1⟩, ⟨hv0, hv1⟩, N.rc, N.time, ⟨hx0, hx1⟩, N.ch, N.bins, N.ct, N.kh, N.ents⟩, Buf.nil _ _, Buf.nil _ _, rfl, rfl⟩
  by_cases n3 : k = 3
  · have d0 : (k == 0) = false := by simpa using n0
    have d1 : (k == 1) = false := by simpa using n1
    have d2 : (k == 2) = false := by simpa using n2
    have d3 : (k == 3) = true := by simpa using n3
    repeat (first | refine RQ ?_ | (refine RE ?_; try intro _) | refine RC ?_ | refine WG 9 ?_ | refine WG 11 ?_ | refine WG 13 ?_ | refine WG 15 ?_ | refine WG 16 ?_)
    refine WL_op rfl (OW_call rfl (hF := Cmd_any qb nb l s2 _ h2.le hl h2.he) (hk := ?_))
    rintro _ _ ⟨ch, bins, ct, s3, vb, T, h3, och, obins, oct, hbuf, rfl, rfl⟩
    refine WL_perm (perm4 _ _ _ _ T F) ?_
    have ob := hbuf.one
    have w0 := och
    obtain ⟨u0, us, rfl, _, w1⟩ := w0.split
    obtain ⟨u1, us, rfl, _, w2⟩ := w1.split
    obtain rfl := w2.nil
    have y0 := oct
    obtain ⟨x0, us, rfl, _, y1⟩ := y0.split
    obtain ⟨x1, us, rfl, _, y2⟩ := y1.split
    obtain ⟨x2, us, rfl, _, y3⟩ := y2.split
    obtain ⟨x3, us, rfl, _, y4⟩ := y3.split
    obtain ⟨x4, us, rfl, _, y5⟩ := y4.split
    obtain ⟨x5, us, rfl, _, y6⟩ := y5.split
    obtain ⟨x6, us, rfl, _, y7⟩ := y6.split
    obtain rfl := y7.nil
    have ox : (([u0, u1] ++ (vb :: [x0, x1, x2, x3, x4, x5, x6])).toArray.toList.all fun v => v.oneCell') = true := by
      show (([u0, u1] ++ (vb :: [x0, x1, x2, x3, x4, x5, x6])).all _) = true
      have a1 := och.cells1; have a2 := oct.cells1; rw [List.all_append, a1]; show (true && (vb.oneCell' && _)) = true; rw [ob, a2]; rfl
    repeat (first | refine RQ ?_ | (refine RE ?_; try intro _) | refine RC ?_ | refine WG 16 ?_)
    refine WL_op rfl (OW_stN (off := 10) (n := 10) rfl ?_ (hn := rfl) (h1 := ox) (hl := by exact Nat.le_of_ble_eq_true rfl))
    repeat (first | refine RQ ?_ | (refine RE ?_; try intro _) | refine RC ?_ | refine WG 16 ?_)
    have hmo : ({ MV.none with kind := k, ver := v, ch := [u0, u1], bins := bins, ct := [x0, x1, x2, x3, x4, x5, x6] } : MV).Ok := ⟨⟨hk0, hk1⟩, ⟨hv0, hv1⟩, N.rc, N.time, N.num, och, obins, oct, N.kh, N.ents⟩
    have hone : ((({ MV.none with kind := k, ver := v, ch := [u0, u1], bins := bins, ct := [x0, x1, x2, x3, x4, x5, x6] } : MV).cellsV vb nilS).toArray.toList.all fun v => v.oneCell') = true := MV.cellsV_one hmo ob rfl
    repeat (first | refine RQ ?_ | (refine RE ?_; try intro _) | refine RC ?_ | refine WG 17 ?_)
    exact ⟨rfl, _, _, Res1 rfl (resV_cellN rfl 3 rfl rfl), .cons_cons _ (.cons_cons _ (.cons _ (.cons _ (.refl _)))), ({ MV.none with kind := k, ver := v, ch := [u0, u1], bins := bins, ct := [x0, x1, x2, x3, x4, x5, x6] } : MV), s3, vb, nilS, T, [], fin ((h3.map (fun x => ({ MV.none with kind := k, ver := v, ch := x.1, bins := x.2.1, ct := x.2.2 } : MV))).of_eq (fun a => by unfold prBody; rw [if_neg n0, if_neg n1, if_neg n2, if_pos n3])), hmo, hbuf, Buf.nil _ _, rfl, rfl⟩
  have d0 : (k == 0) = false := by simpa using n0
  have d1 : (k == 1) = false := by simpa using n1
  have d2 : (k == 2) = false := by simpa using n2
  have d3 : (k == 3) = false := by simpa using n3
  repeat (first | refine RQ ?_ | (refine RE ?_; try intro _) | refine RC ?_ | refine WG 9 ?_ | refine WG 11 ?_ | refine WG 13 ?_ | refine WG 15 ?_ | refine WG 8 ?_)
  refine WL_op rfl (OW_call rfl (hF := Chunk_any qb nb l s2 _ h2.le hl h2.he) (hk := ?_))
  rintro _ _ ⟨kh, ents, s3, ve, T, h3, okh, oents, hbuf, rfl, rfl⟩
  refine WL_perm (perm4 _ _ _ _ T F) ?_
  have ob := hbuf.one
  have w0 := okh
  obtain ⟨u0, us, rfl, _, w1⟩ := w0.split
  obtain ⟨u1, us, rfl, _, w2⟩ := w1.split
  obtain ⟨u2, us, rfl, _, w3⟩ := w2.split
  obtain rfl := w3.nil
  have ox : (([u0, u1, u2] ++ [ve]).toArray.toList.all fun v => v.oneCell') = true := by
    show (([u0, u1, u2] ++ [ve]).all _) = true
    have a1 := okh.cells1; rw [List.all_append, a1]; show (true && (ve.oneCell' && _)) = true; rw [ob]; rfl
  repeat (first | refine RQ ?_ | (refine RE ?_; try intro _) | refine RC ?_ | refine WG 8 ?_)
  refine WL_op rfl (OW_stN (off := 20) (n := 4) rfl ?_ (hn := rfl) (h1 := ox) (hl := by exact Nat.le_of_ble_eq_true rfl))
  repeat (first | refine RQ ?_ | (refine RE ?_; try intro _) | refine RC ?_ | refine WG 8 ?_)
  have hmo : ({ MV.none with kind := k, ver := v, kh := [u0, u1, u2], ents := ents } : MV).Ok := ⟨⟨hk0, hk1⟩, ⟨hv0, hv1⟩, N.rc, N.time, N.num, N.ch, N.bins, N.ct, okh, oents⟩
  have hone : ((({ MV.none with kind := k, ver := v, kh := [u0, u1, u2], ents := ents } : MV).cellsV nilS ve).toArray.toList.all fun v => v.oneCell') = true := MV.cellsV_one hmo rfl ob
  repeat (first | refine RQ ?_ | (refine RE ?_; try intro _) | refine RC ?_ | refine WG 17 ?_)
  exact ⟨rfl, _, _, Res1 rfl (resV_cellN rfl 3 rfl rfl), .cons_cons _ (.cons_cons _ (.cons _ (.cons _ (.refl _)))), ({ MV.none with kind := k, ver := v, kh := [u0, u1, u2], ents := ents } : MV), s3, nilS, ve, [], T, fin ((h3.map (fun x => ({ MV.none with kind := k, ver := v, kh := x.1, ents := x.2 } : MV))).of_eq (fun a => by unfold prBody; rw [if_neg n0, if_neg n1, if_neg n2, if_neg n3])), hmo, Buf.nil _ _, hbuf, rfl, rfl⟩
end Go.Proofs.YtdiaogcogkapgaaGreatDoor
namespace Go.Proofs.YtdiaogcogkapgaaGreatDoor
open Go.RowKit
theorem flat_get {vss : List (List Value)} {sz : Nat} : ∀ {j k : Nat} {vs : List Value} {v : Value}, (∀ vs ∈ vss, vs.length = sz) → vss[j]? = some vs → vs[k]? = some v → vss.flatten[j * sz + k]? = some v := by
  induction vss with
  | nil => intro j k vs v _ h; simp at h
  | cons x xs ih =>
    intro j k vs v hs h hk
    have hx := hs x (List.mem_cons_self ..)
    rw [List.flatten_cons]
    cases j with
    | zero =>
      simp only [List.getElem?_cons_zero, Option.some.injEq] at h
      subst h
      have := (List.getElem?_eq_some_iff.1 hk).1
      rw [Nat.zero_mul, Nat.zero_add, List.getElem?_append_left this]; exact hk
    | succ j =>
      rw [List.getElem?_cons_succ] at h
      rw [List.getElem?_append_right (by rw [hx, Nat.succ_mul]; omega), hx, show (j + 1) * sz + k - sz = j * sz + k by rw [Nat.succ_mul]; omega]
      exact ih (fun vs hv => hs vs (List.mem_cons_of_mem _ hv)) h hk
theorem Buf.elems {E sz : Nat} {v : Value} {T : List (Nat × Obj)} {n : Nat} {vss : List (List Value)} (h : Buf E sz v T n vss.flatten) (hs : ∀ vs ∈ vss, vs.length = sz) (hn : n = vss.length) : ∃ a cap, v = .slice a vss.length cap ∧ vss.length ≤ cap ∧ cap ≤ maxLen ∧ Elems T a sz vss := by
  subst hn
  rcases h with ⟨_, h2, rfl, rfl⟩ | ⟨g, off, cap, cur, rfl, rfl, ho⟩
  · have e : vss = [] := List.eq_nil_of_length_eq_zero h2
    subst e
    exact ⟨_, _, rfl, Nat.le_refl _, by simp [maxLen], .inl rfl⟩
  · refine ⟨_, _, rfl, ho.le, ho.max, .inr ⟨g, off, 0, cur, E, (0, 0), rfl, rfl, fun j vs hj => ⟨fun k v hk => ?_, Free.zero _ _⟩⟩⟩
    rw [Nat.add_assoc]
    exact ho.at_ _ _ (flat_get hs hj hk)
theorem cmd_one {cs : Array Value} {ch ct : List Value} {v : Value} (hz : cs.size = 10) (h1 : Oks chF ch) (h2 : Oks ctF ct) (hv : v.oneCell' = true) (hl : Lies cs 0 (ch ++ (v :: ct))) : (cs.toList.all fun v => v.oneCell') = true := by
  have l1 := h1.len
  have l2 := h2.len
  simp only [List.length_cons, List.length_nil] at l1 l2
  rw [lies_whole hl (by rw [hz]; simp only [List.length_append, List.length_cons]; omega)]
  show ((ch ++ (v :: ct)).all _) = true
  rw [List.all_append, List.all_cons, h1.cells1, h2.cells1, hv]; rfl
end Go.Proofs.YtdiaogcogkapgaaGreatDoor
namespace Go.Proofs.YtdiaogcogkapgaaGreatDoor
open Go.RowKit
attribute [local irreducible] Fn WC WL WR OW Qt YieldFn QW FnP FnD FnE
def EqP (P : Program) (t : TypeId) (fs : List Fk) (h : Nat) : Prop := ∀ d, h ≤ d → ∀ (xs ys : Array Value) (off : Nat) (us vs : List Value), Lies xs off us → Lies ys off vs → Oks fs us → Oks fs vs → ∀ w,
  ∃ a b r, (part t xs off).run P w = .ok a w ∧ (part t ys off).run P w = .ok b w ∧ (Op.equalIn d t a b).run P w = .ok r w ∧ (r = true ↔ us = vs)
def EqFs (P : Program) (l : List Field) (o : Nat) (fs : List Fk) (h : Nat) : Prop := ∀ d, h ≤ d → ∀ (xs ys : Array Value) (us vs : List Value), Lies xs o us → Lies ys o vs → Oks fs us → Oks fs vs → ∀ w,
  ∃ r, (Op.eqFields d xs ys l).run P w = .ok r w ∧ (r = true ↔ us = vs)
theorem EqP.int {P : Program} {t : TypeId} {k : IntKind} {f : Fk} [hu : TUnd P t (.int k)] [ha : TAgg P t false] (hf : ∀ v, f.ok v → ∃ q x, v = .int q x) (hk : ∀ v u, f.ok v → f.ok u → ∀ q x, v = .int q x → ∃ y, u = .int q y) : EqP P t [f] 1 := fun d hd xs ys off us vs hx hy ho hp w => by
  obtain ⟨u, us, rfl, h1, h2⟩ := ho.split
  obtain ⟨v, vs, rfl, h3, h4⟩ := hp.split
  obtain rfl := h2.nil
  obtain rfl := h4.nil
  obtain ⟨q, x, rfl⟩ := hf u h1
  obtain ⟨y, rfl⟩ := hk _ v h1 h3 q x rfl
  obtain ⟨e, rfl⟩ : ∃ e, d = e + 1 := ⟨d - 1, by omega⟩
  refine ⟨_, _, _, part1 hx.cons.1 w, part1 hy.cons.1 w, run_equalIn_int w e t q k x y hu.h, ?_⟩
  simp
theorem EqP.ww {P : Program} {t : TypeId} {k : IntKind} [TUnd P t (.int k)] [TAgg P t false] : EqP P t [.ww] 1 :=
  EqP.int (fun v ⟨x, h, _⟩ => ⟨_, x, h⟩) fun v u ⟨x, h, _⟩ ⟨y, h', _⟩ q z e => ⟨y, by rw [h] at e; cases e; exact h'⟩
theorem EqP.kk {P : Program} {t : TypeId} {k : IntKind} [TUnd P t (.int k)] [TAgg P t false] : EqP P t [.kk] 1 :=
  EqP.int (fun v ⟨x, h, _⟩ => ⟨_, x, h⟩) fun v u ⟨x, h, _⟩ ⟨y, h', _⟩ q z e => ⟨y, by rw [h] at e; cases e; exact h'⟩
theorem EqP.bb {P : Program} {t : TypeId} {k : IntKind} [TUnd P t (.int k)] [TAgg P t false] : EqP P t [.bb] 1 :=
  EqP.int (fun v ⟨x, h⟩ => ⟨_, _, h⟩) fun v u ⟨x, h⟩ ⟨y, h'⟩ q z e => ⟨(y.toNat : Int), by rw [h] at e; cases e; exact h'⟩
theorem EqP.tt {P : Program} {t : TypeId} [hu : TUnd P t .bool] [TAgg P t false] : EqP P t [.tt] 1 := fun d hd xs ys off us vs hx hy ho hp w => by
  obtain ⟨u, us, rfl, ⟨x, rfl⟩, h2⟩ := ho.split
  obtain ⟨v, vs, rfl, ⟨y, rfl⟩, h4⟩ := hp.split
  obtain rfl := h2.nil
  obtain rfl := h4.nil
  obtain ⟨e, rfl⟩ : ∃ e, d = e + 1 := ⟨d - 1, by omega⟩
  refine ⟨_, _, _, part1 hx.cons.1 w, part1 hy.cons.1 w, run_equalIn_bool w e t x y hu.h, ?_⟩
  simp
theorem EqFs.nil {P : Program} {o h : Nat} : EqFs P [] o [] h := fun d _ xs ys us vs _ _ ho hp w => by
  obtain rfl := ho.nil
  obtain rfl := hp.nil
  exact ⟨true, by simp [Op.eqFields], by simp⟩
theorem EqFs.cons {P : Program} {f : Field} {l : List Field} {o h : Nat} {fs gs : List Fk} (hn : (f.name == "_") = false) (hof : f.offset = o) (h1 : EqP P f.type fs h) (h2 : EqFs P l (o + fs.length) gs h) : EqFs P (f :: l) o (fs ++ gs) h := fun d hd xs ys us vs hx hy ho hp w => by
  obtain ⟨u1, u2, rfl, o1, o2⟩ := ho.splitA
  obtain ⟨v1, v2, rfl, p1, p2⟩ := hp.splitA
  have x2 := hx.app.2
  have y2 := hy.app.2
  rw [o1.len] at x2
  rw [p1.len] at y2
  obtain ⟨a, b, r, q1, q2, q3, hiff⟩ := h1 d hd xs ys o u1 v1 hx.app.1 hy.app.1 o1 p1 w
  obtain ⟨r', q4, hiff'⟩ := h2 d hd xs ys u2 v2 x2 y2 o2 p2 w
  have hne : ¬ f.name = "_" := by simpa using hn
  rw [← hof] at q1 q2
  have hap : u1 ++ u2 = v1 ++ v2 ↔ u1 = v1 ∧ u2 = v2 := ⟨fun e => List.append_inj e (by rw [o1.len, p1.len]), fun ⟨e1, e2⟩ => by rw [e1, e2]⟩
  simp only [Op.eqFields, hne, ne_eq, not_false_eq_true, if_true, Sem.run_bind, q1, q2, q3, Result.andThen_ok]
  cases r
  · exact ⟨false, by simp, by simp only [Bool.false_eq_true, false_iff, hap]; intro e; exact absurd (hiff.2 e.1) (by simp)⟩
  · refine ⟨r', by simpa using q4, ?_⟩
    rw [hiff', hap]
    simp [hiff.1 rfl]
theorem EqP.struct {P : Program} {t h : Nat} {fs : Array Field} {ks : List Fk} [TAgg P t true] [hs : TSize P t ks.length] (ht : P.underlying t = some (.struct fs)) (hp : P.stoodInHeld t = false) (hf : EqFs P fs.toList 0 ks h) : EqP P t ks (h + 1) := fun d hd xs ys off us vs hx hy ho hv w => by
  obtain ⟨e, rfl⟩ : ∃ e, d = e + 1 := ⟨d - 1, by omega⟩
  have ht' : P.underlying t = some (.struct (P.fieldsOf t)) := by rw [ht]; simp [Program.fieldsOf, ht]
  have hfs : P.fieldsOf t = fs := by simp [Program.fieldsOf, ht]
  have l1 : Lies (xs.extract off (off + ks.length)) 0 us := lies_extract hx (by rw [ho.len]; exact Nat.le_refl _)
  have l2 : Lies (ys.extract off (off + ks.length)) 0 vs := lies_extract hy (by rw [hv.len]; exact Nat.le_refl _)
  obtain ⟨r, q, hiff⟩ := hf e (by omega) _ _ us vs l1 l2 ho hv w
  exact ⟨_, _, r, partN w, partN w, by rw [run_equalIn_struct w e t _ _ ht' hp, hfs]; exact q, hiff⟩
theorem EqP.up {P : Program} {t h h' : Nat} {fs : List Fk} (H : EqP P t fs h) (hh : h ≤ h') : EqP P t fs h' := fun d hd => H d (by omega)
structure EqV (P : Program) (t : TypeId) (a b : Array Value) (r : Bool) : Prop where
  guard : P.eqGuardType P.depth t = false
  run : ∀ w, (Op.equalIn 10000 t (.agg a) (.agg b)).run P w = .ok r w
theorem EqP.eqv {P : Program} {t h : Nat} {fs : List Fk} (H : EqP P t fs h) [TAgg P t true] [TSize P t fs.length] (hh : h ≤ 10000) (hg : P.eqGuardType P.depth t = false) {cs ds : Array Value} {us vs : List Value} (hz1 : cs.size = fs.length) (hz2 : ds.size = fs.length) (h1 : Lies cs 0 us) (h2 : Lies ds 0 vs) (ho : Oks fs us) (hv : Oks fs vs) {r : Bool} (hr : r = true ↔ us = vs) : EqV P t cs ds r := ⟨hg, fun w => by
  obtain ⟨a, b, r', q1, q2, q3, hiff⟩ := H 10000 hh cs ds 0 us vs h1 h2 ho hv w
  rw [partN, Nat.zero_add] at q1 q2
  cases q1; cases q2
  rw [← hz1, Array.extract_size] at q3
  rw [hz1, ← hz2, Array.extract_size] at q3
  rw [q3, show r' = r from Bool.eq_iff_iff.2 (hiff.trans hr.symm)]⟩
theorem EqP.same {P : Program} {t h : Nat} {fs : List Fk} (H : EqP P t fs h) [TAgg P t true] [TSize P t fs.length] (hh : h ≤ 10000) (hg : P.eqGuardType P.depth t = false) {cs ds : Array Value} {us : List Value} (hz1 : cs.size = fs.length) (hz2 : ds.size = fs.length) (h1 : Lies cs 0 us) (h2 : Lies ds 0 us) (ho : Oks fs us) : EqV P t cs ds true :=
  H.eqv hh hg hz1 hz2 h1 h2 ho ho (by simp)
section
variable {c : Cx} {s : List (Nat × Value)} {L : List (Nat × Obj)} {o : Oper}
theorem Qt_eql_flat {t t' : TypeId} {x y : Operand} {a b : Array Value} {r : Bool} (ho : o.op = .binOp .eql t x y t') (hx : ev s x = some (.agg a) := by exact rfl) (hy : ev s y = some (.agg b) := by exact rfl) (h : EqV c.P t a b r := by with_reducible assumption) : Qt c s L o (.bool r) :=
  Qt_of_run (by simp [ho]) (fun ρ hρ w _ => by
    have h1 := run_eqGuard_agg (P := c.P) w .eql t x y a b h.guard
    have h2 := run_eql_struct (P := c.P) w t a b
    rw [h.run w] at h2
    simp [execOp, ho, hρ x _ hx, hρ y _ hy, h1, h2, Result.andThen])
end
theorem eqp_Rec : EqP Tryz.prog 33 recF 9 := ((EqP.struct (h := 1) Tryz.underlying33 (by kernel_rfl) (EqFs.cons rfl rfl EqP.kk (EqFs.cons rfl rfl EqP.ww (EqFs.cons rfl rfl EqP.ww (EqFs.cons rfl rfl EqP.bb (EqFs.cons rfl rfl EqP.tt (EqFs.cons rfl rfl EqP.tt (EqFs.nil))))))))).up (by decide)
theorem guard_Rec : Tryz.prog.eqGuardType Tryz.prog.depth 33 = false := by kernel_rfl
end Go.Proofs.YtdiaogcogkapgaaGreatDoor
namespace Go.Proofs.YtdiaogcogkapgaaGreatDoor
open Go.RowKit
attribute [local irreducible] Fn WC WL WR OW Qt YieldFn QW FnP FnD FnE
set_option maxHeartbeats 2000000 in
theorem sameCmd_fn {cs ds : Array Value} {L : List (Nat × Obj)} {a a2 : Option Addr} {cap cap2 : Nat} {ch ct : List Value} {bins : List (List Value)} (hz : cs.size = 10) (hz2 : ds.size = 10) (hn : bins.length ≤ 1000000) (hch : Oks chF ch) (hct : Oks ctF ct) (hb : ∀ vs ∈ bins, Oks binF vs)
    (hl : Lies cs 0 (ch ++ (.slice a bins.length cap :: ct))) (he : Elems L a 1 bins) (hl2 : Lies ds 0 (ch ++ (.slice a2 bins.length cap2 :: ct))) (he2 : Elems L a2 1 bins) :
    Fn Tryz.prog 65 [.agg cs, .agg ds] L (fun v L' => v = .bool true ∧ L' = L) := by
  have o1 := cmd_one hz hch hct rfl hl
  have o2 := cmd_one hz2 hch hct rfl hl2
  have q1 : (encCmd ch bins ct == encCmd ch bins ct) = true := beq_self_eq_true _
  refine Fn_enter Tryz.func65 rfl Tryz.ntmps65 rfl fun g => ?_
  repeat (first | refine RQr ?_ | (refine RX ?_; (first | refine QW_of (Qt_eql_struct rfl) ?_ | refine QW_of (Qt_eql_flat rfl) ?_)) | (refine OX ?_; (first | (refine OE ?_; try intro _) | refine OW_callP rfl (hF := rCmd_fn hz hn hch hct hb hl (by repeat (first | with_reducible assumption | apply Elems.cons))) (hk := ?_) | refine OW_callP rfl (hF := rCmd_fn hz2 hn hch hct hb hl2 (by repeat (first | with_reducible assumption | apply Elems.cons))) (hk := ?_)); try refine SD ?_) | refine RC ?_ | refine RU ?_ | refine WC_draw_all (id := 1) 6 (Cs [0,2] <| .must 1 <| .must 3 <| Cs [4,5] <| .done) mixed (by kernel_rfl) ?_ | refine WC_region ?_)
  rw [q1]
  exact ⟨rfl, _, L, Res1 rfl (resV_tmp rfl), .cons _ (.cons _ (.refl _)), rfl, rfl⟩
set_option maxHeartbeats 2000000 in
theorem sameChunk_fn {cs ds : Array Value} {L : List (Nat × Obj)} {a a2 : Option Addr} {cap cap2 : Nat} {kh : List Value} {ents : List (List Value)} (hz : cs.size = 4) (hz2 : ds.size = 4) (hn : ents.length ≤ 1000000) (hkh : Oks khF kh) (hb : ∀ vs ∈ ents, Oks entryF vs)
    (hl : Lies cs 0 (kh ++ [.slice a ents.length cap])) (he : Elems L a 10 ents) (hl2 : Lies ds 0 (kh ++ [.slice a2 ents.length cap2])) (he2 : Elems L a2 10 ents) :
    Fn Tryz.prog 66 [.agg cs, .agg ds] L (fun v L' => v = .bool true ∧ L' = L) := by
  have one : ∀ {cs : Array Value} {a : Option Addr} {cap : Nat}, cs.size = 4 → Lies cs 0 (kh ++ [.slice a ents.length cap]) → (cs.toList.all fun v => v.oneCell') = true := fun hz hl => by
    have l1 := hkh.len
    simp only [List.length_cons, List.length_nil] at l1
    rw [lies_whole hl (by rw [hz]; simp only [List.length_append, List.length_cons, List.length_nil]; omega)]
    show ((kh ++ [_]).all _) = true
    rw [List.all_append, hkh.cells1]; rfl
  have o1 := one hz hl
  have o2 := one hz2 hl2
  have q1 : (encChunk kh ents == encChunk kh ents) = true := beq_self_eq_true _
  refine Fn_enter Tryz.func66 rfl Tryz.ntmps66 rfl fun g => ?_
  repeat (first | refine RQr ?_ | (refine RX ?_; (first | refine QW_of (Qt_eql_struct rfl) ?_ | refine QW_of (Qt_eql_flat rfl) ?_)) | (refine OX ?_; (first | (refine OE ?_; try intro _) | refine OW_callP rfl (hF := rChunk_fn hn hkh hb hl (by repeat (first | with_reducible assumption | apply Elems.cons))) (hk := ?_) | refine OW_callP rfl (hF := rChunk_fn hn hkh hb hl2 (by repeat (first | with_reducible assumption | apply Elems.cons))) (hk := ?_)); try refine SD ?_) | refine RC ?_ | refine RU ?_ | refine WC_draw_all (id := 1) 6 (Cs [0,2] <| .must 1 <| .must 3 <| Cs [4,5] <| .done) mixed (by kernel_rfl) ?_ | refine WC_region ?_)
  rw [q1]
  exact ⟨rfl, _, L, Res1 rfl (resV_tmp rfl), .cons _ (.cons _ (.refl _)), rfl, rfl⟩
set_option maxHeartbeats 4000000 in
theorem sameMsg_fn {cs ds : Array Value} {L : List (Nat × Obj)} {m : MV} {a a' a2 a2' : Option Addr} {cap cap' cap2 cap2' : Nat} (h : MsgAt L cs m a cap a' cap') (h2 : MsgAt L ds m a2 cap2 a2' cap2') (nb : m.bins.length ≤ 1000000) (ne : m.ents.length ≤ 1000000) :
    Fn Tryz.prog 46 [.agg cs, .agg ds] L (fun v L' => v = .bool true ∧ L' = L) := by
  have hz := h.size
  have hz2 := h2.size
  have o1 := MV.all_one h.ok h.size h.lies
  have o2 := MV.all_one h2.ok h2.size h2.lies
  obtain ⟨g0, g1, g2, g3, g4, g5, g6⟩ := MV.cells_at h.ok h.lies
  simp only [Nat.zero_add] at g0 g1 g2 g3 g4 g5 g6
  obtain ⟨k0, k1, k2, k3, k4, k5, k6⟩ := MV.cells_at h2.ok h2.lies
  simp only [Nat.zero_add] at k0 k1 k2 k3 k4 k5 k6
  have q0 : (m.kind == m.kind) = true := beq_self_eq_true _
  have q1 : (m.ver == m.ver) = true := beq_self_eq_true _
  have q3 : (m.time == m.time) = true := beq_self_eq_true _
  have q4 : (m.num == m.num) = true := beq_self_eq_true _
  have lr := h.ok.rc.len
  have lc := h.ok.ch.len
  have lt := h.ok.ct.len
  have lk := h.ok.kh.len
  simp only [List.length_cons, List.length_nil] at lr lc lt lk
  have zr : (cs.extract 2 (2 + 6)).size = 6 := size_extract (by omega)
  have yr : (ds.extract 2 (2 + 6)).size = 6 := size_extract (by omega)
  have z5 : (cs.extract 10 (10 + 10)).size = 10 := size_extract (by omega)
  have y5 : (ds.extract 10 (10 + 10)).size = 10 := size_extract (by omega)
  have z6 : (cs.extract 20 (20 + 4)).size = 4 := size_extract (by omega)
  have y6 : (ds.extract 20 (20 + 4)).size = 4 := size_extract (by omega)
  have r1 : Lies (cs.extract 2 (2 + 6)) 0 m.rc := lies_extract g2 (by omega)
  have r2 : Lies (ds.extract 2 (2 + 6)) 0 m.rc := lies_extract k2 (by omega)
  have s5 : Lies (cs.extract 10 (10 + 10)) 0 (m.ch ++ (.slice a m.bins.length cap :: m.ct)) := lies_extract g5 (by simp only [List.length_append, List.length_cons]; omega)
  have t5 : Lies (ds.extract 10 (10 + 10)) 0 (m.ch ++ (.slice a2 m.bins.length cap2 :: m.ct)) := lies_extract k5 (by simp only [List.length_append, List.length_cons]; omega)
  have s6 : Lies (cs.extract 20 (20 + 4)) 0 (m.kh ++ [.slice a' m.ents.length cap']) := lies_extract g6 (by simp only [List.length_append, List.length_cons, List.length_nil]; omega)
  have t6 : Lies (ds.extract 20 (20 + 4)) 0 (m.kh ++ [.slice a2' m.ents.length cap2']) := lies_extract k6 (by simp only [List.length_append, List.length_cons, List.length_nil]; omega)
  have eqr : EqV Tryz.prog 33 (cs.extract 2 (2 + 6)) (ds.extract 2 (2 + 6)) true := eqp_Rec.same (by decide) guard_Rec zr yr r1 r2 h.ok.rc
  have hch := h.ok.ch
  have hct := h.ok.ct
  have hkh := h.ok.kh
  have hbi := h.ok.bins
  have hen := h.ok.ents
  have e1 := h.bins
  have e2 := h.ents
  have e3 := h2.bins
  have e4 := h2.ents
  refine Fn_enter Tryz.func46 rfl Tryz.ntmps46 rfl fun g => ?_
  repeat (first | refine RQ ?_ | ((first | refine WL_Q ?_ | refine WL_Y ?_); (first | refine QW_of (Qt_eql_struct rfl) ?_ | refine QW_of (Qt_eql_flat rfl) ?_)) | (refine RE ?_; try intro _) | ((first | refine WL_op rfl ?_ | refine WL_yes (h := ?_)); (first | refine OW_callP rfl (hF := sameCmd_fn z5 y5 nb hch hct hbi s5 (by repeat (first | with_reducible assumption | apply Elems.cons)) t5 (by repeat (first | with_reducible assumption | apply Elems.cons))) (hk := ?_) | refine OW_callP rfl (hF := sameChunk_fn z6 y6 ne hkh hen s6 (by repeat (first | with_reducible assumption | apply Elems.cons)) t6 (by repeat (first | with_reducible assumption | apply Elems.cons))) (hk := ?_))) | refine RC ?_ | refine WC_region ?_)
  exact ⟨rfl, _, L, Res1 rfl (resV_tmp rfl), .cons _ (.cons _ (.refl _)), rfl, rfl⟩
end Go.Proofs.YtdiaogcogkapgaaGreatDoor
namespace Go.Proofs.YtdiaogcogkapgaaGreatDoor
open Go.RowKit
attribute [local irreducible] Fn WC WL WR OW Qt YieldFn QW FnP FnD FnE
def SmallAt (l : List UInt8) (q : Nat) (F : List (Nat × Obj)) (p : PR Int) (v : Value) (L' : List (Nat × Obj)) : Prop :=
  (∃ x b, p = .ok x b ∧ b ≤ l.length ∧ v = .tuple #[.int .i64 x, fltA 0 0] ∧ L' = (q, qdO l b) :: F) ∨
  (∃ c e y b, p = .bad c e ∧ c ≠ 0 ∧ b ≤ l.length ∧ v = .tuple #[.int .i64 y, fltA c e] ∧ L' = (q, qdO l b) :: F)
set_option maxHeartbeats 1000000 in
theorem small18_fn {l : List UInt8} {a q most : Nat} (ha : a ≤ l.length) (hl : l.length ≤ 1000000000) (hm : most ≤ 65535) (F : List (Nat × Obj)) :
    Fn Tryz.prog 101 [.pointer (some ⟨q, 0, none⟩), .int .u64 (most : Nat)] ((q, qdO l a) :: F) (SmallAt l q F (prU l most a)) := by
  refine Fn_enter Tryz.func101 rfl Tryz.ntmps101 rfl fun g => ?_
  repeat (first | refine RQ ?_ | (refine WL_Q ?_; (first | refine QW_of (Qt_eql_struct rfl) ?_)) | (refine RE ?_; try intro _) | refine RC ?_ | refine WG 0 ?_ | refine WG 1 ?_ | refine WG 2 ?_)
  refine WL_front 1 rfl ?_
  refine WL_op rfl (OW_call rfl (hF := rU_fn ha hl _) (hk := ?_))
  rintro _ _ (⟨hc, rfl, rfl⟩ | ⟨hc, rfl, rfl⟩)
  · have hn := uNext_le hc
    have z0 : (((0 : Nat) : Int) == 0) = true := by decide
    by_cases hv : uVal l a ≤ most
    · have d1 : decide (((uVal l a : Nat) : Int) > (most : Nat)) = false := decide_eq_false (by omega)
      have w1 : IntKind.i64.wrap ((uVal l a : Nat) : Int) = (uVal l a : Nat) := wI64 (by omega) (by omega)
      repeat (first | refine RQr ?_ | ((first | refine WL_Q ?_ | refine WL_Y ?_ | refine WR_Q rfl ?_ | refine WR_late rfl rfl rfl (OW_Q ?_) | refine WR_Y rfl ?_); (first | refine QW_of (Qt_eql_struct rfl) ?_)) | ((first | refine WL_op rfl ?_ | refine WL_yes (h := ?_) | refine WR_late rfl rfl rfl ?_ | refine WR_opG rfl rfl ?_ | refine WR_opYG rfl (h := ?_)); (first | (refine OE ?_; try intro _)); try refine SD ?_) | refine RC ?_ | refine RU ?_ | refine WC_draw_all (id := 5) 4 (Cs [0,1,2,3] <| .must 4 <| .done) mixed (by kernel_rfl) ?_ | refine WG 2 ?_ | refine WG 3 ?_)
      rw [w1]
      repeat (first | refine RQr ?_ | (refine RX ?_; (first | refine QW_of (Qt_eql_struct rfl) ?_)) | (refine OX ?_; (first | (refine OE ?_; try intro _)); try refine SD ?_) | refine RC ?_ | refine RU ?_ | refine WC_draw_all (id := 5) 4 (Cs [0,1,2,3] <| .must 4 <| .done) mixed (by kernel_rfl) ?_)
      exact ⟨rfl, _, _, Res2 rfl (resV_tmp rfl) (resV_cellN rfl 2 rfl rfl), .cons _ (.cons_cons _ (.cons _ (.refl _))), .inl ⟨(uVal l a : Nat), uNext l a, by unfold prU; rw [if_pos hc, if_pos hv], hn, rfl, rfl⟩⟩
    · have d1 : decide (((uVal l a : Nat) : Int) > (most : Nat)) = true := decide_eq_true (by omega)
      repeat (first | refine RQr ?_ | ((first | refine WL_Q ?_ | refine WL_Y ?_ | refine WR_Q rfl ?_ | refine WR_late rfl rfl rfl (OW_Q ?_) | refine WR_Y rfl ?_); (first | refine QW_of (Qt_eql_struct rfl) ?_)) | ((first | refine WL_op rfl ?_ | refine WL_yes (h := ?_) | refine WR_late rfl rfl rfl ?_ | refine WR_opG rfl rfl ?_ | refine WR_opYG rfl (h := ?_)); (first | (refine OE ?_; try intro _)); try refine SD ?_) | refine RC ?_ | refine RU ?_ | refine WC_draw_all (id := 5) 4 (Cs [0,1,2,3] <| .must 4 <| .done) mixed (by kernel_rfl) ?_ | refine WC_region ?_)
      exact ⟨rfl, _, _, Res2 rfl (resV_tmp rfl) (resV_cellN rfl 2 rfl rfl), .cons _ (.cons_cons _ (.cons _ (.refl _))), .inr ⟨2, a, 0, uNext l a, by unfold prU; rw [if_pos hc, if_neg hv], by decide, hn, rfl, rfl⟩⟩
  · have z0 : (((uCode l a : Nat) : Int) == 0) = false := by simp; omega
    repeat (first | refine RQr ?_ | ((first | refine WL_Q ?_ | refine WL_Y ?_ | refine WR_Q rfl ?_ | refine WR_late rfl rfl rfl (OW_Q ?_) | refine WR_Y rfl ?_); (first | refine QW_of (Qt_eql_struct rfl) ?_)) | ((first | refine WL_op rfl ?_ | refine WL_yes (h := ?_) | refine WR_late rfl rfl rfl ?_ | refine WR_opG rfl rfl ?_ | refine WR_opYG rfl (h := ?_)); (first | (refine OE ?_; try intro _)); try refine SD ?_) | refine RC ?_ | refine RU ?_ | refine WC_draw_all (id := 5) 4 (Cs [0,1,2,3] <| .must 4 <| .done) mixed (by kernel_rfl) ?_ | refine WC_region ?_)
    exact ⟨rfl, _, _, Res2 rfl (resV_tmp rfl) (resV_cellN rfl 2 rfl rfl), .cons _ (.cons_cons _ (.cons _ (.refl _))), .inr ⟨uCode l a, a, _, a, by unfold prU; rw [if_neg hc], hc, ha, rfl, rfl⟩⟩
theorem gramAt_of {g : GV} {cs : Array Value} {T : List (Nat × Obj)} (h : GramOk g cs T) (hg : g.Ok) : ∃ x cap x' cap', GramAt T cs g x cap x' cap' := by
  obtain ⟨vb, ve, T1, T2, rfl, h2, h3, rfl⟩ := h
  obtain ⟨x, cap, rfl, q1, q2, e1⟩ := h2.elems (fun vs hv => (hg.m.bins vs hv).len) rfl
  obtain ⟨x', cap', rfl, q3, q4, e2⟩ := h3.elems (fun vs hv => (hg.m.ents vs hv).len) rfl
  exact ⟨x, cap, x', cap', hg, rfl, e1.mem fun _ hq => List.mem_append_left _ hq, e2.mem fun _ hq => List.mem_append_right _ hq, q1, q3, q2, q4⟩
def GV.zero : GV := ⟨0, 0, false, 0, 0, MV.none⟩
theorem zGram_at {L : List (Nat × Obj)} : GramAt L zc93 GV.zero none 0 none 0 := ⟨⟨i64r0, i64r0, by decide, by decide, i64r0, MV.none_ok⟩, rfl, .inl rfl, .inl rfl, Nat.le_refl _, Nat.le_refl _, by simp [maxLen], by simp [maxLen]⟩
theorem GramAt.msgX {L : List (Nat × Obj)} {gs : Array Value} {g : GV} {a : Option Addr} {cap : Nat} {a' : Option Addr} {cap' : Nat} (h : GramAt L gs g a cap a' cap') : MsgAt L (gs.extract 5 (5 + 24)) g.m a cap a' cap' := by
  have hm := h.msg
  have e : gs.extract 5 (5 + 24) = (g.m.cells a cap a' cap').toArray := by
    have e := h.lit
    subst e
    have hl := MV.cells_len h.m a cap a' cap'
    apply Array.ext'
    simp only [List.extract_toArray, List.extract_eq_take_drop, GV.cells]
    show List.take 24 (g.m.cells a cap a' cap') = _
    exact List.take_of_length_le (by have : (g.m.cells a cap a' cap').length = 24 := hl; omega)
  rw [e]; exact hm
theorem rget_zero : zc93 = gcs 0 0 false 0 0 zMsg := rfl
def RGotAt (l : List UInt8) (F : List (Nat × Obj)) (v : Value) (L' : List (Nat × Obj)) : Prop :=
  (∃ g b T cs', prGram l = .ok g b ∧ g.m.Ok ∧ GramOk g cs' T ∧ v = .tuple #[.agg cs', fltA 0 0] ∧ L' = F ++ T) ∨
  (∃ c e, prGram l = .bad c e ∧ c ≠ 0 ∧ v = .tuple #[.agg zc93, fltA c e] ∧ L' = F)
end Go.Proofs.YtdiaogcogkapgaaGreatDoor
namespace Go.Proofs.YtdiaogcogkapgaaGreatDoor
open Go.RowKit
attribute [local irreducible] Fn WC WL WR OW Qt YieldFn QW FnP FnD FnE
theorem WL_permA {c : Cx} {ops : Array Oper} {l : List Oper} {K : Exit → St → Prop} {s : List (Nat × Value)} {D : List Deferred} {L L' : List (Nat × Obj)} (hp : L'.Perm L) (h : WL c ops l K ⟨s, D, L'⟩) : WL c ops l K ⟨s, D, L⟩ := WL_perm hp h
theorem msg_size {m : MV} {vb ve : Value} (h : m.Ok) : (m.cellsV vb ve).toArray.size = 24 := MV.cellsV_len h
set_option maxHeartbeats 16000000 in
set_option maxRecDepth 100000 in
theorem rGet_fn {l : List UInt8} (hl : l.length ≤ 1000000000) {L : List (Nat × Obj)} : Fn Tryz.prog 81 [.string (bstr l)] L (RGotAt l L) := by
  refine Fn_enter Tryz.func81 rfl Tryz.ntmps81 rfl fun g => ?_
  have z0 : (((0 : Nat) : Int) != 0) = false := by decide
  have z1 : (((0 : Nat) : Int) == 0) = true := by decide
  have h3 : 1 + 2 ≤ 3 := Nat.le_refl 3
  have hsz0 : ∀ {a b : Int} {k : Bool} {s r : Int}, (gcs a b k s r zMsg).size = 29 := rfl
  repeat (first | refine RQ ?_ | (refine RE ?_; try intro _) | refine RC ?_ | refine WG 0 ?_ | refine WG 1 ?_ | refine WG 2 ?_ | refine WG 3 ?_)
  rename_i resg resf qb gb
  rw [rget_zero]
  refine WL_front 1 rfl ?_
  refine WL_op rfl (OW_call rfl (hF := small18_fn (most := 65535) (Nat.zero_le _) hl (by decide) _) (hk := ?_))
  rintro _ _ (⟨life, a1, e1, ha1, rfl, rfl⟩ | ⟨c, e, y, b, h1, hc, hb, rfl, rfl⟩)
  rotate_left
  · have n0 : (((c : Nat) : Int) != 0) = true := by simp; omega
    repeat' (first | refine RQr ?_ | (refine OX ?_; (first | (refine OE ?_; try intro _)); try refine SD ?_) | refine RC ?_ | refine RU ?_ | refine WC_draw_all (id := 5) 0 (.either 0 (.either 1 (.must 2 <| .must 3 <| .done) 2 (.must 1 <| .must 3 <| .done)) 1 (.must 0 <| .must 2 <| .must 3 <| .done)) mixed (by kernel_rfl) ?_ | refine WG 3 ?_ | refine WG 4 ?_ | refine WR_either ?_ ?_)
    all_goals exact ⟨rfl, _, L, Res2 rfl (resV_cellN rfl 4 rfl rfl) (resV_cellN rfl 3 rfl rfl), (by repeat (first | exact List.Sublist.refl _ | apply List.Sublist.cons)), .inr ⟨c, e, by unfold prGram; rw [bind_badf h1], hc, rfl, rfl⟩⟩
  repeat (first | refine RQ ?_ | (refine RE ?_; try intro _) | refine RC ?_ | refine WG 3 ?_ | refine WG 4 ?_ | refine WG 6 ?_)
  rename_i fb
  have hs1_1 : 1 < (gcs life 0 false 0 0 zMsg).size := (by decide : (1 : Nat) < 29)
  have hs1_2 : 2 < (gcs life 0 false 0 0 zMsg).size := (by decide : (2 : Nat) < 29)
  have hs1_3 : 3 < (gcs life 0 false 0 0 zMsg).size := (by decide : (3 : Nat) < 29)
  have hs1_4 : 4 < (gcs life 0 false 0 0 zMsg).size := (by decide : (4 : Nat) < 29)
  have hs1_5 : 5 + 24 ≤ (gcs life 0 false 0 0 zMsg).size := (by decide : (5 + 24 : Nat) ≤ 29)
  refine WC_wk [(7, ptr fb 0), (5, ptr gb 0), (4, ptr qb 0), (3, ptr resf 0), (2, ptr resg 0)] ⟨rfl, rfl, rfl, rfl, rfl, trivial⟩ ?_
  refine WC_dropL ((fb, .cells #[.int .i64 ((0 : Nat) : Int), .int .i64 ((0 : Nat) : Int)] 157 (0, 0)) :: (qb, qdO l a1) :: (gb, gmO (gcs life 0 false 0 0 zMsg)) :: (resf, .cells zc157 157 (0, 0)) :: (resg, gmO (gcs 0 0 false 0 0 zMsg)) :: L) (.refl _) ?_
  repeat (first | refine RQ ?_ | (refine RE ?_; try intro _) | refine RC ?_ | refine WG 7 ?_)
  refine WL_front 1 rfl ?_
  refine WL_op rfl (OW_call rfl (hF := small18_fn (most := 99) ha1 hl (by decide) _) (hk := ?_))
  rintro _ _ (⟨chan, a2, e2, ha2, rfl, rfl⟩ | ⟨c, e, y, b, h1, hc, hb, rfl, rfl⟩)
  rotate_left
  · have n0 : (((c : Nat) : Int) != 0) = true := by simp; omega
    repeat' (first | refine RQr ?_ | (refine OX ?_; (first | (refine OE ?_; try intro _)); try refine SD ?_) | refine RC ?_ | refine RU ?_ | refine WC_draw_all (id := 9) 0 (.either 0 (.either 1 (.must 2 <| .must 3 <| .done) 2 (.must 1 <| .must 3 <| .done)) 1 (.must 0 <| .must 2 <| .must 3 <| .done)) mixed (by kernel_rfl) ?_ | refine WG 7 ?_ | refine WG 8 ?_ | refine WR_either ?_ ?_)
    all_goals exact ⟨rfl, _, L, Res2 rfl (resV_cellN rfl 4 rfl rfl) (resV_cellN rfl 3 rfl rfl), (by repeat (first | exact List.Sublist.refl _ | apply List.Sublist.cons)), .inr ⟨c, e, by unfold prGram; rw [bind_okf e1, bind_badf h1], hc, rfl, rfl⟩⟩
  repeat (first | refine RQ ?_ | (refine RE ?_; try intro _) | refine RC ?_ | refine WG 7 ?_)
  have hs2_1 : 1 < (gcs life chan false 0 0 zMsg).size := (by decide : (1 : Nat) < 29)
  have hs2_2 : 2 < (gcs life chan false 0 0 zMsg).size := (by decide : (2 : Nat) < 29)
  have hs2_3 : 3 < (gcs life chan false 0 0 zMsg).size := (by decide : (3 : Nat) < 29)
  have hs2_4 : 4 < (gcs life chan false 0 0 zMsg).size := (by decide : (4 : Nat) < 29)
  have hs2_5 : 5 + 24 ≤ (gcs life chan false 0 0 zMsg).size := (by decide : (5 + 24 : Nat) ≤ 29)
  refine WC_wk [(7, ptr fb 0), (5, ptr gb 0), (4, ptr qb 0), (3, ptr resf 0), (2, ptr resg 0)] ⟨rfl, rfl, rfl, rfl, rfl, trivial⟩ ?_
  refine WC_dropL ((qb, qdO l a2) :: (fb, .cells #[.int .i64 ((0 : Nat) : Int), .int .i64 ((0 : Nat) : Int)] 157 (0, 0)) :: (gb, gmO (gcs life chan false 0 0 zMsg)) :: (resf, .cells zc157 157 (0, 0)) :: (resg, gmO (gcs 0 0 false 0 0 zMsg)) :: L) (.refl _) ?_
  repeat (first | refine RQ ?_ | (refine RE ?_; try intro _) | refine RC ?_ | refine WG 7 ?_ | refine WG 8 ?_ | refine WG 10 ?_)
  refine WL_op rfl (OW_call rfl (hF := rBool_fn ha2 hl _) (hk := ?_))
  rintro _ _ (⟨hc, rfl, rfl⟩ | ⟨hc, rfl, rfl⟩)
  rotate_left
  · have n0 : (((tCode l a2 : Nat) : Int) != 0) = true := by simp; omega
    have h1 : prT l a2 = .bad (tCode l a2) a2 := by unfold prT; rw [if_neg hc]
    repeat' (first | refine RQr ?_ | (refine OX ?_; (first | (refine OE ?_; try intro _)); try refine SD ?_) | refine RC ?_ | refine RU ?_ | refine WC_draw_all (id := 12) 0 (.either 0 (.either 1 (.must 2 <| .must 3 <| .done) 2 (.must 1 <| .must 3 <| .done)) 1 (.must 0 <| .must 2 <| .must 3 <| .done)) mixed (by kernel_rfl) ?_ | refine WG 10 ?_ | refine WG 11 ?_ | refine WR_either ?_ ?_)
    all_goals exact ⟨rfl, _, L, Res2 rfl (resV_cellN rfl 4 rfl rfl) (resV_cellN rfl 3 rfl rfl), (by repeat (first | exact List.Sublist.refl _ | apply List.Sublist.cons)), .inr ⟨_, _, by unfold prGram; rw [bind_okf e1, bind_okf e2, bind_badf h1], hc, rfl, rfl⟩⟩
  obtain ⟨ack, hack⟩ : ∃ x, x = ((bVal l a2).toNat == 1) := ⟨_, rfl⟩
  have e3 : prT l a2 = .ok ack (a2 + 1) := by unfold prT; rw [if_pos hc, hack]
  have ha3 := tNext_le hc
  rw [← hack]
  repeat (first | refine RQ ?_ | (refine RE ?_; try intro _) | refine RC ?_ | refine WG 10 ?_)
  have hs3_1 : 1 < (gcs life chan ack 0 0 zMsg).size := (by decide : (1 : Nat) < 29)
  have hs3_2 : 2 < (gcs life chan ack 0 0 zMsg).size := (by decide : (2 : Nat) < 29)
  have hs3_3 : 3 < (gcs life chan ack 0 0 zMsg).size := (by decide : (3 : Nat) < 29)
  have hs3_4 : 4 < (gcs life chan ack 0 0 zMsg).size := (by decide : (4 : Nat) < 29)
  have hs3_5 : 5 + 24 ≤ (gcs life chan ack 0 0 zMsg).size := (by decide : (5 + 24 : Nat) ≤ 29)
  refine WC_wk [(7, ptr fb 0), (5, ptr gb 0), (4, ptr qb 0), (3, ptr resf 0), (2, ptr resg 0)] ⟨rfl, rfl, rfl, rfl, rfl, trivial⟩ ?_
  refine WC_dropL ((qb, qdO l (a2 + 1)) :: (fb, .cells #[.int .i64 ((0 : Nat) : Int), .int .i64 ((0 : Nat) : Int)] 157 (0, 0)) :: (gb, gmO (gcs life chan ack 0 0 zMsg)) :: (resf, .cells zc157 157 (0, 0)) :: (resg, gmO (gcs 0 0 false 0 0 zMsg)) :: L) (.refl _) ?_
  repeat (first | refine RQ ?_ | (refine RE ?_; try intro _) | refine RC ?_ | refine WG 10 ?_ | refine WG 11 ?_ | refine WG 13 ?_)
  refine WL_op rfl (OW_call rfl (hF := rU_fn ha3 hl _) (hk := ?_))
  rintro _ _ (⟨hc, rfl, rfl⟩ | ⟨hc, rfl, rfl⟩)
  rotate_left
  · have n0 : (((uCode l (a2 + 1) : Nat) : Int) != 0) = true := by simp; omega
    have h1 : prN l (a2 + 1) = .bad (uCode l (a2 + 1)) (a2 + 1) := by unfold prN; rw [if_neg hc]
    repeat' (first | refine RQr ?_ | (refine OX ?_; (first | (refine OE ?_; try intro _)); try refine SD ?_) | refine RC ?_ | refine RU ?_ | refine WC_draw_all (id := 15) 0 (.either 0 (.either 1 (.must 2 <| .must 3 <| .done) 2 (.must 1 <| .must 3 <| .done)) 1 (.must 0 <| .must 2 <| .must 3 <| .done)) mixed (by kernel_rfl) ?_ | refine WG 13 ?_ | refine WG 14 ?_ | refine WR_either ?_ ?_)
    all_goals exact ⟨rfl, _, L, Res2 rfl (resV_cellN rfl 4 rfl rfl) (resV_cellN rfl 3 rfl rfl), (by repeat (first | exact List.Sublist.refl _ | apply List.Sublist.cons)), .inr ⟨_, _, by unfold prGram; rw [bind_okf e1, bind_okf e2, bind_okf e3, bind_badf h1], hc, rfl, rfl⟩⟩
  obtain ⟨seq, hseq⟩ : ∃ x : Int, x = (uVal l (a2 + 1) : Nat) := ⟨_, rfl⟩
  obtain ⟨a4, ha4⟩ : ∃ x, x = uNext l (a2 + 1) := ⟨_, rfl⟩
  have e4 : prN l (a2 + 1) = .ok seq a4 := by unfold prN; rw [if_pos hc, hseq, ha4]
  have ha5 := uNext_le hc
  rw [← ha4] at ha5
  rw [← hseq, ← ha4]
  repeat (first | refine RQ ?_ | (refine RE ?_; try intro _) | refine RC ?_ | refine WG 13 ?_)
  have hs4_1 : 1 < (gcs life chan ack seq 0 zMsg).size := (by decide : (1 : Nat) < 29)
  have hs4_2 : 2 < (gcs life chan ack seq 0 zMsg).size := (by decide : (2 : Nat) < 29)
  have hs4_3 : 3 < (gcs life chan ack seq 0 zMsg).size := (by decide : (3 : Nat) < 29)
  have hs4_4 : 4 < (gcs life chan ack seq 0 zMsg).size := (by decide : (4 : Nat) < 29)
  have hs4_5 : 5 + 24 ≤ (gcs life chan ack seq 0 zMsg).size := (by decide : (5 + 24 : Nat) ≤ 29)
  refine WC_wk [(7, ptr fb 0), (5, ptr gb 0), (4, ptr qb 0), (3, ptr resf 0), (2, ptr resg 0)] ⟨rfl, rfl, rfl, rfl, rfl, trivial⟩ ?_
  refine WC_dropL ((qb, qdO l a4) :: (fb, .cells #[.int .i64 ((0 : Nat) : Int), .int .i64 ((0 : Nat) : Int)] 157 (0, 0)) :: (gb, gmO (gcs life chan ack seq 0 zMsg)) :: (resf, .cells zc157 157 (0, 0)) :: (resg, gmO (gcs 0 0 false 0 0 zMsg)) :: L) (.refl _) ?_
  have k2 : (gcs life chan ack seq 0 zMsg)[2]? = some (.bool ack) := rfl
  repeat (first | refine RQ ?_ | (refine RE ?_; try intro _) | refine RC ?_ | refine WG 13 ?_ | refine WG 14 ?_)
  cases hk : ack
  rotate_left
  · subst hk
    repeat (first | refine RQ ?_ | (refine RE ?_; try intro _) | refine RC ?_ | refine WG 16 ?_ | refine WG 17 ?_)
    refine WL_op rfl (OW_call rfl (hF := small18_fn (most := 16) ha5 hl (by decide) _) (hk := ?_))
    rintro _ _ (⟨room, a6, e5, ha6, rfl, rfl⟩ | ⟨c, e, y, b, h1, hc, hb, rfl, rfl⟩)
    rotate_left
    · have n0 : (((c : Nat) : Int) != 0) = true := by simp; omega
      have n1 : (((c : Nat) : Int) == 0) = false := by simp; omega
      have h2 : prTail l life chan true seq a4 = .bad c e := by unfold prTail; rw [if_pos rfl, bind_badf h1]
      repeat' (first | refine RQr ?_ | (refine OX ?_; (first | (refine OE ?_; try intro _)); try refine SD ?_) | refine RC ?_ | refine RU ?_ | refine WC_draw_all (id := 24) 0 (.either 0 (.either 1 (.must 2 <| .must 3 <| .done) 2 (.must 1 <| .must 3 <| .done)) 1 (.must 0 <| .must 2 <| .must 3 <| .done)) mixed (by kernel_rfl) ?_ | refine WG 17 ?_ | refine WG 21 ?_ | refine WG 23 ?_ | refine WR_either ?_ ?_)
      all_goals exact ⟨rfl, _, L, Res2 rfl (resV_cellN rfl 4 rfl rfl) (resV_cellN rfl 3 rfl rfl), (by repeat (first | exact List.Sublist.refl _ | apply List.Sublist.cons)), .inr ⟨c, e, by unfold prGram; rw [bind_okf e1, bind_okf e2, bind_okf e3, bind_okf e4, bind_badf h2], hc, rfl, rfl⟩⟩
    have e6 : prTail l life chan true seq a4 = .ok ⟨life, chan, true, seq, room, MV.none⟩ a6 := by unfold prTail; rw [if_pos rfl, bind_okf e5]
    repeat (first | refine RQ ?_ | (refine RE ?_; try intro _) | refine RC ?_ | refine WG 17 ?_)
    have hs5_1 : 1 < (gcs life chan true seq room zMsg).size := (by decide : (1 : Nat) < 29)
    have hs5_2 : 2 < (gcs life chan true seq room zMsg).size := (by decide : (2 : Nat) < 29)
    have hs5_3 : 3 < (gcs life chan true seq room zMsg).size := (by decide : (3 : Nat) < 29)
    have hs5_4 : 4 < (gcs life chan true seq room zMsg).size := (by decide : (4 : Nat) < 29)
    have hs5_5 : 5 + 24 ≤ (gcs life chan true seq room zMsg).size := (by decide : (5 + 24 : Nat) ≤ 29)
    refine WC_wk [(7, ptr fb 0), (5, ptr gb 0), (4, ptr qb 0), (3, ptr resf 0), (2, ptr resg 0)] ⟨rfl, rfl, rfl, rfl, rfl, trivial⟩ ?_
    refine WC_dropL ((qb, qdO l a6) :: (fb, .cells #[.int .i64 ((0 : Nat) : Int), .int .i64 ((0 : Nat) : Int)] 157 (0, 0)) :: (gb, gmO (gcs life chan true seq room zMsg)) :: (resf, .cells zc157 157 (0, 0)) :: (resg, gmO (gcs 0 0 false 0 0 zMsg)) :: L) (.refl _) ?_
    repeat (first | refine RQ ?_ | (refine RE ?_; try intro _) | refine RC ?_ | refine WG 21 ?_ | refine WG 22 ?_)
    by_cases hE : a6 < l.length
    · have hcE : eCode l a6 ≠ 0 := by unfold eCode; rw [if_pos hE]; decide
      refine WL_op rfl (OW_call rfl (hF := rEnd_no hcE _) (hk := ?_))
      rintro _ _ ⟨rfl, rfl⟩
      have n0 : (((eCode l a6 : Nat) : Int) != 0) = true := by simp; omega
      have e9 : prGram l = .bad (eCode l a6) a6 := by
        unfold prGram
        rw [bind_okf e1, bind_okf e2, bind_okf e3, bind_okf e4, bind_okf e6]
        unfold prEnd eCode
        rw [if_pos hE, if_pos hE]
      repeat' (first | refine RQr ?_ | (refine OX ?_; (first | (refine OE ?_; try intro _)); try refine SD ?_) | refine RC ?_ | refine RU ?_ | refine WC_draw_all (id := 24) 0 (.either 0 (.either 1 (.must 2 <| .must 3 <| .done) 2 (.must 1 <| .must 3 <| .done)) 1 (.must 0 <| .must 2 <| .must 3 <| .done)) mixed (by kernel_rfl) ?_ | refine WG 22 ?_ | refine WG 23 ?_ | refine WR_either ?_ ?_)
      all_goals exact ⟨rfl, _, L, Res2 rfl (resV_cellN rfl 4 rfl rfl) (resV_cellN rfl 3 rfl rfl), (by repeat (first | exact List.Sublist.refl _ | exact List.sublist_append_left _ _ | apply List.Sublist.cons)), .inr ⟨eCode l a6, a6, e9, hcE, rfl, rfl⟩⟩
    · have hcE : eCode l a6 = 0 := by unfold eCode; rw [if_neg hE]
      refine WL_op rfl (OW_call rfl (hF := rEnd_ok hcE _) (hk := ?_))
      rintro _ _ ⟨rfl, rfl⟩
      have hone : ((gcs life chan true seq room zMsg).toList.all fun v => v.oneCell') = true := rfl
      have e9 : prGram l = .ok ⟨life, chan, true, seq, room, MV.none⟩ a6 := by
        unfold prGram
        rw [bind_okf e1, bind_okf e2, bind_okf e3, bind_okf e4, bind_okf e6]
        unfold prEnd
        rw [if_neg hE]
      repeat' (first | refine RQr ?_ | (refine OX ?_; (first | (refine OE ?_; try intro _)); try refine SD ?_) | refine RC ?_ | refine RU ?_ | refine WC_draw_all (id := 25) 0 (.either 0 (.either 1 (.must 2 <| .must 3 <| .done) 2 (.must 1 <| .must 3 <| .done)) 1 (.must 0 <| .must 2 <| .must 3 <| .done)) mixed (by kernel_rfl) ?_ | refine WG 22 ?_ | refine WG 23 ?_ | refine WR_either ?_ ?_)
      all_goals exact ⟨rfl, _, L, Res2 rfl (resV_cellN rfl 4 rfl rfl) (resV_cellN rfl 3 rfl rfl), (by repeat (first | exact List.Sublist.refl _ | apply List.Sublist.cons)), .inl ⟨⟨life, chan, true, seq, room, MV.none⟩, a6, [], _, e9, MV.none_ok, ⟨nilS, nilS, [], [], rfl, Buf.nil _ _, Buf.nil _ _, rfl⟩, rfl, by rw [List.append_nil]⟩⟩
  subst hk
  repeat (first | refine RQ ?_ | (refine RE ?_; try intro _) | refine RC ?_ | refine WG 16 ?_ | refine WG 18 ?_ | refine WG 19 ?_)
  rename_i nb
  refine WL_front 1 rfl ?_
  refine WL_op rfl (OW_call rfl (hF := Msg_any qb nb l ⟨a4, 0, 0⟩ _ ha5 hl (fun _ => rfl)) (hk := ?_))
  rintro _ _ ⟨m, ⟨sa, sc, se⟩, vb, ve, T1, T2, h2, ok2, d1, d2, rfl, rfl⟩
  rw [← List.append_assoc T1 T2]
  refine WL_permA (.cons _ (.cons _ List.perm_append_comm)) ?_
  simp only [List.cons_append]
  have hone : ((m.cellsV vb ve).toArray.toList.all fun v => v.oneCell') = true := MV.cellsV_one ok2 d1.one d2.one
  have hms := msg_size (vb := vb) (ve := ve) ok2
  repeat (first | refine RQ ?_ | (refine RE ?_; try intro _) | refine RC ?_ | refine WG 19 ?_)
  rw [gcs_put (by rw [MV.cellsV_len ok2]; rfl)]
  repeat (first | refine RQ ?_ | (refine RE ?_; try intro _) | refine RC ?_ | refine WG 20 ?_)
  refine WC_wk [(7, ptr fb 0), (5, ptr gb 0), (4, ptr qb 0), (3, ptr resf 0), (2, ptr resg 0)] ⟨rfl, rfl, rfl, rfl, rfl, trivial⟩ ?_
  refine WC_dropL ((qb, qdO l sa) :: (nb, inO qb sc se) :: (fb, .cells #[.int .i64 (sc : Nat), .int .i64 (se : Nat)] 157 (0, 0)) :: (gb, gmO (gcs life chan false seq 0 (m.cellsV vb ve))) :: (resf, .cells zc157 157 (0, 0)) :: (resg, gmO (gcs 0 0 false 0 0 zMsg)) :: (L ++ (T1 ++ T2))) (.refl _) ?_
  have hle : sa ≤ l.length := h2.le
  rcases h2.ok rfl with ⟨e5, hc0⟩ | ⟨e5, hc0⟩
  rotate_left
  · replace e5 : prMsg l a4 = .bad sc se := e5
    replace hc0 : sc ≠ 0 := hc0
    have n0 : (((sc : Nat) : Int) != 0) = true := by simp; omega
    have n1 : (((sc : Nat) : Int) == 0) = false := by simp; omega
    have h3 : prTail l life chan false seq a4 = .bad sc se := by unfold prTail; rw [if_neg (by decide), bind_badf e5]
    repeat' (first | refine RQr ?_ | (refine OX ?_; (first | (refine OE ?_; try intro _)); try refine SD ?_) | refine RC ?_ | refine RU ?_ | refine WC_draw_all (id := 24) 0 (.either 0 (.either 1 (.must 2 <| .must 3 <| .done) 2 (.must 1 <| .must 3 <| .done)) 1 (.must 0 <| .must 2 <| .must 3 <| .done)) mixed (by kernel_rfl) ?_ | refine WG 20 ?_ | refine WG 21 ?_ | refine WG 23 ?_ | refine WR_either ?_ ?_)
    all_goals exact ⟨rfl, _, L, Res2 rfl (resV_cellN rfl 5 rfl rfl) (resV_cellN rfl 4 rfl rfl), (by repeat (first | exact List.Sublist.refl _ | exact List.sublist_append_left _ _ | apply List.Sublist.cons)), .inr ⟨sc, se, by unfold prGram; rw [bind_okf e1, bind_okf e2, bind_okf e3, bind_okf e4, bind_badf h3], hc0, rfl, rfl⟩⟩
  replace e5 : prMsg l a4 = .ok m sa := e5
  have hse : se = 0 := h2.he hc0
  replace hc0 : sc = 0 := hc0
  subst hc0 hse
  have e6 : prTail l life chan false seq a4 = .ok ⟨life, chan, false, seq, 0, m⟩ sa := by unfold prTail; rw [if_neg (by decide), bind_okf e5]
  have hG : GramOk ⟨life, chan, false, seq, 0, m⟩ (gcs life chan false seq 0 (m.cellsV vb ve)) (T1 ++ T2) := ⟨vb, ve, T1, T2, rfl, d1, d2, rfl⟩
  have hone2 : ((gcs life chan false seq 0 (m.cellsV vb ve)).toList.all fun v => v.oneCell') = true := by
    show ((_ :: _ :: _ :: _ :: _ :: m.cellsV vb ve).all _) = true
    have := MV.cellsV_one ok2 d1.one d2.one
    simp only [List.all_cons, this]; rfl
  have hsz2 : (gcs life chan false seq 0 (m.cellsV vb ve)).size = 29 := by rw [gcs_size, MV.cellsV_len ok2]
  repeat (first | refine RQ ?_ | (refine RE ?_; try intro _) | refine RC ?_ | refine WG 21 ?_ | refine WG 22 ?_)
  by_cases hE : sa < l.length
  · have hcE : eCode l sa ≠ 0 := by unfold eCode; rw [if_pos hE]; decide
    refine WL_op rfl (OW_call rfl (hF := rEnd_no hcE _) (hk := ?_))
    rintro _ _ ⟨rfl, rfl⟩
    have n0 : (((eCode l sa : Nat) : Int) != 0) = true := by simp; omega
    have e9 : prGram l = .bad (eCode l sa) sa := by
      unfold prGram
      rw [bind_okf e1, bind_okf e2, bind_okf e3, bind_okf e4, bind_okf e6]
      unfold prEnd eCode
      rw [if_pos hE, if_pos hE]
    repeat' (first | refine RQr ?_ | (refine OX ?_; (first | (refine OE ?_; try intro _)); try refine SD ?_) | refine RC ?_ | refine RU ?_ | refine WC_draw_all (id := 24) 0 (.either 0 (.either 1 (.must 2 <| .must 3 <| .done) 2 (.must 1 <| .must 3 <| .done)) 1 (.must 0 <| .must 2 <| .must 3 <| .done)) mixed (by kernel_rfl) ?_ | refine WG 22 ?_ | refine WG 23 ?_ | refine WR_either ?_ ?_)
    all_goals exact ⟨rfl, _, L, Res2 rfl (resV_cellN rfl 5 rfl rfl) (resV_cellN rfl 4 rfl rfl), (by repeat (first | exact List.Sublist.refl _ | exact List.sublist_append_left _ _ | apply List.Sublist.cons)), .inr ⟨eCode l sa, sa, e9, hcE, rfl, rfl⟩⟩
  · have hcE : eCode l sa = 0 := by unfold eCode; rw [if_neg hE]
    refine WL_op rfl (OW_call rfl (hF := rEnd_ok hcE _) (hk := ?_))
    rintro _ _ ⟨rfl, rfl⟩
    have e9 : prGram l = .ok ⟨life, chan, false, seq, 0, m⟩ sa := by
      unfold prGram
      rw [bind_okf e1, bind_okf e2, bind_okf e3, bind_okf e4, bind_okf e6]
      unfold prEnd
      rw [if_neg hE]
    repeat' (first | refine RQr ?_ | (refine OX ?_; (first | (refine OE ?_; try intro _)); try refine SD ?_) | refine RC ?_ | refine RU ?_ | refine WC_draw_all (id := 25) 0 (.either 0 (.either 1 (.must 2 <| .must 3 <| .done) 2 (.must 1 <| .must 3 <| .done)) 1 (.must 0 <| .must 2 <| .must 3 <| .done)) mixed (by kernel_rfl) ?_ | refine WG 22 ?_ | refine WG 23 ?_ | refine WR_either ?_ ?_)
    all_goals exact ⟨rfl, _, L ++ (T1 ++ T2), Res2 rfl (resV_cellN rfl 5 rfl hsz2) (resV_cellN rfl 4 rfl rfl), (by repeat (first | exact List.Sublist.refl _ | apply List.Sublist.cons)), .inl ⟨⟨life, chan, false, seq, 0, m⟩, sa, T1 ++ T2, _, e9, ok2, hG, rfl, rfl⟩⟩
end Go.Proofs.YtdiaogcogkapgaaGreatDoor
namespace Go.Proofs.YtdiaogcogkapgaaGreatDoor
open Go.RowKit
attribute [local irreducible] Fn WC WL WR OW Qt YieldFn QW
theorem wrap_i64 {x : Int} (h1 : -9223372036854775808 ≤ x) (h2 : x < 9223372036854775808) : IntKind.i64.wrap x = x := by
  unfold IntKind.wrap
  simp only [show IntKind.i64.bits = 64 from rfl, show IntKind.i64.signed = true from rfl]
  by_cases h : x % 2 ^ 64 ≥ 2 ^ (64 - 1)
  · rw [if_pos (by simpa using h)]; omega
  · rw [if_neg (by simpa using h)]; omega
theorem wrap_u64 {x : Int} (h1 : 0 ≤ x) (h2 : x < 18446744073709551616) : IntKind.u64.wrap x = x := by
  simp only [IntKind.wrap, IntKind.bits, IntKind.signed]
  simp; omega
structure RecvC (cs : Array Value) (cap first : Nat) (ms : List (Array Value)) (next refused : Int) : Prop where
  size : cs.size = 389
  cap_ : cs[384]? = some (.int .i64 cap)
  first_ : cs[385]? = some (.int .i64 first)
  n_ : cs[386]? = some (.int .i64 ms.length)
  next_ : cs[387]? = some (.int .u64 next)
  ref_ : cs[388]? = some (.int .i64 refused)
  cap1 : 1 ≤ cap
  cap16 : cap ≤ 16
  f16 : first < 16
  len : ms.length ≤ cap
  nx0 : 0 ≤ next
  nx1 : next < 18446744073709551616
  msg : ∀ k m, ms[k]? = some m → cs.extract ((first + k) % 16 * 24) ((first + k) % 16 * 24 + 24) = m
abbrev rc (b : Nat) (cs : Array Value) (L : List (Nat × Obj)) : List (Nat × Obj) := (b, .cells cs 126 (0, 0)) :: L
set_option maxHeartbeats 400000 in
theorem len_fn {b : Nat} {cs : Array Value} {cap first : Nat} {ms : List (Array Value)} {next refused : Int} {L : List (Nat × Obj)} (hc : RecvC cs cap first ms next refused) :
    Fn Tryz.prog 34 [.pointer (some ⟨b, 0, none⟩)] (rc b cs L) (fun v L' => v = .int .i64 ms.length ∧ L' = rc b cs L) := by
  have hn := hc.n_
  refine Fn_enter Tryz.func34 rfl Tryz.ntmps34 rfl fun g => ?_
  repeat (first | (refine WL_Q ?_; (first | refine QW_of (Qt_assign rfl) ?_ | refine QW_of (Qt_move rfl) ?_ | refine QW_of (Qt_eql_nilS rfl) ?_ | refine QW_of (Qt_eql_nilN rfl) ?_ | refine QW_of (Qt_nilCheck rfl) ?_ | refine QW_of (Qt_nilCheck_fn rfl) ?_ | refine QW_of (Qt_fieldAddr0 rfl) ?_ | refine QW_of (Qt_fieldAddr rfl) ?_ | refine QW_of (Qt_ld1 rfl) ?_)) | refine WL_nil ?_ | refine WC_seq ?_ | refine WC_cond_t (ht := ?_) | refine WC_cond_f (he := ?_) | refine WC_skip ?_ | refine WC_ret ?_ | refine WC_region ?_)
  exact ⟨rfl, _, _, Res1 rfl (resV_tmp rfl), .refl _, rfl, rfl⟩
set_option maxHeartbeats 400000 in
theorem place_fn {b : Nat} {cs : Array Value} {cap first : Nat} {ms : List (Array Value)} {next refused : Int} {L : List (Nat × Obj)} (k : Nat) (hk : k ≤ 16) (hc : RecvC cs cap first ms next refused) :
    Fn Tryz.prog 58 [.pointer (some ⟨b, 0, none⟩), .int .i64 k] (rc b cs L) (fun v L' => v = .pointer (some ⟨b, (first + k) % 16 * 24, none⟩) ∧ L' = rc b cs L) := by
  have hn := hc.first_
  have hf := hc.f16
  have e : (IntKind.i64.wrap ((first : Int) + k)).tmod 16 = (((first + k) % 16 : Nat) : Int) := by
    rw [wrap_i64 (by omega) (by omega)]
    rw [Int.tmod_eq_emod_of_nonneg (by omega)]; omega
  have h0 : 0 ≤ (IntKind.i64.wrap ((first : Int) + k)).tmod 16 := by rw [e]; omega
  have h1 : (IntKind.i64.wrap ((first : Int) + k)).tmod 16 < (16 : Nat) := by rw [e]; omega
  refine Fn_enter Tryz.func58 rfl Tryz.ntmps58 rfl fun g => ?_
  repeat (first | (refine RX ?_; (first | refine QW_of (Qt_move rfl) ?_ | refine QW_of (Qt_assign rfl) ?_ | refine QW_of (Qt_nilCheck rfl) ?_ | refine QW_of (Qt_nilCheck_fn rfl) ?_ | refine QW_of (Qt_fieldAddr0 rfl) ?_ | refine QW_of (Qt_fieldAddr rfl) ?_ | refine QW_of (Qt_ld1 rfl) ?_ | refine QW_of (Qt_bin rfl) ?_ | refine QW_of (Qt_rem rfl) ?_ | refine QW_of (Qt_indexArr0 rfl) ?_ | refine QW_of (Qt_indexSl0 rfl) ?_ | refine QW_of (Qt_indexArr rfl) ?_ | refine QW_of (Qt_indexSl rfl) ?_)) | refine WL_nil ?_ | refine WR_nil ?_ | refine WC_seq ?_ | refine WC_ret ?_ | refine WC_draw_all (id := 1) 12 (Cs [0,1,2,3,4,5,6,7,8,9,10,11] <| .done) mixed (by kernel_rfl) ?_ | refine WC_region ?_)
  refine ⟨rfl, _, _, Res1 rfl (resV_tmp rfl), .refl _, ?_, rfl⟩
  rw [e]
  simp
theorem RecvC.refused {cs : Array Value} {cap first : Nat} {ms : List (Array Value)} {next refused : Int} (hc : RecvC cs cap first ms next refused) (r : Int) : RecvC (cs.setIfInBounds 388 (.int .i64 r)) cap first ms next r where
  size := by simpa using hc.size
  cap_ := by rw [Array.getElem?_setIfInBounds_ne (by decide)]; exact hc.cap_
  first_ := by rw [Array.getElem?_setIfInBounds_ne (by decide)]; exact hc.first_
  n_ := by rw [Array.getElem?_setIfInBounds_ne (by decide)]; exact hc.n_
  next_ := by rw [Array.getElem?_setIfInBounds_ne (by decide)]; exact hc.next_
  ref_ := by have := hc.size; simp [this]
  cap1 := hc.cap1
  cap16 := hc.cap16
  f16 := hc.f16
  len := hc.len
  nx0 := hc.nx0
  nx1 := hc.nx1
  msg := fun k m hk => by
    rw [← hc.msg k m hk]
    have hlt : (first + k) % 16 < 16 := Nat.mod_lt _ (by decide)
    exact extract_congr fun j h1 h2 => Array.getElem?_setIfInBounds_ne (by omega)
theorem data_refused {b : Nat} {cs : Array Value} {cap first : Nat} {ms : List (Array Value)} {next refused : Int} {L : List (Nat × Obj)} (hc : RecvC cs cap first ms next refused) (seq : Int) (m : Array Value) (e : Int)
    (he : (seq < next ∧ e = 18) ∨ (next < seq ∧ e = 7) ∨ (seq = next ∧ ms.length = cap ∧ e = 8)) :
    Fn Tryz.prog 49 [.pointer (some ⟨b, 0, none⟩), .int .u64 seq, .agg m] (rc b cs L) (fun v L' => v = .int .i64 e ∧ L' = rc b (cs.setIfInBounds 388 (.int .i64 (IntKind.i64.wrap (refused + 1)))) L) := by
  have hn := hc.next_
  have hr := hc.ref_
  have hs := hc.size
  have hl := hc.n_
  have hcap := hc.cap_
  rcases he with ⟨h, rfl⟩ | ⟨h, rfl⟩ | ⟨rfl, h, rfl⟩
  · have h1 : decide (seq < next) = true := by simpa using h
    refine Fn_enter Tryz.func49 rfl Tryz.ntmps49 rfl fun g => ?_
    repeat (first | (refine RX ?_; (first | refine QW_of (Qt_move rfl) ?_ | refine QW_of (Qt_nilCheck rfl) ?_ | refine QW_of (Qt_nilCheck_fn rfl) ?_ | refine QW_of (Qt_fieldAddr0 rfl) ?_ | refine QW_of (Qt_fieldAddr rfl) ?_ | refine QW_of (Qt_assign rfl) ?_ | refine QW_of (Qt_ld1 rfl) ?_ | refine QW_of (Qt_bin rfl) ?_ | refine QW_of (Qt_eql_nilS rfl) ?_ | refine QW_of (Qt_eql_nilN rfl) ?_ | refine QW_of (Qt_ldA rfl) ?_ | refine QW_of (Qt_ldN rfl) ?_)) | ((first | refine WL_op rfl ?_ | refine WR_late rfl rfl rfl ?_); (first | refine OW_st1 rfl ?_ | refine OW_box rfl (hk := fun _ => ?_) | refine OW_stA rfl ?_ | refine OW_stN rfl ?_)) | refine WL_nil ?_ | refine WR_nil ?_ | refine WC_seq ?_ | refine WC_block ?_ | refine WC_cond_t (ht := ?_) | refine WC_cond_f (he := ?_) | refine WC_skip ?_ | refine WC_ret ?_ | refine WC_exit ?_ | refine WC_draw_all (id := 5) 10 (Cs [0,1,2,3,4,5,6,7,8,9] <| .done) mixed (by kernel_rfl) ?_ | refine WC_draw_all (id := 13) 8 (Cs [0,1,2,3,4,6] <| .must 5 <| .calm 7 <| .must 8 <| .done) mixed (by kernel_rfl) ?_ | refine WC_region ?_ | ((refine WR_op rfl rfl ?_); (first | refine OW_st1 rfl ?_ | refine OW_box rfl (hk := fun _ => ?_) | refine OW_stA rfl ?_ | refine OW_stN rfl ?_); refine ⟨(by first | exact fun _ h => h | exact fun _ h => List.Sublist.subset (by repeat (first | exact .refl _ | exact List.nil_sublist _ | exact List.sublist_append_right _ _ | exact List.Sublist.append (.refl _) (List.sublist_append_right _ _) | apply List.Sublist.cons_cons | apply List.Sublist.cons)) h), ?_⟩))
    exact ⟨rfl, _, _, Res1 rfl (resV_tmp rfl), .cons _ (.refl _), rfl, rfl⟩
  · have h1 : decide (seq < next) = false := by simp; omega
    have h2 : decide (seq > next) = true := by simpa using h
    refine Fn_enter Tryz.func49 rfl Tryz.ntmps49 rfl fun g => ?_
    repeat (first | (refine RX ?_; (first | refine QW_of (Qt_move rfl) ?_ | refine QW_of (Qt_nilCheck rfl) ?_ | refine QW_of (Qt_nilCheck_fn rfl) ?_ | refine QW_of (Qt_fieldAddr0 rfl) ?_ | refine QW_of (Qt_fieldAddr rfl) ?_ | refine QW_of (Qt_assign rfl) ?_ | refine QW_of (Qt_ld1 rfl) ?_ | refine QW_of (Qt_bin rfl) ?_ | refine QW_of (Qt_eql_nilS rfl) ?_ | refine QW_of (Qt_eql_nilN rfl) ?_ | refine QW_of (Qt_ldA rfl) ?_ | refine QW_of (Qt_ldN rfl) ?_)) | ((first | refine WL_op rfl ?_ | refine WR_late rfl rfl rfl ?_); (first | refine OW_st1 rfl ?_ | refine OW_box rfl (hk := fun _ => ?_) | refine OW_stA rfl ?_ | refine OW_stN rfl ?_)) | refine WL_nil ?_ | refine WR_nil ?_ | refine WC_seq ?_ | refine WC_block ?_ | refine WC_cond_t (ht := ?_) | refine WC_cond_f (he := ?_) | refine WC_skip ?_ | refine WC_ret ?_ | refine WC_exit ?_ | refine WC_draw_all (id := 5) 10 (Cs [0,1,2,3,4,5,6,7,8,9] <| .done) mixed (by kernel_rfl) ?_ | refine WC_draw_all (id := 13) 8 (Cs [0,1,2,3,4,6] <| .must 5 <| .calm 7 <| .must 8 <| .done) mixed (by kernel_rfl) ?_ | refine WC_region ?_ | ((refine WR_op rfl rfl ?_); (first | refine OW_st1 rfl ?_ | refine OW_box rfl (hk := fun _ => ?_) | refine OW_stA rfl ?_ | refine OW_stN rfl ?_); refine ⟨(by first | exact fun _ h => h | exact fun _ h => List.Sublist.subset (by repeat (first | exact .refl _ | exact List.nil_sublist _ | exact List.sublist_append_right _ _ | exact List.Sublist.append (.refl _) (List.sublist_append_right _ _) | apply List.Sublist.cons_cons | apply List.Sublist.cons)) h), ?_⟩))
    exact ⟨rfl, _, _, Res1 rfl (resV_tmp rfl), .cons _ (.refl _), rfl, rfl⟩
  · have h1 : decide (seq < seq) = false := by simp
    have h2 : decide (seq > seq) = false := by simp
    have h3 : ((ms.length : Int) == (cap : Int)) = true := by simp [h]
    refine Fn_enter Tryz.func49 rfl Tryz.ntmps49 rfl fun g => ?_
    repeat (first | (refine RX ?_; (first | refine QW_of (Qt_move rfl) ?_ | refine QW_of (Qt_nilCheck rfl) ?_ | refine QW_of (Qt_nilCheck_fn rfl) ?_ | refine QW_of (Qt_fieldAddr0 rfl) ?_ | refine QW_of (Qt_fieldAddr rfl) ?_ | refine QW_of (Qt_assign rfl) ?_ | refine QW_of (Qt_ld1 rfl) ?_ | refine QW_of (Qt_bin rfl) ?_ | refine QW_of (Qt_eql_nilS rfl) ?_ | refine QW_of (Qt_eql_nilN rfl) ?_ | refine QW_of (Qt_ldA rfl) ?_ | refine QW_of (Qt_ldN rfl) ?_)) | ((first | refine WL_op rfl ?_ | refine WR_late rfl rfl rfl ?_); (first | refine OW_st1 rfl ?_ | refine OW_box rfl (hk := fun _ => ?_) | refine OW_stA rfl ?_ | refine OW_stN rfl ?_)) | refine WL_nil ?_ | refine WR_nil ?_ | refine WC_seq ?_ | refine WC_block ?_ | refine WC_cond_t (ht := ?_) | refine WC_cond_f (he := ?_) | refine WC_skip ?_ | refine WC_ret ?_ | refine WC_exit ?_ | refine WC_draw_all (id := 5) 10 (Cs [0,1,2,3,4,5,6,7,8,9] <| .done) mixed (by kernel_rfl) ?_ | refine WC_draw_all (id := 13) 8 (Cs [0,1,2,3,4,6] <| .must 5 <| .calm 7 <| .must 8 <| .done) mixed (by kernel_rfl) ?_ | refine WC_region ?_ | ((refine WR_op rfl rfl ?_); (first | refine OW_st1 rfl ?_ | refine OW_box rfl (hk := fun _ => ?_) | refine OW_stA rfl ?_ | refine OW_stN rfl ?_); refine ⟨(by first | exact fun _ h => h | exact fun _ h => List.Sublist.subset (by repeat (first | exact .refl _ | exact List.nil_sublist _ | exact List.sublist_append_right _ _ | exact List.Sublist.append (.refl _) (List.sublist_append_right _ _) | apply List.Sublist.cons_cons | apply List.Sublist.cons)) h), ?_⟩))
    exact ⟨rfl, _, _, Res1 rfl (resV_tmp rfl), .cons _ (.refl _), rfl, rfl⟩
theorem RecvC.taken {cs : Array Value} {cap first : Nat} {ms : List (Array Value)} {next refused : Int} (hc : RecvC cs cap first ms next refused) (m : Array Value) (hm : m.size = 24) (hroom : ms.length < cap) (hx : next + 1 < 18446744073709551616) :
    RecvC (((putR cs ((first + ms.length) % 16 * 24) m).setIfInBounds 386 (.int .i64 (ms.length + 1 : Nat))).setIfInBounds 387 (.int .u64 (next + 1))) cap first (ms ++ [m]) (next + 1) refused := by
  have hs := hc.size
  have hoff : (first + ms.length) % 16 * 24 + m.size ≤ 384 := by have := Nat.mod_lt (first + ms.length) (show 0 < 16 by decide); omega
  have hp := putR_size cs m ((first + ms.length) % 16 * 24) (by omega)
  have ho : ∀ j, 384 ≤ j → (putR cs ((first + ms.length) % 16 * 24) m)[j]? = cs[j]? := fun j hj => putR_get_out cs m _ j (by omega) (by omega)
  have hcap := hc.cap16
  refine ⟨by simpa using hp.trans hs, ?_, ?_, ?_, ?_, ?_, hc.cap1, hc.cap16, hc.f16, by simp; omega, by have := hc.nx0; omega, hx, ?_⟩
  · rw [Array.getElem?_setIfInBounds_ne (by decide), Array.getElem?_setIfInBounds_ne (by decide), ho _ (by decide)]; exact hc.cap_
  · rw [Array.getElem?_setIfInBounds_ne (by decide), Array.getElem?_setIfInBounds_ne (by decide), ho _ (by decide)]; exact hc.first_
  · rw [Array.getElem?_setIfInBounds_ne (by decide)]; simp [hp, hs]
  · simp [hp, hs]
  · rw [Array.getElem?_setIfInBounds_ne (by decide), Array.getElem?_setIfInBounds_ne (by decide), ho _ (by decide)]; exact hc.ref_
  · intro k u hk
    have hk16 : (first + k) % 16 < 16 := Nat.mod_lt _ (by decide)
    have e : (((putR cs ((first + ms.length) % 16 * 24) m).setIfInBounds 386 (.int .i64 (ms.length + 1 : Nat))).setIfInBounds 387 (.int .u64 (next + 1))).extract ((first + k) % 16 * 24) ((first + k) % 16 * 24 + 24) = (putR cs ((first + ms.length) % 16 * 24) m).extract ((first + k) % 16 * 24) ((first + k) % 16 * 24 + 24) :=
      extract_congr fun j h1 h2 => by rw [Array.getElem?_setIfInBounds_ne (by omega), Array.getElem?_setIfInBounds_ne (by omega)]
    rw [e]
    by_cases hlt : k < ms.length
    · rw [List.getElem?_append_left hlt] at hk
      rw [← hc.msg k u hk]
      have hf := hc.f16
      have hne : (first + k) % 16 ≠ (first + ms.length) % 16 := by omega
      exact extract_congr fun j h1 h2 => putR_get_out cs m _ j (by omega) (by omega)
    · rw [List.getElem?_append_right (by omega)] at hk
      have hk0 : k - ms.length = 0 := by
        have := (List.getElem?_eq_some_iff.1 hk).1
        simp at this; omega
      rw [hk0] at hk
      simp at hk
      subst hk
      have hkk : k = ms.length := by omega
      subst hkk
      have := extract_putR cs m ((first + ms.length) % 16 * 24) (by omega)
      rw [hm] at this; exact this
set_option maxHeartbeats 2000000 in
theorem data_taken {b : Nat} {cs : Array Value} {cap first : Nat} {ms : List (Array Value)} {next refused : Int} {L : List (Nat × Obj)} (hc : RecvC cs cap first ms next refused) (m : Array Value) (hm : m.size = 24) (hm1 : (m.toList.all fun v => v.oneCell') = true) (hroom : ms.length < cap) (hx : next + 1 < 18446744073709551616) :
    Fn Tryz.prog 49 [.pointer (some ⟨b, 0, none⟩), .int .u64 next, .agg m] (rc b cs L) (fun v L' => v = .int .i64 0 ∧ ∃ cs', L' = rc b cs' L ∧ RecvC cs' cap first (ms ++ [m]) (next + 1) refused) := by
  have hn := hc.next_
  have hr := hc.ref_
  have hs := hc.size
  have hl := hc.n_
  have hcap := hc.cap_
  have h1 : decide (next < next) = false := by simp
  have h2 : decide (next > next) = false := by simp
  have h3 : ((ms.length : Int) == (cap : Int)) = false := by simp; omega
  have hoff : (first + ms.length) % 16 * 24 + 24 ≤ cs.size := by omega
  have hps := putR_size cs m ((first + ms.length) % 16 * 24) (by omega)
  have hs2 : (putR cs ((first + ms.length) % 16 * 24) m).size = 389 := by omega
  have hl2 : (putR cs ((first + ms.length) % 16 * 24) m)[386]? = some (.int .i64 ms.length) := by rw [putR_get_out cs m _ _ (by omega) (by omega)]; exact hl
  have hn2 : ((putR cs ((first + ms.length) % 16 * 24) m).setIfInBounds 386 (.int .i64 (IntKind.i64.wrap (ms.length + 1))))[387]? = some (.int .u64 next) := by
    rw [Array.getElem?_setIfInBounds_ne (by decide), putR_get_out cs m _ _ (by omega) (by omega)]; exact hn
  refine Fn_enter Tryz.func49 rfl Tryz.ntmps49 rfl fun g => ?_
  repeat (first | (refine RX ?_; (first | refine QW_of (Qt_move rfl) ?_ | refine QW_of (Qt_nilCheck rfl) ?_ | refine QW_of (Qt_nilCheck_fn rfl) ?_ | refine QW_of (Qt_fieldAddr0 rfl) ?_ | refine QW_of (Qt_fieldAddr rfl) ?_ | refine QW_of (Qt_assign rfl) ?_ | refine QW_of (Qt_ld1 rfl) ?_ | refine QW_of (Qt_bin rfl) ?_ | refine QW_of (Qt_eql_nilS rfl) ?_ | refine QW_of (Qt_eql_nilN rfl) ?_ | refine QW_of (Qt_ldA rfl) ?_ | refine QW_of (Qt_ldN rfl) ?_)) | ((first | refine WL_op rfl ?_ | refine WR_late rfl rfl rfl ?_); (first | refine OW_st1 rfl ?_ | refine OW_box rfl (hk := fun _ => ?_) | refine OW_stA rfl ?_ | refine OW_stN rfl ?_)) | refine WL_nil ?_ | refine WR_nil ?_ | refine WC_seq ?_ | refine WC_block ?_ | refine WC_cond_t (ht := ?_) | refine WC_cond_f (he := ?_) | refine WC_skip ?_ | refine WC_ret ?_ | refine WC_exit ?_ | refine WC_draw_all (id := 5) 10 (Cs [0,1,2,3,4,5,6,7,8,9] <| .done) mixed (by kernel_rfl) ?_ | refine WC_draw_all (id := 13) 8 (Cs [0,1,2,3,4,6] <| .must 5 <| .calm 7 <| .must 8 <| .done) mixed (by kernel_rfl) ?_ | refine WC_region ?_ | ((refine WR_op rfl rfl ?_); (first | refine OW_st1 rfl ?_ | refine OW_box rfl (hk := fun _ => ?_) | refine OW_stA rfl ?_ | refine OW_stN rfl ?_); refine ⟨(by first | exact fun _ h => h | exact fun _ h => List.Sublist.subset (by repeat (first | exact .refl _ | exact List.nil_sublist _ | exact List.sublist_append_right _ _ | exact List.Sublist.append (.refl _) (List.sublist_append_right _ _) | apply List.Sublist.cons_cons | apply List.Sublist.cons)) h), ?_⟩))
  refine WR_op rfl rfl (OW_call rfl rfl rfl rfl (Fn.at_same (fun F => place_fn (L := F) ms.length (by have := hc.len; have := hc.cap16; omega) hc) 1 rfl) ?_)
  rintro _ _ ⟨rfl, rfl⟩
  refine ⟨fun _ h => h, ?_⟩
  repeat (first | (refine RX ?_; (first | refine QW_of (Qt_move rfl) ?_ | refine QW_of (Qt_nilCheck rfl) ?_ | refine QW_of (Qt_nilCheck_fn rfl) ?_ | refine QW_of (Qt_fieldAddr0 rfl) ?_ | refine QW_of (Qt_fieldAddr rfl) ?_ | refine QW_of (Qt_assign rfl) ?_ | refine QW_of (Qt_ld1 rfl) ?_ | refine QW_of (Qt_bin rfl) ?_ | refine QW_of (Qt_eql_nilS rfl) ?_ | refine QW_of (Qt_eql_nilN rfl) ?_ | refine QW_of (Qt_ldA rfl) ?_ | refine QW_of (Qt_ldN rfl) ?_)) | ((first | refine WL_op rfl ?_ | refine WR_late rfl rfl rfl ?_); (first | refine OW_st1 rfl ?_ | refine OW_box rfl (hk := fun _ => ?_) | refine OW_stA rfl ?_ | refine OW_stN rfl ?_)) | refine WL_nil ?_ | refine WR_nil ?_ | refine WC_seq ?_ | refine WC_block ?_ | refine WC_cond_t (ht := ?_) | refine WC_cond_f (he := ?_) | refine WC_skip ?_ | refine WC_ret ?_ | refine WC_exit ?_ | refine WC_draw_all (id := 5) 10 (Cs [0,1,2,3,4,5,6,7,8,9] <| .done) mixed (by kernel_rfl) ?_ | refine WC_draw_all (id := 13) 8 (Cs [0,1,2,3,4,6] <| .must 5 <| .calm 7 <| .must 8 <| .done) mixed (by kernel_rfl) ?_ | refine WC_region ?_ | ((refine WR_op rfl rfl ?_); (first | refine OW_st1 rfl ?_ | refine OW_box rfl (hk := fun _ => ?_) | refine OW_stA rfl ?_ | refine OW_stN rfl ?_); refine ⟨(by first | exact fun _ h => h | exact fun _ h => List.Sublist.subset (by repeat (first | exact .refl _ | exact List.nil_sublist _ | exact List.sublist_append_right _ _ | exact List.Sublist.append (.refl _) (List.sublist_append_right _ _) | apply List.Sublist.cons_cons | apply List.Sublist.cons)) h), ?_⟩))
  repeat (first | (refine RX ?_; (first | refine QW_of (Qt_move rfl) ?_ | refine QW_of (Qt_nilCheck rfl) ?_ | refine QW_of (Qt_nilCheck_fn rfl) ?_ | refine QW_of (Qt_fieldAddr0 rfl) ?_ | refine QW_of (Qt_fieldAddr rfl) ?_ | refine QW_of (Qt_assign rfl) ?_ | refine QW_of (Qt_ld1 rfl) ?_ | refine QW_of (Qt_bin rfl) ?_ | refine QW_of (Qt_eql_nilS rfl) ?_ | refine QW_of (Qt_eql_nilN rfl) ?_ | refine QW_of (Qt_ldA rfl) ?_ | refine QW_of (Qt_ldN rfl) ?_)) | ((first | refine WL_op rfl ?_ | refine WR_late rfl rfl rfl ?_); (first | refine OW_st1 rfl ?_ | refine OW_box rfl (hk := fun _ => ?_) | refine OW_stA rfl ?_ | refine OW_stN rfl ?_)) | refine WL_nil ?_ | refine WR_nil ?_ | refine WC_seq ?_ | refine WC_block ?_ | refine WC_cond_t (ht := ?_) | refine WC_cond_f (he := ?_) | refine WC_skip ?_ | refine WC_ret ?_ | refine WC_exit ?_ | refine WC_draw_all (id := 5) 10 (Cs [0,1,2,3,4,5,6,7,8,9] <| .done) mixed (by kernel_rfl) ?_ | refine WC_draw_all (id := 13) 8 (Cs [0,1,2,3,4,6] <| .must 5 <| .calm 7 <| .must 8 <| .done) mixed (by kernel_rfl) ?_ | refine WC_region ?_ | ((refine WR_op rfl rfl ?_); (first | refine OW_st1 rfl ?_ | refine OW_box rfl (hk := fun _ => ?_) | refine OW_stA rfl ?_ | refine OW_stN rfl ?_); refine ⟨(by first | exact fun _ h => h | exact fun _ h => List.Sublist.subset (by repeat (first | exact .refl _ | exact List.nil_sublist _ | exact List.sublist_append_right _ _ | exact List.Sublist.append (.refl _) (List.sublist_append_right _ _) | apply List.Sublist.cons_cons | apply List.Sublist.cons)) h), ?_⟩))
  refine ⟨rfl, _, _, Res1 rfl (resV_tmp rfl), .cons _ (.refl _), rfl, _, rfl, ?_⟩
  have hcc := hc.cap16
  have e1 : IntKind.i64.wrap ((ms.length : Int) + 1) = ((ms.length + 1 : Nat) : Int) := by rw [wrap_i64 (by omega) (by omega)]; simp
  have e2 : IntKind.u64.wrap (next + 1) = next + 1 := by have := hc.nx0; rw [wrap_u64 (by omega) (by omega)]
  rw [e1, e2]
  exact hc.taken m hm hroom hx
set_option maxHeartbeats 1000000 in
theorem answer_fn {b : Nat} {cs : Array Value} {cap first : Nat} {ms : List (Array Value)} {next refused : Int} {L : List (Nat × Obj)} (hc : RecvC cs cap first ms next refused) :
    Fn Tryz.prog 50 [.pointer (some ⟨b, 0, none⟩)] (rc b cs L) (fun v L' => v = .tuple #[.int .u64 next, .int .i64 ((cap : Int) - ms.length)] ∧ L' = rc b cs L) := by
  have h1 := hc.n_
  have h2 := hc.next_
  have h3 := hc.cap_
  refine Fn_enter Tryz.func50 rfl Tryz.ntmps50 rfl fun g => ?_
  repeat (first | (refine RX ?_; (first | refine QW_of (Qt_assign rfl) ?_ | refine QW_of (Qt_move rfl) ?_ | refine QW_of (Qt_nilCheck rfl) ?_ | refine QW_of (Qt_nilCheck_fn rfl) ?_ | refine QW_of (Qt_fieldAddr0 rfl) ?_ | refine QW_of (Qt_fieldAddr rfl) ?_ | refine QW_of (Qt_ld1 rfl) ?_ | refine QW_of (Qt_eql_nilS rfl) ?_ | refine QW_of (Qt_eql_nilN rfl) ?_ | refine QW_of (Qt_bin rfl) ?_)) | refine WL_nil ?_ | refine WR_nil ?_ | refine WC_seq ?_ | refine WC_cond_t (ht := ?_) | refine WC_cond_f (he := ?_) | refine WC_skip ?_ | refine WC_ret ?_ | refine WC_draw_all (id := 3) 15 (Cs [0,1,2,3,4,5,6,7,8,9,10,11,12,13,14] <| .done) mixed (by kernel_rfl) ?_ | refine WC_region ?_)
  have := hc.len
  have := hc.cap16
  refine ⟨rfl, _, _, Res2 rfl (resV_tmp rfl) (resV_tmp rfl), .refl _, ?_, rfl⟩
  rw [wrap_i64 (by omega) (by omega)]
set_option maxHeartbeats 1000000 in
theorem refused_fn {b : Nat} {cs : Array Value} {cap first : Nat} {ms : List (Array Value)} {next refused : Int} {L : List (Nat × Obj)} (hc : RecvC cs cap first ms next refused) :
    Fn Tryz.prog 67 [.pointer (some ⟨b, 0, none⟩)] (rc b cs L) (fun v L' => v = .int .i64 refused ∧ L' = rc b cs L) := by
  have h1 := hc.ref_
  refine Fn_enter Tryz.func67 rfl Tryz.ntmps67 rfl fun g => ?_
  repeat (first | (refine WL_Q ?_; (first | refine QW_of (Qt_assign rfl) ?_ | refine QW_of (Qt_move rfl) ?_ | refine QW_of (Qt_eql_nilS rfl) ?_ | refine QW_of (Qt_eql_nilN rfl) ?_ | refine QW_of (Qt_nilCheck rfl) ?_ | refine QW_of (Qt_nilCheck_fn rfl) ?_ | refine QW_of (Qt_fieldAddr0 rfl) ?_ | refine QW_of (Qt_fieldAddr rfl) ?_ | refine QW_of (Qt_ld1 rfl) ?_)) | refine WL_nil ?_ | refine WC_seq ?_ | refine WC_cond_t (ht := ?_) | refine WC_cond_f (he := ?_) | refine WC_skip ?_ | refine WC_ret ?_ | refine WC_region ?_)
  exact ⟨rfl, _, _, Res1 rfl (resV_tmp rfl), .refl _, rfl, rfl⟩
set_option maxHeartbeats 1000000 in
theorem pop_empty {b : Nat} {cs : Array Value} {cap first : Nat} {next refused : Int} {L : List (Nat × Obj)} (hc : RecvC cs cap first [] next refused) :
    Fn Tryz.prog 35 [.pointer (some ⟨b, 0, none⟩)] (rc b cs L) (fun v L' => v = .int .i64 9 ∧ L' = rc b cs L) := by
  have h1 := hc.n_
  have h2 : (((([] : List (Array Value)).length : Nat) : Int) == 0) = true := by simp
  refine Fn_enter Tryz.func35 rfl Tryz.ntmps35 rfl fun g => ?_
  repeat (first | (refine WL_Q ?_; (first | refine QW_of (Qt_assign rfl) ?_ | refine QW_of (Qt_move rfl) ?_ | refine QW_of (Qt_nilCheck rfl) ?_ | refine QW_of (Qt_nilCheck_fn rfl) ?_ | refine QW_of (Qt_fieldAddr0 rfl) ?_ | refine QW_of (Qt_fieldAddr rfl) ?_ | refine QW_of (Qt_ld1 rfl) ?_ | refine QW_of (Qt_bin rfl) ?_ | refine QW_of (Qt_eql_nilS rfl) ?_ | refine QW_of (Qt_eql_nilN rfl) ?_ | refine QW_of (Qt_build rfl) ?_ | refine QW_of (Qt_rem rfl) ?_)) | (refine WL_op rfl ?_; (first | refine OW_st1 rfl ?_ | refine OW_stA rfl ?_ | refine OW_stN rfl ?_)) | refine WL_nil ?_ | refine WC_seq ?_ | refine WC_block ?_ | refine WC_cond_t (ht := ?_) | refine WC_cond_f (he := ?_) | refine WC_skip ?_ | refine WC_ret ?_ | refine WC_region ?_)
  exact ⟨rfl, _, _, Res1 rfl (resV_tmp rfl), .refl _, rfl, rfl⟩
end Go.Proofs.YtdiaogcogkapgaaGreatDoor
