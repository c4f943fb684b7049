/-
  A part of what the last of these texts needs; by itself it proves no statement.
-/
import Derived.WalkSpells
import Derived.Test.YtncgndcepoicbaaGreatKH14
namespace Go.Proofs.YtncgndcepoicbaaGreat
open Go.RowKit
abbrev outF (xb : Nat) : Value := .func (.func 69) #[] #[.pointer (some ⟨xb, 0, none⟩)]
def FirstI (xs : List Int) (w : Int) (i : Int) : Prop := (i = -1 ∧ ∀ p ∈ xs, p ≠ w) ∨ ∃ k : Nat, i = k ∧ k < xs.length ∧ (∀ (a : Nat) q, a < k → xs[a]? = some q → q ≠ w) ∧ xs[k]? = some w
def BoxAt (L : List (Nat × Obj)) (xb : Nat) (w : Int) : Prop := ∃ (i : Nat) (cc : Array Value) (E : TypeId) (fr : Nat × Nat), L[i]? = some (xb, .cells cc E fr) ∧ cc[3]? = some (iV w)
theorem BoxAt.app {L : List (Nat × Obj)} {xb : Nat} {w : Int} (h : BoxAt L xb w) (A : List (Nat × Obj)) : BoxAt (A ++ L) xb w := by
  obtain ⟨i, cc, E, fr, h1, h2⟩ := h
  exact ⟨A.length + i, cc, E, fr, by rw [List.getElem?_append_right (by omega), show A.length + i - A.length = i by omega]; exact h1, h2⟩
attribute [local irreducible] Fn WC WL WR OW Qt YieldFn QW FnP FnD FnE
theorem out_fn {x w : Int} {xb : Nat} {L : List (Nat × Obj)} (h : BoxAt L xb w) : Fn Tryz.prog 69 [iV x, .pointer (some ⟨xb, 0, none⟩)] L (fun v L' => v = .bool (x == w) ∧ L' = L) := by
  obtain ⟨i, cc, E, fr, h1, h2⟩ := h
  refine Fn_enter Tryz.func69 rfl Tryz.ntmps69 rfl fun g => ?_
  repeat (first | refine RQ ?_ | refine RC ?_ | refine WC_region ?_)
  exact ⟨rfl, _, _, Res1 rfl (resV_tmp rfl), .refl _, rfl, rfl⟩
set_option maxHeartbeats 2000000 in
theorem indexI_fn {v : Value} {xs : List Int} {w : Int} {xb : Nat} (hn : xs.length ≤ 100000) {L : List (Nat × Obj)} (hv : Vec 1 L v xs.length (xs.map iV)) (hbx : BoxAt L xb w) : Fn Tryz.prog 122 [v, outF xb] L (fun r L' => (∃ i, FirstI xs w i ∧ r = .int .i64 i) ∧ L' = L) := by
  obtain ⟨_, a1, cap1, rfl, _, _, h1⟩ := hv
  refine Fn_enter Tryz.func122 rfl Tryz.ntmps122 rfl fun gw => ?_
  repeat (first | refine RQ ?_ | refine RC ?_ | refine WG 0 ?_ | refine WG 1 ?_)
  refine WC_wk [(8, .int .i64 0), (7, .int .i64 (xs.length : Nat)), (0, .slice a1 xs.length cap1), (1, outF xb)] ⟨rfl, rfl, rfl, rfl, trivial⟩ ?_
  refine WC_loop (fun m σ => ∃ i : Nat, m = xs.length - i ∧ i ≤ xs.length ∧ (∀ (a : Nat) q, a < i → xs[a]? = some q → q ≠ w) ∧ σ = ⟨[(8, .int .i64 i), (7, .int .i64 (xs.length : Nat)), (0, .slice a1 xs.length cap1), (1, outF xb)], [], L⟩) xs.length ⟨0, by omega, by omega, fun a q h => by omega, rfl⟩ ?_
  rintro m σ ⟨i, rfl, hi, hB, rfl⟩
  by_cases hlt : i < xs.length
  · have d2 : decide ((i : Int) < ((xs.length : Nat) : Int)) = true := decide_eq_true (by omega)
    obtain ⟨p, hp⟩ : ∃ p, xs[i]? = some p := ⟨_, List.getElem?_eq_getElem hlt⟩
    obtain ⟨g1, o1, cu1, E1, fr1, i1, rfl, hi1, hc1⟩ := h1.resolve_left (by omega)
    have p0 : (0 : Int) ≤ (i : Int) := by omega
    have p1 : ((i : Nat) : Int) < ((xs.length : Nat) : Int) := by omega
    have v1 : cu1[o1 + ((i : Nat) : Int).toNat * 1]? = some (iV p) := by rw [Int.toNat_natCast, Nat.mul_one]; exact hc1 i _ (by rw [List.getElem?_map, hp]; rfl)
    have ww : IntKind.i64.wrap ((i : Int) + 1) = ((i + 1 : Nat) : Int) := by rw [wI64 (by omega) (by omega)]; omega
    repeat (first | refine RQ ?_ | refine RC ?_ | refine WG 2 ?_ | refine WG 3 ?_ | refine WG 4 ?_)
    refine WL_op rfl (OW_callv rfl rfl rfl rfl rfl (out_fn (x := p) hbx) ?_)
    rintro _ _ ⟨rfl, rfl⟩
    by_cases hpe : p = w
    · have d3 : (p == w) = true := by simpa using hpe
      repeat (first | refine RQ ?_ | refine RC ?_ | refine WG 4 ?_ | refine WG 5 ?_)
      exact ⟨rfl, _, _, Res1 rfl (resV_tmp rfl), .refl _, ⟨_, .inr ⟨i, rfl, hlt, hB, by rw [hp, hpe]⟩, rfl⟩, rfl⟩
    · have d3 : (p == w) = false := by simpa using hpe
      repeat (first | refine RQ ?_ | refine RC ?_ | refine WG 4 ?_ | refine WG 6 ?_)
      rw [ww]
      refine ⟨_, _, by omega, ⟨i + 1, rfl, by omega, fun a q ha hq => ?_, rfl⟩, ⟨rfl, rfl, rfl, rfl, trivial⟩, rfl, .refl _⟩
      rcases Nat.lt_or_ge a i with g | g
      · exact hB a q g hq
      · obtain rfl : a = i := by omega
        rw [hp] at hq
        cases hq
        exact hpe
  · have d2 : decide ((i : Int) < ((xs.length : Nat) : Int)) = false := decide_eq_false (by omega)
    repeat (first | refine RQ ?_ | refine RC ?_ | refine WG 2 ?_ | refine WG 7 ?_)
    refine ⟨rfl, _, _, Res1 rfl (resV_tmp rfl), .refl _, ⟨_, .inl ⟨rfl, fun p hp => ?_⟩, rfl⟩, rfl⟩
    obtain ⟨a, ha⟩ := List.mem_iff_getElem?.1 hp
    exact hB a p (Nat.lt_of_lt_of_le (List.getElem?_eq_some_iff.1 ha).1 (by omega)) ha
abbrev keepI (w : Int) (p : Int) : Bool := !(p == w)
set_option maxHeartbeats 4000000 in
theorem deleteI_fn {v : Value} {T : List (Nat × Obj)} {xs : List Int} {w : Int} {xb : Nat} (hn : xs.length ≤ 100000) (hb : BufI v T xs) {L : List (Nat × Obj)} (hbx : BoxAt L xb w) : Fn Tryz.prog 68 [v, outF xb] (T ++ L) (fun r L' => ∃ T', BufI r T' (xs.filter (keepI w)) ∧ L' = T' ++ L) := by
  refine Fn_enter Tryz.func68 rfl Tryz.ntmps68 rfl fun gw => ?_
  repeat (first | refine RQ ?_ | (refine WL_op rfl ?_; (first | (refine OW_call rfl (hF := indexI_fn hn (Buf.vec0 hb L) (hbx.app T)) (hk := ?_); rintro _ _ ⟨⟨i0, hF, rfl⟩, rfl⟩))) | refine RC ?_ | refine WG 0 ?_ | refine WG 1 ?_ | refine WG 2 ?_)
  rcases hF with ⟨rfl, hall⟩ | ⟨k, rfl, hk, hB, hq⟩
  · have dI : ((-1 : Int) == -1) = true := rfl
    repeat (first | refine RQ ?_ | refine RC ?_ | refine WG 2 ?_ | refine WG 3 ?_)
    refine ⟨rfl, _, T ++ L, Res1 rfl (resV_tmp rfl), .refl _, T, ?_, rfl⟩
    rw [List.filter_eq_self.2 (fun p hp => by simpa [keepI] using hall p hp)]
    exact hb
  obtain ⟨g, off, cap, cur, rfl, rfl, ho⟩ := (id hb : Buf _ _ _ _ _ _).resolve_left (fun h => by have := h.2.1; omega)
  have dI : (((k : Nat) : Int) == -1) = false := by simp
  have wk : IntKind.i64.wrap ((k : Int) + 1) = ((k + 1 : Nat) : Int) := by rw [wI64 (by omega) (by omega)]; omega
  repeat (first | refine RQ ?_ | refine RC ?_ | refine WG 2 ?_ | refine WG 4 ?_)
  rw [wk]
  have hinit : xs.take k = (xs.take (k + 1)).filter (keepI w) := by
    rw [List.take_add_one, hq, List.filter_append]
    simp only [Option.toList_some]
    rw [List.filter_cons_of_neg (by simp [keepI]), List.filter_nil, List.append_nil, List.filter_eq_self.2]
    intro p hp
    obtain ⟨a, ha⟩ := List.mem_iff_getElem?.1 hp
    rw [List.getElem?_take] at ha
    split at ha
    · rename_i hak
      simpa [keepI] using hB a p hak ha
    · cases ha
  refine WC_wk [(6, .int .i64 ((k + 1 : Nat) : Int)), (5, .int .i64 k), (0, .slice (some ⟨g, off, none⟩) xs.length cap), (1, outF xb)] ⟨rfl, rfl, rfl, rfl, trivial⟩ ?_
  refine WC_loop (fun m σ => ∃ (i j : Nat) (row : List Int) (cur' : Array Value), m = xs.length - j ∧ i < j ∧ j ≤ xs.length ∧ row.length = xs.length ∧ row.take i = (xs.take j).filter (keepI w) ∧ (∀ a, j ≤ a → row[a]? = xs[a]?) ∧ OwnI cur' off cap row ∧ σ = ⟨[(6, .int .i64 j), (5, .int .i64 i), (0, .slice (some ⟨g, off, none⟩) xs.length cap), (1, outF xb)], [], (g, .cells cur' 3 (0, 0)) :: L⟩) (xs.length - (k + 1)) ⟨k, k + 1, xs, cur, rfl, by omega, by omega, rfl, hinit, fun _ _ => rfl, ho, rfl⟩ ?_
  rintro m σ ⟨i, j, row, cur', rfl, hij, hj, hrl, hpre, hrest, hown, rfl⟩
  by_cases hlt : j < xs.length
  · have d2 : decide ((j : Int) < ((xs.length : Nat) : Int)) = true := decide_eq_true (by omega)
    obtain ⟨p, hp⟩ : ∃ p, xs[j]? = some p := ⟨_, List.getElem?_eq_getElem hlt⟩
    have hpr : row[j]? = some p := (hrest j (Nat.le_refl _)).trans hp
    have p0 : (0 : Int) ≤ (j : Int) := by omega
    have p1 : ((j : Nat) : Int) < ((xs.length : Nat) : Int) := by omega
    have v1 : cur'[off + ((j : Nat) : Int).toNat * 1]? = some (iV p) := hown.at_i (Int.toNat_natCast j) hpr
    have q0 : (0 : Int) ≤ (i : Int) := by omega
    have q1 : ((i : Nat) : Int) < ((xs.length : Nat) : Int) := by omega
    have y2 : off + ((i : Nat) : Int).toNat * 1 < cur'.size := hown.lt (by rw [Int.toNat_natCast]; omega)
    have wj : IntKind.i64.wrap ((j : Int) + 1) = ((j + 1 : Nat) : Int) := by rw [wI64 (by omega) (by omega)]; omega
    have wi : IntKind.i64.wrap ((i : Int) + 1) = ((i + 1 : Nat) : Int) := by rw [wI64 (by omega) (by omega)]; omega
    have htk : xs.take (j + 1) = xs.take j ++ [p] := by rw [List.take_add_one, hp]; rfl
    repeat (first | refine RQ ?_ | refine RC ?_ | refine WG 5 ?_ | refine WG 7 ?_ | refine WG 8 ?_)
    refine WL_op rfl (OW_callv rfl rfl rfl rfl rfl (out_fn (x := p) (hbx.app [_])) ?_)
    rintro _ _ ⟨rfl, rfl⟩
    by_cases hpe : p = w
    · have d3 : (!(p == w)) = false := by simpa using hpe
      repeat (first | refine RQ ?_ | refine RC ?_ | refine WG 8 ?_ | refine WG 6 ?_)
      rw [wj]
      refine ⟨_, _, by omega, ⟨i, j + 1, row, cur', rfl, by omega, by omega, hrl, ?_, fun a ha => hrest a (by omega), hown, rfl⟩, ⟨rfl, rfl, rfl, rfl, trivial⟩, rfl, .refl _⟩
      rw [htk, List.filter_append, List.filter_cons_of_neg (by simpa [keepI] using hpe), List.filter_nil, List.append_nil]
      exact hpre
    · have d3 : (!(p == w)) = true := by simpa using hpe
      repeat (first | refine RQ ?_ | (refine RE ?_; try intro _) | refine RC ?_ | refine WG 8 ?_ | refine WG 9 ?_ | refine WG 10 ?_ | refine WG 6 ?_)
      rw [wi, wj]
      have hil : i < row.length := by omega
      have hput := hown.put (i := (i : Int)) (j := i) (Int.toNat_natCast i) p
      refine ⟨_, _, by omega, ⟨i + 1, j + 1, row.set i p, _, rfl, by omega, by omega, by rw [List.length_set]; exact hrl, ?_, fun a ha => ?_, hput, rfl⟩, ⟨rfl, rfl, rfl, rfl, trivial⟩, rfl, .refl _⟩
      · rw [htk, List.filter_append, List.filter_cons_of_pos (by simpa [keepI] using hpe), List.filter_nil, ← hpre, List.take_add_one, List.getElem?_set_self hil, List.take_set_of_le (Nat.le_refl _)]
        rfl
      · rw [List.getElem?_set_ne (by omega)]
        exact hrest a (by omega)
  · have d2 : decide ((j : Int) < ((xs.length : Nat) : Int)) = false := decide_eq_false (by omega)
    have hcap := Own.le ho
    have hsz := Own.fit hown
    have i0 : (0 : Int) ≤ ((i : Nat) : Int) := by omega
    have i1 : ((i : Nat) : Int) ≤ ((cap : Nat) : Int) := by omega
    obtain rfl : j = xs.length := by omega
    have hfl : (xs.filter (keepI w)) = row.take i := by rw [hpre, List.take_of_length_le (Nat.le_refl _)]
    repeat (first | refine RQ ?_ | refine RC ?_ | refine WG 5 ?_ | refine WG 11 ?_)
    refine WL_op rfl (OW_clear (sz := 1) rfl rfl rfl 0 rfl rfl (Array.all_eq_true_iff_forall_mem.1 (by kernel_rfl)) ?_ ?_)
    · rcases Nat.lt_or_ge i xs.length with g1 | g1
      · right
        have e : slOff cap ((i : Nat) : Int).toNat off 1 = off + i := by rw [Int.toNat_natCast]; unfold slOff; rw [if_neg (by omega), Nat.mul_one]
        rw [e, Int.toNat_natCast]
        omega
      · left
        rw [Int.toNat_natCast]; omega
    intro cs' hcs hkeep
    simp only [List.set_cons_zero]
    repeat (first | refine RQ ?_ | refine RC ?_ | refine WG 12 ?_)
    have hti : (row.take i).length = i := by rw [List.length_take]; omega
    have hfin : OwnI cs' off cap (row.take i) := by
      refine ⟨by simp, by rw [hti]; omega, Own.max hown, by rw [hcs]; exact hsz, fun a v ha => ?_⟩
      rw [List.getElem?_map] at ha
      have ha2 : a < i := by
        rcases Nat.lt_or_ge a i with h | h
        · exact h
        · rw [List.getElem?_eq_none (by rw [hti]; exact h)] at ha; cases ha
      rw [List.getElem?_take_of_lt ha2] at ha
      rw [hkeep (off + a) ?_]
      · exact Own.at_ hown a v (by rw [List.getElem?_map]; exact ha)
      · rw [Int.toNat_natCast]
        rcases Nat.lt_or_ge i xs.length with g1 | g1
        · left; unfold slOff; rw [if_neg (by omega)]; omega
        · right; omega
    rw [hfl]
    exact ⟨rfl, _, _, Res1 rfl (resV_tmp rfl), .refl _, _, .inr ⟨g, off, cap, cs', congrArg (fun n => Value.slice (some ⟨g, off, none⟩) n cap) hti.symm, rfl, hfin⟩, rfl⟩
end Go.Proofs.YtncgndcepoicbaaGreat
namespace Go.Proofs.YtncgndcepoicbaaGreat
open Go.RowKit
theorem VecM.nil (sz : Nat) (G : List (Nat × Obj)) : VecM sz G (.slice none 0 0) 0 [] := ⟨by simp, none, 0, rfl, Nat.le_refl _, Nat.zero_le _, .inl rfl⟩
theorem iV_one (xs : List Int) : ∀ u ∈ xs.map iV, u.oneCell' = true := by
  intro u hu
  obtain ⟨x, _, rfl⟩ := List.mem_map.1 hu
  rfl
theorem spL_one (xs : List (Int × Int)) : ∀ u ∈ spL xs, u.oneCell' = true := by
  intro u hu
  obtain ⟨x, _, hx⟩ := List.mem_flatMap.1 hu
  simp only [List.mem_cons, List.not_mem_nil, or_false] at hx
  rcases hx with rfl | rfl <;> rfl
attribute [local irreducible] Fn WC WL WR OW Qt YieldFn QW FnP FnD FnE
theorem count_fn {tb : Nat} {t : TbV} {L : List (Nat × Obj)} (h : TabIn tb L t) : Fn Tryz.prog 37 [.pointer (some ⟨tb, 0, none⟩)] L (fun v L' => v = iV t.cmds.length ∧ L' = L) := by
  obtain ⟨cs, cv, sv, av, nv, rv, lc, h1, h2, h3, h4, _⟩ := h.h
  obtain ⟨i, hi⟩ := List.mem_iff_getElem?.1 h1
  obtain ⟨_, a, cap, rfl, _⟩ := h3
  have hc := h2.c
  refine Fn_enter Tryz.func37 rfl Tryz.ntmps37 rfl fun g => ?_
  repeat (first | refine RQ ?_ | refine RC ?_ | refine WC_region ?_)
  exact ⟨rfl, _, _, Res1 rfl (resV_tmp rfl), .refl _, rfl, rfl⟩
theorem spans_fn {tb : Nat} {t : TbV} {L : List (Nat × Obj)} {b : Int} (h : TabIn tb L t) (hn : ∀ row ∈ t.spans, row.length ≤ 100000) : Fn Tryz.prog 25 [.pointer (some ⟨tb, 0, none⟩), iV b] L (fun v L' => ∃ T, L' = T ++ L ∧ Buf 76 2 v T (if 0 ≤ b ∧ b ≤ 7 then (t.spans[b.toNat]?).getD [] else []).length (spL (if 0 ≤ b ∧ b ≤ 7 then (t.spans[b.toNat]?).getD [] else []))) := by
  obtain ⟨cs, cv, sv, av, nv, rv, lc, h1, h2, h3, h4, h5, h6, _⟩ := h.h
  obtain ⟨i, hi⟩ := List.mem_iff_getElem?.1 h1
  refine Fn_enter Tryz.func25 rfl Tryz.ntmps25 rfl fun g => ?_
  by_cases hb : 0 ≤ b ∧ b ≤ 7
  · obtain ⟨row, hr, hne, hrv⟩ := h5 b.toNat (by omega)
    have hv := hrv.vec (fun _ h => h)
    obtain ⟨_, a, cap, esv, _⟩ := id hrv
    have hsb : cs[10 + b.toNat * 1]? = some (.slice a row.length cap) := by rw [Nat.mul_one, h2.s _ (by omega), esv]
    rw [esv] at hv
    have d : (!decide (0 ≤ b ∧ b ≤ 7)) = false := by rw [decide_eq_true hb]; rfl
    have q0 : (0 : Int) ≤ b := hb.1
    have q1 : b < ((8 : Nat) : Int) := by omega
    have hnr := hn row (List.mem_of_getElem? hr)
    repeat (first | refine RQ ?_ | ((first | refine WL_op rfl ?_ | refine WL_yes (h := ?_)); (first | refine OW_callP rfl (hF := within_fn) (hk := ?_) | (refine OW_call rfl (hF := cloneSpan_fn hv (spL_one _) hnr) (hk := ?_); rintro _ _ ⟨T, rfl, hT⟩))) | refine RC ?_ | refine WC_region ?_)
    refine ⟨rfl, _, _, Res1 rfl (resV_tmp rfl), .refl _, T, rfl, ?_⟩
    rw [if_pos hb, hr]
    exact hT
  · have d : (!decide (0 ≤ b ∧ b ≤ 7)) = true := by rw [decide_eq_false hb]; rfl
    repeat (first | refine RQ ?_ | ((first | refine WL_op rfl ?_ | refine WL_yes (h := ?_)); (first | refine OW_callP rfl (hF := within_fn) (hk := ?_) | (refine OW_call rfl (hF := cloneSpan_fn hv (spL_one _) hnr) (hk := ?_); rintro _ _ ⟨T, rfl, hT⟩))) | refine RC ?_ | refine WC_region ?_)
    refine ⟨rfl, _, _, Res1 rfl (resV_tmp rfl), .refl _, [], rfl, ?_⟩
    rw [if_neg hb]
    exact Buf.nil _ _
end Go.Proofs.YtncgndcepoicbaaGreat
namespace Go.Proofs.YtncgndcepoicbaaGreat
open Go.RowKit
theorem ext_of {cs : Array Value} {a n : Nat} {l : List Value} (hl : l.length = n) (hn : n ≠ 0) (h : ∀ j : Nat, j < n → cs[a + j]? = l[j]?) : cs.extract a (a + n) = l.toArray ∧ a + n ≤ cs.size := by
  have hsz : a + n ≤ cs.size := by
    have h1 := h (n - 1) (by omega)
    rw [List.getElem?_eq_getElem (by omega)] at h1
    have := (Array.getElem?_eq_some_iff.1 h1).1
    omega
  refine ⟨?_, hsz⟩
  apply Array.ext_getElem?
  intro q
  by_cases hq : q < n
  · rw [Array.getElem?_extract, if_pos (by omega), h q hq, List.getElem?_toArray]
  · rw [Array.getElem?_eq_none (by rw [Array.size_extract]; omega), Array.getElem?_eq_none (by simp; omega)]
theorem CmAt.all {G : List (Nat × Obj)} {c : CmV} {bv : Value} (h : CmAt G (cmC c bv) c) : ((cmC c bv).toArray.toList.all fun v => v.oneCell') = true := by
  obtain ⟨bv', h1, ⟨_, a, cap, rfl, _⟩, _⟩ := h
  have h2 : bv = .slice a c.bins.length cap := by simpa [cmC] using h1
  rw [h2]
  rfl
attribute [local irreducible] Fn WC WL WR OW Qt YieldFn QW FnP FnD FnE
end Go.Proofs.YtncgndcepoicbaaGreat
namespace Go.Proofs.YtncgndcepoicbaaGreat
open Go.RowKit
theorem opL_ext {cc : Array Value} {off : Nat} {nodes : List OpV} (hcc : ∀ (j : Nat) (x : Value), (opL nodes)[j]? = some x → cc[off + j]? = some x) {k : Nat} {o : OpV} (hk : nodes[k]? = some o) : cc.extract (off + k * 4) (off + k * 4 + 4) = opC o.1 o.2.1 o.2.2.1 o.2.2.2 ∧ off + k * 4 + 4 ≤ cc.size :=
  ext_of (l := [iV o.1, iV o.2.1, iV o.2.2.1, iV o.2.2.2]) rfl (by decide) fun j hj => by
    have h4 := opL_at hk
    have h3 : ([iV o.1, iV o.2.1, iV o.2.2.1, iV o.2.2.2] : List Value)[j]? = some (([iV o.1, iV o.2.1, iV o.2.2.1, iV o.2.2.2] : List Value)[j]'hj) := List.getElem?_eq_getElem _
    rw [h3, Nat.add_assoc]
    apply hcc
    rw [← h3, ← h4, List.getElem?_take_of_lt hj, List.getElem?_drop]
attribute [local irreducible] Fn WC WL WR OW Qt YieldFn QW FnP FnD FnE
end Go.Proofs.YtncgndcepoicbaaGreat
namespace Go.Proofs.YtncgndcepoicbaaGreat
open Go.RowKit
section
variable {c : Cx} {o : Oper} {Kn : St → Prop} {K : Exit → St → Prop} {s : List (Nat × Value)} {D : List Deferred} {L : List (Nat × Obj)}
theorem OW_makeMap {t d : TypeId} (ho : o.op = .makeMap t none) (hk : ∀ b, Kn ⟨(d, .map (some b)) :: s, D, (b, .map #[] 0) :: L⟩) (hdst : o.dst = some d := by exact rfl) (hd : Nat.blt d c.N = true := by exact rfl) : OW c o Kn K ⟨s, D, L⟩ := fun a w ha => by
  refine ⟨fun _ _ => trivial, ?_⟩
  have hr : (execOp a.eval o).run c.P w = .ok (.value (.map (some w.heap.size))) (w.alloc (.map #[] 0)) := by
    have := run_makeMap (P := c.P) t w
    simp [execOp, ho, this]
  rw [Oper.semAt_eq _ _ _ (by rw [ho]; intro cc h; cases h), hr]
  refine ⟨_, ?_, hk w.heap.size⟩
  rw [hdst]
  exact (ha.mem' (ha.mem.alloc _)).put (d := some d) hd _
theorem OW_make1 {t E by_ d : TypeId} {z : Value} [hu : TUnd c.P t (.slice E)] [hrow : TRow c.P E #[z] 1 by_] {x y : Operand} {k k' : IntKind} {n : Nat} (ho : o.op = .makeSlice t x y) (hn : n * by_ ≤ 140737488355328) (hnm : n ≤ maxLen) (hk : ∀ b, Kn ⟨(d, .slice (some ⟨b, 0, none⟩) n n) :: s, D, (b, .cells (List.replicate n z).toArray E) :: L⟩)
    (hx : ev s x = some (.int k (n : Nat)) := by exact rfl) (hy : ev s y = some (.int k' (n : Nat)) := by exact rfl) (hdst : o.dst = some d := by exact rfl) (hd : Nat.blt d c.N = true := by exact rfl) : OW c o Kn K ⟨s, D, L⟩ := fun a w ha => by
  refine ⟨fun _ _ => trivial, ?_⟩
  obtain ⟨ii, zz, r1, r2, r3, r4, r5, r6⟩ := hrow.h
  have hb : (ii.bytes : Int) * ((n : Nat) : Int) ≤ 281474976710656 := by
    rw [r5, Int.mul_comm]
    have : ((n * by_ : Nat) : Int) ≤ 140737488355328 := by omega
    rw [Int.natCast_mul] at this
    omega
  have hr := run_make (P := c.P) w t E ii zz hu.h r1 r2 k k' (n : Nat) (n : Nat) (by omega) (by omega) hb (by simp only [maxLen] at hnm; omega)
  simp only [Int.toNat_natCast, r4, Nat.mul_one, r3] at hr
  have e : madeCells #[z] n = (List.replicate n z).toArray := by
    apply Array.ext_getElem?
    intro j
    unfold madeCells
    rw [Array.getElem?_map, Array.getElem?_range]
    by_cases hj : j < n
    · rw [if_pos hj]; simp [hj, Nat.mod_one]
    · rw [if_neg hj]; simp; omega
  rw [e] at hr
  have hr' : (execOp a.eval o).run c.P w = .ok (.value (.slice (some ⟨w.heap.size, 0, none⟩) n n)) (w.alloc (.cells (List.replicate n z).toArray E)) := by
    simp [execOp, ho, ha.ev hx, ha.ev hy, hr]
  rw [Oper.semAt_eq _ _ _ (by rw [ho]; intro cc h; cases h), hr']
  refine ⟨_, ?_, hk w.heap.size⟩
  rw [hdst]
  exact (ha.mem' (ha.mem.alloc _)).put (d := some d) hd _
end
def rowsL (rs : List (Value × List (Nat × Obj))) : List (Nat × Obj) := rs.flatMap Prod.snd
theorem rowsL_split {rs : List (Value × List (Nat × Obj))} {k : Nat} {r : Value × List (Nat × Obj)} (h : rs[k]? = some r) : rowsL rs = rowsL (rs.take k) ++ (r.2 ++ rowsL (rs.drop (k + 1))) := by
  have e : rs = rs.take k ++ r :: rs.drop (k + 1) := by
    obtain ⟨hlt, he⟩ := List.getElem?_eq_some_iff.1 h
    rw [← he, List.getElem_cons_drop, List.take_append_drop]
  conv => lhs; rw [e]
  simp [rowsL]
theorem rowsL_set {rs : List (Value × List (Nat × Obj))} {k : Nat} {r : Value × List (Nat × Obj)} (r' : Value × List (Nat × Obj)) (h : rs[k]? = some r) : rowsL (rs.set k r') = rowsL (rs.take k) ++ (r'.2 ++ rowsL (rs.drop (k + 1))) := by
  obtain ⟨hlt, _⟩ := List.getElem?_eq_some_iff.1 h
  have h' : (rs.set k r')[k]? = some r' := by simp [hlt]
  rw [rowsL_split h', List.take_set_of_le (Nat.le_refl _), List.drop_set_of_lt (by omega)]
def Rows (E sz : Nat) (rs : List (Value × List (Nat × Obj))) (xss : List (List Value)) : Prop :=
  rs.length = xss.length ∧ ∀ (k : Nat) (r : Value × List (Nat × Obj)) (xs : List Value), rs[k]? = some r → xss[k]? = some xs → ∃ n, Buf E sz r.1 r.2 n xs
theorem Rows.set {E sz : Nat} {rs : List (Value × List (Nat × Obj))} {xss : List (List Value)} (h : Rows E sz rs xss) {v : Value} {T : List (Nat × Obj)} {n : Nat} {xs : List Value} (hb : Buf E sz v T n xs) (k : Nat) : Rows E sz (rs.set k (v, T)) (xss.set k xs) := by
  refine ⟨by simpa using h.1, fun j r ys hj hy => ?_⟩
  rw [List.getElem?_set] at hj hy
  by_cases e : k = j
  · subst e
    simp only [if_true] at hj hy
    split at hj
    · cases hj
      split at hy
      · cases hy; exact ⟨n, hb⟩
      · cases hy
    · cases hj
  · rw [if_neg e] at hj hy; exact h.2 j r ys hj hy
theorem Rows.at {E sz : Nat} {rs : List (Value × List (Nat × Obj))} {xss : List (List Value)} (h : Rows E sz rs xss) {k : Nat} {xs : List Value} (hx : xss[k]? = some xs) : ∃ v T n, rs[k]? = some (v, T) ∧ Buf E sz v T n xs := by
  have hlt := (List.getElem?_eq_some_iff.1 hx).1
  obtain ⟨r, hr⟩ : ∃ r, rs[k]? = some r := ⟨_, List.getElem?_eq_getElem (by rw [h.1]; exact hlt)⟩
  obtain ⟨n, hb⟩ := h.2 k r xs hr hx
  exact ⟨r.1, r.2, n, hr, hb⟩
theorem Rows.nils (E sz n : Nat) : Rows E sz (List.replicate n (Value.slice Option.none 0 0, [])) (List.replicate n []) := by
  refine ⟨by simp, fun k r xs hr hx => ⟨0, ?_⟩⟩
  rw [List.getElem?_replicate] at hr hx
  split at hr
  · rw [if_pos (by assumption)] at hx; cases hr; cases hx; exact Buf.nil _ _
  · cases hr
theorem rowsL_nils (n : Nat) (v : Value) : rowsL (List.replicate n (v, [])) = [] := by
  induction n with
  | zero => rfl
  | succ n ih => simp [rowsL, List.replicate_succ] at ih ⊢
end Go.Proofs.YtncgndcepoicbaaGreat
namespace Go.Proofs.YtncgndcepoicbaaGreat
open Go.RowKit
def RowsAt (G : List (Nat × Obj)) (rs : List (Value × List (Nat × Obj))) (repl : List (List CmV)) : Prop := ∃ lrs : List (List (List Value)), Rows 42 10 rs (lrs.map List.flatten) ∧ lrs.length = repl.length ∧ ∀ (k : Nat) (l : List (List Value)) (row : List CmV), lrs[k]? = some l → repl[k]? = some row → CmsAt G l row
theorem RowsAt.mem {G G' : List (Nat × Obj)} {rs : List (Value × List (Nat × Obj))} {repl : List (List CmV)} (h : RowsAt G rs repl) (hs : ∀ q ∈ G, q ∈ G') : RowsAt G' rs repl := by
  obtain ⟨lrs, h1, h2, h3⟩ := h
  exact ⟨lrs, h1, h2, fun k l row q1 q2 => (h3 k l row q1 q2).mem hs⟩
structure TabAt (tb : Nat) (S G : List (Nat × Obj)) (t : TbV) : Prop where
  h : ∃ cs cv sv av nv rb lc Tc rs, S = (tb, Obj.cells cs 110 (0, 0)) :: (Tc ++ (rb, Obj.cells (rs.map Prod.fst).toArray 91 (0, 0)) :: rowsL rs) ∧ TabC cs t.cf cv sv av nv (.slice (some ⟨rb, 0, none⟩) t.repl.length t.repl.length) ∧ Buf 42 10 cv Tc t.cmds.length lc.flatten ∧ CmsAt G lc t.cmds ∧ SpIn G sv t.spans ∧ VecM 1 G av t.act.length (t.act.map iV) ∧ VecM 4 G nv t.nodes.length (opL t.nodes) ∧ RowsAt G rs t.repl ∧ t.repl.length ≤ maxLen
theorem RowsAt.rows {G : List (Nat × Obj)} {rs : List (Value × List (Nat × Obj))} {repl : List (List CmV)} (h : RowsAt G rs repl) : rs.length = repl.length := by
  obtain ⟨lrs, ⟨h1, _⟩, h2, _⟩ := h
  rw [h1, List.length_map, h2]
theorem TabAt.tabIn {tb : Nat} {S G L : List (Nat × Obj)} {t : TbV} (h : TabAt tb S G t) (hS : ∀ q ∈ S, q ∈ L) (hG : ∀ q ∈ G, q ∈ L) : TabIn tb L t := by
  obtain ⟨cs, cv, sv, av, nv, rb, lc, Tc, rs, rfl, h1, h2, h3, h4, h5, h6, h7, hmx⟩ := h.h
  have hrl := h7.rows
  obtain ⟨lrs, r1, r2, r3⟩ := h7
  refine ⟨cs, cv, sv, av, nv, _, lc, hS _ (.head _), h1, h2.vecM.mem (fun q hq => hS _ (.tail _ (List.mem_append_left _ hq))), h3.mem hG, fun b hb => ?_, h5.mem hG, h6.mem hG, rs.map Prod.fst, ⟨by simp [hrl], _, _, rfl, Nat.le_refl _, hmx, .inr ⟨rb, 0, _, 91, (0, 0), rfl, hS _ (.tail _ (List.mem_append_right _ (.head _))), fun j x hx => by rw [Nat.zero_add]; simpa using hx⟩⟩, fun k row hk => ?_⟩
  · obtain ⟨row, q1, q2, q3⟩ := h4.2 b hb
    exact ⟨row, q1, q2, q3.mem hG⟩
  · obtain ⟨l, hl⟩ : ∃ l, lrs[k]? = some l := ⟨_, List.getElem?_eq_getElem (by rw [r2]; exact (List.getElem?_eq_some_iff.1 hk).1)⟩
    have hcm := r3 k l row hl hk
    obtain ⟨v, T, n, q1, q2⟩ := r1.at (k := k) (xs := l.flatten) (by rw [List.getElem?_map, hl]; rfl)
    have hn : n = row.length := by have := q2.len; rw [hcm.flat] at this; omega
    subst hn
    refine ⟨v, l, by rw [List.getElem?_map, q1]; rfl, q2.vecM.mem (fun q hq => hS _ (.tail _ (List.mem_append_right _ (.tail _ ?_)))), hcm.mem hG⟩
    exact List.mem_flatMap.2 ⟨(v, T), List.mem_of_getElem? q1, hq⟩
end Go.Proofs.YtncgndcepoicbaaGreat
