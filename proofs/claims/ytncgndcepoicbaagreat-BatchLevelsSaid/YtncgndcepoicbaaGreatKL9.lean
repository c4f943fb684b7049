/-
  A part of what the last of these texts needs; by itself it proves no statement.
-/
import Derived.WalkSpells
import Derived.Test.YtncgndcepoicbaaGreatKL8
namespace Go.Proofs.YtncgndcepoicbaaGreat
open Go.RowKit
abbrev outF (xb : Nat) : Value := .func (.func 69) #[] #[.pointer (some ⟨xb, 0, none⟩)]
def FirstI (xs : List Int) (w : Int) (i : Int) : Prop := (i = -1 ∧ ∀ p ∈ xs, p ≠ w) ∨ ∃ k : Nat, i = k ∧ k < xs.length ∧ (∀ (a : Nat) q, a < k → xs[a]? = some q → q ≠ w) ∧ xs[k]? = some w
def BoxAt (L : List (Nat × Obj)) (xb : Nat) (w : Int) : Prop := ∃ (i : Nat) (cc : Array Value) (E : TypeId) (fr : Nat × Nat), L[i]? = some (xb, .cells cc E fr) ∧ cc[3]? = some (iV w)
theorem BoxAt.app {L : List (Nat × Obj)} {xb : Nat} {w : Int} (h : BoxAt L xb w) (A : List (Nat × Obj)) : BoxAt (A ++ L) xb w := by
  obtain ⟨i, cc, E, fr, h1, h2⟩ := h
  exact ⟨A.length + i, cc, E, fr, by rw [List.getElem?_append_right (by omega), show A.length + i - A.length = i by omega]; exact h1, h2⟩
attribute [local irreducible] Fn WC WL WR OW Qt YieldFn QW FnP FnD FnE
theorem out_fn {x w : Int} {xb : Nat} {L : List (Nat × Obj)} (h : BoxAt L xb w) : Fn Tryz.prog 69 [iV x, .pointer (some ⟨xb, 0, none⟩)] L (fun v L' => v = .bool (x == w) ∧ L' = L) := by
  obtain ⟨i, cc, E, fr, h1, h2⟩ := h
  refine Fn_enter Tryz.func69 rfl Tryz.ntmps69 rfl fun g => ?_
  repeat (first | refine RQ ?_ | refine RC ?_ | refine WC_region ?_)
  exact ⟨rfl, _, _, Res1 rfl (resV_tmp rfl), .refl _, rfl, rfl⟩
set_option maxHeartbeats 2000000 in
theorem indexI_fn {v : Value} {xs : List Int} {w : Int} {xb : Nat} (hn : xs.length ≤ 100000) {L : List (Nat × Obj)} (hv : Vec 1 L v xs.length (xs.map iV)) (hbx : BoxAt L xb w) : Fn Tryz.prog 122 [v, outF xb] L (fun r L' => (∃ i, FirstI xs w i ∧ r = .int .i64 i) ∧ L' = L) := by
  obtain ⟨_, a1, cap1, rfl, _, _, h1⟩ := hv
  refine Fn_enter Tryz.func122 rfl Tryz.ntmps122 rfl fun gw => ?_
  repeat (first | refine RQ ?_ | refine RC ?_ | refine WG 0 ?_ | refine WG 1 ?_)
  refine WC_wk [(8, .int .i64 0), (7, .int .i64 (xs.length : Nat)), (0, .slice a1 xs.length cap1), (1, outF xb)] ⟨rfl, rfl, rfl, rfl, trivial⟩ ?_
  refine WC_loop (fun m σ => ∃ i : Nat, m = xs.length - i ∧ i ≤ xs.length ∧ (∀ (a : Nat) q, a < i → xs[a]? = some q → q ≠ w) ∧ σ = ⟨[(8, .int .i64 i), (7, .int .i64 (xs.length : Nat)), (0, .slice a1 xs.length cap1), (1, outF xb)], [], L⟩) xs.length ⟨0, by omega, by omega, fun a q h => by omega, rfl⟩ ?_
  rintro m σ ⟨i, rfl, hi, hB, rfl⟩
  by_cases hlt : i < xs.length
  · have d2 : decide ((i : Int) < ((xs.length : Nat) : Int)) = true := decide_eq_true (by omega)
    obtain ⟨p, hp⟩ : ∃ p, xs[i]? = some p := ⟨_, List.getElem?_eq_getElem hlt⟩
    obtain ⟨g1, o1, cu1, E1, fr1, i1, rfl, hi1, hc1⟩ := h1.resolve_left (by omega)
    have p0 : (0 : Int) ≤ (i : Int) := by omega
    have p1 : ((i : Nat) : Int) < ((xs.length : Nat) : Int) := by omega
    have v1 : cu1[o1 + ((i : Nat) : Int).toNat * 1]? = some (iV p) := by rw [Int.toNat_natCast, Nat.mul_one]; exact hc1 i _ (by rw [List.getElem?_map, hp]; rfl)
    have ww : IntKind.i64.wrap ((i : Int) + 1) = ((i + 1 : Nat) : Int) := by rw [wI64 (by omega) (by omega)]; omega
    repeat (first | refine RQ ?_ | refine RC ?_ | refine WG 2 ?_ | refine WG 3 ?_ | refine WG 4 ?_)
    refine WL_op rfl (OW_callv rfl rfl rfl rfl rfl (out_fn (x := p) hbx) ?_)
    rintro _ _ ⟨rfl, rfl⟩
    by_cases hpe : p = w
    · have d3 : (p == w) = true := by simpa using hpe
      repeat (first | refine RQ ?_ | refine RC ?_ | refine WG 4 ?_ | refine WG 5 ?_)
      exact ⟨rfl, _, _, Res1 rfl (resV_tmp rfl), .refl _, ⟨_, .inr ⟨i, rfl, hlt, hB, by rw [hp, hpe]⟩, rfl⟩, rfl⟩
    · have d3 : (p == w) = false := by simpa using hpe
      repeat (first | refine RQ ?_ | refine RC ?_ | refine WG 4 ?_ | refine WG 6 ?_)
      rw [ww]
      refine ⟨_, _, by omega, ⟨i + 1, rfl, by omega, fun a q ha hq => ?_, rfl⟩, ⟨rfl, rfl, rfl, rfl, trivial⟩, rfl, .refl _⟩
      rcases Nat.lt_or_ge a i with g | g
      · exact hB a q g hq
      · obtain rfl : a = i := by omega
        rw [hp] at hq
        cases hq
        exact hpe
  · have d2 : decide ((i : Int) < ((xs.length : Nat) : Int)) = false := decide_eq_false (by omega)
    repeat (first | refine RQ ?_ | refine RC ?_ | refine WG 2 ?_ | refine WG 7 ?_)
    refine ⟨rfl, _, _, Res1 rfl (resV_tmp rfl), .refl _, ⟨_, .inl ⟨rfl, fun p hp => ?_⟩, rfl⟩, rfl⟩
    obtain ⟨a, ha⟩ := List.mem_iff_getElem?.1 hp
    exact hB a p (Nat.lt_of_lt_of_le (List.getElem?_eq_some_iff.1 ha).1 (by omega)) ha
abbrev keepI (w : Int) (p : Int) : Bool := !(p == w)
set_option maxHeartbeats 4000000 in
theorem deleteI_fn {v : Value} {T : List (Nat × Obj)} {xs : List Int} {w : Int} {xb : Nat} (hn : xs.length ≤ 100000) (hb : BufI v T xs) {L : List (Nat × Obj)} (hbx : BoxAt L xb w) : Fn Tryz.prog 68 [v, outF xb] (T ++ L) (fun r L' => ∃ T', BufI r T' (xs.filter (keepI w)) ∧ L' = T' ++ L) := by
  refine Fn_enter Tryz.func68 rfl Tryz.ntmps68 rfl fun gw => ?_
  repeat (first | refine RQ ?_ | (refine WL_op rfl ?_; (first | (refine OW_call rfl (hF := indexI_fn hn (Buf.vec0 hb L) (hbx.app T)) (hk := ?_); rintro _ _ ⟨⟨i0, hF, rfl⟩, rfl⟩))) | refine RC ?_ | refine WG 0 ?_ | refine WG 1 ?_ | refine WG 2 ?_)
  rcases hF with ⟨rfl, hall⟩ | ⟨k, rfl, hk, hB, hq⟩
  · have dI : ((-1 : Int) == -1) = true := rfl
    repeat (first | refine RQ ?_ | refine RC ?_ | refine WG 2 ?_ | refine WG 3 ?_)
    refine ⟨rfl, _, T ++ L, Res1 rfl (resV_tmp rfl), .refl _, T, ?_, rfl⟩
    rw [List.filter_eq_self.2 (fun p hp => by simpa [keepI] using hall p hp)]
    exact hb
  obtain ⟨g, off, cap, cur, rfl, rfl, ho⟩ := (id hb : Buf _ _ _ _ _ _).resolve_left (fun h => by have := h.2.1; omega)
  have dI : (((k : Nat) : Int) == -1) = false := by simp
  have wk : IntKind.i64.wrap ((k : Int) + 1) = ((k + 1 : Nat) : Int) := by rw [wI64 (by omega) (by omega)]; omega
  repeat (first | refine RQ ?_ | refine RC ?_ | refine WG 2 ?_ | refine WG 4 ?_)
  rw [wk]
  have hinit : xs.take k = (xs.take (k + 1)).filter (keepI w) := by
    rw [List.take_add_one, hq, List.filter_append]
    simp only [Option.toList_some]
    rw [List.filter_cons_of_neg (by simp [keepI]), List.filter_nil, List.append_nil, List.filter_eq_self.2]
    intro p hp
    obtain ⟨a, ha⟩ := List.mem_iff_getElem?.1 hp
    rw [List.getElem?_take] at ha
    split at ha
    · rename_i hak
      simpa [keepI] using hB a p hak ha
    · cases ha
  refine WC_wk [(6, .int .i64 ((k + 1 : Nat) : Int)), (5, .int .i64 k), (0, .slice (some ⟨g, off, none⟩) xs.length cap), (1, outF xb)] ⟨rfl, rfl, rfl, rfl, trivial⟩ ?_
  refine WC_loop (fun m σ => ∃ (i j : Nat) (row : List Int) (cur' : Array Value), m = xs.length - j ∧ i < j ∧ j ≤ xs.length ∧ row.length = xs.length ∧ row.take i = (xs.take j).filter (keepI w) ∧ (∀ a, j ≤ a → row[a]? = xs[a]?) ∧ OwnI cur' off cap row ∧ σ = ⟨[(6, .int .i64 j), (5, .int .i64 i), (0, .slice (some ⟨g, off, none⟩) xs.length cap), (1, outF xb)], [], (g, .cells cur' 3 (0, 0)) :: L⟩) (xs.length - (k + 1)) ⟨k, k + 1, xs, cur, rfl, by omega, by omega, rfl, hinit, fun _ _ => rfl, ho, rfl⟩ ?_
  rintro m σ ⟨i, j, row, cur', rfl, hij, hj, hrl, hpre, hrest, hown, rfl⟩
  by_cases hlt : j < xs.length
  · have d2 : decide ((j : Int) < ((xs.length : Nat) : Int)) = true := decide_eq_true (by omega)
    obtain ⟨p, hp⟩ : ∃ p, xs[j]? = some p := ⟨_, List.getElem?_eq_getElem hlt⟩
    have hpr : row[j]? = some p := (hrest j (Nat.le_refl _)).trans hp
    have p0 : (0 : Int) ≤ (j : Int) := by omega
    have p1 : ((j : Nat) : Int) < ((xs.length : Nat) : Int) := by omega
    have v1 : cur'[off + ((j : Nat) : Int).toNat * 1]? = some (iV p) := hown.at_i (Int.toNat_natCast j) hpr
    have q0 : (0 : Int) ≤ (i : Int) := by omega
    have q1 : ((i : Nat) : Int) < ((xs.length : Nat) : Int) := by omega
    have y2 : off + ((i : Nat) : Int).toNat * 1 < cur'.size := hown.lt (by rw [Int.toNat_natCast]; omega)
    have wj : IntKind.i64.wrap ((j : Int) + 1) = ((j + 1 : Nat) : Int) := by rw [wI64 (by omega) (by omega)]; omega
    have wi : IntKind.i64.wrap ((i : Int) + 1) = ((i + 1 : Nat) : Int) := by rw [wI64 (by omega) (by omega)]; omega
    have htk : xs.take (j + 1) = xs.take j ++ [p] := by rw [List.take_add_one, hp]; rfl
    repeat (first | refine RQ ?_ | refine RC ?_ | refine WG 5 ?_ | refine WG 7 ?_ | refine WG 8 ?_)
    refine WL_op rfl (OW_callv rfl rfl rfl rfl rfl (out_fn (x := p) (hbx.app [_])) ?_)
    rintro _ _ ⟨rfl, rfl⟩
    by_cases hpe : p = w
    · have d3 : (!(p == w)) = false := by simpa using hpe
      repeat (first | refine RQ ?_ | refine RC ?_ | refine WG 8 ?_ | refine WG 6 ?_)
      rw [wj]
      refine ⟨_, _, by omega, ⟨i, j + 1, row, cur', rfl, by omega, by omega, hrl, ?_, fun a ha => hrest a (by omega), hown, rfl⟩, ⟨rfl, rfl, rfl, rfl, trivial⟩, rfl, .refl _⟩
      rw [htk, List.filter_append, List.filter_cons_of_neg (by simpa [keepI] using hpe), List.filter_nil, List.append_nil]
      exact hpre
    · have d3 : (!(p == w)) = true := by simpa using hpe
      repeat (first | refine RQ ?_ | (refine RE ?_; try intro _) | refine RC ?_ | refine WG 8 ?_ | refine WG 9 ?_ | refine WG 10 ?_ | refine WG 6 ?_)
      rw [wi, wj]
      have hil : i < row.length := by omega
      have hput := hown.put (i := (i : Int)) (j := i) (Int.toNat_natCast i) p
      refine ⟨_, _, by omega, ⟨i + 1, j + 1, row.set i p, _, rfl, by omega, by omega, by rw [List.length_set]; exact hrl, ?_, fun a ha => ?_, hput, rfl⟩, ⟨rfl, rfl, rfl, rfl, trivial⟩, rfl, .refl _⟩
      · rw [htk, List.filter_append, List.filter_cons_of_pos (by simpa [keepI] using hpe), List.filter_nil, ← hpre, List.take_add_one, List.getElem?_set_self hil, List.take_set_of_le (Nat.le_refl _)]
        rfl
      · rw [List.getElem?_set_ne (by omega)]
        exact hrest a (by omega)
  · have d2 : decide ((j : Int) < ((xs.length : Nat) : Int)) = false := decide_eq_false (by omega)
    have hcap := Own.le ho
    have hsz := Own.fit hown
    have i0 : (0 : Int) ≤ ((i : Nat) : Int) := by omega
    have i1 : ((i : Nat) : Int) ≤ ((cap : Nat) : Int) := by omega
    obtain rfl : j = xs.length := by omega
    have hfl : (xs.filter (keepI w)) = row.take i := by rw [hpre, List.take_of_length_le (Nat.le_refl _)]
    repeat (first | refine RQ ?_ | refine RC ?_ | refine WG 5 ?_ | refine WG 11 ?_)
    refine WL_op rfl (OW_clear (sz := 1) rfl rfl rfl 0 rfl rfl (Array.all_eq_true_iff_forall_mem.1 (by kernel_rfl)) ?_ ?_)
    · rcases Nat.lt_or_ge i xs.length with g1 | g1
      · right
        have e : slOff cap ((i : Nat) : Int).toNat off 1 = off + i := by rw [Int.toNat_natCast]; unfold slOff; rw [if_neg (by omega), Nat.mul_one]
        rw [e, Int.toNat_natCast]
        omega
      · left
        rw [Int.toNat_natCast]; omega
    intro cs' hcs hkeep
    simp only [List.set_cons_zero]
    repeat (first | refine RQ ?_ | refine RC ?_ | refine WG 12 ?_)
    have hti : (row.take i).length = i := by rw [List.length_take]; omega
    have hfin : OwnI cs' off cap (row.take i) := by
      refine ⟨by simp, by rw [hti]; omega, Own.max hown, by rw [hcs]; exact hsz, fun a v ha => ?_⟩
      rw [List.getElem?_map] at ha
      have ha2 : a < i := by
        rcases Nat.lt_or_ge a i with h | h
        · exact h
        · rw [List.getElem?_eq_none (by rw [hti]; exact h)] at ha; cases ha
      rw [List.getElem?_take_of_lt ha2] at ha
      rw [hkeep (off + a) ?_]
      · exact Own.at_ hown a v (by rw [List.getElem?_map]; exact ha)
      · rw [Int.toNat_natCast]
        rcases Nat.lt_or_ge i xs.length with g1 | g1
        · left; unfold slOff; rw [if_neg (by omega)]; omega
        · right; omega
    rw [hfl]
    exact ⟨rfl, _, _, Res1 rfl (resV_tmp rfl), .refl _, _, .inr ⟨g, off, cap, cs', congrArg (fun n => Value.slice (some ⟨g, off, none⟩) n cap) hti.symm, rfl, hfin⟩, rfl⟩
end Go.Proofs.YtncgndcepoicbaaGreat
namespace Go.Proofs.YtncgndcepoicbaaGreat
open Go.RowKit
theorem VecM.nil (sz : Nat) (G : List (Nat × Obj)) : VecM sz G (.slice none 0 0) 0 [] := ⟨by simp, none, 0, rfl, Nat.le_refl _, Nat.zero_le _, .inl rfl⟩
theorem iV_one (xs : List Int) : ∀ u ∈ xs.map iV, u.oneCell' = true := by
  intro u hu
  obtain ⟨x, _, rfl⟩ := List.mem_map.1 hu
  rfl
attribute [local irreducible] Fn WC WL WR OW Qt YieldFn QW FnP FnD FnE
theorem count_fn {tb : Nat} {t : TbV} {L : List (Nat × Obj)} (h : TabIn tb L t) : Fn Tryz.prog 37 [.pointer (some ⟨tb, 0, none⟩)] L (fun v L' => v = iV t.cmds.length ∧ L' = L) := by
  obtain ⟨cs, cv, sv, av, nv, rv, lc, h1, h2, h3, h4, _⟩ := h.h
  obtain ⟨i, hi⟩ := List.mem_iff_getElem?.1 h1
  obtain ⟨_, a, cap, rfl, _⟩ := h3
  have hc := h2.c
  refine Fn_enter Tryz.func37 rfl Tryz.ntmps37 rfl fun g => ?_
  repeat (first | refine RQ ?_ | refine RC ?_ | refine WC_region ?_)
  exact ⟨rfl, _, _, Res1 rfl (resV_tmp rfl), .refl _, rfl, rfl⟩
theorem active_fn {tb : Nat} {t : TbV} {L : List (Nat × Obj)} (h : TabIn tb L t) (hn : t.act.length ≤ 100000) : Fn Tryz.prog 33 [.pointer (some ⟨tb, 0, none⟩)] L (fun v L' => ∃ T, L' = T ++ L ∧ BufI v T t.act) := by
  obtain ⟨cs, cv, sv, av, nv, rv, lc, h1, h2, h3, h4, h5, h6, _⟩ := h.h
  obtain ⟨i, hi⟩ := List.mem_iff_getElem?.1 h1
  have hv := h6.vec (fun _ h => h)
  obtain ⟨_, a, cap, rfl, _⟩ := id h6
  have hc := h2.a
  refine Fn_enter Tryz.func33 rfl Tryz.ntmps33 rfl fun g => ?_
  repeat (first | refine RQ ?_ | (refine WL_op rfl ?_; (first | (refine OW_call rfl (hF := cloneInt_fn hv (iV_one _) hn) (hk := ?_); rintro _ _ ⟨T, rfl, hT⟩))) | refine RC ?_ | refine WC_region ?_)
  exact ⟨rfl, _, _, Res1 rfl (resV_tmp rfl), .refl _, T, rfl, hT⟩
end Go.Proofs.YtncgndcepoicbaaGreat
namespace Go.Proofs.YtncgndcepoicbaaGreat
open Go.RowKit
theorem ext_of {cs : Array Value} {a n : Nat} {l : List Value} (hl : l.length = n) (hn : n ≠ 0) (h : ∀ j : Nat, j < n → cs[a + j]? = l[j]?) : cs.extract a (a + n) = l.toArray ∧ a + n ≤ cs.size := by
  have hsz : a + n ≤ cs.size := by
    have h1 := h (n - 1) (by omega)
    rw [List.getElem?_eq_getElem (by omega)] at h1
    have := (Array.getElem?_eq_some_iff.1 h1).1
    omega
  refine ⟨?_, hsz⟩
  apply Array.ext_getElem?
  intro q
  by_cases hq : q < n
  · rw [Array.getElem?_extract, if_pos (by omega), h q hq, List.getElem?_toArray]
  · rw [Array.getElem?_eq_none (by rw [Array.size_extract]; omega), Array.getElem?_eq_none (by simp; omega)]
theorem VecM.cmd {L : List (Nat × Obj)} {off : Nat} {cs : Array Value} {row : List CmV} {lr : List (List Value)} (hx : ∀ (j : Nat) (x : Value), lr.flatten[j]? = some x → cs[off + j]? = some x) (hc : CmsAt L lr row) {k : Nat} {c : CmV} (hk : row[k]? = some c) : ∃ bv, CmAt L (cmC c bv) c ∧ cs.extract (off + k * 10) (off + k * 10 + 10) = (cmC c bv).toArray ∧ off + k * 10 + 10 ≤ cs.size := by
  obtain ⟨l, hcm, hl⟩ := hc.get hk
  obtain ⟨bv, rfl, h2⟩ := id hcm
  refine ⟨bv, hcm, ext_of rfl (by decide) fun j hj => ?_⟩
  have h1 := hl j hj
  have h3 : (cmC c bv)[j]? = some ((cmC c bv)[j]'(by show j < 10; exact hj)) := List.getElem?_eq_getElem _
  rw [h3] at h1 ⊢
  rw [Nat.add_assoc]
  exact hx _ _ h1
theorem CmAt.all {G : List (Nat × Obj)} {c : CmV} {bv : Value} (h : CmAt G (cmC c bv) c) : ((cmC c bv).toArray.toList.all fun v => v.oneCell') = true := by
  obtain ⟨bv', h1, ⟨_, a, cap, rfl, _⟩, _⟩ := h
  have h2 : bv = .slice a c.bins.length cap := by simpa [cmC] using h1
  rw [h2]
  rfl
attribute [local irreducible] Fn WC WL WR OW Qt YieldFn QW FnP FnD FnE
end Go.Proofs.YtncgndcepoicbaaGreat
namespace Go.Proofs.YtncgndcepoicbaaGreat
open Go.RowKit
theorem opL_ext {cc : Array Value} {off : Nat} {nodes : List OpV} (hcc : ∀ (j : Nat) (x : Value), (opL nodes)[j]? = some x → cc[off + j]? = some x) {k : Nat} {o : OpV} (hk : nodes[k]? = some o) : cc.extract (off + k * 4) (off + k * 4 + 4) = opC o.1 o.2.1 o.2.2.1 o.2.2.2 ∧ off + k * 4 + 4 ≤ cc.size :=
  ext_of (l := [iV o.1, iV o.2.1, iV o.2.2.1, iV o.2.2.2]) rfl (by decide) fun j hj => by
    have h4 := opL_at hk
    have h3 : ([iV o.1, iV o.2.1, iV o.2.2.1, iV o.2.2.2] : List Value)[j]? = some (([iV o.1, iV o.2.1, iV o.2.2.1, iV o.2.2.2] : List Value)[j]'hj) := List.getElem?_eq_getElem _
    rw [h3, Nat.add_assoc]
    apply hcc
    rw [← h3, ← h4, List.getElem?_take_of_lt hj, List.getElem?_drop]
def behF (now : Int) : List (Int × Int) → Int
  | [] => -1
  | p :: r => if p.1 > now then 0 else (if behF now r < 0 then -1 else behF now r + 1)
theorem behF_ge (now : Int) : ∀ l, -1 ≤ behF now l
  | [] => by show (-1 : Int) ≤ -1; omega
  | p :: r => by
    have := behF_ge now r
    unfold behF
    split
    · omega
    · split <;> omega
theorem behF_none {now : Int} : ∀ {l : List (Int × Int)}, (∀ (a : Nat) q, l[a]? = some q → ¬ q.1 > now) → behF now l = -1
  | [], _ => rfl
  | p :: r, h => by
    have h0 := h 0 p rfl
    have ih := behF_none (l := r) fun a q hq => h (a + 1) q hq
    rw [behF, if_neg h0, ih]
    rfl
theorem behF_at {now : Int} : ∀ {l : List (Int × Int)} {k : Nat} {p : Int × Int}, (∀ (a : Nat) q, a < k → l[a]? = some q → ¬ q.1 > now) → l[k]? = some p → p.1 > now → behF now l = k
  | [], k, p, _, h, _ => by simp at h
  | q :: r, 0, p, _, h, hp => by
    obtain rfl : q = p := by simpa using h
    rw [behF, if_pos hp]; rfl
  | q :: r, k + 1, p, h, hk, hp => by
    have h0 := h 0 q (by omega) rfl
    have ih := behF_at (l := r) (k := k) (p := p) (fun a u ha hu => h (a + 1) u (by omega) hu) (by simpa using hk) hp
    rw [behF, if_neg h0, ih, if_neg (by omega)]
    omega
def spanF (t : TbV) (b now : Int) : Int := if 0 ≤ b ∧ b ≤ 7 then (let row := (t.spans[b.toNat]?).getD []
  let i := behF now row
  let j := if i < 0 then (row.length : Int) else i
  if j - 1 > 0 then j - 1 else 0) else -1
def ownF (t : TbV) (b now : Int) : Int := if spanF t b now < 0 then 0 else (((((t.spans[b.toNat]?).getD [])[(spanF t b now).toNat]?).getD (0, 0)).2)
theorem spL_ext {cc : Array Value} {off : Nat} {row : List (Int × Int)} (hcc : ∀ (j : Nat) (x : Value), (spL row)[j]? = some x → cc[off + j]? = some x) {k : Nat} {q : Int × Int} (hk : row[k]? = some q) : cc.extract (off + k * 2) (off + k * 2 + 2) = #[iV q.1, iV q.2] ∧ off + k * 2 + 2 ≤ cc.size :=
  ext_of (l := [iV q.1, iV q.2]) rfl (by decide) fun j hj => by
    obtain ⟨h1, h2⟩ := spL_at hk
    have hc : j = 0 ∨ j = 1 := by omega
    rcases hc with rfl | rfl
    · exact hcc _ _ h1
    · rw [Nat.add_assoc]; exact hcc _ _ h2
def NowAt (L : List (Nat × Obj)) (xb : Nat) (now : Int) : Prop := ∃ (i : Nat) (E : TypeId), L[i]? = some (xb, .cells #[iV now] E (0, 0))
abbrev behV (xb : Nat) : Value := .func (.func 123) #[] #[.pointer (some ⟨xb, 0, none⟩)]
attribute [local irreducible] Fn WC WL WR OW Qt YieldFn QW FnP FnD FnE
theorem beh_fn {p : Int × Int} {xb : Nat} {now : Int} {L : List (Nat × Obj)} (h : NowAt L xb now) : Fn Tryz.prog 123 [.agg #[iV p.1, iV p.2], .pointer (some ⟨xb, 0, none⟩)] L (fun v L' => v = .bool (decide (p.1 > now)) ∧ L' = L) := by
  obtain ⟨i, E, hi⟩ := h
  refine Fn_enter Tryz.func123 rfl Tryz.ntmps123 rfl fun g => ?_
  repeat (first | refine RQ ?_ | (refine WL_Q ?_; (first | refine QW_of (Qt_ldX rfl (hn := by with_reducible assumption)) ?_)) | (refine RE ?_; try intro _) | refine RC ?_ | refine WG 0 ?_)
  rename_i x2
  have hi' : ((x2, Obj.cells #[iV p.1, iV p.2] 76 (0, 0)) :: L)[i + 1]? = some (xb, .cells #[iV now] E (0, 0)) := hi
  repeat (first | refine RQ ?_ | (refine WL_Q ?_; (first | refine QW_of (Qt_ldX rfl (hn := by with_reducible assumption)) ?_)) | refine RC ?_ | refine WG 1 ?_)
  exact ⟨rfl, _, _, Res1 rfl (resV_tmp rfl), .cons _ (.refl _), rfl, rfl⟩
set_option maxHeartbeats 2000000 in
theorem indexSp_fn {v : Value} {row : List (Int × Int)} {now : Int} {xb : Nat} (hn : row.length ≤ 100000) {L : List (Nat × Obj)} (hv : VecM 2 L v row.length (spL row)) (hbx : NowAt L xb now) : Fn Tryz.prog 124 [v, behV xb] L (fun r L' => r = iV (behF now row) ∧ L' = L) := by
  obtain ⟨_, a1, cap1, rfl, _, _, _⟩ := id hv
  refine Fn_enter Tryz.func124 rfl Tryz.ntmps124 rfl fun gw => ?_
  repeat (first | refine RQ ?_ | (refine WL_Q ?_; (first | refine QW_of (Qt_ldX rfl (hn := by with_reducible assumption)) ?_)) | refine RC ?_ | refine WG 0 ?_ | refine WG 1 ?_)
  refine WC_wk [(8, .int .i64 0), (7, .int .i64 (row.length : Nat)), (0, .slice a1 row.length cap1), (1, behV xb)] ⟨rfl, rfl, rfl, rfl, trivial⟩ ?_
  refine WC_loop (fun m σ => ∃ i : Nat, m = row.length - i ∧ i ≤ row.length ∧ (∀ (a : Nat) q, a < i → row[a]? = some q → ¬ q.1 > now) ∧ σ = ⟨[(8, .int .i64 i), (7, .int .i64 (row.length : Nat)), (0, .slice a1 row.length cap1), (1, behV xb)], [], L⟩) row.length ⟨0, by omega, by omega, fun a q h => by omega, rfl⟩ ?_
  rintro m σ ⟨i, rfl, hi, hB, rfl⟩
  by_cases hlt : i < row.length
  · have d2 : decide ((i : Int) < ((row.length : Nat) : Int)) = true := decide_eq_true (by omega)
    obtain ⟨p, hp⟩ : ∃ p, row[i]? = some p := ⟨_, List.getElem?_eq_getElem hlt⟩
    obtain ⟨rb, ro, rc, rcs, rE, rfr, ri, e, _, _, hri, hrx⟩ := hv.cell (by omega)
    cases e
    obtain ⟨hx1, hx2⟩ := spL_ext hrx hp
    have p0 : (0 : Int) ≤ (i : Int) := by omega
    have p1 : ((i : Nat) : Int) < ((row.length : Nat) : Int) := by omega
    have y1 : ro + ((i : Nat) : Int).toNat * 2 + 2 ≤ rcs.size := by rw [Int.toNat_natCast]; exact hx2
    have v1 : rcs.extract (ro + ((i : Nat) : Int).toNat * 2) (ro + ((i : Nat) : Int).toNat * 2 + 2) = #[iV p.1, iV p.2] := by rw [Int.toNat_natCast]; exact hx1
    have ww : IntKind.i64.wrap ((i : Int) + 1) = ((i + 1 : Nat) : Int) := by rw [wI64 (by omega) (by omega)]; omega
    repeat (first | refine RQ ?_ | (refine WL_Q ?_; (first | refine QW_of (Qt_ldX rfl (hn := by with_reducible assumption)) ?_)) | refine RC ?_ | refine WG 2 ?_ | refine WG 3 ?_ | refine WG 4 ?_)
    try rw [v1]
    refine WL_op rfl (OW_callv rfl rfl rfl rfl rfl (beh_fn (p := p) hbx) ?_)
    rintro _ _ ⟨rfl, rfl⟩
    by_cases hpe : p.1 > now
    · have d3 : decide (p.1 > now) = true := decide_eq_true hpe
      repeat (first | refine RQ ?_ | (refine WL_Q ?_; (first | refine QW_of (Qt_ldX rfl (hn := by with_reducible assumption)) ?_)) | refine RC ?_ | refine WG 4 ?_ | refine WG 5 ?_)
      exact ⟨rfl, _, _, Res1 rfl (resV_tmp rfl), .refl _, by rw [behF_at hB hp hpe], rfl⟩
    · have d3 : decide (p.1 > now) = false := decide_eq_false hpe
      repeat (first | refine RQ ?_ | (refine WL_Q ?_; (first | refine QW_of (Qt_ldX rfl (hn := by with_reducible assumption)) ?_)) | refine RC ?_ | refine WG 4 ?_ | refine WG 6 ?_)
      rw [ww]
      refine ⟨_, _, by omega, ⟨i + 1, rfl, by omega, fun a q ha hq => ?_, rfl⟩, ⟨rfl, rfl, rfl, rfl, trivial⟩, rfl, .refl _⟩
      rcases Nat.lt_or_ge a i with g | g
      · exact hB a q g hq
      · obtain rfl : a = i := by omega
        rw [hp] at hq
        cases hq
        exact hpe
  · have d2 : decide ((i : Int) < ((row.length : Nat) : Int)) = false := decide_eq_false (by omega)
    repeat (first | refine RQ ?_ | (refine WL_Q ?_; (first | refine QW_of (Qt_ldX rfl (hn := by with_reducible assumption)) ?_)) | refine RC ?_ | refine WG 2 ?_ | refine WG 7 ?_)
    refine ⟨rfl, _, _, Res1 rfl (resV_tmp rfl), .refl _, ?_, rfl⟩
    rw [behF_none fun a q hq => hB a q (Nat.lt_of_lt_of_le (List.getElem?_eq_some_iff.1 hq).1 (by omega)) hq]
set_option maxHeartbeats 4000000 in
theorem span_fn {tb : Nat} {t : TbV} {b now : Int} {L : List (Nat × Obj)} (h : TabIn tb L t) (hn : ∀ row ∈ t.spans, row.length ≤ 100000) : Fn Tryz.prog 73 [.pointer (some ⟨tb, 0, none⟩), iV b, iV now] L (fun v L' => v = iV (spanF t b now) ∧ L' = L) := by
  obtain ⟨cs, cv, sv, av, nv, rv, lc, h1, h2, h3, h4, h5, h6, _⟩ := h.h
  obtain ⟨i, hi⟩ := List.mem_iff_getElem?.1 h1
  refine Fn_enter Tryz.func73 rfl Tryz.ntmps73 rfl fun g => ?_
  repeat (first | refine RQ ?_ | (refine WL_Q ?_; (first | refine QW_of (Qt_ldX rfl (hn := by with_reducible assumption)) ?_)) | (refine RE ?_; try intro _) | refine RC ?_ | refine WG 0 ?_)
  rename_i x5
  have hs : ∀ q ∈ L, q ∈ (x5, Obj.cells #[iV now] 2 (0, 0)) :: L := fun q hq => List.mem_cons_of_mem _ hq
  have hi' : ((x5, Obj.cells #[iV now] 2 (0, 0)) :: L)[i + 1]? = some (tb, .cells cs 110 (0, 0)) := hi
  by_cases hb : 0 ≤ b ∧ b ≤ 7
  rotate_left
  · have d : (!decide (0 ≤ b ∧ b ≤ 7)) = true := by rw [decide_eq_false hb]; rfl
    repeat (first | refine RQ ?_ | ((first | refine WL_Q ?_ | refine WL_Y ?_); (first | refine QW_of (Qt_ldX rfl (hn := by with_reducible assumption)) ?_)) | ((first | refine WL_op rfl ?_ | refine WL_yes (h := ?_)); (first | refine OW_callP rfl (hF := within_fn) (hk := ?_))) | refine RC ?_ | refine WG 1 ?_ | refine WG 2 ?_)
    exact ⟨rfl, _, _, Res1 rfl (resV_tmp rfl), .cons _ (.refl _), by rw [spanF, if_neg hb], rfl⟩
  obtain ⟨row, hr, hne, hrv⟩ := h5 b.toNat (by omega)
  have hrv' := hrv.mem hs
  obtain ⟨_, a, cap, esv, _⟩ := id hrv
  have hsb : cs[10 + b.toNat * 1]? = some (.slice a row.length cap) := by rw [Nat.mul_one, h2.s _ (by omega), esv]
  rw [esv] at hrv'
  have d : (!decide (0 ≤ b ∧ b ≤ 7)) = false := by rw [decide_eq_true hb]; rfl
  have q0 : (0 : Int) ≤ b := hb.1
  have q1 : b < ((8 : Nat) : Int) := by omega
  have hnr := hn row (List.mem_of_getElem? hr)
  obtain ⟨j, hj⟩ : ∃ j, j = behF now row := ⟨_, rfl⟩
  have hjge := behF_ge now row
  have hjle : behF now row ≤ row.length := by
    have : ∀ l : List (Int × Int), behF now l ≤ l.length := fun l => by
      induction l with
      | nil => show (-1 : Int) ≤ 0; omega
      | cons p r ih => unfold behF; split <;> (try split) <;> simp only [List.length_cons] <;> omega
    exact this row
  repeat (first | refine RQ ?_ | ((first | refine WL_Q ?_ | refine WL_Y ?_); (first | refine QW_of (Qt_ldX rfl (hn := by with_reducible assumption)) ?_)) | ((first | refine WL_op rfl ?_ | refine WL_yes (h := ?_)); (first | refine OW_callP rfl (hF := within_fn) (hk := ?_) | (refine OW_call rfl (hF := indexSp_fn hnr hrv' ⟨0, _, rfl⟩) (hk := ?_); rintro _ _ ⟨rfl, rfl⟩))) | refine RC ?_ | refine WG 1 ?_ | refine WG 3 ?_ | refine WG 4 ?_ | refine WG 5 ?_)
  rw [← hj] at hjge hjle ⊢
  by_cases hlt : j < 0
  · have d2 : decide (j < 0) = true := decide_eq_true hlt
    repeat (first | refine RQ ?_ | (refine WL_Q ?_; (first | refine QW_of (Qt_ldX rfl (hn := by with_reducible assumption)) ?_)) | refine RC ?_ | refine WG 5 ?_ | refine WG 6 ?_ | refine WG 7 ?_)
    refine ⟨rfl, _, _, Res1 rfl (resV_tmp rfl), .cons _ (.refl _), ?_, rfl⟩
    rw [wI64 (by omega) (by omega), spanF, if_pos hb, hr]
    simp only [Option.getD_some, ← hj, if_pos hlt]
  · have d2 : decide (j < 0) = false := decide_eq_false hlt
    repeat (first | refine RQ ?_ | (refine WL_Q ?_; (first | refine QW_of (Qt_ldX rfl (hn := by with_reducible assumption)) ?_)) | refine RC ?_ | refine WG 5 ?_ | refine WG 7 ?_)
    refine ⟨rfl, _, _, Res1 rfl (resV_tmp rfl), .cons _ (.refl _), ?_, rfl⟩
    rw [wI64 (by omega) (by omega), spanF, if_pos hb, hr]
    simp only [Option.getD_some, ← hj, if_neg hlt]
end Go.Proofs.YtncgndcepoicbaaGreat
namespace Go.Proofs.YtncgndcepoicbaaGreat
open Go.RowKit
theorem behF_le (now : Int) : ∀ l : List (Int × Int), behF now l ≤ l.length
  | [] => by show (-1 : Int) ≤ 0; omega
  | p :: r => by
    have := behF_le now r
    unfold behF
    split <;> (try split) <;> simp only [List.length_cons] <;> omega
theorem spanF_lt {t : TbV} {b now : Int} {row : List (Int × Int)} (hb : 0 ≤ b ∧ b ≤ 7) (hr : t.spans[b.toNat]? = some row) (hne : row ≠ []) : 0 ≤ spanF t b now ∧ spanF t b now < row.length := by
  have hl : 0 < row.length := List.length_pos_iff.2 hne
  have h1 := behF_le now row
  rw [spanF, if_pos hb, hr]
  simp only [Option.getD_some]
  split <;> split <;> omega
attribute [local irreducible] Fn WC WL WR OW Qt YieldFn QW FnP FnD FnE
theorem owner_fn {tb : Nat} {t : TbV} {b now : Int} {L : List (Nat × Obj)} (h : TabIn tb L t) (hn : ∀ row ∈ t.spans, row.length ≤ 100000) : Fn Tryz.prog 47 [.pointer (some ⟨tb, 0, none⟩), iV b, iV now] L (fun v L' => v = iV (ownF t b now) ∧ L' = L) := by
  obtain ⟨cs, cv, sv, av, nv, rv, lc, h1, h2, h3, h4, h5, h6, _⟩ := id h.h
  obtain ⟨i, hi⟩ := List.mem_iff_getElem?.1 h1
  refine Fn_enter Tryz.func47 rfl Tryz.ntmps47 rfl fun g => ?_
  by_cases hb : 0 ≤ b ∧ b ≤ 7
  rotate_left
  · have e : spanF t b now = -1 := if_neg hb
    have d : decide (spanF t b now < 0) = true := decide_eq_true (by rw [e]; decide)
    repeat (first | refine RQ ?_ | (refine WL_op rfl ?_; (first | refine OW_callP rfl (hF := span_fn h hn) (hk := ?_))) | refine RC ?_ | refine WG 0 ?_ | refine WG 1 ?_ | refine WG 2 ?_ | refine WG 3 ?_)
    exact ⟨rfl, _, _, Res1 rfl (resV_tmp rfl), .refl _, by rw [ownF, if_pos (by rw [e]; decide)], rfl⟩
  obtain ⟨row, hr, hne, hrv⟩ := h5 b.toNat (by omega)
  obtain ⟨k0, k1⟩ := spanF_lt (now := now) hb hr hne
  have d : decide (spanF t b now < 0) = false := decide_eq_false (by omega)
  obtain ⟨sb, off, cap, cc, E, fr, j, hsv, hle, hm, hj, hx⟩ := hrv.cell (by have := List.length_pos_iff.2 hne; omega)
  have hsb : cs[10 + b.toNat * 1]? = some (.slice (some ⟨sb, off, none⟩) row.length cap) := by rw [Nat.mul_one, h2.s _ (by omega), hsv]
  have q0 : (0 : Int) ≤ b := hb.1
  have q1 : b < ((8 : Nat) : Int) := by omega
  obtain ⟨k, hk⟩ : ∃ k, k = spanF t b now := ⟨_, rfl⟩
  obtain ⟨q, hq⟩ : ∃ q, row[k.toNat]? = some q := ⟨_, List.getElem?_eq_getElem (by omega)⟩
  have hx1 : cc[off + k.toNat * 2 + 1]? = some (iV q.2) := by rw [Nat.add_assoc]; exact hx _ _ (spL_at hq).2
  repeat (first | refine RQ ?_ | (refine WL_op rfl ?_; (first | refine OW_callP rfl (hF := span_fn h hn) (hk := ?_))) | refine RC ?_ | refine WG 0 ?_ | refine WG 1 ?_)
  rw [← hk] at d k0 k1 ⊢
  repeat (first | refine RQ ?_ | (refine WL_op rfl ?_; (first | refine OW_callP rfl (hF := span_fn h hn) (hk := ?_))) | refine RC ?_ | refine WG 1 ?_ | refine WG 2 ?_ | refine WG 4 ?_)
  refine ⟨rfl, _, _, Res1 rfl (resV_tmp rfl), .refl _, ?_, rfl⟩
  rw [ownF, ← hk, if_neg (by omega), hr]
  simp only [Option.getD_some, hq]
end Go.Proofs.YtncgndcepoicbaaGreat
namespace Go.Proofs.YtncgndcepoicbaaGreat
open Go.RowKit
def aGet (m : List (Int × Value)) (x : Int) : Option Value := match m with
  | [] => none
  | p :: r => if x = p.1 then some p.2 else aGet r x
def aPut (m : List (Int × Value)) (x : Int) (v : Value) : List (Int × Value) := match m with
  | [] => [(x, v)]
  | p :: r => if x = p.1 then (x, v) :: r else p :: aPut r x v
theorem aGet_put (m : List (Int × Value)) (x y : Int) (v : Value) : aGet (aPut m x v) y = if y = x then some v else aGet m y := by
  induction m with
  | nil => simp [aPut, aGet]
  | cons p r ih =>
    simp only [aPut]
    by_cases h : x = p.1
    · rw [if_pos h]; simp only [aGet]
      by_cases hy : y = x
      · simp [hy]
      · rw [if_neg hy, if_neg hy, if_neg (by omega)]
    · rw [if_neg h]; simp only [aGet]
      by_cases hy : y = p.1
      · rw [if_pos hy, if_pos hy, if_neg (by omega)]
      · rw [if_neg hy, if_neg hy, ih]
theorem aPut_none {m : List (Int × Value)} {x : Int} {v : Value} (h : aGet m x = none) : aPut m x v = m ++ [(x, v)] := by
  induction m with
  | nil => rfl
  | cons p r ih =>
    simp only [aGet] at h
    split at h
    · cases h
    · rename_i hp; simp only [aPut, if_neg hp, ih h, List.cons_append]
def Ents (k : IntKind) (es : List MapEntry) (m : List (Int × Value)) : Prop := es.map (fun e => (e.key, e.val)) = m.map fun p => (.int k p.1, p.2)
theorem Ents_find {P : Program} {kt : TypeId} {k k' : IntKind} : ∀ {es : List MapEntry} {m : List (Int × Value)} {x : Int} (i : Nat), Ents k es m →
    (aGet m x = none ∧ Fnd P kt (.int k') (.int k x) es i none) ∨ ∃ v j e, aGet m x = some v ∧ Fnd P kt (.int k') (.int k x) es i (some (i + j, v)) ∧ es[j]? = some e ∧ e.val = v ∧ e.key = .int k x ∧ ∀ v', Ents k (es.set j { e with key := .int k x, val := v' }) (aPut m x v')
  | [], m, x, i, h => by
    have : m = [] := by cases m with | nil => rfl | cons p r => simp [Ents] at h
    subst this
    exact .inl ⟨rfl, Fnd_nil _ _ _⟩
  | e :: es, m, x, i, h => by
    cases m with
    | nil => simp [Ents] at h
    | cons p r =>
      simp only [Ents, List.map_cons, List.cons.injEq, Prod.mk.injEq] at h
      obtain ⟨⟨hk, hv⟩, hr⟩ := h
      by_cases hx : x = p.1
      · right
        subst hx
        refine ⟨p.2, 0, e, by simp [aGet], ?_, rfl, hv, hk, fun v' => ?_⟩
        · have hs : sameX P kt (.int k') (.int k p.1) (.int k p.1) = some true := by simp [sameX, V.scal, Instr.sameNow]
          have := Fnd_hit (P := P) (kt := kt) (bs := []) hs (.int k p.1) (by rw [hk]; exact .int k p.1) es i
          rw [hv] at this; exact this
        · simp only [aPut, if_true, List.set_cons_zero, Ents, List.map_cons]
          rw [show es.map (fun e => (e.key, e.val)) = r.map (fun p => (Value.int k p.1, p.2)) from hr]
      · have hs : sameX P kt (.int k') (.int k x) (.int k p.1) = some false := by simp [sameX, V.scal, Instr.sameNow, hx]
        rcases Ents_find (P := P) (kt := kt) (k' := k') (x := x) (i + 1) (show Ents k es r from hr) with ⟨h1, h2⟩ | ⟨v, j, e', h1, h2, h3, h4, h5, h6⟩
        · exact .inl ⟨by simp [aGet, hx, h1], Fnd_skip hs (bs := []) (.int k x) (by rw [hk]; exact .int k p.1) h2⟩
        · refine .inr ⟨v, j + 1, e', by simp [aGet, hx, h1], ?_, by simpa using h3, h4, h5, fun v' => ?_⟩
          · have := Fnd_skip hs (bs := []) (.int k x) (by rw [hk]; exact .int k p.1) h2
            rwa [show i + 1 + j = i + (j + 1) by omega] at this
          · have := h6 v'
            simp only [aPut, if_neg hx, List.set_cons_succ, Ents, List.map_cons, hk, hv]
            rw [show _ = _ from this]
section
variable {c : Cx} {o : Oper} {Kn : St → Prop} {K : Exit → St → Prop} {s : List (Nat × Value)} {D : List Deferred} {L : List (Nat × Obj)}
theorem OW_makeMap {t d : TypeId} (ho : o.op = .makeMap t none) (hk : ∀ b, Kn ⟨(d, .map (some b)) :: s, D, (b, .map #[] 0) :: L⟩) (hdst : o.dst = some d := by exact rfl) (hd : Nat.blt d c.N = true := by exact rfl) : OW c o Kn K ⟨s, D, L⟩ := fun a w ha => by
  refine ⟨fun _ _ => trivial, ?_⟩
  have hr : (execOp a.eval o).run c.P w = .ok (.value (.map (some w.heap.size))) (w.alloc (.map #[] 0)) := by
    have := run_makeMap (P := c.P) t w
    simp [execOp, ho, this]
  rw [Oper.semAt_eq _ _ _ (by rw [ho]; intro cc h; cases h), hr]
  refine ⟨_, ?_, hk w.heap.size⟩
  rw [hdst]
  exact (ha.mem' (ha.mem.alloc _)).put (d := some d) hd _
theorem Qt_lookup {t kt vt : TypeId} {k k' : IntKind} {z : Value} [hu : TUnd c.P t (.map kt vt)] [hk' : TUnd c.P kt (.int k')] [hz : TZero c.P vt z] {m x : Operand} {b cl i : Nat} {es : Array MapEntry} {ps : List (Int × Value)} {n : Int} (ho : o.op = .lookup t m x false) (hi : L[i]? = some (b, .map es cl)) (he : Ents k es.toList ps) (hm : ev s m = some (.map (some b)) := by exact rfl) (hx : ev s x = some (.int k n) := by exact rfl) : Qt c s L o ((aGet ps n).getD z) :=
  Qt_of_run (by simp [ho]) (fun ρ hρ w hmem => by
    have hkey : keyX c.P kt (.int k') (.int k n) = true := rfl
    rcases Ents_find (P := c.P) (kt := kt) (k' := k') (x := n) 0 he with ⟨h1, h2⟩ | ⟨v0, j, e, h1, h2, h3, h4, h5, h6⟩
    · have hfk := Fnd_run hk'.h h2 w
      rw [h1]
      simp [execOp, ho, hρ m _ hm, hρ x _ hx, Instr.lookup, run_underlying hu.h, Go.MapKept.run_getObj_map (hmem.at_ hi), keyX_run (bs := []) hk'.h hkey (.int k n), hfk, hz.h]
    · have hfk := Fnd_run hk'.h h2 w
      rw [h1]
      simp [execOp, ho, hρ m _ hm, hρ x _ hx, Instr.lookup, run_underlying hu.h, Go.MapKept.run_getObj_map (hmem.at_ hi), keyX_run (bs := []) hk'.h hkey (.int k n), hfk])
theorem OW_make1 {t E by_ d : TypeId} {z : Value} [hu : TUnd c.P t (.slice E)] [hrow : TRow c.P E #[z] 1 by_] {x y : Operand} {k k' : IntKind} {n : Nat} (ho : o.op = .makeSlice t x y) (hn : n * by_ ≤ 140737488355328) (hnm : n ≤ maxLen) (hk : ∀ b, Kn ⟨(d, .slice (some ⟨b, 0, none⟩) n n) :: s, D, (b, .cells (List.replicate n z).toArray E) :: L⟩)
    (hx : ev s x = some (.int k (n : Nat)) := by exact rfl) (hy : ev s y = some (.int k' (n : Nat)) := by exact rfl) (hdst : o.dst = some d := by exact rfl) (hd : Nat.blt d c.N = true := by exact rfl) : OW c o Kn K ⟨s, D, L⟩ := fun a w ha => by
  refine ⟨fun _ _ => trivial, ?_⟩
  obtain ⟨ii, zz, r1, r2, r3, r4, r5, r6⟩ := hrow.h
  have hb : (ii.bytes : Int) * ((n : Nat) : Int) ≤ 281474976710656 := by
    rw [r5, Int.mul_comm]
    have : ((n * by_ : Nat) : Int) ≤ 140737488355328 := by omega
    rw [Int.natCast_mul] at this
    omega
  have hr := run_make (P := c.P) w t E ii zz hu.h r1 r2 k k' (n : Nat) (n : Nat) (by omega) (by omega) hb (by simp only [maxLen] at hnm; omega)
  simp only [Int.toNat_natCast, r4, Nat.mul_one, r3] at hr
  have e : madeCells #[z] n = (List.replicate n z).toArray := by
    apply Array.ext_getElem?
    intro j
    unfold madeCells
    rw [Array.getElem?_map, Array.getElem?_range]
    by_cases hj : j < n
    · rw [if_pos hj]; simp [hj, Nat.mod_one]
    · rw [if_neg hj]; simp; omega
  rw [e] at hr
  have hr' : (execOp a.eval o).run c.P w = .ok (.value (.slice (some ⟨w.heap.size, 0, none⟩) n n)) (w.alloc (.cells (List.replicate n z).toArray E)) := by
    simp [execOp, ho, ha.ev hx, ha.ev hy, hr]
  rw [Oper.semAt_eq _ _ _ (by rw [ho]; intro cc h; cases h), hr']
  refine ⟨_, ?_, hk w.heap.size⟩
  rw [hdst]
  exact (ha.mem' (ha.mem.alloc _)).put (d := some d) hd _
end
def rowsL (rs : List (Value × List (Nat × Obj))) : List (Nat × Obj) := rs.flatMap Prod.snd
theorem rowsL_split {rs : List (Value × List (Nat × Obj))} {k : Nat} {r : Value × List (Nat × Obj)} (h : rs[k]? = some r) : rowsL rs = rowsL (rs.take k) ++ (r.2 ++ rowsL (rs.drop (k + 1))) := by
  have e : rs = rs.take k ++ r :: rs.drop (k + 1) := by
    obtain ⟨hlt, he⟩ := List.getElem?_eq_some_iff.1 h
    rw [← he, List.getElem_cons_drop, List.take_append_drop]
  conv => lhs; rw [e]
  simp [rowsL]
theorem rowsL_set {rs : List (Value × List (Nat × Obj))} {k : Nat} {r : Value × List (Nat × Obj)} (r' : Value × List (Nat × Obj)) (h : rs[k]? = some r) : rowsL (rs.set k r') = rowsL (rs.take k) ++ (r'.2 ++ rowsL (rs.drop (k + 1))) := by
  obtain ⟨hlt, _⟩ := List.getElem?_eq_some_iff.1 h
  have h' : (rs.set k r')[k]? = some r' := by simp [hlt]
  rw [rowsL_split h', List.take_set_of_le (Nat.le_refl _), List.drop_set_of_lt (by omega)]
def Rows (E sz : Nat) (rs : List (Value × List (Nat × Obj))) (xss : List (List Value)) : Prop :=
  rs.length = xss.length ∧ ∀ (k : Nat) (r : Value × List (Nat × Obj)) (xs : List Value), rs[k]? = some r → xss[k]? = some xs → ∃ n, Buf E sz r.1 r.2 n xs
theorem Rows.set {E sz : Nat} {rs : List (Value × List (Nat × Obj))} {xss : List (List Value)} (h : Rows E sz rs xss) {v : Value} {T : List (Nat × Obj)} {n : Nat} {xs : List Value} (hb : Buf E sz v T n xs) (k : Nat) : Rows E sz (rs.set k (v, T)) (xss.set k xs) := by
  refine ⟨by simpa using h.1, fun j r ys hj hy => ?_⟩
  rw [List.getElem?_set] at hj hy
  by_cases e : k = j
  · subst e
    simp only [if_true] at hj hy
    split at hj
    · cases hj
      split at hy
      · cases hy; exact ⟨n, hb⟩
      · cases hy
    · cases hj
  · rw [if_neg e] at hj hy; exact h.2 j r ys hj hy
theorem Rows.at {E sz : Nat} {rs : List (Value × List (Nat × Obj))} {xss : List (List Value)} (h : Rows E sz rs xss) {k : Nat} {xs : List Value} (hx : xss[k]? = some xs) : ∃ v T n, rs[k]? = some (v, T) ∧ Buf E sz v T n xs := by
  have hlt := (List.getElem?_eq_some_iff.1 hx).1
  obtain ⟨r, hr⟩ : ∃ r, rs[k]? = some r := ⟨_, List.getElem?_eq_getElem (by rw [h.1]; exact hlt)⟩
  obtain ⟨n, hb⟩ := h.2 k r xs hr hx
  exact ⟨r.1, r.2, n, hr, hb⟩
theorem Rows.nils (E sz n : Nat) : Rows E sz (List.replicate n (Value.slice Option.none 0 0, [])) (List.replicate n []) := by
  refine ⟨by simp, fun k r xs hr hx => ⟨0, ?_⟩⟩
  rw [List.getElem?_replicate] at hr hx
  split at hr
  · rw [if_pos (by assumption)] at hx; cases hr; cases hx; exact Buf.nil _ _
  · cases hr
theorem rowsL_nils (n : Nat) (v : Value) : rowsL (List.replicate n (v, [])) = [] := by
  induction n with
  | zero => rfl
  | succ n ih => simp [rowsL, List.replicate_succ] at ih ⊢
end Go.Proofs.YtncgndcepoicbaaGreat
namespace Go.Proofs.YtncgndcepoicbaaGreat
open Go.RowKit
def RowsAt (G : List (Nat × Obj)) (rs : List (Value × List (Nat × Obj))) (repl : List (List CmV)) : Prop := ∃ lrs : List (List (List Value)), Rows 42 10 rs (lrs.map List.flatten) ∧ lrs.length = repl.length ∧ ∀ (k : Nat) (l : List (List Value)) (row : List CmV), lrs[k]? = some l → repl[k]? = some row → CmsAt G l row
theorem RowsAt.mem {G G' : List (Nat × Obj)} {rs : List (Value × List (Nat × Obj))} {repl : List (List CmV)} (h : RowsAt G rs repl) (hs : ∀ q ∈ G, q ∈ G') : RowsAt G' rs repl := by
  obtain ⟨lrs, h1, h2, h3⟩ := h
  exact ⟨lrs, h1, h2, fun k l row q1 q2 => (h3 k l row q1 q2).mem hs⟩
structure TabAt (tb : Nat) (S G : List (Nat × Obj)) (t : TbV) : Prop where
  h : ∃ cs cv sv av nv rb lc Tc rs, S = (tb, Obj.cells cs 110 (0, 0)) :: (Tc ++ (rb, Obj.cells (rs.map Prod.fst).toArray 91 (0, 0)) :: rowsL rs) ∧ TabC cs t.cf cv sv av nv (.slice (some ⟨rb, 0, none⟩) t.repl.length t.repl.length) ∧ Buf 42 10 cv Tc t.cmds.length lc.flatten ∧ CmsAt G lc t.cmds ∧ SpIn G sv t.spans ∧ VecM 1 G av t.act.length (t.act.map iV) ∧ VecM 4 G nv t.nodes.length (opL t.nodes) ∧ RowsAt G rs t.repl ∧ t.repl.length ≤ maxLen
theorem RowsAt.rows {G : List (Nat × Obj)} {rs : List (Value × List (Nat × Obj))} {repl : List (List CmV)} (h : RowsAt G rs repl) : rs.length = repl.length := by
  obtain ⟨lrs, ⟨h1, _⟩, h2, _⟩ := h
  rw [h1, List.length_map, h2]
theorem TabAt.tabIn {tb : Nat} {S G L : List (Nat × Obj)} {t : TbV} (h : TabAt tb S G t) (hS : ∀ q ∈ S, q ∈ L) (hG : ∀ q ∈ G, q ∈ L) : TabIn tb L t := by
  obtain ⟨cs, cv, sv, av, nv, rb, lc, Tc, rs, rfl, h1, h2, h3, h4, h5, h6, h7, hmx⟩ := h.h
  have hrl := h7.rows
  obtain ⟨lrs, r1, r2, r3⟩ := h7
  refine ⟨cs, cv, sv, av, nv, _, lc, hS _ (.head _), h1, h2.vecM.mem (fun q hq => hS _ (.tail _ (List.mem_append_left _ hq))), h3.mem hG, fun b hb => ?_, h5.mem hG, h6.mem hG, rs.map Prod.fst, ⟨by simp [hrl], _, _, rfl, Nat.le_refl _, hmx, .inr ⟨rb, 0, _, 91, (0, 0), rfl, hS _ (.tail _ (List.mem_append_right _ (.head _))), fun j x hx => by rw [Nat.zero_add]; simpa using hx⟩⟩, fun k row hk => ?_⟩
  · obtain ⟨row, q1, q2, q3⟩ := h4.2 b hb
    exact ⟨row, q1, q2, q3.mem hG⟩
  · obtain ⟨l, hl⟩ : ∃ l, lrs[k]? = some l := ⟨_, List.getElem?_eq_getElem (by rw [r2]; exact (List.getElem?_eq_some_iff.1 hk).1)⟩
    have hcm := r3 k l row hl hk
    obtain ⟨v, T, n, q1, q2⟩ := r1.at (k := k) (xs := l.flatten) (by rw [List.getElem?_map, hl]; rfl)
    have hn : n = row.length := by have := q2.len; rw [hcm.flat] at this; omega
    subst hn
    refine ⟨v, l, by rw [List.getElem?_map, q1]; rfl, q2.vecM.mem (fun q hq => hS _ (.tail _ (List.mem_append_right _ (.tail _ ?_)))), hcm.mem hG⟩
    exact List.mem_flatMap.2 ⟨(v, T), List.mem_of_getElem? q1, hq⟩
end Go.Proofs.YtncgndcepoicbaaGreat
