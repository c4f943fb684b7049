/-
  A part of what the last of these texts needs; by itself it proves no statement.
-/
import Derived.Test.YtekmmhmhcpaiaaaGreatKP17
namespace Go.Proofs.YtekmmhmhcpaiaaaGreat
open Go.RowKit
def afterF (t : TbV) (n : Int) : List CmV := if 0 ≤ n ∧ n ≤ (t.nodes.length : Int) - 1 then (t.repl[n.toNat]?).getD [] else []
theorem afterF_in {t : TbV} {n : Int} (h : 0 ≤ n ∧ n ≤ (t.nodes.length : Int) - 1) : afterF t n = (t.repl[n.toNat]?).getD [] := if_pos h
theorem afterF_out {t : TbV} {n : Int} (h : ¬ (0 ≤ n ∧ n ≤ (t.nodes.length : Int) - 1)) : afterF t n = [] := if_neg h
theorem VecM.nil (sz : Nat) (G : List (Nat × Obj)) : VecM sz G (.slice none 0 0) 0 [] := ⟨by simp, none, 0, rfl, Nat.le_refl _, Nat.zero_le _, .inl rfl⟩
theorem iV_one (xs : List Int) : ∀ u ∈ xs.map iV, u.oneCell' = true := by
  intro u hu
  obtain ⟨x, _, rfl⟩ := List.mem_map.1 hu
  rfl
attribute [local irreducible] Fn WC WL WR OW Qt YieldFn QW FnP FnD FnE
theorem after_fn {tb : Nat} {t : TbV} {n : Int} {G L : List (Nat × Obj)} (h : TabIn tb G t) (hs : ∀ q ∈ G, q ∈ L) (hrl : t.repl.length = t.nodes.length) : Fn Tryz.prog 55 [.pointer (some ⟨tb, 0, none⟩), iV n] L (fun v L' => (∃ lr, VecM 10 G v (afterF t n).length lr.flatten ∧ CmsAt G lr (afterF t n)) ∧ L' = L) := by
  obtain ⟨cs, cv, sv, av, nv, rv, lc, h1, h2, h3, h4, h5, h6, h7, vs, h8, h9⟩ := h.h
  obtain ⟨i, hi⟩ := List.mem_iff_getElem?.1 (hs _ h1)
  obtain ⟨_, an, capn, rfl, _, hmn, _⟩ := id h7
  have hcn := h2.n
  have hcr := h2.r
  have wn : IntKind.i64.wrap (((t.nodes.length : Nat) : Int) - 1) = ((t.nodes.length : Nat) : Int) - 1 := wI64 (by omega) (by simp only [maxLen] at hmn; omega)
  refine Fn_enter Tryz.func55 rfl Tryz.ntmps55 rfl fun g => ?_
  by_cases hb : 0 ≤ n ∧ n ≤ (t.nodes.length : Int) - 1
  · have d : (!decide (0 ≤ n ∧ n ≤ IntKind.i64.wrap (((t.nodes.length : Nat) : Int) - 1))) = false := by rw [wn, decide_eq_true hb]; rfl
    obtain ⟨row, hrow⟩ : ∃ row, t.repl[n.toNat]? = some row := ⟨_, List.getElem?_eq_getElem (by omega)⟩
    obtain ⟨v, lr, q1, q2, q3⟩ := h9 _ _ hrow
    obtain ⟨rb, ro, rc, rcs, rE, rfr, ri, rfl, _, _, hri, hrx⟩ := (h8.mem hs).cell (by omega)
    have hrc : rcs[ro + n.toNat * 1]? = some v := by rw [Nat.mul_one]; exact hrx _ _ q1
    obtain ⟨_, a, cap, rfl, _⟩ := id q2
    have p0 : (0 : Int) ≤ n := hb.1
    have p1 : n < ((t.repl.length : Nat) : Int) := by omega
    repeat (first | refine RQ ?_ | ((first | refine WL_op rfl ?_ | refine WL_yes (h := ?_)); (first | refine OW_callP rfl (hF := within_fn) (hk := ?_))) | refine RC ?_ | refine WC_region ?_)
    refine ⟨rfl, _, _, Res1 rfl (resV_tmp rfl), .refl _, ⟨lr, ?_⟩, rfl⟩
    rw [afterF_in hb, hrow]
    exact ⟨q2, q3⟩
  · have d : (!decide (0 ≤ n ∧ n ≤ IntKind.i64.wrap (((t.nodes.length : Nat) : Int) - 1))) = true := by rw [wn, decide_eq_false hb]; rfl
    repeat (first | refine RQ ?_ | ((first | refine WL_op rfl ?_ | refine WL_yes (h := ?_)); (first | refine OW_callP rfl (hF := within_fn) (hk := ?_))) | refine RC ?_ | refine WC_region ?_)
    refine ⟨rfl, _, _, Res1 rfl (resV_tmp rfl), .refl _, ⟨[], ?_⟩, rfl⟩
    rw [afterF_out hb]
    exact ⟨VecM.nil _ _, trivial⟩
end Go.Proofs.YtekmmhmhcpaiaaaGreat
namespace Go.Proofs.YtekmmhmhcpaiaaaGreat
open Go.RowKit
theorem ext_of {cs : Array Value} {a n : Nat} {l : List Value} (hl : l.length = n) (hn : n ≠ 0) (h : ∀ j : Nat, j < n → cs[a + j]? = l[j]?) : cs.extract a (a + n) = l.toArray ∧ a + n ≤ cs.size := by
  have hsz : a + n ≤ cs.size := by
    have h1 := h (n - 1) (by omega)
    rw [List.getElem?_eq_getElem (by omega)] at h1
    have := (Array.getElem?_eq_some_iff.1 h1).1
    omega
  refine ⟨?_, hsz⟩
  apply Array.ext_getElem?
  intro q
  by_cases hq : q < n
  · rw [Array.getElem?_extract, if_pos (by omega), h q hq, List.getElem?_toArray]
  · rw [Array.getElem?_eq_none (by rw [Array.size_extract]; omega), Array.getElem?_eq_none (by simp; omega)]
theorem VecM.cmd {L : List (Nat × Obj)} {off : Nat} {cs : Array Value} {row : List CmV} {lr : List (List Value)} (hx : ∀ (j : Nat) (x : Value), lr.flatten[j]? = some x → cs[off + j]? = some x) (hc : CmsAt L lr row) {k : Nat} {c : CmV} (hk : row[k]? = some c) : ∃ bv, CmAt L (cmC c bv) c ∧ cs.extract (off + k * 10) (off + k * 10 + 10) = (cmC c bv).toArray ∧ off + k * 10 + 10 ≤ cs.size := by
  obtain ⟨l, hcm, hl⟩ := hc.get hk
  obtain ⟨bv, rfl, h2⟩ := id hcm
  refine ⟨bv, hcm, ext_of rfl (by decide) fun j hj => ?_⟩
  have h1 := hl j hj
  have h3 : (cmC c bv)[j]? = some ((cmC c bv)[j]'(by show j < 10; exact hj)) := List.getElem?_eq_getElem _
  rw [h3] at h1 ⊢
  rw [Nat.add_assoc]
  exact hx _ _ h1
theorem CmAt.all {G : List (Nat × Obj)} {c : CmV} {bv : Value} (h : CmAt G (cmC c bv) c) : ((cmC c bv).toArray.toList.all fun v => v.oneCell') = true := by
  obtain ⟨bv', h1, ⟨_, a, cap, rfl, _⟩, _⟩ := h
  have h2 : bv = .slice a c.bins.length cap := by simpa [cmC] using h1
  rw [h2]
  rfl
def verF (t : TbV) (n now : Int) : Nat := ((afterF t n).filter fun c => decide (c.at_ ≤ now)).length
def zeroC : CmV := ⟨0, 0, [], 0, 0, (0, 0, 0, 0), 0⟩
theorem zeroC_at (L : List (Nat × Obj)) : CmAt L (cmC zeroC (.slice none 0 0)) zeroC := ⟨_, rfl, VecM.nil _ _, ⟨⟨by decide, by decide⟩, ⟨by decide, by decide⟩, fun b h => by simp [zeroC] at h, ⟨by decide, by decide⟩, ⟨by decide, by decide⟩, ⟨⟨by decide, by decide⟩, ⟨by decide, by decide⟩, ⟨by decide, by decide⟩, ⟨by decide, by decide⟩⟩, ⟨by decide, by decide⟩⟩⟩
def nextF (t : TbV) (n k : Int) : Option CmV := if 0 ≤ k then (afterF t n)[k.toNat]? else none
attribute [local irreducible] Fn WC WL WR OW Qt YieldFn QW FnP FnD FnE
set_option maxHeartbeats 4000000 in
theorem ver_fn {tb : Nat} {t : TbV} {n now : Int} {L : List (Nat × Obj)} (h : TabIn tb L t) (hrl : t.repl.length = t.nodes.length) (hlen : (afterF t n).length ≤ 100000) : Fn Tryz.prog 25 [.pointer (some ⟨tb, 0, none⟩), iV n, iV now] L (fun v L' => v = iV (verF t n now) ∧ L' = L) := by
  refine Fn_enter Tryz.func25 rfl Tryz.ntmps25 rfl fun g => ?_
  repeat (first | refine RQ ?_ | (refine WL_Q ?_; (first | refine QW_of (Qt_ldX rfl (hn := by with_reducible assumption)) ?_)) | (refine WL_op rfl ?_; (first | (refine OW_call rfl (hF := after_fn h (fun _ h => h) hrl) (hk := ?_); rintro v L ⟨⟨lr, hv, hcs⟩, rfl⟩))) | refine RC ?_ | refine WG 0 ?_ | refine WG 1 ?_)
  obtain ⟨_, a, cap, rfl, _, _, hvx⟩ := id hv
  repeat (first | refine RQ ?_ | (refine WL_Q ?_; (first | refine QW_of (Qt_ldX rfl (hn := by with_reducible assumption)) ?_)) | (refine WL_op rfl ?_; (first | (refine OW_call rfl (hF := after_fn h (fun _ h => h) hrl) (hk := ?_); rintro v L ⟨⟨lr, hv, hcs⟩, rfl⟩))) | refine RC ?_ | refine WG 1 ?_)
  refine WC_wk [(13, .int .i64 ((0 : Nat) : Int)), (6, .int .i64 ((0 : Nat) : Int)), (12, .int .i64 ((afterF t n).length : Nat)), (11, .slice a (afterF t n).length cap), (2, iV now)] ⟨rfl, rfl, rfl, rfl, rfl, trivial⟩ ?_
  refine WC_loop (fun m σ => ∃ k q : Nat, m = (afterF t n).length - k ∧ k ≤ (afterF t n).length ∧ q = (((afterF t n).take k).filter fun c => decide (c.at_ ≤ now)).length ∧ σ = ⟨[(13, .int .i64 (k : Nat)), (6, .int .i64 (q : Nat)), (12, .int .i64 ((afterF t n).length : Nat)), (11, .slice a (afterF t n).length cap), (2, iV now)], [], L⟩) (afterF t n).length ⟨0, 0, rfl, Nat.zero_le _, rfl, rfl⟩ ?_
  rintro _ σ ⟨k, m, rfl, hk, hm, rfl⟩
  by_cases hlt : k < (afterF t n).length
  rotate_left
  · have d1 : decide ((k : Int) < (((afterF t n).length : Nat) : Int)) = false := decide_eq_false (by omega)
    repeat (first | refine RQ ?_ | (refine WL_Q ?_; (first | refine QW_of (Qt_ldX rfl (hn := by with_reducible assumption)) ?_)) | refine RC ?_ | refine WG 2 ?_ | refine WG 7 ?_)
    refine ⟨rfl, _, _, Res1 rfl (resV_tmp rfl), .refl _, ?_, rfl⟩
    rw [hm, verF, List.take_of_length_le (by omega)]
  have d1 : decide ((k : Int) < (((afterF t n).length : Nat) : Int)) = true := decide_eq_true (by omega)
  obtain ⟨c, hc⟩ : ∃ c, (afterF t n)[k]? = some c := ⟨_, List.getElem?_eq_getElem hlt⟩
  obtain ⟨rb, ro, rc, rcs, rE, rfr, ri, e, _, _, hri, hrx⟩ := hv.cell (by omega)
  cases e
  obtain ⟨bv, hcm, hx1, hx2⟩ := VecM.cmd hrx hcs hc
  have hall := hcm.all
  have y1 : ro + ((k : Nat) : Int).toNat * 10 + 10 ≤ rcs.size := by rw [Int.toNat_natCast]; exact hx2
  have v1 : rcs.extract (ro + ((k : Nat) : Int).toNat * 10) (ro + ((k : Nat) : Int).toNat * 10 + 10) = (cmC c bv).toArray := by rw [Int.toNat_natCast]; exact hx1
  have p0 : (0 : Int) ≤ (k : Int) := by omega
  have p1 : ((k : Nat) : Int) < (((afterF t n).length : Nat) : Int) := by omega
  have w : IntKind.i64.wrap ((k : Int) + 1) = ((k + 1 : Nat) : Int) := by rw [wI64 (by omega) (by omega)]; omega
  have hmk : m ≤ k := by rw [hm]; exact Nat.le_trans (List.length_filter_le _ _) (by rw [List.length_take]; omega)
  have wm : IntKind.i64.wrap ((m : Int) + 1) = ((m + 1 : Nat) : Int) := by rw [wI64 (by omega) (by omega)]; omega
  have htk : (afterF t n).take (k + 1) = (afterF t n).take k ++ [c] := by rw [List.take_add_one, hc]; rfl
  repeat (first | refine RQ ?_ | (refine WL_Q ?_; (first | refine QW_of (Qt_ldX rfl (hn := by with_reducible assumption)) ?_)) | (refine RE ?_; try intro _) | refine RC ?_ | refine WG 2 ?_ | refine WG 3 ?_)
  rw [v1]
  repeat (first | refine RQ ?_ | (refine WL_Q ?_; (first | refine QW_of (Qt_ldX rfl (hn := by with_reducible assumption)) ?_)) | (refine RE ?_; try intro _) | refine RC ?_ | refine WG 3 ?_)
  by_cases hle : c.at_ ≤ now
  · have d2 : decide (c.at_ ≤ now) = true := decide_eq_true hle
    repeat (first | refine RQ ?_ | (refine WL_Q ?_; (first | refine QW_of (Qt_ldX rfl (hn := by with_reducible assumption)) ?_)) | (refine RE ?_; try intro _) | refine RC ?_ | refine WG 3 ?_ | refine WG 4 ?_ | refine WG 5 ?_ | refine WG 6 ?_)
    rw [w, wm]
    exact ⟨_, _, by omega, ⟨k + 1, m + 1, rfl, by omega, by rw [htk, List.filter_append, List.length_append, ← hm]; simp [hle], rfl⟩, ⟨rfl, rfl, rfl, rfl, rfl, trivial⟩, rfl, .cons _ (.refl _)⟩
  · have d2 : decide (c.at_ ≤ now) = false := decide_eq_false hle
    repeat (first | refine RQ ?_ | (refine WL_Q ?_; (first | refine QW_of (Qt_ldX rfl (hn := by with_reducible assumption)) ?_)) | (refine RE ?_; try intro _) | refine RC ?_ | refine WG 3 ?_ | refine WG 4 ?_ | refine WG 6 ?_)
    rw [w]
    exact ⟨_, _, by omega, ⟨k + 1, m, rfl, by omega, by rw [htk, List.filter_append, List.length_append, ← hm]; simp [hle], rfl⟩, ⟨rfl, rfl, rfl, rfl, rfl, trivial⟩, rfl, .cons _ (.refl _)⟩
set_option maxHeartbeats 4000000 in
theorem next_fn {tb : Nat} {t : TbV} {n k : Int} {L : List (Nat × Obj)} (h : TabIn tb L t) (hrl : t.repl.length = t.nodes.length) : Fn Tryz.prog 53 [.pointer (some ⟨tb, 0, none⟩), iV n, iV k] L (fun v L' => (∃ bv, CmAt L (cmC ((nextF t n k).getD zeroC) bv) ((nextF t n k).getD zeroC) ∧ v = .tuple #[.agg (cmC ((nextF t n k).getD zeroC) bv).toArray, .bool (nextF t n k).isSome]) ∧ L' = L) := by
  refine Fn_enter Tryz.func53 rfl Tryz.ntmps53 rfl fun g => ?_
  repeat (first | refine RQ ?_ | (refine WL_Q ?_; (first | refine QW_of (Qt_ldX rfl (hn := by with_reducible assumption)) ?_)) | (refine RE ?_; try intro _) | refine RC ?_ | refine WG 0 ?_)
  rename_i x6
  repeat (first | refine RQ ?_ | (refine WL_Q ?_; (first | refine QW_of (Qt_ldX rfl (hn := by with_reducible assumption)) ?_)) | (refine WL_op rfl ?_; (first | (refine OW_call rfl (hF := after_fn h (fun _ h => .tail _ h) hrl) (hk := ?_); rintro v _ ⟨⟨lr, hv, hcs⟩, rfl⟩))) | refine RC ?_ | refine WG 1 ?_)
  obtain ⟨_, a, cap, rfl, _, hmx, hvx⟩ := id hv
  have wn : IntKind.i64.wrap ((((afterF t n).length : Nat) : Int) - 1) = (((afterF t n).length : Nat) : Int) - 1 := wI64 (by omega) (by simp only [maxLen] at hmx; omega)
  by_cases hb : 0 ≤ k ∧ k ≤ (((afterF t n).length : Nat) : Int) - 1
  · have d : (!decide (0 ≤ k ∧ k ≤ IntKind.i64.wrap ((((afterF t n).length : Nat) : Int) - 1))) = false := by rw [wn, decide_eq_true hb]; rfl
    obtain ⟨c, hc⟩ : ∃ c, (afterF t n)[k.toNat]? = some c := ⟨_, List.getElem?_eq_getElem (by omega)⟩
    obtain ⟨rb, ro, rc, rcs, rE, rfr, ri, e, _, _, hri, hrx⟩ := (hv.mem (G' := (x6, Obj.cells zc71 71 (0, 0)) :: L) fun _ h => .tail _ h).cell (by omega)
    cases e
    obtain ⟨bv, hcm, hx1, hx2⟩ := VecM.cmd hrx hcs hc
    have p0 : (0 : Int) ≤ k := hb.1
    have p1 : k < (((afterF t n).length : Nat) : Int) := by omega
    have hall := hcm.all
    have e1 : nextF t n k = some c := by rw [nextF, if_pos hb.1, hc]
    repeat (first | refine RQ ?_ | (refine WL_Q ?_; (first | refine QW_of (Qt_ldX rfl (hn := by with_reducible assumption)) ?_)) | (refine RE ?_; try intro _) | (refine WL_op rfl ?_; (first | refine OW_callP rfl (hF := within_fn) (hk := ?_) | (refine OW_call rfl (hF := after_fn h (fun _ h => .tail _ h) hrl) (hk := ?_); rintro v _ ⟨⟨lr, hv, hcs⟩, rfl⟩))) | refine RC ?_ | refine WG 1 ?_ | refine WG 2 ?_ | refine WG 4 ?_)
    rw [hx1]
    repeat (first | refine RQ ?_ | (refine WL_Q ?_; (first | refine QW_of (Qt_ldX rfl (hn := by with_reducible assumption)) ?_)) | (refine RE ?_; try intro _) | refine RC ?_ | refine WG 4 ?_)
    rw [e1]
    exact ⟨rfl, _, _, Res2 rfl (resV_cellN rfl 0 rfl rfl) (resV_tmp rfl), .cons _ (.refl _), ⟨bv, hcm, rfl⟩, rfl⟩
  · have d : (!decide (0 ≤ k ∧ k ≤ IntKind.i64.wrap ((((afterF t n).length : Nat) : Int) - 1))) = true := by rw [wn, decide_eq_false hb]; rfl
    have e1 : nextF t n k = none := by
      rw [nextF]
      by_cases h0 : 0 ≤ k
      · rw [if_pos h0, List.getElem?_eq_none (by omega)]
      · rw [if_neg h0]
    repeat (first | refine RQ ?_ | (refine WL_Q ?_; (first | refine QW_of (Qt_ldX rfl (hn := by with_reducible assumption)) ?_)) | (refine RE ?_; try intro _) | (refine WL_op rfl ?_; (first | refine OW_callP rfl (hF := within_fn) (hk := ?_) | (refine OW_call rfl (hF := after_fn h (fun _ h => .tail _ h) hrl) (hk := ?_); rintro v _ ⟨⟨lr, hv, hcs⟩, rfl⟩))) | refine RC ?_ | refine WG 1 ?_ | refine WG 2 ?_ | refine WG 3 ?_)
    rw [e1]
    exact ⟨rfl, _, _, Res2 rfl (resV_cellN rfl 0 rfl rfl) (resV_tmp rfl), .cons _ (.refl _), ⟨_, zeroC_at _, rfl⟩, rfl⟩
end Go.Proofs.YtekmmhmhcpaiaaaGreat
namespace Go.Proofs.YtekmmhmhcpaiaaaGreat
open Go.RowKit
def enL (l : List EnV) : List Value := l.flatMap enC
theorem enL_cons (x : EnV) (l : List EnV) : enL (x :: l) = enC x ++ enL l := rfl
theorem enL_len (l : List EnV) : (enL l).length = l.length * 10 := by
  induction l with
  | nil => rfl
  | cons x l ih => rw [enL_cons, List.length_append, ih, enC_len, List.length_cons]; omega
theorem enL_at : ∀ {l : List EnV} {i : Nat} {x : EnV}, l[i]? = some x → ∀ j : Nat, j < 10 → (enL l)[i * 10 + j]? = (enC x)[j]?
  | [], _, _, h, _, _ => by simp at h
  | y :: l, 0, x, h, j, hj => by
    obtain rfl : y = x := by simpa using h
    rw [enL_cons, Nat.zero_mul, Nat.zero_add, List.getElem?_append_left (by rw [enC_len]; exact hj)]
  | y :: l, i + 1, x, h, j, hj => by
    rw [enL_cons, List.getElem?_append_right (by rw [enC_len]; omega), enC_len, show (i + 1) * 10 + j - 10 = i * 10 + j by omega]
    exact enL_at (by simpa using h) j hj
theorem enL_ext {l : List EnV} {off k : Nat} {cs : Array Value} {x : EnV} (hx : ∀ (j : Nat) (v : Value), (enL l)[j]? = some v → cs[off + j]? = some v) (hk : l[k]? = some x) : cs.extract (off + k * 10) (off + k * 10 + 10) = (enC x).toArray ∧ off + k * 10 + 10 ≤ cs.size := by
  refine ext_of (l := enC x) rfl (by decide) fun j hj => ?_
  have h1 := enL_at hk j hj
  have h3 : (enC x)[j]? = some ((enC x)[j]'hj) := List.getElem?_eq_getElem _
  rw [h3] at h1 ⊢
  rw [Nat.add_assoc]
  exact hx _ _ h1
theorem enC_one (x : EnV) : ((enC x).toArray.toList.all fun v => v.oneCell') = true := rfl
abbrev OwnE (cur : Array Value) (off cap : Nat) (xs : List EnV) : Prop := Own 10 cur off cap xs.length (enL xs)
theorem putR_getE {cs vs : Array Value} {o k : Nat} (h : o + vs.size ≤ cs.size) : (putR cs o vs)[k]? = if o ≤ k ∧ k < o + vs.size then vs[k - o]? else cs[k]? := by
  unfold putR
  rw [List.getElem?_toArray, List.append_assoc]
  have hl : (cs.toList.take o).length = o := by rw [List.length_take, Array.length_toList]; omega
  by_cases h1 : k < o
  · rw [List.getElem?_append_left (by omega), List.getElem?_take_of_lt h1, if_neg (by omega), Array.getElem?_toList]
  · rw [List.getElem?_append_right (by omega), hl]
    by_cases h2 : k < o + vs.size
    · rw [List.getElem?_append_left (by rw [Array.length_toList]; omega), if_pos ⟨by omega, h2⟩, Array.getElem?_toList]
    · rw [List.getElem?_append_right (by rw [Array.length_toList]; omega), if_neg (by omega), List.getElem?_drop, Array.getElem?_toList, Array.length_toList]
      congr 1
      omega
theorem putR_sizeE {cs vs : Array Value} {o : Nat} (h : o + vs.size ≤ cs.size) : (putR cs o vs).size = cs.size := by
  unfold putR
  simp only [List.size_toArray, List.length_append, List.length_take, List.length_drop, Array.length_toList]
  omega
theorem enL_get : ∀ (l : List EnV) (k : Nat), (enL l)[k]? = (l[k / 10]?).bind fun x => (enC x)[k % 10]?
  | [], k => by simp [enL]
  | x :: l, k => by
    rw [enL_cons]
    by_cases h : k < 10
    · rw [List.getElem?_append_left (by rw [enC_len]; exact h), Nat.div_eq_of_lt h, Nat.mod_eq_of_lt h]
      rfl
    · rw [List.getElem?_append_right (by rw [enC_len]; omega), enC_len, enL_get l (k - 10)]
      have e1 : k / 10 = (k - 10) / 10 + 1 := by omega
      have e2 : k % 10 = (k - 10) % 10 := by omega
      rw [e1, e2, List.getElem?_cons_succ]
theorem OwnE.put {cur : Array Value} {off cap : Nat} {ys : List EnV} (h : OwnE cur off cap ys) {i : Nat} (hi : i < ys.length) (x : EnV) : OwnE (putR cur (off + i * 10) (enC x).toArray) off cap (ys.set i x) := by
  have hf := Own.fit h
  have hle := Own.le h
  have hsz : (enC x).toArray.size = 10 := rfl
  have hb : off + i * 10 + (enC x).toArray.size ≤ cur.size := by rw [hsz]; omega
  unfold OwnE
  rw [List.length_set]
  refine ⟨by rw [enL_len, List.length_set], hle, Own.max h, by rw [putR_sizeE hb]; exact hf, fun k v hk => ?_⟩
  rw [enL_get, List.getElem?_set] at hk
  rw [putR_getE hb, hsz]
  by_cases hik : i = k / 10
  · rw [if_pos hik, if_pos hi] at hk
    rw [if_pos (by omega), List.getElem?_toArray, show off + k - (off + i * 10) = k % 10 by omega]
    exact hk
  · rw [if_neg hik] at hk
    rw [if_neg (by omega)]
    exact Own.at_ h k v (by rw [enL_get]; exact hk)
theorem swap_perm {ys : List EnV} {i j : Nat} {x y : EnV} (hi : ys[i]? = some x) (hj : ys[j]? = some y) : ((ys.set i y).set j x).Perm ys := by
  obtain ⟨h1, e1⟩ := List.getElem?_eq_some_iff.1 hi
  obtain ⟨h2, e2⟩ := List.getElem?_eq_some_iff.1 hj
  rw [← e1, ← e2]
  exact List.set_set_perm h1 h2
attribute [local irreducible] Fn WC WL WR OW Qt YieldFn QW FnP FnD FnE
set_option maxHeartbeats 4000000 in
theorem swapRange_fn {g E off cap : Nat} {cur : Array Value} {xs : List EnV} (ho : OwnE cur off cap xs) (hn : xs.length ≤ 100000) {a b n : Nat} (ha : a + n ≤ xs.length) (hb : b + n ≤ xs.length) {fv : Value} {L : List (Nat × Obj)} :
    Fn Tryz.prog 161 [.slice (some ⟨g, off, none⟩) xs.length cap, iV a, iV b, iV n, fv] ((g, .cells cur E (0, 0)) :: L)
      (fun v L' => v = .tuple #[] ∧ ∃ cur' ys, ys.Perm xs ∧ OwnE cur' off cap ys ∧ L' = (g, .cells cur' E (0, 0)) :: L) := by
  refine Fn_enter Tryz.func161 rfl Tryz.ntmps161 rfl fun gw => ?_
  repeat (first | (refine WL_Q ?_; (first | refine QW_a ?_)) | refine WL_nil ?_ | refine WC_seq ?_ | refine WC_block ?_ | refine WC_cond_t (ht := ?_) | refine WC_cond_f (he := ?_) | refine WC_skip ?_ | refine WC_exit ?_ | refine WG 0 ?_)
  refine WC_wk [(10, iV ((0 : Nat) : Int)), (0, .slice (some ⟨g, off, none⟩) xs.length cap), (1, iV a), (2, iV b), (3, iV n)] ⟨rfl, rfl, rfl, rfl, rfl, trivial⟩ ?_
  refine WC_loop (fun m σ => ∃ (i : Nat) (ys : List EnV) (cur : Array Value), m = n - i ∧ i ≤ n ∧ ys.Perm xs ∧ OwnE cur off cap ys ∧ σ = ⟨[(10, iV i), (0, .slice (some ⟨g, off, none⟩) xs.length cap), (1, iV a), (2, iV b), (3, iV n)], [], (g, .cells cur E (0, 0)) :: L⟩) n ⟨0, xs, cur, rfl, Nat.zero_le _, .refl _, ho, rfl⟩ ?_
  clear ho cur
  rintro m σ ⟨i, ys, cur, rfl, hi, hp, ho, rfl⟩
  have hl : ys.length = xs.length := hp.length_eq
  by_cases hlt : i < n
  rotate_left
  · have d : decide ((i : Int) < (n : Int)) = false := decide_eq_false (by omega)
    repeat (first | (refine WL_Q ?_; (first | refine QW_a ?_)) | refine WL_nil ?_ | refine WC_seq ?_ | refine WC_block ?_ | refine WC_cond_t (ht := ?_) | refine WC_cond_f (he := ?_) | refine WC_skip ?_ | refine WC_exit ?_ | refine WG 1 ?_)
    exact ⟨rfl, _, _, Res0 rfl, .refl _, rfl, cur, ys, hp, ho, rfl⟩
  have d : decide ((i : Int) < (n : Int)) = true := decide_eq_true (by omega)
  have wa : IntKind.i64.wrap ((a : Int) + (i : Int)) = ((a + i : Nat) : Int) := by rw [wI64 (by omega) (by omega)]; omega
  have wb : IntKind.i64.wrap ((b : Int) + (i : Int)) = ((b + i : Nat) : Int) := by rw [wI64 (by omega) (by omega)]; omega
  have wi : IntKind.i64.wrap ((i : Int) + 1) = ((i + 1 : Nat) : Int) := by rw [wI64 (by omega) (by omega)]; omega
  obtain ⟨x, hx⟩ : ∃ x, ys[a + i]? = some x := ⟨_, List.getElem?_eq_getElem (by omega)⟩
  obtain ⟨y, hy⟩ : ∃ y, ys[b + i]? = some y := ⟨_, List.getElem?_eq_getElem (by omega)⟩
  obtain ⟨x1, x2⟩ := enL_ext (Own.at_ ho) hx
  obtain ⟨y1, y2⟩ := enL_ext (Own.at_ ho) hy
  have j0 : (0 : Int) ≤ ((a + i : Nat) : Int) := by omega
  have j1 : ((a + i : Nat) : Int) < ((xs.length : Nat) : Int) := by omega
  have j2 : (0 : Int) ≤ ((b + i : Nat) : Int) := by omega
  have j3 : ((b + i : Nat) : Int) < ((xs.length : Nat) : Int) := by omega
  rw [← wa] at j0 j1
  rw [← wb] at j2 j3
  have c1 : cur.extract (off + (IntKind.i64.wrap ((a : Int) + (i : Int))).toNat * 10) (off + (IntKind.i64.wrap ((a : Int) + (i : Int))).toNat * 10 + 10) = (enC x).toArray := by rw [wa, Int.toNat_natCast]; exact x1
  have c2 : off + (IntKind.i64.wrap ((a : Int) + (i : Int))).toNat * 10 + 10 ≤ cur.size := by rw [wa, Int.toNat_natCast]; exact x2
  have c3 : cur.extract (off + (IntKind.i64.wrap ((b : Int) + (i : Int))).toNat * 10) (off + (IntKind.i64.wrap ((b : Int) + (i : Int))).toNat * 10 + 10) = (enC y).toArray := by rw [wb, Int.toNat_natCast]; exact y1
  have c4 : off + (IntKind.i64.wrap ((b : Int) + (i : Int))).toNat * 10 + 10 ≤ cur.size := by rw [wb, Int.toNat_natCast]; exact y2
  have o1 := enC_one x
  have o2 := enC_one y
  repeat (first | (refine WL_Q ?_; (first | refine QW_a ?_)) | refine WL_nil ?_ | refine WC_seq ?_ | refine WC_block ?_ | refine WC_cond_t (ht := ?_) | refine WC_cond_f (he := ?_) | refine WC_skip ?_ | refine WC_exit ?_ | refine WG 1 ?_)
  refine WC_drawK (id := 3) [] 24 (Cs [0,1,2,3,4,5,6,7,8,9,10,11,12,13,14,15,16,17,18,19,20] <| .must 21 <| .calm 22 <| .must 23 <| .done) mixed (by kernel_rfl) (by kernel_rfl) (List.nil_sublist _) ?_; repeat (first | refine WS_d ?_ | refine WS_c rfl (QW_a ?_) | refine WS_r rfl (by kernel_rfl) (QW_a ?_) | (refine WS_m rfl rfl (OE ?_); refine ⟨(fun _ hq => nomatch hq), ?_⟩))
  rw [c1, c3]
  refine WS_m rfl rfl (OW_stN rfl (hl := c2) (hk := ?_))
  refine ⟨(fun _ hq => nomatch hq), ?_⟩
  refine WS_c rfl (QW_a ?_)
  have c5 : off + (IntKind.i64.wrap ((b : Int) + (i : Int))).toNat * 10 + 10 ≤ (putR cur (off + (IntKind.i64.wrap ((a : Int) + (i : Int))).toNat * 10) (enC y).toArray).size := by rw [putR_sizeE c2]; exact c4
  refine WS_m rfl rfl (OW_stN rfl (hl := c5) (hk := ?_))
  refine ⟨(fun _ hq => nomatch hq), ?_⟩
  refine WS_d ?_
  repeat (first | (refine WL_Q ?_; (first | refine QW_a ?_)) | refine WL_nil ?_ | refine WC_seq ?_ | refine WC_block ?_ | refine WC_cond_t (ht := ?_) | refine WC_cond_f (he := ?_) | refine WC_skip ?_ | refine WC_exit ?_ | refine WG 2 ?_)
  rw [wi]
  have q1 := OwnE.put ho (i := a + i) (by omega) y
  have q2 := OwnE.put q1 (i := b + i) (by rw [List.length_set]; omega) x
  rw [wa, wb, Int.toNat_natCast, Int.toNat_natCast]
  exact ⟨_, _, by omega, ⟨i + 1, _, _, rfl, by omega, (swap_perm hx hy).trans hp, q2, rfl⟩, ⟨rfl, rfl, rfl, rfl, rfl, trivial⟩, rfl, .refl _⟩
set_option maxHeartbeats 4000000 in
theorem rotate_fn {g E off cap : Nat} {cur : Array Value} {xs : List EnV} (ho : OwnE cur off cap xs) (hn : xs.length ≤ 100000) {a m b : Nat} (ha : a < m) (hm : m < b) (hb : b ≤ xs.length) {fv : Value} {L : List (Nat × Obj)} :
    Fn Tryz.prog 157 [.slice (some ⟨g, off, none⟩) xs.length cap, iV a, iV m, iV b, fv] ((g, .cells cur E (0, 0)) :: L)
      (fun v L' => v = .tuple #[] ∧ ∃ cur' ys, ys.Perm xs ∧ OwnE cur' off cap ys ∧ L' = (g, .cells cur' E (0, 0)) :: L) := by
  refine Fn_enter Tryz.func157 rfl Tryz.ntmps157 rfl fun gw => ?_
  have w1 : IntKind.i64.wrap ((m : Int) - (a : Int)) = ((m - a : Nat) : Int) := by rw [wI64 (by omega) (by omega)]; omega
  have w2 : IntKind.i64.wrap ((b : Int) - (m : Int)) = ((b - m : Nat) : Int) := by rw [wI64 (by omega) (by omega)]; omega
  repeat (first | (refine WL_Q ?_; (first | refine QW_a ?_)) | refine WL_nil ?_ | refine WC_seq ?_ | refine WC_block ?_ | refine WC_cond_t (ht := ?_) | refine WC_cond_f (he := ?_) | refine WC_skip ?_ | refine WC_exit ?_ | refine WG 0 ?_ | refine WG 1 ?_)
  rw [w1, w2]
  refine WC_wk [(11, iV ((b - m : Nat) : Int)), (10, iV ((m - a : Nat) : Int)), (0, .slice (some ⟨g, off, none⟩) xs.length cap), (2, iV m), (4, fv)] ⟨rfl, rfl, rfl, rfl, rfl, trivial⟩ ?_
  refine WC_loop (fun z σ => ∃ (i j : Nat) (ys : List EnV) (cur : Array Value), z = i + j ∧ 0 < i ∧ i ≤ m ∧ 0 < j ∧ m + j ≤ xs.length ∧ ys.Perm xs ∧ OwnE cur off cap ys ∧ σ = ⟨[(11, iV j), (10, iV i), (0, .slice (some ⟨g, off, none⟩) xs.length cap), (2, iV m), (4, fv)], [], (g, .cells cur E (0, 0)) :: L⟩) ((m - a) + (b - m)) ⟨m - a, b - m, xs, cur, rfl, by omega, by omega, by omega, by omega, .refl _, ho, rfl⟩ ?_
  clear ho cur
  rintro z σ ⟨i, j, ys, cur, rfl, hi0, hi, hj0, hj, hp, ho, rfl⟩
  have hl : ys.length = xs.length := hp.length_eq
  rw [← hl] at hn hj
  have wmi : IntKind.i64.wrap ((m : Int) - (i : Int)) = ((m - i : Nat) : Int) := by rw [wI64 (by omega) (by omega)]; omega
  by_cases hij : i = j
  · subst hij
    have d : ((i : Int) != (i : Int)) = false := by simp
    repeat (first | (refine WL_Q ?_; (first | refine QW_a ?_)) | refine WL_nil ?_ | refine WC_seq ?_ | refine WC_block ?_ | refine WC_cond_t (ht := ?_) | refine WC_cond_f (he := ?_) | refine WC_skip ?_ | refine WC_exit ?_ | refine WG 2 ?_ | refine WG 8 ?_)
    rw [wmi]
    have hF := swapRange_fn ho hn (a := m - i) (b := m) (n := i) (by omega) (by omega) (g := g) (E := E) (fv := fv) (L := L)
    rw [hl] at hF
    repeat (first | (refine WL_Q ?_; (first | refine QW_a ?_)) | (refine WL_op rfl ?_; (first | (refine OW_call rfl (hF := hF) (hk := ?_); rintro _ _ ⟨rfl, cur', zs, hq, ho', rfl⟩))) | refine WL_nil ?_ | refine WC_seq ?_ | refine WC_block ?_ | refine WC_cond_t (ht := ?_) | refine WC_cond_f (he := ?_) | refine WC_skip ?_ | refine WC_exit ?_ | refine WG 8 ?_)
    exact ⟨rfl, _, _, Res0 rfl, .refl _, rfl, cur', zs, hq.trans hp, ho', rfl⟩
  have d : ((i : Int) != (j : Int)) = true := by simp; omega
  by_cases hgt : j < i
  · have d2 : decide ((i : Int) > (j : Int)) = true := decide_eq_true (by omega)
    have wij : IntKind.i64.wrap ((i : Int) - (j : Int)) = ((i - j : Nat) : Int) := by rw [wI64 (by omega) (by omega)]; omega
    repeat (first | (refine WL_Q ?_; (first | refine QW_a ?_)) | refine WL_nil ?_ | refine WC_seq ?_ | refine WC_block ?_ | refine WC_cond_t (ht := ?_) | refine WC_cond_f (he := ?_) | refine WC_skip ?_ | refine WC_exit ?_ | refine WG 2 ?_ | refine WG 3 ?_ | refine WG 4 ?_)
    rw [wmi]
    have hF := swapRange_fn ho hn (a := m - i) (b := m) (n := j) (by omega) (by omega) (g := g) (E := E) (fv := fv) (L := L)
    rw [hl] at hF
    repeat (first | (refine WL_Q ?_; (first | refine QW_a ?_)) | (refine WL_op rfl ?_; (first | (refine OW_call rfl (hF := hF) (hk := ?_); rintro _ _ ⟨rfl, cur', zs, hq, ho', rfl⟩))) | refine WL_nil ?_ | refine WC_seq ?_ | refine WC_block ?_ | refine WC_cond_t (ht := ?_) | refine WC_cond_f (he := ?_) | refine WC_skip ?_ | refine WC_exit ?_ | refine WG 4 ?_ | refine WG 5 ?_)
    rw [wij]
    exact ⟨_, _, by omega, ⟨i - j, j, zs, cur', rfl, by omega, by omega, hj0, by omega, hq.trans hp, ho', rfl⟩, ⟨rfl, rfl, rfl, rfl, rfl, trivial⟩, rfl, .refl _⟩
  · have d2 : decide ((i : Int) > (j : Int)) = false := decide_eq_false (by omega)
    have wji : IntKind.i64.wrap ((j : Int) - (i : Int)) = ((j - i : Nat) : Int) := by rw [wI64 (by omega) (by omega)]; omega
    have wmj : IntKind.i64.wrap ((m : Int) + (j : Int)) = ((m + j : Nat) : Int) := by rw [wI64 (by omega) (by omega)]; omega
    have wmk : IntKind.i64.wrap (((m + j : Nat) : Int) - (i : Int)) = ((m + j - i : Nat) : Int) := by rw [wI64 (by omega) (by omega)]; omega
    repeat (first | (refine WL_Q ?_; (first | refine QW_a ?_)) | refine WL_nil ?_ | refine WC_seq ?_ | refine WC_block ?_ | refine WC_cond_t (ht := ?_) | refine WC_cond_f (he := ?_) | refine WC_skip ?_ | refine WC_exit ?_ | refine WG 2 ?_ | refine WG 3 ?_ | refine WG 6 ?_)
    rw [wmi, wmj, wmk]
    have hF := swapRange_fn ho hn (a := m - i) (b := m + j - i) (n := i) (by omega) (by omega) (g := g) (E := E) (fv := fv) (L := L)
    rw [hl] at hF
    repeat (first | (refine WL_Q ?_; (first | refine QW_a ?_)) | (refine WL_op rfl ?_; (first | (refine OW_call rfl (hF := hF) (hk := ?_); rintro _ _ ⟨rfl, cur', zs, hq, ho', rfl⟩))) | refine WL_nil ?_ | refine WC_seq ?_ | refine WC_block ?_ | refine WC_cond_t (ht := ?_) | refine WC_cond_f (he := ?_) | refine WC_skip ?_ | refine WC_exit ?_ | refine WG 6 ?_ | refine WG 7 ?_)
    rw [wji]
    exact ⟨_, _, by omega, ⟨i, j - i, zs, cur', rfl, by omega, by omega, by omega, by omega, hq.trans hp, ho', rfl⟩, ⟨rfl, rfl, rfl, rfl, rfl, trivial⟩, rfl, .refl _⟩
end Go.Proofs.YtekmmhmhcpaiaaaGreat
