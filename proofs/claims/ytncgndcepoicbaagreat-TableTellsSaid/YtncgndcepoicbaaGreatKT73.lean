/-
  A part of what the last of these texts needs; by itself it proves no statement.
-/
import Derived.Test.YtncgndcepoicbaaGreatKT72
namespace Go.Proofs.YtncgndcepoicbaaGreat
open Go.RowKit
def rpF (l : List CmV) (n : Int) : List CmV := l.filter fun x => x.kind == 3 && x.node == n
theorem rpF_snoc (l : List CmV) (x : CmV) (n : Int) : rpF (l ++ [x]) n = rpF l n ++ (if (x.kind == 3 && x.node == n) = true then [x] else []) := by
  unfold rpF
  rw [List.filter_append, List.filter_cons, List.filter_nil]
theorem afterF_add {t : TbV} (hT : TbOk t) {x : CmV} {fl : Int} (hx : tryF t x fl = 0) (n : Int) : afterF (addF t x) n = afterF t n ++ (if (x.kind == 3 && x.node == n) = true then [x] else []) := by
  have hnd := addF_nodes t x
  by_cases k3 : x.kind = 3
  · obtain ⟨b1, b2⟩ := tryF_repl hx k3
    have hrp := addF_repl (t := t) k3
    by_cases hn : x.node = n
    · subst hn
      have hlt : x.node.toNat < t.repl.length := by rw [hT.rl]; omega
      rw [if_pos (by simp [k3]), afterF_in (t := addF t x) (by rw [hnd]; omega), afterF_in (by omega), hrp, List.getElem?_set_self hlt]
      rfl
    · rw [if_neg (by simp [hn]), List.append_nil]
      unfold afterF
      rw [hnd, hrp]
      split
      · rw [List.getElem?_set_ne (by omega)]
      · rfl
  · rw [if_neg (by simp [k3]), List.append_nil]
    have e : (addF t x).repl = t.repl := by
      have := tryF_kind hx
      unfold addF
      split
      · rfl
      split
      · rfl
      split
      · rfl
      · omega
    unfold afterF
    rw [hnd, e]
theorem afterF_rp {p : PlV} {c : CfV} : ∀ {m : Nat} {l : List CmV}, l.length = m → RfOk p c l → ∀ n : Int, afterF (rchT p c l) n = rpF l n
  | 0, l, hm, h, n => by
    obtain rfl := List.eq_nil_of_length_eq_zero hm
    show afterF (newT p c) n = []
    unfold afterF
    split
    · have hr : (newT p c).repl = List.replicate (opsL p).length [] := rfl
      rw [hr, List.getElem?_replicate]
      split <;> rfl
    · rfl
  | m + 1, l, hm, h, n => by
    obtain ⟨x, hx⟩ : ∃ x, l[m]? = some x := ⟨_, List.getElem?_eq_getElem (by omega)⟩
    have e : l = l.take m ++ [x] := by
      have := List.take_add_one (l := l) (i := m)
      rw [hx, List.take_of_length_le (by omega)] at this
      exact this
    have ih := afterF_rp (m := m) (l := l.take m) (by rw [List.length_take]; omega) (h.take m) n
    obtain ⟨fl, hf⟩ := h.all m x hx
    rw [e, rchT_snoc, afterF_add (h.take m).tb hf, ih, rpF_snoc]
theorem RfOk.after {p : PlV} {c : CfV} {l : List CmV} (h : RfOk p c l) (n : Int) : afterF (rchT p c l) n = rpF l n := afterF_rp rfl h n
theorem take_snoc {l : List CmV} {k : Nat} {x : CmV} (h : l[k]? = some x) : l.take (k + 1) = l.take k ++ [x] := by rw [List.take_add_one, h]; rfl
theorem rpF_take_le (l : List CmV) (n : Int) (k : Nat) : (rpF (l.take k) n).length ≤ l.length := Nat.le_trans (List.length_filter_le _ _) (by rw [List.length_take]; omega)
attribute [local irreducible] Fn WC WL WR OW Qt YieldFn QW FnP FnD FnE
set_option maxHeartbeats 4000000 in
theorem dVer_fn {rb : Nat} {n now : Int} {cs : Array Value} {p : PlV} {c : CfV} {l : List CmV} {G M : List (Nat × Obj)} (hR : RefAt cs G p c l) (hO : RfOk p c l) (hM : rfO rb cs ∈ M) (hG : ∀ q ∈ G, q ∈ M) : Fn Tryz.prog 75 [.pointer (some ⟨rb, 0, none⟩), iV n, iV now] M (fun v L' => v = iV (verF (rchT p c l) n now) ∧ L' = M) := by
  obtain ⟨pv, lv, lc, kn, sv, h1, h2, h3, h4, h5, h6⟩ := id hR
  have hl64 := hO.few
  have hc9 := h1.l
  obtain ⟨_, al, cl, rfl, _, hcl, _⟩ := id h3
  obtain ⟨i0, hi0⟩ := List.mem_iff_getElem?.1 hM
  have hver : verF (rchT p c l) n now = (l.filter fun x => (x.kind == 3 && x.node == n) && decide (x.at_ ≤ now)).length := by
    rw [verF, hO.after, rpF, List.filter_filter]
    congr 1
    exact List.filter_congr fun x _ => Bool.and_comm _ _
  refine Fn_enter Tryz.func75 rfl Tryz.ntmps75 rfl fun g => ?_
  repeat (first | refine RQ ?_ | (refine WL_Q ?_; (first | refine QW_of (Qt_ldX rfl (hn := by with_reducible assumption)) ?_)) | refine RC ?_ | refine WG 0 ?_ | refine WG 1 ?_ | refine WG 2 ?_)
  refine WC_wk [(8, iV ((0 : Nat) : Int)), (7, iV ((0 : Nat) : Int)), (0, .pointer (some ⟨rb, 0, none⟩)), (1, iV n), (2, iV now)] ⟨rfl, rfl, rfl, rfl, rfl, trivial⟩ ?_
  refine WC_loop (fun m σ => ∃ k : Nat, m = l.length - k ∧ k ≤ l.length ∧ σ = ⟨[(8, iV (k : Int)), (7, iV (((l.take k).filter fun x => (x.kind == 3 && x.node == n) && decide (x.at_ ≤ now)).length : Nat)), (0, .pointer (some ⟨rb, 0, none⟩)), (1, iV n), (2, iV now)], [], M⟩) l.length ⟨0, rfl, Nat.zero_le _, rfl⟩ ?_
  rintro _ σ ⟨k, rfl, hk, rfl⟩
  by_cases hlt : k < l.length
  rotate_left
  · have d1 : decide ((k : Int) < ((l.length : Nat) : Int)) = false := decide_eq_false (by omega)
    rw [List.take_of_length_le (l := l) (i := k) (by omega)]
    repeat (first | refine RQ ?_ | (refine WL_Q ?_; (first | refine QW_of (Qt_ldX rfl (hn := by with_reducible assumption)) ?_)) | refine RC ?_ | refine WG 3 ?_ | refine WG 7 ?_)
    exact ⟨rfl, _, _, Res1 rfl (resV_tmp rfl), .refl _, by rw [hver], rfl⟩
  have d1 : decide ((k : Int) < ((l.length : Nat) : Int)) = true := decide_eq_true (by omega)
  have p0 : (0 : Int) ≤ (k : Int) := by omega
  have p1 : (k : Int) < ((l.length : Nat) : Int) := by omega
  have w : IntKind.i64.wrap ((k : Int) + 1) = ((k + 1 : Nat) : Int) := by rw [wI64 (by omega) (by omega)]; omega
  obtain ⟨x, hx⟩ : ∃ x, l[k]? = some x := ⟨_, List.getElem?_eq_getElem hlt⟩
  obtain ⟨lb, lo, lcp, lcs, lE, lfr, li, e, _, _, hli, hlx⟩ := (h3.mem hG).cell (by omega)
  cases e
  obtain ⟨lx, ⟨bv, rfl, _⟩, hget⟩ := h4.get hx
  have c0 : lcs[lo + ((k : Nat) : Int).toNat * 10]? = some (iV x.kind) := by rw [Int.toNat_natCast]; exact hlx _ _ (by rw [← Nat.add_zero (k * 10), hget 0 (by decide)]; rfl)
  have c1 : lcs[lo + ((k : Nat) : Int).toNat * 10 + 1]? = some (iV x.at_) := by rw [Int.toNat_natCast, Nat.add_assoc]; exact hlx _ _ (by rw [hget 1 (by decide)]; rfl)
  have c4 : lcs[lo + ((k : Nat) : Int).toNat * 10 + 4]? = some (iV x.node) := by rw [Int.toNat_natCast, Nat.add_assoc]; exact hlx _ _ (by rw [hget 4 (by decide)]; rfl)
  have hq := Nat.le_trans (List.length_filter_le (fun x : CmV => (x.kind == 3 && x.node == n) && decide (x.at_ ≤ now)) (l.take k)) (show (l.take k).length ≤ 64 by rw [List.length_take]; omega)
  have hst : ((l.take (k + 1)).filter fun x => (x.kind == 3 && x.node == n) && decide (x.at_ ≤ now)).length = ((l.take k).filter fun x => (x.kind == 3 && x.node == n) && decide (x.at_ ≤ now)).length + (if ((x.kind == 3 && x.node == n) && decide (x.at_ ≤ now)) = true then 1 else 0) := by
    rw [take_snoc hx, List.filter_append, List.length_append, List.filter_cons, List.filter_nil]
    split <;> rfl
  obtain ⟨qn, hqn⟩ : ∃ qn, qn = ((l.take k).filter fun x => (x.kind == 3 && x.node == n) && decide (x.at_ ≤ now)).length := ⟨_, rfl⟩
  rw [← hqn] at hq hst ⊢
  have wq : IntKind.i64.wrap ((qn : Int) + 1) = ((qn + 1 : Nat) : Int) := by rw [wI64 (by omega) (by omega)]; omega
  cases hk3 : (x.kind == 3)
  · rw [hk3, if_neg (by simp)] at hst
    repeat (first | refine RQ ?_ | ((first | refine WL_Q ?_ | refine WL_Y ?_); (first | refine QW_of (Qt_ldX rfl (hn := by with_reducible assumption)) ?_)) | refine RC ?_ | refine WG 3 ?_ | refine WG 5 ?_ | refine WG 4 ?_)
    rw [w]
    exact ⟨_, _, by omega, ⟨k + 1, rfl, by omega, rfl⟩, ⟨rfl, by rw [hst]; rfl, rfl, rfl, rfl, trivial⟩, rfl, .refl _⟩
  cases hkn : (x.node == n)
  · rw [hkn, if_neg (by simp)] at hst
    repeat (first | refine RQ ?_ | ((first | refine WL_Q ?_ | refine WL_Y ?_); (first | refine QW_of (Qt_ldX rfl (hn := by with_reducible assumption)) ?_)) | refine RC ?_ | refine WG 3 ?_ | refine WG 5 ?_ | refine WG 4 ?_)
    rw [w]
    exact ⟨_, _, by omega, ⟨k + 1, rfl, by omega, rfl⟩, ⟨rfl, by rw [hst]; rfl, rfl, rfl, rfl, trivial⟩, rfl, .refl _⟩
  by_cases hkt : x.at_ ≤ now
  · have d2 : decide (x.at_ ≤ now) = true := decide_eq_true hkt
    rw [hk3, hkn, if_pos (by simp [hkt])] at hst
    repeat (first | refine RQ ?_ | ((first | refine WL_Q ?_ | refine WL_Y ?_); (first | refine QW_of (Qt_ldX rfl (hn := by with_reducible assumption)) ?_)) | refine RC ?_ | refine WG 3 ?_ | refine WG 5 ?_ | refine WG 6 ?_ | refine WG 4 ?_)
    rw [w, wq]
    exact ⟨_, _, by omega, ⟨k + 1, rfl, by omega, rfl⟩, ⟨rfl, by rw [hst]; rfl, rfl, rfl, rfl, trivial⟩, rfl, .refl _⟩
  · have d2 : decide (x.at_ ≤ now) = false := decide_eq_false hkt
    rw [hk3, hkn, if_neg (by simp [hkt])] at hst
    repeat (first | refine RQ ?_ | ((first | refine WL_Q ?_ | refine WL_Y ?_); (first | refine QW_of (Qt_ldX rfl (hn := by with_reducible assumption)) ?_)) | refine RC ?_ | refine WG 3 ?_ | refine WG 5 ?_ | refine WG 4 ?_)
    rw [w]
    exact ⟨_, _, by omega, ⟨k + 1, rfl, by omega, rfl⟩, ⟨rfl, by rw [hst]; rfl, rfl, rfl, rfl, trivial⟩, rfl, .refl _⟩
set_option maxHeartbeats 4000000 in
theorem dNext_fn {rb : Nat} {n ver : Int} {cs : Array Value} {p : PlV} {c : CfV} {l : List CmV} {G M : List (Nat × Obj)} (hR : RefAt cs G p c l) (hO : RfOk p c l) (hM : rfO rb cs ∈ M) (hG : ∀ q ∈ G, q ∈ M) : Fn Tryz.prog 79 [.pointer (some ⟨rb, 0, none⟩), iV n, iV ver] M (fun v L' => (∃ bv, CmAt G (cmC ((nextF (rchT p c l) n ver).getD zeroC) bv) ((nextF (rchT p c l) n ver).getD zeroC) ∧ v = .tuple #[.agg (cmC ((nextF (rchT p c l) n ver).getD zeroC) bv).toArray, .bool (nextF (rchT p c l) n ver).isSome]) ∧ L' = M) := by
  obtain ⟨pv, lv, lc, kn, sv, h1, h2, h3, h4, h5, h6⟩ := id hR
  have hl64 := hO.few
  have hc9 := h1.l
  obtain ⟨_, al, cl, rfl, _, hcl, _⟩ := id h3
  obtain ⟨i0, hi0⟩ := List.mem_iff_getElem?.1 hM
  have hnx : nextF (rchT p c l) n ver = if 0 ≤ ver then (rpF l n)[ver.toNat]? else none := by rw [nextF, hO.after]
  refine Fn_enter Tryz.func79 rfl Tryz.ntmps79 rfl fun g => ?_
  repeat (first | refine RQ ?_ | (refine WL_Q ?_; (first | refine QW_of (Qt_ldX rfl (hn := by with_reducible assumption)) ?_)) | (refine RE ?_; try intro _) | refine RC ?_ | refine WG 0 ?_ | refine WG 1 ?_ | refine WG 2 ?_)
  rename_i x6
  have hzz : (zc42 : Array Value) = (cmC zeroC (.slice none 0 0)).toArray := rfl
  rw [hzz]
  have hi1 : ((x6, Obj.cells (cmC zeroC (.slice none 0 0)).toArray 42 (0, 0)) :: M)[i0 + 1]? = some (rfO rb cs) := hi0
  refine WC_wk [(9, iV ((0 : Nat) : Int)), (8, iV ((0 : Nat) : Int)), (7, .bool false), (6, .pointer (some ⟨x6, 0, none⟩)), (0, .pointer (some ⟨rb, 0, none⟩)), (1, iV n), (2, iV ver)] ⟨rfl, rfl, rfl, rfl, rfl, rfl, rfl, trivial⟩ ?_
  refine WC_loop (fun m σ => ∃ k : Nat, m = l.length - k ∧ k ≤ l.length ∧ ¬ (0 ≤ ver ∧ ver < ((rpF (l.take k) n).length : Int)) ∧ σ = ⟨[(9, iV (k : Int)), (8, iV ((rpF (l.take k) n).length : Nat)), (7, .bool false), (6, .pointer (some ⟨x6, 0, none⟩)), (0, .pointer (some ⟨rb, 0, none⟩)), (1, iV n), (2, iV ver)], [], (x6, Obj.cells (cmC zeroC (.slice none 0 0)).toArray 42 (0, 0)) :: M⟩) l.length ⟨0, rfl, Nat.zero_le _, by show ¬ (0 ≤ ver ∧ ver < 0); omega, rfl⟩ ?_
  rintro _ σ ⟨k, rfl, hk, hno, rfl⟩
  by_cases hlt : k < l.length
  rotate_left
  · have d1 : decide ((k : Int) < ((l.length : Nat) : Int)) = false := decide_eq_false (by omega)
    rw [List.take_of_length_le (by omega)] at hno
    have e : nextF (rchT p c l) n ver = none := by
      rw [hnx]
      split
      · exact List.getElem?_eq_none (by omega)
      · rfl
    have hz1 : (cmC zeroC (.slice none 0 0)).toArray.size = 10 := rfl
    have hz2 : ((cmC zeroC (.slice none 0 0)).toArray.toList.all fun v => v.oneCell') = true := rfl
    repeat (first | refine RQ ?_ | (refine WL_Q ?_; (first | refine QW_of (Qt_ldX rfl (hn := by with_reducible assumption)) ?_)) | (refine RE ?_; try intro _) | refine RC ?_ | refine WG 3 ?_ | refine WG 9 ?_)
    rw [e]
    exact ⟨rfl, _, _, Res2 rfl (resV_cellN rfl 0 rfl rfl) (resV_tmp rfl), .cons _ (.refl _), ⟨_, zeroC_at _, rfl⟩, rfl⟩
  have d1 : decide ((k : Int) < ((l.length : Nat) : Int)) = true := decide_eq_true (by omega)
  have p0 : (0 : Int) ≤ (k : Int) := by omega
  have p1 : (k : Int) < ((l.length : Nat) : Int) := by omega
  have w : IntKind.i64.wrap ((k : Int) + 1) = ((k + 1 : Nat) : Int) := by rw [wI64 (by omega) (by omega)]; omega
  obtain ⟨x, hx⟩ : ∃ x, l[k]? = some x := ⟨_, List.getElem?_eq_getElem hlt⟩
  obtain ⟨lb, lo, lcp, lcs, lE, lfr, li, e, _, _, hli, hlx⟩ := (h3.mem (G' := (x6, Obj.cells (cmC zeroC (.slice none 0 0)).toArray 42 (0, 0)) :: M) fun q hq => .tail _ (hG q hq)).cell (by omega)
  cases e
  obtain ⟨lx, ⟨bv1, rfl, _⟩, hget⟩ := h4.get hx
  obtain ⟨bv, hcm, e10, z10⟩ := VecM.cmd hlx h4 hx
  have y1 : lo + ((k : Nat) : Int).toNat * 10 + 10 ≤ lcs.size := by rw [Int.toNat_natCast]; exact z10
  have v1 : lcs.extract (lo + ((k : Nat) : Int).toNat * 10) (lo + ((k : Nat) : Int).toNat * 10 + 10) = (cmC x bv).toArray := by rw [Int.toNat_natCast]; exact e10
  have c0 : lcs[lo + ((k : Nat) : Int).toNat * 10]? = some (iV x.kind) := by rw [Int.toNat_natCast]; exact hlx _ _ (by rw [← Nat.add_zero (k * 10), hget 0 (by decide)]; rfl)
  have c4 : lcs[lo + ((k : Nat) : Int).toNat * 10 + 4]? = some (iV x.node) := by rw [Int.toNat_natCast, Nat.add_assoc]; exact hlx _ _ (by rw [hget 4 (by decide)]; rfl)
  have hq := rpF_take_le l n k
  have hst := rpF_snoc (l.take k) x n
  rw [← take_snoc hx] at hst
  obtain ⟨qn, hqn⟩ : ∃ qn, qn = (rpF (l.take k) n).length := ⟨_, rfl⟩
  rw [← hqn] at hq hno ⊢
  have wq : IntKind.i64.wrap ((qn : Int) + 1) = ((qn + 1 : Nat) : Int) := by rw [wI64 (by omega) (by omega)]; omega
  cases hk3 : (x.kind == 3)
  · rw [hk3, if_neg (by simp), List.append_nil] at hst
    repeat (first | refine RQ ?_ | ((first | refine WL_Q ?_ | refine WL_Y ?_); (first | refine QW_of (Qt_ldX rfl (hn := by with_reducible assumption)) ?_)) | refine RC ?_ | refine WG 3 ?_ | refine WG 5 ?_ | refine WG 4 ?_)
    rw [w]
    exact ⟨_, _, by omega, ⟨k + 1, rfl, by omega, by rw [hst, ← hqn]; exact hno, rfl⟩, ⟨rfl, by rw [hst, ← hqn]; rfl, rfl, rfl, rfl, rfl, rfl, trivial⟩, rfl, .refl _⟩
  cases hkn : (x.node == n)
  · rw [hkn, if_neg (by simp), List.append_nil] at hst
    repeat (first | refine RQ ?_ | ((first | refine WL_Q ?_ | refine WL_Y ?_); (first | refine QW_of (Qt_ldX rfl (hn := by with_reducible assumption)) ?_)) | refine RC ?_ | refine WG 3 ?_ | refine WG 5 ?_ | refine WG 4 ?_)
    rw [w]
    exact ⟨_, _, by omega, ⟨k + 1, rfl, by omega, by rw [hst, ← hqn]; exact hno, rfl⟩, ⟨rfl, by rw [hst, ← hqn]; rfl, rfl, rfl, rfl, rfl, rfl, trivial⟩, rfl, .refl _⟩
  rw [hk3, hkn, if_pos (by simp)] at hst
  have hstl : (rpF (l.take (k + 1)) n).length = qn + 1 := by rw [hst, List.length_append, ← hqn]; rfl
  by_cases hv : (qn : Int) = ver
  · have d2 : ((qn : Int) == ver) = true := by simpa using hv
    have e : nextF (rchT p c l) n ver = some x := by
      rw [hnx, if_pos (by omega)]
      have h1 : (rpF (l.take (k + 1)) n)[ver.toNat]? = some x := by rw [hst, show ver.toNat = (rpF (l.take k) n).length by omega]; simp
      have h2 : rpF l n = rpF (l.take (k + 1)) n ++ rpF (l.drop (k + 1)) n := by unfold rpF; rw [← List.filter_append, List.take_append_drop]
      rw [h2, List.getElem?_append_left (List.getElem?_eq_some_iff.1 h1).1, h1]
    have hz1 : (cmC zeroC (.slice none 0 0)).toArray.size = 10 := rfl
    have hall := hcm.all
    have hsz : (cmC x bv).toArray.size = 10 := rfl
    repeat (first | refine RQ ?_ | ((first | refine WL_Q ?_ | refine WL_Y ?_); (first | refine QW_of (Qt_ldX rfl (hn := by with_reducible assumption)) ?_)) | (refine RE ?_; try intro _) | refine RC ?_ | refine WG 3 ?_ | refine WG 5 ?_ | refine WG 6 ?_ | refine WG 7 ?_)
    rw [v1]
    repeat (first | refine RQ ?_ | (refine WL_Q ?_; (first | refine QW_of (Qt_ldX rfl (hn := by with_reducible assumption)) ?_)) | (refine RE ?_; try intro _) | refine RC ?_ | refine WG 7 ?_)
    rw [e]
    exact ⟨rfl, _, _, Res2 rfl (resV_cellN rfl 0 rfl rfl) (resV_tmp rfl), .cons _ (.refl _), ⟨bv, hcm, rfl⟩, rfl⟩
  · have d2 : ((qn : Int) == ver) = false := by simpa using hv
    repeat (first | refine RQ ?_ | ((first | refine WL_Q ?_ | refine WL_Y ?_); (first | refine QW_of (Qt_ldX rfl (hn := by with_reducible assumption)) ?_)) | refine RC ?_ | refine WG 3 ?_ | refine WG 5 ?_ | refine WG 6 ?_ | refine WG 8 ?_ | refine WG 4 ?_)
    rw [w, wq]
    exact ⟨_, _, by omega, ⟨k + 1, rfl, by omega, by rw [hstl]; omega, rfl⟩, ⟨rfl, by rw [hstl]; rfl, rfl, rfl, rfl, rfl, rfl, trivial⟩, rfl, .refl _⟩
end Go.Proofs.YtncgndcepoicbaaGreat
namespace Go.Proofs.YtncgndcepoicbaaGreat
open Go.RowKit
attribute [local irreducible] Fn WC WL WR OW Qt YieldFn QW FnP FnD FnE
set_option maxHeartbeats 4000000 in
theorem dhas_fn {xs : List Int} {y : Int} {v : Value} {L : List (Nat × Obj)} (hv : VecM 1 L v xs.length (xs.map iV)) : Fn Tryz.prog 61 [v, iV y] L (fun r L' => r = .bool (decide (y ∈ xs)) ∧ L' = L) := by
  obtain ⟨_, a1, cap1, rfl, hc1, hm1, _⟩ := id hv
  refine Fn_enter Tryz.func61 rfl Tryz.ntmps61 rfl fun g => ?_
  repeat (first | refine RQ ?_ | (refine WL_Q ?_; (first | refine QW_of (Qt_ldX rfl (hn := by with_reducible assumption)) ?_)) | refine RC ?_ | refine WG 0 ?_ | refine WG 1 ?_)
  refine WC_wk [(5, .int .i64 ((0 : Nat) : Int)), (0, .slice a1 xs.length cap1), (1, iV y)] ⟨rfl, rfl, rfl, trivial⟩ ?_
  refine WC_loop (fun m σ => ∃ k : Nat, m = xs.length - k ∧ k ≤ xs.length ∧ y ∉ xs.take k ∧ σ = ⟨[(5, .int .i64 (k : Nat)), (0, .slice a1 xs.length cap1), (1, iV y)], [], L⟩) xs.length ⟨0, rfl, Nat.zero_le _, by simp, rfl⟩ ?_
  rintro _ σ ⟨k, rfl, hk, htk, rfl⟩
  by_cases hlt : k < xs.length
  rotate_left
  · have e1 : decide ((k : Int) < ((xs.length : Nat) : Int)) = false := decide_eq_false (by omega)
    repeat (first | refine RQ ?_ | (refine WL_Q ?_; (first | refine QW_of (Qt_ldX rfl (hn := by with_reducible assumption)) ?_)) | refine RC ?_ | refine WG 2 ?_ | refine WG 6 ?_)
    refine ⟨rfl, _, _, Res1 rfl (resV_tmp rfl), .refl _, ?_, rfl⟩
    rw [List.take_of_length_le (by omega)] at htk
    rw [decide_eq_false htk]
  have e1 : decide ((k : Int) < ((xs.length : Nat) : Int)) = true := decide_eq_true (by omega)
  obtain ⟨b1, o1, q1, c1, E1, f1, i1, e, _, _, hi1, hx1⟩ := hv.cell (by omega)
  cases e
  obtain ⟨x, hx⟩ : ∃ x, xs[k]? = some x := ⟨_, List.getElem?_eq_getElem hlt⟩
  have v1 : c1[o1 + ((k : Nat) : Int).toNat * 1]? = some (iV x) := by rw [Int.toNat_natCast, Nat.mul_one]; exact hx1 k _ (by rw [List.getElem?_map, hx]; rfl)
  have p0 : (0 : Int) ≤ (k : Int) := by omega
  have p1 : ((k : Nat) : Int) < ((xs.length : Nat) : Int) := by omega
  have w : IntKind.i64.wrap ((k : Int) + 1) = ((k + 1 : Nat) : Int) := by rw [wI64 (by omega) (by simp only [maxLen] at hm1; omega)]; omega
  by_cases hxy : x = y
  · have d2 : (x == y) = true := by simpa using hxy
    repeat (first | refine RQ ?_ | (refine WL_Q ?_; (first | refine QW_of (Qt_ldX rfl (hn := by with_reducible assumption)) ?_)) | refine RC ?_ | refine WG 2 ?_ | refine WG 4 ?_ | refine WG 5 ?_)
    exact ⟨rfl, _, _, Res1 rfl (resV_tmp rfl), .refl _, by rw [decide_eq_true (hxy ▸ List.mem_of_getElem? hx)], rfl⟩
  · have d2 : (x == y) = false := by simpa using hxy
    repeat (first | refine RQ ?_ | (refine WL_Q ?_; (first | refine QW_of (Qt_ldX rfl (hn := by with_reducible assumption)) ?_)) | refine RC ?_ | refine WG 2 ?_ | refine WG 4 ?_ | refine WG 3 ?_)
    rw [w]
    refine ⟨_, _, by omega, ⟨k + 1, rfl, by omega, ?_, rfl⟩, ⟨rfl, rfl, rfl, trivial⟩, rfl, .refl _⟩
    rw [List.take_add_one, hx, List.mem_append]
    rintro (h | h)
    · exact htk h
    · exact hxy (List.mem_singleton.1 h).symm
theorem dActive_fn {rb : Nat} {cs : Array Value} {p : PlV} {c : CfV} {l : List CmV} {G : List (Nat × Obj)} (hR : RefAt cs G p c l) (hO : RfOk p c l) {M : List (Nat × Obj)} (hM : rfO rb cs ∈ M) (hG : ∀ q ∈ G, q ∈ M) : Fn Tryz.prog 59 [.pointer (some ⟨rb, 0, none⟩)] M (fun v L' => ∃ T, L' = T ++ M ∧ BufI v T (rchT p c l).act) := by
  obtain ⟨pv, lv, lc, kn, sv, h1, h2, h3, h4, h5, h6⟩ := id hR
  have hc9 := h1.l
  obtain ⟨_, al, cl, rfl, _, hcl, _⟩ := id h3
  obtain ⟨i0, hi0⟩ := List.mem_iff_getElem?.1 hM
  refine Fn_enter Tryz.func59 rfl Tryz.ntmps59 rfl fun g => ?_
  repeat (first | refine RQ ?_ | (refine WL_Q ?_; (first | refine QW_of (Qt_ldX rfl (hn := by with_reducible assumption)) ?_)) | (refine WL_op rfl ?_; (first | (refine OW_call rfl (hF := dactive_fn (n := l.length) hR hO (Nat.le_refl _) hM hG) (hk := ?_); rintro v _ ⟨T, rfl, hT⟩))) | refine RC ?_ | refine WC_region ?_)
  rw [List.take_length] at hT
  exact ⟨rfl, _, _, Res1 rfl (resV_tmp rfl), .refl _, T, rfl, hT⟩
set_option maxHeartbeats 8000000 in
theorem dOp_fn {rb : Nat} {n ver : Int} {cs : Array Value} {p : PlV} {c : CfV} {l : List CmV} {G M : List (Nat × Obj)} (hR : RefAt cs G p c l) (hO : RfOk p c l) (hM : rfO rb cs ∈ M) (hG : ∀ q ∈ G, q ∈ M) (hv : -100 ≤ ver ∧ ver ≤ 100) : Fn Tryz.prog 77 [.pointer (some ⟨rb, 0, none⟩), iV n, iV ver] M (fun v L' => ∃ X, L' = X ++ M ∧ v = .tuple #[.agg (opC ((opAtF (rchT p c l) n ver).getD (0, 0, 0, 0)).1 ((opAtF (rchT p c l) n ver).getD (0, 0, 0, 0)).2.1 ((opAtF (rchT p c l) n ver).getD (0, 0, 0, 0)).2.2.1 ((opAtF (rchT p c l) n ver).getD (0, 0, 0, 0)).2.2.2), .bool (opAtF (rchT p c l) n ver).isSome]) := by
  obtain ⟨pv, lv, lc, kn, sv, h1, h2, h3, h4, h5, h6⟩ := id hR
  have hl64 := hO.few
  have hnd := hO.nds
  have h14 := hO.tb.nds
  rw [hnd] at h14
  have hn14 : (nodesL p).length ≤ 1000 := by rw [opsL, List.length_map] at h14; omega
  have hxp := h1.p
  have hxz : 0 + 4 ≤ cs.size := by rw [h1.z]; decide
  obtain ⟨i0, hi0⟩ := List.mem_iff_getElem?.1 hM
  refine Fn_enter Tryz.func77 rfl Tryz.ntmps77 rfl fun g => ?_
  repeat (first | refine RQ ?_ | (refine WL_Q ?_; (first | refine QW_of (Qt_ldX rfl (hn := by with_reducible assumption)) ?_)) | (refine RE ?_; try intro _) | refine RC ?_ | refine WG 0 ?_)
  rename_i x6
  have hi1 : ((x6, Obj.cells zc40 40 (0, 0)) :: M)[i0 + 1]? = some (rfO rb cs) := hi0
  repeat (first | refine RQ ?_ | (refine WL_Q ?_; (first | refine QW_of (Qt_ldX rfl (hn := by with_reducible assumption)) ?_)) | refine RC ?_ | refine WG 1 ?_)
  rw [hxp]
  refine WL_op rfl (OW_call rfl (hF := dNodes_fn (h2.mem fun q hq => .tail _ (hG q hq)) hn14) (hk := ?_))
  rintro v8 _ ⟨T, X, rfl, hT⟩
  obtain ⟨a8, c8, rfl, _, _⟩ := id hT.val
  repeat (first | refine RQ ?_ | (refine WL_Q ?_; (first | refine QW_of (Qt_ldX rfl (hn := by with_reducible assumption)) ?_)) | refine RC ?_ | refine WG 1 ?_)
  refine WC_permT (L' := (x6, Obj.cells zc40 40 (0, 0)) :: (T ++ (X ++ M))) ?_ ?_
  · rw [← List.append_assoc, ← List.append_assoc]
    exact List.perm_middle.symm
  have hzo : (zc40 : Array Value) = opC 0 0 0 0 := rfl
  rw [hzo]
  refine WC_wk [(8, .slice a8 (opsL p).length c8), (7, .bool false), (6, .pointer (some ⟨x6, 0, none⟩)), (0, .pointer (some ⟨rb, 0, none⟩)), (1, iV n), (2, iV ver)] ⟨rfl, rfl, rfl, rfl, rfl, rfl, trivial⟩ ?_
  have hz1 : (opC 0 0 0 0).size = 4 := rfl
  have hz2 : ((opC 0 0 0 0).toList.all fun v => v.oneCell') = true := rfl
  have hsub : ∀ q : Nat × Obj, (T ++ (X ++ M)).Sublist (q :: (T ++ (X ++ M))) := fun q => .cons _ (.refl _)
  by_cases n0 : n < 0
  · have d0 : decide (n < 0) = true := decide_eq_true n0
    have e : opAtF (rchT p c l) n ver = none := if_neg (by omega)
    repeat (first | refine RQ ?_ | ((first | refine WL_Q ?_ | refine WL_Y ?_); (first | refine QW_of (Qt_ldX rfl (hn := by with_reducible assumption)) ?_)) | (refine RE ?_; try intro _) | refine RC ?_ | refine WG 2 ?_ | refine WG 3 ?_)
    rw [e]
    exact ⟨rfl, _, _, Res2 rfl (resV_cellN rfl 0 rfl rfl) (resV_tmp rfl), .cons _ (.refl _), T ++ X, by rw [List.append_assoc], rfl⟩
  have d0 : decide (n < 0) = false := decide_eq_false n0
  by_cases n1 : n ≥ ((opsL p).length : Int)
  · have d1 : decide (n ≥ (((opsL p).length : Nat) : Int)) = true := decide_eq_true n1
    have e : opAtF (rchT p c l) n ver = none := if_neg (by rw [hnd]; omega)
    repeat (first | refine RQ ?_ | ((first | refine WL_Q ?_ | refine WL_Y ?_); (first | refine QW_of (Qt_ldX rfl (hn := by with_reducible assumption)) ?_)) | (refine RE ?_; try intro _) | refine RC ?_ | refine WG 2 ?_ | refine WG 3 ?_)
    rw [e]
    exact ⟨rfl, _, _, Res2 rfl (resV_cellN rfl 0 rfl rfl) (resV_tmp rfl), .cons _ (.refl _), T ++ X, by rw [List.append_assoc], rfl⟩
  have d1 : decide (n ≥ (((opsL p).length : Nat) : Int)) = false := decide_eq_false n1
  have hin : 0 ≤ n ∧ n ≤ ((rchT p c l).nodes.length : Int) - 1 := by rw [hnd]; omega
  have wv : IntKind.i64.wrap (ver - 1) = ver - 1 := wI64 (by omega) (by omega)
  by_cases v0 : ver < 0
  · have d2 : decide (ver < 0) = true := decide_eq_true v0
    have e : opAtF (rchT p c l) n ver = none := by rw [opAtF, if_pos hin, if_neg (by omega), wv, nextF, if_neg (by omega)]; rfl
    repeat (first | refine RQ ?_ | ((first | refine WL_Q ?_ | refine WL_Y ?_); (first | refine QW_of (Qt_ldX rfl (hn := by with_reducible assumption)) ?_)) | (refine RE ?_; try intro _) | refine RC ?_ | refine WG 2 ?_ | refine WG 3 ?_)
    rw [e]
    exact ⟨rfl, _, _, Res2 rfl (resV_cellN rfl 0 rfl rfl) (resV_tmp rfl), .cons _ (.refl _), T ++ X, by rw [List.append_assoc], rfl⟩
  have d2 : decide (ver < 0) = false := decide_eq_false v0
  by_cases v1 : ver = 0
  · have d3 : (ver == 0) = true := by simpa using v1
    obtain ⟨o, ho⟩ : ∃ o, (opsL p)[n.toNat]? = some o := ⟨_, List.getElem?_eq_getElem (by omega)⟩
    have e : opAtF (rchT p c l) n ver = some o := by rw [opAtF, if_pos hin, if_pos v1, hnd, ho]
    obtain ⟨gb, go, gc, gcs, gE, gfr, gi, e2, _, _, hgi, hgx⟩ := (hT.vecM.mem (G' := (x6, Obj.cells (opC 0 0 0 0) 40 (0, 0)) :: (T ++ (X ++ M))) fun q hq => .tail _ (List.mem_append_left _ hq)).cell (by omega)
    cases e2
    obtain ⟨hx1, hx2⟩ := opL_ext hgx ho
    have p0 : (0 : Int) ≤ n := hin.1
    have p1 : n < (((opsL p).length : Nat) : Int) := by omega
    repeat (first | refine RQ ?_ | ((first | refine WL_Q ?_ | refine WL_Y ?_); (first | refine QW_of (Qt_ldX rfl (hn := by with_reducible assumption)) ?_)) | (refine RE ?_; try intro _) | refine RC ?_ | refine WG 2 ?_ | refine WG 4 ?_ | refine WG 5 ?_)
    rw [hx1]
    repeat (first | refine RQ ?_ | (refine WL_Q ?_; (first | refine QW_of (Qt_ldX rfl (hn := by with_reducible assumption)) ?_)) | (refine RE ?_; try intro _) | refine RC ?_ | refine WG 5 ?_)
    rw [e]
    exact ⟨rfl, _, _, Res2 rfl (resV_cellN rfl 0 rfl rfl) (resV_tmp rfl), .cons _ (.refl _), T ++ X, by rw [List.append_assoc], rfl⟩
  have d3 : (ver == 0) = false := by simpa using v1
  have e : opAtF (rchT p c l) n ver = (nextF (rchT p c l) n (IntKind.i64.wrap (ver - 1))).map CmV.op := by rw [opAtF, if_pos hin, if_neg v1]
  repeat (first | refine RQ ?_ | ((first | refine WL_Q ?_ | refine WL_Y ?_); (first | refine QW_of (Qt_ldX rfl (hn := by with_reducible assumption)) ?_)) | (refine RE ?_; try intro _) | refine RC ?_ | refine WG 2 ?_ | refine WG 4 ?_ | refine WG 6 ?_)
  refine WL_op rfl (OW_call rfl (hF := dNext_fn (ver := IntKind.i64.wrap (ver - 1)) (n := n) hR hO (M := (x6, Obj.cells (opC 0 0 0 0) 40 (0, 0)) :: (T ++ (X ++ M))) (.tail _ (List.mem_append_right _ (List.mem_append_right _ hM))) (fun q hq => .tail _ (List.mem_append_right _ (List.mem_append_right _ (hG q hq))))) (hk := ?_))
  rintro _ _ ⟨⟨bv, hcm, rfl⟩, rfl⟩
  have hall := hcm.all
  obtain ⟨cm, hcmd⟩ : ∃ cm, cm = (nextF (rchT p c l) n (IntKind.i64.wrap (ver - 1))).getD zeroC := ⟨_, rfl⟩
  rw [← hcmd] at hall hcm ⊢
  have hxo : (cmC cm bv).toArray.extract 5 (5 + 4) = opC cm.op.1 cm.op.2.1 cm.op.2.2.1 cm.op.2.2.2 := rfl
  have hxs : 5 + 4 ≤ (cmC cm bv).toArray.size := Nat.le_of_ble_eq_true rfl
  have hsz : (cmC cm bv).toArray.size = 10 := rfl
  repeat (first | refine RQ ?_ | (refine WL_Q ?_; (first | refine QW_of (Qt_ldX rfl (hn := by with_reducible assumption)) ?_)) | (refine RE ?_; try intro _) | refine RC ?_ | refine WG 6 ?_ | refine WG 7 ?_)
  rw [hxo]
  repeat (first | refine RQ ?_ | (refine WL_Q ?_; (first | refine QW_of (Qt_ldX rfl (hn := by with_reducible assumption)) ?_)) | (refine RE ?_; try intro _) | refine RC ?_ | refine WG 7 ?_)
  have e2 : (opAtF (rchT p c l) n ver).getD (0, 0, 0, 0) = cm.op := by
    rw [e, hcmd]
    cases nextF (rchT p c l) n (IntKind.i64.wrap (ver - 1)) <;> rfl
  have e3 : (opAtF (rchT p c l) n ver).isSome = (nextF (rchT p c l) n (IntKind.i64.wrap (ver - 1))).isSome := by rw [e, Option.isSome_map]
  rw [e2, e3]
  exact ⟨rfl, _, _, Res2 rfl (resV_cellN rfl 1 rfl rfl) (resV_tmp rfl), .cons _ (.cons _ (.refl _)), T ++ X, by rw [List.append_assoc], rfl⟩
set_option maxHeartbeats 8000000 in
theorem dReplace_fn {rb : Nat} {x : CmV} {bv : Value} {cs : Array Value} {p : PlV} {c : CfV} {l : List CmV} {G M : List (Nat × Obj)} (hR : RefAt cs G p c l) (hO : RfOk p c l) (hM : rfO rb cs ∈ M) (hG : ∀ q ∈ G, q ∈ M) : Fn Tryz.prog 63 [.pointer (some ⟨rb, 0, none⟩), .agg (cmC x bv).toArray] M (fun v L' => ∃ X, L' = X ++ M ∧ v = iV (replF (rchT p c l) x)) := by
  obtain ⟨pv, lv, lc, kn, sv, h1, h2, h3, h4, h5, h6⟩ := id hR
  have hnd := hO.nds
  have h14 := hO.tb.nds
  rw [hnd] at h14
  have hn14 : (nodesL p).length ≤ 1000 := by rw [opsL, List.length_map] at h14; omega
  have hxp := h1.p
  have hxz : 0 + 4 ≤ cs.size := by rw [h1.z]; decide
  have hsz : (cmC x bv).toArray.size = 10 := rfl
  have hxo : (cmC x bv).toArray.extract 5 (5 + 4) = opC x.op.1 x.op.2.1 x.op.2.2.1 x.op.2.2.2 := rfl
  have hxs : 5 + 4 ≤ (cmC x bv).toArray.size := Nat.le_of_ble_eq_true rfl
  obtain ⟨i0, hi0⟩ := List.mem_iff_getElem?.1 hM
  refine Fn_enter Tryz.func63 rfl Tryz.ntmps63 rfl fun g => ?_
  repeat (first | refine RQ ?_ | (refine WL_Q ?_; (first | refine QW_of (Qt_ldX rfl (hn := by with_reducible assumption)) ?_)) | (refine RE ?_; try intro _) | refine RC ?_ | refine WG 0 ?_)
  rename_i x3
  have hi1 : ((x3, Obj.cells (cmC x bv).toArray 42 (0, 0)) :: M)[i0 + 1]? = some (rfO rb cs) := hi0
  repeat (first | refine RQ ?_ | (refine WL_Q ?_; (first | refine QW_of (Qt_ldX rfl (hn := by with_reducible assumption)) ?_)) | refine RC ?_ | refine WG 1 ?_)
  rw [hxp]
  refine WL_op rfl (OW_call rfl (hF := dNodes_fn (h2.mem fun q hq => .tail _ (hG q hq)) hn14) (hk := ?_))
  rintro v8 _ ⟨T, X, rfl, hT⟩
  obtain ⟨a8, c8, rfl, _, _⟩ := id hT.val
  repeat (first | refine RQ ?_ | (refine WL_Q ?_; (first | refine QW_of (Qt_ldX rfl (hn := by with_reducible assumption)) ?_)) | refine RC ?_ | refine WG 1 ?_)
  refine WC_permT (L' := (x3, Obj.cells (cmC x bv).toArray 42 (0, 0)) :: (T ++ (X ++ M))) ?_ ?_
  · rw [← List.append_assoc, ← List.append_assoc]
    exact List.perm_middle.symm
  refine WC_wk [(5, .slice a8 (opsL p).length c8), (3, .pointer (some ⟨x3, 0, none⟩))] ⟨rfl, rfl, trivial⟩ ?_
  unfold replF
  rw [hnd]
  by_cases n0 : x.node < 0
  · have d0 : decide (x.node < 0) = true := decide_eq_true n0
    rw [if_pos (by omega)]
    repeat (first | refine RQ ?_ | ((first | refine WL_Q ?_ | refine WL_Y ?_); (first | refine QW_of (Qt_ldX rfl (hn := by with_reducible assumption)) ?_)) | refine RC ?_ | refine WG 2 ?_ | refine WG 3 ?_)
    exact ⟨rfl, _, _, Res1 rfl (resV_tmp rfl), .cons _ (.refl _), T ++ X, by rw [List.append_assoc], rfl⟩
  have d0 : decide (x.node < 0) = false := decide_eq_false n0
  by_cases n1 : x.node ≥ ((opsL p).length : Int)
  · have d1 : decide (x.node ≥ (((opsL p).length : Nat) : Int)) = true := decide_eq_true n1
    rw [if_pos (by omega)]
    repeat (first | refine RQ ?_ | ((first | refine WL_Q ?_ | refine WL_Y ?_); (first | refine QW_of (Qt_ldX rfl (hn := by with_reducible assumption)) ?_)) | refine RC ?_ | refine WG 2 ?_ | refine WG 3 ?_)
    exact ⟨rfl, _, _, Res1 rfl (resV_tmp rfl), .cons _ (.refl _), T ++ X, by rw [List.append_assoc], rfl⟩
  have d1 : decide (x.node ≥ (((opsL p).length : Nat) : Int)) = false := decide_eq_false n1
  by_cases m0 : x.mode < 0
  · have d2 : decide (x.mode < 0) = true := decide_eq_true m0
    rw [if_pos (by omega)]
    repeat (first | refine RQ ?_ | ((first | refine WL_Q ?_ | refine WL_Y ?_); (first | refine QW_of (Qt_ldX rfl (hn := by with_reducible assumption)) ?_)) | refine RC ?_ | refine WG 2 ?_ | refine WG 3 ?_)
    exact ⟨rfl, _, _, Res1 rfl (resV_tmp rfl), .cons _ (.refl _), T ++ X, by rw [List.append_assoc], rfl⟩
  have d2 : decide (x.mode < 0) = false := decide_eq_false m0
  by_cases m2 : x.mode > 2
  · have d3 : decide (x.mode > 2) = true := decide_eq_true m2
    rw [if_pos (by omega)]
    repeat (first | refine RQ ?_ | ((first | refine WL_Q ?_ | refine WL_Y ?_); (first | refine QW_of (Qt_ldX rfl (hn := by with_reducible assumption)) ?_)) | refine RC ?_ | refine WG 2 ?_ | refine WG 3 ?_)
    exact ⟨rfl, _, _, Res1 rfl (resV_tmp rfl), .cons _ (.refl _), T ++ X, by rw [List.append_assoc], rfl⟩
  have d3 : decide (x.mode > 2) = false := decide_eq_false m2
  rw [if_neg (by omega)]
  cases hop : x.op.ok
  · have d4 : ((if opF x.op.1 x.op.2.1 x.op.2.2.1 x.op.2.2.2 = true then (0 : Int) else 13) != 0) = true := by rw [if_neg (by rw [show opF x.op.1 x.op.2.1 x.op.2.2.1 x.op.2.2.2 = false from hop]; decide)]; rfl
    rw [if_pos rfl]
    repeat (first | refine RQ ?_ | ((first | refine WL_Q ?_ | refine WL_Y ?_); (first | refine QW_of (Qt_ldX rfl (hn := by with_reducible assumption)) ?_)) | ((first | refine WL_op rfl ?_ | refine WL_yes (h := ?_)); (first | refine OW_callP rfl (hF := dCheck_fn) (hk := ?_))) | refine RC ?_ | refine WG 2 ?_ | refine WG 4 ?_ | refine WG 5 ?_)
    exact ⟨rfl, _, _, Res1 rfl (resV_tmp rfl), .cons _ (.refl _), T ++ X, by rw [List.append_assoc], rfl⟩
  have d4 : ((if opF x.op.1 x.op.2.1 x.op.2.2.1 x.op.2.2.2 = true then (0 : Int) else 13) != 0) = false := by rw [if_pos (show opF x.op.1 x.op.2.1 x.op.2.2.1 x.op.2.2.2 = true from hop)]; rfl
  rw [if_neg (by decide)]
  obtain ⟨o, ho⟩ : ∃ o, (opsL p)[x.node.toNat]? = some o := ⟨_, List.getElem?_eq_getElem (by omega)⟩
  obtain ⟨gb, go, gc, gcs, gE, gfr, gi, e2, _, _, hgi, hgx⟩ := (hT.vecM.mem (G' := (x3, Obj.cells (cmC x bv).toArray 42 (0, 0)) :: (T ++ (X ++ M))) fun q hq => .tail _ (List.mem_append_left _ hq)).cell (by omega)
  cases e2
  obtain ⟨hx1, hx2⟩ := opL_ext hgx ho
  have p0 : (0 : Int) ≤ x.node := by omega
  have p1 : x.node < (((opsL p).length : Nat) : Int) := by omega
  rw [ho]
  repeat (first | refine RQr ?_ | ((first | refine WL_Q ?_ | refine WL_Y ?_ | refine WR_Q rfl ?_ | refine WR_late rfl rfl rfl (OW_Q ?_) | refine WR_Y rfl ?_); (first | refine QW_of (Qt_ldX rfl (hn := by with_reducible assumption)) ?_)) | ((first | refine WL_op rfl ?_ | refine WL_yes (h := ?_) | refine WR_late rfl rfl rfl ?_ | refine WR_opG rfl rfl ?_ | refine WR_opYG rfl (h := ?_)); (first | refine OW_callP rfl (hF := dCheck_fn) (hk := ?_) | refine OW_callP rfl (hF := dClass_fn) (hk := ?_)); try refine SD ?_) | refine RC ?_ | refine RU ?_ | refine WC_draw_all (id := 6) 10 (Cs [0,1,3,4,5,6,7] <| .must 2 <| .must 8 <| .calm 9 <| .done) mixed (by kernel_rfl) ?_ | refine WG 2 ?_ | refine WG 4 ?_)
  rw [hx1]
  show WR _ _ _ _ _ _ _
  by_cases hc : clsF x.op.1 = clsF o.1
  · have d5 : (clsF x.op.1 != clsF o.1) = false := by simpa using hc
    rw [if_neg (show ¬ clsF x.op.1 ≠ clsF ((some o).getD (0, 0, 0, 0)).1 from fun h => h hc)]
    repeat (first | refine RQr ?_ | (refine RX ?_; (first | refine QW_of (Qt_ldX rfl (hn := by with_reducible assumption)) ?_)) | (refine OX ?_; (first | refine OW_callP rfl (hF := dClass_fn) (hk := ?_)); try refine SD ?_) | refine RC ?_ | refine RU ?_ | refine WC_draw_all (id := 6) 10 (Cs [0,1,3,4,5,6,7] <| .must 2 <| .must 8 <| .calm 9 <| .done) mixed (by kernel_rfl) ?_ | refine WG 8 ?_)
    exact ⟨rfl, _, _, Res1 rfl (resV_tmp rfl), .cons _ (.refl _), T ++ X, by rw [List.append_assoc], rfl⟩
  · have d5 : (clsF x.op.1 != clsF o.1) = true := by simpa using hc
    rw [if_pos (show clsF x.op.1 ≠ clsF ((some o).getD (0, 0, 0, 0)).1 from hc)]
    repeat (first | refine RQr ?_ | (refine RX ?_; (first | refine QW_of (Qt_ldX rfl (hn := by with_reducible assumption)) ?_)) | (refine OX ?_; (first | refine OW_callP rfl (hF := dClass_fn) (hk := ?_)); try refine SD ?_) | refine RC ?_ | refine RU ?_ | refine WC_draw_all (id := 6) 10 (Cs [0,1,3,4,5,6,7] <| .must 2 <| .must 8 <| .calm 9 <| .done) mixed (by kernel_rfl) ?_ | refine WG 7 ?_)
    exact ⟨rfl, _, _, Res1 rfl (resV_tmp rfl), .cons _ (.refl _), T ++ X, by rw [List.append_assoc], rfl⟩
end Go.Proofs.YtncgndcepoicbaaGreat
