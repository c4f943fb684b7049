/-
  A part of what the last of these texts needs; by itself it proves no statement.
-/
import Derived.Test.YtncgndcepoicbaaGreatKL132
namespace Go.Proofs.YtncgndcepoicbaaGreat
open Go.RowKit
def rchT (p : PlV) (c : CfV) (l : List CmV) : TbV := l.foldl addF (newT p c)
theorem rchT_snoc (p : PlV) (c : CfV) (l : List CmV) (x : CmV) : rchT p c (l ++ [x]) = addF (rchT p c l) x := by simp [rchT]
theorem rchT_take {p : PlV} {c : CfV} {l : List CmV} {i : Nat} {x : CmV} (h : l[i]? = some x) : rchT p c (l.take (i + 1)) = addF (rchT p c (l.take i)) x := by
  rw [List.take_add_one, h]; exact rchT_snoc ..
structure RfOk (p : PlV) (c : CfV) (l : List CmV) : Prop where
  pl : (planF p).2 = 0
  cf : rightF c = true
  all : ∀ (i : Nat) x, l[i]? = some x → ∃ fl, tryF (rchT p c (l.take i)) x fl = 0
theorem RfOk.take {p : PlV} {c : CfV} {l : List CmV} (h : RfOk p c l) (i : Nat) : RfOk p c (l.take i) := ⟨h.pl, h.cf, fun j x hj => by
  rw [List.getElem?_take] at hj
  split at hj
  · obtain ⟨fl, hf⟩ := h.all j x hj
    exact ⟨fl, by rw [List.take_take, Nat.min_eq_left (by omega)]; exact hf⟩
  · cases hj⟩
theorem RfOk.snoc {p : PlV} {c : CfV} {l : List CmV} (h : RfOk p c l) {x : CmV} {fl : Int} (hx : tryF (rchT p c l) x fl = 0) : RfOk p c (l ++ [x]) := ⟨h.pl, h.cf, fun j y hj => by
  by_cases hl : j < l.length
  · rw [List.getElem?_append_left hl] at hj
    rw [List.take_append_of_le_length (by omega)]
    exact h.all j y hj
  · have hj2 := (List.getElem?_eq_some_iff.1 hj).1
    rw [List.length_append] at hj2
    simp only [List.length_cons, List.length_nil] at hj2
    obtain rfl : j = l.length := by omega
    rw [List.getElem?_append_right (Nat.le_refl _), Nat.sub_self] at hj
    cases hj
    exact ⟨fl, by rw [List.take_left]; exact hx⟩⟩
theorem rchT_all {p : PlV} {c : CfV} : ∀ {n : Nat} {l : List CmV}, l.length = n → RfOk p c l → TbOk (rchT p c l) ∧ (rchT p c l).cmds = l ∧ (rchT p c l).cf = c ∧ (rchT p c l).nodes = opsL p
  | 0, l, hn, h => by
    obtain rfl := List.eq_nil_of_length_eq_zero hn
    exact ⟨newT_ok h.pl h.cf, rfl, rfl, rfl⟩
  | n + 1, l, hn, h => by
    obtain ⟨x, hx⟩ : ∃ x, l[n]? = some x := ⟨_, List.getElem?_eq_getElem (by omega)⟩
    have e : l = l.take n ++ [x] := by
      have := List.take_add_one (l := l) (i := n)
      rw [hx, List.take_of_length_le (by omega)] at this
      exact this
    obtain ⟨h1, h2, h3, h4⟩ := rchT_all (n := n) (l := l.take n) (by rw [List.length_take]; omega) (h.take n)
    obtain ⟨fl, hf⟩ := h.all n x hx
    rw [e, rchT_snoc]
    refine ⟨addF_ok h1 hf, by rw [addF_cmds, h2], ?_, by rw [addF_nodes, h4]⟩
    refine Eq.trans ?_ h3
    unfold addF
    split
    · rfl
    split
    · rfl
    split <;> rfl
theorem RfOk.tb {p : PlV} {c : CfV} {l : List CmV} (h : RfOk p c l) : TbOk (rchT p c l) := (rchT_all rfl h).1
theorem RfOk.cmds {p : PlV} {c : CfV} {l : List CmV} (h : RfOk p c l) : (rchT p c l).cmds = l := (rchT_all rfl h).2.1
theorem RfOk.cf_ {p : PlV} {c : CfV} {l : List CmV} (h : RfOk p c l) : (rchT p c l).cf = c := (rchT_all rfl h).2.2.1
theorem RfOk.nds {p : PlV} {c : CfV} {l : List CmV} (h : RfOk p c l) : (rchT p c l).nodes = opsL p := (rchT_all rfl h).2.2.2
theorem RfOk.few {p : PlV} {c : CfV} {l : List CmV} (h : RfOk p c l) : l.length ≤ 64 := by have := h.tb.few; rwa [h.cmds] at this
def isA (t : TbV) : Array Value := #[.bool (decide ((0 : Int) ∈ t.act)), .bool (decide ((1 : Int) ∈ t.act)), .bool (decide ((2 : Int) ∈ t.act)), .bool (decide ((3 : Int) ∈ t.act))]
theorem isA_at (t : TbV) {j : Nat} (h : j < 4) : (isA t)[j]? = some (.bool (decide ((j : Int) ∈ t.act))) := by
  have : j = 0 ∨ j = 1 ∨ j = 2 ∨ j = 3 := by omega
  rcases this with rfl | rfl | rfl | rfl <;> rfl
theorem act_add {t : TbV} {x : CmV} {fl : Int} (hx : tryF t x fl = 0) (w : Int) : w ∈ (addF t x).act ↔ if (x.kind = 1 ∨ x.kind = 2) ∧ w = x.to then x.kind = 1 else w ∈ t.act := by
  rcases tryF_kinds hx with ⟨k, _⟩ | ⟨k, _⟩ | ⟨k, _⟩ | ⟨k, _⟩
  · rw [if_neg (by omega), addF, if_pos k]
  · rw [addF, if_neg (by omega), if_pos k]
    show w ∈ insF x.to t.act ↔ _
    rw [insF_mem]
    by_cases h : w = x.to
    · rw [if_pos ⟨.inl k, h⟩]; simp [h, k]
    · rw [if_neg (fun q => h q.2)]; simp [h]
  · rw [addF, if_neg (by omega), if_neg (by omega), if_pos k]
    show w ∈ t.act.filter _ ↔ _
    rw [List.mem_filter]
    by_cases h : w = x.to
    · rw [if_pos ⟨.inr k, h⟩]; simp [h]; omega
    · rw [if_neg (fun q => h q.2)]; simp [h]
  · rw [if_neg (by omega), addF, if_neg (by omega), if_neg (by omega), if_neg (by omega)]
theorem isA_set {t : TbV} {x : CmV} {fl : Int} (hx : tryF t x fl = 0) (hk : x.kind = 1 ∨ x.kind = 2) (h1 : 1 ≤ x.to ∧ x.to ≤ 3) : (isA t).setIfInBounds x.to.toNat (.bool (x.kind == 1)) = isA (addF t x) := by
  have key : ∀ j : Nat, (decide ((j : Int) ∈ (addF t x).act)) = if (j : Int) = x.to then (x.kind == 1) else decide ((j : Int) ∈ t.act) := fun j => by
    have := act_add hx (j : Int)
    by_cases h : (j : Int) = x.to
    · rw [if_pos h]
      rw [if_pos ⟨hk, h⟩] at this
      rw [Bool.eq_iff_iff]
      simp [this]
    · rw [if_neg h]
      rw [if_neg (fun q => h q.2)] at this
      exact decide_eq_decide.2 this
  have k0 := key 0; have k1 := key 1; have k2 := key 2; have k3 := key 3
  simp only [Int.natCast_zero, Int.natCast_one] at k0 k1
  unfold isA
  have k2 : decide ((2 : Int) ∈ (addF t x).act) = if (2 : Int) = x.to then (x.kind == 1) else decide ((2 : Int) ∈ t.act) := k2
  have k3 : decide ((3 : Int) ∈ (addF t x).act) = if (3 : Int) = x.to then (x.kind == 1) else decide ((3 : Int) ∈ t.act) := k3
  rw [k0, k1, k2, k3]
  generalize x.to = z at h1
  have : z = 1 ∨ z = 2 ∨ z = 3 := by omega
  rcases this with rfl | rfl | rfl <;> rfl
theorem isA_same {t : TbV} {x : CmV} {fl : Int} (hx : tryF t x fl = 0) (hk : ¬ (x.kind = 1 ∨ x.kind = 2)) : isA (addF t x) = isA t := by
  have key : ∀ w : Int, (decide (w ∈ (addF t x).act)) = decide (w ∈ t.act) := fun w => decide_eq_decide.2 (by rw [act_add hx, if_neg (fun q => hk q.1)])
  unfold isA
  rw [key, key, key, key]
theorem act_filter {t : TbV} (h : TbOk t) : ([1, 2, 3] : List Int).filter (fun w => decide (w ∈ t.act)) = t.act := by
  have hp : (([1, 2, 3] : List Int).filter (fun w => decide (w ∈ t.act))).Perm t.act := by
    rw [List.perm_ext_iff_of_nodup]
    · intro w
      rw [List.mem_filter]
      simp only [decide_eq_true_eq]
      constructor
      · exact fun q => q.2
      · intro hw
        have := h.one w hw
        have := h.wk
        have hc : w = 1 ∨ w = 2 ∨ w = 3 := by omega
        exact ⟨by rcases hc with rfl | rfl | rfl <;> simp, hw⟩
    · exact List.Pairwise.filter _ (by decide)
    · exact h.rise.imp fun q => by omega
  refine hp.eq_of_pairwise (le := fun a b : Int => a ≤ b) (fun a b _ _ h1 h2 => Int.le_antisymm h1 h2) ?_ h.riseLe
  exact List.Pairwise.filter _ (by decide)
structure RfC (cs : Array Value) (pv : Array Value) (c : CfV) (lv : Value) (kn : Int) (sv : Nat → Value) : Prop where
  z : cs.size = 19
  one : (cs.toList.all fun v => v.oneCell') = true
  p : cs.extract 0 (0 + 4) = pv
  c4 : cs[4]? = some (iV c.1)
  c5 : cs[5]? = some (iV c.2.1)
  c6 : cs[6]? = some (iV c.2.2.1)
  c7 : cs[7]? = some (iV c.2.2.2.1)
  c8 : cs[8]? = some (iV c.2.2.2.2)
  l : cs[9]? = some lv
  k : cs[10]? = some (iV kn)
  a : ∀ b, b < 8 → cs[11 + b]? = some (sv b)
def RefAt (cs : Array Value) (G : List (Nat × Obj)) (p : PlV) (c : CfV) (l : List CmV) : Prop := ∃ pv lv lc kn sv, RfC cs pv c lv kn sv ∧ PlAt G pv p ∧ VecM 10 G lv l.length lc.flatten ∧ CmsAt G lc l ∧ (0 ≤ kn ∧ kn ≤ (l.length : Int) + 1) ∧ (kn = (l.length : Int) + 1 → SpIn G sv (rchT p c l).spans)
theorem RefAt.mem {cs : Array Value} {G G' : List (Nat × Obj)} {p : PlV} {c : CfV} {l : List CmV} (h : RefAt cs G p c l) (hs : ∀ q ∈ G, q ∈ G') : RefAt cs G' p c l := by
  obtain ⟨pv, lv, lc, kn, sv, h1, h2, h3, h4, h5, h6⟩ := h
  exact ⟨pv, lv, lc, kn, sv, h1, h2.mem hs, h3.mem hs, h4.mem hs, h5, fun e => (h6 e).mem hs⟩
abbrev rfO (rb : Nat) (cs : Array Value) : Nat × Obj := (rb, Obj.cells cs 113 (0, 0))
attribute [local irreducible] Fn WC WL WR OW Qt YieldFn QW FnP FnD FnE
set_option maxHeartbeats 4000000 in
theorem dactive_fn {rb n : Nat} {cs : Array Value} {p : PlV} {c : CfV} {l : List CmV} {G : List (Nat × Obj)} (hR : RefAt cs G p c l) (hO : RfOk p c l) (hn : n ≤ l.length) {M : List (Nat × Obj)} (hM : rfO rb cs ∈ M) (hG : ∀ q ∈ G, q ∈ M) : Fn Tryz.prog 115 [.pointer (some ⟨rb, 0, none⟩), iV n] M (fun v L' => ∃ T, L' = T ++ M ∧ BufI v T (rchT p c (l.take n)).act) := by
  obtain ⟨pv, lv, lc, kn, sv, h1, h2, h3, h4, h5, h6⟩ := hR
  have hl64 := hO.few
  have hc5 := h1.c5
  have hc9 := h1.l
  obtain ⟨_, al, cl, rfl, _, hcl, _⟩ := id h3
  obtain ⟨i0, hi0⟩ := List.mem_iff_getElem?.1 hM
  have hr := of_decide_eq_true hO.cf
  obtain ⟨a, ha⟩ : ∃ a : Nat, c.2.1 = (a : Int) := ⟨c.2.1.toNat, by omega⟩
  refine Fn_enter Tryz.func115 rfl Tryz.ntmps115 rfl fun g => ?_
  repeat (first | refine RQ ?_ | (refine WL_Q ?_; (first | refine QW_of (Qt_ldX rfl (hn := by with_reducible assumption)) ?_)) | (refine RE ?_; try intro _) | refine RC ?_ | refine WG 0 ?_ | refine WG 1 ?_ | refine WG 2 ?_)
  rename_i x5
  have hi1 : ∀ B : Array Value, ((x5, Obj.cells B 219 (0, 0)) :: M)[i0 + 1]? = some (rfO rb cs) := fun _ => hi0
  refine WC_wk [(6, iV (((0 : Nat) : Int) + 1)), (5, .pointer (some ⟨x5, 0, none⟩)), (0, .pointer (some ⟨rb, 0, none⟩)), (1, iV (n : Int))] ⟨rfl, rfl, rfl, rfl, trivial⟩ ?_
  refine WC_loop (fun m σ => ∃ k : Nat, m = a - k ∧ k ≤ a ∧ σ = ⟨[(6, iV ((k : Int) + 1)), (5, .pointer (some ⟨x5, 0, none⟩)), (0, .pointer (some ⟨rb, 0, none⟩)), (1, iV (n : Int))], [], (x5, Obj.cells #[.bool false, .bool (decide (1 ≤ k)), .bool (decide (2 ≤ k)), .bool (decide (3 ≤ k))] 219 (0, 0)) :: M⟩) a ⟨0, rfl, Nat.zero_le _, rfl⟩ ?_
  rintro _ σ ⟨k, rfl, hk, rfl⟩
  have hi2 := hi1 #[.bool false, .bool (decide (1 ≤ k)), .bool (decide (2 ≤ k)), .bool (decide (3 ≤ k))]
  by_cases hlt : k < a
  · have d1 : decide ((k : Int) + 1 ≤ c.2.1) = true := decide_eq_true (by omega)
    have w : IntKind.i64.wrap ((k : Int) + 1 + 1) = ((k + 1 : Nat) : Int) + 1 := by rw [wI64 (by omega) (by omega)]; omega
    have p0 : (0 : Int) ≤ (k : Int) + 1 := by omega
    have p1 : (k : Int) + 1 < ((4 : Nat) : Int) := by omega
    have s1 : ((k : Int) + 1).toNat * 1 < (#[.bool false, .bool (decide (1 ≤ k)), .bool (decide (2 ≤ k)), .bool (decide (3 ≤ k))] : Array Value).size := by show _ < 4; omega
    repeat (first | refine RQ ?_ | (refine WL_Q ?_; (first | refine QW_of (Qt_ldX rfl (hn := by with_reducible assumption)) ?_)) | (refine RE ?_; try intro _) | refine RC ?_ | refine WG 3 ?_ | refine WG 5 ?_ | refine WG 4 ?_)
    rw [w]
    refine ⟨_, _, by omega, ⟨k + 1, rfl, by omega, rfl⟩, ⟨rfl, rfl, rfl, rfl, trivial⟩, rfl, ?_⟩
    have e : (#[.bool false, .bool (decide (1 ≤ k)), .bool (decide (2 ≤ k)), .bool (decide (3 ≤ k))] : Array Value).setIfInBounds (((k : Int) + 1).toNat * 1) (.bool true) = #[.bool false, .bool (decide (1 ≤ k + 1)), .bool (decide (2 ≤ k + 1)), .bool (decide (3 ≤ k + 1))] := by
      have hk3 : k = 0 ∨ k = 1 ∨ k = 2 := by omega
      rcases hk3 with rfl | rfl | rfl <;> rfl
    rw [e]
    exact .refl _
  have d1 : decide ((k : Int) + 1 ≤ c.2.1) = false := decide_eq_false (by omega)
  obtain rfl : k = a := by omega
  repeat (first | refine RQ ?_ | (refine WL_Q ?_; (first | refine QW_of (Qt_ldX rfl (hn := by with_reducible assumption)) ?_)) | refine RC ?_ | refine WG 3 ?_ | refine WG 6 ?_)
  have e0 : #[.bool false, .bool (decide (1 ≤ k)), .bool (decide (2 ≤ k)), .bool (decide (3 ≤ k))] = isA (rchT p c (l.take 0)) := by
    have hk3 : k = 1 ∨ k = 2 ∨ k = 3 := by omega
    have hact : (rchT p c (l.take 0)).act = [1, 2, 3].take k := by
      rw [List.take_zero]
      show ([1, 2, 3].take c.2.1.toNat : List Int) = _
      rw [ha]; rfl
    unfold isA
    rw [hact]
    rcases hk3 with rfl | rfl | rfl <;> rfl
  rw [e0]
  refine WC_wk [(7, iV ((0 : Nat) : Int)), (5, .pointer (some ⟨x5, 0, none⟩)), (0, .pointer (some ⟨rb, 0, none⟩)), (1, iV (n : Int))] ⟨rfl, rfl, rfl, rfl, trivial⟩ ?_
  refine WC_loop (fun m σ => ∃ k : Nat, m = n - k ∧ k ≤ n ∧ σ = ⟨[(7, iV (k : Int)), (5, .pointer (some ⟨x5, 0, none⟩)), (0, .pointer (some ⟨rb, 0, none⟩)), (1, iV (n : Int))], [], (x5, Obj.cells (isA (rchT p c (l.take k))) 219 (0, 0)) :: M⟩) n ⟨0, rfl, Nat.zero_le _, rfl⟩ ?_
  rintro _ σ ⟨k2, rfl, hk2, rfl⟩
  have hi3 := hi1 (isA (rchT p c (l.take k2)))
  by_cases hlt2 : k2 < n
  · have d2 : decide ((k2 : Int) < ((n : Nat) : Int)) = true := decide_eq_true (by omega)
    have w : IntKind.i64.wrap ((k2 : Int) + 1) = ((k2 + 1 : Nat) : Int) := by rw [wI64 (by omega) (by omega)]; omega
    have p0 : (0 : Int) ≤ (k2 : Int) := by omega
    have p1 : (k2 : Int) < ((l.length : Nat) : Int) := by omega
    obtain ⟨x, hx⟩ : ∃ x, l[k2]? = some x := ⟨_, List.getElem?_eq_getElem (by omega)⟩
    obtain ⟨fl, hfl⟩ := hO.all k2 x hx
    have hstep := rchT_take (p := p) (c := c) hx
    obtain ⟨rb2, ro, rc, rcs, rE, rfr, ri, e, _, _, hri, hrx⟩ := (h3.mem (G' := (x5, Obj.cells (isA (rchT p c (l.take k2))) 219 (0, 0)) :: M) fun q hq => .tail _ (hG q hq)).cell (by omega)
    cases e
    obtain ⟨lx, ⟨bv, rfl, _⟩, hlx⟩ := h4.get hx
    have c0 : rcs[ro + ((k2 : Nat) : Int).toNat * 10]? = some (iV x.kind) := by rw [Int.toNat_natCast]; exact hrx _ _ (by rw [← Nat.add_zero (k2 * 10), hlx 0 (by decide)]; rfl)
    have c3 : rcs[ro + ((k2 : Nat) : Int).toNat * 10 + 3]? = some (iV x.to) := by rw [Int.toNat_natCast, Nat.add_assoc]; exact hrx _ _ (by rw [hlx 3 (by decide)]; rfl)
    have hTk := (hO.take k2).tb
    have hto : (x.kind = 1 ∨ x.kind = 2) → 1 ≤ x.to ∧ x.to ≤ 3 := fun h => by
      have hw := hTk.wk
      rcases tryF_kinds hfl with ⟨k, _⟩ | ⟨k, b1, b2, _⟩ | ⟨k, b1, _⟩ | ⟨k, _⟩
      · omega
      · omega
      · have := hTk.one _ b1; omega
      · omega
    have hsA : ∀ j : Nat, j < 4 → j * 1 < (isA (rchT p c (l.take k2))).size := fun j hj => by rw [Nat.mul_one]; exact hj
    by_cases hk12 : x.kind = 1 ∨ x.kind = 2
    · obtain ⟨t1, t3⟩ := hto hk12
      have q0 : (0 : Int) ≤ x.to := by omega
      have q1 : x.to < ((4 : Nat) : Int) := by omega
      have s1 := hsA x.to.toNat (by omega)
      have hfin := isA_set hfl hk12 ⟨t1, t3⟩
      rw [← hstep] at hfin
      rcases hk12 with hk1 | hk1
      · have e1 : (x.kind == 1) = true := by simpa using hk1
        repeat (first | refine RQr ?_ | ((first | refine WL_Q ?_ | refine WL_Y ?_ | refine WR_Q rfl ?_ | refine WR_late rfl rfl rfl (OW_Q ?_) | refine WR_Y rfl ?_); (first | refine QW_of (Qt_ldX rfl (hn := by with_reducible assumption)) ?_)) | ((first | refine WL_op rfl ?_ | refine WL_yes (h := ?_) | refine WR_late rfl rfl rfl ?_ | refine WR_opG rfl rfl ?_ | refine WR_opYG rfl (h := ?_)); (first | (refine OE ?_; try intro _)); try refine SD ?_) | refine RC ?_ | refine RU ?_ | refine WC_draw_all (id := 10) 18 (Cs [0,1,2,3,4,5,6,7,8,9,10,11,12,13,14,15,16,17] <| .must 18 <| .done) mixed (by kernel_rfl) ?_ | refine WG 7 ?_ | refine WG 9 ?_ | refine WG 8 ?_)
        rw [w, Nat.mul_one, hfin]
        exact ⟨_, _, by omega, ⟨k2 + 1, rfl, by omega, rfl⟩, ⟨rfl, rfl, rfl, rfl, trivial⟩, rfl, .refl _⟩
      · have e1 : (x.kind == 1) = false := by rw [hk1]; rfl
        have e2 : (x.kind == 2) = true := by simpa using hk1
        repeat (first | refine RQr ?_ | ((first | refine WL_Q ?_ | refine WL_Y ?_ | refine WR_Q rfl ?_ | refine WR_late rfl rfl rfl (OW_Q ?_) | refine WR_Y rfl ?_); (first | refine QW_of (Qt_ldX rfl (hn := by with_reducible assumption)) ?_)) | ((first | refine WL_op rfl ?_ | refine WL_yes (h := ?_) | refine WR_late rfl rfl rfl ?_ | refine WR_opG rfl rfl ?_ | refine WR_opYG rfl (h := ?_)); (first | (refine OE ?_; try intro _)); try refine SD ?_) | refine RC ?_ | refine RU ?_ | refine WC_draw_all (id := 10) 18 (Cs [0,1,2,3,4,5,6,7,8,9,10,11,12,13,14,15,16,17] <| .must 18 <| .done) mixed (by kernel_rfl) ?_ | refine WG 7 ?_ | refine WG 9 ?_ | refine WG 8 ?_)
        rw [w, Nat.mul_one, hfin]
        exact ⟨_, _, by omega, ⟨k2 + 1, rfl, by omega, rfl⟩, ⟨rfl, rfl, rfl, rfl, trivial⟩, rfl, .refl _⟩
    · have e1 : (x.kind == 1) = false := by rw [beq_eq_false_iff_ne]; omega
      have e2 : (x.kind == 2) = false := by rw [beq_eq_false_iff_ne]; omega
      have hfin := isA_same hfl hk12
      rw [← hstep] at hfin
      repeat (first | refine RQ ?_ | ((first | refine WL_Q ?_ | refine WL_Y ?_); (first | refine QW_of (Qt_ldX rfl (hn := by with_reducible assumption)) ?_)) | refine RC ?_ | refine WG 7 ?_ | refine WG 9 ?_ | refine WG 8 ?_)
      rw [w, ← hfin]
      exact ⟨_, _, by omega, ⟨k2 + 1, rfl, by omega, rfl⟩, ⟨rfl, rfl, rfl, rfl, trivial⟩, rfl, .refl _⟩
  have d2 : decide ((k2 : Int) < ((n : Nat) : Int)) = false := decide_eq_false (by omega)
  obtain rfl : k2 = n := by omega
  have hTn := (hO.take k2).tb
  obtain ⟨t, ht⟩ : ∃ t, t = rchT p c (l.take k2) := ⟨_, rfl⟩
  rw [← ht] at hTn ⊢
  repeat (first | refine RQ ?_ | (refine WL_Q ?_; (first | refine QW_of (Qt_ldX rfl (hn := by with_reducible assumption)) ?_)) | refine RC ?_ | refine WG 7 ?_ | refine WG 11 ?_ | refine WG 12 ?_)
  refine WC_wk [(9, iV (((0 : Nat) : Int) + 1)), (8, .slice none 0 0), (5, .pointer (some ⟨x5, 0, none⟩))] ⟨rfl, rfl, rfl, trivial⟩ ?_
  refine WC_loop (fun m σ => ∃ (k : Nat) (v : Value) (T : List (Nat × Obj)), m = 3 - k ∧ k ≤ 3 ∧ BufI v T ((([1, 2, 3] : List Int).take k).filter fun w => decide (w ∈ t.act)) ∧ σ = ⟨[(9, iV ((k : Int) + 1)), (8, v), (5, .pointer (some ⟨x5, 0, none⟩))], [], (x5, Obj.cells (isA t) 219 (0, 0)) :: (T ++ M)⟩) 3 ⟨0, _, [], rfl, by decide, Buf.nil _ _, rfl⟩ ?_
  rintro _ σ ⟨k, v, T, rfl, hk3, hT, rfl⟩
  obtain ⟨av, cv, rfl, _, _⟩ := Buf.val (id hT)
  by_cases hlt3 : k < 3
  · have d3 : decide ((k : Int) + 1 ≤ 3) = true := decide_eq_true (by omega)
    have w : IntKind.i64.wrap ((k : Int) + 1 + 1) = ((k + 1 : Nat) : Int) + 1 := by rw [wI64 (by omega) (by omega)]; omega
    have q0 : (0 : Int) ≤ (k : Int) + 1 := by omega
    have q1 : (k : Int) + 1 < ((4 : Nat) : Int) := by omega
    have hia : (isA t)[((k : Int) + 1).toNat * 1]? = some (.bool (decide ((k : Int) + 1 ∈ t.act))) := by
      rw [Nat.mul_one, show ((k : Int) + 1).toNat = k + 1 by omega]
      exact isA_at t (by omega)
    have htk : (([1, 2, 3] : List Int).take (k + 1)).filter (fun w => decide (w ∈ t.act)) = (([1, 2, 3] : List Int).take k).filter (fun w => decide (w ∈ t.act)) ++ (if (k : Int) + 1 ∈ t.act then [(k : Int) + 1] else []) := by
      have e : ([1, 2, 3] : List Int).take (k + 1) = ([1, 2, 3] : List Int).take k ++ [(k : Int) + 1] := by
        have : k = 0 ∨ k = 1 ∨ k = 2 := by omega
        rcases this with rfl | rfl | rfl <;> rfl
      rw [e, List.filter_append, List.filter_cons, List.filter_nil]
      simp only [decide_eq_true_eq]
    have hfl3 : ((([1, 2, 3] : List Int).take k).filter fun w => decide (w ∈ t.act)).length ≤ 3 := Nat.le_trans (List.length_filter_le _ _) (by rw [List.length_take]; exact Nat.min_le_right _ _)
    by_cases hin : (k : Int) + 1 ∈ t.act
    · have d4 : decide ((k : Int) + 1 ∈ t.act) = true := decide_eq_true hin
      rw [if_pos hin] at htk
      repeat (first | refine RQ ?_ | (refine WL_Q ?_; (first | refine QW_of (Qt_ldX rfl (hn := by with_reducible assumption)) ?_)) | (refine RE ?_; try intro _) | refine RC ?_ | refine WG 13 ?_ | refine WG 15 ?_ | refine WG 16 ?_)
      rename_i xs
      refine WL_op rfl (OW_append_buf (A := [(xs, Obj.cells #[iV ((k : Int) + 1)] 3 (0, 0)), (x5, Obj.cells (isA t) 219 (0, 0))]) (T := T) (B := M) rfl rfl rfl rfl rfl hT (src1 0 rfl) (by decide) (by simp only [maxLen]; omega) (by omega) ?_)
      intro v' T' hT'
      simp only [List.cons_append, List.nil_append]
      repeat (first | refine RQ ?_ | (refine WL_Q ?_; (first | refine QW_of (Qt_ldX rfl (hn := by with_reducible assumption)) ?_)) | (refine RE ?_; try intro _) | refine RC ?_ | refine WG 16 ?_ | refine WG 14 ?_)
      rw [w]
      refine ⟨_, _, by omega, ⟨k + 1, v', T', rfl, by omega, ?_, rfl⟩, ⟨rfl, rfl, rfl, trivial⟩, rfl, .cons _ (.refl _)⟩
      rw [htk]
      unfold BufI
      rw [List.length_append, List.map_append]
      exact hT'
    · have d4 : decide ((k : Int) + 1 ∈ t.act) = false := decide_eq_false hin
      rw [if_neg hin, List.append_nil] at htk
      repeat (first | refine RQ ?_ | (refine WL_Q ?_; (first | refine QW_of (Qt_ldX rfl (hn := by with_reducible assumption)) ?_)) | refine RC ?_ | refine WG 13 ?_ | refine WG 15 ?_ | refine WG 14 ?_)
      rw [w]
      exact ⟨_, _, by omega, ⟨k + 1, _, T, rfl, by omega, by rw [htk]; exact hT, rfl⟩, ⟨rfl, rfl, rfl, trivial⟩, rfl, .refl _⟩
  have d3 : decide ((k : Int) + 1 ≤ 3) = false := decide_eq_false (by omega)
  obtain rfl : k = 3 := by omega
  rw [show (([1, 2, 3] : List Int).take 3) = [1, 2, 3] from rfl, act_filter hTn] at hT ⊢
  repeat (first | refine RQ ?_ | (refine WL_Q ?_; (first | refine QW_of (Qt_ldX rfl (hn := by with_reducible assumption)) ?_)) | refine RC ?_ | refine WG 13 ?_ | refine WG 17 ?_)
  exact ⟨rfl, _, _, Res1 rfl (resV_tmp rfl), .cons _ (.refl _), T, rfl, hT⟩
end Go.Proofs.YtncgndcepoicbaaGreat
