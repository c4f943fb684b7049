/-
  A part of what the last of these texts needs; by itself it proves no statement.
-/
import Derived.Test.YtekmmhmhcpaiaaaGreatKP27
namespace Go.Proofs.YtekmmhmhcpaiaaaGreat
open Go.RowKit
theorem Qt_arrTo {c : Cx} {s : List (Nat × Value)} {L : List (Nat × Obj)} {o : Oper} {t E n len : Nat} [hu : TUnd c.P t (.array len E)] [hs : TSize c.P E n] {x hi : Operand} {b off : Nat} {k : IntKind} {l : Int} (ho : o.op = .slice t x none (some hi) none) (hx : ev s x = some (.pointer (some ⟨b, off, none⟩)) := by exact rfl) (hl : ev s hi = some (.int k l) := by exact rfl)
    (h0 : 0 ≤ l := by first | with_reducible assumption | decide | omega) (h1 : l ≤ len := by first | with_reducible assumption | decide | omega) : Qt c s L o (.slice (some ⟨b, off, none⟩) l.toNat len) :=
  Qt_of_run (by simp [ho]) (fun ρ hρ w _ => by
    have el : (l.toNat : Int) = l := Int.toNat_of_nonneg h0
    have : l.toNat ≤ len := by omega
    simp [execOp, ho, hρ x _ hx, hρ hi _ hl, Instr.sliceAt, Instr.sureAddr, run_underlying hu.h, Instr.sliceBounds, Instr.sliceBound, asIntOf, h0, h1, hs.h, Addr.add_mid])
instance : TBuildA Tryz.prog 169 zc169 1 := ⟨fun _ => by kernel_rfl⟩
def frA (to : List Int) (k : Nat) : Array Value := ((turnsL to k).map iV ++ List.replicate (8 - k) (iV 0)).toArray
theorem frA_size (to : List Int) {k : Nat} (h : k ≤ 8) : (frA to k).size = 8 := by simp [frA, turnsL_len]; omega
theorem frA_set (to : List Int) {k : Nat} (h : k < 8) {y : Int} (hy : to[k % to.length]? = some y) : (frA to k).setIfInBounds k (iV y) = frA to (k + 1) := by
  unfold frA
  rw [List.setIfInBounds_toArray, turnsL_succ, hy, show 8 - k = (8 - (k + 1)) + 1 by omega, List.replicate_succ]
  congr 1
  have hl : ((turnsL to k).map iV).length = k := by rw [List.length_map, turnsL_len]
  rw [List.set_append_right _ _ (by omega), hl, Nat.sub_self]
  simp
attribute [local irreducible] Fn WC WL WR OW Qt YieldFn QW FnP FnD FnE
set_option maxHeartbeats 4000000 in
theorem First_fn {n : Nat} (h1 : 1 ≤ n) (h3 : n ≤ 3) {L : List (Nat × Obj)} : Fn Tryz.prog 36 [iV n] L (fun v L' => v = .agg ((turnsL ([1, 2, 3].take n) 8).map iV).toArray ∧ L' = L) := by
  have d1 : decide ((n : Int) < 1) = false := decide_eq_false (by omega)
  have d2 : decide ((n : Int) > 3) = false := decide_eq_false (by omega)
  have p0 : (0 : Int) ≤ (n : Int) := by omega
  have p1 : (n : Int) ≤ ((3 : Nat) : Int) := by omega
  refine Fn_enterM Tryz.func36 rfl Tryz.ntmps36 rfl fun gw => ?_
  repeat (first | refine RQ ?_ | ((first | refine WL_Q ?_ | refine WL_Y ?_); (first | refine QW_of (Qt_buildA rfl) ?_ | refine QW_of (Qt_arrTo rfl) ?_)) | (refine RE ?_; try intro _) | ((first | refine WL_op rfl ?_ | refine WL_yes (h := ?_)); (first | (refine OW_call rfl (hF := turns_fn) (hk := ?_); rintro _ _ ⟨xt, rfl, rfl⟩))) | refine RC ?_ | refine WG 0 ?_ | refine WG 1 ?_ | refine WG 3 ?_ | refine WG 4 ?_ | refine WG 5 ?_)
  rename_i x2 x3 x4
  obtain ⟨to, hto⟩ : ∃ to : List Int, to = [1, 2, 3].take n := ⟨_, rfl⟩
  have htl : to.length = n := by rw [hto, List.length_take]; simp; omega
  rw [← hto]
  refine WC_wk [(16, .func (.func 119) #[] #[.pointer (some ⟨xt, 0, none⟩)]), (4, .pointer (some ⟨x4, 0, none⟩)), (2, .pointer (some ⟨x2, 0, none⟩))] ⟨rfl, rfl, rfl, trivial⟩ ?_
  let lay : Nat → List (Nat × Obj) := fun k => slO xt (.slice (some ⟨x3, 0, none⟩) n 3) :: (x4, Obj.cells #[iV k] 3 (0, 0)) :: (x3, Obj.cells #[iV 1, iV 2, iV 3] 169 (0, 0)) :: (x2, Obj.cells (frA to k) 108 (0, 0)) :: L
  refine WC_range rfl (fun y : Int => [iV y]) (fun _ => rfl) rfl (fun pre y => to[pre.length % to.length]? = some y) (fun xs => to = [] ∧ xs = [])
    (fun pre L' => pre.length < 8 ∧ L' = lay pre.length) (fun c L' => c = .exit 0 ∧ L' = lay 8) ?_ ?_ ?_ ?_
  · intro l d o1 o2 Jx hr
    refine (turns1_fn (to := to) (tv := .slice (some ⟨x3, 0, none⟩) n 3) (n := 8) (I := fun pre L' => pre.length < 8 ∧ L' = lay pre.length) ?_ hr ?_).mono ?_
    · rintro pre L' ⟨hp, rfl⟩
      refine ⟨by omega, ?_, 0, rfl⟩
      rw [htl]
      exact ⟨by simp [htl], _, _, rfl, h3, by show 3 ≤ maxLen; decide, .inr ⟨x3, 0, _, _, _, 2, rfl, rfl, fun j x hx => by rw [Nat.zero_add]; rw [hto, List.map_take, List.getElem?_take] at hx; split at hx; (· simpa using hx); cases hx⟩⟩
    · exact ⟨by decide, rfl⟩
    · rintro v L2 (⟨xs, L', h1, h2, h3⟩ | h)
      · exact .inl ⟨xs, L', h1, h2, h3⟩
      · exact .inr h
  · rintro g' n' l d pre y L' hdom ⟨hp, rfl⟩ ol od hol
    repeat (first | refine RQ ?_ | (refine WL_Q ?_; (first | refine QW_of (Qt_buildA rfl) ?_ | refine QW_of (Qt_arrTo rfl) ?_)) | refine RC ?_ | refine WG 6 ?_)
    refine ⟨rfl, _, [], _, rfl, fun ol' hol' => ?_⟩
    simp only [List.nil_append]
    obtain ⟨k, hk⟩ : ∃ k, k = pre.length := ⟨_, rfl⟩
    rw [← hk] at hdom hp ⊢
    have hpl : (pre ++ [y]).length = k + 1 := by rw [List.length_append, hk]; rfl
    have p0 : (0 : Int) ≤ (k : Int) := by omega
    have p1 : (k : Int) < ((8 : Nat) : Int) := by omega
    have s1 : ((k : Nat) : Int).toNat * 1 < (frA to k).size := by rw [frA_size to (by omega), Int.toNat_natCast]; omega
    have w : IntKind.i64.wrap ((k : Int) + 1) = ((k + 1 : Nat) : Int) := by rw [wI64 (by omega) (by omega)]; omega
    have hst : (frA to k).setIfInBounds (((k : Nat) : Int).toNat * 1) (iV y) = frA to (k + 1) := by rw [Int.toNat_natCast, Nat.mul_one]; exact frA_set to hp hdom
    repeat (first | refine RQ ?_ | (refine WL_Q ?_; (first | refine QW_of (Qt_buildA rfl) ?_ | refine QW_of (Qt_arrTo rfl) ?_)) | (refine RE ?_; try intro _) | refine RC ?_ | refine WG 7 ?_ | refine WG 8 ?_)
    rw [w, hst]
    by_cases h8 : k + 1 = 8
    · have e1 : (((k + 1 : Nat) : Int) == 8) = true := by rw [h8]; rfl
      repeat (first | refine RQ ?_ | (refine WL_Q ?_; (first | refine QW_of (Qt_buildA rfl) ?_ | refine QW_of (Qt_arrTo rfl) ?_)) | (refine RE ?_; try intro _) | refine RC ?_ | refine WG 8 ?_ | refine WG 9 ?_)
      have hk7 : k = 7 := by omega
      clear hk
      subst hk7
      exact ⟨lay 8, .refl _, rfl, rfl⟩
    · have e1 : (((k + 1 : Nat) : Int) == 8) = false := by rw [beq_eq_false_iff_ne]; omega
      repeat (first | refine RQ ?_ | (refine WL_Q ?_; (first | refine QW_of (Qt_buildA rfl) ?_ | refine QW_of (Qt_arrTo rfl) ?_)) | (refine RE ?_; try intro _) | refine RC ?_ | refine WG 8 ?_ | refine WG 9 ?_)
      exact ⟨lay (k + 1), .refl _, by rw [hpl]; omega, by rw [hpl]⟩
  · rintro d xs L' ⟨h, _⟩ _
    rw [h] at htl
    simp at htl
    omega
  · rintro d cj L' ⟨rfl, rfl⟩
    have hz : (frA to 8).size = 8 := frA_size to (by decide)
    repeat (first | refine RQ ?_ | (refine WL_Q ?_; (first | refine QW_of (Qt_buildA rfl) ?_ | refine QW_of (Qt_arrTo rfl) ?_)) | (refine RE ?_; try intro _) | refine RC ?_ | refine WG 10 ?_)
    exact ⟨_, ⟨d, 0, _, rfl, rfl, rfl, rfl⟩, _, _, Res1 rfl (resV_cellN rfl 4 rfl hz), .cons _ (.cons _ (.cons _ (.cons _ (.cons _ (.refl _))))), by simp [frA], rfl⟩
end Go.Proofs.YtekmmhmhcpaiaaaGreat
namespace Go.Proofs.YtekmmhmhcpaiaaaGreat
open Go.RowKit
abbrev StV := OpV × List OpV
structure PlV where
  pre : List OpV
  st : List StV
  late : Int
  ep : Int
abbrev NdV := (Int × Int) × OpV
def rowL (s : Int) : Int → List OpV → List NdV
  | _, [] => []
  | k, o :: r => ((s, k), o) :: rowL s (k + 1) r
def stsL : Int → List StV → List NdV
  | _, [] => []
  | s, x :: r => ((s, 0), x.1) :: (rowL s 1 x.2 ++ stsL (s + 1) r)
def nodesL (p : PlV) : List NdV := rowL 0 0 p.pre ++ stsL 1 p.st
theorem rowL_app (s : Int) : ∀ (k : Int) (a b : List OpV), rowL s k (a ++ b) = rowL s k a ++ rowL s (k + a.length) b
  | k, [], b => by simp [rowL]
  | k, o :: a, b => by
    rw [List.cons_append, rowL, rowL, rowL_app s (k + 1) a b, List.cons_append, List.length_cons]
    congr 3
    omega
theorem rowL_take {s k : Int} {l : List OpV} {i : Nat} {o : OpV} (h : l[i]? = some o) : rowL s k (l.take (i + 1)) = rowL s k (l.take i) ++ [((s, k + i), o)] := by
  have hi : i < l.length := (List.getElem?_eq_some_iff.1 h).1
  rw [List.take_add_one, h, rowL_app, List.length_take, Nat.min_eq_left (by omega)]
  rfl
theorem rowL_split {s k : Int} {l : List OpV} (i : Nat) (hi : i ≤ l.length) : rowL s k l = rowL s k (l.take i) ++ rowL s (k + i) (l.drop i) := by
  have := rowL_app s k (l.take i) (l.drop i)
  rw [List.take_append_drop, List.length_take, Nat.min_eq_left hi] at this
  exact this
theorem rowL_at {s k : Int} {l : List OpV} {i : Nat} {o : OpV} (h : l[i]? = some o) : (rowL s k (l.take i) ++ [((s, k + i), o)]) <+: rowL s k l := by
  have hi : i < l.length := (List.getElem?_eq_some_iff.1 h).1
  rw [← rowL_take h, rowL_split (l := l) (i + 1) (by omega)]
  exact List.prefix_append _ _
theorem stsL_app : ∀ (s : Int) (a b : List StV), stsL s (a ++ b) = stsL s a ++ stsL (s + a.length) b
  | s, [], b => by simp [stsL]
  | s, o :: a, b => by
    rw [List.cons_append, stsL, stsL, stsL_app (s + 1) a b, List.cons_append, List.length_cons, List.append_assoc]
    congr 4
    omega
theorem stsL_split {l : List StV} {i : Nat} {x : StV} (h : l[i]? = some x) : stsL 1 l = stsL 1 (l.take i) ++ ((((i : Int) + 1, 0), x.1) :: (rowL ((i : Int) + 1) 1 x.2 ++ stsL ((i : Int) + 2) (l.drop (i + 1)))) := by
  have hi : i < l.length := (List.getElem?_eq_some_iff.1 h).1
  have e : l.drop i = x :: l.drop (i + 1) := by
    rw [List.drop_eq_getElem_cons hi]
    have := List.getElem?_eq_getElem hi
    rw [h] at this
    cases this
    rfl
  have := stsL_app 1 (l.take i) (l.drop i)
  rw [List.take_append_drop, List.length_take, Nat.min_eq_left (by omega), e, stsL] at this
  rw [this, show (1 : Int) + i = i + 1 by omega, show (i : Int) + 1 + 1 = i + 2 by omega]
theorem stsL_take {l : List StV} {i : Nat} {x : StV} (h : l[i]? = some x) : stsL 1 (l.take (i + 1)) = stsL 1 (l.take i) ++ ((((i : Int) + 1, 0), x.1) :: rowL ((i : Int) + 1) 1 x.2) := by
  have hi : i < l.length := (List.getElem?_eq_some_iff.1 h).1
  rw [List.take_add_one, h, stsL_app, List.length_take, Nat.min_eq_left (by omega), show (1 : Int) + i = i + 1 by omega]
  simp [stsL]
def checkF : Int → List NdV → Int × Int
  | _, [] => (-1, 0)
  | n, ((s, k), o) :: r => if o.ok = false then (n, 13) else if ((decide (s > 0) && (k == 0)) == (clsF o.1 == 0)) = true then (n, 14) else checkF (n + 1) r
def longF (p : PlV) : Bool := decide (4 < p.pre.length) || decide (p.st.length = 0) || decide (2 < p.st.length) || p.st.any fun x => decide (4 < x.2.length)
def planF (p : PlV) : Int × Int := if longF p = true then (-1, 4) else if p.late < 0 ∨ 1073741824 < p.late ∨ p.ep < 1 ∨ 1073741824 < p.ep then (-1, 2) else checkF 0 (nodesL p)
abbrev opCl (o : OpV) : List Value := [iV o.1, iV o.2.1, iV o.2.2.1, iV o.2.2.2]
def StAtP (G : List (Nat × Obj)) (l : List Value) (x : StV) : Prop := ∃ bv, l = opCl x.1 ++ [bv] ∧ VecM 4 G bv x.2.length (opL x.2)
def StsAt (G : List (Nat × Obj)) : List (List Value) → List StV → Prop
  | [], [] => True
  | l :: ls, c :: cs => StAtP G l c ∧ StsAt G ls cs
  | _, _ => False
theorem StAtP.mem {G G' : List (Nat × Obj)} (hs : ∀ q ∈ G, q ∈ G') {l : List Value} {x : StV} (h : StAtP G l x) : StAtP G' l x := by
  obtain ⟨bv, h1, h2⟩ := h
  exact ⟨bv, h1, h2.mem hs⟩
theorem StsAt.mem {G G' : List (Nat × Obj)} (hs : ∀ q ∈ G, q ∈ G') : ∀ {ls : List (List Value)} {cs : List StV}, StsAt G ls cs → StsAt G' ls cs
  | [], [], _ => trivial
  | _ :: _, _ :: _, ⟨h1, h2⟩ => ⟨h1.mem hs, StsAt.mem hs h2⟩
theorem StAtP.len {G : List (Nat × Obj)} {l : List Value} {x : StV} (h : StAtP G l x) : l.length = 5 := by obtain ⟨bv, rfl, _⟩ := h; rfl
theorem StsAt.flat {G : List (Nat × Obj)} : ∀ {ls : List (List Value)} {cs : List StV}, StsAt G ls cs → ls.flatten.length = cs.length * 5
  | [], [], _ => rfl
  | l :: ls, c :: cs, ⟨h1, h2⟩ => by rw [List.flatten_cons, List.length_append, h1.len, StsAt.flat h2, List.length_cons]; omega
theorem StsAt.get {G : List (Nat × Obj)} {ls : List (List Value)} : ∀ {cs : List StV} {k : Nat} {c : StV}, StsAt G ls cs → cs[k]? = some c → ∃ l, StAtP G l c ∧ ∀ j : Nat, j < 5 → ls.flatten[k * 5 + j]? = l[j]? := by
  induction ls with
  | nil =>
    intro cs k c h hk
    cases cs with
    | nil => simp at hk
    | cons _ _ => exact h.elim
  | cons l ls ih =>
    intro cs k c h hk
    cases cs with
    | nil => exact h.elim
    | cons c0 cs =>
      obtain ⟨h1, h2⟩ := h
      cases k with
      | zero =>
        rw [List.getElem?_cons_zero] at hk
        cases hk
        exact ⟨l, h1, fun j hj => by rw [List.flatten_cons, Nat.zero_mul, Nat.zero_add, List.getElem?_append_left (by rw [h1.len]; exact hj)]⟩
      | succ k =>
        rw [List.getElem?_cons_succ] at hk
        obtain ⟨l', h3, h4⟩ := ih h2 hk
        refine ⟨l', h3, fun j hj => ?_⟩
        rw [List.flatten_cons, List.getElem?_append_right (by rw [h1.len]; omega), h1.len, show (k + 1) * 5 + j - 5 = k * 5 + j by omega]
        exact h4 j hj
theorem StsAt.one {G : List (Nat × Obj)} : ∀ {ls : List (List Value)} {cs : List StV}, StsAt G ls cs → ∀ u ∈ ls.flatten, u.oneCell' = true
  | [], [], _, u, h => by simp at h
  | l :: ls, c :: cs, ⟨h1, h2⟩, u, h => by
    rw [List.flatten_cons, List.mem_append] at h
    rcases h with h | h
    · obtain ⟨bv, rfl, _, a, cap, rfl, _⟩ := h1
      simp only [opCl, List.mem_cons, List.cons_append, List.nil_append, List.not_mem_nil, or_false] at h
      rcases h with rfl | rfl | rfl | rfl | rfl <;> rfl
    · exact StsAt.one h2 u h
def plC (pv sv : Value) (p : PlV) : Array Value := #[pv, sv, iV p.late, iV p.ep]
def PlAt (G : List (Nat × Obj)) (v : Array Value) (p : PlV) : Prop := ∃ pv sv ls, v = plC pv sv p ∧ VecM 4 G pv p.pre.length (opL p.pre) ∧ VecM 5 G sv p.st.length ls.flatten ∧ StsAt G ls p.st
theorem PlAt.mem {G G' : List (Nat × Obj)} (hs : ∀ q ∈ G, q ∈ G') {v : Array Value} {p : PlV} (h : PlAt G v p) : PlAt G' v p := by
  obtain ⟨pv, sv, ls, h1, h2, h3, h4⟩ := h
  exact ⟨pv, sv, ls, h1, h2.mem hs, h3.mem hs, h4.mem hs⟩
abbrev ndC (y : NdV) : List Value := [.agg #[iV y.1.1, iV y.1.2], .agg (opC y.2.1 y.2.2.1 y.2.2.2.1 y.2.2.2.2)]
end Go.Proofs.YtekmmhmhcpaiaaaGreat
namespace Go.Proofs.YtekmmhmhcpaiaaaGreat
open Go.RowKit
abbrev stC (o : OpV) (bv : Value) : Array Value := #[iV o.1, iV o.2.1, iV o.2.2.1, iV o.2.2.2, bv]
theorem StsAt.ext {G : List (Nat × Obj)} {off : Nat} {cs : Array Value} {ls : List (List Value)} {st : List StV} (hx : ∀ (j : Nat) (x : Value), ls.flatten[j]? = some x → cs[off + j]? = some x) (hc : StsAt G ls st) {k : Nat} {c : StV} (hk : st[k]? = some c) : ∃ bv, VecM 4 G bv c.2.length (opL c.2) ∧ cs.extract (off + k * 5) (off + k * 5 + 5) = stC c.1 bv ∧ off + k * 5 + 5 ≤ cs.size := by
  obtain ⟨l, hcm, hl⟩ := hc.get hk
  obtain ⟨bv, rfl, h2⟩ := id hcm
  refine ⟨bv, h2, ext_of (l := opCl c.1 ++ [bv]) rfl (by decide) fun j hj => ?_⟩
  have h1 := hl j hj
  have h3 : (opCl c.1 ++ [bv])[j]? = some ((opCl c.1 ++ [bv])[j]'(by show j < 5; exact hj)) := List.getElem?_eq_getElem _
  rw [h3] at h1 ⊢
  rw [Nat.add_assoc]
  exact hx _ _ h1
abbrev ndF (x : Nat) : Value := .func (.func 118) #[] #[.pointer (some ⟨x, 0, none⟩)]
theorem WL_dropN {c : Cx} {ops : Array Oper} {l : List Oper} {K : Exit → St → Prop} {s : List (Nat × Value)} {D : List Deferred} {L L' : List (Nat × Obj)} (hs : L'.Sublist L) (h : WL c ops l K ⟨s, D, L'⟩) : WL c ops l K ⟨s, D, L⟩ := fun a w ha => h a w (ha.mem' (ha.mem.sublist hs))
theorem WL_permN {c : Cx} {ops : Array Oper} {l : List Oper} {K : Exit → St → Prop} {s : List (Nat × Value)} {D : List Deferred} {L L' : List (Nat × Obj)} (hs : L'.Perm L) (h : WL c ops l K ⟨s, D, L'⟩) : WL c ops l K ⟨s, D, L⟩ := fun a w ha => h a w (ha.mem' (ha.mem.perm hs))
theorem perm_nd {α : Type} (a b c : α) (L : List α) : (a :: b :: (L ++ [c])).Perm (c :: a :: b :: L) := by
  classical
  rw [List.perm_iff_count]
  intro z
  simp only [List.count_append, List.count_cons, List.count_nil]
  omega
attribute [local irreducible] Fn WC WL WR OW Qt YieldFn QW FnP FnD FnE
theorem nodes_fn {v : Array Value} (_hz : v.size = 4) (_h1 : (v.toList.all fun x => x.oneCell') = true) {L : List (Nat × Obj)} : Fn Tryz.prog 71 [.agg v] L (fun r L' => ∃ x, r = ndF x ∧ L' = (x, .cells v 65 (0, 0)) :: L) := by
  refine Fn_enter Tryz.func71 rfl Tryz.ntmps71 rfl fun g => ?_
  repeat (first | refine RQ ?_ | (refine WL_Q ?_; (first | refine QW_of (Qt_ldX rfl (hn := by with_reducible assumption)) ?_)) | (refine RE ?_; try intro _) | refine RC ?_ | refine WC_region ?_)
  exact ⟨rfl, _, _, Res1 rfl (resV_tmp rfl), .refl _, _, rfl, rfl⟩
set_option maxHeartbeats 4000000 in
theorem nodes1_fn {p : PlV} {pv : Array Value} {xp l d : Nat} {o1 o2 : Obj} {G : List (Nat × Obj)} (hp : PlAt G pv p) {I : List NdV → List (Nat × Obj) → Prop} {Jx : List (Nat × Obj) → Prop} {L0 : List (Nat × Obj)} (hI : ∀ pre L', I pre L' → (∃ i : Nat, L'[i]? = some (xp, Obj.cells pv 65 (0, 0))) ∧ ∀ q ∈ G, q ∈ L')
    (hr : ∀ X pre y L', (pre ++ [y]) <+: nodesL p → I pre L' → YieldFn Tryz.prog l (ndC y) ((l, o1) :: (d, o2) :: (L' ++ X)) (fun v L2 => (v = .bool true ∧ ∃ L'', L2 = (l, o1) :: (d, o2) :: (L'' ++ X) ∧ I (pre ++ [y]) L'') ∨ (v = .bool false ∧ Jx L2))) (h0 : I [] L0) :
    Fn Tryz.prog 118 [.func (.yield l) #[] #[], .pointer (some ⟨xp, 0, none⟩)] ((l, o1) :: (d, o2) :: L0) (fun _ L2 => (∃ xs L', xs = nodesL p ∧ L2 = (l, o1) :: (d, o2) :: L' ∧ I xs L') ∨ Jx L2) := by
  obtain ⟨prv, sv, ls, rfl, hpre, hst, hss⟩ := hp
  obtain ⟨_, ap, capp, rfl, hcp, hmp, _⟩ := id hpre
  obtain ⟨_, ast, caps, rfl, hcs, hms, _⟩ := id hst
  refine Fn_enter Tryz.func118 rfl Tryz.ntmps118 rfl fun g => ?_
  obtain ⟨⟨i0, hi0⟩, _⟩ := hI _ _ h0
  have hi02 : ((l, o1) :: (d, o2) :: L0)[i0 + 1 + 1]? = some (xp, Obj.cells (plC (.slice ap p.pre.length capp) (.slice ast p.st.length caps) p) 65 (0, 0)) := hi0
  repeat (first | refine RQ ?_ | (refine WL_Q ?_; (first | refine QW_of (Qt_ldX rfl (hn := by with_reducible assumption)) ?_)) | refine RC ?_ | refine WG 0 ?_)
  refine WC_wk [(12, .int .i64 ((0 : Nat) : Int)), (11, .int .i64 (p.pre.length : Nat)), (10, .slice ap p.pre.length capp), (0, .func (.yield l) #[] #[]), (1, .pointer (some ⟨xp, 0, none⟩))] ⟨rfl, rfl, rfl, rfl, rfl, trivial⟩ ?_
  refine WC_loop (fun m σ => ∃ (k : Nat) (L2 : List (Nat × Obj)), m = p.pre.length - k ∧ k ≤ p.pre.length ∧ I (rowL 0 0 (p.pre.take k)) L2 ∧ σ = ⟨[(12, .int .i64 (k : Nat)), (11, .int .i64 (p.pre.length : Nat)), (10, .slice ap p.pre.length capp), (0, .func (.yield l) #[] #[]), (1, .pointer (some ⟨xp, 0, none⟩))], [], (l, o1) :: (d, o2) :: L2⟩) p.pre.length ⟨0, L0, rfl, Nat.zero_le _, h0, rfl⟩ ?_
  rintro m σ ⟨k, L2, rfl, hk, hI2, rfl⟩
  by_cases hlt : k < p.pre.length
  · have d1 : decide ((k : Int) < ((p.pre.length : Nat) : Int)) = true := decide_eq_true (by omega)
    have p0 : (0 : Int) ≤ (k : Int) := by omega
    have p1 : ((k : Nat) : Int) < ((p.pre.length : Nat) : Int) := by omega
    have w : IntKind.i64.wrap ((k : Int) + 1) = ((k + 1 : Nat) : Int) := by rw [wI64 (by omega) (by simp only [maxLen] at hmp; omega)]; omega
    obtain ⟨o, ho⟩ : ∃ o, p.pre[k]? = some o := ⟨_, List.getElem?_eq_getElem hlt⟩
    obtain ⟨_, hG⟩ := hI _ _ hI2
    obtain ⟨rb, ro, rc, rcs, rE, rfr, ri, e, _, _, hri, hrx⟩ := (hpre.mem hG).cell (by omega)
    cases e
    have hri2 : ((l, o1) :: (d, o2) :: L2)[ri + 1 + 1]? = some (rb, Obj.cells rcs rE rfr) := hri
    obtain ⟨hx1, hx2⟩ := opL_ext hrx ho
    have y1 : ro + ((k : Nat) : Int).toNat * 4 + 4 ≤ rcs.size := by rw [Int.toNat_natCast]; exact hx2
    have v1 : rcs.extract (ro + ((k : Nat) : Int).toNat * 4) (ro + ((k : Nat) : Int).toNat * 4 + 4) = opC o.1 o.2.1 o.2.2.1 o.2.2.2 := by rw [Int.toNat_natCast]; exact hx1
    have hpf : (rowL 0 0 (p.pre.take k) ++ [((0, (k : Int)), o)]) <+: nodesL p := by
      have := rowL_at (s := 0) (k := 0) ho
      rw [Int.zero_add] at this
      exact this.trans (List.prefix_append _ _)
    have hYf := hr [] _ _ _ hpf hI2
    rw [show rowL 0 0 (p.pre.take k) ++ [((0, (k : Int)), o)] = rowL 0 0 (p.pre.take (k + 1)) by rw [rowL_take ho, Int.zero_add]] at hYf
    simp only [List.append_nil] at hYf
    repeat (first | refine RQ ?_ | (refine WL_Q ?_; (first | refine QW_of (Qt_ldX rfl (hn := by with_reducible assumption)) ?_)) | (refine RE ?_; try intro _) | refine RC ?_ | refine WG 1 ?_ | refine WG 2 ?_)
    try rw [v1]
    repeat (first | refine RQ ?_ | (refine WL_Q ?_; (first | refine QW_of (Qt_ldX rfl (hn := by with_reducible assumption)) ?_)) | (refine RE ?_; try intro _) | refine RC ?_ | refine WG 2 ?_ | refine WG 3 ?_)
    refine WL_dropN (.cons _ (.refl _)) ?_
    refine WL_op rfl (OW_yield rfl rfl rfl rfl rfl hYf ?_)
    rintro v L3 (⟨rfl, L4, rfl, hI3⟩ | ⟨rfl, hJx⟩)
    · repeat (first | refine RQ ?_ | (refine WL_Q ?_; (first | refine QW_of (Qt_ldX rfl (hn := by with_reducible assumption)) ?_)) | refine RC ?_ | refine WG 3 ?_ | refine WG 4 ?_)
      rw [w]
      exact ⟨_, _, by omega, ⟨k + 1, L4, rfl, by omega, hI3, rfl⟩, ⟨rfl, rfl, rfl, rfl, rfl, trivial⟩, rfl, .refl _⟩
    · repeat (first | refine RQ ?_ | (refine WL_Q ?_; (first | refine QW_of (Qt_ldX rfl (hn := by with_reducible assumption)) ?_)) | refine RC ?_ | refine WG 3 ?_ | refine WG 4 ?_)
      exact ⟨rfl, _, _, Res0 rfl, .refl _, .inr hJx⟩
  · have d1 : decide ((k : Int) < ((p.pre.length : Nat) : Int)) = false := decide_eq_false (by omega)
    rw [List.take_of_length_le (by omega)] at hI2
    obtain ⟨⟨i2, hi2⟩, _⟩ := hI _ _ hI2
    have hi22 : ((l, o1) :: (d, o2) :: L2)[i2 + 1 + 1]? = some (xp, Obj.cells (plC (.slice ap p.pre.length capp) (.slice ast p.st.length caps) p) 65 (0, 0)) := hi2
    repeat (first | refine RQ ?_ | (refine WL_Q ?_; (first | refine QW_of (Qt_ldX rfl (hn := by with_reducible assumption)) ?_)) | refine RC ?_ | refine WG 1 ?_ | refine WG 5 ?_)
    refine WC_wk [(27, .int .i64 ((0 : Nat) : Int)), (26, .int .i64 (p.st.length : Nat)), (25, .slice ast p.st.length caps), (0, .func (.yield l) #[] #[])] ⟨rfl, rfl, rfl, rfl, trivial⟩ ?_
    refine WC_loop (fun m σ => ∃ (k : Nat) (L2 : List (Nat × Obj)), m = p.st.length - k ∧ k ≤ p.st.length ∧ I (rowL 0 0 p.pre ++ stsL 1 (p.st.take k)) L2 ∧ σ = ⟨[(27, .int .i64 (k : Nat)), (26, .int .i64 (p.st.length : Nat)), (25, .slice ast p.st.length caps), (0, .func (.yield l) #[] #[])], [], (l, o1) :: (d, o2) :: L2⟩) p.st.length ⟨0, L2, rfl, Nat.zero_le _, by simpa [stsL] using hI2, rfl⟩ ?_
    clear hi22 hi2 d1 hlt
    rintro m σ ⟨k, L2, rfl, hk, hI2, rfl⟩
    by_cases hlt : k < p.st.length
    rotate_left
    · have d1 : decide ((k : Int) < ((p.st.length : Nat) : Int)) = false := decide_eq_false (by omega)
      rw [List.take_of_length_le (by omega)] at hI2
      repeat (first | refine RQ ?_ | (refine WL_Q ?_; (first | refine QW_of (Qt_ldX rfl (hn := by with_reducible assumption)) ?_)) | refine RC ?_ | refine WG 6 ?_)
      exact ⟨rfl, _, _, Res0 rfl, .refl _, .inl ⟨_, L2, rfl, rfl, hI2⟩⟩
    have d1 : decide ((k : Int) < ((p.st.length : Nat) : Int)) = true := decide_eq_true (by omega)
    have p0 : (0 : Int) ≤ (k : Int) := by omega
    have p1 : ((k : Nat) : Int) < ((p.st.length : Nat) : Int) := by omega
    have w : IntKind.i64.wrap ((k : Int) + 1) = ((k + 1 : Nat) : Int) := by rw [wI64 (by omega) (by simp only [maxLen] at hms; omega)]; omega
    obtain ⟨x, hx⟩ : ∃ x, p.st[k]? = some x := ⟨_, List.getElem?_eq_getElem hlt⟩
    obtain ⟨_, hG⟩ := hI _ _ hI2
    obtain ⟨rb, ro, rc, rcs, rE, rfr, ri, e, _, _, hri, hrx⟩ := (hst.mem hG).cell (by omega)
    cases e
    have hri2 : ((l, o1) :: (d, o2) :: L2)[ri + 1 + 1]? = some (rb, Obj.cells rcs rE rfr) := hri
    obtain ⟨bv, hbv, hx1, hx2⟩ := hss.ext hrx hx
    obtain ⟨_, ab, capb, rfl, hcb, hmb, _⟩ := id hbv
    have y1 : ro + ((k : Nat) : Int).toNat * 5 + 5 ≤ rcs.size := by rw [Int.toNat_natCast]; exact hx2
    have v1 : rcs.extract (ro + ((k : Nat) : Int).toNat * 5) (ro + ((k : Nat) : Int).toNat * 5 + 5) = stC x.1 (.slice ab x.2.length capb) := by rw [Int.toNat_natCast]; exact hx1
    have hsp := stsL_split hx
    have hxo : (stC x.1 (.slice ab x.2.length capb)).extract 0 (0 + 4) = opC x.1.1 x.1.2.1 x.1.2.2.1 x.1.2.2.2 := rfl
    have hxs : 0 + 4 ≤ (stC x.1 (.slice ab x.2.length capb)).size := Nat.le_of_ble_eq_true rfl
    have hpf : ((rowL 0 0 p.pre ++ stsL 1 (p.st.take k)) ++ [(((k : Int) + 1, 0), x.1)]) <+: nodesL p := ⟨rowL ((k : Int) + 1) 1 x.2 ++ stsL ((k : Int) + 2) (p.st.drop (k + 1)), by rw [nodesL, hsp]; simp⟩
    repeat (first | refine RQ ?_ | (refine WL_Q ?_; (first | refine QW_of (Qt_ldX rfl (hn := by with_reducible assumption)) ?_)) | (refine RE ?_; try intro _) | refine RC ?_ | refine WG 6 ?_ | refine WG 7 ?_)
    try rw [v1]
    repeat (first | refine RQ ?_ | (refine WL_Q ?_; (first | refine QW_of (Qt_ldX rfl (hn := by with_reducible assumption)) ?_)) | (refine RE ?_; try intro _) | refine RC ?_ | refine WG 7 ?_ | refine WG 8 ?_)
    rw [w, hxo]
    rename_i x6
    have hYf := hr [(x6, Obj.cells (stC x.1 (.slice ab x.2.length capb)) 62 (0, 0))] _ _ _ hpf hI2
    refine WL_permN (perm_nd ..) ?_
    refine WL_op rfl (OW_yield rfl rfl rfl rfl rfl hYf ?_)
    rintro v L3 (⟨rfl, L4, rfl, hI3⟩ | ⟨rfl, hJx⟩)
    rotate_left
    · repeat (first | refine RQ ?_ | (refine WL_Q ?_; (first | refine QW_of (Qt_ldX rfl (hn := by with_reducible assumption)) ?_)) | refine RC ?_ | refine WG 8 ?_)
      exact ⟨rfl, _, _, Res0 rfl, .refl _, .inr hJx⟩
    refine WL_permN (perm_nd ..).symm ?_
    repeat (first | refine RQ ?_ | (refine WL_Q ?_; (first | refine QW_of (Qt_ldX rfl (hn := by with_reducible assumption)) ?_)) | refine RC ?_ | refine WG 8 ?_ | refine WG 9 ?_)
    refine WC_dropL ((l, o1) :: (d, o2) :: L4) (.cons _ (.refl _)) ?_
    have hmid : rowL 0 0 p.pre ++ stsL 1 (p.st.take k) ++ [(((k : Int) + 1, 0), x.1)] = rowL 0 0 p.pre ++ (stsL 1 (p.st.take k) ++ ((((k : Int) + 1, 0), x.1) :: rowL ((k : Int) + 1) 1 (x.2.take 0))) := by simp [rowL]
    rw [hmid] at hI3
    refine WC_wk [(43, .int .i64 ((0 : Nat) : Int)), (42, .int .i64 (x.2.length : Nat)), (41, .slice ab x.2.length capb), (5, .int .i64 (k : Nat)), (27, .int .i64 (k : Nat)), (26, .int .i64 (p.st.length : Nat)), (25, .slice (some ⟨rb, ro, none⟩) p.st.length caps), (0, .func (.yield l) #[] #[])] ⟨rfl, rfl, rfl, rfl, rfl, rfl, rfl, rfl, trivial⟩ ?_
    refine WC_loop (fun m σ => ∃ (j : Nat) (L5 : List (Nat × Obj)), m = x.2.length - j ∧ j ≤ x.2.length ∧ I (rowL 0 0 p.pre ++ (stsL 1 (p.st.take k) ++ ((((k : Int) + 1, 0), x.1) :: rowL ((k : Int) + 1) 1 (x.2.take j)))) L5 ∧ σ = ⟨[(43, .int .i64 (j : Nat)), (42, .int .i64 (x.2.length : Nat)), (41, .slice ab x.2.length capb), (5, .int .i64 (k : Nat)), (27, .int .i64 (k : Nat)), (26, .int .i64 (p.st.length : Nat)), (25, .slice (some ⟨rb, ro, none⟩) p.st.length caps), (0, .func (.yield l) #[] #[])], [], (l, o1) :: (d, o2) :: L5⟩) x.2.length ⟨0, L4, rfl, Nat.zero_le _, hI3, rfl⟩ ?_
    rintro _ σ ⟨j, L5, rfl, hj, hI5, rfl⟩
    by_cases hlj : j < x.2.length
    rotate_left
    · have e1 : decide ((j : Int) < ((x.2.length : Nat) : Int)) = false := decide_eq_false (by omega)
      rw [List.take_of_length_le (l := x.2) (by omega), ← stsL_take hx] at hI5
      repeat (first | refine RQ ?_ | (refine WL_Q ?_; (first | refine QW_of (Qt_ldX rfl (hn := by with_reducible assumption)) ?_)) | refine RC ?_ | refine WG 10 ?_ | refine WG 14 ?_)
      rw [w]
      exact ⟨_, _, by omega, ⟨k + 1, L5, rfl, by omega, hI5, rfl⟩, ⟨rfl, rfl, rfl, rfl, trivial⟩, rfl, .refl _⟩
    have e1 : decide ((j : Int) < ((x.2.length : Nat) : Int)) = true := decide_eq_true (by omega)
    have q0 : (0 : Int) ≤ (j : Int) := by omega
    have q1 : ((j : Nat) : Int) < ((x.2.length : Nat) : Int) := by omega
    have wj : IntKind.i64.wrap ((j : Int) + 1) = ((j + 1 : Nat) : Int) := by rw [wI64 (by omega) (by simp only [maxLen] at hmb; omega)]; omega
    obtain ⟨o, ho⟩ : ∃ o, x.2[j]? = some o := ⟨_, List.getElem?_eq_getElem hlj⟩
    obtain ⟨_, hG5⟩ := hI _ _ hI5
    obtain ⟨ob, oo, oc, ocs, oE, ofr, oi, e, _, _, hoi, hox⟩ := (hbv.mem hG5).cell (by omega)
    cases e
    have hoi2 : ((l, o1) :: (d, o2) :: L5)[oi + 1 + 1]? = some (ob, Obj.cells ocs oE ofr) := hoi
    obtain ⟨ox1, ox2⟩ := opL_ext hox ho
    have z1 : oo + ((j : Nat) : Int).toNat * 4 + 4 ≤ ocs.size := by rw [Int.toNat_natCast]; exact ox2
    have u1 : ocs.extract (oo + ((j : Nat) : Int).toNat * 4) (oo + ((j : Nat) : Int).toNat * 4 + 4) = opC o.1 o.2.1 o.2.2.1 o.2.2.2 := by rw [Int.toNat_natCast]; exact ox1
    have hjt := rowL_take (s := (k : Int) + 1) (k := 1) ho
    have hpf5 : ((rowL 0 0 p.pre ++ (stsL 1 (p.st.take k) ++ ((((k : Int) + 1, 0), x.1) :: rowL ((k : Int) + 1) 1 (x.2.take j)))) ++ [(((k : Int) + 1, 1 + (j : Int)), o)]) <+: nodesL p := by
      obtain ⟨r, hr⟩ := rowL_at (s := (k : Int) + 1) (k := 1) ho
      exact ⟨r ++ stsL ((k : Int) + 2) (p.st.drop (k + 1)), by rw [nodesL, hsp, ← hr]; simp⟩
    have hYf5 := hr [] _ _ _ hpf5 hI5
    rw [show (rowL 0 0 p.pre ++ (stsL 1 (p.st.take k) ++ ((((k : Int) + 1, 0), x.1) :: rowL ((k : Int) + 1) 1 (x.2.take j)))) ++ [(((k : Int) + 1, 1 + (j : Int)), o)] = rowL 0 0 p.pre ++ (stsL 1 (p.st.take k) ++ ((((k : Int) + 1, 0), x.1) :: rowL ((k : Int) + 1) 1 (x.2.take (j + 1)))) by rw [hjt]; simp] at hYf5
    simp only [List.append_nil] at hYf5
    repeat (first | refine RQ ?_ | (refine WL_Q ?_; (first | refine QW_of (Qt_ldX rfl (hn := by with_reducible assumption)) ?_)) | (refine RE ?_; try intro _) | refine RC ?_ | refine WG 10 ?_ | refine WG 11 ?_)
    try rw [u1]
    repeat (first | refine RQ ?_ | (refine WL_Q ?_; (first | refine QW_of (Qt_ldX rfl (hn := by with_reducible assumption)) ?_)) | (refine RE ?_; try intro _) | refine RC ?_ | refine WG 11 ?_ | refine WG 12 ?_)
    rw [w, wj, show ((j + 1 : Nat) : Int) = 1 + (j : Int) by omega]
    refine WL_dropN (.cons _ (.refl _)) ?_
    refine WL_op rfl (OW_yield rfl rfl rfl rfl rfl hYf5 ?_)
    rintro v L6 (⟨rfl, L7, rfl, hI7⟩ | ⟨rfl, hJx⟩)
    · repeat (first | refine RQ ?_ | (refine WL_Q ?_; (first | refine QW_of (Qt_ldX rfl (hn := by with_reducible assumption)) ?_)) | refine RC ?_ | refine WG 12 ?_ | refine WG 13 ?_)
      rw [wj]
      exact ⟨_, _, by omega, ⟨j + 1, L7, rfl, by omega, hI7, rfl⟩, ⟨rfl, rfl, rfl, rfl, rfl, rfl, rfl, rfl, trivial⟩, rfl, .refl _⟩
    · repeat (first | refine RQ ?_ | (refine WL_Q ?_; (first | refine QW_of (Qt_ldX rfl (hn := by with_reducible assumption)) ?_)) | refine RC ?_ | refine WG 12 ?_ | refine WG 13 ?_)
      exact ⟨rfl, _, _, Res0 rfl, .refl _, .inr hJx⟩
end Go.Proofs.YtekmmhmhcpaiaaaGreat
