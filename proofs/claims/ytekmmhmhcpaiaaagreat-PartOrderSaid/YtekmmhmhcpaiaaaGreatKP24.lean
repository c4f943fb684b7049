/-
  A part of what the last of these texts needs; by itself it proves no statement.
-/
import Derived.ChangeKeysEq
import Derived.Test.YtekmmhmhcpaiaaaGreatKP23
namespace Go.Proofs.YtekmmhmhcpaiaaaGreat
structure RcV where
  key : Int
  t : Int
  val : Int
  side : Int
structure PtOk (c : PtV) : Prop where
  rise : c.rs.Pairwise fun a b => a.at_ < b.at_
  cls : c.cls = 1 ∨ c.cls = 2
  same : ∀ v, v ≤ c.rs.length → clsF (c.op v).1 = c.cls
  may : ∀ v, v ≤ c.rs.length → opF (c.op v).1 (c.op v).2.1 (c.op v).2.2.1 (c.op v).2.2.2 = true
  at_ : ∀ x ∈ c.rs, 0 ≤ x.at_ ∧ x.at_ ≤ 2199023255552
section
variable (c : PtV)
def entJ (r : RcV) : EnV := ⟨c.ver r.t, r.key, r.t, r.t + (c.op (c.ver r.t)).2.1 + 1, r.side, oneA r.val⟩
def jm (a b : EnV) : Bool := decide (a.ver = b.ver ∧ a.key = b.key ∧ max a.s b.s - min a.s b.s ≤ (c.op a.ver).2.1 ∧ (a.side + b.side) % 2 = 1)
def jr (a b : EnV) : OutV := ⟨a.key, max a.s b.s, IntKind.i64.wrap (a.ac.mn + b.ac.mn), false⟩
def jX (e : EnV) (S : List EnV) : List OutV := (S.filter (jm c e)).map (jr e)
def putE (r : RcV) : List EnV := if c.cls = 1 then itsW c (c.ver r.t) r.key r.t (oneA r.val) else [entJ c r]
def putO (r : RcV) (S : List EnV) : List OutV := if c.cls = 1 then [] else jX c (entJ c r) S
def rC : EnV → EnV → Bool := if c.cls = 1 then rW c else fun _ _ => false
def dueC : EnV → Int := if c.cls = 1 then dueW c else EnV.e
def caC : EnV → List EnV := if c.cls = 1 then caW c else fun _ => []
def outC : EnV → List OutV := if c.cls = 1 then outW c else fun _ => []
def FrC : Int → EnV → Prop := if c.cls = 1 then FrW c else fun d f => d < f.e
def LaC : Int → EnV → Prop := if c.cls = 1 then LaW c else fun d f => d < f.e
def putS (r : RcV) (S : List EnV) : List EnV := laysL (rC c) EnV.add (putE c r) S
def putsS : List RcV → List EnV → List EnV
  | [], S => S
  | r :: l, S => putsS l (putS c r S)
def putsO : List RcV → List EnV → List OutV
  | [], _ => []
  | r :: l, S => putO c r S ++ putsO l (putS c r S)
abbrev FallsC (d : Int) (S S' : List EnV) (o : List OutV) : Prop := Falls (rC c) EnV.add (dueC c) (caC c) (outC c) d S S' o
end
variable {c : PtV}
theorem no_meets : MeetsA (fun _ _ => false) EnV.add where
  symm _ _ := rfl
  join _ _ _ h := by cases h
  comm := EnV.add_comm
  assoc := EnV.add_assoc
theorem rC_meets (c : PtV) : MeetsA (rC c) EnV.add := by
  unfold rC
  split
  · exact rW_meets c
  · exact no_meets
theorem rC_fall (hr : c.rs.Pairwise fun a b => a.at_ < b.at_) : FallA (rC c) EnV.add (dueC c) (caC c) (FrC c) (LaC c) := by
  unfold rC dueC caC FrC LaC
  by_cases h : c.cls = 1
  · simp only [if_pos h]
    exact rW_fall hr
  · simp only [if_neg h]
    exact { no_meets with
      late := fun _ _ h => h
      touch := fun _ _ _ _ h => by cases h
      both := fun d a b ha hb => by show d < max a.e b.e; omega
      due_ := fun _ _ h => h
      ca_ := fun _ _ h => by cases h }
theorem ver_at (hr : c.rs.Pairwise fun a b => a.at_ < b.at_) {t : Int} {x : CmV} (h : c.rs[c.ver t]? = some x) : t < x.at_ := by
  unfold PtV.ver at h
  generalize c.rs = l at h hr
  induction l with
  | nil => simp at h
  | cons y l ih =>
    obtain ⟨h1, h2⟩ := List.pairwise_cons.1 hr
    by_cases hy : y.at_ ≤ t
    · rw [List.filter_cons_of_pos (by simpa using hy), List.length_cons, List.getElem?_cons_succ] at h
      exact ih h h2
    · rw [List.filter_cons_of_neg (by simpa using hy)] at h
      have hl : l.filter (fun x => decide (x.at_ ≤ t)) = [] := List.filter_eq_nil_iff.2 fun z hz => by
        have := h1 z hz
        simp only [decide_eq_true_eq]
        omega
      rw [hl] at h
      obtain rfl : y = x := by simpa using h
      omega
theorem ver_le (c : PtV) (t : Int) : c.ver t ≤ c.rs.length := List.length_filter_le _ _
theorem FrW_mono {d d' : Int} (h : d ≤ d') {f : EnV} (hf : FrW c d' f) : FrW c d f := ⟨by have := hf.1; omega, fun x hx => by have := hf.2.1 x hx; omega, fun hs => by have := hf.2.2 hs; omega⟩
theorem PtOk.a0 (h : PtOk c) {v : Nat} (hv : v ≤ c.rs.length) : 1 ≤ (c.op v).2.1 ∧ (c.op v).2.1 ≤ 1073741824 := by
  have h1 := h.may v hv
  have h2 := h.same v hv
  have h3 := h.cls
  have hk : (c.op v).1 = 5 ∨ (c.op v).1 = 4 ∨ (c.op v).1 = 6 ∨ (c.op v).1 = 7 := by
    unfold clsF at h2
    split at h2
    · omega
    split at h2
    · omega
    split at h2 <;> omega
  rcases hk with hk | hk | hk | hk
  · have := opF_step h1 hk; omega
  · have := opF_plain h1 (.inl hk); omega
  · have := opF_plain h1 (.inr (.inl hk)); omega
  · have := opF_plain h1 (.inr (.inr hk)); omega
theorem putE_fresh (h : PtOk c) {r : RcV} {d : Int} (hd : d ≤ r.t) : ∀ f ∈ putE c r, FrC c d f := by
  unfold putE FrC
  by_cases hc : c.cls = 1
  · simp only [if_pos hc]
    exact fun f hf => FrW_mono hd (itsW_fresh (fun x hx => ver_at h.rise hx) f hf)
  · simp only [if_neg hc]
    intro f hf
    obtain rfl := List.mem_singleton.1 hf
    have := (h.a0 (ver_le c r.t)).1
    show d < r.t + _ + 1
    omega
theorem putS_permS {r : RcV} {S T : List EnV} (p : S.Perm T) : (putS c r S).Perm (putS c r T) := laysL_permS (rC_meets c) _ p
theorem putsS_eq : ∀ (l : List RcV) (S : List EnV), putsS c l S = laysL (rC c) EnV.add (l.flatMap (putE c)) S
  | [], _ => rfl
  | r :: l, S => by
    rw [putsS, putsS_eq l, putS, List.flatMap_cons, laysL_append]
theorem putsS_append (l k : List RcV) (S : List EnV) : putsS c (l ++ k) S = putsS c k (putsS c l S) := by rw [putsS_eq, putsS_eq, putsS_eq, List.flatMap_append, laysL_append]
theorem putsO_append : ∀ (l k : List RcV) (S : List EnV), putsO c (l ++ k) S = putsO c l S ++ putsO c k (putsS c l S)
  | [], _, _ => rfl
  | r :: l, k, S => by
    show putO c r S ++ putsO c (l ++ k) _ = _
    rw [putsO_append l k]
    exact (List.append_assoc _ _ _).symm
theorem putsS_perm {l k : List RcV} (p : l.Perm k) {S : List EnV} (hS : Apart (rC c) S) : (putsS c l S).Perm (putsS c k S) := by
  rw [putsS_eq, putsS_eq]
  exact laysL_perm (rC_meets c) (p.flatMap_right _) hS
theorem putsS_apart (l : List RcV) {S : List EnV} (hS : Apart (rC c) S) : Apart (rC c) (putsS c l S) := by
  rw [putsS_eq]
  exact laysL_apart (rC_meets c) _ hS
theorem jX_permS (e : EnV) {S T : List EnV} (p : S.Perm T) : (jX c e S).Perm (jX c e T) := (p.filter _).map _
theorem putO_permS {r : RcV} {S T : List EnV} (p : S.Perm T) : (putO c r S).Perm (putO c r T) := by
  unfold putO
  split
  · exact .refl _
  · exact jX_permS _ p
theorem putsO_permS : ∀ (l : List RcV) {S T : List EnV}, S.Perm T → (putsO c l S).Perm (putsO c l T)
  | [], _, _, _ => .refl _
  | _ :: l, _, _, p => (putO_permS p).append (putsO_permS l (putS_permS p))
theorem jm_symm (a b : EnV) : jm c a b = jm c b a := by
  unfold jm
  rw [Bool.eq_iff_iff, decide_eq_true_iff, decide_eq_true_iff]
  constructor
  · rintro ⟨h1, h2, h3, h4⟩
    exact ⟨h1.symm, h2.symm, by rw [← h1]; omega, by omega⟩
  · rintro ⟨h1, h2, h3, h4⟩
    exact ⟨h1.symm, h2.symm, by rw [← h1]; omega, by omega⟩
theorem jr_symm {a b : EnV} (h : jm c a b = true) : jr a b = jr b a := by
  obtain ⟨_, h2, _, _⟩ := decide_eq_true_iff.1 h
  unfold jr
  rw [h2, Int.max_comm, Int.add_comm]
theorem jX_cons (e x : EnV) (S : List EnV) : jX c e (x :: S) = (if jm c e x = true then [jr e x] else []) ++ jX c e S := by
  unfold jX
  by_cases h : jm c e x = true
  · rw [List.filter_cons_of_pos h, if_pos h]; rfl
  · rw [List.filter_cons_of_neg h, if_neg h]; rfl
theorem jX_append (e : EnV) (S T : List EnV) : jX c e (S ++ T) = jX c e S ++ jX c e T := by
  unfold jX
  rw [List.filter_append, List.map_append]
theorem putS_join (hc : c.cls ≠ 1) (r : RcV) (S : List EnV) : putS c r S = entJ c r :: S := by
  unfold putS putE rC
  rw [if_neg hc, if_neg hc]
  show layL (fun _ _ => false) EnV.add (entJ c r) S = _
  exact layL_none fun _ _ => rfl
theorem putsO_perm {l k : List RcV} (p : l.Perm k) : ∀ (S : List EnV), (putsO c l S).Perm (putsO c k S) := by
  by_cases hc : c.cls = 1
  · have h0 : ∀ (l : List RcV) (S : List EnV), putsO c l S = [] := by
      intro l
      induction l with
      | nil => exact fun _ => rfl
      | cons r l ih => exact fun S => by rw [putsO, ih, putO, if_pos hc]; rfl
    exact fun S => by rw [h0, h0]
  induction p with
  | nil => exact fun _ => .refl _
  | cons x _ ih => exact fun S => (ih _).append_left _
  | swap x y l =>
    intro S
    simp only [putsO, putS_join hc, putO, if_neg hc]
    rw [← List.append_assoc, ← List.append_assoc]
    refine List.Perm.append ?_ (putsO_permS l (.swap _ _ _))
    rw [jX_cons, jX_cons, jm_symm (entJ c y) (entJ c x)]
    by_cases hm : jm c (entJ c x) (entJ c y) = true
    · rw [if_pos hm, if_pos hm, jr_symm hm]
      refine (List.perm_append_comm_assoc _ _ _).trans (.trans ?_ (List.perm_append_comm_assoc _ _ _).symm)
      exact List.Perm.append_left _ List.perm_append_comm
    · rw [if_neg hm, if_neg hm, List.nil_append, List.nil_append]
      exact List.perm_append_comm
  | trans _ _ h1 h2 => exact fun S => (h1 S).trans (h2 S)
def JEnd (c : PtV) (S : List EnV) : Prop := c.cls ≠ 1 → ∀ x ∈ S, x.e = x.s + (c.op x.ver).2.1 + 1
theorem JEnd.putS {S : List EnV} (h : JEnd c S) (r : RcV) : JEnd c (putS c r S) := fun hc x hx => by
  rw [putS_join hc] at hx
  rcases List.mem_cons.1 hx with rfl | hx
  · rfl
  · exact h hc x hx
theorem JEnd.putsS : ∀ (l : List RcV) {S : List EnV}, JEnd c S → JEnd c (putsS c l S)
  | [], _, h => h
  | r :: l, _, h => JEnd.putsS l (h.putS r)
theorem JEnd.nil : JEnd c [] := fun _ _ h => by cases h
theorem falls_join (hc : c.cls ≠ 1) {d : Int} {S S' : List EnV} {o : List OutV} (h : FallsC c d S S' o) : o = [] ∧ ∃ X, S.Perm (X ++ S') ∧ ∀ x ∈ X, x.e ≤ d := by
  induction h with
  | done _ p => exact ⟨rfl, [], p, fun _ h => by cases h⟩
  | @step S S1 S' e o p he _ _ ih =>
    have h1 : outC c e = [] := by unfold outC; rw [if_neg hc]
    have h2 : caC c e = [] := by unfold caC; rw [if_neg hc]
    have h3 : dueC c e = e.e := by unfold dueC; rw [if_neg hc]
    rw [h2] at ih
    obtain ⟨rfl, X, q1, q2⟩ := ih
    refine ⟨by rw [h1]; rfl, e :: X, p.trans (q1.cons e), fun x hx => ?_⟩
    rcases List.mem_cons.1 hx with rfl | hx
    · rw [h3] at he; exact he
    · exact q2 x hx
theorem jX_far {e : EnV} {X : List EnV} (hX : ∀ x ∈ X, jm c e x = false) : jX c e X = [] := by
  unfold jX
  rw [List.filter_eq_nil_iff.2 fun x hx => by rw [hX x hx]; exact Bool.false_ne_true]
  rfl
theorem putO_falls {d : Int} {S S' : List EnV} {o : List OutV} (h : FallsC c d S S' o) (hj : JEnd c S) {r : RcV} (hr : d ≤ r.t) : (putO c r S).Perm (putO c r S') := by
  unfold putO
  split
  · exact .refl _
  rename_i hc
  obtain ⟨_, X, p, q⟩ := falls_join hc h
  refine (jX_permS _ p).trans ?_
  rw [jX_append, jX_far, List.nil_append]
  intro x hx
  have h1 := q x hx
  have h2 := hj hc x (p.mem_iff.2 (List.mem_append_left _ hx))
  refine decide_eq_false ?_
  rintro ⟨h3, _, h4, _⟩
  rw [h3] at h4
  have h5 : (entJ c r).s = r.t := rfl
  rw [h5] at h4
  omega
def Runs (c : PtV) (d : Int) (P : List RcV) (S : List EnV) (z : List OutV) : Prop := ∃ o, z.Perm (putsO c P [] ++ o) ∧ FallsC c d (putsS c P []) S o
theorem Apart.nil {α : Type} {r : α → α → Bool} : Apart r [] := List.Pairwise.nil
theorem Runs.begin_ (d : Int) : Runs c d [] [] [] := ⟨[], .refl _, .done (fun _ h => by cases h) (.refl _)⟩
theorem Runs.put (hk : PtOk c) {d : Int} {P : List RcV} {S S' : List EnV} {z o : List OutV} (h : Runs c d P S z) {r : RcV} (hr : d ≤ r.t) (hS : S'.Perm (putS c r S)) (ho : o.Perm (putO c r S)) : Runs c d (P ++ [r]) S' (z ++ o) := by
  obtain ⟨q, h1, h2⟩ := h
  have hA := putsS_apart P (c := c) Apart.nil
  refine ⟨q, ?_, ?_⟩
  · have h3 := putO_falls h2 (JEnd.putsS P JEnd.nil) hr
    refine (h1.append (ho.trans h3.symm)).trans ?_
    rw [putsO_append, List.append_assoc, List.append_assoc]
    refine List.Perm.append_left _ ?_
    show List.Perm _ ((putO c r _ ++ []) ++ q)
    rw [List.append_nil]
    exact List.perm_append_comm
  · have h4 := h2.fresh (rC_fall hk.rise) hr (putE_fresh hk (Int.le_refl _)) hA
    rw [putsS_append]
    exact h4.perm' hS.symm
theorem Runs.fall {d d' : Int} (hd : d ≤ d') {P : List RcV} {S S' : List EnV} {z o : List OutV} (h : Runs c d P S z) (hf : FallsC c d' S S' o) : Runs c d' P S' (z ++ o) := by
  obtain ⟨q, h1, h2⟩ := h
  refine ⟨q ++ o, ?_, h2.trans hd hf⟩
  rw [← List.append_assoc]
  exact h1.append_right _
theorem Runs.same (hk : PtOk c) {d : Int} {P Q : List RcV} (p : P.Perm Q) {S T : List EnV} {z y : List OutV} (h : Runs c d P S z) (k : Runs c d Q T y) : S.Perm T ∧ z.Perm y := by
  obtain ⟨o, h1, h2⟩ := h
  obtain ⟨o', k1, k2⟩ := k
  have q := putsS_perm p (c := c) (S := []) Apart.nil
  obtain ⟨a1, a2⟩ := h2.same (rC_fall hk.rise) (putsS_apart P Apart.nil) (k2.perm q.symm)
  exact ⟨a1, h1.trans (((putsO_perm p []).append a2).trans k1.symm)⟩
end Go.Proofs.YtekmmhmhcpaiaaaGreat
namespace Go.Proofs.YtekmmhmhcpaiaaaGreat
variable {c : PtV}
theorem lay_join (hc : c.cls ≠ 1) (e : EnV) (S : List EnV) : layL (rC c) EnV.add e S = e :: S := by
  unfold rC
  rw [if_neg hc]
  exact layL_none fun _ _ => rfl
end Go.Proofs.YtekmmhmhcpaiaaaGreat
namespace Go.Proofs.YtekmmhmhcpaiaaaGreat
open Go.RowKit
theorem pair_eql {P : Program} {t e : TypeId} [hu : TUnd P t (.array 2 e)] [he : TUnd P e (.int .i64)] [ha : TAgg P e false] (hi : ∃ i, P.info? e = some i) (hc : P.cellsOf e = 1) (a b c d : Int) (w : World) : (Op.equalIn 10000 t (.agg #[.int .i64 a, .int .i64 b]) (.agg #[.int .i64 c, .int .i64 d])).run P w = .ok (a == c && b == d) w := by
  obtain ⟨i, hi⟩ := hi
  have h1 := run_equalIn_array (P := P) (w := w) 9999 (t := t) (e := e) (n := 2) (i := i) #[.int .i64 a, .int .i64 b] #[.int .i64 c, .int .i64 d] hu.h hi
  rw [h1, hc, show List.range 2 = [0, 1] from rfl]
  have p0 : ∀ w, (part e #[.int .i64 a, .int .i64 b] (0 * 1)).run P w = .ok (.int .i64 a) w := fun w => part1 rfl w
  have p1 : ∀ w, (part e #[.int .i64 a, .int .i64 b] (1 * 1)).run P w = .ok (.int .i64 b) w := fun w => part1 rfl w
  have q0 : ∀ w, (part e #[.int .i64 c, .int .i64 d] (0 * 1)).run P w = .ok (.int .i64 c) w := fun w => part1 rfl w
  have q1 : ∀ w, (part e #[.int .i64 c, .int .i64 d] (1 * 1)).run P w = .ok (.int .i64 d) w := fun w => part1 rfl w
  have r0 := run_equalIn_int (P := P) w 9998 e .i64 .i64 a c he.h
  have r1 := run_equalIn_int (P := P) w 9998 e .i64 .i64 b d he.h
  simp only [Op.eqItems, Sem.run_bind, p0, q0, r0, Result.andThen_ok]
  cases h : (a == c)
  · simp
  · simp only [Bool.not_true, Bool.false_eq_true, if_false, Sem.run_bind, p1, q1, r1, Result.andThen_ok]
    cases h2 : (b == d) <;> simp
section
variable {c : Cx} {s : List (Nat × Value)} {L : List (Nat × Obj)} {o : Oper}
class EqPair (P : Program) (t : TypeId) : Prop where
  guard : P.eqGuardType P.depth t = false
  run : ∀ a b c d w, (Op.equalIn 10000 t (.agg #[.int .i64 a, .int .i64 b]) (.agg #[.int .i64 c, .int .i64 d])).run P w = .ok (a == c && b == d) w
theorem Qt_eqlP {t t' : TypeId} [hp : EqPair c.P t] {x y : Operand} {p q : Int × Int} (ho : o.op = .binOp .eql t x y t') (hx : ev s x = some (.agg (wC p)) := by exact rfl) (hy : ev s y = some (.agg (wC q)) := by exact rfl) : Qt c s L o (.bool (p.1 == q.1 && p.2 == q.2)) :=
  Qt_of_run (by simp [ho]) (fun ρ hρ w _ => by
    have h1 := run_eqGuard_agg (P := c.P) w .eql t x y (wC p) (wC q) hp.guard
    have h2 := run_eql_struct (P := c.P) w t (wC p) (wC q)
    rw [show (Op.equalIn 10000 t (.agg (wC p)) (.agg (wC q))).run c.P w = _ from hp.run _ _ _ _ w] at h2
    simp [execOp, ho, hρ x _ hx, hρ y _ hy, h1, h2, Result.andThen])
end
attribute [local irreducible] Fn WC WL WR OW Qt YieldFn QW FnP FnD
instance : EqPair Tryz.prog 144 := ⟨by kernel_rfl, fun a b c d w => pair_eql (by obtain ⟨i, _, h, _⟩ := (inferInstance : TRow Tryz.prog 2 _ _ _).h; exact ⟨i, h⟩) (by kernel_rfl) a b c d w⟩
end Go.Proofs.YtekmmhmhcpaiaaaGreat
namespace Go.Proofs.YtekmmhmhcpaiaaaGreat
open Go.RowKit
attribute [local irreducible] Fn WC WL WR OW Qt YieldFn QW FnP FnD
def meetW (p q : Int × Int) : Bool := decide (p.1 < q.2) && decide (q.1 < p.2)
def joinW (p q : Int × Int) : Int × Int := (if q.1 < p.1 then q.1 else p.1, if q.2 > p.2 then q.2 else p.2)
theorem meetP_fn {p q : Int × Int} {L : List (Nat × Obj)} : Fn Tryz.prog 66 [.agg (wC p), .agg (wC q)] L (fun v L' => v = .bool (meetW p q) ∧ L' = L) := by
  refine Fn_enter Tryz.func66 rfl Tryz.ntmps66 rfl fun gw => ?_
  cases h : decide (p.1 < q.2)
  · repeat (first | refine RQ ?_ | ((first | refine WL_Q ?_ | refine WL_Y ?_); (first | refine QW_of (Qt_buildA rfl (hf := pair_fill)) ?_)) | (refine RE ?_; try intro _) | refine RC ?_ | refine WC_region ?_)
    exact ⟨rfl, _, _, Res1 rfl (resV_tmp rfl), .cons _ (.cons _ (.refl _)), by unfold meetW; rw [h]; rfl, rfl⟩
  · repeat (first | refine RQ ?_ | ((first | refine WL_Q ?_ | refine WL_Y ?_); (first | refine QW_of (Qt_buildA rfl (hf := pair_fill)) ?_)) | (refine RE ?_; try intro _) | refine RC ?_ | refine WC_region ?_)
    exact ⟨rfl, _, _, Res1 rfl (resV_tmp rfl), .cons _ (.cons _ (.refl _)), by unfold meetW; rw [h]; rfl, rfl⟩
theorem joinP_fn {p q : Int × Int} {L : List (Nat × Obj)} : Fn Tryz.prog 68 [.agg (wC p), .agg (wC q)] L (fun v L' => v = .agg (wC (joinW p q)) ∧ L' = L) := by
  refine Fn_enter Tryz.func68 rfl Tryz.ntmps68 rfl fun gw => ?_
  repeat (first | refine RQ ?_ | (refine WL_Q ?_; (first | refine QW_of (Qt_buildA rfl (hf := pair_fill)) ?_)) | (refine RE ?_; try intro _) | refine RC ?_ | refine WC_region ?_)
  exact ⟨rfl, _, _, Res1 rfl (resV_cellN rfl 0 rfl rfl), .cons _ (.cons _ (.cons _ (.refl _))), rfl, rfl⟩
end Go.Proofs.YtekmmhmhcpaiaaaGreat
