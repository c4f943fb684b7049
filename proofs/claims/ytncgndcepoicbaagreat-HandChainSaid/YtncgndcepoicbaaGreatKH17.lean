/-
  A part of what the last of these texts needs; by itself it proves no statement.
-/
import Derived.Maps.RangeRun
import Derived.Test.YtncgndcepoicbaaGreatKH16
namespace Go.Proofs.YtncgndcepoicbaaGreat
open Go.RowKit
theorem Qt_arrTo {c : Cx} {s : List (Nat × Value)} {L : List (Nat × Obj)} {o : Oper} {t E n len : Nat} [hu : TUnd c.P t (.array len E)] [hs : TSize c.P E n] {x hi : Operand} {b off : Nat} {k : IntKind} {l : Int} (ho : o.op = .slice t x none (some hi) none) (hx : ev s x = some (.pointer (some ⟨b, off, none⟩)) := by exact rfl) (hl : ev s hi = some (.int k l) := by exact rfl)
    (h0 : 0 ≤ l := by first | with_reducible assumption | decide | omega) (h1 : l ≤ len := by first | with_reducible assumption | decide | omega) : Qt c s L o (.slice (some ⟨b, off, none⟩) l.toNat len) :=
  Qt_of_run (by simp [ho]) (fun ρ hρ w _ => by
    have el : (l.toNat : Int) = l := Int.toNat_of_nonneg h0
    have : l.toNat ≤ len := by omega
    simp [execOp, ho, hρ x _ hx, hρ hi _ hl, Instr.sliceAt, Instr.sureAddr, run_underlying hu.h, Instr.sliceBounds, Instr.sliceBound, asIntOf, h0, h1, hs.h, Addr.add_mid])
instance : TBuildA Tryz.prog 185 zc185 1 := ⟨fun _ => by kernel_rfl⟩
def frA (to : List Int) (k : Nat) : Array Value := ((turnsL to k).map iV ++ List.replicate (8 - k) (iV 0)).toArray
theorem frA_size (to : List Int) {k : Nat} (h : k ≤ 8) : (frA to k).size = 8 := by simp [frA, turnsL_len]; omega
theorem frA_set (to : List Int) {k : Nat} (h : k < 8) {y : Int} (hy : to[k % to.length]? = some y) : (frA to k).setIfInBounds k (iV y) = frA to (k + 1) := by
  unfold frA
  rw [List.setIfInBounds_toArray, turnsL_succ, hy, show 8 - k = (8 - (k + 1)) + 1 by omega, List.replicate_succ]
  congr 1
  have hl : ((turnsL to k).map iV).length = k := by rw [List.length_map, turnsL_len]
  rw [List.set_append_right _ _ (by omega), hl, Nat.sub_self]
  simp
attribute [local irreducible] Fn WC WL WR OW Qt YieldFn QW FnP FnD FnE
set_option maxHeartbeats 4000000 in
theorem First_fn {n : Nat} (h1 : 1 ≤ n) (h3 : n ≤ 3) {L : List (Nat × Obj)} : Fn Tryz.prog 43 [iV n] L (fun v L' => v = .agg ((turnsL ([1, 2, 3].take n) 8).map iV).toArray ∧ L' = L) := by
  have d1 : decide ((n : Int) < 1) = false := decide_eq_false (by omega)
  have d2 : decide ((n : Int) > 3) = false := decide_eq_false (by omega)
  have p0 : (0 : Int) ≤ (n : Int) := by omega
  have p1 : (n : Int) ≤ ((3 : Nat) : Int) := by omega
  refine Fn_enterM Tryz.func43 rfl Tryz.ntmps43 rfl fun gw => ?_
  repeat (first | refine RQ ?_ | ((first | refine WL_Q ?_ | refine WL_Y ?_); (first | refine QW_of (Qt_buildA rfl) ?_ | refine QW_of (Qt_arrTo rfl) ?_)) | (refine RE ?_; try intro _) | ((first | refine WL_op rfl ?_ | refine WL_yes (h := ?_)); (first | (refine OW_call rfl (hF := turns_fn) (hk := ?_); rintro _ _ ⟨xt, rfl, rfl⟩))) | refine RC ?_ | refine WG 0 ?_ | refine WG 1 ?_ | refine WG 3 ?_ | refine WG 4 ?_ | refine WG 5 ?_)
  rename_i x2 x3 x4
  obtain ⟨to, hto⟩ : ∃ to : List Int, to = [1, 2, 3].take n := ⟨_, rfl⟩
  have htl : to.length = n := by rw [hto, List.length_take]; simp; omega
  rw [← hto]
  refine WC_wk [(16, .func (.func 133) #[] #[.pointer (some ⟨xt, 0, none⟩)]), (4, .pointer (some ⟨x4, 0, none⟩)), (2, .pointer (some ⟨x2, 0, none⟩))] ⟨rfl, rfl, rfl, trivial⟩ ?_
  let lay : Nat → List (Nat × Obj) := fun k => slO xt (.slice (some ⟨x3, 0, none⟩) n 3) :: (x4, Obj.cells #[iV k] 3 (0, 0)) :: (x3, Obj.cells #[iV 1, iV 2, iV 3] 185 (0, 0)) :: (x2, Obj.cells (frA to k) 61 (0, 0)) :: L
  refine WC_range rfl (fun y : Int => [iV y]) (fun _ => rfl) rfl (fun pre y => to[pre.length % to.length]? = some y) (fun xs => to = [] ∧ xs = [])
    (fun pre L' => pre.length < 8 ∧ L' = lay pre.length) (fun c L' => c = .exit 0 ∧ L' = lay 8) ?_ ?_ ?_ ?_
  · intro l d o1 o2 Jx hr
    refine (turns1_fn (to := to) (tv := .slice (some ⟨x3, 0, none⟩) n 3) (n := 8) (I := fun pre L' => pre.length < 8 ∧ L' = lay pre.length) ?_ hr ?_).mono ?_
    · rintro pre L' ⟨hp, rfl⟩
      refine ⟨by omega, ?_, 0, rfl⟩
      rw [htl]
      exact ⟨by simp [htl], _, _, rfl, h3, by show 3 ≤ maxLen; decide, .inr ⟨x3, 0, _, _, _, 2, rfl, rfl, fun j x hx => by rw [Nat.zero_add]; rw [hto, List.map_take, List.getElem?_take] at hx; split at hx; (· simpa using hx); cases hx⟩⟩
    · exact ⟨by decide, rfl⟩
    · rintro v L2 (⟨xs, L', h1, h2, h3⟩ | h)
      · exact .inl ⟨xs, L', h1, h2, h3⟩
      · exact .inr h
  · rintro g' n' l d pre y L' hdom ⟨hp, rfl⟩ ol od hol
    repeat (first | refine RQ ?_ | (refine WL_Q ?_; (first | refine QW_of (Qt_buildA rfl) ?_ | refine QW_of (Qt_arrTo rfl) ?_)) | refine RC ?_ | refine WG 6 ?_)
    refine ⟨rfl, _, [], _, rfl, fun ol' hol' => ?_⟩
    simp only [List.nil_append]
    obtain ⟨k, hk⟩ : ∃ k, k = pre.length := ⟨_, rfl⟩
    rw [← hk] at hdom hp ⊢
    have hpl : (pre ++ [y]).length = k + 1 := by rw [List.length_append, hk]; rfl
    have p0 : (0 : Int) ≤ (k : Int) := by omega
    have p1 : (k : Int) < ((8 : Nat) : Int) := by omega
    have s1 : ((k : Nat) : Int).toNat * 1 < (frA to k).size := by rw [frA_size to (by omega), Int.toNat_natCast]; omega
    have w : IntKind.i64.wrap ((k : Int) + 1) = ((k + 1 : Nat) : Int) := by rw [wI64 (by omega) (by omega)]; omega
    have hst : (frA to k).setIfInBounds (((k : Nat) : Int).toNat * 1) (iV y) = frA to (k + 1) := by rw [Int.toNat_natCast, Nat.mul_one]; exact frA_set to hp hdom
    repeat (first | refine RQ ?_ | (refine WL_Q ?_; (first | refine QW_of (Qt_buildA rfl) ?_ | refine QW_of (Qt_arrTo rfl) ?_)) | (refine RE ?_; try intro _) | refine RC ?_ | refine WG 7 ?_ | refine WG 8 ?_)
    rw [w, hst]
    by_cases h8 : k + 1 = 8
    · have e1 : (((k + 1 : Nat) : Int) == 8) = true := by rw [h8]; rfl
      repeat (first | refine RQ ?_ | (refine WL_Q ?_; (first | refine QW_of (Qt_buildA rfl) ?_ | refine QW_of (Qt_arrTo rfl) ?_)) | (refine RE ?_; try intro _) | refine RC ?_ | refine WG 8 ?_ | refine WG 9 ?_)
      have hk7 : k = 7 := by omega
      clear hk
      subst hk7
      exact ⟨lay 8, .refl _, rfl, rfl⟩
    · have e1 : (((k + 1 : Nat) : Int) == 8) = false := by rw [beq_eq_false_iff_ne]; omega
      repeat (first | refine RQ ?_ | (refine WL_Q ?_; (first | refine QW_of (Qt_buildA rfl) ?_ | refine QW_of (Qt_arrTo rfl) ?_)) | (refine RE ?_; try intro _) | refine RC ?_ | refine WG 8 ?_ | refine WG 9 ?_)
      exact ⟨lay (k + 1), .refl _, by rw [hpl]; omega, by rw [hpl]⟩
  · rintro d xs L' ⟨h, _⟩ _
    rw [h] at htl
    simp at htl
    omega
  · rintro d cj L' ⟨rfl, rfl⟩
    have hz : (frA to 8).size = 8 := frA_size to (by decide)
    repeat (first | refine RQ ?_ | (refine WL_Q ?_; (first | refine QW_of (Qt_buildA rfl) ?_ | refine QW_of (Qt_arrTo rfl) ?_)) | (refine RE ?_; try intro _) | refine RC ?_ | refine WG 10 ?_)
    exact ⟨_, ⟨d, 0, _, rfl, rfl, rfl, rfl⟩, _, _, Res1 rfl (resV_cellN rfl 4 rfl hz), .cons _ (.cons _ (.cons _ (.cons _ (.cons _ (.refl _))))), by simp [frA], rfl⟩
end Go.Proofs.YtncgndcepoicbaaGreat
namespace Go.Proofs.YtncgndcepoicbaaGreat
open Go.RowKit
abbrev StV := OpV × List OpV
structure PlV where
  pre : List OpV
  st : List StV
  late : Int
  ep : Int
abbrev NdV := (Int × Int) × OpV
def rowL (s : Int) : Int → List OpV → List NdV
  | _, [] => []
  | k, o :: r => ((s, k), o) :: rowL s (k + 1) r
def stsL : Int → List StV → List NdV
  | _, [] => []
  | s, x :: r => ((s, 0), x.1) :: (rowL s 1 x.2 ++ stsL (s + 1) r)
def nodesL (p : PlV) : List NdV := rowL 0 0 p.pre ++ stsL 1 p.st
theorem rowL_app (s : Int) : ∀ (k : Int) (a b : List OpV), rowL s k (a ++ b) = rowL s k a ++ rowL s (k + a.length) b
  | k, [], b => by simp [rowL]
  | k, o :: a, b => by
    rw [List.cons_append, rowL, rowL, rowL_app s (k + 1) a b, List.cons_append, List.length_cons]
    congr 3
    omega
theorem rowL_take {s k : Int} {l : List OpV} {i : Nat} {o : OpV} (h : l[i]? = some o) : rowL s k (l.take (i + 1)) = rowL s k (l.take i) ++ [((s, k + i), o)] := by
  have hi : i < l.length := (List.getElem?_eq_some_iff.1 h).1
  rw [List.take_add_one, h, rowL_app, List.length_take, Nat.min_eq_left (by omega)]
  rfl
theorem rowL_split {s k : Int} {l : List OpV} (i : Nat) (hi : i ≤ l.length) : rowL s k l = rowL s k (l.take i) ++ rowL s (k + i) (l.drop i) := by
  have := rowL_app s k (l.take i) (l.drop i)
  rw [List.take_append_drop, List.length_take, Nat.min_eq_left hi] at this
  exact this
theorem rowL_at {s k : Int} {l : List OpV} {i : Nat} {o : OpV} (h : l[i]? = some o) : (rowL s k (l.take i) ++ [((s, k + i), o)]) <+: rowL s k l := by
  have hi : i < l.length := (List.getElem?_eq_some_iff.1 h).1
  rw [← rowL_take h, rowL_split (l := l) (i + 1) (by omega)]
  exact List.prefix_append _ _
theorem stsL_app : ∀ (s : Int) (a b : List StV), stsL s (a ++ b) = stsL s a ++ stsL (s + a.length) b
  | s, [], b => by simp [stsL]
  | s, o :: a, b => by
    rw [List.cons_append, stsL, stsL, stsL_app (s + 1) a b, List.cons_append, List.length_cons, List.append_assoc]
    congr 4
    omega
theorem stsL_split {l : List StV} {i : Nat} {x : StV} (h : l[i]? = some x) : stsL 1 l = stsL 1 (l.take i) ++ ((((i : Int) + 1, 0), x.1) :: (rowL ((i : Int) + 1) 1 x.2 ++ stsL ((i : Int) + 2) (l.drop (i + 1)))) := by
  have hi : i < l.length := (List.getElem?_eq_some_iff.1 h).1
  have e : l.drop i = x :: l.drop (i + 1) := by
    rw [List.drop_eq_getElem_cons hi]
    have := List.getElem?_eq_getElem hi
    rw [h] at this
    cases this
    rfl
  have := stsL_app 1 (l.take i) (l.drop i)
  rw [List.take_append_drop, List.length_take, Nat.min_eq_left (by omega), e, stsL] at this
  rw [this, show (1 : Int) + i = i + 1 by omega, show (i : Int) + 1 + 1 = i + 2 by omega]
theorem stsL_take {l : List StV} {i : Nat} {x : StV} (h : l[i]? = some x) : stsL 1 (l.take (i + 1)) = stsL 1 (l.take i) ++ ((((i : Int) + 1, 0), x.1) :: rowL ((i : Int) + 1) 1 x.2) := by
  have hi : i < l.length := (List.getElem?_eq_some_iff.1 h).1
  rw [List.take_add_one, h, stsL_app, List.length_take, Nat.min_eq_left (by omega), show (1 : Int) + i = i + 1 by omega]
  simp [stsL]
def checkF : Int → List NdV → Int × Int
  | _, [] => (-1, 0)
  | n, ((s, k), o) :: r => if o.ok = false then (n, 13) else if ((decide (s > 0) && (k == 0)) == (clsF o.1 == 0)) = true then (n, 14) else checkF (n + 1) r
def longF (p : PlV) : Bool := decide (4 < p.pre.length) || decide (p.st.length = 0) || decide (2 < p.st.length) || p.st.any fun x => decide (4 < x.2.length)
def planF (p : PlV) : Int × Int := if longF p = true then (-1, 4) else if p.late < 0 ∨ 1073741824 < p.late ∨ p.ep < 1 ∨ 1073741824 < p.ep then (-1, 2) else checkF 0 (nodesL p)
abbrev opCl (o : OpV) : List Value := [iV o.1, iV o.2.1, iV o.2.2.1, iV o.2.2.2]
def StAtP (G : List (Nat × Obj)) (l : List Value) (x : StV) : Prop := ∃ bv, l = opCl x.1 ++ [bv] ∧ VecM 4 G bv x.2.length (opL x.2)
def StsAt (G : List (Nat × Obj)) : List (List Value) → List StV → Prop
  | [], [] => True
  | l :: ls, c :: cs => StAtP G l c ∧ StsAt G ls cs
  | _, _ => False
theorem StAtP.mem {G G' : List (Nat × Obj)} (hs : ∀ q ∈ G, q ∈ G') {l : List Value} {x : StV} (h : StAtP G l x) : StAtP G' l x := by
  obtain ⟨bv, h1, h2⟩ := h
  exact ⟨bv, h1, h2.mem hs⟩
theorem StsAt.mem {G G' : List (Nat × Obj)} (hs : ∀ q ∈ G, q ∈ G') : ∀ {ls : List (List Value)} {cs : List StV}, StsAt G ls cs → StsAt G' ls cs
  | [], [], _ => trivial
  | _ :: _, _ :: _, ⟨h1, h2⟩ => ⟨h1.mem hs, StsAt.mem hs h2⟩
theorem StAtP.len {G : List (Nat × Obj)} {l : List Value} {x : StV} (h : StAtP G l x) : l.length = 5 := by obtain ⟨bv, rfl, _⟩ := h; rfl
theorem StsAt.flat {G : List (Nat × Obj)} : ∀ {ls : List (List Value)} {cs : List StV}, StsAt G ls cs → ls.flatten.length = cs.length * 5
  | [], [], _ => rfl
  | l :: ls, c :: cs, ⟨h1, h2⟩ => by rw [List.flatten_cons, List.length_append, h1.len, StsAt.flat h2, List.length_cons]; omega
theorem StsAt.get {G : List (Nat × Obj)} {ls : List (List Value)} : ∀ {cs : List StV} {k : Nat} {c : StV}, StsAt G ls cs → cs[k]? = some c → ∃ l, StAtP G l c ∧ ∀ j : Nat, j < 5 → ls.flatten[k * 5 + j]? = l[j]? := by
  induction ls with
  | nil =>
    intro cs k c h hk
    cases cs with
    | nil => simp at hk
    | cons _ _ => exact h.elim
  | cons l ls ih =>
    intro cs k c h hk
    cases cs with
    | nil => exact h.elim
    | cons c0 cs =>
      obtain ⟨h1, h2⟩ := h
      cases k with
      | zero =>
        rw [List.getElem?_cons_zero] at hk
        cases hk
        exact ⟨l, h1, fun j hj => by rw [List.flatten_cons, Nat.zero_mul, Nat.zero_add, List.getElem?_append_left (by rw [h1.len]; exact hj)]⟩
      | succ k =>
        rw [List.getElem?_cons_succ] at hk
        obtain ⟨l', h3, h4⟩ := ih h2 hk
        refine ⟨l', h3, fun j hj => ?_⟩
        rw [List.flatten_cons, List.getElem?_append_right (by rw [h1.len]; omega), h1.len, show (k + 1) * 5 + j - 5 = k * 5 + j by omega]
        exact h4 j hj
theorem StsAt.one {G : List (Nat × Obj)} : ∀ {ls : List (List Value)} {cs : List StV}, StsAt G ls cs → ∀ u ∈ ls.flatten, u.oneCell' = true
  | [], [], _, u, h => by simp at h
  | l :: ls, c :: cs, ⟨h1, h2⟩, u, h => by
    rw [List.flatten_cons, List.mem_append] at h
    rcases h with h | h
    · obtain ⟨bv, rfl, _, a, cap, rfl, _⟩ := h1
      simp only [opCl, List.mem_cons, List.cons_append, List.nil_append, List.not_mem_nil, or_false] at h
      rcases h with rfl | rfl | rfl | rfl | rfl <;> rfl
    · exact StsAt.one h2 u h
def plC (pv sv : Value) (p : PlV) : Array Value := #[pv, sv, iV p.late, iV p.ep]
def PlAt (G : List (Nat × Obj)) (v : Array Value) (p : PlV) : Prop := ∃ pv sv ls, v = plC pv sv p ∧ VecM 4 G pv p.pre.length (opL p.pre) ∧ VecM 5 G sv p.st.length ls.flatten ∧ StsAt G ls p.st
theorem PlAt.mem {G G' : List (Nat × Obj)} (hs : ∀ q ∈ G, q ∈ G') {v : Array Value} {p : PlV} (h : PlAt G v p) : PlAt G' v p := by
  obtain ⟨pv, sv, ls, h1, h2, h3, h4⟩ := h
  exact ⟨pv, sv, ls, h1, h2.mem hs, h3.mem hs, h4.mem hs⟩
abbrev ndC (y : NdV) : List Value := [.agg #[iV y.1.1, iV y.1.2], .agg (opC y.2.1 y.2.2.1 y.2.2.2.1 y.2.2.2.2)]
end Go.Proofs.YtncgndcepoicbaaGreat
namespace Go.Proofs.YtncgndcepoicbaaGreat
open Go.RowKit
set_option maxHeartbeats 4000000 in
theorem WC_rangeX {α : Type} {P : Program} {g : World} {N n : Nat} {x : Operand} {ps : Array Nat} {assign body : Code} {K : Exit → St → Prop} {s : List (Nat × Value)} {D : List Deferred} {L : List (Nat × Obj)} {gf : Nat} {fs lb : Array Value} [hf : FCall P gf]
    (hx : ev s x = some (.func (.func gf) fs lb)) (enc : α → List Value) (hps : ∀ y, (enc y).length = ps.size) (hpn : (ps.toList.all fun p => Nat.blt p N) = true)
    (Dom : List α → α → Prop) (Fin : List α → Prop) (I : List α → List (Nat × Obj) → Prop) (Ix : Code → List (Nat × Obj) → Prop)
    (hit : ∀ (l d : Nat) (o1 o2 : Obj) (Jx : List (Nat × Obj) → Prop),
      (∀ X pre y L', Dom pre y → I pre L' → YieldFn P l (enc y) ((l, o1) :: (d, o2) :: (L' ++ X)) (fun v L2 => (v = .bool true ∧ ∃ L'', L2 = (l, o1) :: (d, o2) :: (L'' ++ X) ∧ I (pre ++ [y]) L'') ∨ (v = .bool false ∧ Jx L2))) →
      Fn P gf (fs.toList ++ [.func (.yield l) #[] #[]] ++ lb.toList) ((l, o1) :: (d, o2) :: L) (fun _ L2 => (∃ xs L', Fin xs ∧ L2 = (l, o1) :: (d, o2) :: L' ∧ I xs L') ∨ Jx L2))
    (hbody : ∀ X g' n' l d pre y L', Dom pre y → I pre L' → RoundOk ⟨P, g', N, n', none⟩ l d assign body ⟨zipS ps.toList (enc y) s, [], L' ++ X⟩ (L' ++ X) (fun L3 => ∃ L'', L3 = L'' ++ X ∧ I (pre ++ [y]) L'') Ix)
    (hdone : ∀ d xs L', Fin xs → I xs L' → K .normal ⟨s, markD d :: D, (d, .deferred (some [])) :: L'⟩)
    (hstop : ∀ d cj L', Ix cj L' → WC ⟨P, g, N, n, none⟩ cj K ⟨s, markD d :: D, (d, .deferred (some [])) :: L'⟩) :
    WC ⟨P, g, N, n, none⟩ (.rangeFunc x ps assign body) K ⟨s, D, L⟩ := fun a w ha => by
  refine wpIn_rangeFunc ?_
  intro fn _
  obtain ⟨rec, hrec⟩ : ∃ rec : LoopState → Option Code → Loop, rec = fun st pe => { state := st, pending := pe, fn, tmps := a.tmps, params := ps, assign, body, defers := w.heap.size } := ⟨_, rfl⟩
  obtain ⟨W1, hW1⟩ : ∃ W1, (w.alloc (.deferred (some []))).alloc (.loop (rec .ready none)) = W1 := ⟨_, rfl⟩
  have hm1 : Mem g ((w.heap.size + 1, .loop (rec .ready none)) :: (w.heap.size, .deferred (some [])) :: L) W1 := by
    have := (ha.mem.alloc (.deferred (some []))).alloc (.loop (rec .ready none))
    rw [World.size_alloc] at this
    rw [← hW1]; exact this
  refine ⟨w.heap.size + 1, [markD w.heap.size], W1, { target := .fn (.func gf) lb, args := fs ++ #[.func (.yield (w.heap.size + 1)) #[] #[]] }, W1, gf, fs ++ #[.func (.yield (w.heap.size + 1)) #[] #[]] ++ lb, W1, ?_, ?_, fun _ _ => trivial, ?_, fun h => by simp at h, ?_⟩
  · rw [← hW1, hrec]; exact run_enterLoop_outer _ _ _ _ _
  · have := ha.ev hx
    simp [resolve, this, Deferred.ofValue, show ∀ v, a.eval (.const v) = v from fun _ => rfl]
  · simp [invoke, hf.h]
  · generalize hl : w.heap.size + 1 = l at hm1 ⊢
    generalize hd : w.heap.size = d at hm1 ⊢
    let Jx : List (Nat × Obj) → Prop := fun L2 => ∃ cj L', L2 = (l, .loop (rec .done (some cj))) :: (d, .deferred (some [])) :: L' ∧ Ix cj L'
    have hcall := hit l d (.loop (rec .ready none)) (.deferred (some [])) Jx ?_
    · have e : (fs.toList ++ [Value.func (.yield l) #[] #[]] ++ lb.toList).toArray = fs ++ #[.func (.yield l) #[] #[]] ++ lb := by apply Array.ext'; simp
      have hc := callsIn_fw none (n - 1) (hcall g W1 hm1)
      rw [e] at hc
      refine hc.mono fun e w' ⟨v, L2, h1, h2, h3⟩ => ?_
      subst h1
      rcases h3 with ⟨xs, L', hfin, rfl, hI⟩ | ⟨cj, L', rfl, hI⟩
      · have hlp := h2.at_ (i := 0) rfl
        have hpd : (rec .ready none).pending = none := by rw [hrec]
        obtain ⟨w4, hen, hm4⟩ : ∃ w4, (Instr.endLoop l).run P w' = .ok (rec .ready none).pending w4 ∧ Mem g ((d, .deferred (some [])) :: L') w4 :=
          ⟨_, run_endLoop (P := P) hlp (by rw [hrec]; simp), (h2.putObj (i := 0) rfl (.loop { rec .ready none with state := .exhausted })).sublist (.cons _ (.refl _))⟩
        rw [hpd] at hen
        exact ⟨none, w4, hen, ⟨s, markD d :: D, (d, .deferred (some [])) :: L'⟩, ⟨ha.size, ha.slots, by show markD d :: a.defers = _; rw [ha.defers], hm4⟩, hdone d xs L' hfin hI⟩
      · have hlp := h2.at_ (i := 0) rfl
        have hpd : (rec .done (some cj)).pending = some cj := by rw [hrec]
        obtain ⟨w4, hen, hm4⟩ : ∃ w4, (Instr.endLoop l).run P w' = .ok (rec .done (some cj)).pending w4 ∧ Mem g ((d, .deferred (some [])) :: L') w4 :=
          ⟨_, run_endLoop (P := P) hlp (by rw [hrec]; simp), (h2.putObj (i := 0) rfl (.loop { rec .done (some cj) with state := .exhausted })).sublist (.cons _ (.refl _))⟩
        rw [hpd] at hen
        exact ⟨some cj, w4, hen, hstop d cj L' hI _ _ ⟨ha.size, ha.slots, by show markD d :: a.defers = _; rw [ha.defers], hm4⟩⟩
    · -- one round
      rintro X pre y L' hdom hI g2 w2 m hm
      have hy := run_yield (P := P) (w := w2) (args := (enc y).toArray) (hm.at_ (i := 0) rfl) (by rw [hrec]; simpa using hps y)
      have e1 : (rec .ready none).fn = fn ∧ (rec .ready none).assign = assign ∧ (rec .ready none).body = body ∧ (rec .ready none).params = ps ∧ (rec .ready none).tmps = a.tmps := by rw [hrec]; exact ⟨rfl, rfl, rfl, rfl, rfl⟩
      rw [e1.1, e1.2.1, e1.2.2.1, e1.2.2.2.1, e1.2.2.2.2] at hy
      refine ⟨fn, _, assign, body, hy, roundIn_of_wpIn trivial ?_⟩
      have hz := holds_zip (g := g2) (w := w2) (N := N) (D := []) (L := (l, .loop (rec .ready none)) :: (d, .deferred (some [])) :: (L' ++ X)) ps.toList (enc y) s { tmps := a.tmps, defers := [] } hpn ⟨ha.size, ha.slots, rfl, hm⟩
      have e2 : (ps.toList.zip (enc y)).foldl (fun t (q : Nat × Value) => t.setIfInBounds q.1 q.2) a.tmps = (ps.zip (enc y).toArray).foldl (fun tmps (q : Nat × Value) => tmps.setIfInBounds q.1 q.2) a.tmps := by
        rw [← Array.foldl_toList, Array.toList_zip]
      simp only [e2] at hz
      refine Go.wpIn_mono (hbody X g2 m l d pre y L' hdom hI (.loop (rec .ready none)) (.deferred (some [])) ⟨_, rfl⟩ _ w2 hz) (fun e a3 w3 hl3 => ?_)
      cases e with
      | normal =>
        obtain ⟨σ', hH, _, s', A, B, rfl, hnext⟩ := hl3
        have hat : (A ++ (l, Obj.loop (rec .ready none)) :: B)[A.length]? = some (l, .loop (rec .ready none)) := by simp
        have hlp := hH.mem.at_ hat
        have hb := run_beginRound (P := P) hlp (by rw [hrec])
        refine ⟨_, hb, ?_⟩
        have hm4 := hH.mem.putObj hat (.loop { rec .ready none with state := .busy })
        have e3 : (A ++ (l, Obj.loop (rec .ready none)) :: B).set A.length (l, .loop { rec .ready none with state := .busy }) = A ++ (l, .loop { rec .ready none with state := .busy }) :: B := by simp
        simp only [e3] at hm4
        have hH4 : Holds g2 N ⟨s', [], A ++ (l, .loop { rec .ready none with state := .busy }) :: B⟩ a3 _ := ⟨hH.size, hH.slots, hH.defers, hm4⟩
        refine Go.wpIn_mono (hnext _ ⟨_, rfl⟩ _ _ hH4) (fun e a5 w5 hl5 => ?_)
        have fin : ∀ (jump : Option Code) (L'' : List (Nat × Obj)), Mem g2 ((l, .loop { rec .ready none with state := .busy }) :: (d, .deferred (some [])) :: L'') w5 →
            ∃ w6, (Instr.endRound l jump).run P w5 = .ok (.bool jump.isNone) w6 ∧ Mem g2 ((l, .loop (rec (if jump.isNone then .ready else .done) jump)) :: (d, .deferred (some [])) :: L'') w6 := fun jump L'' hm5 => by
          have h1 := run_endRound (P := P) jump (hm5.at_ (i := 0) rfl)
          have h2 := hm5.putObj (i := 0) rfl (.loop { ({ rec .ready none with state := .busy } : Loop) with state := if jump.isNone then .ready else .done, pending := jump })
          refine ⟨_, h1, ?_⟩
          have e4 : ({ ({ rec .ready none with state := .busy } : Loop) with state := if jump.isNone then .ready else .done, pending := jump } : Loop) = rec (if jump.isNone then .ready else .done) jump := by rw [hrec]
          rw [e4] at h2 ⊢
          exact h2
        cases e with
        | normal =>
          obtain ⟨σ'', h1, _, h2, L3, rfl, h3⟩ := hl5
          obtain ⟨w6, h4, h5⟩ := fin none (L3 ++ X) (h1.mem.sublist h2)
          exact ⟨_, w6, h4, _, _, rfl, h5, .inl ⟨rfl, L3, rfl, h3⟩⟩
        | ret =>
          obtain ⟨σ'', h1, L'', h2, h3⟩ := hl5
          obtain ⟨w6, h4, h5⟩ := fin (some .ret) L'' (h1.mem.sublist h2)
          exact ⟨_, w6, h4, _, _, rfl, h5, .inr ⟨rfl, .ret, L'', rfl, h3⟩⟩
        | exit id =>
          obtain ⟨σ'', h1, L'', h2, h3⟩ := hl5
          obtain ⟨w6, h4, h5⟩ := fin (some (.exit id)) L'' (h1.mem.sublist h2)
          exact ⟨_, w6, h4, _, _, rfl, h5, .inr ⟨rfl, .exit id, L'', rfl, h3⟩⟩
        | goto t =>
          obtain ⟨σ'', h1, L'', h2, h3⟩ := hl5
          obtain ⟨w6, h4, h5⟩ := fin (some (.goto t)) L'' (h1.mem.sublist h2)
          exact ⟨_, w6, h4, _, _, rfl, h5, .inr ⟨rfl, .goto t, L'', rfl, h3⟩⟩
        | panic ch => obtain ⟨_, _, h⟩ := hl5; exact h.elim
        | outgrown => obtain ⟨_, _, h⟩ := hl5; exact h.elim
      | panic ch => obtain ⟨_, _, h, _⟩ := hl3; cases h
      | ret => obtain ⟨_, _, h, _⟩ := hl3; cases h
      | exit id => obtain ⟨_, _, h, _⟩ := hl3; cases h
      | goto t => obtain ⟨_, _, h, _⟩ := hl3; cases h
      | outgrown => obtain ⟨_, _, h, _⟩ := hl3; cases h
end Go.Proofs.YtncgndcepoicbaaGreat
