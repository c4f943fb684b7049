/-
  A part of what the last of these texts needs; by itself it proves no statement.
-/
import Derived.Test.YtncgndcepoicbaaGreatKH10
namespace Go.Proofs.YtncgndcepoicbaaGreat
open Go.RowKit
abbrev OpV := Int × Int × Int × Int
structure CmV where
  kind : Int
  at_ : Int
  bins : List Int
  to : Int
  node : Int
  op : OpV
  mode : Int
abbrev CfV := Int × Int × Int × Int × Int
structure TbV where
  cf : CfV
  cmds : List CmV
  spans : List (List (Int × Int))
  act : List Int
  nodes : List OpV
  repl : List (List CmV)
abbrev TbV.wk (t : TbV) : Int := t.cf.1
def OpV.ok (o : OpV) : Bool := opF o.1 o.2.1 o.2.2.1 o.2.2.2
def lastF (t : TbV) : Int := match t.cmds.getLast? with
  | some c => c.at_
  | none => 0
def hasF (sp : List (List (Int × Int))) (b : Int) : Int := (((sp[b.toNat]?).getD []).getLast?.getD (0, 0)).2
def risF : Int → List Int → Bool
  | last, [] => decide (0 ≤ last)
  | last, b :: r => if b ≤ last ∨ 8 ≤ b then false else risF b r
def tryF (t : TbV) (c : CmV) (floor : Int) : Int :=
  if 64 ≤ t.cmds.length then 8 else if ¬ (0 ≤ c.kind ∧ c.kind ≤ 3) then 6 else if ¬ (max floor (lastF t) < c.at_ ∧ c.at_ ≤ 1099511627776) then 12
  else if c.kind = 0 then (if risF (-1) c.bins = false then 15 else if c.to ∉ t.act then 16 else if c.bins.any (fun b => hasF t.spans b == c.to) = true then 17 else 0)
  else if c.kind = 1 then (if ¬ (1 ≤ c.to ∧ c.to ≤ t.wk) then 16 else if c.to ∈ t.act then 11 else 0)
  else if c.kind = 2 then (if c.to ∉ t.act then 16 else if t.act.length ≤ 1 then 10 else 0)
  else (if ¬ ((0 ≤ c.node ∧ c.node ≤ (t.nodes.length : Int) - 1) ∧ (0 ≤ c.mode ∧ c.mode ≤ 2)) then 2 else if c.op.ok = false then 13 else if clsF c.op.1 ≠ clsF ((t.nodes[c.node.toNat]?).getD (0, 0, 0, 0)).1 then 14 else 0)
def giveK (at_ : Int) (to : List Int) : Nat → List Int → List (List (Int × Int)) → List (List (Int × Int))
  | _, [], sp => sp
  | k, b :: r, sp => giveK at_ to (k + 1) r (sp.set b.toNat (((sp[b.toNat]?).getD []) ++ [(at_, (to[k % to.length]?).getD 0)]))
def giveF (sp : List (List (Int × Int))) (at_ : Int) (bins to : List Int) : List (List (Int × Int)) := if to = [] then sp else giveK at_ to 0 bins sp
def insF (x : Int) : List Int → List Int
  | [] => [x]
  | y :: r => if x ≤ y then x :: y :: r else y :: insF x r
def ofF (sp : List (List (Int × Int))) (w : Int) : List Int := ((List.range 8).map fun b : Nat => (b : Int)).filter fun b => hasF sp b == w
def addF (t : TbV) (c : CmV) : TbV :=
  if c.kind = 0 then { t with cmds := t.cmds ++ [c], spans := giveF t.spans c.at_ c.bins [c.to] }
  else if c.kind = 1 then { t with cmds := t.cmds ++ [c], act := insF c.to t.act }
  else if c.kind = 2 then { t with cmds := t.cmds ++ [c], act := t.act.filter (fun w => !(w == c.to)), spans := giveF t.spans c.at_ (ofF t.spans c.to) (t.act.filter (fun w => !(w == c.to))) }
  else { t with cmds := t.cmds ++ [c], repl := t.repl.set c.node.toNat (((t.repl[c.node.toNat]?).getD []) ++ [c]) }
end Go.Proofs.YtncgndcepoicbaaGreat
namespace Go.Proofs.YtncgndcepoicbaaGreat
open Go.RowKit
def VecM (sz : Nat) (G : List (Nat × Obj)) (v : Value) (n : Nat) (xs : List Value) : Prop :=
  xs.length = n * sz ∧ ∃ a cap, v = .slice a n cap ∧ n ≤ cap ∧ cap ≤ maxLen ∧ (n = 0 ∨ ∃ (b off : Nat) (cs : Array Value) (E : TypeId) (fr : Nat × Nat), a = some ⟨b, off, none⟩ ∧ (b, Obj.cells cs E fr) ∈ G ∧ ∀ j x, xs[j]? = some x → cs[off + j]? = some x)
theorem VecM.vec {sz : Nat} {G L : List (Nat × Obj)} {v : Value} {n : Nat} {xs : List Value} (h : VecM sz G v n xs) (hs : ∀ q ∈ G, q ∈ L) : Vec sz L v n xs := by
  obtain ⟨h1, a, cap, h2, h3, h4, h5⟩ := h
  refine ⟨h1, a, cap, h2, h3, h4, ?_⟩
  rcases h5 with h5 | ⟨b, off, cs, E, fr, e1, e2, e3⟩
  · exact .inl h5
  · obtain ⟨i, hi⟩ := List.mem_iff_getElem?.1 (hs _ e2)
    exact .inr ⟨b, off, cs, E, fr, i, e1, hi, e3⟩
theorem VecM.mem {sz : Nat} {G G' : List (Nat × Obj)} {v : Value} {n : Nat} {xs : List Value} (h : VecM sz G v n xs) (hs : ∀ q ∈ G, q ∈ G') : VecM sz G' v n xs := by
  obtain ⟨h1, a, cap, h2, h3, h4, h5⟩ := h
  refine ⟨h1, a, cap, h2, h3, h4, ?_⟩
  rcases h5 with h5 | ⟨b, off, cs, E, fr, e1, e2, e3⟩
  · exact .inl h5
  · exact .inr ⟨b, off, cs, E, fr, e1, hs _ e2, e3⟩
theorem Buf.vecM {E sz : Nat} {v : Value} {T : List (Nat × Obj)} {n : Nat} {xs : List Value} (h : Buf E sz v T n xs) : VecM sz T v n xs := by
  rcases h with ⟨rfl, rfl, rfl, rfl⟩ | ⟨g, off, cap, cur, rfl, rfl, ho⟩
  · exact ⟨by simp, none, 0, rfl, Nat.le_refl _, Nat.zero_le _, .inl rfl⟩
  · exact ⟨ho.len, _, cap, rfl, ho.le, ho.max, .inr ⟨g, off, cur, E, (0, 0), rfl, List.mem_singleton.2 rfl, ho.at_⟩⟩
abbrev iV (x : Int) : Value := .int .i64 x
def idxF (x : Int) : List Int → Int
  | [] => -1
  | y :: r => if x = y then 0 else if idxF x r < 0 then -1 else idxF x r + 1
theorem idxF_ge (x : Int) : ∀ l : List Int, -1 ≤ idxF x l
  | [] => Int.le_refl _
  | y :: r => by
    have := idxF_ge x r
    unfold idxF
    split
    · omega
    · split <;> omega
theorem idxF_mem {x : Int} : ∀ {l : List Int}, (0 ≤ idxF x l) ↔ x ∈ l
  | [] => by simp [idxF]
  | y :: r => by
    have ih := idxF_mem (x := x) (l := r)
    have := idxF_ge x r
    unfold idxF
    by_cases h : x = y
    · rw [if_pos h]; simp [h]
    · rw [if_neg h, List.mem_cons]
      constructor
      · intro h1
        refine .inr (ih.1 ?_)
        split at h1
        · omega
        · omega
      · rintro (h1 | h1)
        · exact absurd h1 h
        · have := ih.2 h1
          rw [if_neg (by omega)]; omega
theorem idxF_at {x : Int} : ∀ {l : List Int} {i : Nat}, l[i]? = some x → x ∉ l.take i → idxF x l = (i : Int)
  | [], i, h, _ => by simp at h
  | y :: r, 0, h, _ => by
    obtain rfl : y = x := by simpa using h
    exact if_pos rfl
  | y :: r, i + 1, h, hn => by
    rw [List.take_succ_cons, List.mem_cons, not_or] at hn
    have ih := idxF_at (l := r) (i := i) (by simpa using h) hn.2
    unfold idxF
    rw [if_neg hn.1, ih, if_neg (by omega)]
    omega
attribute [local irreducible] Fn WC WL WR OW Qt YieldFn QW FnP FnD FnE
set_option maxHeartbeats 4000000 in
theorem index_fn {x : Int} {l : List Int} {v : Value} {L : List (Nat × Obj)} (h : Vec 1 L v l.length (l.map iV)) : Fn Tryz.prog 127 [v, .int .i64 x] L (fun r L' => r = .int .i64 (idxF x l) ∧ L' = L) := by
  obtain ⟨_, a, cap, rfl, hc, hm, hx⟩ := id h
  refine Fn_enter Tryz.func127 rfl Tryz.ntmps127 rfl fun g => ?_
  repeat (first | refine RQ ?_ | refine RC ?_ | refine WG 0 ?_ | refine WG 1 ?_)
  refine WC_wk [(8, .int .i64 ((0 : Nat) : Int)), (7, .int .i64 (l.length : Nat)), (0, .slice a l.length cap), (1, .int .i64 x)] ⟨rfl, rfl, rfl, rfl, trivial⟩ ?_
  refine WC_loop (fun m σ => ∃ i : Nat, m = l.length - i ∧ i ≤ l.length ∧ x ∉ l.take i ∧ σ = ⟨[(8, .int .i64 (i : Nat)), (7, .int .i64 (l.length : Nat)), (0, .slice a l.length cap), (1, .int .i64 x)], [], L⟩) l.length ⟨0, rfl, Nat.zero_le _, by simp, rfl⟩ ?_
  rintro m σ ⟨i, rfl, hi, hn, rfl⟩
  by_cases hlt : i < l.length
  rotate_left
  · have d : decide ((i : Int) < ((l.length : Nat) : Int)) = false := decide_eq_false (by omega)
    rw [List.take_of_length_le (by omega)] at hn
    have e : idxF x l = -1 := by
      have h1 := idxF_ge x l
      have h2 := mt idxF_mem.1 hn
      omega
    repeat (first | refine RQ ?_ | refine RC ?_ | refine WG 2 ?_ | refine WG 7 ?_)
    exact ⟨rfl, _, _, Res1 rfl (resV_tmp rfl), .refl _, by rw [e], rfl⟩
  have d : decide ((i : Int) < ((l.length : Nat) : Int)) = true := decide_eq_true (by omega)
  have p0 : (0 : Int) ≤ (i : Int) := by omega
  have p1 : ((i : Nat) : Int) < ((l.length : Nat) : Int) := by omega
  obtain ⟨b, off, cs, E, fr, k, rfl, hk, hcs⟩ := hx.resolve_left (by omega)
  obtain ⟨y, hy⟩ : ∃ y, l[i]? = some y := ⟨_, List.getElem?_eq_getElem hlt⟩
  have hc1 : cs[off + ((i : Nat) : Int).toNat * 1]? = some (iV y) := by rw [Int.toNat_natCast, Nat.mul_one]; exact hcs i _ (by rw [List.getElem?_map, hy]; rfl)
  have w : IntKind.i64.wrap ((i : Int) + 1) = ((i + 1 : Nat) : Int) := by rw [wI64 (by omega) (by simp only [maxLen] at hm; omega)]; omega
  by_cases hxy : x = y
  · subst hxy
    have d2 : (x == x) = true := by simp
    have e : idxF x l = (i : Int) := idxF_at hy hn
    repeat (first | refine RQ ?_ | refine RC ?_ | refine WG 2 ?_ | refine WG 3 ?_ | refine WG 4 ?_ | refine WG 5 ?_)
    exact ⟨rfl, _, _, Res1 rfl (resV_tmp rfl), .refl _, by rw [e], rfl⟩
  · have d2 : (x == y) = false := by simpa using hxy
    repeat (first | refine RQ ?_ | refine RC ?_ | refine WG 2 ?_ | refine WG 3 ?_ | refine WG 4 ?_ | refine WG 6 ?_)
    rw [w]
    refine ⟨_, _, by omega, ⟨i + 1, rfl, by omega, ?_, rfl⟩, ⟨rfl, rfl, rfl, rfl, trivial⟩, rfl, .refl _⟩
    rw [List.take_add_one, hy]
    simpa [hxy] using hn
theorem contains_fn {x : Int} {l : List Int} {v : Value} {L : List (Nat × Obj)} (h : Vec 1 L v l.length (l.map iV)) : Fn Tryz.prog 93 [v, .int .i64 x] L (fun r L' => r = .bool (decide (x ∈ l)) ∧ L' = L) := by
  refine Fn_enter Tryz.func93 rfl Tryz.ntmps93 rfl fun g => ?_
  repeat (first | refine RQ ?_ | (refine WL_op rfl ?_; (first | refine OW_callP rfl (hF := index_fn h) (hk := ?_))) | refine RC ?_ | refine WC_region ?_)
  refine ⟨rfl, _, _, Res1 rfl (resV_tmp rfl), .refl _, ?_, rfl⟩
  congr 1
  exact decide_eq_decide.2 idxF_mem
end Go.Proofs.YtncgndcepoicbaaGreat
namespace Go.Proofs.YtncgndcepoicbaaGreat
open Go.RowKit
theorem Qt_eqlNilT {c : Cx} {s : List (Nat × Value)} {L : List (Nat × Obj)} {o : Oper} {t t' e : TypeId} [hu : TUnd c.P t (.slice e)] {x : Operand} {a : Option Addr} {n cap : Nat} (ho : o.op = .binOp .eql t x (.const (.slice none 0 0)) t') (hx : ev s x = some (.slice a n cap) := by exact rfl) : Qt c s L o (.bool a.isNone) :=
  Qt_of_run (by simp [ho]) (fun ρ hρ w _ => by
    have h2 := Lib.run_eql_slice_nil (P := c.P) w t e a n cap 0 0 hu.h
    have h3 := hρ (.const (.slice none 0 0)) _ rfl
    simp [execOp, ho, hρ x _ hx, h3, eqGuard, h2, Result.andThen])
attribute [local irreducible] Fn WC WL WR OW Qt YieldFn QW FnP FnD FnE
theorem cloneInt_fn {v : Value} {n : Nat} {xs : List Value} {L : List (Nat × Obj)} (h : Vec 1 L v n xs) (h1 : ∀ u ∈ xs, u.oneCell' = true) (hn : n ≤ 100000) : Fn Tryz.prog 65 [v] L (fun r L' => ∃ T, L' = T ++ L ∧ Buf 3 1 r T n xs) := by
  obtain ⟨hl, a, cap, rfl, hc, hm, hx⟩ := id h
  refine Fn_enter Tryz.func65 rfl Tryz.ntmps65 rfl fun g => ?_
  cases a with
  | none =>
    obtain rfl : n = 0 := by
      rcases hx with hx | ⟨b, off, cs, E, fr, i, e, _⟩
      · exact hx
      · cases e
    obtain rfl : xs = [] := List.eq_nil_of_length_eq_zero (by omega)
    repeat (first | refine RQ ?_ | (refine WL_Q ?_; (first | refine QW_of (Qt_eqlNilT rfl) ?_)) | refine RC ?_ | refine WG 0 ?_ | refine WG 1 ?_ | refine WG 2 ?_)
    exact ⟨rfl, _, _, Res1 rfl (resV_tmp rfl), .refl _, [], rfl, Buf.nil _ _⟩
  | some a =>
    have dS : (some a).isNone = false := rfl
    repeat (first | refine RQ ?_ | (refine WL_Q ?_; (first | refine QW_of (Qt_eqlNilT rfl) ?_)) | (refine RE ?_; try intro _) | refine RC ?_ | refine WG 0 ?_ | refine WG 1 ?_ | refine WG 3 ?_)
    refine WL_op rfl (OW_append_own rfl rfl rfl rfl rfl 0 rfl (xs := []) (n := 0) (cap := 0) ⟨rfl, Nat.le_refl _, by decide, Nat.le_refl _, fun j x hj => by simp at hj⟩ (srcVec (Vec.cons _ h) h1) (by simp only [maxLen]; omega) (by omega) ?_)
    intro b1 off1 cap2 cur1 hown
    simp only [List.set_cons_zero]
    repeat (first | refine RQ ?_ | (refine WL_Q ?_; (first | refine QW_of (Qt_eqlNilT rfl) ?_)) | (refine RE ?_; try intro _) | refine RC ?_ | refine WG 3 ?_)
    have h0 : 0 + n = n := Nat.zero_add _
    rw [h0]
    rw [h0, List.nil_append] at hown
    exact ⟨rfl, _, _, Res1 rfl (resV_tmp rfl), .refl _, [_], rfl, .inr ⟨b1, off1, cap2, cur1, rfl, rfl, hown⟩⟩
theorem cloneSpan_fn {v : Value} {n : Nat} {xs : List Value} {L : List (Nat × Obj)} (h : Vec 2 L v n xs) (h1 : ∀ u ∈ xs, u.oneCell' = true) (hn : n ≤ 100000) : Fn Tryz.prog 87 [v] L (fun r L' => ∃ T, L' = T ++ L ∧ Buf 76 2 r T n xs) := by
  obtain ⟨hl, a, cap, rfl, hc, hm, hx⟩ := id h
  refine Fn_enter Tryz.func87 rfl Tryz.ntmps87 rfl fun g => ?_
  cases a with
  | none =>
    obtain rfl : n = 0 := by
      rcases hx with hx | ⟨b, off, cs, E, fr, i, e, _⟩
      · exact hx
      · cases e
    obtain rfl : xs = [] := List.eq_nil_of_length_eq_zero (by omega)
    repeat (first | refine RQ ?_ | (refine WL_Q ?_; (first | refine QW_of (Qt_eqlNilT rfl) ?_)) | refine RC ?_ | refine WG 0 ?_ | refine WG 1 ?_ | refine WG 2 ?_)
    exact ⟨rfl, _, _, Res1 rfl (resV_tmp rfl), .refl _, [], rfl, Buf.nil _ _⟩
  | some a =>
    have dS : (some a).isNone = false := rfl
    repeat (first | refine RQ ?_ | (refine WL_Q ?_; (first | refine QW_of (Qt_eqlNilT rfl) ?_)) | (refine RE ?_; try intro _) | refine RC ?_ | refine WG 0 ?_ | refine WG 1 ?_ | refine WG 3 ?_)
    refine WL_op rfl (OW_append_own rfl rfl rfl rfl rfl 0 rfl (xs := []) (n := 0) (cap := 0) ⟨rfl, Nat.le_refl _, by decide, Nat.le_refl _, fun j x hj => by simp at hj⟩ (srcVec (Vec.cons _ h) h1) (by simp only [maxLen]; omega) (by omega) ?_)
    intro b1 off1 cap2 cur1 hown
    simp only [List.set_cons_zero]
    repeat (first | refine RQ ?_ | (refine WL_Q ?_; (first | refine QW_of (Qt_eqlNilT rfl) ?_)) | (refine RE ?_; try intro _) | refine RC ?_ | refine WG 3 ?_)
    have h0 : 0 + n = n := Nat.zero_add _
    rw [h0]
    rw [h0, List.nil_append] at hown
    exact ⟨rfl, _, _, Res1 rfl (resV_tmp rfl), .refl _, [_], rfl, .inr ⟨b1, off1, cap2, cur1, rfl, rfl, hown⟩⟩
theorem cloneOp_fn {v : Value} {n : Nat} {xs : List Value} {L : List (Nat × Obj)} (h : Vec 4 L v n xs) (h1 : ∀ u ∈ xs, u.oneCell' = true) (hn : n ≤ 100000) : Fn Tryz.prog 107 [v] L (fun r L' => ∃ T, L' = T ++ L ∧ Buf 40 4 r T n xs) := by
  obtain ⟨hl, a, cap, rfl, hc, hm, hx⟩ := id h
  refine Fn_enter Tryz.func107 rfl Tryz.ntmps107 rfl fun g => ?_
  cases a with
  | none =>
    obtain rfl : n = 0 := by
      rcases hx with hx | ⟨b, off, cs, E, fr, i, e, _⟩
      · exact hx
      · cases e
    obtain rfl : xs = [] := List.eq_nil_of_length_eq_zero (by omega)
    repeat (first | refine RQ ?_ | (refine WL_Q ?_; (first | refine QW_of (Qt_eqlNilT rfl) ?_)) | refine RC ?_ | refine WG 0 ?_ | refine WG 1 ?_ | refine WG 2 ?_)
    exact ⟨rfl, _, _, Res1 rfl (resV_tmp rfl), .refl _, [], rfl, Buf.nil _ _⟩
  | some a =>
    have dS : (some a).isNone = false := rfl
    repeat (first | refine RQ ?_ | (refine WL_Q ?_; (first | refine QW_of (Qt_eqlNilT rfl) ?_)) | (refine RE ?_; try intro _) | refine RC ?_ | refine WG 0 ?_ | refine WG 1 ?_ | refine WG 3 ?_)
    refine WL_op rfl (OW_append_own rfl rfl rfl rfl rfl 0 rfl (xs := []) (n := 0) (cap := 0) ⟨rfl, Nat.le_refl _, by decide, Nat.le_refl _, fun j x hj => by simp at hj⟩ (srcVec (Vec.cons _ h) h1) (by simp only [maxLen]; omega) (by omega) ?_)
    intro b1 off1 cap2 cur1 hown
    simp only [List.set_cons_zero]
    repeat (first | refine RQ ?_ | (refine WL_Q ?_; (first | refine QW_of (Qt_eqlNilT rfl) ?_)) | (refine RE ?_; try intro _) | refine RC ?_ | refine WG 3 ?_)
    have h0 : 0 + n = n := Nat.zero_add _
    rw [h0]
    rw [h0, List.nil_append] at hown
    exact ⟨rfl, _, _, Res1 rfl (resV_tmp rfl), .refl _, [_], rfl, .inr ⟨b1, off1, cap2, cur1, rfl, rfl, hown⟩⟩
theorem cloneStage_fn {v : Value} {n : Nat} {xs : List Value} {L : List (Nat × Obj)} (h : Vec 5 L v n xs) (h1 : ∀ u ∈ xs, u.oneCell' = true) (hn : n ≤ 100000) : Fn Tryz.prog 108 [v] L (fun r L' => ∃ T, L' = T ++ L ∧ Buf 100 5 r T n xs) := by
  obtain ⟨hl, a, cap, rfl, hc, hm, hx⟩ := id h
  refine Fn_enter Tryz.func108 rfl Tryz.ntmps108 rfl fun g => ?_
  cases a with
  | none =>
    obtain rfl : n = 0 := by
      rcases hx with hx | ⟨b, off, cs, E, fr, i, e, _⟩
      · exact hx
      · cases e
    obtain rfl : xs = [] := List.eq_nil_of_length_eq_zero (by omega)
    repeat (first | refine RQ ?_ | (refine WL_Q ?_; (first | refine QW_of (Qt_eqlNilT rfl) ?_)) | refine RC ?_ | refine WG 0 ?_ | refine WG 1 ?_ | refine WG 2 ?_)
    exact ⟨rfl, _, _, Res1 rfl (resV_tmp rfl), .refl _, [], rfl, Buf.nil _ _⟩
  | some a =>
    have dS : (some a).isNone = false := rfl
    repeat (first | refine RQ ?_ | (refine WL_Q ?_; (first | refine QW_of (Qt_eqlNilT rfl) ?_)) | (refine RE ?_; try intro _) | refine RC ?_ | refine WG 0 ?_ | refine WG 1 ?_ | refine WG 3 ?_)
    refine WL_op rfl (OW_append_own rfl rfl rfl rfl rfl 0 rfl (xs := []) (n := 0) (cap := 0) ⟨rfl, Nat.le_refl _, by decide, Nat.le_refl _, fun j x hj => by simp at hj⟩ (srcVec (Vec.cons _ h) h1) (by simp only [maxLen]; omega) (by omega) ?_)
    intro b1 off1 cap2 cur1 hown
    simp only [List.set_cons_zero]
    repeat (first | refine RQ ?_ | (refine WL_Q ?_; (first | refine QW_of (Qt_eqlNilT rfl) ?_)) | (refine RE ?_; try intro _) | refine RC ?_ | refine WG 3 ?_)
    have h0 : 0 + n = n := Nat.zero_add _
    rw [h0]
    rw [h0, List.nil_append] at hown
    exact ⟨rfl, _, _, Res1 rfl (resV_tmp rfl), .refl _, [_], rfl, .inr ⟨b1, off1, cap2, cur1, rfl, rfl, hown⟩⟩
end Go.Proofs.YtncgndcepoicbaaGreat
namespace Go.Proofs.YtncgndcepoicbaaGreat
open Go.RowKit
theorem FnE.sub {P : Program} {f : FuncId} {args : List Value} {L : List (Nat × Obj)} {Rr : Value → List (Nat × Obj) → Prop} {Q : Value → Prop} (h : FnE P f args L Rr (fun v L' => Q v ∧ L.Sublist L')) : FnE P f args L Rr (fun v L' => Q v ∧ L' = L) := fun g w hm => (h g w hm).mono fun _ _ hE => by
  rcases hE with ⟨v, L', a, b, c⟩ | ⟨v, L', a, b, c, d⟩
  · exact .inl ⟨v, L', a, b, c⟩
  · exact .inr ⟨v, L, a, b.sublist d, c, rfl⟩
abbrev rfu (e : Int) : Value := .iface 196 (.agg #[iV e])
abbrev Asked (f : FuncId) (args : List Value) (L : List (Nat × Obj)) (e : Int) : Prop := FnE Tryz.prog f args L (fun _ L' => e = 0 ∧ L' = L) (fun v L' => (e ≠ 0 ∧ v = rfu e) ∧ L' = L)
instance : TUnd Tryz.prog 196 (.struct #[{ name := "e", type := 31, offset := 0, embedded := false, tag := "", pkgPath := "anabranch/table", byteOffset := 0 }]) := ⟨Tryz.underlying196⟩
attribute [local irreducible] Fn WC WL WR OW Qt YieldFn QW FnP FnD FnE
theorem must_fn {t : Bool} {e : Int} {L : List (Nat × Obj)} : FnE Tryz.prog 52 [.bool t, .int .i64 e] L (fun _ L' => t = true ∧ L' = L) (fun v L' => (t = false ∧ v = rfu e) ∧ L' = L) := by
  refine FnE_enter Tryz.func52 rfl Tryz.ntmps52 rfl fun g => ?_
  cases t
  · repeat (first | refine RQ ?_ | refine RC ?_ | refine WC_region ?_)
    refine WL_op rfl (OW_panic (σ := ⟨_, _, _⟩) rfl rfl ?_)
    exact ⟨_, rfl, ⟨rfl, rfl⟩, rfl⟩
  · repeat (first | refine RQ ?_ | refine RC ?_ | refine WC_region ?_)
    exact ⟨_, _, Res0 rfl, .refl _, rfl, rfl⟩
theorem told_ret {cb : Nat} {L : List (Nat × Obj)} : FnD Tryz.prog 51 [.pointer (some ⟨cb, 0, none⟩)] L .returning (fun u' L' => u' = .returning ∧ L' = L) := by
  refine FnD_recover (rv := .nilIface) (u' := .returning) Tryz.func51 rfl Tryz.ntmps51 rfl rfl rfl rfl ⟨rfl, rfl⟩ fun g n => ⟨_, rfl, ?_⟩
  show WC _ _ _ ⟨[(5, .nilIface), (0, .pointer (some ⟨cb, 0, none⟩))], [], L⟩
  repeat (first | refine RQ ?_ | (refine RE ?_; try intro _) | refine RC ?_ | refine WC_region ?_)
  exact ⟨rfl, _, _, Res0 rfl, .refl _, rfl, rfl⟩
theorem told_pan {cb : Nat} {old : Value} {e : Int} {F : List (Nat × Obj)} : FnD Tryz.prog 51 [.pointer (some ⟨cb, 0, none⟩)] ((cb, .cells #[old] 31 (0, 0)) :: F) (.panicking (pan (rfu e))) (fun u' L' => settle u' = .returning ∧ L' = (cb, .cells #[iV e] 31 (0, 0)) :: F) := by
  refine FnD_recover (rv := rfu e) Tryz.func51 rfl Tryz.ntmps51 rfl rfl rfl rfl ⟨rfl, rfl⟩ fun g n => ⟨_, rfl, ?_⟩
  show WC _ _ _ ⟨[(5, rfu e), (0, .pointer (some ⟨cb, 0, none⟩))], [], _⟩
  repeat (first | refine RQ ?_ | (refine RE ?_; try intro _) | refine RC ?_ | refine WC_region ?_)
  exact ⟨rfl, _, _, Res0 rfl, .cons _ (.refl _), rfl, rfl⟩
theorem within_fn {n a b : Int} {L : List (Nat × Obj)} : Fn Tryz.prog 53 [.int .i64 n, .int .i64 a, .int .i64 b] L (fun v L' => v = .bool (decide (a ≤ n ∧ n ≤ b)) ∧ L' = L) := by
  refine Fn_enter Tryz.func53 rfl Tryz.ntmps53 rfl fun g => ?_
  by_cases h : a ≤ n
  · have d : decide (n ≥ a) = true := decide_eq_true h
    repeat (first | refine RQ ?_ | refine RC ?_ | refine WC_region ?_)
    refine ⟨rfl, _, _, Res1 rfl (resV_tmp rfl), .refl _, ?_, rfl⟩
    simp [h]
  · have d : decide (n ≥ a) = false := decide_eq_false h
    repeat (first | refine RQ ?_ | refine RC ?_ | refine WC_region ?_)
    refine ⟨rfl, _, _, Res1 rfl (resV_tmp rfl), .refl _, ?_, rfl⟩
    simp [h]
set_option maxHeartbeats 4000000 in
theorem rising_fn {v : Value} {l : List Int} {L : List (Nat × Obj)} (h : Vec 1 L v l.length (l.map iV)) : Fn Tryz.prog 114 [v] L (fun r L' => r = .bool (risF (-1) l) ∧ L' = L) := by
  obtain ⟨_, a, cap, rfl, hc, hm, hx⟩ := id h
  refine Fn_enter Tryz.func114 rfl Tryz.ntmps114 rfl fun g => ?_
  repeat (first | refine RQ ?_ | refine RC ?_ | refine WG 0 ?_ | refine WG 1 ?_ | refine WG 2 ?_)
  refine WC_wk [(8, .int .i64 ((0 : Nat) : Int)), (7, .int .i64 (l.length : Nat)), (6, .slice a l.length cap), (3, .int .i64 (-1))] ⟨rfl, rfl, rfl, rfl, trivial⟩ ?_
  refine WC_loop (fun m σ => ∃ (i : Nat) (la : Int), m = l.length - i ∧ i ≤ l.length ∧ risF (-1) l = risF la (l.drop i) ∧ σ = ⟨[(8, .int .i64 (i : Nat)), (7, .int .i64 (l.length : Nat)), (6, .slice a l.length cap), (3, .int .i64 la)], [], L⟩) l.length ⟨0, -1, rfl, Nat.zero_le _, rfl, rfl⟩ ?_
  rintro m σ ⟨i, la, rfl, hi, hr, rfl⟩
  by_cases hlt : i < l.length
  rotate_left
  · have d : decide ((i : Int) < ((l.length : Nat) : Int)) = false := decide_eq_false (by omega)
    rw [List.drop_eq_nil_of_le (by omega)] at hr
    repeat (first | refine RQ ?_ | refine RC ?_ | refine WG 3 ?_ | refine WG 9 ?_)
    exact ⟨rfl, _, _, Res1 rfl (resV_tmp rfl), .refl _, by rw [hr]; rfl, rfl⟩
  have d : decide ((i : Int) < ((l.length : Nat) : Int)) = true := decide_eq_true (by omega)
  have p0 : (0 : Int) ≤ (i : Int) := by omega
  have p1 : ((i : Nat) : Int) < ((l.length : Nat) : Int) := by omega
  obtain ⟨b, off, cs, E, fr, k, rfl, hk, hcs⟩ := hx.resolve_left (by omega)
  obtain ⟨y, hy⟩ : ∃ y, l[i]? = some y := ⟨_, List.getElem?_eq_getElem hlt⟩
  have hc1 : cs[off + ((i : Nat) : Int).toNat * 1]? = some (iV y) := by rw [Int.toNat_natCast, Nat.mul_one]; exact hcs i _ (by rw [List.getElem?_map, hy]; rfl)
  have w : IntKind.i64.wrap ((i : Int) + 1) = ((i + 1 : Nat) : Int) := by rw [wI64 (by omega) (by simp only [maxLen] at hm; omega)]; omega
  have ed : l.drop i = y :: l.drop (i + 1) := by
    rw [List.drop_eq_getElem_cons hlt]
    have := List.getElem?_eq_getElem hlt
    rw [hy] at this
    cases this
    rfl
  rw [ed] at hr
  rw [show risF la (y :: l.drop (i + 1)) = if y ≤ la ∨ 8 ≤ y then false else risF y (l.drop (i + 1)) from rfl] at hr
  by_cases h1 : y ≤ la
  · have d1 : decide (y ≤ la) = true := decide_eq_true h1
    rw [if_pos (.inl h1)] at hr
    repeat (first | refine RQ ?_ | refine RC ?_ | refine WG 3 ?_ | refine WG 4 ?_ | refine WG 5 ?_ | refine WG 6 ?_)
    exact ⟨rfl, _, _, Res1 rfl (resV_tmp rfl), .refl _, by rw [hr], rfl⟩
  have d1 : decide (y ≤ la) = false := decide_eq_false h1
  by_cases h2 : 8 ≤ y
  · have d2 : decide (y ≥ 8) = true := decide_eq_true h2
    rw [if_pos (.inr h2)] at hr
    repeat (first | refine RQ ?_ | refine RC ?_ | refine WG 3 ?_ | refine WG 4 ?_ | refine WG 5 ?_ | refine WG 6 ?_)
    exact ⟨rfl, _, _, Res1 rfl (resV_tmp rfl), .refl _, by rw [hr], rfl⟩
  have d2 : decide (y ≥ 8) = false := decide_eq_false h2
  rw [if_neg (by omega)] at hr
  repeat (first | refine RQ ?_ | refine RC ?_ | refine WG 3 ?_ | refine WG 4 ?_ | refine WG 5 ?_ | refine WG 7 ?_ | refine WG 8 ?_)
  rw [w]
  exact ⟨_, _, by omega, ⟨i + 1, y, rfl, by omega, hr, rfl⟩, ⟨rfl, rfl, rfl, rfl, trivial⟩, rfl, .refl _⟩
end Go.Proofs.YtncgndcepoicbaaGreat
namespace Go.Proofs.YtncgndcepoicbaaGreat
open Go.RowKit
structure TabC (cs : Array Value) (wk : CfV) (cv : Value) (sv : Nat → Value) (av nv rv : Value) : Prop where
  z : cs.size = 21
  one : (cs.toList.all fun v => v.oneCell') = true
  w : cs[4]? = some (iV wk.1)
  g5 : cs[5]? = some (iV wk.2.1)
  g6 : cs[6]? = some (iV wk.2.2.1)
  g7 : cs[7]? = some (iV wk.2.2.2.1)
  g8 : cs[8]? = some (iV wk.2.2.2.2)
  c : cs[9]? = some cv
  s : ∀ b, b < 8 → cs[10 + b]? = some (sv b)
  a : cs[18]? = some av
  n : cs[19]? = some nv
  r : cs[20]? = some rv
abbrev spL (l : List (Int × Int)) : List Value := l.flatMap fun q => [iV q.1, iV q.2]
abbrev opL (l : List OpV) : List Value := l.flatMap fun o => [iV o.1, iV o.2.1, iV o.2.2.1, iV o.2.2.2]
def cmC (c : CmV) (bv : Value) : List Value := [iV c.kind, iV c.at_, bv, iV c.to, iV c.node, iV c.op.1, iV c.op.2.1, iV c.op.2.2.1, iV c.op.2.2.2, iV c.mode]
def i64q (x : Int) : Prop := -9223372036854775808 ≤ x ∧ x < 9223372036854775808
structure CmR (c : CmV) : Prop where
  kind : i64q c.kind
  at_ : i64q c.at_
  bins : ∀ b ∈ c.bins, i64q b
  to : i64q c.to
  node : i64q c.node
  op : OpR c.op.1 c.op.2.1 c.op.2.2.1 c.op.2.2.2
  mode : i64q c.mode
def CmAt (G : List (Nat × Obj)) (l : List Value) (c : CmV) : Prop := ∃ bv, l = cmC c bv ∧ VecM 1 G bv c.bins.length (c.bins.map iV) ∧ CmR c
theorem CmAt.mem {G G' : List (Nat × Obj)} (hs : ∀ q ∈ G, q ∈ G') {l : List Value} {c : CmV} (h : CmAt G l c) : CmAt G' l c := by
  obtain ⟨bv, h1, h2, h3⟩ := h
  exact ⟨bv, h1, h2.mem hs, h3⟩
def CmsAt (G : List (Nat × Obj)) : List (List Value) → List CmV → Prop
  | [], [] => True
  | l :: ls, c :: cs => CmAt G l c ∧ CmsAt G ls cs
  | _, _ => False
theorem CmsAt.mem {G G' : List (Nat × Obj)} (hs : ∀ q ∈ G, q ∈ G') : ∀ {ls : List (List Value)} {cs : List CmV}, CmsAt G ls cs → CmsAt G' ls cs
  | [], [], _ => trivial
  | _ :: _, _ :: _, ⟨h1, h2⟩ => ⟨h1.mem hs, CmsAt.mem hs h2⟩
theorem CmAt.len {G : List (Nat × Obj)} {l : List Value} {c : CmV} (h : CmAt G l c) : l.length = 10 := by obtain ⟨bv, rfl, _⟩ := h; rfl
theorem CmsAt.flat {G : List (Nat × Obj)} : ∀ {ls : List (List Value)} {cs : List CmV}, CmsAt G ls cs → ls.flatten.length = cs.length * 10
  | [], [], _ => rfl
  | l :: ls, c :: cs, ⟨h1, h2⟩ => by rw [List.flatten_cons, List.length_append, h1.len, CmsAt.flat h2, List.length_cons]; omega
theorem CmsAt.get {G : List (Nat × Obj)} {ls : List (List Value)} : ∀ {cs : List CmV} {k : Nat} {c : CmV}, CmsAt G ls cs → cs[k]? = some c → ∃ l, CmAt G l c ∧ ∀ j : Nat, j < 10 → ls.flatten[k * 10 + j]? = l[j]? := by
  induction ls with
  | nil =>
    intro cs k c h hk
    cases cs with
    | nil => simp at hk
    | cons _ _ => exact h.elim
  | cons l ls ih =>
    intro cs k c h hk
    cases cs with
    | nil => exact h.elim
    | cons c0 cs =>
      obtain ⟨h1, h2⟩ := h
      cases k with
      | zero =>
        rw [List.getElem?_cons_zero] at hk
        cases hk
        exact ⟨l, h1, fun j hj => by rw [List.flatten_cons, Nat.zero_mul, Nat.zero_add, List.getElem?_append_left (by rw [h1.len]; exact hj)]⟩
      | succ k =>
        rw [List.getElem?_cons_succ] at hk
        obtain ⟨l', h3, h4⟩ := ih h2 hk
        refine ⟨l', h3, fun j hj => ?_⟩
        rw [List.flatten_cons, List.getElem?_append_right (by rw [h1.len]; omega), h1.len, show (k + 1) * 10 + j - 10 = k * 10 + j by omega]
        exact h4 j hj
theorem CmsAt.snoc {G : List (Nat × Obj)} {l : List Value} {c : CmV} (h : CmAt G l c) : ∀ {ls : List (List Value)} {cs : List CmV}, CmsAt G ls cs → CmsAt G (ls ++ [l]) (cs ++ [c])
  | [], [], _ => ⟨h, trivial⟩
  | _ :: _, _ :: _, ⟨h1, h2⟩ => ⟨h1, CmsAt.snoc h h2⟩
theorem spL_at : ∀ {l : List (Int × Int)} {k : Nat} {q : Int × Int}, l[k]? = some q → (spL l)[k * 2]? = some (iV q.1) ∧ (spL l)[k * 2 + 1]? = some (iV q.2)
  | [], k, q, h => by simp at h
  | p :: l, 0, q, h => by
    obtain rfl : p = q := by simpa using h
    exact ⟨rfl, rfl⟩
  | p :: l, k + 1, q, h => by
    have ih := spL_at (l := l) (k := k) (q := q) (by simpa using h)
    rw [show (k + 1) * 2 = k * 2 + 2 by omega, show k * 2 + 2 + 1 = (k * 2 + 1) + 2 by omega]
    exact ih
theorem opL_at : ∀ {l : List OpV} {k : Nat} {o : OpV}, l[k]? = some o → ((opL l).drop (k * 4)).take 4 = [iV o.1, iV o.2.1, iV o.2.2.1, iV o.2.2.2]
  | [], k, q, h => by simp at h
  | p :: l, 0, q, h => by
    obtain rfl : p = q := by simpa using h
    rfl
  | p :: l, k + 1, q, h => by
    have ih := opL_at (l := l) (k := k) (o := q) (by simpa using h)
    rw [show (k + 1) * 4 = k * 4 + 4 by omega]
    exact ih
def RowsIn (L : List (Nat × Obj)) (rv : Value) (repl : List (List CmV)) : Prop := ∃ vs : List Value, VecM 1 L rv repl.length vs ∧ ∀ (k : Nat) (row : List CmV), repl[k]? = some row → ∃ (v : Value) (lr : List (List Value)), vs[k]? = some v ∧ VecM 10 L v row.length lr.flatten ∧ CmsAt L lr row
structure TabIn (tb : Nat) (L : List (Nat × Obj)) (t : TbV) : Prop where
  h : ∃ cs cv sv av nv rv lc, (tb, Obj.cells cs 110 (0, 0)) ∈ L ∧ TabC cs t.cf cv sv av nv rv ∧ VecM 10 L cv t.cmds.length lc.flatten ∧ CmsAt L lc t.cmds ∧ (∀ b, b < 8 → ∃ row, t.spans[b]? = some row ∧ row ≠ [] ∧ VecM 2 L (sv b) row.length (spL row)) ∧ VecM 1 L av t.act.length (t.act.map iV) ∧ VecM 4 L nv t.nodes.length (opL t.nodes) ∧ RowsIn L rv t.repl
theorem TabIn.mem {tb : Nat} {L L' : List (Nat × Obj)} {t : TbV} (h : TabIn tb L t) (hs : ∀ q ∈ L, q ∈ L') : TabIn tb L' t := by
  obtain ⟨cs, cv, sv, av, nv, rv, lc, h1, h2, h3, h4, h5, h6, h7, vs, h8, h9⟩ := h.h
  refine ⟨cs, cv, sv, av, nv, rv, lc, hs _ h1, h2, h3.mem hs, h4.mem hs, fun b hb => ?_, h6.mem hs, h7.mem hs, vs, h8.mem hs, fun k row hk => ?_⟩
  · obtain ⟨row, q1, q2, q3⟩ := h5 b hb
    exact ⟨row, q1, q2, q3.mem hs⟩
  · obtain ⟨v, lr, q1, q2, q3⟩ := h9 k row hk
    exact ⟨v, lr, q1, q2.mem hs, q3.mem hs⟩
theorem VecM.cell {sz : Nat} {L : List (Nat × Obj)} {v : Value} {n : Nat} {xs : List Value} (h : VecM sz L v n xs) (hn : n ≠ 0) : ∃ (b off cap : Nat) (cs : Array Value) (E : TypeId) (fr : Nat × Nat) (i : Nat), v = .slice (some ⟨b, off, none⟩) n cap ∧ n ≤ cap ∧ cap ≤ maxLen ∧ L[i]? = some (b, Obj.cells cs E fr) ∧ ∀ j x, xs[j]? = some x → cs[off + j]? = some x := by
  obtain ⟨_, a, cap, rfl, h2, h3, h4⟩ := h
  rcases h4 with h4 | ⟨b, off, cs, E, fr, rfl, e2, e3⟩
  · exact absurd h4 hn
  · obtain ⟨i, hi⟩ := List.mem_iff_getElem?.1 e2
    exact ⟨b, off, cap, cs, E, fr, i, rfl, h2, h3, hi, e3⟩
theorem lastF_snoc {t : TbV} {k : Nat} {c : CmV} (hk : t.cmds.length = k + 1) (hc : t.cmds[k]? = some c) : lastF t = c.at_ := by
  unfold lastF
  rw [List.getLast?_eq_getElem?, hk, Nat.add_sub_cancel, hc]
theorem hasF_row {sp : List (List (Int × Int))} {b : Int} {row : List (Int × Int)} {k : Nat} {q : Int × Int} (h : sp[b.toNat]? = some row) (hk : row.length = k + 1) (hq : row[k]? = some q) : hasF sp b = q.2 := by
  unfold hasF
  rw [h]
  show ((row.getLast?).getD (0, 0)).2 = q.2
  rw [List.getLast?_eq_getElem?, hk, Nat.add_sub_cancel, hq]
  rfl
attribute [local irreducible] Fn WC WL WR OW Qt YieldFn QW FnP FnD FnE
theorem last_fn {tb : Nat} {t : TbV} {L : List (Nat × Obj)} (h : TabIn tb L t) : Fn Tryz.prog 54 [.pointer (some ⟨tb, 0, none⟩)] L (fun v L' => v = .int .i64 (lastF t) ∧ L' = L) := by
  obtain ⟨cs, cv, sv, av, nv, rv, lc, h1, h2, h3, h4, _⟩ := h.h
  obtain ⟨i, hi⟩ := List.mem_iff_getElem?.1 h1
  have hc := h2.c
  refine Fn_enter Tryz.func54 rfl Tryz.ntmps54 rfl fun g => ?_
  by_cases hn : t.cmds.length = 0
  · obtain ⟨_, a, cap, rfl, _⟩ := h3
    have d : (((t.cmds.length : Nat) : Int) == 0) = true := by rw [hn]; rfl
    have e : lastF t = 0 := by unfold lastF; rw [List.eq_nil_of_length_eq_zero hn]; rfl
    repeat (first | refine RQr ?_ | refine RC ?_ | refine RU ?_ | refine WC_draw_all (id := 3) 14 (Cs [0,1,2,3,4,5,6,7,8,9,10,11,12,13] <| .done) mixed (by kernel_rfl) ?_ | refine WC_region ?_)
    exact ⟨rfl, _, _, Res1 rfl (resV_tmp rfl), .refl _, by rw [e], rfl⟩
  obtain ⟨b, off, cap, cc, E, fr, j, rfl, hle, hm, hj, hx⟩ := h3.cell hn
  obtain ⟨k, hk⟩ : ∃ k, t.cmds.length = k + 1 := ⟨t.cmds.length - 1, by omega⟩
  obtain ⟨c, hck⟩ : ∃ c, t.cmds[k]? = some c := ⟨_, List.getElem?_eq_getElem (by omega)⟩
  obtain ⟨l, ⟨bv, rfl, _⟩, hl⟩ := h4.get hck
  have hx1 : cc[off + (IntKind.i64.wrap (((t.cmds.length : Nat) : Int) - 1)).toNat * 10 + 1]? = some (iV c.at_) := by
    rw [wI64 (by omega) (by simp only [maxLen] at hm; omega), show (((t.cmds.length : Nat) : Int) - 1).toNat = k by omega, Nat.add_assoc]
    exact hx _ _ (by rw [hl 1 (by omega)]; rfl)
  have d : (((t.cmds.length : Nat) : Int) == 0) = false := by simpa using hn
  have p0 : (0 : Int) ≤ IntKind.i64.wrap (((t.cmds.length : Nat) : Int) - 1) := by rw [wI64 (by omega) (by simp only [maxLen] at hm; omega)]; omega
  have p1 : IntKind.i64.wrap (((t.cmds.length : Nat) : Int) - 1) < ((t.cmds.length : Nat) : Int) := by rw [wI64 (by omega) (by simp only [maxLen] at hm; omega)]; omega
  repeat (first | refine RQr ?_ | refine RC ?_ | refine RU ?_ | refine WC_draw_all (id := 3) 14 (Cs [0,1,2,3,4,5,6,7,8,9,10,11,12,13] <| .done) mixed (by kernel_rfl) ?_ | refine WC_region ?_)
  exact ⟨rfl, _, _, Res1 rfl (resV_tmp rfl), .refl _, by rw [lastF_snoc hk hck], rfl⟩
theorem has_fn {tb : Nat} {t : TbV} {b : Int} {L : List (Nat × Obj)} (h : TabIn tb L t) (hb : 0 ≤ b ∧ b < 8) : Fn Tryz.prog 70 [.pointer (some ⟨tb, 0, none⟩), .int .i64 b] L (fun v L' => v = .int .i64 (hasF t.spans b) ∧ L' = L) := by
  obtain ⟨cs, cv, sv, av, nv, rv, lc, h1, h2, h3, h4, h5, _⟩ := h.h
  obtain ⟨i, hi⟩ := List.mem_iff_getElem?.1 h1
  obtain ⟨row, hr, hne, hv⟩ := h5 b.toNat (by omega)
  have hs := h2.s b.toNat (by omega)
  have hn : row.length ≠ 0 := fun e => hne (List.eq_nil_of_length_eq_zero e)
  obtain ⟨sb, off, cap, cc, E, fr, j, hsv, hle, hm, hj, hx⟩ := hv.cell hn
  obtain ⟨k, hk⟩ : ∃ k, row.length = k + 1 := ⟨row.length - 1, by omega⟩
  obtain ⟨q, hq⟩ : ∃ q, row[k]? = some q := ⟨_, List.getElem?_eq_getElem (by omega)⟩
  have hsb : cs[10 + b.toNat * 1]? = some (.slice (some ⟨sb, off, none⟩) row.length cap) := by rw [Nat.mul_one, hs, hsv]
  have hx1 : cc[off + (IntKind.i64.wrap (((row.length : Nat) : Int) - 1)).toNat * 2 + 1]? = some (iV q.2) := by
    rw [wI64 (by omega) (by simp only [maxLen] at hm; omega), show (((row.length : Nat) : Int) - 1).toNat = k by omega, Nat.add_assoc]
    exact hx _ _ (spL_at hq).2
  have p0 : (0 : Int) ≤ IntKind.i64.wrap (((row.length : Nat) : Int) - 1) := by rw [wI64 (by omega) (by simp only [maxLen] at hm; omega)]; omega
  have p1 : IntKind.i64.wrap (((row.length : Nat) : Int) - 1) < ((row.length : Nat) : Int) := by rw [wI64 (by omega) (by simp only [maxLen] at hm; omega)]; omega
  obtain ⟨q0, q1⟩ := hb
  have q1 : b < ((8 : Nat) : Int) := q1
  refine Fn_enter Tryz.func70 rfl Tryz.ntmps70 rfl fun g => ?_
  repeat (first | refine RQr ?_ | refine RC ?_ | refine RU ?_ | refine WC_draw_all (id := 1) 18 (Cs [0,1,2,3,4,5,6,7,8,9,10,11,12,13,14,15,16,17] <| .done) mixed (by kernel_rfl) ?_ | refine WC_region ?_)
  exact ⟨rfl, _, _, Res1 rfl (resV_tmp rfl), .refl _, by rw [hasF_row hr hk hq], rfl⟩
end Go.Proofs.YtncgndcepoicbaaGreat
