/-
  A part of what the last of these texts needs; by itself it proves no statement.
-/
import Derived.Laws.Externs
import Derived.Test.YtekmmhmhcpaiaaaGreatKP12
namespace Go.Proofs.YtekmmhmhcpaiaaaGreat
open Go.RowKit
def VecM (sz : Nat) (G : List (Nat × Obj)) (v : Value) (n : Nat) (xs : List Value) : Prop :=
  xs.length = n * sz ∧ ∃ a cap, v = .slice a n cap ∧ n ≤ cap ∧ cap ≤ maxLen ∧ (n = 0 ∨ ∃ (b off : Nat) (cs : Array Value) (E : TypeId) (fr : Nat × Nat), a = some ⟨b, off, none⟩ ∧ (b, Obj.cells cs E fr) ∈ G ∧ ∀ j x, xs[j]? = some x → cs[off + j]? = some x)
theorem VecM.vec {sz : Nat} {G L : List (Nat × Obj)} {v : Value} {n : Nat} {xs : List Value} (h : VecM sz G v n xs) (hs : ∀ q ∈ G, q ∈ L) : Vec sz L v n xs := by
  obtain ⟨h1, a, cap, h2, h3, h4, h5⟩ := h
  refine ⟨h1, a, cap, h2, h3, h4, ?_⟩
  rcases h5 with h5 | ⟨b, off, cs, E, fr, e1, e2, e3⟩
  · exact .inl h5
  · obtain ⟨i, hi⟩ := List.mem_iff_getElem?.1 (hs _ e2)
    exact .inr ⟨b, off, cs, E, fr, i, e1, hi, e3⟩
theorem VecM.mem {sz : Nat} {G G' : List (Nat × Obj)} {v : Value} {n : Nat} {xs : List Value} (h : VecM sz G v n xs) (hs : ∀ q ∈ G, q ∈ G') : VecM sz G' v n xs := by
  obtain ⟨h1, a, cap, h2, h3, h4, h5⟩ := h
  refine ⟨h1, a, cap, h2, h3, h4, ?_⟩
  rcases h5 with h5 | ⟨b, off, cs, E, fr, e1, e2, e3⟩
  · exact .inl h5
  · exact .inr ⟨b, off, cs, E, fr, e1, hs _ e2, e3⟩
theorem Buf.vecM {E sz : Nat} {v : Value} {T : List (Nat × Obj)} {n : Nat} {xs : List Value} (h : Buf E sz v T n xs) : VecM sz T v n xs := by
  rcases h with ⟨rfl, rfl, rfl, rfl⟩ | ⟨g, off, cap, cur, rfl, rfl, ho⟩
  · exact ⟨by simp, none, 0, rfl, Nat.le_refl _, Nat.zero_le _, .inl rfl⟩
  · exact ⟨ho.len, _, cap, rfl, ho.le, ho.max, .inr ⟨g, off, cur, E, (0, 0), rfl, List.mem_singleton.2 rfl, ho.at_⟩⟩
abbrev iV (x : Int) : Value := .int .i64 x
def idxF (x : Int) : List Int → Int
  | [] => -1
  | y :: r => if x = y then 0 else if idxF x r < 0 then -1 else idxF x r + 1
theorem idxF_ge (x : Int) : ∀ l : List Int, -1 ≤ idxF x l
  | [] => Int.le_refl _
  | y :: r => by
    have := idxF_ge x r
    unfold idxF
    split
    · omega
    · split <;> omega
theorem idxF_mem {x : Int} : ∀ {l : List Int}, (0 ≤ idxF x l) ↔ x ∈ l
  | [] => by simp [idxF]
  | y :: r => by
    have ih := idxF_mem (x := x) (l := r)
    have := idxF_ge x r
    unfold idxF
    by_cases h : x = y
    · rw [if_pos h]; simp [h]
    · rw [if_neg h, List.mem_cons]
      constructor
      · intro h1
        refine .inr (ih.1 ?_)
        split at h1
        · omega
        · omega
      · rintro (h1 | h1)
        · exact absurd h1 h
        · have := ih.2 h1
          rw [if_neg (by omega)]; omega
theorem idxF_at {x : Int} : ∀ {l : List Int} {i : Nat}, l[i]? = some x → x ∉ l.take i → idxF x l = (i : Int)
  | [], i, h, _ => by simp at h
  | y :: r, 0, h, _ => by
    obtain rfl : y = x := by simpa using h
    exact if_pos rfl
  | y :: r, i + 1, h, hn => by
    rw [List.take_succ_cons, List.mem_cons, not_or] at hn
    have ih := idxF_at (l := r) (i := i) (by simpa using h) hn.2
    unfold idxF
    rw [if_neg hn.1, ih, if_neg (by omega)]
    omega
attribute [local irreducible] Fn WC WL WR OW Qt YieldFn QW FnP FnD FnE
set_option maxHeartbeats 4000000 in
theorem index_fn {x : Int} {l : List Int} {v : Value} {L : List (Nat × Obj)} (h : Vec 1 L v l.length (l.map iV)) : Fn Tryz.prog 151 [v, .int .i64 x] L (fun r L' => r = .int .i64 (idxF x l) ∧ L' = L) := by
  obtain ⟨_, a, cap, rfl, hc, hm, hx⟩ := id h
  refine Fn_enter Tryz.func151 rfl Tryz.ntmps151 rfl fun g => ?_
  repeat (first | refine RQ ?_ | refine RC ?_ | refine WG 0 ?_ | refine WG 1 ?_)
  refine WC_wk [(8, .int .i64 ((0 : Nat) : Int)), (7, .int .i64 (l.length : Nat)), (0, .slice a l.length cap), (1, .int .i64 x)] ⟨rfl, rfl, rfl, rfl, trivial⟩ ?_
  refine WC_loop (fun m σ => ∃ i : Nat, m = l.length - i ∧ i ≤ l.length ∧ x ∉ l.take i ∧ σ = ⟨[(8, .int .i64 (i : Nat)), (7, .int .i64 (l.length : Nat)), (0, .slice a l.length cap), (1, .int .i64 x)], [], L⟩) l.length ⟨0, rfl, Nat.zero_le _, by simp, rfl⟩ ?_
  rintro m σ ⟨i, rfl, hi, hn, rfl⟩
  by_cases hlt : i < l.length
  rotate_left
  · have d : decide ((i : Int) < ((l.length : Nat) : Int)) = false := decide_eq_false (by omega)
    rw [List.take_of_length_le (by omega)] at hn
    have e : idxF x l = -1 := by
      have h1 := idxF_ge x l
      have h2 := mt idxF_mem.1 hn
      omega
    repeat (first | refine RQ ?_ | refine RC ?_ | refine WG 2 ?_ | refine WG 7 ?_)
    exact ⟨rfl, _, _, Res1 rfl (resV_tmp rfl), .refl _, by rw [e], rfl⟩
  have d : decide ((i : Int) < ((l.length : Nat) : Int)) = true := decide_eq_true (by omega)
  have p0 : (0 : Int) ≤ (i : Int) := by omega
  have p1 : ((i : Nat) : Int) < ((l.length : Nat) : Int) := by omega
  obtain ⟨b, off, cs, E, fr, k, rfl, hk, hcs⟩ := hx.resolve_left (by omega)
  obtain ⟨y, hy⟩ : ∃ y, l[i]? = some y := ⟨_, List.getElem?_eq_getElem hlt⟩
  have hc1 : cs[off + ((i : Nat) : Int).toNat * 1]? = some (iV y) := by rw [Int.toNat_natCast, Nat.mul_one]; exact hcs i _ (by rw [List.getElem?_map, hy]; rfl)
  have w : IntKind.i64.wrap ((i : Int) + 1) = ((i + 1 : Nat) : Int) := by rw [wI64 (by omega) (by simp only [maxLen] at hm; omega)]; omega
  by_cases hxy : x = y
  · subst hxy
    have d2 : (x == x) = true := by simp
    have e : idxF x l = (i : Int) := idxF_at hy hn
    repeat (first | refine RQ ?_ | refine RC ?_ | refine WG 2 ?_ | refine WG 3 ?_ | refine WG 4 ?_ | refine WG 5 ?_)
    exact ⟨rfl, _, _, Res1 rfl (resV_tmp rfl), .refl _, by rw [e], rfl⟩
  · have d2 : (x == y) = false := by simpa using hxy
    repeat (first | refine RQ ?_ | refine RC ?_ | refine WG 2 ?_ | refine WG 3 ?_ | refine WG 4 ?_ | refine WG 6 ?_)
    rw [w]
    refine ⟨_, _, by omega, ⟨i + 1, rfl, by omega, ?_, rfl⟩, ⟨rfl, rfl, rfl, rfl, trivial⟩, rfl, .refl _⟩
    rw [List.take_add_one, hy]
    simpa [hxy] using hn
theorem contains_fn {x : Int} {l : List Int} {v : Value} {L : List (Nat × Obj)} (h : Vec 1 L v l.length (l.map iV)) : Fn Tryz.prog 121 [v, .int .i64 x] L (fun r L' => r = .bool (decide (x ∈ l)) ∧ L' = L) := by
  refine Fn_enter Tryz.func121 rfl Tryz.ntmps121 rfl fun g => ?_
  repeat (first | refine RQ ?_ | (refine WL_op rfl ?_; (first | refine OW_callP rfl (hF := index_fn h) (hk := ?_))) | refine RC ?_ | refine WC_region ?_)
  refine ⟨rfl, _, _, Res1 rfl (resV_tmp rfl), .refl _, ?_, rfl⟩
  congr 1
  exact decide_eq_decide.2 idxF_mem
end Go.Proofs.YtekmmhmhcpaiaaaGreat
namespace Go.Proofs.YtekmmhmhcpaiaaaGreat
open Go.RowKit
def agC (a : AcV) : Array Value := #[iV a.n, iV (a.s / 18446744073709551616), .int .u64 (a.s % 18446744073709551616), iV a.mn, iV a.mx]
structure AcOk (a : AcV) : Prop where
  n0 : 0 < a.n
  n1 : a.n ≤ 1152921504606846976
  s0 : -(a.n * 9223372036854775808) ≤ a.s
  s1 : a.s ≤ a.n * 9223372036854775808
  mn0 : -9223372036854775808 ≤ a.mn
  mn1 : a.mn < 9223372036854775808
  mx0 : -9223372036854775808 ≤ a.mx
  mx1 : a.mx < 9223372036854775808
def oneA (v : Int) : AcV := ⟨1, v, v, v⟩
theorem Qt_extern {c : Cx} {s : List (Nat × Value)} {L : List (Nat × Obj)} {o : Oper} {f : FuncId} {args : Array Operand} {tys : Array TypeId} {vs : List Value} {v : Value} (ho : o.op = .call { callee := .value (.func f), args := args, argTypes := tys }) (h : ∀ w, (callFunc f vs.toArray).run c.P w = .ok (.value v) w) (ha : evs s args.toList = some vs := by exact rfl) : Qt c s L o v := by
  refine Qt_of_run (by rw [ho]; intro cc h; cases h) (fun ρ hρ w _ => ?_)
  have hargs : args.map ρ = vs.toArray := by
    apply Array.ext'
    have : ∀ (l : List Operand) (us : List Value), evs s l = some us → l.map ρ = us := by
      intro l
      induction l with
      | nil => intro us hu; cases hu; rfl
      | cons x l ih =>
        intro us hu
        simp only [evs] at hu
        split at hu
        · rename_i a b h1 h2
          cases hu
          rw [List.map_cons, hρ _ _ h1, ih _ h2]
        · cases hu
    simpa using this _ _ ha
  have hf := hρ (.func f) (.func (.func f) #[] #[]) rfl
  simp [execOp, ho, resolve, Deferred.ofValue, hargs, hf, invoke, h]
theorem add64_run (x y : Int) (hx : 0 ≤ x) (hy : 0 ≤ y) (w : World) : (callFunc 117 [.int .u64 x, .int .u64 y, .int .u64 0].toArray).run Tryz.prog w = .ok (.value (.tuple #[.int .u64 ((x + y) % 18446744073709551616), .int .u64 ((x + y) / 18446744073709551616)])) w := by
  rw [run_callFunc_extern (P := Tryz.prog) Tryz.func117 (by kernel_rfl) (by kernel_rfl) (by kernel_rfl) (e := add64Entry) (by kernel_rfl), run_add64 x y 0 hx hy (by decide) (by decide)]
  simp only [Result.andThen, Int.add_zero]
theorem Qt_eqlX {c : Cx} {s : List (Nat × Value)} {L : List (Nat × Obj)} {o : Oper} {t t' : Nat} {x y : Operand} {xs ys : List V} {xs' ys' : Array Value} {b : Bool} (ho : o.op = .binOp .eql t x y t') (hx : ev s x = some (.agg xs') := by exact rfl) (hy : ev s y = some (.agg ys') := by exact rfl) (rx : RV [] (.agg xs) (.agg xs')) (ry : RV [] (.agg ys) (.agg ys')) (he : eqX c.P 8 t (.agg xs) (.agg ys) = some b) (hg : c.P.eqGuardType c.P.depth t = false) : Qt c s L o (.bool b) :=
  Qt_of_run (by simp [ho]) (fun ρ hρ w _ => by
    have h1 := run_eqGuard_agg (P := c.P) w .eql t x y xs' ys' hg
    have h2 := run_eql_struct (P := c.P) w t xs' ys'
    have h3 : (Op.equalIn 10000 t (.agg xs') (.agg ys')).run c.P w = .ok b w := eqX_ok 8 he rx ry 9992 w
    rw [h3] at h2
    simp [execOp, ho, hρ x _ hx, hρ y _ hy, h1, h2, Result.andThen])
theorem ag_zero (n : Int) : eqX Tryz.prog 8 51 (.agg [.int .i64 0, .int .i64 0, .int .u64 0, .int .i64 0, .int .i64 0]) (.agg [.int .i64 n, .int .i64 0, .int .u64 0, .int .i64 0, .int .i64 0]) = (match (0 : Int) == n with | true => some true | false => some false) := by kernel_rfl
theorem ag_rv (n : Int) : RV [] (.agg [.int .i64 n, .int .i64 0, .int .u64 0, .int .i64 0, .int .i64 0]) (.agg #[iV n, iV 0, .int .u64 0, iV 0, iV 0]) := .agg (.cons (.int _ _) (.cons (.int _ _) (.cons (.int _ _) (.cons (.int _ _) (.cons (.int _ _) .nil)))))
attribute [local irreducible] Fn WC WL WR OW Qt YieldFn QW FnP FnD FnE
theorem One_fn {v : Int} (hv : -9223372036854775808 ≤ v ∧ v < 9223372036854775808) {L : List (Nat × Obj)} : Fn Tryz.prog 27 [iV v] L (fun r L' => r = .agg (agC (oneA v)) ∧ L' = L) := by
  refine Fn_enter Tryz.func27 rfl Tryz.ntmps27 rfl fun gw => ?_
  have e1 : v.fdiv (2 ^ min (Int.toNat 63) IntKind.i64.bits) = v / 18446744073709551616 := by
    rw [Int.fdiv_eq_ediv_of_nonneg _ (by decide)]
    show v / 9223372036854775808 = _
    omega
  have e2 : IntKind.u64.wrap v = v % 18446744073709551616 := by
    unfold IntKind.wrap
    simp [IntKind.signed, IntKind.bits]
  repeat (first | (refine WL_Q ?_; (first | refine QW_a ?_)) | (refine WL_op rfl ?_; (first | refine OW_alloc rfl (hk := fun _ => ?_) | refine OW_stA rfl ?_ | refine OW_stN rfl ?_)) | refine WL_nil ?_ | refine WC_seq ?_ | refine WC_ret ?_ | refine WC_region ?_)
  rw [e1, e2]
  exact ⟨rfl, _, _, Res1 rfl (resV_cellN rfl 0 rfl rfl), .cons _ (.refl _), rfl, rfl⟩
theorem bare_fn {a : AcV} {L : List (Nat × Obj)} : Fn Tryz.prog 116 [.agg (agC a)] L (fun r L' => r = .agg #[iV a.n, iV 0, .int .u64 0, iV 0, iV 0] ∧ L' = L) := by
  refine Fn_enter Tryz.func116 rfl Tryz.ntmps116 rfl fun gw => ?_
  unfold agC
  repeat (first | (refine WL_Q ?_; (first | refine QW_a ?_)) | (refine WL_op rfl ?_; (first | refine OW_box rfl (hk := fun _ => ?_) | refine OW_alloc rfl (hk := fun _ => ?_) | refine OW_stA rfl ?_ | refine OW_stN rfl ?_)) | refine WL_nil ?_ | refine WC_seq ?_ | refine WC_ret ?_ | refine WC_region ?_)
  exact ⟨rfl, _, _, Res1 rfl (resV_cellN rfl 0 rfl rfl), .cons _ (.cons _ (.refl _)), rfl, rfl⟩
set_option maxHeartbeats 2000000 in
theorem Merge_fn {a b : AcV} (ha : AcOk a) (hb : AcOk b) (hab : a.n + b.n ≤ 1152921504606846976) {L : List (Nat × Obj)} : Fn Tryz.prog 69 [.agg (agC a), .agg (agC b)] L (fun r L' => r = .agg (agC (a.add b)) ∧ L' = L) := by
  refine Fn_enter Tryz.func69 rfl Tryz.ntmps69 rfl fun gw => ?_
  have ne : ∀ n : Int, 0 < n → eqX Tryz.prog 8 51 (.agg [.int .i64 0, .int .i64 0, .int .u64 0, .int .i64 0, .int .i64 0]) (.agg [.int .i64 n, .int .i64 0, .int .u64 0, .int .i64 0, .int .i64 0]) = some false := fun n hn => by
    rw [ag_zero]
    have : ((0 : Int) == n) = false := by simp; omega
    rw [this]
  have hza := ne a.n ha.n0
  have hzb := ne b.n hb.n0
  have hlo : 0 ≤ a.s % 18446744073709551616 := Int.emod_nonneg _ (by decide)
  have hlo2 : 0 ≤ b.s % 18446744073709551616 := Int.emod_nonneg _ (by decide)
  repeat (first | (refine WL_Q ?_; (first | refine QW_a ?_)) | (refine WL_op rfl ?_; (first | refine OW_box rfl (hk := fun _ => ?_) | refine OW_alloc rfl (hk := fun _ => ?_) | refine OW_callP rfl (hF := bare_fn) (hk := ?_))) | refine WL_nil ?_ | refine WC_seq ?_ | refine WC_block ?_ | refine WC_cond_t (ht := ?_) | refine WC_cond_f (he := ?_) | refine WC_skip ?_ | refine WC_ret ?_ | refine WG 0 ?_ | refine WG 1 ?_ | refine WG 2 ?_)
  refine WL_Q (QW_of (Qt_eqlX (xs' := #[iV 0, iV 0, .int .u64 0, iV 0, iV 0]) (ys' := #[iV a.n, iV 0, .int .u64 0, iV 0, iV 0]) rfl rfl rfl (rx := ag_rv 0) (ry := ag_rv _) (he := hza) (hg := by kernel_rfl)) ?_)
  repeat (first | (refine WL_Q ?_; (first | refine QW_a ?_)) | (refine WL_op rfl ?_; (first | refine OW_callP rfl (hF := bare_fn) (hk := ?_))) | refine WL_nil ?_ | refine WC_seq ?_ | refine WC_block ?_ | refine WC_cond_t (ht := ?_) | refine WC_cond_f (he := ?_) | refine WC_skip ?_ | refine WC_ret ?_ | refine WG 2 ?_ | refine WG 4 ?_)
  refine WL_Q (QW_of (Qt_eqlX (xs' := #[iV 0, iV 0, .int .u64 0, iV 0, iV 0]) (ys' := #[iV b.n, iV 0, .int .u64 0, iV 0, iV 0]) rfl rfl rfl (rx := ag_rv 0) (ry := ag_rv _) (he := hzb) (hg := by kernel_rfl)) ?_)
  repeat (first | (refine WL_Q ?_; (first | refine QW_a ?_)) | (refine WL_op rfl ?_; (first | refine OW_callP rfl (hF := bare_fn) (hk := ?_))) | refine WL_nil ?_ | refine WC_seq ?_ | refine WC_block ?_ | refine WC_cond_t (ht := ?_) | refine WC_cond_f (he := ?_) | refine WC_skip ?_ | refine WC_ret ?_ | refine WG 4 ?_ | refine WG 6 ?_)
  refine WL_Q (QW_of (Qt_extern rfl (add64_run _ _ hlo hlo2)) ?_)
  repeat (first | (refine WL_Q ?_; (first | refine QW_a ?_)) | (refine WL_op rfl ?_; (first | refine OW_stA rfl ?_ | refine OW_stN rfl ?_)) | refine WL_nil ?_ | refine WC_seq ?_ | refine WC_block ?_ | refine WC_cond_t (ht := ?_) | refine WC_cond_f (he := ?_) | refine WC_skip ?_ | refine WC_ret ?_ | refine WG 6 ?_ | refine WG 7 ?_)
  have h1 := ha.n0
  have h2 := ha.n1
  have h3 := hb.n0
  have h4 := hb.n1
  have h5 := ha.s0
  have h6 := ha.s1
  have h7 := hb.s0
  have h8 := hb.s1
  have hq : (a.s + b.s) / 18446744073709551616 = a.s / 18446744073709551616 + b.s / 18446744073709551616 + (a.s % 18446744073709551616 + b.s % 18446744073709551616) / 18446744073709551616 := by omega
  have hr : (a.s % 18446744073709551616 + b.s % 18446744073709551616) % 18446744073709551616 = (a.s + b.s) % 18446744073709551616 := by omega
  have c1 : IntKind.i64.wrap (a.n + b.n) = a.n + b.n := wI64 (by omega) (by omega)
  have c2 : IntKind.i64.wrap ((a.s % 18446744073709551616 + b.s % 18446744073709551616) / 18446744073709551616) = (a.s % 18446744073709551616 + b.s % 18446744073709551616) / 18446744073709551616 := wI64 (by omega) (by omega)
  have c3 : IntKind.i64.wrap (a.s / 18446744073709551616 + b.s / 18446744073709551616) = a.s / 18446744073709551616 + b.s / 18446744073709551616 := wI64 (by omega) (by omega)
  have c4 : IntKind.i64.wrap (a.s / 18446744073709551616 + b.s / 18446744073709551616 + (a.s % 18446744073709551616 + b.s % 18446744073709551616) / 18446744073709551616) = a.s / 18446744073709551616 + b.s / 18446744073709551616 + (a.s % 18446744073709551616 + b.s % 18446744073709551616) / 18446744073709551616 := wI64 (by omega) (by omega)
  have m1 : (if b.mn < a.mn then b.mn else a.mn) = min a.mn b.mn := by split <;> omega
  have m2 : (if b.mx > a.mx then b.mx else a.mx) = max a.mx b.mx := by split <;> omega
  rw [c1, c2, c3, c4, hr, ← hq, m1, m2]
  exact ⟨rfl, _, _, Res1 rfl (resV_cellN rfl 0 rfl rfl), .cons _ (.cons _ (.cons _ (.refl _))), rfl, rfl⟩
end Go.Proofs.YtekmmhmhcpaiaaaGreat
namespace Go.Proofs.YtekmmhmhcpaiaaaGreat
open Go.RowKit
def idxL : Nat → List Value → List (Nat × Value)
  | _, [] => []
  | k, x :: r => (k, x) :: idxL (k + 1) r
theorem fill_idx {n : Nat} : ∀ (xs : List Value) (k : Nat) (pre z : List Value), pre.length = k * n → z.length = xs.length * n → (∀ x ∈ xs, x.cells.size = n) →
    FilledA n (pre ++ z).toArray (idxL k xs) (pre ++ xs.flatMap fun x => x.cells.toList).toArray
  | [], k, pre, z, _, hz, _ => by
    have : z = [] := List.length_eq_zero_iff.1 (by simpa using hz)
    subst this
    show _ = _
    simp
  | x :: r, k, pre, z, hp, hz, hx => by
    have h1 := hx x (by simp)
    have h2 : z.length = r.length * n + n := by rw [hz, List.length_cons, Nat.succ_mul]
    refine ⟨h1, by rw [List.size_toArray, List.length_append]; omega, ?_⟩
    have ih := fill_idx (n := n) r (k + 1) (pre ++ x.cells.toList) (z.drop n) (by rw [List.length_append, hp, Nat.succ_mul, Array.length_toList, h1]) (by rw [List.length_drop]; omega) (fun y hy => hx y (by simp [hy]))
    have e : putR (pre ++ z).toArray (k * n) x.cells = ((pre ++ x.cells.toList) ++ z.drop n).toArray := by
      unfold putR
      rw [← hp, h1]
      simp only [List.take_left, List.drop_append, List.append_assoc]
      rw [List.drop_eq_nil_of_le (by omega), List.nil_append]
      congr 4
      omega
    rw [e]
    simpa using ih
theorem OW_buildS {c : Cx} {o : Oper} {Kn : St → Prop} {K : Exit → St → Prop} {s : List (Nat × Value)} {D : List Deferred} {L : List (Nat × Obj)} {t E n m by_ d : Nat} {z : Array Value} {parts : Array (Nat × Operand)} {xs : List Value} [hu : TUnd c.P t (.slice E)] [hrow : TRow c.P E z n by_] (ho : o.op = .buildSlice t m parts) (_hv : evs s (parts.toList.map fun q => q.2) = some xs := by exact rfl) (hx : evp s parts.toList = some (idxL 0 xs) := by exact rfl) (hm : xs.length = m := by exact rfl)
    (hk : ∀ b, Kn ⟨(d, .slice (some ⟨b, 0, none⟩) m m) :: s, D, (b, .cells (xs.flatMap fun x => x.cells.toList).toArray E) :: L⟩) (hc0 : (xs.all fun x => x.cells.size == n) = true := by exact rfl) (hn0 : Nat.ble 1 (m * n) = true := by exact rfl) (hn1 : Nat.ble (m * n) 16777216 = true := by exact rfl) (hdst : o.dst = some d := by exact rfl) (hd : Nat.blt d c.N = true := by exact rfl) : OW c o Kn K ⟨s, D, L⟩ := fun a w ha => by
  have hc : ∀ x ∈ xs, x.cells.size = n := fun x hx => by simpa using List.all_eq_true.1 hc0 x hx
  refine ⟨fun _ _ => trivial, ?_⟩
  obtain ⟨i, zz, h1, h2, h3, h4, h5, h6⟩ := hrow.h
  have hn0 := Nat.le_of_ble_eq_true hn0
  have hn1 := Nat.le_of_ble_eq_true hn1
  have hb := run_buildSlice (P := c.P) w t E m (parts.map fun (i, x) => (i, a.eval x)) (xs.flatMap fun x => x.cells.toList).toArray i zz hu.h h1 h2 (by rw [h4]; omega) (by rw [h4]; omega) (by
    rw [h4, Array.toList_map, evp_map (fun x u hu => ha.ev hu) hx]
    generalize hAe : (Array.range (m * n)).map (zz.cells[· % zz.cells.size]!) = A
    have hA : A.size = m * n := by rw [← hAe]; simp
    have hf := fill_of_FilledA (fill_idx (n := n) xs 0 [] A.toList (by simp) (by rw [Array.length_toList, hA, hm]) hc)
    rw [List.nil_append, List.nil_append, Array.toArray_toList] at hf
    exact hf)
  have hr : (execOp a.eval o).run c.P w = .ok (.value (.slice (some ⟨w.heap.size, 0, none⟩) m m)) (w.alloc (.cells (xs.flatMap fun x => x.cells.toList).toArray E)) := by
    simp [execOp, ho, hb]
  rw [Oper.semAt_eq _ _ _ (by rw [ho]; intro cc h; cases h), hr]
  refine ⟨_, ?_, hk w.heap.size⟩
  rw [hdst]
  exact (ha.mem' (ha.mem.alloc _)).put (d := some d) hd _
end Go.Proofs.YtekmmhmhcpaiaaaGreat
namespace Go.Proofs.YtekmmhmhcpaiaaaGreat
open Go.RowKit
theorem Qt_eqlNilT {c : Cx} {s : List (Nat × Value)} {L : List (Nat × Obj)} {o : Oper} {t t' e : TypeId} [hu : TUnd c.P t (.slice e)] {x : Operand} {a : Option Addr} {n cap : Nat} (ho : o.op = .binOp .eql t x (.const (.slice none 0 0)) t') (hx : ev s x = some (.slice a n cap) := by exact rfl) : Qt c s L o (.bool a.isNone) :=
  Qt_of_run (by simp [ho]) (fun ρ hρ w _ => by
    have h2 := Lib.run_eql_slice_nil (P := c.P) w t e a n cap 0 0 hu.h
    have h3 := hρ (.const (.slice none 0 0)) _ rfl
    simp [execOp, ho, hρ x _ hx, h3, eqGuard, h2, Result.andThen])
attribute [local irreducible] Fn WC WL WR OW Qt YieldFn QW FnP FnD FnE
theorem cloneInt_fn {v : Value} {n : Nat} {xs : List Value} {L : List (Nat × Obj)} (h : Vec 1 L v n xs) (h1 : ∀ u ∈ xs, u.oneCell' = true) (hn : n ≤ 100000) : Fn Tryz.prog 38 [v] L (fun r L' => ∃ T, L' = T ++ L ∧ Buf 3 1 r T n xs) := by
  obtain ⟨hl, a, cap, rfl, hc, hm, hx⟩ := id h
  refine Fn_enter Tryz.func38 rfl Tryz.ntmps38 rfl fun g => ?_
  cases a with
  | none =>
    obtain rfl : n = 0 := by
      rcases hx with hx | ⟨b, off, cs, E, fr, i, e, _⟩
      · exact hx
      · cases e
    obtain rfl : xs = [] := List.eq_nil_of_length_eq_zero (by omega)
    repeat (first | refine RQ ?_ | (refine WL_Q ?_; (first | refine QW_of (Qt_eqlNilT rfl) ?_)) | refine RC ?_ | refine WG 0 ?_ | refine WG 1 ?_ | refine WG 2 ?_)
    exact ⟨rfl, _, _, Res1 rfl (resV_tmp rfl), .refl _, [], rfl, Buf.nil _ _⟩
  | some a =>
    have dS : (some a).isNone = false := rfl
    repeat (first | refine RQ ?_ | (refine WL_Q ?_; (first | refine QW_of (Qt_eqlNilT rfl) ?_)) | (refine RE ?_; try intro _) | refine RC ?_ | refine WG 0 ?_ | refine WG 1 ?_ | refine WG 3 ?_)
    refine WL_op rfl (OW_append_own rfl rfl rfl rfl rfl 0 rfl (xs := []) (n := 0) (cap := 0) ⟨rfl, Nat.le_refl _, by decide, Nat.le_refl _, fun j x hj => by simp at hj⟩ (srcVec (Vec.cons _ h) h1) (by simp only [maxLen]; omega) (by omega) ?_)
    intro b1 off1 cap2 cur1 hown
    simp only [List.set_cons_zero]
    repeat (first | refine RQ ?_ | (refine WL_Q ?_; (first | refine QW_of (Qt_eqlNilT rfl) ?_)) | (refine RE ?_; try intro _) | refine RC ?_ | refine WG 3 ?_)
    have h0 : 0 + n = n := Nat.zero_add _
    rw [h0]
    rw [h0, List.nil_append] at hown
    exact ⟨rfl, _, _, Res1 rfl (resV_tmp rfl), .refl _, [_], rfl, .inr ⟨b1, off1, cap2, cur1, rfl, rfl, hown⟩⟩
theorem cloneOp_fn {v : Value} {n : Nat} {xs : List Value} {L : List (Nat × Obj)} (h : Vec 4 L v n xs) (h1 : ∀ u ∈ xs, u.oneCell' = true) (hn : n ≤ 100000) : Fn Tryz.prog 74 [v] L (fun r L' => ∃ T, L' = T ++ L ∧ Buf 59 4 r T n xs) := by
  obtain ⟨hl, a, cap, rfl, hc, hm, hx⟩ := id h
  refine Fn_enter Tryz.func74 rfl Tryz.ntmps74 rfl fun g => ?_
  cases a with
  | none =>
    obtain rfl : n = 0 := by
      rcases hx with hx | ⟨b, off, cs, E, fr, i, e, _⟩
      · exact hx
      · cases e
    obtain rfl : xs = [] := List.eq_nil_of_length_eq_zero (by omega)
    repeat (first | refine RQ ?_ | (refine WL_Q ?_; (first | refine QW_of (Qt_eqlNilT rfl) ?_)) | refine RC ?_ | refine WG 0 ?_ | refine WG 1 ?_ | refine WG 2 ?_)
    exact ⟨rfl, _, _, Res1 rfl (resV_tmp rfl), .refl _, [], rfl, Buf.nil _ _⟩
  | some a =>
    have dS : (some a).isNone = false := rfl
    repeat (first | refine RQ ?_ | (refine WL_Q ?_; (first | refine QW_of (Qt_eqlNilT rfl) ?_)) | (refine RE ?_; try intro _) | refine RC ?_ | refine WG 0 ?_ | refine WG 1 ?_ | refine WG 3 ?_)
    refine WL_op rfl (OW_append_own rfl rfl rfl rfl rfl 0 rfl (xs := []) (n := 0) (cap := 0) ⟨rfl, Nat.le_refl _, by decide, Nat.le_refl _, fun j x hj => by simp at hj⟩ (srcVec (Vec.cons _ h) h1) (by simp only [maxLen]; omega) (by omega) ?_)
    intro b1 off1 cap2 cur1 hown
    simp only [List.set_cons_zero]
    repeat (first | refine RQ ?_ | (refine WL_Q ?_; (first | refine QW_of (Qt_eqlNilT rfl) ?_)) | (refine RE ?_; try intro _) | refine RC ?_ | refine WG 3 ?_)
    have h0 : 0 + n = n := Nat.zero_add _
    rw [h0]
    rw [h0, List.nil_append] at hown
    exact ⟨rfl, _, _, Res1 rfl (resV_tmp rfl), .refl _, [_], rfl, .inr ⟨b1, off1, cap2, cur1, rfl, rfl, hown⟩⟩
theorem cloneStage_fn {v : Value} {n : Nat} {xs : List Value} {L : List (Nat × Obj)} (h : Vec 5 L v n xs) (h1 : ∀ u ∈ xs, u.oneCell' = true) (hn : n ≤ 100000) : Fn Tryz.prog 75 [v] L (fun r L' => ∃ T, L' = T ++ L ∧ Buf 62 5 r T n xs) := by
  obtain ⟨hl, a, cap, rfl, hc, hm, hx⟩ := id h
  refine Fn_enter Tryz.func75 rfl Tryz.ntmps75 rfl fun g => ?_
  cases a with
  | none =>
    obtain rfl : n = 0 := by
      rcases hx with hx | ⟨b, off, cs, E, fr, i, e, _⟩
      · exact hx
      · cases e
    obtain rfl : xs = [] := List.eq_nil_of_length_eq_zero (by omega)
    repeat (first | refine RQ ?_ | (refine WL_Q ?_; (first | refine QW_of (Qt_eqlNilT rfl) ?_)) | refine RC ?_ | refine WG 0 ?_ | refine WG 1 ?_ | refine WG 2 ?_)
    exact ⟨rfl, _, _, Res1 rfl (resV_tmp rfl), .refl _, [], rfl, Buf.nil _ _⟩
  | some a =>
    have dS : (some a).isNone = false := rfl
    repeat (first | refine RQ ?_ | (refine WL_Q ?_; (first | refine QW_of (Qt_eqlNilT rfl) ?_)) | (refine RE ?_; try intro _) | refine RC ?_ | refine WG 0 ?_ | refine WG 1 ?_ | refine WG 3 ?_)
    refine WL_op rfl (OW_append_own rfl rfl rfl rfl rfl 0 rfl (xs := []) (n := 0) (cap := 0) ⟨rfl, Nat.le_refl _, by decide, Nat.le_refl _, fun j x hj => by simp at hj⟩ (srcVec (Vec.cons _ h) h1) (by simp only [maxLen]; omega) (by omega) ?_)
    intro b1 off1 cap2 cur1 hown
    simp only [List.set_cons_zero]
    repeat (first | refine RQ ?_ | (refine WL_Q ?_; (first | refine QW_of (Qt_eqlNilT rfl) ?_)) | (refine RE ?_; try intro _) | refine RC ?_ | refine WG 3 ?_)
    have h0 : 0 + n = n := Nat.zero_add _
    rw [h0]
    rw [h0, List.nil_append] at hown
    exact ⟨rfl, _, _, Res1 rfl (resV_tmp rfl), .refl _, [_], rfl, .inr ⟨b1, off1, cap2, cur1, rfl, rfl, hown⟩⟩
end Go.Proofs.YtekmmhmhcpaiaaaGreat
namespace Go.Proofs.YtekmmhmhcpaiaaaGreat
open Go.RowKit
theorem FnE.sub {P : Program} {f : FuncId} {args : List Value} {L : List (Nat × Obj)} {Rr : Value → List (Nat × Obj) → Prop} {Q : Value → Prop} (h : FnE P f args L Rr (fun v L' => Q v ∧ L.Sublist L')) : FnE P f args L Rr (fun v L' => Q v ∧ L' = L) := fun g w hm => (h g w hm).mono fun _ _ hE => by
  rcases hE with ⟨v, L', a, b, c⟩ | ⟨v, L', a, b, c, d⟩
  · exact .inl ⟨v, L', a, b, c⟩
  · exact .inr ⟨v, L, a, b.sublist d, c, rfl⟩
abbrev rfu (e : Int) : Value := .iface 206 (.agg #[iV e])
abbrev Asked (f : FuncId) (args : List Value) (L : List (Nat × Obj)) (e : Int) : Prop := FnE Tryz.prog f args L (fun _ L' => e = 0 ∧ L' = L) (fun v L' => (e ≠ 0 ∧ v = rfu e) ∧ L' = L)
instance : TUnd Tryz.prog 206 (.struct #[{ name := "e", type := 55, offset := 0, embedded := false, tag := "", pkgPath := "anabranch/table", byteOffset := 0 }]) := ⟨Tryz.underlying206⟩
attribute [local irreducible] Fn WC WL WR OW Qt YieldFn QW FnP FnD FnE
theorem must_fn {t : Bool} {e : Int} {L : List (Nat × Obj)} : FnE Tryz.prog 78 [.bool t, .int .i64 e] L (fun _ L' => t = true ∧ L' = L) (fun v L' => (t = false ∧ v = rfu e) ∧ L' = L) := by
  refine FnE_enter Tryz.func78 rfl Tryz.ntmps78 rfl fun g => ?_
  cases t
  · repeat (first | refine RQ ?_ | refine RC ?_ | refine WC_region ?_)
    refine WL_op rfl (OW_panic (σ := ⟨_, _, _⟩) rfl rfl ?_)
    exact ⟨_, rfl, ⟨rfl, rfl⟩, rfl⟩
  · repeat (first | refine RQ ?_ | refine RC ?_ | refine WC_region ?_)
    exact ⟨_, _, Res0 rfl, .refl _, rfl, rfl⟩
theorem told_ret {cb : Nat} {L : List (Nat × Obj)} : FnD Tryz.prog 77 [.pointer (some ⟨cb, 0, none⟩)] L .returning (fun u' L' => u' = .returning ∧ L' = L) := by
  refine FnD_recover (rv := .nilIface) (u' := .returning) Tryz.func77 rfl Tryz.ntmps77 rfl rfl rfl rfl ⟨rfl, rfl⟩ fun g n => ⟨_, rfl, ?_⟩
  show WC _ _ _ ⟨[(5, .nilIface), (0, .pointer (some ⟨cb, 0, none⟩))], [], L⟩
  repeat (first | refine RQ ?_ | (refine RE ?_; try intro _) | refine RC ?_ | refine WC_region ?_)
  exact ⟨rfl, _, _, Res0 rfl, .refl _, rfl, rfl⟩
theorem told_pan {cb : Nat} {old : Value} {e : Int} {F : List (Nat × Obj)} : FnD Tryz.prog 77 [.pointer (some ⟨cb, 0, none⟩)] ((cb, .cells #[old] 55 (0, 0)) :: F) (.panicking (pan (rfu e))) (fun u' L' => settle u' = .returning ∧ L' = (cb, .cells #[iV e] 55 (0, 0)) :: F) := by
  refine FnD_recover (rv := rfu e) Tryz.func77 rfl Tryz.ntmps77 rfl rfl rfl rfl ⟨rfl, rfl⟩ fun g n => ⟨_, rfl, ?_⟩
  show WC _ _ _ ⟨[(5, rfu e), (0, .pointer (some ⟨cb, 0, none⟩))], [], _⟩
  repeat (first | refine RQ ?_ | (refine RE ?_; try intro _) | refine RC ?_ | refine WC_region ?_)
  exact ⟨rfl, _, _, Res0 rfl, .cons _ (.refl _), rfl, rfl⟩
theorem within_fn {n a b : Int} {L : List (Nat × Obj)} : Fn Tryz.prog 52 [.int .i64 n, .int .i64 a, .int .i64 b] L (fun v L' => v = .bool (decide (a ≤ n ∧ n ≤ b)) ∧ L' = L) := by
  refine Fn_enter Tryz.func52 rfl Tryz.ntmps52 rfl fun g => ?_
  by_cases h : a ≤ n
  · have d : decide (n ≥ a) = true := decide_eq_true h
    repeat (first | refine RQ ?_ | refine RC ?_ | refine WC_region ?_)
    refine ⟨rfl, _, _, Res1 rfl (resV_tmp rfl), .refl _, ?_, rfl⟩
    simp [h]
  · have d : decide (n ≥ a) = false := decide_eq_false h
    repeat (first | refine RQ ?_ | refine RC ?_ | refine WC_region ?_)
    refine ⟨rfl, _, _, Res1 rfl (resV_tmp rfl), .refl _, ?_, rfl⟩
    simp [h]
set_option maxHeartbeats 4000000 in
theorem rising_fn {v : Value} {l : List Int} {L : List (Nat × Obj)} (h : Vec 1 L v l.length (l.map iV)) : Fn Tryz.prog 120 [v] L (fun r L' => r = .bool (risF (-1) l) ∧ L' = L) := by
  obtain ⟨_, a, cap, rfl, hc, hm, hx⟩ := id h
  refine Fn_enter Tryz.func120 rfl Tryz.ntmps120 rfl fun g => ?_
  repeat (first | refine RQ ?_ | refine RC ?_ | refine WG 0 ?_ | refine WG 1 ?_ | refine WG 2 ?_)
  refine WC_wk [(8, .int .i64 ((0 : Nat) : Int)), (7, .int .i64 (l.length : Nat)), (6, .slice a l.length cap), (3, .int .i64 (-1))] ⟨rfl, rfl, rfl, rfl, trivial⟩ ?_
  refine WC_loop (fun m σ => ∃ (i : Nat) (la : Int), m = l.length - i ∧ i ≤ l.length ∧ risF (-1) l = risF la (l.drop i) ∧ σ = ⟨[(8, .int .i64 (i : Nat)), (7, .int .i64 (l.length : Nat)), (6, .slice a l.length cap), (3, .int .i64 la)], [], L⟩) l.length ⟨0, -1, rfl, Nat.zero_le _, rfl, rfl⟩ ?_
  rintro m σ ⟨i, la, rfl, hi, hr, rfl⟩
  by_cases hlt : i < l.length
  rotate_left
  · have d : decide ((i : Int) < ((l.length : Nat) : Int)) = false := decide_eq_false (by omega)
    rw [List.drop_eq_nil_of_le (by omega)] at hr
    repeat (first | refine RQ ?_ | refine RC ?_ | refine WG 3 ?_ | refine WG 9 ?_)
    exact ⟨rfl, _, _, Res1 rfl (resV_tmp rfl), .refl _, by rw [hr]; rfl, rfl⟩
  have d : decide ((i : Int) < ((l.length : Nat) : Int)) = true := decide_eq_true (by omega)
  have p0 : (0 : Int) ≤ (i : Int) := by omega
  have p1 : ((i : Nat) : Int) < ((l.length : Nat) : Int) := by omega
  obtain ⟨b, off, cs, E, fr, k, rfl, hk, hcs⟩ := hx.resolve_left (by omega)
  obtain ⟨y, hy⟩ : ∃ y, l[i]? = some y := ⟨_, List.getElem?_eq_getElem hlt⟩
  have hc1 : cs[off + ((i : Nat) : Int).toNat * 1]? = some (iV y) := by rw [Int.toNat_natCast, Nat.mul_one]; exact hcs i _ (by rw [List.getElem?_map, hy]; rfl)
  have w : IntKind.i64.wrap ((i : Int) + 1) = ((i + 1 : Nat) : Int) := by rw [wI64 (by omega) (by simp only [maxLen] at hm; omega)]; omega
  have ed : l.drop i = y :: l.drop (i + 1) := by
    rw [List.drop_eq_getElem_cons hlt]
    have := List.getElem?_eq_getElem hlt
    rw [hy] at this
    cases this
    rfl
  rw [ed] at hr
  rw [show risF la (y :: l.drop (i + 1)) = if y ≤ la ∨ 8 ≤ y then false else risF y (l.drop (i + 1)) from rfl] at hr
  by_cases h1 : y ≤ la
  · have d1 : decide (y ≤ la) = true := decide_eq_true h1
    rw [if_pos (.inl h1)] at hr
    repeat (first | refine RQ ?_ | refine RC ?_ | refine WG 3 ?_ | refine WG 4 ?_ | refine WG 5 ?_ | refine WG 6 ?_)
    exact ⟨rfl, _, _, Res1 rfl (resV_tmp rfl), .refl _, by rw [hr], rfl⟩
  have d1 : decide (y ≤ la) = false := decide_eq_false h1
  by_cases h2 : 8 ≤ y
  · have d2 : decide (y ≥ 8) = true := decide_eq_true h2
    rw [if_pos (.inr h2)] at hr
    repeat (first | refine RQ ?_ | refine RC ?_ | refine WG 3 ?_ | refine WG 4 ?_ | refine WG 5 ?_ | refine WG 6 ?_)
    exact ⟨rfl, _, _, Res1 rfl (resV_tmp rfl), .refl _, by rw [hr], rfl⟩
  have d2 : decide (y ≥ 8) = false := decide_eq_false h2
  rw [if_neg (by omega)] at hr
  repeat (first | refine RQ ?_ | refine RC ?_ | refine WG 3 ?_ | refine WG 4 ?_ | refine WG 5 ?_ | refine WG 7 ?_ | refine WG 8 ?_)
  rw [w]
  exact ⟨_, _, by omega, ⟨i + 1, y, rfl, by omega, hr, rfl⟩, ⟨rfl, rfl, rfl, rfl, trivial⟩, rfl, .refl _⟩
end Go.Proofs.YtekmmhmhcpaiaaaGreat
