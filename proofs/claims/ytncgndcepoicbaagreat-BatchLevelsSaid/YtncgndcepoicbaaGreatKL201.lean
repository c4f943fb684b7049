/-
  A part of what the last of these texts needs; by itself it proves no statement.
-/
import Derived.ChangeKeysEq
import Derived.Test.YtncgndcepoicbaaGreatKL192
namespace Go.Proofs.YtncgndcepoicbaaGreat
open Go.RowKit
attribute [local irreducible] Fn WC WL WR OW Qt YieldFn QW FnP FnD FnE wnC
set_option maxHeartbeats 4000000 in
theorem owners_fn {tb : Nat} {t : TbV} {L : List (Nat × Obj)} (h : TabIn tb L t) (hT : TbOk t) : Fn Tryz.prog 34 [.pointer (some ⟨tb, 0, none⟩)] L (fun v L' => v = .agg (wnC (b8.map (hasF t.spans))) ∧ L' = L) := by
  refine Fn_enter Tryz.func34 rfl Tryz.ntmps34 rfl fun g => ?_
  repeat (first | (refine WL_Q ?_; (first | refine QW_a ?_ | refine QW_of (Qt_ldX rfl (hn := by with_reducible assumption)) ?_)) | (refine WL_op rfl ?_; (first | refine OW_alloc rfl (hk := fun _ => ?_))) | refine WL_nil ?_ | refine WC_seq ?_ | refine WC_block ?_ | refine WC_cond_t (ht := ?_) | refine WC_cond_f (he := ?_) | refine WC_skip ?_ | refine WC_ret ?_ | refine WC_exit ?_ | refine WG 0 ?_ | refine WG 1 ?_ | refine WG 2 ?_)
  rename_i x2 x3
  obtain ⟨ol, hol⟩ : ∃ ol, ol = b8.map (hasF t.spans) := ⟨_, rfl⟩
  have hll : ol.length = 8 := by rw [hol]; rfl
  rw [← hol]
  refine WC_permT (L' := (x3, Obj.cells (wnC (ol.take 0 ++ List.replicate (8 - 0) 0)) 61 (0, 0)) :: (x2, Obj.cells zc61 61 (0, 0)) :: L) (by rw [show wnC (ol.take 0 ++ List.replicate (8 - 0) 0) = zc61 from wnC_z8.symm]) ?_
  refine WC_wk [(4, iV ((0 : Nat) : Int)), (3, .pointer (some ⟨x3, 0, none⟩)), (2, .pointer (some ⟨x2, 0, none⟩)), (0, .pointer (some ⟨tb, 0, none⟩))] ⟨rfl, rfl, rfl, rfl, trivial⟩ ?_
  refine WC_loop (fun m σ => ∃ k : Nat, m = 8 - k ∧ k ≤ 8 ∧ σ = ⟨[(4, iV (k : Int)), (3, .pointer (some ⟨x3, 0, none⟩)), (2, .pointer (some ⟨x2, 0, none⟩)), (0, .pointer (some ⟨tb, 0, none⟩))], [], (x3, Obj.cells (wnC (ol.take k ++ List.replicate (8 - k) 0)) 61 (0, 0)) :: (x2, Obj.cells zc61 61 (0, 0)) :: L⟩) 8 ⟨0, rfl, by decide, rfl⟩ ?_
  rintro _ σ ⟨k, rfl, hk, rfl⟩
  by_cases h8 : k < 8
  · have d1 : decide ((k : Int) < 8) = true := decide_eq_true (by omega)
    have p0 : (0 : Int) ≤ (k : Int) := by omega
    have p1 : (k : Int) < 8 := by omega
    have ww : IntKind.i64.wrap ((k : Int) + 1) = ((k + 1 : Nat) : Int) := by rw [wI64 (by omega) (by omega)]; omega
    have how := owner_fn (b := (k : Int)) (now := 1099511627776) (h.mem (L' := (x3, Obj.cells (wnC (ol.take k ++ List.replicate (8 - k) 0)) 61 (0, 0)) :: (x2, Obj.cells zc61 61 (0, 0)) :: L) fun q hq => .tail _ (.tail _ hq)) (fun row hr => by have := hT.short row hr; have := hT.few; omega)
    rw [own_has hT ⟨p0, p1⟩] at how
    have hw : ol[k]? = some (hasF t.spans k) := by
      have h2 : ∀ k : Nat, k < 8 → b8[k]? = some (k : Int) := by decide
      rw [hol, List.getElem?_map, h2 k h8]; rfl
    have hlk : (ol.take k).length = k := by rw [List.length_take]; omega
    have hsz : (wnC (ol.take k ++ List.replicate (8 - k) 0)).size = 8 := wnC_size (by rw [List.length_append, List.length_replicate, hlk]; omega)
    have hb1 : ((k : Nat) : Int).toNat * 1 < (wnC (ol.take k ++ List.replicate (8 - k) 0)).size := by rw [hsz, Int.toNat_natCast]; omega
    repeat (first | (refine WL_Q ?_; (first | refine QW_a ?_ | refine QW_of (Qt_ldX rfl (hn := by with_reducible assumption)) ?_)) | (refine WL_op rfl ?_; (first | refine OW_st1 rfl ?_ | refine OW_callP rfl (hF := how) (hk := ?_))) | refine WL_nil ?_ | refine WC_seq ?_ | refine WC_block ?_ | refine WC_cond_t (ht := ?_) | refine WC_cond_f (he := ?_) | refine WC_skip ?_ | refine WC_ret ?_ | refine WC_exit ?_ | refine WG 3 ?_ | refine WG 5 ?_ | refine WG 4 ?_)
    rw [ww, wnC_set, Int.toNat_natCast, rep_set hlk h8]
    refine ⟨_, _, by omega, ⟨k + 1, rfl, by omega, rfl⟩, ⟨rfl, rfl, rfl, rfl, trivial⟩, rfl, ?_⟩
    rw [List.take_add_one, hw]
    exact .refl _
  · obtain rfl : k = 8 := by omega
    have d1 : decide (((8 : Nat) : Int) < 8) = false := by decide
    rw [List.take_of_length_le (by omega), Nat.sub_self, List.replicate_zero, List.append_nil]
    have hsz : (wnC ol).size = 8 := wnC_size hll
    have hall := wnC_all (want := ol)
    repeat (first | (refine WL_Q ?_; (first | refine QW_a ?_ | refine QW_of (Qt_ldX rfl (hn := by with_reducible assumption)) ?_)) | (refine WL_op rfl ?_; (first | refine OW_stA rfl ?_ | refine OW_stN rfl ?_)) | refine WL_nil ?_ | refine WC_seq ?_ | refine WC_block ?_ | refine WC_cond_t (ht := ?_) | refine WC_cond_f (he := ?_) | refine WC_skip ?_ | refine WC_ret ?_ | refine WC_exit ?_ | refine WG 3 ?_ | refine WG 6 ?_)
    exact ⟨rfl, _, _, Res1 rfl (resV_cellN (n := 8) rfl 1 rfl hsz), .cons _ (.cons _ (.refl _)), rfl, rfl⟩
end Go.Proofs.YtncgndcepoicbaaGreat
namespace Go.Proofs.YtncgndcepoicbaaGreat
open Go.RowKit
theorem eqItems_all {P : Program} {e : TypeId} [he : TUnd P e (.int .i64)] [ha : TAgg P e false] {xs ys : Array Value} {f g : Nat → Int} (d : Nat) (w : World) : ∀ (l : List Nat), (∀ i ∈ l, xs[i]? = some (.int .i64 (f i)) ∧ ys[i]? = some (.int .i64 (g i))) → (Op.eqItems (d + 1) e 1 xs ys l).run P w = .ok (l.all fun i => f i == g i) w
  | [], _ => rfl
  | i :: l, h => by
    obtain ⟨h1, h2⟩ := h i (.head _)
    have p0 : (part e xs (i * 1)).run P w = .ok (.int .i64 (f i)) w := part1 (by rw [Nat.mul_one]; exact h1) w
    have q0 : (part e ys (i * 1)).run P w = .ok (.int .i64 (g i)) w := part1 (by rw [Nat.mul_one]; exact h2) w
    have r0 := run_equalIn_int (P := P) w d e .i64 .i64 (f i) (g i) he.h
    have ih := eqItems_all (P := P) (e := e) (xs := xs) (ys := ys) (f := f) (g := g) d w l fun j hj => h j (.tail _ hj)
    simp only [Op.eqItems, Sem.run_bind, p0, q0, r0, Result.andThen_ok]
    cases hfg : (f i == g i)
    · simp [hfg]
    · simp [hfg, ih]
theorem EqI.arr {P : Program} {t e n : Nat} [hu : TUnd P t (.array n e)] [he : TUnd P e (.int .i64)] [ha : TAgg P e false] (hi : ∃ i, P.info? e = some i) (hc : P.cellsOf e = 1) (hg : P.eqGuardType P.depth t = false) : EqI P t n := by
  refine ⟨hg, fun a b la lb w => ?_⟩
  obtain ⟨i, hi⟩ := hi
  rw [run_equalIn_array (P := P) (w := w) 9999 (t := t) (e := e) (n := n) (i := i) _ _ hu.h hi, hc]
  rw [eqItems_all (f := fun i => (a[i]?).getD 0) (g := fun i => (b[i]?).getD 0) 9998 w (List.range n) fun i hi => by
    have hin := List.mem_range.1 hi
    rw [List.getElem?_toArray, List.getElem?_toArray, List.getElem?_map, List.getElem?_map, List.getElem?_eq_getElem (by omega), List.getElem?_eq_getElem (by omega)]
    exact ⟨rfl, rfl⟩]
  congr 1
  rw [Bool.eq_iff_iff, List.all_eq_true, decide_eq_true_iff]
  constructor
  · intro h
    apply List.ext_getElem (by omega)
    intro j h1 h2
    have := h j (List.mem_range.2 (by omega))
    rw [List.getElem?_eq_getElem h1, List.getElem?_eq_getElem h2] at this
    simpa using this
  · rintro rfl j _
    simp
instance : EqIC Tryz.prog 61 8 := ⟨EqI.arr (e := 3) (by obtain ⟨i, _, h, _⟩ := (inferInstance : TRow Tryz.prog 3 _ _ _).h; exact ⟨i, h⟩) (by kernel_rfl) (by kernel_rfl)⟩
section
variable {c : Cx} {s : List (Nat × Value)} {L : List (Nat × Obj)} {o : Oper}
theorem Qt_eqlW {t' : Nat} [he : EqIC c.P 61 8] {x y : Operand} {a b : List Int} (ho : o.op = .binOp .eql 61 x y t') (hx : ev s x = some (.agg (wnC a)) := by exact rfl) (hy : ev s y = some (.agg (wnC b)) := by exact rfl) (ha : a.length = 8 := by first | with_reducible assumption | rfl) (hb : b.length = 8 := by first | with_reducible assumption | rfl) : Qt c s L o (.bool (decide (a = b))) := Qt_eqlI a b ho hx hy rfl rfl ha hb
end
attribute [local irreducible] Fn WC WL WR OW Qt YieldFn QW FnP FnD FnE
set_option maxHeartbeats 4000000 in
theorem same_fn {l : List CmV} {v u : Value} {lc le : List (List Value)} {L : List (Nat × Obj)} (hv : VecM 10 L v l.length lc.flatten) (hc : CmsAt L lc l) (hu : VecM 10 L u l.length le.flatten) (he : CmsAt L le l) : Fn Tryz.prog 90 [v, u] L (fun r L' => r = .bool true ∧ L' = L) := by
  obtain ⟨_, a1, c1, rfl, _, hm1, _⟩ := id hv
  obtain ⟨_, a2, c2, rfl, _, hm2, _⟩ := id hu
  refine Fn_enter Tryz.func90 rfl Tryz.ntmps90 rfl fun g => ?_
  have n0 : (((l.length : Nat) : Int) != ((l.length : Nat) : Int)) = false := bne_self_eq_false _
  repeat (first | (refine WL_Q ?_; (first | refine QW_a ?_ | refine QW_of (Qt_ldX rfl (hn := by with_reducible assumption)) ?_ | refine QW_of (Qt_neqOp rfl) ?_)) | refine WL_nil ?_ | refine WC_seq ?_ | refine WC_block ?_ | refine WC_cond_t (ht := ?_) | refine WC_cond_f (he := ?_) | refine WC_skip ?_ | refine WC_ret ?_ | refine WC_exit ?_ | refine WG 0 ?_ | refine WG 1 ?_ | refine WG 3 ?_)
  refine WC_wk [(5, iV ((0 : Nat) : Int)), (0, .slice a1 l.length c1), (1, .slice a2 l.length c2)] ⟨rfl, rfl, rfl, trivial⟩ ?_
  refine WC_loop (fun m σ => ∃ k : Nat, m = l.length - k ∧ k ≤ l.length ∧ σ = ⟨[(5, iV (k : Int)), (0, .slice a1 l.length c1), (1, .slice a2 l.length c2)], [], L⟩) l.length ⟨0, rfl, Nat.zero_le _, rfl⟩ ?_
  rintro _ σ ⟨k, rfl, hk, rfl⟩
  by_cases hlt : k < l.length
  rotate_left
  · have d1 : decide ((k : Int) < ((l.length : Nat) : Int)) = false := decide_eq_false (by omega)
    repeat (first | (refine WL_Q ?_; (first | refine QW_a ?_ | refine QW_of (Qt_ldX rfl (hn := by with_reducible assumption)) ?_ | refine QW_of (Qt_neqOp rfl) ?_)) | refine WL_nil ?_ | refine WC_seq ?_ | refine WC_block ?_ | refine WC_cond_t (ht := ?_) | refine WC_cond_f (he := ?_) | refine WC_skip ?_ | refine WC_ret ?_ | refine WC_exit ?_ | refine WG 4 ?_ | refine WG 14 ?_)
    exact ⟨rfl, _, _, Res1 rfl (resV_tmp rfl), .refl _, rfl, rfl⟩
  have d1 : decide ((k : Int) < ((l.length : Nat) : Int)) = true := decide_eq_true (by omega)
  have p0 : (0 : Int) ≤ (k : Int) := by omega
  have p1 : ((k : Nat) : Int) < ((l.length : Nat) : Int) := by omega
  have ww : IntKind.i64.wrap ((k : Int) + 1) = ((k + 1 : Nat) : Int) := by rw [wI64 (by omega) (by simp only [maxLen] at hm1; omega)]; omega
  obtain ⟨x, hx⟩ : ∃ x, l[k]? = some x := ⟨_, List.getElem?_eq_getElem hlt⟩
  obtain ⟨b1, o1, _, cs1, E1, fr1, i1, e, _, _, hi1, hx1⟩ := hv.cell (by omega)
  cases e
  obtain ⟨b2, o2, _, cs2, E2, fr2, i2, e, _, _, hi2, hx2⟩ := hu.cell (by omega)
  cases e
  obtain ⟨bv, hcv, ex1, ez1⟩ := VecM.cmd hx1 hc hx
  obtain ⟨bw, hcw, ex2, ez2⟩ := VecM.cmd hx2 he hx
  have y1 : o1 + ((k : Nat) : Int).toNat * 10 + 10 ≤ cs1.size := by rw [Int.toNat_natCast]; exact ez1
  have v1 : cs1.extract (o1 + ((k : Nat) : Int).toNat * 10) (o1 + ((k : Nat) : Int).toNat * 10 + 10) = (cmC x bv).toArray := by rw [Int.toNat_natCast]; exact ex1
  have y2 : o2 + ((k : Nat) : Int).toNat * 10 + 10 ≤ cs2.size := by rw [Int.toNat_natCast]; exact ez2
  have v2 : cs2.extract (o2 + ((k : Nat) : Int).toNat * 10) (o2 + ((k : Nat) : Int).toNat * 10 + 10) = (cmC x bw).toArray := by rw [Int.toNat_natCast]; exact ex2
  have hz1 : (cmC x bv).toArray.size = 10 := rfl
  have hz2 : (cmC x bw).toArray.size = 10 := rfl
  have ha1 := hcv.all
  have ha2 := hcw.all
  repeat (first | (refine WL_Q ?_; (first | refine QW_a ?_ | refine QW_of (Qt_ldX rfl (hn := by with_reducible assumption)) ?_ | refine QW_of (Qt_neqOp rfl) ?_)) | refine WL_nil ?_ | refine WC_seq ?_ | refine WC_block ?_ | refine WC_cond_t (ht := ?_) | refine WC_cond_f (he := ?_) | refine WC_skip ?_ | refine WC_ret ?_ | refine WC_exit ?_ | refine WG 4 ?_)
  refine WC_meet (fun σ => ∃ x6 x7 L6, (L6 = (x6, Obj.cells (cmC x bv).toArray 42 (0, 0)) :: (x7, Obj.cells (cmC x bw).toArray 42 (0, 0)) :: L ∨ L6 = (x7, Obj.cells (cmC x bw).toArray 42 (0, 0)) :: (x6, Obj.cells (cmC x bv).toArray 42 (0, 0)) :: L) ∧ σ = ⟨[(7, .pointer (some ⟨x7, 0, none⟩)), (6, .pointer (some ⟨x6, 0, none⟩)), (5, iV (k : Int)), (0, .slice (some ⟨b1, o1, none⟩) l.length c1), (1, .slice (some ⟨b2, o2, none⟩) l.length c2)], [], L6⟩) ?_ ?_
  · repeat' (first | (refine RX ?_; (first | refine QW_a ?_ | refine QW_of (Qt_ldX rfl (hn := by with_reducible assumption)) ?_ | refine QW_of (Qt_neqOp rfl) ?_)) | ((first | refine WL_op rfl ?_ | refine WR_late rfl rfl rfl ?_ | refine WR_op rfl rfl ?_); (first | refine OW_alloc rfl (hk := fun _ => ?_) | refine OW_stA rfl ?_ | refine OW_stN rfl ?_); try refine ⟨(by first | exact fun _ h => h | exact sub_mem (by repeat (first | exact .refl _ | exact List.nil_sublist _ | exact List.sublist_append_right _ _ | exact List.Sublist.append (.refl _) (List.sublist_append_right _ _) | apply List.Sublist.cons_cons | apply List.Sublist.cons))), ?_⟩) | refine WL_nil ?_ | refine WR_nil ?_ | refine WC_seq ?_ | refine WC_block ?_ | refine WC_cond_t (ht := ?_) | refine WC_cond_f (he := ?_) | refine WC_skip ?_ | refine WC_ret ?_ | refine WC_exit ?_ | refine WC_draw_all (id := 6) 12 (Cs [0,1,2,3,4,5,6,7] <| .either 8 (.must 9 <| .must 10 <| .must 11 <| .done) 9 (.must 8 <| .must 10 <| .must 11 <| .done)) mixed (by kernel_rfl) ?_ | refine WR_either ?_ ?_)
    all_goals rw [v1, v2]
    all_goals (repeat' (first | (refine RX ?_; (first | refine QW_a ?_ | refine QW_of (Qt_ldX rfl (hn := by with_reducible assumption)) ?_ | refine QW_of (Qt_neqOp rfl) ?_)) | ((first | refine WL_op rfl ?_ | refine WR_late rfl rfl rfl ?_ | refine WR_op rfl rfl ?_); (first | refine OW_alloc rfl (hk := fun _ => ?_) | refine OW_stA rfl ?_ | refine OW_stN rfl ?_); try refine ⟨(by first | exact fun _ h => h | exact sub_mem (by repeat (first | exact .refl _ | exact List.nil_sublist _ | exact List.sublist_append_right _ _ | exact List.Sublist.append (.refl _) (List.sublist_append_right _ _) | apply List.Sublist.cons_cons | apply List.Sublist.cons))), ?_⟩) | refine WL_nil ?_ | refine WR_nil ?_ | refine WC_seq ?_ | refine WC_block ?_ | refine WC_cond_t (ht := ?_) | refine WC_cond_f (he := ?_) | refine WC_skip ?_ | refine WC_ret ?_ | refine WC_exit ?_ | refine WC_draw_all (id := 6) 12 (Cs [0,1,2,3,4,5,6,7] <| .either 8 (.must 9 <| .must 10 <| .must 11 <| .done) 9 (.must 8 <| .must 10 <| .must 11 <| .done)) mixed (by kernel_rfl) ?_ | refine WR_either ?_ ?_))
    all_goals (refine ⟨_, ⟨_, _, _, ?_, rfl⟩, ⟨rfl, rfl, rfl, rfl, rfl, trivial⟩, rfl, .refl _⟩; first | exact .inl rfl | exact .inr rfl)
  rintro _ ⟨x6, x7, L6, hL, rfl⟩
  refine WC_permT (L' := (x6, Obj.cells (cmC x bv).toArray 42 (0, 0)) :: (x7, Obj.cells (cmC x bw).toArray 42 (0, 0)) :: L) (by rcases hL with h | h <;> rw [h]; exact .swap ..) ?_
  clear hL hi1 hi2
  obtain ⟨bv', ebv, hV, _⟩ := id hcv
  obtain rfl : bv = bv' := by simpa [cmC] using ebv
  obtain ⟨bw', ebw, hW, _⟩ := id hcw
  obtain rfl : bw = bw' := by simpa [cmC] using ebw
  obtain ⟨_, a3, c3, rfl, _, hm3, _⟩ := id hV
  obtain ⟨_, a4, c4, rfl, _, hm4, _⟩ := id hW
  have f0 : (x.kind != x.kind) = false := bne_self_eq_false _
  have f1 : (x.at_ != x.at_) = false := bne_self_eq_false _
  have f3 : (x.to != x.to) = false := bne_self_eq_false _
  have f4 : (x.node != x.node) = false := bne_self_eq_false _
  have f5 : (!decide ([x.op.1, x.op.2.1, x.op.2.2.1, x.op.2.2.2] = [x.op.1, x.op.2.1, x.op.2.2.1, x.op.2.2.2])) = false := by simp
  have f6 : (x.mode != x.mode) = false := bne_self_eq_false _
  have f2 : (((x.bins.length : Nat) : Int) != ((x.bins.length : Nat) : Int)) = false := bne_self_eq_false _
  repeat (first | ((first | refine WL_Q ?_ | refine WL_Y ?_); (first | refine QW_a ?_ | refine QW_of (Qt_ldX rfl (hn := by with_reducible assumption)) ?_ | refine QW_of (Qt_neqOp rfl) ?_)) | refine WL_nil ?_ | refine WL_un (h := ?_) | refine WL_N ?_ | refine WL_M ?_ | refine WC_seq ?_ | refine WC_block ?_ | refine WC_cond_t (ht := ?_) | refine WC_cond_f (he := ?_) | refine WC_skip ?_ | refine WC_ret ?_ | refine WC_exit ?_ | refine WG 7 ?_ | refine WG 9 ?_)
  refine WC_wk [(8, iV ((0 : Nat) : Int)), (7, .pointer (some ⟨x7, 0, none⟩)), (6, .pointer (some ⟨x6, 0, none⟩)), (5, iV (k : Int)), (0, .slice (some ⟨b1, o1, none⟩) l.length c1), (1, .slice (some ⟨b2, o2, none⟩) l.length c2)] ⟨rfl, rfl, rfl, rfl, rfl, rfl, trivial⟩ ?_
  obtain ⟨M, hM⟩ : ∃ M, M = (x6, Obj.cells (cmC x (.slice a3 x.bins.length c3)).toArray 42 (0, 0)) :: (x7, Obj.cells (cmC x (.slice a4 x.bins.length c4)).toArray 42 (0, 0)) :: L := ⟨_, rfl⟩
  have hLM : L.Sublist M := by rw [hM]; exact .cons _ (.cons _ (.refl _))
  have hi6 : M[0]? = some (x6, Obj.cells (cmC x (.slice a3 x.bins.length c3)).toArray 42 (0, 0)) := by rw [hM]; rfl
  have hi7 : M[1]? = some (x7, Obj.cells (cmC x (.slice a4 x.bins.length c4)).toArray 42 (0, 0)) := by rw [hM]; rfl
  have hVM := hV.mem (G' := M) fun q hq => hLM.mem hq
  have hWM := hW.mem (G' := M) fun q hq => hLM.mem hq
  have g3 : (cmC x (.slice a3 x.bins.length c3)).toArray[0 + 2]? = some (.slice a3 x.bins.length c3) := rfl
  have g4 : (cmC x (.slice a4 x.bins.length c4)).toArray[0 + 2]? = some (.slice a4 x.bins.length c4) := rfl
  have g3' : (cmC x (.slice a3 x.bins.length c3)).toArray[2]? = some (.slice a3 x.bins.length c3) := rfl
  have g4' : (cmC x (.slice a4 x.bins.length c4)).toArray[2]? = some (.slice a4 x.bins.length c4) := rfl
  rw [← hM]
  refine WC_loop (fun m σ => ∃ j : Nat, m = x.bins.length - j ∧ j ≤ x.bins.length ∧ σ = ⟨[(8, iV (j : Int)), (7, .pointer (some ⟨x7, 0, none⟩)), (6, .pointer (some ⟨x6, 0, none⟩)), (5, iV (k : Int)), (0, .slice (some ⟨b1, o1, none⟩) l.length c1), (1, .slice (some ⟨b2, o2, none⟩) l.length c2)], [], M⟩) x.bins.length ⟨0, rfl, Nat.zero_le _, rfl⟩ ?_
  rintro _ σ ⟨j, rfl, hj, rfl⟩
  by_cases hlj : j < x.bins.length
  · have e1 : decide ((j : Int) < ((x.bins.length : Nat) : Int)) = true := decide_eq_true (by omega)
    have j0 : (0 : Int) ≤ (j : Int) := by omega
    have j1 : ((j : Nat) : Int) < ((x.bins.length : Nat) : Int) := by omega
    have wj : IntKind.i64.wrap ((j : Int) + 1) = ((j + 1 : Nat) : Int) := by rw [wI64 (by omega) (by simp only [maxLen] at hm3; omega)]; omega
    obtain ⟨y, hy⟩ : ∃ y, x.bins[j]? = some y := ⟨_, List.getElem?_eq_getElem hlj⟩
    obtain ⟨b3, o3, _, cs3, E3, fr3, i3, e, _, _, hi3, hx3⟩ := hVM.cell (by omega)
    cases e
    obtain ⟨b4, o4, _, cs4, E4, fr4, i4, e, _, _, hi4, hx4⟩ := hWM.cell (by omega)
    cases e
    have hc3 : cs3[o3 + ((j : Nat) : Int).toNat * 1]? = some (iV y) := by rw [Int.toNat_natCast, Nat.mul_one]; exact hx3 j _ (by rw [List.getElem?_map, hy]; rfl)
    have hc4 : cs4[o4 + ((j : Nat) : Int).toNat * 1]? = some (iV y) := by rw [Int.toNat_natCast, Nat.mul_one]; exact hx4 j _ (by rw [List.getElem?_map, hy]; rfl)
    have fy : (y != y) = false := bne_self_eq_false _
    repeat (first | (refine RX ?_; (first | refine QW_a ?_ | refine QW_of (Qt_ldX rfl (hn := by with_reducible assumption)) ?_ | refine QW_of (Qt_neqOp rfl) ?_)) | refine WL_nil ?_ | refine WR_nil ?_ | refine WC_seq ?_ | refine WC_block ?_ | refine WC_cond_t (ht := ?_) | refine WC_cond_f (he := ?_) | refine WC_skip ?_ | refine WC_ret ?_ | refine WC_exit ?_ | refine WC_draw_all (id := 12) 11 (Cs [0,1,2,3,4,5,6,7,8,9,10] <| .done) mixed (by kernel_rfl) ?_ | refine WG 10 ?_ | refine WG 11 ?_)
    rw [wj]
    exact ⟨_, _, by omega, ⟨j + 1, rfl, by omega, rfl⟩, ⟨rfl, rfl, rfl, rfl, rfl, rfl, trivial⟩, rfl, .refl _⟩
  · have e1 : decide ((j : Int) < ((x.bins.length : Nat) : Int)) = false := decide_eq_false (by omega)
    repeat (first | (refine WL_Q ?_; (first | refine QW_a ?_ | refine QW_of (Qt_ldX rfl (hn := by with_reducible assumption)) ?_ | refine QW_of (Qt_neqOp rfl) ?_)) | refine WL_nil ?_ | refine WC_seq ?_ | refine WC_block ?_ | refine WC_cond_t (ht := ?_) | refine WC_cond_f (he := ?_) | refine WC_skip ?_ | refine WC_ret ?_ | refine WC_exit ?_ | refine WG 10 ?_ | refine WG 5 ?_)
    rw [ww]
    exact ⟨_, _, by omega, ⟨k + 1, rfl, by omega, rfl⟩, ⟨rfl, rfl, rfl, trivial⟩, rfl, hLM⟩
end Go.Proofs.YtncgndcepoicbaaGreat
namespace Go.Proofs.YtncgndcepoicbaaGreat
open Go.RowKit
def exB : TbV := newT bthP (bthC 2 1)
def exB2 : TbV := stepF exB ⟨1, 3, [], 3, 0, (0, 0, 0, 0), 0⟩ 0
theorem exB_ok : TbOk exB := newT_ok bthP_ok bthC_ok
theorem exB_moves : movesF exB [1, 1, 1, 1, 1, 1, 1, 1] 5 3 = (mvL 5 [(1, [1, 3, 5]), (1, [7])], 0) ∧ movesF exB [1, 2, 1, 2, 1, 2, 1, 2] 0 1 = ([], 0) ∧ movesF exB [3, 2, 1, 2, 1, 2, 1, 2] 5 1 = ([], 16) := ⟨rfl, rfl, rfl⟩
theorem exB_level : levelF exB.act (b8.map (hasF exB.spans)) = [1, 2, 1, 2, 1, 2, 1, 2] ∧ tryF exB ⟨1, 3, [], 3, 0, (0, 0, 0, 0), 0⟩ 0 = 0 ∧ levelF exB2.act (b8.map (hasF exB2.spans)) = [1, 2, 1, 2, 1, 2, 3, 3] := ⟨by decide, by decide, by decide⟩
theorem putR_1 {a b c d e f g h x : Int} : putR (wnC [a, b, c, d, e, f, g, h]) (0 * 1) (Value.int .i64 x).cells = wnC [x, b, c, d, e, f, g, h] ∧ putR (wnC [a, b, c, d, e, f, g, h]) (1 * 1) (Value.int .i64 x).cells = wnC [a, x, c, d, e, f, g, h] ∧ putR (wnC [a, b, c, d, e, f, g, h]) (2 * 1) (Value.int .i64 x).cells = wnC [a, b, x, d, e, f, g, h] ∧ putR (wnC [a, b, c, d, e, f, g, h]) (3 * 1) (Value.int .i64 x).cells = wnC [a, b, c, x, e, f, g, h] ∧ putR (wnC [a, b, c, d, e, f, g, h]) (4 * 1) (Value.int .i64 x).cells = wnC [a, b, c, d, x, f, g, h] ∧ putR (wnC [a, b, c, d, e, f, g, h]) (5 * 1) (Value.int .i64 x).cells = wnC [a, b, c, d, e, x, g, h] ∧ putR (wnC [a, b, c, d, e, f, g, h]) (6 * 1) (Value.int .i64 x).cells = wnC [a, b, c, d, e, f, x, h] ∧ putR (wnC [a, b, c, d, e, f, g, h]) (7 * 1) (Value.int .i64 x).cells = wnC [a, b, c, d, e, f, g, x] := ⟨rfl, rfl, rfl, rfl, rfl, rfl, rfl, rfl⟩
theorem fill8 {a b c d e f g h : Int} : FilledA 1 zc61 [(0, .int .i64 a), (1, .int .i64 b), (2, .int .i64 c), (3, .int .i64 d), (4, .int .i64 e), (5, .int .i64 f), (6, .int .i64 g), (7, .int .i64 h)] (wnC [a, b, c, d, e, f, g, h]) := by
  rw [wnC_z8]
  unfold z8
  have hs : ∀ l : List Int, l.length = 8 → ∀ i : Nat, i < 8 → i * 1 + 1 ≤ (wnC l).size := fun l hl i hi => by rw [wnC_size hl]; omega
  simp only [FilledA, putR_1.1, putR_1.2.1, putR_1.2.2.1, putR_1.2.2.2.1, putR_1.2.2.2.2.1, putR_1.2.2.2.2.2.1, putR_1.2.2.2.2.2.2.1, putR_1.2.2.2.2.2.2.2]
  exact ⟨rfl, hs _ rfl 0 (by decide), rfl, hs _ rfl 1 (by decide), rfl, hs _ rfl 2 (by decide), rfl, hs _ rfl 3 (by decide), rfl, hs _ rfl 4 (by decide), rfl, hs _ rfl 5 (by decide), rfl, hs _ rfl 6 (by decide), rfl, hs _ rfl 7 (by decide), trivial⟩
instance : TBuildA Tryz.prog 61 zc61 1 := ⟨fun _ => by kernel_rfl⟩
theorem perm_wb1 {α : Type} (X3 X2 X1 S F : List α) : (S ++ (X3 ++ (X2 ++ (X1 ++ F)))).Perm (X3 ++ (X2 ++ (X1 ++ (S ++ F)))) := by
  classical
  rw [List.perm_iff_count]
  intro z
  simp only [List.count_append]
  omega
theorem jn_R : CmR ⟨1, 3, [], 3, 0, (0, 0, 0, 0), 0⟩ := ⟨i64q_of (by decide), i64q_of (by decide), fun b hb => (by cases hb), i64q_of (by decide), i64q_of (by decide), ⟨by decide, by decide, by decide, by decide⟩, i64q_of (by decide)⟩
theorem mv5_R : CmR (mvC 5 (1, [1, 3, 5])) := ⟨i64q_of (by decide), i64q_of (by decide), fun b hb => (by
  simp only [mvC, List.mem_cons, List.not_mem_nil, or_false] at hb
  rcases hb with rfl | rfl | rfl <;> exact i64q_of (by decide)), i64q_of (by decide), i64q_of (by decide), ⟨by decide, by decide, by decide, by decide⟩, i64q_of (by decide)⟩
theorem mv6_R : CmR (mvC 6 (1, [7])) := ⟨i64q_of (by decide), i64q_of (by decide), fun b hb => (by
  simp only [mvC, List.mem_cons, List.not_mem_nil, or_false] at hb
  subst hb
  exact i64q_of (by decide)), i64q_of (by decide), i64q_of (by decide), ⟨by decide, by decide, by decide, by decide⟩, i64q_of (by decide)⟩
attribute [local irreducible] Fn WC WL WR OW Qt YieldFn QW FnP FnD FnE
theorem move_fn10 {a to : Int} {bv : Value} {x : CmV} {ab : Option Addr} {n cb : Nat} (hb : bv = .slice ab n cb) (hx : x = ⟨0, a, x.bins, to, 0, (0, 0, 0, 0), 0⟩) {L : List (Nat × Obj)} : Fn Tryz.prog 91 [iV a, iV to, bv] L (fun v L' => v = .agg (cmC x bv).toArray ∧ L' = L) := by
  subst hb
  rw [hx]
  refine Fn_enter Tryz.func91 rfl Tryz.ntmps91 rfl fun g => ?_
  repeat (first | (refine WL_Q ?_; (first | refine QW_a ?_ | refine QW_of (Qt_ldX rfl (hn := by with_reducible assumption)) ?_ | refine QW_of (Qt_buildA rfl (hf := fill8)) ?_ | refine QW_of (Qt_eqlW rfl) ?_)) | (refine WL_op rfl ?_; (first | refine OW_alloc rfl (hk := fun _ => ?_) | refine OW_stA rfl ?_ | refine OW_stN rfl ?_)) | refine WL_nil ?_ | refine WC_seq ?_ | refine WC_ret ?_ | refine WC_region ?_)
  exact ⟨rfl, _, _, Res1 rfl (resV_cellN (n := 10) rfl 0 rfl rfl), .cons _ (.refl _), rfl, rfl⟩
set_option maxHeartbeats 8000000 in
theorem works10_fn (L : List (Nat × Obj)) : Fn Tryz.prog 30 [] L (fun v L' => v = .bool true ∧ L' = L) := by
  obtain ⟨m1, m2, m3⟩ := exB_moves
  obtain ⟨l1, l2, l3⟩ := exB_level
  have hv0 : StpsAt L (.slice none 0 0) [] := ⟨none, 0, rfl, Nat.le_refl _, Nat.zero_le _, fun j x h => by simp at h⟩
  have hbf : Fn Tryz.prog 31 [.int .u8 2, .int .u8 1, .slice none 0 0] L (fun r L' => ∃ tb rb S F, r = .tuple #[.pointer (some ⟨tb, 0, none⟩), .pointer (some ⟨rb, 0, none⟩)] ∧ L' = S ++ F ∧ L.Sublist F ∧ TabAt tb S F exB) := (both_fn (w := 2) (a := 1) (by decide) (by decide) hv0).mono (by
    rintro r L' ⟨tb, rb, S, G, t, h1, h2, h4, _, _, _, h8⟩
    exact ⟨tb, rb, S, G ++ L, h1, h2, List.sublist_append_right _ _, by rw [← show t = exB from h8 rfl]; exact h4.mem fun q hq => List.mem_append_left _ hq⟩)
  refine Fn_enter Tryz.func30 rfl Tryz.ntmps30 rfl fun g => ?_
  repeat (first | (refine WL_Q ?_; (first | refine QW_a ?_ | refine QW_of (Qt_ldX rfl (hn := by with_reducible assumption)) ?_ | refine QW_of (Qt_buildA rfl (hf := fill8)) ?_ | refine QW_of (Qt_eqlW rfl) ?_)) | (refine WL_op rfl ?_; (first | (refine OW_call rfl (hF := hbf) (hk := ?_); rintro _ _ ⟨tb, rb, S, F, rfl, rfl, hLF, hTab⟩))) | refine WL_nil ?_ | refine WC_seq ?_ | refine WC_cond_t (ht := ?_) | refine WC_cond_f (he := ?_) | refine WC_skip ?_ | refine WC_ret ?_ | refine WG 0 ?_ | refine WG 1 ?_ | refine WG 2 ?_)
  have hT := exB_ok
  have hB0 : ∀ x ∈ exB.cmds, x.bins.length ≤ 1000 := fun x hx => by cases hx
  have hIn : ∀ M : List (Nat × Obj), (∀ q ∈ S ++ F, q ∈ M) → TabIn tb M exB := fun M h => hTab.tabIn (fun q hq => h q (List.mem_append_left _ hq)) (fun q hq => h q (List.mem_append_right _ hq))
  have hM1 : Fn Tryz.prog 36 [.pointer (some ⟨tb, 0, none⟩), .agg (wnC [1, 1, 1, 1, 1, 1, 1, 1]), iV 5, iV 3] (S ++ F) (fun v L' => ∃ X lv lc, L' = X ++ (S ++ F) ∧ v = .tuple #[lv, iV 0] ∧ VecM 10 X lv 2 lc.flatten ∧ CmsAt X lc (mvL 5 [(1, [1, 3, 5]), (1, [7])])) := by
    have := Moves_fn (want := [1, 1, 1, 1, 1, 1, 1, 1]) (a := 5) (most := 3) (hIn _ fun _ h => h) hT hB0 rfl (by decide)
    rw [m1] at this
    exact this
  have hM2 : ∀ M, (∀ q ∈ S ++ F, q ∈ M) → Fn Tryz.prog 36 [.pointer (some ⟨tb, 0, none⟩), .agg (wnC [1, 2, 1, 2, 1, 2, 1, 2]), iV 0, iV 1] M (fun v L' => ∃ X2 lv lc, L' = X2 ++ M ∧ v = .tuple #[lv, iV 0] ∧ VecM 10 X2 lv 0 (List.flatten lc)) := fun M h => by
    have := Moves_fn (want := [1, 2, 1, 2, 1, 2, 1, 2]) (a := 0) (most := 1) (hIn M h) hT hB0 rfl (by decide)
    rw [m2] at this
    exact this.mono fun v L' ⟨X2, lv, lc, h1, h2, h3, _⟩ => ⟨X2, lv, lc, h1, h2, h3⟩
  have hM3 : ∀ M, (∀ q ∈ S ++ F, q ∈ M) → Fn Tryz.prog 36 [.pointer (some ⟨tb, 0, none⟩), .agg (wnC [3, 2, 1, 2, 1, 2, 1, 2]), iV 5, iV 1] M (fun v L' => ∃ X2 lv, L' = X2 ++ M ∧ v = .tuple #[lv, iV 16]) := fun M h => by
    have := Moves_fn (want := [3, 2, 1, 2, 1, 2, 1, 2]) (a := 5) (most := 1) (hIn M h) hT hB0 rfl (by decide)
    rw [m3] at this
    exact this.mono fun v L' ⟨X2, lv, lc, h1, h2, _, _⟩ => ⟨X2, lv, h1, h2⟩
  repeat (first | (refine WL_Q ?_; (first | refine QW_a ?_ | refine QW_of (Qt_ldX rfl (hn := by with_reducible assumption)) ?_ | refine QW_of (Qt_buildA rfl (hf := fill8)) ?_ | refine QW_of (Qt_eqlW rfl) ?_)) | refine WL_nil ?_ | refine WC_seq ?_ | refine WC_cond_t (ht := ?_) | refine WC_cond_f (he := ?_) | refine WC_skip ?_ | refine WC_ret ?_ | refine WG 4 ?_)
  refine WL_op rfl (OW_call rfl (hF := hM1) (hk := ?_))
  rintro _ _ ⟨X1, v3, lc3, rfl, rfl, hV3, hC3⟩
  repeat (first | (refine WL_Q ?_; (first | refine QW_a ?_ | refine QW_of (Qt_ldX rfl (hn := by with_reducible assumption)) ?_ | refine QW_of (Qt_buildA rfl (hf := fill8)) ?_ | refine QW_of (Qt_eqlW rfl) ?_)) | refine WL_nil ?_ | refine WC_seq ?_ | refine WC_cond_t (ht := ?_) | refine WC_cond_f (he := ?_) | refine WC_skip ?_ | refine WC_ret ?_ | refine WG 4 ?_ | refine WG 5 ?_)
  refine WL_op rfl (OW_call rfl (hF := hM2 _ fun q hq => List.mem_append_right _ hq) (hk := ?_))
  rintro _ _ ⟨X2, v5, lc5, rfl, rfl, hV5⟩
  obtain ⟨_, a5, c5, rfl, _⟩ := id hV5
  repeat (first | (refine WL_Q ?_; (first | refine QW_a ?_ | refine QW_of (Qt_ldX rfl (hn := by with_reducible assumption)) ?_ | refine QW_of (Qt_buildA rfl (hf := fill8)) ?_ | refine QW_of (Qt_eqlW rfl) ?_)) | refine WL_nil ?_ | refine WC_seq ?_ | refine WC_cond_t (ht := ?_) | refine WC_cond_f (he := ?_) | refine WC_skip ?_ | refine WC_ret ?_ | refine WG 5 ?_ | refine WG 6 ?_)
  refine WL_op rfl (OW_call rfl (hF := hM3 _ fun q hq => List.mem_append_right _ (List.mem_append_right _ hq)) (hk := ?_))
  rintro _ _ ⟨X3, v7, rfl, rfl⟩
  repeat (first | (refine WL_Q ?_; (first | refine QW_a ?_ | refine QW_of (Qt_ldX rfl (hn := by with_reducible assumption)) ?_ | refine QW_of (Qt_buildA rfl (hf := fill8)) ?_ | refine QW_of (Qt_eqlW rfl) ?_)) | refine WL_nil ?_ | refine WC_seq ?_ | refine WC_cond_t (ht := ?_) | refine WC_cond_f (he := ?_) | refine WC_skip ?_ | refine WC_ret ?_ | refine WG 6 ?_)
  refine WC_wk [(8, iV 16), (6, iV 0), (5, .slice a5 0 c5), (4, iV 0), (3, v3), (1, .pointer (some ⟨tb, 0, none⟩))] ⟨rfl, rfl, rfl, rfl, rfl, rfl, trivial⟩ ?_
  obtain ⟨F1, hF1⟩ : ∃ F1, F1 = X3 ++ (X2 ++ (X1 ++ F)) := ⟨_, rfl⟩
  have hFF1 : F.Sublist F1 := by rw [hF1]; exact (List.sublist_append_right X1 F).trans ((List.sublist_append_right X2 _).trans (List.sublist_append_right X3 _))
  have hX1F : ∀ q ∈ X1, q ∈ F1 := fun q hq => by rw [hF1]; exact List.mem_append_right _ (List.mem_append_right _ (List.mem_append_left _ hq))
  refine WC_permT (L' := S ++ F1) (by rw [hF1]; exact perm_wb1 ..) ?_
  have hTab1 : TabAt tb S F1 exB := hTab.mem fun q hq => hFF1.mem hq
  have hlv := Level_fn (hTab1.tabIn (L := S ++ F1) (fun q hq => List.mem_append_left _ hq) (fun q hq => List.mem_append_right _ hq)) hT
  rw [l1] at hlv
  have hsz : (wnC [1, 2, 1, 2, 1, 2, 1, 2]).size = 8 := rfl
  have hall := wnC_all (want := [1, 2, 1, 2, 1, 2, 1, 2])
  repeat (first | (refine WL_Q ?_; (first | refine QW_a ?_ | refine QW_of (Qt_ldX rfl (hn := by with_reducible assumption)) ?_ | refine QW_of (Qt_buildA rfl (hf := fill8)) ?_ | refine QW_of (Qt_eqlW rfl) ?_)) | (refine WL_op rfl ?_; (first | refine OW_alloc rfl (hk := fun _ => ?_) | refine OW_stA rfl ?_ | refine OW_stN rfl ?_ | refine OW_callP rfl (hF := hlv) (hk := ?_))) | refine WL_nil ?_ | refine WC_seq ?_ | refine WC_cond_t (ht := ?_) | refine WC_cond_f (he := ?_) | refine WC_skip ?_ | refine WC_ret ?_ | refine WG 7 ?_ | refine WG 8 ?_)
  rename_i x9
  refine WL_permT (L' := S ++ ((x9, Obj.cells (wnC [1, 2, 1, 2, 1, 2, 1, 2]) 61 (0, 0)) :: F1)) List.perm_middle ?_
  refine WL_op rfl (OW_call rfl (hF := step_fn (F := (x9, Obj.cells (wnC [1, 2, 1, 2, 1, 2, 1, 2]) 61 (0, 0)) :: F1) (c := ⟨1, 3, [], 3, 0, (0, 0, 0, 0), 0⟩) (bv := .slice none 0 0) (floor := 0) hT hTab1 (fun q hq => .tail _ hq) (VecM.nil _ _) jn_R (by decide)) (hk := ?_))
  rintro _ _ ⟨rfl, S1, X4, rfl, hTab2⟩
  have hTab2 : TabAt tb S1 (X4 ++ F1) exB2 := hTab2
  have hT2 : TbOk exB2 := stepF_ok hT
  rw [l2]
  obtain ⟨M, hM⟩ : ∃ M, M = S1 ++ (X4 ++ (x9, Obj.cells (wnC [1, 2, 1, 2, 1, 2, 1, 2]) 61 (0, 0)) :: F1) := ⟨_, rfl⟩
  have hFM : F1.Sublist M := by rw [hM]; exact (List.Sublist.cons _ (.refl _)).trans ((List.sublist_append_right X4 _).trans (List.sublist_append_right S1 _))
  have hIn2 : TabIn tb M exB2 := by
    rw [hM]
    exact hTab2.tabIn (fun q hq => List.mem_append_left _ hq) (fun q hq => by
      rcases List.mem_append.1 hq with h | h
      · exact List.mem_append_right _ (List.mem_append_left _ h)
      · exact List.mem_append_right _ (List.mem_append_right _ (.tail _ h)))
  have h9M : (x9, Obj.cells (wnC [1, 2, 1, 2, 1, 2, 1, 2]) 61 (0, 0)) ∈ M := by rw [hM]; exact List.mem_append_right _ (List.mem_append_right _ (.head _))
  have hLM : L.Sublist M := hLF.trans (hFF1.trans hFM)
  have hV3M := hV3.mem (G' := M) fun q hq => hFM.mem (hX1F q hq)
  have hC3M := hC3.mem (G' := M) fun q hq => hFM.mem (hX1F q hq)
  rw [← hM]
  clear hM
  repeat (first | ((first | refine WL_Q ?_ | refine WL_Y ?_); (first | refine QW_a ?_ | refine QW_of (Qt_ldX rfl (hn := by with_reducible assumption)) ?_ | refine QW_of (Qt_buildA rfl (hf := fill8)) ?_ | refine QW_of (Qt_eqlW rfl) ?_)) | ((first | refine WL_op rfl ?_ | refine WL_yes (h := ?_)); (first | refine OW_build1 rfl (hk := fun _ => ?_) | refine OW_callP rfl (hF := hlv) (hk := ?_))) | refine WL_nil ?_ | refine WL_un (h := ?_) | refine WL_N ?_ | refine WL_M ?_ | refine WC_seq ?_ | refine WC_cond_t (ht := ?_) | refine WC_cond_f (he := ?_) | refine WC_skip ?_ | refine WC_ret ?_ | refine WG 8 ?_ | refine WG 9 ?_)
  refine WL_yes rfl rfl rfl rfl rfl (OW_buildS rfl (hk := ?_))
  intro xa
  repeat (first | ((first | refine WL_Q ?_ | refine WL_Y ?_); (first | refine QW_a ?_ | refine QW_of (Qt_ldX rfl (hn := by with_reducible assumption)) ?_ | refine QW_of (Qt_buildA rfl (hf := fill8)) ?_ | refine QW_of (Qt_eqlW rfl) ?_)) | ((first | refine WL_op rfl ?_ | refine WL_yes (h := ?_)); (first | refine OW_build1 rfl (hk := fun _ => ?_) | refine OW_callP rfl (hF := hlv) (hk := ?_) | refine OW_callP rfl (hF := move_fn10 (x := mvC 5 (1, [1, 3, 5])) rfl rfl) (hk := ?_))) | refine WL_nil ?_ | refine WL_un (h := ?_) | refine WL_N ?_ | refine WL_M ?_ | refine WC_seq ?_ | refine WC_cond_t (ht := ?_) | refine WC_cond_f (he := ?_) | refine WC_skip ?_ | refine WC_ret ?_ | refine WG 9 ?_)
  rename_i xb
  repeat (first | ((first | refine WL_Q ?_ | refine WL_Y ?_); (first | refine QW_a ?_ | refine QW_of (Qt_ldX rfl (hn := by with_reducible assumption)) ?_ | refine QW_of (Qt_buildA rfl (hf := fill8)) ?_ | refine QW_of (Qt_eqlW rfl) ?_)) | ((first | refine WL_op rfl ?_ | refine WL_yes (h := ?_)); (first | refine OW_build1 rfl (hk := fun _ => ?_) | refine OW_callP rfl (hF := hlv) (hk := ?_) | refine OW_callP rfl (hF := move_fn10 (x := mvC 6 (1, [7])) rfl rfl) (hk := ?_))) | refine WL_nil ?_ | refine WL_un (h := ?_) | refine WL_N ?_ | refine WL_M ?_ | refine WC_seq ?_ | refine WC_cond_t (ht := ?_) | refine WC_cond_f (he := ?_) | refine WC_skip ?_ | refine WC_ret ?_ | refine WG 9 ?_)
  refine WL_yes rfl rfl rfl rfl rfl (OW_buildS rfl (hk := ?_))
  intro xc
  refine WL_permT (L' := (xc, Obj.cells (cmC (mvC 5 (1, [1, 3, 5])) (.slice (some ⟨xa, 0, none⟩) 3 3) ++ cmC (mvC 6 (1, [7])) (.slice (some ⟨xb, 0, none⟩) 1 1)).toArray 42 (0, 0)) :: (xb, Obj.cells #[iV 7] 3 (0, 0)) :: (xa, Obj.cells #[iV 1, iV 3, iV 5] 3 (0, 0)) :: M) (.refl _) ?_
  obtain ⟨N, hN⟩ : ∃ N, N = (xc, Obj.cells (cmC (mvC 5 (1, [1, 3, 5])) (.slice (some ⟨xa, 0, none⟩) 3 3) ++ cmC (mvC 6 (1, [7])) (.slice (some ⟨xb, 0, none⟩) 1 1)).toArray 42 (0, 0)) :: (xb, Obj.cells #[iV 7] 3 (0, 0)) :: (xa, Obj.cells #[iV 1, iV 3, iV 5] 3 (0, 0)) :: M := ⟨_, rfl⟩
  have hMN : M.Sublist N := by rw [hN]; exact .cons _ (.cons _ (.cons _ (.refl _)))
  have hVa : VecM 1 N (.slice (some ⟨xa, 0, none⟩) 3 3) 3 ([1, 3, 5].map iV) := ⟨rfl, _, 3, rfl, Nat.le_refl _, by decide, .inr ⟨xa, 0, _, _, _, rfl, by rw [hN]; exact .tail _ (.tail _ (.head _)), fun j x hj => by rw [Nat.zero_add]; simpa using hj⟩⟩
  have hVb : VecM 1 N (.slice (some ⟨xb, 0, none⟩) 1 1) 1 ([7].map iV) := ⟨rfl, _, 1, rfl, Nat.le_refl _, by decide, .inr ⟨xb, 0, _, _, _, rfl, by rw [hN]; exact .tail _ (.head _), fun j x hj => by rw [Nat.zero_add]; simpa using hj⟩⟩
  have hVc : VecM 10 N (.slice (some ⟨xc, 0, none⟩) 2 2) 2 (List.flatten [cmC (mvC 5 (1, [1, 3, 5])) (.slice (some ⟨xa, 0, none⟩) 3 3), cmC (mvC 6 (1, [7])) (.slice (some ⟨xb, 0, none⟩) 1 1)]) := ⟨rfl, _, 2, rfl, Nat.le_refl _, by decide, .inr ⟨xc, 0, _, _, _, rfl, by rw [hN]; exact .head _, fun j x hj => by rw [Nat.zero_add]; simpa using hj⟩⟩
  have hCc : CmsAt N [cmC (mvC 5 (1, [1, 3, 5])) (.slice (some ⟨xa, 0, none⟩) 3 3), cmC (mvC 6 (1, [7])) (.slice (some ⟨xb, 0, none⟩) 1 1)] (mvL 5 [(1, [1, 3, 5]), (1, [7])]) := ⟨⟨_, rfl, hVa, mv5_R⟩, ⟨_, rfl, hVb, mv6_R⟩, trivial⟩
  have hV3N := hV3M.mem (G' := N) fun q hq => hMN.mem hq
  have hC3N := hC3M.mem (G' := N) fun q hq => hMN.mem hq
  have hInN := hIn2.mem (L' := N) fun q hq => hMN.mem hq
  have hlv2 := Level_fn hInN hT2
  rw [l3] at hlv2
  obtain ⟨i9, hi9⟩ := List.mem_iff_getElem?.1 (hMN.mem h9M)
  have hLN := hLM.trans hMN
  have e2 : decide (([1, 2, 1, 2, 1, 2, 1, 2] : List Int) = [1, 2, 1, 2, 1, 2, 1, 2]) = true := by decide
  have e3 : decide (([1, 2, 1, 2, 1, 2, 3, 3] : List Int) = [1, 2, 1, 2, 1, 2, 3, 3]) = true := by decide
  rw [← hN]
  clear hN
  repeat (first | ((first | refine WL_Q ?_ | refine WL_Y ?_); (first | refine QW_a ?_ | refine QW_of (Qt_ldX rfl (hn := by with_reducible assumption)) ?_ | refine QW_of (Qt_buildA rfl (hf := fill8)) ?_ | refine QW_of (Qt_eqlW rfl) ?_)) | ((first | refine WL_op rfl ?_ | refine WL_yes (h := ?_)); (first | refine OW_build1 rfl (hk := fun _ => ?_) | refine OW_callP rfl (hF := move_fn10 (x := mvC 6 (1, [7])) rfl rfl) (hk := ?_) | refine OW_callP rfl (hF := hlv2) (hk := ?_) | refine OW_callP rfl (hF := same_fn (l := mvL 5 [(1, [1, 3, 5]), (1, [7])]) hV3N hC3N hVc hCc) (hk := ?_))) | refine WL_nil ?_ | refine WL_un (h := ?_) | refine WL_N ?_ | refine WL_M ?_ | refine WC_seq ?_ | refine WC_cond_t (ht := ?_) | refine WC_cond_f (he := ?_) | refine WC_skip ?_ | refine WC_ret ?_ | refine WG 9 ?_)
  exact ⟨rfl, _, _, Res1 rfl (resV_tmp rfl), hLN, by first | rfl | rw [e3], rfl⟩
end Go.Proofs.YtncgndcepoicbaaGreat
namespace Go.Proofs.YtncgndcepoicbaaGreat
open Go.RowKit
theorem stps_mem {L L' : List (Nat × Obj)} {v : Value} {l : List StpV} (h : StpsAt L v l) (hs : ∀ q ∈ L, q ∈ L') : StpsAt L' v l := by
  obtain ⟨a, cap, e, h1, h2, h3⟩ := h
  exact ⟨a, cap, e, h1, h2, fun j x hj => by
    obtain ⟨q, off, cur, E, fr, e1, e2, e3⟩ := h3 j x hj
    exact ⟨q, off, cur, E, fr, e1, hs _ e2, e3⟩⟩
theorem perm_bb3 {α : Type} (X S A : List α) : (S ++ (X ++ A)).Perm (X ++ (S ++ A)) := by
  classical
  rw [List.perm_iff_count]
  intro z
  simp only [List.count_append]
  omega
theorem wnC_get {ls : List Int} {i : Nat} {x : Int} (h : ls[i]? = some x) : (wnC ls)[i * 1]? = some (iV x) := by
  rw [Nat.mul_one, wnC, List.getElem?_toArray, List.getElem?_map, h]; rfl
theorem wnC_len (ls : List Int) : (wnC ls).size = ls.length := by simp [wnC]
theorem b8_at {i : Nat} (h : i < 8) : b8[i]? = some (i : Int) := by
  have h2 : ∀ k : Nat, k < 8 → b8[k]? = some (k : Int) := by decide
  exact h2 i h
attribute [local irreducible] Fn WC WL WR OW Qt YieldFn QW FnP FnD FnE wnC
end Go.Proofs.YtncgndcepoicbaaGreat
