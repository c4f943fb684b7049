/-
  A part of what the last of these texts needs; by itself it proves no statement.
-/
import Derived.Test.YtncgndcepoicbaaGreatKL182
namespace Go.Proofs.YtncgndcepoicbaaGreat
open Go.RowKit
def LeftAt (ps : List (Int × Value)) (q : Int → Int) : Prop := ∀ w, (aGet ps w).getD (iV 0) = iV (q w)
theorem LeftAt.put {ps : List (Int × Value)} {q : Int → Int} (h : LeftAt ps q) (w x : Int) : LeftAt (aPut ps w (iV x)) (upF q w x) := fun y => by
  rw [aGet_put]
  unfold upF
  by_cases hy : y = w
  · rw [if_pos hy, if_pos hy]; rfl
  · rw [if_neg hy, if_neg hy]; exact h y
theorem wnC_set {out : List Int} {b w : Int} : (wnC out).setIfInBounds (b.toNat * 1) (iV w) = wnC (out.set b.toNat w) := by
  rw [Nat.mul_one]
  unfold wnC
  rw [List.map_set]
  simp
abbrev lvL (x2 x5 xm : Nat) (out : List Int) (es : Array MapEntry) (cl : Nat) (F : List (Nat × Obj)) : List (Nat × Obj) := (x2, Obj.cells (wnC out) 61 (0, 0)) :: (x5, Obj.cells #[.map (some xm)] 172 (0, 0)) :: (xm, Obj.map es cl) :: F
def z8 : List Int := [0, 0, 0, 0, 0, 0, 0, 0]
theorem pln_build0 {tb : Nat} : putR zc168 0 (Value.pointer (some ⟨tb, 0, none⟩)).cells = plnC tb z8 := rfl
theorem wnC_z8 : zc61 = wnC z8 := rfl
attribute [local irreducible] Fn WC WL WR OW Qt YieldFn QW FnP FnD FnE plnC wnC
set_option maxHeartbeats 4000000 in
theorem take_fn {x2 x5 xm cl : Nat} {es : Array MapEntry} {ps : List (Int × Value)} {q : Int → Int} {out : List Int} {b w : Int} {F : List (Nat × Obj)} (hmp : MapI .i64 es cl ps) (hq : LeftAt ps q) (hr : 0 ≤ q w ∧ q w ≤ 100) (ho : out.length = 8) (hb : 0 ≤ b ∧ b < 8) :
    Fn Tryz.prog 97 [iV b, iV w, .pointer (some ⟨x5, 0, none⟩), .pointer (some ⟨x2, 0, none⟩)] (lvL x2 x5 xm out es cl F) (fun v L' => v = .bool (decide (0 < q w)) ∧ ∃ es' cl' ps', MapI .i64 es' cl' ps' ∧ LeftAt ps' (if 0 < q w then upF q w (q w - 1) else q) ∧ L' = lvL x2 x5 xm (if 0 < q w then out.set b.toNat w else out) es' cl' F) := by
  obtain ⟨hb0, hb8⟩ := id hb
  have hsz := wnC_size ho
  have hb1 : b.toNat * 1 < (wnC out).size := by rw [hsz]; omega
  have hz := hq w
  refine Fn_enter Tryz.func97 rfl Tryz.ntmps97 rfl fun g => ?_
  repeat (first | (refine WL_Q ?_; (first | refine QW_a ?_ | refine QW_of (Qt_ldX rfl (hn := by with_reducible assumption)) ?_ | refine QW_of (Qt_lookup rfl (i := 2) rfl hmp.ents) ?_)) | refine WL_nil ?_ | refine WC_seq ?_ | refine WC_cond_t (ht := ?_) | refine WC_cond_f (he := ?_) | refine WC_skip ?_ | refine WC_ret ?_ | refine WG 0 ?_ | refine WG 1 ?_)
  rw [hz]
  by_cases hp : 0 < q w
  · have d1 : decide (q w > 0) = true := decide_eq_true hp
    have ww : IntKind.i64.wrap (q w - 1) = q w - 1 := wI64 (by omega) (by omega)
    rw [if_pos hp, if_pos hp]
    repeat (first | (refine WL_Q ?_; (first | refine QW_a ?_ | refine QW_of (Qt_ldX rfl (hn := by with_reducible assumption)) ?_ | refine QW_of (Qt_lookup rfl (i := 2) rfl hmp.ents) ?_)) | (refine WL_op rfl ?_; (first | refine OW_st1 rfl ?_)) | refine WL_nil ?_ | refine WC_seq ?_ | refine WC_cond_t (ht := ?_) | refine WC_cond_f (he := ?_) | refine WC_skip ?_ | refine WC_ret ?_ | refine WG 1 ?_ | refine WG 2 ?_ | refine WG 3 ?_ | refine WG 4 ?_)
    rw [hz, wnC_set]
    repeat (first | (refine WL_Q ?_; (first | refine QW_a ?_ | refine QW_of (Qt_ldX rfl (hn := by with_reducible assumption)) ?_ | refine QW_of (Qt_lookup rfl (i := 2) rfl hmp.ents) ?_)) | refine WL_nil ?_ | refine WC_seq ?_ | refine WC_cond_t (ht := ?_) | refine WC_cond_f (he := ?_) | refine WC_skip ?_ | refine WC_ret ?_ | refine WG 4 ?_)
    rw [ww]
    refine WL_op rfl (OW_mapPut rfl rfl rfl rfl (i := 2) rfl hmp ?_)
    intro es' cl' hmp'
    simp only [List.set_cons_succ, List.set_cons_zero]
    repeat (first | (refine WL_Q ?_; (first | refine QW_a ?_ | refine QW_of (Qt_ldX rfl (hn := by with_reducible assumption)) ?_ | refine QW_of (Qt_lookup rfl (i := 2) rfl hmp.ents) ?_)) | refine WL_nil ?_ | refine WC_seq ?_ | refine WC_cond_t (ht := ?_) | refine WC_cond_f (he := ?_) | refine WC_skip ?_ | refine WC_ret ?_ | refine WG 4 ?_ | refine WG 5 ?_)
    exact ⟨rfl, _, _, Res1 rfl (resV_tmp rfl), .refl _, rfl, es', cl', _, hmp', hq.put w _, rfl⟩
  · have d1 : decide (q w > 0) = false := decide_eq_false hp
    rw [if_neg hp, if_neg hp]
    repeat (first | (refine WL_Q ?_; (first | refine QW_a ?_ | refine QW_of (Qt_ldX rfl (hn := by with_reducible assumption)) ?_ | refine QW_of (Qt_lookup rfl (i := 2) rfl hmp.ents) ?_)) | refine WL_nil ?_ | refine WC_seq ?_ | refine WC_cond_t (ht := ?_) | refine WC_cond_f (he := ?_) | refine WC_skip ?_ | refine WC_ret ?_ | refine WG 1 ?_ | refine WG 2 ?_ | refine WG 5 ?_)
    exact ⟨rfl, _, _, Res1 rfl (resV_tmp rfl), .refl _, rfl, es, cl, ps, hmp, hq, rfl⟩
abbrev tkV (x5 x2 : Nat) : Value := .func (.func 97) #[] #[.pointer (some ⟨x5, 0, none⟩), .pointer (some ⟨x2, 0, none⟩)]
set_option maxHeartbeats 4000000 in
theorem homeless_fn {tb x2 x5 xm x8 x3 cl : Nat} {t : TbV} {es : Array MapEntry} {ps : List (Int × Value)} {q : Int → Int} {out : List Int} {b : Int} {G : List (Nat × Obj)} (h : TabIn tb G t) (hT : TbOk t) (h8 : (x8, Obj.cells #[tkV x5 x2] 173 (0, 0)) ∈ G) (h3 : (x3, Obj.cells (plnC tb z8) 168 (0, 0)) ∈ G) (hmp : MapI .i64 es cl ps) (hq : LeftAt ps q) (hr : ∀ w, 0 ≤ q w ∧ q w ≤ 100) (ho : out.length = 8) (hb : 0 ≤ b ∧ b < 8) :
    Fn Tryz.prog 99 [iV b, .pointer (some ⟨x8, 0, none⟩), .pointer (some ⟨x3, 0, none⟩)] (lvL x2 x5 xm out es cl G) (fun v L' => v = .bool (!decide (0 < q (hasF t.spans b))) ∧ ∃ es' cl' ps', MapI .i64 es' cl' ps' ∧ LeftAt ps' (if 0 < q (hasF t.spans b) then upF q (hasF t.spans b) (q (hasF t.spans b) - 1) else q) ∧ L' = lvL x2 x5 xm (if 0 < q (hasF t.spans b) then out.set b.toNat (hasF t.spans b) else out) es' cl' G) := by
  have hGL : ∀ q ∈ G, q ∈ lvL x2 x5 xm out es cl G := fun q hq => .tail _ (.tail _ (.tail _ hq))
  obtain ⟨i8, hi8⟩ := List.mem_iff_getElem?.1 h8
  obtain ⟨i3, hi3⟩ := List.mem_iff_getElem?.1 h3
  have hsz := plnC_size (tb := tb) (want := z8) rfl
  have hall := plnC_all (tb := tb) (want := z8)
  have hph := phas_fn (want := z8) (b := b) (h.mem hGL) hT rfl
  rw [own_has hT hb] at hph
  refine Fn_enter Tryz.func99 rfl Tryz.ntmps99 rfl fun g => ?_
  repeat (first | (refine WL_Q ?_; (first | refine QW_a ?_ | refine QW_of (Qt_ldX rfl (hn := by with_reducible assumption)) ?_ | refine QW_of (Qt_lookup rfl (i := 2) rfl hmp.ents) ?_)) | refine WL_nil ?_ | refine WC_seq ?_ | refine WC_ret ?_ | refine WG 0 ?_)
  refine WC_draw_sub (id := 1) 8 (Cs [0,1,2,3] <| .must 4 <| .must 5 <| Cs [6,7] <| .done) mixed (by kernel_rfl) (.cons _ (.cons _ (.cons _ (.refl _)))) ?_
  repeat (first | (refine RX ?_; (first | refine QW_a ?_ | refine QW_of (Qt_ldX rfl (hn := by with_reducible assumption)) ?_ | refine QW_of (Qt_lookup rfl (i := 2) rfl hmp.ents) ?_)) | ((first | refine WL_op rfl ?_ | refine WR_late rfl rfl rfl ?_ | refine WR_op rfl rfl ?_); (first | refine OW_callP rfl (hF := hph) (hk := ?_)); try refine ⟨(by first | exact fun _ h => h | exact sub_mem (by repeat (first | exact .refl _ | exact List.nil_sublist _ | exact List.sublist_append_right _ _ | exact List.Sublist.append (.refl _) (List.sublist_append_right _ _) | apply List.Sublist.cons_cons | apply List.Sublist.cons))), ?_⟩) | refine WL_nil ?_ | refine WR_nil ?_ | refine WC_seq ?_ | refine WC_ret ?_ | refine WC_draw_all (id := 1) 8 (Cs [0,1,2,3] <| .must 4 <| .must 5 <| Cs [6,7] <| .done) mixed (by kernel_rfl) ?_)
  refine WR_op rfl rfl (OW_callv rfl rfl rfl rfl rfl (take_fn hmp hq (hr _) ho hb) ?_)
  rintro _ _ ⟨rfl, es', cl', ps', hmp', hq', rfl⟩
  refine ⟨fun q hq => .tail _ (.tail _ (.tail _ hq)), ?_⟩
  repeat (first | (refine RX ?_; (first | refine QW_a ?_ | refine QW_of (Qt_ldX rfl (hn := by with_reducible assumption)) ?_ | refine QW_of (Qt_lookup rfl (i := 2) rfl hmp.ents) ?_)) | ((first | refine WL_op rfl ?_ | refine WR_late rfl rfl rfl ?_ | refine WR_op rfl rfl ?_); (first | refine OW_callP rfl (hF := hph) (hk := ?_)); try refine ⟨(by first | exact fun _ h => h | exact sub_mem (by repeat (first | exact .refl _ | exact List.nil_sublist _ | exact List.sublist_append_right _ _ | exact List.Sublist.append (.refl _) (List.sublist_append_right _ _) | apply List.Sublist.cons_cons | apply List.Sublist.cons))), ?_⟩) | refine WL_nil ?_ | refine WR_nil ?_ | refine WC_seq ?_ | refine WC_ret ?_ | refine WC_draw_all (id := 1) 8 (Cs [0,1,2,3] <| .must 4 <| .must 5 <| Cs [6,7] <| .done) mixed (by kernel_rfl) ?_)
  exact ⟨rfl, _, _, Res1 rfl (resV_tmp rfl), .refl _, rfl, es', cl', ps', hmp', hq', rfl⟩
theorem perm_lv {α : Type} (a b c : α) (X F : List α) : (a :: b :: c :: (X ++ F)).Perm (X ++ a :: b :: c :: F) := by
  classical
  rw [List.perm_iff_count]
  intro z
  simp only [List.count_append, List.count_cons]
  omega
theorem perm_lv2 {α : Type} (x2 x3 x5 xm : α) (T L : List α) : (x2 :: x5 :: xm :: (T ++ x3 :: L)).Perm (x5 :: xm :: (T ++ x3 :: x2 :: L)) := by
  classical
  rw [List.perm_iff_count]
  intro z
  simp only [List.count_append, List.count_cons]
  omega
theorem perm_lv3 {α : Type} (x2 x5 xm x8 : α) (G : List α) : (x2 :: x5 :: xm :: x8 :: G).Perm (x8 :: x2 :: x5 :: xm :: G) := by
  classical
  rw [List.perm_iff_count]
  intro z
  simp only [List.count_cons]
  omega
theorem quo_w {n i : Nat} (h1 : 1 ≤ n) (h3 : n ≤ 3) (hi : i < n) : IntKind.i64.wrap ((IntKind.i64.wrap (IntKind.i64.wrap (IntKind.i64.wrap (8 + (n : Int)) - 1) - (i : Int))).tdiv (n : Int)) = (8 + (n : Int) - 1 - i) / n := by
  have : n = 1 ∨ n = 2 ∨ n = 3 := by omega
  rcases this with rfl | rfl | rfl
  · obtain rfl : i = 0 := by omega
    decide
  · have : i = 0 ∨ i = 1 := by omega
    rcases this with rfl | rfl <;> decide
  · have : i = 0 ∨ i = 1 ∨ i = 2 := by omega
    rcases this with rfl | rfl | rfl <;> decide
set_option maxHeartbeats 4000000 in
theorem Level_fn {tb : Nat} {t : TbV} {L : List (Nat × Obj)} (h : TabIn tb L t) (hT : TbOk t) : Fn Tryz.prog 38 [.pointer (some ⟨tb, 0, none⟩)] L (fun v L' => v = .agg (wnC (levelF t.act (b8.map (hasF t.spans)))) ∧ L' = L) := by
  have hsz := plnC_size (tb := tb) (want := z8) rfl
  have hall := plnC_all (tb := tb) (want := z8)
  have hp0 := plnC_0 (tb := tb) (want := z8)
  refine Fn_enter Tryz.func38 rfl Tryz.ntmps38 rfl fun g => ?_
  repeat (first | (refine WL_Q ?_; (first | refine QW_a ?_ | refine QW_of (Qt_ldX rfl (hn := by with_reducible assumption)) ?_ | refine QW_of (Qt_lookup rfl (i := 2) rfl hmp.ents) ?_)) | (refine WL_op rfl ?_; (first | refine OW_alloc rfl (hk := fun _ => ?_) | refine OW_stA rfl ?_ | refine OW_stN rfl ?_)) | refine WL_nil ?_ | refine WC_seq ?_ | refine WC_block ?_ | refine WC_cond_t (ht := ?_) | refine WC_cond_f (he := ?_) | refine WC_skip ?_ | refine WC_ret ?_ | refine WC_exit ?_ | refine WG 0 ?_ | refine WG 1 ?_ | refine WG 3 ?_)
  rw [pln_build0]
  repeat (first | (refine WL_Q ?_; (first | refine QW_a ?_ | refine QW_of (Qt_ldX rfl (hn := by with_reducible assumption)) ?_ | refine QW_of (Qt_lookup rfl (i := 2) rfl hmp.ents) ?_)) | (refine WL_op rfl ?_; (first | refine OW_alloc rfl (hk := fun _ => ?_) | refine OW_stA rfl ?_ | refine OW_stN rfl ?_ | (refine OW_call rfl (hF := active_fn (h.mem fun q hq => .tail _ (.tail _ hq)) (by have := hT.few3; omega)) (hk := ?_); rintro v4 _ ⟨Ta, rfl, hTa⟩))) | refine WL_nil ?_ | refine WC_seq ?_ | refine WC_block ?_ | refine WC_cond_t (ht := ?_) | refine WC_cond_f (he := ?_) | refine WC_skip ?_ | refine WC_ret ?_ | refine WC_exit ?_ | refine WG 3 ?_ | refine WG 4 ?_)
  rename_i x2 x3
  obtain ⟨_, a, cap, rfl, hac, hmx, _⟩ := Buf.vecM hTa
  repeat (first | (refine WL_Q ?_; (first | refine QW_a ?_ | refine QW_of (Qt_ldX rfl (hn := by with_reducible assumption)) ?_ | refine QW_of (Qt_lookup rfl (i := 2) rfl hmp.ents) ?_)) | (refine WL_op rfl ?_; (first | (refine OW_call rfl (hF := active_fn (h.mem fun q hq => .tail _ (.tail _ hq)) (by have := hT.few3; omega)) (hk := ?_); rintro v4 _ ⟨Ta, rfl, hTa⟩))) | refine WL_nil ?_ | refine WC_seq ?_ | refine WC_block ?_ | refine WC_cond_t (ht := ?_) | refine WC_cond_f (he := ?_) | refine WC_skip ?_ | refine WC_ret ?_ | refine WC_exit ?_ | refine WG 4 ?_)
  have h3 := hT.few3
  refine WC_region ?_
  refine WL_op rfl (OW_makeMap rfl fun xm => ?_)
  repeat (first | (refine WL_Q ?_; (first | refine QW_a ?_ | refine QW_of (Qt_ldX rfl (hn := by with_reducible assumption)) ?_ | refine QW_of (Qt_lookup rfl (i := 2) rfl hmp.ents) ?_)) | (refine WL_op rfl ?_; (first | refine OW_alloc rfl (hk := fun _ => ?_) | refine OW_st1 rfl ?_)) | refine WL_nil ?_ | refine WC_seq ?_ | refine WC_block ?_ | refine WC_cond_t (ht := ?_) | refine WC_cond_f (he := ?_) | refine WC_skip ?_ | refine WC_ret ?_ | refine WC_exit ?_ | refine WG 5 ?_)
  rename_i x5
  obtain ⟨G, hG⟩ : ∃ G, G = Ta ++ (x3, Obj.cells (plnC tb z8) 168 (0, 0)) :: L := ⟨_, rfl⟩
  have hLG : L.Sublist G := by rw [hG]; exact (List.Sublist.cons _ (.refl _)).trans (List.sublist_append_right Ta _)
  have hInG : TabIn tb G t := h.mem fun q hq => hLG.mem hq
  have hTaG : VecM 1 G (.slice a t.act.length cap) t.act.length (t.act.map iV) := (Buf.vecM hTa).mem fun q hq => by rw [hG]; exact List.mem_append_left _ hq
  have h3G : (x3, Obj.cells (plnC tb z8) 168 (0, 0)) ∈ G := by rw [hG]; exact List.mem_append_right _ (.head _)
  refine WC_permT (L' := lvL x2 x5 xm z8 #[] 0 G) (by rw [hG]; unfold lvL; rw [← wnC_z8]; exact perm_lv2 ..) ?_
  clear hG
  repeat (first | (refine WL_Q ?_; (first | refine QW_a ?_ | refine QW_of (Qt_ldX rfl (hn := by with_reducible assumption)) ?_ | refine QW_of (Qt_lookup rfl (i := 2) rfl hmp.ents) ?_)) | refine WL_nil ?_ | refine WC_seq ?_ | refine WC_block ?_ | refine WC_cond_t (ht := ?_) | refine WC_cond_f (he := ?_) | refine WC_skip ?_ | refine WC_ret ?_ | refine WC_exit ?_ | refine WG 6 ?_)
  refine WC_wk [(25, iV ((0 : Nat) : Int)), (24, iV (t.act.length : Nat)), (23, .slice a t.act.length cap), (4, .slice a t.act.length cap), (5, .pointer (some ⟨x5, 0, none⟩)), (3, .pointer (some ⟨x3, 0, none⟩)), (2, .pointer (some ⟨x2, 0, none⟩))] ⟨rfl, rfl, rfl, rfl, rfl, rfl, rfl, trivial⟩ ?_
  refine WC_loop (fun m σ => ∃ (k : Nat) (es : Array MapEntry) (cl : Nat) (ps : List (Int × Value)), m = t.act.length - k ∧ k ≤ t.act.length ∧ MapI .i64 es cl ps ∧ LeftAt ps (quoN t.act.length 0 (t.act.take k)) ∧ σ = ⟨[(25, iV (k : Int)), (24, iV (t.act.length : Nat)), (23, .slice a t.act.length cap), (4, .slice a t.act.length cap), (5, .pointer (some ⟨x5, 0, none⟩)), (3, .pointer (some ⟨x3, 0, none⟩)), (2, .pointer (some ⟨x2, 0, none⟩))], [], lvL x2 x5 xm z8 es cl G⟩) t.act.length ⟨0, #[], 0, [], rfl, Nat.zero_le _, MapI.empty _, fun w => rfl, rfl⟩ ?_
  rintro _ σ ⟨k, es, cl, ps, rfl, hk, hmp, hq, rfl⟩
  have hVA : ∀ (out : List Int) (es : Array MapEntry) (cl : Nat) (i : Nat) (w : Int), t.act[i]? = some w → ∃ (b off : Nat) (cs : Array Value) (E : TypeId) (fr : Nat × Nat) (j : Nat), a = some ⟨b, off, none⟩ ∧ (lvL x2 x5 xm out es cl G)[j]? = some (b, Obj.cells cs E fr) ∧ cs[off + ((i : Nat) : Int).toNat * 1]? = some (iV w) := fun out es cl i w hi => by
    have hlt := (List.getElem?_eq_some_iff.1 hi).1
    obtain ⟨b, off, c, cs, E, fr, j, e, _, _, hj, hx⟩ := (hTaG.mem (G' := lvL x2 x5 xm out es cl G) fun q hq => .tail _ (.tail _ (.tail _ hq))).cell (by omega)
    cases e
    exact ⟨b, off, cs, E, fr, j, rfl, hj, by rw [Int.toNat_natCast, Nat.mul_one]; exact hx i _ (by rw [List.getElem?_map, hi]; rfl)⟩
  by_cases hlt : k < t.act.length
  · have d1 : decide ((k : Int) < ((t.act.length : Nat) : Int)) = true := decide_eq_true (by omega)
    have p0 : (0 : Int) ≤ (k : Int) := by omega
    have p1 : ((k : Nat) : Int) < ((t.act.length : Nat) : Int) := by omega
    have ww : IntKind.i64.wrap ((k : Int) + 1) = ((k + 1 : Nat) : Int) := by rw [wI64 (by omega) (by omega)]; omega
    have hn0 : ((t.act.length : Nat) : Int) ≠ 0 := by omega
    obtain ⟨w, hw⟩ : ∃ w, t.act[k]? = some w := ⟨_, List.getElem?_eq_getElem hlt⟩
    obtain ⟨ab, aoff, acs, aE, afr, aj, rfl, haj, hax⟩ := hVA z8 es cl k w hw
    have hqw := quo_w (n := t.act.length) (i := k) (by omega) h3 hlt
    repeat (first | (refine RX ?_; (first | refine QW_a ?_ | refine QW_of (Qt_ldX rfl (hn := by with_reducible assumption)) ?_ | refine QW_of (Qt_lookup rfl (i := 2) rfl hmp.ents) ?_)) | refine WL_nil ?_ | refine WR_nil ?_ | refine WC_seq ?_ | refine WC_block ?_ | refine WC_cond_t (ht := ?_) | refine WC_cond_f (he := ?_) | refine WC_skip ?_ | refine WC_ret ?_ | refine WC_exit ?_ | refine WC_draw_all (id := 9) 11 (Cs [0,1,2,3,4,5,6,7,8,9,10] <| .must 11 <| .done) mixed (by kernel_rfl) ?_ | refine WG 7 ?_ | refine WG 8 ?_)
    rw [hqw]
    refine WR_late rfl rfl rfl (OW_mapPut rfl rfl rfl rfl (i := 2) rfl hmp ?_)
    intro es' cl' hmp'
    simp only [List.set_cons_succ, List.set_cons_zero]
    repeat (first | (refine RX ?_; (first | refine QW_a ?_ | refine QW_of (Qt_ldX rfl (hn := by with_reducible assumption)) ?_ | refine QW_of (Qt_lookup rfl (i := 2) rfl hmp.ents) ?_)) | refine WL_nil ?_ | refine WR_nil ?_ | refine WC_seq ?_ | refine WC_block ?_ | refine WC_cond_t (ht := ?_) | refine WC_cond_f (he := ?_) | refine WC_skip ?_ | refine WC_ret ?_ | refine WC_exit ?_ | refine WC_draw_all (id := 9) 11 (Cs [0,1,2,3,4,5,6,7,8,9,10] <| .must 11 <| .done) mixed (by kernel_rfl) ?_ | refine WG 10 ?_)
    rw [ww]
    refine ⟨_, _, by omega, ⟨k + 1, es', cl', _, rfl, by omega, hmp', ?_, rfl⟩, ⟨rfl, rfl, rfl, rfl, rfl, rfl, rfl, trivial⟩, rfl, .refl _⟩
    have hni : w ∉ t.act.take k := fun hi => by
      obtain ⟨j, hj⟩ := List.mem_iff_getElem?.1 hi
      have hjk := (List.getElem?_eq_some_iff.1 hj).1
      rw [List.length_take] at hjk
      rw [List.getElem?_take_of_lt (by omega)] at hj
      have := List.pairwise_iff_getElem.1 hT.rise j k (by omega) hlt (by omega)
      rw [(List.getElem?_eq_some_iff.1 hj).2, (List.getElem?_eq_some_iff.1 hw).2] at this
      omega
    have e : quoN t.act.length 0 (t.act.take (k + 1)) = upF (quoN t.act.length 0 (t.act.take k)) w ((8 + (t.act.length : Int) - 1 - k) / t.act.length) := by
      funext y
      rw [List.take_add_one, hw]
      show quoN _ 0 (_ ++ [w]) y = _
      rw [quoN_snoc _ 0 hni, List.length_take, Nat.zero_add, Nat.min_eq_left (by omega)]
      rfl
    rw [e]
    exact hq.put _ _
  obtain rfl : k = t.act.length := by omega
  rw [List.take_of_length_le (Nat.le_refl _)] at hq
  have hq : LeftAt ps (quoF t.act) := hq
  have d1 : decide (((t.act.length : Nat) : Int) < ((t.act.length : Nat) : Int)) = false := decide_eq_false (by omega)
  repeat (first | (refine WL_Q ?_; (first | refine QW_a ?_ | refine QW_of (Qt_ldX rfl (hn := by with_reducible assumption)) ?_ | refine QW_of (Qt_lookup rfl (i := 2) rfl hmp.ents) ?_)) | (refine WL_op rfl ?_; (first | refine OW_alloc rfl (hk := fun _ => ?_) | refine OW_st1 rfl ?_)) | refine WL_nil ?_ | refine WC_seq ?_ | refine WC_block ?_ | refine WC_cond_t (ht := ?_) | refine WC_cond_f (he := ?_) | refine WC_skip ?_ | refine WC_ret ?_ | refine WC_exit ?_ | refine WG 7 ?_ | refine WG 11 ?_)
  rename_i x8
  obtain ⟨G1, hG1⟩ : ∃ G1, G1 = (x8, Obj.cells #[tkV x5 x2] 173 (0, 0)) :: G := ⟨_, rfl⟩
  refine WC_permT (L' := lvL x2 x5 xm z8 es cl G1) (by rw [hG1]; exact perm_lv3 ..) ?_
  have h8G : (x8, Obj.cells #[tkV x5 x2] 173 (0, 0)) ∈ G1 := by rw [hG1]; exact .head _
  have hGG : G.Sublist G1 := by rw [hG1]; exact .cons _ (.refl _)
  repeat (first | (refine WL_Q ?_; (first | refine QW_a ?_ | refine QW_of (Qt_ldX rfl (hn := by with_reducible assumption)) ?_ | refine QW_of (Qt_lookup rfl (i := 2) rfl hmp.ents) ?_)) | (refine WL_op rfl ?_; (first | (refine OW_call rfl (hF := bins_fn) (hk := ?_); rintro v44 _ ⟨T1, rfl, h44⟩))) | refine WL_nil ?_ | refine WC_seq ?_ | refine WC_block ?_ | refine WC_cond_t (ht := ?_) | refine WC_cond_f (he := ?_) | refine WC_skip ?_ | refine WC_ret ?_ | refine WC_exit ?_ | refine WG 12 ?_)
  obtain ⟨own, hown⟩ : ∃ own, own = hasF t.spans := ⟨_, rfl⟩
  obtain ⟨G2, hG2⟩ : ∃ G2, G2 = T1 ++ G1 := ⟨_, rfl⟩
  have hG12 : G1.Sublist G2 := by rw [hG2]; exact List.sublist_append_right _ _
  have hIn2 : TabIn tb G2 t := hInG.mem fun q hq => hG12.mem (hGG.mem hq)
  have h82 := hG12.mem h8G
  have h32 := hG12.mem (hGG.mem h3G)
  have h442 : VecM 1 G2 v44 8 (b8.map iV) := (Buf.vecM h44).mem fun q hq => by rw [hG2]; exact List.mem_append_left _ hq
  refine WL_permT (L' := lvL x2 x5 xm z8 es cl G2) (by rw [hG2]; exact perm_lv ..) ?_
  have hqr := fun w => quoF_rng (act := t.act) h3 w
  have hb8n : ∀ {pre : List Int} {b : Int}, (pre ++ [b]) <+: b8 → b = (pre.length : Int) ∧ pre.length < 8 := fun {pre b} hp => by
    obtain ⟨s, hs⟩ := hp
    have h1 : b8[pre.length]? = some b := by rw [← hs]; simp
    have hl : pre.length < 8 := (List.getElem?_eq_some_iff.1 h1).1
    have h2 : ∀ k : Nat, k < 8 → b8[k]? = some (k : Int) := by decide
    rw [h2 _ hl] at h1
    exact ⟨(Option.some.inj h1).symm, hl⟩
  have hth : Fn Tryz.prog 98 [.func (.func 99) #[] #[.pointer (some ⟨x8, 0, none⟩), .pointer (some ⟨x3, 0, none⟩)], v44] (lvL x2 x5 xm z8 es cl G2) (fun v L2 => ∃ T es' cl' ps', BufI v T (zpos 0 (keepF (quoF t.act) (b8.map own)).1) ∧ MapI .i64 es' cl' ps' ∧ LeftAt ps' (keepF (quoF t.act) (b8.map own)).2 ∧ L2 = T ++ lvL x2 x5 xm (keepF (quoF t.act) (b8.map own)).1 es' cl' G2) := by
    have := those_fn (f := 99) (A := #[]) (B := #[.pointer (some ⟨x8, 0, none⟩), .pointer (some ⟨x3, 0, none⟩)]) (l := b8) (v := v44) (F := lvL x2 x5 xm z8 es cl G2) (hmF (quoF t.act) own) (fun pre M => ∃ es' cl' ps', MapI .i64 es' cl' ps' ∧ LeftAt ps' (keepF (quoF t.act) (pre.map own)).2 ∧ M = lvL x2 x5 xm ((keepF (quoF t.act) (pre.map own)).1 ++ List.replicate (8 - pre.length) 0) es' cl' G2) (by decide)
      (fun pre M hM => by obtain ⟨es', cl', ps', _, _, rfl⟩ := hM; exact h442.mem fun q hq => .tail _ (.tail _ (.tail _ hq))) ⟨es, cl, ps, hmp, hq, rfl⟩ (fun X pre b M hpre hM => by
        obtain ⟨es', cl', ps', h1, h2, rfl⟩ := hM
        obtain ⟨hb, hl⟩ := hb8n hpre
        have hb0 : 0 ≤ b ∧ b < 8 := by omega
        have hkl := keepF_len (quoF t.act) (pre.map own)
        rw [List.length_map] at hkl
        have hfn := homeless_fn (x2 := x2) (x5 := x5) (xm := xm) (x8 := x8) (x3 := x3) (G := X ++ G2) (out := (keepF (quoF t.act) (pre.map own)).1 ++ List.replicate (8 - pre.length) 0) (b := b) (hIn2.mem fun q hq => List.mem_append_right _ hq) hT (List.mem_append_right _ h82) (List.mem_append_right _ h32) h1 h2 (keepF_rng hqr) (by rw [List.length_append, List.length_replicate, hkl]; omega) hb0
        rw [← hown] at hfn
        refine Fn.perm hfn (perm_lv ..) ?_
        rintro v L2 ⟨rfl, es2, cl2, ps2, h3, h4, rfl⟩
        refine ⟨_, (perm_lv ..).symm, rfl, _, rfl, es2, cl2, ps2, h3, ?_, ?_⟩
        · rw [List.map_append, List.map_cons, List.map_nil]
          by_cases hp : 0 < (keepF (quoF t.act) (pre.map own)).2 (own b)
          · rw [if_pos hp] at h4
            rw [keepF_snocP hp]
            exact h4
          · rw [if_neg hp] at h4
            rw [keepF_snocN hp]
            exact h4
        · rw [List.map_append, List.map_cons, List.map_nil, List.length_append, List.length_cons, List.length_nil]
          by_cases hp : 0 < (keepF (quoF t.act) (pre.map own)).2 (own b)
          · rw [if_pos hp, keepF_snocP hp]
            simp only
            rw [← rep_set hkl hl, hb, Int.toNat_natCast]
          · rw [if_neg hp, keepF_snocN hp]
            simp only
            rw [← rep_none hl])
    refine this.mono ?_
    rintro v L2 ⟨T, M, rfl, ⟨es', cl', ps', h1, h2, rfl⟩, hb⟩
    have hz := hm_zpos (q0 := quoF t.act) (own := own) (rest := b8) (pre := []) (k := 0) (fun i b hi => by
      have hl : i < 8 := (List.getElem?_eq_some_iff.1 hi).1
      have h2 : ∀ k : Nat, k < 8 → b8[k]? = some (k : Int) := by decide
      rw [h2 _ hl] at hi
      have := Option.some.inj hi
      omega) (fun b hb => by
      have := hT.one _ (has_act hT (b8_mem.1 hb))
      rw [hown]
      omega)
    rw [hz] at hb
    have h8 : b8.length = 8 := rfl
    exact ⟨T, es', cl', ps', hb, h1, h2, by rw [h8]; simp⟩
  repeat (first | (refine WL_Q ?_; (first | refine QW_a ?_ | refine QW_of (Qt_ldX rfl (hn := by with_reducible assumption)) ?_ | refine QW_of (Qt_lookup rfl (i := 2) rfl hmp.ents) ?_)) | (refine WL_op rfl ?_; (first | (refine OW_call rfl (hF := bins_fn) (hk := ?_); rintro v44 _ ⟨T1, rfl, h44⟩) | (refine OW_call rfl (hF := hth) (hk := ?_); rintro v9 _ ⟨T9, es2, cl2, ps2, h9, hmp2, hq2, rfl⟩))) | refine WL_nil ?_ | refine WC_seq ?_ | refine WC_block ?_ | refine WC_cond_t (ht := ?_) | refine WC_cond_f (he := ?_) | refine WC_skip ?_ | refine WC_ret ?_ | refine WC_exit ?_ | refine WG 12 ?_)
  obtain ⟨K, hK⟩ : ∃ K, K = (keepF (quoF t.act) (b8.map own)).1 := ⟨_, rfl⟩
  obtain ⟨q0, hq0⟩ : ∃ q0, q0 = (keepF (quoF t.act) (b8.map own)).2 := ⟨_, rfl⟩
  have hKl : K.length = 8 := by rw [hK, keepF_len]; rfl
  have hq0r : ∀ w, 0 ≤ q0 w ∧ q0 w ≤ 100 := by rw [hq0]; exact keepF_rng hqr
  obtain ⟨hs, hhs⟩ : ∃ hs, hs = zpos 0 K := ⟨_, rfl⟩
  have hsl : hs.length ≤ 8 := by rw [hhs]; have := zpos_len 0 K; omega
  have hsb : ∀ b ∈ hs, 0 ≤ b ∧ b < 8 := fun b hb => by rw [hhs] at hb; have := zpos_lt hb; omega
  rw [← hK] at h9 ⊢
  rw [← hq0] at hq2
  rw [← hhs] at h9
  obtain ⟨_, a9, c9, rfl, hac9, hmx9, _⟩ := Buf.vecM h9
  repeat (first | (refine WL_Q ?_; (first | refine QW_a ?_ | refine QW_of (Qt_ldX rfl (hn := by with_reducible assumption)) ?_ | refine QW_of (Qt_lookup rfl (i := 2) rfl hmp.ents) ?_)) | refine WL_nil ?_ | refine WC_seq ?_ | refine WC_block ?_ | refine WC_cond_t (ht := ?_) | refine WC_cond_f (he := ?_) | refine WC_skip ?_ | refine WC_ret ?_ | refine WC_exit ?_ | refine WG 13 ?_)
  obtain ⟨G3, hG3⟩ : ∃ G3, G3 = T9 ++ G2 := ⟨_, rfl⟩
  have hG23 : G2.Sublist G3 := by rw [hG3]; exact List.sublist_append_right _ _
  have h83 := hG23.mem h82
  have hLG3 : L.Sublist G3 := hLG.trans (hGG.trans (hG12.trans hG23))
  have h9G : VecM 1 G3 (.slice a9 hs.length c9) hs.length (hs.map iV) := (Buf.vecM h9).mem fun q hq => by rw [hG3]; exact List.mem_append_left _ hq
  have hTa3 : VecM 1 G3 (.slice a t.act.length cap) t.act.length (t.act.map iV) := hTaG.mem fun q hq => hG23.mem (hG12.mem (hGG.mem hq))
  refine WC_permT (L' := lvL x2 x5 xm K es2 cl2 G3) (by rw [hG3]; exact perm_lv ..) ?_
  refine WC_wk [(48, iV ((0 : Nat) : Int)), (47, iV (hs.length : Nat)), (46, .slice a9 hs.length c9), (8, .pointer (some ⟨x8, 0, none⟩)), (4, .slice a t.act.length cap), (2, .pointer (some ⟨x2, 0, none⟩))] ⟨rfl, rfl, rfl, rfl, rfl, rfl, trivial⟩ ?_
  refine WC_loop (fun m σ => ∃ (j : Nat) (es : Array MapEntry) (cl : Nat) (ps : List (Int × Value)), m = hs.length - j ∧ j ≤ hs.length ∧ MapI .i64 es cl ps ∧ LeftAt ps (fillS t.act (K, q0) (hs.take j)).2 ∧ σ = ⟨[(48, iV (j : Int)), (47, iV (hs.length : Nat)), (46, .slice a9 hs.length c9), (8, .pointer (some ⟨x8, 0, none⟩)), (4, .slice a t.act.length cap), (2, .pointer (some ⟨x2, 0, none⟩))], [], lvL x2 x5 xm (fillS t.act (K, q0) (hs.take j)).1 es cl G3⟩) hs.length ⟨0, es2, cl2, ps2, rfl, Nat.zero_le _, hmp2, hq2, rfl⟩ ?_
  clear hmp hmp2 hq hq2 hth
  rintro _ σ ⟨j, es3, cl3, ps3, rfl, hj, hmp3, hq3, rfl⟩
  by_cases hlj : j < hs.length
  rotate_left
  · have e1 : decide ((j : Int) < ((hs.length : Nat) : Int)) = false := decide_eq_false (by omega)
    have hfin : (fillS t.act (K, q0) (hs.take j)).1 = levelF t.act (b8.map own) := by
      rw [List.take_of_length_le (by omega), hhs]
      have := fillS_fillF t.act K [] q0
      simp only [List.nil_append, List.length_nil] at this
      rw [this, levelF, ← hK, ← hq0]
    rw [hfin]
    have hls : (wnC (levelF t.act (b8.map own))).size = 8 := wnC_size (by rw [← hfin, fillS_len]; exact hKl)
    have hla := wnC_all (want := levelF t.act (b8.map own))
    repeat (first | (refine WL_Q ?_; (first | refine QW_a ?_ | refine QW_of (Qt_ldX rfl (hn := by with_reducible assumption)) ?_ | refine QW_of (Qt_lookup rfl (i := 2) rfl hmp.ents) ?_)) | (refine WL_op rfl ?_; (first | refine OW_stA rfl ?_ | refine OW_stN rfl ?_)) | refine WL_nil ?_ | refine WC_seq ?_ | refine WC_block ?_ | refine WC_cond_t (ht := ?_) | refine WC_cond_f (he := ?_) | refine WC_skip ?_ | refine WC_ret ?_ | refine WC_exit ?_ | refine WG 14 ?_ | refine WG 22 ?_)
    exact ⟨rfl, _, _, Res1 rfl (resV_cellN (n := 8) rfl 0 rfl hls), .cons _ (.cons _ (.cons _ hLG3)), by rw [hown], rfl⟩
  have e1 : decide ((j : Int) < ((hs.length : Nat) : Int)) = true := decide_eq_true (by omega)
  have j0 : (0 : Int) ≤ (j : Int) := by omega
  have j1 : ((j : Nat) : Int) < ((hs.length : Nat) : Int) := by omega
  have wj : IntKind.i64.wrap ((j : Int) + 1) = ((j + 1 : Nat) : Int) := by rw [wI64 (by omega) (by omega)]; omega
  obtain ⟨b, hb⟩ : ∃ b, hs[j]? = some b := ⟨_, List.getElem?_eq_getElem hlj⟩
  have hb0 := hsb b (List.mem_of_getElem? hb)
  obtain ⟨S, hS⟩ : ∃ S, S = fillS t.act (K, q0) (hs.take j) := ⟨_, rfl⟩
  have hSn : fillS t.act (K, q0) (hs.take (j + 1)) = fillS t.act S [b] := by rw [List.take_add_one, hb, hS]; exact fillS_snoc _ _ _ _
  have hSl : S.1.length = 8 := by rw [hS, fillS_len]; exact hKl
  have hSr := fun w => fillS_rng t.act (hs.take j) (K, q0) hq0r w
  rw [← hS] at hq3 hSr ⊢
  obtain ⟨b9, o9, cc9, cs9, E9, fr9, i9, e9, _, _, hi9, hx9⟩ := (h9G.mem (G' := lvL x2 x5 xm S.1 es3 cl3 G3) fun q hq => .tail _ (.tail _ (.tail _ hq))).cell (by omega)
  cases e9
  have hc9 : cs9[o9 + ((j : Nat) : Int).toNat * 1]? = some (iV b) := by rw [Int.toNat_natCast, Nat.mul_one]; exact hx9 j _ (by rw [List.getElem?_map, hb]; rfl)
  repeat (first | (refine WL_Q ?_; (first | refine QW_a ?_ | refine QW_of (Qt_ldX rfl (hn := by with_reducible assumption)) ?_ | refine QW_of (Qt_lookup rfl (i := 2) rfl hmp.ents) ?_)) | refine WL_nil ?_ | refine WC_seq ?_ | refine WC_block ?_ | refine WC_cond_t (ht := ?_) | refine WC_cond_f (he := ?_) | refine WC_skip ?_ | refine WC_ret ?_ | refine WC_exit ?_ | refine WG 14 ?_ | refine WG 15 ?_ | refine WG 16 ?_)
  refine WC_wk [(54, iV ((0 : Nat) : Int)), (53, iV (t.act.length : Nat)), (52, .slice a t.act.length cap), (11, iV b), (48, iV (j : Int)), (47, iV (hs.length : Nat)), (46, .slice (some ⟨b9, o9, none⟩) hs.length c9), (8, .pointer (some ⟨x8, 0, none⟩)), (4, .slice a t.act.length cap), (2, .pointer (some ⟨x2, 0, none⟩))] ⟨rfl, rfl, rfl, rfl, rfl, rfl, rfl, rfl, rfl, rfl, trivial⟩ ?_
  refine WC_loop (fun m σ => ∃ (i : Nat) (es : Array MapEntry) (cl : Nat) (ps : List (Int × Value)), m = t.act.length - i ∧ i ≤ t.act.length ∧ (∀ c ∈ t.act.take i, ¬ 0 < S.2 c) ∧ MapI .i64 es cl ps ∧ LeftAt ps S.2 ∧ σ = ⟨[(54, iV (i : Int)), (53, iV (t.act.length : Nat)), (52, .slice a t.act.length cap), (11, iV b), (48, iV (j : Int)), (47, iV (hs.length : Nat)), (46, .slice (some ⟨b9, o9, none⟩) hs.length c9), (8, .pointer (some ⟨x8, 0, none⟩)), (4, .slice a t.act.length cap), (2, .pointer (some ⟨x2, 0, none⟩))], [], lvL x2 x5 xm S.1 es cl G3⟩) t.act.length ⟨0, es3, cl3, ps3, rfl, Nat.zero_le _, fun c hc => by simp at hc, hmp3, hq3, rfl⟩ ?_
  clear hi9 hmp3 hq3
  rintro _ σ ⟨i, es4, cl4, ps4, rfl, hi, hno, hmp4, hq4, rfl⟩
  by_cases hil : i < t.act.length
  rotate_left
  · have f1 : decide ((i : Int) < ((t.act.length : Nat) : Int)) = false := decide_eq_false (by omega)
    rw [List.take_of_length_le (by omega)] at hno
    have hnn : t.act.find? (fun a => decide (0 < S.2 a)) = none := List.find?_eq_none.2 fun c hc => by simpa using hno c hc
    have hSe : fillS t.act S [b] = S := by rw [fillS, hnn]; rfl
    rw [hSe] at hSn
    repeat (first | (refine WL_Q ?_; (first | refine QW_a ?_ | refine QW_of (Qt_ldX rfl (hn := by with_reducible assumption)) ?_ | refine QW_of (Qt_lookup rfl (i := 2) rfl hmp.ents) ?_)) | refine WL_nil ?_ | refine WC_seq ?_ | refine WC_block ?_ | refine WC_cond_t (ht := ?_) | refine WC_cond_f (he := ?_) | refine WC_skip ?_ | refine WC_ret ?_ | refine WC_exit ?_ | refine WG 17 ?_ | refine WG 21 ?_)
    rw [wj]
    exact ⟨_, _, by omega, ⟨j + 1, es4, cl4, ps4, rfl, by omega, hmp4, by rw [hSn]; exact hq4, rfl⟩, ⟨rfl, rfl, rfl, rfl, rfl, rfl, trivial⟩, rfl, by rw [hSn]; exact .refl _⟩
  have f1 : decide ((i : Int) < ((t.act.length : Nat) : Int)) = true := decide_eq_true (by omega)
  have i0 : (0 : Int) ≤ (i : Int) := by omega
  have i1 : ((i : Nat) : Int) < ((t.act.length : Nat) : Int) := by omega
  have wi : IntKind.i64.wrap ((i : Int) + 1) = ((i + 1 : Nat) : Int) := by rw [wI64 (by omega) (by omega)]; omega
  obtain ⟨w, hw⟩ : ∃ w, t.act[i]? = some w := ⟨_, List.getElem?_eq_getElem hil⟩
  obtain ⟨ab, aoff, ac4, acs, aE, afr, aj, e4, _, _, haj, hax⟩ := (hTa3.mem (G' := lvL x2 x5 xm S.1 es4 cl4 G3) fun q hq => .tail _ (.tail _ (.tail _ hq))).cell (by omega)
  cases e4
  have hca : acs[aoff + ((i : Nat) : Int).toNat * 1]? = some (iV w) := by rw [Int.toNat_natCast, Nat.mul_one]; exact hax i _ (by rw [List.getElem?_map, hw]; rfl)
  obtain ⟨i8, hi8⟩ := List.mem_iff_getElem?.1 (show (x8, Obj.cells #[tkV x5 x2] 173 (0, 0)) ∈ lvL x2 x5 xm S.1 es4 cl4 G3 from .tail _ (.tail _ (.tail _ h83)))
  repeat (first | (refine WL_Q ?_; (first | refine QW_a ?_ | refine QW_of (Qt_ldX rfl (hn := by with_reducible assumption)) ?_ | refine QW_of (Qt_lookup rfl (i := 2) rfl hmp.ents) ?_)) | refine WL_nil ?_ | refine WC_seq ?_ | refine WC_block ?_ | refine WC_cond_t (ht := ?_) | refine WC_cond_f (he := ?_) | refine WC_skip ?_ | refine WC_ret ?_ | refine WC_exit ?_ | refine WG 17 ?_ | refine WG 18 ?_ | refine WG 19 ?_)
  refine WL_op rfl (OW_callv rfl rfl rfl rfl rfl (take_fn hmp4 hq4 (hSr w) hSl hb0) ?_)
  rintro _ _ ⟨rfl, es5, cl5, ps5, hmp5, hq5, rfl⟩
  by_cases hp : 0 < S.2 w
  · have hfd : t.act.find? (fun a => decide (0 < S.2 a)) = some w := by
      have hsp : t.act = t.act.take i ++ w :: t.act.drop (i + 1) := by
        have := List.drop_eq_getElem_cons hil
        rw [(List.getElem?_eq_some_iff.1 hw).2] at this
        rw [← this, List.take_append_drop]
      rw [hsp, List.find?_append, List.find?_eq_none.2 (fun c hc => by simpa using hno c hc)]
      simp [hp]
    have hSe : fillS t.act S [b] = (S.1.set b.toNat w, upF S.2 w (S.2 w - 1)) := by rw [fillS, hfd]; rfl
    rw [hSe] at hSn
    rw [if_pos hp] at hq5
    rw [if_pos hp, decide_eq_true hp]
    repeat (first | (refine WL_Q ?_; (first | refine QW_a ?_ | refine QW_of (Qt_ldX rfl (hn := by with_reducible assumption)) ?_ | refine QW_of (Qt_lookup rfl (i := 2) rfl hmp.ents) ?_)) | refine WL_nil ?_ | refine WC_seq ?_ | refine WC_block ?_ | refine WC_cond_t (ht := ?_) | refine WC_cond_f (he := ?_) | refine WC_skip ?_ | refine WC_ret ?_ | refine WC_exit ?_ | refine WG 19 ?_ | refine WG 21 ?_)
    rw [wj]
    exact ⟨_, _, by omega, ⟨j + 1, es5, cl5, ps5, rfl, by omega, hmp5, by rw [hSn]; exact hq5, rfl⟩, ⟨rfl, rfl, rfl, rfl, rfl, rfl, trivial⟩, rfl, by rw [hSn]; exact .refl _⟩
  · rw [if_neg hp] at hq5
    rw [if_neg hp, decide_eq_false hp]
    repeat (first | (refine WL_Q ?_; (first | refine QW_a ?_ | refine QW_of (Qt_ldX rfl (hn := by with_reducible assumption)) ?_ | refine QW_of (Qt_lookup rfl (i := 2) rfl hmp.ents) ?_)) | refine WL_nil ?_ | refine WC_seq ?_ | refine WC_block ?_ | refine WC_cond_t (ht := ?_) | refine WC_cond_f (he := ?_) | refine WC_skip ?_ | refine WC_ret ?_ | refine WC_exit ?_ | refine WG 19 ?_ | refine WG 20 ?_)
    rw [wi]
    refine ⟨_, _, by omega, ⟨i + 1, es5, cl5, ps5, rfl, by omega, fun c hc => ?_, hmp5, hq5, rfl⟩, ⟨rfl, rfl, rfl, rfl, rfl, rfl, rfl, rfl, rfl, rfl, trivial⟩, rfl, .refl _⟩
    rw [List.take_add_one, hw] at hc
    rcases List.mem_append.1 hc with h | h
    · exact hno c h
    · obtain rfl : c = w := by simpa using h
      exact hp
end Go.Proofs.YtncgndcepoicbaaGreat
