/-
  A part of what the last of these texts needs; by itself it proves no statement.
-/
import Derived.Test.YtncgndcepoicbaaGreatKH24
namespace Go.Proofs.YtncgndcepoicbaaGreat
open Go.RowKit
def FindR (G : List (Nat × Obj)) (t : TbV) (w : Int) (p : PlK) (l : List Value) (is : Bool) : Prop := l.length = 5 ∧ (∀ u ∈ l, u.oneCell' = true) ∧ ((is = true ∧ ∃ x, x ∈ hownL w t 8 ∧ x.key = p ∧ OwnIn G l x) ∨ (is = false ∧ ∀ x ∈ hownL w t 8, x.key ≠ p))
theorem loK_find {G : List (Nat × Obj)} {lo : List (OwnV × List Value)} {t : TbV} {w : Int} (hlo : lo.map Prod.fst = hownL w t 8) (hOw : ∀ q ∈ lo, OwnIn G q.2 q.1) (p : PlK) : ∃ (l : List Value) (is : Bool), (vGet (loK lo) p).getD (.agg zc156) = .agg l.toArray ∧ (vGet (loK lo) p).isSome = is ∧ FindR G t w p l is := by
  cases hv : vGet (loK lo) p with
  | none =>
    refine ⟨(zc156 : Array Value).toList, false, rfl, rfl, rfl, by decide, .inr ⟨rfl, fun x hx e => ?_⟩⟩
    rw [← hlo] at hx
    obtain ⟨q, hq, rfl⟩ := List.mem_map.1 hx
    refine vGet_no.2 hv (List.mem_map.2 ⟨_, List.mem_map.2 ⟨q, hq, rfl⟩, ?_⟩)
    exact e
  | some v =>
    obtain ⟨q, hq, e⟩ := List.mem_map.1 (vGet_in hv)
    have e1 : q.1.key = p := congrArg Prod.fst e
    have e2 : Value.agg q.2.toArray = v := congrArg Prod.snd e
    have ho := hOw q hq
    refine ⟨q.2, true, e2.symm, rfl, ho.len, ho.one, .inl ⟨rfl, q.1, ?_, e1, ho⟩⟩
    rw [← hlo]
    exact List.mem_map.2 ⟨q, hq, rfl⟩
theorem perm_hf1 {α : Type} (a b : α) (S F : List α) : (a :: b :: (S ++ F)).Perm (S ++ (a :: b :: F)) := by
  classical
  rw [List.perm_iff_count]
  intro z
  simp only [List.count_append, List.count_cons]
  omega
theorem perm_hf2 {α : Type} (a b h m : α) (X F : List α) : (h :: m :: (X ++ (a :: b :: F))).Perm (a :: b :: h :: m :: (X ++ F)) := by
  classical
  rw [List.perm_iff_count]
  intro z
  simp only [List.count_append, List.count_cons]
  omega
attribute [local irreducible] Fn WC WL WR OW Qt YieldFn QW FnP FnD FnE
set_option maxHeartbeats 4000000 in
theorem find_fn {hb tb : Nat} {t : TbV} {w : Int} {m : PlK → Bool × Bool} {S G F : List (Nat × Obj)} (hT : TbOk t) (hIn : TabIn tb F t) (hG : ∀ q ∈ G, q ∈ F) (h : HandAt hb tb S G t w m) (p : PlK) : Fn Tryz.prog 88 [.pointer (some ⟨hb, 0, none⟩), pairK p] (S ++ F) (fun v L' => ∃ S' X l is, L' = S' ++ (X ++ F) ∧ HandL hb tb S' (X ++ G) t w m ∧ FindR (X ++ G) t w p l is ∧ v = .tuple #[.agg l.toArray, .bool is]) := by
  refine Fn_enter Tryz.func88 rfl Tryz.ntmps88 rfl fun g => ?_
  repeat (first | refine RQ ?_ | (refine WL_Q ?_; (first | refine QW_of (Qt_fieldV rfl) ?_ | refine QW_of (Qt_lookVCE rfl) ?_ | refine QW_of (Qt_lookVE rfl) ?_)) | (refine RE ?_; try intro _) | refine RC ?_ | refine WG 0 ?_ | refine WG 1 ?_)
  rename_i x3 x4
  obtain ⟨o3, ho3⟩ : ∃ o3, o3 = (x3, Obj.cells #[Value.int .i64 p.1, Value.int .i64 p.2] 69 (0, 0)) := ⟨_, rfl⟩
  obtain ⟨o4, ho4⟩ : ∃ o4, o4 = (x4, Obj.cells zc156 156 (0, 0)) := ⟨_, rfl⟩
  refine WC_permT (L' := S ++ (o4 :: o3 :: F)) (by rw [ho3, ho4]; exact (perm_hf1 ..).symm) ?_
  repeat (first | refine RQ ?_ | (refine WL_Q ?_; (first | refine QW_of (Qt_fieldV rfl) ?_ | refine QW_of (Qt_lookVCE rfl) ?_ | refine QW_of (Qt_lookVE rfl) ?_)) | (refine WL_op rfl ?_; (first | (refine OW_call rfl (hF := learn_fn hT (hIn.mem fun q hq => .tail _ (.tail _ hq)) h) (hk := ?_); rintro _ _ ⟨S', X, rfl, hL⟩))) | refine RC ?_ | refine WG 3 ?_)
  obtain ⟨rv, av, ⟨mb, es, cl, ps, rfl, hE, hP⟩, lo, hlo, hOw, hrv, ab, es2, cl2, rfl, hab, hE2⟩ := id hL
  obtain ⟨l, is, hv, his, hR⟩ := loK_find hlo hOw p
  have hz5 : l.toArray.size = 5 := hR.1
  have hal : (l.toArray.toList.all fun v => v.oneCell') = true := by simpa [List.all_eq_true] using hR.2.1
  refine WC_permT (L' := o4 :: o3 :: (hb, Obj.cells (hnC tb w mb (((t.cmds.length : Nat) : Int) + 1) rv (.map (some ab))) 150 (0, 0)) :: (mb, Obj.map es cl) :: (X ++ F)) (perm_hf2 ..).symm ?_
  have hab2 : (ab, Obj.map es2 cl2) ∈ o4 :: o3 :: (hb, Obj.cells (hnC tb w mb (((t.cmds.length : Nat) : Int) + 1) rv (.map (some ab))) 150 (0, 0)) :: (mb, Obj.map es cl) :: (X ++ F) := by
    refine .tail _ (.tail _ (.tail _ (.tail _ ?_)))
    rcases List.mem_append.1 hab with h | h
    · exact List.mem_append_left _ h
    · exact List.mem_append_right _ (hG _ h)
  obtain ⟨ia, hia⟩ := List.mem_iff_getElem?.1 hab2
  subst ho3
  subst ho4
  repeat (first | refine RQr ?_ | (refine RX ?_; (first | refine QW_of (Qt_fieldV rfl) ?_ | refine QW_of (Qt_lookVCE rfl) ?_ | refine QW_of (Qt_lookVE rfl) ?_)) | ((first | refine WL_op rfl ?_ | refine WR_late rfl rfl rfl ?_ | refine WR_op rfl rfl ?_); (first | (refine OE ?_; try intro _)); try refine SD ?_) | refine RC ?_ | refine RU ?_ | refine WC_draw_all (id := 4) 12 (Cs [0,1,2,3,4,5,6,7,8] <| .must 9 <| .must 10 <| .calm 11 <| .done) mixed (by kernel_rfl) ?_ | refine WG 5 ?_)
  refine ⟨rfl, _, _, Res2 rfl (resV_cellN (n := 5) rfl 1 rfl hz5) (resV_tmp rfl), .cons _ (.cons _ (.cons _ (.refl _))), [_, _], X, l, is, rfl, hL, hR, rfl⟩
theorem whole_fn {hb tb : Nat} {w : Int} {m : PlK → Bool × Bool} {S L : List (Nat × Obj)} {kn : Int} {rv av : Value} (h : HandX hb tb S w m kn rv av) (hS : ∀ q ∈ S, q ∈ L) (p : PlK) : Fn Tryz.prog 86 [.pointer (some ⟨hb, 0, none⟩), pairK p] L (fun v L' => v = .bool (decide (p.2 = 0) || (m p).1) ∧ L' = L) := by
  obtain ⟨mb, es, cl, ps, rfl, hE, hP⟩ := h
  have hv := hP p
  refine Fn_enter Tryz.func86 rfl Tryz.ntmps86 rfl fun g => ?_
  repeat (first | refine RQ ?_ | (refine WL_Q ?_; (first | refine QW_of (Qt_fieldV rfl) ?_ | refine QW_of (Qt_lookVCE rfl) ?_ | refine QW_of (Qt_lookVE rfl) ?_)) | (refine RE ?_; try intro _) | refine RC ?_ | refine WG 0 ?_)
  rename_i x3
  obtain ⟨ih, hih⟩ := List.mem_iff_getElem?.1 (show (hb, Obj.cells (hnC tb w mb kn rv av) 150 (0, 0)) ∈ (x3, Obj.cells #[Value.int .i64 p.1, Value.int .i64 p.2] 69 (0, 0)) :: L from .tail _ (hS _ (.head _)))
  obtain ⟨im, him⟩ := List.mem_iff_getElem?.1 (show (mb, Obj.map es cl) ∈ (x3, Obj.cells #[Value.int .i64 p.1, Value.int .i64 p.2] 69 (0, 0)) :: L from .tail _ (hS _ (.tail _ (.head _))))
  by_cases h0 : p.2 = 0
  · have e0 : (p.2 == 0) = true := by simpa using h0
    repeat (first | refine RQr ?_ | ((first | refine WL_Q ?_ | refine WL_Y ?_ | refine WR_Q rfl ?_ | refine WR_late rfl rfl rfl (OW_Q ?_) | refine WR_Y rfl ?_); (first | refine QW_of (Qt_fieldV rfl) ?_ | refine QW_of (Qt_lookVCE rfl) ?_ | refine QW_of (Qt_lookVE rfl) ?_)) | refine RC ?_ | refine RU ?_ | refine WC_draw_all (id := 1) 13 (Cs [0,1,2,3,4,5,6,7,8,9,10,11,12] <| .done) mixed (by kernel_rfl) ?_)
    exact ⟨rfl, _, _, Res1 rfl (resV_tmp rfl), .cons _ (.refl _), by rw [decide_eq_true h0]; rfl, rfl⟩
  · have e0 : (p.2 == 0) = false := by simpa using h0
    repeat (first | refine RQr ?_ | ((first | refine WL_Q ?_ | refine WL_Y ?_ | refine WR_Q rfl ?_ | refine WR_late rfl rfl rfl (OW_Q ?_) | refine WR_Y rfl ?_); (first | refine QW_of (Qt_fieldV rfl) ?_ | refine QW_of (Qt_lookVCE rfl) ?_ | refine QW_of (Qt_lookVE rfl) ?_)) | refine RC ?_ | refine RU ?_ | refine WC_draw_all (id := 1) 13 (Cs [0,1,2,3,4,5,6,7,8,9,10,11,12] <| .done) mixed (by kernel_rfl) ?_)
    exact ⟨rfl, _, _, Res1 rfl (resV_tmp rfl), .cons _ (.refl _), by rw [decide_eq_false h0]; rfl, rfl⟩
theorem HandL.find {G : List (Nat × Obj)} {t : TbV} {w : Int} {p : PlK} {l : List Value} {is : Bool} (h : FindR G t w p l is) : is = true ↔ ∃ x, x ∈ hownL w t 8 ∧ x.key = p := by
  obtain ⟨_, _, ⟨h1, x, h2, h3, _⟩ | ⟨h1, h2⟩⟩ := h
  · exact ⟨fun _ => ⟨x, h2, h3⟩, fun _ => h1⟩
  · constructor
    · intro h; exact absurd h (by rw [h1]; decide)
    · rintro ⟨x, h3, h4⟩
      exact absurd h4 (h2 x h3)
theorem perm_hf3 {α : Type} (a h m : α) (X F : List α) : ([h, m] ++ (X ++ (a :: F))).Perm (a :: h :: m :: (X ++ F)) := by
  classical
  rw [List.perm_iff_count]
  intro z
  simp only [List.count_append, List.count_cons, List.count_nil]
  omega
theorem hWhole_fn {hb tb : Nat} {t : TbV} {w : Int} {m : PlK → Bool × Bool} {S G F : List (Nat × Obj)} (hT : TbOk t) (hIn : TabIn tb F t) (hG : ∀ q ∈ G, q ∈ F) (h : HandAt hb tb S G t w m) {x : OwnV} (hx : x ∈ hownL w t 8) : Fn Tryz.prog 82 [.pointer (some ⟨hb, 0, none⟩), pairK x.key] (S ++ F) (fun v L' => ∃ S' X, L' = S' ++ (X ++ F) ∧ HandL hb tb S' (X ++ G) t w m ∧ v = .bool (decide (x.span = 0) || (m x.key).1)) := by
  refine Fn_enter Tryz.func82 rfl Tryz.ntmps82 rfl fun g => ?_
  repeat (first | refine RQ ?_ | (refine WL_Q ?_; (first | refine QW_of (Qt_fieldV rfl) ?_ | refine QW_of (Qt_lookVCE rfl) ?_ | refine QW_of (Qt_lookVE rfl) ?_)) | (refine RE ?_; try intro _) | refine RC ?_ | refine WG 0 ?_)
  rename_i x3
  obtain ⟨o3, ho3⟩ : ∃ o3, o3 = (x3, Obj.cells #[Value.int .i64 x.bin, Value.int .i64 x.span] 69 (0, 0)) := ⟨_, rfl⟩
  repeat (first | refine RQ ?_ | (refine WL_Q ?_; (first | refine QW_of (Qt_fieldV rfl) ?_ | refine QW_of (Qt_lookVCE rfl) ?_ | refine QW_of (Qt_lookVE rfl) ?_)) | (refine RE ?_; try intro _) | refine RC ?_ | refine WG 1 ?_)
  rw [← ho3]
  refine WL_op rfl (OW_permT2 (L' := S ++ (o3 :: F)) List.perm_middle ?_)
  refine OW_call rfl (hF := find_fn hT (hIn.mem fun q hq => .tail _ hq) (fun q hq => .tail _ (hG q hq)) h x.key) (hk := ?_)
  rintro _ _ ⟨S', X, l, is, rfl, hL, hR, rfl⟩
  obtain rfl : is = true := (HandL.find hR).2 ⟨x, hx, rfl⟩
  obtain ⟨rv, av, hX, hLe⟩ := id hL
  obtain ⟨mb, es, cl, ps, rfl, hE, hP⟩ := id hX
  have hz5 : l.toArray.size = 5 := hR.1
  have hal : (l.toArray.toList.all fun v => v.oneCell') = true := by simpa [List.all_eq_true] using hR.2.1
  refine WL_permT (L' := o3 :: (hb, Obj.cells (hnC tb w mb (((t.cmds.length : Nat) : Int) + 1) rv av) 150 (0, 0)) :: (mb, Obj.map es cl) :: (X ++ F)) (perm_hf3 ..).symm ?_
  subst ho3
  repeat (first | refine RQ ?_ | ((first | refine WL_Q ?_ | refine WL_Y ?_); (first | refine QW_of (Qt_fieldV rfl) ?_ | refine QW_of (Qt_lookVCE rfl) ?_ | refine QW_of (Qt_lookVE rfl) ?_)) | (refine RE ?_; try intro _) | ((first | refine WL_op rfl ?_ | refine WL_yes (h := ?_)); (first | refine OW_callP rfl (hF := whole_fn hX (fun q hq => .tail _ (.tail _ (List.mem_append_left (X ++ F) hq))) x.key) (hk := ?_))) | refine RC ?_ | refine WG 1 ?_ | refine WG 2 ?_)
  exact ⟨rfl, _, _, Res1 rfl (resV_tmp rfl), .cons _ (.cons _ (.refl _)), [_, _], X, rfl, hL, rfl⟩
set_option maxHeartbeats 1000000 in
theorem hGone_fn {hb tb : Nat} {t : TbV} {w : Int} {m : PlK → Bool × Bool} {S G F : List (Nat × Obj)} (hT : TbOk t) (hIn : TabIn tb F t) (hG : ∀ q ∈ G, q ∈ F) (h : HandAt hb tb S G t w m) {x : OwnV} (hx : x ∈ hownL w t 8) : Fn Tryz.prog 89 [.pointer (some ⟨hb, 0, none⟩), pairK x.key] (S ++ F) (fun v L' => ∃ S' X, L' = S' ++ (X ++ F) ∧ HandL hb tb S' (X ++ G) t w m ∧ v = .bool (m x.key).2) := by
  refine Fn_enter Tryz.func89 rfl Tryz.ntmps89 rfl fun g => ?_
  repeat (first | refine RQ ?_ | (refine WL_Q ?_; (first | refine QW_of (Qt_fieldV rfl) ?_ | refine QW_of (Qt_lookVCE rfl) ?_ | refine QW_of (Qt_lookVE rfl) ?_)) | (refine RE ?_; try intro _) | refine RC ?_ | refine WG 0 ?_)
  rename_i x3
  obtain ⟨o3, ho3⟩ : ∃ o3, o3 = (x3, Obj.cells #[Value.int .i64 x.bin, Value.int .i64 x.span] 69 (0, 0)) := ⟨_, rfl⟩
  repeat (first | refine RQ ?_ | (refine WL_Q ?_; (first | refine QW_of (Qt_fieldV rfl) ?_ | refine QW_of (Qt_lookVCE rfl) ?_ | refine QW_of (Qt_lookVE rfl) ?_)) | (refine RE ?_; try intro _) | refine RC ?_ | refine WG 1 ?_)
  rw [← ho3]
  refine WL_op rfl (OW_permT2 (L' := S ++ (o3 :: F)) List.perm_middle ?_)
  refine OW_call rfl (hF := find_fn hT (hIn.mem fun q hq => .tail _ hq) (fun q hq => .tail _ (hG q hq)) h x.key) (hk := ?_)
  rintro _ _ ⟨S', X, l, is, rfl, hL, hR, rfl⟩
  obtain rfl : is = true := (HandL.find hR).2 ⟨x, hx, rfl⟩
  obtain ⟨rv, av, hX, hLe⟩ := id hL
  obtain ⟨mb, es, cl, ps, rfl, hE, hP⟩ := id hX
  have hz5 : l.toArray.size = 5 := hR.1
  have hal : (l.toArray.toList.all fun v => v.oneCell') = true := by simpa [List.all_eq_true] using hR.2.1
  refine WL_permT (L' := o3 :: (hb, Obj.cells (hnC tb w mb (((t.cmds.length : Nat) : Int) + 1) rv av) 150 (0, 0)) :: (mb, Obj.map es cl) :: (X ++ F)) (perm_hf3 ..).symm ?_
  subst ho3
  have hv := hP x.key
  repeat (first | refine RQ ?_ | (refine WL_Q ?_; (first | refine QW_of (Qt_fieldV rfl) ?_ | refine QW_of (Qt_lookVCE rfl) ?_ | refine QW_of (Qt_lookVE rfl) ?_)) | (refine RE ?_; try intro _) | refine RC ?_ | refine WG 1 ?_)
  rename_i x5
  have him : ((x5, Obj.cells l.toArray 156 (0, 0)) :: (x3, Obj.cells #[Value.int .i64 x.bin, Value.int .i64 x.span] 69 (0, 0)) :: (hb, Obj.cells (hnC tb w mb (((t.cmds.length : Nat) : Int) + 1) rv av) 150 (0, 0)) :: (mb, Obj.map es cl) :: (X ++ F))[3]? = some (mb, Obj.map es cl) := rfl
  repeat (first | refine RQr ?_ | ((first | refine WL_Q ?_ | refine WL_Y ?_ | refine WR_Q rfl ?_ | refine WR_late rfl rfl rfl (OW_Q ?_) | refine WR_Y rfl ?_); (first | refine QW_of (Qt_fieldV rfl) ?_ | refine QW_of (Qt_lookVCE rfl) ?_ | refine QW_of (Qt_lookVE rfl) ?_)) | refine RC ?_ | refine RU ?_ | refine WC_draw_all (id := 2) 11 (Cs [0,1,2,3,4,5,6,7,8,9,10] <| .done) mixed (by kernel_rfl) ?_)
  exact ⟨rfl, _, _, Res1 rfl (resV_tmp rfl), .cons _ (.cons _ (.refl _)), [_, _], X, rfl, hL, rfl⟩
theorem hown_inj {w : Int} {t : TbV} {x y : OwnV} (hx : x ∈ hownL w t 8) (hy : y ∈ hownL w t 8) (h : x.key = y.key) : x = y := by
  obtain ⟨b, i, q, hb, h1, h2, rfl⟩ := hownL_mem.1 hx
  obtain ⟨b', i', q', hb', h1', h2', rfl⟩ := hownL_mem.1 hy
  have e1 : (b : Int) = b' := congrArg Prod.fst h
  have e2 : (i : Int) = i' := congrArg Prod.snd h
  obtain rfl : b = b' := by omega
  obtain rfl : i = i' := by omega
  rw [h1] at h1'
  cases h1'
  rfl
theorem FindR.own {G : List (Nat × Obj)} {t : TbV} {w : Int} {l : List Value} {is : Bool} {x : OwnV} (h : FindR G t w x.key l is) (hx : x ∈ hownL w t 8) : is = true ∧ ∃ pv, l = owC x pv ∧ NxAt G pv x.nx := by
  have hi := (HandL.find h).2 ⟨x, hx, rfl⟩
  refine ⟨hi, ?_⟩
  obtain ⟨_, _, ⟨h1, y, h2, h3, pv, h4, h5⟩ | ⟨h1, h2⟩⟩ := h
  · obtain rfl := hown_inj h2 hx h3
    exact ⟨pv, h4, h5⟩
  · rw [h1] at hi
    cases hi
theorem HandX.put {ps : List (PlK × Value)} {m : PlK → Bool × Bool} {x : PlK} {v : Bool × Bool} (hP : ∀ p, (vGet ps p).getD (.agg zc158) = stV (m p)) : ∀ p, (vGet (vPut ps x (stV v)) p).getD (.agg zc158) = stV (if p = x then v else m p) := fun p => by
  rw [vGet_put]
  split
  · rfl
  · exact hP p
set_option maxHeartbeats 4000000 in
theorem hGot_fn {hb tb : Nat} {t : TbV} {w : Int} {m : PlK → Bool × Bool} {S G F : List (Nat × Obj)} (hT : TbOk t) (hIn : TabIn tb F t) (hG : ∀ q ∈ G, q ∈ F) (h : HandAt hb tb S G t w m) {x : OwnV} (hx : x ∈ hownL w t 8) (h0 : x.span ≠ 0) (hm : (m x.key).1 = false) : Fn Tryz.prog 27 [.pointer (some ⟨hb, 0, none⟩), pairK x.key] (S ++ F) (fun v L' => ∃ S' X, L' = S' ++ (X ++ F) ∧ HandL hb tb S' (X ++ G) t w (fun p => if p = x.key then (true, (m x.key).2) else m p) ∧ v = iV 0) := by
  refine Fn_enter Tryz.func27 rfl Tryz.ntmps27 rfl fun g => ?_
  repeat (first | refine RQ ?_ | (refine WL_Q ?_; (first | refine QW_of (Qt_fieldV rfl) ?_ | refine QW_of (Qt_lookVCE rfl) ?_ | refine QW_of (Qt_lookVE rfl) ?_)) | (refine RE ?_; try intro _) | refine RC ?_ | refine WG 0 ?_ | refine WG 1 ?_)
  rename_i x3
  obtain ⟨o3, ho3⟩ : ∃ o3, o3 = (x3, Obj.cells #[Value.int .i64 x.bin, Value.int .i64 x.span] 69 (0, 0)) := ⟨_, rfl⟩
  repeat (first | refine RQ ?_ | (refine WL_Q ?_; (first | refine QW_of (Qt_fieldV rfl) ?_ | refine QW_of (Qt_lookVCE rfl) ?_ | refine QW_of (Qt_lookVE rfl) ?_)) | (refine RE ?_; try intro _) | refine RC ?_ | refine WG 3 ?_)
  rw [← ho3]
  refine WL_op rfl (OW_permT2 (L' := S ++ (o3 :: F)) List.perm_middle ?_)
  refine OW_call rfl (hF := find_fn hT (hIn.mem fun q hq => .tail _ hq) (fun q hq => .tail _ (hG q hq)) h x.key) (hk := ?_)
  rintro _ _ ⟨S', X, l, is, rfl, hL, hR, rfl⟩
  obtain ⟨rfl, _⟩ := hR.own hx
  obtain ⟨rv, av, hX, hLe⟩ := id hL
  obtain ⟨mb, es, cl, ps, rfl, hE, hP⟩ := id hX
  have hz5 : l.toArray.size = 5 := hR.1
  have hal : (l.toArray.toList.all fun v => v.oneCell') = true := by simpa [List.all_eq_true] using hR.2.1
  refine WL_permT (L' := o3 :: (hb, Obj.cells (hnC tb w mb (((t.cmds.length : Nat) : Int) + 1) rv av) 150 (0, 0)) :: (mb, Obj.map es cl) :: (X ++ F)) (perm_hf3 ..).symm ?_
  subst ho3
  have hv := hP x.key
  have e1 : (decide (x.key.2 = 0) || (m x.key).1) = false := by rw [hm, decide_eq_false h0]; rfl
  repeat (first | refine RQ ?_ | (refine WL_Q ?_; (first | refine QW_of (Qt_fieldV rfl) ?_ | refine QW_of (Qt_lookVCE rfl) ?_ | refine QW_of (Qt_lookVE rfl) ?_)) | (refine RE ?_; try intro _) | refine RC ?_ | refine WG 3 ?_ | refine WG 4 ?_)
  rename_i x5
  repeat (first | refine RQ ?_ | (refine WL_Q ?_; (first | refine QW_of (Qt_fieldV rfl) ?_ | refine QW_of (Qt_lookVCE rfl) ?_ | refine QW_of (Qt_lookVE rfl) ?_)) | (refine WL_op rfl ?_; (first | refine OW_callP rfl (hF := whole_fn hX (fun q hq => .tail _ (.tail _ (List.mem_append_left (X ++ F) hq))) x.key) (hk := ?_) | refine OW_callP rfl (hF := whole_fn hX (fun q hq => .tail _ (.tail _ (List.mem_append_left (X ++ F) hq))) x.key) (hk := ?_))) | refine RC ?_ | refine WG 6 ?_)
  have him : ((x5, Obj.cells l.toArray 156 (0, 0)) :: (x3, Obj.cells #[Value.int .i64 x.bin, Value.int .i64 x.span] 69 (0, 0)) :: (hb, Obj.cells (hnC tb w mb (((t.cmds.length : Nat) : Int) + 1) rv av) 150 (0, 0)) :: (mb, Obj.map es cl) :: (X ++ F))[3]? = some (mb, Obj.map es cl) := rfl
  repeat (first | refine RQr ?_ | (refine RX ?_; (first | refine QW_of (Qt_fieldV rfl) ?_ | refine QW_of (Qt_lookVCE rfl) ?_ | refine QW_of (Qt_lookVE rfl) ?_)) | ((first | refine WL_op rfl ?_ | refine WR_late rfl rfl rfl ?_ | refine WR_op rfl rfl ?_); (first | (refine OE ?_; try intro _)); try refine SD ?_) | refine RC ?_ | refine RU ?_ | refine WC_draw_all (id := 8) 7 (Cs [0,1,2,3,4,5] <| .must 6 <| .must 7 <| .done) mixed (by kernel_rfl) ?_ | refine WG 9 ?_)
  repeat (first | refine RQr ?_ | (refine RX ?_; (first | refine QW_of (Qt_fieldV rfl) ?_ | refine QW_of (Qt_lookVCE rfl) ?_ | refine QW_of (Qt_lookVE rfl) ?_)) | refine RC ?_ | refine RU ?_ | refine WC_draw_all (id := 10) 6 (Cs [0,1,2,3,4,5] <| .must 6 <| .done) mixed (by kernel_rfl) ?_)
  refine WR_late rfl rfl rfl (OW_mapPutV (n := x.key) (v := stV (true, (m x.key).2)) rfl rfl rfl rfl (i := 4) rfl hE fun es3 cl3 hE3 => ?_)
  repeat (first | refine RQr ?_ | (refine RX ?_; (first | refine QW_of (Qt_fieldV rfl) ?_ | refine QW_of (Qt_lookVCE rfl) ?_ | refine QW_of (Qt_lookVE rfl) ?_)) | refine RC ?_ | refine RU ?_ | refine WC_draw_all (id := 10) 6 (Cs [0,1,2,3,4,5] <| .must 6 <| .done) mixed (by kernel_rfl) ?_ | refine WG 11 ?_)
  exact ⟨rfl, _, _, Res1 rfl (resV_tmp rfl), .cons _ (.cons _ (.cons _ (.refl _))), [_, _], X, rfl, ⟨rv, av, ⟨mb, es3, cl3, _, rfl, hE3, HandX.put hP⟩, hLe⟩, rfl⟩
set_option maxHeartbeats 4000000 in
theorem hGave_fn {hb tb : Nat} {t : TbV} {w : Int} {m : PlK → Bool × Bool} {S G F : List (Nat × Obj)} (hT : TbOk t) (hIn : TabIn tb F t) (hG : ∀ q ∈ G, q ∈ F) (h : HandAt hb tb S G t w m) {x : OwnV} (hx : x ∈ hownL w t 8) {n : Int × Int} (hn : x.nx = some n) (hw : (decide (x.span = 0) || (m x.key).1) = true) (hm : (m x.key).2 = false) : Fn Tryz.prog 26 [.pointer (some ⟨hb, 0, none⟩), pairK x.key] (S ++ F) (fun v L' => ∃ S' X, L' = S' ++ (X ++ F) ∧ HandL hb tb S' (X ++ G) t w (fun p => if p = x.key then ((m x.key).1, true) else m p) ∧ v = iV 0) := by
  refine Fn_enter Tryz.func26 rfl Tryz.ntmps26 rfl fun g => ?_
  repeat (first | refine RQ ?_ | (refine WL_Q ?_; (first | refine QW_of (Qt_fieldV rfl) ?_ | refine QW_of (Qt_lookVCE rfl) ?_ | refine QW_of (Qt_lookVE rfl) ?_)) | (refine RE ?_; try intro _) | refine RC ?_ | refine WG 0 ?_ | refine WG 1 ?_)
  rename_i x3
  obtain ⟨o3, ho3⟩ : ∃ o3, o3 = (x3, Obj.cells #[Value.int .i64 x.bin, Value.int .i64 x.span] 69 (0, 0)) := ⟨_, rfl⟩
  repeat (first | refine RQ ?_ | (refine WL_Q ?_; (first | refine QW_of (Qt_fieldV rfl) ?_ | refine QW_of (Qt_lookVCE rfl) ?_ | refine QW_of (Qt_lookVE rfl) ?_)) | (refine RE ?_; try intro _) | refine RC ?_ | refine WG 3 ?_)
  rw [← ho3]
  refine WL_op rfl (OW_permT2 (L' := S ++ (o3 :: F)) List.perm_middle ?_)
  refine OW_call rfl (hF := find_fn hT (hIn.mem fun q hq => .tail _ hq) (fun q hq => .tail _ (hG q hq)) h x.key) (hk := ?_)
  rintro _ _ ⟨S', X, l, is, rfl, hL, hR, rfl⟩
  obtain ⟨rfl, pv, rfl, hpv⟩ := hR.own hx
  rw [hn] at hpv
  obtain ⟨nb, nof, ncs, nE, nfr, rfl, _⟩ := hpv
  obtain ⟨rv, av, hX, hLe⟩ := id hL
  obtain ⟨mb, es, cl, ps, rfl, hE, hP⟩ := id hX
  have hz5 : (owC x (.pointer (some ⟨nb, nof, none⟩))).toArray.size = 5 := rfl
  have hal : ((owC x (.pointer (some ⟨nb, nof, none⟩))).toArray.toList.all fun v => v.oneCell') = true := by simpa [List.all_eq_true] using hR.2.1
  have h54 : (owC x (.pointer (some ⟨nb, nof, none⟩))).toArray[4]? = some (.pointer (some ⟨nb, nof, none⟩)) := rfl
  refine WL_permT (L' := o3 :: (hb, Obj.cells (hnC tb w mb (((t.cmds.length : Nat) : Int) + 1) rv av) 150 (0, 0)) :: (mb, Obj.map es cl) :: (X ++ F)) (perm_hf3 ..).symm ?_
  subst ho3
  have hv := hP x.key
  have e1 : (!(decide (x.key.2 = 0) || (m x.key).1)) = false := by rw [hw]; rfl
  repeat (first | refine RQ ?_ | (refine WL_Q ?_; (first | refine QW_of (Qt_fieldV rfl) ?_ | refine QW_of (Qt_lookVCE rfl) ?_ | refine QW_of (Qt_lookVE rfl) ?_)) | (refine RE ?_; try intro _) | refine RC ?_ | refine WG 3 ?_ | refine WG 4 ?_)
  rename_i x5
  have him : ((x5, Obj.cells (owC x (.pointer (some ⟨nb, nof, none⟩))).toArray 156 (0, 0)) :: (x3, Obj.cells #[Value.int .i64 x.bin, Value.int .i64 x.span] 69 (0, 0)) :: (hb, Obj.cells (hnC tb w mb (((t.cmds.length : Nat) : Int) + 1) rv av) 150 (0, 0)) :: (mb, Obj.map es cl) :: (X ++ F))[3]? = some (mb, Obj.map es cl) := rfl
  repeat (first | refine RQr ?_ | ((first | refine WL_Q ?_ | refine WL_Y ?_ | refine WR_Q rfl ?_ | refine WR_late rfl rfl rfl (OW_Q ?_) | refine WR_Y rfl ?_); (first | refine QW_of (Qt_fieldV rfl) ?_ | refine QW_of (Qt_lookVCE rfl) ?_ | refine QW_of (Qt_lookVE rfl) ?_)) | ((first | refine WL_op rfl ?_ | refine WL_yes (h := ?_) | refine WR_late rfl rfl rfl ?_ | refine WR_opG rfl rfl ?_ | refine WR_opYG rfl (h := ?_)); (first | refine OW_callP rfl (hF := whole_fn hX (fun q hq => .tail _ (.tail _ (List.mem_append_left (X ++ F) hq))) x.key) (hk := ?_) | refine OW_callP rfl (hF := whole_fn hX (fun q hq => .tail _ (.tail _ (List.mem_append_left (X ++ F) hq))) x.key) (hk := ?_) | refine OW_callP rfl (hF := whole_fn hX (fun q hq => .tail _ (.tail _ (List.mem_append_left (X ++ F) hq))) x.key) (hk := ?_)); try refine SD ?_) | refine RC ?_ | refine RU ?_ | refine WC_draw_all (id := 6) 8 (Cs [0,1,2,3,4,5,6,7] <| .done) mixed (by kernel_rfl) ?_ | refine WG 4 ?_ | refine WG 8 ?_)
  repeat (first | refine RQr ?_ | (refine RX ?_; (first | refine QW_of (Qt_fieldV rfl) ?_ | refine QW_of (Qt_lookVCE rfl) ?_ | refine QW_of (Qt_lookVE rfl) ?_)) | ((first | refine WL_op rfl ?_ | refine WR_late rfl rfl rfl ?_ | refine WR_op rfl rfl ?_); (first | (refine OE ?_; try intro _)); try refine SD ?_) | refine RC ?_ | refine RU ?_ | refine WC_draw_all (id := 10) 7 (Cs [0,1,2,3,4,5] <| .must 6 <| .must 7 <| .done) mixed (by kernel_rfl) ?_ | refine WG 11 ?_)
  repeat (first | refine RQr ?_ | (refine RX ?_; (first | refine QW_of (Qt_fieldV rfl) ?_ | refine QW_of (Qt_lookVCE rfl) ?_ | refine QW_of (Qt_lookVE rfl) ?_)) | refine RC ?_ | refine RU ?_ | refine WC_draw_all (id := 12) 6 (Cs [0,1,2,3,4,5] <| .must 6 <| .done) mixed (by kernel_rfl) ?_)
  refine WR_late rfl rfl rfl (OW_mapPutV (n := x.key) (v := stV ((m x.key).1, true)) rfl rfl rfl rfl (i := 4) rfl hE fun es3 cl3 hE3 => ?_)
  repeat (first | refine RQr ?_ | (refine RX ?_; (first | refine QW_of (Qt_fieldV rfl) ?_ | refine QW_of (Qt_lookVCE rfl) ?_ | refine QW_of (Qt_lookVE rfl) ?_)) | refine RC ?_ | refine RU ?_ | refine WC_draw_all (id := 12) 6 (Cs [0,1,2,3,4,5] <| .must 6 <| .done) mixed (by kernel_rfl) ?_ | refine WG 13 ?_)
  exact ⟨rfl, _, _, Res1 rfl (resV_tmp rfl), .cons _ (.cons _ (.cons _ (.refl _))), [_, _], X, rfl, ⟨rv, av, ⟨mb, es3, cl3, _, rfl, hE3, HandX.put hP⟩, hLe⟩, rfl⟩
set_option maxHeartbeats 2000000 in
theorem hLimit_fn {hb tb : Nat} {t : TbV} {w : Int} {m : PlK → Bool × Bool} {S G F : List (Nat × Obj)} (hT : TbOk t) (hIn : TabIn tb F t) (hG : ∀ q ∈ G, q ∈ F) (h : HandAt hb tb S G t w m) {x : OwnV} (hx : x ∈ hownL w t 8) : Fn Tryz.prog 83 [.pointer (some ⟨hb, 0, none⟩), pairK x.key] (S ++ F) (fun v L' => ∃ S' X, L' = S' ++ (X ++ F) ∧ HandL hb tb S' (X ++ G) t w m ∧ v = iV (match x.nx with | some n => n.1 | none => 1152921504606846976)) := by
  refine Fn_enter Tryz.func83 rfl Tryz.ntmps83 rfl fun g => ?_
  repeat (first | refine RQ ?_ | (refine WL_Q ?_; (first | refine QW_of (Qt_fieldV rfl) ?_ | refine QW_of (Qt_lookVCE rfl) ?_ | refine QW_of (Qt_lookVE rfl) ?_)) | (refine RE ?_; try intro _) | refine RC ?_ | refine WG 0 ?_)
  rename_i x3
  obtain ⟨o3, ho3⟩ : ∃ o3, o3 = (x3, Obj.cells #[Value.int .i64 x.bin, Value.int .i64 x.span] 69 (0, 0)) := ⟨_, rfl⟩
  repeat (first | refine RQ ?_ | (refine WL_Q ?_; (first | refine QW_of (Qt_fieldV rfl) ?_ | refine QW_of (Qt_lookVCE rfl) ?_ | refine QW_of (Qt_lookVE rfl) ?_)) | (refine RE ?_; try intro _) | refine RC ?_ | refine WG 1 ?_)
  rw [← ho3]
  refine WL_op rfl (OW_permT2 (L' := S ++ (o3 :: F)) List.perm_middle ?_)
  refine OW_call rfl (hF := find_fn hT (hIn.mem fun q hq => .tail _ hq) (fun q hq => .tail _ (hG q hq)) h x.key) (hk := ?_)
  rintro _ _ ⟨S', X, l, is, rfl, hL, hR, rfl⟩
  obtain ⟨rfl, pv, rfl, hpv⟩ := hR.own hx
  obtain ⟨rv, av, hX, hLe⟩ := id hL
  obtain ⟨mb, es, cl, ps, rfl, hE, hP⟩ := id hX
  have hz5 : (owC x pv).toArray.size = 5 := rfl
  have hal : ((owC x pv).toArray.toList.all fun v => v.oneCell') = true := by simpa [List.all_eq_true] using hR.2.1
  have h54 : (owC x pv).toArray[4]? = some pv := rfl
  refine WL_permT (L' := o3 :: (hb, Obj.cells (hnC tb w mb (((t.cmds.length : Nat) : Int) + 1) rv av) 150 (0, 0)) :: (mb, Obj.map es cl) :: (X ++ F)) (perm_hf3 ..).symm ?_
  cases hn : x.nx with
  | none =>
    rw [hn] at hpv
    obtain rfl : pv = .pointer none := hpv
    repeat (first | refine RQ ?_ | (refine WL_Q ?_; (first | refine QW_of (Qt_fieldV rfl) ?_ | refine QW_of (Qt_lookVCE rfl) ?_ | refine QW_of (Qt_lookVE rfl) ?_)) | (refine RE ?_; try intro _) | refine RC ?_ | refine WG 1 ?_ | refine WG 3 ?_ | refine WG 5 ?_ | refine WG 6 ?_)
    exact ⟨rfl, _, _, Res1 rfl (resV_tmp rfl), .cons _ (.cons _ (.refl _)), [_, _], X, rfl, hL, rfl⟩
  | some n =>
    rw [hn] at hpv
    obtain ⟨nb, nof, ncs, nE, nfr, rfl, hnm, hn1, hn2⟩ := hpv
    repeat (first | refine RQ ?_ | (refine WL_Q ?_; (first | refine QW_of (Qt_fieldV rfl) ?_ | refine QW_of (Qt_lookVCE rfl) ?_ | refine QW_of (Qt_lookVE rfl) ?_)) | (refine RE ?_; try intro _) | refine RC ?_ | refine WG 1 ?_)
    rename_i x5
    obtain ⟨ii, hii⟩ := List.mem_iff_getElem?.1 (show (nb, Obj.cells ncs nE nfr) ∈ (x5, Obj.cells (owC x (.pointer (some ⟨nb, nof, none⟩))).toArray 156 (0, 0)) :: o3 :: (hb, Obj.cells (hnC tb w mb (((t.cmds.length : Nat) : Int) + 1) rv av) 150 (0, 0)) :: (mb, Obj.map es cl) :: (X ++ F) from .tail _ (.tail _ (.tail _ (.tail _ (by
      rcases List.mem_append.1 hnm with h | h
      · exact List.mem_append_left _ h
      · exact List.mem_append_right _ (hG _ h))))))
    repeat (first | refine RQ ?_ | (refine WL_Q ?_; (first | refine QW_of (Qt_fieldV rfl) ?_ | refine QW_of (Qt_lookVCE rfl) ?_ | refine QW_of (Qt_lookVE rfl) ?_)) | refine RC ?_ | refine WG 3 ?_ | refine WG 5 ?_ | refine WG 2 ?_)
    exact ⟨rfl, _, _, Res1 rfl (resV_tmp rfl), .cons _ (.cons _ (.refl _)), [_, _], X, rfl, hL, rfl⟩
end Go.Proofs.YtncgndcepoicbaaGreat
namespace Go.Proofs.YtncgndcepoicbaaGreat
open Go.RowKit
def b8 : List Int := [0, 1, 2, 3, 4, 5, 6, 7]
theorem b8_mem {b : Int} : b ∈ b8 ↔ 0 ≤ b ∧ b < 8 := by
  simp only [b8, List.mem_cons, List.not_mem_nil, or_false]
  omega
end Go.Proofs.YtncgndcepoicbaaGreat
namespace Go.Proofs.YtncgndcepoicbaaGreat
open Go.RowKit
def wngF (m : PlK → Bool × Bool) (x : OwnV) : Bool := (decide (x.span = 0) || (m x.key).1) && !(m x.key).2
def sngL (t : TbV) (g : Nat → Nat) (fl : List (PlK × Int)) (w : Int) : List Int := ((hownL w t 8).filter (wngF (chS t g fl w))).map OwnV.bin
theorem wng_at {t : TbV} {g : Nat → Nat} {fl : List (PlK × Int)} (hC : Chain t g fl) {b i : Nat} {q : Int × Int} (hb : b < 8) (hq : (rowT t b)[i]? = some q) {n : Option (Int × Int)} {a : Int} : wngF (chS t g fl q.2) ⟨b, i, a, q.2, n⟩ = true ↔ i = g b ∧ (b : Int) ∉ fl.map fun f => f.1.1 := by
  have h0 : (b : Int) ∈ (fl.map fun f => f.1.1) → 0 < g b := fun h => by
    obtain ⟨f, hf, e⟩ := List.mem_map.1 h
    obtain ⟨b', q', hb', h1, h2, _⟩ := hC.fly f hf
    rw [h1] at e
    simp only at e
    obtain rfl : b' = b := by omega
    exact h2
  unfold wngF
  rw [show (OwnV.key ⟨b, i, a, q.2, n⟩) = ((b : Int), (i : Int)) from rfl, chS_at hb hq]
  simp only [Bool.and_eq_true, Bool.or_eq_true, decide_eq_true_eq, Bool.not_eq_true', decide_eq_false_iff_not]
  constructor
  · rintro ⟨h1 | ⟨h1, h2, h3⟩, h4⟩
    · have e : i = g b := by omega
      refine ⟨e, fun hf => ?_⟩
      have := h0 hf
      omega
    · have e : i = g b := by omega
      exact ⟨e, fun hf => h3 ⟨e, hf⟩⟩
  · rintro ⟨h1, h2⟩
    refine ⟨?_, by omega⟩
    by_cases hz : i = 0
    · left; omega
    · right; exact ⟨by omega, by omega, fun h => h2 h.2⟩
theorem sng_mem {t : TbV} {g : Nat → Nat} {fl : List (PlK × Int)} (hC : Chain t g fl) {w : Int} {b : Nat} (hb : b < 8) : (b : Int) ∈ sngL t g fl w ↔ ((rowT t b)[g b]?).map Prod.snd = some w ∧ (b : Int) ∉ fl.map fun f => f.1.1 := by
  unfold sngL
  rw [List.mem_map]
  constructor
  · rintro ⟨x, hx, e⟩
    obtain ⟨hx1, hx2⟩ := List.mem_filter.1 hx
    obtain ⟨b', i, q, hb', h1, rfl, rfl⟩ := hownL_mem.1 hx1
    simp only at e
    obtain rfl : b' = b := by omega
    obtain ⟨rfl, h3⟩ := (wng_at hC hb' h1).1 hx2
    rw [h1]
    exact ⟨rfl, h3⟩
  · rintro ⟨h1, h2⟩
    obtain ⟨q, hq, rfl⟩ := Option.map_eq_some_iff.1 h1
    exact ⟨_, List.mem_filter.2 ⟨hownL_mem.2 ⟨b, g b, q, hb, hq, rfl, rfl⟩, (wng_at hC hb hq).2 ⟨rfl, h2⟩⟩, rfl⟩
theorem sng_nodup {t : TbV} {g : Nat → Nat} {fl : List (PlK × Int)} (hC : Chain t g fl) {w : Int} : (sngL t g fl w).Nodup := by
  unfold sngL
  rw [List.Nodup, List.pairwise_map]
  have h1 : ((hownL w t 8).filter (wngF (chS t g fl w))).Pairwise plLt := (hownL_rise 8).sublist List.filter_sublist
  refine List.Pairwise.imp_of_mem (fun {x y} hx hy hxy => ?_) h1
  intro e
  obtain ⟨hx1, hx2⟩ := List.mem_filter.1 hx
  obtain ⟨hy1, hy2⟩ := List.mem_filter.1 hy
  obtain ⟨b, i, q, hb, g1, rfl, rfl⟩ := hownL_mem.1 hx1
  obtain ⟨b', i', q', hb', g2, e2, rfl⟩ := hownL_mem.1 hy1
  simp only at e
  obtain rfl : b = b' := by omega
  have a1 := ((wng_at hC hb g1).1 hx2).1
  rw [← e2] at hy2
  have a2 := ((wng_at hC hb g2).1 hy2).1
  rcases hxy with h | ⟨_, h⟩ <;> simp only at h <;> omega
theorem count_if {l : List Int} (h : l.Nodup) {b : Int} : l.count b = if b ∈ l then 1 else 0 := by
  rw [h.count]
theorem sng_one {t : TbV} {g : Nat → Nat} {fl : List (PlK × Int)} (hC : Chain t g fl) (h3 : One3 t) {b : Nat} (hb : b < 8) : (sngL t g fl 1 ++ sngL t g fl 2 ++ sngL t g fl 3 ++ fl.map fun f => f.1.1).count (b : Int) = 1 := by
  obtain ⟨q, hq⟩ : ∃ q, (rowT t b)[g b]? = some q := ⟨_, List.getElem?_eq_getElem (hC.lt b hb)⟩
  have ho := h3 b q hb (List.mem_of_getElem? hq)
  have hm := fun w => sng_mem hC (w := w) hb
  simp only [hq, Option.map_some, Option.some.injEq] at hm
  rw [List.count_append, List.count_append, List.count_append, count_if (sng_nodup hC), count_if (sng_nodup hC), count_if (sng_nodup hC), count_if hC.one]
  simp only [hm]
  by_cases hf : (b : Int) ∈ fl.map fun f => f.1.1
  · simp [hf]
  · have : q.2 = 1 ∨ q.2 = 2 ∨ q.2 = 3 := by omega
    rcases this with e | e | e <;> simp [hf, e]
def rdyL (t : TbV) (m : PlK → Bool × Bool) (w : Int) (f : Int) : List OwnV := (hownL w t 8).filter fun x => (match x.nx with | some q => decide (q.1 ≤ f) | none => false) && wngF m x
theorem rdy_mem {t : TbV} {g : Nat → Nat} {fl : List (PlK × Int)} (hC : Chain t g fl) {w f : Int} {x : OwnV} (h : x ∈ rdyL t (chS t g fl w) w f) : ∃ (b : Nat) (q q' : Int × Int), b < 8 ∧ (rowT t b)[g b]? = some q ∧ (rowT t b)[g b + 1]? = some q' ∧ q.2 = w ∧ (b : Int) ∉ (fl.map fun f => f.1.1) ∧ x = ⟨b, g b, q.1, w, some q'⟩ := by
  obtain ⟨h1, h2⟩ := List.mem_filter.1 h
  obtain ⟨b, i, q, hb, hq, rfl, rfl⟩ := hownL_mem.1 h1
  rw [Bool.and_eq_true] at h2
  obtain ⟨h2, h3⟩ := h2
  obtain ⟨rfl, h4⟩ := (wng_at hC hb hq).1 h3
  cases hn : (rowT t b)[g b + 1]? with
  | none => rw [hn] at h2; simp at h2
  | some q' => exact ⟨b, q, q', hb, hq, hn, rfl, h4, rfl⟩
theorem rdy_none {t : TbV} {g : Nat → Nat} {fl : List (PlK × Int)} (hC : Chain t g fl) (hT : TbOk t) {w : Int} (h : rdyL t (chS t g fl w) w (lastF t) = []) {b : Nat} {q : Int × Int} (hb : b < 8) (hq : (rowT t b)[g b]? = some q) (hw : q.2 = w) (hf : (b : Int) ∉ fl.map fun f => f.1.1) : (rowT t b).length = g b + 1 := by
  have hl := hC.lt b hb
  by_cases hlt : g b + 1 < (rowT t b).length
  · obtain ⟨q', hq'⟩ : ∃ q', (rowT t b)[g b + 1]? = some q' := ⟨_, List.getElem?_eq_getElem hlt⟩
    have hle := (hT.rowT hb).1.le q' (List.mem_of_getElem? hq')
    subst hw
    have : (⟨b, g b, q.1, q.2, (rowT t b)[g b + 1]?⟩ : OwnV) ∈ rdyL t (chS t g fl q.2) q.2 (lastF t) := List.mem_filter.2 ⟨hownL_mem.2 ⟨b, g b, q, hb, hq, rfl, rfl⟩, by
      rw [Bool.and_eq_true]
      refine ⟨?_, (wng_at hC hb hq).2 ⟨rfl, hf⟩⟩
      simp only [hq']
      exact decide_eq_true hle⟩
    rw [h] at this
    cases this
  · omega
def leftN (t : TbV) (g : Nat → Nat) (fl : List (PlK × Int)) : Nat := 2 * ((List.range 8).map fun b => (rowT t b).length - 1 - g b).sum + fl.length
theorem sum_upd {f : Nat → Nat} {b n : Nat} (hb : b < n) {v : Nat} (h : f b = v + 1) : ((List.range n).map fun x => if x = b then v else f x).sum + 1 = ((List.range n).map f).sum := by
  induction n with
  | zero => omega
  | succ n ih =>
    rw [List.range_succ, List.map_append, List.map_append, List.sum_append, List.sum_append]
    simp only [List.map_cons, List.map_nil, List.sum_cons, List.sum_nil, Nat.add_zero]
    by_cases e : n = b
    · subst e
      rw [if_pos rfl, h]
      have : ((List.range n).map fun x => if x = n then v else f x) = (List.range n).map f := List.map_congr_left fun x hx => by
        have := List.mem_range.1 hx
        rw [if_neg (by omega)]
      rw [this]
      omega
    · rw [if_neg e]
      have := ih (by omega)
      omega
theorem left_gave {t : TbV} {g : Nat → Nat} {fl : List (PlK × Int)} {b : Nat} {f : PlK × Int} (hb : b < 8) (h : g b + 1 < (rowT t b).length) : leftN t (fun x => if x = b then g b + 1 else g x) (fl ++ [f]) + 1 = leftN t g fl := by
  unfold leftN
  have e : ((List.range 8).map fun x => (rowT t x).length - 1 - (if x = b then g b + 1 else g x)) = (List.range 8).map fun x => if x = b then (rowT t b).length - 1 - (g b + 1) else (rowT t x).length - 1 - g x := List.map_congr_left fun x _ => by
    by_cases hx : x = b
    · subst hx; simp
    · rw [if_neg hx, if_neg hx]
  have := sum_upd (f := fun x => (rowT t x).length - 1 - g x) (b := b) (n := 8) hb (v := (rowT t b).length - 1 - (g b + 1)) (by omega)
  rw [e, List.length_append]
  simp only [List.length_cons, List.length_nil]
  omega
theorem left_got {t : TbV} {g : Nat → Nat} {fl : List (PlK × Int)} {k : Nat} (h : k < fl.length) : leftN t g (fl.eraseIdx k) + 1 = leftN t g fl := by
  unfold leftN
  rw [List.length_eraseIdx_of_lt h]
  omega
theorem few_len : ∀ (n : Nat) {l : List Int}, l.Nodup → (∀ y ∈ l, 0 ≤ y ∧ y < n) → l.length ≤ n
  | 0, l, _, h => by
    cases l with
    | nil => exact Nat.le_refl _
    | cons y r => have := h y (.head _); omega
  | n + 1, l, hn, h => by
    have ih := few_len n (l := l.erase (n : Int)) (hn.erase _) fun y hy => by
      obtain ⟨h1, h2⟩ := (hn.mem_erase_iff).1 hy
      have := h y h2
      omega
    have h1 := List.length_erase (a := (n : Int)) (l := l)
    split at h1 <;> omega
theorem left_le {t : TbV} {g : Nat → Nat} {fl : List (PlK × Int)} (hC : Chain t g fl) (hT : TbOk t) : leftN t g fl ≤ 1040 := by
  have h1 : ∀ n, n ≤ 8 → ((List.range n).map fun b => (rowT t b).length - 1 - g b).sum ≤ n * 64 := fun n hn => by
    induction n with
    | zero => simp
    | succ n ih =>
      have := ih (by omega)
      have hs := hT.short (rowT t n) (List.mem_of_getElem? (hT.rowT (b := n) (by omega)).2)
      have := hT.few
      rw [List.range_succ, List.map_append, List.sum_append]
      simp only [List.map_cons, List.map_nil, List.sum_cons, List.sum_nil, Nat.add_zero]
      omega
  have h2 : fl.length ≤ 8 := by
    have hb : ∀ y ∈ fl.map (fun f => f.1.1), 0 ≤ y ∧ y < 8 := fun y hy => by
      obtain ⟨f, hf, rfl⟩ := List.mem_map.1 hy
      obtain ⟨b, q, hb, h1, _⟩ := hC.fly f hf
      rw [h1]
      exact ⟨by show (0 : Int) ≤ b; omega, by show (b : Int) < 8; omega⟩
    have := few_len 8 hC.one hb
    rw [List.length_map] at this
    exact this
  have := h1 8 (Nat.le_refl _)
  unfold leftN
  omega
end Go.Proofs.YtncgndcepoicbaaGreat
