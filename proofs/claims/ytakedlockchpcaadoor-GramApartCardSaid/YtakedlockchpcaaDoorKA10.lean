/-
  A part of what the last of these texts needs; by itself it proves no statement.
-/
import Derived.ProofKit
import Derived.Deep.Slices
import Derived.OpenShut
import Derived.ChangeSame
import Derived.ChangeVars
import Derived.JoinedOf
import Derived.LaidLaws
import Derived.LaidHandle
import Derived.Stop.Joined
import Derived.Test.YtakedlockchpcaaDoorKA9
namespace Go.Proofs.YtakedlockchpcaaDoor
open Go.RowKit
attribute [local irreducible] Fn WC WL WR OW Qt YieldFn QW FnP FnD FnE
theorem as_nil_fn {t : Value} {L : List (Nat × Obj)} : Fn Tryd.prog 43 [.nilIface, t] L (fun v L' => v = .bool false ∧ L' = L) := by
  unfold Fn
  intro g w hm
  refine (as_nil t w).mono fun e w' ⟨he, hw'⟩ => ?_
  subst hw'
  exact ⟨_, _, he, hm, rfl, rfl⟩
theorem prN_pr {l : List UInt8} {a : Nat} : Fk.pr l a .nn = (prN l a).bind fun x b => .ok (.int .u64 x) b := by
  simp only [Fk.pr, prN]
  split <;> rfl
theorem PR.bind_bad' {α β : Type} {r : PR α} {f : α → β} {c a : Nat} (h : (r.bind fun x b => PR.ok (f x) b) = .bad c a) : r = .bad c a := by
  cases r with
  | ok x n => cases h
  | bad c' a' => cases h; rfl
theorem gcs_s0 {life chan x : Int} {ack : Bool} {seq room : Int} {ms : List Value} : (gcs life chan ack seq room ms).setIfInBounds 0 (.int .i64 x) = gcs x chan ack seq room ms := by unfold gcs; simp
theorem gcs_s1 {life chan x : Int} {ack : Bool} {seq room : Int} {ms : List Value} : (gcs life chan ack seq room ms).setIfInBounds 1 (.int .i64 x) = gcs life x ack seq room ms := by unfold gcs; simp
theorem gcs_s2 {life chan : Int} {ack x : Bool} {seq room : Int} {ms : List Value} : (gcs life chan ack seq room ms).setIfInBounds 2 (.bool x) = gcs life chan x seq room ms := by unfold gcs; simp
theorem gcs_s3 {life chan x : Int} {ack : Bool} {seq room : Int} {ms : List Value} : (gcs life chan ack seq room ms).setIfInBounds 3 (.int .u64 x) = gcs life chan ack x room ms := by unfold gcs; simp
theorem GramOk.one {g : GV} {cs : Array Value} {T : List (Nat × Obj)} (h : GramOk g cs T) (hm : g.m.Ok) : (cs.toList.all fun v => v.oneCell') = true := by
  obtain ⟨vb, ve, T1, T2, _, b1, b2, rfl⟩ := h
  show ((_ :: _ :: _ :: _ :: _ :: g.m.cellsV vb ve).all _) = true
  have := MV.cellsV_one hm b1.one b2.one
  simp only [List.all_cons, this]; rfl
theorem GramOk.size {g : GV} {cs : Array Value} {T : List (Nat × Obj)} (h : GramOk g cs T) (hm : g.m.Ok) : cs.size = 29 := by
  obtain ⟨vb, ve, T1, T2, _, b1, b2, rfl⟩ := h
  rw [gcs_size, MV.cellsV_len hm]
def GotAt (l : List UInt8) (F : List (Nat × Obj)) (v : Value) (L' : List (Nat × Obj)) : Prop :=
  (∃ g b T cs', prGram l = .ok g b ∧ GramOk g cs' T ∧ v = .tuple #[.agg cs', .nilIface] ∧ L' = F ++ T) ∨
  (∃ c e p, prGram l = .bad c e ∧ v = .tuple #[.agg zc52, flt p] ∧ L' = (p, fltO c e) :: F)
theorem HandleIn.left {L : List (Nat × Obj)} (B : List (Nat × Obj)) (h : HandleIn L) : HandleIn (L ++ B) := by
  obtain ⟨cs, E, fr, h1, h2⟩ := h
  exact ⟨cs, E, fr, List.mem_append_left _ h1, h2⟩
theorem WC_dropS {c : Cx} {code : Code} {K : Exit → St → Prop} {s : List (Nat × Value)} {D : List Deferred} {L L' : List (Nat × Obj)} (hs : L'.Sublist L) (h : WC c code K ⟨s, D, L'⟩) : WC c code K ⟨s, D, L⟩ := WC_dropL L' hs h
theorem bind_okf {α β : Type} {x : α} {a : Nat} {f : α → Nat → PR β} {r : PR α} (h : r = .ok x a) : r.bind f = f x a := by rw [h]; rfl
theorem bind_badf {α β : Type} {c a : Nat} {f : α → Nat → PR β} {r : PR α} (h : r = .bad c a) : r.bind f = .bad c a := by rw [h]; rfl
set_option maxHeartbeats 8000000 in
set_option maxRecDepth 100000 in
theorem Get_fn {l : List UInt8} (hl : l.length ≤ 1000000000) {L : List (Nat × Obj)} (hH : HandleIn L) : Fn Tryd.prog 17 [.string (bstr l)] L (GotAt l L) := by
  refine Fn_enter Tryd.func17 rfl Tryd.ntmps17 rfl fun g => ?_
  repeat (first | refine RQ ?_ | (refine RE ?_; try intro _) | ((first | refine WL_op rfl ?_); (first | (refine OW_call rfl (hF := new_rd) (hk := ?_); rintro _ _ ⟨rb, rfl, rfl⟩))) | refine RC ?_ | refine WC_region (id := 0) ?_ | refine WC_region (id := 1) ?_ | refine WC_region (id := 2) ?_ | refine WC_region (id := 3) ?_)
  rename_i res gb cb
  repeat (first | refine RQr ?_ | ((first | refine WL_op rfl ?_ | refine WR_late rfl rfl rfl ?_ | refine WR_opG rfl rfl ?_); (first | (refine OW_call rfl (hF := number_fn (most := 65535)) (hk := ?_); rintro _ _ ⟨b3, b4, b5, rfl, rfl⟩) | (refine OW_call rfl (hF := number_fn (most := 99)) (hk := ?_); rintro _ _ ⟨b3, b4, b5, rfl, rfl⟩)); try refine SD ?_) | refine RC ?_ | refine RU ?_ | refine WC_draw_all (id := 4) 14 (.calm 0 <| .calm 1 <| .calm 3 <| .calm 4 <| .calm 6 <| .calm 7 <| .calm 8 <| .calm 9 <| .calm 10 <| .calm 13 <| .must 2 <| .must 5 <| .must 11 <| .calm 12 <| .done) mixed (by kernel_rfl) ?_)
  rename_i x3 x4 x5
  refine WR_opG rfl rfl (OW_buildS rfl (hk := ?_))
  intro sb
  refine ⟨(by first | exact fun _ h => h | exact fun _ h => List.Sublist.subset (by repeat (first | exact .refl _ | exact List.nil_sublist _ | exact List.sublist_append_right _ _ | exact List.Sublist.append (.refl _) (List.sublist_append_right _ _) | apply List.Sublist.cons_cons | apply List.Sublist.cons)) h), ?_⟩
  repeat (first | refine RQr ?_ | ((first | refine WL_op rfl ?_ | refine WR_late rfl rfl rfl ?_ | refine WR_opG rfl rfl ?_); (first | (refine OW_call rfl (hF := number_fn (most := 65535)) (hk := ?_); rintro _ _ ⟨b3, b4, b5, rfl, rfl⟩) | (refine OW_call rfl (hF := number_fn (most := 99)) (hk := ?_); rintro _ _ ⟨b3, b4, b5, rfl, rfl⟩)); try refine SD ?_) | refine RC ?_ | refine RU ?_ | refine WC_draw_all (id := 4) 14 (.calm 0 <| .calm 1 <| .calm 3 <| .calm 4 <| .calm 6 <| .calm 7 <| .calm 8 <| .calm 9 <| .calm 10 <| .calm 13 <| .must 2 <| .must 5 <| .must 11 <| .calm 12 <| .done) mixed (by kernel_rfl) ?_)
  refine WC_wk [(24, .slice (some ⟨sb, 0, none⟩) 6 6), (25, .int .i64 6), (26, .int .i64 0), (4, ptr gb 0), (2, ptr res 0)] ⟨rfl, rfl, rfl, rfl, rfl, trivial⟩ ?_
  refine WC_dropL ((sb, .cells #[.func (.func 55) #[] #[ptr x3 0, ptr x5 0, ptr x4 0], .func (.func 55) #[] #[ptr b3 0, ptr b5 0, ptr b4 0], .func (.func 39) #[] #[ptr cb 0, ptr gb 0], .func (.func 41) #[] #[ptr cb 0, ptr gb 0], .func (.func 37) #[] #[ptr gb 0, ptr cb 0], .func (.func 11) #[ptr rb 0] #[]] 47 (0, 0)) :: bxN b5 99 :: bxT b4 gb 1 :: bxR b3 rb :: bxN x5 65535 :: bxT x4 gb 0 :: bxR x3 rb :: bxR cb rb :: (rb, rdO l 0) :: (gb, gmO (gcs 0 0 false 0 0 zMsg)) :: (res, gmO zc52) :: L) (.refl _) ?_
  refine WC_unroll 7 (WCn_s ?_)
  have hsz : ∀ {a b : Int} {k : Bool} {s r : Int}, (gcs a b k s r zMsg).size = 29 := rfl
  repeat (first | refine RQ ?_ | (refine RE ?_; try intro _) | ((first | refine WL_op rfl ?_); (first | refine OW_callP rfl (hF := as_nil_fn) (hk := ?_))) | refine RC ?_ | refine WC_region (id := 5) ?_ | refine WC_region (id := 6) ?_ | refine WC_region (id := 7) ?_ | refine WC_region (id := 8) ?_)
  rename_i tb0
  refine WL_front 6 rfl ?_
  refine WL_front 6 rfl ?_
  refine WL_front 7 rfl ?_
  refine WL_front 10 rfl ?_
  refine WL_front 10 rfl ?_
  refine WL_op rfl (OW_callv rfl rfl rfl rfl rfl (number1_fn (Nat.zero_le _) hl (by rw [hsz]; decide) (by decide) _) ?_)
  rintro _ _ (⟨x, b, h1, hb, rfl, rfl⟩ | ⟨c, e, p, b, cs', h1, hb, hz, rfl, rfl⟩)
  rotate_left
  · repeat (first | refine RQ ?_ | ((first | refine WL_op rfl ?_); (first | refine OW_callP rfl (hF := as_nil_fn) (hk := ?_))) | refine RC ?_ | refine WC_region (id := 8) ?_)
    refine WL_op rfl (OW_call rfl (hF := as_fn (by repeat (first | with_reducible assumption | apply HandleIn.cons | apply HandleIn.left)) (i := 6) rfl) (hk := ?_))
    rintro _ _ ⟨rfl, rfl⟩
    simp only [List.set_cons_zero, List.set_cons_succ]
    replace h1 : prU l 65535 0 = .bad c e := PR.bind_bad' h1
    have e9 : prGram l = .bad c e := by unfold prGram; rw [bind_badf h1]
    repeat' (first | refine RQr ?_ | ((first | refine WL_op rfl ?_ | refine WR_late rfl rfl rfl ?_ | refine WR_opG rfl rfl ?_); (first | (refine OE ?_; try intro _) | refine OW_callP rfl (hF := as_nil_fn) (hk := ?_)); try refine SD ?_) | refine RC ?_ | refine RU ?_ | refine WC_draw_all (id := 9) 0 (.either 0 (.either 1 (.either 2 (.must 3 <| .must 4 <| .done) 3 (.must 2 <| .must 4 <| .done)) 3 (.must 1 <| .must 2 <| .must 4 <| .done)) 1 (.either 0 (.either 2 (.must 3 <| .must 4 <| .done) 3 (.must 2 <| .must 4 <| .done)) 2 (.must 0 <| .must 3 <| .must 4 <| .done))) mixed (by kernel_rfl) ?_ | refine WC_region (id := 8) ?_ | refine WR_either ?_ ?_)
    all_goals exact ⟨rfl, _, (p, fltO c e) :: L, Res2 rfl (resV_cellN rfl 12 rfl rfl) (resV_tmp rfl), .cons_cons _ (by repeat (first | exact List.Sublist.refl _ | apply List.Sublist.cons)), .inr ⟨c, e, p, e9, rfl, rfl⟩⟩
  obtain ⟨life, a1, e1, e'⟩ := PR.bind_ok h1
  injection e' with q1 q2
  subst q1
  subst q2
  have ha1 := hb
  rw [gcs_s0]
  repeat (first | refine RQ ?_ | ((first | refine WL_op rfl ?_); (first | refine OW_callP rfl (hF := as_nil_fn) (hk := ?_))) | refine RC ?_ | refine WC_region (id := 8) ?_ | refine WC_region (id := 10) ?_)
  refine WC_dropS (.cons_cons _ (.cons_cons _ (.cons_cons _ (.cons_cons _ (.cons_cons _ (.cons _ (.refl _))))))) ?_
  repeat (first | refine RQ ?_ | (refine RE ?_; try intro _) | ((first | refine WL_op rfl ?_); (first | refine OW_callP rfl (hF := as_nil_fn) (hk := ?_))) | refine RC ?_ | refine WC_region (id := 5) ?_ | refine WC_region (id := 6) ?_ | refine WC_region (id := 7) ?_ | refine WC_region (id := 8) ?_)
  rename_i tb1
  refine WL_front 8 rfl ?_
  refine WL_front 8 rfl ?_
  refine WL_front 9 rfl ?_
  refine WL_front 5 rfl ?_
  refine WL_front 5 rfl ?_
  refine WL_op rfl (OW_callv rfl rfl rfl rfl rfl (number1_fn ha1 hl (by rw [hsz]; decide) (by decide) _) ?_)
  rintro _ _ (⟨x, b, h1, hb, rfl, rfl⟩ | ⟨c, e, p, b, cs', h1, hb, hz, rfl, rfl⟩)
  rotate_left
  · repeat (first | refine RQ ?_ | ((first | refine WL_op rfl ?_); (first | refine OW_callP rfl (hF := as_nil_fn) (hk := ?_))) | refine RC ?_ | refine WC_region (id := 8) ?_)
    refine WL_op rfl (OW_call rfl (hF := as_fn (by repeat (first | with_reducible assumption | apply HandleIn.cons | apply HandleIn.left)) (i := 6) rfl) (hk := ?_))
    rintro _ _ ⟨rfl, rfl⟩
    simp only [List.set_cons_zero, List.set_cons_succ]
    replace h1 : prU l 99 a1 = .bad c e := PR.bind_bad' h1
    have e9 : prGram l = .bad c e := by unfold prGram; rw [bind_okf e1, bind_badf h1]
    repeat' (first | refine RQr ?_ | ((first | refine WL_op rfl ?_ | refine WR_late rfl rfl rfl ?_ | refine WR_opG rfl rfl ?_); (first | (refine OE ?_; try intro _) | refine OW_callP rfl (hF := as_nil_fn) (hk := ?_)); try refine SD ?_) | refine RC ?_ | refine RU ?_ | refine WC_draw_all (id := 9) 0 (.either 0 (.either 1 (.either 2 (.must 3 <| .must 4 <| .done) 3 (.must 2 <| .must 4 <| .done)) 3 (.must 1 <| .must 2 <| .must 4 <| .done)) 1 (.either 0 (.either 2 (.must 3 <| .must 4 <| .done) 3 (.must 2 <| .must 4 <| .done)) 2 (.must 0 <| .must 3 <| .must 4 <| .done))) mixed (by kernel_rfl) ?_ | refine WC_region (id := 8) ?_ | refine WR_either ?_ ?_)
    all_goals exact ⟨rfl, _, (p, fltO c e) :: L, Res2 rfl (resV_cellN rfl 12 rfl rfl) (resV_tmp rfl), .cons_cons _ (by repeat (first | exact List.Sublist.refl _ | apply List.Sublist.cons)), .inr ⟨c, e, p, e9, rfl, rfl⟩⟩
  obtain ⟨chan, a2, e2, e'⟩ := PR.bind_ok h1
  injection e' with q1 q2
  subst q1
  subst q2
  have ha2 := hb
  rw [gcs_s1]
  repeat (first | refine RQ ?_ | ((first | refine WL_op rfl ?_); (first | refine OW_callP rfl (hF := as_nil_fn) (hk := ?_))) | refine RC ?_ | refine WC_region (id := 8) ?_ | refine WC_region (id := 10) ?_)
  refine WC_dropS (.cons_cons _ (.cons_cons _ (.cons_cons _ (.cons_cons _ (.cons_cons _ (.cons _ (.refl _))))))) ?_
  repeat (first | refine RQ ?_ | (refine RE ?_; try intro _) | ((first | refine WL_op rfl ?_); (first | refine OW_callP rfl (hF := as_nil_fn) (hk := ?_))) | refine RC ?_ | refine WC_region (id := 5) ?_ | refine WC_region (id := 6) ?_ | refine WC_region (id := 7) ?_ | refine WC_region (id := 8) ?_)
  rename_i tb2
  refine WL_front 10 rfl ?_
  refine WL_front 3 rfl ?_
  refine WL_front 3 rfl ?_
  refine WL_op rfl (OW_callv rfl rfl rfl rfl rfl (get2_fn ha2 hl (by rw [hsz]; decide) _) ?_)
  rintro _ _ (⟨x, b, h1, hb, rfl, rfl⟩ | ⟨c, e, p, b, cs', h1, hb, hz, rfl, rfl⟩)
  rotate_left
  · repeat (first | refine RQ ?_ | ((first | refine WL_op rfl ?_); (first | refine OW_callP rfl (hF := as_nil_fn) (hk := ?_))) | refine RC ?_ | refine WC_region (id := 8) ?_)
    refine WL_op rfl (OW_call rfl (hF := as_fn (by repeat (first | with_reducible assumption | apply HandleIn.cons | apply HandleIn.left)) (i := 4) rfl) (hk := ?_))
    rintro _ _ ⟨rfl, rfl⟩
    simp only [List.set_cons_zero, List.set_cons_succ]
    replace h1 : prT l a2 = .bad c e := by rw [prT_pr] at h1; exact PR.bind_bad' h1
    have e9 : prGram l = .bad c e := by unfold prGram; rw [bind_okf e1, bind_okf e2, bind_badf h1]
    repeat' (first | refine RQr ?_ | ((first | refine WL_op rfl ?_ | refine WR_late rfl rfl rfl ?_ | refine WR_opG rfl rfl ?_); (first | (refine OE ?_; try intro _) | refine OW_callP rfl (hF := as_nil_fn) (hk := ?_)); try refine SD ?_) | refine RC ?_ | refine RU ?_ | refine WC_draw_all (id := 9) 0 (.either 0 (.either 1 (.either 2 (.must 3 <| .must 4 <| .done) 3 (.must 2 <| .must 4 <| .done)) 3 (.must 1 <| .must 2 <| .must 4 <| .done)) 1 (.either 0 (.either 2 (.must 3 <| .must 4 <| .done) 3 (.must 2 <| .must 4 <| .done)) 2 (.must 0 <| .must 3 <| .must 4 <| .done))) mixed (by kernel_rfl) ?_ | refine WC_region (id := 8) ?_ | refine WR_either ?_ ?_)
    all_goals exact ⟨rfl, _, (p, fltO c e) :: L, Res2 rfl (resV_cellN rfl 12 rfl rfl) (resV_tmp rfl), .cons_cons _ (by repeat (first | exact List.Sublist.refl _ | apply List.Sublist.cons)), .inr ⟨c, e, p, e9, rfl, rfl⟩⟩
  rw [prT_pr] at h1
  obtain ⟨ack, a3, e3, e'⟩ := PR.bind_ok h1
  injection e' with q1 q2
  subst q1
  subst q2
  have ha3 := hb
  rw [gcs_s2]
  repeat (first | refine RQ ?_ | ((first | refine WL_op rfl ?_); (first | refine OW_callP rfl (hF := as_nil_fn) (hk := ?_))) | refine RC ?_ | refine WC_region (id := 8) ?_ | refine WC_region (id := 10) ?_)
  refine WC_dropS (.cons_cons _ (.cons_cons _ (.cons_cons _ (.cons _ (.refl _))))) ?_
  repeat (first | refine RQ ?_ | (refine RE ?_; try intro _) | ((first | refine WL_op rfl ?_); (first | refine OW_callP rfl (hF := as_nil_fn) (hk := ?_))) | refine RC ?_ | refine WC_region (id := 5) ?_ | refine WC_region (id := 6) ?_ | refine WC_region (id := 7) ?_ | refine WC_region (id := 8) ?_)
  rename_i tb3
  refine WL_front 3 rfl ?_
  refine WL_front 3 rfl ?_
  refine WL_front 3 rfl ?_
  refine WL_op rfl (OW_callv rfl rfl rfl rfl rfl (get3_fn ha3 hl (by rw [hsz]; decide) _) ?_)
  rintro _ _ (⟨x, b, h1, hb, rfl, rfl⟩ | ⟨c, e, p, b, cs', h1, hb, hz, rfl, rfl⟩)
  rotate_left
  · repeat (first | refine RQ ?_ | ((first | refine WL_op rfl ?_); (first | refine OW_callP rfl (hF := as_nil_fn) (hk := ?_))) | refine RC ?_ | refine WC_region (id := 8) ?_)
    refine WL_op rfl (OW_call rfl (hF := as_fn (by repeat (first | with_reducible assumption | apply HandleIn.cons | apply HandleIn.left)) (i := 4) rfl) (hk := ?_))
    rintro _ _ ⟨rfl, rfl⟩
    simp only [List.set_cons_zero, List.set_cons_succ]
    replace h1 : prN l a3 = .bad c e := by rw [prN_pr] at h1; exact PR.bind_bad' h1
    have e9 : prGram l = .bad c e := by unfold prGram; rw [bind_okf e1, bind_okf e2, bind_okf e3, bind_badf h1]
    repeat' (first | refine RQr ?_ | ((first | refine WL_op rfl ?_ | refine WR_late rfl rfl rfl ?_ | refine WR_opG rfl rfl ?_); (first | (refine OE ?_; try intro _) | refine OW_callP rfl (hF := as_nil_fn) (hk := ?_)); try refine SD ?_) | refine RC ?_ | refine RU ?_ | refine WC_draw_all (id := 9) 0 (.either 0 (.either 1 (.either 2 (.must 3 <| .must 4 <| .done) 3 (.must 2 <| .must 4 <| .done)) 3 (.must 1 <| .must 2 <| .must 4 <| .done)) 1 (.either 0 (.either 2 (.must 3 <| .must 4 <| .done) 3 (.must 2 <| .must 4 <| .done)) 2 (.must 0 <| .must 3 <| .must 4 <| .done))) mixed (by kernel_rfl) ?_ | refine WC_region (id := 8) ?_ | refine WR_either ?_ ?_)
    all_goals exact ⟨rfl, _, (p, fltO c e) :: L, Res2 rfl (resV_cellN rfl 12 rfl rfl) (resV_tmp rfl), .cons_cons _ (by repeat (first | exact List.Sublist.refl _ | apply List.Sublist.cons)), .inr ⟨c, e, p, e9, rfl, rfl⟩⟩
  rw [prN_pr] at h1
  obtain ⟨seq, a4, e4, e'⟩ := PR.bind_ok h1
  injection e' with q1 q2
  subst q1
  subst q2
  have ha4 := hb
  rw [gcs_s3]
  repeat (first | refine RQ ?_ | ((first | refine WL_op rfl ?_); (first | refine OW_callP rfl (hF := as_nil_fn) (hk := ?_))) | refine RC ?_ | refine WC_region (id := 8) ?_ | refine WC_region (id := 10) ?_)
  refine WC_dropS (.cons_cons _ (.cons_cons _ (.cons_cons _ (.cons _ (.refl _))))) ?_
  repeat (first | refine RQ ?_ | (refine RE ?_; try intro _) | ((first | refine WL_op rfl ?_); (first | refine OW_callP rfl (hF := as_nil_fn) (hk := ?_))) | refine RC ?_ | refine WC_region (id := 5) ?_ | refine WC_region (id := 6) ?_ | refine WC_region (id := 7) ?_ | refine WC_region (id := 8) ?_)
  rename_i tb4
  refine WL_front 3 rfl ?_
  refine WL_front 3 rfl ?_
  refine WL_front 3 rfl ?_
  refine WL_op rfl (OW_callv rfl rfl rfl rfl rfl (get1_fn ha4 hl _) ?_)
  rintro _ _ (⟨gv, a5, T, cs', e5, ha5, hG, rfl, rfl⟩ | ⟨c, e, p, b, cs', h1, hb, hz, rfl, rfl⟩)
  rotate_left
  · repeat (first | refine RQ ?_ | ((first | refine WL_op rfl ?_); (first | refine OW_callP rfl (hF := as_nil_fn) (hk := ?_))) | refine RC ?_ | refine WC_region (id := 8) ?_)
    refine WL_op rfl (OW_call rfl (hF := as_fn (by repeat (first | with_reducible assumption | apply HandleIn.cons | apply HandleIn.left)) (i := 4) rfl) (hk := ?_))
    rintro _ _ ⟨rfl, rfl⟩
    simp only [List.set_cons_zero, List.set_cons_succ]
    skip
    have e9 : prGram l = .bad c e := by unfold prGram; rw [bind_okf e1, bind_okf e2, bind_okf e3, bind_okf e4, bind_badf h1]
    repeat' (first | refine RQr ?_ | ((first | refine WL_op rfl ?_ | refine WR_late rfl rfl rfl ?_ | refine WR_opG rfl rfl ?_); (first | (refine OE ?_; try intro _) | refine OW_callP rfl (hF := as_nil_fn) (hk := ?_)); try refine SD ?_) | refine RC ?_ | refine RU ?_ | refine WC_draw_all (id := 9) 0 (.either 0 (.either 1 (.either 2 (.must 3 <| .must 4 <| .done) 3 (.must 2 <| .must 4 <| .done)) 3 (.must 1 <| .must 2 <| .must 4 <| .done)) 1 (.either 0 (.either 2 (.must 3 <| .must 4 <| .done) 3 (.must 2 <| .must 4 <| .done)) 2 (.must 0 <| .must 3 <| .must 4 <| .done))) mixed (by kernel_rfl) ?_ | refine WC_region (id := 8) ?_ | refine WR_either ?_ ?_)
    all_goals exact ⟨rfl, _, (p, fltO c e) :: L, Res2 rfl (resV_cellN rfl 12 rfl rfl) (resV_tmp rfl), .cons_cons _ (by repeat (first | exact List.Sublist.refl _ | apply List.Sublist.cons)), .inr ⟨c, e, p, e9, rfl, rfl⟩⟩
  simp only [List.cons_append]
  repeat (first | refine RQ ?_ | ((first | refine WL_op rfl ?_); (first | refine OW_callP rfl (hF := as_nil_fn) (hk := ?_))) | refine RC ?_ | refine WC_region (id := 8) ?_ | refine WC_region (id := 10) ?_)
  refine WC_dropS (.cons_cons _ (.cons_cons _ (.cons_cons _ (.cons _ (.refl _))))) ?_
  repeat (first | refine RQ ?_ | (refine RE ?_; try intro _) | ((first | refine WL_op rfl ?_); (first | refine OW_callP rfl (hF := as_nil_fn) (hk := ?_))) | refine RC ?_ | refine WC_region (id := 5) ?_ | refine WC_region (id := 6) ?_ | refine WC_region (id := 7) ?_ | refine WC_region (id := 8) ?_)
  rename_i tb5
  refine WL_front 1 rfl ?_
  refine WL_op rfl (OW_callv rfl rfl rfl rfl rfl (End_fn ha5 _) ?_)
  rintro _ _ (⟨hc, rfl, rfl⟩ | ⟨hc, p, rfl, rfl⟩)
  rotate_left
  · have hlt : a5 < l.length := by
      unfold eCode at hc
      split at hc
      · assumption
      · exact absurd rfl hc
    repeat (first | refine RQ ?_ | ((first | refine WL_op rfl ?_); (first | refine OW_callP rfl (hF := as_nil_fn) (hk := ?_))) | refine RC ?_ | refine WC_region (id := 8) ?_)
    refine WL_op rfl (OW_call rfl (hF := as_fn (by repeat (first | with_reducible assumption | apply HandleIn.cons | apply HandleIn.left)) (i := 2) rfl) (hk := ?_))
    rintro _ _ ⟨rfl, rfl⟩
    simp only [List.set_cons_zero, List.set_cons_succ]
    have e9 : prGram l = .bad (eCode l a5) a5 := by
      unfold prGram
      rw [bind_okf e1, bind_okf e2, bind_okf e3, bind_okf e4, bind_okf e5]
      unfold prEnd eCode
      rw [if_pos hlt, if_pos hlt]
    repeat' (first | refine RQr ?_ | ((first | refine WL_op rfl ?_ | refine WR_late rfl rfl rfl ?_ | refine WR_opG rfl rfl ?_); (first | (refine OE ?_; try intro _) | refine OW_callP rfl (hF := as_nil_fn) (hk := ?_)); try refine SD ?_) | refine RC ?_ | refine RU ?_ | refine WC_draw_all (id := 9) 0 (.either 0 (.either 1 (.either 2 (.must 3 <| .must 4 <| .done) 3 (.must 2 <| .must 4 <| .done)) 3 (.must 1 <| .must 2 <| .must 4 <| .done)) 1 (.either 0 (.either 2 (.must 3 <| .must 4 <| .done) 3 (.must 2 <| .must 4 <| .done)) 2 (.must 0 <| .must 3 <| .must 4 <| .done))) mixed (by kernel_rfl) ?_ | refine WC_region (id := 8) ?_ | refine WR_either ?_ ?_)
    all_goals exact ⟨rfl, _, (p, fltO (eCode l a5) a5) :: L, Res2 rfl (resV_cellN rfl 12 rfl rfl) (resV_tmp rfl), .cons_cons _ (by repeat (first | exact List.Sublist.refl _ | exact List.sublist_append_left _ _ | apply List.Sublist.cons)), .inr ⟨eCode l a5, a5, p, e9, rfl, rfl⟩⟩
  repeat (first | refine RQ ?_ | ((first | refine WL_op rfl ?_); (first | refine OW_callP rfl (hF := as_nil_fn) (hk := ?_))) | refine RC ?_ | refine WC_region (id := 8) ?_ | refine WC_region (id := 10) ?_)
  have hnl : ¬ a5 < l.length := by
    unfold eCode at hc
    split at hc
    · cases hc
    · assumption
  have e6 : prGram l = .ok gv a5 := by
    unfold prGram
    rw [bind_okf e1, bind_okf e2, bind_okf e3, bind_okf e4, bind_okf e5]
    unfold prEnd
    rw [if_neg hnl]
  have hm := (prGram_went e6).1.ok.m
  have hone := hG.one hm
  have hsz2 := hG.size hm
  repeat (first | refine RQ ?_ | (refine RE ?_; try intro _) | refine RC ?_ | refine WC_region (id := 5) ?_ | refine WC_region (id := 11) ?_)
  refine ⟨rfl, _, L ++ T, Res2 rfl (resV_cellN rfl 11 rfl hsz2) (resV_tmp rfl), (by repeat (first | exact List.Sublist.refl _ | apply List.Sublist.cons)), .inl ⟨gv, a5, T, cs', e6, hG, rfl, rfl⟩⟩
end Go.Proofs.YtakedlockchpcaaDoor
namespace Go.Proofs.YtakedlockchpcaaDoor
open Go.RowKit
attribute [local irreducible] Fn WC WL WR OW Qt YieldFn QW FnP FnD FnE
set_option maxHeartbeats 1000000 in
theorem told18_flt {L : List (Nat × Obj)} (hH : HandleIn L) {p code a i : Nat} (hc : code ≠ 0) (hi : L[i]? = some (p, fltO code a)) : Fn Tryd.prog 18 [flt p, fltA code a] L (fun v L' => v = .bool true ∧ L' = L) := by
  have d1 : (((code : Nat) : Int) == 0) = false := by simp; omega
  refine Fn_enter Tryd.func18 rfl Tryd.ntmps18 rfl fun g => ?_
  repeat (first | refine RQ ?_ | ((first | refine WL_Q ?_); (first | refine QW_of (Qt_eql_struct rfl) ?_)) | (refine RE ?_; try intro _) | refine RC ?_ | refine WC_regB 4 ?_)
  rename_i b3 b5
  refine WC_draw_sub (id := 4) 18 (.calm 0 <| .calm 1 <| .must 2 <| .calm 3 <| .calm 4 <| .calm 5 <| .calm 6 <| .calm 7 <| .calm 8 <| .calm 9 <| .calm 10 <| .calm 11 <| .calm 12 <| .calm 13 <| .calm 14 <| .must 15 <| .calm 16 <| .calm 17 <| .done) mixed (by kernel_rfl) (.cons _ (.refl _)) ?_
  repeat (first | refine RQr ?_ | ((first | refine WL_Q ?_ | refine WL_Y ?_ | refine WR_Q rfl ?_ | refine WR_late rfl rfl rfl (OW_Q ?_) | refine WR_Y rfl ?_); (first | refine QW_of (Qt_eql_struct rfl) ?_)) | ((first | refine WL_op rfl ?_ | refine WL_yes (h := ?_) | refine WR_late rfl rfl rfl ?_ | refine WR_opG rfl rfl ?_ | refine WR_opYG rfl (h := ?_)); (first | (refine OE ?_; try intro _)); try refine SD ?_) | refine RC ?_ | refine RU ?_ | refine WC_draw_all (id := 4) 18 (.calm 0 <| .calm 1 <| .must 2 <| .calm 3 <| .calm 4 <| .calm 5 <| .calm 6 <| .calm 7 <| .calm 8 <| .calm 9 <| .calm 10 <| .calm 11 <| .calm 12 <| .calm 13 <| .calm 14 <| .must 15 <| .calm 16 <| .calm 17 <| .done) mixed (by kernel_rfl) ?_ | refine WC_region ?_)
  refine WR_opG rfl rfl (OW_call rfl (hF := as_fn (hH.cons _ |>.cons _) (i := 0) rfl) (hk := ?_))
  rintro _ _ ⟨rfl, rfl⟩
  refine ⟨(by first | exact fun _ h => h | exact fun _ h => List.Sublist.subset (by repeat (first | exact .refl _ | exact List.nil_sublist _ | exact List.sublist_append_right _ _ | exact List.Sublist.append (.refl _) (List.sublist_append_right _ _) | apply List.Sublist.cons_cons | apply List.Sublist.cons)) h), ?_⟩
  have hi2 : ((b5, Obj.cells #[.pointer (some ⟨p, 0, none⟩)] 96 (0, 0)) :: (b3, Obj.cells #[.int .i64 code, .int .i64 a] 64 (0, 0)) :: L)[i + 2]? = some (p, fltO code a) := hi
  have d2 : (((code : Nat) : Int) == (code : Int)) = true := by simp
  simp only [List.set_cons_zero]
  repeat (first | refine RQr ?_ | ((first | refine WL_Q ?_ | refine WL_Y ?_ | refine WR_Q rfl ?_ | refine WR_late rfl rfl rfl (OW_Q ?_) | refine WR_Y rfl ?_); (first | refine QW_of (Qt_eql_struct rfl) ?_)) | ((first | refine WL_op rfl ?_ | refine WL_yes (h := ?_) | refine WR_late rfl rfl rfl ?_ | refine WR_opG rfl rfl ?_ | refine WR_opYG rfl (h := ?_)); (first | (refine OE ?_; try intro _)); try refine SD ?_) | refine RC ?_ | refine RU ?_ | refine WC_draw_all (id := 4) 18 (.calm 0 <| .calm 1 <| .must 2 <| .calm 3 <| .calm 4 <| .calm 5 <| .calm 6 <| .calm 7 <| .calm 8 <| .calm 9 <| .calm 10 <| .calm 11 <| .calm 12 <| .calm 13 <| .calm 14 <| .must 15 <| .calm 16 <| .calm 17 <| .done) mixed (by kernel_rfl) ?_ | refine WC_region ?_)
  refine WR_opYG rfl (h := OW_callP rfl (hF := Is_fn hi2) (hk := ?_))
  refine ⟨(by first | exact fun _ h => h | exact fun _ h => List.Sublist.subset (by repeat (first | exact .refl _ | exact List.nil_sublist _ | exact List.sublist_append_right _ _ | exact List.Sublist.append (.refl _) (List.sublist_append_right _ _) | apply List.Sublist.cons_cons | apply List.Sublist.cons)) h), ?_⟩
  repeat (first | refine RQr ?_ | ((first | refine WL_Q ?_ | refine WL_Y ?_ | refine WR_Q rfl ?_ | refine WR_late rfl rfl rfl (OW_Q ?_) | refine WR_Y rfl ?_); (first | refine QW_of (Qt_eql_struct rfl) ?_)) | ((first | refine WL_op rfl ?_ | refine WL_yes (h := ?_) | refine WR_late rfl rfl rfl ?_ | refine WR_opG rfl rfl ?_ | refine WR_opYG rfl (h := ?_)); (first | (refine OE ?_; try intro _)); try refine SD ?_) | refine RC ?_ | refine RU ?_ | refine WC_draw_all (id := 4) 18 (.calm 0 <| .calm 1 <| .must 2 <| .calm 3 <| .calm 4 <| .calm 5 <| .calm 6 <| .calm 7 <| .calm 8 <| .calm 9 <| .calm 10 <| .calm 11 <| .calm 12 <| .calm 13 <| .calm 14 <| .must 15 <| .calm 16 <| .calm 17 <| .done) mixed (by kernel_rfl) ?_ | refine WC_region ?_)
  refine ⟨rfl, _, _, Res1 rfl (resV_tmp rfl), .cons _ (.cons _ (.refl _)), ?_, rfl⟩
  rw [d2]
end Go.Proofs.YtakedlockchpcaaDoor
namespace Go.Proofs.YtakedlockchpcaaDoor
open Go.RowKit
theorem GV.Lim.few {g : GV} (h : g.Lim) : g.m.bins.length ≤ 8 ∧ g.m.ents.length ≤ 64 := by
  cases ha : g.ack
  · exact ⟨(h.no ha).2.nb, (h.no ha).2.ne⟩
  · rw [h.yes ha]; simp [MV.none]
attribute [local irreducible] Fn WC WL WR OW Qt YieldFn QW FnP FnD FnE
end Go.Proofs.YtakedlockchpcaaDoor
namespace Go.Proofs.YtakedlockchpcaaDoor
open Go.RowKit
attribute [local irreducible] Fn WC WL WR OW Qt YieldFn QW FnP FnD FnE
structure MV.Fit (m : MV) : Prop where
  ok : m.Ok
  k0 : 0 ≤ m.kind
  k4 : m.kind ≤ 4
  nb : m.bins.length ≤ 8
  ne : m.ents.length ≤ 64
theorem MV.bare_lim {m : MV} (h : m.Fit) : m.bare.Lim := by
  have N := MV.none_ok
  have ho := h.ok
  have hi := ho.kind
  have hk : 0 ≤ m.kind ∧ m.kind ≤ 4 := ⟨h.k0, h.k4⟩
  by_cases e0 : m.kind = 0
  · have e : m.bare = { MV.none with kind := m.kind, ver := m.ver, rc := m.rc } := by unfold MV.bare; rw [if_pos e0]
    rw [e]
    exact ⟨⟨hi, ho.ver, ho.rc, N.time, N.num, N.ch, N.bins, N.ct, N.kh, N.ents⟩, hk.1, hk.2, by simp [MV.none], by simp [MV.none], by unfold MV.bare; rw [if_pos e0]⟩
  by_cases e1 : m.kind = 1
  · have e : m.bare = { MV.none with kind := m.kind, ver := m.ver, time := m.time } := by unfold MV.bare; rw [if_neg e0, if_pos e1]
    rw [e]
    exact ⟨⟨hi, ho.ver, N.rc, ho.time, N.num, N.ch, N.bins, N.ct, N.kh, N.ents⟩, hk.1, hk.2, by simp [MV.none], by simp [MV.none], by unfold MV.bare; rw [if_neg e0, if_pos e1]⟩
  by_cases e2 : m.kind = 2
  · have e : m.bare = { MV.none with kind := m.kind, ver := m.ver, num := m.num } := by unfold MV.bare; rw [if_neg e0, if_neg e1, if_pos e2]
    rw [e]
    exact ⟨⟨hi, ho.ver, N.rc, N.time, ho.num, N.ch, N.bins, N.ct, N.kh, N.ents⟩, hk.1, hk.2, by simp [MV.none], by simp [MV.none], by unfold MV.bare; rw [if_neg e0, if_neg e1, if_pos e2]⟩
  by_cases e3 : m.kind = 3
  · have e : m.bare = { MV.none with kind := m.kind, ver := m.ver, ch := m.ch, bins := m.bins, ct := m.ct } := by unfold MV.bare; rw [if_neg e0, if_neg e1, if_neg e2, if_pos e3]
    rw [e]
    exact ⟨⟨hi, ho.ver, N.rc, N.time, N.num, ho.ch, ho.bins, ho.ct, N.kh, N.ents⟩, hk.1, hk.2, h.nb, by simp [MV.none], by unfold MV.bare; rw [if_neg e0, if_neg e1, if_neg e2, if_pos e3]⟩
  · have e : m.bare = { MV.none with kind := m.kind, ver := m.ver, kh := m.kh, ents := m.ents } := by unfold MV.bare; rw [if_neg e0, if_neg e1, if_neg e2, if_neg e3]
    rw [e]
    exact ⟨⟨hi, ho.ver, N.rc, N.time, N.num, N.ch, N.bins, N.ct, ho.kh, ho.ents⟩, hk.1, hk.2, by simp [MV.none], h.ne, by unfold MV.bare; rw [if_neg e0, if_neg e1, if_neg e2, if_neg e3]⟩
theorem MV.bare_enc (m : MV) : m.bare.enc = m.enc := by
  by_cases e0 : m.kind = 0
  · have e : m.bare = { MV.none with kind := m.kind, ver := m.ver, rc := m.rc } := by unfold MV.bare; rw [if_pos e0]
    rw [e]
    unfold MV.enc MV.body
    simp only [if_pos e0]
  by_cases e1 : m.kind = 1
  · have e : m.bare = { MV.none with kind := m.kind, ver := m.ver, time := m.time } := by unfold MV.bare; rw [if_neg e0, if_pos e1]
    rw [e]
    unfold MV.enc MV.body
    simp only [if_neg e0, if_pos e1]
  by_cases e2 : m.kind = 2
  · have e : m.bare = { MV.none with kind := m.kind, ver := m.ver, num := m.num } := by unfold MV.bare; rw [if_neg e0, if_neg e1, if_pos e2]
    rw [e]
    unfold MV.enc MV.body
    simp only [if_neg e0, if_neg e1, if_pos e2]
  by_cases e3 : m.kind = 3
  · have e : m.bare = { MV.none with kind := m.kind, ver := m.ver, ch := m.ch, bins := m.bins, ct := m.ct } := by unfold MV.bare; rw [if_neg e0, if_neg e1, if_neg e2, if_pos e3]
    rw [e]
    unfold MV.enc MV.body
    simp only [if_neg e0, if_neg e1, if_neg e2, if_pos e3]
  · have e : m.bare = { MV.none with kind := m.kind, ver := m.ver, kh := m.kh, ents := m.ents } := by unfold MV.bare; rw [if_neg e0, if_neg e1, if_neg e2, if_neg e3]
    rw [e]
    unfold MV.enc MV.body
    simp only [if_neg e0, if_neg e1, if_neg e2, if_neg e3]
def GV.bare (g : GV) : GV := if g.ack = true then ⟨g.life, g.chan, true, g.seq, g.room, MV.none⟩ else ⟨g.life, g.chan, false, g.seq, 0, g.m.bare⟩
structure GV.Fit (g : GV) : Prop where
  l0 : 0 ≤ g.life
  l1 : g.life ≤ 65535
  c0 : 0 ≤ g.chan
  c1 : g.chan ≤ 99
  s0 : 0 ≤ g.seq
  s1 : g.seq < 18446744073709551616
  r0 : 0 ≤ g.room
  r1 : g.room ≤ 16
  m : g.m.Fit
theorem GV.Fit.lim {g : GV} (h : g.Fit) : g.bare.Lim := by
  unfold GV.bare
  split
  · exact ⟨h.l0, h.l1, h.c0, h.c1, h.s0, h.s1, h.r0, h.r1, fun _ => rfl, fun q => (by cases q)⟩
  · exact ⟨h.l0, h.l1, h.c0, h.c1, h.s0, h.s1, Int.le_refl 0, (by show (0 : Int) ≤ 16; decide), fun q => (by cases q), fun _ => ⟨rfl, MV.bare_lim h.m⟩⟩
theorem GV.Fit.put {g : GV} (h : g.Fit) : g.put = (g.bare.bytes, 0) := by
  have b1 : inB g.life 65535 = true := by simp [inB, h.l0, h.l1]
  have b2 : inB g.chan 99 = true := by simp [inB, h.c0, h.c1]
  have b3 : inB g.room 16 = true := by simp [inB, h.r0, h.r1]
  have b4 : inB g.m.kind 4 = true := by simp [inB, h.m.k0, h.m.k4]
  have b5 : g.many = false := by
    have := h.m.nb
    have := h.m.ne
    simp [GV.many, show ¬ (8 < g.m.bins.length) by omega, show ¬ (64 < g.m.ents.length) by omega]
  unfold GV.put GV.bytes GV.bare
  rw [b1, b2, b3, b4, b5]
  cases ha : g.ack
  · have := MV.bare_enc g.m
    simp [GV.head, ha, this]
  · simp [GV.head, ha]
theorem GV.draft_fit {g : GV} (h : (g.draft false).Ok) : (g.draft false).Fit := by
  unfold GV.draft at h ⊢
  rw [if_neg (by decide)] at h ⊢
  refine ⟨?_, ?_, ?_, ?_, h.s0, h.s1, ?_, ?_, ⟨h.m, ?_, ?_, ?_, ?_⟩⟩
  all_goals first
    | (show 0 ≤ _ % _; omega)
    | (show _ % _ ≤ _; omega)
    | (show List.length _ ≤ _; simp only [MV.few, List.length_take]; omega)
section
variable {L0 : List (Nat × Obj)} {cs : Array Value} {m : MV} {a : Option Addr} {cap : Nat} {a' : Option Addr} {cap' : Nat}
end
end Go.Proofs.YtakedlockchpcaaDoor
namespace Go.Proofs.YtakedlockchpcaaDoor
open Go.RowKit
namespace W18
noncomputable def xf6 : XF := ⟨Tryd.f6, (Tryd.f6.body).getD .skip, T.ofList [], 27⟩
theorem xf6_ok : GoodF Tryd.prog 6 xf6 := ⟨Tryd.func6, by kernel_rfl, inferInstance, by kernel_rfl⟩
noncomputable def xf8 : XF := ⟨Tryd.f8, (Tryd.f8.body).getD .skip, T.ofList [], 5⟩
theorem xf8_ok : GoodF Tryd.prog 8 xf8 := ⟨Tryd.func8, by kernel_rfl, inferInstance, by kernel_rfl⟩
noncomputable def xf9 : XF := ⟨Tryd.f9, (Tryd.f9.body).getD .skip, T.ofList [], 13⟩
theorem xf9_ok : GoodF Tryd.prog 9 xf9 := ⟨Tryd.func9, by kernel_rfl, inferInstance, by kernel_rfl⟩
noncomputable def xf11 : XF := ⟨Tryd.f11, (Tryd.f11.body).getD .skip, T.ofList [(2, (13, .calm 0 <| .calm 2 <| .calm 3 <| .calm 4 <| .calm 5 <| .calm 6 <| .calm 7 <| .calm 8 <| .calm 9 <| .calm 10 <| .calm 11 <| .must 1 <| .must 12 <| .done))], 5⟩
theorem xf11_ok : GoodF Tryd.prog 11 xf11 := ⟨Tryd.func11, by kernel_rfl, inferInstance, by kernel_rfl⟩
noncomputable def xf12 : XF := ⟨Tryd.f12, (Tryd.f12.body).getD .skip, T.ofList [], 21⟩
theorem xf12_ok : GoodF Tryd.prog 12 xf12 := ⟨Tryd.func12, by kernel_rfl, inferInstance, by kernel_rfl⟩
noncomputable def xf13 : XF := ⟨Tryd.f13, (Tryd.f13.body).getD .skip, T.ofList [], 5471⟩
theorem xf13_ok : GoodF Tryd.prog 13 xf13 := ⟨Tryd.func13, by kernel_rfl, inferInstance, by kernel_rfl⟩
noncomputable def xf14 : XF := ⟨Tryd.f14, (Tryd.f14.body).getD .skip, T.ofList [(7, (15, .calm 0 <| .calm 1 <| .calm 2 <| .calm 4 <| .calm 5 <| .calm 6 <| .calm 8 <| .calm 9 <| .calm 11 <| .calm 12 <| .must 3 <| .must 7 <| .must 10 <| .must 13 <| .calm 14 <| .done))], 292742771909329135⟩
theorem xf14_ok : GoodF Tryd.prog 14 xf14 := ⟨Tryd.func14, by kernel_rfl, inferInstance, by kernel_rfl⟩
noncomputable def xf17 : XF := ⟨Tryd.f17, (Tryd.f17.body).getD .skip, T.ofList [(4, (14, .calm 0 <| .calm 1 <| .calm 3 <| .calm 4 <| .calm 6 <| .calm 7 <| .calm 8 <| .calm 9 <| .calm 10 <| .calm 13 <| .must 2 <| .must 5 <| .must 11 <| .calm 12 <| .done)), (9, (0, .either 0 (.either 1 (.either 2 (.must 3 <| .must 4 <| .done) 3 (.must 2 <| .must 4 <| .done)) 3 (.must 1 <| .must 2 <| .must 4 <| .done)) 1 (.either 0 (.either 2 (.must 3 <| .must 4 <| .done) 3 (.must 2 <| .must 4 <| .done)) 2 (.must 0 <| .must 3 <| .must 4 <| .done))))], 8841593725⟩
theorem xf17_ok : GoodF Tryd.prog 17 xf17 := ⟨Tryd.func17, by kernel_rfl, inferInstance, by kernel_rfl⟩
noncomputable def xf18 : XF := ⟨Tryd.f18, (Tryd.f18.body).getD .skip, T.ofList [(4, (18, .calm 0 <| .calm 1 <| .must 2 <| .calm 3 <| .calm 7 <| .must 4 <| .calm 5 <| .must 6 <| .calm 8 <| .calm 9 <| .calm 10 <| .calm 11 <| .calm 12 <| .calm 13 <| .calm 14 <| .must 15 <| .calm 16 <| .calm 17 <| .done))], 315⟩
theorem xf18_ok : GoodF Tryd.prog 18 xf18 := ⟨Tryd.func18, by kernel_rfl, inferInstance, by kernel_rfl⟩
noncomputable def xf24 : XF := ⟨Tryd.f24, (Tryd.f24.body).getD .skip, T.ofList [], 215⟩
theorem xf24_ok : GoodF Tryd.prog 24 xf24 := ⟨Tryd.func24, by kernel_rfl, inferInstance, by kernel_rfl⟩
noncomputable def xf25 : XF := ⟨Tryd.f25, (Tryd.f25.body).getD .skip, T.ofList [(2, (17, .calm 0 <| .calm 1 <| .calm 2 <| .calm 3 <| .calm 4 <| .calm 5 <| .calm 6 <| .calm 7 <| .calm 8 <| .calm 9 <| .calm 10 <| .calm 11 <| .calm 12 <| .calm 13 <| .calm 14 <| .calm 15 <| .must 16 <| .done)), (8, (8, .calm 0 <| .calm 1 <| .calm 2 <| .calm 3 <| .calm 4 <| .calm 5 <| .calm 6 <| .must 7 <| .done))], 297471780385420476419⟩
theorem xf25_ok : GoodF Tryd.prog 25 xf25 := ⟨Tryd.func25, by kernel_rfl, inferInstance, by kernel_rfl⟩
noncomputable def xf26 : XF := ⟨Tryd.f26, (Tryd.f26.body).getD .skip, T.ofList [], 51⟩
theorem xf26_ok : GoodF Tryd.prog 26 xf26 := ⟨Tryd.func26, by kernel_rfl, inferInstance, by kernel_rfl⟩
noncomputable def xf27 : XF := ⟨Tryd.f27, (Tryd.f27.body).getD .skip, T.ofList [], 16541⟩
theorem xf27_ok : GoodF Tryd.prog 27 xf27 := ⟨Tryd.func27, by kernel_rfl, inferInstance, by kernel_rfl⟩
noncomputable def xf28 : XF := ⟨Tryd.f28, (Tryd.f28.body).getD .skip, T.ofList [], 21⟩
theorem xf28_ok : GoodF Tryd.prog 28 xf28 := ⟨Tryd.func28, by kernel_rfl, inferInstance, by kernel_rfl⟩
noncomputable def xf29 : XF := ⟨Tryd.f29, (Tryd.f29.body).getD .skip, T.ofList [], 135⟩
theorem xf29_ok : GoodF Tryd.prog 29 xf29 := ⟨Tryd.func29, by kernel_rfl, inferInstance, by kernel_rfl⟩
noncomputable def xf30 : XF := ⟨Tryd.f30, (Tryd.f30.body).getD .skip, T.ofList [], 1⟩
theorem xf30_ok : GoodF Tryd.prog 30 xf30 := ⟨Tryd.func30, by kernel_rfl, inferInstance, by kernel_rfl⟩
noncomputable def xf31 : XF := ⟨Tryd.f31, (Tryd.f31.body).getD .skip, T.ofList [], 1⟩
theorem xf31_ok : GoodF Tryd.prog 31 xf31 := ⟨Tryd.func31, by kernel_rfl, inferInstance, by kernel_rfl⟩
noncomputable def xf32 : XF := ⟨Tryd.f32, (Tryd.f32.body).getD .skip, T.ofList [], 7⟩
theorem xf32_ok : GoodF Tryd.prog 32 xf32 := ⟨Tryd.func32, by kernel_rfl, inferInstance, by kernel_rfl⟩
noncomputable def xf33 : XF := ⟨Tryd.f33, (Tryd.f33.body).getD .skip, T.ofList [(9, (10, .calm 0 <| .calm 1 <| .calm 2 <| .calm 3 <| .calm 4 <| .calm 5 <| .calm 6 <| .calm 7 <| .must 8 <| .calm 9 <| .done))], 32883⟩
theorem xf33_ok : GoodF Tryd.prog 33 xf33 := ⟨Tryd.func33, by kernel_rfl, inferInstance, by kernel_rfl⟩
noncomputable def xf34 : XF := ⟨Tryd.f34, (Tryd.f34.body).getD .skip, T.ofList [], 51⟩
theorem xf34_ok : GoodF Tryd.prog 34 xf34 := ⟨Tryd.func34, by kernel_rfl, inferInstance, by kernel_rfl⟩
noncomputable def xf37 : XF := ⟨Tryd.f37, (Tryd.f37.body).getD .skip, T.ofList [], 23⟩
theorem xf37_ok : GoodF Tryd.prog 37 xf37 := ⟨Tryd.func37, by kernel_rfl, inferInstance, by kernel_rfl⟩
noncomputable def xf38 : XF := ⟨Tryd.f38, (Tryd.f38.body).getD .skip, T.ofList [], 127⟩
theorem xf38_ok : GoodF Tryd.prog 38 xf38 := ⟨Tryd.func38, by kernel_rfl, inferInstance, by kernel_rfl⟩
noncomputable def xf39 : XF := ⟨Tryd.f39, (Tryd.f39.body).getD .skip, T.ofList [], 7⟩
theorem xf39_ok : GoodF Tryd.prog 39 xf39 := ⟨Tryd.func39, by kernel_rfl, inferInstance, by kernel_rfl⟩
noncomputable def xf40 : XF := ⟨Tryd.f40, (Tryd.f40.body).getD .skip, T.ofList [(2, (13, .calm 0 <| .calm 2 <| .calm 3 <| .calm 4 <| .calm 5 <| .calm 6 <| .calm 7 <| .calm 8 <| .calm 9 <| .calm 10 <| .calm 11 <| .must 1 <| .must 12 <| .done)), (3, (12, .calm 0 <| .calm 1 <| .calm 2 <| .calm 3 <| .calm 4 <| .calm 5 <| .calm 6 <| .calm 7 <| .calm 8 <| .calm 9 <| .calm 10 <| .must 11 <| .done)), (5, (12, .calm 0 <| .calm 1 <| .calm 2 <| .calm 3 <| .calm 4 <| .calm 5 <| .calm 6 <| .calm 7 <| .calm 8 <| .calm 9 <| .calm 10 <| .calm 11 <| .must 12 <| .done))], 13⟩
theorem xf40_ok : GoodF Tryd.prog 40 xf40 := ⟨Tryd.func40, by kernel_rfl, inferInstance, by kernel_rfl⟩
noncomputable def xf41 : XF := ⟨Tryd.f41, (Tryd.f41.body).getD .skip, T.ofList [], 7⟩
theorem xf41_ok : GoodF Tryd.prog 41 xf41 := ⟨Tryd.func41, by kernel_rfl, inferInstance, by kernel_rfl⟩
noncomputable def xf42 : XF := ⟨Tryd.f42, (Tryd.f42.body).getD .skip, T.ofList [], 61⟩
theorem xf42_ok : GoodF Tryd.prog 42 xf42 := ⟨Tryd.func42, by kernel_rfl, inferInstance, by kernel_rfl⟩
noncomputable def xf43 : XF := ⟨Tryd.f43, (Tryd.f43.body).getD .skip, T.ofList [], 34368129779⟩
theorem xf43_ok : GoodF Tryd.prog 43 xf43 := ⟨Tryd.func43, by kernel_rfl, inferInstance, by kernel_rfl⟩
noncomputable def xf44 : XF := ⟨Tryd.f44, (Tryd.f44.body).getD .skip, T.ofList [], 2099⟩
theorem xf44_ok : GoodF Tryd.prog 44 xf44 := ⟨Tryd.func44, by kernel_rfl, inferInstance, by kernel_rfl⟩
noncomputable def xf46 : XF := ⟨Tryd.f46, (Tryd.f46.body).getD .skip, T.ofList [(1, (8, .calm 0 <| .calm 1 <| .calm 2 <| .calm 3 <| .calm 4 <| .calm 5 <| .calm 6 <| .must 7 <| .done)), (2, (8, .calm 0 <| .calm 1 <| .calm 2 <| .calm 3 <| .calm 4 <| .calm 5 <| .calm 6 <| .must 7 <| .done)), (3, (8, .calm 0 <| .calm 1 <| .calm 2 <| .calm 3 <| .calm 4 <| .calm 5 <| .calm 6 <| .must 7 <| .done)), (4, (8, .calm 0 <| .calm 1 <| .calm 2 <| .calm 3 <| .calm 4 <| .calm 5 <| .calm 6 <| .must 7 <| .done)), (5, (8, .calm 0 <| .calm 1 <| .calm 2 <| .calm 3 <| .calm 4 <| .calm 5 <| .calm 6 <| .must 7 <| .done))], 3⟩
theorem xf46_ok : GoodF Tryd.prog 46 xf46 := ⟨Tryd.func46, by kernel_rfl, inferInstance, by kernel_rfl⟩
noncomputable def xf48 : XF := ⟨Tryd.f48, (Tryd.f48.body).getD .skip, T.ofList [(2, (8, .calm 0 <| .calm 1 <| .calm 2 <| .calm 3 <| .calm 4 <| .calm 5 <| .calm 6 <| .must 7 <| .done))], 3⟩
theorem xf48_ok : GoodF Tryd.prog 48 xf48 := ⟨Tryd.func48, by kernel_rfl, inferInstance, by kernel_rfl⟩
noncomputable def xf50 : XF := ⟨Tryd.f50, (Tryd.f50.body).getD .skip, T.ofList [(0, (8, .calm 0 <| .calm 1 <| .calm 2 <| .calm 3 <| .calm 4 <| .calm 5 <| .calm 6 <| .must 7 <| .done)), (1, (8, .calm 0 <| .calm 1 <| .calm 2 <| .calm 3 <| .calm 4 <| .calm 5 <| .calm 6 <| .must 7 <| .done)), (2, (8, .calm 0 <| .calm 1 <| .calm 2 <| .calm 3 <| .calm 4 <| .calm 5 <| .calm 6 <| .must 7 <| .done)), (3, (8, .calm 0 <| .calm 1 <| .calm 2 <| .calm 3 <| .calm 4 <| .calm 5 <| .calm 6 <| .must 7 <| .done)), (4, (8, .calm 0 <| .calm 1 <| .calm 2 <| .calm 3 <| .calm 4 <| .calm 5 <| .calm 6 <| .must 7 <| .done))], 3⟩
theorem xf50_ok : GoodF Tryd.prog 50 xf50 := ⟨Tryd.func50, by kernel_rfl, inferInstance, by kernel_rfl⟩
noncomputable def xf52 : XF := ⟨Tryd.f52, (Tryd.f52.body).getD .skip, T.ofList [], 19⟩
theorem xf52_ok : GoodF Tryd.prog 52 xf52 := ⟨Tryd.func52, by kernel_rfl, inferInstance, by kernel_rfl⟩
noncomputable def xf53 : XF := ⟨Tryd.f53, (Tryd.f53.body).getD .skip, T.ofList [(1, (8, .calm 0 <| .calm 1 <| .calm 2 <| .calm 3 <| .calm 4 <| .calm 5 <| .calm 6 <| .must 7 <| .done))], 3⟩
theorem xf53_ok : GoodF Tryd.prog 53 xf53 := ⟨Tryd.func53, by kernel_rfl, inferInstance, by kernel_rfl⟩
noncomputable def xf54 : XF := ⟨Tryd.f54, (Tryd.f54.body).getD .skip, T.ofList [], 3451⟩
theorem xf54_ok : GoodF Tryd.prog 54 xf54 := ⟨Tryd.func54, by kernel_rfl, inferInstance, by kernel_rfl⟩
noncomputable def xf55 : XF := ⟨Tryd.f55, (Tryd.f55.body).getD .skip, T.ofList [], 1048703⟩
theorem xf55_ok : GoodF Tryd.prog 55 xf55 := ⟨Tryd.func55, by kernel_rfl, inferInstance, by kernel_rfl⟩
noncomputable def xf56 : XF := ⟨Tryd.f56, (Tryd.f56.body).getD .skip, T.ofList [(5, (12, .calm 0 <| .calm 1 <| .calm 2 <| .calm 3 <| .calm 4 <| .calm 5 <| .calm 6 <| .calm 7 <| .calm 8 <| .calm 9 <| .calm 10 <| .must 11 <| .done)), (8, (20, .calm 0 <| .calm 1 <| .calm 2 <| .calm 3 <| .calm 4 <| .calm 5 <| .calm 6 <| .calm 7 <| .calm 8 <| .calm 9 <| .calm 10 <| .calm 11 <| .calm 12 <| .calm 13 <| .calm 14 <| .calm 15 <| .calm 16 <| .calm 17 <| .calm 18 <| .must 19 <| .done)), (9, (13, .calm 0 <| .calm 1 <| .calm 2 <| .calm 3 <| .calm 4 <| .calm 5 <| .calm 6 <| .calm 7 <| .calm 8 <| .calm 9 <| .calm 12 <| .must 10 <| .calm 11 <| .done))], 4642275147320176030938824797⟩
theorem xf56_ok : GoodF Tryd.prog 56 xf56 := ⟨Tryd.func56, by kernel_rfl, inferInstance, by kernel_rfl⟩
noncomputable def xf60 : XF := ⟨Tryd.f60, (Tryd.f60.body).getD .skip, T.ofList [], 1193287703199244111⟩
theorem xf60_ok : GoodF Tryd.prog 60 xf60 := ⟨Tryd.func60, by kernel_rfl, inferInstance, by kernel_rfl⟩
noncomputable def xf62 : XF := ⟨Tryd.f62, (Tryd.f62.body).getD .skip, T.ofList [], 4639143427053511⟩
theorem xf62_ok : GoodF Tryd.prog 62 xf62 := ⟨Tryd.func62, by kernel_rfl, inferInstance, by kernel_rfl⟩
noncomputable def xf63 : XF := ⟨Tryd.f63, (Tryd.f63.body).getD .skip, T.ofList [], 19⟩
theorem xf63_ok : GoodF Tryd.prog 63 xf63 := ⟨Tryd.func63, by kernel_rfl, inferInstance, by kernel_rfl⟩
noncomputable def xf64 : XF := ⟨Tryd.f64, (Tryd.f64.body).getD .skip, T.ofList [(9, (8, .calm 0 <| .calm 1 <| .calm 2 <| .calm 3 <| .calm 4 <| .must 5 <| .must 6 <| .calm 7 <| .must 8 <| .done))], 69189240591⟩
theorem xf64_ok : GoodF Tryd.prog 64 xf64 := ⟨Tryd.func64, by kernel_rfl, inferInstance, by kernel_rfl⟩
noncomputable def xf65 : XF := ⟨Tryd.f65, (Tryd.f65.body).getD .skip, T.ofList [(2, (8, .calm 0 <| .calm 1 <| .calm 2 <| .calm 3 <| .calm 4 <| .calm 5 <| .calm 6 <| .must 7 <| .done)), (3, (8, .calm 0 <| .calm 1 <| .calm 2 <| .calm 3 <| .calm 4 <| .calm 5 <| .calm 6 <| .must 7 <| .done)), (4, (8, .calm 0 <| .calm 1 <| .calm 2 <| .calm 3 <| .calm 4 <| .calm 5 <| .calm 6 <| .must 7 <| .done))], 3⟩
theorem xf65_ok : GoodF Tryd.prog 65 xf65 := ⟨Tryd.func65, by kernel_rfl, inferInstance, by kernel_rfl⟩
noncomputable def xf67 : XF := ⟨Tryd.f67, (Tryd.f67.body).getD .skip, T.ofList [], 69189240591⟩
theorem xf67_ok : GoodF Tryd.prog 67 xf67 := ⟨Tryd.func67, by kernel_rfl, inferInstance, by kernel_rfl⟩
noncomputable def xf68 : XF := ⟨Tryd.f68, (Tryd.f68.body).getD .skip, T.ofList [(1, (8, .calm 0 <| .calm 1 <| .calm 2 <| .calm 3 <| .calm 4 <| .calm 5 <| .calm 6 <| .must 7 <| .done)), (2, (8, .calm 0 <| .calm 1 <| .calm 2 <| .calm 3 <| .calm 4 <| .calm 5 <| .calm 6 <| .must 7 <| .done))], 3⟩
theorem xf68_ok : GoodF Tryd.prog 68 xf68 := ⟨Tryd.func68, by kernel_rfl, inferInstance, by kernel_rfl⟩
noncomputable def xf91 : XF := ⟨Tryd.f91, (Tryd.f91.body).getD .skip, T.ofList [], 5⟩
theorem xf91_ok : GoodF Tryd.prog 91 xf91 := ⟨Tryd.func91, by kernel_rfl, inferInstance, by kernel_rfl⟩
noncomputable def xf92 : XF := ⟨Tryd.f92, (Tryd.f92.body).getD .skip, T.ofList [], 1⟩
theorem xf92_ok : GoodF Tryd.prog 92 xf92 := ⟨Tryd.func92, by kernel_rfl, inferInstance, by kernel_rfl⟩
noncomputable def xf93 : XF := ⟨Tryd.f93, (Tryd.f93.body).getD .skip, T.ofList [], 7⟩
theorem xf93_ok : GoodF Tryd.prog 93 xf93 := ⟨Tryd.func93, by kernel_rfl, inferInstance, by kernel_rfl⟩
noncomputable def xf94 : XF := ⟨Tryd.f94, (Tryd.f94.body).getD .skip, T.ofList [(0, (11, .calm 0 <| .calm 1 <| .calm 2 <| .calm 3 <| .calm 4 <| .calm 5 <| .calm 6 <| .calm 7 <| .must 8 <| .calm 9 <| .calm 10 <| .must 11 <| .done))], 3⟩
theorem xf94_ok : GoodF Tryd.prog 94 xf94 := ⟨Tryd.func94, by kernel_rfl, inferInstance, by kernel_rfl⟩
noncomputable def xf95 : XF := ⟨Tryd.f95, (Tryd.f95.body).getD .skip, T.ofList [(0, (12, .calm 0 <| .calm 1 <| .calm 2 <| .calm 3 <| .calm 4 <| .calm 5 <| .calm 6 <| .calm 7 <| .must 8 <| .must 9 <| .calm 10 <| .calm 11 <| .must 12 <| .done))], 3⟩
theorem xf95_ok : GoodF Tryd.prog 95 xf95 := ⟨Tryd.func95, by kernel_rfl, inferInstance, by kernel_rfl⟩
noncomputable def xf96 : XF := ⟨Tryd.f96, (Tryd.f96.body).getD .skip, T.ofList [(0, (11, .calm 0 <| .calm 1 <| .calm 2 <| .calm 3 <| .calm 4 <| .calm 5 <| .calm 6 <| .calm 7 <| .must 8 <| .calm 9 <| .calm 10 <| .must 11 <| .done))], 3⟩
theorem xf96_ok : GoodF Tryd.prog 96 xf96 := ⟨Tryd.func96, by kernel_rfl, inferInstance, by kernel_rfl⟩
noncomputable def xf97 : XF := ⟨Tryd.f97, (Tryd.f97.body).getD .skip, T.ofList [(0, (11, .calm 0 <| .calm 1 <| .calm 2 <| .calm 3 <| .calm 4 <| .calm 5 <| .calm 6 <| .calm 7 <| .must 8 <| .calm 9 <| .calm 10 <| .must 11 <| .done))], 3⟩
theorem xf97_ok : GoodF Tryd.prog 97 xf97 := ⟨Tryd.func97, by kernel_rfl, inferInstance, by kernel_rfl⟩
noncomputable def xf98 : XF := ⟨Tryd.f98, (Tryd.f98.body).getD .skip, T.ofList [], 19⟩
theorem xf98_ok : GoodF Tryd.prog 98 xf98 := ⟨Tryd.func98, by kernel_rfl, inferInstance, by kernel_rfl⟩
noncomputable def xf99 : XF := ⟨Tryd.f99, (Tryd.f99.body).getD .skip, T.ofList [], 1⟩
theorem xf99_ok : GoodF Tryd.prog 99 xf99 := ⟨Tryd.func99, by kernel_rfl, inferInstance, by kernel_rfl⟩
noncomputable def xf100 : XF := ⟨Tryd.f100, (Tryd.f100.body).getD .skip, T.ofList [], 135⟩
theorem xf100_ok : GoodF Tryd.prog 100 xf100 := ⟨Tryd.func100, by kernel_rfl, inferInstance, by kernel_rfl⟩
noncomputable def xf101 : XF := ⟨Tryd.f101, (Tryd.f101.body).getD .skip, T.ofList [], 3⟩
theorem xf101_ok : GoodF Tryd.prog 101 xf101 := ⟨Tryd.func101, by kernel_rfl, inferInstance, by kernel_rfl⟩
noncomputable def xf102 : XF := ⟨Tryd.f102, (Tryd.f102.body).getD .skip, T.ofList [], 3⟩
theorem xf102_ok : GoodF Tryd.prog 102 xf102 := ⟨Tryd.func102, by kernel_rfl, inferInstance, by kernel_rfl⟩
noncomputable def xf103 : XF := ⟨Tryd.f103, (Tryd.f103.body).getD .skip, T.ofList [], 3⟩
theorem xf103_ok : GoodF Tryd.prog 103 xf103 := ⟨Tryd.func103, by kernel_rfl, inferInstance, by kernel_rfl⟩
noncomputable def xf104 : XF := ⟨Tryd.f104, (Tryd.f104.body).getD .skip, T.ofList [], 3⟩
theorem xf104_ok : GoodF Tryd.prog 104 xf104 := ⟨Tryd.func104, by kernel_rfl, inferInstance, by kernel_rfl⟩
noncomputable def xf105 : XF := ⟨Tryd.f105, (Tryd.f105.body).getD .skip, T.ofList [], 4211⟩
theorem xf105_ok : GoodF Tryd.prog 105 xf105 := ⟨Tryd.func105, by kernel_rfl, inferInstance, by kernel_rfl⟩
noncomputable def xf106 : XF := ⟨Tryd.f106, (Tryd.f106.body).getD .skip, T.ofList [], 4211⟩
theorem xf106_ok : GoodF Tryd.prog 106 xf106 := ⟨Tryd.func106, by kernel_rfl, inferInstance, by kernel_rfl⟩
noncomputable def xf107 : XF := ⟨Tryd.f107, (Tryd.f107.body).getD .skip, T.ofList [(2, (13, .calm 0 <| .calm 2 <| .calm 3 <| .calm 4 <| .calm 5 <| .calm 6 <| .calm 7 <| .calm 8 <| .calm 9 <| .calm 10 <| .calm 11 <| .must 1 <| .must 12 <| .done)), (4, (11, .calm 0 <| .calm 1 <| .calm 2 <| .calm 3 <| .calm 4 <| .calm 5 <| .calm 6 <| .calm 7 <| .calm 8 <| .calm 9 <| .calm 10 <| .must 11 <| .done))], 13⟩
theorem xf107_ok : GoodF Tryd.prog 107 xf107 := ⟨Tryd.func107, by kernel_rfl, inferInstance, by kernel_rfl⟩
noncomputable def xf108 : XF := ⟨Tryd.f108, (Tryd.f108.body).getD .skip, T.ofList [], 4211⟩
theorem xf108_ok : GoodF Tryd.prog 108 xf108 := ⟨Tryd.func108, by kernel_rfl, inferInstance, by kernel_rfl⟩
noncomputable def xf109 : XF := ⟨Tryd.f109, (Tryd.f109.body).getD .skip, T.ofList [], 4211⟩
theorem xf109_ok : GoodF Tryd.prog 109 xf109 := ⟨Tryd.func109, by kernel_rfl, inferInstance, by kernel_rfl⟩
noncomputable def xf110 : XF := ⟨Tryd.f110, (Tryd.f110.body).getD .skip, T.ofList [], 61⟩
theorem xf110_ok : GoodF Tryd.prog 110 xf110 := ⟨Tryd.func110, by kernel_rfl, inferInstance, by kernel_rfl⟩
noncomputable def tabL : List (Nat × XF) := [(6, xf6), (8, xf8), (9, xf9), (11, xf11), (12, xf12), (13, xf13), (14, xf14), (17, xf17), (18, xf18), (24, xf24), (25, xf25), (26, xf26), (27, xf27), (28, xf28), (29, xf29), (30, xf30), (31, xf31), (32, xf32), (33, xf33), (34, xf34), (37, xf37), (38, xf38), (39, xf39), (40, xf40), (41, xf41), (42, xf42), (43, xf43), (44, xf44), (46, xf46), (48, xf48), (50, xf50), (52, xf52), (53, xf53), (54, xf54), (55, xf55), (56, xf56), (60, xf60), (62, xf62), (63, xf63), (64, xf64), (65, xf65), (67, xf67), (68, xf68), (91, xf91), (92, xf92), (93, xf93), (94, xf94), (95, xf95), (96, xf96), (97, xf97), (98, xf98), (99, xf99), (100, xf100), (101, xf101), (102, xf102), (103, xf103), (104, xf104), (105, xf105), (106, xf106), (107, xf107), (108, xf108), (109, xf109), (110, xf110)]
noncomputable def tab : T XF := T.ofList tabL
theorem tab_ok : ∀ f x, tab.get f = some x → GoodF Tryd.prog f x := fun f x h => GoodL.mem (l := tabL) ⟨xf6_ok, xf8_ok, xf9_ok, xf11_ok, xf12_ok, xf13_ok, xf14_ok, xf17_ok, xf18_ok, xf24_ok, xf25_ok, xf26_ok, xf27_ok, xf28_ok, xf29_ok, xf30_ok, xf31_ok, xf32_ok, xf33_ok, xf34_ok, xf37_ok, xf38_ok, xf39_ok, xf40_ok, xf41_ok, xf42_ok, xf43_ok, xf44_ok, xf46_ok, xf48_ok, xf50_ok, xf52_ok, xf53_ok, xf54_ok, xf55_ok, xf56_ok, xf60_ok, xf62_ok, xf63_ok, xf64_ok, xf65_ok, xf67_ok, xf68_ok, xf91_ok, xf92_ok, xf93_ok, xf94_ok, xf95_ok, xf96_ok, xf97_ok, xf98_ok, xf99_ok, xf100_ok, xf101_ok, xf102_ok, xf103_ok, xf104_ok, xf105_ok, xf106_ok, xf107_ok, xf108_ok, xf109_ok, xf110_ok, trivial⟩ (f, x) (T.get_ofList h)
theorem works_run : trueG Tryd.prog tab 100000 doorPr doorH 200 13 = true := by kernel_rfl
end W18
theorem works18_fn {L : List (Nat × Obj)} (h : HandleIn L) : Fn Tryd.prog 13 [] L (fun v L' => v = .bool true ∧ L' = L) := by
  obtain ⟨cs, E, fr, h1, h2⟩ := h
  exact runD doorPr_ok mixed W18.tab_ok (doorH_cov h2) doorH_zero W18.works_run h1
end Go.Proofs.YtakedlockchpcaaDoor
namespace Go.Proofs.YtakedlockchpcaaDoor
open Go.RowKit
attribute [local irreducible] Fn WC WL WR OW Qt YieldFn QW FnP FnD FnE
theorem Put_fit {L : List (Nat × Obj)} {gs : Array Value} {g : GV} {a : Option Addr} {cap : Nat} {a' : Option Addr} {cap' : Nat} (h : GramAt L gs g a cap a' cap') (hf : g.Fit) :
    Fn Tryd.prog 14 [.agg gs] L (fun v L' => v = .tuple #[.string (bstr g.bare.bytes), .int .i64 ((0 : Nat) : Int)] ∧ L' = L) := by
  have := Put_fn h (by have := hf.m.nb; omega) (by have := hf.m.ne; omega)
  rwa [hf.put] at this
theorem push_set {xs : Array Value} {n : Nat} {x y : Value} (h : xs.size = n) : (xs.push x).setIfInBounds n y = xs.push y := by
  apply Array.ext_getElem?
  intro j
  rw [Array.getElem?_setIfInBounds, Array.getElem?_push, Array.getElem?_push, Array.size_push]
  by_cases e : n = j
  · subst e
    rw [if_pos rfl, if_pos (by omega), if_pos (by omega)]
  · rw [if_neg e, if_neg (by omega), if_neg (by omega)]
end Go.Proofs.YtakedlockchpcaaDoor
namespace Go.Proofs.YtakedlockchpcaaDoor
open Go.RowKit
attribute [local irreducible] Fn WC WL WR OW Qt YieldFn QW FnP FnD FnE
theorem GV.Lim.len2 {g : GV} (h : g.Lim) : g.bytes.length ≤ 400000000 := by
  have e1 : ∀ {x : Int}, x < 18446744073709551616 → (enc x.toNat).length ≤ 10 := fun hx => enc_le (n := _) (by omega)
  have l1 := e1 (x := g.life) (by have := h.l1; omega)
  have l2 := e1 (x := g.chan) (by have := h.c1; omega)
  have l3 : (encB g.ack).length ≤ 10 := by cases g.ack <;> simp [encB]
  have l4 := e1 (x := g.seq) h.s1
  have l5 := e1 (x := g.room) (by have := h.r1; omega)
  have lh : g.head.length ≤ 40 := by unfold GV.head; simp only [List.length_append]; omega
  have hel := MV.enc_len h.ok.m (by have := h.few.1; omega) (by have := h.few.2; omega)
  have := h.few
  unfold GV.bytes
  split <;> rw [List.length_append] <;> omega
def hasPre (a b : List UInt8) : Bool := decide (b.length ≤ a.length) && (a.take b.length == b)
theorem hasPre_fn0 {a b : List UInt8} {L : List (Nat × Obj)} : Fn Tryd.prog 36 [.string (bstr a), .string (bstr b)] L (fun v L' => v = .bool (hasPre a b) ∧ L' = L) := by
  refine Fn_enter Tryd.func36 rfl Tryd.ntmps36 rfl fun g => ?_
  by_cases h : b.length ≤ a.length
  · have d : decide (((a.length : Nat) : Int) ≥ ((b.length : Nat) : Int)) = true := decide_eq_true (by omega)
    have k0 : (0 : Int) ≤ ((b.length : Nat) : Int) := by omega
    have k1 : ((b.length : Nat) : Int) ≤ ((a.length : Nat) : Int) := by omega
    repeat (first | refine RQ ?_ | refine RC ?_ | refine WC_region ?_)
    refine ⟨rfl, _, _, Res1 rfl (resV_tmp rfl), .refl _, ?_, rfl⟩
    unfold hasPre
    rw [decide_eq_true h, Int.toNat_natCast]; rfl
  · have d : decide (((a.length : Nat) : Int) ≥ ((b.length : Nat) : Int)) = false := decide_eq_false (by omega)
    repeat (first | refine RQ ?_ | refine RC ?_ | refine WC_region ?_)
    refine ⟨rfl, _, _, Res1 rfl (resV_tmp rfl), .refl _, ?_, rfl⟩
    unfold hasPre
    rw [decide_eq_false h]; rfl
theorem hasPre_fn {a b : List UInt8} {L : List (Nat × Obj)} : Fn Tryd.prog 16 [.string (bstr a), .string (bstr b)] L (fun v L' => v = .bool (hasPre a b) ∧ L' = L) := by
  refine Fn_enter Tryd.func16 rfl Tryd.ntmps16 rfl fun g => ?_
  repeat (first | refine RQ ?_ | ((first | refine WL_op rfl ?_); (first | refine OW_callP rfl (hF := hasPre_fn0) (hk := ?_))) | refine RC ?_ | refine WC_region ?_)
  exact ⟨rfl, _, _, Res1 rfl (resV_tmp rfl), .refl _, rfl, rfl⟩
theorem hasPre_no {x y : GV} (hx : x.Lim) (hy : y.Lim) (h : ¬ x.bytes = y.bytes) : hasPre x.bytes y.bytes = false := by
  unfold hasPre
  cases e : (x.bytes.take y.bytes.length == y.bytes)
  · simp
  · exfalso
    have e1 : x.bytes.take y.bytes.length = y.bytes := by simpa using e
    have e2 : x.bytes = y.bytes ++ x.bytes.drop y.bytes.length := by
      have := List.take_append_drop y.bytes.length x.bytes
      rw [e1] at this
      exact this.symm
    have e3 := apart_prGram hx hy e2
    rw [e3, List.append_nil] at e2
    exact h e2
set_option maxRecDepth 100000 in
set_option maxHeartbeats 16000000 in
theorem gapart_fn {xs ys : Array Value} {x y : GV} {ox oy : Bool} {a a' b b' : Option Addr} {cap cap' bcap bcap' : Nat} {L : List (Nat × Obj)} (hH : HandleIn L) (hX : GramAt L xs x a cap a' cap') (hY : GramAt L ys y b bcap b' bcap') :
    Fn Tryd.prog 4 [.agg (xs.push (.bool ox)), .agg (ys.push (.bool oy))] L (fun v L' => v = .bool true ∧ L' = L) := by
  have z1 : 29 < (xs.push (.bool ox)).size := by rw [Array.size_push, hX.size]; decide
  have z2 : (xs.push (.bool false)).size = 30 := by rw [Array.size_push, hX.size]
  have z3 : 29 < (ys.push (.bool oy)).size := by rw [Array.size_push, hY.size]; decide
  have z4 : (ys.push (.bool false)).size = 30 := by rw [Array.size_push, hY.size]
  have p1 := push_set (x := .bool ox) (y := .bool false) hX.size
  have p2 := push_set (x := .bool oy) (y := .bool false) hY.size
  refine Fn_enter Tryd.func4 rfl Tryd.ntmps4 rfl fun g => ?_
  repeat (first | refine RQ ?_ | (refine RE ?_; try intro _) | ((first | refine WL_op rfl ?_); (first | refine OW_callP rfl (hF := works18_fn (by repeat (first | with_reducible assumption | apply HandleIn.cons))) (hk := ?_))) | refine RC ?_ | refine WC_region (id := 0) ?_ | refine WC_region (id := 1) ?_ | refine WC_region (id := 3) ?_)
  rw [p1]
  repeat (first | refine RQ ?_ | (refine RE ?_; try intro _) | refine RC ?_ | refine WC_region (id := 4) ?_)
  rw [p2]
  repeat (first | refine RQ ?_ | ((first | refine WL_op rfl ?_); (first | (refine OW_call rfl (hF := drafted_fn hX _) (hk := ?_); rintro _ _ ⟨gs, rfl, rfl, hX2⟩) | (refine OW_call rfl (hF := drafted_fn hY _) (hk := ?_); rintro _ _ ⟨hs, rfl, rfl, hY2⟩))) | refine RC ?_ | refine WC_region (id := 5) ?_)
  obtain ⟨gx, hgx⟩ : ∃ gv, gv = x.draft false := ⟨_, rfl⟩
  rw [← hgx] at hX2
  have fx : gx.Fit := by rw [hgx] at hX2 ⊢; exact GV.draft_fit hX2.toOk
  repeat (first | refine RQ ?_ | ((first | refine WL_op rfl ?_); (first | (refine OW_call rfl (hF := drafted_fn hX _) (hk := ?_); rintro _ _ ⟨gs, rfl, rfl, hX2⟩) | (refine OW_call rfl (hF := drafted_fn hY _) (hk := ?_); rintro _ _ ⟨hs, rfl, rfl, hY2⟩) | refine OW_callP rfl (hF := Put_fit (by repeat (first | with_reducible exact hX2 | apply GramAt.cons)) fx) (hk := ?_))) | refine RC ?_ | refine WC_region (id := 5) ?_ | refine WC_region (id := 6) ?_)
  obtain ⟨gy, hgy⟩ : ∃ gv, gv = y.draft false := ⟨_, rfl⟩
  rw [← hgy] at hY2
  have fy : gy.Fit := by rw [hgy] at hY2 ⊢; exact GV.draft_fit hY2.toOk
  repeat (first | refine RQ ?_ | ((first | refine WL_op rfl ?_ | refine WL_yes (h := ?_)); (first | (refine OW_call rfl (hF := drafted_fn hX _) (hk := ?_); rintro _ _ ⟨gs, rfl, rfl, hX2⟩) | (refine OW_call rfl (hF := drafted_fn hY _) (hk := ?_); rintro _ _ ⟨hs, rfl, rfl, hY2⟩) | refine OW_callP rfl (hF := Put_fit (by repeat (first | with_reducible exact hY2 | apply GramAt.cons)) fy) (hk := ?_))) | refine RC ?_ | refine WC_region (id := 6) ?_ | refine WC_region (id := 7) ?_)
  have lx := fx.lim
  have ly := fy.lim
  have n1 := lx.len2
  have n2 := ly.len2
  have m1 := gx.bare.bytes_pos
  have m2 := gy.bare.bytes_pos
  have hpg := enc_prGram lx gy.bare.bytes
  rw [if_pos m2] at hpg
  have hno : ¬ gx.bare.bytes = gy.bare.bytes → hasPre gx.bare.bytes gy.bare.bytes = false ∧ hasPre gy.bare.bytes gx.bare.bytes = false := fun h => ⟨hasPre_no lx ly h, hasPre_no ly lx fun e => h e.symm⟩
  obtain ⟨la, hla⟩ : ∃ l, l = gx.bare.bytes := ⟨_, rfl⟩
  obtain ⟨lb, hlb⟩ : ∃ l, l = gy.bare.bytes := ⟨_, rfl⟩
  rw [← hla, ← hlb] at hpg hno
  rw [← hla] at n1 m1
  rw [← hlb] at n2 m2
  rw [← hla, ← hlb]
  have hcat : la.length + lb.length ≤ 4611686018427387904 := by omega
  have hl : (la ++ lb).length ≤ 1000000000 := by rw [List.length_append]; omega
  by_cases e : la = lb
  · have d9 : (!(la == lb)) = false := by rw [e]; simp
    repeat (first | refine RQ ?_ | (refine RE ?_; try intro _) | ((first | refine WL_op rfl ?_ | refine WL_yes (h := ?_)); (first | refine OW_callP rfl (hF := hasPre_fn) (hk := ?_))) | refine RC ?_ | refine WC_region (id := 9) ?_ | refine WC_region (id := 11) ?_)
    refine WL_op rfl (OW_call rfl (hF := Get_fn (l := la ++ lb) hl (by repeat (first | with_reducible assumption | apply HandleIn.cons))) (hk := ?_))
    rintro _ _ (⟨x, bb, T, cs', h1, _⟩ | ⟨c, e', p, h1, rfl, rfl⟩)
    · rw [hpg] at h1; cases h1
    rw [hpg] at h1
    cases h1
    repeat (first | refine RQ ?_ | (refine RE ?_; try intro _) | ((first | refine WL_op rfl ?_); (first | refine OW_callP rfl (hF := told18_flt (by repeat (first | with_reducible assumption | apply HandleIn.cons)) (code := 4) (a := la.length) (by decide) (i := 1) rfl) (hk := ?_))) | refine RC ?_ | refine WC_region (id := 11) ?_ | refine WC_region (id := 12) ?_)
    exact ⟨rfl, _, L, Res1 rfl (resV_tmp rfl), (by repeat (first | exact List.Sublist.refl _ | apply List.Sublist.cons)), rfl, rfl⟩
  · have d9 : (!(la == lb)) = true := by simp [e]
    obtain ⟨d10, d11⟩ := hno e
    repeat (first | refine RQ ?_ | (refine RE ?_; try intro _) | ((first | refine WL_op rfl ?_ | refine WL_yes (h := ?_)); (first | refine OW_callP rfl (hF := hasPre_fn) (hk := ?_))) | refine RC ?_ | refine WC_region (id := 9) ?_ | refine WC_region (id := 11) ?_)
    refine WL_op rfl (OW_call rfl (hF := Get_fn (l := la ++ lb) hl (by repeat (first | with_reducible assumption | apply HandleIn.cons))) (hk := ?_))
    rintro _ _ (⟨x, bb, T, cs', h1, _⟩ | ⟨c, e', p, h1, rfl, rfl⟩)
    · rw [hpg] at h1; cases h1
    rw [hpg] at h1
    cases h1
    repeat (first | refine RQ ?_ | (refine RE ?_; try intro _) | ((first | refine WL_op rfl ?_); (first | refine OW_callP rfl (hF := told18_flt (by repeat (first | with_reducible assumption | apply HandleIn.cons)) (code := 4) (a := la.length) (by decide) (i := 1) rfl) (hk := ?_))) | refine RC ?_ | refine WC_region (id := 11) ?_ | refine WC_region (id := 12) ?_)
    exact ⟨rfl, _, L, Res1 rfl (resV_tmp rfl), (by repeat (first | exact List.Sublist.refl _ | apply List.Sublist.cons)), rfl, rfl⟩
end Go.Proofs.YtakedlockchpcaaDoor
namespace Go.Proofs.YtakedlockchpcaaDoor
open Go.ChangeShapes Go.WideShapes Go.ChangeAt Go.RowKit
theorem ownOf : ownKnob Tryd.prog.godebug = none := by kernel_rfl
theorem laidOf : laidOutB Tryd.prog = true := by kernel_rfl
def allL (W : World) : List (Nat × Obj) := W.heap.toList.zipIdx.map fun p => (p.2, p.1)
theorem allL_get {W : World} {b : Nat} {o : Obj} (h : W.heap[b]? = some o) : (allL W)[b]? = some (b, o) := by
  simp [allL, h]
theorem allL_mem {W : World} {p : Nat × Obj} : p ∈ allL W → W.heap[p.1]? = some p.2 := fun h => by
  simp only [allL, List.mem_map] at h
  obtain ⟨⟨o, b⟩, h1, rfl⟩ := h
  have := List.mem_zipIdx_iff_getElem?.1 h1
  simpa using this
theorem allL_mem_of {W : World} {b : Nat} {o : Obj} (h : W.heap[b]? = some o) : (b, o) ∈ allL W := List.mem_of_getElem? (allL_get h)
theorem mem_allL (W : World) : Mem W (allL W) W where
  os := rfl
  tape := rfl
  output := rfl
  size := Nat.le_refl _
  nodup := by
    have : (allL W).map Prod.fst = List.range W.heap.size := by
      simp only [allL, List.map_map]
      apply List.ext_getElem?
      intro i
      simp only [List.getElem?_map, List.getElem?_zipIdx, Array.getElem?_toList]
      by_cases h : i < W.heap.size
      · simp [h]
      · simp [h]
    rw [this]; exact List.nodup_range
  has := fun _ h => allL_mem h
theorem below_of_mem {W W' : World} (h : Mem W (allL W) W') : Below W.heap.size W W' where
  os := h.os
  tape := h.tape
  output := h.output
  size := h.size
  block := fun k hk => by
    have h1 : W.heap[k]? = some W.heap[k] := Array.getElem?_eq_getElem hk
    rw [h1]
    exact h.has (k, W.heap[k]) (allL_mem_of h1)
theorem trodAll_stays {H : Type} {enc : TypeId × Value → H} {P : Program} (hl : laidOutB P = true) {W W' : World} (hb : Below W.heap.size W W') : ∀ {ts : List TypeId} {vs : List Value} {ds : List (DataW H)} {ps : List MemPlace},
    (∀ t ∈ ts, P.readableRec t = true ∧ t < P.types.size) → DataW.TrodAll enc P W 0 (fun _ => true) true ts vs ds ps → (∀ x ∈ ps, x.block < W.heap.size) → DataW.TrodAll enc P W' 0 (fun b => decide (b < W.heap.size)) true ts vs ds ps
  | [], _, _, _, _, h, _ => by obtain ⟨rfl, rfl, rfl⟩ := trodAll_nil h; exact trodAll_mk0
  | t :: ts, _, _, _, ht, h, hp => by
    obtain ⟨v, vs', d, ds', p, q, rfl, rfl, rfl, h1, h2⟩ := trodAll_cons h
    have h3 := ht t (by simp)
    exact ⟨p, q, Below.trod hl h3.1 h3.2 h1 hb (fun x hx => hp x (by simp [hx])), trodAll_stays hl hb (fun t' h' => ht t' (by simp [h'])) h2 (fun x hx => hp x (by simp [hx])), rfl⟩
theorem post_law {H : Type} {enc : TypeId × Value → H} {P : Program} {f : Func} {s : ChangeSpec} {W W' : World} {args : Array Value} {ds gs : List (DataW H)} {before : List MemPlace} {tb : TypeId} (hl : laidOutB P = true)
    (hts : (f.params.toList.all fun t => P.readableRec t && decide (t < P.types.size)) = true) (hv : s.vars = []) (hr : f.resultTypes = #[tb]) (hb : P.underlying tb = some .bool)
    (hfn : s.fn H (ds ++ gs) = { results := [.lit (.bool true)], args := ds }) (hW : DataW.Whole enc P f.params.toList s.vars false W args.toList ds gs before) (hbel : Below W.heap.size W W') :
    s.post enc P f false true false false W args (.bool true) W' := by
  have hlt := hW.lt
  have hW' := hW
  obtain ⟨p, q, hA, hV, rfl, _, _⟩ := hW
  rw [hv] at hV
  obtain ⟨rfl, rfl⟩ := trodVars_none hV
  have hts' : ∀ t ∈ f.params.toList, P.readableRec t = true ∧ t < P.types.size := fun t ht => by
    have := List.all_eq_true.1 hts t ht
    simpa using this
  refine ⟨ds, [], p ++ [], [], p, [], hW', ?_, ?_, ?_, hbel.frame _, fun h => by cases h⟩
  · rw [hfn, hr]
    exact trodAll_mk1 (shut_bool hb true)
  · rw [hfn]
    exact trodAll_stays hl hbel hts' hA (fun x hx => by simpa using hlt x (by simp [hx]))
  · rw [hfn, hv]; rfl
theorem u8_bounds {x : Int} (h : (Lit.int .u8 x).wf = true) : 0 ≤ x ∧ x < 256 := by
  have h1 := h
  simp only [Lit.wf, Bool.and_eq_true, decide_eq_true_eq] at h1
  have e1 : IntKind.u8.min = 0 := rfl
  have e2 : IntKind.u8.max = 255 := rfl
  omega
theorem u32_bounds {x : Int} (h : (Lit.int .u32 x).wf = true) : 0 ≤ x ∧ x < 4294967296 := by
  have h1 := h
  simp only [Lit.wf, Bool.and_eq_true, decide_eq_true_eq] at h1
  have e1 : IntKind.u32.min = 0 := rfl
  have e2 : IntKind.u32.max = 4294967295 := rfl
  omega
theorem u64_bounds {x : Int} (h : (Lit.int .u64 x).wf = true) : 0 ≤ x ∧ x < 18446744073709551616 := by
  have h1 := h
  simp only [Lit.wf, Bool.and_eq_true, decide_eq_true_eq] at h1
  have e1 : IntKind.u64.min = 0 := rfl
  have e2 : IntKind.u64.max = 18446744073709551615 := rfl
  omega
theorem i64_bounds {x : Int} (h : (Lit.int .i64 x).wf = true) : -9223372036854775808 ≤ x ∧ x < 9223372036854775808 := by
  have h1 := h
  simp only [Lit.wf, Bool.and_eq_true, decide_eq_true_eq] at h1
  have e1 : IntKind.i64.min = -9223372036854775808 := rfl
  have e2 : IntKind.i64.max = 9223372036854775807 := rfl
  omega
end Go.Proofs.YtakedlockchpcaaDoor
namespace Go.Proofs.YtakedlockchpcaaDoor
open Go.ChangeShapes Go.WideShapes Go.ChangeAt Go.RowKit Go.Deep
structure Rd (α : Type) where
  n : Nat
  lie : List (Nat × Obj) → α → (Nat → Option Value) → Prop
  mono : ∀ {L a g g'}, (∀ k v, g k = some v → g' k = some v) → lie L a g → lie L a g'
def intR (k : IntKind) : Rd Int where
  n := 1
  lie := fun _ x g => g 0 = some (.int k x) ∧ (Lit.int k x).wf = true
  mono := fun h h1 => ⟨h _ _ h1.1, h1.2⟩
def boolR : Rd Bool where
  n := 1
  lie := fun _ x g => g 0 = some (.bool x)
  mono := fun h h1 => h _ _ h1
def pairR {α β : Type} (r : Rd α) (s : Rd β) : Rd (α × β) where
  n := r.n + s.n
  lie := fun L x g => r.lie L x.1 g ∧ s.lie L x.2 (fun k => g (r.n + k))
  mono := fun h h1 => ⟨r.mono h h1.1, s.mono (fun _ _ h2 => h _ _ h2) h1.2⟩
def Sound {α : Type} (P : Program) (t : TypeId) (r : Rd α) : Prop :=
  P.cellsOf t = r.n ∧ ∀ {H : Type} {enc : TypeId × Value → H} {W : World} {fuel : Nat} {cs : List Value} {x : DataW H × List MemPlace}, DataW.trod enc P W 0 (fun _ => true) true fuel t cs = some x → ∃ a, r.lie (allL W) a (fun k => cs[k]?)
variable {P : Program} {t : TypeId}
theorem sound_int {k : IntKind} (ht : P.underlying t = some (.int k)) (hc : P.cellsOf t = 1) : Sound P t (intR k) := ⟨hc, fun h => by
  obtain ⟨n, rfl, _, hw⟩ := DataW.trod_int ht h
  exact ⟨n, rfl, hw⟩⟩
theorem sound_bool (ht : P.underlying t = some .bool) (hc : P.cellsOf t = 1) : Sound P t boolR := ⟨hc, fun h => by
  obtain ⟨n, rfl, _⟩ := DataW.trod_bool ht h
  exact ⟨n, rfl⟩⟩
theorem cut_get {cs : List Value} {o n k : Nat} {v : Value} (h : ((cs.drop o).take n)[k]? = some v) : cs[o + k]? = some v := by
  rw [List.getElem?_take] at h
  split at h
  · rwa [List.getElem?_drop] at h
  · cases h
theorem choose_list {α : Type} {n : Nat} {p : Nat → α → Prop} (h : ∀ i, i < n → ∃ x, p i x) : ∃ xs : List α, xs.length = n ∧ ∀ i x, xs[i]? = some x → p i x := by
  induction n with
  | zero => exact ⟨[], rfl, by simp⟩
  | succ n ih =>
    obtain ⟨xs, h1, h2⟩ := ih fun i hi => h i (by omega)
    obtain ⟨x, hx⟩ := h n (by omega)
    refine ⟨xs ++ [x], by simp [h1], fun i y hy => ?_⟩
    by_cases hi : i < n
    · rw [List.getElem?_append_left (by omega)] at hy; exact h2 i y hy
    · rw [List.getElem?_append_right (by omega)] at hy
      have : i = n := by
        have := (List.getElem?_eq_some_iff.1 hy).1
        simp at this; omega
      subst this
      rw [h1, Nat.sub_self] at hy
      simp at hy; subst hy; exact hx
theorem cells_get {W : World} {a : Addr} {n k : Nat} {cs : List Value} (h : W.cells? 0 a n = some cs) (hk : k < n) : ∃ v, cs[k]? = some v ∧ W.cell? (a.add k) = some v := by
  obtain ⟨_, hl, hat⟩ := World.cells?_some h
  exact ⟨cs[k]'(by omega), List.getElem?_eq_getElem (by omega), by rw [hat k hk, List.getElem?_eq_getElem (by omega)]⟩
end Go.Proofs.YtakedlockchpcaaDoor
namespace Go.Proofs.YtakedlockchpcaaDoor
open Go.ChangeShapes Go.WideShapes Go.ChangeAt Go.RowKit Go.Deep
def SlLieZ {α : Type} (r : Rd α) (L : List (Nat × Obj)) (a : Option Addr) (xs : List α) : Prop :=
  xs = [] ∨ ∃ (b off : Nat) (cs : Array Value) (E : TypeId) (fr : Nat × Nat) (i : Nat), a = some ⟨b, off, none⟩ ∧ L[i]? = some (b, Obj.cells cs E fr) ∧ (∀ k, k < xs.length * r.n → ¬ (fr.1 ≤ off + k ∧ off + k < fr.2)) ∧ ∀ j x, xs[j]? = some x → r.lie L x (fun k => cs[off + j * r.n + k]?)
def sliceZ {α : Type} (r : Rd α) : Rd (List α) where
  n := 1
  lie := fun L xs g => ∃ a cap, g 0 = some (.slice a xs.length cap) ∧ xs.length ≤ cap ∧ cap ≤ maxLen ∧ SlLieZ r L a xs
  mono := fun h ⟨a, cap, h1, h2⟩ => ⟨a, cap, h _ _ h1, h2⟩
def SoundZ {α : Type} (P : Program) (t : TypeId) (r : Rd α) : Prop :=
  P.cellsOf t = r.n ∧ ∀ {H : Type} {enc : TypeId × Value → H} {W : World} {fuel : Nat} {cs : List Value} {x : DataW H × List MemPlace}, DataW.trod enc P W 0 (fun _ => true) true fuel t cs = some x → W.noneFrozen x.2 → ∃ a, r.lie (allL W) a (fun k => cs[k]?)
variable {P : Program} {t : TypeId}
theorem Sound.z {α : Type} {r : Rd α} (h : Sound P t r) : SoundZ P t r := ⟨h.1, fun h1 _ => h.2 h1⟩
theorem noneFrozen_sub {W : World} {p q : List MemPlace} (h : W.noneFrozen p) (hs : ∀ x ∈ q, x ∈ p) : W.noneFrozen q := fun b off hm => h b off (hs _ hm)
theorem soundZ_slice {α : Type} {r : Rd α} {e : TypeId} (ht : P.underlying t = some (.slice e)) (hc : P.cellsOf t = 1) (hr : 0 < r.n) (he : SoundZ P e r) : SoundZ P t (sliceZ r) := ⟨hc, fun {H enc W fuel cs x} h hz => by
  rcases open_slice ht h with ⟨rfl, _⟩ | ⟨a, len, cap, m, n, D, Pl, rfl, _, hl, hm, hmm, rfl, hi⟩
  · exact ⟨[], none, 0, rfl, Nat.le_refl _, Nat.zero_le _, .inl rfl⟩
  · simp only [if_true] at hmm
    subst hmm
    by_cases h0 : len = 0
    · subst h0; exact ⟨[], some a, m, rfl, Nat.zero_le _, hm, .inl rfl⟩
    rw [he.1] at hi hz
    have hblock : ∃ b off cs E fr, a = ⟨b, off, none⟩ ∧ W.heap[b]? = some (Obj.cells cs E fr) := by
      obtain ⟨cs', h1, _⟩ := hi 0 (by omega)
      obtain ⟨v, _, hv⟩ := cells_get h1 hr
      have e0 : (a.add (0 * r.n)).add 0 = a := by simp [Addr.add]
      rw [e0] at hv
      obtain ⟨b, off, spot⟩ := a
      simp only [World.cell?] at hv
      split at hv
      · rename_i cs E fr hb
        split at hv
        · cases hv
        · rename_i hs
          have hs' : spot = none := by cases spot with | none => rfl | some _ => simp at hs
          subst hs'
          exact ⟨b, off, cs, E, fr, rfl, hb⟩
      · cases hv
    obtain ⟨b, off, cs, E, fr, rfl, hb⟩ := hblock
    obtain ⟨ys, h1, h2⟩ := choose_list (n := len) (p := fun j x => r.lie (allL W) x (fun k => cs[off + j * r.n + k]?)) fun i hlt => by
      obtain ⟨cs', hc1, ht1⟩ := hi i (by omega)
      obtain ⟨x, hx⟩ := he.2 ht1 (noneFrozen_sub hz fun q hq => List.mem_append_right _ (List.mem_flatMap.2 ⟨i, List.mem_range.2 (by omega), hq⟩))
      refine ⟨x, r.mono (fun k v hk => ?_) hx⟩
      have hk2 : k < r.n := by
        obtain ⟨_, hl2, _⟩ := World.cells?_some hc1
        have := (List.getElem?_eq_some_iff.1 hk).1
        omega
      obtain ⟨v', e1, e2⟩ := cells_get hc1 hk2
      rw [hk] at e1; cases e1
      rw [add_add, Addr.add_mid, World.cell?] at e2
      simp only [hb] at e2
      rw [Nat.add_assoc]
      simpa using e2
    refine ⟨ys, some ⟨b, off, none⟩, m, by rw [h1]; rfl, by omega, hm, .inr ⟨b, off, cs, E, fr, b, rfl, allL_get hb, fun k hk hf => ?_, h2⟩⟩
    rw [h1] at hk
    have hkm : k < m * r.n := Nat.lt_of_lt_of_le hk (Nat.mul_le_mul_right _ hl)
    have := hz b (off + k) (List.mem_append_left _ (by
      unfold MemPlace.row
      exact List.mem_map.2 ⟨k, List.mem_range.2 hkm, rfl⟩))
    obtain ⟨lo, hi'⟩ := fr
    unfold World.frozen? at this
    simp only [hb, Bool.and_eq_false_iff, decide_eq_false_iff_not] at this
    simp only at hf
    omega⟩
def SoundZF {α : Type} (P : Program) (fs : List Field) (off : Nat) (r : Rd α) : Prop :=
  ∀ {H : Type} {enc : TypeId × Value → H} {W : World} {n : Nat} {cs : List Value} {xs : List (DataW H × List MemPlace)}, xs.length = fs.length → (∀ x ∈ xs, W.noneFrozen x.2) →
    (∀ (i : Nat) (f : Field), fs[i]? = some f → DataW.trod enc P W 0 (fun _ => true) true n f.type ((cs.drop f.offset).take (P.cellsOf f.type)) = xs[i]?) → ∃ a, r.lie (allL W) a (fun k => cs[off + k]?)
theorem soundZF_one {α : Type} {r : Rd α} {f : Field} {off : Nat} (h : SoundZ P f.type r) (ho : f.offset = off) : SoundZF P [f] off r := fun {H enc W n cs xs} hl hz hi => by
  have h1 := hi 0 f rfl
  obtain ⟨y, hy⟩ : ∃ y, xs[0]? = some y := ⟨xs[0]'(by simp [hl]), List.getElem?_eq_getElem _⟩
  rw [hy] at h1
  obtain ⟨a, ha⟩ := h.2 h1 (hz y (List.mem_of_getElem? hy))
  refine ⟨a, r.mono (fun k v hk => ?_) ha⟩
  have := cut_get hk
  rwa [ho] at this
theorem soundZF_cons {α β : Type} {r : Rd α} {s : Rd β} {f : Field} {fs : List Field} {off : Nat} (h : SoundZ P f.type r) (ho : f.offset = off) (hs : SoundZF P fs (off + r.n) s) : SoundZF P (f :: fs) off (pairR r s) := fun {H enc W n cs xs} hl hz hi => by
  obtain ⟨y, xs, rfl⟩ : ∃ y ys, xs = y :: ys := by
    cases xs with
    | nil => simp at hl
    | cons y ys => exact ⟨y, ys, rfl⟩
  obtain ⟨a, ha⟩ := soundZF_one (P := P) h ho (enc := enc) (W := W) (n := n) (cs := cs) (xs := [y]) rfl (fun x hx => hz x (by rw [List.mem_singleton.1 hx]; exact List.mem_cons_self)) (fun i g hg => by
    cases i with
    | zero => exact hi 0 g hg
    | succ i => simp at hg)
  obtain ⟨b, hb⟩ := hs (enc := enc) (W := W) (n := n) (cs := cs) (xs := xs) (by simpa using hl) (fun x hx => hz x (List.mem_cons_of_mem _ hx)) (fun i g hg => hi (i + 1) g hg)
  exact ⟨(a, b), ha, by simpa [Nat.add_assoc] using hb⟩
theorem soundZ_struct {α : Type} {r : Rd α} {fs : Array Field} (ht : P.underlying t = some (.struct fs)) (hc : P.cellsOf t = r.n) (h : SoundZF P fs.toList 0 r) : SoundZ P t r := ⟨hc, fun hx hz => by
  obtain ⟨xs, n, _, rfl, _, hl, hi⟩ := DataW.trod_struct ht hx
  obtain ⟨a, ha⟩ := h (by simpa using hl) (fun x hx' => noneFrozen_sub hz fun q hq => List.mem_flatMap.2 ⟨x, hx', hq⟩) (fun i f hf => hi i f (by simpa using hf))
  exact ⟨a, by simpa using ha⟩⟩
theorem argZ_agg {α : Type} {H : Type} {enc : TypeId × Value → H} {W : World} {rc : Reach} {b0 : TypeId} {r : Rd α} {v : Value} {d : DataW H} {p : List MemPlace} {fs : Array Field} (ht : P.underlying t = some (.struct fs)) (hs : SoundZ P t r)
    (hval : Value.okWide P W rc b0 t v) (h : DataW.Trod enc P W 0 (fun _ => true) true t v d p) (hz : W.noneFrozen p) : ∃ (cs : Array Value) (x : α), v = .agg cs ∧ cs.size = r.n ∧ r.lie (allL W) x (fun k => cs[k]?) := by
  obtain ⟨cs, rfl, hsz⟩ := okWide_struct ht hval
  obtain ⟨fuel, hf⟩ := h
  obtain ⟨x, h1⟩ := hs.2 hf hz
  exact ⟨cs, x, rfl, by rw [hsz, hs.1], by simpa [Value.cells] using h1⟩
end Go.Proofs.YtakedlockchpcaaDoor
namespace Go.Proofs.YtakedlockchpcaaDoor
open Go.ChangeShapes Go.WideShapes Go.ChangeAt Go.RowKit
abbrev msgR := (pairR (intR .i64) (pairR (intR .i64) (pairR (pairR (intR .u32) (pairR (intR .i64) (pairR (intR .i64) (pairR (intR .u8) (pairR boolR boolR))))) (pairR (intR .i64) (pairR (intR .i64) (pairR (pairR (intR .i64) (pairR (intR .i64) (pairR (sliceZ (intR .i64)) (pairR (intR .i64) (pairR (intR .i64) (pairR (pairR (intR .i64) (pairR (intR .i64) (pairR (intR .i64) (intR .i64)))) (intR .i64))))))) (pairR (intR .i64) (pairR (intR .i64) (pairR boolR (sliceZ (pairR (intR .i64) (pairR (intR .u32) (pairR (intR .i64) (pairR (intR .i64) (pairR (intR .u8) (pairR (intR .i64) (pairR (intR .i64) (pairR (intR .u64) (pairR (intR .i64) (intR .i64))))))))))))))))))))
abbrev entR := (pairR (intR .i64) (pairR (intR .u32) (pairR (intR .i64) (pairR (intR .i64) (pairR (intR .u8) (pairR (intR .i64) (pairR (intR .i64) (pairR (intR .u64) (pairR (intR .i64) (intR .i64))))))))))
theorem ok_ww {x : Int} (h : (Lit.int .i64 x).wf = true) : Fk.ok .ww (.int .i64 x) := ⟨x, rfl, (i64_bounds h).1, (i64_bounds h).2⟩
theorem ok_nn {x : Int} (h : (Lit.int .u64 x).wf = true) : Fk.ok .nn (.int .u64 x) := ⟨x, rfl, (u64_bounds h).1, (u64_bounds h).2⟩
theorem ok_kk {x : Int} (h : (Lit.int .u32 x).wf = true) : Fk.ok .kk (.int .u32 x) := ⟨x, rfl, (u32_bounds h).1, (u32_bounds h).2⟩
theorem ok_bb {x : Int} (h : (Lit.int .u8 x).wf = true) : Fk.ok .bb (.int .u8 x) := ⟨UInt8.ofNat x.toNat, by
  have hb := u8_bounds h
  simp only [bV, UInt8.toNat_ofNat', Value.int.injEq, true_and]
  omega⟩
theorem ok_tt (x : Bool) : Fk.ok .tt (.bool x) := ⟨x, rfl⟩
abbrev RecT := Int × Int × Int × Int × Bool × Bool
def rcV (x : RecT) : List Value := [.int .u32 x.1, .int .i64 x.2.1, .int .i64 x.2.2.1, .int .u8 x.2.2.2.1, .bool x.2.2.2.2.1, .bool x.2.2.2.2.2]
abbrev EntT := Int × Int × Int × Int × Int × Int × Int × Int × Int × Int
def enV (x : EntT) : List Value := [.int .i64 x.1, .int .u32 x.2.1, .int .i64 x.2.2.1, .int .i64 x.2.2.2.1, .int .u8 x.2.2.2.2.1, .int .i64 x.2.2.2.2.2.1, .int .i64 x.2.2.2.2.2.2.1, .int .u64 x.2.2.2.2.2.2.2.1, .int .i64 x.2.2.2.2.2.2.2.2.1, .int .i64 x.2.2.2.2.2.2.2.2.2]
theorem ent_of {L : List (Nat × Obj)} {cs : Array Value} {off : Nat} {x : EntT} (h : entR.lie L x (fun k => cs[off + k]?)) : Oks entryF (enV x) ∧ Lies cs off (enV x) := by
  obtain ⟨⟨a0, w0⟩, ⟨a1, w1⟩, ⟨a2, w2⟩, ⟨a3, w3⟩, ⟨a4, w4⟩, ⟨a5, w5⟩, ⟨a6, w6⟩, ⟨a7, w7⟩, ⟨a8, w8⟩, a9, w9⟩ := h
  refine ⟨⟨ok_ww w0, ok_kk w1, ok_ww w2, ok_ww w3, ok_bb w4, ok_ww w5, ok_ww w6, ok_nn w7, ok_ww w8, ok_ww w9, trivial⟩, fun j v hj => ?_⟩
  match j, hj with
  | 0, hj => cases hj; exact a0
  | 1, hj => cases hj; exact a1
  | 2, hj => cases hj; exact a2
  | 3, hj => cases hj; exact a3
  | 4, hj => cases hj; exact a4
  | 5, hj => cases hj; exact a5
  | 6, hj => cases hj; exact a6
  | 7, hj => cases hj; exact a7
  | 8, hj => cases hj; exact a8
  | 9, hj => cases hj; exact a9
  | j + 10, hj => simp [enV] at hj
theorem bins_of {L : List (Nat × Obj)} {a : Option Addr} {xs : List Int} (h : SlLieZ (intR .i64) L a xs) : (∀ vs ∈ xs.map fun x => [Value.int .i64 x], Oks binF vs) ∧ Elems L a 1 (xs.map fun x => [Value.int .i64 x]) := by
  rcases h with rfl | ⟨b, off, cs, E, fr, i, h1, h2, h3, h4⟩
  · exact ⟨(fun _ h => (by cases h)), .inl rfl⟩
  · refine ⟨fun vs hv => ?_, .inr ⟨b, off, i, cs, E, fr, h1, h2, fun j vs hj => ?_⟩⟩
    · obtain ⟨x, hx, rfl⟩ := List.mem_map.1 hv
      obtain ⟨j, hj⟩ := List.mem_iff_getElem?.1 hx
      exact ⟨ok_ww (h4 j x hj).2, trivial⟩
    · rw [List.getElem?_map] at hj
      obtain ⟨x, hx, rfl⟩ := Option.map_eq_some_iff.1 hj
      have hlt := (List.getElem?_eq_some_iff.1 hx).1
      refine ⟨one_lies (h4 j x hx).1, fun k hk => ?_⟩
      have := h3 (j * 1 + k) (by show j * 1 + k < xs.length * 1; omega)
      rwa [← Nat.add_assoc] at this
theorem ents_of {L : List (Nat × Obj)} {a : Option Addr} {xs : List EntT} (h : SlLieZ entR L a xs) : (∀ vs ∈ xs.map enV, Oks entryF vs) ∧ Elems L a 10 (xs.map enV) := by
  rcases h with rfl | ⟨b, off, cs, E, fr, i, h1, h2, h3, h4⟩
  · exact ⟨(fun _ h => (by cases h)), .inl rfl⟩
  · refine ⟨fun vs hv => ?_, .inr ⟨b, off, i, cs, E, fr, h1, h2, fun j vs hj => ?_⟩⟩
    · obtain ⟨x, hx, rfl⟩ := List.mem_map.1 hv
      obtain ⟨j, hj⟩ := List.mem_iff_getElem?.1 hx
      exact (ent_of (h4 j x hj)).1
    · rw [List.getElem?_map] at hj
      obtain ⟨x, hx, rfl⟩ := Option.map_eq_some_iff.1 hj
      have hlt := (List.getElem?_eq_some_iff.1 hx).1
      refine ⟨(ent_of (h4 j x hx)).2, fun k hk => ?_⟩
      have := h3 (j * 10 + k) (by show j * 10 + k < xs.length * 10; omega)
      rwa [← Nat.add_assoc] at this
theorem msg_at {L : List (Nat × Obj)} {cs : Array Value} {off : Nat} {x : _} (h : msgR.lie L x (fun k => cs[off + k]?)) : ∃ (m : MV) (a : Option Addr) (cap : Nat) (a' : Option Addr) (cap' : Nat), m.Ok ∧ Lies cs off (m.cells a cap a' cap') ∧ Elems L a 1 m.bins ∧ Elems L a' 10 m.ents ∧ m.bins.length ≤ cap ∧ m.ents.length ≤ cap' ∧ cap ≤ maxLen ∧ cap' ≤ maxLen := by
  obtain ⟨⟨k0, w0⟩, ⟨k1, w1⟩, ⟨⟨r0, v0⟩, ⟨r1, v1⟩, ⟨r2, v2⟩, ⟨r3, v3⟩, r4, r5⟩, ⟨k8, w8⟩, ⟨k9, w9⟩, ⟨⟨c0, u0⟩, ⟨c1, u1⟩, ⟨a, cap, c2, n1, n2, hb⟩, ⟨c3, u3⟩, ⟨c4, u4⟩, ⟨⟨c5, u5⟩, ⟨c6, u6⟩, ⟨c7, u7⟩, c8, u8⟩, c9, u9⟩, ⟨q0, s0⟩, ⟨q1, s1⟩, q2, a', cap', q3, n3, n4, he⟩ := h
  obtain ⟨ob, eb⟩ := bins_of hb
  obtain ⟨oe, ee⟩ := ents_of he
  have lb : (x.2.2.2.2.2.1.2.2.1.map fun x => [Value.int .i64 x]).length = x.2.2.2.2.2.1.2.2.1.length := List.length_map ..
  refine ⟨⟨x.1, x.2.1, rcV x.2.2.1, x.2.2.2.1, x.2.2.2.2.1, [.int .i64 x.2.2.2.2.2.1.1, .int .i64 x.2.2.2.2.2.1.2.1], x.2.2.2.2.2.1.2.2.1.map fun x => [Value.int .i64 x],
    [.int .i64 x.2.2.2.2.2.1.2.2.2.1, .int .i64 x.2.2.2.2.2.1.2.2.2.2.1, .int .i64 x.2.2.2.2.2.1.2.2.2.2.2.1.1, .int .i64 x.2.2.2.2.2.1.2.2.2.2.2.1.2.1, .int .i64 x.2.2.2.2.2.1.2.2.2.2.2.1.2.2.1, .int .i64 x.2.2.2.2.2.1.2.2.2.2.2.1.2.2.2, .int .i64 x.2.2.2.2.2.1.2.2.2.2.2.2],
    [.int .i64 x.2.2.2.2.2.2.1, .int .i64 x.2.2.2.2.2.2.2.1, .bool x.2.2.2.2.2.2.2.2.1], x.2.2.2.2.2.2.2.2.2.map enV⟩, a, cap, a', cap', ⟨i64_bounds w0, i64_bounds w1, ⟨ok_kk v0, ok_ww v1, ok_ww v2, ok_bb v3, ok_tt _, ok_tt _, trivial⟩, i64_bounds w8, i64_bounds w9, ⟨ok_ww u0, ok_ww u1, trivial⟩, ob, ⟨ok_ww u3, ok_ww u4, ok_ww u5, ok_ww u6, ok_ww u7, ok_ww u8, ok_ww u9, trivial⟩, ⟨ok_ww s0, ok_ww s1, ok_tt _, trivial⟩, oe⟩, ?_, eb, ee, by rw [lb]; exact n1, by rw [List.length_map]; exact n3, n2, n4⟩
  intro j v hj
  unfold MV.cells at hj
  rw [List.length_map, List.length_map] at hj
  match j, hj with
  | 0, hj => cases hj; exact k0
  | 1, hj => cases hj; exact k1
  | 2, hj => cases hj; exact r0
  | 3, hj => cases hj; exact r1
  | 4, hj => cases hj; exact r2
  | 5, hj => cases hj; exact r3
  | 6, hj => cases hj; exact r4
  | 7, hj => cases hj; exact r5
  | 8, hj => cases hj; exact k8
  | 9, hj => cases hj; exact k9
  | 10, hj => cases hj; exact c0
  | 11, hj => cases hj; exact c1
  | 12, hj => cases hj; exact c2
  | 13, hj => cases hj; exact c3
  | 14, hj => cases hj; exact c4
  | 15, hj => cases hj; exact c5
  | 16, hj => cases hj; exact c6
  | 17, hj => cases hj; exact c7
  | 18, hj => cases hj; exact c8
  | 19, hj => cases hj; exact c9
  | 20, hj => cases hj; exact q0
  | 21, hj => cases hj; exact q1
  | 22, hj => cases hj; exact q2
  | 23, hj => cases hj; exact q3
  | j + 24, hj => simp [rcV] at hj
end Go.Proofs.YtakedlockchpcaaDoor
namespace Go.Proofs.YtakedlockchpcaaDoor
open Go.ChangeShapes Go.WideShapes Go.ChangeAt Go.RowKit
abbrev gramR := (pairR (intR .i64) (pairR (intR .i64) (pairR boolR (pairR (intR .u64) (pairR (intR .i64) (pairR (intR .i64) (pairR (intR .i64) (pairR (pairR (intR .u32) (pairR (intR .i64) (pairR (intR .i64) (pairR (intR .u8) (pairR boolR boolR))))) (pairR (intR .i64) (pairR (intR .i64) (pairR (pairR (intR .i64) (pairR (intR .i64) (pairR (sliceZ (intR .i64)) (pairR (intR .i64) (pairR (intR .i64) (pairR (pairR (intR .i64) (pairR (intR .i64) (pairR (intR .i64) (intR .i64)))) (intR .i64))))))) (pairR (intR .i64) (pairR (intR .i64) (pairR boolR (sliceZ (pairR (intR .i64) (pairR (intR .u32) (pairR (intR .i64) (pairR (intR .i64) (pairR (intR .u8) (pairR (intR .i64) (pairR (intR .i64) (pairR (intR .u64) (pairR (intR .i64) (intR .i64)))))))))))))))))))))))))
abbrev draftR := (pairR (pairR (intR .i64) (pairR (intR .i64) (pairR boolR (pairR (intR .u64) (pairR (intR .i64) (pairR (intR .i64) (pairR (intR .i64) (pairR (pairR (intR .u32) (pairR (intR .i64) (pairR (intR .i64) (pairR (intR .u8) (pairR boolR boolR))))) (pairR (intR .i64) (pairR (intR .i64) (pairR (pairR (intR .i64) (pairR (intR .i64) (pairR (sliceZ (intR .i64)) (pairR (intR .i64) (pairR (intR .i64) (pairR (pairR (intR .i64) (pairR (intR .i64) (pairR (intR .i64) (intR .i64)))) (intR .i64))))))) (pairR (intR .i64) (pairR (intR .i64) (pairR boolR (sliceZ (pairR (intR .i64) (pairR (intR .u32) (pairR (intR .i64) (pairR (intR .i64) (pairR (intR .u8) (pairR (intR .i64) (pairR (intR .i64) (pairR (intR .u64) (pairR (intR .i64) (intR .i64))))))))))))))))))))))))) boolR)
set_option maxRecDepth 100000 in
theorem draftR_sound : SoundZ Tryd.prog 54 draftR := (soundZ_struct Tryd.underlying54 (by kernel_rfl) (soundZF_cons (soundZ_struct Tryd.underlying52 (by kernel_rfl) (soundZF_cons (sound_int Tryd.underlying3 (by kernel_rfl)).z rfl (soundZF_cons (sound_int Tryd.underlying3 (by kernel_rfl)).z rfl (soundZF_cons (sound_bool Tryd.underlying4 (by kernel_rfl)).z rfl (soundZF_cons (sound_int Tryd.underlying50 (by kernel_rfl)).z rfl (soundZF_cons (sound_int Tryd.underlying3 (by kernel_rfl)).z rfl (soundZF_one (soundZ_struct Tryd.underlying38 (by kernel_rfl) (soundZF_cons (sound_int Tryd.underlying3 (by kernel_rfl)).z rfl (soundZF_cons (sound_int Tryd.underlying3 (by kernel_rfl)).z rfl (soundZF_cons (soundZ_struct Tryd.underlying28 (by kernel_rfl) (soundZF_cons (sound_int Tryd.underlying26 (by kernel_rfl)).z rfl (soundZF_cons (sound_int Tryd.underlying2 (by kernel_rfl)).z rfl (soundZF_cons (sound_int Tryd.underlying2 (by kernel_rfl)).z rfl (soundZF_cons (sound_int Tryd.underlying5 (by kernel_rfl)).z rfl (soundZF_cons (sound_bool Tryd.underlying4 (by kernel_rfl)).z rfl (soundZF_one (sound_bool Tryd.underlying4 (by kernel_rfl)).z rfl))))))) rfl (soundZF_cons (sound_int Tryd.underlying2 (by kernel_rfl)).z rfl (soundZF_cons (sound_int Tryd.underlying3 (by kernel_rfl)).z rfl (soundZF_cons (soundZ_struct Tryd.underlying33 (by kernel_rfl) (soundZF_cons (sound_int Tryd.underlying3 (by kernel_rfl)).z rfl (soundZF_cons (sound_int Tryd.underlying2 (by kernel_rfl)).z rfl (soundZF_cons (soundZ_slice Tryd.underlying29 (by kernel_rfl) (by decide) (sound_int Tryd.underlying3 (by kernel_rfl)).z) rfl (soundZF_cons (sound_int Tryd.underlying3 (by kernel_rfl)).z rfl (soundZF_cons (sound_int Tryd.underlying3 (by kernel_rfl)).z rfl (soundZF_cons (soundZ_struct Tryd.underlying31 (by kernel_rfl) (soundZF_cons (sound_int Tryd.underlying3 (by kernel_rfl)).z rfl (soundZF_cons (sound_int Tryd.underlying2 (by kernel_rfl)).z rfl (soundZF_cons (sound_int Tryd.underlying2 (by kernel_rfl)).z rfl (soundZF_one (sound_int Tryd.underlying3 (by kernel_rfl)).z rfl))))) rfl (soundZF_one (sound_int Tryd.underlying3 (by kernel_rfl)).z rfl)))))))) rfl (soundZF_one (soundZ_struct Tryd.underlying36 (by kernel_rfl) (soundZF_cons (sound_int Tryd.underlying3 (by kernel_rfl)).z rfl (soundZF_cons (sound_int Tryd.underlying3 (by kernel_rfl)).z rfl (soundZF_cons (sound_bool Tryd.underlying4 (by kernel_rfl)).z rfl (soundZF_one (soundZ_slice Tryd.underlying34 (by kernel_rfl) (by decide) (soundZ_struct Tryd.underlying150 (by kernel_rfl) (soundZF_cons (sound_int Tryd.underlying3 (by kernel_rfl)).z rfl (soundZF_cons (sound_int Tryd.underlying26 (by kernel_rfl)).z rfl (soundZF_cons (sound_int Tryd.underlying2 (by kernel_rfl)).z rfl (soundZF_cons (sound_int Tryd.underlying2 (by kernel_rfl)).z rfl (soundZF_cons (sound_int Tryd.underlying5 (by kernel_rfl)).z rfl (soundZF_one (soundZ_struct Tryd.underlying70 (by kernel_rfl) (soundZF_cons (sound_int Tryd.underlying2 (by kernel_rfl)).z rfl (soundZF_cons (sound_int Tryd.underlying2 (by kernel_rfl)).z rfl (soundZF_cons (sound_int Tryd.underlying50 (by kernel_rfl)).z rfl (soundZF_cons (sound_int Tryd.underlying2 (by kernel_rfl)).z rfl (soundZF_one (sound_int Tryd.underlying2 (by kernel_rfl)).z rfl)))))) rfl)))))))) rfl))))) rfl)))))))) rfl))))))) rfl (soundZF_one (sound_bool Tryd.underlying4 (by kernel_rfl)).z rfl)))
theorem gram_at {L : List (Nat × Obj)} {cs : Array Value} {x : _} (h : gramR.lie L x (fun k => cs[k]?)) : ∃ (g : GV) (a : Option Addr) (cap : Nat) (a' : Option Addr) (cap' : Nat), GramAt L (g.cells a cap a' cap').toArray g a cap a' cap' ∧ Lies cs 0 (g.cells a cap a' cap') := by
  obtain ⟨⟨a0, w0⟩, ⟨a1, w1⟩, a2, ⟨a3, w3⟩, ⟨a4, w4⟩, hm⟩ := h
  obtain ⟨m, a, cap, a', cap', q1, q2, q3, q4, q5, q6, q7, q8⟩ := msg_at (cs := cs) (off := 5) hm
  refine ⟨⟨x.1, x.2.1, x.2.2.1, x.2.2.2.1, x.2.2.2.2.1, m⟩, a, cap, a', cap', ⟨⟨i64_bounds w0, i64_bounds w1, (u64_bounds w3).1, (u64_bounds w3).2, i64_bounds w4, q1⟩, rfl, q3, q4, q5, q6, q7, q8⟩, fun j v hj => ?_⟩
  rw [Nat.zero_add]
  match j, hj with
  | 0, hj => cases hj; exact a0
  | 1, hj => cases hj; exact a1
  | 2, hj => cases hj; exact a2
  | 3, hj => cases hj; exact a3
  | 4, hj => cases hj; exact a4
  | j + 5, hj =>
    have := q2 j v hj
    rwa [show j + 5 = 5 + j by omega]
theorem draft_of {L : List (Nat × Obj)} {cs : Array Value} {x : _} (hz : cs.size = 30) (h : draftR.lie L x (fun k => cs[k]?)) : ∃ (ds : Array Value) (g : GV) (odd : Bool) (a : Option Addr) (cap : Nat) (a' : Option Addr) (cap' : Nat), cs = ds.push (.bool odd) ∧ GramAt L ds g a cap a' cap' := by
  obtain ⟨h1, h2⟩ := h
  obtain ⟨g, a, cap, a', cap', h3, h4⟩ := gram_at h1
  have hl : (g.cells a cap a' cap').length = 29 := by have := h3.size; simpa using this
  refine ⟨_, g, x.2, a, cap, a', cap', ?_, h3⟩
  have e := lies_whole (cs := cs) (vs := g.cells a cap a' cap' ++ [.bool x.2]) (fun j v hj => ?_) (by rw [hz, List.length_append, hl]; rfl)
  · rw [e]; simp
  · rw [List.getElem?_append] at hj
    split at hj
    · exact h4 j v hj
    · rename_i hn
      have hlt := (List.getElem?_eq_some_iff.1 hj).1
      simp only [List.length_cons, List.length_nil] at hlt
      obtain rfl : j = 29 := by omega
      rw [hl] at hj
      cases hj
      exact h2
end Go.Proofs.YtakedlockchpcaaDoor
namespace Go.Proofs.YtakedlockchpcaaDoor
open Go.ChangeShapes Go.WideShapes Go.ChangeAt Go.RowKit
theorem h_et : Tryd.prog.globalNamed "errors.errorType" = some 0 := by kernel_rfl
theorem h_rt : (Tryd.prog.cutTypes.find? (·.1 == "internal/reflectlite.rtype")).map (·.2) = some 161 := by kernel_rfl
theorem h_oneRow : ((List.range 211).filter fun t => Tryd.prog.rowNamed t [101, 114, 114, 111, 114]) = [43] := by kernel_rfl
theorem h_size : Tryd.prog.types.size = 211 := by kernel_rfl
def laidL : List (String × DataW Unit) := [("errors.errorType", Rows.laid_errors_errorType)]
theorem handle_of_laid {W : World} (h : laidMetH Tryd.prog laidL W) : W.cell? ⟨0, 0, none⟩ = some handle := by
  have h' : laidMet Tryd.prog [] W ∧ handlesMet Tryd.prog laidL W := h
  obtain ⟨name, u, ty, e1, e2, e3, e4, e5⟩ := h'.2 _ (List.mem_singleton.2 rfl)
  have en : name = [101, 114, 114, 111, 114] := (Option.some.inj e1).symm
  subst en
  obtain rfl := Option.some.inj (h_rt.symm.trans e2)
  have hm : ty ∈ (List.range 211).filter fun t => Tryd.prog.rowNamed t [101, 114, 114, 111, 114] := List.mem_filter.2 ⟨List.mem_range.2 (by rw [← h_size]; exact e3), e4⟩
  rw [h_oneRow] at hm
  obtain rfl := List.mem_singleton.1 hm
  have hh : typeHandle Tryd.prog 43 = .pointer (some ⟨1, 43, none⟩) := by kernel_rfl
  rw [hh] at e5
  unfold handle
  simpa using World.var?_cell h_et e5 0
noncomputable def laidWorld (os : Os) : World :=
  let w0 := World.holding Tryd.prog os ⟨#[], #[], []⟩
  { w0 with heap := w0.heap.modify 0 fun
      | .cells _ t frozen => .cells #[handle] t frozen
      | o => o }
theorem laidWorld_met (os : Os) (args : Array Value) : laidMetH Tryd.prog laidL ((laidWorld os).forCall (fun _ _ => 0) ⟨#[], args, []⟩).memory :=
  laidMetH_of_parts (laidMet_nil _ _) (by kernel_rfl)
set_option maxRecDepth 100000 in
theorem liftedH {os : Os} {H : Type} {enc : TypeId × Value → H} {f : FuncId} {fn : Func} {s : ChangeSpec} {tb : TypeId} (started : os.Started) (noInit : Tryd.prog.inits.idxOf? f = none) (hfn : Tryd.prog.funcs[f]? = some fn)
    (witness : ∃ (w : World) (tape : Tape) (i : Input), w.os = os ∧ (w.forCall tape i).Shaped Tryd.prog ∧ i.vars = [] ∧ Input.okWide Tryd.prog (w.forCall tape i) .any w.heap.size f i ∧
      ((s.pre enc Tryd.prog fn [] false (w.forCall tape i).memory i.args ∧ laidMetH Tryd.prog laidL (w.forCall tape i).memory) ∧ sizedMet enc Tryd.prog fn (OpenSpec.ofChange s) false (w.forCall tape i).memory i.args) ∧ ({} : Assume).holds Tryd.prog (lone (Frame.enter Tryd.prog f i.args .normal) [] (w.forCall tape i)))
    (hts : (fn.params.toList.all fun t => Tryd.prog.readableRec t && decide (t < Tryd.prog.types.size)) = true) (hv : s.vars = []) (hr : fn.resultTypes = #[tb]) (hb : Tryd.prog.underlying tb = some .bool)
    (hspec : ∀ ds : List (DataW H), ds.length = fn.params.size → s.fn H ds = { results := [.lit (.bool true)], args := ds })
    (h : ∀ (W : World) (base : Nat) (args : Array Value) (ds : List (DataW H)) (ps : List MemPlace), (∀ (j : Nat) t v, fn.params[j]? = some t → args[j]? = some v → Value.okWide Tryd.prog W .any base t v) →
      DataW.TrodAll enc Tryd.prog W 0 (fun _ => true) true fn.params.toList args.toList ds ps → W.noneFrozen ps → (∃ cs E fr, (0, Obj.cells cs E fr) ∈ allL W ∧ cs[0]? = some handle) → Fn Tryd.prog f args.toList (allL W) fun v L' => v = .bool true ∧ L' = allL W) :
    ReturnsInHanded {} Tryd.checked os f .any (fun w args => (s.pre enc Tryd.prog fn [] false w args ∧ laidMetH Tryd.prog laidL w) ∧ sizedMet enc Tryd.prog fn (OpenSpec.ofChange s) false w args) (s.post enc Tryd.prog fn false true false false) := by
  refine returnsInHanded_of_change_and (C := Tryd.checked) (X := fun w _ => laidMetH Tryd.prog laidL w) (fun _ _ _ hh h => h.of_heap hh) ownOf started noInit hfn witness ?_
  intro W base args ds gs before hval hW _ _ hL _
  have hW' := hW
  obtain ⟨p, q, hA, hV, rfl, hfz, _⟩ := hW
  rw [hv] at hV
  obtain ⟨rfl, rfl⟩ := trodVars_none hV
  have hlen : ∀ {ts : List TypeId} {vs : List Value} {ds : List (DataW H)} {ps : List MemPlace}, DataW.TrodAll enc Tryd.prog W 0 (fun _ => true) true ts vs ds ps → ds.length = ts.length := by
    intro ts
    induction ts with
    | nil => intro vs ds ps h; obtain ⟨_, rfl, _⟩ := trodAll_nil h; rfl
    | cons t ts ih => intro vs ds ps h; obtain ⟨v, vs', d, ds', a, b, rfl, rfl, rfl, _, h2⟩ := trodAll_cons h; simp [ih h2]
  have hds := hspec ds (by rw [hlen hA]; simp)
  have hg := handle_of_laid hL
  have hblk : ∃ cs E fr, (0, Obj.cells cs E fr) ∈ allL W ∧ cs[0]? = some handle := by
    unfold World.cell? at hg
    cases hb : W.heap[0]? with
    | none => simp [hb] at hg
    | some o =>
      cases o with
      | cells cs E fr => exact ⟨cs, E, fr, allL_mem_of hb, by simpa [hb] using hg⟩
      | _ => simp [hb] at hg
  refine ((h W base args ds p hval hA (by simpa using hfz) hblk) W W (mem_allL W)).mono fun e W' ⟨v, L', h1, h2, h3, h4⟩ => ?_
  subst h3; subst h4
  exact ⟨_, h1, post_law laidOf hts hv hr hb (by simpa using hds) hW' (below_of_mem h2)⟩
end Go.Proofs.YtakedlockchpcaaDoor
