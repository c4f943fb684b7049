/-
  A part of what the last of these texts needs; by itself it proves no statement.
-/
import Derived.Test.YtncgndcepoicbaaGreatKH26
namespace Go.Proofs.YtncgndcepoicbaaGreat
open Go.RowKit
def rdyF (m : PlK → Bool × Bool) (f : Int) (x : OwnV) : Bool := (match x.nx with | some q => decide (q.1 ≤ f) | none => false) && wngF m x
abbrev gvL (l : List OwnV) : List Value := l.flatMap fun x => [iV x.bin, iV x.span, iV (x.nx.getD (0, 0)).2, iV (x.nx.getD (0, 0)).1]
theorem gvL_snoc (l : List OwnV) (y : OwnV) : gvL (l ++ [y]) = gvL l ++ [iV y.bin, iV y.span, iV (y.nx.getD (0, 0)).2, iV (y.nx.getD (0, 0)).1] := by simp [gvL]
theorem perm_hr1 {α : Type} (a b c d : α) (S F : List α) : (a :: b :: c :: d :: (S ++ F)).Perm ([b] ++ (S ++ (a :: c :: d :: F))) := by
  classical
  rw [List.perm_iff_count]
  intro z
  simp only [List.count_append, List.count_cons, List.count_nil]
  omega
attribute [local irreducible] Fn WC WL WR OW Qt YieldFn QW FnP FnD FnE
set_option maxHeartbeats 8000000 in
theorem hReady_fn {hb tb : Nat} {t : TbV} {w f : Int} {m : PlK → Bool × Bool} {S G F : List (Nat × Obj)} (hT : TbOk t) (hIn : TabIn tb F t) (hG : ∀ q ∈ G, q ∈ F) (h : HandAt hb tb S G t w m) : Fn Tryz.prog 24 [.pointer (some ⟨hb, 0, none⟩), iV f] (S ++ F) (fun v L' => ∃ S' X T, L' = T ++ (S' ++ (X ++ F)) ∧ HandL hb tb S' (X ++ G) t w m ∧ Buf 71 4 v T (rdyL t m w f).length (gvL (rdyL t m w f))) := by
  refine Fn_enterM Tryz.func24 rfl Tryz.ntmps24 rfl fun g => ?_
  have hfew : (hownL w t 8).length ≤ 520 := by
    have := hownL_len (w := w) (t := t) (n := 65) (fun r hr => by have := hT.short r hr; have := hT.few; omega) 8
    omega
  repeat (first | refine RQ ?_ | (refine WL_Q ?_; (first | refine QW_of (Qt_fieldV rfl) ?_ | refine QW_of (Qt_lookVE rfl) ?_)) | (refine RE ?_; try intro _) | (refine WL_op rfl ?_; (first | (refine OW_call rfl (hF := owns_fn) (hk := ?_); rintro _ _ ⟨xo, rfl, rfl⟩))) | refine RC ?_ | refine WG 0 ?_ | refine WG 1 ?_)
  rename_i x2 x3 x4
  refine WC_permT (L' := [(x4, Obj.cells #[.slice none 0 0] 66 (0, 0))] ++ (S ++ (hxO xo hb :: (x3, Obj.cells #[iV f] 2 (0, 0)) :: hxO x2 hb :: F))) (perm_hr1 ..).symm ?_
  refine WC_owns (J := fun pre B => ∃ v T, B = (x4, Obj.cells #[v] 66 (0, 0)) :: T ∧ Buf 71 4 v T (pre.filter (rdyF m f)).length (gvL (pre.filter (rdyF m f)))) hT (hIn.mem fun q hq => .tail _ (.tail _ (.tail _ hq))) (fun q hq => .tail _ (.tail _ (.tail _ (hG q hq)))) h (.head _) ⟨_, [], rfl, Buf.nil _ _⟩ rfl rfl rfl ?_ ?_
  · rintro S' X pre B y lv g' n' l d hL hpre hO ⟨v, T, rfl, hbf⟩ ol od hol
    obtain ⟨pv, rfl, hpv⟩ := hO
    have hp1 := hpv.one.1
    have hz5 : (owC y pv).toArray.size = 5 := rfl
    have hal : ((owC y pv).toArray.toList.all fun v => v.oneCell') = true := by simpa [List.all_eq_true] using OwnIn.one ⟨pv, rfl, hpv⟩
    have h54 : (owC y pv).toArray[4]? = some pv := rfl
    obtain ⟨rv, ava, hX, hLe⟩ := id hL
    obtain ⟨mb, es, cl, ps, hS', hE, hP⟩ := id hX
    obtain ⟨av, cv, rfl, _, _⟩ := id hbf.val
    have hpl := hpre.length_le
    rw [List.length_append] at hpl
    simp only [List.length_cons, List.length_nil] at hpl
    have hflt : (pre ++ [y]).filter (rdyF m f) = pre.filter (rdyF m f) ++ if rdyF m f y then [y] else [] := by
      rw [List.filter_append]
      cases hr : rdyF m f y <;> simp [List.filter, hr]
    have hfl2 := List.length_filter_le (rdyF m f) pre
    simp only [List.cons_append]
    repeat (first | refine RQ ?_ | (refine WL_Q ?_; (first | refine QW_of (Qt_fieldV rfl) ?_ | refine QW_of (Qt_lookVE rfl) ?_)) | (refine RE ?_; try intro _) | refine RC ?_ | refine WG 2 ?_)
    refine ⟨rfl, _, [_], _, rfl, fun ol' hol' => ?_⟩
    simp only [List.cons_append, List.nil_append]
    rename_i x5
    obtain ⟨M, hM⟩ : ∃ M, M = (x5, Obj.cells (owC y pv).toArray 156 (0, 0)) :: (l, ol') :: (d, od) :: (x4, Obj.cells #[.slice av (pre.filter (rdyF m f)).length cv] 66 (0, 0)) :: (T ++ (S' ++ (X ++ hxO xo hb :: (x3, Obj.cells #[iV f] 2 (0, 0)) :: hxO x2 hb :: F))) := ⟨_, rfl⟩
    have hSM : ∀ q ∈ S', q ∈ M := fun q hq => by rw [hM]; exact .tail _ (.tail _ (.tail _ (.tail _ (List.mem_append_right _ (List.mem_append_left _ hq)))))
    have hFM : ∀ q ∈ X ++ hxO xo hb :: (x3, Obj.cells #[iV f] 2 (0, 0)) :: hxO x2 hb :: F, q ∈ M := fun q hq => by rw [hM]; exact .tail _ (.tail _ (.tail _ (.tail _ (List.mem_append_right _ (List.mem_append_right _ hq)))))
    obtain ⟨i2, hi2⟩ := List.mem_iff_getElem?.1 (hFM (hxO x2 hb) (List.mem_append_right _ (.tail _ (.tail _ (.head _)))))
    obtain ⟨i3, hi3⟩ := List.mem_iff_getElem?.1 (hFM (x3, Obj.cells #[iV f] 2 (0, 0)) (List.mem_append_right _ (.tail _ (.head _))))
    obtain ⟨ih, hih⟩ := List.mem_iff_getElem?.1 (hSM (hb, Obj.cells (hnC tb w mb (((t.cmds.length : Nat) : Int) + 1) rv ava) 150 (0, 0)) (by rw [hS']; exact .head _))
    obtain ⟨im, him⟩ := List.mem_iff_getElem?.1 (hSM (mb, Obj.map es cl) (by rw [hS']; exact .tail _ (.head _)))
    have hi5 : M[0]? = some (x5, Obj.cells (owC y pv).toArray 156 (0, 0)) := by rw [hM]; rfl
    have hv := hP y.key
    have hno : rdyF m f y = false → ∃ L'' : List (Nat × Obj), ((l, ol') :: (d, od) :: L'').Sublist M ∧ ∃ B', L'' = B' ++ (S' ++ (X ++ hxO xo hb :: (x3, Obj.cells #[iV f] 2 (0, 0)) :: hxO x2 hb :: F)) ∧ ∃ v T, B' = (x4, Obj.cells #[v] 66 (0, 0)) :: T ∧ Buf 71 4 v T ((pre ++ [y]).filter (rdyF m f)).length (gvL ((pre ++ [y]).filter (rdyF m f))) := fun hr => by
      rw [hflt, hr, hM]
      simp only [Bool.false_eq_true, if_false, List.append_nil]
      exact ⟨_, .cons _ (.refl _), _, rfl, _, T, rfl, hbf⟩
    rw [← hM]
    cases hn : y.nx with
    | none =>
      rw [hn] at hpv
      obtain rfl : pv = .pointer none := hpv
      repeat (first | refine RQr ?_ | ((first | refine WL_Q ?_ | refine WL_Y ?_ | refine WR_Q rfl ?_ | refine WR_late rfl rfl rfl (OW_Q ?_) | refine WR_Y rfl ?_); (first | refine QW_of (Qt_fieldV rfl) ?_ | refine QW_of (Qt_lookVE rfl) ?_)) | ((first | refine WL_op rfl ?_ | refine WL_yes (h := ?_) | refine WR_late rfl rfl rfl ?_ | refine WR_opG rfl rfl ?_ | refine WR_opYG rfl (h := ?_)); (first | refine OW_callP rfl (hF := whole_fn hX hSM y.key) (hk := ?_)); try refine SD ?_) | refine RC ?_ | refine RU ?_ | refine WC_draw_all (id := 3) 29 (Cs [0,1,2,3,4,5,6,7,8,9,10,11,12,13,14,15] <| .must 16 <| Cs [17,18,19,20,21,22,23,24,25,26,27,28] <| .done) mixed (by kernel_rfl) ?_)
      exact hno (by unfold rdyF; rw [hn]; rfl)
    | some n =>
      rw [hn] at hpv
      obtain ⟨nb, nof, ncs, nE, nfr, rfl, hnm, hn1, hn2⟩ := hpv
      obtain ⟨ii, hii⟩ := List.mem_iff_getElem?.1 (hFM (nb, Obj.cells ncs nE nfr) (by
        rcases List.mem_append.1 hnm with h | h
        · exact List.mem_append_left _ h
        · exact List.mem_append_right _ (.tail _ (.tail _ (.tail _ (hG _ h))))))
      have hrd : rdyF m f y = (decide (n.1 ≤ f) && wngF m y) := by unfold rdyF; rw [hn]
      unfold wngF at hrd
      cases e1 : decide (n.1 ≤ f)
      · repeat (first | refine RQr ?_ | ((first | refine WL_Q ?_ | refine WL_Y ?_ | refine WR_Q rfl ?_ | refine WR_late rfl rfl rfl (OW_Q ?_) | refine WR_Y rfl ?_); (first | refine QW_of (Qt_fieldV rfl) ?_ | refine QW_of (Qt_lookVE rfl) ?_)) | ((first | refine WL_op rfl ?_ | refine WL_yes (h := ?_) | refine WR_late rfl rfl rfl ?_ | refine WR_opG rfl rfl ?_ | refine WR_opYG rfl (h := ?_)); (first | refine OW_callP rfl (hF := whole_fn hX hSM y.key) (hk := ?_)); try refine SD ?_) | refine RC ?_ | refine RU ?_ | refine WC_draw_all (id := 3) 29 (Cs [0,1,2,3,4,5,6,7,8,9,10,11,12,13,14,15] <| .must 16 <| Cs [17,18,19,20,21,22,23,24,25,26,27,28] <| .done) mixed (by kernel_rfl) ?_)
        exact hno (by rw [hrd, e1]; rfl)
      cases e2 : (decide (y.span = 0) || (m y.key).1)
      · have e2' : (decide (y.key.2 = 0) || (m y.key).1) = false := e2
        repeat (first | refine RQr ?_ | ((first | refine WL_Q ?_ | refine WL_Y ?_ | refine WR_Q rfl ?_ | refine WR_late rfl rfl rfl (OW_Q ?_) | refine WR_Y rfl ?_); (first | refine QW_of (Qt_fieldV rfl) ?_ | refine QW_of (Qt_lookVE rfl) ?_)) | ((first | refine WL_op rfl ?_ | refine WL_yes (h := ?_) | refine WR_late rfl rfl rfl ?_ | refine WR_opG rfl rfl ?_ | refine WR_opYG rfl (h := ?_)); (first | refine OW_callP rfl (hF := whole_fn hX hSM y.key) (hk := ?_)); try refine SD ?_) | refine RC ?_ | refine RU ?_ | refine WC_draw_all (id := 3) 29 (Cs [0,1,2,3,4,5,6,7,8,9,10,11,12,13,14,15] <| .must 16 <| Cs [17,18,19,20,21,22,23,24,25,26,27,28] <| .done) mixed (by kernel_rfl) ?_)
        exact hno (by rw [hrd, e2]; simp)
      have e2' : (decide (y.key.2 = 0) || (m y.key).1) = true := e2
      cases e3 : (m y.key).2
      rotate_left
      · have e3' : (!(m y.key).2) = false := by rw [e3]; rfl
        repeat (first | refine RQr ?_ | ((first | refine WL_Q ?_ | refine WL_Y ?_ | refine WR_Q rfl ?_ | refine WR_late rfl rfl rfl (OW_Q ?_) | refine WR_Y rfl ?_); (first | refine QW_of (Qt_fieldV rfl) ?_ | refine QW_of (Qt_lookVE rfl) ?_)) | ((first | refine WL_op rfl ?_ | refine WL_yes (h := ?_) | refine WR_late rfl rfl rfl ?_ | refine WR_opG rfl rfl ?_ | refine WR_opYG rfl (h := ?_)); (first | refine OW_callP rfl (hF := whole_fn hX hSM y.key) (hk := ?_)); try refine SD ?_) | refine RC ?_ | refine RU ?_ | refine WC_draw_all (id := 3) 29 (Cs [0,1,2,3,4,5,6,7,8,9,10,11,12,13,14,15] <| .must 16 <| Cs [17,18,19,20,21,22,23,24,25,26,27,28] <| .done) mixed (by kernel_rfl) ?_)
        exact hno (by rw [hrd, e3]; simp)
      have e3' : (!(m y.key).2) = true := by rw [e3]; rfl
      have hyes : rdyF m f y = true := by rw [hrd, e1, e2, e3]; rfl
      repeat (first | refine RQr ?_ | ((first | refine WL_Q ?_ | refine WL_Y ?_ | refine WR_Q rfl ?_ | refine WR_late rfl rfl rfl (OW_Q ?_) | refine WR_Y rfl ?_); (first | refine QW_of (Qt_fieldV rfl) ?_ | refine QW_of (Qt_lookVE rfl) ?_)) | ((first | refine WL_op rfl ?_ | refine WL_yes (h := ?_) | refine WR_late rfl rfl rfl ?_ | refine WR_opG rfl rfl ?_ | refine WR_opYG rfl (h := ?_)); (first | refine OW_callP rfl (hF := whole_fn hX hSM y.key) (hk := ?_)); try refine SD ?_) | refine RC ?_ | refine RU ?_ | refine WC_draw_all (id := 3) 29 (Cs [0,1,2,3,4,5,6,7,8,9,10,11,12,13,14,15] <| .must 16 <| Cs [17,18,19,20,21,22,23,24,25,26,27,28] <| .done) mixed (by kernel_rfl) ?_)
      rw [hM]
      obtain ⟨R, hR⟩ : ∃ R, R = S' ++ (X ++ hxO xo hb :: (x3, Obj.cells #[iV f] 2 (0, 0)) :: hxO x2 hb :: F) := ⟨_, rfl⟩
      rw [← hR]
      obtain ⟨i4, hi4⟩ := List.mem_iff_getElem?.1 (show (nb, Obj.cells ncs nE nfr) ∈ (x5, Obj.cells (owC y (.pointer (some ⟨nb, nof, none⟩))).toArray 156 (0, 0)) :: (x4, Obj.cells #[.slice av (pre.filter (rdyF m f)).length cv] 66 (0, 0)) :: R from .tail _ (.tail _ (by
        rw [hR]
        refine List.mem_append_right _ ?_
        rcases List.mem_append.1 hnm with h | h
        · exact List.mem_append_left _ h
        · exact List.mem_append_right _ (.tail _ (.tail _ (.tail _ (hG _ h)))))))
      refine WC_draw_sub (id := 4) 16 (Cs [0,1,2,3,4,5,6,7,8,9,10,11,12,13] <| .must 14 <| .must 15 <| .must 16 <| .done) mixed (by kernel_rfl) (.cons_cons _ (.cons _ (.cons _ (.cons_cons _ (List.sublist_append_right T R))))) ?_
      repeat (first | refine RQr ?_ | (refine RX ?_; (first | refine QW_of (Qt_fieldV rfl) ?_ | refine QW_of (Qt_lookVE rfl) ?_)) | ((first | refine WL_op rfl ?_ | refine WR_late rfl rfl rfl ?_ | refine WR_op rfl rfl ?_); (first | (refine OE ?_; try intro _)); try refine SD ?_) | refine RC ?_ | refine RU ?_ | refine WC_draw_all (id := 4) 16 (Cs [0,1,2,3,4,5,6,7,8,9,10,11,12,13] <| .must 14 <| .must 15 <| .must 16 <| .done) mixed (by kernel_rfl) ?_)
      rename_i xs
      refine WR_op rfl rfl (OW_permT2 (L' := [(xs, Obj.cells #[iV y.bin, iV y.span, iV n.2, iV n.1] 71 (0, 0)), (x5, Obj.cells (owC y (.pointer (some ⟨nb, nof, none⟩))).toArray 156 (0, 0)), (l, ol'), (d, od), (x4, Obj.cells #[.slice av (pre.filter (rdyF m f)).length cv] 66 (0, 0))] ++ (T ++ R)) (.refl _) (OW_append_buf (T := T) (B := R) rfl rfl rfl rfl rfl hbf (m := 1) (news := [iV y.bin, iV y.span, iV n.2, iV n.1]) (srcVec (sz := 4) ⟨rfl, _, _, rfl, Nat.le_refl _, by decide, .inr ⟨_, _, _, _, _, 0, rfl, rfl, fun j x hx => by rw [Nat.zero_add]; simpa using hx⟩⟩ (fun u hu => by simp only [List.mem_cons, List.not_mem_nil, or_false] at hu; rcases hu with rfl | rfl | rfl | rfl <;> rfl)) (by decide) (by simp only [maxLen]; omega) (by omega) ?_))
      intro v' T' hb'
      obtain ⟨av', cv', rfl, _, _⟩ := id hb'.val
      refine ⟨sub_mem (.cons _ (.cons_cons _ (.cons _ (.cons _ (.cons_cons _ (List.sublist_append_right T' R)))))), ?_⟩
      simp only [List.cons_append, List.nil_append]
      repeat (first | refine RQr ?_ | (refine RX ?_; (first | refine QW_of (Qt_fieldV rfl) ?_ | refine QW_of (Qt_lookVE rfl) ?_)) | (refine OX ?_; (first | (refine OE ?_; try intro _)); try refine SD ?_) | refine RC ?_ | refine RU ?_ | refine WC_draw_all (id := 4) 16 (Cs [0,1,2,3,4,5,6,7,8,9,10,11,12,13] <| .must 14 <| .must 15 <| .must 16 <| .done) mixed (by kernel_rfl) ?_)
      refine ⟨_, .cons _ (.cons _ (.refl _)), (x4, Obj.cells #[.slice av' ((pre.filter (rdyF m f)).length + 1) cv'] 66 (0, 0)) :: T', by rw [hR]; rfl, _, T', rfl, ?_⟩
      rw [hflt, hyes]
      simp only [if_true]
      rw [List.length_append, gvL_snoc, hn]
      exact hb'
  · rintro d S' X B hL ⟨v, T, rfl, hbf⟩
    obtain ⟨av, cv, rfl, _, _⟩ := id hbf.val
    repeat (first | refine RQ ?_ | (refine WL_Q ?_; (first | refine QW_of (Qt_fieldV rfl) ?_ | refine QW_of (Qt_lookVE rfl) ?_)) | (refine RE ?_; try intro _) | refine RC ?_ | refine WG 5 ?_)
    refine ⟨_, ⟨d, 0, _, rfl, rfl, rfl, rfl⟩, _, _, Res1 rfl (resV_cell1 rfl 1 rfl), .cons _ (.cons _ (.refl _)), S', X ++ [hxO xo hb, (x3, Obj.cells #[iV f] 2 (0, 0)), hxO x2 hb], T, by simp, hL.mem (fun q hq => by
      rcases List.mem_append.1 hq with h | h
      · exact List.mem_append_left _ (List.mem_append_left _ h)
      · exact List.mem_append_right _ h), hbf⟩
end Go.Proofs.YtncgndcepoicbaaGreat
namespace Go.Proofs.YtncgndcepoicbaaGreat
open Go.RowKit
structure ActV where
  what : Int
  to : Int
  bins : Int
  more : Int
  bin : Int
  span : Int
  fv : Value
abbrev acC (x : ActV) : Array Value := #[.int .u8 x.what, .int .u8 x.to, .int .u8 x.bins, .int .u8 x.more, .int .i8 x.bin, .int .i8 x.span, x.fv]
structure ActOk (x : ActV) : Prop where
  w : 0 ≤ x.what ∧ x.what < 256
  t : 0 ≤ x.to ∧ x.to < 256
  b : 0 ≤ x.bins ∧ x.bins < 256
  m : 0 ≤ x.more ∧ x.more < 256
  f : x.fv.oneCell' = true
def chP : PlV := ⟨[], [((4, 10, 0, 0), [])], 0, 10⟩
def chC (a : Int) : CfV := (3, 1 + a % 3, 1, 1, 4)
theorem i64q_ofc {x : Int} (h : -1000 ≤ x ∧ x ≤ 1000) : i64q x := by unfold i64q; omega
theorem chP_ok : (planF chP).2 = 0 := by decide
theorem chC_ok {a : Int} : rightF (chC a) = true := by
  unfold chC rightF
  apply decide_eq_true
  dsimp only
  refine ⟨⟨by omega, by omega⟩, ⟨by omega, by omega⟩, ⟨by omega, by omega⟩, ⟨by omega, by omega⟩, ⟨by omega, by omega⟩⟩
attribute [local irreducible] Fn WC WL WR OW Qt YieldFn QW FnP FnD FnE
set_option maxHeartbeats 2000000 in
theorem acmd_fn {y : ActV} (hy : ActOk y) {last : Int} (hl : 0 ≤ last ∧ last ≤ 1099511627776) {L : List (Nat × Obj)} :
    Fn Tryz.prog 23 [.agg (acC y), iV last] L (fun v L' => ∃ x bv T, v = .agg (cmC x bv).toArray ∧ L' = T ++ L ∧ VecM 1 T bv x.bins.length (x.bins.map iV) ∧ CmR x ∧ x.bins.length ≤ 8 ∧ last < x.at_ ∧ x.at_ ≤ last + 20) := by
  obtain ⟨w, to, b, mo, bi, sp, fv⟩ := y
  obtain ⟨hw, ht, _, hm, hfv⟩ := hy
  simp only at hw ht hm hfv
  refine Fn_enter Tryz.func23 rfl Tryz.ntmps23 rfl fun g => ?_
  have wk : IntKind.i64.wrap (IntKind.i64.wrap (w.tmod 10) - 5) = w % 10 - 5 := by rw [Int.tmod_eq_emod_of_nonneg hw.1, wI64 (x := w % 10) (by omega) (by omega), wI64 (by omega) (by omega)]
  have wt : IntKind.i64.wrap (1 + IntKind.i64.wrap (to.tmod 3)) = 1 + to % 3 := wr_mod ht.1 (by decide) (by decide) (by decide)
  have wf : IntKind.i64.wrap (IntKind.i64.wrap (last + 1) + IntKind.i64.wrap (mo.tmod 20)) = last + 1 + mo % 20 := by rw [Int.tmod_eq_emod_of_nonneg hm.1, wI64 (x := last + 1) (by omega) (by omega), wI64 (x := mo % 20) (by omega) (by omega), wI64 (by omega) (by omega)]
  have hall0 : ((acC ⟨w, to, b, mo, bi, sp, fv⟩).toList.all fun v => v.oneCell') = true := by
    show (true && (true && (true && (true && (true && (true && (fv.oneCell' && true))))))) = true
    rw [hfv]
    rfl
  repeat (first | refine RQ ?_ | (refine WL_Q ?_; (first | refine QW_of (Qt_ldX rfl (hn := by with_reducible assumption)) ?_ | refine QW_of (Qt_shr rfl (hb := by with_reducible assumption)) ?_)) | (refine RE ?_; try intro _) | refine RC ?_ | refine WG 0 ?_ | refine WG 1 ?_ | refine WG 2 ?_)
  rw [wk, wt, wf]
  rename_i x2 x4 x5
  obtain ⟨c0, hc0⟩ : ∃ c0 : CmV, c0 = ⟨w % 10 - 5, last + 1 + mo % 20, [], 1 + to % 3, 0, (0, 0, 0, 0), 0⟩ := ⟨_, rfl⟩
  refine WC_wk [(6, iV ((0 : Nat) : Int)), (5, .pointer (some ⟨x5, 0, none⟩)), (4, .pointer (some ⟨x4, 0, none⟩)), (2, .pointer (some ⟨x2, 0, none⟩))] ⟨rfl, rfl, rfl, rfl, trivial⟩ ?_
  refine WC_permT (L' := (x5, Obj.cells (cmC c0 (.slice none 0 0)).toArray 42 (0, 0)) :: (x4, Obj.cells zc42 42 (0, 0)) :: (x2, Obj.cells (acC ⟨w, to, b, mo, bi, sp, fv⟩) 64 (0, 0)) :: L) (by rw [hc0]; exact .refl _) ?_
  have hcm2 : ∀ v : Value, (cmC c0 v).toArray[2]? = some v := fun v => rfl
  have hcsz : ∀ v : Value, (cmC c0 v).toArray.size = 10 := fun v => rfl
  refine WC_loop (fun m σ => ∃ (k : Nat) (bl : List Int) (v : Value) (T : List (Nat × Obj)), m = 8 - k ∧ k ≤ 8 ∧ bl.length ≤ k ∧ (∀ y ∈ bl, 0 ≤ y ∧ y < 8) ∧ BufI v T bl ∧ σ = ⟨[(6, iV (k : Int)), (5, .pointer (some ⟨x5, 0, none⟩)), (4, .pointer (some ⟨x4, 0, none⟩)), (2, .pointer (some ⟨x2, 0, none⟩))], [], (x5, Obj.cells (cmC c0 v).toArray 42 (0, 0)) :: (x4, Obj.cells zc42 42 (0, 0)) :: (x2, Obj.cells (acC ⟨w, to, b, mo, bi, sp, fv⟩) 64 (0, 0)) :: (T ++ L)⟩) 8 ⟨0, [], _, [], rfl, by decide, Nat.le_refl _, by simp, Buf.nil _ _, rfl⟩ ?_
  rintro _ σ ⟨k, bl, v, T, rfl, hk, hbl, hbr, hbf, rfl⟩
  obtain ⟨av, cv, rfl, _, _⟩ := id hbf.val
  have e2 := hcm2 (.slice av bl.length cv)
  have es := hcsz (.slice av bl.length cv)
  by_cases h8 : k < 8
  rotate_left
  · have d1 : decide ((k : Int) < 8) = false := decide_eq_false (by omega)
    have hall := (show CmAt T (cmC { c0 with bins := bl } (.slice av bl.length cv)) { c0 with bins := bl } from ⟨_, rfl, Buf.vecM hbf, ⟨(by rw [hc0]; unfold i64q; simp only; omega), (by rw [hc0]; unfold i64q; simp only; omega), fun y hy => by have := hbr y hy; unfold i64q; omega, (by rw [hc0]; unfold i64q; simp only; omega), (by rw [hc0]; exact i64q_ofc (x := 0) (by decide)), (by rw [hc0]; exact ⟨i64q_ofc (x := 0) (by decide), i64q_ofc (x := 0) (by decide), i64q_ofc (x := 0) (by decide), i64q_ofc (x := 0) (by decide)⟩), (by rw [hc0]; exact i64q_ofc (x := 0) (by decide))⟩⟩)
    have ha2 : ((cmC c0 (.slice av bl.length cv)).toArray.toList.all fun v => v.oneCell') = true := hall.all
    repeat (first | refine RQ ?_ | (refine WL_Q ?_; (first | refine QW_of (Qt_ldX rfl (hn := by with_reducible assumption)) ?_ | refine QW_of (Qt_shr rfl (hb := by with_reducible assumption)) ?_)) | (refine RE ?_; try intro _) | refine RC ?_ | refine WG 3 ?_ | refine WG 7 ?_)
    obtain ⟨_, _, hV, hR⟩ := hall
    exact ⟨rfl, _, _, Res1 rfl (resV_cellN (n := 10) rfl 1 rfl rfl), .cons _ (.cons _ (.cons _ (.refl _))), { c0 with bins := bl }, .slice av bl.length cv, T, rfl, rfl, Buf.vecM hbf, hR, by simp only; omega, by rw [hc0]; simp only; omega, by rw [hc0]; simp only; omega⟩
  have d1 : decide ((k : Int) < 8) = true := decide_eq_true (by omega)
  have ww : IntKind.i64.wrap ((k : Int) + 1) = ((k + 1 : Nat) : Int) := by rw [wI64 (by omega) (by omega)]; omega
  have p0 : (0 : Int) ≤ (k : Int) := by omega
  repeat (first | refine RQ ?_ | (refine WL_Q ?_; (first | refine QW_of (Qt_ldX rfl (hn := by with_reducible assumption)) ?_ | refine QW_of (Qt_shr rfl (hb := by with_reducible assumption)) ?_)) | refine RC ?_ | refine WG 3 ?_ | refine WG 5 ?_)
  obtain ⟨tv, htv⟩ : ∃ tv : Bool, (IntKind.u8.wrap ((BitVec.ofInt IntKind.u8.bits (b.fdiv (2 ^ min ((k : Nat) : Int).toNat IntKind.u8.bits)) &&& BitVec.ofInt IntKind.u8.bits 1).toNat : Int) == 1) = tv := ⟨_, rfl⟩
  rw [htv]
  cases tv
  · repeat (first | refine RQ ?_ | (refine WL_Q ?_; (first | refine QW_of (Qt_ldX rfl (hn := by with_reducible assumption)) ?_ | refine QW_of (Qt_shr rfl (hb := by with_reducible assumption)) ?_)) | refine RC ?_ | refine WG 5 ?_ | refine WG 4 ?_)
    rw [ww]
    exact ⟨_, _, by omega, ⟨k + 1, bl, _, T, rfl, by omega, by omega, hbr, hbf, rfl⟩, ⟨rfl, rfl, rfl, rfl, trivial⟩, rfl, .refl _⟩
  · repeat (first | refine RQ ?_ | (refine WL_Q ?_; (first | refine QW_of (Qt_ldX rfl (hn := by with_reducible assumption)) ?_ | refine QW_of (Qt_shr rfl (hb := by with_reducible assumption)) ?_)) | (refine RE ?_; try intro _) | refine RC ?_ | refine WG 5 ?_ | refine WG 6 ?_)
    rename_i xs
    refine WL_op rfl (OW_append_buf (A := [(xs, Obj.cells #[iV k] 3 (0, 0)), (x5, Obj.cells (cmC c0 (.slice av bl.length cv)).toArray 42 (0, 0)), (x4, Obj.cells zc42 42 (0, 0)), (x2, Obj.cells (acC ⟨w, to, b, mo, bi, sp, fv⟩) 64 (0, 0))]) (T := T) (B := L) rfl rfl rfl rfl rfl hbf (src1 0 rfl) (by decide) (by simp only [maxLen]; omega) (by omega) ?_)
    intro v' T' hb'
    obtain ⟨av', cv', rfl, _, _⟩ := id hb'.val
    simp only [List.cons_append, List.nil_append]
    repeat (first | refine RQ ?_ | (refine WL_Q ?_; (first | refine QW_of (Qt_ldX rfl (hn := by with_reducible assumption)) ?_ | refine QW_of (Qt_shr rfl (hb := by with_reducible assumption)) ?_)) | (refine RE ?_; try intro _) | refine RC ?_ | refine WG 6 ?_ | refine WG 4 ?_)
    rw [ww]
    refine ⟨_, _, by omega, ⟨k + 1, bl ++ [(k : Int)], .slice av' (bl.length + 1) cv', T', rfl, by omega, by simp; omega, fun y hy => ?_, ?_, rfl⟩, ⟨rfl, rfl, rfl, rfl, trivial⟩, rfl, .cons _ (.refl _)⟩
    · rcases List.mem_append.1 hy with h | h
      · exact hbr y h
      · obtain rfl : y = k := by simpa using h
        omega
    · unfold BufI
      rw [List.length_append, List.map_append]
      exact hb'
set_option maxHeartbeats 2000000 in
theorem tables_fn {a : Int} (ha : 0 ≤ a ∧ a < 256) {L : List (Nat × Obj)} : Fn Tryz.prog 21 [.int .u8 a] L (fun r L' => ∃ tb rb S G, r = .tuple #[.pointer (some ⟨tb, 0, none⟩), .pointer (some ⟨rb, 0, none⟩)] ∧ L' = S ++ (G ++ L) ∧ TabAt tb S G (newT chP (chC a))) := by
  refine Fn_enter Tryz.func21 rfl Tryz.ntmps21 rfl fun g => ?_
  have wa : IntKind.i64.wrap (1 + IntKind.i64.wrap (a.tmod 3)) = 1 + a % 3 := wr_mod ha.1 (by decide) (by decide) (by decide)
  repeat (first | refine RQ ?_ | (refine WL_Q ?_; (first | refine QW_of (Qt_ldX rfl (hn := by with_reducible assumption)) ?_ | refine QW_of (Qt_shr rfl (hb := by with_reducible assumption)) ?_)) | (refine RE ?_; try intro _) | refine RC ?_ | refine WG 0 ?_ | refine WG 1 ?_ | refine WG 2 ?_)
  rw [wa]
  rename_i xs x4 x5
  refine WC_wk [(5, .pointer (some ⟨x5, 0, none⟩)), (4, .pointer (some ⟨x4, 0, none⟩))] ⟨rfl, rfl, trivial⟩ ?_
  obtain ⟨pv, hpv⟩ : ∃ pv, pv = plC (.slice none 0 0) (.slice (some ⟨xs, 0, none⟩) 1 1) chP := ⟨_, rfl⟩
  have hpz : pv.size = 4 := by rw [hpv]; rfl
  have hpa : (pv.toList.all fun v => v.oneCell') = true := by rw [hpv]; rfl
  have hcz : (cfC (chC a)).size = 5 := rfl
  have hca : ((cfC (chC a)).toList.all fun v => v.oneCell') = true := rfl
  obtain ⟨M, hM⟩ : ∃ M, M = (x5, Obj.cells (cfC (chC a)) 27 (0, 0)) :: (x4, Obj.cells pv 25 (0, 0)) :: (xs, Obj.cells (stC (4, 10, 0, 0) (.slice none 0 0)) 100 (0, 0)) :: L := ⟨_, rfl⟩
  refine WC_permT (L' := M) (by rw [hM, hpv]; exact .refl _) ?_
  obtain ⟨M0, hM0⟩ : ∃ M0, M0 = [(x5, Obj.cells (cfC (chC a)) 27 (0, 0)), (x4, Obj.cells pv 25 (0, 0)), (xs, Obj.cells (stC (4, 10, 0, 0) (.slice none 0 0)) 100 (0, 0))] := ⟨_, rfl⟩
  have hMM : M = M0 ++ L := by rw [hM, hM0]; rfl
  have hpl0 : PlAt M0 pv chP := by
    rw [hpv]
    refine ⟨_, _, [(stC (4, 10, 0, 0) (.slice none 0 0)).toList], rfl, VecM.nil _ _, ⟨rfl, _, 1, rfl, Nat.le_refl _, by decide, .inr ⟨xs, 0, _, _, _, rfl, by rw [hM0]; exact .tail _ (.tail _ (.head _)), fun j x hj => by rw [Nat.zero_add]; simpa using hj⟩⟩, ⟨_, rfl, VecM.nil _ _⟩, trivial⟩
  have hpl : PlAt M pv chP := hpl0.mem fun q hq => by rw [hMM]; exact List.mem_append_left _ hq
  have hi8 : M[1]? = some (x4, Obj.cells pv 25 (0, 0)) := by rw [hM]; rfl
  have hi9 : M[0]? = some (x5, Obj.cells (cfC (chC a)) 27 (0, 0)) := by rw [hM]; rfl
  clear hM hM0 hpv
  repeat (first | refine RQ ?_ | (refine WL_Q ?_; (first | refine QW_of (Qt_ldX rfl (hn := by with_reducible assumption)) ?_ | refine QW_of (Qt_shr rfl (hb := by with_reducible assumption)) ?_)) | (refine WL_op rfl ?_; (first | (refine OW_call rfl (hF := New_fn hpl chP_ok chC_ok) (hk := ?_); rintro _ _ ⟨tb, S, G, rfl, rfl, hTab⟩))) | refine RC ?_ | refine WG 3 ?_)
  have hd0 : Fn Tryz.prog 9 [.agg pv, .agg (cfC (chC a))] (S ++ (G ++ M)) (fun v L' => (∃ rb cs, v = .tuple #[.pointer (some ⟨rb, 0, none⟩), iV 0] ∧ L' = rfO rb cs :: (S ++ (G ++ M)) ∧ RefAt cs M0 chP (chC a) [])) := by
    refine (dNew_fn (c := chC a) (L := S ++ (G ++ M)) hpl0 (fun q h => List.mem_append_right _ (List.mem_append_right _ (by rw [hMM]; exact List.mem_append_left _ h))) (by decide)).mono ?_
    rintro v L' (⟨h0, _⟩ | ⟨_, h0, _⟩ | ⟨_, _, rb, cs, h1, h2, h3⟩)
    · exact absurd chP_ok h0
    · rw [chC_ok] at h0; cases h0
    · exact ⟨rb, cs, h1, h2, h3⟩
  obtain ⟨i8, hi8'⟩ := List.mem_iff_getElem?.1 (show (x4, Obj.cells pv 25 (0, 0)) ∈ S ++ (G ++ M) from List.mem_append_right _ (List.mem_append_right _ (List.mem_of_getElem? hi8)))
  obtain ⟨i9, hi9'⟩ := List.mem_iff_getElem?.1 (show (x5, Obj.cells (cfC (chC a)) 27 (0, 0)) ∈ S ++ (G ++ M) from List.mem_append_right _ (List.mem_append_right _ (List.mem_of_getElem? hi9)))
  repeat (first | refine RQ ?_ | (refine WL_Q ?_; (first | refine QW_of (Qt_ldX rfl (hn := by with_reducible assumption)) ?_ | refine QW_of (Qt_shr rfl (hb := by with_reducible assumption)) ?_)) | (refine WL_op rfl ?_; (first | (refine OW_call rfl (hF := hd0) (hk := ?_); rintro _ _ ⟨rb, cs, rfl, rfl, hR⟩))) | refine RC ?_ | refine WG 4 ?_ | refine WG 5 ?_)
  exact ⟨rfl, _, _, Res2 rfl (resV_tmp rfl) (resV_tmp rfl), .cons _ (.refl _), tb, rb, S, G ++ M0, rfl, by rw [hMM, List.append_assoc], hTab.mem fun q hq => List.mem_append_left _ hq⟩
end Go.Proofs.YtncgndcepoicbaaGreat
namespace Go.Proofs.YtncgndcepoicbaaGreat
open Go.RowKit
def hmS (Ss : Int → List (Nat × Obj)) : List (Nat × Obj) := Ss 1 ++ (Ss 2 ++ Ss 3)
def Hands (hb : Int → Nat) (tb : Nat) (Ss : Int → List (Nat × Obj)) (G : List (Nat × Obj)) (t : TbV) (m : Int → PlK → Bool × Bool) : Prop := ∀ w, 1 ≤ w → w ≤ 3 → HandAt (hb w) tb (Ss w) G t w (m w)
theorem Hands.mem {hb : Int → Nat} {tb : Nat} {Ss : Int → List (Nat × Obj)} {G G' : List (Nat × Obj)} {t : TbV} {m : Int → PlK → Bool × Bool} (h : Hands hb tb Ss G t m) (hs : ∀ q ∈ G, q ∈ G') : Hands hb tb Ss G' t m := fun w h1 h2 => (h w h1 h2).mem hs
theorem hand_in {w : Int} (hw : 1 ≤ w ∧ w ≤ 3) (Ss : Int → List (Nat × Obj)) (F : List (Nat × Obj)) : ∃ R, (Ss w ++ (R ++ F)).Perm (hmS Ss ++ F) ∧ ∀ S' X : List (Nat × Obj), (hmS (fun v => if v = w then S' else Ss v) ++ (X ++ F)).Perm (S' ++ (X ++ (R ++ F))) := by
  have h3 : w = 1 ∨ w = 2 ∨ w = 3 := by omega
  classical
  rcases h3 with rfl | rfl | rfl
  · refine ⟨Ss 2 ++ Ss 3, ?_, fun S' X => ?_⟩ <;> (rw [List.perm_iff_count]; intro z; simp [hmS, List.count_append]; try omega)
  · refine ⟨Ss 1 ++ Ss 3, ?_, fun S' X => ?_⟩ <;> (rw [List.perm_iff_count]; intro z; simp [hmS, List.count_append]; try omega)
  · refine ⟨Ss 1 ++ Ss 2, ?_, fun S' X => ?_⟩ <;> (rw [List.perm_iff_count]; intro z; simp [hmS, List.count_append]; try omega)
theorem Fn.hand {P : Program} {hb : Int → Nat} {tb : Nat} {Ss : Int → List (Nat × Obj)} {G F : List (Nat × Obj)} {t : TbV} {m : Int → PlK → Bool × Bool} {w : Int} {m' : PlK → Bool × Bool} {f : FuncId} {args : List Value} {Q : Value → List (Nat × Obj) → Prop} (hH : Hands hb tb Ss G t m) (hw : 1 ≤ w ∧ w ≤ 3) (h : ∀ F' : List (Nat × Obj), (∀ q ∈ F, q ∈ F') → Fn P f args (Ss w ++ F') (fun v L' => ∃ S' X, L' = S' ++ (X ++ F') ∧ HandAt (hb w) tb S' (X ++ G) t w m' ∧ Q v X)) : Fn P f args (hmS Ss ++ F) (fun v L' => ∃ Ss' X, L' = hmS Ss' ++ (X ++ F) ∧ Hands hb tb Ss' (X ++ G) t (fun v => if v = w then m' else m v) ∧ Q v X) := by
  obtain ⟨R, h1, h2⟩ := hand_in hw Ss F
  refine Fn.perm (h (R ++ F) fun q hq => List.mem_append_right _ hq) h1 ?_
  rintro v L' ⟨S', X, rfl, hS, hQ⟩
  refine ⟨_, h2 S' X, fun v => if v = w then S' else Ss v, X, rfl, fun w' q1 q2 => ?_, hQ⟩
  by_cases e : w' = w
  · subst e
    simp only [if_true]
    exact hS
  · simp only [if_neg e]
    exact (hH w' q1 q2).mem fun q hq => List.mem_append_right _ hq
theorem upd_same {m : Int → PlK → Bool × Bool} {w : Int} : (fun v => if v = w then m w else m v) = m := by
  funext v
  split
  · rename_i e; rw [e]
  · rfl
theorem perm_hg1 {α : Type} (T S X F : List α) : (S ++ ((T ++ X) ++ F)).Perm (T ++ (S ++ (X ++ F))) := by
  classical
  rw [List.perm_iff_count]
  intro z
  simp only [List.count_append]
  omega
attribute [local irreducible] Fn WC WL WR OW Qt YieldFn QW FnP FnD FnE
section
variable {hb : Int → Nat} {tb : Nat} {Ss : Int → List (Nat × Obj)} {G F : List (Nat × Obj)} {t : TbV} {m : Int → PlK → Bool × Bool} {w : Int}
theorem gPlaces_fn (hT : TbOk t) (hIn : TabIn tb F t) (hG : ∀ q ∈ G, q ∈ F) (hH : Hands hb tb Ss G t m) (hw : 1 ≤ w ∧ w ≤ 3) : Fn Tryz.prog 81 [.pointer (some ⟨hb w, 0, none⟩)] (hmS Ss ++ F) (fun v L' => ∃ Ss' X, L' = hmS Ss' ++ (X ++ F) ∧ Hands hb tb Ss' (X ++ G) t m ∧ VecM 2 X v (hownL w t 8).length (plL (hownL w t 8))) := by
  have := Fn.hand (F := F) (m' := m w) hH hw (f := 81) (args := [.pointer (some ⟨hb w, 0, none⟩)]) (P := Tryz.prog) (Q := fun v X => VecM 2 X v (hownL w t 8).length (plL (hownL w t 8))) fun F' hF => Fn.perm (hPlaces_fn hT (hIn.mem hF) (fun q hq => hF _ (hG q hq)) (hH w hw.1 hw.2)) (.refl _) (by
    rintro v L' ⟨S', X, T, rfl, hL, hv⟩
    exact ⟨S' ++ ((T ++ X) ++ F'), perm_hg1 .., S', T ++ X, rfl, hL.at_.mem (fun q hq => by
      rcases List.mem_append.1 hq with h | h
      · exact List.mem_append_left _ (List.mem_append_right _ h)
      · exact List.mem_append_right _ h), hv.vecM.mem fun q hq => List.mem_append_left _ hq⟩)
  rw [upd_same] at this
  exact this
theorem gReady_fn (hT : TbOk t) (hIn : TabIn tb F t) (hG : ∀ q ∈ G, q ∈ F) (hH : Hands hb tb Ss G t m) (hw : 1 ≤ w ∧ w ≤ 3) {f : Int} : Fn Tryz.prog 24 [.pointer (some ⟨hb w, 0, none⟩), iV f] (hmS Ss ++ F) (fun v L' => ∃ Ss' X, L' = hmS Ss' ++ (X ++ F) ∧ Hands hb tb Ss' (X ++ G) t m ∧ VecM 4 X v (rdyL t (m w) w f).length (gvL (rdyL t (m w) w f))) := by
  have := Fn.hand (F := F) (m' := m w) hH hw (f := 24) (args := [.pointer (some ⟨hb w, 0, none⟩), iV f]) (P := Tryz.prog) (Q := fun v X => VecM 4 X v (rdyL t (m w) w f).length (gvL (rdyL t (m w) w f))) fun F' hF => Fn.perm (hReady_fn (f := f) hT (hIn.mem hF) (fun q hq => hF _ (hG q hq)) (hH w hw.1 hw.2)) (.refl _) (by
    rintro v L' ⟨S', X, T, rfl, hL, hv⟩
    exact ⟨S' ++ ((T ++ X) ++ F'), perm_hg1 .., S', T ++ X, rfl, hL.at_.mem (fun q hq => by
      rcases List.mem_append.1 hq with h | h
      · exact List.mem_append_left _ (List.mem_append_right _ h)
      · exact List.mem_append_right _ h), hv.vecM.mem fun q hq => List.mem_append_left _ hq⟩)
  rw [upd_same] at this
  exact this
theorem gLow_fn (hT : TbOk t) (hIn : TabIn tb F t) (hG : ∀ q ∈ G, q ∈ F) (hH : Hands hb tb Ss G t m) (hw : 1 ≤ w ∧ w ≤ 3) : Fn Tryz.prog 84 [.pointer (some ⟨hb w, 0, none⟩)] (hmS Ss ++ F) (fun v L' => ∃ Ss' X, L' = hmS Ss' ++ (X ++ F) ∧ Hands hb tb Ss' (X ++ G) t m ∧ v = iV (lowF (m w) (hownL w t 8))) := by
  have := Fn.hand (F := F) (m' := m w) hH hw (f := 84) (args := [.pointer (some ⟨hb w, 0, none⟩)]) (P := Tryz.prog) (Q := fun v _ => v = iV (lowF (m w) (hownL w t 8))) fun F' hF => (hLow_fn hT (hIn.mem hF) (fun q hq => hF _ (hG q hq)) (hH w hw.1 hw.2)).mono (by
    rintro v L' ⟨S', X, rfl, hL, hv⟩
    exact ⟨S', X, rfl, hL.at_, hv⟩)
  rw [upd_same] at this
  exact this
theorem gWhole_fn (hT : TbOk t) (hIn : TabIn tb F t) (hG : ∀ q ∈ G, q ∈ F) (hH : Hands hb tb Ss G t m) (hw : 1 ≤ w ∧ w ≤ 3) {x : OwnV} (hx : x ∈ hownL w t 8) : Fn Tryz.prog 82 [.pointer (some ⟨hb w, 0, none⟩), pairK x.key] (hmS Ss ++ F) (fun v L' => ∃ Ss' X, L' = hmS Ss' ++ (X ++ F) ∧ Hands hb tb Ss' (X ++ G) t m ∧ v = .bool (decide (x.span = 0) || (m w x.key).1)) := by
  have := Fn.hand (F := F) (m' := m w) hH hw (f := 82) (args := [.pointer (some ⟨hb w, 0, none⟩), pairK x.key]) (P := Tryz.prog) (Q := fun v _ => v = .bool (decide (x.span = 0) || (m w x.key).1)) fun F' hF => (hWhole_fn hT (hIn.mem hF) (fun q hq => hF _ (hG q hq)) (hH w hw.1 hw.2) hx).mono (by
    rintro v L' ⟨S', X, rfl, hL, hv⟩
    exact ⟨S', X, rfl, hL.at_, hv⟩)
  rw [upd_same] at this
  exact this
theorem gGone_fn (hT : TbOk t) (hIn : TabIn tb F t) (hG : ∀ q ∈ G, q ∈ F) (hH : Hands hb tb Ss G t m) (hw : 1 ≤ w ∧ w ≤ 3) {x : OwnV} (hx : x ∈ hownL w t 8) : Fn Tryz.prog 89 [.pointer (some ⟨hb w, 0, none⟩), pairK x.key] (hmS Ss ++ F) (fun v L' => ∃ Ss' X, L' = hmS Ss' ++ (X ++ F) ∧ Hands hb tb Ss' (X ++ G) t m ∧ v = .bool (m w x.key).2) := by
  have := Fn.hand (F := F) (m' := m w) hH hw (f := 89) (args := [.pointer (some ⟨hb w, 0, none⟩), pairK x.key]) (P := Tryz.prog) (Q := fun v _ => v = .bool (m w x.key).2) fun F' hF => (hGone_fn hT (hIn.mem hF) (fun q hq => hF _ (hG q hq)) (hH w hw.1 hw.2) hx).mono (by
    rintro v L' ⟨S', X, rfl, hL, hv⟩
    exact ⟨S', X, rfl, hL.at_, hv⟩)
  rw [upd_same] at this
  exact this
theorem gGot_fn (hT : TbOk t) (hIn : TabIn tb F t) (hG : ∀ q ∈ G, q ∈ F) (hH : Hands hb tb Ss G t m) (hw : 1 ≤ w ∧ w ≤ 3) {x : OwnV} (hx : x ∈ hownL w t 8) (h0 : x.span ≠ 0) (hm : (m w x.key).1 = false) : Fn Tryz.prog 27 [.pointer (some ⟨hb w, 0, none⟩), pairK x.key] (hmS Ss ++ F) (fun v L' => ∃ Ss' X, L' = hmS Ss' ++ (X ++ F) ∧ Hands hb tb Ss' (X ++ G) t (fun v => if v = w then (fun p => if p = x.key then (true, (m w x.key).2) else m w p) else m v) ∧ v = iV 0) := by
  have := Fn.hand (F := F) (m' := (fun p => if p = x.key then (true, (m w x.key).2) else m w p)) hH hw (f := 27) (args := [.pointer (some ⟨hb w, 0, none⟩), pairK x.key]) (P := Tryz.prog) (Q := fun v _ => v = iV 0) fun F' hF => (hGot_fn hT (hIn.mem hF) (fun q hq => hF _ (hG q hq)) (hH w hw.1 hw.2) hx h0 hm).mono (by
    rintro v L' ⟨S', X, rfl, hL, hv⟩
    exact ⟨S', X, rfl, hL.at_, hv⟩)
  exact this
theorem gGave_fn (hT : TbOk t) (hIn : TabIn tb F t) (hG : ∀ q ∈ G, q ∈ F) (hH : Hands hb tb Ss G t m) (hw : 1 ≤ w ∧ w ≤ 3) {x : OwnV} (hx : x ∈ hownL w t 8) {n : Int × Int} (hn : x.nx = some n) (hwh : (decide (x.span = 0) || (m w x.key).1) = true) (hm : (m w x.key).2 = false) : Fn Tryz.prog 26 [.pointer (some ⟨hb w, 0, none⟩), pairK x.key] (hmS Ss ++ F) (fun v L' => ∃ Ss' X, L' = hmS Ss' ++ (X ++ F) ∧ Hands hb tb Ss' (X ++ G) t (fun v => if v = w then (fun p => if p = x.key then ((m w x.key).1, true) else m w p) else m v) ∧ v = iV 0) := by
  have := Fn.hand (F := F) (m' := (fun p => if p = x.key then ((m w x.key).1, true) else m w p)) hH hw (f := 26) (args := [.pointer (some ⟨hb w, 0, none⟩), pairK x.key]) (P := Tryz.prog) (Q := fun v _ => v = iV 0) fun F' hF => (hGave_fn hT (hIn.mem hF) (fun q hq => hF _ (hG q hq)) (hH w hw.1 hw.2) hx hn hwh hm).mono (by
    rintro v L' ⟨S', X, rfl, hL, hv⟩
    exact ⟨S', X, rfl, hL.at_, hv⟩)
  exact this
end
end Go.Proofs.YtncgndcepoicbaaGreat
namespace Go.Proofs.YtncgndcepoicbaaGreat
open Go.RowKit
def wnC (want : List Int) : Array Value := (want.map iV).toArray
theorem wnC_size {want : List Int} (h : want.length = 8) : (wnC want).size = 8 := by simp [wnC, h]
theorem wnC_all {want : List Int} : ((wnC want).toList.all fun v => v.oneCell') = true := by
  rw [List.all_eq_true]
  intro v hv
  simp only [wnC, List.mem_map] at hv
  obtain ⟨x, _, rfl⟩ := hv
  rfl
attribute [local irreducible] Fn WC WL WR OW Qt YieldFn QW FnP FnD FnE wnC
end Go.Proofs.YtncgndcepoicbaaGreat
namespace Go.Proofs.YtncgndcepoicbaaGreat
open Go.RowKit
theorem wnC_set {out : List Int} {b w : Int} : (wnC out).setIfInBounds (b.toNat * 1) (iV w) = wnC (out.set b.toNat w) := by
  rw [Nat.mul_one]
  unfold wnC
  rw [List.map_set]
  simp
def z8 : List Int := [0, 0, 0, 0, 0, 0, 0, 0]
theorem wnC_z8 : zc61 = wnC z8 := rfl
attribute [local irreducible] Fn WC WL WR OW Qt YieldFn QW FnP FnD FnE wnC
end Go.Proofs.YtncgndcepoicbaaGreat
