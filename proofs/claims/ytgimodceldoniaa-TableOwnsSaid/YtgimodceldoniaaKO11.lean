/-
  A part of what the last of these texts needs; by itself it proves no statement.
-/
import Derived.Test.YtgimodceldoniaaKO10
namespace Go.Proofs.Ytgimodceldoniaa
open Go.RowKit
theorem perm_w1 {α : Type} (x : α) (S F : List α) : (S ++ x :: F).Perm (x :: (S ++ F)) := List.perm_middle
theorem perm_w2 {α : Type} (T S2 S F : List α) : (S ++ (T ++ (S2 ++ F))).Perm (T ++ (S2 ++ (S ++ F))) := by
  classical
  rw [List.perm_iff_count]
  intro z
  simp only [List.count_append]
  omega
theorem Buf.slc {E sz : Nat} {v : Value} {T : List (Nat × Obj)} {n : Nat} {xs : List Value} (h : Buf E sz v T n xs) : ∃ a cap, v = .slice a n cap := by
  obtain ⟨a, cap, h1, _⟩ := h.val
  exact ⟨a, cap, h1⟩
attribute [local irreducible] Fn WC WL WR OW Qt YieldFn QW FnP FnD FnE
set_option maxHeartbeats 8000000 in
theorem owns_fn {a b c d e f : Int} (ha : 0 ≤ a ∧ a < 256) (hb : 0 ≤ b ∧ b < 256) (hc : 0 ≤ c ∧ c < 256) (hd : 0 ≤ d ∧ d < 256) (he : 0 ≤ e ∧ e < 256) (hf : 0 ≤ f ∧ f < 256) {v : Value} {l : List OrV} {L : List (Nat × Obj)} (hv : OrsAt L v l) : Fn Try.prog 4 [.agg (seC a b c d e f), v] L (fun v L' => v = .bool true ∧ L' = L) := by
  obtain ⟨al, cal, rfl, hl1, hl2, hlx⟩ := id hv
  refine Fn_enter Try.func4 rfl Try.ntmps4 rfl fun g => ?_
  repeat (first | refine RQ ?_ | (refine WL_Q ?_; (first | refine QW_of (Qt_ldX rfl (hn := by with_reducible assumption)) ?_ | refine QW_of (Qt_indexV rfl) ?_)) | (refine RE ?_; try intro _) | (refine WL_op rfl ?_; (first | refine OW_callP rfl (hF := works09_fn _) (hk := ?_) | (refine OW_call rfl (hF := begun_fn ha hb hc hd he hf) (hk := ?_); rintro _ _ ⟨tb, S, G, rfl, rfl, hTab⟩))) | refine RC ?_ | refine WG 0 ?_ | refine WG 1 ?_ | refine WG 3 ?_ | refine WG 4 ?_ | refine WG 6 ?_ | refine WG 7 ?_)
  rename_i x2
  have hT0 := newT_ok (p := begP f) (begP_ok f) (begC_ok (a := a) (b := b) (c := c) (d := d) (e := e))
  refine WC_wk [(7, iV ((0 : Nat) : Int)), (6, iV (lastF (newT (begP f) (begC a b c d e)))), (5, .pointer (some ⟨tb, 0, none⟩)), (1, .slice al l.length cal)] ⟨rfl, rfl, rfl, rfl, trivial⟩ ?_
  refine WC_loop (fun m σ => ∃ (k : Nat) (t : TbV) (S F : List (Nat × Obj)), m = l.length - k ∧ k ≤ l.length ∧ TbOk t ∧ TabAt tb S F t ∧ L.Sublist F ∧ σ = ⟨[(7, iV (k : Int)), (6, iV (lastF t)), (5, .pointer (some ⟨tb, 0, none⟩)), (1, .slice al l.length cal)], [], S ++ F⟩) l.length ⟨0, _, S, _, rfl, Nat.zero_le _, hT0, hTab.mem fun q hq => List.mem_append_left _ hq, (List.Sublist.cons _ (.refl L)).trans (List.sublist_append_right G _), rfl⟩ ?_
  clear hT0 hTab S G
  rintro _ σ ⟨k, t, S, F, rfl, hk, hT, hTab, hLF, rfl⟩
  have hCont : (k < l.length ∧ k < 40) ∨ ¬ (k < l.length ∧ k < 40) := Decidable.em _
  rcases hCont with ⟨hk1, hk2⟩ | hno
  rotate_left
  · refine WC_seq ?_
    refine WC_seq ?_
    refine WC_meet (fun σ => σ = ⟨[(31, .bool false)], [], S ++ F⟩) ?_ ?_
    · by_cases hkl : k < l.length
      · have d1 : decide ((k : Int) < ((l.length : Nat) : Int)) = true := decide_eq_true (by omega)
        have d2 : decide ((k : Int) < 40) = false := decide_eq_false (by omega)
        repeat (first | refine RQ ?_ | ((first | refine WL_Q ?_ | refine WL_Y ?_); (first | refine QW_of (Qt_ldX rfl (hn := by with_reducible assumption)) ?_ | refine QW_of (Qt_indexV rfl) ?_)) | refine RC ?_ | refine WG 8 ?_)
        exact ⟨_, rfl, ⟨by rw [d2]; rfl, trivial⟩, rfl, .refl _⟩
      · have d1 : decide ((k : Int) < ((l.length : Nat) : Int)) = false := decide_eq_false (by omega)
        repeat (first | refine RQ ?_ | ((first | refine WL_Q ?_ | refine WL_Y ?_); (first | refine QW_of (Qt_ldX rfl (hn := by with_reducible assumption)) ?_ | refine QW_of (Qt_indexV rfl) ?_)) | refine RC ?_ | refine WG 8 ?_)
        exact ⟨_, rfl, ⟨by rw [d1]; rfl, trivial⟩, rfl, .refl _⟩
    rintro _ rfl
    repeat (first | refine RQ ?_ | (refine WL_Q ?_; (first | refine QW_of (Qt_ldX rfl (hn := by with_reducible assumption)) ?_ | refine QW_of (Qt_indexV rfl) ?_)) | refine RC ?_ | refine WG 41 ?_)
    exact ⟨rfl, _, _, Res1 rfl (resV_tmp rfl), hLF.trans (List.sublist_append_right S F), rfl, rfl⟩
  have d1 : decide ((k : Int) < ((l.length : Nat) : Int)) = true := decide_eq_true (by omega)
  have d2 : decide ((k : Int) < 40) = true := decide_eq_true (by omega)
  obtain ⟨o, ho⟩ : ∃ o, l[k]? = some o := ⟨_, List.getElem?_eq_getElem hk1⟩
  obtain ⟨q, off, cur, E, fr, rfl, hq, hoc, hom, hof, bv, hbv, hx1, hx2'⟩ := hlx k o ho
  obtain ⟨iq, hiq⟩ := List.mem_iff_getElem?.1 (show (q, Obj.cells cur E fr) ∈ S ++ F from List.mem_append_right _ (hLF.mem hq))
  have p0 : (0 : Int) ≤ (k : Int) := by omega
  have p1 : ((k : Nat) : Int) < ((l.length : Nat) : Int) := by omega
  have y1 : off + ((k : Nat) : Int).toNat * 12 + 12 ≤ cur.size := by rw [Int.toNat_natCast]; exact hx2'
  have v1 : cur.extract (off + ((k : Nat) : Int).toNat * 12) (off + ((k : Nat) : Int).toNat * 12 + 12) = (orC o.1 bv o.2.1 o.2.2).toArray := by rw [Int.toNat_natCast]; exact hx1
  have w7 : IntKind.i64.wrap ((k : Int) + 1) = ((k + 1 : Nat) : Int) := by rw [wI64 (by omega) (by omega)]; omega
  have hlast := hT.last
  repeat (first | refine RQ ?_ | ((first | refine WL_Q ?_ | refine WL_Y ?_); (first | refine QW_of (Qt_ldX rfl (hn := by with_reducible assumption)) ?_ | refine QW_of (Qt_indexV rfl) ?_)) | (refine RE ?_; try intro _) | refine RC ?_ | refine WG 8 ?_ | refine WG 10 ?_)
  try rw [v1]
  refine WL_op rfl (OW_call rfl (hF := cmdOf_fn (G := F) (hbv.mem fun q h => hLF.mem h)) (hk := ?_))
  rintro _ _ ⟨bv', hbv', rfl, rfl⟩
  obtain ⟨x, hx⟩ : ∃ x, x = cmdF o.1 o.2.1 (lastF t) := ⟨_, rfl⟩
  have hxR : CmR x := by rw [hx]; exact cmdF_R hoc hom hlast
  have hx12 : x.bins.length ≤ 12 := by rw [hx]; exact cmdF_bins _ _ _
  obtain ⟨fl, hfl⟩ : ∃ fl, fl = flF o.2.2 (lastF t) := ⟨_, rfl⟩
  rw [← hx] at hbv' ⊢
  rw [← hfl]
  have hsz : (cmC x bv').toArray.size = 10 := rfl
  have hall := (show CmAt F (cmC x bv') x from ⟨bv', rfl, hbv', hxR⟩).all
  repeat (first | refine RQ ?_ | (refine WL_Q ?_; (first | refine QW_of (Qt_ldX rfl (hn := by with_reducible assumption)) ?_ | refine QW_of (Qt_indexV rfl) ?_)) | (refine RE ?_; try intro _) | refine RC ?_ | refine WG 10 ?_ | refine WG 11 ?_)
  rename_i x8
  refine WL_permT (perm_w1 ..) ?_
  refine WL_op rfl (OW_call rfl (hF := copy_fn (F := (x8, Obj.cells (cmC x bv').toArray 33 (0, 0)) :: F) hTab (by have := hT.few; omega) (by have := hT.rl; have := hT.nds; omega) (fun row hr => by have := hT.rshort row hr; have := hT.few; omega)) (hk := ?_))
  rintro _ _ ⟨tb2, S2, rfl, rfl, hTab2⟩
  have hIn1 : TabIn tb (S2 ++ (S ++ (x8, Obj.cells (cmC x bv').toArray 33 (0, 0)) :: F)) t := hTab.tabIn (fun q hq => List.mem_append_right _ (List.mem_append_left _ hq)) (fun q hq => List.mem_append_right _ (List.mem_append_right _ (.tail _ hq)))
  repeat (first | refine RQ ?_ | (refine WL_Q ?_; (first | refine QW_of (Qt_ldX rfl (hn := by with_reducible assumption)) ?_ | refine QW_of (Qt_indexV rfl) ?_)) | (refine WL_op rfl ?_; (first | (refine OW_call rfl (hF := active_fn hIn1 (by have := hT.few3; omega)) (hk := ?_); rintro v1 _ ⟨T1, rfl, hT1⟩))) | refine RC ?_ | refine WG 11 ?_ | refine WG 12 ?_)
  obtain ⟨i8, hi8⟩ := List.mem_iff_getElem?.1 (show (x8, Obj.cells (cmC x bv').toArray 33 (0, 0)) ∈ T1 ++ (S2 ++ (S ++ (x8, Obj.cells (cmC x bv').toArray 33 (0, 0)) :: F)) from List.mem_append_right _ (List.mem_append_right _ (List.mem_append_right _ (.head _))))
  repeat (first | refine RQ ?_ | (refine WL_Q ?_; (first | refine QW_of (Qt_ldX rfl (hn := by with_reducible assumption)) ?_ | refine QW_of (Qt_indexV rfl) ?_)) | (refine WL_op rfl ?_; (first | (refine OW_call rfl (hF := active_fn hIn1 (by have := hT.few3; omega)) (hk := ?_); rintro v1 _ ⟨T1, rfl, hT1⟩))) | refine RC ?_ | refine WG 12 ?_ | refine WG 13 ?_)
  refine WL_permT (L' := S ++ (T1 ++ (S2 ++ (x8, Obj.cells (cmC x bv').toArray 33 (0, 0)) :: F))) (perm_w2 ..) ?_
  refine WL_op rfl (OW_call rfl (hF := step_fn (F := T1 ++ (S2 ++ (x8, Obj.cells (cmC x bv').toArray 33 (0, 0)) :: F)) hT hTab (fun q hq => List.mem_append_right _ (List.mem_append_right _ (.tail _ hq))) hbv' hxR (by omega)) (hk := ?_))
  rintro _ _ ⟨rfl, S1, X, rfl, hTab1⟩
  obtain ⟨F1, hF1⟩ : ∃ F1, F1 = X ++ (T1 ++ (S2 ++ (x8, Obj.cells (cmC x bv').toArray 33 (0, 0)) :: F)) := ⟨_, rfl⟩
  rw [← hF1]
  have hLF1 : L.Sublist F1 := by rw [hF1]; exact (hLF.trans (.cons _ (.refl _))).trans ((List.sublist_append_right S2 _).trans ((List.sublist_append_right T1 _).trans (List.sublist_append_right X _)))
  have hT' := stepF_ok (c := x) (fl := fl) hT
  have hTabF : TabAt tb S1 F1 (stepF t x fl) := hTab1.mem fun q hq => by
    rw [hF1]
    rcases List.mem_append.1 hq with h | h
    · exact List.mem_append_left _ h
    · exact List.mem_append_right _ (List.mem_append_right _ (List.mem_append_right _ (.tail _ h)))
  obtain ⟨M, hM⟩ : ∃ M, M = S1 ++ F1 := ⟨_, rfl⟩
  have hIn : TabIn tb M (stepF t x fl) := by rw [hM]; exact hTabF.tabIn (fun q hq => List.mem_append_left _ hq) (fun q hq => List.mem_append_right _ hq)
  have hIn2 : TabIn tb2 M t := by
    rw [hM, hF1]
    exact hTab2.tabIn (fun q hq => List.mem_append_right _ (List.mem_append_right _ (List.mem_append_right _ (List.mem_append_left _ hq)))) (fun q hq => List.mem_append_right _ (List.mem_append_right _ (List.mem_append_right _ (List.mem_append_right _ (.tail _ hq)))))
  have hV1 : VecM 1 M v1 t.act.length (t.act.map iV) := by
    rw [hM, hF1]
    exact (Buf.vecM hT1).mem fun q hq => List.mem_append_right _ (List.mem_append_right _ (List.mem_append_left _ hq))
  have hold := fun (b : Nat) (hb : b < 8) (now : Int) (hn : now < lastF (stepF t x fl)) => step_old (c := x) (fl := fl) hT hb hn
  obtain ⟨i9, hi9⟩ := List.mem_iff_getElem?.1 (show (x8, Obj.cells (cmC x bv').toArray 33 (0, 0)) ∈ M by rw [hM, hF1]; exact List.mem_append_right _ (List.mem_append_right _ (List.mem_append_right _ (List.mem_append_right _ (.head _)))))
  rw [← hM]
  repeat (first | refine RQ ?_ | (refine WL_Q ?_; (first | refine QW_of (Qt_ldX rfl (hn := by with_reducible assumption)) ?_ | refine QW_of (Qt_indexV rfl) ?_)) | refine RC ?_ | refine WG 13 ?_)
  refine WC_meet2 (fun σ => σ = ⟨[(12, iV (tryF t x fl)), (11, v1), (10, .pointer (some ⟨tb2, 0, none⟩)), (8, .pointer (some ⟨x8, 0, none⟩)), (7, iV (k : Int)), (6, iV (lastF t)), (5, .pointer (some ⟨tb, 0, none⟩)), (1, .slice (some ⟨q, off, none⟩) l.length cal)], [], M⟩) ?_ ?_
  · by_cases h0 : tryF t x fl = 0
    · have d3 : (tryF t x fl == 0) = true := by simpa using h0
      obtain ⟨_, a2, a3, _⟩ := tryF_at h0
      have d4 : decide (x.at_ ≤ lastF t) = false := decide_eq_false (by omega)
      have d5 : decide (x.at_ ≤ fl) = false := decide_eq_false (by omega)
      repeat (first | refine RQ ?_ | ((first | refine WL_Q ?_ | refine WL_Y ?_); (first | refine QW_of (Qt_ldX rfl (hn := by with_reducible assumption)) ?_ | refine QW_of (Qt_indexV rfl) ?_)) | refine RC ?_ | refine WG 14 ?_)
      exact ⟨_, rfl, ⟨rfl, rfl, rfl, rfl, rfl, rfl, rfl, rfl, trivial⟩, rfl, .refl _⟩
    · have d3 : (tryF t x fl == 0) = false := by simpa using h0
      repeat (first | refine RQ ?_ | ((first | refine WL_Q ?_ | refine WL_Y ?_); (first | refine QW_of (Qt_ldX rfl (hn := by with_reducible assumption)) ?_ | refine QW_of (Qt_indexV rfl) ?_)) | refine RC ?_ | refine WG 14 ?_)
      exact ⟨_, rfl, ⟨rfl, rfl, rfl, rfl, rfl, rfl, rfl, rfl, trivial⟩, rfl, .refl _⟩
  rintro _ rfl
  refine WC_seq ?_
  refine WC_meet (fun σ => σ = ⟨[(10, .pointer (some ⟨tb2, 0, none⟩)), (7, iV (k : Int)), (6, iV (lastF (stepF t x fl))), (5, .pointer (some ⟨tb, 0, none⟩)), (1, .slice (some ⟨q, off, none⟩) l.length cal)], [], M⟩) ?_ ?_
  · by_cases h0 : tryF t x fl = 0
    · have d3 : (tryF t x fl == 0) = true := by simpa using h0
      have e : lastF (stepF t x fl) = x.at_ := by rw [stepF, if_pos h0, addF_last]
      rw [e]
      repeat (first | refine RQ ?_ | (refine WL_Q ?_; (first | refine QW_of (Qt_ldX rfl (hn := by with_reducible assumption)) ?_ | refine QW_of (Qt_indexV rfl) ?_)) | refine RC ?_ | refine WG 16 ?_ | refine WG 17 ?_)
      exact ⟨_, rfl, ⟨rfl, rfl, rfl, rfl, rfl, trivial⟩, rfl, .refl _⟩
    · have d3 : (tryF t x fl == 0) = false := by simpa using h0
      have e : stepF t x fl = t := by rw [stepF, if_neg h0]
      rw [e] at hIn ⊢
      have hct : (((t.cmds.length : Nat) : Int) != ((t.cmds.length : Nat) : Int)) = false := bne_self_eq_false _
      have hid : (!decide (t.act = t.act)) = false := by rw [decide_eq_true rfl]; rfl
      repeat (first | refine RQ ?_ | ((first | refine WL_Q ?_ | refine WL_Y ?_); (first | refine QW_of (Qt_ldX rfl (hn := by with_reducible assumption)) ?_ | refine QW_of (Qt_indexV rfl) ?_)) | ((first | refine WL_op rfl ?_ | refine WL_yes (h := ?_)); (first | refine OW_callP rfl (hF := count_fn hIn) (hk := ?_) | refine OW_callP rfl (hF := count_fn hIn2) (hk := ?_) | (refine OW_call rfl (hF := active_fn hIn (by have := hT.few3; omega)) (hk := ?_); rintro v2 _ ⟨T2, rfl, hT2⟩) | refine OW_callP rfl (hF := ints_fn (hV1.mem fun q h => List.mem_append_right _ h) ((Buf.vecM hT2).mem fun q h => List.mem_append_left _ h)) (hk := ?_))) | refine RC ?_ | refine WG 16 ?_ | refine WG 18 ?_)
      exact ⟨_, rfl, ⟨rfl, rfl, rfl, rfl, rfl, trivial⟩, rfl, List.sublist_append_right T2 M⟩
  rintro _ rfl
  obtain ⟨t', ht'⟩ : ∃ t', t' = stepF t x fl := ⟨_, rfl⟩
  rw [← ht'] at hT' hTabF hIn hold ⊢
  clear hTab1 hTab2 hT1 hV1 hi9 hi8 hIn1 hiq
  repeat (first | refine RQ ?_ | (refine WL_Q ?_; (first | refine QW_of (Qt_ldX rfl (hn := by with_reducible assumption)) ?_ | refine QW_of (Qt_indexV rfl) ?_)) | (refine WL_op rfl ?_; (first | (refine OW_call rfl (hF := active_fn hIn (by have := hT'.few3; omega)) (hk := ?_); rintro v3 _ ⟨T3, rfl, hT3⟩))) | refine RC ?_ | refine WG 20 ?_)
  have hlp : 0 < t'.act.length := List.length_pos_iff.2 hT'.ne
  obtain ⟨a3, c3, rfl⟩ := Buf.slc hT3
  have hne : (((t'.act.length : Nat) : Int) == 0) = false := by rw [beq_eq_false_iff_ne]; omega
  repeat (first | refine RQ ?_ | (refine WL_Q ?_; (first | refine QW_of (Qt_ldX rfl (hn := by with_reducible assumption)) ?_ | refine QW_of (Qt_indexV rfl) ?_)) | (refine WL_op rfl ?_; (first | (refine OW_call rfl (hF := active_fn hIn (by have := hT'.few3; omega)) (hk := ?_); rintro v3 _ ⟨T3, rfl, hT3⟩))) | refine RC ?_ | refine WG 20 ?_ | refine WG 21 ?_ | refine WG 23 ?_)
  obtain ⟨R, hR⟩ : ∃ R, R = T3 ++ M := ⟨_, rfl⟩
  have hInR : TabIn tb R t' := hIn.mem fun q hq => by rw [hR]; exact List.mem_append_right _ hq
  have hInR2 : TabIn tb2 R t := hIn2.mem fun q hq => by rw [hR]; exact List.mem_append_right _ hq
  have hV3 : VecM 1 R (.slice a3 t'.act.length c3) t'.act.length (t'.act.map iV) := (Buf.vecM hT3).mem fun q hq => by rw [hR]; exact List.mem_append_left _ hq
  have hRM : (S1 ++ F1).Sublist R := by rw [hR, hM]; exact List.sublist_append_right T3 _
  have hsh : ∀ row ∈ t'.spans, row.length ≤ 100000 := fun row hr => by have := hT'.short row hr; have := hT'.few; omega
  have hsh2 : ∀ row ∈ t.spans, row.length ≤ 100000 := fun row hr => by have := hT.short row hr; have := hT.few; omega
  have hla := hT'.last
  rw [← hR]
  refine WC_wk [(14, iV ((0 : Nat) : Int)), (13, .slice a3 t'.act.length c3), (10, .pointer (some ⟨tb2, 0, none⟩)), (7, iV (k : Int)), (6, iV (lastF t')), (5, .pointer (some ⟨tb, 0, none⟩)), (1, .slice (some ⟨q, off, none⟩) l.length cal)] ⟨rfl, rfl, rfl, rfl, rfl, rfl, rfl, trivial⟩ ?_
  refine WC_loop (fun m σ => ∃ bn : Nat, m = 8 - bn ∧ bn ≤ 8 ∧ σ = ⟨[(14, iV (bn : Int)), (13, .slice a3 t'.act.length c3), (10, .pointer (some ⟨tb2, 0, none⟩)), (7, iV (k : Int)), (6, iV (lastF t')), (5, .pointer (some ⟨tb, 0, none⟩)), (1, .slice (some ⟨q, off, none⟩) l.length cal)], [], R⟩) 8 ⟨0, rfl, by decide, rfl⟩ ?_
  rintro _ σ ⟨bn, rfl, hbn, rfl⟩
  by_cases hb8 : bn < 8
  rotate_left
  · have e1 : decide ((bn : Int) < 8) = false := decide_eq_false (by omega)
    repeat (first | refine RQ ?_ | (refine WL_Q ?_; (first | refine QW_of (Qt_ldX rfl (hn := by with_reducible assumption)) ?_ | refine QW_of (Qt_indexV rfl) ?_)) | refine RC ?_ | refine WG 24 ?_ | refine WG 9 ?_)
    rw [w7]
    exact ⟨_, _, by omega, ⟨k + 1, t', S1, F1, rfl, by omega, hT', hTabF, hLF1, rfl⟩, ⟨rfl, rfl, rfl, rfl, trivial⟩, rfl, hRM⟩
  have e1 : decide ((bn : Int) < 8) = true := decide_eq_true (by omega)
  have w14 : IntKind.i64.wrap ((bn : Int) + 1) = ((bn + 1 : Nat) : Int) := by rw [wI64 (by omega) (by omega)]; omega
  obtain ⟨row, hrow, hro⟩ := hT'.row hb8
  have hr0 : 0 < row.length := List.length_pos_iff.2 hro.ne
  have hrl := hsh row (List.mem_of_getElem? hrow)
  have hspans : Fn Try.prog 18 [.pointer (some ⟨tb, 0, none⟩), iV (bn : Int)] R (fun v L' => ∃ T, L' = T ++ R ∧ Buf 55 2 v T row.length (spL row)) := by
    have := spans_fn (b := (bn : Int)) hInR hsh
    rw [if_pos (by omega), Int.toNat_natCast, hrow] at this
    exact this
  repeat (first | refine RQ ?_ | (refine WL_Q ?_; (first | refine QW_of (Qt_ldX rfl (hn := by with_reducible assumption)) ?_ | refine QW_of (Qt_indexV rfl) ?_)) | (refine WL_op rfl ?_; (first | (refine OW_call rfl (hF := hspans) (hk := ?_); rintro v15 _ ⟨T15, rfl, hT15⟩))) | refine RC ?_ | refine WG 24 ?_ | refine WG 26 ?_)
  obtain ⟨sb, so, sc, scs, sE, sfr, si, rfl, _, _, hsi, hsx⟩ := ((Buf.vecM hT15).mem (G' := T15 ++ R) fun q hq => List.mem_append_left _ hq).cell (by omega)
  have dz : (((row.length : Nat) : Int) == 0) = false := by rw [beq_eq_false_iff_ne]; omega
  repeat (first | refine RQ ?_ | (refine WL_Q ?_; (first | refine QW_of (Qt_ldX rfl (hn := by with_reducible assumption)) ?_ | refine QW_of (Qt_indexV rfl) ?_)) | refine RC ?_ | refine WG 27 ?_ | refine WG 29 ?_)
  obtain ⟨q0, hq0⟩ : ∃ q0, row[0]? = some q0 := ⟨_, List.getElem?_eq_getElem hr0⟩
  have hz0 := hro.z q0 hq0
  have sx0 : scs[so + 0 * 2]? = some (iV q0.1) := by simpa using hsx _ _ (spL_at hq0).1
  have sx1 : scs[so + 0 * 2 + 1]? = some (iV q0.2) := by simpa using hsx _ _ (spL_at hq0).2
  refine WC_wk [(16, iV ((0 : Nat) : Int)), (15, .slice (some ⟨sb, so, none⟩) row.length sc), (14, iV (bn : Int)), (13, .slice a3 t'.act.length c3), (10, .pointer (some ⟨tb2, 0, none⟩)), (7, iV (k : Int)), (6, iV (lastF t')), (5, .pointer (some ⟨tb, 0, none⟩)), (1, .slice (some ⟨q, off, none⟩) l.length cal)] ⟨rfl, rfl, rfl, rfl, rfl, rfl, rfl, rfl, rfl, trivial⟩ ?_
  refine WC_loop (fun m σ => ∃ j : Nat, m = row.length - j ∧ j ≤ row.length ∧ σ = ⟨[(16, iV (j : Int)), (15, .slice (some ⟨sb, so, none⟩) row.length sc), (14, iV (bn : Int)), (13, .slice a3 t'.act.length c3), (10, .pointer (some ⟨tb2, 0, none⟩)), (7, iV (k : Int)), (6, iV (lastF t')), (5, .pointer (some ⟨tb, 0, none⟩)), (1, .slice (some ⟨q, off, none⟩) l.length cal)], [], T15 ++ R⟩) row.length ⟨0, rfl, Nat.zero_le _, rfl⟩ ?_
  rintro _ σ ⟨j, rfl, hj, rfl⟩
  by_cases hjl : j < row.length
  · have e2 : decide ((j : Int) < ((row.length : Nat) : Int)) = true := decide_eq_true (by omega)
    obtain ⟨qj, hqj⟩ : ∃ qj, row[j]? = some qj := ⟨_, List.getElem?_eq_getElem hjl⟩
    have jx0 : scs[so + ((j : Nat) : Int).toNat * 2]? = some (iV qj.1) := by rw [Int.toNat_natCast]; exact hsx _ _ (spL_at hqj).1
    have jx1 : scs[so + ((j : Nat) : Int).toNat * 2 + 1]? = some (iV qj.2) := by rw [Int.toNat_natCast, Nat.add_assoc]; exact hsx _ _ (spL_at hqj).2
    have j0 : (0 : Int) ≤ (j : Int) := by omega
    have j1 : ((j : Nat) : Int) < ((row.length : Nat) : Int) := by omega
    have wj : IntKind.i64.wrap ((j : Int) + 1) = ((j + 1 : Nat) : Int) := by rw [wI64 (by omega) (by omega)]; omega
    have dl : decide (qj.1 > lastF t') = false := decide_eq_false (by have := hro.le qj (List.mem_of_getElem? hqj); omega)
    have d0 : (q0.1 != 0) = false := by rw [hz0]; rfl
    have r0 : (0 : Int) < ((row.length : Nat) : Int) := by omega
    by_cases hj0 : j = 0
    · have g0 : decide ((j : Int) > 0) = false := decide_eq_false (by omega)
      repeat (first | refine RQr ?_ | ((first | refine WL_Q ?_ | refine WL_Y ?_ | refine WR_Q rfl ?_ | refine WR_late rfl rfl rfl (OW_Q ?_) | refine WR_Y rfl ?_); (first | refine QW_of (Qt_ldX rfl (hn := by with_reducible assumption)) ?_ | refine QW_of (Qt_indexV rfl) ?_)) | refine RC ?_ | refine RU ?_ | refine WC_draw_all (id := 32) 46 (Cs [0,1,2,3,4,5,6,7,8,9,10,11,12,13,14,15,16,17,18,19,20,21,22,23,24,25,26,27,28,29,30,31,32,33,34,35,36,37,38,39,40,41,42,43,44,45] <| .done) mixed (by kernel_rfl) ?_ | refine WG 30 ?_ | refine WG 31 ?_)
      rw [wj]
      exact ⟨_, _, by omega, ⟨j + 1, rfl, by omega, rfl⟩, ⟨rfl, rfl, rfl, rfl, rfl, rfl, rfl, rfl, rfl, trivial⟩, rfl, .refl _⟩
    · have g0 : decide ((j : Int) > 0) = true := decide_eq_true (by omega)
      obtain ⟨jp, rfl⟩ : ∃ jp, j = jp + 1 := ⟨j - 1, by omega⟩
      obtain ⟨qp, hqp⟩ : ∃ qp, row[jp]? = some qp := ⟨_, List.getElem?_eq_getElem (by omega)⟩
      have wp : IntKind.i64.wrap (((jp + 1 : Nat) : Int) - 1) = (jp : Int) := by rw [wI64 (by omega) (by omega)]; omega
      have px0 : scs[so + (IntKind.i64.wrap (((jp + 1 : Nat) : Int) - 1)).toNat * 2]? = some (iV qp.1) := by rw [wp, Int.toNat_natCast]; exact hsx _ _ (spL_at hqp).1
      have px1 : scs[so + (IntKind.i64.wrap (((jp + 1 : Nat) : Int) - 1)).toNat * 2 + 1]? = some (iV qp.2) := by rw [wp, Int.toNat_natCast, Nat.add_assoc]; exact hsx _ _ (spL_at hqp).2
      have pp0 : (0 : Int) ≤ IntKind.i64.wrap (((jp + 1 : Nat) : Int) - 1) := by rw [wp]; omega
      have pp1 : IntKind.i64.wrap (((jp + 1 : Nat) : Int) - 1) < ((row.length : Nat) : Int) := by rw [wp]; omega
      obtain ⟨u1, u2⟩ := hro.up jp qp qj hqp hqj
      have du1 : decide (qj.1 ≤ qp.1) = false := decide_eq_false (by omega)
      have du2 : (qj.2 == qp.2) = false := by rw [beq_eq_false_iff_ne]; exact fun h => u2 h.symm
      repeat (first | refine RQr ?_ | ((first | refine WL_Q ?_ | refine WL_Y ?_ | refine WR_Q rfl ?_ | refine WR_late rfl rfl rfl (OW_Q ?_) | refine WR_Y rfl ?_); (first | refine QW_of (Qt_ldX rfl (hn := by with_reducible assumption)) ?_ | refine QW_of (Qt_indexV rfl) ?_)) | refine RC ?_ | refine RU ?_ | refine WC_draw_all (id := 32) 46 (Cs [0,1,2,3,4,5,6,7,8,9,10,11,12,13,14,15,16,17,18,19,20,21,22,23,24,25,26,27,28,29,30,31,32,33,34,35,36,37,38,39,40,41,42,43,44,45] <| .done) mixed (by kernel_rfl) ?_ | refine WG 30 ?_ | refine WG 31 ?_)
      rw [wj]
      exact ⟨_, _, by omega, ⟨jp + 1 + 1, rfl, by omega, rfl⟩, ⟨rfl, rfl, rfl, rfl, rfl, rfl, rfl, rfl, rfl, trivial⟩, rfl, .refl _⟩
  have e2 : decide ((j : Int) < ((row.length : Nat) : Int)) = false := decide_eq_false (by omega)
  obtain ⟨jl, hjl2⟩ : ∃ jl, row.length = jl + 1 := ⟨row.length - 1, by omega⟩
  obtain ⟨ql, hql⟩ : ∃ ql, row[jl]? = some ql := ⟨_, List.getElem?_eq_getElem (by omega)⟩
  have wl : IntKind.i64.wrap (((row.length : Nat) : Int) - 1) = (jl : Int) := by rw [wI64 (by omega) (by omega)]; omega
  have lx0 : scs[so + (IntKind.i64.wrap (((row.length : Nat) : Int) - 1)).toNat * 2 + 1]? = some (iV ql.2) := by rw [wl, Int.toNat_natCast, Nat.add_assoc]; exact hsx _ _ (spL_at hql).2
  have lp0 : (0 : Int) ≤ IntKind.i64.wrap (((row.length : Nat) : Int) - 1) := by rw [wl]; omega
  have lp1 : IntKind.i64.wrap (((row.length : Nat) : Int) - 1) < ((row.length : Nat) : Int) := by rw [wl]; omega
  have r0 : (0 : Int) < ((row.length : Nat) : Int) := by omega
  have hlm : ql.2 ∈ t'.act := hro.own ql (by rw [List.getLast?_eq_getElem?, hjl2, Nat.add_sub_cancel]; exact hql)
  have dh : (!decide (ql.2 ∈ t'.act)) = false := by rw [decide_eq_true hlm]; rfl
  have ho1 : (ownF t' (bn : Int) 1099511627776 != ql.2) = false := by rw [own_end hT' hb8 hrow hjl2 hql]; exact bne_self_eq_false _
  have ho2 : (ownF t' (bn : Int) (-5) != q0.2) = false := by rw [own_first hT' hb8 hrow hq0]; exact bne_self_eq_false _
  repeat (first | refine RQr ?_ | ((first | refine WL_Q ?_ | refine WL_Y ?_ | refine WR_Q rfl ?_ | refine WR_late rfl rfl rfl (OW_Q ?_) | refine WR_Y rfl ?_); (first | refine QW_of (Qt_ldX rfl (hn := by with_reducible assumption)) ?_ | refine QW_of (Qt_indexV rfl) ?_)) | ((first | refine WL_op rfl ?_ | refine WL_yes (h := ?_) | refine WR_late rfl rfl rfl ?_ | refine WR_opG rfl rfl ?_ | refine WR_opYG rfl (h := ?_)); (first | refine OW_callP rfl (hF := hasL_fn (hV3.mem fun q h => List.mem_append_right _ h)) (hk := ?_) | refine OW_callP rfl (hF := owner_fn (hInR.mem fun q h => List.mem_append_right _ h) hsh) (hk := ?_) | refine OW_callP rfl (hF := owner_fn (hInR2.mem fun q h => List.mem_append_right _ h) hsh2) (hk := ?_)); try refine SD ?_) | refine RC ?_ | refine RU ?_ | refine WC_draw_all (id := 34) 33 (Cs [0,1,2,3,4,5,6,7] <| .must 8 <| Cs [9,10,11,12,14,15,16,17,18,19,20] <| .must 13 <| Cs [21,22,23,24,25,27,28,29,30] <| .must 26 <| Cs [31,32] <| .done) mixed (by kernel_rfl) ?_ | refine WG 30 ?_ | refine WG 36 ?_)
  obtain ⟨st, hst, hs0, hs1⟩ : ∃ st : Int, st = (if IntKind.i64.wrap (lastF t' - 9) > 0 then IntKind.i64.wrap (lastF t' - 9) else 0) ∧ 0 ≤ st ∧ st ≤ lastF t' := ⟨_, rfl, by split <;> omega, by rw [wI64 (by omega) (by omega)]; split <;> omega⟩
  rw [← hst]
  refine WC_wk [(17, iV st), (14, iV (bn : Int)), (13, .slice a3 t'.act.length c3), (10, .pointer (some ⟨tb2, 0, none⟩)), (7, iV (k : Int)), (6, iV (lastF t')), (5, .pointer (some ⟨tb, 0, none⟩)), (1, .slice (some ⟨q, off, none⟩) l.length cal)] ⟨rfl, rfl, rfl, rfl, rfl, rfl, rfl, rfl, trivial⟩ ?_
  refine WC_loop (fun m σ => ∃ at_ : Int, m = (lastF t' - at_).toNat ∧ 0 ≤ at_ ∧ at_ ≤ lastF t' ∧ σ = ⟨[(17, iV at_), (14, iV (bn : Int)), (13, .slice a3 t'.act.length c3), (10, .pointer (some ⟨tb2, 0, none⟩)), (7, iV (k : Int)), (6, iV (lastF t')), (5, .pointer (some ⟨tb, 0, none⟩)), (1, .slice (some ⟨q, off, none⟩) l.length cal)], [], T15 ++ R⟩) _ ⟨st, rfl, hs0, hs1, rfl⟩ ?_
  rintro _ σ ⟨at_, rfl, ha0, ha1, rfl⟩
  by_cases hal : at_ < lastF t'
  · have e3 : decide (at_ < lastF t') = true := decide_eq_true hal
    obtain ⟨o1, o2⟩ := hold bn hb8 at_ hal
    have do1 : (ownF t' (bn : Int) at_ != ownF t (bn : Int) at_) = false := by rw [o2]; exact bne_self_eq_false _
    have do2 : (spanF t' (bn : Int) at_ != spanF t (bn : Int) at_) = false := by rw [o1]; exact bne_self_eq_false _
    have wa : IntKind.i64.wrap (at_ + 1) = at_ + 1 := wI64 (by omega) (by omega)
    repeat (first | refine RQ ?_ | ((first | refine WL_Q ?_ | refine WL_Y ?_); (first | refine QW_of (Qt_ldX rfl (hn := by with_reducible assumption)) ?_ | refine QW_of (Qt_indexV rfl) ?_)) | ((first | refine WL_op rfl ?_ | refine WL_yes (h := ?_)); (first | refine OW_callP rfl (hF := owner_fn (hInR.mem fun q h => List.mem_append_right _ h) hsh) (hk := ?_) | refine OW_callP rfl (hF := owner_fn (hInR2.mem fun q h => List.mem_append_right _ h) hsh2) (hk := ?_) | refine OW_callP rfl (hF := span_fn (hInR.mem fun q h => List.mem_append_right _ h) hsh) (hk := ?_) | refine OW_callP rfl (hF := span_fn (hInR2.mem fun q h => List.mem_append_right _ h) hsh2) (hk := ?_))) | refine RC ?_ | refine WG 37 ?_ | refine WG 39 ?_ | refine WG 38 ?_)
    rw [wa]
    exact ⟨_, _, by omega, ⟨at_ + 1, rfl, by omega, by omega, rfl⟩, ⟨rfl, rfl, rfl, rfl, rfl, rfl, rfl, rfl, trivial⟩, rfl, .refl _⟩
  have e3 : decide (at_ < lastF t') = false := decide_eq_false hal
  repeat (first | refine RQ ?_ | (refine WL_Q ?_; (first | refine QW_of (Qt_ldX rfl (hn := by with_reducible assumption)) ?_ | refine QW_of (Qt_indexV rfl) ?_)) | refine RC ?_ | refine WG 37 ?_ | refine WG 25 ?_)
  rw [w14]
  exact ⟨_, _, by omega, ⟨bn + 1, rfl, by omega, rfl⟩, ⟨rfl, rfl, rfl, rfl, rfl, rfl, rfl, trivial⟩, rfl, List.sublist_append_right T15 R⟩
end Go.Proofs.Ytgimodceldoniaa
