/-
  A part of what the last of these texts needs; by itself it proves no statement.
-/
import Derived.Test.YtncgndcepoicbaaGreatKT82
namespace Go.Proofs.YtncgndcepoicbaaGreat
open Go.RowKit
theorem perm_g1 {α : Type} (a b : α) (X L : List α) : (a :: b :: (X ++ L)).Perm (X ++ b :: a :: L) := by
  classical
  rw [List.perm_iff_count]
  intro z
  simp only [List.count_append, List.count_cons]
  omega
theorem perm_g2 {α : Type} (r d : α) (X S F : List α) : (S ++ (r :: d :: (X ++ F))).Perm (r :: (X ++ d :: (S ++ F))) := by
  classical
  rw [List.perm_iff_count]
  intro z
  simp only [List.count_append, List.count_cons]
  omega
theorem perm_g3 {α : Type} (r r2 d : α) (X2 S2 S X1 F : List α) : (r :: d :: (S ++ (r2 :: (S2 ++ (X2 ++ (X1 ++ F)))))).Perm (r2 :: (X2 ++ (S2 ++ (S ++ (r :: d :: (X1 ++ F)))))) := by
  classical
  rw [List.perm_iff_count]
  intro z
  simp only [List.count_append, List.count_cons]
  omega
theorem perm_g4 {α : Type} (r d : α) (X S K : List α) : (S ++ (d :: r :: (X ++ K))).Perm (r :: (X ++ (d :: (S ++ K)))) := by
  classical
  rw [List.perm_iff_count]
  intro z
  simp only [List.count_append, List.count_cons]
  omega
theorem perm_g5 {α : Type} (r d : α) (S X4 X K : List α) : (r :: d :: (S ++ (X4 ++ (X ++ K)))).Perm (S ++ (X4 ++ (d :: r :: (X ++ K)))) := by
  classical
  rw [List.perm_iff_count]
  intro z
  simp only [List.count_append, List.count_cons]
  omega
theorem perm_g6 {α : Type} (r2 r d : α) (S1 X5 X4 X3 S2 X2 X1 F : List α) : (r2 :: r :: d :: (S1 ++ (X5 ++ (X4 ++ (X3 ++ (S2 ++ (X2 ++ (X1 ++ F)))))))).Perm (r :: (X5 ++ (d :: (S1 ++ (X4 ++ (X3 ++ (r2 :: (S2 ++ (X2 ++ (X1 ++ F)))))))))) := by
  classical
  rw [List.perm_iff_count]
  intro z
  simp only [List.count_append, List.count_cons]
  omega
attribute [local irreducible] Fn WC WL WR OW Qt YieldFn QW FnP FnD FnE
set_option maxHeartbeats 8000000 in
theorem tells_fn {p : PlV} {pv : Array Value} {c : CfV} {v : Value} {l : List OrV} {L : List (Nat × Obj)} (hp : PlAt L pv p) (hv : OrsAt L v l) : Fn Tryz.prog 3 [.agg pv, .agg (cfC c), v] L (fun v L' => v = .bool true ∧ L' = L) := by
  obtain ⟨al, cal, rfl, hl1, hl2, hlx⟩ := id hv
  obtain ⟨prv, sv, ls, epv, _, _, _⟩ := id hp
  obtain ⟨_, ap, capp, rfl, _⟩ := id ‹VecM 4 L prv p.pre.length (opL p.pre)›
  obtain ⟨_, ast, caps, rfl, _⟩ := id ‹VecM 5 L sv p.st.length ls.flatten›
  have hsz : pv.size = 4 := by rw [epv]; rfl
  have hca : (pv.toList.all fun v => v.oneCell') = true := by rw [epv]; rfl
  have hcz : (cfC c).size = 5 := rfl
  have hcc : ((cfC c).toList.all fun v => v.oneCell') = true := rfl
  refine Fn_enter Tryz.func3 rfl Tryz.ntmps3 rfl fun g => ?_
  repeat (first | refine RQ ?_ | (refine WL_Q ?_; (first | refine QW_of (Qt_ldX rfl (hn := by with_reducible assumption)) ?_ | refine QW_of (Qt_eqlCf rfl) ?_)) | (refine RE ?_; try intro _) | refine RC ?_ | refine WG 0 ?_)
  rename_i x3 x4
  repeat (first | refine RQ ?_ | (refine WL_Q ?_; (first | refine QW_of (Qt_ldX rfl (hn := by with_reducible assumption)) ?_ | refine QW_of (Qt_eqlCf rfl) ?_)) | (refine RE ?_; try intro _) | (refine WL_op rfl ?_; (first | (refine OW_call rfl (hF := few_fn hp (fun q hq => .tail _ (.tail _ hq))) (hk := ?_); rintro _ _ ⟨X, pf, rfl, rfl, hpf⟩))) | refine RC ?_ | refine WG 1 ?_)
  obtain ⟨fpv, fsv, fls, epf, _, _, _⟩ := id hpf
  have fsz : pf.size = 4 := by rw [epf]; rfl
  have hfa : (pf.toList.all fun v => v.oneCell') = true := by
    obtain ⟨_, _, _, rfl, _⟩ := id ‹VecM 4 (X ++ L) fpv _ _›
    obtain ⟨_, _, _, rfl, _⟩ := id ‹VecM 5 (X ++ L) fsv _ _›
    rw [epf]; rfl
  have h1000 : (fewP p).st.length ≤ 1000 := by
    have : (fewP p).st.length = (p.st.take 3).length := by simp [fewP]
    rw [this, List.length_take]; omega
  refine WL_permT (L' := (x3, Obj.cells pv 25 (0, 0)) :: (x4, Obj.cells (cfC c) 27 (0, 0)) :: (X ++ L)) (perm_g1 ..) ?_
  repeat (first | refine RQ ?_ | (refine WL_Q ?_; (first | refine QW_of (Qt_ldX rfl (hn := by with_reducible assumption)) ?_ | refine QW_of (Qt_eqlCf rfl) ?_)) | (refine RE ?_; try intro _) | (refine WL_op rfl ?_; (first | (refine OW_call rfl (hF := few_fn hp (fun q hq => .tail _ (.tail _ hq))) (hk := ?_); rintro _ _ ⟨X, pf, rfl, rfl, hpf⟩))) | refine RC ?_ | refine WG 1 ?_ | refine WG 2 ?_)
  obtain ⟨M, hM⟩ : ∃ M, M = (x3, Obj.cells pf 25 (0, 0)) :: (x4, Obj.cells (cfC c) 27 (0, 0)) :: (X ++ L) := ⟨_, rfl⟩
  have hpl : PlAt M pf (fewP p) := hpf.mem fun q hq => by rw [hM]; exact .tail _ (.tail _ hq)
  have hLM : L.Sublist M := by rw [hM]; exact .cons _ (.cons _ (List.sublist_append_right X L))
  have hi3 : M[0]? = some (x3, Obj.cells pf 25 (0, 0)) := by rw [hM]; rfl
  have hi4 : M[1]? = some (x4, Obj.cells (cfC c) 27 (0, 0)) := by rw [hM]; rfl
  have hdn := dNew_fn (c := c) hpl (fun _ h => h) h1000
  have hbb : (true != true) = false := rfl
  rw [← hM]
  obtain ⟨P, hP⟩ : ∃ P, P = fewP p := ⟨_, rfl⟩
  rw [← hP] at hpl hdn h1000
  by_cases hpz : (planF P).2 = 0
  rotate_left
  · have d1 : ((planF P).2 != (planF P).2) = false := bne_self_eq_false _
    have hd0 : Fn Tryz.prog 9 [.agg pf, .agg (cfC c)] M (fun v L' => v = .tuple #[.pointer none, iV (planF P).2] ∧ L' = M) := hdn.mono (by
      rintro v L' (⟨_, h1, h2⟩ | ⟨h0, _⟩ | ⟨h0, _⟩)
      · exact ⟨h1, h2⟩
      · exact absurd h0 hpz
      · exact absurd h0 hpz)
    repeat (first | refine RQ ?_ | ((first | refine WL_Q ?_ | refine WL_Y ?_); (first | refine QW_of (Qt_ldX rfl (hn := by with_reducible assumption)) ?_ | refine QW_of (Qt_eqlCf rfl) ?_)) | ((first | refine WL_op rfl ?_ | refine WL_yes (h := ?_)); (first | refine OW_callP rfl (hF := works9_fn _) (hk := ?_) | refine OW_callP rfl (hF := New_plan hpl hpz) (hk := ?_) | refine OW_callP rfl (hF := hd0) (hk := ?_))) | refine RC ?_ | refine WG 2 ?_ | refine WG 3 ?_ | refine WG 4 ?_ | refine WG 6 ?_ | refine WG 7 ?_)
    exact ⟨rfl, _, _, Res1 rfl (resV_tmp rfl), hLM, rfl, rfl⟩
  cases hrf : rightF c
  · have d1 : ((2 : Int) != 2) = false := rfl
    have hd0 : Fn Tryz.prog 9 [.agg pf, .agg (cfC c)] M (fun v L' => v = .tuple #[.pointer none, iV 2] ∧ L' = M) := hdn.mono (by
      rintro v L' (⟨h0, _⟩ | ⟨_, _, h1, h2⟩ | ⟨_, h0, _⟩)
      · exact absurd hpz h0
      · exact ⟨h1, h2⟩
      · rw [hrf] at h0; cases h0)
    repeat (first | refine RQ ?_ | ((first | refine WL_Q ?_ | refine WL_Y ?_); (first | refine QW_of (Qt_ldX rfl (hn := by with_reducible assumption)) ?_ | refine QW_of (Qt_eqlCf rfl) ?_)) | ((first | refine WL_op rfl ?_ | refine WL_yes (h := ?_)); (first | refine OW_callP rfl (hF := works9_fn _) (hk := ?_) | refine OW_callP rfl (hF := New_right hpl hpz hrf) (hk := ?_) | refine OW_callP rfl (hF := hd0) (hk := ?_))) | refine RC ?_ | refine WG 2 ?_ | refine WG 3 ?_ | refine WG 4 ?_ | refine WG 6 ?_ | refine WG 7 ?_)
    exact ⟨rfl, _, _, Res1 rfl (resV_tmp rfl), hLM, rfl, rfl⟩
  repeat (first | refine RQ ?_ | (refine WL_Q ?_; (first | refine QW_of (Qt_ldX rfl (hn := by with_reducible assumption)) ?_ | refine QW_of (Qt_eqlCf rfl) ?_)) | (refine WL_op rfl ?_; (first | (refine OW_call rfl (hF := New_fn hpl hpz hrf) (hk := ?_); rintro _ _ ⟨tb, S, G, rfl, rfl, hTab⟩))) | refine RC ?_ | refine WG 2 ?_)
  have hd0 : Fn Tryz.prog 9 [.agg pf, .agg (cfC c)] (S ++ (G ++ M)) (fun v L' => (∃ rb cs, v = .tuple #[.pointer (some ⟨rb, 0, none⟩), iV 0] ∧ L' = rfO rb cs :: (S ++ (G ++ M)) ∧ RefAt cs M P c [])) := by
    refine (dNew_fn (c := c) (L := S ++ (G ++ M)) hpl (fun q h => List.mem_append_right _ (List.mem_append_right _ h)) h1000).mono ?_
    rintro v L' (⟨h0, _⟩ | ⟨_, h0, _⟩ | ⟨_, _, rb, cs, h1, h2, h3⟩)
    · exact absurd hpz h0
    · rw [hrf] at h0; cases h0
    · exact ⟨rb, cs, h1, h2, h3⟩
  have d1 : ((0 : Int) != 0) = false := rfl
  have hbf : (false != false) = false := rfl
  have hb1 : (0 : Int) ≠ 1 := by decide
  obtain ⟨i3, hi3'⟩ := List.mem_iff_getElem?.1 (show (x3, Obj.cells pf 25 (0, 0)) ∈ S ++ (G ++ M) from List.mem_append_right _ (List.mem_append_right _ (List.mem_of_getElem? hi3)))
  obtain ⟨i4, hi4'⟩ := List.mem_iff_getElem?.1 (show (x4, Obj.cells (cfC c) 27 (0, 0)) ∈ S ++ (G ++ M) from List.mem_append_right _ (List.mem_append_right _ (List.mem_of_getElem? hi4)))
  repeat (first | refine RQ ?_ | ((first | refine WL_Q ?_ | refine WL_Y ?_); (first | refine QW_of (Qt_ldX rfl (hn := by with_reducible assumption)) ?_ | refine QW_of (Qt_eqlCf rfl) ?_)) | ((first | refine WL_op rfl ?_ | refine WL_yes (h := ?_)); (first | (refine OW_call rfl (hF := hd0) (hk := ?_); rintro _ _ ⟨rb, cs, rfl, rfl, hR⟩))) | refine RC ?_ | refine WG 3 ?_ | refine WG 4 ?_ | refine WG 6 ?_ | refine WG 8 ?_ | refine WG 9 ?_)
  have hO0 : RfOk P c [] := ⟨hpz, hrf, fun i x h => by simp at h⟩
  refine WC_wk [(12, iV ((0 : Nat) : Int)), (11, iV (lastF (rchT P c []))), (9, .pointer (some ⟨rb, 0, none⟩)), (7, .pointer (some ⟨tb, 0, none⟩)), (4, .pointer (some ⟨x4, 0, none⟩)), (2, .slice al l.length cal)] ⟨rfl, rfl, rfl, rfl, rfl, rfl, trivial⟩ ?_
  refine WC_loop (fun m σ => ∃ (k : Nat) (l' : List CmV) (cs : Array Value) (S F : List (Nat × Obj)), m = l.length - k ∧ k ≤ l.length ∧ RfOk P c l' ∧ (∀ x ∈ l', x.bins.length ≤ 1000) ∧ TabAt tb S F (rchT P c l') ∧ RefAt cs F P c l' ∧ L.Sublist F ∧ (x4, Obj.cells (cfC c) 27 (0, 0)) ∈ F ∧ σ = ⟨[(12, iV (k : Int)), (11, iV (lastF (rchT P c l'))), (9, .pointer (some ⟨rb, 0, none⟩)), (7, .pointer (some ⟨tb, 0, none⟩)), (4, .pointer (some ⟨x4, 0, none⟩)), (2, .slice al l.length cal)], [], rfO rb cs :: (S ++ F)⟩) l.length ⟨0, [], cs, S, G ++ M, rfl, Nat.zero_le _, hO0, by simp, hTab.mem fun q hq => List.mem_append_left _ hq, hR.mem fun q hq => List.mem_append_right _ hq, hLM.trans (List.sublist_append_right G M), List.mem_append_right _ (List.mem_of_getElem? hi4), rfl⟩ ?_
  clear hR hTab hi3' hi4' hi3 hi4 hM hpl hdn hd0 hpf
  rintro _ σ ⟨k, l', cs, S, F, rfl, hk, hO, hB, hTab, hR, hLF, hx4, rfl⟩
  have hT := hO.tb
  obtain ⟨t, ht⟩ : ∃ t, t = rchT P c l' := ⟨_, rfl⟩
  rw [← ht] at hTab hT ⊢
  have hCont : (k < l.length ∧ k < 30) ∨ ¬ (k < l.length ∧ k < 30) := Decidable.em _
  rcases hCont with ⟨hk1, hk2⟩ | hno
  rotate_left
  · refine WC_seq ?_
    refine WC_seq ?_
    refine WC_meet (fun σ => σ = ⟨[(52, .bool false), (7, .pointer (some ⟨tb, 0, none⟩)), (4, .pointer (some ⟨x4, 0, none⟩))], [], rfO rb cs :: (S ++ F)⟩) ?_ ?_
    · by_cases hkl : k < l.length
      · have d1 : decide ((k : Int) < ((l.length : Nat) : Int)) = true := decide_eq_true (by omega)
        have d2 : decide ((k : Int) < 30) = false := decide_eq_false (by omega)
        repeat (first | refine RQ ?_ | ((first | refine WL_Q ?_ | refine WL_Y ?_); (first | refine QW_of (Qt_ldX rfl (hn := by with_reducible assumption)) ?_ | refine QW_of (Qt_eqlCf rfl) ?_)) | refine RC ?_ | refine WG 10 ?_)
        exact ⟨_, rfl, ⟨by rw [d2]; rfl, rfl, rfl, trivial⟩, rfl, .refl _⟩
      · have d1 : decide ((k : Int) < ((l.length : Nat) : Int)) = false := decide_eq_false (by omega)
        repeat (first | refine RQ ?_ | ((first | refine WL_Q ?_ | refine WL_Y ?_); (first | refine QW_of (Qt_ldX rfl (hn := by with_reducible assumption)) ?_ | refine QW_of (Qt_eqlCf rfl) ?_)) | refine RC ?_ | refine WG 10 ?_)
        exact ⟨_, rfl, ⟨by rw [d1]; rfl, rfl, rfl, trivial⟩, rfl, .refl _⟩
    rintro _ rfl
    have hIn : TabIn tb (rfO rb cs :: (S ++ F)) t := hTab.tabIn (fun q hq => .tail _ (List.mem_append_left _ hq)) (fun q hq => .tail _ (List.mem_append_right _ hq))
    have hcf : t.cf = c := by rw [ht]; exact hO.cf_
    have hcfg := cfg_fn hIn
    rw [hcf] at hcfg
    obtain ⟨i4, hi4⟩ := List.mem_iff_getElem?.1 (show (x4, Obj.cells (cfC c) 27 (0, 0)) ∈ rfO rb cs :: (S ++ F) from .tail _ (List.mem_append_right _ hx4))
    have dc : decide ([c.1, c.2.1, c.2.2.1, c.2.2.2.1, c.2.2.2.2] = [c.1, c.2.1, c.2.2.1, c.2.2.2.1, c.2.2.2.2]) = true := by simp
    repeat (first | refine RQr ?_ | ((first | refine WL_Q ?_ | refine WL_Y ?_ | refine WR_Q rfl ?_ | refine WR_late rfl rfl rfl (OW_Q ?_) | refine WR_Y rfl ?_); (first | refine QW_of (Qt_ldX rfl (hn := by with_reducible assumption)) ?_ | refine QW_of (Qt_eqlCf rfl) ?_)) | ((first | refine WL_op rfl ?_ | refine WL_yes (h := ?_) | refine WR_late rfl rfl rfl ?_ | refine WR_opG rfl rfl ?_ | refine WR_opYG rfl (h := ?_)); (first | refine OW_callP rfl (hF := works9_fn _) (hk := ?_) | refine OW_callP rfl (hF := hcfg) (hk := ?_)); try refine SD ?_) | refine RC ?_ | refine RU ?_ | refine WC_draw_all (id := 21) 8 (Cs [0,2] <| .must 1 <| Cs [3,4] <| .must 5 <| Cs [6,7] <| .done) mixed (by kernel_rfl) ?_)
    exact ⟨rfl, _, _, Res1 rfl (resV_tmp rfl), .cons _ (hLF.trans (List.sublist_append_right S F)), rfl, rfl⟩
  have d1 : decide ((k : Int) < ((l.length : Nat) : Int)) = true := decide_eq_true (by omega)
  have d2 : decide ((k : Int) < 30) = true := decide_eq_true (by omega)
  obtain ⟨o, ho⟩ : ∃ o, l[k]? = some o := ⟨_, List.getElem?_eq_getElem hk1⟩
  obtain ⟨q, off, cur, E, fr, rfl, hq, hoc, hom, hof, bv, hbv, hx1, hx2'⟩ := hlx k o ho
  obtain ⟨iq, hiq⟩ := List.mem_iff_getElem?.1 (show (q, Obj.cells cur E fr) ∈ rfO rb cs :: (S ++ F) from .tail _ (List.mem_append_right _ (hLF.mem hq)))
  have p0 : (0 : Int) ≤ (k : Int) := by omega
  have p1 : ((k : Nat) : Int) < ((l.length : Nat) : Int) := by omega
  have y1 : off + ((k : Nat) : Int).toNat * 12 + 12 ≤ cur.size := by rw [Int.toNat_natCast]; exact hx2'
  have v1 : cur.extract (off + ((k : Nat) : Int).toNat * 12) (off + ((k : Nat) : Int).toNat * 12 + 12) = (orC o.1 bv o.2.1 o.2.2).toArray := by rw [Int.toNat_natCast]; exact hx1
  have w7 : IntKind.i64.wrap ((k : Int) + 1) = ((k + 1 : Nat) : Int) := by rw [wI64 (by omega) (by omega)]; omega
  have hlast := hT.last
  repeat (first | refine RQ ?_ | ((first | refine WL_Q ?_ | refine WL_Y ?_); (first | refine QW_of (Qt_ldX rfl (hn := by with_reducible assumption)) ?_ | refine QW_of (Qt_eqlCf rfl) ?_)) | (refine RE ?_; try intro _) | refine RC ?_ | refine WG 10 ?_ | refine WG 12 ?_)
  try rw [v1]
  refine WL_op rfl (OW_call rfl (hF := cmdOf_fn (G := F) (hbv.mem fun q h => hLF.mem h)) (hk := ?_))
  rintro _ _ ⟨bv', hbv', rfl, rfl⟩
  obtain ⟨x, hx⟩ : ∃ x, x = cmdF o.1 o.2.1 (lastF t) := ⟨_, rfl⟩
  have hxR : CmR x := by rw [hx]; exact cmdF_R hoc hom hlast
  have hx12 : x.bins.length ≤ 12 := by rw [hx]; exact cmdF_bins _ _ _
  obtain ⟨fl, hfl⟩ : ∃ fl, fl = flF o.2.2 (lastF t) := ⟨_, rfl⟩
  rw [← hx] at hbv' ⊢
  rw [← hfl]
  have hsz2 : (cmC x bv').toArray.size = 10 := rfl
  have hall2 := (show CmAt F (cmC x bv') x from ⟨bv', rfl, hbv', hxR⟩).all
  repeat (first | refine RQ ?_ | (refine WL_Q ?_; (first | refine QW_of (Qt_ldX rfl (hn := by with_reducible assumption)) ?_ | refine QW_of (Qt_eqlCf rfl) ?_)) | (refine RE ?_; try intro _) | refine RC ?_ | refine WG 12 ?_)
  rename_i x13
  refine WC_wk [(14, iV fl), (13, .pointer (some ⟨x13, 0, none⟩)), (12, iV (k : Int)), (11, iV (lastF t)), (9, .pointer (some ⟨rb, 0, none⟩)), (7, .pointer (some ⟨tb, 0, none⟩)), (4, .pointer (some ⟨x4, 0, none⟩)), (2, .slice (some ⟨q, off, none⟩) l.length cal)] ⟨rfl, rfl, rfl, rfl, rfl, rfl, rfl, rfl, trivial⟩ ?_
  refine WC_permT (L' := rfO rb cs :: ((x13, Obj.cells (cmC x bv').toArray 42 (0, 0)) :: (S ++ F))) (.swap ..) ?_
  obtain ⟨D, hD⟩ : ∃ D, D = (x13, Obj.cells (cmC x bv').toArray 42 (0, 0)) := ⟨_, rfl⟩
  have hFD : ∀ q ∈ F, q ∈ D :: (S ++ F) := fun q hq => .tail _ (List.mem_append_right _ hq)
  obtain ⟨tr, htr⟩ : ∃ tr, tr = tryF t x fl := ⟨_, rfl⟩
  have dtr : (tr != tr) = false := bne_self_eq_false _
  have htry : ∀ M : List (Nat × Obj), (∀ q ∈ D :: (S ++ F), q ∈ M) → Fn Tryz.prog 12 [.pointer (some ⟨tb, 0, none⟩), .agg (cmC x bv').toArray, iV fl] M (fun v L' => v = iV tr ∧ L' = M) := fun M h => by
    rw [htr]
    exact try_fn (hTab.tabIn (fun q hq => h _ (.tail _ (List.mem_append_left _ hq))) (fun q hq => h _ (hFD q hq))) (hbv'.mem fun q hq => h _ (hFD q hq))
  have hdt := dTry_fn (rb := rb) (floor := fl) (F := D :: (S ++ F)) hR hO hFD (hbv'.mem hFD) (by omega)
  rw [← ht, ← htr] at hdt
  have hsub : (D :: (S ++ F)).Sublist (rfO rb cs :: (D :: (S ++ F))) := .cons _ (.refl _)
  rw [← hD]
  have hi13 : (D :: (S ++ F))[0]? = some (x13, Obj.cells (cmC x bv').toArray 42 (0, 0)) := by rw [hD]; rfl
  refine WC_draw_sub (id := 13) 9 (Cs [0,1,2,4,5,6] <| .must 3 <| .must 7 <| .calm 8 <| .done) mixed (by kernel_rfl) (hsub) ?_
  repeat (first | refine RQr ?_ | ((first | refine WL_Q ?_ | refine WL_Y ?_ | refine WR_Q rfl ?_ | refine WR_late rfl rfl rfl (OW_Q ?_) | refine WR_Y rfl ?_); (first | refine QW_of (Qt_ldX rfl (hn := by with_reducible assumption)) ?_ | refine QW_of (Qt_eqlCf rfl) ?_)) | ((first | refine WL_op rfl ?_ | refine WL_yes (h := ?_) | refine WR_late rfl rfl rfl ?_ | refine WR_op rfl rfl ?_ | refine WR_opY rfl (h := ?_)); (first | (refine OE ?_; try intro _) | refine OW_callP rfl (hF := works9_fn _) (hk := ?_) | (refine OW_call rfl (hF := few_fn hp (fun q hq => .tail _ (.tail _ hq))) (hk := ?_); rintro _ _ ⟨X, pf, rfl, rfl, hpf⟩) | (refine OW_call rfl (hF := New_fn hpl hpz hrf) (hk := ?_); rintro _ _ ⟨tb, S, G, rfl, rfl, hTab⟩) | (refine OW_call rfl (hF := hd0) (hk := ?_); rintro _ _ ⟨rb, cs, rfl, rfl, hR⟩) | refine OW_callP rfl (hF := hcfg) (hk := ?_) | refine OW_callP rfl (hF := htry _ (by first | exact fun q hq => hq | exact fun q hq => .tail _ hq | exact fun q hq => .tail _ (List.mem_append_right _ hq))) (hk := ?_) | (refine OW_call rfl (hF := hdt) (hk := ?_); rintro _ _ ⟨rfl, cs1, X1, rfl, hR1⟩)); try refine SD ?_) | refine RC ?_ | refine RU ?_ | refine WC_draw_all (id := 13) 9 (Cs [0,1,2,4,5,6] <| .must 3 <| .must 7 <| .calm 8 <| .done) mixed (by kernel_rfl) ?_ | refine WC_draw_all (id := 21) 8 (Cs [0,2] <| .must 1 <| Cs [3,4] <| .must 5 <| Cs [6,7] <| .done) mixed (by kernel_rfl) ?_ | refine WG 0 ?_ | refine WG 1 ?_ | refine WG 2 ?_ | refine WG 3 ?_ | refine WG 4 ?_ | refine WG 5 ?_ | refine WG 6 ?_ | refine WG 7 ?_ | refine WG 8 ?_ | refine WG 9 ?_ | refine WG 10 ?_ | refine WG 12 ?_ | refine WG 14 ?_ | refine WG 16 ?_ | refine WG 17 ?_ | refine WG 18 ?_ | refine WG 19 ?_ | refine WG 20 ?_ | refine WG 11 ?_)
  refine WC_permT (L' := S ++ (rfO rb cs1 :: D :: (X1 ++ F))) (perm_g2 ..) ?_
  repeat (first | refine RQ ?_ | (refine WL_Q ?_; (first | refine QW_of (Qt_ldX rfl (hn := by with_reducible assumption)) ?_ | refine QW_of (Qt_eqlCf rfl) ?_)) | (refine WL_op rfl ?_; (first | (refine OW_call rfl (hF := copy_fn (F := rfO rb cs1 :: D :: (X1 ++ F)) hTab (by have := hT.few; omega) (by have := hT.rl; have := hT.nds; omega) (fun row hr => by have := hT.rshort row hr; have := hT.few; omega)) (hk := ?_); rintro _ _ ⟨tb2, S2, rfl, rfl, hTab2⟩) | (refine OW_call rfl (hF := dCopy_fn (F := S2 ++ (S ++ (rfO rb cs1 :: D :: (X1 ++ F)))) hR1 hO (List.mem_append_right _ (List.mem_append_right _ (.head _))) (fun q hq => List.mem_append_right _ (List.mem_append_right _ (.tail _ (.tail _ hq))))) (hk := ?_); rintro _ _ ⟨rb2, cs2, X2, rfl, rfl, hR2⟩))) | refine RC ?_ | refine WG 15 ?_)
  refine WC_wk [(16, .pointer (some ⟨rb2, 0, none⟩)), (15, .pointer (some ⟨tb2, 0, none⟩)), (14, iV fl), (13, .pointer (some ⟨x13, 0, none⟩)), (12, iV (k : Int)), (11, iV (lastF t)), (9, .pointer (some ⟨rb, 0, none⟩)), (7, .pointer (some ⟨tb, 0, none⟩)), (4, .pointer (some ⟨x4, 0, none⟩)), (2, .slice (some ⟨q, off, none⟩) l.length cal)] ⟨rfl, rfl, rfl, rfl, rfl, rfl, rfl, rfl, rfl, rfl, trivial⟩ ?_
  obtain ⟨K1, hK1⟩ : ∃ K1, K1 = rfO rb2 cs2 :: (S2 ++ (X2 ++ (X1 ++ F))) := ⟨_, rfl⟩
  refine WC_permT (L' := rfO rb cs1 :: D :: (S ++ (rfO rb2 cs2 :: (S2 ++ (X2 ++ (X1 ++ F)))))) (perm_g3 ..) ?_
  rw [← hK1]
  have hX1K : ∀ q ∈ X1 ++ F, q ∈ K1 := fun q hq => by rw [hK1]; exact .tail _ (List.mem_append_right _ (List.mem_append_right _ hq))
  have hFK : ∀ q ∈ F, q ∈ K1 := fun q hq => hX1K q (List.mem_append_right _ hq)
  have hj1 : (rfO rb cs1 :: D :: (S ++ K1))[1]? = some (x13, Obj.cells (cmC x bv').toArray 42 (0, 0)) := by rw [hD]; rfl
  repeat (first | refine RQ ?_ | (refine WL_Q ?_; (first | refine QW_of (Qt_ldX rfl (hn := by with_reducible assumption)) ?_ | refine QW_of (Qt_eqlCf rfl) ?_)) | refine RC ?_ | refine WG 16 ?_)
  refine WL_op rfl (OW_call rfl (hF := dAdd_fn (F := D :: (S ++ K1)) (floor := fl) hR1 hO (fun q hq => .tail _ (List.mem_append_right _ (hX1K q hq))) (hbv'.mem fun q hq => .tail _ (List.mem_append_right _ (hFK q hq))) hxR (by omega)) (hk := ?_))
  rintro _ _ ⟨rfl, cs3, X3, rfl, hR3⟩
  rw [← ht, ← htr] at hR3
  rw [← ht, ← htr]
  repeat (first | refine RQ ?_ | (refine WL_Q ?_; (first | refine QW_of (Qt_ldX rfl (hn := by with_reducible assumption)) ?_ | refine QW_of (Qt_eqlCf rfl) ?_)) | refine RC ?_ | refine WG 16 ?_)
  refine WC_permT (L' := S ++ (D :: rfO rb cs3 :: (X3 ++ K1))) (perm_g4 ..) ?_
  obtain ⟨i5, hi5⟩ := List.mem_iff_getElem?.1 (show (x13, Obj.cells (cmC x bv').toArray 42 (0, 0)) ∈ S ++ (D :: rfO rb cs3 :: (X3 ++ K1)) from List.mem_append_right _ (by rw [hD]; exact .head _))
  repeat (first | refine RQ ?_ | ((first | refine WL_Q ?_ | refine WL_Y ?_); (first | refine QW_of (Qt_ldX rfl (hn := by with_reducible assumption)) ?_ | refine QW_of (Qt_eqlCf rfl) ?_)) | refine RC ?_ | refine WG 17 ?_)
  refine WL_op rfl (OW_call rfl (hF := step_fn (F := D :: rfO rb cs3 :: (X3 ++ K1)) (floor := fl) hT hTab (fun q hq => .tail _ (.tail _ (List.mem_append_right _ (hFK q hq)))) hbv' hxR (by omega)) (hk := ?_))
  rintro _ _ ⟨rfl, S1, X4, rfl, hTab1⟩
  rw [← htr]
  refine WL_permT (L' := rfO rb cs3 :: D :: (S1 ++ (X4 ++ (X3 ++ K1)))) (perm_g5 ..) ?_
  have hst : stepF t x fl = rchT P c (if tr = 0 then l' ++ [x] else l') := by
    unfold stepF
    rw [← htr]
    split
    · rw [rchT_snoc, ht]
    · exact ht
  have hO2 : RfOk P c (if tr = 0 then l' ++ [x] else l') := by
    split
    · rename_i h0
      exact hO.snoc (fl := fl) (by rw [← ht, ← htr]; exact h0)
    · exact hO
  have hB2 : ∀ y ∈ (if tr = 0 then l' ++ [x] else l'), y.bins.length ≤ 1000 := by
    split
    · intro y hy
      rcases List.mem_append.1 hy with h | h
      · exact hB y h
      · obtain rfl : y = x := by simpa using h
        omega
    · exact hB
  obtain ⟨l2, hl2e⟩ : ∃ l2, l2 = (if tr = 0 then l' ++ [x] else l') := ⟨_, rfl⟩
  rw [← hl2e] at hst hO2 hB2 hR3
  obtain ⟨F4, hF4⟩ : ∃ F4, F4 = D :: (S1 ++ (X4 ++ (X3 ++ K1))) := ⟨_, rfl⟩
  have hKF4 : ∀ q ∈ K1, q ∈ F4 := fun q hq => by rw [hF4]; exact .tail _ (List.mem_append_right _ (List.mem_append_right _ (List.mem_append_right _ hq)))
  have hX34 : ∀ q ∈ X3 ++ (X1 ++ F), q ∈ F4 := fun q hq => by
    rcases List.mem_append.1 hq with h | h
    · rw [hF4]; exact .tail _ (List.mem_append_right _ (List.mem_append_right _ (List.mem_append_left _ h)))
    · exact hKF4 q (hX1K q h)
  have hX44 : ∀ q ∈ X4 ++ F, q ∈ F4 := fun q hq => by
    rcases List.mem_append.1 hq with h | h
    · rw [hF4]; exact .tail _ (List.mem_append_right _ (List.mem_append_left _ h))
    · exact hKF4 q (hFK q h)
  have hS14 : ∀ q ∈ S1, q ∈ F4 := fun q hq => by rw [hF4]; exact .tail _ (List.mem_append_left _ hq)
  have hIn4 : TabIn tb F4 (rchT P c l2) := by rw [← hst]; exact hTab1.tabIn hS14 hX44
  have hDF4 : (x13, Obj.cells (cmC x bv').toArray 42 (0, 0)) ∈ F4 := by rw [hF4, hD]; exact .head _
  rw [← hF4]
  obtain ⟨i6, hi6⟩ := List.mem_iff_getElem?.1 (show (x13, Obj.cells (cmC x bv').toArray 42 (0, 0)) ∈ rfO rb cs3 :: F4 from .tail _ hDF4)
  have hc1 : (cmC x bv').toArray[0 + 1]? = some (iV x.at_) := rfl
  have hc2 : (cmC x bv').toArray[1]? = some (iV x.at_) := rfl
  repeat (first | refine RQ ?_ | ((first | refine WL_Q ?_ | refine WL_Y ?_); (first | refine QW_of (Qt_ldX rfl (hn := by with_reducible assumption)) ?_ | refine QW_of (Qt_eqlCf rfl) ?_)) | ((first | refine WL_op rfl ?_ | refine WL_yes (h := ?_)); (first | (refine OW_call rfl (hF := alike_fn hR3 hO2 hX34 hIn4 hB2) (hk := ?_); rintro _ _ ⟨rfl, cs5, X5, rfl, hR5⟩))) | refine RC ?_ | refine WG 17 ?_)
  obtain ⟨F7, hF7⟩ : ∃ F7, F7 = X5 ++ (X4 ++ (X3 ++ (S2 ++ (X2 ++ (X1 ++ F))))) := ⟨_, rfl⟩
  refine WL_permT (L' := rfO rb2 cs2 :: rfO rb cs5 :: D :: (S1 ++ F7)) (by rw [hF4, hK1, hF7]; exact perm_g6 ..) ?_
  have hTab7 : TabAt tb S1 F7 (rchT P c l2) := by
    rw [← hst]
    exact hTab1.mem fun q hq => by rw [hF7]; simp only [List.mem_append] at hq ⊢; rcases hq with h | h <;> simp [h]
  have hR7 : RefAt cs5 F7 P c l2 := hR5.mem fun q hq => by rw [hF7]; simp only [List.mem_append] at hq ⊢; rcases hq with h | h | h | h <;> simp [h]
  have hFF7 : F.Sublist F7 := by rw [hF7]; exact (List.sublist_append_right X1 F).trans ((List.sublist_append_right X2 _).trans ((List.sublist_append_right S2 _).trans ((List.sublist_append_right X3 _).trans ((List.sublist_append_right X4 _).trans (List.sublist_append_right X5 _)))))
  have hL7 : L.Sublist F7 := hLF.trans hFF7
  have hx47 := hFF7.mem hx4
  have hls0 : tr = 0 → lastF (rchT P c l2) = x.at_ := fun h0 => by rw [hl2e, if_pos h0, rchT_snoc, addF_last]
  have hls1 : ¬ tr = 0 → lastF (rchT P c l2) = lastF t := fun h0 => by rw [hl2e, if_neg h0, ht]
  have hR2' : ∀ q ∈ X2 ++ (X1 ++ F), q ∈ rfO rb cs5 :: D :: (S1 ++ F7) := fun q hq => .tail _ (.tail _ (List.mem_append_right _ (by rw [hF7]; simp only [List.mem_append] at hq ⊢; rcases hq with h | h | h <;> simp [h])))
  have hIn5 : TabIn tb2 (rfO rb cs5 :: D :: (S1 ++ F7)) (rchT P c l') := by
    rw [← ht]
    exact hTab2.tabIn (fun q hq => .tail _ (.tail _ (List.mem_append_right _ (by rw [hF7]; simp only [List.mem_append]; simp [hq])))) (fun q hq => .tail _ (.tail _ (List.mem_append_right _ (hFF7.mem hq))))
  have hj7 : (rfO rb2 cs2 :: rfO rb cs5 :: D :: (S1 ++ F7))[2]? = some (x13, Obj.cells (cmC x bv').toArray 42 (0, 0)) := by rw [hD]; rfl
  cases d7 : ((k : Int).tmod 7 == 0)
  · skip
    by_cases h0 : tr = 0
    · have dz : (tr == 0) = true := by simpa using h0
      repeat (first | refine RQ ?_ | ((first | refine WL_Q ?_ | refine WL_Y ?_); (first | refine QW_of (Qt_ldX rfl (hn := by with_reducible assumption)) ?_ | refine QW_of (Qt_eqlCf rfl) ?_)) | ((first | refine WL_op rfl ?_ | refine WL_yes (h := ?_)); (first | (refine OW_call rfl (hF := alike_fn hR3 hO2 hX34 hIn4 hB2) (hk := ?_); rintro _ _ ⟨rfl, cs5, X5, rfl, hR5⟩))) | refine RC ?_ | refine WG 17 ?_ | refine WG 19 ?_ | refine WG 20 ?_ | refine WG 11 ?_)
      rw [w7]
      exact ⟨_, _, by omega, ⟨k + 1, l2, cs5, S1, F7, rfl, by omega, hO2, hB2, hTab7, hR7, hL7, hx47, rfl⟩, ⟨rfl, by rw [hls0 h0]; rfl, rfl, rfl, rfl, rfl, trivial⟩, rfl, .cons _ (.cons_cons _ (.cons _ (.refl _)))⟩
    · have dz : (tr == 0) = false := by simpa using h0
      repeat (first | refine RQ ?_ | ((first | refine WL_Q ?_ | refine WL_Y ?_); (first | refine QW_of (Qt_ldX rfl (hn := by with_reducible assumption)) ?_ | refine QW_of (Qt_eqlCf rfl) ?_)) | ((first | refine WL_op rfl ?_ | refine WL_yes (h := ?_)); (first | (refine OW_call rfl (hF := alike_fn hR3 hO2 hX34 hIn4 hB2) (hk := ?_); rintro _ _ ⟨rfl, cs5, X5, rfl, hR5⟩))) | refine RC ?_ | refine WG 17 ?_ | refine WG 19 ?_ | refine WG 11 ?_)
      rw [w7]
      exact ⟨_, _, by omega, ⟨k + 1, l2, cs5, S1, F7, rfl, by omega, hO2, hB2, hTab7, hR7, hL7, hx47, rfl⟩, ⟨rfl, by rw [hls1 h0]; rfl, rfl, rfl, rfl, rfl, trivial⟩, rfl, .cons _ (.cons_cons _ (.cons _ (.refl _)))⟩
  · 
    repeat (first | refine RQ ?_ | ((first | refine WL_Q ?_ | refine WL_Y ?_); (first | refine QW_of (Qt_ldX rfl (hn := by with_reducible assumption)) ?_ | refine QW_of (Qt_eqlCf rfl) ?_)) | ((first | refine WL_op rfl ?_ | refine WL_yes (h := ?_)); (first | (refine OW_call rfl (hF := alike_fn hR2 hO hR2' hIn5 hB) (hk := ?_); rintro _ _ ⟨rfl, cs6, X6, rfl, hR6⟩))) | refine RC ?_ | refine WG 17 ?_)
    obtain ⟨i8, hi8⟩ := List.mem_iff_getElem?.1 (show (x13, Obj.cells (cmC x bv').toArray 42 (0, 0)) ∈ rfO rb2 cs6 :: (X6 ++ (rfO rb cs5 :: D :: (S1 ++ F7))) from .tail _ (List.mem_append_right _ (.tail _ (by rw [hD]; exact .head _))))
    by_cases h0 : tr = 0
    · have dz : (tr == 0) = true := by simpa using h0
      repeat (first | refine RQ ?_ | ((first | refine WL_Q ?_ | refine WL_Y ?_); (first | refine QW_of (Qt_ldX rfl (hn := by with_reducible assumption)) ?_ | refine QW_of (Qt_eqlCf rfl) ?_)) | ((first | refine WL_op rfl ?_ | refine WL_yes (h := ?_)); (first | (refine OW_call rfl (hF := alike_fn hR2 hO hR2' hIn5 hB) (hk := ?_); rintro _ _ ⟨rfl, cs6, X6, rfl, hR6⟩))) | refine RC ?_ | refine WG 17 ?_ | refine WG 19 ?_ | refine WG 20 ?_ | refine WG 11 ?_)
      rw [w7]
      exact ⟨_, _, by omega, ⟨k + 1, l2, cs5, S1, F7, rfl, by omega, hO2, hB2, hTab7, hR7, hL7, hx47, rfl⟩, ⟨rfl, by rw [hls0 h0]; rfl, rfl, rfl, rfl, rfl, trivial⟩, rfl, .cons _ ((List.Sublist.cons_cons _ (.cons _ (.refl _))).trans (List.sublist_append_right X6 _))⟩
    · have dz : (tr == 0) = false := by simpa using h0
      repeat (first | refine RQ ?_ | ((first | refine WL_Q ?_ | refine WL_Y ?_); (first | refine QW_of (Qt_ldX rfl (hn := by with_reducible assumption)) ?_ | refine QW_of (Qt_eqlCf rfl) ?_)) | ((first | refine WL_op rfl ?_ | refine WL_yes (h := ?_)); (first | (refine OW_call rfl (hF := alike_fn hR2 hO hR2' hIn5 hB) (hk := ?_); rintro _ _ ⟨rfl, cs6, X6, rfl, hR6⟩))) | refine RC ?_ | refine WG 17 ?_ | refine WG 19 ?_ | refine WG 11 ?_)
      rw [w7]
      exact ⟨_, _, by omega, ⟨k + 1, l2, cs5, S1, F7, rfl, by omega, hO2, hB2, hTab7, hR7, hL7, hx47, rfl⟩, ⟨rfl, by rw [hls1 h0]; rfl, rfl, rfl, rfl, rfl, trivial⟩, rfl, .cons _ ((List.Sublist.cons_cons _ (.cons _ (.refl _))).trans (List.sublist_append_right X6 _))⟩
end Go.Proofs.YtncgndcepoicbaaGreat
namespace Go.Proofs.YtncgndcepoicbaaGreat
open Go.ChangeShapes Go.WideShapes Go.ChangeAt Go.RowKit
abbrev plT := List OpV × List (OpV × List OpV) × Int × Int
abbrev opR9 : Rd OpV := (pairR (intR .i64) (pairR (intR .i64) (pairR (intR .i64) (intR .i64))))
abbrev plR9 : Rd plT := (pairR (sliceR (pairR (intR .i64) (pairR (intR .i64) (pairR (intR .i64) (intR .i64))))) (pairR (sliceR (pairR (pairR (intR .i64) (pairR (intR .i64) (pairR (intR .i64) (intR .i64)))) (sliceR (pairR (intR .i64) (pairR (intR .i64) (pairR (intR .i64) (intR .i64))))))) (pairR (intR .i64) (intR .i64))))
def plOf (x : plT) : PlV := ⟨x.1, x.2.1, x.2.2.1, x.2.2.2⟩
theorem ops_vec {L : List (Nat × Obj)} {a : Option Addr} {cap : Nat} {xs : List OpV} (h : xs.length ≤ cap) (hm : cap ≤ maxLen) (hx : SlLie opR9 L a xs) : VecM 4 L (.slice a xs.length cap) xs.length (opL xs) := by
  refine ⟨opL_len _, a, cap, rfl, h, hm, ?_⟩
  rcases hx with rfl | ⟨b, off, cs, E, fr, i, h1, h2, h3⟩
  · exact .inl rfl
  · refine .inr ⟨b, off, cs, E, fr, h1, List.mem_of_getElem? h2, fun j v hj => ?_⟩
    have hjl := (List.getElem?_eq_some_iff.1 hj).1
    rw [opL_len] at hjl
    obtain ⟨x, hx⟩ : ∃ x, xs[j / 4]? = some x := ⟨_, List.getElem?_eq_getElem (by omega)⟩
    obtain ⟨⟨c5, _⟩, ⟨c6, _⟩, ⟨c7, _⟩, c8, _⟩ := h3 _ x hx
    have c5 : cs[off + j / 4 * 4 + 0]? = some (iV x.1) := c5
    have c6 : cs[off + j / 4 * 4 + 1]? = some (iV x.2.1) := c6
    have c7 : cs[off + j / 4 * 4 + 2]? = some (iV x.2.2.1) := c7
    have c8 : cs[off + j / 4 * 4 + 3]? = some (iV x.2.2.2) := c8
    have e := opL_at hx
    have e2 : (((opL xs).drop (j / 4 * 4)).take 4)[j % 4]? = some v := by
      rw [List.getElem?_take, if_pos (by omega), List.getElem?_drop, show j / 4 * 4 + j % 4 = j by omega]; exact hj
    rw [e] at e2
    have hj4 : off + j = off + j / 4 * 4 + j % 4 := by omega
    rw [hj4]
    have : j % 4 = 0 ∨ j % 4 = 1 ∨ j % 4 = 2 ∨ j % 4 = 3 := by omega
    rcases this with q | q | q | q <;> rw [q] at e2 ⊢
    · rw [c5]; exact e2
    · rw [c6]; exact e2
    · rw [c7]; exact e2
    · rw [c8]; exact e2
end Go.Proofs.YtncgndcepoicbaaGreat
namespace Go.Proofs.YtncgndcepoicbaaGreat
open Go.ChangeShapes Go.WideShapes Go.ChangeAt Go.RowKit
theorem flat5 : ∀ {ls : List (List Value)}, (∀ l ∈ ls, l.length = 5) → ∀ {k r : Nat} {l : List Value}, ls[k]? = some l → r < 5 → ls.flatten[k * 5 + r]? = l[r]?
  | [], _, k, r, l, hk, _ => by simp at hk
  | a :: ls, h, 0, r, l, hk, hr => by
    cases hk
    rw [List.flatten_cons, Nat.zero_mul, Nat.zero_add, List.getElem?_append_left (by rw [h _ (.head _)]; exact hr)]
  | a :: ls, h, k + 1, r, l, hk, hr => by
    have ha := h a (.head _)
    rw [List.flatten_cons, List.getElem?_append_right (by omega), ha, show (k + 1) * 5 + r - 5 = k * 5 + r by omega]
    exact flat5 (fun l hl => h l (.tail _ hl)) (by simpa using hk) hr
theorem sts_of {L : List (Nat × Obj)} : ∀ {ls : List (List Value)} {xs : List StV}, ls.length = xs.length → (∀ (i : Nat) l, ls[i]? = some l → ∃ x, xs[i]? = some x ∧ StAtP L l x) → StsAt L ls xs
  | [], [], _, _ => trivial
  | a :: ls, x :: xs, hl, h => by
    obtain ⟨y, hy, hy2⟩ := h 0 a rfl
    cases hy
    exact ⟨hy2, sts_of (by simpa using hl) fun i l hi => by
      obtain ⟨z, hz, hz2⟩ := h (i + 1) l (by simpa using hi)
      exact ⟨z, by simpa using hz, hz2⟩⟩
theorem sts_vec {L : List (Nat × Obj)} {a : Option Addr} {cap : Nat} {xs : List StV} (h : xs.length ≤ cap) (hm : cap ≤ maxLen) (hx : SlLie (pairR opR9 (sliceR opR9)) L a xs) : ∃ ls, VecM 5 L (.slice a xs.length cap) xs.length ls.flatten ∧ StsAt L ls xs := by
  rcases hx with rfl | ⟨b, off, cs, E, fr, i, h1, h2, h3⟩
  · exact ⟨[], ⟨rfl, a, cap, rfl, h, hm, .inl rfl⟩, trivial⟩
  · obtain ⟨ls, hl, hls⟩ := choose_list (n := xs.length) (p := fun i l => ∃ x, xs[i]? = some x ∧ StAtP L l x ∧ ∀ r, r < 5 → cs[off + i * 5 + r]? = l[r]?) fun i hi => by
      obtain ⟨x, hx⟩ : ∃ x, xs[i]? = some x := ⟨_, List.getElem?_eq_getElem hi⟩
      obtain ⟨⟨⟨c5, _⟩, ⟨c6, _⟩, ⟨c7, _⟩, c8, _⟩, a2, cap2, c9, n1, n2, hb⟩ := h3 _ x hx
      refine ⟨opCl x.1 ++ [.slice a2 x.2.length cap2], x, hx, ⟨_, rfl, ops_vec n1 n2 hb⟩, fun r hr => ?_⟩
      match r, hr with
      | 0, _ => exact c5
      | 1, _ => exact c6
      | 2, _ => exact c7
      | 3, _ => exact c8
      | 4, _ => exact c9
    have hS : StsAt L ls xs := sts_of hl fun i l hi => by
      obtain ⟨x, q1, q2, _⟩ := hls i l hi
      exact ⟨x, q1, q2⟩
    have h5 : ∀ l ∈ ls, l.length = 5 := fun l hlm => by
      obtain ⟨i, hi⟩ := List.mem_iff_getElem?.1 hlm
      obtain ⟨x, _, q2, _⟩ := hls i l hi
      exact q2.len
    refine ⟨ls, ⟨hS.flat, a, cap, rfl, h, hm, .inr ⟨b, off, cs, E, fr, h1, List.mem_of_getElem? h2, fun j v hj => ?_⟩⟩, hS⟩
    have hjl := (List.getElem?_eq_some_iff.1 hj).1
    rw [hS.flat] at hjl
    obtain ⟨l, hlk⟩ : ∃ l, ls[j / 5]? = some l := ⟨_, List.getElem?_eq_getElem (by omega)⟩
    obtain ⟨x, _, _, q3⟩ := hls _ l hlk
    have e := flat5 h5 hlk (r := j % 5) (by omega)
    rw [show j / 5 * 5 + j % 5 = j by omega, hj] at e
    rw [show off + j = off + j / 5 * 5 + j % 5 by omega, q3 _ (by omega)]
    exact e.symm
theorem plan_of {L : List (Nat × Obj)} {cs : Array Value} {x : plT} (hz : cs.size = 4) (h : plR9.lie L x fun k => cs[k]?) : PlAt L cs (plOf x) := by
  obtain ⟨⟨a1, cap1, c0, n1, n2, hb1⟩, ⟨a2, cap2, c1, m1, m2, hb2⟩, ⟨c2, _⟩, c3, _⟩ := h
  obtain ⟨ls, v2, v3⟩ := sts_vec m1 m2 hb2
  refine ⟨_, _, ls, ?_, ops_vec n1 n2 hb1, v2, v3⟩
  apply Array.ext_getElem?
  intro j
  match j with
  | 0 => exact c0
  | 1 => exact c1
  | 2 => exact c2
  | 3 => exact c3
  | j + 4 => rw [Array.getElem?_eq_none (by omega), Array.getElem?_eq_none (by show 4 ≤ j + 4; omega)]
end Go.Proofs.YtncgndcepoicbaaGreat
