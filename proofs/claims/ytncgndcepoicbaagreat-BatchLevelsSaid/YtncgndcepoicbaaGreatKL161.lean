/-
  A part of what the last of these texts needs; by itself it proves no statement.
-/
import Derived.Test.YtncgndcepoicbaaGreatKL152
namespace Go.Proofs.YtncgndcepoicbaaGreat
open Go.RowKit
theorem perm_y1 {α : Type} (x r : α) (T F : List α) : (r :: (T ++ (x :: F))).Perm (T ++ (x :: r :: F)) := by
  classical
  rw [List.perm_iff_count]
  intro z
  simp only [List.count_append, List.count_cons]
  omega
attribute [local irreducible] Fn WC WL WR OW Qt YieldFn QW FnP FnD FnE
set_option maxHeartbeats 16000000 in
theorem dTry_fn {rb : Nat} {x : CmV} {bv : Value} {floor : Int} {cs : Array Value} {p : PlV} {c : CfV} {l : List CmV} {G F : List (Nat × Obj)} (hR : RefAt cs G p c l) (hO : RfOk p c l) (hG : ∀ q ∈ G, q ∈ F) (hb : VecM 1 F bv x.bins.length (x.bins.map iV)) (hB : x.bins.length ≤ 1000) : Fn Tryz.prog 13 [.pointer (some ⟨rb, 0, none⟩), .agg (cmC x bv).toArray, iV floor] (rfO rb cs :: F) (fun v L' => v = iV (tryF (rchT p c l) x floor) ∧ ∃ cs' X, L' = rfO rb cs' :: (X ++ F) ∧ RefAt cs' (X ++ G) p c l) := by
  obtain ⟨pv, lv, lc, kn, sv, h1, h2, h3, h4, h5, h6⟩ := id hR
  have hl64 := hO.few
  have hT := hO.tb
  have hcm := hO.cmds
  have hcf := hO.cf_
  obtain ⟨t, ht⟩ : ∃ t, t = rchT p c l := ⟨_, rfl⟩
  rw [← ht] at hT hcm hcf ⊢
  have hc9 := h1.l
  have hc4 := h1.c4
  obtain ⟨_, al, cl, rfl, _, hcl, _⟩ := id h3
  obtain ⟨_, ab, cb, rfl, _, _, _⟩ := id hb
  have hsz : (cmC x (.slice ab x.bins.length cb)).toArray.size = 10 := rfl
  have hca : ((cmC x (.slice ab x.bins.length cb)).toArray.toList.all fun v => v.oneCell') = true := rfl
  have hlast := hT.last
  refine Fn_enter Tryz.func13 rfl Tryz.ntmps13 rfl fun g => ?_
  have hsubF : ∀ q : Nat × Obj, (rfO rb cs :: F).Sublist (q :: rfO rb cs :: F) := fun q => .cons _ (.refl _)
  repeat (first | refine RQ ?_ | (refine WL_Q ?_; (first | refine QW_of (Qt_ldX rfl (hn := by with_reducible assumption)) ?_)) | (refine RE ?_; try intro _) | refine RC ?_ | refine WG 0 ?_)
  rename_i x4
  by_cases t1 : 64 ≤ l.length
  · have d : decide (((l.length : Nat) : Int) ≥ 64) = true := decide_eq_true (by omega)
    have e : tryF t x floor = 8 := by unfold tryF; rw [hcm, if_pos t1]
    repeat (first | refine RQ ?_ | (refine WL_Q ?_; (first | refine QW_of (Qt_ldX rfl (hn := by with_reducible assumption)) ?_)) | refine RC ?_ | refine WG 1 ?_ | refine WG 2 ?_)
    exact ⟨rfl, _, _, Res1 rfl (resV_tmp rfl), hsubF _, by rw [e], cs, [], rfl, hR⟩
  have d : decide (((l.length : Nat) : Int) ≥ 64) = false := decide_eq_false (by omega)
  by_cases k0 : x.kind < 0
  · have f0 : decide (x.kind < 0) = true := decide_eq_true k0
    have e : tryF t x floor = 6 := by unfold tryF; rw [hcm, if_neg t1, if_pos (by omega)]
    repeat (first | refine RQ ?_ | ((first | refine WL_Q ?_ | refine WL_Y ?_); (first | refine QW_of (Qt_ldX rfl (hn := by with_reducible assumption)) ?_)) | refine RC ?_ | refine WG 1 ?_ | refine WG 3 ?_ | refine WG 4 ?_)
    exact ⟨rfl, _, _, Res1 rfl (resV_tmp rfl), hsubF _, by rw [e], cs, [], rfl, hR⟩
  have f0 : decide (x.kind < 0) = false := decide_eq_false k0
  by_cases k3 : x.kind > 3
  · have f3 : decide (x.kind > 3) = true := decide_eq_true k3
    have e : tryF t x floor = 6 := by unfold tryF; rw [hcm, if_neg t1, if_pos (by omega)]
    repeat (first | refine RQ ?_ | ((first | refine WL_Q ?_ | refine WL_Y ?_); (first | refine QW_of (Qt_ldX rfl (hn := by with_reducible assumption)) ?_)) | refine RC ?_ | refine WG 1 ?_ | refine WG 3 ?_ | refine WG 4 ?_)
    exact ⟨rfl, _, _, Res1 rfl (resV_tmp rfl), hsubF _, by rw [e], cs, [], rfl, hR⟩
  have f3 : decide (x.kind > 3) = false := decide_eq_false k3
  have hkin : 0 ≤ x.kind ∧ x.kind ≤ 3 := by omega
  repeat (first | refine RQ ?_ | ((first | refine WL_Q ?_ | refine WL_Y ?_); (first | refine QW_of (Qt_ldX rfl (hn := by with_reducible assumption)) ?_)) | refine RC ?_ | refine WG 1 ?_ | refine WG 3 ?_ | refine WG 5 ?_)
  refine WC_meet2 (fun σ => σ = ⟨[(7, iV (lastF t)), (6, iV 0), (4, .pointer (some ⟨x4, 0, none⟩)), (0, .pointer (some ⟨rb, 0, none⟩)), (2, iV floor)], [], (x4, Obj.cells (cmC x (.slice ab x.bins.length cb)).toArray 42 (0, 0)) :: rfO rb cs :: F⟩) ?_ ?_
  · by_cases l0 : l.length = 0
    · have g0 : decide (((l.length : Nat) : Int) > 0) = false := decide_eq_false (by omega)
      have e : lastF t = 0 := by unfold lastF; rw [hcm, List.eq_nil_of_length_eq_zero l0]; rfl
      repeat (first | refine RQ ?_ | (refine WL_Q ?_; (first | refine QW_of (Qt_ldX rfl (hn := by with_reducible assumption)) ?_)) | refine RC ?_ | refine WG 6 ?_)
      exact ⟨_, rfl, ⟨by rw [e]; rfl, rfl, rfl, rfl, rfl, trivial⟩, rfl, .refl _⟩
    · have g0 : decide (((l.length : Nat) : Int) > 0) = true := decide_eq_true (by omega)
      obtain ⟨k, hk⟩ : ∃ k, l.length = k + 1 := ⟨l.length - 1, by omega⟩
      obtain ⟨y, hy⟩ : ∃ y, l[k]? = some y := ⟨_, List.getElem?_eq_getElem (by omega)⟩
      have e : lastF t = y.at_ := lastF_snoc (by rw [hcm]; exact hk) (by rw [hcm]; exact hy)
      obtain ⟨lb, lo, lcp, lcs, lE, lfr, li, e2, _, _, hli, hlx⟩ := (h3.mem (G' := (x4, Obj.cells (cmC x (.slice ab x.bins.length cb)).toArray 42 (0, 0)) :: rfO rb cs :: F) fun q hq => .tail _ (.tail _ (hG q hq))).cell (by omega)
      cases e2
      obtain ⟨lx, ⟨bv1, rfl, _⟩, hget⟩ := h4.get hy
      have wl : IntKind.i64.wrap (((l.length : Nat) : Int) - 1) = (k : Int) := by rw [wI64 (by omega) (by omega)]; omega
      have c1 : lcs[lo + (IntKind.i64.wrap (((l.length : Nat) : Int) - 1)).toNat * 10 + 1]? = some (iV y.at_) := by rw [wl, Int.toNat_natCast, Nat.add_assoc]; exact hlx _ _ (by rw [hget 1 (by decide)]; rfl)
      have p0 : (0 : Int) ≤ IntKind.i64.wrap (((l.length : Nat) : Int) - 1) := by rw [wl]; omega
      have p1 : IntKind.i64.wrap (((l.length : Nat) : Int) - 1) < ((l.length : Nat) : Int) := by rw [wl]; omega
      repeat (first | refine RQr ?_ | (refine RX ?_; (first | refine QW_of (Qt_ldX rfl (hn := by with_reducible assumption)) ?_)) | refine RC ?_ | refine RU ?_ | refine WC_draw_all (id := 7) 14 (Cs [0,1,2,3,4,5,6,7,8,9,10,11,12,13] <| .done) mixed (by kernel_rfl) ?_ | refine WG 6 ?_)
      exact ⟨_, rfl, ⟨by rw [e]; rfl, rfl, rfl, rfl, rfl, trivial⟩, rfl, .refl _⟩
  rintro _ rfl
  by_cases a1 : x.at_ ≤ floor
  · have g1 : decide (x.at_ ≤ floor) = true := decide_eq_true a1
    have e : tryF t x floor = 12 := by unfold tryF; rw [hcm, if_neg t1, if_neg (by omega), if_pos (by omega)]
    repeat (first | refine RQ ?_ | ((first | refine WL_Q ?_ | refine WL_Y ?_); (first | refine QW_of (Qt_ldX rfl (hn := by with_reducible assumption)) ?_)) | refine RC ?_ | refine WG 8 ?_ | refine WG 9 ?_)
    exact ⟨rfl, _, _, Res1 rfl (resV_tmp rfl), hsubF _, by rw [e], cs, [], rfl, hR⟩
  have g1 : decide (x.at_ ≤ floor) = false := decide_eq_false a1
  by_cases a2 : x.at_ ≤ lastF t
  · have g2 : decide (x.at_ ≤ lastF t) = true := decide_eq_true a2
    have e : tryF t x floor = 12 := by unfold tryF; rw [hcm, if_neg t1, if_neg (by omega), if_pos (by omega)]
    repeat (first | refine RQ ?_ | ((first | refine WL_Q ?_ | refine WL_Y ?_); (first | refine QW_of (Qt_ldX rfl (hn := by with_reducible assumption)) ?_)) | refine RC ?_ | refine WG 8 ?_ | refine WG 9 ?_)
    exact ⟨rfl, _, _, Res1 rfl (resV_tmp rfl), hsubF _, by rw [e], cs, [], rfl, hR⟩
  have g2 : decide (x.at_ ≤ lastF t) = false := decide_eq_false a2
  by_cases a3 : x.at_ > 1099511627776
  · have g3 : decide (x.at_ > 1099511627776) = true := decide_eq_true a3
    have e : tryF t x floor = 12 := by unfold tryF; rw [hcm, if_neg t1, if_neg (by omega), if_pos (by omega)]
    repeat (first | refine RQ ?_ | ((first | refine WL_Q ?_ | refine WL_Y ?_); (first | refine QW_of (Qt_ldX rfl (hn := by with_reducible assumption)) ?_)) | refine RC ?_ | refine WG 8 ?_ | refine WG 9 ?_)
    exact ⟨rfl, _, _, Res1 rfl (resV_tmp rfl), hsubF _, by rw [e], cs, [], rfl, hR⟩
  have g3 : decide (x.at_ > 1099511627776) = false := decide_eq_false a3
  have htry := tryF_ask (t := t) (c := x) (floor := floor) (by rw [hcm]; exact t1) hkin (by omega)
  have hMr : rfO rb cs ∈ (x4, Obj.cells (cmC x (.slice ab x.bins.length cb)).toArray 42 (0, 0)) :: rfO rb cs :: F := .tail _ (.head _)
  have hMG : ∀ q ∈ G, q ∈ (x4, Obj.cells (cmC x (.slice ab x.bins.length cb)).toArray 42 (0, 0)) :: rfO rb cs :: F := fun q hq => .tail _ (.tail _ (hG q hq))
  repeat (first | refine RQ ?_ | ((first | refine WL_Q ?_ | refine WL_Y ?_); (first | refine QW_of (Qt_ldX rfl (hn := by with_reducible assumption)) ?_)) | ((first | refine WL_op rfl ?_ | refine WL_yes (h := ?_)); (first | (refine OW_call rfl (hF := dActive_fn hR hO hMr hMG) (hk := ?_); rintro v8 _ ⟨T8, rfl, hT8⟩))) | refine RC ?_ | refine WG 8 ?_ | refine WG 10 ?_)
  rw [← ht] at hT8
  refine WC_permT (L' := rfO rb cs :: (T8 ++ ((x4, Obj.cells (cmC x (.slice ab x.bins.length cb)).toArray 42 (0, 0)) :: F))) (perm_y1 ..) ?_
  obtain ⟨F1, hF1⟩ : ∃ F1, F1 = T8 ++ ((x4, Obj.cells (cmC x (.slice ab x.bins.length cb)).toArray 42 (0, 0)) :: F) := ⟨_, rfl⟩
  have hx4 : (x4, Obj.cells (cmC x (.slice ab x.bins.length cb)).toArray 42 (0, 0)) ∈ F1 := by rw [hF1]; exact List.mem_append_right _ (.head _)
  have hFF1 : ∀ q ∈ F, q ∈ F1 := fun q hq => by rw [hF1]; exact List.mem_append_right _ (.tail _ hq)
  have hG1 : ∀ q ∈ G, q ∈ F1 := fun q hq => hFF1 q (hG q hq)
  have hV8 : VecM 1 F1 v8 t.act.length (t.act.map iV) := (Buf.vecM hT8).mem fun q hq => by rw [hF1]; exact List.mem_append_left _ hq
  have hsub1 : F.Sublist F1 := by rw [hF1]; exact (List.Sublist.cons _ (.refl _)).trans (List.sublist_append_right T8 _)
  rw [← hF1]
  obtain ⟨i4, hi4⟩ := List.mem_iff_getElem?.1 hx4
  have hi4' : (rfO rb cs :: F1)[i4 + 1]? = some (x4, Obj.cells (cmC x (.slice ab x.bins.length cb)).toArray 42 (0, 0)) := hi4
  have hend : (rfO rb cs :: F).Sublist (rfO rb cs :: F1) := .cons_cons _ hsub1
  obtain ⟨_, a8, c8, rfl, _, _, _⟩ := id hV8
  have hne := hT.ne
  have hb1 : VecM 1 (rfO rb cs :: F1) (.slice ab x.bins.length cb) x.bins.length (x.bins.map iV) := hb.mem fun q hq => .tail _ (hFF1 q hq)
  have hV8' : VecM 1 (rfO rb cs :: F1) (.slice a8 t.act.length c8) t.act.length (t.act.map iV) := hV8.mem fun q hq => .tail _ hq
  by_cases c0 : x.kind = 0
  · have e0 : (x.kind == 0) = true := by simpa using c0
    rw [if_pos c0] at htry
    unfold moveF at htry
    cases hris : risF (-1) x.bins
    · rw [hris, if_pos rfl] at htry
      have r0 : (!risF (-1) x.bins) = true := by rw [hris]; rfl
      repeat (first | refine RQ ?_ | (refine WL_Q ?_; (first | refine QW_of (Qt_ldX rfl (hn := by with_reducible assumption)) ?_)) | (refine WL_op rfl ?_; (first | refine OW_callP rfl (hF := dRising_fn hb1) (hk := ?_))) | refine RC ?_ | refine WG 11 ?_ | refine WG 13 ?_ | refine WG 14 ?_ | refine WG 15 ?_)
      exact ⟨rfl, _, _, Res1 rfl (resV_tmp rfl), hend, by rw [htry], cs, [], rfl, hR⟩
    have r0 : (!risF (-1) x.bins) = false := by rw [hris]; rfl
    rw [hris, if_neg (by decide)] at htry
    by_cases hin : x.to ∈ t.act
    rotate_left
    · have r1 : (!decide (x.to ∈ t.act)) = true := by rw [decide_eq_false hin]; rfl
      rw [if_pos hin] at htry
      repeat (first | refine RQ ?_ | (refine WL_Q ?_; (first | refine QW_of (Qt_ldX rfl (hn := by with_reducible assumption)) ?_)) | (refine WL_op rfl ?_; (first | refine OW_callP rfl (hF := dhas_fn hV8') (hk := ?_) | refine OW_callP rfl (hF := dRising_fn hb1) (hk := ?_))) | refine RC ?_ | refine WG 11 ?_ | refine WG 13 ?_ | refine WG 14 ?_ | refine WG 16 ?_ | refine WG 17 ?_)
      exact ⟨rfl, _, _, Res1 rfl (resV_tmp rfl), hend, by rw [htry], cs, [], rfl, hR⟩
    have r1 : (!decide (x.to ∈ t.act)) = false := by rw [decide_eq_true hin]; rfl
    rw [if_neg (fun h => h hin)] at htry
    obtain ⟨rp, rin⟩ := risF_all hris
    repeat (first | refine RQ ?_ | (refine WL_Q ?_; (first | refine QW_of (Qt_ldX rfl (hn := by with_reducible assumption)) ?_)) | (refine WL_op rfl ?_; (first | refine OW_callP rfl (hF := dhas_fn hV8') (hk := ?_) | refine OW_callP rfl (hF := dRising_fn hb1) (hk := ?_))) | refine RC ?_ | refine WG 11 ?_ | refine WG 13 ?_ | refine WG 14 ?_ | refine WG 16 ?_ | refine WG 18 ?_)
    refine WC_wk [(9, iV ((0 : Nat) : Int)), (4, .pointer (some ⟨x4, 0, none⟩)), (0, .pointer (some ⟨rb, 0, none⟩))] ⟨rfl, rfl, rfl, trivial⟩ ?_
    refine WC_loop (fun m σ => ∃ (k : Nat) (cs' : Array Value) (X : List (Nat × Obj)), m = x.bins.length - k ∧ k ≤ x.bins.length ∧ RefAt cs' (X ++ G) p c l ∧ (∀ b ∈ x.bins.take k, hasF t.spans b ≠ x.to) ∧ σ = ⟨[(9, iV (k : Int)), (4, .pointer (some ⟨x4, 0, none⟩)), (0, .pointer (some ⟨rb, 0, none⟩))], [], rfO rb cs' :: (X ++ F1)⟩) x.bins.length ⟨0, cs, [], rfl, Nat.zero_le _, hR, by simp, rfl⟩ ?_
    rintro _ σ ⟨k, cs', X, rfl, hk, hR', hno, rfl⟩
    have hi5 : (rfO rb cs' :: (X ++ F1))[X.length + i4 + 1]? = some (x4, Obj.cells (cmC x (.slice ab x.bins.length cb)).toArray 42 (0, 0)) := by
      rw [List.getElem?_cons_succ, List.getElem?_append_right (by omega), Nat.add_sub_cancel_left]; exact hi4
    have hend' : (rfO rb cs' :: (X ++ F)).Sublist (rfO rb cs' :: (X ++ F1)) := .cons_cons _ (List.Sublist.append (.refl _) hsub1)
    by_cases hlt : k < x.bins.length
    rotate_left
    · have d1 : decide ((k : Int) < ((x.bins.length : Nat) : Int)) = false := decide_eq_false (by omega)
      rw [List.take_of_length_le (by omega)] at hno
      rw [if_neg (by rw [List.any_eq_true]; rintro ⟨b, hb, h⟩; exact hno b hb (by simpa using h))] at htry
      repeat (first | refine RQ ?_ | (refine WL_Q ?_; (first | refine QW_of (Qt_ldX rfl (hn := by with_reducible assumption)) ?_)) | refine RC ?_ | refine WG 19 ?_ | refine WG 34 ?_)
      exact ⟨rfl, _, _, Res1 rfl (resV_tmp rfl), hend', by rw [htry], cs', X, rfl, hR'⟩
    have d1 : decide ((k : Int) < ((x.bins.length : Nat) : Int)) = true := decide_eq_true (by omega)
    have p0 : (0 : Int) ≤ (k : Int) := by omega
    have p1 : (k : Int) < ((x.bins.length : Nat) : Int) := by omega
    have w : IntKind.i64.wrap ((k : Int) + 1) = ((k + 1 : Nat) : Int) := by rw [wI64 (by omega) (by omega)]; omega
    obtain ⟨b, hbk⟩ : ∃ b, x.bins[k]? = some b := ⟨_, List.getElem?_eq_getElem hlt⟩
    have hb8 := rin b (List.mem_of_getElem? hbk)
    obtain ⟨bb, bo, bc, bcs, bE, bfr, bi, e, _, _, hbi, hbx⟩ := (hb.mem (G' := rfO rb cs' :: (X ++ F1)) fun q hq => .tail _ (List.mem_append_right _ (hFF1 q hq))).cell (by omega)
    cases e
    have cb1 : bcs[bo + ((k : Nat) : Int).toNat * 1]? = some (iV b) := by rw [Int.toNat_natCast, Nat.mul_one]; exact hbx k _ (by rw [List.getElem?_map, hbk]; rfl)
    have hGX : ∀ q ∈ X ++ G, q ∈ X ++ F1 := fun q hq => by
      rcases List.mem_append.1 hq with h | h
      · exact List.mem_append_left _ h
      · exact List.mem_append_right _ (hG1 q h)
    repeat (first | refine RQ ?_ | (refine WL_Q ?_; (first | refine QW_of (Qt_ldX rfl (hn := by with_reducible assumption)) ?_)) | refine RC ?_ | refine WG 19 ?_ | refine WG 21 ?_)
    refine WL_op rfl (OW_call rfl (hF := dSpans_fn (b := b) hR' hO hGX) (hk := ?_))
    rintro v10 _ ⟨cs2, X2, rfl, hR2, hv10⟩
    have hrow := rowB_in (t := t) hT (b := b) (by omega)
    rw [← ht] at hv10
    obtain ⟨row, hrw⟩ : ∃ row, row = rowB t b := ⟨_, rfl⟩
    rw [← hrw] at hv10 hrow
    have hro := hT.rows row (List.mem_of_getElem? hrow)
    have hsh := hT.short row (List.mem_of_getElem? hrow)
    have hfw := hT.few
    have hrl : 0 < row.length := List.length_pos_iff.2 hro.ne
    obtain ⟨sb, so, sc, scs, sE, sfr, si, rfl, _, _, hsi, hsx⟩ := (hv10.mem (G' := rfO rb cs2 :: (X2 ++ (X ++ F1))) fun q hq => .tail _ (by
      rcases List.mem_append.1 hq with h | h
      · exact List.mem_append_left _ h
      · exact List.mem_append_right _ (hGX q h))).cell (by omega)
    obtain ⟨jl, hjl⟩ : ∃ jl, row.length = jl + 1 := ⟨row.length - 1, by omega⟩
    obtain ⟨ql, hql⟩ : ∃ ql, row[jl]? = some ql := ⟨_, List.getElem?_eq_getElem (by omega)⟩
    have wl : IntKind.i64.wrap (((row.length : Nat) : Int) - 1) = (jl : Int) := by rw [wI64 (by omega) (by omega)]; omega
    have lx0 : scs[so + (IntKind.i64.wrap (((row.length : Nat) : Int) - 1)).toNat * 2 + 1]? = some (iV ql.2) := by rw [wl, Int.toNat_natCast, Nat.add_assoc]; exact hsx _ _ (spL_at hql).2
    have lp0 : (0 : Int) ≤ IntKind.i64.wrap (((row.length : Nat) : Int) - 1) := by rw [wl]; omega
    have lp1 : IntKind.i64.wrap (((row.length : Nat) : Int) - 1) < ((row.length : Nat) : Int) := by rw [wl]; omega
    have hhas : hasF t.spans b = ql.2 := hasF_row hrow hjl hql
    have hi6 : (rfO rb cs2 :: (X2 ++ (X ++ F1)))[X2.length + (X.length + i4) + 1]? = some (x4, Obj.cells (cmC x (.slice (some ⟨bb, bo, none⟩) x.bins.length cb)).toArray 42 (0, 0)) := by
      rw [List.getElem?_cons_succ, List.getElem?_append_right (by omega), Nat.add_sub_cancel_left, List.getElem?_append_right (by omega), Nat.add_sub_cancel_left]; exact hi4
    have hend2 : (rfO rb cs2 :: ((X2 ++ X) ++ F)).Sublist (rfO rb cs2 :: (X2 ++ (X ++ F1))) := by
      rw [List.append_assoc]
      exact .cons_cons _ (List.Sublist.append (.refl _) (List.Sublist.append (.refl _) hsub1))
    have hR2' : RefAt cs2 ((X2 ++ X) ++ G) p c l := by rw [List.append_assoc]; exact hR2
    cases hq : (ql.2 == x.to)
    · repeat (first | refine RQr ?_ | (refine RX ?_; (first | refine QW_of (Qt_ldX rfl (hn := by with_reducible assumption)) ?_)) | refine RC ?_ | refine RU ?_ | refine WC_draw_all (id := 22) 10 (Cs [0,1,2,3,4,5,6,7,8,9] <| .done) mixed (by kernel_rfl) ?_ | refine WG 21 ?_ | refine WG 20 ?_)
      rw [w, show X2 ++ (X ++ F1) = (X2 ++ X) ++ F1 from (List.append_assoc ..).symm]
      refine ⟨_, _, by omega, ⟨k + 1, cs2, X2 ++ X, rfl, by omega, hR2', fun b' hb' => ?_, rfl⟩, ⟨rfl, rfl, rfl, trivial⟩, rfl, .refl _⟩
      rw [List.take_add_one, hbk, List.mem_append] at hb'
      rcases hb' with h | h
      · exact hno b' h
      · obtain rfl : b' = b := by simpa using h
        rw [hhas]
        simpa using hq
    · rw [if_pos (List.any_eq_true.2 ⟨b, List.mem_of_getElem? hbk, by rw [hhas]; exact hq⟩)] at htry
      repeat (first | refine RQr ?_ | (refine RX ?_; (first | refine QW_of (Qt_ldX rfl (hn := by with_reducible assumption)) ?_)) | refine RC ?_ | refine RU ?_ | refine WC_draw_all (id := 22) 10 (Cs [0,1,2,3,4,5,6,7,8,9] <| .done) mixed (by kernel_rfl) ?_ | refine WG 21 ?_ | refine WG 23 ?_)
      exact ⟨rfl, _, _, Res1 rfl (resV_tmp rfl), hend2, by rw [htry], cs2, X2 ++ X, rfl, hR2'⟩
  have e0 : (x.kind == 0) = false := by simpa using c0
  rw [if_neg c0] at htry
  by_cases c1 : x.kind = 1
  · have e1 : (x.kind == 1) = true := by simpa using c1
    rw [if_pos c1] at htry
    unfold joinF at htry
    have hwk : t.wk = c.1 := by show t.cf.1 = c.1; rw [hcf]
    rw [hwk] at htry
    by_cases w1 : x.to < 1
    · have r0 : decide (x.to < 1) = true := decide_eq_true w1
      rw [if_pos (by omega)] at htry
      repeat (first | refine RQr ?_ | ((first | refine WL_Q ?_ | refine WL_Y ?_ | refine WR_Q rfl ?_ | refine WR_late rfl rfl rfl (OW_Q ?_) | refine WR_Y rfl ?_); (first | refine QW_of (Qt_ldX rfl (hn := by with_reducible assumption)) ?_)) | refine RC ?_ | refine RU ?_ | refine WC_draw_all (id := 25) 13 (Cs [0,1,2,3,4,5,6,7,8,9,10,11,12] <| .done) mixed (by kernel_rfl) ?_ | refine WG 11 ?_ | refine WG 13 ?_ | refine WG 24 ?_ | refine WG 26 ?_)
      exact ⟨rfl, _, _, Res1 rfl (resV_tmp rfl), hend, by rw [htry], cs, [], rfl, hR⟩
    have r0 : decide (x.to < 1) = false := decide_eq_false w1
    by_cases w2 : x.to > c.1
    · have r1 : decide (x.to > c.1) = true := decide_eq_true w2
      rw [if_pos (by omega)] at htry
      repeat (first | refine RQr ?_ | ((first | refine WL_Q ?_ | refine WL_Y ?_ | refine WR_Q rfl ?_ | refine WR_late rfl rfl rfl (OW_Q ?_) | refine WR_Y rfl ?_); (first | refine QW_of (Qt_ldX rfl (hn := by with_reducible assumption)) ?_)) | refine RC ?_ | refine RU ?_ | refine WC_draw_all (id := 25) 13 (Cs [0,1,2,3,4,5,6,7,8,9,10,11,12] <| .done) mixed (by kernel_rfl) ?_ | refine WG 11 ?_ | refine WG 13 ?_ | refine WG 24 ?_ | refine WG 26 ?_)
      exact ⟨rfl, _, _, Res1 rfl (resV_tmp rfl), hend, by rw [htry], cs, [], rfl, hR⟩
    have r1 : decide (x.to > c.1) = false := decide_eq_false w2
    rw [if_neg (by omega)] at htry
    by_cases hin : x.to ∈ t.act
    · have r2 : decide (x.to ∈ t.act) = true := decide_eq_true hin
      rw [if_pos hin] at htry
      repeat (first | refine RQr ?_ | ((first | refine WL_Q ?_ | refine WL_Y ?_ | refine WR_Q rfl ?_ | refine WR_late rfl rfl rfl (OW_Q ?_) | refine WR_Y rfl ?_); (first | refine QW_of (Qt_ldX rfl (hn := by with_reducible assumption)) ?_)) | ((first | refine WL_op rfl ?_ | refine WL_yes (h := ?_) | refine WR_late rfl rfl rfl ?_ | refine WR_opG rfl rfl ?_ | refine WR_opYG rfl (h := ?_)); (first | refine OW_callP rfl (hF := dhas_fn hV8') (hk := ?_)); try refine SD ?_) | refine RC ?_ | refine RU ?_ | refine WC_draw_all (id := 25) 13 (Cs [0,1,2,3,4,5,6,7,8,9,10,11,12] <| .done) mixed (by kernel_rfl) ?_ | refine WG 11 ?_ | refine WG 13 ?_ | refine WG 24 ?_ | refine WG 27 ?_ | refine WG 28 ?_)
      exact ⟨rfl, _, _, Res1 rfl (resV_tmp rfl), hend, by rw [htry], cs, [], rfl, hR⟩
    · have r2 : decide (x.to ∈ t.act) = false := decide_eq_false hin
      rw [if_neg hin] at htry
      repeat (first | refine RQr ?_ | ((first | refine WL_Q ?_ | refine WL_Y ?_ | refine WR_Q rfl ?_ | refine WR_late rfl rfl rfl (OW_Q ?_) | refine WR_Y rfl ?_); (first | refine QW_of (Qt_ldX rfl (hn := by with_reducible assumption)) ?_)) | ((first | refine WL_op rfl ?_ | refine WL_yes (h := ?_) | refine WR_late rfl rfl rfl ?_ | refine WR_opG rfl rfl ?_ | refine WR_opYG rfl (h := ?_)); (first | refine OW_callP rfl (hF := dhas_fn hV8') (hk := ?_)); try refine SD ?_) | refine RC ?_ | refine RU ?_ | refine WC_draw_all (id := 25) 13 (Cs [0,1,2,3,4,5,6,7,8,9,10,11,12] <| .done) mixed (by kernel_rfl) ?_ | refine WG 11 ?_ | refine WG 13 ?_ | refine WG 24 ?_ | refine WG 27 ?_ | refine WG 34 ?_)
      exact ⟨rfl, _, _, Res1 rfl (resV_tmp rfl), hend, by rw [htry], cs, [], rfl, hR⟩
  have e1 : (x.kind == 1) = false := by simpa using c1
  rw [if_neg c1] at htry
  by_cases c2 : x.kind = 2
  · have e2 : (x.kind == 2) = true := by simpa using c2
    rw [if_pos c2] at htry
    unfold leaveF at htry
    by_cases hin : x.to ∈ t.act
    rotate_left
    · have r1 : (!decide (x.to ∈ t.act)) = true := by rw [decide_eq_false hin]; rfl
      rw [if_pos hin] at htry
      repeat (first | refine RQ ?_ | (refine WL_Q ?_; (first | refine QW_of (Qt_ldX rfl (hn := by with_reducible assumption)) ?_)) | (refine WL_op rfl ?_; (first | refine OW_callP rfl (hF := dhas_fn hV8') (hk := ?_))) | refine RC ?_ | refine WG 11 ?_ | refine WG 13 ?_ | refine WG 24 ?_ | refine WG 29 ?_ | refine WG 30 ?_ | refine WG 31 ?_)
      exact ⟨rfl, _, _, Res1 rfl (resV_tmp rfl), hend, by rw [htry], cs, [], rfl, hR⟩
    have r1 : (!decide (x.to ∈ t.act)) = false := by rw [decide_eq_true hin]; rfl
    rw [if_neg (fun h => h hin)] at htry
    have hal := List.length_pos_iff.2 hne
    by_cases hl1 : t.act.length ≤ 1
    · have r2 : (((t.act.length : Nat) : Int) == 1) = true := by rw [beq_iff_eq]; omega
      rw [if_pos hl1] at htry
      repeat (first | refine RQ ?_ | (refine WL_Q ?_; (first | refine QW_of (Qt_ldX rfl (hn := by with_reducible assumption)) ?_)) | (refine WL_op rfl ?_; (first | refine OW_callP rfl (hF := dhas_fn hV8') (hk := ?_))) | refine RC ?_ | refine WG 11 ?_ | refine WG 13 ?_ | refine WG 24 ?_ | refine WG 29 ?_ | refine WG 30 ?_ | refine WG 32 ?_ | refine WG 33 ?_)
      exact ⟨rfl, _, _, Res1 rfl (resV_tmp rfl), hend, by rw [htry], cs, [], rfl, hR⟩
    · have r2 : (((t.act.length : Nat) : Int) == 1) = false := by rw [beq_eq_false_iff_ne]; omega
      rw [if_neg hl1] at htry
      repeat (first | refine RQ ?_ | (refine WL_Q ?_; (first | refine QW_of (Qt_ldX rfl (hn := by with_reducible assumption)) ?_)) | (refine WL_op rfl ?_; (first | refine OW_callP rfl (hF := dhas_fn hV8') (hk := ?_))) | refine RC ?_ | refine WG 11 ?_ | refine WG 13 ?_ | refine WG 24 ?_ | refine WG 29 ?_ | refine WG 30 ?_ | refine WG 32 ?_ | refine WG 34 ?_)
      exact ⟨rfl, _, _, Res1 rfl (resV_tmp rfl), hend, by rw [htry], cs, [], rfl, hR⟩
  have e2 : (x.kind == 2) = false := by simpa using c2
  rw [if_neg c2] at htry
  repeat (first | refine RQ ?_ | (refine WL_Q ?_; (first | refine QW_of (Qt_ldX rfl (hn := by with_reducible assumption)) ?_)) | (refine WL_op rfl ?_; (first | (refine OW_call rfl (hF := dReplace_fn hR hO (.head _) (fun q hq => .tail _ (hG1 q hq))) (hk := ?_); rintro _ _ ⟨X, rfl, rfl⟩))) | refine RC ?_ | refine WG 11 ?_ | refine WG 13 ?_ | refine WG 24 ?_ | refine WG 29 ?_ | refine WG 12 ?_)
  refine ⟨rfl, _, _, Res1 rfl (resV_tmp rfl), hend.trans (List.sublist_append_right X _), ?_, cs, [], rfl, hR⟩
  rw [htry, ht]
end Go.Proofs.YtncgndcepoicbaaGreat
