/-
  A part of what the last of these texts needs; by itself it proves no statement.
-/
import Derived.Test.YtncgndcepoicbaaGreatKT73
namespace Go.Proofs.YtncgndcepoicbaaGreat
open Go.RowKit
theorem perm_y1 {α : Type} (x r : α) (T F : List α) : (r :: (T ++ (x :: F))).Perm (T ++ (x :: r :: F)) := by
  classical
  rw [List.perm_iff_count]
  intro z
  simp only [List.count_append, List.count_cons]
  omega
attribute [local irreducible] Fn WC WL WR OW Qt YieldFn QW FnP FnD FnE
set_option maxHeartbeats 16000000 in
theorem dTry_fn {rb : Nat} {x : CmV} {bv : Value} {floor : Int} {cs : Array Value} {p : PlV} {c : CfV} {l : List CmV} {G F : List (Nat × Obj)} (hR : RefAt cs G p c l) (hO : RfOk p c l) (hG : ∀ q ∈ G, q ∈ F) (hb : VecM 1 F bv x.bins.length (x.bins.map iV)) (hB : x.bins.length ≤ 1000) : Fn Tryz.prog 13 [.pointer (some ⟨rb, 0, none⟩), .agg (cmC x bv).toArray, iV floor] (rfO rb cs :: F) (fun v L' => v = iV (tryF (rchT p c l) x floor) ∧ ∃ cs' X, L' = rfO rb cs' :: (X ++ F) ∧ RefAt cs' (X ++ G) p c l) := by
  obtain ⟨pv, lv, lc, kn, sv, h1, h2, h3, h4, h5, h6⟩ := id hR
  have hl64 := hO.few
  have hT := hO.tb
  have hcm := hO.cmds
  have hcf := hO.cf_
  obtain ⟨t, ht⟩ : ∃ t, t = rchT p c l := ⟨_, rfl⟩
  rw [← ht] at hT hcm hcf ⊢
  have hc9 := h1.l
  have hc4 := h1.c4
  obtain ⟨_, al, cl, rfl, _, hcl, _⟩ := id h3
  obtain ⟨_, ab, cb, rfl, _, _, _⟩ := id hb
  have hsz : (cmC x (.slice ab x.bins.length cb)).toArray.size = 10 := rfl
  have hca : ((cmC x (.slice ab x.bins.length cb)).toArray.toList.all fun v => v.oneCell') = true := rfl
  have hlast := hT.last
  refine Fn_enter Tryz.func13 rfl Tryz.ntmps13 rfl fun g => ?_
  have hsubF : ∀ q : Nat × Obj, (rfO rb cs :: F).Sublist (q :: rfO rb cs :: F) := fun q => .cons _ (.refl _)
  repeat (first | refine RQ ?_ | (refine WL_Q ?_; (first | refine QW_of (Qt_ldX rfl (hn := by with_reducible assumption)) ?_)) | (refine RE ?_; try intro _) | refine RC ?_ | refine WG 0 ?_)
  rename_i x4
  by_cases t1 : 64 ≤ l.length
  · have d : decide (((l.length : Nat) : Int) ≥ 64) = true := decide_eq_true (by omega)
    have e : tryF t x floor = 8 := by unfold tryF; rw [hcm, if_pos t1]
    repeat (first | refine RQ ?_ | (refine WL_Q ?_; (first | refine QW_of (Qt_ldX rfl (hn := by with_reducible assumption)) ?_)) | refine RC ?_ | refine WG 1 ?_ | refine WG 2 ?_)
    exact ⟨rfl, _, _, Res1 rfl (resV_tmp rfl), hsubF _, by rw [e], cs, [], rfl, hR⟩
  have d : decide (((l.length : Nat) : Int) ≥ 64) = false := decide_eq_false (by omega)
  by_cases k0 : x.kind < 0
  · have f0 : decide (x.kind < 0) = true := decide_eq_true k0
    have e : tryF t x floor = 6 := by unfold tryF; rw [hcm, if_neg t1, if_pos (by omega)]
    repeat (first | refine RQ ?_ | ((first | refine WL_Q ?_ | refine WL_Y ?_); (first | refine QW_of (Qt_ldX rfl (hn := by with_reducible assumption)) ?_)) | refine RC ?_ | refine WG 1 ?_ | refine WG 3 ?_ | refine WG 4 ?_)
    exact ⟨rfl, _, _, Res1 rfl (resV_tmp rfl), hsubF _, by rw [e], cs, [], rfl, hR⟩
  have f0 : decide (x.kind < 0) = false := decide_eq_false k0
  by_cases k3 : x.kind > 3
  · have f3 : decide (x.kind > 3) = true := decide_eq_true k3
    have e : tryF t x floor = 6 := by unfold tryF; rw [hcm, if_neg t1, if_pos (by omega)]
    repeat (first | refine RQ ?_ | ((first | refine WL_Q ?_ | refine WL_Y ?_); (first | refine QW_of (Qt_ldX rfl (hn := by with_reducible assumption)) ?_)) | refine RC ?_ | refine WG 1 ?_ | refine WG 3 ?_ | refine WG 4 ?_)
    exact ⟨rfl, _, _, Res1 rfl (resV_tmp rfl), hsubF _, by rw [e], cs, [], rfl, hR⟩
  have f3 : decide (x.kind > 3) = false := decide_eq_false k3
  have hkin : 0 ≤ x.kind ∧ x.kind ≤ 3 := by omega
  repeat (first | refine RQ ?_ | ((first | refine WL_Q ?_ | refine WL_Y ?_); (first | refine QW_of (Qt_ldX rfl (hn := by with_reducible assumption)) ?_)) | refine RC ?_ | refine WG 1 ?_ | refine WG 3 ?_ | refine WG 5 ?_)
  refine WC_meet2 (fun σ => σ = ⟨[(7, iV (lastF t)), (6, iV 0), (4, .pointer (some ⟨x4, 0, none⟩)), (0, .pointer (some ⟨rb, 0, none⟩)), (2, iV floor)], [], (x4, Obj.cells (cmC x (.slice ab x.bins.length cb)).toArray 42 (0, 0)) :: rfO rb cs :: F⟩) ?_ ?_
  · by_cases l0 : l.length = 0
    · have g0 : decide (((l.length : Nat) : Int) > 0) = false := decide_eq_false (by omega)
      have e : lastF t = 0 := by unfold lastF; rw [hcm, List.eq_nil_of_length_eq_zero l0]; rfl
      repeat (first | refine RQ ?_ | (refine WL_Q ?_; (first | refine QW_of (Qt_ldX rfl (hn := by with_reducible assumption)) ?_)) | refine RC ?_ | refine WG 6 ?_)
      exact ⟨_, rfl, ⟨by rw [e]; rfl, rfl, rfl, rfl, rfl, trivial⟩, rfl, .refl _⟩
    · have g0 : decide (((l.length : Nat) : Int) > 0) = true := decide_eq_true (by omega)
      obtain ⟨k, hk⟩ : ∃ k, l.length = k + 1 := ⟨l.length - 1, by omega⟩
      obtain ⟨y, hy⟩ : ∃ y, l[k]? = some y := ⟨_, List.getElem?_eq_getElem (by omega)⟩
      have e : lastF t = y.at_ := lastF_snoc (by rw [hcm]; exact hk) (by rw [hcm]; exact hy)
      obtain ⟨lb, lo, lcp, lcs, lE, lfr, li, e2, _, _, hli, hlx⟩ := (h3.mem (G' := (x4, Obj.cells (cmC x (.slice ab x.bins.length cb)).toArray 42 (0, 0)) :: rfO rb cs :: F) fun q hq => .tail _ (.tail _ (hG q hq))).cell (by omega)
      cases e2
      obtain ⟨lx, ⟨bv1, rfl, _⟩, hget⟩ := h4.get hy
      have wl : IntKind.i64.wrap (((l.length : Nat) : Int) - 1) = (k : Int) := by rw [wI64 (by omega) (by omega)]; omega
      have c1 : lcs[lo + (IntKind.i64.wrap (((l.length : Nat) : Int) - 1)).toNat * 10 + 1]? = some (iV y.at_) := by rw [wl, Int.toNat_natCast, Nat.add_assoc]; exact hlx _ _ (by rw [hget 1 (by decide)]; rfl)
      have p0 : (0 : Int) ≤ IntKind.i64.wrap (((l.length : Nat) : Int) - 1) := by rw [wl]; omega
      have p1 : IntKind.i64.wrap (((l.length : Nat) : Int) - 1) < ((l.length : Nat) : Int) := by rw [wl]; omega
      repeat (first | refine RQr ?_ | (refine RX ?_; (first | refine QW_of (Qt_ldX rfl (hn := by with_reducible assumption)) ?_)) | refine RC ?_ | refine RU ?_ | refine WC_draw_all (id := 7) 14 (Cs [0,1,2,3,4,5,6,7,8,9,10,11,12,13] <| .done) mixed (by kernel_rfl) ?_ | refine WG 6 ?_)
      exact ⟨_, rfl, ⟨by rw [e]; rfl, rfl, rfl, rfl, rfl, trivial⟩, rfl, .refl _⟩
  rintro _ rfl
  by_cases a1 : x.at_ ≤ floor
  · have g1 : decide (x.at_ ≤ floor) = true := decide_eq_true a1
    have e : tryF t x floor = 12 := by unfold tryF; rw [hcm, if_neg t1, if_neg (by omega), if_pos (by omega)]
    repeat (first | refine RQ ?_ | ((first | refine WL_Q ?_ | refine WL_Y ?_); (first | refine QW_of (Qt_ldX rfl (hn := by with_reducible assumption)) ?_)) | refine RC ?_ | refine WG 8 ?_ | refine WG 9 ?_)
    exact ⟨rfl, _, _, Res1 rfl (resV_tmp rfl), hsubF _, by rw [e], cs, [], rfl, hR⟩
  have g1 : decide (x.at_ ≤ floor) = false := decide_eq_false a1
  by_cases a2 : x.at_ ≤ lastF t
  · have g2 : decide (x.at_ ≤ lastF t) = true := decide_eq_true a2
    have e : tryF t x floor = 12 := by unfold tryF; rw [hcm, if_neg t1, if_neg (by omega), if_pos (by omega)]
    repeat (first | refine RQ ?_ | ((first | refine WL_Q ?_ | refine WL_Y ?_); (first | refine QW_of (Qt_ldX rfl (hn := by with_reducible assumption)) ?_)) | refine RC ?_ | refine WG 8 ?_ | refine WG 9 ?_)
    exact ⟨rfl, _, _, Res1 rfl (resV_tmp rfl), hsubF _, by rw [e], cs, [], rfl, hR⟩
  have g2 : decide (x.at_ ≤ lastF t) = false := decide_eq_false a2
  by_cases a3 : x.at_ > 1099511627776
  · have g3 : decide (x.at_ > 1099511627776) = true := decide_eq_true a3
    have e : tryF t x floor = 12 := by unfold tryF; rw [hcm, if_neg t1, if_neg (by omega), if_pos (by omega)]
    repeat (first | refine RQ ?_ | ((first | refine WL_Q ?_ | refine WL_Y ?_); (first | refine QW_of (Qt_ldX rfl (hn := by with_reducible assumption)) ?_)) | refine RC ?_ | refine WG 8 ?_ | refine WG 9 ?_)
    exact ⟨rfl, _, _, Res1 rfl (resV_tmp rfl), hsubF _, by rw [e], cs, [], rfl, hR⟩
  have g3 : decide (x.at_ > 1099511627776) = false := decide_eq_false a3
  have htry := tryF_ask (t := t) (c := x) (floor := floor) (by rw [hcm]; exact t1) hkin (by omega)
  have hMr : rfO rb cs ∈ (x4, Obj.cells (cmC x (.slice ab x.bins.length cb)).toArray 42 (0, 0)) :: rfO rb cs :: F := .tail _ (.head _)
  have hMG : ∀ q ∈ G, q ∈ (x4, Obj.cells (cmC x (.slice ab x.bins.length cb)).toArray 42 (0, 0)) :: rfO rb cs :: F := fun q hq => .tail _ (.tail _ (hG q hq))
  repeat (first | refine RQ ?_ | ((first | refine WL_Q ?_ | refine WL_Y ?_); (first | refine QW_of (Qt_ldX rfl (hn := by with_reducible assumption)) ?_)) | ((first | refine WL_op rfl ?_ | refine WL_yes (h := ?_)); (first | (refine OW_call rfl (hF := dActive_fn hR hO hMr hMG) (hk := ?_); rintro v8 _ ⟨T8, rfl, hT8⟩))) | refine RC ?_ | refine WG 8 ?_ | refine WG 10 ?_)
  rw [← ht] at hT8
  refine WC_permT (L' := rfO rb cs :: (T8 ++ ((x4, Obj.cells (cmC x (.slice ab x.bins.length cb)).toArray 42 (0, 0)) :: F))) (perm_y1 ..) ?_
  obtain ⟨F1, hF1⟩ : ∃ F1, F1 = T8 ++ ((x4, Obj.cells (cmC x (.slice ab x.bins.length cb)).toArray 42 (0, 0)) :: F) := ⟨_, rfl⟩
  have hx4 : (x4, Obj.cells (cmC x (.slice ab x.bins.length cb)).toArray 42 (0, 0)) ∈ F1 := by rw [hF1]; exact List.mem_append_right _ (.head _)
  have hFF1 : ∀ q ∈ F, q ∈ F1 := fun q hq => by rw [hF1]; exact List.mem_append_right _ (.tail _ hq)
  have hG1 : ∀ q ∈ G, q ∈ F1 := fun q hq => hFF1 q (hG q hq)
  have hV8 : VecM 1 F1 v8 t.act.length (t.act.map iV) := (Buf.vecM hT8).mem fun q hq => by rw [hF1]; exact List.mem_append_left _ hq
  have hsub1 : F.Sublist F1 := by rw [hF1]; exact (List.Sublist.cons _ (.refl _)).trans (List.sublist_append_right T8 _)
  rw [← hF1]
  obtain ⟨i4, hi4⟩ := List.mem_iff_getElem?.1 hx4
  have hi4' : (rfO rb cs :: F1)[i4 + 1]? = some (x4, Obj.cells (cmC x (.slice ab x.bins.length cb)).toArray 42 (0, 0)) := hi4
  have hend : (rfO rb cs :: F).Sublist (rfO rb cs :: F1) := .cons_cons _ hsub1
  obtain ⟨_, a8, c8, rfl, _, _, _⟩ := id hV8
  have hne := hT.ne
  have hb1 : VecM 1 (rfO rb cs :: F1) (.slice ab x.bins.length cb) x.bins.length (x.bins.map iV) := hb.mem fun q hq => .tail _ (hFF1 q hq)
  have hV8' : VecM 1 (rfO rb cs :: F1) (.slice a8 t.act.length c8) t.act.length (t.act.map iV) := hV8.mem fun q hq => .tail _ hq
  by_cases c0 : x.kind = 0
  · have e0 : (x.kind == 0) = true := by simpa using c0
    rw [if_pos c0] at htry
    unfold moveF at htry
    cases hris : risF (-1) x.bins
    · rw [hris, if_pos rfl] at htry
      have r0 : (!risF (-1) x.bins) = true := by rw [hris]; rfl
      repeat (first | refine RQ ?_ | (refine WL_Q ?_; (first | refine QW_of (Qt_ldX rfl (hn := by with_reducible assumption)) ?_)) | (refine WL_op rfl ?_; (first | refine OW_callP rfl (hF := dRising_fn hb1) (hk := ?_))) | refine RC ?_ | refine WG 11 ?_ | refine WG 13 ?_ | refine WG 14 ?_ | refine WG 15 ?_)
      exact ⟨rfl, _, _, Res1 rfl (resV_tmp rfl), hend, by rw [htry], cs, [], rfl, hR⟩
    have r0 : (!risF (-1) x.bins) = false := by rw [hris]; rfl
    rw [hris, if_neg (by decide)] at htry
    by_cases hin : x.to ∈ t.act
    rotate_left
    · have r1 : (!decide (x.to ∈ t.act)) = true := by rw [decide_eq_false hin]; rfl
      rw [if_pos hin] at htry
      repeat (first | refine RQ ?_ | (refine WL_Q ?_; (first | refine QW_of (Qt_ldX rfl (hn := by with_reducible assumption)) ?_)) | (refine WL_op rfl ?_; (first | refine OW_callP rfl (hF := dhas_fn hV8') (hk := ?_) | refine OW_callP rfl (hF := dRising_fn hb1) (hk := ?_))) | refine RC ?_ | refine WG 11 ?_ | refine WG 13 ?_ | refine WG 14 ?_ | refine WG 16 ?_ | refine WG 17 ?_)
      exact ⟨rfl, _, _, Res1 rfl (resV_tmp rfl), hend, by rw [htry], cs, [], rfl, hR⟩
    have r1 : (!decide (x.to ∈ t.act)) = false := by rw [decide_eq_true hin]; rfl
    rw [if_neg (fun h => h hin)] at htry
    obtain ⟨rp, rin⟩ := risF_all hris
    repeat (first | refine RQ ?_ | (refine WL_Q ?_; (first | refine QW_of (Qt_ldX rfl (hn := by with_reducible assumption)) ?_)) | (refine WL_op rfl ?_; (first | refine OW_callP rfl (hF := dhas_fn hV8') (hk := ?_) | refine OW_callP rfl (hF := dRising_fn hb1) (hk := ?_))) | refine RC ?_ | refine WG 11 ?_ | refine WG 13 ?_ | refine WG 14 ?_ | refine WG 16 ?_ | refine WG 18 ?_)
    refine WC_wk [(9, iV ((0 : Nat) : Int)), (4, .pointer (some ⟨x4, 0, none⟩)), (0, .pointer (some ⟨rb, 0, none⟩))] ⟨rfl, rfl, rfl, trivial⟩ ?_
    refine WC_loop (fun m σ => ∃ (k : Nat) (cs' : Array Value) (X : List (Nat × Obj)), m = x.bins.length - k ∧ k ≤ x.bins.length ∧ RefAt cs' (X ++ G) p c l ∧ (∀ b ∈ x.bins.take k, hasF t.spans b ≠ x.to) ∧ σ = ⟨[(9, iV (k : Int)), (4, .pointer (some ⟨x4, 0, none⟩)), (0, .pointer (some ⟨rb, 0, none⟩))], [], rfO rb cs' :: (X ++ F1)⟩) x.bins.length ⟨0, cs, [], rfl, Nat.zero_le _, hR, by simp, rfl⟩ ?_
    rintro _ σ ⟨k, cs', X, rfl, hk, hR', hno, rfl⟩
    have hi5 : (rfO rb cs' :: (X ++ F1))[X.length + i4 + 1]? = some (x4, Obj.cells (cmC x (.slice ab x.bins.length cb)).toArray 42 (0, 0)) := by
      rw [List.getElem?_cons_succ, List.getElem?_append_right (by omega), Nat.add_sub_cancel_left]; exact hi4
    have hend' : (rfO rb cs' :: (X ++ F)).Sublist (rfO rb cs' :: (X ++ F1)) := .cons_cons _ (List.Sublist.append (.refl _) hsub1)
    by_cases hlt : k < x.bins.length
    rotate_left
    · have d1 : decide ((k : Int) < ((x.bins.length : Nat) : Int)) = false := decide_eq_false (by omega)
      rw [List.take_of_length_le (by omega)] at hno
      rw [if_neg (by rw [List.any_eq_true]; rintro ⟨b, hb, h⟩; exact hno b hb (by simpa using h))] at htry
      repeat (first | refine RQ ?_ | (refine WL_Q ?_; (first | refine QW_of (Qt_ldX rfl (hn := by with_reducible assumption)) ?_)) | refine RC ?_ | refine WG 19 ?_ | refine WG 34 ?_)
      exact ⟨rfl, _, _, Res1 rfl (resV_tmp rfl), hend', by rw [htry], cs', X, rfl, hR'⟩
    have d1 : decide ((k : Int) < ((x.bins.length : Nat) : Int)) = true := decide_eq_true (by omega)
    have p0 : (0 : Int) ≤ (k : Int) := by omega
    have p1 : (k : Int) < ((x.bins.length : Nat) : Int) := by omega
    have w : IntKind.i64.wrap ((k : Int) + 1) = ((k + 1 : Nat) : Int) := by rw [wI64 (by omega) (by omega)]; omega
    obtain ⟨b, hbk⟩ : ∃ b, x.bins[k]? = some b := ⟨_, List.getElem?_eq_getElem hlt⟩
    have hb8 := rin b (List.mem_of_getElem? hbk)
    obtain ⟨bb, bo, bc, bcs, bE, bfr, bi, e, _, _, hbi, hbx⟩ := (hb.mem (G' := rfO rb cs' :: (X ++ F1)) fun q hq => .tail _ (List.mem_append_right _ (hFF1 q hq))).cell (by omega)
    cases e
    have cb1 : bcs[bo + ((k : Nat) : Int).toNat * 1]? = some (iV b) := by rw [Int.toNat_natCast, Nat.mul_one]; exact hbx k _ (by rw [List.getElem?_map, hbk]; rfl)
    have hGX : ∀ q ∈ X ++ G, q ∈ X ++ F1 := fun q hq => by
      rcases List.mem_append.1 hq with h | h
      · exact List.mem_append_left _ h
      · exact List.mem_append_right _ (hG1 q h)
    repeat (first | refine RQ ?_ | (refine WL_Q ?_; (first | refine QW_of (Qt_ldX rfl (hn := by with_reducible assumption)) ?_)) | refine RC ?_ | refine WG 19 ?_ | refine WG 21 ?_)
    refine WL_op rfl (OW_call rfl (hF := dSpans_fn (b := b) hR' hO hGX) (hk := ?_))
    rintro v10 _ ⟨cs2, X2, rfl, hR2, hv10⟩
    have hrow := rowB_in (t := t) hT (b := b) (by omega)
    rw [← ht] at hv10
    obtain ⟨row, hrw⟩ : ∃ row, row = rowB t b := ⟨_, rfl⟩
    rw [← hrw] at hv10 hrow
    have hro := hT.rows row (List.mem_of_getElem? hrow)
    have hsh := hT.short row (List.mem_of_getElem? hrow)
    have hfw := hT.few
    have hrl : 0 < row.length := List.length_pos_iff.2 hro.ne
    obtain ⟨sb, so, sc, scs, sE, sfr, si, rfl, _, _, hsi, hsx⟩ := (hv10.mem (G' := rfO rb cs2 :: (X2 ++ (X ++ F1))) fun q hq => .tail _ (by
      rcases List.mem_append.1 hq with h | h
      · exact List.mem_append_left _ h
      · exact List.mem_append_right _ (hGX q h))).cell (by omega)
    obtain ⟨jl, hjl⟩ : ∃ jl, row.length = jl + 1 := ⟨row.length - 1, by omega⟩
    obtain ⟨ql, hql⟩ : ∃ ql, row[jl]? = some ql := ⟨_, List.getElem?_eq_getElem (by omega)⟩
    have wl : IntKind.i64.wrap (((row.length : Nat) : Int) - 1) = (jl : Int) := by rw [wI64 (by omega) (by omega)]; omega
    have lx0 : scs[so + (IntKind.i64.wrap (((row.length : Nat) : Int) - 1)).toNat * 2 + 1]? = some (iV ql.2) := by rw [wl, Int.toNat_natCast, Nat.add_assoc]; exact hsx _ _ (spL_at hql).2
    have lp0 : (0 : Int) ≤ IntKind.i64.wrap (((row.length : Nat) : Int) - 1) := by rw [wl]; omega
    have lp1 : IntKind.i64.wrap (((row.length : Nat) : Int) - 1) < ((row.length : Nat) : Int) := by rw [wl]; omega
    have hhas : hasF t.spans b = ql.2 := hasF_row hrow hjl hql
    have hi6 : (rfO rb cs2 :: (X2 ++ (X ++ F1)))[X2.length + (X.length + i4) + 1]? = some (x4, Obj.cells (cmC x (.slice (some ⟨bb, bo, none⟩) x.bins.length cb)).toArray 42 (0, 0)) := by
      rw [List.getElem?_cons_succ, List.getElem?_append_right (by omega), Nat.add_sub_cancel_left, List.getElem?_append_right (by omega), Nat.add_sub_cancel_left]; exact hi4
    have hend2 : (rfO rb cs2 :: ((X2 ++ X) ++ F)).Sublist (rfO rb cs2 :: (X2 ++ (X ++ F1))) := by
      rw [List.append_assoc]
      exact .cons_cons _ (List.Sublist.append (.refl _) (List.Sublist.append (.refl _) hsub1))
    have hR2' : RefAt cs2 ((X2 ++ X) ++ G) p c l := by rw [List.append_assoc]; exact hR2
    cases hq : (ql.2 == x.to)
    · repeat (first | refine RQr ?_ | (refine RX ?_; (first | refine QW_of (Qt_ldX rfl (hn := by with_reducible assumption)) ?_)) | refine RC ?_ | refine RU ?_ | refine WC_draw_all (id := 22) 10 (Cs [0,1,2,3,4,5,6,7,8,9] <| .done) mixed (by kernel_rfl) ?_ | refine WG 21 ?_ | refine WG 20 ?_)
      rw [w, show X2 ++ (X ++ F1) = (X2 ++ X) ++ F1 from (List.append_assoc ..).symm]
      refine ⟨_, _, by omega, ⟨k + 1, cs2, X2 ++ X, rfl, by omega, hR2', fun b' hb' => ?_, rfl⟩, ⟨rfl, rfl, rfl, trivial⟩, rfl, .refl _⟩
      rw [List.take_add_one, hbk, List.mem_append] at hb'
      rcases hb' with h | h
      · exact hno b' h
      · obtain rfl : b' = b := by simpa using h
        rw [hhas]
        simpa using hq
    · rw [if_pos (List.any_eq_true.2 ⟨b, List.mem_of_getElem? hbk, by rw [hhas]; exact hq⟩)] at htry
      repeat (first | refine RQr ?_ | (refine RX ?_; (first | refine QW_of (Qt_ldX rfl (hn := by with_reducible assumption)) ?_)) | refine RC ?_ | refine RU ?_ | refine WC_draw_all (id := 22) 10 (Cs [0,1,2,3,4,5,6,7,8,9] <| .done) mixed (by kernel_rfl) ?_ | refine WG 21 ?_ | refine WG 23 ?_)
      exact ⟨rfl, _, _, Res1 rfl (resV_tmp rfl), hend2, by rw [htry], cs2, X2 ++ X, rfl, hR2'⟩
  have e0 : (x.kind == 0) = false := by simpa using c0
  rw [if_neg c0] at htry
  by_cases c1 : x.kind = 1
  · have e1 : (x.kind == 1) = true := by simpa using c1
    rw [if_pos c1] at htry
    unfold joinF at htry
    have hwk : t.wk = c.1 := by show t.cf.1 = c.1; rw [hcf]
    rw [hwk] at htry
    by_cases w1 : x.to < 1
    · have r0 : decide (x.to < 1) = true := decide_eq_true w1
      rw [if_pos (by omega)] at htry
      repeat (first | refine RQr ?_ | ((first | refine WL_Q ?_ | refine WL_Y ?_ | refine WR_Q rfl ?_ | refine WR_late rfl rfl rfl (OW_Q ?_) | refine WR_Y rfl ?_); (first | refine QW_of (Qt_ldX rfl (hn := by with_reducible assumption)) ?_)) | refine RC ?_ | refine RU ?_ | refine WC_draw_all (id := 25) 13 (Cs [0,1,2,3,4,5,6,7,8,9,10,11,12] <| .done) mixed (by kernel_rfl) ?_ | refine WG 11 ?_ | refine WG 13 ?_ | refine WG 24 ?_ | refine WG 26 ?_)
      exact ⟨rfl, _, _, Res1 rfl (resV_tmp rfl), hend, by rw [htry], cs, [], rfl, hR⟩
    have r0 : decide (x.to < 1) = false := decide_eq_false w1
    by_cases w2 : x.to > c.1
    · have r1 : decide (x.to > c.1) = true := decide_eq_true w2
      rw [if_pos (by omega)] at htry
      repeat (first | refine RQr ?_ | ((first | refine WL_Q ?_ | refine WL_Y ?_ | refine WR_Q rfl ?_ | refine WR_late rfl rfl rfl (OW_Q ?_) | refine WR_Y rfl ?_); (first | refine QW_of (Qt_ldX rfl (hn := by with_reducible assumption)) ?_)) | refine RC ?_ | refine RU ?_ | refine WC_draw_all (id := 25) 13 (Cs [0,1,2,3,4,5,6,7,8,9,10,11,12] <| .done) mixed (by kernel_rfl) ?_ | refine WG 11 ?_ | refine WG 13 ?_ | refine WG 24 ?_ | refine WG 26 ?_)
      exact ⟨rfl, _, _, Res1 rfl (resV_tmp rfl), hend, by rw [htry], cs, [], rfl, hR⟩
    have r1 : decide (x.to > c.1) = false := decide_eq_false w2
    rw [if_neg (by omega)] at htry
    by_cases hin : x.to ∈ t.act
    · have r2 : decide (x.to ∈ t.act) = true := decide_eq_true hin
      rw [if_pos hin] at htry
      repeat (first | refine RQr ?_ | ((first | refine WL_Q ?_ | refine WL_Y ?_ | refine WR_Q rfl ?_ | refine WR_late rfl rfl rfl (OW_Q ?_) | refine WR_Y rfl ?_); (first | refine QW_of (Qt_ldX rfl (hn := by with_reducible assumption)) ?_)) | ((first | refine WL_op rfl ?_ | refine WL_yes (h := ?_) | refine WR_late rfl rfl rfl ?_ | refine WR_opG rfl rfl ?_ | refine WR_opYG rfl (h := ?_)); (first | refine OW_callP rfl (hF := dhas_fn hV8') (hk := ?_)); try refine SD ?_) | refine RC ?_ | refine RU ?_ | refine WC_draw_all (id := 25) 13 (Cs [0,1,2,3,4,5,6,7,8,9,10,11,12] <| .done) mixed (by kernel_rfl) ?_ | refine WG 11 ?_ | refine WG 13 ?_ | refine WG 24 ?_ | refine WG 27 ?_ | refine WG 28 ?_)
      exact ⟨rfl, _, _, Res1 rfl (resV_tmp rfl), hend, by rw [htry], cs, [], rfl, hR⟩
    · have r2 : decide (x.to ∈ t.act) = false := decide_eq_false hin
      rw [if_neg hin] at htry
      repeat (first | refine RQr ?_ | ((first | refine WL_Q ?_ | refine WL_Y ?_ | refine WR_Q rfl ?_ | refine WR_late rfl rfl rfl (OW_Q ?_) | refine WR_Y rfl ?_); (first | refine QW_of (Qt_ldX rfl (hn := by with_reducible assumption)) ?_)) | ((first | refine WL_op rfl ?_ | refine WL_yes (h := ?_) | refine WR_late rfl rfl rfl ?_ | refine WR_opG rfl rfl ?_ | refine WR_opYG rfl (h := ?_)); (first | refine OW_callP rfl (hF := dhas_fn hV8') (hk := ?_)); try refine SD ?_) | refine RC ?_ | refine RU ?_ | refine WC_draw_all (id := 25) 13 (Cs [0,1,2,3,4,5,6,7,8,9,10,11,12] <| .done) mixed (by kernel_rfl) ?_ | refine WG 11 ?_ | refine WG 13 ?_ | refine WG 24 ?_ | refine WG 27 ?_ | refine WG 34 ?_)
      exact ⟨rfl, _, _, Res1 rfl (resV_tmp rfl), hend, by rw [htry], cs, [], rfl, hR⟩
  have e1 : (x.kind == 1) = false := by simpa using c1
  rw [if_neg c1] at htry
  by_cases c2 : x.kind = 2
  · have e2 : (x.kind == 2) = true := by simpa using c2
    rw [if_pos c2] at htry
    unfold leaveF at htry
    by_cases hin : x.to ∈ t.act
    rotate_left
    · have r1 : (!decide (x.to ∈ t.act)) = true := by rw [decide_eq_false hin]; rfl
      rw [if_pos hin] at htry
      repeat (first | refine RQ ?_ | (refine WL_Q ?_; (first | refine QW_of (Qt_ldX rfl (hn := by with_reducible assumption)) ?_)) | (refine WL_op rfl ?_; (first | refine OW_callP rfl (hF := dhas_fn hV8') (hk := ?_))) | refine RC ?_ | refine WG 11 ?_ | refine WG 13 ?_ | refine WG 24 ?_ | refine WG 29 ?_ | refine WG 30 ?_ | refine WG 31 ?_)
      exact ⟨rfl, _, _, Res1 rfl (resV_tmp rfl), hend, by rw [htry], cs, [], rfl, hR⟩
    have r1 : (!decide (x.to ∈ t.act)) = false := by rw [decide_eq_true hin]; rfl
    rw [if_neg (fun h => h hin)] at htry
    have hal := List.length_pos_iff.2 hne
    by_cases hl1 : t.act.length ≤ 1
    · have r2 : (((t.act.length : Nat) : Int) == 1) = true := by rw [beq_iff_eq]; omega
      rw [if_pos hl1] at htry
      repeat (first | refine RQ ?_ | (refine WL_Q ?_; (first | refine QW_of (Qt_ldX rfl (hn := by with_reducible assumption)) ?_)) | (refine WL_op rfl ?_; (first | refine OW_callP rfl (hF := dhas_fn hV8') (hk := ?_))) | refine RC ?_ | refine WG 11 ?_ | refine WG 13 ?_ | refine WG 24 ?_ | refine WG 29 ?_ | refine WG 30 ?_ | refine WG 32 ?_ | refine WG 33 ?_)
      exact ⟨rfl, _, _, Res1 rfl (resV_tmp rfl), hend, by rw [htry], cs, [], rfl, hR⟩
    · have r2 : (((t.act.length : Nat) : Int) == 1) = false := by rw [beq_eq_false_iff_ne]; omega
      rw [if_neg hl1] at htry
      repeat (first | refine RQ ?_ | (refine WL_Q ?_; (first | refine QW_of (Qt_ldX rfl (hn := by with_reducible assumption)) ?_)) | (refine WL_op rfl ?_; (first | refine OW_callP rfl (hF := dhas_fn hV8') (hk := ?_))) | refine RC ?_ | refine WG 11 ?_ | refine WG 13 ?_ | refine WG 24 ?_ | refine WG 29 ?_ | refine WG 30 ?_ | refine WG 32 ?_ | refine WG 34 ?_)
      exact ⟨rfl, _, _, Res1 rfl (resV_tmp rfl), hend, by rw [htry], cs, [], rfl, hR⟩
  have e2 : (x.kind == 2) = false := by simpa using c2
  rw [if_neg c2] at htry
  repeat (first | refine RQ ?_ | (refine WL_Q ?_; (first | refine QW_of (Qt_ldX rfl (hn := by with_reducible assumption)) ?_)) | (refine WL_op rfl ?_; (first | (refine OW_call rfl (hF := dReplace_fn hR hO (.head _) (fun q hq => .tail _ (hG1 q hq))) (hk := ?_); rintro _ _ ⟨X, rfl, rfl⟩))) | refine RC ?_ | refine WG 11 ?_ | refine WG 13 ?_ | refine WG 24 ?_ | refine WG 29 ?_ | refine WG 12 ?_)
  refine ⟨rfl, _, _, Res1 rfl (resV_tmp rfl), hend.trans (List.sublist_append_right X _), ?_, cs, [], rfl, hR⟩
  rw [htry, ht]
end Go.Proofs.YtncgndcepoicbaaGreat
namespace Go.Proofs.YtncgndcepoicbaaGreat
open Go.RowKit
theorem Buf.own0 (E sz b : Nat) : Buf E sz (.slice (some ⟨b, 0, none⟩) 0 0) [(b, .cells #[] E (0, 0))] 0 [] := .inr ⟨b, 0, 0, #[], rfl, rfl, ⟨by simp, Nat.le_refl _, Nat.zero_le _, by simp, fun j x h => by simp at h⟩⟩
theorem perm_a1 {α : Type} (q r x : α) (T R : List α) : (r :: (q :: (T ++ (x :: R)))).Perm (q :: (T ++ (r :: x :: R))) := by
  classical
  rw [List.perm_iff_count]
  intro z
  simp only [List.count_append, List.count_cons]
  omega
theorem perm_a2 {α : Type} (q r x : α) (T R : List α) : (r :: (q :: (T ++ (x :: R)))).Perm (T ++ (q :: r :: x :: R)) := by
  classical
  rw [List.perm_iff_count]
  intro z
  simp only [List.count_append, List.count_cons]
  omega
attribute [local irreducible] Fn WC WL WR OW Qt YieldFn QW FnP FnD FnE
set_option maxHeartbeats 4000000 in
theorem dNew_fn {p : PlV} {pv : Array Value} {c : CfV} {G L : List (Nat × Obj)} (hp : PlAt G pv p) (hG : ∀ q ∈ G, q ∈ L) (h1000 : p.st.length ≤ 1000) : Fn Tryz.prog 9 [.agg pv, .agg (cfC c)] L (fun v L' => ((planF p).2 ≠ 0 ∧ v = .tuple #[.pointer none, iV (planF p).2] ∧ L' = L) ∨ ((planF p).2 = 0 ∧ rightF c = false ∧ v = .tuple #[.pointer none, iV 2] ∧ L' = L) ∨ ((planF p).2 = 0 ∧ rightF c = true ∧ ∃ rb cs, v = .tuple #[.pointer (some ⟨rb, 0, none⟩), iV 0] ∧ L' = rfO rb cs :: L ∧ RefAt cs G p c [])) := by
  obtain ⟨prv, sv, ls, hpv, hpre, hst, hss⟩ := id hp
  obtain ⟨_, ap, capp, rfl, hcp, hmp, _⟩ := id hpre
  obtain ⟨_, ast, caps, rfl, hcs, hms, _⟩ := id hst
  have hsz : pv.size = 4 := by rw [hpv]; rfl
  have hall : (pv.toList.all fun x => x.oneCell') = true := by rw [hpv]; rfl
  refine Fn_enter Tryz.func9 rfl Tryz.ntmps9 rfl fun g => ?_
  obtain ⟨e, he⟩ : ∃ e, e = planF p := ⟨_, rfl⟩
  repeat (first | refine RQ ?_ | (refine WL_Q ?_; (first | refine QW_of (Qt_ldX rfl (hn := by with_reducible assumption)) ?_)) | (refine RE ?_; try intro _) | (refine WL_op rfl ?_; (first | refine OW_callP rfl (hF := dPCheck_fn (hp.mem fun _ h => .tail _ (.tail _ (hG _ h))) h1000) (hk := ?_))) | refine RC ?_ | refine WG 0 ?_ | refine WG 1 ?_)
  rw [← he]
  by_cases h0 : e.2 = 0
  rotate_left
  · have d : (e.2 != 0) = true := by simpa using h0
    repeat (first | refine RQ ?_ | (refine WL_Q ?_; (first | refine QW_of (Qt_ldX rfl (hn := by with_reducible assumption)) ?_)) | (refine WL_op rfl ?_; (first | refine OW_callP rfl (hF := dPCheck_fn (hp.mem fun _ h => .tail _ (.tail _ (hG _ h))) h1000) (hk := ?_))) | refine RC ?_ | refine WG 1 ?_ | refine WG 2 ?_ | refine WG 3 ?_)
    exact ⟨rfl, _, _, Res2 rfl (resV_tmp rfl) (resV_tmp rfl), .cons _ (.cons _ (.refl _)), .inl ⟨h0, rfl, rfl⟩⟩
  have d : (e.2 != 0) = false := by rw [h0]; rfl
  cases hr : rightF c
  · have d2 : (!rightF c) = true := by rw [hr]; rfl
    repeat (first | refine RQ ?_ | (refine WL_Q ?_; (first | refine QW_of (Qt_ldX rfl (hn := by with_reducible assumption)) ?_)) | (refine WL_op rfl ?_; (first | refine OW_callP rfl (hF := dRight_fn) (hk := ?_) | refine OW_callP rfl (hF := dPCheck_fn (hp.mem fun _ h => .tail _ (.tail _ (hG _ h))) h1000) (hk := ?_))) | refine RC ?_ | refine WG 1 ?_ | refine WG 2 ?_ | refine WG 4 ?_ | refine WG 5 ?_)
    exact ⟨rfl, _, _, Res2 rfl (resV_tmp rfl) (resV_tmp rfl), .cons _ (.cons _ (.refl _)), .inr (.inl ⟨h0, rfl, rfl, rfl⟩)⟩
  have d2 : (!rightF c) = false := by rw [hr]; rfl
  subst hpv
  repeat (first | refine RQ ?_ | (refine WL_Q ?_; (first | refine QW_of (Qt_ldX rfl (hn := by with_reducible assumption)) ?_)) | (refine RE ?_; try intro _) | (refine WL_op rfl ?_; (first | refine OW_callP rfl (hF := dRight_fn) (hk := ?_) | refine OW_callP rfl (hF := dPCheck_fn (hp.mem fun _ h => .tail _ (.tail _ (hG _ h))) h1000) (hk := ?_))) | refine RC ?_ | refine WG 1 ?_ | refine WG 2 ?_ | refine WG 4 ?_ | refine WG 6 ?_)
  rename_i rb
  refine ⟨rfl, _, _, Res2 rfl (resV_tmp rfl) (resV_tmp rfl), .cons_cons _ (.cons _ (.cons _ (.refl _))), .inr (.inr ⟨h0, rfl, rb, _, rfl, rfl, _, .slice none 0 0, [], 0, fun _ => .slice none 0 0, ⟨rfl, rfl, rfl, rfl, rfl, rfl, rfl, rfl, rfl, rfl, fun b hb => ?_⟩, hp, VecM.nil _ _, trivial, ⟨Int.le_refl _, by show (0 : Int) ≤ 0 + 1; decide⟩, fun h => ?_⟩)⟩
  · have : b = 0 ∨ b = 1 ∨ b = 2 ∨ b = 3 ∨ b = 4 ∨ b = 5 ∨ b = 6 ∨ b = 7 := by omega
    rcases this with rfl | rfl | rfl | rfl | rfl | rfl | rfl | rfl <;> rfl
  · exact absurd h (by show ¬ ((0 : Int) = 0 + 1); decide)
set_option maxHeartbeats 8000000 in
theorem dCopy_fn {rb : Nat} {cs : Array Value} {p : PlV} {c : CfV} {l : List CmV} {G F : List (Nat × Obj)} (hR : RefAt cs G p c l) (hO : RfOk p c l) (hM : rfO rb cs ∈ F) (hG : ∀ q ∈ G, q ∈ F) : Fn Tryz.prog 15 [.pointer (some ⟨rb, 0, none⟩)] F (fun v L' => ∃ rb2 cs2 X, v = .pointer (some ⟨rb2, 0, none⟩) ∧ L' = rfO rb2 cs2 :: (X ++ F) ∧ RefAt cs2 (X ++ G) p c l) := by
  obtain ⟨pv, lv, lc, kn, sv, h1, h2, h3, h4, h5, h6⟩ := id hR
  have hl64 := hO.few
  have hc9 := h1.l
  obtain ⟨_, al, cl, rfl, _, hcl, _⟩ := id h3
  obtain ⟨prv, pst, pls, hpv, hq1, hq2, hq3⟩ := id h2
  obtain ⟨_, aq1, cq1, rfl, _, _, _⟩ := id hq1
  obtain ⟨_, aq2, cq2, rfl, _, _, _⟩ := id hq2
  have hxp := h1.p
  have hxz : 0 + 4 ≤ cs.size := by rw [h1.z]; decide
  have hxc : cs.extract 4 (4 + 5) = cfC c := (ext_of (n := 5) (l := [iV c.1, iV c.2.1, iV c.2.2.1, iV c.2.2.2.1, iV c.2.2.2.2]) rfl (by decide) fun j hj => by
    have : j = 0 ∨ j = 1 ∨ j = 2 ∨ j = 3 ∨ j = 4 := by omega
    rcases this with rfl | rfl | rfl | rfl | rfl
    · exact h1.c4
    · exact h1.c5
    · exact h1.c6
    · exact h1.c7
    · exact h1.c8).1
  have hxc2 : 4 + 5 ≤ cs.size := by rw [h1.z]; decide
  obtain ⟨i0, hi0⟩ := List.mem_iff_getElem?.1 hM
  refine Fn_enter Tryz.func15 rfl Tryz.ntmps15 rfl fun g => ?_
  repeat (first | refine RQ ?_ | (refine WL_Q ?_; (first | refine QW_of (Qt_ldX rfl (hn := by with_reducible assumption)) ?_)) | refine RC ?_ | refine WG 0 ?_)
  refine WC_drawK (id := 1) _ 17 (Cs [0,1,2,3,4,5,6,7,9,10,11,12] <| .must 8 <| .must 13 <| .calm 14 <| .must 15 <| .calm 16 <| .done) mixed (by kernel_rfl) (by kernel_rfl) (List.Sublist.refl _) ?_; repeat (first | refine WS_d ?_ | refine WS_c rfl (QW_a ?_))
  rw [hxc, hxp, hpv]
  refine WS_m rfl rfl (OW_build0 rfl (hk := fun xe => ?_))
  refine ⟨fun q hq => .tail _ hq, ?_⟩
  repeat (first | refine WS_d ?_ | refine WS_c rfl (QW_a ?_))
  refine WS_m rfl rfl (OW_append_bufM (A := []) (T := [(xe, Obj.cells #[] 42 (0, 0))]) (B := F) rfl rfl rfl rfl rfl (Buf.own0 _ _ _) (m := l.length) (news := lc.flatten) (srcVec (h3.vec fun q hq => .tail _ (hG q hq)) h4.one) h4.flat (by simp only [maxLen]; omega) (by omega) fun v' T' hb' => ?_)
  rw [Nat.zero_add, List.nil_append] at hb'
  simp only [List.nil_append]
  obtain ⟨ar, cr, rfl, _, _⟩ := id hb'.val
  refine ⟨fun q hq => List.mem_append_right _ hq, ?_⟩
  repeat (first | refine WS_d ?_ | refine WS_c rfl (QW_a ?_))
  refine WS_m rfl rfl (OW_box rfl (hk := fun rb2 => ?_))
  refine ⟨fun q hq => .tail _ (List.mem_append_right _ hq), ?_⟩
  repeat (first | refine WS_d ?_ | refine WS_c rfl (QW_a ?_))
  repeat (first | refine RQr ?_ | (refine RX ?_; (first | refine QW_of (Qt_ldX rfl (hn := by with_reducible assumption)) ?_)) | (refine OX ?_; (first | (refine OE ?_; try intro _)); try refine SD ?_) | refine RC ?_ | refine RU ?_ | refine WC_draw_all (id := 1) 17 (Cs [0,1,2,3,4,5,6,7,9,10,11,12] <| .must 8 <| .must 13 <| .calm 14 <| .must 15 <| .calm 16 <| .done) mixed (by kernel_rfl) ?_)
  refine ⟨rfl, _, _, Res1 rfl (resV_tmp rfl), .refl _, rb2, _, T', rfl, rfl, _, .slice ar l.length cr, lc, 0, fun _ => .slice none 0 0, ⟨rfl, rfl, rfl, rfl, rfl, rfl, rfl, rfl, rfl, rfl, fun b hb => ?_⟩, ⟨_, _, pls, rfl, hq1.mem fun q hq => List.mem_append_right _ hq, hq2.mem fun q hq => List.mem_append_right _ hq, hq3.mem fun q hq => List.mem_append_right _ hq⟩, hb'.vecM.mem fun q hq => List.mem_append_left _ hq, h4.mem fun q hq => List.mem_append_right _ hq, ⟨Int.le_refl _, by omega⟩, fun h => ?_⟩
  · have : b = 0 ∨ b = 1 ∨ b = 2 ∨ b = 3 ∨ b = 4 ∨ b = 5 ∨ b = 6 ∨ b = 7 := by omega
    rcases this with rfl | rfl | rfl | rfl | rfl | rfl | rfl | rfl <;> rfl
  · omega
set_option maxHeartbeats 8000000 in
theorem dAdd_fn {rb : Nat} {x : CmV} {bv : Value} {floor : Int} {cs : Array Value} {p : PlV} {c : CfV} {l : List CmV} {G F : List (Nat × Obj)} (hR : RefAt cs G p c l) (hO : RfOk p c l) (hG : ∀ q ∈ G, q ∈ F) (hb : VecM 1 F bv x.bins.length (x.bins.map iV)) (hxR : CmR x) (hB : x.bins.length ≤ 1000) : Fn Tryz.prog 16 [.pointer (some ⟨rb, 0, none⟩), .agg (cmC x bv).toArray, iV floor] (rfO rb cs :: F) (fun v L' => v = iV (tryF (rchT p c l) x floor) ∧ ∃ cs' X, L' = rfO rb cs' :: (X ++ F) ∧ RefAt cs' (X ++ G) p c (if tryF (rchT p c l) x floor = 0 then l ++ [x] else l)) := by
  have hl64 := hO.few
  obtain ⟨_, ab, cb, rfl, _, _, _⟩ := id hb
  have hsz : (cmC x (.slice ab x.bins.length cb)).toArray.size = 10 := rfl
  have hca : ((cmC x (.slice ab x.bins.length cb)).toArray.toList.all fun v => v.oneCell') = true := rfl
  obtain ⟨tr, htr⟩ : ∃ tr, tr = tryF (rchT p c l) x floor := ⟨_, rfl⟩
  refine Fn_enter Tryz.func16 rfl Tryz.ntmps16 rfl fun g => ?_
  repeat (first | refine RQ ?_ | (refine WL_Q ?_; (first | refine QW_of (Qt_ldX rfl (hn := by with_reducible assumption)) ?_)) | (refine RE ?_; try intro _) | refine RC ?_ | refine WG 0 ?_ | refine WG 1 ?_)
  rename_i x4
  refine WL_permT (L' := rfO rb cs :: ((x4, Obj.cells (cmC x (.slice ab x.bins.length cb)).toArray 42 (0, 0)) :: F)) (.swap ..) ?_
  refine WL_op rfl (OW_call rfl (hF := dTry_fn (F := (x4, Obj.cells (cmC x (.slice ab x.bins.length cb)).toArray 42 (0, 0)) :: F) (floor := floor) hR hO (fun q hq => .tail _ (hG q hq)) (hb.mem fun q hq => .tail _ hq) hB) (hk := ?_))
  rintro _ _ ⟨rfl, cs', X, rfl, hR'⟩
  rw [← htr]
  obtain ⟨pv, lv, lc, kn, sv, h1, h2, h3, h4, h5, h6⟩ := id hR'
  by_cases h0 : tr = 0
  rotate_left
  · have d : (tr == 0) = false := by simpa using h0
    repeat (first | refine RQ ?_ | (refine WL_Q ?_; (first | refine QW_of (Qt_ldX rfl (hn := by with_reducible assumption)) ?_)) | refine RC ?_ | refine WG 1 ?_ | refine WG 2 ?_ | refine WG 5 ?_)
    exact ⟨rfl, _, _, Res1 rfl (resV_tmp rfl), .cons_cons _ (List.Sublist.append (.refl X) (.cons _ (.refl F))), rfl, cs', X, rfl, by rw [if_neg h0]; exact hR'⟩
  have d : (tr == 0) = true := by simpa using h0
  refine WL_permT (L' := rfO rb cs' :: (x4, Obj.cells (cmC x (.slice ab x.bins.length cb)).toArray 42 (0, 0)) :: (X ++ F)) (.cons _ List.perm_middle.symm) ?_
  repeat (first | refine RQ ?_ | (refine WL_Q ?_; (first | refine QW_of (Qt_ldX rfl (hn := by with_reducible assumption)) ?_)) | (refine RE ?_; try intro _) | refine RC ?_ | refine WG 1 ?_ | refine WG 2 ?_ | refine WG 3 ?_)
  rename_i xe
  refine WL_op rfl (OW_append_bufM (A := []) (T := [(xe, Obj.cells #[] 3 (0, 0))]) (B := rfO rb cs' :: (x4, Obj.cells (cmC x (.slice ab x.bins.length cb)).toArray 42 (0, 0)) :: (X ++ F)) rfl rfl rfl rfl rfl (Buf.own0 _ _ _) (m := x.bins.length) (news := x.bins.map iV) (srcVec (hb.vec fun q hq => .tail _ (.tail _ (.tail _ (List.mem_append_right _ hq)))) (iV_one _)) (by simp) (by simp only [maxLen]; omega) (by omega) ?_)
  intro vb Tb hTb
  rw [Nat.zero_add, List.nil_append] at hTb
  simp only [List.nil_append]
  obtain ⟨ab', cb', rfl, _, _⟩ := id hTb.val
  refine WL_permT (L' := rfO rb cs' :: (x4, Obj.cells (cmC x (.slice ab x.bins.length cb)).toArray 42 (0, 0)) :: (Tb ++ (X ++ F))) (perm_o1 ..) ?_
  repeat (first | refine RQ ?_ | (refine WL_Q ?_; (first | refine QW_of (Qt_ldX rfl (hn := by with_reducible assumption)) ?_)) | (refine RE ?_; try intro _) | refine RC ?_ | refine WG 3 ?_)
  rw [cmC_set]
  have hsz' : (cmC x (.slice ab' x.bins.length cb')).toArray.size = 10 := rfl
  have hca' : ((cmC x (.slice ab' x.bins.length cb')).toArray.toList.all fun v => v.oneCell') = true := rfl
  have hc9 := h1.l
  obtain ⟨_, al, cl, rfl, _, hcl, _⟩ := id h3
  obtain ⟨R, hRd⟩ : ∃ R, R = Tb ++ (X ++ F) := ⟨_, rfl⟩
  have hXG : ∀ q ∈ X ++ G, q ∈ R := fun q hq => by
    rw [hRd]
    rcases List.mem_append.1 hq with h | h
    · exact List.mem_append_right _ (List.mem_append_left _ h)
    · exact List.mem_append_right _ (List.mem_append_right _ (hG q h))
  rw [← hRd]
  have s9 : 9 < cs'.size := by rw [h1.z]; decide
  have hfin : ∀ (xq : Nat) (T' : List (Nat × Obj)) (ar : Option Addr) (cr : Nat), Buf 42 10 (.slice ar (l.length + 1) cr) T' (l.length + 1) (lc.flatten ++ cmC x (.slice ab' x.bins.length cb')) → ∃ Lx : List (Nat × Obj), Lx.Sublist (rfO rb (cs'.setIfInBounds 9 (.slice ar (l.length + 1) cr)) :: ((xq, Obj.cells (cmC x (.slice ab' x.bins.length cb')).toArray 42 (0, 0)) :: (T' ++ ((x4, Obj.cells (cmC x (.slice ab' x.bins.length cb')).toArray 42 (0, 0)) :: R)))) ∧ ∃ cs2 X2, Lx = rfO rb cs2 :: (X2 ++ F) ∧ RefAt cs2 (X2 ++ G) p c (if tr = 0 then l ++ [x] else l) := fun xq T' ar cr hb' => by
    refine ⟨rfO rb (cs'.setIfInBounds 9 (.slice ar (l.length + 1) cr)) :: ((T' ++ (Tb ++ X)) ++ F), ?_, _, T' ++ (Tb ++ X), rfl, ?_⟩
    · rw [hRd]
      refine .cons_cons _ (.cons _ ?_)
      rw [List.append_assoc, List.append_assoc]
      exact List.Sublist.append (.refl _) (.cons _ (.refl _))
    · rw [if_pos h0]
      have hm : ∀ q ∈ X ++ G, q ∈ (T' ++ (Tb ++ X)) ++ G := fun q hq => by
        rcases List.mem_append.1 hq with h | h
        · exact List.mem_append_left _ (List.mem_append_right _ (List.mem_append_right _ h))
        · exact List.mem_append_right _ h
      refine ⟨pv, _, lc ++ [cmC x (.slice ab' x.bins.length cb')], kn, sv, h1.ext (by rw [Array.size_setIfInBounds]) (one_set h1.one 9 rfl) (fun j hj => by rw [Array.getElem?_setIfInBounds_ne (by omega)]) (by rw [Array.getElem?_setIfInBounds_self_of_lt s9]) (by rw [Array.getElem?_setIfInBounds_ne (by decide)]; exact h1.k) (fun b hb => by rw [Array.getElem?_setIfInBounds_ne (by omega)]; exact h1.a b hb), h2.mem hm, ?_, CmsAt.snoc ⟨_, rfl, hTb.vecM.mem fun q hq => List.mem_append_left _ (List.mem_append_right _ (List.mem_append_left _ hq)), hxR⟩ (h4.mem hm), ?_, fun h => ?_⟩
      · have := hb'.vecM
        rw [show (l ++ [x]).length = l.length + 1 by simp]
        simp only [List.flatten_append, List.flatten_cons, List.flatten_nil, List.append_nil]
        exact this.mem fun q hq => List.mem_append_left _ (List.mem_append_left _ hq)
      · rw [List.length_append]; simp only [List.length_cons, List.length_nil]; omega
      · rw [List.length_append] at h; simp only [List.length_cons, List.length_nil] at h; omega
  refine WC_drawK (id := 4) _ 12 (Cs [0,2,3,4,5,7] <| .either 1 (.either 6 (.must 8 <| .must 9 <| Cs [10,11] <| .must 12 <| .done) 8 (.must 6 <| .must 9 <| Cs [10,11] <| .must 12 <| .done)) 8 (.must 1 <| .must 6 <| .must 9 <| Cs [10,11] <| .must 12 <| .done)) mixed (by kernel_rfl) (by kernel_rfl) (List.Sublist.refl _) ?_; repeat (first | refine WS_d ?_ | refine WS_c rfl (QW_a ?_))
  repeat (first | refine WS_d ?_ | refine WS_c rfl (QW_a ?_))
  refine WS_either ?_ ?_
  · refine WS_m rfl rfl (OW_build0 rfl (hk := fun xe2 => ?_))
    refine ⟨fun q hq => .tail _ hq, ?_⟩
    repeat (first | refine WS_d ?_ | refine WS_c rfl (QW_a ?_))
    refine WS_either ?_ ?_
    · refine WS_m rfl rfl (OW_append_bufM (A := []) (T := [(xe2, Obj.cells #[] 42 (0, 0))]) (B := rfO rb cs' :: (x4, Obj.cells (cmC x (.slice ab' x.bins.length cb')).toArray 42 (0, 0)) :: R) rfl rfl rfl rfl rfl (Buf.own0 _ _ _) (m := l.length) (news := lc.flatten) (srcVec (h3.vec fun q hq => .tail _ (.tail _ (.tail _ (hXG q hq)))) h4.one) h4.flat (by simp only [maxLen]; omega) (by omega) fun vl Tl hTl => ?_)
      rw [Nat.zero_add, List.nil_append] at hTl
      simp only [List.nil_append]
      obtain ⟨al2, cl2, rfl, _, _⟩ := id hTl.val
      refine ⟨fun q hq => List.mem_append_right _ hq, ?_⟩
      repeat (first | refine WS_d ?_ | refine WS_c rfl (QW_a ?_))
      refine WS_m rfl rfl (OW_build1 rfl (hk := fun xq => ?_))
      refine ⟨fun q hq => .tail _ (List.mem_append_right _ hq), ?_⟩
      repeat (first | refine WS_d ?_ | refine WS_c rfl (QW_a ?_))
      refine WS_m rfl rfl (OW_append_buf (A := [(xq, Obj.cells (cmC x (.slice ab' x.bins.length cb')).toArray 42 (0, 0))]) (T := Tl) (B := rfO rb cs' :: (x4, Obj.cells (cmC x (.slice ab' x.bins.length cb')).toArray 42 (0, 0)) :: R) rfl rfl rfl rfl rfl hTl (m := 1) (news := cmC x (.slice ab' x.bins.length cb')) (srcVec (sz := 10) ⟨rfl, _, _, rfl, Nat.le_refl _, by decide, .inr ⟨_, _, _, _, _, 0, rfl, rfl, fun j x hx => by rw [Nat.zero_add]; simpa using hx⟩⟩ (fun u hu => List.all_eq_true.1 hca' u (by simpa using hu))) (by decide) (by simp only [maxLen]; omega) (by omega) fun v' T' hb' => ?_)
      simp only [List.nil_append, List.cons_append]
      obtain ⟨ar, cr, rfl, _, _⟩ := id hb'.val
      refine ⟨fun q hq => .tail _ (List.mem_append_right _ hq), ?_⟩
      repeat (first | refine WS_d ?_ | refine WS_c rfl (QW_a ?_))
      refine WS_late rfl rfl rfl (OW_permT2 (L' := rfO rb cs' :: ((xq, Obj.cells (cmC x (.slice ab' x.bins.length cb')).toArray 42 (0, 0)) :: (T' ++ ((x4, Obj.cells (cmC x (.slice ab' x.bins.length cb')).toArray 42 (0, 0)) :: R)))) (perm_a1 ..) (OW_st1 rfl ?_))
      refine WS_d ?_
      repeat (first | refine RQ ?_ | (refine WL_Q ?_; (first | refine QW_of (Qt_ldX rfl (hn := by with_reducible assumption)) ?_)) | refine RC ?_ | refine WG 5 ?_)
      obtain ⟨Lx, f1, f2⟩ := hfin xq T' ar cr hb'
      exact ⟨rfl, _, Lx, Res1 rfl (resV_tmp rfl), f1, rfl, f2⟩
    · refine WS_m rfl rfl (OW_build1 rfl (hk := fun xq => ?_))
      refine ⟨fun q hq => .tail _ (.tail _ hq), ?_⟩
      repeat (first | refine WS_d ?_ | refine WS_c rfl (QW_a ?_))
      refine WS_m rfl rfl (OW_append_bufM (A := [(xq, Obj.cells (cmC x (.slice ab' x.bins.length cb')).toArray 42 (0, 0))]) (T := [(xe2, Obj.cells #[] 42 (0, 0))]) (B := rfO rb cs' :: (x4, Obj.cells (cmC x (.slice ab' x.bins.length cb')).toArray 42 (0, 0)) :: R) rfl rfl rfl rfl rfl (Buf.own0 _ _ _) (m := l.length) (news := lc.flatten) (srcVec (h3.vec fun q hq => .tail _ (.tail _ (.tail _ (.tail _ (hXG q hq))))) h4.one) h4.flat (by simp only [maxLen]; omega) (by omega) fun vl Tl hTl => ?_)
      rw [Nat.zero_add, List.nil_append] at hTl
      simp only [List.nil_append, List.cons_append]
      obtain ⟨al2, cl2, rfl, _, _⟩ := id hTl.val
      refine ⟨fun q hq => .tail _ (List.mem_append_right _ hq), ?_⟩
      repeat (first | refine WS_d ?_ | refine WS_c rfl (QW_a ?_))
      refine WS_m rfl rfl (OW_append_buf (A := [(xq, Obj.cells (cmC x (.slice ab' x.bins.length cb')).toArray 42 (0, 0))]) (T := Tl) (B := rfO rb cs' :: (x4, Obj.cells (cmC x (.slice ab' x.bins.length cb')).toArray 42 (0, 0)) :: R) rfl rfl rfl rfl rfl hTl (m := 1) (news := cmC x (.slice ab' x.bins.length cb')) (srcVec (sz := 10) ⟨rfl, _, _, rfl, Nat.le_refl _, by decide, .inr ⟨_, _, _, _, _, 0, rfl, rfl, fun j x hx => by rw [Nat.zero_add]; simpa using hx⟩⟩ (fun u hu => List.all_eq_true.1 hca' u (by simpa using hu))) (by decide) (by simp only [maxLen]; omega) (by omega) fun v' T' hb' => ?_)
      simp only [List.nil_append, List.cons_append]
      obtain ⟨ar, cr, rfl, _, _⟩ := id hb'.val
      refine ⟨fun q hq => .tail _ (List.mem_append_right _ hq), ?_⟩
      repeat (first | refine WS_d ?_ | refine WS_c rfl (QW_a ?_))
      refine WS_late rfl rfl rfl (OW_permT2 (L' := rfO rb cs' :: ((xq, Obj.cells (cmC x (.slice ab' x.bins.length cb')).toArray 42 (0, 0)) :: (T' ++ ((x4, Obj.cells (cmC x (.slice ab' x.bins.length cb')).toArray 42 (0, 0)) :: R)))) (perm_a1 ..) (OW_st1 rfl ?_))
      refine WS_d ?_
      repeat (first | refine RQ ?_ | (refine WL_Q ?_; (first | refine QW_of (Qt_ldX rfl (hn := by with_reducible assumption)) ?_)) | refine RC ?_ | refine WG 5 ?_)
      obtain ⟨Lx, f1, f2⟩ := hfin xq T' ar cr hb'
      exact ⟨rfl, _, Lx, Res1 rfl (resV_tmp rfl), f1, rfl, f2⟩
  · refine WS_m rfl rfl (OW_build1 rfl (hk := fun xq => ?_))
    refine ⟨fun q hq => .tail _ hq, ?_⟩
    repeat (first | refine WS_d ?_ | refine WS_c rfl (QW_a ?_))
    refine WS_m rfl rfl (OW_build0 rfl (hk := fun xe2 => ?_))
    refine ⟨fun q hq => .tail _ (.tail _ hq), ?_⟩
    repeat (first | refine WS_d ?_ | refine WS_c rfl (QW_a ?_))
    refine WS_m rfl rfl (OW_append_bufM (A := []) (T := [(xe2, Obj.cells #[] 42 (0, 0))]) (B := (xq, Obj.cells (cmC x (.slice ab' x.bins.length cb')).toArray 42 (0, 0)) :: rfO rb cs' :: (x4, Obj.cells (cmC x (.slice ab' x.bins.length cb')).toArray 42 (0, 0)) :: R) rfl rfl rfl rfl rfl (Buf.own0 _ _ _) (m := l.length) (news := lc.flatten) (srcVec (h3.vec fun q hq => .tail _ (.tail _ (.tail _ (.tail _ (hXG q hq))))) h4.one) h4.flat (by simp only [maxLen]; omega) (by omega) fun vl Tl hTl => ?_)
    rw [Nat.zero_add, List.nil_append] at hTl
    simp only [List.nil_append]
    obtain ⟨al2, cl2, rfl, _, _⟩ := id hTl.val
    refine ⟨fun q hq => List.mem_append_right _ (.tail _ hq), ?_⟩
    repeat (first | refine WS_d ?_ | refine WS_c rfl (QW_a ?_))
    refine WS_m rfl rfl (OW_append_buf (A := []) (T := Tl) (B := (xq, Obj.cells (cmC x (.slice ab' x.bins.length cb')).toArray 42 (0, 0)) :: rfO rb cs' :: (x4, Obj.cells (cmC x (.slice ab' x.bins.length cb')).toArray 42 (0, 0)) :: R) rfl rfl rfl rfl rfl hTl (m := 1) (news := cmC x (.slice ab' x.bins.length cb')) (srcVec (sz := 10) ⟨rfl, _, _, rfl, Nat.le_refl _, by decide, .inr ⟨_, _, _, _, _, Tl.length, rfl, by rw [List.nil_append, List.getElem?_append_right (Nat.le_refl _), Nat.sub_self]; rfl, fun j x hx => by rw [Nat.zero_add]; simpa using hx⟩⟩ (fun u hu => List.all_eq_true.1 hca' u (by simpa using hu))) (by decide) (by simp only [maxLen]; omega) (by omega) fun v' T' hb' => ?_)
    simp only [List.nil_append]
    obtain ⟨ar, cr, rfl, _, _⟩ := id hb'.val
    refine ⟨fun q hq => List.mem_append_right _ (.tail _ hq), ?_⟩
    repeat (first | refine WS_d ?_ | refine WS_c rfl (QW_a ?_))
    refine WS_late rfl rfl rfl (OW_permT2 (L' := rfO rb cs' :: ((xq, Obj.cells (cmC x (.slice ab' x.bins.length cb')).toArray 42 (0, 0)) :: (T' ++ ((x4, Obj.cells (cmC x (.slice ab' x.bins.length cb')).toArray 42 (0, 0)) :: R)))) (perm_a2 ..) (OW_st1 rfl ?_))
    refine WS_d ?_
    repeat (first | refine RQ ?_ | (refine WL_Q ?_; (first | refine QW_of (Qt_ldX rfl (hn := by with_reducible assumption)) ?_)) | refine RC ?_ | refine WG 5 ?_)
    obtain ⟨Lx, f1, f2⟩ := hfin xq T' ar cr hb'
    exact ⟨rfl, _, Lx, Res1 rfl (resV_tmp rfl), f1, rfl, f2⟩
end Go.Proofs.YtncgndcepoicbaaGreat
namespace Go.Proofs.YtncgndcepoicbaaGreat
open Go.RowKit
theorem sp_ext {off k : Nat} {cs : Array Value} {row : List (Int × Int)} {q : Int × Int} (hx : ∀ (j : Nat) (x : Value), (spL row)[j]? = some x → cs[off + j]? = some x) (hq : row[k]? = some q) : cs.extract (off + k * 2) (off + k * 2 + 2) = #[iV q.1, iV q.2] ∧ off + k * 2 + 2 ≤ cs.size := by
  obtain ⟨e1, e2⟩ := spL_at hq
  have g1 := hx _ _ e1
  have g2 := hx _ _ e2
  have hz : off + k * 2 + 2 ≤ cs.size := by
    have := (Array.getElem?_eq_some_iff.1 g2).1
    omega
  refine ⟨?_, hz⟩
  apply Array.ext_getElem?
  intro j
  rw [Array.getElem?_extract]
  match j with
  | 0 => rw [if_pos (by omega), Nat.add_zero, g1]; rfl
  | 1 => rw [if_pos (by omega), Nat.add_assoc, g2]; rfl
  | j + 2 => rw [if_neg (by omega)]; simp
theorem Qt_neqX {c : Cx} {s : List (Nat × Value)} {L : List (Nat × Obj)} {o : Oper} {t' : Nat} [he : EqIC c.P 76 2] {x y : Operand} {a1 a2 b1 b2 : Int} {xs ys : Array Value} (ho : o.op = .binOp .neq 76 x y t') (hx : ev s x = some (.agg xs)) (hy : ev s y = some (.agg ys)) (ea : xs = #[iV a1, iV a2]) (eb : ys = #[iV b1, iV b2]) : Qt c s L o (.bool (!decide ([a1, a2] = [b1, b2]))) := Qt_neqI [a1, a2] [b1, b2] ho hx hy ea eb
attribute [local irreducible] Fn WC WL WR OW Qt YieldFn QW FnP FnD FnE
set_option maxHeartbeats 2000000 in
theorem lsp_fn {xs : List (Int × Int)} {v u : Value} {L : List (Nat × Obj)} (hv : VecM 2 L v xs.length (spL xs)) (hu : VecM 2 L u xs.length (spL xs)) : Fn Tryz.prog 48 [v, u] L (fun r L' => r = .bool true ∧ L' = L) := by
  obtain ⟨_, a1, cap1, rfl, hc1, hm1, _⟩ := id hv
  obtain ⟨_, a2, cap2, rfl, hc2, hm2, _⟩ := id hu
  refine Fn_enter Tryz.func48 rfl Tryz.ntmps48 rfl fun g => ?_
  have d : (((xs.length : Nat) : Int) != ((xs.length : Nat) : Int)) = false := by rw [bne_eq_false_iff_eq]
  repeat (first | refine RQ ?_ | (refine WL_Q ?_; (first | refine QW_of (Qt_ldX rfl (hn := by with_reducible assumption)) ?_ | refine QW_of (Qt_neqX rfl (by exact rfl) (by exact rfl) (by with_reducible assumption) (by with_reducible assumption)) ?_ | refine QW_of (Qt_eqlOp rfl) ?_)) | refine RC ?_ | refine WG 0 ?_ | refine WG 1 ?_ | refine WG 3 ?_)
  refine WC_wk [(5, .int .i64 ((0 : Nat) : Int)), (0, .slice a1 xs.length cap1), (1, .slice a2 xs.length cap2)] ⟨rfl, rfl, rfl, trivial⟩ ?_
  refine WC_loop (fun m σ => ∃ k : Nat, m = xs.length - k ∧ k ≤ xs.length ∧ σ = ⟨[(5, .int .i64 (k : Nat)), (0, .slice a1 xs.length cap1), (1, .slice a2 xs.length cap2)], [], L⟩) xs.length ⟨0, rfl, Nat.zero_le _, rfl⟩ ?_
  rintro _ σ ⟨k, rfl, hk, rfl⟩
  by_cases hlt : k < xs.length
  rotate_left
  · have e1 : decide ((k : Int) < ((xs.length : Nat) : Int)) = false := decide_eq_false (by omega)
    repeat (first | refine RQ ?_ | (refine WL_Q ?_; (first | refine QW_of (Qt_ldX rfl (hn := by with_reducible assumption)) ?_ | refine QW_of (Qt_neqX rfl (by exact rfl) (by exact rfl) (by with_reducible assumption) (by with_reducible assumption)) ?_ | refine QW_of (Qt_eqlOp rfl) ?_)) | refine RC ?_ | refine WG 4 ?_ | refine WG 8 ?_)
    exact ⟨rfl, _, _, Res1 rfl (resV_tmp rfl), .refl _, rfl, rfl⟩
  have e1 : decide ((k : Int) < ((xs.length : Nat) : Int)) = true := decide_eq_true (by omega)
  obtain ⟨b1, o1, q1, c1, E1, f1, i1, e, _, _, hi1, hx1⟩ := hv.cell (by omega)
  cases e
  obtain ⟨b2, o2, q2, c2, E2, f2, i2, e, _, _, hi2, hx2⟩ := hu.cell (by omega)
  cases e
  obtain ⟨x, hx⟩ : ∃ x, xs[k]? = some x := ⟨_, List.getElem?_eq_getElem hlt⟩
  obtain ⟨v1, y1⟩ := sp_ext hx1 hx
  obtain ⟨v2, y2⟩ := sp_ext hx2 hx
  have v1 : c1.extract (o1 + ((k : Nat) : Int).toNat * 2) (o1 + ((k : Nat) : Int).toNat * 2 + 2) = #[iV x.1, iV x.2] := by rw [Int.toNat_natCast]; exact v1
  have v2 : c2.extract (o2 + ((k : Nat) : Int).toNat * 2) (o2 + ((k : Nat) : Int).toNat * 2 + 2) = #[iV x.1, iV x.2] := by rw [Int.toNat_natCast]; exact v2
  have y1 : o1 + ((k : Nat) : Int).toNat * 2 + 2 ≤ c1.size := by rw [Int.toNat_natCast]; exact y1
  have y2 : o2 + ((k : Nat) : Int).toNat * 2 + 2 ≤ c2.size := by rw [Int.toNat_natCast]; exact y2
  have p0 : (0 : Int) ≤ (k : Int) := by omega
  have p1 : ((k : Nat) : Int) < ((xs.length : Nat) : Int) := by omega
  have w : IntKind.i64.wrap ((k : Int) + 1) = ((k + 1 : Nat) : Int) := by rw [wI64 (by omega) (by simp only [maxLen] at hm1; omega)]; omega
  have d2 : (!decide ([x.1, x.2] = [x.1, x.2])) = false := by simp
  repeat (first | refine RQr ?_ | (refine RX ?_; (first | refine QW_of (Qt_ldX rfl (hn := by with_reducible assumption)) ?_ | refine QW_of (Qt_neqX rfl (by exact rfl) (by exact rfl) (by with_reducible assumption) (by with_reducible assumption)) ?_ | refine QW_of (Qt_eqlOp rfl) ?_)) | refine RC ?_ | refine RU ?_ | refine WC_draw_all (id := 6) 9 (Cs [0,1,2,3,4,5,6,7,8] <| .done) mixed (by kernel_rfl) ?_ | refine WG 4 ?_ | refine WG 5 ?_)
  rw [w]
  exact ⟨_, _, by omega, ⟨k + 1, rfl, by omega, rfl⟩, ⟨rfl, rfl, rfl, trivial⟩, rfl, .refl _⟩
set_option maxHeartbeats 2000000 in
theorem lcmd_fn {x : CmV} {bv bw : Value} {L : List (Nat × Obj)} (hv : VecM 1 L bv x.bins.length (x.bins.map iV)) (hw : VecM 1 L bw x.bins.length (x.bins.map iV)) : Fn Tryz.prog 71 [.agg (cmC x bv).toArray, .agg (cmC x bw).toArray] L (fun r L' => r = .bool true ∧ L' = L) := by
  have hz1 : (cmC x bv).toArray.size = 10 := rfl
  have hz2 : (cmC x bw).toArray.size = 10 := rfl
  obtain ⟨_, a1, cap1, rfl, _⟩ := id hv
  obtain ⟨_, a2, cap2, rfl, _⟩ := id hw
  have k1 : ((cmC x (.slice a1 x.bins.length cap1)).toArray.toList.all fun v => v.oneCell') = true := rfl
  have k2 : ((cmC x (.slice a2 x.bins.length cap2)).toArray.toList.all fun v => v.oneCell') = true := rfl
  refine Fn_enter Tryz.func71 rfl Tryz.ntmps71 rfl fun g => ?_
  repeat (first | refine RQ ?_ | (refine WL_Q ?_; (first | refine QW_of (Qt_ldX rfl (hn := by with_reducible assumption)) ?_ | refine QW_of (Qt_neqX rfl (by exact rfl) (by exact rfl) (by with_reducible assumption) (by with_reducible assumption)) ?_ | refine QW_of (Qt_eqlOp rfl) ?_)) | (refine RE ?_; try intro _) | refine RC ?_ | refine WG 0 ?_)
  rename_i x2 x3
  have d0 : (x.kind == x.kind) = true := by simp
  have d1 : (x.at_ == x.at_) = true := by simp
  have d3 : (x.to == x.to) = true := by simp
  have d4 : (x.node == x.node) = true := by simp
  have d5 : decide ([x.op.1, x.op.2.1, x.op.2.2.1, x.op.2.2.2] = [x.op.1, x.op.2.1, x.op.2.2.1, x.op.2.2.2]) = true := by simp
  have d6 : (x.mode == x.mode) = true := by simp
  have d2 : decide (x.bins = x.bins) = true := by simp
  repeat (first | refine RQ ?_ | ((first | refine WL_Q ?_ | refine WL_Y ?_); (first | refine QW_of (Qt_ldX rfl (hn := by with_reducible assumption)) ?_ | refine QW_of (Qt_neqX rfl (by exact rfl) (by exact rfl) (by with_reducible assumption) (by with_reducible assumption)) ?_ | refine QW_of (Qt_eqlOp rfl) ?_)) | ((first | refine WL_op rfl ?_ | refine WL_yes (h := ?_)); (first | refine OW_callP rfl (hF := ints_fn (hv.mem fun q hq => .tail _ (.tail _ hq)) (hw.mem fun q hq => .tail _ (.tail _ hq))) (hk := ?_))) | refine RC ?_ | refine WG 1 ?_)
  exact ⟨rfl, _, _, Res1 rfl (resV_tmp rfl), .cons _ (.cons _ (.refl _)), by rw [d6], rfl⟩
theorem cfg_fn {tb : Nat} {t : TbV} {L : List (Nat × Obj)} (h : TabIn tb L t) : Fn Tryz.prog 19 [.pointer (some ⟨tb, 0, none⟩)] L (fun v L' => v = .agg #[iV t.cf.1, iV t.cf.2.1, iV t.cf.2.2.1, iV t.cf.2.2.2.1, iV t.cf.2.2.2.2] ∧ L' = L) := by
  obtain ⟨cs, cv, sv, av, nv, rv, lc, h1, h2, h3, h4, h5, h6, _⟩ := h.h
  obtain ⟨i, hi⟩ := List.mem_iff_getElem?.1 h1
  have hz := h2.z
  have v1 : cs.extract 4 (4 + 5) = #[iV t.cf.1, iV t.cf.2.1, iV t.cf.2.2.1, iV t.cf.2.2.2.1, iV t.cf.2.2.2.2] := by
    apply Array.ext_getElem?
    intro j
    rw [Array.getElem?_extract]
    match j with
    | 0 => rw [if_pos (by omega), h2.w]; rfl
    | 1 => rw [if_pos (by omega), h2.g5]; rfl
    | 2 => rw [if_pos (by omega), h2.g6]; rfl
    | 3 => rw [if_pos (by omega), h2.g7]; rfl
    | 4 => rw [if_pos (by omega), h2.g8]; rfl
    | j + 5 => rw [if_neg (by omega)]; simp
  have y1 : 4 + 5 ≤ cs.size := by omega
  refine Fn_enter Tryz.func19 rfl Tryz.ntmps19 rfl fun g => ?_
  repeat (first | refine RQ ?_ | (refine WL_Q ?_; (first | refine QW_of (Qt_ldX rfl (hn := by with_reducible assumption)) ?_ | refine QW_of (Qt_neqX rfl (by exact rfl) (by exact rfl) (by with_reducible assumption) (by with_reducible assumption)) ?_ | refine QW_of (Qt_eqlOp rfl) ?_)) | (refine RE ?_; try intro _) | refine RC ?_ | refine WG 0 ?_ | refine WG 1 ?_)
  rename_i x2
  have hi1 : ((x2, Obj.cells zc27 27 (0, 0)) :: L)[i + 1]? = some (tb, Obj.cells cs 110 (0, 0)) := hi
  repeat (first | refine RQ ?_ | (refine WL_Q ?_; (first | refine QW_of (Qt_ldX rfl (hn := by with_reducible assumption)) ?_ | refine QW_of (Qt_neqX rfl (by exact rfl) (by exact rfl) (by with_reducible assumption) (by with_reducible assumption)) ?_ | refine QW_of (Qt_eqlOp rfl) ?_)) | (refine RE ?_; try intro _) | refine RC ?_ | refine WG 1 ?_ | refine WG 3 ?_)
  rw [v1]
  repeat (first | refine RQ ?_ | (refine WL_Q ?_; (first | refine QW_of (Qt_ldX rfl (hn := by with_reducible assumption)) ?_ | refine QW_of (Qt_neqX rfl (by exact rfl) (by exact rfl) (by with_reducible assumption) (by with_reducible assumption)) ?_ | refine QW_of (Qt_eqlOp rfl) ?_)) | (refine RE ?_; try intro _) | refine RC ?_ | refine WG 3 ?_)
  exact ⟨rfl, _, _, Res1 rfl (resV_cellN rfl 0 rfl rfl), .cons _ (.refl _), rfl, rfl⟩
end Go.Proofs.YtncgndcepoicbaaGreat
namespace Go.Proofs.YtncgndcepoicbaaGreat
open Go.RowKit
theorem perm_k1 {α : Type} (x : α) (T8 T R : List α) : (x :: (T ++ (T8 ++ R))).Perm (T8 ++ (x :: (T ++ R))) := by
  classical
  rw [List.perm_iff_count]
  intro z
  simp only [List.count_append, List.count_cons]
  omega
attribute [local irreducible] Fn WC WL WR OW Qt YieldFn QW FnP FnD FnE
set_option maxHeartbeats 4000000 in
theorem cmds_fn {tb : Nat} {t : TbV} {L : List (Nat × Obj)} (h : TabIn tb L t) (hn : t.cmds.length ≤ 100000) (hB : ∀ x ∈ t.cmds, x.bins.length ≤ 1000) : Fn Tryz.prog 35 [.pointer (some ⟨tb, 0, none⟩)] L (fun v L' => ∃ X lc, L' = X ++ L ∧ VecM 10 X v t.cmds.length lc.flatten ∧ CmsAt X lc t.cmds) := by
  obtain ⟨cs, cv, sv, av, nv, rv, lc0, h1, h2, h3, h4, h5, h6, _⟩ := h.h
  obtain ⟨i, hi⟩ := List.mem_iff_getElem?.1 h1
  have hz := h2.z
  have hc9 := h2.c
  obtain ⟨_, ac, capc, rfl, _, _, _⟩ := id h3
  refine Fn_enter Tryz.func35 rfl Tryz.ntmps35 rfl fun g => ?_
  repeat (first | refine RQ ?_ | (refine WL_Q ?_; (first | refine QW_of (Qt_ldX rfl (hn := by with_reducible assumption)) ?_)) | refine RC ?_ | refine WG 0 ?_ | refine WG 1 ?_ | refine WG 3 ?_)
  refine WC_wk [(12, .int .i64 ((0 : Nat) : Int)), (11, .int .i64 (t.cmds.length : Nat)), (10, .slice ac t.cmds.length capc), (2, .slice none 0 0)] ⟨rfl, rfl, rfl, rfl, trivial⟩ ?_
  refine WC_loop (fun m σ => ∃ (k : Nat) (v : Value) (T W : List (Nat × Obj)) (lc : List (List Value)), m = t.cmds.length - k ∧ k ≤ t.cmds.length ∧ Buf 42 10 v T k lc.flatten ∧ CmsAt W lc (t.cmds.take k) ∧ σ = ⟨[(12, .int .i64 (k : Nat)), (11, .int .i64 (t.cmds.length : Nat)), (10, .slice ac t.cmds.length capc), (2, v)], [], T ++ (W ++ L)⟩) t.cmds.length ⟨0, _, [], [], [], rfl, Nat.zero_le _, Buf.nil _ _, trivial, rfl⟩ ?_
  rintro _ σ ⟨k, v, T, W, lc, rfl, hk, hT, hlc, rfl⟩
  obtain ⟨ar, cr, rfl, _, _⟩ := id hT.val
  by_cases hlt : k < t.cmds.length
  rotate_left
  · have e1 : decide ((k : Int) < ((t.cmds.length : Nat) : Int)) = false := decide_eq_false (by omega)
    repeat (first | refine RQ ?_ | (refine WL_Q ?_; (first | refine QW_of (Qt_ldX rfl (hn := by with_reducible assumption)) ?_)) | refine RC ?_ | refine WG 4 ?_ | refine WG 9 ?_)
    rw [List.take_of_length_le (by omega)] at hlc
    obtain rfl : k = t.cmds.length := by omega
    exact ⟨rfl, _, _, Res1 rfl (resV_tmp rfl), .refl _, T ++ W, lc, (List.append_assoc ..).symm, hT.vecM.mem fun q hq => List.mem_append_left _ hq, hlc.mem fun q hq => List.mem_append_right _ hq⟩
  have e1 : decide ((k : Int) < ((t.cmds.length : Nat) : Int)) = true := decide_eq_true (by omega)
  have p0 : (0 : Int) ≤ (k : Int) := by omega
  have p1 : ((k : Nat) : Int) < ((t.cmds.length : Nat) : Int) := by omega
  have w : IntKind.i64.wrap ((k : Int) + 1) = ((k + 1 : Nat) : Int) := by rw [wI64 (by omega) (by omega)]; omega
  obtain ⟨x, hx⟩ : ∃ x, t.cmds[k]? = some x := ⟨_, List.getElem?_eq_getElem hlt⟩
  have hxB := hB x (List.mem_of_getElem? hx)
  have hLm : ∀ q ∈ L, q ∈ T ++ (W ++ L) := fun q hq => List.mem_append_right _ (List.mem_append_right _ hq)
  obtain ⟨lb, lo, lcp, lcs, lE, lfr, li, e, _, _, hli, hlx⟩ := (h3.mem hLm).cell (by omega)
  cases e
  obtain ⟨bv, hcm, e10, z10⟩ := VecM.cmd hlx h4 hx
  have y1 : lo + ((k : Nat) : Int).toNat * 10 + 10 ≤ lcs.size := by rw [Int.toNat_natCast]; exact z10
  have v1 : lcs.extract (lo + ((k : Nat) : Int).toNat * 10) (lo + ((k : Nat) : Int).toNat * 10 + 10) = (cmC x bv).toArray := by rw [Int.toNat_natCast]; exact e10
  obtain ⟨bv0, hbv0, hvb, hxR⟩ := id hcm
  obtain rfl : bv = bv0 := by simpa [cmC] using hbv0
  obtain ⟨_, ab, cb, rfl, _, _, _⟩ := id hvb
  have hcz : (cmC x (.slice ab x.bins.length cb)).toArray.size = 10 := rfl
  have hca := hcm.all
  repeat (first | refine RQ ?_ | (refine WL_Q ?_; (first | refine QW_of (Qt_ldX rfl (hn := by with_reducible assumption)) ?_)) | (refine RE ?_; try intro _) | refine RC ?_ | refine WG 4 ?_ | refine WG 5 ?_)
  rw [v1]
  repeat (first | refine RQ ?_ | (refine WL_Q ?_; (first | refine QW_of (Qt_ldX rfl (hn := by with_reducible assumption)) ?_)) | (refine RE ?_; try intro _) | refine RC ?_ | refine WG 5 ?_)
  rename_i x4
  repeat (first | refine RQ ?_ | (refine WL_Q ?_; (first | refine QW_of (Qt_ldX rfl (hn := by with_reducible assumption)) ?_)) | (refine RE ?_; try intro _) | (refine WL_op rfl ?_; (first | (refine OW_call rfl (hF := cloneInt_fn (hvb.vec fun q hq => .tail _ (hLm q hq)) (iV_one _) (by omega)) (hk := ?_); rintro v8 _ ⟨T8, rfl, hT8⟩))) | refine RC ?_ | refine WG 6 ?_)
  obtain ⟨a8, c8, rfl, _, _⟩ := id hT8.val
  refine WL_permT (L' := (x4, Obj.cells (cmC x (.slice ab x.bins.length cb)).toArray 42 (0, 0)) :: (T ++ (T8 ++ (W ++ L)))) (perm_k1 ..) ?_
  repeat (first | refine RQ ?_ | (refine WL_Q ?_; (first | refine QW_of (Qt_ldX rfl (hn := by with_reducible assumption)) ?_)) | (refine RE ?_; try intro _) | (refine WL_op rfl ?_; (first | (refine OW_call rfl (hF := cloneInt_fn (hvb.vec fun q hq => .tail _ (hLm q hq)) (iV_one _) (by omega)) (hk := ?_); rintro v8 _ ⟨T8, rfl, hT8⟩))) | refine RC ?_ | refine WG 6 ?_)
  rw [cmC_set]
  have hcz8 : (cmC x (.slice a8 x.bins.length c8)).toArray.size = 10 := rfl
  have hca8 : ((cmC x (.slice a8 x.bins.length c8)).toArray.toList.all fun v => v.oneCell') = true := rfl
  repeat (first | refine RQ ?_ | (refine WL_Q ?_; (first | refine QW_of (Qt_ldX rfl (hn := by with_reducible assumption)) ?_)) | (refine RE ?_; try intro _) | refine RC ?_ | refine WG 7 ?_)
  rename_i xq
  have hll : lc.flatten.length = k * 10 := by rw [hlc.flat, List.length_take]; omega
  refine WL_op rfl (OW_append_buf (A := [(xq, Obj.cells (cmC x (.slice a8 x.bins.length c8)).toArray 42 (0, 0)), (x4, Obj.cells (cmC x (.slice a8 x.bins.length c8)).toArray 42 (0, 0))]) (T := T) (B := T8 ++ (W ++ L)) rfl rfl rfl rfl rfl hT (m := 1) (news := cmC x (.slice a8 x.bins.length c8)) (srcVec (sz := 10) ⟨rfl, _, _, rfl, Nat.le_refl _, by decide, .inr ⟨_, _, _, _, _, 0, rfl, rfl, fun j x hx => by rw [Nat.zero_add]; simpa using hx⟩⟩ (fun u hu => List.all_eq_true.1 hca8 u (by simpa using hu))) (by decide) (by simp only [maxLen]; omega) (by omega) fun v' T' hb' => ?_)
  simp only [List.nil_append, List.cons_append]
  obtain ⟨ar', cr', rfl, _, _⟩ := id hb'.val
  repeat (first | refine RQ ?_ | (refine WL_Q ?_; (first | refine QW_of (Qt_ldX rfl (hn := by with_reducible assumption)) ?_)) | (refine RE ?_; try intro _) | refine RC ?_ | refine WG 7 ?_ | refine WG 8 ?_)
  rw [w, ← List.append_assoc T8]
  refine ⟨_, _, by omega, ⟨k + 1, _, T', T8 ++ W, lc ++ [cmC x (.slice a8 x.bins.length c8)], rfl, by omega, ?_, ?_, rfl⟩, ⟨rfl, rfl, rfl, rfl, trivial⟩, rfl, .cons _ (.cons _ (.refl _))⟩
  · rw [List.flatten_append, List.flatten_cons, List.flatten_nil, List.append_nil]
    exact hb'
  · rw [List.take_add_one, hx]
    exact CmsAt.snoc ⟨_, rfl, hT8.vecM.mem fun q hq => List.mem_append_left _ hq, hxR⟩ (hlc.mem fun q hq => List.mem_append_right _ hq)
end Go.Proofs.YtncgndcepoicbaaGreat
