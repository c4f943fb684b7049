/-
  A part of what the last of these texts needs; by itself it proves no statement.
-/
import Derived.Test.YtncgndcepoicbaaGreatKL151
namespace Go.Proofs.YtncgndcepoicbaaGreat
open Go.RowKit
def rowB (t : TbV) (b : Int) : List (Int × Int) := if 0 ≤ b ∧ b ≤ 7 then (t.spans[b.toNat]?).getD [] else []
theorem rowB_in {t : TbV} (h : TbOk t) {b : Int} (hb : 0 ≤ b ∧ b ≤ 7) : t.spans[b.toNat]? = some (rowB t b) := by
  obtain ⟨row, hr, _⟩ := h.row (b := b.toNat) (by omega)
  rw [rowB, if_pos hb, hr]; rfl
theorem rowB_out {t : TbV} {b : Int} (hb : ¬ (0 ≤ b ∧ b ≤ 7)) : rowB t b = [] := if_neg hb
theorem RfC.ext {cs cs' : Array Value} {pv : Array Value} {c : CfV} {lv lv' : Value} {kn kn' : Int} {sv sv' : Nat → Value} (h : RfC cs pv c lv kn sv) (hz : cs'.size = cs.size) (h1 : (cs'.toList.all fun v => v.oneCell') = true) (hlow : ∀ j, j < 9 → cs'[j]? = cs[j]?) (hl : cs'[9]? = some lv') (hk : cs'[10]? = some (iV kn')) (hs : ∀ b, b < 8 → cs'[11 + b]? = some (sv' b)) : RfC cs' pv c lv' kn' sv' where
  z := by rw [hz]; exact h.z
  one := h1
  p := by
    rw [← h.p]
    apply Array.ext_getElem?
    intro j
    have hz1 := h.z
    rw [Array.getElem?_extract, Array.getElem?_extract]
    by_cases hj : j < 4
    · rw [if_pos (by omega), if_pos (by omega), hlow _ (by omega)]
    · rw [if_neg (by omega), if_neg (by omega)]
  c4 := by rw [hlow 4 (by decide)]; exact h.c4
  c5 := by rw [hlow 5 (by decide)]; exact h.c5
  c6 := by rw [hlow 6 (by decide)]; exact h.c6
  c7 := by rw [hlow 7 (by decide)]; exact h.c7
  c8 := by rw [hlow 8 (by decide)]; exact h.c8
  l := hl
  k := hk
  a := hs
theorem one_set {cs : Array Value} (h : (cs.toList.all fun v => v.oneCell') = true) (i : Nat) {v : Value} (hv : v.oneCell' = true) : ((cs.setIfInBounds i v).toList.all fun v => v.oneCell') = true := by
  rw [List.all_eq_true]
  intro x hx
  rw [Array.toList_setIfInBounds] at hx
  rcases List.mem_or_eq_of_mem_set hx with h2 | rfl
  · exact List.all_eq_true.1 h x h2
  · exact hv
theorem one_put {cs vs : Array Value} (h : (cs.toList.all fun v => v.oneCell') = true) (h2 : (vs.toList.all fun v => v.oneCell') = true) (i : Nat) : ((putR cs i vs).toList.all fun v => v.oneCell') = true := by
  rw [List.all_eq_true]
  intro x hx
  have hx : x ∈ cs.toList.take i ++ vs.toList ++ cs.toList.drop (i + vs.size) := hx
  rcases List.mem_append.1 hx with hx | hx
  · rcases List.mem_append.1 hx with hx | hx
    · exact List.all_eq_true.1 h x (List.mem_of_mem_take hx)
    · exact List.all_eq_true.1 h2 x hx
  · exact List.all_eq_true.1 h x (List.mem_of_mem_drop hx)
attribute [local irreducible] Fn WC WL WR OW Qt YieldFn QW FnP FnD FnE
set_option maxHeartbeats 8000000 in
theorem dSpans_fn {rb : Nat} {b : Int} {cs : Array Value} {p : PlV} {c : CfV} {l : List CmV} {G F : List (Nat × Obj)} (hR : RefAt cs G p c l) (hO : RfOk p c l) (hG : ∀ q ∈ G, q ∈ F) : Fn Tryz.prog 62 [.pointer (some ⟨rb, 0, none⟩), iV b] (rfO rb cs :: F) (fun v L' => ∃ cs' X, L' = rfO rb cs' :: (X ++ F) ∧ RefAt cs' (X ++ G) p c l ∧ VecM 2 (X ++ G) v (rowB (rchT p c l) b).length (spL (rowB (rchT p c l) b))) := by
  obtain ⟨pv, lv, lc, kn, sv, h1, h2, h3, h4, h5, h6⟩ := id hR
  have hl64 := hO.few
  have hT := hO.tb
  have hc9 := h1.l
  have hc10 := h1.k
  have hz := h1.z
  obtain ⟨_, al, cl, rfl, _, hcl, _⟩ := id h3
  refine Fn_enter Tryz.func62 rfl Tryz.ntmps62 rfl fun g => ?_
  by_cases b0 : b < 0
  · have d0 : decide (b < 0) = true := decide_eq_true b0
    repeat (first | refine RQ ?_ | ((first | refine WL_Q ?_ | refine WL_Y ?_); (first | refine QW_of (Qt_ldX rfl (hn := by with_reducible assumption)) ?_)) | refine RC ?_ | refine WG 0 ?_ | refine WG 1 ?_ | refine WG 2 ?_)
    exact ⟨rfl, _, _, Res1 rfl (resV_tmp rfl), .refl _, cs, [], rfl, hR, by rw [rowB_out (by omega)]; exact VecM.nil _ _⟩
  have d0 : decide (b < 0) = false := decide_eq_false b0
  by_cases b8 : b ≥ 8
  · have d8 : decide (b ≥ 8) = true := decide_eq_true b8
    repeat (first | refine RQ ?_ | ((first | refine WL_Q ?_ | refine WL_Y ?_); (first | refine QW_of (Qt_ldX rfl (hn := by with_reducible assumption)) ?_)) | refine RC ?_ | refine WG 0 ?_ | refine WG 1 ?_ | refine WG 2 ?_)
    exact ⟨rfl, _, _, Res1 rfl (resV_tmp rfl), .refl _, cs, [], rfl, hR, by rw [rowB_out (by omega)]; exact VecM.nil _ _⟩
  have d8 : decide (b ≥ 8) = false := decide_eq_false b8
  have hin : 0 ≤ b ∧ b ≤ 7 := by omega
  have hrow := rowB_in hT hin
  have q0 : (0 : Int) ≤ b := hin.1
  have q1 : b < ((8 : Nat) : Int) := by omega
  have wl : IntKind.i64.wrap (((l.length : Nat) : Int) + 1) = ((l.length : Nat) : Int) + 1 := wI64 (by omega) (by omega)
  by_cases hk : kn = (l.length : Int) + 1
  · have d1 : (kn != IntKind.i64.wrap (((l.length : Nat) : Int) + 1)) = false := by rw [wl, hk]; exact bne_self_eq_false _
    obtain ⟨_, hsp⟩ := h6 hk
    obtain ⟨row, e1, _, hv⟩ := hsp b.toNat (by omega)
    rw [hrow] at e1
    cases e1
    have hca := h1.a b.toNat (by omega)
    have hcb : cs[11 + b.toNat * 1]? = some (sv b.toNat) := by rw [Nat.mul_one]; exact hca
    obtain ⟨_, as_, cas, hsv, _, _, _⟩ := id hv
    rw [hsv] at hcb
    repeat (first | refine RQr ?_ | ((first | refine WL_Q ?_ | refine WL_Y ?_ | refine WR_Q rfl ?_ | refine WR_late rfl rfl rfl (OW_Q ?_) | refine WR_Y rfl ?_); (first | refine QW_of (Qt_ldX rfl (hn := by with_reducible assumption)) ?_)) | refine RC ?_ | refine RU ?_ | refine WC_draw_all (id := 3) 11 (Cs [0,1,2,3,4,5,6,7,8,9,10] <| .done) mixed (by kernel_rfl) ?_ | refine WG 0 ?_ | refine WG 1 ?_ | refine WG 6 ?_)
    exact ⟨rfl, _, _, Res1 rfl (resV_tmp rfl), .refl _, cs, [], rfl, hR, by rw [← hsv]; exact hv⟩
  have d1 : (kn != IntKind.i64.wrap (((l.length : Nat) : Int) + 1)) = true := by rw [wl]; simpa using hk
  repeat (first | refine RQr ?_ | ((first | refine WL_Q ?_ | refine WL_Y ?_ | refine WR_Q rfl ?_ | refine WR_late rfl rfl rfl (OW_Q ?_) | refine WR_Y rfl ?_); (first | refine QW_of (Qt_ldX rfl (hn := by with_reducible assumption)) ?_)) | ((first | refine WL_op rfl ?_ | refine WL_yes (h := ?_) | refine WR_late rfl rfl rfl ?_ | refine WR_opG rfl rfl ?_ | refine WR_opYG rfl (h := ?_)); (first | (refine OE ?_; try intro _) | (refine OW_call rfl (hF := dspans_fn (n := l.length) hR hO (Nat.le_refl _) (M := rfO rb cs :: F) (.head _) (fun q hq => .tail _ (hG q hq))) (hk := ?_); rintro _ _ ⟨rs, rfl, hrl, rfl, hrs⟩)); try refine SD ?_) | refine RC ?_ | refine RU ?_ | refine WC_draw_all (id := 3) 11 (Cs [0,1,2,3,4,5,6,7,8,9,10] <| .done) mixed (by kernel_rfl) ?_ | refine WG 0 ?_ | refine WG 1 ?_ | refine WG 4 ?_)
  refine WL_permT (L' := rfO rb cs :: (rowsL rs ++ F)) List.perm_middle.symm ?_
  have hro := rows_one hrs
  have hrz : (rs.map Prod.fst).toArray.size = 8 := by rw [List.size_toArray, List.length_map, hrl]
  repeat (first | refine RQ ?_ | (refine WL_Q ?_; (first | refine QW_of (Qt_ldX rfl (hn := by with_reducible assumption)) ?_)) | (refine RE ?_; try intro _) | (refine WL_op rfl ?_; (first | (refine OW_call rfl (hF := dspans_fn (n := l.length) hR hO (Nat.le_refl _) (M := rfO rb cs :: F) (.head _) (fun q hq => .tail _ (hG q hq))) (hk := ?_); rintro _ _ ⟨rs, rfl, hrl, rfl, hrs⟩))) | refine RC ?_ | refine WG 4 ?_)
  obtain ⟨vs, hvs⟩ : ∃ vs, vs = (rs.map Prod.fst).toArray := ⟨_, rfl⟩
  rw [← hvs] at hro hrz ⊢
  have hfit : 11 + vs.size ≤ cs.size := by rw [hrz, hz]; decide
  have hpz := putR_size cs vs 11 hfit
  have hp9 : (putR cs 11 vs)[9]? = some (.slice al l.length cl) := by rw [putR_get_out _ _ _ _ hfit (.inl (by decide))]; exact hc9
  have s10 : 10 < (putR cs 11 vs).size := by rw [hpz, hz]; decide
  obtain ⟨c2, hc2⟩ : ∃ c2, c2 = putR cs 11 vs := ⟨_, rfl⟩
  have hC2 : RfC c2 pv c (.slice al l.length cl) kn (fun b => (vs[b]?).getD (.slice none 0 0)) := by
    rw [hc2]
    refine h1.ext hpz (one_put h1.one hro 11) (fun j hj => putR_get_out _ _ _ _ hfit (.inl (by omega))) hp9 (by rw [putR_get_out _ _ _ _ hfit (.inl (by decide))]; exact hc10) fun b hb => ?_
    rw [putR_get_in _ _ _ _ hfit (by rw [hrz]; exact hb)]
    obtain ⟨y, hy⟩ : ∃ y, vs[b]? = some y := ⟨_, Array.getElem?_eq_getElem (by rw [hrz]; exact hb)⟩
    rw [hy]; rfl
  rw [← hc2] at hp9 s10 ⊢
  repeat (first | refine RQ ?_ | (refine WL_Q ?_; (first | refine QW_of (Qt_ldX rfl (hn := by with_reducible assumption)) ?_)) | (refine RE ?_; try intro _) | refine RC ?_ | refine WG 5 ?_)
  rw [wl]
  obtain ⟨c3, hc3⟩ : ∃ c3, c3 = c2.setIfInBounds 10 (iV (((l.length : Nat) : Int) + 1)) := ⟨_, rfl⟩
  have hC3 : RfC c3 pv c (.slice al l.length cl) (((l.length : Nat) : Int) + 1) (fun b => (vs[b]?).getD (.slice none 0 0)) := by
    rw [hc3]
    refine hC2.ext (by rw [Array.size_setIfInBounds]) (one_set hC2.one 10 rfl) (fun j hj => by rw [Array.getElem?_setIfInBounds_ne (by omega)]) (by rw [Array.getElem?_setIfInBounds_ne (by omega)]; exact hC2.l) (by rw [Array.getElem?_setIfInBounds_self_of_lt s10]) fun b hb => by rw [Array.getElem?_setIfInBounds_ne (by omega)]; exact hC2.a b hb
  rw [← hc3]
  have htk : l.take l.length = l := List.take_length
  rw [htk] at hrs
  obtain ⟨vr, Tr, hvr, hbr⟩ := hrs.get hrow
  obtain ⟨ar, cr, rfl, _, _⟩ := id hbr.val
  have hca := hC3.a b.toNat (by omega)
  have hcb : c3[11 + b.toNat * 1]? = some (.slice ar (rowB (rchT p c l) b).length cr) := by
    rw [Nat.mul_one, hca, hvs, List.getElem?_toArray, List.getElem?_map, hvr]; rfl
  repeat (first | refine RQ ?_ | (refine WL_Q ?_; (first | refine QW_of (Qt_ldX rfl (hn := by with_reducible assumption)) ?_)) | refine RC ?_ | refine WG 6 ?_)
  refine ⟨rfl, _, _, Res1 rfl (resV_tmp rfl), .refl _, c3, rowsL rs, rfl, ⟨pv, _, lc, _, _, hC3, h2.mem fun q hq => List.mem_append_right _ hq, h3.mem fun q hq => List.mem_append_right _ hq, h4.mem fun q hq => List.mem_append_right _ hq, ⟨by omega, Int.le_refl _⟩, fun _ => ⟨hT.eight, fun bb hbb => ?_⟩⟩, hbr.vecM.mem fun q hq => List.mem_append_left _ (rows_mem hvr q hq)⟩
  obtain ⟨row, hr2, hro2⟩ := hT.row hbb
  obtain ⟨v2, T2, hv2, hb2⟩ := hrs.get hr2
  refine ⟨row, hr2, hro2.ne, ?_⟩
  have e : (vs[bb]?).getD (.slice none 0 0) = v2 := by rw [hvs, List.getElem?_toArray, List.getElem?_map, hv2]; rfl
  show VecM 2 _ ((vs[bb]?).getD (.slice none 0 0)) _ _
  rw [e]
  exact hb2.vecM.mem fun q hq => List.mem_append_left _ (rows_mem hv2 q hq)
end Go.Proofs.YtncgndcepoicbaaGreat
namespace Go.Proofs.YtncgndcepoicbaaGreat
open Go.RowKit
attribute [local irreducible] Fn WC WL WR OW Qt YieldFn QW FnP FnD FnE
set_option maxHeartbeats 4000000 in
theorem dhas_fn {xs : List Int} {y : Int} {v : Value} {L : List (Nat × Obj)} (hv : VecM 1 L v xs.length (xs.map iV)) : Fn Tryz.prog 61 [v, iV y] L (fun r L' => r = .bool (decide (y ∈ xs)) ∧ L' = L) := by
  obtain ⟨_, a1, cap1, rfl, hc1, hm1, _⟩ := id hv
  refine Fn_enter Tryz.func61 rfl Tryz.ntmps61 rfl fun g => ?_
  repeat (first | refine RQ ?_ | (refine WL_Q ?_; (first | refine QW_of (Qt_ldX rfl (hn := by with_reducible assumption)) ?_)) | refine RC ?_ | refine WG 0 ?_ | refine WG 1 ?_)
  refine WC_wk [(5, .int .i64 ((0 : Nat) : Int)), (0, .slice a1 xs.length cap1), (1, iV y)] ⟨rfl, rfl, rfl, trivial⟩ ?_
  refine WC_loop (fun m σ => ∃ k : Nat, m = xs.length - k ∧ k ≤ xs.length ∧ y ∉ xs.take k ∧ σ = ⟨[(5, .int .i64 (k : Nat)), (0, .slice a1 xs.length cap1), (1, iV y)], [], L⟩) xs.length ⟨0, rfl, Nat.zero_le _, by simp, rfl⟩ ?_
  rintro _ σ ⟨k, rfl, hk, htk, rfl⟩
  by_cases hlt : k < xs.length
  rotate_left
  · have e1 : decide ((k : Int) < ((xs.length : Nat) : Int)) = false := decide_eq_false (by omega)
    repeat (first | refine RQ ?_ | (refine WL_Q ?_; (first | refine QW_of (Qt_ldX rfl (hn := by with_reducible assumption)) ?_)) | refine RC ?_ | refine WG 2 ?_ | refine WG 6 ?_)
    refine ⟨rfl, _, _, Res1 rfl (resV_tmp rfl), .refl _, ?_, rfl⟩
    rw [List.take_of_length_le (by omega)] at htk
    rw [decide_eq_false htk]
  have e1 : decide ((k : Int) < ((xs.length : Nat) : Int)) = true := decide_eq_true (by omega)
  obtain ⟨b1, o1, q1, c1, E1, f1, i1, e, _, _, hi1, hx1⟩ := hv.cell (by omega)
  cases e
  obtain ⟨x, hx⟩ : ∃ x, xs[k]? = some x := ⟨_, List.getElem?_eq_getElem hlt⟩
  have v1 : c1[o1 + ((k : Nat) : Int).toNat * 1]? = some (iV x) := by rw [Int.toNat_natCast, Nat.mul_one]; exact hx1 k _ (by rw [List.getElem?_map, hx]; rfl)
  have p0 : (0 : Int) ≤ (k : Int) := by omega
  have p1 : ((k : Nat) : Int) < ((xs.length : Nat) : Int) := by omega
  have w : IntKind.i64.wrap ((k : Int) + 1) = ((k + 1 : Nat) : Int) := by rw [wI64 (by omega) (by simp only [maxLen] at hm1; omega)]; omega
  by_cases hxy : x = y
  · have d2 : (x == y) = true := by simpa using hxy
    repeat (first | refine RQ ?_ | (refine WL_Q ?_; (first | refine QW_of (Qt_ldX rfl (hn := by with_reducible assumption)) ?_)) | refine RC ?_ | refine WG 2 ?_ | refine WG 4 ?_ | refine WG 5 ?_)
    exact ⟨rfl, _, _, Res1 rfl (resV_tmp rfl), .refl _, by rw [decide_eq_true (hxy ▸ List.mem_of_getElem? hx)], rfl⟩
  · have d2 : (x == y) = false := by simpa using hxy
    repeat (first | refine RQ ?_ | (refine WL_Q ?_; (first | refine QW_of (Qt_ldX rfl (hn := by with_reducible assumption)) ?_)) | refine RC ?_ | refine WG 2 ?_ | refine WG 4 ?_ | refine WG 3 ?_)
    rw [w]
    refine ⟨_, _, by omega, ⟨k + 1, rfl, by omega, ?_, rfl⟩, ⟨rfl, rfl, rfl, trivial⟩, rfl, .refl _⟩
    rw [List.take_add_one, hx, List.mem_append]
    rintro (h | h)
    · exact htk h
    · exact hxy (List.mem_singleton.1 h).symm
theorem dActive_fn {rb : Nat} {cs : Array Value} {p : PlV} {c : CfV} {l : List CmV} {G : List (Nat × Obj)} (hR : RefAt cs G p c l) (hO : RfOk p c l) {M : List (Nat × Obj)} (hM : rfO rb cs ∈ M) (hG : ∀ q ∈ G, q ∈ M) : Fn Tryz.prog 59 [.pointer (some ⟨rb, 0, none⟩)] M (fun v L' => ∃ T, L' = T ++ M ∧ BufI v T (rchT p c l).act) := by
  obtain ⟨pv, lv, lc, kn, sv, h1, h2, h3, h4, h5, h6⟩ := id hR
  have hc9 := h1.l
  obtain ⟨_, al, cl, rfl, _, hcl, _⟩ := id h3
  obtain ⟨i0, hi0⟩ := List.mem_iff_getElem?.1 hM
  refine Fn_enter Tryz.func59 rfl Tryz.ntmps59 rfl fun g => ?_
  repeat (first | refine RQ ?_ | (refine WL_Q ?_; (first | refine QW_of (Qt_ldX rfl (hn := by with_reducible assumption)) ?_)) | (refine WL_op rfl ?_; (first | (refine OW_call rfl (hF := dactive_fn (n := l.length) hR hO (Nat.le_refl _) hM hG) (hk := ?_); rintro v _ ⟨T, rfl, hT⟩))) | refine RC ?_ | refine WC_region ?_)
  rw [List.take_length] at hT
  exact ⟨rfl, _, _, Res1 rfl (resV_tmp rfl), .refl _, T, rfl, hT⟩
set_option maxHeartbeats 8000000 in
theorem dReplace_fn {rb : Nat} {x : CmV} {bv : Value} {cs : Array Value} {p : PlV} {c : CfV} {l : List CmV} {G M : List (Nat × Obj)} (hR : RefAt cs G p c l) (hO : RfOk p c l) (hM : rfO rb cs ∈ M) (hG : ∀ q ∈ G, q ∈ M) : Fn Tryz.prog 63 [.pointer (some ⟨rb, 0, none⟩), .agg (cmC x bv).toArray] M (fun v L' => ∃ X, L' = X ++ M ∧ v = iV (replF (rchT p c l) x)) := by
  obtain ⟨pv, lv, lc, kn, sv, h1, h2, h3, h4, h5, h6⟩ := id hR
  have hnd := hO.nds
  have h14 := hO.tb.nds
  rw [hnd] at h14
  have hn14 : (nodesL p).length ≤ 1000 := by rw [opsL, List.length_map] at h14; omega
  have hxp := h1.p
  have hxz : 0 + 4 ≤ cs.size := by rw [h1.z]; decide
  have hsz : (cmC x bv).toArray.size = 10 := rfl
  have hxo : (cmC x bv).toArray.extract 5 (5 + 4) = opC x.op.1 x.op.2.1 x.op.2.2.1 x.op.2.2.2 := rfl
  have hxs : 5 + 4 ≤ (cmC x bv).toArray.size := Nat.le_of_ble_eq_true rfl
  obtain ⟨i0, hi0⟩ := List.mem_iff_getElem?.1 hM
  refine Fn_enter Tryz.func63 rfl Tryz.ntmps63 rfl fun g => ?_
  repeat (first | refine RQ ?_ | (refine WL_Q ?_; (first | refine QW_of (Qt_ldX rfl (hn := by with_reducible assumption)) ?_)) | (refine RE ?_; try intro _) | refine RC ?_ | refine WG 0 ?_)
  rename_i x3
  have hi1 : ((x3, Obj.cells (cmC x bv).toArray 42 (0, 0)) :: M)[i0 + 1]? = some (rfO rb cs) := hi0
  repeat (first | refine RQ ?_ | (refine WL_Q ?_; (first | refine QW_of (Qt_ldX rfl (hn := by with_reducible assumption)) ?_)) | refine RC ?_ | refine WG 1 ?_)
  rw [hxp]
  refine WL_op rfl (OW_call rfl (hF := dNodes_fn (h2.mem fun q hq => .tail _ (hG q hq)) hn14) (hk := ?_))
  rintro v8 _ ⟨T, X, rfl, hT⟩
  obtain ⟨a8, c8, rfl, _, _⟩ := id hT.val
  repeat (first | refine RQ ?_ | (refine WL_Q ?_; (first | refine QW_of (Qt_ldX rfl (hn := by with_reducible assumption)) ?_)) | refine RC ?_ | refine WG 1 ?_)
  refine WC_permT (L' := (x3, Obj.cells (cmC x bv).toArray 42 (0, 0)) :: (T ++ (X ++ M))) ?_ ?_
  · rw [← List.append_assoc, ← List.append_assoc]
    exact List.perm_middle.symm
  refine WC_wk [(5, .slice a8 (opsL p).length c8), (3, .pointer (some ⟨x3, 0, none⟩))] ⟨rfl, rfl, trivial⟩ ?_
  unfold replF
  rw [hnd]
  by_cases n0 : x.node < 0
  · have d0 : decide (x.node < 0) = true := decide_eq_true n0
    rw [if_pos (by omega)]
    repeat (first | refine RQ ?_ | ((first | refine WL_Q ?_ | refine WL_Y ?_); (first | refine QW_of (Qt_ldX rfl (hn := by with_reducible assumption)) ?_)) | refine RC ?_ | refine WG 2 ?_ | refine WG 3 ?_)
    exact ⟨rfl, _, _, Res1 rfl (resV_tmp rfl), .cons _ (.refl _), T ++ X, by rw [List.append_assoc], rfl⟩
  have d0 : decide (x.node < 0) = false := decide_eq_false n0
  by_cases n1 : x.node ≥ ((opsL p).length : Int)
  · have d1 : decide (x.node ≥ (((opsL p).length : Nat) : Int)) = true := decide_eq_true n1
    rw [if_pos (by omega)]
    repeat (first | refine RQ ?_ | ((first | refine WL_Q ?_ | refine WL_Y ?_); (first | refine QW_of (Qt_ldX rfl (hn := by with_reducible assumption)) ?_)) | refine RC ?_ | refine WG 2 ?_ | refine WG 3 ?_)
    exact ⟨rfl, _, _, Res1 rfl (resV_tmp rfl), .cons _ (.refl _), T ++ X, by rw [List.append_assoc], rfl⟩
  have d1 : decide (x.node ≥ (((opsL p).length : Nat) : Int)) = false := decide_eq_false n1
  by_cases m0 : x.mode < 0
  · have d2 : decide (x.mode < 0) = true := decide_eq_true m0
    rw [if_pos (by omega)]
    repeat (first | refine RQ ?_ | ((first | refine WL_Q ?_ | refine WL_Y ?_); (first | refine QW_of (Qt_ldX rfl (hn := by with_reducible assumption)) ?_)) | refine RC ?_ | refine WG 2 ?_ | refine WG 3 ?_)
    exact ⟨rfl, _, _, Res1 rfl (resV_tmp rfl), .cons _ (.refl _), T ++ X, by rw [List.append_assoc], rfl⟩
  have d2 : decide (x.mode < 0) = false := decide_eq_false m0
  by_cases m2 : x.mode > 2
  · have d3 : decide (x.mode > 2) = true := decide_eq_true m2
    rw [if_pos (by omega)]
    repeat (first | refine RQ ?_ | ((first | refine WL_Q ?_ | refine WL_Y ?_); (first | refine QW_of (Qt_ldX rfl (hn := by with_reducible assumption)) ?_)) | refine RC ?_ | refine WG 2 ?_ | refine WG 3 ?_)
    exact ⟨rfl, _, _, Res1 rfl (resV_tmp rfl), .cons _ (.refl _), T ++ X, by rw [List.append_assoc], rfl⟩
  have d3 : decide (x.mode > 2) = false := decide_eq_false m2
  rw [if_neg (by omega)]
  cases hop : x.op.ok
  · have d4 : ((if opF x.op.1 x.op.2.1 x.op.2.2.1 x.op.2.2.2 = true then (0 : Int) else 13) != 0) = true := by rw [if_neg (by rw [show opF x.op.1 x.op.2.1 x.op.2.2.1 x.op.2.2.2 = false from hop]; decide)]; rfl
    rw [if_pos rfl]
    repeat (first | refine RQ ?_ | ((first | refine WL_Q ?_ | refine WL_Y ?_); (first | refine QW_of (Qt_ldX rfl (hn := by with_reducible assumption)) ?_)) | ((first | refine WL_op rfl ?_ | refine WL_yes (h := ?_)); (first | refine OW_callP rfl (hF := dCheck_fn) (hk := ?_))) | refine RC ?_ | refine WG 2 ?_ | refine WG 4 ?_ | refine WG 5 ?_)
    exact ⟨rfl, _, _, Res1 rfl (resV_tmp rfl), .cons _ (.refl _), T ++ X, by rw [List.append_assoc], rfl⟩
  have d4 : ((if opF x.op.1 x.op.2.1 x.op.2.2.1 x.op.2.2.2 = true then (0 : Int) else 13) != 0) = false := by rw [if_pos (show opF x.op.1 x.op.2.1 x.op.2.2.1 x.op.2.2.2 = true from hop)]; rfl
  rw [if_neg (by decide)]
  obtain ⟨o, ho⟩ : ∃ o, (opsL p)[x.node.toNat]? = some o := ⟨_, List.getElem?_eq_getElem (by omega)⟩
  obtain ⟨gb, go, gc, gcs, gE, gfr, gi, e2, _, _, hgi, hgx⟩ := (hT.vecM.mem (G' := (x3, Obj.cells (cmC x bv).toArray 42 (0, 0)) :: (T ++ (X ++ M))) fun q hq => .tail _ (List.mem_append_left _ hq)).cell (by omega)
  cases e2
  obtain ⟨hx1, hx2⟩ := opL_ext hgx ho
  have p0 : (0 : Int) ≤ x.node := by omega
  have p1 : x.node < (((opsL p).length : Nat) : Int) := by omega
  rw [ho]
  repeat (first | refine RQr ?_ | ((first | refine WL_Q ?_ | refine WL_Y ?_ | refine WR_Q rfl ?_ | refine WR_late rfl rfl rfl (OW_Q ?_) | refine WR_Y rfl ?_); (first | refine QW_of (Qt_ldX rfl (hn := by with_reducible assumption)) ?_)) | ((first | refine WL_op rfl ?_ | refine WL_yes (h := ?_) | refine WR_late rfl rfl rfl ?_ | refine WR_opG rfl rfl ?_ | refine WR_opYG rfl (h := ?_)); (first | refine OW_callP rfl (hF := dCheck_fn) (hk := ?_) | refine OW_callP rfl (hF := dClass_fn) (hk := ?_)); try refine SD ?_) | refine RC ?_ | refine RU ?_ | refine WC_draw_all (id := 6) 10 (Cs [0,1,3,4,5,6,7] <| .must 2 <| .must 8 <| .calm 9 <| .done) mixed (by kernel_rfl) ?_ | refine WG 2 ?_ | refine WG 4 ?_)
  rw [hx1]
  show WR _ _ _ _ _ _ _
  by_cases hc : clsF x.op.1 = clsF o.1
  · have d5 : (clsF x.op.1 != clsF o.1) = false := by simpa using hc
    rw [if_neg (show ¬ clsF x.op.1 ≠ clsF ((some o).getD (0, 0, 0, 0)).1 from fun h => h hc)]
    repeat (first | refine RQr ?_ | (refine RX ?_; (first | refine QW_of (Qt_ldX rfl (hn := by with_reducible assumption)) ?_)) | (refine OX ?_; (first | refine OW_callP rfl (hF := dClass_fn) (hk := ?_)); try refine SD ?_) | refine RC ?_ | refine RU ?_ | refine WC_draw_all (id := 6) 10 (Cs [0,1,3,4,5,6,7] <| .must 2 <| .must 8 <| .calm 9 <| .done) mixed (by kernel_rfl) ?_ | refine WG 8 ?_)
    exact ⟨rfl, _, _, Res1 rfl (resV_tmp rfl), .cons _ (.refl _), T ++ X, by rw [List.append_assoc], rfl⟩
  · have d5 : (clsF x.op.1 != clsF o.1) = true := by simpa using hc
    rw [if_pos (show clsF x.op.1 ≠ clsF ((some o).getD (0, 0, 0, 0)).1 from hc)]
    repeat (first | refine RQr ?_ | (refine RX ?_; (first | refine QW_of (Qt_ldX rfl (hn := by with_reducible assumption)) ?_)) | (refine OX ?_; (first | refine OW_callP rfl (hF := dClass_fn) (hk := ?_)); try refine SD ?_) | refine RC ?_ | refine RU ?_ | refine WC_draw_all (id := 6) 10 (Cs [0,1,3,4,5,6,7] <| .must 2 <| .must 8 <| .calm 9 <| .done) mixed (by kernel_rfl) ?_ | refine WG 7 ?_)
    exact ⟨rfl, _, _, Res1 rfl (resV_tmp rfl), .cons _ (.refl _), T ++ X, by rw [List.append_assoc], rfl⟩
end Go.Proofs.YtncgndcepoicbaaGreat
