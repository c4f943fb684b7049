/-
  A part of what the last of these texts needs; by itself it proves no statement.
-/
import Derived.Test.YtncgndcepoicbaaGreatKL142
namespace Go.Proofs.YtncgndcepoicbaaGreat
open Go.RowKit
theorem giveK_snoc {at_ : Int} {to : List Int} : ∀ {k : Nat} {l : List Int} {b : Int} {sp : List (List (Int × Int))}, giveK at_ to k (l ++ [b]) sp = (giveK at_ to k l sp).set b.toNat ((((giveK at_ to k l sp)[b.toNat]?).getD []) ++ [(at_, (to[(k + l.length) % to.length]?).getD 0)])
  | k, [], b, sp => rfl
  | k, x :: l, b, sp => by
    rw [List.cons_append, giveK, giveK, giveK_snoc (k := k + 1), List.length_cons, show k + 1 + l.length = k + (l.length + 1) by omega]
structure GoesTo (t : TbV) (x : CmV) (bins to : List Int) : Prop where
  sp : (addF t x).spans = giveK x.at_ to 0 bins t.spans
  pw : bins.Pairwise (· < ·)
  in_ : ∀ b ∈ bins, 0 ≤ b ∧ b < 8
  ne : bins ≠ [] → to ≠ []
theorem GoesTo.len {t : TbV} {x : CmV} {bins to : List Int} (h : GoesTo t x bins to) : bins.length ≤ 8 := by
  have := pw_bound (a := 0) (b := 7) h.pw fun b hb => by have := h.in_ b hb; omega
  split at this <;> omega
theorem goes0 {t : TbV} {x : CmV} {fl : Int} (h : tryF t x fl = 0) (k : x.kind = 0) : GoesTo t x x.bins [x.to] := by
  have hr : risF (-1) x.bins = true := tryF_move h k
  obtain ⟨r1, r2⟩ := risF_all hr
  exact ⟨by unfold addF giveF; rw [if_pos k, if_neg (by simp)], r1, fun b hb => by have := r2 b hb; omega, fun _ => by simp⟩
theorem goes2 {t : TbV} (hT : TbOk t) {x : CmV} {fl : Int} (h : tryF t x fl = 0) (k : x.kind = 2) : GoesTo t x (ofF t.spans x.to) (addF t x).act := by
  have hne := (addF_ok hT h).ne
  have e : (addF t x).act = t.act.filter (fun w => !(w == x.to)) := by unfold addF; rw [if_neg (by omega), if_neg (by omega), if_pos k]
  refine ⟨?_, ofF_rise _ _, fun b hb => (ofF_mem.1 hb).1, fun _ => hne⟩
  rw [e] at hne ⊢
  unfold addF giveF
  rw [if_neg (by omega), if_neg (by omega), if_pos k, if_neg hne]
theorem goes13 {t : TbV} {x : CmV} {fl : Int} (h : tryF t x fl = 0) (k0 : x.kind ≠ 0) (k2 : x.kind ≠ 2) : GoesTo t x [] [] := by
  refine ⟨?_, .nil, by simp, fun h => absurd rfl h⟩
  have := tryF_kind h
  unfold addF
  rw [if_neg k0]
  by_cases k1 : x.kind = 1
  · rw [if_pos k1]; rfl
  · rw [if_neg k1, if_neg k2]; rfl
theorem Rows.get {E : Nat} {rs : List (Value × List (Nat × Obj))} {sp : List (List (Int × Int))} (h : Rows E 2 rs (sp.map spL)) {b : Nat} {row : List (Int × Int)} (hr : sp[b]? = some row) : ∃ v T, rs[b]? = some (v, T) ∧ Buf E 2 v T row.length (spL row) := by
  obtain ⟨v, T, n, h1, h2⟩ := h.at (k := b) (xs := spL row) (by rw [List.getElem?_map, hr]; rfl)
  have : n = row.length := by have := h2.len; rw [spL_len] at this; omega
  subst this
  exact ⟨v, T, h1, h2⟩
theorem rows_mem {rs : List (Value × List (Nat × Obj))} {b : Nat} {v : Value} {T : List (Nat × Obj)} (h : rs[b]? = some (v, T)) : ∀ q ∈ T, q ∈ rowsL rs := fun _ hq => List.mem_flatMap.2 ⟨_, List.mem_of_getElem? h, hq⟩
theorem rows_one {E : Nat} {rs : List (Value × List (Nat × Obj))} {xss : List (List Value)} (h : Rows E 2 rs xss) : ((rs.map Prod.fst).toArray.toList.all fun v => v.oneCell') = true := by
  rw [List.all_eq_true]
  intro x hx
  obtain ⟨r, hr, rfl⟩ := List.mem_map.1 (show x ∈ rs.map Prod.fst from hx)
  obtain ⟨j, hj⟩ := List.mem_iff_getElem?.1 hr
  have hl : j < xss.length := by rw [← h.1]; exact (List.getElem?_eq_some_iff.1 hj).1
  obtain ⟨n, hb⟩ := h.2 j r _ hj (List.getElem?_eq_getElem hl)
  obtain ⟨a, c, e, _⟩ := hb.val
  rw [e]; rfl
theorem perm_x1 {α : Type} (x a b : α) (T R M : List α) : (x :: a :: b :: (R ++ (T ++ M))).Perm (T ++ x :: a :: b :: (R ++ M)) := by
  classical
  rw [List.perm_iff_count]
  intro z
  simp only [List.count_append, List.count_cons]
  omega
theorem perm_x2 {α : Type} (q x a b : α) (R M : List α) : (x :: a :: b :: (R ++ (q :: M))).Perm (q :: x :: a :: b :: (R ++ M)) := by
  classical
  rw [List.perm_iff_count]
  intro z
  simp only [List.count_append, List.count_cons]
  omega
attribute [local irreducible] Fn WC WL WR OW Qt YieldFn QW FnP FnD FnE
set_option maxHeartbeats 8000000 in
theorem dspans_fn {rb n : Nat} {cs : Array Value} {p : PlV} {c : CfV} {l : List CmV} {G : List (Nat × Obj)} (hR : RefAt cs G p c l) (hO : RfOk p c l) (hn : n ≤ l.length) {M : List (Nat × Obj)} (hM : rfO rb cs ∈ M) (hG : ∀ q ∈ G, q ∈ M) : Fn Tryz.prog 116 [.pointer (some ⟨rb, 0, none⟩), iV n] M (fun v L' => ∃ rs, v = .agg (rs.map Prod.fst).toArray ∧ rs.length = 8 ∧ L' = rowsL rs ++ M ∧ Rows 76 2 rs ((rchT p c (l.take n)).spans.map spL)) := by
  obtain ⟨pv, lv, lc, kn, sv, h1, h2, h3, h4, h5, h6⟩ := id hR
  have hl64 := hO.few
  have hc5 := h1.c5
  have hc9 := h1.l
  obtain ⟨_, al, cl, rfl, _, hcl, _⟩ := id h3
  obtain ⟨i0, hi0⟩ := List.mem_iff_getElem?.1 hM
  have hr := of_decide_eq_true hO.cf
  obtain ⟨a, ha⟩ : ∃ a : Nat, c.2.1 = (a : Int) := ⟨c.2.1.toNat, by omega⟩
  refine Fn_enter Tryz.func116 rfl Tryz.ntmps116 rfl fun g => ?_
  repeat (first | refine RQ ?_ | (refine WL_Q ?_; (first | refine QW_of (Qt_ldX rfl (hn := by with_reducible assumption)) ?_)) | (refine RE ?_; try intro _) | refine RC ?_ | refine WG 0 ?_ | refine WG 1 ?_)
  rename_i x4 x5
  have hi2 : ∀ q1 q2 : Nat × Obj, (q1 :: q2 :: M)[i0 + 2]? = some (rfO rb cs) := fun _ _ => hi0
  have hi2' := hi2 (x5, Obj.cells zc107 107 (0, 0)) (x4, Obj.cells zc107 107 (0, 0))
  repeat (first | refine RQ ?_ | (refine WL_Q ?_; (first | refine QW_of (Qt_ldX rfl (hn := by with_reducible assumption)) ?_)) | (refine RE ?_; try intro _) | refine RC ?_ | refine WG 2 ?_)
  rw [ha]
  obtain ⟨to0, hto0⟩ : ∃ to0 : List Int, to0 = [1, 2, 3].take a := ⟨_, rfl⟩
  have htl : to0.length = a := by rw [hto0, List.length_take]; simp; omega
  refine WL_op rfl (OW_call rfl (hF := dFirst_fn (n := a) (by omega) (by omega)) (hk := ?_))
  rintro _ _ ⟨rfl, rfl⟩
  rw [← hto0]
  have hfz : ((turnsL to0 8).map iV).toArray.size = 8 := by rw [List.size_toArray, List.length_map, turnsL_len]
  have hfo : (((turnsL to0 8).map iV).toArray.toList.all fun v => v.oneCell') = true := by
    rw [List.all_eq_true]
    intro x hx
    obtain ⟨y, _, rfl⟩ := List.mem_map.1 (by simpa using hx)
    rfl
  repeat (first | refine RQ ?_ | (refine WL_Q ?_; (first | refine QW_of (Qt_ldX rfl (hn := by with_reducible assumption)) ?_)) | (refine RE ?_; try intro _) | refine RC ?_ | refine WG 2 ?_ | refine WG 3 ?_)
  rename_i x6
  have hz8 : (zc107 : Array Value) = (((([] : List (Value × List (Nat × Obj))) ++ List.replicate (8 - 0) (Value.slice Option.none 0 0, []))).map Prod.fst).toArray := rfl
  obtain ⟨zv, hzv⟩ : ∃ zv : Array Value, zv = zc107 := ⟨_, rfl⟩
  have hzs : zv.size = 8 := by rw [hzv]; rfl
  refine WC_permT (L' := (x6, Obj.cells ((turnsL to0 8).map iV).toArray 61 (0, 0)) :: (x5, Obj.cells (((([] : List (Value × List (Nat × Obj))) ++ List.replicate (8 - 0) (Value.slice Option.none 0 0, []))).map Prod.fst).toArray 107 (0, 0)) :: (x4, Obj.cells zv 107 (0, 0)) :: (rowsL [] ++ M)) (by rw [hzv]; exact .refl _) ?_
  obtain ⟨t0, ht0⟩ : ∃ t0, t0 = newT p c := ⟨_, rfl⟩
  have hsp0 : t0.spans = (turnsL to0 8).map fun w => [(0, w)] := by
    rw [ht0, hto0]
    show ((turnsL ([1, 2, 3].take c.2.1.toNat) 8).map fun w => [(0, w)]) = _
    rw [ha]; rfl
  have hl8 : t0.spans.length = 8 := by rw [hsp0, List.length_map, turnsL_len]
  refine WC_wk [(7, iV ((0 : Nat) : Int)), (6, .pointer (some ⟨x6, 0, none⟩)), (5, .pointer (some ⟨x5, 0, none⟩)), (4, .pointer (some ⟨x4, 0, none⟩)), (0, .pointer (some ⟨rb, 0, none⟩)), (1, iV (n : Int))] ⟨rfl, rfl, rfl, rfl, rfl, rfl, trivial⟩ ?_
  refine WC_loop (fun m σ => ∃ (k : Nat) (dn : List (Value × List (Nat × Obj))), m = 8 - k ∧ k ≤ 8 ∧ Rows 76 2 dn ((t0.spans.take k).map spL) ∧ σ = ⟨[(7, iV (k : Int)), (6, .pointer (some ⟨x6, 0, none⟩)), (5, .pointer (some ⟨x5, 0, none⟩)), (4, .pointer (some ⟨x4, 0, none⟩)), (0, .pointer (some ⟨rb, 0, none⟩)), (1, iV (n : Int))], [], (x6, Obj.cells ((turnsL to0 8).map iV).toArray 61 (0, 0)) :: (x5, Obj.cells ((dn ++ List.replicate (8 - k) (Value.slice Option.none 0 0, [])).map Prod.fst).toArray 107 (0, 0)) :: (x4, Obj.cells zv 107 (0, 0)) :: (rowsL dn ++ M)⟩) 8 ⟨0, [], rfl, by decide, ⟨rfl, by simp⟩, rfl⟩ ?_
  rintro _ σ ⟨k, dn, rfl, hk, hdn, rfl⟩
  have hdl : dn.length = k := by rw [hdn.1, List.length_map, List.length_take]; omega
  by_cases hlt : k < 8
  · have d1 : decide ((k : Int) < 8) = true := decide_eq_true (by omega)
    have w : IntKind.i64.wrap ((k : Int) + 1) = ((k + 1 : Nat) : Int) := by rw [wI64 (by omega) (by omega)]; omega
    have p0 : (0 : Int) ≤ (k : Int) := by omega
    have p1 : (k : Int) < ((8 : Nat) : Int) := by omega
    obtain ⟨wv, hwv⟩ : ∃ wv, wv = (to0[k % to0.length]?).getD 0 := ⟨_, rfl⟩
    have hvs : ((turnsL to0 8).map iV).toArray[((k : Nat) : Int).toNat * 1]? = some (iV wv) := by
      rw [Nat.mul_one, Int.toNat_natCast, List.getElem?_toArray, List.getElem?_map, turnsL, List.getElem?_map, List.getElem?_range hlt, hwv]; rfl
    have sk : ((k : Nat) : Int).toNat * 1 < ((dn ++ List.replicate (8 - k) (Value.slice Option.none 0 0, ([] : List (Nat × Obj)))).map Prod.fst).toArray.size := by
      rw [Nat.mul_one, Int.toNat_natCast, List.size_toArray, List.length_map, List.length_append, List.length_replicate, hdl]; omega
    repeat (first | refine RQ ?_ | (refine WL_Q ?_; (first | refine QW_of (Qt_ldX rfl (hn := by with_reducible assumption)) ?_)) | (refine RE ?_; try intro _) | refine RC ?_ | refine WG 4 ?_ | refine WG 6 ?_)
    rename_i xs
    have e1 : ((dn ++ List.replicate (8 - k) (Value.slice Option.none 0 0, ([] : List (Nat × Obj)))).map Prod.fst).toArray.setIfInBounds (((k : Nat) : Int).toNat * 1) (Value.slice (some ⟨xs, 0, none⟩) 1 1) = (((dn ++ [(Value.slice (some ⟨xs, 0, none⟩) 1 1, [(xs, Obj.cells #[iV 0, iV wv] 76 (0, 0))])]) ++ List.replicate (8 - (k + 1)) (Value.slice Option.none 0 0, ([] : List (Nat × Obj)))).map Prod.fst).toArray := by
      rw [Nat.mul_one, Int.toNat_natCast, List.setIfInBounds_toArray]
      congr 1
      rw [show 8 - k = (8 - (k + 1)) + 1 by omega, List.replicate_succ, List.map_append, List.set_append_right _ _ (by rw [List.length_map, hdl]; exact Nat.le_refl _), List.length_map, hdl, Nat.sub_self]
      simp
    rw [e1]
    refine WC_permT (L' := (x6, Obj.cells ((turnsL to0 8).map iV).toArray 61 (0, 0)) :: (x5, Obj.cells ((((dn ++ [(Value.slice (some ⟨xs, 0, none⟩) 1 1, [(xs, Obj.cells #[iV 0, iV wv] 76 (0, 0))])]) ++ List.replicate (8 - (k + 1)) (Value.slice Option.none 0 0, ([] : List (Nat × Obj)))).map Prod.fst)).toArray 107 (0, 0)) :: (x4, Obj.cells zv 107 (0, 0)) :: (rowsL (dn ++ [(Value.slice (some ⟨xs, 0, none⟩) 1 1, [(xs, Obj.cells #[iV 0, iV wv] 76 (0, 0))])]) ++ M)) ?_ ?_
    · have : rowsL (dn ++ [(Value.slice (some ⟨xs, 0, none⟩) 1 1, [(xs, Obj.cells #[iV 0, iV wv] 76 (0, 0))])]) ++ M = rowsL dn ++ ((xs, Obj.cells #[iV 0, iV wv] 76 (0, 0)) :: M) := by unfold rowsL; simp
      rw [this]
      exact perm_x2 ..
    repeat (first | refine RQ ?_ | (refine WL_Q ?_; (first | refine QW_of (Qt_ldX rfl (hn := by with_reducible assumption)) ?_)) | refine RC ?_ | refine WG 5 ?_)
    rw [w]
    refine ⟨_, _, by omega, ⟨k + 1, _, rfl, by omega, ?_, rfl⟩, ⟨rfl, rfl, rfl, rfl, rfl, rfl, trivial⟩, rfl, .refl _⟩
    have ek : t0.spans[k]? = some [(0, wv)] := by rw [hsp0, List.getElem?_map, turnsL, List.getElem?_map, List.getElem?_range hlt, hwv]; rfl
    rw [List.take_add_one, ek, List.map_append]
    exact hdn.snoc (n := 1) (.inr ⟨xs, 0, 1, _, rfl, rfl, ⟨rfl, Nat.le_refl _, by decide, Nat.le_of_ble_eq_true rfl, fun j x hj => by rw [Nat.zero_add]; simpa using hj⟩⟩)
  have d1 : decide ((k : Int) < 8) = false := decide_eq_false (by omega)
  obtain rfl : k = 8 := by omega
  rw [List.take_of_length_le (by omega)] at hdn
  repeat (first | refine RQ ?_ | (refine WL_Q ?_; (first | refine QW_of (Qt_ldX rfl (hn := by with_reducible assumption)) ?_)) | refine RC ?_ | refine WG 4 ?_ | refine WG 7 ?_)
  rw [Nat.sub_self, List.replicate_zero, List.append_nil]
  refine WC_dropL ((x5, Obj.cells (dn.map Prod.fst).toArray 107 (0, 0)) :: (x4, Obj.cells zv 107 (0, 0)) :: (rowsL dn ++ M)) (.cons _ (.refl _)) ?_
  have hz0 : t0.spans = (rchT p c (l.take 0)).spans := by rw [ht0, List.take_zero]; rfl
  rw [hz0] at hdn
  refine WC_wk [(8, iV ((0 : Nat) : Int)), (5, .pointer (some ⟨x5, 0, none⟩)), (4, .pointer (some ⟨x4, 0, none⟩)), (0, .pointer (some ⟨rb, 0, none⟩)), (1, iV (n : Int))] ⟨rfl, rfl, rfl, rfl, rfl, trivial⟩ ?_
  refine WC_loop (fun m σ => ∃ (i : Nat) (rs : List (Value × List (Nat × Obj))), m = n - i ∧ i ≤ n ∧ rs.length = 8 ∧ Rows 76 2 rs ((rchT p c (l.take i)).spans.map spL) ∧ σ = ⟨[(8, iV (i : Int)), (5, .pointer (some ⟨x5, 0, none⟩)), (4, .pointer (some ⟨x4, 0, none⟩)), (0, .pointer (some ⟨rb, 0, none⟩)), (1, iV (n : Int))], [], (x5, Obj.cells (rs.map Prod.fst).toArray 107 (0, 0)) :: (x4, Obj.cells zv 107 (0, 0)) :: (rowsL rs ++ M)⟩) n ⟨0, dn, rfl, Nat.zero_le _, hdl, hdn, rfl⟩ ?_
  clear hdn hdl hk d1 hlt
  rintro _ σ ⟨i, rs, rfl, hi, hrl, hrs, rfl⟩
  have hro := rows_one hrs
  have hrz : (rs.map Prod.fst).toArray.size = 8 := by rw [List.size_toArray, List.length_map, hrl]
  by_cases hlt : i < n
  rotate_left
  · have d1 : decide ((i : Int) < ((n : Nat) : Int)) = false := decide_eq_false (by omega)
    obtain rfl : i = n := by omega
    repeat (first | refine RQ ?_ | (refine WL_Q ?_; (first | refine QW_of (Qt_ldX rfl (hn := by with_reducible assumption)) ?_)) | (refine RE ?_; try intro _) | refine RC ?_ | refine WG 8 ?_ | refine WG 27 ?_)
    exact ⟨rfl, _, _, Res1 rfl (resV_cellN rfl 1 rfl hrz), .cons _ (.cons _ (.refl _)), rs, rfl, hrl, rfl, hrs⟩
  have d1 : decide ((i : Int) < ((n : Nat) : Int)) = true := decide_eq_true (by omega)
  have p0 : (0 : Int) ≤ (i : Int) := by omega
  have p1 : (i : Int) < ((l.length : Nat) : Int) := by omega
  have w : IntKind.i64.wrap ((i : Int) + 1) = ((i + 1 : Nat) : Int) := by rw [wI64 (by omega) (by omega)]; omega
  obtain ⟨x, hx⟩ : ∃ x, l[i]? = some x := ⟨_, List.getElem?_eq_getElem (by omega)⟩
  obtain ⟨fl, hfl⟩ := hO.all i x hx
  have hstep := rchT_take (p := p) (c := c) hx
  have hT := (hO.take i).tb
  obtain ⟨t, ht⟩ : ∃ t, t = rchT p c (l.take i) := ⟨_, rfl⟩
  rw [← ht] at hfl hstep hT hrs
  have hbase : ∀ q ∈ M, q ∈ (x5, Obj.cells (rs.map Prod.fst).toArray 107 (0, 0)) :: (x4, Obj.cells zv 107 (0, 0)) :: (rowsL rs ++ M) := fun q hq => .tail _ (.tail _ (List.mem_append_right _ hq))
  obtain ⟨i1, hi1⟩ := List.mem_iff_getElem?.1 (hbase _ hM)
  obtain ⟨lb, lo, lcp, lcs, lE, lfr, li, e, _, _, hli, hlx⟩ := (h3.mem fun q hq => hbase q (hG q hq)).cell (by omega)
  cases e
  obtain ⟨bv, hcm, e10, z10⟩ := VecM.cmd hlx h4 hx
  have y1 : lo + ((i : Nat) : Int).toNat * 10 + 10 ≤ lcs.size := by rw [Int.toNat_natCast]; exact z10
  have v1 : lcs.extract (lo + ((i : Nat) : Int).toNat * 10) (lo + ((i : Nat) : Int).toNat * 10 + 10) = (cmC x bv).toArray := by rw [Int.toNat_natCast]; exact e10
  have hcz : (cmC x bv).toArray.size = 10 := rfl
  have hca := hcm.all
  repeat (first | refine RQ ?_ | (refine WL_Q ?_; (first | refine QW_of (Qt_ldX rfl (hn := by with_reducible assumption)) ?_)) | (refine RE ?_; try intro _) | refine RC ?_ | refine WG 8 ?_ | refine WG 10 ?_)
  rw [v1]
  repeat (first | refine RQ ?_ | (refine WL_Q ?_; (first | refine QW_of (Qt_ldX rfl (hn := by with_reducible assumption)) ?_)) | (refine RE ?_; try intro _) | refine RC ?_ | refine WG 10 ?_ | refine WG 11 ?_)
  rename_i x9
  obtain ⟨bv0, hbv0, hvb, hxR⟩ := id hcm
  obtain rfl : bv = bv0 := by simpa [cmC] using hbv0
  refine WC_meet2 (fun σ => ∃ (bins to : List Int) (bv' tv : Value) (W : List (Nat × Obj)), VecM 1 (W ++ M) bv' bins.length (bins.map iV) ∧ VecM 1 (W ++ M) tv to.length (to.map iV) ∧ ((x.kind = 0 ∧ bins = x.bins ∧ to = [x.to]) ∨ (x.kind ≠ 0 ∧ bins = [] ∧ to = [] ∧ bv' = .slice none 0 0 ∧ tv = .slice none 0 0)) ∧ σ = ⟨[(11, tv), (10, bv'), (9, .pointer (some ⟨x9, 0, none⟩)), (8, iV (i : Int)), (5, .pointer (some ⟨x5, 0, none⟩)), (4, .pointer (some ⟨x4, 0, none⟩)), (0, .pointer (some ⟨rb, 0, none⟩)), (1, iV (n : Int))], [], W ++ ((x9, Obj.cells (cmC x bv).toArray 42 (0, 0)) :: (x5, Obj.cells (rs.map Prod.fst).toArray 107 (0, 0)) :: (x4, Obj.cells zv 107 (0, 0)) :: (rowsL rs ++ M))⟩) ?_ ?_
  · by_cases k0 : x.kind = 0
    · have d0 : (x.kind == 0) = true := by simpa using k0
      repeat (first | refine RQ ?_ | (refine WL_Q ?_; (first | refine QW_of (Qt_ldX rfl (hn := by with_reducible assumption)) ?_)) | (refine RE ?_; try intro _) | refine RC ?_ | refine WG 12 ?_ | refine WG 13 ?_ | refine WG 14 ?_)
      rename_i xq
      exact ⟨_, ⟨x.bins, [x.to], bv, _, [(xq, Obj.cells #[iV x.to] 3 (0, 0))], hvb.mem fun q hq => .tail _ (hG q hq), ⟨rfl, _, 1, rfl, Nat.le_refl _, by decide, .inr ⟨xq, 0, _, _, _, rfl, .head _, fun j y hj => by rw [Nat.zero_add]; simpa using hj⟩⟩, .inl ⟨k0, rfl, rfl⟩, rfl⟩, ⟨rfl, rfl, rfl, rfl, rfl, rfl, rfl, rfl, trivial⟩, rfl, .refl _⟩
    · have d0 : (x.kind == 0) = false := by simpa using k0
      repeat (first | refine RQ ?_ | (refine WL_Q ?_; (first | refine QW_of (Qt_ldX rfl (hn := by with_reducible assumption)) ?_)) | refine RC ?_ | refine WG 12 ?_)
      exact ⟨_, ⟨[], [], _, _, [], VecM.nil _ _, VecM.nil _ _, .inr ⟨k0, rfl, rfl, rfl, rfl⟩, rfl⟩, ⟨rfl, rfl, rfl, rfl, rfl, rfl, rfl, rfl, trivial⟩, rfl, .refl _⟩
  rintro _ ⟨bins1, to1, bv1, tv1, W1, hb1, ht1, hk1, rfl⟩
  obtain ⟨M1, hM1⟩ : ∃ M1, M1 = W1 ++ M := ⟨_, rfl⟩
  have hMM1 : ∀ q ∈ M, q ∈ M1 := fun q hq => by rw [hM1]; exact List.mem_append_right _ hq
  have hS1 : M.Sublist M1 := by rw [hM1]; exact List.sublist_append_right W1 M
  refine WC_permT (L' := (x9, Obj.cells (cmC x bv).toArray 42 (0, 0)) :: (x5, Obj.cells (rs.map Prod.fst).toArray 107 (0, 0)) :: (x4, Obj.cells zv 107 (0, 0)) :: (rowsL rs ++ (W1 ++ M))) (perm_x1 ..) ?_
  rw [← hM1] at hb1 ht1 ⊢
  refine WC_seq ?_
  refine WC_meet (fun σ => ∃ (bins to : List Int) (bv' tv : Value) (W : List (Nat × Obj)), VecM 1 (W ++ M1) bv' bins.length (bins.map iV) ∧ VecM 1 (W ++ M1) tv to.length (to.map iV) ∧ GoesTo t x bins to ∧ σ = ⟨[(11, tv), (10, bv'), (9, .pointer (some ⟨x9, 0, none⟩)), (8, iV (i : Int)), (5, .pointer (some ⟨x5, 0, none⟩)), (4, .pointer (some ⟨x4, 0, none⟩)), (0, .pointer (some ⟨rb, 0, none⟩)), (1, iV (n : Int))], [], W ++ ((x9, Obj.cells (cmC x bv).toArray 42 (0, 0)) :: (x5, Obj.cells (rs.map Prod.fst).toArray 107 (0, 0)) :: (x4, Obj.cells zv 107 (0, 0)) :: (rowsL rs ++ M1))⟩) ?_ ?_
  · by_cases k2 : x.kind = 2
    rotate_left
    · have d2 : (x.kind == 2) = false := by simpa using k2
      repeat (first | refine RQ ?_ | (refine WL_Q ?_; (first | refine QW_of (Qt_ldX rfl (hn := by with_reducible assumption)) ?_)) | refine RC ?_ | refine WG 15 ?_)
      refine ⟨_, ⟨bins1, to1, bv1, tv1, [], hb1, ht1, ?_, rfl⟩, ⟨rfl, rfl, rfl, rfl, rfl, rfl, rfl, rfl, trivial⟩, rfl, .refl _⟩
      rcases hk1 with ⟨k0, rfl, rfl⟩ | ⟨k0, rfl, rfl, _, _⟩
      · exact goes0 hfl k0
      · exact goes13 hfl k0 k2
    have d2 : (x.kind == 2) = true := by simpa using k2
    obtain ⟨_, rfl, rfl, rfl, rfl⟩ := hk1.resolve_left (by rintro ⟨k0, _⟩; omega)
    repeat (first | refine RQ ?_ | (refine WL_Q ?_; (first | refine QW_of (Qt_ldX rfl (hn := by with_reducible assumption)) ?_)) | refine RC ?_ | refine WG 15 ?_ | refine WG 16 ?_)
    refine WC_wk [(12, iV ((0 : Nat) : Int)), (10, .slice none 0 0), (9, .pointer (some ⟨x9, 0, none⟩)), (8, iV (i : Int)), (5, .pointer (some ⟨x5, 0, none⟩)), (4, .pointer (some ⟨x4, 0, none⟩)), (0, .pointer (some ⟨rb, 0, none⟩)), (1, iV (n : Int))] ⟨rfl, rfl, rfl, rfl, rfl, rfl, rfl, rfl, trivial⟩ ?_
    refine WC_loop (fun m σ => ∃ (b : Nat) (v : Value) (T : List (Nat × Obj)), m = 8 - b ∧ b ≤ 8 ∧ BufI v T (ofK t.spans x.to b) ∧ σ = ⟨[(12, iV (b : Int)), (10, v), (9, .pointer (some ⟨x9, 0, none⟩)), (8, iV (i : Int)), (5, .pointer (some ⟨x5, 0, none⟩)), (4, .pointer (some ⟨x4, 0, none⟩)), (0, .pointer (some ⟨rb, 0, none⟩)), (1, iV (n : Int))], [], T ++ ((x9, Obj.cells (cmC x bv).toArray 42 (0, 0)) :: (x5, Obj.cells (rs.map Prod.fst).toArray 107 (0, 0)) :: (x4, Obj.cells zv 107 (0, 0)) :: (rowsL rs ++ M1))⟩) 8 ⟨0, _, [], rfl, by decide, Buf.nil _ _, rfl⟩ ?_
    rintro _ σ ⟨b, v, T, rfl, hb8, hT8, rfl⟩
    obtain ⟨a8, c8, rfl, _, _⟩ := Buf.val (id hT8)
    have h8l := ofK_len t.spans x.to b
    have ix9 : (T ++ ((x9, Obj.cells (cmC x bv).toArray 42 (0, 0)) :: (x5, Obj.cells (rs.map Prod.fst).toArray 107 (0, 0)) :: (x4, Obj.cells zv 107 (0, 0)) :: (rowsL rs ++ M1)))[T.length]? = some (x9, Obj.cells (cmC x bv).toArray 42 (0, 0)) := by rw [List.getElem?_append_right (Nat.le_refl _), Nat.sub_self]; rfl
    have ix5 : (T ++ ((x9, Obj.cells (cmC x bv).toArray 42 (0, 0)) :: (x5, Obj.cells (rs.map Prod.fst).toArray 107 (0, 0)) :: (x4, Obj.cells zv 107 (0, 0)) :: (rowsL rs ++ M1)))[T.length + 1]? = some (x5, Obj.cells (rs.map Prod.fst).toArray 107 (0, 0)) := by rw [List.getElem?_append_right (by omega), Nat.add_sub_cancel_left]; rfl
    have irb : ∃ q : Nat, (T ++ ((x9, Obj.cells (cmC x bv).toArray 42 (0, 0)) :: (x5, Obj.cells (rs.map Prod.fst).toArray 107 (0, 0)) :: (x4, Obj.cells zv 107 (0, 0)) :: (rowsL rs ++ M1)))[q]? = some (rfO rb cs) := List.mem_iff_getElem?.1 (List.mem_append_right _ (.tail _ (.tail _ (.tail _ (List.mem_append_right _ (hMM1 _ hM))))))
    by_cases hlb : b < 8
    · have e1 : decide ((b : Int) < 8) = true := decide_eq_true (by omega)
      have w8 : IntKind.i64.wrap ((b : Int) + 1) = ((b + 1 : Nat) : Int) := by rw [wI64 (by omega) (by omega)]; omega
      have q0 : (0 : Int) ≤ (b : Int) := by omega
      have q1 : (b : Int) < ((8 : Nat) : Int) := by omega
      obtain ⟨row, hrow, hrok⟩ := hT.row hlb
      obtain ⟨vr, Tr, hvr, hbr⟩ := hrs.get hrow
      have hrlen : 0 < row.length := List.length_pos_iff.2 hrok.ne
      obtain ⟨gb, go, gc, gcs, gE, gfr, gi, rfl, _, _, hgi, hgx⟩ := ((hbr.vecM).mem (G' := T ++ ((x9, Obj.cells (cmC x bv).toArray 42 (0, 0)) :: (x5, Obj.cells (rs.map Prod.fst).toArray 107 (0, 0)) :: (x4, Obj.cells zv 107 (0, 0)) :: (rowsL rs ++ M1))) fun q hq => List.mem_append_right _ (.tail _ (.tail _ (.tail _ (List.mem_append_left _ (rows_mem hvr q hq)))))).cell (by omega)
      have hc5 : (rs.map Prod.fst).toArray[((b : Nat) : Int).toNat * 1]? = some (.slice (some ⟨gb, go, none⟩) row.length gc) := by
        rw [Nat.mul_one, Int.toNat_natCast, List.getElem?_toArray, List.getElem?_map, hvr]; rfl
      obtain ⟨jl, hjl⟩ : ∃ jl, row.length = jl + 1 := ⟨row.length - 1, by omega⟩
      obtain ⟨ql, hql⟩ : ∃ ql, row[jl]? = some ql := ⟨_, List.getElem?_eq_getElem (by omega)⟩
      have hsh := hT.short row (List.mem_of_getElem? hrow)
      have hfw := hT.few
      have wl : IntKind.i64.wrap (((row.length : Nat) : Int) - 1) = (jl : Int) := by rw [wI64 (by omega) (by omega)]; omega
      have lx0 : gcs[go + (IntKind.i64.wrap (((row.length : Nat) : Int) - 1)).toNat * 2 + 1]? = some (iV ql.2) := by rw [wl, Int.toNat_natCast, Nat.add_assoc]; exact hgx _ _ (spL_at hql).2
      have lp0 : (0 : Int) ≤ IntKind.i64.wrap (((row.length : Nat) : Int) - 1) := by rw [wl]; omega
      have lp1 : IntKind.i64.wrap (((row.length : Nat) : Int) - 1) < ((row.length : Nat) : Int) := by rw [wl]; omega
      have hhas : hasF t.spans (b : Int) = ql.2 := hasF_row (by rw [Int.toNat_natCast]; exact hrow) hjl hql
      cases hq : (ql.2 == x.to)
      · repeat (first | refine RQr ?_ | (refine RX ?_; (first | refine QW_of (Qt_ldX rfl (hn := by with_reducible assumption)) ?_)) | refine RC ?_ | refine RU ?_ | refine WC_draw_all (id := 19) 14 (Cs [0,1,2,3,4,5,6,7,8,9,10,11,12,13] <| .done) mixed (by kernel_rfl) ?_ | refine WG 17 ?_ | refine WG 18 ?_)
        rw [w8]
        refine ⟨_, _, by omega, ⟨b + 1, _, T, rfl, by omega, ?_, rfl⟩, ⟨rfl, rfl, rfl, rfl, rfl, rfl, rfl, rfl, trivial⟩, rfl, .refl _⟩
        rw [ofK_succ, hhas, hq, if_neg (by decide), List.append_nil]
        exact hT8
      · repeat (first | refine RQr ?_ | (refine RX ?_; (first | refine QW_of (Qt_ldX rfl (hn := by with_reducible assumption)) ?_)) | (refine OX ?_; (first | (refine OE ?_; try intro _)); try refine SD ?_) | refine RC ?_ | refine RU ?_ | refine WC_draw_all (id := 19) 14 (Cs [0,1,2,3,4,5,6,7,8,9,10,11,12,13] <| .done) mixed (by kernel_rfl) ?_ | refine WG 17 ?_ | refine WG 20 ?_)
        rename_i xn
        refine WL_op rfl (OW_append_buf (A := [(xn, Obj.cells #[iV (b : Int)] 3 (0, 0))]) (T := T) (B := (x9, Obj.cells (cmC x bv).toArray 42 (0, 0)) :: (x5, Obj.cells (rs.map Prod.fst).toArray 107 (0, 0)) :: (x4, Obj.cells zv 107 (0, 0)) :: (rowsL rs ++ M1)) rfl rfl rfl rfl rfl hT8 (src1 0 rfl) (by decide) (by simp only [maxLen]; omega) (by omega) ?_)
        intro v' T' hT'
        simp only [List.cons_append, List.nil_append]
        repeat (first | refine RQ ?_ | (refine WL_Q ?_; (first | refine QW_of (Qt_ldX rfl (hn := by with_reducible assumption)) ?_)) | (refine RE ?_; try intro _) | refine RC ?_ | refine WG 20 ?_ | refine WG 18 ?_)
        rw [w8]
        refine ⟨_, _, by omega, ⟨b + 1, v', T', rfl, by omega, ?_, rfl⟩, ⟨rfl, rfl, rfl, rfl, rfl, rfl, rfl, rfl, trivial⟩, rfl, .cons _ (.refl _)⟩
        rw [ofK_succ, hhas, hq, if_pos rfl]
        unfold BufI
        rw [List.length_append, List.map_append]
        exact hT'
    have e1 : decide ((b : Int) < 8) = false := decide_eq_false (by omega)
    obtain rfl : b = 8 := by omega
    repeat (first | refine RQ ?_ | (refine WL_Q ?_; (first | refine QW_of (Qt_ldX rfl (hn := by with_reducible assumption)) ?_)) | refine RC ?_ | refine WG 17 ?_ | refine WG 21 ?_)
    rw [w]
    refine WL_op rfl (OW_call rfl (hF := dactive_fn (n := i + 1) hR hO (by omega) (M := T ++ ((x9, Obj.cells (cmC x bv).toArray 42 (0, 0)) :: (x5, Obj.cells (rs.map Prod.fst).toArray 107 (0, 0)) :: (x4, Obj.cells zv 107 (0, 0)) :: (rowsL rs ++ M1))) (List.mem_append_right _ (.tail _ (.tail _ (.tail _ (List.mem_append_right _ (hMM1 _ hM)))))) (fun q hq => List.mem_append_right _ (.tail _ (.tail _ (.tail _ (List.mem_append_right _ (hMM1 _ (hG q hq)))))))) (hk := ?_))
    rintro va _ ⟨Ta, rfl, hTa⟩
    rw [hstep] at hTa
    repeat (first | refine RQ ?_ | (refine WL_Q ?_; (first | refine QW_of (Qt_ldX rfl (hn := by with_reducible assumption)) ?_)) | refine RC ?_ | refine WG 21 ?_)
    refine ⟨_, ⟨ofK t.spans x.to 8, (addF t x).act, _, va, Ta ++ T, (Buf.vecM hT8).mem fun q hq => List.mem_append_left _ (List.mem_append_right _ hq), (Buf.vecM hTa).mem fun q hq => List.mem_append_left _ (List.mem_append_left _ hq), goes2 hT hfl k2, rfl⟩, ⟨rfl, rfl, rfl, rfl, rfl, rfl, rfl, rfl, trivial⟩, rfl, by rw [List.append_assoc]; exact .refl _⟩
  rintro _ ⟨bins, to, bv2, tv2, W2, hb2, ht2, hgo, rfl⟩
  have hbl := hgo.len
  obtain ⟨M2, hM2⟩ : ∃ M2, M2 = W2 ++ M1 := ⟨_, rfl⟩
  have hS2 : M.Sublist M2 := by rw [hM2]; exact hS1.trans (List.sublist_append_right W2 M1)
  refine WC_permT (L' := (x9, Obj.cells (cmC x bv).toArray 42 (0, 0)) :: (x5, Obj.cells (rs.map Prod.fst).toArray 107 (0, 0)) :: (x4, Obj.cells zv 107 (0, 0)) :: (rowsL rs ++ (W2 ++ M1))) (perm_x1 ..) ?_
  rw [← hM2] at hb2 ht2 ⊢
  have hM2b : ∀ q ∈ M2, q ∈ (x9, Obj.cells (cmC x bv).toArray 42 (0, 0)) :: (x5, Obj.cells (rs.map Prod.fst).toArray 107 (0, 0)) :: (x4, Obj.cells zv 107 (0, 0)) :: (rowsL rs ++ M2) := fun q hq => .tail _ (.tail _ (.tail _ (List.mem_append_right _ hq)))
  repeat (first | refine RQ ?_ | (refine WL_Q ?_; (first | refine QW_of (Qt_ldX rfl (hn := by with_reducible assumption)) ?_)) | (refine WL_op rfl ?_; (first | (refine OW_call rfl (hF := dTurns_fn (by omega) (hb2.mem hM2b) (ht2.mem hM2b)) (hk := ?_); rintro vw _ ⟨Tw, rfl, hTw⟩))) | refine RC ?_ | refine WG 22 ?_ | refine WG 23 ?_)
  obtain ⟨M3, hM3⟩ : ∃ M3, M3 = Tw ++ M2 := ⟨_, rfl⟩
  have hS3 : M.Sublist M3 := by rw [hM3]; exact hS2.trans (List.sublist_append_right Tw M2)
  refine WC_permT (L' := (x9, Obj.cells (cmC x bv).toArray 42 (0, 0)) :: (x5, Obj.cells (rs.map Prod.fst).toArray 107 (0, 0)) :: (x4, Obj.cells zv 107 (0, 0)) :: (rowsL rs ++ (Tw ++ M2))) (perm_x1 ..) ?_
  rw [← hM3]
  have hwm : VecM 1 M3 vw (turnsF bins.length to).length ((turnsF bins.length to).map iV) := (Buf.vecM hTw).mem fun q hq => by rw [hM3]; exact List.mem_append_left _ hq
  have hb3 : VecM 1 M3 bv2 bins.length (bins.map iV) := hb2.mem fun q hq => by rw [hM3]; exact List.mem_append_right _ hq
  obtain ⟨_, ab, cb, rfl, _, _, _⟩ := id hb3
  obtain ⟨aw, cw, rfl, _, _⟩ := Buf.val (id hTw)
  refine WC_wk [(14, iV ((0 : Nat) : Int)), (13, .slice aw (turnsF bins.length to).length cw), (10, .slice ab bins.length cb), (9, .pointer (some ⟨x9, 0, none⟩)), (8, iV (i : Int)), (5, .pointer (some ⟨x5, 0, none⟩)), (4, .pointer (some ⟨x4, 0, none⟩)), (0, .pointer (some ⟨rb, 0, none⟩)), (1, iV (n : Int))] ⟨rfl, rfl, rfl, rfl, rfl, rfl, rfl, rfl, rfl, trivial⟩ ?_
  refine WC_loop (fun m σ => ∃ (j : Nat) (rs : List (Value × List (Nat × Obj))), m = bins.length - j ∧ j ≤ bins.length ∧ rs.length = 8 ∧ Rows 76 2 rs ((giveK x.at_ to 0 (bins.take j) t.spans).map spL) ∧ σ = ⟨[(14, iV (j : Int)), (13, .slice aw (turnsF bins.length to).length cw), (10, .slice ab bins.length cb), (9, .pointer (some ⟨x9, 0, none⟩)), (8, iV (i : Int)), (5, .pointer (some ⟨x5, 0, none⟩)), (4, .pointer (some ⟨x4, 0, none⟩)), (0, .pointer (some ⟨rb, 0, none⟩)), (1, iV (n : Int))], [], (x9, Obj.cells (cmC x bv).toArray 42 (0, 0)) :: (x5, Obj.cells (rs.map Prod.fst).toArray 107 (0, 0)) :: (x4, Obj.cells zv 107 (0, 0)) :: (rowsL rs ++ M3)⟩) bins.length ⟨0, rs, rfl, Nat.zero_le _, hrl, hrs, rfl⟩ ?_
  clear hro hrz hM2b hi1 hbase hTw hb1 ht1 hb2 ht2 hrs hrl hli hlx
  rintro _ σ ⟨j, rs, rfl, hj, hrl, hrs, rfl⟩
  by_cases hjl : j < bins.length
  rotate_left
  · have e1 : decide ((j : Int) < ((bins.length : Nat) : Int)) = false := decide_eq_false (by omega)
    rw [List.take_of_length_le (by omega), ← hgo.sp, ← hstep] at hrs
    repeat (first | refine RQ ?_ | (refine WL_Q ?_; (first | refine QW_of (Qt_ldX rfl (hn := by with_reducible assumption)) ?_)) | refine RC ?_ | refine WG 24 ?_ | refine WG 9 ?_)
    rw [w]
    exact ⟨_, _, by omega, ⟨i + 1, rs, rfl, by omega, hrl, hrs, rfl⟩, ⟨rfl, rfl, rfl, rfl, rfl, trivial⟩, rfl, .cons _ (.cons_cons _ (.cons_cons _ (List.Sublist.append (.refl _) hS3)))⟩
  have e1 : decide ((j : Int) < ((bins.length : Nat) : Int)) = true := decide_eq_true (by omega)
  have wj : IntKind.i64.wrap ((j : Int) + 1) = ((j + 1 : Nat) : Int) := by rw [wI64 (by omega) (by omega)]; omega
  have hto := hgo.ne (by rintro rfl; simp at hjl)
  have hwl : (turnsF bins.length to).length = bins.length := turnsF_len _ _ hto
  have j0 : (0 : Int) ≤ (j : Int) := by omega
  have j1 : (j : Int) < ((bins.length : Nat) : Int) := by omega
  have j2 : (j : Int) < (((turnsF bins.length to).length : Nat) : Int) := by omega
  obtain ⟨bj, hbj⟩ : ∃ bj, bins[j]? = some bj := ⟨_, List.getElem?_eq_getElem hjl⟩
  have hbj8 := hgo.in_ bj (List.mem_of_getElem? hbj)
  obtain ⟨wv, hwv⟩ : ∃ wv, wv = (to[j % to.length]?).getD 0 := ⟨_, rfl⟩
  have htw : (turnsF bins.length to)[j]? = some wv := by rw [turnsF_get hto hjl, hwv]
  have hM3b : ∀ q ∈ M3, q ∈ (x9, Obj.cells (cmC x bv).toArray 42 (0, 0)) :: (x5, Obj.cells (rs.map Prod.fst).toArray 107 (0, 0)) :: (x4, Obj.cells zv 107 (0, 0)) :: M3 := fun q hq => .tail _ (.tail _ (.tail _ hq))
  obtain ⟨bb, bo, bc, bcs, bE, bfr, bi, e, _, _, hbi, hbx⟩ := (hb3.mem hM3b).cell (by omega)
  cases e
  obtain ⟨wb, wo, wc, wcs, wE, wfr, wi, e, _, _, hwi, hwx⟩ := (hwm.mem hM3b).cell (by omega)
  cases e
  have cb1 : bcs[bo + ((j : Nat) : Int).toNat * 1]? = some (iV bj) := by rw [Int.toNat_natCast, Nat.mul_one]; exact hbx j _ (by rw [List.getElem?_map, hbj]; rfl)
  have cw1 : wcs[wo + ((j : Nat) : Int).toNat * 1]? = some (iV wv) := by rw [Int.toNat_natCast, Nat.mul_one]; exact hwx j _ (by rw [List.getElem?_map, htw]; rfl)
  obtain ⟨gk1, gk2⟩ := giveK_at (at_ := x.at_) hto (k := 0) (bins := bins.take j) (sp := t.spans) (hgo.pw.sublist (List.take_sublist _ _)) (fun b hb => by have := hgo.in_ b (List.mem_of_mem_take hb); have := hT.eight; omega)
  obtain ⟨sp', hsp'⟩ : ∃ sp', sp' = giveK x.at_ to 0 (bins.take j) t.spans := ⟨_, rfl⟩
  rw [← hsp'] at gk1 gk2 hrs
  obtain ⟨row, hrow⟩ : ∃ row, sp'[bj.toNat]? = some row := ⟨_, List.getElem?_eq_getElem (by rw [gk1, hT.eight]; omega)⟩
  have hrowl : row.length ≤ 100 := by
    obtain ⟨r0, hr0, _⟩ := hT.row (b := bj.toNat) (by omega)
    have hs0 := hT.short r0 (List.mem_of_getElem? hr0)
    have := hT.few
    rcases gk2 bj.toNat r0 hr0 with ⟨_, w0, _, h2⟩ | ⟨_, h2⟩
    · rw [h2] at hrow; cases hrow; rw [List.length_append]; simp only [List.length_cons, List.length_nil]; omega
    · rw [h2] at hrow; cases hrow; omega
  obtain ⟨vr, Tr, hvr, hbr⟩ := hrs.get hrow
  obtain ⟨ar, cr, rfl, _, _⟩ := id hbr.val
  have hc5 : (rs.map Prod.fst).toArray[bj.toNat * 1]? = some (.slice ar row.length cr) := by
    rw [Nat.mul_one, List.getElem?_toArray, List.getElem?_map, hvr]; rfl
  have s5 : bj.toNat * 1 < (rs.map Prod.fst).toArray.size := by rw [Nat.mul_one, List.size_toArray, List.length_map, hrl]; omega
  have q0 : (0 : Int) ≤ bj := hbj8.1
  have q1 : bj < ((8 : Nat) : Int) := by omega
  repeat (first | refine RQ ?_ | (refine WL_Q ?_; (first | refine QW_of (Qt_ldX rfl (hn := by with_reducible assumption)) ?_)) | refine RC ?_ | refine WG 24 ?_)
  have hsub : ((x9, Obj.cells (cmC x bv).toArray 42 (0, 0)) :: (x5, Obj.cells (rs.map Prod.fst).toArray 107 (0, 0)) :: (x4, Obj.cells zv 107 (0, 0)) :: M3).Sublist ((x9, Obj.cells (cmC x bv).toArray 42 (0, 0)) :: (x5, Obj.cells (rs.map Prod.fst).toArray 107 (0, 0)) :: (x4, Obj.cells zv 107 (0, 0)) :: (rowsL rs ++ M3)) := .cons_cons _ (.cons_cons _ (.cons_cons _ (List.sublist_append_right _ _)))
  refine WC_drawK (id := 26) _ 20 (Cs [0,1,2,3,4,5,6,7,8,9,10,11,12,13,14,15,16] <| .must 17 <| .must 18 <| .calm 19 <| .must 20 <| .done) mixed (by kernel_rfl) (by kernel_rfl) (hsub) ?_; repeat (first | refine WS_d ?_ | refine WS_c rfl (QW_a ?_))
  repeat (first | refine WS_d ?_ | refine WS_c rfl (QW_a ?_))
  refine WS_m rfl rfl (OW_build1 rfl (hk := fun xs => ?_))
  refine ⟨fun q hq => .tail _ (hsub.subset hq), ?_⟩
  repeat (first | refine WS_d ?_ | refine WS_c rfl (QW_a ?_))
  refine WS_m rfl rfl (OW_append_rowT (X := [(xs, Obj.cells #[iV x.at_, iV wv] 76 (0, 0)), (x9, Obj.cells (cmC x bv).toArray 42 (0, 0)), (x5, Obj.cells (rs.map Prod.fst).toArray 107 (0, 0)), (x4, Obj.cells zv 107 (0, 0))]) (Y := M3) hvr rfl rfl rfl rfl rfl hbr (m := 1) (news := [iV x.at_, iV wv]) (srcVec (sz := 2) ⟨rfl, _, _, rfl, Nat.le_refl _, by decide, .inr ⟨_, _, _, _, _, 0, rfl, rfl, fun j x hx => by rw [Nat.zero_add]; simpa using hx⟩⟩ (fun u hu => by simp only [List.mem_cons, List.not_mem_nil, or_false] at hu; rcases hu with rfl | rfl <;> rfl)) (by decide) (by simp only [maxLen]; omega) (by omega) fun v' T' hb' => ?_)
  simp only [List.cons_append, List.nil_append]
  obtain ⟨ar', cr', rfl, _, _⟩ := id hb'.val
  refine ⟨fun q hq => ?_, ?_⟩
  · rcases List.mem_cons.1 hq with h | hq
    · exact .tail _ (List.mem_cons.2 (.inl h))
    rcases List.mem_cons.1 hq with h | hq
    · exact .tail _ (.tail _ (List.mem_cons.2 (.inl h)))
    rcases List.mem_cons.1 hq with h | hq
    · exact .tail _ (.tail _ (.tail _ (List.mem_cons.2 (.inl h))))
    · exact .tail _ (.tail _ (.tail _ (.tail _ (List.mem_append_right _ hq))))
  repeat (first | refine WS_d ?_ | refine WS_c rfl (QW_a ?_))
  refine WS_late rfl rfl rfl (OW_st1 rfl ?_)
  refine WS_d ?_
  repeat (first | refine RQ ?_ | (refine WL_Q ?_; (first | refine QW_of (Qt_ldX rfl (hn := by with_reducible assumption)) ?_)) | refine RC ?_ | refine WG 25 ?_)
  rw [wj]
  have e5 : (rs.map Prod.fst).toArray.setIfInBounds (bj.toNat * 1) (Value.slice ar' (row.length + 1) cr') = ((rs.set bj.toNat (Value.slice ar' (row.length + 1) cr', T')).map Prod.fst).toArray := by
    rw [Nat.mul_one, List.setIfInBounds_toArray, List.map_set]
  rw [e5]
  refine ⟨_, _, by omega, ⟨j + 1, rs.set bj.toNat (Value.slice ar' (row.length + 1) cr', T'), rfl, by omega, by rw [List.length_set]; exact hrl, ?_, rfl⟩, ⟨rfl, rfl, rfl, rfl, rfl, rfl, rfl, rfl, rfl, trivial⟩, rfl, .cons _ (.refl _)⟩
  have hjt : bins.take (j + 1) = bins.take j ++ [bj] := by rw [List.take_add_one, hbj]; rfl
  have hlt2 : (bins.take j).length = j := by rw [List.length_take]; omega
  rw [hjt, giveK_snoc, ← hsp', hrow, Nat.zero_add, hlt2, ← hwv, List.map_set]
  have hsl : spL (row ++ [(x.at_, wv)]) = spL row ++ [iV x.at_, iV wv] := spL_snoc ..
  show Rows _ 2 _ ((sp'.map spL).set bj.toNat (spL (row ++ [(x.at_, wv)])))
  rw [hsl]
  exact hrs.set hb' bj.toNat
end Go.Proofs.YtncgndcepoicbaaGreat
