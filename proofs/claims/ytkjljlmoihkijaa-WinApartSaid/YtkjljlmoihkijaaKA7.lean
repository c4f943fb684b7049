/-
  A part of what the last of these texts needs; by itself it proves no statement.
-/
import Derived.ProofKit
import Derived.Deep.Slices
import Derived.OpenShut
import Derived.Test.YtkjljlmoihkijaaKA6
namespace Go.Proofs.Ytkjljlmoihkijaa
open Go.RowKit
attribute [local irreducible] Fn WC WL WR OW Qt YieldFn QW FnP FnD
theorem len64_zero {L : List (Nat × Obj)} : Fn Try.prog 46 [.int .u64 0] L (fun v L' => v = .int .i64 0 ∧ L' = L) := by
  refine Fn_enter Try.func46 rfl Try.ntmps46 rfl fun gw => ?_
  repeat (first | refine RQ ?_ | ((first | refine WL_Q ?_); (first | refine QW_of (Qt_ldX rfl (hn := by with_reducible assumption)) ?_)) | refine RC ?_ | refine WC_region ?_)
  exact ⟨rfl, _, _, Res1 rfl (resV_tmp rfl), .refl _, rfl, rfl⟩
theorem len_zero {L : List (Nat × Obj)} : Fn Try.prog 26 [.int .u64 0] L (fun v L' => v = .int .i64 0 ∧ L' = L) := by
  refine Fn_enter Try.func26 rfl Try.ntmps26 rfl fun gw => ?_
  repeat (first | refine RQ ?_ | ((first | refine WL_Q ?_); (first | refine QW_of (Qt_ldX rfl (hn := by with_reducible assumption)) ?_)) | ((first | refine WL_op rfl ?_); (first | refine OW_callP rfl (hF := len64_zero) (hk := ?_))) | refine RC ?_ | refine WC_region (id := 0) ?_ | refine WC_region (id := 2) ?_)
  exact ⟨rfl, _, _, Res1 rfl (resV_tmp rfl), .refl _, rfl, rfl⟩
theorem insNil_fn {f : Value} {L : List (Nat × Obj)} : Fn Try.prog 37 [.slice none 0 0, .int .i64 0, .int .i64 0, f] L (fun v L' => v = .tuple #[] ∧ L' = L) := by
  have d : decide (IntKind.i64.wrap (0 + 1) < 0) = false := by decide
  refine Fn_enter Try.func37 rfl Try.ntmps37 rfl fun gw => ?_
  repeat (first | refine RQ ?_ | ((first | refine WL_Q ?_); (first | refine QW_of (Qt_ldX rfl (hn := by with_reducible assumption)) ?_)) | refine RC ?_ | refine WC_region (id := 0) ?_)
  refine WC_unroll 1 (WCn_s ?_)
  repeat (first | refine RQ ?_ | ((first | refine WL_Q ?_); (first | refine QW_of (Qt_ldX rfl (hn := by with_reducible assumption)) ?_)) | refine RC ?_ | refine WC_region (id := 1) ?_)
  exact ⟨rfl, _, _, Res0 rfl, .refl _, rfl, rfl⟩
theorem pdqNil_fn {f : Value} {L : List (Nat × Obj)} : Fn Try.prog 25 [.slice none 0 0, .int .i64 0, .int .i64 0, .int .i64 0, f] L (fun v L' => v = .tuple #[] ∧ L' = L) := by
  have d : decide (IntKind.i64.wrap (0 - 0) ≤ 12) = true := by decide
  refine Fn_enter Try.func25 rfl Try.ntmps25 rfl fun gw => ?_
  repeat (first | refine RQ ?_ | ((first | refine WL_Q ?_); (first | refine QW_of (Qt_ldX rfl (hn := by with_reducible assumption)) ?_)) | refine RC ?_ | refine WC_region (id := 0) ?_ | refine WC_region (id := 1) ?_)
  refine WC_unroll 1 (WCn_s ?_)
  repeat (first | refine RQ ?_ | ((first | refine WL_Q ?_); (first | refine QW_of (Qt_ldX rfl (hn := by with_reducible assumption)) ?_)) | ((first | refine WL_op rfl ?_); (first | refine OW_callP rfl (hF := insNil_fn) (hk := ?_))) | refine RC ?_ | refine WC_region (id := 2) ?_ | refine WC_region (id := 3) ?_ | refine WC_region (id := 4) ?_)
  exact ⟨rfl, _, _, Res0 rfl, .refl _, rfl, rfl⟩
theorem sortNil_fn {f : Value} {L : List (Nat × Obj)} : Fn Try.prog 15 [.slice none 0 0, f] L (fun v L' => v = .tuple #[] ∧ L' = L) := by
  refine Fn_enter Try.func15 rfl Try.ntmps15 rfl fun gw => ?_
  repeat (first | refine RQ ?_ | ((first | refine WL_Q ?_); (first | refine QW_of (Qt_ldX rfl (hn := by with_reducible assumption)) ?_)) | ((first | refine WL_op rfl ?_); (first | refine OW_callP rfl (hF := len_zero) (hk := ?_) | refine OW_callP rfl (hF := pdqNil_fn) (hk := ?_))) | refine RC ?_ | refine WC_region ?_)
  exact ⟨rfl, _, _, Res0 rfl, .refl _, rfl, rfl⟩
theorem sortB_fn {v : Value} {T : List (Nat × Obj)} {ws : List (Int × Int)} (hn : ws.length ≤ 100000) (hb : BufW v T ws) {L : List (Nat × Obj)} :
    Fn Try.prog 15 [v, .func (.func 16) #[] #[]] (T ++ L) (fun r L' => ∃ T' ws', r = .tuple #[] ∧ ws'.Perm ws ∧ ws'.Pairwise (fun p q => p.1 ≤ q.1) ∧ BufW v T' ws' ∧ L' = T' ++ L) := by
  rcases BufW.cases_ hb with ⟨rfl, rfl, rfl⟩ | ⟨g, off, cap, cur, rfl, rfl, ho⟩
  · refine Fn.mono sortNil_fn ?_
    rintro _ _ ⟨rfl, rfl⟩
    exact ⟨[], [], rfl, .refl _, .nil, hb, rfl⟩
  · refine Fn.mono (sortW_fn ho (by omega)) ?_
    rintro _ _ ⟨rfl, cur', ws', hp, hs, ho', rfl⟩
    refine ⟨[(g, .cells cur' 30 (0, 0))], ws', rfl, hp, hs, ?_, rfl⟩
    rw [← hp.length_eq]
    exact .inr ⟨g, off, cap, cur', rfl, rfl, ho'⟩
theorem sweepW_snoc (l : List (Int × Int)) (w : Int × Int) : sweepW (l ++ [w]) = sweep1 (sweepW l) w := by simp [sweepW]
theorem sweep1_len (out : List (Int × Int)) (w : Int × Int) : (sweep1 out w).length ≤ out.length + 1 := by
  unfold sweep1
  split
  · split <;> simp <;> omega
  · simp
theorem sweep_len_from : ∀ (l out : List (Int × Int)), (l.foldl sweep1 out).length ≤ out.length + l.length
  | [], out => by simp
  | w :: l, out => by
    have h1 := sweep_len_from l (sweep1 out w)
    have h2 := sweep1_len out w
    rw [List.foldl_cons, List.length_cons]; omega
theorem sweepW_len (l : List (Int × Int)) : (sweepW l).length ≤ l.length := by
  have := sweep_len_from l []
  simpa [sweepW] using this
theorem sweep1_nil (w : Int × Int) : sweep1 [] w = [w] := rfl
theorem sweep1_join {out : List (Int × Int)} {p w : Int × Int} {n : Nat} (hp : out[n]? = some p) (hn : out.length = n + 1) (h : w.1 < p.2) : sweep1 out w = out.set n (joinW p w) := by
  rcases List.eq_nil_or_concat out with rfl | ⟨o, q, rfl⟩
  · simp at hn
  · rw [List.concat_eq_append] at *
    have ho : o.length = n := by simpa using hn
    subst ho
    have : q = p := by simpa using hp
    subst this
    unfold sweep1
    rw [List.getLast?_concat, List.dropLast_concat]
    dsimp only
    rw [if_pos h, List.set_append_right _ _ (by omega)]
    simp
theorem sweep1_add {out : List (Int × Int)} {p w : Int × Int} {n : Nat} (hp : out[n]? = some p) (hn : out.length = n + 1) (h : ¬ w.1 < p.2) : sweep1 out w = out ++ [w] := by
  rcases List.eq_nil_or_concat out with rfl | ⟨o, q, rfl⟩
  · simp at hn
  · rw [List.concat_eq_append] at *
    have ho : o.length = n := by simpa using hn
    subst ho
    have : q = p := by simpa using hp
    subst this
    unfold sweep1
    rw [List.getLast?_concat]
    dsimp only
    rw [if_neg h]
set_option maxHeartbeats 4000000 in
theorem gather_fn {v : Value} {ws : List (Int × Int)} (hn : ws.length ≤ 100000) {L : List (Nat × Obj)} (hv : VecW L v ws) : Fn Try.prog 7 [v] L (fun r L' => ∃ out T, Gath ws out ∧ out.length ≤ ws.length ∧ BufW r T out ∧ L' = T ++ L) := by
  refine Fn_enter Try.func7 rfl Try.ntmps7 rfl fun gw => ?_
  repeat (first | refine RQ ?_ | ((first | refine WL_Q ?_); (first | refine QW_of (Qt_ldX rfl (hn := by with_reducible assumption)) ?_)) | ((first | refine WL_op rfl ?_); (first | (refine OW_call rfl (hF := cloneW_fn hn hv) (hk := ?_); rintro v1 _ ⟨T1, hb1, rfl⟩) | (refine OW_call rfl (hF := deleteF_fn hn hb1) (hk := ?_); rintro v2 _ ⟨T2, hb2, rfl⟩) | (refine OW_call rfl (hF := sortB_fn (Nat.le_trans (List.length_filter_le _ _) hn) hb2) (hk := ?_); rintro _ _ ⟨T3, w3, rfl, hp3, hs3, hb3, rfl⟩) | (refine OW_call rfl (hF := compactF_fn (by rw [hp3.length_eq]; exact Nat.le_trans (List.length_filter_le _ _) hn) hb3) (hk := ?_); rintro v4 _ ⟨T4, w4, hs4, hb4, rfl⟩))) | refine RC ?_ | refine WC_region (id := 0) ?_ | refine WC_region (id := 1) ?_ | refine WC_region (id := 2) ?_ | refine WC_region (id := 3) ?_)
  have hl4 : w4.length ≤ ws.length := Nat.le_trans hs4.1.length_le (by rw [hp3.length_eq]; exact List.length_filter_le _ _)
  have hfull : ∀ p ∈ w4, p.1 < p.2 := fun p hp => by
    have := (List.mem_filter.1 (hp3.mem_iff.1 (hs4.1.subset hp))).2
    simpa [fullW] using this
  have hrise : w4.Pairwise fun p q => p.1 ≤ q.1 := hs3.sublist hs4.1
  have hmem : ∀ p : Int × Int, p.1 < p.2 → (p ∈ w4 ↔ p ∈ ws) := fun p hf => by
    constructor
    · intro h
      exact (List.mem_filter.1 (hp3.mem_iff.1 (hs4.1.subset h))).1
    · intro h
      exact hs4.2 p (hp3.mem_iff.2 (List.mem_filter.2 ⟨h, by simpa [fullW] using hf⟩))
  have hG : Gath ws (sweepW w4) := (sweep_gath hfull hrise).congr hmem
  clear hfull hrise hmem hs4 hs3 hp3 hb3 hb2 hb1
  obtain ⟨a4, c4, rfl, h4⟩ := (VecW.pairs (hb4.vec0 L))
  refine WC_wk [(3, .slice a4 w4.length c4)] ⟨rfl, trivial⟩ ?_
  repeat (first | refine RQ ?_ | ((first | refine WL_Q ?_); (first | refine QW_of (Qt_ldX rfl (hn := by with_reducible assumption)) ?_)) | refine RC ?_ | refine WC_region (id := 4) ?_ | refine WC_region (id := 5) ?_)
  refine WC_wk [(17, .int .i64 0), (16, .int .i64 w4.length), (15, .slice a4 w4.length c4), (4, .slice none 0 0)] ⟨rfl, rfl, rfl, rfl, trivial⟩ ?_
  refine WC_loop (fun m σ => ∃ (i : Nat) (v : Value) (T : List (Nat × Obj)), m = w4.length - i ∧ i ≤ w4.length ∧ BufW v T (sweepW (w4.take i)) ∧ σ = ⟨[(17, .int .i64 i), (16, .int .i64 w4.length), (15, .slice a4 w4.length c4), (4, v)], [], T ++ (T4 ++ L)⟩) w4.length ⟨0, .slice none 0 0, [], by omega, by omega, Buf.nil _ _, rfl⟩ ?_
  rintro m σ ⟨i, v, T, rfl, hi, hb, rfl⟩
  by_cases hlt : i < w4.length
  · have d2 : decide ((i : Int) < ((w4.length : Nat) : Int)) = true := decide_eq_true (by omega)
    obtain ⟨p, hp⟩ : ∃ p, w4[i]? = some p := ⟨_, List.getElem?_eq_getElem hlt⟩
    have hne : w4 ≠ [] := by intro e; rw [e] at hlt; simp at hlt
    obtain ⟨g1, o1, cu1, E1, fr1, i1, rfl, hi1, hc1⟩ := h4.resolve_left hne
    obtain ⟨x1, z1⟩ := hc1 i p hp
    have p0 : (0 : Int) ≤ (i : Int) := by omega
    have p1 : ((i : Nat) : Int) < ((w4.length : Nat) : Int) := by omega
    have y1 : o1 + ((i : Nat) : Int).toNat * 2 + 2 ≤ cu1.size := by rw [Int.toNat_natCast]; exact z1
    have v1 : cu1.extract (o1 + ((i : Nat) : Int).toNat * 2) (o1 + ((i : Nat) : Int).toNat * 2 + 2) = wC p := by rw [Int.toNat_natCast]; exact x1
    have w : IntKind.i64.wrap ((i : Int) + 1) = ((i + 1 : Nat) : Int) := by rw [wI64 (by omega) (by omega)]; omega
    have hm1 : (T ++ (T4 ++ L))[T.length + i1]? = some (g1, .cells cu1 E1 fr1) := by rw [List.getElem?_append_right (by omega), Nat.add_sub_cancel_left]; exact hi1
    have htk : w4.take (i + 1) = w4.take i ++ [p] := by rw [List.take_add_one, hp]; rfl
    have hlen : (sweepW (w4.take i)).length ≤ i := Nat.le_trans (sweepW_len _) (by rw [List.length_take]; omega)
    have hnext : sweepW (w4.take (i + 1)) = sweep1 (sweepW (w4.take i)) p := by rw [htk, sweepW_snoc]
    generalize sweepW (w4.take i) = out at hb hlen hnext
    obtain ⟨vo, capo, rfl, hleo, hmo⟩ := Buf.val hb
    rcases Nat.eq_zero_or_pos out.length with h0 | h0
    · obtain rfl := List.eq_nil_of_length_eq_zero h0
      have w0 : decide (IntKind.i64.wrap (((([] : List (Int × Int)).length : Nat) : Int) - 1) ≥ 0) = false := by decide
      repeat (first | refine RQ ?_ | ((first | refine WL_Q ?_); (first | refine QW_of (Qt_ldX rfl (hn := by with_reducible assumption)) ?_)) | (refine RE ?_; try intro _) | refine RC ?_ | refine WC_region (id := 6) ?_ | refine WC_region (id := 7) ?_)
      rw [v1]
      repeat (first | refine RQr ?_ | ((first | refine WL_Q ?_ | refine WL_Y ?_ | refine WR_Q rfl ?_ | refine WR_late rfl rfl rfl (OW_Q ?_) | refine WR_Y rfl ?_); (first | refine QW_of (Qt_ldX rfl (hn := by with_reducible assumption)) ?_)) | ((first | refine WL_op rfl ?_ | refine WL_yes (h := ?_) | refine WR_late rfl rfl rfl ?_ | refine WR_opG rfl rfl ?_ | refine WR_opYG rfl (h := ?_)); (first | (refine OE ?_; try intro _)); try refine SD ?_) | refine RC ?_ | refine RU ?_ | refine WC_draw_all (id := 9) 12 (.calm 0 <| .calm 1 <| .calm 2 <| .calm 3 <| .calm 4 <| .calm 5 <| .calm 6 <| .calm 7 <| .calm 8 <| .calm 9 <| .calm 10 <| .calm 11 <| .done) mixed (by kernel_rfl) ?_ | refine WC_region (id := 7) ?_ | refine WC_region (id := 8) ?_ | refine WC_region (id := 11) ?_)
      refine WL_op rfl (OW_append_buf (A := [_, _]) (T := T) (B := T4 ++ L) rfl rfl rfl rfl rfl hb (srcW (w := wC p) (i := 0) rfl rfl rfl) (by decide) (by simp only [maxLen]; omega) (by omega) ?_)
      intro v' T' hb'
      simp only [List.cons_append, List.nil_append]
      repeat (first | refine RQ ?_ | ((first | refine WL_Q ?_); (first | refine QW_of (Qt_ldX rfl (hn := by with_reducible assumption)) ?_)) | (refine RE ?_; try intro _) | refine RC ?_ | refine WC_region (id := 11) ?_ | refine WC_region (id := 12) ?_)
      rw [w]
      refine ⟨_, _, by omega, ⟨i + 1, v', T', rfl, by omega, ?_, rfl⟩, ⟨rfl, rfl, rfl, rfl, trivial⟩, rfl, .cons _ (.cons _ (.refl _))⟩
      rw [hnext, sweep1_nil]
      exact hb'
    · obtain ⟨n, hnn⟩ : ∃ n, out.length = n + 1 := ⟨out.length - 1, by omega⟩
      obtain ⟨q, hq⟩ : ∃ q, out[n]? = some q := ⟨_, List.getElem?_eq_getElem (by omega)⟩
      obtain ⟨g, off, cap, cur, e1, rfl, ho⟩ := (BufW.cases_ hb).resolve_left (fun h => by rw [h.1] at h0; simp at h0)
      cases e1
      have wn : IntKind.i64.wrap (((out.length : Nat) : Int) - 1) = ((n : Nat) : Int) := by rw [wI64 (by omega) (by omega)]; omega
      have w0 : decide (((n : Nat) : Int) ≥ 0) = true := decide_eq_true (by omega)
      have n0 : (0 : Int) ≤ (n : Int) := by omega
      have n1 : ((n : Nat) : Int) < ((out.length : Nat) : Int) := by omega
      have n2 : off + ((n : Nat) : Int).toNat * 2 + 2 ≤ cur.size := by rw [Int.toNat_natCast]; exact ho.lt (by omega)
      have n3 : cur.extract (off + ((n : Nat) : Int).toNat * 2) (off + ((n : Nat) : Int).toNat * 2 + 2) = wC q := by rw [Int.toNat_natCast]; exact ho.cell hq
      have n4 : cur[off + ((n : Nat) : Int).toNat * 2 + 1]? = some (.int .i64 q.2) := by rw [Int.toNat_natCast]; exact (ho.at_ hq).2
      repeat (first | refine RQ ?_ | ((first | refine WL_Q ?_); (first | refine QW_of (Qt_ldX rfl (hn := by with_reducible assumption)) ?_)) | (refine RE ?_; try intro _) | refine RC ?_ | refine WC_region (id := 6) ?_ | refine WC_region (id := 7) ?_)
      rw [v1]
      repeat (first | refine RQ ?_ | ((first | refine WL_Q ?_); (first | refine QW_of (Qt_ldX rfl (hn := by with_reducible assumption)) ?_)) | (refine RE ?_; try intro _) | refine RC ?_ | refine WC_region (id := 7) ?_ | refine WC_region (id := 8) ?_)
      rw [wn]
      by_cases hlo : p.1 < q.2
      · have d3 : decide (p.1 < q.2) = true := decide_eq_true hlo
        repeat (first | refine RQr ?_ | ((first | refine WL_Q ?_ | refine WL_Y ?_ | refine WR_Q rfl ?_ | refine WR_late rfl rfl rfl (OW_Q ?_) | refine WR_Y rfl ?_); (first | refine QW_of (Qt_ldX rfl (hn := by with_reducible assumption)) ?_)) | ((first | refine WL_op rfl ?_ | refine WL_yes (h := ?_) | refine WR_late rfl rfl rfl ?_ | refine WR_opG rfl rfl ?_ | refine WR_opYG rfl (h := ?_)); (first | (refine OE ?_; try intro _) | refine OW_callP rfl (hF := joinP_fn) (hk := ?_)); try refine SD ?_) | refine RC ?_ | refine RU ?_ | refine WC_draw_all (id := 9) 12 (.calm 0 <| .calm 1 <| .calm 2 <| .calm 3 <| .calm 4 <| .calm 5 <| .calm 6 <| .calm 7 <| .calm 8 <| .calm 9 <| .calm 10 <| .calm 11 <| .done) mixed (by kernel_rfl) ?_ | refine WC_draw_all (id := 10) 9 (.calm 0 <| .calm 1 <| .calm 2 <| .calm 3 <| .calm 4 <| .calm 5 <| .calm 6 <| .must 7 <| .calm 8 <| .must 9 <| .done) mixed (by kernel_rfl) ?_)
        rw [n3]
        have hput : OwnW (putR cur (off + ((n : Nat) : Int).toNat * 2) (wC (joinW q p))) off capo (out.set n (joinW q p)) := ho.put (by omega) _
        repeat (first | refine RQr ?_ | ((first | refine WL_Q ?_ | refine WR_Q rfl ?_ | refine WR_late rfl rfl rfl (OW_Q ?_)); (first | refine QW_of (Qt_ldX rfl (hn := by with_reducible assumption)) ?_)) | ((first | refine WL_op rfl ?_ | refine WR_late rfl rfl rfl ?_ | refine WR_opG rfl rfl ?_); (first | (refine OE ?_; try intro _) | refine OW_callP rfl (hF := joinP_fn) (hk := ?_)); try refine SD ?_) | refine RC ?_ | refine RU ?_ | refine WC_draw_all (id := 10) 9 (.calm 0 <| .calm 1 <| .calm 2 <| .calm 3 <| .calm 4 <| .calm 5 <| .calm 6 <| .must 7 <| .calm 8 <| .must 9 <| .done) mixed (by kernel_rfl) ?_ | refine WC_region (id := 12) ?_)
        rw [w]
        refine ⟨_, _, by omega, ⟨i + 1, .slice (some ⟨g, off, none⟩) out.length capo, [(g, .cells (putR cur (off + ((n : Nat) : Int).toNat * 2) (wC (joinW q p))) 30 (0, 0))], rfl, by omega, ?_, rfl⟩, ⟨rfl, rfl, rfl, rfl, trivial⟩, rfl, .cons _ (.refl _)⟩
        rw [hnext, sweep1_join hq hnn hlo]
        refine .inr ⟨g, off, capo, _, ?_, rfl, hput⟩
        rw [List.length_set]
      · have d3 : decide (p.1 < q.2) = false := decide_eq_false hlo
        repeat (first | refine RQr ?_ | ((first | refine WL_Q ?_ | refine WL_Y ?_ | refine WR_Q rfl ?_ | refine WR_late rfl rfl rfl (OW_Q ?_) | refine WR_Y rfl ?_); (first | refine QW_of (Qt_ldX rfl (hn := by with_reducible assumption)) ?_)) | ((first | refine WL_op rfl ?_ | refine WL_yes (h := ?_) | refine WR_late rfl rfl rfl ?_ | refine WR_opG rfl rfl ?_ | refine WR_opYG rfl (h := ?_)); (first | (refine OE ?_; try intro _)); try refine SD ?_) | refine RC ?_ | refine RU ?_ | refine WC_draw_all (id := 9) 12 (.calm 0 <| .calm 1 <| .calm 2 <| .calm 3 <| .calm 4 <| .calm 5 <| .calm 6 <| .calm 7 <| .calm 8 <| .calm 9 <| .calm 10 <| .calm 11 <| .done) mixed (by kernel_rfl) ?_ | refine WC_region (id := 11) ?_)
        refine WL_op rfl (OW_append_buf (A := [_, _]) (T := [(g, .cells cur 30 (0, 0))]) (B := T4 ++ L) rfl rfl rfl rfl rfl hb (srcW (w := wC p) (i := 0) rfl rfl rfl) (by decide) (by simp only [maxLen]; omega) (by omega) ?_)
        intro v' T' hb'
        simp only [List.cons_append, List.nil_append]
        repeat (first | refine RQ ?_ | ((first | refine WL_Q ?_); (first | refine QW_of (Qt_ldX rfl (hn := by with_reducible assumption)) ?_)) | (refine RE ?_; try intro _) | refine RC ?_ | refine WC_region (id := 11) ?_ | refine WC_region (id := 12) ?_)
        rw [w]
        refine ⟨_, _, by omega, ⟨i + 1, v', T', rfl, by omega, ?_, rfl⟩, ⟨rfl, rfl, rfl, rfl, trivial⟩, rfl, .cons _ (.cons _ (.refl _))⟩
        rw [hnext, sweep1_add hq hnn hlo]
        unfold BufW
        rw [flatW_snoc, List.length_append]
        exact hb'
  · obtain rfl : i = w4.length := by omega
    have d2 : decide (((w4.length : Nat) : Int) < ((w4.length : Nat) : Int)) = false := decide_eq_false (by omega)
    repeat (first | refine RQ ?_ | ((first | refine WL_Q ?_); (first | refine QW_of (Qt_ldX rfl (hn := by with_reducible assumption)) ?_)) | refine RC ?_ | refine WC_region (id := 6) ?_ | refine WC_region (id := 13) ?_)
    rw [List.take_length] at hb
    exact ⟨rfl, _, T ++ L, Res1 rfl (resV_tmp rfl), List.Sublist.append (.refl _) (List.sublist_append_right _ _), sweepW w4, T, hG, Nat.le_trans (sweepW_len _) hl4, hb, rfl⟩
end Go.Proofs.Ytkjljlmoihkijaa
namespace Go.Proofs.Ytkjljlmoihkijaa
open Go.RowKit
noncomputable def xf6 : XF := ⟨Try.f6, (Try.f6.body).getD .skip, T.ofList [(6, (9, .calm 0 <| .calm 1 <| .calm 2 <| .calm 3 <| .calm 4 <| .calm 5 <| .calm 6 <| .calm 7 <| .calm 8 <| .done))], 33571891⟩
theorem xf6_ok : GoodF Try.prog 6 xf6 := ⟨Try.func6, by kernel_rfl, inferInstance, by kernel_rfl⟩
noncomputable def xf7 : XF := ⟨Try.f7, (Try.f7.body).getD .skip, T.ofList [(9, (12, .calm 0 <| .calm 1 <| .calm 2 <| .calm 3 <| .calm 4 <| .calm 5 <| .calm 6 <| .calm 7 <| .calm 8 <| .calm 9 <| .calm 10 <| .calm 11 <| .done)), (10, (9, .calm 0 <| .calm 1 <| .calm 2 <| .calm 3 <| .calm 4 <| .calm 5 <| .calm 6 <| .must 7 <| .calm 8 <| .must 9 <| .done))], 34360230109⟩
theorem xf7_ok : GoodF Try.prog 7 xf7 := ⟨Try.func7, by kernel_rfl, inferInstance, by kernel_rfl⟩
noncomputable def xf9 : XF := ⟨Try.f9, (Try.f9.body).getD .skip, T.ofList [], 31⟩
theorem xf9_ok : GoodF Try.prog 9 xf9 := ⟨Try.func9, by kernel_rfl, inferInstance, by kernel_rfl⟩
noncomputable def xf10 : XF := ⟨Try.f10, (Try.f10.body).getD .skip, T.ofList [], 31⟩
theorem xf10_ok : GoodF Try.prog 10 xf10 := ⟨Try.func10, by kernel_rfl, inferInstance, by kernel_rfl⟩
noncomputable def xf12 : XF := ⟨Try.f12, (Try.f12.body).getD .skip, T.ofList [], 537399539⟩
theorem xf12_ok : GoodF Try.prog 12 xf12 := ⟨Try.func12, by kernel_rfl, inferInstance, by kernel_rfl⟩
noncomputable def xf13 : XF := ⟨Try.f13, (Try.f13.body).getD .skip, T.ofList [], 21⟩
theorem xf13_ok : GoodF Try.prog 13 xf13 := ⟨Try.func13, by kernel_rfl, inferInstance, by kernel_rfl⟩
noncomputable def xf14 : XF := ⟨Try.f14, (Try.f14.body).getD .skip, T.ofList [], 7⟩
theorem xf14_ok : GoodF Try.prog 14 xf14 := ⟨Try.func14, by kernel_rfl, inferInstance, by kernel_rfl⟩
noncomputable def xf15 : XF := ⟨Try.f15, (Try.f15.body).getD .skip, T.ofList [], 19⟩
theorem xf15_ok : GoodF Try.prog 15 xf15 := ⟨Try.func15, by kernel_rfl, inferInstance, by kernel_rfl⟩
noncomputable def xf16 : XF := ⟨Try.f16, (Try.f16.body).getD .skip, T.ofList [(1, (4, .calm 0 <| .calm 1 <| .must 2 <| .calm 3 <| .done))], 31⟩
theorem xf16_ok : GoodF Try.prog 16 xf16 := ⟨Try.func16, by kernel_rfl, inferInstance, by kernel_rfl⟩
noncomputable def xf17 : XF := ⟨Try.f17, (Try.f17.body).getD .skip, T.ofList [], 34628706291⟩
theorem xf17_ok : GoodF Try.prog 17 xf17 := ⟨Try.func17, by kernel_rfl, inferInstance, by kernel_rfl⟩
noncomputable def xf18 : XF := ⟨Try.f18, (Try.f18.body).getD .skip, T.ofList [(6, (11, .calm 0 <| .calm 1 <| .calm 2 <| .calm 3 <| .calm 4 <| .calm 5 <| .calm 6 <| .calm 7 <| .calm 8 <| .calm 9 <| .must 10 <| .done)), (11, (12, .calm 0 <| .calm 1 <| .calm 2 <| .calm 3 <| .calm 4 <| .calm 5 <| .calm 6 <| .calm 7 <| .calm 8 <| .calm 9 <| .must 10 <| .calm 11 <| .done))], 562984581629171⟩
theorem xf18_ok : GoodF Try.prog 18 xf18 := ⟨Try.func18, by kernel_rfl, inferInstance, by kernel_rfl⟩
noncomputable def xf19 : XF := ⟨Try.f19, (Try.f19.body).getD .skip, T.ofList [], 31⟩
theorem xf19_ok : GoodF Try.prog 19 xf19 := ⟨Try.func19, by kernel_rfl, inferInstance, by kernel_rfl⟩
noncomputable def xf20 : XF := ⟨Try.f20, (Try.f20.body).getD .skip, T.ofList [], 31⟩
theorem xf20_ok : GoodF Try.prog 20 xf20 := ⟨Try.func20, by kernel_rfl, inferInstance, by kernel_rfl⟩
noncomputable def xf23 : XF := ⟨Try.f23, (Try.f23.body).getD .skip, T.ofList [], 2097215⟩
theorem xf23_ok : GoodF Try.prog 23 xf23 := ⟨Try.func23, by kernel_rfl, inferInstance, by kernel_rfl⟩
noncomputable def xf24 : XF := ⟨Try.f24, (Try.f24.body).getD .skip, T.ofList [], 66483⟩
theorem xf24_ok : GoodF Try.prog 24 xf24 := ⟨Try.func24, by kernel_rfl, inferInstance, by kernel_rfl⟩
noncomputable def xf25 : XF := ⟨Try.f25, (Try.f25.body).getD .skip, T.ofList [(17, (17, .calm 0 <| .calm 1 <| .calm 2 <| .calm 3 <| .calm 4 <| .calm 5 <| .calm 6 <| .calm 7 <| .calm 8 <| .calm 9 <| .calm 10 <| .calm 11 <| .calm 12 <| .must 13 <| .calm 14 <| .calm 15 <| .calm 16 <| .done))], 42535296023574879666274036850519702559⟩
theorem xf25_ok : GoodF Try.prog 25 xf25 := ⟨Try.func25, by kernel_rfl, inferInstance, by kernel_rfl⟩
noncomputable def xf26 : XF := ⟨Try.f26, (Try.f26.body).getD .skip, T.ofList [], 5⟩
theorem xf26_ok : GoodF Try.prog 26 xf26 := ⟨Try.func26, by kernel_rfl, inferInstance, by kernel_rfl⟩
noncomputable def xf27 : XF := ⟨Try.f27, (Try.f27.body).getD .skip, T.ofList [], 604275⟩
theorem xf27_ok : GoodF Try.prog 27 xf27 := ⟨Try.func27, by kernel_rfl, inferInstance, by kernel_rfl⟩
noncomputable def xf29 : XF := ⟨Try.f29, (Try.f29.body).getD .skip, T.ofList [(3, (5, .calm 1 <| .calm 2 <| .par [(0, []), (3, [0]), (4, [])] <| .must 5 <| .done))], 34360266783⟩
theorem xf29_ok : GoodF Try.prog 29 xf29 := ⟨Try.func29, by kernel_rfl, inferInstance, by kernel_rfl⟩
noncomputable def xf30 : XF := ⟨Try.f30, (Try.f30.body).getD .skip, T.ofList [(3, (6, .calm 1 <| .calm 2 <| .must 0 <| .calm 3 <| .calm 4 <| .calm 5 <| .done))], 1031⟩
theorem xf30_ok : GoodF Try.prog 30 xf30 := ⟨Try.func30, by kernel_rfl, inferInstance, by kernel_rfl⟩
noncomputable def xf31 : XF := ⟨Try.f31, (Try.f31.body).getD .skip, T.ofList [], 7⟩
theorem xf31_ok : GoodF Try.prog 31 xf31 := ⟨Try.func31, by kernel_rfl, inferInstance, by kernel_rfl⟩
noncomputable def xf32 : XF := ⟨Try.f32, (Try.f32.body).getD .skip, T.ofList [], 127⟩
theorem xf32_ok : GoodF Try.prog 32 xf32 := ⟨Try.func32, by kernel_rfl, inferInstance, by kernel_rfl⟩
noncomputable def xf33 : XF := ⟨Try.f33, (Try.f33.body).getD .skip, T.ofList [], 7⟩
theorem xf33_ok : GoodF Try.prog 33 xf33 := ⟨Try.func33, by kernel_rfl, inferInstance, by kernel_rfl⟩
noncomputable def xf34 : XF := ⟨Try.f34, (Try.f34.body).getD .skip, T.ofList [], 7⟩
theorem xf34_ok : GoodF Try.prog 34 xf34 := ⟨Try.func34, by kernel_rfl, inferInstance, by kernel_rfl⟩
noncomputable def xf35 : XF := ⟨Try.f35, (Try.f35.body).getD .skip, T.ofList [], 7⟩
theorem xf35_ok : GoodF Try.prog 35 xf35 := ⟨Try.func35, by kernel_rfl, inferInstance, by kernel_rfl⟩
noncomputable def xf36 : XF := ⟨Try.f36, (Try.f36.body).getD .skip, T.ofList [], 5⟩
theorem xf36_ok : GoodF Try.prog 36 xf36 := ⟨Try.func36, by kernel_rfl, inferInstance, by kernel_rfl⟩
noncomputable def xf37 : XF := ⟨Try.f37, (Try.f37.body).getD .skip, T.ofList [(4, (17, .calm 0 <| .calm 1 <| .calm 2 <| .calm 3 <| .calm 4 <| .calm 5 <| .calm 6 <| .calm 7 <| .calm 8 <| .calm 9 <| .calm 10 <| .calm 11 <| .calm 12 <| .calm 13 <| .must 14 <| .calm 15 <| .calm 16 <| .done)), (6, (18, .calm 0 <| .calm 1 <| .calm 2 <| .calm 3 <| .calm 4 <| .calm 5 <| .calm 6 <| .calm 7 <| .calm 8 <| .calm 9 <| .calm 10 <| .calm 11 <| .calm 12 <| .calm 13 <| .calm 14 <| .must 15 <| .calm 16 <| .must 17 <| .done))], 17179886351⟩
theorem xf37_ok : GoodF Try.prog 37 xf37 := ⟨Try.func37, by kernel_rfl, inferInstance, by kernel_rfl⟩
noncomputable def xf38 : XF := ⟨Try.f38, (Try.f38.body).getD .skip, T.ofList [(10, (20, .calm 0 <| .calm 1 <| .calm 2 <| .calm 3 <| .calm 4 <| .calm 5 <| .calm 6 <| .calm 7 <| .calm 8 <| .calm 9 <| .calm 10 <| .calm 11 <| .calm 12 <| .calm 13 <| .calm 14 <| .calm 15 <| .calm 16 <| .must 17 <| .calm 18 <| .must 19 <| .done))], 8592039695⟩
theorem xf38_ok : GoodF Try.prog 38 xf38 := ⟨Try.func38, by kernel_rfl, inferInstance, by kernel_rfl⟩
noncomputable def xf39 : XF := ⟨Try.f39, (Try.f39.body).getD .skip, T.ofList [(10, (20, .calm 0 <| .calm 1 <| .calm 2 <| .calm 3 <| .calm 4 <| .calm 5 <| .calm 6 <| .calm 7 <| .calm 8 <| .calm 9 <| .calm 10 <| .calm 11 <| .calm 12 <| .calm 13 <| .calm 14 <| .calm 15 <| .calm 16 <| .must 17 <| .calm 18 <| .must 19 <| .done))], 35218731966223⟩
theorem xf39_ok : GoodF Try.prog 39 xf39 := ⟨Try.func39, by kernel_rfl, inferInstance, by kernel_rfl⟩
noncomputable def xf40 : XF := ⟨Try.f40, (Try.f40.body).getD .skip, T.ofList [], 1333065575601045263⟩
theorem xf40_ok : GoodF Try.prog 40 xf40 := ⟨Try.func40, by kernel_rfl, inferInstance, by kernel_rfl⟩
noncomputable def xf41 : XF := ⟨Try.f41, (Try.f41.body).getD .skip, T.ofList [(3, (16, .calm 0 <| .calm 1 <| .calm 2 <| .calm 3 <| .calm 4 <| .calm 5 <| .calm 6 <| .calm 7 <| .calm 8 <| .calm 9 <| .calm 10 <| .calm 11 <| .calm 12 <| .must 13 <| .calm 14 <| .must 15 <| .done))], 33551⟩
theorem xf41_ok : GoodF Try.prog 41 xf41 := ⟨Try.func41, by kernel_rfl, inferInstance, by kernel_rfl⟩
noncomputable def xf42 : XF := ⟨Try.f42, (Try.f42.body).getD .skip, T.ofList [(5, (18, .calm 0 <| .calm 1 <| .calm 2 <| .calm 3 <| .calm 4 <| .calm 5 <| .calm 6 <| .calm 7 <| .calm 8 <| .calm 9 <| .calm 10 <| .calm 11 <| .calm 12 <| .calm 13 <| .must 14 <| .calm 15 <| .calm 16 <| .calm 17 <| .done)), (11, (18, .calm 0 <| .calm 1 <| .calm 2 <| .calm 3 <| .calm 4 <| .calm 5 <| .calm 6 <| .calm 7 <| .calm 8 <| .calm 9 <| .calm 10 <| .calm 11 <| .calm 12 <| .calm 13 <| .calm 14 <| .must 15 <| .calm 16 <| .must 17 <| .done)), (16, (13, .calm 0 <| .calm 1 <| .calm 2 <| .calm 3 <| .calm 4 <| .calm 5 <| .calm 6 <| .calm 7 <| .calm 8 <| .calm 9 <| .must 10 <| .calm 11 <| .calm 12 <| .done)), (17, (18, .calm 0 <| .calm 1 <| .calm 2 <| .calm 3 <| .calm 4 <| .calm 5 <| .calm 6 <| .calm 7 <| .calm 8 <| .calm 9 <| .calm 10 <| .calm 11 <| .calm 12 <| .calm 13 <| .calm 14 <| .must 15 <| .calm 16 <| .must 17 <| .done)), (22, (13, .calm 0 <| .calm 1 <| .calm 2 <| .calm 3 <| .calm 4 <| .calm 5 <| .calm 6 <| .calm 7 <| .calm 8 <| .calm 9 <| .must 10 <| .calm 11 <| .calm 12 <| .done)), (23, (18, .calm 0 <| .calm 1 <| .calm 2 <| .calm 3 <| .calm 4 <| .calm 5 <| .calm 6 <| .calm 7 <| .calm 8 <| .calm 9 <| .calm 10 <| .calm 11 <| .calm 12 <| .calm 13 <| .calm 14 <| .must 15 <| .calm 16 <| .must 17 <| .done))], 21268317252094917911888073248812900111⟩
theorem xf42_ok : GoodF Try.prog 42 xf42 := ⟨Try.func42, by kernel_rfl, inferInstance, by kernel_rfl⟩
noncomputable def xf43 : XF := ⟨Try.f43, (Try.f43.body).getD .skip, T.ofList [(1, (16, .calm 0 <| .calm 1 <| .calm 2 <| .calm 3 <| .calm 4 <| .calm 5 <| .calm 6 <| .calm 7 <| .calm 8 <| .calm 9 <| .calm 10 <| .calm 11 <| .calm 12 <| .must 13 <| .calm 14 <| .must 15 <| .done)), (3, (17, .calm 0 <| .calm 1 <| .calm 2 <| .calm 3 <| .calm 4 <| .calm 5 <| .calm 6 <| .calm 7 <| .calm 8 <| .calm 9 <| .calm 10 <| .calm 11 <| .calm 12 <| .must 13 <| .calm 14 <| .calm 15 <| .calm 16 <| .done)), (5, (16, .calm 0 <| .calm 1 <| .calm 2 <| .calm 3 <| .calm 4 <| .calm 5 <| .calm 6 <| .calm 7 <| .calm 8 <| .calm 9 <| .calm 10 <| .calm 11 <| .calm 12 <| .must 13 <| .calm 14 <| .calm 15 <| .done)), (8, (16, .calm 0 <| .calm 1 <| .calm 2 <| .calm 3 <| .calm 4 <| .calm 5 <| .calm 6 <| .calm 7 <| .calm 8 <| .calm 9 <| .calm 10 <| .calm 11 <| .calm 12 <| .must 13 <| .calm 14 <| .must 15 <| .done))], 1217485249602318769183⟩
theorem xf43_ok : GoodF Try.prog 43 xf43 := ⟨Try.func43, by kernel_rfl, inferInstance, by kernel_rfl⟩
noncomputable def xf44 : XF := ⟨Try.f44, (Try.f44.body).getD .skip, T.ofList [(1, (16, .calm 0 <| .calm 1 <| .calm 2 <| .calm 3 <| .calm 4 <| .calm 5 <| .calm 6 <| .calm 7 <| .calm 8 <| .calm 9 <| .calm 10 <| .calm 11 <| .calm 12 <| .must 13 <| .calm 14 <| .must 15 <| .done)), (3, (16, .calm 0 <| .calm 1 <| .calm 2 <| .calm 3 <| .calm 4 <| .calm 5 <| .calm 6 <| .calm 7 <| .calm 8 <| .calm 9 <| .calm 10 <| .calm 11 <| .calm 12 <| .must 13 <| .calm 14 <| .calm 15 <| .done)), (5, (17, .calm 0 <| .calm 1 <| .calm 2 <| .calm 3 <| .calm 4 <| .calm 5 <| .calm 6 <| .calm 7 <| .calm 8 <| .calm 9 <| .calm 10 <| .calm 11 <| .calm 12 <| .must 13 <| .calm 14 <| .calm 15 <| .calm 16 <| .done)), (8, (16, .calm 0 <| .calm 1 <| .calm 2 <| .calm 3 <| .calm 4 <| .calm 5 <| .calm 6 <| .calm 7 <| .calm 8 <| .calm 9 <| .calm 10 <| .calm 11 <| .calm 12 <| .must 13 <| .calm 14 <| .must 15 <| .done)), (10, (16, .calm 0 <| .calm 1 <| .calm 2 <| .calm 3 <| .calm 4 <| .calm 5 <| .calm 6 <| .calm 7 <| .calm 8 <| .calm 9 <| .calm 10 <| .calm 11 <| .calm 12 <| .must 13 <| .calm 14 <| .must 15 <| .done)), (13, (16, .calm 0 <| .calm 1 <| .calm 2 <| .calm 3 <| .calm 4 <| .calm 5 <| .calm 6 <| .calm 7 <| .calm 8 <| .calm 9 <| .calm 10 <| .calm 11 <| .calm 12 <| .must 13 <| .calm 14 <| .calm 15 <| .done)), (15, (17, .calm 0 <| .calm 1 <| .calm 2 <| .calm 3 <| .calm 4 <| .calm 5 <| .calm 6 <| .calm 7 <| .calm 8 <| .calm 9 <| .calm 10 <| .calm 11 <| .calm 12 <| .must 13 <| .calm 14 <| .calm 15 <| .calm 16 <| .done)), (18, (16, .calm 0 <| .calm 1 <| .calm 2 <| .calm 3 <| .calm 4 <| .calm 5 <| .calm 6 <| .calm 7 <| .calm 8 <| .calm 9 <| .calm 10 <| .calm 11 <| .calm 12 <| .must 13 <| .calm 14 <| .must 15 <| .done)), (21, (16, .calm 0 <| .calm 1 <| .calm 2 <| .calm 3 <| .calm 4 <| .calm 5 <| .calm 6 <| .calm 7 <| .calm 8 <| .calm 9 <| .calm 10 <| .calm 11 <| .calm 12 <| .must 13 <| .calm 14 <| .must 15 <| .done))], 22997644815212700899627017342834150232570911⟩
theorem xf44_ok : GoodF Try.prog 44 xf44 := ⟨Try.func44, by kernel_rfl, inferInstance, by kernel_rfl⟩
noncomputable def xf45 : XF := ⟨Try.f45, (Try.f45.body).getD .skip, T.ofList [], 277⟩
theorem xf45_ok : GoodF Try.prog 45 xf45 := ⟨Try.func45, by kernel_rfl, inferInstance, by kernel_rfl⟩
noncomputable def xf46 : XF := ⟨Try.f46, (Try.f46.body).getD .skip, T.ofList [], 16661⟩
theorem xf46_ok : GoodF Try.prog 46 xf46 := ⟨Try.func46, by kernel_rfl, inferInstance, by kernel_rfl⟩
noncomputable def xf47 : XF := ⟨Try.f47, (Try.f47.body).getD .skip, T.ofList [], 5⟩
theorem xf47_ok : GoodF Try.prog 47 xf47 := ⟨Try.func47, by kernel_rfl, inferInstance, by kernel_rfl⟩
noncomputable def xf48 : XF := ⟨Try.f48, (Try.f48.body).getD .skip, T.ofList [], 1⟩
theorem xf48_ok : GoodF Try.prog 48 xf48 := ⟨Try.func48, by kernel_rfl, inferInstance, by kernel_rfl⟩
noncomputable def xf49 : XF := ⟨Try.f49, (Try.f49.body).getD .skip, T.ofList [], 34376517743⟩
theorem xf49_ok : GoodF Try.prog 49 xf49 := ⟨Try.func49, by kernel_rfl, inferInstance, by kernel_rfl⟩
noncomputable def xf50 : XF := ⟨Try.f50, (Try.f50.body).getD .skip, T.ofList [], 16883⟩
theorem xf50_ok : GoodF Try.prog 50 xf50 := ⟨Try.func50, by kernel_rfl, inferInstance, by kernel_rfl⟩
noncomputable def xf51 : XF := ⟨Try.f51, (Try.f51.body).getD .skip, T.ofList [], 247⟩
theorem xf51_ok : GoodF Try.prog 51 xf51 := ⟨Try.func51, by kernel_rfl, inferInstance, by kernel_rfl⟩
noncomputable def xf52 : XF := ⟨Try.f52, (Try.f52.body).getD .skip, T.ofList [(3, (22, .calm 0 <| .calm 1 <| .calm 2 <| .calm 3 <| .calm 4 <| .calm 5 <| .calm 6 <| .calm 7 <| .calm 8 <| .calm 9 <| .calm 10 <| .calm 11 <| .calm 12 <| .calm 13 <| .calm 14 <| .calm 15 <| .calm 16 <| .calm 17 <| .calm 18 <| .must 19 <| .calm 20 <| .calm 21 <| .done)), (5, (16, .calm 0 <| .calm 1 <| .calm 2 <| .calm 3 <| .calm 4 <| .calm 5 <| .calm 6 <| .calm 7 <| .calm 8 <| .calm 9 <| .calm 10 <| .calm 11 <| .calm 12 <| .must 13 <| .calm 14 <| .calm 15 <| .done)), (6, (24, .calm 0 <| .calm 1 <| .calm 2 <| .calm 3 <| .calm 4 <| .calm 5 <| .calm 6 <| .calm 7 <| .calm 8 <| .calm 9 <| .calm 10 <| .calm 11 <| .calm 12 <| .calm 13 <| .calm 14 <| .calm 15 <| .calm 16 <| .calm 17 <| .calm 18 <| .calm 19 <| .calm 20 <| .must 21 <| .calm 22 <| .must 23 <| .done))], 288231475663604767⟩
theorem xf52_ok : GoodF Try.prog 52 xf52 := ⟨Try.func52, by kernel_rfl, inferInstance, by kernel_rfl⟩
noncomputable def xf53 : XF := ⟨Try.f53, (Try.f53.body).getD .skip, T.ofList [], 5⟩
theorem xf53_ok : GoodF Try.prog 53 xf53 := ⟨Try.func53, by kernel_rfl, inferInstance, by kernel_rfl⟩
noncomputable def xf54 : XF := ⟨Try.f54, (Try.f54.body).getD .skip, T.ofList [(1, (9, .calm 0 <| .calm 1 <| .calm 2 <| .calm 3 <| .calm 4 <| .calm 5 <| .calm 6 <| .calm 7 <| .calm 8 <| .must 9 <| .done)), (2, (9, .calm 0 <| .calm 1 <| .calm 2 <| .calm 3 <| .calm 4 <| .calm 5 <| .calm 6 <| .calm 7 <| .calm 8 <| .must 9 <| .done)), (3, (9, .calm 0 <| .calm 1 <| .calm 2 <| .calm 3 <| .calm 4 <| .calm 5 <| .calm 6 <| .calm 7 <| .calm 8 <| .must 9 <| .done))], 5⟩
theorem xf54_ok : GoodF Try.prog 54 xf54 := ⟨Try.func54, by kernel_rfl, inferInstance, by kernel_rfl⟩
noncomputable def xf55 : XF := ⟨Try.f55, (Try.f55.body).getD .skip, T.ofList [], 271⟩
theorem xf55_ok : GoodF Try.prog 55 xf55 := ⟨Try.func55, by kernel_rfl, inferInstance, by kernel_rfl⟩
noncomputable def xf56 : XF := ⟨Try.f56, (Try.f56.body).getD .skip, T.ofList [], 4159⟩
theorem xf56_ok : GoodF Try.prog 56 xf56 := ⟨Try.func56, by kernel_rfl, inferInstance, by kernel_rfl⟩
noncomputable def xf57 : XF := ⟨Try.f57, (Try.f57.body).getD .skip, T.ofList [], 5⟩
theorem xf57_ok : GoodF Try.prog 57 xf57 := ⟨Try.func57, by kernel_rfl, inferInstance, by kernel_rfl⟩
noncomputable def xf58 : XF := ⟨Try.f58, (Try.f58.body).getD .skip, T.ofList [], 31⟩
theorem xf58_ok : GoodF Try.prog 58 xf58 := ⟨Try.func58, by kernel_rfl, inferInstance, by kernel_rfl⟩
noncomputable def xf59 : XF := ⟨Try.f59, (Try.f59.body).getD .skip, T.ofList [], 7⟩
theorem xf59_ok : GoodF Try.prog 59 xf59 := ⟨Try.func59, by kernel_rfl, inferInstance, by kernel_rfl⟩
noncomputable def xf60 : XF := ⟨Try.f60, (Try.f60.body).getD .skip, T.ofList [], 71⟩
theorem xf60_ok : GoodF Try.prog 60 xf60 := ⟨Try.func60, by kernel_rfl, inferInstance, by kernel_rfl⟩
noncomputable def xf61 : XF := ⟨Try.f61, (Try.f61.body).getD .skip, T.ofList [(1, (13, .calm 0 <| .calm 1 <| .calm 2 <| .calm 3 <| .calm 4 <| .calm 5 <| .calm 6 <| .calm 7 <| .calm 8 <| .calm 9 <| .calm 10 <| .calm 11 <| .calm 12 <| .must 13 <| .done))], 31⟩
theorem xf61_ok : GoodF Try.prog 61 xf61 := ⟨Try.func61, by kernel_rfl, inferInstance, by kernel_rfl⟩
noncomputable def xf62 : XF := ⟨Try.f62, (Try.f62.body).getD .skip, T.ofList [], 7⟩
theorem xf62_ok : GoodF Try.prog 62 xf62 := ⟨Try.func62, by kernel_rfl, inferInstance, by kernel_rfl⟩
noncomputable def xf63 : XF := ⟨Try.f63, (Try.f63.body).getD .skip, T.ofList [], 7⟩
theorem xf63_ok : GoodF Try.prog 63 xf63 := ⟨Try.func63, by kernel_rfl, inferInstance, by kernel_rfl⟩
noncomputable def xf64 : XF := ⟨Try.f64, (Try.f64.body).getD .skip, T.ofList [], 1052735⟩
theorem xf64_ok : GoodF Try.prog 64 xf64 := ⟨Try.func64, by kernel_rfl, inferInstance, by kernel_rfl⟩
noncomputable def xf65 : XF := ⟨Try.f65, (Try.f65.body).getD .skip, T.ofList [], 7⟩
theorem xf65_ok : GoodF Try.prog 65 xf65 := ⟨Try.func65, by kernel_rfl, inferInstance, by kernel_rfl⟩
noncomputable def xf66 : XF := ⟨Try.f66, (Try.f66.body).getD .skip, T.ofList [], 31⟩
theorem xf66_ok : GoodF Try.prog 66 xf66 := ⟨Try.func66, by kernel_rfl, inferInstance, by kernel_rfl⟩
noncomputable def xf67 : XF := ⟨Try.f67, (Try.f67.body).getD .skip, T.ofList [], 7⟩
theorem xf67_ok : GoodF Try.prog 67 xf67 := ⟨Try.func67, by kernel_rfl, inferInstance, by kernel_rfl⟩
noncomputable def xf68 : XF := ⟨Try.f68, (Try.f68.body).getD .skip, T.ofList [], 7⟩
theorem xf68_ok : GoodF Try.prog 68 xf68 := ⟨Try.func68, by kernel_rfl, inferInstance, by kernel_rfl⟩
noncomputable def xf69 : XF := ⟨Try.f69, (Try.f69.body).getD .skip, T.ofList [(1, (11, .calm 0 <| .calm 1 <| .calm 2 <| .calm 3 <| .calm 4 <| .calm 5 <| .calm 6 <| .calm 7 <| .calm 8 <| .must 9 <| .calm 10 <| .done))], 4197407⟩
theorem xf69_ok : GoodF Try.prog 69 xf69 := ⟨Try.func69, by kernel_rfl, inferInstance, by kernel_rfl⟩
noncomputable def xf70 : XF := ⟨Try.f70, (Try.f70.body).getD .skip, T.ofList [], 7⟩
theorem xf70_ok : GoodF Try.prog 70 xf70 := ⟨Try.func70, by kernel_rfl, inferInstance, by kernel_rfl⟩
noncomputable def xf71 : XF := ⟨Try.f71, (Try.f71.body).getD .skip, T.ofList [], 1⟩
theorem xf71_ok : GoodF Try.prog 71 xf71 := ⟨Try.func71, by kernel_rfl, inferInstance, by kernel_rfl⟩
noncomputable def xf72 : XF := ⟨Try.f72, (Try.f72.body).getD .skip, T.ofList [], 2279⟩
theorem xf72_ok : GoodF Try.prog 72 xf72 := ⟨Try.func72, by kernel_rfl, inferInstance, by kernel_rfl⟩
noncomputable def xf73 : XF := ⟨Try.f73, (Try.f73.body).getD .skip, T.ofList [], 3⟩
theorem xf73_ok : GoodF Try.prog 73 xf73 := ⟨Try.func73, by kernel_rfl, inferInstance, by kernel_rfl⟩
noncomputable def tabL : List (Nat × XF) := [(6, xf6), (7, xf7), (9, xf9), (10, xf10), (12, xf12), (13, xf13), (14, xf14), (15, xf15), (16, xf16), (17, xf17), (18, xf18), (19, xf19), (20, xf20), (23, xf23), (24, xf24), (25, xf25), (26, xf26), (27, xf27), (29, xf29), (30, xf30), (31, xf31), (32, xf32), (33, xf33), (34, xf34), (35, xf35), (36, xf36), (37, xf37), (38, xf38), (39, xf39), (40, xf40), (41, xf41), (42, xf42), (43, xf43), (44, xf44), (45, xf45), (46, xf46), (47, xf47), (48, xf48), (49, xf49), (50, xf50), (51, xf51), (52, xf52), (53, xf53), (54, xf54), (55, xf55), (56, xf56), (57, xf57), (58, xf58), (59, xf59), (60, xf60), (61, xf61), (62, xf62), (63, xf63), (64, xf64), (65, xf65), (66, xf66), (67, xf67), (68, xf68), (69, xf69), (70, xf70), (71, xf71), (72, xf72), (73, xf73)]
noncomputable def tab : T XF := T.ofList tabL
theorem tab_ok : ∀ f x, tab.get f = some x → GoodF Try.prog f x := fun f x h => GoodL.mem (l := tabL) ⟨xf6_ok, xf7_ok, xf9_ok, xf10_ok, xf12_ok, xf13_ok, xf14_ok, xf15_ok, xf16_ok, xf17_ok, xf18_ok, xf19_ok, xf20_ok, xf23_ok, xf24_ok, xf25_ok, xf26_ok, xf27_ok, xf29_ok, xf30_ok, xf31_ok, xf32_ok, xf33_ok, xf34_ok, xf35_ok, xf36_ok, xf37_ok, xf38_ok, xf39_ok, xf40_ok, xf41_ok, xf42_ok, xf43_ok, xf44_ok, xf45_ok, xf46_ok, xf47_ok, xf48_ok, xf49_ok, xf50_ok, xf51_ok, xf52_ok, xf53_ok, xf54_ok, xf55_ok, xf56_ok, xf57_ok, xf58_ok, xf59_ok, xf60_ok, xf61_ok, xf62_ok, xf63_ok, xf64_ok, xf65_ok, xf66_ok, xf67_ok, xf68_ok, xf69_ok, xf70_ok, xf71_ok, xf72_ok, xf73_ok, trivial⟩ (f, x) (T.get_ofList h)
theorem works06_run : trueG Try.prog tab 100000 noPr ⟨.e, 1, [], []⟩ 200 9 = true := by kernel_rfl
theorem works06_fn (L : List (Nat × Obj)) : Fn Try.prog 9 [] L (fun v L' => v = .bool true ∧ L' = L) :=
  runG (bs0 := [(0, 0, 0)]) (M0 := []) noPr_ok mixed tab_ok ⟨rfl, fun k o hk => (by cases hk), fun j k o o' b x y x' y' hj => (by cases hj)⟩ (fun k o hk => (by cases hk)) works06_run L
end Go.Proofs.Ytkjljlmoihkijaa
namespace Go.Proofs.Ytkjljlmoihkijaa
open Go.RowKit
def smallW (p : Int × Int) : Int × Int := (p.1.tmod 200, p.1.tmod 200 + p.2.tmod 12)
theorem smallW_r (p : Int × Int) : -200 < (smallW p).1 ∧ (smallW p).1 < 200 ∧ (smallW p).2 < 212 ∧ -212 < (smallW p).2 := by
  unfold smallW
  have h1 := Int.tmod_lt_of_pos p.1 (b := 200) (by decide)
  have h2 := Int.tmod_lt_of_pos p.2 (b := 12) (by decide)
  have h3 := Int.lt_tmod_of_pos p.1 (b := 200) (by decide)
  have h4 := Int.lt_tmod_of_pos p.2 (b := 12) (by decide)
  dsimp only
  omega
theorem flatW_vec {L : List (Nat × Obj)} {a : Option Addr} {cap : Nat} {ws : List (Int × Int)} (h : VecW L (.slice a ws.length cap) ws) {j : Nat} {p : Int × Int} (hj : ws[j]? = some p) : ∃ (g off : Nat) (cur : Array Value) (E : TypeId) (fr : Nat × Nat) (i : Nat), a = some ⟨g, off, none⟩ ∧ L[i]? = some (g, .cells cur E fr) ∧ cur.extract (off + j * 2) (off + j * 2 + 2) = wC p ∧ off + j * 2 + 2 ≤ cur.size ∧ cur[off + j * 2]? = some (.int .i64 p.1) ∧ cur[off + j * 2 + 1]? = some (.int .i64 p.2) := by
  obtain ⟨_, _, e, hor⟩ := VecW.pairs h
  cases e
  have hne : ws ≠ [] := by intro e; rw [e] at hj; simp at hj
  obtain ⟨g, off, cur, E, fr, i, rfl, hi, hc⟩ := hor.resolve_left hne
  obtain ⟨h1, h2⟩ := hc j p hj
  refine ⟨g, off, cur, E, fr, i, rfl, hi, h1, h2, ?_, ?_⟩
  · have := congrArg (fun a : Array Value => a[0]?) h1
    simp only [Array.getElem?_extract] at this
    rwa [if_pos (by omega)] at this
  · have := congrArg (fun a : Array Value => a[1]?) h1
    simp only [Array.getElem?_extract] at this
    rwa [if_pos (by omega)] at this
theorem WL_dropL {c : Cx} {ops : Array Oper} {l : List Oper} {K : Exit → St → Prop} {s : List (Nat × Value)} {D : List Deferred} {L : List (Nat × Obj)} (L' : List (Nat × Obj)) (hs : L'.Sublist L) (h : WL c ops l K ⟨s, D, L'⟩) : WL c ops l K ⟨s, D, L⟩ := fun a w ha => h a w (ha.mem' (ha.mem.sublist hs))
attribute [local irreducible] Fn WC WL WR OW Qt YieldFn QW FnP FnD
set_option maxHeartbeats 4000000 in
theorem few06_fn {v : Value} {ws : List (Int × Int)} {L : List (Nat × Obj)} (hv : VecW L v ws) : Fn Try.prog 5 [v] L (fun r L' => ∃ ra Ta rb Tb, r = .tuple #[ra, rb] ∧ BufW ra Ta (ws.take 40) ∧ BufW rb Tb ((ws.take 40).map smallW) ∧ L' = Ta ++ (Tb ++ L)) := by
  obtain ⟨_, a1, cap1, rfl, hle, hm, hor⟩ := id hv
  refine Fn_enter Try.func5 rfl Try.ntmps5 rfl fun gw => ?_
  repeat (first | refine RQ ?_ | ((first | refine WL_Q ?_); (first | refine QW_of (Qt_buildA rfl (hf := pair_fill)) ?_ | refine QW_of (Qt_ldX rfl (hn := by with_reducible assumption)) ?_ | refine QW_of (Qt_buildA rfl (hf := two_fill)) ?_ | refine QW_of (Qt_indexV rfl (hv := by with_reducible assumption)) ?_)) | refine RC ?_ | refine WC_region (id := 0) ?_ | refine WC_region (id := 1) ?_ | refine WC_region (id := 2) ?_)
  refine WC_wk [(6, .int .i64 0), (5, .slice none 0 0), (4, .slice none 0 0), (0, .slice a1 ws.length cap1)] ⟨rfl, rfl, rfl, rfl, trivial⟩ ?_
  refine WC_loop (fun m σ => ∃ (i : Nat) (ra rb : Value) (Ta Tb : List (Nat × Obj)), m = 40 - i ∧ i ≤ 40 ∧ i ≤ ws.length ∧ BufW ra Ta (ws.take i) ∧ BufW rb Tb ((ws.take i).map smallW) ∧ σ = ⟨[(6, .int .i64 i), (5, rb), (4, ra), (0, .slice a1 ws.length cap1)], [], Ta ++ (Tb ++ L)⟩) 40 ⟨0, _, _, [], [], by omega, by omega, by omega, Buf.nil _ _, Buf.nil _ _, rfl⟩ ?_
  rintro m σ ⟨i, ra, rb, Ta, Tb, rfl, hi, hil, hba, hbb, rfl⟩
  by_cases hlt : i < ws.length
  · have d2 : decide ((i : Int) < ((ws.length : Nat) : Int)) = true := decide_eq_true (by omega)
    by_cases h40 : i < 40
    · have d3 : decide ((i : Int) < 40) = true := decide_eq_true (by omega)
      obtain ⟨p, hp⟩ : ∃ p, ws[i]? = some p := ⟨_, List.getElem?_eq_getElem hlt⟩
      obtain ⟨g1, o1, cu1, E1, fr1, i1, rfl, hi1, x1, z1, q0, q1⟩ := flatW_vec hv hp
      have p0 : (0 : Int) ≤ (i : Int) := by omega
      have p1 : ((i : Nat) : Int) < ((ws.length : Nat) : Int) := by omega
      have y1 : o1 + ((i : Nat) : Int).toNat * 2 + 2 ≤ cu1.size := by rw [Int.toNat_natCast]; exact z1
      have v1 : cu1.extract (o1 + ((i : Nat) : Int).toNat * 2) (o1 + ((i : Nat) : Int).toNat * 2 + 2) = wC p := by rw [Int.toNat_natCast]; exact x1
      have w : IntKind.i64.wrap ((i : Int) + 1) = ((i + 1 : Nat) : Int) := by rw [wI64 (by omega) (by omega)]; omega
      have hsm := smallW_r p
      unfold smallW at hsm
      have ws2 : IntKind.i64.wrap (p.1.tmod 200 + p.2.tmod 12) = p.1.tmod 200 + p.2.tmod 12 := wI64 (by omega) (by omega)
      have hm1 : (Ta ++ (Tb ++ L))[Ta.length + (Tb.length + i1)]? = some (g1, .cells cu1 E1 fr1) := by rw [List.getElem?_append_right (by omega), Nat.add_sub_cancel_left, List.getElem?_append_right (by omega), Nat.add_sub_cancel_left]; exact hi1
      have q0' : cu1[o1 + ((i : Nat) : Int).toNat * 2 + (0 : Int).toNat * 1]? = some (.int .i64 p.1) := by rw [Int.toNat_natCast]; exact q0
      have q1' : cu1[o1 + ((i : Nat) : Int).toNat * 2 + (1 : Int).toNat * 1]? = some (.int .i64 p.2) := by rw [Int.toNat_natCast]; exact q1
      have htk : ws.take (i + 1) = ws.take i ++ [p] := by rw [List.take_add_one, hp]; rfl
      have hlen : (ws.take i).length ≤ 40 := by rw [List.length_take]; omega
      repeat (first | refine RQ ?_ | ((first | refine WL_Q ?_ | refine WL_Y ?_); (first | refine QW_of (Qt_buildA rfl (hf := pair_fill)) ?_ | refine QW_of (Qt_ldX rfl (hn := by with_reducible assumption)) ?_ | refine QW_of (Qt_buildA rfl (hf := two_fill)) ?_ | refine QW_of (Qt_indexV rfl (hv := by with_reducible assumption)) ?_)) | (refine RE ?_; try intro _) | refine RC ?_ | refine WC_region (id := 3) ?_ | refine WC_region (id := 5) ?_)
      rw [v1]
      repeat (first | refine RQ ?_ | ((first | refine WL_Q ?_); (first | refine QW_of (Qt_buildA rfl (hf := pair_fill)) ?_ | refine QW_of (Qt_ldX rfl (hn := by with_reducible assumption)) ?_ | refine QW_of (Qt_buildA rfl (hf := two_fill)) ?_ | refine QW_of (Qt_indexV rfl (hv := by with_reducible assumption)) ?_)) | (refine RE ?_; try intro _) | refine RC ?_ | refine WC_region (id := 5) ?_)
      refine WL_op rfl (OW_append_buf (A := [_]) (T := Ta) (B := Tb ++ L) rfl rfl rfl rfl rfl hba (srcW (w := wC p) (i := 0) rfl rfl rfl) (by decide) (by simp only [maxLen]; omega) (by omega) ?_)
      intro ra' Ta' hba'
      simp only [List.cons_append, List.nil_append]
      rename_i xq
      refine WL_dropL (Ta' ++ (Tb ++ L)) (.cons _ (.refl _)) ?_
      have hm2 : (Ta' ++ (Tb ++ L))[Ta'.length + (Tb.length + i1)]? = some (g1, .cells cu1 E1 fr1) := by rw [List.getElem?_append_right (by omega), Nat.add_sub_cancel_left, List.getElem?_append_right (by omega), Nat.add_sub_cancel_left]; exact hi1
      repeat (first | refine RQ ?_ | ((first | refine WL_Q ?_); (first | refine QW_of (Qt_buildA rfl (hf := pair_fill)) ?_ | refine QW_of (Qt_ldX rfl (hn := by with_reducible assumption)) ?_ | refine QW_of (Qt_buildA rfl (hf := two_fill)) ?_ | refine QW_of (Qt_indexV rfl (hv := by with_reducible assumption)) ?_)) | (refine RE ?_; try intro _) | refine RC ?_ | refine WC_region (id := 5) ?_ | refine WC_region (id := 6) ?_ | refine WC_region (id := 7) ?_)
      rw [ws2]
      have hl2 : ((ws.take i).map smallW).length ≤ 40 := by rw [List.length_map]; exact hlen
      refine WL_op rfl (OW_append_buf (A := _ :: Ta') (T := Tb) (B := L) rfl rfl rfl rfl rfl hbb (srcW (w := wC (smallW p)) (i := 0) rfl rfl rfl) (by decide) (by simp only [maxLen]; omega) (by omega) ?_)
      intro rb' Tb' hbb'
      simp only [List.cons_append]
      repeat (first | refine RQ ?_ | ((first | refine WL_Q ?_); (first | refine QW_of (Qt_buildA rfl (hf := pair_fill)) ?_ | refine QW_of (Qt_ldX rfl (hn := by with_reducible assumption)) ?_ | refine QW_of (Qt_buildA rfl (hf := two_fill)) ?_ | refine QW_of (Qt_indexV rfl (hv := by with_reducible assumption)) ?_)) | (refine RE ?_; try intro _) | refine RC ?_ | refine WC_region (id := 7) ?_ | refine WC_region (id := 4) ?_)
      rw [w]
      refine ⟨_, _, by omega, ⟨i + 1, ra', rb', Ta', Tb', rfl, by omega, by omega, ?_, ?_, rfl⟩, ⟨rfl, rfl, rfl, rfl, trivial⟩, rfl, .cons _ (.refl _)⟩
      · rw [htk]
        unfold BufW
        rw [flatW_snoc, List.length_append]
        exact hba'
      · rw [htk, List.map_append, List.map_singleton]
        unfold BufW
        rw [flatW_snoc, List.length_append]
        exact hbb'
    · obtain rfl : i = 40 := by omega
      have d3 : decide (((40 : Nat) : Int) < 40) = false := by decide
      repeat (first | refine RQ ?_ | ((first | refine WL_Q ?_ | refine WL_Y ?_); (first | refine QW_of (Qt_buildA rfl (hf := pair_fill)) ?_ | refine QW_of (Qt_ldX rfl (hn := by with_reducible assumption)) ?_ | refine QW_of (Qt_buildA rfl (hf := two_fill)) ?_ | refine QW_of (Qt_indexV rfl (hv := by with_reducible assumption)) ?_)) | refine RC ?_ | refine WC_region (id := 3) ?_ | refine WC_region (id := 8) ?_)
      exact ⟨rfl, _, _, Res2 rfl (resV_tmp rfl) (resV_tmp rfl), .refl _, ra, Ta, rb, Tb, rfl, hba, hbb, rfl⟩
  · have d2 : decide ((i : Int) < ((ws.length : Nat) : Int)) = false := decide_eq_false (by omega)
    have e : ws.take 40 = ws.take i := by rw [List.take_of_length_le (by omega), List.take_of_length_le (by omega)]
    repeat (first | refine RQ ?_ | ((first | refine WL_Q ?_ | refine WL_Y ?_); (first | refine QW_of (Qt_buildA rfl (hf := pair_fill)) ?_ | refine QW_of (Qt_ldX rfl (hn := by with_reducible assumption)) ?_ | refine QW_of (Qt_buildA rfl (hf := two_fill)) ?_ | refine QW_of (Qt_indexV rfl (hv := by with_reducible assumption)) ?_)) | refine RC ?_ | refine WC_region (id := 3) ?_ | refine WC_region (id := 8) ?_)
    exact ⟨rfl, _, _, Res2 rfl (resV_tmp rfl) (resV_tmp rfl), .refl _, ra, Ta, rb, Tb, rfl, by rw [e]; exact hba, by rw [e]; exact hbb, rfl⟩
end Go.Proofs.Ytkjljlmoihkijaa
namespace Go.Proofs.Ytkjljlmoihkijaa
open Go.RowKit
def hasW (p : Int × Int) (t : Int) : Bool := decide (p.1 ≤ t) && decide (t < p.2)
theorem hasW_cov (p : Int × Int) (t : Int) : hasW p t = true ↔ covW p (2 * t + 1) := by
  unfold hasW covW
  simp only [Bool.and_eq_true, decide_eq_true_eq]
  omega
def manyW (out : List (Int × Int)) (t : Int) : Nat := (out.filter fun p => hasW p t).length
theorem manyW_rise : ∀ {out : List (Int × Int)} {t : Int}, (∀ p ∈ out, p.1 < p.2) → out.Pairwise (fun p q => p.2 ≤ q.1) → manyW out t ≤ 1 ∧ (1 ≤ manyW out t ↔ ∃ p ∈ out, hasW p t = true)
  | [], t, _, _ => by simp [manyW]
  | p :: out, t, hf, hr => by
    obtain ⟨h1, h2⟩ := manyW_rise (out := out) (t := t) (fun q hq => hf q (List.mem_cons_of_mem _ hq)) (List.pairwise_cons.1 hr).2
    have hp := (List.pairwise_cons.1 hr).1
    cases hh : hasW p t with
    | false =>
      have e : manyW (p :: out) t = manyW out t := by unfold manyW; rw [List.filter_cons_of_neg (by simp [hh])]
      rw [e]
      refine ⟨h1, h2.trans ?_⟩
      simp [hh]
    | true =>
      have e : manyW (p :: out) t = manyW out t + 1 := by unfold manyW; rw [List.filter_cons_of_pos (by simp [hh])]; rfl
      have h0 : manyW out t = 0 := by
        rcases Nat.eq_zero_or_pos (manyW out t) with h | h
        · exact h
        · obtain ⟨q, hq, hc⟩ := h2.1 h
          have := hp q hq
          rw [hasW_cov] at hh hc
          unfold covW at hh hc
          omega
      rw [e, h0]
      exact ⟨Nat.le_refl _, ⟨fun _ => ⟨p, List.mem_cons_self .., hh⟩, fun _ => Nat.le_refl _⟩⟩
theorem gath_many {l out : List (Int × Int)} (h : Gath l out) (t : Int) : manyW out t ≤ 1 ∧ (l.any fun p => hasW p t) = ((manyW out t : Int) == 1) := by
  obtain ⟨h1, h2⟩ := manyW_rise (t := t) h.full h.rise
  refine ⟨h1, ?_⟩
  have hc := h.cov (2 * t + 1)
  have e : (∃ p ∈ out, hasW p t = true) ↔ ∃ p ∈ l, hasW p t = true := by
    simp only [hasW_cov]
    exact hc
  rw [e] at h2
  cases ha : l.any fun p => hasW p t with
  | true =>
    have := h2.2 (List.any_eq_true.1 ha)
    have : manyW out t = 1 := by omega
    rw [this]; rfl
  | false =>
    have : ¬ 1 ≤ manyW out t := fun hh => by
      have := List.any_eq_true.2 (h2.1 hh)
      rw [ha] at this; cases this
    have : manyW out t = 0 := by omega
    rw [this]; rfl
attribute [local irreducible] Fn WC WL WR OW Qt YieldFn QW FnP FnD
theorem has_fn {p : Int × Int} {t : Int} {L : List (Nat × Obj)} : Fn Try.prog 11 [.agg (wC p), .int .i64 t] L (fun v L' => v = .bool (hasW p t) ∧ L' = L) := by
  refine Fn_enter Try.func11 rfl Try.ntmps11 rfl fun gw => ?_
  by_cases h : p.1 ≤ t
  · have d : decide (t ≥ p.1) = true := decide_eq_true h
    repeat (first | ((first | refine WL_Q ?_ | refine WL_Y ?_); (first | refine QW_a ?_ | refine QW_of (Qt_ldX rfl (hn := by with_reducible assumption)) ?_)) | ((first | refine WL_op rfl ?_ | refine WL_yes (h := ?_)); (first | refine OW_box rfl (hk := fun _ => ?_))) | refine WL_nil ?_ | refine WL_un (h := ?_) | refine WL_N ?_ | refine WL_M ?_ | refine WC_seq ?_ | refine WC_ret ?_ | refine WC_region ?_)
    exact ⟨rfl, _, _, Res1 rfl (resV_tmp rfl), .cons _ (.refl _), by unfold hasW; rw [decide_eq_true h]; rfl, rfl⟩
  · have d : decide (t ≥ p.1) = false := decide_eq_false h
    repeat (first | ((first | refine WL_Q ?_ | refine WL_Y ?_); (first | refine QW_a ?_ | refine QW_of (Qt_ldX rfl (hn := by with_reducible assumption)) ?_)) | ((first | refine WL_op rfl ?_ | refine WL_yes (h := ?_)); (first | refine OW_box rfl (hk := fun _ => ?_))) | refine WL_nil ?_ | refine WL_un (h := ?_) | refine WL_N ?_ | refine WL_M ?_ | refine WC_seq ?_ | refine WC_ret ?_ | refine WC_region ?_)
    exact ⟨rfl, _, _, Res1 rfl (resV_tmp rfl), .cons _ (.refl _), by unfold hasW; rw [decide_eq_false h]; rfl, rfl⟩
theorem sameO_fn {o1 out : List (Int × Int)} {u v : Value} {M : List (Nat × Obj)} (e : o1 = out) (hn : out.length ≤ 1000) (h1 : VecW M u o1) (h2 : VecW M v out) : Fn Try.prog 6 [u, v] M (fun r L' => r = .bool true ∧ L' = M) := by
  subst e
  exact sameW_fn (by omega) h1.pairs h2.pairs
theorem vecW_at {M : List (Nat × Obj)} {a : Option Addr} {cap : Nat} {ws : List (Int × Int)} (h : VecW M (.slice a ws.length cap) ws) : ws = [] ∨ ∃ (g off : Nat) (cur : Array Value) (E : TypeId) (fr : Nat × Nat) (i : Nat), a = some ⟨g, off, none⟩ ∧ M[i]? = some (g, .cells cur E fr) ∧ ∀ (x : Int) (j : Nat) (p : Int × Int), x.toNat = j → ws[j]? = some p → cur.extract (off + x.toNat * 2) (off + x.toNat * 2 + 2) = wC p ∧ off + x.toNat * 2 + 2 ≤ cur.size ∧ cur[off + x.toNat * 2 + (0 : Int).toNat * 1]? = some (.int .i64 p.1) ∧ cur[off + x.toNat * 2 + (1 : Int).toNat * 1]? = some (.int .i64 p.2) := by
  obtain ⟨_, _, e, hor⟩ := VecW.pairs h
  cases e
  refine hor.imp id ?_
  rintro ⟨g, off, cur, E, fr, i, rfl, hi, hc⟩
  refine ⟨g, off, cur, E, fr, i, rfl, hi, ?_⟩
  rintro x j p rfl hp
  obtain ⟨h1, h2⟩ := hc _ p hp
  refine ⟨h1, h2, ?_, ?_⟩
  · have := congrArg (fun a : Array Value => a[0]?) h1
    simp only [Array.getElem?_extract] at this
    rwa [if_pos (by omega)] at this
  · have := congrArg (fun a : Array Value => a[1]?) h1
    simp only [Array.getElem?_extract] at this
    rwa [if_pos (by omega)] at this
def beginsB (ws : List (Int × Int)) (x : Int) : Bool := ws.any fun w => decide (w.1 < w.2) && w.1 == x
def endsB (ws : List (Int × Int)) (x : Int) : Bool := ws.any fun w => decide (w.1 < w.2) && w.2 == x
theorem any_snoc {α : Type} (l : List α) (x : α) (f : α → Bool) : (l ++ [x]).any f = (l.any f || f x) := by simp
set_option maxHeartbeats 16000000 in
theorem apart_fn {v : Value} {ws : List (Int × Int)} {L : List (Nat × Obj)} (hv : VecW L v ws) : Fn Try.prog 4 [v] L (fun r L' => r = .bool true ∧ L' = L) := by
  refine Fn_enter Try.func4 rfl Try.ntmps4 rfl fun gw => ?_
  repeat (first | ((first | refine WL_Q ?_); (first | refine QW_a ?_ | refine QW_of (Qt_ldX rfl (hn := by with_reducible assumption)) ?_)) | ((first | refine WL_op rfl ?_); (first | refine OW_callP rfl (hF := works06_fn _) (hk := ?_) | (refine OW_call rfl (hF := few06_fn hv) (hk := ?_); rintro _ _ ⟨ra, Ta, rb, Tb, rfl, hba, hbb, rfl⟩))) | refine WL_nil ?_ | refine WC_seq ?_ | refine WC_block ?_ | refine WC_cond_t (ht := ?_) | refine WC_cond_f (he := ?_) | refine WC_skip ?_ | refine WC_ret ?_ | refine WC_exit ?_ | refine WC_region (id := 0) ?_ | refine WC_region (id := 1) ?_ | refine WC_region (id := 3) ?_)
  obtain ⟨aa, ca, rfl, _, _⟩ := hba.val
  obtain ⟨ab, cb, rfl, _, _⟩ := hbb.val
  have hn41 : ((ws.take 40).map smallW).length ≤ 40 := by rw [List.length_map, List.length_take]; omega
  generalize (ws.take 40).map smallW = wb at hbb hn41
  have hvb0 : VecW (Ta ++ (Tb ++ L)) (.slice ab wb.length cb) wb := (hbb.vec0 L).app Ta
  refine WC_wk [(4, .slice ab wb.length cb)] ⟨rfl, trivial⟩ ?_
  repeat (first | ((first | refine WL_Q ?_); (first | refine QW_a ?_ | refine QW_of (Qt_ldX rfl (hn := by with_reducible assumption)) ?_)) | ((first | refine WL_op rfl ?_); (first | (refine OW_call rfl (hF := gather_fn (Nat.le_trans hn41 (by decide)) hvb0) (hk := ?_); rintro v1 _ ⟨out, To, hG, hlo, hbo, rfl⟩))) | refine WL_nil ?_ | refine WC_seq ?_ | refine WC_block ?_ | refine WC_cond_t (ht := ?_) | refine WC_cond_f (he := ?_) | refine WC_skip ?_ | refine WC_ret ?_ | refine WC_exit ?_ | refine WC_region (id := 4) ?_)
  obtain ⟨ao, co, rfl, _, _⟩ := hbo.val
  have hvb : VecW (To ++ (Ta ++ (Tb ++ L))) (.slice ab wb.length cb) wb := hvb0.app To
  have hvo : VecW (To ++ (Ta ++ (Tb ++ L))) (.slice ao out.length co) out := hbo.vec0 _
  have hML : L.Sublist (To ++ (Ta ++ (Tb ++ L))) := .trans (List.sublist_append_right _ _) (.trans (List.sublist_append_right _ _) (List.sublist_append_right _ _))
  generalize To ++ (Ta ++ (Tb ++ L)) = M at hvb hvo hML
  clear hbo hbb hvb0 hba
  have hno : out.length ≤ 40 := by omega
  have ib := vecW_at hvb
  have io := vecW_at hvo
  repeat (first | ((first | refine WL_Q ?_); (first | refine QW_a ?_ | refine QW_of (Qt_ldX rfl (hn := by with_reducible assumption)) ?_)) | refine WL_nil ?_ | refine WC_seq ?_ | refine WC_block ?_ | refine WC_cond_t (ht := ?_) | refine WC_cond_f (he := ?_) | refine WC_skip ?_ | refine WC_ret ?_ | refine WC_exit ?_ | refine WC_region (id := 5) ?_)
  refine WC_wk [(6, .int .i64 0), (5, .slice ao out.length co), (4, .slice ab wb.length cb)] ⟨rfl, rfl, rfl, trivial⟩ ?_
  refine WC_loop (fun m σ => ∃ i : Nat, m = out.length - i ∧ i ≤ out.length ∧ σ = ⟨[(6, .int .i64 i), (5, .slice ao out.length co), (4, .slice ab wb.length cb)], [], M⟩) out.length ⟨0, by omega, by omega, rfl⟩ ?_
  rintro m σ ⟨i, rfl, hi, rfl⟩
  by_cases hlt : i < out.length
  · have d2 : decide ((i : Int) < ((out.length : Nat) : Int)) = true := decide_eq_true (by omega)
    obtain ⟨p, hp⟩ : ∃ p, out[i]? = some p := ⟨_, List.getElem?_eq_getElem hlt⟩
    obtain ⟨g2, o2, cu2, E2, fr2, i2, rfl, hi2, hc2⟩ := io.resolve_left (fun h => by rw [h] at hlt; simp at hlt)
    obtain ⟨po0, po1, po2, po3⟩ := hc2 (i : Int) i p (Int.toNat_natCast i) hp
    have p0 : (0 : Int) ≤ (i : Int) := by omega
    have p1 : ((i : Nat) : Int) < ((out.length : Nat) : Int) := by omega
    have wi1 : IntKind.i64.wrap ((i : Int) + 1) = ((i + 1 : Nat) : Int) := by rw [wI64 (by omega) (by omega)]; omega
    repeat (first | ((first | refine WL_Q ?_); (first | refine QW_a ?_ | refine QW_of (Qt_ldX rfl (hn := by with_reducible assumption)) ?_)) | refine WL_nil ?_ | refine WC_seq ?_ | refine WC_block ?_ | refine WC_cond_t (ht := ?_) | refine WC_cond_f (he := ?_) | refine WC_skip ?_ | refine WC_ret ?_ | refine WC_exit ?_ | refine WC_region (id := 6) ?_ | refine WC_region (id := 8) ?_ | refine WC_region (id := 9) ?_)
    have hb0 : Value.bool false = .bool (beginsB (wb.take 0) p.1) := rfl
    have he0 : Value.bool false = .bool (endsB (wb.take 0) p.2) := rfl
    refine WC_wk [(9, .int .i64 0), (8, .bool (endsB (wb.take 0) p.2)), (7, .bool (beginsB (wb.take 0) p.1)), (6, .int .i64 i), (5, .slice (some ⟨g2, o2, none⟩) out.length co), (4, .slice ab wb.length cb)] ⟨rfl, rfl, rfl, rfl, rfl, rfl, trivial⟩ ?_
    refine WC_loop (fun m σ => ∃ k : Nat, m = wb.length - k ∧ k ≤ wb.length ∧ σ = ⟨[(9, .int .i64 k), (8, .bool (endsB (wb.take k) p.2)), (7, .bool (beginsB (wb.take k) p.1)), (6, .int .i64 i), (5, .slice (some ⟨g2, o2, none⟩) out.length co), (4, .slice ab wb.length cb)], [], M⟩) wb.length ⟨0, by omega, by omega, rfl⟩ ?_
    rintro m σ ⟨k, rfl, hk, rfl⟩
    by_cases hkt : k < wb.length
    · have d3 : decide ((k : Int) < ((wb.length : Nat) : Int)) = true := decide_eq_true (by omega)
      obtain ⟨w, hw⟩ : ∃ w, wb[k]? = some w := ⟨_, List.getElem?_eq_getElem hkt⟩
      obtain ⟨g1, o1, cu1, E1, fr1, i1, rfl, hi1, hc1⟩ := ib.resolve_left (fun h => by rw [h] at hkt; simp at hkt)
      obtain ⟨pb0, pb1, pb2, pb3⟩ := hc1 (k : Int) k w (Int.toNat_natCast k) hw
      have k0 : (0 : Int) ≤ (k : Int) := by omega
      have k1 : ((k : Nat) : Int) < ((wb.length : Nat) : Int) := by omega
      have wk1 : IntKind.i64.wrap ((k : Int) + 1) = ((k + 1 : Nat) : Int) := by rw [wI64 (by omega) (by omega)]; omega
      have htk : wb.take (k + 1) = wb.take k ++ [w] := by rw [List.take_add_one, hw]; rfl
      have nb : beginsB (wb.take (k + 1)) p.1 = (beginsB (wb.take k) p.1 || (decide (w.1 < w.2) && w.1 == p.1)) := by rw [htk]; exact any_snoc ..
      have ne : endsB (wb.take (k + 1)) p.2 = (endsB (wb.take k) p.2 || (decide (w.1 < w.2) && w.2 == p.2)) := by rw [htk]; exact any_snoc ..
      generalize beginsB (wb.take k) p.1 = bq at nb ⊢
      generalize endsB (wb.take k) p.2 = eq at ne ⊢
      repeat (first | ((first | refine WL_Q ?_); (first | refine QW_a ?_ | refine QW_of (Qt_ldX rfl (hn := by with_reducible assumption)) ?_)) | refine WL_nil ?_ | refine WC_seq ?_ | refine WC_block ?_ | refine WC_cond_t (ht := ?_) | refine WC_cond_f (he := ?_) | refine WC_skip ?_ | refine WC_ret ?_ | refine WC_exit ?_ | refine WC_region (id := 10) ?_)
      refine WC_meet (fun σ => σ = ⟨[(7, .bool (beginsB (wb.take (k + 1)) p.1)), (9, .int .i64 k), (8, .bool eq), (6, .int .i64 i), (5, .slice (some ⟨g2, o2, none⟩) out.length co), (4, .slice (some ⟨g1, o1, none⟩) wb.length cb)], [], M⟩) ?_ ?_
      · rw [nb]
        cases bq
        · by_cases hf : w.1 < w.2
          · have df : decide (w.1 < w.2) = true := decide_eq_true hf
            rw [df]
            repeat (first | ((first | refine WL_Q ?_ | refine WL_Y ?_ | refine WR_Q rfl ?_ | refine WR_late rfl rfl rfl (OW_Q ?_) | refine WR_Y rfl ?_); (first | refine QW_a ?_ | refine QW_of (Qt_ldX rfl (hn := by with_reducible assumption)) ?_)) | refine WL_nil ?_ | refine WL_un (h := ?_) | refine WL_N ?_ | refine WL_M ?_ | refine WR_nil ?_ | refine WR_un rfl (hk := ?_) | refine WR_N rfl ?_ | refine WR_M rfl ?_ | refine WC_seq ?_ | refine WC_block ?_ | refine WC_cond_t (ht := ?_) | refine WC_cond_f (he := ?_) | refine WC_skip ?_ | refine WC_ret ?_ | refine WC_exit ?_ | refine WC_draw_all (id := 12) 28 (.calm 0 <| .calm 1 <| .calm 2 <| .calm 3 <| .calm 4 <| .calm 5 <| .calm 6 <| .calm 7 <| .calm 8 <| .calm 9 <| .calm 10 <| .calm 11 <| .calm 12 <| .calm 13 <| .calm 14 <| .calm 15 <| .calm 16 <| .calm 17 <| .calm 18 <| .calm 19 <| .calm 20 <| .calm 21 <| .calm 22 <| .calm 23 <| .calm 24 <| .calm 25 <| .calm 26 <| .calm 27 <| .done) mixed (by kernel_rfl) ?_ | (refine WR_skN rfl (h := ?_)) | (refine WR_skM rfl (h := ?_)) | (refine WR_skU rfl (h := ?_)))
            exact ⟨_, rfl, ⟨rfl, rfl, rfl, rfl, rfl, rfl, trivial⟩, rfl, .refl _⟩
          · have df : decide (w.1 < w.2) = false := decide_eq_false hf
            rw [df]
            repeat (first | ((first | refine WL_Q ?_ | refine WL_Y ?_ | refine WR_Q rfl ?_ | refine WR_late rfl rfl rfl (OW_Q ?_) | refine WR_Y rfl ?_); (first | refine QW_a ?_ | refine QW_of (Qt_ldX rfl (hn := by with_reducible assumption)) ?_)) | refine WL_nil ?_ | refine WL_un (h := ?_) | refine WL_N ?_ | refine WL_M ?_ | refine WR_nil ?_ | refine WR_un rfl (hk := ?_) | refine WR_N rfl ?_ | refine WR_M rfl ?_ | refine WC_seq ?_ | refine WC_block ?_ | refine WC_cond_t (ht := ?_) | refine WC_cond_f (he := ?_) | refine WC_skip ?_ | refine WC_ret ?_ | refine WC_exit ?_ | refine WC_draw_all (id := 12) 28 (.calm 0 <| .calm 1 <| .calm 2 <| .calm 3 <| .calm 4 <| .calm 5 <| .calm 6 <| .calm 7 <| .calm 8 <| .calm 9 <| .calm 10 <| .calm 11 <| .calm 12 <| .calm 13 <| .calm 14 <| .calm 15 <| .calm 16 <| .calm 17 <| .calm 18 <| .calm 19 <| .calm 20 <| .calm 21 <| .calm 22 <| .calm 23 <| .calm 24 <| .calm 25 <| .calm 26 <| .calm 27 <| .done) mixed (by kernel_rfl) ?_ | (refine WR_skN rfl (h := ?_)) | (refine WR_skM rfl (h := ?_)) | (refine WR_skU rfl (h := ?_)))
            exact ⟨_, rfl, ⟨rfl, rfl, rfl, rfl, rfl, rfl, trivial⟩, rfl, .refl _⟩
        · repeat (first | ((first | refine WL_Q ?_ | refine WL_Y ?_ | refine WR_Q rfl ?_ | refine WR_late rfl rfl rfl (OW_Q ?_) | refine WR_Y rfl ?_); (first | refine QW_a ?_ | refine QW_of (Qt_ldX rfl (hn := by with_reducible assumption)) ?_)) | refine WL_nil ?_ | refine WL_un (h := ?_) | refine WL_N ?_ | refine WL_M ?_ | refine WR_nil ?_ | refine WR_un rfl (hk := ?_) | refine WR_N rfl ?_ | refine WR_M rfl ?_ | refine WC_seq ?_ | refine WC_block ?_ | refine WC_cond_t (ht := ?_) | refine WC_cond_f (he := ?_) | refine WC_skip ?_ | refine WC_ret ?_ | refine WC_exit ?_ | refine WC_draw_all (id := 12) 28 (.calm 0 <| .calm 1 <| .calm 2 <| .calm 3 <| .calm 4 <| .calm 5 <| .calm 6 <| .calm 7 <| .calm 8 <| .calm 9 <| .calm 10 <| .calm 11 <| .calm 12 <| .calm 13 <| .calm 14 <| .calm 15 <| .calm 16 <| .calm 17 <| .calm 18 <| .calm 19 <| .calm 20 <| .calm 21 <| .calm 22 <| .calm 23 <| .calm 24 <| .calm 25 <| .calm 26 <| .calm 27 <| .done) mixed (by kernel_rfl) ?_ | (refine WR_skN rfl (h := ?_)) | (refine WR_skM rfl (h := ?_)) | (refine WR_skU rfl (h := ?_)))
          exact ⟨_, rfl, ⟨rfl, rfl, rfl, rfl, rfl, rfl, trivial⟩, rfl, .refl _⟩
      rintro _ rfl
      refine WC_meetB (fun σ => σ = ⟨[(7, .bool (beginsB (wb.take (k + 1)) p.1)), (9, .int .i64 k), (8, .bool (endsB (wb.take (k + 1)) p.2)), (6, .int .i64 i), (5, .slice (some ⟨g2, o2, none⟩) out.length co), (4, .slice (some ⟨g1, o1, none⟩) wb.length cb)], [], M⟩) ?_ ?_
      · rw [ne]
        cases eq
        · by_cases hf : w.1 < w.2
          · have df : decide (w.1 < w.2) = true := decide_eq_true hf
            rw [df]
            repeat (first | ((first | refine WL_Q ?_ | refine WL_Y ?_ | refine WR_Q rfl ?_ | refine WR_late rfl rfl rfl (OW_Q ?_) | refine WR_Y rfl ?_); (first | refine QW_a ?_ | refine QW_of (Qt_ldX rfl (hn := by with_reducible assumption)) ?_)) | refine WL_nil ?_ | refine WL_un (h := ?_) | refine WL_N ?_ | refine WL_M ?_ | refine WR_nil ?_ | refine WR_un rfl (hk := ?_) | refine WR_N rfl ?_ | refine WR_M rfl ?_ | refine WC_seq ?_ | refine WC_block ?_ | refine WC_cond_t (ht := ?_) | refine WC_cond_f (he := ?_) | refine WC_skip ?_ | refine WC_ret ?_ | refine WC_exit ?_ | refine WC_draw_all (id := 13) 28 (.calm 0 <| .calm 1 <| .calm 2 <| .calm 3 <| .calm 4 <| .calm 5 <| .calm 6 <| .calm 7 <| .calm 8 <| .calm 9 <| .calm 10 <| .calm 11 <| .calm 12 <| .calm 13 <| .calm 14 <| .calm 15 <| .calm 16 <| .calm 17 <| .calm 18 <| .calm 19 <| .calm 20 <| .calm 21 <| .calm 22 <| .calm 23 <| .calm 24 <| .calm 25 <| .calm 26 <| .calm 27 <| .done) mixed (by kernel_rfl) ?_ | (refine WR_skN rfl (h := ?_)) | (refine WR_skM rfl (h := ?_)) | (refine WR_skU rfl (h := ?_)))
            exact ⟨_, rfl, ⟨rfl, rfl, rfl, rfl, rfl, rfl, trivial⟩, rfl, .refl _⟩
          · have df : decide (w.1 < w.2) = false := decide_eq_false hf
            rw [df]
            repeat (first | ((first | refine WL_Q ?_ | refine WL_Y ?_ | refine WR_Q rfl ?_ | refine WR_late rfl rfl rfl (OW_Q ?_) | refine WR_Y rfl ?_); (first | refine QW_a ?_ | refine QW_of (Qt_ldX rfl (hn := by with_reducible assumption)) ?_)) | refine WL_nil ?_ | refine WL_un (h := ?_) | refine WL_N ?_ | refine WL_M ?_ | refine WR_nil ?_ | refine WR_un rfl (hk := ?_) | refine WR_N rfl ?_ | refine WR_M rfl ?_ | refine WC_seq ?_ | refine WC_block ?_ | refine WC_cond_t (ht := ?_) | refine WC_cond_f (he := ?_) | refine WC_skip ?_ | refine WC_ret ?_ | refine WC_exit ?_ | refine WC_draw_all (id := 13) 28 (.calm 0 <| .calm 1 <| .calm 2 <| .calm 3 <| .calm 4 <| .calm 5 <| .calm 6 <| .calm 7 <| .calm 8 <| .calm 9 <| .calm 10 <| .calm 11 <| .calm 12 <| .calm 13 <| .calm 14 <| .calm 15 <| .calm 16 <| .calm 17 <| .calm 18 <| .calm 19 <| .calm 20 <| .calm 21 <| .calm 22 <| .calm 23 <| .calm 24 <| .calm 25 <| .calm 26 <| .calm 27 <| .done) mixed (by kernel_rfl) ?_ | (refine WR_skN rfl (h := ?_)) | (refine WR_skM rfl (h := ?_)) | (refine WR_skU rfl (h := ?_)))
            exact ⟨_, rfl, ⟨rfl, rfl, rfl, rfl, rfl, rfl, trivial⟩, rfl, .refl _⟩
        · repeat (first | ((first | refine WL_Q ?_ | refine WL_Y ?_ | refine WR_Q rfl ?_ | refine WR_late rfl rfl rfl (OW_Q ?_) | refine WR_Y rfl ?_); (first | refine QW_a ?_ | refine QW_of (Qt_ldX rfl (hn := by with_reducible assumption)) ?_)) | refine WL_nil ?_ | refine WL_un (h := ?_) | refine WL_N ?_ | refine WL_M ?_ | refine WR_nil ?_ | refine WR_un rfl (hk := ?_) | refine WR_N rfl ?_ | refine WR_M rfl ?_ | refine WC_seq ?_ | refine WC_block ?_ | refine WC_cond_t (ht := ?_) | refine WC_cond_f (he := ?_) | refine WC_skip ?_ | refine WC_ret ?_ | refine WC_exit ?_ | refine WC_draw_all (id := 13) 28 (.calm 0 <| .calm 1 <| .calm 2 <| .calm 3 <| .calm 4 <| .calm 5 <| .calm 6 <| .calm 7 <| .calm 8 <| .calm 9 <| .calm 10 <| .calm 11 <| .calm 12 <| .calm 13 <| .calm 14 <| .calm 15 <| .calm 16 <| .calm 17 <| .calm 18 <| .calm 19 <| .calm 20 <| .calm 21 <| .calm 22 <| .calm 23 <| .calm 24 <| .calm 25 <| .calm 26 <| .calm 27 <| .done) mixed (by kernel_rfl) ?_ | (refine WR_skN rfl (h := ?_)) | (refine WR_skM rfl (h := ?_)) | (refine WR_skU rfl (h := ?_)))
          exact ⟨_, rfl, ⟨rfl, rfl, rfl, rfl, rfl, rfl, trivial⟩, rfl, .refl _⟩
      rintro _ rfl
      repeat (first | ((first | refine WL_Q ?_); (first | refine QW_a ?_ | refine QW_of (Qt_ldX rfl (hn := by with_reducible assumption)) ?_)) | refine WL_nil ?_ | refine WC_seq ?_ | refine WC_block ?_ | refine WC_cond_t (ht := ?_) | refine WC_cond_f (he := ?_) | refine WC_skip ?_ | refine WC_ret ?_ | refine WC_exit ?_ | refine WC_region (id := 11) ?_)
      rw [wk1]
      exact ⟨_, _, by omega, ⟨k + 1, rfl, by omega, rfl⟩, ⟨rfl, rfl, rfl, rfl, rfl, rfl, trivial⟩, rfl, .refl _⟩
    · obtain rfl : k = wb.length := by omega
      have d3 : decide (((wb.length : Nat) : Int) < ((wb.length : Nat) : Int)) = false := decide_eq_false (by omega)
      obtain ⟨⟨u1, hu1, hu2, hu3⟩, u2, hu4, hu5, hu6⟩ := hG.ends p (List.mem_of_getElem? hp)
      have eb : beginsB (wb.take wb.length) p.1 = true := by
        rw [List.take_length]
        exact List.any_eq_true.2 ⟨u1, hu1, by rw [decide_eq_true hu2, hu3]; simp⟩
      have ee : endsB (wb.take wb.length) p.2 = true := by
        rw [List.take_length]
        exact List.any_eq_true.2 ⟨u2, hu4, by rw [decide_eq_true hu5, hu6]; simp⟩
      rw [eb, ee]
      have hfp := hG.full p (List.mem_of_getElem? hp)
      have dge : decide (p.1 ≥ p.2) = false := decide_eq_false (by omega)
      refine WC_wk [(9, .int .i64 wb.length), (8, .bool true), (7, .bool true), (6, .int .i64 i), (5, .slice (some ⟨g2, o2, none⟩) out.length co), (4, .slice ab wb.length cb)] ⟨rfl, rfl, rfl, rfl, rfl, rfl, trivial⟩ ?_
      by_cases i0 : i = 0
      · have dgt : decide ((i : Int) > 0) = false := decide_eq_false (by omega)
        repeat (first | ((first | refine WL_Q ?_ | refine WL_Y ?_ | refine WR_Q rfl ?_ | refine WR_late rfl rfl rfl (OW_Q ?_) | refine WR_Y rfl ?_); (first | refine QW_a ?_ | refine QW_of (Qt_ldX rfl (hn := by with_reducible assumption)) ?_)) | ((first | refine WL_op rfl ?_ | refine WL_yes (h := ?_) | refine WR_late rfl rfl rfl ?_ | refine WR_opG rfl rfl ?_ | refine WR_opYG rfl (h := ?_)); (first | refine OW_callP rfl (hF := meetP_fn) (hk := ?_)); try refine ⟨(by first | exact fun _ h => h | exact sub_mem (by repeat (first | exact .refl _ | exact List.nil_sublist _ | exact List.sublist_append_right _ _ | exact List.Sublist.append (.refl _) (List.sublist_append_right _ _) | apply List.Sublist.cons_cons | apply List.Sublist.cons))), ?_⟩) | refine WL_nil ?_ | refine WL_un (h := ?_) | refine WL_N ?_ | refine WL_M ?_ | refine WR_nil ?_ | refine WR_un rfl (hk := ?_) | refine WR_N rfl ?_ | refine WR_M rfl ?_ | refine WC_seq ?_ | refine WC_block ?_ | refine WC_cond_t (ht := ?_) | refine WC_cond_f (he := ?_) | refine WC_skip ?_ | refine WC_ret ?_ | refine WC_exit ?_ | refine WC_draw_all (id := 14) 49 (.calm 0 <| .calm 1 <| .calm 2 <| .calm 3 <| .calm 4 <| .calm 5 <| .calm 6 <| .calm 7 <| .calm 8 <| .calm 9 <| .calm 10 <| .calm 11 <| .calm 12 <| .calm 13 <| .calm 14 <| .calm 15 <| .calm 16 <| .calm 17 <| .calm 18 <| .calm 19 <| .calm 20 <| .calm 21 <| .calm 22 <| .calm 23 <| .calm 24 <| .calm 25 <| .calm 26 <| .calm 27 <| .calm 28 <| .calm 29 <| .calm 30 <| .calm 31 <| .calm 32 <| .calm 33 <| .calm 34 <| .calm 35 <| .calm 36 <| .calm 37 <| .calm 38 <| .calm 39 <| .calm 40 <| .calm 41 <| .calm 42 <| .calm 43 <| .calm 44 <| .must 45 <| .calm 46 <| .calm 47 <| .calm 48 <| .done) mixed (by kernel_rfl) ?_ | refine WC_region (id := 10) ?_ | refine WC_region (id := 7) ?_ | (refine WR_skN rfl (h := ?_)) | (refine WR_skM rfl (h := ?_)) | (refine WR_skU rfl (h := ?_)))
        rw [wi1]
        exact ⟨_, _, by omega, ⟨i + 1, rfl, by omega, rfl⟩, ⟨rfl, rfl, rfl, trivial⟩, rfl, .refl _⟩
      · have dgt : decide ((i : Int) > 0) = true := decide_eq_true (by omega)
        obtain ⟨q, hq⟩ : ∃ q, out[i - 1]? = some q := ⟨_, List.getElem?_eq_getElem (by omega)⟩
        have wim : IntKind.i64.wrap ((i : Int) - 1) = ((i - 1 : Nat) : Int) := by rw [wI64 (by omega) (by omega)]; omega
        obtain ⟨qo0, qo1, qo2, qo3⟩ := hc2 (IntKind.i64.wrap ((i : Int) - 1)) (i - 1) q (by rw [wim]; omega) hq
        have r0 : (0 : Int) ≤ IntKind.i64.wrap ((i : Int) - 1) := by rw [wim]; omega
        have r1 : IntKind.i64.wrap ((i : Int) - 1) < ((out.length : Nat) : Int) := by rw [wim]; omega
        have hqp : q.2 ≤ p.1 := by
          obtain ⟨hi1, e1⟩ := List.getElem?_eq_some_iff.1 hq
          obtain ⟨hi2, e2⟩ := List.getElem?_eq_some_iff.1 hp
          have := List.pairwise_iff_getElem.1 hG.rise (i - 1) i hi1 hi2 (by omega)
          rwa [e1, e2] at this
        have dqp : decide (q.2 > p.1) = false := decide_eq_false (by omega)
        have hmt : meetW q p = false := by
          unfold meetW
          rw [Bool.and_eq_false_iff, decide_eq_false_iff_not, decide_eq_false_iff_not]
          omega
        repeat (first | ((first | refine WL_Q ?_ | refine WL_Y ?_ | refine WR_Q rfl ?_ | refine WR_late rfl rfl rfl (OW_Q ?_) | refine WR_Y rfl ?_); (first | refine QW_a ?_ | refine QW_of (Qt_ldX rfl (hn := by with_reducible assumption)) ?_)) | ((first | refine WL_op rfl ?_ | refine WL_yes (h := ?_) | refine WR_late rfl rfl rfl ?_ | refine WR_opG rfl rfl ?_ | refine WR_opYG rfl (h := ?_)); (first | refine OW_callP rfl (hF := meetP_fn) (hk := ?_)); try refine ⟨(by first | exact fun _ h => h | exact sub_mem (by repeat (first | exact .refl _ | exact List.nil_sublist _ | exact List.sublist_append_right _ _ | exact List.Sublist.append (.refl _) (List.sublist_append_right _ _) | apply List.Sublist.cons_cons | apply List.Sublist.cons))), ?_⟩) | refine WL_nil ?_ | refine WL_un (h := ?_) | refine WL_N ?_ | refine WL_M ?_ | refine WR_nil ?_ | refine WR_un rfl (hk := ?_) | refine WR_N rfl ?_ | refine WR_M rfl ?_ | refine WC_seq ?_ | refine WC_block ?_ | refine WC_cond_t (ht := ?_) | refine WC_cond_f (he := ?_) | refine WC_skip ?_ | refine WC_ret ?_ | refine WC_exit ?_ | refine WC_draw_all (id := 14) 49 (.calm 0 <| .calm 1 <| .calm 2 <| .calm 3 <| .calm 4 <| .calm 5 <| .calm 6 <| .calm 7 <| .calm 8 <| .calm 9 <| .calm 10 <| .calm 11 <| .calm 12 <| .calm 13 <| .calm 14 <| .calm 15 <| .calm 16 <| .calm 17 <| .calm 18 <| .calm 19 <| .calm 20 <| .calm 21 <| .calm 22 <| .calm 23 <| .calm 24 <| .calm 25 <| .calm 26 <| .calm 27 <| .calm 28 <| .calm 29 <| .calm 30 <| .calm 31 <| .calm 32 <| .calm 33 <| .calm 34 <| .calm 35 <| .calm 36 <| .calm 37 <| .calm 38 <| .calm 39 <| .calm 40 <| .calm 41 <| .calm 42 <| .calm 43 <| .calm 44 <| .must 45 <| .calm 46 <| .calm 47 <| .calm 48 <| .done) mixed (by kernel_rfl) ?_ | refine WC_region (id := 10) ?_ | (refine WR_skN rfl (h := ?_)) | (refine WR_skM rfl (h := ?_)) | (refine WR_skU rfl (h := ?_)))
        rw [qo0, po0]
        repeat (first | ((first | refine WL_Q ?_ | refine WL_Y ?_ | refine WR_Q rfl ?_ | refine WR_late rfl rfl rfl (OW_Q ?_) | refine WR_Y rfl ?_); (first | refine QW_a ?_ | refine QW_of (Qt_ldX rfl (hn := by with_reducible assumption)) ?_)) | ((first | refine WL_op rfl ?_ | refine WL_yes (h := ?_) | refine WR_late rfl rfl rfl ?_ | refine WR_opG rfl rfl ?_ | refine WR_opYG rfl (h := ?_)); (first | refine OW_callP rfl (hF := meetP_fn) (hk := ?_)); try refine ⟨(by first | exact fun _ h => h | exact sub_mem (by repeat (first | exact .refl _ | exact List.nil_sublist _ | exact List.sublist_append_right _ _ | exact List.Sublist.append (.refl _) (List.sublist_append_right _ _) | apply List.Sublist.cons_cons | apply List.Sublist.cons))), ?_⟩) | refine WL_nil ?_ | refine WL_un (h := ?_) | refine WL_N ?_ | refine WL_M ?_ | refine WR_nil ?_ | refine WR_un rfl (hk := ?_) | refine WR_N rfl ?_ | refine WR_M rfl ?_ | refine WC_seq ?_ | refine WC_block ?_ | refine WC_cond_t (ht := ?_) | refine WC_cond_f (he := ?_) | refine WC_skip ?_ | refine WC_ret ?_ | refine WC_exit ?_ | refine WC_draw_all (id := 14) 49 (.calm 0 <| .calm 1 <| .calm 2 <| .calm 3 <| .calm 4 <| .calm 5 <| .calm 6 <| .calm 7 <| .calm 8 <| .calm 9 <| .calm 10 <| .calm 11 <| .calm 12 <| .calm 13 <| .calm 14 <| .calm 15 <| .calm 16 <| .calm 17 <| .calm 18 <| .calm 19 <| .calm 20 <| .calm 21 <| .calm 22 <| .calm 23 <| .calm 24 <| .calm 25 <| .calm 26 <| .calm 27 <| .calm 28 <| .calm 29 <| .calm 30 <| .calm 31 <| .calm 32 <| .calm 33 <| .calm 34 <| .calm 35 <| .calm 36 <| .calm 37 <| .calm 38 <| .calm 39 <| .calm 40 <| .calm 41 <| .calm 42 <| .calm 43 <| .calm 44 <| .must 45 <| .calm 46 <| .calm 47 <| .calm 48 <| .done) mixed (by kernel_rfl) ?_ | refine WC_region (id := 7) ?_ | (refine WR_skN rfl (h := ?_)) | (refine WR_skM rfl (h := ?_)) | (refine WR_skU rfl (h := ?_)))
        rw [wi1]
        exact ⟨_, _, by omega, ⟨i + 1, rfl, by omega, rfl⟩, ⟨rfl, rfl, rfl, trivial⟩, rfl, .refl _⟩
  · have d2 : decide ((i : Int) < ((out.length : Nat) : Int)) = false := decide_eq_false (by omega)
    repeat (first | ((first | refine WL_Q ?_); (first | refine QW_a ?_ | refine QW_of (Qt_ldX rfl (hn := by with_reducible assumption)) ?_)) | refine WL_nil ?_ | refine WC_seq ?_ | refine WC_block ?_ | refine WC_cond_t (ht := ?_) | refine WC_cond_f (he := ?_) | refine WC_skip ?_ | refine WC_ret ?_ | refine WC_exit ?_ | refine WC_region (id := 6) ?_ | refine WC_region (id := 16) ?_)
    refine WC_wk [(10, .int .i64 (-220 + ((0 : Nat) : Int))), (5, .slice ao out.length co), (4, .slice ab wb.length cb)] ⟨rfl, rfl, rfl, trivial⟩ ?_
    clear hi hlt d2
    refine WC_loop (fun m σ => ∃ n : Nat, m = 440 - n ∧ n ≤ 440 ∧ σ = ⟨[(10, .int .i64 (-220 + (n : Int))), (5, .slice ao out.length co), (4, .slice ab wb.length cb)], [], M⟩) 440 ⟨0, by omega, by omega, rfl⟩ ?_
    rintro m σ ⟨n, rfl, hn, rfl⟩
    by_cases hnt : n < 440
    · have d4 : decide (-220 + (n : Int) < 220) = true := decide_eq_true (by omega)
      obtain ⟨hm1, hm2⟩ := gath_many hG (-220 + (n : Int))
      have wn1 : IntKind.i64.wrap (-220 + (n : Int) + 1) = -220 + ((n + 1 : Nat) : Int) := by rw [wI64 (by omega) (by omega)]; omega
      generalize -220 + (n : Int) = t at d4 hm1 hm2 wn1 ⊢
      repeat (first | ((first | refine WL_Q ?_); (first | refine QW_a ?_ | refine QW_of (Qt_ldX rfl (hn := by with_reducible assumption)) ?_)) | refine WL_nil ?_ | refine WC_seq ?_ | refine WC_block ?_ | refine WC_cond_t (ht := ?_) | refine WC_cond_f (he := ?_) | refine WC_skip ?_ | refine WC_ret ?_ | refine WC_exit ?_ | refine WC_region (id := 17) ?_ | refine WC_region (id := 19) ?_ | refine WC_region (id := 20) ?_)
      refine WC_wk [(13, .int .i64 0), (11, .bool ((wb.take 0).any fun p => hasW p t)), (12, .int .i64 0), (10, .int .i64 t), (5, .slice ao out.length co), (4, .slice ab wb.length cb)] ⟨rfl, rfl, rfl, rfl, rfl, rfl, trivial⟩ ?_
      refine WC_loop (fun m σ => ∃ k : Nat, m = wb.length - k ∧ k ≤ wb.length ∧ σ = ⟨[(13, .int .i64 k), (11, .bool ((wb.take k).any fun p => hasW p t)), (12, .int .i64 0), (10, .int .i64 t), (5, .slice ao out.length co), (4, .slice ab wb.length cb)], [], M⟩) wb.length ⟨0, by omega, by omega, rfl⟩ ?_
      rintro m σ ⟨k, rfl, hk, rfl⟩
      by_cases hkt : k < wb.length
      · have d3 : decide ((k : Int) < ((wb.length : Nat) : Int)) = true := decide_eq_true (by omega)
        obtain ⟨w, hw⟩ : ∃ w, wb[k]? = some w := ⟨_, List.getElem?_eq_getElem hkt⟩
        obtain ⟨g1, o1, cu1, E1, fr1, i1, rfl, hi1, hc1⟩ := ib.resolve_left (fun h => by rw [h] at hkt; simp at hkt)
        obtain ⟨pb0, pb1, pb2, pb3⟩ := hc1 (k : Int) k w (Int.toNat_natCast k) hw
        have k0 : (0 : Int) ≤ (k : Int) := by omega
        have k1 : ((k : Nat) : Int) < ((wb.length : Nat) : Int) := by omega
        have wk1 : IntKind.i64.wrap ((k : Int) + 1) = ((k + 1 : Nat) : Int) := by rw [wI64 (by omega) (by omega)]; omega
        have htk : wb.take (k + 1) = wb.take k ++ [w] := by rw [List.take_add_one, hw]; rfl
        have nb : ((wb.take (k + 1)).any fun p => hasW p t) = (((wb.take k).any fun p => hasW p t) || hasW w t) := by rw [htk]; exact any_snoc ..
        generalize ((wb.take k).any fun p => hasW p t) = bq at nb ⊢
        cases bq
        · repeat (first | ((first | refine WL_Q ?_ | refine WL_Y ?_); (first | refine QW_a ?_ | refine QW_of (Qt_ldX rfl (hn := by with_reducible assumption)) ?_)) | ((first | refine WL_op rfl ?_ | refine WL_yes (h := ?_)); (first | refine OW_callP rfl (hF := has_fn) (hk := ?_))) | refine WL_nil ?_ | refine WL_un (h := ?_) | refine WL_N ?_ | refine WL_M ?_ | refine WC_seq ?_ | refine WC_block ?_ | refine WC_cond_t (ht := ?_) | refine WC_cond_f (he := ?_) | refine WC_skip ?_ | refine WC_ret ?_ | refine WC_exit ?_ | refine WC_region (id := 21) ?_ | refine WC_region (id := 23) ?_)
          rw [pb0]
          repeat (first | ((first | refine WL_Q ?_ | refine WL_Y ?_); (first | refine QW_a ?_ | refine QW_of (Qt_ldX rfl (hn := by with_reducible assumption)) ?_)) | ((first | refine WL_op rfl ?_ | refine WL_yes (h := ?_)); (first | refine OW_callP rfl (hF := has_fn) (hk := ?_))) | refine WL_nil ?_ | refine WL_un (h := ?_) | refine WL_N ?_ | refine WL_M ?_ | refine WC_seq ?_ | refine WC_block ?_ | refine WC_cond_t (ht := ?_) | refine WC_cond_f (he := ?_) | refine WC_skip ?_ | refine WC_ret ?_ | refine WC_exit ?_ | refine WC_region (id := 23) ?_ | refine WC_region (id := 22) ?_)
          rw [wk1]
          exact ⟨_, _, by omega, ⟨k + 1, rfl, by omega, rfl⟩, ⟨rfl, by rw [nb]; rfl, rfl, rfl, rfl, rfl, trivial⟩, rfl, .refl _⟩
        · repeat (first | ((first | refine WL_Q ?_ | refine WL_Y ?_); (first | refine QW_a ?_ | refine QW_of (Qt_ldX rfl (hn := by with_reducible assumption)) ?_)) | ((first | refine WL_op rfl ?_ | refine WL_yes (h := ?_)); (first | refine OW_callP rfl (hF := has_fn) (hk := ?_))) | refine WL_nil ?_ | refine WL_un (h := ?_) | refine WL_N ?_ | refine WL_M ?_ | refine WC_seq ?_ | refine WC_block ?_ | refine WC_cond_t (ht := ?_) | refine WC_cond_f (he := ?_) | refine WC_skip ?_ | refine WC_ret ?_ | refine WC_exit ?_ | refine WC_region (id := 21) ?_ | refine WC_region (id := 23) ?_ | refine WC_region (id := 22) ?_)
          rw [wk1]
          exact ⟨_, _, by omega, ⟨k + 1, rfl, by omega, rfl⟩, ⟨rfl, by rw [nb]; rfl, rfl, rfl, rfl, rfl, trivial⟩, rfl, .refl _⟩
      · obtain rfl : k = wb.length := by omega
        have d3 : decide (((wb.length : Nat) : Int) < ((wb.length : Nat) : Int)) = false := decide_eq_false (by omega)
        rw [List.take_length, hm2]
        repeat (first | ((first | refine WL_Q ?_); (first | refine QW_a ?_ | refine QW_of (Qt_ldX rfl (hn := by with_reducible assumption)) ?_)) | refine WL_nil ?_ | refine WC_seq ?_ | refine WC_block ?_ | refine WC_cond_t (ht := ?_) | refine WC_cond_f (he := ?_) | refine WC_skip ?_ | refine WC_ret ?_ | refine WC_exit ?_ | refine WC_region (id := 21) ?_ | refine WC_region (id := 24) ?_)
        refine WC_wk [(14, .int .i64 0), (12, .int .i64 (manyW (out.take 0) t)), (11, .bool ((manyW out t : Int) == 1)), (10, .int .i64 t), (5, .slice ao out.length co), (4, .slice ab wb.length cb)] ⟨rfl, rfl, rfl, rfl, rfl, rfl, trivial⟩ ?_
        refine WC_loop (fun m σ => ∃ k : Nat, m = out.length - k ∧ k ≤ out.length ∧ σ = ⟨[(14, .int .i64 k), (12, .int .i64 (manyW (out.take k) t)), (11, .bool ((manyW out t : Int) == 1)), (10, .int .i64 t), (5, .slice ao out.length co), (4, .slice ab wb.length cb)], [], M⟩) out.length ⟨0, by omega, by omega, rfl⟩ ?_
        rintro m σ ⟨k, rfl, hk, rfl⟩
        by_cases hkt : k < out.length
        · have d3 : decide ((k : Int) < ((out.length : Nat) : Int)) = true := decide_eq_true (by omega)
          obtain ⟨w, hw⟩ : ∃ w, out[k]? = some w := ⟨_, List.getElem?_eq_getElem hkt⟩
          obtain ⟨g1, o1, cu1, E1, fr1, i1, rfl, hi1, hc1⟩ := io.resolve_left (fun h => by rw [h] at hkt; simp at hkt)
          obtain ⟨pb0, pb1, pb2, pb3⟩ := hc1 (k : Int) k w (Int.toNat_natCast k) hw
          have k0 : (0 : Int) ≤ (k : Int) := by omega
          have k1 : ((k : Nat) : Int) < ((out.length : Nat) : Int) := by omega
          have wk1 : IntKind.i64.wrap ((k : Int) + 1) = ((k + 1 : Nat) : Int) := by rw [wI64 (by omega) (by omega)]; omega
          have htk : out.take (k + 1) = out.take k ++ [w] := by rw [List.take_add_one, hw]; rfl
          have hml : manyW (out.take k) t ≤ 40 := Nat.le_trans (List.length_filter_le _ _) (by rw [List.length_take]; omega)
          have wm1 : IntKind.i64.wrap (((manyW (out.take k) t : Nat) : Int) + 1) = ((manyW (out.take k) t + 1 : Nat) : Int) := by rw [wI64 (by omega) (by omega)]; omega
          repeat (first | ((first | refine WL_Q ?_); (first | refine QW_a ?_ | refine QW_of (Qt_ldX rfl (hn := by with_reducible assumption)) ?_)) | ((first | refine WL_op rfl ?_); (first | refine OW_callP rfl (hF := has_fn) (hk := ?_))) | refine WL_nil ?_ | refine WC_seq ?_ | refine WC_block ?_ | refine WC_cond_t (ht := ?_) | refine WC_cond_f (he := ?_) | refine WC_skip ?_ | refine WC_ret ?_ | refine WC_exit ?_ | refine WC_region (id := 25) ?_ | refine WC_region (id := 27) ?_)
          rw [pb0]
          cases hh : hasW w t
          · have nm : manyW (out.take (k + 1)) t = manyW (out.take k) t := by unfold manyW; rw [htk, List.filter_append, List.filter_cons_of_neg (by simp [hh]), List.filter_nil, List.append_nil]
            repeat (first | ((first | refine WL_Q ?_); (first | refine QW_a ?_ | refine QW_of (Qt_ldX rfl (hn := by with_reducible assumption)) ?_)) | ((first | refine WL_op rfl ?_); (first | refine OW_callP rfl (hF := has_fn) (hk := ?_))) | refine WL_nil ?_ | refine WC_seq ?_ | refine WC_block ?_ | refine WC_cond_t (ht := ?_) | refine WC_cond_f (he := ?_) | refine WC_skip ?_ | refine WC_ret ?_ | refine WC_exit ?_ | refine WC_region (id := 27) ?_ | refine WC_region (id := 28) ?_ | refine WC_region (id := 26) ?_)
            rw [wk1]
            exact ⟨_, _, by omega, ⟨k + 1, rfl, by omega, rfl⟩, ⟨rfl, by rw [nm]; rfl, rfl, rfl, rfl, rfl, trivial⟩, rfl, .refl _⟩
          · have nm : manyW (out.take (k + 1)) t = manyW (out.take k) t + 1 := by unfold manyW; rw [htk, List.filter_append, List.filter_cons_of_pos (by simp [hh]), List.filter_nil, List.length_append]; rfl
            repeat (first | ((first | refine WL_Q ?_); (first | refine QW_a ?_ | refine QW_of (Qt_ldX rfl (hn := by with_reducible assumption)) ?_)) | ((first | refine WL_op rfl ?_); (first | refine OW_callP rfl (hF := has_fn) (hk := ?_))) | refine WL_nil ?_ | refine WC_seq ?_ | refine WC_block ?_ | refine WC_cond_t (ht := ?_) | refine WC_cond_f (he := ?_) | refine WC_skip ?_ | refine WC_ret ?_ | refine WC_exit ?_ | refine WC_region (id := 27) ?_ | refine WC_region (id := 28) ?_ | refine WC_region (id := 26) ?_)
            rw [wk1, wm1]
            exact ⟨_, _, by omega, ⟨k + 1, rfl, by omega, rfl⟩, ⟨rfl, by rw [nm]; rfl, rfl, rfl, rfl, rfl, trivial⟩, rfl, .refl _⟩
        · obtain rfl : k = out.length := by omega
          have d5 : decide (((out.length : Nat) : Int) < ((out.length : Nat) : Int)) = false := decide_eq_false (by omega)
          have d6 : decide (((manyW out t : Nat) : Int) > 1) = false := decide_eq_false (by omega)
          have d7 : ((((manyW out t : Nat) : Int) == 1) != (((manyW out t : Nat) : Int) == 1)) = false := by simp
          rw [List.take_length]
          repeat (first | ((first | refine WL_Q ?_ | refine WL_Y ?_); (first | refine QW_a ?_ | refine QW_of (Qt_ldX rfl (hn := by with_reducible assumption)) ?_)) | refine WL_nil ?_ | refine WL_un (h := ?_) | refine WL_N ?_ | refine WL_M ?_ | refine WC_seq ?_ | refine WC_block ?_ | refine WC_cond_t (ht := ?_) | refine WC_cond_f (he := ?_) | refine WC_skip ?_ | refine WC_ret ?_ | refine WC_exit ?_ | refine WC_region (id := 25) ?_ | refine WC_region (id := 29) ?_ | refine WC_region (id := 18) ?_)
          rw [wn1]
          exact ⟨_, _, by omega, ⟨n + 1, rfl, by omega, rfl⟩, ⟨rfl, rfl, rfl, trivial⟩, rfl, .refl _⟩
    · have d4 : decide (-220 + (n : Int) < 220) = false := decide_eq_false (by omega)
      repeat (first | ((first | refine WL_Q ?_); (first | refine QW_a ?_ | refine QW_of (Qt_ldX rfl (hn := by with_reducible assumption)) ?_)) | refine WL_nil ?_ | refine WC_seq ?_ | refine WC_block ?_ | refine WC_cond_t (ht := ?_) | refine WC_cond_f (he := ?_) | refine WC_skip ?_ | refine WC_ret ?_ | refine WC_exit ?_ | refine WC_region (id := 17) ?_ | refine WC_region (id := 31) ?_ | refine WC_region (id := 32) ?_)
      have w0 : IntKind.i64.wrap (((wb.length : Nat) : Int) - 1) = ((wb.length : Nat) : Int) - 1 - ((0 : Nat) : Int) := by rw [wI64 (by omega) (by omega)]; omega
      rw [w0]
      clear w0 d4
      refine WC_wk [(16, .int .i64 (((wb.length : Nat) : Int) - 1 - ((0 : Nat) : Int))), (15, .slice none 0 0), (5, .slice ao out.length co), (4, .slice ab wb.length cb)] ⟨rfl, rfl, rfl, rfl, trivial⟩ ?_
      refine WC_loop (fun m σ => ∃ (j : Nat) (v : Value) (T : List (Nat × Obj)), m = wb.length - j ∧ j ≤ wb.length ∧ BufW v T (wb.reverse.take j) ∧ σ = ⟨[(16, .int .i64 (((wb.length : Nat) : Int) - 1 - (j : Int))), (15, v), (5, .slice ao out.length co), (4, .slice ab wb.length cb)], [], T ++ M⟩) wb.length ⟨0, _, [], by omega, by omega, Buf.nil _ _, rfl⟩ ?_
      rintro m σ ⟨j, v, T, rfl, hj, hbt, rfl⟩
      by_cases hjt : j < wb.length
      · have d3 : decide (((wb.length : Nat) : Int) - 1 - (j : Int) ≥ 0) = true := decide_eq_true (by omega)
        obtain ⟨w, hw⟩ : ∃ w, wb[wb.length - 1 - j]? = some w := ⟨_, List.getElem?_eq_getElem (by omega)⟩
        have hwr : wb.reverse[j]? = some w := by rw [List.getElem?_reverse hjt]; exact hw
        obtain ⟨g1, o1, cu1, E1, fr1, i1, rfl, hi1, hc1⟩ := ib.resolve_left (fun h => by rw [h] at hjt; simp at hjt)
        obtain ⟨pb0, pb1, pb2, pb3⟩ := hc1 (((wb.length : Nat) : Int) - 1 - (j : Int)) (wb.length - 1 - j) w (by omega) hw
        have k0 : (0 : Int) ≤ ((wb.length : Nat) : Int) - 1 - (j : Int) := by omega
        have k1 : ((wb.length : Nat) : Int) - 1 - (j : Int) < ((wb.length : Nat) : Int) := by omega
        have wk1 : IntKind.i64.wrap (((wb.length : Nat) : Int) - 1 - (j : Int) - 1) = ((wb.length : Nat) : Int) - 1 - ((j + 1 : Nat) : Int) := by rw [wI64 (by omega) (by omega)]; omega
        have htk : wb.reverse.take (j + 1) = wb.reverse.take j ++ [w] := by rw [List.take_add_one, hwr]; rfl
        have hm1 : (T ++ M)[T.length + i1]? = some (g1, .cells cu1 E1 fr1) := by rw [List.getElem?_append_right (by omega), Nat.add_sub_cancel_left]; exact hi1
        have hln : (wb.reverse.take j).length ≤ 40 := by rw [List.length_take, List.length_reverse]; omega
        repeat (first | ((first | refine WL_Q ?_); (first | refine QW_a ?_ | refine QW_of (Qt_ldX rfl (hn := by with_reducible assumption)) ?_)) | ((first | refine WL_op rfl ?_); (first | refine OW_build1 rfl (hk := fun _ => ?_))) | refine WL_nil ?_ | refine WC_seq ?_ | refine WC_block ?_ | refine WC_cond_t (ht := ?_) | refine WC_cond_f (he := ?_) | refine WC_skip ?_ | refine WC_ret ?_ | refine WC_exit ?_ | refine WC_region (id := 33) ?_ | refine WC_region (id := 35) ?_)
        rw [pb0]
        repeat (first | ((first | refine WL_Q ?_); (first | refine QW_a ?_ | refine QW_of (Qt_ldX rfl (hn := by with_reducible assumption)) ?_)) | ((first | refine WL_op rfl ?_); (first | refine OW_build1 rfl (hk := fun _ => ?_))) | refine WL_nil ?_ | refine WC_seq ?_ | refine WC_block ?_ | refine WC_cond_t (ht := ?_) | refine WC_cond_f (he := ?_) | refine WC_skip ?_ | refine WC_ret ?_ | refine WC_exit ?_ | refine WC_region (id := 35) ?_)
        refine WL_op rfl (OW_append_buf (A := [_]) (T := T) (B := M) rfl rfl rfl rfl rfl hbt (srcW (w := wC w) (i := 0) rfl rfl rfl) (by decide) (by simp only [maxLen]; omega) (by omega) ?_)
        intro v' T' hbt'
        simp only [List.cons_append, List.nil_append]
        repeat (first | ((first | refine WL_Q ?_); (first | refine QW_a ?_ | refine QW_of (Qt_ldX rfl (hn := by with_reducible assumption)) ?_)) | ((first | refine WL_op rfl ?_); (first | refine OW_build1 rfl (hk := fun _ => ?_))) | refine WL_nil ?_ | refine WC_seq ?_ | refine WC_block ?_ | refine WC_cond_t (ht := ?_) | refine WC_cond_f (he := ?_) | refine WC_skip ?_ | refine WC_ret ?_ | refine WC_exit ?_ | refine WC_region (id := 35) ?_ | refine WC_region (id := 34) ?_)
        rw [wk1]
        refine ⟨_, _, by omega, ⟨j + 1, v', T', rfl, by omega, ?_, rfl⟩, ⟨rfl, rfl, rfl, rfl, trivial⟩, rfl, .cons _ (.refl _)⟩
        rw [htk]
        unfold BufW
        rw [flatW_snoc, List.length_append]
        exact hbt'
      · obtain rfl : j = wb.length := by omega
        have d3 : decide (((wb.length : Nat) : Int) - 1 - ((wb.length : Nat) : Int) ≥ 0) = false := decide_eq_false (by omega)
        rw [List.take_of_length_le (by rw [List.length_reverse]; omega)] at hbt
        have hrl : wb.reverse.length ≤ 100000 := by rw [List.length_reverse]; omega
        have hGr : Gath wb.reverse out := hG.congr (fun p _ => List.mem_reverse.symm)
        repeat (first | ((first | refine WL_Q ?_ | refine WL_Y ?_); (first | refine QW_a ?_ | refine QW_of (Qt_ldX rfl (hn := by with_reducible assumption)) ?_)) | ((first | refine WL_op rfl ?_ | refine WL_yes (h := ?_)); (first | (refine OW_call rfl (hF := gather_fn hrl (hbt.vec0 M)) (hk := ?_); rintro v2 _ ⟨o2, T2, hG2, hl2, hb2, rfl⟩) | (refine OW_call rfl (hF := gather_fn (ws := out) (by omega) ((hvo.app T).app T2)) (hk := ?_); rintro v3 _ ⟨o3, T3, hG3, hl3, hb3, rfl⟩) | refine OW_callP rfl (hF := sameO_fn (Gath.unique hG3 hG.self) (by omega) (hb3.vec0 _) (((hvo.app T).app T2).app T3)) (hk := ?_) | refine OW_callP rfl (hF := sameO_fn (Gath.unique hG2 hGr) (by omega) (hb2.vec0 _) ((hvo.app T).app T2)) (hk := ?_))) | refine WL_nil ?_ | refine WL_un (h := ?_) | refine WL_N ?_ | refine WL_M ?_ | refine WC_seq ?_ | refine WC_block ?_ | refine WC_cond_t (ht := ?_) | refine WC_cond_f (he := ?_) | refine WC_skip ?_ | refine WC_ret ?_ | refine WC_exit ?_ | refine WC_region (id := 33) ?_ | refine WC_region (id := 36) ?_)
        exact ⟨rfl, _, L, Res1 rfl (resV_tmp rfl), .trans hML (.trans (List.sublist_append_right _ _) (.trans (List.sublist_append_right _ _) (List.sublist_append_right _ _))), rfl, rfl⟩
end Go.Proofs.Ytkjljlmoihkijaa
namespace Go.Proofs.Ytkjljlmoihkijaa
open Go.ChangeShapes Go.WideShapes Go.ChangeAt Go.RowKit
theorem ownOf : ownKnob Try.prog.godebug = none := by kernel_rfl
theorem laidOf : laidOutB Try.prog = true := by kernel_rfl
def allL (W : World) : List (Nat × Obj) := W.heap.toList.zipIdx.map fun p => (p.2, p.1)
theorem allL_get {W : World} {b : Nat} {o : Obj} (h : W.heap[b]? = some o) : (allL W)[b]? = some (b, o) := by
  simp [allL, h]
theorem allL_mem {W : World} {p : Nat × Obj} : p ∈ allL W → W.heap[p.1]? = some p.2 := fun h => by
  simp only [allL, List.mem_map] at h
  obtain ⟨⟨o, b⟩, h1, rfl⟩ := h
  have := List.mem_zipIdx_iff_getElem?.1 h1
  simpa using this
theorem allL_mem_of {W : World} {b : Nat} {o : Obj} (h : W.heap[b]? = some o) : (b, o) ∈ allL W := List.mem_of_getElem? (allL_get h)
theorem mem_allL (W : World) : Mem W (allL W) W where
  os := rfl
  tape := rfl
  output := rfl
  size := Nat.le_refl _
  nodup := by
    have : (allL W).map Prod.fst = List.range W.heap.size := by
      simp only [allL, List.map_map]
      apply List.ext_getElem?
      intro i
      simp only [List.getElem?_map, List.getElem?_zipIdx, Array.getElem?_toList]
      by_cases h : i < W.heap.size
      · simp [h]
      · simp [h]
    rw [this]; exact List.nodup_range
  has := fun _ h => allL_mem h
theorem below_of_mem {W W' : World} (h : Mem W (allL W) W') : Below W.heap.size W W' where
  os := h.os
  tape := h.tape
  output := h.output
  size := h.size
  block := fun k hk => by
    have h1 : W.heap[k]? = some W.heap[k] := Array.getElem?_eq_getElem hk
    rw [h1]
    exact h.has (k, W.heap[k]) (allL_mem_of h1)
theorem trodAll_stays {H : Type} {enc : TypeId × Value → H} {P : Program} (hl : laidOutB P = true) {W W' : World} (hb : Below W.heap.size W W') : ∀ {ts : List TypeId} {vs : List Value} {ds : List (DataW H)} {ps : List MemPlace},
    (∀ t ∈ ts, P.readableRec t = true ∧ t < P.types.size) → DataW.TrodAll enc P W 0 (fun _ => true) true ts vs ds ps → (∀ x ∈ ps, x.block < W.heap.size) → DataW.TrodAll enc P W' 0 (fun b => decide (b < W.heap.size)) true ts vs ds ps
  | [], _, _, _, _, h, _ => by obtain ⟨rfl, rfl, rfl⟩ := trodAll_nil h; exact trodAll_mk0
  | t :: ts, _, _, _, ht, h, hp => by
    obtain ⟨v, vs', d, ds', p, q, rfl, rfl, rfl, h1, h2⟩ := trodAll_cons h
    have h3 := ht t (by simp)
    exact ⟨p, q, Below.trod hl h3.1 h3.2 h1 hb (fun x hx => hp x (by simp [hx])), trodAll_stays hl hb (fun t' h' => ht t' (by simp [h'])) h2 (fun x hx => hp x (by simp [hx])), rfl⟩
theorem post_law {H : Type} {enc : TypeId × Value → H} {P : Program} {f : Func} {s : ChangeSpec} {W W' : World} {args : Array Value} {ds gs : List (DataW H)} {before : List MemPlace} {tb : TypeId} (hl : laidOutB P = true)
    (hts : (f.params.toList.all fun t => P.readableRec t && decide (t < P.types.size)) = true) (hv : s.vars = []) (hr : f.resultTypes = #[tb]) (hb : P.underlying tb = some .bool)
    (hfn : s.fn H (ds ++ gs) = { results := [.lit (.bool true)], args := ds }) (hW : DataW.Whole enc P f.params.toList s.vars false W args.toList ds gs before) (hbel : Below W.heap.size W W') :
    s.post enc P f false true false false W args (.bool true) W' := by
  have hlt := hW.lt
  have hW' := hW
  obtain ⟨p, q, hA, hV, rfl, _, _⟩ := hW
  rw [hv] at hV
  obtain ⟨rfl, rfl⟩ := trodVars_none hV
  have hts' : ∀ t ∈ f.params.toList, P.readableRec t = true ∧ t < P.types.size := fun t ht => by
    have := List.all_eq_true.1 hts t ht
    simpa using this
  refine ⟨ds, [], p ++ [], [], p, [], hW', ?_, ?_, ?_, hbel.frame _, fun h => by cases h⟩
  · rw [hfn, hr]
    exact trodAll_mk1 (shut_bool hb true)
  · rw [hfn]
    exact trodAll_stays hl hbel hts' hA (fun x hx => by simpa using hlt x (by simp [hx]))
  · rw [hfn, hv]; rfl
theorem lifted {C : Checked} {os : Os} {H : Type} {enc : TypeId × Value → H} {f : FuncId} {fn : Func} {s : ChangeSpec} {tb : TypeId} (own : ownKnob C.prog.godebug = none) (started : os.Started) (noInit : C.prog.inits.idxOf? f = none) (hfn : C.prog.funcs[f]? = some fn)
    (witness : ∃ (w : World) (tape : Tape) (i : Input), w.os = os ∧ (w.forCall tape i).Shaped C.prog ∧ i.vars = [] ∧ Input.okWide C.prog (w.forCall tape i) .any w.heap.size f i ∧ s.pre6 enc C.prog fn [] false (w.forCall tape i).memory i.args ∧ ({} : Assume).holds C.prog (lone (Frame.enter C.prog f i.args .normal) [] (w.forCall tape i)))
    (hl : laidOutB C.prog = true) (hts : (fn.params.toList.all fun t => C.prog.readableRec t && decide (t < C.prog.types.size)) = true) (hv : s.vars = []) (hr : fn.resultTypes = #[tb]) (hb : C.prog.underlying tb = some .bool)
    (hspec : ∀ ds : List (DataW H), ds.length = fn.params.size → s.fn H ds = { results := [.lit (.bool true)], args := ds })
    (h : ∀ (W : World) (base : Nat) (args : Array Value) (ds : List (DataW H)) (ps : List MemPlace), (∀ (j : Nat) t v, fn.params[j]? = some t → args[j]? = some v → Value.okWide C.prog W .any base t v) →
      DataW.TrodAll enc C.prog W 0 (fun _ => true) true fn.params.toList args.toList ds ps → W.noneFrozen ps → Fn C.prog f args.toList (allL W) fun v L' => v = .bool true ∧ L' = allL W) :
    ReturnsInHanded {} C os f .any (s.pre6 enc C.prog fn [] false) (s.post enc C.prog fn false true false false) := by
  refine returnsInHanded_of_change (C := C) own started noInit hfn witness ?_
  intro W base args ds gs before hval hW _ _
  have hW' := hW
  obtain ⟨p, q, hA, hV, rfl, hfz, _⟩ := hW
  rw [hv] at hV
  obtain ⟨rfl, rfl⟩ := trodVars_none hV
  have hlen : ∀ {ts : List TypeId} {vs : List Value} {ds : List (DataW H)} {ps : List MemPlace}, DataW.TrodAll enc C.prog W 0 (fun _ => true) true ts vs ds ps → ds.length = ts.length := by
    intro ts
    induction ts with
    | nil => intro vs ds ps h; obtain ⟨_, rfl, _⟩ := trodAll_nil h; rfl
    | cons t ts ih => intro vs ds ps h; obtain ⟨v, vs', d, ds', a, b, rfl, rfl, rfl, _, h2⟩ := trodAll_cons h; simp [ih h2]
  have hds := hspec ds (by rw [hlen hA]; simp)
  refine ((h W base args ds p hval hA (by simpa using hfz)) W W (mem_allL W)).mono fun e W' ⟨v, L', h1, h2, h3, h4⟩ => ?_
  subst h3; subst h4
  exact ⟨_, h1, post_law hl hts hv hr hb (by simpa using hds) hW' (below_of_mem h2)⟩
end Go.Proofs.Ytkjljlmoihkijaa
namespace Go.Proofs.Ytkjljlmoihkijaa
open Go.ChangeShapes Go.WideShapes Go.ChangeAt Go.RowKit Go.Deep
structure Rd (α : Type) where
  n : Nat
  lie : List (Nat × Obj) → α → (Nat → Option Value) → Prop
  mono : ∀ {L a g g'}, (∀ k v, g k = some v → g' k = some v) → lie L a g → lie L a g'
def intR (k : IntKind) : Rd Int where
  n := 1
  lie := fun _ x g => g 0 = some (.int k x) ∧ (Lit.int k x).wf = true
  mono := fun h h1 => ⟨h _ _ h1.1, h1.2⟩
def arrR {α : Type} (n : Nat) (r : Rd α) : Rd (List α) where
  n := n * r.n
  lie := fun L xs g => xs.length = n ∧ ∀ j x, xs[j]? = some x → r.lie L x (fun k => g (j * r.n + k))
  mono := fun h h1 => ⟨h1.1, fun j x hx => r.mono (fun _ _ h2 => h _ _ h2) (h1.2 j x hx)⟩
def SlLie {α : Type} (r : Rd α) (L : List (Nat × Obj)) (a : Option Addr) (xs : List α) : Prop :=
  xs = [] ∨ ∃ (b off : Nat) (cs : Array Value) (E : TypeId) (fr : Nat × Nat) (i : Nat), a = some ⟨b, off, none⟩ ∧ L[i]? = some (b, Obj.cells cs E fr) ∧ ∀ j x, xs[j]? = some x → r.lie L x (fun k => cs[off + j * r.n + k]?)
def sliceR {α : Type} (r : Rd α) : Rd (List α) where
  n := 1
  lie := fun L xs g => ∃ a cap, g 0 = some (.slice a xs.length cap) ∧ xs.length ≤ cap ∧ cap ≤ maxLen ∧ SlLie r L a xs
  mono := fun h ⟨a, cap, h1, h2⟩ => ⟨a, cap, h _ _ h1, h2⟩
def Sound {α : Type} (P : Program) (t : TypeId) (r : Rd α) : Prop :=
  P.cellsOf t = r.n ∧ ∀ {H : Type} {enc : TypeId × Value → H} {W : World} {fuel : Nat} {cs : List Value} {x : DataW H × List MemPlace}, DataW.trod enc P W 0 (fun _ => true) true fuel t cs = some x → ∃ a, r.lie (allL W) a (fun k => cs[k]?)
variable {P : Program} {t : TypeId}
theorem sound_int {k : IntKind} (ht : P.underlying t = some (.int k)) (hc : P.cellsOf t = 1) : Sound P t (intR k) := ⟨hc, fun h => by
  obtain ⟨n, rfl, _, hw⟩ := DataW.trod_int ht h
  exact ⟨n, rfl, hw⟩⟩
theorem cut_get {cs : List Value} {o n k : Nat} {v : Value} (h : ((cs.drop o).take n)[k]? = some v) : cs[o + k]? = some v := by
  rw [List.getElem?_take] at h
  split at h
  · rwa [List.getElem?_drop] at h
  · cases h
theorem choose_list {α : Type} {n : Nat} {p : Nat → α → Prop} (h : ∀ i, i < n → ∃ x, p i x) : ∃ xs : List α, xs.length = n ∧ ∀ i x, xs[i]? = some x → p i x := by
  induction n with
  | zero => exact ⟨[], rfl, by simp⟩
  | succ n ih =>
    obtain ⟨xs, h1, h2⟩ := ih fun i hi => h i (by omega)
    obtain ⟨x, hx⟩ := h n (by omega)
    refine ⟨xs ++ [x], by simp [h1], fun i y hy => ?_⟩
    by_cases hi : i < n
    · rw [List.getElem?_append_left (by omega)] at hy; exact h2 i y hy
    · rw [List.getElem?_append_right (by omega)] at hy
      have : i = n := by
        have := (List.getElem?_eq_some_iff.1 hy).1
        simp at this; omega
      subst this
      rw [h1, Nat.sub_self] at hy
      simp at hy; subst hy; exact hx
theorem sound_arr {α : Type} {r : Rd α} {n : Nat} {e : TypeId} (ht : P.underlying t = some (.array n e)) (hc : P.cellsOf t = n * r.n) (he : Sound P e r) : Sound P t (arrR n r) := ⟨hc, fun {H enc W fuel cs x} h => by
  obtain ⟨xs, m, _, _, hl, hx, hi⟩ := DataW.trod_array ht h
  obtain ⟨ys, h1, h2⟩ := choose_list (n := n) (p := fun j a => r.lie (allL W) a (fun k => cs[j * r.n + k]?)) fun i hlt => by
    have h3 := hi i hlt
    obtain ⟨y, hy⟩ : ∃ y, xs[i]? = some y := ⟨xs[i]'(by omega), List.getElem?_eq_getElem (by omega)⟩
    rw [hy] at h3
    obtain ⟨a, ha⟩ := he.2 h3
    refine ⟨a, r.mono (fun k v hk => ?_) ha⟩
    have := cut_get hk
    rwa [he.1] at this
  exact ⟨ys, h1, h2⟩⟩
theorem cells_get {W : World} {a : Addr} {n k : Nat} {cs : List Value} (h : W.cells? 0 a n = some cs) (hk : k < n) : ∃ v, cs[k]? = some v ∧ W.cell? (a.add k) = some v := by
  obtain ⟨_, hl, hat⟩ := World.cells?_some h
  exact ⟨cs[k]'(by omega), List.getElem?_eq_getElem (by omega), by rw [hat k hk, List.getElem?_eq_getElem (by omega)]⟩
theorem sound_slice {α : Type} {r : Rd α} {e : TypeId} (ht : P.underlying t = some (.slice e)) (hc : P.cellsOf t = 1) (hr : 0 < r.n) (he : Sound P e r) : Sound P t (sliceR r) := ⟨hc, fun {H enc W fuel cs x} h => by
  rcases open_slice ht h with ⟨rfl, _⟩ | ⟨a, len, cap, m, n, D, Pl, rfl, _, hl, hm, hmm, _, hi⟩
  · exact ⟨[], none, 0, rfl, Nat.le_refl _, Nat.zero_le _, .inl rfl⟩
  · simp only [if_true] at hmm
    subst hmm
    by_cases h0 : len = 0
    · subst h0; exact ⟨[], some a, m, rfl, Nat.zero_le _, hm, .inl rfl⟩
    rw [he.1] at hi
    have hblock : ∃ b off cs E fr, a = ⟨b, off, none⟩ ∧ W.heap[b]? = some (Obj.cells cs E fr) := by
      obtain ⟨cs', h1, _⟩ := hi 0 (by omega)
      obtain ⟨v, _, hv⟩ := cells_get h1 hr
      have e0 : (a.add (0 * r.n)).add 0 = a := by simp [Addr.add]
      rw [e0] at hv
      obtain ⟨b, off, spot⟩ := a
      simp only [World.cell?] at hv
      split at hv
      · rename_i cs E fr hb
        split at hv
        · cases hv
        · rename_i hs
          have hs' : spot = none := by cases spot with | none => rfl | some _ => simp at hs
          subst hs'
          exact ⟨b, off, cs, E, fr, rfl, hb⟩
      · cases hv
    obtain ⟨b, off, cs, E, fr, rfl, hb⟩ := hblock
    obtain ⟨ys, h1, h2⟩ := choose_list (n := len) (p := fun j x => r.lie (allL W) x (fun k => cs[off + j * r.n + k]?)) fun i hlt => by
      obtain ⟨cs', hc1, ht1⟩ := hi i (by omega)
      obtain ⟨x, hx⟩ := he.2 ht1
      refine ⟨x, r.mono (fun k v hk => ?_) hx⟩
      have hk2 : k < r.n := by
        obtain ⟨_, hl2, _⟩ := World.cells?_some hc1
        have := (List.getElem?_eq_some_iff.1 hk).1
        omega
      obtain ⟨v', e1, e2⟩ := cells_get hc1 hk2
      rw [hk] at e1; cases e1
      rw [add_add, Addr.add_mid, World.cell?] at e2
      simp only [hb] at e2
      rw [Nat.add_assoc]
      simpa using e2
    exact ⟨ys, some ⟨b, off, none⟩, m, by rw [h1]; rfl, by omega, hm, .inr ⟨b, off, cs, E, fr, b, rfl, allL_get hb, h2⟩⟩⟩
theorem arg_slice {α : Type} {H : Type} {enc : TypeId × Value → H} {W : World} {rc : Reach} {b0 e : TypeId} {r : Rd α} {v : Value} {d : DataW H} {p : List MemPlace} (ht : P.underlying t = some (.slice e)) (hs : Sound P t (sliceR r))
    (hval : Value.okWide P W rc b0 t v) (h : DataW.Trod enc P W 0 (fun _ => true) true t v d p) : ∃ (a : Option Addr) (cap : Nat) (xs : List α), v = .slice a xs.length cap ∧ xs.length ≤ cap ∧ cap ≤ maxLen ∧ SlLie r (allL W) a xs := by
  obtain ⟨a0, len, cap, rfl⟩ := okWide_slice ht hval
  obtain ⟨fuel, hf⟩ := h
  obtain ⟨xs, a, cap', h1, h2⟩ := hs.2 hf
  simp [Value.cells] at h1
  obtain ⟨rfl, rfl, rfl⟩ := h1
  exact ⟨_, _, xs, rfl, h2⟩
end Go.Proofs.Ytkjljlmoihkijaa
namespace Go.Proofs.Ytkjljlmoihkijaa
open Go.RowKit
theorem flatW_at {ws : List (Int × Int)} {f : Nat → Option Value} (h : ∀ (j : Nat) (p : Int × Int), ws[j]? = some p → f (j * 2) = some (.int .i64 p.1) ∧ f (j * 2 + 1) = some (.int .i64 p.2)) : ∀ j x, (flatW ws)[j]? = some x → f j = some x := fun j x hj => by
  have hlt : j < ws.length * 2 := by rw [← flatW_len]; exact (List.getElem?_eq_some_iff.1 hj).1
  have hp : ws[j / 2]? = some (ws[j / 2]'(by omega)) := List.getElem?_eq_getElem _
  obtain ⟨a0, a1⟩ := h _ _ hp
  obtain ⟨b0, b1⟩ := flat_pairs hp
  have hx : (flatW ws)[j]? = some x := hj
  unfold flatW at hx
  rcases Nat.mod_two_eq_zero_or_one j with e | e
  · have ej : j = j / 2 * 2 := by omega
    rw [← ej] at a0 b0
    rw [b0] at hx
    cases hx
    exact a0
  · have ej : j = j / 2 * 2 + 1 := by omega
    rw [← ej] at a1 b1
    rw [b1] at hx
    cases hx
    exact a1
theorem vecW_of {L : List (Nat × Obj)} {a : Option Addr} {cap : Nat} {xs : List (List Int)} (h : xs.length ≤ cap) (hm : cap ≤ maxLen) (hx : SlLie (arrR 2 (intR .i64)) L a xs) : ∃ ws : List (Int × Int), VecW L (.slice a xs.length cap) ws := by
  rcases hx with rfl | ⟨b, off, cs, E, fr, i, rfl, hi, hc⟩
  · exact ⟨[], rfl, a, cap, rfl, h, hm, .inl rfl⟩
  · refine ⟨xs.map fun l => (l.getD 0 0, l.getD 1 0), by rw [flatW_len], some ⟨b, off, none⟩, cap, by rw [List.length_map], by rw [List.length_map]; exact h, hm, .inr ⟨b, off, cs, E, fr, i, rfl, hi, ?_⟩⟩
    refine flatW_at fun j p hp => ?_
    rw [List.getElem?_map] at hp
    cases hl : xs[j]? with
    | none => rw [hl] at hp; cases hp
    | some l =>
      rw [hl] at hp
      obtain rfl : _ = p := Option.some.inj hp
      obtain ⟨h2, h3⟩ := hc j l hl
      match l, h2 with
      | [x, y], _ =>
        have g0 := (h3 0 x rfl).1
        have g1 := (h3 1 y rfl).1
        exact ⟨g0, g1⟩
end Go.Proofs.Ytkjljlmoihkijaa
