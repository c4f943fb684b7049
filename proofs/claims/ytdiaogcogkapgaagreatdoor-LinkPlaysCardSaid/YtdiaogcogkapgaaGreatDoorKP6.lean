/-
  A part of what the last of these texts needs; by itself it proves no statement.
-/
import Derived.Test.YtdiaogcogkapgaaGreatDoorKP5
namespace Go.Proofs.YtdiaogcogkapgaaGreatDoor
open Go.RowKit
attribute [local irreducible] Fn WC WL WR OW Qt YieldFn QW FnP FnD FnE
set_option maxHeartbeats 4000000 in
theorem rCmd_fn {cs : Array Value} {L : List (Nat × Obj)} {a : Option Addr} {cap : Nat} {ch ct : List Value} {bins : List (List Value)} (hz : cs.size = 10) (hn : bins.length ≤ 1000000) (hch : Oks chF ch) (hct : Oks ctF ct) (hb : ∀ vs ∈ bins, Oks binF vs) (hl : Lies cs 0 (ch ++ (.slice a bins.length cap :: ct))) (he : Elems L a 1 bins) :
    Fn Tryz.prog 82 [.agg cs] L (fun r L' => r = .string (bstr (encCmd ch bins ct)) ∧ L' = L) := by
  obtain ⟨v0, us0, rfl, h0, q0⟩ := hch.split
  obtain ⟨v1, us1, rfl, h1, q1⟩ := q0.split
  obtain rfl := q1.nil
  obtain ⟨c0, rfl, a0, b0⟩ := h0
  obtain ⟨c1, rfl, a1, b1⟩ := h1
  obtain ⟨w0, ws0, rfl, k0, r0⟩ := hct.split
  obtain ⟨w1, ws1, rfl, k1, r1⟩ := r0.split
  obtain ⟨t2, ws2, rfl, k2, r2⟩ := r1.split
  obtain ⟨t3, ws3, rfl, k3, r3⟩ := r2.split
  obtain ⟨t4, ws4, rfl, k4, r4⟩ := r3.split
  obtain ⟨t5, ws5, rfl, k5, r5⟩ := r4.split
  obtain ⟨w6, ws6, rfl, k6, r6⟩ := r5.split
  obtain rfl := r6.nil
  obtain ⟨t0, rfl, a2, b2⟩ := k0
  obtain ⟨t1, rfl, a3, b3⟩ := k1
  obtain ⟨t6, rfl, a6, b6⟩ := k6
  have hop : Oks opF [t2, t3, t4, t5] := ⟨k2, k3, k4, k5, trivial⟩
  have hlop : Lies (cs.extract 5 (5 + 4)) 0 [t2, t3, t4, t5] := lies_extract (by have h := hl.cut 5 4; rwa [Nat.zero_add] at h) (Nat.le_refl _)
  have eop := encs_len hop
  simp only [List.length_cons, List.length_nil] at eop
  have f0 := enc_len (zz_lt a0 b0)
  have f1 := enc_len (zz_lt a1 b1)
  have f2 := enc_len (zz_lt a2 b2)
  have f3 := enc_len (zz_lt a3 b3)
  have f6 := enc_len (zz_lt a6 b6)
  have u0 := u64_lo ((bins.length : Nat) : Int)
  have u1 := u64_hi ((bins.length : Nat) : Int)
  have uw : (IntKind.u64.wrap ((bins.length : Nat) : Int)).toNat = bins.length := by rw [wU64 (by omega) (by omega)]; omega
  have fn : (enc (IntKind.u64.wrap ((bins.length : Nat) : Int)).toNat).length ≤ 10 := by rw [uw]; exact enc_len (by omega)
  have g0 := lies0 hl (j := 0) rfl
  have g1 := lies0 hl (j := 1) rfl
  have g2 := lies0 hl (j := 2) rfl
  have g3 := lies0 hl (j := 3) rfl
  have g4 := lies0 hl (j := 4) rfl
  have g9 := lies0 hl (j := 9) rfl
  refine Fn_enter Tryz.func82 rfl Tryz.ntmps82 rfl fun g => ?_
  repeat (first | refine RQr ?_ | (refine OX ?_; (first | (refine OE ?_; try intro _) | refine OW_callP rfl (hF := Int_fn (by with_reducible assumption) (by with_reducible assumption)) (hk := ?_) | refine OW_callP rfl (hF := Num_fn' (by with_reducible assumption) (by with_reducible assumption)) (hk := ?_) | refine OW_callP rfl (hF := rW_fn (by with_reducible assumption) (by with_reducible assumption)) (hk := ?_)); try refine SD ?_) | refine RC0 ?_ | refine RU ?_ | refine WC_block (id := 1) ?_ | refine WC_draw_all (id := 1) 14 (Cs [0,1,3,4,7,8,9,10] <| .must 2 <| .must 5 <| .calm 6 <| .must 11 <| Cs [12,13] <| .done) mixed (by kernel_rfl) ?_ | refine WC_draw_all (id := 6) 18 (Cs [0,1,2,5,6,9,10,13,14] <| .must 3 <| .calm 4 <| .must 7 <| .calm 8 <| .must 11 <| .calm 12 <| .must 15 <| Cs [16,17] <| .done) mixed (by kernel_rfl) ?_ | refine WC_region ?_)
  rename_i xb
  rw [uw]
  obtain ⟨pre, hpre⟩ : ∃ pre, pre = enc (zz c0) ++ enc (zz c1) ++ enc bins.length := ⟨_, rfl⟩
  rw [← hpre]
  have hprel : pre.length ≤ 30 := by
    rw [uw] at fn
    rw [hpre, List.length_append, List.length_append]; omega
  refine WC_meet (fun σ => σ = ⟨[(3, .string (bstr (pre ++ bins.flatMap (encs binF)))), (1, .pointer (some ⟨xb, 0, none⟩))], [], (xb, .cells cs 38 (0, 0)) :: L⟩) ?_ ?_
  · refine WC_block (WC_wk [(4, .int .i64 0), (3, .string (bstr pre)), (1, .pointer (some ⟨xb, 0, none⟩))] ⟨rfl, rfl, rfl, trivial⟩ ?_)
    refine WC_loop (fun m σ => ∃ (j : Nat) (acc : List UInt8), m = bins.length - j ∧ j ≤ bins.length ∧ acc = pre ++ (bins.take j).flatMap (encs binF) ∧ σ = ⟨[(4, .int .i64 (j : Nat)), (3, .string (bstr acc)), (1, .pointer (some ⟨xb, 0, none⟩))], [], (xb, .cells cs 38 (0, 0)) :: L⟩) bins.length ⟨0, pre, by omega, by omega, by simp, rfl⟩ ?_
    rintro m σ ⟨j, acc, rfl, hj, hacc, rfl⟩
    by_cases hlt : j < bins.length
    · have d1 : decide (((j : Nat) : Int) < ((bins.length : Nat) : Int)) = true := decide_eq_true (by omega)
      obtain ⟨vs, hvs⟩ : ∃ vs, bins[j]? = some vs := ⟨_, List.getElem?_eq_getElem hlt⟩
      rcases he with he | ⟨be, eo, ie, ec, EE, ef, rfl, hRe, hat⟩
      · rw [he] at hlt; simp at hlt
      obtain ⟨hle, _⟩ := hat j vs hvs
      obtain ⟨v, us, rfl, hx, q⟩ := (hb vs (List.mem_of_getElem? hvs)).split
      obtain rfl := q.nil
      obtain ⟨x, rfl, x0, x1⟩ := hx
      have i1 : ((j : Nat) : Int) < ((bins.length : Nat) : Int) := by omega
      have i0 : 0 ≤ ((j : Nat) : Int) := by omega
      have hXe : ((xb, Obj.cells cs 38 (0, 0)) :: L)[ie + 1]? = some (be, .cells ec EE ef) := hRe
      have hce : ec[eo + ((j : Nat) : Int).toNat * 1]? = some (.int .i64 x) := hle 0 _ rfl
      have hal : acc.length ≤ 30 + 10 * j := by
        have h1 := encn_len (es := binF) (vss := bins.take j) fun vs hv => hb vs (List.mem_of_mem_take hv)
        have h2 : (bins.take j).length = j := by rw [List.length_take]; omega
        rw [h2, show binF.length = 1 from rfl] at h1
        rw [hacc, List.length_append]; omega
      have fx := enc_len (zz_lt x0 x1)
      have hcat : acc.length + (enc (zz x)).length ≤ 4611686018427387904 := by omega
      have hw1 : IntKind.i64.wrap (((j : Nat) : Int) + 1) = ((j + 1 : Nat) : Int) := by rw [wI64 (by omega) (by omega)]; omega
      repeat (first | refine RQr ?_ | (refine OX ?_; (first | (refine OE ?_; try intro _) | refine OW_callP rfl (hF := Int_fn (by with_reducible assumption) (by with_reducible assumption)) (hk := ?_) | refine OW_callP rfl (hF := Num_fn' (by with_reducible assumption) (by with_reducible assumption)) (hk := ?_) | refine OW_callP rfl (hF := rW_fn (by with_reducible assumption) (by with_reducible assumption)) (hk := ?_)); try refine SD ?_) | refine RC ?_ | refine RU ?_ | refine WC_draw_all (id := 1) 14 (Cs [0,1,3,4,7,8,9,10] <| .must 2 <| .must 5 <| .calm 6 <| .must 11 <| Cs [12,13] <| .done) mixed (by kernel_rfl) ?_ | refine WC_draw_all (id := 6) 18 (Cs [0,1,2,5,6,9,10,13,14] <| .must 3 <| .calm 4 <| .must 7 <| .calm 8 <| .must 11 <| .calm 12 <| .must 15 <| Cs [16,17] <| .done) mixed (by kernel_rfl) ?_ | refine WC_region ?_)
      rw [hw1]
      refine ⟨_, _, by omega, ⟨j + 1, acc ++ enc (zz x), rfl, by omega, ?_, rfl⟩, ⟨rfl, rfl, rfl, trivial⟩, rfl, .refl _⟩
      rw [hacc, List.take_add_one, hvs, List.flatMap_append]
      simp [encs, Fk.enc]
    · have d1 : decide (((j : Nat) : Int) < ((bins.length : Nat) : Int)) = false := decide_eq_false (by omega)
      obtain rfl : j = bins.length := by omega
      rw [List.take_length] at hacc
      subst hacc
      repeat (first | refine RQr ?_ | (refine OX ?_; (first | (refine OE ?_; try intro _) | refine OW_callP rfl (hF := Int_fn (by with_reducible assumption) (by with_reducible assumption)) (hk := ?_) | refine OW_callP rfl (hF := Num_fn' (by with_reducible assumption) (by with_reducible assumption)) (hk := ?_) | refine OW_callP rfl (hF := rW_fn (by with_reducible assumption) (by with_reducible assumption)) (hk := ?_)); try refine SD ?_) | refine RC ?_ | refine RU ?_ | refine WC_draw_all (id := 1) 14 (Cs [0,1,3,4,7,8,9,10] <| .must 2 <| .must 5 <| .calm 6 <| .must 11 <| Cs [12,13] <| .done) mixed (by kernel_rfl) ?_ | refine WC_draw_all (id := 6) 18 (Cs [0,1,2,5,6,9,10,13,14] <| .must 3 <| .calm 4 <| .must 7 <| .calm 8 <| .must 11 <| .calm 12 <| .must 15 <| Cs [16,17] <| .done) mixed (by kernel_rfl) ?_ | refine WC_region ?_)
      exact ⟨_, rfl, ⟨rfl, rfl, trivial⟩, rfl, .refl _⟩
  rintro _ rfl
  have hbl : (pre ++ bins.flatMap (encs binF)).length ≤ 30 + 10 * bins.length := by
    have h1 := encn_len (es := binF) hb
    rw [show binF.length = 1 from rfl] at h1
    rw [List.length_append]; omega
  generalize hs : pre ++ bins.flatMap (encs binF) = s at hbl
  repeat (first | refine RQr ?_ | (refine OX ?_; (first | (refine OE ?_; try intro _) | refine OW_callP rfl (hF := Int_fn (by with_reducible assumption) (by with_reducible assumption)) (hk := ?_) | refine OW_callP rfl (hF := Num_fn' (by with_reducible assumption) (by with_reducible assumption)) (hk := ?_) | refine OW_callP rfl (hF := rW_fn (by with_reducible assumption) (by with_reducible assumption)) (hk := ?_) | refine OW_callP rfl (hF := rOp_fn hop hlop) (hk := ?_)); try refine SD ?_) | refine RC ?_ | refine RU ?_ | refine WC_draw_all (id := 1) 14 (Cs [0,1,3,4,7,8,9,10] <| .must 2 <| .must 5 <| .calm 6 <| .must 11 <| Cs [12,13] <| .done) mixed (by kernel_rfl) ?_ | refine WC_draw_all (id := 6) 18 (Cs [0,1,2,5,6,9,10,13,14] <| .must 3 <| .calm 4 <| .must 7 <| .calm 8 <| .must 11 <| .calm 12 <| .must 15 <| Cs [16,17] <| .done) mixed (by kernel_rfl) ?_ | refine WC_region ?_)
  refine ⟨rfl, _, _, Res1 rfl (resV_tmp rfl), .cons _ (.refl _), ?_, rfl⟩
  rw [← hs, hpre]
  simp [encCmd, encl, encs, Fk.enc]
theorem lies_size {cs : Array Value} {a : Nat} {vs : List Value} (h : Lies cs a vs) (hn : 0 < vs.length) : a + vs.length ≤ cs.size := by
  have := h (vs.length - 1) (vs[vs.length - 1]'(by omega)) (List.getElem?_eq_getElem (by omega))
  have := (Array.getElem?_eq_some_iff.1 this).1
  omega
set_option maxHeartbeats 4000000 in
theorem rChunk_fn {cs : Array Value} {L : List (Nat × Obj)} {a : Option Addr} {cap : Nat} {kh : List Value} {ents : List (List Value)} (hn : ents.length ≤ 1000000) (hkh : Oks khF kh) (hb : ∀ vs ∈ ents, Oks entryF vs) (hl : Lies cs 0 (kh ++ [.slice a ents.length cap])) (he : Elems L a 10 ents) :
    Fn Tryz.prog 83 [.agg cs] L (fun r L' => r = .string (bstr (encChunk kh ents)) ∧ L' = L) := by
  obtain ⟨v0, us0, rfl, h0, q0⟩ := hkh.split
  obtain ⟨v1, us1, rfl, h1, q1⟩ := q0.split
  obtain ⟨v2, us2, rfl, h2, q2⟩ := q1.split
  obtain rfl := q2.nil
  have f2 := enc_len_ok h2
  obtain ⟨c0, rfl, a0, b0⟩ := h0
  obtain ⟨c1, rfl, a1, b1⟩ := h1
  obtain ⟨c2, rfl⟩ := h2
  have f2' : (encB c2).length ≤ 10 := f2
  have f0 := enc_len (zz_lt a0 b0)
  have f1 := enc_len (zz_lt a1 b1)
  have uw : (IntKind.u64.wrap ((ents.length : Nat) : Int)).toNat = ents.length := by rw [wU64 (by omega) (by omega)]; omega
  have fn : (enc (IntKind.u64.wrap ((ents.length : Nat) : Int)).toNat).length ≤ 10 := by rw [uw]; exact enc_len (by omega)
  have g0 := lies0 hl (j := 0) rfl
  have g1 := lies0 hl (j := 1) rfl
  have g2 := lies0 hl (j := 2) rfl
  have g3 := lies0 hl (j := 3) rfl
  refine Fn_enter Tryz.func83 rfl Tryz.ntmps83 rfl fun g => ?_
  have u0 := u64_lo ((ents.length : Nat) : Int)
  have u1 := u64_hi ((ents.length : Nat) : Int)
  repeat (first | refine RQr ?_ | (refine OX ?_; (first | (refine OE ?_; try intro _) | refine OW_callP rfl (hF := Num_fn' (by with_reducible assumption) (by with_reducible assumption)) (hk := ?_) | refine OW_callP rfl (hF := Truth_fn) (hk := ?_) | refine OW_callP rfl (hF := rW_fn (by with_reducible assumption) (by with_reducible assumption)) (hk := ?_)); try refine SD ?_) | refine RC0 ?_ | refine RU ?_ | refine WC_block (id := 1) ?_ | refine WC_draw_all (id := 1) 18 (Cs [0,1,3,4,7,8,11,12,13,14] <| .must 2 <| .must 5 <| .calm 6 <| .must 9 <| .calm 10 <| .must 15 <| Cs [16,17] <| .done) mixed (by kernel_rfl) ?_ | refine WC_region ?_)
  clear u0 u1
  rename_i xb
  rw [uw]
  obtain ⟨pre, hpre⟩ : ∃ pre, pre = enc (zz c0) ++ enc (zz c1) ++ encB c2 ++ enc ents.length := ⟨_, rfl⟩
  rw [← hpre]
  have hprel : pre.length ≤ 40 := by
    rw [uw] at fn
    rw [hpre, List.length_append, List.length_append, List.length_append]; omega
  refine WC_meet (fun σ => σ = ⟨[(3, .string (bstr (pre ++ ents.flatMap (encs entryF)))), (1, .pointer (some ⟨xb, 0, none⟩))], [], (xb, .cells cs 41 (0, 0)) :: L⟩) ?_ ?_
  · refine WC_block (WC_wk [(4, .int .i64 0), (3, .string (bstr pre)), (1, .pointer (some ⟨xb, 0, none⟩))] ⟨rfl, rfl, rfl, trivial⟩ ?_)
    refine WC_loop (fun m σ => ∃ (j : Nat) (acc : List UInt8), m = ents.length - j ∧ j ≤ ents.length ∧ acc = pre ++ (ents.take j).flatMap (encs entryF) ∧ σ = ⟨[(4, .int .i64 (j : Nat)), (3, .string (bstr acc)), (1, .pointer (some ⟨xb, 0, none⟩))], [], (xb, .cells cs 41 (0, 0)) :: L⟩) ents.length ⟨0, pre, by omega, by omega, by simp, rfl⟩ ?_
    rintro m σ ⟨j, acc, rfl, hj, hacc, rfl⟩
    by_cases hlt : j < ents.length
    · have d1 : decide (((j : Nat) : Int) < ((ents.length : Nat) : Int)) = true := decide_eq_true (by omega)
      obtain ⟨vs, hvs⟩ : ∃ vs, ents[j]? = some vs := ⟨_, List.getElem?_eq_getElem hlt⟩
      rcases he with he | ⟨be, eo, ie, ec, EE, ef, rfl, hRe, hat⟩
      · rw [he] at hlt; simp at hlt
      obtain ⟨hle, _⟩ := hat j vs hvs
      have hov := hb vs (List.mem_of_getElem? hvs)
      have hvl := hov.len
      have hvl' : vs.length = 10 := hvl
      have hle' : Lies ec (eo + ((j : Nat) : Int).toNat * 10) vs := hle
      have hfit : eo + ((j : Nat) : Int).toNat * 10 + 10 ≤ ec.size := by have := lies_size hle' (by omega); rwa [hvl'] at this
      have hzE := size_extract hfit
      have hlE := lies_extract hle' (n := 10) (by omega)
      have i1 : ((j : Nat) : Int) < ((ents.length : Nat) : Int) := by omega
      have i0 : 0 ≤ ((j : Nat) : Int) := by omega
      have hXe : ((xb, Obj.cells cs 41 (0, 0)) :: L)[ie + 1]? = some (be, .cells ec EE ef) := hRe
      have hal : acc.length ≤ 40 + 100 * j := by
        have h1 := encn_len (es := entryF) (vss := ents.take j) fun vs hv => hb vs (List.mem_of_mem_take hv)
        have h2 : (ents.take j).length = j := by rw [List.length_take]; omega
        rw [h2, show entryF.length = 10 from rfl] at h1
        rw [hacc, List.length_append]; omega
      have fx := encs_len hov
      rw [show entryF.length = 10 from rfl] at fx
      have hcat : acc.length + (encs entryF vs).length ≤ 4611686018427387904 := by omega
      have hw1 : IntKind.i64.wrap (((j : Nat) : Int) + 1) = ((j + 1 : Nat) : Int) := by rw [wI64 (by omega) (by omega)]; omega
      repeat (first | refine RQr ?_ | (refine OX ?_; (first | (refine OE ?_; try intro _) | refine OW_callP rfl (hF := Num_fn' (by with_reducible assumption) (by with_reducible assumption)) (hk := ?_) | refine OW_callP rfl (hF := Truth_fn) (hk := ?_) | refine OW_callP rfl (hF := rW_fn (by with_reducible assumption) (by with_reducible assumption)) (hk := ?_) | refine OW_callP rfl (hF := rEntry_fn hzE hov hlE) (hk := ?_)); try refine SD ?_) | refine RC ?_ | refine RU ?_ | refine WC_draw_all (id := 1) 18 (Cs [0,1,3,4,7,8,11,12,13,14] <| .must 2 <| .must 5 <| .calm 6 <| .must 9 <| .calm 10 <| .must 15 <| Cs [16,17] <| .done) mixed (by kernel_rfl) ?_ | refine WC_region ?_)
      rw [hw1]
      refine ⟨_, _, by omega, ⟨j + 1, acc ++ encs entryF vs, rfl, by omega, ?_, rfl⟩, ⟨rfl, rfl, rfl, trivial⟩, rfl, .refl _⟩
      rw [hacc, List.take_add_one, hvs, List.flatMap_append]
      simp
    · have d1 : decide (((j : Nat) : Int) < ((ents.length : Nat) : Int)) = false := decide_eq_false (by omega)
      obtain rfl : j = ents.length := by omega
      rw [List.take_length] at hacc
      subst hacc
      repeat (first | refine RQr ?_ | (refine OX ?_; (first | (refine OE ?_; try intro _) | refine OW_callP rfl (hF := Num_fn' (by with_reducible assumption) (by with_reducible assumption)) (hk := ?_) | refine OW_callP rfl (hF := Truth_fn) (hk := ?_) | refine OW_callP rfl (hF := rW_fn (by with_reducible assumption) (by with_reducible assumption)) (hk := ?_) | refine OW_callP rfl (hF := rEntry_fn hzE hov hlE) (hk := ?_)); try refine SD ?_) | refine RC ?_ | refine RU ?_ | refine WC_draw_all (id := 1) 18 (Cs [0,1,3,4,7,8,11,12,13,14] <| .must 2 <| .must 5 <| .calm 6 <| .must 9 <| .calm 10 <| .must 15 <| Cs [16,17] <| .done) mixed (by kernel_rfl) ?_ | refine WC_region ?_)
      exact ⟨_, rfl, ⟨rfl, rfl, trivial⟩, rfl, .refl _⟩
  rintro _ rfl
  repeat (first | refine RQr ?_ | (refine OX ?_; (first | (refine OE ?_; try intro _) | refine OW_callP rfl (hF := Num_fn' (by with_reducible assumption) (by with_reducible assumption)) (hk := ?_) | refine OW_callP rfl (hF := Truth_fn) (hk := ?_) | refine OW_callP rfl (hF := rW_fn (by with_reducible assumption) (by with_reducible assumption)) (hk := ?_) | refine OW_callP rfl (hF := rEntry_fn hzE hov hlE) (hk := ?_)); try refine SD ?_) | refine RC ?_ | refine RU ?_ | refine WC_draw_all (id := 1) 18 (Cs [0,1,3,4,7,8,11,12,13,14] <| .must 2 <| .must 5 <| .calm 6 <| .must 9 <| .calm 10 <| .must 15 <| Cs [16,17] <| .done) mixed (by kernel_rfl) ?_ | refine WC_region ?_)
  refine ⟨rfl, _, _, Res1 rfl (resV_tmp rfl), .cons _ (.refl _), ?_, rfl⟩
  rw [hpre]
  simp [encChunk, encl, encs, Fk.enc]
set_option maxHeartbeats 4000000 in
theorem rMsg_fn {cs : Array Value} {L : List (Nat × Obj)} {a : Option Addr} {cap : Nat} {a' : Option Addr} {cap' : Nat} {m : MV} (hz : cs.size = 24) (hm : m.Ok) (hn : m.bins.length ≤ 1000000) (hn' : m.ents.length ≤ 1000000) (hl : Lies cs 0 (m.cells a cap a' cap')) (he : Elems L a 1 m.bins) (he' : Elems L a' 10 m.ents) :
    Fn Tryz.prog 79 [.agg cs] L (fun r L' => r = .string (bstr m.enc) ∧ L' = L) := by
  obtain ⟨g0, g1, g2, g3, g4, g5, g6⟩ := MV.cells_at hm hl
  simp only [Nat.zero_add] at g0 g1 g2 g3 g4 g5 g6
  obtain ⟨a0, b0⟩ := hm.kind
  obtain ⟨a1, b1⟩ := hm.ver
  obtain ⟨a2, b2⟩ := hm.time
  obtain ⟨a3, b3⟩ := hm.num
  have f0 := enc_len (zz_lt a0 b0)
  have f1 := enc_len (zz_lt a1 b1)
  have f2 := enc_len (zz_lt a2 b2)
  have f3 := enc_len (zz_lt a3 b3)
  have l1 := hm.rc.len
  have l2 := hm.ch.len
  have l3 := hm.ct.len
  have l4 := hm.kh.len
  simp only [List.length_cons, List.length_nil] at l1 l2 l3 l4
  have s2 : Lies (cs.extract 2 (2 + 6)) 0 m.rc := lies_extract g2 (by omega)
  have s5 : Lies (cs.extract 10 (10 + 10)) 0 (m.ch ++ (.slice a m.bins.length cap :: m.ct)) := lies_extract g5 (by simp only [List.length_append, List.length_cons]; omega)
  have s6 : Lies (cs.extract 20 (20 + 4)) 0 (m.kh ++ [.slice a' m.ents.length cap']) := lies_extract g6 (by simp only [List.length_append, List.length_cons, List.length_nil]; omega)
  have z5 : (cs.extract 10 (10 + 10)).size = 10 := size_extract (by omega)
  have hrc := hm.rc
  have hch := hm.ch
  have hct := hm.ct
  have hkh := hm.kh
  have hbi := hm.bins
  have hen := hm.ents
  have e2 := encs_len hrc
  simp only [List.length_cons, List.length_nil] at e2
  have e5 : (encCmd m.ch m.bins m.ct).length ≤ 200 + 10 * m.bins.length := by
    have h1 := encs_len hch
    have h2 := encl_len hbi hn
    have h3 := encs_len hct
    rw [show binF.length = 1 from rfl] at h2
    simp only [List.length_cons, List.length_nil] at h1 h3
    unfold encCmd
    rw [List.length_append, List.length_append]; omega
  have e6 : (encChunk m.kh m.ents).length ≤ 200 + 100 * m.ents.length := by
    have h1 := encs_len hkh
    have h2 := encl_len hen hn'
    rw [show entryF.length = 10 from rfl] at h2
    simp only [List.length_cons, List.length_nil] at h1
    unfold encChunk
    rw [List.length_append]; omega
  have he1 := fun q : Nat × Obj => he.mem (R' := q :: L) fun q' hq => List.mem_cons_of_mem _ hq
  have he2 := fun q : Nat × Obj => he'.mem (R' := q :: L) fun q' hq => List.mem_cons_of_mem _ hq
  refine Fn_enter Tryz.func79 rfl Tryz.ntmps79 rfl fun g => ?_
  by_cases hk : m.kind = 0
  · have hkk := hk
    have d0 : (m.kind == 0) = true := by simpa using hk
    repeat (first | refine RQr ?_ | (refine OX ?_; (first | (refine OE ?_; try intro _) | refine OW_callP rfl (hF := Int_fn (by with_reducible assumption) (by with_reducible assumption)) (hk := ?_) | refine OW_callP rfl (hF := rW_fn (by with_reducible assumption) (by with_reducible assumption)) (hk := ?_) | refine OW_callP rfl (hF := rRec_fn hrc s2) (hk := ?_) | refine OW_callP rfl (hF := rCmd_fn z5 hn hch hct hbi s5 (he1 _)) (hk := ?_) | refine OW_callP rfl (hF := rChunk_fn hn' hkh hen s6 (he2 _)) (hk := ?_)); try refine SD ?_) | refine RC ?_ | refine RU ?_ | refine WC_draw_all (id := 1) 8 (Cs [0,1,3,4] <| .must 2 <| .must 5 <| Cs [6,7] <| .done) mixed (by kernel_rfl) ?_ | refine WC_region ?_)
    refine ⟨rfl, _, _, Res1 rfl (resV_tmp rfl), .cons _ (.refl _), ?_, rfl⟩
    unfold MV.enc MV.body
    rw [if_pos hk, List.append_assoc]
  by_cases hk : m.kind = 1
  · have hkk := hk
    have d0 : (m.kind == 0) = false := by simpa using (show ¬ m.kind = 0 by omega)
    have d1 : (m.kind == 1) = true := by simpa using hk
    repeat (first | refine RQr ?_ | (refine OX ?_; (first | (refine OE ?_; try intro _) | refine OW_callP rfl (hF := Int_fn (by with_reducible assumption) (by with_reducible assumption)) (hk := ?_) | refine OW_callP rfl (hF := rW_fn (by with_reducible assumption) (by with_reducible assumption)) (hk := ?_) | refine OW_callP rfl (hF := rRec_fn hrc s2) (hk := ?_) | refine OW_callP rfl (hF := rCmd_fn z5 hn hch hct hbi s5 (he1 _)) (hk := ?_) | refine OW_callP rfl (hF := rChunk_fn hn' hkh hen s6 (he2 _)) (hk := ?_)); try refine SD ?_) | refine RC ?_ | refine RU ?_ | refine WC_draw_all (id := 1) 8 (Cs [0,1,3,4] <| .must 2 <| .must 5 <| Cs [6,7] <| .done) mixed (by kernel_rfl) ?_ | refine WC_region ?_)
    refine ⟨rfl, _, _, Res1 rfl (resV_tmp rfl), .cons _ (.refl _), ?_, rfl⟩
    unfold MV.enc MV.body
    rw [if_neg (by omega), if_pos hk, List.append_assoc]
  by_cases hk : m.kind = 2
  · have hkk := hk
    have d0 : (m.kind == 0) = false := by simpa using (show ¬ m.kind = 0 by omega)
    have d1 : (m.kind == 1) = false := by simpa using (show ¬ m.kind = 1 by omega)
    have d2 : (m.kind == 2) = true := by simpa using hk
    repeat (first | refine RQr ?_ | (refine OX ?_; (first | (refine OE ?_; try intro _) | refine OW_callP rfl (hF := Int_fn (by with_reducible assumption) (by with_reducible assumption)) (hk := ?_) | refine OW_callP rfl (hF := rW_fn (by with_reducible assumption) (by with_reducible assumption)) (hk := ?_) | refine OW_callP rfl (hF := rRec_fn hrc s2) (hk := ?_) | refine OW_callP rfl (hF := rCmd_fn z5 hn hch hct hbi s5 (he1 _)) (hk := ?_) | refine OW_callP rfl (hF := rChunk_fn hn' hkh hen s6 (he2 _)) (hk := ?_)); try refine SD ?_) | refine RC ?_ | refine RU ?_ | refine WC_draw_all (id := 1) 8 (Cs [0,1,3,4] <| .must 2 <| .must 5 <| Cs [6,7] <| .done) mixed (by kernel_rfl) ?_ | refine WC_region ?_)
    refine ⟨rfl, _, _, Res1 rfl (resV_tmp rfl), .cons _ (.refl _), ?_, rfl⟩
    unfold MV.enc MV.body
    rw [if_neg (by omega), if_neg (by omega), if_pos hk, List.append_assoc]
  by_cases hk : m.kind = 3
  · have hkk := hk
    have d0 : (m.kind == 0) = false := by simpa using (show ¬ m.kind = 0 by omega)
    have d1 : (m.kind == 1) = false := by simpa using (show ¬ m.kind = 1 by omega)
    have d2 : (m.kind == 2) = false := by simpa using (show ¬ m.kind = 2 by omega)
    have d3 : (m.kind == 3) = true := by simpa using hk
    repeat (first | refine RQr ?_ | (refine OX ?_; (first | (refine OE ?_; try intro _) | refine OW_callP rfl (hF := Int_fn (by with_reducible assumption) (by with_reducible assumption)) (hk := ?_) | refine OW_callP rfl (hF := rW_fn (by with_reducible assumption) (by with_reducible assumption)) (hk := ?_) | refine OW_callP rfl (hF := rRec_fn hrc s2) (hk := ?_) | refine OW_callP rfl (hF := rCmd_fn z5 hn hch hct hbi s5 (he1 _)) (hk := ?_) | refine OW_callP rfl (hF := rChunk_fn hn' hkh hen s6 (he2 _)) (hk := ?_)); try refine SD ?_) | refine RC ?_ | refine RU ?_ | refine WC_draw_all (id := 1) 8 (Cs [0,1,3,4] <| .must 2 <| .must 5 <| Cs [6,7] <| .done) mixed (by kernel_rfl) ?_ | refine WC_region ?_)
    refine ⟨rfl, _, _, Res1 rfl (resV_tmp rfl), .cons _ (.refl _), ?_, rfl⟩
    unfold MV.enc MV.body
    rw [if_neg (by omega), if_neg (by omega), if_neg (by omega), if_pos hk, List.append_assoc]
  by_cases hk : m.kind = 4
  · have hkk := hk
    have d0 : (m.kind == 0) = false := by simpa using (show ¬ m.kind = 0 by omega)
    have d1 : (m.kind == 1) = false := by simpa using (show ¬ m.kind = 1 by omega)
    have d2 : (m.kind == 2) = false := by simpa using (show ¬ m.kind = 2 by omega)
    have d3 : (m.kind == 3) = false := by simpa using (show ¬ m.kind = 3 by omega)
    have d4 : (m.kind == 4) = true := by simpa using hk
    repeat (first | refine RQr ?_ | (refine OX ?_; (first | (refine OE ?_; try intro _) | refine OW_callP rfl (hF := Int_fn (by with_reducible assumption) (by with_reducible assumption)) (hk := ?_) | refine OW_callP rfl (hF := rW_fn (by with_reducible assumption) (by with_reducible assumption)) (hk := ?_) | refine OW_callP rfl (hF := rRec_fn hrc s2) (hk := ?_) | refine OW_callP rfl (hF := rCmd_fn z5 hn hch hct hbi s5 (he1 _)) (hk := ?_) | refine OW_callP rfl (hF := rChunk_fn hn' hkh hen s6 (he2 _)) (hk := ?_)); try refine SD ?_) | refine RC ?_ | refine RU ?_ | refine WC_draw_all (id := 1) 8 (Cs [0,1,3,4] <| .must 2 <| .must 5 <| Cs [6,7] <| .done) mixed (by kernel_rfl) ?_ | refine WC_region ?_)
    refine ⟨rfl, _, _, Res1 rfl (resV_tmp rfl), .cons _ (.refl _), ?_, rfl⟩
    unfold MV.enc MV.body
    rw [if_neg (by omega), if_neg (by omega), if_neg (by omega), if_neg (by omega), if_pos hk, List.append_assoc]
  have d0 : (m.kind == 0) = false := by simpa using (show ¬ m.kind = 0 by omega)
  have d1 : (m.kind == 1) = false := by simpa using (show ¬ m.kind = 1 by omega)
  have d2 : (m.kind == 2) = false := by simpa using (show ¬ m.kind = 2 by omega)
  have d3 : (m.kind == 3) = false := by simpa using (show ¬ m.kind = 3 by omega)
  have d4 : (m.kind == 4) = false := by simpa using (show ¬ m.kind = 4 by omega)
  repeat (first | refine RQr ?_ | (refine OX ?_; (first | (refine OE ?_; try intro _) | refine OW_callP rfl (hF := Int_fn (by with_reducible assumption) (by with_reducible assumption)) (hk := ?_) | refine OW_callP rfl (hF := rW_fn (by with_reducible assumption) (by with_reducible assumption)) (hk := ?_) | refine OW_callP rfl (hF := rRec_fn hrc s2) (hk := ?_) | refine OW_callP rfl (hF := rCmd_fn z5 hn hch hct hbi s5 (he1 _)) (hk := ?_) | refine OW_callP rfl (hF := rChunk_fn hn' hkh hen s6 (he2 _)) (hk := ?_)); try refine SD ?_) | refine RC ?_ | refine RU ?_ | refine WC_draw_all (id := 1) 8 (Cs [0,1,3,4] <| .must 2 <| .must 5 <| Cs [6,7] <| .done) mixed (by kernel_rfl) ?_ | refine WC_region ?_)
  refine ⟨rfl, _, _, Res1 rfl (resV_tmp rfl), .cons _ (.refl _), ?_, rfl⟩
  unfold MV.enc MV.body
  rw [if_neg (by omega), if_neg (by omega), if_neg (by omega), if_neg (by omega), if_neg (by omega), List.append_nil]
end Go.Proofs.YtdiaogcogkapgaaGreatDoor
namespace Go.Proofs.YtdiaogcogkapgaaGreatDoor
open Go.RowKit
attribute [local irreducible] Fn WC WL WR OW Qt YieldFn QW FnP FnD FnE
theorem WC_draw_fast {c : Cx} {ops : Array Oper} {K : Exit → St → Prop} {σ : St} {id : Nat} (m : Nat) (p : Plan) (hm : c.P.follows .mixedOrders = true) (hok : (Region.noSelect ops && lateOk ops m && fastOk ops m p) = true) (h : WR c ops K σ.L m p σ) : WC c (.region id ops true) K σ := by
  simp only [Bool.and_eq_true] at hok
  exact WC_draw_all m p hm (by simp only [Bool.and_eq_true]; exact ⟨hok.1, fastOk_ok hok.2⟩) h
theorem ok_one {k : Fk} {v : Value} (h : k.ok v) : v.oneCell' = true := by
  cases k with
  | ww => obtain ⟨x, rfl, _⟩ := h; rfl
  | nn => obtain ⟨x, rfl, _⟩ := h; rfl
  | kk => obtain ⟨x, rfl, _⟩ := h; rfl
  | tt => obtain ⟨x, rfl⟩ := h; rfl
  | bb => obtain ⟨x, rfl⟩ := h; rfl
theorem oks_one : ∀ {fs : List Fk} {vs : List Value}, Oks fs vs → ∀ v ∈ vs, v.oneCell' = true
  | [], [], _, v, hv => by cases hv
  | _ :: _, _ :: _, h, v, hv => by
    rcases List.mem_cons.1 hv with rfl | hv
    · exact ok_one h.1
    · exact oks_one h.2 v hv
  | [], _ :: _, h, _, _ => h.elim
  | _ :: _, [], h, _, _ => h.elim
theorem lies_whole {cs : Array Value} {vs : List Value} (hl : Lies cs 0 vs) (hz : cs.size = vs.length) : cs = vs.toArray := by
  apply Array.ext_getElem?
  intro j
  by_cases h : j < vs.length
  · have := hl j _ (List.getElem?_eq_getElem h)
    rw [Nat.zero_add] at this
    rw [this]; simp [h]
  · rw [Array.getElem?_eq_none (by omega), Array.getElem?_eq_none (by simp; omega)]
theorem lies_app {cs : Array Value} {off : Nat} {vs us : List Value} (h1 : Lies cs off vs) (h2 : Lies cs (off + vs.length) us) : Lies cs off (vs ++ us) := fun j v hj => by
  by_cases h : j < vs.length
  · rw [List.getElem?_append_left h] at hj; exact h1 j v hj
  · rw [List.getElem?_append_right (by omega)] at hj
    have := h2 _ v hj
    rwa [show off + vs.length + (j - vs.length) = off + j by omega] at this
theorem lies_set_out {cs : Array Value} {a p : Nat} {vs : List Value} (h : Lies cs a vs) (v : Value) (hp : p < a ∨ a + vs.length ≤ p) : Lies (cs.setIfInBounds p v) a vs := fun j u hj => by
  have := (List.getElem?_eq_some_iff.1 hj).1
  rw [Array.getElem?_setIfInBounds_ne (by omega)]
  exact h j u hj
theorem lies_set_in {cs : Array Value} {a p : Nat} {us ws : List Value} {v : Value} (h : Lies cs a (us ++ v :: ws)) (v' : Value) (hp : p = a + us.length) : Lies (cs.setIfInBounds p v') a (us ++ v' :: ws) := fun j u hj => by
  subst hp
  by_cases e : j = us.length
  · subst e
    rw [List.getElem?_append_right (by omega), Nat.sub_self] at hj
    simp only [List.getElem?_cons_zero, Option.some.injEq] at hj
    subst hj
    have h1 := h us.length v (by rw [List.getElem?_append_right (by omega), Nat.sub_self]; rfl)
    rw [Array.getElem?_setIfInBounds_self_of_lt (Array.getElem?_eq_some_iff.1 h1).1]
  · rw [Array.getElem?_setIfInBounds_ne (by omega)]
    refine h j u ?_
    by_cases hlt : j < us.length
    · rwa [List.getElem?_append_left hlt] at hj ⊢
    · rw [List.getElem?_append_right (by omega)] at hj ⊢
      obtain ⟨q, hq⟩ : ∃ q, j - us.length = q + 1 := ⟨j - us.length - 1, by omega⟩
      rw [hq] at hj ⊢
      simpa using hj
theorem MV.cells_len {m : MV} (h : m.Ok) (a : Option Addr) (cap : Nat) (a' : Option Addr) (cap' : Nat) : (m.cells a cap a' cap').length = 24 := by
  have l1 := h.rc.len
  have l2 := h.ch.len
  have l3 := h.ct.len
  have l4 := h.kh.len
  simp only [List.length_cons, List.length_nil] at l1 l2 l3 l4
  unfold MV.cells
  simp only [List.length_append, List.length_cons, List.length_nil]
  omega
theorem MV.cells_mk {m : MV} (h : m.Ok) {cs : Array Value} {a : Option Addr} {cap : Nat} {a' : Option Addr} {cap' : Nat} (g0 : cs[0]? = some (.int .i64 m.kind)) (g1 : cs[1]? = some (.int .i64 m.ver)) (g2 : Lies cs 2 m.rc) (g3 : cs[8]? = some (.int .i64 m.time)) (g4 : cs[9]? = some (.int .i64 m.num)) (g5 : Lies cs 10 (m.ch ++ (.slice a m.bins.length cap :: m.ct))) (g6 : Lies cs 20 (m.kh ++ [.slice a' m.ents.length cap'])) : Lies cs 0 (m.cells a cap a' cap') := by
  have l1 := h.rc.len
  have l2 := h.ch.len
  have l3 := h.ct.len
  simp only [List.length_cons, List.length_nil] at l1 l2 l3
  have two : ∀ {off : Nat} {u v : Value}, cs[off]? = some u → cs[off + 1]? = some v → Lies cs off [u, v] := fun h1 h2 => lies_app (one_lies h1) (one_lies h2)
  refine lies_app (two g0 g1) (lies_app g2 (lies_app ?_ (lies_app ?_ ?_)))
  · simp only [List.length_cons, List.length_nil, l1]; exact two g3 g4
  · simp only [List.length_cons, List.length_nil, l1]; exact g5
  · simp only [List.length_append, List.length_cons, List.length_nil, l1, l2, l3]; exact g6
theorem MV.all_one {m : MV} (h : m.Ok) {cs : Array Value} {a : Option Addr} {cap : Nat} {a' : Option Addr} {cap' : Nat} (hz : cs.size = 24) (hl : Lies cs 0 (m.cells a cap a' cap')) : (cs.toList.all fun v => v.oneCell') = true := by
  rw [lies_whole hl (by rw [MV.cells_len h]; exact hz), List.all_eq_true]
  intro v hv
  have hv : v ∈ m.cells a cap a' cap' := by simpa using hv
  unfold MV.cells at hv
  simp only [List.mem_append, List.mem_cons, List.not_mem_nil, or_false] at hv
  rcases hv with (rfl | rfl) | hv | (rfl | rfl) | (hv | rfl | hv) | hv | rfl
  · rfl
  · rfl
  · exact oks_one h.rc v hv
  · rfl
  · rfl
  · exact oks_one h.ch v hv
  · rfl
  · exact oks_one h.ct v hv
  · exact oks_one h.kh v hv
  · rfl
def MV.few (m : MV) (n n' : Nat) : MV := { m with bins := m.bins.take n, ents := m.ents.take n' }
theorem MV.few_ok {m : MV} (h : m.Ok) (n n' : Nat) : (m.few n n').Ok := ⟨h.kind, h.ver, h.rc, h.time, h.num, h.ch, fun vs hv => h.bins vs (List.mem_of_mem_take hv), h.ct, h.kh, fun vs hv => h.ents vs (List.mem_of_mem_take hv)⟩
theorem Elems.take {R : List (Nat × Obj)} {a : Option Addr} {n : Nat} {vss : List (List Value)} (h : Elems R a n vss) (k : Nat) : Elems R a n (vss.take k) := by
  rcases h with h | ⟨be, eo, ie, ec, EE, ef, h1, h2, h3⟩
  · left; rw [h]; simp
  · refine .inr ⟨be, eo, ie, ec, EE, ef, h1, h2, fun j vs hj => h3 j vs ?_⟩
    rw [List.getElem?_take] at hj
    split at hj
    · exact hj
    · cases hj
theorem Elems.cons {R : List (Nat × Obj)} {a : Option Addr} {n : Nat} {vss : List (List Value)} (p : Nat × Obj) (h : Elems R a n vss) : Elems (p :: R) a n vss := h.mem fun _ hq => List.mem_cons_of_mem _ hq
structure MsgAt (L : List (Nat × Obj)) (cs : Array Value) (m : MV) (a : Option Addr) (cap : Nat) (a' : Option Addr) (cap' : Nat) : Prop where
  ok : m.Ok
  size : cs.size = 24
  lies : Lies cs 0 (m.cells a cap a' cap')
  bins : Elems L a 1 m.bins
  ents : Elems L a' 10 m.ents
  c1 : m.bins.length ≤ cap
  c2 : m.ents.length ≤ cap'
  m1 : cap ≤ maxLen
  m2 : cap' ≤ maxLen
theorem MsgAt.cons {L : List (Nat × Obj)} {cs : Array Value} {m : MV} {a : Option Addr} {cap : Nat} {a' : Option Addr} {cap' : Nat} (p : Nat × Obj) (h : MsgAt L cs m a cap a' cap') : MsgAt (p :: L) cs m a cap a' cap' := ⟨h.ok, h.size, h.lies, h.bins.cons p, h.ents.cons p, h.c1, h.c2, h.m1, h.m2⟩
theorem min_take {α : Type} (l : List α) {n : Int} (h : 0 ≤ n) : (if n < ((l.length : Nat) : Int) then n else ((l.length : Nat) : Int)).toNat = (l.take n.toNat).length := by
  rw [List.length_take]; split <;> omega
theorem MsgAt.few {L : List (Nat × Obj)} {cs : Array Value} {m : MV} {a : Option Addr} {cap : Nat} {a' : Option Addr} {cap' : Nat} (h : MsgAt L cs m a cap a' cap') (n n' : Nat) : MsgAt L ((cs.setIfInBounds 12 (.slice a (m.bins.take n).length cap)).setIfInBounds 23 (.slice a' (m.ents.take n').length cap')) (m.few n n') a cap a' cap' := by
  obtain ⟨g0, g1, g2, g3, g4, g5, g6⟩ := MV.cells_at h.ok h.lies
  simp only [Nat.zero_add] at g0 g1 g2 g3 g4 g5 g6
  have l1 := h.ok.rc.len
  have l2 := h.ok.ch.len
  have l3 := h.ok.ct.len
  have l4 := h.ok.kh.len
  simp only [List.length_cons, List.length_nil] at l1 l2 l3 l4
  have hz := h.size
  have one : ∀ {j : Nat} {v : Value} (u w : Value), cs[j]? = some v → j ≠ 12 → j ≠ 23 → ((cs.setIfInBounds 12 u).setIfInBounds 23 w)[j]? = some v := fun u w hj h1 h2 => by
    rw [Array.getElem?_setIfInBounds_ne (by omega), Array.getElem?_setIfInBounds_ne (by omega)]; exact hj
  refine ⟨MV.few_ok h.ok n n', by simpa using hz, MV.cells_mk (MV.few_ok h.ok n n') (one _ _ g0 (by omega) (by omega)) (one _ _ g1 (by omega) (by omega)) (lies_set_out (lies_set_out g2 _ (.inr ?_)) _ (.inr ?_)) (one _ _ g3 (by omega) (by omega)) (one _ _ g4 (by omega) (by omega)) (lies_set_out (lies_set_in g5 _ ?_) _ (.inr ?_)) (lies_set_in (lies_set_out g6 _ (.inl (by omega))) _ ?_), h.bins.take n, h.ents.take n', ?_, ?_, h.m1, h.m2⟩
  · omega
  · omega
  · omega
  · simp only [List.length_append, List.length_cons]; omega
  · omega
  · show (m.bins.take n).length ≤ cap
    rw [List.length_take]; have := h.c1; omega
  · show (m.ents.take n').length ≤ cap'
    rw [List.length_take]; have := h.c2; omega
theorem PMsg_at {L : List (Nat × Obj)} {v : Value} {bs : List UInt8} {cs : Array Value} {m : MV} {a : Option Addr} {cap : Nat} {a' : Option Addr} {cap' : Nat} (h : MsgAt L cs m a cap a' cap') (hb : ByAt L v bs) (hn : m.bins.length ≤ 1000000) (hn' : m.ents.length ≤ 100000) (hroom : bs.length ≤ 900000000) : Fn Tryz.prog 55 [v, .agg cs] L (fun r L' => LaidAt r L L' (bs ++ m.enc)) :=
  PMsg_fn hb h.size h.ok hn hn' h.lies h.bins h.ents hroom
theorem rMsg_at {L : List (Nat × Obj)} {cs : Array Value} {m : MV} {a : Option Addr} {cap : Nat} {a' : Option Addr} {cap' : Nat} (h : MsgAt L cs m a cap a' cap') (hn : m.bins.length ≤ 1000000) (hn' : m.ents.length ≤ 1000000) : Fn Tryz.prog 79 [.agg cs] L (fun r L' => r = .string (bstr m.enc) ∧ L' = L) :=
  rMsg_fn h.size h.ok hn hn' h.lies h.bins h.ents
theorem MV.enc_len {m : MV} (hm : m.Ok) (hn : m.bins.length ≤ 100000) (hn' : m.ents.length ≤ 100000) : m.enc.length ≤ 100000000 := by
  have f0 := Go.Proofs.YtdiaogcogkapgaaGreatDoor.enc_len (zz_lt hm.kind.1 hm.kind.2)
  have f1 := Go.Proofs.YtdiaogcogkapgaaGreatDoor.enc_len (zz_lt hm.ver.1 hm.ver.2)
  have f2 := Go.Proofs.YtdiaogcogkapgaaGreatDoor.enc_len (zz_lt hm.time.1 hm.time.2)
  have f3 := Go.Proofs.YtdiaogcogkapgaaGreatDoor.enc_len (zz_lt hm.num.1 hm.num.2)
  have e2 := encs_len hm.rc
  have h1 := encs_len hm.ch
  have h2 := encl_len hm.bins (by omega)
  have h3 := encs_len hm.ct
  have h4 := encs_len hm.kh
  have h5 := encl_len hm.ents (by omega)
  rw [show binF.length = 1 from rfl] at h2
  rw [show entryF.length = 10 from rfl] at h5
  simp only [List.length_cons, List.length_nil] at e2 h1 h3 h4
  have hb : m.body.length ≤ 50000000 := by
    unfold MV.body
    split
    · omega
    · split
      · omega
      · split
        · omega
        · split
          · unfold encCmd; rw [List.length_append, List.length_append]; omega
          · split
            · unfold encChunk; rw [List.length_append]; omega
            · simp
  unfold MV.enc
  rw [List.length_append, List.length_append]; omega
end Go.Proofs.YtdiaogcogkapgaaGreatDoor
namespace Go.Proofs.YtdiaogcogkapgaaGreatDoor
open Go.RowKit
attribute [local irreducible] Fn WC WL WR OW Qt YieldFn QW FnP FnD FnE
structure GV where
  life : Int
  chan : Int
  ack : Bool
  seq : Int
  room : Int
  m : MV
def GV.cells (g : GV) (a : Option Addr) (cap : Nat) (a' : Option Addr) (cap' : Nat) : List Value := [.int .i64 g.life, .int .i64 g.chan, .bool g.ack, .int .u64 g.seq, .int .i64 g.room] ++ g.m.cells a cap a' cap'
structure GV.Ok (g : GV) : Prop where
  life : i64r g.life
  chan : i64r g.chan
  s0 : 0 ≤ g.seq
  s1 : g.seq < 18446744073709551616
  room : i64r g.room
  m : g.m.Ok
structure GramAt (L : List (Nat × Obj)) (gs : Array Value) (g : GV) (a : Option Addr) (cap : Nat) (a' : Option Addr) (cap' : Nat) : Prop extends GV.Ok g where
  lit : gs = (g.cells a cap a' cap').toArray
  bins : Elems L a 1 g.m.bins
  ents : Elems L a' 10 g.m.ents
  c1 : g.m.bins.length ≤ cap
  c2 : g.m.ents.length ≤ cap'
  m1 : cap ≤ maxLen
  m2 : cap' ≤ maxLen
theorem GramAt.mem {L L' : List (Nat × Obj)} {gs : Array Value} {g : GV} {a : Option Addr} {cap : Nat} {a' : Option Addr} {cap' : Nat} (h : GramAt L gs g a cap a' cap') (hs : ∀ q ∈ L, q ∈ L') : GramAt L' gs g a cap a' cap' := ⟨h.toOk, h.lit, h.bins.mem hs, h.ents.mem hs, h.c1, h.c2, h.m1, h.m2⟩
theorem GramAt.cons {L : List (Nat × Obj)} {gs : Array Value} {g : GV} {a : Option Addr} {cap : Nat} {a' : Option Addr} {cap' : Nat} (p : Nat × Obj) (h : GramAt L gs g a cap a' cap') : GramAt (p :: L) gs g a cap a' cap' := h.mem fun _ hq => List.mem_cons_of_mem _ hq
theorem GramAt.msg {L : List (Nat × Obj)} {gs : Array Value} {g : GV} {a : Option Addr} {cap : Nat} {a' : Option Addr} {cap' : Nat} (h : GramAt L gs g a cap a' cap') : MsgAt L (g.m.cells a cap a' cap').toArray g.m a cap a' cap' := ⟨h.m, MV.cells_len h.m _ _ _ _, (fun j v h => by rw [Nat.zero_add, List.getElem?_toArray]; exact h), h.bins, h.ents, h.c1, h.c2, h.m1, h.m2⟩
theorem GramAt.one {L : List (Nat × Obj)} {gs : Array Value} {g : GV} {a : Option Addr} {cap : Nat} {a' : Option Addr} {cap' : Nat} (h : GramAt L gs g a cap a' cap') : (gs.toList.all fun v => v.oneCell') = true := by
  have h2 := MV.all_one h.m h.msg.size h.msg.lies
  rw [h.lit]
  show (([_, _, _, _, _] ++ g.m.cells a cap a' cap').all _) = true
  rw [List.all_append]
  have : ((g.m.cells a cap a' cap').all fun v => v.oneCell') = true := h2
  rw [this]; rfl
theorem GramAt.size {L : List (Nat × Obj)} {gs : Array Value} {g : GV} {a : Option Addr} {cap : Nat} {a' : Option Addr} {cap' : Nat} (h : GramAt L gs g a cap a' cap') : gs.size = 29 := by
  rw [h.lit]
  show ([_, _, _, _, _] ++ g.m.cells a cap a' cap').length = 29
  rw [List.length_append, MV.cells_len h.m]; rfl
theorem em_eq {x n : Int} (h0 : 0 < n) (h1 : n ≤ 1000000) : (IntKind.i64.wrap (x.tmod n + n)).tmod n = x % n := by
  have l1 := Int.tmod_lt_of_pos x h0
  have l2 : -n < x.tmod n := by
    have := Int.tmod_lt_of_pos (-x) h0
    rw [Int.neg_tmod] at this; omega
  rw [wI64 (by omega) (by omega), Int.tmod_eq_emod_of_nonneg (by omega), Int.add_emod_right]
  have e : x = x.tmod n + n * x.tdiv n := (Int.tmod_add_mul_tdiv x n).symm
  conv => rhs; rw [e, Int.add_mul_emod_self_left]
end Go.Proofs.YtdiaogcogkapgaaGreatDoor
namespace Go.Proofs.YtdiaogcogkapgaaGreatDoor
open Go.RowKit
attribute [local irreducible] Fn WC WL WR OW Qt YieldFn QW FnP FnD FnE
instance : TBuildA Tryz.prog 130 zc130 3 := ⟨fun _ => by kernel_rfl⟩
def inB (n most : Int) : Bool := decide (0 ≤ n) && decide (n ≤ most)
def GV.head (g : GV) : List UInt8 := ((enc g.life.toNat ++ enc g.chan.toNat) ++ encB g.ack) ++ enc g.seq.toNat
def GV.many (g : GV) : Bool := (g.m.kind == 3 && decide (8 < g.m.bins.length)) || (g.m.kind == 4 && decide (64 < g.m.ents.length))
def GV.put (g : GV) : List UInt8 × Nat :=
  if inB g.life 65535 = false then ([], 2) else if inB g.chan 99 = false then ([], 2) else if (g.ack && !inB g.room 16) = true then ([], 2)
  else if g.ack = true then (g.head ++ enc g.room.toNat, 0) else if inB g.m.kind 4 = false then ([], 6) else if g.many = true then ([], 4) else (g.head ++ g.m.enc, 0)
theorem right_fn {n most : Int} {c : Bool} {L : List (Nat × Obj)} : Fn Tryz.prog 52 [.agg #[.int .i64 n, .int .i64 most, .bool c]] L (fun v L' => v = .bool (!c || inB n most) ∧ L' = L) := by
  refine Fn_enter Tryz.func52 rfl Tryz.ntmps52 rfl fun g => ?_
  cases c
  · repeat (first | refine RQ ?_ | ((first | refine WL_Q ?_ | refine WL_Y ?_); (first | refine QW_of (Qt_indexA rfl) ?_ | refine QW_of (Qt_buildA rfl) ?_ | refine QW_of (Qt_ldX rfl) ?_)) | (refine RE ?_; try intro _) | refine RC ?_ | refine WC_region ?_)
    exact ⟨rfl, _, _, Res1 rfl (resV_tmp rfl), .cons _ (.refl _), rfl, rfl⟩
  · by_cases h : 0 ≤ n
    · have d : decide (n ≥ 0) = true := decide_eq_true h
      repeat (first | refine RQ ?_ | ((first | refine WL_Q ?_ | refine WL_Y ?_); (first | refine QW_of (Qt_indexA rfl) ?_ | refine QW_of (Qt_buildA rfl) ?_ | refine QW_of (Qt_ldX rfl) ?_)) | (refine RE ?_; try intro _) | refine RC ?_ | refine WC_region ?_)
      refine ⟨rfl, _, _, Res1 rfl (resV_tmp rfl), .cons _ (.refl _), ?_, rfl⟩
      simp [inB, h]
    · have d : decide (n ≥ 0) = false := decide_eq_false h
      repeat (first | refine RQ ?_ | ((first | refine WL_Q ?_ | refine WL_Y ?_); (first | refine QW_of (Qt_indexA rfl) ?_ | refine QW_of (Qt_buildA rfl) ?_ | refine QW_of (Qt_ldX rfl) ?_)) | (refine RE ?_; try intro _) | refine RC ?_ | refine WC_region ?_)
      refine ⟨rfl, _, _, Res1 rfl (resV_tmp rfl), .cons _ (.refl _), ?_, rfl⟩
      simp [inB, h]
theorem in18_fn {n most : Int} {L : List (Nat × Obj)} : Fn Tryz.prog 76 [.int .i64 n, .int .i64 most] L (fun v L' => v = .bool (inB n most) ∧ L' = L) := by
  refine Fn_enter Tryz.func76 rfl Tryz.ntmps76 rfl fun g => ?_
  by_cases h : 0 ≤ n
  · have d : decide (n ≥ 0) = true := decide_eq_true h
    repeat (first | refine RQ ?_ | ((first | refine WL_Q ?_ | refine WL_Y ?_); (first | refine QW_of (Qt_indexA rfl) ?_ | refine QW_of (Qt_buildA rfl) ?_ | refine QW_of (Qt_ldX rfl) ?_)) | refine RC ?_ | refine WC_region ?_)
    refine ⟨rfl, _, _, Res1 rfl (resV_tmp rfl), .refl _, ?_, rfl⟩
    simp [inB, h]
  · have d : decide (n ≥ 0) = false := decide_eq_false h
    repeat (first | refine RQ ?_ | ((first | refine WL_Q ?_ | refine WL_Y ?_); (first | refine QW_of (Qt_indexA rfl) ?_ | refine QW_of (Qt_buildA rfl) ?_ | refine QW_of (Qt_ldX rfl) ?_)) | refine RC ?_ | refine WC_region ?_)
    refine ⟨rfl, _, _, Res1 rfl (resV_tmp rfl), .refl _, ?_, rfl⟩
    simp [inB, h]
theorem enc_le {n : Nat} (h : n < 18446744073709551616) : (enc n).length ≤ 10 := Go.Proofs.YtdiaogcogkapgaaGreatDoor.enc_len h
set_option maxHeartbeats 16000000 in
set_option maxRecDepth 100000 in
theorem Put_fn {L : List (Nat × Obj)} {gs : Array Value} {g : GV} {a : Option Addr} {cap : Nat} {a' : Option Addr} {cap' : Nat} (h : GramAt L gs g a cap a' cap') (hb : g.m.bins.length ≤ 1000) (he : g.m.ents.length ≤ 1000) :
    Fn Tryz.prog 27 [.agg gs] L (fun v L' => v = .tuple #[.string (bstr g.put.1), .int .i64 (g.put.2 : Nat)] ∧ L' = L) := by
  have h1 := h.c1; have h2 := h.c2; have h3 := h.m1; have h4 := h.m2
  have hlit := h.lit
  have hone := h.one
  have hM := h.msg
  have hl := h.life; have hc := h.chan; have hr := h.room; have hs0 := h.s0; have hs1 := h.s1
  obtain ⟨life, chan, ack, seq, room, ⟨kind, ver, rc, time, num, ch, bins, ct, kh, ents⟩⟩ := g
  have hrc := h.m.rc; have hch := h.m.ch; have hct := h.m.ct; have hkh := h.m.kh
  have hbins := h.m.bins; have hents := h.m.ents
  have hki := h.m.kind; have hve := h.m.ver; have hti := h.m.time; have hnu := h.m.num
  dsimp only at hrc hch hct hkh hbins hents hki hve hti hnu
  have w0 := hrc
  obtain ⟨r0, us, rfl, _, w1⟩ := w0.split
  obtain ⟨r1, us, rfl, _, w2⟩ := w1.split
  obtain ⟨r2, us, rfl, _, w3⟩ := w2.split
  obtain ⟨r3, us, rfl, _, w4⟩ := w3.split
  obtain ⟨r4, us, rfl, _, w5⟩ := w4.split
  obtain ⟨r5, us, rfl, _, w6⟩ := w5.split
  obtain rfl := w6.nil
  have w0 := hch
  obtain ⟨c0, us, rfl, _, w1⟩ := w0.split
  obtain ⟨c1, us, rfl, _, w2⟩ := w1.split
  obtain rfl := w2.nil
  have w0 := hct
  obtain ⟨t0, us, rfl, _, w1⟩ := w0.split
  obtain ⟨t1, us, rfl, _, w2⟩ := w1.split
  obtain ⟨t2, us, rfl, _, w3⟩ := w2.split
  obtain ⟨t3, us, rfl, _, w4⟩ := w3.split
  obtain ⟨t4, us, rfl, _, w5⟩ := w4.split
  obtain ⟨t5, us, rfl, _, w6⟩ := w5.split
  obtain ⟨t6, us, rfl, _, w7⟩ := w6.split
  obtain rfl := w7.nil
  have w0 := hkh
  obtain ⟨k0, us, rfl, _, w1⟩ := w0.split
  obtain ⟨k1, us, rfl, _, w2⟩ := w1.split
  obtain ⟨k2, us, rfl, _, w3⟩ := w2.split
  obtain rfl := w3.nil
  have hlit' : gs = #[.int .i64 life, .int .i64 chan, .bool ack, .int .u64 seq, .int .i64 room, .int .i64 kind, .int .i64 ver, r0, r1, r2, r3, r4, r5, .int .i64 time, .int .i64 num, c0, c1, .slice a bins.length cap, t0, t1, t2, t3, t4, t5, t6, k0, k1, k2, .slice a' ents.length cap'] := hlit
  subst hlit'
  dsimp only at h1 h2 hl hc hr hs0 hs1 hb he
  refine Fn_enter Tryz.func27 rfl Tryz.ntmps27 rfl fun g => ?_
  repeat (first | refine RQ ?_ | (refine WL_Q ?_; (first | refine QW_of (Qt_indexA rfl) ?_ | refine QW_of (Qt_buildA rfl) ?_ | refine QW_of (Qt_ldX rfl) ?_)) | (refine RE ?_; try intro _) | refine RC ?_ | refine WG 0 ?_ | refine WG 1 ?_)
  rename_i x1
  refine WC_unroll 4 (WCn_s ?_)
  have leaf : ∀ {bs : List UInt8} {n : Nat}, (GV.put ⟨life, chan, ack, seq, room, ⟨kind, ver, [r0, r1, r2, r3, r4, r5], time, num, [c0, c1], bins, [t0, t1, t2, t3, t4, t5, t6], [k0, k1, k2], ents⟩⟩) = (bs, n) → (Value.tuple #[.string (bstr bs), .int .i64 (n : Nat)]) = .tuple #[.string (bstr (GV.put ⟨life, chan, ack, seq, room, ⟨kind, ver, [r0, r1, r2, r3, r4, r5], time, num, [c0, c1], bins, [t0, t1, t2, t3, t4, t5, t6], [k0, k1, k2], ents⟩⟩).1), .int .i64 ((GV.put ⟨life, chan, ack, seq, room, ⟨kind, ver, [r0, r1, r2, r3, r4, r5], time, num, [c0, c1], bins, [t0, t1, t2, t3, t4, t5, t6], [k0, k1, k2], ents⟩⟩).2 : Nat)] := fun e => by rw [e]
  cases b1 : inB life 65535
  · have d1 : (!(!true || inB life 65535)) = true := by rw [b1]; rfl
    repeat (first | refine RQ ?_ | (refine WL_Q ?_; (first | refine QW_of (Qt_indexA rfl) ?_ | refine QW_of (Qt_buildA rfl) ?_ | refine QW_of (Qt_ldX rfl) ?_)) | (refine RE ?_; try intro _) | (refine WL_op rfl ?_; (first | refine OW_callP rfl (hF := right_fn) (hk := ?_))) | refine RC ?_ | refine WG 2 ?_ | refine WG 3 ?_ | refine WG 4 ?_ | refine WG 5 ?_)
    exact ⟨rfl, _, L, Res2 rfl (resV_tmp rfl) (resV_tmp rfl), (by repeat (first | exact List.Sublist.refl _ | apply List.Sublist.cons)), leaf (by simp [GV.put, b1]), rfl⟩
  have d1 : (!(!true || inB life 65535)) = false := by rw [b1]; rfl
  cases b2 : inB chan 99
  · have d2 : (!(!true || inB chan 99)) = true := by rw [b2]; rfl
    repeat (first | refine RQ ?_ | (refine WL_Q ?_; (first | refine QW_of (Qt_indexA rfl) ?_ | refine QW_of (Qt_buildA rfl) ?_ | refine QW_of (Qt_ldX rfl) ?_)) | (refine RE ?_; try intro _) | (refine WL_op rfl ?_; (first | refine OW_callP rfl (hF := right_fn) (hk := ?_))) | refine RC ?_ | refine WG 2 ?_ | refine WG 3 ?_ | refine WG 4 ?_ | refine WG 5 ?_ | refine WG 6 ?_)
    exact ⟨rfl, _, L, Res2 rfl (resV_tmp rfl) (resV_tmp rfl), (by repeat (first | exact List.Sublist.refl _ | apply List.Sublist.cons)), leaf (by simp [GV.put, b1, b2]), rfl⟩
  have d2 : (!(!true || inB chan 99)) = false := by rw [b2]; rfl
  cases b3 : (!ack || inB room 16)
  · have d3 : (!(!ack || inB room 16)) = true := by rw [b3]; rfl
    have b3' : (ack && !inB room 16) = true := by cases ack <;> simp_all
    repeat (first | refine RQ ?_ | (refine WL_Q ?_; (first | refine QW_of (Qt_indexA rfl) ?_ | refine QW_of (Qt_buildA rfl) ?_ | refine QW_of (Qt_ldX rfl) ?_)) | (refine RE ?_; try intro _) | (refine WL_op rfl ?_; (first | refine OW_callP rfl (hF := right_fn) (hk := ?_))) | refine RC ?_ | refine WG 2 ?_ | refine WG 3 ?_ | refine WG 4 ?_ | refine WG 5 ?_ | refine WG 6 ?_)
    exact ⟨rfl, _, L, Res2 rfl (resV_tmp rfl) (resV_tmp rfl), (by repeat (first | exact List.Sublist.refl _ | apply List.Sublist.cons)), leaf (by simp [GV.put, b1, b2, b3']), rfl⟩
  have d3 : (!(!ack || inB room 16)) = false := by rw [b3]; rfl
  have b3' : (ack && !inB room 16) = false := by cases ack <;> simp_all
  repeat (first | refine RQ ?_ | (refine WL_Q ?_; (first | refine QW_of (Qt_indexA rfl) ?_ | refine QW_of (Qt_buildA rfl) ?_ | refine QW_of (Qt_ldX rfl) ?_)) | (refine RE ?_; try intro _) | (refine WL_op rfl ?_; (first | refine OW_callP rfl (hF := right_fn) (hk := ?_))) | refine RC ?_ | refine WG 2 ?_ | refine WG 3 ?_ | refine WG 4 ?_ | refine WG 5 ?_ | refine WG 6 ?_)
  refine WC_wk [(1, .pointer (some ⟨x1, 0, none⟩))] ⟨rfl, trivial⟩ ?_
  refine WC_dropL ((x1, Obj.cells #[.int .i64 life, .int .i64 chan, .bool ack, .int .u64 seq, .int .i64 room, .int .i64 kind, .int .i64 ver, r0, r1, r2, r3, r4, r5, .int .i64 time, .int .i64 num, c0, c1, .slice a bins.length cap, t0, t1, t2, t3, t4, t5, t6, k0, k1, k2, .slice a' ents.length cap'] 93 (0, 0)) :: L) (.cons _ (.cons _ (.cons _ (.refl _)))) ?_
  have q1 : 0 ≤ life ∧ life ≤ 65535 := by simpa [inB] using b1
  have q2 : 0 ≤ chan ∧ chan ≤ 99 := by simpa [inB] using b2
  have el : IntKind.u64.wrap life = life := wU64 (by omega) (by omega)
  have ec : IntKind.u64.wrap chan = chan := wU64 (by omega) (by omega)
  have le1 := enc_le (n := (IntKind.u64.wrap life).toNat) (by rw [el]; omega)
  have le2 := enc_le (n := (IntKind.u64.wrap chan).toNat) (by rw [ec]; omega)
  have le3 : (encB ack).length ≤ 10 := by cases ack <;> simp [encB]
  have le4 := enc_le (n := seq.toNat) (by omega)
  have hhead : ([] ++ enc (IntKind.u64.wrap life).toNat ++ enc (IntKind.u64.wrap chan).toNat ++ encB ack ++ enc seq.toNat) = (GV.head ⟨life, chan, ack, seq, room, ⟨kind, ver, [r0, r1, r2, r3, r4, r5], time, num, [c0, c1], bins, [t0, t1, t2, t3, t4, t5, t6], [k0, k1, k2], ents⟩⟩) := by rw [el, ec, List.nil_append]; rfl
  have hlen : (GV.head ⟨life, chan, ack, seq, room, ⟨kind, ver, [r0, r1, r2, r3, r4, r5], time, num, [c0, c1], bins, [t0, t1, t2, t3, t4, t5, t6], [k0, k1, k2], ents⟩⟩).length ≤ 40 := by rw [← hhead]; simp only [List.length_append, List.length_nil]; omega
  have u0 := u64_lo life; have u1 := u64_hi life; have u2 := u64_lo chan; have u3 := u64_hi chan
  repeat (first | refine RQr ?_ | (refine RX ?_; (first | refine QW_of (Qt_indexA rfl) ?_ | refine QW_of (Qt_buildA rfl) ?_ | refine QW_of (Qt_ldX rfl) ?_)) | (refine OX ?_; (first | (refine OW_call rfl (hF := P_fn' (by first | exact ByAt.nil _ | exact own_by0 (by with_reducible assumption)) (by with_reducible assumption) (by with_reducible assumption) (by simp only [List.length_append, List.length_nil]; omega)) (hk := ?_); rintro _ _ ⟨p1, off1, cap1, cur1, rfl, rfl, ho1⟩) | (refine OW_call rfl (hF := PBool_fn (own_by0 (by with_reducible assumption)) (by simp only [List.length_append, List.length_nil]; omega)) (hk := ?_); rintro _ _ ⟨p1, off1, cap1, cur1, rfl, rfl, ho1⟩)); try refine SD ?_) | refine RC ?_ | refine RU ?_ | refine WC_draw_all (id := 7) 15 (Cs [0,1,2,4,5,6,8,9,11,12] <| .must 3 <| .must 7 <| .must 10 <| .must 13 <| .calm 14 <| .done) mixed (by kernel_rfl) ?_)
  rw [hhead] at ho1 ⊢
  obtain ⟨H, hH⟩ : ∃ H, H = GV.head ⟨life, chan, ack, seq, room, ⟨kind, ver, [r0, r1, r2, r3, r4, r5], time, num, [c0, c1], bins, [t0, t1, t2, t3, t4, t5, t6], [k0, k1, k2], ents⟩⟩ := ⟨_, rfl⟩
  rw [← hH] at ho1 hlen ⊢
  have hOH := ho1
  refine WC_wk [(6, .slice (some ⟨p1, off1, none⟩) H.length cap1), (1, .pointer (some ⟨x1, 0, none⟩))] ⟨rfl, rfl, trivial⟩ ?_
  refine WC_dropL ((p1, Obj.cells cur1 5 (0, 0)) :: (x1, Obj.cells #[.int .i64 life, .int .i64 chan, .bool ack, .int .u64 seq, .int .i64 room, .int .i64 kind, .int .i64 ver, r0, r1, r2, r3, r4, r5, .int .i64 time, .int .i64 num, c0, c1, .slice a bins.length cap, t0, t1, t2, t3, t4, t5, t6, k0, k1, k2, .slice a' ents.length cap'] 93 (0, 0)) :: L) (.cons_cons _ (.cons _ (.cons _ (.cons _ (.refl _))))) ?_
  have hx5 : (#[.int .i64 life, .int .i64 chan, .bool ack, .int .u64 seq, .int .i64 room, .int .i64 kind, .int .i64 ver, r0, r1, r2, r3, r4, r5, .int .i64 time, .int .i64 num, c0, c1, .slice a bins.length cap, t0, t1, t2, t3, t4, t5, t6, k0, k1, k2, .slice a' ents.length cap']).extract 5 (5 + 24) = #[.int .i64 kind, .int .i64 ver, r0, r1, r2, r3, r4, r5, .int .i64 time, .int .i64 num, c0, c1, .slice a bins.length cap, t0, t1, t2, t3, t4, t5, t6, k0, k1, k2, .slice a' ents.length cap'] := by kernel_rfl
  have hMM : MsgAt L #[.int .i64 kind, .int .i64 ver, r0, r1, r2, r3, r4, r5, .int .i64 time, .int .i64 num, c0, c1, .slice a bins.length cap, t0, t1, t2, t3, t4, t5, t6, k0, k1, k2, .slice a' ents.length cap'] ⟨kind, ver, [r0, r1, r2, r3, r4, r5], time, num, [c0, c1], bins, [t0, t1, t2, t3, t4, t5, t6], [k0, k1, k2], ents⟩ a cap a' cap' := hM
  have hz5 := hMM.size
  have hone5 := MV.all_one hMM.ok hMM.size hMM.lies
  repeat (first | refine RQ ?_ | (refine WL_Q ?_; (first | refine QW_of (Qt_indexA rfl) ?_ | refine QW_of (Qt_buildA rfl) ?_ | refine QW_of (Qt_ldX rfl) ?_)) | (refine RE ?_; try intro _) | refine RC ?_ | refine WG 8 ?_)
  cases ha : ack
  rotate_left
  · subst ha
    have q3 : 0 ≤ room ∧ room ≤ 16 := by simpa [inB] using b3
    have er : IntKind.u64.wrap room = room := wU64 (by omega) (by omega)
    have v0 := u64_lo room; have v1 := u64_hi room
    have hp : GV.put ⟨life, chan, true, seq, room, ⟨kind, ver, [r0, r1, r2, r3, r4, r5], time, num, [c0, c1], bins, [t0, t1, t2, t3, t4, t5, t6], [k0, k1, k2], ents⟩⟩ = (H ++ enc (IntKind.u64.wrap room).toNat, 0) := by
      rw [er, hH]; simp [GV.put, b1, b2, b3']
    repeat (first | refine RQ ?_ | (refine WL_Q ?_; (first | refine QW_of (Qt_indexA rfl) ?_ | refine QW_of (Qt_buildA rfl) ?_ | refine QW_of (Qt_ldX rfl) ?_)) | (refine WL_op rfl ?_; (first | (refine OW_call rfl (hF := P_fn' (bs := H) ((own_by0 hOH).cons _) (by with_reducible assumption) (by with_reducible assumption) (by omega)) (hk := ?_); rintro _ _ ⟨p2, off2, cap2, cur2, rfl, rfl, ho2⟩))) | refine RC ?_ | refine WG 9 ?_ | refine WG 10 ?_)
    exact ⟨rfl, _, L, Res2 rfl (resV_tmp rfl) (resV_tmp rfl), (by repeat (first | exact List.Sublist.refl _ | apply List.Sublist.cons)), by rw [hp]; rfl, rfl⟩
  subst ha
  have lf : ∀ {bs : List UInt8} {n : Nat}, (GV.put ⟨life, chan, false, seq, room, ⟨kind, ver, [r0, r1, r2, r3, r4, r5], time, num, [c0, c1], bins, [t0, t1, t2, t3, t4, t5, t6], [k0, k1, k2], ents⟩⟩) = (bs, n) → (Value.tuple #[.string (bstr bs), .int .i64 (n : Nat)]) = .tuple #[.string (bstr (GV.put ⟨life, chan, false, seq, room, ⟨kind, ver, [r0, r1, r2, r3, r4, r5], time, num, [c0, c1], bins, [t0, t1, t2, t3, t4, t5, t6], [k0, k1, k2], ents⟩⟩).1), .int .i64 ((GV.put ⟨life, chan, false, seq, room, ⟨kind, ver, [r0, r1, r2, r3, r4, r5], time, num, [c0, c1], bins, [t0, t1, t2, t3, t4, t5, t6], [k0, k1, k2], ents⟩⟩).2 : Nat)] := fun e => by rw [e]
  cases b4 : inB kind 4
  · have d4 : (!(!true || inB kind 4)) = true := by rw [b4]; rfl
    repeat (first | refine RQ ?_ | (refine WL_Q ?_; (first | refine QW_of (Qt_indexA rfl) ?_ | refine QW_of (Qt_buildA rfl) ?_ | refine QW_of (Qt_ldX rfl) ?_)) | (refine WL_op rfl ?_; (first | refine OW_callP rfl (hF := right_fn) (hk := ?_))) | refine RC ?_ | refine WG 9 ?_ | refine WG 11 ?_ | refine WG 12 ?_)
    exact ⟨rfl, _, L, Res2 rfl (resV_tmp rfl) (resV_tmp rfl), (by repeat (first | exact List.Sublist.refl _ | apply List.Sublist.cons)), lf (by simp [GV.put, b1, b2, b4]), rfl⟩
  have d4 : (!(!true || inB kind 4)) = false := by rw [b4]; rfl
  have i5 : inB ((bins.length : Nat) : Int) 8 = !decide (8 < bins.length) := by
    by_cases h : 8 < bins.length <;> simp [inB, h] <;> omega
  have i6 : inB ((ents.length : Nat) : Int) 64 = !decide (64 < ents.length) := by
    by_cases h : 64 < ents.length <;> simp [inB, h] <;> omega
  cases b5 : (!(!(kind == 3) || inB ((bins.length : Nat) : Int) 8))
  rotate_left
  · have hm : GV.many ⟨life, chan, false, seq, room, ⟨kind, ver, [r0, r1, r2, r3, r4, r5], time, num, [c0, c1], bins, [t0, t1, t2, t3, t4, t5, t6], [k0, k1, k2], ents⟩⟩ = true := by
      rw [i5] at b5
      simp only [Bool.not_or, Bool.not_not] at b5
      unfold GV.many
      dsimp only
      rw [b5]; rfl
    repeat (first | refine RQ ?_ | (refine WL_Q ?_; (first | refine QW_of (Qt_indexA rfl) ?_ | refine QW_of (Qt_buildA rfl) ?_ | refine QW_of (Qt_ldX rfl) ?_)) | (refine WL_op rfl ?_; (first | refine OW_callP rfl (hF := right_fn) (hk := ?_))) | refine RC ?_ | refine WG 9 ?_ | refine WG 11 ?_ | refine WG 13 ?_ | refine WG 14 ?_ | refine WG 15 ?_)
    exact ⟨rfl, _, L, Res2 rfl (resV_tmp rfl) (resV_tmp rfl), (by repeat (first | exact List.Sublist.refl _ | apply List.Sublist.cons)), lf (by simp [GV.put, b1, b2, b4, hm]), rfl⟩
  cases b6 : (!(!(kind == 4) || inB ((ents.length : Nat) : Int) 64))
  rotate_left
  · have hm : GV.many ⟨life, chan, false, seq, room, ⟨kind, ver, [r0, r1, r2, r3, r4, r5], time, num, [c0, c1], bins, [t0, t1, t2, t3, t4, t5, t6], [k0, k1, k2], ents⟩⟩ = true := by
      rw [i6] at b6
      simp only [Bool.not_or, Bool.not_not] at b6
      unfold GV.many
      dsimp only
      rw [b6]; simp
    repeat (first | refine RQ ?_ | (refine WL_Q ?_; (first | refine QW_of (Qt_indexA rfl) ?_ | refine QW_of (Qt_buildA rfl) ?_ | refine QW_of (Qt_ldX rfl) ?_)) | (refine WL_op rfl ?_; (first | refine OW_callP rfl (hF := right_fn) (hk := ?_))) | refine RC ?_ | refine WG 9 ?_ | refine WG 11 ?_ | refine WG 13 ?_ | refine WG 14 ?_ | refine WG 15 ?_)
    exact ⟨rfl, _, L, Res2 rfl (resV_tmp rfl) (resV_tmp rfl), (by repeat (first | exact List.Sublist.refl _ | apply List.Sublist.cons)), lf (by simp [GV.put, b1, b2, b4, hm]), rfl⟩
  have hm : GV.many ⟨life, chan, false, seq, room, ⟨kind, ver, [r0, r1, r2, r3, r4, r5], time, num, [c0, c1], bins, [t0, t1, t2, t3, t4, t5, t6], [k0, k1, k2], ents⟩⟩ = false := by
    rw [i5] at b5
    rw [i6] at b6
    simp only [Bool.not_or, Bool.not_not] at b5 b6
    unfold GV.many
    dsimp only
    rw [b5, b6]; rfl
  have n12 : (⟨kind, ver, [r0, r1, r2, r3, r4, r5], time, num, [c0, c1], bins, [t0, t1, t2, t3, t4, t5, t6], [k0, k1, k2], ents⟩ : MV).bins.length ≤ 1000000 := by show bins.length ≤ _; omega
  have n70 : (⟨kind, ver, [r0, r1, r2, r3, r4, r5], time, num, [c0, c1], bins, [t0, t1, t2, t3, t4, t5, t6], [k0, k1, k2], ents⟩ : MV).ents.length ≤ 100000 := by show ents.length ≤ _; omega
  have hH9 : H.length ≤ 900000000 := by omega
  have hp : GV.put ⟨life, chan, false, seq, room, ⟨kind, ver, [r0, r1, r2, r3, r4, r5], time, num, [c0, c1], bins, [t0, t1, t2, t3, t4, t5, t6], [k0, k1, k2], ents⟩⟩ = (H ++ MV.enc ⟨kind, ver, [r0, r1, r2, r3, r4, r5], time, num, [c0, c1], bins, [t0, t1, t2, t3, t4, t5, t6], [k0, k1, k2], ents⟩, 0) := by
    rw [hH]; simp [GV.put, b1, b2, b4, hm]
  repeat (first | refine RQ ?_ | (refine WL_Q ?_; (first | refine QW_of (Qt_indexA rfl) ?_ | refine QW_of (Qt_buildA rfl) ?_ | refine QW_of (Qt_ldX rfl) ?_)) | (refine WL_op rfl ?_; (first | refine OW_callP rfl (hF := right_fn) (hk := ?_) | (refine OW_call rfl (hF := PMsg_at (by repeat (first | with_reducible exact hMM | apply MsgAt.cons)) (bs := H) ((own_by0 hOH).cons _) n12 n70 hH9) (hk := ?_); rintro _ _ ⟨p2, off2, cap2, cur2, rfl, rfl, ho2⟩))) | refine RC ?_ | refine WG 9 ?_ | refine WG 11 ?_ | refine WG 13 ?_ | refine WG 14 ?_ | refine WG 16 ?_)
  exact ⟨rfl, _, L, Res2 rfl (resV_tmp rfl) (resV_tmp rfl), (by repeat (first | exact List.Sublist.refl _ | apply List.Sublist.cons)), by rw [hp]; rfl, rfl⟩
set_option maxHeartbeats 16000000 in
set_option maxRecDepth 100000 in
theorem rPut_fn {L : List (Nat × Obj)} {gs : Array Value} {g : GV} {a : Option Addr} {cap : Nat} {a' : Option Addr} {cap' : Nat} (h : GramAt L gs g a cap a' cap') (hb : g.m.bins.length ≤ 1000) (he : g.m.ents.length ≤ 1000) :
    Fn Tryz.prog 59 [.agg gs] L (fun v L' => v = .tuple #[.string (bstr g.put.1), .int .i64 (g.put.2 : Nat)] ∧ L' = L) := by
  have h1 := h.c1; have h2 := h.c2; have h3 := h.m1; have h4 := h.m2
  have hlit := h.lit
  have hone := h.one
  have hM := h.msg
  have hl := h.life; have hc := h.chan; have hr := h.room; have hs0 := h.s0; have hs1 := h.s1
  obtain ⟨life, chan, ack, seq, room, ⟨kind, ver, rc, time, num, ch, bins, ct, kh, ents⟩⟩ := g
  have hrc := h.m.rc; have hch := h.m.ch; have hct := h.m.ct; have hkh := h.m.kh
  have hbins := h.m.bins; have hents := h.m.ents
  have hki := h.m.kind; have hve := h.m.ver; have hti := h.m.time; have hnu := h.m.num
  dsimp only at hrc hch hct hkh hbins hents hki hve hti hnu
  have w0 := hrc
  obtain ⟨r0, us, rfl, _, w1⟩ := w0.split
  obtain ⟨r1, us, rfl, _, w2⟩ := w1.split
  obtain ⟨r2, us, rfl, _, w3⟩ := w2.split
  obtain ⟨r3, us, rfl, _, w4⟩ := w3.split
  obtain ⟨r4, us, rfl, _, w5⟩ := w4.split
  obtain ⟨r5, us, rfl, _, w6⟩ := w5.split
  obtain rfl := w6.nil
  have w0 := hch
  obtain ⟨c0, us, rfl, _, w1⟩ := w0.split
  obtain ⟨c1, us, rfl, _, w2⟩ := w1.split
  obtain rfl := w2.nil
  have w0 := hct
  obtain ⟨t0, us, rfl, _, w1⟩ := w0.split
  obtain ⟨t1, us, rfl, _, w2⟩ := w1.split
  obtain ⟨t2, us, rfl, _, w3⟩ := w2.split
  obtain ⟨t3, us, rfl, _, w4⟩ := w3.split
  obtain ⟨t4, us, rfl, _, w5⟩ := w4.split
  obtain ⟨t5, us, rfl, _, w6⟩ := w5.split
  obtain ⟨t6, us, rfl, _, w7⟩ := w6.split
  obtain rfl := w7.nil
  have w0 := hkh
  obtain ⟨k0, us, rfl, _, w1⟩ := w0.split
  obtain ⟨k1, us, rfl, _, w2⟩ := w1.split
  obtain ⟨k2, us, rfl, _, w3⟩ := w2.split
  obtain rfl := w3.nil
  have hlit' : gs = #[.int .i64 life, .int .i64 chan, .bool ack, .int .u64 seq, .int .i64 room, .int .i64 kind, .int .i64 ver, r0, r1, r2, r3, r4, r5, .int .i64 time, .int .i64 num, c0, c1, .slice a bins.length cap, t0, t1, t2, t3, t4, t5, t6, k0, k1, k2, .slice a' ents.length cap'] := hlit
  subst hlit'
  dsimp only at h1 h2 hl hc hr hs0 hs1 hb he
  refine Fn_enter Tryz.func59 rfl Tryz.ntmps59 rfl fun g => ?_
  repeat (first | refine RQ ?_ | (refine WL_Q ?_; (first | refine QW_of (Qt_indexA rfl) ?_ | refine QW_of (Qt_buildA rfl) ?_ | refine QW_of (Qt_ldX rfl) ?_)) | (refine RE ?_; try intro _) | refine RC ?_ | refine WG 0 ?_)
  rename_i x1
  cases b1 : inB life 65535
  · have d1 : (!(inB life 65535)) = true := by rw [b1]; rfl
    repeat (first | refine RQ ?_ | ((first | refine WL_Q ?_ | refine WL_Y ?_); (first | refine QW_of (Qt_indexA rfl) ?_ | refine QW_of (Qt_buildA rfl) ?_ | refine QW_of (Qt_ldX rfl) ?_)) | ((first | refine WL_op rfl ?_ | refine WL_yes (h := ?_)); (first | refine OW_callP rfl (hF := in18_fn) (hk := ?_))) | refine RC ?_ | refine WG 1 ?_ | refine WG 2 ?_)
    exact ⟨rfl, _, L, Res2 rfl (resV_tmp rfl) (resV_tmp rfl), (by repeat (first | exact List.Sublist.refl _ | apply List.Sublist.cons)), by rw [show GV.put ⟨life, chan, ack, seq, room, ⟨kind, ver, [r0, r1, r2, r3, r4, r5], time, num, [c0, c1], bins, [t0, t1, t2, t3, t4, t5, t6], [k0, k1, k2], ents⟩⟩ = ([], 2) from by simp [GV.put, b1]]; rfl, rfl⟩
  have d1 : (!(inB life 65535)) = false := by rw [b1]; rfl
  cases b2 : inB chan 99
  · have d2 : (!(inB chan 99)) = true := by rw [b2]; rfl
    repeat (first | refine RQ ?_ | ((first | refine WL_Q ?_ | refine WL_Y ?_); (first | refine QW_of (Qt_indexA rfl) ?_ | refine QW_of (Qt_buildA rfl) ?_ | refine QW_of (Qt_ldX rfl) ?_)) | ((first | refine WL_op rfl ?_ | refine WL_yes (h := ?_)); (first | refine OW_callP rfl (hF := in18_fn) (hk := ?_))) | refine RC ?_ | refine WG 1 ?_ | refine WG 2 ?_)
    exact ⟨rfl, _, L, Res2 rfl (resV_tmp rfl) (resV_tmp rfl), (by repeat (first | exact List.Sublist.refl _ | apply List.Sublist.cons)), by rw [show GV.put ⟨life, chan, ack, seq, room, ⟨kind, ver, [r0, r1, r2, r3, r4, r5], time, num, [c0, c1], bins, [t0, t1, t2, t3, t4, t5, t6], [k0, k1, k2], ents⟩⟩ = ([], 2) from by simp [GV.put, b1, b2]]; rfl, rfl⟩
  have d2 : (!(inB chan 99)) = false := by rw [b2]; rfl
  have q1 : 0 ≤ life ∧ life ≤ 65535 := by simpa [inB] using b1
  have q2 : 0 ≤ chan ∧ chan ≤ 99 := by simpa [inB] using b2
  have el : IntKind.u64.wrap life = life := wU64 (by omega) (by omega)
  have ec : IntKind.u64.wrap chan = chan := wU64 (by omega) (by omega)
  have le1 := enc_le (n := (IntKind.u64.wrap life).toNat) (by rw [el]; omega)
  have le2 := enc_le (n := (IntKind.u64.wrap chan).toNat) (by rw [ec]; omega)
  have le3 : (encB ack).length ≤ 10 := by cases ack <;> simp [encB]
  have le4 := enc_le (n := seq.toNat) (by omega)
  have hhead : (enc (IntKind.u64.wrap life).toNat ++ enc (IntKind.u64.wrap chan).toNat ++ encB ack ++ enc seq.toNat) = (GV.head ⟨life, chan, ack, seq, room, ⟨kind, ver, [r0, r1, r2, r3, r4, r5], time, num, [c0, c1], bins, [t0, t1, t2, t3, t4, t5, t6], [k0, k1, k2], ents⟩⟩) := by rw [el, ec]; rfl
  have hlen : (GV.head ⟨life, chan, ack, seq, room, ⟨kind, ver, [r0, r1, r2, r3, r4, r5], time, num, [c0, c1], bins, [t0, t1, t2, t3, t4, t5, t6], [k0, k1, k2], ents⟩⟩).length ≤ 40 := by rw [← hhead]; simp only [List.length_append]; omega
  have u0 := u64_lo life; have u1 := u64_hi life; have u2 := u64_lo chan; have u3 := u64_hi chan
  have hx5 : (#[.int .i64 life, .int .i64 chan, .bool ack, .int .u64 seq, .int .i64 room, .int .i64 kind, .int .i64 ver, r0, r1, r2, r3, r4, r5, .int .i64 time, .int .i64 num, c0, c1, .slice a bins.length cap, t0, t1, t2, t3, t4, t5, t6, k0, k1, k2, .slice a' ents.length cap']).extract 5 (5 + 24) = #[.int .i64 kind, .int .i64 ver, r0, r1, r2, r3, r4, r5, .int .i64 time, .int .i64 num, c0, c1, .slice a bins.length cap, t0, t1, t2, t3, t4, t5, t6, k0, k1, k2, .slice a' ents.length cap'] := by kernel_rfl
  have hMM : MsgAt L #[.int .i64 kind, .int .i64 ver, r0, r1, r2, r3, r4, r5, .int .i64 time, .int .i64 num, c0, c1, .slice a bins.length cap, t0, t1, t2, t3, t4, t5, t6, k0, k1, k2, .slice a' ents.length cap'] ⟨kind, ver, [r0, r1, r2, r3, r4, r5], time, num, [c0, c1], bins, [t0, t1, t2, t3, t4, t5, t6], [k0, k1, k2], ents⟩ a cap a' cap' := hM
  have hz5 := hMM.size
  have hone5 := MV.all_one hMM.ok hMM.size hMM.lies
  cases ha : ack
  rotate_left
  · subst ha
    cases b3 : inB room 16
    · have d3 : (!(inB room 16)) = true := by rw [b3]; rfl
      repeat (first | refine RQ ?_ | ((first | refine WL_Q ?_ | refine WL_Y ?_); (first | refine QW_of (Qt_indexA rfl) ?_ | refine QW_of (Qt_buildA rfl) ?_ | refine QW_of (Qt_ldX rfl) ?_)) | ((first | refine WL_op rfl ?_ | refine WL_yes (h := ?_)); (first | refine OW_callP rfl (hF := in18_fn) (hk := ?_))) | refine RC ?_ | refine WG 1 ?_ | refine WG 2 ?_)
      exact ⟨rfl, _, L, Res2 rfl (resV_tmp rfl) (resV_tmp rfl), (by repeat (first | exact List.Sublist.refl _ | apply List.Sublist.cons)), by rw [show GV.put ⟨life, chan, true, seq, room, ⟨kind, ver, [r0, r1, r2, r3, r4, r5], time, num, [c0, c1], bins, [t0, t1, t2, t3, t4, t5, t6], [k0, k1, k2], ents⟩⟩ = ([], 2) from by simp [GV.put, b1, b2, b3]]; rfl, rfl⟩
    have d3 : (!(inB room 16)) = false := by rw [b3]; rfl
    have q3 : 0 ≤ room ∧ room ≤ 16 := by simpa [inB] using b3
    have er : IntKind.u64.wrap room = room := wU64 (by omega) (by omega)
    have v0 := u64_lo room; have v1 := u64_hi room
    have le5 := enc_le (n := (IntKind.u64.wrap room).toNat) (by rw [er]; omega)
    have hp : GV.put ⟨life, chan, true, seq, room, ⟨kind, ver, [r0, r1, r2, r3, r4, r5], time, num, [c0, c1], bins, [t0, t1, t2, t3, t4, t5, t6], [k0, k1, k2], ents⟩⟩ = (GV.head ⟨life, chan, true, seq, room, ⟨kind, ver, [r0, r1, r2, r3, r4, r5], time, num, [c0, c1], bins, [t0, t1, t2, t3, t4, t5, t6], [k0, k1, k2], ents⟩⟩ ++ enc (IntKind.u64.wrap room).toNat, 0) := by
      rw [er]; simp [GV.put, b1, b2, b3]
    repeat (first | refine RQr ?_ | ((first | refine WL_Q ?_ | refine WL_Y ?_ | refine WR_Q rfl ?_ | refine WR_late rfl rfl rfl (OW_Q ?_) | refine WR_Y rfl ?_); (first | refine QW_of (Qt_indexA rfl) ?_ | refine QW_of (Qt_buildA rfl) ?_ | refine QW_of (Qt_ldX rfl) ?_)) | ((first | refine WL_op rfl ?_ | refine WL_yes (h := ?_) | refine WR_late rfl rfl rfl ?_ | refine WR_opG rfl rfl ?_ | refine WR_opYG rfl (h := ?_)); (first | refine OW_callP rfl (hF := in18_fn) (hk := ?_) | refine OW_callP rfl (hF := Truth_fn) (hk := ?_) | refine OW_callP rfl (hF := Num_fn' (by with_reducible assumption) (by with_reducible assumption)) (hk := ?_)); try refine SD ?_) | refine RC ?_ | refine RU ?_ | refine WC_draw_all (id := 3) 18 (Cs [0,1,2,4,5,6,9,10,13,14] <| .must 3 <| .must 7 <| .calm 8 <| .must 11 <| .calm 12 <| .must 15 <| Cs [16,17] <| .done) mixed (by kernel_rfl) ?_ | refine WG 1 ?_ | refine WG 4 ?_)
    rw [hhead]
    repeat (first | refine RQ ?_ | (refine WL_Q ?_; (first | refine QW_of (Qt_indexA rfl) ?_ | refine QW_of (Qt_buildA rfl) ?_ | refine QW_of (Qt_ldX rfl) ?_)) | (refine WL_op rfl ?_; (first | refine OW_callP rfl (hF := Num_fn' (by with_reducible assumption) (by with_reducible assumption)) (hk := ?_))) | refine RC ?_ | refine WG 4 ?_ | refine WG 5 ?_)
    exact ⟨rfl, _, L, Res2 rfl (resV_tmp rfl) (resV_tmp rfl), (by repeat (first | exact List.Sublist.refl _ | apply List.Sublist.cons)), by rw [hp]; rfl, rfl⟩
  subst ha
  repeat (first | refine RQr ?_ | ((first | refine WL_Q ?_ | refine WL_Y ?_ | refine WR_Q rfl ?_ | refine WR_late rfl rfl rfl (OW_Q ?_) | refine WR_Y rfl ?_); (first | refine QW_of (Qt_indexA rfl) ?_ | refine QW_of (Qt_buildA rfl) ?_ | refine QW_of (Qt_ldX rfl) ?_)) | ((first | refine WL_op rfl ?_ | refine WL_yes (h := ?_) | refine WR_late rfl rfl rfl ?_ | refine WR_opG rfl rfl ?_ | refine WR_opYG rfl (h := ?_)); (first | refine OW_callP rfl (hF := in18_fn) (hk := ?_) | refine OW_callP rfl (hF := Truth_fn) (hk := ?_) | refine OW_callP rfl (hF := Num_fn' (by with_reducible assumption) (by with_reducible assumption)) (hk := ?_)); try refine SD ?_) | refine RC ?_ | refine RU ?_ | refine WC_draw_all (id := 3) 18 (Cs [0,1,2,4,5,6,9,10,13,14] <| .must 3 <| .must 7 <| .calm 8 <| .must 11 <| .calm 12 <| .must 15 <| Cs [16,17] <| .done) mixed (by kernel_rfl) ?_ | refine WG 1 ?_)
  rw [hhead]
  repeat (first | refine RQ ?_ | (refine WL_Q ?_; (first | refine QW_of (Qt_indexA rfl) ?_ | refine QW_of (Qt_buildA rfl) ?_ | refine QW_of (Qt_ldX rfl) ?_)) | (refine RE ?_; try intro _) | refine RC ?_ | refine WG 4 ?_ | refine WG 6 ?_)
  cases b4 : inB kind 4
  · have d4 : (!(inB kind 4)) = true := by rw [b4]; rfl
    repeat (first | refine RQ ?_ | (refine WL_Q ?_; (first | refine QW_of (Qt_indexA rfl) ?_ | refine QW_of (Qt_buildA rfl) ?_ | refine QW_of (Qt_ldX rfl) ?_)) | (refine WL_op rfl ?_; (first | refine OW_callP rfl (hF := in18_fn) (hk := ?_))) | refine RC ?_ | refine WG 7 ?_ | refine WG 8 ?_)
    exact ⟨rfl, _, L, Res2 rfl (resV_tmp rfl) (resV_tmp rfl), (by repeat (first | exact List.Sublist.refl _ | apply List.Sublist.cons)), by rw [show GV.put ⟨life, chan, false, seq, room, ⟨kind, ver, [r0, r1, r2, r3, r4, r5], time, num, [c0, c1], bins, [t0, t1, t2, t3, t4, t5, t6], [k0, k1, k2], ents⟩⟩ = ([], 6) from by simp [GV.put, b1, b2, b4]]; rfl, rfl⟩
  have d4 : (!(inB kind 4)) = false := by rw [b4]; rfl
  have n12 : (⟨kind, ver, [r0, r1, r2, r3, r4, r5], time, num, [c0, c1], bins, [t0, t1, t2, t3, t4, t5, t6], [k0, k1, k2], ents⟩ : MV).bins.length ≤ 1000000 := by show bins.length ≤ _; omega
  have n70 : (⟨kind, ver, [r0, r1, r2, r3, r4, r5], time, num, [c0, c1], bins, [t0, t1, t2, t3, t4, t5, t6], [k0, k1, k2], ents⟩ : MV).ents.length ≤ 1000000 := by show ents.length ≤ _; omega
  have hel := MV.enc_len hMM.ok (by show bins.length ≤ 100000; omega) (by show ents.length ≤ 100000; omega)
  have hcat : (GV.head ⟨life, chan, false, seq, room, ⟨kind, ver, [r0, r1, r2, r3, r4, r5], time, num, [c0, c1], bins, [t0, t1, t2, t3, t4, t5, t6], [k0, k1, k2], ents⟩⟩).length + (MV.enc ⟨kind, ver, [r0, r1, r2, r3, r4, r5], time, num, [c0, c1], bins, [t0, t1, t2, t3, t4, t5, t6], [k0, k1, k2], ents⟩).length ≤ 4611686018427387904 := by omega
  have fin : (GV.many ⟨life, chan, false, seq, room, ⟨kind, ver, [r0, r1, r2, r3, r4, r5], time, num, [c0, c1], bins, [t0, t1, t2, t3, t4, t5, t6], [k0, k1, k2], ents⟩⟩) = false → GV.put ⟨life, chan, false, seq, room, ⟨kind, ver, [r0, r1, r2, r3, r4, r5], time, num, [c0, c1], bins, [t0, t1, t2, t3, t4, t5, t6], [k0, k1, k2], ents⟩⟩ = (GV.head ⟨life, chan, false, seq, room, ⟨kind, ver, [r0, r1, r2, r3, r4, r5], time, num, [c0, c1], bins, [t0, t1, t2, t3, t4, t5, t6], [k0, k1, k2], ents⟩⟩ ++ MV.enc ⟨kind, ver, [r0, r1, r2, r3, r4, r5], time, num, [c0, c1], bins, [t0, t1, t2, t3, t4, t5, t6], [k0, k1, k2], ents⟩, 0) := fun hm => by simp [GV.put, b1, b2, b4, hm]
  cases k3 : (kind == 3)
  · cases k4 : (kind == 4)
    · have hm : GV.many ⟨life, chan, false, seq, room, ⟨kind, ver, [r0, r1, r2, r3, r4, r5], time, num, [c0, c1], bins, [t0, t1, t2, t3, t4, t5, t6], [k0, k1, k2], ents⟩⟩ = false := by unfold GV.many; dsimp only; rw [k3, k4]; rfl
      repeat (first | refine RQ ?_ | ((first | refine WL_Q ?_ | refine WL_Y ?_); (first | refine QW_of (Qt_indexA rfl) ?_ | refine QW_of (Qt_buildA rfl) ?_ | refine QW_of (Qt_ldX rfl) ?_)) | ((first | refine WL_op rfl ?_ | refine WL_yes (h := ?_)); (first | refine OW_callP rfl (hF := in18_fn) (hk := ?_) | refine OW_callP rfl (hF := rMsg_at (by repeat (first | with_reducible exact hMM | apply MsgAt.cons)) n12 n70) (hk := ?_))) | refine RC ?_ | refine WG 7 ?_ | refine WG 9 ?_ | refine WG 11 ?_)
      exact ⟨rfl, _, L, Res2 rfl (resV_tmp rfl) (resV_tmp rfl), (by repeat (first | exact List.Sublist.refl _ | apply List.Sublist.cons)), by rw [fin hm]; rfl, rfl⟩
    · by_cases hn : 64 < ents.length
      · have d5 : decide (((ents.length : Nat) : Int) > 64) = true := decide_eq_true (by omega)
        have hm : GV.many ⟨life, chan, false, seq, room, ⟨kind, ver, [r0, r1, r2, r3, r4, r5], time, num, [c0, c1], bins, [t0, t1, t2, t3, t4, t5, t6], [k0, k1, k2], ents⟩⟩ = true := by unfold GV.many; dsimp only; rw [k3, k4, decide_eq_true hn]; rfl
        repeat (first | refine RQ ?_ | ((first | refine WL_Q ?_ | refine WL_Y ?_); (first | refine QW_of (Qt_indexA rfl) ?_ | refine QW_of (Qt_buildA rfl) ?_ | refine QW_of (Qt_ldX rfl) ?_)) | ((first | refine WL_op rfl ?_ | refine WL_yes (h := ?_)); (first | refine OW_callP rfl (hF := in18_fn) (hk := ?_))) | refine RC ?_ | refine WG 7 ?_ | refine WG 9 ?_ | refine WG 10 ?_)
        exact ⟨rfl, _, L, Res2 rfl (resV_tmp rfl) (resV_tmp rfl), (by repeat (first | exact List.Sublist.refl _ | apply List.Sublist.cons)), by rw [show GV.put ⟨life, chan, false, seq, room, ⟨kind, ver, [r0, r1, r2, r3, r4, r5], time, num, [c0, c1], bins, [t0, t1, t2, t3, t4, t5, t6], [k0, k1, k2], ents⟩⟩ = ([], 4) from by simp [GV.put, b1, b2, b4, hm]]; rfl, rfl⟩
      · have d5 : decide (((ents.length : Nat) : Int) > 64) = false := decide_eq_false (by omega)
        have hm : GV.many ⟨life, chan, false, seq, room, ⟨kind, ver, [r0, r1, r2, r3, r4, r5], time, num, [c0, c1], bins, [t0, t1, t2, t3, t4, t5, t6], [k0, k1, k2], ents⟩⟩ = false := by unfold GV.many; dsimp only; rw [k3, k4, decide_eq_false hn]; rfl
        repeat (first | refine RQ ?_ | ((first | refine WL_Q ?_ | refine WL_Y ?_); (first | refine QW_of (Qt_indexA rfl) ?_ | refine QW_of (Qt_buildA rfl) ?_ | refine QW_of (Qt_ldX rfl) ?_)) | ((first | refine WL_op rfl ?_ | refine WL_yes (h := ?_)); (first | refine OW_callP rfl (hF := in18_fn) (hk := ?_) | refine OW_callP rfl (hF := rMsg_at (by repeat (first | with_reducible exact hMM | apply MsgAt.cons)) n12 n70) (hk := ?_))) | refine RC ?_ | refine WG 7 ?_ | refine WG 9 ?_ | refine WG 11 ?_)
        exact ⟨rfl, _, L, Res2 rfl (resV_tmp rfl) (resV_tmp rfl), (by repeat (first | exact List.Sublist.refl _ | apply List.Sublist.cons)), by rw [fin hm]; rfl, rfl⟩
  · have k4 : (kind == 4) = false := by
      have : kind = 3 := by simpa using k3
      rw [this]; rfl
    by_cases hn : 8 < bins.length
    · have d5 : decide (((bins.length : Nat) : Int) > 8) = true := decide_eq_true (by omega)
      have hm : GV.many ⟨life, chan, false, seq, room, ⟨kind, ver, [r0, r1, r2, r3, r4, r5], time, num, [c0, c1], bins, [t0, t1, t2, t3, t4, t5, t6], [k0, k1, k2], ents⟩⟩ = true := by unfold GV.many; dsimp only; rw [k3, decide_eq_true hn]; rfl
      repeat (first | refine RQ ?_ | ((first | refine WL_Q ?_ | refine WL_Y ?_); (first | refine QW_of (Qt_indexA rfl) ?_ | refine QW_of (Qt_buildA rfl) ?_ | refine QW_of (Qt_ldX rfl) ?_)) | ((first | refine WL_op rfl ?_ | refine WL_yes (h := ?_)); (first | refine OW_callP rfl (hF := in18_fn) (hk := ?_))) | refine RC ?_ | refine WG 7 ?_ | refine WG 9 ?_ | refine WG 10 ?_)
      exact ⟨rfl, _, L, Res2 rfl (resV_tmp rfl) (resV_tmp rfl), (by repeat (first | exact List.Sublist.refl _ | apply List.Sublist.cons)), by rw [show GV.put ⟨life, chan, false, seq, room, ⟨kind, ver, [r0, r1, r2, r3, r4, r5], time, num, [c0, c1], bins, [t0, t1, t2, t3, t4, t5, t6], [k0, k1, k2], ents⟩⟩ = ([], 4) from by simp [GV.put, b1, b2, b4, hm]]; rfl, rfl⟩
    · have d5 : decide (((bins.length : Nat) : Int) > 8) = false := decide_eq_false (by omega)
      have hm : GV.many ⟨life, chan, false, seq, room, ⟨kind, ver, [r0, r1, r2, r3, r4, r5], time, num, [c0, c1], bins, [t0, t1, t2, t3, t4, t5, t6], [k0, k1, k2], ents⟩⟩ = false := by unfold GV.many; dsimp only; rw [k3, k4, decide_eq_false hn]; rfl
      repeat (first | refine RQ ?_ | ((first | refine WL_Q ?_ | refine WL_Y ?_); (first | refine QW_of (Qt_indexA rfl) ?_ | refine QW_of (Qt_buildA rfl) ?_ | refine QW_of (Qt_ldX rfl) ?_)) | ((first | refine WL_op rfl ?_ | refine WL_yes (h := ?_)); (first | refine OW_callP rfl (hF := in18_fn) (hk := ?_) | refine OW_callP rfl (hF := rMsg_at (by repeat (first | with_reducible exact hMM | apply MsgAt.cons)) n12 n70) (hk := ?_))) | refine RC ?_ | refine WG 7 ?_ | refine WG 9 ?_ | refine WG 11 ?_)
      exact ⟨rfl, _, L, Res2 rfl (resV_tmp rfl) (resV_tmp rfl), (by repeat (first | exact List.Sublist.refl _ | apply List.Sublist.cons)), by rw [fin hm]; rfl, rfl⟩
end Go.Proofs.YtdiaogcogkapgaaGreatDoor
namespace Go.Proofs.YtdiaogcogkapgaaGreatDoor
open Go.RowKit
def prU (l : List UInt8) (most a : Nat) : PR Int := if uCode l a = 0 then (if uVal l a ≤ most then .ok (uVal l a : Nat) (uNext l a) else .bad 2 a) else .bad (uCode l a) a
def prT (l : List UInt8) (a : Nat) : PR Bool := if tCode l a = 0 then .ok ((bVal l a).toNat == 1) (a + 1) else .bad (tCode l a) a
def prN (l : List UInt8) (a : Nat) : PR Int := if uCode l a = 0 then .ok (uVal l a : Nat) (uNext l a) else .bad (uCode l a) a
def prTail (l : List UInt8) (life chan : Int) (ack : Bool) (seq : Int) (a : Nat) : PR GV :=
  if ack = true then (prU l 16 a).bind fun room b => .ok ⟨life, chan, true, seq, room, MV.none⟩ b else (prMsg l a).bind fun m b => .ok ⟨life, chan, false, seq, 0, m⟩ b
def prEnd {α : Type} (l : List UInt8) (x : α) (a : Nat) : PR α := if a < l.length then .bad 4 a else .ok x a
def prGram (l : List UInt8) : PR GV :=
  (prU l 65535 0).bind fun life a1 => (prU l 99 a1).bind fun chan a2 => (prT l a2).bind fun ack a3 => (prN l a3).bind fun seq a4 => (prTail l life chan ack seq a4).bind fun g a5 => prEnd l g a5
def GV.bytes (g : GV) : List UInt8 := if g.ack = true then g.head ++ enc g.room.toNat else g.head ++ g.m.enc
structure GV.Lim (g : GV) : Prop where
  l0 : 0 ≤ g.life
  l1 : g.life ≤ 65535
  c0 : 0 ≤ g.chan
  c1 : g.chan ≤ 99
  s0 : 0 ≤ g.seq
  s1 : g.seq < 18446744073709551616
  r0 : 0 ≤ g.room
  r1 : g.room ≤ 16
  yes : g.ack = true → g.m = MV.none
  no : g.ack = false → g.room = 0 ∧ g.m.Lim
theorem GV.Lim.ok {g : GV} (h : g.Lim) : g.Ok := by
  refine ⟨⟨?_, ?_⟩, ⟨?_, ?_⟩, h.s0, h.s1, ⟨?_, ?_⟩, ?_⟩
  any_goals (have := h.l0; have := h.l1; have := h.c0; have := h.c1; have := h.r0; have := h.r1; omega)
  cases ha : g.ack
  · exact (h.no ha).2.ok
  · rw [h.yes ha]; exact MV.none_ok
theorem GV.Lim.put {g : GV} (h : g.Lim) : g.put = (g.bytes, 0) := by
  have b1 : inB g.life 65535 = true := by simp [inB, h.l0, h.l1]
  have b2 : inB g.chan 99 = true := by simp [inB, h.c0, h.c1]
  have b3 : inB g.room 16 = true := by simp [inB, h.r0, h.r1]
  unfold GV.put GV.bytes
  rw [b1, b2, b3]
  cases ha : g.ack
  · have hm := (h.no ha).2
    have b4 : inB g.m.kind 4 = true := by simp [inB, hm.k0, hm.k4]
    have b5 : g.many = false := by
      have := hm.nb
      have := hm.ne
      simp [GV.many, show ¬ (8 < g.m.bins.length) by omega, show ¬ (64 < g.m.ents.length) by omega]
    rw [b4, b5]
    simp
  · simp
theorem prU_went {l : List UInt8} {most a b : Nat} {x : Int} (h : prU l most a = .ok x b) : Went l (0 ≤ x ∧ x ≤ most ∧ x < 18446744073709551616) (enc x.toNat) a b := by
  unfold prU at h
  split at h
  · rename_i hc
    split at h
    · rename_i hm
      cases h
      obtain ⟨h1, h2, h3⟩ := u_went hc
      have := val_lt ((l.drop a).take (cont l a + 1))
      exact ⟨⟨by omega, by omega, by show ((uVal l a : Nat) : Int) < _; unfold uVal; omega⟩, h1, h2, by rw [Int.toNat_natCast, h3]⟩
    · cases h
  · cases h
theorem prN_went {l : List UInt8} {a b : Nat} {x : Int} (h : prN l a = .ok x b) : Went l (0 ≤ x ∧ x < 18446744073709551616) (enc x.toNat) a b := by
  unfold prN at h
  split at h
  · rename_i hc
    cases h
    obtain ⟨h1, h2, h3⟩ := u_went hc
    have := val_lt ((l.drop a).take (cont l a + 1))
    exact ⟨⟨by omega, by show ((uVal l a : Nat) : Int) < _; unfold uVal; omega⟩, h1, h2, by rw [Int.toNat_natCast, h3]⟩
  · cases h
theorem prT_pr {l : List UInt8} {a : Nat} : Fk.pr l a .tt = (prT l a).bind fun x b => .ok (.bool x) b := by
  simp only [Fk.pr, prT]
  split <;> rfl
theorem prT_went {l : List UInt8} {a b : Nat} {x : Bool} (h : prT l a = .ok x b) : Went l True (encB x) a b := by
  have h2 : Fk.pr l a .tt = .ok (.bool x) b := by rw [prT_pr, h]; rfl
  have := pr_went h2
  exact ⟨trivial, this.2⟩
theorem prTail_went {l : List UInt8} {life chan seq : Int} {ack : Bool} {a b : Nat} {g : GV} (h : prTail l life chan ack seq a = .ok g b) (h1 : 0 ≤ life ∧ life ≤ 65535) (h2 : 0 ≤ chan ∧ chan ≤ 99) (h3 : 0 ≤ seq ∧ seq < 18446744073709551616) :
    ∃ t, g.Lim ∧ g.bytes = ((enc life.toNat ++ enc chan.toNat) ++ encB ack ++ enc seq.toNat) ++ t ∧ a ≤ b ∧ b ≤ l.length ∧ t = cut l a b := by
  unfold prTail at h
  split at h
  · rename_i ha
    obtain ⟨x, a', e1, e2⟩ := PR.bind_ok h
    cases e2
    obtain ⟨⟨q0, q1, q2⟩, w1, w2, w3⟩ := prU_went e1
    refine ⟨enc x.toNat, ⟨h1.1, h1.2, h2.1, h2.2, h3.1, h3.2, q0, by simpa using q1, fun _ => rfl, fun q => (by cases q)⟩, ?_, w1, w2, w3⟩
    simp [GV.bytes, GV.head, ha]
  · rename_i ha
    obtain ⟨m, a', e1, e2⟩ := PR.bind_ok h
    cases e2
    obtain ⟨q0, w1, w2, w3⟩ := prMsg_went e1
    refine ⟨m.enc, ⟨h1.1, h1.2, h2.1, h2.2, h3.1, h3.2, Int.le_refl 0, (by show (0 : Int) ≤ 16; decide), fun q => (by cases q), fun _ => ⟨rfl, q0⟩⟩, ?_, w1, w2, w3⟩
    have : ack = false := by simpa using ha
    simp [GV.bytes, GV.head, this]
theorem prGram_went {l : List UInt8} {b : Nat} {g : GV} (h : prGram l = .ok g b) : g.Lim ∧ b = l.length ∧ g.bytes = l := by
  unfold prGram at h
  obtain ⟨life, a1, e1, h⟩ := PR.bind_ok h
  obtain ⟨chan, a2, e2, h⟩ := PR.bind_ok h
  obtain ⟨ack, a3, e3, h⟩ := PR.bind_ok h
  obtain ⟨seq, a4, e4, h⟩ := PR.bind_ok h
  obtain ⟨g', a5, e5, h⟩ := PR.bind_ok h
  obtain ⟨⟨p0, p1, _⟩, l1, m1, c1⟩ := prU_went e1
  obtain ⟨⟨q0, q1, _⟩, l2, m2, c2⟩ := prU_went e2
  obtain ⟨_, l3, m3, c3⟩ := prT_went e3
  obtain ⟨⟨r0, r1⟩, l4, m4, c4⟩ := prN_went e4
  obtain ⟨t, hL, hb, l5, m5, c5⟩ := prTail_went e5 ⟨p0, by simpa using p1⟩ ⟨q0, by simpa using q1⟩ ⟨r0, r1⟩
  unfold prEnd at h
  split at h
  · cases h
  · cases h
    have hbl : b = l.length := by omega
    refine ⟨hL, hbl, ?_⟩
    rw [hb, c1, c2, c3, c4, c5, cut_app l1 l2, cut_app (by omega) l3, cut_app (by omega) l4, cut_app (by omega) l5, hbl]
    unfold cut; simp
theorem enc_prU {most : Nat} {x : Int} (h0 : 0 ≤ x) (h1 : x ≤ most) (h2 : x < 18446744073709551616) (pre post : List UInt8) : prU (pre ++ (enc x.toNat ++ post)) most pre.length = .ok x (pre ++ enc x.toNat).length := by
  obtain ⟨e1, e2, e3⟩ := read_enc (pre := pre) (post := post) (n := x.toNat) (by omega)
  unfold prU
  rw [if_pos e1, e2, e3, if_pos (by omega), Int.toNat_of_nonneg h0]
theorem enc_prN {x : Int} (h0 : 0 ≤ x) (h2 : x < 18446744073709551616) (pre post : List UInt8) : prN (pre ++ (enc x.toNat ++ post)) pre.length = .ok x (pre ++ enc x.toNat).length := by
  obtain ⟨e1, e2, e3⟩ := read_enc (pre := pre) (post := post) (n := x.toNat) (by omega)
  unfold prN
  rw [if_pos e1, e2, e3, Int.toNat_of_nonneg h0]
theorem enc_prT (x : Bool) (pre post : List UInt8) : prT (pre ++ (encB x ++ post)) pre.length = .ok x (pre ++ encB x).length := by
  have h := enc_pr (f := .tt) (v := .bool x) ⟨x, rfl⟩ pre post
  rw [show Fk.enc .tt (.bool x) = encB x from rfl, prT_pr] at h
  obtain ⟨y, b, e1, e2⟩ := PR.bind_ok h
  cases e2
  exact e1
theorem enc_prGram {g : GV} (h : g.Lim) (post : List UInt8) : prGram (g.bytes ++ post) = if 0 < post.length then .bad 4 g.bytes.length else .ok g g.bytes.length := by
  have key : ∀ t : List UInt8, g.bytes = g.head ++ t → (∀ post, prTail (g.head ++ (t ++ post)) g.life g.chan g.ack g.seq g.head.length = .ok g (g.head ++ t).length) → prGram (g.bytes ++ post) = if 0 < post.length then .bad 4 g.bytes.length else .ok g g.bytes.length := by
    intro t hb ht
    have f1 := enc_prU (most := 65535) h.l0 (by simpa using h.l1) (by have := h.l1; omega) [] (enc g.chan.toNat ++ (encB g.ack ++ (enc g.seq.toNat ++ (t ++ post))))
    have f2 := enc_prU (most := 99) h.c0 (by simpa using h.c1) (by have := h.c1; omega) (enc g.life.toNat) (encB g.ack ++ (enc g.seq.toNat ++ (t ++ post)))
    have f3 := enc_prT g.ack (enc g.life.toNat ++ enc g.chan.toNat) (enc g.seq.toNat ++ (t ++ post))
    have f4 := enc_prN h.s0 h.s1 (enc g.life.toNat ++ enc g.chan.toNat ++ encB g.ack) (t ++ post)
    have f5 := ht post
    have eq : g.bytes ++ post = enc g.life.toNat ++ (enc g.chan.toNat ++ (encB g.ack ++ (enc g.seq.toNat ++ (t ++ post)))) := by
      rw [hb]; simp only [GV.head, List.append_assoc]
    have hlen : (g.head ++ t).length = g.bytes.length := by rw [hb]
    simp only [List.nil_append, List.length_nil] at f1
    simp only [GV.head, List.append_assoc] at f1 f2 f3 f4 f5 hlen
    unfold prGram
    rw [eq, f1]
    simp only [PR.bind]
    rw [f2]
    simp only
    rw [f3]
    simp only
    rw [f4]
    simp only
    rw [f5]
    simp only
    rw [hlen]
    unfold prEnd
    have e2 : (enc g.life.toNat ++ (enc g.chan.toNat ++ (encB g.ack ++ (enc g.seq.toNat ++ (t ++ post))))).length = g.bytes.length + post.length := by rw [← eq, List.length_append]
    rw [e2]
    by_cases hp : 0 < post.length
    · rw [if_pos (by omega), if_pos hp]
    · rw [if_neg (by omega), if_neg hp]
  cases ha : g.ack
  · obtain ⟨hr, hm⟩ := h.no ha
    refine key g.m.enc (by unfold GV.bytes; rw [ha]; rfl) fun post => ?_
    unfold prTail
    rw [ha, if_neg (by decide), enc_prMsg hm]
    simp only [PR.bind]
    congr 1
    obtain ⟨life, chan, ack, seq, room, m⟩ := g
    dsimp only at ha hr ⊢
    rw [ha, hr]
  · refine key (enc g.room.toNat) (by unfold GV.bytes; rw [if_pos ha]) fun post => ?_
    unfold prTail
    rw [ha, if_pos rfl, enc_prU h.r0 (by simpa using h.r1) (by have := h.r1; omega)]
    simp only [PR.bind]
    congr 1
    have hm := h.yes ha
    obtain ⟨life, chan, ack, seq, room, m⟩ := g
    dsimp only at ha hm ⊢
    rw [ha, hm]
theorem enc_prGram0 {g : GV} (h : g.Lim) : prGram g.bytes = .ok g g.bytes.length := by
  have := enc_prGram h []
  rwa [List.append_nil, if_neg (by simp)] at this
end Go.Proofs.YtdiaogcogkapgaaGreatDoor
namespace Go.Proofs.YtdiaogcogkapgaaGreatDoor
open Go.RowKit
def idxL : Nat → List Value → List (Nat × Value)
  | _, [] => []
  | k, x :: r => (k, x) :: idxL (k + 1) r
theorem fill_idx {n : Nat} : ∀ (xs : List Value) (k : Nat) (pre z : List Value), pre.length = k * n → z.length = xs.length * n → (∀ x ∈ xs, x.cells.size = n) →
    FilledA n (pre ++ z).toArray (idxL k xs) (pre ++ xs.flatMap fun x => x.cells.toList).toArray
  | [], k, pre, z, _, hz, _ => by
    have : z = [] := List.length_eq_zero_iff.1 (by simpa using hz)
    subst this
    show _ = _
    simp
  | x :: r, k, pre, z, hp, hz, hx => by
    have h1 := hx x (by simp)
    have h2 : z.length = r.length * n + n := by rw [hz, List.length_cons, Nat.succ_mul]
    refine ⟨h1, by rw [List.size_toArray, List.length_append]; omega, ?_⟩
    have ih := fill_idx (n := n) r (k + 1) (pre ++ x.cells.toList) (z.drop n) (by rw [List.length_append, hp, Nat.succ_mul, Array.length_toList, h1]) (by rw [List.length_drop]; omega) (fun y hy => hx y (by simp [hy]))
    have e : putR (pre ++ z).toArray (k * n) x.cells = ((pre ++ x.cells.toList) ++ z.drop n).toArray := by
      unfold putR
      rw [← hp, h1]
      simp only [List.take_left, List.drop_append, List.append_assoc]
      rw [List.drop_eq_nil_of_le (by omega), List.nil_append]
      congr 4
      omega
    rw [e]
    simpa using ih
theorem OW_buildS {c : Cx} {o : Oper} {Kn : St → Prop} {K : Exit → St → Prop} {s : List (Nat × Value)} {D : List Deferred} {L : List (Nat × Obj)} {t E n m by_ d : Nat} {z : Array Value} {parts : Array (Nat × Operand)} {xs : List Value} [hu : TUnd c.P t (.slice E)] [hrow : TRow c.P E z n by_] (ho : o.op = .buildSlice t m parts) (_hv : evs s (parts.toList.map fun q => q.2) = some xs := by exact rfl) (hx : evp s parts.toList = some (idxL 0 xs) := by exact rfl) (hm : xs.length = m := by exact rfl)
    (hk : ∀ b, Kn ⟨(d, .slice (some ⟨b, 0, none⟩) m m) :: s, D, (b, .cells (xs.flatMap fun x => x.cells.toList).toArray E) :: L⟩) (hc0 : (xs.all fun x => x.cells.size == n) = true := by exact rfl) (hn0 : Nat.ble 1 (m * n) = true := by exact rfl) (hn1 : Nat.ble (m * n) 16777216 = true := by exact rfl) (hdst : o.dst = some d := by exact rfl) (hd : Nat.blt d c.N = true := by exact rfl) : OW c o Kn K ⟨s, D, L⟩ := fun a w ha => by
  have hc : ∀ x ∈ xs, x.cells.size = n := fun x hx => by simpa using List.all_eq_true.1 hc0 x hx
  refine ⟨fun _ _ => trivial, ?_⟩
  obtain ⟨i, zz, h1, h2, h3, h4, h5, h6⟩ := hrow.h
  have hn0 := Nat.le_of_ble_eq_true hn0
  have hn1 := Nat.le_of_ble_eq_true hn1
  have hb := run_buildSlice (P := c.P) w t E m (parts.map fun (i, x) => (i, a.eval x)) (xs.flatMap fun x => x.cells.toList).toArray i zz hu.h h1 h2 (by rw [h4]; omega) (by rw [h4]; omega) (by
    rw [h4, Array.toList_map, evp_map (fun x u hu => ha.ev hu) hx]
    generalize hAe : (Array.range (m * n)).map (zz.cells[· % zz.cells.size]!) = A
    have hA : A.size = m * n := by rw [← hAe]; simp
    have hf := fill_of_FilledA (fill_idx (n := n) xs 0 [] A.toList (by simp) (by rw [Array.length_toList, hA, hm]) hc)
    rw [List.nil_append, List.nil_append, Array.toArray_toList] at hf
    exact hf)
  have hr : (execOp a.eval o).run c.P w = .ok (.value (.slice (some ⟨w.heap.size, 0, none⟩) m m)) (w.alloc (.cells (xs.flatMap fun x => x.cells.toList).toArray E)) := by
    simp [execOp, ho, hb]
  rw [Oper.semAt_eq _ _ _ (by rw [ho]; intro cc h; cases h), hr]
  refine ⟨_, ?_, hk w.heap.size⟩
  rw [hdst]
  exact (ha.mem' (ha.mem.alloc _)).put (d := some d) hd _
end Go.Proofs.YtdiaogcogkapgaaGreatDoor
namespace Go.Proofs.YtdiaogcogkapgaaGreatDoor
open Go.RowKit
attribute [local irreducible] Fn WC WL WR OW Qt YieldFn QW FnP FnD FnE
theorem Qt_typeAssertN {c : Cx} {s : List (Nat × Value)} {L : List (Nat × Obj)} {o : Oper} {t u e : TypeId} {z : Value} [hu : TUnd c.P t (.pointer e)] [hz : TZero c.P t z] {x : Operand} (ho : o.op = .typeAssert x u t true) (hx : ev s x = some .nilIface := by exact rfl) : Qt c s L o (.tuple #[z, .bool false]) :=
  Qt_of_run (by simp [ho]) (fun ρ hρ w _ => by
    have h1 := hz.h w
    simp [execOp, ho, hρ x _ hx, Instr.typeAssert, run_underlying hu.h, h1])
abbrev gtO (rb a : Nat) : Obj := .cells #[.pointer (some ⟨rb, 0, none⟩), .int .i64 (a : Nat)] 254 (0, 0)
def GMem (gb rb : Nat) (l : List UInt8) (s : Nat × Nat) (Lp : List (Nat × Obj)) : Prop := Lp = [(rb, rdO l s.1), (gb, gtO rb s.2)] ∧ s.1 ≤ l.length
def stpAt : Fk → Nat × Nat → Nat
  | .kk, s => s.1
  | _, s => s.2
def getStp (l : List UInt8) (k : Fk) (s : Nat × Nat) : RW (Nat × Nat) := match Fk.pr l s.1 k with
  | .ok x b => .ok (b, stpAt k s) x
  | .bad c a => .bad c a
theorem getStp_ok {l : List UInt8} {k : Fk} {s s' : Nat × Nat} {x : Value} (h : getStp l k s = .ok s' x) : Fk.pr l s.1 k = .ok x s'.1 := by
  unfold getStp at h
  split at h
  · rename_i h1; cases h; exact h1
  · cases h
def getW (gb rb : Nat) (l : List UInt8) : Wy Tryz.prog where
  S := Nat × Nat
  t := 252
  v := .pointer (some ⟨gb, 0, none⟩)
  T0 := []
  mem := GMem gb rb l
  room := fun _ _ => True
  stp := fun k s _ => getStp l k s
  hr := fun s => (s.1, s.1)
  mst := fun b code s => if b then none else some (code, s.2)
  keeps := .inl rfl
  stp_ok := fun h _ => (pr_went (getStp_ok h)).1
  hr_room := fun h => h
  key_ok := fun {s x s' y} _ _ h hm => by
    unfold getStp at h
    simp only [Fk.pr] at h
    by_cases hc : uCode l s.1 = 0
    · rw [if_pos hc] at h
      simp only [RW.ok.injEq, Value.int.injEq, true_and] at h
      obtain ⟨h1, h2⟩ := h
      have hy : y ≤ 4294967295 := by
        rcases Decidable.em (y ≤ 4294967295) with h3 | h3
        · exact h3
        · simp only [decide_eq_false h3] at hm; cases hm
      refine ⟨?_, by omega⟩
      unfold getStp
      simp only [Fk.pr]
      rw [if_pos hc, if_pos (by omega)]
      simp only [RW.ok.injEq, Value.int.injEq, true_and]
      exact ⟨h1, h2⟩
    · rw [if_neg hc] at h; cases h
  key_bad := fun {s x c a} h => by
    unfold getStp at h ⊢
    simp only [Fk.pr] at h ⊢
    by_cases hc : uCode l s.1 = 0
    · rw [if_pos hc] at h; cases h
    · rw [if_neg hc] at h ⊢; exact h
  key_must := fun {s x s' y c a} h hm => by
    unfold getStp at h ⊢
    simp only [Fk.pr] at h ⊢
    by_cases hc : uCode l s.1 = 0
    · rw [if_pos hc] at h ⊢
      simp only [RW.ok.injEq, Value.int.injEq, true_and] at h
      obtain ⟨h1, h2⟩ := h
      have hy : ¬ y ≤ 4294967295 := fun h3 => by simp only [decide_eq_true h3, if_true] at hm; cases hm
      rw [if_neg (by omega)]
      simp only [decide_eq_false hy] at hm
      simp only [Bool.false_eq_true, if_false, Option.some.injEq, Prod.mk.injEq] at hm
      obtain ⟨rfl, rfl⟩ := hm
      subst h1
      rfl
    · rw [if_neg hc] at h; cases h
  stp_room := fun _ _ _ => trivial
  room_le := fun _ _ => trivial
theorem taken_int64 {x : Value} {L : List (Nat × Obj)} : Fn Tryz.prog 189 [x, .nilIface] L (fun v L' => v = x ∧ L' = L) := by
  refine Fn_enter Tryz.func189 rfl Tryz.ntmps189 rfl fun g => ?_
  repeat (first | refine RQ ?_ | (refine WL_Q ?_; (first | refine QW_of (Qt_typeAssertN rfl) ?_)) | refine RC ?_ | refine WC_region ?_)
  exact ⟨rfl, _, _, Res1 rfl (resV_tmp rfl), .refl _, rfl, rfl⟩
theorem taken_int64_no {x : Value} {p : Nat} {L : List (Nat × Obj)} : FnP Tryz.prog 189 [x, flt p] L (fun v L' => v = flt p ∧ L' = L) := by
  refine FnP_enter Tryz.func189 rfl Tryz.ntmps189 rfl fun g => ?_
  repeat (first | refine RQ ?_ | (refine WL_Q ?_; (first | refine QW_of (Qt_typeAssertN rfl) ?_)) | refine RC ?_ | refine WC_region ?_)
  refine WL_op rfl (OW_panic (σ := ⟨_, _, _⟩) rfl rfl ?_)
  exact ⟨_, rfl, rfl, rfl⟩
theorem taken_uint64 {x : Value} {L : List (Nat × Obj)} : Fn Tryz.prog 185 [x, .nilIface] L (fun v L' => v = x ∧ L' = L) := by
  refine Fn_enter Tryz.func185 rfl Tryz.ntmps185 rfl fun g => ?_
  repeat (first | refine RQ ?_ | (refine WL_Q ?_; (first | refine QW_of (Qt_typeAssertN rfl) ?_)) | refine RC ?_ | refine WC_region ?_)
  exact ⟨rfl, _, _, Res1 rfl (resV_tmp rfl), .refl _, rfl, rfl⟩
theorem taken_uint64_no {x : Value} {p : Nat} {L : List (Nat × Obj)} : FnP Tryz.prog 185 [x, flt p] L (fun v L' => v = flt p ∧ L' = L) := by
  refine FnP_enter Tryz.func185 rfl Tryz.ntmps185 rfl fun g => ?_
  repeat (first | refine RQ ?_ | (refine WL_Q ?_; (first | refine QW_of (Qt_typeAssertN rfl) ?_)) | refine RC ?_ | refine WC_region ?_)
  refine WL_op rfl (OW_panic (σ := ⟨_, _, _⟩) rfl rfl ?_)
  exact ⟨_, rfl, rfl, rfl⟩
theorem taken_bool {x : Value} {L : List (Nat × Obj)} : Fn Tryz.prog 188 [x, .nilIface] L (fun v L' => v = x ∧ L' = L) := by
  refine Fn_enter Tryz.func188 rfl Tryz.ntmps188 rfl fun g => ?_
  repeat (first | refine RQ ?_ | (refine WL_Q ?_; (first | refine QW_of (Qt_typeAssertN rfl) ?_)) | refine RC ?_ | refine WC_region ?_)
  exact ⟨rfl, _, _, Res1 rfl (resV_tmp rfl), .refl _, rfl, rfl⟩
theorem taken_bool_no {x : Value} {p : Nat} {L : List (Nat × Obj)} : FnP Tryz.prog 188 [x, flt p] L (fun v L' => v = flt p ∧ L' = L) := by
  refine FnP_enter Tryz.func188 rfl Tryz.ntmps188 rfl fun g => ?_
  repeat (first | refine RQ ?_ | (refine WL_Q ?_; (first | refine QW_of (Qt_typeAssertN rfl) ?_)) | refine RC ?_ | refine WC_region ?_)
  refine WL_op rfl (OW_panic (σ := ⟨_, _, _⟩) rfl rfl ?_)
  exact ⟨_, rfl, rfl, rfl⟩
theorem taken_byte {x : Value} {L : List (Nat × Obj)} : Fn Tryz.prog 186 [x, .nilIface] L (fun v L' => v = x ∧ L' = L) := by
  refine Fn_enter Tryz.func186 rfl Tryz.ntmps186 rfl fun g => ?_
  repeat (first | refine RQ ?_ | (refine WL_Q ?_; (first | refine QW_of (Qt_typeAssertN rfl) ?_)) | refine RC ?_ | refine WC_region ?_)
  exact ⟨rfl, _, _, Res1 rfl (resV_tmp rfl), .refl _, rfl, rfl⟩
theorem taken_byte_no {x : Value} {p : Nat} {L : List (Nat × Obj)} : FnP Tryz.prog 186 [x, flt p] L (fun v L' => v = flt p ∧ L' = L) := by
  refine FnP_enter Tryz.func186 rfl Tryz.ntmps186 rfl fun g => ?_
  repeat (first | refine RQ ?_ | (refine WL_Q ?_; (first | refine QW_of (Qt_typeAssertN rfl) ?_)) | refine RC ?_ | refine WC_region ?_)
  refine WL_op rfl (OW_panic (σ := ⟨_, _, _⟩) rfl rfl ?_)
  exact ⟨_, rfl, rfl, rfl⟩
section
variable {gb rb : Nat} {l : List UInt8} (hl9 : l.length ≤ 1000000000)
include hl9
set_option maxHeartbeats 1000000 in
theorem get_whole : Flat (getW gb rb l) 184 (.pointer (some ⟨gb, 0, none⟩)) [.ww] := by
  rintro (s : Nat × Nat) _ R i b cs E fr off vs ⟨rfl, ha⟩ hT _ hR hv hl hfr
  obtain ⟨x0, us, rfl, hx, hv'⟩ := hv.split
  obtain rfl := hv'.nil
  have hc := hl.cons.1
  have hz : off < cs.size := (Array.getElem?_eq_some_iff.1 hc).1
  refine FnE_enter Tryz.func184 rfl Tryz.ntmps184 rfl fun g => ?_
  repeat (first | refine RQ ?_ | (refine WL_Q ?_; (first | refine QW_of (Qt_typeAssertN rfl) ?_)) | (refine RE ?_; try intro _) | refine RC ?_ | refine WC_region ?_)
  refine WL_op rfl (OW_call rfl (hF := I_fn ha hl9 _) (hk := ?_))
  rintro _ _ (⟨h0, rfl, rfl⟩ | ⟨h0, p, rfl, rfl⟩)
  · have hs : getStp l .ww s = .ok (uNext l s.1, s.2) (.int .i64 (whole (uVal l s.1))) := by unfold getStp; simp only [Fk.pr]; rw [if_pos h0]; rfl
    repeat (first | refine RQ ?_ | (refine WL_Q ?_; (first | refine QW_of (Qt_typeAssertN rfl) ?_)) | (refine RE ?_; try intro _) | refine RC ?_ | refine WC_region ?_)
    refine WL_op rfl (OW_callP rfl (hF := taken_int64) (hk := ?_))
    repeat (first | refine RQ ?_ | (refine WL_Q ?_; (first | refine QW_of (Qt_typeAssertN rfl) ?_)) | (refine RE ?_; try intro _) | refine RC ?_ | refine WC_region ?_)
    have hX : ((rb, rdO l (uNext l s.1)) :: (gb, gtO rb s.2) :: R)[i + 2]? = some (b, .cells cs E fr) := hR
    refine WL_op rfl (OW_store1F (v := .int .i64 (whole (uVal l s.1))) rfl _ hX hz (hfr.sub 0 1 (Nat.le_refl _)) (WL_nil ?_))
    refine ⟨.tuple #[], _, Res0 rfl, .refl _, rfl, (uNext l s.1, s.2), [.int .i64 (whole (uVal l s.1))], [(rb, rdO l (uNext l s.1)), (gb, gtO rb s.2)], cs.setIfInBounds off (.int .i64 (whole (uVal l s.1))), (getW gb rb l).stps1_ok hs, rfl, ⟨rfl, ?_⟩, Upd.one _ hz, fun q hq => by cases hq⟩
    exact (pr_went (getStp_ok hs)).2.2.1
  · have hs : getStp l .ww s = .bad (uCode l s.1) s.1 := by unfold getStp; simp only [Fk.pr]; rw [if_neg h0]
    repeat (first | refine RQ ?_ | (refine WL_Q ?_; (first | refine QW_of (Qt_typeAssertN rfl) ?_)) | (refine RE ?_; try intro _) | refine RC ?_ | refine WC_region ?_)
    refine WL_op rfl (OW_pan rfl taken_int64_no fun v L' h => ?_)
    obtain ⟨rfl, rfl⟩ := h
    exact ⟨_, rfl, uCode l s.1, s.1, p, s, [(rb, rdO l s.1), (gb, gtO rb s.2)], cs, (getW gb rb l).stps1_bad hs, rfl, by rw [set_same hR]; rfl, ⟨rfl, ha⟩, rfl⟩
set_option maxHeartbeats 1000000 in
theorem get_number : Flat (getW gb rb l) 181 (.pointer (some ⟨gb, 0, none⟩)) [.nn] := by
  rintro (s : Nat × Nat) _ R i b cs E fr off vs ⟨rfl, ha⟩ hT _ hR hv hl hfr
  obtain ⟨x0, us, rfl, hx, hv'⟩ := hv.split
  obtain rfl := hv'.nil
  have hc := hl.cons.1
  have hz : off < cs.size := (Array.getElem?_eq_some_iff.1 hc).1
  refine FnE_enter Tryz.func181 rfl Tryz.ntmps181 rfl fun g => ?_
  repeat (first | refine RQ ?_ | (refine WL_Q ?_; (first | refine QW_of (Qt_typeAssertN rfl) ?_)) | (refine RE ?_; try intro _) | refine RC ?_ | refine WC_region ?_)
  refine WL_op rfl (OW_call rfl (hF := U_fn ha hl9 _) (hk := ?_))
  rintro _ _ (⟨h0, rfl, rfl⟩ | ⟨h0, p, rfl, rfl⟩)
  · have hs : getStp l .nn s = .ok (uNext l s.1, s.2) (.int .u64 (uVal l s.1)) := by unfold getStp; simp only [Fk.pr]; rw [if_pos h0]; rfl
    repeat (first | refine RQ ?_ | (refine WL_Q ?_; (first | refine QW_of (Qt_typeAssertN rfl) ?_)) | (refine RE ?_; try intro _) | refine RC ?_ | refine WC_region ?_)
    refine WL_op rfl (OW_callP rfl (hF := taken_uint64) (hk := ?_))
    repeat (first | refine RQ ?_ | (refine WL_Q ?_; (first | refine QW_of (Qt_typeAssertN rfl) ?_)) | (refine RE ?_; try intro _) | refine RC ?_ | refine WC_region ?_)
    have hX : ((rb, rdO l (uNext l s.1)) :: (gb, gtO rb s.2) :: R)[i + 2]? = some (b, .cells cs E fr) := hR
    refine WL_op rfl (OW_store1F (v := .int .u64 (uVal l s.1)) rfl _ hX hz (hfr.sub 0 1 (Nat.le_refl _)) (WL_nil ?_))
    refine ⟨.tuple #[], _, Res0 rfl, .refl _, rfl, (uNext l s.1, s.2), [.int .u64 (uVal l s.1)], [(rb, rdO l (uNext l s.1)), (gb, gtO rb s.2)], cs.setIfInBounds off (.int .u64 (uVal l s.1)), (getW gb rb l).stps1_ok hs, rfl, ⟨rfl, ?_⟩, Upd.one _ hz, fun q hq => by cases hq⟩
    exact (pr_went (getStp_ok hs)).2.2.1
  · have hs : getStp l .nn s = .bad (uCode l s.1) s.1 := by unfold getStp; simp only [Fk.pr]; rw [if_neg h0]
    repeat (first | refine RQ ?_ | (refine WL_Q ?_; (first | refine QW_of (Qt_typeAssertN rfl) ?_)) | (refine RE ?_; try intro _) | refine RC ?_ | refine WC_region ?_)
    refine WL_op rfl (OW_pan rfl taken_uint64_no fun v L' h => ?_)
    obtain ⟨rfl, rfl⟩ := h
    exact ⟨_, rfl, uCode l s.1, s.1, p, s, [(rb, rdO l s.1), (gb, gtO rb s.2)], cs, (getW gb rb l).stps1_bad hs, rfl, by rw [set_same hR]; rfl, ⟨rfl, ha⟩, rfl⟩
set_option maxHeartbeats 1000000 in
theorem get_truth : Flat (getW gb rb l) 183 (.pointer (some ⟨gb, 0, none⟩)) [.tt] := by
  rintro (s : Nat × Nat) _ R i b cs E fr off vs ⟨rfl, ha⟩ hT _ hR hv hl hfr
  obtain ⟨x0, us, rfl, hx, hv'⟩ := hv.split
  obtain rfl := hv'.nil
  have hc := hl.cons.1
  have hz : off < cs.size := (Array.getElem?_eq_some_iff.1 hc).1
  refine FnE_enter Tryz.func183 rfl Tryz.ntmps183 rfl fun g => ?_
  repeat (first | refine RQ ?_ | (refine WL_Q ?_; (first | refine QW_of (Qt_typeAssertN rfl) ?_)) | (refine RE ?_; try intro _) | refine RC ?_ | refine WC_region ?_)
  refine WL_op rfl (OW_call rfl (hF := Bool_fn ha hl9 _) (hk := ?_))
  rintro _ _ (⟨h0, rfl, rfl⟩ | ⟨h0, p, rfl, rfl⟩)
  · have hs : getStp l .tt s = .ok (s.1 + 1, s.2) (.bool ((bVal l s.1).toNat == 1)) := by unfold getStp; simp only [Fk.pr]; rw [if_pos h0]; rfl
    repeat (first | refine RQ ?_ | (refine WL_Q ?_; (first | refine QW_of (Qt_typeAssertN rfl) ?_)) | (refine RE ?_; try intro _) | refine RC ?_ | refine WC_region ?_)
    refine WL_op rfl (OW_callP rfl (hF := taken_bool) (hk := ?_))
    repeat (first | refine RQ ?_ | (refine WL_Q ?_; (first | refine QW_of (Qt_typeAssertN rfl) ?_)) | (refine RE ?_; try intro _) | refine RC ?_ | refine WC_region ?_)
    have hX : ((rb, rdO l (s.1 + 1)) :: (gb, gtO rb s.2) :: R)[i + 2]? = some (b, .cells cs E fr) := hR
    refine WL_op rfl (OW_store1F (v := .bool ((bVal l s.1).toNat == 1)) rfl _ hX hz (hfr.sub 0 1 (Nat.le_refl _)) (WL_nil ?_))
    refine ⟨.tuple #[], _, Res0 rfl, .refl _, rfl, (s.1 + 1, s.2), [.bool ((bVal l s.1).toNat == 1)], [(rb, rdO l (s.1 + 1)), (gb, gtO rb s.2)], cs.setIfInBounds off (.bool ((bVal l s.1).toNat == 1)), (getW gb rb l).stps1_ok hs, rfl, ⟨rfl, ?_⟩, Upd.one _ hz, fun q hq => by cases hq⟩
    exact (pr_went (getStp_ok hs)).2.2.1
  · have hs : getStp l .tt s = .bad (tCode l s.1) s.1 := by unfold getStp; simp only [Fk.pr]; rw [if_neg h0]
    repeat (first | refine RQ ?_ | (refine WL_Q ?_; (first | refine QW_of (Qt_typeAssertN rfl) ?_)) | (refine RE ?_; try intro _) | refine RC ?_ | refine WC_region ?_)
    refine WL_op rfl (OW_pan rfl taken_bool_no fun v L' h => ?_)
    obtain ⟨rfl, rfl⟩ := h
    exact ⟨_, rfl, tCode l s.1, s.1, p, s, [(rb, rdO l s.1), (gb, gtO rb s.2)], cs, (getW gb rb l).stps1_bad hs, rfl, by rw [set_same hR]; rfl, ⟨rfl, ha⟩, rfl⟩
set_option maxHeartbeats 1000000 in
theorem get_one : Flat (getW gb rb l) 182 (.pointer (some ⟨gb, 0, none⟩)) [.bb] := by
  rintro (s : Nat × Nat) _ R i b cs E fr off vs ⟨rfl, ha⟩ hT _ hR hv hl hfr
  obtain ⟨x0, us, rfl, hx, hv'⟩ := hv.split
  obtain rfl := hv'.nil
  have hc := hl.cons.1
  have hz : off < cs.size := (Array.getElem?_eq_some_iff.1 hc).1
  refine FnE_enter Tryz.func182 rfl Tryz.ntmps182 rfl fun g => ?_
  repeat (first | refine RQ ?_ | (refine WL_Q ?_; (first | refine QW_of (Qt_typeAssertN rfl) ?_)) | (refine RE ?_; try intro _) | refine RC ?_ | refine WC_region ?_)
  refine WL_op rfl (OW_call rfl (hF := Byte_fn ha hl9 _) (hk := ?_))
  rintro _ _ (⟨h0, rfl, rfl⟩ | ⟨h0, p, rfl, rfl⟩)
  · have hs : getStp l .bb s = .ok (s.1 + 1, s.2) (bV (bVal l s.1)) := by unfold getStp; simp only [Fk.pr]; rw [if_pos h0]; rfl
    repeat (first | refine RQ ?_ | (refine WL_Q ?_; (first | refine QW_of (Qt_typeAssertN rfl) ?_)) | (refine RE ?_; try intro _) | refine RC ?_ | refine WC_region ?_)
    refine WL_op rfl (OW_callP rfl (hF := taken_byte) (hk := ?_))
    repeat (first | refine RQ ?_ | (refine WL_Q ?_; (first | refine QW_of (Qt_typeAssertN rfl) ?_)) | (refine RE ?_; try intro _) | refine RC ?_ | refine WC_region ?_)
    have hX : ((rb, rdO l (s.1 + 1)) :: (gb, gtO rb s.2) :: R)[i + 2]? = some (b, .cells cs E fr) := hR
    refine WL_op rfl (OW_store1F (v := bV (bVal l s.1)) rfl _ hX hz (hfr.sub 0 1 (Nat.le_refl _)) (WL_nil ?_))
    refine ⟨.tuple #[], _, Res0 rfl, .refl _, rfl, (s.1 + 1, s.2), [bV (bVal l s.1)], [(rb, rdO l (s.1 + 1)), (gb, gtO rb s.2)], cs.setIfInBounds off (bV (bVal l s.1)), (getW gb rb l).stps1_ok hs, rfl, ⟨rfl, ?_⟩, Upd.one _ hz, fun q hq => by cases hq⟩
    exact (pr_went (getStp_ok hs)).2.2.1
  · have hs : getStp l .bb s = .bad (bCode l s.1) s.1 := by unfold getStp; simp only [Fk.pr]; rw [if_neg h0]
    repeat (first | refine RQ ?_ | (refine WL_Q ?_; (first | refine QW_of (Qt_typeAssertN rfl) ?_)) | (refine RE ?_; try intro _) | refine RC ?_ | refine WC_region ?_)
    refine WL_op rfl (OW_pan rfl taken_byte_no fun v L' h => ?_)
    obtain ⟨rfl, rfl⟩ := h
    exact ⟨_, rfl, bCode l s.1, s.1, p, s, [(rb, rdO l s.1), (gb, gtO rb s.2)], cs, (getW gb rb l).stps1_bad hs, rfl, by rw [set_same hR]; rfl, ⟨rfl, ha⟩, rfl⟩
omit hl9 in
theorem get_here (s : Nat × Nat) (Lp R : List (Nat × Obj)) (h : GMem gb rb l s Lp) : FnE Tryz.prog 179 [.pointer (some ⟨gb, 0, none⟩)] (Lp ++ R) (fun v L' => v = .tuple #[] ∧ ∃ Lp', L' = Lp' ++ R ∧ GMem gb rb l (s.1, s.1) Lp') (fun _ _ => False) := by
  obtain ⟨rfl, ha⟩ := h
  refine FnE.ofFn ?_
  refine Fn_enter Tryz.func179 rfl Tryz.ntmps179 rfl fun g => ?_
  repeat (first | refine RQ ?_ | (refine WL_Q ?_; (first | refine QW_of (Qt_typeAssertN rfl) ?_)) | (refine RE ?_; try intro _) | (refine WL_op rfl ?_; (first | refine OW_S (fun F => place_rd F) ?_)) | refine RC ?_ | refine WC_region ?_)
  exact ⟨rfl, _, _, Res0 rfl, .refl _, rfl, _, rfl, rfl, ha⟩
omit hl9 in
theorem get_must (s : Nat × Nat) (Lp R : List (Nat × Obj)) (b : Bool) (code : Nat) (h : GMem gb rb l s Lp) : FnE Tryz.prog 180 [.pointer (some ⟨gb, 0, none⟩), .bool b, .int .i64 code] (Lp ++ R) (fun v L' => v = .tuple #[] ∧ L' = Lp ++ R ∧ (if b then none else some (code, s.2)) = (none : Option (Nat × Nat))) (fun u L' => ∃ c a p, (if b then none else some (code, s.2)) = some (c, a) ∧ u = flt p ∧ L' = (p, fltO c a) :: (Lp ++ R)) := by
  obtain ⟨rfl, ha⟩ := h
  refine FnE_enter Tryz.func180 rfl Tryz.ntmps180 rfl fun g => ?_
  cases b
  · repeat (first | refine RQ ?_ | (refine WL_Q ?_; (first | refine QW_of (Qt_typeAssertN rfl) ?_)) | (refine RE ?_; try intro _) | refine RC ?_ | refine WC_region ?_)
    refine WL_op rfl (OW_panic (σ := ⟨_, _, _⟩) rfl rfl ?_)
    exact ⟨_, rfl, code, s.2, _, rfl, rfl, rfl⟩
  · repeat (first | refine RQ ?_ | (refine WL_Q ?_; (first | refine QW_of (Qt_typeAssertN rfl) ?_)) | (refine RE ?_; try intro _) | refine RC ?_ | refine WC_region ?_)
    exact ⟨_, _, Res0 rfl, .refl _, rfl, rfl, rfl⟩
def getM : Meth (getW gb rb l) where
  fw := 184
  fn := 181
  ft := 183
  fo := 182
  fh := 179
  fm := 180
  mw := by kernel_rfl
  mn := by kernel_rfl
  mt := by kernel_rfl
  mo := by kernel_rfl
  mh := by kernel_rfl
  mm := by kernel_rfl
  iw := inferInstance
  jn := inferInstance
  it := inferInstance
  io := inferInstance
  ih := inferInstance
  im := inferInstance
  cw := get_whole hl9
  cn := get_number hl9
  ct := get_truth hl9
  co := get_one hl9
  ch := get_here
  cm := fun s Lp R b code h => get_must s Lp R b code h
end
end Go.Proofs.YtdiaogcogkapgaaGreatDoor
