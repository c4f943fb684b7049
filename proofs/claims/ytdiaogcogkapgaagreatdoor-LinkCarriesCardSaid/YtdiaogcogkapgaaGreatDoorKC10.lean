/-
  A part of what the last of these texts needs; by itself it proves no statement.
-/
import Derived.Test.YtdiaogcogkapgaaGreatDoorKC9
namespace Go.Proofs.YtdiaogcogkapgaaGreatDoor
open Go.RowKit
attribute [local irreducible] Fn WC WL WR OW Qt YieldFn QW FnP FnD FnE
theorem len_app {xs ys : List Value} {n m : Nat} (h : xs.length = n) (k : ys.length = m) : (xs ++ ys).length = n + m := by rw [List.length_append, h, k]
theorem oks1 {k : Fk} {v : Value} (h : k.ok v) : Oks [k] [v] := ⟨h, trivial⟩
theorem getF {gb rb : Nat} {l : List UInt8} {f : FuncId} {a0 : Value} {fs : List Fk} {s : Nat × Nat} {Lp R : List (Nat × Obj)} {i b : Nat} {cs : Array Value} {E : TypeId} {fr : Nat × Nat} {off : Nat} {vs : List Value} (hC : Flat (getW gb rb l) f a0 fs) (hM : GMem gb rb l s Lp) (hR : R[i]? = some (b, .cells cs E fr)) (hv : Oks fs vs) (hl : Lies cs off vs) (hfr : Free fr off fs.length) :
    FnE Tryz.prog f [a0, .pointer (some ⟨b, off, none⟩)] (Lp ++ R)
      (fun v L' => v = .tuple #[] ∧ ∃ us s' Lp' cs', prs l fs s.1 = .ok us s'.1 ∧ L' = Lp' ++ R.set i (b, .cells cs' E fr) ∧ GMem gb rb l s' Lp' ∧ Upd cs cs' off us ∧ us.length = fs.length)
      (fun u L' => ∃ c a p s' Lp' cs', prs l fs s.1 = .bad c a ∧ u = flt p ∧ L' = (p, fltO c a) :: (Lp' ++ R.set i (b, .cells cs' E fr)) ∧ GMem gb rb l s' Lp' ∧ cs'.size = cs.size) :=
  (hC s Lp R i b cs E fr off vs hM (fun q hq => by cases hq) trivial hR hv hl hfr).mono (fun v L' ⟨h0, s', us, Lp', cs', h1, h2, h3, h4, _⟩ => ⟨h0, us, s', Lp', cs', get_stps_ok hv h1, h2, h3, h4, (getW gb rb l).stps_len h1 hv⟩) (fun u L' ⟨c, a, p, s', Lp', cs', h1, h2, h3, h4, h5⟩ => ⟨c, a, p, s', Lp', cs', get_stps_bad hv h1, h2, h3, h4, h5⟩)
section
variable {gb rb : Nat} {l : List UInt8} (hl9 : l.length ≤ 1000000000)
include hl9
set_option maxHeartbeats 4000000 in
theorem gcmd {s : Nat × Nat} {Lp R : List (Nat × Obj)} {i b : Nat} {cs : Array Value} {E : TypeId} {fr : Nat × Nat} {off : Nat} {ch ct : List Value} (hM : GMem gb rb l s Lp) (hR : R[i]? = some (b, .cells cs E fr)) (hch : Oks chF ch) (hct : Oks ctF ct) (hl : Lies cs off (ch ++ (.slice none 0 0 :: ct))) (hfr : Free fr off 10) :
    FnE Tryz.prog 96 [getV gb, .pointer (some ⟨b, off, none⟩)] (Lp ++ R)
      (fun v L' => v = .tuple #[] ∧ ∃ x s' Lp' v' T cs', prCmd l s.1 = .ok x s'.1 ∧ L' = Lp' ++ (T ++ R.set i (b, .cells cs' E fr)) ∧ GMem gb rb l s' Lp' ∧ Buf 3 1 v' T x.2.1.length x.2.1.flatten ∧ Upd cs cs' off (x.1 ++ (v' :: x.2.2)))
      (fun u L' => ∃ c a p s' Lp' T cs', prCmd l s.1 = .bad c a ∧ u = flt p ∧ L' = (p, fltO c a) :: (Lp' ++ (T ++ R.set i (b, .cells cs' E fr))) ∧ GMem gb rb l s' Lp' ∧ cs'.size = cs.size) := by
  obtain ⟨c0, us, rfl, h0, hch'⟩ := hch.split
  obtain ⟨c1, us, rfl, h1, hch''⟩ := hch'.split
  obtain rfl := hch''.nil
  obtain ⟨t0, us, rfl, k0, q⟩ := hct.split
  obtain ⟨t1, us, rfl, k1, q⟩ := q.split
  obtain ⟨t2, us, rfl, k2, q⟩ := q.split
  obtain ⟨t3, us, rfl, k3, q⟩ := q.split
  obtain ⟨t4, us, rfl, k4, q⟩ := q.split
  obtain ⟨t5, us, rfl, k5, q⟩ := q.split
  obtain ⟨t6, us, rfl, k6, q⟩ := q.split
  obtain rfl := q.nil
  clear hch hct hch' hch''
  have ih := (getM (gb := gb) (rb := rb) hl9).ih
  have jn := (getM (gb := gb) (rb := rb) hl9).jn
  have im := (getM (gb := gb) (rb := rb) hl9).im
  have iw := (getM (gb := gb) (rb := rb) hl9).iw
  have it := (getM (gb := gb) (rb := rb) hl9).it
  have qw : methX Tryz.prog 252 "anabranch/codec.whole" = some 184 := (getM (gb := gb) (rb := rb) hl9).mw
  have qt : methX Tryz.prog 252 "anabranch/codec.truth" = some 183 := (getM (gb := gb) (rb := rb) hl9).mt
  have qm : methX Tryz.prog 252 "anabranch/codec.must" = some 180 := (getM (gb := gb) (rb := rb) hl9).mm
  have hop : Oks opF [t2, t3, t4, t5] := ⟨k2, k3, k4, k5, trivial⟩
  have hch : ∀ a, prs l chF a = (prs l [.ww] a).bind fun x b => (prs l [.ww] b).bind fun y c => .ok (x ++ y) c := fun a => by rw [show chF = [.ww] ++ [.ww] from rfl, prs_app]
  have hct : ∀ a, prs l ctF a = (prs l [.ww] a).bind fun x b => ((prs l [.ww] b).bind fun x b => ((prs l opF b).bind fun x b => (prs l [.ww] b).bind fun y c => .ok (x ++ y) c).bind fun y c => .ok (x ++ y) c).bind fun y c => .ok (x ++ y) c := fun a => by
    rw [show ctF = [.ww] ++ ([.ww] ++ (opF ++ [.ww])) from rfl, prs_app]
    simp only [prs_app]
  refine FnE_enter Tryz.func96 rfl Tryz.ntmps96 rfl fun g => ?_
  repeat (first | refine RQ ?_ | (refine WL_Q ?_; (first | refine QW_of (Qt_nilCheck_m rfl) ?_)) | refine RC ?_ | refine WG 0 ?_)
  refine WL_op rfl ?_
  refine OW_callE rfl (getF (fs := [.ww]) (small_flat (getM (gb := gb) (rb := rb) hl9)) hM hR (oks1 h0) (hl.cut 0 1) (hfr.sub 0 1 (by decide))) ?_ ?_
  rotate_left
  · rintro _ _ ⟨c, a, p, s', Lp', cs', h1, rfl, rfl, h4, h5⟩
    exact ⟨_, rfl, c, a, p, s', Lp', [], cs', by simp only [prCmd, hch, PR.bind, h1], rfl, rfl, h4, h5⟩
  rintro _ _ ⟨rfl, us0, s0, Lp0, c0, q0, rfl, hM0, u0, n0⟩
  have U0 := u0
  have N0 : us0.length = 1 := n0
  repeat (first | refine RQ ?_ | (refine WL_Q ?_; (first | refine QW_of (Qt_nilCheck_m rfl) ?_)) | refine RC ?_ | refine WG 0 ?_)
  repeat (first | refine RQ ?_ | (refine WL_Q ?_; (first | refine QW_of (Qt_nilCheck_m rfl) ?_)) | refine RC ?_ | refine WG 0 ?_)
  refine WC_draw_sub (id := 1) 8 (.calm 0 <| .calm 1 <| .calm 2 <| .calm 3 <| .calm 4 <| .calm 5 <| .calm 6 <| .must 7 <| .done) mixed (by kernel_rfl) (List.nil_sublist _) ?_
  repeat (first | refine RQr ?_ | (refine RX ?_; (first | refine QW_of (Qt_nilCheck_m rfl) ?_)) | refine RC ?_ | refine RU ?_ | refine WC_draw_all (id := 1) 8 (.calm 0 <| .calm 1 <| .calm 2 <| .calm 3 <| .calm 4 <| .calm 5 <| .calm 6 <| .must 7 <| .done) mixed (by kernel_rfl) ?_ | refine WG 0 ?_)
  refine WR_op rfl rfl ?_
  refine OW_invE (getM (gb := gb) (rb := rb) hl9).mw rfl (getF (fs := [.ww]) (get_whole hl9) hM0 (get_set_self hR _) (oks1 h1) (U0.keep (hl.cut 1 1) (.inr (by rw [N0]; exact Nat.le_refl _))) (hfr.sub 1 1 (by decide))) ?_ ?_
  rotate_left
  · rintro _ _ ⟨c, a, p, s', Lp', cs', h1, rfl, rfl, h4, h5⟩
    try rw [List.set_set]
    exact ⟨_, rfl, c, a, p, s', Lp', [], cs', by simp only [prCmd, hch, PR.bind, q0, h1], rfl, rfl, h4, h5.trans U0.size⟩
  rintro _ _ ⟨rfl, us1, s1, Lp1, c1, q1, rfl, hM1, u1, n1⟩
  rw [List.set_set]
  have U1 := U0.app u1 (by rw [N0])
  have N1 : (us0 ++ us1).length = 2 := len_app N0 n1
  refine ⟨(fun q hq => (by cases hq)), ?_⟩
  repeat (first | refine RQr ?_ | (refine RX ?_; (first | refine QW_of (Qt_nilCheck_m rfl) ?_)) | refine RC ?_ | refine RU ?_ | refine WC_draw_all (id := 1) 8 (.calm 0 <| .calm 1 <| .calm 2 <| .calm 3 <| .calm 4 <| .calm 5 <| .calm 6 <| .must 7 <| .done) mixed (by kernel_rfl) ?_ | refine WC_regB 3 ?_)
  refine WL_op rfl ?_
  refine OW_callE rfl (glist_int (most := 8) hl9 (by decide) hM1 (get_set_self hR _) ((U1.keep (hl.cut 2 1) (.inr (by rw [N1]; exact Nat.le_refl _))) 0 _ rfl) (hfr.sub 2 1 (by decide))) ?_ ?_
  rotate_left
  · rintro _ _ ⟨c, a, p, s', Lp', cs', h1, rfl, rfl, h4, h5⟩
    try rw [List.set_set]
    exact ⟨_, rfl, c, a, p, s', Lp', [], cs', by simp only [prCmd, hch, PR.bind, q0, q1, h1], rfl, rfl, h4, h5.trans U1.size⟩
  rintro _ _ ⟨rfl, vss, s2, Lp2, v', T, q2, rfl, hM2, hbuf⟩
  rw [List.set_set]
  have hz2 : off + 2 < c1.size := by
    rw [U1.size]
    exact (Array.getElem?_eq_some_iff.1 ((hl.cut 2 1) 0 _ rfl)).1
  obtain ⟨c2, hc2⟩ : ∃ c, c = c1.setIfInBounds (off + 2) v' := ⟨_, rfl⟩
  rw [← hc2]
  have u2 : Upd c1 c2 (off + 2) [v'] := by rw [hc2]; exact Upd.one v' hz2
  have U2 := U1.app u2 (by rw [N1])
  have N2 : (us0 ++ us1 ++ [v']).length = 3 := len_app N1 (show [v'].length = 1 from rfl)
  repeat (first | refine RQ ?_ | (refine WL_Q ?_; (first | refine QW_of (Qt_nilCheck_m rfl) ?_)) | refine RC ?_ | refine WG 2 ?_ | refine WG 3 ?_)
  refine WL_op rfl ?_
  refine OW_callE rfl (getF (fs := [.ww]) (small_flat (getM (gb := gb) (rb := rb) hl9)) hM2 (get_app (A := T) (get_set_self hR _)) (oks1 k0) (U2.keep (hl.cut 3 1) (.inr (by rw [N2]; exact Nat.le_refl _))) (hfr.sub 3 1 (by decide))) ?_ ?_
  rotate_left
  · rintro _ _ ⟨c, a, p, s', Lp', cs', h1, rfl, rfl, h4, h5⟩
    try rw [set_app, List.set_set]
    exact ⟨_, rfl, c, a, p, s', Lp', T, cs', by simp only [prCmd, hch, hct, PR.bind, q0, q1, q2, h1], rfl, rfl, h4, h5.trans U2.size⟩
  rintro _ _ ⟨rfl, us3, s3, Lp3, c3, q3, rfl, hM3, u3, n3⟩
  rw [set_app, List.set_set]
  have U3 := U2.app u3 (by rw [N2])
  have N3 : (us0 ++ us1 ++ [v'] ++ us3).length = 4 := len_app N2 n3
  repeat (first | refine RQ ?_ | (refine WL_Q ?_; (first | refine QW_of (Qt_nilCheck_m rfl) ?_)) | refine RC ?_ | refine WG 2 ?_ | refine WG 3 ?_ | refine WG 4 ?_)
  refine WL_op rfl ?_
  refine OW_callE rfl (getF (fs := [.ww]) (small_flat (getM (gb := gb) (rb := rb) hl9)) hM3 (get_app (A := T) (get_set_self hR _)) (oks1 k1) (U3.keep (hl.cut 4 1) (.inr (by rw [N3]; exact Nat.le_refl _))) (hfr.sub 4 1 (by decide))) ?_ ?_
  rotate_left
  · rintro _ _ ⟨c, a, p, s', Lp', cs', h1, rfl, rfl, h4, h5⟩
    try rw [set_app, List.set_set]
    exact ⟨_, rfl, c, a, p, s', Lp', T, cs', by simp only [prCmd, hch, hct, PR.bind, q0, q1, q2, q3, h1], rfl, rfl, h4, h5.trans U3.size⟩
  rintro _ _ ⟨rfl, us4, s4, Lp4, c4, q4, rfl, hM4, u4, n4⟩
  rw [set_app, List.set_set]
  have U4 := U3.app u4 (by rw [N3])
  have N4 : (us0 ++ us1 ++ [v'] ++ us3 ++ us4).length = 5 := len_app N3 n4
  repeat (first | refine RQ ?_ | (refine WL_Q ?_; (first | refine QW_of (Qt_nilCheck_m rfl) ?_)) | refine RC ?_ | refine WG 2 ?_ | refine WG 3 ?_ | refine WG 4 ?_ | refine WG 5 ?_)
  refine WL_op rfl ?_
  refine OW_callE rfl (getF (fs := opF) (op_flat (getM (gb := gb) (rb := rb) hl9)) hM4 (get_app (A := T) (get_set_self hR _)) hop (U4.keep (hl.cut 5 4) (.inr (by rw [N4]; exact Nat.le_refl _))) (hfr.sub 5 4 (by decide))) ?_ ?_
  rotate_left
  · rintro _ _ ⟨c, a, p, s', Lp', cs', h1, rfl, rfl, h4, h5⟩
    try rw [set_app, List.set_set]
    exact ⟨_, rfl, c, a, p, s', Lp', T, cs', by simp only [prCmd, hch, hct, PR.bind, q0, q1, q2, q3, q4, h1], rfl, rfl, h4, h5.trans U4.size⟩
  rintro _ _ ⟨rfl, us5, s5, Lp5, c5, q5, rfl, hM5, u5, n5⟩
  rw [set_app, List.set_set]
  have U5 := U4.app u5 (by rw [N4])
  have N5 : (us0 ++ us1 ++ [v'] ++ us3 ++ us4 ++ us5).length = 9 := len_app N4 n5
  repeat (first | refine RQ ?_ | (refine WL_Q ?_; (first | refine QW_of (Qt_nilCheck_m rfl) ?_)) | refine RC ?_ | refine WG 2 ?_ | refine WG 3 ?_ | refine WG 4 ?_ | refine WG 5 ?_ | refine WG 6 ?_)
  refine WL_op rfl ?_
  refine OW_callE rfl (getF (fs := [.ww]) (small_flat (getM (gb := gb) (rb := rb) hl9)) hM5 (get_app (A := T) (get_set_self hR _)) (oks1 k6) (U5.keep (hl.cut 9 1) (.inr (by rw [N5]; exact Nat.le_refl _))) (hfr.sub 9 1 (by decide))) ?_ ?_
  rotate_left
  · rintro _ _ ⟨c, a, p, s', Lp', cs', h1, rfl, rfl, h4, h5⟩
    try rw [set_app, List.set_set]
    exact ⟨_, rfl, c, a, p, s', Lp', T, cs', by simp only [prCmd, hch, hct, PR.bind, q0, q1, q2, q3, q4, q5, h1], rfl, rfl, h4, h5.trans U5.size⟩
  rintro _ _ ⟨rfl, us6, s6, Lp6, c6, q6, rfl, hM6, u6, n6⟩
  rw [set_app, List.set_set]
  have U6 := U5.app u6 (by rw [N5])
  have N6 : (us0 ++ us1 ++ [v'] ++ us3 ++ us4 ++ us5 ++ us6).length = 10 := len_app N5 n6
  repeat (first | refine RQ ?_ | (refine WL_Q ?_; (first | refine QW_of (Qt_nilCheck_m rfl) ?_)) | refine RC ?_ | refine WG 2 ?_ | refine WG 3 ?_ | refine WG 4 ?_ | refine WG 5 ?_ | refine WG 6 ?_)
  refine ⟨_, _, Res0 rfl, .refl _, rfl, (us0 ++ us1, vss, us3 ++ (us4 ++ (us5 ++ us6))), s6, Lp6, v', T, c6, by simp only [prCmd, hch, hct, PR.bind, q0, q1, q2, q3, q4, q5, q6], rfl, hM6, hbuf, ?_⟩
  simpa using U6
set_option maxHeartbeats 4000000 in
theorem gchunk {s : Nat × Nat} {Lp R : List (Nat × Obj)} {i b : Nat} {cs : Array Value} {E : TypeId} {fr : Nat × Nat} {off : Nat} {kh : List Value} (hM : GMem gb rb l s Lp) (hR : R[i]? = some (b, .cells cs E fr)) (hkh : Oks khF kh) (hl : Lies cs off (kh ++ [.slice none 0 0])) (hfr : Free fr off 4) :
    FnE Tryz.prog 97 [getV gb, .pointer (some ⟨b, off, none⟩)] (Lp ++ R)
      (fun v L' => v = .tuple #[] ∧ ∃ x s' Lp' v' T cs', prChunk l s.1 = .ok x s'.1 ∧ L' = Lp' ++ (T ++ R.set i (b, .cells cs' E fr)) ∧ GMem gb rb l s' Lp' ∧ Buf 214 10 v' T x.2.length x.2.flatten ∧ Upd cs cs' off (x.1 ++ [v']))
      (fun u L' => ∃ c a p s' Lp' T cs', prChunk l s.1 = .bad c a ∧ u = flt p ∧ L' = (p, fltO c a) :: (Lp' ++ (T ++ R.set i (b, .cells cs' E fr))) ∧ GMem gb rb l s' Lp' ∧ cs'.size = cs.size) := by
  obtain ⟨c0, us, rfl, h0, q⟩ := hkh.split
  obtain ⟨c1, us, rfl, h1, q⟩ := q.split
  obtain ⟨c2, us, rfl, h2, q⟩ := q.split
  obtain rfl := q.nil
  clear hkh
  have ih := (getM (gb := gb) (rb := rb) hl9).ih
  have jn := (getM (gb := gb) (rb := rb) hl9).jn
  have im := (getM (gb := gb) (rb := rb) hl9).im
  have iw := (getM (gb := gb) (rb := rb) hl9).iw
  have it := (getM (gb := gb) (rb := rb) hl9).it
  have qw : methX Tryz.prog 252 "anabranch/codec.whole" = some 184 := (getM (gb := gb) (rb := rb) hl9).mw
  have qt : methX Tryz.prog 252 "anabranch/codec.truth" = some 183 := (getM (gb := gb) (rb := rb) hl9).mt
  have qm : methX Tryz.prog 252 "anabranch/codec.must" = some 180 := (getM (gb := gb) (rb := rb) hl9).mm
  have hkh : ∀ a, prs l khF a = (prs l [.ww] a).bind fun x b => ((prs l [.ww] b).bind fun x b => (prs l [.tt] b).bind fun y c => .ok (x ++ y) c).bind fun y c => .ok (x ++ y) c := fun a => by
    rw [show khF = [.ww] ++ ([.ww] ++ [.tt]) from rfl, prs_app]
    simp only [prs_app]
  refine FnE_enter Tryz.func97 rfl Tryz.ntmps97 rfl fun g => ?_
  repeat (first | refine RQ ?_ | (refine WL_Q ?_; (first | refine QW_of (Qt_nilCheck_m rfl) ?_)) | refine RC ?_ | refine WG 0 ?_)
  refine WL_op rfl ?_
  refine OW_callE rfl (getF (fs := [.ww]) (small_flat (getM (gb := gb) (rb := rb) hl9)) hM hR (oks1 h0) (hl.cut 0 1) (hfr.sub 0 1 (by decide))) ?_ ?_
  rotate_left
  · rintro _ _ ⟨c, a, p, s', Lp', cs', h1, rfl, rfl, h4, h5⟩
    exact ⟨_, rfl, c, a, p, s', Lp', [], cs', by simp only [prChunk, hkh, PR.bind, h1], rfl, rfl, h4, h5⟩
  rintro _ _ ⟨rfl, us0, s0, Lp0, c0, q0, rfl, hM0, u0, n0⟩
  have U0 := u0
  have N0 : us0.length = 1 := n0
  repeat (first | refine RQ ?_ | (refine WL_Q ?_; (first | refine QW_of (Qt_nilCheck_m rfl) ?_)) | refine RC ?_ | refine WC_regB 2 ?_)
  refine WL_op rfl ?_
  refine OW_callE rfl (getF (fs := [.ww]) (small_flat (getM (gb := gb) (rb := rb) hl9)) hM0 (get_set_self hR _) (oks1 h1) (U0.keep (hl.cut 1 1) (.inr (by rw [N0]; exact Nat.le_refl _))) (hfr.sub 1 1 (by decide))) ?_ ?_
  rotate_left
  · rintro _ _ ⟨c, a, p, s', Lp', cs', h1, rfl, rfl, h4, h5⟩
    try rw [List.set_set]
    exact ⟨_, rfl, c, a, p, s', Lp', [], cs', by simp only [prChunk, hkh, PR.bind, q0, h1], rfl, rfl, h4, h5.trans U0.size⟩
  rintro _ _ ⟨rfl, us1, s1, Lp1, c1, q1, rfl, hM1, u1, n1⟩
  rw [List.set_set]
  have U1 := U0.app u1 (by rw [N0])
  have N1 : (us0 ++ us1).length = 2 := len_app N0 n1
  repeat (first | refine RQ ?_ | (refine WL_Q ?_; (first | refine QW_of (Qt_nilCheck_m rfl) ?_)) | refine RC ?_ | refine WC_regB 2 ?_)
  repeat (first | refine RQ ?_ | (refine WL_Q ?_; (first | refine QW_of (Qt_nilCheck_m rfl) ?_)) | refine RC ?_ | refine WC_regB 2 ?_)
  refine WC_draw_sub (id := 2) 8 (.calm 0 <| .calm 1 <| .calm 2 <| .calm 3 <| .calm 4 <| .calm 5 <| .calm 6 <| .must 7 <| .done) mixed (by kernel_rfl) (List.nil_sublist _) ?_
  repeat (first | refine RQr ?_ | (refine RX ?_; (first | refine QW_of (Qt_nilCheck_m rfl) ?_)) | refine RC ?_ | refine RU ?_ | refine WC_draw_all (id := 2) 8 (.calm 0 <| .calm 1 <| .calm 2 <| .calm 3 <| .calm 4 <| .calm 5 <| .calm 6 <| .must 7 <| .done) mixed (by kernel_rfl) ?_ | refine WC_regB 3 ?_)
  refine WR_op rfl rfl ?_
  refine OW_invE (getM (gb := gb) (rb := rb) hl9).mt rfl (getF (fs := [.tt]) (get_truth hl9) hM1 (get_set_self hR _) (oks1 h2) (U1.keep (hl.cut 2 1) (.inr (by rw [N1]; exact Nat.le_refl _))) (hfr.sub 2 1 (by decide))) ?_ ?_
  rotate_left
  · rintro _ _ ⟨c, a, p, s', Lp', cs', h1, rfl, rfl, h4, h5⟩
    try rw [List.set_set]
    exact ⟨_, rfl, c, a, p, s', Lp', [], cs', by simp only [prChunk, hkh, PR.bind, q0, q1, h1], rfl, rfl, h4, h5.trans U1.size⟩
  rintro _ _ ⟨rfl, us2, s2, Lp2, c2, q2, rfl, hM2, u2, n2⟩
  rw [List.set_set]
  have U2 := U1.app u2 (by rw [N1])
  have N2 : (us0 ++ us1 ++ us2).length = 3 := len_app N1 n2
  refine ⟨(fun q hq => (by cases hq)), ?_⟩
  repeat (first | refine RQr ?_ | (refine RX ?_; (first | refine QW_of (Qt_nilCheck_m rfl) ?_)) | refine RC ?_ | refine RU ?_ | refine WC_draw_all (id := 2) 8 (.calm 0 <| .calm 1 <| .calm 2 <| .calm 3 <| .calm 4 <| .calm 5 <| .calm 6 <| .must 7 <| .done) mixed (by kernel_rfl) ?_ | refine WC_region ?_)
  refine WL_op rfl ?_
  refine OW_callE rfl (glist_entry (most := 64) hl9 (by decide) hM2 (get_set_self hR _) ((U2.keep (hl.cut 3 1) (.inr (by rw [N2]; exact Nat.le_refl _))) 0 _ rfl) (hfr.sub 3 1 (by decide))) ?_ ?_
  rotate_left
  · rintro _ _ ⟨c, a, p, s', Lp', cs', h1, rfl, rfl, h4, h5⟩
    try rw [List.set_set]
    exact ⟨_, rfl, c, a, p, s', Lp', [], cs', by simp only [prChunk, hkh, PR.bind, q0, q1, q2, h1], rfl, rfl, h4, h5.trans U2.size⟩
  rintro _ _ ⟨rfl, vss, s3, Lp3, v', T, q3, rfl, hM3, hbuf⟩
  rw [List.set_set]
  have hz3 : off + 3 < c2.size := by
    rw [U2.size]
    exact (Array.getElem?_eq_some_iff.1 ((hl.cut 3 1) 0 _ rfl)).1
  obtain ⟨c3, hc3⟩ : ∃ c, c = c2.setIfInBounds (off + 3) v' := ⟨_, rfl⟩
  rw [← hc3]
  have u3 : Upd c2 c3 (off + 3) [v'] := by rw [hc3]; exact Upd.one v' hz3
  have U3 := U2.app u3 (by rw [N2])
  have N3 : (us0 ++ us1 ++ us2 ++ [v']).length = 4 := len_app N2 (show [v'].length = 1 from rfl)
  repeat (first | refine RQ ?_ | (refine WL_Q ?_; (first | refine QW_of (Qt_nilCheck_m rfl) ?_)) | refine RC ?_ | refine WG 0 ?_ | refine WG 1 ?_ | refine WG 3 ?_)
  refine ⟨_, _, Res0 rfl, .refl _, rfl, (us0 ++ (us1 ++ us2), vss), s3, Lp3, v', T, c3, by simp only [prChunk, hkh, PR.bind, q0, q1, q2, q3], rfl, hM3, hbuf, ?_⟩
  simpa using U3
end
end Go.Proofs.YtdiaogcogkapgaaGreatDoor
namespace Go.Proofs.YtdiaogcogkapgaaGreatDoor
open Go.RowKit
attribute [local irreducible] Fn WC WL WR OW Qt YieldFn QW FnP FnD FnE
theorem Upd.put {cs c1 c2 : Array Value} {off off' : Nat} {xs ys zs ys' : List Value} (U : Upd cs c1 off (xs ++ (ys ++ zs))) (u : Upd c1 c2 off' ys') (ho : off' = off + xs.length) (h : ys'.length = ys.length) : Upd cs c2 off (xs ++ (ys' ++ zs)) := by
  subst ho
  refine ⟨u.size.trans U.size, fun j x hj => ?_, fun j hj => ?_⟩
  · by_cases h1 : j < xs.length
    · rw [u.rest _ (.inl (by omega))]
      refine U.lies j x ?_
      rw [List.getElem?_append_left h1] at hj ⊢
      exact hj
    · rw [List.getElem?_append_right (by omega)] at hj
      by_cases h2 : j - xs.length < ys'.length
      · rw [List.getElem?_append_left h2] at hj
        have := u.lies _ x hj
        rwa [show off + xs.length + (j - xs.length) = off + j by omega] at this
      · rw [List.getElem?_append_right (by omega)] at hj
        rw [u.rest _ (.inr (by omega))]
        refine U.lies j x ?_
        rw [List.getElem?_append_right (by omega), List.getElem?_append_right (by omega), ← h]
        exact hj
  · simp only [List.length_append] at hj
    rw [u.rest _ (by omega), U.rest _ (by simp only [List.length_append]; omega)]
def MV.cellsV (m : MV) (vb ve : Value) : List Value :=
  [.int .i64 m.kind, .int .i64 m.ver] ++ (m.rc ++ ([.int .i64 m.time, .int .i64 m.num] ++ ((m.ch ++ (vb :: m.ct)) ++ (m.kh ++ [ve]))))
abbrev nilS : Value := .slice none 0 0
def zMsg : List Value := MV.none.cellsV nilS nilS
theorem prs_ww {l : List UInt8} {a : Nat} : prs l [.ww] a = (prI l a).bind fun x b => .ok [.int .i64 x] b := by
  simp only [prs, Fk.pr, prI]
  split <;> rfl
theorem prMsg_bad0 {l : List UInt8} {a c e : Nat} (h : prI l a = .bad c e) : prMsg l a = .bad c e := by unfold prMsg; rw [h]; rfl
theorem prMsg_kind {l : List UInt8} {a a1 : Nat} {k : Int} (h : prI l a = .ok k a1) (hk : ¬ (0 ≤ k ∧ k ≤ 4)) : prMsg l a = .bad 6 a := by
  unfold prMsg; rw [h]; simp only [PR.bind]; rw [if_neg hk]
theorem prMsg_bad1 {l : List UInt8} {a a1 c e : Nat} {k : Int} (h : prI l a = .ok k a1) (hk : 0 ≤ k ∧ k ≤ 4) (h2 : prI l a1 = .bad c e) : prMsg l a = .bad c e := by
  unfold prMsg; rw [h]; simp only [PR.bind]; rw [if_pos hk, h2]
theorem prMsg_body {l : List UInt8} {a a1 a2 : Nat} {k v : Int} (h : prI l a = .ok k a1) (hk : 0 ≤ k ∧ k ≤ 4) (h2 : prI l a1 = .ok v a2) : prMsg l a = prBody l k v a2 := by
  unfold prMsg; rw [h]; simp only [PR.bind]; rw [if_pos hk, h2]
theorem getI {gb rb : Nat} {l : List UInt8} {f : FuncId} {a0 : Value} {s : Nat × Nat} {Lp R : List (Nat × Obj)} {i b : Nat} {cs : Array Value} {E : TypeId} {fr : Nat × Nat} {off : Nat} {y : Int} (hC : Flat (getW gb rb l) f a0 [.ww]) (hM : GMem gb rb l s Lp) (hR : R[i]? = some (b, .cells cs E fr)) (hy : i64r y) (hl : Lies cs off [.int .i64 y]) (hfr : Free fr off 1) :
    FnE Tryz.prog f [a0, .pointer (some ⟨b, off, none⟩)] (Lp ++ R)
      (fun v L' => v = .tuple #[] ∧ ∃ x s' Lp' cs', prI l s.1 = .ok x s'.1 ∧ s'.2 = s.2 ∧ L' = Lp' ++ R.set i (b, .cells cs' E fr) ∧ GMem gb rb l s' Lp' ∧ Upd cs cs' off [.int .i64 x])
      (fun u L' => ∃ c a p s' Lp' cs', prI l s.1 = .bad c a ∧ u = flt p ∧ L' = (p, fltO c a) :: (Lp' ++ R.set i (b, .cells cs' E fr)) ∧ GMem gb rb l s' Lp' ∧ cs'.size = cs.size) := by
  have hv : Oks [.ww] [.int .i64 y] := ⟨⟨_, rfl, hy.1, hy.2⟩, trivial⟩
  refine (hC s Lp R i b cs E fr off _ hM (fun q hq => by cases hq) trivial hR hv hl hfr).mono ?_ ?_
  · rintro _ _ ⟨h0, s', us, Lp', cs', h1, h2, h3, h4, _⟩
    have e := get_stps_ok hv h1
    rw [prs_ww] at e
    have hs2 : s'.2 = s.2 := by
      simp only [Wy.stps] at h1
      cases h5 : (getW gb rb l).stp .ww s (.int .i64 y) with
      | bad c a => rw [h5] at h1; cases h1
      | ok s1 v1 =>
        rw [h5] at h1
        injection h1 with h6 _
        rw [← h6]
        have h7 : getStp l .ww s = .ok s1 v1 := h5
        unfold getStp at h7
        split at h7
        · injection h7 with h8 _; exact (congrArg Prod.snd h8).symm
        · cases h7
    cases h5 : prI l s.1 with
    | bad c a => rw [h5] at e; cases e
    | ok x b =>
      rw [h5] at e
      simp only [PR.bind, PR.ok.injEq] at e
      obtain ⟨rfl, rfl⟩ := e
      exact ⟨h0, x, s', Lp', cs', rfl, hs2, h2, h3, h4⟩
  · rintro _ _ ⟨c, a, p, s', Lp', cs', h1, h2, h3, h4, h5'⟩
    have e := get_stps_bad hv h1
    rw [prs_ww] at e
    cases h5 : prI l s.1 with
    | ok x b => rw [h5] at e; cases e
    | bad c' a' =>
      rw [h5] at e
      simp only [PR.bind, PR.bad.injEq] at e
      obtain ⟨rfl, rfl⟩ := e
      exact ⟨_, _, p, s', Lp', cs', rfl, h2, h3, h4, h5'⟩
section
variable {gb rb : Nat} {l : List UInt8} (hl9 : l.length ≤ 1000000000)
include hl9
set_option maxHeartbeats 4000000 in
theorem gmsg {s : Nat × Nat} {Lp R : List (Nat × Obj)} {i b : Nat} {cs : Array Value} {E : TypeId} {fr : Nat × Nat} {off : Nat} (hM : GMem gb rb l s Lp) (hR : R[i]? = some (b, .cells cs E fr)) (hl : Lies cs off zMsg) (hfr : Free fr off 24) :
    FnE Tryz.prog 74 [getV gb, .pointer (some ⟨b, off, none⟩)] (Lp ++ R)
      (fun v L' => v = .tuple #[] ∧ ∃ m s' Lp' vb ve T1 T2 cs', prMsg l s.1 = .ok m s'.1 ∧ L' = Lp' ++ (T1 ++ (T2 ++ R.set i (b, .cells cs' E fr))) ∧ GMem gb rb l s' Lp' ∧ Buf 3 1 vb T1 m.bins.length m.bins.flatten ∧ Buf 214 10 ve T2 m.ents.length m.ents.flatten ∧ Upd cs cs' off (m.cellsV vb ve))
      (fun u L' => ∃ c a p s' Lp' T cs', prMsg l s.1 = .bad c a ∧ u = flt p ∧ L' = (p, fltO c a) :: (Lp' ++ (T ++ R.set i (b, .cells cs' E fr))) ∧ GMem gb rb l s' Lp' ∧ cs'.size = cs.size) := by
  have ih := (getM (gb := gb) (rb := rb) hl9).ih
  have jn := (getM (gb := gb) (rb := rb) hl9).jn
  have im := (getM (gb := gb) (rb := rb) hl9).im
  have iw := (getM (gb := gb) (rb := rb) hl9).iw
  have it := (getM (gb := gb) (rb := rb) hl9).it
  have qw : methX Tryz.prog 252 "anabranch/codec.whole" = some 184 := (getM (gb := gb) (rb := rb) hl9).mw
  have qt : methX Tryz.prog 252 "anabranch/codec.truth" = some 183 := (getM (gb := gb) (rb := rb) hl9).mt
  have qm : methX Tryz.prog 252 "anabranch/codec.must" = some 180 := (getM (gb := gb) (rb := rb) hl9).mm
  have U0 : Upd cs cs off ([] ++ ([zI] ++ zMsg.drop 1)) := Upd.refl_of hl
  refine FnE_enter Tryz.func74 rfl Tryz.ntmps74 rfl fun g => ?_
  repeat (first | refine RQ ?_ | (refine WL_Q ?_; (first | refine QW_of (Qt_nilCheck_m rfl) ?_)) | refine RC ?_ | refine WG 0 ?_)
  refine WL_op rfl ?_
  refine OW_invE (getM (gb := gb) (rb := rb) hl9).mh rfl (get_here s Lp R hM) ?_ (fun _ _ h => h.elim)
  rintro _ _ ⟨rfl, Lp0, rfl, hM0⟩
  repeat (first | refine RQ ?_ | (refine WL_Q ?_; (first | refine QW_of (Qt_nilCheck_m rfl) ?_)) | refine RC ?_ | refine WC_regB 2 ?_)
  refine WL_op rfl ?_
  refine OW_callE rfl (getI (small_flat (getM (gb := gb) (rb := rb) hl9)) hM0 hR i64r0 (hl.cut 0 1) (hfr.sub 0 1 (by decide))) ?_ ?_
  rotate_left
  · rintro _ _ ⟨c, a, p, s', Lp', cs', h1, rfl, rfl, h4, h5⟩
    try rw [List.set_set]
    exact ⟨_, rfl, c, a, p, s', Lp', [], cs', prMsg_bad0 h1, rfl, rfl, h4, h5⟩
  rintro _ _ ⟨rfl, k, s1, Lp1, c1, i1, hs1, rfl, hM1, u1⟩
  have U1 := U0.put u1 rfl rfl
  have g0 : c1[off + 0]? = some (.int .i64 k) := u1.lies 0 _ rfl
  have hR1 := get_set_self hR (b, Obj.cells c1 E fr)
  have hX := get_app (A := Lp1) hR1
  repeat (first | refine RQ ?_ | ((first | refine WL_Q ?_ | refine WL_Y ?_); (first | refine QW_of (Qt_nilCheck_m rfl) ?_)) | refine RC ?_ | refine WG 1 ?_)
  refine WC_meet (fun σ => σ = ⟨[(0, getV gb), (1, .pointer (some ⟨b, off, none⟩))], [], Lp1 ++ R.set i (b, Obj.cells c1 E fr)⟩ ∧ 0 ≤ k ∧ k ≤ 4) ?_ ?_
  · by_cases hk : 0 ≤ k
    · have d1 : decide (k ≥ 0) = true := decide_eq_true hk
      repeat (first | refine RQr ?_ | ((first | refine WL_Q ?_ | refine WL_Y ?_ | refine WR_Q rfl ?_ | refine WR_late rfl rfl rfl (OW_Q ?_) | refine WR_Y rfl ?_); (first | refine QW_of (Qt_nilCheck_m rfl) ?_)) | refine RC ?_ | refine RU ?_ | refine WC_draw_all (id := 2) 17 (.calm 0 <| .calm 1 <| .calm 2 <| .calm 3 <| .calm 4 <| .calm 5 <| .calm 6 <| .calm 7 <| .calm 8 <| .calm 9 <| .calm 10 <| .calm 11 <| .calm 12 <| .calm 13 <| .calm 14 <| .calm 15 <| .must 16 <| .done) mixed (by kernel_rfl) ?_)
      refine WR_op rfl rfl ?_
      refine OW_invE (getM (gb := gb) (rb := rb) hl9).mm rfl (get_must s1 Lp1 _ _ 6 hM1) ?_ ?_
      rotate_left
      · rintro _ _ ⟨c, a, p, hm, rfl, rfl⟩
        have h4 : ¬ k ≤ 4 := fun h => by rw [decide_eq_true h] at hm; cases hm
        rw [decide_eq_false h4] at hm
        simp only [Bool.false_eq_true, if_false, Option.some.injEq, Prod.mk.injEq] at hm
        obtain ⟨rfl, rfl⟩ := hm
        exact ⟨_, rfl, 6, s1.2, p, s1, Lp1, [], c1, by rw [hs1]; exact prMsg_kind i1 (by omega), rfl, rfl, hM1, U1.size⟩
      rintro _ _ ⟨rfl, rfl, hm⟩
      have h4 : k ≤ 4 := by
        rcases Decidable.em (k ≤ 4) with h | h
        · exact h
        · rw [decide_eq_false h] at hm; cases hm
      refine ⟨fun _ h => h, ?_⟩
      repeat (first | refine RQr ?_ | ((first | refine WL_Q ?_ | refine WL_Y ?_ | refine WR_Q rfl ?_ | refine WR_late rfl rfl rfl (OW_Q ?_) | refine WR_Y rfl ?_); (first | refine QW_of (Qt_nilCheck_m rfl) ?_)) | refine RC ?_ | refine RU ?_ | refine WC_draw_all (id := 2) 17 (.calm 0 <| .calm 1 <| .calm 2 <| .calm 3 <| .calm 4 <| .calm 5 <| .calm 6 <| .calm 7 <| .calm 8 <| .calm 9 <| .calm 10 <| .calm 11 <| .calm 12 <| .calm 13 <| .calm 14 <| .calm 15 <| .must 16 <| .done) mixed (by kernel_rfl) ?_)
      exact ⟨_, ⟨rfl, hk, h4⟩, ⟨rfl, rfl, trivial⟩, rfl, .refl _⟩
    · have d1 : decide (k ≥ 0) = false := decide_eq_false hk
      repeat (first | refine RQr ?_ | ((first | refine WL_Q ?_ | refine WL_Y ?_ | refine WR_Q rfl ?_ | refine WR_late rfl rfl rfl (OW_Q ?_) | refine WR_Y rfl ?_); (first | refine QW_of (Qt_nilCheck_m rfl) ?_)) | refine RC ?_ | refine RU ?_ | refine WC_draw_all (id := 2) 17 (.calm 0 <| .calm 1 <| .calm 2 <| .calm 3 <| .calm 4 <| .calm 5 <| .calm 6 <| .calm 7 <| .calm 8 <| .calm 9 <| .calm 10 <| .calm 11 <| .calm 12 <| .calm 13 <| .calm 14 <| .calm 15 <| .must 16 <| .done) mixed (by kernel_rfl) ?_)
      refine WR_op rfl rfl ?_
      refine OW_invE (getM (gb := gb) (rb := rb) hl9).mm rfl (get_must s1 Lp1 _ _ 6 hM1) ?_ ?_
      rotate_left
      · rintro _ _ ⟨c, a, p, hm, rfl, rfl⟩
        simp only [Bool.false_eq_true, if_false, Option.some.injEq, Prod.mk.injEq] at hm
        obtain ⟨rfl, rfl⟩ := hm
        exact ⟨_, rfl, 6, s1.2, p, s1, Lp1, [], c1, by rw [hs1]; exact prMsg_kind i1 (by omega), rfl, rfl, hM1, U1.size⟩
      rintro _ _ ⟨rfl, rfl, hm⟩
      cases hm
  rintro _ ⟨rfl, hk0, hk4⟩
  have hkk : 0 ≤ k ∧ k ≤ 4 := ⟨hk0, hk4⟩
  repeat (first | refine RQ ?_ | ((first | refine WL_Q ?_ | refine WL_Y ?_); (first | refine QW_of (Qt_nilCheck_m rfl) ?_)) | refine RC ?_ | refine WG 3 ?_)
  refine WL_op rfl ?_
  refine OW_callE rfl (getI (small_flat (getM (gb := gb) (rb := rb) hl9)) hM1 hR1 i64r0 (U1.lies.cut 1 1) (hfr.sub 1 1 (by decide))) ?_ ?_
  rotate_left
  · rintro _ _ ⟨c, a, p, s', Lp', cs', h1, rfl, rfl, h4, h5⟩
    try rw [List.set_set]
    exact ⟨_, rfl, c, a, p, s', Lp', [], cs', prMsg_bad1 i1 hkk h1, rfl, rfl, h4, h5.trans U1.size⟩
  rintro _ _ ⟨rfl, v, s2, Lp2, c2, i2, hs2, rfl, hM2, u2⟩
  rw [List.set_set]
  have U2 : Upd cs c2 off ([.int .i64 k] ++ ([.int .i64 v] ++ zMsg.drop 2)) := Upd.put (ys := [zI]) U1 u2 rfl rfl
  have g1 : c2[off + 0]? = some (.int .i64 k) := by
    rw [u2.rest _ (.inl (by omega))]; exact g0
  have hb := prMsg_body i1 hkk i2
  rw [hb]
  have hR2 := get_set_self hR (b, Obj.cells c2 E fr)
  have hX2 := get_app (A := Lp2) hR2
  by_cases hk : k = 0
  · have hk0 := hk
    have d0 : (k == 0) = true := by simpa using hk
    repeat (first | refine RQr ?_ | ((first | refine WL_Q ?_ | refine WL_Y ?_ | refine WR_Q rfl ?_ | refine WR_late rfl rfl rfl (OW_Q ?_) | refine WR_Y rfl ?_); (first | refine QW_of (Qt_nilCheck_m rfl) ?_)) | refine RC ?_ | refine RU ?_ | refine WC_draw_all (id := 8) 8 (.calm 0 <| .calm 1 <| .calm 2 <| .calm 3 <| .calm 4 <| .calm 5 <| .calm 6 <| .must 7 <| .done) mixed (by kernel_rfl) ?_ | refine WG 4 ?_ | refine WG 5 ?_ | refine WG 6 ?_ | refine WG 7 ?_ | refine WG 9 ?_ | refine WG 10 ?_ | refine WG 11 ?_ | refine WG 12 ?_ | refine WG 13 ?_ | refine WG 14 ?_)
    refine WL_op rfl ?_
    refine OW_callE rfl (getF (fs := recF) (rec_flat (getM (gb := gb) (rb := rb) hl9)) hM2 hR2 oks_zRec ((show Upd cs c2 off ([.int .i64 k, .int .i64 v] ++ zMsg.drop 2) from U2).lies.cut 2 6) (hfr.sub 2 6 (by decide))) ?_ ?_
    rotate_left
    · rintro _ _ ⟨c, a, p, s', Lp', cs', h1, rfl, rfl, h4, h5⟩
      rw [List.set_set]
      exact ⟨_, rfl, c, a, p, s', Lp', [], cs', by unfold prBody; rw [if_pos hk, h1]; rfl, rfl, rfl, h4, h5.trans U2.size⟩
    rintro _ _ ⟨rfl, us, s3, Lp3, c3, h1, rfl, hM3, u3, n3⟩
    rw [List.set_set]
    have U3 := Upd.put (xs := [.int .i64 k, .int .i64 v] ++ (zMsg.drop 2).take 0) (ys := (zMsg.drop 2).take 6) (zs := zMsg.drop 8) U2 u3 rfl n3
    repeat (first | refine RQr ?_ | ((first | refine WL_Q ?_ | refine WL_Y ?_ | refine WR_Q rfl ?_ | refine WR_late rfl rfl rfl (OW_Q ?_) | refine WR_Y rfl ?_); (first | refine QW_of (Qt_nilCheck_m rfl) ?_)) | refine RC ?_ | refine RU ?_ | refine WC_draw_all (id := 8) 8 (.calm 0 <| .calm 1 <| .calm 2 <| .calm 3 <| .calm 4 <| .calm 5 <| .calm 6 <| .must 7 <| .done) mixed (by kernel_rfl) ?_ | refine WG 0 ?_ | refine WG 5 ?_ | refine WG 6 ?_ | refine WG 7 ?_ | refine WG 9 ?_ | refine WG 10 ?_ | refine WG 11 ?_ | refine WG 12 ?_ | refine WG 13 ?_ | refine WG 14 ?_)
    exact ⟨_, _, Res0 rfl, .refl _, rfl, ({ MV.none with kind := k, ver := v, rc := us } : MV), s3, Lp3, nilS, nilS, [], [], c3, by unfold prBody; rw [if_pos hk, h1]; rfl, rfl, hM3, Buf.nil _ _, Buf.nil _ _, U3⟩
  by_cases hk : k = 1
  · have hk1 := hk
    have d0 : (k == 0) = false := by simpa using (show ¬ k = 0 by omega)
    have d1 : (k == 1) = true := by simpa using hk
    repeat (first | refine RQ ?_ | ((first | refine WL_Q ?_ | refine WL_Y ?_); (first | refine QW_of (Qt_nilCheck_m rfl) ?_)) | refine RC ?_ | refine WG 4 ?_ | refine WG 5 ?_ | refine WG 6 ?_ | refine WG 7 ?_ | refine WG 9 ?_ | refine WG 10 ?_ | refine WG 11 ?_ | refine WG 12 ?_ | refine WG 13 ?_ | refine WG 14 ?_)
    refine WC_draw_sub (id := 8) 8 (.calm 0 <| .calm 1 <| .calm 2 <| .calm 3 <| .calm 4 <| .calm 5 <| .calm 6 <| .must 7 <| .done) mixed (by kernel_rfl) (List.nil_sublist _) ?_
    repeat (first | refine RQr ?_ | ((first | refine WL_Q ?_ | refine WL_Y ?_ | refine WR_Q rfl ?_ | refine WR_late rfl rfl rfl (OW_Q ?_) | refine WR_Y rfl ?_); (first | refine QW_of (Qt_nilCheck_m rfl) ?_)) | refine RC ?_ | refine RU ?_ | refine WC_draw_all (id := 8) 8 (.calm 0 <| .calm 1 <| .calm 2 <| .calm 3 <| .calm 4 <| .calm 5 <| .calm 6 <| .must 7 <| .done) mixed (by kernel_rfl) ?_ | refine WG 4 ?_ | refine WG 5 ?_ | refine WG 6 ?_ | refine WG 7 ?_ | refine WG 9 ?_ | refine WG 10 ?_ | refine WG 11 ?_ | refine WG 12 ?_ | refine WG 13 ?_ | refine WG 14 ?_)
    refine WR_op rfl rfl ?_
    refine OW_invE (getM (gb := gb) (rb := rb) hl9).mw rfl (getI (get_whole hl9) hM2 hR2 i64r0 ((show Upd cs c2 off ([.int .i64 k, .int .i64 v] ++ zMsg.drop 2) from U2).lies.cut 8 1) (hfr.sub 8 1 (by decide))) ?_ ?_
    rotate_left
    · rintro _ _ ⟨c, a, p, s', Lp', cs', h1, rfl, rfl, h4, h5⟩
      rw [List.set_set]
      exact ⟨_, rfl, c, a, p, s', Lp', [], cs', by unfold prBody; rw [if_neg (by omega), if_pos hk, h1]; rfl, rfl, rfl, h4, h5.trans U2.size⟩
    rintro _ _ ⟨rfl, x, s3, Lp3, c3, h1, hs3, rfl, hM3, u3⟩
    rw [List.set_set]
    refine ⟨(fun q hq => (by cases hq)), ?_⟩
    have U3 := Upd.put (xs := [.int .i64 k, .int .i64 v] ++ (zMsg.drop 2).take 6) (ys := (zMsg.drop 8).take 1) (zs := zMsg.drop 9) U2 u3 rfl rfl
    repeat (first | refine RQr ?_ | ((first | refine WL_Q ?_ | refine WL_Y ?_ | refine WR_Q rfl ?_ | refine WR_late rfl rfl rfl (OW_Q ?_) | refine WR_Y rfl ?_); (first | refine QW_of (Qt_nilCheck_m rfl) ?_)) | refine RC ?_ | refine RU ?_ | refine WC_draw_all (id := 8) 8 (.calm 0 <| .calm 1 <| .calm 2 <| .calm 3 <| .calm 4 <| .calm 5 <| .calm 6 <| .must 7 <| .done) mixed (by kernel_rfl) ?_ | refine WG 0 ?_ | refine WG 5 ?_ | refine WG 6 ?_ | refine WG 7 ?_ | refine WG 9 ?_ | refine WG 10 ?_ | refine WG 11 ?_ | refine WG 12 ?_ | refine WG 13 ?_ | refine WG 14 ?_)
    exact ⟨_, _, Res0 rfl, .refl _, rfl, ({ MV.none with kind := k, ver := v, time := x } : MV), s3, Lp3, nilS, nilS, [], [], c3, by unfold prBody; rw [if_neg (by omega), if_pos hk, h1]; rfl, rfl, hM3, Buf.nil _ _, Buf.nil _ _, U3⟩
  by_cases hk : k = 2
  · have hk2 := hk
    have d0 : (k == 0) = false := by simpa using (show ¬ k = 0 by omega)
    have d1 : (k == 1) = false := by simpa using (show ¬ k = 1 by omega)
    have d2 : (k == 2) = true := by simpa using hk
    repeat (first | refine RQr ?_ | ((first | refine WL_Q ?_ | refine WL_Y ?_ | refine WR_Q rfl ?_ | refine WR_late rfl rfl rfl (OW_Q ?_) | refine WR_Y rfl ?_); (first | refine QW_of (Qt_nilCheck_m rfl) ?_)) | refine RC ?_ | refine RU ?_ | refine WC_draw_all (id := 8) 8 (.calm 0 <| .calm 1 <| .calm 2 <| .calm 3 <| .calm 4 <| .calm 5 <| .calm 6 <| .must 7 <| .done) mixed (by kernel_rfl) ?_ | refine WG 4 ?_ | refine WG 5 ?_ | refine WG 6 ?_ | refine WG 7 ?_ | refine WG 9 ?_ | refine WG 10 ?_ | refine WG 11 ?_ | refine WG 12 ?_ | refine WG 13 ?_ | refine WG 14 ?_)
    refine WL_op rfl ?_
    refine OW_callE rfl (getI (small_flat (getM (gb := gb) (rb := rb) hl9)) hM2 hR2 i64r0 ((show Upd cs c2 off ([.int .i64 k, .int .i64 v] ++ zMsg.drop 2) from U2).lies.cut 9 1) (hfr.sub 9 1 (by decide))) ?_ ?_
    rotate_left
    · rintro _ _ ⟨c, a, p, s', Lp', cs', h1, rfl, rfl, h4, h5⟩
      rw [List.set_set]
      exact ⟨_, rfl, c, a, p, s', Lp', [], cs', by unfold prBody; rw [if_neg (by omega), if_neg (by omega), if_pos hk, h1]; rfl, rfl, rfl, h4, h5.trans U2.size⟩
    rintro _ _ ⟨rfl, x, s3, Lp3, c3, h1, hs3, rfl, hM3, u3⟩
    rw [List.set_set]
    have U3 := Upd.put (xs := [.int .i64 k, .int .i64 v] ++ (zMsg.drop 2).take 7) (ys := (zMsg.drop 9).take 1) (zs := zMsg.drop 10) U2 u3 rfl rfl
    repeat (first | refine RQr ?_ | ((first | refine WL_Q ?_ | refine WL_Y ?_ | refine WR_Q rfl ?_ | refine WR_late rfl rfl rfl (OW_Q ?_) | refine WR_Y rfl ?_); (first | refine QW_of (Qt_nilCheck_m rfl) ?_)) | refine RC ?_ | refine RU ?_ | refine WC_draw_all (id := 8) 8 (.calm 0 <| .calm 1 <| .calm 2 <| .calm 3 <| .calm 4 <| .calm 5 <| .calm 6 <| .must 7 <| .done) mixed (by kernel_rfl) ?_ | refine WG 0 ?_ | refine WG 5 ?_ | refine WG 6 ?_ | refine WG 7 ?_ | refine WG 9 ?_ | refine WG 10 ?_ | refine WG 11 ?_ | refine WG 12 ?_ | refine WG 13 ?_ | refine WG 14 ?_)
    exact ⟨_, _, Res0 rfl, .refl _, rfl, ({ MV.none with kind := k, ver := v, num := x } : MV), s3, Lp3, nilS, nilS, [], [], c3, by unfold prBody; rw [if_neg (by omega), if_neg (by omega), if_pos hk, h1]; rfl, rfl, hM3, Buf.nil _ _, Buf.nil _ _, U3⟩
  by_cases hk : k = 3
  · have hk3 := hk
    have d0 : (k == 0) = false := by simpa using (show ¬ k = 0 by omega)
    have d1 : (k == 1) = false := by simpa using (show ¬ k = 1 by omega)
    have d2 : (k == 2) = false := by simpa using (show ¬ k = 2 by omega)
    have d3 : (k == 3) = true := by simpa using hk
    repeat (first | refine RQr ?_ | ((first | refine WL_Q ?_ | refine WL_Y ?_ | refine WR_Q rfl ?_ | refine WR_late rfl rfl rfl (OW_Q ?_) | refine WR_Y rfl ?_); (first | refine QW_of (Qt_nilCheck_m rfl) ?_)) | refine RC ?_ | refine RU ?_ | refine WC_draw_all (id := 8) 8 (.calm 0 <| .calm 1 <| .calm 2 <| .calm 3 <| .calm 4 <| .calm 5 <| .calm 6 <| .must 7 <| .done) mixed (by kernel_rfl) ?_ | refine WG 4 ?_ | refine WG 5 ?_ | refine WG 6 ?_ | refine WG 7 ?_ | refine WG 9 ?_ | refine WG 10 ?_ | refine WG 11 ?_ | refine WG 12 ?_ | refine WG 13 ?_ | refine WG 14 ?_)
    refine WL_op rfl ?_
    refine OW_callE rfl (gcmd (ch := MV.none.ch) (ct := MV.none.ct) hl9 hM2 hR2 MV.none_ok.ch MV.none_ok.ct ((show Upd cs c2 off ([.int .i64 k, .int .i64 v] ++ zMsg.drop 2) from U2).lies.cut 10 10) (hfr.sub 10 10 (by decide))) ?_ ?_
    rotate_left
    · rintro _ _ ⟨c, a, p, s', Lp', T, cs', h1, rfl, rfl, h4, h5⟩
      rw [List.set_set]
      exact ⟨_, rfl, c, a, p, s', Lp', T, cs', by unfold prBody; rw [if_neg (by omega), if_neg (by omega), if_neg (by omega), if_pos hk, h1]; rfl, rfl, rfl, h4, h5.trans U2.size⟩
    rintro _ _ ⟨rfl, x, s3, Lp3, v', T, c3, h1, rfl, hM3, hbuf, u3⟩
    rw [List.set_set]
    have U3 := Upd.put (xs := [.int .i64 k, .int .i64 v] ++ (zMsg.drop 2).take 8) (ys := (zMsg.drop 10).take 10) (zs := zMsg.drop 20) U2 u3 rfl (by have o := (prCmd_went hM2.2 h1).1; simp only [List.length_append, List.length_cons, o.1.len, o.2.2.len]; rfl)
    repeat (first | refine RQr ?_ | ((first | refine WL_Q ?_ | refine WL_Y ?_ | refine WR_Q rfl ?_ | refine WR_late rfl rfl rfl (OW_Q ?_) | refine WR_Y rfl ?_); (first | refine QW_of (Qt_nilCheck_m rfl) ?_)) | refine RC ?_ | refine RU ?_ | refine WC_draw_all (id := 8) 8 (.calm 0 <| .calm 1 <| .calm 2 <| .calm 3 <| .calm 4 <| .calm 5 <| .calm 6 <| .must 7 <| .done) mixed (by kernel_rfl) ?_ | refine WG 0 ?_ | refine WG 5 ?_ | refine WG 6 ?_ | refine WG 7 ?_ | refine WG 9 ?_ | refine WG 10 ?_ | refine WG 11 ?_ | refine WG 12 ?_ | refine WG 13 ?_ | refine WG 14 ?_)
    exact ⟨_, _, Res0 rfl, .refl _, rfl, ({ MV.none with kind := k, ver := v, ch := x.1, bins := x.2.1, ct := x.2.2 } : MV), s3, Lp3, v', nilS, T, [], c3, by unfold prBody; rw [if_neg (by omega), if_neg (by omega), if_neg (by omega), if_pos hk, h1]; rfl, rfl, hM3, hbuf, Buf.nil _ _, U3⟩
  have hk : k = 4 := by omega
  have d0 : (k == 0) = false := by simpa using (show ¬ k = 0 by omega)
  have d1 : (k == 1) = false := by simpa using (show ¬ k = 1 by omega)
  have d2 : (k == 2) = false := by simpa using (show ¬ k = 2 by omega)
  have d3 : (k == 3) = false := by simpa using (show ¬ k = 3 by omega)
  have d4 : (k == 4) = true := by simpa using hk
  repeat (first | refine RQr ?_ | ((first | refine WL_Q ?_ | refine WL_Y ?_ | refine WR_Q rfl ?_ | refine WR_late rfl rfl rfl (OW_Q ?_) | refine WR_Y rfl ?_); (first | refine QW_of (Qt_nilCheck_m rfl) ?_)) | refine RC ?_ | refine RU ?_ | refine WC_draw_all (id := 8) 8 (.calm 0 <| .calm 1 <| .calm 2 <| .calm 3 <| .calm 4 <| .calm 5 <| .calm 6 <| .must 7 <| .done) mixed (by kernel_rfl) ?_ | refine WG 4 ?_ | refine WG 5 ?_ | refine WG 6 ?_ | refine WG 7 ?_ | refine WG 9 ?_ | refine WG 10 ?_ | refine WG 11 ?_ | refine WG 12 ?_ | refine WG 13 ?_ | refine WG 14 ?_)
  refine WL_op rfl ?_
  refine OW_callE rfl (gchunk (kh := MV.none.kh) hl9 hM2 hR2 MV.none_ok.kh ((show Upd cs c2 off ([.int .i64 k, .int .i64 v] ++ zMsg.drop 2) from U2).lies.cut 20 4) (hfr.sub 20 4 (by decide))) ?_ ?_
  rotate_left
  · rintro _ _ ⟨c, a, p, s', Lp', T, cs', h1, rfl, rfl, h4, h5⟩
    rw [List.set_set]
    exact ⟨_, rfl, c, a, p, s', Lp', T, cs', by unfold prBody; rw [if_neg (by omega), if_neg (by omega), if_neg (by omega), if_neg (by omega), h1]; rfl, rfl, rfl, h4, h5.trans U2.size⟩
  rintro _ _ ⟨rfl, x, s3, Lp3, v', T, c3, h1, rfl, hM3, hbuf, u3⟩
  rw [List.set_set]
  have U3 := Upd.put (xs := [.int .i64 k, .int .i64 v] ++ (zMsg.drop 2).take 18) (ys := (zMsg.drop 20).take 4) (zs := zMsg.drop 24) U2 u3 rfl (by have o := (prChunk_went hM2.2 h1).1; simp only [List.length_append, List.length_cons, o.1.len]; rfl)
  rw [show x.1 ++ [v'] ++ zMsg.drop 24 = x.1 ++ [v'] from List.append_nil _] at U3
  repeat (first | refine RQr ?_ | ((first | refine WL_Q ?_ | refine WL_Y ?_ | refine WR_Q rfl ?_ | refine WR_late rfl rfl rfl (OW_Q ?_) | refine WR_Y rfl ?_); (first | refine QW_of (Qt_nilCheck_m rfl) ?_)) | refine RC ?_ | refine RU ?_ | refine WC_draw_all (id := 8) 8 (.calm 0 <| .calm 1 <| .calm 2 <| .calm 3 <| .calm 4 <| .calm 5 <| .calm 6 <| .must 7 <| .done) mixed (by kernel_rfl) ?_ | refine WG 0 ?_ | refine WG 5 ?_ | refine WG 6 ?_ | refine WG 7 ?_ | refine WG 9 ?_ | refine WG 10 ?_ | refine WG 11 ?_ | refine WG 12 ?_ | refine WG 13 ?_ | refine WG 14 ?_)
  exact ⟨_, _, Res0 rfl, .refl _, rfl, ({ MV.none with kind := k, ver := v, kh := x.1, ents := x.2 } : MV), s3, Lp3, nilS, v', [], T, c3, by unfold prBody; rw [if_neg (by omega), if_neg (by omega), if_neg (by omega), if_neg (by omega), h1]; rfl, rfl, hM3, Buf.nil _ _, hbuf, U3⟩
end
end Go.Proofs.YtdiaogcogkapgaaGreatDoor
namespace Go.Proofs.YtdiaogcogkapgaaGreatDoor
open Go.RowKit
attribute [local irreducible] Fn WC WL WR OW Qt YieldFn QW FnP FnD FnE
theorem LeavS_oneB {c : Cx} {fn : Func} {s : List (Nat × Value)} {Rr Rp : Value → List (Nat × Obj) → Prop} {f : FuncId} {A B : Array Value} {u : FrameMode} {L : List (Nat × Obj)} [hf : FCall c.P f] (hu : u ≠ .run) {Q : FrameMode → List (Nat × Obj) → Prop} (hD : FnD c.P f (A.toList ++ B.toList) L u Q) (hk : ∀ u' L', Q u' L' → LeavS c fn s Rr Rp [] (settle u') L') : LeavS c fn s Rr Rp [{ target := .fn (.func f) B, args := A }] u L := by
  unfold FnD at hD
  exact ⟨hu, .inr ⟨f, A, B, rfl, hf, by
    unfold FnD
    exact fun g w n hm => (hD g w n hm).mono fun _ _ _ ⟨v, L', e1, e2, e3⟩ => ⟨v, L', e1, e2, hk _ _ e3⟩⟩⟩
theorem saved_Msg {xb eb : Nat} {L : List (Nat × Obj)} : FnD Tryz.prog 131 [.pointer (some ⟨xb, 0, none⟩), .pointer (some ⟨eb, 0, none⟩)] L .returning (fun u' L' => u' = .returning ∧ L' = L) := by
  refine FnD_recover (rv := .nilIface) (u' := .returning) Tryz.func131 rfl Tryz.ntmps131 rfl rfl rfl rfl ⟨rfl, rfl⟩ fun g n => ⟨_, rfl, ?_⟩
  show WC _ _ _ ⟨[(6, .nilIface), (0, .pointer (some ⟨xb, 0, none⟩)), (1, .pointer (some ⟨eb, 0, none⟩))], [], L⟩
  repeat (first | refine RQ ?_ | (refine WL_Q ?_; (first | refine QW_of (Qt_nilCheck_m rfl) ?_)) | (refine RE ?_; try intro _) | refine RC ?_ | refine WC_region ?_)
  exact ⟨rfl, _, _, Res0 rfl, .refl _, rfl, rfl⟩
theorem caught_Msg {xb eb p : Nat} {old : Value} {cs : Array Value} (hz : cs.size = 24) {L : List (Nat × Obj)} : FnD Tryz.prog 131 [.pointer (some ⟨xb, 0, none⟩), .pointer (some ⟨eb, 0, none⟩)] ((eb, .cells #[old] 144 (0, 0)) :: (xb, .cells cs 43 (0, 0)) :: L) (.panicking (pan (flt p))) (fun u' L' => settle u' = .returning ∧ L' = (eb, .cells #[flt p] 144 (0, 0)) :: (xb, .cells zc43 43 (0, 0)) :: L) := by
  refine FnD_recover (rv := flt p) Tryz.func131 rfl Tryz.ntmps131 rfl rfl rfl rfl ⟨rfl, rfl⟩ fun g n => ⟨_, rfl, ?_⟩
  show WC _ _ _ ⟨[(6, flt p), (0, .pointer (some ⟨xb, 0, none⟩)), (1, .pointer (some ⟨eb, 0, none⟩))], [], _⟩
  repeat (first | refine RQ ?_ | (refine WL_Q ?_; (first | refine QW_of (Qt_nilCheck_m rfl) ?_)) | (refine RE ?_; try intro _) | refine RC ?_ | refine WC_region ?_)
  exact ⟨rfl, _, _, Res0 rfl, .cons _ (.refl _), rfl, rfl⟩
end Go.Proofs.YtdiaogcogkapgaaGreatDoor
namespace Go.Proofs.YtdiaogcogkapgaaGreatDoor
open Go.RowKit
attribute [local irreducible] Fn WC WL WR OW Qt YieldFn QW FnP FnD FnE
theorem OW_defB {c : Cx} {o : Oper} {Kn : St → Prop} {K : Exit → St → Prop} {s : List (Nat × Value)} {D : List Deferred} {L : List (Nat × Obj)} {f : FuncId} {x : Operand} {A B : Array Value} {args : Array Operand} {tys : Array TypeId} {vs : List Value} (ho : o.op = .defer { callee := .value x, args := args, argTypes := tys }) (hr : c.r = none := by exact rfl) (hdst : o.dst = none := by exact rfl) (hx : ev s x = some (.func (.func f) A B) := by exact rfl) (ha : evs s args.toList = some vs := by exact rfl)
    (hk : Kn ⟨s, { target := .fn (.func f) B, args := (A.toList ++ vs).toArray } :: D, L⟩) : OW c o Kn K ⟨s, D, L⟩ := by
  refine OW_defer (σ := ⟨s, D, L⟩) (x := x) (A := A) (B := B) hr ho hx ha (by rw [hdst]; rfl) ?_
  rw [hdst]
  simpa [St.put] using hk
theorem perm2 {α : Type} (P F : List α) (x y : α) : (x :: y :: (P ++ F)).Perm (P ++ (x :: y :: F)) := ((List.perm_middle (l₁ := P)).trans (.cons _ (List.perm_middle (l₁ := P)))).symm
def ReadAt (rb : Nat) (l : List UInt8) (F : List (Nat × Obj)) (n : Nat) (zc : Array Value) (Ok : Nat → List (Nat × Obj) → Array Value → Prop) (Bad : Nat → Nat → Prop) (v : Value) (L' : List (Nat × Obj)) : Prop :=
  (∃ b T cs', Ok b T cs' ∧ cs'.size = n ∧ v = .tuple #[.agg cs', .nilIface] ∧ L' = (rb, rdO l b) :: (F ++ T)) ∨
  (∃ c e p b, Bad c e ∧ b ≤ l.length ∧ v = .tuple #[.agg zc, flt p] ∧ L' = (p, fltO c e) :: (rb, rdO l b) :: F)
def PartsFn (fu : FuncId) (rb : Nat) (l : List UInt8) (a : Nat) (F : List (Nat × Obj)) (E : TypeId) (n : Nat) (zc : Array Value) (Ok : Nat → List (Nat × Obj) → Array Value → Prop) (Bad : Nat → Nat → Prop) : Prop :=
  ∀ gb eb xb : Nat, FnE Tryz.prog fu [getV gb, .pointer (some ⟨xb, 0, none⟩)] ((rb, rdO l a) :: (gb, gtO rb 0) :: (eb, .cells #[.nilIface] 144 (0, 0)) :: (xb, .cells zc E (0, 0)) :: F)
    (fun v L' => v = .tuple #[] ∧ ∃ b q T cs', Ok b T cs' ∧ L' = (rb, rdO l b) :: (gb, gtO rb q) :: (T ++ ((eb, .cells #[.nilIface] 144 (0, 0)) :: (xb, .cells cs' E (0, 0)) :: F)) ∧ cs'.size = n ∧ (cs'.toList.all fun v => v.oneCell') = true)
    (fun u L' => ∃ c e p b q T cs', Bad c e ∧ b ≤ l.length ∧ u = flt p ∧ L' = (p, fltO c e) :: (rb, rdO l b) :: (gb, gtO rb q) :: (T ++ ((eb, .cells #[.nilIface] 144 (0, 0)) :: (xb, .cells cs' E (0, 0)) :: F)) ∧ cs'.size = n)
theorem PartsFn.perm {fu : FuncId} {rb : Nat} {l : List UInt8} {a : Nat} {F : List (Nat × Obj)} {E : TypeId} {n : Nat} {zc : Array Value} {Ok : Nat → List (Nat × Obj) → Array Value → Prop} {Bad : Nat → Nat → Prop} (h : PartsFn fu rb l a F E n zc Ok Bad) (gb eb xb : Nat) :
    FnE Tryz.prog fu [getV gb, .pointer (some ⟨xb, 0, none⟩)] ((gb, gtO rb 0) :: (rb, rdO l a) :: (eb, .cells #[.nilIface] 144 (0, 0)) :: (xb, .cells zc E (0, 0)) :: F)
    (fun v L' => v = .tuple #[] ∧ ∃ b q T cs', Ok b T cs' ∧ L' = (rb, rdO l b) :: (eb, .cells #[.nilIface] 144 (0, 0)) :: (xb, .cells cs' E (0, 0)) :: ((gb, gtO rb q) :: (F ++ T)) ∧ cs'.size = n ∧ (cs'.toList.all fun v => v.oneCell') = true)
    (fun u L' => ∃ c e p b q T cs', Bad c e ∧ b ≤ l.length ∧ u = flt p ∧ L' = (eb, .cells #[.nilIface] 144 (0, 0)) :: (xb, .cells cs' E (0, 0)) :: ((p, fltO c e) :: (rb, rdO l b) :: (gb, gtO rb q) :: (T ++ F)) ∧ cs'.size = n) :=
  (h gb eb xb).perm (.swap _ _ _)
    (fun v L' ⟨h0, b, q, T, cs', h1, h2, h3⟩ => ⟨_, by rw [h2]; exact .cons _ ((List.Perm.cons _ (.cons _ (.cons _ List.perm_append_comm))).trans (perm2 ((gb, gtO rb q) :: T) F _ _)), h0, b, q, T, cs', h1, rfl, h3⟩)
    (fun u L' ⟨c, e, p, b, q, T, cs', h1, hb, h0, h2, h3⟩ => ⟨_, by rw [h2]; exact perm2 ((p, fltO c e) :: (rb, rdO l b) :: (gb, gtO rb q) :: T) F _ _, c, e, p, b, q, T, cs', h1, hb, h0, rfl, h3⟩)
set_option maxHeartbeats 1000000 in
theorem read_Msg {rb a : Nat} {l : List UInt8} {F : List (Nat × Obj)} {fu : FuncId} [FCall Tryz.prog fu] {Ok : Nat → List (Nat × Obj) → Array Value → Prop} {Bad : Nat → Nat → Prop} (hf : PartsFn fu rb l a F 43 24 zc43 Ok Bad) :
    Fn Tryz.prog 110 [.pointer (some ⟨rb, 0, none⟩), .func (.func fu) #[] #[]] ((rb, rdO l a) :: F) (ReadAt rb l F 24 zc43 Ok Bad) := by
  refine Fn_enterD Tryz.func110 rfl Tryz.ntmps110 rfl fun g => ?_
  repeat (first | refine RQ ?_ | (refine WL_Q ?_; (first | refine QW_of (Qt_nilCheck_m rfl) ?_)) | (refine RE ?_; try intro _) | refine RC ?_ | refine WC_regB 2 ?_)
  rename_i xb eb
  refine WL_op rfl (OW_defB rfl (hk := WL_nil ?_))
  refine WC_front 2 rfl ?_
  repeat (first | refine RQ ?_ | (refine WL_Q ?_; (first | refine QW_of (Qt_nilCheck_m rfl) ?_)) | (refine RE ?_; try intro _) | refine RC ?_ | refine WC_regB 2 ?_)
  refine WC_regP ?_
  repeat (first | refine RQ ?_ | (refine WL_Q ?_; (first | refine QW_of (Qt_nilCheck_m rfl) ?_)) | (refine RE ?_; try intro _) | refine RC ?_ | refine WC_regB 3 ?_)
  rename_i gb
  refine WL_op rfl ?_
  refine OW_callE rfl (hf.perm gb eb xb) ?_ ?_
  rotate_left
  · rintro _ _ ⟨c, e, p, b, q, T, cs', h1, hb, rfl, rfl, hz⟩
    refine LeavS_oneB (by simp) (caught_Msg hz) ?_
    rintro u' L' ⟨hu, rfl⟩
    rw [hu]
    exact ⟨_, _, Res2 rfl (resV_cellN rfl 1 rfl rfl) (resV_cell1 rfl 0 rfl), .cons _ (.cons _ (.cons_cons _ (.cons_cons _ (.cons _ (List.sublist_append_right _ _))))), .inr ⟨c, e, p, b, h1, hb, rfl, rfl⟩⟩
  rintro _ _ ⟨rfl, b, q, T, cs', h1, rfl, hz, hone⟩
  repeat (first | refine RQ ?_ | (refine WL_Q ?_; (first | refine QW_of (Qt_nilCheck_m rfl) ?_)) | (refine RE ?_; try intro _) | refine RC ?_ | refine WC_region ?_)
  refine LeavS_oneB (c := ⟨Tryz.prog, g, _, _, _⟩) (A := #[]) (B := #[.pointer (some ⟨xb, 0, none⟩), .pointer (some ⟨eb, 0, none⟩)]) (u := .returning) (by simp) saved_Msg ?_
  rintro u' L' ⟨rfl, rfl⟩
  exact ⟨_, _, Res2 rfl (resV_cellN rfl 2 rfl hz) (resV_cell1 rfl 1 rfl), .cons_cons _ (.cons _ (.cons _ (.cons _ (.refl _)))), .inl ⟨b, T, cs', h1, hz, rfl, rfl⟩⟩
end Go.Proofs.YtdiaogcogkapgaaGreatDoor
namespace Go.Proofs.YtdiaogcogkapgaaGreatDoor
open Go.RowKit
attribute [local irreducible] Fn WC WL WR OW Qt YieldFn QW FnP FnD FnE
theorem Fk.ok_one {k : Fk} {v : Value} (h : k.ok v) : v.oneCell' = true := by
  cases k <;> obtain ⟨x, rfl, _⟩ := h <;> rfl
theorem Oks.cells1 : ∀ {fs : List Fk} {vs : List Value}, Oks fs vs → (vs.all fun v => v.oneCell') = true
  | [], [], _ => rfl
  | k :: ks, v :: vs, h => by rw [List.all_cons, Fk.ok_one h.1, Oks.cells1 h.2]; rfl
  | [], _ :: _, h => h.elim
  | _ :: _, [], h => h.elim
theorem Upd.whole {cs cs' : Array Value} {us : List Value} (h : Upd cs cs' 0 us) (hn : us.length = cs.size) : cs' = us.toArray := by
  apply Array.ext_getElem?
  intro j
  by_cases hj : j < us.length
  · have := h.lies j us[j] (List.getElem?_eq_getElem hj)
    rw [Nat.zero_add] at this
    rw [this, List.getElem?_toArray, List.getElem?_eq_getElem hj]
  · rw [Array.getElem?_eq_none (by rw [h.size]; omega), Array.getElem?_eq_none (by simp; omega)]
theorem lies_self {vs : List Value} : Lies vs.toArray 0 vs := fun j v h => by rw [Nat.zero_add, List.getElem?_toArray]; exact h
end Go.Proofs.YtdiaogcogkapgaaGreatDoor
namespace Go.Proofs.YtdiaogcogkapgaaGreatDoor
open Go.RowKit
attribute [local irreducible] Fn WC WL WR OW Qt YieldFn QW FnP FnD FnE
theorem Buf.one {E sz : Nat} {v : Value} {T : List (Nat × Obj)} {n : Nat} {xs : List Value} (h : Buf E sz v T n xs) : v.oneCell' = true := by
  obtain ⟨ag, cap, rfl, _⟩ := h.val
  rfl
def OkMsg (l : List UInt8) (a b : Nat) (T : List (Nat × Obj)) (cs' : Array Value) : Prop := (∃ m vb ve T1 T2, prMsg l a = .ok m b ∧ T = T1 ++ T2 ∧ Buf 3 1 vb T1 m.bins.length m.bins.flatten ∧ Buf 214 10 ve T2 m.ents.length m.ents.flatten ∧ cs' = (m.cellsV vb ve).toArray) ∧ (cs'.toList.all fun v => v.oneCell') = true
theorem MV.cellsV_len {m : MV} (h : m.Ok) {vb ve : Value} : (m.cellsV vb ve).length = 24 := by
  have l1 := h.rc.len
  have l2 := h.ch.len
  have l3 := h.ct.len
  have l4 := h.kh.len
  simp only [MV.cellsV, List.length_append, List.length_cons, List.length_nil, l1, l2, l3, l4]
theorem MV.cellsV_one {m : MV} (h : m.Ok) {vb ve : Value} (hb : vb.oneCell' = true) (he : ve.oneCell' = true) : ((m.cellsV vb ve).all fun v => v.oneCell') = true := by
  unfold MV.cellsV
  simp only [List.all_append, List.all_cons, h.rc.cells1, h.ch.cells1, h.ct.cells1, h.kh.cells1, hb, he]
  rfl
theorem parts_Msg {rb a : Nat} {l : List UInt8} (hl9 : l.length ≤ 1000000000) (ha : a ≤ l.length) (F : List (Nat × Obj)) :
    PartsFn 74 rb l a F 43 24 zc43 (OkMsg l a) (fun c e => prMsg l a = .bad c e) := by
  intro gb eb xb
  refine (gmsg hl9 (s := (a, 0)) (Lp := [(rb, rdO l a), (gb, gtO rb 0)]) (R := (eb, .cells #[.nilIface] 144 (0, 0)) :: (xb, .cells zc43 43 (0, 0)) :: F) (i := 1) ⟨rfl, ha⟩ rfl (lies_self (vs := zMsg)) (Free.zero _ _)).mono ?_ ?_
  · rintro _ _ ⟨h0, m, s', Lp', vb, ve, T1, T2, cs', h1, rfl, ⟨rfl, hb⟩, hbuf, hbuf2, hu⟩
    have o := (prMsg_went h1).1.ok
    have e := hu.whole (MV.cellsV_len o)
    subst e
    have hone : ((m.cellsV vb ve).toArray.toList.all fun v => v.oneCell') = true := MV.cellsV_one o hbuf.one hbuf2.one
    refine ⟨h0, s'.1, s'.2, T1 ++ T2, _, ⟨⟨m, vb, ve, T1, T2, h1, rfl, hbuf, hbuf2, rfl⟩, hone⟩, ?_, hu.size, hone⟩
    rw [List.append_assoc]; rfl
  · rintro _ _ ⟨c, e, p, s', Lp', T, cs', h1, h0, rfl, ⟨rfl, hb⟩, hz⟩
    exact ⟨c, e, p, s'.1, s'.2, T, cs', h1, hb, h0, rfl, hz⟩
theorem GMsg_fn {rb a : Nat} {l : List UInt8} (hl9 : l.length ≤ 1000000000) (ha : a ≤ l.length) (F : List (Nat × Obj)) :
    Fn Tryz.prog 87 [.pointer (some ⟨rb, 0, none⟩)] ((rb, rdO l a) :: F) (ReadAt rb l F 24 zc43 (OkMsg l a) (fun c e => prMsg l a = .bad c e)) := by
  refine Fn_enter Tryz.func87 rfl Tryz.ntmps87 rfl fun g => ?_
  repeat (first | refine RQ ?_ | (refine WL_Q ?_; (first | refine QW_of (Qt_nilCheck_m rfl) ?_)) | (refine RE ?_; try intro _) | refine RC ?_ | refine WG 0 ?_)
  rename_i xb
  refine WC_front 1 rfl ?_
  repeat (first | refine RQ ?_ | (refine WL_Q ?_; (first | refine QW_of (Qt_nilCheck_m rfl) ?_)) | (refine RE ?_; try intro _) | refine RC ?_ | refine WC_region ?_)
  refine WL_op rfl (OW_call rfl (hF := read_Msg (parts_Msg hl9 ha _)) (hk := ?_))
  rintro _ _ (⟨b, T, cs', hok, hz, rfl, rfl⟩ | ⟨c, e, p, b, h1, hb, rfl, rfl⟩)
  · have hone := hok.2
    repeat (first | refine RQ ?_ | (refine WL_Q ?_; (first | refine QW_of (Qt_nilCheck_m rfl) ?_)) | (refine RE ?_; try intro _) | refine RC ?_ | refine WC_region ?_)
    exact ⟨rfl, _, _, Res2 rfl (resV_cellN rfl 1 rfl hz) (resV_tmp rfl), .cons_cons _ (.cons _ (.refl _)), .inl ⟨b, T, cs', hok, hz, rfl, rfl⟩⟩
  · repeat (first | refine RQ ?_ | (refine WL_Q ?_; (first | refine QW_of (Qt_nilCheck_m rfl) ?_)) | (refine RE ?_; try intro _) | refine RC ?_ | refine WC_region ?_)
    exact ⟨rfl, _, _, Res2 rfl (resV_cellN rfl 2 rfl rfl) (resV_tmp rfl), .cons_cons _ (.cons_cons _ (.cons _ (.refl _))), .inr ⟨c, e, p, b, h1, hb, rfl, rfl⟩⟩
end Go.Proofs.YtdiaogcogkapgaaGreatDoor
namespace Go.Proofs.YtdiaogcogkapgaaGreatDoor
open Go.RowKit
attribute [local irreducible] Fn WC WL WR OW Qt YieldFn QW FnP FnD FnE
abbrev ptr (b off : Nat) : Value := .pointer (some ⟨b, off, none⟩)
abbrev bxR (b rb : Nat) : Nat × Obj := (b, .cells #[ptr rb 0] 162 (0, 0))
abbrev bxN (b most : Nat) : Nat × Obj := (b, .cells #[.int .u64 (most : Nat)] 91 (0, 0))
abbrev bxT (b gb off : Nat) : Nat × Obj := (b, .cells #[ptr gb off] 166 (0, 0))
abbrev gmO (cs : Array Value) : Obj := .cells cs 93 (0, 0)
theorem number_fn {rb gb off : Nat} {most : Nat} {L : List (Nat × Obj)} : Fn Tryz.prog 86 [ptr rb 0, ptr gb off, .int .u64 (most : Nat)] L (fun v L' => ∃ b3 b4 b5, v = .func (.func 108) #[] #[ptr b3 0, ptr b5 0, ptr b4 0] ∧ L' = bxN b5 most :: bxT b4 gb off :: bxR b3 rb :: L) := by
  refine Fn_enter Tryz.func86 rfl Tryz.ntmps86 rfl fun g => ?_
  repeat (first | refine RQ ?_ | (refine RE ?_; try intro _) | refine RC ?_ | refine WC_region ?_)
  exact ⟨rfl, _, _, Res1 rfl (resV_tmp rfl), .refl _, _, _, _, rfl, rfl⟩
def FldAt (l : List UInt8) (rb gb : Nat) (cs : Array Value) (F : List (Nat × Obj)) (p : PR Value) (off : Nat) (v : Value) (L' : List (Nat × Obj)) : Prop :=
  (∃ x b, p = .ok x b ∧ b ≤ l.length ∧ v = .nilIface ∧ L' = (rb, rdO l b) :: (gb, gmO (cs.setIfInBounds off x)) :: F) ∨
  (∃ c e q b cs', p = .bad c e ∧ b ≤ l.length ∧ cs'.size = cs.size ∧ v = flt q ∧ L' = (q, fltO c e) :: (rb, rdO l b) :: (gb, gmO cs') :: F)
def prUV (l : List UInt8) (most a : Nat) : PR Value := (prU l most a).bind fun x b => .ok (.int .i64 x) b
set_option maxHeartbeats 1000000 in
theorem number1_fn {l : List UInt8} {a rb gb b3 b4 b5 off most : Nat} {cs : Array Value} (ha : a ≤ l.length) (hl : l.length ≤ 1000000000) (hoff : off < cs.size) (hm : most ≤ 65535) (F : List (Nat × Obj)) :
    Fn Tryz.prog 108 [ptr b3 0, ptr b5 0, ptr b4 0] ((rb, rdO l a) :: (gb, gmO cs) :: bxR b3 rb :: bxN b5 most :: bxT b4 gb off :: F)
      (FldAt l rb gb cs (bxR b3 rb :: bxN b5 most :: bxT b4 gb off :: F) (prUV l most a) off) := by
  refine Fn_enter Tryz.func108 rfl Tryz.ntmps108 rfl fun g => ?_
  repeat (first | refine RQ ?_ | (refine WL_op rfl ?_; (first | refine OW_S (fun F => place_rd F) ?_)) | refine RC ?_ | refine WG 0 ?_ | refine WG 1 ?_ | refine WG 2 ?_)
  refine WL_op rfl (OW_call rfl (hF := U_fn ha hl _) (hk := ?_))
  rintro _ _ (⟨hc, rfl, rfl⟩ | ⟨hc, p, rfl, rfl⟩)
  · have hn := uNext_le hc
    by_cases hv : uVal l a ≤ most
    · have d1 : decide (((uVal l a : Nat) : Int) > (most : Nat)) = false := decide_eq_false (by omega)
      have w1 : IntKind.i64.wrap (if ((most : Nat) : Int) < (uVal l a : Nat) then ((most : Nat) : Int) else (uVal l a : Nat)) = (uVal l a : Nat) := by rw [if_neg (by omega), wI64 (by omega) (by omega)]
      repeat (first | refine RQ ?_ | (refine RE ?_; try intro _) | refine RC ?_ | refine WG 2 ?_ | refine WG 3 ?_ | refine WG 5 ?_ | refine WG 6 ?_)
      rw [w1]
      exact ⟨rfl, _, _, Res1 rfl (resV_tmp rfl), .refl _, .inl ⟨.int .i64 (uVal l a : Nat), uNext l a, by unfold prUV prU; rw [if_pos hc, if_pos hv]; rfl, hn, rfl, rfl⟩⟩
    · have d1 : decide (((uVal l a : Nat) : Int) > (most : Nat)) = true := decide_eq_true (by omega)
      repeat (first | refine RQ ?_ | (refine RE ?_; try intro _) | ((first | refine WL_op rfl ?_ | refine WL_yes (h := ?_)); (first | refine OW_S (fun F => place_rd F) ?_)) | refine RC ?_ | refine WC_region ?_)
      exact ⟨rfl, _, _, Res1 rfl (resV_tmp rfl), .refl _, .inr ⟨2, a, _, uNext l a, _, by unfold prUV prU; rw [if_pos hc, if_neg hv]; rfl, hn, by simp, rfl, rfl⟩⟩
  · repeat (first | refine RQ ?_ | (refine RE ?_; try intro _) | ((first | refine WL_op rfl ?_ | refine WL_yes (h := ?_)); (first | refine OW_S (fun F => place_rd F) ?_)) | refine RC ?_ | refine WC_region ?_)
    exact ⟨rfl, _, _, Res1 rfl (resV_tmp rfl), .refl _, .inr ⟨uCode l a, a, _, a, _, by unfold prUV prU; rw [if_neg hc]; rfl, ha, by simp, rfl, rfl⟩⟩
set_option maxHeartbeats 1000000 in
theorem get2_fn {l : List UInt8} {a rb gb cb : Nat} {cs : Array Value} (ha : a ≤ l.length) (hl : l.length ≤ 1000000000) (hoff : 2 < cs.size) (F : List (Nat × Obj)) :
    Fn Tryz.prog 88 [ptr cb 0, ptr gb 0] ((rb, rdO l a) :: (gb, gmO cs) :: bxR cb rb :: F) (FldAt l rb gb cs (bxR cb rb :: F) (Fk.pr l a .tt) 2) := by
  refine Fn_enter Tryz.func88 rfl Tryz.ntmps88 rfl fun g => ?_
  repeat (first | refine RQ ?_ | (refine RE ?_; try intro _) | refine RC ?_ | refine WC_region ?_)
  refine WL_op rfl (OW_call rfl (hF := Bool_fn ha hl _) (hk := ?_))
  rintro _ _ (⟨hc, rfl, rfl⟩ | ⟨hc, p, rfl, rfl⟩)
  · repeat (first | refine RQ ?_ | (refine RE ?_; try intro _) | refine RC ?_ | refine WC_region ?_)
    exact ⟨rfl, _, _, Res1 rfl (resV_tmp rfl), .refl _, .inl ⟨.bool ((bVal l a).toNat == 1), a + 1, by simp only [Fk.pr]; rw [if_pos hc], tNext_le hc, rfl, rfl⟩⟩
  · repeat (first | refine RQ ?_ | (refine RE ?_; try intro _) | refine RC ?_ | refine WC_region ?_)
    exact ⟨rfl, _, _, Res1 rfl (resV_tmp rfl), .refl _, .inr ⟨tCode l a, a, _, a, _, by simp only [Fk.pr]; rw [if_neg hc], ha, by simp, rfl, rfl⟩⟩
set_option maxHeartbeats 1000000 in
theorem get3_fn {l : List UInt8} {a rb gb cb : Nat} {cs : Array Value} (ha : a ≤ l.length) (hl : l.length ≤ 1000000000) (hoff : 3 < cs.size) (F : List (Nat × Obj)) :
    Fn Tryz.prog 90 [ptr cb 0, ptr gb 0] ((rb, rdO l a) :: (gb, gmO cs) :: bxR cb rb :: F) (FldAt l rb gb cs (bxR cb rb :: F) (Fk.pr l a .nn) 3) := by
  refine Fn_enter Tryz.func90 rfl Tryz.ntmps90 rfl fun g => ?_
  repeat (first | refine RQ ?_ | (refine RE ?_; try intro _) | refine RC ?_ | refine WC_region ?_)
  refine WL_op rfl (OW_call rfl (hF := U_fn ha hl _) (hk := ?_))
  rintro _ _ (⟨hc, rfl, rfl⟩ | ⟨hc, p, rfl, rfl⟩)
  · repeat (first | refine RQ ?_ | (refine RE ?_; try intro _) | refine RC ?_ | refine WC_region ?_)
    exact ⟨rfl, _, _, Res1 rfl (resV_tmp rfl), .refl _, .inl ⟨.int .u64 (uVal l a : Nat), uNext l a, by simp only [Fk.pr]; rw [if_pos hc], uNext_le hc, rfl, rfl⟩⟩
  · repeat (first | refine RQ ?_ | (refine RE ?_; try intro _) | refine RC ?_ | refine WC_region ?_)
    exact ⟨rfl, _, _, Res1 rfl (resV_tmp rfl), .refl _, .inr ⟨uCode l a, a, _, a, _, by simp only [Fk.pr]; rw [if_neg hc], ha, by simp, rfl, rfl⟩⟩
def gcs (life chan : Int) (ack : Bool) (seq room : Int) (ms : List Value) : Array Value := (.int .i64 life :: .int .i64 chan :: .bool ack :: .int .u64 seq :: .int .i64 room :: ms).toArray
def GramOk (g : GV) (cs : Array Value) (T : List (Nat × Obj)) : Prop := ∃ vb ve T1 T2, T = T1 ++ T2 ∧ Buf 3 1 vb T1 g.m.bins.length g.m.bins.flatten ∧ Buf 214 10 ve T2 g.m.ents.length g.m.ents.flatten ∧ cs = gcs g.life g.chan g.ack g.seq g.room (g.m.cellsV vb ve)
theorem putR_mid {pre mid vs : List Value} (h : mid.length = vs.length) : putR (pre ++ mid).toArray pre.length vs.toArray = (pre ++ vs).toArray := by
  unfold putR
  simp only [List.size_toArray]
  rw [List.drop_append, List.drop_eq_nil_of_le (by omega), show pre.length + vs.length - pre.length = vs.length by omega, ← h, List.drop_length]
  simp
theorem gcs_put {life chan : Int} {ack : Bool} {seq room : Int} {ms vs : List Value} (h : ms.length = vs.length) : putR (gcs life chan ack seq room ms) 5 vs.toArray = gcs life chan ack seq room vs :=
  putR_mid (pre := [.int .i64 life, .int .i64 chan, .bool ack, .int .u64 seq, .int .i64 room]) h
theorem gcs_size {life chan : Int} {ack : Bool} {seq room : Int} {ms : List Value} : (gcs life chan ack seq room ms).size = ms.length + 5 := rfl
def RestAt (l : List UInt8) (rb gb cb : Nat) (F : List (Nat × Obj)) (p : PR GV) (v : Value) (L' : List (Nat × Obj)) : Prop :=
  (∃ g b T cs', p = .ok g b ∧ b ≤ l.length ∧ GramOk g cs' T ∧ v = .nilIface ∧ L' = (rb, rdO l b) :: (gb, gmO cs') :: bxR cb rb :: (F ++ T)) ∨
  (∃ c e q b cs', p = .bad c e ∧ b ≤ l.length ∧ cs'.size = 29 ∧ v = flt q ∧ L' = (q, fltO c e) :: (rb, rdO l b) :: (gb, gmO cs') :: bxR cb rb :: F)
set_option maxHeartbeats 4000000 in
theorem get1_fn {l : List UInt8} {a rb gb cb : Nat} {life chan seq : Int} {ack : Bool} (ha : a ≤ l.length) (hl : l.length ≤ 1000000000) (F : List (Nat × Obj)) :
    Fn Tryz.prog 85 [ptr gb 0, ptr cb 0] ((rb, rdO l a) :: (gb, gmO (gcs life chan ack seq 0 zMsg)) :: bxR cb rb :: F) (RestAt l rb gb cb F (prTail l life chan ack seq a)) := by
  refine Fn_enter Tryz.func85 rfl Tryz.ntmps85 rfl fun g => ?_
  have hsz : (gcs life chan ack seq 0 zMsg).size = 29 := rfl
  have h2 : (gcs life chan ack seq 0 zMsg)[2]? = some (.bool ack) := rfl
  cases hk : ack
  · subst hk
    repeat (first | refine RQ ?_ | (refine RE ?_; try intro _) | refine RC ?_ | refine WG 0 ?_ | refine WG 1 ?_ | refine WG 3 ?_)
    refine WL_op rfl (OW_call rfl (hF := GMsg_fn hl ha _) (hk := ?_))
    rintro _ _ (⟨b, T, cs', hok, hz, rfl, rfl⟩ | ⟨c, e, p, b, h1, hb, rfl, rfl⟩)
    · have hone := hok.2
      obtain ⟨m, vb, ve, T1, T2, h1, rfl, b1, b2, rfl⟩ := hok.1
      have hm := prMsg_went h1
      simp only [List.cons_append]
      repeat (first | refine RQ ?_ | (refine RE ?_; try intro _) | refine RC ?_ | refine WG 3 ?_ | refine WG 4 ?_)
      rw [gcs_put (by rw [MV.cellsV_len hm.1.ok]; rfl)]
      refine ⟨rfl, _, _, Res1 rfl (resV_tmp rfl), .refl _, .inl ⟨⟨life, chan, false, seq, 0, m⟩, b, T1 ++ T2, _, ?_, hm.2.2.1, ⟨vb, ve, T1, T2, rfl, b1, b2, rfl⟩, rfl, rfl⟩⟩
      unfold prTail
      rw [if_neg (by decide), h1]; rfl
    · repeat (first | refine RQ ?_ | (refine RE ?_; try intro _) | refine RC ?_ | refine WG 3 ?_ | refine WG 4 ?_)
      refine ⟨rfl, _, _, Res1 rfl (resV_tmp rfl), .refl _, .inr ⟨c, e, p, b, _, ?_, hb, ?_, rfl, rfl⟩⟩
      · unfold prTail
        rw [if_neg (by decide), h1]; rfl
      · rw [putR_size _ _ _ (by rw [hsz]; exact Nat.le_of_ble_eq_true rfl)]; rfl
  · subst hk
    repeat (first | refine RQ ?_ | (refine WL_op rfl ?_; (first | (refine OW_call rfl (hF := number_fn (most := 16)) (hk := ?_); rintro _ _ ⟨b3, b4, b5, rfl, rfl⟩))) | refine RC ?_ | refine WG 0 ?_ | refine WG 1 ?_ | refine WG 2 ?_)
    refine WL_front 1 rfl (WL_front 1 rfl (WL_front 2 rfl (WL_front 4 rfl (WL_front 4 rfl ?_))))
    refine WL_op rfl (OW_callv rfl rfl rfl rfl rfl (number1_fn ha hl (by rw [hsz]; decide) (by decide) _) ?_)
    rintro _ _ (⟨x, b, h1, hb, rfl, rfl⟩ | ⟨c, e, p, b, cs', h1, hb, hz, rfl, rfl⟩)
    · obtain ⟨x, b', e1, e2⟩ := PR.bind_ok h1
      cases e2
      repeat (first | refine RQ ?_ | (refine WL_op rfl ?_; (first | (refine OW_call rfl (hF := number_fn (most := 16)) (hk := ?_); rintro _ _ ⟨b3, b4, b5, rfl, rfl⟩))) | refine RC ?_ | refine WG 2 ?_)
      refine ⟨rfl, _, _, Res1 rfl (resV_tmp rfl), .cons_cons _ (.cons_cons _ (.cons _ (.cons _ (.cons _ (.refl _))))), .inl ⟨⟨life, chan, true, seq, x, MV.none⟩, b, [], _, ?_, hb, ⟨nilS, nilS, [], [], rfl, Buf.nil _ _, Buf.nil _ _, rfl⟩, rfl, by rw [List.append_nil]; rfl⟩⟩
      unfold prTail
      rw [if_pos rfl, e1]; rfl
    · repeat (first | refine RQ ?_ | (refine WL_op rfl ?_; (first | (refine OW_call rfl (hF := number_fn (most := 16)) (hk := ?_); rintro _ _ ⟨b3, b4, b5, rfl, rfl⟩))) | refine RC ?_ | refine WG 2 ?_)
      refine ⟨rfl, _, _, Res1 rfl (resV_tmp rfl), .cons_cons _ (.cons_cons _ (.cons_cons _ (.cons _ (.cons _ (.cons _ (.refl _)))))), .inr ⟨c, e, p, b, cs', ?_, hb, by rw [hz]; rfl, rfl, rfl⟩⟩
      unfold prUV at h1
      unfold prTail
      rw [if_pos rfl]
      cases h5 : prU l 16 a with
      | ok y b2 => rw [h5] at h1; cases h1
      | bad c2 e2 => rw [h5] at h1; cases h1; rfl
end Go.Proofs.YtdiaogcogkapgaaGreatDoor
namespace Go.Proofs.YtdiaogcogkapgaaGreatDoor
open Go.RowKit
attribute [local irreducible] Fn WC WL WR OW Qt YieldFn QW FnP FnD FnE
theorem as_nil_fn {t : Value} {L : List (Nat × Obj)} : Fn Tryz.prog 93 [.nilIface, t] L (fun v L' => v = .bool false ∧ L' = L) := by
  unfold Fn
  intro g w hm
  refine (as_nil t w).mono fun e w' ⟨he, hw'⟩ => ?_
  subst hw'
  exact ⟨_, _, he, hm, rfl, rfl⟩
theorem prN_pr {l : List UInt8} {a : Nat} : Fk.pr l a .nn = (prN l a).bind fun x b => .ok (.int .u64 x) b := by
  simp only [Fk.pr, prN]
  split <;> rfl
theorem PR.bind_bad' {α β : Type} {r : PR α} {f : α → β} {c a : Nat} (h : (r.bind fun x b => PR.ok (f x) b) = .bad c a) : r = .bad c a := by
  cases r with
  | ok x n => cases h
  | bad c' a' => cases h; rfl
theorem gcs_s0 {life chan x : Int} {ack : Bool} {seq room : Int} {ms : List Value} : (gcs life chan ack seq room ms).setIfInBounds 0 (.int .i64 x) = gcs x chan ack seq room ms := by unfold gcs; simp
theorem gcs_s1 {life chan x : Int} {ack : Bool} {seq room : Int} {ms : List Value} : (gcs life chan ack seq room ms).setIfInBounds 1 (.int .i64 x) = gcs life x ack seq room ms := by unfold gcs; simp
theorem gcs_s2 {life chan : Int} {ack x : Bool} {seq room : Int} {ms : List Value} : (gcs life chan ack seq room ms).setIfInBounds 2 (.bool x) = gcs life chan x seq room ms := by unfold gcs; simp
theorem gcs_s3 {life chan x : Int} {ack : Bool} {seq room : Int} {ms : List Value} : (gcs life chan ack seq room ms).setIfInBounds 3 (.int .u64 x) = gcs life chan ack x room ms := by unfold gcs; simp
theorem GramOk.one {g : GV} {cs : Array Value} {T : List (Nat × Obj)} (h : GramOk g cs T) (hm : g.m.Ok) : (cs.toList.all fun v => v.oneCell') = true := by
  obtain ⟨vb, ve, T1, T2, _, b1, b2, rfl⟩ := h
  show ((_ :: _ :: _ :: _ :: _ :: g.m.cellsV vb ve).all _) = true
  have := MV.cellsV_one hm b1.one b2.one
  simp only [List.all_cons, this]; rfl
theorem GramOk.size {g : GV} {cs : Array Value} {T : List (Nat × Obj)} (h : GramOk g cs T) (hm : g.m.Ok) : cs.size = 29 := by
  obtain ⟨vb, ve, T1, T2, _, b1, b2, rfl⟩ := h
  rw [gcs_size, MV.cellsV_len hm]
def GotAt (l : List UInt8) (F : List (Nat × Obj)) (v : Value) (L' : List (Nat × Obj)) : Prop :=
  (∃ g b T cs', prGram l = .ok g b ∧ GramOk g cs' T ∧ v = .tuple #[.agg cs', .nilIface] ∧ L' = F ++ T) ∨
  (∃ c e p, prGram l = .bad c e ∧ v = .tuple #[.agg zc93, flt p] ∧ L' = (p, fltO c e) :: F)
theorem HandleIn.left {L : List (Nat × Obj)} (B : List (Nat × Obj)) (h : HandleIn L) : HandleIn (L ++ B) := by
  obtain ⟨cs, E, fr, h1, h2⟩ := h
  exact ⟨cs, E, fr, List.mem_append_left _ h1, h2⟩
theorem WC_dropS {c : Cx} {code : Code} {K : Exit → St → Prop} {s : List (Nat × Value)} {D : List Deferred} {L L' : List (Nat × Obj)} (hs : L'.Sublist L) (h : WC c code K ⟨s, D, L'⟩) : WC c code K ⟨s, D, L⟩ := WC_dropL L' hs h
theorem bind_okf {α β : Type} {x : α} {a : Nat} {f : α → Nat → PR β} {r : PR α} (h : r = .ok x a) : r.bind f = f x a := by rw [h]; rfl
theorem bind_badf {α β : Type} {c a : Nat} {f : α → Nat → PR β} {r : PR α} (h : r = .bad c a) : r.bind f = .bad c a := by rw [h]; rfl
set_option maxHeartbeats 8000000 in
set_option maxRecDepth 100000 in
theorem Get_fn {l : List UInt8} (hl : l.length ≤ 1000000000) {L : List (Nat × Obj)} (hH : HandleIn L) : Fn Tryz.prog 68 [.string (bstr l)] L (GotAt l L) := by
  refine Fn_enter Tryz.func68 rfl Tryz.ntmps68 rfl fun g => ?_
  repeat (first | refine RQ ?_ | (refine RE ?_; try intro _) | (refine WL_op rfl ?_; (first | (refine OW_call rfl (hF := new_rd) (hk := ?_); rintro _ _ ⟨rb, rfl, rfl⟩))) | refine RC ?_ | refine WG 0 ?_ | refine WG 1 ?_ | refine WG 2 ?_ | refine WG 3 ?_)
  rename_i res gb cb
  repeat (first | refine RQr ?_ | (refine OX ?_; (first | (refine OW_call rfl (hF := number_fn (most := 65535)) (hk := ?_); rintro _ _ ⟨b3, b4, b5, rfl, rfl⟩) | (refine OW_call rfl (hF := number_fn (most := 99)) (hk := ?_); rintro _ _ ⟨b3, b4, b5, rfl, rfl⟩)); try refine SD ?_) | refine RC ?_ | refine RU ?_ | refine WC_draw_all (id := 4) 14 (.calm 0 <| .calm 1 <| .calm 3 <| .calm 4 <| .calm 6 <| .calm 7 <| .calm 8 <| .calm 9 <| .calm 10 <| .calm 13 <| .must 2 <| .must 5 <| .must 11 <| .calm 12 <| .done) mixed (by kernel_rfl) ?_)
  rename_i x3 x4 x5
  refine WR_opG rfl rfl (OW_buildS rfl (hk := ?_))
  intro sb
  refine ⟨(by first | exact fun _ h => h | exact fun _ h => List.Sublist.subset (by repeat (first | exact .refl _ | exact List.nil_sublist _ | exact List.sublist_append_right _ _ | exact List.Sublist.append (.refl _) (List.sublist_append_right _ _) | apply List.Sublist.cons_cons | apply List.Sublist.cons)) h), ?_⟩
  repeat (first | refine RQr ?_ | (refine OX ?_; (first | (refine OW_call rfl (hF := number_fn (most := 65535)) (hk := ?_); rintro _ _ ⟨b3, b4, b5, rfl, rfl⟩) | (refine OW_call rfl (hF := number_fn (most := 99)) (hk := ?_); rintro _ _ ⟨b3, b4, b5, rfl, rfl⟩)); try refine SD ?_) | refine RC ?_ | refine RU ?_ | refine WC_draw_all (id := 4) 14 (.calm 0 <| .calm 1 <| .calm 3 <| .calm 4 <| .calm 6 <| .calm 7 <| .calm 8 <| .calm 9 <| .calm 10 <| .calm 13 <| .must 2 <| .must 5 <| .must 11 <| .calm 12 <| .done) mixed (by kernel_rfl) ?_)
  refine WC_wk [(24, .slice (some ⟨sb, 0, none⟩) 6 6), (25, .int .i64 6), (26, .int .i64 0), (4, ptr gb 0), (2, ptr res 0)] ⟨rfl, rfl, rfl, rfl, rfl, trivial⟩ ?_
  refine WC_dropL ((sb, .cells #[.func (.func 108) #[] #[ptr x3 0, ptr x5 0, ptr x4 0], .func (.func 108) #[] #[ptr b3 0, ptr b5 0, ptr b4 0], .func (.func 88) #[] #[ptr cb 0, ptr gb 0], .func (.func 90) #[] #[ptr cb 0, ptr gb 0], .func (.func 85) #[] #[ptr gb 0, ptr cb 0], .func (.func 92) #[ptr rb 0] #[]] 164 (0, 0)) :: bxN b5 99 :: bxT b4 gb 1 :: bxR b3 rb :: bxN x5 65535 :: bxT x4 gb 0 :: bxR x3 rb :: bxR cb rb :: (rb, rdO l 0) :: (gb, gmO (gcs 0 0 false 0 0 zMsg)) :: (res, gmO zc93) :: L) (.refl _) ?_
  refine WC_unroll 7 (WCn_s ?_)
  have hsz : ∀ {a b : Int} {k : Bool} {s r : Int}, (gcs a b k s r zMsg).size = 29 := rfl
  repeat (first | refine RQ ?_ | (refine RE ?_; try intro _) | (refine WL_op rfl ?_; (first | refine OW_callP rfl (hF := as_nil_fn) (hk := ?_))) | refine RC ?_ | refine WG 5 ?_ | refine WG 6 ?_ | refine WG 7 ?_ | refine WG 8 ?_)
  rename_i tb0
  refine WL_front 6 rfl ?_
  refine WL_front 6 rfl ?_
  refine WL_front 7 rfl ?_
  refine WL_front 10 rfl ?_
  refine WL_front 10 rfl ?_
  refine WL_op rfl (OW_callv rfl rfl rfl rfl rfl (number1_fn (Nat.zero_le _) hl (by rw [hsz]; decide) (by decide) _) ?_)
  rintro _ _ (⟨x, b, h1, hb, rfl, rfl⟩ | ⟨c, e, p, b, cs', h1, hb, hz, rfl, rfl⟩)
  rotate_left
  · repeat (first | refine RQ ?_ | (refine WL_op rfl ?_; (first | refine OW_callP rfl (hF := as_nil_fn) (hk := ?_))) | refine RC ?_ | refine WG 8 ?_)
    refine WL_op rfl (OW_call rfl (hF := as_fn (by repeat (first | with_reducible assumption | apply HandleIn.cons | apply HandleIn.left)) (i := 6) rfl) (hk := ?_))
    rintro _ _ ⟨rfl, rfl⟩
    simp only [List.set_cons_zero, List.set_cons_succ]
    replace h1 : prU l 65535 0 = .bad c e := PR.bind_bad' h1
    have e9 : prGram l = .bad c e := by unfold prGram; rw [bind_badf h1]
    repeat' (first | refine RQr ?_ | (refine OX ?_; (first | (refine OE ?_; try intro _) | refine OW_callP rfl (hF := as_nil_fn) (hk := ?_)); try refine SD ?_) | refine RC ?_ | refine RU ?_ | refine WC_draw_all (id := 9) 0 (.either 0 (.either 1 (.either 2 (.must 3 <| .must 4 <| .done) 3 (.must 2 <| .must 4 <| .done)) 3 (.must 1 <| .must 2 <| .must 4 <| .done)) 1 (.either 0 (.either 2 (.must 3 <| .must 4 <| .done) 3 (.must 2 <| .must 4 <| .done)) 2 (.must 0 <| .must 3 <| .must 4 <| .done))) mixed (by kernel_rfl) ?_ | refine WG 8 ?_ | refine WR_either ?_ ?_)
    all_goals exact ⟨rfl, _, (p, fltO c e) :: L, Res2 rfl (resV_cellN rfl 12 rfl rfl) (resV_tmp rfl), .cons_cons _ (by repeat (first | exact List.Sublist.refl _ | apply List.Sublist.cons)), .inr ⟨c, e, p, e9, rfl, rfl⟩⟩
  obtain ⟨life, a1, e1, e'⟩ := PR.bind_ok h1
  injection e' with q1 q2
  subst q1
  subst q2
  have ha1 := hb
  rw [gcs_s0]
  repeat (first | refine RQ ?_ | (refine WL_op rfl ?_; (first | refine OW_callP rfl (hF := as_nil_fn) (hk := ?_))) | refine RC ?_ | refine WG 8 ?_ | refine WG 10 ?_)
  refine WC_dropS (.cons_cons _ (.cons_cons _ (.cons_cons _ (.cons_cons _ (.cons_cons _ (.cons _ (.refl _))))))) ?_
  repeat (first | refine RQ ?_ | (refine RE ?_; try intro _) | (refine WL_op rfl ?_; (first | refine OW_callP rfl (hF := as_nil_fn) (hk := ?_))) | refine RC ?_ | refine WG 5 ?_ | refine WG 6 ?_ | refine WG 7 ?_ | refine WG 8 ?_)
  rename_i tb1
  refine WL_front 8 rfl ?_
  refine WL_front 8 rfl ?_
  refine WL_front 9 rfl ?_
  refine WL_front 5 rfl ?_
  refine WL_front 5 rfl ?_
  refine WL_op rfl (OW_callv rfl rfl rfl rfl rfl (number1_fn ha1 hl (by rw [hsz]; decide) (by decide) _) ?_)
  rintro _ _ (⟨x, b, h1, hb, rfl, rfl⟩ | ⟨c, e, p, b, cs', h1, hb, hz, rfl, rfl⟩)
  rotate_left
  · repeat (first | refine RQ ?_ | (refine WL_op rfl ?_; (first | refine OW_callP rfl (hF := as_nil_fn) (hk := ?_))) | refine RC ?_ | refine WG 8 ?_)
    refine WL_op rfl (OW_call rfl (hF := as_fn (by repeat (first | with_reducible assumption | apply HandleIn.cons | apply HandleIn.left)) (i := 6) rfl) (hk := ?_))
    rintro _ _ ⟨rfl, rfl⟩
    simp only [List.set_cons_zero, List.set_cons_succ]
    replace h1 : prU l 99 a1 = .bad c e := PR.bind_bad' h1
    have e9 : prGram l = .bad c e := by unfold prGram; rw [bind_okf e1, bind_badf h1]
    repeat' (first | refine RQr ?_ | (refine OX ?_; (first | (refine OE ?_; try intro _) | refine OW_callP rfl (hF := as_nil_fn) (hk := ?_)); try refine SD ?_) | refine RC ?_ | refine RU ?_ | refine WC_draw_all (id := 9) 0 (.either 0 (.either 1 (.either 2 (.must 3 <| .must 4 <| .done) 3 (.must 2 <| .must 4 <| .done)) 3 (.must 1 <| .must 2 <| .must 4 <| .done)) 1 (.either 0 (.either 2 (.must 3 <| .must 4 <| .done) 3 (.must 2 <| .must 4 <| .done)) 2 (.must 0 <| .must 3 <| .must 4 <| .done))) mixed (by kernel_rfl) ?_ | refine WG 8 ?_ | refine WR_either ?_ ?_)
    all_goals exact ⟨rfl, _, (p, fltO c e) :: L, Res2 rfl (resV_cellN rfl 12 rfl rfl) (resV_tmp rfl), .cons_cons _ (by repeat (first | exact List.Sublist.refl _ | apply List.Sublist.cons)), .inr ⟨c, e, p, e9, rfl, rfl⟩⟩
  obtain ⟨chan, a2, e2, e'⟩ := PR.bind_ok h1
  injection e' with q1 q2
  subst q1
  subst q2
  have ha2 := hb
  rw [gcs_s1]
  repeat (first | refine RQ ?_ | (refine WL_op rfl ?_; (first | refine OW_callP rfl (hF := as_nil_fn) (hk := ?_))) | refine RC ?_ | refine WG 8 ?_ | refine WG 10 ?_)
  refine WC_dropS (.cons_cons _ (.cons_cons _ (.cons_cons _ (.cons_cons _ (.cons_cons _ (.cons _ (.refl _))))))) ?_
  repeat (first | refine RQ ?_ | (refine RE ?_; try intro _) | (refine WL_op rfl ?_; (first | refine OW_callP rfl (hF := as_nil_fn) (hk := ?_))) | refine RC ?_ | refine WG 5 ?_ | refine WG 6 ?_ | refine WG 7 ?_ | refine WG 8 ?_)
  rename_i tb2
  refine WL_front 10 rfl ?_
  refine WL_front 3 rfl ?_
  refine WL_front 3 rfl ?_
  refine WL_op rfl (OW_callv rfl rfl rfl rfl rfl (get2_fn ha2 hl (by rw [hsz]; decide) _) ?_)
  rintro _ _ (⟨x, b, h1, hb, rfl, rfl⟩ | ⟨c, e, p, b, cs', h1, hb, hz, rfl, rfl⟩)
  rotate_left
  · repeat (first | refine RQ ?_ | (refine WL_op rfl ?_; (first | refine OW_callP rfl (hF := as_nil_fn) (hk := ?_))) | refine RC ?_ | refine WG 8 ?_)
    refine WL_op rfl (OW_call rfl (hF := as_fn (by repeat (first | with_reducible assumption | apply HandleIn.cons | apply HandleIn.left)) (i := 4) rfl) (hk := ?_))
    rintro _ _ ⟨rfl, rfl⟩
    simp only [List.set_cons_zero, List.set_cons_succ]
    replace h1 : prT l a2 = .bad c e := by rw [prT_pr] at h1; exact PR.bind_bad' h1
    have e9 : prGram l = .bad c e := by unfold prGram; rw [bind_okf e1, bind_okf e2, bind_badf h1]
    repeat' (first | refine RQr ?_ | (refine OX ?_; (first | (refine OE ?_; try intro _) | refine OW_callP rfl (hF := as_nil_fn) (hk := ?_)); try refine SD ?_) | refine RC ?_ | refine RU ?_ | refine WC_draw_all (id := 9) 0 (.either 0 (.either 1 (.either 2 (.must 3 <| .must 4 <| .done) 3 (.must 2 <| .must 4 <| .done)) 3 (.must 1 <| .must 2 <| .must 4 <| .done)) 1 (.either 0 (.either 2 (.must 3 <| .must 4 <| .done) 3 (.must 2 <| .must 4 <| .done)) 2 (.must 0 <| .must 3 <| .must 4 <| .done))) mixed (by kernel_rfl) ?_ | refine WG 8 ?_ | refine WR_either ?_ ?_)
    all_goals exact ⟨rfl, _, (p, fltO c e) :: L, Res2 rfl (resV_cellN rfl 12 rfl rfl) (resV_tmp rfl), .cons_cons _ (by repeat (first | exact List.Sublist.refl _ | apply List.Sublist.cons)), .inr ⟨c, e, p, e9, rfl, rfl⟩⟩
  rw [prT_pr] at h1
  obtain ⟨ack, a3, e3, e'⟩ := PR.bind_ok h1
  injection e' with q1 q2
  subst q1
  subst q2
  have ha3 := hb
  rw [gcs_s2]
  repeat (first | refine RQ ?_ | (refine WL_op rfl ?_; (first | refine OW_callP rfl (hF := as_nil_fn) (hk := ?_))) | refine RC ?_ | refine WG 8 ?_ | refine WG 10 ?_)
  refine WC_dropS (.cons_cons _ (.cons_cons _ (.cons_cons _ (.cons _ (.refl _))))) ?_
  repeat (first | refine RQ ?_ | (refine RE ?_; try intro _) | (refine WL_op rfl ?_; (first | refine OW_callP rfl (hF := as_nil_fn) (hk := ?_))) | refine RC ?_ | refine WG 5 ?_ | refine WG 6 ?_ | refine WG 7 ?_ | refine WG 8 ?_)
  rename_i tb3
  refine WL_front 3 rfl ?_
  refine WL_front 3 rfl ?_
  refine WL_front 3 rfl ?_
  refine WL_op rfl (OW_callv rfl rfl rfl rfl rfl (get3_fn ha3 hl (by rw [hsz]; decide) _) ?_)
  rintro _ _ (⟨x, b, h1, hb, rfl, rfl⟩ | ⟨c, e, p, b, cs', h1, hb, hz, rfl, rfl⟩)
  rotate_left
  · repeat (first | refine RQ ?_ | (refine WL_op rfl ?_; (first | refine OW_callP rfl (hF := as_nil_fn) (hk := ?_))) | refine RC ?_ | refine WG 8 ?_)
    refine WL_op rfl (OW_call rfl (hF := as_fn (by repeat (first | with_reducible assumption | apply HandleIn.cons | apply HandleIn.left)) (i := 4) rfl) (hk := ?_))
    rintro _ _ ⟨rfl, rfl⟩
    simp only [List.set_cons_zero, List.set_cons_succ]
    replace h1 : prN l a3 = .bad c e := by rw [prN_pr] at h1; exact PR.bind_bad' h1
    have e9 : prGram l = .bad c e := by unfold prGram; rw [bind_okf e1, bind_okf e2, bind_okf e3, bind_badf h1]
    repeat' (first | refine RQr ?_ | (refine OX ?_; (first | (refine OE ?_; try intro _) | refine OW_callP rfl (hF := as_nil_fn) (hk := ?_)); try refine SD ?_) | refine RC ?_ | refine RU ?_ | refine WC_draw_all (id := 9) 0 (.either 0 (.either 1 (.either 2 (.must 3 <| .must 4 <| .done) 3 (.must 2 <| .must 4 <| .done)) 3 (.must 1 <| .must 2 <| .must 4 <| .done)) 1 (.either 0 (.either 2 (.must 3 <| .must 4 <| .done) 3 (.must 2 <| .must 4 <| .done)) 2 (.must 0 <| .must 3 <| .must 4 <| .done))) mixed (by kernel_rfl) ?_ | refine WG 8 ?_ | refine WR_either ?_ ?_)
    all_goals exact ⟨rfl, _, (p, fltO c e) :: L, Res2 rfl (resV_cellN rfl 12 rfl rfl) (resV_tmp rfl), .cons_cons _ (by repeat (first | exact List.Sublist.refl _ | apply List.Sublist.cons)), .inr ⟨c, e, p, e9, rfl, rfl⟩⟩
  rw [prN_pr] at h1
  obtain ⟨seq, a4, e4, e'⟩ := PR.bind_ok h1
  injection e' with q1 q2
  subst q1
  subst q2
  have ha4 := hb
  rw [gcs_s3]
  repeat (first | refine RQ ?_ | (refine WL_op rfl ?_; (first | refine OW_callP rfl (hF := as_nil_fn) (hk := ?_))) | refine RC ?_ | refine WG 8 ?_ | refine WG 10 ?_)
  refine WC_dropS (.cons_cons _ (.cons_cons _ (.cons_cons _ (.cons _ (.refl _))))) ?_
  repeat (first | refine RQ ?_ | (refine RE ?_; try intro _) | (refine WL_op rfl ?_; (first | refine OW_callP rfl (hF := as_nil_fn) (hk := ?_))) | refine RC ?_ | refine WG 5 ?_ | refine WG 6 ?_ | refine WG 7 ?_ | refine WG 8 ?_)
  rename_i tb4
  refine WL_front 3 rfl ?_
  refine WL_front 3 rfl ?_
  refine WL_front 3 rfl ?_
  refine WL_op rfl (OW_callv rfl rfl rfl rfl rfl (get1_fn ha4 hl _) ?_)
  rintro _ _ (⟨gv, a5, T, cs', e5, ha5, hG, rfl, rfl⟩ | ⟨c, e, p, b, cs', h1, hb, hz, rfl, rfl⟩)
  rotate_left
  · repeat (first | refine RQ ?_ | (refine WL_op rfl ?_; (first | refine OW_callP rfl (hF := as_nil_fn) (hk := ?_))) | refine RC ?_ | refine WG 8 ?_)
    refine WL_op rfl (OW_call rfl (hF := as_fn (by repeat (first | with_reducible assumption | apply HandleIn.cons | apply HandleIn.left)) (i := 4) rfl) (hk := ?_))
    rintro _ _ ⟨rfl, rfl⟩
    simp only [List.set_cons_zero, List.set_cons_succ]
    skip
    have e9 : prGram l = .bad c e := by unfold prGram; rw [bind_okf e1, bind_okf e2, bind_okf e3, bind_okf e4, bind_badf h1]
    repeat' (first | refine RQr ?_ | (refine OX ?_; (first | (refine OE ?_; try intro _) | refine OW_callP rfl (hF := as_nil_fn) (hk := ?_)); try refine SD ?_) | refine RC ?_ | refine RU ?_ | refine WC_draw_all (id := 9) 0 (.either 0 (.either 1 (.either 2 (.must 3 <| .must 4 <| .done) 3 (.must 2 <| .must 4 <| .done)) 3 (.must 1 <| .must 2 <| .must 4 <| .done)) 1 (.either 0 (.either 2 (.must 3 <| .must 4 <| .done) 3 (.must 2 <| .must 4 <| .done)) 2 (.must 0 <| .must 3 <| .must 4 <| .done))) mixed (by kernel_rfl) ?_ | refine WG 8 ?_ | refine WR_either ?_ ?_)
    all_goals exact ⟨rfl, _, (p, fltO c e) :: L, Res2 rfl (resV_cellN rfl 12 rfl rfl) (resV_tmp rfl), .cons_cons _ (by repeat (first | exact List.Sublist.refl _ | apply List.Sublist.cons)), .inr ⟨c, e, p, e9, rfl, rfl⟩⟩
  simp only [List.cons_append]
  repeat (first | refine RQ ?_ | (refine WL_op rfl ?_; (first | refine OW_callP rfl (hF := as_nil_fn) (hk := ?_))) | refine RC ?_ | refine WG 8 ?_ | refine WG 10 ?_)
  refine WC_dropS (.cons_cons _ (.cons_cons _ (.cons_cons _ (.cons _ (.refl _))))) ?_
  repeat (first | refine RQ ?_ | (refine RE ?_; try intro _) | (refine WL_op rfl ?_; (first | refine OW_callP rfl (hF := as_nil_fn) (hk := ?_))) | refine RC ?_ | refine WG 5 ?_ | refine WG 6 ?_ | refine WG 7 ?_ | refine WG 8 ?_)
  rename_i tb5
  refine WL_front 1 rfl ?_
  refine WL_op rfl (OW_callv rfl rfl rfl rfl rfl (End_fn ha5 _) ?_)
  rintro _ _ (⟨hc, rfl, rfl⟩ | ⟨hc, p, rfl, rfl⟩)
  rotate_left
  · have hlt : a5 < l.length := by
      unfold eCode at hc
      split at hc
      · assumption
      · exact absurd rfl hc
    repeat (first | refine RQ ?_ | (refine WL_op rfl ?_; (first | refine OW_callP rfl (hF := as_nil_fn) (hk := ?_))) | refine RC ?_ | refine WG 8 ?_)
    refine WL_op rfl (OW_call rfl (hF := as_fn (by repeat (first | with_reducible assumption | apply HandleIn.cons | apply HandleIn.left)) (i := 2) rfl) (hk := ?_))
    rintro _ _ ⟨rfl, rfl⟩
    simp only [List.set_cons_zero, List.set_cons_succ]
    have e9 : prGram l = .bad (eCode l a5) a5 := by
      unfold prGram
      rw [bind_okf e1, bind_okf e2, bind_okf e3, bind_okf e4, bind_okf e5]
      unfold prEnd eCode
      rw [if_pos hlt, if_pos hlt]
    repeat' (first | refine RQr ?_ | (refine OX ?_; (first | (refine OE ?_; try intro _) | refine OW_callP rfl (hF := as_nil_fn) (hk := ?_)); try refine SD ?_) | refine RC ?_ | refine RU ?_ | refine WC_draw_all (id := 9) 0 (.either 0 (.either 1 (.either 2 (.must 3 <| .must 4 <| .done) 3 (.must 2 <| .must 4 <| .done)) 3 (.must 1 <| .must 2 <| .must 4 <| .done)) 1 (.either 0 (.either 2 (.must 3 <| .must 4 <| .done) 3 (.must 2 <| .must 4 <| .done)) 2 (.must 0 <| .must 3 <| .must 4 <| .done))) mixed (by kernel_rfl) ?_ | refine WG 8 ?_ | refine WR_either ?_ ?_)
    all_goals exact ⟨rfl, _, (p, fltO (eCode l a5) a5) :: L, Res2 rfl (resV_cellN rfl 12 rfl rfl) (resV_tmp rfl), .cons_cons _ (by repeat (first | exact List.Sublist.refl _ | exact List.sublist_append_left _ _ | apply List.Sublist.cons)), .inr ⟨eCode l a5, a5, p, e9, rfl, rfl⟩⟩
  repeat (first | refine RQ ?_ | (refine WL_op rfl ?_; (first | refine OW_callP rfl (hF := as_nil_fn) (hk := ?_))) | refine RC ?_ | refine WG 8 ?_ | refine WG 10 ?_)
  have hnl : ¬ a5 < l.length := by
    unfold eCode at hc
    split at hc
    · cases hc
    · assumption
  have e6 : prGram l = .ok gv a5 := by
    unfold prGram
    rw [bind_okf e1, bind_okf e2, bind_okf e3, bind_okf e4, bind_okf e5]
    unfold prEnd
    rw [if_neg hnl]
  have hm := (prGram_went e6).1.ok.m
  have hone := hG.one hm
  have hsz2 := hG.size hm
  repeat (first | refine RQ ?_ | (refine RE ?_; try intro _) | refine RC ?_ | refine WG 5 ?_ | refine WG 11 ?_)
  refine ⟨rfl, _, L ++ T, Res2 rfl (resV_cellN rfl 11 rfl hsz2) (resV_tmp rfl), (by repeat (first | exact List.Sublist.refl _ | apply List.Sublist.cons)), .inl ⟨gv, a5, T, cs', e6, hG, rfl, rfl⟩⟩
end Go.Proofs.YtdiaogcogkapgaaGreatDoor
namespace Go.Proofs.YtdiaogcogkapgaaGreatDoor
open Go.RowKit
theorem WL_perm {c : Cx} {ops : Array Oper} {l : List Oper} {K : Exit → St → Prop} {s : List (Nat × Value)} {D : List Deferred} {L L' : List (Nat × Obj)} (hp : L'.Perm L) (h : WL c ops l K ⟨s, D, L'⟩) : WL c ops l K ⟨s, D, L⟩ := fun a w ha => h a w (ha.mem' (ha.mem.perm hp))
attribute [local irreducible] Fn WC WL WR OW Qt YieldFn QW FnP FnD FnE
end Go.Proofs.YtdiaogcogkapgaaGreatDoor
namespace Go.Proofs.YtdiaogcogkapgaaGreatDoor
open Go.RowKit
attribute [local irreducible] Fn WC WL WR OW Qt YieldFn QW FnP FnD FnE
theorem WL_permA {c : Cx} {ops : Array Oper} {l : List Oper} {K : Exit → St → Prop} {s : List (Nat × Value)} {D : List Deferred} {L L' : List (Nat × Obj)} (hp : L'.Perm L) (h : WL c ops l K ⟨s, D, L'⟩) : WL c ops l K ⟨s, D, L⟩ := WL_perm hp h
end Go.Proofs.YtdiaogcogkapgaaGreatDoor
namespace Go.Proofs.YtdiaogcogkapgaaGreatDoor
open Go.RowKit
theorem GV.Lim.few {g : GV} (h : g.Lim) : g.m.bins.length ≤ 8 ∧ g.m.ents.length ≤ 64 := by
  cases ha : g.ack
  · exact ⟨(h.no ha).2.nb, (h.no ha).2.ne⟩
  · rw [h.yes ha]; simp [MV.none]
attribute [local irreducible] Fn WC WL WR OW Qt YieldFn QW FnP FnD FnE
end Go.Proofs.YtdiaogcogkapgaaGreatDoor
namespace Go.Proofs.YtdiaogcogkapgaaGreatDoor
open Go.RowKit
attribute [local irreducible] Fn WC WL WR OW Qt YieldFn QW FnP FnD FnE
theorem Put_lim {L : List (Nat × Obj)} {gs : Array Value} {g : GV} {a : Option Addr} {cap : Nat} {a' : Option Addr} {cap' : Nat} (h : GramAt L gs g a cap a' cap') (hf : g.Lim) :
    Fn Tryz.prog 27 [.agg gs] L (fun v L' => v = .tuple #[.string (bstr g.bytes), .int .i64 ((0 : Nat) : Int)] ∧ L' = L) := by
  have := Put_fn h (by have := hf.few.1; omega) (by have := hf.few.2; omega)
  rwa [hf.put] at this
theorem GV.Lim.len {g : GV} (h : g.Lim) : g.bytes.length ≤ 900000000 := by
  have e1 : ∀ {x : Int}, x < 18446744073709551616 → (enc x.toNat).length ≤ 10 := fun hx => enc_le (n := _) (by omega)
  have l1 := e1 (x := g.life) (by have := h.l1; omega)
  have l2 := e1 (x := g.chan) (by have := h.c1; omega)
  have l3 : (encB g.ack).length ≤ 10 := by cases g.ack <;> simp [encB]
  have l4 := e1 (x := g.seq) h.s1
  have l5 := e1 (x := g.room) (by have := h.r1; omega)
  have lh : g.head.length ≤ 40 := by unfold GV.head; simp only [List.length_append]; omega
  have hel := MV.enc_len h.ok.m (by have := h.few.1; omega) (by have := h.few.2; omega)
  have := h.few
  unfold GV.bytes
  split <;> rw [List.length_append] <;> omega
end Go.Proofs.YtdiaogcogkapgaaGreatDoor
namespace Go.Proofs.YtdiaogcogkapgaaGreatDoor
open Go.RowKit
attribute [local irreducible] Fn WC WL WR OW Qt YieldFn QW
theorem wrap_i64 {x : Int} (h1 : -9223372036854775808 ≤ x) (h2 : x < 9223372036854775808) : IntKind.i64.wrap x = x := by
  unfold IntKind.wrap
  simp only [show IntKind.i64.bits = 64 from rfl, show IntKind.i64.signed = true from rfl]
  by_cases h : x % 2 ^ 64 ≥ 2 ^ (64 - 1)
  · rw [if_pos (by simpa using h)]; omega
  · rw [if_neg (by simpa using h)]; omega
theorem wrap_u64 {x : Int} (h1 : 0 ≤ x) (h2 : x < 18446744073709551616) : IntKind.u64.wrap x = x := by
  simp only [IntKind.wrap, IntKind.bits, IntKind.signed]
  simp; omega
structure RecvC (cs : Array Value) (cap first : Nat) (ms : List (Array Value)) (next refused : Int) : Prop where
  size : cs.size = 389
  cap_ : cs[384]? = some (.int .i64 cap)
  first_ : cs[385]? = some (.int .i64 first)
  n_ : cs[386]? = some (.int .i64 ms.length)
  next_ : cs[387]? = some (.int .u64 next)
  ref_ : cs[388]? = some (.int .i64 refused)
  cap1 : 1 ≤ cap
  cap16 : cap ≤ 16
  f16 : first < 16
  len : ms.length ≤ cap
  nx0 : 0 ≤ next
  nx1 : next < 18446744073709551616
  msg : ∀ k m, ms[k]? = some m → cs.extract ((first + k) % 16 * 24) ((first + k) % 16 * 24 + 24) = m
abbrev rc (b : Nat) (cs : Array Value) (L : List (Nat × Obj)) : List (Nat × Obj) := (b, .cells cs 126 (0, 0)) :: L
set_option maxHeartbeats 400000 in
theorem len_fn {b : Nat} {cs : Array Value} {cap first : Nat} {ms : List (Array Value)} {next refused : Int} {L : List (Nat × Obj)} (hc : RecvC cs cap first ms next refused) :
    Fn Tryz.prog 34 [.pointer (some ⟨b, 0, none⟩)] (rc b cs L) (fun v L' => v = .int .i64 ms.length ∧ L' = rc b cs L) := by
  have hn := hc.n_
  refine Fn_enter Tryz.func34 rfl Tryz.ntmps34 rfl fun g => ?_
  repeat (first | (refine WL_Q ?_; (first | refine QW_of (Qt_assign rfl) ?_ | refine QW_of (Qt_move rfl) ?_ | refine QW_of (Qt_eql_nilS rfl) ?_ | refine QW_of (Qt_eql_nilN rfl) ?_ | refine QW_of (Qt_nilCheck rfl) ?_ | refine QW_of (Qt_nilCheck_fn rfl) ?_ | refine QW_of (Qt_fieldAddr0 rfl) ?_ | refine QW_of (Qt_fieldAddr rfl) ?_ | refine QW_of (Qt_ld1 rfl) ?_)) | refine WL_nil ?_ | refine WC_seq ?_ | refine WC_cond_t (ht := ?_) | refine WC_cond_f (he := ?_) | refine WC_skip ?_ | refine WC_ret ?_ | refine WC_region ?_)
  exact ⟨rfl, _, _, Res1 rfl (resV_tmp rfl), .refl _, rfl, rfl⟩
set_option maxHeartbeats 400000 in
theorem place_fn {b : Nat} {cs : Array Value} {cap first : Nat} {ms : List (Array Value)} {next refused : Int} {L : List (Nat × Obj)} (k : Nat) (hk : k ≤ 16) (hc : RecvC cs cap first ms next refused) :
    Fn Tryz.prog 58 [.pointer (some ⟨b, 0, none⟩), .int .i64 k] (rc b cs L) (fun v L' => v = .pointer (some ⟨b, (first + k) % 16 * 24, none⟩) ∧ L' = rc b cs L) := by
  have hn := hc.first_
  have hf := hc.f16
  have e : (IntKind.i64.wrap ((first : Int) + k)).tmod 16 = (((first + k) % 16 : Nat) : Int) := by
    rw [wrap_i64 (by omega) (by omega)]
    rw [Int.tmod_eq_emod_of_nonneg (by omega)]; omega
  have h0 : 0 ≤ (IntKind.i64.wrap ((first : Int) + k)).tmod 16 := by rw [e]; omega
  have h1 : (IntKind.i64.wrap ((first : Int) + k)).tmod 16 < (16 : Nat) := by rw [e]; omega
  refine Fn_enter Tryz.func58 rfl Tryz.ntmps58 rfl fun g => ?_
  repeat (first | (refine RX ?_; (first | refine QW_of (Qt_move rfl) ?_ | refine QW_of (Qt_assign rfl) ?_ | refine QW_of (Qt_nilCheck rfl) ?_ | refine QW_of (Qt_nilCheck_fn rfl) ?_ | refine QW_of (Qt_fieldAddr0 rfl) ?_ | refine QW_of (Qt_fieldAddr rfl) ?_ | refine QW_of (Qt_ld1 rfl) ?_ | refine QW_of (Qt_bin rfl) ?_ | refine QW_of (Qt_rem rfl) ?_ | refine QW_of (Qt_indexArr0 rfl) ?_ | refine QW_of (Qt_indexSl0 rfl) ?_ | refine QW_of (Qt_indexArr rfl) ?_ | refine QW_of (Qt_indexSl rfl) ?_)) | refine WL_nil ?_ | refine WR_nil ?_ | refine WC_seq ?_ | refine WC_ret ?_ | refine WC_draw_all (id := 1) 12 (.calm 0 <| .calm 1 <| .calm 2 <| .calm 3 <| .calm 4 <| .calm 5 <| .calm 6 <| .calm 7 <| .calm 8 <| .calm 9 <| .calm 10 <| .calm 11 <| .done) mixed (by kernel_rfl) ?_ | refine WC_region ?_)
  refine ⟨rfl, _, _, Res1 rfl (resV_tmp rfl), .refl _, ?_, rfl⟩
  rw [e]
  simp
theorem RecvC.refused {cs : Array Value} {cap first : Nat} {ms : List (Array Value)} {next refused : Int} (hc : RecvC cs cap first ms next refused) (r : Int) : RecvC (cs.setIfInBounds 388 (.int .i64 r)) cap first ms next r where
  size := by simpa using hc.size
  cap_ := by rw [Array.getElem?_setIfInBounds_ne (by decide)]; exact hc.cap_
  first_ := by rw [Array.getElem?_setIfInBounds_ne (by decide)]; exact hc.first_
  n_ := by rw [Array.getElem?_setIfInBounds_ne (by decide)]; exact hc.n_
  next_ := by rw [Array.getElem?_setIfInBounds_ne (by decide)]; exact hc.next_
  ref_ := by have := hc.size; simp [this]
  cap1 := hc.cap1
  cap16 := hc.cap16
  f16 := hc.f16
  len := hc.len
  nx0 := hc.nx0
  nx1 := hc.nx1
  msg := fun k m hk => by
    rw [← hc.msg k m hk]
    have hlt : (first + k) % 16 < 16 := Nat.mod_lt _ (by decide)
    exact extract_congr fun j h1 h2 => Array.getElem?_setIfInBounds_ne (by omega)
theorem data_refused {b : Nat} {cs : Array Value} {cap first : Nat} {ms : List (Array Value)} {next refused : Int} {L : List (Nat × Obj)} (hc : RecvC cs cap first ms next refused) (seq : Int) (m : Array Value) (e : Int)
    (he : (seq < next ∧ e = 18) ∨ (next < seq ∧ e = 7) ∨ (seq = next ∧ ms.length = cap ∧ e = 8)) :
    Fn Tryz.prog 49 [.pointer (some ⟨b, 0, none⟩), .int .u64 seq, .agg m] (rc b cs L) (fun v L' => v = .int .i64 e ∧ L' = rc b (cs.setIfInBounds 388 (.int .i64 (IntKind.i64.wrap (refused + 1)))) L) := by
  have hn := hc.next_
  have hr := hc.ref_
  have hs := hc.size
  have hl := hc.n_
  have hcap := hc.cap_
  rcases he with ⟨h, rfl⟩ | ⟨h, rfl⟩ | ⟨rfl, h, rfl⟩
  · have h1 : decide (seq < next) = true := by simpa using h
    refine Fn_enter Tryz.func49 rfl Tryz.ntmps49 rfl fun g => ?_
    repeat (first | (refine RX ?_; (first | refine QW_of (Qt_move rfl) ?_ | refine QW_of (Qt_nilCheck rfl) ?_ | refine QW_of (Qt_nilCheck_fn rfl) ?_ | refine QW_of (Qt_fieldAddr0 rfl) ?_ | refine QW_of (Qt_fieldAddr rfl) ?_ | refine QW_of (Qt_assign rfl) ?_ | refine QW_of (Qt_ld1 rfl) ?_ | refine QW_of (Qt_bin rfl) ?_ | refine QW_of (Qt_eql_nilS rfl) ?_ | refine QW_of (Qt_eql_nilN rfl) ?_ | refine QW_of (Qt_ldA rfl) ?_ | refine QW_of (Qt_ldN rfl) ?_)) | ((first | refine WL_op rfl ?_ | refine WR_late rfl rfl rfl ?_); (first | refine OW_st1 rfl ?_ | refine OW_box rfl (hk := fun _ => ?_) | refine OW_stA rfl ?_ | refine OW_stN rfl ?_)) | refine WL_nil ?_ | refine WR_nil ?_ | refine WC_seq ?_ | refine WC_block ?_ | refine WC_cond_t (ht := ?_) | refine WC_cond_f (he := ?_) | refine WC_skip ?_ | refine WC_ret ?_ | refine WC_exit ?_ | refine WC_draw_all (id := 5) 10 (.calm 0 <| .calm 1 <| .calm 2 <| .calm 3 <| .calm 4 <| .calm 5 <| .calm 6 <| .calm 7 <| .calm 8 <| .calm 9 <| .done) mixed (by kernel_rfl) ?_ | refine WC_draw_all (id := 13) 8 (.calm 0 <| .calm 1 <| .calm 2 <| .calm 3 <| .calm 4 <| .calm 6 <| .must 5 <| .calm 7 <| .must 8 <| .done) mixed (by kernel_rfl) ?_ | refine WC_region ?_ | ((refine WR_op rfl rfl ?_); (first | refine OW_st1 rfl ?_ | refine OW_box rfl (hk := fun _ => ?_) | refine OW_stA rfl ?_ | refine OW_stN rfl ?_); refine ⟨(by first | exact fun _ h => h | exact fun _ h => List.Sublist.subset (by repeat (first | exact .refl _ | exact List.nil_sublist _ | exact List.sublist_append_right _ _ | exact List.Sublist.append (.refl _) (List.sublist_append_right _ _) | apply List.Sublist.cons_cons | apply List.Sublist.cons)) h), ?_⟩))
    exact ⟨rfl, _, _, Res1 rfl (resV_tmp rfl), .cons _ (.refl _), rfl, rfl⟩
  · have h1 : decide (seq < next) = false := by simp; omega
    have h2 : decide (seq > next) = true := by simpa using h
    refine Fn_enter Tryz.func49 rfl Tryz.ntmps49 rfl fun g => ?_
    repeat (first | (refine RX ?_; (first | refine QW_of (Qt_move rfl) ?_ | refine QW_of (Qt_nilCheck rfl) ?_ | refine QW_of (Qt_nilCheck_fn rfl) ?_ | refine QW_of (Qt_fieldAddr0 rfl) ?_ | refine QW_of (Qt_fieldAddr rfl) ?_ | refine QW_of (Qt_assign rfl) ?_ | refine QW_of (Qt_ld1 rfl) ?_ | refine QW_of (Qt_bin rfl) ?_ | refine QW_of (Qt_eql_nilS rfl) ?_ | refine QW_of (Qt_eql_nilN rfl) ?_ | refine QW_of (Qt_ldA rfl) ?_ | refine QW_of (Qt_ldN rfl) ?_)) | ((first | refine WL_op rfl ?_ | refine WR_late rfl rfl rfl ?_); (first | refine OW_st1 rfl ?_ | refine OW_box rfl (hk := fun _ => ?_) | refine OW_stA rfl ?_ | refine OW_stN rfl ?_)) | refine WL_nil ?_ | refine WR_nil ?_ | refine WC_seq ?_ | refine WC_block ?_ | refine WC_cond_t (ht := ?_) | refine WC_cond_f (he := ?_) | refine WC_skip ?_ | refine WC_ret ?_ | refine WC_exit ?_ | refine WC_draw_all (id := 5) 10 (.calm 0 <| .calm 1 <| .calm 2 <| .calm 3 <| .calm 4 <| .calm 5 <| .calm 6 <| .calm 7 <| .calm 8 <| .calm 9 <| .done) mixed (by kernel_rfl) ?_ | refine WC_draw_all (id := 13) 8 (.calm 0 <| .calm 1 <| .calm 2 <| .calm 3 <| .calm 4 <| .calm 6 <| .must 5 <| .calm 7 <| .must 8 <| .done) mixed (by kernel_rfl) ?_ | refine WC_region ?_ | ((refine WR_op rfl rfl ?_); (first | refine OW_st1 rfl ?_ | refine OW_box rfl (hk := fun _ => ?_) | refine OW_stA rfl ?_ | refine OW_stN rfl ?_); refine ⟨(by first | exact fun _ h => h | exact fun _ h => List.Sublist.subset (by repeat (first | exact .refl _ | exact List.nil_sublist _ | exact List.sublist_append_right _ _ | exact List.Sublist.append (.refl _) (List.sublist_append_right _ _) | apply List.Sublist.cons_cons | apply List.Sublist.cons)) h), ?_⟩))
    exact ⟨rfl, _, _, Res1 rfl (resV_tmp rfl), .cons _ (.refl _), rfl, rfl⟩
  · have h1 : decide (seq < seq) = false := by simp
    have h2 : decide (seq > seq) = false := by simp
    have h3 : ((ms.length : Int) == (cap : Int)) = true := by simp [h]
    refine Fn_enter Tryz.func49 rfl Tryz.ntmps49 rfl fun g => ?_
    repeat (first | (refine RX ?_; (first | refine QW_of (Qt_move rfl) ?_ | refine QW_of (Qt_nilCheck rfl) ?_ | refine QW_of (Qt_nilCheck_fn rfl) ?_ | refine QW_of (Qt_fieldAddr0 rfl) ?_ | refine QW_of (Qt_fieldAddr rfl) ?_ | refine QW_of (Qt_assign rfl) ?_ | refine QW_of (Qt_ld1 rfl) ?_ | refine QW_of (Qt_bin rfl) ?_ | refine QW_of (Qt_eql_nilS rfl) ?_ | refine QW_of (Qt_eql_nilN rfl) ?_ | refine QW_of (Qt_ldA rfl) ?_ | refine QW_of (Qt_ldN rfl) ?_)) | ((first | refine WL_op rfl ?_ | refine WR_late rfl rfl rfl ?_); (first | refine OW_st1 rfl ?_ | refine OW_box rfl (hk := fun _ => ?_) | refine OW_stA rfl ?_ | refine OW_stN rfl ?_)) | refine WL_nil ?_ | refine WR_nil ?_ | refine WC_seq ?_ | refine WC_block ?_ | refine WC_cond_t (ht := ?_) | refine WC_cond_f (he := ?_) | refine WC_skip ?_ | refine WC_ret ?_ | refine WC_exit ?_ | refine WC_draw_all (id := 5) 10 (.calm 0 <| .calm 1 <| .calm 2 <| .calm 3 <| .calm 4 <| .calm 5 <| .calm 6 <| .calm 7 <| .calm 8 <| .calm 9 <| .done) mixed (by kernel_rfl) ?_ | refine WC_draw_all (id := 13) 8 (.calm 0 <| .calm 1 <| .calm 2 <| .calm 3 <| .calm 4 <| .calm 6 <| .must 5 <| .calm 7 <| .must 8 <| .done) mixed (by kernel_rfl) ?_ | refine WC_region ?_ | ((refine WR_op rfl rfl ?_); (first | refine OW_st1 rfl ?_ | refine OW_box rfl (hk := fun _ => ?_) | refine OW_stA rfl ?_ | refine OW_stN rfl ?_); refine ⟨(by first | exact fun _ h => h | exact fun _ h => List.Sublist.subset (by repeat (first | exact .refl _ | exact List.nil_sublist _ | exact List.sublist_append_right _ _ | exact List.Sublist.append (.refl _) (List.sublist_append_right _ _) | apply List.Sublist.cons_cons | apply List.Sublist.cons)) h), ?_⟩))
    exact ⟨rfl, _, _, Res1 rfl (resV_tmp rfl), .cons _ (.refl _), rfl, rfl⟩
theorem RecvC.taken {cs : Array Value} {cap first : Nat} {ms : List (Array Value)} {next refused : Int} (hc : RecvC cs cap first ms next refused) (m : Array Value) (hm : m.size = 24) (hroom : ms.length < cap) (hx : next + 1 < 18446744073709551616) :
    RecvC (((putR cs ((first + ms.length) % 16 * 24) m).setIfInBounds 386 (.int .i64 (ms.length + 1 : Nat))).setIfInBounds 387 (.int .u64 (next + 1))) cap first (ms ++ [m]) (next + 1) refused := by
  have hs := hc.size
  have hoff : (first + ms.length) % 16 * 24 + m.size ≤ 384 := by have := Nat.mod_lt (first + ms.length) (show 0 < 16 by decide); omega
  have hp := putR_size cs m ((first + ms.length) % 16 * 24) (by omega)
  have ho : ∀ j, 384 ≤ j → (putR cs ((first + ms.length) % 16 * 24) m)[j]? = cs[j]? := fun j hj => putR_get_out cs m _ j (by omega) (by omega)
  have hcap := hc.cap16
  refine ⟨by simpa using hp.trans hs, ?_, ?_, ?_, ?_, ?_, hc.cap1, hc.cap16, hc.f16, by simp; omega, by have := hc.nx0; omega, hx, ?_⟩
  · rw [Array.getElem?_setIfInBounds_ne (by decide), Array.getElem?_setIfInBounds_ne (by decide), ho _ (by decide)]; exact hc.cap_
  · rw [Array.getElem?_setIfInBounds_ne (by decide), Array.getElem?_setIfInBounds_ne (by decide), ho _ (by decide)]; exact hc.first_
  · rw [Array.getElem?_setIfInBounds_ne (by decide)]; simp [hp, hs]
  · simp [hp, hs]
  · rw [Array.getElem?_setIfInBounds_ne (by decide), Array.getElem?_setIfInBounds_ne (by decide), ho _ (by decide)]; exact hc.ref_
  · intro k u hk
    have hk16 : (first + k) % 16 < 16 := Nat.mod_lt _ (by decide)
    have e : (((putR cs ((first + ms.length) % 16 * 24) m).setIfInBounds 386 (.int .i64 (ms.length + 1 : Nat))).setIfInBounds 387 (.int .u64 (next + 1))).extract ((first + k) % 16 * 24) ((first + k) % 16 * 24 + 24) = (putR cs ((first + ms.length) % 16 * 24) m).extract ((first + k) % 16 * 24) ((first + k) % 16 * 24 + 24) :=
      extract_congr fun j h1 h2 => by rw [Array.getElem?_setIfInBounds_ne (by omega), Array.getElem?_setIfInBounds_ne (by omega)]
    rw [e]
    by_cases hlt : k < ms.length
    · rw [List.getElem?_append_left hlt] at hk
      rw [← hc.msg k u hk]
      have hf := hc.f16
      have hne : (first + k) % 16 ≠ (first + ms.length) % 16 := by omega
      exact extract_congr fun j h1 h2 => putR_get_out cs m _ j (by omega) (by omega)
    · rw [List.getElem?_append_right (by omega)] at hk
      have hk0 : k - ms.length = 0 := by
        have := (List.getElem?_eq_some_iff.1 hk).1
        simp at this; omega
      rw [hk0] at hk
      simp at hk
      subst hk
      have hkk : k = ms.length := by omega
      subst hkk
      have := extract_putR cs m ((first + ms.length) % 16 * 24) (by omega)
      rw [hm] at this; exact this
set_option maxHeartbeats 2000000 in
theorem data_taken {b : Nat} {cs : Array Value} {cap first : Nat} {ms : List (Array Value)} {next refused : Int} {L : List (Nat × Obj)} (hc : RecvC cs cap first ms next refused) (m : Array Value) (hm : m.size = 24) (hm1 : (m.toList.all fun v => v.oneCell') = true) (hroom : ms.length < cap) (hx : next + 1 < 18446744073709551616) :
    Fn Tryz.prog 49 [.pointer (some ⟨b, 0, none⟩), .int .u64 next, .agg m] (rc b cs L) (fun v L' => v = .int .i64 0 ∧ ∃ cs', L' = rc b cs' L ∧ RecvC cs' cap first (ms ++ [m]) (next + 1) refused) := by
  have hn := hc.next_
  have hr := hc.ref_
  have hs := hc.size
  have hl := hc.n_
  have hcap := hc.cap_
  have h1 : decide (next < next) = false := by simp
  have h2 : decide (next > next) = false := by simp
  have h3 : ((ms.length : Int) == (cap : Int)) = false := by simp; omega
  have hoff : (first + ms.length) % 16 * 24 + 24 ≤ cs.size := by omega
  have hps := putR_size cs m ((first + ms.length) % 16 * 24) (by omega)
  have hs2 : (putR cs ((first + ms.length) % 16 * 24) m).size = 389 := by omega
  have hl2 : (putR cs ((first + ms.length) % 16 * 24) m)[386]? = some (.int .i64 ms.length) := by rw [putR_get_out cs m _ _ (by omega) (by omega)]; exact hl
  have hn2 : ((putR cs ((first + ms.length) % 16 * 24) m).setIfInBounds 386 (.int .i64 (IntKind.i64.wrap (ms.length + 1))))[387]? = some (.int .u64 next) := by
    rw [Array.getElem?_setIfInBounds_ne (by decide), putR_get_out cs m _ _ (by omega) (by omega)]; exact hn
  refine Fn_enter Tryz.func49 rfl Tryz.ntmps49 rfl fun g => ?_
  repeat (first | (refine RX ?_; (first | refine QW_of (Qt_move rfl) ?_ | refine QW_of (Qt_nilCheck rfl) ?_ | refine QW_of (Qt_nilCheck_fn rfl) ?_ | refine QW_of (Qt_fieldAddr0 rfl) ?_ | refine QW_of (Qt_fieldAddr rfl) ?_ | refine QW_of (Qt_assign rfl) ?_ | refine QW_of (Qt_ld1 rfl) ?_ | refine QW_of (Qt_bin rfl) ?_ | refine QW_of (Qt_eql_nilS rfl) ?_ | refine QW_of (Qt_eql_nilN rfl) ?_ | refine QW_of (Qt_ldA rfl) ?_ | refine QW_of (Qt_ldN rfl) ?_)) | ((first | refine WL_op rfl ?_ | refine WR_late rfl rfl rfl ?_); (first | refine OW_st1 rfl ?_ | refine OW_box rfl (hk := fun _ => ?_) | refine OW_stA rfl ?_ | refine OW_stN rfl ?_)) | refine WL_nil ?_ | refine WR_nil ?_ | refine WC_seq ?_ | refine WC_block ?_ | refine WC_cond_t (ht := ?_) | refine WC_cond_f (he := ?_) | refine WC_skip ?_ | refine WC_ret ?_ | refine WC_exit ?_ | refine WC_draw_all (id := 5) 10 (.calm 0 <| .calm 1 <| .calm 2 <| .calm 3 <| .calm 4 <| .calm 5 <| .calm 6 <| .calm 7 <| .calm 8 <| .calm 9 <| .done) mixed (by kernel_rfl) ?_ | refine WC_draw_all (id := 13) 8 (.calm 0 <| .calm 1 <| .calm 2 <| .calm 3 <| .calm 4 <| .calm 6 <| .must 5 <| .calm 7 <| .must 8 <| .done) mixed (by kernel_rfl) ?_ | refine WC_region ?_ | ((refine WR_op rfl rfl ?_); (first | refine OW_st1 rfl ?_ | refine OW_box rfl (hk := fun _ => ?_) | refine OW_stA rfl ?_ | refine OW_stN rfl ?_); refine ⟨(by first | exact fun _ h => h | exact fun _ h => List.Sublist.subset (by repeat (first | exact .refl _ | exact List.nil_sublist _ | exact List.sublist_append_right _ _ | exact List.Sublist.append (.refl _) (List.sublist_append_right _ _) | apply List.Sublist.cons_cons | apply List.Sublist.cons)) h), ?_⟩))
  refine WR_op rfl rfl (OW_call rfl rfl rfl rfl (Fn.at_same (fun F => place_fn (L := F) ms.length (by have := hc.len; have := hc.cap16; omega) hc) 1 rfl) ?_)
  rintro _ _ ⟨rfl, rfl⟩
  refine ⟨fun _ h => h, ?_⟩
  repeat (first | (refine RX ?_; (first | refine QW_of (Qt_move rfl) ?_ | refine QW_of (Qt_nilCheck rfl) ?_ | refine QW_of (Qt_nilCheck_fn rfl) ?_ | refine QW_of (Qt_fieldAddr0 rfl) ?_ | refine QW_of (Qt_fieldAddr rfl) ?_ | refine QW_of (Qt_assign rfl) ?_ | refine QW_of (Qt_ld1 rfl) ?_ | refine QW_of (Qt_bin rfl) ?_ | refine QW_of (Qt_eql_nilS rfl) ?_ | refine QW_of (Qt_eql_nilN rfl) ?_ | refine QW_of (Qt_ldA rfl) ?_ | refine QW_of (Qt_ldN rfl) ?_)) | ((first | refine WL_op rfl ?_ | refine WR_late rfl rfl rfl ?_); (first | refine OW_st1 rfl ?_ | refine OW_box rfl (hk := fun _ => ?_) | refine OW_stA rfl ?_ | refine OW_stN rfl ?_)) | refine WL_nil ?_ | refine WR_nil ?_ | refine WC_seq ?_ | refine WC_block ?_ | refine WC_cond_t (ht := ?_) | refine WC_cond_f (he := ?_) | refine WC_skip ?_ | refine WC_ret ?_ | refine WC_exit ?_ | refine WC_draw_all (id := 5) 10 (.calm 0 <| .calm 1 <| .calm 2 <| .calm 3 <| .calm 4 <| .calm 5 <| .calm 6 <| .calm 7 <| .calm 8 <| .calm 9 <| .done) mixed (by kernel_rfl) ?_ | refine WC_draw_all (id := 13) 8 (.calm 0 <| .calm 1 <| .calm 2 <| .calm 3 <| .calm 4 <| .calm 6 <| .must 5 <| .calm 7 <| .must 8 <| .done) mixed (by kernel_rfl) ?_ | refine WC_region ?_ | ((refine WR_op rfl rfl ?_); (first | refine OW_st1 rfl ?_ | refine OW_box rfl (hk := fun _ => ?_) | refine OW_stA rfl ?_ | refine OW_stN rfl ?_); refine ⟨(by first | exact fun _ h => h | exact fun _ h => List.Sublist.subset (by repeat (first | exact .refl _ | exact List.nil_sublist _ | exact List.sublist_append_right _ _ | exact List.Sublist.append (.refl _) (List.sublist_append_right _ _) | apply List.Sublist.cons_cons | apply List.Sublist.cons)) h), ?_⟩))
  repeat (first | (refine RX ?_; (first | refine QW_of (Qt_move rfl) ?_ | refine QW_of (Qt_nilCheck rfl) ?_ | refine QW_of (Qt_nilCheck_fn rfl) ?_ | refine QW_of (Qt_fieldAddr0 rfl) ?_ | refine QW_of (Qt_fieldAddr rfl) ?_ | refine QW_of (Qt_assign rfl) ?_ | refine QW_of (Qt_ld1 rfl) ?_ | refine QW_of (Qt_bin rfl) ?_ | refine QW_of (Qt_eql_nilS rfl) ?_ | refine QW_of (Qt_eql_nilN rfl) ?_ | refine QW_of (Qt_ldA rfl) ?_ | refine QW_of (Qt_ldN rfl) ?_)) | ((first | refine WL_op rfl ?_ | refine WR_late rfl rfl rfl ?_); (first | refine OW_st1 rfl ?_ | refine OW_box rfl (hk := fun _ => ?_) | refine OW_stA rfl ?_ | refine OW_stN rfl ?_)) | refine WL_nil ?_ | refine WR_nil ?_ | refine WC_seq ?_ | refine WC_block ?_ | refine WC_cond_t (ht := ?_) | refine WC_cond_f (he := ?_) | refine WC_skip ?_ | refine WC_ret ?_ | refine WC_exit ?_ | refine WC_draw_all (id := 5) 10 (.calm 0 <| .calm 1 <| .calm 2 <| .calm 3 <| .calm 4 <| .calm 5 <| .calm 6 <| .calm 7 <| .calm 8 <| .calm 9 <| .done) mixed (by kernel_rfl) ?_ | refine WC_draw_all (id := 13) 8 (.calm 0 <| .calm 1 <| .calm 2 <| .calm 3 <| .calm 4 <| .calm 6 <| .must 5 <| .calm 7 <| .must 8 <| .done) mixed (by kernel_rfl) ?_ | refine WC_region ?_ | ((refine WR_op rfl rfl ?_); (first | refine OW_st1 rfl ?_ | refine OW_box rfl (hk := fun _ => ?_) | refine OW_stA rfl ?_ | refine OW_stN rfl ?_); refine ⟨(by first | exact fun _ h => h | exact fun _ h => List.Sublist.subset (by repeat (first | exact .refl _ | exact List.nil_sublist _ | exact List.sublist_append_right _ _ | exact List.Sublist.append (.refl _) (List.sublist_append_right _ _) | apply List.Sublist.cons_cons | apply List.Sublist.cons)) h), ?_⟩))
  refine ⟨rfl, _, _, Res1 rfl (resV_tmp rfl), .cons _ (.refl _), rfl, _, rfl, ?_⟩
  have hcc := hc.cap16
  have e1 : IntKind.i64.wrap ((ms.length : Int) + 1) = ((ms.length + 1 : Nat) : Int) := by rw [wrap_i64 (by omega) (by omega)]; simp
  have e2 : IntKind.u64.wrap (next + 1) = next + 1 := by have := hc.nx0; rw [wrap_u64 (by omega) (by omega)]
  rw [e1, e2]
  exact hc.taken m hm hroom hx
set_option maxHeartbeats 1000000 in
theorem answer_fn {b : Nat} {cs : Array Value} {cap first : Nat} {ms : List (Array Value)} {next refused : Int} {L : List (Nat × Obj)} (hc : RecvC cs cap first ms next refused) :
    Fn Tryz.prog 50 [.pointer (some ⟨b, 0, none⟩)] (rc b cs L) (fun v L' => v = .tuple #[.int .u64 next, .int .i64 ((cap : Int) - ms.length)] ∧ L' = rc b cs L) := by
  have h1 := hc.n_
  have h2 := hc.next_
  have h3 := hc.cap_
  refine Fn_enter Tryz.func50 rfl Tryz.ntmps50 rfl fun g => ?_
  repeat (first | (refine RX ?_; (first | refine QW_of (Qt_assign rfl) ?_ | refine QW_of (Qt_move rfl) ?_ | refine QW_of (Qt_nilCheck rfl) ?_ | refine QW_of (Qt_nilCheck_fn rfl) ?_ | refine QW_of (Qt_fieldAddr0 rfl) ?_ | refine QW_of (Qt_fieldAddr rfl) ?_ | refine QW_of (Qt_ld1 rfl) ?_ | refine QW_of (Qt_eql_nilS rfl) ?_ | refine QW_of (Qt_eql_nilN rfl) ?_ | refine QW_of (Qt_bin rfl) ?_)) | refine WL_nil ?_ | refine WR_nil ?_ | refine WC_seq ?_ | refine WC_cond_t (ht := ?_) | refine WC_cond_f (he := ?_) | refine WC_skip ?_ | refine WC_ret ?_ | refine WC_draw_all (id := 3) 15 (.calm 0 <| .calm 1 <| .calm 2 <| .calm 3 <| .calm 4 <| .calm 5 <| .calm 6 <| .calm 7 <| .calm 8 <| .calm 9 <| .calm 10 <| .calm 11 <| .calm 12 <| .calm 13 <| .calm 14 <| .done) mixed (by kernel_rfl) ?_ | refine WC_region ?_)
  have := hc.len
  have := hc.cap16
  refine ⟨rfl, _, _, Res2 rfl (resV_tmp rfl) (resV_tmp rfl), .refl _, ?_, rfl⟩
  rw [wrap_i64 (by omega) (by omega)]
set_option maxHeartbeats 1000000 in
theorem pop_empty {b : Nat} {cs : Array Value} {cap first : Nat} {next refused : Int} {L : List (Nat × Obj)} (hc : RecvC cs cap first [] next refused) :
    Fn Tryz.prog 35 [.pointer (some ⟨b, 0, none⟩)] (rc b cs L) (fun v L' => v = .int .i64 9 ∧ L' = rc b cs L) := by
  have h1 := hc.n_
  have h2 : (((([] : List (Array Value)).length : Nat) : Int) == 0) = true := by simp
  refine Fn_enter Tryz.func35 rfl Tryz.ntmps35 rfl fun g => ?_
  repeat (first | (refine WL_Q ?_; (first | refine QW_of (Qt_assign rfl) ?_ | refine QW_of (Qt_move rfl) ?_ | refine QW_of (Qt_nilCheck rfl) ?_ | refine QW_of (Qt_nilCheck_fn rfl) ?_ | refine QW_of (Qt_fieldAddr0 rfl) ?_ | refine QW_of (Qt_fieldAddr rfl) ?_ | refine QW_of (Qt_ld1 rfl) ?_ | refine QW_of (Qt_bin rfl) ?_ | refine QW_of (Qt_eql_nilS rfl) ?_ | refine QW_of (Qt_eql_nilN rfl) ?_ | refine QW_of (Qt_build rfl) ?_ | refine QW_of (Qt_rem rfl) ?_)) | (refine WL_op rfl ?_; (first | refine OW_st1 rfl ?_ | refine OW_stA rfl ?_ | refine OW_stN rfl ?_)) | refine WL_nil ?_ | refine WC_seq ?_ | refine WC_block ?_ | refine WC_cond_t (ht := ?_) | refine WC_cond_f (he := ?_) | refine WC_skip ?_ | refine WC_ret ?_ | refine WC_region ?_)
  exact ⟨rfl, _, _, Res1 rfl (resV_tmp rfl), .refl _, rfl, rfl⟩
end Go.Proofs.YtdiaogcogkapgaaGreatDoor
namespace Go.Proofs.YtdiaogcogkapgaaGreatDoor
open Go.RowKit
attribute [local irreducible] Fn WC WL WR OW Qt YieldFn QW
theorem all1_fn {b c : Nat} {cs : Array Value} {cap first : Nat} {ms : List (Array Value)} {next refused : Int} (hc : RecvC cs cap first ms next refused) (l : Nat) (J : List (Array Value) → List (Nat × Obj) → Prop) (Jx : List (Nat × Obj) → Prop)
    (hJ : ∀ pre L, J pre L → ∃ i j : Nat, L[i]? = some (c, Obj.cells #[.pointer (some ⟨b, 0, none⟩)] 82 (0, 0)) ∧ L[j]? = some (b, Obj.cells cs 126 (0, 0)))
    (hY : ∀ pre y L, (pre ++ [y]) <+: ms → J pre L → YieldFn Tryz.prog l [.agg y] L (fun v L2 => (v = .bool true ∧ J (pre ++ [y]) L2) ∨ (v = .bool false ∧ Jx L2)))
    {L0 : List (Nat × Obj)} (h0 : J [] L0) : Fn Tryz.prog 75 [.func (.yield l) #[] #[], .pointer (some ⟨c, 0, none⟩)] L0 (fun _ L2 => J ms L2 ∨ Jx L2) := by
  obtain ⟨i0, j0, hi0, hj0⟩ := hJ [] L0 h0
  have hn := hc.n_
  refine Fn_enter Tryz.func75 rfl Tryz.ntmps75 rfl fun g => ?_
  repeat (first | (refine WL_Q ?_; (first | refine QW_of (Qt_move rfl) ?_ | refine QW_of (Qt_ld1 rfl) ?_ | refine QW_of (Qt_nilCheck rfl) ?_ | refine QW_of (Qt_nilCheck_fn rfl) ?_ | refine QW_of (Qt_bin rfl) ?_ | refine QW_of (Qt_eql_nilS rfl) ?_ | refine QW_of (Qt_eql_nilN rfl) ?_ | refine QW_of (Qt_fieldAddr0 rfl) ?_ | refine QW_of (Qt_fieldAddr rfl) ?_ | refine QW_of (Qt_assign rfl) ?_ | refine QW_of (Qt_ldA rfl) ?_ | refine QW_of (Qt_ldN rfl) ?_ | refine QW_of (Qt_not rfl) ?_)) | refine WL_nil ?_ | refine WC_seq ?_ | refine WC_block ?_ | refine WC_cond_t (ht := ?_) | refine WC_cond_f (he := ?_) | refine WC_skip ?_ | refine WC_ret ?_ | refine WC_exit ?_ | refine WC_region ?_)
  refine WC_weaken [(10, .int .i64 0), (9, .int .i64 ms.length), (0, .func (.yield l) #[] #[]), (1, .pointer (some ⟨c, 0, none⟩))] ⟨rfl, rfl, rfl, rfl, trivial⟩ ?_
  refine WC_loop (fun m σ => ∃ pre L, m = ms.length - pre.length ∧ pre <+: ms ∧ J pre L ∧ σ = ⟨[(10, .int .i64 pre.length), (9, .int .i64 ms.length), (0, .func (.yield l) #[] #[]), (1, .pointer (some ⟨c, 0, none⟩))], [], L⟩) ms.length ?_ ?_
  · exact ⟨[], L0, by simp, List.nil_prefix, h0, rfl⟩
  · rintro m σ ⟨pre, L, rfl, hpre, hJp, rfl⟩
    obtain ⟨i1, j1, hi1, hj1⟩ := hJ pre L hJp
    by_cases hlt : pre.length < ms.length
    · have h1 : decide ((pre.length : Int) < ms.length) = true := by simpa using hlt
      have hm : ∃ y, ms[pre.length]? = some y := ⟨_, List.getElem?_eq_getElem hlt⟩
      obtain ⟨y, hy⟩ := hm
      have hpre2 : (pre ++ [y]) <+: ms := by
        obtain ⟨r, rfl⟩ := hpre
        rw [List.getElem?_append_right (Nat.le_refl _), Nat.sub_self] at hy
        cases r with
        | nil => cases hy
        | cons z r => simp at hy; subst hy; exact ⟨r, by simp⟩
      have hmsg := hc.msg pre.length y hy
      have hs := hc.size
      have hfit : (first + pre.length) % 16 * 24 + 24 ≤ cs.size := by omega
      have hl := hc.len
      have hcc := hc.cap16
      repeat (first | (refine WL_Q ?_; (first | refine QW_of (Qt_move rfl) ?_ | refine QW_of (Qt_ld1 rfl) ?_ | refine QW_of (Qt_nilCheck rfl) ?_ | refine QW_of (Qt_nilCheck_fn rfl) ?_ | refine QW_of (Qt_bin rfl) ?_ | refine QW_of (Qt_eql_nilS rfl) ?_ | refine QW_of (Qt_eql_nilN rfl) ?_ | refine QW_of (Qt_fieldAddr0 rfl) ?_ | refine QW_of (Qt_fieldAddr rfl) ?_ | refine QW_of (Qt_assign rfl) ?_ | refine QW_of (Qt_ldA rfl) ?_ | refine QW_of (Qt_ldN rfl) ?_ | refine QW_of (Qt_not rfl) ?_)) | refine WL_nil ?_ | refine WC_seq ?_ | refine WC_block ?_ | refine WC_cond_t (ht := ?_) | refine WC_cond_f (he := ?_) | refine WC_skip ?_ | refine WC_ret ?_ | refine WC_exit ?_ | refine WC_region ?_)
      refine WL_op rfl (OW_call rfl rfl rfl rfl (Fn.at_same (fun F => place_fn (L := F) pre.length (by omega) hc) j1 hj1) ?_)
      rintro _ _ ⟨rfl, rfl⟩
      repeat (first | (refine WL_Q ?_; (first | refine QW_of (Qt_move rfl) ?_ | refine QW_of (Qt_ld1 rfl) ?_ | refine QW_of (Qt_nilCheck rfl) ?_ | refine QW_of (Qt_nilCheck_fn rfl) ?_ | refine QW_of (Qt_bin rfl) ?_ | refine QW_of (Qt_eql_nilS rfl) ?_ | refine QW_of (Qt_eql_nilN rfl) ?_ | refine QW_of (Qt_fieldAddr0 rfl) ?_ | refine QW_of (Qt_fieldAddr rfl) ?_ | refine QW_of (Qt_assign rfl) ?_ | refine QW_of (Qt_ldA rfl) ?_ | refine QW_of (Qt_ldN rfl) ?_ | refine QW_of (Qt_not rfl) ?_)) | refine WL_nil ?_ | refine WC_seq ?_ | refine WC_block ?_ | refine WC_cond_t (ht := ?_) | refine WC_cond_f (he := ?_) | refine WC_skip ?_ | refine WC_ret ?_ | refine WC_exit ?_ | refine WC_region ?_)
      have hYf := hY pre y L hpre2 hJp
      subst hmsg
      refine WL_op rfl (OW_yield rfl rfl rfl rfl rfl hYf ?_)
      rintro v L2 (⟨rfl, hJ2⟩ | ⟨rfl, hJx⟩)
      · repeat (first | (refine WL_Q ?_; (first | refine QW_of (Qt_move rfl) ?_ | refine QW_of (Qt_ld1 rfl) ?_ | refine QW_of (Qt_nilCheck rfl) ?_ | refine QW_of (Qt_nilCheck_fn rfl) ?_ | refine QW_of (Qt_bin rfl) ?_ | refine QW_of (Qt_eql_nilS rfl) ?_ | refine QW_of (Qt_eql_nilN rfl) ?_ | refine QW_of (Qt_fieldAddr0 rfl) ?_ | refine QW_of (Qt_fieldAddr rfl) ?_ | refine QW_of (Qt_assign rfl) ?_ | refine QW_of (Qt_ldA rfl) ?_ | refine QW_of (Qt_ldN rfl) ?_ | refine QW_of (Qt_not rfl) ?_)) | refine WL_nil ?_ | refine WC_seq ?_ | refine WC_block ?_ | refine WC_cond_t (ht := ?_) | refine WC_cond_f (he := ?_) | refine WC_skip ?_ | refine WC_ret ?_ | refine WC_exit ?_ | refine WC_region ?_)
        repeat (first | (refine WL_Q ?_; (first | refine QW_of (Qt_move rfl) ?_ | refine QW_of (Qt_ld1 rfl) ?_ | refine QW_of (Qt_nilCheck rfl) ?_ | refine QW_of (Qt_nilCheck_fn rfl) ?_ | refine QW_of (Qt_bin rfl) ?_ | refine QW_of (Qt_eql_nilS rfl) ?_ | refine QW_of (Qt_eql_nilN rfl) ?_ | refine QW_of (Qt_fieldAddr0 rfl) ?_ | refine QW_of (Qt_fieldAddr rfl) ?_ | refine QW_of (Qt_assign rfl) ?_ | refine QW_of (Qt_ldA rfl) ?_ | refine QW_of (Qt_ldN rfl) ?_ | refine QW_of (Qt_not rfl) ?_)) | refine WL_nil ?_ | refine WC_seq ?_ | refine WC_block ?_ | refine WC_cond_t (ht := ?_) | refine WC_cond_f (he := ?_) | refine WC_skip ?_ | refine WC_ret ?_ | refine WC_exit ?_ | refine WC_region ?_)
        refine ⟨_, _, ?_, ⟨pre ++ [_], L2, rfl, hpre2, hJ2, rfl⟩, ⟨?_, rfl, rfl, rfl, trivial⟩, rfl, .refl _⟩
        · simp; omega
        · show some (Value.int .i64 (IntKind.i64.wrap ((pre.length : Int) + 1))) = _
          rw [wrap_i64 (by omega) (by omega)]
          simp
      · repeat (first | (refine WL_Q ?_; (first | refine QW_of (Qt_move rfl) ?_ | refine QW_of (Qt_ld1 rfl) ?_ | refine QW_of (Qt_nilCheck rfl) ?_ | refine QW_of (Qt_nilCheck_fn rfl) ?_ | refine QW_of (Qt_bin rfl) ?_ | refine QW_of (Qt_eql_nilS rfl) ?_ | refine QW_of (Qt_eql_nilN rfl) ?_ | refine QW_of (Qt_fieldAddr0 rfl) ?_ | refine QW_of (Qt_fieldAddr rfl) ?_ | refine QW_of (Qt_assign rfl) ?_ | refine QW_of (Qt_ldA rfl) ?_ | refine QW_of (Qt_ldN rfl) ?_ | refine QW_of (Qt_not rfl) ?_)) | refine WL_nil ?_ | refine WC_seq ?_ | refine WC_block ?_ | refine WC_cond_t (ht := ?_) | refine WC_cond_f (he := ?_) | refine WC_skip ?_ | refine WC_ret ?_ | refine WC_exit ?_ | refine WC_region ?_)
        repeat (first | (refine WL_Q ?_; (first | refine QW_of (Qt_move rfl) ?_ | refine QW_of (Qt_ld1 rfl) ?_ | refine QW_of (Qt_nilCheck rfl) ?_ | refine QW_of (Qt_nilCheck_fn rfl) ?_ | refine QW_of (Qt_bin rfl) ?_ | refine QW_of (Qt_eql_nilS rfl) ?_ | refine QW_of (Qt_eql_nilN rfl) ?_ | refine QW_of (Qt_fieldAddr0 rfl) ?_ | refine QW_of (Qt_fieldAddr rfl) ?_ | refine QW_of (Qt_assign rfl) ?_ | refine QW_of (Qt_ldA rfl) ?_ | refine QW_of (Qt_ldN rfl) ?_ | refine QW_of (Qt_not rfl) ?_)) | refine WL_nil ?_ | refine WC_seq ?_ | refine WC_block ?_ | refine WC_cond_t (ht := ?_) | refine WC_cond_f (he := ?_) | refine WC_skip ?_ | refine WC_ret ?_ | refine WC_exit ?_ | refine WC_region ?_)
        exact ⟨rfl, _, _, Res0 rfl, .refl _, .inr hJx⟩
    · have h1 : decide ((pre.length : Int) < ms.length) = false := by simpa using hlt
      have he : pre = ms := hpre.eq_of_length (by have := hpre.length_le; omega)
      subst he
      repeat (first | (refine WL_Q ?_; (first | refine QW_of (Qt_move rfl) ?_ | refine QW_of (Qt_ld1 rfl) ?_ | refine QW_of (Qt_nilCheck rfl) ?_ | refine QW_of (Qt_nilCheck_fn rfl) ?_ | refine QW_of (Qt_bin rfl) ?_ | refine QW_of (Qt_eql_nilS rfl) ?_ | refine QW_of (Qt_eql_nilN rfl) ?_ | refine QW_of (Qt_fieldAddr0 rfl) ?_ | refine QW_of (Qt_fieldAddr rfl) ?_ | refine QW_of (Qt_assign rfl) ?_ | refine QW_of (Qt_ldA rfl) ?_ | refine QW_of (Qt_ldN rfl) ?_ | refine QW_of (Qt_not rfl) ?_)) | refine WL_nil ?_ | refine WC_seq ?_ | refine WC_block ?_ | refine WC_cond_t (ht := ?_) | refine WC_cond_f (he := ?_) | refine WC_skip ?_ | refine WC_ret ?_ | refine WC_exit ?_ | refine WC_region ?_)
      exact ⟨rfl, _, _, Res0 rfl, .refl _, .inl hJp⟩
theorem all_fn (b : Nat) (L : List (Nat × Obj)) : Fn Tryz.prog 57 [.pointer (some ⟨b, 0, none⟩)] L (fun v L' => ∃ c, v = .func (.func 75) #[] #[.pointer (some ⟨c, 0, none⟩)] ∧ L' = (c, .cells #[.pointer (some ⟨b, 0, none⟩)] 82 (0, 0)) :: L) := by
  refine Fn_enter Tryz.func57 rfl Tryz.ntmps57 rfl fun g => ?_
  repeat (first | (refine WL_Q ?_; (first | refine QW_of (Qt_assign rfl) ?_ | refine QW_of (Qt_makeFunc rfl) ?_)) | (refine WL_op rfl ?_; (first | refine OW_box rfl (hk := fun _ => ?_))) | refine WL_nil ?_ | refine WC_seq ?_ | refine WC_ret ?_ | refine WC_region ?_)
  exact ⟨rfl, _, _, Res1 rfl (resV_tmp rfl), .refl _, _, rfl, rfl⟩
def headV (ms : List (Array Value)) : Value := .tuple #[.agg (ms.headD zc43), .bool !ms.isEmpty]
set_option maxHeartbeats 1000000 in
theorem head_fn {b : Nat} {cs : Array Value} {cap first : Nat} {ms : List (Array Value)} {next refused : Int} (hc : RecvC cs cap first ms next refused) (hall : ∀ m ∈ ms, m.size = 24 ∧ (m.toList.all fun v => v.oneCell') = true) (F : List (Nat × Obj)) :
    Fn Tryz.prog 33 [.pointer (some ⟨b, 0, none⟩)] (rc b cs F) (fun v L' => v = headV ms ∧ L' = rc b cs F) := by
  refine Fn_enterM Tryz.func33 rfl Tryz.ntmps33 rfl fun g => ?_
  repeat (first | (refine WL_Q ?_; (first | refine QW_of (Qt_move rfl) ?_ | refine QW_of (Qt_ldA rfl) ?_ | refine QW_of (Qt_ldN rfl) ?_ | refine QW_of (Qt_build rfl) ?_)) | (refine WL_op rfl ?_; (first | refine OW_alloc rfl (hk := fun _ => ?_) | refine OW_stA rfl ?_ | refine OW_stN rfl ?_ | refine OW_st1 rfl ?_)) | refine WL_nil ?_ | refine WC_seq ?_ | refine WC_block ?_ | refine WC_ret ?_ | refine WC_region ?_)
  refine WL_op rfl (OW_call rfl rfl rfl rfl (all_fn b _) ?_)
  rintro _ _ ⟨c, rfl, rfl⟩
  repeat (first | (refine WL_Q ?_; (first | refine QW_of (Qt_move rfl) ?_ | refine QW_of (Qt_ldA rfl) ?_ | refine QW_of (Qt_ldN rfl) ?_ | refine QW_of (Qt_build rfl) ?_)) | (refine WL_op rfl ?_; (first | refine OW_alloc rfl (hk := fun _ => ?_) | refine OW_stA rfl ?_ | refine OW_stN rfl ?_ | refine OW_st1 rfl ?_)) | refine WL_nil ?_ | refine WC_seq ?_ | refine WC_block ?_ | refine WC_ret ?_ | refine WC_region ?_)
  repeat (first | (refine WL_Q ?_; (first | refine QW_of (Qt_move rfl) ?_ | refine QW_of (Qt_ldA rfl) ?_ | refine QW_of (Qt_ldN rfl) ?_ | refine QW_of (Qt_build rfl) ?_)) | (refine WL_op rfl ?_; (first | refine OW_alloc rfl (hk := fun _ => ?_) | refine OW_stA rfl ?_ | refine OW_stN rfl ?_ | refine OW_st1 rfl ?_)) | refine WL_nil ?_ | refine WC_seq ?_ | refine WC_block ?_ | refine WC_ret ?_ | refine WC_region ?_)
  rename_i d0 d1 
  refine WC_range rfl (fun m : Array Value => [.agg m]) (fun _ => rfl) rfl (fun pre y => (pre ++ [y]) <+: ms) (fun xs => xs = ms)
    (fun pre L' => pre = [] ∧ L' = (c, .cells #[.pointer (some ⟨b, 0, none⟩)] 82 (0, 0)) :: (d1, .cells #[.bool false] 4 (0,0)) :: (d0, .cells zc43 43 (0,0)) :: rc b cs F)
    (fun cj L' => cj = .ret ∧ ∃ m r, ms = m :: r ∧ L' = (c, .cells #[.pointer (some ⟨b, 0, none⟩)] 82 (0, 0)) :: (d1, .cells #[.bool true] 4 (0,0)) :: (d0, .cells m 43 (0,0)) :: rc b cs F)
    ?_ ?_ ?_ ?_
  · intro l d o1 o2 Jx hr
    refine (all1_fn (b := b) hc l (fun pre L1 => ∃ L', L1 = (l, o1) :: (d, o2) :: L' ∧ pre = [] ∧ L' = (c, .cells #[.pointer (some ⟨b, 0, none⟩)] 82 (0, 0)) :: (d1, .cells #[.bool false] 4 (0,0)) :: (d0, .cells zc43 43 (0,0)) :: rc b cs F) Jx ?_ ?_ ?_).mono ?_
    · rintro pre L ⟨L', rfl, -, rfl⟩
      exact ⟨2, 5, rfl, rfl⟩
    · exact hr
    · exact ⟨_, rfl, rfl, rfl⟩
    · rintro v L2 (⟨L', h1, h2, h3⟩ | h)
      · exact .inl ⟨ms, L', rfl, h1, h2, h3⟩
      · exact .inr h
  · rintro g' n' l d pre y L' hdom ⟨rfl, rfl⟩ ol od hol
    have hym : y ∈ ms := by obtain ⟨r, rfl⟩ := hdom; simp
    obtain ⟨hys, hy1⟩ := hall y hym
    repeat (first | (refine WL_Q ?_; (first | refine QW_of (Qt_move rfl) ?_ | refine QW_of (Qt_ldA rfl) ?_ | refine QW_of (Qt_ldN rfl) ?_ | refine QW_of (Qt_build rfl) ?_)) | (refine WL_op rfl ?_; (first | refine OW_alloc rfl (hk := fun _ => ?_) | refine OW_stA rfl ?_ | refine OW_stN rfl ?_ | refine OW_st1 rfl ?_)) | refine WL_nil ?_ | refine WC_seq ?_ | refine WC_block ?_ | refine WC_ret ?_ | refine WC_region ?_)
    refine ⟨rfl, _, [_], _, rfl, fun ol' hol' => ?_⟩
    repeat (first | (refine WL_Q ?_; (first | refine QW_of (Qt_move rfl) ?_ | refine QW_of (Qt_ldA rfl) ?_ | refine QW_of (Qt_ldN rfl) ?_ | refine QW_of (Qt_build rfl) ?_)) | (refine WL_op rfl ?_; (first | refine OW_alloc rfl (hk := fun _ => ?_) | refine OW_stA rfl ?_ | refine OW_stN rfl ?_ | refine OW_st1 rfl ?_)) | refine WL_nil ?_ | refine WC_seq ?_ | refine WC_block ?_ | refine WC_ret ?_ | refine WC_region ?_)
    obtain ⟨r, rfl⟩ := hdom
    exact ⟨_, .cons _ (.refl _), rfl, y, r, by simp, rfl⟩
  · rintro d xs L' rfl ⟨rfl, rfl⟩
    repeat (first | (refine WL_Q ?_; (first | refine QW_of (Qt_move rfl) ?_ | refine QW_of (Qt_ldA rfl) ?_ | refine QW_of (Qt_ldN rfl) ?_ | refine QW_of (Qt_build rfl) ?_)) | (refine WL_op rfl ?_; (first | refine OW_alloc rfl (hk := fun _ => ?_) | refine OW_stA rfl ?_ | refine OW_stN rfl ?_ | refine OW_st1 rfl ?_)) | refine WL_nil ?_ | refine WC_seq ?_ | refine WC_block ?_ | refine WC_ret ?_ | refine WC_region ?_)
    exact ⟨_, ⟨d, 0, _, rfl, rfl, rfl, rfl⟩, _, _, Res2 rfl (resV_cellN rfl 3 rfl rfl) (resV_cell1 rfl 2 rfl), .cons _ (.cons _ (.cons _ (.cons _ (.refl _)))), rfl, rfl⟩
  · rintro d cj L' ⟨rfl, m, r, rfl, rfl⟩
    refine WC_ret ?_
    have hm := (hall m (by simp)).1
    exact ⟨_, ⟨d, 0, _, rfl, rfl, rfl, rfl⟩, _, _, Res2 rfl (resV_cellN rfl 3 rfl hm) (resV_cell1 rfl 2 rfl), .cons _ (.cons _ (.cons _ (.cons _ (.refl _)))), rfl, rfl⟩
theorem RecvC.popped {cs : Array Value} {cap first : Nat} {m : Array Value} {ms : List (Array Value)} {next refused : Int} (hc : RecvC cs cap first (m :: ms) next refused) (z : Array Value) (hz : z.size = 24) :
    RecvC (((putR cs (first % 16 * 24) z).setIfInBounds 385 (.int .i64 ((first + 1) % 16 : Nat))).setIfInBounds 386 (.int .i64 ms.length)) cap ((first + 1) % 16) ms next refused := by
  have hs := hc.size
  have hf := hc.f16
  have hoff : first % 16 * 24 + z.size ≤ 384 := by omega
  have hp := putR_size cs z (first % 16 * 24) (by omega)
  have ho : ∀ j, 384 ≤ j → (putR cs (first % 16 * 24) z)[j]? = cs[j]? := fun j hj => putR_get_out cs z _ j (by omega) (by omega)
  have hl := hc.len
  have hcc := hc.cap16
  simp only [List.length_cons] at hl
  refine ⟨by simpa using hp.trans hs, ?_, ?_, ?_, ?_, ?_, hc.cap1, hc.cap16, by omega, by omega, hc.nx0, hc.nx1, ?_⟩
  · rw [Array.getElem?_setIfInBounds_ne (by decide), Array.getElem?_setIfInBounds_ne (by decide), ho _ (by decide)]; exact hc.cap_
  · rw [Array.getElem?_setIfInBounds_ne (by decide)]; simp [hp, hs]
  · simp [hp, hs]
  · rw [Array.getElem?_setIfInBounds_ne (by decide), Array.getElem?_setIfInBounds_ne (by decide), ho _ (by decide)]; exact hc.next_
  · rw [Array.getElem?_setIfInBounds_ne (by decide), Array.getElem?_setIfInBounds_ne (by decide), ho _ (by decide)]; exact hc.ref_
  · intro k u hk
    have hk1 : k < ms.length := (List.getElem?_eq_some_iff.1 hk).1
    rw [← hc.msg (k + 1) u (by simpa using hk)]
    have e1 : ((first + 1) % 16 + k) % 16 = (first + (k + 1)) % 16 := by omega
    have hne : (first + (k + 1)) % 16 ≠ first % 16 := by omega
    have hlt : (first + (k + 1)) % 16 < 16 := Nat.mod_lt _ (by decide)
    rw [e1]
    exact extract_congr fun j h1 h2 => by
      rw [Array.getElem?_setIfInBounds_ne (by omega), Array.getElem?_setIfInBounds_ne (by omega)]
      exact putR_get_out cs z _ j (by omega) (by omega)
set_option maxHeartbeats 2000000 in
theorem pop_ok {b : Nat} {cs : Array Value} {cap first : Nat} {m : Array Value} {ms : List (Array Value)} {next refused : Int} {L : List (Nat × Obj)} (hc : RecvC cs cap first (m :: ms) next refused) :
    Fn Tryz.prog 35 [.pointer (some ⟨b, 0, none⟩)] (rc b cs L) (fun v L' => v = .int .i64 0 ∧ ∃ cs' first', L' = rc b cs' L ∧ RecvC cs' cap first' ms next refused) := by
  have hn := hc.n_
  have hfi := hc.first_
  have hs := hc.size
  have hf := hc.f16
  have hl := hc.len
  have hcc := hc.cap16
  have h2 : ((((m :: ms).length : Nat) : Int) == 0) = false := by simp; omega
  have hoff : first % 16 * 24 + 24 ≤ cs.size := by omega
  have hps := putR_size cs zc43 (first % 16 * 24) (by have : (zc43).size = 24 := rfl; omega)
  have hzs : (zc43).size = 24 := rfl
  have hf2 : (putR cs (first % 16 * 24) zc43)[385]? = some (.int .i64 first) := by rw [putR_get_out cs _ _ _ (by omega) (by omega)]; exact hfi
  have hn2 : ((putR cs (first % 16 * 24) zc43).setIfInBounds 385 (.int .i64 ((IntKind.i64.wrap ((first : Int) + 1)).tmod 16)))[386]? = some (.int .i64 (m :: ms).length) := by
    rw [Array.getElem?_setIfInBounds_ne (by decide), putR_get_out cs _ _ _ (by omega) (by omega)]; exact hn
  refine Fn_enter Tryz.func35 rfl Tryz.ntmps35 rfl fun g => ?_
  repeat (first | (refine WL_Q ?_; (first | refine QW_of (Qt_assign rfl) ?_ | refine QW_of (Qt_move rfl) ?_ | refine QW_of (Qt_nilCheck rfl) ?_ | refine QW_of (Qt_nilCheck_fn rfl) ?_ | refine QW_of (Qt_fieldAddr0 rfl) ?_ | refine QW_of (Qt_fieldAddr rfl) ?_ | refine QW_of (Qt_ld1 rfl) ?_ | refine QW_of (Qt_bin rfl) ?_ | refine QW_of (Qt_eql_nilS rfl) ?_ | refine QW_of (Qt_eql_nilN rfl) ?_ | refine QW_of (Qt_build rfl) ?_ | refine QW_of (Qt_rem rfl) ?_)) | (refine WL_op rfl ?_; (first | refine OW_st1 rfl ?_ | refine OW_stA rfl ?_ | refine OW_stN rfl ?_)) | refine WL_nil ?_ | refine WC_seq ?_ | refine WC_block ?_ | refine WC_cond_t (ht := ?_) | refine WC_cond_f (he := ?_) | refine WC_skip ?_ | refine WC_ret ?_ | refine WC_region ?_)
  refine WL_op rfl (OW_call rfl rfl rfl rfl (show Fn _ _ _ _ (fun v L' => v = .pointer (some ⟨b, first % 16 * 24, none⟩) ∧ L' = rc b cs L) from place_fn 0 (by omega) hc) ?_)
  rintro _ _ ⟨rfl, rfl⟩
  repeat (first | (refine WL_Q ?_; (first | refine QW_of (Qt_assign rfl) ?_ | refine QW_of (Qt_move rfl) ?_ | refine QW_of (Qt_nilCheck rfl) ?_ | refine QW_of (Qt_nilCheck_fn rfl) ?_ | refine QW_of (Qt_fieldAddr0 rfl) ?_ | refine QW_of (Qt_fieldAddr rfl) ?_ | refine QW_of (Qt_ld1 rfl) ?_ | refine QW_of (Qt_bin rfl) ?_ | refine QW_of (Qt_eql_nilS rfl) ?_ | refine QW_of (Qt_eql_nilN rfl) ?_ | refine QW_of (Qt_build rfl) ?_ | refine QW_of (Qt_rem rfl) ?_)) | (refine WL_op rfl ?_; (first | refine OW_st1 rfl ?_ | refine OW_stA rfl ?_ | refine OW_stN rfl ?_)) | refine WL_nil ?_ | refine WC_seq ?_ | refine WC_block ?_ | refine WC_cond_t (ht := ?_) | refine WC_cond_f (he := ?_) | refine WC_skip ?_ | refine WC_ret ?_ | refine WC_region ?_)
  repeat (first | (refine WL_Q ?_; (first | refine QW_of (Qt_assign rfl) ?_ | refine QW_of (Qt_move rfl) ?_ | refine QW_of (Qt_nilCheck rfl) ?_ | refine QW_of (Qt_nilCheck_fn rfl) ?_ | refine QW_of (Qt_fieldAddr0 rfl) ?_ | refine QW_of (Qt_fieldAddr rfl) ?_ | refine QW_of (Qt_ld1 rfl) ?_ | refine QW_of (Qt_bin rfl) ?_ | refine QW_of (Qt_eql_nilS rfl) ?_ | refine QW_of (Qt_eql_nilN rfl) ?_ | refine QW_of (Qt_build rfl) ?_ | refine QW_of (Qt_rem rfl) ?_)) | (refine WL_op rfl ?_; (first | refine OW_st1 rfl ?_ | refine OW_stA rfl ?_ | refine OW_stN rfl ?_)) | refine WL_nil ?_ | refine WC_seq ?_ | refine WC_block ?_ | refine WC_cond_t (ht := ?_) | refine WC_cond_f (he := ?_) | refine WC_skip ?_ | refine WC_ret ?_ | refine WC_region ?_)
  refine ⟨rfl, _, _, Res1 rfl (resV_tmp rfl), .refl _, rfl, _, (first + 1) % 16, rfl, ?_⟩
  have e1 : (IntKind.i64.wrap ((first : Int) + 1)).tmod 16 = (((first + 1) % 16 : Nat) : Int) := by
    rw [wrap_i64 (by omega) (by omega), Int.tmod_eq_emod_of_nonneg (by omega)]; omega
  have e2 : IntKind.i64.wrap (((m :: ms).length : Int) - 1) = (ms.length : Int) := by
    simp only [List.length_cons] at hl ⊢
    rw [wrap_i64 (by omega) (by omega)]; omega
  rw [e1, e2]
  exact hc.popped _ rfl
end Go.Proofs.YtdiaogcogkapgaaGreatDoor
namespace Go.Proofs.YtdiaogcogkapgaaGreatDoor
open Go.RowKit
attribute [local irreducible] Fn WC WL WR OW Qt YieldFn QW
noncomputable def newC (cap : Int) : Array Value := putR Tryz.zeroCells126 384 #[.int .i64 cap]
theorem newC_ok {cap : Nat} (h1 : 1 ≤ cap) (h2 : cap ≤ 16) : RecvC (newC cap) cap 0 [] 0 0 where
  size := by kernel_rfl
  cap_ := by kernel_rfl
  first_ := by kernel_rfl
  n_ := by kernel_rfl
  next_ := by kernel_rfl
  ref_ := by kernel_rfl
  cap1 := h1
  cap16 := h2
  f16 := by decide
  len := by simp
  nx0 := by decide
  nx1 := by decide
  msg := fun k m h => by simp at h
theorem new_fn {cap : Nat} (h1 : 1 ≤ cap) (h2 : cap ≤ 16) (L : List (Nat × Obj)) : Fn Tryz.prog 24 [.int .i64 cap] L (fun v L' => ∃ b, v = .pointer (some ⟨b, 0, none⟩) ∧ ∃ cs, L' = rc b cs L ∧ RecvC cs cap 0 [] 0 0) := by
  have g1 : decide ((cap : Int) < 1) = false := by simp; omega
  have g2 : decide ((cap : Int) > 16) = false := by simp; omega
  have hz : (Tryz.zeroCells126).size = 389 := Tryz.zeroCells126_size
  refine Fn_enter Tryz.func24 rfl Tryz.ntmps24 rfl fun g => ?_
  repeat (first | ((first | refine WL_Q ?_ | refine WL_Y ?_); (first | refine QW_of (Qt_move rfl) ?_ | refine QW_of (Qt_assign rfl) ?_ | refine QW_of (Qt_bin rfl) ?_ | refine QW_of (Qt_pick_true rfl) ?_ | refine QW_of (Qt_pick_false rfl) ?_ | refine QW_of (Qt_build rfl) ?_)) | ((first | refine WL_op rfl ?_ | refine WL_yes (h := ?_)); (first | refine OW_box rfl (hk := fun _ => ?_))) | refine WL_nil ?_ | refine WL_un (h := ?_) | refine WL_N ?_ | refine WL_M ?_ | refine WC_seq ?_ | refine WC_cond_t (ht := ?_) | refine WC_cond_f (he := ?_) | refine WC_skip ?_ | refine WC_ret ?_ | refine WC_region ?_)
  exact ⟨rfl, _, _, Res1 rfl (resV_tmp rfl), .refl _, _, rfl, _, rfl, newC_ok h1 h2⟩
end Go.Proofs.YtdiaogcogkapgaaGreatDoor
