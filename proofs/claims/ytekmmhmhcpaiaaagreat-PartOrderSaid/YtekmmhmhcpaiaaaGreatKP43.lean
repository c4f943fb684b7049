/-
  A part of what the last of these texts needs; by itself it proves no statement.
-/
import Derived.Test.YtekmmhmhcpaiaaaGreatKP42
namespace Go.Proofs.YtekmmhmhcpaiaaaGreat
open Go.RowKit
theorem puL_take (l : List PuV) (n : Nat) : puL (l.take n) = (puL l).take (n * 4) := by
  induction l generalizing n with
  | nil => simp [puL]
  | cons x l ih =>
    cases n with
    | zero => simp [puL]
    | succ n =>
      rw [List.take_succ_cons]
      show puC x ++ puL (l.take n) = (puC x ++ puL l).take _
      have hx : (puC x).length = 4 := rfl
      rw [ih, show (n + 1) * 4 = (puC x).length + n * 4 by rw [hx]; omega, List.take_length_add_append]
theorem puL_first {L : List (Nat × Obj)} {wa : Option Addr} {wcap : Nat} {us : List PuV} (h : VecM 4 L (.slice wa us.length wcap) us.length (puL us)) (n : Nat) : VecM 4 L (.slice wa (us.take n).length wcap) (us.take n).length (puL (us.take n)) := by
  obtain ⟨h1, a, cap, e, h2, h3, h4⟩ := h
  cases e
  have hl : (us.take n).length ≤ us.length := by rw [List.length_take]; omega
  refine ⟨puL_len _, _, _, rfl, by omega, h3, ?_⟩
  rcases h4 with h4 | ⟨b, off, cs, E, fr, e1, e2, e3⟩
  · exact .inl (by omega)
  · refine .inr ⟨b, off, cs, E, fr, e1, e2, fun j x hj => e3 j x ?_⟩
    rw [puL_take, List.getElem?_take] at hj
    split at hj
    · exact hj
    · cases hj
attribute [local irreducible] Fn WC WL WR OW Qt YieldFn QW FnP FnD FnE
theorem puRec_fn {x : PuV} (h : PuR x) {L : List (Nat × Obj)} : Fn Tryz.prog 9 [.agg (puC x).toArray] L (fun r L' => r = .agg (rcI x.rcv.key x.rcv.t x.rcv.val x.s) ∧ L' = L) := putRec_fn h.k h.t
theorem putRun_fn {pb mb tb : Nat} {c : PtV} {tv : TbV} {S G F : List (Nat × Obj)} {l : List EnV} {d : Int} {P : List RcV} {z : List OutV} {x : PuV} (hx : PuR x) (h : PtAt pb mb tb 1 c.cls S G l) (ht : TabIn tb G tv) (hN : NodeIn tv 1 c) (hG : ∀ q ∈ G, q ∈ F) (hk : PtOk c) (hM : c.rs.length ≤ 4) (hR : Runs c d P l z) (hd : d ≤ x.rcv.t) (hP : P.length < 60) (hr : ∀ r ∈ P, RcOk r) :
    Fn Tryz.prog 8 [.pointer (some ⟨pb, 0, none⟩), .agg (rcI x.rcv.key x.rcv.t x.rcv.val x.s)] (S ++ F) (fun v L' => ∃ S' T o l', L' = S' ++ (T ++ F) ∧ PtAt pb mb tb 1 c.cls S' (T ++ G) l' ∧ VecM 6 T v o.length (rcL o) ∧ Runs c d (P ++ [x.rcv]) l' (z ++ o) ∧ z.length + o.length ≤ 100000) := by
  obtain ⟨h1, h2, h3⟩ := hR.few hk hM (by omega) hr
  have h4 := putE_mass hM x.rcv
  refine (put_fn h ht hN hG hk h1 hx.ok hx.s (by show massW c.rs.length (putE c x.rcv) + _ ≤ _; omega)).mono ?_
  rintro v L' ⟨S', T, o, rfl, hA, ho, hv⟩
  have hR2 := hR.put hk hd (.refl _) ho
  refine ⟨S', T, o, _, rfl, hA, hv, hR2, ?_⟩
  have := (hR2.few hk hM (by rw [List.length_append, List.length_singleton]; omega) fun r hr' => by
    rcases List.mem_append.1 hr' with hr' | hr'
    · exact hr r hr'
    · obtain rfl := List.mem_singleton.1 hr'; exact hx.ok).2.2
  rwa [List.length_append] at this
theorem drainRun_fn {pb mb tb : Nat} {c : PtV} {tv : TbV} {S G F : List (Nat × Obj)} {l : List EnV} {d upto : Int} {P : List RcV} {z : List OutV} (h : PtAt pb mb tb 1 c.cls S G l) (ht : TabIn tb G tv) (hN : NodeIn tv 1 c) (hG : ∀ q ∈ G, q ∈ F) (hk : PtOk c) (hM : c.rs.length ≤ 4) (hR : Runs c d P l z) (hd : d ≤ upto) (hP : P.length ≤ 60) (hr : ∀ r ∈ P, RcOk r) :
    Fn Tryz.prog 10 [.pointer (some ⟨pb, 0, none⟩), iV upto] (S ++ F) (fun v L' => ∃ S' T o l', L' = S' ++ (T ++ F) ∧ PtAt pb mb tb 1 c.cls S' (T ++ G) l' ∧ VecM 6 T v o.length (rcL o) ∧ Runs c upto P l' (z ++ o) ∧ z.length + o.length ≤ 100000 ∧ (upto = 1152921504606846976 → l' = [])) := by
  obtain ⟨h1, h2, h3⟩ := hR.few hk hM hP hr
  refine (drained_fn h ht hN hG hk h1 (cnt5_few hM h1)).mono ?_
  rintro v L' ⟨S', T, l', o, rfl, hA, hv, hl', hf⟩
  have hR2 := hR.fall hd hf
  refine ⟨S', T, o, l', rfl, hA, hv, hR2, ?_, ?_⟩
  · have := (hR2.few hk hM hP hr).2.2
    rwa [List.length_append] at this
  · rintro rfl
    exact falls_all hk hf hl'
set_option maxHeartbeats 16000000 in
theorem partOrder_fn {k a b g : Int} {v w : Value} {sw : List SwV} {us : List PuV} {L : List (Nat × Obj)} (hk : u8q k) (ha : u8q a) (hb : u8q b) (hg : u8q g) (hv : VecM 6 L v sw.length (swL sw)) (hs : ∀ s ∈ sw, SwR s) (hw : VecM 4 L w us.length (puL us)) (hu : ∀ x ∈ us, PuR x) : Fn Tryz.prog 3 [.agg (suC k a b g), v, w] L (fun r L' => r = .bool true ∧ L' = L) := by
  obtain ⟨_, va, vcap, rfl, _, hvm, _⟩ := id hv
  obtain ⟨_, wa, wcap, rfl, _, hwm, _⟩ := id hw
  refine Fn_enter Tryz.func3 rfl Tryz.ntmps3 rfl fun gw => ?_
  repeat (first | (refine WL_Q ?_; (first | refine QW_a ?_ | refine QW_of (Qt_ldX rfl (hn := by with_reducible assumption)) ?_)) | (refine WL_op rfl ?_; (first | refine OW_box rfl (hk := fun _ => ?_) | refine OW_callP rfl (hF := works11_fn) (hk := ?_))) | refine WL_nil ?_ | refine WC_seq ?_ | refine WC_block ?_ | refine WC_cond_t (ht := ?_) | refine WC_cond_f (he := ?_) | refine WC_skip ?_ | refine WC_ret ?_ | refine WC_exit ?_ | refine WG 0 ?_ | refine WG 1 ?_)
  rename_i x3
  obtain ⟨L0, hL0⟩ : ∃ L0, L0 = (x3, Obj.cells (suC k a b g) 23 (0, 0)) :: L := ⟨_, rfl⟩
  have hLL : ∀ q ∈ L, q ∈ L0 := fun q hq => by rw [hL0]; exact .tail _ hq
  have hx3 : L0[0]? = some (x3, Obj.cells (suC k a b g) 23 (0, 0)) := by rw [hL0]; rfl
  rw [← hL0]
  repeat (first | (refine WL_Q ?_; (first | refine QW_a ?_ | refine QW_of (Qt_ldX rfl (hn := by with_reducible assumption)) ?_)) | refine WL_nil ?_ | refine WC_seq ?_ | refine WC_block ?_ | refine WC_cond_t (ht := ?_) | refine WC_cond_f (he := ?_) | refine WC_skip ?_ | refine WC_ret ?_ | refine WC_exit ?_ | refine WG 3 ?_)
  refine WL_op rfl (OW_call rfl (hF := set_fn hk ha hb hg (hv.mem hLL) hs) (hk := ?_))
  rintro _ _ ⟨tb, S, G, tv, last, rs, rfl, rfl, hTab, hIn, hrl, hla⟩
  obtain ⟨F0, hF0⟩ : ∃ F0, F0 = S ++ (G ++ L0) := ⟨_, rfl⟩
  have hLF0 : L.Sublist F0 := by rw [hF0, hL0]; exact (List.Sublist.cons _ (.refl _)).trans ((List.sublist_append_right _ _).trans (List.sublist_append_right _ _))
  have hL0F : ∀ q ∈ L0, q ∈ F0 := fun q hq => by rw [hF0]; exact List.mem_append_right _ (List.mem_append_right _ hq)
  have ht : TabIn tb F0 tv := hTab.tabIn (fun q hq => by rw [hF0]; exact List.mem_append_left _ hq) (fun q hq => by rw [hF0]; exact List.mem_append_right _ (List.mem_append_left _ hq))
  have hok := opS_ok k a b g
  have hcl := opS_cls k a b g
  have hcl2 : clsF (opS k a b g).1 = 1 ∨ clsF (opS k a b g).1 = 2 := by rw [hcl]; split <;> simp
  obtain ⟨c, hc⟩ : ∃ c, c = (⟨opS k a b g, rs⟩ : PtV) := ⟨_, rfl⟩
  have hN : NodeIn tv 1 c := by rw [hc]; exact hIn.node hrl
  have hO : PtOk c := by rw [hc]; exact hIn.part hla hok hcl2
  have hM : c.rs.length ≤ 4 := by rw [hc]; exact hrl
  have hc0 : c.cls ≠ 0 := by rcases hO.cls with h | h <;> rw [h] <;> decide
  rw [← hF0]
  repeat (first | (refine WL_Q ?_; (first | refine QW_a ?_ | refine QW_of (Qt_ldX rfl (hn := by with_reducible assumption)) ?_)) | refine WL_nil ?_ | refine WC_seq ?_ | refine WC_block ?_ | refine WC_cond_t (ht := ?_) | refine WC_cond_f (he := ?_) | refine WC_skip ?_ | refine WC_ret ?_ | refine WC_exit ?_ | refine WG 3 ?_ | refine WG 4 ?_ | refine WG 6 ?_)
  obtain ⟨ws, hws⟩ : ∃ ws, ws = us.take 60 := ⟨_, rfl⟩
  have hwv := (puL_first hw 60).mem fun q hq => hL0F q (hLL q hq)
  have hwu : ∀ x ∈ ws, PuR x := fun x hx => hu x (List.mem_of_mem_take (hws ▸ hx))
  have hw60 : ws.length ≤ 60 := by rw [hws, List.length_take]; omega
  have hwl : (if (60 : Int) < ((us.length : Nat) : Int) then (60 : Int) else ((us.length : Nat) : Int)).toNat = ws.length := by
    rw [hws, List.length_take]
    split <;> omega
  rw [← hws] at hwv
  rw [hwl]
  refine WC_wk [(7, .pointer (some ⟨tb, 0, none⟩)), (2, .slice wa ws.length wcap)] ⟨rfl, rfl, trivial⟩ ?_
  repeat (first | (refine WL_Q ?_; (first | refine QW_a ?_ | refine QW_of (Qt_ldX rfl (hn := by with_reducible assumption)) ?_)) | refine WL_nil ?_ | refine WC_seq ?_ | refine WC_block ?_ | refine WC_cond_t (ht := ?_) | refine WC_cond_f (he := ?_) | refine WC_skip ?_ | refine WC_ret ?_ | refine WC_exit ?_ | refine WG 7 ?_)
  refine WL_op rfl (OW_call rfl (hF := partNew_fn ht hN hc0) (hk := ?_))
  rintro _ _ ⟨pa, ma, SA, rfl, rfl, hA⟩
  repeat (first | (refine WL_Q ?_; (first | refine QW_a ?_ | refine QW_of (Qt_ldX rfl (hn := by with_reducible assumption)) ?_)) | refine WL_nil ?_ | refine WC_seq ?_ | refine WC_block ?_ | refine WC_cond_t (ht := ?_) | refine WC_cond_f (he := ?_) | refine WC_skip ?_ | refine WC_ret ?_ | refine WC_exit ?_ | refine WG 7 ?_)
  refine WL_op rfl (OW_call rfl (hF := partNew_fn (ht.mem fun q hq => List.mem_append_right _ hq) hN hc0) (hk := ?_))
  rintro _ _ ⟨pb, mb, SB, rfl, rfl, hB⟩
  repeat (first | (refine WL_Q ?_; (first | refine QW_a ?_ | refine QW_of (Qt_ldX rfl (hn := by with_reducible assumption)) ?_)) | refine WL_nil ?_ | refine WC_seq ?_ | refine WC_block ?_ | refine WC_cond_t (ht := ?_) | refine WC_cond_f (he := ?_) | refine WC_skip ?_ | refine WC_ret ?_ | refine WC_exit ?_ | refine WG 7 ?_)
  refine WL_op rfl (OW_call rfl (hF := partNew_fn (ht.mem fun q hq => List.mem_append_right _ (List.mem_append_right _ hq)) hN hc0) (hk := ?_))
  rintro _ _ ⟨pc, mc, SC, rfl, rfl, hC⟩
  have hA := hA.mem (G' := F0) (fun q hq => nomatch hq)
  have hB := hB.mem (G' := F0) (fun q hq => nomatch hq)
  have hC := hC.mem (G' := F0) (fun q hq => nomatch hq)
  repeat (first | ((first | refine WL_Q ?_ | refine WL_Y ?_); (first | refine QW_a ?_ | refine QW_of (Qt_ldX rfl (hn := by with_reducible assumption)) ?_)) | refine WL_nil ?_ | refine WL_un (h := ?_) | refine WL_N ?_ | refine WL_M ?_ | refine WC_seq ?_ | refine WC_block ?_ | refine WC_cond_t (ht := ?_) | refine WC_cond_f (he := ?_) | refine WC_skip ?_ | refine WC_ret ?_ | refine WC_exit ?_ | refine WG 7 ?_ | refine WG 8 ?_ | refine WG 10 ?_ | refine WG 11 ?_)
  obtain ⟨rs0, hrs0⟩ : ∃ rs0, rs0 = ws.map PuV.rcv := ⟨_, rfl⟩
  have hrl0 : rs0.length = ws.length := by rw [hrs0, List.length_map]
  have hrk : ∀ r ∈ rs0, RcOk r := by
    intro r hr
    rw [hrs0] at hr
    obtain ⟨x, hx, rfl⟩ := List.mem_map.1 hr
    exact (hwu x hx).ok
  have hr300 : ∀ r ∈ rs0, r.t < 300 := by
    intro r hr
    rw [hrs0] at hr
    obtain ⟨x, hx, rfl⟩ := List.mem_map.1 hr
    exact Int.emod_lt_of_pos x.t (b := 300) (by decide)
  have hrg : ∀ (i : Nat) (x : PuV), ws[i]? = some x → rs0[i]? = some x.rcv := fun i x h => by rw [hrs0, List.getElem?_map, h]; rfl
  refine WC_wk [(14, iV 0), (13, .slice none 0 0), (12, .slice none 0 0), (11, .slice none 0 0), (10, .pointer (some ⟨pc, 0, none⟩)), (9, .pointer (some ⟨pb, 0, none⟩)), (8, .pointer (some ⟨pa, 0, none⟩)), (2, .slice wa ws.length wcap)] ⟨rfl, rfl, rfl, rfl, rfl, rfl, rfl, rfl, trivial⟩ ?_
  refine WC_permT (L' := SA ++ (SB ++ ([] ++ ([] ++ (SC ++ F0))))) (by
      classical
      rw [List.perm_iff_count]
      intro q
      simp only [List.count_append, List.count_nil]
      omega) ?_
  refine WC_loop (fun m σ => ∃ (i : Nat) (SA SB Bx By F : List (Nat × Obj)) (lA lB : List EnV) (X Y : List OutV) (vx vy : Value), m = ws.length - i ∧ i ≤ ws.length ∧ F0.Sublist F ∧ PtAt pa ma tb 1 c.cls SA F lA ∧ PtAt pb mb tb 1 c.cls SB F lB ∧ Runs c (-1) (rs0.take i) lA X ∧ Runs c (-1) (rs0.reverse.take i) lB Y ∧ Buf 35 6 vx Bx X.length (rcL X) ∧ Buf 35 6 vy By Y.length (rcL Y) ∧ σ = ⟨[(14, iV (i : Int)), (13, .slice none 0 0), (12, vy), (11, vx), (10, .pointer (some ⟨pc, 0, none⟩)), (9, .pointer (some ⟨pb, 0, none⟩)), (8, .pointer (some ⟨pa, 0, none⟩)), (2, .slice wa ws.length wcap)], [], SA ++ (SB ++ (Bx ++ (By ++ (SC ++ F))))⟩) ws.length ⟨0, SA, SB, [], [], F0, [], [], [], [], _, _, rfl, Nat.zero_le _, .refl _, hA, hB, Runs.begin_ _, Runs.begin_ _, Buf.nil _ _, Buf.nil _ _, rfl⟩ ?_
  clear hA hB
  rintro _ σ ⟨i, SA, SB, Bx, By, F, lA, lB, X, Y, vx, vy, rfl, hil, hFs, hA, hB, hXr, hYr, hbx, hby, rfl⟩
  have hF : ∀ q ∈ F0, q ∈ F := fun q hq => hFs.subset hq
  by_cases hgo : i < ws.length
  rotate_left
  · obtain rfl : i = ws.length := by omega
    have d1 : decide (((ws.length : Nat) : Int) < ((ws.length : Nat) : Int)) = false := decide_eq_false (by omega)
    repeat (first | (refine WL_Q ?_; (first | refine QW_a ?_ | refine QW_of (Qt_ldX rfl (hn := by with_reducible assumption)) ?_)) | refine WL_nil ?_ | refine WC_seq ?_ | refine WC_block ?_ | refine WC_cond_t (ht := ?_) | refine WC_cond_f (he := ?_) | refine WC_skip ?_ | refine WC_ret ?_ | refine WC_exit ?_ | refine WG 12 ?_ | refine WG 16 ?_)
    rw [List.take_of_length_le (by omega)] at hXr
    rw [List.take_of_length_le (by rw [List.length_reverse]; omega)] at hYr
    obtain ⟨F1, hF1⟩ : ∃ F1, F1 = SA ++ (SB ++ (Bx ++ (By ++ F))) := ⟨_, rfl⟩
    have hFF1 : ∀ q ∈ F, q ∈ F1 := fun q hq => by rw [hF1]; simp only [List.mem_append]; exact .inr (.inr (.inr (.inr hq)))
    refine WC_wk [(15, iV 0), (13, .slice none 0 0), (12, vy), (11, vx), (10, .pointer (some ⟨pc, 0, none⟩)), (9, .pointer (some ⟨pb, 0, none⟩)), (8, .pointer (some ⟨pa, 0, none⟩)), (2, .slice wa ws.length wcap)] ⟨rfl, rfl, rfl, rfl, rfl, rfl, rfl, rfl, trivial⟩ ?_
    refine WC_permT (L' := SC ++ ([] ++ F1)) (by rw [hF1]; exact (by
      classical
      rw [List.perm_iff_count]
      intro q
      simp only [List.count_append, List.count_nil]
      omega)) ?_
    refine WC_loop (fun m σ => ∃ (j : Nat) (SC Bz X : List (Nat × Obj)) (lC : List EnV) (P : List RcV) (Z : List OutV) (vz : Value), m = 6 - j ∧ j ≤ 6 ∧ PtAt pc mc tb 1 c.cls SC (X ++ F) lC ∧ Runs c (50 * (j : Int)) P lC Z ∧ P.Perm (rs0.filter fun r => decide (r.t < 50 * (j : Int))) ∧ Buf 35 6 vz Bz Z.length (rcL Z) ∧ σ = ⟨[(15, iV (50 * (j : Int))), (13, vz), (12, vy), (11, vx), (10, .pointer (some ⟨pc, 0, none⟩)), (9, .pointer (some ⟨pb, 0, none⟩)), (8, .pointer (some ⟨pa, 0, none⟩)), (2, .slice wa ws.length wcap)], [], SC ++ (Bz ++ (X ++ F1))⟩) 6 ⟨0, SC, [], [], [], [], [], _, rfl, Nat.zero_le _, hC.mem hF, Runs.begin_ _, ?_, Buf.nil _ _, rfl⟩ ?_
    · refine List.Perm.of_eq (List.filter_eq_nil_iff.2 fun r hr => ?_).symm
      have := (hrk r hr).t0
      simp only [decide_eq_true_eq]
      omega
    clear hC
    rintro _ σ ⟨j, SC, Bz, X2, lC, P, Z, vz, rfl, hj6, hC, hZr, hPp, hbz, rfl⟩
    by_cases hgo : j < 6
    rotate_left
    · obtain rfl : j = 6 := by omega
      have d1 : decide (50 * ((6 : Nat) : Int) < 300) = false := by decide
      have hPa : P.Perm rs0 := hPp.trans (List.Perm.of_eq (List.filter_eq_self.2 fun r hr => decide_eq_true (hr300 r hr)))
      have hPk : ∀ r ∈ P, RcOk r := fun r hr => hrk r (hPa.mem_iff.1 hr)
      have hPl := hPa.length_eq
      refine WC_permT (L' := SA ++ (SB ++ (Bx ++ (By ++ (SC ++ (Bz ++ (X2 ++ F))))))) (by rw [hF1]; exact (by
      classical
      rw [List.perm_iff_count]
      intro q
      simp only [List.count_append]
      omega)) ?_
      repeat (first | (refine WL_Q ?_; (first | refine QW_a ?_ | refine QW_of (Qt_ldX rfl (hn := by with_reducible assumption)) ?_)) | refine WL_nil ?_ | refine WC_seq ?_ | refine WC_block ?_ | refine WC_cond_t (ht := ?_) | refine WC_cond_f (he := ?_) | refine WC_skip ?_ | refine WC_ret ?_ | refine WC_exit ?_ | refine WG 17 ?_ | refine WG 26 ?_)
      refine WL_op rfl (OW_call rfl (hF := drainRun_fn hA (ht.mem hF) hN (fun q hq => by simp only [List.mem_append]; exact .inr (.inr (.inr (.inr (.inr (.inr hq)))))) hO hM hXr (by decide) (by omega) hrk) (hk := ?_))
      rintro _ _ ⟨SA', TA, oA, lA', rfl, hA', hva, hXr', hXl, hlA⟩
      obtain rfl := hlA rfl
      obtain ⟨_, oa, oc, rfl, _, _, _⟩ := id hva
      obtain ⟨xa, xc, rfl, _, _⟩ := id hbx.val
      refine WL_permN (L' := (SA' ++ (TA ++ SB)) ++ (Bx ++ (By ++ (SC ++ (Bz ++ (X2 ++ F)))))) (by
      classical
      rw [List.perm_iff_count]
      intro q
      simp only [List.count_append]
      omega) ?_
      refine WL_op rfl (OW_append_bufM rfl rfl rfl rfl rfl hbx (srcVec (sz := 6) (hva.vec fun q hq => List.mem_append_left _ (List.mem_append_right _ (List.mem_append_left _ hq))) rcL_one) (rcL_len _) (by simp only [maxLen]; omega) (by omega) ?_)
      intro vx' Bx' hbx'
      rw [← rcL_append, ← List.length_append] at hbx'
      repeat (first | (refine WL_Q ?_; (first | refine QW_a ?_ | refine QW_of (Qt_ldX rfl (hn := by with_reducible assumption)) ?_)) | refine WL_nil ?_ | refine WC_seq ?_ | refine WC_block ?_ | refine WC_cond_t (ht := ?_) | refine WC_cond_f (he := ?_) | refine WC_skip ?_ | refine WC_ret ?_ | refine WC_exit ?_ | refine WG 26 ?_ | refine WG 27 ?_)
      refine WL_permN (L' := SB ++ (By ++ (SA' ++ (TA ++ (Bx' ++ (SC ++ (Bz ++ (X2 ++ F)))))))) (by
      classical
      rw [List.perm_iff_count]
      intro q
      simp only [List.count_append]
      omega) ?_
      refine WL_op rfl (OW_call rfl (hF := drainRun_fn hB (ht.mem hF) hN (fun q hq => by simp only [List.mem_append]; exact .inr (.inr (.inr (.inr (.inr (.inr (.inr hq))))))) hO hM hYr (by decide) (by rw [List.length_reverse]; omega) (fun r hr => hrk r (List.mem_reverse.1 hr))) (hk := ?_))
      rintro _ _ ⟨SB', TB, oB, lB', rfl, hB', hvb, hYr', hYl, hlB⟩
      obtain ⟨_, ob, od, rfl, _, _, _⟩ := id hvb
      obtain ⟨ya, yc, rfl, _, _⟩ := id hby.val
      refine WL_permN (L' := (SB' ++ TB) ++ (By ++ (SA' ++ (TA ++ (Bx' ++ (SC ++ (Bz ++ (X2 ++ F)))))))) (by
      classical
      rw [List.perm_iff_count]
      intro q
      simp only [List.count_append]
      omega) ?_
      refine WL_op rfl (OW_append_bufM rfl rfl rfl rfl rfl hby (srcVec (sz := 6) (hvb.vec fun q hq => List.mem_append_left _ (List.mem_append_right _ hq)) rcL_one) (rcL_len _) (by simp only [maxLen]; omega) (by omega) ?_)
      intro vy' By' hby'
      rw [← rcL_append, ← List.length_append] at hby'
      repeat (first | (refine WL_Q ?_; (first | refine QW_a ?_ | refine QW_of (Qt_ldX rfl (hn := by with_reducible assumption)) ?_)) | refine WL_nil ?_ | refine WC_seq ?_ | refine WC_block ?_ | refine WC_cond_t (ht := ?_) | refine WC_cond_f (he := ?_) | refine WC_skip ?_ | refine WC_ret ?_ | refine WC_exit ?_ | refine WG 27 ?_ | refine WG 28 ?_)
      refine WL_permN (L' := SC ++ (Bz ++ (SA' ++ (TA ++ (Bx' ++ (SB' ++ (TB ++ (By' ++ (X2 ++ F))))))))) (by
      classical
      rw [List.perm_iff_count]
      intro q
      simp only [List.count_append]
      omega) ?_
      refine WL_op rfl (OW_call rfl (hF := drainRun_fn hC (ht.mem fun q hq => List.mem_append_right _ (hF q hq)) hN (fun q hq => by
        simp only [List.mem_append] at hq ⊢
        exact .inr (.inr (.inr (.inr (.inr (.inr (.inr hq))))))) hO hM hZr (by decide) (by omega) hPk) (hk := ?_))
      rintro _ _ ⟨SC', TC, oC, lC', rfl, hC', hvc, hZr', hZl, hlC⟩
      obtain ⟨_, oc1, oc2, rfl, _, _, _⟩ := id hvc
      obtain ⟨za, zc, rfl, _, _⟩ := id hbz.val
      refine WL_permN (L' := (SC' ++ TC) ++ (Bz ++ (SA' ++ (TA ++ (Bx' ++ (SB' ++ (TB ++ (By' ++ (X2 ++ F))))))))) (by
      classical
      rw [List.perm_iff_count]
      intro q
      simp only [List.count_append]
      omega) ?_
      refine WL_op rfl (OW_append_bufM rfl rfl rfl rfl rfl hbz (srcVec (sz := 6) (hvc.vec fun q hq => List.mem_append_left _ (List.mem_append_right _ hq)) rcL_one) (rcL_len _) (by simp only [maxLen]; omega) (by omega) ?_)
      intro vz' Bz' hbz'
      rw [← rcL_append, ← List.length_append] at hbz'
      obtain ⟨xa', xc', rfl, _, _⟩ := id hbx'.val
      obtain ⟨ya', yc', rfl, _, _⟩ := id hby'.val
      obtain ⟨za', zc', rfl, _, _⟩ := id hbz'.val
      refine WL_permN (L' := SA' ++ (Bx' ++ (By' ++ (Bz' ++ (SC' ++ (TC ++ (TA ++ (SB' ++ (TB ++ (X2 ++ F)))))))))) (by
      classical
      rw [List.perm_iff_count]
      intro q
      simp only [List.count_append]
      omega) ?_
      have hxy := (Runs.same hO (List.reverse_perm rs0).symm hXr' hYr').2
      have hxz := (Runs.same hO hPa.symm hXr' hZr').2
      have hsl : (X ++ oA).length ≤ 1000000 := by rw [List.length_append]; omega
      obtain ⟨M, hMM⟩ : ∃ M, M = SA' ++ (Bx' ++ (By' ++ (Bz' ++ (SC' ++ (TC ++ (TA ++ (SB' ++ (TB ++ (X2 ++ F))))))))) := ⟨_, rfl⟩
      have hs1 := same_fn (F := M) (hbx'.vecM.mem fun q hq => by rw [hMM]; simp only [List.mem_append]; exact .inr (.inl hq)) (hby'.vecM.mem fun q hq => by rw [hMM]; simp only [List.mem_append]; exact .inr (.inr (.inl hq))) hxy hsl
      have hs2 := same_fn (F := M) (hbx'.vecM.mem fun q hq => by rw [hMM]; simp only [List.mem_append]; exact .inr (.inl hq)) (hbz'.vecM.mem fun q hq => by rw [hMM]; simp only [List.mem_append]; exact .inr (.inr (.inr (.inl hq)))) hxz hsl
      have hLM : L.Sublist M := by
        rw [hMM]
        refine (hLF0.trans hFs).trans ?_
        simp only [← List.append_assoc]
        exact List.sublist_append_right _ _
      have hln : Fn Tryz.prog 12 [.pointer (some ⟨pa, 0, none⟩)] M (fun v L' => v = iV 0 ∧ L' = M) := by rw [hMM]; exact partLen_fn hA'
      rw [← hMM]
      repeat (first | ((first | refine WL_Q ?_ | refine WL_Y ?_); (first | refine QW_a ?_ | refine QW_of (Qt_ldX rfl (hn := by with_reducible assumption)) ?_)) | ((first | refine WL_op rfl ?_ | refine WL_yes (h := ?_)); (first | refine OW_callP rfl (hF := hs1) (hk := ?_))) | refine WL_nil ?_ | refine WL_un (h := ?_) | refine WL_N ?_ | refine WL_M ?_ | refine WC_seq ?_ | refine WC_block ?_ | refine WC_cond_t (ht := ?_) | refine WC_cond_f (he := ?_) | refine WC_skip ?_ | refine WC_ret ?_ | refine WC_exit ?_ | refine WG 28 ?_ | refine WG 29 ?_)
      repeat (first | ((first | refine WL_Q ?_ | refine WL_Y ?_); (first | refine QW_a ?_ | refine QW_of (Qt_ldX rfl (hn := by with_reducible assumption)) ?_)) | ((first | refine WL_op rfl ?_ | refine WL_yes (h := ?_)); (first | refine OW_callP rfl (hF := hs1) (hk := ?_) | refine OW_callP rfl (hF := hs2) (hk := ?_) | refine OW_callP rfl (hF := hln) (hk := ?_))) | refine WL_nil ?_ | refine WL_un (h := ?_) | refine WL_N ?_ | refine WL_M ?_ | refine WC_seq ?_ | refine WC_block ?_ | refine WC_cond_t (ht := ?_) | refine WC_cond_f (he := ?_) | refine WC_skip ?_ | refine WC_ret ?_ | refine WC_exit ?_ | refine WG 29 ?_)
      exact ⟨rfl, _, L, Res1 rfl (resV_tmp rfl), hLM, rfl, rfl⟩
    have d1 : decide (50 * ((j : Nat) : Int) < 300) = true := decide_eq_true (by omega)
    repeat (first | (refine WL_Q ?_; (first | refine QW_a ?_ | refine QW_of (Qt_ldX rfl (hn := by with_reducible assumption)) ?_)) | refine WL_nil ?_ | refine WC_seq ?_ | refine WC_block ?_ | refine WC_cond_t (ht := ?_) | refine WC_cond_f (he := ?_) | refine WC_skip ?_ | refine WC_ret ?_ | refine WC_exit ?_ | refine WG 17 ?_ | refine WG 19 ?_)
    refine WC_wk [(16, iV 0), (15, iV (50 * (j : Int))), (13, vz), (12, vy), (11, vx), (10, .pointer (some ⟨pc, 0, none⟩)), (9, .pointer (some ⟨pb, 0, none⟩)), (8, .pointer (some ⟨pa, 0, none⟩)), (2, .slice wa ws.length wcap)] ⟨rfl, rfl, rfl, rfl, rfl, rfl, rfl, rfl, rfl, trivial⟩ ?_
    refine WC_loop (fun m σ => ∃ (i : Nat) (SC Bz X : List (Nat × Obj)) (lC : List EnV) (P : List RcV) (Z : List OutV) (vz : Value), m = ws.length - i ∧ i ≤ ws.length ∧ PtAt pc mc tb 1 c.cls SC (X ++ F) lC ∧ Runs c (50 * (j : Int)) P lC Z ∧ P.Perm ((rs0.filter fun r => decide (r.t < 50 * (j : Int))) ++ (rs0.take i).filter fun r => decide (50 * (j : Int) ≤ r.t ∧ r.t < 50 * (j : Int) + 50)) ∧ Buf 35 6 vz Bz Z.length (rcL Z) ∧ σ = ⟨[(16, iV (i : Int)), (15, iV (50 * (j : Int))), (13, vz), (12, vy), (11, vx), (10, .pointer (some ⟨pc, 0, none⟩)), (9, .pointer (some ⟨pb, 0, none⟩)), (8, .pointer (some ⟨pa, 0, none⟩)), (2, .slice wa ws.length wcap)], [], SC ++ (Bz ++ (X ++ F1))⟩) ws.length ⟨0, SC, Bz, X2, lC, P, Z, vz, rfl, Nat.zero_le _, hC, hZr, by rw [List.take_zero, List.filter_nil, List.append_nil]; exact hPp, hbz, rfl⟩ ?_
    clear hC hZr hPp hbz
    rintro _ σ ⟨i, SC, Bz, X2, lC, P, Z, vz, rfl, hil, hC, hZr, hPp, hbz, rfl⟩
    have hG2 : ∀ q ∈ X2 ++ F, q ∈ X2 ++ F1 := fun q hq => by
      rcases List.mem_append.1 hq with hq | hq
      · exact List.mem_append_left _ hq
      · exact List.mem_append_right _ (hFF1 q hq)
    have hP60 : ∀ i, ((rs0.filter fun r => decide (r.t < 50 * (j : Int))) ++ (rs0.take i).filter fun r => decide (50 * (j : Int) ≤ r.t ∧ r.t < 50 * (j : Int) + 50)).length ≤ 60 := fun i => by
      have h1 := (below_next rs0 (50 * (j : Int))).length_eq
      have h2 := List.length_filter_le (fun r : RcV => decide (r.t < 50 * (j : Int) + 50)) rs0
      have h3 := ((List.take_sublist i rs0).filter fun r : RcV => decide (50 * (j : Int) ≤ r.t ∧ r.t < 50 * (j : Int) + 50)).length_le
      rw [List.length_append] at h1 ⊢
      omega
    have hPk : ∀ r ∈ P, RcOk r := fun r hr => by
      rcases List.mem_append.1 (hPp.mem_iff.1 hr) with h | h
      · exact hrk r (List.mem_filter.1 h).1
      · exact hrk r (List.mem_of_mem_take (List.mem_filter.1 h).1)
    have wt : IntKind.i64.wrap (50 * ((j : Nat) : Int) + 50) = 50 * ((j : Nat) : Int) + 50 := wI64 (by omega) (by omega)
    by_cases hgo : i < ws.length
    rotate_left
    · obtain rfl : i = ws.length := by omega
      have d2 : decide (((ws.length : Nat) : Int) < ((ws.length : Nat) : Int)) = false := decide_eq_false (by omega)
      repeat (first | (refine WL_Q ?_; (first | refine QW_a ?_ | refine QW_of (Qt_ldX rfl (hn := by with_reducible assumption)) ?_)) | refine WL_nil ?_ | refine WC_seq ?_ | refine WC_block ?_ | refine WC_cond_t (ht := ?_) | refine WC_cond_f (he := ?_) | refine WC_skip ?_ | refine WC_ret ?_ | refine WC_exit ?_ | refine WG 20 ?_ | refine WG 25 ?_)
      rw [wt]
      rw [List.take_of_length_le (by omega)] at hPp
      have hPq := hPp.trans (below_next rs0 (50 * (j : Int)))
      have hPn : P.length ≤ 60 := by
        have h1 := List.length_filter_le (fun r : RcV => decide (r.t < 50 * (j : Int) + 50)) rs0
        rw [hPq.length_eq]
        omega
      refine WL_op rfl (OW_call rfl (hF := drainRun_fn hC (ht.mem fun q hq => List.mem_append_right _ (hF q hq)) hN (fun q hq => List.mem_append_right _ (hG2 q hq)) hO hM hZr (by omega) hPn hPk) (hk := ?_))
      rintro _ _ ⟨SC', TC, oC, lC', rfl, hC', hvc, hZr', hZl, -⟩
      obtain ⟨_, oc1, oc2, rfl, _, _, _⟩ := id hvc
      obtain ⟨za, zc, rfl, _, _⟩ := id hbz.val
      refine WL_permN (L' := (SC' ++ TC) ++ (Bz ++ (X2 ++ F1))) (by
      classical
      rw [List.perm_iff_count]
      intro q
      simp only [List.count_append]
      omega) ?_
      refine WL_op rfl (OW_append_bufM rfl rfl rfl rfl rfl hbz (srcVec (sz := 6) (hvc.vec fun q hq => List.mem_append_left _ (List.mem_append_right _ hq)) rcL_one) (rcL_len _) (by simp only [maxLen]; omega) (by omega) ?_)
      intro vz' Bz' hbz'
      rw [← rcL_append, ← List.length_append] at hbz'
      refine WL_permN (L' := SC' ++ (Bz' ++ ((TC ++ X2) ++ F1))) (by
      classical
      rw [List.perm_iff_count]
      intro q
      simp only [List.count_append]
      omega) ?_
      repeat (first | (refine WL_Q ?_; (first | refine QW_a ?_ | refine QW_of (Qt_ldX rfl (hn := by with_reducible assumption)) ?_)) | refine WL_nil ?_ | refine WC_seq ?_ | refine WC_block ?_ | refine WC_cond_t (ht := ?_) | refine WC_cond_f (he := ?_) | refine WC_skip ?_ | refine WC_ret ?_ | refine WC_exit ?_ | refine WG 25 ?_ | refine WG 18 ?_)
      have wn : 50 * (j : Int) + 50 = 50 * ((j + 1 : Nat) : Int) := by omega
      rw [wt, wn]
      rw [wn] at hZr' hPq
      exact ⟨_, _, by omega, ⟨j + 1, SC', Bz', TC ++ X2, lC', P, Z ++ oC, vz', rfl, by omega, by rw [List.append_assoc]; exact hC', hZr', hPq, hbz', rfl⟩, ⟨rfl, rfl, rfl, rfl, rfl, rfl, rfl, rfl, trivial⟩, rfl, .refl _⟩
    have d2 : decide ((i : Int) < ((ws.length : Nat) : Int)) = true := decide_eq_true (by omega)
    obtain ⟨x, hxw⟩ : ∃ x, ws[i]? = some x := ⟨_, List.getElem?_eq_getElem hgo⟩
    have hxr := hwu x (List.mem_of_getElem? hxw)
    obtain ⟨L1, hL1⟩ : ∃ L1, L1 = SC ++ (Bz ++ (X2 ++ F1)) := ⟨_, rfl⟩
    obtain ⟨b1, f1, _, c1, E1, fr1, iA, e1, _, _, hiA, hx1⟩ := hwv.cell (by omega)
    cases e1
    have hb0 := hFF1 _ (hF _ (List.mem_of_getElem? hiA))
    obtain ⟨i1, hi1⟩ := List.mem_iff_getElem?.1 (show (b1, Obj.cells c1 E1 fr1) ∈ L1 by rw [hL1]; simp only [List.mem_append]; exact .inr (.inr (.inr hb0)))
    obtain ⟨u1, y1⟩ := puL_ext (k := i) hx1 hxw
    have p0 : (0 : Int) ≤ (i : Int) := by omega
    have p1 : ((i : Nat) : Int) < ((ws.length : Nat) : Int) := by omega
    have u1 : c1.extract (f1 + ((i : Nat) : Int).toNat * 4) (f1 + ((i : Nat) : Int).toNat * 4 + 4) = (puC x).toArray := by rw [Int.toNat_natCast]; exact u1
    have y1 : f1 + ((i : Nat) : Int).toNat * 4 + 4 ≤ c1.size := by rw [Int.toNat_natCast]; exact y1
    rw [← hL1]
    repeat (first | (refine WL_Q ?_; (first | refine QW_a ?_ | refine QW_of (Qt_ldX rfl (hn := by with_reducible assumption)) ?_)) | (refine WL_op rfl ?_; (first | refine OW_alloc rfl (hk := fun _ => ?_) | refine OW_stA rfl ?_ | refine OW_stN rfl ?_)) | refine WL_nil ?_ | refine WC_seq ?_ | refine WC_block ?_ | refine WC_cond_t (ht := ?_) | refine WC_cond_f (he := ?_) | refine WC_skip ?_ | refine WC_ret ?_ | refine WC_exit ?_ | refine WG 20 ?_ | refine WG 22 ?_)
    rw [u1]
    have hrec := puRec_fn hxr (L := L1)
    repeat (first | (refine WL_Q ?_; (first | refine QW_a ?_ | refine QW_of (Qt_ldX rfl (hn := by with_reducible assumption)) ?_)) | (refine WL_op rfl ?_; (first | refine OW_alloc rfl (hk := fun _ => ?_) | refine OW_stA rfl ?_ | refine OW_stN rfl ?_ | refine OW_callP rfl (hF := hrec) (hk := ?_))) | refine WL_nil ?_ | refine WC_seq ?_ | refine WC_block ?_ | refine WC_cond_t (ht := ?_) | refine WC_cond_f (he := ?_) | refine WC_skip ?_ | refine WC_ret ?_ | refine WC_exit ?_ | refine WG 22 ?_)
    rename_i x17
    have wi : IntKind.i64.wrap ((i : Int) + 1) = ((i + 1 : Nat) : Int) := by rw [wI64 (by omega) (by omega)]; omega
    have hthN : ¬(50 * (j : Int) ≤ x.rcv.t ∧ x.rcv.t < 50 * (j : Int) + 50) → ((rs0.take (i + 1)).filter fun r => decide (50 * (j : Int) ≤ r.t ∧ r.t < 50 * (j : Int) + 50)) = (rs0.take i).filter fun r => decide (50 * (j : Int) ≤ r.t ∧ r.t < 50 * (j : Int) + 50) := fun h => by
      rw [List.take_add_one, hrg i x hxw, List.filter_append, Option.toList_some, List.filter_cons_of_neg (by rw [decide_eq_true_eq]; exact h), List.filter_nil, List.append_nil]
    have hthY : (50 * (j : Int) ≤ x.rcv.t ∧ x.rcv.t < 50 * (j : Int) + 50) → ((rs0.take (i + 1)).filter fun r => decide (50 * (j : Int) ≤ r.t ∧ r.t < 50 * (j : Int) + 50)) = ((rs0.take i).filter fun r => decide (50 * (j : Int) ≤ r.t ∧ r.t < 50 * (j : Int) + 50)) ++ [x.rcv] := fun h => by
      rw [List.take_add_one, hrg i x hxw, List.filter_append, Option.toList_some, List.filter_cons_of_pos (by rw [decide_eq_true_eq]; exact h), List.filter_nil]
    by_cases hge : 50 * (j : Int) ≤ x.rcv.t
    rotate_left
    · have d3 : decide (50 * (j : Int) ≤ x.rcv.t) = false := decide_eq_false hge
      repeat (first | ((first | refine WL_Q ?_ | refine WL_Y ?_); (first | refine QW_a ?_ | refine QW_of (Qt_ldX rfl (hn := by with_reducible assumption)) ?_)) | refine WL_nil ?_ | refine WL_un (h := ?_) | refine WL_N ?_ | refine WL_M ?_ | refine WC_seq ?_ | refine WC_block ?_ | refine WC_cond_t (ht := ?_) | refine WC_cond_f (he := ?_) | refine WC_skip ?_ | refine WC_ret ?_ | refine WC_exit ?_ | refine WG 23 ?_ | refine WG 21 ?_)
      rw [wi]
      exact ⟨_, _, by omega, ⟨i + 1, SC, Bz, X2, lC, P, Z, vz, rfl, by omega, hC, hZr, by rw [hthN (by omega)]; exact hPp, hbz, rfl⟩, ⟨rfl, rfl, rfl, rfl, rfl, rfl, rfl, rfl, rfl, trivial⟩, rfl, by rw [hL1]; exact .cons _ (.refl _)⟩
    have d3 : decide (50 * (j : Int) ≤ x.rcv.t) = true := decide_eq_true hge
    by_cases hlt : x.rcv.t < 50 * (j : Int) + 50
    rotate_left
    · have d4 : decide (x.rcv.t < IntKind.i64.wrap (50 * (j : Int) + 50)) = false := decide_eq_false (by rw [wt]; exact hlt)
      repeat (first | ((first | refine WL_Q ?_ | refine WL_Y ?_); (first | refine QW_a ?_ | refine QW_of (Qt_ldX rfl (hn := by with_reducible assumption)) ?_)) | refine WL_nil ?_ | refine WL_un (h := ?_) | refine WL_N ?_ | refine WL_M ?_ | refine WC_seq ?_ | refine WC_block ?_ | refine WC_cond_t (ht := ?_) | refine WC_cond_f (he := ?_) | refine WC_skip ?_ | refine WC_ret ?_ | refine WC_exit ?_ | refine WG 23 ?_ | refine WG 21 ?_)
      rw [wi]
      exact ⟨_, _, by omega, ⟨i + 1, SC, Bz, X2, lC, P, Z, vz, rfl, by omega, hC, hZr, by rw [hthN (by omega)]; exact hPp, hbz, rfl⟩, ⟨rfl, rfl, rfl, rfl, rfl, rfl, rfl, rfl, rfl, trivial⟩, rfl, by rw [hL1]; exact .cons _ (.refl _)⟩
    have d4 : decide (x.rcv.t < IntKind.i64.wrap (50 * (j : Int) + 50)) = true := decide_eq_true (by rw [wt]; exact hlt)
    repeat (first | ((first | refine WL_Q ?_ | refine WL_Y ?_); (first | refine QW_a ?_ | refine QW_of (Qt_ldX rfl (hn := by with_reducible assumption)) ?_)) | refine WL_nil ?_ | refine WL_un (h := ?_) | refine WL_N ?_ | refine WL_M ?_ | refine WC_seq ?_ | refine WC_block ?_ | refine WC_cond_t (ht := ?_) | refine WC_cond_f (he := ?_) | refine WC_skip ?_ | refine WC_ret ?_ | refine WC_exit ?_ | refine WG 23 ?_ | refine WG 24 ?_)
    obtain ⟨X3, hX3⟩ : ∃ X3, X3 = (x17, Obj.cells (rcI x.rcv.key x.rcv.t x.rcv.val x.s) 35 (0, 0)) :: X2 := ⟨_, rfl⟩
    refine WL_permN (L' := SC ++ (Bz ++ (X3 ++ F1))) (by rw [hX3, hL1]; exact ((List.perm_middle (l₁ := Bz)).append_left SC).trans List.perm_middle) ?_
    have hG3 : ∀ q ∈ X3 ++ F, q ∈ X3 ++ F1 := fun q hq => by
      rcases List.mem_append.1 hq with hq | hq
      · exact List.mem_append_left _ hq
      · exact List.mem_append_right _ (hFF1 q hq)
    have hC := hC.mem (G' := X3 ++ F) fun q hq => by rw [hX3]; exact .tail _ hq
    have hPlt : P.length < 60 := by
      have h1 := hP60 (i + 1)
      rw [hthY ⟨hge, hlt⟩, ← List.append_assoc, List.length_append, ← hPp.length_eq, List.length_singleton] at h1
      omega
    refine WL_op rfl (OW_call rfl (hF := putRun_fn hxr hC (ht.mem fun q hq => List.mem_append_right _ (hF q hq)) hN (fun q hq => List.mem_append_right _ (hG3 q hq)) hO hM hZr hge hPlt hPk) (hk := ?_))
    rintro _ _ ⟨SC', TC, oC, lC', rfl, hC', hvc, hZr', hZl⟩
    obtain ⟨_, oc1, oc2, rfl, _, _, _⟩ := id hvc
    obtain ⟨za, zc, rfl, _, _⟩ := id hbz.val
    refine WL_permN (L' := (SC' ++ TC) ++ (Bz ++ (X3 ++ F1))) (by
      classical
      rw [List.perm_iff_count]
      intro q
      simp only [List.count_append]
      omega) ?_
    refine WL_op rfl (OW_append_bufM rfl rfl rfl rfl rfl hbz (srcVec (sz := 6) (hvc.vec fun q hq => List.mem_append_left _ (List.mem_append_right _ hq)) rcL_one) (rcL_len _) (by simp only [maxLen]; omega) (by omega) ?_)
    intro vz' Bz' hbz'
    rw [← rcL_append, ← List.length_append] at hbz'
    refine WL_permN (L' := SC' ++ (Bz' ++ ((TC ++ X3) ++ F1))) (by
      classical
      rw [List.perm_iff_count]
      intro q
      simp only [List.count_append]
      omega) ?_
    repeat (first | (refine WL_Q ?_; (first | refine QW_a ?_ | refine QW_of (Qt_ldX rfl (hn := by with_reducible assumption)) ?_)) | refine WL_nil ?_ | refine WC_seq ?_ | refine WC_block ?_ | refine WC_cond_t (ht := ?_) | refine WC_cond_f (he := ?_) | refine WC_skip ?_ | refine WC_ret ?_ | refine WC_exit ?_ | refine WG 24 ?_ | refine WG 21 ?_)
    rw [wi]
    exact ⟨_, _, by omega, ⟨i + 1, SC', Bz', TC ++ X3, lC', P ++ [x.rcv], Z ++ oC, vz', rfl, by omega, by rw [List.append_assoc]; exact hC', hZr', by rw [hthY ⟨hge, hlt⟩, ← List.append_assoc]; exact hPp.append_right _, hbz', rfl⟩, ⟨rfl, rfl, rfl, rfl, rfl, rfl, rfl, rfl, rfl, trivial⟩, rfl, .refl _⟩
  have d1 : decide ((i : Int) < ((ws.length : Nat) : Int)) = true := decide_eq_true (by omega)
  obtain ⟨x, hxw⟩ : ∃ x, ws[i]? = some x := ⟨_, List.getElem?_eq_getElem hgo⟩
  have hxr := hwu x (List.mem_of_getElem? hxw)
  obtain ⟨L1, hL1⟩ : ∃ L1, L1 = SA ++ (SB ++ (Bx ++ (By ++ (SC ++ F)))) := ⟨_, rfl⟩
  obtain ⟨b1, f1, _, c1, E1, fr1, iA, e1, _, _, hiA, hx1⟩ := hwv.cell (by omega)
  cases e1
  have hb0 := hF _ (List.mem_of_getElem? hiA)
  obtain ⟨i1, hi1⟩ := List.mem_iff_getElem?.1 (show (b1, Obj.cells c1 E1 fr1) ∈ L1 by rw [hL1]; simp only [List.mem_append]; exact .inr (.inr (.inr (.inr (.inr hb0)))))
  obtain ⟨u1, y1⟩ := puL_ext (k := i) hx1 hxw
  have p0 : (0 : Int) ≤ (i : Int) := by omega
  have p1 : ((i : Nat) : Int) < ((ws.length : Nat) : Int) := by omega
  have u1 : c1.extract (f1 + ((i : Nat) : Int).toNat * 4) (f1 + ((i : Nat) : Int).toNat * 4 + 4) = (puC x).toArray := by rw [Int.toNat_natCast]; exact u1
  have y1 : f1 + ((i : Nat) : Int).toNat * 4 + 4 ≤ c1.size := by rw [Int.toNat_natCast]; exact y1
  rw [← hL1]
  repeat (first | (refine WL_Q ?_; (first | refine QW_a ?_ | refine QW_of (Qt_ldX rfl (hn := by with_reducible assumption)) ?_)) | refine WL_nil ?_ | refine WC_seq ?_ | refine WC_block ?_ | refine WC_cond_t (ht := ?_) | refine WC_cond_f (he := ?_) | refine WC_skip ?_ | refine WC_ret ?_ | refine WC_exit ?_ | refine WG 12 ?_ | refine WG 14 ?_)
  rw [u1]
  have hrec := puRec_fn hxr (L := L1)
  repeat (first | (refine WL_Q ?_; (first | refine QW_a ?_ | refine QW_of (Qt_ldX rfl (hn := by with_reducible assumption)) ?_)) | (refine WL_op rfl ?_; (first | refine OW_callP rfl (hF := hrec) (hk := ?_))) | refine WL_nil ?_ | refine WC_seq ?_ | refine WC_block ?_ | refine WC_cond_t (ht := ?_) | refine WC_cond_f (he := ?_) | refine WC_skip ?_ | refine WC_ret ?_ | refine WC_exit ?_ | refine WG 14 ?_)
  rw [hL1]
  have hxp : x.rcv.t ≥ 0 := hxr.ok.t0
  refine WL_op rfl (OW_call rfl (hF := putRun_fn hxr hA (ht.mem hF) hN (fun q hq => by simp only [List.mem_append]; exact .inr (.inr (.inr (.inr hq)))) hO hM hXr (by omega) (by rw [List.length_take]; omega) fun r hr => hrk r (List.mem_of_mem_take hr)) (hk := ?_))
  rintro _ _ ⟨SA', TA, oA, lA', rfl, hA', hva, hXr', hXl⟩
  obtain ⟨_, oa, oc, rfl, _, _, _⟩ := id hva
  obtain ⟨xa, xc, rfl, _, _⟩ := id hbx.val
  refine WL_permN (L' := (SA' ++ (TA ++ SB)) ++ (Bx ++ (By ++ (SC ++ F)))) (by
      classical
      rw [List.perm_iff_count]
      intro q
      simp only [List.count_append]
      omega) ?_
  refine WL_op rfl (OW_append_bufM rfl rfl rfl rfl rfl hbx (srcVec (sz := 6) (hva.vec fun q hq => List.mem_append_left _ (List.mem_append_right _ (List.mem_append_left _ hq))) rcL_one) (rcL_len _) (by simp only [maxLen]; omega) (by omega) ?_)
  intro vx' Bx' hbx'
  rw [← rcL_append, ← List.length_append] at hbx'
  have hXr' : Runs c (-1) (rs0.take (i + 1)) lA' (X ++ oA) := by
    rw [List.take_add_one, hrg i x hxw]
    exact hXr'
  obtain ⟨F', hF'⟩ : ∃ F', F' = TA ++ F := ⟨_, rfl⟩
  have hFF' : ∀ q ∈ F, q ∈ F' := fun q hq => by rw [hF']; exact List.mem_append_right _ hq
  have hB := hB.mem hFF'
  rw [← hF'] at hA'
  refine WL_permN (L' := SB ++ (SA' ++ (Bx' ++ (By ++ (SC ++ F'))))) (by rw [hF']; exact (by
      classical
      rw [List.perm_iff_count]
      intro q
      simp only [List.count_append]
      omega)) ?_
  obtain ⟨L2, hL2⟩ : ∃ L2, L2 = SB ++ (SA' ++ (Bx' ++ (By ++ (SC ++ F')))) := ⟨_, rfl⟩
  rw [← hL2]
  repeat (first | (refine WL_Q ?_; (first | refine QW_a ?_ | refine QW_of (Qt_ldX rfl (hn := by with_reducible assumption)) ?_)) | refine WL_nil ?_ | refine WC_seq ?_ | refine WC_block ?_ | refine WC_cond_t (ht := ?_) | refine WC_cond_f (he := ?_) | refine WC_skip ?_ | refine WC_ret ?_ | refine WC_exit ?_ | refine WG 14 ?_ | refine WG 15 ?_)
  have wl : IntKind.i64.wrap (((ws.length : Nat) : Int) - 1) = ((ws.length : Nat) : Int) - 1 := wI64 (by omega) (by omega)
  have wj : IntKind.i64.wrap (IntKind.i64.wrap (((ws.length : Nat) : Int) - 1) - (i : Int)) = ((ws.length - 1 - i : Nat) : Int) := by rw [wl, wI64 (by omega) (by omega)]; omega
  obtain ⟨j, hj⟩ : ∃ j, j = ws.length - 1 - i := ⟨_, rfl⟩
  rw [← hj] at wj
  obtain ⟨y, hyw⟩ : ∃ y, ws[j]? = some y := ⟨_, List.getElem?_eq_getElem (by omega)⟩
  have hyr := hwu y (List.mem_of_getElem? hyw)
  obtain ⟨i2, hi2⟩ := List.mem_iff_getElem?.1 (show (b1, Obj.cells c1 E1 fr1) ∈ L2 by rw [hL2]; simp only [List.mem_append]; exact .inr (.inr (.inr (.inr (.inr (hFF' _ hb0))))))
  obtain ⟨u2, y2⟩ := puL_ext (k := j) hx1 hyw
  have p2 : (0 : Int) ≤ (j : Int) := by omega
  have p3 : ((j : Nat) : Int) < ((ws.length : Nat) : Int) := by omega
  have u2 : c1.extract (f1 + ((j : Nat) : Int).toNat * 4) (f1 + ((j : Nat) : Int).toNat * 4 + 4) = (puC y).toArray := by rw [Int.toNat_natCast]; exact u2
  have y2 : f1 + ((j : Nat) : Int).toNat * 4 + 4 ≤ c1.size := by rw [Int.toNat_natCast]; exact y2
  rw [wj]
  repeat (first | (refine WL_Q ?_; (first | refine QW_a ?_ | refine QW_of (Qt_ldX rfl (hn := by with_reducible assumption)) ?_)) | refine WL_nil ?_ | refine WC_seq ?_ | refine WC_block ?_ | refine WC_cond_t (ht := ?_) | refine WC_cond_f (he := ?_) | refine WC_skip ?_ | refine WC_ret ?_ | refine WC_exit ?_ | refine WG 15 ?_)
  rw [u2]
  have hrec2 := puRec_fn hyr (L := L2)
  repeat (first | (refine WL_Q ?_; (first | refine QW_a ?_ | refine QW_of (Qt_ldX rfl (hn := by with_reducible assumption)) ?_)) | (refine WL_op rfl ?_; (first | refine OW_callP rfl (hF := hrec2) (hk := ?_))) | refine WL_nil ?_ | refine WC_seq ?_ | refine WC_block ?_ | refine WC_cond_t (ht := ?_) | refine WC_cond_f (he := ?_) | refine WC_skip ?_ | refine WC_ret ?_ | refine WC_exit ?_ | refine WG 15 ?_)
  rw [hL2]
  have hyp : y.rcv.t ≥ 0 := hyr.ok.t0
  refine WL_op rfl (OW_call rfl (hF := putRun_fn hyr hB (ht.mem fun q hq => hFF' q (hF q hq)) hN (fun q hq => by simp only [List.mem_append]; exact .inr (.inr (.inr (.inr hq)))) hO hM hYr (by omega) (by rw [List.length_take, List.length_reverse]; omega) fun r hr => hrk r (List.mem_reverse.1 (List.mem_of_mem_take hr))) (hk := ?_))
  rintro _ _ ⟨SB', TB, oB, lB', rfl, hB', hvb, hYr', hYl⟩
  obtain ⟨_, ob, od, rfl, _, _, _⟩ := id hvb
  obtain ⟨ya, yc, rfl, _, _⟩ := id hby.val
  refine WL_permN (L' := (SB' ++ (TB ++ (SA' ++ Bx'))) ++ (By ++ (SC ++ F'))) (by
      classical
      rw [List.perm_iff_count]
      intro q
      simp only [List.count_append]
      omega) ?_
  refine WL_op rfl (OW_append_bufM rfl rfl rfl rfl rfl hby (srcVec (sz := 6) (hvb.vec fun q hq => List.mem_append_left _ (List.mem_append_right _ (List.mem_append_left _ hq))) rcL_one) (rcL_len _) (by simp only [maxLen]; omega) (by omega) ?_)
  intro vy' By' hby'
  rw [← rcL_append, ← List.length_append] at hby'
  have hYr' : Runs c (-1) (rs0.reverse.take (i + 1)) lB' (Y ++ oB) := by
    rw [List.take_add_one, List.getElem?_reverse (by omega), hrl0, ← hj, hrg j y hyw]
    exact hYr'
  refine WL_permN (L' := SA' ++ (SB' ++ (Bx' ++ (By' ++ (SC ++ (TB ++ F')))))) (by
      classical
      rw [List.perm_iff_count]
      intro q
      simp only [List.count_append]
      omega) ?_
  repeat (first | (refine WL_Q ?_; (first | refine QW_a ?_ | refine QW_of (Qt_ldX rfl (hn := by with_reducible assumption)) ?_)) | refine WL_nil ?_ | refine WC_seq ?_ | refine WC_block ?_ | refine WC_cond_t (ht := ?_) | refine WC_cond_f (he := ?_) | refine WC_skip ?_ | refine WC_ret ?_ | refine WC_exit ?_ | refine WG 15 ?_ | refine WG 13 ?_)
  have ww : IntKind.i64.wrap ((i : Int) + 1) = ((i + 1 : Nat) : Int) := by rw [wI64 (by omega) (by omega)]; omega
  rw [ww]
  refine ⟨_, _, by omega, ⟨i + 1, SA', SB', Bx', By', TB ++ F', lA', lB', X ++ oA, Y ++ oB, vx', vy', rfl, by omega, hFs.trans (by rw [hF']; exact (List.sublist_append_right _ _).trans (List.sublist_append_right _ _)), hA'.mem fun q hq => List.mem_append_right _ hq, hB', hXr', hYr', hbx', hby', rfl⟩, ⟨rfl, rfl, rfl, rfl, rfl, rfl, rfl, rfl, trivial⟩, rfl, .refl _⟩
end Go.Proofs.YtekmmhmhcpaiaaaGreat
