/-
  A part of what the last of these texts needs; by itself it proves no statement.
-/
import Derived.Test.YtekmmhmhcpaiaaaGreatKP19
namespace Go.Proofs.YtekmmhmhcpaiaaaGreat
open Go.RowKit
attribute [local irreducible] Fn WC WL WR OW Qt YieldFn QW FnP FnD FnE
set_option maxHeartbeats 8000000 in
theorem stable_fn {g E off cap : Nat} {L : List (Nat × Obj)} {cur : Array Value} {xs : List EnV} (ho : OwnE cur off cap xs) (hn : xs.length ≤ 100000) :
    Fn Tryz.prog 94 [.slice (some ⟨g, off, none⟩) xs.length cap, iV xs.length, ordV] ((g, .cells cur E (0, 0)) :: L)
      (fun v L' => v = .tuple #[] ∧ ∃ cur' ys, ys.Perm xs ∧ OwnE cur' off cap ys ∧ L' = (g, .cells cur' E (0, 0)) :: L) := by
  refine Fn_enter Tryz.func94 rfl Tryz.ntmps94 rfl fun gw => ?_
  repeat (first | (refine WL_Q ?_; (first | refine QW_a ?_)) | refine WL_nil ?_ | refine WC_seq ?_ | refine WC_block ?_ | refine WC_cond_t (ht := ?_) | refine WC_cond_f (he := ?_) | refine WC_skip ?_ | refine WC_exit ?_ | refine WG 0 ?_ | refine WG 1 ?_)
  refine WC_wk [(8, iV ((20 : Nat) : Int)), (7, iV ((0 : Nat) : Int)), (6, iV ((20 : Nat) : Int)), (0, .slice (some ⟨g, off, none⟩) xs.length cap), (1, iV xs.length), (2, ordV)] ⟨rfl, rfl, rfl, rfl, rfl, rfl, trivial⟩ ?_
  refine WC_loop (fun z σ => ∃ (i : Nat) (ys : List EnV) (cur : Array Value), z = xs.length + 20 - i ∧ i ≤ xs.length ∧ ys.Perm xs ∧ OwnE cur off cap ys ∧ σ = ⟨[(8, iV ((i + 20 : Nat) : Int)), (7, iV i), (6, iV ((20 : Nat) : Int)), (0, .slice (some ⟨g, off, none⟩) xs.length cap), (1, iV xs.length), (2, ordV)], [], (g, .cells cur E (0, 0)) :: L⟩) (xs.length + 20) ⟨0, xs, cur, rfl, Nat.zero_le _, .refl _, ho, rfl⟩ ?_
  clear ho cur
  rintro z σ ⟨i, ys, cur, rfl, hi, hp, ho, rfl⟩
  have hl : ys.length = xs.length := hp.length_eq
  by_cases hlt : i + 20 ≤ xs.length
  · have d : decide (((i + 20 : Nat) : Int) ≤ ((xs.length : Nat) : Int)) = true := decide_eq_true (by omega)
    have w : IntKind.i64.wrap (((i + 20 : Nat) : Int) + ((20 : Nat) : Int)) = ((i + 20 + 20 : Nat) : Int) := by rw [wI64 (by omega) (by omega)]; omega
    have hF := insE_fn ho (by omega) (a := i) (b := i + 20) (by omega) (by omega) (g := g) (E := E) (L := L)
    rw [hl] at hF
    repeat (first | (refine WL_Q ?_; (first | refine QW_a ?_)) | (refine WL_op rfl ?_; (first | (refine OW_call rfl (hF := hF) (hk := ?_); rintro _ _ ⟨rfl, cur', zs, hq, ho', rfl⟩))) | refine WL_nil ?_ | refine WC_seq ?_ | refine WC_block ?_ | refine WC_cond_t (ht := ?_) | refine WC_cond_f (he := ?_) | refine WC_skip ?_ | refine WC_exit ?_ | refine WG 2 ?_ | refine WG 3 ?_ | refine WG 4 ?_ | refine WG 5 ?_)
    rw [w]
    exact ⟨_, _, by omega, ⟨i + 20, zs, cur', rfl, by omega, hq.trans hp, ho', rfl⟩, ⟨rfl, rfl, rfl, rfl, rfl, rfl, trivial⟩, rfl, .refl _⟩
  have d : decide (((i + 20 : Nat) : Int) ≤ ((xs.length : Nat) : Int)) = false := decide_eq_false (by omega)
  have hF := insE_fn ho (by omega) (a := i) (b := xs.length) (by omega) (by omega) (g := g) (E := E) (L := L)
  rw [hl] at hF
  repeat (first | (refine WL_Q ?_; (first | refine QW_a ?_)) | (refine WL_op rfl ?_; (first | (refine OW_call rfl (hF := hF) (hk := ?_); rintro _ _ ⟨rfl, cur', zs, hq, ho', rfl⟩))) | refine WL_nil ?_ | refine WC_seq ?_ | refine WC_block ?_ | refine WC_cond_t (ht := ?_) | refine WC_cond_f (he := ?_) | refine WC_skip ?_ | refine WC_exit ?_ | refine WG 2 ?_ | refine WG 6 ?_)
  clear hF d hlt ho
  replace hp := hq.trans hp
  clear hq
  refine WC_wk [(6, iV ((20 : Nat) : Int)), (0, .slice (some ⟨g, off, none⟩) xs.length cap), (1, iV xs.length), (2, ordV)] ⟨rfl, rfl, rfl, rfl, trivial⟩ ?_
  refine WC_loop (fun z σ => ∃ (bs : Nat) (ys : List EnV) (cur : Array Value), z = xs.length - bs ∧ 0 < bs ∧ bs ≤ 400000 ∧ ys.Perm xs ∧ OwnE cur off cap ys ∧ σ = ⟨[(6, iV bs), (0, .slice (some ⟨g, off, none⟩) xs.length cap), (1, iV xs.length), (2, ordV)], [], (g, .cells cur E (0, 0)) :: L⟩) (xs.length - 20) ⟨20, zs, cur', rfl, by omega, by omega, hp, ho', rfl⟩ ?_
  clear ho' hp hl hi i ys cur zs cur'
  rintro z σ ⟨bs, ys, cur, rfl, hb0, hb1, hp, ho, rfl⟩
  by_cases hlt : bs < xs.length
  rotate_left
  · have d : decide ((bs : Int) < ((xs.length : Nat) : Int)) = false := decide_eq_false (by omega)
    repeat (first | (refine WL_Q ?_; (first | refine QW_a ?_)) | refine WL_nil ?_ | refine WC_seq ?_ | refine WC_block ?_ | refine WC_cond_t (ht := ?_) | refine WC_cond_f (he := ?_) | refine WC_skip ?_ | refine WC_exit ?_ | refine WG 7 ?_)
    exact ⟨rfl, _, _, Res0 rfl, .refl _, rfl, cur, ys, hp, ho, rfl⟩
  have d : decide ((bs : Int) < ((xs.length : Nat) : Int)) = true := decide_eq_true (by omega)
  have w2 : IntKind.i64.wrap (2 * (bs : Int)) = ((2 * bs : Nat) : Int) := by rw [wI64 (by omega) (by omega)]; omega
  have w3 : IntKind.i64.wrap ((bs : Int) * 2) = ((2 * bs : Nat) : Int) := by rw [wI64 (by omega) (by omega)]; omega
  repeat (first | (refine WL_Q ?_; (first | refine QW_a ?_)) | refine WL_nil ?_ | refine WC_seq ?_ | refine WC_block ?_ | refine WC_cond_t (ht := ?_) | refine WC_cond_f (he := ?_) | refine WC_skip ?_ | refine WC_exit ?_ | refine WG 7 ?_ | refine WG 8 ?_)
  rw [w2]
  refine WC_wk [(8, iV ((0 + 2 * bs : Nat) : Int)), (7, iV ((0 : Nat) : Int)), (6, iV bs), (0, .slice (some ⟨g, off, none⟩) xs.length cap), (1, iV xs.length), (2, ordV)] ⟨by rw [Nat.zero_add]; rfl, rfl, rfl, rfl, rfl, rfl, trivial⟩ ?_
  refine WC_loop (fun z σ => ∃ (k : Nat) (ys : List EnV) (cur : Array Value), z = xs.length + 2 * bs - k ∧ k ≤ xs.length ∧ ys.Perm xs ∧ OwnE cur off cap ys ∧ σ = ⟨[(8, iV ((k + 2 * bs : Nat) : Int)), (7, iV k), (6, iV bs), (0, .slice (some ⟨g, off, none⟩) xs.length cap), (1, iV xs.length), (2, ordV)], [], (g, .cells cur E (0, 0)) :: L⟩) (xs.length + 2 * bs) ⟨0, ys, cur, rfl, Nat.zero_le _, hp, ho, rfl⟩ ?_
  clear ho hp ys cur d
  rintro z σ ⟨k, ys, cur, rfl, hk, hp, ho, rfl⟩
  have hl : ys.length = xs.length := hp.length_eq
  have wkb : IntKind.i64.wrap ((k : Int) + (bs : Int)) = ((k + bs : Nat) : Int) := by rw [wI64 (by omega) (by omega)]; omega
  by_cases hkb : k + 2 * bs ≤ xs.length
  · have d : decide (((k + 2 * bs : Nat) : Int) ≤ ((xs.length : Nat) : Int)) = true := decide_eq_true (by omega)
    have wk2 : IntKind.i64.wrap (((k + 2 * bs : Nat) : Int) + ((2 * bs : Nat) : Int)) = ((k + 2 * bs + 2 * bs : Nat) : Int) := by rw [wI64 (by omega) (by omega)]; omega
    have hF := symE_fn (E := E) (L := L) (g := g) (2 * bs) ho (by omega) (a := k) (m := k + bs) (b := k + 2 * bs) (by omega) (by omega) (by omega) (by omega)
    rw [hl, ← wkb] at hF
    repeat (first | (refine WL_Q ?_; (first | refine QW_a ?_)) | (refine WL_op rfl ?_; (first | (refine OW_call rfl (hF := hF) (hk := ?_); rintro _ _ ⟨rfl, cur', zs, hq, ho', rfl⟩))) | refine WL_nil ?_ | refine WC_seq ?_ | refine WC_block ?_ | refine WC_cond_t (ht := ?_) | refine WC_cond_f (he := ?_) | refine WC_skip ?_ | refine WC_exit ?_ | refine WG 9 ?_ | refine WG 10 ?_ | refine WG 11 ?_ | refine WG 12 ?_)
    rw [w2, wk2]
    exact ⟨_, _, by omega, ⟨k + 2 * bs, zs, cur', rfl, by omega, hq.trans hp, ho', rfl⟩, ⟨rfl, rfl, rfl, rfl, rfl, rfl, trivial⟩, rfl, .refl _⟩
  have d : decide (((k + 2 * bs : Nat) : Int) ≤ ((xs.length : Nat) : Int)) = false := decide_eq_false (by omega)
  by_cases hkm : k + bs < xs.length
  · have d2 : decide (IntKind.i64.wrap ((k : Int) + (bs : Int)) < ((xs.length : Nat) : Int)) = true := by rw [wkb]; exact decide_eq_true (by omega)
    have hF := symE_fn (E := E) (L := L) (g := g) (2 * bs) ho (by omega) (a := k) (m := k + bs) (b := xs.length) (by omega) (by omega) (by omega) (by omega)
    rw [hl, ← wkb] at hF
    repeat (first | (refine WL_Q ?_; (first | refine QW_a ?_)) | (refine WL_op rfl ?_; (first | (refine OW_call rfl (hF := hF) (hk := ?_); rintro _ _ ⟨rfl, cur', zs, hq, ho', rfl⟩))) | refine WL_nil ?_ | refine WC_seq ?_ | refine WC_block ?_ | refine WC_cond_t (ht := ?_) | refine WC_cond_f (he := ?_) | refine WC_skip ?_ | refine WC_exit ?_ | refine WG 9 ?_ | refine WG 13 ?_ | refine WG 14 ?_ | refine WG 15 ?_ | refine WG 16 ?_)
    rw [w3]
    exact ⟨_, _, by omega, ⟨2 * bs, zs, cur', rfl, by omega, by omega, hq.trans hp, ho', rfl⟩, ⟨rfl, rfl, rfl, rfl, trivial⟩, rfl, .refl _⟩
  · have d2 : decide (IntKind.i64.wrap ((k : Int) + (bs : Int)) < ((xs.length : Nat) : Int)) = false := by rw [wkb]; exact decide_eq_false (by omega)
    repeat (first | (refine WL_Q ?_; (first | refine QW_a ?_)) | refine WL_nil ?_ | refine WC_seq ?_ | refine WC_block ?_ | refine WC_cond_t (ht := ?_) | refine WC_cond_f (he := ?_) | refine WC_skip ?_ | refine WC_exit ?_ | refine WG 9 ?_ | refine WG 13 ?_ | refine WG 14 ?_ | refine WG 16 ?_)
    rw [w3]
    exact ⟨_, _, by omega, ⟨2 * bs, ys, cur, rfl, by omega, by omega, hp, ho, rfl⟩, ⟨rfl, rfl, rfl, rfl, trivial⟩, rfl, .refl _⟩
theorem sortE_fn {g E off cap : Nat} {L : List (Nat × Obj)} {cur : Array Value} {xs : List EnV} (ho : OwnE cur off cap xs) (hn : xs.length ≤ 100000) :
    Fn Tryz.prog 49 [.slice (some ⟨g, off, none⟩) xs.length cap, ordV] ((g, .cells cur E (0, 0)) :: L)
      (fun v L' => v = .tuple #[] ∧ ∃ cur' ys, ys.Perm xs ∧ OwnE cur' off cap ys ∧ L' = (g, .cells cur' E (0, 0)) :: L) := by
  refine Fn_enter Tryz.func49 rfl Tryz.ntmps49 rfl fun gw => ?_
  repeat (first | (refine WL_Q ?_; (first | refine QW_a ?_)) | (refine WL_op rfl ?_; (first | (refine OW_call rfl (hF := stable_fn ho hn) (hk := ?_); rintro _ _ ⟨rfl, cur', zs, hq, ho', rfl⟩))) | refine WL_nil ?_ | refine WC_seq ?_ | refine WC_region ?_)
  exact ⟨rfl, _, _, Res0 rfl, .refl _, rfl, cur', zs, hq, ho', rfl⟩
end Go.Proofs.YtekmmhmhcpaiaaaGreat
namespace Go.Proofs.YtekmmhmhcpaiaaaGreat
open Go.RowKit
attribute [local irreducible] Fn WC WL WR OW Qt YieldFn QW FnP FnD FnE
theorem cloneE_fn {v : Value} {n : Nat} {xs : List Value} {L : List (Nat × Obj)} (h : Vec 10 L v n xs) (h1 : ∀ u ∈ xs, u.oneCell' = true) (hn : n ≤ 100000) : Fn Tryz.prog 63 [v] L (fun r L' => ∃ T, L' = T ++ L ∧ Buf 53 10 r T n xs) := by
  obtain ⟨hl, a, cap, rfl, hc, hm, hx⟩ := id h
  refine Fn_enter Tryz.func63 rfl Tryz.ntmps63 rfl fun g => ?_
  cases a with
  | none =>
    obtain rfl : n = 0 := by
      rcases hx with hx | ⟨b, off, cs, E, fr, i, e, _⟩
      · exact hx
      · cases e
    obtain rfl : xs = [] := List.eq_nil_of_length_eq_zero (by omega)
    repeat (first | (refine WL_Q ?_; (first | refine QW_a ?_ | refine QW_of (Qt_eqlNilT rfl) ?_)) | refine WL_nil ?_ | refine WC_seq ?_ | refine WC_cond_t (ht := ?_) | refine WC_cond_f (he := ?_) | refine WC_skip ?_ | refine WC_ret ?_ | refine WG 0 ?_ | refine WG 1 ?_ | refine WG 2 ?_)
    exact ⟨rfl, _, _, Res1 rfl (resV_tmp rfl), .refl _, [], rfl, Buf.nil _ _⟩
  | some a =>
    have dS : (some a).isNone = false := rfl
    repeat (first | (refine WL_Q ?_; (first | refine QW_a ?_ | refine QW_of (Qt_eqlNilT rfl) ?_)) | (refine WL_op rfl ?_; (first | refine OW_build0 rfl (hk := fun _ => ?_))) | refine WL_nil ?_ | refine WC_seq ?_ | refine WC_cond_t (ht := ?_) | refine WC_cond_f (he := ?_) | refine WC_skip ?_ | refine WC_ret ?_ | refine WG 0 ?_ | refine WG 1 ?_ | refine WG 3 ?_)
    refine WL_op rfl (OW_append_own rfl rfl rfl rfl rfl 0 rfl (xs := []) (n := 0) (cap := 0) ⟨rfl, Nat.le_refl _, by decide, Nat.le_refl _, fun j x hj => by simp at hj⟩ (srcVec (Vec.cons _ h) h1) (by simp only [maxLen]; omega) (by omega) ?_)
    intro b1 off1 cap2 cur1 hown
    simp only [List.set_cons_zero]
    repeat (first | (refine WL_Q ?_; (first | refine QW_a ?_ | refine QW_of (Qt_eqlNilT rfl) ?_)) | (refine WL_op rfl ?_; (first | refine OW_build0 rfl (hk := fun _ => ?_))) | refine WL_nil ?_ | refine WC_seq ?_ | refine WC_cond_t (ht := ?_) | refine WC_cond_f (he := ?_) | refine WC_skip ?_ | refine WC_ret ?_ | refine WG 3 ?_)
    have h0 : 0 + n = n := Nat.zero_add _
    rw [h0]
    rw [h0, List.nil_append] at hown
    exact ⟨rfl, _, _, Res1 rfl (resV_tmp rfl), .refl _, [_], rfl, .inr ⟨b1, off1, cap2, cur1, rfl, rfl, hown⟩⟩
end Go.Proofs.YtekmmhmhcpaiaaaGreat
namespace Go.Proofs.YtekmmhmhcpaiaaaGreat
open Go.RowKit
theorem OW_append_in {c : Cx} {o : Oper} {Kn : St → Prop} {K : Exit → St → Prop} {s : List (Nat × Value)} {D : List Deferred} {L : List (Nat × Obj)} {t t2 E size by_ d : Nat} {z : Array Value} {x y : Operand} [hu : TUnd c.P t (.slice E)] [hrow : TRow c.P E z size by_]
    (ho : o.op = .call { callee := .builtin .append, args := #[x, y], argTypes := #[t, t2] }) (hdst : o.dst = some d) {g off n cap m : Nat} (hx : ev s x = some (.slice (some ⟨g, off, none⟩) n cap)) {y' : Value} (hy : ev s y = some y') (hd : Nat.blt d c.N = true) {cur : Array Value} {news : List Value} (i : Nat) (hi : L[i]? = some (g, .cells cur E (0, 0)))
    (hs : SrcL c L size t2 y' m news) (hroom : n + m ≤ cap) (hfit : off + cap * size ≤ cur.size)
    (hk : Kn ⟨(d, .slice (some ⟨g, off, none⟩) (n + m) cap) :: s, D, L.set i (g, .cells (putR cur (off + n * size) news.toArray) E (0, 0))⟩) : OW c o Kn K ⟨s, D, L⟩ := fun a w ha => by
  refine ⟨fun _ _ => trivial, ?_⟩
  obtain ⟨ii, zz, r1, r2, r3, r4, r5, r6⟩ := hrow.h
  have hsr := hs w ha.mem
  have hlen := hsr.newsLen
  have h3 : (n + m) * size ≤ cap * size := Nat.mul_le_mul_right _ hroom
  rw [Nat.add_mul] at h3
  have hr := run_append_in_src (P := c.P) w t t2 o.type E ii hu.h r1 g off n cap cur (ha.mem.at_ hi) y' m news (by rw [r4]; exact hsr) hroom (by rw [r4]; omega)
  have hr' : (execOp a.eval o).run c.P w = .ok (.value (.slice (some ⟨g, off, none⟩) (n + m) cap)) (w.setRow g (putR cur (off + n * size) news.toArray)) := by
    rw [r4] at hr
    simp [execOp, ho, resolve, invoke, builtin, ha.ev hx, ha.ev hy, hr]
  rw [Oper.semAt_eq _ _ _ (by rw [ho]; intro cc h; cases h), hr']
  refine ⟨_, ?_, hk⟩
  rw [hdst]
  exact (ha.mem' (ha.mem.setRow hi _)).put (d := some d) hd _
theorem enL_append (a b : List EnV) : enL (a ++ b) = enL a ++ enL b := List.flatMap_append
theorem enL_one {l : List EnV} : ∀ u ∈ enL l, u.oneCell' = true := by
  intro u hu
  obtain ⟨x, _, hx⟩ := List.mem_flatMap.1 hu
  have h := enC_one x
  exact List.all_eq_true.1 h u (by simpa using hx)
theorem OwnE.cut {cur : Array Value} {off cap : Nat} {xs : List EnV} (h : OwnE cur off cap xs) {i : Nat} (hi : i < xs.length) : OwnE (putR cur (off + i * 10) (enL (xs.drop (i + 1))).toArray) off cap (xs.take i ++ xs.drop (i + 1)) := by
  have hf := Own.fit h
  have hle := Own.le h
  have hsz : (enL (xs.drop (i + 1))).toArray.size = (xs.length - (i + 1)) * 10 := by rw [List.size_toArray, enL_len, List.length_drop]
  have hb : off + i * 10 + (enL (xs.drop (i + 1))).toArray.size ≤ cur.size := by rw [hsz]; omega
  have hlen : (xs.take i ++ xs.drop (i + 1)).length = xs.length - 1 := by rw [List.length_append, List.length_take, List.length_drop]; omega
  unfold OwnE
  rw [hlen]
  refine ⟨by rw [enL_len, hlen], by omega, Own.max h, by rw [putR_sizeE hb]; exact hf, fun k v hk => ?_⟩
  rw [putR_getE hb, hsz]
  have hk2 : k < (xs.length - 1) * 10 := by
    have := (List.getElem?_eq_some_iff.1 hk).1
    rw [enL_len, hlen] at this
    exact this
  rw [enL_append] at hk
  have htl : (enL (xs.take i)).length = i * 10 := by rw [enL_len, List.length_take]; omega
  by_cases hki : k < i * 10
  · rw [List.getElem?_append_left (by omega)] at hk
    rw [if_neg (by omega)]
    refine Own.at_ h k v ?_
    have e : enL xs = enL (xs.take i) ++ enL (xs.drop i) := by rw [← enL_append, List.take_append_drop]
    rw [e, List.getElem?_append_left (by omega)]
    exact hk
  · rw [List.getElem?_append_right (by omega), htl] at hk
    rw [if_pos (by omega), List.getElem?_toArray, show off + k - (off + i * 10) = k - i * 10 by omega]
    exact hk
theorem enC_inj {x y : EnV} (h : enC x = enC y) : x = y := by
  obtain ⟨v, k, s, e, sd, n, a, mn, mx⟩ := x
  obtain ⟨v', k', s', e', sd', n', a', mn', mx'⟩ := y
  simp only [enC, iV, List.cons.injEq, Value.int.injEq, true_and, and_true] at h
  obtain ⟨h1, h2, h3, h4, h5, h6, h7, h8, h9, h10⟩ := h
  have hv : v = v' := by omega
  have ha : a = a' := by omega
  rw [hv, h2, h3, h4, h5, h6, ha, h9, h10]
theorem en_eq (a1 a2 a3 a4 a5 a6 a7 a8 a9 a10 b1 b2 b3 b4 b5 b6 b7 b8 b9 b10 : Int) : eqX Tryz.prog 8 53 (.agg [.int .i64 a1, .int .u32 a2, .int .i64 a3, .int .i64 a4, .int .u8 a5, .int .i64 a6, .int .i64 a7, .int .u64 a8, .int .i64 a9, .int .i64 a10]) (.agg [.int .i64 b1, .int .u32 b2, .int .i64 b3, .int .i64 b4, .int .u8 b5, .int .i64 b6, .int .i64 b7, .int .u64 b8, .int .i64 b9, .int .i64 b10]) = (match a1 == b1 with | true => (match a2 == b2 with | true => (match a3 == b3 with | true => (match a4 == b4 with | true => (match a5 == b5 with | true => (match ((match a6 == b6 with | true => (match a7 == b7 with | true => (match a8 == b8 with | true => (match a9 == b9 with | true => (match a10 == b10 with | true => some true | false => some false) | false => some false) | false => some false) | false => some false) | false => some false)) with | some true => some true | some false => some false | none => none) | false => some false) | false => some false) | false => some false) | false => some false) | false => some false) := by kernel_rfl
def enX (e : EnV) : List V := [.int .i64 (e.ver : Int), .int .u32 e.key, .int .i64 e.s, .int .i64 e.e, .int .u8 e.side, .int .i64 e.ac.n, .int .i64 (e.ac.s / 18446744073709551616), .int .u64 (e.ac.s % 18446744073709551616), .int .i64 e.ac.mn, .int .i64 e.ac.mx]
theorem enX_rv (e : EnV) : RV [] (.agg (enX e)) (.agg (enC e).toArray) := .agg (.cons (.int _ _) (.cons (.int _ _) (.cons (.int _ _) (.cons (.int _ _) (.cons (.int _ _) (.cons (.int _ _) (.cons (.int _ _) (.cons (.int _ _) (.cons (.int _ _) (.cons (.int _ _) .nil))))))))))
theorem en_same (e : EnV) : eqX Tryz.prog 8 53 (.agg (enX e)) (.agg (enX e)) = some true := by
  unfold enX
  rw [en_eq]
  simp only [beq_self_eq_true]
theorem en_ne {x y : EnV} (h : x ≠ y) : eqX Tryz.prog 8 53 (.agg (enX x)) (.agg (enX y)) = some false := by
  unfold enX
  rw [en_eq]
  cases h1 : ((x.ver : Int) == (y.ver : Int))
  · rfl
  cases h2 : (x.key == y.key)
  · rfl
  cases h3 : (x.s == y.s)
  · rfl
  cases h4 : (x.e == y.e)
  · rfl
  cases h5 : (x.side == y.side)
  · rfl
  cases h6 : (x.ac.n == y.ac.n)
  · rfl
  cases h7 : ((x.ac.s / 18446744073709551616) == (y.ac.s / 18446744073709551616))
  · rfl
  cases h8 : ((x.ac.s % 18446744073709551616) == (y.ac.s % 18446744073709551616))
  · rfl
  cases h9 : (x.ac.mn == y.ac.mn)
  · rfl
  cases h10 : (x.ac.mx == y.ac.mx)
  · rfl
  exfalso
  simp only [beq_iff_eq] at h1 h2 h3 h4 h5 h6 h7 h8 h9 h10
  exact h (enC_inj (by unfold enC; rw [h1, h2, h3, h4, h5, h6, h7, h8, h9, h10]))
theorem Qt_slMidE {c : Cx} {s : List (Nat × Value)} {L : List (Nat × Obj)} {o : Oper} {t E n : Nat} [hu : TUnd c.P t (.slice E)] [hs : TSize c.P E n] {x lo hi mx : Operand} {g off len cap : Nat} {k k' k2 : IntKind} {l h m : Int} (ho : o.op = .slice t x (some lo) (some hi) (some mx)) (hx : ev s x = some (.slice (some ⟨g, off, none⟩) len cap) := by exact rfl) (hl : ev s lo = some (.int k l) := by exact rfl) (hh : ev s hi = some (.int k' h) := by exact rfl) (hm : ev s mx = some (.int k2 m) := by exact rfl)
    (h0 : 0 ≤ l := by first | with_reducible assumption | omega) (h1 : l ≤ h := by first | with_reducible assumption | omega) (h2 : h ≤ m := by first | exact Int.le_refl _ | with_reducible assumption | omega) (h3 : m ≤ cap := by first | with_reducible assumption | omega) : Qt c s L o (.slice (some ⟨g, slOff m.toNat l.toNat off n, none⟩) (h.toNat - l.toNat) (m.toNat - l.toNat)) :=
  ⟨(fun cc => by simp [ho]), fun ρ hρ w _ => by
    have hut : c.P.underlying t = some (.slice (c.P.elem t)) := by rw [elem_of hu.h]; exact hu.h
    have h2 := run_slice_lhm (P := c.P) w t (some ⟨g, off, none⟩) len cap hut k k' k2 l h m h0 h1 h2 h3
    have h3 := run_sliceAt_slice (P := c.P) w t (.slice (some ⟨g, off, none⟩) len cap) (some (.int k l)) (some (.int k' h)) (some (.int k2 m)) hut
    rw [elem_of hu.h, hs.h] at h2
    simp only [Result.andThen, sliced_eq] at h2
    simp [execOp, ho, hρ x _ hx, hρ lo _ hl, hρ hi _ hh, hρ mx _ hm, h3, h2]⟩
theorem Qt_slLHE {c : Cx} {s : List (Nat × Value)} {L : List (Nat × Obj)} {o : Oper} {t E n : Nat} [hu : TUnd c.P t (.slice E)] [hs : TSize c.P E n] {x lo hi : Operand} {g off len cap : Nat} {k k' : IntKind} {l h : Int} (ho : o.op = .slice t x (some lo) (some hi) none) (hx : ev s x = some (.slice (some ⟨g, off, none⟩) len cap) := by exact rfl) (hl : ev s lo = some (.int k l) := by exact rfl) (hh : ev s hi = some (.int k' h) := by exact rfl)
    (h0 : 0 ≤ l := by first | with_reducible assumption | omega) (h1 : l ≤ h := by first | with_reducible assumption | omega) (h2 : h ≤ cap := by first | with_reducible assumption | omega) : Qt c s L o (.slice (some ⟨g, slOff cap l.toNat off n, none⟩) (h.toNat - l.toNat) (cap - l.toNat)) :=
  ⟨(fun cc => by simp [ho]), fun ρ hρ w _ => by
    have hut : c.P.underlying t = some (.slice (c.P.elem t)) := by rw [elem_of hu.h]; exact hu.h
    have h2 := run_slice_lh (P := c.P) w t (some ⟨g, off, none⟩) len cap hut k k' l h h0 h1 h2
    have h3 := run_sliceAt_slice (P := c.P) w t (.slice (some ⟨g, off, none⟩) len cap) (some (.int k l)) (some (.int k' h)) none hut
    rw [elem_of hu.h, hs.h] at h2
    simp only [Result.andThen, sliced_eq] at h2
    simp [execOp, ho, hρ x _ hx, hρ lo _ hl, hρ hi _ hh, h3, h2]⟩
attribute [local irreducible] Fn WC WL WR OW Qt YieldFn QW FnP FnD FnE
def SomeE (xs : List EnV) (p : EnV → Bool) (i : Int) : Prop := (i = -1 ∧ ∀ x ∈ xs, p x = false) ∨ ∃ (k : Nat) (x : EnV), i = k ∧ xs[k]? = some x ∧ p x = true
set_option maxHeartbeats 2000000 in
theorem indexFE_fn {v : Value} {xs : List EnV} {p : EnV → Bool} {f : FuncId} [hfc : FCall Tryz.prog f] {cs : Array Value} (hn : xs.length ≤ 100000) {L : List (Nat × Obj)} (hv : Vec 10 L v xs.length (enL xs)) (hf : ∀ x ∈ xs, Fn Tryz.prog f (.agg (enC x).toArray :: cs.toList) L (fun r L' => r = .bool (p x) ∧ L' = L)) : Fn Tryz.prog 67 [v, .func (.func f) #[] cs] L (fun r L' => (∃ i, SomeE xs p i ∧ r = iV i) ∧ L' = L) := by
  obtain ⟨_, a1, cap1, rfl, _, _, h1⟩ := hv
  refine Fn_enter Tryz.func67 rfl Tryz.ntmps67 rfl fun gw => ?_
  repeat (first | (refine WL_Q ?_; (first | refine QW_a ?_ | refine QW_of (Qt_ldX rfl (hn := by with_reducible assumption)) ?_ | refine QW_of (Qt_slMidE rfl) ?_ | refine QW_of (Qt_slLHE rfl) ?_)) | refine WL_nil ?_ | refine WC_seq ?_ | refine WC_block ?_ | refine WC_cond_t (ht := ?_) | refine WC_cond_f (he := ?_) | refine WC_skip ?_ | refine WC_ret ?_ | refine WC_exit ?_ | refine WG 0 ?_ | refine WG 1 ?_)
  refine WC_wk [(8, .int .i64 0), (7, .int .i64 (xs.length : Nat)), (0, .slice a1 xs.length cap1), (1, .func (.func f) #[] cs)] ⟨rfl, rfl, rfl, rfl, trivial⟩ ?_
  refine WC_loop (fun m σ => ∃ i : Nat, m = xs.length - i ∧ i ≤ xs.length ∧ (∀ (a : Nat) q, a < i → xs[a]? = some q → p q = false) ∧ σ = ⟨[(8, .int .i64 i), (7, .int .i64 (xs.length : Nat)), (0, .slice a1 xs.length cap1), (1, .func (.func f) #[] cs)], [], L⟩) xs.length ⟨0, by omega, by omega, fun a q h => by omega, rfl⟩ ?_
  rintro m σ ⟨i, rfl, hi, hB, rfl⟩
  by_cases hlt : i < xs.length
  · have d2 : decide ((i : Int) < ((xs.length : Nat) : Int)) = true := decide_eq_true (by omega)
    obtain ⟨x, hx⟩ : ∃ x, xs[i]? = some x := ⟨_, List.getElem?_eq_getElem hlt⟩
    obtain ⟨g1, o1, cu1, E1, fr1, i1, rfl, hi1, hc1⟩ := h1.resolve_left (by omega)
    obtain ⟨x1, x2⟩ := enL_ext hc1 hx
    have p0 : (0 : Int) ≤ (i : Int) := by omega
    have p1 : ((i : Nat) : Int) < ((xs.length : Nat) : Int) := by omega
    have y1 : o1 + ((i : Nat) : Int).toNat * 10 + 10 ≤ cu1.size := by rw [Int.toNat_natCast]; exact x2
    have v1 : cu1.extract (o1 + ((i : Nat) : Int).toNat * 10) (o1 + ((i : Nat) : Int).toNat * 10 + 10) = (enC x).toArray := by rw [Int.toNat_natCast]; exact x1
    have ww : IntKind.i64.wrap ((i : Int) + 1) = ((i + 1 : Nat) : Int) := by rw [wI64 (by omega) (by omega)]; omega
    repeat (first | (refine WL_Q ?_; (first | refine QW_a ?_ | refine QW_of (Qt_ldX rfl (hn := by with_reducible assumption)) ?_ | refine QW_of (Qt_slMidE rfl) ?_ | refine QW_of (Qt_slLHE rfl) ?_)) | refine WL_nil ?_ | refine WC_seq ?_ | refine WC_block ?_ | refine WC_cond_t (ht := ?_) | refine WC_cond_f (he := ?_) | refine WC_skip ?_ | refine WC_ret ?_ | refine WC_exit ?_ | refine WG 2 ?_ | refine WG 3 ?_ | refine WG 4 ?_)
    try rw [v1]
    refine WL_op rfl (OW_callv rfl rfl rfl rfl rfl (hf x (List.mem_of_getElem? hx)) ?_)
    rintro _ _ ⟨rfl, rfl⟩
    cases hpx : p x
    · repeat (first | (refine WL_Q ?_; (first | refine QW_a ?_ | refine QW_of (Qt_ldX rfl (hn := by with_reducible assumption)) ?_ | refine QW_of (Qt_slMidE rfl) ?_ | refine QW_of (Qt_slLHE rfl) ?_)) | refine WL_nil ?_ | refine WC_seq ?_ | refine WC_block ?_ | refine WC_cond_t (ht := ?_) | refine WC_cond_f (he := ?_) | refine WC_skip ?_ | refine WC_ret ?_ | refine WC_exit ?_ | refine WG 4 ?_ | refine WG 6 ?_)
      rw [ww]
      refine ⟨_, _, by omega, ⟨i + 1, rfl, by omega, fun a q ha hq => ?_, rfl⟩, ⟨rfl, rfl, rfl, rfl, trivial⟩, rfl, .refl _⟩
      rcases Nat.lt_or_ge a i with g | g
      · exact hB a q g hq
      · obtain rfl : a = i := by omega
        rw [hx] at hq
        cases hq
        exact hpx
    · repeat (first | (refine WL_Q ?_; (first | refine QW_a ?_ | refine QW_of (Qt_ldX rfl (hn := by with_reducible assumption)) ?_ | refine QW_of (Qt_slMidE rfl) ?_ | refine QW_of (Qt_slLHE rfl) ?_)) | refine WL_nil ?_ | refine WC_seq ?_ | refine WC_block ?_ | refine WC_cond_t (ht := ?_) | refine WC_cond_f (he := ?_) | refine WC_skip ?_ | refine WC_ret ?_ | refine WC_exit ?_ | refine WG 4 ?_ | refine WG 5 ?_)
      exact ⟨rfl, _, _, Res1 rfl (resV_tmp rfl), .refl _, ⟨_, .inr ⟨i, x, rfl, hx, hpx⟩, rfl⟩, rfl⟩
  · have d2 : decide ((i : Int) < ((xs.length : Nat) : Int)) = false := decide_eq_false (by omega)
    repeat (first | (refine WL_Q ?_; (first | refine QW_a ?_ | refine QW_of (Qt_ldX rfl (hn := by with_reducible assumption)) ?_ | refine QW_of (Qt_slMidE rfl) ?_ | refine QW_of (Qt_slLHE rfl) ?_)) | refine WL_nil ?_ | refine WC_seq ?_ | refine WC_block ?_ | refine WC_cond_t (ht := ?_) | refine WC_cond_f (he := ?_) | refine WC_skip ?_ | refine WC_ret ?_ | refine WC_exit ?_ | refine WG 2 ?_ | refine WG 7 ?_)
    refine ⟨rfl, _, _, Res1 rfl (resV_tmp rfl), .refl _, ⟨_, .inl ⟨rfl, fun q hq => ?_⟩, rfl⟩, rfl⟩
    obtain ⟨a, ha⟩ := List.mem_iff_getElem?.1 hq
    exact hB a q (Nat.lt_of_lt_of_le (List.getElem?_eq_some_iff.1 ha).1 (by omega)) ha
set_option maxHeartbeats 2000000 in
theorem indexE_fn {v : Value} {xs : List EnV} {e : EnV} (hn : xs.length ≤ 100000) (he : e ∈ xs) {L : List (Nat × Obj)} (hv : Vec 10 L v xs.length (enL xs)) : Fn Tryz.prog 61 [v, .agg (enC e).toArray] L (fun r L' => (∃ k : Nat, xs[k]? = some e ∧ r = iV k) ∧ L' = L) := by
  obtain ⟨_, a1, cap1, rfl, _, _, h1⟩ := id hv
  refine Fn_enter Tryz.func61 rfl Tryz.ntmps61 rfl fun gw => ?_
  have hone := enC_one e
  have hsz : (enC e).toArray.size = 10 := rfl
  repeat (first | (refine WL_Q ?_; (first | refine QW_a ?_ | refine QW_of (Qt_ldX rfl (hn := by with_reducible assumption)) ?_ | refine QW_of (Qt_slMidE rfl) ?_ | refine QW_of (Qt_slLHE rfl) ?_)) | (refine WL_op rfl ?_; (first | refine OW_box rfl (hk := fun _ => ?_))) | refine WL_nil ?_ | refine WC_seq ?_ | refine WC_block ?_ | refine WC_cond_t (ht := ?_) | refine WC_cond_f (he := ?_) | refine WC_skip ?_ | refine WC_ret ?_ | refine WC_exit ?_ | refine WG 0 ?_ | refine WG 1 ?_)
  rename_i x3
  have hv := hv.cons (x3, Obj.cells (enC e).toArray 53 (0, 0))
  obtain ⟨_, _, _, e0, _, _, h1⟩ := hv
  cases e0
  refine WC_wk [(8, .int .i64 0), (7, .int .i64 (xs.length : Nat)), (0, .slice a1 xs.length cap1), (3, .pointer (some ⟨x3, 0, none⟩))] ⟨rfl, rfl, rfl, rfl, trivial⟩ ?_
  refine WC_loop (fun m σ => ∃ i : Nat, m = xs.length - i ∧ i ≤ xs.length ∧ (∀ (a : Nat) q, a < i → xs[a]? = some q → q ≠ e) ∧ σ = ⟨[(8, .int .i64 i), (7, .int .i64 (xs.length : Nat)), (0, .slice a1 xs.length cap1), (3, .pointer (some ⟨x3, 0, none⟩))], [], (x3, Obj.cells (enC e).toArray 53 (0, 0)) :: L⟩) xs.length ⟨0, by omega, by omega, fun a q h => by omega, rfl⟩ ?_
  rintro m σ ⟨i, rfl, hi, hB, rfl⟩
  by_cases hlt : i < xs.length
  rotate_left
  · exfalso
    obtain ⟨a, ha⟩ := List.mem_iff_getElem?.1 he
    exact hB a e (Nat.lt_of_lt_of_le (List.getElem?_eq_some_iff.1 ha).1 (by omega)) ha rfl
  have d2 : decide ((i : Int) < ((xs.length : Nat) : Int)) = true := decide_eq_true (by omega)
  obtain ⟨x, hx⟩ : ∃ x, xs[i]? = some x := ⟨_, List.getElem?_eq_getElem hlt⟩
  obtain ⟨g1, o1, cu1, E1, fr1, i1, rfl, hi1, hc1⟩ := h1.resolve_left (by omega)
  obtain ⟨x1, x2⟩ := enL_ext hc1 hx
  have p0 : (0 : Int) ≤ (i : Int) := by omega
  have p1 : ((i : Nat) : Int) < ((xs.length : Nat) : Int) := by omega
  have y1 : o1 + ((i : Nat) : Int).toNat * 10 + 10 ≤ cu1.size := by rw [Int.toNat_natCast]; exact x2
  have v1 : cu1.extract (o1 + ((i : Nat) : Int).toNat * 10) (o1 + ((i : Nat) : Int).toNat * 10 + 10) = (enC x).toArray := by rw [Int.toNat_natCast]; exact x1
  have ww : IntKind.i64.wrap ((i : Int) + 1) = ((i + 1 : Nat) : Int) := by rw [wI64 (by omega) (by omega)]; omega
  repeat (first | (refine WL_Q ?_; (first | refine QW_a ?_ | refine QW_of (Qt_ldX rfl (hn := by with_reducible assumption)) ?_ | refine QW_of (Qt_slMidE rfl) ?_ | refine QW_of (Qt_slLHE rfl) ?_)) | refine WL_nil ?_ | refine WC_seq ?_ | refine WC_block ?_ | refine WC_cond_t (ht := ?_) | refine WC_cond_f (he := ?_) | refine WC_skip ?_ | refine WC_ret ?_ | refine WC_exit ?_ | refine WG 2 ?_ | refine WG 3 ?_)
  refine WC_draw_sub (id := 4) 6 (Cs [0,1,2,3,4,5] <| .done) mixed (by kernel_rfl) (List.Sublist.refl _) ?_
  repeat (first | (refine RX ?_; (first | refine QW_a ?_ | refine QW_of (Qt_ldX rfl (hn := by with_reducible assumption)) ?_ | refine QW_of (Qt_slMidE rfl) ?_ | refine QW_of (Qt_slLHE rfl) ?_)) | refine WL_nil ?_ | refine WR_nil ?_ | refine WC_seq ?_ | refine WC_block ?_ | refine WC_cond_t (ht := ?_) | refine WC_cond_f (he := ?_) | refine WC_skip ?_ | refine WC_ret ?_ | refine WC_exit ?_ | refine WC_draw_all (id := 4) 6 (Cs [0,1,2,3,4,5] <| .done) mixed (by kernel_rfl) ?_)
  all_goals (try rw [v1])
  by_cases hpe : x = e
  · subst hpe
    refine WR_Q rfl (QW_of (Qt_eqlX (xs' := (enC x).toArray) (ys' := (enC x).toArray) rfl rfl rfl (rx := enX_rv x) (ry := enX_rv x) (he := en_same x) (hg := by kernel_rfl)) ?_)
    repeat (first | (refine RX ?_; (first | refine QW_a ?_ | refine QW_of (Qt_ldX rfl (hn := by with_reducible assumption)) ?_ | refine QW_of (Qt_slMidE rfl) ?_ | refine QW_of (Qt_slLHE rfl) ?_)) | refine WL_nil ?_ | refine WR_nil ?_ | refine WC_seq ?_ | refine WC_block ?_ | refine WC_cond_t (ht := ?_) | refine WC_cond_f (he := ?_) | refine WC_skip ?_ | refine WC_ret ?_ | refine WC_exit ?_ | refine WC_draw_all (id := 4) 6 (Cs [0,1,2,3,4,5] <| .done) mixed (by kernel_rfl) ?_ | refine WG 5 ?_)
    exact ⟨rfl, _, _, Res1 rfl (resV_tmp rfl), .cons _ (.refl _), ⟨i, hx, rfl⟩, rfl⟩
  · refine WR_Q rfl (QW_of (Qt_eqlX (xs' := (enC e).toArray) (ys' := (enC x).toArray) rfl rfl rfl (rx := enX_rv e) (ry := enX_rv x) (he := en_ne fun h => hpe h.symm) (hg := by kernel_rfl)) ?_)
    repeat (first | (refine RX ?_; (first | refine QW_a ?_ | refine QW_of (Qt_ldX rfl (hn := by with_reducible assumption)) ?_ | refine QW_of (Qt_slMidE rfl) ?_ | refine QW_of (Qt_slLHE rfl) ?_)) | refine WL_nil ?_ | refine WR_nil ?_ | refine WC_seq ?_ | refine WC_block ?_ | refine WC_cond_t (ht := ?_) | refine WC_cond_f (he := ?_) | refine WC_skip ?_ | refine WC_ret ?_ | refine WC_exit ?_ | refine WC_draw_all (id := 4) 6 (Cs [0,1,2,3,4,5] <| .done) mixed (by kernel_rfl) ?_ | refine WG 6 ?_)
    rw [ww]
    refine ⟨_, _, by omega, ⟨i + 1, rfl, by omega, fun a q ha hq => ?_, rfl⟩, ⟨rfl, rfl, rfl, rfl, trivial⟩, rfl, .refl _⟩
    rcases Nat.lt_or_ge a i with g | g
    · exact hB a q g hq
    · obtain rfl : a = i := by omega
      rw [hx] at hq
      cases hq
      exact hpe
theorem vec_drop {g E off cap : Nat} {cur : Array Value} {xs : List EnV} {L : List (Nat × Obj)} (ho : OwnE cur off cap xs) (hi : L[0]? = some (g, .cells cur E (0, 0))) {k : Nat} (hk : k ≤ xs.length) : Vec 10 L (.slice (some ⟨g, slOff cap k off 10, none⟩) (xs.length - k) (cap - k)) (xs.length - k) (enL (xs.drop k)) := by
  have hle := Own.le ho
  have hmx := Own.max ho
  refine ⟨by rw [enL_len, List.length_drop], _, _, rfl, by omega, by omega, ?_⟩
  rcases Nat.eq_or_lt_of_le hk with rfl | hk
  · exact .inl (Nat.sub_self _)
  refine .inr ⟨g, off + k * 10, cur, E, (0, 0), 0, ?_, hi, fun j v hj => ?_⟩
  · unfold slOff
    rw [if_neg (by omega)]
  · rw [Nat.add_assoc]
    refine Own.at_ ho (k * 10 + j) v ?_
    have e : enL xs = enL (xs.take k) ++ enL (xs.drop k) := by rw [← enL_append, List.take_append_drop]
    rw [e, List.getElem?_append_right (by rw [enL_len, List.length_take]; omega), enL_len, List.length_take, show k * 10 + j - min k xs.length * 10 = j by omega]
    exact hj
set_option maxHeartbeats 2000000 in
theorem deleteE_fn {g off cap : Nat} {cur : Array Value} {xs : List EnV} {i : Nat} (ho : OwnE cur off cap xs) (hn : xs.length ≤ 100000) (hi : i < xs.length) {L : List (Nat × Obj)} : Fn Tryz.prog 62 [.slice (some ⟨g, off, none⟩) xs.length cap, iV i, iV ((i + 1 : Nat) : Int)] ((g, .cells cur 53 (0, 0)) :: L) (fun r L' => ∃ cur', r = .slice (some ⟨g, off, none⟩) (xs.take i ++ xs.drop (i + 1)).length cap ∧ OwnE cur' off cap (xs.take i ++ xs.drop (i + 1)) ∧ L' = (g, .cells cur' 53 (0, 0)) :: L) := by
  have hle := Own.le ho
  have hmx := Own.max ho
  have hlen : (xs.take i ++ xs.drop (i + 1)).length = xs.length - 1 := by rw [List.length_append, List.length_take, List.length_drop]; omega
  refine Fn_enter Tryz.func62 rfl Tryz.ntmps62 rfl fun gw => ?_
  have d1 : ((i : Int) == ((i + 1 : Nat) : Int)) = false := by simp; omega
  have p0 : (0 : Int) ≤ (i : Int) := by omega
  have p1 : (i : Int) ≤ ((i + 1 : Nat) : Int) := by omega
  have p2 : ((i + 1 : Nat) : Int) ≤ ((xs.length : Nat) : Int) := by omega
  have p3 : ((xs.length : Nat) : Int) ≤ ((cap : Nat) : Int) := by omega
  have p4 : (i : Int) ≤ ((cap : Nat) : Int) := by omega
  have p5 : (0 : Int) ≤ ((i + 1 : Nat) : Int) := by omega
  repeat (first | (refine WL_Q ?_; (first | refine QW_a ?_ | refine QW_of (Qt_ldX rfl (hn := by with_reducible assumption)) ?_ | refine QW_of (Qt_slMidE rfl) ?_ | refine QW_of (Qt_slLHE rfl) ?_)) | refine WL_nil ?_ | refine WC_seq ?_ | refine WC_cond_t (ht := ?_) | refine WC_cond_f (he := ?_) | refine WC_skip ?_ | refine WC_ret ?_ | refine WG 0 ?_ | refine WG 1 ?_ | refine WG 2 ?_ | refine WG 4 ?_)
  refine WC_draw_sub (id := 5) 8 (Cs [0,1,2,3,4,5] <| .must 6 <| .calm 7 <| .done) mixed (by kernel_rfl) (List.nil_sublist _) ?_
  repeat (first | (refine RX ?_; (first | refine QW_a ?_ | refine QW_of (Qt_ldX rfl (hn := by with_reducible assumption)) ?_ | refine QW_of (Qt_slMidE rfl) ?_ | refine QW_of (Qt_slLHE rfl) ?_)) | refine WL_nil ?_ | refine WR_nil ?_ | refine WC_seq ?_ | refine WC_cond_t (ht := ?_) | refine WC_cond_f (he := ?_) | refine WC_skip ?_ | refine WC_ret ?_ | refine WC_draw_all (id := 5) 8 (Cs [0,1,2,3,4,5] <| .must 6 <| .calm 7 <| .done) mixed (by kernel_rfl) ?_)
  have hv := vec_drop (L := (g, .cells cur 53 (0, 0)) :: L) ho rfl (k := i + 1) (by omega)
  refine WR_op rfl rfl (OW_append_in (m := xs.length - (i + 1)) (news := enL (xs.drop (i + 1))) rfl rfl rfl rfl rfl 0 rfl (srcVec hv enL_one) (by rw [Int.toNat_natCast]; omega) (by simpa using Own.fit ho) ?_)
  have hc := OwnE.cut ho hi
  rw [Int.toNat_natCast]
  simp only [List.set_cons_zero]
  refine ⟨fun q hq => (nomatch hq), ?_⟩
  rw [show i + (xs.length - (i + 1)) = (xs.take i ++ xs.drop (i + 1)).length by omega]
  obtain ⟨ys, hys⟩ : ∃ ys, ys = xs.take i ++ xs.drop (i + 1) := ⟨_, rfl⟩
  rw [← hys] at hc hlen ⊢
  have q0 : (0 : Int) ≤ ((ys.length : Nat) : Int) := by omega
  have q1 : ((ys.length : Nat) : Int) ≤ ((xs.length : Nat) : Int) := by omega
  repeat (first | (refine RX ?_; (first | refine QW_a ?_ | refine QW_of (Qt_ldX rfl (hn := by with_reducible assumption)) ?_ | refine QW_of (Qt_slMidE rfl) ?_ | refine QW_of (Qt_slLHE rfl) ?_)) | refine WL_nil ?_ | refine WR_nil ?_ | refine WC_seq ?_ | refine WC_cond_t (ht := ?_) | refine WC_cond_f (he := ?_) | refine WC_skip ?_ | refine WC_ret ?_ | refine WC_draw_all (id := 5) 8 (Cs [0,1,2,3,4,5] <| .must 6 <| .calm 7 <| .done) mixed (by kernel_rfl) ?_ | refine WG 6 ?_)
  have hsl : slOff cap (((ys.length : Nat) : Int)).toNat off 10 = off + ys.length * 10 := by
    rw [Int.toNat_natCast]
    unfold slOff
    rw [if_neg (by omega)]
  rw [hsl]
  refine WL_op rfl (OW_clear (sz := 10) rfl rfl rfl 0 rfl rfl (Array.all_eq_true_iff_forall_mem.1 (by kernel_rfl)) ?_ ?_)
  · right
    have := Own.fit hc
    rw [Int.toNat_natCast, Int.toNat_natCast]
    omega
  intro cs' hsz' hget
  simp only [List.set_cons_zero]
  repeat (first | (refine WL_Q ?_; (first | refine QW_a ?_ | refine QW_of (Qt_ldX rfl (hn := by with_reducible assumption)) ?_ | refine QW_of (Qt_slMidE rfl) ?_ | refine QW_of (Qt_slLHE rfl) ?_)) | refine WL_nil ?_ | refine WC_seq ?_ | refine WC_cond_t (ht := ?_) | refine WC_cond_f (he := ?_) | refine WC_skip ?_ | refine WC_ret ?_ | refine WG 6 ?_ | refine WG 7 ?_)
  refine ⟨rfl, _, _, Res1 rfl (resV_tmp rfl), .refl _, cs', rfl, ⟨by rw [enL_len], by omega, hmx, by rw [hsz']; exact Own.fit hc, fun j v hj => ?_⟩, rfl⟩
  rw [hget _ (.inl (by have := (List.getElem?_eq_some_iff.1 hj).1; rw [enL_len] at this; omega))]
  exact Own.at_ hc j v hj
end Go.Proofs.YtekmmhmhcpaiaaaGreat
