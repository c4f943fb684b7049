/-
  A part of what the last of these texts needs; by itself it proves no statement.
-/
import Derived.Test.YtekmmhmhcpaiaaaGreatKP33
namespace Go.Proofs.YtekmmhmhcpaiaaaGreat
open Go.RowKit
theorem rcL_one {l : List OutV} : ∀ u ∈ rcL l, u.oneCell' = true := by
  intro u hu
  obtain ⟨x, _, hx⟩ := List.mem_flatMap.1 hu
  simp only [rcC, List.mem_cons, List.not_mem_nil, or_false] at hx
  rcases hx with rfl | rfl | rfl | rfl | rfl | rfl <;> rfl
attribute [local irreducible] Fn WC WL WR OW Qt YieldFn QW FnP FnD FnE
set_option maxHeartbeats 2000000 in
theorem partNew_fn {tb : Nat} {tv : TbV} {nd : Int} {c : PtV} {L : List (Nat × Obj)} (ht : TabIn tb L tv) (hN : NodeIn tv nd c) (hc : c.cls ≠ 0) : Fn Tryz.prog 7 [.pointer (some ⟨tb, 0, none⟩), iV nd] L (fun v L' => ∃ pb mb S, v = .pointer (some ⟨pb, 0, none⟩) ∧ L' = S ++ L ∧ PtAt pb mb tb nd c.cls S [] []) := by
  obtain ⟨⟨k, a, b, g⟩, hop⟩ : ∃ o : OpV, c.o0 = o := ⟨_, rfl⟩
  have hcl : c.cls = clsF k := by unfold PtV.cls; rw [hop]
  refine Fn_enter Tryz.func7 rfl Tryz.ntmps7 rfl fun gw => ?_
  have hO := nodeOp_fn (v := 0) (k := k) (a := a) (b := b) (g := g) hN (Nat.zero_le _) (by show c.o0 = _; exact hop) ht
  have d : (clsF k != 0) = true := by rw [← hcl]; simpa using hc
  repeat (first | ((first | refine WL_Q ?_ | refine WL_Y ?_); (first | refine QW_a ?_ | refine QW_of (Qt_ldX rfl (hn := by with_reducible assumption)) ?_)) | ((first | refine WL_op rfl ?_ | refine WL_yes (h := ?_)); (first | refine OW_alloc rfl (hk := fun _ => ?_) | refine OW_stA rfl ?_ | refine OW_stN rfl ?_ | refine OW_box rfl (hk := fun _ => ?_) | refine OW_callP rfl (hF := Class_fn) (hk := ?_) | refine OW_callP rfl (hF := hO) (hk := ?_))) | refine WL_nil ?_ | refine WL_un (h := ?_) | refine WL_N ?_ | refine WL_M ?_ | refine WC_seq ?_ | refine WC_cond_t (ht := ?_) | refine WC_cond_f (he := ?_) | refine WC_skip ?_ | refine WC_ret ?_ | refine WG 0 ?_ | refine WG 1 ?_ | refine WG 2 ?_ | refine WG 3 ?_ | refine WG 4 ?_)
  refine WL_op rfl (OW_makeMap rfl fun mb => ?_)
  repeat (first | (refine WL_Q ?_; (first | refine QW_a ?_ | refine QW_of (Qt_ldX rfl (hn := by with_reducible assumption)) ?_)) | (refine WL_op rfl ?_; (first | refine OW_box rfl (hk := fun _ => ?_))) | refine WL_nil ?_ | refine WC_seq ?_ | refine WC_cond_t (ht := ?_) | refine WC_cond_f (he := ?_) | refine WC_skip ?_ | refine WC_ret ?_ | refine WG 4 ?_)
  rename_i pb
  refine ⟨rfl, _, [(pb, Obj.cells (PtC tb mb nd (clsF k) 0) 89 (0, 0)), (mb, Obj.map #[] 0)] ++ L, Res1 rfl (resV_tmp rfl), .cons_cons _ (.cons_cons _ (.cons _ (.refl _))), pb, mb, _, rfl, rfl, ⟨_, _, [], by rw [hcl]; rfl, MapV.empty _, ⟨(fun g v h => by cases h), (fun x h => by cases h)⟩⟩⟩
theorem partLen_fn {pb mb tb : Nat} {nd cl : Int} {S G F : List (Nat × Obj)} {l : List EnV} (h : PtAt pb mb tb nd cl S G l) : Fn Tryz.prog 12 [.pointer (some ⟨pb, 0, none⟩)] (S ++ F) (fun v L' => v = iV l.length ∧ L' = S ++ F) := by
  obtain ⟨es, ck, ps, rfl, hm, hr⟩ := h.h
  refine Fn_enter Tryz.func12 rfl Tryz.ntmps12 rfl fun gw => ?_
  repeat (first | (refine WL_Q ?_; (first | refine QW_a ?_ | refine QW_of (Qt_ldX rfl (hn := by with_reducible assumption)) ?_)) | refine WL_nil ?_ | refine WC_seq ?_ | refine WC_cond_t (ht := ?_) | refine WC_cond_f (he := ?_) | refine WC_skip ?_ | refine WC_ret ?_ | refine WC_region ?_)
  exact ⟨rfl, _, _, Res1 rfl (resV_tmp rfl), .refl _, rfl, rfl⟩
set_option maxHeartbeats 4000000 in
theorem drained_fn {pb mb tb : Nat} {nd : Int} {c : PtV} {tv : TbV} {S G F : List (Nat × Obj)} {l : List EnV} {upto : Int} (h : PtAt pb mb tb nd c.cls S G l) (ht : TabIn tb G tv) (hN : NodeIn tv nd c) (hG : ∀ q ∈ G, q ∈ F) (hk : PtOk c) (hl : LsOk c l) (hcnt : cnt5 c.rs.length l ≤ 1000000000) :
    Fn Tryz.prog 10 [.pointer (some ⟨pb, 0, none⟩), iV upto] (S ++ F) (fun v L' => ∃ S' T l' o, L' = S' ++ (T ++ F) ∧ PtAt pb mb tb nd c.cls S' (T ++ G) l' ∧ VecM 6 T v o.length (rcL o) ∧ LsOk c l' ∧ FallsC c upto l l' o) := by
  refine Fn_enter Tryz.func10 rfl Tryz.ntmps10 rfl fun gw => ?_
  repeat (first | (refine WL_Q ?_; (first | refine QW_a ?_ | refine QW_of (Qt_ldX rfl (hn := by with_reducible assumption)) ?_)) | refine WL_nil ?_ | refine WC_seq ?_ | refine WC_block ?_ | refine WC_cond_t (ht := ?_) | refine WC_cond_f (he := ?_) | refine WC_skip ?_ | refine WC_ret ?_ | refine WG 0 ?_ | refine WG 1 ?_)
  refine WC_wk [(5, .slice none 0 0), (4, .slice none 0 0), (0, .pointer (some ⟨pb, 0, none⟩)), (1, iV upto)] ⟨rfl, rfl, rfl, rfl, trivial⟩ ?_
  refine WC_loop (fun m σ => ∃ (S' T Tb : List (Nat × Obj)) (l' : List EnV) (o : List OutV) (v : Value), m = cnt5 c.rs.length l' ∧ PtAt pb mb tb nd c.cls S' (T ++ G) l' ∧ LsOk c l' ∧ Buf 35 6 v Tb o.length (rcL o) ∧ o.length + cnt5 c.rs.length l' ≤ cnt5 c.rs.length l ∧ (∀ l'' o'', FallsC c upto l' l'' o'' → FallsC c upto l l'' (o ++ o'')) ∧ σ = ⟨[(5, v), (4, .slice none 0 0), (0, .pointer (some ⟨pb, 0, none⟩)), (1, iV upto)], [], S' ++ (Tb ++ (T ++ F))⟩) (cnt5 c.rs.length l) ⟨S, [], [], l, [], _, rfl, h, hl, Buf.nil _ _, by simp, fun _ _ h => h, rfl⟩ ?_
  rintro _ σ ⟨S', T, Tb, l', o, v, rfl, h', hl', hb, hol, hf, rfl⟩
  have hGF : ∀ q ∈ T ++ G, q ∈ Tb ++ (T ++ F) := fun q hq => List.mem_append_right _ (by
    rcases List.mem_append.1 hq with hq | hq
    · exact List.mem_append_left _ hq
    · exact List.mem_append_right _ (hG q hq))
  repeat (first | (refine WL_Q ?_; (first | refine QW_a ?_ | refine QW_of (Qt_ldX rfl (hn := by with_reducible assumption)) ?_)) | (refine WL_op rfl ?_; (first | (refine OW_call rfl (hF := Fire_fn (F := Tb ++ (T ++ F)) h' (ht.mem fun q hq => List.mem_append_right _ hq) hN hGF hk hl') (hk := ?_); rintro _ _ ⟨S2, T2, l2, vr, o2, is, rfl, rfl, h2, hv2, hcase⟩))) | refine WL_nil ?_ | refine WC_seq ?_ | refine WC_block ?_ | refine WC_cond_t (ht := ?_) | refine WC_cond_f (he := ?_) | refine WC_skip ?_ | refine WC_ret ?_ | refine WG 2 ?_)
  rcases hcase with ⟨rfl, rfl, rfl, hno⟩ | ⟨rfl, e, l1, hp, hdu, hmin, rfl, rfl⟩
  · repeat (first | (refine WL_Q ?_; (first | refine QW_a ?_ | refine QW_of (Qt_ldX rfl (hn := by with_reducible assumption)) ?_)) | refine WL_nil ?_ | refine WC_seq ?_ | refine WC_block ?_ | refine WC_cond_t (ht := ?_) | refine WC_cond_f (he := ?_) | refine WC_skip ?_ | refine WC_ret ?_ | refine WG 3 ?_ | refine WG 4 ?_)
    refine ⟨rfl, _, S2 ++ ((T2 ++ (Tb ++ T)) ++ F), Res1 rfl (resV_tmp rfl), by simp only [List.append_assoc]; exact .refl _, S2, T2 ++ (Tb ++ T), l2, o, rfl, h2.mem fun q hq => ?_, hb.vecM.mem fun q hq => List.mem_append_right _ (List.mem_append_left _ hq), hl', ?_⟩
    · simp only [List.mem_append] at hq ⊢
      rcases hq with h | h | h
      · exact .inl (.inl h)
      · exact .inl (.inr (.inr h))
      · exact .inr h
    · have := hf l2 [] (.done hno (.refl _))
      rwa [List.append_nil] at this
  · have hol2 : (outC c e).length ≤ 1 := by
      by_cases hc : c.cls = 1
      · rw [outC_win hc]
        unfold outW
        split <;> simp
      · rw [outC_join hc]
        simp
    have hc5 := cnt5_fall (c := c) hp
    obtain ⟨av, cv, rfl, _, _⟩ := id hb.val
    repeat (first | (refine WL_Q ?_; (first | refine QW_a ?_ | refine QW_of (Qt_ldX rfl (hn := by with_reducible assumption)) ?_)) | refine WL_nil ?_ | refine WC_seq ?_ | refine WC_block ?_ | refine WC_cond_t (ht := ?_) | refine WC_cond_f (he := ?_) | refine WC_skip ?_ | refine WC_ret ?_ | refine WG 3 ?_ | refine WG 5 ?_)
    refine WL_permN (L' := (S2 ++ T2) ++ (Tb ++ (T ++ F))) (by rw [List.append_assoc]) ?_
    refine WL_op rfl (OW_append_bufM rfl rfl rfl rfl rfl hb (srcVec (sz := 6) (hv2.vec fun q hq => List.mem_append_left _ (List.mem_append_right _ hq)) rcL_one) (rcL_len _) (by simp only [maxLen]; omega) (by omega) ?_)
    intro v' Tb' hb'
    refine WL_permN (L' := S2 ++ (Tb' ++ ((T2 ++ T) ++ F))) (by
      classical
      rw [List.perm_iff_count]
      intro q
      simp only [List.count_append]
      omega) ?_
    repeat (first | (refine WL_Q ?_; (first | refine QW_a ?_ | refine QW_of (Qt_ldX rfl (hn := by with_reducible assumption)) ?_)) | refine WL_nil ?_ | refine WC_seq ?_ | refine WC_block ?_ | refine WC_cond_t (ht := ?_) | refine WC_cond_f (he := ?_) | refine WC_skip ?_ | refine WC_ret ?_ | refine WG 5 ?_)
    rw [← rcL_append, ← List.length_append] at hb'
    refine ⟨_, _, hc5, ⟨S2, T2 ++ T, Tb', _, o ++ outC c e, v', rfl, ?_, hl'.perm hp |>.fall hk, hb', by rw [List.length_append]; omega, fun l'' o'' hff => ?_, rfl⟩, ⟨rfl, rfl, rfl, rfl, trivial⟩, rfl, .refl _⟩
    · rw [List.append_assoc]
      exact h2
    · rw [List.append_assoc]
      exact hf _ _ (.step hp hdu hmin hff)
end Go.Proofs.YtekmmhmhcpaiaaaGreat
namespace Go.Proofs.YtekmmhmhcpaiaaaGreat
open Go.RowKit
theorem rcL_cons (x : OutV) (l : List OutV) : rcL (x :: l) = rcC x ++ rcL l := rfl
theorem rcL_get : ∀ (l : List OutV) (k : Nat), (rcL l)[k]? = (l[k / 6]?).bind fun x => (rcC x)[k % 6]?
  | [], k => by simp [rcL]
  | x :: l, k => by
    have hx : (rcC x).length = 6 := rfl
    rw [rcL_cons]
    by_cases h : k < 6
    · rw [List.getElem?_append_left (by omega), Nat.div_eq_of_lt h, Nat.mod_eq_of_lt h]
      rfl
    · rw [List.getElem?_append_right (by omega), hx, rcL_get l (k - 6)]
      have e1 : k / 6 = (k - 6) / 6 + 1 := by omega
      have e2 : k % 6 = (k - 6) % 6 := by omega
      rw [e1, e2, List.getElem?_cons_succ]
theorem rcL_ext {l : List OutV} {off k : Nat} {cs : Array Value} {x : OutV} (hx : ∀ (j : Nat) (v : Value), (rcL l)[j]? = some v → cs[off + j]? = some v) (hk : l[k]? = some x) : cs.extract (off + k * 6) (off + k * 6 + 6) = (rcC x).toArray ∧ off + k * 6 + 6 ≤ cs.size := by
  refine ext_of (l := rcC x) rfl (by decide) fun j hj => ?_
  have h3 : (rcC x)[j]? = some ((rcC x)[j]'hj) := List.getElem?_eq_getElem _
  rw [Nat.add_assoc]
  rw [h3]
  refine hx _ _ ?_
  rw [rcL_get, show (k * 6 + j) / 6 = k by omega, show (k * 6 + j) % 6 = j by omega, hk]
  exact h3
theorem rcC_one (x : OutV) : ((rcC x).toArray.toList.all fun v => v.oneCell') = true := rfl
abbrev OwnO (cur : Array Value) (off cap : Nat) (xs : List OutV) : Prop := Own 6 cur off cap xs.length (rcL xs)
theorem OwnO.put {cur : Array Value} {off cap : Nat} {ys : List OutV} (h : OwnO cur off cap ys) {i : Nat} (hi : i < ys.length) (x : OutV) : OwnO (putR cur (off + i * 6) (rcC x).toArray) off cap (ys.set i x) := by
  have hf := Own.fit h
  have hle := Own.le h
  have hsz : (rcC x).toArray.size = 6 := rfl
  have hb : off + i * 6 + (rcC x).toArray.size ≤ cur.size := by rw [hsz]; omega
  unfold OwnO
  rw [List.length_set]
  refine ⟨by rw [rcL_len, List.length_set], hle, Own.max h, by rw [putR_sizeE hb]; exact hf, fun k v hk => ?_⟩
  rw [rcL_get, List.getElem?_set] at hk
  rw [putR_getE hb, hsz]
  by_cases hik : i = k / 6
  · rw [if_pos hik, if_pos hi] at hk
    rw [if_pos (by omega), List.getElem?_toArray, show off + k - (off + i * 6) = k % 6 by omega]
    exact hk
  · rw [if_neg hik] at hk
    rw [if_neg (by omega)]
    exact Own.at_ h k v (by rw [rcL_get]; exact hk)
attribute [local irreducible] Fn WC WL WR OW Qt YieldFn QW FnP FnD FnE
theorem putRec_fn {k s t v : Int} (hk : 0 ≤ k ∧ k < 256) (ht : 0 ≤ t ∧ t < 65536) {L : List (Nat × Obj)} : Fn Tryz.prog 9 [.agg #[.int .u8 k, .int .u8 s, .int .u16 t, .int .i64 v]] L (fun r L' => r = .agg (rcI (k % 3) (t % 300) v s) ∧ L' = L) := by
  refine Fn_enter Tryz.func9 rfl Tryz.ntmps9 rfl fun gw => ?_
  repeat (first | refine RQ ?_ | (refine WL_Q ?_; (first | refine QW_of (Qt_ldX rfl (hn := by with_reducible assumption)) ?_)) | (refine RE ?_; try intro _) | refine RC ?_ | refine WC_region ?_)
  have w1 : IntKind.u32.wrap (k.tmod 3) = k % 3 := by
    rw [Int.tmod_eq_emod_of_nonneg hk.1]
    unfold IntKind.wrap
    simp [IntKind.signed, IntKind.bits]
    omega
  have w2 : IntKind.i64.wrap (t.tmod 300) = t % 300 := by rw [Int.tmod_eq_emod_of_nonneg ht.1, wI64 (by omega) (by omega)]
  rw [w1, w2]
  exact ⟨rfl, _, _, Res1 rfl (resV_cellN rfl 0 rfl rfl), .cons _ (.cons _ (.refl _)), rfl, rfl⟩
theorem less_fn {a b : OutV} {L : List (Nat × Obj)} : Fn Tryz.prog 59 [.agg (rcC a).toArray, .agg (rcC b).toArray] L (fun v L' => v = .bool (lessO a b) ∧ L' = L) := by
  refine Fn_enter Tryz.func59 rfl Tryz.ntmps59 rfl fun gw => ?_
  unfold rcC lessO
  cases h1 : (a.time != b.time)
  · have e1 : ¬ a.time ≠ b.time := by simpa using h1
    rw [if_neg e1]
    cases h2 : (a.key != b.key)
    · have e2 : ¬ a.key ≠ b.key := by simpa using h2
      rw [if_neg e2]
      cases h3 : (a.val != b.val)
      · have e3 : ¬ a.val ≠ b.val := by simpa using h3
        rw [if_neg e3]
        cases h4 : (!a.err)
        · repeat (first | refine RQ ?_ | ((first | refine WL_Q ?_ | refine WL_Y ?_); (first | refine QW_of (Qt_ldX rfl (hn := by with_reducible assumption)) ?_)) | (refine RE ?_; try intro _) | refine RC ?_ | refine WC_region ?_)
          exact ⟨rfl, _, _, Res1 rfl (resV_tmp rfl), .cons _ (.cons _ (.refl _)), rfl, rfl⟩
        · repeat (first | refine RQ ?_ | ((first | refine WL_Q ?_ | refine WL_Y ?_); (first | refine QW_of (Qt_ldX rfl (hn := by with_reducible assumption)) ?_)) | (refine RE ?_; try intro _) | refine RC ?_ | refine WC_region ?_)
          exact ⟨rfl, _, _, Res1 rfl (resV_tmp rfl), .cons _ (.cons _ (.refl _)), rfl, rfl⟩
      · have e3 : a.val ≠ b.val := by simpa using h3
        rw [if_pos e3]
        repeat (first | refine RQ ?_ | ((first | refine WL_Q ?_ | refine WL_Y ?_); (first | refine QW_of (Qt_ldX rfl (hn := by with_reducible assumption)) ?_)) | (refine RE ?_; try intro _) | refine RC ?_ | refine WC_region ?_)
        exact ⟨rfl, _, _, Res1 rfl (resV_tmp rfl), .cons _ (.cons _ (.refl _)), rfl, rfl⟩
    · have e2 : a.key ≠ b.key := by simpa using h2
      rw [if_pos e2]
      repeat (first | refine RQ ?_ | ((first | refine WL_Q ?_ | refine WL_Y ?_); (first | refine QW_of (Qt_ldX rfl (hn := by with_reducible assumption)) ?_)) | (refine RE ?_; try intro _) | refine RC ?_ | refine WC_region ?_)
      exact ⟨rfl, _, _, Res1 rfl (resV_tmp rfl), .cons _ (.cons _ (.refl _)), rfl, rfl⟩
  · have e1 : a.time ≠ b.time := by simpa using h1
    rw [if_pos e1]
    repeat (first | refine RQ ?_ | ((first | refine WL_Q ?_ | refine WL_Y ?_); (first | refine QW_of (Qt_ldX rfl (hn := by with_reducible assumption)) ?_)) | (refine RE ?_; try intro _) | refine RC ?_ | refine WC_region ?_)
    exact ⟨rfl, _, _, Res1 rfl (resV_tmp rfl), .cons _ (.cons _ (.refl _)), rfl, rfl⟩
set_option maxHeartbeats 8000000 in
theorem sorted_fn {v : Value} {l : List OutV} {F : List (Nat × Obj)} (hv : VecM 6 F v l.length (rcL l)) (hn : l.length ≤ 1000000) : Fn Tryz.prog 29 [v] F (fun r L' => ∃ T zs, Buf 35 6 r T zs.length (rcL zs) ∧ zs.Perm l ∧ SortedO zs ∧ L' = T ++ F) := by
  obtain ⟨_, va, vcap, rfl, _, hvm, _⟩ := id hv
  refine Fn_enter Tryz.func29 rfl Tryz.ntmps29 rfl fun gw => ?_
  repeat (first | refine RQ ?_ | (refine WL_Q ?_; (first | refine QW_of (Qt_ldX rfl (hn := by with_reducible assumption)) ?_)) | refine RC ?_ | refine WG 0 ?_ | refine WG 1 ?_ | refine WG 2 ?_)
  refine WC_wk [(4, iV ((0 : Nat) : Int)), (3, .slice none 0 0), (0, .slice va l.length vcap)] ⟨rfl, rfl, rfl, trivial⟩ ?_
  refine WC_loop (fun m σ => ∃ (i : Nat) (w : Value) (T : List (Nat × Obj)) (zs : List OutV), m = l.length - i ∧ i ≤ l.length ∧ Buf 35 6 w T zs.length (rcL zs) ∧ zs.Perm (l.take i) ∧ SortedO zs ∧ σ = ⟨[(4, iV (i : Int)), (3, w), (0, .slice va l.length vcap)], [], T ++ F⟩) l.length ⟨0, _, [], [], rfl, Nat.zero_le _, Buf.nil _ _, .refl _, List.Pairwise.nil, rfl⟩ ?_
  rintro _ σ ⟨i, w, T, zs, rfl, hi, hb, hp, hs, rfl⟩
  have hzl : zs.length = i := by rw [hp.length_eq, List.length_take]; omega
  by_cases hlt : i < l.length
  rotate_left
  · have d1 : decide ((i : Int) < ((l.length : Nat) : Int)) = false := decide_eq_false (by omega)
    rw [List.take_of_length_le (by omega)] at hp
    repeat (first | refine RQ ?_ | (refine WL_Q ?_; (first | refine QW_of (Qt_ldX rfl (hn := by with_reducible assumption)) ?_)) | refine RC ?_ | refine WG 3 ?_ | refine WG 11 ?_)
    exact ⟨rfl, _, _, Res1 rfl (resV_tmp rfl), .refl _, T, zs, hb, hp, hs, rfl⟩
  have d1 : decide ((i : Int) < ((l.length : Nat) : Int)) = true := decide_eq_true (by omega)
  have p0 : (0 : Int) ≤ (i : Int) := by omega
  have p1 : ((i : Nat) : Int) < ((l.length : Nat) : Int) := by omega
  have ww : IntKind.i64.wrap ((i : Int) + 1) = ((i + 1 : Nat) : Int) := by rw [wI64 (by omega) (by omega)]; omega
  obtain ⟨x, hx⟩ : ∃ x, l[i]? = some x := ⟨_, List.getElem?_eq_getElem hlt⟩
  have htk : l.take (i + 1) = l.take i ++ [x] := by rw [List.take_add_one, hx]; rfl
  have honx := rcC_one x
  have hszx : (rcC x).toArray.size = 6 := rfl
  obtain ⟨aw, cw, rfl, _, _⟩ := id hb.val
  obtain ⟨b1, f1, _, c1, E1, fr1, i1, e1, _, _, hiF, hx1⟩ := hv.cell (by omega)
  cases e1
  have hi1 : (T ++ F)[T.length + i1]? = some (b1, Obj.cells c1 E1 fr1) := by rw [List.getElem?_append_right (by omega), Nat.add_sub_cancel_left]; exact hiF
  obtain ⟨v1, y1⟩ := rcL_ext hx1 hx
  have v1 : c1.extract (f1 + ((i : Nat) : Int).toNat * 6) (f1 + ((i : Nat) : Int).toNat * 6 + 6) = (rcC x).toArray := by rw [Int.toNat_natCast]; exact v1
  have y1 : f1 + ((i : Nat) : Int).toNat * 6 + 6 ≤ c1.size := by rw [Int.toNat_natCast]; exact y1
  repeat (first | refine RQ ?_ | (refine WL_Q ?_; (first | refine QW_of (Qt_ldX rfl (hn := by with_reducible assumption)) ?_)) | (refine RE ?_; try intro _) | refine RC ?_ | refine WG 3 ?_ | refine WG 5 ?_ | refine WG 6 ?_)
  rw [v1]
  repeat (first | refine RQ ?_ | (refine WL_Q ?_; (first | refine QW_of (Qt_ldX rfl (hn := by with_reducible assumption)) ?_)) | (refine RE ?_; try intro _) | refine RC ?_ | refine WG 6 ?_)
  rename_i xs
  refine WL_op rfl (OW_append_buf (A := [(xs, Obj.cells (rcC x).toArray 35 (0, 0))]) (T := T) (B := F) rfl rfl rfl rfl rfl hb (m := 1) (news := rcC x) (srcVec (sz := 6) ⟨rfl, _, 1, rfl, Nat.le_refl _, by decide, .inr ⟨xs, 0, (rcC x).toArray, 35, (0, 0), 0, rfl, rfl, fun j x hx => by rw [Nat.zero_add]; simpa using hx⟩⟩ (fun u hu => rcL_one (l := [x]) u (by simpa [rcL] using hu))) (by decide) (by simp only [maxLen]; omega) (by omega) ?_)
  intro v' T' hb'
  obtain ⟨g0, off, cap, cur, rfl, rfl, hown⟩ := (id hb' : Buf _ _ _ _ _ _).resolve_left (fun h => by have := h.2.1; omega)
  replace hown : OwnO cur off cap (zs.take zs.length ++ x :: zs.drop zs.length) := by
    rw [List.take_length, List.drop_length]
    unfold OwnO
    rw [List.length_append, rcL_append]
    exact hown
  repeat (first | refine RQ ?_ | (refine WL_Q ?_; (first | refine QW_of (Qt_ldX rfl (hn := by with_reducible assumption)) ?_)) | (refine RE ?_; try intro _) | refine RC ?_ | refine WG 6 ?_)
  refine WC_wk [(5, iV ((zs.length : Nat) : Int)), (3, .slice (some ⟨g0, off, none⟩) (zs.length + 1) cap), (4, iV (i : Int)), (0, .slice (some ⟨b1, f1, none⟩) l.length vcap)] ⟨rfl, rfl, rfl, rfl, trivial⟩ ?_
  refine WC_dropL ((g0, Obj.cells cur 35 (0, 0)) :: F) (.cons _ (.refl _)) ?_
  refine WC_loop (fun m σ => ∃ (k : Nat) (cur : Array Value) (w : OutV), m = k + 1 ∧ k ≤ zs.length ∧ OwnO cur off cap (zs.take k ++ w :: zs.drop k) ∧ (∀ y ∈ zs.drop k, lessO x y = true) ∧ σ = ⟨[(5, iV (k : Int)), (3, .slice (some ⟨g0, off, none⟩) (zs.length + 1) cap), (4, iV (i : Int)), (0, .slice (some ⟨b1, f1, none⟩) l.length vcap)], [], (g0, Obj.cells cur 35 (0, 0)) :: F⟩) (zs.length + 1) ⟨zs.length, cur, x, rfl, Nat.le_refl _, hown, fun y hy => by simp at hy, rfl⟩ ?_
  clear hown hb' cur hi1
  rintro _ σ ⟨k, cur, w, rfl, hk, hown, hgt, rfl⟩
  have hyl : (zs.take k ++ w :: zs.drop k).length = zs.length + 1 := by rw [List.length_append, List.length_cons, List.length_take, List.length_drop]; omega
  have hi2 : ((g0, Obj.cells cur 35 (0, 0)) :: F)[i1 + 1]? = some (b1, Obj.cells c1 E1 fr1) := hiF
  have hlec := Own.le hown
  rw [hyl] at hlec
  have fin : (k = 0 ∨ ∃ y, zs[k - 1]? = some y ∧ lessO x y = false) → ∀ cur', cur' = putR cur (off + k * 6) (rcC x).toArray → Buf 35 6 (.slice (some ⟨g0, off, none⟩) (zs.length + 1) cap) [(g0, Obj.cells cur' 35 (0, 0))] (zs.take k ++ x :: zs.drop k).length (rcL (zs.take k ++ x :: zs.drop k)) ∧ (zs.take k ++ x :: zs.drop k).Perm (l.take (i + 1)) ∧ SortedO (zs.take k ++ x :: zs.drop k) := fun ht cur' hc => by
    have hl2 : (zs.take k ++ x :: zs.drop k).length = zs.length + 1 := by rw [List.length_append, List.length_cons, List.length_take, List.length_drop]; omega
    have hset : (zs.take k ++ w :: zs.drop k).set k x = zs.take k ++ x :: zs.drop k := by
      rw [List.set_append_right _ _ (by rw [List.length_take]; omega), List.length_take, Nat.min_eq_left hk, Nat.sub_self, List.set_cons_zero]
    have ho := OwnO.put hown (i := k) (by omega) x
    rw [hset] at ho
    subst hc
    refine ⟨?_, ?_, hs.ins hgt ht⟩
    · rw [hl2]
      refine .inr ⟨g0, off, cap, _, rfl, rfl, ?_⟩
      unfold OwnO at ho
      rw [hl2] at ho
      exact ho
    · rw [htk]
      refine List.perm_middle.trans ?_
      rw [List.take_append_drop]
      exact (hp.cons x).trans (List.perm_append_comm (l₁ := [x]))
  have yk : off + (((k : Nat) : Int)).toNat * 6 + 6 ≤ cur.size := by
    have := Own.fit hown
    rw [Int.toNat_natCast]
    omega
  have q0 : (0 : Int) ≤ ((k : Nat) : Int) := by omega
  have q1 : ((k : Nat) : Int) < ((zs.length + 1 : Nat) : Int) := by omega
  repeat (first | refine RQ ?_ | (refine WL_Q ?_; (first | refine QW_of (Qt_ldX rfl (hn := by with_reducible assumption)) ?_)) | refine RC ?_)
  by_cases hk0 : k = 0
  · subst hk0
    have d2 : decide (((0 : Nat) : Int) > 0) = false := rfl
    refine WC_draw_sub (id := 7) 14 (Cs [0,1,2,3,4,5,6,7,8,9,10,11] <| .must 12 <| .calm 13 <| .done) mixed (by kernel_rfl) (List.Sublist.refl _) ?_
    repeat (first | refine RQr ?_ | ((first | refine WL_Q ?_ | refine WL_Y ?_ | refine WR_Q rfl ?_ | refine WR_late rfl rfl rfl (OW_Q ?_) | refine WR_Y rfl ?_); (first | refine QW_of (Qt_ldX rfl (hn := by with_reducible assumption)) ?_)) | ((first | refine WL_op rfl ?_ | refine WL_yes (h := ?_) | refine WR_late rfl rfl rfl ?_ | refine WR_opG rfl rfl ?_ | refine WR_opYG rfl (h := ?_)); (first | (refine OE ?_; try intro _) | refine OW_callP rfl (hF := less_fn) (hk := ?_)); try refine SD ?_) | refine RC ?_ | refine RU ?_ | refine WC_draw_all (id := 7) 14 (Cs [0,1,2,3,4,5,6,7,8,9,10,11] <| .must 12 <| .calm 13 <| .done) mixed (by kernel_rfl) ?_ | refine WG 10 ?_)
    rw [v1]
    repeat (first | refine RQ ?_ | (refine WL_Q ?_; (first | refine QW_of (Qt_ldX rfl (hn := by with_reducible assumption)) ?_)) | (refine RE ?_; try intro _) | refine RC ?_ | refine WG 10 ?_ | refine WG 4 ?_)
    obtain ⟨g1, g2, g3⟩ := fin (.inl rfl) _ rfl
    rw [ww, Int.toNat_natCast]
    exact ⟨_, _, by omega, ⟨i + 1, _, _, _, rfl, by omega, g1, g2, g3, rfl⟩, ⟨rfl, rfl, rfl, trivial⟩, rfl, .refl _⟩
  have d2 : decide (((k : Nat) : Int) > 0) = true := decide_eq_true (by omega)
  obtain ⟨j, rfl⟩ : ∃ j, k = j + 1 := ⟨k - 1, by omega⟩
  obtain ⟨y, hy⟩ : ∃ y, zs[j]? = some y := ⟨_, List.getElem?_eq_getElem (by omega)⟩
  have wj : IntKind.i64.wrap (((j + 1 : Nat) : Int) - 1) = ((j : Nat) : Int) := by rw [wI64 (by omega) (by omega)]; omega
  have hyy : (zs.take (j + 1) ++ w :: zs.drop (j + 1))[j]? = some y := by
    rw [List.getElem?_append_left (by rw [List.length_take]; omega), List.getElem?_take_of_lt (by omega), hy]
  obtain ⟨u1, u2⟩ := rcL_ext (Own.at_ hown) hyy
  have u3 : cur.extract (off + (IntKind.i64.wrap (((j + 1 : Nat) : Int) - 1)).toNat * 6) (off + (IntKind.i64.wrap (((j + 1 : Nat) : Int) - 1)).toNat * 6 + 6) = (rcC y).toArray := by rw [wj, Int.toNat_natCast]; exact u1
  have u4 : off + (IntKind.i64.wrap (((j + 1 : Nat) : Int) - 1)).toNat * 6 + 6 ≤ cur.size := by rw [wj, Int.toNat_natCast]; exact u2
  have u5 : 0 ≤ IntKind.i64.wrap (((j + 1 : Nat) : Int) - 1) := by rw [wj]; omega
  have u6 : IntKind.i64.wrap (((j + 1 : Nat) : Int) - 1) < ((zs.length + 1 : Nat) : Int) := by rw [wj]; omega
  refine WC_draw_sub (id := 7) 14 (Cs [0,1,2,3,4,5,6,7,8,9,10,11] <| .must 12 <| .calm 13 <| .done) mixed (by kernel_rfl) (List.Sublist.refl _) ?_
  repeat (first | refine RQr ?_ | ((first | refine WL_Q ?_ | refine WL_Y ?_ | refine WR_Q rfl ?_ | refine WR_late rfl rfl rfl (OW_Q ?_) | refine WR_Y rfl ?_); (first | refine QW_of (Qt_ldX rfl (hn := by with_reducible assumption)) ?_)) | ((first | refine WL_op rfl ?_ | refine WL_yes (h := ?_) | refine WR_late rfl rfl rfl ?_ | refine WR_opG rfl rfl ?_ | refine WR_opYG rfl (h := ?_)); (first | refine OW_callP rfl (hF := less_fn) (hk := ?_)); try refine SD ?_) | refine RC ?_ | refine RU ?_ | refine WC_draw_all (id := 7) 14 (Cs [0,1,2,3,4,5,6,7,8,9,10,11] <| .must 12 <| .calm 13 <| .done) mixed (by kernel_rfl) ?_)
  rw [v1, u3]
  cases hls : lessO x y
  · repeat (first | refine RQr ?_ | ((first | refine WL_Q ?_ | refine WL_Y ?_ | refine WR_Q rfl ?_ | refine WR_late rfl rfl rfl (OW_Q ?_) | refine WR_Y rfl ?_); (first | refine QW_of (Qt_ldX rfl (hn := by with_reducible assumption)) ?_)) | ((first | refine WL_op rfl ?_ | refine WL_yes (h := ?_) | refine WR_late rfl rfl rfl ?_ | refine WR_opG rfl rfl ?_ | refine WR_opYG rfl (h := ?_)); (first | (refine OE ?_; try intro _) | refine OW_callP rfl (hF := less_fn) (hk := ?_)); try refine SD ?_) | refine RC ?_ | refine RU ?_ | refine WC_draw_all (id := 7) 14 (Cs [0,1,2,3,4,5,6,7,8,9,10,11] <| .must 12 <| .calm 13 <| .done) mixed (by kernel_rfl) ?_ | refine WG 10 ?_)
    rw [v1]
    repeat (first | refine RQ ?_ | (refine WL_Q ?_; (first | refine QW_of (Qt_ldX rfl (hn := by with_reducible assumption)) ?_)) | (refine RE ?_; try intro _) | refine RC ?_ | refine WG 10 ?_ | refine WG 4 ?_)
    obtain ⟨g1, g2, g3⟩ := fin (.inr ⟨y, hy, hls⟩) _ rfl
    rw [ww, Int.toNat_natCast]
    exact ⟨_, _, by omega, ⟨i + 1, _, _, _, rfl, by omega, g1, g2, g3, rfl⟩, ⟨rfl, rfl, rfl, trivial⟩, rfl, .refl _⟩
  · have hony := rcC_one y
    have hszy : (rcC y).toArray.size = 6 := rfl
    repeat (first | refine RQr ?_ | ((first | refine WL_Q ?_ | refine WL_Y ?_ | refine WR_Q rfl ?_ | refine WR_late rfl rfl rfl (OW_Q ?_) | refine WR_Y rfl ?_); (first | refine QW_of (Qt_ldX rfl (hn := by with_reducible assumption)) ?_)) | ((first | refine WL_op rfl ?_ | refine WL_yes (h := ?_) | refine WR_late rfl rfl rfl ?_ | refine WR_opG rfl rfl ?_ | refine WR_opYG rfl (h := ?_)); (first | (refine OE ?_; try intro _) | refine OW_callP rfl (hF := less_fn) (hk := ?_)); try refine SD ?_) | refine RC ?_ | refine RU ?_ | refine WC_draw_all (id := 7) 14 (Cs [0,1,2,3,4,5,6,7,8,9,10,11] <| .must 12 <| .calm 13 <| .done) mixed (by kernel_rfl) ?_ | refine WG 8 ?_)
    rw [u3]
    repeat (first | refine RQ ?_ | (refine WL_Q ?_; (first | refine QW_of (Qt_ldX rfl (hn := by with_reducible assumption)) ?_)) | (refine RE ?_; try intro _) | refine RC ?_ | refine WG 8 ?_ | refine WG 9 ?_)
    rw [wj, Int.toNat_natCast]
    have ho := OwnO.put hown (i := j + 1) (by omega) y
    have hset : (zs.take (j + 1) ++ w :: zs.drop (j + 1)).set (j + 1) y = zs.take j ++ y :: zs.drop j := by
      rw [List.set_append_right _ _ (by rw [List.length_take]; omega), List.length_take, Nat.min_eq_left hk, Nat.sub_self, List.set_cons_zero, List.take_add_one, hy, List.append_assoc]
      have : zs.drop j = y :: zs.drop (j + 1) := by rw [← (List.getElem?_eq_some_iff.1 hy).2, List.getElem_cons_drop]
      rw [this]
      rfl
    rw [hset] at ho
    refine ⟨_, _, by omega, ⟨j, _, y, rfl, by omega, ho, fun z hz => ?_, rfl⟩, ⟨rfl, rfl, rfl, rfl, trivial⟩, rfl, .refl _⟩
    have : zs.drop j = y :: zs.drop (j + 1) := by rw [← (List.getElem?_eq_some_iff.1 hy).2, List.getElem_cons_drop]
    rw [this] at hz
    rcases List.mem_cons.1 hz with rfl | hz
    · exact hls
    · exact hgt z hz
end Go.Proofs.YtekmmhmhcpaiaaaGreat
namespace Go.Proofs.YtekmmhmhcpaiaaaGreat
open Go.RowKit
theorem Qt_neqX {c : Cx} {s : List (Nat × Value)} {L : List (Nat × Obj)} {o : Oper} {t t' : Nat} {x y : Operand} {xs ys : List V} {xs' ys' : Array Value} {b : Bool} (ho : o.op = .binOp .neq t x y t') (hx : ev s x = some (.agg xs') := by exact rfl) (hy : ev s y = some (.agg ys') := by exact rfl) (rx : RV [] (.agg xs) (.agg xs')) (ry : RV [] (.agg ys) (.agg ys')) (he : aggEq c.P t (.agg xs) (.agg ys) = some b) : Qt c s L o (.bool !b) :=
  Qt_of_run (by simp [ho]) (fun ρ hρ w _ => by
    obtain ⟨_, h1, h2⟩ := aggEq_run he rx ry x y w
    simp [execOp, ho, hρ x _ hx, hρ y _ hy, h1, h2, Result.andThen])
def rcX (o : OutV) : List V := [.int .u32 o.key, .int .i64 o.time, .int .i64 o.val, .int .u8 0, .bool o.err, .bool false]
theorem rcX_rv (o : OutV) : RV [] (.agg (rcX o)) (.agg (rcC o).toArray) := .agg (.cons (.int _ _) (.cons (.int _ _) (.cons (.int _ _) (.cons (.int _ _) (.cons (.bool _) (.cons (.bool _) .nil))))))
theorem rcX_eq (k t v : Int) (e : Bool) : aggEq Tryz.prog 35 (.agg [.int .u32 k, .int .i64 t, .int .i64 v, .int .u8 0, .bool e, .bool false]) (.agg [.int .u32 k, .int .i64 t, .int .i64 v, .int .u8 0, .bool e, .bool false]) = (match k == k with | true => (match t == t with | true => (match v == v with | true => (match e == e with | true => some true | false => some false) | false => some false) | false => some false) | false => some false) := by kernel_rfl
theorem rcX_same (o : OutV) : aggEq Tryz.prog 35 (.agg (rcX o)) (.agg (rcX o)) = some true := by
  unfold rcX
  rw [rcX_eq]
  simp only [beq_self_eq_true]
attribute [local irreducible] Fn WC WL WR OW Qt YieldFn QW FnP FnD FnE
set_option maxHeartbeats 4000000 in
theorem same_fn {v w : Value} {l k : List OutV} {F : List (Nat × Obj)} (hv : VecM 6 F v l.length (rcL l)) (hw : VecM 6 F w k.length (rcL k)) (hp : l.Perm k) (hn : l.length ≤ 1000000) : Fn Tryz.prog 11 [v, w] F (fun r L' => r = .bool true ∧ L' = F) := by
  obtain ⟨_, va, vcap, rfl, _, hvm, _⟩ := id hv
  obtain ⟨_, wa, wcap, rfl, _, hwm, _⟩ := id hw
  have hlk := hp.length_eq
  refine Fn_enter Tryz.func11 rfl Tryz.ntmps11 rfl fun gw => ?_
  have d1 : (((l.length : Nat) : Int) != ((k.length : Nat) : Int)) = false := by rw [hlk]; simp
  repeat (first | (refine WL_Q ?_; (first | refine QW_a ?_ | refine QW_of (Qt_ldX rfl (hn := by with_reducible assumption)) ?_)) | refine WL_nil ?_ | refine WC_seq ?_ | refine WC_block ?_ | refine WC_cond_t (ht := ?_) | refine WC_cond_f (he := ?_) | refine WC_skip ?_ | refine WC_ret ?_ | refine WC_exit ?_ | refine WG 0 ?_ | refine WG 1 ?_ | refine WG 3 ?_)
  refine WL_op rfl (OW_call rfl (hF := sorted_fn hv hn) (hk := ?_))
  rintro r1 _ ⟨T1, zs, hb1, hz1, hs1, rfl⟩
  repeat (first | (refine WL_Q ?_; (first | refine QW_a ?_ | refine QW_of (Qt_ldX rfl (hn := by with_reducible assumption)) ?_)) | refine WL_nil ?_ | refine WC_seq ?_ | refine WC_block ?_ | refine WC_cond_t (ht := ?_) | refine WC_cond_f (he := ?_) | refine WC_skip ?_ | refine WC_ret ?_ | refine WC_exit ?_ | refine WG 3 ?_)
  refine WL_op rfl (OW_call rfl (hF := sorted_fn (hw.mem fun q hq => List.mem_append_right T1 hq) (by omega)) (hk := ?_))
  rintro r2 _ ⟨T2, zs2, hb2, hz2, hs2, rfl⟩
  obtain rfl : zs = zs2 := hs1.same hs2 (hz1.trans (hp.trans hz2.symm))
  have hzl : zs.length ≤ 1000000 := by rw [hz1.length_eq]; exact hn
  have hv1 : VecM 6 (T2 ++ (T1 ++ F)) r1 zs.length (rcL zs) := hb1.vecM.mem fun q hq => List.mem_append_right _ (List.mem_append_left _ hq)
  have hv2 : VecM 6 (T2 ++ (T1 ++ F)) r2 zs.length (rcL zs) := hb2.vecM.mem fun q hq => List.mem_append_left _ hq
  obtain ⟨_, a1, c1, rfl, _, _, _⟩ := id hv1
  obtain ⟨_, a2, c2, rfl, _, _, _⟩ := id hv2
  repeat (first | (refine WL_Q ?_; (first | refine QW_a ?_ | refine QW_of (Qt_ldX rfl (hn := by with_reducible assumption)) ?_)) | refine WL_nil ?_ | refine WC_seq ?_ | refine WC_block ?_ | refine WC_cond_t (ht := ?_) | refine WC_cond_f (he := ?_) | refine WC_skip ?_ | refine WC_ret ?_ | refine WC_exit ?_ | refine WG 3 ?_ | refine WG 4 ?_)
  obtain ⟨L0, hL0⟩ : ∃ L0, L0 = T2 ++ (T1 ++ F) := ⟨_, rfl⟩
  have hFL : F.Sublist L0 := by rw [hL0]; exact (List.sublist_append_right _ _).trans (List.sublist_append_right _ _)
  rw [← hL0] at hv1 hv2 ⊢
  refine WC_wk [(7, iV ((0 : Nat) : Int)), (6, .slice a2 zs.length c2), (5, .slice a1 zs.length c1), (4, .bool false)] ⟨rfl, rfl, rfl, rfl, trivial⟩ ?_
  refine WC_loop (fun m σ => ∃ i : Nat, m = zs.length - i ∧ i ≤ zs.length ∧ σ = ⟨[(7, iV (i : Int)), (6, .slice a2 zs.length c2), (5, .slice a1 zs.length c1), (4, .bool false)], [], L0⟩) zs.length ⟨0, rfl, Nat.zero_le _, rfl⟩ ?_
  rintro _ σ ⟨i, rfl, hi, rfl⟩
  by_cases hlt : i < zs.length
  rotate_left
  · have d2 : decide ((i : Int) < ((zs.length : Nat) : Int)) = false := decide_eq_false (by omega)
    repeat (first | (refine WL_Q ?_; (first | refine QW_a ?_ | refine QW_of (Qt_ldX rfl (hn := by with_reducible assumption)) ?_)) | refine WL_nil ?_ | refine WC_seq ?_ | refine WC_block ?_ | refine WC_cond_t (ht := ?_) | refine WC_cond_f (he := ?_) | refine WC_skip ?_ | refine WC_ret ?_ | refine WC_exit ?_ | refine WG 5 ?_ | refine WG 9 ?_)
    exact ⟨rfl, _, F, Res1 rfl (resV_tmp rfl), hFL, rfl, rfl⟩
  have d2 : decide ((i : Int) < ((zs.length : Nat) : Int)) = true := decide_eq_true (by omega)
  have p0 : (0 : Int) ≤ (i : Int) := by omega
  have p1 : ((i : Nat) : Int) < ((zs.length : Nat) : Int) := by omega
  have ww : IntKind.i64.wrap ((i : Int) + 1) = ((i + 1 : Nat) : Int) := by rw [wI64 (by omega) (by omega)]; omega
  obtain ⟨x, hx⟩ : ∃ x, zs[i]? = some x := ⟨_, List.getElem?_eq_getElem hlt⟩
  obtain ⟨b1, f1, _, s1, E1, fr1, i1, e1, _, _, hi1, hx1⟩ := hv1.cell (by omega)
  cases e1
  obtain ⟨b2, f2, _, s2, E2, fr2, i2, e2, _, _, hi2, hx2⟩ := hv2.cell (by omega)
  cases e2
  obtain ⟨u1, y1⟩ := rcL_ext hx1 hx
  obtain ⟨u2, y2⟩ := rcL_ext hx2 hx
  have u1 : s1.extract (f1 + ((i : Nat) : Int).toNat * 6) (f1 + ((i : Nat) : Int).toNat * 6 + 6) = (rcC x).toArray := by rw [Int.toNat_natCast]; exact u1
  have y1 : f1 + ((i : Nat) : Int).toNat * 6 + 6 ≤ s1.size := by rw [Int.toNat_natCast]; exact y1
  have u2 : s2.extract (f2 + ((i : Nat) : Int).toNat * 6) (f2 + ((i : Nat) : Int).toNat * 6 + 6) = (rcC x).toArray := by rw [Int.toNat_natCast]; exact u2
  have y2 : f2 + ((i : Nat) : Int).toNat * 6 + 6 ≤ s2.size := by rw [Int.toNat_natCast]; exact y2
  repeat (first | (refine WL_Q ?_; (first | refine QW_a ?_ | refine QW_of (Qt_ldX rfl (hn := by with_reducible assumption)) ?_)) | refine WL_nil ?_ | refine WC_seq ?_ | refine WC_block ?_ | refine WC_cond_t (ht := ?_) | refine WC_cond_f (he := ?_) | refine WC_skip ?_ | refine WC_ret ?_ | refine WC_exit ?_ | refine WG 5 ?_)
  refine WC_draw_sub (id := 7) 9 (Cs [0,1,2,3,4,5,6,7,8] <| .done) mixed (by kernel_rfl) (List.Sublist.refl _) ?_
  repeat (first | (refine RX ?_; (first | refine QW_a ?_ | refine QW_of (Qt_ldX rfl (hn := by with_reducible assumption)) ?_)) | refine WL_nil ?_ | refine WR_nil ?_ | refine WC_seq ?_ | refine WC_block ?_ | refine WC_cond_t (ht := ?_) | refine WC_cond_f (he := ?_) | refine WC_skip ?_ | refine WC_ret ?_ | refine WC_exit ?_ | refine WC_draw_all (id := 7) 9 (Cs [0,1,2,3,4,5,6,7,8] <| .done) mixed (by kernel_rfl) ?_)
  rw [u1, u2]
  refine WR_Q rfl (QW_of (Qt_neqX (xs' := (rcC x).toArray) (ys' := (rcC x).toArray) rfl rfl rfl (rx := rcX_rv x) (ry := rcX_rv x) (he := rcX_same x)) ?_)
  repeat (first | (refine RX ?_; (first | refine QW_a ?_ | refine QW_of (Qt_ldX rfl (hn := by with_reducible assumption)) ?_)) | refine WL_nil ?_ | refine WR_nil ?_ | refine WC_seq ?_ | refine WC_block ?_ | refine WC_cond_t (ht := ?_) | refine WC_cond_f (he := ?_) | refine WC_skip ?_ | refine WC_ret ?_ | refine WC_exit ?_ | refine WC_draw_all (id := 7) 9 (Cs [0,1,2,3,4,5,6,7,8] <| .done) mixed (by kernel_rfl) ?_ | refine WG 6 ?_)
  rw [ww]
  exact ⟨_, _, by omega, ⟨i + 1, rfl, by omega, rfl⟩, ⟨rfl, rfl, rfl, rfl, trivial⟩, rfl, .refl _⟩
end Go.Proofs.YtekmmhmhcpaiaaaGreat
