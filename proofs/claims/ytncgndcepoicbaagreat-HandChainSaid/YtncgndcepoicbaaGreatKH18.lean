/-
  A part of what the last of these texts needs; by itself it proves no statement.
-/
import Derived.Test.YtncgndcepoicbaaGreatKH17
namespace Go.Proofs.YtncgndcepoicbaaGreat
open Go.RowKit
abbrev stC (o : OpV) (bv : Value) : Array Value := #[iV o.1, iV o.2.1, iV o.2.2.1, iV o.2.2.2, bv]
theorem StsAt.ext {G : List (Nat × Obj)} {off : Nat} {cs : Array Value} {ls : List (List Value)} {st : List StV} (hx : ∀ (j : Nat) (x : Value), ls.flatten[j]? = some x → cs[off + j]? = some x) (hc : StsAt G ls st) {k : Nat} {c : StV} (hk : st[k]? = some c) : ∃ bv, VecM 4 G bv c.2.length (opL c.2) ∧ cs.extract (off + k * 5) (off + k * 5 + 5) = stC c.1 bv ∧ off + k * 5 + 5 ≤ cs.size := by
  obtain ⟨l, hcm, hl⟩ := hc.get hk
  obtain ⟨bv, rfl, h2⟩ := id hcm
  refine ⟨bv, h2, ext_of (l := opCl c.1 ++ [bv]) rfl (by decide) fun j hj => ?_⟩
  have h1 := hl j hj
  have h3 : (opCl c.1 ++ [bv])[j]? = some ((opCl c.1 ++ [bv])[j]'(by show j < 5; exact hj)) := List.getElem?_eq_getElem _
  rw [h3] at h1 ⊢
  rw [Nat.add_assoc]
  exact hx _ _ h1
abbrev ndF (x : Nat) : Value := .func (.func 131) #[] #[.pointer (some ⟨x, 0, none⟩)]
theorem WL_dropN {c : Cx} {ops : Array Oper} {l : List Oper} {K : Exit → St → Prop} {s : List (Nat × Value)} {D : List Deferred} {L L' : List (Nat × Obj)} (hs : L'.Sublist L) (h : WL c ops l K ⟨s, D, L'⟩) : WL c ops l K ⟨s, D, L⟩ := fun a w ha => h a w (ha.mem' (ha.mem.sublist hs))
theorem WL_permN {c : Cx} {ops : Array Oper} {l : List Oper} {K : Exit → St → Prop} {s : List (Nat × Value)} {D : List Deferred} {L L' : List (Nat × Obj)} (hs : L'.Perm L) (h : WL c ops l K ⟨s, D, L'⟩) : WL c ops l K ⟨s, D, L⟩ := fun a w ha => h a w (ha.mem' (ha.mem.perm hs))
theorem perm_nd {α : Type} (a b c : α) (L : List α) : (a :: b :: (L ++ [c])).Perm (c :: a :: b :: L) := by
  classical
  rw [List.perm_iff_count]
  intro z
  simp only [List.count_append, List.count_cons, List.count_nil]
  omega
attribute [local irreducible] Fn WC WL WR OW Qt YieldFn QW FnP FnD FnE
theorem nodes_fn {v : Array Value} (_hz : v.size = 4) (_h1 : (v.toList.all fun x => x.oneCell') = true) {L : List (Nat × Obj)} : Fn Tryz.prog 103 [.agg v] L (fun r L' => ∃ x, r = ndF x ∧ L' = (x, .cells v 25 (0, 0)) :: L) := by
  refine Fn_enter Tryz.func103 rfl Tryz.ntmps103 rfl fun g => ?_
  repeat (first | refine RQ ?_ | (refine WL_Q ?_; (first | refine QW_of (Qt_ldX rfl (hn := by with_reducible assumption)) ?_)) | (refine RE ?_; try intro _) | refine RC ?_ | refine WC_region ?_)
  exact ⟨rfl, _, _, Res1 rfl (resV_tmp rfl), .refl _, _, rfl, rfl⟩
set_option maxHeartbeats 4000000 in
theorem nodes1_fn {p : PlV} {pv : Array Value} {xp l d : Nat} {o1 o2 : Obj} {G : List (Nat × Obj)} (hp : PlAt G pv p) {I : List NdV → List (Nat × Obj) → Prop} {Jx : List (Nat × Obj) → Prop} {L0 : List (Nat × Obj)} (hI : ∀ pre L', I pre L' → (∃ i : Nat, L'[i]? = some (xp, Obj.cells pv 25 (0, 0))) ∧ ∀ q ∈ G, q ∈ L')
    (hr : ∀ X pre y L', (pre ++ [y]) <+: nodesL p → I pre L' → YieldFn Tryz.prog l (ndC y) ((l, o1) :: (d, o2) :: (L' ++ X)) (fun v L2 => (v = .bool true ∧ ∃ L'', L2 = (l, o1) :: (d, o2) :: (L'' ++ X) ∧ I (pre ++ [y]) L'') ∨ (v = .bool false ∧ Jx L2))) (h0 : I [] L0) :
    Fn Tryz.prog 131 [.func (.yield l) #[] #[], .pointer (some ⟨xp, 0, none⟩)] ((l, o1) :: (d, o2) :: L0) (fun _ L2 => (∃ xs L', xs = nodesL p ∧ L2 = (l, o1) :: (d, o2) :: L' ∧ I xs L') ∨ Jx L2) := by
  obtain ⟨prv, sv, ls, rfl, hpre, hst, hss⟩ := hp
  obtain ⟨_, ap, capp, rfl, hcp, hmp, _⟩ := id hpre
  obtain ⟨_, ast, caps, rfl, hcs, hms, _⟩ := id hst
  refine Fn_enter Tryz.func131 rfl Tryz.ntmps131 rfl fun g => ?_
  obtain ⟨⟨i0, hi0⟩, _⟩ := hI _ _ h0
  have hi02 : ((l, o1) :: (d, o2) :: L0)[i0 + 1 + 1]? = some (xp, Obj.cells (plC (.slice ap p.pre.length capp) (.slice ast p.st.length caps) p) 25 (0, 0)) := hi0
  repeat (first | refine RQ ?_ | (refine WL_Q ?_; (first | refine QW_of (Qt_ldX rfl (hn := by with_reducible assumption)) ?_)) | refine RC ?_ | refine WG 0 ?_)
  refine WC_wk [(12, .int .i64 ((0 : Nat) : Int)), (11, .int .i64 (p.pre.length : Nat)), (10, .slice ap p.pre.length capp), (0, .func (.yield l) #[] #[]), (1, .pointer (some ⟨xp, 0, none⟩))] ⟨rfl, rfl, rfl, rfl, rfl, trivial⟩ ?_
  refine WC_loop (fun m σ => ∃ (k : Nat) (L2 : List (Nat × Obj)), m = p.pre.length - k ∧ k ≤ p.pre.length ∧ I (rowL 0 0 (p.pre.take k)) L2 ∧ σ = ⟨[(12, .int .i64 (k : Nat)), (11, .int .i64 (p.pre.length : Nat)), (10, .slice ap p.pre.length capp), (0, .func (.yield l) #[] #[]), (1, .pointer (some ⟨xp, 0, none⟩))], [], (l, o1) :: (d, o2) :: L2⟩) p.pre.length ⟨0, L0, rfl, Nat.zero_le _, h0, rfl⟩ ?_
  rintro m σ ⟨k, L2, rfl, hk, hI2, rfl⟩
  by_cases hlt : k < p.pre.length
  · have d1 : decide ((k : Int) < ((p.pre.length : Nat) : Int)) = true := decide_eq_true (by omega)
    have p0 : (0 : Int) ≤ (k : Int) := by omega
    have p1 : ((k : Nat) : Int) < ((p.pre.length : Nat) : Int) := by omega
    have w : IntKind.i64.wrap ((k : Int) + 1) = ((k + 1 : Nat) : Int) := by rw [wI64 (by omega) (by simp only [maxLen] at hmp; omega)]; omega
    obtain ⟨o, ho⟩ : ∃ o, p.pre[k]? = some o := ⟨_, List.getElem?_eq_getElem hlt⟩
    obtain ⟨_, hG⟩ := hI _ _ hI2
    obtain ⟨rb, ro, rc, rcs, rE, rfr, ri, e, _, _, hri, hrx⟩ := (hpre.mem hG).cell (by omega)
    cases e
    have hri2 : ((l, o1) :: (d, o2) :: L2)[ri + 1 + 1]? = some (rb, Obj.cells rcs rE rfr) := hri
    obtain ⟨hx1, hx2⟩ := opL_ext hrx ho
    have y1 : ro + ((k : Nat) : Int).toNat * 4 + 4 ≤ rcs.size := by rw [Int.toNat_natCast]; exact hx2
    have v1 : rcs.extract (ro + ((k : Nat) : Int).toNat * 4) (ro + ((k : Nat) : Int).toNat * 4 + 4) = opC o.1 o.2.1 o.2.2.1 o.2.2.2 := by rw [Int.toNat_natCast]; exact hx1
    have hpf : (rowL 0 0 (p.pre.take k) ++ [((0, (k : Int)), o)]) <+: nodesL p := by
      have := rowL_at (s := 0) (k := 0) ho
      rw [Int.zero_add] at this
      exact this.trans (List.prefix_append _ _)
    have hYf := hr [] _ _ _ hpf hI2
    rw [show rowL 0 0 (p.pre.take k) ++ [((0, (k : Int)), o)] = rowL 0 0 (p.pre.take (k + 1)) by rw [rowL_take ho, Int.zero_add]] at hYf
    simp only [List.append_nil] at hYf
    repeat (first | refine RQ ?_ | (refine WL_Q ?_; (first | refine QW_of (Qt_ldX rfl (hn := by with_reducible assumption)) ?_)) | (refine RE ?_; try intro _) | refine RC ?_ | refine WG 1 ?_ | refine WG 2 ?_)
    try rw [v1]
    repeat (first | refine RQ ?_ | (refine WL_Q ?_; (first | refine QW_of (Qt_ldX rfl (hn := by with_reducible assumption)) ?_)) | (refine RE ?_; try intro _) | refine RC ?_ | refine WG 2 ?_ | refine WG 3 ?_)
    refine WL_dropN (.cons _ (.refl _)) ?_
    refine WL_op rfl (OW_yield rfl rfl rfl rfl rfl hYf ?_)
    rintro v L3 (⟨rfl, L4, rfl, hI3⟩ | ⟨rfl, hJx⟩)
    · repeat (first | refine RQ ?_ | (refine WL_Q ?_; (first | refine QW_of (Qt_ldX rfl (hn := by with_reducible assumption)) ?_)) | refine RC ?_ | refine WG 3 ?_ | refine WG 4 ?_)
      rw [w]
      exact ⟨_, _, by omega, ⟨k + 1, L4, rfl, by omega, hI3, rfl⟩, ⟨rfl, rfl, rfl, rfl, rfl, trivial⟩, rfl, .refl _⟩
    · repeat (first | refine RQ ?_ | (refine WL_Q ?_; (first | refine QW_of (Qt_ldX rfl (hn := by with_reducible assumption)) ?_)) | refine RC ?_ | refine WG 3 ?_ | refine WG 4 ?_)
      exact ⟨rfl, _, _, Res0 rfl, .refl _, .inr hJx⟩
  · have d1 : decide ((k : Int) < ((p.pre.length : Nat) : Int)) = false := decide_eq_false (by omega)
    rw [List.take_of_length_le (by omega)] at hI2
    obtain ⟨⟨i2, hi2⟩, _⟩ := hI _ _ hI2
    have hi22 : ((l, o1) :: (d, o2) :: L2)[i2 + 1 + 1]? = some (xp, Obj.cells (plC (.slice ap p.pre.length capp) (.slice ast p.st.length caps) p) 25 (0, 0)) := hi2
    repeat (first | refine RQ ?_ | (refine WL_Q ?_; (first | refine QW_of (Qt_ldX rfl (hn := by with_reducible assumption)) ?_)) | refine RC ?_ | refine WG 1 ?_ | refine WG 5 ?_)
    refine WC_wk [(27, .int .i64 ((0 : Nat) : Int)), (26, .int .i64 (p.st.length : Nat)), (25, .slice ast p.st.length caps), (0, .func (.yield l) #[] #[])] ⟨rfl, rfl, rfl, rfl, trivial⟩ ?_
    refine WC_loop (fun m σ => ∃ (k : Nat) (L2 : List (Nat × Obj)), m = p.st.length - k ∧ k ≤ p.st.length ∧ I (rowL 0 0 p.pre ++ stsL 1 (p.st.take k)) L2 ∧ σ = ⟨[(27, .int .i64 (k : Nat)), (26, .int .i64 (p.st.length : Nat)), (25, .slice ast p.st.length caps), (0, .func (.yield l) #[] #[])], [], (l, o1) :: (d, o2) :: L2⟩) p.st.length ⟨0, L2, rfl, Nat.zero_le _, by simpa [stsL] using hI2, rfl⟩ ?_
    clear hi22 hi2 d1 hlt
    rintro m σ ⟨k, L2, rfl, hk, hI2, rfl⟩
    by_cases hlt : k < p.st.length
    rotate_left
    · have d1 : decide ((k : Int) < ((p.st.length : Nat) : Int)) = false := decide_eq_false (by omega)
      rw [List.take_of_length_le (by omega)] at hI2
      repeat (first | refine RQ ?_ | (refine WL_Q ?_; (first | refine QW_of (Qt_ldX rfl (hn := by with_reducible assumption)) ?_)) | refine RC ?_ | refine WG 6 ?_)
      exact ⟨rfl, _, _, Res0 rfl, .refl _, .inl ⟨_, L2, rfl, rfl, hI2⟩⟩
    have d1 : decide ((k : Int) < ((p.st.length : Nat) : Int)) = true := decide_eq_true (by omega)
    have p0 : (0 : Int) ≤ (k : Int) := by omega
    have p1 : ((k : Nat) : Int) < ((p.st.length : Nat) : Int) := by omega
    have w : IntKind.i64.wrap ((k : Int) + 1) = ((k + 1 : Nat) : Int) := by rw [wI64 (by omega) (by simp only [maxLen] at hms; omega)]; omega
    obtain ⟨x, hx⟩ : ∃ x, p.st[k]? = some x := ⟨_, List.getElem?_eq_getElem hlt⟩
    obtain ⟨_, hG⟩ := hI _ _ hI2
    obtain ⟨rb, ro, rc, rcs, rE, rfr, ri, e, _, _, hri, hrx⟩ := (hst.mem hG).cell (by omega)
    cases e
    have hri2 : ((l, o1) :: (d, o2) :: L2)[ri + 1 + 1]? = some (rb, Obj.cells rcs rE rfr) := hri
    obtain ⟨bv, hbv, hx1, hx2⟩ := hss.ext hrx hx
    obtain ⟨_, ab, capb, rfl, hcb, hmb, _⟩ := id hbv
    have y1 : ro + ((k : Nat) : Int).toNat * 5 + 5 ≤ rcs.size := by rw [Int.toNat_natCast]; exact hx2
    have v1 : rcs.extract (ro + ((k : Nat) : Int).toNat * 5) (ro + ((k : Nat) : Int).toNat * 5 + 5) = stC x.1 (.slice ab x.2.length capb) := by rw [Int.toNat_natCast]; exact hx1
    have hsp := stsL_split hx
    have hxo : (stC x.1 (.slice ab x.2.length capb)).extract 0 (0 + 4) = opC x.1.1 x.1.2.1 x.1.2.2.1 x.1.2.2.2 := rfl
    have hxs : 0 + 4 ≤ (stC x.1 (.slice ab x.2.length capb)).size := Nat.le_of_ble_eq_true rfl
    have hpf : ((rowL 0 0 p.pre ++ stsL 1 (p.st.take k)) ++ [(((k : Int) + 1, 0), x.1)]) <+: nodesL p := ⟨rowL ((k : Int) + 1) 1 x.2 ++ stsL ((k : Int) + 2) (p.st.drop (k + 1)), by rw [nodesL, hsp]; simp⟩
    repeat (first | refine RQ ?_ | (refine WL_Q ?_; (first | refine QW_of (Qt_ldX rfl (hn := by with_reducible assumption)) ?_)) | (refine RE ?_; try intro _) | refine RC ?_ | refine WG 6 ?_ | refine WG 7 ?_)
    try rw [v1]
    repeat (first | refine RQ ?_ | (refine WL_Q ?_; (first | refine QW_of (Qt_ldX rfl (hn := by with_reducible assumption)) ?_)) | (refine RE ?_; try intro _) | refine RC ?_ | refine WG 7 ?_ | refine WG 8 ?_)
    rw [w, hxo]
    rename_i x6
    have hYf := hr [(x6, Obj.cells (stC x.1 (.slice ab x.2.length capb)) 100 (0, 0))] _ _ _ hpf hI2
    refine WL_permN (perm_nd ..) ?_
    refine WL_op rfl (OW_yield rfl rfl rfl rfl rfl hYf ?_)
    rintro v L3 (⟨rfl, L4, rfl, hI3⟩ | ⟨rfl, hJx⟩)
    rotate_left
    · repeat (first | refine RQ ?_ | (refine WL_Q ?_; (first | refine QW_of (Qt_ldX rfl (hn := by with_reducible assumption)) ?_)) | refine RC ?_ | refine WG 8 ?_)
      exact ⟨rfl, _, _, Res0 rfl, .refl _, .inr hJx⟩
    refine WL_permN (perm_nd ..).symm ?_
    repeat (first | refine RQ ?_ | (refine WL_Q ?_; (first | refine QW_of (Qt_ldX rfl (hn := by with_reducible assumption)) ?_)) | refine RC ?_ | refine WG 8 ?_ | refine WG 9 ?_)
    refine WC_dropL ((l, o1) :: (d, o2) :: L4) (.cons _ (.refl _)) ?_
    have hmid : rowL 0 0 p.pre ++ stsL 1 (p.st.take k) ++ [(((k : Int) + 1, 0), x.1)] = rowL 0 0 p.pre ++ (stsL 1 (p.st.take k) ++ ((((k : Int) + 1, 0), x.1) :: rowL ((k : Int) + 1) 1 (x.2.take 0))) := by simp [rowL]
    rw [hmid] at hI3
    refine WC_wk [(43, .int .i64 ((0 : Nat) : Int)), (42, .int .i64 (x.2.length : Nat)), (41, .slice ab x.2.length capb), (5, .int .i64 (k : Nat)), (27, .int .i64 (k : Nat)), (26, .int .i64 (p.st.length : Nat)), (25, .slice (some ⟨rb, ro, none⟩) p.st.length caps), (0, .func (.yield l) #[] #[])] ⟨rfl, rfl, rfl, rfl, rfl, rfl, rfl, rfl, trivial⟩ ?_
    refine WC_loop (fun m σ => ∃ (j : Nat) (L5 : List (Nat × Obj)), m = x.2.length - j ∧ j ≤ x.2.length ∧ I (rowL 0 0 p.pre ++ (stsL 1 (p.st.take k) ++ ((((k : Int) + 1, 0), x.1) :: rowL ((k : Int) + 1) 1 (x.2.take j)))) L5 ∧ σ = ⟨[(43, .int .i64 (j : Nat)), (42, .int .i64 (x.2.length : Nat)), (41, .slice ab x.2.length capb), (5, .int .i64 (k : Nat)), (27, .int .i64 (k : Nat)), (26, .int .i64 (p.st.length : Nat)), (25, .slice (some ⟨rb, ro, none⟩) p.st.length caps), (0, .func (.yield l) #[] #[])], [], (l, o1) :: (d, o2) :: L5⟩) x.2.length ⟨0, L4, rfl, Nat.zero_le _, hI3, rfl⟩ ?_
    rintro _ σ ⟨j, L5, rfl, hj, hI5, rfl⟩
    by_cases hlj : j < x.2.length
    rotate_left
    · have e1 : decide ((j : Int) < ((x.2.length : Nat) : Int)) = false := decide_eq_false (by omega)
      rw [List.take_of_length_le (l := x.2) (by omega), ← stsL_take hx] at hI5
      repeat (first | refine RQ ?_ | (refine WL_Q ?_; (first | refine QW_of (Qt_ldX rfl (hn := by with_reducible assumption)) ?_)) | refine RC ?_ | refine WG 10 ?_ | refine WG 14 ?_)
      rw [w]
      exact ⟨_, _, by omega, ⟨k + 1, L5, rfl, by omega, hI5, rfl⟩, ⟨rfl, rfl, rfl, rfl, trivial⟩, rfl, .refl _⟩
    have e1 : decide ((j : Int) < ((x.2.length : Nat) : Int)) = true := decide_eq_true (by omega)
    have q0 : (0 : Int) ≤ (j : Int) := by omega
    have q1 : ((j : Nat) : Int) < ((x.2.length : Nat) : Int) := by omega
    have wj : IntKind.i64.wrap ((j : Int) + 1) = ((j + 1 : Nat) : Int) := by rw [wI64 (by omega) (by simp only [maxLen] at hmb; omega)]; omega
    obtain ⟨o, ho⟩ : ∃ o, x.2[j]? = some o := ⟨_, List.getElem?_eq_getElem hlj⟩
    obtain ⟨_, hG5⟩ := hI _ _ hI5
    obtain ⟨ob, oo, oc, ocs, oE, ofr, oi, e, _, _, hoi, hox⟩ := (hbv.mem hG5).cell (by omega)
    cases e
    have hoi2 : ((l, o1) :: (d, o2) :: L5)[oi + 1 + 1]? = some (ob, Obj.cells ocs oE ofr) := hoi
    obtain ⟨ox1, ox2⟩ := opL_ext hox ho
    have z1 : oo + ((j : Nat) : Int).toNat * 4 + 4 ≤ ocs.size := by rw [Int.toNat_natCast]; exact ox2
    have u1 : ocs.extract (oo + ((j : Nat) : Int).toNat * 4) (oo + ((j : Nat) : Int).toNat * 4 + 4) = opC o.1 o.2.1 o.2.2.1 o.2.2.2 := by rw [Int.toNat_natCast]; exact ox1
    have hjt := rowL_take (s := (k : Int) + 1) (k := 1) ho
    have hpf5 : ((rowL 0 0 p.pre ++ (stsL 1 (p.st.take k) ++ ((((k : Int) + 1, 0), x.1) :: rowL ((k : Int) + 1) 1 (x.2.take j)))) ++ [(((k : Int) + 1, 1 + (j : Int)), o)]) <+: nodesL p := by
      obtain ⟨r, hr⟩ := rowL_at (s := (k : Int) + 1) (k := 1) ho
      exact ⟨r ++ stsL ((k : Int) + 2) (p.st.drop (k + 1)), by rw [nodesL, hsp, ← hr]; simp⟩
    have hYf5 := hr [] _ _ _ hpf5 hI5
    rw [show (rowL 0 0 p.pre ++ (stsL 1 (p.st.take k) ++ ((((k : Int) + 1, 0), x.1) :: rowL ((k : Int) + 1) 1 (x.2.take j)))) ++ [(((k : Int) + 1, 1 + (j : Int)), o)] = rowL 0 0 p.pre ++ (stsL 1 (p.st.take k) ++ ((((k : Int) + 1, 0), x.1) :: rowL ((k : Int) + 1) 1 (x.2.take (j + 1)))) by rw [hjt]; simp] at hYf5
    simp only [List.append_nil] at hYf5
    repeat (first | refine RQ ?_ | (refine WL_Q ?_; (first | refine QW_of (Qt_ldX rfl (hn := by with_reducible assumption)) ?_)) | (refine RE ?_; try intro _) | refine RC ?_ | refine WG 10 ?_ | refine WG 11 ?_)
    try rw [u1]
    repeat (first | refine RQ ?_ | (refine WL_Q ?_; (first | refine QW_of (Qt_ldX rfl (hn := by with_reducible assumption)) ?_)) | (refine RE ?_; try intro _) | refine RC ?_ | refine WG 11 ?_ | refine WG 12 ?_)
    rw [w, wj, show ((j + 1 : Nat) : Int) = 1 + (j : Int) by omega]
    refine WL_dropN (.cons _ (.refl _)) ?_
    refine WL_op rfl (OW_yield rfl rfl rfl rfl rfl hYf5 ?_)
    rintro v L6 (⟨rfl, L7, rfl, hI7⟩ | ⟨rfl, hJx⟩)
    · repeat (first | refine RQ ?_ | (refine WL_Q ?_; (first | refine QW_of (Qt_ldX rfl (hn := by with_reducible assumption)) ?_)) | refine RC ?_ | refine WG 12 ?_ | refine WG 13 ?_)
      rw [wj]
      exact ⟨_, _, by omega, ⟨j + 1, L7, rfl, by omega, hI7, rfl⟩, ⟨rfl, rfl, rfl, rfl, rfl, rfl, rfl, rfl, trivial⟩, rfl, .refl _⟩
    · repeat (first | refine RQ ?_ | (refine WL_Q ?_; (first | refine QW_of (Qt_ldX rfl (hn := by with_reducible assumption)) ?_)) | refine RC ?_ | refine WG 12 ?_ | refine WG 13 ?_)
      exact ⟨rfl, _, _, Res0 rfl, .refl _, .inr hJx⟩
end Go.Proofs.YtncgndcepoicbaaGreat
namespace Go.Proofs.YtncgndcepoicbaaGreat
open Go.RowKit
attribute [local irreducible] Fn WC WL WR OW Qt YieldFn QW FnP FnD FnE
set_option maxHeartbeats 4000000 in
theorem long_fn {p : PlV} {pv : Array Value} {L : List (Nat × Obj)} (hp : PlAt L pv p) : Fn Tryz.prog 102 [.agg pv] L (fun v L' => v = .bool (longF p) ∧ L' = L) := by
  obtain ⟨prv, sv, ls, rfl, hpre, hst, hss⟩ := hp
  obtain ⟨_, ap, capp, rfl, hcp, hmp, _⟩ := id hpre
  obtain ⟨_, ast, caps, rfl, hcs, hms, _⟩ := id hst
  refine Fn_enter Tryz.func102 rfl Tryz.ntmps102 rfl fun g => ?_
  obtain ⟨b0, hb0⟩ : ∃ b0, b0 = (decide (4 < p.pre.length) || decide (p.st.length = 0) || decide (2 < p.st.length)) := ⟨_, rfl⟩
  have hsz : (plC (.slice ap p.pre.length capp) (.slice ast p.st.length caps) p).size = 4 := rfl
  repeat (first | refine RQ ?_ | (refine WL_Q ?_; (first | refine QW_of (Qt_ldX rfl (hn := by with_reducible assumption)) ?_)) | (refine RE ?_; try intro _) | refine RC ?_ | refine WG 0 ?_)
  rename_i x1
  refine WC_meet (fun σ => σ = ⟨[(3, .bool b0), (1, .pointer (some ⟨x1, 0, none⟩))], [], (x1, Obj.cells (plC (.slice ap p.pre.length capp) (.slice ast p.st.length caps) p) 25 (0, 0)) :: L⟩) ?_ ?_
  · by_cases c1 : 4 < p.pre.length
    · have d1 : decide (((p.pre.length : Nat) : Int) > 4) = true := decide_eq_true (by omega)
      have e : b0 = true := by rw [hb0, decide_eq_true c1]; rfl
      repeat (first | refine RQ ?_ | ((first | refine WL_Q ?_ | refine WL_Y ?_); (first | refine QW_of (Qt_ldX rfl (hn := by with_reducible assumption)) ?_)) | refine RC ?_ | refine WG 1 ?_)
      exact ⟨_, rfl, ⟨by rw [e]; rfl, rfl, trivial⟩, rfl, .refl _⟩
    have d1 : decide (((p.pre.length : Nat) : Int) > 4) = false := decide_eq_false (by omega)
    by_cases c2 : p.st.length = 0
    · have d2 : (((p.st.length : Nat) : Int) == 0) = true := by rw [c2]; rfl
      have e : b0 = true := by rw [hb0, decide_eq_false c1, decide_eq_true c2]; rfl
      repeat (first | refine RQ ?_ | ((first | refine WL_Q ?_ | refine WL_Y ?_); (first | refine QW_of (Qt_ldX rfl (hn := by with_reducible assumption)) ?_)) | refine RC ?_ | refine WG 1 ?_)
      exact ⟨_, rfl, ⟨by rw [e]; rfl, rfl, trivial⟩, rfl, .refl _⟩
    · have d2 : (((p.st.length : Nat) : Int) == 0) = false := by rw [beq_eq_false_iff_ne]; omega
      have e : decide (((p.st.length : Nat) : Int) > 2) = b0 := by
        rw [hb0, decide_eq_false c1, decide_eq_false c2, Bool.false_or, Bool.false_or]
        exact decide_eq_decide.2 (by omega)
      repeat (first | refine RQ ?_ | ((first | refine WL_Q ?_ | refine WL_Y ?_); (first | refine QW_of (Qt_ldX rfl (hn := by with_reducible assumption)) ?_)) | refine RC ?_ | refine WG 1 ?_)
      exact ⟨_, rfl, ⟨by rw [← e]; rfl, rfl, trivial⟩, rfl, .refl _⟩
  rintro _ rfl
  repeat (first | refine RQ ?_ | (refine WL_Q ?_; (first | refine QW_of (Qt_ldX rfl (hn := by with_reducible assumption)) ?_)) | refine RC ?_ | refine WG 2 ?_)
  refine WC_wk [(25, .int .i64 ((0 : Nat) : Int)), (24, .int .i64 (p.st.length : Nat)), (23, .slice ast p.st.length caps), (3, .bool b0), (1, .pointer (some ⟨x1, 0, none⟩))] ⟨rfl, rfl, rfl, rfl, rfl, trivial⟩ ?_
  refine WC_loop (fun m σ => ∃ (k : Nat) (b : Bool), m = p.st.length - k ∧ k ≤ p.st.length ∧ b = (b0 || (p.st.take k).any fun x => decide (4 < x.2.length)) ∧ σ = ⟨[(25, .int .i64 (k : Nat)), (24, .int .i64 (p.st.length : Nat)), (23, .slice ast p.st.length caps), (3, .bool b), (1, .pointer (some ⟨x1, 0, none⟩))], [], (x1, Obj.cells (plC (.slice ap p.pre.length capp) (.slice ast p.st.length caps) p) 25 (0, 0)) :: L⟩) p.st.length ⟨0, b0, rfl, Nat.zero_le _, by simp, rfl⟩ ?_
  rintro _ σ ⟨k, b, rfl, hk, hb, rfl⟩
  by_cases hlt : k < p.st.length
  rotate_left
  · have e1 : decide ((k : Int) < ((p.st.length : Nat) : Int)) = false := decide_eq_false (by omega)
    rw [List.take_of_length_le (by omega)] at hb
    repeat (first | refine RQ ?_ | (refine WL_Q ?_; (first | refine QW_of (Qt_ldX rfl (hn := by with_reducible assumption)) ?_)) | refine RC ?_ | refine WG 3 ?_ | refine WG 7 ?_)
    exact ⟨rfl, _, _, Res1 rfl (resV_tmp rfl), .cons _ (.refl _), by rw [hb, hb0]; rfl, rfl⟩
  have e1 : decide ((k : Int) < ((p.st.length : Nat) : Int)) = true := decide_eq_true (by omega)
  have p0 : (0 : Int) ≤ (k : Int) := by omega
  have p1 : ((k : Nat) : Int) < ((p.st.length : Nat) : Int) := by omega
  have w : IntKind.i64.wrap ((k : Int) + 1) = ((k + 1 : Nat) : Int) := by rw [wI64 (by omega) (by simp only [maxLen] at hms; omega)]; omega
  obtain ⟨x, hx⟩ : ∃ x, p.st[k]? = some x := ⟨_, List.getElem?_eq_getElem hlt⟩
  obtain ⟨rb, ro, rc, rcs, rE, rfr, ri, e, _, _, hri, hrx⟩ := (hst.mem (G' := (x1, Obj.cells (plC (.slice ap p.pre.length capp) (.slice ast p.st.length caps) p) 25 (0, 0)) :: L) fun _ h => .tail _ h).cell (by omega)
  cases e
  obtain ⟨bv, hbv, hx1, hx2⟩ := hss.ext hrx hx
  obtain ⟨_, ab, capb, rfl, _⟩ := id hbv
  have y1 : ro + ((k : Nat) : Int).toNat * 5 + 5 ≤ rcs.size := by rw [Int.toNat_natCast]; exact hx2
  have v1 : rcs.extract (ro + ((k : Nat) : Int).toNat * 5) (ro + ((k : Nat) : Int).toNat * 5 + 5) = stC x.1 (.slice ab x.2.length capb) := by rw [Int.toNat_natCast]; exact hx1
  have hany : ((p.st.take (k + 1)).any fun x => decide (4 < x.2.length)) = (((p.st.take k).any fun x => decide (4 < x.2.length)) || decide (4 < x.2.length)) := by
    rw [List.take_add_one, hx]; simp
  repeat (first | refine RQ ?_ | (refine WL_Q ?_; (first | refine QW_of (Qt_ldX rfl (hn := by with_reducible assumption)) ?_)) | (refine RE ?_; try intro _) | refine RC ?_ | refine WG 3 ?_ | refine WG 4 ?_)
  try rw [v1]
  repeat (first | refine RQ ?_ | (refine WL_Q ?_; (first | refine QW_of (Qt_ldX rfl (hn := by with_reducible assumption)) ?_)) | (refine RE ?_; try intro _) | refine RC ?_ | refine WG 4 ?_)
  cases b
  · have e2 : decide (((x.2.length : Nat) : Int) > 4) = decide (4 < x.2.length) := decide_eq_decide.2 (by omega)
    repeat (first | refine RQ ?_ | ((first | refine WL_Q ?_ | refine WL_Y ?_); (first | refine QW_of (Qt_ldX rfl (hn := by with_reducible assumption)) ?_)) | refine RC ?_ | refine WG 5 ?_ | refine WG 6 ?_)
    rw [w]
    exact ⟨_, _, by omega, ⟨k + 1, _, rfl, by omega, by rw [hany, ← Bool.or_assoc, ← hb, e2]; rfl, rfl⟩, ⟨rfl, rfl, rfl, rfl, rfl, trivial⟩, rfl, .cons _ (.refl _)⟩
  · repeat (first | refine RQ ?_ | ((first | refine WL_Q ?_ | refine WL_Y ?_); (first | refine QW_of (Qt_ldX rfl (hn := by with_reducible assumption)) ?_)) | refine RC ?_ | refine WG 5 ?_ | refine WG 6 ?_)
    rw [w]
    exact ⟨_, _, by omega, ⟨k + 1, _, rfl, by omega, by rw [hany, ← Bool.or_assoc, ← hb]; rfl, rfl⟩, ⟨rfl, rfl, rfl, rfl, rfl, trivial⟩, rfl, .cons _ (.refl _)⟩
end Go.Proofs.YtncgndcepoicbaaGreat
namespace Go.Proofs.YtncgndcepoicbaaGreat
open Go.RowKit
theorem rowL_len (s : Int) : ∀ (k : Int) (l : List OpV), (rowL s k l).length = l.length
  | _, [] => rfl
  | k, o :: r => by rw [rowL, List.length_cons, rowL_len s (k + 1) r, List.length_cons]
theorem stsL_len : ∀ (s : Int) (l : List StV), (∀ x ∈ l, x.2.length ≤ 4) → (stsL s l).length ≤ l.length * 5
  | _, [], _ => Nat.le_refl _
  | s, x :: r, h => by
    have ih := stsL_len (s + 1) r fun y hy => h y (.tail _ hy)
    have := h x (.head _)
    rw [stsL, List.length_cons, List.length_append, rowL_len, List.length_cons]
    omega
theorem longF_false {p : PlV} (h : longF p = false) : p.pre.length ≤ 4 ∧ p.st.length ≠ 0 ∧ p.st.length ≤ 2 ∧ ∀ x ∈ p.st, x.2.length ≤ 4 := by
  unfold longF at h
  rw [Bool.or_eq_false_iff, Bool.or_eq_false_iff, Bool.or_eq_false_iff] at h
  obtain ⟨⟨⟨h1, h2⟩, h3⟩, h4⟩ := h
  have h1 := of_decide_eq_false h1
  have h2 := of_decide_eq_false h2
  have h3 := of_decide_eq_false h3
  refine ⟨by omega, h2, by omega, fun x hx => ?_⟩
  rw [List.any_eq_false] at h4
  have := h4 x hx
  simp only [decide_eq_true_eq] at this
  omega
theorem nodesL_len {p : PlV} (h : longF p = false) : (nodesL p).length ≤ 14 := by
  obtain ⟨h1, h2, h3, h4⟩ := longF_false h
  have := stsL_len 1 p.st h4
  unfold nodesL
  rw [List.length_append, rowL_len]
  omega
attribute [local irreducible] Fn WC WL WR OW Qt YieldFn QW FnP FnD FnE
theorem heads_fn {s k : Int} {L : List (Nat × Obj)} : Fn Tryz.prog 105 [.agg #[iV s, iV k]] L (fun v L' => v = .bool (decide (s > 0) && (k == 0)) ∧ L' = L) := by
  refine Fn_enter Tryz.func105 rfl Tryz.ntmps105 rfl fun g => ?_
  by_cases h : s > 0
  · have d : decide (s > 0) = true := decide_eq_true h
    repeat (first | refine RQ ?_ | ((first | refine WL_Q ?_ | refine WL_Y ?_); (first | refine QW_of (Qt_ldX rfl (hn := by with_reducible assumption)) ?_)) | (refine RE ?_; try intro _) | refine RC ?_ | refine WC_region ?_)
    exact ⟨rfl, _, _, Res1 rfl (resV_tmp rfl), .cons _ (.refl _), by rw [d]; rfl, rfl⟩
  · have d : decide (s > 0) = false := decide_eq_false h
    repeat (first | refine RQ ?_ | ((first | refine WL_Q ?_ | refine WL_Y ?_); (first | refine QW_of (Qt_ldX rfl (hn := by with_reducible assumption)) ?_)) | (refine RE ?_; try intro _) | refine RC ?_ | refine WC_region ?_)
    exact ⟨rfl, _, _, Res1 rfl (resV_tmp rfl), .cons _ (.refl _), by rw [d]; rfl, rfl⟩
set_option maxHeartbeats 2000000 in
theorem PCheck_fn {p : PlV} {pv : Array Value} {L : List (Nat × Obj)} (hp : PlAt L pv p) : Fn Tryz.prog 39 [.agg pv] L (fun v L' => v = .tuple #[iV (planF p).1, iV (planF p).2] ∧ L' = L) := by
  obtain ⟨prv, sv, ls, rfl, hpre, hst, hss⟩ := id hp
  obtain ⟨_, ap, capp, rfl, hcp, hmp, _⟩ := id hpre
  obtain ⟨_, ast, caps, rfl, hcs, hms, _⟩ := id hst
  have hsz : (plC (.slice ap p.pre.length capp) (.slice ast p.st.length caps) p).size = 4 := rfl
  refine Fn_enterM Tryz.func39 rfl Tryz.ntmps39 rfl fun g => ?_
  obtain ⟨lg, hlg⟩ : ∃ lg, lg = longF p := ⟨_, rfl⟩
  have hpl : planF p = if lg = true then (-1, 4) else if p.late < 0 ∨ 1073741824 < p.late ∨ p.ep < 1 ∨ 1073741824 < p.ep then (-1, 2) else checkF 0 (nodesL p) := by rw [hlg]; rfl
  repeat (first | refine RQ ?_ | (refine WL_Q ?_; (first | refine QW_of (Qt_ldX rfl (hn := by with_reducible assumption)) ?_)) | (refine RE ?_; try intro _) | (refine WL_op rfl ?_; (first | refine OW_callP rfl (hF := long_fn (hp.mem fun _ h => .tail _ (.tail _ (.tail _ h)))) (hk := ?_))) | refine RC ?_ | refine WG 0 ?_ | refine WG 1 ?_)
  rename_i x1 x2 x3
  rw [← hlg]
  cases lg
  rotate_left
  · rw [if_pos rfl] at hpl
    repeat (first | refine RQ ?_ | (refine WL_Q ?_; (first | refine QW_of (Qt_ldX rfl (hn := by with_reducible assumption)) ?_)) | (refine RE ?_; try intro _) | (refine WL_op rfl ?_; (first | refine OW_callP rfl (hF := long_fn (hp.mem fun _ h => .tail _ (.tail _ (.tail _ h)))) (hk := ?_))) | refine RC ?_ | refine WG 1 ?_ | refine WG 6 ?_)
    rw [hpl]
    exact ⟨_, rfl, _, _, Res2 rfl (resV_cell1 rfl 1 rfl) (resV_cell1 rfl 0 rfl), .cons _ (.cons _ (.cons _ (.refl _))), rfl, rfl⟩
  rw [if_neg (by decide)] at hpl
  by_cases c1 : p.late < 0
  · have d1 : decide (p.late < 0) = true := decide_eq_true c1
    rw [if_pos (.inl c1)] at hpl
    repeat (first | refine RQ ?_ | (refine WL_Q ?_; (first | refine QW_of (Qt_ldX rfl (hn := by with_reducible assumption)) ?_)) | (refine RE ?_; try intro _) | (refine WL_op rfl ?_; (first | refine OW_callP rfl (hF := long_fn (hp.mem fun _ h => .tail _ (.tail _ (.tail _ h)))) (hk := ?_))) | refine RC ?_ | refine WG 1 ?_ | refine WG 2 ?_ | refine WG 7 ?_)
    rw [hpl]
    exact ⟨_, rfl, _, _, Res2 rfl (resV_cell1 rfl 1 rfl) (resV_cell1 rfl 0 rfl), .cons _ (.cons _ (.cons _ (.refl _))), rfl, rfl⟩
  have d1 : decide (p.late < 0) = false := decide_eq_false c1
  by_cases c2 : p.late > 1073741824
  · have d2 : decide (p.late > 1073741824) = true := decide_eq_true c2
    rw [if_pos (.inr (.inl c2))] at hpl
    repeat (first | refine RQ ?_ | (refine WL_Q ?_; (first | refine QW_of (Qt_ldX rfl (hn := by with_reducible assumption)) ?_)) | (refine RE ?_; try intro _) | (refine WL_op rfl ?_; (first | refine OW_callP rfl (hF := long_fn (hp.mem fun _ h => .tail _ (.tail _ (.tail _ h)))) (hk := ?_))) | refine RC ?_ | refine WG 1 ?_ | refine WG 2 ?_ | refine WG 3 ?_ | refine WG 7 ?_)
    rw [hpl]
    exact ⟨_, rfl, _, _, Res2 rfl (resV_cell1 rfl 1 rfl) (resV_cell1 rfl 0 rfl), .cons _ (.cons _ (.cons _ (.refl _))), rfl, rfl⟩
  have d2 : decide (p.late > 1073741824) = false := decide_eq_false c2
  by_cases c3 : p.ep < 1
  · have d3 : decide (p.ep < 1) = true := decide_eq_true c3
    rw [if_pos (.inr (.inr (.inl c3)))] at hpl
    repeat (first | refine RQ ?_ | (refine WL_Q ?_; (first | refine QW_of (Qt_ldX rfl (hn := by with_reducible assumption)) ?_)) | (refine RE ?_; try intro _) | (refine WL_op rfl ?_; (first | refine OW_callP rfl (hF := long_fn (hp.mem fun _ h => .tail _ (.tail _ (.tail _ h)))) (hk := ?_))) | refine RC ?_ | refine WG 1 ?_ | refine WG 2 ?_ | refine WG 3 ?_ | refine WG 4 ?_ | refine WG 7 ?_)
    rw [hpl]
    exact ⟨_, rfl, _, _, Res2 rfl (resV_cell1 rfl 1 rfl) (resV_cell1 rfl 0 rfl), .cons _ (.cons _ (.cons _ (.refl _))), rfl, rfl⟩
  have d3 : decide (p.ep < 1) = false := decide_eq_false c3
  by_cases c4 : p.ep > 1073741824
  · have d4 : decide (p.ep > 1073741824) = true := decide_eq_true c4
    rw [if_pos (.inr (.inr (.inr c4)))] at hpl
    repeat (first | refine RQ ?_ | (refine WL_Q ?_; (first | refine QW_of (Qt_ldX rfl (hn := by with_reducible assumption)) ?_)) | (refine RE ?_; try intro _) | (refine WL_op rfl ?_; (first | refine OW_callP rfl (hF := long_fn (hp.mem fun _ h => .tail _ (.tail _ (.tail _ h)))) (hk := ?_))) | refine RC ?_ | refine WG 1 ?_ | refine WG 2 ?_ | refine WG 3 ?_ | refine WG 4 ?_ | refine WG 5 ?_ | refine WG 7 ?_)
    rw [hpl]
    exact ⟨_, rfl, _, _, Res2 rfl (resV_cell1 rfl 1 rfl) (resV_cell1 rfl 0 rfl), .cons _ (.cons _ (.cons _ (.refl _))), rfl, rfl⟩
  have d4 : decide (p.ep > 1073741824) = false := decide_eq_false c4
  rw [if_neg (by rintro (h | h | h | h); exact c1 h; exact c2 h; exact c3 h; exact c4 h)] at hpl
  have hall : ((plC (.slice ap p.pre.length capp) (.slice ast p.st.length caps) p).toList.all fun x => x.oneCell') = true := rfl
  repeat (first | refine RQ ?_ | (refine WL_Q ?_; (first | refine QW_of (Qt_ldX rfl (hn := by with_reducible assumption)) ?_)) | (refine RE ?_; try intro _) | (refine WL_op rfl ?_; (first | refine OW_callP rfl (hF := long_fn (hp.mem fun _ h => .tail _ (.tail _ (.tail _ h)))) (hk := ?_) | (refine OW_call rfl (hF := nodes_fn hsz hall) (hk := ?_); rintro _ _ ⟨xn, rfl, rfl⟩))) | refine RC ?_ | refine WG 1 ?_ | refine WG 2 ?_ | refine WG 3 ?_ | refine WG 4 ?_ | refine WG 5 ?_ | refine WG 8 ?_ | refine WG 9 ?_)
  rename_i x4
  obtain ⟨pc, hpc⟩ : ∃ pc, pc = plC (.slice ap p.pre.length capp) (.slice ast p.st.length caps) p := ⟨_, rfl⟩
  simp only [← hpc] at hp ⊢
  have hn14 := nodesL_len hlg.symm
  refine WC_wk [(25, ndF xn), (4, .pointer (some ⟨x4, 0, none⟩)), (3, .pointer (some ⟨x3, 0, none⟩)), (2, .pointer (some ⟨x2, 0, none⟩))] ⟨rfl, rfl, rfl, rfl, trivial⟩ ?_
  refine WC_rangeX rfl ndC (fun _ => rfl) rfl (fun pre y => (pre ++ [y]) <+: nodesL p) (fun xs => xs = nodesL p)
    (fun pre L' => (∃ rest, nodesL p = pre ++ rest ∧ checkF 0 (nodesL p) = checkF pre.length rest) ∧ L' = (xn, Obj.cells pc 25 (0, 0)) :: (x4, Obj.cells #[iV pre.length] 3 (0, 0)) :: (x3, Obj.cells #[iV 0] 31 (0, 0)) :: (x2, Obj.cells #[iV 0] 3 (0, 0)) :: (x1, Obj.cells pc 25 (0, 0)) :: L)
    (fun c L' => c = .ret ∧ ∃ u4, L' = (xn, Obj.cells pc 25 (0, 0)) :: (x4, u4) :: (x3, Obj.cells #[iV (planF p).2] 31 (0, 0)) :: (x2, Obj.cells #[iV (planF p).1] 3 (0, 0)) :: (x1, Obj.cells pc 25 (0, 0)) :: L) ?_ ?_ ?_ ?_
  · intro l d o1 o2 Jx hr
    refine (nodes1_fn (p := p) (G := L) hp (I := fun pre L' => (∃ rest, nodesL p = pre ++ rest ∧ checkF 0 (nodesL p) = checkF pre.length rest) ∧ L' = (xn, Obj.cells pc 25 (0, 0)) :: (x4, Obj.cells #[iV pre.length] 3 (0, 0)) :: (x3, Obj.cells #[iV 0] 31 (0, 0)) :: (x2, Obj.cells #[iV 0] 3 (0, 0)) :: (x1, Obj.cells pc 25 (0, 0)) :: L) ?_ hr ?_)
    · rintro pre L' ⟨_, rfl⟩
      exact ⟨⟨0, rfl⟩, fun q hq => .tail _ (.tail _ (.tail _ (.tail _ (.tail _ hq))))⟩
    · exact ⟨⟨_, rfl, rfl⟩, rfl⟩
  · rintro X g' n' l d pre ⟨⟨sp, kp⟩, ok, oa, ob, og⟩ L' hdom ⟨⟨rest, hr1, hr2⟩, rfl⟩ ol od hol
    obtain ⟨r2, hr3⟩ := hdom
    have hrest : rest = ((sp, kp), (ok, oa, ob, og)) :: r2 := by
      rw [hr1, List.append_assoc] at hr3
      exact (List.append_cancel_left hr3).symm
    subst hrest
    have hlen : pre.length < 14 := by
      have := congrArg List.length hr1
      rw [List.length_append, List.length_cons] at this
      omega
    repeat (first | refine RQ ?_ | (refine WL_Q ?_; (first | refine QW_of (Qt_ldX rfl (hn := by with_reducible assumption)) ?_)) | (refine RE ?_; try intro _) | refine RC ?_ | refine WG 10 ?_ | refine WG 11 ?_)
    refine ⟨rfl, _, [_, _], _, rfl, fun ol' hol' => ?_⟩
    simp only [List.cons_append, List.nil_append]
    have hsub : ∀ A : List (Nat × Obj), (A ++ L).Sublist (A ++ (L ++ X)) := fun A => List.Sublist.append_left (List.sublist_append_left L X) A
    by_cases hop : opF ok oa ob og = true
    rotate_left
    · have e1 : ((if opF ok oa ob og = true then (0 : Int) else 13) != 0) = true := by rw [if_neg hop]; rfl
      have e2 : planF p = ((pre.length : Int), 13) := by
        rw [hpl, hr2, checkF, if_pos (by unfold OpV.ok; simpa using hop)]
      repeat (first | refine RQ ?_ | (refine WL_Q ?_; (first | refine QW_of (Qt_ldX rfl (hn := by with_reducible assumption)) ?_)) | (refine RE ?_; try intro _) | (refine WL_op rfl ?_; (first | refine OW_callP rfl (hF := Check_fn) (hk := ?_))) | refine RC ?_ | refine WG 12 ?_ | refine WG 13 ?_)
      rw [e2]
      exact ⟨_, .cons _ (.cons _ (hsub [_, _, _, _, _, _, _])), by trivial, _, rfl⟩
    have e1 : ((if opF ok oa ob og = true then (0 : Int) else 13) != 0) = false := by rw [if_pos hop]; rfl
    cases hcl : ((decide (sp > 0) && (kp == 0)) == (clsF ok == 0))
    rotate_left
    · have e2 : planF p = ((pre.length : Int), 14) := by
        rw [hpl, hr2, checkF, if_neg (by unfold OpV.ok; simpa using hop), if_pos hcl]
      repeat (first | refine RQr ?_ | (refine RX ?_; (first | refine QW_of (Qt_ldX rfl (hn := by with_reducible assumption)) ?_)) | (refine OX ?_; (first | (refine OE ?_; try intro _) | refine OW_callP rfl (hF := heads_fn) (hk := ?_) | refine OW_callP rfl (hF := Check_fn) (hk := ?_) | refine OW_callP rfl (hF := Class_fn) (hk := ?_)); try refine SD ?_) | refine RC ?_ | refine RU ?_ | refine WC_draw_all (id := 14) 7 (Cs [0,2] <| .must 1 <| .must 3 <| Cs [4,5,6] <| .done) mixed (by kernel_rfl) ?_ | refine WG 12 ?_ | refine WG 15 ?_)
      rw [e2]
      exact ⟨_, .cons _ (.cons _ (hsub [_, _, _, _, _, _, _])), by trivial, _, rfl⟩
    · have w : IntKind.i64.wrap ((pre.length : Int) + 1) = ((pre.length + 1 : Nat) : Int) := by rw [wI64 (by omega) (by omega)]; omega
      repeat (first | refine RQr ?_ | (refine RX ?_; (first | refine QW_of (Qt_ldX rfl (hn := by with_reducible assumption)) ?_)) | (refine OX ?_; (first | (refine OE ?_; try intro _) | refine OW_callP rfl (hF := heads_fn) (hk := ?_) | refine OW_callP rfl (hF := Check_fn) (hk := ?_) | refine OW_callP rfl (hF := Class_fn) (hk := ?_)); try refine SD ?_) | refine RC ?_ | refine RU ?_ | refine WC_draw_all (id := 14) 7 (Cs [0,2] <| .must 1 <| .must 3 <| Cs [4,5,6] <| .done) mixed (by kernel_rfl) ?_ | refine WG 12 ?_ | refine WG 16 ?_)
      rw [w]
      have hl1 : (pre ++ [((sp, kp), (ok, oa, ob, og))]).length = pre.length + 1 := by simp
      exact ⟨_, .cons _ (.cons _ (.refl _)), _, rfl, ⟨r2, by rw [hr1]; simp, by rw [hr2, checkF, if_neg (by unfold OpV.ok; simpa using hop), if_neg (by rw [hcl]; decide), hl1]; rfl⟩, by rw [hl1]⟩
  · rintro d xs L' rfl ⟨⟨rest, hr1, hr2⟩, rfl⟩
    have hrest : rest = [] := by
      have := congrArg List.length hr1
      rw [List.length_append] at this
      exact List.eq_nil_of_length_eq_zero (by omega)
    subst hrest
    have e2 : planF p = (-1, 0) := by rw [hpl, hr2]; rfl
    repeat (first | refine RQ ?_ | (refine WL_Q ?_; (first | refine QW_of (Qt_ldX rfl (hn := by with_reducible assumption)) ?_)) | (refine RE ?_; try intro _) | refine RC ?_ | refine WG 17 ?_)
    rw [e2]
    exact ⟨_, ⟨d, 0, _, rfl, rfl, rfl, rfl⟩, _, _, Res2 rfl (resV_cell1 rfl 4 rfl) (resV_cell1 rfl 3 rfl), .cons _ (.cons _ (.cons _ (.cons _ (.cons _ (.cons _ (.refl _)))))), rfl, rfl⟩
  · rintro d cj L' ⟨rfl, u4, rfl⟩
    exact WC_ret ⟨_, ⟨d, 0, _, rfl, rfl, rfl, rfl⟩, _, _, Res2 rfl (resV_cell1 rfl 4 rfl) (resV_cell1 rfl 3 rfl), .cons _ (.cons _ (.cons _ (.cons _ (.cons _ (.cons _ (.refl _)))))), rfl, rfl⟩
end Go.Proofs.YtncgndcepoicbaaGreat
