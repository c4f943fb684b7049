/-
  A part of what the last of these texts needs; by itself it proves no statement.
-/
import Derived.Test.YtekmmhmhcpaiaaaGreatKP35
namespace Go.Proofs.YtekmmhmhcpaiaaaGreat
open Go.RowKit
abbrev cfC (c : CfV) : Array Value := #[iV c.1, iV c.2.1, iV c.2.2.1, iV c.2.2.2.1, iV c.2.2.2.2]
def rightF (c : CfV) : Bool := decide ((1 ≤ c.1 ∧ c.1 ≤ 3) ∧ (1 ≤ c.2.1 ∧ c.2.1 ≤ c.1) ∧ (1 ≤ c.2.2.1 ∧ c.2.2.1 ≤ 16) ∧ (1 ≤ c.2.2.2.1 ∧ c.2.2.2.1 ≤ 8) ∧ (4 ≤ c.2.2.2.2 ∧ c.2.2.2.2 ≤ 64))
def newT (p : PlV) (c : CfV) : TbV := ⟨c, [], (turnsL ([1, 2, 3].take c.2.1.toNat) 8).map fun w => [(0, w)], [1, 2, 3].take c.2.1.toNat, opsL p, List.replicate (opsL p).length []⟩
attribute [local irreducible] Fn WC WL WR OW Qt YieldFn QW FnP FnD FnE
set_option maxHeartbeats 4000000 in
theorem right_fn {c : CfV} {L : List (Nat × Obj)} : Fn Tryz.prog 33 [.agg (cfC c)] L (fun v L' => v = .bool (rightF c) ∧ L' = L) := by
  refine Fn_enter Tryz.func33 rfl Tryz.ntmps33 rfl fun g => ?_
  by_cases h1 : 1 ≤ c.1 ∧ c.1 ≤ 3
  rotate_left
  · have e1 : decide (1 ≤ c.1 ∧ c.1 ≤ 3) = false := decide_eq_false h1
    repeat (first | refine RQ ?_ | (refine RE ?_; try intro _) | ((first | refine WL_op rfl ?_ | refine WL_yes (h := ?_)); (first | refine OW_callP rfl (hF := within_fn) (hk := ?_))) | refine RC ?_ | refine WC_region ?_)
    exact ⟨rfl, _, _, Res1 rfl (resV_tmp rfl), .cons _ (.refl _), by rw [rightF, decide_eq_false (fun h => h1 h.1)], rfl⟩
  have e1 : decide (1 ≤ c.1 ∧ c.1 ≤ 3) = true := decide_eq_true h1
  by_cases h2 : 1 ≤ c.2.1 ∧ c.2.1 ≤ c.1
  rotate_left
  · have e2 : decide (1 ≤ c.2.1 ∧ c.2.1 ≤ c.1) = false := decide_eq_false h2
    repeat (first | refine RQ ?_ | (refine RE ?_; try intro _) | ((first | refine WL_op rfl ?_ | refine WL_yes (h := ?_)); (first | refine OW_callP rfl (hF := within_fn) (hk := ?_))) | refine RC ?_ | refine WC_region ?_)
    exact ⟨rfl, _, _, Res1 rfl (resV_tmp rfl), .cons _ (.refl _), by rw [rightF, decide_eq_false (fun h => h2 h.2.1)], rfl⟩
  have e2 : decide (1 ≤ c.2.1 ∧ c.2.1 ≤ c.1) = true := decide_eq_true h2
  by_cases h3 : 1 ≤ c.2.2.1 ∧ c.2.2.1 ≤ 16
  rotate_left
  · have e3 : decide (1 ≤ c.2.2.1 ∧ c.2.2.1 ≤ 16) = false := decide_eq_false h3
    repeat (first | refine RQ ?_ | (refine RE ?_; try intro _) | ((first | refine WL_op rfl ?_ | refine WL_yes (h := ?_)); (first | refine OW_callP rfl (hF := within_fn) (hk := ?_))) | refine RC ?_ | refine WC_region ?_)
    exact ⟨rfl, _, _, Res1 rfl (resV_tmp rfl), .cons _ (.refl _), by rw [rightF, decide_eq_false (fun h => h3 h.2.2.1)], rfl⟩
  have e3 : decide (1 ≤ c.2.2.1 ∧ c.2.2.1 ≤ 16) = true := decide_eq_true h3
  by_cases h4 : 1 ≤ c.2.2.2.1 ∧ c.2.2.2.1 ≤ 8
  rotate_left
  · have e4 : decide (1 ≤ c.2.2.2.1 ∧ c.2.2.2.1 ≤ 8) = false := decide_eq_false h4
    repeat (first | refine RQ ?_ | (refine RE ?_; try intro _) | ((first | refine WL_op rfl ?_ | refine WL_yes (h := ?_)); (first | refine OW_callP rfl (hF := within_fn) (hk := ?_))) | refine RC ?_ | refine WC_region ?_)
    exact ⟨rfl, _, _, Res1 rfl (resV_tmp rfl), .cons _ (.refl _), by rw [rightF, decide_eq_false (fun h => h4 h.2.2.2.1)], rfl⟩
  have e4 : decide (1 ≤ c.2.2.2.1 ∧ c.2.2.2.1 ≤ 8) = true := decide_eq_true h4
  repeat (first | refine RQ ?_ | (refine RE ?_; try intro _) | ((first | refine WL_op rfl ?_ | refine WL_yes (h := ?_)); (first | refine OW_callP rfl (hF := within_fn) (hk := ?_))) | refine RC ?_ | refine WC_region ?_)
  refine ⟨rfl, _, _, Res1 rfl (resV_tmp rfl), .cons _ (.refl _), ?_, rfl⟩
  rw [rightF]
  congr 1
  exact decide_eq_decide.2 ⟨fun h => ⟨h1, h2, h3, h4, h⟩, fun h => h.2.2.2.2⟩
end Go.Proofs.YtekmmhmhcpaiaaaGreat
namespace Go.Proofs.YtekmmhmhcpaiaaaGreat
open Go.RowKit
theorem TabC.setR {cs : Array Value} {wk : CfV} {cv av nv rv : Value} {sv : Nat → Value} (h : TabC cs wk cv sv av nv rv) {v : Value} (h1 : v.oneCell' = true) : TabC (cs.setIfInBounds 20 v) wk cv sv av nv v where
  z := by rw [Array.size_setIfInBounds]; exact h.z
  one := by
    rw [List.all_eq_true]
    intro x hx
    rw [Array.toList_setIfInBounds] at hx
    rcases List.mem_or_eq_of_mem_set hx with h2 | rfl
    · exact List.all_eq_true.1 h.one x h2
    · exact h1
  w := by rw [Array.getElem?_setIfInBounds_ne (by omega)]; exact h.w
  g5 := by rw [Array.getElem?_setIfInBounds_ne (by omega)]; exact h.g5
  g6 := by rw [Array.getElem?_setIfInBounds_ne (by omega)]; exact h.g6
  g7 := by rw [Array.getElem?_setIfInBounds_ne (by omega)]; exact h.g7
  g8 := by rw [Array.getElem?_setIfInBounds_ne (by omega)]; exact h.g8
  c := by rw [Array.getElem?_setIfInBounds_ne (by omega)]; exact h.c
  s := fun b' hb' => by rw [Array.getElem?_setIfInBounds_ne (by omega)]; exact h.s b' hb'
  a := by rw [Array.getElem?_setIfInBounds_ne (by omega)]; exact h.a
  n := by rw [Array.getElem?_setIfInBounds_ne (by omega)]; exact h.n
  r := by rw [Array.getElem?_setIfInBounds_self_of_lt (by rw [h.z]; omega)]
attribute [local irreducible] Fn WC WL WR OW Qt YieldFn QW FnP FnD FnE
end Go.Proofs.YtekmmhmhcpaiaaaGreat
namespace Go.Proofs.YtekmmhmhcpaiaaaGreat
open Go.RowKit
theorem planF_ok {p : PlV} (h : (planF p).2 = 0) : longF p = false := by
  cases hl : longF p
  · rfl
  · rw [planF, if_pos hl] at h; cases h
theorem perm_n1 {α : Type} (a b c : α) (T X L : List α) : (a :: b :: c :: (T ++ (X ++ L))).Perm (a :: (T ++ (X ++ b :: c :: L))) := by
  classical
  rw [List.perm_iff_count]
  intro z
  simp only [List.count_append, List.count_cons]
  omega
theorem perm_n2 {α : Type} (a b c : α) (L : List α) : (a :: b :: c :: L).Perm (c :: a :: b :: L) := by
  classical
  rw [List.perm_iff_count]
  intro z
  simp only [List.count_cons]
  omega
attribute [local irreducible] Fn WC WL WR OW Qt YieldFn QW FnP FnD FnE
set_option maxHeartbeats 2000000 in
theorem New_fn {p : PlV} {pv : Array Value} {c : CfV} {L : List (Nat × Obj)} (hp : PlAt L pv p) (h : (planF p).2 = 0) (hr : rightF c = true) : Fn Tryz.prog 15 [.agg pv, .agg (cfC c)] L (fun v L' => ∃ tb S G, v = .tuple #[.pointer (some ⟨tb, 0, none⟩), iV 0] ∧ L' = S ++ (G ++ L) ∧ TabAt tb S G (newT p c)) := by
  obtain ⟨prv, sv, ls, rfl, hpre, hst, hss⟩ := id hp
  obtain ⟨_, ap, capp, rfl, hcp, hmp, _⟩ := id hpre
  obtain ⟨_, ast, caps, rfl, hcs, hms, _⟩ := id hst
  obtain ⟨l1, l2, l3, l4⟩ := longF_false (planF_ok h)
  have l5 := nodesL_len (planF_ok h)
  have hsz : (plC (.slice ap p.pre.length capp) (.slice ast p.st.length caps) p).size = 4 := rfl
  refine Fn_enter Tryz.func15 rfl Tryz.ntmps15 rfl fun g => ?_
  obtain ⟨e, he⟩ : ∃ e, e = planF p := ⟨_, rfl⟩
  rw [← he] at h
  have d : (e.2 != 0) = false := by rw [h]; rfl
  have d2 : (!rightF c) = false := by rw [hr]; rfl
  repeat (first | refine RQ ?_ | (refine WL_Q ?_; (first | refine QW_of (Qt_ldX rfl (hn := by with_reducible assumption)) ?_ | refine QW_of (Qt_indexV rfl) ?_)) | (refine RE ?_; try intro _) | (refine WL_op rfl ?_; (first | refine OW_callP rfl (hF := PCheck_fn (hp.mem fun _ h => .tail _ (.tail _ h))) (hk := ?_))) | refine RC ?_ | refine WG 0 ?_ | refine WG 1 ?_)
  rw [← he]
  repeat (first | refine RQ ?_ | (refine WL_Q ?_; (first | refine QW_of (Qt_ldX rfl (hn := by with_reducible assumption)) ?_ | refine QW_of (Qt_indexV rfl) ?_)) | (refine WL_op rfl ?_; (first | refine OW_callP rfl (hF := right_fn) (hk := ?_) | refine OW_callP rfl (hF := PCheck_fn (hp.mem fun _ h => .tail _ (.tail _ h))) (hk := ?_))) | refine RC ?_ | refine WG 1 ?_ | refine WG 2 ?_ | refine WG 4 ?_)
  rename_i x2 x3
  refine WC_wk [(3, .pointer (some ⟨x3, 0, none⟩)), (2, .pointer (some ⟨x2, 0, none⟩))] ⟨rfl, rfl, trivial⟩ ?_
  refine WC_drawK (id := 6) _ 9 (Cs [0,2,4] <| .must 1 <| .calm 3 <| .must 5 <| .calm 6 <| .must 7 <| .calm 8 <| .done) mixed (by kernel_rfl) (by kernel_rfl) (List.Sublist.refl _) ?_; repeat (first | refine WS_d ?_ | refine WS_c rfl (QW_a ?_))
  refine WS_m rfl rfl (OW_call rfl (hF := own_fn (hp.mem fun _ h => .tail _ (.tail _ h)) (by omega) (by omega) (fun x hx => by have := l4 x hx; omega)) (hk := ?_))
  rintro v _ ⟨X, _, rfl, rfl, q1, q2, ls', rfl, hq1, hq2, hq3⟩
  obtain ⟨_, aq1, cq1, rfl, _, _, _⟩ := id hq1
  obtain ⟨_, aq2, cq2, rfl, _, _, _⟩ := id hq2
  refine ⟨fun q hq => List.mem_append_right _ hq, ?_⟩
  repeat (first | refine WS_d ?_ | refine WS_c rfl (QW_a ?_))
  refine WS_m rfl rfl (OW_call rfl (hF := Nodes_fn (hp.mem fun _ h => List.mem_append_right _ (.tail _ (.tail _ h))) (by omega)) (hk := ?_))
  rintro v _ ⟨Tn, rfl, hTn⟩
  refine ⟨fun q hq => List.mem_append_right _ (List.mem_append_right _ hq), ?_⟩
  obtain ⟨an, cn, rfl, _, _⟩ := id hTn.val
  repeat (first | refine WS_d ?_ | refine WS_c rfl (QW_a ?_))
  refine WS_m rfl rfl (OW_box rfl (hk := fun tb => ?_))
  refine ⟨fun q hq => .tail _ (List.mem_append_right _ (List.mem_append_right _ hq)), ?_⟩
  repeat (first | refine WS_d ?_ | refine WS_c rfl (QW_a ?_))
  refine WC_wk [(8, .pointer (some ⟨tb, 0, none⟩)), (3, .pointer (some ⟨x3, 0, none⟩))] ⟨rfl, rfl, trivial⟩ ?_
  obtain ⟨cs, hcs⟩ : ∃ cs, cs = putR (putR zc107 0 (Value.agg (putR (putR zc100 0 (Value.agg (plC (Value.slice aq1 p.pre.length cq1) (Value.slice aq2 p.st.length cq2) p)).cells) 4 (Value.agg (cfC c)).cells)).cells) 19 (Value.slice an (opsL p).length cn).cells := ⟨_, rfl⟩
  have hC : TabC cs c (.slice none 0 0) (fun _ => .slice none 0 0) (.slice none 0 0) (.slice an (opsL p).length cn) (.slice none 0 0) := by
    rw [hcs]
    exact ⟨rfl, rfl, rfl, rfl, rfl, rfl, rfl, rfl, fun b hb => by
      have : b = 0 ∨ b = 1 ∨ b = 2 ∨ b = 3 ∨ b = 4 ∨ b = 5 ∨ b = 6 ∨ b = 7 := by omega
      rcases this with rfl | rfl | rfl | rfl | rfl | rfl | rfl | rfl <;> rfl, rfl, rfl, rfl⟩
  rw [← hcs]
  clear hcs
  refine WC_permT (L' := (tb, Obj.cells cs 107 (0, 0)) :: (x3, Obj.cells (cfC c) 67 (0, 0)) :: (x2, Obj.cells (plC (.slice ap p.pre.length capp) (.slice ast p.st.length caps) p) 65 (0, 0)) :: (Tn ++ (X ++ L))) (perm_n1 ..) ?_
  refine WC_dropL ((tb, Obj.cells cs 107 (0, 0)) :: (x3, Obj.cells (cfC c) 67 (0, 0)) :: (Tn ++ (X ++ L))) (.cons_cons _ (.cons_cons _ (.cons _ (.refl _)))) ?_
  obtain ⟨R, hR⟩ : ∃ R, R = Tn ++ (X ++ L) := ⟨_, rfl⟩
  rw [← hR]
  have hcn := hC.n
  have hol : (opsL p).length ≤ 14 := by rw [opsL, List.length_map]; exact l5
  repeat (first | refine RQ ?_ | (refine WL_Q ?_; (first | refine QW_of (Qt_ldX rfl (hn := by with_reducible assumption)) ?_ | refine QW_of (Qt_indexV rfl) ?_)) | (refine RE ?_; try intro _) | refine RC ?_ | refine WG 7 ?_)
  refine WL_op rfl (OW_make1 (n := (opsL p).length) rfl (by omega) (by simp only [maxLen]; omega) fun rb => ?_)
  have s20 : 20 < cs.size := by rw [hC.z]; decide
  repeat (first | refine RQ ?_ | (refine WL_Q ?_; (first | refine QW_of (Qt_ldX rfl (hn := by with_reducible assumption)) ?_ | refine QW_of (Qt_indexV rfl) ?_)) | (refine RE ?_; try intro _) | refine RC ?_ | refine WG 7 ?_ | refine WG 8 ?_)
  have hC1 := hC.setR (v := .slice (some ⟨rb, 0, none⟩) (opsL p).length (opsL p).length) rfl
  obtain ⟨cs1, hcs1⟩ : ∃ cs1, cs1 = cs.setIfInBounds 20 (.slice (some ⟨rb, 0, none⟩) (opsL p).length (opsL p).length) := ⟨_, rfl⟩
  rw [← hcs1] at hC1 ⊢
  clear hcs1 hcn s20
  clear hC
  have hrr := of_decide_eq_true hr
  obtain ⟨n, hn⟩ : ∃ n : Nat, c.2.1 = (n : Int) := ⟨c.2.1.toNat, by omega⟩
  have hn1 : 1 ≤ n := by omega
  have hn3 : n ≤ 3 := by omega
  refine WC_wk [(9, iV (((0 : Nat) : Int) + 1)), (8, .pointer (some ⟨tb, 0, none⟩)), (3, .pointer (some ⟨x3, 0, none⟩))] ⟨rfl, rfl, rfl, trivial⟩ ?_
  refine WC_loop (fun m σ => ∃ (k : Nat) (cs : Array Value) (av : Value) (A : List (Nat × Obj)), m = n - k ∧ k ≤ n ∧ TabC cs c (.slice none 0 0) (fun _ => .slice none 0 0) av (.slice an (opsL p).length cn) (.slice (some ⟨rb, 0, none⟩) (opsL p).length (opsL p).length) ∧ BufI av A ([1, 2, 3].take k) ∧ σ = ⟨[(9, iV ((k : Int) + 1)), (8, .pointer (some ⟨tb, 0, none⟩)), (3, .pointer (some ⟨x3, 0, none⟩))], [], (rb, Obj.cells (List.replicate (opsL p).length (Value.slice none 0 0)).toArray 102 (0, 0)) :: (tb, Obj.cells cs 107 (0, 0)) :: (x3, Obj.cells (cfC c) 67 (0, 0)) :: (A ++ R)⟩) n ⟨0, cs1, _, [], rfl, Nat.zero_le _, hC1, Buf.nil _ _, rfl⟩ ?_
  clear hC1
  rintro _ σ ⟨k, cs, av, A, rfl, hk, hC, hA, rfl⟩
  by_cases hlt : k < n
  · have d1 : decide ((k : Int) + 1 ≤ c.2.1) = true := decide_eq_true (by omega)
    have w : IntKind.i64.wrap ((k : Int) + 1 + 1) = ((k + 1 : Nat) : Int) + 1 := by rw [wI64 (by omega) (by omega)]; omega
    have hca := hC.a
    have s18 : 18 < cs.size := by rw [hC.z]; decide
    obtain ⟨aa, ca, rfl, _, _⟩ := Buf.val (id hA)
    have hlk : ([1, 2, 3].take k : List Int).length = k := by rw [List.length_take]; simp; omega
    repeat (first | refine RQ ?_ | (refine WL_Q ?_; (first | refine QW_of (Qt_ldX rfl (hn := by with_reducible assumption)) ?_ | refine QW_of (Qt_indexV rfl) ?_)) | (refine RE ?_; try intro _) | refine RC ?_ | refine WG 9 ?_ | refine WG 11 ?_)
    rename_i xs
    refine WL_op rfl (OW_append_buf (A := [(xs, Obj.cells #[iV ((k : Int) + 1)] 3 (0, 0)), (rb, Obj.cells (List.replicate (opsL p).length (Value.slice none 0 0)).toArray 102 (0, 0)), (tb, Obj.cells cs 107 (0, 0)), (x3, Obj.cells (cfC c) 67 (0, 0))]) (T := A) (B := R) rfl rfl rfl rfl rfl hA (src1 0 rfl) (by decide) (by simp only [maxLen]; omega) (by omega) ?_)
    intro v' A' hA'
    simp only [List.cons_append, List.nil_append]
    obtain ⟨aa', ca', rfl, _, _⟩ := id hA'.val
    repeat (first | refine RQ ?_ | (refine WL_Q ?_; (first | refine QW_of (Qt_ldX rfl (hn := by with_reducible assumption)) ?_ | refine QW_of (Qt_indexV rfl) ?_)) | (refine RE ?_; try intro _) | refine RC ?_ | refine WG 11 ?_ | refine WG 10 ?_)
    rw [w]
    refine ⟨_, _, by omega, ⟨k + 1, _, _, A', rfl, by omega, hC.setA rfl, ?_, rfl⟩, ⟨rfl, rfl, rfl, trivial⟩, rfl, .cons _ (.refl _)⟩
    have e : ([1, 2, 3] : List Int).take (k + 1) = [1, 2, 3].take k ++ [(k : Int) + 1] := by
      have : k = 0 ∨ k = 1 ∨ k = 2 := by omega
      rcases this with rfl | rfl | rfl <;> rfl
    unfold BufI
    rw [e, List.length_append, List.map_append]
    exact hA'
  have d1 : decide ((k : Int) + 1 ≤ c.2.1) = false := decide_eq_false (by omega)
  obtain rfl : k = n := by omega
  repeat (first | refine RQ ?_ | (refine WL_Q ?_; (first | refine QW_of (Qt_ldX rfl (hn := by with_reducible assumption)) ?_ | refine QW_of (Qt_indexV rfl) ?_)) | refine RC ?_ | refine WG 9 ?_ | refine WG 12 ?_)
  rw [hn]
  repeat (first | refine RQ ?_ | (refine WL_Q ?_; (first | refine QW_of (Qt_ldX rfl (hn := by with_reducible assumption)) ?_ | refine QW_of (Qt_indexV rfl) ?_)) | (refine WL_op rfl ?_; (first | refine OW_callP rfl (hF := First_fn hn1 hn3) (hk := ?_))) | refine RC ?_ | refine WG 12 ?_)
  refine WC_permT (L' := (rb, Obj.cells (List.replicate (opsL p).length (Value.slice none 0 0)).toArray 102 (0, 0)) :: (tb, Obj.cells cs 107 (0, 0)) :: (x3, Obj.cells (cfC c) 67 (0, 0)) :: (A ++ R)) (.refl _) ?_
  refine WC_dropL ((rb, Obj.cells (List.replicate (opsL p).length (Value.slice none 0 0)).toArray 102 (0, 0)) :: (tb, Obj.cells cs 107 (0, 0)) :: ([] ++ (A ++ R))) (.cons_cons _ (.cons_cons _ (.cons _ (.refl _)))) ?_
  obtain ⟨to, hto⟩ : ∃ to : List Int, to = [1, 2, 3].take k := ⟨_, rfl⟩
  have htl : to.length = k := by rw [hto, List.length_take]; simp; omega
  rw [← hto] at hA ⊢
  refine WC_wk [(59, iV ((0 : Nat) : Int)), (58, .agg ((turnsL to 8).map iV).toArray), (8, .pointer (some ⟨tb, 0, none⟩))] ⟨rfl, rfl, rfl, trivial⟩ ?_
  refine WC_loop (fun m σ => ∃ (b : Nat) (cs : Array Value) (sv : Nat → Value) (Y : List (Nat × Obj)), m = 8 - b ∧ b ≤ 8 ∧ TabC cs c (.slice none 0 0) sv av (.slice an (opsL p).length cn) (.slice (some ⟨rb, 0, none⟩) (opsL p).length (opsL p).length) ∧ (∀ j, j < b → VecM 2 Y (sv j) 1 [iV 0, iV ((to[j % to.length]?).getD 0)]) ∧ σ = ⟨[(59, iV (b : Int)), (58, .agg ((turnsL to 8).map iV).toArray), (8, .pointer (some ⟨tb, 0, none⟩))], [], (rb, Obj.cells (List.replicate (opsL p).length (Value.slice none 0 0)).toArray 102 (0, 0)) :: (tb, Obj.cells cs 107 (0, 0)) :: (Y ++ (A ++ R))⟩) 8 ⟨0, cs, _, [], rfl, by decide, hC, fun j h => absurd h (by omega), rfl⟩ ?_
  clear hC
  rintro _ σ ⟨b, cs, sv, Y, rfl, hb, hC, hY, rfl⟩
  by_cases hb8 : b < 8
  · have e1 : decide ((b : Int) < 8) = true := decide_eq_true (by omega)
    have w : IntKind.i64.wrap ((b : Int) + 1) = ((b + 1 : Nat) : Int) := by rw [wI64 (by omega) (by omega)]; omega
    obtain ⟨wv, hwv⟩ : ∃ wv, wv = (to[b % to.length]?).getD 0 := ⟨_, rfl⟩
    have hvs : ((turnsL to 8).map iV).toArray[((b : Nat) : Int).toNat * 1]? = some (iV wv) := by
      rw [Nat.mul_one, Int.toNat_natCast, List.getElem?_toArray, List.getElem?_map, turnsL, List.getElem?_map, List.getElem?_range hb8, hwv]; rfl
    have p0 : (0 : Int) ≤ (b : Int) := by omega
    have p1 : ((b : Nat) : Int) < ((8 : Nat) : Int) := by omega
    have sb : 10 + ((b : Nat) : Int).toNat * 1 < cs.size := by rw [hC.z]; omega
    repeat (first | refine RQ ?_ | (refine WL_Q ?_; (first | refine QW_of (Qt_ldX rfl (hn := by with_reducible assumption)) ?_ | refine QW_of (Qt_indexV rfl) ?_)) | (refine RE ?_; try intro _) | refine RC ?_ | refine WG 13 ?_ | refine WG 14 ?_ | refine WG 15 ?_)
    rename_i xs
    refine WC_permT (L' := (rb, Obj.cells (List.replicate (opsL p).length (Value.slice none 0 0)).toArray 102 (0, 0)) :: (tb, Obj.cells (cs.setIfInBounds (10 + ((b : Nat) : Int).toNat * 1) (Value.slice (some ⟨xs, 0, none⟩) 1 1)) 107 (0, 0)) :: ((xs, Obj.cells (putR zc111 1 (iV wv).cells) 111 (0, 0)) :: (Y ++ (A ++ R)))) (perm_n2 ..) ?_
    repeat (first | refine RQ ?_ | (refine WL_Q ?_; (first | refine QW_of (Qt_ldX rfl (hn := by with_reducible assumption)) ?_ | refine QW_of (Qt_indexV rfl) ?_)) | refine RC ?_ | refine WG 16 ?_)
    rw [w, Int.toNat_natCast]
    refine ⟨_, _, by omega, ⟨b + 1, _, _, (xs, Obj.cells (putR zc111 1 (iV wv).cells) 111 (0, 0)) :: Y, rfl, by omega, hC.setS hb8 rfl, fun j hj => ?_, rfl⟩, ⟨rfl, rfl, rfl, trivial⟩, rfl, .refl _⟩
    by_cases e : j = b
    · subst e
      rw [if_pos rfl, ← hwv]
      exact ⟨rfl, _, 1, rfl, Nat.le_refl _, by decide, .inr ⟨xs, 0, _, _, _, rfl, .head _, fun i x hi => by
        have : i = 0 ∨ i = 1 := by
          have := (List.getElem?_eq_some_iff.1 hi).1
          simp at this
          omega
        rcases this with rfl | rfl <;> exact hi⟩⟩
    · rw [if_neg e]
      exact (hY j (by omega)).mem fun q hq => .tail _ hq
  have e1 : decide ((b : Int) < 8) = false := decide_eq_false (by omega)
  obtain rfl : b = 8 := by omega
  refine WC_permT (L' := (tb, Obj.cells cs 107 (0, 0)) :: (rb, Obj.cells (List.replicate (opsL p).length (Value.slice none 0 0)).toArray 102 (0, 0)) :: (Y ++ (A ++ R))) (.swap ..) ?_
  repeat (first | refine RQ ?_ | (refine WL_Q ?_; (first | refine QW_of (Qt_ldX rfl (hn := by with_reducible assumption)) ?_ | refine QW_of (Qt_indexV rfl) ?_)) | refine RC ?_ | refine WG 13 ?_ | refine WG 17 ?_)
  refine ⟨rfl, _, _, Res2 rfl (resV_tmp rfl) (resV_tmp rfl), .refl _, tb, (tb, Obj.cells cs 107 (0, 0)) :: ([] ++ (rb, Obj.cells ((List.replicate (opsL p).length (Value.slice none 0 0, ([] : List (Nat × Obj)))).map Prod.fst).toArray 102 (0, 0)) :: rowsL (List.replicate (opsL p).length (Value.slice none 0 0, []))), Y ++ (A ++ (Tn ++ X)), rfl, ?_, ?_⟩
  · rw [rowsL_nils, hR]
    simp
  refine ⟨⟨cs, .slice none 0 0, sv, av, .slice an (opsL p).length cn, rb, [], [], List.replicate (opsL p).length (Value.slice none 0 0, []), rfl, ?_, Buf.nil _ _, trivial, ?_, ?_, ?_, ?_, ?_⟩⟩
  · have e : (newT p c).repl.length = (opsL p).length := List.length_replicate
    rw [e]
    exact hC
  · refine ⟨by simp [newT, turnsL_len], fun j hj => ⟨[(0, (to[j % to.length]?).getD 0)], ?_, by simp, (hY j hj).mem fun q hq => List.mem_append_left _ hq⟩⟩
    have e : c.2.1.toNat = k := by omega
    show ((turnsL ([1, 2, 3].take c.2.1.toNat) 8).map fun w => [(0, w)])[j]? = _
    rw [e, ← hto, List.getElem?_map, turnsL, List.getElem?_map, List.getElem?_range hj]
    rfl
  · have e : c.2.1.toNat = k := by omega
    show VecM 1 _ av ([1, 2, 3].take c.2.1.toNat : List Int).length (([1, 2, 3].take c.2.1.toNat : List Int).map iV)
    rw [e, ← hto]
    exact (Buf.vecM hA).mem fun q hq => List.mem_append_right _ (List.mem_append_left _ hq)
  · exact hTn.vecM.mem fun q hq => List.mem_append_right _ (List.mem_append_right _ (List.mem_append_left _ hq))
  · refine ⟨List.replicate (opsL p).length [], ?_, ?_, fun k l row h1 h2 => ?_⟩
    · have := Rows.nils 71 10 (opsL p).length
      simpa using this
    · simp [newT]
    · have h1 := List.mem_of_getElem? h1
      have h2 := List.mem_of_getElem? h2
      obtain rfl := (List.mem_replicate.1 h1).2
      obtain rfl := (List.mem_replicate.1 (show row ∈ List.replicate (opsL p).length [] from h2)).2
      exact trivial
  · have e : (newT p c).repl.length = (opsL p).length := List.length_replicate
    rw [e]
    simp only [maxLen]
    omega
end Go.Proofs.YtekmmhmhcpaiaaaGreat
