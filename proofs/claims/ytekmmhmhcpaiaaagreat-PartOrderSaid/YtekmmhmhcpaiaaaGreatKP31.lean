/-
  A part of what the last of these texts needs; by itself it proves no statement.
-/
import Derived.Test.YtekmmhmhcpaiaaaGreatKP30
namespace Go.Proofs.YtekmmhmhcpaiaaaGreat
open Go.RowKit
def earlyC (c : PtV) (e : EnV) : Option CmV := if c.cls = 1 then earlyW c e else none
theorem earlyC_due {c : PtV} {e : EnV} : dueC c e = ((earlyC c e).map CmV.at_).getD e.e := by
  unfold dueC earlyC
  by_cases hc : c.cls = 1
  · rw [if_pos hc, if_pos hc]; rfl
  · rw [if_neg hc, if_neg hc]; rfl
attribute [local irreducible] Fn WC WL WR OW Qt YieldFn QW FnP FnD FnE
theorem nodeNext_fn {tb : Nat} {tv : TbV} {nd : Int} {c : PtV} (hN : NodeIn tv nd c) (v : Nat) {L : List (Nat × Obj)} (ht : TabIn tb L tv) : Fn Tryz.prog 53 [.pointer (some ⟨tb, 0, none⟩), iV nd, iV v] L (fun r L' => (∃ bv, CmAt L (cmC ((c.rs[v]?).getD zeroC) bv) ((c.rs[v]?).getD zeroC) ∧ r = .tuple #[.agg (cmC ((c.rs[v]?).getD zeroC) bv).toArray, .bool (c.rs[v]?).isSome]) ∧ L = L') := by
  have h := next_fn (n := nd) (k := (v : Int)) ht hN.rl
  rw [hN.nx v] at h
  exact h.mono fun _ _ h => ⟨h.1, h.2.symm⟩
set_option maxHeartbeats 4000000 in
theorem due_fn {pb mb tb : Nat} {nd n : Int} {c : PtV} {tv : TbV} {e : EnV} {L : List (Nat × Obj)} (ht : TabIn tb L tv) (hN : NodeIn tv nd c) (hp : CellAt L pb (PtC tb mb nd c.cls n) 89) :
    Fn Tryz.prog 44 [.pointer (some ⟨pb, 0, none⟩), .agg (enC e).toArray] L (fun v L' => ∃ T ev, v = .tuple #[iV (dueC c e), ev] ∧ L' = T ++ L ∧ ((earlyC c e = none ∧ ev = .pointer none) ∨ ∃ cm x6 bv, earlyC c e = some cm ∧ ev = .pointer (some ⟨x6, 0, none⟩) ∧ T = [(x6, Obj.cells (cmC cm bv).toArray 71 (0, 0))])) := by
  obtain ⟨i, hi⟩ := hp
  refine Fn_enter Tryz.func44 rfl Tryz.ntmps44 rfl fun gw => ?_
  have hone := enC_one e
  have hsz : (enC e).toArray.size = 10 := rfl
  repeat (first | (refine WL_Q ?_; (first | refine QW_a ?_ | refine QW_of (Qt_ldX rfl (hn := by with_reducible assumption)) ?_)) | (refine WL_op rfl ?_; (first | refine OW_box rfl (hk := fun _ => ?_))) | refine WL_nil ?_ | refine WC_seq ?_ | refine WC_cond_t (ht := ?_) | refine WC_cond_f (he := ?_) | refine WC_skip ?_ | refine WC_ret ?_ | refine WG 0 ?_)
  rename_i x3
  obtain ⟨L0, hL0⟩ : ∃ L0, L0 = (x3, Obj.cells (enC e).toArray 53 (0, 0)) :: L := ⟨_, rfl⟩
  have hi0 : L0[i + 1]? = some (pb, Obj.cells (PtC tb mb nd c.cls n) 89 (0, 0)) := by rw [hL0]; exact hi
  have h3 : L0[0]? = some (x3, Obj.cells (enC e).toArray 53 (0, 0)) := by rw [hL0]; rfl
  have ht0 : TabIn tb L0 tv := ht.mem fun q hq => by rw [hL0]; exact .tail _ hq
  rw [← hL0]
  obtain ⟨oc, hoc⟩ : ∃ oc, oc = c.rs[e.ver]? := ⟨_, rfl⟩
  have hNx := nodeNext_fn hN e.ver ht0
  rw [← hoc] at hNx
  refine WC_meet (fun σ => ∃ x6 bv, σ = ⟨[(7, .bool oc.isSome), (6, .pointer (some ⟨x6, 0, none⟩)), (3, .pointer (some ⟨x3, 0, none⟩)), (0, .pointer (some ⟨pb, 0, none⟩)), (5, .pointer none)], [], (x6, Obj.cells (cmC (oc.getD zeroC) bv).toArray 71 (0, 0)) :: L0⟩) ?_ ?_
  · refine WC_draw_sub (id := 1) 17 (Cs [0,1,2,3,4,5,6,7,8,9] <| .either 10 (Cs [11,12,13] <| .must 14 <| .must 15 <| .calm 16 <| .done) 14 (.must 10 <| Cs [11,12,13] <| .must 15 <| .calm 16 <| .done)) mixed (by kernel_rfl) (List.Sublist.refl _) ?_
    repeat (first | (refine RX ?_; (first | refine QW_a ?_ | refine QW_of (Qt_ldX rfl (hn := by with_reducible assumption)) ?_)) | ((first | refine WL_op rfl ?_ | refine WR_late rfl rfl rfl ?_ | refine WR_op rfl rfl ?_); (first | refine OW_alloc rfl (hk := fun _ => ?_) | refine OW_stA rfl ?_ | refine OW_stN rfl ?_ | (refine OW_call rfl (hF := hNx) (hk := ?_); rintro _ _ ⟨⟨bv, hcm, rfl⟩, rfl⟩)); try refine ⟨(by first | exact fun _ h => h | exact sub_mem (by repeat (first | exact .refl _ | exact List.nil_sublist _ | exact List.sublist_append_right _ _ | exact List.Sublist.append (.refl _) (List.sublist_append_right _ _) | apply List.Sublist.cons_cons | apply List.Sublist.cons))), ?_⟩) | refine WL_nil ?_ | refine WR_nil ?_ | refine WC_seq ?_ | refine WC_cond_t (ht := ?_) | refine WC_cond_f (he := ?_) | refine WC_skip ?_ | refine WC_ret ?_ | refine WC_draw_all (id := 1) 17 (Cs [0,1,2,3,4,5,6,7,8,9] <| .either 10 (Cs [11,12,13] <| .must 14 <| .must 15 <| .calm 16 <| .done) 14 (.must 10 <| Cs [11,12,13] <| .must 15 <| .calm 16 <| .done)) mixed (by kernel_rfl) ?_)
    refine WR_either ?_ ?_
    · repeat (first | (refine RX ?_; (first | refine QW_a ?_ | refine QW_of (Qt_ldX rfl (hn := by with_reducible assumption)) ?_)) | ((first | refine WL_op rfl ?_ | refine WR_late rfl rfl rfl ?_ | refine WR_op rfl rfl ?_); (first | refine OW_alloc rfl (hk := fun _ => ?_) | refine OW_stA rfl ?_ | refine OW_stN rfl ?_ | (refine OW_call rfl (hF := hNx) (hk := ?_); rintro _ _ ⟨⟨bv, hcm, rfl⟩, rfl⟩)); try refine ⟨(by first | exact fun _ h => h | exact sub_mem (by repeat (first | exact .refl _ | exact List.nil_sublist _ | exact List.sublist_append_right _ _ | exact List.Sublist.append (.refl _) (List.sublist_append_right _ _) | apply List.Sublist.cons_cons | apply List.Sublist.cons))), ?_⟩) | refine WL_nil ?_ | refine WR_nil ?_ | refine WC_seq ?_ | refine WC_cond_t (ht := ?_) | refine WC_cond_f (he := ?_) | refine WC_skip ?_ | refine WC_ret ?_ | refine WC_draw_all (id := 1) 17 (Cs [0,1,2,3,4,5,6,7,8,9] <| .either 10 (Cs [11,12,13] <| .must 14 <| .must 15 <| .calm 16 <| .done) 14 (.must 10 <| Cs [11,12,13] <| .must 15 <| .calm 16 <| .done)) mixed (by kernel_rfl) ?_)
      have hall := hcm.all
      have hsz6 : (cmC (oc.getD zeroC) bv).toArray.size = 10 := rfl
      repeat (first | (refine RX ?_; (first | refine QW_a ?_ | refine QW_of (Qt_ldX rfl (hn := by with_reducible assumption)) ?_)) | ((first | refine WL_op rfl ?_ | refine WR_late rfl rfl rfl ?_ | refine WR_op rfl rfl ?_); (first | refine OW_alloc rfl (hk := fun _ => ?_) | refine OW_stA rfl ?_ | refine OW_stN rfl ?_ | (refine OW_call rfl (hF := hNx) (hk := ?_); rintro _ _ ⟨⟨bv, hcm, rfl⟩, rfl⟩)); try refine ⟨(by first | exact fun _ h => h | exact sub_mem (by repeat (first | exact .refl _ | exact List.nil_sublist _ | exact List.sublist_append_right _ _ | exact List.Sublist.append (.refl _) (List.sublist_append_right _ _) | apply List.Sublist.cons_cons | apply List.Sublist.cons))), ?_⟩) | refine WL_nil ?_ | refine WR_nil ?_ | refine WC_seq ?_ | refine WC_cond_t (ht := ?_) | refine WC_cond_f (he := ?_) | refine WC_skip ?_ | refine WC_ret ?_ | refine WC_draw_all (id := 1) 17 (Cs [0,1,2,3,4,5,6,7,8,9] <| .either 10 (Cs [11,12,13] <| .must 14 <| .must 15 <| .calm 16 <| .done) 14 (.must 10 <| Cs [11,12,13] <| .must 15 <| .calm 16 <| .done)) mixed (by kernel_rfl) ?_)
      exact ⟨_, ⟨_, _, rfl⟩, ⟨rfl, rfl, rfl, rfl, rfl, trivial⟩, rfl, .refl _⟩
    · repeat (first | (refine RX ?_; (first | refine QW_a ?_ | refine QW_of (Qt_ldX rfl (hn := by with_reducible assumption)) ?_)) | ((first | refine WL_op rfl ?_ | refine WR_late rfl rfl rfl ?_ | refine WR_op rfl rfl ?_); (first | refine OW_alloc rfl (hk := fun _ => ?_) | refine OW_stA rfl ?_ | refine OW_stN rfl ?_ | (refine OW_call rfl (hF := hNx) (hk := ?_); rintro _ _ ⟨⟨bv, hcm, rfl⟩, rfl⟩)); try refine ⟨(by first | exact fun _ h => h | exact sub_mem (by repeat (first | exact .refl _ | exact List.nil_sublist _ | exact List.sublist_append_right _ _ | exact List.Sublist.append (.refl _) (List.sublist_append_right _ _) | apply List.Sublist.cons_cons | apply List.Sublist.cons))), ?_⟩) | refine WL_nil ?_ | refine WR_nil ?_ | refine WC_seq ?_ | refine WC_cond_t (ht := ?_) | refine WC_cond_f (he := ?_) | refine WC_skip ?_ | refine WC_ret ?_ | refine WC_draw_all (id := 1) 17 (Cs [0,1,2,3,4,5,6,7,8,9] <| .either 10 (Cs [11,12,13] <| .must 14 <| .must 15 <| .calm 16 <| .done) 14 (.must 10 <| Cs [11,12,13] <| .must 15 <| .calm 16 <| .done)) mixed (by kernel_rfl) ?_)
      rename_i x6
      have hNx2 := nodeNext_fn (L := (x6, Obj.cells zc71 71 (0, 0)) :: L0) hN e.ver (ht0.mem fun _ h => .tail _ h)
      rw [← hoc] at hNx2
      repeat (first | (refine RX ?_; (first | refine QW_a ?_ | refine QW_of (Qt_ldX rfl (hn := by with_reducible assumption)) ?_)) | ((first | refine WL_op rfl ?_ | refine WR_late rfl rfl rfl ?_ | refine WR_op rfl rfl ?_); (first | refine OW_alloc rfl (hk := fun _ => ?_) | refine OW_stA rfl ?_ | refine OW_stN rfl ?_ | (refine OW_call rfl (hF := hNx) (hk := ?_); rintro _ _ ⟨⟨bv, hcm, rfl⟩, rfl⟩) | (refine OW_call rfl (hF := hNx2) (hk := ?_); rintro _ _ ⟨⟨bv, hcm, rfl⟩, rfl⟩)); try refine ⟨(by first | exact fun _ h => h | exact sub_mem (by repeat (first | exact .refl _ | exact List.nil_sublist _ | exact List.sublist_append_right _ _ | exact List.Sublist.append (.refl _) (List.sublist_append_right _ _) | apply List.Sublist.cons_cons | apply List.Sublist.cons))), ?_⟩) | refine WL_nil ?_ | refine WR_nil ?_ | refine WC_seq ?_ | refine WC_cond_t (ht := ?_) | refine WC_cond_f (he := ?_) | refine WC_skip ?_ | refine WC_ret ?_ | refine WC_draw_all (id := 1) 17 (Cs [0,1,2,3,4,5,6,7,8,9] <| .either 10 (Cs [11,12,13] <| .must 14 <| .must 15 <| .calm 16 <| .done) 14 (.must 10 <| Cs [11,12,13] <| .must 15 <| .calm 16 <| .done)) mixed (by kernel_rfl) ?_)
      have hall := hcm.all
      have hsz6 : (cmC (oc.getD zeroC) bv).toArray.size = 10 := rfl
      repeat (first | (refine RX ?_; (first | refine QW_a ?_ | refine QW_of (Qt_ldX rfl (hn := by with_reducible assumption)) ?_)) | ((first | refine WL_op rfl ?_ | refine WR_late rfl rfl rfl ?_ | refine WR_op rfl rfl ?_); (first | refine OW_alloc rfl (hk := fun _ => ?_) | refine OW_stA rfl ?_ | refine OW_stN rfl ?_ | (refine OW_call rfl (hF := hNx) (hk := ?_); rintro _ _ ⟨⟨bv, hcm, rfl⟩, rfl⟩) | (refine OW_call rfl (hF := hNx2) (hk := ?_); rintro _ _ ⟨⟨bv, hcm, rfl⟩, rfl⟩)); try refine ⟨(by first | exact fun _ h => h | exact sub_mem (by repeat (first | exact .refl _ | exact List.nil_sublist _ | exact List.sublist_append_right _ _ | exact List.Sublist.append (.refl _) (List.sublist_append_right _ _) | apply List.Sublist.cons_cons | apply List.Sublist.cons))), ?_⟩) | refine WL_nil ?_ | refine WR_nil ?_ | refine WC_seq ?_ | refine WC_cond_t (ht := ?_) | refine WC_cond_f (he := ?_) | refine WC_skip ?_ | refine WC_ret ?_ | refine WC_draw_all (id := 1) 17 (Cs [0,1,2,3,4,5,6,7,8,9] <| .either 10 (Cs [11,12,13] <| .must 14 <| .must 15 <| .calm 16 <| .done) 14 (.must 10 <| Cs [11,12,13] <| .must 15 <| .calm 16 <| .done)) mixed (by kernel_rfl) ?_)
      exact ⟨_, ⟨_, _, rfl⟩, ⟨rfl, rfl, rfl, rfl, rfl, trivial⟩, rfl, .refl _⟩
  rintro _ ⟨x6, bv, rfl⟩
  have hi1 : ((x6, Obj.cells (cmC (oc.getD zeroC) bv).toArray 71 (0, 0)) :: L0)[i + 1 + 1]? = some (pb, Obj.cells (PtC tb mb nd c.cls n) 89 (0, 0)) := hi0
  have h31 : ((x6, Obj.cells (cmC (oc.getD zeroC) bv).toArray 71 (0, 0)) :: L0)[1]? = some (x3, Obj.cells (enC e).toArray 53 (0, 0)) := h3
  have hno : earlyC c e = none → dueC c e = e.e := fun h => by rw [earlyC_due, h]; rfl
  have hLL : L.Sublist ((x6, Obj.cells (cmC (oc.getD zeroC) bv).toArray 71 (0, 0)) :: L0) := by rw [hL0]; exact .cons _ (.cons _ (.refl _))
  rcases oc with _ | cm
  · have hE : earlyC c e = none := by
      unfold earlyC earlyW
      rw [← hoc]
      split <;> rfl
    repeat (first | ((first | refine WL_Q ?_ | refine WL_Y ?_); (first | refine QW_a ?_ | refine QW_of (Qt_ldX rfl (hn := by with_reducible assumption)) ?_)) | refine WL_nil ?_ | refine WL_un (h := ?_) | refine WL_N ?_ | refine WL_M ?_ | refine WC_seq ?_ | refine WC_cond_t (ht := ?_) | refine WC_cond_f (he := ?_) | refine WC_skip ?_ | refine WC_ret ?_ | refine WG 2 ?_ | refine WG 4 ?_)
    exact ⟨rfl, _, [] ++ L, Res2 rfl (resV_tmp rfl) (resV_tmp rfl), hLL, [], .pointer none, by rw [hno hE], rfl, .inl ⟨hE, rfl⟩⟩
  have ds : (some cm).isSome = true := rfl
  have hE1 : c.cls = 1 → earlyC c e = (some cm).filter fun x => decide (x.at_ < e.e ∧ x.mode ≠ 0) := fun hc => by
    unfold earlyC earlyW
    rw [← hoc, if_pos hc]
  by_cases hc : c.cls = 1
  rotate_left
  · have hE : earlyC c e = none := by unfold earlyC; rw [if_neg hc]
    have d : (c.cls == 1) = false := by simpa using hc
    repeat (first | ((first | refine WL_Q ?_ | refine WL_Y ?_); (first | refine QW_a ?_ | refine QW_of (Qt_ldX rfl (hn := by with_reducible assumption)) ?_)) | refine WL_nil ?_ | refine WL_un (h := ?_) | refine WL_N ?_ | refine WL_M ?_ | refine WC_seq ?_ | refine WC_cond_t (ht := ?_) | refine WC_cond_f (he := ?_) | refine WC_skip ?_ | refine WC_ret ?_ | refine WG 2 ?_ | refine WG 4 ?_)
    exact ⟨rfl, _, [] ++ L, Res2 rfl (resV_tmp rfl) (resV_tmp rfl), hLL, [], .pointer none, by rw [hno hE], rfl, .inl ⟨hE, rfl⟩⟩
  have d : (c.cls == 1) = true := by simpa using hc
  have hE1 := hE1 hc
  simp only [Option.getD_some] at hi1 h31 hLL ⊢
  cases d2 : decide (cm.at_ < e.e)
  · have hE : earlyC c e = none := by rw [hE1]; simp at d2; simp [Option.filter]; omega
    repeat (first | ((first | refine WL_Q ?_ | refine WL_Y ?_); (first | refine QW_a ?_ | refine QW_of (Qt_ldX rfl (hn := by with_reducible assumption)) ?_)) | refine WL_nil ?_ | refine WL_un (h := ?_) | refine WL_N ?_ | refine WL_M ?_ | refine WC_seq ?_ | refine WC_cond_t (ht := ?_) | refine WC_cond_f (he := ?_) | refine WC_skip ?_ | refine WC_ret ?_ | refine WG 2 ?_ | refine WG 4 ?_)
    exact ⟨rfl, _, [] ++ L, Res2 rfl (resV_tmp rfl) (resV_tmp rfl), hLL, [], .pointer none, by rw [hno hE], rfl, .inl ⟨hE, rfl⟩⟩
  cases d3 : (cm.mode != 0)
  · have hE : earlyC c e = none := by rw [hE1]; simp at d3; simp [Option.filter, d3]
    repeat (first | ((first | refine WL_Q ?_ | refine WL_Y ?_); (first | refine QW_a ?_ | refine QW_of (Qt_ldX rfl (hn := by with_reducible assumption)) ?_)) | refine WL_nil ?_ | refine WL_un (h := ?_) | refine WL_N ?_ | refine WL_M ?_ | refine WC_seq ?_ | refine WC_cond_t (ht := ?_) | refine WC_cond_f (he := ?_) | refine WC_skip ?_ | refine WC_ret ?_ | refine WG 2 ?_ | refine WG 4 ?_)
    exact ⟨rfl, _, [] ++ L, Res2 rfl (resV_tmp rfl) (resV_tmp rfl), hLL, [], .pointer none, by rw [hno hE], rfl, .inl ⟨hE, rfl⟩⟩
  have hE : earlyC c e = some cm := by rw [hE1]; simp at d2 d3; simp [Option.filter, d2, d3]
  have hD : dueC c e = cm.at_ := by rw [earlyC_due, hE]; rfl
  repeat (first | ((first | refine WL_Q ?_ | refine WL_Y ?_); (first | refine QW_a ?_ | refine QW_of (Qt_ldX rfl (hn := by with_reducible assumption)) ?_)) | refine WL_nil ?_ | refine WL_un (h := ?_) | refine WL_N ?_ | refine WL_M ?_ | refine WC_seq ?_ | refine WC_cond_t (ht := ?_) | refine WC_cond_f (he := ?_) | refine WC_skip ?_ | refine WC_ret ?_ | refine WG 2 ?_ | refine WG 3 ?_)
  refine ⟨rfl, _, [(x6, Obj.cells (cmC cm bv).toArray 71 (0, 0))] ++ L, Res2 rfl (resV_tmp rfl) (resV_tmp rfl), ?_, _, .pointer (some ⟨x6, 0, none⟩), by rw [hD], rfl, .inr ⟨cm, x6, bv, hE, rfl, rfl⟩⟩
  rw [hL0]
  exact .cons_cons _ (.cons _ (.refl _))
end Go.Proofs.YtekmmhmhcpaiaaaGreat
namespace Go.Proofs.YtekmmhmhcpaiaaaGreat
open Go.RowKit
def bestC (b : Option EnV) : Array Value := match b with
  | none => zc53
  | some e => (enC e).toArray
def bestD (c : PtV) (b : Option EnV) : Int := match b with
  | none => 0
  | some e => dueC c e
theorem bestC_size (b : Option EnV) : (bestC b).size = 10 := by cases b <;> rfl
theorem bestC_one (b : Option EnV) : ((bestC b).toList.all fun v => v.oneCell') = true := by cases b <;> rfl
def BestOk (c : PtV) (upto : Int) (b : Option EnV) (x : EnV) : Prop := upto < dueC c x ∨ ∃ e, b = some e ∧ dueC c e ≤ dueC c x
structure BestIn (c : PtV) (upto : Int) (l : List EnV) (b : Option EnV) : Prop where
  h : ∀ e, b = some e → e ∈ l ∧ dueC c e ≤ upto
theorem BestOk.mono {c : PtV} {upto : Int} {b b' : Option EnV} {x : EnV} (h : BestOk c upto b x) (hb : ∀ e, b = some e → ∃ e', b' = some e' ∧ dueC c e' ≤ dueC c e) : BestOk c upto b' x := by
  rcases h with h | ⟨e, h1, h2⟩
  · exact .inl h
  · obtain ⟨e', h3, h4⟩ := hb e h1
    exact .inr ⟨e', h3, by omega⟩
attribute [local irreducible] Fn WC WL WR OW Qt YieldFn QW FnP FnD FnE
set_option maxHeartbeats 8000000 in
theorem Due_fn {pb mb tb : Nat} {nd : Int} {c : PtV} {tv : TbV} {S G F : List (Nat × Obj)} {l : List EnV} {upto : Int} (h : PtAt pb mb tb nd c.cls S G l) (ht : TabIn tb G tv) (hN : NodeIn tv nd c) (hG : ∀ q ∈ G, q ∈ F) (hn : l.length ≤ 100000) :
    Fn Tryz.prog 17 [.pointer (some ⟨pb, 0, none⟩), iV upto] (S ++ F) (fun v L' => L' = S ++ F ∧ ∃ b : Option EnV, v = .tuple #[.agg (bestC b), iV (bestD c b), .bool b.isSome] ∧ BestIn c upto l b ∧ ∀ x ∈ l, BestOk c upto b x) := by
  obtain ⟨es, ck, ps, rfl, hm, hr⟩ := h.h
  refine Fn_enter Tryz.func17 rfl Tryz.ntmps17 rfl fun gw => ?_
  repeat (first | refine RQ ?_ | (refine WL_Q ?_; (first | refine QW_of (Qt_ldX rfl (hn := by with_reducible assumption)) ?_ | refine QW_of (Qt_entryW rfl hiI2 hmI2 hm hlast) ?_)) | (refine RE ?_; try intro _) | refine RC ?_ | refine WG 0 ?_ | refine WG 1 ?_ | refine WG 3 ?_)
  rename_i x4
  refine WL_op rfl (OW_rangeMapW rfl rfl (i := 2) rfl hm ?_)
  intro it hit
  repeat (first | refine RQ ?_ | (refine WL_Q ?_; (first | refine QW_of (Qt_ldX rfl (hn := by with_reducible assumption)) ?_ | refine QW_of (Qt_entryW rfl hiI2 hmI2 hm hlast) ?_)) | refine RC ?_ | refine WG 3 ?_)
  obtain ⟨L0, hL0⟩ : ∃ L0, L0 = [(pb, Obj.cells (PtC tb mb nd c.cls l.length) 89 (0, 0)), (mb, Obj.map es ck)] ++ F := ⟨_, rfl⟩
  have ht0 : TabIn tb L0 tv := ht.mem fun q hq => by rw [hL0]; exact List.mem_append_right _ (hG q hq)
  have hp0 : L0[0]? = some (pb, Obj.cells (PtC tb mb nd c.cls l.length) 89 (0, 0)) := by rw [hL0]; rfl
  have hm0 : L0[1]? = some (mb, Obj.map es ck) := by rw [hL0]; rfl
  have hGL : ∀ q ∈ G, q ∈ L0 := fun q hq => by rw [hL0]; exact List.mem_append_right _ (hG q hq)
  rw [← hL0]
  refine WC_wk [(20, .pointer (some ⟨it, 0, none⟩)), (6, .bool (none : Option EnV).isSome), (5, iV (bestD c none)), (4, .pointer (some ⟨x4, 0, none⟩)), (1, iV upto), (0, .pointer (some ⟨pb, 0, none⟩))] ⟨rfl, rfl, rfl, rfl, rfl, rfl, trivial⟩ ?_
  refine WC_loop (fun m σ => ∃ (b : Option EnV) (todo : List ((Int × Int) × Value)) (seen : Array Nat), m = todo.length ∧ IterV grpK es seen todo ∧ todo.Sublist ps ∧ BestIn c upto l b ∧ (∀ x ∈ l, x.grp ∉ todo.map Prod.fst → BestOk c upto b x) ∧ σ = ⟨[(20, .pointer (some ⟨it, 0, none⟩)), (6, .bool b.isSome), (5, iV (bestD c b)), (4, .pointer (some ⟨x4, 0, none⟩)), (1, iV upto), (0, .pointer (some ⟨pb, 0, none⟩))], [], (it, Obj.mapIter (some mb) ck seen ck) :: (x4, Obj.cells (bestC b) 53 (0, 0)) :: L0⟩) ps.length ⟨none, ps, #[], rfl, hit, .refl _, ⟨fun _ h => by cases h⟩, fun x hx hno => ?_, rfl⟩ ?_
  · exact absurd (Classical.byContradiction fun hn => hno (Classical.byContradiction fun hk => hn (vGet_none.2 hk))) (fun hz => hr.all x hx hz)
  rintro m σ ⟨b, todo, seen, rfl, hit, hsub, hbI, hbO, rfl⟩
  have hmI : ((it, Obj.mapIter (some mb) ck seen ck) :: (x4, Obj.cells (bestC b) 53 (0, 0)) :: L0)[1 + 2]? = some (mb, Obj.map es ck) := hm0
  repeat (first | refine RQ ?_ | (refine WL_Q ?_; (first | refine QW_of (Qt_ldX rfl (hn := by with_reducible assumption)) ?_ | refine QW_of (Qt_entryW rfl hiI2 hmI2 hm hlast) ?_)) | refine RC ?_ | refine WG 4 ?_)
  refine WL_op rfl (OW_nextMapW rfl rfl (i := 0) rfl hmI hm hit ?_ ?_)
  · rintro rfl
    have hbs := bestC_size b
    have hb1 := bestC_one b
    repeat (first | refine RQ ?_ | (refine WL_Q ?_; (first | refine QW_of (Qt_ldX rfl (hn := by with_reducible assumption)) ?_ | refine QW_of (Qt_entryW rfl hiI2 hmI2 hm hlast) ?_)) | (refine RE ?_; try intro _) | refine RC ?_ | refine WG 4 ?_ | refine WG 13 ?_)
    refine ⟨rfl, _, L0, Res3 rfl (resV_cellN (n := 10) rfl 1 rfl hbs) (resV_tmp rfl) (resV_tmp rfl), .cons _ (.cons _ (.refl _)), rfl, b, rfl, hbI, fun x hx => hbO x hx (by simp)⟩
  · rintro A n v B seen' rfl hit' hlast
    simp only [List.set_cons_zero]
    have hmI2 : ((it, Obj.mapIter (some mb) ck seen' ck) :: (x4, Obj.cells (bestC b) 53 (0, 0)) :: L0)[1 + 2]? = some (mb, Obj.map es ck) := hm0
    have hiI2 : ((it, Obj.mapIter (some mb) ck seen' ck) :: (x4, Obj.cells (bestC b) 53 (0, 0)) :: L0)[0]? = some (it, Obj.mapIter (some mb) ck seen' ck) := rfl
    have hnv : (n, v) ∈ ps := hsub.subset (List.mem_append_right _ (.head _))
    have hgv : vGet ps n = some v := (vGet_mem hm.keys).2 hnv
    obtain ⟨row, hrne, hvr, hpr⟩ := hr.row n v hgv
    have hrl : row.length ≤ l.length := by rw [hpr.length_eq]; exact ofG_len _ _
    have hnd : ((A ++ (n, v) :: B).map Prod.fst).Nodup := hm.keys.sublist (hsub.map _)
    obtain ⟨_, va, vcap, rfl, _, hvm, hvx⟩ := id hvr
    repeat (first | refine RQ ?_ | (refine WL_Q ?_; (first | refine QW_of (Qt_ldX rfl (hn := by with_reducible assumption)) ?_ | refine QW_of (Qt_entryW rfl hiI2 hmI2 hm hlast) ?_)) | refine RC ?_ | refine WG 4 ?_ | refine WG 5 ?_ | refine WG 6 ?_)
    refine WC_wk [(27, iV ((0 : Nat) : Int)), (26, iV ((row.length : Nat) : Int)), (25, .slice va row.length vcap), (20, .pointer (some ⟨it, 0, none⟩)), (6, .bool b.isSome), (5, iV (bestD c b)), (4, .pointer (some ⟨x4, 0, none⟩)), (1, iV upto), (0, .pointer (some ⟨pb, 0, none⟩))] ⟨rfl, rfl, rfl, rfl, rfl, rfl, rfl, rfl, rfl, trivial⟩ ?_
    refine WC_loop (fun m σ => ∃ (i : Nat) (b : Option EnV), m = row.length - i ∧ i ≤ row.length ∧ BestIn c upto l b ∧ (∀ x ∈ row.take i, BestOk c upto b x) ∧ (∀ x ∈ l, x.grp ∉ (A ++ (n, Value.slice va row.length vcap) :: B).map Prod.fst → BestOk c upto b x) ∧ σ = ⟨[(27, iV (i : Int)), (26, iV ((row.length : Nat) : Int)), (25, .slice va row.length vcap), (20, .pointer (some ⟨it, 0, none⟩)), (6, .bool b.isSome), (5, iV (bestD c b)), (4, .pointer (some ⟨x4, 0, none⟩)), (1, iV upto), (0, .pointer (some ⟨pb, 0, none⟩))], [], (it, Obj.mapIter (some mb) ck seen' ck) :: (x4, Obj.cells (bestC b) 53 (0, 0)) :: L0⟩) row.length ⟨0, b, rfl, Nat.zero_le _, hbI, fun x hx => by simp at hx, hbO, rfl⟩ ?_
    clear hbI hbO hmI hmI2 hiI2 b
    rintro _ σ ⟨i, b, rfl, hi, hbI, hbR, hbO, rfl⟩
    by_cases hlt : i < row.length
    rotate_left
    · have d1 : decide ((i : Int) < ((row.length : Nat) : Int)) = false := decide_eq_false (by omega)
      rw [List.take_of_length_le (by omega)] at hbR
      repeat (first | refine RQ ?_ | (refine WL_Q ?_; (first | refine QW_of (Qt_ldX rfl (hn := by with_reducible assumption)) ?_ | refine QW_of (Qt_entryW rfl hiI2 hmI2 hm hlast) ?_)) | refine RC ?_ | refine WG 7 ?_)
      refine ⟨_, _, ?_, ⟨b, A ++ B, seen', rfl, hit', ?_, hbI, fun x hx hno => ?_, rfl⟩, ⟨rfl, rfl, rfl, rfl, rfl, rfl, trivial⟩, rfl, .refl _⟩
      · rw [List.length_append, List.length_append, List.length_cons]; omega
      · exact (List.Sublist.append (.refl _) (.cons _ (.refl _))).trans hsub
      · by_cases hg : x.grp = n
        · exact hbR x (hpr.mem_iff.2 (List.mem_filter.2 ⟨hx, by simpa using hg⟩))
        · refine hbO x hx fun hmem => hno ?_
          rw [List.map_append] at hmem ⊢
          rcases List.mem_append.1 hmem with h1 | h1
          · exact List.mem_append_left _ h1
          · rcases List.mem_cons.1 h1 with h1 | h1
            · exact absurd h1 hg
            · exact List.mem_append_right _ h1
    have d1 : decide ((i : Int) < ((row.length : Nat) : Int)) = true := decide_eq_true (by omega)
    have p0 : (0 : Int) ≤ (i : Int) := by omega
    have p1 : ((i : Nat) : Int) < ((row.length : Nat) : Int) := by omega
    have ww : IntKind.i64.wrap ((i : Int) + 1) = ((i + 1 : Nat) : Int) := by rw [wI64 (by omega) (by omega)]; omega
    obtain ⟨x, hx⟩ : ∃ x, row[i]? = some x := ⟨_, List.getElem?_eq_getElem hlt⟩
    have hxl : x ∈ l := (List.mem_filter.1 (hpr.mem_iff.1 (List.mem_of_getElem? hx))).1
    have htk : row.take (i + 1) = row.take i ++ [x] := by rw [List.take_add_one, hx]; rfl
    obtain ⟨b1, f1, _, c1, E1, fr1, i1, e1, _, _, hi1, hx1⟩ := (hvr.mem hGL).cell (by omega)
    cases e1
    obtain ⟨v1, y1⟩ := enL_ext hx1 hx
    have v1 : c1.extract (f1 + ((i : Nat) : Int).toNat * 10) (f1 + ((i : Nat) : Int).toNat * 10 + 10) = (enC x).toArray := by rw [Int.toNat_natCast]; exact v1
    have y1 : f1 + ((i : Nat) : Int).toNat * 10 + 10 ≤ c1.size := by rw [Int.toNat_natCast]; exact y1
    have honx := enC_one x
    have hszx : (enC x).toArray.size = 10 := rfl
    have hi1' : ((it, Obj.mapIter (some mb) ck seen' ck) :: (x4, Obj.cells (bestC b) 53 (0, 0)) :: L0)[i1 + 2]? = some (b1, Obj.cells c1 E1 fr1) := hi1
    have hbs := bestC_size b
    have hb1 := bestC_one b
    repeat (first | refine RQ ?_ | (refine WL_Q ?_; (first | refine QW_of (Qt_ldX rfl (hn := by with_reducible assumption)) ?_ | refine QW_of (Qt_entryW rfl hiI2 hmI2 hm hlast) ?_)) | (refine RE ?_; try intro _) | refine RC ?_ | refine WG 7 ?_ | refine WG 8 ?_)
    rename_i x10
    rw [v1]
    repeat (first | refine RQ ?_ | (refine WL_Q ?_; (first | refine QW_of (Qt_ldX rfl (hn := by with_reducible assumption)) ?_ | refine QW_of (Qt_entryW rfl hiI2 hmI2 hm hlast) ?_)) | (refine RE ?_; try intro _) | refine RC ?_ | refine WG 8 ?_)
    have hDu := due_fn (e := x) (L := (x10, Obj.cells (enC x).toArray 53 (0, 0)) :: (it, Obj.mapIter (some mb) ck seen' ck) :: (x4, Obj.cells (bestC b) 53 (0, 0)) :: L0) (ht0.mem fun q hq => .tail _ (.tail _ (.tail _ hq))) hN ⟨3, hp0⟩
    repeat (first | refine RQ ?_ | (refine WL_Q ?_; (first | refine QW_of (Qt_ldX rfl (hn := by with_reducible assumption)) ?_ | refine QW_of (Qt_entryW rfl hiI2 hmI2 hm hlast) ?_)) | (refine WL_op rfl ?_; (first | (refine OW_call rfl (hF := hDu) (hk := ?_); rintro _ _ ⟨Td, ev, rfl, rfl, -⟩))) | refine RC ?_ | refine WG 9 ?_)
    refine WC_dropL ((x10, Obj.cells (enC x).toArray 53 (0, 0)) :: (it, Obj.mapIter (some mb) ck seen' ck) :: (x4, Obj.cells (bestC b) 53 (0, 0)) :: L0) (List.sublist_append_right _ _) ?_
    refine WC_wk [(11, iV (dueC c x)), (10, .pointer (some ⟨x10, 0, none⟩)), (27, iV (i : Int)), (26, iV ((row.length : Nat) : Int)), (25, .slice (some ⟨b1, f1, none⟩) row.length vcap), (20, .pointer (some ⟨it, 0, none⟩)), (6, .bool b.isSome), (5, iV (bestD c b)), (4, .pointer (some ⟨x4, 0, none⟩)), (1, iV upto), (0, .pointer (some ⟨pb, 0, none⟩))] ⟨rfl, rfl, rfl, rfl, rfl, rfl, rfl, rfl, rfl, rfl, rfl, trivial⟩ ?_
    have hkeep : BestOk c upto b x → (∀ y ∈ row.take (i + 1), BestOk c upto b y) := fun hok y hy => by
      rw [htk] at hy
      rcases List.mem_append.1 hy with hy | hy
      · exact hbR y hy
      · obtain rfl := List.mem_singleton.1 hy
        exact hok
    have htake : dueC c x ≤ upto → (∀ e, b = some e → dueC c x ≤ dueC c e) → BestIn c upto l (some x) ∧ (∀ y ∈ row.take (i + 1), BestOk c upto (some x) y) ∧ ∀ y ∈ l, y.grp ∉ (A ++ (n, Value.slice (some ⟨b1, f1, none⟩) row.length vcap) :: B).map Prod.fst → BestOk c upto (some x) y := fun h1 h2 => by
      have hmo : ∀ {y : EnV}, BestOk c upto b y → BestOk c upto (some x) y := fun h => h.mono fun e he => ⟨x, rfl, h2 e he⟩
      refine ⟨⟨fun e he => by cases he; exact ⟨hxl, h1⟩⟩, fun y hy => ?_, fun y hy hno => hmo (hbO y hy hno)⟩
      rw [htk] at hy
      rcases List.mem_append.1 hy with hy | hy
      · exact hmo (hbR y hy)
      · obtain rfl := List.mem_singleton.1 hy
        exact .inr ⟨_, rfl, Int.le_refl _⟩
    cases d2 : decide (dueC c x ≤ upto)
    · have hok : BestOk c upto b x := .inl (by simpa using d2)
      refine WC_draw_sub (id := 10) 18 (Cs [0,1,2,3,4,5,6,7,8,10,11] <| .must 9 <| .must 12 <| .must 13 <| .must 14 <| Cs [15,16,17] <| .done) mixed (by kernel_rfl) (List.Sublist.refl _) ?_
      repeat (first | refine RQr ?_ | ((first | refine WL_Q ?_ | refine WL_Y ?_ | refine WR_Q rfl ?_ | refine WR_late rfl rfl rfl (OW_Q ?_) | refine WR_Y rfl ?_); (first | refine QW_of (Qt_ldX rfl (hn := by with_reducible assumption)) ?_ | refine QW_of (Qt_entryW rfl hiI2 hmI2 hm hlast) ?_)) | refine RC ?_ | refine RU ?_ | refine WC_draw_all (id := 10) 18 (Cs [0,1,2,3,4,5,6,7,8,10,11] <| .must 9 <| .must 12 <| .must 13 <| .must 14 <| Cs [15,16,17] <| .done) mixed (by kernel_rfl) ?_ | refine WG 12 ?_)
      rw [ww]
      exact ⟨_, _, by omega, ⟨i + 1, b, rfl, by omega, hbI, hkeep hok, hbO, rfl⟩, ⟨rfl, rfl, rfl, rfl, rfl, rfl, rfl, rfl, rfl, trivial⟩, rfl, .cons _ (.refl _)⟩
    have h2 : dueC c x ≤ upto := of_decide_eq_true d2
    cases b with
    | none =>
      obtain ⟨t1, t2, t3⟩ := htake h2 fun _ h => by cases h
      refine WC_draw_sub (id := 10) 18 (Cs [0,1,2,3,4,5,6,7,8,10,11] <| .must 9 <| .must 12 <| .must 13 <| .must 14 <| Cs [15,16,17] <| .done) mixed (by kernel_rfl) (List.Sublist.refl _) ?_
      repeat (first | refine RQr ?_ | ((first | refine WL_Q ?_ | refine WL_Y ?_ | refine WR_Q rfl ?_ | refine WR_late rfl rfl rfl (OW_Q ?_) | refine WR_Y rfl ?_); (first | refine QW_of (Qt_ldX rfl (hn := by with_reducible assumption)) ?_ | refine QW_of (Qt_entryW rfl hiI2 hmI2 hm hlast) ?_)) | ((first | refine WL_op rfl ?_ | refine WL_yes (h := ?_) | refine WR_late rfl rfl rfl ?_ | refine WR_opG rfl rfl ?_ | refine WR_opYG rfl (h := ?_)); (first | (refine OE ?_; try intro _)); try refine SD ?_) | refine RC ?_ | refine RU ?_ | refine WC_draw_all (id := 10) 18 (Cs [0,1,2,3,4,5,6,7,8,10,11] <| .must 9 <| .must 12 <| .must 13 <| .must 14 <| Cs [15,16,17] <| .done) mixed (by kernel_rfl) ?_ | refine WG 11 ?_ | refine WG 12 ?_)
      rw [ww]
      exact ⟨_, _, by omega, ⟨i + 1, some x, rfl, by omega, t1, t2, t3, rfl⟩, ⟨rfl, rfl, rfl, rfl, rfl, rfl, rfl, rfl, rfl, trivial⟩, rfl, .cons _ (.refl _)⟩
    | some be =>
      rw [show bestC (some be) = (enC be).toArray from rfl, show bestD c (some be) = dueC c be from rfl, show (some be).isSome = true from rfl]
      have honb := enC_one be
      have hszb : (enC be).toArray.size = 10 := rfl
      refine WC_draw_sub (id := 10) 18 (Cs [0,1,2,3,4,5,6,7,8,10,11] <| .must 9 <| .must 12 <| .must 13 <| .must 14 <| Cs [15,16,17] <| .done) mixed (by kernel_rfl) (List.Sublist.refl _) ?_
      repeat (first | refine RQr ?_ | ((first | refine WL_Q ?_ | refine WL_Y ?_ | refine WR_Q rfl ?_ | refine WR_late rfl rfl rfl (OW_Q ?_) | refine WR_Y rfl ?_); (first | refine QW_of (Qt_ldX rfl (hn := by with_reducible assumption)) ?_ | refine QW_of (Qt_entryW rfl hiI2 hmI2 hm hlast) ?_)) | ((first | refine WL_op rfl ?_ | refine WL_yes (h := ?_) | refine WR_late rfl rfl rfl ?_ | refine WR_opG rfl rfl ?_ | refine WR_opYG rfl (h := ?_)); (first | refine OW_callP rfl (hF := cmp_int64) (hk := ?_) | (refine OW_call rfl (hF := order_fn) (hk := ?_); rintro _ _ ⟨⟨ko, rfl⟩, rfl⟩)); try refine SD ?_) | refine RC ?_ | refine RU ?_ | refine WC_draw_all (id := 10) 18 (Cs [0,1,2,3,4,5,6,7,8,10,11] <| .must 9 <| .must 12 <| .must 13 <| .must 14 <| Cs [15,16,17] <| .done) mixed (by kernel_rfl) ?_)
      refine WR_opYG rfl (h := OW_buildS rfl (hk := ?_))
      intro xb
      refine ⟨fun q hq => .tail _ hq, ?_⟩
      refine WR_opYG rfl (h := OW_callP rfl (hF := first_fn (l := [cmpI (dueC c x) (dueC c be), ko]) ⟨rfl, _, _, rfl, Nat.le_refl _, by show 2 ≤ maxLen; decide, .inr ⟨_, 0, _, _, _, 0, rfl, rfl, fun j u hj => by
        rw [Nat.zero_add]
        simp only [Value.cells]
        simpa using hj⟩⟩) (hk := ?_))
      refine ⟨fun q hq => hq, ?_⟩
      obtain ⟨fz, hfz⟩ : ∃ fz, firstNZ [cmpI (dueC c x) (dueC c be), ko] = fz := ⟨_, rfl⟩
      rw [hfz]
      have hF1 : fz < 0 → dueC c x ≤ dueC c be := fun h => by
        rw [← hfz] at h
        unfold firstNZ cmpI at h
        split at h
        · split at h <;> omega
        · split at h <;> omega
      have hF2 : ¬ fz < 0 → dueC c be ≤ dueC c x := fun h => by
        rw [← hfz] at h
        unfold firstNZ cmpI at h
        split at h
        · split at h <;> omega
        · omega
      by_cases hlt2 : fz < 0
      · have d3 : decide (fz < 0) = true := decide_eq_true hlt2
        obtain ⟨t1, t2, t3⟩ := htake h2 fun e he => by cases he; exact hF1 hlt2
        repeat (first | refine RQr ?_ | ((first | refine WL_Q ?_ | refine WL_Y ?_ | refine WR_Q rfl ?_ | refine WR_late rfl rfl rfl (OW_Q ?_) | refine WR_Y rfl ?_); (first | refine QW_of (Qt_ldX rfl (hn := by with_reducible assumption)) ?_ | refine QW_of (Qt_entryW rfl hiI2 hmI2 hm hlast) ?_)) | ((first | refine WL_op rfl ?_ | refine WL_yes (h := ?_) | refine WR_late rfl rfl rfl ?_ | refine WR_opG rfl rfl ?_ | refine WR_opYG rfl (h := ?_)); (first | (refine OE ?_; try intro _) | refine OW_callP rfl (hF := cmp_int64) (hk := ?_) | (refine OW_call rfl (hF := order_fn) (hk := ?_); rintro _ _ ⟨⟨ko, rfl⟩, rfl⟩)); try refine SD ?_) | refine RC ?_ | refine RU ?_ | refine WC_draw_all (id := 10) 18 (Cs [0,1,2,3,4,5,6,7,8,10,11] <| .must 9 <| .must 12 <| .must 13 <| .must 14 <| Cs [15,16,17] <| .done) mixed (by kernel_rfl) ?_ | refine WG 11 ?_ | refine WG 12 ?_)
        rw [ww]
        exact ⟨_, _, by omega, ⟨i + 1, some x, rfl, by omega, t1, t2, t3, rfl⟩, ⟨rfl, rfl, rfl, rfl, rfl, rfl, rfl, rfl, rfl, trivial⟩, rfl, .cons _ (.cons _ (.refl _))⟩
      · have d3 : decide (fz < 0) = false := decide_eq_false hlt2
        have hok : BestOk c upto (some be) x := .inr ⟨be, rfl, hF2 hlt2⟩
        repeat (first | refine RQr ?_ | ((first | refine WL_Q ?_ | refine WL_Y ?_ | refine WR_Q rfl ?_ | refine WR_late rfl rfl rfl (OW_Q ?_) | refine WR_Y rfl ?_); (first | refine QW_of (Qt_ldX rfl (hn := by with_reducible assumption)) ?_ | refine QW_of (Qt_entryW rfl hiI2 hmI2 hm hlast) ?_)) | ((first | refine WL_op rfl ?_ | refine WL_yes (h := ?_) | refine WR_late rfl rfl rfl ?_ | refine WR_opG rfl rfl ?_ | refine WR_opYG rfl (h := ?_)); (first | refine OW_callP rfl (hF := cmp_int64) (hk := ?_) | (refine OW_call rfl (hF := order_fn) (hk := ?_); rintro _ _ ⟨⟨ko, rfl⟩, rfl⟩)); try refine SD ?_) | refine RC ?_ | refine RU ?_ | refine WC_draw_all (id := 10) 18 (Cs [0,1,2,3,4,5,6,7,8,10,11] <| .must 9 <| .must 12 <| .must 13 <| .must 14 <| Cs [15,16,17] <| .done) mixed (by kernel_rfl) ?_ | refine WG 12 ?_)
        rw [ww]
        exact ⟨_, _, by omega, ⟨i + 1, some be, rfl, by omega, hbI, hkeep hok, hbO, rfl⟩, ⟨rfl, rfl, rfl, rfl, rfl, rfl, rfl, rfl, rfl, trivial⟩, rfl, .cons _ (.cons _ (.refl _))⟩
end Go.Proofs.YtekmmhmhcpaiaaaGreat
