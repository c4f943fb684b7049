/-
  A part of what the last of these texts needs; by itself it proves no statement.
-/
import Derived.Test.YtekmmhmhcpaiaaaGreatKP24
namespace Go.Proofs.YtekmmhmhcpaiaaaGreat
open Go.RowKit
structure NodeIn (t : TbV) (nd : Int) (c : PtV) : Prop where
  n0 : 0 ≤ nd
  n1 : nd ≤ (t.nodes.length : Int) - 1
  o : t.nodes[nd.toNat]? = some c.o0
  rs : afterF t nd = c.rs
  rl : t.repl.length = t.nodes.length
  len : c.rs.length ≤ 100000
theorem NodeIn.nx {t : TbV} {nd : Int} {c : PtV} (h : NodeIn t nd c) (v : Nat) : nextF t nd v = c.rs[v]? := by
  unfold nextF
  rw [if_pos (by omega), h.rs, Int.toNat_natCast]
theorem NodeIn.op {t : TbV} {nd : Int} {c : PtV} (h : NodeIn t nd c) {v : Nat} (hv : v ≤ c.rs.length) : opAtF t nd v = some (c.op v) := by
  have hl := h.len
  unfold opAtF
  rw [if_pos ⟨h.n0, h.n1⟩]
  cases v with
  | zero => rw [if_pos (by rfl), h.o]; rfl
  | succ v =>
    have w : IntKind.i64.wrap (((v + 1 : Nat) : Int) - 1) = ((v : Nat) : Int) := by rw [wI64 (by omega) (by omega)]; omega
    rw [if_neg (by omega), w, h.nx]
    have h1 : c.op (v + 1) = ((c.rs[v]?).map CmV.op).getD (0, 0, 0, 0) := rfl
    rw [h1, List.getElem?_eq_getElem (by omega)]
    rfl
theorem NodeIn.ver {t : TbV} {nd : Int} {c : PtV} (h : NodeIn t nd c) (now : Int) : verF t nd now = c.ver now := by
  unfold verF PtV.ver
  rw [h.rs]
def sameE (k : Int) (e x : EnV) : Bool := ((x.s, x.e).1 == (e.s, e.e).1 && (x.s, x.e).2 == (e.s, e.e).2) || (k == 6 && meetW (x.s, x.e) (e.s, e.e))
theorem sameE_rW {c : PtV} {e x : EnV} (hg : x.grp = e.grp) (hx : x.s < x.e) (he : e.s < e.e) : sameE (c.op e.ver).1 e x = rW c e x := by
  obtain ⟨h1, h2⟩ := Prod.mk.inj hg
  rw [Bool.eq_iff_iff, rW_iff]
  unfold sameE meetW
  simp only [Bool.or_eq_true, Bool.and_eq_true, beq_iff_eq, decide_eq_true_eq]
  constructor
  · rintro (⟨h3, h4⟩ | ⟨h3, h4, h5⟩)
    · exact ⟨by omega, h2.symm, .inl ⟨h3.symm, h4.symm⟩⟩
    · exact ⟨by omega, h2.symm, .inr ⟨h3, by omega⟩⟩
  · rintro ⟨h3, h4, (⟨h5, h6⟩ | ⟨h5, h6⟩)⟩
    · exact .inl ⟨h5.symm, h6.symm⟩
    · exact .inr ⟨h5, by omega, by omega⟩
def CellAt (L : List (Nat × Obj)) (b : Nat) (cs : Array Value) (E : TypeId) : Prop := ∃ i : Nat, L[i]? = some (b, Obj.cells cs E (0, 0))
attribute [local irreducible] Fn WC WL WR OW Qt YieldFn QW FnP FnD FnE
set_option maxHeartbeats 2000000 in
theorem lay1_fn {x e : EnV} {xb ob : Nat} {k a b g : Int} {L : List (Nat × Obj)} (hx : CellAt L xb (enC e).toArray 53) (ho : CellAt L ob (opC k a b g) 59) : Fn Tryz.prog 64 [.agg (enC x).toArray, .pointer (some ⟨xb, 0, none⟩), .pointer (some ⟨ob, 0, none⟩)] L (fun v L' => v = .bool (sameE k e x) ∧ L' = L) := by
  obtain ⟨i, hi⟩ := hx
  obtain ⟨j, hj⟩ := ho
  refine Fn_enter Tryz.func64 rfl Tryz.ntmps64 rfl fun gw => ?_
  have hone := enC_one x
  have hsz : (enC x).toArray.size = 10 := rfl
  have hone2 := enC_one e
  have hsz2 : (enC e).toArray.size = 10 := rfl
  repeat (first | refine RQ ?_ | (refine WL_Q ?_; (first | refine QW_of (Qt_eqlP (p := (_, _)) (q := (_, _)) rfl) ?_ | refine QW_of (Qt_ldX rfl (hn := by with_reducible assumption)) ?_ | refine QW_of (Qt_lookVE rfl) ?_)) | (refine RE ?_; try intro _) | refine RC ?_ | refine WG 0 ?_)
  rename_i x3
  have hi' : ((x3, Obj.cells (enC x).toArray 53 (0, 0)) :: L)[i + 1]? = some (xb, Obj.cells (enC e).toArray 53 (0, 0)) := hi
  have hj' : ((x3, Obj.cells (enC x).toArray 53 (0, 0)) :: L)[j + 1]? = some (ob, Obj.cells (opC k a b g) 59 (0, 0)) := hj
  refine WC_draw_sub (id := 1) 18 (Cs [0,2] <| .must 1 <| .must 3 <| Cs [4,5,6,7,8,9,10,12] <| .must 11 <| .must 13 <| .must 14 <| Cs [15,16,17] <| .done) mixed (by kernel_rfl) (List.Sublist.refl _) ?_
  unfold sameE
  cases h1 : ((x.s, x.e).1 == (e.s, e.e).1 && (x.s, x.e).2 == (e.s, e.e).2)
  · cases h2 : (k == 6)
    · repeat (first | refine RQr ?_ | ((first | refine WL_Q ?_ | refine WL_Y ?_ | refine WR_Q rfl ?_ | refine WR_late rfl rfl rfl (OW_Q ?_) | refine WR_Y rfl ?_); (first | refine QW_of (Qt_eqlP (p := (_, _)) (q := (_, _)) rfl) ?_ | refine QW_of (Qt_ldX rfl (hn := by with_reducible assumption)) ?_ | refine QW_of (Qt_lookVE rfl) ?_)) | ((first | refine WL_op rfl ?_ | refine WL_yes (h := ?_) | refine WR_late rfl rfl rfl ?_ | refine WR_opG rfl rfl ?_ | refine WR_opYG rfl (h := ?_)); (first | refine OW_callP rfl (hF := window_fn) (hk := ?_) | refine OW_callP rfl (hF := meetP_fn (p := (_, _)) (q := (_, _))) (hk := ?_)); try refine SD ?_) | refine RC ?_ | refine RU ?_ | refine WC_draw_all (id := 1) 18 (Cs [0,2] <| .must 1 <| .must 3 <| Cs [4,5,6,7,8,9,10,12] <| .must 11 <| .must 13 <| .must 14 <| Cs [15,16,17] <| .done) mixed (by kernel_rfl) ?_)
      exact ⟨rfl, _, _, Res1 rfl (resV_tmp rfl), .cons _ (.refl _), rfl, rfl⟩
    · repeat (first | refine RQr ?_ | ((first | refine WL_Q ?_ | refine WL_Y ?_ | refine WR_Q rfl ?_ | refine WR_late rfl rfl rfl (OW_Q ?_) | refine WR_Y rfl ?_); (first | refine QW_of (Qt_eqlP (p := (_, _)) (q := (_, _)) rfl) ?_ | refine QW_of (Qt_ldX rfl (hn := by with_reducible assumption)) ?_ | refine QW_of (Qt_lookVE rfl) ?_)) | ((first | refine WL_op rfl ?_ | refine WL_yes (h := ?_) | refine WR_late rfl rfl rfl ?_ | refine WR_opG rfl rfl ?_ | refine WR_opYG rfl (h := ?_)); (first | refine OW_callP rfl (hF := window_fn) (hk := ?_) | refine OW_callP rfl (hF := meetP_fn (p := (_, _)) (q := (_, _))) (hk := ?_)); try refine SD ?_) | refine RC ?_ | refine RU ?_ | refine WC_draw_all (id := 1) 18 (Cs [0,2] <| .must 1 <| .must 3 <| Cs [4,5,6,7,8,9,10,12] <| .must 11 <| .must 13 <| .must 14 <| Cs [15,16,17] <| .done) mixed (by kernel_rfl) ?_)
      exact ⟨rfl, _, _, Res1 rfl (resV_tmp rfl), .cons _ (.refl _), rfl, rfl⟩
  · repeat (first | refine RQr ?_ | ((first | refine WL_Q ?_ | refine WL_Y ?_ | refine WR_Q rfl ?_ | refine WR_late rfl rfl rfl (OW_Q ?_) | refine WR_Y rfl ?_); (first | refine QW_of (Qt_eqlP (p := (_, _)) (q := (_, _)) rfl) ?_ | refine QW_of (Qt_ldX rfl (hn := by with_reducible assumption)) ?_ | refine QW_of (Qt_lookVE rfl) ?_)) | ((first | refine WL_op rfl ?_ | refine WL_yes (h := ?_) | refine WR_late rfl rfl rfl ?_ | refine WR_opG rfl rfl ?_ | refine WR_opYG rfl (h := ?_)); (first | refine OW_callP rfl (hF := window_fn) (hk := ?_) | refine OW_callP rfl (hF := meetP_fn (p := (_, _)) (q := (_, _))) (hk := ?_)); try refine SD ?_) | refine RC ?_ | refine RU ?_ | refine WC_draw_all (id := 1) 18 (Cs [0,2] <| .must 1 <| .must 3 <| Cs [4,5,6,7,8,9,10,12] <| .must 11 <| .must 13 <| .must 14 <| Cs [15,16,17] <| .done) mixed (by kernel_rfl) ?_)
    exact ⟨rfl, _, _, Res1 rfl (resV_tmp rfl), .cons _ (.refl _), rfl, rfl⟩
theorem mass_len {M : Nat} : ∀ {l : List EnV}, (∀ x ∈ l, 0 < x.ac.n) → l.length ≤ massW M l
  | [], _ => Nat.le_refl _
  | x :: l, h => by
    have h1 := mass_len (M := M) (l := l) fun y hy => h y (.tail _ hy)
    have h2 : 1 ≤ x.ac.n.toNat * 4 ^ (M - x.ver) := Nat.mul_pos (by have := h x (.head _); omega) (Nat.pow_pos (by decide))
    rw [massW_cons, List.length_cons]
    unfold wtW
    omega
theorem nodeOp_fn {tb : Nat} {tv : TbV} {nd : Int} {c : PtV} (hN : NodeIn tv nd c) {v : Nat} (hv : v ≤ c.rs.length) {k a b g : Int} (ho : c.op v = (k, a, b, g)) {L : List (Nat × Obj)} (ht : TabIn tb L tv) : Fn Tryz.prog 23 [.pointer (some ⟨tb, 0, none⟩), iV nd, iV v] L (fun r L' => r = .tuple #[.agg (opC k a b g), .bool true] ∧ L' = L) := by
  have h := op_fn (n := nd) (k := (v : Int)) ht hN.rl
  rw [hN.op hv, ho] at h
  exact h
set_option maxHeartbeats 8000000 in
theorem lay_fn {pb mb tb : Nat} {nd cl : Int} {c : PtV} {tv : TbV} {S G F : List (Nat × Obj)} {l : List EnV} {e : EnV} (h : PtAt pb mb tb nd cl S G l) (ht : TabIn tb G tv) (hN : NodeIn tv nd c) (hG : ∀ q ∈ G, q ∈ F) (hA : Apart (rW c) l) (hE : ∀ x ∈ l, EnOk c x) (he : EnOk c e) (hM : massW c.rs.length (e :: l) ≤ 99999) :
    Fn Tryz.prog 31 [.pointer (some ⟨pb, 0, none⟩), .agg (enC e).toArray] (S ++ F) (fun v L' => v = .tuple #[] ∧ ∃ S' T, L' = S' ++ (T ++ F) ∧ PtAt pb mb tb nd cl S' (T ++ G) (layL (rW c) EnV.add e l)) := by
  obtain ⟨es, ck, ps, rfl, hm, hr⟩ := h.h
  refine Fn_enter Tryz.func31 rfl Tryz.ntmps31 rfl fun gw => ?_
  have hone := enC_one e
  have hsz : (enC e).toArray.size = 10 := rfl
  obtain ⟨⟨k, a, b, g⟩, hop⟩ : ∃ o : OpV, c.op e.ver = o := ⟨_, rfl⟩
  repeat (first | refine RQ ?_ | (refine WL_Q ?_; (first | refine QW_of (Qt_eqlP (p := (_, _)) (q := (_, _)) rfl) ?_ | refine QW_of (Qt_ldX rfl (hn := by with_reducible assumption)) ?_ | refine QW_of (Qt_lookVE rfl) ?_)) | (refine RE ?_; try intro _) | refine RC ?_ | refine WG 0 ?_)
  rename_i x3
  obtain ⟨L0, hL0⟩ : ∃ L0, L0 = (x3, Obj.cells (enC e).toArray 53 (0, 0)) :: ([(pb, Obj.cells (PtC tb mb nd cl l.length) 89 (0, 0)), (mb, Obj.map es ck)] ++ F) := ⟨_, rfl⟩
  have ht0 : TabIn tb L0 tv := ht.mem fun q hq => by rw [hL0]; exact .tail _ (List.mem_append_right _ (hG q hq))
  have hp0 : L0[0]? = some (x3, Obj.cells (enC e).toArray 53 (0, 0)) := by rw [hL0]; rfl
  have hp1 : L0[1]? = some (pb, Obj.cells (PtC tb mb nd cl l.length) 89 (0, 0)) := by rw [hL0]; rfl
  rw [← hL0]
  refine WC_meet (fun σ => ∃ x4, σ = ⟨[(4, .pointer (some ⟨x4, 0, none⟩)), (3, .pointer (some ⟨x3, 0, none⟩)), (0, .pointer (some ⟨pb, 0, none⟩))], [], (x4, Obj.cells (opC k a b g) 59 (0, 0)) :: L0⟩) ?_ ?_
  · refine WC_draw_sub (id := 1) 17 (Cs [0,1,2,3,4,5,6,7,8,9] <| .either 10 (Cs [11,12,13] <| .must 14 <| .must 15 <| .calm 16 <| .done) 14 (.must 10 <| Cs [11,12,13] <| .must 15 <| .calm 16 <| .done)) mixed (by kernel_rfl) (List.Sublist.refl _) ?_
    repeat (first | refine RQr ?_ | (refine RX ?_; (first | refine QW_of (Qt_eqlP (p := (_, _)) (q := (_, _)) rfl) ?_ | refine QW_of (Qt_ldX rfl (hn := by with_reducible assumption)) ?_ | refine QW_of (Qt_lookVE rfl) ?_)) | ((first | refine WL_op rfl ?_ | refine WR_late rfl rfl rfl ?_ | refine WR_op rfl rfl ?_); (first | (refine OE ?_; try intro _) | refine OW_callP rfl (hF := nodeOp_fn hN he.ver hop ht0) (hk := ?_) | refine OW_callP rfl (hF := nodeOp_fn hN he.ver hop (ht0.mem fun _ hq => .tail _ hq)) (hk := ?_)); try refine SD ?_) | refine RC ?_ | refine RU ?_ | refine WC_draw_all (id := 1) 17 (Cs [0,1,2,3,4,5,6,7,8,9] <| .either 10 (Cs [11,12,13] <| .must 14 <| .must 15 <| .calm 16 <| .done) 14 (.must 10 <| Cs [11,12,13] <| .must 15 <| .calm 16 <| .done)) mixed (by kernel_rfl) ?_)
    refine WR_either ?_ ?_
    · repeat (first | refine RQr ?_ | (refine RX ?_; (first | refine QW_of (Qt_eqlP (p := (_, _)) (q := (_, _)) rfl) ?_ | refine QW_of (Qt_ldX rfl (hn := by with_reducible assumption)) ?_ | refine QW_of (Qt_lookVE rfl) ?_)) | ((first | refine WL_op rfl ?_ | refine WR_late rfl rfl rfl ?_ | refine WR_op rfl rfl ?_); (first | (refine OE ?_; try intro _) | refine OW_callP rfl (hF := nodeOp_fn hN he.ver hop ht0) (hk := ?_) | refine OW_callP rfl (hF := nodeOp_fn hN he.ver hop (ht0.mem fun _ hq => .tail _ hq)) (hk := ?_)); try refine SD ?_) | refine RC ?_ | refine RU ?_ | refine WC_draw_all (id := 1) 17 (Cs [0,1,2,3,4,5,6,7,8,9] <| .either 10 (Cs [11,12,13] <| .must 14 <| .must 15 <| .calm 16 <| .done) 14 (.must 10 <| Cs [11,12,13] <| .must 15 <| .calm 16 <| .done)) mixed (by kernel_rfl) ?_)
      exact ⟨_, ⟨_, rfl⟩, ⟨rfl, rfl, rfl, trivial⟩, rfl, .refl _⟩
    · repeat (first | refine RQr ?_ | (refine RX ?_; (first | refine QW_of (Qt_eqlP (p := (_, _)) (q := (_, _)) rfl) ?_ | refine QW_of (Qt_ldX rfl (hn := by with_reducible assumption)) ?_ | refine QW_of (Qt_lookVE rfl) ?_)) | ((first | refine WL_op rfl ?_ | refine WR_late rfl rfl rfl ?_ | refine WR_op rfl rfl ?_); (first | (refine OE ?_; try intro _) | refine OW_callP rfl (hF := nodeOp_fn hN he.ver hop ht0) (hk := ?_) | refine OW_callP rfl (hF := nodeOp_fn hN he.ver hop (ht0.mem fun _ hq => .tail _ hq)) (hk := ?_)); try refine SD ?_) | refine RC ?_ | refine RU ?_ | refine WC_draw_all (id := 1) 17 (Cs [0,1,2,3,4,5,6,7,8,9] <| .either 10 (Cs [11,12,13] <| .must 14 <| .must 15 <| .calm 16 <| .done) 14 (.must 10 <| Cs [11,12,13] <| .must 15 <| .calm 16 <| .done)) mixed (by kernel_rfl) ?_)
      exact ⟨_, ⟨_, rfl⟩, ⟨rfl, rfl, rfl, trivial⟩, rfl, .refl _⟩
  rintro _ ⟨x4, rfl⟩
  repeat (first | refine RQ ?_ | (refine WL_Q ?_; (first | refine QW_of (Qt_eqlP (p := (_, _)) (q := (_, _)) rfl) ?_ | refine QW_of (Qt_ldX rfl (hn := by with_reducible assumption)) ?_ | refine QW_of (Qt_lookVE rfl) ?_)) | refine RC ?_ | refine WG 2 ?_)
  obtain ⟨A, hAA⟩ : ∃ A, A = (x4, Obj.cells (opC k a b g) 59 (0, 0)) :: F := ⟨_, rfl⟩
  have hGA : ∀ q ∈ G, q ∈ A := fun q hq => by rw [hAA]; exact .tail _ (hG q hq)
  have hA4 : (x4, Obj.cells (opC k a b g) 59 (0, 0)) ∈ A := by rw [hAA]; exact .head _
  have hFA : F.Sublist A := by rw [hAA]; exact .cons _ (.refl _)
  obtain ⟨f6, hf6⟩ : ∃ f6 : Value, f6 = .func (.func 64) #[] #[.pointer (some ⟨x3, 0, none⟩), .pointer (some ⟨x4, 0, none⟩)] := ⟨_, rfl⟩
  rw [← hf6]
  refine WC_wk [(6, f6), (3, .pointer (some ⟨x3, 0, none⟩)), (0, .pointer (some ⟨pb, 0, none⟩))] ⟨rfl, rfl, rfl, trivial⟩ ?_
  refine WC_permT (L' := [(pb, Obj.cells (PtC tb mb nd cl l.length) 89 (0, 0)), (mb, Obj.map es ck)] ++ ((x3, Obj.cells (enC e).toArray 53 (0, 0)) :: ([] ++ A))) (by
    rw [hL0, hAA]
    exact (List.perm_middle (l₁ := [_, _])).trans ((List.Perm.cons _ (List.perm_middle (l₁ := [_, _]))).trans (.swap _ _ _))) ?_
  refine WC_loop (fun m σ => ∃ (e' : EnV) (l' : List EnV) (S' T : List (Nat × Obj)), m = l'.length ∧ EnOk c e' ∧ (∀ x ∈ l', EnOk c x) ∧ Apart (rW c) l' ∧ massW c.rs.length (e' :: l') ≤ 99999 ∧ e'.ver = e.ver ∧ e'.key = e.key ∧ (layL (rW c) EnV.add e' l').Perm (layL (rW c) EnV.add e l) ∧ PtAt pb mb tb nd cl S' (T ++ G) l' ∧ σ = ⟨[(6, f6), (3, .pointer (some ⟨x3, 0, none⟩)), (0, .pointer (some ⟨pb, 0, none⟩))], [], S' ++ ((x3, Obj.cells (enC e').toArray 53 (0, 0)) :: (T ++ A))⟩) l.length ⟨e, l, _, [], rfl, he, hE, hA, hM, rfl, rfl, .refl _, h, rfl⟩ ?_
  clear hL0 ht0 hp0 hp1 hr hm h hone hsz
  rintro m σ ⟨e', l', S', T, rfl, he', hE', hA', hM', hv', hk', hL', h', rfl⟩
  obtain ⟨es', ck', ps', rfl, hm', hr'⟩ := h'.h
  obtain ⟨v0, row, hv0, hvr, hpr⟩ := hr'.get e'.grp
  have hlen := mass_len (M := c.rs.length) (l := e' :: l') fun x hx => by
    rcases List.mem_cons.1 hx with rfl | hx
    · exact he'.n0
    · exact (hE' x hx).n0
  rw [List.length_cons] at hlen
  have hrl : row.length ≤ l'.length := by rw [hpr.length_eq]; exact ofG_len _ _
  have hone := enC_one e'
  have hsz : (enC e').toArray.size = 10 := rfl
  have hme := hm'.ents
  obtain ⟨L1, hL1⟩ : ∃ L1, L1 = [(pb, Obj.cells (PtC tb mb nd cl l'.length) 89 (0, 0)), (mb, Obj.map es' ck')] ++ ((x3, Obj.cells (enC e').toArray 53 (0, 0)) :: (T ++ A)) := ⟨_, rfl⟩
  have hp0 : L1[0]? = some (pb, Obj.cells (PtC tb mb nd cl l'.length) 89 (0, 0)) := by rw [hL1]; rfl
  have hp1 : L1[1]? = some (mb, Obj.map es' ck') := by rw [hL1]; rfl
  have hp2 : L1[2]? = some (x3, Obj.cells (enC e').toArray 53 (0, 0)) := by rw [hL1]; rfl
  have hGL : ∀ q ∈ T ++ G, q ∈ L1 := fun q hq => by
    rw [hL1]
    refine .tail _ (.tail _ (.tail _ ?_))
    rcases List.mem_append.1 hq with hq | hq
    · exact List.mem_append_left _ hq
    · exact List.mem_append_right _ (hGA q hq)
  have hv1 : Vec 10 L1 v0 row.length (enL row) := (hvr.mem hGL).vec fun _ h => h
  obtain ⟨_, va, vcap, rfl, _, hvm, hvx⟩ := id hv1
  have hc4 : CellAt L1 x4 (opC k a b g) 59 := List.mem_iff_getElem?.1 (by rw [hL1]; exact .tail _ (.tail _ (.tail _ (List.mem_append_right _ hA4))))
  have hrow : ∀ x ∈ row, sameE k e' x = rW c e' x := fun x hx => by
    have hx1 := hpr.mem_iff.1 hx
    obtain ⟨hx2, hx3⟩ := List.mem_filter.1 hx1
    have hkk : k = (c.op e'.ver).1 := by rw [hv', hop]
    rw [hkk]
    exact sameE_rW (by simpa using hx3) (hE' x hx2).se he'.se
  rw [← hL1]
  have hIx : Fn Tryz.prog 67 [.slice va row.length vcap, f6] L1 (fun r L' => (∃ i, SomeE row (sameE k e') i ∧ r = iV i) ∧ L1 = L') := by
    rw [hf6]
    exact (indexFE_fn (by omega) hv1 fun x _ => lay1_fn ⟨2, hp2⟩ hc4).mono fun _ _ h => ⟨h.1, h.2.symm⟩
  repeat (first | refine RQ ?_ | (refine WL_Q ?_; (first | refine QW_of (Qt_eqlP (p := (_, _)) (q := (_, _)) rfl) ?_ | refine QW_of (Qt_ldX rfl (hn := by with_reducible assumption)) ?_ | refine QW_of (Qt_lookVE rfl) ?_)) | refine RC ?_)
  refine WC_draw_sub (id := 3) 10 (Cs [0,1,2,3,4,7] <| .must 5 <| .calm 6 <| .must 8 <| .calm 9 <| .done) mixed (by kernel_rfl) (List.Sublist.refl _) ?_
  repeat (first | refine RQr ?_ | (refine RX ?_; (first | refine QW_of (Qt_eqlP (p := (_, _)) (q := (_, _)) rfl) ?_ | refine QW_of (Qt_ldX rfl (hn := by with_reducible assumption)) ?_ | refine QW_of (Qt_lookVE rfl) ?_)) | (refine OX ?_; (first | refine OW_callP rfl (hF := of_fn) (hk := ?_) | (refine OW_call rfl (hF := hIx) (hk := ?_); rintro _ _ ⟨⟨i, hS, rfl⟩, rfl⟩)); try refine SD ?_) | refine RC ?_ | refine RU ?_ | refine WC_draw_all (id := 3) 10 (Cs [0,1,2,3,4,7] <| .must 5 <| .calm 6 <| .must 8 <| .calm 9 <| .done) mixed (by kernel_rfl) ?_)
  rcases hS with ⟨rfl, hno⟩ | ⟨j, x, rfl, hj, hpx⟩
  · have d : decide ((-1 : Int) < 0) = true := rfl
    have hno' : ∀ x ∈ l', rW c e' x = false := fun x hx => by
      by_cases hg : x.grp = e'.grp
      · have hxr : x ∈ row := hpr.mem_iff.2 (List.mem_filter.2 ⟨hx, by simpa using hg⟩)
        rw [← hrow x hxr]
        exact hno x hxr
      · refine decide_eq_false fun hh => hg ?_
        show ((x.ver : Int), x.key) = ((e'.ver : Int), e'.key)
        rw [hh.1, hh.2.1]
    repeat (first | refine RQ ?_ | (refine WL_Q ?_; (first | refine QW_of (Qt_eqlP (p := (_, _)) (q := (_, _)) rfl) ?_ | refine QW_of (Qt_ldX rfl (hn := by with_reducible assumption)) ?_ | refine QW_of (Qt_lookVE rfl) ?_)) | refine RC ?_ | refine WG 4 ?_ | refine WG 10 ?_)
    rw [hL1]
    have hMo := more_fn (F := (x3, Obj.cells (enC e').toArray 53 (0, 0)) :: (T ++ A)) (e := e') h' (fun q hq => .tail _ (by
      rcases List.mem_append.1 hq with hq | hq
      · exact List.mem_append_left _ hq
      · exact List.mem_append_right _ (hGA q hq))) (by omega)
    refine WL_op rfl (OW_call rfl (hF := hMo) (hk := ?_))
    rintro _ _ ⟨rfl, S2, T2, rfl, h2⟩
    repeat (first | refine RQ ?_ | (refine WL_Q ?_; (first | refine QW_of (Qt_eqlP (p := (_, _)) (q := (_, _)) rfl) ?_ | refine QW_of (Qt_ldX rfl (hn := by with_reducible assumption)) ?_ | refine QW_of (Qt_lookVE rfl) ?_)) | refine RC ?_ | refine WG 10 ?_)
    rw [layL_none hno'] at hL'
    refine ⟨rfl, _, S2 ++ ((T2 ++ T) ++ F), Res0 rfl, ?_, rfl, S2, T2 ++ T, rfl, ?_⟩
    · rw [List.append_assoc]
      exact List.Sublist.append (.refl _) (List.Sublist.append (.refl _) (.cons _ (List.Sublist.append (.refl _) hFA)))
    · rw [List.append_assoc]
      exact h2.perm hL'
  · have d : decide (((j : Nat) : Int) < 0) = false := decide_eq_false (by omega)
    have hxr : x ∈ row := List.mem_of_getElem? hj
    have hxl : x ∈ l' := (List.mem_filter.1 (hpr.mem_iff.1 hxr)).1
    have hrx : rW c e' x = true := by rw [← hrow x hxr]; exact hpx
    obtain ⟨B1, B2, hB⟩ := List.append_of_mem hxl
    have hpl : l'.Perm (x :: (B1 ++ B2)) := by rw [hB]; exact List.perm_middle
    obtain ⟨l2, hl2⟩ : ∃ l2, l2 = B1 ++ B2 := ⟨_, rfl⟩
    rw [← hl2] at hpl
    have hjl := (List.getElem?_eq_some_iff.1 hj).1
    obtain ⟨bb, off, cs, E, fr, ii, rfl, hci, hcx⟩ := hvx.resolve_left (by omega)
    obtain ⟨hx1, hx2⟩ := enL_ext hcx hj
    have p0 : (0 : Int) ≤ ((j : Nat) : Int) := by omega
    have p1 : ((j : Nat) : Int) < ((row.length : Nat) : Int) := by omega
    have y1 : off + ((j : Nat) : Int).toNat * 10 + 10 ≤ cs.size := by rw [Int.toNat_natCast]; exact hx2
    have v1 : cs.extract (off + ((j : Nat) : Int).toNat * 10) (off + ((j : Nat) : Int).toNat * 10 + 10) = (enC x).toArray := by rw [Int.toNat_natCast]; exact hx1
    have honx := enC_one x
    have hszx : (enC x).toArray.size = 10 := rfl
    repeat (first | refine RQ ?_ | (refine WL_Q ?_; (first | refine QW_of (Qt_eqlP (p := (_, _)) (q := (_, _)) rfl) ?_ | refine QW_of (Qt_ldX rfl (hn := by with_reducible assumption)) ?_ | refine QW_of (Qt_lookVE rfl) ?_)) | refine RC ?_ | refine WG 4 ?_)
    refine WC_meet (fun σ => ∃ x8, σ = ⟨[(8, .pointer (some ⟨x8, 0, none⟩)), (6, f6), (3, .pointer (some ⟨x3, 0, none⟩)), (0, .pointer (some ⟨pb, 0, none⟩))], [], (x8, Obj.cells (enC x).toArray 53 (0, 0)) :: L1⟩) ?_ ?_
    · refine WC_draw_sub (id := 5) 11 (Cs [0,1,2,3,4,7] <| .either 5 (Cs [6,8,9] <| .must 10 <| .must 11 <| .done) 10 (.must 5 <| Cs [6,8,9] <| .must 11 <| .done)) mixed (by kernel_rfl) (List.Sublist.refl _) ?_
      repeat (first | refine RQr ?_ | (refine RX ?_; (first | refine QW_of (Qt_eqlP (p := (_, _)) (q := (_, _)) rfl) ?_ | refine QW_of (Qt_ldX rfl (hn := by with_reducible assumption)) ?_ | refine QW_of (Qt_lookVE rfl) ?_)) | ((first | refine WL_op rfl ?_ | refine WR_late rfl rfl rfl ?_ | refine WR_op rfl rfl ?_); (first | (refine OE ?_; try intro _) | refine OW_callP rfl (hF := of_fn) (hk := ?_)); try refine SD ?_) | refine RC ?_ | refine RU ?_ | refine WC_draw_all (id := 5) 11 (Cs [0,1,2,3,4,7] <| .either 5 (Cs [6,8,9] <| .must 10 <| .must 11 <| .done) 10 (.must 5 <| Cs [6,8,9] <| .must 11 <| .done)) mixed (by kernel_rfl) ?_)
      refine WR_either ?_ ?_
      · repeat (first | refine RQr ?_ | (refine RX ?_; (first | refine QW_of (Qt_eqlP (p := (_, _)) (q := (_, _)) rfl) ?_ | refine QW_of (Qt_ldX rfl (hn := by with_reducible assumption)) ?_ | refine QW_of (Qt_lookVE rfl) ?_)) | ((first | refine WL_op rfl ?_ | refine WR_late rfl rfl rfl ?_ | refine WR_op rfl rfl ?_); (first | (refine OE ?_; try intro _) | refine OW_callP rfl (hF := of_fn) (hk := ?_)); try refine SD ?_) | refine RC ?_ | refine RU ?_ | refine WC_draw_all (id := 5) 11 (Cs [0,1,2,3,4,7] <| .either 5 (Cs [6,8,9] <| .must 10 <| .must 11 <| .done) 10 (.must 5 <| Cs [6,8,9] <| .must 11 <| .done)) mixed (by kernel_rfl) ?_)
        rw [v1]
        repeat (first | refine RQr ?_ | (refine RX ?_; (first | refine QW_of (Qt_eqlP (p := (_, _)) (q := (_, _)) rfl) ?_ | refine QW_of (Qt_ldX rfl (hn := by with_reducible assumption)) ?_ | refine QW_of (Qt_lookVE rfl) ?_)) | ((first | refine WL_op rfl ?_ | refine WR_late rfl rfl rfl ?_ | refine WR_op rfl rfl ?_); (first | (refine OE ?_; try intro _) | refine OW_callP rfl (hF := of_fn) (hk := ?_)); try refine SD ?_) | refine RC ?_ | refine RU ?_ | refine WC_draw_all (id := 5) 11 (Cs [0,1,2,3,4,7] <| .either 5 (Cs [6,8,9] <| .must 10 <| .must 11 <| .done) 10 (.must 5 <| Cs [6,8,9] <| .must 11 <| .done)) mixed (by kernel_rfl) ?_)
        exact ⟨_, ⟨_, rfl⟩, ⟨rfl, rfl, rfl, rfl, trivial⟩, rfl, .refl _⟩
      · repeat (first | refine RQr ?_ | (refine RX ?_; (first | refine QW_of (Qt_eqlP (p := (_, _)) (q := (_, _)) rfl) ?_ | refine QW_of (Qt_ldX rfl (hn := by with_reducible assumption)) ?_ | refine QW_of (Qt_lookVE rfl) ?_)) | ((first | refine WL_op rfl ?_ | refine WR_late rfl rfl rfl ?_ | refine WR_op rfl rfl ?_); (first | (refine OE ?_; try intro _) | refine OW_callP rfl (hF := of_fn) (hk := ?_)); try refine SD ?_) | refine RC ?_ | refine RU ?_ | refine WC_draw_all (id := 5) 11 (Cs [0,1,2,3,4,7] <| .either 5 (Cs [6,8,9] <| .must 10 <| .must 11 <| .done) 10 (.must 5 <| Cs [6,8,9] <| .must 11 <| .done)) mixed (by kernel_rfl) ?_)
        rw [v1]
        repeat (first | refine RQr ?_ | (refine RX ?_; (first | refine QW_of (Qt_eqlP (p := (_, _)) (q := (_, _)) rfl) ?_ | refine QW_of (Qt_ldX rfl (hn := by with_reducible assumption)) ?_ | refine QW_of (Qt_lookVE rfl) ?_)) | ((first | refine WL_op rfl ?_ | refine WR_late rfl rfl rfl ?_ | refine WR_op rfl rfl ?_); (first | (refine OE ?_; try intro _) | refine OW_callP rfl (hF := of_fn) (hk := ?_)); try refine SD ?_) | refine RC ?_ | refine RU ?_ | refine WC_draw_all (id := 5) 11 (Cs [0,1,2,3,4,7] <| .either 5 (Cs [6,8,9] <| .must 10 <| .must 11 <| .done) 10 (.must 5 <| Cs [6,8,9] <| .must 11 <| .done)) mixed (by kernel_rfl) ?_)
        exact ⟨_, ⟨_, rfl⟩, ⟨rfl, rfl, rfl, rfl, trivial⟩, rfl, .refl _⟩
    rintro _ ⟨x8, rfl⟩
    have h2 := h'.perm hpl
    rw [hL1]
    refine WC_permT (L' := [(pb, Obj.cells (PtC tb mb nd cl l'.length) 89 (0, 0)), (mb, Obj.map es' ck')] ++ ((x8, Obj.cells (enC x).toArray 53 (0, 0)) :: (x3, Obj.cells (enC e').toArray 53 (0, 0)) :: (T ++ A))) (List.perm_middle (l₁ := [_, _])) ?_
    repeat (first | refine RQ ?_ | (refine WL_Q ?_; (first | refine QW_of (Qt_eqlP (p := (_, _)) (q := (_, _)) rfl) ?_ | refine QW_of (Qt_ldX rfl (hn := by with_reducible assumption)) ?_ | refine QW_of (Qt_lookVE rfl) ?_)) | refine RC ?_ | refine WG 6 ?_)
    have hWi := without_fn (F := (x8, Obj.cells (enC x).toArray 53 (0, 0)) :: (x3, Obj.cells (enC e').toArray 53 (0, 0)) :: (T ++ A)) (e := x) h2 (fun q hq => .tail _ (.tail _ (by
      rcases List.mem_append.1 hq with hq | hq
      · exact List.mem_append_left _ hq
      · exact List.mem_append_right _ (hGA q hq)))) (by have := hpl.length_eq; rw [List.length_cons] at this; omega)
    refine WL_op rfl (OW_call rfl (hF := hWi) (hk := ?_))
    rintro _ _ ⟨rfl, S2, T2, rfl, h3⟩
    repeat (first | refine RQ ?_ | (refine WL_Q ?_; (first | refine QW_of (Qt_eqlP (p := (_, _)) (q := (_, _)) rfl) ?_ | refine QW_of (Qt_ldX rfl (hn := by with_reducible assumption)) ?_ | refine QW_of (Qt_lookVE rfl) ?_)) | refine RC ?_ | refine WG 6 ?_)
    refine WC_permT (L' := (x8, Obj.cells (enC x).toArray 53 (0, 0)) :: (x3, Obj.cells (enC e').toArray 53 (0, 0)) :: (S2 ++ (T2 ++ (T ++ A)))) (by
      classical
      rw [List.perm_iff_count]
      intro q
      simp only [List.count_append, List.count_cons]
      omega) ?_
    obtain ⟨L2, hL2⟩ : ∃ L2, L2 = S2 ++ (T2 ++ (T ++ A)) := ⟨_, rfl⟩
    rw [← hL2]
    refine WC_meet (fun σ => ∃ x9, σ = ⟨[(9, .pointer (some ⟨x9, 0, none⟩)), (8, .pointer (some ⟨x8, 0, none⟩)), (6, f6), (3, .pointer (some ⟨x3, 0, none⟩)), (0, .pointer (some ⟨pb, 0, none⟩))], [], (x9, Obj.cells (wC (joinW (x.s, x.e) (e'.s, e'.e))) 144 (0, 0)) :: (x8, Obj.cells (enC x).toArray 53 (0, 0)) :: (x3, Obj.cells (enC e').toArray 53 (0, 0)) :: L2⟩) ?_ ?_
    · refine WC_draw_sub (id := 7) 6 (Cs [0,2] <| .either 1 (.either 3 (.either 4 (.must 5 <| .must 6 <| .done) 5 (.must 4 <| .must 6 <| .done)) 5 (.must 3 <| .must 4 <| .must 6 <| .done)) 5 (.must 1 <| .must 3 <| .must 4 <| .must 6 <| .done)) mixed (by kernel_rfl) (List.Sublist.refl _) ?_
      repeat (first | refine RQr ?_ | (refine RX ?_; (first | refine QW_of (Qt_eqlP (p := (_, _)) (q := (_, _)) rfl) ?_ | refine QW_of (Qt_ldX rfl (hn := by with_reducible assumption)) ?_ | refine QW_of (Qt_lookVE rfl) ?_)) | ((first | refine WL_op rfl ?_ | refine WR_late rfl rfl rfl ?_ | refine WR_op rfl rfl ?_); (first | (refine OE ?_; try intro _) | refine OW_callP rfl (hF := window_fn) (hk := ?_) | refine OW_callP rfl (hF := window_fn) (hk := ?_) | refine OW_callP rfl (hF := joinP_fn (p := (_, _)) (q := (_, _))) (hk := ?_)); try refine SD ?_) | refine RC ?_ | refine RU ?_ | refine WC_draw_all (id := 7) 6 (Cs [0,2] <| .either 1 (.either 3 (.either 4 (.must 5 <| .must 6 <| .done) 5 (.must 4 <| .must 6 <| .done)) 5 (.must 3 <| .must 4 <| .must 6 <| .done)) 5 (.must 1 <| .must 3 <| .must 4 <| .must 6 <| .done)) mixed (by kernel_rfl) ?_)
      refine WR_either ?_ ?_
      · repeat (first | refine RQr ?_ | (refine RX ?_; (first | refine QW_of (Qt_eqlP (p := (_, _)) (q := (_, _)) rfl) ?_ | refine QW_of (Qt_ldX rfl (hn := by with_reducible assumption)) ?_ | refine QW_of (Qt_lookVE rfl) ?_)) | ((first | refine WL_op rfl ?_ | refine WR_late rfl rfl rfl ?_ | refine WR_op rfl rfl ?_); (first | (refine OE ?_; try intro _) | refine OW_callP rfl (hF := window_fn) (hk := ?_) | refine OW_callP rfl (hF := window_fn) (hk := ?_) | refine OW_callP rfl (hF := joinP_fn (p := (_, _)) (q := (_, _))) (hk := ?_)); try refine SD ?_) | refine RC ?_ | refine RU ?_ | refine WC_draw_all (id := 7) 6 (Cs [0,2] <| .either 1 (.either 3 (.either 4 (.must 5 <| .must 6 <| .done) 5 (.must 4 <| .must 6 <| .done)) 5 (.must 3 <| .must 4 <| .must 6 <| .done)) 5 (.must 1 <| .must 3 <| .must 4 <| .must 6 <| .done)) mixed (by kernel_rfl) ?_)
        refine WR_either ?_ ?_
        · repeat (first | refine RQr ?_ | (refine RX ?_; (first | refine QW_of (Qt_eqlP (p := (_, _)) (q := (_, _)) rfl) ?_ | refine QW_of (Qt_ldX rfl (hn := by with_reducible assumption)) ?_ | refine QW_of (Qt_lookVE rfl) ?_)) | ((first | refine WL_op rfl ?_ | refine WR_late rfl rfl rfl ?_ | refine WR_op rfl rfl ?_); (first | (refine OE ?_; try intro _) | refine OW_callP rfl (hF := window_fn) (hk := ?_) | refine OW_callP rfl (hF := window_fn) (hk := ?_) | refine OW_callP rfl (hF := joinP_fn (p := (_, _)) (q := (_, _))) (hk := ?_)); try refine SD ?_) | refine RC ?_ | refine RU ?_ | refine WC_draw_all (id := 7) 6 (Cs [0,2] <| .either 1 (.either 3 (.either 4 (.must 5 <| .must 6 <| .done) 5 (.must 4 <| .must 6 <| .done)) 5 (.must 3 <| .must 4 <| .must 6 <| .done)) 5 (.must 1 <| .must 3 <| .must 4 <| .must 6 <| .done)) mixed (by kernel_rfl) ?_)
          refine WR_either ?_ ?_
          · repeat (first | refine RQr ?_ | (refine RX ?_; (first | refine QW_of (Qt_eqlP (p := (_, _)) (q := (_, _)) rfl) ?_ | refine QW_of (Qt_ldX rfl (hn := by with_reducible assumption)) ?_ | refine QW_of (Qt_lookVE rfl) ?_)) | ((first | refine WL_op rfl ?_ | refine WR_late rfl rfl rfl ?_ | refine WR_op rfl rfl ?_); (first | (refine OE ?_; try intro _) | refine OW_callP rfl (hF := window_fn) (hk := ?_) | refine OW_callP rfl (hF := window_fn) (hk := ?_) | refine OW_callP rfl (hF := joinP_fn (p := (_, _)) (q := (_, _))) (hk := ?_)); try refine SD ?_) | refine RC ?_ | refine RU ?_ | refine WC_draw_all (id := 7) 6 (Cs [0,2] <| .either 1 (.either 3 (.either 4 (.must 5 <| .must 6 <| .done) 5 (.must 4 <| .must 6 <| .done)) 5 (.must 3 <| .must 4 <| .must 6 <| .done)) 5 (.must 1 <| .must 3 <| .must 4 <| .must 6 <| .done)) mixed (by kernel_rfl) ?_)
            exact ⟨_, ⟨_, rfl⟩, ⟨rfl, rfl, rfl, rfl, rfl, trivial⟩, rfl, .refl _⟩
          · repeat (first | refine RQr ?_ | (refine RX ?_; (first | refine QW_of (Qt_eqlP (p := (_, _)) (q := (_, _)) rfl) ?_ | refine QW_of (Qt_ldX rfl (hn := by with_reducible assumption)) ?_ | refine QW_of (Qt_lookVE rfl) ?_)) | ((first | refine WL_op rfl ?_ | refine WR_late rfl rfl rfl ?_ | refine WR_op rfl rfl ?_); (first | (refine OE ?_; try intro _) | refine OW_callP rfl (hF := window_fn) (hk := ?_) | refine OW_callP rfl (hF := window_fn) (hk := ?_) | refine OW_callP rfl (hF := joinP_fn (p := (_, _)) (q := (_, _))) (hk := ?_)); try refine SD ?_) | refine RC ?_ | refine RU ?_ | refine WC_draw_all (id := 7) 6 (Cs [0,2] <| .either 1 (.either 3 (.either 4 (.must 5 <| .must 6 <| .done) 5 (.must 4 <| .must 6 <| .done)) 5 (.must 3 <| .must 4 <| .must 6 <| .done)) 5 (.must 1 <| .must 3 <| .must 4 <| .must 6 <| .done)) mixed (by kernel_rfl) ?_)
            exact ⟨_, ⟨_, rfl⟩, ⟨rfl, rfl, rfl, rfl, rfl, trivial⟩, rfl, .refl _⟩
        · repeat (first | refine RQr ?_ | (refine RX ?_; (first | refine QW_of (Qt_eqlP (p := (_, _)) (q := (_, _)) rfl) ?_ | refine QW_of (Qt_ldX rfl (hn := by with_reducible assumption)) ?_ | refine QW_of (Qt_lookVE rfl) ?_)) | ((first | refine WL_op rfl ?_ | refine WR_late rfl rfl rfl ?_ | refine WR_op rfl rfl ?_); (first | (refine OE ?_; try intro _) | refine OW_callP rfl (hF := window_fn) (hk := ?_) | refine OW_callP rfl (hF := window_fn) (hk := ?_) | refine OW_callP rfl (hF := joinP_fn (p := (_, _)) (q := (_, _))) (hk := ?_)); try refine SD ?_) | refine RC ?_ | refine RU ?_ | refine WC_draw_all (id := 7) 6 (Cs [0,2] <| .either 1 (.either 3 (.either 4 (.must 5 <| .must 6 <| .done) 5 (.must 4 <| .must 6 <| .done)) 5 (.must 3 <| .must 4 <| .must 6 <| .done)) 5 (.must 1 <| .must 3 <| .must 4 <| .must 6 <| .done)) mixed (by kernel_rfl) ?_)
          exact ⟨_, ⟨_, rfl⟩, ⟨rfl, rfl, rfl, rfl, rfl, trivial⟩, rfl, .refl _⟩
      · repeat (first | refine RQr ?_ | (refine RX ?_; (first | refine QW_of (Qt_eqlP (p := (_, _)) (q := (_, _)) rfl) ?_ | refine QW_of (Qt_ldX rfl (hn := by with_reducible assumption)) ?_ | refine QW_of (Qt_lookVE rfl) ?_)) | ((first | refine WL_op rfl ?_ | refine WR_late rfl rfl rfl ?_ | refine WR_op rfl rfl ?_); (first | (refine OE ?_; try intro _) | refine OW_callP rfl (hF := window_fn) (hk := ?_) | refine OW_callP rfl (hF := window_fn) (hk := ?_) | refine OW_callP rfl (hF := joinP_fn (p := (_, _)) (q := (_, _))) (hk := ?_)); try refine SD ?_) | refine RC ?_ | refine RU ?_ | refine WC_draw_all (id := 7) 6 (Cs [0,2] <| .either 1 (.either 3 (.either 4 (.must 5 <| .must 6 <| .done) 5 (.must 4 <| .must 6 <| .done)) 5 (.must 3 <| .must 4 <| .must 6 <| .done)) 5 (.must 1 <| .must 3 <| .must 4 <| .must 6 <| .done)) mixed (by kernel_rfl) ?_)
        exact ⟨_, ⟨_, rfl⟩, ⟨rfl, rfl, rfl, rfl, rfl, trivial⟩, rfl, .refl _⟩
    rintro _ ⟨x9, rfl⟩
    obtain ⟨es2, ck2, ps2, rfl, hm2, hr2⟩ := id h3.h
    refine WC_permT (L' := (x9, Obj.cells (wC (joinW (x.s, x.e) (e'.s, e'.e))) 144 (0, 0)) :: (x8, Obj.cells (enC x).toArray 53 (0, 0)) :: ([(pb, Obj.cells (PtC tb mb nd cl l2.length) 89 (0, 0)), (mb, Obj.map es2 ck2)] ++ ((x3, Obj.cells (enC e').toArray 53 (0, 0)) :: ((T2 ++ T) ++ A)))) (by
      rw [hL2]
      classical
      rw [List.perm_iff_count]
      intro q
      simp only [List.count_append, List.count_cons]
      omega) ?_
    repeat (first | refine RQ ?_ | (refine WL_Q ?_; (first | refine QW_of (Qt_eqlP (p := (_, _)) (q := (_, _)) rfl) ?_ | refine QW_of (Qt_ldX rfl (hn := by with_reducible assumption)) ?_ | refine QW_of (Qt_lookVE rfl) ?_)) | refine RC ?_)
    obtain ⟨⟨w1, w2⟩, hw⟩ : ∃ w, joinW (x.s, x.e) (e'.s, e'.e) = w := ⟨_, rfl⟩
    rw [hw]
    refine WC_draw_sub (id := 8) 8 (Cs [0,1,2,3,4] <| .must 5 <| .calm 6 <| .must 7 <| .done) mixed (by kernel_rfl) (.cons_cons _ (List.nil_sublist _)) ?_
    repeat (first | refine RQr ?_ | (refine RX ?_; (first | refine QW_of (Qt_eqlP (p := (_, _)) (q := (_, _)) rfl) ?_ | refine QW_of (Qt_ldX rfl (hn := by with_reducible assumption)) ?_ | refine QW_of (Qt_lookVE rfl) ?_)) | ((first | refine WL_op rfl ?_ | refine WR_late rfl rfl rfl ?_ | refine WR_op rfl rfl ?_); (first | (refine OE ?_; try intro _)); try refine SD ?_) | refine RC ?_ | refine RU ?_ | refine WC_draw_all (id := 8) 8 (Cs [0,1,2,3,4] <| .must 5 <| .calm 6 <| .must 7 <| .done) mixed (by kernel_rfl) ?_)
    rw [show (enC e').toArray.setIfInBounds 2 (.int .i64 w1) = (enC ⟨e'.ver, e'.key, w1, e'.e, e'.side, e'.ac⟩).toArray from rfl]
    have hsz1 : (enC ⟨e'.ver, e'.key, w1, e'.e, e'.side, e'.ac⟩).toArray.size = 10 := rfl
    repeat (first | refine RQr ?_ | (refine RX ?_; (first | refine QW_of (Qt_eqlP (p := (_, _)) (q := (_, _)) rfl) ?_ | refine QW_of (Qt_ldX rfl (hn := by with_reducible assumption)) ?_ | refine QW_of (Qt_lookVE rfl) ?_)) | ((first | refine WL_op rfl ?_ | refine WR_late rfl rfl rfl ?_ | refine WR_op rfl rfl ?_); (first | (refine OE ?_; try intro _)); try refine SD ?_) | refine RC ?_ | refine RU ?_ | refine WC_draw_all (id := 8) 8 (Cs [0,1,2,3,4] <| .must 5 <| .calm 6 <| .must 7 <| .done) mixed (by kernel_rfl) ?_)
    rw [show (enC ⟨e'.ver, e'.key, w1, e'.e, e'.side, e'.ac⟩).toArray.setIfInBounds 3 (.int .i64 w2) = (enC ⟨e'.ver, e'.key, w1, w2, e'.side, e'.ac⟩).toArray from rfl]
    have hsz2 : (enC ⟨e'.ver, e'.key, w1, w2, e'.side, e'.ac⟩).toArray.size = 10 := rfl
    have hmx : AcOk x.ac := EnOk.acc (M := c.rs.length) (hE' x hxl) hxl (by rw [massW_cons] at hM'; omega)
    have hme : AcOk e'.ac := EnOk.acc (M := c.rs.length) (l := e' :: l') he' (.head _) (by omega)
    have hmm : x.ac.n + e'.ac.n ≤ 1152921504606846976 := by
      have q1 := he'.acc (M := c.rs.length) (l := e' :: l') (.head _) (by omega)
      have q2 : massW c.rs.length [x, e'] ≤ 99999 := by
        have := massW_perm (M := c.rs.length) hpl
        rw [massW_cons] at this hM'
        rw [massW_cons, massW_cons, show massW c.rs.length [] = 0 from rfl]
        omega
      rw [massW_cons, massW_cons, show massW c.rs.length [] = 0 from rfl] at q2
      unfold wtW at q2
      have r1 : x.ac.n.toNat * 1 ≤ x.ac.n.toNat * 4 ^ (c.rs.length - x.ver) := Nat.mul_le_mul_left _ (Nat.pow_pos (by decide))
      have r2 : e'.ac.n.toNat * 1 ≤ e'.ac.n.toNat * 4 ^ (c.rs.length - e'.ver) := Nat.mul_le_mul_left _ (Nat.pow_pos (by decide))
      omega
    repeat (first | refine RQr ?_ | (refine RX ?_; (first | refine QW_of (Qt_eqlP (p := (_, _)) (q := (_, _)) rfl) ?_ | refine QW_of (Qt_ldX rfl (hn := by with_reducible assumption)) ?_ | refine QW_of (Qt_lookVE rfl) ?_)) | (refine OX ?_; (first | (refine OE ?_; try intro _) | refine OW_callP rfl (hF := Merge_fn hmx hme hmm) (hk := ?_)); try refine SD ?_) | refine RC ?_ | refine RU ?_ | refine WC_draw_all (id := 8) 8 (Cs [0,1,2,3,4] <| .must 5 <| .calm 6 <| .must 7 <| .done) mixed (by kernel_rfl) ?_ | refine WG 9 ?_)
    obtain ⟨hrv, hrk, -⟩ := rW_iff.1 hrx
    have hxE := hE' x hxl
    have hadd : (⟨e'.ver, e'.key, w1, w2, e'.side, x.ac.add e'.ac⟩ : EnV) = x.add e' := by
      have h1 := hxE.side
      have h2 := he'.side
      have hw1 : w1 = min x.s e'.s := by
        have : (if e'.s < x.s then e'.s else x.s) = w1 := congrArg Prod.fst hw
        rw [← this]; split <;> omega
      have hw2 : w2 = max x.e e'.e := by
        have : (if e'.e > x.e then e'.e else x.e) = w2 := congrArg Prod.snd hw
        rw [← this]; split <;> omega
      unfold EnV.add
      rw [hw1, hw2, ← hrv, ← hrk, h1, h2, Nat.max_self, Int.max_self, Int.max_self]
    rw [show putR (enC ⟨e'.ver, e'.key, w1, w2, e'.side, e'.ac⟩).toArray 5 (agC (x.ac.add e'.ac)) = (enC ⟨e'.ver, e'.key, w1, w2, e'.side, x.ac.add e'.ac⟩).toArray from rfl, hadd]
    have hap := hA'.tail (rW_meets c) hpl
    have hone2 : ∀ y ∈ l2, rW c x y = false := (List.pairwise_cons.1 (hA'.perm (rW_meets c) hpl)).1
    refine ⟨l2.length, _, ?_, ⟨x.add e', l2, [(pb, Obj.cells (PtC tb mb nd cl l2.length) 89 (0, 0)), (mb, Obj.map es2 ck2)], T2 ++ T, rfl, hxE.add he', fun y hy => hE' y (hpl.mem_iff.2 (.tail _ hy)), hap, ?_, ?_, ?_, ?_, ?_, rfl⟩, ⟨rfl, rfl, rfl, trivial⟩, rfl, .cons _ (.cons _ (.refl _))⟩
    · have := hpl.length_eq
      rw [List.length_cons] at this
      omega
    · have q1 := massW_perm (M := c.rs.length) hpl
      have q2 := wtW_add c.rs.length x e'
      rw [massW_cons] at q1 hM' ⊢
      omega
    · show max x.ver e'.ver = e.ver
      omega
    · show max x.key e'.key = e.key
      omega
    · rw [← layL_cons_yes (rW_meets c) hrx hone2]
      exact (layL_perm (rW_meets c) hpl.symm e').trans hL'
    · rw [List.append_assoc]
      exact h3
end Go.Proofs.YtekmmhmhcpaiaaaGreat
