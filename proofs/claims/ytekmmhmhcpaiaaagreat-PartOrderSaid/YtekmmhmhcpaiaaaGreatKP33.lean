/-
  A part of what the last of these texts needs; by itself it proves no statement.
-/
import Derived.Test.YtekmmhmhcpaiaaaGreatKP32
namespace Go.Proofs.YtekmmhmhcpaiaaaGreat
open Go.RowKit
theorem caC_win {c : PtV} (hc : c.cls = 1) (e : EnV) : caC c e = caW c e := by unfold caC; rw [if_pos hc]
theorem caC_join {c : PtV} (hc : c.cls ≠ 1) (e : EnV) : caC c e = [] := by unfold caC; rw [if_neg hc]
theorem outC_win {c : PtV} (hc : c.cls = 1) (e : EnV) : outC c e = outW c e := by unfold outC; rw [if_pos hc]
theorem outC_join {c : PtV} (hc : c.cls ≠ 1) (e : EnV) : outC c e = [] := by unfold outC; rw [if_neg hc]
theorem mass_ca (c : PtV) (e : EnV) : massW c.rs.length (caC c e) ≤ wtW c.rs.length e := by
  by_cases hc : c.cls = 1
  · rw [caC_win hc]; exact massW_ca c e
  · rw [caC_join hc]; exact Nat.zero_le _
theorem LsOk.fall {c : PtV} (hk : PtOk c) {e : EnV} {l : List EnV} (h : LsOk c (e :: l)) : LsOk c (laysL (rC c) EnV.add (caC c e) l) := by
  have hm := h.mass
  rw [massW_cons] at hm
  have := mass_ca c e
  refine h.tail.lays ?_ ?_ (by omega)
  · intro x hx
    by_cases hc : c.cls = 1
    · rw [caC_win hc] at hx
      unfold EntOk
      rw [if_pos hc]
      exact EnOk.ca hk.at_ ((h.en e (.head _)).win hc) x hx
    · rw [caC_join hc] at hx
      cases hx
  · by_cases hc : c.cls = 1
    · exact .inl hc
    · right
      rw [caC_join hc]
      exact Nat.zero_le _
theorem LsOk.falls {c : PtV} (hk : PtOk c) {d : Int} {S S' : List EnV} {o : List OutV} (h : FallsC c d S S' o) : LsOk c S → LsOk c S' := by
  induction h with
  | done _ p => exact fun h => h.perm p
  | step p _ _ _ ih => exact fun h => ih (LsOk.fall hk (h.perm p))
theorem dueC_lo {c : PtV} (hk : PtOk c) {e : EnV} (he : EntOk c e) : -4398046511104 ≤ dueC c e ∧ dueC c e ≤ 4398046511104 + 4398046511104 := by
  by_cases hc : c.cls = 1
  · have h := he.win hc
    have h1 := h.s0
    have h2 := h.se
    have h3 := h.e1
    unfold dueC
    rw [if_pos hc]
    rcases dueW_cases c e with ⟨x, hx, _, hx3, _, hx5⟩ | ⟨_, hx⟩
    · have := hk.at_ x (List.mem_of_getElem? hx)
      omega
    · omega
  · have h := he.join hc
    have h1 := h.j.s0
    have h2 := h.j.s1
    have h3 := hk.a0 h.j.ver
    have h4 := h.en
    unfold dueC
    rw [if_neg hc]
    omega
attribute [local irreducible] Fn WC WL WR OW Qt YieldFn QW FnP FnD FnE
set_option maxHeartbeats 8000000 in
theorem Fire_core {pb mb tb : Nat} {nd : Int} {c : PtV} {tv : TbV} {S G F : List (Nat × Obj)} {l : List EnV} {upto : Int} (h : PtAt pb mb tb nd c.cls S G l) (ht : TabIn tb G tv) (hN : NodeIn tv nd c) (hG : ∀ q ∈ G, q ∈ F) (hk : PtOk c) (hl : LsOk c l) :
    Fn Tryz.prog 18 [.pointer (some ⟨pb, 0, none⟩), iV upto] (S ++ F) (fun v L1 => ∃ L', L'.Perm L1 ∧ ∃ S' T l' vr o is, v = .tuple #[vr, .bool is] ∧ L' = S' ++ (T ++ F) ∧ PtAt pb mb tb nd c.cls S' (T ++ G) l' ∧ VecM 6 T vr o.length (rcL o) ∧ ((is = false ∧ o = [] ∧ l' = l ∧ ∀ x ∈ l, upto < dueC c x) ∨ (is = true ∧ ∃ e l1, l.Perm (e :: l1) ∧ dueC c e ≤ upto ∧ (∀ x ∈ l1, dueC c e ≤ dueC c x) ∧ o = outC c e ∧ l' = laysL (rC c) EnV.add (caC c e) l1))) := by
  obtain ⟨es, ck, ps, rfl, hm, hr⟩ := id h.h
  have hll := hl.len
  refine Fn_enter Tryz.func18 rfl Tryz.ntmps18 rfl fun gw => ?_
  repeat (first | refine RQ ?_ | (refine WL_Q ?_; (first | refine QW_of (Qt_ldX rfl (hn := by with_reducible assumption)) ?_)) | (refine RE ?_; try intro _) | (refine WL_op rfl ?_; (first | (refine OW_call rfl (hF := Due_fn h ht hN hG (by omega)) (hk := ?_); rintro _ _ ⟨rfl, b, rfl, hbI, hbO⟩))) | refine RC ?_ | refine WG 0 ?_ | refine WG 1 ?_)
  rename_i x6
  have hbs := bestC_size b
  have hb1 := bestC_one b
  repeat (first | refine RQ ?_ | (refine WL_Q ?_; (first | refine QW_of (Qt_ldX rfl (hn := by with_reducible assumption)) ?_)) | (refine RE ?_; try intro _) | (refine WL_op rfl ?_; (first | (refine OW_call rfl (hF := Due_fn h ht hN hG (by omega)) (hk := ?_); rintro _ _ ⟨rfl, b, rfl, hbI, hbO⟩))) | refine RC ?_ | refine WG 1 ?_)
  cases b with
  | none =>
    repeat (first | refine RQ ?_ | (refine WL_Q ?_; (first | refine QW_of (Qt_ldX rfl (hn := by with_reducible assumption)) ?_)) | refine RC ?_ | refine WG 2 ?_ | refine WG 3 ?_)
    exact ⟨rfl, _, _, Res2 rfl (resV_tmp rfl) (resV_tmp rfl), .cons _ (.refl _), _, .refl _, _, [], l, _, [], false, rfl, rfl, h, VecM.nil _ _, .inl ⟨rfl, rfl, rfl, fun x hx => (hbO x hx).elim id fun ⟨e, he, _⟩ => by cases he⟩⟩
  | some be =>
    obtain ⟨hbl, hbu⟩ := hbI.h be rfl
    obtain ⟨B1, B2, hB⟩ := List.append_of_mem hbl
    obtain ⟨l1, hl1⟩ : ∃ l1, l1 = B1 ++ B2 := ⟨_, rfl⟩
    have hpl : l.Perm (be :: l1) := by rw [hB, hl1]; exact List.perm_middle
    have hmin : ∀ x ∈ l1, dueC c be ≤ dueC c x := fun x hx => by
      rcases hbO x (hpl.mem_iff.2 (.tail _ hx)) with h1 | ⟨e, he, h1⟩
      · omega
      · cases he; exact h1
    have hlp := hl.perm hpl
    have hen := hlp.en be (.head _)
    obtain ⟨hd0, hd1⟩ := dueC_lo hk hen
    rw [show bestC (some be) = (enC be).toArray from rfl, show bestD c (some be) = dueC c be from rfl] at *
    have hone := enC_one be
    have hsz : (enC be).toArray.size = 10 := rfl
    have hL2 : l.length = l1.length + 1 := by rw [hpl.length_eq]; rfl
    have ds : (!(some be).isSome) = false := rfl
    have hDu := due_fn (e := be) (L := (x6, Obj.cells (enC be).toArray 53 (0, 0)) :: ([(pb, Obj.cells (PtC tb mb nd c.cls l.length) 89 (0, 0)), (mb, Obj.map es ck)] ++ F)) (ht.mem fun q hq => .tail _ (List.mem_append_right _ (hG q hq))) hN ⟨1, rfl⟩
    repeat (first | refine RQ ?_ | (refine WL_Q ?_; (first | refine QW_of (Qt_ldX rfl (hn := by with_reducible assumption)) ?_)) | (refine WL_op rfl ?_; (first | (refine OW_call rfl (hF := hDu) (hk := ?_); rintro _ _ ⟨Td, ev, rfl, rfl, hev⟩))) | refine RC ?_ | refine WG 2 ?_ | refine WG 4 ?_)
    refine WC_wk [(10, ev), (7, iV (dueC c be)), (6, .pointer (some ⟨x6, 0, none⟩)), (4, .slice none 0 0), (5, .bool false), (0, .pointer (some ⟨pb, 0, none⟩))] ⟨rfl, rfl, rfl, rfl, rfl, rfl, trivial⟩ ?_
    refine WC_permT (L' := [(pb, Obj.cells (PtC tb mb nd c.cls l.length) 89 (0, 0)), (mb, Obj.map es ck)] ++ ((x6, Obj.cells (enC be).toArray 53 (0, 0)) :: (Td ++ F))) (by
      classical
      rw [List.perm_iff_count]
      intro q
      simp only [List.count_append, List.count_cons, List.count_nil]
      omega) ?_
    repeat (first | refine RQ ?_ | (refine WL_Q ?_; (first | refine QW_of (Qt_ldX rfl (hn := by with_reducible assumption)) ?_)) | refine RC ?_ | refine WG 5 ?_)
    have hWi := without_fn (F := (x6, Obj.cells (enC be).toArray 53 (0, 0)) :: (Td ++ F)) (e := be) (h.perm hpl) (fun q hq => .tail _ (List.mem_append_right _ (hG q hq))) (by omega)
    refine WL_op rfl (OW_call rfl (hF := hWi) (hk := ?_))
    rintro _ _ ⟨rfl, S2, T2, rfl, h2⟩
    repeat (first | refine RQ ?_ | (refine WL_Q ?_; (first | refine QW_of (Qt_ldX rfl (hn := by with_reducible assumption)) ?_)) | refine RC ?_ | refine WG 5 ?_)
    obtain ⟨es2, ck2, ps2, rfl, hm2, hr2⟩ := id h2.h
    have ht2 : TabIn tb (T2 ++ G) tv := ht.mem fun q hq => List.mem_append_right _ hq
    refine WC_permT (L' := (pb, Obj.cells (PtC tb mb nd c.cls l1.length) 89 (0, 0)) :: (mb, Obj.map es2 ck2) :: (x6, Obj.cells (enC be).toArray 53 (0, 0)) :: (Td ++ (T2 ++ F))) (by
      classical
      rw [List.perm_iff_count]
      intro q
      simp only [List.count_append, List.count_cons, List.count_nil]
      omega) ?_
    repeat (first | refine RQ ?_ | (refine WL_Q ?_; (first | refine QW_of (Qt_ldX rfl (hn := by with_reducible assumption)) ?_)) | refine RC ?_)
    by_cases hc : c.cls = 1
    rotate_left
    · have hc2 : c.cls = 2 := hk.cls.resolve_left hc
      have d : (c.cls == 2) = true := by simpa using hc2
      repeat (first | refine RQ ?_ | (refine WL_Q ?_; (first | refine QW_of (Qt_ldX rfl (hn := by with_reducible assumption)) ?_)) | refine RC ?_ | refine WG 6 ?_ | refine WG 7 ?_)
      refine ⟨rfl, _, [(pb, Obj.cells (PtC tb mb nd c.cls l1.length) 89 (0, 0)), (mb, Obj.map es2 ck2)] ++ (T2 ++ F), Res2 rfl (resV_tmp rfl) (resV_tmp rfl), ?_, _, .refl _, _, T2, l1, _, [], true, rfl, rfl, h2, VecM.nil _ _, .inr ⟨rfl, be, l1, hpl, hbu, hmin, (outC_join hc be).symm, by rw [caC_join hc]; rfl⟩⟩
      exact .cons_cons _ (.cons_cons _ (.cons _ (List.sublist_append_right _ _)))
    have d : (c.cls == 2) = false := by rw [hc]; rfl
    repeat (first | refine RQ ?_ | (refine WL_Q ?_; (first | refine QW_of (Qt_ldX rfl (hn := by with_reducible assumption)) ?_)) | refine RC ?_ | refine WG 6 ?_)
    have hEc : earlyC c be = earlyW c be := by unfold earlyC; rw [if_pos hc]
    rcases hev with ⟨hE, rfl⟩ | ⟨cm, xe, bv, hE, rfl, rfl⟩
    · have hgo : goesW c be = false := by unfold goesW; rw [← hEc, hE]
      repeat (first | refine RQ ?_ | ((first | refine WL_Q ?_ | refine WL_Y ?_); (first | refine QW_of (Qt_ldX rfl (hn := by with_reducible assumption)) ?_)) | refine RC ?_ | refine WG 8 ?_)
      obtain ⟨⟨k, a, b, g⟩, hop⟩ : ∃ o : OpV, c.op be.ver = o := ⟨_, rfl⟩
      have hbv := (hen.win hc).ver
      have hgr : 0 ≤ g ∧ g ≤ 3 := by
        have h1 := hk.may be.ver hbv
        rw [hop] at h1
        simp only [opF, Bool.and_eq_true, decide_eq_true_eq] at h1
        refine ⟨h1.1.1.2, ?_⟩
        have h2 := h1.1.2
        split at h2 <;> omega
      obtain ⟨L0, hL0⟩ : ∃ L0, L0 = (pb, Obj.cells (PtC tb mb nd c.cls l1.length) 89 (0, 0)) :: (mb, Obj.map es2 ck2) :: (x6, Obj.cells (enC be).toArray 53 (0, 0)) :: (Td ++ (T2 ++ F)) := ⟨_, rfl⟩
      have ht0 : TabIn tb L0 tv := ht.mem fun q hq => by rw [hL0]; exact .tail _ (.tail _ (.tail _ (List.mem_append_right _ (List.mem_append_right _ (hG q hq)))))
      have hp0 : L0[0]? = some (pb, Obj.cells (PtC tb mb nd c.cls l1.length) 89 (0, 0)) := by rw [hL0]; rfl
      have hp2 : L0[2]? = some (x6, Obj.cells (enC be).toArray 53 (0, 0)) := by rw [hL0]; rfl
      rw [← hL0]
      refine WC_meet (fun σ => ∃ x11, σ = ⟨[(11, .pointer (some ⟨x11, 0, none⟩)), (7, iV (dueC c be)), (6, .pointer (some ⟨x6, 0, none⟩)), (4, .slice none 0 0), (5, .bool false)], [], (x11, Obj.cells (opC k a b g) 59 (0, 0)) :: L0⟩) ?_ ?_
      · refine WC_draw_sub (id := 11) 17 (Cs [0,1,2,3,4,5,6,7,8,9] <| .either 10 (Cs [11,12,13] <| .must 14 <| .must 15 <| .calm 16 <| .done) 14 (.must 10 <| Cs [11,12,13] <| .must 15 <| .calm 16 <| .done)) mixed (by kernel_rfl) (List.Sublist.refl _) ?_
        repeat (first | refine RQr ?_ | (refine RX ?_; (first | refine QW_of (Qt_ldX rfl (hn := by with_reducible assumption)) ?_)) | ((first | refine WL_op rfl ?_ | refine WR_late rfl rfl rfl ?_ | refine WR_op rfl rfl ?_); (first | (refine OE ?_; try intro _) | refine OW_callP rfl (hF := nodeOp_fn hN hbv hop ht0) (hk := ?_) | refine OW_callP rfl (hF := nodeOp_fn hN hbv hop (ht0.mem fun _ hq => .tail _ hq)) (hk := ?_)); try refine SD ?_) | refine RC ?_ | refine RU ?_ | refine WC_draw_all (id := 11) 17 (Cs [0,1,2,3,4,5,6,7,8,9] <| .either 10 (Cs [11,12,13] <| .must 14 <| .must 15 <| .calm 16 <| .done) 14 (.must 10 <| Cs [11,12,13] <| .must 15 <| .calm 16 <| .done)) mixed (by kernel_rfl) ?_)
        refine WR_either ?_ ?_
        · repeat (first | refine RQr ?_ | (refine RX ?_; (first | refine QW_of (Qt_ldX rfl (hn := by with_reducible assumption)) ?_)) | ((first | refine WL_op rfl ?_ | refine WR_late rfl rfl rfl ?_ | refine WR_op rfl rfl ?_); (first | (refine OE ?_; try intro _) | refine OW_callP rfl (hF := nodeOp_fn hN hbv hop ht0) (hk := ?_) | refine OW_callP rfl (hF := nodeOp_fn hN hbv hop (ht0.mem fun _ hq => .tail _ hq)) (hk := ?_)); try refine SD ?_) | refine RC ?_ | refine RU ?_ | refine WC_draw_all (id := 11) 17 (Cs [0,1,2,3,4,5,6,7,8,9] <| .either 10 (Cs [11,12,13] <| .must 14 <| .must 15 <| .calm 16 <| .done) 14 (.must 10 <| Cs [11,12,13] <| .must 15 <| .calm 16 <| .done)) mixed (by kernel_rfl) ?_)
          exact ⟨_, ⟨_, rfl⟩, ⟨rfl, rfl, rfl, rfl, rfl, trivial⟩, rfl, .refl _⟩
        · repeat (first | refine RQr ?_ | (refine RX ?_; (first | refine QW_of (Qt_ldX rfl (hn := by with_reducible assumption)) ?_)) | ((first | refine WL_op rfl ?_ | refine WR_late rfl rfl rfl ?_ | refine WR_op rfl rfl ?_); (first | (refine OE ?_; try intro _) | refine OW_callP rfl (hF := nodeOp_fn hN hbv hop ht0) (hk := ?_) | refine OW_callP rfl (hF := nodeOp_fn hN hbv hop (ht0.mem fun _ hq => .tail _ hq)) (hk := ?_)); try refine SD ?_) | refine RC ?_ | refine RU ?_ | refine WC_draw_all (id := 11) 17 (Cs [0,1,2,3,4,5,6,7,8,9] <| .either 10 (Cs [11,12,13] <| .must 14 <| .must 15 <| .calm 16 <| .done) 14 (.must 10 <| Cs [11,12,13] <| .must 15 <| .calm 16 <| .done)) mixed (by kernel_rfl) ?_)
          exact ⟨_, ⟨_, rfl⟩, ⟨rfl, rfl, rfl, rfl, rfl, trivial⟩, rfl, .refl _⟩
      rintro _ ⟨x11, rfl⟩
      have hp3 : ((x11, Obj.cells (opC k a b g) 59 (0, 0)) :: L0)[3]? = some (x6, Obj.cells (enC be).toArray 53 (0, 0)) := hp2
      have hxa : (enC be).toArray.extract 5 (5 + 5) = agC be.ac := rfl
      repeat (first | refine RQ ?_ | (refine WL_Q ?_; (first | refine QW_of (Qt_ldX rfl (hn := by with_reducible assumption)) ?_)) | (refine RE ?_; try intro _) | (refine WL_op rfl ?_; (first | refine OW_callP rfl (hF := Result_fn hgr) (hk := ?_))) | refine RC ?_ | refine WG 12 ?_ | refine WG 13 ?_)
      rename_i xs
      have w : IntKind.i64.wrap (dueC c be - 1) = dueC c be - 1 := wI64 (by omega) (by omega)
      have hout : outC c be = [⟨be.key, dueC c be - 1, (resA be.ac g).1, !(resA be.ac g).2⟩] := by
        rw [outC_win hc]
        unfold outW
        rw [hgo, if_neg Bool.false_ne_true, hop]
        have : dueC c be = dueW c be := by unfold dueC; rw [if_pos hc]
        rw [this]
      rw [w]
      refine ⟨rfl, _, (xs, Obj.cells (rcC ⟨be.key, dueC c be - 1, (resA be.ac g).1, !(resA be.ac g).2⟩).toArray 35 (0, 0)) :: ([(pb, Obj.cells (PtC tb mb nd c.cls l1.length) 89 (0, 0)), (mb, Obj.map es2 ck2)] ++ (T2 ++ F)), Res2 rfl (resV_tmp rfl) (resV_tmp rfl), ?_, [(pb, Obj.cells (PtC tb mb nd c.cls l1.length) 89 (0, 0)), (mb, Obj.map es2 ck2)] ++ (((xs, Obj.cells (rcC ⟨be.key, dueC c be - 1, (resA be.ac g).1, !(resA be.ac g).2⟩).toArray 35 (0, 0)) :: T2) ++ F), List.perm_middle (l₁ := [_, _]), [(pb, Obj.cells (PtC tb mb nd c.cls l1.length) 89 (0, 0)), (mb, Obj.map es2 ck2)], (xs, Obj.cells (rcC ⟨be.key, dueC c be - 1, (resA be.ac g).1, !(resA be.ac g).2⟩).toArray 35 (0, 0)) :: T2, l1, _, [⟨be.key, dueC c be - 1, (resA be.ac g).1, !(resA be.ac g).2⟩], true, rfl, rfl, h2.mem fun q hq => .tail _ hq, ⟨rfl, _, 1, rfl, Nat.le_refl _, by decide, .inr ⟨xs, 0, _, _, _, rfl, .head _, fun j u hj => by rw [Nat.zero_add]; simpa [rcL] using hj⟩⟩, .inr ⟨rfl, be, l1, hpl, hbu, hmin, hout.symm, ?_⟩⟩
      · rw [hL0]
        exact .cons_cons _ (.cons _ (.cons_cons _ (.cons_cons _ (.cons _ (List.sublist_append_right _ _)))))
      · rw [caC_win hc]
        unfold caW
        rw [hgo]
        rfl
    · have hall : (cmC cm bv).toArray.size = 10 := rfl
      simp only [List.cons_append, List.nil_append]
      cases hmd : (cm.mode == 2)
      · have hgo : goesW c be = false := by unfold goesW; rw [← hEc, hE]; exact hmd
        repeat (first | refine RQ ?_ | ((first | refine WL_Q ?_ | refine WL_Y ?_); (first | refine QW_of (Qt_ldX rfl (hn := by with_reducible assumption)) ?_)) | refine RC ?_ | refine WG 8 ?_)
        obtain ⟨⟨k, a, b, g⟩, hop⟩ : ∃ o : OpV, c.op be.ver = o := ⟨_, rfl⟩
        have hbv := (hen.win hc).ver
        have hgr : 0 ≤ g ∧ g ≤ 3 := by
          have h1 := hk.may be.ver hbv
          rw [hop] at h1
          simp only [opF, Bool.and_eq_true, decide_eq_true_eq] at h1
          refine ⟨h1.1.1.2, ?_⟩
          have h2 := h1.1.2
          split at h2 <;> omega
        obtain ⟨L0, hL0⟩ : ∃ L0, L0 = (pb, Obj.cells (PtC tb mb nd c.cls l1.length) 89 (0, 0)) :: (mb, Obj.map es2 ck2) :: (x6, Obj.cells (enC be).toArray 53 (0, 0)) :: ((xe, Obj.cells (cmC cm bv).toArray 71 (0, 0)) :: (T2 ++ F)) := ⟨_, rfl⟩
        have ht0 : TabIn tb L0 tv := ht.mem fun q hq => by rw [hL0]; exact .tail _ (.tail _ (.tail _ (.tail _ (List.mem_append_right _ (hG q hq)))))
        have hp0 : L0[0]? = some (pb, Obj.cells (PtC tb mb nd c.cls l1.length) 89 (0, 0)) := by rw [hL0]; rfl
        have hp2 : L0[2]? = some (x6, Obj.cells (enC be).toArray 53 (0, 0)) := by rw [hL0]; rfl
        rw [← hL0]
        refine WC_meet (fun σ => ∃ x11, σ = ⟨[(11, .pointer (some ⟨x11, 0, none⟩)), (7, iV (dueC c be)), (6, .pointer (some ⟨x6, 0, none⟩)), (4, .slice none 0 0), (5, .bool false)], [], (x11, Obj.cells (opC k a b g) 59 (0, 0)) :: L0⟩) ?_ ?_
        · refine WC_draw_sub (id := 11) 17 (Cs [0,1,2,3,4,5,6,7,8,9] <| .either 10 (Cs [11,12,13] <| .must 14 <| .must 15 <| .calm 16 <| .done) 14 (.must 10 <| Cs [11,12,13] <| .must 15 <| .calm 16 <| .done)) mixed (by kernel_rfl) (List.Sublist.refl _) ?_
          repeat (first | refine RQr ?_ | (refine RX ?_; (first | refine QW_of (Qt_ldX rfl (hn := by with_reducible assumption)) ?_)) | ((first | refine WL_op rfl ?_ | refine WR_late rfl rfl rfl ?_ | refine WR_op rfl rfl ?_); (first | (refine OE ?_; try intro _) | refine OW_callP rfl (hF := nodeOp_fn hN hbv hop ht0) (hk := ?_) | refine OW_callP rfl (hF := nodeOp_fn hN hbv hop (ht0.mem fun _ hq => .tail _ hq)) (hk := ?_)); try refine SD ?_) | refine RC ?_ | refine RU ?_ | refine WC_draw_all (id := 11) 17 (Cs [0,1,2,3,4,5,6,7,8,9] <| .either 10 (Cs [11,12,13] <| .must 14 <| .must 15 <| .calm 16 <| .done) 14 (.must 10 <| Cs [11,12,13] <| .must 15 <| .calm 16 <| .done)) mixed (by kernel_rfl) ?_)
          refine WR_either ?_ ?_
          · repeat (first | refine RQr ?_ | (refine RX ?_; (first | refine QW_of (Qt_ldX rfl (hn := by with_reducible assumption)) ?_)) | ((first | refine WL_op rfl ?_ | refine WR_late rfl rfl rfl ?_ | refine WR_op rfl rfl ?_); (first | (refine OE ?_; try intro _) | refine OW_callP rfl (hF := nodeOp_fn hN hbv hop ht0) (hk := ?_) | refine OW_callP rfl (hF := nodeOp_fn hN hbv hop (ht0.mem fun _ hq => .tail _ hq)) (hk := ?_)); try refine SD ?_) | refine RC ?_ | refine RU ?_ | refine WC_draw_all (id := 11) 17 (Cs [0,1,2,3,4,5,6,7,8,9] <| .either 10 (Cs [11,12,13] <| .must 14 <| .must 15 <| .calm 16 <| .done) 14 (.must 10 <| Cs [11,12,13] <| .must 15 <| .calm 16 <| .done)) mixed (by kernel_rfl) ?_)
            exact ⟨_, ⟨_, rfl⟩, ⟨rfl, rfl, rfl, rfl, rfl, trivial⟩, rfl, .refl _⟩
          · repeat (first | refine RQr ?_ | (refine RX ?_; (first | refine QW_of (Qt_ldX rfl (hn := by with_reducible assumption)) ?_)) | ((first | refine WL_op rfl ?_ | refine WR_late rfl rfl rfl ?_ | refine WR_op rfl rfl ?_); (first | (refine OE ?_; try intro _) | refine OW_callP rfl (hF := nodeOp_fn hN hbv hop ht0) (hk := ?_) | refine OW_callP rfl (hF := nodeOp_fn hN hbv hop (ht0.mem fun _ hq => .tail _ hq)) (hk := ?_)); try refine SD ?_) | refine RC ?_ | refine RU ?_ | refine WC_draw_all (id := 11) 17 (Cs [0,1,2,3,4,5,6,7,8,9] <| .either 10 (Cs [11,12,13] <| .must 14 <| .must 15 <| .calm 16 <| .done) 14 (.must 10 <| Cs [11,12,13] <| .must 15 <| .calm 16 <| .done)) mixed (by kernel_rfl) ?_)
            exact ⟨_, ⟨_, rfl⟩, ⟨rfl, rfl, rfl, rfl, rfl, trivial⟩, rfl, .refl _⟩
        rintro _ ⟨x11, rfl⟩
        have hp3 : ((x11, Obj.cells (opC k a b g) 59 (0, 0)) :: L0)[3]? = some (x6, Obj.cells (enC be).toArray 53 (0, 0)) := hp2
        have hxa : (enC be).toArray.extract 5 (5 + 5) = agC be.ac := rfl
        repeat (first | refine RQ ?_ | (refine WL_Q ?_; (first | refine QW_of (Qt_ldX rfl (hn := by with_reducible assumption)) ?_)) | (refine RE ?_; try intro _) | (refine WL_op rfl ?_; (first | refine OW_callP rfl (hF := Result_fn hgr) (hk := ?_) | refine OW_callP rfl (hF := Result_fn hgr) (hk := ?_))) | refine RC ?_ | refine WG 12 ?_ | refine WG 13 ?_)
        rename_i xs
        have w : IntKind.i64.wrap (dueC c be - 1) = dueC c be - 1 := wI64 (by omega) (by omega)
        have hout : outC c be = [⟨be.key, dueC c be - 1, (resA be.ac g).1, !(resA be.ac g).2⟩] := by
          rw [outC_win hc]
          unfold outW
          rw [hgo, if_neg Bool.false_ne_true, hop]
          have : dueC c be = dueW c be := by unfold dueC; rw [if_pos hc]
          rw [this]
        rw [w]
        refine ⟨rfl, _, (xs, Obj.cells (rcC ⟨be.key, dueC c be - 1, (resA be.ac g).1, !(resA be.ac g).2⟩).toArray 35 (0, 0)) :: ([(pb, Obj.cells (PtC tb mb nd c.cls l1.length) 89 (0, 0)), (mb, Obj.map es2 ck2)] ++ (T2 ++ F)), Res2 rfl (resV_tmp rfl) (resV_tmp rfl), ?_, [(pb, Obj.cells (PtC tb mb nd c.cls l1.length) 89 (0, 0)), (mb, Obj.map es2 ck2)] ++ (((xs, Obj.cells (rcC ⟨be.key, dueC c be - 1, (resA be.ac g).1, !(resA be.ac g).2⟩).toArray 35 (0, 0)) :: T2) ++ F), List.perm_middle (l₁ := [_, _]), [(pb, Obj.cells (PtC tb mb nd c.cls l1.length) 89 (0, 0)), (mb, Obj.map es2 ck2)], (xs, Obj.cells (rcC ⟨be.key, dueC c be - 1, (resA be.ac g).1, !(resA be.ac g).2⟩).toArray 35 (0, 0)) :: T2, l1, _, [⟨be.key, dueC c be - 1, (resA be.ac g).1, !(resA be.ac g).2⟩], true, rfl, rfl, h2.mem fun q hq => .tail _ hq, ⟨rfl, _, 1, rfl, Nat.le_refl _, by decide, .inr ⟨xs, 0, _, _, _, rfl, .head _, fun j u hj => by rw [Nat.zero_add]; simpa [rcL] using hj⟩⟩, .inr ⟨rfl, be, l1, hpl, hbu, hmin, hout.symm, ?_⟩⟩
        · rw [hL0]
          exact .cons_cons _ (.cons _ (.cons_cons _ (.cons_cons _ (.cons _ (.cons _ (.refl _))))))
        · rw [caC_win hc]
          unfold caW
          rw [hgo]
          rfl
      · have hgo : goesW c be = true := by unfold goesW; rw [← hEc, hE]; exact hmd
        repeat (first | refine RQ ?_ | ((first | refine WL_Q ?_ | refine WL_Y ?_); (first | refine QW_of (Qt_ldX rfl (hn := by with_reducible assumption)) ?_)) | refine RC ?_ | refine WG 8 ?_ | refine WG 9 ?_)
        have hxa : (enC be).toArray.extract 5 (5 + 5) = agC be.ac := rfl
        have hbv := (hen.win hc).ver
        obtain ⟨xr, hxr, -, -, -, -⟩ := goesW_at hgo
        have hvl := (List.getElem?_eq_some_iff.1 hxr).1
        have hlen := hN.len
        have wv : IntKind.i64.wrap ((be.ver : Int) + 1) = ((be.ver + 1 : Nat) : Int) := by rw [wI64 (by omega) (by omega)]; omega
        have hdd : dueC c be = dueW c be := by unfold dueC; rw [if_pos hc]
        have hca : itsW c (be.ver + 1) be.key (dueC c be) be.ac = caC c be := by
          rw [caC_win hc]
          unfold caW
          rw [hgo, if_pos rfl, hdd]
        have hap := hlp.tail.apart
        have hrC : rC c = rW c := by unfold rC; rw [if_pos hc]
        rw [hrC] at hap
        have hcm := mass_ca c be
        have hmm := hlp.mass
        rw [massW_cons] at hmm
        rw [hxa, wv]
        have hIn := into_fn (F := (x6, Obj.cells (enC be).toArray 53 (0, 0)) :: (xe, Obj.cells (cmC cm bv).toArray 71 (0, 0)) :: (T2 ++ F)) (v := be.ver + 1) (key := be.key) (t := dueC c be) (ac := be.ac) h2 ht2 hN (fun q hq => .tail _ (.tail _ (by
          rcases List.mem_append.1 hq with hq | hq
          · exact List.mem_append_left _ hq
          · exact List.mem_append_right _ (hG q hq)))) hap (fun x hx => (hlp.tail.en x hx).win hc) (by omega) (by rw [hca, caC_win hc]; exact EnOk.ca hk.at_ (hen.win hc)) (by rw [hca]; omega)
        rw [hca] at hIn
        refine WL_op rfl (OW_call rfl (hF := hIn) (hk := ?_))
        rintro _ _ ⟨rfl, S3, T3, rfl, h3⟩
        repeat (first | refine RQ ?_ | (refine WL_Q ?_; (first | refine QW_of (Qt_ldX rfl (hn := by with_reducible assumption)) ?_)) | refine RC ?_ | refine WG 9 ?_ | refine WG 10 ?_)
        refine ⟨rfl, _, S3 ++ ((T3 ++ T2) ++ F), Res2 rfl (resV_tmp rfl) (resV_tmp rfl), ?_, _, .refl _, S3, T3 ++ T2, _, _, [], true, rfl, rfl, by rw [List.append_assoc]; exact h3, VecM.nil _ _, .inr ⟨rfl, be, l1, hpl, hbu, hmin, ?_, by rw [hrC]⟩⟩
        · rw [List.append_assoc]
          exact List.Sublist.append (.refl _) (List.Sublist.append (.refl _) (.cons _ (.cons _ (.refl _))))
        · rw [outC_win hc]
          unfold outW
          rw [hgo, if_pos rfl]
theorem Fire_fn {pb mb tb : Nat} {nd : Int} {c : PtV} {tv : TbV} {S G F : List (Nat × Obj)} {l : List EnV} {upto : Int} (h : PtAt pb mb tb nd c.cls S G l) (ht : TabIn tb G tv) (hN : NodeIn tv nd c) (hG : ∀ q ∈ G, q ∈ F) (hk : PtOk c) (hl : LsOk c l) :
    Fn Tryz.prog 18 [.pointer (some ⟨pb, 0, none⟩), iV upto] (S ++ F) (fun v L' => ∃ S' T l' vr o is, v = .tuple #[vr, .bool is] ∧ L' = S' ++ (T ++ F) ∧ PtAt pb mb tb nd c.cls S' (T ++ G) l' ∧ VecM 6 T vr o.length (rcL o) ∧ ((is = false ∧ o = [] ∧ l' = l ∧ ∀ x ∈ l, upto < dueC c x) ∨ (is = true ∧ ∃ e l1, l.Perm (e :: l1) ∧ dueC c e ≤ upto ∧ (∀ x ∈ l1, dueC c e ≤ dueC c x) ∧ o = outC c e ∧ l' = laysL (rC c) EnV.add (caC c e) l1))) := (Fire_core h ht hN hG hk hl).perm (.refl _) fun _ _ h => h
end Go.Proofs.YtekmmhmhcpaiaaaGreat
namespace Go.Proofs.YtekmmhmhcpaiaaaGreat
def w5 (M : Nat) (e : EnV) : Nat := 5 ^ (M - e.ver)
def cnt5 (M : Nat) (l : List EnV) : Nat := (l.map (w5 M)).sum
theorem cnt5_cons (M : Nat) (e : EnV) (l : List EnV) : cnt5 M (e :: l) = w5 M e + cnt5 M l := by simp [cnt5]
theorem cnt5_perm {M : Nat} {l k : List EnV} (p : l.Perm k) : cnt5 M l = cnt5 M k := (p.map _).sum_nat
theorem w5_add (M : Nat) (a b : EnV) : w5 M (a.add b) ≤ w5 M a + w5 M b := by
  have h2 : 5 ^ (M - max a.ver b.ver) ≤ 5 ^ (M - a.ver) := Nat.pow_le_pow_right (by decide) (by omega)
  exact Nat.le_trans h2 (Nat.le_add_right _ _)
theorem cnt5_filter (M : Nat) (p : EnV → Bool) : ∀ l : List EnV, cnt5 M (l.filter p) + cnt5 M (l.filter fun x => !p x) = cnt5 M l
  | [] => rfl
  | e :: l => by
    have ih := cnt5_filter M p l
    cases hp : p e
    · rw [List.filter_cons_of_neg (by rw [hp]; exact Bool.false_ne_true), List.filter_cons_of_pos (p := fun x => !p x) (by rw [hp]; rfl), cnt5_cons, cnt5_cons]
      omega
    · rw [List.filter_cons_of_pos hp, List.filter_cons_of_neg (p := fun x => !p x) (by simp [hp]), cnt5_cons, cnt5_cons]
      omega
theorem cnt5_lay (M : Nat) (r : EnV → EnV → Bool) (e : EnV) (S : List EnV) : cnt5 M (layL r EnV.add e S) ≤ w5 M e + cnt5 M S := by
  have hf : ∀ (X : List EnV) (e : EnV), w5 M (X.foldl EnV.add e) ≤ w5 M e + cnt5 M X := by
    intro X
    induction X with
    | nil => exact fun e => Nat.le_add_right _ _
    | cons x X ih =>
      intro e
      rw [List.foldl_cons, cnt5_cons]
      have := ih (e.add x)
      have := w5_add M e x
      omega
  unfold layL
  rw [cnt5_cons]
  have := hf (S.filter fun x => r e x) e
  have := cnt5_filter M (fun x => r e x) S
  omega
theorem cnt5_lays (M : Nat) (r : EnV → EnV → Bool) : ∀ (l S : List EnV), cnt5 M (laysL r EnV.add l S) ≤ cnt5 M l + cnt5 M S
  | [], S => by simp [laysL, cnt5]
  | e :: l, S => by
    have h1 := cnt5_lays M r l (layL r EnV.add e S)
    have h2 := cnt5_lay M r e S
    rw [cnt5_cons]
    show cnt5 M (laysL r EnV.add l (layL r EnV.add e S)) ≤ _
    omega
theorem cnt5_ca (c : PtV) (e : EnV) : cnt5 c.rs.length (caC c e) < w5 c.rs.length e := by
  have hp : 0 < w5 c.rs.length e := Nat.pow_pos (by decide)
  unfold caC
  split
  · unfold caW
    split
    · rename_i h
      obtain ⟨x, h1, -⟩ := goesW_at h
      have hv := (List.getElem?_eq_some_iff.1 h1).1
      have hl : ∀ l : List (Int × Int), cnt5 c.rs.length (l.map fun w => (⟨e.ver + 1, e.key, w.1, w.2, 0, e.ac⟩ : EnV)) = l.length * 5 ^ (c.rs.length - (e.ver + 1)) := by
        intro l
        induction l with
        | nil => simp [cnt5]
        | cons w l ih =>
          rw [List.map_cons, cnt5_cons, ih, List.length_cons, Nat.succ_mul]
          simp only [w5]
          omega
      unfold itsW
      rw [hl]
      have h3 : c.rs.length - e.ver = (c.rs.length - (e.ver + 1)) + 1 := by omega
      have h4 := wOut_len (c.op (e.ver + 1)).1 (c.op (e.ver + 1)).2.1 (c.op (e.ver + 1)).2.2.1 (c.op (e.ver + 1)).2.2.2 (dueW c e)
      have h5 : 0 < 5 ^ (c.rs.length - (e.ver + 1)) := Nat.pow_pos (by decide)
      unfold w5
      rw [h3, Nat.pow_succ]
      have h6 := Nat.mul_le_mul_right (5 ^ (c.rs.length - (e.ver + 1))) h4
      omega
    · exact hp
  · exact hp
theorem cnt5_fall {c : PtV} {l l1 : List EnV} {e : EnV} (p : l.Perm (e :: l1)) : cnt5 c.rs.length (laysL (rC c) EnV.add (caC c e) l1) < cnt5 c.rs.length l := by
  have h1 := cnt5_lays c.rs.length (rC c) (caC c e) l1
  have h2 := cnt5_ca c e
  rw [cnt5_perm p, cnt5_cons]
  omega
def lessO (a b : OutV) : Bool := if a.time ≠ b.time then decide (a.time < b.time) else if a.key ≠ b.key then decide (a.key < b.key) else if a.val ≠ b.val then decide (a.val < b.val) else !a.err && b.err
theorem lessO_iff {a b : OutV} : lessO a b = true ↔ a.time < b.time ∨ (a.time = b.time ∧ (a.key < b.key ∨ (a.key = b.key ∧ (a.val < b.val ∨ (a.val = b.val ∧ a.err = false ∧ b.err = true))))) := by
  unfold lessO
  by_cases h1 : a.time = b.time
  · rw [if_neg (fun h => h h1)]
    by_cases h2 : a.key = b.key
    · rw [if_neg (fun h => h h2)]
      by_cases h3 : a.val = b.val
      · rw [if_neg (fun h => h h3)]
        cases a.err <;> cases b.err <;> simp [h1, h2, h3]
      · rw [if_pos h3, decide_eq_true_iff]
        constructor
        · exact fun h => .inr ⟨h1, .inr ⟨h2, .inl h⟩⟩
        · rintro (h | ⟨_, h | ⟨_, h | ⟨h, _⟩⟩⟩)
          · omega
          · omega
          · exact h
          · exact absurd h h3
    · rw [if_pos h2, decide_eq_true_iff]
      constructor
      · exact fun h => .inr ⟨h1, .inl h⟩
      · rintro (h | ⟨_, h | ⟨h, _⟩⟩)
        · omega
        · exact h
        · exact absurd h h2
  · rw [if_pos h1, decide_eq_true_iff]
    constructor
    · exact fun h => .inl h
    · rintro (h | ⟨h, _⟩)
      · exact h
      · exact absurd h h1
theorem lessO_trans {a b c : OutV} (h1 : lessO a b = true) (h2 : lessO b c = true) : lessO a c = true := by
  rw [lessO_iff] at h1 h2 ⊢
  rcases h1 with h1 | ⟨h1, h1 | ⟨h1', h1 | ⟨h1'', h1a, h1b⟩⟩⟩
  · rcases h2 with h2 | ⟨h2, _⟩
    · exact .inl (by omega)
    · exact .inl (by omega)
  · rcases h2 with h2 | ⟨h2, h2 | ⟨h2', _⟩⟩
    · exact .inl (by omega)
    · exact .inr ⟨by omega, .inl (by omega)⟩
    · exact .inr ⟨by omega, .inl (by omega)⟩
  · rcases h2 with h2 | ⟨h2, h2 | ⟨h2', h2 | ⟨h2'', _⟩⟩⟩
    · exact .inl (by omega)
    · exact .inr ⟨by omega, .inl (by omega)⟩
    · exact .inr ⟨by omega, .inr ⟨by omega, .inl (by omega)⟩⟩
    · exact .inr ⟨by omega, .inr ⟨by omega, .inl (by omega)⟩⟩
  · rcases h2 with h2 | ⟨h2, h2 | ⟨h2', h2 | ⟨h2'', h2a, _⟩⟩⟩
    · exact .inl (by omega)
    · exact .inr ⟨by omega, .inl (by omega)⟩
    · exact .inr ⟨by omega, .inr ⟨by omega, .inl (by omega)⟩⟩
    · rw [h1b] at h2a; cases h2a
theorem lessO_total {a b : OutV} (h1 : lessO a b = false) (h2 : lessO b a = false) : a = b := by
  have h1 : ¬ lessO a b = true := by rw [h1]; exact Bool.false_ne_true
  have h2 : ¬ lessO b a = true := by rw [h2]; exact Bool.false_ne_true
  rw [lessO_iff] at h1 h2
  obtain ⟨k, t, v, e⟩ := a
  obtain ⟨k', t', v', e'⟩ := b
  dsimp only at h1 h2
  have e1 : t = t' := by omega
  subst e1
  have e2 : k = k' := by omega
  subst e2
  have e3 : v = v' := by omega
  subst e3
  cases e <;> cases e'
  · rfl
  · exact absurd (.inr ⟨rfl, .inr ⟨rfl, .inr ⟨rfl, rfl, rfl⟩⟩⟩) h1
  · exact absurd (.inr ⟨rfl, .inr ⟨rfl, .inr ⟨rfl, rfl, rfl⟩⟩⟩) h2
  · rfl
theorem lessO_irr (a : OutV) : lessO a a = false := by
  cases h : lessO a a
  · rfl
  · rw [lessO_iff] at h
    rcases h with h | ⟨_, h | ⟨_, h | ⟨_, h1, h2⟩⟩⟩
    · omega
    · omega
    · omega
    · rw [h1] at h2; cases h2
theorem lessO_asymm {a b : OutV} (h : lessO a b = true) : lessO b a = false := by
  cases h2 : lessO b a
  · rfl
  · have := lessO_trans h h2
    rw [lessO_irr] at this
    cases this
def SortedO (l : List OutV) : Prop := l.Pairwise fun a b => lessO b a = false
theorem le_less {x y z : OutV} (h1 : lessO y x = false) (h2 : lessO y z = true) : lessO x z = true := by
  by_cases h : x = y
  · rw [h]; exact h2
  · cases hxy : lessO x y
    · exact absurd (lessO_total hxy h1) h
    · exact lessO_trans hxy h2
theorem SortedO.ins {zs : List OutV} (h : SortedO zs) {k : Nat} {x : OutV} (hd : ∀ y ∈ zs.drop k, lessO x y = true) (ht : k = 0 ∨ ∃ y, zs[k - 1]? = some y ∧ lessO x y = false) : SortedO (zs.take k ++ x :: zs.drop k) := by
  have hsp : SortedO (zs.take k ++ zs.drop k) := by rw [List.take_append_drop]; exact h
  obtain ⟨h1, h2, h3⟩ := List.pairwise_append.1 hsp
  refine List.pairwise_append.2 ⟨h1, List.pairwise_cons.2 ⟨fun y hy => lessO_asymm (hd y hy), h2⟩, fun a ha b hb => ?_⟩
  rcases List.mem_cons.1 hb with rfl | hb
  · rcases ht with rfl | ⟨y, hy, hxy⟩
    · simp at ha
    · by_cases hay : a = y
      · rw [hay]; exact hxy
      · have hk : k ≠ 0 := by
          rintro rfl
          simp at ha
        have hkl : k - 1 < zs.length := (List.getElem?_eq_some_iff.1 hy).1
        have e : zs.take k = zs.take (k - 1) ++ [y] := by
          rw [show k = k - 1 + 1 by omega, List.take_add_one, Nat.add_sub_cancel, hy]; rfl
        rw [e] at ha
        rcases List.mem_append.1 ha with ha | ha
        · have h4 : lessO y a = false := by
            rw [e] at h1
            exact (List.pairwise_append.1 h1).2.2 a ha y (.head _)
          cases hxa : lessO b a
          · rfl
          · have := le_less (x := y) (y := b) (z := a) hxy hxa
            rw [h4] at this
            cases this
        · exact absurd (List.mem_singleton.1 ha) hay
  · exact h3 a ha b hb
theorem SortedO.same : ∀ {l k : List OutV}, SortedO l → SortedO k → l.Perm k → l = k
  | [], k, _, _, p => (p.symm.eq_nil).symm
  | a :: l, [], _, _, p => absurd p.length_eq (by simp)
  | a :: l, b :: k, hl, hk, p => by
    obtain ⟨h1, h2⟩ := List.pairwise_cons.1 hl
    obtain ⟨h3, h4⟩ := List.pairwise_cons.1 hk
    have hab : a = b := by
      rcases List.mem_cons.1 (p.mem_iff.1 (.head _)) with h | h
      · exact h
      rcases List.mem_cons.1 (p.mem_iff.2 (.head _)) with h' | h'
      · exact h'.symm
      exact lessO_total (h3 a h) (h1 b h')
    subst hab
    rw [SortedO.same h2 h4 p.cons_inv]
end Go.Proofs.YtekmmhmhcpaiaaaGreat
