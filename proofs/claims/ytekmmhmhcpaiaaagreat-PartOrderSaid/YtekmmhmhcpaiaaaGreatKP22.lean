/-
  A part of what the last of these texts needs; by itself it proves no statement.
-/
import Derived.Maps.RangeRun
import Derived.Test.YtekmmhmhcpaiaaaGreatKP21
namespace Go.Proofs.YtekmmhmhcpaiaaaGreat
open Go.RowKit
theorem opL_ext {cc : Array Value} {off : Nat} {nodes : List OpV} (hcc : ∀ (j : Nat) (x : Value), (opL nodes)[j]? = some x → cc[off + j]? = some x) {k : Nat} {o : OpV} (hk : nodes[k]? = some o) : cc.extract (off + k * 4) (off + k * 4 + 4) = opC o.1 o.2.1 o.2.2.1 o.2.2.2 ∧ off + k * 4 + 4 ≤ cc.size :=
  ext_of (l := [iV o.1, iV o.2.1, iV o.2.2.1, iV o.2.2.2]) rfl (by decide) fun j hj => by
    have h4 := opL_at hk
    have h3 : ([iV o.1, iV o.2.1, iV o.2.2.1, iV o.2.2.2] : List Value)[j]? = some (([iV o.1, iV o.2.1, iV o.2.2.1, iV o.2.2.2] : List Value)[j]'hj) := List.getElem?_eq_getElem _
    rw [h3, Nat.add_assoc]
    apply hcc
    rw [← h3, ← h4, List.getElem?_take_of_lt hj, List.getElem?_drop]
def opAtF (t : TbV) (n k : Int) : Option OpV := if 0 ≤ n ∧ n ≤ (t.nodes.length : Int) - 1 then (if k = 0 then t.nodes[n.toNat]? else (nextF t n (IntKind.i64.wrap (k - 1))).map CmV.op) else none
theorem spL_ext {cc : Array Value} {off : Nat} {row : List (Int × Int)} (hcc : ∀ (j : Nat) (x : Value), (spL row)[j]? = some x → cc[off + j]? = some x) {k : Nat} {q : Int × Int} (hk : row[k]? = some q) : cc.extract (off + k * 2) (off + k * 2 + 2) = #[iV q.1, iV q.2] ∧ off + k * 2 + 2 ≤ cc.size :=
  ext_of (l := [iV q.1, iV q.2]) rfl (by decide) fun j hj => by
    obtain ⟨h1, h2⟩ := spL_at hk
    have hc : j = 0 ∨ j = 1 := by omega
    rcases hc with rfl | rfl
    · exact hcc _ _ h1
    · rw [Nat.add_assoc]; exact hcc _ _ h2
attribute [local irreducible] Fn WC WL WR OW Qt YieldFn QW FnP FnD FnE
set_option maxHeartbeats 4000000 in
theorem op_fn {tb : Nat} {t : TbV} {n k : Int} {L : List (Nat × Obj)} (h : TabIn tb L t) (hrl : t.repl.length = t.nodes.length) : Fn Tryz.prog 23 [.pointer (some ⟨tb, 0, none⟩), iV n, iV k] L (fun v L' => v = .tuple #[.agg (opC ((opAtF t n k).getD (0, 0, 0, 0)).1 ((opAtF t n k).getD (0, 0, 0, 0)).2.1 ((opAtF t n k).getD (0, 0, 0, 0)).2.2.1 ((opAtF t n k).getD (0, 0, 0, 0)).2.2.2), .bool (opAtF t n k).isSome] ∧ L' = L) := by
  obtain ⟨cs, cv, sv, av, nv, rv, lc, h1, h2, h3, h4, h5, h6, h7, vs, h8, h9⟩ := h.h
  obtain ⟨i, hi⟩ := List.mem_iff_getElem?.1 h1
  obtain ⟨_, an, capn, rfl, _, hmn, _⟩ := id h7
  have hcn := h2.n
  have wn : IntKind.i64.wrap (((t.nodes.length : Nat) : Int) - 1) = ((t.nodes.length : Nat) : Int) - 1 := wI64 (by omega) (by simp only [maxLen] at hmn; omega)
  refine Fn_enter Tryz.func23 rfl Tryz.ntmps23 rfl fun g => ?_
  repeat (first | refine RQ ?_ | (refine WL_Q ?_; (first | refine QW_of (Qt_ldX rfl (hn := by with_reducible assumption)) ?_)) | (refine RE ?_; try intro _) | refine RC ?_ | refine WG 0 ?_)
  rename_i x6
  have hi' : ((x6, Obj.cells zc59 59 (0, 0)) :: L)[i + 1]? = some (tb, .cells cs 107 (0, 0)) := hi
  by_cases hb : 0 ≤ n ∧ n ≤ (t.nodes.length : Int) - 1
  rotate_left
  · have d : (!decide (0 ≤ n ∧ n ≤ IntKind.i64.wrap (((t.nodes.length : Nat) : Int) - 1))) = true := by rw [wn, decide_eq_false hb]; rfl
    have e1 : opAtF t n k = none := if_neg hb
    repeat (first | refine RQ ?_ | ((first | refine WL_Q ?_ | refine WL_Y ?_); (first | refine QW_of (Qt_ldX rfl (hn := by with_reducible assumption)) ?_)) | (refine RE ?_; try intro _) | ((first | refine WL_op rfl ?_ | refine WL_yes (h := ?_)); (first | refine OW_callP rfl (hF := within_fn) (hk := ?_))) | refine RC ?_ | refine WG 1 ?_ | refine WG 2 ?_)
    rw [e1]
    exact ⟨rfl, _, _, Res2 rfl (resV_cellN rfl 0 rfl rfl) (resV_tmp rfl), .cons _ (.refl _), rfl, rfl⟩
  have d : (!decide (0 ≤ n ∧ n ≤ IntKind.i64.wrap (((t.nodes.length : Nat) : Int) - 1))) = false := by rw [wn, decide_eq_true hb]; rfl
  by_cases hk : k = 0
  · subst hk
    have d2 : ((0 : Int) == 0) = true := rfl
    obtain ⟨o, ho⟩ : ∃ o, t.nodes[n.toNat]? = some o := ⟨_, List.getElem?_eq_getElem (by omega)⟩
    obtain ⟨rb, ro, rc, rcs, rE, rfr, ri, e, _, _, hri, hrx⟩ := (h7.mem (G' := (x6, Obj.cells zc59 59 (0, 0)) :: L) fun _ h => .tail _ h).cell (by omega)
    cases e
    obtain ⟨hx1, hx2⟩ := opL_ext hrx ho
    have p0 : (0 : Int) ≤ n := hb.1
    have p1 : n < ((t.nodes.length : Nat) : Int) := by omega
    have e1 : opAtF t n 0 = some o := by rw [opAtF, if_pos hb, if_pos rfl, ho]
    repeat (first | refine RQ ?_ | ((first | refine WL_Q ?_ | refine WL_Y ?_); (first | refine QW_of (Qt_ldX rfl (hn := by with_reducible assumption)) ?_)) | (refine RE ?_; try intro _) | ((first | refine WL_op rfl ?_ | refine WL_yes (h := ?_)); (first | refine OW_callP rfl (hF := within_fn) (hk := ?_))) | refine RC ?_ | refine WG 1 ?_ | refine WG 3 ?_ | refine WG 4 ?_)
    rw [hx1]
    repeat (first | refine RQ ?_ | (refine WL_Q ?_; (first | refine QW_of (Qt_ldX rfl (hn := by with_reducible assumption)) ?_)) | (refine RE ?_; try intro _) | refine RC ?_ | refine WG 4 ?_)
    rw [e1]
    exact ⟨rfl, _, _, Res2 rfl (resV_cellN rfl 0 rfl rfl) (resV_tmp rfl), .cons _ (.refl _), rfl, rfl⟩
  · have d2 : (k == 0) = false := by simpa using hk
    have e1 : opAtF t n k = (nextF t n (IntKind.i64.wrap (k - 1))).map CmV.op := by rw [opAtF, if_pos hb, if_neg hk]
    repeat (first | refine RQ ?_ | ((first | refine WL_Q ?_ | refine WL_Y ?_); (first | refine QW_of (Qt_ldX rfl (hn := by with_reducible assumption)) ?_)) | (refine RE ?_; try intro _) | ((first | refine WL_op rfl ?_ | refine WL_yes (h := ?_)); (first | refine OW_callP rfl (hF := within_fn) (hk := ?_) | (refine OW_call rfl (hF := next_fn (h.mem fun _ h => .tail _ h) hrl) (hk := ?_); rintro _ _ ⟨⟨bv, hcm, rfl⟩, rfl⟩))) | refine RC ?_ | refine WG 1 ?_ | refine WG 3 ?_ | refine WG 5 ?_)
    have hall := hcm.all
    obtain ⟨c, hc⟩ : ∃ c, c = (nextF t n (IntKind.i64.wrap (k - 1))).getD zeroC := ⟨_, rfl⟩
    rw [← hc] at hall hcm ⊢
    have hxo : (cmC c bv).toArray.extract 5 (5 + 4) = opC c.op.1 c.op.2.1 c.op.2.2.1 c.op.2.2.2 := rfl
    have hxs : 5 + 4 ≤ (cmC c bv).toArray.size := Nat.le_of_ble_eq_true rfl
    repeat (first | refine RQ ?_ | (refine WL_Q ?_; (first | refine QW_of (Qt_ldX rfl (hn := by with_reducible assumption)) ?_)) | (refine RE ?_; try intro _) | (refine WL_op rfl ?_; (first | (refine OW_call rfl (hF := next_fn (h.mem fun _ h => .tail _ h) hrl) (hk := ?_); rintro _ _ ⟨⟨bv, hcm, rfl⟩, rfl⟩))) | refine RC ?_ | refine WG 5 ?_ | refine WG 6 ?_)
    have e2 : (opAtF t n k).getD (0, 0, 0, 0) = c.op := by
      rw [e1, hc]
      cases nextF t n (IntKind.i64.wrap (k - 1)) <;> rfl
    have e3 : (opAtF t n k).isSome = (nextF t n (IntKind.i64.wrap (k - 1))).isSome := by rw [e1, Option.isSome_map]
    rw [e2, e3]
    exact ⟨rfl, _, _, Res2 rfl (resV_cellN rfl 1 rfl rfl) (resV_tmp rfl), .cons _ (.cons _ (.refl _)), rfl, rfl⟩
end Go.Proofs.YtekmmhmhcpaiaaaGreat
namespace Go.Proofs.YtekmmhmhcpaiaaaGreat
open Go.RowKit
def RowsAt (G : List (Nat × Obj)) (rs : List (Value × List (Nat × Obj))) (repl : List (List CmV)) : Prop := ∃ lrs : List (List (List Value)), Rows 71 10 rs (lrs.map List.flatten) ∧ lrs.length = repl.length ∧ ∀ (k : Nat) (l : List (List Value)) (row : List CmV), lrs[k]? = some l → repl[k]? = some row → CmsAt G l row
theorem RowsAt.mem {G G' : List (Nat × Obj)} {rs : List (Value × List (Nat × Obj))} {repl : List (List CmV)} (h : RowsAt G rs repl) (hs : ∀ q ∈ G, q ∈ G') : RowsAt G' rs repl := by
  obtain ⟨lrs, h1, h2, h3⟩ := h
  exact ⟨lrs, h1, h2, fun k l row q1 q2 => (h3 k l row q1 q2).mem hs⟩
structure TabAt (tb : Nat) (S G : List (Nat × Obj)) (t : TbV) : Prop where
  h : ∃ cs cv sv av nv rb lc Tc rs, S = (tb, Obj.cells cs 107 (0, 0)) :: (Tc ++ (rb, Obj.cells (rs.map Prod.fst).toArray 102 (0, 0)) :: rowsL rs) ∧ TabC cs t.cf cv sv av nv (.slice (some ⟨rb, 0, none⟩) t.repl.length t.repl.length) ∧ Buf 71 10 cv Tc t.cmds.length lc.flatten ∧ CmsAt G lc t.cmds ∧ SpIn G sv t.spans ∧ VecM 1 G av t.act.length (t.act.map iV) ∧ VecM 4 G nv t.nodes.length (opL t.nodes) ∧ RowsAt G rs t.repl ∧ t.repl.length ≤ maxLen
theorem RowsAt.rows {G : List (Nat × Obj)} {rs : List (Value × List (Nat × Obj))} {repl : List (List CmV)} (h : RowsAt G rs repl) : rs.length = repl.length := by
  obtain ⟨lrs, ⟨h1, _⟩, h2, _⟩ := h
  rw [h1, List.length_map, h2]
theorem TabAt.tabIn {tb : Nat} {S G L : List (Nat × Obj)} {t : TbV} (h : TabAt tb S G t) (hS : ∀ q ∈ S, q ∈ L) (hG : ∀ q ∈ G, q ∈ L) : TabIn tb L t := by
  obtain ⟨cs, cv, sv, av, nv, rb, lc, Tc, rs, rfl, h1, h2, h3, h4, h5, h6, h7, hmx⟩ := h.h
  have hrl := h7.rows
  obtain ⟨lrs, r1, r2, r3⟩ := h7
  refine ⟨cs, cv, sv, av, nv, _, lc, hS _ (.head _), h1, h2.vecM.mem (fun q hq => hS _ (.tail _ (List.mem_append_left _ hq))), h3.mem hG, fun b hb => ?_, h5.mem hG, h6.mem hG, rs.map Prod.fst, ⟨by simp [hrl], _, _, rfl, Nat.le_refl _, hmx, .inr ⟨rb, 0, _, 102, (0, 0), rfl, hS _ (.tail _ (List.mem_append_right _ (.head _))), fun j x hx => by rw [Nat.zero_add]; simpa using hx⟩⟩, fun k row hk => ?_⟩
  · obtain ⟨row, q1, q2, q3⟩ := h4.2 b hb
    exact ⟨row, q1, q2, q3.mem hG⟩
  · obtain ⟨l, hl⟩ : ∃ l, lrs[k]? = some l := ⟨_, List.getElem?_eq_getElem (by rw [r2]; exact (List.getElem?_eq_some_iff.1 hk).1)⟩
    have hcm := r3 k l row hl hk
    obtain ⟨v, T, n, q1, q2⟩ := r1.at (k := k) (xs := l.flatten) (by rw [List.getElem?_map, hl]; rfl)
    have hn : n = row.length := by have := q2.len; rw [hcm.flat] at this; omega
    subst hn
    refine ⟨v, l, by rw [List.getElem?_map, q1]; rfl, q2.vecM.mem (fun q hq => hS _ (.tail _ (List.mem_append_right _ (.tail _ ?_)))), hcm.mem hG⟩
    exact List.mem_flatMap.2 ⟨(v, T), List.mem_of_getElem? q1, hq⟩
end Go.Proofs.YtekmmhmhcpaiaaaGreat
namespace Go.Proofs.YtekmmhmhcpaiaaaGreat
open Go.RowKit
set_option maxHeartbeats 4000000 in
theorem WC_rangeX {α : Type} {P : Program} {g : World} {N n : Nat} {x : Operand} {ps : Array Nat} {assign body : Code} {K : Exit → St → Prop} {s : List (Nat × Value)} {D : List Deferred} {L : List (Nat × Obj)} {gf : Nat} {fs lb : Array Value} [hf : FCall P gf]
    (hx : ev s x = some (.func (.func gf) fs lb)) (enc : α → List Value) (hps : ∀ y, (enc y).length = ps.size) (hpn : (ps.toList.all fun p => Nat.blt p N) = true)
    (Dom : List α → α → Prop) (Fin : List α → Prop) (I : List α → List (Nat × Obj) → Prop) (Ix : Code → List (Nat × Obj) → Prop)
    (hit : ∀ (l d : Nat) (o1 o2 : Obj) (Jx : List (Nat × Obj) → Prop),
      (∀ X pre y L', Dom pre y → I pre L' → YieldFn P l (enc y) ((l, o1) :: (d, o2) :: (L' ++ X)) (fun v L2 => (v = .bool true ∧ ∃ L'', L2 = (l, o1) :: (d, o2) :: (L'' ++ X) ∧ I (pre ++ [y]) L'') ∨ (v = .bool false ∧ Jx L2))) →
      Fn P gf (fs.toList ++ [.func (.yield l) #[] #[]] ++ lb.toList) ((l, o1) :: (d, o2) :: L) (fun _ L2 => (∃ xs L', Fin xs ∧ L2 = (l, o1) :: (d, o2) :: L' ∧ I xs L') ∨ Jx L2))
    (hbody : ∀ X g' n' l d pre y L', Dom pre y → I pre L' → RoundOk ⟨P, g', N, n', none⟩ l d assign body ⟨zipS ps.toList (enc y) s, [], L' ++ X⟩ (L' ++ X) (fun L3 => ∃ L'', L3 = L'' ++ X ∧ I (pre ++ [y]) L'') Ix)
    (hdone : ∀ d xs L', Fin xs → I xs L' → K .normal ⟨s, markD d :: D, (d, .deferred (some [])) :: L'⟩)
    (hstop : ∀ d cj L', Ix cj L' → WC ⟨P, g, N, n, none⟩ cj K ⟨s, markD d :: D, (d, .deferred (some [])) :: L'⟩) :
    WC ⟨P, g, N, n, none⟩ (.rangeFunc x ps assign body) K ⟨s, D, L⟩ := fun a w ha => by
  refine wpIn_rangeFunc ?_
  intro fn _
  obtain ⟨rec, hrec⟩ : ∃ rec : LoopState → Option Code → Loop, rec = fun st pe => { state := st, pending := pe, fn, tmps := a.tmps, params := ps, assign, body, defers := w.heap.size } := ⟨_, rfl⟩
  obtain ⟨W1, hW1⟩ : ∃ W1, (w.alloc (.deferred (some []))).alloc (.loop (rec .ready none)) = W1 := ⟨_, rfl⟩
  have hm1 : Mem g ((w.heap.size + 1, .loop (rec .ready none)) :: (w.heap.size, .deferred (some [])) :: L) W1 := by
    have := (ha.mem.alloc (.deferred (some []))).alloc (.loop (rec .ready none))
    rw [World.size_alloc] at this
    rw [← hW1]; exact this
  refine ⟨w.heap.size + 1, [markD w.heap.size], W1, { target := .fn (.func gf) lb, args := fs ++ #[.func (.yield (w.heap.size + 1)) #[] #[]] }, W1, gf, fs ++ #[.func (.yield (w.heap.size + 1)) #[] #[]] ++ lb, W1, ?_, ?_, fun _ _ => trivial, ?_, fun h => by simp at h, ?_⟩
  · rw [← hW1, hrec]; exact run_enterLoop_outer _ _ _ _ _
  · have := ha.ev hx
    simp [resolve, this, Deferred.ofValue, show ∀ v, a.eval (.const v) = v from fun _ => rfl]
  · simp [invoke, hf.h]
  · generalize hl : w.heap.size + 1 = l at hm1 ⊢
    generalize hd : w.heap.size = d at hm1 ⊢
    let Jx : List (Nat × Obj) → Prop := fun L2 => ∃ cj L', L2 = (l, .loop (rec .done (some cj))) :: (d, .deferred (some [])) :: L' ∧ Ix cj L'
    have hcall := hit l d (.loop (rec .ready none)) (.deferred (some [])) Jx ?_
    · have e : (fs.toList ++ [Value.func (.yield l) #[] #[]] ++ lb.toList).toArray = fs ++ #[.func (.yield l) #[] #[]] ++ lb := by apply Array.ext'; simp
      have hc := callsIn_fw none (n - 1) (hcall g W1 hm1)
      rw [e] at hc
      refine hc.mono fun e w' ⟨v, L2, h1, h2, h3⟩ => ?_
      subst h1
      rcases h3 with ⟨xs, L', hfin, rfl, hI⟩ | ⟨cj, L', rfl, hI⟩
      · have hlp := h2.at_ (i := 0) rfl
        have hpd : (rec .ready none).pending = none := by rw [hrec]
        obtain ⟨w4, hen, hm4⟩ : ∃ w4, (Instr.endLoop l).run P w' = .ok (rec .ready none).pending w4 ∧ Mem g ((d, .deferred (some [])) :: L') w4 :=
          ⟨_, run_endLoop (P := P) hlp (by rw [hrec]; simp), (h2.putObj (i := 0) rfl (.loop { rec .ready none with state := .exhausted })).sublist (.cons _ (.refl _))⟩
        rw [hpd] at hen
        exact ⟨none, w4, hen, ⟨s, markD d :: D, (d, .deferred (some [])) :: L'⟩, ⟨ha.size, ha.slots, by show markD d :: a.defers = _; rw [ha.defers], hm4⟩, hdone d xs L' hfin hI⟩
      · have hlp := h2.at_ (i := 0) rfl
        have hpd : (rec .done (some cj)).pending = some cj := by rw [hrec]
        obtain ⟨w4, hen, hm4⟩ : ∃ w4, (Instr.endLoop l).run P w' = .ok (rec .done (some cj)).pending w4 ∧ Mem g ((d, .deferred (some [])) :: L') w4 :=
          ⟨_, run_endLoop (P := P) hlp (by rw [hrec]; simp), (h2.putObj (i := 0) rfl (.loop { rec .done (some cj) with state := .exhausted })).sublist (.cons _ (.refl _))⟩
        rw [hpd] at hen
        exact ⟨some cj, w4, hen, hstop d cj L' hI _ _ ⟨ha.size, ha.slots, by show markD d :: a.defers = _; rw [ha.defers], hm4⟩⟩
    · -- one round
      rintro X pre y L' hdom hI g2 w2 m hm
      have hy := run_yield (P := P) (w := w2) (args := (enc y).toArray) (hm.at_ (i := 0) rfl) (by rw [hrec]; simpa using hps y)
      have e1 : (rec .ready none).fn = fn ∧ (rec .ready none).assign = assign ∧ (rec .ready none).body = body ∧ (rec .ready none).params = ps ∧ (rec .ready none).tmps = a.tmps := by rw [hrec]; exact ⟨rfl, rfl, rfl, rfl, rfl⟩
      rw [e1.1, e1.2.1, e1.2.2.1, e1.2.2.2.1, e1.2.2.2.2] at hy
      refine ⟨fn, _, assign, body, hy, roundIn_of_wpIn trivial ?_⟩
      have hz := holds_zip (g := g2) (w := w2) (N := N) (D := []) (L := (l, .loop (rec .ready none)) :: (d, .deferred (some [])) :: (L' ++ X)) ps.toList (enc y) s { tmps := a.tmps, defers := [] } hpn ⟨ha.size, ha.slots, rfl, hm⟩
      have e2 : (ps.toList.zip (enc y)).foldl (fun t (q : Nat × Value) => t.setIfInBounds q.1 q.2) a.tmps = (ps.zip (enc y).toArray).foldl (fun tmps (q : Nat × Value) => tmps.setIfInBounds q.1 q.2) a.tmps := by
        rw [← Array.foldl_toList, Array.toList_zip]
      simp only [e2] at hz
      refine Go.wpIn_mono (hbody X g2 m l d pre y L' hdom hI (.loop (rec .ready none)) (.deferred (some [])) ⟨_, rfl⟩ _ w2 hz) (fun e a3 w3 hl3 => ?_)
      cases e with
      | normal =>
        obtain ⟨σ', hH, _, s', A, B, rfl, hnext⟩ := hl3
        have hat : (A ++ (l, Obj.loop (rec .ready none)) :: B)[A.length]? = some (l, .loop (rec .ready none)) := by simp
        have hlp := hH.mem.at_ hat
        have hb := run_beginRound (P := P) hlp (by rw [hrec])
        refine ⟨_, hb, ?_⟩
        have hm4 := hH.mem.putObj hat (.loop { rec .ready none with state := .busy })
        have e3 : (A ++ (l, Obj.loop (rec .ready none)) :: B).set A.length (l, .loop { rec .ready none with state := .busy }) = A ++ (l, .loop { rec .ready none with state := .busy }) :: B := by simp
        simp only [e3] at hm4
        have hH4 : Holds g2 N ⟨s', [], A ++ (l, .loop { rec .ready none with state := .busy }) :: B⟩ a3 _ := ⟨hH.size, hH.slots, hH.defers, hm4⟩
        refine Go.wpIn_mono (hnext _ ⟨_, rfl⟩ _ _ hH4) (fun e a5 w5 hl5 => ?_)
        have fin : ∀ (jump : Option Code) (L'' : List (Nat × Obj)), Mem g2 ((l, .loop { rec .ready none with state := .busy }) :: (d, .deferred (some [])) :: L'') w5 →
            ∃ w6, (Instr.endRound l jump).run P w5 = .ok (.bool jump.isNone) w6 ∧ Mem g2 ((l, .loop (rec (if jump.isNone then .ready else .done) jump)) :: (d, .deferred (some [])) :: L'') w6 := fun jump L'' hm5 => by
          have h1 := run_endRound (P := P) jump (hm5.at_ (i := 0) rfl)
          have h2 := hm5.putObj (i := 0) rfl (.loop { ({ rec .ready none with state := .busy } : Loop) with state := if jump.isNone then .ready else .done, pending := jump })
          refine ⟨_, h1, ?_⟩
          have e4 : ({ ({ rec .ready none with state := .busy } : Loop) with state := if jump.isNone then .ready else .done, pending := jump } : Loop) = rec (if jump.isNone then .ready else .done) jump := by rw [hrec]
          rw [e4] at h2 ⊢
          exact h2
        cases e with
        | normal =>
          obtain ⟨σ'', h1, _, h2, L3, rfl, h3⟩ := hl5
          obtain ⟨w6, h4, h5⟩ := fin none (L3 ++ X) (h1.mem.sublist h2)
          exact ⟨_, w6, h4, _, _, rfl, h5, .inl ⟨rfl, L3, rfl, h3⟩⟩
        | ret =>
          obtain ⟨σ'', h1, L'', h2, h3⟩ := hl5
          obtain ⟨w6, h4, h5⟩ := fin (some .ret) L'' (h1.mem.sublist h2)
          exact ⟨_, w6, h4, _, _, rfl, h5, .inr ⟨rfl, .ret, L'', rfl, h3⟩⟩
        | exit id =>
          obtain ⟨σ'', h1, L'', h2, h3⟩ := hl5
          obtain ⟨w6, h4, h5⟩ := fin (some (.exit id)) L'' (h1.mem.sublist h2)
          exact ⟨_, w6, h4, _, _, rfl, h5, .inr ⟨rfl, .exit id, L'', rfl, h3⟩⟩
        | goto t =>
          obtain ⟨σ'', h1, L'', h2, h3⟩ := hl5
          obtain ⟨w6, h4, h5⟩ := fin (some (.goto t)) L'' (h1.mem.sublist h2)
          exact ⟨_, w6, h4, _, _, rfl, h5, .inr ⟨rfl, .goto t, L'', rfl, h3⟩⟩
        | panic ch => obtain ⟨_, _, h⟩ := hl5; exact h.elim
        | outgrown => obtain ⟨_, _, h⟩ := hl5; exact h.elim
      | panic ch => obtain ⟨_, _, h, _⟩ := hl3; cases h
      | ret => obtain ⟨_, _, h, _⟩ := hl3; cases h
      | exit id => obtain ⟨_, _, h, _⟩ := hl3; cases h
      | goto t => obtain ⟨_, _, h, _⟩ := hl3; cases h
      | outgrown => obtain ⟨_, _, h, _⟩ := hl3; cases h
end Go.Proofs.YtekmmhmhcpaiaaaGreat
namespace Go.Proofs.YtekmmhmhcpaiaaaGreat
open Go.RowKit
set_option maxHeartbeats 4000000 in
theorem WC_rangeZ {α γ : Type} {P : Program} {g : World} {N n : Nat} {x : Operand} {ps : Array Nat} {assign body : Code} {K : Exit → St → Prop} {s : List (Nat × Value)} {D : List Deferred} {L : List (Nat × Obj)} {gf : Nat} {fs lb : Array Value} [hf : FCall P gf]
    (hx : ev s x = some (.func (.func gf) fs lb)) (enc : α → List Value) (hps : ∀ y, (enc y).length = ps.size) (hpn : (ps.toList.all fun p => Nat.blt p N) = true)
    (M : γ → List (Nat × Obj)) (Dom : γ → α → Prop) (Nx : γ → α → γ → Prop) (Fin : γ → Prop) (Ix : Code → List (Nat × Obj) → Prop)
    (hit : ∀ (l d : Nat) (o1 o2 : Obj) (Jx : List (Nat × Obj) → Prop), (∀ L2, Jx L2 → ∃ o1' cj L', L2 = (l, o1') :: (d, o2) :: L' ∧ Ix cj L') →
      (∀ st y, Dom st y → YieldFn P l (enc y) ((l, o1) :: (d, o2) :: M st) (fun v L2 => (v = .bool true ∧ ∃ st', Nx st y st' ∧ L2 = (l, o1) :: (d, o2) :: M st') ∨ (v = .bool false ∧ Jx L2))) →
      Fn P gf (fs.toList ++ [.func (.yield l) #[] #[]] ++ lb.toList) ((l, o1) :: (d, o2) :: L) (fun _ L2 => (∃ st, Fin st ∧ L2 = (l, o1) :: (d, o2) :: M st) ∨ Jx L2))
    (hbody : ∀ g' n' l d st y, Dom st y → RoundOk ⟨P, g', N, n', none⟩ l d assign body ⟨zipS ps.toList (enc y) s, [], M st⟩ (M st) (fun L3 => ∃ st', Nx st y st' ∧ L3 = M st') Ix)
    (hdone : ∀ d st, Fin st → K .normal ⟨s, markD d :: D, (d, .deferred (some [])) :: M st⟩)
    (hstop : ∀ d cj L', Ix cj L' → WC ⟨P, g, N, n, none⟩ cj K ⟨s, markD d :: D, (d, .deferred (some [])) :: L'⟩) :
    WC ⟨P, g, N, n, none⟩ (.rangeFunc x ps assign body) K ⟨s, D, L⟩ := fun a w ha => by
  refine wpIn_rangeFunc ?_
  intro fn _
  obtain ⟨rec, hrec⟩ : ∃ rec : LoopState → Option Code → Loop, rec = fun st pe => { state := st, pending := pe, fn, tmps := a.tmps, params := ps, assign, body, defers := w.heap.size } := ⟨_, rfl⟩
  obtain ⟨W1, hW1⟩ : ∃ W1, (w.alloc (.deferred (some []))).alloc (.loop (rec .ready none)) = W1 := ⟨_, rfl⟩
  have hm1 : Mem g ((w.heap.size + 1, .loop (rec .ready none)) :: (w.heap.size, .deferred (some [])) :: L) W1 := by
    have := (ha.mem.alloc (.deferred (some []))).alloc (.loop (rec .ready none))
    rw [World.size_alloc] at this
    rw [← hW1]; exact this
  refine ⟨w.heap.size + 1, [markD w.heap.size], W1, { target := .fn (.func gf) lb, args := fs ++ #[.func (.yield (w.heap.size + 1)) #[] #[]] }, W1, gf, fs ++ #[.func (.yield (w.heap.size + 1)) #[] #[]] ++ lb, W1, ?_, ?_, fun _ _ => trivial, ?_, fun h => by simp at h, ?_⟩
  · rw [← hW1, hrec]; exact run_enterLoop_outer _ _ _ _ _
  · have := ha.ev hx
    simp [resolve, this, Deferred.ofValue, show ∀ v, a.eval (.const v) = v from fun _ => rfl]
  · simp [invoke, hf.h]
  · generalize hl : w.heap.size + 1 = l at hm1 ⊢
    generalize hd : w.heap.size = d at hm1 ⊢
    let Jx : List (Nat × Obj) → Prop := fun L2 => ∃ cj L', L2 = (l, .loop (rec .done (some cj))) :: (d, .deferred (some [])) :: L' ∧ Ix cj L'
    have hcall := hit l d (.loop (rec .ready none)) (.deferred (some [])) Jx (fun L2 ⟨cj, L', h1, h2⟩ => ⟨_, cj, L', h1, h2⟩) ?_
    · have e : (fs.toList ++ [Value.func (.yield l) #[] #[]] ++ lb.toList).toArray = fs ++ #[.func (.yield l) #[] #[]] ++ lb := by apply Array.ext'; simp
      have hc := callsIn_fw none (n - 1) (hcall g W1 hm1)
      rw [e] at hc
      refine hc.mono fun e w' ⟨v, L2, h1, h2, h3⟩ => ?_
      subst h1
      rcases h3 with ⟨st, hfin, rfl⟩ | ⟨cj, L', rfl, hI⟩
      · have hlp := h2.at_ (i := 0) rfl
        have hpd : (rec .ready none).pending = none := by rw [hrec]
        obtain ⟨w4, hen, hm4⟩ : ∃ w4, (Instr.endLoop l).run P w' = .ok (rec .ready none).pending w4 ∧ Mem g ((d, .deferred (some [])) :: M st) w4 :=
          ⟨_, run_endLoop (P := P) hlp (by rw [hrec]; simp), (h2.putObj (i := 0) rfl (.loop { rec .ready none with state := .exhausted })).sublist (.cons _ (.refl _))⟩
        rw [hpd] at hen
        exact ⟨none, w4, hen, ⟨s, markD d :: D, (d, .deferred (some [])) :: M st⟩, ⟨ha.size, ha.slots, by show markD d :: a.defers = _; rw [ha.defers], hm4⟩, hdone d st hfin⟩
      · have hlp := h2.at_ (i := 0) rfl
        have hpd : (rec .done (some cj)).pending = some cj := by rw [hrec]
        obtain ⟨w4, hen, hm4⟩ : ∃ w4, (Instr.endLoop l).run P w' = .ok (rec .done (some cj)).pending w4 ∧ Mem g ((d, .deferred (some [])) :: L') w4 :=
          ⟨_, run_endLoop (P := P) hlp (by rw [hrec]; simp), (h2.putObj (i := 0) rfl (.loop { rec .done (some cj) with state := .exhausted })).sublist (.cons _ (.refl _))⟩
        rw [hpd] at hen
        exact ⟨some cj, w4, hen, hstop d cj L' hI _ _ ⟨ha.size, ha.slots, by show markD d :: a.defers = _; rw [ha.defers], hm4⟩⟩
    · -- one round
      rintro st y hdom g2 w2 m hm
      have hy := run_yield (P := P) (w := w2) (args := (enc y).toArray) (hm.at_ (i := 0) rfl) (by rw [hrec]; simpa using hps y)
      have e1 : (rec .ready none).fn = fn ∧ (rec .ready none).assign = assign ∧ (rec .ready none).body = body ∧ (rec .ready none).params = ps ∧ (rec .ready none).tmps = a.tmps := by rw [hrec]; exact ⟨rfl, rfl, rfl, rfl, rfl⟩
      rw [e1.1, e1.2.1, e1.2.2.1, e1.2.2.2.1, e1.2.2.2.2] at hy
      refine ⟨fn, _, assign, body, hy, roundIn_of_wpIn trivial ?_⟩
      have hz := holds_zip (g := g2) (w := w2) (N := N) (D := []) (L := (l, .loop (rec .ready none)) :: (d, .deferred (some [])) :: M st) ps.toList (enc y) s { tmps := a.tmps, defers := [] } hpn ⟨ha.size, ha.slots, rfl, hm⟩
      have e2 : (ps.toList.zip (enc y)).foldl (fun t (q : Nat × Value) => t.setIfInBounds q.1 q.2) a.tmps = (ps.zip (enc y).toArray).foldl (fun tmps (q : Nat × Value) => tmps.setIfInBounds q.1 q.2) a.tmps := by
        rw [← Array.foldl_toList, Array.toList_zip]
      simp only [e2] at hz
      refine Go.wpIn_mono (hbody g2 m l d st y hdom (.loop (rec .ready none)) (.deferred (some [])) ⟨_, rfl⟩ _ w2 hz) (fun e a3 w3 hl3 => ?_)
      cases e with
      | normal =>
        obtain ⟨σ', hH, _, s', A, B, rfl, hnext⟩ := hl3
        have hat : (A ++ (l, Obj.loop (rec .ready none)) :: B)[A.length]? = some (l, .loop (rec .ready none)) := by simp
        have hlp := hH.mem.at_ hat
        have hb := run_beginRound (P := P) hlp (by rw [hrec])
        refine ⟨_, hb, ?_⟩
        have hm4 := hH.mem.putObj hat (.loop { rec .ready none with state := .busy })
        have e3 : (A ++ (l, Obj.loop (rec .ready none)) :: B).set A.length (l, .loop { rec .ready none with state := .busy }) = A ++ (l, .loop { rec .ready none with state := .busy }) :: B := by simp
        simp only [e3] at hm4
        have hH4 : Holds g2 N ⟨s', [], A ++ (l, .loop { rec .ready none with state := .busy }) :: B⟩ a3 _ := ⟨hH.size, hH.slots, hH.defers, hm4⟩
        refine Go.wpIn_mono (hnext _ ⟨_, rfl⟩ _ _ hH4) (fun e a5 w5 hl5 => ?_)
        have fin : ∀ (jump : Option Code) (L'' : List (Nat × Obj)), Mem g2 ((l, .loop { rec .ready none with state := .busy }) :: (d, .deferred (some [])) :: L'') w5 →
            ∃ w6, (Instr.endRound l jump).run P w5 = .ok (.bool jump.isNone) w6 ∧ Mem g2 ((l, .loop (rec (if jump.isNone then .ready else .done) jump)) :: (d, .deferred (some [])) :: L'') w6 := fun jump L'' hm5 => by
          have h1 := run_endRound (P := P) jump (hm5.at_ (i := 0) rfl)
          have h2 := hm5.putObj (i := 0) rfl (.loop { ({ rec .ready none with state := .busy } : Loop) with state := if jump.isNone then .ready else .done, pending := jump })
          refine ⟨_, h1, ?_⟩
          have e4 : ({ ({ rec .ready none with state := .busy } : Loop) with state := if jump.isNone then .ready else .done, pending := jump } : Loop) = rec (if jump.isNone then .ready else .done) jump := by rw [hrec]
          rw [e4] at h2 ⊢
          exact h2
        cases e with
        | normal =>
          obtain ⟨σ'', h1, _, h2, st', h3, rfl⟩ := hl5
          obtain ⟨w6, h4, h5⟩ := fin none (M st') (h1.mem.sublist h2)
          exact ⟨_, w6, h4, _, _, rfl, h5, .inl ⟨rfl, st', h3, rfl⟩⟩
        | ret =>
          obtain ⟨σ'', h1, L'', h2, h3⟩ := hl5
          obtain ⟨w6, h4, h5⟩ := fin (some .ret) L'' (h1.mem.sublist h2)
          exact ⟨_, w6, h4, _, _, rfl, h5, .inr ⟨rfl, .ret, L'', rfl, h3⟩⟩
        | exit id =>
          obtain ⟨σ'', h1, L'', h2, h3⟩ := hl5
          obtain ⟨w6, h4, h5⟩ := fin (some (.exit id)) L'' (h1.mem.sublist h2)
          exact ⟨_, w6, h4, _, _, rfl, h5, .inr ⟨rfl, .exit id, L'', rfl, h3⟩⟩
        | goto t =>
          obtain ⟨σ'', h1, L'', h2, h3⟩ := hl5
          obtain ⟨w6, h4, h5⟩ := fin (some (.goto t)) L'' (h1.mem.sublist h2)
          exact ⟨_, w6, h4, _, _, rfl, h5, .inr ⟨rfl, .goto t, L'', rfl, h3⟩⟩
        | panic ch => obtain ⟨_, _, h⟩ := hl5; exact h.elim
        | outgrown => obtain ⟨_, _, h⟩ := hl5; exact h.elim
      | panic ch => obtain ⟨_, _, h, _⟩ := hl3; cases h
      | ret => obtain ⟨_, _, h, _⟩ := hl3; cases h
      | exit id => obtain ⟨_, _, h, _⟩ := hl3; cases h
      | goto t => obtain ⟨_, _, h, _⟩ := hl3; cases h
      | outgrown => obtain ⟨_, _, h, _⟩ := hl3; cases h
theorem YieldFn.monoY {P : Program} {l : Nat} {args : List Value} {L : List (Nat × Obj)} {R R' : Value → List (Nat × Obj) → Prop} (h : YieldFn P l args L R) (hr : ∀ v L', R v L' → R' v L') : YieldFn P l args L R' := fun g w n hm => by
  obtain ⟨fn, tmps, assign, body, h1, h2⟩ := h g w n hm
  exact ⟨fn, tmps, assign, body, h1, h2.mono fun e w' ⟨v, L', h3, h4, h5⟩ => ⟨v, L', h3, h4, hr v L' h5⟩⟩
end Go.Proofs.YtekmmhmhcpaiaaaGreat
