/-
  A part of what the last of these texts needs; by itself it proves no statement.
-/
import Derived.Test.YtekmmhmhcpaiaaaGreatKP13
namespace Go.Proofs.YtekmmhmhcpaiaaaGreat
open Go.RowKit
structure TabC (cs : Array Value) (wk : CfV) (cv : Value) (sv : Nat → Value) (av nv rv : Value) : Prop where
  z : cs.size = 21
  one : (cs.toList.all fun v => v.oneCell') = true
  w : cs[4]? = some (iV wk.1)
  g5 : cs[5]? = some (iV wk.2.1)
  g6 : cs[6]? = some (iV wk.2.2.1)
  g7 : cs[7]? = some (iV wk.2.2.2.1)
  g8 : cs[8]? = some (iV wk.2.2.2.2)
  c : cs[9]? = some cv
  s : ∀ b, b < 8 → cs[10 + b]? = some (sv b)
  a : cs[18]? = some av
  n : cs[19]? = some nv
  r : cs[20]? = some rv
abbrev spL (l : List (Int × Int)) : List Value := l.flatMap fun q => [iV q.1, iV q.2]
abbrev opL (l : List OpV) : List Value := l.flatMap fun o => [iV o.1, iV o.2.1, iV o.2.2.1, iV o.2.2.2]
def cmC (c : CmV) (bv : Value) : List Value := [iV c.kind, iV c.at_, bv, iV c.to, iV c.node, iV c.op.1, iV c.op.2.1, iV c.op.2.2.1, iV c.op.2.2.2, iV c.mode]
def i64q (x : Int) : Prop := -9223372036854775808 ≤ x ∧ x < 9223372036854775808
structure CmR (c : CmV) : Prop where
  kind : i64q c.kind
  at_ : i64q c.at_
  bins : ∀ b ∈ c.bins, i64q b
  to : i64q c.to
  node : i64q c.node
  op : OpR c.op.1 c.op.2.1 c.op.2.2.1 c.op.2.2.2
  mode : i64q c.mode
def CmAt (G : List (Nat × Obj)) (l : List Value) (c : CmV) : Prop := ∃ bv, l = cmC c bv ∧ VecM 1 G bv c.bins.length (c.bins.map iV) ∧ CmR c
theorem CmAt.mem {G G' : List (Nat × Obj)} (hs : ∀ q ∈ G, q ∈ G') {l : List Value} {c : CmV} (h : CmAt G l c) : CmAt G' l c := by
  obtain ⟨bv, h1, h2, h3⟩ := h
  exact ⟨bv, h1, h2.mem hs, h3⟩
def CmsAt (G : List (Nat × Obj)) : List (List Value) → List CmV → Prop
  | [], [] => True
  | l :: ls, c :: cs => CmAt G l c ∧ CmsAt G ls cs
  | _, _ => False
theorem CmsAt.mem {G G' : List (Nat × Obj)} (hs : ∀ q ∈ G, q ∈ G') : ∀ {ls : List (List Value)} {cs : List CmV}, CmsAt G ls cs → CmsAt G' ls cs
  | [], [], _ => trivial
  | _ :: _, _ :: _, ⟨h1, h2⟩ => ⟨h1.mem hs, CmsAt.mem hs h2⟩
theorem CmAt.len {G : List (Nat × Obj)} {l : List Value} {c : CmV} (h : CmAt G l c) : l.length = 10 := by obtain ⟨bv, rfl, _⟩ := h; rfl
theorem CmsAt.flat {G : List (Nat × Obj)} : ∀ {ls : List (List Value)} {cs : List CmV}, CmsAt G ls cs → ls.flatten.length = cs.length * 10
  | [], [], _ => rfl
  | l :: ls, c :: cs, ⟨h1, h2⟩ => by rw [List.flatten_cons, List.length_append, h1.len, CmsAt.flat h2, List.length_cons]; omega
theorem CmsAt.get {G : List (Nat × Obj)} {ls : List (List Value)} : ∀ {cs : List CmV} {k : Nat} {c : CmV}, CmsAt G ls cs → cs[k]? = some c → ∃ l, CmAt G l c ∧ ∀ j : Nat, j < 10 → ls.flatten[k * 10 + j]? = l[j]? := by
  induction ls with
  | nil =>
    intro cs k c h hk
    cases cs with
    | nil => simp at hk
    | cons _ _ => exact h.elim
  | cons l ls ih =>
    intro cs k c h hk
    cases cs with
    | nil => exact h.elim
    | cons c0 cs =>
      obtain ⟨h1, h2⟩ := h
      cases k with
      | zero =>
        rw [List.getElem?_cons_zero] at hk
        cases hk
        exact ⟨l, h1, fun j hj => by rw [List.flatten_cons, Nat.zero_mul, Nat.zero_add, List.getElem?_append_left (by rw [h1.len]; exact hj)]⟩
      | succ k =>
        rw [List.getElem?_cons_succ] at hk
        obtain ⟨l', h3, h4⟩ := ih h2 hk
        refine ⟨l', h3, fun j hj => ?_⟩
        rw [List.flatten_cons, List.getElem?_append_right (by rw [h1.len]; omega), h1.len, show (k + 1) * 10 + j - 10 = k * 10 + j by omega]
        exact h4 j hj
theorem CmsAt.snoc {G : List (Nat × Obj)} {l : List Value} {c : CmV} (h : CmAt G l c) : ∀ {ls : List (List Value)} {cs : List CmV}, CmsAt G ls cs → CmsAt G (ls ++ [l]) (cs ++ [c])
  | [], [], _ => ⟨h, trivial⟩
  | _ :: _, _ :: _, ⟨h1, h2⟩ => ⟨h1, CmsAt.snoc h h2⟩
theorem spL_at : ∀ {l : List (Int × Int)} {k : Nat} {q : Int × Int}, l[k]? = some q → (spL l)[k * 2]? = some (iV q.1) ∧ (spL l)[k * 2 + 1]? = some (iV q.2)
  | [], k, q, h => by simp at h
  | p :: l, 0, q, h => by
    obtain rfl : p = q := by simpa using h
    exact ⟨rfl, rfl⟩
  | p :: l, k + 1, q, h => by
    have ih := spL_at (l := l) (k := k) (q := q) (by simpa using h)
    rw [show (k + 1) * 2 = k * 2 + 2 by omega, show k * 2 + 2 + 1 = (k * 2 + 1) + 2 by omega]
    exact ih
theorem opL_at : ∀ {l : List OpV} {k : Nat} {o : OpV}, l[k]? = some o → ((opL l).drop (k * 4)).take 4 = [iV o.1, iV o.2.1, iV o.2.2.1, iV o.2.2.2]
  | [], k, q, h => by simp at h
  | p :: l, 0, q, h => by
    obtain rfl : p = q := by simpa using h
    rfl
  | p :: l, k + 1, q, h => by
    have ih := opL_at (l := l) (k := k) (o := q) (by simpa using h)
    rw [show (k + 1) * 4 = k * 4 + 4 by omega]
    exact ih
def RowsIn (L : List (Nat × Obj)) (rv : Value) (repl : List (List CmV)) : Prop := ∃ vs : List Value, VecM 1 L rv repl.length vs ∧ ∀ (k : Nat) (row : List CmV), repl[k]? = some row → ∃ (v : Value) (lr : List (List Value)), vs[k]? = some v ∧ VecM 10 L v row.length lr.flatten ∧ CmsAt L lr row
structure TabIn (tb : Nat) (L : List (Nat × Obj)) (t : TbV) : Prop where
  h : ∃ cs cv sv av nv rv lc, (tb, Obj.cells cs 107 (0, 0)) ∈ L ∧ TabC cs t.cf cv sv av nv rv ∧ VecM 10 L cv t.cmds.length lc.flatten ∧ CmsAt L lc t.cmds ∧ (∀ b, b < 8 → ∃ row, t.spans[b]? = some row ∧ row ≠ [] ∧ VecM 2 L (sv b) row.length (spL row)) ∧ VecM 1 L av t.act.length (t.act.map iV) ∧ VecM 4 L nv t.nodes.length (opL t.nodes) ∧ RowsIn L rv t.repl
theorem TabIn.mem {tb : Nat} {L L' : List (Nat × Obj)} {t : TbV} (h : TabIn tb L t) (hs : ∀ q ∈ L, q ∈ L') : TabIn tb L' t := by
  obtain ⟨cs, cv, sv, av, nv, rv, lc, h1, h2, h3, h4, h5, h6, h7, vs, h8, h9⟩ := h.h
  refine ⟨cs, cv, sv, av, nv, rv, lc, hs _ h1, h2, h3.mem hs, h4.mem hs, fun b hb => ?_, h6.mem hs, h7.mem hs, vs, h8.mem hs, fun k row hk => ?_⟩
  · obtain ⟨row, q1, q2, q3⟩ := h5 b hb
    exact ⟨row, q1, q2, q3.mem hs⟩
  · obtain ⟨v, lr, q1, q2, q3⟩ := h9 k row hk
    exact ⟨v, lr, q1, q2.mem hs, q3.mem hs⟩
theorem VecM.cell {sz : Nat} {L : List (Nat × Obj)} {v : Value} {n : Nat} {xs : List Value} (h : VecM sz L v n xs) (hn : n ≠ 0) : ∃ (b off cap : Nat) (cs : Array Value) (E : TypeId) (fr : Nat × Nat) (i : Nat), v = .slice (some ⟨b, off, none⟩) n cap ∧ n ≤ cap ∧ cap ≤ maxLen ∧ L[i]? = some (b, Obj.cells cs E fr) ∧ ∀ j x, xs[j]? = some x → cs[off + j]? = some x := by
  obtain ⟨_, a, cap, rfl, h2, h3, h4⟩ := h
  rcases h4 with h4 | ⟨b, off, cs, E, fr, rfl, e2, e3⟩
  · exact absurd h4 hn
  · obtain ⟨i, hi⟩ := List.mem_iff_getElem?.1 e2
    exact ⟨b, off, cap, cs, E, fr, i, rfl, h2, h3, hi, e3⟩
theorem lastF_snoc {t : TbV} {k : Nat} {c : CmV} (hk : t.cmds.length = k + 1) (hc : t.cmds[k]? = some c) : lastF t = c.at_ := by
  unfold lastF
  rw [List.getLast?_eq_getElem?, hk, Nat.add_sub_cancel, hc]
theorem hasF_row {sp : List (List (Int × Int))} {b : Int} {row : List (Int × Int)} {k : Nat} {q : Int × Int} (h : sp[b.toNat]? = some row) (hk : row.length = k + 1) (hq : row[k]? = some q) : hasF sp b = q.2 := by
  unfold hasF
  rw [h]
  show ((row.getLast?).getD (0, 0)).2 = q.2
  rw [List.getLast?_eq_getElem?, hk, Nat.add_sub_cancel, hq]
  rfl
attribute [local irreducible] Fn WC WL WR OW Qt YieldFn QW FnP FnD FnE
theorem last_fn {tb : Nat} {t : TbV} {L : List (Nat × Obj)} (h : TabIn tb L t) : Fn Tryz.prog 79 [.pointer (some ⟨tb, 0, none⟩)] L (fun v L' => v = .int .i64 (lastF t) ∧ L' = L) := by
  obtain ⟨cs, cv, sv, av, nv, rv, lc, h1, h2, h3, h4, _⟩ := h.h
  obtain ⟨i, hi⟩ := List.mem_iff_getElem?.1 h1
  have hc := h2.c
  refine Fn_enter Tryz.func79 rfl Tryz.ntmps79 rfl fun g => ?_
  by_cases hn : t.cmds.length = 0
  · obtain ⟨_, a, cap, rfl, _⟩ := h3
    have d : (((t.cmds.length : Nat) : Int) == 0) = true := by rw [hn]; rfl
    have e : lastF t = 0 := by unfold lastF; rw [List.eq_nil_of_length_eq_zero hn]; rfl
    repeat (first | refine RQr ?_ | refine RC ?_ | refine RU ?_ | refine WC_draw_all (id := 3) 14 (Cs [0,1,2,3,4,5,6,7,8,9,10,11,12,13] <| .done) mixed (by kernel_rfl) ?_ | refine WC_region ?_)
    exact ⟨rfl, _, _, Res1 rfl (resV_tmp rfl), .refl _, by rw [e], rfl⟩
  obtain ⟨b, off, cap, cc, E, fr, j, rfl, hle, hm, hj, hx⟩ := h3.cell hn
  obtain ⟨k, hk⟩ : ∃ k, t.cmds.length = k + 1 := ⟨t.cmds.length - 1, by omega⟩
  obtain ⟨c, hck⟩ : ∃ c, t.cmds[k]? = some c := ⟨_, List.getElem?_eq_getElem (by omega)⟩
  obtain ⟨l, ⟨bv, rfl, _⟩, hl⟩ := h4.get hck
  have hx1 : cc[off + (IntKind.i64.wrap (((t.cmds.length : Nat) : Int) - 1)).toNat * 10 + 1]? = some (iV c.at_) := by
    rw [wI64 (by omega) (by simp only [maxLen] at hm; omega), show (((t.cmds.length : Nat) : Int) - 1).toNat = k by omega, Nat.add_assoc]
    exact hx _ _ (by rw [hl 1 (by omega)]; rfl)
  have d : (((t.cmds.length : Nat) : Int) == 0) = false := by simpa using hn
  have p0 : (0 : Int) ≤ IntKind.i64.wrap (((t.cmds.length : Nat) : Int) - 1) := by rw [wI64 (by omega) (by simp only [maxLen] at hm; omega)]; omega
  have p1 : IntKind.i64.wrap (((t.cmds.length : Nat) : Int) - 1) < ((t.cmds.length : Nat) : Int) := by rw [wI64 (by omega) (by simp only [maxLen] at hm; omega)]; omega
  repeat (first | refine RQr ?_ | refine RC ?_ | refine RU ?_ | refine WC_draw_all (id := 3) 14 (Cs [0,1,2,3,4,5,6,7,8,9,10,11,12,13] <| .done) mixed (by kernel_rfl) ?_ | refine WC_region ?_)
  exact ⟨rfl, _, _, Res1 rfl (resV_tmp rfl), .refl _, by rw [lastF_snoc hk hck], rfl⟩
theorem has_fn {tb : Nat} {t : TbV} {b : Int} {L : List (Nat × Obj)} (h : TabIn tb L t) (hb : 0 ≤ b ∧ b < 8) : Fn Tryz.prog 43 [.pointer (some ⟨tb, 0, none⟩), .int .i64 b] L (fun v L' => v = .int .i64 (hasF t.spans b) ∧ L' = L) := by
  obtain ⟨cs, cv, sv, av, nv, rv, lc, h1, h2, h3, h4, h5, _⟩ := h.h
  obtain ⟨i, hi⟩ := List.mem_iff_getElem?.1 h1
  obtain ⟨row, hr, hne, hv⟩ := h5 b.toNat (by omega)
  have hs := h2.s b.toNat (by omega)
  have hn : row.length ≠ 0 := fun e => hne (List.eq_nil_of_length_eq_zero e)
  obtain ⟨sb, off, cap, cc, E, fr, j, hsv, hle, hm, hj, hx⟩ := hv.cell hn
  obtain ⟨k, hk⟩ : ∃ k, row.length = k + 1 := ⟨row.length - 1, by omega⟩
  obtain ⟨q, hq⟩ : ∃ q, row[k]? = some q := ⟨_, List.getElem?_eq_getElem (by omega)⟩
  have hsb : cs[10 + b.toNat * 1]? = some (.slice (some ⟨sb, off, none⟩) row.length cap) := by rw [Nat.mul_one, hs, hsv]
  have hx1 : cc[off + (IntKind.i64.wrap (((row.length : Nat) : Int) - 1)).toNat * 2 + 1]? = some (iV q.2) := by
    rw [wI64 (by omega) (by simp only [maxLen] at hm; omega), show (((row.length : Nat) : Int) - 1).toNat = k by omega, Nat.add_assoc]
    exact hx _ _ (spL_at hq).2
  have p0 : (0 : Int) ≤ IntKind.i64.wrap (((row.length : Nat) : Int) - 1) := by rw [wI64 (by omega) (by simp only [maxLen] at hm; omega)]; omega
  have p1 : IntKind.i64.wrap (((row.length : Nat) : Int) - 1) < ((row.length : Nat) : Int) := by rw [wI64 (by omega) (by simp only [maxLen] at hm; omega)]; omega
  obtain ⟨q0, q1⟩ := hb
  have q1 : b < ((8 : Nat) : Int) := q1
  refine Fn_enter Tryz.func43 rfl Tryz.ntmps43 rfl fun g => ?_
  repeat (first | refine RQr ?_ | refine RC ?_ | refine RU ?_ | refine WC_draw_all (id := 1) 18 (Cs [0,1,2,3,4,5,6,7,8,9,10,11,12,13,14,15,16,17] <| .done) mixed (by kernel_rfl) ?_ | refine WC_region ?_)
  exact ⟨rfl, _, _, Res1 rfl (resV_tmp rfl), .refl _, by rw [hasF_row hr hk hq], rfl⟩
end Go.Proofs.YtekmmhmhcpaiaaaGreat
namespace Go.Proofs.YtekmmhmhcpaiaaaGreat
open Go.RowKit
def moveF (t : TbV) (c : CmV) : Int := if risF (-1) c.bins = false then 15 else if c.to ∉ t.act then 16 else if c.bins.any (fun b => hasF t.spans b == c.to) = true then 17 else 0
theorem risF_in : ∀ {l : List Int} {la : Int}, risF la l = true → -1 ≤ la → ∀ b ∈ l, 0 ≤ b ∧ b < 8
  | [], _, _, _, b, hb => by cases hb
  | x :: r, la, h, hla, b, hb => by
    unfold risF at h
    split at h
    · cases h
    · rename_i hn
      rcases List.mem_cons.1 hb with rfl | hb
      · omega
      · exact risF_in h (by omega) b hb
attribute [local irreducible] Fn WC WL WR OW Qt YieldFn QW FnP FnD FnE
theorem must_ok {t : Bool} (h : t = true) {e : Int} {L : List (Nat × Obj)} : Fn Tryz.prog 78 [.bool t, .int .i64 e] L (fun v L' => v = .tuple #[] ∧ L' = L) := by
  subst h
  refine Fn_enter Tryz.func78 rfl Tryz.ntmps78 rfl fun g => ?_
  repeat (first | refine RQ ?_ | refine RC ?_ | refine WC_region ?_)
  exact ⟨rfl, _, _, Res0 rfl, .refl _, rfl, rfl⟩
theorem must_no {t : Bool} (h : t = false) {e : Int} {L : List (Nat × Obj)} : FnP Tryz.prog 78 [.bool t, .int .i64 e] L (fun v L' => v = rfu e ∧ L' = L) :=
  FnE.toFnP (must_fn.mono (fun _ _ h => h) (fun _ _ h1 => ⟨h1.1.2, h1.2⟩)) (fun _ _ h1 => by rw [h] at h1; cases h1.1)
set_option maxHeartbeats 4000000 in
theorem move_fn {tb : Nat} {t : TbV} {c : CmV} {bv : Value} {L : List (Nat × Obj)} (h : TabIn tb L t) (hb : VecM 1 L bv c.bins.length (c.bins.map iV)) : Asked 80 [.pointer (some ⟨tb, 0, none⟩), .agg (cmC c bv).toArray] L (moveF t c) := by
  obtain ⟨cs, cv, sv, av, nv, rv, lc, h1, h2, h3, h4, h5, h6, _⟩ := h.h
  obtain ⟨i, hi⟩ := List.mem_iff_getElem?.1 h1
  have hca := h2.a
  refine FnE.sub ?_
  refine FnE_enter Tryz.func80 rfl Tryz.ntmps80 rfl fun g => ?_
  repeat (first | refine RQ ?_ | (refine RE ?_; try intro _) | refine RC ?_ | refine WG 0 ?_)
  rename_i x3
  have hs : ∀ q ∈ L, q ∈ (x3, Obj.cells (cmC c bv).toArray 71 (0, 0)) :: L := fun q hq => List.mem_cons_of_mem _ hq
  have hi' : ((x3, Obj.cells (cmC c bv).toArray 71 (0, 0)) :: L)[i + 1]? = some (tb, .cells cs 107 (0, 0)) := hi
  cases hr : risF (-1) c.bins
  · have e : moveF t c = 15 := if_pos hr
    repeat (first | refine RQ ?_ | (refine WL_op rfl ?_; (first | refine OW_callP rfl (hF := must_ok (by first | with_reducible assumption | rfl)) (hk := ?_) | refine OW_callP rfl (hF := rising_fn (hb.vec hs)) (hk := ?_))) | refine RC ?_ | refine WG 1 ?_)
    refine WL_op rfl (OW_pan rfl (must_no hr) ?_)
    rintro v L' ⟨rfl, rfl⟩
    exact ⟨_, rfl, ⟨by rw [e]; decide, by rw [e]⟩, .cons _ (.refl _)⟩
  repeat (first | refine RQ ?_ | (refine WL_op rfl ?_; (first | refine OW_callP rfl (hF := must_ok (by first | with_reducible assumption | rfl)) (hk := ?_) | refine OW_callP rfl (hF := rising_fn (hb.vec hs)) (hk := ?_))) | refine RC ?_ | refine WG 1 ?_)
  by_cases ht : c.to ∈ t.act
  rotate_left
  · have dt : decide (c.to ∈ t.act) = false := decide_eq_false ht
    have e : moveF t c = 16 := by unfold moveF; rw [if_neg (by rw [hr]; decide), if_pos ht]
    repeat (first | refine RQr ?_ | (refine OX ?_; (first | refine OW_callP rfl (hF := must_ok (by first | with_reducible assumption | rfl)) (hk := ?_) | refine OW_callP rfl (hF := contains_fn (h6.vec hs)) (hk := ?_)); try refine SD ?_) | refine RC ?_ | refine RU ?_ | refine WC_draw_all (id := 2) 8 (Cs [0,1,2,3,4,5] <| .must 6 <| .must 7 <| .done) mixed (by kernel_rfl) ?_)
    refine WR_op rfl rfl (OW_pan rfl (must_no dt) ?_)
    rintro v L' ⟨rfl, rfl⟩
    exact ⟨_, rfl, ⟨by rw [e]; decide, by rw [e]⟩, .cons _ (.refl _)⟩
  have dt : decide (c.to ∈ t.act) = true := decide_eq_true ht
  have hin := risF_in hr (Int.le_refl _)
  obtain ⟨hbl, ba, bcap, rfl, hbc, hbm, hbx⟩ := hb.vec hs
  repeat (first | refine RQr ?_ | (refine OX ?_; (first | refine OW_callP rfl (hF := must_ok (by first | with_reducible assumption | rfl)) (hk := ?_) | refine OW_callP rfl (hF := contains_fn (h6.vec hs)) (hk := ?_)); try refine SD ?_) | refine RC ?_ | refine RU ?_ | refine WC_draw_all (id := 2) 8 (Cs [0,1,2,3,4,5] <| .must 6 <| .must 7 <| .done) mixed (by kernel_rfl) ?_ | refine WG 3 ?_)
  refine WC_wk [(21, .int .i64 ((0 : Nat) : Int)), (20, .int .i64 (c.bins.length : Nat)), (19, .slice ba c.bins.length bcap), (3, .pointer (some ⟨x3, 0, none⟩)), (0, .pointer (some ⟨tb, 0, none⟩))] ⟨rfl, rfl, rfl, rfl, rfl, trivial⟩ ?_
  refine WC_loop (fun m σ => ∃ k : Nat, m = c.bins.length - k ∧ k ≤ c.bins.length ∧ (c.bins.take k).any (fun b => hasF t.spans b == c.to) = false ∧ σ = ⟨[(21, .int .i64 (k : Nat)), (20, .int .i64 (c.bins.length : Nat)), (19, .slice ba c.bins.length bcap), (3, .pointer (some ⟨x3, 0, none⟩)), (0, .pointer (some ⟨tb, 0, none⟩))], [], (x3, Obj.cells (cmC c (.slice ba c.bins.length bcap)).toArray 71 (0, 0)) :: L⟩) c.bins.length ⟨0, rfl, Nat.zero_le _, rfl, rfl⟩ ?_
  rintro m σ ⟨k, rfl, hk, hany, rfl⟩
  by_cases hlt : k < c.bins.length
  rotate_left
  · have d : decide ((k : Int) < ((c.bins.length : Nat) : Int)) = false := decide_eq_false (by omega)
    rw [List.take_of_length_le (by omega)] at hany
    have e : moveF t c = 0 := by unfold moveF; rw [if_neg (by rw [hr]; decide), if_neg (not_not_intro ht), if_neg (by rw [hany]; decide)]
    repeat (first | refine RQ ?_ | refine RC ?_ | refine WG 4 ?_)
    exact ⟨_, _, Res0 rfl, .cons _ (.refl _), e, rfl⟩
  have d : decide ((k : Int) < ((c.bins.length : Nat) : Int)) = true := decide_eq_true (by omega)
  have p0 : (0 : Int) ≤ (k : Int) := by omega
  have p1 : ((k : Nat) : Int) < ((c.bins.length : Nat) : Int) := by omega
  have w : IntKind.i64.wrap ((k : Int) + 1) = ((k + 1 : Nat) : Int) := by rw [wI64 (by omega) (by simp only [maxLen] at hbm; omega)]; omega
  obtain ⟨b0, off, cc, E, fr, j, rfl, hj, hcc⟩ := hbx.resolve_left (by omega)
  obtain ⟨y, hy⟩ : ∃ y, c.bins[k]? = some y := ⟨_, List.getElem?_eq_getElem hlt⟩
  have hc1 : cc[off + ((k : Nat) : Int).toNat * 1]? = some (iV y) := by rw [Int.toNat_natCast, Nat.mul_one]; exact hcc k _ (by rw [List.getElem?_map, hy]; rfl)
  have hbk := hin y (List.mem_of_getElem? hy)
  cases hz : (hasF t.spans y == c.to)
  · have dz : (hasF t.spans y != c.to) = true := by rw [bne, hz]; rfl
    repeat (first | refine RQr ?_ | (refine OX ?_; (first | refine OW_callP rfl (hF := must_ok (by first | with_reducible assumption | rfl)) (hk := ?_) | refine OW_callP rfl (hF := has_fn (h.mem hs) hbk) (hk := ?_)); try refine SD ?_) | refine RC ?_ | refine RU ?_ | refine WC_draw_all (id := 6) 7 (Cs [0,1,3,4] <| .must 2 <| .calm 5 <| .must 6 <| .done) mixed (by kernel_rfl) ?_ | refine WG 4 ?_ | refine WG 5 ?_ | refine WG 7 ?_)
    rw [w]
    refine ⟨_, _, by omega, ⟨k + 1, rfl, by omega, ?_, rfl⟩, ⟨rfl, rfl, rfl, rfl, rfl, trivial⟩, rfl, .refl _⟩
    rw [List.take_add_one, hy, List.any_append, hany]
    simpa using hz
  · have dz : (hasF t.spans y != c.to) = false := by rw [bne, hz]; rfl
    have e : moveF t c = 17 := by
      unfold moveF
      rw [if_neg (by rw [hr]; decide), if_neg (not_not_intro ht), if_pos (List.any_eq_true.2 ⟨y, List.mem_of_getElem? hy, hz⟩)]
    repeat (first | refine RQr ?_ | (refine OX ?_; (first | refine OW_callP rfl (hF := must_ok (by first | with_reducible assumption | rfl)) (hk := ?_) | refine OW_callP rfl (hF := has_fn (h.mem hs) hbk) (hk := ?_)); try refine SD ?_) | refine RC ?_ | refine RU ?_ | refine WC_draw_all (id := 6) 7 (Cs [0,1,3,4] <| .must 2 <| .calm 5 <| .must 6 <| .done) mixed (by kernel_rfl) ?_ | refine WG 4 ?_ | refine WG 5 ?_)
    refine WR_op rfl rfl (OW_pan rfl (must_no dz) ?_)
    rintro v L' ⟨rfl, rfl⟩
    exact ⟨_, rfl, ⟨by rw [e]; decide, by rw [e]⟩, .cons _ (.refl _)⟩
def joinF (t : TbV) (c : CmV) : Int := if ¬ (1 ≤ c.to ∧ c.to ≤ t.wk) then 16 else if c.to ∈ t.act then 11 else 0
def leaveF (t : TbV) (c : CmV) : Int := if c.to ∉ t.act then 16 else if t.act.length ≤ 1 then 10 else 0
set_option maxHeartbeats 4000000 in
theorem join_fn {tb : Nat} {t : TbV} {c : CmV} {bv : Value} {L : List (Nat × Obj)} (h : TabIn tb L t) : Asked 81 [.pointer (some ⟨tb, 0, none⟩), .agg (cmC c bv).toArray] L (joinF t c) := by
  obtain ⟨cs, cv, sv, av, nv, rv, lc, h1, h2, h3, h4, h5, h6, h7, _⟩ := h.h
  obtain ⟨i, hi⟩ := List.mem_iff_getElem?.1 h1
  have hca := h2.a; have hcw := h2.w; have hcn := h2.n
  refine FnE.sub ?_
  refine FnE_enter Tryz.func81 rfl Tryz.ntmps81 rfl fun g => ?_
  repeat (first | refine RQ ?_ | (refine RE ?_; try intro _) | refine RC ?_ | refine WG 0 ?_)
  rename_i x3
  have hs : ∀ q ∈ L, q ∈ (x3, Obj.cells (cmC c bv).toArray 71 (0, 0)) :: L := fun q hq => List.mem_cons_of_mem _ hq
  have hi' : ((x3, Obj.cells (cmC c bv).toArray 71 (0, 0)) :: L)[i + 1]? = some (tb, .cells cs 107 (0, 0)) := hi
  by_cases hw : 1 ≤ c.to ∧ c.to ≤ t.wk
  rotate_left
  · have dw : decide (1 ≤ c.to ∧ c.to ≤ t.wk) = false := decide_eq_false hw
    have e : joinF t c = 16 := if_pos hw
    repeat (first | refine RQr ?_ | (refine OX ?_; (first | refine OW_callP rfl (hF := must_ok (by first | with_reducible assumption | rfl)) (hk := ?_) | refine OW_callP rfl (hF := within_fn) (hk := ?_)); try refine SD ?_) | refine RC ?_ | refine RU ?_ | refine WC_draw_all (id := 1) 10 (Cs [0,1,2,3,4,5,6,7] <| .must 8 <| .must 9 <| .done) mixed (by kernel_rfl) ?_)
    refine WR_op rfl rfl (OW_pan rfl (must_no dw) ?_)
    rintro v L' ⟨rfl, rfl⟩
    exact ⟨_, rfl, ⟨by rw [e]; decide, by rw [e]⟩, .cons _ (.refl _)⟩
  have dw : decide (1 ≤ c.to ∧ c.to ≤ t.wk) = true := decide_eq_true hw
  by_cases ht : c.to ∈ t.act
  · have dt : decide (c.to ∈ t.act) = true := decide_eq_true ht
    have dn : (!decide (c.to ∈ t.act)) = false := by rw [dt]; rfl
    have e : joinF t c = 11 := by unfold joinF; rw [if_neg (not_not_intro hw), if_pos ht]
    repeat (first | refine RQr ?_ | (refine OX ?_; (first | refine OW_callP rfl (hF := must_ok (by first | with_reducible assumption | rfl)) (hk := ?_) | refine OW_callP rfl (hF := contains_fn (h6.vec hs)) (hk := ?_) | refine OW_callP rfl (hF := within_fn) (hk := ?_)); try refine SD ?_) | refine RC ?_ | refine RU ?_ | refine WC_draw_all (id := 1) 10 (Cs [0,1,2,3,4,5,6,7] <| .must 8 <| .must 9 <| .done) mixed (by kernel_rfl) ?_ | refine WC_draw_all (id := 2) 9 (Cs [0,1,2,3,4,5] <| .must 6 <| .calm 7 <| .must 8 <| .done) mixed (by kernel_rfl) ?_)
    refine WR_op rfl rfl (OW_pan rfl (must_no dn) ?_)
    rintro v L' ⟨rfl, rfl⟩
    exact ⟨_, rfl, ⟨by rw [e]; decide, by rw [e]⟩, .cons _ (.refl _)⟩
  have dn : (!decide (c.to ∈ t.act)) = true := by rw [decide_eq_false ht]; rfl
  have e : joinF t c = 0 := by unfold joinF; rw [if_neg (not_not_intro hw), if_neg ht]
  repeat (first | refine RQr ?_ | (refine OX ?_; (first | refine OW_callP rfl (hF := must_ok (by first | with_reducible assumption | rfl)) (hk := ?_) | refine OW_callP rfl (hF := contains_fn (h6.vec hs)) (hk := ?_) | refine OW_callP rfl (hF := within_fn) (hk := ?_)); try refine SD ?_) | refine RC ?_ | refine RU ?_ | refine WC_draw_all (id := 1) 10 (Cs [0,1,2,3,4,5,6,7] <| .must 8 <| .must 9 <| .done) mixed (by kernel_rfl) ?_ | refine WC_draw_all (id := 2) 9 (Cs [0,1,2,3,4,5] <| .must 6 <| .calm 7 <| .must 8 <| .done) mixed (by kernel_rfl) ?_)
  exact ⟨_, _, Res0 rfl, .cons _ (.refl _), e, rfl⟩
set_option maxHeartbeats 4000000 in
theorem leave_fn {tb : Nat} {t : TbV} {c : CmV} {bv : Value} {L : List (Nat × Obj)} (h : TabIn tb L t) : Asked 82 [.pointer (some ⟨tb, 0, none⟩), .agg (cmC c bv).toArray] L (leaveF t c) := by
  obtain ⟨cs, cv, sv, av, nv, rv, lc, h1, h2, h3, h4, h5, h6, h7, _⟩ := h.h
  obtain ⟨i, hi⟩ := List.mem_iff_getElem?.1 h1
  have hca := h2.a; have hcw := h2.w; have hcn := h2.n
  refine FnE.sub ?_
  refine FnE_enter Tryz.func82 rfl Tryz.ntmps82 rfl fun g => ?_
  repeat (first | refine RQ ?_ | (refine RE ?_; try intro _) | refine RC ?_ | refine WG 0 ?_)
  rename_i x3
  have hs : ∀ q ∈ L, q ∈ (x3, Obj.cells (cmC c bv).toArray 71 (0, 0)) :: L := fun q hq => List.mem_cons_of_mem _ hq
  have hi' : ((x3, Obj.cells (cmC c bv).toArray 71 (0, 0)) :: L)[i + 1]? = some (tb, .cells cs 107 (0, 0)) := hi
  by_cases ht : c.to ∈ t.act
  rotate_left
  · have dt : decide (c.to ∈ t.act) = false := decide_eq_false ht
    have e : leaveF t c = 16 := if_pos ht
    repeat (first | refine RQr ?_ | (refine OX ?_; (first | refine OW_callP rfl (hF := must_ok (by first | with_reducible assumption | rfl)) (hk := ?_) | refine OW_callP rfl (hF := contains_fn (h6.vec hs)) (hk := ?_)); try refine SD ?_) | refine RC ?_ | refine RU ?_ | refine WC_draw_all (id := 1) 8 (Cs [0,1,2,3,4,5] <| .must 6 <| .must 7 <| .done) mixed (by kernel_rfl) ?_)
    refine WR_op rfl rfl (OW_pan rfl (must_no dt) ?_)
    rintro v L' ⟨rfl, rfl⟩
    exact ⟨_, rfl, ⟨by rw [e]; decide, by rw [e]⟩, .cons _ (.refl _)⟩
  have dt : decide (c.to ∈ t.act) = true := decide_eq_true ht
  obtain ⟨_, aa, acap, rfl, _⟩ := id h6
  by_cases hn : t.act.length ≤ 1
  · have dn : decide (((t.act.length : Nat) : Int) > 1) = false := decide_eq_false (by omega)
    have e : leaveF t c = 10 := by unfold leaveF; rw [if_neg (not_not_intro ht), if_pos hn]
    repeat (first | refine RQr ?_ | (refine OX ?_; (first | refine OW_callP rfl (hF := must_ok (by first | with_reducible assumption | rfl)) (hk := ?_) | refine OW_callP rfl (hF := contains_fn (h6.vec hs)) (hk := ?_)); try refine SD ?_) | refine RC ?_ | refine RU ?_ | refine WC_draw_all (id := 1) 8 (Cs [0,1,2,3,4,5] <| .must 6 <| .must 7 <| .done) mixed (by kernel_rfl) ?_ | refine WG 2 ?_)
    refine WL_op rfl (OW_pan rfl (must_no dn) ?_)
    rintro v L' ⟨rfl, rfl⟩
    exact ⟨_, rfl, ⟨by rw [e]; decide, by rw [e]⟩, .cons _ (.refl _)⟩
  have dn : decide (((t.act.length : Nat) : Int) > 1) = true := decide_eq_true (by omega)
  have e : leaveF t c = 0 := by unfold leaveF; rw [if_neg (not_not_intro ht), if_neg hn]
  repeat (first | refine RQr ?_ | (refine OX ?_; (first | refine OW_callP rfl (hF := must_ok (by first | with_reducible assumption | rfl)) (hk := ?_) | refine OW_callP rfl (hF := contains_fn (h6.vec hs)) (hk := ?_)); try refine SD ?_) | refine RC ?_ | refine RU ?_ | refine WC_draw_all (id := 1) 8 (Cs [0,1,2,3,4,5] <| .must 6 <| .must 7 <| .done) mixed (by kernel_rfl) ?_ | refine WG 2 ?_)
  exact ⟨_, _, Res0 rfl, .cons _ (.refl _), e, rfl⟩
def replF (t : TbV) (c : CmV) : Int := if ¬ ((0 ≤ c.node ∧ c.node ≤ (t.nodes.length : Int) - 1) ∧ (0 ≤ c.mode ∧ c.mode ≤ 2)) then 2 else if c.op.ok = false then 13 else if clsF c.op.1 ≠ clsF ((t.nodes[c.node.toNat]?).getD (0, 0, 0, 0)).1 then 14 else 0
set_option maxHeartbeats 4000000 in
theorem replace_fn {tb : Nat} {t : TbV} {c : CmV} {bv : Value} {L : List (Nat × Obj)} (h : TabIn tb L t) : Asked 83 [.pointer (some ⟨tb, 0, none⟩), .agg (cmC c bv).toArray] L (replF t c) := by
  obtain ⟨cs, cv, sv, av, nv, rv, lc, h1, h2, h3, h4, h5, h6, h7, _⟩ := h.h
  obtain ⟨i, hi⟩ := List.mem_iff_getElem?.1 h1
  have hca := h2.a; have hcw := h2.w; have hcn := h2.n
  refine FnE.sub ?_
  refine FnE_enter Tryz.func83 rfl Tryz.ntmps83 rfl fun g => ?_
  repeat (first | refine RQ ?_ | (refine RE ?_; try intro _) | refine RC ?_ | refine WG 0 ?_)
  rename_i x3
  have hs : ∀ q ∈ L, q ∈ (x3, Obj.cells (cmC c bv).toArray 71 (0, 0)) :: L := fun q hq => List.mem_cons_of_mem _ hq
  have hi' : ((x3, Obj.cells (cmC c bv).toArray 71 (0, 0)) :: L)[i + 1]? = some (tb, .cells cs 107 (0, 0)) := hi
  obtain ⟨_, na, ncap, rfl, hnc, hnm, hnx⟩ := h7.vec hs
  have wl : IntKind.i64.wrap (((t.nodes.length : Nat) : Int) - 1) = ((t.nodes.length : Nat) : Int) - 1 := wI64 (by omega) (by simp only [maxLen] at hnm; omega)
  have hxo : (cmC c bv).toArray.extract 5 (5 + 4) = opC c.op.1 c.op.2.1 c.op.2.2.1 c.op.2.2.2 := rfl
  have hcz : 5 + 4 ≤ (cmC c bv).toArray.size := Nat.le_of_ble_eq_true rfl
  by_cases hn : 0 ≤ c.node ∧ c.node ≤ (t.nodes.length : Int) - 1
  rotate_left
  · have dn : decide (0 ≤ c.node ∧ c.node ≤ IntKind.i64.wrap (((t.nodes.length : Nat) : Int) - 1)) = false := by rw [wl]; exact decide_eq_false hn
    have e : replF t c = 2 := if_pos (fun hc => hn hc.1)
    repeat (first | refine RQr ?_ | ((first | refine WL_op rfl ?_ | refine WL_yes (h := ?_) | refine WR_late rfl rfl rfl ?_ | refine WR_opG rfl rfl ?_ | refine WR_opYG rfl (h := ?_)); (first | refine OW_callP rfl (hF := must_ok (by first | with_reducible assumption | rfl)) (hk := ?_) | refine OW_callP rfl (hF := within_fn) (hk := ?_)); try refine SD ?_) | refine RC ?_ | refine RU ?_ | refine WC_draw_all (id := 1) 15 (Cs [0,1,2,3,4,5,6,7] <| .must 8 <| Cs [9,10,11] <| .must 12 <| .calm 13 <| .must 14 <| .done) mixed (by kernel_rfl) ?_)
    refine WR_op rfl rfl (OW_pan rfl (must_no rfl) ?_)
    rintro v L' ⟨rfl, rfl⟩
    exact ⟨_, rfl, ⟨by rw [e]; decide, by rw [e]⟩, .cons _ (.refl _)⟩
  have dn : decide (0 ≤ c.node ∧ c.node ≤ IntKind.i64.wrap (((t.nodes.length : Nat) : Int) - 1)) = true := by rw [wl]; exact decide_eq_true hn
  by_cases hm : 0 ≤ c.mode ∧ c.mode ≤ 2
  rotate_left
  · have dm : decide (0 ≤ c.mode ∧ c.mode ≤ 2) = false := decide_eq_false hm
    have e : replF t c = 2 := if_pos (fun hc => hm hc.2)
    repeat (first | refine RQr ?_ | ((first | refine WL_op rfl ?_ | refine WL_yes (h := ?_) | refine WR_late rfl rfl rfl ?_ | refine WR_opG rfl rfl ?_ | refine WR_opYG rfl (h := ?_)); (first | refine OW_callP rfl (hF := must_ok (by first | with_reducible assumption | rfl)) (hk := ?_) | refine OW_callP rfl (hF := within_fn) (hk := ?_)); try refine SD ?_) | refine RC ?_ | refine RU ?_ | refine WC_draw_all (id := 1) 15 (Cs [0,1,2,3,4,5,6,7] <| .must 8 <| Cs [9,10,11] <| .must 12 <| .calm 13 <| .must 14 <| .done) mixed (by kernel_rfl) ?_)
    refine WR_op rfl rfl (OW_pan rfl (must_no dm) ?_)
    rintro v L' ⟨rfl, rfl⟩
    exact ⟨_, rfl, ⟨by rw [e]; decide, by rw [e]⟩, .cons _ (.refl _)⟩
  have dm : decide (0 ≤ c.mode ∧ c.mode ≤ 2) = true := decide_eq_true hm
  have hnm' : ¬ ¬ ((0 ≤ c.node ∧ c.node ≤ (t.nodes.length : Int) - 1) ∧ (0 ≤ c.mode ∧ c.mode ≤ 2)) := not_not_intro ⟨hn, hm⟩
  cases ho : c.op.ok
  · have ho' : ¬ opF c.op.1 c.op.2.1 c.op.2.2.1 c.op.2.2.2 = true := by rw [show opF c.op.1 c.op.2.1 c.op.2.2.1 c.op.2.2.2 = false from ho]; decide
    have e : replF t c = 13 := by unfold replF; rw [if_neg hnm', if_pos ho]
    have d1 : ((if opF c.op.1 c.op.2.1 c.op.2.2.1 c.op.2.2.2 = true then (0 : Int) else 13) == 0) = false := by rw [if_neg ho']; rfl
    repeat (first | refine RQr ?_ | ((first | refine WL_op rfl ?_ | refine WL_yes (h := ?_) | refine WR_late rfl rfl rfl ?_ | refine WR_opG rfl rfl ?_ | refine WR_opYG rfl (h := ?_)); (first | refine OW_callP rfl (hF := must_ok (by first | with_reducible assumption | rfl)) (hk := ?_) | refine OW_callP rfl (hF := within_fn) (hk := ?_) | refine OW_callP rfl (hF := Check_fn) (hk := ?_)); try refine SD ?_) | refine RC ?_ | refine RU ?_ | refine WC_draw_all (id := 1) 15 (Cs [0,1,2,3,4,5,6,7] <| .must 8 <| Cs [9,10,11] <| .must 12 <| .calm 13 <| .must 14 <| .done) mixed (by kernel_rfl) ?_ | refine WG 2 ?_)
    rw [hxo]
    repeat (first | refine RQ ?_ | (refine WL_op rfl ?_; (first | refine OW_callP rfl (hF := must_ok (by first | with_reducible assumption | rfl)) (hk := ?_) | refine OW_callP rfl (hF := Check_fn) (hk := ?_))) | refine RC ?_ | refine WG 2 ?_)
    refine WL_op rfl (OW_pan rfl (must_no d1) ?_)
    rintro v L' ⟨rfl, rfl⟩
    exact ⟨_, rfl, ⟨by rw [e]; decide, by rw [e]⟩, .cons _ (.refl _)⟩
  have ho' : opF c.op.1 c.op.2.1 c.op.2.2.1 c.op.2.2.2 = true := ho
  have d1 : ((if opF c.op.1 c.op.2.1 c.op.2.2.1 c.op.2.2.2 = true then (0 : Int) else 13) == 0) = true := by rw [if_pos ho']; rfl
  obtain ⟨nb, noff, cc, E, fr, j, rfl, hj, hcc⟩ := hnx.resolve_left (by omega)
  obtain ⟨o, hok⟩ : ∃ o, t.nodes[c.node.toNat]? = some o := ⟨_, List.getElem?_eq_getElem (by omega)⟩
  have p0 : (0 : Int) ≤ c.node := hn.1
  have p1 : c.node < ((t.nodes.length : Nat) : Int) := by omega
  have hxn : cc.extract (noff + c.node.toNat * 4) (noff + c.node.toNat * 4 + 4) = opC o.1 o.2.1 o.2.2.1 o.2.2.2 := by
    have h4 := opL_at hok
    apply Array.ext_getElem?
    intro q
    by_cases hq : q < 4
    · obtain ⟨u, hu⟩ : ∃ u, (opC o.1 o.2.1 o.2.2.1 o.2.2.2)[q]? = some u := ⟨_, Array.getElem?_eq_getElem hq⟩
      have hu' : (((opL t.nodes).drop (c.node.toNat * 4)).take 4)[q]? = some u := by rw [h4]; simpa using hu
      rw [List.getElem?_take_of_lt hq, List.getElem?_drop] at hu'
      have h5 := hcc _ _ hu'
      rw [Array.getElem?_extract, hu, if_pos, ← h5, Nat.add_assoc]
      have := (Array.getElem?_eq_some_iff.1 h5).1
      omega
    · rw [Array.getElem?_eq_none (by rw [Array.size_extract]; omega), Array.getElem?_eq_none (by show 4 ≤ q; omega)]
  have hxs : noff + c.node.toNat * 4 + 4 ≤ cc.size := by
    have := congrArg Array.size hxn
    rw [Array.size_extract] at this
    have e4 : (opC o.1 o.2.1 o.2.2.1 o.2.2.2).size = 4 := rfl
    rw [e4] at this
    omega
  by_cases hcl : clsF c.op.1 = clsF o.1
  · have d2 : (clsF c.op.1 == clsF o.1) = true := by simpa using hcl
    have e : replF t c = 0 := by unfold replF; rw [if_neg hnm', if_neg (by rw [ho]; decide), hok]; exact if_neg (not_not_intro hcl)
    repeat (first | refine RQr ?_ | ((first | refine WL_op rfl ?_ | refine WL_yes (h := ?_) | refine WR_late rfl rfl rfl ?_ | refine WR_opG rfl rfl ?_ | refine WR_opYG rfl (h := ?_)); (first | refine OW_callP rfl (hF := must_ok (by first | with_reducible assumption | rfl)) (hk := ?_) | refine OW_callP rfl (hF := within_fn) (hk := ?_) | refine OW_callP rfl (hF := Check_fn) (hk := ?_)); try refine SD ?_) | refine RC ?_ | refine RU ?_ | refine WC_draw_all (id := 1) 15 (Cs [0,1,2,3,4,5,6,7] <| .must 8 <| Cs [9,10,11] <| .must 12 <| .calm 13 <| .must 14 <| .done) mixed (by kernel_rfl) ?_ | refine WG 2 ?_)
    rw [hxo]
    repeat (first | refine RQr ?_ | (refine OX ?_; (first | refine OW_callP rfl (hF := must_ok (by first | with_reducible assumption | rfl)) (hk := ?_) | refine OW_callP rfl (hF := Check_fn) (hk := ?_) | refine OW_callP rfl (hF := Class_fn) (hk := ?_)); try refine SD ?_) | refine RC ?_ | refine RU ?_ | refine WC_draw_all (id := 3) 14 (Cs [0,1,3,4,5,6,7,8,9,10] <| .must 2 <| .must 11 <| .calm 12 <| .must 13 <| .done) mixed (by kernel_rfl) ?_ | refine WG 2 ?_)
    rw [hxo, hxn]
    repeat (first | refine RQr ?_ | (refine OX ?_; (first | refine OW_callP rfl (hF := must_ok (by first | with_reducible assumption | rfl)) (hk := ?_) | refine OW_callP rfl (hF := Class_fn) (hk := ?_)); try refine SD ?_) | refine RC ?_ | refine RU ?_ | refine WC_draw_all (id := 3) 14 (Cs [0,1,3,4,5,6,7,8,9,10] <| .must 2 <| .must 11 <| .calm 12 <| .must 13 <| .done) mixed (by kernel_rfl) ?_)
    exact ⟨_, _, Res0 rfl, .cons _ (.refl _), e, rfl⟩
  · have d2 : (clsF c.op.1 == clsF o.1) = false := by simpa using hcl
    have e : replF t c = 14 := by unfold replF; rw [if_neg hnm', if_neg (by rw [ho]; decide), hok]; exact if_pos hcl
    repeat (first | refine RQr ?_ | ((first | refine WL_op rfl ?_ | refine WL_yes (h := ?_) | refine WR_late rfl rfl rfl ?_ | refine WR_opG rfl rfl ?_ | refine WR_opYG rfl (h := ?_)); (first | refine OW_callP rfl (hF := must_ok (by first | with_reducible assumption | rfl)) (hk := ?_) | refine OW_callP rfl (hF := within_fn) (hk := ?_) | refine OW_callP rfl (hF := Check_fn) (hk := ?_)); try refine SD ?_) | refine RC ?_ | refine RU ?_ | refine WC_draw_all (id := 1) 15 (Cs [0,1,2,3,4,5,6,7] <| .must 8 <| Cs [9,10,11] <| .must 12 <| .calm 13 <| .must 14 <| .done) mixed (by kernel_rfl) ?_ | refine WG 2 ?_)
    rw [hxo]
    repeat (first | refine RQr ?_ | (refine OX ?_; (first | refine OW_callP rfl (hF := must_ok (by first | with_reducible assumption | rfl)) (hk := ?_) | refine OW_callP rfl (hF := Check_fn) (hk := ?_) | refine OW_callP rfl (hF := Class_fn) (hk := ?_)); try refine SD ?_) | refine RC ?_ | refine RU ?_ | refine WC_draw_all (id := 3) 14 (Cs [0,1,3,4,5,6,7,8,9,10] <| .must 2 <| .must 11 <| .calm 12 <| .must 13 <| .done) mixed (by kernel_rfl) ?_ | refine WG 2 ?_)
    rw [hxo, hxn]
    repeat (first | refine RQr ?_ | (refine OX ?_; (first | refine OW_callP rfl (hF := must_ok (by first | with_reducible assumption | rfl)) (hk := ?_) | refine OW_callP rfl (hF := Class_fn) (hk := ?_)); try refine SD ?_) | refine RC ?_ | refine RU ?_ | refine WC_draw_all (id := 3) 14 (Cs [0,1,3,4,5,6,7,8,9,10] <| .must 2 <| .must 11 <| .calm 12 <| .must 13 <| .done) mixed (by kernel_rfl) ?_)
    refine WR_op rfl rfl (OW_pan rfl (must_no d2) ?_)
    rintro v L' ⟨rfl, rfl⟩
    exact ⟨_, rfl, ⟨by rw [e]; decide, by rw [e]⟩, .cons _ (.refl _)⟩
end Go.Proofs.YtekmmhmhcpaiaaaGreat
