/-
  A part of what the last of these texts needs; by itself it proves no statement.
-/
import Derived.ProofKit
import Derived.Deep.Slices
import Derived.OpenShut
import Derived.ChangeMaps5
import Derived.ChangeSame
import Derived.ChangeVars
import Derived.JoinedOf
import Derived.LaidLaws
import Derived.LaidHandle
import Derived.Stop.Joined
import Derived.Test.YtakedlockchpcaaGreatDoorKR6
namespace Go.Proofs.YtakedlockchpcaaGreatDoor
open Go.RowKit
theorem WL_perm {c : Cx} {ops : Array Oper} {l : List Oper} {K : Exit → St → Prop} {s : List (Nat × Value)} {D : List Deferred} {L L' : List (Nat × Obj)} (hp : L'.Perm L) (h : WL c ops l K ⟨s, D, L'⟩) : WL c ops l K ⟨s, D, L⟩ := fun a w ha => h a w (ha.mem' (ha.mem.perm hp))
attribute [local irreducible] Fn WC WL WR OW Qt YieldFn QW FnP FnD FnE
theorem IGen.bindD {α β : Type} {l : List UInt8} {p : Nat → PR α} {q : α → Nat → PR β} {s s1 s2 : ISt} {x : α} {y : β} (h1 : IGen l p s x s1) (h2 : IGen l (q x) s1 y s2) : IGen l (fun a => (p a).bind q) s y s2 := by
  refine ⟨h2.le, h2.he, fun hc => ?_, fun hc => ?_⟩
  · rcases h1.ok hc with ⟨e1, c1⟩ | ⟨e1, c1⟩
    · simp only [e1, PR.bind]
      exact h2.ok c1
    · obtain ⟨q1, q2⟩ := h2.no c1
      simp only [e1, PR.bind]
      rw [q1, q2]
      exact .inr ⟨rfl, c1⟩
  · obtain ⟨q1, q2⟩ := h1.no hc
    obtain ⟨r1, r2⟩ := h2.no (by rw [q1]; exact hc)
    exact ⟨r1.trans q1, r2.trans q2⟩
theorem IGen.map {α β : Type} {l : List UInt8} {p : Nat → PR α} {s s1 : ISt} {x : α} (h1 : IGen l p s x s1) (f : α → β) : IGen l (fun a => (p a).bind fun x b => .ok (f x) b) s (f x) s1 := by
  refine ⟨h1.le, h1.he, fun hc => ?_, h1.no⟩
  rcases h1.ok hc with ⟨e1, c1⟩ | ⟨e1, c1⟩
  · exact .inl ⟨by simp only [e1, PR.bind], c1⟩
  · exact .inr ⟨by simp only [e1, PR.bind], c1⟩
theorem IStep.genI {l : List UInt8} {s s' : ISt} {x : Int} (h : IStep l [.ww] s [.int .i64 x] s') : IGen l (prI l) s x s' := by
  refine ⟨h.le, h.he, fun hc => ?_, h.no⟩
  rcases h.ok hc with ⟨e, c, _⟩ | ⟨e, c⟩
  · rw [prs_ww] at e
    cases h5 : prI l s.a with
    | bad c a => rw [h5] at e; cases e
    | ok y b =>
      rw [h5] at e
      simp only [PR.bind, PR.ok.injEq, List.cons.injEq, Value.int.injEq, and_true, true_and] at e
      obtain ⟨rfl, rfl⟩ := e
      exact .inl ⟨rfl, c⟩
  · rw [prs_ww] at e
    cases h5 : prI l s.a with
    | ok y b => rw [h5] at e; cases e
    | bad c' a' =>
      rw [h5] at e
      simp only [PR.bind, PR.bad.injEq] at e
      obtain ⟨rfl, rfl⟩ := e
      exact .inr ⟨rfl, c⟩
def prK (l : List UInt8) (a : Nat) : PR Int := (prI l a).bind fun k a1 => if 0 ≤ k ∧ k ≤ 4 then .ok k a1 else .bad 6 a
theorem kind_in {l : List UInt8} {s s1 : ISt} {k : Int} (h : IGen l (prI l) s k s1) (hk : s1.c = 0 → 0 ≤ k ∧ k ≤ 4) : IGen l (prK l) s k s1 := by
  refine ⟨h.le, h.he, fun hc => ?_, h.no⟩
  rcases h.ok hc with ⟨e, c⟩ | ⟨e, c⟩
  · exact .inl ⟨by unfold prK; rw [e]; simp only [PR.bind]; rw [if_pos (hk c)], c⟩
  · exact .inr ⟨by unfold prK; rw [e]; rfl, c⟩
theorem kind_out {l : List UInt8} {s s1 : ISt} {k : Int} (h : IGen l (prI l) s k s1) (hc1 : s1.c = 0) (hk : ¬ (0 ≤ k ∧ k ≤ 4)) : IGen l (prK l) s k ⟨s1.a, 6, s.a⟩ := by
  refine ⟨h.le, (fun q => (by cases q)), fun hc => ?_, fun hc => ?_⟩
  · rcases h.ok hc with ⟨e, _⟩ | ⟨_, c⟩
    · exact .inr ⟨by unfold prK; rw [e]; simp only [PR.bind]; rw [if_neg hk], by show (6 : Nat) ≠ 0; decide⟩
    · exact absurd hc1 c
  · exact absurd ((h.no hc).1.symm.trans hc1) hc
theorem prMsg_eq (l : List UInt8) (a : Nat) : prMsg l a = (prK l a).bind fun k a1 => (prI l a1).bind fun v a2 => prBody l k v a2 := by
  unfold prMsg prK
  cases prI l a with
  | bad c e => rfl
  | ok k a1 =>
    simp only [PR.bind]
    split <;> rfl
def MsgR (qb nb : Nat) (l : List UInt8) (s : ISt) (F : List (Nat × Obj)) (v : Value) (L' : List (Nat × Obj)) : Prop :=
  ∃ m sj vb ve T1 T2, IGen l (prMsg l) s m sj ∧ m.Ok ∧ Buf 3 1 vb T1 m.bins.length m.bins.flatten ∧ Buf 45 10 ve T2 m.ents.length m.ents.flatten ∧ v = .agg (m.cellsV vb ve).toArray ∧ L' = IMs qb nb l sj (T1 ++ (T2 ++ F))
theorem perm4 (a b x y : Nat × Obj) (T F : List (Nat × Obj)) : (a :: b :: x :: y :: (T ++ F)).Perm (a :: b :: (T ++ (x :: y :: F))) := .cons _ (.cons _ (perm2 T F x y))
set_option maxHeartbeats 8000000 in
set_option maxRecDepth 100000 in
theorem Msg_any : IThing 70 MsgR := by
  intro qb nb l s F ha hl he
  refine Fn_enter Tryz.func70 rfl Tryz.ntmps70 rfl fun g => ?_
  repeat (first | refine RQ ?_ | (refine RE ?_; try intro _) | refine RC ?_ | refine WC_region (id := 0) ?_ | refine WC_region (id := 1) ?_ | refine WC_region (id := 2) ?_)
  rename_i rb xb
  refine WC_front 2 rfl ?_
  refine WC_front 3 rfl ?_
  refine WC_front 1 rfl ?_
  repeat (first | refine RQ ?_ | (refine RE ?_; try intro _) | refine RC ?_ | refine WC_region (id := 3) ?_)
  refine WL_op rfl (OW_call rfl (hF := n_any qb nb l s _ ha hl he) (hk := ?_))
  rintro _ _ ⟨s1, h1, rfl⟩
  obtain ⟨k, rfl, hk0, hk1⟩ := h1.oks.1
  have G1 := h1.genI
  have e1 := h1.he
  repeat (first | refine RQ ?_ | (refine RE ?_; try intro _) | refine RC ?_ | refine WC_region (id := 3) ?_)
  refine WC_wk [(0, .pointer (some ⟨nb, 0, none⟩)), (2, .pointer (some ⟨rb, 0, none⟩)), (3, .int .i64 (s.a : Nat)), (4, .pointer (some ⟨xb, 0, none⟩))] ⟨rfl, rfl, rfl, rfl, trivial⟩ ?_
  refine WC_meet2 (fun σ => ∃ sk, IGen l (prK l) s k sk ∧ σ = ⟨[(0, .pointer (some ⟨nb, 0, none⟩)), (2, .pointer (some ⟨rb, 0, none⟩)), (4, .pointer (some ⟨xb, 0, none⟩))], [], IMs qb nb l sk ((xb, Obj.cells #[.int .i64 k, zI, .int .u32 0, zI, zI, .int .u8 0, .bool false, .bool false, zI, zI, zI, zI, nilS, zI, zI, zI, zI, zI, zI, zI, zI, zI, .bool false, nilS] 35 (0, 0)) :: (rb, Obj.cells zc35 35 (0, 0)) :: F)⟩) ?_ ?_
  · by_cases hc : s1.c = 0
    · have d0 : (((s1.c : Nat) : Int) == 0) = true := by simp [hc]
      by_cases hn : k < 0
      · have d1 : decide (k < 0) = true := decide_eq_true hn
        repeat (first | refine RQ ?_ | (refine RE ?_; try intro _) | refine RC ?_ | refine WC_region (id := 4) ?_ | refine WC_region (id := 5) ?_)
        refine WL_op rfl (OW_stN (off := 1) (n := 2) (cs := #[.pointer (some ⟨qb, 0, none⟩), .int .i64 (s1.c : Nat), .int .i64 (s1.e : Nat)]) (vs := #[.int .i64 ((6 : Nat) : Int), .int .i64 (s.a : Nat)]) rfl ?_ (hl := Nat.le_refl 3))
        repeat (first | refine RQ ?_ | (refine RE ?_; try intro _) | refine RC ?_ | refine WC_region (id := 4) ?_ | refine WC_region (id := 5) ?_)
        exact ⟨_, ⟨_, kind_out G1 hc (by omega), rfl⟩, ⟨rfl, rfl, rfl, trivial⟩, rfl, .refl _⟩
      · have d1 : decide (k < 0) = false := decide_eq_false hn
        by_cases hm : k > 4
        · have d2 : decide (k > 4) = true := decide_eq_true hm
          repeat (first | refine RQ ?_ | (refine RE ?_; try intro _) | refine RC ?_ | refine WC_region (id := 4) ?_ | refine WC_region (id := 5) ?_)
          refine WL_op rfl (OW_stN (off := 1) (n := 2) (cs := #[.pointer (some ⟨qb, 0, none⟩), .int .i64 (s1.c : Nat), .int .i64 (s1.e : Nat)]) (vs := #[.int .i64 ((6 : Nat) : Int), .int .i64 (s.a : Nat)]) rfl ?_ (hl := Nat.le_refl 3))
          repeat (first | refine RQ ?_ | (refine RE ?_; try intro _) | refine RC ?_ | refine WC_region (id := 4) ?_ | refine WC_region (id := 5) ?_)
          exact ⟨_, ⟨_, kind_out G1 hc (by omega), rfl⟩, ⟨rfl, rfl, rfl, trivial⟩, rfl, .refl _⟩
        · have d2 : decide (k > 4) = false := decide_eq_false hm
          repeat (first | refine RQ ?_ | (refine RE ?_; try intro _) | refine RC ?_ | refine WC_region (id := 4) ?_ | refine WC_region (id := 5) ?_)
          exact ⟨_, ⟨_, kind_in G1 (fun _ => ⟨by omega, by omega⟩), rfl⟩, ⟨rfl, rfl, rfl, trivial⟩, rfl, .refl _⟩
    · have d0 : (((s1.c : Nat) : Int) == 0) = false := by simp; omega
      repeat (first | refine RQ ?_ | (refine RE ?_; try intro _) | refine RC ?_ | refine WC_region (id := 4) ?_ | refine WC_region (id := 5) ?_)
      exact ⟨_, ⟨_, kind_in G1 (fun q => absurd q hc), rfl⟩, ⟨rfl, rfl, rfl, trivial⟩, rfl, .refl _⟩
  rintro _ ⟨sk, GK, rfl⟩
  repeat (first | refine RQ ?_ | (refine RE ?_; try intro _) | refine RC ?_ | refine WC_region (id := 6) ?_)
  refine WL_op rfl (OW_call rfl (hF := n_any qb nb l sk _ GK.le hl GK.he) (hk := ?_))
  rintro _ _ ⟨s2, h2, rfl⟩
  obtain ⟨v, rfl, hv0, hv1⟩ := h2.oks.1
  have G2 := h2.genI
  repeat (first | refine RQ ?_ | (refine RE ?_; try intro _) | refine RC ?_ | refine WC_region (id := 6) ?_ | refine WC_region (id := 7) ?_)
  have fin : ∀ {m : MV} {sj : ISt}, IGen l (prBody l k v) s2 m sj → IGen l (prMsg l) s m sj := fun G3 => (GK.bindD (q := fun k a1 => (prI l a1).bind fun v a2 => prBody l k v a2) (G2.bindD (q := fun v a2 => prBody l k v a2) G3)).of_eq (prMsg_eq l)
  have N := MV.none_ok
  by_cases n0 : k = 0
  · have d0 : (k == 0) = true := by simpa using n0
    repeat (first | refine RQ ?_ | (refine RE ?_; try intro _) | refine RC ?_ | refine WC_region (id := 9) ?_ | refine WC_region (id := 10) ?_)
    refine WL_op rfl (OW_call rfl (hF := Rec_any qb nb l s2 _ h2.le hl h2.he) (hk := ?_))
    rintro _ _ ⟨us, s3, h3, rfl, rfl⟩
    have w0 := h3.oks
    obtain ⟨u0, us, rfl, _, w1⟩ := w0.split
    obtain ⟨u1, us, rfl, _, w2⟩ := w1.split
    obtain ⟨u2, us, rfl, _, w3⟩ := w2.split
    obtain ⟨u3, us, rfl, _, w4⟩ := w3.split
    obtain ⟨u4, us, rfl, _, w5⟩ := w4.split
    obtain ⟨u5, us, rfl, _, w6⟩ := w5.split
    obtain rfl := w6.nil
    have ox := h3.oks.cells1
    have hlen := h3.oks.len
    repeat (first | refine RQ ?_ | (refine RE ?_; try intro _) | refine RC ?_ | refine WC_region (id := 10) ?_)
    refine WL_op rfl (OW_stN (off := 2) (n := 6) rfl ?_ (hn := hlen) (h1 := ox) (hl := by exact Nat.le_of_ble_eq_true rfl))
    repeat (first | refine RQ ?_ | (refine RE ?_; try intro _) | refine RC ?_ | refine WC_region (id := 10) ?_)
    have hmo : ({ MV.none with kind := k, ver := v, rc := [u0, u1, u2, u3, u4, u5] } : MV).Ok := ⟨⟨hk0, hk1⟩, ⟨hv0, hv1⟩, h3.oks, N.time, N.num, N.ch, N.bins, N.ct, N.kh, N.ents⟩
    have hone : ((({ MV.none with kind := k, ver := v, rc := [u0, u1, u2, u3, u4, u5] } : MV).cellsV nilS nilS).toArray.toList.all fun v => v.oneCell') = true := MV.cellsV_one hmo rfl rfl
    repeat (first | refine RQ ?_ | (refine RE ?_; try intro _) | refine RC ?_ | refine WC_region (id := 17) ?_)
    exact ⟨rfl, _, _, Res1 rfl (resV_cellN rfl 3 rfl rfl), .cons_cons _ (.cons_cons _ (.cons _ (.cons _ (.refl _)))), ({ MV.none with kind := k, ver := v, rc := [u0, u1, u2, u3, u4, u5] } : MV), s3, nilS, nilS, [], [], fin ((h3.gen.map (fun x => ({ MV.none with kind := k, ver := v, rc := x } : MV))).of_eq (fun a => by unfold prBody; rw [if_pos n0])), hmo, Buf.nil _ _, Buf.nil _ _, rfl, rfl⟩
  by_cases n1 : k = 1
  · have d0 : (k == 0) = false := by simpa using n0
    have d1 : (k == 1) = true := by simpa using n1
    repeat (first | refine RQ ?_ | (refine RE ?_; try intro _) | refine RC ?_ | refine WC_region (id := 9) ?_ | refine WC_region (id := 11) ?_ | refine WC_region (id := 12) ?_)
    refine WL_op rfl (OW_call rfl (hF := i_any qb nb l s2 _ h2.le hl h2.he) (hk := ?_))
    rintro _ _ ⟨s3, h3, rfl⟩
    obtain ⟨x, rfl, hx0, hx1⟩ := h3.oks.1
    repeat (first | refine RQ ?_ | (refine RE ?_; try intro _) | refine RC ?_ | refine WC_region (id := 12) ?_)
    have hone : ((({ MV.none with kind := k, ver := v, time := x } : MV).cellsV nilS nilS).all fun v => v.oneCell') = true := rfl
    repeat (first | refine RQ ?_ | (refine RE ?_; try intro _) | refine RC ?_ | refine WC_region (id := 17) ?_)
    exact ⟨rfl, _, _, Res1 rfl (resV_cellN rfl 3 rfl rfl), .cons_cons _ (.cons_cons _ (.cons _ (.cons _ (.refl _)))), ({ MV.none with kind := k, ver := v, time := x } : MV), s3, nilS, nilS, [], [], fin ((h3.genI.map (fun x => ({ MV.none with kind := k, ver := v, time := x } : MV))).of_eq (fun a => by unfold prBody; rw [if_neg n0, if_pos n1])), ⟨⟨hk0, hk1⟩, ⟨hv0, hv1⟩, N.rc, ⟨hx0, hx1⟩, N.num, N.ch, N.bins, N.ct, N.kh, N.ents⟩, Buf.nil _ _, Buf.nil _ _, rfl, rfl⟩
  by_cases n2 : k = 2
  · have d0 : (k == 0) = false := by simpa using n0
    have d1 : (k == 1) = false := by simpa using n1
    have d2 : (k == 2) = true := by simpa using n2
    repeat (first | refine RQ ?_ | (refine RE ?_; try intro _) | refine RC ?_ | refine WC_region (id := 9) ?_ | refine WC_region (id := 11) ?_ | refine WC_region (id := 13) ?_ | refine WC_region (id := 14) ?_)
    refine WL_op rfl (OW_call rfl (hF := n_any qb nb l s2 _ h2.le hl h2.he) (hk := ?_))
    rintro _ _ ⟨s3, h3, rfl⟩
    obtain ⟨x, rfl, hx0, hx1⟩ := h3.oks.1
    repeat (first | refine RQ ?_ | (refine RE ?_; try intro _) | refine RC ?_ | refine WC_region (id := 14) ?_)
    have hone : ((({ MV.none with kind := k, ver := v, num := x } : MV).cellsV nilS nilS).all fun v => v.oneCell') = true := rfl
    repeat (first | refine RQ ?_ | (refine RE ?_; try intro _) | refine RC ?_ | refine WC_region (id := 17) ?_)
    exact ⟨rfl, _, _, Res1 rfl (resV_cellN rfl 3 rfl rfl), .cons_cons _ (.cons_cons _ (.cons _ (.cons _ (.refl _)))), ({ MV.none with kind := k, ver := v, num := x } : MV), s3, nilS, nilS, [], [], fin ((h3.genI.map (fun x => ({ MV.none with kind := k, ver := v, num := x } : MV))).of_eq (fun a => by unfold prBody; rw [if_neg n0, if_neg n1, if_pos n2])), ⟨⟨hk0, hk1⟩, ⟨hv0, hv1⟩, N.rc, N.time, ⟨hx0, hx1⟩, N.ch, N.bins, N.ct, N.kh, N.ents⟩, Buf.nil _ _, Buf.nil _ _, rfl, rfl⟩
  by_cases n3 : k = 3
  · have d0 : (k == 0) = false := by simpa using n0
    have d1 : (k == 1) = false := by simpa using n1
    have d2 : (k == 2) = false := by simpa using n2
    have d3 : (k == 3) = true := by simpa using n3
    repeat (first | refine RQ ?_ | (refine RE ?_; try intro _) | refine RC ?_ | refine WC_region (id := 9) ?_ | refine WC_region (id := 11) ?_ | refine WC_region (id := 13) ?_ | refine WC_region (id := 15) ?_ | refine WC_region (id := 16) ?_)
    refine WL_op rfl (OW_call rfl (hF := Cmd_any qb nb l s2 _ h2.le hl h2.he) (hk := ?_))
    rintro _ _ ⟨ch, bins, ct, s3, vb, T, h3, och, obins, oct, hbuf, rfl, rfl⟩
    refine WL_perm (perm4 _ _ _ _ T F) ?_
    have ob := hbuf.one
    have w0 := och
    obtain ⟨u0, us, rfl, _, w1⟩ := w0.split
    obtain ⟨u1, us, rfl, _, w2⟩ := w1.split
    obtain rfl := w2.nil
    have y0 := oct
    obtain ⟨x0, us, rfl, _, y1⟩ := y0.split
    obtain ⟨x1, us, rfl, _, y2⟩ := y1.split
    obtain ⟨x2, us, rfl, _, y3⟩ := y2.split
    obtain ⟨x3, us, rfl, _, y4⟩ := y3.split
    obtain ⟨x4, us, rfl, _, y5⟩ := y4.split
    obtain ⟨x5, us, rfl, _, y6⟩ := y5.split
    obtain ⟨x6, us, rfl, _, y7⟩ := y6.split
    obtain rfl := y7.nil
    have ox : (([u0, u1] ++ (vb :: [x0, x1, x2, x3, x4, x5, x6])).toArray.toList.all fun v => v.oneCell') = true := by
      show (([u0, u1] ++ (vb :: [x0, x1, x2, x3, x4, x5, x6])).all _) = true
      have a1 := och.cells1; have a2 := oct.cells1; rw [List.all_append, a1]; show (true && (vb.oneCell' && _)) = true; rw [ob, a2]; rfl
    repeat (first | refine RQ ?_ | (refine RE ?_; try intro _) | refine RC ?_ | refine WC_region (id := 16) ?_)
    refine WL_op rfl (OW_stN (off := 10) (n := 10) rfl ?_ (hn := rfl) (h1 := ox) (hl := by exact Nat.le_of_ble_eq_true rfl))
    repeat (first | refine RQ ?_ | (refine RE ?_; try intro _) | refine RC ?_ | refine WC_region (id := 16) ?_)
    have hmo : ({ MV.none with kind := k, ver := v, ch := [u0, u1], bins := bins, ct := [x0, x1, x2, x3, x4, x5, x6] } : MV).Ok := ⟨⟨hk0, hk1⟩, ⟨hv0, hv1⟩, N.rc, N.time, N.num, och, obins, oct, N.kh, N.ents⟩
    have hone : ((({ MV.none with kind := k, ver := v, ch := [u0, u1], bins := bins, ct := [x0, x1, x2, x3, x4, x5, x6] } : MV).cellsV vb nilS).toArray.toList.all fun v => v.oneCell') = true := MV.cellsV_one hmo ob rfl
    repeat (first | refine RQ ?_ | (refine RE ?_; try intro _) | refine RC ?_ | refine WC_region (id := 17) ?_)
    exact ⟨rfl, _, _, Res1 rfl (resV_cellN rfl 3 rfl rfl), .cons_cons _ (.cons_cons _ (.cons _ (.cons _ (.refl _)))), ({ MV.none with kind := k, ver := v, ch := [u0, u1], bins := bins, ct := [x0, x1, x2, x3, x4, x5, x6] } : MV), s3, vb, nilS, T, [], fin ((h3.map (fun x => ({ MV.none with kind := k, ver := v, ch := x.1, bins := x.2.1, ct := x.2.2 } : MV))).of_eq (fun a => by unfold prBody; rw [if_neg n0, if_neg n1, if_neg n2, if_pos n3])), hmo, hbuf, Buf.nil _ _, rfl, rfl⟩
  have d0 : (k == 0) = false := by simpa using n0
  have d1 : (k == 1) = false := by simpa using n1
  have d2 : (k == 2) = false := by simpa using n2
  have d3 : (k == 3) = false := by simpa using n3
  repeat (first | refine RQ ?_ | (refine RE ?_; try intro _) | refine RC ?_ | refine WC_region (id := 9) ?_ | refine WC_region (id := 11) ?_ | refine WC_region (id := 13) ?_ | refine WC_region (id := 15) ?_ | refine WC_region (id := 8) ?_)
  refine WL_op rfl (OW_call rfl (hF := Chunk_any qb nb l s2 _ h2.le hl h2.he) (hk := ?_))
  rintro _ _ ⟨kh, ents, s3, ve, T, h3, okh, oents, hbuf, rfl, rfl⟩
  refine WL_perm (perm4 _ _ _ _ T F) ?_
  have ob := hbuf.one
  have w0 := okh
  obtain ⟨u0, us, rfl, _, w1⟩ := w0.split
  obtain ⟨u1, us, rfl, _, w2⟩ := w1.split
  obtain ⟨u2, us, rfl, _, w3⟩ := w2.split
  obtain rfl := w3.nil
  have ox : (([u0, u1, u2] ++ [ve]).toArray.toList.all fun v => v.oneCell') = true := by
    show (([u0, u1, u2] ++ [ve]).all _) = true
    have a1 := okh.cells1; rw [List.all_append, a1]; show (true && (ve.oneCell' && _)) = true; rw [ob]; rfl
  repeat (first | refine RQ ?_ | (refine RE ?_; try intro _) | refine RC ?_ | refine WC_region (id := 8) ?_)
  refine WL_op rfl (OW_stN (off := 20) (n := 4) rfl ?_ (hn := rfl) (h1 := ox) (hl := by exact Nat.le_of_ble_eq_true rfl))
  repeat (first | refine RQ ?_ | (refine RE ?_; try intro _) | refine RC ?_ | refine WC_region (id := 8) ?_)
  have hmo : ({ MV.none with kind := k, ver := v, kh := [u0, u1, u2], ents := ents } : MV).Ok := ⟨⟨hk0, hk1⟩, ⟨hv0, hv1⟩, N.rc, N.time, N.num, N.ch, N.bins, N.ct, okh, oents⟩
  have hone : ((({ MV.none with kind := k, ver := v, kh := [u0, u1, u2], ents := ents } : MV).cellsV nilS ve).toArray.toList.all fun v => v.oneCell') = true := MV.cellsV_one hmo rfl ob
  repeat (first | refine RQ ?_ | (refine RE ?_; try intro _) | refine RC ?_ | refine WC_region (id := 17) ?_)
  exact ⟨rfl, _, _, Res1 rfl (resV_cellN rfl 3 rfl rfl), .cons_cons _ (.cons_cons _ (.cons _ (.cons _ (.refl _)))), ({ MV.none with kind := k, ver := v, kh := [u0, u1, u2], ents := ents } : MV), s3, nilS, ve, [], T, fin ((h3.map (fun x => ({ MV.none with kind := k, ver := v, kh := x.1, ents := x.2 } : MV))).of_eq (fun a => by unfold prBody; rw [if_neg n0, if_neg n1, if_neg n2, if_neg n3])), hmo, Buf.nil _ _, hbuf, rfl, rfl⟩
end Go.Proofs.YtakedlockchpcaaGreatDoor
namespace Go.Proofs.YtakedlockchpcaaGreatDoor
open Go.RowKit
theorem flat_get {vss : List (List Value)} {sz : Nat} : ∀ {j k : Nat} {vs : List Value} {v : Value}, (∀ vs ∈ vss, vs.length = sz) → vss[j]? = some vs → vs[k]? = some v → vss.flatten[j * sz + k]? = some v := by
  induction vss with
  | nil => intro j k vs v _ h; simp at h
  | cons x xs ih =>
    intro j k vs v hs h hk
    have hx := hs x (List.mem_cons_self ..)
    rw [List.flatten_cons]
    cases j with
    | zero =>
      simp only [List.getElem?_cons_zero, Option.some.injEq] at h
      subst h
      have := (List.getElem?_eq_some_iff.1 hk).1
      rw [Nat.zero_mul, Nat.zero_add, List.getElem?_append_left this]; exact hk
    | succ j =>
      rw [List.getElem?_cons_succ] at h
      rw [List.getElem?_append_right (by rw [hx, Nat.succ_mul]; omega), hx, show (j + 1) * sz + k - sz = j * sz + k by rw [Nat.succ_mul]; omega]
      exact ih (fun vs hv => hs vs (List.mem_cons_of_mem _ hv)) h hk
theorem Buf.elems {E sz : Nat} {v : Value} {T : List (Nat × Obj)} {n : Nat} {vss : List (List Value)} (h : Buf E sz v T n vss.flatten) (hs : ∀ vs ∈ vss, vs.length = sz) (hn : n = vss.length) : ∃ a cap, v = .slice a vss.length cap ∧ vss.length ≤ cap ∧ cap ≤ maxLen ∧ Elems T a sz vss := by
  subst hn
  rcases h with ⟨_, h2, rfl, rfl⟩ | ⟨g, off, cap, cur, rfl, rfl, ho⟩
  · have e : vss = [] := List.eq_nil_of_length_eq_zero h2
    subst e
    exact ⟨_, _, rfl, Nat.le_refl _, by simp [maxLen], .inl rfl⟩
  · refine ⟨_, _, rfl, ho.le, ho.max, .inr ⟨g, off, 0, cur, E, (0, 0), rfl, rfl, fun j vs hj => ⟨fun k v hk => ?_, Free.zero _ _⟩⟩⟩
    rw [Nat.add_assoc]
    exact ho.at_ _ _ (flat_get hs hj hk)
theorem cmd_one {cs : Array Value} {ch ct : List Value} {v : Value} (hz : cs.size = 10) (h1 : Oks chF ch) (h2 : Oks ctF ct) (hv : v.oneCell' = true) (hl : Lies cs 0 (ch ++ (v :: ct))) : (cs.toList.all fun v => v.oneCell') = true := by
  have l1 := h1.len
  have l2 := h2.len
  simp only [List.length_cons, List.length_nil] at l1 l2
  rw [lies_whole hl (by rw [hz]; simp only [List.length_append, List.length_cons]; omega)]
  show ((ch ++ (v :: ct)).all _) = true
  rw [List.all_append, List.all_cons, h1.cells1, h2.cells1, hv]; rfl
end Go.Proofs.YtakedlockchpcaaGreatDoor
namespace Go.Proofs.YtakedlockchpcaaGreatDoor
open Go.RowKit
theorem part1 {P : Program} {t : TypeId} [ha : TAgg P t false] {xs : Array Value} {off : Nat} {v : Value} (h : xs[off]? = some v) (w : World) : (part t xs off).run P w = .ok v w := by
  simp [part, ha.h, h]
theorem partN {P : Program} {t n : Nat} [ha : TAgg P t true] [hs : TSize P t n] {xs : Array Value} {off : Nat} (w : World) : (part t xs off).run P w = .ok (.agg (xs.extract off (off + n))) w := by
  simp [part, ha.h, hs.h]
section
variable {c : Cx} {s : List (Nat × Value)} {L : List (Nat × Obj)} {o : Oper}
end
end Go.Proofs.YtakedlockchpcaaGreatDoor
namespace Go.Proofs.YtakedlockchpcaaGreatDoor
open Go.RowKit
attribute [local irreducible] Fn WC WL WR OW Qt YieldFn QW FnP FnD FnE
def EqP (P : Program) (t : TypeId) (fs : List Fk) (h : Nat) : Prop := ∀ d, h ≤ d → ∀ (xs ys : Array Value) (off : Nat) (us vs : List Value), Lies xs off us → Lies ys off vs → Oks fs us → Oks fs vs → ∀ w,
  ∃ a b r, (part t xs off).run P w = .ok a w ∧ (part t ys off).run P w = .ok b w ∧ (Op.equalIn d t a b).run P w = .ok r w ∧ (r = true ↔ us = vs)
def EqFs (P : Program) (l : List Field) (o : Nat) (fs : List Fk) (h : Nat) : Prop := ∀ d, h ≤ d → ∀ (xs ys : Array Value) (us vs : List Value), Lies xs o us → Lies ys o vs → Oks fs us → Oks fs vs → ∀ w,
  ∃ r, (Op.eqFields d xs ys l).run P w = .ok r w ∧ (r = true ↔ us = vs)
theorem EqP.int {P : Program} {t : TypeId} {k : IntKind} {f : Fk} [hu : TUnd P t (.int k)] [ha : TAgg P t false] (hf : ∀ v, f.ok v → ∃ q x, v = .int q x) (hk : ∀ v u, f.ok v → f.ok u → ∀ q x, v = .int q x → ∃ y, u = .int q y) : EqP P t [f] 1 := fun d hd xs ys off us vs hx hy ho hp w => by
  obtain ⟨u, us, rfl, h1, h2⟩ := ho.split
  obtain ⟨v, vs, rfl, h3, h4⟩ := hp.split
  obtain rfl := h2.nil
  obtain rfl := h4.nil
  obtain ⟨q, x, rfl⟩ := hf u h1
  obtain ⟨y, rfl⟩ := hk _ v h1 h3 q x rfl
  obtain ⟨e, rfl⟩ : ∃ e, d = e + 1 := ⟨d - 1, by omega⟩
  refine ⟨_, _, _, part1 hx.cons.1 w, part1 hy.cons.1 w, run_equalIn_int w e t q k x y hu.h, ?_⟩
  simp
theorem EqP.ww {P : Program} {t : TypeId} {k : IntKind} [TUnd P t (.int k)] [TAgg P t false] : EqP P t [.ww] 1 :=
  EqP.int (fun v ⟨x, h, _⟩ => ⟨_, x, h⟩) fun v u ⟨x, h, _⟩ ⟨y, h', _⟩ q z e => ⟨y, by rw [h] at e; cases e; exact h'⟩
theorem EqP.nn {P : Program} {t : TypeId} {k : IntKind} [TUnd P t (.int k)] [TAgg P t false] : EqP P t [.nn] 1 :=
  EqP.int (fun v ⟨x, h, _⟩ => ⟨_, x, h⟩) fun v u ⟨x, h, _⟩ ⟨y, h', _⟩ q z e => ⟨y, by rw [h] at e; cases e; exact h'⟩
theorem EqP.kk {P : Program} {t : TypeId} {k : IntKind} [TUnd P t (.int k)] [TAgg P t false] : EqP P t [.kk] 1 :=
  EqP.int (fun v ⟨x, h, _⟩ => ⟨_, x, h⟩) fun v u ⟨x, h, _⟩ ⟨y, h', _⟩ q z e => ⟨y, by rw [h] at e; cases e; exact h'⟩
theorem EqP.bb {P : Program} {t : TypeId} {k : IntKind} [TUnd P t (.int k)] [TAgg P t false] : EqP P t [.bb] 1 :=
  EqP.int (fun v ⟨x, h⟩ => ⟨_, _, h⟩) fun v u ⟨x, h⟩ ⟨y, h'⟩ q z e => ⟨(y.toNat : Int), by rw [h] at e; cases e; exact h'⟩
theorem EqP.tt {P : Program} {t : TypeId} [hu : TUnd P t .bool] [TAgg P t false] : EqP P t [.tt] 1 := fun d hd xs ys off us vs hx hy ho hp w => by
  obtain ⟨u, us, rfl, ⟨x, rfl⟩, h2⟩ := ho.split
  obtain ⟨v, vs, rfl, ⟨y, rfl⟩, h4⟩ := hp.split
  obtain rfl := h2.nil
  obtain rfl := h4.nil
  obtain ⟨e, rfl⟩ : ∃ e, d = e + 1 := ⟨d - 1, by omega⟩
  refine ⟨_, _, _, part1 hx.cons.1 w, part1 hy.cons.1 w, run_equalIn_bool w e t x y hu.h, ?_⟩
  simp
theorem EqFs.nil {P : Program} {o h : Nat} : EqFs P [] o [] h := fun d _ xs ys us vs _ _ ho hp w => by
  obtain rfl := ho.nil
  obtain rfl := hp.nil
  exact ⟨true, by simp [Op.eqFields], by simp⟩
theorem EqFs.cons {P : Program} {f : Field} {l : List Field} {o h : Nat} {fs gs : List Fk} (hn : (f.name == "_") = false) (hof : f.offset = o) (h1 : EqP P f.type fs h) (h2 : EqFs P l (o + fs.length) gs h) : EqFs P (f :: l) o (fs ++ gs) h := fun d hd xs ys us vs hx hy ho hp w => by
  obtain ⟨u1, u2, rfl, o1, o2⟩ := ho.splitA
  obtain ⟨v1, v2, rfl, p1, p2⟩ := hp.splitA
  have x2 := hx.app.2
  have y2 := hy.app.2
  rw [o1.len] at x2
  rw [p1.len] at y2
  obtain ⟨a, b, r, q1, q2, q3, hiff⟩ := h1 d hd xs ys o u1 v1 hx.app.1 hy.app.1 o1 p1 w
  obtain ⟨r', q4, hiff'⟩ := h2 d hd xs ys u2 v2 x2 y2 o2 p2 w
  have hne : ¬ f.name = "_" := by simpa using hn
  rw [← hof] at q1 q2
  have hap : u1 ++ u2 = v1 ++ v2 ↔ u1 = v1 ∧ u2 = v2 := ⟨fun e => List.append_inj e (by rw [o1.len, p1.len]), fun ⟨e1, e2⟩ => by rw [e1, e2]⟩
  simp only [Op.eqFields, hne, ne_eq, not_false_eq_true, if_true, Sem.run_bind, q1, q2, q3, Result.andThen_ok]
  cases r
  · exact ⟨false, by simp, by simp only [Bool.false_eq_true, false_iff, hap]; intro e; exact absurd (hiff.2 e.1) (by simp)⟩
  · refine ⟨r', by simpa using q4, ?_⟩
    rw [hiff', hap]
    simp [hiff.1 rfl]
theorem EqP.struct {P : Program} {t h : Nat} {fs : Array Field} {ks : List Fk} [TAgg P t true] [hs : TSize P t ks.length] (ht : P.underlying t = some (.struct fs)) (hp : P.stoodInHeld t = false) (hf : EqFs P fs.toList 0 ks h) : EqP P t ks (h + 1) := fun d hd xs ys off us vs hx hy ho hv w => by
  obtain ⟨e, rfl⟩ : ∃ e, d = e + 1 := ⟨d - 1, by omega⟩
  have ht' : P.underlying t = some (.struct (P.fieldsOf t)) := by rw [ht]; simp [Program.fieldsOf, ht]
  have hfs : P.fieldsOf t = fs := by simp [Program.fieldsOf, ht]
  have l1 : Lies (xs.extract off (off + ks.length)) 0 us := lies_extract hx (by rw [ho.len]; exact Nat.le_refl _)
  have l2 : Lies (ys.extract off (off + ks.length)) 0 vs := lies_extract hy (by rw [hv.len]; exact Nat.le_refl _)
  obtain ⟨r, q, hiff⟩ := hf e (by omega) _ _ us vs l1 l2 ho hv w
  exact ⟨_, _, r, partN w, partN w, by rw [run_equalIn_struct w e t _ _ ht' hp, hfs]; exact q, hiff⟩
theorem EqP.up {P : Program} {t h h' : Nat} {fs : List Fk} (H : EqP P t fs h) (hh : h ≤ h') : EqP P t fs h' := fun d hd => H d (by omega)
structure EqV (P : Program) (t : TypeId) (a b : Array Value) (r : Bool) : Prop where
  guard : P.eqGuardType P.depth t = false
  run : ∀ w, (Op.equalIn 10000 t (.agg a) (.agg b)).run P w = .ok r w
theorem EqP.eqv {P : Program} {t h : Nat} {fs : List Fk} (H : EqP P t fs h) [TAgg P t true] [TSize P t fs.length] (hh : h ≤ 10000) (hg : P.eqGuardType P.depth t = false) {cs ds : Array Value} {us vs : List Value} (hz1 : cs.size = fs.length) (hz2 : ds.size = fs.length) (h1 : Lies cs 0 us) (h2 : Lies ds 0 vs) (ho : Oks fs us) (hv : Oks fs vs) {r : Bool} (hr : r = true ↔ us = vs) : EqV P t cs ds r := ⟨hg, fun w => by
  obtain ⟨a, b, r', q1, q2, q3, hiff⟩ := H 10000 hh cs ds 0 us vs h1 h2 ho hv w
  rw [partN, Nat.zero_add] at q1 q2
  cases q1; cases q2
  rw [← hz1, Array.extract_size] at q3
  rw [hz1, ← hz2, Array.extract_size] at q3
  rw [q3, show r' = r from Bool.eq_iff_iff.2 (hiff.trans hr.symm)]⟩
theorem EqP.same {P : Program} {t h : Nat} {fs : List Fk} (H : EqP P t fs h) [TAgg P t true] [TSize P t fs.length] (hh : h ≤ 10000) (hg : P.eqGuardType P.depth t = false) {cs ds : Array Value} {us : List Value} (hz1 : cs.size = fs.length) (hz2 : ds.size = fs.length) (h1 : Lies cs 0 us) (h2 : Lies ds 0 us) (ho : Oks fs us) : EqV P t cs ds true :=
  H.eqv hh hg hz1 hz2 h1 h2 ho ho (by simp)
section
variable {c : Cx} {s : List (Nat × Value)} {L : List (Nat × Obj)} {o : Oper}
theorem Qt_eql_flat {t t' : TypeId} {x y : Operand} {a b : Array Value} {r : Bool} (ho : o.op = .binOp .eql t x y t') (hx : ev s x = some (.agg a) := by exact rfl) (hy : ev s y = some (.agg b) := by exact rfl) (h : EqV c.P t a b r := by with_reducible assumption) : Qt c s L o (.bool r) :=
  Qt_of_run (by simp [ho]) (fun ρ hρ w _ => by
    have h1 := run_eqGuard_agg (P := c.P) w .eql t x y a b h.guard
    have h2 := run_eql_struct (P := c.P) w t a b
    rw [h.run w] at h2
    simp [execOp, ho, hρ x _ hx, hρ y _ hy, h1, h2, Result.andThen])
theorem Qt_neq_flat {t t' : TypeId} {x y : Operand} {a b : Array Value} {r : Bool} (ho : o.op = .binOp .neq t x y t') (hx : ev s x = some (.agg a) := by exact rfl) (hy : ev s y = some (.agg b) := by exact rfl) (h : EqV c.P t a b r := by with_reducible assumption) : Qt c s L o (.bool (!r)) :=
  Qt_of_run (by simp [ho]) (fun ρ hρ w _ => by
    have h1 := run_eqGuard_agg (P := c.P) w .neq t x y a b h.guard
    have h2 := run_neq_struct (P := c.P) w t a b
    rw [h.run w] at h2
    simp [execOp, ho, hρ x _ hx, hρ y _ hy, h1, h2, Result.andThen])
end
theorem eqp_Rec : EqP Tryz.prog 25 recF 9 := ((EqP.struct (h := 1) Tryz.underlying25 (by kernel_rfl) (EqFs.cons rfl rfl EqP.kk (EqFs.cons rfl rfl EqP.ww (EqFs.cons rfl rfl EqP.ww (EqFs.cons rfl rfl EqP.bb (EqFs.cons rfl rfl EqP.tt (EqFs.cons rfl rfl EqP.tt (EqFs.nil))))))))).up (by decide)
theorem eqp_Op : EqP Tryz.prog 28 opF 9 := ((EqP.struct (h := 1) Tryz.underlying28 (by kernel_rfl) (EqFs.cons rfl rfl EqP.ww (EqFs.cons rfl rfl EqP.ww (EqFs.cons rfl rfl EqP.ww (EqFs.cons rfl rfl EqP.ww (EqFs.nil))))))).up (by decide)
theorem eqp_Acc : EqP Tryz.prog 43 accF 9 := ((EqP.struct (h := 1) Tryz.underlying43 (by kernel_rfl) (EqFs.cons rfl rfl EqP.ww (EqFs.cons rfl rfl EqP.ww (EqFs.cons rfl rfl EqP.nn (EqFs.cons rfl rfl EqP.ww (EqFs.cons rfl rfl EqP.ww (EqFs.nil)))))))).up (by decide)
theorem eqp_Item : EqP Tryz.prog 37 itemF 9 := ((EqP.struct (h := 2) Tryz.underlying37 (by kernel_rfl) (EqFs.cons rfl rfl (EqP.tt.up (by decide)) (EqFs.cons rfl rfl (EqP.ww.up (by decide)) (EqFs.cons rfl rfl (EqP.struct (h := 1) Tryz.underlying25 (by kernel_rfl) (EqFs.cons rfl rfl EqP.kk (EqFs.cons rfl rfl EqP.ww (EqFs.cons rfl rfl EqP.ww (EqFs.cons rfl rfl EqP.bb (EqFs.cons rfl rfl EqP.tt (EqFs.cons rfl rfl EqP.tt (EqFs.nil)))))))) (EqFs.nil)))))).up (by decide)
theorem eqp_Entry : EqP Tryz.prog 45 entryF 9 := ((EqP.struct (h := 2) Tryz.underlying45 (by kernel_rfl) (EqFs.cons rfl rfl (EqP.ww.up (by decide)) (EqFs.cons rfl rfl (EqP.kk.up (by decide)) (EqFs.cons rfl rfl (EqP.ww.up (by decide)) (EqFs.cons rfl rfl (EqP.ww.up (by decide)) (EqFs.cons rfl rfl (EqP.bb.up (by decide)) (EqFs.cons rfl rfl (EqP.struct (h := 1) Tryz.underlying43 (by kernel_rfl) (EqFs.cons rfl rfl EqP.ww (EqFs.cons rfl rfl EqP.ww (EqFs.cons rfl rfl EqP.nn (EqFs.cons rfl rfl EqP.ww (EqFs.cons rfl rfl EqP.ww (EqFs.nil))))))) (EqFs.nil))))))))).up (by decide)
theorem guard_Rec : Tryz.prog.eqGuardType Tryz.prog.depth 25 = false := by kernel_rfl
theorem guard_Op : Tryz.prog.eqGuardType Tryz.prog.depth 28 = false := by kernel_rfl
theorem guard_Acc : Tryz.prog.eqGuardType Tryz.prog.depth 43 = false := by kernel_rfl
theorem guard_Item : Tryz.prog.eqGuardType Tryz.prog.depth 37 = false := by kernel_rfl
theorem guard_Entry : Tryz.prog.eqGuardType Tryz.prog.depth 45 = false := by kernel_rfl
end Go.Proofs.YtakedlockchpcaaGreatDoor
namespace Go.Proofs.YtakedlockchpcaaGreatDoor
open Go.RowKit
theorem WC_late5 {c : Cx} {a b d e f z y : Code} {K : Exit → St → Prop} {σ : St} (Q : St → Prop) (h : (∀ σ, meetQ Q σ → WC c z (thenK (WC c y K) K) σ) → WC c a (thenK (WC c (.seq b (.seq d (.seq (.seq e f) (.seq z y)))) K) K) σ) (hz : ∀ σ, Q σ → WC c z (thenK (WC c y K) K) σ) : WC c a (thenK (WC c (.seq b (.seq d (.seq (.seq e f) (.seq z y)))) K) K) σ :=
  h fun _ ⟨σ', hQ, hs, hD, hL⟩ => WC_lessen hs hD hL (hz σ' hQ)
attribute [local irreducible] Fn WC WL WR OW Qt YieldFn QW FnP FnD FnE
theorem in03_fn {l : List UInt8} {L : List (Nat × Obj)} : Fn Tryz.prog 69 [.string (bstr l)] L (fun v L' => ∃ qb nb, v = .pointer (some ⟨nb, 0, none⟩) ∧ L' = (nb, inO qb 0 0) :: (qb, qdO l 0) :: L) := by
  refine Fn_enter Tryz.func69 rfl Tryz.ntmps69 rfl fun g => ?_
  repeat (first | refine RQ ?_ | ((first | refine WL_Q ?_); (first | refine QW_of (Qt_eql_struct rfl) ?_ | refine QW_of (Qt_eql_flat rfl) ?_)) | (refine RE ?_; try intro _) | refine RC ?_ | refine WC_region ?_)
  exact ⟨rfl, _, _, Res1 rfl (resV_tmp rfl), .refl _, _, _, rfl, rfl⟩
theorem is03_nil {L : List (Nat × Obj)} : Fn Tryz.prog 68 [.nilIface, fltA 0 0] L (fun v L' => v = .bool true ∧ L' = L) := by
  have d1 : (((0 : Nat) : Int) == 0) = true := by decide
  refine Fn_enter Tryz.func68 rfl Tryz.ntmps68 rfl fun g => ?_
  repeat (first | refine RQr ?_ | ((first | refine WL_Q ?_ | refine WL_Y ?_ | refine WR_Q rfl ?_ | refine WR_late rfl rfl rfl (OW_Q ?_) | refine WR_Y rfl ?_); (first | refine QW_of (Qt_eql_struct rfl) ?_ | refine QW_of (Qt_eql_flat rfl) ?_)) | ((first | refine WL_op rfl ?_ | refine WL_yes (h := ?_) | refine WR_late rfl rfl rfl ?_ | refine WR_opG rfl rfl ?_ | refine WR_opYG rfl (h := ?_)); (first | (refine OE ?_; try intro _)); try refine SD ?_) | refine RC ?_ | refine RU ?_ | refine WC_draw_all (id := 4) 18 (.calm 0 <| .calm 1 <| .must 2 <| .calm 3 <| .calm 4 <| .calm 5 <| .calm 6 <| .calm 7 <| .calm 8 <| .calm 9 <| .calm 10 <| .calm 11 <| .calm 12 <| .calm 13 <| .calm 14 <| .must 15 <| .calm 16 <| .calm 17 <| .done) mixed (by kernel_rfl) ?_ | refine WC_region ?_)
  exact ⟨rfl, _, _, Res1 rfl (resV_tmp rfl), .cons _ (.refl _), rfl, rfl⟩
set_option maxHeartbeats 1000000 in
theorem is03_flt {L : List (Nat × Obj)} (hH : HandleIn L) {p code a i : Nat} (hc : code ≠ 0) (hi : L[i]? = some (p, fltO code a)) : Fn Tryz.prog 68 [flt p, fltA code a] L (fun v L' => v = .bool true ∧ L' = L) := by
  have d1 : (((code : Nat) : Int) == 0) = false := by simp; omega
  refine Fn_enter Tryz.func68 rfl Tryz.ntmps68 rfl fun g => ?_
  repeat (first | refine RQ ?_ | ((first | refine WL_Q ?_ | refine WL_Y ?_); (first | refine QW_of (Qt_eql_struct rfl) ?_ | refine QW_of (Qt_eql_flat rfl) ?_)) | (refine RE ?_; try intro _) | refine RC ?_ | refine WC_regB 4 ?_)
  rename_i b3 b5
  refine WC_draw_sub (id := 4) 18 (.calm 0 <| .calm 1 <| .must 2 <| .calm 3 <| .calm 4 <| .calm 5 <| .calm 6 <| .calm 7 <| .calm 8 <| .calm 9 <| .calm 10 <| .calm 11 <| .calm 12 <| .calm 13 <| .calm 14 <| .must 15 <| .calm 16 <| .calm 17 <| .done) mixed (by kernel_rfl) (.cons _ (.refl _)) ?_
  repeat (first | refine RQr ?_ | ((first | refine WL_Q ?_ | refine WL_Y ?_ | refine WR_Q rfl ?_ | refine WR_late rfl rfl rfl (OW_Q ?_) | refine WR_Y rfl ?_); (first | refine QW_of (Qt_eql_struct rfl) ?_ | refine QW_of (Qt_eql_flat rfl) ?_)) | ((first | refine WL_op rfl ?_ | refine WL_yes (h := ?_) | refine WR_late rfl rfl rfl ?_ | refine WR_opG rfl rfl ?_ | refine WR_opYG rfl (h := ?_)); (first | (refine OE ?_; try intro _)); try refine SD ?_) | refine RC ?_ | refine RU ?_ | refine WC_draw_all (id := 4) 18 (.calm 0 <| .calm 1 <| .must 2 <| .calm 3 <| .calm 4 <| .calm 5 <| .calm 6 <| .calm 7 <| .calm 8 <| .calm 9 <| .calm 10 <| .calm 11 <| .calm 12 <| .calm 13 <| .calm 14 <| .must 15 <| .calm 16 <| .calm 17 <| .done) mixed (by kernel_rfl) ?_ | refine WC_region ?_)
  refine WR_opG rfl rfl (OW_call rfl (hF := as_fn (hH.cons _ |>.cons _) (i := 0) rfl) (hk := ?_))
  rintro _ _ ⟨rfl, rfl⟩
  refine ⟨(by first | exact fun _ h => h | exact fun _ h => List.Sublist.subset (by repeat (first | exact .refl _ | exact List.nil_sublist _ | exact List.sublist_append_right _ _ | exact List.Sublist.append (.refl _) (List.sublist_append_right _ _) | apply List.Sublist.cons_cons | apply List.Sublist.cons)) h), ?_⟩
  have hi2 : ((b5, Obj.cells #[.pointer (some ⟨p, 0, none⟩)] 171 (0, 0)) :: (b3, Obj.cells #[.int .i64 code, .int .i64 a] 103 (0, 0)) :: L)[i + 2]? = some (p, fltO code a) := hi
  have d2 : (((code : Nat) : Int) == (code : Int)) = true := by simp
  simp only [List.set_cons_zero]
  repeat (first | refine RQr ?_ | ((first | refine WL_Q ?_ | refine WL_Y ?_ | refine WR_Q rfl ?_ | refine WR_late rfl rfl rfl (OW_Q ?_) | refine WR_Y rfl ?_); (first | refine QW_of (Qt_eql_struct rfl) ?_ | refine QW_of (Qt_eql_flat rfl) ?_)) | ((first | refine WL_op rfl ?_ | refine WL_yes (h := ?_) | refine WR_late rfl rfl rfl ?_ | refine WR_opG rfl rfl ?_ | refine WR_opYG rfl (h := ?_)); (first | (refine OE ?_; try intro _)); try refine SD ?_) | refine RC ?_ | refine RU ?_ | refine WC_draw_all (id := 4) 18 (.calm 0 <| .calm 1 <| .must 2 <| .calm 3 <| .calm 4 <| .calm 5 <| .calm 6 <| .calm 7 <| .calm 8 <| .calm 9 <| .calm 10 <| .calm 11 <| .calm 12 <| .calm 13 <| .calm 14 <| .must 15 <| .calm 16 <| .calm 17 <| .done) mixed (by kernel_rfl) ?_ | refine WC_region ?_)
  refine WR_opYG rfl (h := OW_callP rfl (hF := Is_fn hi2) (hk := ?_))
  refine ⟨(by first | exact fun _ h => h | exact fun _ h => List.Sublist.subset (by repeat (first | exact .refl _ | exact List.nil_sublist _ | exact List.sublist_append_right _ _ | exact List.Sublist.append (.refl _) (List.sublist_append_right _ _) | apply List.Sublist.cons_cons | apply List.Sublist.cons)) h), ?_⟩
  repeat (first | refine RQr ?_ | ((first | refine WL_Q ?_ | refine WL_Y ?_ | refine WR_Q rfl ?_ | refine WR_late rfl rfl rfl (OW_Q ?_) | refine WR_Y rfl ?_); (first | refine QW_of (Qt_eql_struct rfl) ?_ | refine QW_of (Qt_eql_flat rfl) ?_)) | ((first | refine WL_op rfl ?_ | refine WL_yes (h := ?_) | refine WR_late rfl rfl rfl ?_ | refine WR_opG rfl rfl ?_ | refine WR_opYG rfl (h := ?_)); (first | (refine OE ?_; try intro _)); try refine SD ?_) | refine RC ?_ | refine RU ?_ | refine WC_draw_all (id := 4) 18 (.calm 0 <| .calm 1 <| .must 2 <| .calm 3 <| .calm 4 <| .calm 5 <| .calm 6 <| .calm 7 <| .calm 8 <| .calm 9 <| .calm 10 <| .calm 11 <| .calm 12 <| .calm 13 <| .calm 14 <| .must 15 <| .calm 16 <| .calm 17 <| .done) mixed (by kernel_rfl) ?_ | refine WC_region ?_)
  refine ⟨rfl, _, _, Res1 rfl (resV_tmp rfl), .cons _ (.cons _ (.refl _)), ?_, rfl⟩
  rw [d2]
set_option maxHeartbeats 2000000 in
theorem sameCmd_fn {cs ds : Array Value} {L : List (Nat × Obj)} {a a2 : Option Addr} {cap cap2 : Nat} {ch ct : List Value} {bins : List (List Value)} (hz : cs.size = 10) (hz2 : ds.size = 10) (hn : bins.length ≤ 1000000) (hch : Oks chF ch) (hct : Oks ctF ct) (hb : ∀ vs ∈ bins, Oks binF vs)
    (hl : Lies cs 0 (ch ++ (.slice a bins.length cap :: ct))) (he : Elems L a 1 bins) (hl2 : Lies ds 0 (ch ++ (.slice a2 bins.length cap2 :: ct))) (he2 : Elems L a2 1 bins) :
    Fn Tryz.prog 74 [.agg cs, .agg ds] L (fun v L' => v = .bool true ∧ L' = L) := by
  have o1 := cmd_one hz hch hct rfl hl
  have o2 := cmd_one hz2 hch hct rfl hl2
  have q1 : (encCmd ch bins ct == encCmd ch bins ct) = true := beq_self_eq_true _
  refine Fn_enter Tryz.func74 rfl Tryz.ntmps74 rfl fun g => ?_
  repeat (first | refine RQr ?_ | ((first | refine WL_Q ?_ | refine WR_Q rfl ?_ | refine WR_late rfl rfl rfl (OW_Q ?_)); (first | refine QW_of (Qt_eql_struct rfl) ?_ | refine QW_of (Qt_eql_flat rfl) ?_)) | ((first | refine WL_op rfl ?_ | refine WR_late rfl rfl rfl ?_ | refine WR_opG rfl rfl ?_); (first | (refine OE ?_; try intro _) | refine OW_callP rfl (hF := rCmd_fn hz hn hch hct hb hl (by repeat (first | with_reducible assumption | apply Elems.cons))) (hk := ?_) | refine OW_callP rfl (hF := rCmd_fn hz2 hn hch hct hb hl2 (by repeat (first | with_reducible assumption | apply Elems.cons))) (hk := ?_)); try refine SD ?_) | refine RC ?_ | refine RU ?_ | refine WC_draw_all (id := 1) 6 (.calm 0 <| .calm 2 <| .must 1 <| .must 3 <| .calm 4 <| .calm 5 <| .done) mixed (by kernel_rfl) ?_ | refine WC_region ?_)
  rw [q1]
  exact ⟨rfl, _, L, Res1 rfl (resV_tmp rfl), .cons _ (.cons _ (.refl _)), rfl, rfl⟩
set_option maxHeartbeats 2000000 in
theorem sameChunk_fn {cs ds : Array Value} {L : List (Nat × Obj)} {a a2 : Option Addr} {cap cap2 : Nat} {kh : List Value} {ents : List (List Value)} (hz : cs.size = 4) (hz2 : ds.size = 4) (hn : ents.length ≤ 1000000) (hkh : Oks khF kh) (hb : ∀ vs ∈ ents, Oks entryF vs)
    (hl : Lies cs 0 (kh ++ [.slice a ents.length cap])) (he : Elems L a 10 ents) (hl2 : Lies ds 0 (kh ++ [.slice a2 ents.length cap2])) (he2 : Elems L a2 10 ents) :
    Fn Tryz.prog 78 [.agg cs, .agg ds] L (fun v L' => v = .bool true ∧ L' = L) := by
  have one : ∀ {cs : Array Value} {a : Option Addr} {cap : Nat}, cs.size = 4 → Lies cs 0 (kh ++ [.slice a ents.length cap]) → (cs.toList.all fun v => v.oneCell') = true := fun hz hl => by
    have l1 := hkh.len
    simp only [List.length_cons, List.length_nil] at l1
    rw [lies_whole hl (by rw [hz]; simp only [List.length_append, List.length_cons, List.length_nil]; omega)]
    show ((kh ++ [_]).all _) = true
    rw [List.all_append, hkh.cells1]; rfl
  have o1 := one hz hl
  have o2 := one hz2 hl2
  have q1 : (encChunk kh ents == encChunk kh ents) = true := beq_self_eq_true _
  refine Fn_enter Tryz.func78 rfl Tryz.ntmps78 rfl fun g => ?_
  repeat (first | refine RQr ?_ | ((first | refine WL_Q ?_ | refine WR_Q rfl ?_ | refine WR_late rfl rfl rfl (OW_Q ?_)); (first | refine QW_of (Qt_eql_struct rfl) ?_ | refine QW_of (Qt_eql_flat rfl) ?_)) | ((first | refine WL_op rfl ?_ | refine WR_late rfl rfl rfl ?_ | refine WR_opG rfl rfl ?_); (first | (refine OE ?_; try intro _) | refine OW_callP rfl (hF := rChunk_fn hn hkh hb hl (by repeat (first | with_reducible assumption | apply Elems.cons))) (hk := ?_) | refine OW_callP rfl (hF := rChunk_fn hn hkh hb hl2 (by repeat (first | with_reducible assumption | apply Elems.cons))) (hk := ?_)); try refine SD ?_) | refine RC ?_ | refine RU ?_ | refine WC_draw_all (id := 1) 6 (.calm 0 <| .calm 2 <| .must 1 <| .must 3 <| .calm 4 <| .calm 5 <| .done) mixed (by kernel_rfl) ?_ | refine WC_region ?_)
  rw [q1]
  exact ⟨rfl, _, L, Res1 rfl (resV_tmp rfl), .cons _ (.cons _ (.refl _)), rfl, rfl⟩
set_option maxHeartbeats 4000000 in
theorem sameMsg_fn {cs ds : Array Value} {L : List (Nat × Obj)} {m : MV} {a a' a2 a2' : Option Addr} {cap cap' cap2 cap2' : Nat} (h : MsgAt L cs m a cap a' cap') (h2 : MsgAt L ds m a2 cap2 a2' cap2') (nb : m.bins.length ≤ 1000000) (ne : m.ents.length ≤ 1000000) :
    Fn Tryz.prog 71 [.agg cs, .agg ds] L (fun v L' => v = .bool true ∧ L' = L) := by
  have hz := h.size
  have hz2 := h2.size
  have o1 := MV.all_one h.ok h.size h.lies
  have o2 := MV.all_one h2.ok h2.size h2.lies
  obtain ⟨g0, g1, g2, g3, g4, g5, g6⟩ := MV.cells_at h.ok h.lies
  simp only [Nat.zero_add] at g0 g1 g2 g3 g4 g5 g6
  obtain ⟨k0, k1, k2, k3, k4, k5, k6⟩ := MV.cells_at h2.ok h2.lies
  simp only [Nat.zero_add] at k0 k1 k2 k3 k4 k5 k6
  have q0 : (m.kind == m.kind) = true := beq_self_eq_true _
  have q1 : (m.ver == m.ver) = true := beq_self_eq_true _
  have q3 : (m.time == m.time) = true := beq_self_eq_true _
  have q4 : (m.num == m.num) = true := beq_self_eq_true _
  have lr := h.ok.rc.len
  have lc := h.ok.ch.len
  have lt := h.ok.ct.len
  have lk := h.ok.kh.len
  simp only [List.length_cons, List.length_nil] at lr lc lt lk
  have zr : (cs.extract 2 (2 + 6)).size = 6 := size_extract (by omega)
  have yr : (ds.extract 2 (2 + 6)).size = 6 := size_extract (by omega)
  have z5 : (cs.extract 10 (10 + 10)).size = 10 := size_extract (by omega)
  have y5 : (ds.extract 10 (10 + 10)).size = 10 := size_extract (by omega)
  have z6 : (cs.extract 20 (20 + 4)).size = 4 := size_extract (by omega)
  have y6 : (ds.extract 20 (20 + 4)).size = 4 := size_extract (by omega)
  have r1 : Lies (cs.extract 2 (2 + 6)) 0 m.rc := lies_extract g2 (by omega)
  have r2 : Lies (ds.extract 2 (2 + 6)) 0 m.rc := lies_extract k2 (by omega)
  have s5 : Lies (cs.extract 10 (10 + 10)) 0 (m.ch ++ (.slice a m.bins.length cap :: m.ct)) := lies_extract g5 (by simp only [List.length_append, List.length_cons]; omega)
  have t5 : Lies (ds.extract 10 (10 + 10)) 0 (m.ch ++ (.slice a2 m.bins.length cap2 :: m.ct)) := lies_extract k5 (by simp only [List.length_append, List.length_cons]; omega)
  have s6 : Lies (cs.extract 20 (20 + 4)) 0 (m.kh ++ [.slice a' m.ents.length cap']) := lies_extract g6 (by simp only [List.length_append, List.length_cons, List.length_nil]; omega)
  have t6 : Lies (ds.extract 20 (20 + 4)) 0 (m.kh ++ [.slice a2' m.ents.length cap2']) := lies_extract k6 (by simp only [List.length_append, List.length_cons, List.length_nil]; omega)
  have eqr : EqV Tryz.prog 25 (cs.extract 2 (2 + 6)) (ds.extract 2 (2 + 6)) true := eqp_Rec.same (by decide) guard_Rec zr yr r1 r2 h.ok.rc
  have hch := h.ok.ch
  have hct := h.ok.ct
  have hkh := h.ok.kh
  have hbi := h.ok.bins
  have hen := h.ok.ents
  have e1 := h.bins
  have e2 := h.ents
  have e3 := h2.bins
  have e4 := h2.ents
  refine Fn_enter Tryz.func71 rfl Tryz.ntmps71 rfl fun g => ?_
  repeat (first | refine RQ ?_ | ((first | refine WL_Q ?_ | refine WL_Y ?_); (first | refine QW_of (Qt_eql_struct rfl) ?_ | refine QW_of (Qt_eql_flat rfl) ?_)) | (refine RE ?_; try intro _) | ((first | refine WL_op rfl ?_ | refine WL_yes (h := ?_)); (first | refine OW_callP rfl (hF := sameCmd_fn z5 y5 nb hch hct hbi s5 (by repeat (first | with_reducible assumption | apply Elems.cons)) t5 (by repeat (first | with_reducible assumption | apply Elems.cons))) (hk := ?_) | refine OW_callP rfl (hF := sameChunk_fn z6 y6 ne hkh hen s6 (by repeat (first | with_reducible assumption | apply Elems.cons)) t6 (by repeat (first | with_reducible assumption | apply Elems.cons))) (hk := ?_))) | refine RC ?_ | refine WC_region ?_)
  exact ⟨rfl, _, L, Res1 rfl (resV_tmp rfl), .cons _ (.cons _ (.refl _)), rfl, rfl⟩
end Go.Proofs.YtakedlockchpcaaGreatDoor
namespace Go.Proofs.YtakedlockchpcaaGreatDoor
open Go.RowKit
attribute [local irreducible] Fn WC WL WR OW Qt YieldFn QW FnP FnD FnE
theorem IStep.same_ok {l : List UInt8} {fs : List Fk} {us vs : List Value} {b : Nat} {s' : ISt} (h : IStep l fs ⟨0, 0, 0⟩ vs s') (h1 : prs l fs 0 = .ok us b) : vs = us ∧ s'.c = 0 ∧ s'.e = 0 := by
  rcases h.ok rfl with ⟨e, c, e0⟩ | ⟨e, _⟩
  · rw [h1] at e
    cases e
    exact ⟨rfl, c, e0⟩
  · rw [h1] at e; cases e
theorem IStep.same_bad {l : List UInt8} {fs : List Fk} {vs : List Value} {c e : Nat} {s' : ISt} (h : IStep l fs ⟨0, 0, 0⟩ vs s') (h1 : prs l fs 0 = .bad c e) : s'.c = c ∧ s'.e = e ∧ c ≠ 0 := by
  rcases h.ok rfl with ⟨e, c, e0⟩ | ⟨e, c⟩
  · rw [h1] at e; cases e
  · rw [h1] at e
    cases e
    exact ⟨rfl, rfl, c⟩
theorem IGen.same_ok {α : Type} {l : List UInt8} {p : Nat → PR α} {x y : α} {b : Nat} {s' : ISt} (h : IGen l p ⟨0, 0, 0⟩ y s') (h1 : p 0 = .ok x b) : y = x ∧ s'.c = 0 ∧ s'.e = 0 := by
  rcases h.ok rfl with ⟨e, c⟩ | ⟨e, _⟩
  · rw [h1] at e
    cases e
    exact ⟨rfl, c, h.he c⟩
  · rw [h1] at e; cases e
theorem IGen.same_bad {α : Type} {l : List UInt8} {p : Nat → PR α} {y : α} {c e : Nat} {s' : ISt} (h : IGen l p ⟨0, 0, 0⟩ y s') (h1 : p 0 = .bad c e) : s'.c = c ∧ s'.e = e ∧ c ≠ 0 := by
  rcases h.ok rfl with ⟨e, c⟩ | ⟨e, c⟩
  · rw [h1] at e; cases e
  · rw [h1] at e
    cases e
    exact ⟨rfl, rfl, c⟩
theorem msgAt_of {m : MV} {vb ve : Value} {T1 T2 : List (Nat × Obj)} (h : m.Ok) (h2 : Buf 3 1 vb T1 m.bins.length m.bins.flatten) (h3 : Buf 45 10 ve T2 m.ents.length m.ents.flatten) : ∃ x cap x' cap', MsgAt (T1 ++ T2) (m.cellsV vb ve).toArray m x cap x' cap' := by
  obtain ⟨x, cap, rfl, q1, q2, e1⟩ := h2.elems (fun vs hv => (h.bins vs hv).len) rfl
  obtain ⟨x', cap', rfl, q3, q4, e2⟩ := h3.elems (fun vs hv => (h.ents vs hv).len) rfl
  exact ⟨x, cap, x', cap', h, MV.cellsV_len h, lies_self, e1.mem fun _ hq => List.mem_append_left _ hq, e2.mem fun _ hq => List.mem_append_right _ hq, q1, q3, q2, q4⟩
theorem MsgAt.mem' {L L' : List (Nat × Obj)} {cs : Array Value} {m : MV} {a : Option Addr} {cap : Nat} {a' : Option Addr} {cap' : Nat} (h : MsgAt L cs m a cap a' cap') (hs : ∀ q ∈ L, q ∈ L') : MsgAt L' cs m a cap a' cap' := ⟨h.ok, h.size, h.lies, h.bins.mem hs, h.ents.mem hs, h.c1, h.c2, h.m1, h.m2⟩
theorem zMsg_at {L : List (Nat × Obj)} : MsgAt L zc35 MV.none none 0 none 0 := ⟨MV.none_ok, rfl, lies_self (vs := zMsg), .inl rfl, .inl rfl, Nat.le_refl _, Nat.le_refl _, by simp [maxLen], by simp [maxLen]⟩
theorem perm3 (a b x y : Nat × Obj) (T F : List (Nat × Obj)) : (x :: y :: a :: b :: (T ++ F)).Perm (a :: b :: (T ++ (x :: y :: F))) :=
  (show (x :: y :: a :: b :: (T ++ F)).Perm (a :: b :: x :: y :: (T ++ F)) from List.perm_append_comm (l₁ := [x, y]) (l₂ := [a, b]) |>.append_right (T ++ F)).trans (perm4 a b x y T F)
theorem perm3' (a b x y z : Nat × Obj) (T F : List (Nat × Obj)) : (x :: y :: z :: a :: b :: (T ++ F)).Perm (a :: b :: (T ++ (x :: y :: z :: F))) := by
  have h1 : (x :: y :: z :: a :: b :: (T ++ F)).Perm (a :: b :: x :: y :: z :: (T ++ F)) := List.perm_append_comm (l₁ := [x, y, z]) (l₂ := [a, b]) |>.append_right (T ++ F)
  refine h1.trans (.cons _ (.cons _ ?_))
  have h2 : (T ++ (x :: y :: z :: F)).Perm (x :: y :: z :: (T ++ F)) := by
    have := (List.perm_append_comm (l₁ := T) (l₂ := [x, y, z])).append_right F
    simpa using this
  exact h2.symm
set_option maxHeartbeats 16000000 in
set_option maxRecDepth 100000 in
theorem alike_fn {l : List UInt8} (hl9 : l.length ≤ 1000000000) {L : List (Nat × Obj)} (hH : HandleIn L) : Fn Tryz.prog 28 [.string (bstr l)] L (fun v L' => v = .bool true ∧ L' = L) := by
  refine Fn_enter Tryz.func28 rfl Tryz.ntmps28 rfl fun g => ?_
  have h3 : 1 + 2 ≤ 3 := Nat.le_refl 3
  repeat (first | refine RQ ?_ | ((first | refine WL_Q ?_); (first | refine QW_of (Qt_eql_flat rfl) ?_ | refine QW_of (Qt_neq_flat rfl) ?_)) | refine RC ?_ | refine WC_region (id := 0) ?_)
  refine WC_late5 (fun σ => σ = ⟨[(0, .string (bstr l)), (2, .bool false)], [], L⟩) (fun hz => ?_) ?_
  · repeat (first | refine RQ ?_ | ((first | refine WL_Q ?_); (first | refine QW_of (Qt_eql_flat rfl) ?_ | refine QW_of (Qt_neq_flat rfl) ?_)) | (refine RE ?_; try intro _) | ((first | refine WL_op rfl ?_); (first | (refine OW_call rfl (hF := in03_fn) (hk := ?_); rintro _ _ ⟨qb, nb, rfl, rfl⟩) | (refine OW_call rfl (hF := new_rd) (hk := ?_); rintro _ _ ⟨r1, rfl, rfl⟩))) | refine RC ?_ | refine WC_region (id := 1) ?_ | refine WC_region (id := 2) ?_)
    refine WL_op rfl (OW_call rfl (hF := GMsg_fn hl9 (Nat.zero_le _) _) (hk := ?_))
    rintro _ _ (⟨b, T, cs', hok, hsz, rfl, rfl⟩ | ⟨c, e, p, b, h1, hb, rfl, rfl⟩)
    · have hone := hok.2
      obtain ⟨m, vb, ve, T1, T2, h1, rfl, b1, b2, rfl⟩ := hok.1
      repeat (first | refine RQ ?_ | ((first | refine WL_Q ?_); (first | refine QW_of (Qt_eql_flat rfl) ?_ | refine QW_of (Qt_neq_flat rfl) ?_)) | (refine RE ?_; try intro _) | ((first | refine WL_op rfl ?_); (first | (refine OW_call rfl (hF := in03_fn) (hk := ?_); rintro _ _ ⟨qb, nb, rfl, rfl⟩) | (refine OW_call rfl (hF := new_rd) (hk := ?_); rintro _ _ ⟨r1, rfl, rfl⟩))) | refine RC ?_ | refine WC_region (id := 1) ?_ | refine WC_region (id := 2) ?_)
      refine WC_front 3 rfl ?_
      refine WC_front 3 rfl ?_
      refine WC_front 1 rfl ?_
      repeat (first | refine RQ ?_ | ((first | refine WL_Q ?_); (first | refine QW_of (Qt_eql_flat rfl) ?_ | refine QW_of (Qt_neq_flat rfl) ?_)) | (refine RE ?_; try intro _) | ((first | refine WL_op rfl ?_); (first | (refine OW_call rfl (hF := in03_fn) (hk := ?_); rintro _ _ ⟨qb, nb, rfl, rfl⟩) | (refine OW_call rfl (hF := new_rd) (hk := ?_); rintro _ _ ⟨r1, rfl, rfl⟩))) | refine RC ?_ | refine WC_region (id := 1) ?_ | refine WC_region (id := 2) ?_ | refine WC_region (id := 3) ?_)
      refine WL_op rfl (OW_call rfl (hF := Msg_any qb nb l ⟨0, 0, 0⟩ _ (Nat.zero_le _) hl9 (fun _ => rfl)) (hk := ?_))
      rintro _ _ ⟨m', ⟨sa, sc, se⟩, vb', ve', S1, S2, h2, ok2, d1, d2, rfl, rfl⟩
      have hone' : ((m'.cellsV vb' ve').toArray.toList.all fun v => v.oneCell') = true := MV.cellsV_one ok2 d1.one d2.one
      have hsz' : (m'.cellsV vb' ve').toArray.size = 24 := MV.cellsV_len ok2
      rw [← List.append_assoc S1 S2]
      refine WL_perm (perm3 _ _ _ _ (S1 ++ S2) _) ?_
      obtain ⟨e0, e1, e2⟩ := h2.same_ok h1
      dsimp only at e1 e2
      subst e1 e2
      subst e0
      have lim := (prMsg_went h1).1
      have nb9 : m'.bins.length ≤ 1000000 := by have := lim.nb; omega
      have ne9 : m'.ents.length ≤ 1000000 := by have := lim.ne; omega
      obtain ⟨a1, p1, a1', p1', M1⟩ := msgAt_of ok2 b1 b2
      obtain ⟨a2, p2, a2', p2', M2⟩ := msgAt_of ok2 d1 d2
      replace M1 := M1.mem' (L' := (S1 ++ S2) ++ (L.append (T1 ++ T2))) (fun q hq => List.mem_append_right _ (List.mem_append_right _ hq))
      replace M2 := M2.mem' (L' := (S1 ++ S2) ++ (L.append (T1 ++ T2))) (fun q hq => List.mem_append_left _ hq)
      repeat (first | refine RQ ?_ | ((first | refine WL_Q ?_ | refine WL_Y ?_); (first | refine QW_of (Qt_eql_flat rfl) ?_ | refine QW_of (Qt_neq_flat rfl) ?_)) | (refine RE ?_; try intro _) | ((first | refine WL_op rfl ?_ | refine WL_yes (h := ?_)); (first | (refine OW_call rfl (hF := in03_fn) (hk := ?_); rintro _ _ ⟨qb, nb, rfl, rfl⟩) | (refine OW_call rfl (hF := new_rd) (hk := ?_); rintro _ _ ⟨r1, rfl, rfl⟩) | refine OW_callP rfl (hF := sameMsg_fn (by repeat (first | with_reducible exact M1 | apply MsgAt.cons)) (by repeat (first | with_reducible exact M2 | apply MsgAt.cons)) nb9 ne9) (hk := ?_) | refine OW_callP rfl (hF := is03_nil) (hk := ?_))) | refine RC ?_ | refine WC_region (id := 1) ?_ | refine WC_region (id := 2) ?_ | refine WC_region (id := 3) ?_ | refine WC_region (id := 4) ?_ | refine WC_region (id := 5) ?_)
      refine hz _ ?_; exact ⟨_, rfl, ⟨rfl, rfl, trivial⟩, rfl, .cons _ (.cons _ (.cons _ (.cons _ (.cons _ (List.Sublist.trans (List.sublist_append_left L _) (List.sublist_append_right _ _))))))⟩
    · repeat (first | refine RQ ?_ | ((first | refine WL_Q ?_); (first | refine QW_of (Qt_eql_flat rfl) ?_ | refine QW_of (Qt_neq_flat rfl) ?_)) | (refine RE ?_; try intro _) | ((first | refine WL_op rfl ?_); (first | (refine OW_call rfl (hF := in03_fn) (hk := ?_); rintro _ _ ⟨qb, nb, rfl, rfl⟩) | (refine OW_call rfl (hF := new_rd) (hk := ?_); rintro _ _ ⟨r1, rfl, rfl⟩))) | refine RC ?_ | refine WC_region (id := 1) ?_ | refine WC_region (id := 2) ?_)
      refine WC_front 4 rfl ?_
      refine WC_front 4 rfl ?_
      refine WC_front 1 rfl ?_
      repeat (first | refine RQ ?_ | ((first | refine WL_Q ?_); (first | refine QW_of (Qt_eql_flat rfl) ?_ | refine QW_of (Qt_neq_flat rfl) ?_)) | (refine RE ?_; try intro _) | ((first | refine WL_op rfl ?_); (first | (refine OW_call rfl (hF := in03_fn) (hk := ?_); rintro _ _ ⟨qb, nb, rfl, rfl⟩) | (refine OW_call rfl (hF := new_rd) (hk := ?_); rintro _ _ ⟨r1, rfl, rfl⟩))) | refine RC ?_ | refine WC_region (id := 1) ?_ | refine WC_region (id := 2) ?_ | refine WC_region (id := 3) ?_)
      refine WL_op rfl (OW_call rfl (hF := Msg_any qb nb l ⟨0, 0, 0⟩ _ (Nat.zero_le _) hl9 (fun _ => rfl)) (hk := ?_))
      rintro _ _ ⟨m', ⟨sa, sc, se⟩, vb', ve', S1, S2, h2, ok2, d1, d2, rfl, rfl⟩
      have hone' : ((m'.cellsV vb' ve').toArray.toList.all fun v => v.oneCell') = true := MV.cellsV_one ok2 d1.one d2.one
      have hsz' : (m'.cellsV vb' ve').toArray.size = 24 := MV.cellsV_len ok2
      rw [← List.append_assoc S1 S2]
      refine WL_perm (perm3' _ _ _ _ _ (S1 ++ S2) _) ?_
      obtain ⟨e0, e1, hc⟩ := h2.same_bad h1
      dsimp only at e0 e1
      subst e0 e1
      repeat (first | refine RQ ?_ | ((first | refine WL_Q ?_ | refine WL_Y ?_); (first | refine QW_of (Qt_eql_flat rfl) ?_ | refine QW_of (Qt_neq_flat rfl) ?_)) | (refine RE ?_; try intro _) | ((first | refine WL_op rfl ?_ | refine WL_yes (h := ?_)); (first | (refine OW_call rfl (hF := in03_fn) (hk := ?_); rintro _ _ ⟨qb, nb, rfl, rfl⟩) | (refine OW_call rfl (hF := new_rd) (hk := ?_); rintro _ _ ⟨r1, rfl, rfl⟩) | refine OW_callP rfl (hF := sameMsg_fn zMsg_at zMsg_at (Nat.zero_le _) (Nat.zero_le _)) (hk := ?_) | refine OW_callP rfl (hF := is03_flt (by repeat (first | with_reducible assumption | apply HandleIn.cons | apply HandleIn.left | apply HandleIn.app)) hc (code := sc) (a := se) (i := 2) rfl) (hk := ?_))) | refine RC ?_ | refine WC_region (id := 1) ?_ | refine WC_region (id := 2) ?_ | refine WC_region (id := 3) ?_ | refine WC_region (id := 4) ?_ | refine WC_region (id := 5) ?_)
      refine hz _ ?_; exact ⟨_, rfl, ⟨rfl, rfl, trivial⟩, rfl, .cons _ (.cons _ (.cons _ (.cons _ (.cons _ (.cons _ (List.sublist_append_right _ _))))))⟩
  rintro _ rfl
  refine WC_late5 (fun σ => σ = ⟨[(0, .string (bstr l)), (2, .bool false)], [], L⟩) (fun hz => ?_) ?_
  · repeat (first | refine RQ ?_ | ((first | refine WL_Q ?_); (first | refine QW_of (Qt_eql_flat rfl) ?_ | refine QW_of (Qt_neq_flat rfl) ?_)) | (refine RE ?_; try intro _) | ((first | refine WL_op rfl ?_); (first | (refine OW_call rfl (hF := in03_fn) (hk := ?_); rintro _ _ ⟨qb, nb, rfl, rfl⟩) | (refine OW_call rfl (hF := new_rd) (hk := ?_); rintro _ _ ⟨r1, rfl, rfl⟩))) | refine RC ?_ | refine WC_region (id := 6) ?_ | refine WC_region (id := 7) ?_)
    refine WL_op rfl (OW_call rfl (hF := GItem_fn hl9 (Nat.zero_le _) _) (hk := ?_))
    rintro _ _ (⟨us, b, h1, rfl, rfl⟩ | ⟨c, e, p, b, h1, hb, rfl, rfl⟩)
    · have ok1 := (prs_went (Nat.zero_le _) h1).1
      have hone := ok1.cells1
      have hsz : us.toArray.size = 8 := ok1.len
      repeat (first | refine RQ ?_ | ((first | refine WL_Q ?_); (first | refine QW_of (Qt_eql_flat rfl) ?_ | refine QW_of (Qt_neq_flat rfl) ?_)) | (refine RE ?_; try intro _) | ((first | refine WL_op rfl ?_); (first | (refine OW_call rfl (hF := in03_fn) (hk := ?_); rintro _ _ ⟨qb, nb, rfl, rfl⟩) | (refine OW_call rfl (hF := new_rd) (hk := ?_); rintro _ _ ⟨r1, rfl, rfl⟩))) | refine RC ?_ | refine WC_region (id := 6) ?_ | refine WC_region (id := 7) ?_)
      refine WC_front 3 rfl ?_
      refine WC_front 3 rfl ?_
      refine WC_front 1 rfl ?_
      repeat (first | refine RQ ?_ | ((first | refine WL_Q ?_); (first | refine QW_of (Qt_eql_flat rfl) ?_ | refine QW_of (Qt_neq_flat rfl) ?_)) | (refine RE ?_; try intro _) | ((first | refine WL_op rfl ?_); (first | (refine OW_call rfl (hF := in03_fn) (hk := ?_); rintro _ _ ⟨qb, nb, rfl, rfl⟩) | (refine OW_call rfl (hF := new_rd) (hk := ?_); rintro _ _ ⟨r1, rfl, rfl⟩))) | refine RC ?_ | refine WC_region (id := 6) ?_ | refine WC_region (id := 7) ?_ | refine WC_region (id := 8) ?_)
      refine WL_op rfl (OW_call rfl (hF := Item_any qb nb l ⟨0, 0, 0⟩ _ (Nat.zero_le _) hl9 (fun _ => rfl)) (hk := ?_))
      rintro _ _ ⟨us', ⟨sa, sc, se⟩, h2, rfl, rfl⟩
      obtain ⟨e0, e1, e2⟩ := h2.same_ok h1
      dsimp only at e1 e2
      subst e0 e1 e2
      have hq : EqV Tryz.prog 37 us'.toArray us'.toArray true := eqp_Item.same (by decide) guard_Item hsz hsz lies_self lies_self ok1
      repeat (first | refine RQ ?_ | ((first | refine WL_Q ?_ | refine WL_Y ?_); (first | refine QW_of (Qt_eql_flat rfl) ?_ | refine QW_of (Qt_neq_flat rfl) ?_)) | (refine RE ?_; try intro _) | ((first | refine WL_op rfl ?_ | refine WL_yes (h := ?_)); (first | (refine OW_call rfl (hF := in03_fn) (hk := ?_); rintro _ _ ⟨qb, nb, rfl, rfl⟩) | (refine OW_call rfl (hF := new_rd) (hk := ?_); rintro _ _ ⟨r1, rfl, rfl⟩) | refine OW_callP rfl (hF := is03_nil) (hk := ?_))) | refine RC ?_ | refine WC_region (id := 6) ?_ | refine WC_region (id := 7) ?_ | refine WC_region (id := 8) ?_ | refine WC_region (id := 9) ?_ | refine WC_region (id := 10) ?_)
      refine hz _ ?_; exact ⟨_, rfl, ⟨rfl, rfl, trivial⟩, rfl, .cons _ (.cons _ (.cons _ (.cons _ (.cons _ (.refl _)))))⟩
    · repeat (first | refine RQ ?_ | ((first | refine WL_Q ?_); (first | refine QW_of (Qt_eql_flat rfl) ?_ | refine QW_of (Qt_neq_flat rfl) ?_)) | (refine RE ?_; try intro _) | ((first | refine WL_op rfl ?_); (first | (refine OW_call rfl (hF := in03_fn) (hk := ?_); rintro _ _ ⟨qb, nb, rfl, rfl⟩) | (refine OW_call rfl (hF := new_rd) (hk := ?_); rintro _ _ ⟨r1, rfl, rfl⟩))) | refine RC ?_ | refine WC_region (id := 6) ?_ | refine WC_region (id := 7) ?_)
      refine WC_front 4 rfl ?_
      refine WC_front 4 rfl ?_
      refine WC_front 1 rfl ?_
      repeat (first | refine RQ ?_ | ((first | refine WL_Q ?_); (first | refine QW_of (Qt_eql_flat rfl) ?_ | refine QW_of (Qt_neq_flat rfl) ?_)) | (refine RE ?_; try intro _) | ((first | refine WL_op rfl ?_); (first | (refine OW_call rfl (hF := in03_fn) (hk := ?_); rintro _ _ ⟨qb, nb, rfl, rfl⟩) | (refine OW_call rfl (hF := new_rd) (hk := ?_); rintro _ _ ⟨r1, rfl, rfl⟩))) | refine RC ?_ | refine WC_region (id := 6) ?_ | refine WC_region (id := 7) ?_ | refine WC_region (id := 8) ?_)
      refine WL_op rfl (OW_call rfl (hF := Item_any qb nb l ⟨0, 0, 0⟩ _ (Nat.zero_le _) hl9 (fun _ => rfl)) (hk := ?_))
      rintro _ _ ⟨us', ⟨sa, sc, se⟩, h2, rfl, rfl⟩
      have hone := h2.oks.cells1
      have hsz : us'.toArray.size = 8 := h2.oks.len
      obtain ⟨e0, e1, hc⟩ := h2.same_bad h1
      dsimp only at e0 e1
      subst e0 e1
      have hq : EqV Tryz.prog 37 zc37 zc37 true := eqp_Item.same (us := zItem) (by decide) guard_Item rfl rfl lies_self lies_self zItem_ok
      repeat (first | refine RQ ?_ | ((first | refine WL_Q ?_ | refine WL_Y ?_); (first | refine QW_of (Qt_eql_flat rfl) ?_ | refine QW_of (Qt_neq_flat rfl) ?_)) | (refine RE ?_; try intro _) | ((first | refine WL_op rfl ?_ | refine WL_yes (h := ?_)); (first | (refine OW_call rfl (hF := in03_fn) (hk := ?_); rintro _ _ ⟨qb, nb, rfl, rfl⟩) | (refine OW_call rfl (hF := new_rd) (hk := ?_); rintro _ _ ⟨r1, rfl, rfl⟩) | refine OW_callP rfl (hF := is03_flt (by repeat (first | with_reducible assumption | apply HandleIn.cons | apply HandleIn.left | apply HandleIn.app)) hc (code := sc) (a := se) (i := 4) rfl) (hk := ?_))) | refine RC ?_ | refine WC_region (id := 6) ?_ | refine WC_region (id := 7) ?_ | refine WC_region (id := 8) ?_ | refine WC_region (id := 9) ?_ | refine WC_region (id := 10) ?_)
      refine hz _ ?_; exact ⟨_, rfl, ⟨rfl, rfl, trivial⟩, rfl, .cons _ (.cons _ (.cons _ (.cons _ (.cons _ (.cons _ (.refl _))))))⟩
  rintro _ rfl
  refine WC_late5 (fun σ => σ = ⟨[(0, .string (bstr l)), (2, .bool false)], [], L⟩) (fun hz => ?_) ?_
  · repeat (first | refine RQ ?_ | ((first | refine WL_Q ?_); (first | refine QW_of (Qt_eql_flat rfl) ?_ | refine QW_of (Qt_neq_flat rfl) ?_)) | (refine RE ?_; try intro _) | ((first | refine WL_op rfl ?_); (first | (refine OW_call rfl (hF := in03_fn) (hk := ?_); rintro _ _ ⟨qb, nb, rfl, rfl⟩) | (refine OW_call rfl (hF := new_rd) (hk := ?_); rintro _ _ ⟨r1, rfl, rfl⟩))) | refine RC ?_ | refine WC_region (id := 11) ?_ | refine WC_region (id := 12) ?_)
    refine WL_op rfl (OW_call rfl (hF := GCmd_fn hl9 (Nat.zero_le _) _) (hk := ?_))
    rintro _ _ (⟨b, T, cs', hok, hsz, rfl, rfl⟩ | ⟨c, e, p, b, h1, hb, rfl, rfl⟩)
    · have hone := hok.2
      obtain ⟨⟨ch, bins, ct⟩, vb, h1, b1, rfl⟩ := hok.1
      repeat (first | refine RQ ?_ | ((first | refine WL_Q ?_); (first | refine QW_of (Qt_eql_flat rfl) ?_ | refine QW_of (Qt_neq_flat rfl) ?_)) | (refine RE ?_; try intro _) | ((first | refine WL_op rfl ?_); (first | (refine OW_call rfl (hF := in03_fn) (hk := ?_); rintro _ _ ⟨qb, nb, rfl, rfl⟩) | (refine OW_call rfl (hF := new_rd) (hk := ?_); rintro _ _ ⟨r1, rfl, rfl⟩))) | refine RC ?_ | refine WC_region (id := 11) ?_ | refine WC_region (id := 12) ?_)
      refine WC_front 3 rfl ?_
      refine WC_front 3 rfl ?_
      refine WC_front 1 rfl ?_
      repeat (first | refine RQ ?_ | ((first | refine WL_Q ?_); (first | refine QW_of (Qt_eql_flat rfl) ?_ | refine QW_of (Qt_neq_flat rfl) ?_)) | (refine RE ?_; try intro _) | ((first | refine WL_op rfl ?_); (first | (refine OW_call rfl (hF := in03_fn) (hk := ?_); rintro _ _ ⟨qb, nb, rfl, rfl⟩) | (refine OW_call rfl (hF := new_rd) (hk := ?_); rintro _ _ ⟨r1, rfl, rfl⟩))) | refine RC ?_ | refine WC_region (id := 11) ?_ | refine WC_region (id := 12) ?_ | refine WC_region (id := 13) ?_)
      refine WL_op rfl (OW_call rfl (hF := Cmd_any qb nb l ⟨0, 0, 0⟩ _ (Nat.zero_le _) hl9 (fun _ => rfl)) (hk := ?_))
      rintro _ _ ⟨ch', bins', ct', ⟨sa, sc, se⟩, vb', S, h2, o1, o2, o3, d1, rfl, rfl⟩
      have hone' : ((ch' ++ (vb' :: ct')).toArray.toList.all fun v => v.oneCell') = true := by
        have a1 := o1.cells1; have a2 := o3.cells1
        show ((ch' ++ (vb' :: ct')).all _) = true
        rw [List.all_append, List.all_cons, a1, a2, d1.one]; rfl
      have hsz' : (ch' ++ (vb' :: ct')).toArray.size = 10 := by
        have l1 := o1.len; have l2 := o3.len
        simp only [List.length_cons, List.length_nil] at l1 l2
        simp [l1, l2]
      refine WL_perm (perm3 _ _ _ _ S _) ?_
      obtain ⟨e0, e1, e2⟩ := h2.same_ok h1
      dsimp only at e1 e2
      subst e1 e2
      cases e0
      have lim := (prCmd_went (Nat.zero_le _) h1).1
      have nb9 : bins.length ≤ 1000000 := by have := lim.2.1.1; dsimp only at this; omega
      obtain ⟨a1, p1, rfl, _, _, E1⟩ := b1.elems (fun vs hv => (o2 vs hv).len) rfl
      obtain ⟨a2, p2, rfl, _, _, E2⟩ := d1.elems (fun vs hv => (o2 vs hv).len) rfl
      replace E1 := E1.mem (R' := S ++ (L.append T)) (fun q hq => List.mem_append_right _ (List.mem_append_right _ hq))
      replace E2 := E2.mem (R' := S ++ (L.append T)) (fun q hq => List.mem_append_left _ hq)
      repeat (first | refine RQ ?_ | ((first | refine WL_Q ?_ | refine WL_Y ?_); (first | refine QW_of (Qt_eql_flat rfl) ?_ | refine QW_of (Qt_neq_flat rfl) ?_)) | (refine RE ?_; try intro _) | ((first | refine WL_op rfl ?_ | refine WL_yes (h := ?_)); (first | (refine OW_call rfl (hF := in03_fn) (hk := ?_); rintro _ _ ⟨qb, nb, rfl, rfl⟩) | (refine OW_call rfl (hF := new_rd) (hk := ?_); rintro _ _ ⟨r1, rfl, rfl⟩) | refine OW_callP rfl (hF := sameCmd_fn hsz hsz' nb9 o1 o3 o2 lies_self (by repeat (first | with_reducible exact E1 | apply Elems.cons)) lies_self (by repeat (first | with_reducible exact E2 | apply Elems.cons))) (hk := ?_) | refine OW_callP rfl (hF := is03_nil) (hk := ?_))) | refine RC ?_ | refine WC_region (id := 11) ?_ | refine WC_region (id := 12) ?_ | refine WC_region (id := 13) ?_ | refine WC_region (id := 14) ?_ | refine WC_region (id := 15) ?_)
      refine hz _ ?_; exact ⟨_, rfl, ⟨rfl, rfl, trivial⟩, rfl, .cons _ (.cons _ (.cons _ (.cons _ (.cons _ (List.Sublist.trans (List.sublist_append_left L _) (List.sublist_append_right _ _))))))⟩
    · repeat (first | refine RQ ?_ | ((first | refine WL_Q ?_); (first | refine QW_of (Qt_eql_flat rfl) ?_ | refine QW_of (Qt_neq_flat rfl) ?_)) | (refine RE ?_; try intro _) | ((first | refine WL_op rfl ?_); (first | (refine OW_call rfl (hF := in03_fn) (hk := ?_); rintro _ _ ⟨qb, nb, rfl, rfl⟩) | (refine OW_call rfl (hF := new_rd) (hk := ?_); rintro _ _ ⟨r1, rfl, rfl⟩))) | refine RC ?_ | refine WC_region (id := 11) ?_ | refine WC_region (id := 12) ?_)
      refine WC_front 4 rfl ?_
      refine WC_front 4 rfl ?_
      refine WC_front 1 rfl ?_
      repeat (first | refine RQ ?_ | ((first | refine WL_Q ?_); (first | refine QW_of (Qt_eql_flat rfl) ?_ | refine QW_of (Qt_neq_flat rfl) ?_)) | (refine RE ?_; try intro _) | ((first | refine WL_op rfl ?_); (first | (refine OW_call rfl (hF := in03_fn) (hk := ?_); rintro _ _ ⟨qb, nb, rfl, rfl⟩) | (refine OW_call rfl (hF := new_rd) (hk := ?_); rintro _ _ ⟨r1, rfl, rfl⟩))) | refine RC ?_ | refine WC_region (id := 11) ?_ | refine WC_region (id := 12) ?_ | refine WC_region (id := 13) ?_)
      refine WL_op rfl (OW_call rfl (hF := Cmd_any qb nb l ⟨0, 0, 0⟩ _ (Nat.zero_le _) hl9 (fun _ => rfl)) (hk := ?_))
      rintro _ _ ⟨ch', bins', ct', ⟨sa, sc, se⟩, vb', S, h2, o1, o2, o3, d1, rfl, rfl⟩
      have hone' : ((ch' ++ (vb' :: ct')).toArray.toList.all fun v => v.oneCell') = true := by
        have a1 := o1.cells1; have a2 := o3.cells1
        show ((ch' ++ (vb' :: ct')).all _) = true
        rw [List.all_append, List.all_cons, a1, a2, d1.one]; rfl
      have hsz' : (ch' ++ (vb' :: ct')).toArray.size = 10 := by
        have l1 := o1.len; have l2 := o3.len
        simp only [List.length_cons, List.length_nil] at l1 l2
        simp [l1, l2]
      refine WL_perm (perm3' _ _ _ _ _ S _) ?_
      obtain ⟨e0, e1, hc⟩ := h2.same_bad h1
      dsimp only at e0 e1
      subst e0 e1
      repeat (first | refine RQ ?_ | ((first | refine WL_Q ?_ | refine WL_Y ?_); (first | refine QW_of (Qt_eql_flat rfl) ?_ | refine QW_of (Qt_neq_flat rfl) ?_)) | (refine RE ?_; try intro _) | ((first | refine WL_op rfl ?_ | refine WL_yes (h := ?_)); (first | (refine OW_call rfl (hF := in03_fn) (hk := ?_); rintro _ _ ⟨qb, nb, rfl, rfl⟩) | (refine OW_call rfl (hF := new_rd) (hk := ?_); rintro _ _ ⟨r1, rfl, rfl⟩) | refine OW_callP rfl (hF := sameCmd_fn hsz hsz' nb9 o1 o3 o2 lies_self (by repeat (first | with_reducible exact E1 | apply Elems.cons)) lies_self (by repeat (first | with_reducible exact E2 | apply Elems.cons))) (hk := ?_) | refine OW_callP rfl (hF := is03_flt (by repeat (first | with_reducible assumption | apply HandleIn.cons | apply HandleIn.left | apply HandleIn.app)) hc (code := sc) (a := se) (i := 2) rfl) (hk := ?_))) | refine RC ?_ | refine WC_region (id := 11) ?_ | refine WC_region (id := 12) ?_ | refine WC_region (id := 13) ?_ | refine WC_region (id := 14) ?_ | refine WC_region (id := 15) ?_)
      refine hz _ ?_; exact ⟨_, rfl, ⟨rfl, rfl, trivial⟩, rfl, .cons _ (.cons _ (.cons _ (.cons _ (.cons _ (.cons _ (List.sublist_append_right _ _))))))⟩
  rintro _ rfl
  refine WC_late5 (fun σ => σ = ⟨[(0, .string (bstr l)), (2, .bool false)], [], L⟩) (fun hz => ?_) ?_
  · repeat (first | refine RQ ?_ | ((first | refine WL_Q ?_); (first | refine QW_of (Qt_eql_flat rfl) ?_ | refine QW_of (Qt_neq_flat rfl) ?_)) | (refine RE ?_; try intro _) | ((first | refine WL_op rfl ?_); (first | (refine OW_call rfl (hF := in03_fn) (hk := ?_); rintro _ _ ⟨qb, nb, rfl, rfl⟩) | (refine OW_call rfl (hF := new_rd) (hk := ?_); rintro _ _ ⟨r1, rfl, rfl⟩))) | refine RC ?_ | refine WC_region (id := 16) ?_ | refine WC_region (id := 17) ?_)
    refine WL_op rfl (OW_call rfl (hF := GEntry_fn hl9 (Nat.zero_le _) _) (hk := ?_))
    rintro _ _ (⟨us, b, h1, rfl, rfl⟩ | ⟨c, e, p, b, h1, hb, rfl, rfl⟩)
    · have ok1 := (prs_went (Nat.zero_le _) h1).1
      have hone := ok1.cells1
      have hsz : us.toArray.size = 10 := ok1.len
      repeat (first | refine RQ ?_ | ((first | refine WL_Q ?_); (first | refine QW_of (Qt_eql_flat rfl) ?_ | refine QW_of (Qt_neq_flat rfl) ?_)) | (refine RE ?_; try intro _) | ((first | refine WL_op rfl ?_); (first | (refine OW_call rfl (hF := in03_fn) (hk := ?_); rintro _ _ ⟨qb, nb, rfl, rfl⟩) | (refine OW_call rfl (hF := new_rd) (hk := ?_); rintro _ _ ⟨r1, rfl, rfl⟩))) | refine RC ?_ | refine WC_region (id := 16) ?_ | refine WC_region (id := 17) ?_)
      refine WC_front 3 rfl ?_
      refine WC_front 3 rfl ?_
      refine WC_front 1 rfl ?_
      repeat (first | refine RQ ?_ | ((first | refine WL_Q ?_); (first | refine QW_of (Qt_eql_flat rfl) ?_ | refine QW_of (Qt_neq_flat rfl) ?_)) | (refine RE ?_; try intro _) | ((first | refine WL_op rfl ?_); (first | (refine OW_call rfl (hF := in03_fn) (hk := ?_); rintro _ _ ⟨qb, nb, rfl, rfl⟩) | (refine OW_call rfl (hF := new_rd) (hk := ?_); rintro _ _ ⟨r1, rfl, rfl⟩))) | refine RC ?_ | refine WC_region (id := 16) ?_ | refine WC_region (id := 17) ?_ | refine WC_region (id := 18) ?_)
      refine WL_op rfl (OW_call rfl (hF := Entry_any qb nb l ⟨0, 0, 0⟩ _ (Nat.zero_le _) hl9 (fun _ => rfl)) (hk := ?_))
      rintro _ _ ⟨us', ⟨sa, sc, se⟩, h2, rfl, rfl⟩
      obtain ⟨e0, e1, e2⟩ := h2.same_ok h1
      dsimp only at e1 e2
      subst e0 e1 e2
      have hq : EqV Tryz.prog 45 us'.toArray us'.toArray true := eqp_Entry.same (by decide) guard_Entry hsz hsz lies_self lies_self ok1
      repeat (first | refine RQ ?_ | ((first | refine WL_Q ?_ | refine WL_Y ?_); (first | refine QW_of (Qt_eql_flat rfl) ?_ | refine QW_of (Qt_neq_flat rfl) ?_)) | (refine RE ?_; try intro _) | ((first | refine WL_op rfl ?_ | refine WL_yes (h := ?_)); (first | (refine OW_call rfl (hF := in03_fn) (hk := ?_); rintro _ _ ⟨qb, nb, rfl, rfl⟩) | (refine OW_call rfl (hF := new_rd) (hk := ?_); rintro _ _ ⟨r1, rfl, rfl⟩) | refine OW_callP rfl (hF := is03_nil) (hk := ?_))) | refine RC ?_ | refine WC_region (id := 16) ?_ | refine WC_region (id := 17) ?_ | refine WC_region (id := 18) ?_ | refine WC_region (id := 19) ?_ | refine WC_region (id := 20) ?_)
      refine hz _ ?_; exact ⟨_, rfl, ⟨rfl, rfl, trivial⟩, rfl, .cons _ (.cons _ (.cons _ (.cons _ (.cons _ (.refl _)))))⟩
    · repeat (first | refine RQ ?_ | ((first | refine WL_Q ?_); (first | refine QW_of (Qt_eql_flat rfl) ?_ | refine QW_of (Qt_neq_flat rfl) ?_)) | (refine RE ?_; try intro _) | ((first | refine WL_op rfl ?_); (first | (refine OW_call rfl (hF := in03_fn) (hk := ?_); rintro _ _ ⟨qb, nb, rfl, rfl⟩) | (refine OW_call rfl (hF := new_rd) (hk := ?_); rintro _ _ ⟨r1, rfl, rfl⟩))) | refine RC ?_ | refine WC_region (id := 16) ?_ | refine WC_region (id := 17) ?_)
      refine WC_front 4 rfl ?_
      refine WC_front 4 rfl ?_
      refine WC_front 1 rfl ?_
      repeat (first | refine RQ ?_ | ((first | refine WL_Q ?_); (first | refine QW_of (Qt_eql_flat rfl) ?_ | refine QW_of (Qt_neq_flat rfl) ?_)) | (refine RE ?_; try intro _) | ((first | refine WL_op rfl ?_); (first | (refine OW_call rfl (hF := in03_fn) (hk := ?_); rintro _ _ ⟨qb, nb, rfl, rfl⟩) | (refine OW_call rfl (hF := new_rd) (hk := ?_); rintro _ _ ⟨r1, rfl, rfl⟩))) | refine RC ?_ | refine WC_region (id := 16) ?_ | refine WC_region (id := 17) ?_ | refine WC_region (id := 18) ?_)
      refine WL_op rfl (OW_call rfl (hF := Entry_any qb nb l ⟨0, 0, 0⟩ _ (Nat.zero_le _) hl9 (fun _ => rfl)) (hk := ?_))
      rintro _ _ ⟨us', ⟨sa, sc, se⟩, h2, rfl, rfl⟩
      have hone := h2.oks.cells1
      have hsz : us'.toArray.size = 10 := h2.oks.len
      obtain ⟨e0, e1, hc⟩ := h2.same_bad h1
      dsimp only at e0 e1
      subst e0 e1
      repeat (first | refine RQ ?_ | ((first | refine WL_Q ?_ | refine WL_Y ?_); (first | refine QW_of (Qt_eql_flat rfl) ?_ | refine QW_of (Qt_neq_flat rfl) ?_)) | (refine RE ?_; try intro _) | ((first | refine WL_op rfl ?_ | refine WL_yes (h := ?_)); (first | (refine OW_call rfl (hF := in03_fn) (hk := ?_); rintro _ _ ⟨qb, nb, rfl, rfl⟩) | (refine OW_call rfl (hF := new_rd) (hk := ?_); rintro _ _ ⟨r1, rfl, rfl⟩) | refine OW_callP rfl (hF := is03_flt (by repeat (first | with_reducible assumption | apply HandleIn.cons | apply HandleIn.left | apply HandleIn.app)) hc (code := sc) (a := se) (i := 4) rfl) (hk := ?_))) | refine RC ?_ | refine WC_region (id := 16) ?_ | refine WC_region (id := 17) ?_ | refine WC_region (id := 18) ?_ | refine WC_region (id := 19) ?_ | refine WC_region (id := 20) ?_)
      refine hz _ ?_; exact ⟨_, rfl, ⟨rfl, rfl, trivial⟩, rfl, .cons _ (.cons _ (.cons _ (.cons _ (.cons _ (.cons _ (.refl _))))))⟩
  rintro _ rfl
  refine WC_late5 (fun σ => σ = ⟨[(0, .string (bstr l)), (2, .bool false)], [], L⟩) (fun hz => ?_) ?_
  · repeat (first | refine RQ ?_ | ((first | refine WL_Q ?_); (first | refine QW_of (Qt_eql_flat rfl) ?_ | refine QW_of (Qt_neq_flat rfl) ?_)) | (refine RE ?_; try intro _) | ((first | refine WL_op rfl ?_); (first | (refine OW_call rfl (hF := in03_fn) (hk := ?_); rintro _ _ ⟨qb, nb, rfl, rfl⟩) | (refine OW_call rfl (hF := new_rd) (hk := ?_); rintro _ _ ⟨r1, rfl, rfl⟩))) | refine RC ?_ | refine WC_region (id := 21) ?_ | refine WC_region (id := 22) ?_)
    refine WL_op rfl (OW_call rfl (hF := GChunk_fn hl9 (Nat.zero_le _) _) (hk := ?_))
    rintro _ _ (⟨b, T, cs', hok, hsz, rfl, rfl⟩ | ⟨c, e, p, b, h1, hb, rfl, rfl⟩)
    · have hone := hok.2
      obtain ⟨⟨kh, ents⟩, ve, h1, b1, rfl⟩ := hok.1
      repeat (first | refine RQ ?_ | ((first | refine WL_Q ?_); (first | refine QW_of (Qt_eql_flat rfl) ?_ | refine QW_of (Qt_neq_flat rfl) ?_)) | (refine RE ?_; try intro _) | ((first | refine WL_op rfl ?_); (first | (refine OW_call rfl (hF := in03_fn) (hk := ?_); rintro _ _ ⟨qb, nb, rfl, rfl⟩) | (refine OW_call rfl (hF := new_rd) (hk := ?_); rintro _ _ ⟨r1, rfl, rfl⟩))) | refine RC ?_ | refine WC_region (id := 21) ?_ | refine WC_region (id := 22) ?_)
      refine WC_front 3 rfl ?_
      refine WC_front 3 rfl ?_
      refine WC_front 1 rfl ?_
      repeat (first | refine RQ ?_ | ((first | refine WL_Q ?_); (first | refine QW_of (Qt_eql_flat rfl) ?_ | refine QW_of (Qt_neq_flat rfl) ?_)) | (refine RE ?_; try intro _) | ((first | refine WL_op rfl ?_); (first | (refine OW_call rfl (hF := in03_fn) (hk := ?_); rintro _ _ ⟨qb, nb, rfl, rfl⟩) | (refine OW_call rfl (hF := new_rd) (hk := ?_); rintro _ _ ⟨r1, rfl, rfl⟩))) | refine RC ?_ | refine WC_region (id := 21) ?_ | refine WC_region (id := 22) ?_ | refine WC_region (id := 23) ?_)
      refine WL_op rfl (OW_call rfl (hF := Chunk_any qb nb l ⟨0, 0, 0⟩ _ (Nat.zero_le _) hl9 (fun _ => rfl)) (hk := ?_))
      rintro _ _ ⟨kh', ents', ⟨sa, sc, se⟩, ve', S, h2, o1, o2, d1, rfl, rfl⟩
      have hone' : ((kh' ++ [ve']).toArray.toList.all fun v => v.oneCell') = true := by
        have a1 := o1.cells1
        show ((kh' ++ [ve']).all _) = true
        rw [List.all_append, List.all_cons, a1, d1.one]; rfl
      have hsz' : (kh' ++ [ve']).toArray.size = 4 := by
        have l1 := o1.len
        simp only [List.length_cons, List.length_nil] at l1
        simp [l1]
      refine WL_perm (perm3 _ _ _ _ S _) ?_
      obtain ⟨e0, e1, e2⟩ := h2.same_ok h1
      dsimp only at e1 e2
      subst e1 e2
      cases e0
      have lim := (prChunk_went (Nat.zero_le _) h1).1
      have ne9 : ents.length ≤ 1000000 := by have := lim.2.1; dsimp only at this; omega
      obtain ⟨a1, p1, rfl, _, _, E1⟩ := b1.elems (fun vs hv => (o2 vs hv).len) rfl
      obtain ⟨a2, p2, rfl, _, _, E2⟩ := d1.elems (fun vs hv => (o2 vs hv).len) rfl
      replace E1 := E1.mem (R' := S ++ (L.append T)) (fun q hq => List.mem_append_right _ (List.mem_append_right _ hq))
      replace E2 := E2.mem (R' := S ++ (L.append T)) (fun q hq => List.mem_append_left _ hq)
      repeat (first | refine RQ ?_ | ((first | refine WL_Q ?_ | refine WL_Y ?_); (first | refine QW_of (Qt_eql_flat rfl) ?_ | refine QW_of (Qt_neq_flat rfl) ?_)) | (refine RE ?_; try intro _) | ((first | refine WL_op rfl ?_ | refine WL_yes (h := ?_)); (first | (refine OW_call rfl (hF := in03_fn) (hk := ?_); rintro _ _ ⟨qb, nb, rfl, rfl⟩) | (refine OW_call rfl (hF := new_rd) (hk := ?_); rintro _ _ ⟨r1, rfl, rfl⟩) | refine OW_callP rfl (hF := sameChunk_fn hsz hsz' ne9 o1 o2 lies_self (by repeat (first | with_reducible exact E1 | apply Elems.cons)) lies_self (by repeat (first | with_reducible exact E2 | apply Elems.cons))) (hk := ?_) | refine OW_callP rfl (hF := is03_nil) (hk := ?_))) | refine RC ?_ | refine WC_region (id := 21) ?_ | refine WC_region (id := 22) ?_ | refine WC_region (id := 23) ?_ | refine WC_region (id := 24) ?_ | refine WC_region (id := 25) ?_)
      refine hz _ ?_; exact ⟨_, rfl, ⟨rfl, rfl, trivial⟩, rfl, .cons _ (.cons _ (.cons _ (.cons _ (.cons _ (List.Sublist.trans (List.sublist_append_left L _) (List.sublist_append_right _ _))))))⟩
    · repeat (first | refine RQ ?_ | ((first | refine WL_Q ?_); (first | refine QW_of (Qt_eql_flat rfl) ?_ | refine QW_of (Qt_neq_flat rfl) ?_)) | (refine RE ?_; try intro _) | ((first | refine WL_op rfl ?_); (first | (refine OW_call rfl (hF := in03_fn) (hk := ?_); rintro _ _ ⟨qb, nb, rfl, rfl⟩) | (refine OW_call rfl (hF := new_rd) (hk := ?_); rintro _ _ ⟨r1, rfl, rfl⟩))) | refine RC ?_ | refine WC_region (id := 21) ?_ | refine WC_region (id := 22) ?_)
      refine WC_front 4 rfl ?_
      refine WC_front 4 rfl ?_
      refine WC_front 1 rfl ?_
      repeat (first | refine RQ ?_ | ((first | refine WL_Q ?_); (first | refine QW_of (Qt_eql_flat rfl) ?_ | refine QW_of (Qt_neq_flat rfl) ?_)) | (refine RE ?_; try intro _) | ((first | refine WL_op rfl ?_); (first | (refine OW_call rfl (hF := in03_fn) (hk := ?_); rintro _ _ ⟨qb, nb, rfl, rfl⟩) | (refine OW_call rfl (hF := new_rd) (hk := ?_); rintro _ _ ⟨r1, rfl, rfl⟩))) | refine RC ?_ | refine WC_region (id := 21) ?_ | refine WC_region (id := 22) ?_ | refine WC_region (id := 23) ?_)
      refine WL_op rfl (OW_call rfl (hF := Chunk_any qb nb l ⟨0, 0, 0⟩ _ (Nat.zero_le _) hl9 (fun _ => rfl)) (hk := ?_))
      rintro _ _ ⟨kh', ents', ⟨sa, sc, se⟩, ve', S, h2, o1, o2, d1, rfl, rfl⟩
      have hone' : ((kh' ++ [ve']).toArray.toList.all fun v => v.oneCell') = true := by
        have a1 := o1.cells1
        show ((kh' ++ [ve']).all _) = true
        rw [List.all_append, List.all_cons, a1, d1.one]; rfl
      have hsz' : (kh' ++ [ve']).toArray.size = 4 := by
        have l1 := o1.len
        simp only [List.length_cons, List.length_nil] at l1
        simp [l1]
      refine WL_perm (perm3' _ _ _ _ _ S _) ?_
      obtain ⟨e0, e1, hc⟩ := h2.same_bad h1
      dsimp only at e0 e1
      subst e0 e1
      repeat (first | refine RQ ?_ | ((first | refine WL_Q ?_ | refine WL_Y ?_); (first | refine QW_of (Qt_eql_flat rfl) ?_ | refine QW_of (Qt_neq_flat rfl) ?_)) | (refine RE ?_; try intro _) | ((first | refine WL_op rfl ?_ | refine WL_yes (h := ?_)); (first | (refine OW_call rfl (hF := in03_fn) (hk := ?_); rintro _ _ ⟨qb, nb, rfl, rfl⟩) | (refine OW_call rfl (hF := new_rd) (hk := ?_); rintro _ _ ⟨r1, rfl, rfl⟩) | refine OW_callP rfl (hF := sameChunk_fn hsz hsz' ne9 o1 o2 lies_self (by repeat (first | with_reducible exact E1 | apply Elems.cons)) lies_self (by repeat (first | with_reducible exact E2 | apply Elems.cons))) (hk := ?_) | refine OW_callP rfl (hF := is03_flt (by repeat (first | with_reducible assumption | apply HandleIn.cons | apply HandleIn.left | apply HandleIn.app)) hc (code := sc) (a := se) (i := 2) rfl) (hk := ?_))) | refine RC ?_ | refine WC_region (id := 21) ?_ | refine WC_region (id := 22) ?_ | refine WC_region (id := 23) ?_ | refine WC_region (id := 24) ?_ | refine WC_region (id := 25) ?_)
      refine hz _ ?_; exact ⟨_, rfl, ⟨rfl, rfl, trivial⟩, rfl, .cons _ (.cons _ (.cons _ (.cons _ (.cons _ (.cons _ (List.sublist_append_right _ _))))))⟩
  rintro _ rfl
  refine WC_late5 (fun σ => σ = ⟨[(0, .string (bstr l)), (2, .bool false)], [], L⟩) (fun hz => ?_) ?_
  · repeat (first | refine RQ ?_ | ((first | refine WL_Q ?_); (first | refine QW_of (Qt_eql_flat rfl) ?_ | refine QW_of (Qt_neq_flat rfl) ?_)) | (refine RE ?_; try intro _) | ((first | refine WL_op rfl ?_); (first | (refine OW_call rfl (hF := in03_fn) (hk := ?_); rintro _ _ ⟨qb, nb, rfl, rfl⟩) | (refine OW_call rfl (hF := new_rd) (hk := ?_); rintro _ _ ⟨r1, rfl, rfl⟩))) | refine RC ?_ | refine WC_region (id := 26) ?_ | refine WC_region (id := 27) ?_)
    refine WL_op rfl (OW_call rfl (hF := GRec_fn hl9 (Nat.zero_le _) _) (hk := ?_))
    rintro _ _ (⟨us, b, h1, rfl, rfl⟩ | ⟨c, e, p, b, h1, hb, rfl, rfl⟩)
    · have ok1 := (prs_went (Nat.zero_le _) h1).1
      have hone := ok1.cells1
      have hsz : us.toArray.size = 6 := ok1.len
      repeat (first | refine RQ ?_ | ((first | refine WL_Q ?_); (first | refine QW_of (Qt_eql_flat rfl) ?_ | refine QW_of (Qt_neq_flat rfl) ?_)) | (refine RE ?_; try intro _) | ((first | refine WL_op rfl ?_); (first | (refine OW_call rfl (hF := in03_fn) (hk := ?_); rintro _ _ ⟨qb, nb, rfl, rfl⟩) | (refine OW_call rfl (hF := new_rd) (hk := ?_); rintro _ _ ⟨r1, rfl, rfl⟩))) | refine RC ?_ | refine WC_region (id := 26) ?_ | refine WC_region (id := 27) ?_)
      refine WC_front 3 rfl ?_
      refine WC_front 3 rfl ?_
      refine WC_front 1 rfl ?_
      repeat (first | refine RQ ?_ | ((first | refine WL_Q ?_); (first | refine QW_of (Qt_eql_flat rfl) ?_ | refine QW_of (Qt_neq_flat rfl) ?_)) | (refine RE ?_; try intro _) | ((first | refine WL_op rfl ?_); (first | (refine OW_call rfl (hF := in03_fn) (hk := ?_); rintro _ _ ⟨qb, nb, rfl, rfl⟩) | (refine OW_call rfl (hF := new_rd) (hk := ?_); rintro _ _ ⟨r1, rfl, rfl⟩))) | refine RC ?_ | refine WC_region (id := 26) ?_ | refine WC_region (id := 27) ?_ | refine WC_region (id := 28) ?_)
      refine WL_op rfl (OW_call rfl (hF := Rec_any qb nb l ⟨0, 0, 0⟩ _ (Nat.zero_le _) hl9 (fun _ => rfl)) (hk := ?_))
      rintro _ _ ⟨us', ⟨sa, sc, se⟩, h2, rfl, rfl⟩
      obtain ⟨e0, e1, e2⟩ := h2.same_ok h1
      dsimp only at e1 e2
      subst e0 e1 e2
      have hq : EqV Tryz.prog 25 us'.toArray us'.toArray true := eqp_Rec.same (by decide) guard_Rec hsz hsz lies_self lies_self ok1
      repeat (first | refine RQ ?_ | ((first | refine WL_Q ?_ | refine WL_Y ?_); (first | refine QW_of (Qt_eql_flat rfl) ?_ | refine QW_of (Qt_neq_flat rfl) ?_)) | (refine RE ?_; try intro _) | ((first | refine WL_op rfl ?_ | refine WL_yes (h := ?_)); (first | (refine OW_call rfl (hF := in03_fn) (hk := ?_); rintro _ _ ⟨qb, nb, rfl, rfl⟩) | (refine OW_call rfl (hF := new_rd) (hk := ?_); rintro _ _ ⟨r1, rfl, rfl⟩) | refine OW_callP rfl (hF := is03_nil) (hk := ?_))) | refine RC ?_ | refine WC_region (id := 26) ?_ | refine WC_region (id := 27) ?_ | refine WC_region (id := 28) ?_ | refine WC_region (id := 29) ?_ | refine WC_region (id := 30) ?_)
      refine hz _ ?_; exact ⟨_, rfl, ⟨rfl, rfl, trivial⟩, rfl, .cons _ (.cons _ (.cons _ (.cons _ (.cons _ (.refl _)))))⟩
    · repeat (first | refine RQ ?_ | ((first | refine WL_Q ?_); (first | refine QW_of (Qt_eql_flat rfl) ?_ | refine QW_of (Qt_neq_flat rfl) ?_)) | (refine RE ?_; try intro _) | ((first | refine WL_op rfl ?_); (first | (refine OW_call rfl (hF := in03_fn) (hk := ?_); rintro _ _ ⟨qb, nb, rfl, rfl⟩) | (refine OW_call rfl (hF := new_rd) (hk := ?_); rintro _ _ ⟨r1, rfl, rfl⟩))) | refine RC ?_ | refine WC_region (id := 26) ?_ | refine WC_region (id := 27) ?_)
      refine WC_front 4 rfl ?_
      refine WC_front 4 rfl ?_
      refine WC_front 1 rfl ?_
      repeat (first | refine RQ ?_ | ((first | refine WL_Q ?_); (first | refine QW_of (Qt_eql_flat rfl) ?_ | refine QW_of (Qt_neq_flat rfl) ?_)) | (refine RE ?_; try intro _) | ((first | refine WL_op rfl ?_); (first | (refine OW_call rfl (hF := in03_fn) (hk := ?_); rintro _ _ ⟨qb, nb, rfl, rfl⟩) | (refine OW_call rfl (hF := new_rd) (hk := ?_); rintro _ _ ⟨r1, rfl, rfl⟩))) | refine RC ?_ | refine WC_region (id := 26) ?_ | refine WC_region (id := 27) ?_ | refine WC_region (id := 28) ?_)
      refine WL_op rfl (OW_call rfl (hF := Rec_any qb nb l ⟨0, 0, 0⟩ _ (Nat.zero_le _) hl9 (fun _ => rfl)) (hk := ?_))
      rintro _ _ ⟨us', ⟨sa, sc, se⟩, h2, rfl, rfl⟩
      have hone := h2.oks.cells1
      have hsz : us'.toArray.size = 6 := h2.oks.len
      obtain ⟨e0, e1, hc⟩ := h2.same_bad h1
      dsimp only at e0 e1
      subst e0 e1
      repeat (first | refine RQ ?_ | ((first | refine WL_Q ?_ | refine WL_Y ?_); (first | refine QW_of (Qt_eql_flat rfl) ?_ | refine QW_of (Qt_neq_flat rfl) ?_)) | (refine RE ?_; try intro _) | ((first | refine WL_op rfl ?_ | refine WL_yes (h := ?_)); (first | (refine OW_call rfl (hF := in03_fn) (hk := ?_); rintro _ _ ⟨qb, nb, rfl, rfl⟩) | (refine OW_call rfl (hF := new_rd) (hk := ?_); rintro _ _ ⟨r1, rfl, rfl⟩) | refine OW_callP rfl (hF := is03_flt (by repeat (first | with_reducible assumption | apply HandleIn.cons | apply HandleIn.left | apply HandleIn.app)) hc (code := sc) (a := se) (i := 4) rfl) (hk := ?_))) | refine RC ?_ | refine WC_region (id := 26) ?_ | refine WC_region (id := 27) ?_ | refine WC_region (id := 28) ?_ | refine WC_region (id := 29) ?_ | refine WC_region (id := 30) ?_)
      refine hz _ ?_; exact ⟨_, rfl, ⟨rfl, rfl, trivial⟩, rfl, .cons _ (.cons _ (.cons _ (.cons _ (.cons _ (.cons _ (.refl _))))))⟩
  rintro _ rfl
  refine WC_late5 (fun σ => σ = ⟨[(0, .string (bstr l)), (2, .bool false)], [], L⟩) (fun hz => ?_) ?_
  · repeat (first | refine RQ ?_ | ((first | refine WL_Q ?_); (first | refine QW_of (Qt_eql_flat rfl) ?_ | refine QW_of (Qt_neq_flat rfl) ?_)) | (refine RE ?_; try intro _) | ((first | refine WL_op rfl ?_); (first | (refine OW_call rfl (hF := in03_fn) (hk := ?_); rintro _ _ ⟨qb, nb, rfl, rfl⟩) | (refine OW_call rfl (hF := new_rd) (hk := ?_); rintro _ _ ⟨r1, rfl, rfl⟩))) | refine RC ?_ | refine WC_region (id := 31) ?_ | refine WC_region (id := 32) ?_)
    refine WL_op rfl (OW_call rfl (hF := GOp_fn hl9 (Nat.zero_le _) _) (hk := ?_))
    rintro _ _ (⟨us, b, h1, rfl, rfl⟩ | ⟨c, e, p, b, h1, hb, rfl, rfl⟩)
    · have ok1 := (prs_went (Nat.zero_le _) h1).1
      have hone := ok1.cells1
      have hsz : us.toArray.size = 4 := ok1.len
      repeat (first | refine RQ ?_ | ((first | refine WL_Q ?_); (first | refine QW_of (Qt_eql_flat rfl) ?_ | refine QW_of (Qt_neq_flat rfl) ?_)) | (refine RE ?_; try intro _) | ((first | refine WL_op rfl ?_); (first | (refine OW_call rfl (hF := in03_fn) (hk := ?_); rintro _ _ ⟨qb, nb, rfl, rfl⟩) | (refine OW_call rfl (hF := new_rd) (hk := ?_); rintro _ _ ⟨r1, rfl, rfl⟩))) | refine RC ?_ | refine WC_region (id := 31) ?_ | refine WC_region (id := 32) ?_)
      refine WC_front 3 rfl ?_
      refine WC_front 3 rfl ?_
      refine WC_front 1 rfl ?_
      repeat (first | refine RQ ?_ | ((first | refine WL_Q ?_); (first | refine QW_of (Qt_eql_flat rfl) ?_ | refine QW_of (Qt_neq_flat rfl) ?_)) | (refine RE ?_; try intro _) | ((first | refine WL_op rfl ?_); (first | (refine OW_call rfl (hF := in03_fn) (hk := ?_); rintro _ _ ⟨qb, nb, rfl, rfl⟩) | (refine OW_call rfl (hF := new_rd) (hk := ?_); rintro _ _ ⟨r1, rfl, rfl⟩))) | refine RC ?_ | refine WC_region (id := 31) ?_ | refine WC_region (id := 32) ?_ | refine WC_region (id := 33) ?_)
      refine WL_op rfl (OW_call rfl (hF := Op_any qb nb l ⟨0, 0, 0⟩ _ (Nat.zero_le _) hl9 (fun _ => rfl)) (hk := ?_))
      rintro _ _ ⟨us', ⟨sa, sc, se⟩, h2, rfl, rfl⟩
      obtain ⟨e0, e1, e2⟩ := h2.same_ok h1
      dsimp only at e1 e2
      subst e0 e1 e2
      have hq : EqV Tryz.prog 28 us'.toArray us'.toArray true := eqp_Op.same (by decide) guard_Op hsz hsz lies_self lies_self ok1
      repeat (first | refine RQ ?_ | ((first | refine WL_Q ?_ | refine WL_Y ?_); (first | refine QW_of (Qt_eql_flat rfl) ?_ | refine QW_of (Qt_neq_flat rfl) ?_)) | (refine RE ?_; try intro _) | ((first | refine WL_op rfl ?_ | refine WL_yes (h := ?_)); (first | (refine OW_call rfl (hF := in03_fn) (hk := ?_); rintro _ _ ⟨qb, nb, rfl, rfl⟩) | (refine OW_call rfl (hF := new_rd) (hk := ?_); rintro _ _ ⟨r1, rfl, rfl⟩) | refine OW_callP rfl (hF := is03_nil) (hk := ?_))) | refine RC ?_ | refine WC_region (id := 31) ?_ | refine WC_region (id := 32) ?_ | refine WC_region (id := 33) ?_ | refine WC_region (id := 34) ?_ | refine WC_region (id := 35) ?_)
      refine hz _ ?_; exact ⟨_, rfl, ⟨rfl, rfl, trivial⟩, rfl, .cons _ (.cons _ (.cons _ (.cons _ (.cons _ (.refl _)))))⟩
    · repeat (first | refine RQ ?_ | ((first | refine WL_Q ?_); (first | refine QW_of (Qt_eql_flat rfl) ?_ | refine QW_of (Qt_neq_flat rfl) ?_)) | (refine RE ?_; try intro _) | ((first | refine WL_op rfl ?_); (first | (refine OW_call rfl (hF := in03_fn) (hk := ?_); rintro _ _ ⟨qb, nb, rfl, rfl⟩) | (refine OW_call rfl (hF := new_rd) (hk := ?_); rintro _ _ ⟨r1, rfl, rfl⟩))) | refine RC ?_ | refine WC_region (id := 31) ?_ | refine WC_region (id := 32) ?_)
      refine WC_front 4 rfl ?_
      refine WC_front 4 rfl ?_
      refine WC_front 1 rfl ?_
      repeat (first | refine RQ ?_ | ((first | refine WL_Q ?_); (first | refine QW_of (Qt_eql_flat rfl) ?_ | refine QW_of (Qt_neq_flat rfl) ?_)) | (refine RE ?_; try intro _) | ((first | refine WL_op rfl ?_); (first | (refine OW_call rfl (hF := in03_fn) (hk := ?_); rintro _ _ ⟨qb, nb, rfl, rfl⟩) | (refine OW_call rfl (hF := new_rd) (hk := ?_); rintro _ _ ⟨r1, rfl, rfl⟩))) | refine RC ?_ | refine WC_region (id := 31) ?_ | refine WC_region (id := 32) ?_ | refine WC_region (id := 33) ?_)
      refine WL_op rfl (OW_call rfl (hF := Op_any qb nb l ⟨0, 0, 0⟩ _ (Nat.zero_le _) hl9 (fun _ => rfl)) (hk := ?_))
      rintro _ _ ⟨us', ⟨sa, sc, se⟩, h2, rfl, rfl⟩
      have hone := h2.oks.cells1
      have hsz : us'.toArray.size = 4 := h2.oks.len
      obtain ⟨e0, e1, hc⟩ := h2.same_bad h1
      dsimp only at e0 e1
      subst e0 e1
      repeat (first | refine RQ ?_ | ((first | refine WL_Q ?_ | refine WL_Y ?_); (first | refine QW_of (Qt_eql_flat rfl) ?_ | refine QW_of (Qt_neq_flat rfl) ?_)) | (refine RE ?_; try intro _) | ((first | refine WL_op rfl ?_ | refine WL_yes (h := ?_)); (first | (refine OW_call rfl (hF := in03_fn) (hk := ?_); rintro _ _ ⟨qb, nb, rfl, rfl⟩) | (refine OW_call rfl (hF := new_rd) (hk := ?_); rintro _ _ ⟨r1, rfl, rfl⟩) | refine OW_callP rfl (hF := is03_flt (by repeat (first | with_reducible assumption | apply HandleIn.cons | apply HandleIn.left | apply HandleIn.app)) hc (code := sc) (a := se) (i := 4) rfl) (hk := ?_))) | refine RC ?_ | refine WC_region (id := 31) ?_ | refine WC_region (id := 32) ?_ | refine WC_region (id := 33) ?_ | refine WC_region (id := 34) ?_ | refine WC_region (id := 35) ?_)
      refine hz _ ?_; exact ⟨_, rfl, ⟨rfl, rfl, trivial⟩, rfl, .cons _ (.cons _ (.cons _ (.cons _ (.cons _ (.cons _ (.refl _))))))⟩
  rintro _ rfl
  repeat (first | refine RQ ?_ | ((first | refine WL_Q ?_); (first | refine QW_of (Qt_eql_flat rfl) ?_ | refine QW_of (Qt_neq_flat rfl) ?_)) | (refine RE ?_; try intro _) | ((first | refine WL_op rfl ?_); (first | (refine OW_call rfl (hF := in03_fn) (hk := ?_); rintro _ _ ⟨qb, nb, rfl, rfl⟩) | (refine OW_call rfl (hF := new_rd) (hk := ?_); rintro _ _ ⟨r1, rfl, rfl⟩))) | refine RC ?_ | refine WC_region (id := 36) ?_ | refine WC_region (id := 37) ?_)
  refine WL_op rfl (OW_call rfl (hF := GAcc_fn hl9 (Nat.zero_le _) _) (hk := ?_))
  rintro _ _ (⟨us, b, h1, rfl, rfl⟩ | ⟨c, e, p, b, h1, hb, rfl, rfl⟩)
  · have ok1 := (prs_went (Nat.zero_le _) h1).1
    have hone := ok1.cells1
    have hsz : us.toArray.size = 5 := ok1.len
    repeat (first | refine RQ ?_ | ((first | refine WL_Q ?_); (first | refine QW_of (Qt_eql_flat rfl) ?_ | refine QW_of (Qt_neq_flat rfl) ?_)) | (refine RE ?_; try intro _) | ((first | refine WL_op rfl ?_); (first | (refine OW_call rfl (hF := in03_fn) (hk := ?_); rintro _ _ ⟨qb, nb, rfl, rfl⟩) | (refine OW_call rfl (hF := new_rd) (hk := ?_); rintro _ _ ⟨r1, rfl, rfl⟩))) | refine RC ?_ | refine WC_region (id := 36) ?_ | refine WC_region (id := 37) ?_)
    refine WC_front 3 rfl ?_
    refine WC_front 3 rfl ?_
    refine WC_front 1 rfl ?_
    repeat (first | refine RQ ?_ | ((first | refine WL_Q ?_); (first | refine QW_of (Qt_eql_flat rfl) ?_ | refine QW_of (Qt_neq_flat rfl) ?_)) | (refine RE ?_; try intro _) | ((first | refine WL_op rfl ?_); (first | (refine OW_call rfl (hF := in03_fn) (hk := ?_); rintro _ _ ⟨qb, nb, rfl, rfl⟩) | (refine OW_call rfl (hF := new_rd) (hk := ?_); rintro _ _ ⟨r1, rfl, rfl⟩))) | refine RC ?_ | refine WC_region (id := 36) ?_ | refine WC_region (id := 37) ?_ | refine WC_region (id := 38) ?_)
    refine WL_op rfl (OW_call rfl (hF := Acc_any qb nb l ⟨0, 0, 0⟩ _ (Nat.zero_le _) hl9 (fun _ => rfl)) (hk := ?_))
    rintro _ _ ⟨us', ⟨sa, sc, se⟩, h2, rfl, rfl⟩
    obtain ⟨e0, e1, e2⟩ := h2.same_ok h1
    dsimp only at e1 e2
    subst e0 e1 e2
    have hq : EqV Tryz.prog 43 us'.toArray us'.toArray true := eqp_Acc.same (by decide) guard_Acc hsz hsz lies_self lies_self ok1
    repeat (first | refine RQ ?_ | ((first | refine WL_Q ?_ | refine WL_Y ?_); (first | refine QW_of (Qt_eql_flat rfl) ?_ | refine QW_of (Qt_neq_flat rfl) ?_)) | (refine RE ?_; try intro _) | ((first | refine WL_op rfl ?_ | refine WL_yes (h := ?_)); (first | (refine OW_call rfl (hF := in03_fn) (hk := ?_); rintro _ _ ⟨qb, nb, rfl, rfl⟩) | (refine OW_call rfl (hF := new_rd) (hk := ?_); rintro _ _ ⟨r1, rfl, rfl⟩) | refine OW_callP rfl (hF := is03_nil) (hk := ?_))) | refine RC ?_ | refine WC_region (id := 36) ?_ | refine WC_region (id := 37) ?_ | refine WC_region (id := 38) ?_ | refine WC_region (id := 39) ?_)
    exact ⟨rfl, _, L, Res1 rfl (resV_tmp rfl), .cons _ (.cons _ (.cons _ (.cons _ (.cons _ (.refl _))))), rfl, rfl⟩
  · repeat (first | refine RQ ?_ | ((first | refine WL_Q ?_); (first | refine QW_of (Qt_eql_flat rfl) ?_ | refine QW_of (Qt_neq_flat rfl) ?_)) | (refine RE ?_; try intro _) | ((first | refine WL_op rfl ?_); (first | (refine OW_call rfl (hF := in03_fn) (hk := ?_); rintro _ _ ⟨qb, nb, rfl, rfl⟩) | (refine OW_call rfl (hF := new_rd) (hk := ?_); rintro _ _ ⟨r1, rfl, rfl⟩))) | refine RC ?_ | refine WC_region (id := 36) ?_ | refine WC_region (id := 37) ?_)
    refine WC_front 4 rfl ?_
    refine WC_front 4 rfl ?_
    refine WC_front 1 rfl ?_
    repeat (first | refine RQ ?_ | ((first | refine WL_Q ?_); (first | refine QW_of (Qt_eql_flat rfl) ?_ | refine QW_of (Qt_neq_flat rfl) ?_)) | (refine RE ?_; try intro _) | ((first | refine WL_op rfl ?_); (first | (refine OW_call rfl (hF := in03_fn) (hk := ?_); rintro _ _ ⟨qb, nb, rfl, rfl⟩) | (refine OW_call rfl (hF := new_rd) (hk := ?_); rintro _ _ ⟨r1, rfl, rfl⟩))) | refine RC ?_ | refine WC_region (id := 36) ?_ | refine WC_region (id := 37) ?_ | refine WC_region (id := 38) ?_)
    refine WL_op rfl (OW_call rfl (hF := Acc_any qb nb l ⟨0, 0, 0⟩ _ (Nat.zero_le _) hl9 (fun _ => rfl)) (hk := ?_))
    rintro _ _ ⟨us', ⟨sa, sc, se⟩, h2, rfl, rfl⟩
    have hone := h2.oks.cells1
    have hsz : us'.toArray.size = 5 := h2.oks.len
    obtain ⟨e0, e1, hc⟩ := h2.same_bad h1
    dsimp only at e0 e1
    subst e0 e1
    repeat (first | refine RQ ?_ | ((first | refine WL_Q ?_ | refine WL_Y ?_); (first | refine QW_of (Qt_eql_flat rfl) ?_ | refine QW_of (Qt_neq_flat rfl) ?_)) | (refine RE ?_; try intro _) | ((first | refine WL_op rfl ?_ | refine WL_yes (h := ?_)); (first | (refine OW_call rfl (hF := in03_fn) (hk := ?_); rintro _ _ ⟨qb, nb, rfl, rfl⟩) | (refine OW_call rfl (hF := new_rd) (hk := ?_); rintro _ _ ⟨r1, rfl, rfl⟩) | refine OW_callP rfl (hF := is03_flt (by repeat (first | with_reducible assumption | apply HandleIn.cons | apply HandleIn.left | apply HandleIn.app)) hc (code := sc) (a := se) (i := 4) rfl) (hk := ?_))) | refine RC ?_ | refine WC_region (id := 36) ?_ | refine WC_region (id := 37) ?_ | refine WC_region (id := 38) ?_ | refine WC_region (id := 39) ?_)
    exact ⟨rfl, _, L, Res1 rfl (resV_tmp rfl), .cons _ (.cons _ (.cons _ (.cons _ (.cons _ (.cons _ (.refl _)))))), rfl, rfl⟩
end Go.Proofs.YtakedlockchpcaaGreatDoor
namespace Go.Proofs.YtakedlockchpcaaGreatDoor
open Go.RowKit
namespace W03
noncomputable def xf11 : XF := ⟨Tryz.f11, (Tryz.f11.body).getD .skip, T.ofList [], 27⟩
theorem xf11_ok : GoodF Tryz.prog 11 xf11 := ⟨Tryz.func11, by kernel_rfl, inferInstance, by kernel_rfl⟩
noncomputable def xf15 : XF := ⟨Tryz.f15, (Tryz.f15.body).getD .skip, T.ofList [], 27⟩
theorem xf15_ok : GoodF Tryz.prog 15 xf15 := ⟨Tryz.func15, by kernel_rfl, inferInstance, by kernel_rfl⟩
noncomputable def xf23 : XF := ⟨Tryz.f23, (Tryz.f23.body).getD .skip, T.ofList [], 27⟩
theorem xf23_ok : GoodF Tryz.prog 23 xf23 := ⟨Tryz.func23, by kernel_rfl, inferInstance, by kernel_rfl⟩
noncomputable def xf25 : XF := ⟨Tryz.f25, (Tryz.f25.body).getD .skip, T.ofList [], 27⟩
theorem xf25_ok : GoodF Tryz.prog 25 xf25 := ⟨Tryz.func25, by kernel_rfl, inferInstance, by kernel_rfl⟩
noncomputable def xf27 : XF := ⟨Tryz.f27, (Tryz.f27.body).getD .skip, T.ofList [], 767⟩
theorem xf27_ok : GoodF Tryz.prog 27 xf27 := ⟨Tryz.func27, by kernel_rfl, inferInstance, by kernel_rfl⟩
noncomputable def xf29 : XF := ⟨Tryz.f29, (Tryz.f29.body).getD .skip, T.ofList [], 5⟩
theorem xf29_ok : GoodF Tryz.prog 29 xf29 := ⟨Tryz.func29, by kernel_rfl, inferInstance, by kernel_rfl⟩
noncomputable def xf31 : XF := ⟨Tryz.f31, (Tryz.f31.body).getD .skip, T.ofList [], 21⟩
theorem xf31_ok : GoodF Tryz.prog 31 xf31 := ⟨Tryz.func31, by kernel_rfl, inferInstance, by kernel_rfl⟩
noncomputable def xf46 : XF := ⟨Tryz.f46, (Tryz.f46.body).getD .skip, T.ofList [], 215⟩
theorem xf46_ok : GoodF Tryz.prog 46 xf46 := ⟨Tryz.func46, by kernel_rfl, inferInstance, by kernel_rfl⟩
noncomputable def xf47 : XF := ⟨Tryz.f47, (Tryz.f47.body).getD .skip, T.ofList [(2, (17, .calm 0 <| .calm 1 <| .calm 2 <| .calm 3 <| .calm 4 <| .calm 5 <| .calm 6 <| .calm 7 <| .calm 8 <| .calm 9 <| .calm 10 <| .calm 11 <| .calm 12 <| .calm 13 <| .calm 14 <| .calm 15 <| .must 16 <| .done)), (8, (8, .calm 0 <| .calm 1 <| .calm 2 <| .calm 3 <| .calm 4 <| .calm 5 <| .calm 6 <| .must 7 <| .done))], 297471780385420476419⟩
theorem xf47_ok : GoodF Tryz.prog 47 xf47 := ⟨Tryz.func47, by kernel_rfl, inferInstance, by kernel_rfl⟩
noncomputable def xf53 : XF := ⟨Tryz.f53, (Tryz.f53.body).getD .skip, T.ofList [], 215⟩
theorem xf53_ok : GoodF Tryz.prog 53 xf53 := ⟨Tryz.func53, by kernel_rfl, inferInstance, by kernel_rfl⟩
noncomputable def xf54 : XF := ⟨Tryz.f54, (Tryz.f54.body).getD .skip, T.ofList [(1, (8, .calm 0 <| .calm 1 <| .calm 2 <| .calm 3 <| .calm 4 <| .calm 5 <| .calm 6 <| .must 7 <| .done)), (2, (8, .calm 0 <| .calm 1 <| .calm 2 <| .calm 3 <| .calm 4 <| .calm 5 <| .calm 6 <| .must 7 <| .done)), (3, (8, .calm 0 <| .calm 1 <| .calm 2 <| .calm 3 <| .calm 4 <| .calm 5 <| .calm 6 <| .must 7 <| .done)), (4, (8, .calm 0 <| .calm 1 <| .calm 2 <| .calm 3 <| .calm 4 <| .calm 5 <| .calm 6 <| .must 7 <| .done)), (5, (8, .calm 0 <| .calm 1 <| .calm 2 <| .calm 3 <| .calm 4 <| .calm 5 <| .calm 6 <| .must 7 <| .done))], 3⟩
theorem xf54_ok : GoodF Tryz.prog 54 xf54 := ⟨Tryz.func54, by kernel_rfl, inferInstance, by kernel_rfl⟩
noncomputable def xf57 : XF := ⟨Tryz.f57, (Tryz.f57.body).getD .skip, T.ofList [(1, (8, .calm 0 <| .calm 1 <| .calm 2 <| .calm 3 <| .calm 4 <| .calm 5 <| .calm 6 <| .must 7 <| .done))], 3⟩
theorem xf57_ok : GoodF Tryz.prog 57 xf57 := ⟨Tryz.func57, by kernel_rfl, inferInstance, by kernel_rfl⟩
noncomputable def xf59 : XF := ⟨Tryz.f59, (Tryz.f59.body).getD .skip, T.ofList [(1, (8, .calm 0 <| .calm 1 <| .calm 2 <| .calm 3 <| .calm 4 <| .calm 5 <| .calm 6 <| .must 7 <| .done)), (2, (8, .calm 0 <| .calm 1 <| .calm 2 <| .calm 3 <| .calm 4 <| .calm 5 <| .calm 6 <| .must 7 <| .done))], 3⟩
theorem xf59_ok : GoodF Tryz.prog 59 xf59 := ⟨Tryz.func59, by kernel_rfl, inferInstance, by kernel_rfl⟩
noncomputable def xf61 : XF := ⟨Tryz.f61, (Tryz.f61.body).getD .skip, T.ofList [(2, (8, .calm 0 <| .calm 1 <| .calm 2 <| .calm 3 <| .calm 4 <| .calm 5 <| .calm 6 <| .must 7 <| .done)), (3, (8, .calm 0 <| .calm 1 <| .calm 2 <| .calm 3 <| .calm 4 <| .calm 5 <| .calm 6 <| .must 7 <| .done)), (4, (8, .calm 0 <| .calm 1 <| .calm 2 <| .calm 3 <| .calm 4 <| .calm 5 <| .calm 6 <| .must 7 <| .done))], 3⟩
theorem xf61_ok : GoodF Tryz.prog 61 xf61 := ⟨Tryz.func61, by kernel_rfl, inferInstance, by kernel_rfl⟩
noncomputable def xf62 : XF := ⟨Tryz.f62, (Tryz.f62.body).getD .skip, T.ofList [], 215⟩
theorem xf62_ok : GoodF Tryz.prog 62 xf62 := ⟨Tryz.func62, by kernel_rfl, inferInstance, by kernel_rfl⟩
noncomputable def xf63 : XF := ⟨Tryz.f63, (Tryz.f63.body).getD .skip, T.ofList [(0, (8, .calm 0 <| .calm 1 <| .calm 2 <| .calm 3 <| .calm 4 <| .calm 5 <| .calm 6 <| .must 7 <| .done)), (1, (8, .calm 0 <| .calm 1 <| .calm 2 <| .calm 3 <| .calm 4 <| .calm 5 <| .calm 6 <| .must 7 <| .done)), (2, (8, .calm 0 <| .calm 1 <| .calm 2 <| .calm 3 <| .calm 4 <| .calm 5 <| .calm 6 <| .must 7 <| .done)), (3, (8, .calm 0 <| .calm 1 <| .calm 2 <| .calm 3 <| .calm 4 <| .calm 5 <| .calm 6 <| .must 7 <| .done)), (4, (8, .calm 0 <| .calm 1 <| .calm 2 <| .calm 3 <| .calm 4 <| .calm 5 <| .calm 6 <| .must 7 <| .done))], 3⟩
theorem xf63_ok : GoodF Tryz.prog 63 xf63 := ⟨Tryz.func63, by kernel_rfl, inferInstance, by kernel_rfl⟩
noncomputable def xf64 : XF := ⟨Tryz.f64, (Tryz.f64.body).getD .skip, T.ofList [], 215⟩
theorem xf64_ok : GoodF Tryz.prog 64 xf64 := ⟨Tryz.func64, by kernel_rfl, inferInstance, by kernel_rfl⟩
noncomputable def xf65 : XF := ⟨Tryz.f65, (Tryz.f65.body).getD .skip, T.ofList [(2, (8, .calm 0 <| .calm 1 <| .calm 2 <| .calm 3 <| .calm 4 <| .calm 5 <| .calm 6 <| .must 7 <| .done))], 3⟩
theorem xf65_ok : GoodF Tryz.prog 65 xf65 := ⟨Tryz.func65, by kernel_rfl, inferInstance, by kernel_rfl⟩
noncomputable def xf66 : XF := ⟨Tryz.f66, (Tryz.f66.body).getD .skip, T.ofList [], 13⟩
theorem xf66_ok : GoodF Tryz.prog 66 xf66 := ⟨Tryz.func66, by kernel_rfl, inferInstance, by kernel_rfl⟩
noncomputable def xf67 : XF := ⟨Tryz.f67, (Tryz.f67.body).getD .skip, T.ofList [], 13⟩
theorem xf67_ok : GoodF Tryz.prog 67 xf67 := ⟨Tryz.func67, by kernel_rfl, inferInstance, by kernel_rfl⟩
noncomputable def xf68 : XF := ⟨Tryz.f68, (Tryz.f68.body).getD .skip, T.ofList [(4, (18, .calm 0 <| .calm 1 <| .must 2 <| .calm 3 <| .calm 7 <| .must 4 <| .calm 5 <| .must 6 <| .calm 8 <| .calm 9 <| .calm 10 <| .calm 11 <| .calm 12 <| .calm 13 <| .calm 14 <| .must 15 <| .calm 16 <| .calm 17 <| .done))], 4155⟩
theorem xf68_ok : GoodF Tryz.prog 68 xf68 := ⟨Tryz.func68, by kernel_rfl, inferInstance, by kernel_rfl⟩
noncomputable def xf88 : XF := ⟨Tryz.f88, (Tryz.f88.body).getD .skip, T.ofList [(9, (10, .calm 0 <| .calm 1 <| .calm 2 <| .calm 3 <| .calm 4 <| .calm 5 <| .calm 6 <| .calm 7 <| .must 8 <| .calm 9 <| .done))], 32883⟩
theorem xf88_ok : GoodF Tryz.prog 88 xf88 := ⟨Tryz.func88, by kernel_rfl, inferInstance, by kernel_rfl⟩
noncomputable def xf89 : XF := ⟨Tryz.f89, (Tryz.f89.body).getD .skip, T.ofList [], 51⟩
theorem xf89_ok : GoodF Tryz.prog 89 xf89 := ⟨Tryz.func89, by kernel_rfl, inferInstance, by kernel_rfl⟩
noncomputable def xf95 : XF := ⟨Tryz.f95, (Tryz.f95.body).getD .skip, T.ofList [(2, (13, .calm 0 <| .calm 2 <| .calm 3 <| .calm 4 <| .calm 5 <| .calm 6 <| .calm 7 <| .calm 8 <| .calm 9 <| .calm 10 <| .calm 11 <| .must 1 <| .must 12 <| .done)), (3, (12, .calm 0 <| .calm 1 <| .calm 2 <| .calm 3 <| .calm 4 <| .calm 5 <| .calm 6 <| .calm 7 <| .calm 8 <| .calm 9 <| .calm 10 <| .must 11 <| .done)), (5, (12, .calm 0 <| .calm 1 <| .calm 2 <| .calm 3 <| .calm 4 <| .calm 5 <| .calm 6 <| .calm 7 <| .calm 8 <| .calm 9 <| .calm 10 <| .calm 11 <| .must 12 <| .done))], 13⟩
theorem xf95_ok : GoodF Tryz.prog 95 xf95 := ⟨Tryz.func95, by kernel_rfl, inferInstance, by kernel_rfl⟩
noncomputable def xf97 : XF := ⟨Tryz.f97, (Tryz.f97.body).getD .skip, T.ofList [], 61⟩
theorem xf97_ok : GoodF Tryz.prog 97 xf97 := ⟨Tryz.func97, by kernel_rfl, inferInstance, by kernel_rfl⟩
noncomputable def xf99 : XF := ⟨Tryz.f99, (Tryz.f99.body).getD .skip, T.ofList [], 34368129779⟩
theorem xf99_ok : GoodF Tryz.prog 99 xf99 := ⟨Tryz.func99, by kernel_rfl, inferInstance, by kernel_rfl⟩
noncomputable def xf100 : XF := ⟨Tryz.f100, (Tryz.f100.body).getD .skip, T.ofList [], 2099⟩
theorem xf100_ok : GoodF Tryz.prog 100 xf100 := ⟨Tryz.func100, by kernel_rfl, inferInstance, by kernel_rfl⟩
noncomputable def xf101 : XF := ⟨Tryz.f101, (Tryz.f101.body).getD .skip, T.ofList [], 19⟩
theorem xf101_ok : GoodF Tryz.prog 101 xf101 := ⟨Tryz.func101, by kernel_rfl, inferInstance, by kernel_rfl⟩
noncomputable def xf102 : XF := ⟨Tryz.f102, (Tryz.f102.body).getD .skip, T.ofList [], 19⟩
theorem xf102_ok : GoodF Tryz.prog 102 xf102 := ⟨Tryz.func102, by kernel_rfl, inferInstance, by kernel_rfl⟩
noncomputable def xf103 : XF := ⟨Tryz.f103, (Tryz.f103.body).getD .skip, T.ofList [], 69189240591⟩
theorem xf103_ok : GoodF Tryz.prog 103 xf103 := ⟨Tryz.func103, by kernel_rfl, inferInstance, by kernel_rfl⟩
noncomputable def xf104 : XF := ⟨Tryz.f104, (Tryz.f104.body).getD .skip, T.ofList [(9, (8, .calm 0 <| .calm 1 <| .calm 2 <| .calm 3 <| .calm 4 <| .must 5 <| .must 6 <| .calm 7 <| .must 8 <| .done))], 69189240591⟩
theorem xf104_ok : GoodF Tryz.prog 104 xf104 := ⟨Tryz.func104, by kernel_rfl, inferInstance, by kernel_rfl⟩
noncomputable def xf105 : XF := ⟨Tryz.f105, (Tryz.f105.body).getD .skip, T.ofList [], 51⟩
theorem xf105_ok : GoodF Tryz.prog 105 xf105 := ⟨Tryz.func105, by kernel_rfl, inferInstance, by kernel_rfl⟩
noncomputable def xf106 : XF := ⟨Tryz.f106, (Tryz.f106.body).getD .skip, T.ofList [], 51⟩
theorem xf106_ok : GoodF Tryz.prog 106 xf106 := ⟨Tryz.func106, by kernel_rfl, inferInstance, by kernel_rfl⟩
noncomputable def xf125 : XF := ⟨Tryz.f125, (Tryz.f125.body).getD .skip, T.ofList [], 16541⟩
theorem xf125_ok : GoodF Tryz.prog 125 xf125 := ⟨Tryz.func125, by kernel_rfl, inferInstance, by kernel_rfl⟩
noncomputable def xf126 : XF := ⟨Tryz.f126, (Tryz.f126.body).getD .skip, T.ofList [], 21⟩
theorem xf126_ok : GoodF Tryz.prog 126 xf126 := ⟨Tryz.func126, by kernel_rfl, inferInstance, by kernel_rfl⟩
noncomputable def xf127 : XF := ⟨Tryz.f127, (Tryz.f127.body).getD .skip, T.ofList [], 135⟩
theorem xf127_ok : GoodF Tryz.prog 127 xf127 := ⟨Tryz.func127, by kernel_rfl, inferInstance, by kernel_rfl⟩
noncomputable def xf128 : XF := ⟨Tryz.f128, (Tryz.f128.body).getD .skip, T.ofList [(5, (12, .calm 0 <| .calm 1 <| .calm 2 <| .calm 3 <| .calm 4 <| .calm 5 <| .calm 6 <| .calm 7 <| .calm 8 <| .calm 9 <| .calm 10 <| .must 11 <| .done)), (8, (20, .calm 0 <| .calm 1 <| .calm 2 <| .calm 3 <| .calm 4 <| .calm 5 <| .calm 6 <| .calm 7 <| .calm 8 <| .calm 9 <| .calm 10 <| .calm 11 <| .calm 12 <| .calm 13 <| .calm 14 <| .calm 15 <| .calm 16 <| .calm 17 <| .calm 18 <| .must 19 <| .done)), (9, (13, .calm 0 <| .calm 1 <| .calm 2 <| .calm 3 <| .calm 4 <| .calm 5 <| .calm 6 <| .calm 7 <| .calm 8 <| .calm 9 <| .calm 12 <| .must 10 <| .calm 11 <| .done))], 4642275147320176030938824797⟩
theorem xf128_ok : GoodF Tryz.prog 128 xf128 := ⟨Tryz.func128, by kernel_rfl, inferInstance, by kernel_rfl⟩
noncomputable def xf132 : XF := ⟨Tryz.f132, (Tryz.f132.body).getD .skip, T.ofList [], 1193287703199244111⟩
theorem xf132_ok : GoodF Tryz.prog 132 xf132 := ⟨Tryz.func132, by kernel_rfl, inferInstance, by kernel_rfl⟩
noncomputable def xf134 : XF := ⟨Tryz.f134, (Tryz.f134.body).getD .skip, T.ofList [], 4639143427053511⟩
theorem xf134_ok : GoodF Tryz.prog 134 xf134 := ⟨Tryz.func134, by kernel_rfl, inferInstance, by kernel_rfl⟩
noncomputable def xf135 : XF := ⟨Tryz.f135, (Tryz.f135.body).getD .skip, T.ofList [], 3451⟩
theorem xf135_ok : GoodF Tryz.prog 135 xf135 := ⟨Tryz.func135, by kernel_rfl, inferInstance, by kernel_rfl⟩
noncomputable def xf136 : XF := ⟨Tryz.f136, (Tryz.f136.body).getD .skip, T.ofList [], 3451⟩
theorem xf136_ok : GoodF Tryz.prog 136 xf136 := ⟨Tryz.func136, by kernel_rfl, inferInstance, by kernel_rfl⟩
noncomputable def xf166 : XF := ⟨Tryz.f166, (Tryz.f166.body).getD .skip, T.ofList [], 5⟩
theorem xf166_ok : GoodF Tryz.prog 166 xf166 := ⟨Tryz.func166, by kernel_rfl, inferInstance, by kernel_rfl⟩
noncomputable def xf167 : XF := ⟨Tryz.f167, (Tryz.f167.body).getD .skip, T.ofList [], 1⟩
theorem xf167_ok : GoodF Tryz.prog 167 xf167 := ⟨Tryz.func167, by kernel_rfl, inferInstance, by kernel_rfl⟩
noncomputable def xf168 : XF := ⟨Tryz.f168, (Tryz.f168.body).getD .skip, T.ofList [], 7⟩
theorem xf168_ok : GoodF Tryz.prog 168 xf168 := ⟨Tryz.func168, by kernel_rfl, inferInstance, by kernel_rfl⟩
noncomputable def xf169 : XF := ⟨Tryz.f169, (Tryz.f169.body).getD .skip, T.ofList [(0, (11, .calm 0 <| .calm 1 <| .calm 2 <| .calm 3 <| .calm 4 <| .calm 5 <| .calm 6 <| .calm 7 <| .must 8 <| .calm 9 <| .calm 10 <| .must 11 <| .done))], 3⟩
theorem xf169_ok : GoodF Tryz.prog 169 xf169 := ⟨Tryz.func169, by kernel_rfl, inferInstance, by kernel_rfl⟩
noncomputable def xf170 : XF := ⟨Tryz.f170, (Tryz.f170.body).getD .skip, T.ofList [(0, (12, .calm 0 <| .calm 1 <| .calm 2 <| .calm 3 <| .calm 4 <| .calm 5 <| .calm 6 <| .calm 7 <| .must 8 <| .must 9 <| .calm 10 <| .calm 11 <| .must 12 <| .done))], 3⟩
theorem xf170_ok : GoodF Tryz.prog 170 xf170 := ⟨Tryz.func170, by kernel_rfl, inferInstance, by kernel_rfl⟩
noncomputable def xf171 : XF := ⟨Tryz.f171, (Tryz.f171.body).getD .skip, T.ofList [(0, (11, .calm 0 <| .calm 1 <| .calm 2 <| .calm 3 <| .calm 4 <| .calm 5 <| .calm 6 <| .calm 7 <| .must 8 <| .calm 9 <| .calm 10 <| .must 11 <| .done))], 3⟩
theorem xf171_ok : GoodF Tryz.prog 171 xf171 := ⟨Tryz.func171, by kernel_rfl, inferInstance, by kernel_rfl⟩
noncomputable def xf172 : XF := ⟨Tryz.f172, (Tryz.f172.body).getD .skip, T.ofList [(0, (11, .calm 0 <| .calm 1 <| .calm 2 <| .calm 3 <| .calm 4 <| .calm 5 <| .calm 6 <| .calm 7 <| .must 8 <| .calm 9 <| .calm 10 <| .must 11 <| .done))], 3⟩
theorem xf172_ok : GoodF Tryz.prog 172 xf172 := ⟨Tryz.func172, by kernel_rfl, inferInstance, by kernel_rfl⟩
noncomputable def xf173 : XF := ⟨Tryz.f173, (Tryz.f173.body).getD .skip, T.ofList [], 19⟩
theorem xf173_ok : GoodF Tryz.prog 173 xf173 := ⟨Tryz.func173, by kernel_rfl, inferInstance, by kernel_rfl⟩
noncomputable def xf174 : XF := ⟨Tryz.f174, (Tryz.f174.body).getD .skip, T.ofList [], 1⟩
theorem xf174_ok : GoodF Tryz.prog 174 xf174 := ⟨Tryz.func174, by kernel_rfl, inferInstance, by kernel_rfl⟩
noncomputable def xf175 : XF := ⟨Tryz.f175, (Tryz.f175.body).getD .skip, T.ofList [], 135⟩
theorem xf175_ok : GoodF Tryz.prog 175 xf175 := ⟨Tryz.func175, by kernel_rfl, inferInstance, by kernel_rfl⟩
noncomputable def xf176 : XF := ⟨Tryz.f176, (Tryz.f176.body).getD .skip, T.ofList [], 3⟩
theorem xf176_ok : GoodF Tryz.prog 176 xf176 := ⟨Tryz.func176, by kernel_rfl, inferInstance, by kernel_rfl⟩
noncomputable def xf177 : XF := ⟨Tryz.f177, (Tryz.f177.body).getD .skip, T.ofList [], 3⟩
theorem xf177_ok : GoodF Tryz.prog 177 xf177 := ⟨Tryz.func177, by kernel_rfl, inferInstance, by kernel_rfl⟩
noncomputable def xf178 : XF := ⟨Tryz.f178, (Tryz.f178.body).getD .skip, T.ofList [], 3⟩
theorem xf178_ok : GoodF Tryz.prog 178 xf178 := ⟨Tryz.func178, by kernel_rfl, inferInstance, by kernel_rfl⟩
noncomputable def xf179 : XF := ⟨Tryz.f179, (Tryz.f179.body).getD .skip, T.ofList [], 3⟩
theorem xf179_ok : GoodF Tryz.prog 179 xf179 := ⟨Tryz.func179, by kernel_rfl, inferInstance, by kernel_rfl⟩
noncomputable def xf180 : XF := ⟨Tryz.f180, (Tryz.f180.body).getD .skip, T.ofList [], 4211⟩
theorem xf180_ok : GoodF Tryz.prog 180 xf180 := ⟨Tryz.func180, by kernel_rfl, inferInstance, by kernel_rfl⟩
noncomputable def xf181 : XF := ⟨Tryz.f181, (Tryz.f181.body).getD .skip, T.ofList [], 4211⟩
theorem xf181_ok : GoodF Tryz.prog 181 xf181 := ⟨Tryz.func181, by kernel_rfl, inferInstance, by kernel_rfl⟩
noncomputable def xf182 : XF := ⟨Tryz.f182, (Tryz.f182.body).getD .skip, T.ofList [(2, (13, .calm 0 <| .calm 2 <| .calm 3 <| .calm 4 <| .calm 5 <| .calm 6 <| .calm 7 <| .calm 8 <| .calm 9 <| .calm 10 <| .calm 11 <| .must 1 <| .must 12 <| .done)), (4, (11, .calm 0 <| .calm 1 <| .calm 2 <| .calm 3 <| .calm 4 <| .calm 5 <| .calm 6 <| .calm 7 <| .calm 8 <| .calm 9 <| .calm 10 <| .must 11 <| .done))], 13⟩
theorem xf182_ok : GoodF Tryz.prog 182 xf182 := ⟨Tryz.func182, by kernel_rfl, inferInstance, by kernel_rfl⟩
noncomputable def xf183 : XF := ⟨Tryz.f183, (Tryz.f183.body).getD .skip, T.ofList [], 4211⟩
theorem xf183_ok : GoodF Tryz.prog 183 xf183 := ⟨Tryz.func183, by kernel_rfl, inferInstance, by kernel_rfl⟩
noncomputable def xf184 : XF := ⟨Tryz.f184, (Tryz.f184.body).getD .skip, T.ofList [], 4211⟩
theorem xf184_ok : GoodF Tryz.prog 184 xf184 := ⟨Tryz.func184, by kernel_rfl, inferInstance, by kernel_rfl⟩
noncomputable def xf185 : XF := ⟨Tryz.f185, (Tryz.f185.body).getD .skip, T.ofList [], 61⟩
theorem xf185_ok : GoodF Tryz.prog 185 xf185 := ⟨Tryz.func185, by kernel_rfl, inferInstance, by kernel_rfl⟩
noncomputable def tabL : List (Nat × XF) := [(11, xf11), (15, xf15), (23, xf23), (25, xf25), (27, xf27), (29, xf29), (31, xf31), (46, xf46), (47, xf47), (53, xf53), (54, xf54), (57, xf57), (59, xf59), (61, xf61), (62, xf62), (63, xf63), (64, xf64), (65, xf65), (66, xf66), (67, xf67), (68, xf68), (88, xf88), (89, xf89), (95, xf95), (97, xf97), (99, xf99), (100, xf100), (101, xf101), (102, xf102), (103, xf103), (104, xf104), (105, xf105), (106, xf106), (125, xf125), (126, xf126), (127, xf127), (128, xf128), (132, xf132), (134, xf134), (135, xf135), (136, xf136), (166, xf166), (167, xf167), (168, xf168), (169, xf169), (170, xf170), (171, xf171), (172, xf172), (173, xf173), (174, xf174), (175, xf175), (176, xf176), (177, xf177), (178, xf178), (179, xf179), (180, xf180), (181, xf181), (182, xf182), (183, xf183), (184, xf184), (185, xf185)]
noncomputable def tab : T XF := T.ofList tabL
theorem tab_ok : ∀ f x, tab.get f = some x → GoodF Tryz.prog f x := fun f x h => GoodL.mem (l := tabL) ⟨xf11_ok, xf15_ok, xf23_ok, xf25_ok, xf27_ok, xf29_ok, xf31_ok, xf46_ok, xf47_ok, xf53_ok, xf54_ok, xf57_ok, xf59_ok, xf61_ok, xf62_ok, xf63_ok, xf64_ok, xf65_ok, xf66_ok, xf67_ok, xf68_ok, xf88_ok, xf89_ok, xf95_ok, xf97_ok, xf99_ok, xf100_ok, xf101_ok, xf102_ok, xf103_ok, xf104_ok, xf105_ok, xf106_ok, xf125_ok, xf126_ok, xf127_ok, xf128_ok, xf132_ok, xf134_ok, xf135_ok, xf136_ok, xf166_ok, xf167_ok, xf168_ok, xf169_ok, xf170_ok, xf171_ok, xf172_ok, xf173_ok, xf174_ok, xf175_ok, xf176_ok, xf177_ok, xf178_ok, xf179_ok, xf180_ok, xf181_ok, xf182_ok, xf183_ok, xf184_ok, xf185_ok, trivial⟩ (f, x) (T.get_ofList h)
theorem works_run : trueG Tryz.prog tab 100000 doorPr doorH 200 27 = true := by kernel_rfl
end W03
theorem works03_fn {L : List (Nat × Obj)} (h : HandleIn L) : Fn Tryz.prog 27 [] L (fun v L' => v = .bool true ∧ L' = L) := by
  obtain ⟨cs, E, fr, h1, h2⟩ := h
  exact runD doorPr_ok mixed W03.tab_ok (doorH_cov h2) doorH_zero W03.works_run h1
end Go.Proofs.YtakedlockchpcaaGreatDoor
namespace Go.Proofs.YtakedlockchpcaaGreatDoor
open Go.RowKit
theorem OW_textF {c : Cx} {o : Oper} {Kn : St → Prop} {K : Exit → St → Prop} {s : List (Nat × Value)} {D : List Deferred} {L : List (Nat × Obj)} {t t' e d : TypeId} [hu : TUnd c.P t .string] [hu' : TUnd c.P t' (.slice e)] [he : TUnd c.P e (.int .u8)] {x : Operand} {l : List UInt8} (ho : o.op = .convert t t' x) (hlen : l.length ≤ 1000000000)
    (hk : ∀ (b cap : Nat) (cs : Array Value) (fr : Nat × Nat), l.length ≤ cap → cap ≤ maxLen → l.length ≤ cs.size → Free fr 0 l.length → (∀ (j : Nat) (u : UInt8), l[j]? = some u → cs[j]? = some (bV u)) → Kn ⟨(d, .slice (some ⟨b, 0, none⟩) l.length cap) :: s, D, (b, .cells cs e fr) :: L⟩) (hdst : o.dst = some d := by exact rfl) (hx : ev s x = some (.string (bstr l)) := by exact rfl) (hd : Nat.blt d c.N = true := by exact rfl) : OW c o Kn K ⟨s, D, L⟩ := fun a w ha => by
  refine ⟨fun _ _ => trivial, ?_⟩
  have hr := run_bytes_of_string (P := c.P) w t t' e (bstr l) hu.h hu'.h he.h
  have hge := grownCap_ge w (bstr l).size 0 e
  have hcm := grownCap_le_maxLen w (bstr l).size 0 e (by rw [bstr_size]; simp only [maxLen]; omega)
  obtain ⟨cap', hcap'⟩ : ∃ q, grownCap w (bstr l).size 0 e = q := ⟨_, rfl⟩
  rw [hcap'] at hr hge hcm
  rw [bstr_size] at hr hge
  have hr' : (execOp a.eval o).run c.P w = .ok (.value (.slice (some ⟨w.heap.size, 0, none⟩) l.length cap')) (w.drew.alloc (.cells (bytesRow (bstr l) cap') e ((bytesRow (bstr l) cap').size, (bytesRow (bstr l) cap').size + 1))) := by
    simp [execOp, ho, ha.ev hx, hr]
  have hsz : l.length ≤ (bytesRow (bstr l) cap').size := by
    unfold bytesRow
    simp [bstr, ByteArray.size]
  rw [Oper.semAt_eq _ _ _ (by rw [ho]; intro cc h; cases h), hr']
  refine ⟨_, ?_, hk w.heap.size cap' (bytesRow (bstr l) cap') ((bytesRow (bstr l) cap').size, (bytesRow (bstr l) cap').size + 1) hge hcm hsz (fun k hk => by dsimp only; omega) fun j u hu => ?_⟩
  · rw [hdst]
    exact (ha.mem' ((ha.mem.drew).alloc _)).put (d := some d) hd _
  · have hj := (List.getElem?_eq_some_iff.1 hu).1
    unfold bytesRow
    rw [Array.getElem?_append_left (by simpa [bstr] using hj)]
    simp [bstr, hu, bV]
attribute [local irreducible] Fn WC WL WR OW Qt YieldFn QW FnP FnD FnE
theorem bV_of {x : Int} (h0 : 0 ≤ x) (h1 : x < 256) : Value.int .u8 x = bV (UInt8.ofNat x.toNat) := by
  simp only [bV, UInt8.toNat_ofNat', Value.int.injEq, true_and]
  omega
theorem byAt_cells {L : List (Nat × Obj)} {l : List UInt8} {b cap i : Nat} {cs : Array Value} {E : TypeId} {fr : Nat × Nat} (h1 : l.length ≤ cap) (h2 : cap ≤ maxLen) (hi : L[i]? = some (b, .cells cs E fr)) (hc : ∀ (j : Nat) (u : UInt8), l[j]? = some u → cs[j]? = some (bV u)) (n : Nat) (hn : n ≤ l.length) : ByAt L (.slice (some ⟨b, 0, none⟩) n cap) (l.take n) := by
  have e : (l.take n).length = n := by rw [List.length_take]; omega
  unfold ByAt
  rw [e]
  refine ⟨by rw [List.length_map, e]; omega, _, _, rfl, by omega, h2, .inr ⟨b, 0, cs, E, fr, i, rfl, hi, fun j x hx => ?_⟩⟩
  rw [Nat.zero_add]
  rw [List.getElem?_map] at hx
  obtain ⟨u, hu, rfl⟩ := Option.map_eq_some_iff.1 hx
  refine hc j u ?_
  rw [List.getElem?_take] at hu
  split at hu
  · exact hu
  · cases hu
set_option maxRecDepth 100000 in
set_option maxHeartbeats 16000000 in
theorem creads_fn {s : List UInt8} {cs : Array Value} {m : MV} {a : Option Addr} {cap : Nat} {a' : Option Addr} {cap' : Nat} {tat tby tcut : Int} {L : List (Nat × Obj)} (hH : HandleIn L) (hM : MsgAt L cs m a cap a' cap') (h0 : 0 ≤ tat ∧ tat < 65536) (h2 : 0 ≤ tcut ∧ tcut < 65536) :
    Fn Tryz.prog 4 [.string (bstr s), .agg cs, .agg #[.int .u16 tat, .int .u8 tby, .int .u16 tcut]] L (fun v L' => v = .bool true ∧ L' = L) := by
  have hz := hM.size
  have hone := MV.all_one hM.ok hz hM.lies
  refine Fn_enter Tryz.func4 rfl Tryz.ntmps4 rfl fun g => ?_
  repeat (first | refine RQ ?_ | (refine RE ?_; try intro _) | refine RC ?_ | refine WC_region (id := 0) ?_)
  rename_i x4 x5
  repeat (first | refine RQ ?_ | (refine RE ?_; try intro _) | ((first | refine WL_op rfl ?_); (first | (refine OW_call rfl (hF := few_fn hM _) (hk := ?_); rintro _ _ ⟨cs2, rfl, rfl, hM2⟩))) | refine RC ?_ | refine WC_regB 2 ?_)
  have k12 : (m.few 12 70).bins.length ≤ 1000000 := by unfold MV.few; rw [List.length_take]; omega
  have k70 : (m.few 12 70).ents.length ≤ 1000000 := by unfold MV.few; rw [List.length_take]; omega
  have k13 : (m.few 12 70).bins.length ≤ 100000 := by unfold MV.few; rw [List.length_take]; omega
  have k71 : (m.few 12 70).ents.length ≤ 100000 := by unfold MV.few; rw [List.length_take]; omega
  have hel := MV.enc_len hM2.ok k13 k71
  repeat (first | refine RQ ?_ | (refine RE ?_; try intro _) | ((first | refine WL_op rfl ?_); (first | (refine OW_call rfl (hF := few_fn hM _) (hk := ?_); rintro _ _ ⟨cs2, rfl, rfl, hM2⟩) | refine OW_callP rfl (hF := rMsg_at (by repeat (first | with_reducible assumption | apply MsgAt.cons)) k12 k70) (hk := ?_))) | refine RC ?_ | refine WC_regB 2 ?_)
  obtain ⟨l, hl⟩ : ∃ l, l = (m.few 12 70).enc := ⟨_, rfl⟩
  rw [← hl] at hel
  rw [← hl]
  refine WL_op rfl (OW_textF (l := l) rfl (by omega) (hk := fun b bcap bs fr hb1 hb2 hb3 hfr hbc => ?_))
  repeat (first | refine RQ ?_ | (refine RE ?_; try intro _) | ((first | refine WL_op rfl ?_); (first | (refine OW_call rfl (hF := few_fn hM _) (hk := ?_); rintro _ _ ⟨cs2, rfl, rfl, hM2⟩) | refine OW_callP rfl (hF := rMsg_at (by repeat (first | with_reducible assumption | apply MsgAt.cons)) k12 k70) (hk := ?_))) | refine RC ?_ | refine WC_regB 2 ?_)
  refine WC_wk [(7, .slice (some ⟨b, 0, none⟩) l.length bcap), (0, .string (bstr s)), (5, .pointer (some ⟨x5, 0, none⟩))] ⟨rfl, rfl, rfl, trivial⟩ ?_
  refine WC_meet2 (fun σ => ∃ (l2 : List UInt8) (bs2 : Array Value), l2.length = l.length ∧ (∀ (j : Nat) (u : UInt8), l2[j]? = some u → bs2[j]? = some (bV u)) ∧ σ = ⟨[(7, .slice (some ⟨b, 0, none⟩) l.length bcap), (0, .string (bstr s)), (5, .pointer (some ⟨x5, 0, none⟩))], [], (b, Obj.cells bs2 5 fr) :: (x5, Obj.cells #[.int .u16 tat, .int .u8 tby, .int .u16 tcut] 64 (0, 0)) :: L⟩) ?_ ?_
  · by_cases hpos : 0 < l.length
    · have d1 : decide ((l.length : Int) > 0) = true := decide_eq_true (by omega)
      have w1 : IntKind.i64.wrap tat = tat := wI64 (by omega) (by omega)
      have hne : ((l.length : Nat) : Int) ≠ 0 := by omega
      obtain ⟨k, hk⟩ : ∃ k : Nat, tat.tmod (l.length : Int) = (k : Int) := ⟨(tat.tmod (l.length : Int)).toNat, by
        have := Int.tmod_nonneg (l.length : Int) h0.1
        omega⟩
      have hkl : k < l.length := by
        have := Int.tmod_lt_of_pos tat (b := (l.length : Int)) (by omega)
        omega
      obtain ⟨u, hu⟩ : ∃ u, l[k]? = some u := ⟨_, List.getElem?_eq_getElem hkl⟩
      have hbu := hbc k u hu
      repeat (first | refine RQ ?_ | (refine RE ?_; try intro _) | ((first | refine WL_op rfl ?_); (first | (refine OW_call rfl (hF := few_fn hM _) (hk := ?_); rintro _ _ ⟨cs2, rfl, rfl, hM2⟩) | refine OW_callP rfl (hF := rMsg_at (by repeat (first | with_reducible assumption | apply MsgAt.cons)) k12 k70) (hk := ?_))) | refine RC ?_ | refine WC_regB 3 ?_)
      refine WC_draw_sub (id := 3) 13 (.calm 0 <| .calm 1 <| .calm 2 <| .calm 3 <| .calm 4 <| .calm 5 <| .calm 6 <| .calm 7 <| .calm 8 <| .calm 9 <| .calm 10 <| .calm 11 <| .calm 12 <| .must 13 <| .done) mixed (by kernel_rfl) (.refl _) ?_
      repeat (first | refine RQr ?_ | ((first | refine WL_op rfl ?_ | refine WR_late rfl rfl rfl ?_ | refine WR_op rfl rfl ?_); (first | (refine OE ?_; try intro _) | (refine OW_call rfl (hF := few_fn hM _) (hk := ?_); rintro _ _ ⟨cs2, rfl, rfl, hM2⟩) | refine OW_callP rfl (hF := rMsg_at (by repeat (first | with_reducible assumption | apply MsgAt.cons)) k12 k70) (hk := ?_)); try refine SD ?_) | refine RC ?_ | refine RU ?_ | refine WC_draw_all (id := 3) 13 (.calm 0 <| .calm 1 <| .calm 2 <| .calm 3 <| .calm 4 <| .calm 5 <| .calm 6 <| .calm 7 <| .calm 8 <| .calm 9 <| .calm 10 <| .calm 11 <| .calm 12 <| .must 13 <| .done) mixed (by kernel_rfl) ?_ | refine WC_regB 4 ?_)
      rw [w1, hk]
      have i0 : (0 : Int) ≤ (k : Int) := by omega
      have i1 : (k : Int) < ((l.length : Nat) : Int) := by omega
      have hbu' : bs[((k : Nat) : Int).toNat * 1]? = some (bV u) := by rw [Int.toNat_natCast, Nat.mul_one]; exact hbu
      repeat (first | refine RQr ?_ | ((first | refine WL_op rfl ?_ | refine WR_late rfl rfl rfl ?_ | refine WR_op rfl rfl ?_); (first | (refine OE ?_; try intro _) | (refine OW_call rfl (hF := few_fn hM _) (hk := ?_); rintro _ _ ⟨cs2, rfl, rfl, hM2⟩) | refine OW_callP rfl (hF := rMsg_at (by repeat (first | with_reducible assumption | apply MsgAt.cons)) k12 k70) (hk := ?_)); try refine SD ?_) | refine RC ?_ | refine RU ?_ | refine WC_draw_all (id := 3) 13 (.calm 0 <| .calm 1 <| .calm 2 <| .calm 3 <| .calm 4 <| .calm 5 <| .calm 6 <| .calm 7 <| .calm 8 <| .calm 9 <| .calm 10 <| .calm 11 <| .calm 12 <| .must 13 <| .done) mixed (by kernel_rfl) ?_ | refine WC_regB 4 ?_)
      obtain ⟨y, hy, hyb⟩ : ∃ y, y = IntKind.u8.wrap ((BitVec.ofInt IntKind.u8.bits ((u.toNat : Nat) : Int) ^^^ BitVec.ofInt IntKind.u8.bits tby).toNat : Nat) ∧ 0 ≤ y ∧ y < 256 := ⟨_, rfl, u8_lo _, u8_hi _⟩
      refine WR_late rfl rfl rfl (OW_store1F (off := ((k : Nat) : Int).toNat * 1) (v := .int .u8 y) rfl 0 rfl (by rw [Int.toNat_natCast]; omega) (fun q hq => ?_) ?_ (hy := by rw [hy]; exact rfl))
      · have := hfr k (by omega)
        rw [Int.toNat_natCast, Nat.mul_one]
        simpa [show q = 0 by omega] using this
      repeat (first | refine RQr ?_ | ((first | refine WL_op rfl ?_ | refine WR_late rfl rfl rfl ?_ | refine WR_opG rfl rfl ?_); (first | (refine OE ?_; try intro _) | (refine OW_call rfl (hF := few_fn hM _) (hk := ?_); rintro _ _ ⟨cs2, rfl, rfl, hM2⟩) | refine OW_callP rfl (hF := rMsg_at (by repeat (first | with_reducible assumption | apply MsgAt.cons)) k12 k70) (hk := ?_)); try refine SD ?_) | refine RC ?_ | refine RU ?_ | refine WC_draw_all (id := 3) 13 (.calm 0 <| .calm 1 <| .calm 2 <| .calm 3 <| .calm 4 <| .calm 5 <| .calm 6 <| .calm 7 <| .calm 8 <| .calm 9 <| .calm 10 <| .calm 11 <| .calm 12 <| .must 13 <| .done) mixed (by kernel_rfl) ?_ | refine WC_regB 4 ?_)
      refine ⟨_, ⟨l.set k (UInt8.ofNat y.toNat), bs.setIfInBounds k (.int .u8 y), by simp, fun j v hj => ?_, rfl⟩, ⟨rfl, rfl, rfl, trivial⟩, rfl, ?_⟩
      · rw [List.getElem?_set] at hj
        rw [Array.getElem?_setIfInBounds]
        by_cases e : k = j
        · rw [if_pos e] at hj ⊢
          rw [if_pos (by omega)] at hj ⊢
          rw [bV_of hyb.1 hyb.2]
          rw [Option.some.inj hj]
        · rw [if_neg e] at hj ⊢
          exact hbc j v hj
      · simp only [List.set_cons_zero, Int.toNat_natCast, Nat.mul_one]
        exact .cons_cons _ (.cons_cons _ (.cons _ (.refl _)))
    · have d1 : decide ((l.length : Int) > 0) = false := decide_eq_false (by omega)
      repeat (first | refine RQ ?_ | (refine RE ?_; try intro _) | ((first | refine WL_op rfl ?_); (first | (refine OW_call rfl (hF := few_fn hM _) (hk := ?_); rintro _ _ ⟨cs2, rfl, rfl, hM2⟩) | refine OW_callP rfl (hF := rMsg_at (by repeat (first | with_reducible assumption | apply MsgAt.cons)) k12 k70) (hk := ?_))) | refine RC ?_ | refine WC_regB 3 ?_)
      exact ⟨_, ⟨l, bs, rfl, hbc, rfl⟩, ⟨rfl, rfl, rfl, trivial⟩, rfl, .cons_cons _ (.cons_cons _ (.cons _ (.refl _)))⟩
  rintro _ ⟨l2, bs2, hl2, hc2, rfl⟩
  obtain ⟨t, ht⟩ : ∃ t, t = s.take (if (300 : Int) < s.length then (300 : Int) else s.length).toNat := ⟨_, rfl⟩
  have ht3 : t.length ≤ 300 := by rw [ht, List.length_take]; split <;> omega
  have ht9 : t.length ≤ 1000000000 := by omega
  have hl9 : l2.length ≤ 1000000000 := by omega
  have hb1' : ByAt ((b, Obj.cells bs2 5 fr) :: (x5, Obj.cells #[.int .u16 tat, .int .u8 tby, .int .u16 tcut] 64 (0, 0)) :: L) (.slice (some ⟨b, 0, none⟩) l.length bcap) l2 := by
    have := byAt_cells (l := l2) (n := l.length) (by omega) hb2 (i := 0) (L := (b, Obj.cells bs2 5 fr) :: (x5, Obj.cells #[.int .u16 tat, .int .u8 tby, .int .u16 tcut] 64 (0, 0)) :: L) rfl hc2 (by omega)
    rwa [List.take_of_length_le (by omega)] at this
  repeat (first | refine RQr ?_ | ((first | refine WL_op rfl ?_ | refine WL_yes (h := ?_) | refine WR_late rfl rfl rfl ?_ | refine WR_opG rfl rfl ?_ | refine WR_opYG rfl (h := ?_)); (first | (refine OE ?_; try intro _) | refine OW_callP rfl (hF := works03_fn (by repeat (first | with_reducible assumption | apply HandleIn.cons))) (hk := ?_) | (refine OW_call rfl (hF := few_fn hM _) (hk := ?_); rintro _ _ ⟨cs2, rfl, rfl, hM2⟩) | refine OW_callP rfl (hF := rMsg_at (by repeat (first | with_reducible assumption | apply MsgAt.cons)) k12 k70) (hk := ?_)); try refine SD ?_) | refine RC ?_ | refine RU ?_ | refine WC_draw_all (id := 3) 13 (.calm 0 <| .calm 1 <| .calm 2 <| .calm 3 <| .calm 4 <| .calm 5 <| .calm 6 <| .calm 7 <| .calm 8 <| .calm 9 <| .calm 10 <| .calm 11 <| .calm 12 <| .must 13 <| .done) mixed (by kernel_rfl) ?_ | refine WC_region ?_)
  rw [← ht]
  repeat (first | refine RQr ?_ | ((first | refine WL_op rfl ?_ | refine WL_yes (h := ?_) | refine WR_late rfl rfl rfl ?_ | refine WR_opG rfl rfl ?_ | refine WR_opYG rfl (h := ?_)); (first | (refine OE ?_; try intro _) | refine OW_callP rfl (hF := works03_fn (by repeat (first | with_reducible assumption | apply HandleIn.cons))) (hk := ?_) | (refine OW_call rfl (hF := few_fn hM _) (hk := ?_); rintro _ _ ⟨cs2, rfl, rfl, hM2⟩) | refine OW_callP rfl (hF := rMsg_at (by repeat (first | with_reducible assumption | apply MsgAt.cons)) k12 k70) (hk := ?_) | refine OW_callP rfl (hF := alike_fn ht9 (by repeat (first | with_reducible assumption | apply HandleIn.cons))) (hk := ?_) | refine OW_callP rfl (hF := alike_fn hl9 (by repeat (first | with_reducible assumption | apply HandleIn.cons))) (hk := ?_)); try refine SD ?_) | refine RC ?_ | refine RU ?_ | refine WC_draw_all (id := 3) 13 (.calm 0 <| .calm 1 <| .calm 2 <| .calm 3 <| .calm 4 <| .calm 5 <| .calm 6 <| .calm 7 <| .calm 8 <| .calm 9 <| .calm 10 <| .calm 11 <| .calm 12 <| .must 13 <| .done) mixed (by kernel_rfl) ?_ | refine WC_region ?_)
  have w2 : IntKind.i64.wrap tcut = tcut := wI64 (by omega) (by omega)
  have w3 : IntKind.i64.wrap ((l.length : Int) + 1) = (l.length : Int) + 1 := wI64 (by omega) (by omega)
  obtain ⟨k, hk⟩ : ∃ k : Nat, tcut.tmod ((l.length : Int) + 1) = (k : Int) := ⟨(tcut.tmod ((l.length : Int) + 1)).toNat, by
    have := Int.tmod_nonneg ((l.length : Int) + 1) h2.1
    omega⟩
  have hkl : k ≤ l.length := by
    have := Int.tmod_lt_of_pos tcut (b := (l.length : Int) + 1) (by omega)
    omega
  have hne : (l.length : Int) + 1 ≠ 0 := by omega
  rw [w2, w3]
  repeat (first | refine RQr ?_ | ((first | refine WL_op rfl ?_ | refine WL_yes (h := ?_) | refine WR_late rfl rfl rfl ?_ | refine WR_opG rfl rfl ?_ | refine WR_opYG rfl (h := ?_)); (first | (refine OE ?_; try intro _) | refine OW_callP rfl (hF := works03_fn (by repeat (first | with_reducible assumption | apply HandleIn.cons))) (hk := ?_) | (refine OW_call rfl (hF := few_fn hM _) (hk := ?_); rintro _ _ ⟨cs2, rfl, rfl, hM2⟩) | refine OW_callP rfl (hF := rMsg_at (by repeat (first | with_reducible assumption | apply MsgAt.cons)) k12 k70) (hk := ?_)); try refine SD ?_) | refine RC ?_ | refine RU ?_ | refine WC_draw_all (id := 3) 13 (.calm 0 <| .calm 1 <| .calm 2 <| .calm 3 <| .calm 4 <| .calm 5 <| .calm 6 <| .calm 7 <| .calm 8 <| .calm 9 <| .calm 10 <| .calm 11 <| .calm 12 <| .must 13 <| .done) mixed (by kernel_rfl) ?_ | refine WC_region ?_)
  rw [hk, Int.toNat_natCast]
  have hb2' : ByAt ((b, Obj.cells bs2 5 fr) :: (x5, Obj.cells #[.int .u16 tat, .int .u8 tby, .int .u16 tcut] 64 (0, 0)) :: L) (.slice (some ⟨b, 0, none⟩) k bcap) (l2.take k) := byAt_cells (by omega) hb2 (i := 0) rfl hc2 k (by omega)
  have hk9 : (l2.take k).length ≤ 1000000000 := by rw [List.length_take]; omega
  repeat (first | refine RQr ?_ | ((first | refine WL_op rfl ?_ | refine WL_yes (h := ?_) | refine WR_late rfl rfl rfl ?_ | refine WR_opG rfl rfl ?_ | refine WR_opYG rfl (h := ?_)); (first | (refine OE ?_; try intro _) | refine OW_callP rfl (hF := works03_fn (by repeat (first | with_reducible assumption | apply HandleIn.cons))) (hk := ?_) | (refine OW_call rfl (hF := few_fn hM _) (hk := ?_); rintro _ _ ⟨cs2, rfl, rfl, hM2⟩) | refine OW_callP rfl (hF := rMsg_at (by repeat (first | with_reducible assumption | apply MsgAt.cons)) k12 k70) (hk := ?_) | refine OW_callP rfl (hF := alike_fn hk9 (by repeat (first | with_reducible assumption | apply HandleIn.cons))) (hk := ?_)); try refine SD ?_) | refine RC ?_ | refine RU ?_ | refine WC_draw_all (id := 3) 13 (.calm 0 <| .calm 1 <| .calm 2 <| .calm 3 <| .calm 4 <| .calm 5 <| .calm 6 <| .calm 7 <| .calm 8 <| .calm 9 <| .calm 10 <| .calm 11 <| .calm 12 <| .must 13 <| .done) mixed (by kernel_rfl) ?_ | refine WC_region ?_)
  exact ⟨rfl, _, L, Res1 rfl (resV_tmp rfl), .cons _ (.cons _ (.refl _)), rfl, rfl⟩
end Go.Proofs.YtakedlockchpcaaGreatDoor
namespace Go.Proofs.YtakedlockchpcaaGreatDoor
open Go.ChangeShapes Go.WideShapes Go.ChangeAt Go.RowKit
theorem ownOf : ownKnob Tryz.prog.godebug = none := by kernel_rfl
theorem laidOf : laidOutB Tryz.prog = true := by kernel_rfl
def allL (W : World) : List (Nat × Obj) := W.heap.toList.zipIdx.map fun p => (p.2, p.1)
theorem allL_get {W : World} {b : Nat} {o : Obj} (h : W.heap[b]? = some o) : (allL W)[b]? = some (b, o) := by
  simp [allL, h]
theorem allL_mem {W : World} {p : Nat × Obj} : p ∈ allL W → W.heap[p.1]? = some p.2 := fun h => by
  simp only [allL, List.mem_map] at h
  obtain ⟨⟨o, b⟩, h1, rfl⟩ := h
  have := List.mem_zipIdx_iff_getElem?.1 h1
  simpa using this
theorem allL_mem_of {W : World} {b : Nat} {o : Obj} (h : W.heap[b]? = some o) : (b, o) ∈ allL W := List.mem_of_getElem? (allL_get h)
theorem mem_allL (W : World) : Mem W (allL W) W where
  os := rfl
  tape := rfl
  output := rfl
  size := Nat.le_refl _
  nodup := by
    have : (allL W).map Prod.fst = List.range W.heap.size := by
      simp only [allL, List.map_map]
      apply List.ext_getElem?
      intro i
      simp only [List.getElem?_map, List.getElem?_zipIdx, Array.getElem?_toList]
      by_cases h : i < W.heap.size
      · simp [h]
      · simp [h]
    rw [this]; exact List.nodup_range
  has := fun _ h => allL_mem h
theorem below_of_mem {W W' : World} (h : Mem W (allL W) W') : Below W.heap.size W W' where
  os := h.os
  tape := h.tape
  output := h.output
  size := h.size
  block := fun k hk => by
    have h1 : W.heap[k]? = some W.heap[k] := Array.getElem?_eq_getElem hk
    rw [h1]
    exact h.has (k, W.heap[k]) (allL_mem_of h1)
theorem trodAll_stays {H : Type} {enc : TypeId × Value → H} {P : Program} (hl : laidOutB P = true) {W W' : World} (hb : Below W.heap.size W W') : ∀ {ts : List TypeId} {vs : List Value} {ds : List (DataW H)} {ps : List MemPlace},
    (∀ t ∈ ts, P.readableRec t = true ∧ t < P.types.size) → DataW.TrodAll enc P W 0 (fun _ => true) true ts vs ds ps → (∀ x ∈ ps, x.block < W.heap.size) → DataW.TrodAll enc P W' 0 (fun b => decide (b < W.heap.size)) true ts vs ds ps
  | [], _, _, _, _, h, _ => by obtain ⟨rfl, rfl, rfl⟩ := trodAll_nil h; exact trodAll_mk0
  | t :: ts, _, _, _, ht, h, hp => by
    obtain ⟨v, vs', d, ds', p, q, rfl, rfl, rfl, h1, h2⟩ := trodAll_cons h
    have h3 := ht t (by simp)
    exact ⟨p, q, Below.trod hl h3.1 h3.2 h1 hb (fun x hx => hp x (by simp [hx])), trodAll_stays hl hb (fun t' h' => ht t' (by simp [h'])) h2 (fun x hx => hp x (by simp [hx])), rfl⟩
theorem post_law {H : Type} {enc : TypeId × Value → H} {P : Program} {f : Func} {s : ChangeSpec} {W W' : World} {args : Array Value} {ds gs : List (DataW H)} {before : List MemPlace} {tb : TypeId} (hl : laidOutB P = true)
    (hts : (f.params.toList.all fun t => P.readableRec t && decide (t < P.types.size)) = true) (hv : s.vars = []) (hr : f.resultTypes = #[tb]) (hb : P.underlying tb = some .bool)
    (hfn : s.fn H (ds ++ gs) = { results := [.lit (.bool true)], args := ds }) (hW : DataW.Whole enc P f.params.toList s.vars false W args.toList ds gs before) (hbel : Below W.heap.size W W') :
    s.post enc P f false true false false W args (.bool true) W' := by
  have hlt := hW.lt
  have hW' := hW
  obtain ⟨p, q, hA, hV, rfl, _, _⟩ := hW
  rw [hv] at hV
  obtain ⟨rfl, rfl⟩ := trodVars_none hV
  have hts' : ∀ t ∈ f.params.toList, P.readableRec t = true ∧ t < P.types.size := fun t ht => by
    have := List.all_eq_true.1 hts t ht
    simpa using this
  refine ⟨ds, [], p ++ [], [], p, [], hW', ?_, ?_, ?_, hbel.frame _, fun h => by cases h⟩
  · rw [hfn, hr]
    exact trodAll_mk1 (shut_bool hb true)
  · rw [hfn]
    exact trodAll_stays hl hbel hts' hA (fun x hx => by simpa using hlt x (by simp [hx]))
  · rw [hfn, hv]; rfl
theorem u8_bounds {x : Int} (h : (Lit.int .u8 x).wf = true) : 0 ≤ x ∧ x < 256 := by
  have h1 := h
  simp only [Lit.wf, Bool.and_eq_true, decide_eq_true_eq] at h1
  have e1 : IntKind.u8.min = 0 := rfl
  have e2 : IntKind.u8.max = 255 := rfl
  omega
theorem u16_bounds {x : Int} (h : (Lit.int .u16 x).wf = true) : 0 ≤ x ∧ x < 65536 := by
  have h1 := h
  simp only [Lit.wf, Bool.and_eq_true, decide_eq_true_eq] at h1
  have e1 : IntKind.u16.min = 0 := rfl
  have e2 : IntKind.u16.max = 65535 := rfl
  omega
theorem u32_bounds {x : Int} (h : (Lit.int .u32 x).wf = true) : 0 ≤ x ∧ x < 4294967296 := by
  have h1 := h
  simp only [Lit.wf, Bool.and_eq_true, decide_eq_true_eq] at h1
  have e1 : IntKind.u32.min = 0 := rfl
  have e2 : IntKind.u32.max = 4294967295 := rfl
  omega
theorem u64_bounds {x : Int} (h : (Lit.int .u64 x).wf = true) : 0 ≤ x ∧ x < 18446744073709551616 := by
  have h1 := h
  simp only [Lit.wf, Bool.and_eq_true, decide_eq_true_eq] at h1
  have e1 : IntKind.u64.min = 0 := rfl
  have e2 : IntKind.u64.max = 18446744073709551615 := rfl
  omega
theorem i64_bounds {x : Int} (h : (Lit.int .i64 x).wf = true) : -9223372036854775808 ≤ x ∧ x < 9223372036854775808 := by
  have h1 := h
  simp only [Lit.wf, Bool.and_eq_true, decide_eq_true_eq] at h1
  have e1 : IntKind.i64.min = -9223372036854775808 := rfl
  have e2 : IntKind.i64.max = 9223372036854775807 := rfl
  omega
end Go.Proofs.YtakedlockchpcaaGreatDoor
namespace Go.Proofs.YtakedlockchpcaaGreatDoor
open Go.ChangeShapes Go.WideShapes Go.ChangeAt Go.RowKit Go.Deep
structure Rd (α : Type) where
  n : Nat
  lie : List (Nat × Obj) → α → (Nat → Option Value) → Prop
  mono : ∀ {L a g g'}, (∀ k v, g k = some v → g' k = some v) → lie L a g → lie L a g'
def intR (k : IntKind) : Rd Int where
  n := 1
  lie := fun _ x g => g 0 = some (.int k x) ∧ (Lit.int k x).wf = true
  mono := fun h h1 => ⟨h _ _ h1.1, h1.2⟩
def boolR : Rd Bool where
  n := 1
  lie := fun _ x g => g 0 = some (.bool x)
  mono := fun h h1 => h _ _ h1
def pairR {α β : Type} (r : Rd α) (s : Rd β) : Rd (α × β) where
  n := r.n + s.n
  lie := fun L x g => r.lie L x.1 g ∧ s.lie L x.2 (fun k => g (r.n + k))
  mono := fun h h1 => ⟨r.mono h h1.1, s.mono (fun _ _ h2 => h _ _ h2) h1.2⟩
def Sound {α : Type} (P : Program) (t : TypeId) (r : Rd α) : Prop :=
  P.cellsOf t = r.n ∧ ∀ {H : Type} {enc : TypeId × Value → H} {W : World} {fuel : Nat} {cs : List Value} {x : DataW H × List MemPlace}, DataW.trod enc P W 0 (fun _ => true) true fuel t cs = some x → ∃ a, r.lie (allL W) a (fun k => cs[k]?)
variable {P : Program} {t : TypeId}
theorem sound_int {k : IntKind} (ht : P.underlying t = some (.int k)) (hc : P.cellsOf t = 1) : Sound P t (intR k) := ⟨hc, fun h => by
  obtain ⟨n, rfl, _, hw⟩ := DataW.trod_int ht h
  exact ⟨n, rfl, hw⟩⟩
theorem sound_bool (ht : P.underlying t = some .bool) (hc : P.cellsOf t = 1) : Sound P t boolR := ⟨hc, fun h => by
  obtain ⟨n, rfl, _⟩ := DataW.trod_bool ht h
  exact ⟨n, rfl⟩⟩
theorem cut_get {cs : List Value} {o n k : Nat} {v : Value} (h : ((cs.drop o).take n)[k]? = some v) : cs[o + k]? = some v := by
  rw [List.getElem?_take] at h
  split at h
  · rwa [List.getElem?_drop] at h
  · cases h
theorem choose_list {α : Type} {n : Nat} {p : Nat → α → Prop} (h : ∀ i, i < n → ∃ x, p i x) : ∃ xs : List α, xs.length = n ∧ ∀ i x, xs[i]? = some x → p i x := by
  induction n with
  | zero => exact ⟨[], rfl, by simp⟩
  | succ n ih =>
    obtain ⟨xs, h1, h2⟩ := ih fun i hi => h i (by omega)
    obtain ⟨x, hx⟩ := h n (by omega)
    refine ⟨xs ++ [x], by simp [h1], fun i y hy => ?_⟩
    by_cases hi : i < n
    · rw [List.getElem?_append_left (by omega)] at hy; exact h2 i y hy
    · rw [List.getElem?_append_right (by omega)] at hy
      have : i = n := by
        have := (List.getElem?_eq_some_iff.1 hy).1
        simp at this; omega
      subst this
      rw [h1, Nat.sub_self] at hy
      simp at hy; subst hy; exact hx
theorem cells_get {W : World} {a : Addr} {n k : Nat} {cs : List Value} (h : W.cells? 0 a n = some cs) (hk : k < n) : ∃ v, cs[k]? = some v ∧ W.cell? (a.add k) = some v := by
  obtain ⟨_, hl, hat⟩ := World.cells?_some h
  exact ⟨cs[k]'(by omega), List.getElem?_eq_getElem (by omega), by rw [hat k hk, List.getElem?_eq_getElem (by omega)]⟩
def SoundF {α : Type} (P : Program) (fs : List Field) (off : Nat) (r : Rd α) : Prop :=
  ∀ {H : Type} {enc : TypeId × Value → H} {W : World} {n : Nat} {cs : List Value} {xs : List (DataW H × List MemPlace)}, xs.length = fs.length →
    (∀ (i : Nat) (f : Field), fs[i]? = some f → DataW.trod enc P W 0 (fun _ => true) true n f.type ((cs.drop f.offset).take (P.cellsOf f.type)) = xs[i]?) → ∃ a, r.lie (allL W) a (fun k => cs[off + k]?)
theorem soundF_one {α : Type} {r : Rd α} {f : Field} {off : Nat} (h : Sound P f.type r) (ho : f.offset = off) : SoundF P [f] off r := fun {H enc W n cs xs} hl hi => by
  have h1 := hi 0 f rfl
  obtain ⟨y, hy⟩ : ∃ y, xs[0]? = some y := ⟨xs[0]'(by simp [hl]), List.getElem?_eq_getElem _⟩
  rw [hy] at h1
  obtain ⟨a, ha⟩ := h.2 h1
  refine ⟨a, r.mono (fun k v hk => ?_) ha⟩
  have := cut_get hk
  rwa [ho] at this
theorem soundF_cons {α β : Type} {r : Rd α} {s : Rd β} {f : Field} {fs : List Field} {off : Nat} (h : Sound P f.type r) (ho : f.offset = off) (hs : SoundF P fs (off + r.n) s) : SoundF P (f :: fs) off (pairR r s) := fun {H enc W n cs xs} hl hi => by
  obtain ⟨y, xs, rfl⟩ : ∃ y ys, xs = y :: ys := by
    cases xs with
    | nil => simp at hl
    | cons y ys => exact ⟨y, ys, rfl⟩
  obtain ⟨a, ha⟩ := soundF_one (P := P) h ho (enc := enc) (W := W) (n := n) (cs := cs) (xs := [y]) rfl (fun i g hg => by
    cases i with
    | zero => exact hi 0 g hg
    | succ i => simp at hg)
  obtain ⟨b, hb⟩ := hs (enc := enc) (W := W) (n := n) (cs := cs) (xs := xs) (by simpa using hl) (fun i g hg => hi (i + 1) g hg)
  exact ⟨(a, b), ha, by simpa [Nat.add_assoc] using hb⟩
theorem sound_struct {α : Type} {r : Rd α} {fs : Array Field} (ht : P.underlying t = some (.struct fs)) (hc : P.cellsOf t = r.n) (h : SoundF P fs.toList 0 r) : Sound P t r := ⟨hc, fun hx => by
  obtain ⟨xs, n, _, _, _, hl, hi⟩ := DataW.trod_struct ht hx
  obtain ⟨a, ha⟩ := h (by simpa using hl) (fun i f hf => hi i f (by simpa using hf))
  exact ⟨a, by simpa using ha⟩⟩
theorem arg_agg {α : Type} {H : Type} {enc : TypeId × Value → H} {W : World} {rc : Reach} {b0 : TypeId} {r : Rd α} {v : Value} {d : DataW H} {p : List MemPlace} {fs : Array Field} (ht : P.underlying t = some (.struct fs)) (hs : Sound P t r)
    (hval : Value.okWide P W rc b0 t v) (h : DataW.Trod enc P W 0 (fun _ => true) true t v d p) : ∃ (cs : Array Value) (x : α), v = .agg cs ∧ cs.size = r.n ∧ r.lie (allL W) x (fun k => cs[k]?) := by
  obtain ⟨cs, rfl, hsz⟩ := okWide_struct ht hval
  obtain ⟨fuel, hf⟩ := h
  obtain ⟨x, h1⟩ := hs.2 hf
  exact ⟨cs, x, rfl, by rw [hsz, hs.1], by simpa [Value.cells] using h1⟩
end Go.Proofs.YtakedlockchpcaaGreatDoor
namespace Go.Proofs.YtakedlockchpcaaGreatDoor
open Go.ChangeShapes Go.WideShapes Go.ChangeAt Go.RowKit
theorem arg_str {H : Type} {enc : TypeId × Value → H} {P : Program} {W : World} {r : Reach} {b0 t : TypeId} {v : Value} {d : DataW H} {p : List MemPlace} (ht : P.underlying t = some .string) (hval : Value.okWide P W r b0 t v) (h : DataW.Trod enc P W 0 (fun _ => true) true t v d p) :
    ∃ l : List UInt8, v = .string (bstr l) ∧ l.length ≤ maxLen := by
  obtain ⟨s, rfl, _, _, hs⟩ := Go.ChangeMaps.open_string ht hval h
  refine ⟨s.data.toList, by rw [← bstr_of], ?_⟩
  simpa using hs
end Go.Proofs.YtakedlockchpcaaGreatDoor
namespace Go.Proofs.YtakedlockchpcaaGreatDoor
open Go.ChangeShapes Go.WideShapes Go.ChangeAt Go.RowKit Go.Deep
def SlLieZ {α : Type} (r : Rd α) (L : List (Nat × Obj)) (a : Option Addr) (xs : List α) : Prop :=
  xs = [] ∨ ∃ (b off : Nat) (cs : Array Value) (E : TypeId) (fr : Nat × Nat) (i : Nat), a = some ⟨b, off, none⟩ ∧ L[i]? = some (b, Obj.cells cs E fr) ∧ (∀ k, k < xs.length * r.n → ¬ (fr.1 ≤ off + k ∧ off + k < fr.2)) ∧ ∀ j x, xs[j]? = some x → r.lie L x (fun k => cs[off + j * r.n + k]?)
def sliceZ {α : Type} (r : Rd α) : Rd (List α) where
  n := 1
  lie := fun L xs g => ∃ a cap, g 0 = some (.slice a xs.length cap) ∧ xs.length ≤ cap ∧ cap ≤ maxLen ∧ SlLieZ r L a xs
  mono := fun h ⟨a, cap, h1, h2⟩ => ⟨a, cap, h _ _ h1, h2⟩
def SoundZ {α : Type} (P : Program) (t : TypeId) (r : Rd α) : Prop :=
  P.cellsOf t = r.n ∧ ∀ {H : Type} {enc : TypeId × Value → H} {W : World} {fuel : Nat} {cs : List Value} {x : DataW H × List MemPlace}, DataW.trod enc P W 0 (fun _ => true) true fuel t cs = some x → W.noneFrozen x.2 → ∃ a, r.lie (allL W) a (fun k => cs[k]?)
variable {P : Program} {t : TypeId}
theorem Sound.z {α : Type} {r : Rd α} (h : Sound P t r) : SoundZ P t r := ⟨h.1, fun h1 _ => h.2 h1⟩
theorem noneFrozen_sub {W : World} {p q : List MemPlace} (h : W.noneFrozen p) (hs : ∀ x ∈ q, x ∈ p) : W.noneFrozen q := fun b off hm => h b off (hs _ hm)
theorem soundZ_slice {α : Type} {r : Rd α} {e : TypeId} (ht : P.underlying t = some (.slice e)) (hc : P.cellsOf t = 1) (hr : 0 < r.n) (he : SoundZ P e r) : SoundZ P t (sliceZ r) := ⟨hc, fun {H enc W fuel cs x} h hz => by
  rcases open_slice ht h with ⟨rfl, _⟩ | ⟨a, len, cap, m, n, D, Pl, rfl, _, hl, hm, hmm, rfl, hi⟩
  · exact ⟨[], none, 0, rfl, Nat.le_refl _, Nat.zero_le _, .inl rfl⟩
  · simp only [if_true] at hmm
    subst hmm
    by_cases h0 : len = 0
    · subst h0; exact ⟨[], some a, m, rfl, Nat.zero_le _, hm, .inl rfl⟩
    rw [he.1] at hi hz
    have hblock : ∃ b off cs E fr, a = ⟨b, off, none⟩ ∧ W.heap[b]? = some (Obj.cells cs E fr) := by
      obtain ⟨cs', h1, _⟩ := hi 0 (by omega)
      obtain ⟨v, _, hv⟩ := cells_get h1 hr
      have e0 : (a.add (0 * r.n)).add 0 = a := by simp [Addr.add]
      rw [e0] at hv
      obtain ⟨b, off, spot⟩ := a
      simp only [World.cell?] at hv
      split at hv
      · rename_i cs E fr hb
        split at hv
        · cases hv
        · rename_i hs
          have hs' : spot = none := by cases spot with | none => rfl | some _ => simp at hs
          subst hs'
          exact ⟨b, off, cs, E, fr, rfl, hb⟩
      · cases hv
    obtain ⟨b, off, cs, E, fr, rfl, hb⟩ := hblock
    obtain ⟨ys, h1, h2⟩ := choose_list (n := len) (p := fun j x => r.lie (allL W) x (fun k => cs[off + j * r.n + k]?)) fun i hlt => by
      obtain ⟨cs', hc1, ht1⟩ := hi i (by omega)
      obtain ⟨x, hx⟩ := he.2 ht1 (noneFrozen_sub hz fun q hq => List.mem_append_right _ (List.mem_flatMap.2 ⟨i, List.mem_range.2 (by omega), hq⟩))
      refine ⟨x, r.mono (fun k v hk => ?_) hx⟩
      have hk2 : k < r.n := by
        obtain ⟨_, hl2, _⟩ := World.cells?_some hc1
        have := (List.getElem?_eq_some_iff.1 hk).1
        omega
      obtain ⟨v', e1, e2⟩ := cells_get hc1 hk2
      rw [hk] at e1; cases e1
      rw [add_add, Addr.add_mid, World.cell?] at e2
      simp only [hb] at e2
      rw [Nat.add_assoc]
      simpa using e2
    refine ⟨ys, some ⟨b, off, none⟩, m, by rw [h1]; rfl, by omega, hm, .inr ⟨b, off, cs, E, fr, b, rfl, allL_get hb, fun k hk hf => ?_, h2⟩⟩
    rw [h1] at hk
    have hkm : k < m * r.n := Nat.lt_of_lt_of_le hk (Nat.mul_le_mul_right _ hl)
    have := hz b (off + k) (List.mem_append_left _ (by
      unfold MemPlace.row
      exact List.mem_map.2 ⟨k, List.mem_range.2 hkm, rfl⟩))
    obtain ⟨lo, hi'⟩ := fr
    unfold World.frozen? at this
    simp only [hb, Bool.and_eq_false_iff, decide_eq_false_iff_not] at this
    simp only at hf
    omega⟩
def SoundZF {α : Type} (P : Program) (fs : List Field) (off : Nat) (r : Rd α) : Prop :=
  ∀ {H : Type} {enc : TypeId × Value → H} {W : World} {n : Nat} {cs : List Value} {xs : List (DataW H × List MemPlace)}, xs.length = fs.length → (∀ x ∈ xs, W.noneFrozen x.2) →
    (∀ (i : Nat) (f : Field), fs[i]? = some f → DataW.trod enc P W 0 (fun _ => true) true n f.type ((cs.drop f.offset).take (P.cellsOf f.type)) = xs[i]?) → ∃ a, r.lie (allL W) a (fun k => cs[off + k]?)
theorem soundZF_one {α : Type} {r : Rd α} {f : Field} {off : Nat} (h : SoundZ P f.type r) (ho : f.offset = off) : SoundZF P [f] off r := fun {H enc W n cs xs} hl hz hi => by
  have h1 := hi 0 f rfl
  obtain ⟨y, hy⟩ : ∃ y, xs[0]? = some y := ⟨xs[0]'(by simp [hl]), List.getElem?_eq_getElem _⟩
  rw [hy] at h1
  obtain ⟨a, ha⟩ := h.2 h1 (hz y (List.mem_of_getElem? hy))
  refine ⟨a, r.mono (fun k v hk => ?_) ha⟩
  have := cut_get hk
  rwa [ho] at this
theorem soundZF_cons {α β : Type} {r : Rd α} {s : Rd β} {f : Field} {fs : List Field} {off : Nat} (h : SoundZ P f.type r) (ho : f.offset = off) (hs : SoundZF P fs (off + r.n) s) : SoundZF P (f :: fs) off (pairR r s) := fun {H enc W n cs xs} hl hz hi => by
  obtain ⟨y, xs, rfl⟩ : ∃ y ys, xs = y :: ys := by
    cases xs with
    | nil => simp at hl
    | cons y ys => exact ⟨y, ys, rfl⟩
  obtain ⟨a, ha⟩ := soundZF_one (P := P) h ho (enc := enc) (W := W) (n := n) (cs := cs) (xs := [y]) rfl (fun x hx => hz x (by rw [List.mem_singleton.1 hx]; exact List.mem_cons_self)) (fun i g hg => by
    cases i with
    | zero => exact hi 0 g hg
    | succ i => simp at hg)
  obtain ⟨b, hb⟩ := hs (enc := enc) (W := W) (n := n) (cs := cs) (xs := xs) (by simpa using hl) (fun x hx => hz x (List.mem_cons_of_mem _ hx)) (fun i g hg => hi (i + 1) g hg)
  exact ⟨(a, b), ha, by simpa [Nat.add_assoc] using hb⟩
theorem soundZ_struct {α : Type} {r : Rd α} {fs : Array Field} (ht : P.underlying t = some (.struct fs)) (hc : P.cellsOf t = r.n) (h : SoundZF P fs.toList 0 r) : SoundZ P t r := ⟨hc, fun hx hz => by
  obtain ⟨xs, n, _, rfl, _, hl, hi⟩ := DataW.trod_struct ht hx
  obtain ⟨a, ha⟩ := h (by simpa using hl) (fun x hx' => noneFrozen_sub hz fun q hq => List.mem_flatMap.2 ⟨x, hx', hq⟩) (fun i f hf => hi i f (by simpa using hf))
  exact ⟨a, by simpa using ha⟩⟩
theorem argZ_agg {α : Type} {H : Type} {enc : TypeId × Value → H} {W : World} {rc : Reach} {b0 : TypeId} {r : Rd α} {v : Value} {d : DataW H} {p : List MemPlace} {fs : Array Field} (ht : P.underlying t = some (.struct fs)) (hs : SoundZ P t r)
    (hval : Value.okWide P W rc b0 t v) (h : DataW.Trod enc P W 0 (fun _ => true) true t v d p) (hz : W.noneFrozen p) : ∃ (cs : Array Value) (x : α), v = .agg cs ∧ cs.size = r.n ∧ r.lie (allL W) x (fun k => cs[k]?) := by
  obtain ⟨cs, rfl, hsz⟩ := okWide_struct ht hval
  obtain ⟨fuel, hf⟩ := h
  obtain ⟨x, h1⟩ := hs.2 hf hz
  exact ⟨cs, x, rfl, by rw [hsz, hs.1], by simpa [Value.cells] using h1⟩
end Go.Proofs.YtakedlockchpcaaGreatDoor
namespace Go.Proofs.YtakedlockchpcaaGreatDoor
open Go.ChangeShapes Go.WideShapes Go.ChangeAt Go.RowKit
abbrev msgR := (pairR (intR .i64) (pairR (intR .i64) (pairR (pairR (intR .u32) (pairR (intR .i64) (pairR (intR .i64) (pairR (intR .u8) (pairR boolR boolR))))) (pairR (intR .i64) (pairR (intR .i64) (pairR (pairR (intR .i64) (pairR (intR .i64) (pairR (sliceZ (intR .i64)) (pairR (intR .i64) (pairR (intR .i64) (pairR (pairR (intR .i64) (pairR (intR .i64) (pairR (intR .i64) (intR .i64)))) (intR .i64))))))) (pairR (intR .i64) (pairR (intR .i64) (pairR boolR (sliceZ (pairR (intR .i64) (pairR (intR .u32) (pairR (intR .i64) (pairR (intR .i64) (pairR (intR .u8) (pairR (intR .i64) (pairR (intR .i64) (pairR (intR .u64) (pairR (intR .i64) (intR .i64))))))))))))))))))))
abbrev entR := (pairR (intR .i64) (pairR (intR .u32) (pairR (intR .i64) (pairR (intR .i64) (pairR (intR .u8) (pairR (intR .i64) (pairR (intR .i64) (pairR (intR .u64) (pairR (intR .i64) (intR .i64))))))))))
set_option maxRecDepth 100000 in
theorem msgR_sound : SoundZ Tryz.prog 35 msgR := (soundZ_struct Tryz.underlying35 (by kernel_rfl) (soundZF_cons (sound_int Tryz.underlying3 (by kernel_rfl)).z rfl (soundZF_cons (sound_int Tryz.underlying3 (by kernel_rfl)).z rfl (soundZF_cons (soundZ_struct Tryz.underlying25 (by kernel_rfl) (soundZF_cons (sound_int Tryz.underlying23 (by kernel_rfl)).z rfl (soundZF_cons (sound_int Tryz.underlying2 (by kernel_rfl)).z rfl (soundZF_cons (sound_int Tryz.underlying2 (by kernel_rfl)).z rfl (soundZF_cons (sound_int Tryz.underlying5 (by kernel_rfl)).z rfl (soundZF_cons (sound_bool Tryz.underlying4 (by kernel_rfl)).z rfl (soundZF_one (sound_bool Tryz.underlying4 (by kernel_rfl)).z rfl))))))) rfl (soundZF_cons (sound_int Tryz.underlying2 (by kernel_rfl)).z rfl (soundZF_cons (sound_int Tryz.underlying3 (by kernel_rfl)).z rfl (soundZF_cons (soundZ_struct Tryz.underlying30 (by kernel_rfl) (soundZF_cons (sound_int Tryz.underlying3 (by kernel_rfl)).z rfl (soundZF_cons (sound_int Tryz.underlying2 (by kernel_rfl)).z rfl (soundZF_cons (soundZ_slice Tryz.underlying26 (by kernel_rfl) (by decide) (sound_int Tryz.underlying3 (by kernel_rfl)).z) rfl (soundZF_cons (sound_int Tryz.underlying3 (by kernel_rfl)).z rfl (soundZF_cons (sound_int Tryz.underlying3 (by kernel_rfl)).z rfl (soundZF_cons (soundZ_struct Tryz.underlying28 (by kernel_rfl) (soundZF_cons (sound_int Tryz.underlying3 (by kernel_rfl)).z rfl (soundZF_cons (sound_int Tryz.underlying2 (by kernel_rfl)).z rfl (soundZF_cons (sound_int Tryz.underlying2 (by kernel_rfl)).z rfl (soundZF_one (sound_int Tryz.underlying3 (by kernel_rfl)).z rfl))))) rfl (soundZF_one (sound_int Tryz.underlying3 (by kernel_rfl)).z rfl)))))))) rfl (soundZF_one (soundZ_struct Tryz.underlying33 (by kernel_rfl) (soundZF_cons (sound_int Tryz.underlying3 (by kernel_rfl)).z rfl (soundZF_cons (sound_int Tryz.underlying3 (by kernel_rfl)).z rfl (soundZF_cons (sound_bool Tryz.underlying4 (by kernel_rfl)).z rfl (soundZF_one (soundZ_slice Tryz.underlying31 (by kernel_rfl) (by decide) (soundZ_struct Tryz.underlying45 (by kernel_rfl) (soundZF_cons (sound_int Tryz.underlying3 (by kernel_rfl)).z rfl (soundZF_cons (sound_int Tryz.underlying23 (by kernel_rfl)).z rfl (soundZF_cons (sound_int Tryz.underlying2 (by kernel_rfl)).z rfl (soundZF_cons (sound_int Tryz.underlying2 (by kernel_rfl)).z rfl (soundZF_cons (sound_int Tryz.underlying5 (by kernel_rfl)).z rfl (soundZF_one (soundZ_struct Tryz.underlying43 (by kernel_rfl) (soundZF_cons (sound_int Tryz.underlying2 (by kernel_rfl)).z rfl (soundZF_cons (sound_int Tryz.underlying2 (by kernel_rfl)).z rfl (soundZF_cons (sound_int Tryz.underlying41 (by kernel_rfl)).z rfl (soundZF_cons (sound_int Tryz.underlying2 (by kernel_rfl)).z rfl (soundZF_one (sound_int Tryz.underlying2 (by kernel_rfl)).z rfl)))))) rfl)))))))) rfl))))) rfl))))))))
theorem ok_ww {x : Int} (h : (Lit.int .i64 x).wf = true) : Fk.ok .ww (.int .i64 x) := ⟨x, rfl, (i64_bounds h).1, (i64_bounds h).2⟩
theorem ok_nn {x : Int} (h : (Lit.int .u64 x).wf = true) : Fk.ok .nn (.int .u64 x) := ⟨x, rfl, (u64_bounds h).1, (u64_bounds h).2⟩
theorem ok_kk {x : Int} (h : (Lit.int .u32 x).wf = true) : Fk.ok .kk (.int .u32 x) := ⟨x, rfl, (u32_bounds h).1, (u32_bounds h).2⟩
theorem ok_bb {x : Int} (h : (Lit.int .u8 x).wf = true) : Fk.ok .bb (.int .u8 x) := ⟨UInt8.ofNat x.toNat, by
  have hb := u8_bounds h
  simp only [bV, UInt8.toNat_ofNat', Value.int.injEq, true_and]
  omega⟩
theorem ok_tt (x : Bool) : Fk.ok .tt (.bool x) := ⟨x, rfl⟩
abbrev RecT := Int × Int × Int × Int × Bool × Bool
def rcV (x : RecT) : List Value := [.int .u32 x.1, .int .i64 x.2.1, .int .i64 x.2.2.1, .int .u8 x.2.2.2.1, .bool x.2.2.2.2.1, .bool x.2.2.2.2.2]
abbrev EntT := Int × Int × Int × Int × Int × Int × Int × Int × Int × Int
def enV (x : EntT) : List Value := [.int .i64 x.1, .int .u32 x.2.1, .int .i64 x.2.2.1, .int .i64 x.2.2.2.1, .int .u8 x.2.2.2.2.1, .int .i64 x.2.2.2.2.2.1, .int .i64 x.2.2.2.2.2.2.1, .int .u64 x.2.2.2.2.2.2.2.1, .int .i64 x.2.2.2.2.2.2.2.2.1, .int .i64 x.2.2.2.2.2.2.2.2.2]
theorem ent_of {L : List (Nat × Obj)} {cs : Array Value} {off : Nat} {x : EntT} (h : entR.lie L x (fun k => cs[off + k]?)) : Oks entryF (enV x) ∧ Lies cs off (enV x) := by
  obtain ⟨⟨a0, w0⟩, ⟨a1, w1⟩, ⟨a2, w2⟩, ⟨a3, w3⟩, ⟨a4, w4⟩, ⟨a5, w5⟩, ⟨a6, w6⟩, ⟨a7, w7⟩, ⟨a8, w8⟩, a9, w9⟩ := h
  refine ⟨⟨ok_ww w0, ok_kk w1, ok_ww w2, ok_ww w3, ok_bb w4, ok_ww w5, ok_ww w6, ok_nn w7, ok_ww w8, ok_ww w9, trivial⟩, fun j v hj => ?_⟩
  match j, hj with
  | 0, hj => cases hj; exact a0
  | 1, hj => cases hj; exact a1
  | 2, hj => cases hj; exact a2
  | 3, hj => cases hj; exact a3
  | 4, hj => cases hj; exact a4
  | 5, hj => cases hj; exact a5
  | 6, hj => cases hj; exact a6
  | 7, hj => cases hj; exact a7
  | 8, hj => cases hj; exact a8
  | 9, hj => cases hj; exact a9
  | j + 10, hj => simp [enV] at hj
theorem bins_of {L : List (Nat × Obj)} {a : Option Addr} {xs : List Int} (h : SlLieZ (intR .i64) L a xs) : (∀ vs ∈ xs.map fun x => [Value.int .i64 x], Oks binF vs) ∧ Elems L a 1 (xs.map fun x => [Value.int .i64 x]) := by
  rcases h with rfl | ⟨b, off, cs, E, fr, i, h1, h2, h3, h4⟩
  · exact ⟨(fun _ h => (by cases h)), .inl rfl⟩
  · refine ⟨fun vs hv => ?_, .inr ⟨b, off, i, cs, E, fr, h1, h2, fun j vs hj => ?_⟩⟩
    · obtain ⟨x, hx, rfl⟩ := List.mem_map.1 hv
      obtain ⟨j, hj⟩ := List.mem_iff_getElem?.1 hx
      exact ⟨ok_ww (h4 j x hj).2, trivial⟩
    · rw [List.getElem?_map] at hj
      obtain ⟨x, hx, rfl⟩ := Option.map_eq_some_iff.1 hj
      have hlt := (List.getElem?_eq_some_iff.1 hx).1
      refine ⟨one_lies (h4 j x hx).1, fun k hk => ?_⟩
      have := h3 (j * 1 + k) (by show j * 1 + k < xs.length * 1; omega)
      rwa [← Nat.add_assoc] at this
theorem ents_of {L : List (Nat × Obj)} {a : Option Addr} {xs : List EntT} (h : SlLieZ entR L a xs) : (∀ vs ∈ xs.map enV, Oks entryF vs) ∧ Elems L a 10 (xs.map enV) := by
  rcases h with rfl | ⟨b, off, cs, E, fr, i, h1, h2, h3, h4⟩
  · exact ⟨(fun _ h => (by cases h)), .inl rfl⟩
  · refine ⟨fun vs hv => ?_, .inr ⟨b, off, i, cs, E, fr, h1, h2, fun j vs hj => ?_⟩⟩
    · obtain ⟨x, hx, rfl⟩ := List.mem_map.1 hv
      obtain ⟨j, hj⟩ := List.mem_iff_getElem?.1 hx
      exact (ent_of (h4 j x hj)).1
    · rw [List.getElem?_map] at hj
      obtain ⟨x, hx, rfl⟩ := Option.map_eq_some_iff.1 hj
      have hlt := (List.getElem?_eq_some_iff.1 hx).1
      refine ⟨(ent_of (h4 j x hx)).2, fun k hk => ?_⟩
      have := h3 (j * 10 + k) (by show j * 10 + k < xs.length * 10; omega)
      rwa [← Nat.add_assoc] at this
theorem msg_at {L : List (Nat × Obj)} {cs : Array Value} {off : Nat} {x : _} (h : msgR.lie L x (fun k => cs[off + k]?)) : ∃ (m : MV) (a : Option Addr) (cap : Nat) (a' : Option Addr) (cap' : Nat), m.Ok ∧ Lies cs off (m.cells a cap a' cap') ∧ Elems L a 1 m.bins ∧ Elems L a' 10 m.ents ∧ m.bins.length ≤ cap ∧ m.ents.length ≤ cap' ∧ cap ≤ maxLen ∧ cap' ≤ maxLen := by
  obtain ⟨⟨k0, w0⟩, ⟨k1, w1⟩, ⟨⟨r0, v0⟩, ⟨r1, v1⟩, ⟨r2, v2⟩, ⟨r3, v3⟩, r4, r5⟩, ⟨k8, w8⟩, ⟨k9, w9⟩, ⟨⟨c0, u0⟩, ⟨c1, u1⟩, ⟨a, cap, c2, n1, n2, hb⟩, ⟨c3, u3⟩, ⟨c4, u4⟩, ⟨⟨c5, u5⟩, ⟨c6, u6⟩, ⟨c7, u7⟩, c8, u8⟩, c9, u9⟩, ⟨q0, s0⟩, ⟨q1, s1⟩, q2, a', cap', q3, n3, n4, he⟩ := h
  obtain ⟨ob, eb⟩ := bins_of hb
  obtain ⟨oe, ee⟩ := ents_of he
  have lb : (x.2.2.2.2.2.1.2.2.1.map fun x => [Value.int .i64 x]).length = x.2.2.2.2.2.1.2.2.1.length := List.length_map ..
  refine ⟨⟨x.1, x.2.1, rcV x.2.2.1, x.2.2.2.1, x.2.2.2.2.1, [.int .i64 x.2.2.2.2.2.1.1, .int .i64 x.2.2.2.2.2.1.2.1], x.2.2.2.2.2.1.2.2.1.map fun x => [Value.int .i64 x],
    [.int .i64 x.2.2.2.2.2.1.2.2.2.1, .int .i64 x.2.2.2.2.2.1.2.2.2.2.1, .int .i64 x.2.2.2.2.2.1.2.2.2.2.2.1.1, .int .i64 x.2.2.2.2.2.1.2.2.2.2.2.1.2.1, .int .i64 x.2.2.2.2.2.1.2.2.2.2.2.1.2.2.1, .int .i64 x.2.2.2.2.2.1.2.2.2.2.2.1.2.2.2, .int .i64 x.2.2.2.2.2.1.2.2.2.2.2.2],
    [.int .i64 x.2.2.2.2.2.2.1, .int .i64 x.2.2.2.2.2.2.2.1, .bool x.2.2.2.2.2.2.2.2.1], x.2.2.2.2.2.2.2.2.2.map enV⟩, a, cap, a', cap', ⟨i64_bounds w0, i64_bounds w1, ⟨ok_kk v0, ok_ww v1, ok_ww v2, ok_bb v3, ok_tt _, ok_tt _, trivial⟩, i64_bounds w8, i64_bounds w9, ⟨ok_ww u0, ok_ww u1, trivial⟩, ob, ⟨ok_ww u3, ok_ww u4, ok_ww u5, ok_ww u6, ok_ww u7, ok_ww u8, ok_ww u9, trivial⟩, ⟨ok_ww s0, ok_ww s1, ok_tt _, trivial⟩, oe⟩, ?_, eb, ee, by rw [lb]; exact n1, by rw [List.length_map]; exact n3, n2, n4⟩
  intro j v hj
  unfold MV.cells at hj
  rw [List.length_map, List.length_map] at hj
  match j, hj with
  | 0, hj => cases hj; exact k0
  | 1, hj => cases hj; exact k1
  | 2, hj => cases hj; exact r0
  | 3, hj => cases hj; exact r1
  | 4, hj => cases hj; exact r2
  | 5, hj => cases hj; exact r3
  | 6, hj => cases hj; exact r4
  | 7, hj => cases hj; exact r5
  | 8, hj => cases hj; exact k8
  | 9, hj => cases hj; exact k9
  | 10, hj => cases hj; exact c0
  | 11, hj => cases hj; exact c1
  | 12, hj => cases hj; exact c2
  | 13, hj => cases hj; exact c3
  | 14, hj => cases hj; exact c4
  | 15, hj => cases hj; exact c5
  | 16, hj => cases hj; exact c6
  | 17, hj => cases hj; exact c7
  | 18, hj => cases hj; exact c8
  | 19, hj => cases hj; exact c9
  | 20, hj => cases hj; exact q0
  | 21, hj => cases hj; exact q1
  | 22, hj => cases hj; exact q2
  | 23, hj => cases hj; exact q3
  | j + 24, hj => simp [rcV] at hj
theorem msg_of {L : List (Nat × Obj)} {cs : Array Value} {x : _} (hz : cs.size = 24) (h : msgR.lie L x (fun k => cs[k]?)) : ∃ (m : MV) (a : Option Addr) (cap : Nat) (a' : Option Addr) (cap' : Nat), MsgAt L cs m a cap a' cap' := by
  obtain ⟨m, a, cap, a', cap', h1, h2, h3, h4, h5, h6, h7, h8⟩ := msg_at (off := 0) (by simpa only [Nat.zero_add] using h)
  exact ⟨m, a, cap, a', cap', h1, hz, h2, h3, h4, h5, h6, h7, h8⟩
end Go.Proofs.YtakedlockchpcaaGreatDoor
namespace Go.Proofs.YtakedlockchpcaaGreatDoor
open Go.ChangeShapes Go.WideShapes Go.ChangeAt Go.RowKit
theorem h_et : Tryz.prog.globalNamed "errors.errorType" = some 0 := by kernel_rfl
theorem h_rt : (Tryz.prog.cutTypes.find? (·.1 == "internal/reflectlite.rtype")).map (·.2) = some 254 := by kernel_rfl
theorem h_oneRow : ((List.range 303).filter fun t => Tryz.prog.rowNamed t [101, 114, 114, 111, 114]) = [70] := by kernel_rfl
theorem h_size : Tryz.prog.types.size = 303 := by kernel_rfl
def laidL : List (String × DataW Unit) := [("errors.errorType", Rows.laid_errors_errorType)]
theorem handle_of_laid {W : World} (h : laidMetH Tryz.prog laidL W) : W.cell? ⟨0, 0, none⟩ = some handle := by
  have h' : laidMet Tryz.prog [] W ∧ handlesMet Tryz.prog laidL W := h
  obtain ⟨name, u, ty, e1, e2, e3, e4, e5⟩ := h'.2 _ (List.mem_singleton.2 rfl)
  have en : name = [101, 114, 114, 111, 114] := (Option.some.inj e1).symm
  subst en
  obtain rfl := Option.some.inj (h_rt.symm.trans e2)
  have hm : ty ∈ (List.range 303).filter fun t => Tryz.prog.rowNamed t [101, 114, 114, 111, 114] := List.mem_filter.2 ⟨List.mem_range.2 (by rw [← h_size]; exact e3), e4⟩
  rw [h_oneRow] at hm
  obtain rfl := List.mem_singleton.1 hm
  have hh : typeHandle Tryz.prog 70 = .pointer (some ⟨1, 70, none⟩) := by kernel_rfl
  rw [hh] at e5
  unfold handle
  simpa using World.var?_cell h_et e5 0
noncomputable def laidWorld (os : Os) : World :=
  let w0 := World.holding Tryz.prog os ⟨#[], #[], []⟩
  { w0 with heap := w0.heap.modify 0 fun
      | .cells _ t frozen => .cells #[handle] t frozen
      | o => o }
theorem laidWorld_met (os : Os) (args : Array Value) : laidMetH Tryz.prog laidL ((laidWorld os).forCall (fun _ _ => 0) ⟨#[], args, []⟩).memory :=
  laidMetH_of_parts (laidMet_nil _ _) (by kernel_rfl)
set_option maxRecDepth 100000 in
theorem liftedH {os : Os} {H : Type} {enc : TypeId × Value → H} {f : FuncId} {fn : Func} {s : ChangeSpec} {tb : TypeId} (started : os.Started) (noInit : Tryz.prog.inits.idxOf? f = none) (hfn : Tryz.prog.funcs[f]? = some fn)
    (witness : ∃ (w : World) (tape : Tape) (i : Input), w.os = os ∧ (w.forCall tape i).Shaped Tryz.prog ∧ i.vars = [] ∧ Input.okWide Tryz.prog (w.forCall tape i) .any w.heap.size f i ∧
      ((s.pre enc Tryz.prog fn [] false (w.forCall tape i).memory i.args ∧ laidMetH Tryz.prog laidL (w.forCall tape i).memory) ∧ sizedMet enc Tryz.prog fn (OpenSpec.ofChange s) false (w.forCall tape i).memory i.args) ∧ ({} : Assume).holds Tryz.prog (lone (Frame.enter Tryz.prog f i.args .normal) [] (w.forCall tape i)))
    (hts : (fn.params.toList.all fun t => Tryz.prog.readableRec t && decide (t < Tryz.prog.types.size)) = true) (hv : s.vars = []) (hr : fn.resultTypes = #[tb]) (hb : Tryz.prog.underlying tb = some .bool)
    (hspec : ∀ ds : List (DataW H), ds.length = fn.params.size → s.fn H ds = { results := [.lit (.bool true)], args := ds })
    (h : ∀ (W : World) (base : Nat) (args : Array Value) (ds : List (DataW H)) (ps : List MemPlace), (∀ (j : Nat) t v, fn.params[j]? = some t → args[j]? = some v → Value.okWide Tryz.prog W .any base t v) →
      DataW.TrodAll enc Tryz.prog W 0 (fun _ => true) true fn.params.toList args.toList ds ps → W.noneFrozen ps → (∃ cs E fr, (0, Obj.cells cs E fr) ∈ allL W ∧ cs[0]? = some handle) → Fn Tryz.prog f args.toList (allL W) fun v L' => v = .bool true ∧ L' = allL W) :
    ReturnsInHanded {} Tryz.checked os f .any (fun w args => (s.pre enc Tryz.prog fn [] false w args ∧ laidMetH Tryz.prog laidL w) ∧ sizedMet enc Tryz.prog fn (OpenSpec.ofChange s) false w args) (s.post enc Tryz.prog fn false true false false) := by
  refine returnsInHanded_of_change_and (C := Tryz.checked) (X := fun w _ => laidMetH Tryz.prog laidL w) (fun _ _ _ hh h => h.of_heap hh) ownOf started noInit hfn witness ?_
  intro W base args ds gs before hval hW _ _ hL _
  have hW' := hW
  obtain ⟨p, q, hA, hV, rfl, hfz, _⟩ := hW
  rw [hv] at hV
  obtain ⟨rfl, rfl⟩ := trodVars_none hV
  have hlen : ∀ {ts : List TypeId} {vs : List Value} {ds : List (DataW H)} {ps : List MemPlace}, DataW.TrodAll enc Tryz.prog W 0 (fun _ => true) true ts vs ds ps → ds.length = ts.length := by
    intro ts
    induction ts with
    | nil => intro vs ds ps h; obtain ⟨_, rfl, _⟩ := trodAll_nil h; rfl
    | cons t ts ih => intro vs ds ps h; obtain ⟨v, vs', d, ds', a, b, rfl, rfl, rfl, _, h2⟩ := trodAll_cons h; simp [ih h2]
  have hds := hspec ds (by rw [hlen hA]; simp)
  have hg := handle_of_laid hL
  have hblk : ∃ cs E fr, (0, Obj.cells cs E fr) ∈ allL W ∧ cs[0]? = some handle := by
    unfold World.cell? at hg
    cases hb : W.heap[0]? with
    | none => simp [hb] at hg
    | some o =>
      cases o with
      | cells cs E fr => exact ⟨cs, E, fr, allL_mem_of hb, by simpa [hb] using hg⟩
      | _ => simp [hb] at hg
  refine ((h W base args ds p hval hA (by simpa using hfz) hblk) W W (mem_allL W)).mono fun e W' ⟨v, L', h1, h2, h3, h4⟩ => ?_
  subst h3; subst h4
  exact ⟨_, h1, post_law laidOf hts hv hr hb (by simpa using hds) hW' (below_of_mem h2)⟩
end Go.Proofs.YtakedlockchpcaaGreatDoor
