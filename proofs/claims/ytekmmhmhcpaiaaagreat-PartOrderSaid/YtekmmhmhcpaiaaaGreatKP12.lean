/-
  A part of what the last of these texts needs; by itself it proves no statement.
-/
import Derived.Test.YtekmmhmhcpaiaaaGreatKP11
namespace Go.Proofs.YtekmmhmhcpaiaaaGreat
open Go.RowKit
section
variable {c : Cx} {o : Oper} {Kn : St → Prop} {K : Exit → St → Prop} {s : List (Nat × Value)} {D : List Deferred} {L : List (Nat × Obj)}
set_option maxHeartbeats 4000000 in
theorem OW_insert {t kt vt : TypeId} {k k' : IntKind} [hu : TUnd c.P t (.map kt vt)] [hk' : TUnd c.P kt (.int k')] {m x y : Operand} {b cl i : Nat} {es : Array MapEntry} {ps : List (Int × Value)} {n : Int} {v : Value} (ho : o.op = .insert t m x y) (hm : ev s m = some (.map (some b))) (hx : ev s x = some (.int k n)) (hy : ev s y = some v) (hi : L[i]? = some (b, .map es cl)) (he : Ents k es.toList ps)
    (hK : ∀ es' cl', Ents k es'.toList (aPut ps n v) → Kn ⟨s, D, L.set i (b, .map es' cl')⟩) (hdst : o.dst = none := by exact rfl) : OW c o Kn K ⟨s, D, L⟩ := by
  have fin : ∀ (es2 : Array MapEntry) (cl2 : Nat), Ents k es2.toList (aPut ps n v) → (∀ a w, Holds c.g c.N ⟨s, D, L⟩ a w → (execOp a.eval o).run c.P w = .ok .skip (w.putObj b (.map es2 cl2))) → OW c o Kn K ⟨s, D, L⟩ := by
    intro es2 cl2 hm hrun a w ha
    refine ⟨fun _ _ => trivial, ?_⟩
    rw [Oper.semAt_eq _ _ _ (by rw [ho]; intro cc h; cases h), hrun a w ha]
    refine ⟨_, ?_, hK es2 cl2 hm⟩
    rw [hdst]; exact ha.mem' (ha.mem.putObj hi _)
  have hkey : keyX c.P kt (.int k') (.int k n) = true := rfl
  rcases Ents_find (P := c.P) (kt := kt) (k' := k') (x := n) 0 he with ⟨h1, h2⟩ | ⟨v0, j, e, h1, h2, h3, h4, h5, h6⟩
  · refine fin (es.push { key := .int k n, val := v, born := cl }) (cl + 1) ?_ fun a w ha => ?_
    · have e := aPut_none (v := v) h1
      rw [e]
      simp only [Ents, Array.toList_push, List.map_append, List.map_cons, List.map_nil]
      rw [show _ = _ from he]
    · have hfk := Fnd_run hk'.h h2 w
      simp [execOp, ho, ha.ev hm, ha.ev hx, ha.ev hy, Instr.mapUpdate, run_underlying hu.h, Go.MapKept.run_getObj_map (ha.mem.at_ hi), keyX_run (bs := []) hk'.h hkey (.int k n), hfk, Go.MapKept.run_setObj_map _ (ha.mem.at_ hi), World.putObj]
  · have hj : es[j]? = some e := by simpa using h3
    refine fin (es.modify j fun e => { e with key := .int k n, val := v }) cl ?_ fun a w ha => ?_
    · have : (es.modify j fun e => { e with key := .int k n, val := v }).toList = es.toList.set j { e with key := .int k n, val := v } := by
        apply List.ext_getElem?
        intro q
        rw [Array.getElem?_toList, Array.getElem?_modify, List.getElem?_set, Array.getElem?_toList]
        by_cases hq : j = q
        · subst hq
          have hlt := (Array.getElem?_eq_some_iff.1 hj).1
          rw [if_pos rfl, if_pos rfl, if_pos (by simpa using hlt), hj]; rfl
        · rw [if_neg hq, if_neg hq]
      rw [this]; exact h6 v
    · have hfk := Fnd_run hk'.h h2 w
      have hs : sameX c.P kt (.int k') (.int k n) (.int k n) = some true := by simp [sameX, V.scal, Instr.sameNow]
      have hks := keyThatStays_run (P := c.P) (bs := []) hs (.int k n) (p' := e.key) (by rw [h5]; exact .int k n) w
      simp only [Nat.zero_add] at hfk
      simp [execOp, ho, ha.ev hm, ha.ev hx, ha.ev hy, Instr.mapUpdate, run_underlying hu.h, Go.MapKept.run_getObj_map (ha.mem.at_ hi), keyX_run (bs := []) hk'.h hkey (.int k n), hfk, hj, hks, Go.MapKept.run_setObj_map _ (ha.mem.at_ hi), World.putObj]
end
attribute [local irreducible] Fn WC WL WR OW Qt YieldFn QW FnP FnD
abbrev bO (b : Nat) (k a b' g : Int) : Nat × Obj := (b, .cells (opC k a b' g) 59 (0, 0))
def wOut (k a b g t : Int) : List (Int × Int) :=
  if opF k a b g = true ∧ clsF k = 1 ∧ -1152921504606846976 ≤ t ∧ t ≤ 1152921504606846976 then (if k = 6 then [(t, t + a)] else if k = 5 then winsF t a b (a / b).toNat else winsF t a a 1) else []
theorem of1_fn {tb ob : Nat} {k a b g t : Int} {L : List (Nat × Obj)} : Fn Tryz.prog 109 [.pointer (some ⟨tb, 0, none⟩), .pointer (some ⟨ob, 0, none⟩)] (bI tb t :: bO ob k a b g :: L) (fun v L' => ∃ b1 b2 b3, v = .func (.func 148) #[] #[.pointer (some ⟨b1, 0, none⟩), .pointer (some ⟨b2, 0, none⟩), .pointer (some ⟨b3, 0, none⟩)] ∧ L' = bI b2 a :: bI b3 a :: bI b1 t :: L) := by
  refine Fn_enter Tryz.func109 rfl Tryz.ntmps109 rfl fun gw => ?_
  repeat (first | refine RQ ?_ | (refine WL_Q ?_; (first | refine QW_of (Qt_buildA rfl (hf := pair_fill)) ?_)) | (refine WL_op rfl ?_; (first | (refine OW_call rfl (hF := from_fn) (hk := ?_); rintro _ _ ⟨b1, b2, b3, rfl, rfl⟩))) | refine RC ?_ | refine WC_region ?_)
  exact ⟨rfl, _, _, Res1 rfl (resV_tmp rfl), .cons_cons _ (.cons_cons _ (.cons_cons _ (.cons _ (.cons _ (.refl _))))), _, _, _, rfl, rfl⟩
theorem of2_fn {tb ob : Nat} {k a b g t : Int} {L : List (Nat × Obj)} : Fn Tryz.prog 111 [.pointer (some ⟨tb, 0, none⟩), .pointer (some ⟨ob, 0, none⟩)] (bI tb t :: bO ob k a b g :: L) (fun v L' => ∃ b1 b2 b3, v = .func (.func 148) #[] #[.pointer (some ⟨b1, 0, none⟩), .pointer (some ⟨b2, 0, none⟩), .pointer (some ⟨b3, 0, none⟩)] ∧ L' = bI b2 b :: bI b3 a :: bI b1 t :: L) := by
  refine Fn_enter Tryz.func111 rfl Tryz.ntmps111 rfl fun gw => ?_
  repeat (first | refine RQ ?_ | (refine WL_Q ?_; (first | refine QW_of (Qt_buildA rfl (hf := pair_fill)) ?_)) | (refine WL_op rfl ?_; (first | (refine OW_call rfl (hF := from_fn) (hk := ?_); rintro _ _ ⟨b1, b2, b3, rfl, rfl⟩))) | refine RC ?_ | refine WC_region ?_)
  exact ⟨rfl, _, _, Res1 rfl (resV_tmp rfl), .cons_cons _ (.cons_cons _ (.cons_cons _ (.cons _ (.cons _ (.refl _))))), _, _, _, rfl, rfl⟩
theorem of3_fn {tb ob : Nat} {k a b g t : Int} (h0 : -2000000000000000000 ≤ t + a) (h1 : t + a ≤ 2000000000000000000) {L : List (Nat × Obj)} : Fn Tryz.prog 112 [.pointer (some ⟨tb, 0, none⟩), .pointer (some ⟨ob, 0, none⟩)] (bI tb t :: bO ob k a b g :: L) (fun v L' => ∃ b1 b2, v = .func (.func 149) #[] #[.pointer (some ⟨b1, 0, none⟩)] ∧ L' = (b1, .cells #[.slice (some ⟨b2, 0, none⟩) 1 1] 142 (0, 0)) :: (b2, .cells (wC (t, t + a)) 144 (0, 0)) :: L) := by
  refine Fn_enter Tryz.func112 rfl Tryz.ntmps112 rfl fun gw => ?_
  have w : IntKind.i64.wrap (t + a) = t + a := wI64 (by omega) (by omega)
  repeat (first | refine RQ ?_ | (refine WL_Q ?_; (first | refine QW_of (Qt_buildA rfl (hf := pair_fill)) ?_)) | (refine RE ?_; try intro _) | (refine WL_op rfl ?_; (first | (refine OW_call rfl (hF := values_fn) (hk := ?_); rintro _ _ ⟨b1, rfl, rfl⟩))) | refine RC ?_ | refine WC_region ?_)
  rw [w]
  exact ⟨rfl, _, _, Res1 rfl (resV_tmp rfl), .cons_cons _ (.cons_cons _ (.cons _ (.cons _ (.refl _)))), _, _, rfl, rfl⟩
theorem collect_fn {fv : Value} {S : List (Nat × Obj)} {ws : List (Array Value)} (hS : SeqOk fv S ws) (hw : ∀ w ∈ ws, w.size = 2 ∧ (w.toList.all fun v => v.oneCell') = true) (hn : ws.length ≤ 1000) {F : List (Nat × Obj)} (hF : ∀ q ∈ S, ∃ i : Nat, F[i]? = some q) :
    Fn Tryz.prog 114 [fv] F (fun v L' => ∃ T, Buf 144 2 v T ws.length (ws.flatMap fun w => w.toList) ∧ L' = T ++ F) := by
  refine Fn_enter Tryz.func114 rfl Tryz.ntmps114 rfl fun gw => ?_
  repeat (first | refine RQ ?_ | (refine WL_Q ?_; (first | refine QW_of (Qt_buildA rfl (hf := pair_fill)) ?_)) | refine RC ?_ | refine WC_region ?_)
  refine WL_op rfl (OW_call rfl (hF := appendSeq_fn hS hw hn hF) (hk := ?_))
  rintro v _ ⟨T, hb, rfl⟩
  repeat (first | refine RQ ?_ | (refine WL_Q ?_; (first | refine QW_of (Qt_buildA rfl (hf := pair_fill)) ?_)) | refine RC ?_ | refine WC_region ?_)
  exact ⟨rfl, _, _, Res1 rfl (resV_tmp rfl), .refl _, T, hb, rfl⟩
theorem wC_ok (l : List (Int × Int)) : ∀ w ∈ l.map wC, w.size = 2 ∧ (w.toList.all fun v => v.oneCell') = true := by
  intro w hw
  obtain ⟨p, _, rfl⟩ := List.mem_map.1 hw
  exact ⟨rfl, rfl⟩
theorem Check_yes {k a b g : Int} (h : opF k a b g = true) {L : List (Nat × Obj)} : Fn Tryz.prog 72 [.agg (opC k a b g)] L (fun v L' => v = .int .i64 0 ∧ L' = L) := by
  have := Check_fn (k := k) (a := a) (b := b) (g := g) (L := L)
  rwa [if_pos h] at this
theorem Check_no {k a b g : Int} (h : opF k a b g = false) {L : List (Nat × Obj)} : Fn Tryz.prog 72 [.agg (opC k a b g)] L (fun v L' => v = .int .i64 13 ∧ L' = L) := by
  have := Check_fn (k := k) (a := a) (b := b) (g := g) (L := L)
  rwa [if_neg (by rw [h]; decide)] at this
theorem opF_win {k a b g : Int} (h : opF k a b g = true) (hc : clsF k = 1) : 4 ≤ k ∧ k ≤ 6 ∧ 1 ≤ a ∧ a ≤ 1073741824 ∧ (k = 5 → 1 ≤ b ∧ a.tmod b = 0 ∧ a ≤ 4 * b) := by
  have hk : 4 ≤ k ∧ k ≤ 6 := by
    unfold clsF at hc
    split at hc
    · omega
    · split at hc
      · assumption
      · split at hc <;> omega
  unfold opF mayF at h
  rw [if_pos hc, if_neg (by omega), if_neg (by omega), if_neg (by omega), if_neg (by omega)] at h
  split at h
  · rename_i h5
    simp only [Bool.and_eq_true, decide_eq_true_eq, inF, beq_iff_eq] at h
    exact ⟨hk.1, hk.2, h.2.1.1.1.1, h.2.1.1.1.2, fun _ => ⟨h.2.1.1.2, h.2.1.2, h.2.2⟩⟩
  · rename_i h5
    simp only [Bool.and_eq_true, decide_eq_true_eq, inF, beq_iff_eq] at h
    exact ⟨hk.1, hk.2, h.2.1.1, h.2.1.2, fun e => absurd e h5⟩
theorem slide_n {a b : Int} (h1 : 1 ≤ a) (h2 : 1 ≤ b) (h3 : a.tmod b = 0) (h4 : a ≤ 4 * b) : a = ((a / b).toNat : Nat) * b ∧ 1 ≤ (a / b).toNat ∧ (a / b).toNat ≤ 4 := by
  rw [Int.tmod_eq_emod_of_nonneg (by omega)] at h3
  have e := Int.mul_ediv_add_emod a b
  rw [h3] at e
  have hq0 : 0 ≤ a / b := Int.ediv_nonneg (by omega) (by omega)
  have e2 : b * (a / b) = a := by omega
  have e3 : ((a / b).toNat : Int) = a / b := Int.toNat_of_nonneg hq0
  refine ⟨by rw [e3, Int.mul_comm]; exact e2.symm, ?_, ?_⟩
  · have : a / b ≠ 0 := by
      intro e4
      rw [e4, Int.mul_zero] at e2
      omega
    omega
  · have h5 : a / b ≤ 4 := by
      rcases Int.lt_or_le 4 (a / b) with h | h
      · have := Int.mul_le_mul_of_nonneg_left (show (5 : Int) ≤ a / b by omega) (show (0 : Int) ≤ b by omega)
        omega
      · exact h
    omega
theorem winsF_len (t size step : Int) (n : Nat) : (winsF t size step n).length = n := by simp [winsF]
def OfAt (k a b g t : Int) (L : List (Nat × Obj)) (v : Value) (L' : List (Nat × Obj)) : Prop := ∃ T, Buf 144 2 v T (wOut k a b g t).length (((wOut k a b g t).map wC).flatMap fun w => w.toList) ∧ L' = T ++ L
theorem OfAt.none {k a b g t : Int} {L : List (Nat × Obj)} (h : ¬ (opF k a b g = true ∧ clsF k = 1 ∧ -1152921504606846976 ≤ t ∧ t ≤ 1152921504606846976)) : OfAt k a b g t L (.slice none 0 0) L := by
  refine ⟨[], ?_, rfl⟩
  have : wOut k a b g t = [] := by unfold wOut; rw [if_neg h]
  rw [this]
  exact Buf.nil _ _
set_option maxHeartbeats 4000000 in
theorem Of_fn {k a b g t : Int} {L : List (Nat × Obj)} : Fn Tryz.prog 56 [.agg (opC k a b g), .int .i64 t] L (OfAt k a b g t L) := by
  refine Fn_enter Tryz.func56 rfl Tryz.ntmps56 rfl fun gw => ?_
  cases hO : opF k a b g
  · 
    repeat (first | refine RQ ?_ | ((first | refine WL_Q ?_ | refine WL_Y ?_); (first | refine QW_of (Qt_buildA rfl (hf := pair_fill)) ?_)) | (refine RE ?_; try intro _) | ((first | refine WL_op rfl ?_ | refine WL_yes (h := ?_)); (first | refine OW_callP rfl (hF := Class_fn) (hk := ?_) | refine OW_callP rfl (hF := Check_no hO) (hk := ?_))) | refine RC ?_ | refine WG 0 ?_ | refine WG 1 ?_ | refine WG 2 ?_)
    exact ⟨rfl, _, L, Res1 rfl (resV_tmp rfl), .cons _ (.cons _ (.refl _)), OfAt.none (by rw [hO]; simp)⟩
  by_cases hC : clsF k = 1
  rotate_left
  · have d : (clsF k != 1) = true := by simpa using hC
    repeat (first | refine RQ ?_ | ((first | refine WL_Q ?_ | refine WL_Y ?_); (first | refine QW_of (Qt_buildA rfl (hf := pair_fill)) ?_)) | (refine RE ?_; try intro _) | ((first | refine WL_op rfl ?_ | refine WL_yes (h := ?_)); (first | refine OW_callP rfl (hF := Class_fn) (hk := ?_) | refine OW_callP rfl (hF := Check_yes hO) (hk := ?_))) | refine RC ?_ | refine WG 0 ?_ | refine WG 1 ?_ | refine WG 2 ?_)
    exact ⟨rfl, _, L, Res1 rfl (resV_tmp rfl), .cons _ (.cons _ (.refl _)), OfAt.none (fun h => hC h.2.1)⟩
  have d : (clsF k != 1) = false := by simpa using hC
  by_cases h0 : t < -1152921504606846976
  · have d0 : decide (t < -1152921504606846976) = true := decide_eq_true h0
    repeat (first | refine RQ ?_ | ((first | refine WL_Q ?_ | refine WL_Y ?_); (first | refine QW_of (Qt_buildA rfl (hf := pair_fill)) ?_)) | (refine RE ?_; try intro _) | ((first | refine WL_op rfl ?_ | refine WL_yes (h := ?_)); (first | refine OW_callP rfl (hF := Class_fn) (hk := ?_) | refine OW_callP rfl (hF := Check_yes hO) (hk := ?_))) | refine RC ?_ | refine WG 0 ?_ | refine WG 1 ?_ | refine WG 2 ?_)
    exact ⟨rfl, _, L, Res1 rfl (resV_tmp rfl), .cons _ (.cons _ (.refl _)), OfAt.none (fun h => by omega)⟩
  have d0 : decide (t < -1152921504606846976) = false := decide_eq_false h0
  by_cases h1 : t > 1152921504606846976
  · have d1 : decide (t > 1152921504606846976) = true := decide_eq_true h1
    repeat (first | refine RQ ?_ | ((first | refine WL_Q ?_ | refine WL_Y ?_); (first | refine QW_of (Qt_buildA rfl (hf := pair_fill)) ?_)) | (refine RE ?_; try intro _) | ((first | refine WL_op rfl ?_ | refine WL_yes (h := ?_)); (first | refine OW_callP rfl (hF := Class_fn) (hk := ?_) | refine OW_callP rfl (hF := Check_yes hO) (hk := ?_))) | refine RC ?_ | refine WG 0 ?_ | refine WG 1 ?_ | refine WG 2 ?_)
    exact ⟨rfl, _, L, Res1 rfl (resV_tmp rfl), .cons _ (.cons _ (.refl _)), OfAt.none (fun h => by omega)⟩
  have d1 : decide (t > 1152921504606846976) = false := decide_eq_false h1
  have hyes : opF k a b g = true ∧ clsF k = 1 ∧ -1152921504606846976 ≤ t ∧ t ≤ 1152921504606846976 := ⟨hO, hC, by omega, by omega⟩
  obtain ⟨k4, k6, a1, a2, h5⟩ := opF_win hO hC
  repeat (first | refine RQ ?_ | ((first | refine WL_Q ?_ | refine WL_Y ?_); (first | refine QW_of (Qt_buildA rfl (hf := pair_fill)) ?_)) | (refine RE ?_; try intro _) | ((first | refine WL_op rfl ?_ | refine WL_yes (h := ?_)); (first | refine OW_callP rfl (hF := Class_fn) (hk := ?_) | refine OW_callP rfl (hF := Check_yes hO) (hk := ?_))) | refine RC ?_ | refine WG 0 ?_ | refine WG 1 ?_ | refine WG 3 ?_)
  rename_i ob tb
  refine WL_op rfl (OW_makeMap rfl ?_)
  intro mb
  repeat (first | refine RQ ?_ | (refine WL_Q ?_; (first | refine QW_of (Qt_buildA rfl (hf := pair_fill)) ?_)) | refine RC ?_ | refine WG 3 ?_)
  refine WL_op rfl (OW_insert (i := 0) (ps := []) rfl rfl rfl rfl rfl rfl ?_)
  intro es1 c1 he1
  simp only [List.set_cons_zero]
  repeat (first | refine RQ ?_ | (refine WL_Q ?_; (first | refine QW_of (Qt_buildA rfl (hf := pair_fill)) ?_)) | refine RC ?_ | refine WG 3 ?_)
  refine WL_op rfl (OW_insert (i := 0) rfl rfl rfl rfl rfl he1 ?_)
  intro es2 c2 he2
  simp only [List.set_cons_zero]
  repeat (first | refine RQ ?_ | (refine WL_Q ?_; (first | refine QW_of (Qt_buildA rfl (hf := pair_fill)) ?_)) | refine RC ?_ | refine WG 3 ?_)
  refine WL_op rfl (OW_insert (i := 0) rfl rfl rfl rfl rfl he2 ?_)
  intro es3 c3 he3
  simp only [List.set_cons_zero]
  repeat (first | refine RQ ?_ | (refine WL_Q ?_; (first | refine QW_of (Qt_buildA rfl (hf := pair_fill)) ?_)) | refine RC ?_ | refine WG 3 ?_ | refine WG 4 ?_)
  refine WL_Q (QW_of (Qt_lookup rfl (i := 0) rfl he3) ?_)
  refine WL_dropS (.cons _ (.refl _)) ?_
  have hk : k = 4 ∨ k = 5 ∨ k = 6 := by omega
  rcases hk with rfl | rfl | rfl
  · refine WL_op rfl (OW_callv (f := 109) (A := #[]) (B := #[.pointer (some ⟨tb, 0, none⟩), .pointer (some ⟨ob, 0, none⟩)]) rfl rfl rfl rfl rfl (of1_fn) ?_)
    rintro _ _ ⟨b1, b2, b3, rfl, rfl⟩
    have hW : WinR t a a 1 := ⟨hyes.2.2.1, hyes.2.2.2, a2, by omega, by omega, by simp⟩
    have hws : wOut 4 a b g t = winsF t a a 1 := by unfold wOut; rw [if_pos hyes]; rw [if_neg (by decide), if_neg (by decide)]
    refine WL_op rfl (OW_call rfl (hF := collect_fn (from1_ok (b1 := b1) (b2 := b2) (b3 := b3) hW) (wC_ok _) (by rw [List.length_map, winsF_len]; omega) (fun q hq => by simp only [List.mem_cons, List.not_mem_nil, or_false] at hq; rcases hq with rfl | rfl | rfl <;> first | exact ⟨0, rfl⟩ | exact ⟨1, rfl⟩ | exact ⟨2, rfl⟩)) (hk := ?_))
    rintro v _ ⟨T, hb, rfl⟩
    repeat (first | refine RQ ?_ | (refine WL_Q ?_; (first | refine QW_of (Qt_buildA rfl (hf := pair_fill)) ?_)) | refine RC ?_ | refine WG 4 ?_)
    refine ⟨rfl, _, T ++ L, Res1 rfl (resV_tmp rfl), List.Sublist.append (.refl _) (by repeat (first | exact List.Sublist.refl _ | apply List.Sublist.cons)), T, ?_, rfl⟩
    rw [hws]
    rw [List.length_map] at hb
    exact hb
  · refine WL_op rfl (OW_callv (f := 111) (A := #[]) (B := #[.pointer (some ⟨tb, 0, none⟩), .pointer (some ⟨ob, 0, none⟩)]) rfl rfl rfl rfl rfl (of2_fn) ?_)
    rintro _ _ ⟨b1, b2, b3, rfl, rfl⟩
    obtain ⟨q1, q2, q3⟩ := h5 rfl
    obtain ⟨r1, r2, r3⟩ := slide_n a1 q1 q2 q3
    have hW : WinR t a b (a / b).toNat := ⟨hyes.2.2.1, hyes.2.2.2, a2, by omega, r2, r1⟩
    have hws : wOut 5 a b g t = winsF t a b (a / b).toNat := by unfold wOut; rw [if_pos hyes]; rw [if_neg (by decide), if_pos rfl]
    refine WL_op rfl (OW_call rfl (hF := collect_fn (from1_ok (b1 := b1) (b2 := b2) (b3 := b3) hW) (wC_ok _) (by rw [List.length_map, winsF_len]; omega) (fun q hq => by simp only [List.mem_cons, List.not_mem_nil, or_false] at hq; rcases hq with rfl | rfl | rfl <;> first | exact ⟨0, rfl⟩ | exact ⟨1, rfl⟩ | exact ⟨2, rfl⟩)) (hk := ?_))
    rintro v _ ⟨T, hb, rfl⟩
    repeat (first | refine RQ ?_ | (refine WL_Q ?_; (first | refine QW_of (Qt_buildA rfl (hf := pair_fill)) ?_)) | refine RC ?_ | refine WG 4 ?_)
    refine ⟨rfl, _, T ++ L, Res1 rfl (resV_tmp rfl), List.Sublist.append (.refl _) (by repeat (first | exact List.Sublist.refl _ | apply List.Sublist.cons)), T, ?_, rfl⟩
    rw [hws]
    rw [List.length_map] at hb
    exact hb
  · refine WL_op rfl (OW_callv (f := 112) (A := #[]) (B := #[.pointer (some ⟨tb, 0, none⟩), .pointer (some ⟨ob, 0, none⟩)]) rfl rfl rfl rfl rfl (of3_fn (by omega) (by omega)) ?_)
    rintro _ _ ⟨b1, b2, rfl, rfl⟩
    skip
    have hws : wOut 6 a b g t = [(t, t + a)] := by unfold wOut; rw [if_pos hyes]; rw [if_pos rfl]
    refine WL_op rfl (OW_call rfl (hF := collect_fn (values1_ok (p := (t, t + a)) (b1 := b1) (b2 := b2)) (wC_ok [(t, t + a)]) (by simp) (fun q hq => by simp only [List.mem_cons, List.not_mem_nil, or_false] at hq; rcases hq with rfl | rfl <;> first | exact ⟨0, rfl⟩ | exact ⟨1, rfl⟩)) (hk := ?_))
    rintro v _ ⟨T, hb, rfl⟩
    repeat (first | refine RQ ?_ | (refine WL_Q ?_; (first | refine QW_of (Qt_buildA rfl (hf := pair_fill)) ?_)) | refine RC ?_ | refine WG 4 ?_)
    refine ⟨rfl, _, T ++ L, Res1 rfl (resV_tmp rfl), List.Sublist.append (.refl _) (by repeat (first | exact List.Sublist.refl _ | apply List.Sublist.cons)), T, ?_, rfl⟩
    rw [hws]
    exact hb
end Go.Proofs.YtekmmhmhcpaiaaaGreat
namespace Go.Proofs.YtekmmhmhcpaiaaaGreat
open Go.RowKit
abbrev OpV := Int × Int × Int × Int
structure CmV where
  kind : Int
  at_ : Int
  bins : List Int
  to : Int
  node : Int
  op : OpV
  mode : Int
abbrev CfV := Int × Int × Int × Int × Int
structure TbV where
  cf : CfV
  cmds : List CmV
  spans : List (List (Int × Int))
  act : List Int
  nodes : List OpV
  repl : List (List CmV)
abbrev TbV.wk (t : TbV) : Int := t.cf.1
def OpV.ok (o : OpV) : Bool := opF o.1 o.2.1 o.2.2.1 o.2.2.2
def lastF (t : TbV) : Int := match t.cmds.getLast? with
  | some c => c.at_
  | none => 0
def hasF (sp : List (List (Int × Int))) (b : Int) : Int := (((sp[b.toNat]?).getD []).getLast?.getD (0, 0)).2
def risF : Int → List Int → Bool
  | last, [] => decide (0 ≤ last)
  | last, b :: r => if b ≤ last ∨ 8 ≤ b then false else risF b r
def tryF (t : TbV) (c : CmV) (floor : Int) : Int :=
  if 64 ≤ t.cmds.length then 8 else if ¬ (0 ≤ c.kind ∧ c.kind ≤ 3) then 6 else if ¬ (max floor (lastF t) < c.at_ ∧ c.at_ ≤ 1099511627776) then 12
  else if c.kind = 0 then (if risF (-1) c.bins = false then 15 else if c.to ∉ t.act then 16 else if c.bins.any (fun b => hasF t.spans b == c.to) = true then 17 else 0)
  else if c.kind = 1 then (if ¬ (1 ≤ c.to ∧ c.to ≤ t.wk) then 16 else if c.to ∈ t.act then 11 else 0)
  else if c.kind = 2 then (if c.to ∉ t.act then 16 else if t.act.length ≤ 1 then 10 else 0)
  else (if ¬ ((0 ≤ c.node ∧ c.node ≤ (t.nodes.length : Int) - 1) ∧ (0 ≤ c.mode ∧ c.mode ≤ 2)) then 2 else if c.op.ok = false then 13 else if clsF c.op.1 ≠ clsF ((t.nodes[c.node.toNat]?).getD (0, 0, 0, 0)).1 then 14 else 0)
def giveK (at_ : Int) (to : List Int) : Nat → List Int → List (List (Int × Int)) → List (List (Int × Int))
  | _, [], sp => sp
  | k, b :: r, sp => giveK at_ to (k + 1) r (sp.set b.toNat (((sp[b.toNat]?).getD []) ++ [(at_, (to[k % to.length]?).getD 0)]))
def giveF (sp : List (List (Int × Int))) (at_ : Int) (bins to : List Int) : List (List (Int × Int)) := if to = [] then sp else giveK at_ to 0 bins sp
def insF (x : Int) : List Int → List Int
  | [] => [x]
  | y :: r => if x ≤ y then x :: y :: r else y :: insF x r
def ofF (sp : List (List (Int × Int))) (w : Int) : List Int := ((List.range 8).map fun b : Nat => (b : Int)).filter fun b => hasF sp b == w
def addF (t : TbV) (c : CmV) : TbV :=
  if c.kind = 0 then { t with cmds := t.cmds ++ [c], spans := giveF t.spans c.at_ c.bins [c.to] }
  else if c.kind = 1 then { t with cmds := t.cmds ++ [c], act := insF c.to t.act }
  else if c.kind = 2 then { t with cmds := t.cmds ++ [c], act := t.act.filter (fun w => !(w == c.to)), spans := giveF t.spans c.at_ (ofF t.spans c.to) (t.act.filter (fun w => !(w == c.to))) }
  else { t with cmds := t.cmds ++ [c], repl := t.repl.set c.node.toNat (((t.repl[c.node.toNat]?).getD []) ++ [c]) }
end Go.Proofs.YtekmmhmhcpaiaaaGreat
namespace Go.Proofs.YtekmmhmhcpaiaaaGreat
structure AcV where
  n : Int
  s : Int
  mn : Int
  mx : Int
structure EnV where
  ver : Nat
  key : Int
  s : Int
  e : Int
  side : Int
  ac : AcV
def AcV.add (a b : AcV) : AcV := ⟨a.n + b.n, a.s + b.s, min a.mn b.mn, max a.mx b.mx⟩
def EnV.add (a b : EnV) : EnV := ⟨max a.ver b.ver, max a.key b.key, min a.s b.s, max a.e b.e, max a.side b.side, a.ac.add b.ac⟩
structure PtV where
  o0 : OpV
  rs : List CmV
def PtV.op (c : PtV) : Nat → OpV
  | 0 => c.o0
  | v + 1 => ((c.rs[v]?).map CmV.op).getD (0, 0, 0, 0)
def PtV.ver (c : PtV) (t : Int) : Nat := (c.rs.filter fun x => decide (x.at_ ≤ t)).length
def PtV.cls (c : PtV) : Int := clsF c.o0.1
abbrev PtV.ses (c : PtV) (v : Nat) : Prop := (c.op v).1 = 6
def rW (c : PtV) (a b : EnV) : Bool := decide (a.ver = b.ver ∧ a.key = b.key ∧ ((a.s = b.s ∧ a.e = b.e) ∨ (c.ses a.ver ∧ max a.s b.s < min a.e b.e)))
theorem rW_iff {c : PtV} {a b : EnV} : rW c a b = true ↔ a.ver = b.ver ∧ a.key = b.key ∧ ((a.s = b.s ∧ a.e = b.e) ∨ (c.ses a.ver ∧ max a.s b.s < min a.e b.e)) := decide_eq_true_iff
theorem AcV.add_comm (a b : AcV) : a.add b = b.add a := by
  simp only [AcV.add, AcV.mk.injEq]
  omega
theorem AcV.add_assoc (a b c : AcV) : (a.add b).add c = a.add (b.add c) := by
  simp only [AcV.add, AcV.mk.injEq]
  omega
theorem EnV.add_comm (a b : EnV) : a.add b = b.add a := by
  simp only [EnV.add, EnV.mk.injEq, AcV.add_comm a.ac b.ac, and_true]
  omega
theorem EnV.add_assoc (a b c : EnV) : (a.add b).add c = a.add (b.add c) := by
  simp only [EnV.add, EnV.mk.injEq, AcV.add_assoc, and_true]
  omega
theorem rW_meets (c : PtV) : MeetsA (rW c) EnV.add where
  comm := EnV.add_comm
  assoc := EnV.add_assoc
  symm a b := by
    rw [Bool.eq_iff_iff, rW_iff, rW_iff]
    constructor
    · rintro ⟨h1, h2, h3⟩
      refine ⟨h1.symm, h2.symm, ?_⟩
      rw [← h1]
      rcases h3 with h3 | h3
      · exact .inl ⟨h3.1.symm, h3.2.symm⟩
      · exact .inr ⟨h3.1, by omega⟩
    · rintro ⟨h1, h2, h3⟩
      refine ⟨h1.symm, h2.symm, ?_⟩
      rw [← h1]
      rcases h3 with h3 | h3
      · exact .inl ⟨h3.1.symm, h3.2.symm⟩
      · exact .inr ⟨h3.1, by omega⟩
  join a b x hab := by
    rw [rW_iff] at hab
    obtain ⟨h1, h2, h3⟩ := hab
    have hv : (a.add b).ver = a.ver := by show max a.ver b.ver = a.ver; omega
    have hk : (a.add b).key = a.key := by show max a.key b.key = a.key; omega
    have hs : (a.add b).s = min a.s b.s := rfl
    have he : (a.add b).e = max a.e b.e := rfl
    rw [Bool.eq_iff_iff, Bool.or_eq_true, rW_iff, rW_iff, rW_iff, hv, hk, hs, he, ← h1, ← h2]
    by_cases hx : a.ver = x.ver ∧ a.key = x.key
    · obtain ⟨x1, x2⟩ := hx
      by_cases hse : c.ses a.ver
      · simp only [x1, x2, true_and]
        rw [x1] at hse h3
        generalize c.ses x.ver = P at hse h3 ⊢
        simp only [hse, true_and] at h3 ⊢
        omega
      · simp only [x1, x2, true_and]
        rw [x1] at hse h3
        generalize c.ses x.ver = P at hse h3 ⊢
        simp only [hse, false_and, or_false] at h3 ⊢
        omega
    · constructor
      · rintro ⟨g1, g2, _⟩; exact absurd ⟨g1, g2⟩ hx
      · rintro (⟨g1, g2, _⟩ | ⟨g1, g2, _⟩) <;> exact absurd ⟨g1, g2⟩ hx
def earlyW (c : PtV) (e : EnV) : Option CmV := (c.rs[e.ver]?).filter fun x => decide (x.at_ < e.e ∧ x.mode ≠ 0)
def dueW (c : PtV) (e : EnV) : Int := ((earlyW c e).map CmV.at_).getD e.e
def itsW (c : PtV) (v : Nat) (key t : Int) (a : AcV) : List EnV := (wOut (c.op v).1 (c.op v).2.1 (c.op v).2.2.1 (c.op v).2.2.2 t).map fun w => ⟨v, key, w.1, w.2, 0, a⟩
structure OutV where
  key : Int
  time : Int
  val : Int
  err : Bool
def resA (a : AcV) (g : Int) : Int × Bool := if g = 0 then (a.n, true) else if g = 2 then (a.mn, true) else if g = 3 then (a.mx, true) else if -9223372036854775808 ≤ a.s ∧ a.s < 9223372036854775808 then (a.s, true) else (0, false)
def goesW (c : PtV) (e : EnV) : Bool := match earlyW c e with
  | some x => x.mode == 2
  | none => false
def caW (c : PtV) (e : EnV) : List EnV := if goesW c e = true then itsW c (e.ver + 1) e.key (dueW c e) e.ac else []
def outW (c : PtV) (e : EnV) : List OutV := if goesW c e = true then [] else [⟨e.key, dueW c e - 1, (resA e.ac (c.op e.ver).2.2.2).1, !(resA e.ac (c.op e.ver).2.2.2).2⟩]
def FrW (c : PtV) (d : Int) (f : EnV) : Prop := d < f.e ∧ (∀ x, c.rs[f.ver]? = some x → d < x.at_) ∧ (c.ses f.ver → d ≤ f.s)
def LaW (c : PtV) (d : Int) (f : EnV) : Prop := d < f.e ∧ ∀ x, c.rs[f.ver]? = some x → d < x.at_
theorem opF_step {k a b g : Int} (h : opF k a b g = true) (hk : k = 5) : 1 ≤ b ∧ 1 ≤ a ∧ a ≤ 1073741824 ∧ a.tmod b = 0 ∧ a ≤ 4 * b := by
  subst hk
  simp [opF, mayF, inF] at h
  omega
theorem opF_plain {k a b g : Int} (h : opF k a b g = true) (hk : k = 4 ∨ k = 6 ∨ k = 7) : 1 ≤ a ∧ a ≤ 1073741824 ∧ b = 0 := by
  rcases hk with rfl | rfl | rfl <;> simp [opF, mayF, inF] at h <;> omega
theorem wOut_in {k a b g t : Int} {w : Int × Int} (h : w ∈ wOut k a b g t) : w.1 ≤ t ∧ t < w.2 ∧ w.2 - w.1 = a ∧ 1 ≤ a ∧ a ≤ 1073741824 ∧ (k = 6 → w.1 = t) := by
  unfold wOut at h
  split at h
  · rename_i hc
    obtain ⟨h1, h2, h3, h4⟩ := hc
    have hk : k = 4 ∨ k = 5 ∨ k = 6 := by
      unfold clsF at h2
      split at h2
      · omega
      split at h2
      · omega
      split at h2 <;> omega
    rcases hk with rfl | rfl | rfl
    · obtain ⟨a1, a2, -⟩ := opF_plain h1 (.inl rfl)
      rw [if_neg (by decide), if_neg (by decide)] at h
      obtain ⟨i, hi, rfl⟩ := List.mem_map.1 h
      have hi : i = 0 := by have := List.mem_range.1 hi; omega
      subst hi
      have e1 := Int.emod_nonneg t (show a ≠ 0 by omega)
      have e2 := Int.emod_lt_of_pos t (show 0 < a by omega)
      simp only [wBeg_zero]
      omega
    · obtain ⟨b1, a1, a2, b2, b3⟩ := opF_step h1 rfl
      rw [if_neg (by decide), if_pos rfl] at h
      obtain ⟨i, hi, rfl⟩ := List.mem_map.1 h
      have hi := List.mem_range.1 hi
      have e1 := Int.emod_nonneg t (show b ≠ 0 by omega)
      have e2 := Int.emod_lt_of_pos t (show 0 < b by omega)
      have e3 : (a / b).toNat * b = a := by
        have h5 : b ∣ a := Int.dvd_of_tmod_eq_zero b2
        have h6 := Int.ediv_mul_cancel h5
        have h7 : 0 ≤ a / b := Int.ediv_nonneg (by omega) (by omega)
        rw [Int.toNat_of_nonneg h7, h6]
      have e4 : ((i : Int) + 1) * b ≤ ((a / b).toNat : Int) * b := Int.mul_le_mul_of_nonneg_right (by omega) (by omega)
      have e5 : 0 ≤ (i : Int) * b := Int.mul_nonneg (by omega) (by omega)
      rw [Int.add_mul, Int.one_mul] at e4
      have hw : wBeg t a b i = t - t % b - a + b + i * b := rfl
      simp only [hw]
      omega
    · obtain ⟨a1, a2, -⟩ := opF_plain h1 (.inr (.inl rfl))
      rw [if_pos rfl] at h
      have := List.mem_singleton.1 h
      subst this
      exact ⟨Int.le_refl _, by show t < t + a; omega, by show t + a - t = a; omega, a1, a2, fun _ => rfl⟩
  · cases h
theorem itsW_fresh {c : PtV} {v : Nat} {key t : Int} {a : AcV} (h : ∀ x, c.rs[v]? = some x → t < x.at_) : ∀ f ∈ itsW c v key t a, FrW c t f := by
  intro f hf
  obtain ⟨w, hw, rfl⟩ := List.mem_map.1 hf
  obtain ⟨-, h2, -, -, -, h3⟩ := wOut_in hw
  exact ⟨h2, h, fun hs => Int.le_of_eq (h3 hs).symm⟩
theorem dueW_cases (c : PtV) (e : EnV) : (∃ x, c.rs[e.ver]? = some x ∧ earlyW c e = some x ∧ x.at_ < e.e ∧ x.mode ≠ 0 ∧ dueW c e = x.at_) ∨ (earlyW c e = none ∧ dueW c e = e.e) := by
  unfold dueW earlyW
  cases hx : c.rs[e.ver]? with
  | none => exact .inr ⟨rfl, rfl⟩
  | some x =>
    by_cases hc : x.at_ < e.e ∧ x.mode ≠ 0
    · refine .inl ⟨x, rfl, ?_, hc.1, hc.2, ?_⟩ <;> simp [Option.filter, hc]
    · refine .inr ⟨?_, ?_⟩ <;> simp [Option.filter, hc]
theorem rW_fall {c : PtV} (hr : c.rs.Pairwise fun a b => a.at_ < b.at_) : FallA (rW c) EnV.add (dueW c) (caW c) (FrW c) (LaW c) where
  toMeetsA := rW_meets c
  late _ _ h := ⟨h.1, h.2.1⟩
  touch d f x h hx := by
    obtain ⟨h1, h2, h3⟩ := h
    obtain ⟨r1, _, r3⟩ := rW_iff.1 hx
    rw [r1] at h2
    refine ⟨?_, h2⟩
    rcases r3 with ⟨r3, r4⟩ | ⟨r3, r4⟩
    · omega
    · have := h3 r3
      omega
  both d a b ha hb := by
    refine ⟨?_, fun x hx => ?_⟩
    · have := ha.1
      show d < max a.e b.e
      omega
    · have hx : c.rs[max a.ver b.ver]? = some x := hx
      rcases Nat.le_total a.ver b.ver with h | h
      · rw [Nat.max_eq_right h] at hx; exact hb.2 x hx
      · rw [Nat.max_eq_left h] at hx; exact ha.2 x hx
  due_ d x h := by
    rcases dueW_cases c x with ⟨y, h1, _, _, _, h2⟩ | ⟨_, h2⟩
    · rw [h2]; exact h.2 y h1
    · rw [h2]; exact h.1
  ca_ e f hf := by
    unfold caW at hf
    split at hf
    · rename_i hg
      refine itsW_fresh (fun y hy => ?_) f hf
      rcases dueW_cases c e with ⟨x, h1, _, _, _, h2⟩ | ⟨h1, _⟩
      · rw [h2]
        obtain ⟨i1, e1⟩ := List.getElem?_eq_some_iff.1 h1
        obtain ⟨i2, e2⟩ := List.getElem?_eq_some_iff.1 hy
        rw [← e1, ← e2]
        exact List.pairwise_iff_getElem.1 hr _ _ i1 i2 (Nat.lt_succ_self _)
      · unfold goesW at hg
        rw [h1] at hg
        cases hg
    · cases hf
end Go.Proofs.YtekmmhmhcpaiaaaGreat
namespace Go.Proofs.YtekmmhmhcpaiaaaGreat
open Go.RowKit
def FnE (P : Program) (f : FuncId) (args : List Value) (L : List (Nat × Obj)) (Rr Rp : Value → List (Nat × Obj) → Prop) : Prop := ∀ g w, Mem g L w → Calls P f args.toArray w (EndR g Rr Rp)
theorem EndR.mono {g : World} {Rr Rp Rr' Rp' : Value → List (Nat × Obj) → Prop} (h1 : ∀ v L, Rr v L → Rr' v L) (h2 : ∀ v L, Rp v L → Rp' v L) {e : Ending} {w : World} (h : EndR g Rr Rp e w) : EndR g Rr' Rp' e w := by
  rcases h with ⟨v, L, a, b, c⟩ | ⟨v, L, a, b, c⟩
  · exact .inl ⟨v, L, a, b, h1 v L c⟩
  · exact .inr ⟨v, L, a, b, h2 v L c⟩
theorem FnE.mono {P : Program} {f : FuncId} {args : List Value} {L : List (Nat × Obj)} {Rr Rp Rr' Rp' : Value → List (Nat × Obj) → Prop} (h : FnE P f args L Rr Rp) (h1 : ∀ v L, Rr v L → Rr' v L) (h2 : ∀ v L, Rp v L → Rp' v L) : FnE P f args L Rr' Rp' :=
  fun g w hm => (h g w hm).mono fun _ _ hE => hE.mono h1 h2
theorem FnE.toFnP {P : Program} {f : FuncId} {args : List Value} {L : List (Nat × Obj)} {Rr Rp : Value → List (Nat × Obj) → Prop} (h : FnE P f args L Rr Rp) (hn : ∀ v L', ¬ Rr v L') : FnP P f args L Rp :=
  fun g w hm => (h g w hm).mono fun _ _ hE => by
    rcases hE with ⟨v, L', _, _, c⟩ | ⟨v, L', a, b, c⟩
    · exact (hn v L' c).elim
    · exact ⟨v, L', a, b, c⟩
theorem FnE_enter {P : Program} {f : FuncId} {fn : Func} {code : Code} {args : List Value} {L : List (Nat × Obj)} {Rr Rp : Value → List (Nat × Obj) → Prop} {N : Nat} (hf : P.funcs[f]? = some fn) (hb : fn.body = some code) (hN : fn.ntmps = N) (hl : Nat.ble args.length N = true)
    (h : ∀ g, WC ⟨P, g, N, 0, none⟩ code (postL ⟨P, g, N, 0, none⟩ fn Rr Rp) ⟨initS 0 args, [], L⟩) : FnE P f args L Rr Rp := enterL hf hb hN hl h
section
variable {c : Cx} {o : Oper} {Kn : St → Prop} {K : Exit → St → Prop} {σ : St}
theorem OW_enterE {f : FuncId} {vs : List Value} {Rr Rp : Value → List (Nat × Obj) → Prop} (hnd : ∀ cc, o.op ≠ .defer cc) (hr : ∀ a w, Holds c.g c.N σ a w → (execOp a.eval o).run c.P w = .ok (.enter f vs.toArray) w) (hd : dok c.N o.dst = true)
    (hF : FnE c.P f vs σ.L Rr Rp) (hk : ∀ v L', Rr v L' → Kn (St.put ⟨σ.s, σ.D, L'⟩ o.dst v)) (hp : ∀ v L', Rp v L' → K (.panic (pan v)) ⟨[], σ.D, L'⟩) : OW c o Kn K σ := fun a w hH => by
  refine ⟨fun _ _ => trivial, ?_⟩
  rw [Oper.semAt_eq _ _ _ hnd, hr a w hH]
  refine ⟨fun h => by simp at h, (callsIn_fw c.r _ (hF c.g w hH.mem)).mono fun e w' hE => ?_⟩
  rcases hE with ⟨v, L', h1, h2, h3⟩ | ⟨v, L', h1, h2, h3⟩
  · subst h1
    exact ⟨_, (hH.mem' h2).put hd v, hk v L' h3⟩
  · subst h1
    exact ⟨σ.D, L', ⟨hH.size, (fun t u hu => by cases hu), hH.defers, h2⟩, hp v L' h3⟩
theorem call_run {f : FuncId} {x : Operand} {A B : Array Value} {args : Array Operand} {tys : Array TypeId} [hf : FCall c.P f] {vs : List Value} (ho : o.op = .call { callee := .value x, args := args, argTypes := tys }) (hx : ev σ.s x = some (.func (.func f) A B)) (ha : evs σ.s args.toList = some vs) (a : Act) (w : World) (hH : Holds c.g c.N σ a w) :
    (execOp a.eval o).run c.P w = .ok (.enter f (A.toList ++ vs ++ B.toList).toArray) w := by
  have hargs : args.map a.eval = vs.toArray := by
    apply Array.ext'
    simpa using hH.evs ha
  have e : (A.toList ++ vs ++ B.toList).toArray = A ++ vs.toArray ++ B := by apply Array.ext'; simp
  rw [e]
  simp [execOp, ho, resolve, Deferred.ofValue, hH.ev hx, hargs, invoke, hf.h]
end
end Go.Proofs.YtekmmhmhcpaiaaaGreat
