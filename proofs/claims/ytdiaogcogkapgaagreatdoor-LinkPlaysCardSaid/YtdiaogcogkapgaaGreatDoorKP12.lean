/-
  A part of what the last of these texts needs; by itself it proves no statement.
-/
import Derived.ChangeSame
import Derived.ChangeVars
import Derived.JoinedOf
import Derived.LaidLaws
import Derived.LaidHandle
import Derived.Stop.Joined
import Derived.Test.YtdiaogcogkapgaaGreatDoorKP11
namespace Go.Proofs.YtdiaogcogkapgaaGreatDoor
open Go.RowKit
theorem enc_lo {n : Nat} (h : n < 128) : enc n = [UInt8.ofNat n] := by
  unfold enc
  rw [Nat.div_eq_of_lt h, encH_zero, Nat.mod_eq_of_lt h]
  rfl
theorem w22_m : (mG 1 3 0 (mkV 10)).put = ([1, 3, 0, 0, 2, 0, 20], 0) := by
  show ((((enc 1 ++ enc 3) ++ encB false) ++ enc 0) ++ (enc 2 ++ (enc 0 ++ enc 20)), 0) = _
  rw [enc_lo (n := 1) (by decide), enc_lo (n := 3) (by decide), enc_lo (n := 0) (by decide), enc_lo (n := 2) (by decide), enc_lo (n := 20) (by decide)]
  rfl
theorem w22_a {life : Nat} (hl : life < 100) {chan : Nat} (hc : chan < 100) : (ansG (chan : Nat) (life : Nat) 1 1).bytes = [UInt8.ofNat life, UInt8.ofNat chan, 1, 1, 1] := by
  show (((enc life ++ enc chan) ++ encB true) ++ enc 1) ++ enc 1 = _
  rw [enc_lo (n := 1) (by decide), enc_lo (n := life) (by omega), enc_lo (n := chan) (by omega)]
  rfl
theorem w22_al {life : Nat} (hl : life < 100) {chan : Nat} (hc : chan < 100) : (ansG (chan : Nat) (life : Nat) 1 1).Lim where
  l0 := by show (0 : Int) ≤ (life : Int); omega
  l1 := by show (life : Int) ≤ 65535; omega
  c0 := by show (0 : Int) ≤ (chan : Int); omega
  c1 := by show (chan : Int) ≤ 99; omega
  s0 := (by decide : (0 : Int) ≤ 1)
  s1 := (by decide : (1 : Int) < 18446744073709551616)
  r0 := (by decide : (0 : Int) ≤ 1)
  r1 := (by decide : (1 : Int) ≤ 16)
  yes := fun _ => rfl
  no := fun h => by cases h
theorem w22_ml : (mG 1 3 0 (mkV 10)).Lim := ⟨(by decide : (0 : Int) ≤ 1), (by decide : (1 : Int) ≤ 65535), (by decide : (0 : Int) ≤ 3), (by decide : (3 : Int) ≤ 99), Int.le_refl 0, (by decide : (0 : Int) < 18446744073709551616), Int.le_refl 0, (by decide : (0 : Int) ≤ 16), (fun h => by cases h), fun _ => ⟨rfl, mkV_lim (by decide)⟩⟩
theorem w22_pm : prGram [1, 3, 0, 0, 2, 0, 20] = .ok (mG 1 3 0 (mkV 10)) 7 := by
  have h := enc_prGram0 w22_ml
  have e : (mG 1 3 0 (mkV 10)).bytes = [1, 3, 0, 0, 2, 0, 20] := by
    have := w22_ml.put
    rw [w22_m] at this
    exact (congrArg Prod.fst this).symm
  rw [e] at h
  exact h
theorem w22_pa : prGram [1, 3, 1, 1, 1] = .ok (ansG 3 1 1 1) 5 := by
  have h := enc_prGram0 (w22_al (life := 1) (by decide) (chan := 3) (by decide))
  rw [w22_a (by decide) (by decide)] at h
  exact h
theorem w22_p2 : prGram [2, 3, 1, 1, 1] = .ok (ansG 3 2 1 1) 5 := by
  have h := enc_prGram0 (w22_al (life := 2) (by decide) (chan := 3) (by decide))
  rw [w22_a (by decide) (by decide)] at h
  exact h
theorem w22_p4 : prGram [1, 4, 1, 1, 1] = .ok (ansG 4 1 1 1) 5 := by
  have h := enc_prGram0 (w22_al (life := 1) (by decide) (chan := 4) (by decide))
  rw [w22_a (by decide) (by decide)] at h
  exact h
theorem w22_ap : (ansG 3 1 1 1).put.1 = [1, 3, 1, 1, 1] := by
  have h := (w22_al (life := 1) (by decide) (chan := 3) (by decide)).put
  rw [w22_a (by decide) (by decide)] at h
  exact congrArg Prod.fst h
theorem w22_p1 : ∃ c e, prGram [1] = .bad c e := ⟨_, _, rfl⟩
attribute [local irreducible] Fn WC WL WR OW Qt YieldFn QW FnP FnD FnE
set_option maxHeartbeats 4000000 in
theorem works22A_fn {L : List (Nat × Obj)} (hH : HandleIn L) : Fn Tryz.prog 5 [] L (fun v L' => v = .bool true ∧ L' = L) := by
  refine Fn_enter Tryz.func5 rfl Tryz.ntmps5 rfl fun gw => ?_
  have i3 : i64r 3 := ⟨by decide, by decide⟩
  have i1 : i64r 1 := ⟨by decide, by decide⟩
  repeat (first | refine RQ ?_ | ((first | refine WL_op rfl ?_ | refine WL_yes (h := ?_)); (first | (refine OW_call rfl (hF := newOutA_fn (cap := 2) (chan := 3) (life := 1) (by decide) (by decide) i3 i1 rfl) (hk := ?_); rintro _ _ ⟨ob, SO, rfl, rfl, hO⟩) | (refine OW_call rfl (hF := newInA_fn (cap := 2) (chan := 3) (life := 1) (by decide) (by decide) i3 i1 rfl) (hk := ?_); rintro _ _ ⟨ib, SI, rfl, rfl, hI⟩))) | refine RC ?_ | refine WG 0 ?_ | refine WG 1 ?_ | refine WG 2 ?_ | refine WG 4 ?_)
  refine WL_permA (L' := SO ++ (SI ++ L)) (List.perm_append_comm_assoc ..) ?_
  have P1 := pushA_fn (F := SI ++ L) hO (mk_in (n := 10) (by decide) _) (Nat.zero_le _) (Nat.zero_le _)
  have e1 : pushE (mkV 10) ([] : List (List Value)).length 2 = 0 := rfl
  rw [e1, if_pos rfl] at P1
  refine WL_op rfl (OW_call rfl (hF := P1) (hk := ?_))
  rintro _ _ ⟨rfl, SO1, rfl, hO1⟩
  have P2 : Fn Tryz.prog 10 [.pointer (some ⟨ob, 0, none⟩), .int .i64 0] (SO1 ++ (SI ++ L)) (fun r L' => r = .tuple #[.string (bstr [1, 3, 0, 0, 2, 0, 20]), .bool true] ∧ L' = SO1 ++ (SI ++ L)) := by
    refine (pumpA_fn (F := SI ++ L) (k := 0) (l := mkC 10) (m := mkV 10) hO1 rfl (mk_in (by decide) _) (Nat.zero_le _) (Nat.zero_le _) i1 i3 (by decide) (by decide) (by decide) rfl).mono ?_
    rintro _ _ ⟨rfl, rfl⟩
    exact ⟨congrArg (fun s => Value.tuple #[.string (bstr s), .bool true]) (congrArg Prod.fst w22_m), rfl⟩
  repeat (first | refine RQ ?_ | (refine WL_op rfl ?_; (first | refine OW_callP rfl (hF := P2) (hk := ?_))) | refine RC ?_ | refine WG 4 ?_ | refine WG 5 ?_ | refine WG 6 ?_)
  have hl7 : ([1, 3, 0, 0, 2, 0, 20] : List UInt8).length ≤ 1000000000 := by decide
  have hin : inE [1, 3, 0, 0, 2, 0, 20] 3 1 = none := by unfold inE; rw [w22_pm]; rfl
  have C1 := came_lift (Z := fun S ms next rf => InG ib S 3 1 ms 2 next rf) (Pf := SO1) (S := SI) (F := L) (icomeA_fn (F := SO1 ++ L) hl7 hI i1 i3 (Int.le_refl _) (by decide) (hH.app _))
  refine WL_op rfl (OW_call rfl (hF := C1) (hk := ?_))
  rintro _ _ (⟨e, h1, _⟩ | ⟨g, b, gs, T, SI1, h1, _, hG, rfl, rfl, hI1⟩)
  · rw [hin] at h1; cases h1
  rw [w22_pm] at h1
  cases h1
  have hI1 : InG ib SI1 3 1 [gs.extract 5 (5 + 24)] 2 1 0 := hI1
  rw [show (ansG 3 1 (nextOf (dataZ (mG 1 3 0 (mkV 10)).seq 0 ([] : List (Array Value)).length 2) 0) (2 - (taken (dataZ (mG 1 3 0 (mkV 10)).seq 0 ([] : List (Array Value)).length 2) [] (gs.extract 5 (5 + 24))).length)).put.1 = [1, 3, 1, 1, 1] from w22_ap, show dataZ (mG 1 3 0 (mkV 10)).seq 0 ([] : List (Array Value)).length 2 = 0 from rfl]
  repeat (first | refine RQ ?_ | refine RC ?_ | refine WG 6 ?_ | refine WG 7 ?_)
  have C2 := came_lift (Z := fun S ms next rf => InG ib S 3 1 ms 2 next rf) (Pf := SO1) (S := SI1) (F := L ++ T) (icomeA_fn (F := SO1 ++ (L ++ T)) hl7 hI1 i1 i3 (by decide) (by decide) ((hH.left T).app _))
  refine WL_op rfl (OW_call rfl (hF := C2) (hk := ?_))
  rintro _ _ (⟨e, h1, _⟩ | ⟨g, b, gs', T', SI2, h1, _, hG', rfl, rfl, hI2⟩)
  · rw [hin] at h1; cases h1
  rw [w22_pm] at h1
  cases h1
  have hI2 : InG ib SI2 3 1 [gs.extract 5 (5 + 24)] 2 1 1 := hI2
  rw [show (ansG 3 1 (nextOf (dataZ (mG 1 3 0 (mkV 10)).seq 1 ([gs.extract 5 (5 + 24)] : List (Array Value)).length 2) 1) (2 - (taken (dataZ (mG 1 3 0 (mkV 10)).seq 1 ([gs.extract 5 (5 + 24)] : List (Array Value)).length 2) [gs.extract 5 (5 + 24)] (gs'.extract 5 (5 + 24))).length)).put.1 = [1, 3, 1, 1, 1] from w22_ap, show dataZ (mG 1 3 0 (mkV 10)).seq 1 ([gs.extract 5 (5 + 24)] : List (Array Value)).length 2 = 18 from rfl]
  repeat (first | refine RQ ?_ | refine RC ?_ | refine WG 7 ?_ | refine WG 8 ?_)
  have D1 := comeA_fn (F := SI2 ++ ((L ++ T) ++ T')) (l := [1, 3, 1, 1, 1]) (by decide) hO1 (by decide) (((hH.left T).left T').app _)
  have f1 : comeF [1, 3, 1, 1, 1] 3 1 ([] ++ [mkC 10]) 2 0 2 = (0, [], 1, 2) := by unfold comeF; rw [w22_pa]; rfl
  rw [f1] at D1
  refine WL_op rfl (OW_call rfl (hF := D1) (hk := ?_))
  rintro _ _ ⟨rfl, SO2, rfl, hO2⟩
  have hH1 := Fn.underP (Pf := SO2) (L := (L ++ T) ++ T') (iheadA hI2)
  have hgz : (gs.extract 5 (5 + 24)).size = 24 := hI2.elim fun _ ⟨_, _, _, hR⟩ => (hR.all _ (List.mem_singleton.2 rfl)).1
  have hgo : ((gs.extract 5 (5 + 24)).toList.all fun v => v.oneCell') = true := hI2.elim fun _ ⟨_, _, _, hR⟩ => (hR.all _ (List.mem_singleton.2 rfl)).2
  have hg8 : (gs.extract 5 (5 + 24))[8]? = some (.int .i64 10) := by
    obtain ⟨a1, p1, a1', p1', M1⟩ := gramAt_of hG w22_ml.ok
    exact M1.msgX.lies 8 _ rfl
  rw [show headV [gs.extract 5 (5 + 24)] = .tuple #[.agg (gs.extract 5 (5 + 24)), .bool true] from rfl] at hH1
  generalize gs.extract 5 (5 + 24) = m at hI2 hH1 hgz hgo hg8
  repeat (first | refine RQ ?_ | (refine RE ?_; try intro _) | (refine WL_op rfl ?_; (first | refine OW_callP rfl (hF := pump_none hO2) (hk := ?_) | refine OW_callP rfl (hF := hH1) (hk := ?_))) | refine RC ?_ | refine WG 8 ?_ | refine WG 9 ?_ | refine WG 10 ?_ | refine WG 11 ?_)
  rename_i x13
  refine WL_op rfl (OW_call rfl (hF := Fn.in2 (A := [(x13, Obj.cells m 43 (0, 0))]) (B := SO2) (ipopA hI2)) (hk := ?_))
  rintro _ _ ⟨rfl, SI3, rfl, hI3⟩
  repeat (first | refine RQ ?_ | ((first | refine WL_op rfl ?_ | refine WL_yes (h := ?_)); (first | refine OW_callP rfl (hF := Fn.in2P (A := [_]) (B := SO2) (ipopA0 hI3)) (hk := ?_))) | refine RC ?_ | refine WC_app (id := 12) (by simp only [List.append]; rfl) ?_ | refine WG 11 ?_ | refine WG 12 ?_)
  have E2 := Fn.under (Pf := [(x13, Obj.cells m 43 (0, 0))]) (comeA_fn (F := [(x13, Obj.cells m 43 (0, 0))] ++ (SI3 ++ ((L ++ T) ++ T'))) (l := [2, 3, 1, 1, 1]) (by decide) hO2 (by decide) ((((hH.left T).left T').app _).app _))
  have g2 : comeF [2, 3, 1, 1, 1] 3 1 [] 2 1 2 = (18, [], 1, 2) := by unfold comeF; rw [w22_p2]; rfl
  rw [g2] at E2
  refine WL_yes rfl rfl rfl rfl rfl (OW_call rfl (hF := E2) (hk := ?_))
  rintro _ _ ⟨rfl, SO3, rfl, hO3⟩
  repeat (first | refine RQ ?_ | refine RC ?_ | refine WC_app (id := 12) (by simp only [List.append]; rfl) ?_ | refine WG 12 ?_)
  have E3 := Fn.under (Pf := [(x13, Obj.cells m 43 (0, 0))]) (comeA_fn (F := [(x13, Obj.cells m 43 (0, 0))] ++ (SI3 ++ ((L ++ T) ++ T'))) (l := [1, 4, 1, 1, 1]) (by decide) hO3 (by decide) ((((hH.left T).left T').app _).app _))
  have g3 : comeF [1, 4, 1, 1, 1] 3 1 [] 2 1 2 = (2, [], 1, 2) := by unfold comeF; rw [w22_p4]; rfl
  rw [g3] at E3
  refine WL_yes rfl rfl rfl rfl rfl (OW_call rfl (hF := E3) (hk := ?_))
  rintro _ _ ⟨rfl, SO4, rfl, hO4⟩
  repeat (first | refine RQ ?_ | refine RC ?_ | refine WC_app (id := 12) (by simp only [List.append]; rfl) ?_ | refine WG 12 ?_)
  have E4 := Fn.under (Pf := [(x13, Obj.cells m 43 (0, 0))]) (comeA_fn (F := [(x13, Obj.cells m 43 (0, 0))] ++ (SI3 ++ ((L ++ T) ++ T'))) (l := [1]) (by decide) hO4 (by decide) ((((hH.left T).left T').app _).app _))
  have g4 : comeF [1] 3 1 [] 2 1 2 = (5, [], 1, 2) := by unfold comeF; obtain ⟨c, e, h⟩ := w22_p1; rw [h]
  rw [g4] at E4
  refine WL_yes rfl rfl rfl rfl rfl (OW_call rfl (hF := E4) (hk := ?_))
  rintro _ _ ⟨rfl, SO5, rfl, hO5⟩
  repeat (first | refine RQ ?_ | refine RC ?_ | refine WC_app (id := 12) (by simp only [List.append]; rfl) ?_ | refine WG 12 ?_)
  exact ⟨rfl, _, _, Res1 rfl (resV_tmp rfl), .cons _ ((((List.sublist_append_left L T).trans (List.sublist_append_left _ T')).trans (List.sublist_append_right SI3 _)).trans (List.sublist_append_right SO5 _)), rfl, rfl⟩
end Go.Proofs.YtdiaogcogkapgaaGreatDoor
namespace Go.Proofs.YtdiaogcogkapgaaGreatDoor
open Go.ChangeShapes Go.WideShapes Go.ChangeAt Go.RowKit
theorem okWide_array {P : Program} {w : World} {r : Reach} {base t : TypeId} {v : Value} {n : Nat} {e : TypeId} (ht : P.underlying t = some (.array n e)) (h : Value.okWide P w r base t v) : ∃ cs, v = .agg cs ∧ cs.size = P.cellsOf t := by
  simp only [Value.okWide, ht] at h
  obtain ⟨cs, h1, h2, _⟩ := h
  exact ⟨cs, h1, h2⟩
theorem arg_arr {P : Program} {t : TypeId} {α : Type} {H : Type} {enc : TypeId × Value → H} {W : World} {rc : Reach} {b0 : TypeId} {r : Rd α} {v : Value} {d : DataW H} {p : List MemPlace} {n : Nat} {e : TypeId} (ht : P.underlying t = some (.array n e)) (hs : Sound P t r)
    (hval : Value.okWide P W rc b0 t v) (h : DataW.Trod enc P W 0 (fun _ => true) true t v d p) : ∃ (cs : Array Value) (x : α), v = .agg cs ∧ cs.size = r.n ∧ r.lie (allL W) x (fun k => cs[k]?) := by
  obtain ⟨cs, rfl, hsz⟩ := okWide_array ht hval
  obtain ⟨fuel, hf⟩ := h
  obtain ⟨x, h1⟩ := hs.2 hf
  exact ⟨cs, x, rfl, by rw [hsz, hs.1], by simpa [Value.cells] using h1⟩
end Go.Proofs.YtdiaogcogkapgaaGreatDoor
namespace Go.Proofs.YtdiaogcogkapgaaGreatDoor
open Go.RowKit
theorem Qt_indexY {c : Cx} {s : List (Nat × Value)} {L : List (Nat × Obj)} {o : Oper} {t len E n : Nat} [TUnd c.P t (.array len E)] [TSize c.P E n] [TAgg c.P E true] {x y : Operand} {k : IntKind} {i : Int} {vs ws : Array Value} (ho : o.op = .index t x y) (hx : ev s x = some (.agg vs) := by exact rfl) (hy : ev s y = some (.int k i) := by exact rfl) (hv : vs.extract (i.toNat * n) (i.toNat * n + n) = ws := by with_reducible assumption) (h0 : 0 ≤ i := by first | decide | with_reducible assumption | omega) (h1 : i < len := by first | decide | with_reducible assumption | omega) : Qt c s L o (.agg ws) := by
  subst hv
  exact Qt_indexA ho hx hy h0 h1
theorem perm_ends {α : Type} (x6 xb : α) (SO SI PO PI L : List α) : (xb :: (PI ++ (PO ++ (SI ++ (SO ++ (x6 :: L)))))).Perm (x6 :: xb :: (SO ++ (SI ++ (PO ++ (PI ++ L))))) := by
  classical
  rw [List.perm_iff_count]
  intro a
  simp only [List.count_cons, List.count_append]
  omega
theorem perm_ends2 {α : Type} (x6 xb : α) (SO SI PO PI L : List α) : (xb :: (SO ++ (SI ++ (PO ++ (PI ++ (x6 :: L)))))).Perm (x6 :: xb :: (SO ++ (SI ++ (PO ++ (PI ++ L))))) := by
  classical
  rw [List.perm_iff_count]
  intro a
  simp only [List.count_cons, List.count_append]
  omega
theorem ActsAt.cons {L : List (Nat × Obj)} {v : Value} {n : Nat} (p : Nat × Obj) (h : ActsAt L v n) : ActsAt (p :: L) v n := by
  obtain ⟨a, cap, h1, h2, h3, h4⟩ := h
  refine ⟨a, cap, h1, h2, h3, fun j hj => ?_⟩
  obtain ⟨q, off, cur, E, fr, i, y, h5, h6, h7, h8, what, k, raw, gs, g, b, bc, b', bc', hA⟩ := h4 j hj
  exact ⟨q, off, cur, E, fr, i + 1, y, h5, h6, h7, h8, what, k, raw, gs, g, b, bc, b', bc', hA.z, hA.one, hA.w, hA.kc, hA.rc, hA.ge, hA.me, hA.gr.cons p, hA.k8⟩
theorem three_of {L : List (Nat × Obj)} {cs : Array Value} {xs : List Int} (hz : cs.size = 3) (h : (arrR 3 (intR .i64)).lie L xs (fun k => cs[k]?)) : ∃ a b c : Int, i64r a ∧ i64r b ∧ i64r c ∧ cs = #[.int .i64 a, .int .i64 b, .int .i64 c] := by
  obtain ⟨hl, hx⟩ := h
  match xs, hl with
  | [a, b, c], _ =>
    obtain ⟨c0, w0⟩ := hx 0 a rfl
    obtain ⟨c1, w1⟩ := hx 1 b rfl
    obtain ⟨c2, w2⟩ := hx 2 c rfl
    refine ⟨a, b, c, i64_bounds w0, i64_bounds w1, i64_bounds w2, ?_⟩
    apply Array.ext_getElem?
    intro k
    match k with
    | 0 => exact c0
    | 1 => exact c1
    | 2 => exact c2
    | k + 3 => rw [Array.getElem?_eq_none (by omega)]; rfl
attribute [local irreducible] Fn WC WL WR OW Qt YieldFn QW FnP FnD FnE
instance : TBuildA Tryz.prog 58 zc58 1 := ⟨fun _ => by kernel_rfl⟩
instance : TBuildA Tryz.prog 60 zc60 3 := ⟨fun _ => by kernel_rfl⟩
set_option maxHeartbeats 8000000 in
theorem lplays_fn {a b c : Int} {lv : Value} {n : Nat} {L : List (Nat × Obj)} (ha : i64r a) (hb : i64r b) (hc : i64r c) (hl : ActsAt L lv n) (hH : HandleIn L) : Fn Tryz.prog 4 [.agg #[.int .i64 a, .int .i64 b, .int .i64 c], lv] L (fun r L' => r = .bool true ∧ L' = L) := by
  refine Fn_enter Tryz.func4 rfl Tryz.ntmps4 rfl fun gw => ?_
  repeat (first | refine RQ ?_ | (refine WL_Q ?_; (first | refine QW_of (Qt_indexY rfl) ?_ | refine QW_of (Qt_buildA rfl) ?_)) | (refine RE ?_; try intro _) | refine RC ?_ | refine WG 0 ?_ | refine WG 1 ?_)
  rw [em_eq (x := a) (by omega) (by omega), em_eq (x := b) (by omega) (by omega), em_eq (x := c) (by omega) (by omega), wI64 (x := 1 + c % 4) (by omega) (by omega)]
  have ha2 : i64r (a % 100) := ⟨by omega, by omega⟩
  have hb2 : i64r (b % 4) := ⟨by omega, by omega⟩
  have hc2 : i64r (1 + c % 4) := ⟨by omega, by omega⟩
  generalize a % 100 = a2 at ha2 ⊢
  generalize b % 4 = b2 at hb2 ⊢
  generalize 1 + c % 4 = c2 at hc2 ⊢
  obtain ⟨arr, harr⟩ : ∃ arr : Array Value, arr = #[.int .i64 a, .int .i64 b, .int .i64 c, .int .i64 a2, .int .i64 b2, .int .i64 c2] := ⟨_, rfl⟩
  refine WC_wk [(27, .int .i64 ((0 : Nat) : Int)), (26, .agg arr), (1, lv)] ⟨rfl, by rw [harr]; rfl, rfl, trivial⟩ ?_
  refine WC_dropL L (.cons _ (.refl _)) ?_
  refine WC_loop (fun m σ => ∃ i : Nat, m = 2 - i ∧ i ≤ 2 ∧ σ = ⟨[(27, .int .i64 (i : Nat)), (26, .agg arr), (1, lv)], [], L⟩) 2 ⟨0, rfl, by decide, rfl⟩ ?_
  rintro m σ ⟨i, rfl, hi, rfl⟩
  by_cases hgo : i < 2
  rotate_left
  · have d : decide ((i : Int) < 2) = false := decide_eq_false (by omega)
    repeat (first | refine RQ ?_ | (refine WL_Q ?_; (first | refine QW_of (Qt_indexY rfl) ?_ | refine QW_of (Qt_buildA rfl) ?_)) | (refine WL_op rfl ?_; (first | refine OW_callP rfl (hF := works22A_fn hH) (hk := ?_))) | refine RC ?_ | refine WG 2 ?_ | refine WG 10 ?_)
    exact ⟨rfl, _, _, Res1 rfl (resV_tmp rfl), .refl _, rfl, rfl⟩
  have d : decide ((i : Int) < 2) = true := decide_eq_true (by omega)
  have w : IntKind.i64.wrap ((i : Int) + 1) = ((i + 1 : Nat) : Int) := by rw [wI64 (by omega) (by omega)]; omega
  obtain ⟨p, q, k, hp, hq, hk, hx⟩ : ∃ p q k : Int, i64r p ∧ i64r q ∧ i64r k ∧ arr.extract (((i : Nat) : Int).toNat * 3) (((i : Nat) : Int).toNat * 3 + 3) = #[.int .i64 p, .int .i64 q, .int .i64 k] := by
    subst harr
    match i, hgo with
    | 0, _ => exact ⟨a, b, c, ha, hb, hc, rfl⟩
    | 1, _ => exact ⟨a2, b2, c2, ha2, hb2, hc2, rfl⟩
  have p0 : (0 : Int) ≤ (i : Int) := by omega
  have p1 : ((i : Nat) : Int) < ((2 : Nat) : Int) := by omega
  clear harr
  repeat (first | refine RQ ?_ | (refine WL_Q ?_; (first | refine QW_of (Qt_indexY rfl) ?_ | refine QW_of (Qt_buildA rfl) ?_)) | (refine RE ?_; try intro _) | refine RC ?_ | refine WG 2 ?_ | refine WG 3 ?_)
  rename_i x6
  by_cases hok : endOk p q = true ∧ 1 ≤ k ∧ k ≤ 16
  rotate_left
  · have hno : endOk p q = false ∨ k < 1 ∨ 16 < k := by
      cases he : endOk p q
      · exact .inl rfl
      · exact .inr (Decidable.byContradiction fun hc => hok ⟨he, by omega, by omega⟩)
    repeat (first | refine RQr ?_ | ((first | refine WL_Q ?_ | refine WL_Y ?_ | refine WR_Q rfl ?_ | refine WR_late rfl rfl rfl (OW_Q ?_) | refine WR_Y rfl ?_); (first | refine QW_of (Qt_indexY rfl) ?_ | refine QW_of (Qt_buildA rfl) ?_)) | ((first | refine WL_op rfl ?_ | refine WL_yes (h := ?_) | refine WR_late rfl rfl rfl ?_ | refine WR_opG rfl rfl ?_ | refine WR_opYG rfl (h := ?_)); (first | (refine OE ?_; try intro _) | refine OW_callP rfl (hF := newOutA_no hp hq hno) (hk := ?_) | refine OW_callP rfl (hF := newInA_no hp hq hno) (hk := ?_) | refine OW_callP rfl (hF := rnewOut_no hno) (hk := ?_) | refine OW_callP rfl (hF := rnewIn_no hno) (hk := ?_)); try refine SD ?_) | refine RC ?_ | refine RU ?_ | refine WC_draw_all (id := 4) 31 (Cs [0,1,2,3,4,5,7,8,9,10,11,12,14,15,16,17,18,19,21,22,23,24,25,26] <| .must 6 <| .must 13 <| .must 20 <| .must 27 <| .calm 28 <| .must 29 <| .calm 30 <| .done) mixed (by kernel_rfl) ?_ | refine WC_draw_all (id := 5) 24 (Cs [0,1,2,3,4,5,6,7,8,9,10,11,12,13,14,15,16,17,18,19,20,21,22,23] <| .done) mixed (by kernel_rfl) ?_ | refine WG 7 ?_ | refine WG 9 ?_)
    rw [w]
    exact ⟨_, _, by omega, ⟨i + 1, rfl, by omega, rfl⟩, ⟨rfl, rfl, rfl, trivial⟩, rfl, .cons _ (.cons _ (.refl _))⟩
  obtain ⟨he, k1, k2⟩ := hok
  obtain ⟨cap, rfl⟩ : ∃ cap : Nat, k = (cap : Nat) := ⟨k.toNat, (Int.toNat_of_nonneg (by omega)).symm⟩
  have hsub : [(x6, Obj.cells #[.int .i64 p, .int .i64 q, .int .i64 (cap : Nat)] 58 (0, 0))].Sublist ((x6, Obj.cells #[.int .i64 p, .int .i64 q, .int .i64 (cap : Nat)] 58 (0, 0)) :: L) := .cons_cons _ (List.nil_sublist _)
  refine WC_draw_sub (id := 4) 31 (Cs [0,1,2,3,4,5,7,8,9,10,11,12,14,15,16,17,18,19,21,22,23,24,25,26] <| .must 6 <| .must 13 <| .must 20 <| .must 27 <| .calm 28 <| .must 29 <| .calm 30 <| .done) mixed (by kernel_rfl) (hsub) ?_
  repeat (first | refine RQr ?_ | (refine RX ?_; (first | refine QW_of (Qt_indexY rfl) ?_ | refine QW_of (Qt_buildA rfl) ?_)) | ((first | refine WL_op rfl ?_ | refine WR_late rfl rfl rfl ?_ | refine WR_op rfl rfl ?_); (first | (refine OE ?_; try intro _) | refine OW_callP rfl (hF := newOutA_no hp hq hno) (hk := ?_) | refine OW_callP rfl (hF := newInA_no hp hq hno) (hk := ?_) | refine OW_callP rfl (hF := rnewOut_no hno) (hk := ?_) | refine OW_callP rfl (hF := rnewIn_no hno) (hk := ?_)); try refine SD ?_) | refine RC ?_ | refine RU ?_ | refine WC_draw_all (id := 4) 31 (Cs [0,1,2,3,4,5,7,8,9,10,11,12,14,15,16,17,18,19,21,22,23,24,25,26] <| .must 6 <| .must 13 <| .must 20 <| .must 27 <| .calm 28 <| .must 29 <| .calm 30 <| .done) mixed (by kernel_rfl) ?_)
  refine WR_op rfl rfl (OW_call rfl (hF := newOutA_fn (by omega) (by omega) hp hq he) (hk := ?_))
  rintro _ _ ⟨ob, SO, rfl, rfl, hO⟩
  refine ⟨sub_mem (by repeat (first | exact .cons_cons _ (List.nil_sublist _) | apply List.Sublist.cons | apply List.sublist_append_of_sublist_right)), ?_⟩
  repeat (first | refine RQr ?_ | (refine RX ?_; (first | refine QW_of (Qt_indexY rfl) ?_ | refine QW_of (Qt_buildA rfl) ?_)) | ((first | refine WL_op rfl ?_ | refine WR_late rfl rfl rfl ?_ | refine WR_op rfl rfl ?_); (first | (refine OE ?_; try intro _) | refine OW_callP rfl (hF := newOutA_no hp hq hno) (hk := ?_) | refine OW_callP rfl (hF := newInA_no hp hq hno) (hk := ?_) | refine OW_callP rfl (hF := rnewOut_no hno) (hk := ?_) | refine OW_callP rfl (hF := rnewIn_no hno) (hk := ?_)); try refine SD ?_) | refine RC ?_ | refine RU ?_ | refine WC_draw_all (id := 4) 31 (Cs [0,1,2,3,4,5,7,8,9,10,11,12,14,15,16,17,18,19,21,22,23,24,25,26] <| .must 6 <| .must 13 <| .must 20 <| .must 27 <| .calm 28 <| .must 29 <| .calm 30 <| .done) mixed (by kernel_rfl) ?_)
  refine WR_op rfl rfl (OW_call rfl (hF := newInA_fn (by omega) (by omega) hp hq he) (hk := ?_))
  rintro _ _ ⟨ib, SI, rfl, rfl, hI⟩
  refine ⟨sub_mem (by repeat (first | exact .cons_cons _ (List.nil_sublist _) | apply List.Sublist.cons | apply List.sublist_append_of_sublist_right)), ?_⟩
  repeat (first | refine RQr ?_ | (refine RX ?_; (first | refine QW_of (Qt_indexY rfl) ?_ | refine QW_of (Qt_buildA rfl) ?_)) | ((first | refine WL_op rfl ?_ | refine WR_late rfl rfl rfl ?_ | refine WR_op rfl rfl ?_); (first | (refine OE ?_; try intro _) | refine OW_callP rfl (hF := newOutA_no hp hq hno) (hk := ?_) | refine OW_callP rfl (hF := newInA_no hp hq hno) (hk := ?_) | refine OW_callP rfl (hF := rnewOut_no hno) (hk := ?_) | refine OW_callP rfl (hF := rnewIn_no hno) (hk := ?_)); try refine SD ?_) | refine RC ?_ | refine RU ?_ | refine WC_draw_all (id := 4) 31 (Cs [0,1,2,3,4,5,7,8,9,10,11,12,14,15,16,17,18,19,21,22,23,24,25,26] <| .must 6 <| .must 13 <| .must 20 <| .must 27 <| .calm 28 <| .must 29 <| .calm 30 <| .done) mixed (by kernel_rfl) ?_)
  refine WR_op rfl rfl (OW_call rfl (hF := rnewOut_fn (by omega) (by omega) he) (hk := ?_))
  rintro _ _ ⟨qo, PO, rfl, rfl, hP⟩
  refine ⟨sub_mem (by repeat (first | exact .cons_cons _ (List.nil_sublist _) | apply List.Sublist.cons | apply List.sublist_append_of_sublist_right)), ?_⟩
  repeat (first | refine RQr ?_ | (refine RX ?_; (first | refine QW_of (Qt_indexY rfl) ?_ | refine QW_of (Qt_buildA rfl) ?_)) | ((first | refine WL_op rfl ?_ | refine WR_late rfl rfl rfl ?_ | refine WR_op rfl rfl ?_); (first | (refine OE ?_; try intro _) | refine OW_callP rfl (hF := newOutA_no hp hq hno) (hk := ?_) | refine OW_callP rfl (hF := newInA_no hp hq hno) (hk := ?_) | refine OW_callP rfl (hF := rnewOut_no hno) (hk := ?_) | refine OW_callP rfl (hF := rnewIn_no hno) (hk := ?_)); try refine SD ?_) | refine RC ?_ | refine RU ?_ | refine WC_draw_all (id := 4) 31 (Cs [0,1,2,3,4,5,7,8,9,10,11,12,14,15,16,17,18,19,21,22,23,24,25,26] <| .must 6 <| .must 13 <| .must 20 <| .must 27 <| .calm 28 <| .must 29 <| .calm 30 <| .done) mixed (by kernel_rfl) ?_)
  refine WR_op rfl rfl (OW_call rfl (hF := rnewIn_fn (by omega) (by omega) he) (hk := ?_))
  rintro _ _ ⟨qi, PI, rfl, rfl, hR⟩
  refine ⟨sub_mem (by repeat (first | exact .cons_cons _ (List.nil_sublist _) | apply List.Sublist.cons | apply List.sublist_append_of_sublist_right)), ?_⟩
  refine RQr ?_
  refine WR_op rfl rfl (OW_box rfl (hk := fun xb => ?_))
  refine ⟨sub_mem (by repeat (first | exact .cons_cons _ (List.nil_sublist _) | apply List.Sublist.cons | apply List.sublist_append_of_sublist_right)), ?_⟩
  repeat (first | refine RQr ?_ | (refine RX ?_; (first | refine QW_of (Qt_indexY rfl) ?_ | refine QW_of (Qt_buildA rfl) ?_)) | (refine OX ?_; (first | (refine OE ?_; try intro _) | refine OW_callP rfl (hF := newOutA_no hp hq hno) (hk := ?_) | refine OW_callP rfl (hF := newInA_no hp hq hno) (hk := ?_) | refine OW_callP rfl (hF := rnewOut_no hno) (hk := ?_) | refine OW_callP rfl (hF := rnewIn_no hno) (hk := ?_)); try refine SD ?_) | refine RC ?_ | refine RU ?_ | refine WC_draw_all (id := 4) 31 (Cs [0,1,2,3,4,5,7,8,9,10,11,12,14,15,16,17,18,19,21,22,23,24,25,26] <| .must 6 <| .must 13 <| .must 20 <| .must 27 <| .calm 28 <| .must 29 <| .calm 30 <| .done) mixed (by kernel_rfl) ?_)
  have hE : Ends p q cap ob ib qo qi SO SI PO PI ((x6, Obj.cells #[.int .i64 p, .int .i64 q, .int .i64 (cap : Nat)] 58 (0, 0)) :: L) ⟨[], 0, cap, [], [], 0, 0⟩ := ⟨hO, hI, hP, hR, (fun _ h => by cases h), trivial⟩
  have hpl := (plays_fn (xb := xb) (by omega) (by omega) he hE (hl.cons _) (hH.cons _)).perm (perm_ends2 _ _ SO SI PO PI L) (fun v L' h => ⟨_, .refl _, h⟩)
  refine WC_permA (perm_ends _ (endsO xb ob ib qo qi) SO SI PO PI L).symm ?_
  repeat (first | refine RQr ?_ | ((first | refine WL_Q ?_ | refine WL_Y ?_ | refine WR_Q rfl ?_ | refine WR_late rfl rfl rfl (OW_Q ?_) | refine WR_Y rfl ?_); (first | refine QW_of (Qt_indexY rfl) ?_ | refine QW_of (Qt_buildA rfl) ?_)) | refine RC ?_ | refine RU ?_ | refine WC_draw_all (id := 5) 24 (Cs [0,1,2,3,4,5,6,7,8,9,10,11,12,13,14,15,16,17,18,19,20,21,22,23] <| .done) mixed (by kernel_rfl) ?_)
  repeat (first | refine RQ ?_ | ((first | refine WL_Q ?_ | refine WL_Y ?_); (first | refine QW_of (Qt_indexY rfl) ?_ | refine QW_of (Qt_buildA rfl) ?_)) | ((first | refine WL_op rfl ?_ | refine WL_yes (h := ?_)); (first | (refine OW_call rfl (hF := hpl) (hk := ?_); rintro _ _ ⟨rfl, rfl⟩))) | refine RC ?_ | refine WG 7 ?_ | refine WG 9 ?_)
  rw [w]
  exact ⟨_, _, by omega, ⟨i + 1, rfl, by omega, rfl⟩, ⟨rfl, rfl, rfl, trivial⟩, rfl, .cons _ (.refl _)⟩
end Go.Proofs.YtdiaogcogkapgaaGreatDoor
namespace Go.Proofs.YtdiaogcogkapgaaGreatDoor
open Go.ChangeShapes Go.WideShapes Go.ChangeAt Go.RowKit
theorem h_et : Tryz.prog.globalNamed "errors.errorType" = some 0 := by kernel_rfl
theorem h_rt : (Tryz.prog.cutTypes.find? (·.1 == "internal/reflectlite.rtype")).map (·.2) = some 257 := by kernel_rfl
theorem h_oneRow : ((List.range 321).filter fun t => Tryz.prog.rowNamed t [101, 114, 114, 111, 114]) = [144] := by kernel_rfl
theorem h_size : Tryz.prog.types.size = 321 := by kernel_rfl
def laidL : List (String × DataW Unit) := [("errors.errorType", Rows.laid_errors_errorType)]
theorem handle_of_laid {W : World} (h : laidMetH Tryz.prog laidL W) : W.cell? ⟨0, 0, none⟩ = some handle := by
  have h' : laidMet Tryz.prog [] W ∧ handlesMet Tryz.prog laidL W := h
  obtain ⟨name, u, ty, e1, e2, e3, e4, e5⟩ := h'.2 _ (List.mem_singleton.2 rfl)
  have en : name = [101, 114, 114, 111, 114] := (Option.some.inj e1).symm
  subst en
  obtain rfl := Option.some.inj (h_rt.symm.trans e2)
  have hm : ty ∈ (List.range 321).filter fun t => Tryz.prog.rowNamed t [101, 114, 114, 111, 114] := List.mem_filter.2 ⟨List.mem_range.2 (by rw [← h_size]; exact e3), e4⟩
  rw [h_oneRow] at hm
  obtain rfl := List.mem_singleton.1 hm
  have hh : typeHandle Tryz.prog 144 = .pointer (some ⟨1, 144, none⟩) := by kernel_rfl
  rw [hh] at e5
  unfold handle
  simpa using World.var?_cell h_et e5 0
noncomputable def laidWorld (os : Os) : World :=
  let w0 := World.holding Tryz.prog os ⟨#[], #[], []⟩
  { w0 with heap := w0.heap.modify 0 fun
      | .cells _ t frozen => .cells #[handle] t frozen
      | o => o }
theorem laidWorld_met (os : Os) (args : Array Value) : laidMetH Tryz.prog laidL ((laidWorld os).forCall (fun _ _ => 0) ⟨#[], args, []⟩).memory :=
  laidMetH_of_parts (laidMet_nil _ _) (by kernel_rfl)
set_option maxRecDepth 100000 in
theorem liftedH {os : Os} {H : Type} {enc : TypeId × Value → H} {f : FuncId} {fn : Func} {s : ChangeSpec} {tb : TypeId} (started : os.Started) (noInit : Tryz.prog.inits.idxOf? f = none) (hfn : Tryz.prog.funcs[f]? = some fn)
    (witness : ∃ (w : World) (tape : Tape) (i : Input), w.os = os ∧ (w.forCall tape i).Shaped Tryz.prog ∧ i.vars = [] ∧ Input.okWide Tryz.prog (w.forCall tape i) .any w.heap.size f i ∧
      ((s.pre enc Tryz.prog fn [] false (w.forCall tape i).memory i.args ∧ laidMetH Tryz.prog laidL (w.forCall tape i).memory) ∧ sizedMet enc Tryz.prog fn (OpenSpec.ofChange s) false (w.forCall tape i).memory i.args) ∧ ({} : Assume).holds Tryz.prog (lone (Frame.enter Tryz.prog f i.args .normal) [] (w.forCall tape i)))
    (hts : (fn.params.toList.all fun t => Tryz.prog.readableRec t && decide (t < Tryz.prog.types.size)) = true) (hv : s.vars = []) (hr : fn.resultTypes = #[tb]) (hb : Tryz.prog.underlying tb = some .bool)
    (hspec : ∀ ds : List (DataW H), ds.length = fn.params.size → s.fn H ds = { results := [.lit (.bool true)], args := ds })
    (h : ∀ (W : World) (base : Nat) (args : Array Value) (ds : List (DataW H)) (ps : List MemPlace), (∀ (j : Nat) t v, fn.params[j]? = some t → args[j]? = some v → Value.okWide Tryz.prog W .any base t v) →
      DataW.TrodAll enc Tryz.prog W 0 (fun _ => true) true fn.params.toList args.toList ds ps → W.noneFrozen ps → (∃ cs E fr, (0, Obj.cells cs E fr) ∈ allL W ∧ cs[0]? = some handle) → Fn Tryz.prog f args.toList (allL W) fun v L' => v = .bool true ∧ L' = allL W) :
    ReturnsInHanded {} Tryz.checked os f .any (fun w args => (s.pre enc Tryz.prog fn [] false w args ∧ laidMetH Tryz.prog laidL w) ∧ sizedMet enc Tryz.prog fn (OpenSpec.ofChange s) false w args) (s.post enc Tryz.prog fn false true false false) := by
  refine returnsInHanded_of_change_and (C := Tryz.checked) (X := fun w _ => laidMetH Tryz.prog laidL w) (fun _ _ _ hh h => h.of_heap hh) ownOf started noInit hfn witness ?_
  intro W base args ds gs before hval hW _ _ hL _
  have hW' := hW
  obtain ⟨p, q, hA, hV, rfl, hfz, _⟩ := hW
  rw [hv] at hV
  obtain ⟨rfl, rfl⟩ := trodVars_none hV
  have hlen : ∀ {ts : List TypeId} {vs : List Value} {ds : List (DataW H)} {ps : List MemPlace}, DataW.TrodAll enc Tryz.prog W 0 (fun _ => true) true ts vs ds ps → ds.length = ts.length := by
    intro ts
    induction ts with
    | nil => intro vs ds ps h; obtain ⟨_, rfl, _⟩ := trodAll_nil h; rfl
    | cons t ts ih => intro vs ds ps h; obtain ⟨v, vs', d, ds', a, b, rfl, rfl, rfl, _, h2⟩ := trodAll_cons h; simp [ih h2]
  have hds := hspec ds (by rw [hlen hA]; simp)
  have hg := handle_of_laid hL
  have hblk : ∃ cs E fr, (0, Obj.cells cs E fr) ∈ allL W ∧ cs[0]? = some handle := by
    unfold World.cell? at hg
    cases hb : W.heap[0]? with
    | none => simp [hb] at hg
    | some o =>
      cases o with
      | cells cs E fr => exact ⟨cs, E, fr, allL_mem_of hb, by simpa [hb] using hg⟩
      | _ => simp [hb] at hg
  refine ((h W base args ds p hval hA (by simpa using hfz) hblk) W W (mem_allL W)).mono fun e W' ⟨v, L', h1, h2, h3, h4⟩ => ?_
  subst h3; subst h4
  exact ⟨_, h1, post_law laidOf hts hv hr hb (by simpa using hds) hW' (below_of_mem h2)⟩
end Go.Proofs.YtdiaogcogkapgaaGreatDoor
