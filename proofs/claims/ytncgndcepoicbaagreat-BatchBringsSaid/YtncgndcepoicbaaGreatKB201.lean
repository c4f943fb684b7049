/-
  A part of what the last of these texts needs; by itself it proves no statement.
-/
import Derived.ChangeKeysEq
import Derived.Test.YtncgndcepoicbaaGreatKB192
namespace Go.Proofs.YtncgndcepoicbaaGreat
open Go.RowKit
def askC (ws : List Int) (any : Bool) (at_ most : Int) : Array Value := (ws.map (Value.int .u8) ++ [.bool any, iV at_, .int .i8 most]).toArray
theorem askC_size {ws : List Int} {any : Bool} {at_ most : Int} (h : ws.length = 8) : (askC ws any at_ most).size = 11 := by simp [askC, h]
theorem askC_all {ws : List Int} {any : Bool} {at_ most : Int} : ((askC ws any at_ most).toList.all fun v => v.oneCell') = true := by
  rw [List.all_eq_true]
  intro v hv
  simp only [askC, List.mem_append, List.mem_map, List.mem_cons, List.not_mem_nil, or_false] at hv
  rcases hv with ⟨x, _, rfl⟩ | rfl | rfl | rfl <;> rfl
theorem askC_at {ws : List Int} {any : Bool} {at_ most : Int} (h : ws.length = 8) {b : Nat} (hb : b < 8) : ∃ x, ws[b]? = some x ∧ (askC ws any at_ most)[((b : Nat) : Int).toNat * 1]? = some (.int .u8 x) := by
  obtain ⟨x, hx⟩ : ∃ x, ws[b]? = some x := ⟨_, List.getElem?_eq_getElem (by omega)⟩
  refine ⟨x, hx, ?_⟩
  rw [Int.toNat_natCast, Nat.mul_one, askC, List.getElem?_toArray, List.getElem?_append_left (by simp; omega), List.getElem?_map, hx]
  rfl
theorem askC_end {ws : List Int} {any : Bool} {at_ most : Int} (h : ws.length = 8) : (askC ws any at_ most)[8]? = some (.bool any) ∧ (askC ws any at_ most)[9]? = some (iV at_) ∧ (askC ws any at_ most)[10]? = some (.int .i8 most) := by
  have e : ∀ j : Nat, (askC ws any at_ most)[8 + j]? = [Value.bool any, iV at_, .int .i8 most][j]? := fun j => by
    rw [askC, List.getElem?_toArray, List.getElem?_append_right (by simp; omega)]
    simp [h]
  exact ⟨e 0, e 1, e 2⟩
attribute [local irreducible] Fn WC WL WR OW Qt YieldFn QW FnP FnD FnE wnC askC
set_option maxHeartbeats 4000000 in
theorem owners_fn {tb : Nat} {t : TbV} {L : List (Nat × Obj)} (h : TabIn tb L t) (hT : TbOk t) : Fn Tryz.prog 34 [.pointer (some ⟨tb, 0, none⟩)] L (fun v L' => v = .agg (wnC (b8.map (hasF t.spans))) ∧ L' = L) := by
  refine Fn_enter Tryz.func34 rfl Tryz.ntmps34 rfl fun g => ?_
  repeat (first | (refine WL_Q ?_; (first | refine QW_a ?_ | refine QW_of (Qt_ldX rfl (hn := by with_reducible assumption)) ?_)) | (refine WL_op rfl ?_; (first | refine OW_alloc rfl (hk := fun _ => ?_))) | refine WL_nil ?_ | refine WC_seq ?_ | refine WC_block ?_ | refine WC_cond_t (ht := ?_) | refine WC_cond_f (he := ?_) | refine WC_skip ?_ | refine WC_ret ?_ | refine WC_exit ?_ | refine WG 0 ?_ | refine WG 1 ?_ | refine WG 2 ?_)
  rename_i x2 x3
  obtain ⟨ol, hol⟩ : ∃ ol, ol = b8.map (hasF t.spans) := ⟨_, rfl⟩
  have hll : ol.length = 8 := by rw [hol]; rfl
  rw [← hol]
  refine WC_permT (L' := (x3, Obj.cells (wnC (ol.take 0 ++ List.replicate (8 - 0) 0)) 61 (0, 0)) :: (x2, Obj.cells zc61 61 (0, 0)) :: L) (by rw [show wnC (ol.take 0 ++ List.replicate (8 - 0) 0) = zc61 from wnC_z8.symm]) ?_
  refine WC_wk [(4, iV ((0 : Nat) : Int)), (3, .pointer (some ⟨x3, 0, none⟩)), (2, .pointer (some ⟨x2, 0, none⟩)), (0, .pointer (some ⟨tb, 0, none⟩))] ⟨rfl, rfl, rfl, rfl, trivial⟩ ?_
  refine WC_loop (fun m σ => ∃ k : Nat, m = 8 - k ∧ k ≤ 8 ∧ σ = ⟨[(4, iV (k : Int)), (3, .pointer (some ⟨x3, 0, none⟩)), (2, .pointer (some ⟨x2, 0, none⟩)), (0, .pointer (some ⟨tb, 0, none⟩))], [], (x3, Obj.cells (wnC (ol.take k ++ List.replicate (8 - k) 0)) 61 (0, 0)) :: (x2, Obj.cells zc61 61 (0, 0)) :: L⟩) 8 ⟨0, rfl, by decide, rfl⟩ ?_
  rintro _ σ ⟨k, rfl, hk, rfl⟩
  by_cases h8 : k < 8
  · have d1 : decide ((k : Int) < 8) = true := decide_eq_true (by omega)
    have p0 : (0 : Int) ≤ (k : Int) := by omega
    have p1 : (k : Int) < 8 := by omega
    have ww : IntKind.i64.wrap ((k : Int) + 1) = ((k + 1 : Nat) : Int) := by rw [wI64 (by omega) (by omega)]; omega
    have how := owner_fn (b := (k : Int)) (now := 1099511627776) (h.mem (L' := (x3, Obj.cells (wnC (ol.take k ++ List.replicate (8 - k) 0)) 61 (0, 0)) :: (x2, Obj.cells zc61 61 (0, 0)) :: L) fun q hq => .tail _ (.tail _ hq)) (fun row hr => by have := hT.short row hr; have := hT.few; omega)
    rw [own_has hT ⟨p0, p1⟩] at how
    have hw : ol[k]? = some (hasF t.spans k) := by
      have h2 : ∀ k : Nat, k < 8 → b8[k]? = some (k : Int) := by decide
      rw [hol, List.getElem?_map, h2 k h8]; rfl
    have hlk : (ol.take k).length = k := by rw [List.length_take]; omega
    have hsz : (wnC (ol.take k ++ List.replicate (8 - k) 0)).size = 8 := wnC_size (by rw [List.length_append, List.length_replicate, hlk]; omega)
    have hb1 : ((k : Nat) : Int).toNat * 1 < (wnC (ol.take k ++ List.replicate (8 - k) 0)).size := by rw [hsz, Int.toNat_natCast]; omega
    repeat (first | (refine WL_Q ?_; (first | refine QW_a ?_ | refine QW_of (Qt_ldX rfl (hn := by with_reducible assumption)) ?_)) | (refine WL_op rfl ?_; (first | refine OW_st1 rfl ?_ | refine OW_callP rfl (hF := how) (hk := ?_))) | refine WL_nil ?_ | refine WC_seq ?_ | refine WC_block ?_ | refine WC_cond_t (ht := ?_) | refine WC_cond_f (he := ?_) | refine WC_skip ?_ | refine WC_ret ?_ | refine WC_exit ?_ | refine WG 3 ?_ | refine WG 5 ?_ | refine WG 4 ?_)
    rw [ww, wnC_set, Int.toNat_natCast, rep_set hlk h8]
    refine ⟨_, _, by omega, ⟨k + 1, rfl, by omega, rfl⟩, ⟨rfl, rfl, rfl, rfl, trivial⟩, rfl, ?_⟩
    rw [List.take_add_one, hw]
    exact .refl _
  · obtain rfl : k = 8 := by omega
    have d1 : decide (((8 : Nat) : Int) < 8) = false := by decide
    rw [List.take_of_length_le (by omega), Nat.sub_self, List.replicate_zero, List.append_nil]
    have hsz : (wnC ol).size = 8 := wnC_size hll
    have hall := wnC_all (want := ol)
    repeat (first | (refine WL_Q ?_; (first | refine QW_a ?_ | refine QW_of (Qt_ldX rfl (hn := by with_reducible assumption)) ?_)) | (refine WL_op rfl ?_; (first | refine OW_stA rfl ?_ | refine OW_stN rfl ?_)) | refine WL_nil ?_ | refine WC_seq ?_ | refine WC_block ?_ | refine WC_cond_t (ht := ?_) | refine WC_cond_f (he := ?_) | refine WC_skip ?_ | refine WC_ret ?_ | refine WC_exit ?_ | refine WG 3 ?_ | refine WG 6 ?_)
    exact ⟨rfl, _, _, Res1 rfl (resV_cellN (n := 8) rfl 1 rfl hsz), .cons _ (.cons _ (.refl _)), rfl, rfl⟩
set_option maxHeartbeats 4000000 in
theorem want_fn {act ws : List Int} {at_ most : Int} {v : Value} {L : List (Nat × Obj)} (hv : VecM 1 L v act.length (act.map iV)) (hne : act ≠ []) (h3 : act.length ≤ 3) (h8 : ws.length = 8) (hws : ∀ x ∈ ws, 0 ≤ x ∧ x < 256) : Fn Tryz.prog 32 [.agg (askC ws false at_ most), v] L (fun r L' => ∃ W, W.length = 8 ∧ (∀ w ∈ W, w ∈ act) ∧ r = .agg (wnC W) ∧ L' = L) := by
  obtain ⟨_, a, cap, rfl, hac, hmx, _⟩ := id hv
  have hsz := askC_size (any := false) (at_ := at_) (most := most) h8
  have hall := askC_all (ws := ws) (any := false) (at_ := at_) (most := most)
  obtain ⟨h80, _, _⟩ := askC_end (any := false) (at_ := at_) (most := most) h8
  have hlp := List.length_pos_iff.2 hne
  refine Fn_enter Tryz.func32 rfl Tryz.ntmps32 rfl fun g => ?_
  repeat (first | (refine WL_Q ?_; (first | refine QW_a ?_ | refine QW_of (Qt_ldX rfl (hn := by with_reducible assumption)) ?_)) | (refine WL_op rfl ?_; (first | refine OW_alloc rfl (hk := fun _ => ?_) | refine OW_box rfl (hk := fun _ => ?_))) | refine WL_nil ?_ | refine WC_seq ?_ | refine WC_block ?_ | refine WC_cond_t (ht := ?_) | refine WC_cond_f (he := ?_) | refine WC_skip ?_ | refine WC_ret ?_ | refine WC_exit ?_ | refine WG 0 ?_ | refine WG 1 ?_ | refine WG 2 ?_)
  rename_i x2 x4 x5
  refine WC_permT (L' := (x5, Obj.cells (wnC (([] : List Int) ++ List.replicate (8 - 0) 0)) 61 (0, 0)) :: (x4, Obj.cells zc61 61 (0, 0)) :: (x2, Obj.cells (askC ws false at_ most) 86 (0, 0)) :: L) (by rw [show wnC (([] : List Int) ++ List.replicate (8 - 0) 0) = zc61 from wnC_z8.symm]) ?_
  refine WC_wk [(6, iV ((0 : Nat) : Int)), (5, .pointer (some ⟨x5, 0, none⟩)), (4, .pointer (some ⟨x4, 0, none⟩)), (2, .pointer (some ⟨x2, 0, none⟩)), (1, .slice a act.length cap)] ⟨rfl, rfl, rfl, rfl, rfl, trivial⟩ ?_
  refine WC_loop (fun m σ => ∃ (k : Nat) (W : List Int), m = 8 - k ∧ k ≤ 8 ∧ W.length = k ∧ (∀ w ∈ W, w ∈ act) ∧ σ = ⟨[(6, iV (k : Int)), (5, .pointer (some ⟨x5, 0, none⟩)), (4, .pointer (some ⟨x4, 0, none⟩)), (2, .pointer (some ⟨x2, 0, none⟩)), (1, .slice a act.length cap)], [], (x5, Obj.cells (wnC (W ++ List.replicate (8 - k) 0)) 61 (0, 0)) :: (x4, Obj.cells zc61 61 (0, 0)) :: (x2, Obj.cells (askC ws false at_ most) 86 (0, 0)) :: L⟩) 8 ⟨0, [], rfl, by decide, rfl, by simp, rfl⟩ ?_
  rintro _ σ ⟨k, W, rfl, hk, hWk, hW, rfl⟩
  by_cases hk8 : k < 8
  rotate_left
  · obtain rfl : k = 8 := by omega
    have d1 : decide (((8 : Nat) : Int) < 8) = false := by decide
    rw [Nat.sub_self, List.replicate_zero, List.append_nil]
    have hsw : (wnC W).size = 8 := wnC_size hWk
    have hallw := wnC_all (want := W)
    repeat (first | (refine WL_Q ?_; (first | refine QW_a ?_ | refine QW_of (Qt_ldX rfl (hn := by with_reducible assumption)) ?_)) | (refine WL_op rfl ?_; (first | refine OW_stA rfl ?_ | refine OW_stN rfl ?_)) | refine WL_nil ?_ | refine WC_seq ?_ | refine WC_block ?_ | refine WC_cond_t (ht := ?_) | refine WC_cond_f (he := ?_) | refine WC_skip ?_ | refine WC_ret ?_ | refine WC_exit ?_ | refine WG 3 ?_ | refine WG 8 ?_)
    exact ⟨rfl, _, _, Res1 rfl (resV_cellN (n := 8) rfl 1 rfl hsw), .cons _ (.cons _ (.cons _ (.refl _))), W, hWk, hW, rfl, rfl⟩
  have d1 : decide ((k : Int) < 8) = true := decide_eq_true (by omega)
  have p0 : (0 : Int) ≤ (k : Int) := by omega
  have p1 : (k : Int) < 8 := by omega
  have ww : IntKind.i64.wrap ((k : Int) + 1) = ((k + 1 : Nat) : Int) := by rw [wI64 (by omega) (by omega)]; omega
  obtain ⟨x, hx, hxc⟩ := askC_at (any := false) (at_ := at_) (most := most) h8 hk8
  have hxr := hws x (List.mem_of_getElem? hx)
  have hlw : (W ++ List.replicate (8 - k) (0 : Int)).length = 8 := by rw [List.length_append, List.length_replicate, hWk]; omega
  have hsw : (wnC (W ++ List.replicate (8 - k) 0)).size = 8 := wnC_size hlw
  have hb1 : ((k : Nat) : Int).toNat * 1 < (wnC (W ++ List.replicate (8 - k) 0)).size := by rw [hsw, Int.toNat_natCast]; omega
  have d2 : decide (((act.length : Nat) : Int) > 0) = true := decide_eq_true (by omega)
  have hn0 : ((act.length : Nat) : Int) ≠ 0 := by omega
  obtain ⟨i, hi, hil⟩ : ∃ i : Nat, (IntKind.i64.wrap x).tmod (act.length : Int) = i ∧ i < act.length := by
    rw [wI64 (by omega) (by omega), Int.tmod_eq_emod_of_nonneg hxr.1]
    have h1 := Int.emod_nonneg x hn0
    have h2 := Int.emod_lt_of_pos x (b := (act.length : Int)) (by omega)
    exact ⟨(x % act.length).toNat, by omega, by omega⟩
  obtain ⟨w, hw⟩ : ∃ w, act[i]? = some w := ⟨_, List.getElem?_eq_getElem hil⟩
  repeat (first | (refine WL_Q ?_; (first | refine QW_a ?_ | refine QW_of (Qt_ldX rfl (hn := by with_reducible assumption)) ?_)) | (refine WL_op rfl ?_; (first | refine OW_st1 rfl ?_)) | refine WL_nil ?_ | refine WC_seq ?_ | refine WC_block ?_ | refine WC_cond_t (ht := ?_) | refine WC_cond_f (he := ?_) | refine WC_skip ?_ | refine WC_ret ?_ | refine WC_exit ?_ | refine WG 3 ?_ | refine WG 5 ?_)
  rw [wnC_set, Int.toNat_natCast]
  obtain ⟨y, hy⟩ : ∃ y, y = IntKind.i64.wrap (x.tmod 5) := ⟨_, rfl⟩
  rw [← hy, rep_set hWk hk8]
  repeat (first | ((first | refine WL_Q ?_ | refine WL_Y ?_); (first | refine QW_a ?_ | refine QW_of (Qt_ldX rfl (hn := by with_reducible assumption)) ?_)) | refine WL_nil ?_ | refine WL_un (h := ?_) | refine WL_N ?_ | refine WL_M ?_ | refine WC_seq ?_ | refine WC_block ?_ | refine WC_cond_t (ht := ?_) | refine WC_cond_f (he := ?_) | refine WC_skip ?_ | refine WC_ret ?_ | refine WC_exit ?_ | refine WG 6 ?_)
  have hlw2 : (W ++ [y] ++ List.replicate (8 - (k + 1)) (0 : Int)).length = 8 := by rw [List.length_append, List.length_append, List.length_replicate, hWk]; simp only [List.length_cons, List.length_nil]; omega
  have hsw2 : (wnC (W ++ [y] ++ List.replicate (8 - (k + 1)) 0)).size = 8 := wnC_size hlw2
  have hb2 : ((k : Nat) : Int).toNat * 1 < (wnC (W ++ [y] ++ List.replicate (8 - (k + 1)) 0)).size := by rw [hsw2, Int.toNat_natCast]; omega
  obtain ⟨ab, aoff, ac, acs, aE, afr, aj, e4, _, _, haj, hax⟩ := (hv.mem (G' := (x5, Obj.cells (wnC (W ++ [y] ++ List.replicate (8 - (k + 1)) 0)) 61 (0, 0)) :: (x4, Obj.cells zc61 61 (0, 0)) :: (x2, Obj.cells (askC ws false at_ most) 86 (0, 0)) :: L) fun q hq => .tail _ (.tail _ (.tail _ hq))).cell (by omega)
  cases e4
  have q0 : (0 : Int) ≤ (IntKind.i64.wrap x).tmod (act.length : Int) := by rw [hi]; omega
  have q1 : (IntKind.i64.wrap x).tmod (act.length : Int) < ((act.length : Nat) : Int) := by rw [hi]; omega
  have hca : acs[aoff + ((IntKind.i64.wrap x).tmod (act.length : Int)).toNat * 1]? = some (iV w) := by rw [hi, Int.toNat_natCast, Nat.mul_one]; exact hax i _ (by rw [List.getElem?_map, hw]; rfl)
  repeat (first | ((first | refine WL_Q ?_ | refine WL_Y ?_); (first | refine QW_a ?_ | refine QW_of (Qt_ldX rfl (hn := by with_reducible assumption)) ?_)) | ((first | refine WL_op rfl ?_ | refine WL_yes (h := ?_)); (first | refine OW_st1 rfl ?_)) | refine WL_nil ?_ | refine WL_un (h := ?_) | refine WL_N ?_ | refine WL_M ?_ | refine WC_seq ?_ | refine WC_block ?_ | refine WC_cond_t (ht := ?_) | refine WC_cond_f (he := ?_) | refine WC_skip ?_ | refine WC_ret ?_ | refine WC_exit ?_ | refine WG 6 ?_ | refine WG 7 ?_ | refine WG 4 ?_)
  rw [ww, wnC_set, Int.toNat_natCast]
  have e : (W ++ [y] ++ List.replicate (8 - (k + 1)) 0).set k w = W ++ [w] ++ List.replicate (8 - (k + 1)) 0 := by
    rw [List.append_assoc, List.append_assoc, ← hWk]
    simp
  rw [e]
  exact ⟨_, _, by omega, ⟨k + 1, W ++ [w], rfl, by omega, by simp [hWk], fun z hz => by
    rcases List.mem_append.1 hz with h | h
    · exact hW z h
    · obtain rfl : z = w := by simpa using h
      exact List.mem_of_getElem? hw, rfl⟩, ⟨rfl, rfl, rfl, rfl, rfl, trivial⟩, rfl, .refl _⟩
end Go.Proofs.YtncgndcepoicbaaGreat
namespace Go.Proofs.YtncgndcepoicbaaGreat
open Go.RowKit
theorem eqItems_all {P : Program} {e : TypeId} [he : TUnd P e (.int .i64)] [ha : TAgg P e false] {xs ys : Array Value} {f g : Nat → Int} (d : Nat) (w : World) : ∀ (l : List Nat), (∀ i ∈ l, xs[i]? = some (.int .i64 (f i)) ∧ ys[i]? = some (.int .i64 (g i))) → (Op.eqItems (d + 1) e 1 xs ys l).run P w = .ok (l.all fun i => f i == g i) w
  | [], _ => rfl
  | i :: l, h => by
    obtain ⟨h1, h2⟩ := h i (.head _)
    have p0 : (part e xs (i * 1)).run P w = .ok (.int .i64 (f i)) w := part1 (by rw [Nat.mul_one]; exact h1) w
    have q0 : (part e ys (i * 1)).run P w = .ok (.int .i64 (g i)) w := part1 (by rw [Nat.mul_one]; exact h2) w
    have r0 := run_equalIn_int (P := P) w d e .i64 .i64 (f i) (g i) he.h
    have ih := eqItems_all (P := P) (e := e) (xs := xs) (ys := ys) (f := f) (g := g) d w l fun j hj => h j (.tail _ hj)
    simp only [Op.eqItems, Sem.run_bind, p0, q0, r0, Result.andThen_ok]
    cases hfg : (f i == g i)
    · simp [hfg]
    · simp [hfg, ih]
theorem EqI.arr {P : Program} {t e n : Nat} [hu : TUnd P t (.array n e)] [he : TUnd P e (.int .i64)] [ha : TAgg P e false] (hi : ∃ i, P.info? e = some i) (hc : P.cellsOf e = 1) (hg : P.eqGuardType P.depth t = false) : EqI P t n := by
  refine ⟨hg, fun a b la lb w => ?_⟩
  obtain ⟨i, hi⟩ := hi
  rw [run_equalIn_array (P := P) (w := w) 9999 (t := t) (e := e) (n := n) (i := i) _ _ hu.h hi, hc]
  rw [eqItems_all (f := fun i => (a[i]?).getD 0) (g := fun i => (b[i]?).getD 0) 9998 w (List.range n) fun i hi => by
    have hin := List.mem_range.1 hi
    rw [List.getElem?_toArray, List.getElem?_toArray, List.getElem?_map, List.getElem?_map, List.getElem?_eq_getElem (by omega), List.getElem?_eq_getElem (by omega)]
    exact ⟨rfl, rfl⟩]
  congr 1
  rw [Bool.eq_iff_iff, List.all_eq_true, decide_eq_true_iff]
  constructor
  · intro h
    apply List.ext_getElem (by omega)
    intro j h1 h2
    have := h j (List.mem_range.2 (by omega))
    rw [List.getElem?_eq_getElem h1, List.getElem?_eq_getElem h2] at this
    simpa using this
  · rintro rfl j _
    simp
instance : EqIC Tryz.prog 61 8 := ⟨EqI.arr (e := 3) (by obtain ⟨i, _, h, _⟩ := (inferInstance : TRow Tryz.prog 3 _ _ _).h; exact ⟨i, h⟩) (by kernel_rfl) (by kernel_rfl)⟩
section
variable {c : Cx} {s : List (Nat × Value)} {L : List (Nat × Obj)} {o : Oper}
theorem Qt_eqlW {t' : Nat} [he : EqIC c.P 61 8] {x y : Operand} {a b : List Int} (ho : o.op = .binOp .eql 61 x y t') (hx : ev s x = some (.agg (wnC a)) := by exact rfl) (hy : ev s y = some (.agg (wnC b)) := by exact rfl) (ha : a.length = 8 := by first | with_reducible assumption | rfl) (hb : b.length = 8 := by first | with_reducible assumption | rfl) : Qt c s L o (.bool (decide (a = b))) := Qt_eqlI a b ho hx hy rfl rfl ha hb
end
attribute [local irreducible] Fn WC WL WR OW Qt YieldFn QW FnP FnD FnE
set_option maxHeartbeats 4000000 in
theorem same_fn {l : List CmV} {v u : Value} {lc le : List (List Value)} {L : List (Nat × Obj)} (hv : VecM 10 L v l.length lc.flatten) (hc : CmsAt L lc l) (hu : VecM 10 L u l.length le.flatten) (he : CmsAt L le l) : Fn Tryz.prog 90 [v, u] L (fun r L' => r = .bool true ∧ L' = L) := by
  obtain ⟨_, a1, c1, rfl, _, hm1, _⟩ := id hv
  obtain ⟨_, a2, c2, rfl, _, hm2, _⟩ := id hu
  refine Fn_enter Tryz.func90 rfl Tryz.ntmps90 rfl fun g => ?_
  have n0 : (((l.length : Nat) : Int) != ((l.length : Nat) : Int)) = false := bne_self_eq_false _
  repeat (first | (refine WL_Q ?_; (first | refine QW_a ?_ | refine QW_of (Qt_ldX rfl (hn := by with_reducible assumption)) ?_ | refine QW_of (Qt_neqOp rfl) ?_)) | refine WL_nil ?_ | refine WC_seq ?_ | refine WC_block ?_ | refine WC_cond_t (ht := ?_) | refine WC_cond_f (he := ?_) | refine WC_skip ?_ | refine WC_ret ?_ | refine WC_exit ?_ | refine WG 0 ?_ | refine WG 1 ?_ | refine WG 3 ?_)
  refine WC_wk [(5, iV ((0 : Nat) : Int)), (0, .slice a1 l.length c1), (1, .slice a2 l.length c2)] ⟨rfl, rfl, rfl, trivial⟩ ?_
  refine WC_loop (fun m σ => ∃ k : Nat, m = l.length - k ∧ k ≤ l.length ∧ σ = ⟨[(5, iV (k : Int)), (0, .slice a1 l.length c1), (1, .slice a2 l.length c2)], [], L⟩) l.length ⟨0, rfl, Nat.zero_le _, rfl⟩ ?_
  rintro _ σ ⟨k, rfl, hk, rfl⟩
  by_cases hlt : k < l.length
  rotate_left
  · have d1 : decide ((k : Int) < ((l.length : Nat) : Int)) = false := decide_eq_false (by omega)
    repeat (first | (refine WL_Q ?_; (first | refine QW_a ?_ | refine QW_of (Qt_ldX rfl (hn := by with_reducible assumption)) ?_ | refine QW_of (Qt_neqOp rfl) ?_)) | refine WL_nil ?_ | refine WC_seq ?_ | refine WC_block ?_ | refine WC_cond_t (ht := ?_) | refine WC_cond_f (he := ?_) | refine WC_skip ?_ | refine WC_ret ?_ | refine WC_exit ?_ | refine WG 4 ?_ | refine WG 14 ?_)
    exact ⟨rfl, _, _, Res1 rfl (resV_tmp rfl), .refl _, rfl, rfl⟩
  have d1 : decide ((k : Int) < ((l.length : Nat) : Int)) = true := decide_eq_true (by omega)
  have p0 : (0 : Int) ≤ (k : Int) := by omega
  have p1 : ((k : Nat) : Int) < ((l.length : Nat) : Int) := by omega
  have ww : IntKind.i64.wrap ((k : Int) + 1) = ((k + 1 : Nat) : Int) := by rw [wI64 (by omega) (by simp only [maxLen] at hm1; omega)]; omega
  obtain ⟨x, hx⟩ : ∃ x, l[k]? = some x := ⟨_, List.getElem?_eq_getElem hlt⟩
  obtain ⟨b1, o1, _, cs1, E1, fr1, i1, e, _, _, hi1, hx1⟩ := hv.cell (by omega)
  cases e
  obtain ⟨b2, o2, _, cs2, E2, fr2, i2, e, _, _, hi2, hx2⟩ := hu.cell (by omega)
  cases e
  obtain ⟨bv, hcv, ex1, ez1⟩ := VecM.cmd hx1 hc hx
  obtain ⟨bw, hcw, ex2, ez2⟩ := VecM.cmd hx2 he hx
  have y1 : o1 + ((k : Nat) : Int).toNat * 10 + 10 ≤ cs1.size := by rw [Int.toNat_natCast]; exact ez1
  have v1 : cs1.extract (o1 + ((k : Nat) : Int).toNat * 10) (o1 + ((k : Nat) : Int).toNat * 10 + 10) = (cmC x bv).toArray := by rw [Int.toNat_natCast]; exact ex1
  have y2 : o2 + ((k : Nat) : Int).toNat * 10 + 10 ≤ cs2.size := by rw [Int.toNat_natCast]; exact ez2
  have v2 : cs2.extract (o2 + ((k : Nat) : Int).toNat * 10) (o2 + ((k : Nat) : Int).toNat * 10 + 10) = (cmC x bw).toArray := by rw [Int.toNat_natCast]; exact ex2
  have hz1 : (cmC x bv).toArray.size = 10 := rfl
  have hz2 : (cmC x bw).toArray.size = 10 := rfl
  have ha1 := hcv.all
  have ha2 := hcw.all
  repeat (first | (refine WL_Q ?_; (first | refine QW_a ?_ | refine QW_of (Qt_ldX rfl (hn := by with_reducible assumption)) ?_ | refine QW_of (Qt_neqOp rfl) ?_)) | refine WL_nil ?_ | refine WC_seq ?_ | refine WC_block ?_ | refine WC_cond_t (ht := ?_) | refine WC_cond_f (he := ?_) | refine WC_skip ?_ | refine WC_ret ?_ | refine WC_exit ?_ | refine WG 4 ?_)
  refine WC_meet (fun σ => ∃ x6 x7 L6, (L6 = (x6, Obj.cells (cmC x bv).toArray 42 (0, 0)) :: (x7, Obj.cells (cmC x bw).toArray 42 (0, 0)) :: L ∨ L6 = (x7, Obj.cells (cmC x bw).toArray 42 (0, 0)) :: (x6, Obj.cells (cmC x bv).toArray 42 (0, 0)) :: L) ∧ σ = ⟨[(7, .pointer (some ⟨x7, 0, none⟩)), (6, .pointer (some ⟨x6, 0, none⟩)), (5, iV (k : Int)), (0, .slice (some ⟨b1, o1, none⟩) l.length c1), (1, .slice (some ⟨b2, o2, none⟩) l.length c2)], [], L6⟩) ?_ ?_
  · repeat' (first | (refine RX ?_; (first | refine QW_a ?_ | refine QW_of (Qt_ldX rfl (hn := by with_reducible assumption)) ?_ | refine QW_of (Qt_neqOp rfl) ?_)) | ((first | refine WL_op rfl ?_ | refine WR_late rfl rfl rfl ?_ | refine WR_op rfl rfl ?_); (first | refine OW_alloc rfl (hk := fun _ => ?_) | refine OW_stA rfl ?_ | refine OW_stN rfl ?_); try refine ⟨(by first | exact fun _ h => h | exact sub_mem (by repeat (first | exact .refl _ | exact List.nil_sublist _ | exact List.sublist_append_right _ _ | exact List.Sublist.append (.refl _) (List.sublist_append_right _ _) | apply List.Sublist.cons_cons | apply List.Sublist.cons))), ?_⟩) | refine WL_nil ?_ | refine WR_nil ?_ | refine WC_seq ?_ | refine WC_block ?_ | refine WC_cond_t (ht := ?_) | refine WC_cond_f (he := ?_) | refine WC_skip ?_ | refine WC_ret ?_ | refine WC_exit ?_ | refine WC_draw_all (id := 6) 12 (Cs [0,1,2,3,4,5,6,7] <| .either 8 (.must 9 <| .must 10 <| .must 11 <| .done) 9 (.must 8 <| .must 10 <| .must 11 <| .done)) mixed (by kernel_rfl) ?_ | refine WR_either ?_ ?_)
    all_goals rw [v1, v2]
    all_goals (repeat' (first | (refine RX ?_; (first | refine QW_a ?_ | refine QW_of (Qt_ldX rfl (hn := by with_reducible assumption)) ?_ | refine QW_of (Qt_neqOp rfl) ?_)) | ((first | refine WL_op rfl ?_ | refine WR_late rfl rfl rfl ?_ | refine WR_op rfl rfl ?_); (first | refine OW_alloc rfl (hk := fun _ => ?_) | refine OW_stA rfl ?_ | refine OW_stN rfl ?_); try refine ⟨(by first | exact fun _ h => h | exact sub_mem (by repeat (first | exact .refl _ | exact List.nil_sublist _ | exact List.sublist_append_right _ _ | exact List.Sublist.append (.refl _) (List.sublist_append_right _ _) | apply List.Sublist.cons_cons | apply List.Sublist.cons))), ?_⟩) | refine WL_nil ?_ | refine WR_nil ?_ | refine WC_seq ?_ | refine WC_block ?_ | refine WC_cond_t (ht := ?_) | refine WC_cond_f (he := ?_) | refine WC_skip ?_ | refine WC_ret ?_ | refine WC_exit ?_ | refine WC_draw_all (id := 6) 12 (Cs [0,1,2,3,4,5,6,7] <| .either 8 (.must 9 <| .must 10 <| .must 11 <| .done) 9 (.must 8 <| .must 10 <| .must 11 <| .done)) mixed (by kernel_rfl) ?_ | refine WR_either ?_ ?_))
    all_goals (refine ⟨_, ⟨_, _, _, ?_, rfl⟩, ⟨rfl, rfl, rfl, rfl, rfl, trivial⟩, rfl, .refl _⟩; first | exact .inl rfl | exact .inr rfl)
  rintro _ ⟨x6, x7, L6, hL, rfl⟩
  refine WC_permT (L' := (x6, Obj.cells (cmC x bv).toArray 42 (0, 0)) :: (x7, Obj.cells (cmC x bw).toArray 42 (0, 0)) :: L) (by rcases hL with h | h <;> rw [h]; exact .swap ..) ?_
  clear hL hi1 hi2
  obtain ⟨bv', ebv, hV, _⟩ := id hcv
  obtain rfl : bv = bv' := by simpa [cmC] using ebv
  obtain ⟨bw', ebw, hW, _⟩ := id hcw
  obtain rfl : bw = bw' := by simpa [cmC] using ebw
  obtain ⟨_, a3, c3, rfl, _, hm3, _⟩ := id hV
  obtain ⟨_, a4, c4, rfl, _, hm4, _⟩ := id hW
  have f0 : (x.kind != x.kind) = false := bne_self_eq_false _
  have f1 : (x.at_ != x.at_) = false := bne_self_eq_false _
  have f3 : (x.to != x.to) = false := bne_self_eq_false _
  have f4 : (x.node != x.node) = false := bne_self_eq_false _
  have f5 : (!decide ([x.op.1, x.op.2.1, x.op.2.2.1, x.op.2.2.2] = [x.op.1, x.op.2.1, x.op.2.2.1, x.op.2.2.2])) = false := by simp
  have f6 : (x.mode != x.mode) = false := bne_self_eq_false _
  have f2 : (((x.bins.length : Nat) : Int) != ((x.bins.length : Nat) : Int)) = false := bne_self_eq_false _
  repeat (first | ((first | refine WL_Q ?_ | refine WL_Y ?_); (first | refine QW_a ?_ | refine QW_of (Qt_ldX rfl (hn := by with_reducible assumption)) ?_ | refine QW_of (Qt_neqOp rfl) ?_)) | refine WL_nil ?_ | refine WL_un (h := ?_) | refine WL_N ?_ | refine WL_M ?_ | refine WC_seq ?_ | refine WC_block ?_ | refine WC_cond_t (ht := ?_) | refine WC_cond_f (he := ?_) | refine WC_skip ?_ | refine WC_ret ?_ | refine WC_exit ?_ | refine WG 7 ?_ | refine WG 9 ?_)
  refine WC_wk [(8, iV ((0 : Nat) : Int)), (7, .pointer (some ⟨x7, 0, none⟩)), (6, .pointer (some ⟨x6, 0, none⟩)), (5, iV (k : Int)), (0, .slice (some ⟨b1, o1, none⟩) l.length c1), (1, .slice (some ⟨b2, o2, none⟩) l.length c2)] ⟨rfl, rfl, rfl, rfl, rfl, rfl, trivial⟩ ?_
  obtain ⟨M, hM⟩ : ∃ M, M = (x6, Obj.cells (cmC x (.slice a3 x.bins.length c3)).toArray 42 (0, 0)) :: (x7, Obj.cells (cmC x (.slice a4 x.bins.length c4)).toArray 42 (0, 0)) :: L := ⟨_, rfl⟩
  have hLM : L.Sublist M := by rw [hM]; exact .cons _ (.cons _ (.refl _))
  have hi6 : M[0]? = some (x6, Obj.cells (cmC x (.slice a3 x.bins.length c3)).toArray 42 (0, 0)) := by rw [hM]; rfl
  have hi7 : M[1]? = some (x7, Obj.cells (cmC x (.slice a4 x.bins.length c4)).toArray 42 (0, 0)) := by rw [hM]; rfl
  have hVM := hV.mem (G' := M) fun q hq => hLM.mem hq
  have hWM := hW.mem (G' := M) fun q hq => hLM.mem hq
  have g3 : (cmC x (.slice a3 x.bins.length c3)).toArray[0 + 2]? = some (.slice a3 x.bins.length c3) := rfl
  have g4 : (cmC x (.slice a4 x.bins.length c4)).toArray[0 + 2]? = some (.slice a4 x.bins.length c4) := rfl
  have g3' : (cmC x (.slice a3 x.bins.length c3)).toArray[2]? = some (.slice a3 x.bins.length c3) := rfl
  have g4' : (cmC x (.slice a4 x.bins.length c4)).toArray[2]? = some (.slice a4 x.bins.length c4) := rfl
  rw [← hM]
  refine WC_loop (fun m σ => ∃ j : Nat, m = x.bins.length - j ∧ j ≤ x.bins.length ∧ σ = ⟨[(8, iV (j : Int)), (7, .pointer (some ⟨x7, 0, none⟩)), (6, .pointer (some ⟨x6, 0, none⟩)), (5, iV (k : Int)), (0, .slice (some ⟨b1, o1, none⟩) l.length c1), (1, .slice (some ⟨b2, o2, none⟩) l.length c2)], [], M⟩) x.bins.length ⟨0, rfl, Nat.zero_le _, rfl⟩ ?_
  rintro _ σ ⟨j, rfl, hj, rfl⟩
  by_cases hlj : j < x.bins.length
  · have e1 : decide ((j : Int) < ((x.bins.length : Nat) : Int)) = true := decide_eq_true (by omega)
    have j0 : (0 : Int) ≤ (j : Int) := by omega
    have j1 : ((j : Nat) : Int) < ((x.bins.length : Nat) : Int) := by omega
    have wj : IntKind.i64.wrap ((j : Int) + 1) = ((j + 1 : Nat) : Int) := by rw [wI64 (by omega) (by simp only [maxLen] at hm3; omega)]; omega
    obtain ⟨y, hy⟩ : ∃ y, x.bins[j]? = some y := ⟨_, List.getElem?_eq_getElem hlj⟩
    obtain ⟨b3, o3, _, cs3, E3, fr3, i3, e, _, _, hi3, hx3⟩ := hVM.cell (by omega)
    cases e
    obtain ⟨b4, o4, _, cs4, E4, fr4, i4, e, _, _, hi4, hx4⟩ := hWM.cell (by omega)
    cases e
    have hc3 : cs3[o3 + ((j : Nat) : Int).toNat * 1]? = some (iV y) := by rw [Int.toNat_natCast, Nat.mul_one]; exact hx3 j _ (by rw [List.getElem?_map, hy]; rfl)
    have hc4 : cs4[o4 + ((j : Nat) : Int).toNat * 1]? = some (iV y) := by rw [Int.toNat_natCast, Nat.mul_one]; exact hx4 j _ (by rw [List.getElem?_map, hy]; rfl)
    have fy : (y != y) = false := bne_self_eq_false _
    repeat (first | (refine RX ?_; (first | refine QW_a ?_ | refine QW_of (Qt_ldX rfl (hn := by with_reducible assumption)) ?_ | refine QW_of (Qt_neqOp rfl) ?_)) | refine WL_nil ?_ | refine WR_nil ?_ | refine WC_seq ?_ | refine WC_block ?_ | refine WC_cond_t (ht := ?_) | refine WC_cond_f (he := ?_) | refine WC_skip ?_ | refine WC_ret ?_ | refine WC_exit ?_ | refine WC_draw_all (id := 12) 11 (Cs [0,1,2,3,4,5,6,7,8,9,10] <| .done) mixed (by kernel_rfl) ?_ | refine WG 10 ?_ | refine WG 11 ?_)
    rw [wj]
    exact ⟨_, _, by omega, ⟨j + 1, rfl, by omega, rfl⟩, ⟨rfl, rfl, rfl, rfl, rfl, rfl, trivial⟩, rfl, .refl _⟩
  · have e1 : decide ((j : Int) < ((x.bins.length : Nat) : Int)) = false := decide_eq_false (by omega)
    repeat (first | (refine WL_Q ?_; (first | refine QW_a ?_ | refine QW_of (Qt_ldX rfl (hn := by with_reducible assumption)) ?_ | refine QW_of (Qt_neqOp rfl) ?_)) | refine WL_nil ?_ | refine WC_seq ?_ | refine WC_block ?_ | refine WC_cond_t (ht := ?_) | refine WC_cond_f (he := ?_) | refine WC_skip ?_ | refine WC_ret ?_ | refine WC_exit ?_ | refine WG 10 ?_ | refine WG 5 ?_)
    rw [ww]
    exact ⟨_, _, by omega, ⟨k + 1, rfl, by omega, rfl⟩, ⟨rfl, rfl, rfl, trivial⟩, rfl, hLM⟩
end Go.Proofs.YtncgndcepoicbaaGreat
