/-
  A part of what the last of these texts needs; by itself it proves no statement.
-/
import Derived.ChangeKeysEq
import Derived.Test.YtncgndcepoicbaaGreatKH27
namespace Go.Proofs.YtncgndcepoicbaaGreat
open Go.RowKit
theorem eqItems_all {P : Program} {e : TypeId} [he : TUnd P e (.int .i64)] [ha : TAgg P e false] {xs ys : Array Value} {f g : Nat → Int} (d : Nat) (w : World) : ∀ (l : List Nat), (∀ i ∈ l, xs[i]? = some (.int .i64 (f i)) ∧ ys[i]? = some (.int .i64 (g i))) → (Op.eqItems (d + 1) e 1 xs ys l).run P w = .ok (l.all fun i => f i == g i) w
  | [], _ => rfl
  | i :: l, h => by
    obtain ⟨h1, h2⟩ := h i (.head _)
    have p0 : (part e xs (i * 1)).run P w = .ok (.int .i64 (f i)) w := part1 (by rw [Nat.mul_one]; exact h1) w
    have q0 : (part e ys (i * 1)).run P w = .ok (.int .i64 (g i)) w := part1 (by rw [Nat.mul_one]; exact h2) w
    have r0 := run_equalIn_int (P := P) w d e .i64 .i64 (f i) (g i) he.h
    have ih := eqItems_all (P := P) (e := e) (xs := xs) (ys := ys) (f := f) (g := g) d w l fun j hj => h j (.tail _ hj)
    simp only [Op.eqItems, Sem.run_bind, p0, q0, r0, Result.andThen_ok]
    cases hfg : (f i == g i)
    · simp [hfg]
    · simp [hfg, ih]
theorem EqI.arr {P : Program} {t e n : Nat} [hu : TUnd P t (.array n e)] [he : TUnd P e (.int .i64)] [ha : TAgg P e false] (hi : ∃ i, P.info? e = some i) (hc : P.cellsOf e = 1) (hg : P.eqGuardType P.depth t = false) : EqI P t n := by
  refine ⟨hg, fun a b la lb w => ?_⟩
  obtain ⟨i, hi⟩ := hi
  rw [run_equalIn_array (P := P) (w := w) 9999 (t := t) (e := e) (n := n) (i := i) _ _ hu.h hi, hc]
  rw [eqItems_all (f := fun i => (a[i]?).getD 0) (g := fun i => (b[i]?).getD 0) 9998 w (List.range n) fun i hi => by
    have hin := List.mem_range.1 hi
    rw [List.getElem?_toArray, List.getElem?_toArray, List.getElem?_map, List.getElem?_map, List.getElem?_eq_getElem (by omega), List.getElem?_eq_getElem (by omega)]
    exact ⟨rfl, rfl⟩]
  congr 1
  rw [Bool.eq_iff_iff, List.all_eq_true, decide_eq_true_iff]
  constructor
  · intro h
    apply List.ext_getElem (by omega)
    intro j h1 h2
    have := h j (List.mem_range.2 (by omega))
    rw [List.getElem?_eq_getElem h1, List.getElem?_eq_getElem h2] at this
    simpa using this
  · rintro rfl j _
    simp
instance : EqIC Tryz.prog 61 8 := ⟨EqI.arr (e := 3) (by obtain ⟨i, _, h, _⟩ := (inferInstance : TRow Tryz.prog 3 _ _ _).h; exact ⟨i, h⟩) (by kernel_rfl) (by kernel_rfl)⟩
section
variable {c : Cx} {s : List (Nat × Value)} {L : List (Nat × Obj)} {o : Oper}
theorem Qt_eqlW {t' : Nat} [he : EqIC c.P 61 8] {x y : Operand} {a b : List Int} (ho : o.op = .binOp .eql 61 x y t') (hx : ev s x = some (.agg (wnC a)) := by exact rfl) (hy : ev s y = some (.agg (wnC b)) := by exact rfl) (ha : a.length = 8 := by first | with_reducible assumption | rfl) (hb : b.length = 8 := by first | with_reducible assumption | rfl) : Qt c s L o (.bool (decide (a = b))) := Qt_eqlI a b ho hx hy rfl rfl ha hb
end
attribute [local irreducible] Fn WC WL WR OW Qt YieldFn QW FnP FnD FnE
end Go.Proofs.YtncgndcepoicbaaGreat
namespace Go.Proofs.YtncgndcepoicbaaGreat
open Go.RowKit
theorem putR_1 {a b c d e f g h x : Int} : putR (wnC [a, b, c, d, e, f, g, h]) (0 * 1) (Value.int .i64 x).cells = wnC [x, b, c, d, e, f, g, h] ∧ putR (wnC [a, b, c, d, e, f, g, h]) (1 * 1) (Value.int .i64 x).cells = wnC [a, x, c, d, e, f, g, h] ∧ putR (wnC [a, b, c, d, e, f, g, h]) (2 * 1) (Value.int .i64 x).cells = wnC [a, b, x, d, e, f, g, h] ∧ putR (wnC [a, b, c, d, e, f, g, h]) (3 * 1) (Value.int .i64 x).cells = wnC [a, b, c, x, e, f, g, h] ∧ putR (wnC [a, b, c, d, e, f, g, h]) (4 * 1) (Value.int .i64 x).cells = wnC [a, b, c, d, x, f, g, h] ∧ putR (wnC [a, b, c, d, e, f, g, h]) (5 * 1) (Value.int .i64 x).cells = wnC [a, b, c, d, e, x, g, h] ∧ putR (wnC [a, b, c, d, e, f, g, h]) (6 * 1) (Value.int .i64 x).cells = wnC [a, b, c, d, e, f, x, h] ∧ putR (wnC [a, b, c, d, e, f, g, h]) (7 * 1) (Value.int .i64 x).cells = wnC [a, b, c, d, e, f, g, x] := ⟨rfl, rfl, rfl, rfl, rfl, rfl, rfl, rfl⟩
theorem fill8 {a b c d e f g h : Int} : FilledA 1 zc61 [(0, .int .i64 a), (1, .int .i64 b), (2, .int .i64 c), (3, .int .i64 d), (4, .int .i64 e), (5, .int .i64 f), (6, .int .i64 g), (7, .int .i64 h)] (wnC [a, b, c, d, e, f, g, h]) := by
  rw [wnC_z8]
  unfold z8
  have hs : ∀ l : List Int, l.length = 8 → ∀ i : Nat, i < 8 → i * 1 + 1 ≤ (wnC l).size := fun l hl i hi => by rw [wnC_size hl]; omega
  simp only [FilledA, putR_1.1, putR_1.2.1, putR_1.2.2.1, putR_1.2.2.2.1, putR_1.2.2.2.2.1, putR_1.2.2.2.2.2.1, putR_1.2.2.2.2.2.2.1, putR_1.2.2.2.2.2.2.2]
  exact ⟨rfl, hs _ rfl 0 (by decide), rfl, hs _ rfl 1 (by decide), rfl, hs _ rfl 2 (by decide), rfl, hs _ rfl 3 (by decide), rfl, hs _ rfl 4 (by decide), rfl, hs _ rfl 5 (by decide), rfl, hs _ rfl 6 (by decide), rfl, hs _ rfl 7 (by decide), trivial⟩
instance : TBuildA Tryz.prog 61 zc61 1 := ⟨fun _ => by kernel_rfl⟩
attribute [local irreducible] Fn WC WL WR OW Qt YieldFn QW FnP FnD FnE
end Go.Proofs.YtncgndcepoicbaaGreat
namespace Go.Proofs.YtncgndcepoicbaaGreat
open Go.RowKit
theorem wnC_get {ls : List Int} {i : Nat} {x : Int} (h : ls[i]? = some x) : (wnC ls)[i * 1]? = some (iV x) := by
  rw [Nat.mul_one, wnC, List.getElem?_toArray, List.getElem?_map, h]; rfl
theorem wnC_len (ls : List Int) : (wnC ls).size = ls.length := by simp [wnC]
theorem b8_at {i : Nat} (h : i < 8) : b8[i]? = some (i : Int) := by
  have h2 : ∀ k : Nat, k < 8 → b8[k]? = some (k : Int) := by decide
  exact h2 i h
theorem mv_set {Q : List Int} {y : Int} (hy : 0 ≤ y ∧ y < 8) : (b8.map fun b => ((Q ++ [y]).count b : Int)) = (b8.map fun b => (Q.count b : Int)).set y.toNat ((Q.count y : Int) + 1) := by
  apply List.ext_getElem?
  intro i
  rw [List.getElem?_set, List.getElem?_map, List.getElem?_map, List.length_map]
  by_cases hi : i < 8
  · rw [b8_at hi]
    by_cases h : y.toNat = i
    · have : y = (i : Int) := by omega
      rw [if_pos h, if_pos (by show y.toNat < 8; omega)]
      subst this
      simp [List.count_append]
    · have hne : ¬ y = (i : Int) := by omega
      rw [if_neg h]
      simp [List.count_append, hne]
  · have hl : b8.length ≤ i := by show 8 ≤ i; omega
    rw [List.getElem?_eq_none hl, if_neg (by omega)]
    rfl
theorem mv_at {Q : List Int} {y : Int} (hy : 0 ≤ y ∧ y < 8) : (b8.map fun b => (Q.count b : Int))[y.toNat]? = some (Q.count y : Int) := by
  rw [List.getElem?_map, b8_at (by omega), show ((y.toNat : Nat) : Int) = y by omega]
  rfl
attribute [local irreducible] Fn WC WL WR OW Qt YieldFn QW FnP FnD FnE wnC
end Go.Proofs.YtncgndcepoicbaaGreat
namespace Go.Proofs.YtncgndcepoicbaaGreat
open Go.RowKit
abbrev hbC (hb : Int → Nat) : Array Value := #[.pointer none, .pointer (some ⟨hb 1, 0, none⟩), .pointer (some ⟨hb 2, 0, none⟩), .pointer (some ⟨hb 3, 0, none⟩)]
theorem hbC_at {hb : Int → Nat} {w : Int} (hw : 1 ≤ w ∧ w ≤ 3) : (hbC hb)[w.toNat * 1]? = some (.pointer (some ⟨hb w, 0, none⟩)) := by
  have : w = 1 ∨ w = 2 ∨ w = 3 := by omega
  rcases this with rfl | rfl | rfl <;> rfl
abbrev wyL (fl : List (PlK × Int)) : List Value := fl.flatMap fun f => [iV f.1.1, iV f.1.2, iV f.2]
theorem wyL_at : ∀ {fl : List (PlK × Int)} {k : Nat} {f : PlK × Int}, fl[k]? = some f → (wyL fl)[k * 3]? = some (iV f.1.1) ∧ (wyL fl)[k * 3 + 1]? = some (iV f.1.2) ∧ (wyL fl)[k * 3 + 2]? = some (iV f.2)
  | [], k, f, h => by simp at h
  | p :: l, 0, f, h => by
    obtain rfl : p = f := by simpa using h
    exact ⟨rfl, rfl, rfl⟩
  | p :: l, k + 1, f, h => by
    obtain ⟨h1, h2, h3⟩ := wyL_at (fl := l) (k := k) (f := f) (by simpa using h)
    have e : ∀ j, j < 3 → (wyL (p :: l))[(k + 1) * 3 + j]? = (wyL l)[k * 3 + j]? := fun j hj => by
      unfold wyL
      rw [List.flatMap_cons, List.getElem?_append_right (by simp; omega)]
      congr 1
      simp
      omega
    exact ⟨by have := e 0 (by decide); rw [Nat.add_zero, Nat.add_zero] at this; rw [this]; exact h1, by rw [e 1 (by decide)]; exact h2, by rw [e 2 (by decide)]; exact h3⟩
theorem plL_at : ∀ {l : List OwnV} {k : Nat} {x : OwnV}, l[k]? = some x → (plL l)[k * 2]? = some (iV x.bin) ∧ (plL l)[k * 2 + 1]? = some (iV x.span)
  | [], k, f, h => by simp at h
  | p :: l, 0, f, h => by
    obtain rfl : p = f := by simpa using h
    exact ⟨rfl, rfl⟩
  | p :: l, k + 1, f, h => by
    obtain ⟨h1, h2⟩ := plL_at (l := l) (k := k) (x := f) (by simpa using h)
    have e : ∀ j, j < 2 → (plL (p :: l))[(k + 1) * 2 + j]? = (plL l)[k * 2 + j]? := fun j hj => by
      unfold plL
      rw [List.flatMap_cons, List.getElem?_append_right (by simp; omega)]
      congr 1
      simp
      omega
    exact ⟨by have := e 0 (by decide); rw [Nat.add_zero, Nat.add_zero] at this; rw [this]; exact h1, by rw [e 1 (by decide)]; exact h2⟩
theorem plL_ext {l : List OwnV} {off k : Nat} {cs : Array Value} {x : OwnV} (hx : ∀ (j : Nat) (v : Value), (plL l)[j]? = some v → cs[off + j]? = some v) (hk : l[k]? = some x) : cs.extract (off + k * 2) (off + k * 2 + 2) = #[.int .i64 x.bin, .int .i64 x.span] ∧ off + k * 2 + 2 ≤ cs.size := by
  obtain ⟨h1, h2⟩ := plL_at hk
  refine ext_of (l := [.int .i64 x.bin, .int .i64 x.span]) rfl (by decide) fun j hj => ?_
  rw [Nat.add_assoc]
  match j, hj with
  | 0, _ => exact hx _ _ h1
  | 1, _ => exact hx _ _ h2
def sngQ (t : TbV) (g : Nat → Nat) (fl : List (PlK × Int)) (k : Nat) : List Int := (List.range k).flatMap fun i : Nat => sngL t g fl ((i : Int) + 1)
theorem sngQ_succ (t : TbV) (g : Nat → Nat) (fl : List (PlK × Int)) (k : Nat) : sngQ t g fl (k + 1) = sngQ t g fl k ++ sngL t g fl ((k : Int) + 1) := by
  unfold sngQ
  rw [List.range_succ, List.flatMap_append]
  simp
theorem sngL_len {t : TbV} {g : Nat → Nat} {fl : List (PlK × Int)} {w : Int} (hT : TbOk t) : (sngL t g fl w).length ≤ 520 := by
  unfold sngL
  have h1 := List.length_filter_le (wngF (chS t g fl w)) (hownL w t 8)
  have h2 := hownL_len (w := w) (t := t) (n := 65) (fun r hr => by have := hT.short r hr; have := hT.few; omega) 8
  rw [List.length_map]
  omega
theorem sngQ_len {t : TbV} {g : Nat → Nat} {fl : List (PlK × Int)} (hT : TbOk t) : ∀ k, (sngQ t g fl k).length ≤ k * 520
  | 0 => by simp [sngQ]
  | k + 1 => by
    rw [sngQ_succ, List.length_append]
    have := sngQ_len (g := g) (fl := fl) hT k
    have := sngL_len (g := g) (fl := fl) (w := (k : Int) + 1) hT
    omega
abbrev cnC (Q : List Int) : Array Value := wnC (b8.map fun b => (Q.count b : Int))
theorem cnC_put {Q : List Int} {y : Int} (hy : 0 ≤ y ∧ y < 8) : (cnC Q).setIfInBounds (y.toNat * 1) (iV ((Q.count y : Int) + 1)) = cnC (Q ++ [y]) := by
  rw [wnC_set, ← mv_set hy]
theorem cnC_get {Q : List Int} {y : Int} (hy : 0 ≤ y ∧ y < 8) : (cnC Q)[y.toNat * 1]? = some (iV (Q.count y)) := wnC_get (mv_at hy)
theorem cnC_len {Q : List Int} {y : Int} (hy : 0 ≤ y ∧ y < 8) : y.toNat * 1 < (cnC Q).size := by
  rw [wnC_len, List.length_map]
  show _ < 8
  omega
theorem perm_hs1 {α : Type} (a b : α) (S F : List α) : (S ++ (a :: b :: F)).Perm (a :: b :: (S ++ F)) := by
  classical
  rw [List.perm_iff_count]
  intro z
  simp only [List.count_append, List.count_cons]
  omega
theorem cnC_zero : cnC [] = zc61 := rfl
theorem perm_hs3 {α : Type} (a b : α) (S Y X F : List α) : (a :: b :: (S ++ ((Y ++ X) ++ F))).Perm (S ++ (Y ++ (a :: b :: (X ++ F)))) := by
  classical
  rw [List.perm_iff_count]
  intro z
  simp only [List.count_append, List.count_cons]
  omega
theorem perm_hs4 {α : Type} (a b : α) (S Z Y X F : List α) : (a :: b :: (S ++ ((Z ++ (Y ++ X)) ++ F))).Perm (S ++ (Z ++ (Y ++ (a :: b :: (X ++ F))))) := by
  classical
  rw [List.perm_iff_count]
  intro z
  simp only [List.count_append, List.count_cons]
  omega
attribute [local irreducible] Fn WC WL WR OW Qt YieldFn QW FnP FnD FnE wnC
set_option maxHeartbeats 8000000 in
theorem single_fn {hb : Int → Nat} {tb : Nat} {Ss : Int → List (Nat × Obj)} {G F : List (Nat × Obj)} {t : TbV} {g : Nat → Nat} {fl : List (PlK × Int)} {wv : Value} (hT : TbOk t) (hIn : TabIn tb F t) (hG : ∀ q ∈ G, q ∈ F) (hH : Hands hb tb Ss G t (chS t g fl)) (hC : Chain t g fl) (h3 : One3 t) (hfl : VecM 3 F wv fl.length (wyL fl)) : Fn Tryz.prog 28 [.agg (hbC hb), wv] (hmS Ss ++ F) (fun v L' => v = .bool true ∧ ∃ Ss' X, L' = hmS Ss' ++ (X ++ F) ∧ Hands hb tb Ss' (X ++ G) t (chS t g fl)) := by
  refine Fn_enter Tryz.func28 rfl Tryz.ntmps28 rfl fun gw => ?_
  have hfl8 : fl.length ≤ 8 := by
    have := left_le hC hT
    have hb : ∀ y ∈ fl.map (fun f => f.1.1), 0 ≤ y ∧ y < ((8 : Nat) : Int) := fun y hy => by
      obtain ⟨f, hf, rfl⟩ := List.mem_map.1 hy
      obtain ⟨b, q, hb, h1, _⟩ := hC.fly f hf
      rw [h1]
      exact ⟨by show (0 : Int) ≤ b; omega, by show (b : Int) < 8; omega⟩
    have := few_len 8 hC.one hb
    rw [List.length_map] at this
    exact this
  have hbz : (hbC hb).size = 4 := rfl
  repeat (first | refine RQ ?_ | (refine WL_Q ?_; (first | refine QW_of (Qt_fieldV rfl) ?_ | refine QW_of (Qt_ldX rfl (hn := by with_reducible assumption)) ?_ | refine QW_of (Qt_buildA rfl (hf := fill8)) ?_ | refine QW_of (Qt_eqlW rfl) ?_)) | (refine RE ?_; try intro _) | refine RC ?_ | refine WG 0 ?_ | refine WG 1 ?_ | refine WG 2 ?_)
  rename_i x2 x5
  refine WC_wk [(6, iV (((0 : Nat) : Int) + 1)), (5, .pointer (some ⟨x5, 0, none⟩)), (2, .pointer (some ⟨x2, 0, none⟩)), (1, wv)] ⟨rfl, rfl, rfl, rfl, trivial⟩ ?_
  refine WC_permT (L' := (x5, Obj.cells (cnC (sngQ t g fl 0)) 61 (0, 0)) :: (x2, Obj.cells (hbC hb) 58 (0, 0)) :: (hmS Ss ++ ([] ++ F))) (by rw [show sngQ t g fl 0 = [] from rfl, cnC_zero]; exact .refl _) ?_
  refine WC_loop (fun q σ => ∃ (k : Nat) (Ss : Int → List (Nat × Obj)) (X : List (Nat × Obj)), q = 3 - k ∧ k ≤ 3 ∧ Hands hb tb Ss (X ++ G) t (chS t g fl) ∧ σ = ⟨[(6, iV ((k : Int) + 1)), (5, .pointer (some ⟨x5, 0, none⟩)), (2, .pointer (some ⟨x2, 0, none⟩)), (1, wv)], [], (x5, Obj.cells (cnC (sngQ t g fl k)) 61 (0, 0)) :: (x2, Obj.cells (hbC hb) 58 (0, 0)) :: (hmS Ss ++ (X ++ F))⟩) 3 ⟨0, Ss, [], rfl, by decide, hH, rfl⟩ ?_
  clear hH
  rintro _ σ ⟨k, Ss, X, rfl, hk, hH, rfl⟩
  by_cases hk3 : k < 3
  · have d1 : decide ((k : Int) + 1 ≤ 3) = true := decide_eq_true (by omega)
    have hw : 1 ≤ (k : Int) + 1 ∧ (k : Int) + 1 ≤ 3 := by omega
    obtain ⟨w, hwe⟩ : ∃ w : Int, w = (k : Int) + 1 := ⟨_, rfl⟩
    rw [← hwe] at d1 hw ⊢
    have ww : IntKind.i64.wrap (w + 1) = ((k + 1 : Nat) : Int) + 1 := by rw [wI64 (by omega) (by omega)]; omega
    have p0 : (0 : Int) ≤ w := by omega
    have p1 : w < ((4 : Nat) : Int) := by omega
    have ghb := hbC_at (hb := hb) hw
    repeat (first | refine RQ ?_ | (refine WL_Q ?_; (first | refine QW_of (Qt_fieldV rfl) ?_ | refine QW_of (Qt_ldX rfl (hn := by with_reducible assumption)) ?_ | refine QW_of (Qt_buildA rfl (hf := fill8)) ?_ | refine QW_of (Qt_eqlW rfl) ?_)) | refine RC ?_ | refine WG 3 ?_ | refine WG 5 ?_)
    have hXF : ∀ q ∈ X ++ G, q ∈ X ++ F := fun q hq => by
      rcases List.mem_append.1 hq with h | h
      · exact List.mem_append_left _ h
      · exact List.mem_append_right _ (hG _ h)
    refine WL_op rfl (OW_permT2 (perm_hs1 ..) (OW_call rfl (hF := gPlaces_fn hT (hIn.mem fun q hq => .tail _ (.tail _ (List.mem_append_right _ hq))) (fun q hq => .tail _ (.tail _ (hXF q hq))) hH hw) (hk := ?_)))
    rintro _ _ ⟨Ss1, X1, rfl, hH1, hv⟩
    refine WL_permT (perm_hs3 ..) ?_
    obtain ⟨Y, hY⟩ : ∃ Y, Y = X1 ++ X := ⟨_, rfl⟩
    have hH1 : Hands hb tb Ss1 (Y ++ G) t (chS t g fl) := by rw [hY, List.append_assoc]; exact hH1
    have hvY := hv.mem (G' := Y) fun q hq => by rw [hY]; exact List.mem_append_left _ hq
    rw [← hY]
    clear hH hXF hv
    obtain ⟨_, av, cv, rfl, hcl, hcm, _⟩ := id hvY
    obtain ⟨l, hl⟩ : ∃ l, l = hownL w t 8 := ⟨_, rfl⟩
    rw [← hl] at hvY ⊢
    have hl520 : l.length ≤ 520 := by
      have := hownL_len (w := w) (t := t) (n := 65) (fun r hr => by have := hT.short r hr; have := hT.few; omega) 8
      rw [hl]
      omega
    repeat (first | refine RQ ?_ | (refine WL_Q ?_; (first | refine QW_of (Qt_fieldV rfl) ?_ | refine QW_of (Qt_ldX rfl (hn := by with_reducible assumption)) ?_ | refine QW_of (Qt_buildA rfl (hf := fill8)) ?_ | refine QW_of (Qt_eqlW rfl) ?_)) | refine RC ?_ | refine WG 5 ?_ | refine WG 6 ?_)
    refine WC_wk [(8, iV ((0 : Nat) : Int)), (7, .slice av l.length cv), (6, iV w), (5, .pointer (some ⟨x5, 0, none⟩)), (2, .pointer (some ⟨x2, 0, none⟩)), (1, wv)] ⟨rfl, by rw [hl]; rfl, rfl, rfl, rfl, rfl, trivial⟩ ?_
    refine WC_loop (fun q σ => ∃ (i : Nat) (Ss : Int → List (Nat × Obj)) (X : List (Nat × Obj)), q = l.length - i ∧ i ≤ l.length ∧ (∀ q ∈ Y, q ∈ X) ∧ Hands hb tb Ss (X ++ G) t (chS t g fl) ∧ σ = ⟨[(8, iV (i : Int)), (7, .slice av l.length cv), (6, iV w), (5, .pointer (some ⟨x5, 0, none⟩)), (2, .pointer (some ⟨x2, 0, none⟩)), (1, wv)], [], (x5, Obj.cells (cnC (sngQ t g fl k ++ ((l.take i).filter (wngF (chS t g fl w))).map OwnV.bin)) 61 (0, 0)) :: (x2, Obj.cells (hbC hb) 58 (0, 0)) :: (hmS Ss ++ (X ++ F))⟩) l.length ⟨0, Ss1, Y, rfl, Nat.zero_le _, fun _ h => h, hH1, by simp⟩ ?_
    clear hH1
    rintro _ σ ⟨i, Ss, X, rfl, hi, hYX, hH, rfl⟩
    have hXF : ∀ q ∈ X ++ G, q ∈ X ++ F := fun q hq => by
      rcases List.mem_append.1 hq with h | h
      · exact List.mem_append_left _ h
      · exact List.mem_append_right _ (hG _ h)
    by_cases hil : i < l.length
    rotate_left
    · have d2 : decide ((i : Int) < ((l.length : Nat) : Int)) = false := decide_eq_false (by omega)
      repeat (first | refine RQ ?_ | (refine WL_Q ?_; (first | refine QW_of (Qt_fieldV rfl) ?_ | refine QW_of (Qt_ldX rfl (hn := by with_reducible assumption)) ?_ | refine QW_of (Qt_buildA rfl (hf := fill8)) ?_ | refine QW_of (Qt_eqlW rfl) ?_)) | refine RC ?_ | refine WG 7 ?_ | refine WG 4 ?_)
      have hq : sngQ t g fl k ++ ((l.take i).filter (wngF (chS t g fl w))).map OwnV.bin = sngQ t g fl (k + 1) := by
        rw [sngQ_succ, ← hwe, List.take_of_length_le (by omega), hl]
        rfl
      rw [ww, hq]
      exact ⟨_, _, by omega, ⟨k + 1, Ss, X, rfl, by omega, hH, rfl⟩, ⟨rfl, rfl, rfl, rfl, trivial⟩, rfl, .refl _⟩
    have d2 : decide ((i : Int) < ((l.length : Nat) : Int)) = true := decide_eq_true (by omega)
    have q0 : (0 : Int) ≤ (i : Int) := by omega
    have q1 : ((i : Nat) : Int) < ((l.length : Nat) : Int) := by omega
    have wi : IntKind.i64.wrap ((i : Int) + 1) = ((i + 1 : Nat) : Int) := by rw [wI64 (by omega) (by omega)]; omega
    obtain ⟨x, hx⟩ : ∃ x, l[i]? = some x := ⟨_, List.getElem?_eq_getElem hil⟩
    have hxo : x ∈ hownL w t 8 := by rw [← hl]; exact List.mem_of_getElem? hx
    obtain ⟨Q, hQ⟩ : ∃ Q, Q = sngQ t g fl k ++ ((l.take i).filter (wngF (chS t g fl w))).map OwnV.bin := ⟨_, rfl⟩
    have hQl : Q.length ≤ 5000 := by
      have h1 := sngQ_len (g := g) (fl := fl) hT k
      have h2 := List.length_filter_le (wngF (chS t g fl w)) (l.take i)
      rw [List.length_take] at h2
      rw [hQ, List.length_append, List.length_map]
      omega
    have hQ1 : sngQ t g fl k ++ ((l.take (i + 1)).filter (wngF (chS t g fl w))).map OwnV.bin = Q ++ if wngF (chS t g fl w) x then [x.bin] else [] := by
      rw [hQ, List.take_add_one, hx, List.filter_append, List.map_append, ← List.append_assoc]
      congr 1
      cases hr : wngF (chS t g fl w) x <;> simp [List.filter, hr]
    rw [← hQ]
    obtain ⟨o2, ho2⟩ : ∃ o2, o2 = (x2, Obj.cells (hbC hb) 58 (0, 0)) := ⟨_, rfl⟩
    obtain ⟨b1, f1, _, c1, E1, fr1, i1, e, _, _, hi1, hx1⟩ := (hvY.mem (G' := o2 :: (X ++ F)) fun q hq => .tail _ (List.mem_append_left _ (hYX q hq))).cell (by omega)
    cases e
    obtain ⟨v1, y1⟩ := plL_ext hx1 hx
    have v1 : c1.extract (f1 + ((i : Nat) : Int).toNat * 2) (f1 + ((i : Nat) : Int).toNat * 2 + 2) = #[.int .i64 x.bin, .int .i64 x.span] := by rw [Int.toNat_natCast]; exact v1
    have y1 : f1 + ((i : Nat) : Int).toNat * 2 + 2 ≤ c1.size := by rw [Int.toNat_natCast]; exact y1
    rw [ho2] at hi1
    repeat (first | refine RQ ?_ | (refine WL_Q ?_; (first | refine QW_of (Qt_fieldV rfl) ?_ | refine QW_of (Qt_ldX rfl (hn := by with_reducible assumption)) ?_ | refine QW_of (Qt_buildA rfl (hf := fill8)) ?_ | refine QW_of (Qt_eqlW rfl) ?_)) | refine RC ?_ | refine WG 7 ?_)
    refine WC_draw_sub (id := 9) 19 (Cs [0,1,2,3,4,5,6] <| .must 7 <| Cs [8,9,10,11,12,13,14,15] <| .must 16 <| Cs [17,18] <| .done) mixed (by kernel_rfl) (.cons _ (.cons_cons _ (List.sublist_append_right (hmS Ss) (X ++ F)))) ?_
    repeat (first | refine RQr ?_ | ((first | refine WL_Q ?_ | refine WL_Y ?_ | refine WR_Q rfl ?_ | refine WR_late rfl rfl rfl (OW_Q ?_) | refine WR_Y rfl ?_); (first | refine QW_of (Qt_fieldV rfl) ?_ | refine QW_of (Qt_ldX rfl (hn := by with_reducible assumption)) ?_ | refine QW_of (Qt_buildA rfl (hf := fill8)) ?_ | refine QW_of (Qt_eqlW rfl) ?_)) | refine RC ?_ | refine RU ?_ | refine WC_draw_all (id := 9) 19 (Cs [0,1,2,3,4,5,6] <| .must 7 <| Cs [8,9,10,11,12,13,14,15] <| .must 16 <| Cs [17,18] <| .done) mixed (by kernel_rfl) ?_)
    rw [v1]
    have hmem : ∀ (S1 : Int → List (Nat × Obj)) (X1 : List (Nat × Obj)), ∀ q ∈ (x2, Obj.cells (hbC hb) 58 (0, 0)) :: (X ++ F), q ∈ hmS S1 ++ (X1 ++ ((x5, Obj.cells (cnC Q) 61 (0, 0)) :: (x2, Obj.cells (hbC hb) 58 (0, 0)) :: (X ++ F))) := fun S1 X1 q hq => List.mem_append_right _ (List.mem_append_right _ (.tail _ hq))
    refine WR_op rfl rfl (OW_permT2 (perm_hs1 ..) (OW_call rfl (hF := gWhole_fn (x := x) hT (hIn.mem fun q hq => .tail _ (.tail _ (List.mem_append_right _ hq))) (fun q hq => .tail _ (.tail _ (hXF q hq))) hH hw hxo) (hk := ?_)))
    rintro _ _ ⟨Ss1, X1, rfl, hH1, rfl⟩
    refine ⟨hmem Ss1 X1, ?_⟩
    have hH1 : Hands hb tb Ss1 ((X1 ++ X) ++ G) t (chS t g fl) := by rw [List.append_assoc]; exact hH1
    obtain ⟨bl1, hb1⟩ : ∃ bl1, (decide (x.span = 0) || (chS t g fl w x.key).1) = bl1 := ⟨_, rfl⟩
    rw [hb1]
    cases bl1
    · have hr : wngF (chS t g fl w) x = false := by unfold wngF; rw [hb1]; rfl
      rw [hr] at hQ1
      simp only [Bool.false_eq_true, if_false, List.append_nil] at hQ1
      refine RQr ?_
      iterate 7 (refine RU ?_)
      refine WR_skN rfl (hL := hmem Ss1 X1) (h := ?_)
      refine RU ?_
      refine RQr ?_
      refine RU ?_
      refine WC_permT (perm_hs3 ..) ?_
      repeat (first | refine RQ ?_ | (refine WL_Q ?_; (first | refine QW_of (Qt_fieldV rfl) ?_ | refine QW_of (Qt_ldX rfl (hn := by with_reducible assumption)) ?_ | refine QW_of (Qt_buildA rfl (hf := fill8)) ?_ | refine QW_of (Qt_eqlW rfl) ?_)) | refine RC ?_ | refine WG 8 ?_)
      rw [wi, ← hQ1]
      exact ⟨_, _, by omega, ⟨i + 1, Ss1, X1 ++ X, rfl, by omega, fun q hq => List.mem_append_right _ (hYX q hq), hH1, rfl⟩, ⟨rfl, rfl, rfl, rfl, rfl, rfl, trivial⟩, rfl, .refl _⟩
    repeat (first | refine RQr ?_ | ((first | refine WL_Q ?_ | refine WL_Y ?_ | refine WR_Q rfl ?_ | refine WR_late rfl rfl rfl (OW_Q ?_) | refine WR_Y rfl ?_); (first | refine QW_of (Qt_fieldV rfl) ?_ | refine QW_of (Qt_ldX rfl (hn := by with_reducible assumption)) ?_ | refine QW_of (Qt_buildA rfl (hf := fill8)) ?_ | refine QW_of (Qt_eqlW rfl) ?_)) | refine RC ?_ | refine RU ?_ | refine WC_draw_all (id := 9) 19 (Cs [0,1,2,3,4,5,6] <| .must 7 <| Cs [8,9,10,11,12,13,14,15] <| .must 16 <| Cs [17,18] <| .done) mixed (by kernel_rfl) ?_)
    rw [v1]
    refine WR_opY rfl (h := OW_call rfl (hF := gGone_fn (x := x) (F := X1 ++ ((x5, Obj.cells (cnC Q) 61 (0, 0)) :: (x2, Obj.cells (hbC hb) 58 (0, 0)) :: (X ++ F))) hT (hIn.mem fun q hq => List.mem_append_right _ (.tail _ (.tail _ (List.mem_append_right _ hq)))) (fun q hq => by
      rcases List.mem_append.1 hq with h | h
      · rcases List.mem_append.1 h with h | h
        · exact List.mem_append_left _ h
        · exact List.mem_append_right _ (.tail _ (.tail _ (List.mem_append_left _ h)))
      · exact List.mem_append_right _ (.tail _ (.tail _ (List.mem_append_right _ (hG _ h))))) hH1 hw hxo) (hk := ?_))
    rintro _ _ ⟨Ss2, X2, rfl, hH2, rfl⟩
    refine ⟨fun q hq => List.mem_append_right _ (List.mem_append_right _ (List.mem_append_right _ (.tail _ hq))), ?_⟩
    have hH2 : Hands hb tb Ss2 ((X2 ++ (X1 ++ X)) ++ G) t (chS t g fl) := by rw [List.append_assoc]; exact hH2
    have hYX2 : ∀ q ∈ Y, q ∈ X2 ++ (X1 ++ X) := fun q hq => List.mem_append_right _ (List.mem_append_right _ (hYX q hq))
    obtain ⟨bl2, hb2⟩ : ∃ bl2, (chS t g fl w x.key).2 = bl2 := ⟨_, rfl⟩
    rw [hb2]
    cases bl2
    rotate_left
    · have hr : wngF (chS t g fl w) x = false := by unfold wngF; rw [hb1, hb2]; rfl
      rw [hr] at hQ1
      simp only [Bool.false_eq_true, if_false, List.append_nil] at hQ1
      repeat (first | refine RQr ?_ | ((first | refine WL_Q ?_ | refine WL_Y ?_ | refine WR_Q rfl ?_ | refine WR_late rfl rfl rfl (OW_Q ?_) | refine WR_Y rfl ?_); (first | refine QW_of (Qt_fieldV rfl) ?_ | refine QW_of (Qt_ldX rfl (hn := by with_reducible assumption)) ?_ | refine QW_of (Qt_buildA rfl (hf := fill8)) ?_ | refine QW_of (Qt_eqlW rfl) ?_)) | refine RC ?_ | refine RU ?_ | refine WC_draw_all (id := 9) 19 (Cs [0,1,2,3,4,5,6] <| .must 7 <| Cs [8,9,10,11,12,13,14,15] <| .must 16 <| Cs [17,18] <| .done) mixed (by kernel_rfl) ?_)
      refine WC_permT (perm_hs4 ..) ?_
      repeat (first | refine RQ ?_ | (refine WL_Q ?_; (first | refine QW_of (Qt_fieldV rfl) ?_ | refine QW_of (Qt_ldX rfl (hn := by with_reducible assumption)) ?_ | refine QW_of (Qt_buildA rfl (hf := fill8)) ?_ | refine QW_of (Qt_eqlW rfl) ?_)) | refine RC ?_ | refine WG 8 ?_)
      rw [wi, ← hQ1]
      exact ⟨_, _, by omega, ⟨i + 1, Ss2, X2 ++ (X1 ++ X), rfl, by omega, hYX2, hH2, rfl⟩, ⟨rfl, rfl, rfl, rfl, rfl, rfl, trivial⟩, rfl, .refl _⟩
    have hr : wngF (chS t g fl w) x = true := by unfold wngF; rw [hb1, hb2]; rfl
    rw [hr] at hQ1
    simp only [if_true] at hQ1
    have hbx : 0 ≤ x.bin ∧ x.bin < 8 := by
      obtain ⟨b, i, q, hb, _, _, rfl⟩ := hownL_mem.1 hxo
      exact ⟨by show (0 : Int) ≤ b; omega, by show (b : Int) < 8; omega⟩
    obtain ⟨r0, r1⟩ := id hbx
    have gq := cnC_get (Q := Q) hbx
    have zq := cnC_len (Q := Q) hbx
    have wq : IntKind.i64.wrap ((Q.count x.bin : Int) + 1) = (Q.count x.bin : Int) + 1 := by
      have := List.count_le_length (a := x.bin) (l := Q)
      rw [wI64 (by omega) (by omega)]
    repeat (first | refine RQr ?_ | ((first | refine WL_Q ?_ | refine WL_Y ?_ | refine WR_Q rfl ?_ | refine WR_late rfl rfl rfl (OW_Q ?_) | refine WR_Y rfl ?_); (first | refine QW_of (Qt_fieldV rfl) ?_ | refine QW_of (Qt_ldX rfl (hn := by with_reducible assumption)) ?_ | refine QW_of (Qt_buildA rfl (hf := fill8)) ?_ | refine QW_of (Qt_eqlW rfl) ?_)) | refine RC ?_ | refine RU ?_ | refine WC_draw_all (id := 9) 19 (Cs [0,1,2,3,4,5,6] <| .must 7 <| Cs [8,9,10,11,12,13,14,15] <| .must 16 <| Cs [17,18] <| .done) mixed (by kernel_rfl) ?_)
    refine WC_permT (perm_hs4 ..) ?_
    obtain ⟨b2, f2, _, c2, E2, fr2, i2, e, _, _, hi2, hx2⟩ := (hvY.mem (G' := (x5, Obj.cells (cnC Q) 61 (0, 0)) :: (x2, Obj.cells (hbC hb) 58 (0, 0)) :: (hmS Ss2 ++ ((X2 ++ (X1 ++ X)) ++ F))) fun q hq => .tail _ (.tail _ (List.mem_append_right _ (List.mem_append_left _ (hYX2 q hq))))).cell (by omega)
    cases e
    have gb : c2[f1 + ((i : Nat) : Int).toNat * 2]? = some (iV x.bin) := by rw [Int.toNat_natCast]; exact hx2 _ _ (plL_at hx).1
    repeat (first | refine RQ ?_ | (refine WL_Q ?_; (first | refine QW_of (Qt_fieldV rfl) ?_ | refine QW_of (Qt_ldX rfl (hn := by with_reducible assumption)) ?_ | refine QW_of (Qt_buildA rfl (hf := fill8)) ?_ | refine QW_of (Qt_eqlW rfl) ?_)) | (refine RE ?_; try intro _) | refine RC ?_ | refine WG 10 ?_ | refine WG 8 ?_)
    rw [wi, wq, cnC_put hbx, ← hQ1]
    exact ⟨_, _, by omega, ⟨i + 1, Ss2, X2 ++ (X1 ++ X), rfl, by omega, hYX2, hH2, rfl⟩, ⟨rfl, rfl, rfl, rfl, rfl, rfl, trivial⟩, rfl, .refl _⟩
  obtain rfl : k = 3 := by omega
  have d1 : decide (((3 : Nat) : Int) + 1 ≤ 3) = false := by decide
  obtain ⟨Q0, hQ0⟩ : ∃ Q0, Q0 = sngQ t g fl 3 := ⟨_, rfl⟩
  have hQ0l : Q0.length ≤ 1560 := by have := sngQ_len (g := g) (fl := fl) hT 3; rw [hQ0]; omega
  obtain ⟨_, av, cv, rfl, hcl, hcm, _⟩ := id hfl
  rw [← hQ0]
  repeat (first | refine RQ ?_ | (refine WL_Q ?_; (first | refine QW_of (Qt_fieldV rfl) ?_ | refine QW_of (Qt_ldX rfl (hn := by with_reducible assumption)) ?_ | refine QW_of (Qt_buildA rfl (hf := fill8)) ?_ | refine QW_of (Qt_eqlW rfl) ?_)) | refine RC ?_ | refine WG 3 ?_ | refine WG 11 ?_)
  refine WC_wk [(9, iV ((0 : Nat) : Int)), (5, .pointer (some ⟨x5, 0, none⟩)), (1, .slice av fl.length cv)] ⟨rfl, rfl, rfl, trivial⟩ ?_
  refine WC_loop (fun q σ => ∃ i : Nat, q = fl.length - i ∧ i ≤ fl.length ∧ σ = ⟨[(9, iV (i : Int)), (5, .pointer (some ⟨x5, 0, none⟩)), (1, .slice av fl.length cv)], [], (x5, Obj.cells (cnC (Q0 ++ (fl.take i).map fun f => f.1.1)) 61 (0, 0)) :: (x2, Obj.cells (hbC hb) 58 (0, 0)) :: (hmS Ss ++ (X ++ F))⟩) fl.length ⟨0, rfl, Nat.zero_le _, by simp⟩ ?_
  rintro _ σ ⟨i, rfl, hi, rfl⟩
  by_cases hil : i < fl.length
  rotate_left
  · have d2 : decide ((i : Int) < ((fl.length : Nat) : Int)) = false := decide_eq_false (by omega)
    rw [List.take_of_length_le (by omega)]
    have hone : cnC (Q0 ++ fl.map fun f => f.1.1) = wnC [1, 1, 1, 1, 1, 1, 1, 1] := by
      unfold cnC
      congr 1
      have h1 : ∀ b ∈ b8, ((Q0 ++ fl.map fun f => f.1.1).count b : Int) = 1 := fun b hb => by
        obtain ⟨q0, q1⟩ := b8_mem.1 hb
        obtain ⟨n, rfl⟩ : ∃ n : Nat, b = n := ⟨b.toNat, by omega⟩
        have := sng_one hC h3 (b := n) (by omega)
        have e : sngQ t g fl 3 = sngL t g fl 1 ++ sngL t g fl 2 ++ sngL t g fl 3 := by
          rw [sngQ_succ, sngQ_succ, sngQ_succ]
          rfl
        rw [hQ0, e, this]
        rfl
      rw [List.map_congr_left h1]
      rfl
    rw [hone]
    have hws : (wnC [1, 1, 1, 1, 1, 1, 1, 1]).size = 8 := wnC_size rfl
    have hwa := wnC_all (want := [1, 1, 1, 1, 1, 1, 1, 1])
    repeat (first | refine RQ ?_ | (refine WL_Q ?_; (first | refine QW_of (Qt_fieldV rfl) ?_ | refine QW_of (Qt_ldX rfl (hn := by with_reducible assumption)) ?_ | refine QW_of (Qt_buildA rfl (hf := fill8)) ?_ | refine QW_of (Qt_eqlW rfl) ?_)) | refine RC ?_ | refine WG 12 ?_ | refine WG 15 ?_)
    exact ⟨rfl, _, _, Res1 rfl (resV_tmp rfl), .cons _ (.cons _ (.refl _)), by simp, Ss, X, rfl, hH⟩
  have d2 : decide ((i : Int) < ((fl.length : Nat) : Int)) = true := decide_eq_true (by omega)
  have q0 : (0 : Int) ≤ (i : Int) := by omega
  have q1 : ((i : Nat) : Int) < ((fl.length : Nat) : Int) := by omega
  have wi : IntKind.i64.wrap ((i : Int) + 1) = ((i + 1 : Nat) : Int) := by rw [wI64 (by omega) (by omega)]; omega
  obtain ⟨f, hf⟩ : ∃ f, fl[i]? = some f := ⟨_, List.getElem?_eq_getElem hil⟩
  obtain ⟨Q, hQ⟩ : ∃ Q, Q = Q0 ++ (fl.take i).map fun f => f.1.1 := ⟨_, rfl⟩
  have hQl : Q.length ≤ 2000 := by rw [hQ, List.length_append, List.length_map, List.length_take]; omega
  have hQ1 : Q0 ++ (fl.take (i + 1)).map (fun f => f.1.1) = Q ++ [f.1.1] := by rw [hQ, List.take_add_one, hf]; simp
  have hbx : 0 ≤ f.1.1 ∧ f.1.1 < 8 := by
    obtain ⟨b, q, hb, e, _⟩ := hC.fly f (List.mem_of_getElem? hf)
    rw [e]
    exact ⟨by show (0 : Int) ≤ b; omega, by show (b : Int) < 8; omega⟩
  obtain ⟨r0, r1⟩ := id hbx
  have gq := cnC_get (Q := Q) hbx
  have zq := cnC_len (Q := Q) hbx
  have wq : IntKind.i64.wrap ((Q.count f.1.1 : Int) + 1) = (Q.count f.1.1 : Int) + 1 := by
    have := List.count_le_length (a := f.1.1) (l := Q)
    rw [wI64 (by omega) (by omega)]
  rw [← hQ]
  obtain ⟨b1, f1, _, c1, E1, fr1, i1, e, _, _, hi1, hx1⟩ := (hfl.mem (G' := (x5, Obj.cells (cnC Q) 61 (0, 0)) :: (x2, Obj.cells (hbC hb) 58 (0, 0)) :: (hmS Ss ++ (X ++ F))) fun q hq => .tail _ (.tail _ (List.mem_append_right _ (List.mem_append_right _ hq)))).cell (by omega)
  cases e
  have gb : c1[f1 + ((i : Nat) : Int).toNat * 3]? = some (iV f.1.1) := by rw [Int.toNat_natCast]; exact hx1 _ _ (wyL_at hf).1
  repeat (first | refine RQ ?_ | (refine WL_Q ?_; (first | refine QW_of (Qt_fieldV rfl) ?_ | refine QW_of (Qt_ldX rfl (hn := by with_reducible assumption)) ?_ | refine QW_of (Qt_buildA rfl (hf := fill8)) ?_ | refine QW_of (Qt_eqlW rfl) ?_)) | (refine RE ?_; try intro _) | refine RC ?_ | refine WG 12 ?_ | refine WG 14 ?_ | refine WG 13 ?_)
  rw [wi, wq, cnC_put hbx, ← hQ1]
  exact ⟨_, _, by omega, ⟨i + 1, rfl, by omega, rfl⟩, ⟨rfl, rfl, rfl, trivial⟩, rfl, .refl _⟩
end Go.Proofs.YtncgndcepoicbaaGreat
