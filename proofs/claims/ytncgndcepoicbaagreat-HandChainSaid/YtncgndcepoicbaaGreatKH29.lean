/-
  A part of what the last of these texts needs; by itself it proves no statement.
-/
import Derived.Test.YtncgndcepoicbaaGreatKH28
namespace Go.Proofs.YtncgndcepoicbaaGreat
open Go.RowKit
theorem gvL_at : ∀ {l : List OwnV} {k : Nat} {x : OwnV}, l[k]? = some x → ∀ j, j < 4 → (gvL l)[k * 4 + j]? = ([iV x.bin, iV x.span, iV (x.nx.getD (0, 0)).2, iV (x.nx.getD (0, 0)).1] : List Value)[j]?
  | [], k, f, h => by simp at h
  | p :: l, 0, f, h => fun j hj => by
    obtain rfl : p = f := by simpa using h
    unfold gvL
    rw [List.flatMap_cons, Nat.zero_mul, Nat.zero_add, List.getElem?_append_left (by simpa using hj)]
  | p :: l, k + 1, f, h => fun j hj => by
    have ih := gvL_at (l := l) (k := k) (x := f) (by simpa using h) j hj
    rw [← ih]
    unfold gvL
    rw [List.flatMap_cons, List.getElem?_append_right (by simp; omega)]
    congr 1
    simp
    omega
theorem gvL_ext {l : List OwnV} {off k : Nat} {cs : Array Value} {x : OwnV} (hx : ∀ (j : Nat) (v : Value), (gvL l)[j]? = some v → cs[off + j]? = some v) (hk : l[k]? = some x) : cs.extract (off + k * 4) (off + k * 4 + 4) = #[iV x.bin, iV x.span, iV (x.nx.getD (0, 0)).2, iV (x.nx.getD (0, 0)).1] ∧ off + k * 4 + 4 ≤ cs.size := by
  refine ext_of (l := [iV x.bin, iV x.span, iV (x.nx.getD (0, 0)).2, iV (x.nx.getD (0, 0)).1]) rfl (by decide) fun j hj => ?_
  have h1 := gvL_at hk j hj
  have h3 : ([iV x.bin, iV x.span, iV (x.nx.getD (0, 0)).2, iV (x.nx.getD (0, 0)).1] : List Value)[j]? = some (([iV x.bin, iV x.span, iV (x.nx.getD (0, 0)).2, iV (x.nx.getD (0, 0)).1] : List Value)[j]'hj) := List.getElem?_eq_getElem _
  rw [h3] at h1 ⊢
  rw [Nat.add_assoc]
  exact hx _ _ h1
theorem wyL_ext {fl : List (PlK × Int)} {off k : Nat} {cs : Array Value} {f : PlK × Int} (hx : ∀ (j : Nat) (v : Value), (wyL fl)[j]? = some v → cs[off + j]? = some v) (hk : fl[k]? = some f) : cs.extract (off + k * 3) (off + k * 3 + 3) = #[iV f.1.1, iV f.1.2, iV f.2] ∧ off + k * 3 + 3 ≤ cs.size := by
  obtain ⟨h1, h2, h3⟩ := wyL_at hk
  refine ext_of (l := [iV f.1.1, iV f.1.2, iV f.2]) rfl (by decide) fun j hj => ?_
  rw [Nat.add_assoc]
  match j, hj with
  | 0, _ => exact hx _ _ h1
  | 1, _ => exact hx _ _ h2
  | 2, _ => exact hx _ _ h3
theorem wyL_len (fl : List (PlK × Int)) : (wyL fl).length = fl.length * 3 := by
  induction fl with
  | nil => rfl
  | cons p r ih =>
    unfold wyL at ih ⊢
    rw [List.flatMap_cons, List.length_append, ih, List.length_cons]
    simp
    omega
theorem wyL_one (fl : List (PlK × Int)) : ∀ u ∈ wyL fl, u.oneCell' = true := by
  intro u hu
  obtain ⟨f, _, hu⟩ := List.mem_flatMap.1 hu
  simp only [List.mem_cons, List.not_mem_nil, or_false] at hu
  rcases hu with rfl | rfl | rfl <;> rfl
theorem wyL_app (a b : List (PlK × Int)) : wyL (a ++ b) = wyL a ++ wyL b := by unfold wyL; rw [List.flatMap_append]
abbrev BufY (v : Value) (T : List (Nat × Obj)) (fl : List (PlK × Int)) : Prop := Buf 78 3 v T fl.length (wyL fl)
abbrev gvC (g : Nat → Nat) : Array Value := wnC (b8.map fun b => (g b.toNat : Int))
theorem gvC_get {g : Nat → Nat} {b : Nat} (hb : b < 8) : (gvC g)[(b : Int).toNat * 1]? = some (iV (g b : Int)) := by
  rw [Int.toNat_natCast]
  refine wnC_get ?_
  rw [List.getElem?_map, b8_at hb]
  simp
theorem gvC_len {g : Nat → Nat} {b : Nat} (hb : b < 8) : (b : Int).toNat * 1 < (gvC g).size := by
  rw [Int.toNat_natCast, wnC_len, List.length_map]
  show _ < 8
  omega
theorem gvC_put {g : Nat → Nat} {b : Nat} (hb : b < 8) : (gvC g).setIfInBounds ((b : Int).toNat * 1) (iV ((g b : Int) + 1)) = gvC (fun x => if x = b then g b + 1 else g x) := by
  unfold gvC
  rw [wnC_set]
  congr 1
  apply List.ext_getElem?
  intro i
  rw [List.getElem?_set, List.getElem?_map, List.getElem?_map, List.length_map]
  by_cases hi : i < 8
  · rw [b8_at hi]
    by_cases e : (b : Int).toNat = i
    · rw [if_pos e, if_pos (by show _ < 8; omega)]
      have e2 : i = b := by omega
      subst e2
      simp
    · rw [if_neg e]
      have e2 : i ≠ b := by omega
      simp [e2]
  · have hz : b8[i]? = none := List.getElem?_eq_none (by show 8 ≤ i; omega)
    rw [hz, if_neg (by omega)]
    rfl
theorem gvC_zero : gvC (fun _ => 0) = zc61 := rfl
theorem Chain.gave_eq {t : TbV} {g : Nat → Nat} {fl : List (PlK × Int)} (h : Chain t g fl) {b : Nat} {q q' : Int × Int} (hb : b < 8) (hq : (rowT t b)[g b]? = some q) (hq' : (rowT t b)[g b + 1]? = some q') (hno : (b : Int) ∉ fl.map fun f => f.1.1) : (fun v => if v = q.2 then (fun p => if p = ((b : Int), (g b : Int)) then ((chS t g fl q.2 ((b : Int), (g b : Int))).1, true) else chS t g fl q.2 p) else chS t g fl v) = chS t (fun x => if x = b then g b + 1 else g x) (fl ++ [(((b : Int), ((g b + 1 : Nat) : Int)), q'.2)]) := by
  funext v p
  rw [(h.gave hb hq hq' hno).2 v p]
  by_cases hv : v = q.2
  · subst hv
    rw [if_pos rfl]
    by_cases hp : p = ((b : Int), (g b : Int))
    · subst hp
      rw [if_pos rfl, if_pos ⟨rfl, rfl⟩]
    · rw [if_neg hp, if_neg fun h => hp h.2]
  · rw [if_neg hv, if_neg fun h => hv h.1]
theorem Chain.got_eq {t : TbV} {g : Nat → Nat} {fl : List (PlK × Int)} (h : Chain t g fl) {k : Nat} {f : PlK × Int} (hk : fl[k]? = some f) : Chain t g (fl.eraseIdx k) ∧ (fun v => if v = f.2 then (fun p => if p = f.1 then (true, (chS t g fl f.2 f.1).2) else chS t g fl f.2 p) else chS t g fl v) = chS t g (fl.eraseIdx k) := by
  obtain ⟨b, q, hb, rfl, h0, hq⟩ := h.fly f (List.mem_of_getElem? hk)
  obtain ⟨h1, h2⟩ := h.got hk hb hq h0
  refine ⟨h1, ?_⟩
  funext v p
  rw [h2 v p]
  simp only
  by_cases hv : v = q.2
  · subst hv
    rw [if_pos rfl]
    by_cases hp : p = ((b : Int), (g b : Int))
    · subst hp
      rw [if_pos rfl, if_pos ⟨rfl, rfl⟩]
    · rw [if_neg hp, if_neg fun h => hp h.2]
  · rw [if_neg hv, if_neg fun h => hv h.1]
theorem Chain.fly_own {t : TbV} {g : Nat → Nat} {fl : List (PlK × Int)} (h : Chain t g fl) (h3 : One3 t) {f : PlK × Int} (hf : f ∈ fl) : (1 ≤ f.2 ∧ f.2 ≤ 3) ∧ ∃ x, x ∈ hownL f.2 t 8 ∧ x.key = f.1 ∧ x.span ≠ 0 ∧ (chS t g fl f.2 x.key).1 = false := by
  obtain ⟨b, q, hb, rfl, h0, hq⟩ := h.fly f hf
  refine ⟨h3 b q hb (List.mem_of_getElem? hq), _, hownL_mem.2 ⟨b, g b, q, hb, hq, rfl, rfl⟩, rfl, ?_, ?_⟩
  · show (g b : Int) ≠ 0
    omega
  · show (chS t g fl q.2 ((b : Int), (g b : Int))).1 = false
    rw [chS_at hb hq]
    simp only
    apply decide_eq_false
    rintro ⟨_, _, h⟩
    exact h ⟨trivial, List.mem_map.2 ⟨_, hf, rfl⟩⟩
theorem rdy_own {t : TbV} {g : Nat → Nat} {fl : List (PlK × Int)} (hC : Chain t g fl) (hT : TbOk t) (h3 : One3 t) {w f : Int} {x : OwnV} (h : x ∈ rdyL t (chS t g fl w) w f) : ∃ (b : Nat) (q q' : Int × Int), b < 8 ∧ (rowT t b)[g b]? = some q ∧ (rowT t b)[g b + 1]? = some q' ∧ q.2 = w ∧ (b : Int) ∉ (fl.map fun f => f.1.1) ∧ x = ⟨b, g b, q.1, w, some q'⟩ ∧ x ∈ hownL w t 8 ∧ (decide (x.span = 0) || (chS t g fl w x.key).1) = true ∧ (chS t g fl w x.key).2 = false ∧ q'.2 ≠ w ∧ (1 ≤ q'.2 ∧ q'.2 ≤ 3) := by
  have hw := (List.mem_filter.1 h).1
  obtain ⟨b, q, q', hb, hq, hq', rfl, hno, rfl⟩ := rdy_mem hC h
  refine ⟨b, q, q', hb, hq, hq', rfl, hno, rfl, hw, ?_, ?_, ?_, h3 b q' hb (List.mem_of_getElem? hq')⟩
  · show (decide ((g b : Int) = 0) || (chS t g fl q.2 ((b : Int), (g b : Int))).1) = true
    rw [chS_at hb hq]
    simp only [Bool.or_eq_true, decide_eq_true_eq]
    by_cases hz : g b = 0
    · left; omega
    · right; exact ⟨by omega, Nat.le_refl _, fun h => hno h.2⟩
  · show (chS t g fl q.2 ((b : Int), (g b : Int))).2 = false
    rw [chS_at hb hq]
    exact decide_eq_false (by omega)
  · exact ((hT.rowT hb).1.up (g b) q q' hq hq').2.symm
theorem low_end {t : TbV} {g : Nat → Nat} (hC : Chain t g []) (hT : TbOk t) (h3 : One3 t) (hr : ∀ w, 1 ≤ w → w ≤ 3 → rdyL t (chS t g [] w) w (lastF t) = []) : (∀ b, b < 8 → (rowT t b).length = g b + 1) ∧ ∀ w, lowF (chS t g [] w) (hownL w t 8) = 1152921504606846976 := by
  have hl : ∀ b, b < 8 → (rowT t b).length = g b + 1 := fun b hb => by
    obtain ⟨q, hq⟩ : ∃ q, (rowT t b)[g b]? = some q := ⟨_, List.getElem?_eq_getElem (hC.lt b hb)⟩
    obtain ⟨h1, h2⟩ := h3 b q hb (List.mem_of_getElem? hq)
    exact rdy_none hC hT (hr q.2 h1 h2) hb hq rfl (by simp)
  refine ⟨hl, fun w => ?_⟩
  have key : ∀ l : List OwnV, (∀ x ∈ l, x ∈ hownL w t 8) → ∀ a, l.foldl (fun a x => if decide (x.span = 0) || (chS t g [] w x.key).1 then a else if x.at_ < a then x.at_ else a) a = a := by
    intro l
    induction l with
    | nil => intro _ a; rfl
    | cons x r ih =>
      intro hx a
      obtain ⟨b, i, q, hb, hq, rfl, rfl⟩ := hownL_mem.1 (hx x (.head _))
      have hi := (List.getElem?_eq_some_iff.1 hq).1
      have hlb := hl b hb
      have e : (decide ((i : Int) = 0) || (chS t g [] q.2 ((b : Int), (i : Int))).1) = true := by
        rw [chS_at hb hq]
        simp only [Bool.or_eq_true, decide_eq_true_eq]
        by_cases hz : i = 0
        · left; omega
        · right; exact ⟨by omega, by omega, fun h => by simp at h⟩
      rw [List.foldl_cons]
      simp only [OwnV.key] at e ⊢
      rw [e]
      simp only [if_true]
      exact ih (fun y hy => hx y (.tail _ hy)) a
  exact key _ (fun _ h => h) _
end Go.Proofs.YtncgndcepoicbaaGreat
