/-
  A part of what the last of these texts needs; by itself it proves no statement.
-/
import Derived.Test.YtncgndcepoicbaaGreatKH20
namespace Go.Proofs.YtncgndcepoicbaaGreat
open Go.RowKit
attribute [local irreducible] Fn WC WL WR OW Qt YieldFn QW FnP FnD
def IntsAt (xs : Array Value) (o : Nat) (us : List Int) : Prop := ∀ (j : Nat) (u : Int), us[j]? = some u → xs[o + j]? = some (.int .i64 u)
theorem IntsAt.tail {xs : Array Value} {o : Nat} {u : Int} {us : List Int} (h : IntsAt xs o (u :: us)) : IntsAt xs (o + 1) us := fun j v hv => by
  have := h (j + 1) v (by simpa using hv)
  rwa [show o + (j + 1) = o + 1 + j by omega] at this
def EqFi (P : Program) (l : List Field) (o n : Nat) : Prop := ∀ d, 1 ≤ d → ∀ (xs ys : Array Value) (us vs : List Int), us.length = n → vs.length = n → IntsAt xs o us → IntsAt ys o vs → ∀ w, (Op.eqFields d xs ys l).run P w = .ok (decide (us = vs)) w
theorem EqFi.nil {P : Program} {o : Nat} : EqFi P [] o 0 := fun d _ xs ys us vs h1 h2 _ _ w => by
  obtain rfl := List.eq_nil_of_length_eq_zero h1
  obtain rfl := List.eq_nil_of_length_eq_zero h2
  simp [Op.eqFields]
theorem EqFi.cons {P : Program} {f : Field} {l : List Field} {o n : Nat} [hu : TUnd P f.type (.int .i64)] [ha : TAgg P f.type false] (hn : (f.name == "_") = false) (hof : f.offset = o) (h2 : EqFi P l (o + 1) n) : EqFi P (f :: l) o (n + 1) := fun d hd xs ys us vs l1 l2 hx hy w => by
  match us, vs, l1, l2 with
  | u :: us, v :: vs, l1, l2 =>
    have l1 : us.length = n := by simpa using l1
    have l2 : vs.length = n := by simpa using l2
    have q1 := part1 (P := P) (t := f.type) (xs := xs) (off := o) (hx 0 u rfl) w
    have q2 := part1 (P := P) (t := f.type) (xs := ys) (off := o) (hy 0 v rfl) w
    have q4 := h2 d hd xs ys us vs l1 l2 hx.tail hy.tail w
    obtain ⟨e, rfl⟩ : ∃ e, d = e + 1 := ⟨d - 1, by omega⟩
    have q3 := run_equalIn_int (P := P) w e f.type .i64 .i64 u v hu.h
    have hne : ¬ f.name = "_" := by simpa using hn
    rw [← hof] at q1 q2
    simp only [Op.eqFields, hne, ne_eq, not_false_eq_true, if_true, Sem.run_bind, q1, q2, q3, Result.andThen_ok]
    by_cases huv : u = v
    · subst huv
      simpa using q4
    · simp [huv]
def EqI (P : Program) (t n : Nat) : Prop := P.eqGuardType P.depth t = false ∧ ∀ (a b : List Int), a.length = n → b.length = n → ∀ w, (Op.equalIn 10000 t (.agg (a.map (Value.int .i64)).toArray) (.agg (b.map (Value.int .i64)).toArray)).run P w = .ok (decide (a = b)) w
theorem EqI.of {P : Program} {t n : Nat} {fs : Array Field} (ht : P.underlying t = some (.struct fs)) (hp : P.stoodInHeld t = false) (hg : P.eqGuardType P.depth t = false) (hf : EqFi P fs.toList 0 n) : EqI P t n := by
  refine ⟨hg, fun a b ha hb w => ?_⟩
  have ht' : P.underlying t = some (.struct (P.fieldsOf t)) := by rw [ht]; simp [Program.fieldsOf, ht]
  have hfs : P.fieldsOf t = fs := by simp [Program.fieldsOf, ht]
  have hz : ∀ l : List Int, IntsAt (l.map (Value.int .i64)).toArray 0 l := fun l j u hu => by
    rw [Nat.zero_add, List.getElem?_toArray, List.getElem?_map, hu]; rfl
  have q := hf 9999 (by decide) _ _ a b ha hb (hz a) (hz b) w
  rw [run_equalIn_struct w 9999 t _ _ ht' hp, hfs]
  exact q
section
variable {c : Cx} {s : List (Nat × Value)} {L : List (Nat × Obj)} {o : Oper}
class EqIC (P : Program) (t n : Nat) : Prop where
  h : EqI P t n
theorem Qt_eqlI {t t' n : Nat} [he : EqIC c.P t n] {x y : Operand} (a b : List Int) (ho : o.op = .binOp .eql t x y t') {xs ys : Array Value} (hx : ev s x = some (.agg xs) := by exact rfl) (hy : ev s y = some (.agg ys) := by exact rfl) (ea : xs = (a.map (Value.int .i64)).toArray := by exact rfl) (eb : ys = (b.map (Value.int .i64)).toArray := by exact rfl) (ha : a.length = n := by exact rfl) (hb : b.length = n := by exact rfl) : Qt c s L o (.bool (decide (a = b))) := by
  subst ea; subst eb
  exact Qt_of_run (by simp [ho]) (fun ρ hρ w _ => by
    have h1 := run_eqGuard_agg (P := c.P) w .eql t x y (a.map (Value.int .i64)).toArray (b.map (Value.int .i64)).toArray he.h.1
    have h2 := run_eql_struct (P := c.P) w t (a.map (Value.int .i64)).toArray (b.map (Value.int .i64)).toArray
    rw [he.h.2 a b ha hb w] at h2
    simp [execOp, ho, hρ x _ hx, hρ y _ hy, h1, h2, Result.andThen])
theorem Qt_neqI {t t' n : Nat} [he : EqIC c.P t n] {x y : Operand} (a b : List Int) (ho : o.op = .binOp .neq t x y t') {xs ys : Array Value} (hx : ev s x = some (.agg xs) := by exact rfl) (hy : ev s y = some (.agg ys) := by exact rfl) (ea : xs = (a.map (Value.int .i64)).toArray := by exact rfl) (eb : ys = (b.map (Value.int .i64)).toArray := by exact rfl) (ha : a.length = n := by exact rfl) (hb : b.length = n := by exact rfl) : Qt c s L o (.bool (!decide (a = b))) := by
  subst ea; subst eb
  exact Qt_of_run (by simp [ho]) (fun ρ hρ w _ => by
    have h1 := run_eqGuard_agg (P := c.P) w .neq t x y (a.map (Value.int .i64)).toArray (b.map (Value.int .i64)).toArray he.h.1
    have h2 := run_neq_struct (P := c.P) w t (a.map (Value.int .i64)).toArray (b.map (Value.int .i64)).toArray
    rw [he.h.2 a b ha hb w] at h2
    simp [execOp, ho, hρ x _ hx, hρ y _ hy, h1, h2, Result.andThen])
end
end Go.Proofs.YtncgndcepoicbaaGreat
namespace Go.Proofs.YtncgndcepoicbaaGreat
open Go.RowKit
theorem TabAt.mem {tb : Nat} {S G G' : List (Nat × Obj)} {t : TbV} (h : TabAt tb S G t) (hs : ∀ q ∈ G, q ∈ G') : TabAt tb S G' t := by
  obtain ⟨cs, cv, sv, av, nv, rb, lc, Tc, rs, rfl, h1, h2, h3, h4, h5, h6, h7, hmx⟩ := h.h
  exact ⟨⟨cs, cv, sv, av, nv, rb, lc, Tc, rs, rfl, h1, h2, h3.mem hs, h4.mem hs, h5.mem hs, h6.mem hs, h7.mem hs, hmx⟩⟩
attribute [local irreducible] Fn WC WL WR OW Qt YieldFn QW FnP FnD FnE
end Go.Proofs.YtncgndcepoicbaaGreat
namespace Go.Proofs.YtncgndcepoicbaaGreat
open Go.RowKit
def stepF (t : TbV) (c : CmV) (fl : Int) : TbV := if tryF t c fl = 0 then addF t c else t
theorem stepF_ok {t : TbV} {c : CmV} {fl : Int} (h : TbOk t) : TbOk (stepF t c fl) := by
  unfold stepF
  split
  · rename_i h0; exact addF_ok h h0
  · exact h
theorem TbOk.row {t : TbV} (h : TbOk t) {b : Nat} (hb : b < 8) : ∃ row, t.spans[b]? = some row ∧ RowOk t.act (lastF t) row := by
  obtain ⟨row, hr⟩ : ∃ row, t.spans[b]? = some row := ⟨_, List.getElem?_eq_getElem (by rw [h.eight]; exact hb)⟩
  exact ⟨row, hr, h.rows row (List.mem_of_getElem? hr)⟩
attribute [local irreducible] Fn WC WL WR OW Qt YieldFn QW FnP FnD FnE
theorem step_fn {tb : Nat} {t : TbV} {c : CmV} {bv : Value} {floor : Int} {S G F : List (Nat × Obj)} (hT : TbOk t) (h : TabAt tb S G t) (hG : ∀ q ∈ G, q ∈ F) (hb : VecM 1 G bv c.bins.length (c.bins.map iV)) (hr : CmR c) (hB : c.bins.length ≤ 1000) :
    Fn Tryz.prog 17 [.pointer (some ⟨tb, 0, none⟩), .agg (cmC c bv).toArray, iV floor] (S ++ F) (fun v L' => v = iV (tryF t c floor) ∧ ∃ S1 X, L' = S1 ++ (X ++ F) ∧ TabAt tb S1 (X ++ G) (stepF t c floor)) := by
  refine (add_fn h hG hb hr hB (by have := hT.few; omega) (fun row hr => by have := hT.short row hr; have := hT.few; omega) (by have := hT.few3; omega) hT.riseLe hT.rl (fun row hr => by have := hT.rshort row hr; have := hT.few; omega)).mono ?_
  rintro v L' ⟨hv, ⟨h0, hL⟩ | ⟨h0, S', X, hL, hT'⟩⟩
  · exact ⟨hv, S, [], hL, by rw [stepF, if_neg h0]; exact h⟩
  · exact ⟨hv, S', X, hL, by rw [stepF, if_pos h0]; exact hT'⟩
end Go.Proofs.YtncgndcepoicbaaGreat
namespace Go.Proofs.YtncgndcepoicbaaGreat
open Go.RowKit
abbrev PlK := Int × Int
structure OwnV where
  bin : Int
  span : Int
  at_ : Int
  to : Int
  nx : Option (Int × Int)
abbrev OwnV.key (x : OwnV) : PlK := (x.bin, x.span)
def rowT (t : TbV) (b : Nat) : List (Int × Int) := (t.spans[b]?).getD []
theorem rowT_eq {t : TbV} {b : Nat} {row : List (Int × Int)} (h : t.spans[b]? = some row) : rowT t b = row := by unfold rowT; rw [h]; rfl
def ownB (w : Int) (b : Nat) (row : List (Int × Int)) (k : Nat) : List OwnV := (List.range k).filterMap fun i : Nat => (row[i]?).bind fun q => if q.2 = w then some ⟨b, i, q.1, q.2, row[i + 1]?⟩ else none
def hownL (w : Int) (t : TbV) (j : Nat) : List OwnV := (List.range j).flatMap fun b : Nat => ownB w b (rowT t b) (rowT t b).length
theorem ownB_succ {w : Int} {b : Nat} {row : List (Int × Int)} {k : Nat} {q : Int × Int} (h : row[k]? = some q) : ownB w b row (k + 1) = ownB w b row k ++ if q.2 = w then [⟨b, k, q.1, q.2, row[k + 1]?⟩] else [] := by
  unfold ownB
  rw [List.range_succ, List.filterMap_append]
  congr 1
  simp only [List.filterMap_cons, List.filterMap_nil, h, Option.bind_some]
  split <;> simp_all
theorem hownL_succ (w : Int) (t : TbV) (j : Nat) : hownL w t (j + 1) = hownL w t j ++ ownB w j (rowT t j) (rowT t j).length := by
  unfold hownL
  rw [List.range_succ, List.flatMap_append]
  simp
theorem ownB_mem {w : Int} {b k : Nat} {row : List (Int × Int)} {x : OwnV} : x ∈ ownB w b row k ↔ ∃ (i : Nat) (q : Int × Int), i < k ∧ row[i]? = some q ∧ q.2 = w ∧ x = ⟨b, i, q.1, q.2, row[i + 1]?⟩ := by
  unfold ownB
  rw [List.mem_filterMap]
  constructor
  · rintro ⟨i, hi, h⟩
    cases hq : row[i]? with
    | none => rw [hq] at h; cases h
    | some q =>
      rw [hq] at h
      simp only [Option.bind_some] at h
      split at h
      · rename_i hw
        exact ⟨i, q, List.mem_range.1 hi, hq, hw, (Option.some.inj h).symm⟩
      · cases h
  · rintro ⟨i, q, hi, hq, hw, rfl⟩
    refine ⟨i, List.mem_range.2 hi, ?_⟩
    rw [hq]
    simp only [Option.bind_some]
    rw [if_pos hw]
theorem hownL_mem {w : Int} {t : TbV} {j : Nat} {x : OwnV} : x ∈ hownL w t j ↔ ∃ (b i : Nat) (q : Int × Int), b < j ∧ (rowT t b)[i]? = some q ∧ q.2 = w ∧ x = ⟨b, i, q.1, q.2, (rowT t b)[i + 1]?⟩ := by
  unfold hownL
  rw [List.mem_flatMap]
  constructor
  · rintro ⟨b, hb, h⟩
    obtain ⟨i, q, _, h1, h2, h3⟩ := ownB_mem.1 h
    exact ⟨b, i, q, List.mem_range.1 hb, h1, h2, h3⟩
  · rintro ⟨b, i, q, hb, h1, h2, h3⟩
    exact ⟨b, List.mem_range.2 hb, ownB_mem.2 ⟨i, q, (List.getElem?_eq_some_iff.1 h1).1, h1, h2, h3⟩⟩
abbrev plLt (x y : OwnV) : Prop := x.bin < y.bin ∨ (x.bin = y.bin ∧ x.span < y.span)
theorem ownB_rise {w : Int} {b : Nat} {row : List (Int × Int)} : ∀ k, k ≤ row.length → (ownB w b row k).Pairwise plLt
  | 0, _ => .nil
  | k + 1, h => by
    have ih := ownB_rise (w := w) (b := b) (row := row) k (by omega)
    obtain ⟨q, hq⟩ : ∃ q, row[k]? = some q := ⟨_, List.getElem?_eq_getElem (by omega)⟩
    rw [ownB_succ hq, List.pairwise_append]
    refine ⟨ih, by split <;> simp, fun x hx y hy => ?_⟩
    obtain ⟨i, q', hi, _, _, rfl⟩ := ownB_mem.1 hx
    split at hy
    · obtain rfl := List.mem_singleton.1 hy
      exact .inr ⟨rfl, by show (i : Int) < k; omega⟩
    · cases hy
theorem hownL_rise {w : Int} {t : TbV} : ∀ j, (hownL w t j).Pairwise plLt
  | 0 => .nil
  | j + 1 => by
    rw [hownL_succ, List.pairwise_append]
    refine ⟨hownL_rise j, ownB_rise _ (Nat.le_refl _), fun x hx y hy => .inl ?_⟩
    obtain ⟨b, i, q, hb, _, _, rfl⟩ := hownL_mem.1 hx
    obtain ⟨i', q', _, _, _, rfl⟩ := ownB_mem.1 hy
    show (b : Int) < j
    omega
theorem rise_keys {l : List OwnV} (h : l.Pairwise plLt) : (l.map OwnV.key).Nodup := by
  rw [List.Nodup, List.pairwise_map]
  refine h.imp fun {a b} hab e => ?_
  have h1 : a.bin = b.bin := congrArg Prod.fst e
  have h2 : a.span = b.span := congrArg Prod.snd e
  rcases hab with h | ⟨_, h⟩ <;> omega
theorem ownB_len {w : Int} {b : Nat} {row : List (Int × Int)} (k : Nat) : (ownB w b row k).length ≤ k := by
  unfold ownB
  exact Nat.le_trans (List.length_filterMap_le _ _) (by rw [List.length_range]; exact Nat.le_refl _)
theorem hownL_len {w : Int} {t : TbV} {n : Nat} (h : ∀ row ∈ t.spans, row.length ≤ n) : ∀ j, (hownL w t j).length ≤ j * n
  | 0 => by simp [hownL]
  | j + 1 => by
    rw [hownL_succ, List.length_append, Nat.succ_mul]
    have h1 := hownL_len (w := w) h j
    have h2 := ownB_len (w := w) (b := j) (row := rowT t j) (rowT t j).length
    have h3 : (rowT t j).length ≤ n := by
      unfold rowT
      cases hj : t.spans[j]? with
      | none => simp
      | some row => exact h row (List.mem_of_getElem? hj)
    omega
theorem TbOk.rowT {t : TbV} (h : TbOk t) {b : Nat} (hb : b < 8) : RowOk t.act (lastF t) (rowT t b) ∧ t.spans[b]? = some (rowT t b) := by
  obtain ⟨row, h1, h2⟩ := h.row hb
  rw [rowT_eq h1]
  exact ⟨h2, h1⟩
theorem step_rows {t : TbV} (h : TbOk t) {c : CmV} {fl : Int} {b : Nat} (hb : b < 8) : rowT (stepF t c fl) b = rowT t b ∨ ∃ q, rowT (stepF t c fl) b = rowT t b ++ [q] := by
  unfold stepF
  by_cases ha : tryF t c fl = 0
  rotate_left
  · rw [if_neg ha]; exact .inl rfl
  rw [if_pos ha]
  obtain ⟨row, hr, hro⟩ := h.row hb
  have key : (addF t c).spans[b]? = some row ∨ ∃ w, (addF t c).spans[b]? = some (row ++ [(c.at_, w)]) := by
    rcases tryF_kinds ha with ⟨k, b1, b2, b3⟩ | ⟨k, b1, b2, b3⟩ | ⟨k, b1, b2⟩ | ⟨k, b1, b2, b3, b4⟩
    · have e : (addF t c).spans = giveF t.spans c.at_ c.bins [c.to] := by unfold addF; rw [if_pos k]
      obtain ⟨r1, r2⟩ := risF_all b1
      rw [e]
      rcases (giveF_at (at_ := c.at_) (to := [c.to]) (by simp) r1 (sp := t.spans) fun x hx => by have := r2 x hx; have := h.eight; omega).2 b row hr with ⟨_, w, _, q⟩ | ⟨_, q⟩
      · exact .inr ⟨w, q⟩
      · exact .inl q
    · have e : (addF t c).spans = t.spans := by unfold addF; rw [if_neg (by omega), if_pos k]
      rw [e]; exact .inl hr
    · have e : (addF t c).spans = giveF t.spans c.at_ (ofF t.spans c.to) (t.act.filter (fun w => !(w == c.to))) := by unfold addF; rw [if_neg (by omega), if_neg (by omega), if_pos k]
      rw [e]
      by_cases hne : t.act.filter (fun w => !(w == c.to)) = []
      · rw [hne]; unfold giveF; rw [if_pos rfl]; exact .inl hr
      rcases (giveF_at (at_ := c.at_) hne (ofF_rise t.spans c.to) (sp := t.spans) fun x hx => by have := (ofF_mem.1 hx).1; have := h.eight; omega).2 b row hr with ⟨_, w, _, q⟩ | ⟨_, q⟩
      · exact .inr ⟨w, q⟩
      · exact .inl q
    · have e : (addF t c).spans = t.spans := by unfold addF; rw [if_neg (by omega), if_neg (by omega), if_neg (by omega)]
      rw [e]; exact .inl hr
  rw [rowT_eq hr]
  rcases key with hk | ⟨w, hk⟩
  · exact .inl (rowT_eq hk)
  · exact .inr ⟨_, rowT_eq hk⟩
def One3 (t : TbV) : Prop := ∀ (b : Nat) q, b < 8 → q ∈ rowT t b → 1 ≤ q.2 ∧ q.2 ≤ 3
theorem One3.step {t : TbV} (h : TbOk t) (h3 : One3 t) {c : CmV} {fl : Int} : One3 (stepF t c fl) := fun b q hb hq => by
  have h' := stepF_ok (c := c) (fl := fl) h
  rcases step_rows h (c := c) (fl := fl) hb with e | ⟨q', e⟩
  · rw [e] at hq; exact h3 b q hb hq
  · rw [e] at hq
    rcases List.mem_append.1 hq with hq | hq
    · exact h3 b q hb hq
    · obtain rfl := List.mem_singleton.1 hq
      have := h'.one q.2 ((h'.rowT hb).1.own q (by rw [e]; simp))
      have := h'.wk
      omega
def chS (t : TbV) (g : Nat → Nat) (fl : List (PlK × Int)) (w : Int) (p : PlK) : Bool × Bool :=
  if 0 ≤ p.1 ∧ p.1 < 8 ∧ 0 ≤ p.2 ∧ ((rowT t p.1.toNat)[p.2.toNat]?).map Prod.snd = some w then (decide (0 < p.2 ∧ p.2 ≤ g p.1.toNat ∧ ¬ (p.2 = g p.1.toNat ∧ p.1 ∈ fl.map fun f => f.1.1)), decide (p.2 < g p.1.toNat)) else (false, false)
structure Chain (t : TbV) (g : Nat → Nat) (fl : List (PlK × Int)) : Prop where
  lt : ∀ b, b < 8 → g b < (rowT t b).length
  fly : ∀ f ∈ fl, ∃ (b : Nat) (q : Int × Int), b < 8 ∧ f = (((b : Int), (g b : Int)), q.2) ∧ 0 < g b ∧ (rowT t b)[g b]? = some q
  one : (fl.map fun f => f.1.1).Nodup
theorem chS_at {t : TbV} {g : Nat → Nat} {fl : List (PlK × Int)} {b i : Nat} {q : Int × Int} (hb : b < 8) (hq : (rowT t b)[i]? = some q) : chS t g fl q.2 ((b : Int), (i : Int)) = (decide (0 < i ∧ i ≤ g b ∧ ¬ (i = g b ∧ (b : Int) ∈ fl.map fun f => f.1.1)), decide (i < g b)) := by
  unfold chS
  rw [if_pos ⟨Int.natCast_nonneg _, by omega, Int.natCast_nonneg _, by simp only [Int.toNat_natCast]; rw [hq]; rfl⟩]
  simp only [Int.toNat_natCast]
  congr 1
  · apply decide_eq_decide.2
    constructor
    · rintro ⟨h1, h2, h3⟩
      exact ⟨by omega, by omega, fun ⟨h4, h5⟩ => h3 ⟨by omega, h5⟩⟩
    · rintro ⟨h1, h2, h3⟩
      exact ⟨by omega, by omega, fun ⟨h4, h5⟩ => h3 ⟨by omega, h5⟩⟩
  · apply decide_eq_decide.2
    omega
theorem Chain.zero {t : TbV} (h : ∀ b, b < 8 → 0 < (rowT t b).length) : Chain t (fun _ => 0) [] := ⟨h, nofun, .nil⟩
theorem chS_zero {t : TbV} {w : Int} {p : PlK} : chS t (fun _ => 0) [] w p = (false, false) := by
  unfold chS
  split
  · rename_i h
    congr 1
    · exact decide_eq_false (by rintro ⟨h1, h2, _⟩; simp only at h2; omega)
    · exact decide_eq_false (by intro h2; simp only at h2; omega)
  · rfl
theorem Chain.step {t : TbV} {g : Nat → Nat} {fl : List (PlK × Int)} (h : Chain t g fl) (hT : TbOk t) {c : CmV} {f : Int} : Chain (stepF t c f) g fl ∧ chS (stepF t c f) g fl = chS t g fl := by
  have hr := fun b hb => step_rows hT (c := c) (fl := f) (b := b) hb
  have hget : ∀ (b i : Nat) q, b < 8 → (rowT t b)[i]? = some q → (rowT (stepF t c f) b)[i]? = some q := fun b i q hb hq => by
    rcases hr b hb with e | ⟨q', e⟩
    · rw [e]; exact hq
    · rw [e, List.getElem?_append_left (List.getElem?_eq_some_iff.1 hq).1]; exact hq
  refine ⟨⟨fun b hb => ?_, fun f' hf => ?_, h.one⟩, ?_⟩
  · have := h.lt b hb
    rcases hr b hb with e | ⟨q', e⟩
    · rw [e]; exact this
    · rw [e, List.length_append]; omega
  · obtain ⟨b, q, hb, h1, h2, h3⟩ := h.fly f' hf
    exact ⟨b, q, hb, h1, h2, hget b _ q hb h3⟩
  · funext w p
    by_cases hp : 0 ≤ p.1 ∧ p.1 < 8 ∧ 0 ≤ p.2
    rotate_left
    · unfold chS
      rw [if_neg (fun h => hp ⟨h.1, h.2.1, h.2.2.1⟩), if_neg (fun h => hp ⟨h.1, h.2.1, h.2.2.1⟩)]
    obtain ⟨h1, h2, h3⟩ := hp
    have hb : p.1.toNat < 8 := by omega
    by_cases hlt : p.2.toNat < (rowT t p.1.toNat).length
    · have hq := List.getElem?_eq_getElem hlt
      unfold chS
      rw [hq, hget _ _ _ hb hq]
    · have hg := h.lt _ hb
      have e2 : chS t g fl w p = (false, false) := by
        unfold chS
        rw [List.getElem?_eq_none (by omega), if_neg (by rintro ⟨_, _, _, h⟩; cases h)]
      rw [e2]
      unfold chS
      split
      · congr 1
        · exact decide_eq_false (by rintro ⟨h1, h2, _⟩; omega)
        · exact decide_eq_false (by omega)
      · rfl
set_option maxHeartbeats 4000000 in
theorem Chain.gave {t : TbV} {g : Nat → Nat} {fl : List (PlK × Int)} (h : Chain t g fl) {b : Nat} {q q' : Int × Int} (hb : b < 8) (hq : (rowT t b)[g b]? = some q) (hq' : (rowT t b)[g b + 1]? = some q') (hno : (b : Int) ∉ fl.map fun f => f.1.1) :
    Chain t (fun x => if x = b then g b + 1 else g x) (fl ++ [(((b : Int), ((g b + 1 : Nat) : Int)), q'.2)]) ∧ ∀ w p, chS t (fun x => if x = b then g b + 1 else g x) (fl ++ [(((b : Int), ((g b + 1 : Nat) : Int)), q'.2)]) w p = if w = q.2 ∧ p = ((b : Int), (g b : Int)) then ((chS t g fl w p).1, true) else chS t g fl w p := by
  refine ⟨⟨fun x hx => ?_, fun f hf => ?_, ?_⟩, fun w p => ?_⟩
  · by_cases e : x = b
    · subst e
      simp only [if_true]
      exact (List.getElem?_eq_some_iff.1 hq').1
    · simp only [if_neg e]
      exact h.lt x hx
  · rcases List.mem_append.1 hf with hf | hf
    · obtain ⟨x, q0, hx, h1, h2, h3⟩ := h.fly f hf
      have hne : x ≠ b := fun e => hno (List.mem_map.2 ⟨f, hf, by rw [h1, e]⟩)
      exact ⟨x, q0, hx, by simp only [if_neg hne]; exact h1, by simp only [if_neg hne]; exact h2, by simp only [if_neg hne]; exact h3⟩
    · obtain rfl := List.mem_singleton.1 hf
      exact ⟨b, q', hb, by simp only [if_true], by simp only [if_true]; omega, by simp only [if_true]; exact hq'⟩
  · rw [List.map_append, List.nodup_append]
    refine ⟨h.one, by simp, fun a ha c hc => ?_⟩
    obtain rfl := List.mem_singleton.1 hc
    exact fun e => hno (by have e' : a = (b : Int) := e; rw [← e']; exact ha)
  · by_cases hp : 0 ≤ p.1 ∧ p.1 < 8 ∧ 0 ≤ p.2 ∧ ((rowT t p.1.toNat)[p.2.toNat]?).map Prod.snd = some w
    rotate_left
    · unfold chS
      rw [if_neg hp, if_neg hp, if_neg]
      rintro ⟨hw, hpe⟩
      apply hp
      rw [hpe]
      exact ⟨by show (0 : Int) ≤ b; omega, by show (b : Int) < 8; omega, by show (0 : Int) ≤ (g b : Nat); omega, by simp only [Int.toNat_natCast]; rw [hq, hw]; rfl⟩
    obtain ⟨h1, h2, h3, h4⟩ := id hp
    obtain ⟨x, hx⟩ : ∃ x : Nat, p.1 = x := ⟨p.1.toNat, by omega⟩
    obtain ⟨i, hi⟩ : ∃ i : Nat, p.2 = i := ⟨p.2.toNat, by omega⟩
    obtain rfl : p = ((x : Int), (i : Int)) := Prod.ext hx hi
    simp only [Int.toNat_natCast] at h4
    obtain ⟨q0, hq0, rfl⟩ := Option.map_eq_some_iff.1 h4
    have hx8 : x < 8 := by show x < 8; simp only at h2; omega
    rw [chS_at hx8 hq0, chS_at hx8 hq0]
    by_cases hxb : x = b
    · subst hxb
      have hin : (x : Int) ∈ (fl ++ [(((x : Int), ((g x + 1 : Nat) : Int)), q'.2)]).map fun f => f.1.1 := List.mem_map.2 ⟨_, List.mem_append_right _ (.head _), rfl⟩
      simp only [if_true]
      by_cases hig : i = g x
      · subst hig
        rw [hq] at hq0
        obtain rfl := Option.some.inj hq0
        rw [if_pos ⟨rfl, rfl⟩]
        congr 1
        · apply decide_eq_decide.2
          constructor
          · rintro ⟨a1, a2, a3⟩; exact ⟨a1, Nat.le_refl _, fun ⟨_, h⟩ => hno h⟩
          · rintro ⟨a1, a2, a3⟩; exact ⟨a1, by omega, fun ⟨h, _⟩ => by omega⟩
        · exact decide_eq_true (by omega)
      · rw [if_neg (by rintro ⟨_, e⟩; exact hig (by have := congrArg Prod.snd e; simp only at this; omega))]
        congr 1
        · apply decide_eq_decide.2
          constructor
          · rintro ⟨a1, a2, a3⟩
            have : i ≠ g x + 1 := fun e => a3 ⟨e, hin⟩
            exact ⟨a1, by omega, fun ⟨h, _⟩ => hig h⟩
          · rintro ⟨a1, a2, a3⟩; exact ⟨a1, by omega, fun ⟨h, _⟩ => by omega⟩
        · apply decide_eq_decide.2; omega
    · simp only [if_neg hxb]
      rw [if_neg (by rintro ⟨_, e⟩; exact hxb (by have := congrArg Prod.fst e; simp only at this; omega))]
      have hm : ((x : Int) ∈ (fl ++ [(((b : Int), ((g b + 1 : Nat) : Int)), q'.2)]).map fun f => f.1.1) ↔ (x : Int) ∈ fl.map fun f => f.1.1 := by
        rw [List.map_append, List.mem_append]
        constructor
        · rintro (h | h)
          · exact h
          · have := List.mem_singleton.1 h
            simp only at this
            omega
        · exact .inl
      congr 1
      apply decide_eq_decide.2
      rw [hm]
set_option maxHeartbeats 4000000 in
theorem Chain.got {t : TbV} {g : Nat → Nat} {fl : List (PlK × Int)} (h : Chain t g fl) {k b : Nat} {q : Int × Int} (hk : fl[k]? = some (((b : Int), (g b : Int)), q.2)) (hb : b < 8) (hq : (rowT t b)[g b]? = some q) (h0 : 0 < g b) :
    Chain t g (fl.eraseIdx k) ∧ ∀ w p, chS t g (fl.eraseIdx k) w p = if w = q.2 ∧ p = ((b : Int), (g b : Int)) then (true, (chS t g fl w p).2) else chS t g fl w p := by
  have hmap : (fl.eraseIdx k).map (fun f => f.1.1) = (fl.map fun f => f.1.1).eraseIdx k := by
    apply List.ext_getElem?
    intro i
    simp only [List.getElem?_map, List.getElem?_eraseIdx]
    split <;> rfl
  have hkm : (fl.map fun f => f.1.1)[k]? = some (b : Int) := by rw [List.getElem?_map, hk]; rfl
  have hmem : ∀ x : Int, x ∈ (fl.eraseIdx k).map (fun f => f.1.1) ↔ x ∈ (fl.map fun f => f.1.1) ∧ x ≠ b := fun x => by
    rw [hmap]
    have hn := h.one
    constructor
    · intro hx
      refine ⟨(List.eraseIdx_sublist ..).subset hx, fun e => ?_⟩
      subst e
      obtain ⟨i, hne, hi⟩ := List.mem_eraseIdx_iff_getElem?.1 hx
      have hlt := (List.getElem?_eq_some_iff.1 hkm).1
      have hlt' := (List.getElem?_eq_some_iff.1 hi).1
      exact hne ((List.getElem?_inj hlt' hn).1 (by rw [hi, hkm]))
    · rintro ⟨hx, hne⟩
      obtain ⟨i, hi⟩ := List.mem_iff_getElem?.1 hx
      refine List.mem_eraseIdx_iff_getElem?.2 ⟨i, fun e => ?_, hi⟩
      subst e
      rw [hkm] at hi
      exact hne (Option.some.inj hi).symm
  refine ⟨⟨h.lt, fun f hf => h.fly f ((List.eraseIdx_sublist ..).subset hf), by rw [hmap]; exact h.one.sublist (List.eraseIdx_sublist ..)⟩, fun w p => ?_⟩
  by_cases hp : 0 ≤ p.1 ∧ p.1 < 8 ∧ 0 ≤ p.2 ∧ ((rowT t p.1.toNat)[p.2.toNat]?).map Prod.snd = some w
  rotate_left
  · unfold chS
    rw [if_neg hp, if_neg hp, if_neg]
    rintro ⟨hw, hpe⟩
    apply hp
    rw [hpe]
    exact ⟨by show (0 : Int) ≤ b; omega, by show (b : Int) < 8; omega, by show (0 : Int) ≤ (g b : Nat); omega, by simp only [Int.toNat_natCast]; rw [hq, hw]; rfl⟩
  obtain ⟨h1, h2, h3, h4⟩ := id hp
  obtain ⟨x, hx⟩ : ∃ x : Nat, p.1 = x := ⟨p.1.toNat, by omega⟩
  obtain ⟨i, hi⟩ : ∃ i : Nat, p.2 = i := ⟨p.2.toNat, by omega⟩
  obtain rfl : p = ((x : Int), (i : Int)) := Prod.ext hx hi
  simp only [Int.toNat_natCast] at h4
  obtain ⟨q0, hq0, rfl⟩ := Option.map_eq_some_iff.1 h4
  have hx8 : x < 8 := by show x < 8; simp only at h2; omega
  rw [chS_at hx8 hq0, chS_at hx8 hq0]
  have hm := hmem (x : Int)
  by_cases hxb : x = b
  · subst hxb
    by_cases hig : i = g x
    · subst hig
      rw [hq] at hq0
      obtain rfl := Option.some.inj hq0
      rw [if_pos ⟨rfl, rfl⟩]
      congr 1
      exact decide_eq_true ⟨h0, Nat.le_refl _, fun ⟨_, h⟩ => (hm.1 h).2 rfl⟩
    · rw [if_neg (by rintro ⟨_, e⟩; exact hig (by have := congrArg Prod.snd e; simp only at this; omega))]
      congr 1
      apply decide_eq_decide.2
      constructor
      · rintro ⟨a1, a2, a3⟩; exact ⟨a1, a2, fun ⟨h, _⟩ => hig h⟩
      · rintro ⟨a1, a2, a3⟩; exact ⟨a1, a2, fun ⟨h, _⟩ => hig h⟩
  · rw [if_neg (by rintro ⟨_, e⟩; exact hxb (by have := congrArg Prod.fst e; simp only at this; omega))]
    congr 1
    apply decide_eq_decide.2
    rw [hm]
    constructor
    · rintro ⟨a1, a2, a3⟩; exact ⟨a1, a2, fun ⟨h, h'⟩ => a3 ⟨h, h', by omega⟩⟩
    · rintro ⟨a1, a2, a3⟩; exact ⟨a1, a2, fun ⟨h, h'⟩ => a3 ⟨h, h'.1⟩⟩
end Go.Proofs.YtncgndcepoicbaaGreat
namespace Go.Proofs.YtncgndcepoicbaaGreat
open Go.RowKit
class KeyT (P : Program) (kt : TypeId) {κ : Type} (kw : κ → Value) : Prop where
  h : ∃ d, P.underlying kt = some d ∧ (∀ e x w, (Instr.checkKey e 10000 kt (kw x)).run P w = .ok () w) ∧ (∀ x es i (e : MapEntry), e.key = kw x → Fnd P kt d (kw x) (e :: es) i (some (i, e.val))) ∧ (∀ x y es i a (e : MapEntry), x ≠ y → e.key = kw y → Fnd P kt d (kw x) es (i + 1) a → Fnd P kt d (kw x) (e :: es) i a) ∧ ∀ x w, (Instr.keyThatStays (kw x) (kw x)).run P w = .ok (kw x) w
theorem KeyT.of {P : Program} {kt : TypeId} {d : TypeDesc} {κ : Type} {kw : κ → Value} (kv : κ → V) (hd : P.underlying kt = some d) (hrv : ∀ x, RV [] (kv x) (kw x)) (hk : ∀ x, keyX P kt d (kv x) = true) (hs : ∀ x, sameX P kt d (kv x) (kv x) = some true) (hn : ∀ x y, x ≠ y → sameX P kt d (kv x) (kv y) = some false) : KeyT P kt kw :=
  ⟨d, hd, fun e x w => keyX_run hd (hk x) (hrv x) e w, fun x es i e he => Fnd_hit (hs x) (hrv x) (by rw [he]; exact hrv x) es i, fun x y es i a e hxy he h => Fnd_skip (hn x y hxy) (hrv x) (by rw [he]; exact hrv y) h, fun x w => keyThatStays_run (hs x) (hrv x) (hrv x) w⟩
def EntV {κ : Type} (kw : κ → Value) (es : List MapEntry) (m : List (κ × Value)) : Prop := es.map (fun e => (e.key, e.val)) = m.map fun p => (kw p.1, p.2)
theorem EntV.empty {κ : Type} (kw : κ → Value) : EntV kw (#[] : Array MapEntry).toList [] := rfl
section
variable {κ : Type} [DecidableEq κ]
def vGet (m : List (κ × Value)) (x : κ) : Option Value := match m with
  | [] => none
  | p :: r => if x = p.1 then some p.2 else vGet r x
def vPut (m : List (κ × Value)) (x : κ) (v : Value) : List (κ × Value) := match m with
  | [] => [(x, v)]
  | p :: r => if x = p.1 then (x, v) :: r else p :: vPut r x v
theorem vGet_put (m : List (κ × Value)) (x y : κ) (v : Value) : vGet (vPut m x v) y = if y = x then some v else vGet m y := by
  induction m with
  | nil => simp [vPut, vGet]
  | cons p r ih =>
    simp only [vPut]
    by_cases h : x = p.1
    · rw [if_pos h]; simp only [vGet]
      by_cases hy : y = x
      · simp [hy]
      · rw [if_neg hy, if_neg hy, if_neg (fun e => hy (e.trans h.symm))]
    · rw [if_neg h]; simp only [vGet]
      by_cases hy : y = p.1
      · rw [if_pos hy, if_pos hy, if_neg (fun e => h (e.symm.trans hy))]
      · rw [if_neg hy, if_neg hy, ih]
theorem vPut_none {m : List (κ × Value)} {x : κ} {v : Value} (h : vGet m x = none) : vPut m x v = m ++ [(x, v)] := by
  induction m with
  | nil => rfl
  | cons p r ih =>
    simp only [vGet] at h
    split at h
    · cases h
    · rename_i hp; simp only [vPut, if_neg hp, ih h, List.cons_append]
theorem EntV_find {P : Program} {kt : TypeId} {d : TypeDesc} {kw : κ → Value} (h1 : ∀ x es i (e : MapEntry), e.key = kw x → Fnd P kt d (kw x) (e :: es) i (some (i, e.val))) (h2 : ∀ x y es i a (e : MapEntry), x ≠ y → e.key = kw y → Fnd P kt d (kw x) es (i + 1) a → Fnd P kt d (kw x) (e :: es) i a) : ∀ {es : List MapEntry} {m : List (κ × Value)} {x : κ} (i : Nat), EntV kw es m →
    (vGet m x = none ∧ Fnd P kt d (kw x) es i none) ∨ ∃ v j e, vGet m x = some v ∧ Fnd P kt d (kw x) es i (some (i + j, v)) ∧ es[j]? = some e ∧ e.val = v ∧ e.key = kw x ∧ ∀ v', EntV kw (es.set j { e with key := kw x, val := v' }) (vPut m x v')
  | [], m, x, i, h => by
    have : m = [] := by cases m with | nil => rfl | cons p r => simp [EntV] at h
    subst this
    exact .inl ⟨rfl, Fnd_nil _ _ _⟩
  | e :: es, m, x, i, h => by
    cases m with
    | nil => simp [EntV] at h
    | cons p r =>
      simp only [EntV, List.map_cons, List.cons.injEq, Prod.mk.injEq] at h
      obtain ⟨⟨hk, hv⟩, hr⟩ := h
      by_cases hx : x = p.1
      · right
        subst hx
        refine ⟨p.2, 0, e, by simp [vGet], ?_, rfl, hv, hk, fun v' => ?_⟩
        · have := h1 p.1 es i e hk
          rw [hv] at this; exact this
        · simp only [vPut, if_true, List.set_cons_zero, EntV, List.map_cons]
          rw [show es.map (fun e => (e.key, e.val)) = r.map (fun p => (kw p.1, p.2)) from hr]
      · rcases EntV_find (P := P) (kt := kt) (d := d) h1 h2 (x := x) (i + 1) (show EntV kw es r from hr) with ⟨g1, g2⟩ | ⟨v, j, e', g1, g2, g3, g4, g5, g6⟩
        · exact .inl ⟨by simp [vGet, hx, g1], h2 x p.1 es i _ e hx hk g2⟩
        · refine .inr ⟨v, j + 1, e', by simp [vGet, hx, g1], ?_, by simpa using g3, g4, g5, fun v' => ?_⟩
          · have := h2 x p.1 es i _ e hx hk g2
            rwa [show i + 1 + j = i + (j + 1) by omega] at this
          · have := g6 v'
            simp only [vPut, if_neg hx, List.set_cons_succ, EntV, List.map_cons, hk, hv]
            rw [show _ = _ from this]
variable {c : Cx} {o : Oper} {Kn : St → Prop} {K : Exit → St → Prop} {s : List (Nat × Value)} {D : List Deferred} {L : List (Nat × Obj)}
set_option maxHeartbeats 4000000 in
theorem OW_mapPutV {t kt vt : TypeId} {kw : κ → Value} [hu : TUnd c.P t (.map kt vt)] [hkt : KeyT c.P kt kw] {m x y : Operand} {b cl i : Nat} {es : Array MapEntry} {ps : List (κ × Value)} {n : κ} {v : Value} (ho : o.op = .mapUpdate t m x y) (hm : ev s m = some (.map (some b))) (hx : ev s x = some (kw n)) (hy : ev s y = some v) (hi : L[i]? = some (b, .map es cl)) (he : EntV kw es.toList ps)
    (hK : ∀ es' cl', EntV kw es'.toList (vPut ps n v) → Kn ⟨s, D, L.set i (b, .map es' cl')⟩) (hdst : o.dst = none := by exact rfl) : OW c o Kn K ⟨s, D, L⟩ := by
  obtain ⟨d, hd, hchk, hhit, hskip, hstay⟩ := hkt.h
  have fin : ∀ (es2 : Array MapEntry) (cl2 : Nat), EntV kw es2.toList (vPut ps n v) → (∀ a w, Holds c.g c.N ⟨s, D, L⟩ a w → (execOp a.eval o).run c.P w = .ok .skip (w.putObj b (.map es2 cl2))) → OW c o Kn K ⟨s, D, L⟩ := by
    intro es2 cl2 hm hrun a w ha
    refine ⟨fun _ _ => trivial, ?_⟩
    rw [Oper.semAt_eq _ _ _ (by rw [ho]; intro cc h; cases h), hrun a w ha]
    refine ⟨_, ?_, hK es2 cl2 hm⟩
    rw [hdst]; exact ha.mem' (ha.mem.putObj hi _)
  rcases EntV_find (P := c.P) (kt := kt) (d := d) hhit hskip (x := n) 0 he with ⟨h1, h2⟩ | ⟨v0, j, e, h1, h2, h3, h4, h5, h6⟩
  · refine fin (es.push { key := kw n, val := v, born := cl }) (cl + 1) ?_ fun a w ha => ?_
    · have e := vPut_none (v := v) h1
      rw [e]
      simp only [EntV, Array.toList_push, List.map_append, List.map_cons, List.map_nil]
      rw [show _ = _ from he]
    · have hfk := Fnd_run hd h2 w
      simp [execOp, ho, ha.ev hm, ha.ev hx, ha.ev hy, Instr.mapUpdate, run_underlying hu.h, Go.MapKept.run_getObj_map (ha.mem.at_ hi), hchk, hfk, Go.MapKept.run_setObj_map _ (ha.mem.at_ hi), World.putObj]
  · have hj : es[j]? = some e := by simpa using h3
    refine fin (es.modify j fun e => { e with key := kw n, val := v }) cl ?_ fun a w ha => ?_
    · have : (es.modify j fun e => { e with key := kw n, val := v }).toList = es.toList.set j { e with key := kw n, val := v } := by
        apply List.ext_getElem?
        intro q
        rw [Array.getElem?_toList, Array.getElem?_modify, List.getElem?_set, Array.getElem?_toList]
        by_cases hq : j = q
        · subst hq
          have hlt := (Array.getElem?_eq_some_iff.1 hj).1
          rw [if_pos rfl, if_pos rfl, if_pos (by simpa using hlt), hj]; rfl
        · rw [if_neg hq, if_neg hq]
      rw [this]; exact h6 v
    · have hfk := Fnd_run hd h2 w
      have hks : (Instr.keyThatStays e.key (kw n)).run c.P w = .ok (kw n) w := by rw [h5]; exact hstay n w
      simp only [Nat.zero_add] at hfk
      simp [execOp, ho, ha.ev hm, ha.ev hx, ha.ev hy, Instr.mapUpdate, run_underlying hu.h, Go.MapKept.run_getObj_map (ha.mem.at_ hi), hchk, hfk, hj, hks, Go.MapKept.run_setObj_map _ (ha.mem.at_ hi), World.putObj]
theorem Qt_lookV {t kt vt : TypeId} {kw : κ → Value} {z : Value} [hu : TUnd c.P t (.map kt vt)] [hkt : KeyT c.P kt kw] [hz : TZero c.P vt z] {m x : Operand} {b cl i : Nat} {es : Array MapEntry} {ps : List (κ × Value)} {n : κ} (ho : o.op = .lookup t m x false) (hi : L[i]? = some (b, .map es cl)) (he : EntV kw es.toList ps) (hm : ev s m = some (.map (some b)) := by exact rfl) (hx : ev s x = some (kw n) := by exact rfl) : Qt c s L o ((vGet ps n).getD z) :=
  Qt_of_run (by simp [ho]) (fun ρ hρ w hmem => by
    obtain ⟨d, hd, hchk, hhit, hskip, _⟩ := hkt.h
    rcases EntV_find (P := c.P) (kt := kt) (d := d) hhit hskip (x := n) 0 he with ⟨h1, h2⟩ | ⟨v0, j, e, h1, h2, h3, h4, h5, h6⟩
    · have hfk := Fnd_run hd h2 w
      rw [h1]
      simp [execOp, ho, hρ m _ hm, hρ x _ hx, Instr.lookup, run_underlying hu.h, Go.MapKept.run_getObj_map (hmem.at_ hi), hchk, hfk, hz.h]
    · have hfk := Fnd_run hd h2 w
      rw [h1]
      simp [execOp, ho, hρ m _ hm, hρ x _ hx, Instr.lookup, run_underlying hu.h, Go.MapKept.run_getObj_map (hmem.at_ hi), hchk, hfk])
theorem Qt_lookVC {t kt vt : TypeId} {kw : κ → Value} {z : Value} [hu : TUnd c.P t (.map kt vt)] [hkt : KeyT c.P kt kw] [hz : TZero c.P vt z] {m x : Operand} {b cl i : Nat} {es : Array MapEntry} {ps : List (κ × Value)} {n : κ} (ho : o.op = .lookup t m x true) (hi : L[i]? = some (b, .map es cl)) (he : EntV kw es.toList ps) (hm : ev s m = some (.map (some b)) := by exact rfl) (hx : ev s x = some (kw n) := by exact rfl) : Qt c s L o (.tuple #[(vGet ps n).getD z, .bool (vGet ps n).isSome]) :=
  Qt_of_run (by simp [ho]) (fun ρ hρ w hmem => by
    obtain ⟨d, hd, hchk, hhit, hskip, _⟩ := hkt.h
    rcases EntV_find (P := c.P) (kt := kt) (d := d) hhit hskip (x := n) 0 he with ⟨h1, h2⟩ | ⟨v0, j, e, h1, h2, h3, h4, h5, h6⟩
    · have hfk := Fnd_run hd h2 w
      rw [h1]
      simp [execOp, ho, hρ m _ hm, hρ x _ hx, Instr.lookup, run_underlying hu.h, Go.MapKept.run_getObj_map (hmem.at_ hi), hchk, hfk, hz.h]
    · have hfk := Fnd_run hd h2 w
      rw [h1]
      simp [execOp, ho, hρ m _ hm, hρ x _ hx, Instr.lookup, run_underlying hu.h, Go.MapKept.run_getObj_map (hmem.at_ hi), hchk, hfk])
theorem Qt_lookVE {t kt vt : TypeId} {kw : κ → Value} {z : Value} [hu : TUnd c.P t (.map kt vt)] [hz : TZero c.P vt z] {m x : Operand} {b cl i : Nat} {es : Array MapEntry} {ps : List (κ × Value)} {n : κ} {v : Value} (ho : o.op = .lookup t m x false) (hm : ev s m = some (.map (some b)) := by exact rfl) (hi : L[i]? = some (b, .map es cl) := by with_reducible assumption) (he : EntV kw es.toList ps := by with_reducible assumption) (hv : (vGet ps n).getD z = v := by with_reducible assumption) (hx : ev s x = some (kw n) := by exact rfl) [hkt : KeyT c.P kt kw] : Qt c s L o v := by
  have := Qt_lookV (c := c) (z := z) ho hi he hm hx
  rw [hv] at this
  exact this
theorem Qt_lookVCE {t kt vt : TypeId} {kw : κ → Value} {z : Value} [hu : TUnd c.P t (.map kt vt)] [hz : TZero c.P vt z] {m x : Operand} {b cl i : Nat} {es : Array MapEntry} {ps : List (κ × Value)} {n : κ} {v : Value} {is : Bool} (ho : o.op = .lookup t m x true) (hm : ev s m = some (.map (some b)) := by exact rfl) (hi : L[i]? = some (b, .map es cl) := by with_reducible assumption) (he : EntV kw es.toList ps := by with_reducible assumption) (hv : (vGet ps n).getD z = v := by with_reducible assumption) (hs : (vGet ps n).isSome = is := by with_reducible assumption) (hx : ev s x = some (kw n) := by exact rfl) [hkt : KeyT c.P kt kw] : Qt c s L o (.tuple #[v, .bool is]) := by
  have := Qt_lookVC (c := c) (z := z) ho hi he hm hx
  rw [hv, hs] at this
  exact this
end
def pairK (p : Int × Int) : Value := .agg #[.int .i64 p.1, .int .i64 p.2]
end Go.Proofs.YtncgndcepoicbaaGreat
namespace Go.Proofs.YtncgndcepoicbaaGreat
open Go.RowKit
theorem sameX_st {P : Program} {kt : TypeId} {fs : Array Field} {x y : List V} : sameX P kt (.struct fs) (.agg x) (.agg y) = sameX.sameG P kt (.agg x) (.agg y) := rfl
theorem plK_eq (a b c d : Int) : eqX Tryz.prog 8 69 (.agg [.int .i64 a, .int .i64 b]) (.agg [.int .i64 c, .int .i64 d]) = (match a == c with | true => (match b == d with | true => some true | false => some false) | false => some false) := by kernel_rfl
theorem plK_key (a b : Int) : keyK Tryz.prog 8 69 (.agg [.int .i64 a, .int .i64 b]) = true := by kernel_rfl
theorem plK_bits (a b : Int) : Instr.sameBits 10000 (.agg #[.int .i64 a, .int .i64 b]) (.agg #[.int .i64 a, .int .i64 b]) = true := by simp [Instr.sameBits]
instance : KeyT Tryz.prog 69 pairK := KeyT.of (kv := fun p => .agg [.int .i64 p.1, .int .i64 p.2]) Tryz.underlying69 (fun p => .agg (.cons (.int _ _) (.cons (.int _ _) .nil))) (fun p => by rw [keyX]; exact plK_key _ _) (fun p => by
  rw [sameX_st]
  unfold sameX.sameG
  rw [plK_eq]
  rw [beq_self_eq_true, beq_self_eq_true]
  have hv : V.val (.agg [.int .i64 p.1, .int .i64 p.2]) = some (.agg #[.int .i64 p.1, .int .i64 p.2]) := by simp [V.val, V.valL]
  dsimp only
  rw [hv]
  dsimp only
  rw [plK_bits]) (fun p q h => by
  rw [sameX_st]
  unfold sameX.sameG
  rw [plK_eq]
  by_cases h1 : p.1 = q.1
  · have h2 : (p.2 == q.2) = false := by simpa using fun e => h (Prod.ext h1 e)
    rw [h1, beq_self_eq_true, h2]
  · have h2 : (p.1 == q.1) = false := by simpa using h1
    rw [h2])
end Go.Proofs.YtncgndcepoicbaaGreat
