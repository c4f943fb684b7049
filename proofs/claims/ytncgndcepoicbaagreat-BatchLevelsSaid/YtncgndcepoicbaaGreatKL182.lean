/-
  A part of what the last of these texts needs; by itself it proves no statement.
-/
import Derived.Test.YtncgndcepoicbaaGreatKL181
namespace Go.Proofs.YtncgndcepoicbaaGreat
open Go.RowKit
def upF (q : Int → Int) (w x : Int) : Int → Int := fun y => if y = w then x else q y
def quoN (n : Nat) : Nat → List Int → Int → Int
  | _, [], _ => 0
  | i, a :: r, w => if w = a then (8 + (n : Int) - 1 - i) / n else quoN n (i + 1) r w
def quoF (act : List Int) : Int → Int := quoN act.length 0 act
theorem quoN_snoc (n : Nat) {a : Int} : ∀ (i : Nat) {l : List Int} (_ : a ∉ l) (w : Int), quoN n i (l ++ [a]) w = if w = a then (8 + (n : Int) - 1 - (i + l.length : Nat)) / n else quoN n i l w
  | i, [], _, w => by simp [quoN]
  | i, x :: r, h, w => by
    have h1 : a ≠ x := fun e => h (e ▸ .head _)
    have h2 : a ∉ r := fun e => h (.tail _ e)
    rw [List.cons_append, quoN, quoN, quoN_snoc n (i + 1) h2]
    by_cases hw : w = x
    · rw [if_pos hw, if_pos hw, if_neg (fun e => h1 (e.symm.trans hw))]
    · rw [if_neg hw, if_neg hw, List.length_cons, show i + 1 + r.length = i + (r.length + 1) by omega]
def keepF (q : Int → Int) : List Int → List Int × (Int → Int)
  | [] => ([], q)
  | w :: r => if 0 < q w then (w :: (keepF (upF q w (q w - 1)) r).1, (keepF (upF q w (q w - 1)) r).2) else (0 :: (keepF q r).1, (keepF q r).2)
def fillF (act : List Int) (q : Int → Int) : List Int → List Int
  | [] => []
  | w :: r => if w = 0 then (match act.find? (fun a => decide (0 < q a)) with
      | some a => a :: fillF act (upF q a (q a - 1)) r
      | none => 0 :: fillF act q r) else w :: fillF act q r
def levelF (act own : List Int) : List Int := fillF act (keepF (quoF act) own).2 (keepF (quoF act) own).1
def sumF (q : Int → Int) (l : List Int) : Int := (l.map q).sum
theorem sumF_up {q : Int → Int} {w x : Int} : ∀ {l : List Int}, l.Nodup → sumF (upF q w x) l = if w ∈ l then sumF q l - q w + x else sumF q l
  | [], _ => by simp [sumF]
  | y :: r, h => by
    obtain ⟨h1, h2⟩ := List.nodup_cons.1 h
    have ih := sumF_up (q := q) (w := w) (x := x) h2
    unfold sumF at ih ⊢
    simp only [List.map_cons, List.sum_cons]
    rw [ih]
    by_cases hy : y = w
    · subst hy
      rw [if_neg h1, if_pos (.head _), upF, if_pos rfl]
      omega
    · have : w ∈ y :: r ↔ w ∈ r := by
        rw [List.mem_cons]
        exact ⟨fun h => h.resolve_left fun e => hy e.symm, .inr⟩
      simp only [this]
      rw [upF, if_neg hy]
      split <;> omega
theorem upF_nn {q : Int → Int} {a x : Int} (h : ∀ w, 0 ≤ q w) (hx : 0 ≤ x) (w : Int) : 0 ≤ upF q a x w := by
  unfold upF
  split
  · exact hx
  · exact h w
theorem keepF_all : ∀ {q : Int → Int} {own : List Int}, (∀ w, 0 ≤ q w) → (∀ w ∈ own, w ≠ 0) → (keepF q own).1.length = own.length ∧ (∀ (i : Nat) w, (keepF q own).1[i]? = some w → w = 0 ∨ own[i]? = some w) ∧ (∀ w, w ≠ 0 → ((keepF q own).1.count w : Int) = min (q w) (own.count w) ∧ (keepF q own).2 w = q w - (keepF q own).1.count w)
  | q, [], h0, _ => ⟨rfl, fun i w h => by simp [keepF] at h, fun w _ => by have := h0 w; simp [keepF]; omega⟩
  | q, x :: r, h0, hx => by
    have hx0 : x ≠ 0 := hx x (.head _)
    unfold keepF
    by_cases hq : 0 < q x
    · rw [if_pos hq]
      obtain ⟨i1, i2, i3⟩ := keepF_all (q := upF q x (q x - 1)) (own := r) (upF_nn h0 (by omega)) fun w hw => hx w (.tail _ hw)
      refine ⟨by simp [i1], fun i w hi => ?_, fun w hw => ?_⟩
      · cases i with
        | zero => right; simpa using hi
        | succ i => simpa using i2 i w (by simpa using hi)
      · obtain ⟨j1, j2⟩ := i3 w hw
        simp only [List.count_cons]
        by_cases hxw : x = w
        · subst hxw
          simp only [upF, if_pos, beq_self_eq_true] at j1 j2 ⊢
          refine ⟨by omega, by rw [j2]; omega⟩
        · have e1 : upF q x (q x - 1) w = q w := if_neg fun e => hxw e.symm
          have e2 : (x == w) = false := beq_eq_false_iff_ne.2 hxw
          rw [e1] at j1 j2
          simp only [e2]
          exact ⟨by simpa using j1, by simpa using j2⟩
    · rw [if_neg hq]
      obtain ⟨i1, i2, i3⟩ := keepF_all (q := q) (own := r) h0 fun w hw => hx w (.tail _ hw)
      refine ⟨by simp [i1], fun i w hi => ?_, fun w hw => ?_⟩
      · cases i with
        | zero => left; simpa using hi.symm
        | succ i => simpa using i2 i w (by simpa using hi)
      · obtain ⟨j1, j2⟩ := i3 w hw
        simp only [List.count_cons]
        have e0 : ((0 : Int) == w) = false := beq_eq_false_iff_ne.2 fun e => hw e.symm
        simp only [e0]
        by_cases hxw : x = w
        · subst hxw
          have := h0 x
          simp only [beq_self_eq_true, if_pos]
          refine ⟨by simp only [Bool.false_eq_true, if_false]; omega, by simpa using j2⟩
        · have e2 : (x == w) = false := beq_eq_false_iff_ne.2 hxw
          simp only [e2]
          exact ⟨by simpa using j1, by simpa using j2⟩
set_option maxHeartbeats 4000000 in
theorem fillF_all {act : List Int} (hn : act.Nodup) (h0 : (0 : Int) ∉ act) : ∀ {q : Int → Int} {l : List Int}, (∀ w, 0 ≤ q w) → sumF q act = l.count 0 → (fillF act q l).length = l.length ∧ (∀ (i : Nat) w, l[i]? = some w → w ≠ 0 → (fillF act q l)[i]? = some w) ∧ (∀ w ∈ act, ((fillF act q l).count w : Int) = l.count w + q w) ∧ (∀ w ∈ fillF act q l, w ∈ act ∨ (w ∈ l ∧ w ≠ 0))
  | q, [], hq, hs => by
    refine ⟨rfl, fun i w h => by simp at h, fun w hw => ?_, fun w h => by simp [fillF] at h⟩
    have hz : ∀ {l : List Int}, sumF q l = 0 → ∀ w ∈ l, q w = 0 := fun {l} => by
      have hnn : ∀ l : List Int, 0 ≤ sumF q l := fun l => by
        induction l with
        | nil => exact Int.le_refl _
        | cons y r ih =>
          unfold sumF at ih ⊢
          simp only [List.map_cons, List.sum_cons]
          have := hq y
          omega
      induction l with
      | nil => intro _ w h; simp at h
      | cons y r ih =>
        intro h w hw
        have h1 := hnn r
        have h2 := hq y
        unfold sumF at ih h h1
        simp only [List.map_cons, List.sum_cons] at h
        rcases List.mem_cons.1 hw with rfl | hw
        · omega
        · exact ih (by omega) w hw
    have := hz (by simpa using hs) w hw
    simp [fillF, this]
  | q, x :: r, hq, hs => by
    unfold fillF
    by_cases hx : x = 0
    · subst hx
      rw [if_pos rfl]
      have hpos : ∃ a, act.find? (fun a => decide (0 < q a)) = some a := by
        rcases hf : act.find? (fun a => decide (0 < q a)) with _ | a
        · exfalso
          have hall := List.find?_eq_none.1 hf
          have : sumF q act ≤ 0 := by
            have : ∀ l : List Int, (∀ a ∈ l, ¬ decide (0 < q a) = true) → sumF q l ≤ 0 := fun l => by
              induction l with
              | nil => intro _; exact Int.le_refl _
              | cons y r ih =>
                intro h
                have h1 := ih fun a ha => h a (.tail _ ha)
                have h2 := h y (.head _)
                unfold sumF at h1 ⊢
                simp only [List.map_cons, List.sum_cons]
                simp only [decide_eq_true_eq] at h2
                omega
            exact this act hall
          rw [List.count_cons] at hs
          simp at hs
          omega
        · exact ⟨a, rfl⟩
      obtain ⟨a, ha⟩ := hpos
      simp only [ha]
      have ham : a ∈ act := List.mem_of_find?_eq_some ha
      have hap : 0 < q a := by have := List.find?_some ha; simpa using this
      obtain ⟨i1, i2, i3, i4⟩ := fillF_all hn h0 (q := upF q a (q a - 1)) (l := r) (upF_nn hq (by omega)) (by rw [sumF_up hn, if_pos ham, hs, List.count_cons]; simp; omega)
      refine ⟨by simp [i1], fun i w hi hw => ?_, fun w hw => ?_, fun w hw => ?_⟩
      · cases i with
        | zero => exact absurd (by simpa using hi.symm) hw
        | succ i => simpa using i2 i w (by simpa using hi) hw
      · have := i3 w hw
        have hw0 : w ≠ 0 := fun e => h0 (e ▸ hw)
        have e0 : ((0 : Int) == w) = false := beq_eq_false_iff_ne.2 fun e => hw0 e.symm
        simp only [List.count_cons, e0]
        by_cases haw : a = w
        · subst haw
          simp only [upF, if_pos, beq_self_eq_true] at this ⊢
          simp only [Bool.false_eq_true, if_false]
          omega
        · have e1 : upF q a (q a - 1) w = q w := if_neg fun e => haw e.symm
          have e2 : (a == w) = false := beq_eq_false_iff_ne.2 haw
          rw [e1] at this
          simp only [e2]
          simpa using this
      · rcases List.mem_cons.1 hw with rfl | hw
        · exact .inl ham
        · rcases i4 w hw with h | ⟨h, h'⟩
          · exact .inl h
          · exact .inr ⟨.tail _ h, h'⟩
    · rw [if_neg hx]
      obtain ⟨i1, i2, i3, i4⟩ := fillF_all hn h0 (q := q) (l := r) hq (by rw [hs, List.count_cons]; simp [hx])
      refine ⟨by simp [i1], fun i w hi hw => ?_, fun w hw => ?_, fun w hw => ?_⟩
      · cases i with
        | zero => simpa using hi
        | succ i => simpa using i2 i w (by simpa using hi) hw
      · have := i3 w hw
        simp only [List.count_cons]
        omega
      · rcases List.mem_cons.1 hw with rfl | hw
        · exact .inr ⟨.head _, hx⟩
        · rcases i4 w hw with h | ⟨h, h'⟩
          · exact .inl h
          · exact .inr ⟨.tail _ h, h'⟩
theorem keepF_pos {q : Int → Int} {x : Int} (h : 0 < q x) (r : List Int) : keepF q (x :: r) = (x :: (keepF (upF q x (q x - 1)) r).1, (keepF (upF q x (q x - 1)) r).2) := by
  rw [keepF]; exact if_pos h
theorem keepF_neg {q : Int → Int} {x : Int} (h : ¬ 0 < q x) (r : List Int) : keepF q (x :: r) = (0 :: (keepF q r).1, (keepF q r).2) := by
  rw [keepF]; exact if_neg h
theorem keepF_snocP {w : Int} : ∀ {q : Int → Int} {l : List Int}, 0 < (keepF q l).2 w → keepF q (l ++ [w]) = ((keepF q l).1 ++ [w], upF (keepF q l).2 w ((keepF q l).2 w - 1))
  | q, [], h => keepF_pos (r := []) h
  | q, x :: r, h => by
    rw [List.cons_append]
    by_cases hx : 0 < q x
    · rw [keepF_pos hx] at h
      rw [keepF_pos hx, keepF_pos hx, keepF_snocP h]
      rfl
    · rw [keepF_neg hx] at h
      rw [keepF_neg hx, keepF_neg hx, keepF_snocP h]
      rfl
theorem keepF_snocN {w : Int} : ∀ {q : Int → Int} {l : List Int}, ¬ 0 < (keepF q l).2 w → keepF q (l ++ [w]) = ((keepF q l).1 ++ [0], (keepF q l).2)
  | q, [], h => keepF_neg (r := []) h
  | q, x :: r, h => by
    rw [List.cons_append]
    by_cases hx : 0 < q x
    · rw [keepF_pos hx] at h
      rw [keepF_pos hx, keepF_pos hx, keepF_snocN h]
      rfl
    · rw [keepF_neg hx] at h
      rw [keepF_neg hx, keepF_neg hx, keepF_snocN h]
      rfl
theorem keepF_len (q : Int → Int) : ∀ (l : List Int), (keepF q l).1.length = l.length := by
  intro l
  induction l generalizing q with
  | nil => rfl
  | cons x r ih =>
    simp only [keepF]
    split <;> simp [ih]
def zpos : Nat → List Int → List Int
  | _, [] => []
  | i, x :: r => if x = 0 then (i : Int) :: zpos (i + 1) r else zpos (i + 1) r
theorem zpos_lt : ∀ {i : Nat} {l : List Int} {b : Int}, b ∈ zpos i l → (i : Int) ≤ b ∧ b < i + l.length
  | i, [], b, h => by simp [zpos] at h
  | i, x :: r, b, h => by
    rw [zpos] at h
    simp only [List.length_cons]
    split at h
    · rcases List.mem_cons.1 h with rfl | h
      · omega
      · have := zpos_lt h; omega
    · have := zpos_lt h; omega
theorem zpos_len : ∀ (i : Nat) (l : List Int), (zpos i l).length ≤ l.length
  | _, [] => Nat.le_refl _
  | i, x :: r => by
    have := zpos_len (i + 1) r
    rw [zpos]
    split <;> simp only [List.length_cons] <;> omega
def fillS (act : List Int) : List Int × (Int → Int) → List Int → List Int × (Int → Int)
  | s, [] => s
  | s, b :: r => match act.find? (fun a => decide (0 < s.2 a)) with
    | some a => fillS act (s.1.set b.toNat a, upF s.2 a (s.2 a - 1)) r
    | none => fillS act s r
theorem fillS_fillF (act : List Int) : ∀ (l pre : List Int) (q : Int → Int), (fillS act (pre ++ l, q) (zpos pre.length l)).1 = pre ++ fillF act q l
  | [], pre, q => by simp [fillS, zpos, fillF]
  | x :: r, pre, q => by
    rw [zpos, fillF]
    by_cases hx : x = 0
    · subst hx
      rw [if_pos rfl, if_pos rfl, fillS]
      rcases hf : act.find? (fun a => decide (0 < q a)) with _ | a
      · simp only
        have := fillS_fillF act r (pre ++ [0]) q
        simpa using this
      · simp only
        have := fillS_fillF act r (pre ++ [a]) (upF q a (q a - 1))
        simpa using this
    · rw [if_neg hx, if_neg hx]
      have := fillS_fillF act r (pre ++ [x]) q
      simpa using this
theorem upF_rng {q : Int → Int} {a : Int} (h : ∀ w, 0 ≤ q w ∧ q w ≤ 100) (hp : 0 < q a) (w : Int) : 0 ≤ upF q a (q a - 1) w ∧ upF q a (q a - 1) w ≤ 100 := by
  have h1 := h w
  have h2 := h a
  unfold upF
  split <;> omega
theorem keepF_rng : ∀ {l : List Int} {q : Int → Int}, (∀ w, 0 ≤ q w ∧ q w ≤ 100) → ∀ w, 0 ≤ (keepF q l).2 w ∧ (keepF q l).2 w ≤ 100
  | [], _, h => h
  | x :: r, q, h => by
    by_cases hx : 0 < q x
    · rw [keepF_pos hx]; exact keepF_rng (upF_rng h hx)
    · rw [keepF_neg hx]; exact keepF_rng h
theorem quoF_rng {act : List Int} (h3 : act.length ≤ 3) (w : Int) : 0 ≤ quoF act w ∧ quoF act w ≤ 100 := by
  match act, h3 with
  | [], _ => simp [quoF, quoN]
  | [a], _ => simp only [quoF, quoN, List.length_cons, List.length_nil]; split <;> decide
  | [a, b], _ => simp only [quoF, quoN, List.length_cons, List.length_nil]; split; decide; split <;> decide
  | [a, b, c], _ => simp only [quoF, quoN, List.length_cons, List.length_nil]; split; decide; split; decide; split <;> decide
theorem fillS_snoc (act : List Int) (b : Int) : ∀ (l : List Int) (s : List Int × (Int → Int)), fillS act s (l ++ [b]) = fillS act (fillS act s l) [b]
  | [], _ => rfl
  | x :: r, s => by
    rcases hf : act.find? (fun a => decide (0 < s.2 a)) with _ | a
    · have e : ∀ l, fillS act s (x :: l) = fillS act s l := fun l => by rw [fillS, hf]
      rw [List.cons_append, e, e]
      exact fillS_snoc act b r s
    · have e : ∀ l, fillS act s (x :: l) = fillS act (s.1.set x.toNat a, upF s.2 a (s.2 a - 1)) l := fun l => by rw [fillS, hf]
      rw [List.cons_append, e, e]
      exact fillS_snoc act b r _
theorem fillS_rng (act : List Int) : ∀ (l : List Int) (s : List Int × (Int → Int)), (∀ w, 0 ≤ s.2 w ∧ s.2 w ≤ 100) → ∀ w, 0 ≤ (fillS act s l).2 w ∧ (fillS act s l).2 w ≤ 100
  | [], _, h => h
  | x :: r, s, h => by
    rw [fillS]
    split
    · rename_i a hf
      have hp := List.find?_some hf
      exact fillS_rng act r _ (upF_rng h (by simpa using hp))
    · exact fillS_rng act r s h
theorem fillS_len (act : List Int) : ∀ (l : List Int) (s : List Int × (Int → Int)), (fillS act s l).1.length = s.1.length
  | [], _ => rfl
  | x :: r, s => by
    rw [fillS]
    split
    · rw [fillS_len act r]; simp
    · exact fillS_len act r s
theorem rep_set {K : List Int} {k : Nat} (hk : K.length = k) (hk8 : k < 8) (w : Int) : (K ++ List.replicate (8 - k) 0).set k w = (K ++ [w]) ++ List.replicate (8 - (k + 1)) 0 := by
  rw [show 8 - k = (8 - (k + 1)) + 1 by omega, List.replicate_succ, ← hk]
  simp
theorem rep_none {K : List Int} {k : Nat} (hk8 : k < 8) : K ++ List.replicate (8 - k) (0 : Int) = (K ++ [0]) ++ List.replicate (8 - (k + 1)) 0 := by
  rw [show 8 - k = (8 - (k + 1)) + 1 by omega, List.replicate_succ]
  simp
def hmF (q0 : Int → Int) (own : Int → Int) (pre : List Int) (b : Int) : Bool := !decide (0 < (keepF q0 (pre.map own)).2 (own b))
theorem hm_zpos {q0 : Int → Int} {own : Int → Int} : ∀ {rest pre : List Int} {k : Nat}, (∀ (i : Nat) b, rest[i]? = some b → b = (k : Int) + i) → (∀ b ∈ rest, own b ≠ 0) → selF (hmF q0 own) pre rest = zpos k (keepF (keepF q0 (pre.map own)).2 (rest.map own)).1
  | [], pre, k, _, _ => rfl
  | b :: r, pre, k, h, h0 => by
    have hb : b = k := by simpa using h 0 b rfl
    have ih := hm_zpos (q0 := q0) (own := own) (rest := r) (pre := pre ++ [b]) (k := k + 1) (fun i x hx => by have := h (i + 1) x (by simpa using hx); omega) fun x hx => h0 x (.tail _ hx)
    rw [List.map_append, List.map_cons, List.map_nil] at ih
    rw [selF, List.map_cons]
    by_cases hq : 0 < (keepF q0 (pre.map own)).2 (own b)
    · rw [keepF_snocP hq] at ih
      rw [keepF_pos hq]
      rw [show hmF q0 own pre b = false by simp [hmF, hq], if_neg Bool.noConfusion, ih, zpos, if_neg (h0 b (.head _))]
    · rw [keepF_snocN hq] at ih
      rw [keepF_neg hq]
      rw [show hmF q0 own pre b = true by simp [hmF, hq], if_pos rfl, ih, zpos, if_pos rfl, hb]
end Go.Proofs.YtncgndcepoicbaaGreat
