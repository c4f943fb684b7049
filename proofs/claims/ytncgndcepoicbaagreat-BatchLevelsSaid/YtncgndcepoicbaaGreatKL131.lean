/-
  A part of what the last of these texts needs; by itself it proves no statement.
-/
import Derived.Test.YtncgndcepoicbaaGreatKL12
namespace Go.Proofs.YtncgndcepoicbaaGreat
open Go.RowKit
def b8 : List Int := [0, 1, 2, 3, 4, 5, 6, 7]
theorem b8_mem {b : Int} : b ∈ b8 ↔ 0 ≤ b ∧ b < 8 := by
  simp only [b8, List.mem_cons, List.not_mem_nil, or_false]
  omega
theorem b8_rise : b8.Pairwise (· < ·) := by decide
def wnF (want : List Int) (b : Int) : Int := (want[b.toNat]?).getD 0
def goesL (own : Int → Int) (want : List Int) (w : Int) : List Int := b8.filter fun b => (wnF want b == w) && !(own b == w)
theorem goesL_mem {own : Int → Int} {want : List Int} {w b : Int} : b ∈ goesL own want w ↔ (0 ≤ b ∧ b < 8) ∧ wnF want b = w ∧ own b ≠ w := by
  simp [goesL, List.mem_filter, b8_mem]
theorem goesL_rise (own : Int → Int) (want : List Int) (w : Int) : (goesL own want w).Pairwise (· < ·) := b8_rise.sublist List.filter_sublist
def chunkN (m : Nat) : Nat → List Int → List (List Int)
  | 0, _ => []
  | _ + 1, [] => []
  | n + 1, x :: r => (x :: r).take m :: chunkN m n ((x :: r).drop m)
def chunkF (m : Nat) (l : List Int) : List (List Int) := chunkN m l.length l
theorem chunkN_flat {m : Nat} (hm : 1 ≤ m) : ∀ (n : Nat) (l : List Int), l.length ≤ n → (chunkN m n l).flatten = l
  | 0, l, h => by
    obtain rfl : l = [] := List.length_eq_zero_iff.1 (by omega)
    rfl
  | _ + 1, [], _ => rfl
  | n + 1, x :: r, h => by
    rw [chunkN, List.flatten_cons, chunkN_flat hm n _ (by rw [List.length_drop]; simp only [List.length_cons] at h ⊢; omega), List.take_append_drop]
theorem chunkN_each {m : Nat} (hm : 1 ≤ m) : ∀ (n : Nat) (l c : List Int), c ∈ chunkN m n l → c ≠ [] ∧ c.length ≤ m ∧ c.Sublist l
  | 0, _, _, h => by simp [chunkN] at h
  | _ + 1, [], _, h => by simp [chunkN] at h
  | n + 1, x :: r, c, h => by
    rw [chunkN] at h
    rcases List.mem_cons.1 h with rfl | h
    · refine ⟨?_, by rw [List.length_take]; omega, List.take_sublist _ _⟩
      intro e
      have := congrArg List.length e
      rw [List.length_take] at this
      simp only [List.length_cons, List.length_nil] at this
      omega
    · obtain ⟨h1, h2, h3⟩ := chunkN_each hm n _ c h
      exact ⟨h1, h2, h3.trans (List.drop_sublist _ _)⟩
def pairsF (act : List Int) (own : Int → Int) (want : List Int) (m : Nat) : List (Int × List Int) := act.flatMap fun w => (chunkF m (goesL own want w)).map fun l => (w, l)
def mvC (a : Int) (p : Int × List Int) : CmV := ⟨0, a, p.2, p.1, 0, (0, 0, 0, 0), 0⟩
def mvL : Int → List (Int × List Int) → List CmV
  | _, [] => []
  | a, p :: r => mvC a p :: mvL (a + 1) r
theorem mvL_len : ∀ (a : Int) (l : List (Int × List Int)), (mvL a l).length = l.length
  | _, [] => rfl
  | a, _ :: r => by rw [mvL, List.length_cons, List.length_cons, mvL_len]
theorem mvL_at : ∀ {a : Int} {l : List (Int × List Int)} {k : Nat} {p : Int × List Int}, l[k]? = some p → (mvL a l)[k]? = some (mvC (a + k) p)
  | a, [], k, p, h => by simp at h
  | a, q :: r, 0, p, h => by
    obtain rfl : q = p := by simpa using h
    simp [mvL]
  | a, q :: r, k + 1, p, h => by
    have := mvL_at (a := a + 1) (l := r) (k := k) (p := p) (by simpa using h)
    rw [mvL, List.getElem?_cons_succ, this, show a + 1 + (k : Int) = a + ((k + 1 : Nat) : Int) by omega]
theorem mvL_snoc : ∀ (a : Int) (l : List (Int × List Int)) (p : Int × List Int), mvL a (l ++ [p]) = mvL a l ++ [mvC (a + l.length) p]
  | a, [], p => by simp [mvL]
  | a, q :: r, p => by
    rw [List.cons_append, mvL, mvL, mvL_snoc, List.cons_append, List.length_cons, show a + 1 + (r.length : Int) = a + ((r.length + 1 : Nat) : Int) by omega]
def movesF (t : TbV) (want : List Int) (a most : Int) : List CmV × Int :=
  if most < 1 ∨ 8 < most then ([], 2)
  else if want.any (fun w => !decide (w ∈ t.act)) = true then ([], 16)
  else if pairsF t.act (hasF t.spans) want most.toNat = [] then ([], 0)
  else if 64 < t.cmds.length + (pairsF t.act (hasF t.spans) want most.toNat).length then ([], 8)
  else if a ≤ lastF t ∨ 1099511627776 < a ∨ 1099511627776 < a - 1 + (pairsF t.act (hasF t.spans) want most.toNat).length then ([], 12)
  else (mvL a (pairsF t.act (hasF t.spans) want most.toNat), 0)
theorem pairs_each {act : List Int} {own : Int → Int} {want : List Int} {m : Nat} (hm : 1 ≤ m) {p : Int × List Int} (h : p ∈ pairsF act own want m) : p.1 ∈ act ∧ p.2 ≠ [] ∧ p.2.length ≤ m ∧ p.2.Pairwise (· < ·) ∧ ∀ b ∈ p.2, (0 ≤ b ∧ b < 8) ∧ wnF want b = p.1 ∧ own b ≠ p.1 := by
  obtain ⟨w, hw, h⟩ := List.mem_flatMap.1 h
  obtain ⟨l, hl, rfl⟩ := List.mem_map.1 h
  obtain ⟨h1, h2, h3⟩ := chunkN_each hm _ _ _ hl
  exact ⟨hw, h1, h2, (goesL_rise ..).sublist h3, fun b hb => goesL_mem.1 (h3.mem hb)⟩
def binsF (l : List (Int × List Int)) : List Int := l.flatMap Prod.snd
theorem pairs_bins {own : Int → Int} {want : List Int} {m : Nat} (hm : 1 ≤ m) : ∀ act : List Int, binsF (pairsF act own want m) = act.flatMap (goesL own want)
  | [] => rfl
  | w :: r => by
    have ih := pairs_bins (own := own) (want := want) hm r
    unfold binsF pairsF at ih ⊢
    rw [List.flatMap_cons, List.flatMap_append, ih, List.flatMap_cons]
    congr 1
    have h2 : ∀ ll : List (List Int), (ll.map fun l => (w, l)).flatMap Prod.snd = ll.flatten := fun ll => by
      induction ll with
      | nil => rfl
      | cons x r ih => rw [List.map_cons, List.flatMap_cons, ih, List.flatten_cons]
    rw [h2]
    exact chunkN_flat hm _ _ (Nat.le_refl _)
theorem goes_count {own : Int → Int} {want : List Int} {b : Int} (hb : 0 ≤ b ∧ b < 8) : ∀ {act : List Int}, act.Nodup → (act.flatMap (goesL own want)).count b = if wnF want b ∈ act ∧ own b ≠ wnF want b then 1 else 0
  | [], _ => by simp
  | w :: r, hn => by
    obtain ⟨h1, h2⟩ := List.nodup_cons.1 hn
    rw [List.flatMap_cons, List.count_append, goes_count hb h2]
    have hnd : (goesL own want w).Nodup := (goesL_rise own want w).imp fun h => by omega
    by_cases hw : wnF want b = w
    · have : wnF want b ∉ r := hw ▸ h1
      by_cases ho : own b = w
      · rw [List.count_eq_zero_of_not_mem fun h => (goesL_mem.1 h).2.2 ho, if_neg (fun h => this h.1), if_neg (fun h => h.2 (by omega))]
      · have hm : b ∈ goesL own want w := goesL_mem.2 ⟨hb, hw, ho⟩
        have hc := hnd.count (a := b)
        rw [if_pos hm] at hc
        rw [hc, if_neg (fun h => this h.1), if_pos ⟨by rw [hw]; exact .head _, by rw [hw]; exact ho⟩]
    · rw [List.count_eq_zero_of_not_mem fun h => hw (goesL_mem.1 h).2.1, Nat.zero_add]
      have : wnF want b ∈ w :: r ↔ wnF want b ∈ r := by
        rw [List.mem_cons]
        exact ⟨fun h => h.resolve_left hw, .inr⟩
      simp only [this]
theorem bins_count {act : List Int} {own : Int → Int} {want : List Int} {m : Nat} (hm : 1 ≤ m) (hn : act.Nodup) {b : Int} (hb : 0 ≤ b ∧ b < 8) (hw : wnF want b ∈ act) : (binsF (pairsF act own want m)).count b = if own b ≠ wnF want b then 1 else 0 := by
  rw [pairs_bins hm, goes_count hb hn]
  by_cases h : own b = wnF want b
  · rw [if_neg (fun q => q.2 h), if_neg (fun q => q h)]
  · rw [if_pos ⟨hw, h⟩, if_pos h]
theorem filter_two {α : Type} {p q r : α → Bool} (h : ∀ x, p x = true → q x = false) (h1 : ∀ x, p x = true → r x = true) (h2 : ∀ x, q x = true → r x = true) : ∀ l : List α, (l.filter p).length + (l.filter q).length ≤ (l.filter r).length
  | [] => Nat.le_refl _
  | x :: l => by
    have ih := filter_two h h1 h2 l
    rw [List.filter_cons, List.filter_cons, List.filter_cons]
    cases hp : p x
    · cases hq : q x
      · cases r x
        · simpa using ih
        · simp only [if_true, List.length_cons]; simp; omega
      · rw [h2 x hq]
        simp only [if_true, List.length_cons]; simp; omega
    · rw [h x hp, h1 x hp]
      simp only [if_true, List.length_cons]; simp; omega
theorem goes_len {own : Int → Int} {want : List Int} : ∀ {act : List Int}, act.Nodup → (act.flatMap (goesL own want)).length ≤ (b8.filter fun b => decide (wnF want b ∈ act)).length
  | [], _ => by simp
  | w :: r, hn => by
    obtain ⟨h1, h2⟩ := List.nodup_cons.1 hn
    have ih := goes_len (own := own) (want := want) h2
    rw [List.flatMap_cons, List.length_append]
    have h3 : (goesL own want w).length ≤ (b8.filter fun b => wnF want b == w).length := by
      have := filter_two (p := fun b => (wnF want b == w) && !(own b == w)) (q := fun _ => false) (r := fun b => wnF want b == w) (fun _ _ => rfl) (fun x hx => by simp at hx ⊢; exact hx.1) (fun x hx => by simp at hx) b8
      unfold goesL
      omega
    have h4 := filter_two (p := fun b => wnF want b == w) (q := fun b => decide (wnF want b ∈ r)) (r := fun b => decide (wnF want b ∈ w :: r)) (fun x hx => by simp at hx ⊢; rw [hx]; exact h1) (fun x hx => by simp at hx ⊢; exact .inl hx) (fun x hx => by simp at hx ⊢; exact .inr hx) b8
    omega
theorem pairs_few {act : List Int} {own : Int → Int} {want : List Int} {m : Nat} (hm : 1 ≤ m) (hn : act.Nodup) : (pairsF act own want m).length ≤ 8 := by
  have h1 : (pairsF act own want m).length ≤ (binsF (pairsF act own want m)).length := by
    have : ∀ l : List (Int × List Int), (∀ p ∈ l, p.2 ≠ []) → l.length ≤ (binsF l).length := fun l => by
      induction l with
      | nil => exact fun _ => Nat.le_refl _
      | cons p r ih =>
        intro h
        have := ih fun q hq => h q (.tail _ hq)
        have hp := List.length_pos_iff.2 (h p (.head _))
        unfold binsF at this ⊢
        rw [List.flatMap_cons, List.length_append, List.length_cons]
        omega
    exact this _ fun p hp => (pairs_each hm hp).2.1
  rw [pairs_bins hm] at h1
  have h2 := goes_len (own := own) (want := want) hn
  have h3 := List.length_filter_le (fun b => decide (wnF want b ∈ act)) b8
  have : b8.length = 8 := rfl
  omega
theorem risF_of : ∀ {la : Int} {l : List Int}, l ≠ [] → l.Pairwise (· < ·) → (∀ b ∈ l, la < b ∧ 0 ≤ b ∧ b < 8) → risF la l = true
  | _, [], h, _, _ => absurd rfl h
  | la, b :: r, _, hp, hb => by
    obtain ⟨h1, h2⟩ := List.pairwise_cons.1 hp
    obtain ⟨q1, q2, q3⟩ := hb b (.head _)
    rw [risF, if_neg (by omega)]
    by_cases hr : r = []
    · rw [hr, risF]; exact decide_eq_true q2
    · exact risF_of hr h2 fun x hx => ⟨h1 x hx, (hb x (.tail _ hx)).2⟩
theorem move_try {t : TbV} {a fl : Int} {p : Int × List Int} (hn : t.cmds.length < 64) (h1 : lastF t < a) (h2 : fl < a) (h3 : a ≤ 1099511627776) (hne : p.2 ≠ []) (hp : p.2.Pairwise (· < ·)) (hl : ∀ b ∈ p.2, 0 ≤ b ∧ b < 8) (hw : p.1 ∈ t.act) (ho : ∀ b ∈ p.2, hasF t.spans b ≠ p.1) : tryF t (mvC a p) fl = 0 := by
  unfold tryF mvC
  have hr : risF (-1) p.2 = true := risF_of hne hp fun b hb => by have := hl b hb; omega
  have ha : ¬ p.2.any (fun b => hasF t.spans b == p.1) = true := by
    intro h
    obtain ⟨b, hb, e⟩ := List.any_eq_true.1 h
    exact ho b hb (by simpa using e)
  rw [if_neg (by omega), if_neg (by simp), if_neg (by simp only; omega), if_pos rfl, if_neg (by simp only [hr]; exact Bool.noConfusion), if_neg (fun h => h hw), if_neg ha]
theorem move_has {t : TbV} (h : TbOk t) {a : Int} {p : Int × List Int} (hp : p.2.Pairwise (· < ·)) (hl : ∀ b ∈ p.2, 0 ≤ b ∧ b < 8) {b : Int} (hb : 0 ≤ b ∧ b < 8) : hasF (addF t (mvC a p)).spans b = if b ∈ p.2 then p.1 else hasF t.spans b := by
  obtain ⟨k, rfl⟩ : ∃ k : Nat, b = k := ⟨b.toNat, by omega⟩
  obtain ⟨row, hr, _⟩ := h.row (b := k) (by omega)
  have e : (addF t (mvC a p)).spans = giveF t.spans a p.2 [p.1] := by unfold addF mvC; rw [if_pos rfl]
  rw [e]
  rcases (giveF_at (at_ := a) (to := [p.1]) (by simp) hp (sp := t.spans) fun x hx => by have := hl x hx; have := h.eight; omega).2 k row hr with ⟨h1, w, hw, q⟩ | ⟨h1, q⟩
  · obtain rfl : w = p.1 := by simpa using hw
    rw [if_pos h1]
    unfold hasF
    rw [Int.toNat_natCast, q]
    simp
  · rw [if_neg h1]
    unfold hasF
    rw [Int.toNat_natCast, q, hr]
structure MvOk (t0 : TbV) (want : List Int) (a0 : Int) (P : List (Int × List Int)) (k : Nat) (t : TbV) : Prop where
  ok : TbOk t
  act : t.act = t0.act
  len : t.cmds.length = t0.cmds.length + k
  last : lastF t = if k = 0 then lastF t0 else a0 + k - 1
  has : ∀ b, 0 ≤ b ∧ b < 8 → hasF t.spans b = if b ∈ binsF (P.take k) then wnF want b else hasF t0.spans b
theorem MvOk.zero {t0 : TbV} (h : TbOk t0) (want : List Int) (a0 : Int) (P : List (Int × List Int)) : MvOk t0 want a0 P 0 t0 := ⟨h, rfl, rfl, rfl, fun b _ => by rw [List.take_zero, if_neg (by simp [binsF])]⟩
theorem binsF_take {P : List (Int × List Int)} {k : Nat} {p : Int × List Int} (h : P[k]? = some p) : binsF (P.take (k + 1)) = binsF (P.take k) ++ p.2 := by
  rw [List.take_add_one, h]
  simp [binsF]
set_option maxHeartbeats 4000000 in
theorem MvOk.next {t0 t : TbV} {want : List Int} {a0 fl : Int} {m k : Nat} {p : Int × List Int} (hm : 1 ≤ m) (h : MvOk t0 want a0 (pairsF t0.act (hasF t0.spans) want m) k t) (hk : (pairsF t0.act (hasF t0.spans) want m)[k]? = some p) (hall : t0.cmds.length + (pairsF t0.act (hasF t0.spans) want m).length ≤ 64) (hl : lastF t0 < a0) (ha : a0 - 1 + (pairsF t0.act (hasF t0.spans) want m).length ≤ 1099511627776) (hf : fl < a0) :
    tryF t (mvC (a0 + k) p) fl = 0 ∧ MvOk t0 want a0 (pairsF t0.act (hasF t0.spans) want m) (k + 1) (addF t (mvC (a0 + k) p)) := by
  have hlt := (List.getElem?_eq_some_iff.1 hk).1
  obtain ⟨e1, e2, e3, e4, e5⟩ := pairs_each hm (List.mem_of_getElem? hk)
  have hno : ∀ b ∈ p.2, b ∉ binsF ((pairsF t0.act (hasF t0.spans) want m).take k) := fun b hb hin => by
    have hc := binsF_take hk
    obtain ⟨q1, q2, q3⟩ := e5 b hb
    have hn : t0.act.Nodup := by rw [← h.act]; exact h.ok.rise.imp fun h => by omega
    have hb1 := bins_count (own := hasF t0.spans) hm hn q1 (by rw [q2]; exact e1)
    have hb2 : (binsF ((pairsF t0.act (hasF t0.spans) want m).take (k + 1))).count b ≤ (binsF (pairsF t0.act (hasF t0.spans) want m)).count b := by
      refine List.Sublist.count_le _ ?_
      unfold binsF
      rw [← List.take_append_drop (k + 1) (pairsF t0.act (hasF t0.spans) want m), List.flatMap_append]
      simp only [List.take_append_drop]
      exact List.sublist_append_left _ _
    rw [hc, List.count_append] at hb2
    have c1 := List.count_pos_iff.2 hin
    have c2 := List.count_pos_iff.2 hb
    rw [hb1] at hb2
    split at hb2 <;> omega
  have hh : ∀ b ∈ p.2, hasF t.spans b ≠ p.1 := fun b hb => by
    obtain ⟨q1, q2, q3⟩ := e5 b hb
    rw [h.has b q1, if_neg (hno b hb)]
    exact q3
  have hla : lastF t < a0 + k := by rw [h.last]; split <;> omega
  have htry : tryF t (mvC (a0 + k) p) fl = 0 := move_try (by rw [h.len]; omega) hla (by omega) (by omega) e2 e4 (fun b hb => (e5 b hb).1) (by rw [h.act]; exact e1) hh
  refine ⟨htry, addF_ok h.ok htry, ?_, ?_, ?_, ?_⟩
  · rw [show (addF t (mvC (a0 + k) p)).act = t.act by unfold addF mvC; rw [if_pos rfl]]; exact h.act
  · rw [addF_cmds, List.length_append, h.len]; rfl
  · rw [addF_last, if_neg (by omega)]
    show a0 + (k : Int) = _
    omega
  · intro b hb
    rw [move_has h.ok e4 (fun b hb => (e5 b hb).1) hb, binsF_take hk]
    by_cases h1 : b ∈ p.2
    · rw [if_pos h1, if_pos (List.mem_append_right _ h1), (e5 b h1).2.1]
    · rw [if_neg h1, h.has b hb]
      have : b ∈ binsF ((pairsF t0.act (hasF t0.spans) want m).take k) ++ p.2 ↔ b ∈ binsF ((pairsF t0.act (hasF t0.spans) want m).take k) := by
        rw [List.mem_append]
        exact ⟨fun h => h.resolve_right h1, .inl⟩
      simp only [this]
theorem MvOk.end_ {t0 t : TbV} {want : List Int} {a0 : Int} {m : Nat} (hm : 1 ≤ m) (h : MvOk t0 want a0 (pairsF t0.act (hasF t0.spans) want m) (pairsF t0.act (hasF t0.spans) want m).length t) {b : Int} (hb : 0 ≤ b ∧ b < 8) (hw : wnF want b ∈ t0.act) : hasF t.spans b = wnF want b := by
  rw [h.has b hb, List.take_length]
  have hn : t0.act.Nodup := by rw [← h.act]; exact h.ok.rise.imp fun h => by omega
  have hb1 := bins_count (own := hasF t0.spans) (want := want) hm hn hb hw
  by_cases h1 : b ∈ binsF (pairsF t0.act (hasF t0.spans) want m)
  · rw [if_pos h1]
  · rw [if_neg h1]
    rw [List.count_eq_zero_of_not_mem h1] at hb1
    by_cases h2 : hasF t0.spans b = wnF want b
    · exact h2
    · rw [if_pos h2] at hb1; omega
theorem own_has {t : TbV} (h : TbOk t) {b : Int} (hb : 0 ≤ b ∧ b < 8) : ownF t b 1099511627776 = hasF t.spans b := by
  obtain ⟨k, rfl⟩ : ∃ k : Nat, b = k := ⟨b.toNat, by omega⟩
  obtain ⟨row, hr, hro⟩ := h.row (b := k) (by omega)
  have hl := List.length_pos_iff.2 hro.ne
  obtain ⟨j, hj⟩ : ∃ j, row.length = j + 1 := ⟨row.length - 1, by omega⟩
  obtain ⟨q, hq⟩ : ∃ q, row[j]? = some q := ⟨_, List.getElem?_eq_getElem (by omega)⟩
  rw [own_end h (by omega) hr hj hq]
  exact (hasF_last hr (by rw [List.getLast?_eq_getElem?, hj, Nat.add_sub_cancel]; exact hq)).symm
theorem has_act {t : TbV} (h : TbOk t) {b : Int} (hb : 0 ≤ b ∧ b < 8) : hasF t.spans b ∈ t.act := by
  obtain ⟨k, rfl⟩ : ∃ k : Nat, b = k := ⟨b.toNat, by omega⟩
  obtain ⟨row, hr, hro⟩ := h.row (b := k) (by omega)
  have hl := List.length_pos_iff.2 hro.ne
  obtain ⟨j, hj⟩ : ∃ j, row.length = j + 1 := ⟨row.length - 1, by omega⟩
  obtain ⟨q, hq⟩ : ∃ q, row[j]? = some q := ⟨_, List.getElem?_eq_getElem (by omega)⟩
  have hg : row.getLast? = some q := by rw [List.getLast?_eq_getElem?, hj, Nat.add_sub_cancel]; exact hq
  rw [hasF_last hr hg]
  exact hro.own q hg
end Go.Proofs.YtncgndcepoicbaaGreat
namespace Go.Proofs.YtncgndcepoicbaaGreat
open Go.RowKit
attribute [local irreducible] Fn WC WL WR OW Qt YieldFn QW FnP FnD
set_option maxHeartbeats 2000000 in
theorem dClass_fn {k a b g : Int} {L : List (Nat × Obj)} : Fn Tryz.prog 112 [.agg (opC k a b g)] L (fun v L' => v = .int .i64 (clsF k) ∧ L' = L) := by
  refine Fn_enter Tryz.func112 rfl Tryz.ntmps112 rfl fun gw => ?_
  by_cases e0 : k = 0
  · subst e0
    repeat (first | refine RQ ?_ | (refine RE ?_; try intro _) | refine RC ?_ | refine WC_region ?_)
    exact ⟨rfl, _, _, Res1 rfl (resV_tmp rfl), .cons _ (.refl _), rfl, rfl⟩
  have f0 : (k == 0) = false := by simpa using e0
  by_cases e1 : k = 1
  · subst e1
    repeat (first | refine RQ ?_ | (refine RE ?_; try intro _) | refine RC ?_ | refine WC_region ?_)
    exact ⟨rfl, _, _, Res1 rfl (resV_tmp rfl), .cons _ (.refl _), rfl, rfl⟩
  have f1 : (k == 1) = false := by simpa using e1
  by_cases e2 : k = 2
  · subst e2
    repeat (first | refine RQ ?_ | (refine RE ?_; try intro _) | refine RC ?_ | refine WC_region ?_)
    exact ⟨rfl, _, _, Res1 rfl (resV_tmp rfl), .cons _ (.refl _), rfl, rfl⟩
  have f2 : (k == 2) = false := by simpa using e2
  by_cases e3 : k = 3
  · subst e3
    repeat (first | refine RQ ?_ | (refine RE ?_; try intro _) | refine RC ?_ | refine WC_region ?_)
    exact ⟨rfl, _, _, Res1 rfl (resV_tmp rfl), .cons _ (.refl _), rfl, rfl⟩
  have f3 : (k == 3) = false := by simpa using e3
  by_cases e4 : k = 4
  · subst e4
    repeat (first | refine RQ ?_ | (refine RE ?_; try intro _) | refine RC ?_ | refine WC_region ?_)
    exact ⟨rfl, _, _, Res1 rfl (resV_tmp rfl), .cons _ (.refl _), rfl, rfl⟩
  have f4 : (k == 4) = false := by simpa using e4
  by_cases e5 : k = 5
  · subst e5
    repeat (first | refine RQ ?_ | (refine RE ?_; try intro _) | refine RC ?_ | refine WC_region ?_)
    exact ⟨rfl, _, _, Res1 rfl (resV_tmp rfl), .cons _ (.refl _), rfl, rfl⟩
  have f5 : (k == 5) = false := by simpa using e5
  by_cases e6 : k = 6
  · subst e6
    repeat (first | refine RQ ?_ | (refine RE ?_; try intro _) | refine RC ?_ | refine WC_region ?_)
    exact ⟨rfl, _, _, Res1 rfl (resV_tmp rfl), .cons _ (.refl _), rfl, rfl⟩
  have f6 : (k == 6) = false := by simpa using e6
  by_cases e7 : k = 7
  · subst e7
    repeat (first | refine RQ ?_ | (refine RE ?_; try intro _) | refine RC ?_ | refine WC_region ?_)
    exact ⟨rfl, _, _, Res1 rfl (resV_tmp rfl), .cons _ (.refl _), rfl, rfl⟩
  have f7 : (k == 7) = false := by simpa using e7
  repeat (first | refine RQ ?_ | (refine RE ?_; try intro _) | refine RC ?_ | refine WC_region ?_)
  refine ⟨rfl, _, _, Res1 rfl (resV_tmp rfl), .cons _ (.refl _), ?_, rfl⟩
  unfold clsF
  rw [if_neg (by omega), if_neg (by omega), if_neg (by omega)]
set_option maxHeartbeats 4000000 in
theorem dMay_fn {k a b g : Int} {L : List (Nat × Obj)} : Fn Tryz.prog 111 [.agg (opC k a b g)] L (fun v L' => v = .bool (opF k a b g) ∧ L' = L) := by
  have no : ∀ {x : Bool}, opF k a b g = x → (Value.bool x) = .bool (opF k a b g) := fun e => by rw [e]
  refine Fn_enter Tryz.func111 rfl Tryz.ntmps111 rfl fun gw => ?_
  by_cases hC : clsF k = 1
  · have d : (clsF k != 1) = false := by simpa using hC
    by_cases g0 : g < 0
    · have d0 : decide (g < 0) = true := decide_eq_true g0
      repeat (first | refine RQ ?_ | (refine RE ?_; try intro _) | ((first | refine WL_op rfl ?_ | refine WL_yes (h := ?_)); (first | refine OW_callP rfl (hF := dClass_fn) (hk := ?_))) | refine RC ?_ | refine WG 0 ?_ | refine WG 1 ?_ | refine WG 2 ?_)
      exact ⟨rfl, _, L, Res1 rfl (resV_tmp rfl), .cons _ (.refl _), no (by simp [opF, hC]; omega), rfl⟩
    have d0 : decide (g < 0) = false := decide_eq_false g0
    by_cases g3 : g > 3
    · have d3 : decide (g > 3) = true := decide_eq_true g3
      repeat (first | refine RQ ?_ | (refine RE ?_; try intro _) | ((first | refine WL_op rfl ?_ | refine WL_yes (h := ?_)); (first | refine OW_callP rfl (hF := dClass_fn) (hk := ?_))) | refine RC ?_ | refine WG 0 ?_ | refine WG 1 ?_ | refine WG 2 ?_)
      exact ⟨rfl, _, L, Res1 rfl (resV_tmp rfl), .cons _ (.refl _), no (by simp [opF, hC]; omega), rfl⟩
    have d3 : decide (g > 3) = false := decide_eq_false g3
    have hk : 4 ≤ k ∧ k ≤ 6 := by
      unfold clsF at hC
      split at hC
      · omega
      · split at hC
        · assumption
        · split at hC <;> omega
    have hop : opF k a b g = mayF k a b := by
      have e1 : (decide (0 ≤ k) && decide (k ≤ 7) && decide (0 ≤ g) && decide (g ≤ if clsF k = 1 then 3 else 0)) = true := by rw [if_pos hC]; simp; omega
      unfold opF; rw [e1, Bool.true_and]
    rw [hop]
    have hk3 : k = 4 ∨ k = 5 ∨ k = 6 := by omega
    rcases hk3 with rfl | rfl | rfl
    · cases h1 : inF a 1 1073741824
      · repeat (first | refine RQ ?_ | (refine RE ?_; try intro _) | ((first | refine WL_op rfl ?_ | refine WL_yes (h := ?_)); (first | refine OW_callP rfl (hF := dClass_fn) (hk := ?_) | refine OW_callP rfl (hF := inR_fn) (hk := ?_))) | refine RC ?_ | refine WC_region ?_)
        exact ⟨rfl, _, L, Res1 rfl (resV_tmp rfl), .cons _ (.refl _), by simp [mayF, h1], rfl⟩
      · repeat (first | refine RQ ?_ | (refine RE ?_; try intro _) | ((first | refine WL_op rfl ?_ | refine WL_yes (h := ?_)); (first | refine OW_callP rfl (hF := dClass_fn) (hk := ?_) | refine OW_callP rfl (hF := inR_fn) (hk := ?_))) | refine RC ?_ | refine WC_region ?_)
        exact ⟨rfl, _, L, Res1 rfl (resV_tmp rfl), .cons _ (.refl _), by simp [mayF, h1], rfl⟩
    · cases h1 : inF a 1 1073741824
      · repeat (first | refine RQ ?_ | (refine RE ?_; try intro _) | ((first | refine WL_op rfl ?_ | refine WL_yes (h := ?_)); (first | refine OW_callP rfl (hF := dClass_fn) (hk := ?_) | refine OW_callP rfl (hF := inR_fn) (hk := ?_))) | refine RC ?_ | refine WC_region ?_)
        exact ⟨rfl, _, L, Res1 rfl (resV_tmp rfl), .cons _ (.refl _), by simp [mayF, h1], rfl⟩
      have ha : 1 ≤ a ∧ a ≤ 1073741824 := by simpa [inF] using h1
      by_cases h2 : 1 ≤ b
      · have d2 : decide (b > 0) = true := decide_eq_true (by omega)
        have hne : b ≠ 0 := by omega
        cases h3 : (a.tmod b == 0)
        · repeat (first | refine RQ ?_ | (refine RE ?_; try intro _) | ((first | refine WL_op rfl ?_ | refine WL_yes (h := ?_)); (first | refine OW_callP rfl (hF := dClass_fn) (hk := ?_) | refine OW_callP rfl (hF := inR_fn) (hk := ?_))) | refine RC ?_ | refine WC_region ?_)
          exact ⟨rfl, _, L, Res1 rfl (resV_tmp rfl), .cons _ (.refl _), by simp [mayF, h1, h3], rfl⟩
        · have h4 : a.tmod b = 0 := by simpa using h3
          have hq : decide (IntKind.i64.wrap (a.tdiv b) ≤ 4) = decide (a ≤ 4 * b) := by
            have e1 := Int.mul_tdiv_add_tmod a b
            rw [h4, Int.add_zero] at e1
            have q0 : 0 ≤ a.tdiv b := by rw [Int.tdiv_eq_ediv_of_nonneg (by omega)]; exact Int.ediv_nonneg (by omega) (by omega)
            have q1 : a.tdiv b ≤ a := by rw [Int.tdiv_eq_ediv_of_nonneg (by omega)]; exact Int.ediv_le_self _ (by omega)
            rw [wI64 (by omega) (by omega)]
            by_cases h5 : a.tdiv b ≤ 4
            · have := Int.mul_le_mul_of_nonneg_left h5 (show (0 : Int) ≤ b by omega)
              rw [decide_eq_true h5, decide_eq_true (by omega)]
            · have := Int.mul_le_mul_of_nonneg_left (show (5 : Int) ≤ a.tdiv b by omega) (show (0 : Int) ≤ b by omega)
              rw [decide_eq_false h5, decide_eq_false (by omega)]
          repeat (first | refine RQ ?_ | (refine RE ?_; try intro _) | ((first | refine WL_op rfl ?_ | refine WL_yes (h := ?_)); (first | refine OW_callP rfl (hF := dClass_fn) (hk := ?_) | refine OW_callP rfl (hF := inR_fn) (hk := ?_))) | refine RC ?_ | refine WC_region ?_)
          rw [hq]
          exact ⟨rfl, _, L, Res1 rfl (resV_tmp rfl), .cons _ (.refl _), by simp [mayF, h1, h2, h4], rfl⟩
      · have d2 : decide (b > 0) = false := decide_eq_false (by omega)
        repeat (first | refine RQ ?_ | (refine RE ?_; try intro _) | ((first | refine WL_op rfl ?_ | refine WL_yes (h := ?_)); (first | refine OW_callP rfl (hF := dClass_fn) (hk := ?_) | refine OW_callP rfl (hF := inR_fn) (hk := ?_))) | refine RC ?_ | refine WC_region ?_)
        exact ⟨rfl, _, L, Res1 rfl (resV_tmp rfl), .cons _ (.refl _), by simp [mayF, h2], rfl⟩
    · cases h1 : inF a 1 1073741824
      · repeat (first | refine RQ ?_ | (refine RE ?_; try intro _) | ((first | refine WL_op rfl ?_ | refine WL_yes (h := ?_)); (first | refine OW_callP rfl (hF := dClass_fn) (hk := ?_) | refine OW_callP rfl (hF := inR_fn) (hk := ?_))) | refine RC ?_ | refine WC_region ?_)
        exact ⟨rfl, _, L, Res1 rfl (resV_tmp rfl), .cons _ (.refl _), by simp [mayF, h1], rfl⟩
      · repeat (first | refine RQ ?_ | (refine RE ?_; try intro _) | ((first | refine WL_op rfl ?_ | refine WL_yes (h := ?_)); (first | refine OW_callP rfl (hF := dClass_fn) (hk := ?_) | refine OW_callP rfl (hF := inR_fn) (hk := ?_))) | refine RC ?_ | refine WC_region ?_)
        exact ⟨rfl, _, L, Res1 rfl (resV_tmp rfl), .cons _ (.refl _), by simp [mayF, h1], rfl⟩
  · have d : (clsF k != 1) = true := by simpa using hC
    by_cases g0 : g = 0
    rotate_left
    · have dn : (g != 0) = true := by simpa using g0
      repeat (first | refine RQ ?_ | (refine RE ?_; try intro _) | ((first | refine WL_op rfl ?_ | refine WL_yes (h := ?_)); (first | refine OW_callP rfl (hF := dClass_fn) (hk := ?_))) | refine RC ?_ | refine WG 0 ?_ | refine WG 1 ?_ | refine WG 2 ?_)
      refine ⟨rfl, _, L, Res1 rfl (resV_tmp rfl), .cons _ (.refl _), no ?_, rfl⟩
      unfold opF
      rw [if_neg hC]
      have : (decide (0 ≤ g) && decide (g ≤ 0)) = false := by simp; omega
      rcases Int.lt_or_le g 0 with h | h
      · simp [show ¬ 0 ≤ g by omega]
      · simp [show ¬ g ≤ 0 by omega]
    subst g0
    have dn : ((0 : Int) != 0) = false := by decide
    have d0 : decide ((0 : Int) < 0) = false := by decide
    have d3 : decide ((0 : Int) > 3) = false := by decide
    by_cases e0 : k = 0
    · subst e0
      repeat (first | refine RQ ?_ | (refine RE ?_; try intro _) | ((first | refine WL_op rfl ?_ | refine WL_yes (h := ?_)); (first | refine OW_callP rfl (hF := dClass_fn) (hk := ?_) | refine OW_callP rfl (hF := inR_fn) (hk := ?_))) | refine RC ?_ | refine WC_region ?_)
      exact ⟨rfl, _, L, Res1 rfl (resV_tmp rfl), .cons _ (.refl _), rfl, rfl⟩
    have f0 : (k == 0) = false := by simpa using e0
    by_cases e1 : k = 1
    · subst e1
      cases h1 : inF a 1 4294967295
      · repeat (first | refine RQ ?_ | (refine RE ?_; try intro _) | ((first | refine WL_op rfl ?_ | refine WL_yes (h := ?_)); (first | refine OW_callP rfl (hF := dClass_fn) (hk := ?_) | refine OW_callP rfl (hF := inR_fn) (hk := ?_))) | refine RC ?_ | refine WC_region ?_)
        exact ⟨rfl, _, L, Res1 rfl (resV_tmp rfl), .cons _ (.refl _), by simp [opF, clsF, mayF, h1], rfl⟩
      · repeat (first | refine RQ ?_ | (refine RE ?_; try intro _) | ((first | refine WL_op rfl ?_ | refine WL_yes (h := ?_)); (first | refine OW_callP rfl (hF := dClass_fn) (hk := ?_) | refine OW_callP rfl (hF := inR_fn) (hk := ?_))) | refine RC ?_ | refine WC_region ?_)
        exact ⟨rfl, _, L, Res1 rfl (resV_tmp rfl), .cons _ (.refl _), by simp [opF, clsF, mayF, h1], rfl⟩
    have f1 : (k == 1) = false := by simpa using e1
    by_cases e2 : k = 2
    · subst e2
      cases h1 : inF a 1 1073741824
      · repeat (first | refine RQ ?_ | (refine RE ?_; try intro _) | ((first | refine WL_op rfl ?_ | refine WL_yes (h := ?_)); (first | refine OW_callP rfl (hF := dClass_fn) (hk := ?_) | refine OW_callP rfl (hF := inR_fn) (hk := ?_))) | refine RC ?_ | refine WC_region ?_)
        exact ⟨rfl, _, L, Res1 rfl (resV_tmp rfl), .cons _ (.refl _), by simp [opF, clsF, mayF, h1], rfl⟩
      · have ha : 1 ≤ a ∧ a ≤ 1073741824 := by simpa [inF] using h1
        repeat (first | refine RQ ?_ | (refine RE ?_; try intro _) | ((first | refine WL_op rfl ?_ | refine WL_yes (h := ?_)); (first | refine OW_callP rfl (hF := dClass_fn) (hk := ?_) | refine OW_callP rfl (hF := inR_fn) (hk := ?_))) | refine RC ?_ | refine WC_region ?_)
        rw [wI64 (x := a - 1) (by omega) (by omega)]
        exact ⟨rfl, _, L, Res1 rfl (resV_tmp rfl), .cons _ (.refl _), by simp [opF, clsF, mayF, h1], rfl⟩
    have f2 : (k == 2) = false := by simpa using e2
    by_cases e3 : k = 3
    · subst e3
      repeat (first | refine RQ ?_ | (refine RE ?_; try intro _) | ((first | refine WL_op rfl ?_ | refine WL_yes (h := ?_)); (first | refine OW_callP rfl (hF := dClass_fn) (hk := ?_) | refine OW_callP rfl (hF := inR_fn) (hk := ?_))) | refine RC ?_ | refine WC_region ?_)
      exact ⟨rfl, _, L, Res1 rfl (resV_tmp rfl), .cons _ (.refl _), by simp [opF, clsF, mayF], rfl⟩
    have f3 : (k == 3) = false := by simpa using e3
    by_cases e7 : k = 7
    · subst e7
      cases h1 : inF a 1 1073741824
      · repeat (first | refine RQ ?_ | (refine RE ?_; try intro _) | ((first | refine WL_op rfl ?_ | refine WL_yes (h := ?_)); (first | refine OW_callP rfl (hF := dClass_fn) (hk := ?_) | refine OW_callP rfl (hF := inR_fn) (hk := ?_))) | refine RC ?_ | refine WC_region ?_)
        exact ⟨rfl, _, L, Res1 rfl (resV_tmp rfl), .cons _ (.refl _), by simp [opF, clsF, mayF, h1], rfl⟩
      · repeat (first | refine RQ ?_ | (refine RE ?_; try intro _) | ((first | refine WL_op rfl ?_ | refine WL_yes (h := ?_)); (first | refine OW_callP rfl (hF := dClass_fn) (hk := ?_) | refine OW_callP rfl (hF := inR_fn) (hk := ?_))) | refine RC ?_ | refine WC_region ?_)
        exact ⟨rfl, _, L, Res1 rfl (resV_tmp rfl), .cons _ (.refl _), by simp [opF, clsF, mayF, h1], rfl⟩
    have f7 : (k == 7) = false := by simpa using e7
    have hk : k < 0 ∨ 7 < k := by
      unfold clsF at hC
      split at hC
      · omega
      · split at hC
        · exact absurd rfl hC
        · omega
    have f4 : (k == 4) = false := by simp; omega
    have f5 : (k == 5) = false := by simp; omega
    have f6 : (k == 6) = false := by simp; omega
    repeat (first | refine RQ ?_ | (refine RE ?_; try intro _) | ((first | refine WL_op rfl ?_ | refine WL_yes (h := ?_)); (first | refine OW_callP rfl (hF := dClass_fn) (hk := ?_) | refine OW_callP rfl (hF := inR_fn) (hk := ?_))) | refine RC ?_ | refine WC_region ?_)
    refine ⟨rfl, _, L, Res1 rfl (resV_tmp rfl), .cons _ (.refl _), no ?_, rfl⟩
    unfold opF
    rcases hk with h | h
    · simp [show ¬ 0 ≤ k by omega]
    · simp [show ¬ k ≤ 7 by omega]
theorem dCheck_fn {k a b g : Int} {L : List (Nat × Obj)} : Fn Tryz.prog 118 [.agg (opC k a b g)] L (fun v L' => v = .int .i64 (if opF k a b g = true then 0 else 13) ∧ L' = L) := by
  refine Fn_enter Tryz.func118 rfl Tryz.ntmps118 rfl fun gw => ?_
  cases h : opF k a b g
  · repeat (first | refine RQ ?_ | (refine RE ?_; try intro _) | (refine WL_op rfl ?_; (first | refine OW_callP rfl (hF := dMay_fn) (hk := ?_))) | refine RC ?_ | refine WC_region ?_)
    exact ⟨rfl, _, _, Res1 rfl (resV_tmp rfl), .cons _ (.refl _), rfl, rfl⟩
  · repeat (first | refine RQ ?_ | (refine RE ?_; try intro _) | (refine WL_op rfl ?_; (first | refine OW_callP rfl (hF := dMay_fn) (hk := ?_))) | refine RC ?_ | refine WC_region ?_)
    exact ⟨rfl, _, _, Res1 rfl (resV_tmp rfl), .cons _ (.refl _), rfl, rfl⟩
end Go.Proofs.YtncgndcepoicbaaGreat
