/-
  A part of what the last of these texts needs; by itself it proves no statement.
-/
import Derived.ChangeKeysEq
import Derived.Test.YtncgndcepoicbaaGreatKL201
namespace Go.Proofs.YtncgndcepoicbaaGreat
open Go.RowKit
theorem quoF_nn {act : List Int} (h3 : act.length ≤ 3) (w : Int) : 0 ≤ quoF act w := (quoF_rng h3 w).1
theorem quoF_sum {act : List Int} (h1 : act ≠ []) (h3 : act.length ≤ 3) (hn : act.Nodup) : sumF (quoF act) act = 8 := by
  match act, h1, h3, hn with
  | [a], _, _, _ => simp [sumF, quoF, quoN]
  | [a, b], _, _, hn =>
    have hab : b ≠ a := by simp at hn; exact fun e => hn e.symm
    simp [sumF, quoF, quoN, hab]
  | [a, b, c], _, _, hn =>
    have hab : b ≠ a := by simp at hn; exact fun e => hn.1.1 e.symm
    have hac : c ≠ a := by simp at hn; exact fun e => hn.1.2 e.symm
    have hbc : c ≠ b := by simp at hn; exact fun e => hn.2 e.symm
    simp [sumF, quoF, quoN, hab, hac, hbc]
theorem quoF_fall {act : List Int} (h3 : act.length ≤ 3) (hn : act.Nodup) {i : Nat} {w v u : Int} (hi : act[i + 1]? = some w) (hv : act[i]? = some v) (hu : act[0]? = some u) : quoF act w ≤ quoF act v ∧ quoF act u - quoF act w ≤ 1 := by
  match act, h3, hn with
  | [], _, _ => simp at hi
  | [a], _, _ => simp at hi
  | [a, b], _, hn =>
    have hab : b ≠ a := by simp at hn; exact fun e => hn e.symm
    match i with
    | 0 =>
      simp at hi hv hu
      subst hi hv hu
      simp [quoF, quoN, hab]
    | i + 1 => simp at hi
  | [a, b, c], _, hn =>
    have hab : b ≠ a := by simp at hn; exact fun e => hn.1.1 e.symm
    have hac : c ≠ a := by simp at hn; exact fun e => hn.1.2 e.symm
    have hbc : c ≠ b := by simp at hn; exact fun e => hn.2 e.symm
    match i with
    | 0 =>
      simp at hi hv hu
      subst hi hv hu
      simp [quoF, quoN, hab]
    | 1 =>
      simp at hi hv hu
      subst hi hv hu
      simp [quoF, quoN, hab, hac, hbc]
    | i + 2 => simp at hi
theorem sum_count (act : List Int) (hn : act.Nodup) : ∀ {l : List Int}, (∀ w ∈ l, w ∈ act) → sumF (fun w => (l.count w : Int)) act = l.length
  | [], _ => by
    have : ∀ l : List Int, (l.map fun _ => (0 : Int)).sum = 0 := fun l => by
      induction l with
      | nil => rfl
      | cons _ _ ih => simp [ih]
    unfold sumF
    simpa using this act
  | x :: r, h => by
    have ih := sum_count act hn (l := r) fun w hw => h w (.tail _ hw)
    have hx := h x (.head _)
    have e : (fun w => (((x :: r).count w : Nat) : Int)) = upF (fun w => (r.count w : Int)) x ((r.count x : Int) + 1) := by
      funext w
      unfold upF
      by_cases hw : w = x
      · subst hw; simp
      · rw [if_neg hw, List.count_cons_of_ne (fun e => hw e.symm)]
    rw [e, sumF_up hn, if_pos hx, ih, List.length_cons]
    omega
theorem level_count {act own : List Int} (h1 : act ≠ []) (h3 : act.length ≤ 3) (hn : act.Nodup) (h0 : (0 : Int) ∉ act) (h8 : own.length = 8) (ho : ∀ w ∈ own, w ∈ act) :
    (levelF act own).length = 8 ∧ (∀ w ∈ act, ((levelF act own).count w : Int) = quoF act w) ∧ (∀ w ∈ levelF act own, w ∈ act) := by
  have hne : ∀ w ∈ own, w ≠ 0 := fun w hw e => h0 (e ▸ ho w hw)
  obtain ⟨k1, k2, k3⟩ := keepF_all (q := quoF act) (own := own) (quoF_nn h3) hne
  have hq2 : ∀ w, 0 ≤ (keepF (quoF act) own).2 w := fun w => (keepF_rng (fun w => quoF_rng h3 w) w).1
  have hwa : ∀ w ∈ act, w ≠ 0 := fun w hw e => h0 (e ▸ hw)
  have hka : ∀ w ∈ (keepF (quoF act) own).1, w = 0 ∨ w ∈ act := fun w hw => by
    obtain ⟨i, hi⟩ := List.mem_iff_getElem?.1 hw
    rcases k2 i w hi with h | h
    · exact .inl h
    · exact .inr (ho w (List.mem_of_getElem? h))
  have hsum : sumF (keepF (quoF act) own).2 act = (keepF (quoF act) own).1.count 0 := by
    have hA := sum_count (0 :: act) (List.nodup_cons.2 ⟨h0, hn⟩) (l := (keepF (quoF act) own).1) fun w hw => by
      rcases hka w hw with h | h
      · rw [h]; exact .head _
      · exact .tail _ h
    rw [k1, h8] at hA
    have hB : sumF (fun w => (((keepF (quoF act) own).1.count w : Nat) : Int)) (0 :: act) = ((keepF (quoF act) own).1.count 0 : Int) + sumF (fun w => (((keepF (quoF act) own).1.count w : Nat) : Int)) act := by simp [sumF]
    have hC : ∀ l : List Int, (∀ w ∈ l, w ≠ 0) → sumF (keepF (quoF act) own).2 l = sumF (quoF act) l - sumF (fun w => (((keepF (quoF act) own).1.count w : Nat) : Int)) l := fun l => by
      induction l with
      | nil => intro _; rfl
      | cons x r ih =>
        intro h
        have := ih fun w hw => h w (.tail _ hw)
        have hx := (k3 x (h x (.head _))).2
        unfold sumF at this ⊢
        simp only [List.map_cons, List.sum_cons]
        omega
    rw [hC act hwa, quoF_sum h1 h3 hn]
    omega
  obtain ⟨f1, _, f3, f4⟩ := fillF_all hn h0 (q := (keepF (quoF act) own).2) (l := (keepF (quoF act) own).1) hq2 hsum
  refine ⟨by rw [levelF, f1, k1, h8], fun w hw => ?_, fun w hw => ?_⟩
  · have := f3 w hw
    obtain ⟨_, e2⟩ := k3 w (hwa w hw)
    rw [levelF]
    omega
  · rcases f4 w hw with h | ⟨h, h'⟩
    · exact h
    · exact (hka w h).resolve_left h'
theorem keep_id : ∀ {own : List Int} {q : Int → Int}, (∀ w, (own.count w : Int) ≤ q w) → (keepF q own).1 = own
  | [], _, _ => rfl
  | x :: r, q, h => by
    have hx := h x
    rw [List.count_cons_self] at hx
    rw [keepF_pos (show 0 < q x by omega), keep_id (own := r) (q := upF q x (q x - 1)) fun w => by
      unfold upF
      by_cases hw : w = x
      · subst hw; rw [if_pos rfl]; omega
      · rw [if_neg hw]
        have := h w
        rw [List.count_cons_of_ne (fun e => hw e.symm)] at this
        exact this]
theorem fill_id {act : List Int} {q : Int → Int} : ∀ {l : List Int}, (∀ w ∈ l, w ≠ 0) → fillF act q l = l
  | [], _ => rfl
  | x :: r, h => by rw [fillF, if_neg (h x (.head _)), fill_id fun w hw => h w (.tail _ hw)]
theorem level_id {act own : List Int} (h : ∀ w, (own.count w : Int) ≤ quoF act w) (h0 : ∀ w ∈ own, w ≠ 0) : levelF act own = own := by
  rw [levelF, keep_id h, fill_id h0]
theorem keep_le : ∀ {l : List Int} {q : Int → Int}, (∀ w, 0 ≤ q w) → ∀ w, 0 ≤ (keepF q l).2 w ∧ (keepF q l).2 w ≤ q w
  | [], q, h, w => ⟨h w, Int.le_refl _⟩
  | x :: r, q, h, w => by
    by_cases hx : 0 < q x
    · rw [keepF_pos hx]
      have := keep_le (l := r) (q := upF q x (q x - 1)) (upF_nn h (by omega)) w
      refine ⟨this.1, Int.le_trans this.2 ?_⟩
      unfold upF
      split
      · rename_i e; rw [e]; omega
      · exact Int.le_refl _
    · rw [keepF_neg hx]; exact keep_le h w
theorem keep_zero : ∀ {l : List Int} {q : Int → Int} {i : Nat} {w : Int}, (∀ w, 0 ≤ q w) → (∀ w ∈ l, w ≠ 0) → (keepF q l).1[i]? = some 0 → l[i]? = some w → (keepF q l).2 w = 0
  | [], _, _, _, _, _, _, h => by simp at h
  | x :: r, q, i, w, h, h0, hz, hw => by
    by_cases hx : 0 < q x
    · rw [keepF_pos hx] at hz ⊢
      cases i with
      | zero => exact absurd (by simpa using hz) (h0 x (.head _))
      | succ i => exact keep_zero (upF_nn h (by omega)) (fun w hw => h0 w (.tail _ hw)) (by simpa using hz) (by simpa using hw)
    · rw [keepF_neg hx] at hz ⊢
      cases i with
      | zero =>
        obtain rfl : x = w := by simpa using hw
        have h1 := keep_le (l := r) h x
        have h2 := h x
        show (keepF q r).2 x = 0
        omega
      | succ i => exact keep_zero h (fun w hw => h0 w (.tail _ hw)) (by simpa using hz) (by simpa using hw)
theorem fill_pos {act : List Int} : ∀ {l : List Int} {q : Int → Int} {i : Nat} {a : Int}, l[i]? = some 0 → (fillF act q l)[i]? = some a → a ≠ 0 → 0 < q a
  | [], _, _, _, h, _, _ => by simp at h
  | x :: r, q, i, a, hz, ha, ha0 => by
    rw [fillF] at ha
    by_cases hx : x = 0
    · rw [if_pos hx] at ha
      rcases hf : act.find? (fun a => decide (0 < q a)) with _ | b
      · rw [hf] at ha
        cases i with
        | zero => exact absurd (by simpa using ha.symm) ha0
        | succ i => exact fill_pos (l := r) (by simpa using hz) (by simpa using ha) ha0
      · rw [hf] at ha
        have hb : 0 < q b := by have := List.find?_some hf; simpa using this
        cases i with
        | zero =>
          obtain rfl : b = a := by simpa using ha
          exact hb
        | succ i =>
          have := fill_pos (l := r) (q := upF q b (q b - 1)) (by simpa using hz) (by simpa using ha) ha0
          unfold upF at this
          split at this
          · rename_i e; rw [e]; exact hb
          · exact this
    · rw [if_neg hx] at ha
      cases i with
      | zero => exact absurd (by simpa using hz) hx
      | succ i => exact fill_pos (l := r) (by simpa using hz) (by simpa using ha) ha0
theorem level_stay {act own : List Int} (h3 : act.length ≤ 3) (h0 : (0 : Int) ∉ act) (h8 : own.length = 8) (ho : ∀ w ∈ own, w ∈ act) {i : Nat} {w v : Int} (hw : w ∈ act) (hi : own[i]? = some v) : ((levelF act own)[i]? = some w ∧ v = w) ↔ (keepF (quoF act) own).1[i]? = some w := by
  have hne : ∀ w ∈ own, w ≠ 0 := fun w hw e => h0 (e ▸ ho w hw)
  have hw0 : w ≠ 0 := fun e => h0 (e ▸ hw)
  obtain ⟨k1, k2, k3⟩ := keepF_all (q := quoF act) (own := own) (quoF_nn h3) hne
  have hq2 : ∀ w, 0 ≤ (keepF (quoF act) own).2 w := fun w => (keepF_rng (fun w => quoF_rng h3 w) w).1
  have hil : i < own.length := (List.getElem?_eq_some_iff.1 hi).1
  obtain ⟨u, hu⟩ : ∃ u, (keepF (quoF act) own).1[i]? = some u := ⟨_, List.getElem?_eq_getElem (by omega)⟩
  have hkeep : ∀ x, (keepF (quoF act) own).1[i]? = some x → x ≠ 0 → (levelF act own)[i]? = some x := fun x hx hx0 => by
    have : ∀ (l : List Int) (q : Int → Int) (i : Nat), l[i]? = some x → (fillF act q l)[i]? = some x := fun l => by
      induction l with
      | nil => intro q i h; simp at h
      | cons y r ih =>
        intro q i h
        rw [fillF]
        cases i with
        | zero =>
          obtain rfl : y = x := by simpa using h
          rw [if_neg hx0]; rfl
        | succ i =>
          have h' : r[i]? = some x := by simpa using h
          split
          · split
            · simpa using ih _ i h'
            · simpa using ih _ i h'
          · simpa using ih _ i h'
    exact this _ _ _ hx
  constructor
  · rintro ⟨hl, rfl⟩
    rcases k2 i u hu with rfl | h
    · have hz := keep_zero (quoF_nn h3) hne hu hi
      have hp := fill_pos (act := act) (q := (keepF (quoF act) own).2) hu hl hw0
      omega
    · rw [hi] at h
      rw [hu, h]
  · intro hk
    refine ⟨hkeep w hk hw0, ?_⟩
    rcases k2 i w hk with h | h
    · exact absurd h hw0
    · rw [hi] at h
      exact Option.some.inj h
end Go.Proofs.YtncgndcepoicbaaGreat
namespace Go.Proofs.YtncgndcepoicbaaGreat
open Go.RowKit
def cntA (l : List Int) : List Int := [0, 1, 2, 3].map fun w : Int => (l.count w : Int)
theorem cntA_len (l : List Int) : (cntA l).length = 4 := rfl
theorem cntA_at {l : List Int} {w : Int} (hw : 0 ≤ w ∧ w < 4) : (cntA l)[w.toNat]? = some (l.count w : Int) := by
  have h : w = 0 ∨ w = 1 ∨ w = 2 ∨ w = 3 := by omega
  rcases h with rfl | rfl | rfl | rfl <;> rfl
theorem cntA_set {l : List Int} {w : Int} (hw : 0 ≤ w ∧ w < 4) : cntA (l ++ [w]) = (cntA l).set w.toNat ((l.count w : Int) + 1) := by
  have h : w = 0 ∨ w = 1 ∨ w = 2 ∨ w = 3 := by omega
  unfold cntA
  rcases h with rfl | rfl | rfl | rfl <;> simp [List.count_append]
def stZ (l : List (Int × Int)) : List Int := l.filterMap fun p => if p.1 = p.2 then some p.2 else none
theorem stZ_snocP {l : List (Int × Int)} {a b : Int} (h : a = b) : stZ (l ++ [(a, b)]) = stZ l ++ [b] := by simp [stZ, h]
theorem stZ_snocN {l : List (Int × Int)} {a b : Int} (h : ¬ a = b) : stZ (l ++ [(a, b)]) = stZ l := by simp [stZ, h]
theorem cnt_zip {w : Int} : ∀ {W O K : List Int}, W.length = O.length → K.length = O.length → (∀ i : Nat, (W[i]? = some w ∧ O[i]? = some w) ↔ K[i]? = some w) → (stZ (W.zip O)).count w = K.count w
  | [], [], [], _, _, _ => rfl
  | a :: W, b :: O, k :: K, h1, h2, h => by
    have ih := cnt_zip (w := w) (W := W) (O := O) (K := K) (by simpa using h1) (by simpa using h2) fun i => by simpa using h (i + 1)
    have h0 := h 0
    simp only [List.getElem?_cons_zero, Option.some.injEq] at h0
    rw [List.zip_cons_cons, List.count_cons, ← ih]
    by_cases hab : a = b
    · have e : stZ ((a, b) :: W.zip O) = b :: stZ (W.zip O) := by simp [stZ, hab]
      rw [e, List.count_cons]
      congr 1
      by_cases hb : b = w
      · have : k = w := h0.1 ⟨hab.trans hb, hb⟩
        simp [hb, this]
      · have : ¬ k = w := fun e => hb (h0.2 e).2
        simp [hb, this]
    · have e : stZ ((a, b) :: W.zip O) = stZ (W.zip O) := by simp [stZ, hab]
      have : ¬ k = w := fun e => hab ((h0.2 e).1.trans (h0.2 e).2.symm)
      rw [e]
      simp [this]
  | [], _ :: _, _, h, _, _ => by simp at h
  | _ :: _, [], _, h, _, _ => by simp at h
  | [], [], _ :: _, _, h, _ => by simp at h
  | _ :: _, _ :: _, [], _, h, _ => by simp at h
theorem level_all {act own : List Int} (h1 : act ≠ []) (h3 : act.length ≤ 3) (hn : act.Nodup) (h0 : (0 : Int) ∉ act) (h8 : own.length = 8) (ho : ∀ w ∈ own, w ∈ act) {w : Int} (hw : w ∈ act) :
    ((levelF act own).count w : Int) = quoF act w ∧ ((stZ ((levelF act own).zip own)).count w : Int) = min (quoF act w) (own.count w) := by
  obtain ⟨l8, lc, _⟩ := level_count h1 h3 hn h0 h8 ho
  refine ⟨lc w hw, ?_⟩
  have hne : ∀ w ∈ own, w ≠ 0 := fun w hw e => h0 (e ▸ ho w hw)
  obtain ⟨k1, _, k3⟩ := keepF_all (q := quoF act) (own := own) (quoF_nn h3) hne
  rw [cnt_zip (K := (keepF (quoF act) own).1) (by omega) k1 fun i => ?_]
  · exact (k3 w fun e => h0 (e ▸ hw)).1
  · rcases hi : own[i]? with _ | v
    · have : own.length ≤ i := List.getElem?_eq_none_iff.1 hi
      rw [List.getElem?_eq_none (l := (keepF (quoF act) own).1) (by omega)]
      simp
    · have := level_stay (act := act) (own := own) h3 h0 h8 ho hw hi
      rw [← this]
      simp
theorem level_sum {act own : List Int} (h1 : act ≠ []) (h3 : act.length ≤ 3) (hn : act.Nodup) (h0 : (0 : Int) ∉ act) (h8 : own.length = 8) (ho : ∀ w ∈ own, w ∈ act) : sumF (fun w => ((levelF act own).count w : Int)) act = 8 := by
  obtain ⟨l8, _, la⟩ := level_count h1 h3 hn h0 h8 ho
  rw [sum_count act hn la, l8]
  rfl
theorem level_again {act own : List Int} (h1 : act ≠ []) (h3 : act.length ≤ 3) (hn : act.Nodup) (h0 : (0 : Int) ∉ act) (h8 : own.length = 8) (ho : ∀ w ∈ own, w ∈ act) : levelF act (levelF act own) = levelF act own := by
  obtain ⟨l8, lc, la⟩ := level_count h1 h3 hn h0 h8 ho
  refine level_id (fun w => ?_) fun w hw e => h0 (e ▸ la w hw)
  by_cases hw : w ∈ act
  · rw [lc w hw]; exact Int.le_refl _
  · rw [List.count_eq_zero_of_not_mem fun h => hw (la w h)]
    exact quoF_nn h3 w
end Go.Proofs.YtncgndcepoicbaaGreat
