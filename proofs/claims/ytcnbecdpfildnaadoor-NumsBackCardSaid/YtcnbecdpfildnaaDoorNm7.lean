/-
  Numbers that are laid are read back, and what is read is laid just so (plain laws, no program in sight).
-/
import Derived.Test.YtcnbecdpfildnaaDoorNm4
namespace Go.Proofs.YtcnbecdpfildnaaDoor
open Go.RowKit

theorem ofNat_hi {d : Nat} (h : d < 128) : (UInt8.ofNat (d + 128)).toNat = d + 128 := by simp only [UInt8.toNat_ofNat']; omega
theorem ofNat_lo {d : Nat} (h : d < 128) : (UInt8.ofNat d).toNat = d := by simp only [UInt8.toNat_ofNat']; omega
theorem encH_ge (n : Nat) : ∀ u ∈ encH n, 128 ≤ u.toNat := by
  induction n using Nat.strongRecOn with
  | _ n ih =>
    by_cases h : n = 0
    · subst h; rw [encH_zero]; simp
    · rw [encH_pos h]
      intro u hu
      rcases List.mem_append.1 hu with hu | hu
      · exact ih (n / 128) (by omega) u hu
      · simp only [List.mem_singleton] at hu
        subst hu
        rw [ofNat_hi (by omega)]; omega
theorem takeWhile_stop {p : UInt8 → Bool} : ∀ (a : List UInt8) (u : UInt8) (r : List UInt8), (∀ x ∈ a, p x = true) → p u = false → (a ++ u :: r).takeWhile p = a
  | [], u, r, _, h => by simp [h]
  | x :: a, u, r, h1, h2 => by
    rw [List.cons_append, List.takeWhile_cons_of_pos (h1 x (by simp)), takeWhile_stop a u r (fun y hy => h1 y (by simp [hy])) h2]
theorem cont_enc {pre post : List UInt8} {n : Nat} : cont (pre ++ (enc n ++ post)) pre.length = (encH (n / 128)).length := by
  unfold cont
  rw [List.drop_left, enc, List.append_assoc, List.singleton_append, takeWhile_stop]
  · intro x hx; simpa using encH_ge _ x hx
  · rw [ofNat_lo (by omega)]; simp; omega
theorem encH_head : ∀ (m : Nat), m ≠ 0 → ∃ d rest, encH m = UInt8.ofNat (d + 128) :: rest ∧ 1 ≤ d ∧ d < 128 ∧ d * 128 ^ rest.length ≤ m := by
  intro m
  induction m using Nat.strongRecOn with
  | _ m ih =>
    intro h
    rw [encH_pos h]
    by_cases h0 : m / 128 = 0
    · rw [h0, encH_zero]
      exact ⟨m % 128, [], rfl, by omega, by omega, by simp; omega⟩
    · obtain ⟨d, rest, e, h1, h2, h3⟩ := ih (m / 128) (by omega) h0
      refine ⟨d, rest ++ [UInt8.ofNat (m % 128 + 128)], by rw [e]; rfl, h1, h2, ?_⟩
      rw [List.length_append, List.length_singleton, Nat.pow_succ, ← Nat.mul_assoc]
      calc d * 128 ^ rest.length * 128 ≤ m / 128 * 128 := Nat.mul_le_mul_right _ h3
        _ ≤ m := by omega
theorem val_encH (m : Nat) (h : m < 18446744073709551616) : val (encH m) = m := by
  induction m using Nat.strongRecOn with
  | _ m ih =>
    by_cases h0 : m = 0
    · subst h0; rw [encH_zero]; rfl
    · rw [encH_pos h0, val_snoc, ih (m / 128) (by omega) (by omega), ofNat_hi (by omega)]
      omega
theorem val_enc {n : Nat} (h : n < 18446744073709551616) : val (enc n) = n := by
  rw [enc, val_snoc, val_encH _ (by omega), ofNat_lo (by omega)]
  omega
/-- A number that is laid is read back. -/
theorem read_enc {pre post : List UInt8} {n : Nat} (h : n < 18446744073709551616) :
    uCode (pre ++ (enc n ++ post)) pre.length = 0 ∧ uVal (pre ++ (enc n ++ post)) pre.length = n ∧ uNext (pre ++ (enc n ++ post)) pre.length = (pre ++ enc n).length := by
  have hc := cont_enc (pre := pre) (post := post) (n := n)
  have hl := enc_len h
  have hle : (enc n).length = (encH (n / 128)).length + 1 := by simp [enc]
  refine ⟨?_, ?_, ?_⟩
  · unfold uCode
    rw [hc, if_neg (by simp; omega)]
    have hfirst : (pre ++ (enc n ++ post))[pre.length]? = (enc n ++ post)[0]? := by rw [List.getElem?_append_right (Nat.le_refl _), Nat.sub_self]
    rw [hfirst]
    by_cases h0 : n / 128 = 0
    · rw [enc, h0, encH_zero]
      have hne : UInt8.ofNat (n % 128) ≠ 128 := fun e => by
        have := congrArg UInt8.toNat e
        rw [ofNat_lo (by omega)] at this
        simp at this; omega
      rw [if_neg (by simpa using hne), if_pos (.inl (by simp))]
    · obtain ⟨d, rest, e, h1, h2, h3⟩ := encH_head (n / 128) h0
      have hne : UInt8.ofNat (d + 128) ≠ 128 := fun e => by
        have := congrArg UInt8.toNat e
        rw [ofNat_hi h2] at this
        simp at this; omega
      have hf : (enc n ++ post)[0]? = some (UInt8.ofNat (d + 128)) := by rw [enc, e]; rfl
      rw [hf, if_neg (by simpa using hne), if_pos]
      by_cases hlen : (encH (n / 128)).length + 1 < 10
      · exact .inl hlen
      · right
        refine ⟨by omega, ?_⟩
        have hr : rest.length = 8 := by rw [e] at hlen hle; simp at hlen hle; omega
        rw [hr] at h3
        have hd : d * 72057594037927936 ≤ n / 128 := h3
        have : d = 1 := by omega
        rw [this]; rfl
  · unfold uVal
    rw [hc, List.drop_left, ← hle, List.take_left, val_enc h]
  · unfold uNext
    rw [hc]; simp; omega

/-- What bytes say, without a limit. -/
def vexact (xs : List UInt8) : Nat := xs.foldl (fun n u => n * 128 + u.toNat % 128) 0
theorem vexact_snoc (xs : List UInt8) (u : UInt8) : vexact (xs ++ [u]) = vexact xs * 128 + u.toNat % 128 := by unfold vexact; rw [List.foldl_append]; rfl
theorem list_rec {α : Type} {P : List α → Prop} (h0 : P []) (h1 : ∀ xs u, P xs → P (xs ++ [u])) (xs : List α) : P xs := by
  have : ∀ ys : List α, P ys.reverse := by
    intro ys
    induction ys with
    | nil => exact h0
    | cons y ys ih => rw [List.reverse_cons]; exact h1 _ _ ih
  have h := this xs.reverse
  rwa [List.reverse_reverse] at h
theorem val_vexact (xs : List UInt8) : val xs = vexact xs % 18446744073709551616 := by
  refine list_rec (P := fun xs => val xs = vexact xs % 18446744073709551616) rfl (fun xs u h => ?_) xs
  rw [val_snoc, vexact_snoc, h]; omega
theorem vexact_lt (xs : List UInt8) : vexact xs < 128 ^ xs.length := by
  refine list_rec (P := fun xs => vexact xs < 128 ^ xs.length) (by decide) (fun xs u h => ?_) xs
  rw [vexact_snoc, List.length_append, List.length_singleton, Nat.pow_succ]
  have := Nat.mod_lt u.toNat (show 0 < 128 by decide)
  omega
theorem vexact_cons (u : UInt8) (xs : List UInt8) : vexact (u :: xs) = u.toNat % 128 * 128 ^ xs.length + vexact xs := by
  refine list_rec (P := fun xs => vexact (u :: xs) = u.toNat % 128 * 128 ^ xs.length + vexact xs) (by simp [vexact]) (fun xs w h => ?_) xs
  rw [← List.cons_append, vexact_snoc, h, vexact_snoc, List.length_append, List.length_singleton, Nat.pow_succ, Nat.add_mul, Nat.mul_assoc]
  omega
theorem encH_back : ∀ (ys : List UInt8), (∀ u ∈ ys, 128 ≤ u.toNat) → ys.head? ≠ some 128 → encH (vexact ys) = ys := by
  intro ys
  refine list_rec (P := fun ys => (∀ u ∈ ys, 128 ≤ u.toNat) → ys.head? ≠ some 128 → encH (vexact ys) = ys) (fun _ _ => by unfold vexact; rw [List.foldl_nil, encH_zero]) (fun zs w ih hge hh => ?_) ys
  have hw := hge w (by simp)
  have hw2 := w.toNat_lt
  have hback : UInt8.ofNat (w.toNat % 128 + 128) = w := UInt8.toNat_inj.1 (by rw [ofNat_hi (by omega)]; omega)
  cases zs with
  | nil =>
    have hne : w.toNat ≠ 128 := fun e => hh (by rw [show w = 128 from UInt8.toNat_inj.1 (by simpa using e)]; rfl)
    have e : vexact ([] ++ [w]) = w.toNat % 128 := by simp [vexact]
    rw [e, encH_pos (by omega), show w.toNat % 128 / 128 = 0 by omega, encH_zero, Nat.mod_mod, hback]
  | cons z zs =>
    have h1 := ih (fun u hu => hge u (by simp at hu ⊢; rcases hu with h | h <;> simp [h])) hh
    have h0 : vexact (z :: zs) ≠ 0 := fun e => by rw [e, encH_zero] at h1; cases h1
    rw [vexact_snoc, encH_pos (by omega), show (vexact (z :: zs) * 128 + w.toNat % 128) / 128 = vexact (z :: zs) by omega, h1, show (vexact (z :: zs) * 128 + w.toNat % 128) % 128 = w.toNat % 128 by omega, hback]
/-- What is read is laid just so. -/
theorem enc_read {l : List UInt8} {a : Nat} (h : uCode l a = 0) : enc (uVal l a) = (l.drop a).take (cont l a + 1) := by
  have hcd := h
  unfold uCode at h
  split at h
  · cases h
  · rename_i hlen
    split at h
    · cases h
    · rename_i hne
      split at h
      · rename_i hm
        obtain ⟨u, hu⟩ : ∃ u, l[a + cont l a]? = some u := ⟨_, List.getElem?_eq_getElem (by omega)⟩
        have hu128 := cont_end hu
        have hsplit : (l.drop a).take (cont l a + 1) = (l.drop a).take (cont l a) ++ [u] := by
          rw [List.take_add_one, List.getElem?_drop, hu]; rfl
        have hys : ∀ y ∈ (l.drop a).take (cont l a), 128 ≤ y.toNat := by
          intro y hy
          obtain ⟨j, hj⟩ := List.mem_iff_getElem?.1 hy
          have hjc : j < cont l a := by
            have := (List.getElem?_eq_some_iff.1 hj).1
            simp at this; omega
          obtain ⟨x, hx, hx2⟩ := cont_lt hjc
          rw [List.getElem?_take_of_lt hjc, List.getElem?_drop, hx] at hj
          cases hj; exact hx2
        have hhead : ((l.drop a).take (cont l a)).head? ≠ some 128 := by
          intro e
          rw [List.head?_eq_getElem?] at e
          have hc0 : 0 < cont l a := by
            have := (List.getElem?_eq_some_iff.1 e).1
            simp at this; omega
          rw [List.getElem?_take_of_lt hc0, List.getElem?_drop, Nat.add_zero] at e
          exact hne e
        have hb := encH_back _ hys hhead
        have hll : ((l.drop a).take (cont l a)).length = cont l a := by simp; omega
        have hex : vexact ((l.drop a).take (cont l a + 1)) < 18446744073709551616 := by
          rcases hm with hm | ⟨hm, hm2⟩
          · have := vexact_lt ((l.drop a).take (cont l a + 1))
            rw [hsplit, List.length_append, hll, List.length_singleton] at this
            rw [hsplit]
            have hp : 128 ^ (cont l a + 1) ≤ 128 ^ 9 := Nat.pow_le_pow_right (by decide) (by omega)
            have : (128 : Nat) ^ 9 = 9223372036854775808 := rfl
            omega
          · obtain ⟨r, hr⟩ : ∃ r, (l.drop a).take (cont l a + 1) = 129 :: r := by
              cases hq : (l.drop a).take (cont l a + 1) with
              | nil => rw [hsplit] at hq; simp at hq
              | cons y r =>
                have h0 : ((l.drop a).take (cont l a + 1))[0]? = some y := by rw [hq]; rfl
                rw [List.getElem?_take_of_lt (by omega), List.getElem?_drop, Nat.add_zero, hm2] at h0
                cases h0; exact ⟨r, rfl⟩
            have hrl : r.length = 9 := by
              have := congrArg List.length hr
              rw [hsplit, List.length_append, hll] at this
              simp at this; omega
            rw [hr, vexact_cons, hrl]
            have h3 := vexact_lt r
            rw [hrl] at h3
            have h4 : (128 : Nat) ^ 9 = 9223372036854775808 := rfl
            rw [h4] at h3 ⊢
            have h5 : (129 : UInt8).toNat % 128 = 1 := by decide
            rw [h5]; omega
        have hv : uVal l a = vexact ((l.drop a).take (cont l a + 1)) := by
          unfold uVal; rw [val_vexact, Nat.mod_eq_of_lt hex]
        rw [hv, hsplit, vexact_snoc, enc, show (vexact ((l.drop a).take (cont l a)) * 128 + u.toNat % 128) / 128 = vexact ((l.drop a).take (cont l a)) by omega, hb]
        congr 1
        rw [show (vexact ((l.drop a).take (cont l a)) * 128 + u.toNat % 128) % 128 = u.toNat by omega, UInt8.ofNat_toNat]
      · cases h
theorem whole_zz {x : Int} (h0 : -9223372036854775808 ≤ x) (h1 : x < 9223372036854775808) : whole (zz x) = x := by
  unfold zz
  split
  · unfold whole; rw [if_pos (by omega)]; omega
  · unfold whole; rw [if_neg (by omega)]; omega
end Go.Proofs.YtcnbecdpfildnaaDoor
