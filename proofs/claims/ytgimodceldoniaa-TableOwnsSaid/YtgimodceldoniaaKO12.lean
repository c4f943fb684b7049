/-
  TableOwns is proved: at each time each bin has one owner, who is active; what was told of the past stays, whatever comes. No condition.
-/
import Derived.Test.YtgimodceldoniaaKO11
namespace Go.Proofs.Ytgimodceldoniaa
open Go.ChangeShapes Go.WideShapes Go.ChangeAt Go.RowKit
set_option maxHeartbeats 4000000 in
set_option maxRecDepth 100000 in
theorem tableOwns_lifted (os : Os) (started : os.Started) (H : Type) (enc : TypeId × Value → H) :
    ReturnsInHanded {} Try.checked os 4 .any (Rows.tableOwnsSpec.pre6 enc Try.prog Try.f4 Rows.tableOwnsRow.domain false) (Rows.tableOwnsSpec.post enc Try.prog Try.f4 false true false false) := by
  refine lifted (C := Try.checked) (tb := 4) ownOf started (by kernel_rfl) Try.func4
    (ChangeSpec.witness6 (enc := enc) (C := Try.checked) false ⟨#[], #[.agg zc23, .slice none 0 0], []⟩ 8 (by kernel_rfl) (by kernel_rfl) (by kernel_rfl) (by kernel_rfl)) laidOf (by kernel_rfl) rfl rfl Try.underlying4 ?_ ?_
  · intro ds h
    match ds, h with
    | [_, _], _ => rfl
  · intro W base args ds ps hval0 hA0 _
    have hval : ∀ (j : Nat) t v, Try.f4.params[j]? = some t → args[j]? = some v → Value.okWide Try.prog W .any base t v := hval0
    have hA : DataW.TrodAll enc Try.prog W 0 (fun _ => true) true Try.f4.params.toList args.toList ds ps := hA0
    rw [Try.params4] at hA hval
    obtain ⟨v0, vs0, d0, ds0, p0, q0, e0, rfl, rfl, h0, hA⟩ := trodAll_cons hA
    obtain ⟨v1, vs1, d1, ds1, p1, q1, rfl, rfl, rfl, h1, hA⟩ := trodAll_cons hA
    obtain ⟨rfl, rfl, rfl⟩ := trodAll_nil hA
    have ea : args = #[v0, v1] := by apply Array.ext'; simpa using e0
    subst ea
    obtain ⟨cs0, x0, rfl, hz0, hx0⟩ := arg_agg Try.underlying23 (sound_struct Try.underlying23 (by kernel_rfl) (soundF_cons (sound_int Try.underlying5 (by kernel_rfl)) rfl (soundF_cons (sound_int Try.underlying5 (by kernel_rfl)) rfl (soundF_cons (sound_int Try.underlying5 (by kernel_rfl)) rfl (soundF_cons (sound_int Try.underlying5 (by kernel_rfl)) rfl (soundF_cons (sound_int Try.underlying5 (by kernel_rfl)) rfl (soundF_one (sound_int Try.underlying5 (by kernel_rfl)) rfl))))))) (hval 0 _ _ rfl rfl) h0
    obtain ⟨a1, cap1, xs1, rfl, hl1, hm1, hx1⟩ := arg_slice Try.underlying24 (sound_slice Try.underlying24 (by kernel_rfl) (by decide) (sound_struct Try.underlying37 (by kernel_rfl) (soundF_cons (sound_struct Try.underlying33 (by kernel_rfl) (soundF_cons (sound_int Try.underlying3 (by kernel_rfl)) rfl (soundF_cons (sound_int Try.underlying2 (by kernel_rfl)) rfl (soundF_cons (sound_slice Try.underlying29 (by kernel_rfl) (by decide) (sound_int Try.underlying3 (by kernel_rfl))) rfl (soundF_cons (sound_int Try.underlying3 (by kernel_rfl)) rfl (soundF_cons (sound_int Try.underlying3 (by kernel_rfl)) rfl (soundF_cons (sound_struct Try.underlying31 (by kernel_rfl) (soundF_cons (sound_int Try.underlying3 (by kernel_rfl)) rfl (soundF_cons (sound_int Try.underlying2 (by kernel_rfl)) rfl (soundF_cons (sound_int Try.underlying2 (by kernel_rfl)) rfl (soundF_one (sound_int Try.underlying3 (by kernel_rfl)) rfl))))) rfl (soundF_one (sound_int Try.underlying3 (by kernel_rfl)) rfl)))))))) rfl (soundF_cons (sound_int Try.underlying35 (by kernel_rfl)) rfl (soundF_one (sound_int Try.underlying35 (by kernel_rfl)) rfl))))) (hval 1 _ _ rfl rfl) h1
    obtain ⟨⟨b0, w0⟩, ⟨b1, w1⟩, ⟨b2, w2⟩, ⟨b3, w3⟩, ⟨b4, w4⟩, b5, w5⟩ := hx0
    have e0 : cs0 = seC x0.1 x0.2.1 x0.2.2.1 x0.2.2.2.1 x0.2.2.2.2.1 x0.2.2.2.2.2 := by
      apply Array.ext_getElem?
      intro j
      match j with
      | 0 => exact b0
      | 1 => exact b1
      | 2 => exact b2
      | 3 => exact b3
      | 4 => exact b4
      | 5 => exact b5
      | j + 6 => rw [Array.getElem?_eq_none (by have : cs0.size = 6 := hz0; omega), Array.getElem?_eq_none (by simp)]
    subst e0
    obtain ⟨l, hl⟩ := orders_of hl1 hm1 hx1
    exact owns_fn (L := allL W) (u8_bounds w0) (u8_bounds w1) (u8_bounds w2) (u8_bounds w3) (u8_bounds w4) (u8_bounds w5) hl
theorem tableOwns_holds : Rows.TableOwnsSaid :=
  OpenClaim.holds_of_wide 4 Try.f4 rfl rfl rfl rfl rfl rfl rfl ⟨rfl, rfl, rfl, rfl, rfl⟩ rfl rfl rfl rfl rfl (by kernel_rfl) Try.func4 (by kernel_rfl)
    (of_decide_eq_true (by kernel_rfl)) (by unfold Func.isWrapper; first | (rw [if_pos (by decide +kernel)]; kernel_rfl) | (rw [if_neg (by decide +kernel)]; exact ⟨rfl, rfl⟩))
    (fun os started H enc _ => tableOwns_lifted os started H enc)
end Go.Proofs.Ytgimodceldoniaa
