/-
  StorePlays: both stores play alike.
-/
import Derived.Test.YtmdiabglbmgkkaaKP5
namespace Go.Proofs.Ytmdiabglbmgkkaa
open Go.ChangeShapes Go.WideShapes Go.ChangeAt Go.RowKit
set_option maxRecDepth 100000 in
theorem storePlays_lifted (os : Os) (started : os.Started) (H : Type) (enc : TypeId × Value → H) :
    ReturnsInHanded {} Try.checked os 4 .any (Rows.storePlaysSpec.pre6 enc Try.prog Try.f4 Rows.storePlaysRow.domain false) (Rows.storePlaysSpec.post enc Try.prog Try.f4 false true false false) := by
  refine lifted (C := Try.checked) (tb := 4) ownOf started (by kernel_rfl) Try.func4
    (ChangeSpec.witness6 (enc := enc) (C := Try.checked) false ⟨#[], #[.slice none 0 0], []⟩ 8 (by kernel_rfl) (by kernel_rfl) (by kernel_rfl) (by kernel_rfl)) laidOf (by kernel_rfl) rfl rfl Try.underlying4 ?_ ?_
  · intro ds h
    match ds, h with
    | [_], _ => rfl
  · intro W base args ds ps hval0 hA0 _
    have hval : ∀ (j : Nat) t v, Try.f4.params[j]? = some t → args[j]? = some v → Value.okWide Try.prog W .any base t v := hval0
    have hA : DataW.TrodAll enc Try.prog W 0 (fun _ => true) true Try.f4.params.toList args.toList ds ps := hA0
    rw [Try.params4] at hA hval
    obtain ⟨v0, vs0, d0, ds0, p0, q0, e0, rfl, rfl, h0, hA⟩ := trodAll_cons hA
    obtain ⟨rfl, rfl, rfl⟩ := trodAll_nil hA
    have ea : args = #[v0] := by apply Array.ext'; simpa using e0
    subst ea
    obtain ⟨a0, cap0, xs0, rfl, hl0, hm0, hx0⟩ := arg_slice Try.underlying22 (sound_slice Try.underlying22 (by kernel_rfl) (by decide) (sound_struct Try.underlying29 (by kernel_rfl) (soundF_cons (sound_int Try.underlying5 (by kernel_rfl)) rfl (soundF_cons (sound_int Try.underlying5 (by kernel_rfl)) rfl (soundF_cons (sound_int Try.underlying27 (by kernel_rfl)) rfl (soundF_one (sound_str Try.underlying9 (by kernel_rfl)) rfl)))))) (hval 0 _ _ rfl rfl) h0
    obtain ⟨l, hv⟩ := acts_of hl0 hm0 hx0
    exact plays15_fn (L := allL W) hv
theorem storePlays_holds : Rows.StorePlaysSaid :=
  OpenClaim.holds_of_wide 4 Try.f4 rfl rfl rfl rfl rfl rfl rfl ⟨rfl, rfl, rfl, rfl, rfl⟩ rfl rfl rfl rfl rfl (by kernel_rfl) Try.func4 (by kernel_rfl)
    (of_decide_eq_true (by kernel_rfl)) (by unfold Func.isWrapper; first | (rw [if_pos (by decide +kernel)]; kernel_rfl) | (rw [if_neg (by decide +kernel)]; exact ⟨rfl, rfl⟩))
    (fun os started H enc _ => storePlays_lifted os started H enc)
end Go.Proofs.Ytmdiabglbmgkkaa
