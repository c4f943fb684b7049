/-
  LogKeeps is proved: behind any crash a log that is opened anew has a beginning of the bodies that were appended, with all that were synced, and goes on so; opened twice it has the same; and it is opened always (of all choices, a hundred at most). No condition.
-/
import Derived.Test.YtmdiabglbmgkkaaKG4
namespace Go.Proofs.Ytmdiabglbmgkkaa
open Go.ChangeShapes Go.WideShapes Go.ChangeAt Go.RowKit
set_option maxRecDepth 100000 in
theorem logKeeps_lifted (os : Os) (started : os.Started) (H : Type) (enc : TypeId × Value → H) :
    ReturnsInHanded {} Try.checked os 7 .any (Rows.logKeepsSpec.pre6 enc Try.prog Try.f7 Rows.logKeepsRow.domain false) (Rows.logKeepsSpec.post enc Try.prog Try.f7 false true false false) := by
  refine lifted (C := Try.checked) (tb := 4) ownOf started (by kernel_rfl) Try.func7
    (ChangeSpec.witness6 (enc := enc) (C := Try.checked) false ⟨#[], #[.slice none 0 0], []⟩ 8 (by kernel_rfl) (by kernel_rfl) (by kernel_rfl) (by kernel_rfl)) laidOf (by kernel_rfl) rfl rfl Try.underlying4 ?_ ?_
  · intro ds h
    match ds, h with
    | [_], _ => rfl
  · intro W base args ds ps hval0 hA0 _
    have hval : ∀ (j : Nat) t v, Try.f7.params[j]? = some t → args[j]? = some v → Value.okWide Try.prog W .any base t v := hval0
    have hA : DataW.TrodAll enc Try.prog W 0 (fun _ => true) true Try.f7.params.toList args.toList ds ps := hA0
    rw [Try.params7] at hA hval
    obtain ⟨v0, vs0, d0, ds0, p0, q0, e0, rfl, rfl, h0, hA⟩ := trodAll_cons hA
    obtain ⟨rfl, rfl, rfl⟩ := trodAll_nil hA
    have ea : args = #[v0] := by apply Array.ext'; simpa using e0
    subst ea
    obtain ⟨a0, cap0, xs0, rfl, hl0, hm0, hx0⟩ := arg_slice Try.underlying55 (sound_slice Try.underlying55 (by kernel_rfl) (by decide) (sound_struct Try.underlying61 (by kernel_rfl) (soundF_cons (sound_int Try.underlying5 (by kernel_rfl)) rfl (soundF_cons (sound_str Try.underlying9 (by kernel_rfl)) rfl (soundF_one (sound_slice Try.underlying44 (by kernel_rfl) (by decide) (sound_int Try.underlying5 (by kernel_rfl))) rfl))))) (hval 0 _ _ rfl rfl) h0
    exact keeps_fn (L := allL W) (chs_of hl0 hm0 hx0)
theorem logKeeps_holds : Rows.LogKeepsSaid :=
  OpenClaim.holds_of_wide 7 Try.f7 rfl rfl rfl rfl rfl rfl rfl ⟨rfl, rfl, rfl, rfl, rfl⟩ rfl rfl rfl rfl rfl (by kernel_rfl) Try.func7 (by kernel_rfl)
    (of_decide_eq_true (by kernel_rfl)) (by unfold Func.isWrapper; first | (rw [if_pos (by decide +kernel)]; kernel_rfl) | (rw [if_neg (by decide +kernel)]; exact ⟨rfl, rfl⟩))
    (fun os started H enc _ => logKeeps_lifted os started H enc)
end Go.Proofs.Ytmdiabglbmgkkaa
