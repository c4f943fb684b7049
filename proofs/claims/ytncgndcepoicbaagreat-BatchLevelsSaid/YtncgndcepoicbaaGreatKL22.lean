/-
  BatchLevels is proved: in a levelled wish all are active, their numbers of bins differ by 1 at most, and fall from worker to worker; so few bins move that each worker keeps all it had, or just as many as it has then; and levelled once more nothing moves. No condition.
-/
import Derived.Test.YtncgndcepoicbaaGreatKL212
namespace Go.Proofs.YtncgndcepoicbaaGreat
open Go.ChangeShapes Go.WideShapes Go.ChangeAt Go.RowKit
set_option maxRecDepth 100000 in
theorem batchLevels_lifted (os : Os) (started : os.Started) (H : Type) (enc : TypeId × Value → H) :
    ReturnsInHanded {} Tryz.checked os 6 .any (Rows.batchLevelsSpec.pre6 enc Tryz.prog Tryz.f6 Rows.batchLevelsRow.domain false) (Rows.batchLevelsSpec.post enc Tryz.prog Tryz.f6 false true false false) := by
  refine lifted (C := Tryz.checked) (tb := 4) ownOf started (by kernel_rfl) Tryz.func6
    (ChangeSpec.witness6 (enc := enc) (C := Tryz.checked) false ⟨#[], #[.agg zc82, .slice none 0 0], []⟩ 8 (by kernel_rfl) (by kernel_rfl) (by kernel_rfl) (by kernel_rfl)) laidOf (by kernel_rfl) rfl rfl Tryz.underlying4 ?_ ?_
  · intro ds h
    match ds, h with
    | [_, _], _ => rfl
  · intro W base args ds ps hval0 hA0 _
    have hval : ∀ (j : Nat) t v, Tryz.f6.params[j]? = some t → args[j]? = some v → Value.okWide Tryz.prog W .any base t v := hval0
    have hA : DataW.TrodAll enc Tryz.prog W 0 (fun _ => true) true Tryz.f6.params.toList args.toList ds ps := hA0
    rw [Tryz.params6] at hA hval
    obtain ⟨v0, vs0, d0, ds0, p0, q0, e0, rfl, rfl, h0, hA⟩ := trodAll_cons hA
    obtain ⟨v1, vs1, d1, ds1, p1, q1, rfl, rfl, rfl, h1, hA⟩ := trodAll_cons hA
    obtain ⟨rfl, rfl, rfl⟩ := trodAll_nil hA
    have ea : args = #[v0, v1] := by apply Array.ext'; simpa using e0
    subst ea
    obtain ⟨cs0, x0, rfl, hz0, hx0⟩ := arg_arr Tryz.underlying82 (sound_arr Tryz.underlying82 (by kernel_rfl) (sound_int Tryz.underlying5 (by kernel_rfl))) (hval 0 _ _ rfl rfl) h0
    obtain ⟨a1, cap1, xs1, rfl, hl1, hm1, hx1⟩ := arg_slice Tryz.underlying83 (sound_slice Tryz.underlying83 (by kernel_rfl) (by decide) (sound_struct Tryz.underlying166 (by kernel_rfl) (soundF_cons (sound_int Tryz.underlying5 (by kernel_rfl)) rfl (soundF_cons (sound_int Tryz.underlying5 (by kernel_rfl)) rfl (soundF_cons (sound_int Tryz.underlying5 (by kernel_rfl)) rfl (soundF_one (sound_int Tryz.underlying164 (by kernel_rfl)) rfl)))))) (hval 1 _ _ rfl rfl) h1
    obtain ⟨s0, s1, hs0, hs1, rfl⟩ := size_of2 hz0 hx0
    exact levels_fn (L := allL W) hs0 hs1 (steps_of hl1 hm1 hx1)
theorem batchLevels_holds : Rows.BatchLevelsSaid :=
  OpenClaim.holds_of_wide 6 Tryz.f6 rfl rfl rfl rfl rfl rfl rfl ⟨rfl, rfl, rfl, rfl, rfl⟩ rfl rfl rfl rfl rfl (by kernel_rfl) Tryz.func6 (by kernel_rfl)
    (of_decide_eq_true (by kernel_rfl)) (by unfold Func.isWrapper; first | (rw [if_pos (by decide +kernel)]; kernel_rfl) | (rw [if_neg (by decide +kernel)]; exact ⟨rfl, rfl⟩))
    (fun os started H enc _ => batchLevels_lifted os started H enc)
end Go.Proofs.YtncgndcepoicbaaGreat
