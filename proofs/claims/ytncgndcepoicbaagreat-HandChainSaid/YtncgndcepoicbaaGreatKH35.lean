/-
  HandChain is proved: each place that is given goes on its way to the next span's worker, and is got there at some time: of each bin just one place is whole and not gone, or on its way; places are given in the order of their spans; and when all is given, and got, each bin's last span's worker has it, and nobody waits. No condition.
-/
import Derived.Test.YtncgndcepoicbaaGreatKH34
namespace Go.Proofs.YtncgndcepoicbaaGreat
open Go.ChangeShapes Go.WideShapes Go.ChangeAt Go.RowKit
set_option maxRecDepth 100000 in
theorem handChain_lifted (os : Os) (started : os.Started) (H : Type) (enc : TypeId × Value → H) :
    ReturnsInHanded {} Tryz.checked os 4 .any (Rows.handChainSpec.pre6 enc Tryz.prog Tryz.f4 Rows.handChainRow.domain false) (Rows.handChainSpec.post enc Tryz.prog Tryz.f4 false true false false) := by
  refine lifted (C := Tryz.checked) (tb := 4) ownOf started (by kernel_rfl) Tryz.func4
    (ChangeSpec.witness6 (enc := enc) (C := Tryz.checked) false ⟨#[], #[.int .u8 0, .slice none 0 0], []⟩ 8 (by kernel_rfl) (by kernel_rfl) (by kernel_rfl) (by kernel_rfl)) laidOf (by kernel_rfl) rfl rfl Tryz.underlying4 ?_ ?_
  · intro ds h
    match ds, h with
    | [_, _], _ => rfl
  · intro W base args ds ps hval0 hA0 _
    have hval : ∀ (j : Nat) t v, Tryz.f4.params[j]? = some t → args[j]? = some v → Value.okWide Tryz.prog W .any base t v := hval0
    have hA : DataW.TrodAll enc Tryz.prog W 0 (fun _ => true) true Tryz.f4.params.toList args.toList ds ps := hA0
    rw [Tryz.params4] at hA hval
    obtain ⟨v0, vs0, d0, ds0, p0, q0, e0, rfl, rfl, h0, hA⟩ := trodAll_cons hA
    obtain ⟨v1, vs1, d1, ds1, p1, q1, rfl, rfl, rfl, h1, hA⟩ := trodAll_cons hA
    obtain ⟨rfl, rfl, rfl⟩ := trodAll_nil hA
    have ea : args = #[v0, v1] := by apply Array.ext'; simpa using e0
    subst ea
    obtain ⟨a0, rfl, _, _, wf0⟩ := open_int Tryz.underlying5 (hval 0 _ _ rfl rfl) h0
    have wa0 := u8_bounds wf0
    obtain ⟨a1, cap1, xs1, rfl, hl1, hm1, hx1⟩ := arg_slice Tryz.underlying54 (sound_slice Tryz.underlying54 (by kernel_rfl) (by decide) (sound_struct Tryz.underlying64 (by kernel_rfl) (soundF_cons (sound_int Tryz.underlying5 (by kernel_rfl)) rfl (soundF_cons (sound_int Tryz.underlying5 (by kernel_rfl)) rfl (soundF_cons (sound_int Tryz.underlying5 (by kernel_rfl)) rfl (soundF_cons (sound_int Tryz.underlying5 (by kernel_rfl)) rfl (soundF_cons (sound_int Tryz.underlying44 (by kernel_rfl)) rfl (soundF_cons (sound_int Tryz.underlying44 (by kernel_rfl)) rfl (soundF_one (sound_slice Tryz.underlying62 (by kernel_rfl) (by decide) (sound_struct Tryz.underlying262 (by kernel_rfl) (soundF_cons (sound_int Tryz.underlying44 (by kernel_rfl)) rfl (soundF_cons (sound_int Tryz.underlying44 (by kernel_rfl)) rfl (soundF_cons (sound_bool Tryz.underlying4 (by kernel_rfl)) rfl (soundF_one (sound_bool Tryz.underlying4 (by kernel_rfl)) rfl)))))) rfl))))))))) (hval 1 _ _ rfl rfl) h1
    obtain ⟨l, hl⟩ := acts_h hl1 hm1 hx1
    exact chain_fn (L := allL W) wa0 hl
theorem handChain_holds : Rows.HandChainSaid :=
  OpenClaim.holds_of_wide 4 Tryz.f4 rfl rfl rfl rfl rfl rfl rfl ⟨rfl, rfl, rfl, rfl, rfl⟩ rfl rfl rfl rfl rfl (by kernel_rfl) Tryz.func4 (by kernel_rfl)
    (of_decide_eq_true (by kernel_rfl)) (by unfold Func.isWrapper; first | (rw [if_pos (by decide +kernel)]; kernel_rfl) | (rw [if_neg (by decide +kernel)]; exact ⟨rfl, rfl⟩))
    (fun os started H enc _ => handChain_lifted os started H enc)
end Go.Proofs.YtncgndcepoicbaaGreat
