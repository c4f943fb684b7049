/-
  WinCovers: a window of a kind covers every time of the kind that it holds
-/
import Derived.Test.YtakedlockchpcaaKC7
namespace Go.Proofs.Ytakedlockchpcaa
open Go.ChangeShapes Go.WideShapes Go.ChangeAt Go.RowKit
set_option maxRecDepth 100000 in
theorem winCovers_lifted (os : Os) (started : os.Started) (H : Type) (enc : TypeId × Value → H) :
    ReturnsInHanded {} Try.checked os 5 .any (Rows.winCoversSpec.pre6 enc Try.prog Try.f5 Rows.winCoversRow.domain false) (Rows.winCoversSpec.post enc Try.prog Try.f5 false true false false) := by
  refine lifted (C := Try.checked) (tb := 4) ownOf started (by kernel_rfl) Try.func5
    (ChangeSpec.witness6 (enc := enc) (C := Try.checked) false ⟨#[], #[.agg zc26, .int .i64 0], []⟩ 8 (by kernel_rfl) (by kernel_rfl) (by kernel_rfl) (by kernel_rfl)) laidOf (by kernel_rfl) rfl rfl Try.underlying4 ?_ ?_
  · intro ds h
    match ds, h with
    | [_, _], _ => rfl
  · intro W base args ds ps hval0 hA0 _
    have hval : ∀ (j : Nat) t v, Try.f5.params[j]? = some t → args[j]? = some v → Value.okWide Try.prog W .any base t v := hval0
    have hA : DataW.TrodAll enc Try.prog W 0 (fun _ => true) true Try.f5.params.toList args.toList ds ps := hA0
    rw [Try.params5] at hA hval
    obtain ⟨v0, vs0, d0, ds0, p0, q0, e0, rfl, rfl, h0, hA⟩ := trodAll_cons hA
    obtain ⟨v1, vs1, d1, ds1, p1, q1, rfl, rfl, rfl, h1, hA⟩ := trodAll_cons hA
    obtain ⟨rfl, rfl, rfl⟩ := trodAll_nil hA
    have ea : args = #[v0, v1] := by apply Array.ext'; simpa using e0
    subst ea
    obtain ⟨a1, rfl, _, _, wf1⟩ := open_int Try.underlying2 (hval 1 _ _ rfl rfl) h1
    have wa1 := i64_bounds wf1
    obtain ⟨cs0, x0, rfl, hz0, hx0⟩ := arg_agg Try.underlying26 (sound_struct Try.underlying26 (by kernel_rfl) (soundF_cons (sound_int Try.underlying5 (by kernel_rfl)) rfl (soundF_cons (sound_int Try.underlying24 (by kernel_rfl)) rfl (soundF_one (sound_int Try.underlying5 (by kernel_rfl)) rfl)))) (hval 0 _ _ rfl rfl) h0
    obtain ⟨⟨b0, v0⟩, ⟨b1, v1⟩, b2, v2⟩ := hx0
    have e1 : cs0 = #[.int .u8 x0.1, .int .u32 x0.2.1, .int .u8 x0.2.2] := by
      apply Array.ext_getElem?
      intro j
      match j with
      | 0 => exact b0
      | 1 => exact b1
      | 2 => exact b2
      | j + 3 => rw [Array.getElem?_eq_none (by have : cs0.size = 3 := hz0; omega), Array.getElem?_eq_none (by simp)]
    subst e1
    exact covers_fn (L := allL W) ⟨u8_bounds v0, u32_bounds v1, u8_bounds v2⟩
theorem winCovers_holds : Rows.WinCoversSaid :=
  OpenClaim.holds_of_wide 5 Try.f5 rfl rfl rfl rfl rfl rfl rfl ⟨rfl, rfl, rfl, rfl, rfl⟩ rfl rfl rfl rfl rfl (by kernel_rfl) Try.func5 (by kernel_rfl)
    (of_decide_eq_true (by kernel_rfl)) (by unfold Func.isWrapper; first | (rw [if_pos (by decide +kernel)]; kernel_rfl) | (rw [if_neg (by decide +kernel)]; exact ⟨rfl, rfl⟩))
    (fun os started H enc _ => winCovers_lifted os started H enc)
end Go.Proofs.Ytakedlockchpcaa
