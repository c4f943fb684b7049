/-
  NumsLays is proved (the tied card): numbers, whole numbers, truths, texts are laid as the document says. No condition.
-/
import Derived.Test.YtcnbecdpfildnaaDoorNm2
import Derived.Test.YtcnbecdpfildnaaDoorRd2
import Derived.Test.YtcnbecdpfildnaaDoorLiftH
import Derived.Test.YtcnbecdpfildnaaDoorTie
import Derived.Test.YtcnbecdpfildnaaDoorCards
import Derived.SevenTiedAt
namespace Go.Proofs.YtcnbecdpfildnaaDoor
open Go.ChangeShapes Go.WideShapes Go.ChangeAt Go.RowKit

set_option maxRecDepth 100000 in
theorem numsLays_lifted (os : Os) (started : os.Started) (H : Type) (enc : TypeId × Value → H) :
    ReturnsInHanded {} Tryd.checked os 4 .any (fun w args => (Rows.numsLaysSpec.pre enc Tryd.prog Tryd.f4 [] false w args ∧ laidMetH Tryd.prog laidL w) ∧ sizedMet enc Tryd.prog Tryd.f4 (OpenSpec.ofChange Rows.numsLaysSpec) false w args) (Rows.numsLaysSpec.post enc Tryd.prog Tryd.f4 false true false false) := by
  refine liftedH (tb := 4) started (by kernel_rfl) Tryd.func4
    (ChangeSpec.witness_at (enc := enc) (C := Tryd.checked) (os := os) (X := fun w _ => laidMetH Tryd.prog laidL w) false (laidWorld os) #[.slice none 0 0, .int .u64 0, .string .empty] 8 rfl (by kernel_rfl) (by kernel_rfl) (by kernel_rfl) (by kernel_rfl) (by kernel_rfl) (laidWorld_met os _)) (by kernel_rfl) rfl rfl Tryd.underlying4 ?_ ?_
  · intro ds h
    match ds, h with
    | [_, _, _], _ => rfl
  · intro W base args ds ps hval0 hA0 hfz hH
    have hval : ∀ (j : Nat) t v, Tryd.f4.params[j]? = some t → args[j]? = some v → Value.okWide Tryd.prog W .any base t v := hval0
    have hA : DataW.TrodAll enc Tryd.prog W 0 (fun _ => true) true Tryd.f4.params.toList args.toList ds ps := hA0
    rw [Tryd.params4] at hA hval
    obtain ⟨v0, vs0, d0, ds0, p0, q0, e0, rfl, rfl, h0, hA⟩ := trodAll_cons hA
    obtain ⟨v1, vs1, d1, ds1, p1, q1, rfl, rfl, rfl, h1, hA⟩ := trodAll_cons hA
    obtain ⟨v2, vs2, d2, ds2, p2, q2, rfl, rfl, rfl, h2, hA⟩ := trodAll_cons hA
    obtain ⟨rfl, rfl, rfl⟩ := trodAll_nil hA
    have ea : args = #[v0, v1, v2] := by apply Array.ext'; simpa using e0
    subst ea
    obtain ⟨a0, cap0, xs0, rfl, hl0, hm0, hx0⟩ := arg_slice Tryd.underlying24 (sound_slice Tryd.underlying24 (by kernel_rfl) (by decide) (sound_int Tryd.underlying5 (by kernel_rfl))) (hval 0 _ _ rfl rfl) h0
    obtain ⟨l0, hll0, hb0⟩ := by_of hl0 hm0 hx0
    obtain ⟨a1, rfl, _, _, wf1⟩ := open_int Tryd.underlying22 (hval 1 _ _ rfl rfl) h1
    have wa1 := u64_bounds wf1
    obtain ⟨l2, rfl, hl2⟩ := arg_str Tryd.underlying9 (hval 2 _ _ rfl rfl) h2
    exact lays_fn hH hb0 wa1.1 wa1.2

theorem numsLays_said : Rows.NumsLaysSaid :=
  OpenClaim.holds_of_wide 4 Tryd.f4 rfl rfl rfl rfl rfl rfl rfl ⟨rfl, rfl, rfl, rfl, rfl⟩ rfl rfl rfl rfl rfl (by kernel_rfl) Tryd.func4 (by kernel_rfl)
    (of_decide_eq_true (by kernel_rfl)) (by unfold Func.isWrapper; first | (rw [if_pos (by decide +kernel)]; kernel_rfl) | (rw [if_neg (by decide +kernel)]; exact ⟨rfl, rfl⟩))
    (fun os started H enc _ => numsLays_lifted os started H enc)

theorem numsLays_holds : Rows.NumsLaysCardSaid :=
  Claim7.holds_tied_plain_at .later [] [.handle] true Rows.numsLaysCard.stood.harness true
    numsLays_said (fun _ h => by cases h) (by kernel_rfl) (fun _ h => by cases h) numsLays_row_tie rfl ⟨rfl, rfl⟩ (by kernel_rfl) rfl
    (fun f fn hf hfn => by
      obtain rfl : f = 4 := Option.some.inj ((show Tryd.prog.funcNamed "anabranch/anabranchlaw01.NumsLays" = some 4 by kernel_rfl).symm.trans hf) |>.symm
      obtain rfl : fn = Tryd.f4 := (Option.some.inj (Tryd.func4.symm.trans hfn)).symm
      refine ⟨by kernel_rfl, fun j t ht => ?_⟩
      rw [Tryd.params4] at ht
      match j, ht with
      | 0, ht => cases ht; exact (show Tryd.prog.wantsStandIn 24 = false by kernel_rfl)
      | 1, ht => cases ht; exact (show Tryd.prog.wantsStandIn 22 = false by kernel_rfl)
      | 2, ht => cases ht; exact (show Tryd.prog.wantsStandIn 9 = false by kernel_rfl)
      | n + 3, ht => simp at ht)
    (by kernel_rfl)
end Go.Proofs.YtcnbecdpfildnaaDoor
