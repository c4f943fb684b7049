/-
  NumsShort is proved (the tied card): a lesser number has no more bytes, and the lesser ones. No condition.
-/
import Derived.Test.YtcnbecdpfildnaaDoorNm2
import Derived.Test.YtcnbecdpfildnaaDoorRd
import Derived.Test.YtcnbecdpfildnaaDoorLiftH
import Derived.Test.YtcnbecdpfildnaaDoorTie
import Derived.Test.YtcnbecdpfildnaaDoorCards
import Derived.SevenTiedAt
namespace Go.Proofs.YtcnbecdpfildnaaDoor
open Go.ChangeShapes Go.WideShapes Go.ChangeAt Go.RowKit

set_option maxRecDepth 100000 in
theorem numsShort_lifted (os : Os) (started : os.Started) (H : Type) (enc : TypeId × Value → H) :
    ReturnsInHanded {} Tryd.checked os 3 .any (fun w args => (Rows.numsShortSpec.pre enc Tryd.prog Tryd.f3 [] false w args ∧ laidMetH Tryd.prog laidL w) ∧ sizedMet enc Tryd.prog Tryd.f3 (OpenSpec.ofChange Rows.numsShortSpec) false w args) (Rows.numsShortSpec.post enc Tryd.prog Tryd.f3 false true false false) := by
  refine liftedH (tb := 4) started (by kernel_rfl) Tryd.func3
    (ChangeSpec.witness_at (enc := enc) (C := Tryd.checked) (os := os) (X := fun w _ => laidMetH Tryd.prog laidL w) false (laidWorld os) #[.int .u64 0, .int .u64 0] 8 rfl (by kernel_rfl) (by kernel_rfl) (by kernel_rfl) (by kernel_rfl) (by kernel_rfl) (laidWorld_met os _)) (by kernel_rfl) rfl rfl Tryd.underlying4 ?_ ?_
  · intro ds h
    match ds, h with
    | [_, _], _ => rfl
  · intro W base args ds ps hval0 hA0 hfz hH
    have hval : ∀ (j : Nat) t v, Tryd.f3.params[j]? = some t → args[j]? = some v → Value.okWide Tryd.prog W .any base t v := hval0
    have hA : DataW.TrodAll enc Tryd.prog W 0 (fun _ => true) true Tryd.f3.params.toList args.toList ds ps := hA0
    rw [Tryd.params3] at hA hval
    obtain ⟨v0, vs0, d0, ds0, p0, q0, e0, rfl, rfl, h0, hA⟩ := trodAll_cons hA
    obtain ⟨v1, vs1, d1, ds1, p1, q1, rfl, rfl, rfl, h1, hA⟩ := trodAll_cons hA
    obtain ⟨rfl, rfl, rfl⟩ := trodAll_nil hA
    have ea : args = #[v0, v1] := by apply Array.ext'; simpa using e0
    subst ea
    obtain ⟨a0, rfl, _, _, wf0⟩ := open_int Tryd.underlying22 (hval 0 _ _ rfl rfl) h0
    have wa0 := u64_bounds wf0
    obtain ⟨a1, rfl, _, _, wf1⟩ := open_int Tryd.underlying22 (hval 1 _ _ rfl rfl) h1
    have wa1 := u64_bounds wf1
    exact short_fn hH wa0.1 wa0.2 wa1.1 wa1.2

theorem numsShort_said : Rows.NumsShortSaid :=
  OpenClaim.holds_of_wide 3 Tryd.f3 rfl rfl rfl rfl rfl rfl rfl ⟨rfl, rfl, rfl, rfl, rfl⟩ rfl rfl rfl rfl rfl (by kernel_rfl) Tryd.func3 (by kernel_rfl)
    (of_decide_eq_true (by kernel_rfl)) (by unfold Func.isWrapper; first | (rw [if_pos (by decide +kernel)]; kernel_rfl) | (rw [if_neg (by decide +kernel)]; exact ⟨rfl, rfl⟩))
    (fun os started H enc _ => numsShort_lifted os started H enc)

theorem numsShort_holds : Rows.NumsShortCardSaid :=
  Claim7.holds_tied_plain_at .later [] [.handle] true Rows.numsShortCard.stood.harness true
    numsShort_said (fun _ h => by cases h) (by kernel_rfl) (fun _ h => by cases h) numsShort_row_tie rfl ⟨rfl, rfl⟩ (by kernel_rfl) rfl
    (fun f fn hf hfn => by
      obtain rfl : f = 3 := Option.some.inj ((show Tryd.prog.funcNamed "anabranch/anabranchlaw01.NumsShort" = some 3 by kernel_rfl).symm.trans hf) |>.symm
      obtain rfl : fn = Tryd.f3 := (Option.some.inj (Tryd.func3.symm.trans hfn)).symm
      refine ⟨by kernel_rfl, fun j t ht => ?_⟩
      rw [Tryd.params3] at ht
      match j, ht with
      | 0, ht => cases ht; exact (show Tryd.prog.wantsStandIn 22 = false by kernel_rfl)
      | 1, ht => cases ht; exact (show Tryd.prog.wantsStandIn 22 = false by kernel_rfl)
      | n + 2, ht => simp at ht)
    (by kernel_rfl)
end Go.Proofs.YtcnbecdpfildnaaDoor
