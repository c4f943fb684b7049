/-
  GramKnown is proved (the tied card): the chapter's examples, and the limits that it names. No condition.
-/
import Derived.Test.YtgimodceldoniaaGreatDoorTie
import Derived.Test.YtgimodceldoniaaGreatDoorCards
import Derived.SevenTiedAt
import Derived.Test.YtgimodceldoniaaGreatDoorKN10
namespace Go.Proofs.YtgimodceldoniaaGreatDoor
open Go.ChangeShapes Go.WideShapes Go.ChangeAt Go.RowKit
set_option maxRecDepth 100000 in
theorem gramKnown_lifted (os : Os) (started : os.Started) (H : Type) (enc : TypeId × Value → H) :
    ReturnsInHanded {} Tryz.checked os 3 .any (fun w args => (Rows.gramKnownSpec.pre enc Tryz.prog Tryz.f3 [] false w args ∧ laidMetH Tryz.prog laidL w) ∧ sizedMet enc Tryz.prog Tryz.f3 (OpenSpec.ofChange Rows.gramKnownSpec) false w args) (Rows.gramKnownSpec.post enc Tryz.prog Tryz.f3 false true false false) := by
  refine liftedH (tb := 4) started (by kernel_rfl) Tryz.func3
    (ChangeSpec.witness_at (enc := enc) (C := Tryz.checked) (os := os) (X := fun w _ => laidMetH Tryz.prog laidL w) false (laidWorld os) #[] 8 rfl (by kernel_rfl) (by kernel_rfl) (by kernel_rfl) (by kernel_rfl) (by kernel_rfl) (laidWorld_met os _)) (by kernel_rfl) rfl rfl Tryz.underlying4 ?_ ?_
  · intro ds h
    cases ds with
    | nil => rfl
    | cons d ds => cases h
  · intro W base args ds ps hval hA hfz hH
    have hA' : DataW.TrodAll enc Tryz.prog W 0 (fun _ => true) true [] args.toList ds ps := hA
    obtain ⟨h1, _, _⟩ := trodAll_nil hA'
    rw [h1]
    exact gknown_fn hH
theorem gramKnown_said : Rows.GramKnownSaid :=
  OpenClaim.holds_of_wide 3 Tryz.f3 rfl rfl rfl rfl rfl rfl rfl ⟨rfl, rfl, rfl, rfl, rfl⟩ rfl rfl rfl rfl rfl (by kernel_rfl) Tryz.func3 (by kernel_rfl)
    (of_decide_eq_true (by kernel_rfl)) (by unfold Func.isWrapper; first | (rw [if_pos (by decide +kernel)]; kernel_rfl) | (rw [if_neg (by decide +kernel)]; exact ⟨rfl, rfl⟩))
    (fun os started H enc _ => gramKnown_lifted os started H enc)
theorem gramKnown_holds : Rows.GramKnownCardSaid :=
  Claim7.holds_tied_plain_at .later [] [.handle] true Rows.gramKnownCard.stood.harness true
    gramKnown_said (fun _ h => by cases h) (by kernel_rfl) (fun _ h => by cases h) gramKnown_row_tie rfl ⟨rfl, rfl⟩ (by kernel_rfl) rfl
    (fun f fn hf hfn => by
      obtain rfl : f = 3 := Option.some.inj ((show Tryz.prog.funcNamed "anabranch/anabranchlaw18.GramKnown" = some 3 by kernel_rfl).symm.trans hf) |>.symm
      obtain rfl : fn = Tryz.f3 := (Option.some.inj (Tryz.func3.symm.trans hfn)).symm
      exact ⟨by kernel_rfl, fun j t ht => by
        exfalso
        have hp : Tryz.f3.params = #[] := rfl
        rw [hp] at ht
        simp at ht⟩)
    (by kernel_rfl)
end Go.Proofs.YtgimodceldoniaaGreatDoor
