/-
  LinkKnown is proved (the tied card): the chapter's examples. No condition.
-/
import Derived.Test.YtnpiiphiiaiodaaGreatDoorEt22
import Derived.Test.YtnpiiphiiaiodaaGreatDoorLiftH
import Derived.Test.YtnpiiphiiaiodaaGreatDoorTie
import Derived.Test.YtnpiiphiiaiodaaGreatDoorCards
import Derived.SevenTiedAt
namespace Go.Proofs.YtnpiiphiiaiodaaGreatDoor
open Go.ChangeShapes Go.WideShapes Go.ChangeAt Go.RowKit

theorem linkKnown_run : trueG Tryz.prog tab 100000 doorPr doorH 200 4 = true := by kernel_rfl

set_option maxRecDepth 100000 in
theorem linkKnown_lifted (os : Os) (started : os.Started) (H : Type) (enc : TypeId × Value → H) :
    ReturnsInHanded {} Tryz.checked os 4 .any (fun w args => (Rows.linkKnownSpec.pre enc Tryz.prog Tryz.f4 [] false w args ∧ laidMetH Tryz.prog laidL w) ∧ sizedMet enc Tryz.prog Tryz.f4 (OpenSpec.ofChange Rows.linkKnownSpec) false w args) (Rows.linkKnownSpec.post enc Tryz.prog Tryz.f4 false true false false) := by
  refine liftedH (tb := 4) started (by kernel_rfl) Tryz.func4
    (ChangeSpec.witness_at (enc := enc) (C := Tryz.checked) (os := os) (X := fun w _ => laidMetH Tryz.prog laidL w) false (laidWorld os) #[] 8 rfl (by kernel_rfl) (by kernel_rfl) (by kernel_rfl) (by kernel_rfl) (by kernel_rfl) (laidWorld_met os _)) (by kernel_rfl) rfl rfl Tryz.underlying4 ?_ ?_
  · intro ds h
    cases ds with
    | nil => rfl
    | cons d ds => cases h
  · intro W base args ds ps hval hA hfz ⟨cs, E, fr, hin, hc⟩
    have hA' : DataW.TrodAll enc Tryz.prog W 0 (fun _ => true) true [] args.toList ds ps := hA
    obtain ⟨h1, _, _⟩ := trodAll_nil hA'
    rw [h1]
    exact runD doorPr_ok mixed tab_ok (doorH_cov hc) doorH_zero linkKnown_run hin

theorem linkKnown_said : Rows.LinkKnownSaid :=
  OpenClaim.holds_of_wide 4 Tryz.f4 rfl rfl rfl rfl rfl rfl rfl ⟨rfl, rfl, rfl, rfl, rfl⟩ rfl rfl rfl rfl rfl (by kernel_rfl) Tryz.func4 (by kernel_rfl)
    (of_decide_eq_true (by kernel_rfl)) (by unfold Func.isWrapper; first | (rw [if_pos (by decide +kernel)]; kernel_rfl) | (rw [if_neg (by decide +kernel)]; exact ⟨rfl, rfl⟩))
    (fun os started H enc _ => linkKnown_lifted os started H enc)

theorem linkKnown_holds : Rows.LinkKnownCardSaid :=
  Claim7.holds_tied_plain_at .later [] [.handle] true Rows.linkKnownCard.stood.harness true
    linkKnown_said (fun _ h => by cases h) (by kernel_rfl) (fun _ h => by cases h) linkKnown_row_tie rfl ⟨rfl, rfl⟩ (by kernel_rfl) rfl
    (fun f fn hf hfn => by
      obtain rfl : f = 4 := Option.some.inj ((show Tryz.prog.funcNamed "anabranch/anabranchlaw22.LinkKnown" = some 4 by kernel_rfl).symm.trans hf) |>.symm
      obtain rfl : fn = Tryz.f4 := (Option.some.inj (Tryz.func4.symm.trans hfn)).symm
      exact ⟨by kernel_rfl, fun j t ht => by
        exfalso
        have hp : Tryz.f4.params = #[] := rfl
        rw [hp] at ht
        simp at ht⟩)
    (by kernel_rfl)
end Go.Proofs.YtnpiiphiiaiodaaGreatDoor
