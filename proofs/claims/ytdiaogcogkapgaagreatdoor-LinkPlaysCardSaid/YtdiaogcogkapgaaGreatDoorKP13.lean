/-
  LinkPlays is proved (the tied card): whatever is done with both ends of a link, it is as the document says. No condition.
-/
import Derived.Test.YtdiaogcogkapgaaGreatDoorTie
import Derived.Test.YtdiaogcogkapgaaGreatDoorCards
import Derived.SevenTiedAt
import Derived.Test.YtdiaogcogkapgaaGreatDoorKP12
namespace Go.Proofs.YtdiaogcogkapgaaGreatDoor
open Go.ChangeShapes Go.WideShapes Go.ChangeAt Go.RowKit
set_option maxRecDepth 100000 in
theorem linkPlays_lifted (os : Os) (started : os.Started) (H : Type) (enc : TypeId × Value → H) :
    ReturnsInHanded {} Tryz.checked os 4 .any (fun w args => (Rows.linkPlaysSpec.pre enc Tryz.prog Tryz.f4 [] false w args ∧ laidMetH Tryz.prog laidL w) ∧ sizedMet enc Tryz.prog Tryz.f4 (OpenSpec.ofChange Rows.linkPlaysSpec) false w args) (Rows.linkPlaysSpec.post enc Tryz.prog Tryz.f4 false true false false) := by
  refine liftedH (tb := 4) started (by kernel_rfl) Tryz.func4
    (ChangeSpec.witness_at (enc := enc) (C := Tryz.checked) (os := os) (X := fun w _ => laidMetH Tryz.prog laidL w) false (laidWorld os) #[.agg #[.int .i64 0, .int .i64 0, .int .i64 0], .slice none 0 0] 8 rfl (by kernel_rfl) (by kernel_rfl) (by kernel_rfl) (by kernel_rfl) (by kernel_rfl) (laidWorld_met os _)) (by kernel_rfl) rfl rfl Tryz.underlying4 ?_ ?_
  · intro ds h
    match ds, h with
    | [_, _], _ => rfl
  · intro W base args ds ps hval0 hA0 hfz hH
    have hval : ∀ (j : Nat) t v, Tryz.f4.params[j]? = some t → args[j]? = some v → Value.okWide Tryz.prog W .any base t v := hval0
    have hA : DataW.TrodAll enc Tryz.prog W 0 (fun _ => true) true Tryz.f4.params.toList args.toList ds ps := hA0
    rw [Tryz.params4] at hA hval
    obtain ⟨v0, vs0, d0, ds0, p0, q0, e0, rfl, rfl, h0, hA⟩ := trodAll_cons hA
    obtain ⟨v1, vs1, d1, ds1, p1, q1, rfl, rfl, rfl, h1, hA⟩ := trodAll_cons hA
    obtain ⟨rfl, rfl, rfl⟩ := trodAll_nil hA
    have ea : args = #[v0, v1] := by apply Array.ext'; simpa using e0
    subst ea
    obtain ⟨cs0, x0, rfl, hz0, hx0⟩ := arg_arr Tryz.underlying58 (sound_arr Tryz.underlying58 (by kernel_rfl) (sound_int Tryz.underlying3 (by kernel_rfl))) (hval 0 _ _ rfl rfl) h0
    obtain ⟨a1, cap1, xs1, rfl, hl1, hm1, hx1⟩ := argZ_slice Tryz.underlying59 acts_sound (hval 1 _ _ rfl rfl) h1 (noneFrozen_sub hfz fun _ hq => by simp [hq])
    obtain ⟨p, q, k, hp, hq, hk, rfl⟩ := three_of hz0 hx0
    exact lplays_fn hp hq hk (acts_of hl1 hm1 hx1) hH
theorem linkPlays_said : Rows.LinkPlaysSaid :=
  OpenClaim.holds_of_wide 4 Tryz.f4 rfl rfl rfl rfl rfl rfl rfl ⟨rfl, rfl, rfl, rfl, rfl⟩ rfl rfl rfl rfl rfl (by kernel_rfl) Tryz.func4 (by kernel_rfl)
    (of_decide_eq_true (by kernel_rfl)) (by unfold Func.isWrapper; first | (rw [if_pos (by decide +kernel)]; kernel_rfl) | (rw [if_neg (by decide +kernel)]; exact ⟨rfl, rfl⟩))
    (fun os started H enc _ => linkPlays_lifted os started H enc)
theorem linkPlays_holds : Rows.LinkPlaysCardSaid :=
  Claim7.holds_tied_plain_at .later [] [.handle] true Rows.linkPlaysCard.stood.harness true
    linkPlays_said (fun _ h => by cases h) (by kernel_rfl) (fun _ h => by cases h) linkPlays_row_tie rfl ⟨rfl, rfl⟩ (by kernel_rfl) rfl
    (fun f fn hf hfn => by
      obtain rfl : f = 4 := Option.some.inj ((show Tryz.prog.funcNamed "anabranch/anabranchlaw22.LinkPlays" = some 4 by kernel_rfl).symm.trans hf) |>.symm
      obtain rfl : fn = Tryz.f4 := (Option.some.inj (Tryz.func4.symm.trans hfn)).symm
      refine ⟨by kernel_rfl, fun j t ht => ?_⟩
      rw [Tryz.params4] at ht
      match j, ht with
      | 0, ht => cases ht; exact (show Tryz.prog.wantsStandIn 58 = false by kernel_rfl)
      | 1, ht => cases ht; exact (show Tryz.prog.wantsStandIn 59 = false by kernel_rfl)
      | n + 2, ht => simp at ht)
    (by kernel_rfl)
end Go.Proofs.YtdiaogcogkapgaaGreatDoor
