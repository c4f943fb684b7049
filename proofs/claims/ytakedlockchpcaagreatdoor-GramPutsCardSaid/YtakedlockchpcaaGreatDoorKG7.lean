/-
  GramPuts is proved (the tied card): any datagram's bytes are as the document says. No condition.
-/
import Derived.Test.YtakedlockchpcaaGreatDoorTie
import Derived.Test.YtakedlockchpcaaGreatDoorCards
import Derived.SevenTiedAt
import Derived.Test.YtakedlockchpcaaGreatDoorKG6
namespace Go.Proofs.YtakedlockchpcaaGreatDoor
open Go.ChangeShapes Go.WideShapes Go.ChangeAt Go.RowKit
set_option maxRecDepth 100000 in
theorem gramPuts_lifted (os : Os) (started : os.Started) (H : Type) (enc : TypeId × Value → H) :
    ReturnsInHanded {} Tryz.checked os 6 .any (fun w args => (Rows.gramPutsSpec.pre enc Tryz.prog Tryz.f6 [] false w args ∧ laidMetH Tryz.prog laidL w) ∧ sizedMet enc Tryz.prog Tryz.f6 (OpenSpec.ofChange Rows.gramPutsSpec) false w args) (Rows.gramPutsSpec.post enc Tryz.prog Tryz.f6 false true false false) := by
  refine liftedH (tb := 4) started (by kernel_rfl) Tryz.func6
    (ChangeSpec.witness_at (enc := enc) (C := Tryz.checked) (os := os) (X := fun w _ => laidMetH Tryz.prog laidL w) false (laidWorld os) #[.agg zc80, .agg zc82] 8 rfl (by kernel_rfl) (by kernel_rfl) (by kernel_rfl) (by kernel_rfl) (by kernel_rfl) (laidWorld_met os _)) (by kernel_rfl) rfl rfl Tryz.underlying4 ?_ ?_
  · intro ds h
    match ds, h with
    | [_, _], _ => rfl
  · intro W base args ds ps hval0 hA0 hfz hH
    have hval : ∀ (j : Nat) t v, Tryz.f6.params[j]? = some t → args[j]? = some v → Value.okWide Tryz.prog W .any base t v := hval0
    have hA : DataW.TrodAll enc Tryz.prog W 0 (fun _ => true) true Tryz.f6.params.toList args.toList ds ps := hA0
    rw [Tryz.params6] at hA hval
    obtain ⟨v0, vs0, d0, ds0, p0, q0, e0, rfl, rfl, h0, hA⟩ := trodAll_cons hA
    obtain ⟨v1, vs1, d1, ds1, p1, q1, rfl, rfl, rfl, h1, hA⟩ := trodAll_cons hA
    obtain ⟨rfl, rfl, rfl⟩ := trodAll_nil hA
    have ea : args = #[v0, v1] := by apply Array.ext'; simpa using e0
    subst ea
    obtain ⟨cs0, x0, rfl, hz0, hx0⟩ := argZ_agg Tryz.underlying80 gramR_sound (hval 0 _ _ rfl rfl) h0 (noneFrozen_sub hfz fun _ hq => by simp [hq])
    obtain ⟨cs1, x1, rfl, hz1, hx1⟩ := argZ_agg Tryz.underlying82 draftR_sound (hval 1 _ _ rfl rfl) h1 (noneFrozen_sub hfz fun _ hq => by simp [hq])
    obtain ⟨g, a, cap, a', cap', hG⟩ := gram_of hz0 hx0
    obtain ⟨ds, d, odd, b, bcap, b', bcap', rfl, hD⟩ := draft_of hz1 hx1
    exact gputs_fn (L := allL W) hH hG hD
theorem gramPuts_said : Rows.GramPutsSaid :=
  OpenClaim.holds_of_wide 6 Tryz.f6 rfl rfl rfl rfl rfl rfl rfl ⟨rfl, rfl, rfl, rfl, rfl⟩ rfl rfl rfl rfl rfl (by kernel_rfl) Tryz.func6 (by kernel_rfl)
    (of_decide_eq_true (by kernel_rfl)) (by unfold Func.isWrapper; first | (rw [if_pos (by decide +kernel)]; kernel_rfl) | (rw [if_neg (by decide +kernel)]; exact ⟨rfl, rfl⟩))
    (fun os started H enc _ => gramPuts_lifted os started H enc)
theorem gramPuts_holds : Rows.GramPutsCardSaid :=
  Claim7.holds_tied_plain_at .later [] [.handle] true Rows.gramPutsCard.stood.harness true
    gramPuts_said (fun _ h => by cases h) (by kernel_rfl) (fun _ h => by cases h) gramPuts_row_tie rfl ⟨rfl, rfl⟩ (by kernel_rfl) rfl
    (fun f fn hf hfn => by
      obtain rfl : f = 6 := Option.some.inj ((show Tryz.prog.funcNamed "anabranch/anabranchlaw18.GramPuts" = some 6 by kernel_rfl).symm.trans hf) |>.symm
      obtain rfl : fn = Tryz.f6 := (Option.some.inj (Tryz.func6.symm.trans hfn)).symm
      refine ⟨by kernel_rfl, fun j t ht => ?_⟩
      rw [Tryz.params6] at ht
      match j, ht with
      | 0, ht => cases ht; exact (show Tryz.prog.wantsStandIn 80 = false by kernel_rfl)
      | 1, ht => cases ht; exact (show Tryz.prog.wantsStandIn 82 = false by kernel_rfl)
      | n + 2, ht => simp at ht)
    (by kernel_rfl)
end Go.Proofs.YtakedlockchpcaaGreatDoor
