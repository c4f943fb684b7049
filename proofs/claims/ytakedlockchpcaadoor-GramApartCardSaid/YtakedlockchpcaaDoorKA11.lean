/-
  GramApart is proved (the tied card): the bytes of one datagram are no beginning of those of another one; what is read of both, one behind the other, is refused where the first one ends. No condition.
-/
import Derived.Test.YtakedlockchpcaaDoorTie
import Derived.Test.YtakedlockchpcaaDoorCards
import Derived.SevenTiedAt
import Derived.Test.YtakedlockchpcaaDoorKA10
namespace Go.Proofs.YtakedlockchpcaaDoor
open Go.ChangeShapes Go.WideShapes Go.ChangeAt Go.RowKit
set_option maxRecDepth 100000 in
theorem gramApart_lifted (os : Os) (started : os.Started) (H : Type) (enc : TypeId × Value → H) :
    ReturnsInHanded {} Tryd.checked os 4 .any (fun w args => (Rows.gramApartSpec.pre enc Tryd.prog Tryd.f4 [] false w args ∧ laidMetH Tryd.prog laidL w) ∧ sizedMet enc Tryd.prog Tryd.f4 (OpenSpec.ofChange Rows.gramApartSpec) false w args) (Rows.gramApartSpec.post enc Tryd.prog Tryd.f4 false true false false) := by
  refine liftedH (tb := 4) started (by kernel_rfl) Tryd.func4
    (ChangeSpec.witness_at (enc := enc) (C := Tryd.checked) (os := os) (X := fun w _ => laidMetH Tryd.prog laidL w) false (laidWorld os) #[.agg zc54, .agg zc54] 8 rfl (by kernel_rfl) (by kernel_rfl) (by kernel_rfl) (by kernel_rfl) (by kernel_rfl) (laidWorld_met os _)) (by kernel_rfl) rfl rfl Tryd.underlying4 ?_ ?_
  · intro ds h
    match ds, h with
    | [_, _], _ => rfl
  · intro W base args ds ps hval0 hA0 hfz hH
    have hval : ∀ (j : Nat) t v, Tryd.f4.params[j]? = some t → args[j]? = some v → Value.okWide Tryd.prog W .any base t v := hval0
    have hA : DataW.TrodAll enc Tryd.prog W 0 (fun _ => true) true Tryd.f4.params.toList args.toList ds ps := hA0
    rw [Tryd.params4] at hA hval
    obtain ⟨v0, vs0, d0, ds0, p0, q0, e0, rfl, rfl, h0, hA⟩ := trodAll_cons hA
    obtain ⟨v1, vs1, d1, ds1, p1, q1, rfl, rfl, rfl, h1, hA⟩ := trodAll_cons hA
    obtain ⟨rfl, rfl, rfl⟩ := trodAll_nil hA
    have ea : args = #[v0, v1] := by apply Array.ext'; simpa using e0
    subst ea
    obtain ⟨cs0, x0, rfl, hz0, hx0⟩ := argZ_agg Tryd.underlying54 draftR_sound (hval 0 _ _ rfl rfl) h0 (noneFrozen_sub hfz fun _ hq => by simp [hq])
    obtain ⟨cs1, x1, rfl, hz1, hx1⟩ := argZ_agg Tryd.underlying54 draftR_sound (hval 1 _ _ rfl rfl) h1 (noneFrozen_sub hfz fun _ hq => by simp [hq])
    obtain ⟨ds, d, odd, b, bcap, b', bcap', rfl, hD⟩ := draft_of hz0 hx0
    obtain ⟨es, e, oddy, c, ccap, c', ccap', rfl, hE⟩ := draft_of hz1 hx1
    exact gapart_fn (L := allL W) hH hD hE
theorem gramApart_said : Rows.GramApartSaid :=
  OpenClaim.holds_of_wide 4 Tryd.f4 rfl rfl rfl rfl rfl rfl rfl ⟨rfl, rfl, rfl, rfl, rfl⟩ rfl rfl rfl rfl rfl (by kernel_rfl) Tryd.func4 (by kernel_rfl)
    (of_decide_eq_true (by kernel_rfl)) (by unfold Func.isWrapper; first | (rw [if_pos (by decide +kernel)]; kernel_rfl) | (rw [if_neg (by decide +kernel)]; exact ⟨rfl, rfl⟩))
    (fun os started H enc _ => gramApart_lifted os started H enc)
theorem gramApart_holds : Rows.GramApartCardSaid :=
  Claim7.holds_tied_plain_at .later [] [.handle] true Rows.gramApartCard.stood.harness true
    gramApart_said (fun _ h => by cases h) (by kernel_rfl) (fun _ h => by cases h) gramApart_row_tie rfl ⟨rfl, rfl⟩ (by kernel_rfl) rfl
    (fun f fn hf hfn => by
      obtain rfl : f = 4 := Option.some.inj ((show Tryd.prog.funcNamed "anabranch/anabranchlaw18.GramApart" = some 4 by kernel_rfl).symm.trans hf) |>.symm
      obtain rfl : fn = Tryd.f4 := (Option.some.inj (Tryd.func4.symm.trans hfn)).symm
      refine ⟨by kernel_rfl, fun j t ht => ?_⟩
      rw [Tryd.params4] at ht
      match j, ht with
      | 0, ht => cases ht; exact (show Tryd.prog.wantsStandIn 54 = false by kernel_rfl)
      | 1, ht => cases ht; exact (show Tryd.prog.wantsStandIn 54 = false by kernel_rfl)
      | n + 2, ht => simp at ht)
    (by kernel_rfl)
end Go.Proofs.YtakedlockchpcaaDoor
