/-
  GramBack is proved (the tied card): a datagram comes back from its bytes, but for what its kind does not have; bytes that are cut are none's; and what is read of any bytes is laid again just so. No condition.
-/
import Derived.Test.YtakedlockchpcaaGreatDoorTie
import Derived.Test.YtakedlockchpcaaGreatDoorCards
import Derived.SevenTiedAt
import Derived.Test.YtakedlockchpcaaGreatDoorKB8
namespace Go.Proofs.YtakedlockchpcaaGreatDoor
open Go.ChangeShapes Go.WideShapes Go.ChangeAt Go.RowKit
set_option maxRecDepth 100000 in
theorem gramBack_lifted (os : Os) (started : os.Started) (H : Type) (enc : TypeId × Value → H) :
    ReturnsInHanded {} Tryz.checked os 8 .any (fun w args => (Rows.gramBackSpec.pre enc Tryz.prog Tryz.f8 [] false w args ∧ laidMetH Tryz.prog laidL w) ∧ sizedMet enc Tryz.prog Tryz.f8 (OpenSpec.ofChange Rows.gramBackSpec) false w args) (Rows.gramBackSpec.post enc Tryz.prog Tryz.f8 false true false false) := by
  refine liftedH (tb := 4) started (by kernel_rfl) Tryz.func8
    (ChangeSpec.witness_at (enc := enc) (C := Tryz.checked) (os := os) (X := fun w _ => laidMetH Tryz.prog laidL w) false (laidWorld os) #[.agg zc82, .int .u16 0, .string .empty] 8 rfl (by kernel_rfl) (by kernel_rfl) (by kernel_rfl) (by kernel_rfl) (by kernel_rfl) (laidWorld_met os _)) (by kernel_rfl) rfl rfl Tryz.underlying4 ?_ ?_
  · intro ds h
    match ds, h with
    | [_, _, _], _ => rfl
  · intro W base args ds ps hval0 hA0 hfz hH
    have hval : ∀ (j : Nat) t v, Tryz.f8.params[j]? = some t → args[j]? = some v → Value.okWide Tryz.prog W .any base t v := hval0
    have hA : DataW.TrodAll enc Tryz.prog W 0 (fun _ => true) true Tryz.f8.params.toList args.toList ds ps := hA0
    rw [Tryz.params8] at hA hval
    obtain ⟨v0, vs0, d0, ds0, p0, q0, e0, rfl, rfl, h0, hA⟩ := trodAll_cons hA
    obtain ⟨v1, vs1, d1, ds1, p1, q1, rfl, rfl, rfl, h1, hA⟩ := trodAll_cons hA
    obtain ⟨v2, vs2, d2, ds2, p2, q2, rfl, rfl, rfl, h2, hA⟩ := trodAll_cons hA
    obtain ⟨rfl, rfl, rfl⟩ := trodAll_nil hA
    have ea : args = #[v0, v1, v2] := by apply Array.ext'; simpa using e0
    subst ea
    obtain ⟨cs0, x0, rfl, hz0, hx0⟩ := argZ_agg Tryz.underlying82 draftR_sound (hval 0 _ _ rfl rfl) h0 (noneFrozen_sub hfz fun _ hq => by simp [hq])
    obtain ⟨a1, rfl, _, _, wf1⟩ := open_int Tryz.underlying62 (hval 1 _ _ rfl rfl) h1
    have wa1 := u16_bounds wf1
    obtain ⟨l2, rfl, hl2⟩ := arg_str Tryz.underlying9 (hval 2 _ _ rfl rfl) h2
    obtain ⟨ds, d, odd, b, bcap, b', bcap', rfl, hD⟩ := draft_of hz0 hx0
    exact gback_fn (s := l2) (L := allL W) hH hD wa1
theorem gramBack_said : Rows.GramBackSaid :=
  OpenClaim.holds_of_wide 8 Tryz.f8 rfl rfl rfl rfl rfl rfl rfl ⟨rfl, rfl, rfl, rfl, rfl⟩ rfl rfl rfl rfl rfl (by kernel_rfl) Tryz.func8 (by kernel_rfl)
    (of_decide_eq_true (by kernel_rfl)) (by unfold Func.isWrapper; first | (rw [if_pos (by decide +kernel)]; kernel_rfl) | (rw [if_neg (by decide +kernel)]; exact ⟨rfl, rfl⟩))
    (fun os started H enc _ => gramBack_lifted os started H enc)
theorem gramBack_holds : Rows.GramBackCardSaid :=
  Claim7.holds_tied_plain_at .later [] [.handle] true Rows.gramBackCard.stood.harness true
    gramBack_said (fun _ h => by cases h) (by kernel_rfl) (fun _ h => by cases h) gramBack_row_tie rfl ⟨rfl, rfl⟩ (by kernel_rfl) rfl
    (fun f fn hf hfn => by
      obtain rfl : f = 8 := Option.some.inj ((show Tryz.prog.funcNamed "anabranch/anabranchlaw18.GramBack" = some 8 by kernel_rfl).symm.trans hf) |>.symm
      obtain rfl : fn = Tryz.f8 := (Option.some.inj (Tryz.func8.symm.trans hfn)).symm
      refine ⟨by kernel_rfl, fun j t ht => ?_⟩
      rw [Tryz.params8] at ht
      match j, ht with
      | 0, ht => cases ht; exact (show Tryz.prog.wantsStandIn 82 = false by kernel_rfl)
      | 1, ht => cases ht; exact (show Tryz.prog.wantsStandIn 62 = false by kernel_rfl)
      | 2, ht => cases ht; exact (show Tryz.prog.wantsStandIn 9 = false by kernel_rfl)
      | n + 3, ht => simp at ht)
    (by kernel_rfl)
end Go.Proofs.YtakedlockchpcaaGreatDoor
