/-
  LinkCarries, whole: what a claim hands in.
-/
import Derived.Test.YtdiaogcogkapgaaGreatDoorTie
import Derived.Test.YtdiaogcogkapgaaGreatDoorCards
import Derived.SevenTiedAt
import Derived.Test.YtdiaogcogkapgaaGreatDoorKC12
namespace Go.Proofs.YtdiaogcogkapgaaGreatDoor
open Go.ChangeShapes Go.WideShapes Go.ChangeAt Go.RowKit
set_option maxRecDepth 100000 in
theorem linkCarries_lifted (os : Os) (started : os.Started) (H : Type) (enc : TypeId × Value → H) :
    ReturnsInHanded {} Tryz.checked os 3 .any (fun w args => (Rows.linkCarriesSpec.pre enc Tryz.prog Tryz.f3 [] false w args ∧ laidMetH Tryz.prog laidL w) ∧ sizedMet enc Tryz.prog Tryz.f3 (OpenSpec.ofChange Rows.linkCarriesSpec) false w args) (Rows.linkCarriesSpec.post enc Tryz.prog Tryz.f3 false true false false) := by
  refine liftedH (tb := 4) started (by kernel_rfl) Tryz.func3
    (ChangeSpec.witness_at (enc := enc) (C := Tryz.checked) (os := os) (X := fun w _ => laidMetH Tryz.prog laidL w) false (laidWorld os) #[.int .u8 0, .slice none 0 0, .slice none 0 0] 8 rfl (by kernel_rfl) (by kernel_rfl) (by kernel_rfl) (by kernel_rfl) (by kernel_rfl) (laidWorld_met os _)) (by kernel_rfl) rfl rfl Tryz.underlying4 ?_ ?_
  · intro ds h
    match ds, h with
    | [_, _, _], _ => rfl
  · intro W base args ds ps hval0 hA0 hfz hH
    have hval : ∀ (j : Nat) t v, Tryz.f3.params[j]? = some t → args[j]? = some v → Value.okWide Tryz.prog W .any base t v := hval0
    have hA : DataW.TrodAll enc Tryz.prog W 0 (fun _ => true) true Tryz.f3.params.toList args.toList ds ps := hA0
    rw [Tryz.params3] at hA hval
    obtain ⟨v0, vs0, d0, ds0, p0, q0, e0, rfl, rfl, h0, hA⟩ := trodAll_cons hA
    obtain ⟨v1, vs1, d1, ds1, p1, q1, rfl, rfl, rfl, h1, hA⟩ := trodAll_cons hA
    obtain ⟨v2, vs2, d2, ds2, p2, q2, rfl, rfl, rfl, h2, hA⟩ := trodAll_cons hA
    obtain ⟨rfl, rfl, rfl⟩ := trodAll_nil hA
    have ea : args = #[v0, v1, v2] := by apply Array.ext'; simpa using e0
    subst ea
    obtain ⟨a0, rfl, _, _, wf0⟩ := open_int Tryz.underlying5 (hval 0 _ _ rfl rfl) h0
    have wa0 := u8_bounds wf0
    obtain ⟨a1, cap1, xs1, rfl, hl1, hm1, hx1⟩ := arg_slice Tryz.underlying22 (sound_slice Tryz.underlying22 (by kernel_rfl) (by decide) (sound_struct Tryz.underlying48 (by kernel_rfl) (soundF_cons (sound_int Tryz.underlying5 (by kernel_rfl)) rfl (soundF_one (sound_int Tryz.underlying5 (by kernel_rfl)) rfl)))) (hval 1 _ _ rfl rfl) h1
    obtain ⟨a2, cap2, xs2, rfl, hl2, hm2, hx2⟩ := arg_slice Tryz.underlying22 (sound_slice Tryz.underlying22 (by kernel_rfl) (by decide) (sound_struct Tryz.underlying48 (by kernel_rfl) (soundF_cons (sound_int Tryz.underlying5 (by kernel_rfl)) rfl (soundF_one (sound_int Tryz.underlying5 (by kernel_rfl)) rfl)))) (hval 2 _ _ rfl rfl) h2
    obtain ⟨small, rfl⟩ : ∃ n : Nat, a0 = (n : Int) := ⟨a0.toNat, (Int.toNat_of_nonneg wa0.1).symm⟩
    exact carries_fn (chs_of hl1 hm1 hx1) (chs_of hl2 hm2 hx2) hH
theorem linkCarries_said : Rows.LinkCarriesSaid :=
  OpenClaim.holds_of_wide 3 Tryz.f3 rfl rfl rfl rfl rfl rfl rfl ⟨rfl, rfl, rfl, rfl, rfl⟩ rfl rfl rfl rfl rfl (by kernel_rfl) Tryz.func3 (by kernel_rfl)
    (of_decide_eq_true (by kernel_rfl)) (by unfold Func.isWrapper; first | (rw [if_pos (by decide +kernel)]; kernel_rfl) | (rw [if_neg (by decide +kernel)]; exact ⟨rfl, rfl⟩))
    (fun os started H enc _ => linkCarries_lifted os started H enc)
theorem linkCarries_holds : Rows.LinkCarriesCardSaid :=
  Claim7.holds_tied_plain_at .later [] [.handle] true Rows.linkCarriesCard.stood.harness true
    linkCarries_said (fun _ h => by cases h) (by kernel_rfl) (fun _ h => by cases h) linkCarries_row_tie rfl ⟨rfl, rfl⟩ (by kernel_rfl) rfl
    (fun f fn hf hfn => by
      obtain rfl : f = 3 := Option.some.inj ((show Tryz.prog.funcNamed "anabranch/anabranchlaw22.LinkCarries" = some 3 by kernel_rfl).symm.trans hf) |>.symm
      obtain rfl : fn = Tryz.f3 := (Option.some.inj (Tryz.func3.symm.trans hfn)).symm
      refine ⟨by kernel_rfl, fun j t ht => ?_⟩
      rw [Tryz.params3] at ht
      match j, ht with
      | 0, ht => cases ht; exact (show Tryz.prog.wantsStandIn 5 = false by kernel_rfl)
      | 1, ht => cases ht; exact (show Tryz.prog.wantsStandIn 22 = false by kernel_rfl)
      | 2, ht => cases ht; exact (show Tryz.prog.wantsStandIn 22 = false by kernel_rfl)
      | n + 3, ht => simp at ht)
    (by kernel_rfl)
end Go.Proofs.YtdiaogcogkapgaaGreatDoor
