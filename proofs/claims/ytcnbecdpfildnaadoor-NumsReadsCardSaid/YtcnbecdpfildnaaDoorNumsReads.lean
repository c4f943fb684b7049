/-
  NumsReads is proved (the tied card): whatever is read of any bytes is as the document says. No condition.
-/
import Derived.Test.YtcnbecdpfildnaaDoorNm6
import Derived.Test.YtcnbecdpfildnaaDoorRd2
import Derived.Test.YtcnbecdpfildnaaDoorLiftH
import Derived.Test.YtcnbecdpfildnaaDoorTie
import Derived.Test.YtcnbecdpfildnaaDoorCards
import Derived.SevenTiedAt
namespace Go.Proofs.YtcnbecdpfildnaaDoor
open Go.ChangeShapes Go.WideShapes Go.ChangeAt Go.RowKit

set_option maxRecDepth 100000 in
theorem numsReads_lifted (os : Os) (started : os.Started) (H : Type) (enc : TypeId × Value → H) :
    ReturnsInHanded {} Tryd.checked os 5 .any (fun w args => (Rows.numsReadsSpec.pre enc Tryd.prog Tryd.f5 [] false w args ∧ laidMetH Tryd.prog laidL w) ∧ sizedMet enc Tryd.prog Tryd.f5 (OpenSpec.ofChange Rows.numsReadsSpec) false w args) (Rows.numsReadsSpec.post enc Tryd.prog Tryd.f5 false true false false) := by
  refine liftedH (tb := 4) started (by kernel_rfl) Tryd.func5
    (ChangeSpec.witness_at (enc := enc) (C := Tryd.checked) (os := os) (X := fun w _ => laidMetH Tryd.prog laidL w) false (laidWorld os) #[.string .empty, .slice none 0 0] 8 rfl (by kernel_rfl) (by kernel_rfl) (by kernel_rfl) (by kernel_rfl) (by kernel_rfl) (laidWorld_met os _)) (by kernel_rfl) rfl rfl Tryd.underlying4 ?_ ?_
  · intro ds h
    match ds, h with
    | [_, _], _ => rfl
  · intro W base args ds ps hval0 hA0 hfz hH
    have hval : ∀ (j : Nat) t v, Tryd.f5.params[j]? = some t → args[j]? = some v → Value.okWide Tryd.prog W .any base t v := hval0
    have hA : DataW.TrodAll enc Tryd.prog W 0 (fun _ => true) true Tryd.f5.params.toList args.toList ds ps := hA0
    rw [Tryd.params5] at hA hval
    obtain ⟨v0, vs0, d0, ds0, p0, q0, e0, rfl, rfl, h0, hA⟩ := trodAll_cons hA
    obtain ⟨v1, vs1, d1, ds1, p1, q1, rfl, rfl, rfl, h1, hA⟩ := trodAll_cons hA
    obtain ⟨rfl, rfl, rfl⟩ := trodAll_nil hA
    have ea : args = #[v0, v1] := by apply Array.ext'; simpa using e0
    subst ea
    obtain ⟨l0, rfl, hl0⟩ := arg_str Tryd.underlying9 (hval 0 _ _ rfl rfl) h0
    obtain ⟨a1, cap1, xs1, rfl, hl1, hm1, hx1⟩ := arg_slice Tryd.underlying35 (sound_slice Tryd.underlying35 (by kernel_rfl) (by decide) (sound_int Tryd.underlying41 (by kernel_rfl))) (hval 1 _ _ rfl rfl) h1
    refine reads_fn hH ?_ hl1
    rcases hx1 with h | ⟨b, off, cs, E, fr, i, e1, e2, e3⟩
    · exact .inl h
    · refine .inr ⟨b, off, cs, E, fr, i, e1, e2, fun j x hx => ?_⟩
      have := (e3 j x hx).1
      simpa [intR] using this

theorem numsReads_said : Rows.NumsReadsSaid :=
  OpenClaim.holds_of_wide 5 Tryd.f5 rfl rfl rfl rfl rfl rfl rfl ⟨rfl, rfl, rfl, rfl, rfl⟩ rfl rfl rfl rfl rfl (by kernel_rfl) Tryd.func5 (by kernel_rfl)
    (of_decide_eq_true (by kernel_rfl)) (by unfold Func.isWrapper; first | (rw [if_pos (by decide +kernel)]; kernel_rfl) | (rw [if_neg (by decide +kernel)]; exact ⟨rfl, rfl⟩))
    (fun os started H enc _ => numsReads_lifted os started H enc)

theorem numsReads_holds : Rows.NumsReadsCardSaid :=
  Claim7.holds_tied_plain_at .later [] [.handle] true Rows.numsReadsCard.stood.harness true
    numsReads_said (fun _ h => by cases h) (by kernel_rfl) (fun _ h => by cases h) numsReads_row_tie rfl ⟨rfl, rfl⟩ (by kernel_rfl) rfl
    (fun f fn hf hfn => by
      obtain rfl : f = 5 := Option.some.inj ((show Tryd.prog.funcNamed "anabranch/anabranchlaw01.NumsReads" = some 5 by kernel_rfl).symm.trans hf) |>.symm
      obtain rfl : fn = Tryd.f5 := (Option.some.inj (Tryd.func5.symm.trans hfn)).symm
      refine ⟨by kernel_rfl, fun j t ht => ?_⟩
      rw [Tryd.params5] at ht
      match j, ht with
      | 0, ht => cases ht; exact (show Tryd.prog.wantsStandIn 9 = false by kernel_rfl)
      | 1, ht => cases ht; exact (show Tryd.prog.wantsStandIn 35 = false by kernel_rfl)
      | n + 2, ht => simp at ht)
    (by kernel_rfl)
end Go.Proofs.YtcnbecdpfildnaaDoor
