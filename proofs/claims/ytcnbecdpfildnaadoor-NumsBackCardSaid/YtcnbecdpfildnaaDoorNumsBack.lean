/-
  NumsBack is proved (the tied card): things that are laid are read back; what is read is laid just so. No condition.
-/
import Derived.Test.YtcnbecdpfildnaaDoorNm8
import Derived.Test.YtcnbecdpfildnaaDoorRd2
import Derived.Test.YtcnbecdpfildnaaDoorLiftH
import Derived.Test.YtcnbecdpfildnaaDoorTie
import Derived.Test.YtcnbecdpfildnaaDoorCards
import Derived.SevenTiedAt
namespace Go.Proofs.YtcnbecdpfildnaaDoor
open Go.ChangeShapes Go.WideShapes Go.ChangeAt Go.RowKit

set_option maxRecDepth 100000 in
theorem numsBack_lifted (os : Os) (started : os.Started) (H : Type) (enc : TypeId × Value → H) :
    ReturnsInHanded {} Tryd.checked os 7 .any (fun w args => (Rows.numsBackSpec.pre enc Tryd.prog Tryd.f7 [] false w args ∧ laidMetH Tryd.prog laidL w) ∧ sizedMet enc Tryd.prog Tryd.f7 (OpenSpec.ofChange Rows.numsBackSpec) false w args) (Rows.numsBackSpec.post enc Tryd.prog Tryd.f7 false true false false) := by
  refine liftedH (tb := 4) started (by kernel_rfl) Tryd.func7
    (ChangeSpec.witness_at (enc := enc) (C := Tryd.checked) (os := os) (X := fun w _ => laidMetH Tryd.prog laidL w) false (laidWorld os) #[.slice none 0 0, .string .empty] 8 rfl (by kernel_rfl) (by kernel_rfl) (by kernel_rfl) (by kernel_rfl) (by kernel_rfl) (laidWorld_met os _)) (by kernel_rfl) rfl rfl Tryd.underlying4 ?_ ?_
  · intro ds h
    match ds, h with
    | [_, _], _ => rfl
  · intro W base args ds ps hval0 hA0 hfz hH
    have hval : ∀ (j : Nat) t v, Tryd.f7.params[j]? = some t → args[j]? = some v → Value.okWide Tryd.prog W .any base t v := hval0
    have hA : DataW.TrodAll enc Tryd.prog W 0 (fun _ => true) true Tryd.f7.params.toList args.toList ds ps := hA0
    rw [Tryd.params7] at hA hval
    obtain ⟨v0, vs0, d0, ds0, p0, q0, e0, rfl, rfl, h0, hA⟩ := trodAll_cons hA
    obtain ⟨v1, vs1, d1, ds1, p1, q1, rfl, rfl, rfl, h1, hA⟩ := trodAll_cons hA
    obtain ⟨rfl, rfl, rfl⟩ := trodAll_nil hA
    have ea : args = #[v0, v1] := by apply Array.ext'; simpa using e0
    subst ea
    obtain ⟨a0, cap0, xs0, rfl, hl0, hm0, hx0⟩ := arg_slice Tryd.underlying73 (sound_slice Tryd.underlying73 (by kernel_rfl) (by decide) (sound_struct Tryd.underlying76 (by kernel_rfl) (soundF_cons (sound_int Tryd.underlying5 (by kernel_rfl)) rfl (soundF_cons (sound_int Tryd.underlying22 (by kernel_rfl)) rfl (soundF_one (sound_str Tryd.underlying9 (by kernel_rfl)) rfl))))) (hval 0 _ _ rfl rfl) h0
    obtain ⟨l1, rfl, hl1⟩ := arg_str Tryd.underlying9 (hval 1 _ _ rfl rfl) h1
    have key : ∀ x ∈ xs0, ∃ (j : Nat), xs0[j]? = some x := fun x hx => List.mem_iff_getElem?.1 hx
    have h := back_fn (L := allL W) (s := l1) (a0 := a0) (cap0 := cap0) (xs0 := xs0.map fun x => (x.1, x.2.1, x.2.2.data.toList)) hH ?_ ?_ (by rw [List.length_map]; exact hl0)
    · rw [List.length_map] at h; exact h
    · rcases hx0 with h | ⟨b, off, cs, E, fr, i, e1, e2, e3⟩
      · left; rw [h]; rfl
      · refine .inr ⟨b, off, cs, E, fr, i, e1, e2, fun j x hx => ?_⟩
        rw [List.getElem?_map] at hx
        obtain ⟨y, hy, rfl⟩ := Option.map_eq_some_iff.1 hx
        have h3 := e3 j y hy
        have hn : (pairR (intR .u8) (pairR (intR .u64) strR)).n = 3 := rfl
        rw [hn] at h3
        exact ⟨h3.1.1, h3.2.1.1, by rw [← bstr_of]; exact h3.2.2.1⟩
    · intro x hx
      obtain ⟨y, hy, rfl⟩ := List.mem_map.1 hx
      rcases hx0 with h | ⟨b, off, cs, E, fr, i, e1, e2, e3⟩
      · rw [h] at hy; cases hy
      · obtain ⟨j, hj⟩ := key y hy
        have h3 := e3 j y hj
        exact ⟨u8_bounds h3.1.2, u64_bounds h3.2.1.2⟩

theorem numsBack_said : Rows.NumsBackSaid :=
  OpenClaim.holds_of_wide 7 Tryd.f7 rfl rfl rfl rfl rfl rfl rfl ⟨rfl, rfl, rfl, rfl, rfl⟩ rfl rfl rfl rfl rfl (by kernel_rfl) Tryd.func7 (by kernel_rfl)
    (of_decide_eq_true (by kernel_rfl)) (by unfold Func.isWrapper; first | (rw [if_pos (by decide +kernel)]; kernel_rfl) | (rw [if_neg (by decide +kernel)]; exact ⟨rfl, rfl⟩))
    (fun os started H enc _ => numsBack_lifted os started H enc)

theorem numsBack_holds : Rows.NumsBackCardSaid :=
  Claim7.holds_tied_plain_at .later [] [.handle] true Rows.numsBackCard.stood.harness true
    numsBack_said (fun _ h => by cases h) (by kernel_rfl) (fun _ h => by cases h) numsBack_row_tie rfl ⟨rfl, rfl⟩ (by kernel_rfl) rfl
    (fun f fn hf hfn => by
      obtain rfl : f = 7 := Option.some.inj ((show Tryd.prog.funcNamed "anabranch/anabranchlaw01.NumsBack" = some 7 by kernel_rfl).symm.trans hf) |>.symm
      obtain rfl : fn = Tryd.f7 := (Option.some.inj (Tryd.func7.symm.trans hfn)).symm
      refine ⟨by kernel_rfl, fun j t ht => ?_⟩
      rw [Tryd.params7] at ht
      match j, ht with
      | 0, ht => cases ht; exact (show Tryd.prog.wantsStandIn 73 = false by kernel_rfl)
      | 1, ht => cases ht; exact (show Tryd.prog.wantsStandIn 9 = false by kernel_rfl)
      | n + 2, ht => simp at ht)
    (by kernel_rfl)
end Go.Proofs.YtcnbecdpfildnaaDoor
