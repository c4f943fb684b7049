/-
  GramReads is proved (the tied card): any bytes are read as the document says; and a datagram's, of which a byte is another one, and that are cut, or longer. No condition.
-/
import Derived.Test.YtakedlockchpcaaGreatDoorTie
import Derived.Test.YtakedlockchpcaaGreatDoorCards
import Derived.SevenTiedAt
import Derived.Test.YtakedlockchpcaaGreatDoorKR11
namespace Go.Proofs.YtakedlockchpcaaGreatDoor
open Go.ChangeShapes Go.WideShapes Go.ChangeAt Go.RowKit
set_option maxRecDepth 100000 in
theorem gramReads_lifted (os : Os) (started : os.Started) (H : Type) (enc : TypeId × Value → H) :
    ReturnsInHanded {} Tryz.checked os 7 .any (fun w args => (Rows.gramReadsSpec.pre enc Tryz.prog Tryz.f7 [] false w args ∧ laidMetH Tryz.prog laidL w) ∧ sizedMet enc Tryz.prog Tryz.f7 (OpenSpec.ofChange Rows.gramReadsSpec) false w args) (Rows.gramReadsSpec.post enc Tryz.prog Tryz.f7 false true false false) := by
  refine liftedH (tb := 4) started (by kernel_rfl) Tryz.func7
    (ChangeSpec.witness_at (enc := enc) (C := Tryz.checked) (os := os) (X := fun w _ => laidMetH Tryz.prog laidL w) false (laidWorld os) #[.string .empty, .agg zc82, .agg zc91] 8 rfl (by kernel_rfl) (by kernel_rfl) (by kernel_rfl) (by kernel_rfl) (by kernel_rfl) (laidWorld_met os _)) (by kernel_rfl) rfl rfl Tryz.underlying4 ?_ ?_
  · intro ds h
    match ds, h with
    | [_, _, _], _ => rfl
  · intro W base args ds ps hval0 hA0 hfz hH
    have hval : ∀ (j : Nat) t v, Tryz.f7.params[j]? = some t → args[j]? = some v → Value.okWide Tryz.prog W .any base t v := hval0
    have hA : DataW.TrodAll enc Tryz.prog W 0 (fun _ => true) true Tryz.f7.params.toList args.toList ds ps := hA0
    rw [Tryz.params7] at hA hval
    obtain ⟨v0, vs0, d0, ds0, p0, q0, e0, rfl, rfl, h0, hA⟩ := trodAll_cons hA
    obtain ⟨v1, vs1, d1, ds1, p1, q1, rfl, rfl, rfl, h1, hA⟩ := trodAll_cons hA
    obtain ⟨v2, vs2, d2, ds2, p2, q2, rfl, rfl, rfl, h2, hA⟩ := trodAll_cons hA
    obtain ⟨rfl, rfl, rfl⟩ := trodAll_nil hA
    have ea : args = #[v0, v1, v2] := by apply Array.ext'; simpa using e0
    subst ea
    obtain ⟨l0, rfl, hl0⟩ := arg_str Tryz.underlying9 (hval 0 _ _ rfl rfl) h0
    obtain ⟨cs1, x1, rfl, hz1, hx1⟩ := argZ_agg Tryz.underlying82 draftR_sound (hval 1 _ _ rfl rfl) h1 (noneFrozen_sub hfz fun _ hq => by simp [hq])
    obtain ⟨cs2, x2, rfl, hz2, hx2⟩ := arg_agg Tryz.underlying91 (sound_struct Tryz.underlying91 (by kernel_rfl) (soundF_cons (sound_int Tryz.underlying62 (by kernel_rfl)) rfl (soundF_cons (sound_int Tryz.underlying62 (by kernel_rfl)) rfl (soundF_one (sound_int Tryz.underlying5 (by kernel_rfl)) rfl)))) (hval 2 _ _ rfl rfl) h2
    obtain ⟨ds, d, odd, b, bcap, b', bcap', rfl, hD⟩ := draft_of hz1 hx1
    obtain ⟨⟨a0, w0⟩, ⟨a1, w1⟩, a2, w2⟩ := hx2
    have ec : cs2 = #[.int .u16 x2.1, .int .u16 x2.2.1, .int .u8 x2.2.2] := by
      apply Array.ext_getElem?
      intro j
      match j with
      | 0 => exact a0
      | 1 => exact a1
      | 2 => exact a2
      | j + 3 => rw [Array.getElem?_eq_none (by have : cs2.size = 3 := hz2; omega), Array.getElem?_eq_none (by simp)]
    subst ec
    exact greads_fn (s := l0) (L := allL W) hH hD (u16_bounds w0) (u16_bounds w1)
theorem gramReads_said : Rows.GramReadsSaid :=
  OpenClaim.holds_of_wide 7 Tryz.f7 rfl rfl rfl rfl rfl rfl rfl ⟨rfl, rfl, rfl, rfl, rfl⟩ rfl rfl rfl rfl rfl (by kernel_rfl) Tryz.func7 (by kernel_rfl)
    (of_decide_eq_true (by kernel_rfl)) (by unfold Func.isWrapper; first | (rw [if_pos (by decide +kernel)]; kernel_rfl) | (rw [if_neg (by decide +kernel)]; exact ⟨rfl, rfl⟩))
    (fun os started H enc _ => gramReads_lifted os started H enc)
theorem gramReads_holds : Rows.GramReadsCardSaid :=
  Claim7.holds_tied_plain_at .later [] [.handle] true Rows.gramReadsCard.stood.harness true
    gramReads_said (fun _ h => by cases h) (by kernel_rfl) (fun _ h => by cases h) gramReads_row_tie rfl ⟨rfl, rfl⟩ (by kernel_rfl) rfl
    (fun f fn hf hfn => by
      obtain rfl : f = 7 := Option.some.inj ((show Tryz.prog.funcNamed "anabranch/anabranchlaw18.GramReads" = some 7 by kernel_rfl).symm.trans hf) |>.symm
      obtain rfl : fn = Tryz.f7 := (Option.some.inj (Tryz.func7.symm.trans hfn)).symm
      refine ⟨by kernel_rfl, fun j t ht => ?_⟩
      rw [Tryz.params7] at ht
      match j, ht with
      | 0, ht => cases ht; exact (show Tryz.prog.wantsStandIn 9 = false by kernel_rfl)
      | 1, ht => cases ht; exact (show Tryz.prog.wantsStandIn 82 = false by kernel_rfl)
      | 2, ht => cases ht; exact (show Tryz.prog.wantsStandIn 91 = false by kernel_rfl)
      | n + 3, ht => simp at ht)
    (by kernel_rfl)
end Go.Proofs.YtakedlockchpcaaGreatDoor
