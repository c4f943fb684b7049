/-
  OutboxPlays is proved: whatever is done with an outbox, it is as the document says. No condition.
-/
import Derived.Test.YtcnbecdpfildnaaOb16
import Derived.Test.YtcnbecdpfildnaaRd
namespace Go.Proofs.Ytcnbecdpfildnaa
open Go.ChangeShapes Go.WideShapes Go.ChangeAt Go.RowKit

set_option maxRecDepth 100000 in
theorem outboxPlays_lifted (os : Os) (started : os.Started) (H : Type) (enc : TypeId × Value → H) :
    ReturnsInHanded {} Try.checked os 7 .any (Rows.outboxPlaysSpec.pre6 enc Try.prog Try.f7 Rows.outboxPlaysRow.domain false) (Rows.outboxPlaysSpec.post enc Try.prog Try.f7 false true false false) := by
  refine lifted (C := Try.checked) (tb := 4) ownOf started (by kernel_rfl) Try.func7
    (ChangeSpec.witness6 (enc := enc) (C := Try.checked) false ⟨#[], #[.int .i64 0, .int .u8 0, .slice none 0 0], []⟩ 8 (by kernel_rfl) (by kernel_rfl) (by kernel_rfl) (by kernel_rfl)) laidOf (by kernel_rfl) rfl rfl Try.underlying4 ?_ ?_
  · intro ds h
    match ds, h with
    | [_, _, _], _ => rfl
  · intro W base args ds ps hval0 hA0 _
    have hval : ∀ (j : Nat) t v, Try.f7.params[j]? = some t → args[j]? = some v → Value.okWide Try.prog W .any base t v := hval0
    have hA : DataW.TrodAll enc Try.prog W 0 (fun _ => true) true Try.f7.params.toList args.toList ds ps := hA0
    rw [Try.params7] at hA hval
    obtain ⟨v0, vs0, d0, ds0, p0, q0, e0, rfl, rfl, h0, hA⟩ := trodAll_cons hA
    obtain ⟨v1, vs1, d1, ds1, p1, q1, rfl, rfl, rfl, h1, hA⟩ := trodAll_cons hA
    obtain ⟨v2, vs2, d2, ds2, p2, q2, rfl, rfl, rfl, h2, hA⟩ := trodAll_cons hA
    obtain ⟨rfl, rfl, rfl⟩ := trodAll_nil hA
    have ea : args = #[v0, v1, v2] := by apply Array.ext'; simpa using e0
    subst ea
    obtain ⟨a0, rfl, _, _, wf0⟩ := open_int Try.underlying3 (hval 0 _ _ rfl rfl) h0
    have wa0 := i64_bounds wf0
    obtain ⟨a1, rfl, _, _, wf1⟩ := open_int Try.underlying5 (hval 1 _ _ rfl rfl) h1
    have wa1 := u8_bounds wf1
    obtain ⟨a2, cap2, xs2, rfl, hl2, hm2, hx2⟩ := arg_slice Try.underlying63 (sound_slice Try.underlying63 (by kernel_rfl) (by decide) (sound_struct Try.underlying70 (by kernel_rfl) (soundF_cons (sound_int Try.underlying5 (by kernel_rfl)) rfl (soundF_cons (sound_int Try.underlying27 (by kernel_rfl)) rfl (soundF_one (sound_int Try.underlying5 (by kernel_rfl)) rfl))))) (hval 2 _ _ rfl rfl) h2
    have h := plays27_fn (ways := a0) (few := a1) (a0 := a2) (cap0 := cap2) (xs := xs2.map fun x => (x.1, x.2.1, x.2.2)) (L := allL W) ?_ ?_ (by rw [List.length_map]; exact hl2)
    · rw [List.length_map] at h; exact h
    · rcases hx2 with h | ⟨b, off, cs, E, fr, i, e1, e2, e3⟩
      · left; rw [h]; rfl
      · refine .inr ⟨b, off, cs, E, fr, i, e1, e2, fun j x hx => ?_⟩
        rw [List.getElem?_map] at hx
        obtain ⟨y, hy, rfl⟩ := Option.map_eq_some_iff.1 hx
        have h3 := e3 j y hy
        have hn : (pairR (intR .u8) (pairR (intR .i8) (intR .u8))).n = 3 := rfl
        rw [hn] at h3
        exact ⟨h3.1.1, h3.2.1.1, h3.2.2.1⟩
    · intro x hx
      obtain ⟨y, hy, rfl⟩ := List.mem_map.1 hx
      rcases hx2 with h | ⟨b, off, cs, E, fr, i, e1, e2, e3⟩
      · rw [h] at hy; cases hy
      · obtain ⟨j, hj⟩ := List.mem_iff_getElem?.1 hy
        have h3 := e3 j y hj
        exact ⟨u8_bounds h3.1.2, i8_bounds h3.2.1.2, u8_bounds h3.2.2.2⟩

theorem outboxPlays_holds : Rows.OutboxPlaysSaid :=
  OpenClaim.holds_of_wide 7 Try.f7 rfl rfl rfl rfl rfl rfl rfl ⟨rfl, rfl, rfl, rfl, rfl⟩ rfl rfl rfl rfl rfl (by kernel_rfl) Try.func7 (by kernel_rfl)
    (of_decide_eq_true (by kernel_rfl)) (by unfold Func.isWrapper; first | (rw [if_pos (by decide +kernel)]; kernel_rfl) | (rw [if_neg (by decide +kernel)]; exact ⟨rfl, rfl⟩))
    (fun os started H enc _ => outboxPlays_lifted os started H enc)
end Go.Proofs.Ytcnbecdpfildnaa
