/-
  PartOrder is proved: whatever the order of putting, what comes out is the same. No condition.
-/
import Derived.Test.YtekmmhmhcpaiaaaGreatKP44
namespace Go.Proofs.YtekmmhmhcpaiaaaGreat
open Go.ChangeShapes Go.WideShapes Go.ChangeAt Go.RowKit
set_option maxHeartbeats 4000000 in
set_option maxRecDepth 100000 in
theorem partOrder_lifted (os : Os) (started : os.Started) (H : Type) (enc : TypeId × Value → H) :
    ReturnsInHanded {} Tryz.checked os 3 .any (Rows.partOrderSpec.pre6 enc Tryz.prog Tryz.f3 Rows.partOrderRow.domain false) (Rows.partOrderSpec.post enc Tryz.prog Tryz.f3 false true false false) := by
  refine lifted (C := Tryz.checked) (tb := 4) ownOf started (by kernel_rfl) Tryz.func3
    (ChangeSpec.witness6 (enc := enc) (C := Tryz.checked) false ⟨#[], #[.agg zc23, .slice none 0 0, .slice none 0 0], []⟩ 8 (by kernel_rfl) (by kernel_rfl) (by kernel_rfl) (by kernel_rfl)) laidOf (by kernel_rfl) rfl rfl Tryz.underlying4 ?_ ?_
  · intro ds h
    match ds, h with
    | [_, _, _], _ => rfl
  · intro W base args ds ps hval0 hA0 _
    have hval : ∀ (j : Nat) t v, Tryz.f3.params[j]? = some t → args[j]? = some v → Value.okWide Tryz.prog W .any base t v := hval0
    have hA : DataW.TrodAll enc Tryz.prog W 0 (fun _ => true) true Tryz.f3.params.toList args.toList ds ps := hA0
    rw [Tryz.params3] at hA hval
    obtain ⟨v0, vs0, d0, ds0, p0, q0, e0, rfl, rfl, h0, hA⟩ := trodAll_cons hA
    obtain ⟨v1, vs1, d1, ds1, p1, q1, rfl, rfl, rfl, h1, hA⟩ := trodAll_cons hA
    obtain ⟨v2, vs2, d2, ds2, p2, q2, rfl, rfl, rfl, h2, hA⟩ := trodAll_cons hA
    obtain ⟨rfl, rfl, rfl⟩ := trodAll_nil hA
    have ea : args = #[v0, v1, v2] := by apply Array.ext'; simpa using e0
    subst ea
    obtain ⟨cs0, x0, rfl, hz0, hx0⟩ := arg_agg Tryz.underlying23 (sound_struct Tryz.underlying23 (by kernel_rfl) (soundF_cons (sound_int Tryz.underlying5 (by kernel_rfl)) rfl (soundF_cons (sound_int Tryz.underlying5 (by kernel_rfl)) rfl (soundF_cons (sound_int Tryz.underlying5 (by kernel_rfl)) rfl (soundF_one (sound_int Tryz.underlying5 (by kernel_rfl)) rfl))))) (hval 0 _ _ rfl rfl) h0
    obtain ⟨a1, cap1, xs1, rfl, hl1, hm1, hx1⟩ := arg_slice Tryz.underlying24 (sound_slice Tryz.underlying24 (by kernel_rfl) (by decide) (sound_struct Tryz.underlying82 (by kernel_rfl) (soundF_cons (sound_int Tryz.underlying5 (by kernel_rfl)) rfl (soundF_cons (sound_int Tryz.underlying5 (by kernel_rfl)) rfl (soundF_one (sound_struct Tryz.underlying23 (by kernel_rfl) (soundF_cons (sound_int Tryz.underlying5 (by kernel_rfl)) rfl (soundF_cons (sound_int Tryz.underlying5 (by kernel_rfl)) rfl (soundF_cons (sound_int Tryz.underlying5 (by kernel_rfl)) rfl (soundF_one (sound_int Tryz.underlying5 (by kernel_rfl)) rfl))))) rfl))))) (hval 1 _ _ rfl rfl) h1
    obtain ⟨a2, cap2, xs2, rfl, hl2, hm2, hx2⟩ := arg_slice Tryz.underlying25 (sound_slice Tryz.underlying25 (by kernel_rfl) (by decide) (sound_struct Tryz.underlying38 (by kernel_rfl) (soundF_cons (sound_int Tryz.underlying5 (by kernel_rfl)) rfl (soundF_cons (sound_int Tryz.underlying5 (by kernel_rfl)) rfl (soundF_cons (sound_int Tryz.underlying36 (by kernel_rfl)) rfl (soundF_one (sound_int Tryz.underlying2 (by kernel_rfl)) rfl)))))) (hval 2 _ _ rfl rfl) h2
    obtain ⟨b0, b1, b2, b3, rfl⟩ := su_of hz0 hx0
    have hw1 := sw_of hl1 hm1 hx1
    have hw2 := pu_of hl2 hm2 hx2
    rw [List.length_map] at hw1 hw2
    refine partOrder_fn (L := allL W) b0 b1 b2 b3 (by rw [List.length_map]; exact hw1.1) hw1.2 (by rw [List.length_map]; exact hw2.1) hw2.2
theorem partOrder_holds : Rows.PartOrderSaid :=
  OpenClaim.holds_of_wide 3 Tryz.f3 rfl rfl rfl rfl rfl rfl rfl ⟨rfl, rfl, rfl, rfl, rfl⟩ rfl rfl rfl rfl rfl (by kernel_rfl) Tryz.func3 (by kernel_rfl)
    (of_decide_eq_true (by kernel_rfl)) (by unfold Func.isWrapper; first | (rw [if_pos (by decide +kernel)]; kernel_rfl) | (rw [if_neg (by decide +kernel)]; exact ⟨rfl, rfl⟩))
    (fun os started H enc _ => partOrder_lifted os started H enc)
end Go.Proofs.YtekmmhmhcpaiaaaGreat
