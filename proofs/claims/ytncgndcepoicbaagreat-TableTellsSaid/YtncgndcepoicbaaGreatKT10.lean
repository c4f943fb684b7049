/-
  A part of what the last of these texts needs; by itself it proves no statement.
-/
import Derived.Test.YtncgndcepoicbaaGreatKT9
namespace Go.Proofs.YtncgndcepoicbaaGreat
open Go.ChangeShapes Go.WideShapes Go.ChangeAt Go.RowKit
set_option maxHeartbeats 4000000 in
set_option maxRecDepth 100000 in
theorem tableTells_lifted (os : Os) (started : os.Started) (H : Type) (enc : TypeId × Value → H) :
    ReturnsInHanded {} Tryz.checked os 3 .any (Rows.tableTellsSpec.pre6 enc Tryz.prog Tryz.f3 Rows.tableTellsRow.domain false) (Rows.tableTellsSpec.post enc Tryz.prog Tryz.f3 false true false false) := by
  refine lifted (C := Tryz.checked) (tb := 4) ownOf started (by kernel_rfl) Tryz.func3
    (ChangeSpec.witness6 (enc := enc) (C := Tryz.checked) false ⟨#[], #[.agg zc25, .agg zc27, .slice none 0 0], []⟩ 8 (by kernel_rfl) (by kernel_rfl) (by kernel_rfl) (by kernel_rfl)) laidOf (by kernel_rfl) rfl rfl Tryz.underlying4 ?_ ?_
  · intro ds h
    match ds, h with
    | [_, _, _], _ => rfl
  · intro W base args ds ps hval0 hA0 _
    have hval : ∀ (j : Nat) t v, Tryz.f3.params[j]? = some t → args[j]? = some v → Value.okWide Tryz.prog W .any base t v := hval0
    have hA : DataW.TrodAll enc Tryz.prog W 0 (fun _ => true) true Tryz.f3.params.toList args.toList ds ps := hA0
    rw [Tryz.params3] at hA hval
    obtain ⟨v0, vs0, d0, ds0, p0, q0, e0, rfl, rfl, h0, hA⟩ := trodAll_cons hA
    obtain ⟨v1, vs1, d1, ds1, p1, q1, rfl, rfl, rfl, h1, hA⟩ := trodAll_cons hA
    obtain ⟨v2, vs2, d2, ds2, p2, q2, rfl, rfl, rfl, h2, hA⟩ := trodAll_cons hA
    obtain ⟨rfl, rfl, rfl⟩ := trodAll_nil hA
    have ea : args = #[v0, v1, v2] := by apply Array.ext'; simpa using e0
    subst ea
    obtain ⟨cs0, x0, rfl, hz0, hx0⟩ := arg_agg Tryz.underlying25 (sound_struct Tryz.underlying25 (by kernel_rfl) (soundF_cons (sound_slice Tryz.underlying22 (by kernel_rfl) (by decide) (sound_struct Tryz.underlying40 (by kernel_rfl) (soundF_cons (sound_int Tryz.underlying3 (by kernel_rfl)) rfl (soundF_cons (sound_int Tryz.underlying2 (by kernel_rfl)) rfl (soundF_cons (sound_int Tryz.underlying2 (by kernel_rfl)) rfl (soundF_one (sound_int Tryz.underlying3 (by kernel_rfl)) rfl)))))) rfl (soundF_cons (sound_slice Tryz.underlying23 (by kernel_rfl) (by decide) (sound_struct Tryz.underlying100 (by kernel_rfl) (soundF_cons (sound_struct Tryz.underlying40 (by kernel_rfl) (soundF_cons (sound_int Tryz.underlying3 (by kernel_rfl)) rfl (soundF_cons (sound_int Tryz.underlying2 (by kernel_rfl)) rfl (soundF_cons (sound_int Tryz.underlying2 (by kernel_rfl)) rfl (soundF_one (sound_int Tryz.underlying3 (by kernel_rfl)) rfl))))) rfl (soundF_one (sound_slice Tryz.underlying22 (by kernel_rfl) (by decide) (sound_struct Tryz.underlying40 (by kernel_rfl) (soundF_cons (sound_int Tryz.underlying3 (by kernel_rfl)) rfl (soundF_cons (sound_int Tryz.underlying2 (by kernel_rfl)) rfl (soundF_cons (sound_int Tryz.underlying2 (by kernel_rfl)) rfl (soundF_one (sound_int Tryz.underlying3 (by kernel_rfl)) rfl)))))) rfl)))) rfl (soundF_cons (sound_int Tryz.underlying2 (by kernel_rfl)) rfl (soundF_one (sound_int Tryz.underlying2 (by kernel_rfl)) rfl))))) (hval 0 _ _ rfl rfl) h0
    obtain ⟨cs1, x1, rfl, hz1, hx1⟩ := arg_agg Tryz.underlying27 (sound_struct Tryz.underlying27 (by kernel_rfl) (soundF_cons (sound_int Tryz.underlying3 (by kernel_rfl)) rfl (soundF_cons (sound_int Tryz.underlying3 (by kernel_rfl)) rfl (soundF_cons (sound_int Tryz.underlying3 (by kernel_rfl)) rfl (soundF_cons (sound_int Tryz.underlying3 (by kernel_rfl)) rfl (soundF_one (sound_int Tryz.underlying3 (by kernel_rfl)) rfl)))))) (hval 1 _ _ rfl rfl) h1
    obtain ⟨a2, cap2, xs2, rfl, hl2, hm2, hx2⟩ := arg_slice Tryz.underlying28 (sound_slice Tryz.underlying28 (by kernel_rfl) (by decide) (sound_struct Tryz.underlying46 (by kernel_rfl) (soundF_cons (sound_struct Tryz.underlying42 (by kernel_rfl) (soundF_cons (sound_int Tryz.underlying3 (by kernel_rfl)) rfl (soundF_cons (sound_int Tryz.underlying2 (by kernel_rfl)) rfl (soundF_cons (sound_slice Tryz.underlying38 (by kernel_rfl) (by decide) (sound_int Tryz.underlying3 (by kernel_rfl))) rfl (soundF_cons (sound_int Tryz.underlying3 (by kernel_rfl)) rfl (soundF_cons (sound_int Tryz.underlying3 (by kernel_rfl)) rfl (soundF_cons (sound_struct Tryz.underlying40 (by kernel_rfl) (soundF_cons (sound_int Tryz.underlying3 (by kernel_rfl)) rfl (soundF_cons (sound_int Tryz.underlying2 (by kernel_rfl)) rfl (soundF_cons (sound_int Tryz.underlying2 (by kernel_rfl)) rfl (soundF_one (sound_int Tryz.underlying3 (by kernel_rfl)) rfl))))) rfl (soundF_one (sound_int Tryz.underlying3 (by kernel_rfl)) rfl)))))))) rfl (soundF_cons (sound_int Tryz.underlying44 (by kernel_rfl)) rfl (soundF_one (sound_int Tryz.underlying44 (by kernel_rfl)) rfl))))) (hval 2 _ _ rfl rfl) h2
    obtain ⟨⟨b0, w0⟩, ⟨b1, w1⟩, ⟨b2, w2⟩, ⟨b3, w3⟩, b4, w4⟩ := hx1
    have e1 : cs1 = cfC x1 := by
      apply Array.ext_getElem?
      intro j
      match j with
      | 0 => exact b0
      | 1 => exact b1
      | 2 => exact b2
      | 3 => exact b3
      | 4 => exact b4
      | j + 5 => rw [Array.getElem?_eq_none (by have : cs1.size = 5 := hz1; omega), Array.getElem?_eq_none (by show 5 ≤ j + 5; omega)]
    subst e1
    obtain ⟨l, hl⟩ := orders_of hl2 hm2 hx2
    exact tells_fn (L := allL W) (plan_of hz0 hx0) hl
theorem tableTells_holds : Rows.TableTellsSaid :=
  OpenClaim.holds_of_wide 3 Tryz.f3 rfl rfl rfl rfl rfl rfl rfl ⟨rfl, rfl, rfl, rfl, rfl⟩ rfl rfl rfl rfl rfl (by kernel_rfl) Tryz.func3 (by kernel_rfl)
    (of_decide_eq_true (by kernel_rfl)) (by unfold Func.isWrapper; first | (rw [if_pos (by decide +kernel)]; kernel_rfl) | (rw [if_neg (by decide +kernel)]; exact ⟨rfl, rfl⟩))
    (fun os started H enc _ => tableTells_lifted os started H enc)
end Go.Proofs.YtncgndcepoicbaaGreat
