/-
  WinTells is proved: the windows of any operator at any time are as the document says; whether any two meet, and their join. No condition.
-/
import Derived.Test.YtakedlockchpcaaKT5
namespace Go.Proofs.Ytakedlockchpcaa
open Go.ChangeShapes Go.WideShapes Go.ChangeAt Go.RowKit
set_option maxRecDepth 100000 in
theorem winTells_lifted (os : Os) (started : os.Started) (H : Type) (enc : TypeId × Value → H) :
    ReturnsInHanded {} Try.checked os 3 .any (Rows.winTellsSpec.pre6 enc Try.prog Try.f3 Rows.winTellsRow.domain false) (Rows.winTellsSpec.post enc Try.prog Try.f3 false true false false) := by
  refine lifted (C := Try.checked) (tb := 4) ownOf started (by kernel_rfl) Try.func3
    (ChangeSpec.witness6 (enc := enc) (C := Try.checked) false ⟨#[], #[.agg zc23, .agg zc26, .agg zc27], []⟩ 8 (by kernel_rfl) (by kernel_rfl) (by kernel_rfl) (by kernel_rfl)) laidOf (by kernel_rfl) rfl rfl Try.underlying4 ?_ ?_
  · intro ds h
    match ds, h with
    | [_, _, _], _ => rfl
  · intro W base args ds ps hval0 hA0 _
    have hval : ∀ (j : Nat) t v, Try.f3.params[j]? = some t → args[j]? = some v → Value.okWide Try.prog W .any base t v := hval0
    have hA : DataW.TrodAll enc Try.prog W 0 (fun _ => true) true Try.f3.params.toList args.toList ds ps := hA0
    rw [Try.params3] at hA hval
    obtain ⟨v0, vs0, d0, ds0, p0, q0, e0, rfl, rfl, h0, hA⟩ := trodAll_cons hA
    obtain ⟨v1, vs1, d1, ds1, p1, q1, rfl, rfl, rfl, h1, hA⟩ := trodAll_cons hA
    obtain ⟨v2, vs2, d2, ds2, p2, q2, rfl, rfl, rfl, h2, hA⟩ := trodAll_cons hA
    obtain ⟨rfl, rfl, rfl⟩ := trodAll_nil hA
    have ea : args = #[v0, v1, v2] := by apply Array.ext'; simpa using e0
    subst ea
    obtain ⟨cs0, x0, rfl, hz0, hx0⟩ := arg_agg Try.underlying23 (sound_struct Try.underlying23 (by kernel_rfl) (soundF_cons (sound_int Try.underlying3 (by kernel_rfl)) rfl (soundF_cons (sound_int Try.underlying2 (by kernel_rfl)) rfl (soundF_cons (sound_int Try.underlying2 (by kernel_rfl)) rfl (soundF_one (sound_int Try.underlying3 (by kernel_rfl)) rfl))))) (hval 0 _ _ rfl rfl) h0
    obtain ⟨cs1, x1, rfl, hz1, hx1⟩ := arg_agg Try.underlying26 (sound_struct Try.underlying26 (by kernel_rfl) (soundF_cons (sound_int Try.underlying5 (by kernel_rfl)) rfl (soundF_cons (sound_int Try.underlying24 (by kernel_rfl)) rfl (soundF_one (sound_int Try.underlying5 (by kernel_rfl)) rfl)))) (hval 1 _ _ rfl rfl) h1
    obtain ⟨cs2, x2, rfl, hz2, hx2⟩ := arg_arr Try.underlying27 (sound_arr Try.underlying27 (by kernel_rfl) (sound_int Try.underlying2 (by kernel_rfl))) (hval 2 _ _ rfl rfl) h2
    obtain ⟨⟨a0, w0⟩, ⟨a1, w1⟩, ⟨a2, w2⟩, a3, w3⟩ := hx0
    have e0 : cs0 = opC x0.1 x0.2.1 x0.2.2.1 x0.2.2.2 := by
      apply Array.ext_getElem?
      intro j
      match j with
      | 0 => exact a0
      | 1 => exact a1
      | 2 => exact a2
      | 3 => exact a3
      | j + 4 => rw [Array.getElem?_eq_none (by have : cs0.size = 4 := hz0; omega), Array.getElem?_eq_none (by simp)]
    subst e0
    obtain ⟨⟨b0, v0⟩, ⟨b1, v1⟩, b2, v2⟩ := hx1
    have e1 : cs1 = #[.int .u8 x1.1, .int .u32 x1.2.1, .int .u8 x1.2.2] := by
      apply Array.ext_getElem?
      intro j
      match j with
      | 0 => exact b0
      | 1 => exact b1
      | 2 => exact b2
      | j + 3 => rw [Array.getElem?_eq_none (by have : cs1.size = 3 := hz1; omega), Array.getElem?_eq_none (by simp)]
    subst e1
    obtain ⟨hl, hc⟩ := hx2
    obtain ⟨t0, t1, t2, t3, rfl⟩ : ∃ t0 t1 t2 t3, x2 = [t0, t1, t2, t3] := by
      match x2, hl with
      | [t0, t1, t2, t3], _ => exact ⟨_, _, _, _, rfl⟩
    have c0 := (hc 0 t0 rfl).1
    have c1 := (hc 1 t1 rfl).1
    have c2 := (hc 2 t2 rfl).1
    have c3 := (hc 3 t3 rfl).1
    have e2 : cs2 = #[.int .i64 t0, .int .i64 t1, .int .i64 t2, .int .i64 t3] := by
      apply Array.ext_getElem?
      intro j
      match j with
      | 0 => exact c0
      | 1 => exact c1
      | 2 => exact c2
      | 3 => exact c3
      | j + 4 => rw [Array.getElem?_eq_none (by have : cs2.size = 4 := hz2; omega), Array.getElem?_eq_none (by simp)]
    subst e2
    exact tells_fn (L := allL W) ⟨u8_bounds v0, u32_bounds v1, u8_bounds v2⟩
theorem winTells_holds : Rows.WinTellsSaid :=
  OpenClaim.holds_of_wide 3 Try.f3 rfl rfl rfl rfl rfl rfl rfl ⟨rfl, rfl, rfl, rfl, rfl⟩ rfl rfl rfl rfl rfl (by kernel_rfl) Try.func3 (by kernel_rfl)
    (of_decide_eq_true (by kernel_rfl)) (by unfold Func.isWrapper; first | (rw [if_pos (by decide +kernel)]; kernel_rfl) | (rw [if_neg (by decide +kernel)]; exact ⟨rfl, rfl⟩))
    (fun os started H enc _ => winTells_lifted os started H enc)
end Go.Proofs.Ytakedlockchpcaa
