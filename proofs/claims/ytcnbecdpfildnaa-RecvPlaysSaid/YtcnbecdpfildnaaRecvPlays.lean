/-
  RecvPlays is proved: whatever comes, and is popped, is as the document says. No condition.
-/
import Derived.Test.YtcnbecdpfildnaaRecvP
import Derived.Test.YtcnbecdpfildnaaRd
namespace Go.Proofs.Ytcnbecdpfildnaa
open Go.ChangeShapes Go.WideShapes Go.ChangeAt Go.RowKit

theorem acts_of {L : List (Nat × Obj)} {a : Option Addr} {xs : List (Int × Int × Int)} (h : SlLie (pairR (intR .u8) (pairR (intR .i8) (intR .i64))) L a xs) : ActsAt L a xs := by
  rcases h with h | ⟨b, off, cs, E, fr, i, h1, h2, h3⟩
  · exact .inl h
  · refine .inr ⟨b, off, cs, E, fr, i, h1, h2, fun j x hx => ?_⟩
    have := h3 j x hx
    exact ⟨this.1.1, this.2.1.1, this.2.2.1⟩
theorem acts_wf {L : List (Nat × Obj)} {a : Option Addr} {xs : List (Int × Int × Int)} (h : SlLie (pairR (intR .u8) (pairR (intR .i8) (intR .i64))) L a xs) : ∀ x ∈ xs, (Lit.int .u8 x.1).wf = true ∧ (Lit.int .i8 x.2.1).wf = true ∧ (Lit.int .i64 x.2.2).wf = true := by
  intro x hx
  rcases h with h | ⟨b, off, cs, E, fr, i, h1, h2, h3⟩
  · subst h; cases hx
  · obtain ⟨j, hj, rfl⟩ := List.getElem_of_mem hx
    have := h3 j _ (List.getElem?_eq_getElem hj)
    exact ⟨this.1.2, this.2.1.2, this.2.2.2⟩

set_option maxRecDepth 100000 in
theorem recvPlays_lifted (os : Os) (started : os.Started) (H : Type) (enc : TypeId × Value → H) :
    ReturnsInHanded {} Try.checked os 3 .any (Rows.recvPlaysSpec.pre6 enc Try.prog Try.f3 Rows.recvPlaysRow.domain false) (Rows.recvPlaysSpec.post enc Try.prog Try.f3 false true false false) := by
  refine lifted (C := Try.checked) (tb := 4) ownOf started (by kernel_rfl) Try.func3
    (ChangeSpec.witness6 (enc := enc) (C := Try.checked) false ⟨#[], #[.int .i64 0, .slice none 0 0], []⟩ 8 (by kernel_rfl) (by kernel_rfl) (by kernel_rfl) (by kernel_rfl)) laidOf (by kernel_rfl) rfl rfl Try.underlying4 ?_ ?_
  · intro ds h
    match ds, h with
    | [_, _], _ => rfl
  · intro W base args ds ps hval0 hA0 _
    have hval : ∀ (j : Nat) t v, Try.f3.params[j]? = some t → args[j]? = some v → Value.okWide Try.prog W .any base t v := hval0
    have hA : DataW.TrodAll enc Try.prog W 0 (fun _ => true) true Try.f3.params.toList args.toList ds ps := hA0
    rw [Try.params3] at hA hval
    obtain ⟨v0, vs0, d0, ds0, p0, q0, e0, rfl, rfl, h0, hA⟩ := trodAll_cons hA
    obtain ⟨v1, vs1, d1, ds1, p1, q1, rfl, rfl, rfl, h1, hA⟩ := trodAll_cons hA
    obtain ⟨rfl, rfl, rfl⟩ := trodAll_nil hA
    have ea : args = #[v0, v1] := by apply Array.ext'; simpa using e0
    subst ea
    obtain ⟨a0, rfl, _, _, wf0⟩ := open_int Try.underlying3 (hval 0 _ _ rfl rfl) h0
    have wa0 := i64_bounds wf0
    obtain ⟨a1, cap1, xs1, rfl, hl1, hm1, hx1⟩ := arg_slice Try.underlying22 (sound_slice Try.underlying22 (by kernel_rfl) (by decide) (sound_struct Try.underlying29 (by kernel_rfl) (soundF_cons (sound_int Try.underlying5 (by kernel_rfl)) rfl (soundF_cons (sound_int Try.underlying27 (by kernel_rfl)) rfl (soundF_one (sound_int Try.underlying2 (by kernel_rfl)) rfl))))) (hval 1 _ _ rfl rfl) h1
    refine plays_fn wa0 (acts_of hx1) ?_
    intro x hx
    have := acts_wf hx1 x hx
    exact ⟨u8_bounds this.1, i8_bounds this.2.1, i64_bounds this.2.2⟩

theorem recvPlays_holds : Rows.RecvPlaysSaid :=
  OpenClaim.holds_of_wide 3 Try.f3 rfl rfl rfl rfl rfl rfl rfl ⟨rfl, rfl, rfl, rfl, rfl⟩ rfl rfl rfl rfl rfl (by kernel_rfl) Try.func3 (by kernel_rfl)
    (of_decide_eq_true (by kernel_rfl)) (by unfold Func.isWrapper; first | (rw [if_pos (by decide +kernel)]; kernel_rfl) | (rw [if_neg (by decide +kernel)]; exact ⟨rfl, rfl⟩))
    (fun os started H enc _ => recvPlays_lifted os started H enc)
end Go.Proofs.Ytcnbecdpfildnaa
