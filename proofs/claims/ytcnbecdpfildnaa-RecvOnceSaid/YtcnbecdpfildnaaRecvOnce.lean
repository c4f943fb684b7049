/-
  RecvOnce is proved: whatever comes, messages are taken in order, each once, never more than there is room for. No condition.
-/
import Derived.Test.YtcnbecdpfildnaaRecvO
import Derived.Test.YtcnbecdpfildnaaLift
namespace Go.Proofs.Ytcnbecdpfildnaa
open Go.ChangeShapes Go.WideShapes Go.ChangeAt Go.RowKit

set_option maxRecDepth 100000 in
theorem recvOnce_lifted (os : Os) (started : os.Started) (H : Type) (enc : TypeId × Value → H) :
    ReturnsInHanded {} Try.checked os 4 .any (Rows.recvOnceSpec.pre6 enc Try.prog Try.f4 Rows.recvOnceRow.domain false) (Rows.recvOnceSpec.post enc Try.prog Try.f4 false true false false) := by
  refine lifted (C := Try.checked) (tb := 4) ownOf started (by kernel_rfl) Try.func4
    (ChangeSpec.witness6 (enc := enc) (C := Try.checked) false ⟨#[], #[.int .u8 0, .slice none 0 0, .slice none 0 0], []⟩ 8 (by kernel_rfl) (by kernel_rfl) (by kernel_rfl) (by kernel_rfl)) laidOf (by kernel_rfl) rfl rfl Try.underlying4 ?_ ?_
  · intro ds h
    match ds, h with
    | [_, _, _], _ => rfl
  · intro W base args ds ps hval0 hA0 _
    have hval : ∀ (j : Nat) t v, Try.f4.params[j]? = some t → args[j]? = some v → Value.okWide Try.prog W .any base t v := hval0
    have hA : DataW.TrodAll enc Try.prog W 0 (fun _ => true) true Try.f4.params.toList args.toList ds ps := hA0
    rw [Try.params4] at hA hval
    obtain ⟨v0, vs, d0, ds0, p0, q0, e0, rfl, rfl, h0, hA⟩ := trodAll_cons hA
    obtain ⟨v1, vs1, d1, ds1, p1, q1, rfl, rfl, rfl, h1, hA⟩ := trodAll_cons hA
    obtain ⟨v2, vs2, d2, ds2, p2, q2, rfl, rfl, rfl, h2, hA⟩ := trodAll_cons hA
    obtain ⟨rfl, rfl, rfl⟩ := trodAll_nil hA
    have ea : args = #[v0, v1, v2] := by apply Array.ext'; simpa using e0
    subst ea
    obtain ⟨a, rfl, _, _, wa⟩ := open_int Try.underlying5 (hval 0 _ _ rfl rfl) h0
    obtain ⟨xs, hx, wx⟩ := row_ints Try.underlying59 Try.underlying5 (by kernel_rfl) (hval 1 _ _ rfl rfl) h1
    obtain ⟨ys, hy, wy⟩ := row_ints Try.underlying59 Try.underlying5 (by kernel_rfl) (hval 2 _ _ rfl rfl) h2
    have ba := u8_bounds wa
    obtain ⟨k, rfl⟩ : ∃ k : Nat, a = k := ⟨a.toNat, by omega⟩
    exact once_fn (by omega) hx hy (fun x h => u8_bounds (wx x h)) (fun x h => u8_bounds (wy x h))

theorem recvOnce_holds : Rows.RecvOnceSaid :=
  OpenClaim.holds_of_wide 4 Try.f4 rfl rfl rfl rfl rfl rfl rfl ⟨rfl, rfl, rfl, rfl, rfl⟩ rfl rfl rfl rfl rfl (by kernel_rfl) Try.func4 (by kernel_rfl)
    (of_decide_eq_true (by kernel_rfl)) (by unfold Func.isWrapper; first | (rw [if_pos (by decide +kernel)]; kernel_rfl) | (rw [if_neg (by decide +kernel)]; exact ⟨rfl, rfl⟩))
    (fun os started H enc _ => recvOnce_lifted os started H enc)
end Go.Proofs.Ytcnbecdpfildnaa
