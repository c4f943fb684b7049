/-
  The document's outbox: New; both refuse alike.
-/
import Derived.Test.YtcnbecdpfildnaaOb14
import Derived.Test.YtcnbecdpfildnaaEw27
namespace Go.Proofs.Ytcnbecdpfildnaa
open Go.RowKit
attribute [local irreducible] Fn WC WL WR OW Qt YieldFn QW FnP FnD

theorem rNew_ok {n : Nat} (h1 : 1 ≤ n) (h2 : n ≤ 16) (L : List (Nat × Obj)) : Fn Try.prog 25 [.int .i64 (n : Nat)] L (fun v L' => ∃ o w rs, v = .pointer (some ⟨o, 0, none⟩) ∧ L' = rbL o w rs L ∧ RowsM rs (List.replicate n [])) := by
  refine Fn_enter Try.func25 rfl Try.ntmps25 rfl fun g => ?_
  have d1 : decide (((n : Nat) : Int) < 1) = false := decide_eq_false (by omega)
  have d2 : decide (((n : Nat) : Int) > 16) = false := decide_eq_false (by omega)
  repeat (first | ((first | refine WL_Q ?_ | refine WL_Y ?_); (first | refine QW_a ?_)) | ((first | refine WL_op rfl ?_ | refine WL_yes (h := ?_)); (first | refine OW_box rfl (hk := fun _ => ?_))) | refine WL_nil ?_ | refine WL_un (h := ?_) | refine WL_N ?_ | refine WL_M ?_ | refine WC_seq ?_ | refine WC_block ?_ | refine WC_cond_t (ht := ?_) | refine WC_cond_f (he := ?_) | refine WC_skip ?_ | refine WC_ret ?_ | refine WC_exit ?_ | refine WC_region ?_)
  refine WL_op rfl (OW_make1 (n := n) rfl ?_ ?_ fun w => ?_)
  · omega
  · simp only [maxLen]; omega
  repeat (first | ((first | refine WL_Q ?_ | refine WL_Y ?_); (first | refine QW_a ?_)) | ((first | refine WL_op rfl ?_ | refine WL_yes (h := ?_)); (first | refine OW_box rfl (hk := fun _ => ?_))) | refine WL_nil ?_ | refine WL_un (h := ?_) | refine WL_N ?_ | refine WL_M ?_ | refine WC_seq ?_ | refine WC_block ?_ | refine WC_cond_t (ht := ?_) | refine WC_cond_f (he := ?_) | refine WC_skip ?_ | refine WC_ret ?_ | refine WC_exit ?_ | refine WC_region ?_)
  rename_i o
  refine ⟨rfl, _, _, Res1 rfl (resV_tmp rfl), .refl _, o, w, List.replicate n (.slice none 0 0, []), rfl, ?_, ?_⟩
  · unfold rbL
    rw [rowsL_nils]
    have e : putR zc88 0 (Value.slice (some ⟨w, 0, none⟩) n n).cells = #[Value.slice (some ⟨w, 0, none⟩) n n] := rfl
    simp [e]
  · have := Rows.nils 48 24 n
    simpa [RowsM, msgs] using this
theorem rNew_no {n : Int} (h : n < 1 ∨ 16 < n) (L : List (Nat × Obj)) : Fn Try.prog 25 [.int .i64 n] L (fun v L' => v = .pointer none ∧ L' = L) := by
  refine Fn_enter Try.func25 rfl Try.ntmps25 rfl fun g => ?_
  by_cases h0 : n < 1
  · have d1 : decide (n < 1) = true := decide_eq_true h0
    repeat (first | ((first | refine WL_Q ?_ | refine WL_Y ?_); (first | refine QW_a ?_)) | ((first | refine WL_op rfl ?_ | refine WL_yes (h := ?_)); (first | refine OW_box rfl (hk := fun _ => ?_))) | refine WL_nil ?_ | refine WL_un (h := ?_) | refine WL_N ?_ | refine WL_M ?_ | refine WC_seq ?_ | refine WC_block ?_ | refine WC_cond_t (ht := ?_) | refine WC_cond_f (he := ?_) | refine WC_skip ?_ | refine WC_ret ?_ | refine WC_exit ?_ | refine WC_region ?_)
    exact ⟨rfl, _, _, Res1 rfl (resV_tmp rfl), .refl _, rfl, rfl⟩
  · have d1 : decide (n < 1) = false := decide_eq_false h0
    have d2 : decide (n > 16) = true := decide_eq_true (by omega)
    repeat (first | ((first | refine WL_Q ?_ | refine WL_Y ?_); (first | refine QW_a ?_)) | ((first | refine WL_op rfl ?_ | refine WL_yes (h := ?_)); (first | refine OW_box rfl (hk := fun _ => ?_))) | refine WL_nil ?_ | refine WL_un (h := ?_) | refine WL_N ?_ | refine WL_M ?_ | refine WC_seq ?_ | refine WC_block ?_ | refine WC_cond_t (ht := ?_) | refine WC_cond_f (he := ?_) | refine WC_skip ?_ | refine WC_ret ?_ | refine WC_exit ?_ | refine WC_region ?_)
    exact ⟨rfl, _, _, Res1 rfl (resV_tmp rfl), .refl _, rfl, rfl⟩
theorem New_no {n : Int} (h : n < 1 ∨ 16 < n) (L : List (Nat × Obj)) : Fn Try.prog 24 [.int .i64 n] L (fun v L' => v = .pointer none ∧ L' = L) := by
  refine Fn_enter Try.func24 rfl Try.ntmps24 rfl fun g => ?_
  by_cases h0 : n < 1
  · have d1 : decide (n < 1) = true := decide_eq_true h0
    repeat (first | ((first | refine WL_Q ?_ | refine WL_Y ?_); (first | refine QW_a ?_)) | ((first | refine WL_op rfl ?_ | refine WL_yes (h := ?_)); (first | refine OW_box rfl (hk := fun _ => ?_))) | refine WL_nil ?_ | refine WL_un (h := ?_) | refine WL_N ?_ | refine WL_M ?_ | refine WC_seq ?_ | refine WC_block ?_ | refine WC_cond_t (ht := ?_) | refine WC_cond_f (he := ?_) | refine WC_skip ?_ | refine WC_ret ?_ | refine WC_exit ?_ | refine WC_region ?_)
    exact ⟨rfl, _, _, Res1 rfl (resV_tmp rfl), .refl _, rfl, rfl⟩
  · have d1 : decide (n < 1) = false := decide_eq_false h0
    have d2 : decide (n > 16) = true := decide_eq_true (by omega)
    repeat (first | ((first | refine WL_Q ?_ | refine WL_Y ?_); (first | refine QW_a ?_)) | ((first | refine WL_op rfl ?_ | refine WL_yes (h := ?_)); (first | refine OW_box rfl (hk := fun _ => ?_))) | refine WL_nil ?_ | refine WL_un (h := ?_) | refine WL_N ?_ | refine WL_M ?_ | refine WC_seq ?_ | refine WC_block ?_ | refine WC_cond_t (ht := ?_) | refine WC_cond_f (he := ?_) | refine WC_skip ?_ | refine WC_ret ?_ | refine WC_exit ?_ | refine WC_region ?_)
    exact ⟨rfl, _, _, Res1 rfl (resV_tmp rfl), .refl _, rfl, rfl⟩
/-! ### both outboxes in one memory -/
theorem rb_app (o w : Nat) (rs : List (Value × List (Nat × Obj))) (R : List (Nat × Obj)) : rbL o w rs R = rbL o w rs [] ++ R := by simp [rbL]
theorem at_a {P : Program} {f : FuncId} {args : List Value} {o w o2 w2 : Nat} {rs rs2 : List (Value × List (Nat × Obj))} {Q : Value → List (Value × List (Nat × Obj)) → Prop} (h : ∀ A R, Fn P f args (A ++ obL o w rs R) (fun v L' => ∃ rs', L' = A ++ obL o w rs' R ∧ Q v rs')) (A L : List (Nat × Obj)) :
    Fn P f args (A ++ rbL o2 w2 rs2 (obL o w rs L)) (fun v L' => ∃ rs', L' = A ++ rbL o2 w2 rs2 (obL o w rs' L) ∧ Q v rs') := by
  have e : ∀ rs, A ++ rbL o2 w2 rs2 (obL o w rs L) = (A ++ rbL o2 w2 rs2 []) ++ obL o w rs L := fun rs => by rw [rb_app o2 w2 rs2 (obL o w rs L), List.append_assoc]
  rw [e rs]
  exact (h (A ++ rbL o2 w2 rs2 []) L).mono fun _ _ ⟨rs', h1, h2⟩ => ⟨rs', by rw [e]; exact h1, h2⟩
theorem sub_a {o w o2 w2 : Nat} {rs rs2 : List (Value × List (Nat × Obj))} {L : List (Nat × Obj)} : (obL o w rs []).Sublist (rbL o2 w2 rs2 (obL o w rs L)) := by
  rw [rb_app]
  exact (obL_sub L).trans (List.sublist_append_right _ _)
theorem sub_b {o w o2 w2 : Nat} {rs rs2 : List (Value × List (Nat × Obj))} {L : List (Nat × Obj)} : (rbL o2 w2 rs2 []).Sublist (rbL o2 w2 rs2 (obL o w rs L)) := rbL_sub _
theorem rAll_at {o w : Nat} {rs : List (Value × List (Nat × Obj))} {nss : List (List Nat)} (hr : RowsM rs nss) (hn : nss.length ≤ 16) (hm : ∀ l ∈ nss, l.length ≤ 1000000) (x : Nat) (A R : List (Nat × Obj)) :
    Fn Try.prog 30 [.pointer (some ⟨o, 0, none⟩), .agg (mC (x : Nat))] (A ++ rbL o w rs R) (fun v L' => ∃ rs', L' = A ++ rbL o w rs' R ∧ v = .int .i64 0 ∧ RowsM rs' (nss.map (· ++ [x]))) :=
  rb_frame (fun R => (rAll_ob hr hn hm x R).mono fun _ _ ⟨h1, rs', h2, h3⟩ => ⟨rs', h2, h1, h3⟩) A R
end Go.Proofs.Ytcnbecdpfildnaa
