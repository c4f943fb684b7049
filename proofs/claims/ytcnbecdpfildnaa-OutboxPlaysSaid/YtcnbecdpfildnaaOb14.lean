/-
  The laws' sameSent, of two Posts that sent the same.
-/
import Derived.Test.YtcnbecdpfildnaaOb13
namespace Go.Proofs.Ytcnbecdpfildnaa
open Go.RowKit
attribute [local irreducible] Fn WC WL WR OW Qt YieldFn QW FnP FnD

theorem sameSent_none {p p' : Nat} {r r' : Int} {vm vm' vw vw' : Value} {al al' : Option Addr} {cl cl' : Nat} (F : List (Nat × Obj)) :
    Fn Try.prog 36 [.pointer (some ⟨p, 0, none⟩), .pointer (some ⟨p', 0, none⟩)]
      ([(p, pO r vw (.slice al 0 cl) vm), (p', pO r' vw' (.slice al' 0 cl') vm')] ++ F)
      (fun v L' => v = .bool true ∧ L' = [(p, pO r vw (.slice al 0 cl) vm), (p', pO r' vw' (.slice al' 0 cl') vm')] ++ F) := by
  refine Fn_enter Try.func36 rfl Try.ntmps36 rfl fun g => ?_
  have e0 : (((0 : Nat) : Int) != ((0 : Nat) : Int)) = false := rfl
  repeat (first | ((first | refine WL_Q ?_ | refine WL_Y ?_ | refine WR_Q rfl ?_ | refine WR_late rfl rfl rfl (OW_Q ?_) | refine WR_Y rfl ?_); (first | refine QW_a ?_)) | refine WL_nil ?_ | refine WL_un (h := ?_) | refine WL_N ?_ | refine WL_M ?_ | refine WR_nil ?_ | refine WR_un rfl (hk := ?_) | refine WR_N rfl ?_ | refine WR_M rfl ?_ | refine WC_seq ?_ | refine WC_block ?_ | refine WC_cond_t (ht := ?_) | refine WC_cond_f (he := ?_) | refine WC_skip ?_ | refine WC_ret ?_ | refine WC_exit ?_ | refine WC_draw_all (id := 1) 11 (.calm 0 <| .calm 1 <| .calm 2 <| .calm 3 <| .calm 4 <| .calm 5 <| .calm 6 <| .calm 7 <| .calm 8 <| .calm 9 <| .calm 10 <| .done) mixed (by kernel_rfl) ?_ | refine WC_draw_all (id := 6) 33 (.calm 0 <| .calm 1 <| .calm 2 <| .calm 3 <| .calm 4 <| .calm 5 <| .calm 6 <| .calm 7 <| .calm 8 <| .calm 9 <| .calm 10 <| .calm 11 <| .calm 12 <| .calm 13 <| .calm 14 <| .calm 15 <| .calm 16 <| .calm 17 <| .calm 18 <| .calm 19 <| .calm 20 <| .calm 21 <| .calm 22 <| .calm 23 <| .calm 24 <| .calm 25 <| .calm 26 <| .calm 27 <| .calm 28 <| .calm 29 <| .must 30 <| .calm 31 <| .calm 32 <| .done) mixed (by kernel_rfl) ?_ | refine WC_region ?_ | (refine WR_skN rfl (h := ?_)) | (refine WR_skM rfl (h := ?_)) | (refine WR_skU rfl (h := ?_)))
  refine WC_wk [(5, .int .i64 0), (0, .pointer (some ⟨p, 0, none⟩)), (1, .pointer (some ⟨p', 0, none⟩))] ⟨rfl, rfl, rfl, trivial⟩ ?_
  refine WC_loop (fun m σ => m = 0 ∧ σ = ⟨[(5, .int .i64 0), (0, .pointer (some ⟨p, 0, none⟩)), (1, .pointer (some ⟨p', 0, none⟩))], [], _⟩) 0 ⟨rfl, rfl⟩ ?_
  rintro m σ ⟨rfl, rfl⟩
  have d1 : decide ((0 : Int) < ((0 : Nat) : Int)) = false := rfl
  repeat (first | ((first | refine WL_Q ?_ | refine WL_Y ?_ | refine WR_Q rfl ?_ | refine WR_late rfl rfl rfl (OW_Q ?_) | refine WR_Y rfl ?_); (first | refine QW_a ?_)) | refine WL_nil ?_ | refine WL_un (h := ?_) | refine WL_N ?_ | refine WL_M ?_ | refine WR_nil ?_ | refine WR_un rfl (hk := ?_) | refine WR_N rfl ?_ | refine WR_M rfl ?_ | refine WC_seq ?_ | refine WC_block ?_ | refine WC_cond_t (ht := ?_) | refine WC_cond_f (he := ?_) | refine WC_skip ?_ | refine WC_ret ?_ | refine WC_exit ?_ | refine WC_draw_all (id := 1) 11 (.calm 0 <| .calm 1 <| .calm 2 <| .calm 3 <| .calm 4 <| .calm 5 <| .calm 6 <| .calm 7 <| .calm 8 <| .calm 9 <| .calm 10 <| .done) mixed (by kernel_rfl) ?_ | refine WC_draw_all (id := 6) 33 (.calm 0 <| .calm 1 <| .calm 2 <| .calm 3 <| .calm 4 <| .calm 5 <| .calm 6 <| .calm 7 <| .calm 8 <| .calm 9 <| .calm 10 <| .calm 11 <| .calm 12 <| .calm 13 <| .calm 14 <| .calm 15 <| .calm 16 <| .calm 17 <| .calm 18 <| .calm 19 <| .calm 20 <| .calm 21 <| .calm 22 <| .calm 23 <| .calm 24 <| .calm 25 <| .calm 26 <| .calm 27 <| .calm 28 <| .calm 29 <| .must 30 <| .calm 31 <| .calm 32 <| .done) mixed (by kernel_rfl) ?_ | refine WC_region ?_ | (refine WR_skN rfl (h := ?_)) | (refine WR_skM rfl (h := ?_)) | (refine WR_skU rfl (h := ?_)))
  exact ⟨rfl, _, _, Res1 rfl (resV_tmp rfl), .refl _, rfl, rfl⟩
theorem sameSent_ob {p p' r r' : Nat} {ws ms : List Nat} {S S' L : List (Nat × Obj)} (h1 : PostP p r ws ms S) (h2 : PostP p' r' ws ms S') (hlen : ms.length = ws.length) (hle : ms.length ≤ 1000000) (hs : (S ++ S').Sublist L) :
    Fn Try.prog 36 [.pointer (some ⟨p, 0, none⟩), .pointer (some ⟨p', 0, none⟩)] L (fun v L' => v = .bool true ∧ L' = L) := by
  obtain ⟨lf, ⟨vw, Tw, vl, Tl, vm, Tm, rfl, hw, hl, _⟩, _⟩ := h1
  obtain ⟨lf', ⟨vw', Tw', vl', Tl', vm', Tm', rfl, hw', hl', _⟩, _⟩ := h2
  obtain ⟨aw, capw, rfl, _⟩ := hw.val
  obtain ⟨al, capl, rfl, _⟩ := hl.val
  obtain ⟨aw', capw', rfl, _⟩ := hw'.val
  obtain ⟨al', capl', rfl, _⟩ := hl'.val
  by_cases h0 : ms.length = 0
  · rw [h0] at hs
    refine Fn.sub (fun F => sameSent_none (r := (r : Nat)) (r' := (r' : Nat)) (vw := .slice aw ws.length capw) (vw' := .slice aw' ws.length capw') (al := al) (al' := al') (cl := capl) (cl' := capl') (vm := vm) (vm' := vm') F) (List.Sublist.trans ?_ hs)
    exact .cons_cons _ (List.Sublist.trans (.cons_cons _ (List.nil_sublist _)) (List.sublist_append_right _ _))
  · obtain ⟨gw, offw, curw, rfl, rfl, how⟩ := hw.full (by omega)
    obtain ⟨gl, offl, curl, rfl, rfl, hol⟩ := hl.full h0
    obtain ⟨gw', offw', curw', rfl, rfl, how'⟩ := hw'.full (by omega)
    obtain ⟨gl', offl', curl', rfl, rfl, hol'⟩ := hl'.full h0
    refine Fn.sub (fun F => sameSent_full (p := p) (p' := p') (gw := gw) (gl := gl) (gw' := gw') (gl' := gl') (r := (r : Nat)) (r' := (r' : Nat)) (vm := vm) (vm' := vm') hlen hle how hol how' hol' F) (List.Sublist.trans ?_ hs)
    have k1 : ∀ (a b c d e f : Nat × Obj) (T T' : List (Nat × Obj)), [a, b, c, d, e, f].Sublist ((a :: (T ++ ([b] ++ [c]))) ++ (d :: (T' ++ ([e] ++ [f])))) := fun a b c d e f T T' =>
      List.Sublist.append (l₁ := [a, b, c]) (.cons_cons _ (List.sublist_append_right _ _)) (.cons_cons _ (List.sublist_append_right _ _))
    exact k1 _ _ _ _ _ _ _ _
end Go.Proofs.Ytcnbecdpfildnaa
