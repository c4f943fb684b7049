/-
  The laws' sameSent: what was sent twice alike is alike.
-/
import Derived.Test.YtcnbecdpfildnaaOb12
namespace Go.Proofs.Ytcnbecdpfildnaa
open Go.RowKit
attribute [local irreducible] Fn WC WL WR OW Qt YieldFn QW FnP FnD

theorem own_msg {cur : Array Value} {off cap n : Nat} {ms : List Nat} (h : Own 24 cur off cap n (msgs ms)) {i x : Nat} (hx : ms[i]? = some x) : cur.extract (off + ((i : Nat) : Int).toNat * 24) (off + ((i : Nat) : Int).toNat * 24 + 24) = mC (x : Nat) ∧ off + ((i : Nat) : Int).toNat * 24 + 24 ≤ cur.size := by
  have hi := (List.getElem?_eq_some_iff.1 hx).1
  have h1 := h.len; have h2 := h.le; have h3 := h.fit
  rw [msgs_len] at h1
  have hsz : off + i * 24 + 24 ≤ cur.size := by omega
  rw [Int.toNat_natCast]
  refine ⟨?_, hsz⟩
  apply Array.ext_getElem?
  intro q
  rw [Array.getElem?_extract]
  by_cases hq : q < 24
  · rw [if_pos (by omega)]
    have := msgs_at hx q hq
    have hlt : q < (mC (x : Nat)).size := by rw [mC_size]; exact hq
    rw [Array.getElem?_eq_getElem hlt] at this ⊢
    rw [Nat.add_assoc]
    exact h.at_ _ _ this
  · rw [if_neg (by omega), Array.getElem?_eq_none (by rw [mC_size]; omega)]

set_option maxHeartbeats 4000000 in
theorem sameSent_full {p p' gw gl gw' gl' offw offl offw' offl' capw capl capw' capl' : Nat} {r r' : Int} {vm vm' : Value} {curw curl curw' curl' : Array Value} {ws ms : List Nat} (hlen : ms.length = ws.length) (hle : ms.length ≤ 1000000)
    (hw : Own 1 curw offw capw ws.length (intV ws)) (hl : Own 24 curl offl capl ms.length (msgs ms)) (hw' : Own 1 curw' offw' capw' ws.length (intV ws)) (hl' : Own 24 curl' offl' capl' ms.length (msgs ms)) (F : List (Nat × Obj)) :
    Fn Try.prog 36 [.pointer (some ⟨p, 0, none⟩), .pointer (some ⟨p', 0, none⟩)]
      ([(p, pO r (.slice (some ⟨gw, offw, none⟩) ws.length capw) (.slice (some ⟨gl, offl, none⟩) ms.length capl) vm), (gw, .cells curw 3 (0, 0)), (gl, .cells curl 48 (0, 0)), (p', pO r' (.slice (some ⟨gw', offw', none⟩) ws.length capw') (.slice (some ⟨gl', offl', none⟩) ms.length capl') vm'), (gw', .cells curw' 3 (0, 0)), (gl', .cells curl' 48 (0, 0))] ++ F)
      (fun v L' => v = .bool true ∧ L' = [(p, pO r (.slice (some ⟨gw, offw, none⟩) ws.length capw) (.slice (some ⟨gl, offl, none⟩) ms.length capl) vm), (gw, .cells curw 3 (0, 0)), (gl, .cells curl 48 (0, 0)), (p', pO r' (.slice (some ⟨gw', offw', none⟩) ws.length capw') (.slice (some ⟨gl', offl', none⟩) ms.length capl') vm'), (gw', .cells curw' 3 (0, 0)), (gl', .cells curl' 48 (0, 0))] ++ F) := by
  refine Fn_enter Try.func36 rfl Try.ntmps36 rfl fun g => ?_
  have e0 : ((ms.length : Int) != (ms.length : Int)) = false := by simp
  repeat (first | ((first | refine WL_Q ?_ | refine WL_Y ?_ | refine WR_Q rfl ?_ | refine WR_late rfl rfl rfl (OW_Q ?_) | refine WR_Y rfl ?_); (first | refine QW_a ?_)) | ((first | refine WL_op rfl ?_ | refine WL_yes (h := ?_) | refine WR_late rfl rfl rfl ?_ | refine WR_opG rfl rfl ?_ | refine WR_opYG rfl (h := ?_)); (first | refine OW_callP rfl (hF := sameMsg_fn _ _) (hk := ?_)); try refine ⟨(by first | exact fun _ h => h | exact sub_mem (by repeat (first | exact .refl _ | exact List.nil_sublist _ | exact List.sublist_append_right _ _ | apply List.Sublist.cons_cons | apply List.Sublist.cons))), ?_⟩) | refine WL_nil ?_ | refine WL_un (h := ?_) | refine WL_N ?_ | refine WL_M ?_ | refine WR_nil ?_ | refine WR_un rfl (hk := ?_) | refine WR_N rfl ?_ | refine WR_M rfl ?_ | refine WC_seq ?_ | refine WC_block ?_ | refine WC_cond_t (ht := ?_) | refine WC_cond_f (he := ?_) | refine WC_skip ?_ | refine WC_ret ?_ | refine WC_exit ?_ | refine WC_draw_all (id := 1) 11 (.calm 0 <| .calm 1 <| .calm 2 <| .calm 3 <| .calm 4 <| .calm 5 <| .calm 6 <| .calm 7 <| .calm 8 <| .calm 9 <| .calm 10 <| .done) mixed (by kernel_rfl) ?_ | refine WC_draw_all (id := 6) 33 (.calm 0 <| .calm 1 <| .calm 2 <| .calm 3 <| .calm 4 <| .calm 5 <| .calm 6 <| .calm 7 <| .calm 8 <| .calm 9 <| .calm 10 <| .calm 11 <| .calm 12 <| .calm 13 <| .calm 14 <| .calm 15 <| .calm 16 <| .calm 17 <| .calm 18 <| .calm 19 <| .calm 20 <| .calm 21 <| .calm 22 <| .calm 23 <| .calm 24 <| .calm 25 <| .calm 26 <| .calm 27 <| .calm 28 <| .calm 29 <| .must 30 <| .calm 31 <| .calm 32 <| .done) mixed (by kernel_rfl) ?_ | refine WC_region ?_ | (refine WR_skN rfl (h := ?_)) | (refine WR_skM rfl (h := ?_)) | (refine WR_skU rfl (h := ?_)))
  refine WC_wk [(5, .int .i64 0), (0, .pointer (some ⟨p, 0, none⟩)), (1, .pointer (some ⟨p', 0, none⟩))] ⟨rfl, rfl, rfl, trivial⟩ ?_
  refine WC_loop (fun m σ => ∃ i, m = ms.length - i ∧ i ≤ ms.length ∧ σ = ⟨[(5, .int .i64 (i : Nat)), (0, .pointer (some ⟨p, 0, none⟩)), (1, .pointer (some ⟨p', 0, none⟩))], [], _⟩) ms.length ⟨0, by omega, by omega, rfl⟩ ?_
  rintro m σ ⟨i, rfl, hi, rfl⟩
  by_cases hlt : i < ms.length
  · have d1 : decide (((i : Nat) : Int) < ((ms.length : Nat) : Int)) = true := decide_eq_true (by omega)
    have i1 : ((i : Nat) : Int) < ((ms.length : Nat) : Int) := by omega
    have i2 : ((i : Nat) : Int) < ((ws.length : Nat) : Int) := by omega
    obtain ⟨x, hx⟩ : ∃ x, ms[i]? = some x := ⟨_, List.getElem?_eq_getElem hlt⟩
    obtain ⟨y, hy⟩ : ∃ y, ws[i]? = some y := ⟨_, List.getElem?_eq_getElem (by omega)⟩
    obtain ⟨x1, x2⟩ := own_msg hl hx
    obtain ⟨x3, x4⟩ := own_msg hl' hx
    have y1 : curw[offw + ((i : Nat) : Int).toNat * 1]? = some (.int .i64 (y : Nat)) := by
      rw [Int.toNat_natCast, Nat.mul_one]; exact hw.at_ i _ (by simp [intV, hy])
    have y2 : curw'[offw' + ((i : Nat) : Int).toNat * 1]? = some (.int .i64 (y : Nat)) := by
      rw [Int.toNat_natCast, Nat.mul_one]; exact hw'.at_ i _ (by simp [intV, hy])
    have e1 : (((y : Nat) : Int) != ((y : Nat) : Int)) = false := by simp
    have hw1 : IntKind.i64.wrap (((i : Nat) : Int) + 1) = ((i + 1 : Nat) : Int) := by rw [wI64 (by omega) (by omega)]; omega
    repeat (first | ((first | refine WL_Q ?_ | refine WL_Y ?_ | refine WR_Q rfl ?_ | refine WR_late rfl rfl rfl (OW_Q ?_) | refine WR_Y rfl ?_); (first | refine QW_a ?_)) | ((first | refine WL_op rfl ?_ | refine WL_yes (h := ?_) | refine WR_late rfl rfl rfl ?_ | refine WR_opG rfl rfl ?_ | refine WR_opYG rfl (h := ?_)); (first | refine OW_callP rfl (hF := sameMsg_fn _ _) (hk := ?_)); try refine ⟨(by first | exact fun _ h => h | exact sub_mem (by repeat (first | exact .refl _ | exact List.nil_sublist _ | exact List.sublist_append_right _ _ | apply List.Sublist.cons_cons | apply List.Sublist.cons))), ?_⟩) | refine WL_nil ?_ | refine WL_un (h := ?_) | refine WL_N ?_ | refine WL_M ?_ | refine WR_nil ?_ | refine WR_un rfl (hk := ?_) | refine WR_N rfl ?_ | refine WR_M rfl ?_ | refine WC_seq ?_ | refine WC_block ?_ | refine WC_cond_t (ht := ?_) | refine WC_cond_f (he := ?_) | refine WC_skip ?_ | refine WC_ret ?_ | refine WC_exit ?_ | refine WC_draw_all (id := 1) 11 (.calm 0 <| .calm 1 <| .calm 2 <| .calm 3 <| .calm 4 <| .calm 5 <| .calm 6 <| .calm 7 <| .calm 8 <| .calm 9 <| .calm 10 <| .done) mixed (by kernel_rfl) ?_ | refine WC_draw_all (id := 6) 33 (.calm 0 <| .calm 1 <| .calm 2 <| .calm 3 <| .calm 4 <| .calm 5 <| .calm 6 <| .calm 7 <| .calm 8 <| .calm 9 <| .calm 10 <| .calm 11 <| .calm 12 <| .calm 13 <| .calm 14 <| .calm 15 <| .calm 16 <| .calm 17 <| .calm 18 <| .calm 19 <| .calm 20 <| .calm 21 <| .calm 22 <| .calm 23 <| .calm 24 <| .calm 25 <| .calm 26 <| .calm 27 <| .calm 28 <| .calm 29 <| .must 30 <| .calm 31 <| .calm 32 <| .done) mixed (by kernel_rfl) ?_ | refine WC_region ?_ | (refine WR_skN rfl (h := ?_)) | (refine WR_skM rfl (h := ?_)) | (refine WR_skU rfl (h := ?_)))
    try rw [x1]
    try rw [x3]
    repeat (first | ((first | refine WL_Q ?_ | refine WL_Y ?_ | refine WR_Q rfl ?_ | refine WR_late rfl rfl rfl (OW_Q ?_) | refine WR_Y rfl ?_); (first | refine QW_a ?_)) | ((first | refine WL_op rfl ?_ | refine WL_yes (h := ?_) | refine WR_late rfl rfl rfl ?_ | refine WR_opG rfl rfl ?_ | refine WR_opYG rfl (h := ?_)); (first | refine OW_callP rfl (hF := sameMsg_fn _ _) (hk := ?_)); try refine ⟨(by first | exact fun _ h => h | exact sub_mem (by repeat (first | exact .refl _ | exact List.nil_sublist _ | exact List.sublist_append_right _ _ | apply List.Sublist.cons_cons | apply List.Sublist.cons))), ?_⟩) | refine WL_nil ?_ | refine WL_un (h := ?_) | refine WL_N ?_ | refine WL_M ?_ | refine WR_nil ?_ | refine WR_un rfl (hk := ?_) | refine WR_N rfl ?_ | refine WR_M rfl ?_ | refine WC_seq ?_ | refine WC_block ?_ | refine WC_cond_t (ht := ?_) | refine WC_cond_f (he := ?_) | refine WC_skip ?_ | refine WC_ret ?_ | refine WC_exit ?_ | refine WC_draw_all (id := 1) 11 (.calm 0 <| .calm 1 <| .calm 2 <| .calm 3 <| .calm 4 <| .calm 5 <| .calm 6 <| .calm 7 <| .calm 8 <| .calm 9 <| .calm 10 <| .done) mixed (by kernel_rfl) ?_ | refine WC_draw_all (id := 6) 33 (.calm 0 <| .calm 1 <| .calm 2 <| .calm 3 <| .calm 4 <| .calm 5 <| .calm 6 <| .calm 7 <| .calm 8 <| .calm 9 <| .calm 10 <| .calm 11 <| .calm 12 <| .calm 13 <| .calm 14 <| .calm 15 <| .calm 16 <| .calm 17 <| .calm 18 <| .calm 19 <| .calm 20 <| .calm 21 <| .calm 22 <| .calm 23 <| .calm 24 <| .calm 25 <| .calm 26 <| .calm 27 <| .calm 28 <| .calm 29 <| .must 30 <| .calm 31 <| .calm 32 <| .done) mixed (by kernel_rfl) ?_ | refine WC_region ?_ | (refine WR_skN rfl (h := ?_)) | (refine WR_skM rfl (h := ?_)) | (refine WR_skU rfl (h := ?_)))
    rw [hw1]
    exact ⟨_, _, by omega, ⟨i + 1, rfl, by omega, rfl⟩, ⟨rfl, rfl, rfl, trivial⟩, rfl, .refl _⟩
  · have d1 : decide (((i : Nat) : Int) < ((ms.length : Nat) : Int)) = false := decide_eq_false (by omega)
    repeat (first | ((first | refine WL_Q ?_ | refine WL_Y ?_ | refine WR_Q rfl ?_ | refine WR_late rfl rfl rfl (OW_Q ?_) | refine WR_Y rfl ?_); (first | refine QW_a ?_)) | ((first | refine WL_op rfl ?_ | refine WL_yes (h := ?_) | refine WR_late rfl rfl rfl ?_ | refine WR_opG rfl rfl ?_ | refine WR_opYG rfl (h := ?_)); (first | refine OW_callP rfl (hF := sameMsg_fn _ _) (hk := ?_)); try refine ⟨(by first | exact fun _ h => h | exact sub_mem (by repeat (first | exact .refl _ | exact List.nil_sublist _ | exact List.sublist_append_right _ _ | apply List.Sublist.cons_cons | apply List.Sublist.cons))), ?_⟩) | refine WL_nil ?_ | refine WL_un (h := ?_) | refine WL_N ?_ | refine WL_M ?_ | refine WR_nil ?_ | refine WR_un rfl (hk := ?_) | refine WR_N rfl ?_ | refine WR_M rfl ?_ | refine WC_seq ?_ | refine WC_block ?_ | refine WC_cond_t (ht := ?_) | refine WC_cond_f (he := ?_) | refine WC_skip ?_ | refine WC_ret ?_ | refine WC_exit ?_ | refine WC_draw_all (id := 1) 11 (.calm 0 <| .calm 1 <| .calm 2 <| .calm 3 <| .calm 4 <| .calm 5 <| .calm 6 <| .calm 7 <| .calm 8 <| .calm 9 <| .calm 10 <| .done) mixed (by kernel_rfl) ?_ | refine WC_draw_all (id := 6) 33 (.calm 0 <| .calm 1 <| .calm 2 <| .calm 3 <| .calm 4 <| .calm 5 <| .calm 6 <| .calm 7 <| .calm 8 <| .calm 9 <| .calm 10 <| .calm 11 <| .calm 12 <| .calm 13 <| .calm 14 <| .calm 15 <| .calm 16 <| .calm 17 <| .calm 18 <| .calm 19 <| .calm 20 <| .calm 21 <| .calm 22 <| .calm 23 <| .calm 24 <| .calm 25 <| .calm 26 <| .calm 27 <| .calm 28 <| .calm 29 <| .must 30 <| .calm 31 <| .calm 32 <| .done) mixed (by kernel_rfl) ?_ | refine WC_region ?_ | (refine WR_skN rfl (h := ?_)) | (refine WR_skM rfl (h := ?_)) | (refine WR_skU rfl (h := ?_)))
    exact ⟨rfl, _, _, Res1 rfl (resV_tmp rfl), .refl _, rfl, rfl⟩
end Go.Proofs.Ytcnbecdpfildnaa
