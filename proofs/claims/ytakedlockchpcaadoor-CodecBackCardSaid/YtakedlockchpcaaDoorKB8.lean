/-
  CodecBack is proved (the tied card): messages that are laid one behind the other are read back so, and nothing is left; and what is read of any bytes is laid just so. No condition.
-/
import Derived.ChangeSame
import Derived.ChangeVars
import Derived.JoinedOf
import Derived.LaidLaws
import Derived.LaidHandle
import Derived.Stop.Joined
import Derived.Test.YtakedlockchpcaaDoorTie
import Derived.Test.YtakedlockchpcaaDoorCards
import Derived.SevenTiedAt
import Derived.Test.YtakedlockchpcaaDoorKB7
namespace Go.Proofs.YtakedlockchpcaaDoor
open Go.RowKit
attribute [local irreducible] Fn WC WL WR OW Qt YieldFn QW FnP FnD FnE
theorem MsgAt.mem {L L' : List (Nat × Obj)} {cs : Array Value} {m : MV} {a : Option Addr} {cap : Nat} {a' : Option Addr} {cap' : Nat} (h : MsgAt L cs m a cap a' cap') (hs : ∀ q ∈ L, q ∈ L') : MsgAt L' cs m a cap a' cap' := ⟨h.ok, h.size, h.lies, h.bins.mem hs, h.ents.mem hs, h.c1, h.c2, h.m1, h.m2⟩
theorem MsgAt.app {L : List (Nat × Obj)} {cs : Array Value} {m : MV} {a : Option Addr} {cap : Nat} {a' : Option Addr} {cap' : Nat} (A : List (Nat × Obj)) (h : MsgAt L cs m a cap a' cap') : MsgAt (A ++ L) cs m a cap a' cap' := h.mem fun _ hq => List.mem_append_right _ hq
theorem MsgAt.left {L : List (Nat × Obj)} {cs : Array Value} {m : MV} {a : Option Addr} {cap : Nat} {a' : Option Addr} {cap' : Nat} (A : List (Nat × Obj)) (h : MsgAt L cs m a cap a' cap') : MsgAt (L ++ A) cs m a cap a' cap' := h.mem fun _ hq => List.mem_append_left _ hq
theorem okMsg_at {l : List UInt8} {a b : Nat} {T : List (Nat × Obj)} {cs : Array Value} (h : OkMsg l a b T cs) : ∃ m x cap x' cap', prMsg l a = .ok m b ∧ MsgAt T cs m x cap x' cap' := by
  obtain ⟨⟨m, vb, ve, T1, T2, h1, rfl, h2, h3, rfl⟩, _⟩ := h
  have lim := (prMsg_went h1).1
  obtain ⟨x, cap, rfl, q1, q2, e1⟩ := h2.elems (fun vs hv => (lim.ok.bins vs hv).len) rfl
  obtain ⟨x', cap', rfl, q3, q4, e2⟩ := h3.elems (fun vs hv => (lim.ok.ents vs hv).len) rfl
  exact ⟨m, x, cap, x', cap', h1, lim.ok, MV.cellsV_len lim.ok, lies_self, e1.mem fun _ hq => List.mem_append_left _ hq, e2.mem fun _ hq => List.mem_append_right _ hq, q1, q3, q2, q4⟩
theorem MV.Lim.enc_len {m : MV} (h : m.Lim) : m.enc.length ≤ 10000 := by
  have hm := h.ok
  have hn := h.nb
  have hn' := h.ne
  have f0 := Go.Proofs.YtakedlockchpcaaDoor.enc_len (zz_lt hm.kind.1 hm.kind.2)
  have f1 := Go.Proofs.YtakedlockchpcaaDoor.enc_len (zz_lt hm.ver.1 hm.ver.2)
  have f2 := Go.Proofs.YtakedlockchpcaaDoor.enc_len (zz_lt hm.time.1 hm.time.2)
  have f3 := Go.Proofs.YtakedlockchpcaaDoor.enc_len (zz_lt hm.num.1 hm.num.2)
  have e2 := encs_len hm.rc
  have h1 := encs_len hm.ch
  have h2 := encl_len hm.bins (by omega)
  have h3 := encs_len hm.ct
  have h4 := encs_len hm.kh
  have h5 := encl_len hm.ents (by omega)
  rw [show binF.length = 1 from rfl] at h2
  rw [show entryF.length = 10 from rfl] at h5
  simp only [List.length_cons, List.length_nil] at e2 h1 h3 h4
  have hb : m.body.length ≤ 9000 := by
    unfold MV.body
    split
    · omega
    · split
      · omega
      · split
        · omega
        · split
          · unfold encCmd; rw [List.length_append, List.length_append]; omega
          · split
            · unfold encChunk; rw [List.length_append]; omega
            · simp
  unfold MV.enc
  rw [List.length_append, List.length_append]; omega
def layN (ms : List MV) (j : Nat) : List UInt8 := (ms.take j).flatMap fun m => m.cutb.enc
theorem layN_succ {ms : List MV} {j : Nat} {m : MV} (h : ms[j]? = some m) : layN ms (j + 1) = layN ms j ++ m.cutb.enc := by
  unfold layN
  obtain ⟨hlt, rfl⟩ := List.getElem?_eq_some_iff.1 h
  rw [List.take_succ_eq_append_getElem hlt, List.flatMap_append]
  simp
theorem layN_len {ms : List MV} (hok : ∀ m ∈ ms, m.Ok) : ∀ j, (layN ms j).length ≤ 10000 * j
  | 0 => by simp [layN]
  | j + 1 => by
    have ih := layN_len hok j
    rcases h : ms[j]? with _ | m
    · have : ms.length ≤ j := List.getElem?_eq_none_iff.1 h
      have e : layN ms (j + 1) = layN ms j := by unfold layN; rw [List.take_of_length_le (by omega), List.take_of_length_le this]
      rw [e]; omega
    · have hl := (MV.cutb_lim (hok m (List.mem_of_getElem? h))).enc_len
      rw [layN_succ h, List.length_append]; omega
theorem layN_read {ms : List MV} (hok : ∀ m ∈ ms, m.Ok) {j k : Nat} {m : MV} (h : ms[j]? = some m) (hk : j < k) : prMsg (layN ms k) (layN ms j).length = .ok m.cutb (layN ms (j + 1)).length := by
  have hl := MV.cutb_lim (hok m (List.mem_of_getElem? h))
  have e : layN ms k = layN ms j ++ (m.cutb.enc ++ ((ms.take k).drop (j + 1)).flatMap fun m => m.cutb.enc) := by
    rw [← List.append_assoc, ← layN_succ h]
    unfold layN
    rw [← List.flatMap_append]
    congr 1
    conv => lhs; rw [← List.take_append_drop (j + 1) (ms.take k)]
    rw [List.take_take, show min (j + 1) k = j + 1 by omega]
  rw [e, layN_succ h]
  exact enc_prMsg hl _ _
def MsgsAt (L : List (Nat × Obj)) (a0 : Option Addr) (ms : List MV) : Prop := ∀ j m, ms[j]? = some m → ∃ (b off : Nat) (cs : Array Value) (E : TypeId) (fr : Nat × Nat) (i : Nat) (a : Option Addr) (cap : Nat) (a' : Option Addr) (cap' : Nat),
  a0 = some ⟨b, off, none⟩ ∧ L[i]? = some (b, Obj.cells cs E fr) ∧ off + j * 24 + 24 ≤ cs.size ∧ MsgAt L (cs.extract (off + j * 24) (off + j * 24 + 24)) m a cap a' cap'
set_option maxRecDepth 100000 in
set_option maxHeartbeats 16000000 in
theorem cback_fn {a0 : Option Addr} {cap0 : Nat} {ms : List MV} {s : List UInt8} {L : List (Nat × Obj)} (hH : HandleIn L) (hms : MsgsAt L a0 ms) (hml : ms.length ≤ 9223372036854775807) :
    Fn Tryd.prog 3 [.slice a0 ms.length cap0, .string (bstr s)] L (fun v L' => v = .bool true ∧ L' = L) := by
  have hok : ∀ m ∈ ms, m.Ok := fun m hm => by
    obtain ⟨j, hj⟩ := List.mem_iff_getElem?.1 hm
    obtain ⟨_, _, _, _, _, _, _, _, _, _, _, _, _, h⟩ := hms j m hj
    exact h.ok
  have z9 : ([] : List UInt8).length ≤ 900000000 := by simp
  refine Fn_enter Tryd.func3 rfl Tryd.ntmps3 rfl fun g => ?_
  repeat (first | ((first | refine WL_Q ?_ | refine WL_Y ?_ | refine WR_Q rfl ?_ | refine WR_late rfl rfl rfl (OW_Q ?_) | refine WR_Y rfl ?_); (first | refine QW_a ?_ | refine QW_of (Qt_fieldA rfl) ?_ | refine QW_of (Qt_fieldV rfl) ?_ | refine QW_of (Qt_neq_flat rfl (h := eqp_Rec.same (by decide) guard_Rec hrz f4 hrr f3 hrok)) ?_)) | ((first | refine WL_op rfl ?_ | refine WL_yes (h := ?_) | refine WR_late rfl rfl rfl ?_ | refine WR_opG rfl rfl ?_ | refine WR_opYG rfl (h := ?_)); (first | refine OW_alloc rfl (hk := fun _ => ?_) | refine OW_stA rfl ?_ | refine OW_stN rfl ?_ | refine OW_callP rfl (hF := works03_fn (by repeat (first | with_reducible assumption | apply HandleIn.cons))) (hk := ?_) | (refine OW_call rfl (hF := new_rd) (hk := ?_); rintro _ _ ⟨r1, rfl, rfl⟩) | refine OW_S (fun F => place_rd F) ?_); try refine ⟨(by first | exact fun _ h => h | exact sub_mem (by repeat (first | exact .refl _ | exact List.nil_sublist _ | exact List.sublist_append_right _ _ | exact List.Sublist.append (.refl _) (List.sublist_append_right _ _) | apply List.Sublist.cons_cons | apply List.Sublist.cons))), ?_⟩) | refine WL_nil ?_ | refine WL_un (h := ?_) | refine WL_N ?_ | refine WL_M ?_ | refine WR_nil ?_ | refine WR_un rfl (hk := ?_) | refine WR_N rfl ?_ | refine WR_M rfl ?_ | refine WC_seq ?_ | refine WC_block (id := 1) ?_ | refine WC_block (id := 2) ?_ | refine WC_block (id := 3) ?_ | refine WC_cond_t (ht := ?_) | refine WC_cond_f (he := ?_) | refine WC_skip ?_ | refine WC_ret ?_ | refine WC_exit ?_ | refine WC_draw_all (id := 15) 49 (.calm 0 <| .calm 1 <| .calm 2 <| .calm 3 <| .calm 4 <| .calm 5 <| .calm 6 <| .calm 7 <| .must 8 <| .must 9 <| .calm 10 <| .calm 11 <| .calm 12 <| .calm 13 <| .calm 14 <| .calm 15 <| .calm 16 <| .calm 17 <| .calm 18 <| .calm 19 <| .calm 20 <| .must 21 <| .calm 22 <| .calm 23 <| .calm 24 <| .calm 25 <| .calm 26 <| .calm 27 <| .calm 28 <| .calm 29 <| .calm 30 <| .calm 31 <| .calm 32 <| .calm 33 <| .must 34 <| .calm 35 <| .calm 36 <| .calm 37 <| .calm 38 <| .calm 39 <| .calm 40 <| .calm 41 <| .calm 42 <| .calm 43 <| .calm 44 <| .must 45 <| .calm 46 <| .calm 47 <| .calm 48 <| .done) mixed (by kernel_rfl) ?_ | refine WC_draw_all (id := 24) 13 (.calm 0 <| .calm 1 <| .calm 2 <| .calm 3 <| .calm 6 <| .calm 7 <| .must 4 <| .calm 5 <| .must 8 <| .calm 9 <| .calm 10 <| .calm 11 <| .calm 12 <| .done) mixed (by kernel_rfl) ?_ | refine WC_region ?_ | (refine WR_skN rfl (h := ?_)) | (refine WR_skM rfl (h := ?_)) | (refine WR_skU rfl (h := ?_)))
  obtain ⟨K, hK⟩ : ∃ K, K = min ms.length 10 := ⟨_, rfl⟩
  refine WC_wk [(6, .int .i64 ((0 : Nat) : Int)), (5, .slice none 0 0), (0, .slice a0 ms.length cap0), (1, .string (bstr s))] ⟨rfl, rfl, rfl, rfl, trivial⟩ ?_
  refine WC_meet (fun σ => ∃ v T, Buf 5 1 v T (layN ms K).length ((layN ms K).map bV) ∧ σ = ⟨[(5, v), (0, .slice a0 ms.length cap0), (1, .string (bstr s))], [], T ++ L⟩) ?_ ?_
  · refine WC_block (WC_loop (fun n σ => ∃ (j : Nat) (v : Value) (T : List (Nat × Obj)), n = K - j ∧ j ≤ K ∧ Buf 5 1 v T (layN ms j).length ((layN ms j).map bV) ∧ σ = ⟨[(6, .int .i64 (j : Int)), (5, v), (0, .slice a0 ms.length cap0), (1, .string (bstr s))], [], T ++ L⟩) K ⟨0, _, [], by omega, by omega, Buf.nil _ _, rfl⟩ ?_)
    rintro n σ ⟨j, v, T, rfl, hj, hbuf, rfl⟩
    by_cases h10 : j < K
    rotate_left
    · obtain rfl : j = K := by omega
      by_cases hjl : j < ms.length
      · have d1 : decide ((j : Int) < (ms.length : Int)) = true := decide_eq_true (by omega)
        have d2 : decide ((j : Int) < 10) = false := decide_eq_false (by omega)
        repeat (first | ((first | refine WL_Q ?_ | refine WL_Y ?_ | refine WR_Q rfl ?_ | refine WR_late rfl rfl rfl (OW_Q ?_) | refine WR_Y rfl ?_); (first | refine QW_a ?_ | refine QW_of (Qt_fieldA rfl) ?_ | refine QW_of (Qt_fieldV rfl) ?_ | refine QW_of (Qt_neq_flat rfl (h := eqp_Rec.same (by decide) guard_Rec hrz f4 hrr f3 hrok)) ?_)) | ((first | refine WL_op rfl ?_ | refine WL_yes (h := ?_) | refine WR_late rfl rfl rfl ?_ | refine WR_opG rfl rfl ?_ | refine WR_opYG rfl (h := ?_)); (first | refine OW_alloc rfl (hk := fun _ => ?_) | refine OW_stA rfl ?_ | refine OW_stN rfl ?_ | refine OW_callP rfl (hF := works03_fn (by repeat (first | with_reducible assumption | apply HandleIn.cons))) (hk := ?_) | (refine OW_call rfl (hF := new_rd) (hk := ?_); rintro _ _ ⟨r1, rfl, rfl⟩) | refine OW_S (fun F => place_rd F) ?_); try refine ⟨(by first | exact fun _ h => h | exact sub_mem (by repeat (first | exact .refl _ | exact List.nil_sublist _ | exact List.sublist_append_right _ _ | exact List.Sublist.append (.refl _) (List.sublist_append_right _ _) | apply List.Sublist.cons_cons | apply List.Sublist.cons))), ?_⟩) | refine WL_nil ?_ | refine WL_un (h := ?_) | refine WL_N ?_ | refine WL_M ?_ | refine WR_nil ?_ | refine WR_un rfl (hk := ?_) | refine WR_N rfl ?_ | refine WR_M rfl ?_ | refine WC_seq ?_ | refine WC_block ?_ | refine WC_cond_t (ht := ?_) | refine WC_cond_f (he := ?_) | refine WC_skip ?_ | refine WC_ret ?_ | refine WC_exit ?_ | refine WC_draw_all (id := 15) 49 (.calm 0 <| .calm 1 <| .calm 2 <| .calm 3 <| .calm 4 <| .calm 5 <| .calm 6 <| .calm 7 <| .must 8 <| .must 9 <| .calm 10 <| .calm 11 <| .calm 12 <| .calm 13 <| .calm 14 <| .calm 15 <| .calm 16 <| .calm 17 <| .calm 18 <| .calm 19 <| .calm 20 <| .must 21 <| .calm 22 <| .calm 23 <| .calm 24 <| .calm 25 <| .calm 26 <| .calm 27 <| .calm 28 <| .calm 29 <| .calm 30 <| .calm 31 <| .calm 32 <| .calm 33 <| .must 34 <| .calm 35 <| .calm 36 <| .calm 37 <| .calm 38 <| .calm 39 <| .calm 40 <| .calm 41 <| .calm 42 <| .calm 43 <| .calm 44 <| .must 45 <| .calm 46 <| .calm 47 <| .calm 48 <| .done) mixed (by kernel_rfl) ?_ | refine WC_draw_all (id := 24) 13 (.calm 0 <| .calm 1 <| .calm 2 <| .calm 3 <| .calm 6 <| .calm 7 <| .must 4 <| .calm 5 <| .must 8 <| .calm 9 <| .calm 10 <| .calm 11 <| .calm 12 <| .done) mixed (by kernel_rfl) ?_ | refine WC_region ?_ | (refine WR_skN rfl (h := ?_)) | (refine WR_skM rfl (h := ?_)) | (refine WR_skU rfl (h := ?_)))
        exact ⟨_, ⟨v, T, hbuf, rfl⟩, ⟨rfl, rfl, rfl, trivial⟩, rfl, .refl _⟩
      · have d1 : decide ((j : Int) < (ms.length : Int)) = false := decide_eq_false (by omega)
        repeat (first | ((first | refine WL_Q ?_ | refine WL_Y ?_ | refine WR_Q rfl ?_ | refine WR_late rfl rfl rfl (OW_Q ?_) | refine WR_Y rfl ?_); (first | refine QW_a ?_ | refine QW_of (Qt_fieldA rfl) ?_ | refine QW_of (Qt_fieldV rfl) ?_ | refine QW_of (Qt_neq_flat rfl (h := eqp_Rec.same (by decide) guard_Rec hrz f4 hrr f3 hrok)) ?_)) | ((first | refine WL_op rfl ?_ | refine WL_yes (h := ?_) | refine WR_late rfl rfl rfl ?_ | refine WR_opG rfl rfl ?_ | refine WR_opYG rfl (h := ?_)); (first | refine OW_alloc rfl (hk := fun _ => ?_) | refine OW_stA rfl ?_ | refine OW_stN rfl ?_ | refine OW_callP rfl (hF := works03_fn (by repeat (first | with_reducible assumption | apply HandleIn.cons))) (hk := ?_) | (refine OW_call rfl (hF := new_rd) (hk := ?_); rintro _ _ ⟨r1, rfl, rfl⟩) | refine OW_S (fun F => place_rd F) ?_); try refine ⟨(by first | exact fun _ h => h | exact sub_mem (by repeat (first | exact .refl _ | exact List.nil_sublist _ | exact List.sublist_append_right _ _ | exact List.Sublist.append (.refl _) (List.sublist_append_right _ _) | apply List.Sublist.cons_cons | apply List.Sublist.cons))), ?_⟩) | refine WL_nil ?_ | refine WL_un (h := ?_) | refine WL_N ?_ | refine WL_M ?_ | refine WR_nil ?_ | refine WR_un rfl (hk := ?_) | refine WR_N rfl ?_ | refine WR_M rfl ?_ | refine WC_seq ?_ | refine WC_block ?_ | refine WC_cond_t (ht := ?_) | refine WC_cond_f (he := ?_) | refine WC_skip ?_ | refine WC_ret ?_ | refine WC_exit ?_ | refine WC_draw_all (id := 15) 49 (.calm 0 <| .calm 1 <| .calm 2 <| .calm 3 <| .calm 4 <| .calm 5 <| .calm 6 <| .calm 7 <| .must 8 <| .must 9 <| .calm 10 <| .calm 11 <| .calm 12 <| .calm 13 <| .calm 14 <| .calm 15 <| .calm 16 <| .calm 17 <| .calm 18 <| .calm 19 <| .calm 20 <| .must 21 <| .calm 22 <| .calm 23 <| .calm 24 <| .calm 25 <| .calm 26 <| .calm 27 <| .calm 28 <| .calm 29 <| .calm 30 <| .calm 31 <| .calm 32 <| .calm 33 <| .must 34 <| .calm 35 <| .calm 36 <| .calm 37 <| .calm 38 <| .calm 39 <| .calm 40 <| .calm 41 <| .calm 42 <| .calm 43 <| .calm 44 <| .must 45 <| .calm 46 <| .calm 47 <| .calm 48 <| .done) mixed (by kernel_rfl) ?_ | refine WC_draw_all (id := 24) 13 (.calm 0 <| .calm 1 <| .calm 2 <| .calm 3 <| .calm 6 <| .calm 7 <| .must 4 <| .calm 5 <| .must 8 <| .calm 9 <| .calm 10 <| .calm 11 <| .calm 12 <| .done) mixed (by kernel_rfl) ?_ | refine WC_region ?_ | (refine WR_skN rfl (h := ?_)) | (refine WR_skM rfl (h := ?_)) | (refine WR_skU rfl (h := ?_)))
        exact ⟨_, ⟨v, T, hbuf, rfl⟩, ⟨rfl, rfl, rfl, trivial⟩, rfl, .refl _⟩
    have d1 : decide ((j : Int) < (ms.length : Int)) = true := decide_eq_true (by omega)
    have d2 : decide ((j : Int) < 10) = true := decide_eq_true (by omega)
    obtain ⟨m, hm⟩ : ∃ m, ms[j]? = some m := ⟨_, List.getElem?_eq_getElem (by omega)⟩
    obtain ⟨b, off, mcs, E, fr, i, ma, mp, ma', mp', ha0, hL, hfit, hM⟩ := hms j m hm
    have lim := MV.cutb_lim (hok m (List.mem_of_getElem? hm))
    have hnb : m.cutb.bins.length ≤ 1000000 := by have := lim.nb; omega
    have hne : m.cutb.ents.length ≤ 100000 := by have := lim.ne; omega
    have hw1 : IntKind.i64.wrap (((j : Nat) : Int) + 1) = ((j + 1 : Nat) : Int) := by rw [wI64 (by omega) (by omega)]; omega
    have hlen := layN_len hok j
    have hroom : (layN ms j).length ≤ 900000000 := by omega
    have hby : ByAt (T ++ L) v (layN ms j) := hbuf.vec0 L
    have hX := get_app (A := T) hL
    have hM' : MsgAt L (mcs.extract (off + ((j : Nat) : Int).toNat * 24) (off + ((j : Nat) : Int).toNat * 24 + 24)) m ma mp ma' mp' := hM
    have hfit' : off + ((j : Nat) : Int).toNat * 24 + 24 ≤ mcs.size := hfit
    have i0 : (0 : Int) ≤ (j : Int) := by omega
    have i1 : (j : Int) < (ms.length : Int) := by omega
    subst ha0
    repeat (first | ((first | refine WL_Q ?_ | refine WL_Y ?_ | refine WR_Q rfl ?_ | refine WR_late rfl rfl rfl (OW_Q ?_) | refine WR_Y rfl ?_); (first | refine QW_a ?_ | refine QW_of (Qt_fieldA rfl) ?_ | refine QW_of (Qt_fieldV rfl) ?_ | refine QW_of (Qt_neq_flat rfl (h := eqp_Rec.same (by decide) guard_Rec hrz f4 hrr f3 hrok)) ?_)) | ((first | refine WL_op rfl ?_ | refine WL_yes (h := ?_) | refine WR_late rfl rfl rfl ?_ | refine WR_opG rfl rfl ?_ | refine WR_opYG rfl (h := ?_)); (first | refine OW_alloc rfl (hk := fun _ => ?_) | refine OW_stA rfl ?_ | refine OW_stN rfl ?_ | refine OW_callP rfl (hF := works03_fn (by repeat (first | with_reducible assumption | apply HandleIn.cons))) (hk := ?_) | (refine OW_call rfl (hF := new_rd) (hk := ?_); rintro _ _ ⟨r1, rfl, rfl⟩) | refine OW_S (fun F => place_rd F) ?_ | (refine OW_call rfl (hF := bare_fn hM' _) (hk := ?_); rintro _ _ ⟨bc, x1, c1, x2, c2, rfl, rfl, hB⟩) | (refine OW_call rfl (hF := PMsg_at (hB.at_.app T) hby hnb hne hroom) (hk := ?_); rintro _ _ ⟨b1, off1, cap1, cur1, rfl, rfl, ho1⟩)); try refine ⟨(by first | exact fun _ h => h | exact sub_mem (by repeat (first | exact .refl _ | exact List.nil_sublist _ | exact List.sublist_append_right _ _ | exact List.Sublist.append (.refl _) (List.sublist_append_right _ _) | apply List.Sublist.cons_cons | apply List.Sublist.cons))), ?_⟩) | refine WL_nil ?_ | refine WL_un (h := ?_) | refine WL_N ?_ | refine WL_M ?_ | refine WR_nil ?_ | refine WR_un rfl (hk := ?_) | refine WR_N rfl ?_ | refine WR_M rfl ?_ | refine WC_seq ?_ | refine WC_block ?_ | refine WC_cond_t (ht := ?_) | refine WC_cond_f (he := ?_) | refine WC_skip ?_ | refine WC_ret ?_ | refine WC_exit ?_ | refine WC_draw_all (id := 15) 49 (.calm 0 <| .calm 1 <| .calm 2 <| .calm 3 <| .calm 4 <| .calm 5 <| .calm 6 <| .calm 7 <| .must 8 <| .must 9 <| .calm 10 <| .calm 11 <| .calm 12 <| .calm 13 <| .calm 14 <| .calm 15 <| .calm 16 <| .calm 17 <| .calm 18 <| .calm 19 <| .calm 20 <| .must 21 <| .calm 22 <| .calm 23 <| .calm 24 <| .calm 25 <| .calm 26 <| .calm 27 <| .calm 28 <| .calm 29 <| .calm 30 <| .calm 31 <| .calm 32 <| .calm 33 <| .must 34 <| .calm 35 <| .calm 36 <| .calm 37 <| .calm 38 <| .calm 39 <| .calm 40 <| .calm 41 <| .calm 42 <| .calm 43 <| .calm 44 <| .must 45 <| .calm 46 <| .calm 47 <| .calm 48 <| .done) mixed (by kernel_rfl) ?_ | refine WC_draw_all (id := 24) 13 (.calm 0 <| .calm 1 <| .calm 2 <| .calm 3 <| .calm 6 <| .calm 7 <| .must 4 <| .calm 5 <| .must 8 <| .calm 9 <| .calm 10 <| .calm 11 <| .calm 12 <| .done) mixed (by kernel_rfl) ?_ | refine WC_region ?_ | (refine WR_skN rfl (h := ?_)) | (refine WR_skM rfl (h := ?_)) | (refine WR_skU rfl (h := ?_)))
    rw [hw1]
    exact ⟨_, _, by omega, ⟨j + 1, _, [(b1, .cells cur1 5 (0, 0))], rfl, by omega, by rw [layN_succ hm]; exact .inr ⟨_, _, _, _, rfl, rfl, ho1⟩, rfl⟩, ⟨rfl, rfl, rfl, rfl, trivial⟩, rfl, .cons_cons _ (List.sublist_append_right _ _)⟩
  rintro _ ⟨v, T, hbuf, rfl⟩
  have hby : ByAt (T ++ L) v (layN ms K) := hbuf.vec0 L
  repeat (first | ((first | refine WL_Q ?_ | refine WL_Y ?_ | refine WR_Q rfl ?_ | refine WR_late rfl rfl rfl (OW_Q ?_) | refine WR_Y rfl ?_); (first | refine QW_a ?_ | refine QW_of (Qt_fieldA rfl) ?_ | refine QW_of (Qt_fieldV rfl) ?_ | refine QW_of (Qt_neq_flat rfl (h := eqp_Rec.same (by decide) guard_Rec hrz f4 hrr f3 hrok)) ?_)) | ((first | refine WL_op rfl ?_ | refine WL_yes (h := ?_) | refine WR_late rfl rfl rfl ?_ | refine WR_opG rfl rfl ?_ | refine WR_opYG rfl (h := ?_)); (first | refine OW_alloc rfl (hk := fun _ => ?_) | refine OW_stA rfl ?_ | refine OW_stN rfl ?_ | refine OW_callP rfl (hF := works03_fn (by repeat (first | with_reducible assumption | apply HandleIn.cons))) (hk := ?_) | (refine OW_call rfl (hF := new_rd) (hk := ?_); rintro _ _ ⟨r1, rfl, rfl⟩) | refine OW_S (fun F => place_rd F) ?_ | (refine OW_call rfl (hF := bare_fn hM' _) (hk := ?_); rintro _ _ ⟨bc, x1, c1, x2, c2, rfl, rfl, hB⟩)); try refine ⟨(by first | exact fun _ h => h | exact sub_mem (by repeat (first | exact .refl _ | exact List.nil_sublist _ | exact List.sublist_append_right _ _ | exact List.Sublist.append (.refl _) (List.sublist_append_right _ _) | apply List.Sublist.cons_cons | apply List.Sublist.cons))), ?_⟩) | refine WL_nil ?_ | refine WL_un (h := ?_) | refine WL_N ?_ | refine WL_M ?_ | refine WR_nil ?_ | refine WR_un rfl (hk := ?_) | refine WR_N rfl ?_ | refine WR_M rfl ?_ | refine WC_seq ?_ | refine WC_block (id := 0) ?_ | refine WC_block (id := 1) ?_ | refine WC_block (id := 3) ?_ | refine WC_cond_t (ht := ?_) | refine WC_cond_f (he := ?_) | refine WC_skip ?_ | refine WC_ret ?_ | refine WC_exit ?_ | refine WC_draw_all (id := 15) 49 (.calm 0 <| .calm 1 <| .calm 2 <| .calm 3 <| .calm 4 <| .calm 5 <| .calm 6 <| .calm 7 <| .must 8 <| .must 9 <| .calm 10 <| .calm 11 <| .calm 12 <| .calm 13 <| .calm 14 <| .calm 15 <| .calm 16 <| .calm 17 <| .calm 18 <| .calm 19 <| .calm 20 <| .must 21 <| .calm 22 <| .calm 23 <| .calm 24 <| .calm 25 <| .calm 26 <| .calm 27 <| .calm 28 <| .calm 29 <| .calm 30 <| .calm 31 <| .calm 32 <| .calm 33 <| .must 34 <| .calm 35 <| .calm 36 <| .calm 37 <| .calm 38 <| .calm 39 <| .calm 40 <| .calm 41 <| .calm 42 <| .calm 43 <| .calm 44 <| .must 45 <| .calm 46 <| .calm 47 <| .calm 48 <| .done) mixed (by kernel_rfl) ?_ | refine WC_draw_all (id := 24) 13 (.calm 0 <| .calm 1 <| .calm 2 <| .calm 3 <| .calm 6 <| .calm 7 <| .must 4 <| .calm 5 <| .must 8 <| .calm 9 <| .calm 10 <| .calm 11 <| .calm 12 <| .done) mixed (by kernel_rfl) ?_ | refine WC_region ?_ | (refine WR_skN rfl (h := ?_)) | (refine WR_skM rfl (h := ?_)) | (refine WR_skU rfl (h := ?_)))
  obtain ⟨l, hl⟩ : ∃ l, l = layN ms K := ⟨_, rfl⟩
  have hl9 : l.length ≤ 1000000000 := by have := layN_len hok K; rw [hl]; omega
  rw [← hl]
  refine WC_dropL ((r1, rdO l (layN ms 0).length) :: L) (.cons_cons _ (List.sublist_append_right _ _)) ?_
  refine WC_wk [(8, .int .i64 ((0 : Nat) : Int)), (7, .pointer (some ⟨r1, 0, none⟩)), (0, .slice a0 ms.length cap0), (1, .string (bstr s))] ⟨rfl, rfl, rfl, rfl, trivial⟩ ?_
  refine WC_meet (fun σ => σ = ⟨[(7, .pointer (some ⟨r1, 0, none⟩)), (1, .string (bstr s))], [], (r1, rdO l l.length) :: L⟩) ?_ ?_
  · refine WC_block (WC_loop (fun n σ => ∃ (j : Nat), n = K - j ∧ j ≤ K ∧ σ = ⟨[(8, .int .i64 (j : Int)), (7, .pointer (some ⟨r1, 0, none⟩)), (0, .slice a0 ms.length cap0), (1, .string (bstr s))], [], (r1, rdO l (layN ms j).length) :: L⟩) K ⟨0, by omega, by omega, rfl⟩ ?_)
    rintro n σ ⟨j, rfl, hj, rfl⟩
    by_cases h10 : j < K
    rotate_left
    · obtain rfl : j = K := by omega
      by_cases hjl : j < ms.length
      · have d1 : decide ((j : Int) < (ms.length : Int)) = true := decide_eq_true (by omega)
        have d2 : decide ((j : Int) < 10) = false := decide_eq_false (by omega)
        repeat (first | ((first | refine WL_Q ?_ | refine WL_Y ?_ | refine WR_Q rfl ?_ | refine WR_late rfl rfl rfl (OW_Q ?_) | refine WR_Y rfl ?_); (first | refine QW_a ?_ | refine QW_of (Qt_fieldA rfl) ?_ | refine QW_of (Qt_fieldV rfl) ?_ | refine QW_of (Qt_neq_flat rfl (h := eqp_Rec.same (by decide) guard_Rec hrz f4 hrr f3 hrok)) ?_)) | ((first | refine WL_op rfl ?_ | refine WL_yes (h := ?_) | refine WR_late rfl rfl rfl ?_ | refine WR_opG rfl rfl ?_ | refine WR_opYG rfl (h := ?_)); (first | refine OW_alloc rfl (hk := fun _ => ?_) | refine OW_stA rfl ?_ | refine OW_stN rfl ?_ | refine OW_callP rfl (hF := works03_fn (by repeat (first | with_reducible assumption | apply HandleIn.cons))) (hk := ?_) | (refine OW_call rfl (hF := new_rd) (hk := ?_); rintro _ _ ⟨r1, rfl, rfl⟩) | refine OW_S (fun F => place_rd F) ?_ | (refine OW_call rfl (hF := bare_fn hM' _) (hk := ?_); rintro _ _ ⟨bc, x1, c1, x2, c2, rfl, rfl, hB⟩)); try refine ⟨(by first | exact fun _ h => h | exact sub_mem (by repeat (first | exact .refl _ | exact List.nil_sublist _ | exact List.sublist_append_right _ _ | exact List.Sublist.append (.refl _) (List.sublist_append_right _ _) | apply List.Sublist.cons_cons | apply List.Sublist.cons))), ?_⟩) | refine WL_nil ?_ | refine WL_un (h := ?_) | refine WL_N ?_ | refine WL_M ?_ | refine WR_nil ?_ | refine WR_un rfl (hk := ?_) | refine WR_N rfl ?_ | refine WR_M rfl ?_ | refine WC_seq ?_ | refine WC_block ?_ | refine WC_cond_t (ht := ?_) | refine WC_cond_f (he := ?_) | refine WC_skip ?_ | refine WC_ret ?_ | refine WC_exit ?_ | refine WC_draw_all (id := 15) 49 (.calm 0 <| .calm 1 <| .calm 2 <| .calm 3 <| .calm 4 <| .calm 5 <| .calm 6 <| .calm 7 <| .must 8 <| .must 9 <| .calm 10 <| .calm 11 <| .calm 12 <| .calm 13 <| .calm 14 <| .calm 15 <| .calm 16 <| .calm 17 <| .calm 18 <| .calm 19 <| .calm 20 <| .must 21 <| .calm 22 <| .calm 23 <| .calm 24 <| .calm 25 <| .calm 26 <| .calm 27 <| .calm 28 <| .calm 29 <| .calm 30 <| .calm 31 <| .calm 32 <| .calm 33 <| .must 34 <| .calm 35 <| .calm 36 <| .calm 37 <| .calm 38 <| .calm 39 <| .calm 40 <| .calm 41 <| .calm 42 <| .calm 43 <| .calm 44 <| .must 45 <| .calm 46 <| .calm 47 <| .calm 48 <| .done) mixed (by kernel_rfl) ?_ | refine WC_draw_all (id := 24) 13 (.calm 0 <| .calm 1 <| .calm 2 <| .calm 3 <| .calm 6 <| .calm 7 <| .must 4 <| .calm 5 <| .must 8 <| .calm 9 <| .calm 10 <| .calm 11 <| .calm 12 <| .done) mixed (by kernel_rfl) ?_ | refine WC_region ?_ | (refine WR_skN rfl (h := ?_)) | (refine WR_skM rfl (h := ?_)) | (refine WR_skU rfl (h := ?_)))
        exact ⟨_, rfl, ⟨rfl, rfl, trivial⟩, rfl, by rw [hl]; exact .refl _⟩
      · have d1 : decide ((j : Int) < (ms.length : Int)) = false := decide_eq_false (by omega)
        repeat (first | ((first | refine WL_Q ?_ | refine WL_Y ?_ | refine WR_Q rfl ?_ | refine WR_late rfl rfl rfl (OW_Q ?_) | refine WR_Y rfl ?_); (first | refine QW_a ?_ | refine QW_of (Qt_fieldA rfl) ?_ | refine QW_of (Qt_fieldV rfl) ?_ | refine QW_of (Qt_neq_flat rfl (h := eqp_Rec.same (by decide) guard_Rec hrz f4 hrr f3 hrok)) ?_)) | ((first | refine WL_op rfl ?_ | refine WL_yes (h := ?_) | refine WR_late rfl rfl rfl ?_ | refine WR_opG rfl rfl ?_ | refine WR_opYG rfl (h := ?_)); (first | refine OW_alloc rfl (hk := fun _ => ?_) | refine OW_stA rfl ?_ | refine OW_stN rfl ?_ | refine OW_callP rfl (hF := works03_fn (by repeat (first | with_reducible assumption | apply HandleIn.cons))) (hk := ?_) | (refine OW_call rfl (hF := new_rd) (hk := ?_); rintro _ _ ⟨r1, rfl, rfl⟩) | refine OW_S (fun F => place_rd F) ?_ | (refine OW_call rfl (hF := bare_fn hM' _) (hk := ?_); rintro _ _ ⟨bc, x1, c1, x2, c2, rfl, rfl, hB⟩)); try refine ⟨(by first | exact fun _ h => h | exact sub_mem (by repeat (first | exact .refl _ | exact List.nil_sublist _ | exact List.sublist_append_right _ _ | exact List.Sublist.append (.refl _) (List.sublist_append_right _ _) | apply List.Sublist.cons_cons | apply List.Sublist.cons))), ?_⟩) | refine WL_nil ?_ | refine WL_un (h := ?_) | refine WL_N ?_ | refine WL_M ?_ | refine WR_nil ?_ | refine WR_un rfl (hk := ?_) | refine WR_N rfl ?_ | refine WR_M rfl ?_ | refine WC_seq ?_ | refine WC_block ?_ | refine WC_cond_t (ht := ?_) | refine WC_cond_f (he := ?_) | refine WC_skip ?_ | refine WC_ret ?_ | refine WC_exit ?_ | refine WC_draw_all (id := 15) 49 (.calm 0 <| .calm 1 <| .calm 2 <| .calm 3 <| .calm 4 <| .calm 5 <| .calm 6 <| .calm 7 <| .must 8 <| .must 9 <| .calm 10 <| .calm 11 <| .calm 12 <| .calm 13 <| .calm 14 <| .calm 15 <| .calm 16 <| .calm 17 <| .calm 18 <| .calm 19 <| .calm 20 <| .must 21 <| .calm 22 <| .calm 23 <| .calm 24 <| .calm 25 <| .calm 26 <| .calm 27 <| .calm 28 <| .calm 29 <| .calm 30 <| .calm 31 <| .calm 32 <| .calm 33 <| .must 34 <| .calm 35 <| .calm 36 <| .calm 37 <| .calm 38 <| .calm 39 <| .calm 40 <| .calm 41 <| .calm 42 <| .calm 43 <| .calm 44 <| .must 45 <| .calm 46 <| .calm 47 <| .calm 48 <| .done) mixed (by kernel_rfl) ?_ | refine WC_draw_all (id := 24) 13 (.calm 0 <| .calm 1 <| .calm 2 <| .calm 3 <| .calm 6 <| .calm 7 <| .must 4 <| .calm 5 <| .must 8 <| .calm 9 <| .calm 10 <| .calm 11 <| .calm 12 <| .done) mixed (by kernel_rfl) ?_ | refine WC_region ?_ | (refine WR_skN rfl (h := ?_)) | (refine WR_skM rfl (h := ?_)) | (refine WR_skU rfl (h := ?_)))
        exact ⟨_, rfl, ⟨rfl, rfl, trivial⟩, rfl, by rw [hl]; exact .refl _⟩
    have d1 : decide ((j : Int) < (ms.length : Int)) = true := decide_eq_true (by omega)
    have d2 : decide ((j : Int) < 10) = true := decide_eq_true (by omega)
    obtain ⟨m, hm⟩ : ∃ m, ms[j]? = some m := ⟨_, List.getElem?_eq_getElem (by omega)⟩
    obtain ⟨b, off, mcs, E, fr, i, ma, mp, ma', mp', ha0, hL, hfit, hM⟩ := hms j m hm
    have lim := MV.cutb_lim (hok m (List.mem_of_getElem? hm))
    have hnb : m.cutb.bins.length ≤ 1000000 := by have := lim.nb; omega
    have hne : m.cutb.ents.length ≤ 100000 := by have := lim.ne; omega
    have hw1 : IntKind.i64.wrap (((j : Nat) : Int) + 1) = ((j + 1 : Nat) : Int) := by rw [wI64 (by omega) (by omega)]; omega
    have hrd := layN_read hok hm h10
    rw [← hl] at hrd
    have hpl : (layN ms j).length ≤ l.length := by
      have h1 := (prMsg_went hrd).2.1
      have h2 := (prMsg_went hrd).2.2.1
      omega
    have hM' : MsgAt L (mcs.extract (off + ((j : Nat) : Int).toNat * 24) (off + ((j : Nat) : Int).toNat * 24 + 24)) m ma mp ma' mp' := hM
    have hfit' : off + ((j : Nat) : Int).toNat * 24 + 24 ≤ mcs.size := hfit
    have i0 : (0 : Int) ≤ (j : Int) := by omega
    have i1 : (j : Int) < (ms.length : Int) := by omega
    subst ha0
    repeat (first | ((first | refine WL_Q ?_ | refine WL_Y ?_ | refine WR_Q rfl ?_ | refine WR_late rfl rfl rfl (OW_Q ?_) | refine WR_Y rfl ?_); (first | refine QW_a ?_ | refine QW_of (Qt_fieldA rfl) ?_ | refine QW_of (Qt_fieldV rfl) ?_ | refine QW_of (Qt_neq_flat rfl (h := eqp_Rec.same (by decide) guard_Rec hrz f4 hrr f3 hrok)) ?_)) | ((first | refine WL_op rfl ?_ | refine WL_yes (h := ?_) | refine WR_late rfl rfl rfl ?_ | refine WR_opG rfl rfl ?_ | refine WR_opYG rfl (h := ?_)); (first | refine OW_alloc rfl (hk := fun _ => ?_) | refine OW_stA rfl ?_ | refine OW_stN rfl ?_ | refine OW_callP rfl (hF := works03_fn (by repeat (first | with_reducible assumption | apply HandleIn.cons))) (hk := ?_) | (refine OW_call rfl (hF := new_rd) (hk := ?_); rintro _ _ ⟨r1, rfl, rfl⟩) | refine OW_S (fun F => place_rd F) ?_ | (refine OW_call rfl (hF := bare_fn hM' _) (hk := ?_); rintro _ _ ⟨bc, x1, c1, x2, c2, rfl, rfl, hB⟩)); try refine ⟨(by first | exact fun _ h => h | exact sub_mem (by repeat (first | exact .refl _ | exact List.nil_sublist _ | exact List.sublist_append_right _ _ | exact List.Sublist.append (.refl _) (List.sublist_append_right _ _) | apply List.Sublist.cons_cons | apply List.Sublist.cons))), ?_⟩) | refine WL_nil ?_ | refine WL_un (h := ?_) | refine WL_N ?_ | refine WL_M ?_ | refine WR_nil ?_ | refine WR_un rfl (hk := ?_) | refine WR_N rfl ?_ | refine WR_M rfl ?_ | refine WC_seq ?_ | refine WC_block ?_ | refine WC_cond_t (ht := ?_) | refine WC_cond_f (he := ?_) | refine WC_skip ?_ | refine WC_ret ?_ | refine WC_exit ?_ | refine WC_draw_all (id := 15) 49 (.calm 0 <| .calm 1 <| .calm 2 <| .calm 3 <| .calm 4 <| .calm 5 <| .calm 6 <| .calm 7 <| .must 8 <| .must 9 <| .calm 10 <| .calm 11 <| .calm 12 <| .calm 13 <| .calm 14 <| .calm 15 <| .calm 16 <| .calm 17 <| .calm 18 <| .calm 19 <| .calm 20 <| .must 21 <| .calm 22 <| .calm 23 <| .calm 24 <| .calm 25 <| .calm 26 <| .calm 27 <| .calm 28 <| .calm 29 <| .calm 30 <| .calm 31 <| .calm 32 <| .calm 33 <| .must 34 <| .calm 35 <| .calm 36 <| .calm 37 <| .calm 38 <| .calm 39 <| .calm 40 <| .calm 41 <| .calm 42 <| .calm 43 <| .calm 44 <| .must 45 <| .calm 46 <| .calm 47 <| .calm 48 <| .done) mixed (by kernel_rfl) ?_ | refine WC_draw_all (id := 24) 13 (.calm 0 <| .calm 1 <| .calm 2 <| .calm 3 <| .calm 6 <| .calm 7 <| .must 4 <| .calm 5 <| .must 8 <| .calm 9 <| .calm 10 <| .calm 11 <| .calm 12 <| .done) mixed (by kernel_rfl) ?_ | refine WC_region ?_ | (refine WR_skN rfl (h := ?_)) | (refine WR_skM rfl (h := ?_)) | (refine WR_skU rfl (h := ?_)))
    refine WL_op rfl (OW_call rfl (hF := GMsg_fn hl9 hpl _) (hk := ?_))
    rintro _ _ (⟨b', T', rcs, hokm, hzr, rfl, rfl⟩ | ⟨c, e, p, b', h1, hb', rfl, rfl⟩)
    rotate_left
    · rw [hrd] at h1; cases h1
    have hone := hokm.2
    obtain ⟨m', ra, rp, ra', rp', hpr, hMr⟩ := okMsg_at hokm
    rw [hrd] at hpr
    cases hpr
    clear hokm
    obtain ⟨g0, g1, g2, g3, g4, g5, g6⟩ := MV.cells_at hMr.ok hMr.lies
    simp only [Nat.zero_add] at g0 g1 g2 g3 g4 g5 g6
    have hrb := hMr.bareAt
    have hrz := hrb.rcz
    have hrr := hrb.rc
    have hrok := hMr.ok.rc
    have hr23 : rcs[20 + 3]? = some (.slice ra' m.cutb.ents.length rp') := g6 3 (.slice ra' m.cutb.ents.length rp') (by rw [List.getElem?_append_right (by rw [hMr.ok.kh.len]; decide), hMr.ok.kh.len]; rfl)
    have qn : ((m.cutb.ents.length : Int) != (m.cutb.ents.length : Int)) = false := by simp
    have qt : (m.cutb.time != m.cutb.time) = false := by simp
    have hMrL := hMr.app L
    repeat (first | ((first | refine WL_Q ?_ | refine WL_Y ?_ | refine WR_Q rfl ?_ | refine WR_late rfl rfl rfl (OW_Q ?_) | refine WR_Y rfl ?_); (first | refine QW_a ?_ | refine QW_of (Qt_fieldA rfl) ?_ | refine QW_of (Qt_fieldV rfl) ?_ | refine QW_of (Qt_neq_flat rfl (h := eqp_Rec.same (by decide) guard_Rec hrz f4 hrr f3 hrok)) ?_)) | ((first | refine WL_op rfl ?_ | refine WL_yes (h := ?_) | refine WR_late rfl rfl rfl ?_ | refine WR_opG rfl rfl ?_ | refine WR_opYG rfl (h := ?_)); (first | refine OW_alloc rfl (hk := fun _ => ?_) | refine OW_stA rfl ?_ | refine OW_stN rfl ?_ | refine OW_callP rfl (hF := works03_fn (by repeat (first | with_reducible assumption | apply HandleIn.cons))) (hk := ?_) | (refine OW_call rfl (hF := new_rd) (hk := ?_); rintro _ _ ⟨r1, rfl, rfl⟩) | refine OW_S (fun F => place_rd F) ?_ | (refine OW_call rfl (hF := bare_fn hM' _) (hk := ?_); rintro _ _ ⟨bc, x1, c1, x2, c2, rfl, rfl, hB⟩)); try refine ⟨(by first | exact fun _ h => h | exact sub_mem (by repeat (first | exact .refl _ | exact List.nil_sublist _ | exact List.sublist_append_right _ _ | exact List.Sublist.append (.refl _) (List.sublist_append_right _ _) | apply List.Sublist.cons_cons | apply List.Sublist.cons))), ?_⟩) | refine WL_nil ?_ | refine WL_un (h := ?_) | refine WL_N ?_ | refine WL_M ?_ | refine WR_nil ?_ | refine WR_un rfl (hk := ?_) | refine WR_N rfl ?_ | refine WR_M rfl ?_ | refine WC_seq ?_ | refine WC_block ?_ | refine WC_cond_t (ht := ?_) | refine WC_cond_f (he := ?_) | refine WC_skip ?_ | refine WC_ret ?_ | refine WC_exit ?_ | refine WC_draw_all (id := 24) 13 (.calm 0 <| .calm 1 <| .calm 2 <| .calm 3 <| .calm 6 <| .calm 7 <| .must 4 <| .calm 5 <| .must 8 <| .calm 9 <| .calm 10 <| .calm 11 <| .calm 12 <| .done) mixed (by kernel_rfl) ?_ | refine WC_region (id := 0) ?_ | refine WC_region (id := 1) ?_ | refine WC_region (id := 2) ?_ | refine WC_region (id := 3) ?_ | refine WC_region (id := 4) ?_ | refine WC_region (id := 5) ?_ | refine WC_region (id := 7) ?_ | refine WC_region (id := 6) ?_ | refine WC_region (id := 8) ?_ | refine WC_region (id := 9) ?_ | refine WC_region (id := 10) ?_ | refine WC_region (id := 11) ?_ | refine WC_region (id := 12) ?_ | refine WC_region (id := 14) ?_ | refine WC_region (id := 16) ?_ | refine WC_region (id := 13) ?_ | refine WC_region (id := 17) ?_ | refine WC_region (id := 18) ?_ | refine WC_region (id := 19) ?_ | refine WC_region (id := 20) ?_ | refine WC_region (id := 21) ?_ | refine WC_region (id := 22) ?_ | refine WC_region (id := 23) ?_ | (refine WR_skN rfl (h := ?_)) | (refine WR_skM rfl (h := ?_)) | (refine WR_skU rfl (h := ?_)))
    rename_i x9
    have hX : ((x9, Obj.cells rcs 38 (0, 0)) :: (r1, rdO l (layN ms (j + 1)).length) :: (L ++ T'))[i + 2]? = some (b, .cells mcs E fr) := by
      show (L ++ T')[i]? = _
      rw [List.getElem?_append_left (List.getElem?_eq_some_iff.1 hL).1]; exact hL
    repeat (first | ((first | refine WL_Q ?_ | refine WL_Y ?_ | refine WR_Q rfl ?_ | refine WR_late rfl rfl rfl (OW_Q ?_) | refine WR_Y rfl ?_); (first | refine QW_a ?_ | refine QW_of (Qt_fieldA rfl) ?_ | refine QW_of (Qt_fieldV rfl) ?_ | refine QW_of (Qt_neq_flat rfl (h := eqp_Rec.same (by decide) guard_Rec hrz f4 hrr f3 hrok)) ?_)) | ((first | refine WL_op rfl ?_ | refine WL_yes (h := ?_) | refine WR_late rfl rfl rfl ?_ | refine WR_opG rfl rfl ?_ | refine WR_opYG rfl (h := ?_)); (first | refine OW_alloc rfl (hk := fun _ => ?_) | refine OW_stA rfl ?_ | refine OW_stN rfl ?_ | refine OW_callP rfl (hF := works03_fn (by repeat (first | with_reducible assumption | apply HandleIn.cons))) (hk := ?_) | (refine OW_call rfl (hF := new_rd) (hk := ?_); rintro _ _ ⟨r1, rfl, rfl⟩) | refine OW_S (fun F => place_rd F) ?_ | (refine OW_call rfl (hF := bare_fn hM' _) (hk := ?_); rintro _ _ ⟨bc, x1, c1, x2, c2, rfl, rfl, ⟨hB, f1, f2, f3, f4⟩⟩) | refine OW_callP rfl (hF := same_fn (by repeat (first | with_reducible exact hMrL | apply MsgAt.cons)) (by repeat (first | with_reducible exact (hB.left T') | apply MsgAt.cons)) hnb hne) (hk := ?_)); try refine ⟨(by first | exact fun _ h => h | exact sub_mem (by repeat (first | exact .refl _ | exact List.nil_sublist _ | exact List.sublist_append_right _ _ | exact List.Sublist.append (.refl _) (List.sublist_append_right _ _) | apply List.Sublist.cons_cons | apply List.Sublist.cons))), ?_⟩) | refine WL_nil ?_ | refine WL_un (h := ?_) | refine WL_N ?_ | refine WL_M ?_ | refine WR_nil ?_ | refine WR_un rfl (hk := ?_) | refine WR_N rfl ?_ | refine WR_M rfl ?_ | refine WC_seq ?_ | refine WC_block ?_ | refine WC_cond_t (ht := ?_) | refine WC_cond_f (he := ?_) | refine WC_skip ?_ | refine WC_ret ?_ | refine WC_exit ?_ | refine WC_draw_all (id := 15) 49 (.calm 0 <| .calm 1 <| .calm 2 <| .calm 3 <| .calm 4 <| .calm 5 <| .calm 6 <| .calm 7 <| .must 8 <| .must 9 <| .calm 10 <| .calm 11 <| .calm 12 <| .calm 13 <| .calm 14 <| .calm 15 <| .calm 16 <| .calm 17 <| .calm 18 <| .calm 19 <| .calm 20 <| .must 21 <| .calm 22 <| .calm 23 <| .calm 24 <| .calm 25 <| .calm 26 <| .calm 27 <| .calm 28 <| .calm 29 <| .calm 30 <| .calm 31 <| .calm 32 <| .calm 33 <| .must 34 <| .calm 35 <| .calm 36 <| .calm 37 <| .calm 38 <| .calm 39 <| .calm 40 <| .calm 41 <| .calm 42 <| .calm 43 <| .calm 44 <| .must 45 <| .calm 46 <| .calm 47 <| .calm 48 <| .done) mixed (by kernel_rfl) ?_ | refine WC_draw_all (id := 24) 13 (.calm 0 <| .calm 1 <| .calm 2 <| .calm 3 <| .calm 6 <| .calm 7 <| .must 4 <| .calm 5 <| .must 8 <| .calm 9 <| .calm 10 <| .calm 11 <| .calm 12 <| .done) mixed (by kernel_rfl) ?_ | refine WC_region ?_ | (refine WR_skN rfl (h := ?_)) | (refine WR_skM rfl (h := ?_)) | (refine WR_skU rfl (h := ?_)))
    rw [hw1]
    exact ⟨_, _, by omega, ⟨j + 1, rfl, by omega, rfl⟩, ⟨rfl, rfl, rfl, rfl, trivial⟩, rfl, .cons _ (.cons_cons _ (List.sublist_append_left _ _))⟩
  rintro _ rfl
  have hE : eCode l l.length = 0 := if_neg (by omega)
  repeat (first | ((first | refine WL_Q ?_ | refine WL_Y ?_ | refine WR_Q rfl ?_ | refine WR_late rfl rfl rfl (OW_Q ?_) | refine WR_Y rfl ?_); (first | refine QW_a ?_ | refine QW_of (Qt_fieldA rfl) ?_ | refine QW_of (Qt_fieldV rfl) ?_ | refine QW_of (Qt_neq_flat rfl (h := eqp_Rec.same (by decide) guard_Rec hrz f4 hrr f3 hrok)) ?_)) | ((first | refine WL_op rfl ?_ | refine WL_yes (h := ?_) | refine WR_late rfl rfl rfl ?_ | refine WR_opG rfl rfl ?_ | refine WR_opYG rfl (h := ?_)); (first | refine OW_alloc rfl (hk := fun _ => ?_) | refine OW_stA rfl ?_ | refine OW_stN rfl ?_ | refine OW_callP rfl (hF := works03_fn (by repeat (first | with_reducible assumption | apply HandleIn.cons))) (hk := ?_) | (refine OW_call rfl (hF := new_rd) (hk := ?_); rintro _ _ ⟨r1, rfl, rfl⟩) | refine OW_S (fun F => place_rd F) ?_ | (refine OW_call rfl (hF := bare_fn hM' _) (hk := ?_); rintro _ _ ⟨bc, x1, c1, x2, c2, rfl, rfl, ⟨hB, f1, f2, f3, f4⟩⟩) | refine OW_callP rfl (hF := same_fn (by repeat (first | with_reducible exact hMrL | apply MsgAt.cons)) (by repeat (first | with_reducible exact (hB.left T') | apply MsgAt.cons)) hnb hne) (hk := ?_)); try refine ⟨(by first | exact fun _ h => h | exact sub_mem (by repeat (first | exact .refl _ | exact List.nil_sublist _ | exact List.sublist_append_right _ _ | exact List.Sublist.append (.refl _) (List.sublist_append_right _ _) | apply List.Sublist.cons_cons | apply List.Sublist.cons))), ?_⟩) | refine WL_nil ?_ | refine WL_un (h := ?_) | refine WL_N ?_ | refine WL_M ?_ | refine WR_nil ?_ | refine WR_un rfl (hk := ?_) | refine WR_N rfl ?_ | refine WR_M rfl ?_ | refine WC_seq ?_ | refine WC_block ?_ | refine WC_cond_t (ht := ?_) | refine WC_cond_f (he := ?_) | refine WC_skip ?_ | refine WC_ret ?_ | refine WC_exit ?_ | refine WC_draw_all (id := 15) 49 (.calm 0 <| .calm 1 <| .calm 2 <| .calm 3 <| .calm 4 <| .calm 5 <| .calm 6 <| .calm 7 <| .must 8 <| .must 9 <| .calm 10 <| .calm 11 <| .calm 12 <| .calm 13 <| .calm 14 <| .calm 15 <| .calm 16 <| .calm 17 <| .calm 18 <| .calm 19 <| .calm 20 <| .must 21 <| .calm 22 <| .calm 23 <| .calm 24 <| .calm 25 <| .calm 26 <| .calm 27 <| .calm 28 <| .calm 29 <| .calm 30 <| .calm 31 <| .calm 32 <| .calm 33 <| .must 34 <| .calm 35 <| .calm 36 <| .calm 37 <| .calm 38 <| .calm 39 <| .calm 40 <| .calm 41 <| .calm 42 <| .calm 43 <| .calm 44 <| .must 45 <| .calm 46 <| .calm 47 <| .calm 48 <| .done) mixed (by kernel_rfl) ?_ | refine WC_draw_all (id := 24) 13 (.calm 0 <| .calm 1 <| .calm 2 <| .calm 3 <| .calm 6 <| .calm 7 <| .must 4 <| .calm 5 <| .must 8 <| .calm 9 <| .calm 10 <| .calm 11 <| .calm 12 <| .done) mixed (by kernel_rfl) ?_ | refine WC_region ?_ | (refine WR_skN rfl (h := ?_)) | (refine WR_skM rfl (h := ?_)) | (refine WR_skU rfl (h := ?_)))
  refine WL_op rfl (OW_call rfl (hF := End_fn (Nat.le_refl _) _) (hk := ?_))
  rintro _ _ (⟨_, rfl, rfl⟩ | ⟨hcx, _⟩)
  rotate_left
  · exact absurd hE hcx
  repeat (first | ((first | refine WL_Q ?_ | refine WL_Y ?_ | refine WR_Q rfl ?_ | refine WR_late rfl rfl rfl (OW_Q ?_) | refine WR_Y rfl ?_); (first | refine QW_a ?_ | refine QW_of (Qt_fieldA rfl) ?_ | refine QW_of (Qt_fieldV rfl) ?_ | refine QW_of (Qt_neq_flat rfl (h := eqp_Rec.same (by decide) guard_Rec hrz f4 hrr f3 hrok)) ?_)) | ((first | refine WL_op rfl ?_ | refine WL_yes (h := ?_) | refine WR_late rfl rfl rfl ?_ | refine WR_opG rfl rfl ?_ | refine WR_opYG rfl (h := ?_)); (first | refine OW_alloc rfl (hk := fun _ => ?_) | refine OW_stA rfl ?_ | refine OW_stN rfl ?_ | refine OW_callP rfl (hF := works03_fn (by repeat (first | with_reducible assumption | apply HandleIn.cons))) (hk := ?_) | (refine OW_call rfl (hF := new_rd) (hk := ?_); rintro _ _ ⟨r1, rfl, rfl⟩) | refine OW_S (fun F => place_rd F) ?_ | (refine OW_call rfl (hF := bare_fn hM' _) (hk := ?_); rintro _ _ ⟨bc, x1, c1, x2, c2, rfl, rfl, ⟨hB, f1, f2, f3, f4⟩⟩) | refine OW_callP rfl (hF := same_fn (by repeat (first | with_reducible exact hMrL | apply MsgAt.cons)) (by repeat (first | with_reducible exact (hB.left T') | apply MsgAt.cons)) hnb hne) (hk := ?_)); try refine ⟨(by first | exact fun _ h => h | exact sub_mem (by repeat (first | exact .refl _ | exact List.nil_sublist _ | exact List.sublist_append_right _ _ | exact List.Sublist.append (.refl _) (List.sublist_append_right _ _) | apply List.Sublist.cons_cons | apply List.Sublist.cons))), ?_⟩) | refine WL_nil ?_ | refine WL_un (h := ?_) | refine WL_N ?_ | refine WL_M ?_ | refine WR_nil ?_ | refine WR_un rfl (hk := ?_) | refine WR_N rfl ?_ | refine WR_M rfl ?_ | refine WC_seq ?_ | refine WC_block ?_ | refine WC_cond_t (ht := ?_) | refine WC_cond_f (he := ?_) | refine WC_skip ?_ | refine WC_ret ?_ | refine WC_exit ?_ | refine WC_draw_all (id := 15) 49 (.calm 0 <| .calm 1 <| .calm 2 <| .calm 3 <| .calm 4 <| .calm 5 <| .calm 6 <| .calm 7 <| .must 8 <| .must 9 <| .calm 10 <| .calm 11 <| .calm 12 <| .calm 13 <| .calm 14 <| .calm 15 <| .calm 16 <| .calm 17 <| .calm 18 <| .calm 19 <| .calm 20 <| .must 21 <| .calm 22 <| .calm 23 <| .calm 24 <| .calm 25 <| .calm 26 <| .calm 27 <| .calm 28 <| .calm 29 <| .calm 30 <| .calm 31 <| .calm 32 <| .calm 33 <| .must 34 <| .calm 35 <| .calm 36 <| .calm 37 <| .calm 38 <| .calm 39 <| .calm 40 <| .calm 41 <| .calm 42 <| .calm 43 <| .calm 44 <| .must 45 <| .calm 46 <| .calm 47 <| .calm 48 <| .done) mixed (by kernel_rfl) ?_ | refine WC_draw_all (id := 24) 13 (.calm 0 <| .calm 1 <| .calm 2 <| .calm 3 <| .calm 6 <| .calm 7 <| .must 4 <| .calm 5 <| .must 8 <| .calm 9 <| .calm 10 <| .calm 11 <| .calm 12 <| .done) mixed (by kernel_rfl) ?_ | refine WC_region ?_ | (refine WR_skN rfl (h := ?_)) | (refine WR_skM rfl (h := ?_)) | (refine WR_skU rfl (h := ?_)))
  obtain ⟨t, ht⟩ : ∃ t, t = s.take (if (300 : Int) < s.length then (300 : Int) else s.length).toNat := ⟨_, rfl⟩
  have ht3 : t.length ≤ 300 := by rw [ht, List.length_take]; split <;> omega
  rw [← ht]
  have htl : t.length ≤ 1000000000 := by omega
  repeat (first | ((first | refine WL_Q ?_ | refine WL_Y ?_ | refine WR_Q rfl ?_ | refine WR_late rfl rfl rfl (OW_Q ?_) | refine WR_Y rfl ?_); (first | refine QW_a ?_ | refine QW_of (Qt_fieldA rfl) ?_ | refine QW_of (Qt_fieldV rfl) ?_ | refine QW_of (Qt_neq_flat rfl (h := eqp_Rec.same (by decide) guard_Rec hrz f4 hrr f3 hrok)) ?_)) | ((first | refine WL_op rfl ?_ | refine WL_yes (h := ?_) | refine WR_late rfl rfl rfl ?_ | refine WR_opG rfl rfl ?_ | refine WR_opYG rfl (h := ?_)); (first | refine OW_alloc rfl (hk := fun _ => ?_) | refine OW_stA rfl ?_ | refine OW_stN rfl ?_ | refine OW_callP rfl (hF := works03_fn (by repeat (first | with_reducible assumption | apply HandleIn.cons))) (hk := ?_) | (refine OW_call rfl (hF := new_rd) (hk := ?_); rintro _ _ ⟨r1, rfl, rfl⟩) | refine OW_S (fun F => place_rd F) ?_ | (refine OW_call rfl (hF := bare_fn hM' _) (hk := ?_); rintro _ _ ⟨bc, x1, c1, x2, c2, rfl, rfl, ⟨hB, f1, f2, f3, f4⟩⟩) | refine OW_callP rfl (hF := same_fn (by repeat (first | with_reducible exact hMrL | apply MsgAt.cons)) (by repeat (first | with_reducible exact (hB.left T') | apply MsgAt.cons)) hnb hne) (hk := ?_)); try refine ⟨(by first | exact fun _ h => h | exact sub_mem (by repeat (first | exact .refl _ | exact List.nil_sublist _ | exact List.sublist_append_right _ _ | exact List.Sublist.append (.refl _) (List.sublist_append_right _ _) | apply List.Sublist.cons_cons | apply List.Sublist.cons))), ?_⟩) | refine WL_nil ?_ | refine WL_un (h := ?_) | refine WL_N ?_ | refine WL_M ?_ | refine WR_nil ?_ | refine WR_un rfl (hk := ?_) | refine WR_N rfl ?_ | refine WR_M rfl ?_ | refine WC_seq ?_ | refine WC_block ?_ | refine WC_cond_t (ht := ?_) | refine WC_cond_f (he := ?_) | refine WC_skip ?_ | refine WC_ret ?_ | refine WC_exit ?_ | refine WC_draw_all (id := 15) 49 (.calm 0 <| .calm 1 <| .calm 2 <| .calm 3 <| .calm 4 <| .calm 5 <| .calm 6 <| .calm 7 <| .must 8 <| .must 9 <| .calm 10 <| .calm 11 <| .calm 12 <| .calm 13 <| .calm 14 <| .calm 15 <| .calm 16 <| .calm 17 <| .calm 18 <| .calm 19 <| .calm 20 <| .must 21 <| .calm 22 <| .calm 23 <| .calm 24 <| .calm 25 <| .calm 26 <| .calm 27 <| .calm 28 <| .calm 29 <| .calm 30 <| .calm 31 <| .calm 32 <| .calm 33 <| .must 34 <| .calm 35 <| .calm 36 <| .calm 37 <| .calm 38 <| .calm 39 <| .calm 40 <| .calm 41 <| .calm 42 <| .calm 43 <| .calm 44 <| .must 45 <| .calm 46 <| .calm 47 <| .calm 48 <| .done) mixed (by kernel_rfl) ?_ | refine WC_draw_all (id := 24) 13 (.calm 0 <| .calm 1 <| .calm 2 <| .calm 3 <| .calm 6 <| .calm 7 <| .must 4 <| .calm 5 <| .must 8 <| .calm 9 <| .calm 10 <| .calm 11 <| .calm 12 <| .done) mixed (by kernel_rfl) ?_ | refine WC_region (id := 0) ?_ | refine WC_region (id := 1) ?_ | refine WC_region (id := 2) ?_ | refine WC_region (id := 3) ?_ | refine WC_region (id := 4) ?_ | refine WC_region (id := 5) ?_ | refine WC_region (id := 7) ?_ | refine WC_region (id := 6) ?_ | refine WC_region (id := 8) ?_ | refine WC_region (id := 9) ?_ | refine WC_region (id := 10) ?_ | refine WC_region (id := 11) ?_ | refine WC_region (id := 12) ?_ | refine WC_region (id := 14) ?_ | refine WC_region (id := 16) ?_ | refine WC_region (id := 13) ?_ | refine WC_region (id := 17) ?_ | refine WC_region (id := 18) ?_ | refine WC_region (id := 19) ?_ | refine WC_region (id := 20) ?_ | refine WC_region (id := 21) ?_ | refine WC_region (id := 22) ?_ | (refine WR_skN rfl (h := ?_)) | (refine WR_skM rfl (h := ?_)) | (refine WR_skU rfl (h := ?_)))
  rename_i r2
  repeat (first | ((first | refine WL_Q ?_ | refine WL_Y ?_ | refine WR_Q rfl ?_ | refine WR_late rfl rfl rfl (OW_Q ?_) | refine WR_Y rfl ?_); (first | refine QW_a ?_ | refine QW_of (Qt_fieldA rfl) ?_ | refine QW_of (Qt_fieldV rfl) ?_ | refine QW_of (Qt_neq_flat rfl (h := eqp_Rec.same (by decide) guard_Rec hrz f4 hrr f3 hrok)) ?_)) | ((first | refine WL_op rfl ?_ | refine WL_yes (h := ?_) | refine WR_late rfl rfl rfl ?_ | refine WR_opG rfl rfl ?_ | refine WR_opYG rfl (h := ?_)); (first | refine OW_alloc rfl (hk := fun _ => ?_) | refine OW_stA rfl ?_ | refine OW_stN rfl ?_ | refine OW_callP rfl (hF := works03_fn (by repeat (first | with_reducible assumption | apply HandleIn.cons))) (hk := ?_) | (refine OW_call rfl (hF := new_rd) (hk := ?_); rintro _ _ ⟨r1, rfl, rfl⟩) | refine OW_S (fun F => place_rd F) ?_ | (refine OW_call rfl (hF := bare_fn hM' _) (hk := ?_); rintro _ _ ⟨bc, x1, c1, x2, c2, rfl, rfl, ⟨hB, f1, f2, f3, f4⟩⟩) | refine OW_callP rfl (hF := same_fn (by repeat (first | with_reducible exact hMrL | apply MsgAt.cons)) (by repeat (first | with_reducible exact (hB.left T') | apply MsgAt.cons)) hnb hne) (hk := ?_)); try refine ⟨(by first | exact fun _ h => h | exact sub_mem (by repeat (first | exact .refl _ | exact List.nil_sublist _ | exact List.sublist_append_right _ _ | exact List.Sublist.append (.refl _) (List.sublist_append_right _ _) | apply List.Sublist.cons_cons | apply List.Sublist.cons))), ?_⟩) | refine WL_nil ?_ | refine WL_un (h := ?_) | refine WL_N ?_ | refine WL_M ?_ | refine WR_nil ?_ | refine WR_un rfl (hk := ?_) | refine WR_N rfl ?_ | refine WR_M rfl ?_ | refine WC_seq ?_ | refine WC_block ?_ | refine WC_cond_t (ht := ?_) | refine WC_cond_f (he := ?_) | refine WC_skip ?_ | refine WC_ret ?_ | refine WC_exit ?_ | refine WC_draw_all (id := 15) 49 (.calm 0 <| .calm 1 <| .calm 2 <| .calm 3 <| .calm 4 <| .calm 5 <| .calm 6 <| .calm 7 <| .must 8 <| .must 9 <| .calm 10 <| .calm 11 <| .calm 12 <| .calm 13 <| .calm 14 <| .calm 15 <| .calm 16 <| .calm 17 <| .calm 18 <| .calm 19 <| .calm 20 <| .must 21 <| .calm 22 <| .calm 23 <| .calm 24 <| .calm 25 <| .calm 26 <| .calm 27 <| .calm 28 <| .calm 29 <| .calm 30 <| .calm 31 <| .calm 32 <| .calm 33 <| .must 34 <| .calm 35 <| .calm 36 <| .calm 37 <| .calm 38 <| .calm 39 <| .calm 40 <| .calm 41 <| .calm 42 <| .calm 43 <| .calm 44 <| .must 45 <| .calm 46 <| .calm 47 <| .calm 48 <| .done) mixed (by kernel_rfl) ?_ | refine WC_draw_all (id := 24) 13 (.calm 0 <| .calm 1 <| .calm 2 <| .calm 3 <| .calm 6 <| .calm 7 <| .must 4 <| .calm 5 <| .must 8 <| .calm 9 <| .calm 10 <| .calm 11 <| .calm 12 <| .done) mixed (by kernel_rfl) ?_ | refine WC_region ?_ | (refine WR_skN rfl (h := ?_)) | (refine WR_skM rfl (h := ?_)) | (refine WR_skU rfl (h := ?_)))
  refine WL_op rfl (OW_call rfl (hF := GMsg_fn htl (Nat.zero_le _) _) (hk := ?_))
  rintro _ _ (⟨b', T', rcs, hokm, hzr, rfl, rfl⟩ | ⟨c, e, p, b', h1, hb', rfl, rfl⟩)
  rotate_left
  · repeat (first | ((first | refine WL_Q ?_ | refine WL_Y ?_ | refine WR_Q rfl ?_ | refine WR_late rfl rfl rfl (OW_Q ?_) | refine WR_Y rfl ?_); (first | refine QW_a ?_ | refine QW_of (Qt_fieldA rfl) ?_ | refine QW_of (Qt_fieldV rfl) ?_ | refine QW_of (Qt_neq_flat rfl (h := eqp_Rec.same (by decide) guard_Rec hrz f4 hrr f3 hrok)) ?_)) | ((first | refine WL_op rfl ?_ | refine WL_yes (h := ?_) | refine WR_late rfl rfl rfl ?_ | refine WR_opG rfl rfl ?_ | refine WR_opYG rfl (h := ?_)); (first | refine OW_alloc rfl (hk := fun _ => ?_) | refine OW_stA rfl ?_ | refine OW_stN rfl ?_ | refine OW_callP rfl (hF := works03_fn (by repeat (first | with_reducible assumption | apply HandleIn.cons))) (hk := ?_) | (refine OW_call rfl (hF := new_rd) (hk := ?_); rintro _ _ ⟨r1, rfl, rfl⟩) | refine OW_S (fun F => place_rd F) ?_ | (refine OW_call rfl (hF := bare_fn hM' _) (hk := ?_); rintro _ _ ⟨bc, x1, c1, x2, c2, rfl, rfl, ⟨hB, f1, f2, f3, f4⟩⟩) | refine OW_callP rfl (hF := same_fn (by repeat (first | with_reducible exact hMrL | apply MsgAt.cons)) (by repeat (first | with_reducible exact (hB.left T') | apply MsgAt.cons)) hnb hne) (hk := ?_)); try refine ⟨(by first | exact fun _ h => h | exact sub_mem (by repeat (first | exact .refl _ | exact List.nil_sublist _ | exact List.sublist_append_right _ _ | exact List.Sublist.append (.refl _) (List.sublist_append_right _ _) | apply List.Sublist.cons_cons | apply List.Sublist.cons))), ?_⟩) | refine WL_nil ?_ | refine WL_un (h := ?_) | refine WL_N ?_ | refine WL_M ?_ | refine WR_nil ?_ | refine WR_un rfl (hk := ?_) | refine WR_N rfl ?_ | refine WR_M rfl ?_ | refine WC_seq ?_ | refine WC_block ?_ | refine WC_cond_t (ht := ?_) | refine WC_cond_f (he := ?_) | refine WC_skip ?_ | refine WC_ret ?_ | refine WC_exit ?_ | refine WC_draw_all (id := 15) 49 (.calm 0 <| .calm 1 <| .calm 2 <| .calm 3 <| .calm 4 <| .calm 5 <| .calm 6 <| .calm 7 <| .must 8 <| .must 9 <| .calm 10 <| .calm 11 <| .calm 12 <| .calm 13 <| .calm 14 <| .calm 15 <| .calm 16 <| .calm 17 <| .calm 18 <| .calm 19 <| .calm 20 <| .must 21 <| .calm 22 <| .calm 23 <| .calm 24 <| .calm 25 <| .calm 26 <| .calm 27 <| .calm 28 <| .calm 29 <| .calm 30 <| .calm 31 <| .calm 32 <| .calm 33 <| .must 34 <| .calm 35 <| .calm 36 <| .calm 37 <| .calm 38 <| .calm 39 <| .calm 40 <| .calm 41 <| .calm 42 <| .calm 43 <| .calm 44 <| .must 45 <| .calm 46 <| .calm 47 <| .calm 48 <| .done) mixed (by kernel_rfl) ?_ | refine WC_draw_all (id := 24) 13 (.calm 0 <| .calm 1 <| .calm 2 <| .calm 3 <| .calm 6 <| .calm 7 <| .must 4 <| .calm 5 <| .must 8 <| .calm 9 <| .calm 10 <| .calm 11 <| .calm 12 <| .done) mixed (by kernel_rfl) ?_ | refine WC_region ?_ | (refine WR_skN rfl (h := ?_)) | (refine WR_skM rfl (h := ?_)) | (refine WR_skU rfl (h := ?_)))
    exact ⟨rfl, _, L, Res1 rfl (resV_tmp rfl), .cons _ (.cons _ (.cons _ (.cons _ (.refl _)))), rfl, rfl⟩
  have hone := hokm.2
  obtain ⟨m', ra, rp, ra', rp', hpr, hMr⟩ := okMsg_at hokm
  clear hokm
  obtain ⟨lim, _, hbl, henc⟩ := prMsg_went hpr
  have hnb : m'.bins.length ≤ 1000000 := by have := lim.nb; omega
  have hne : m'.ents.length ≤ 100000 := by have := lim.ne; omega
  have k0 : (0 : Int) ≤ ((b' : Nat) : Int) := by omega
  have k1 : ((b' : Nat) : Int) ≤ (t.length : Int) := by omega
  have hq : ([] ++ m'.enc == t.take ((b' : Nat) : Int).toNat) = true := by
    rw [Int.toNat_natCast, List.nil_append, henc]
    unfold cut
    simp
  repeat (first | ((first | refine WL_Q ?_ | refine WL_Y ?_ | refine WR_Q rfl ?_ | refine WR_late rfl rfl rfl (OW_Q ?_) | refine WR_Y rfl ?_); (first | refine QW_a ?_ | refine QW_of (Qt_fieldA rfl) ?_ | refine QW_of (Qt_fieldV rfl) ?_ | refine QW_of (Qt_neq_flat rfl (h := eqp_Rec.same (by decide) guard_Rec hrz f4 hrr f3 hrok)) ?_)) | ((first | refine WL_op rfl ?_ | refine WL_yes (h := ?_) | refine WR_late rfl rfl rfl ?_ | refine WR_opG rfl rfl ?_ | refine WR_opYG rfl (h := ?_)); (first | refine OW_alloc rfl (hk := fun _ => ?_) | refine OW_stA rfl ?_ | refine OW_stN rfl ?_ | refine OW_callP rfl (hF := works03_fn (by repeat (first | with_reducible assumption | apply HandleIn.cons))) (hk := ?_) | (refine OW_call rfl (hF := new_rd) (hk := ?_); rintro _ _ ⟨r1, rfl, rfl⟩) | refine OW_S (fun F => place_rd F) ?_ | (refine OW_call rfl (hF := bare_fn hM' _) (hk := ?_); rintro _ _ ⟨bc, x1, c1, x2, c2, rfl, rfl, ⟨hB, f1, f2, f3, f4⟩⟩) | refine OW_callP rfl (hF := same_fn (by repeat (first | with_reducible exact hMrL | apply MsgAt.cons)) (by repeat (first | with_reducible exact (hB.left T') | apply MsgAt.cons)) hnb hne) (hk := ?_)); try refine ⟨(by first | exact fun _ h => h | exact sub_mem (by repeat (first | exact .refl _ | exact List.nil_sublist _ | exact List.sublist_append_right _ _ | exact List.Sublist.append (.refl _) (List.sublist_append_right _ _) | apply List.Sublist.cons_cons | apply List.Sublist.cons))), ?_⟩) | refine WL_nil ?_ | refine WL_un (h := ?_) | refine WL_N ?_ | refine WL_M ?_ | refine WR_nil ?_ | refine WR_un rfl (hk := ?_) | refine WR_N rfl ?_ | refine WR_M rfl ?_ | refine WC_seq ?_ | refine WC_block ?_ | refine WC_cond_t (ht := ?_) | refine WC_cond_f (he := ?_) | refine WC_skip ?_ | refine WC_ret ?_ | refine WC_exit ?_ | refine WC_draw_all (id := 15) 49 (.calm 0 <| .calm 1 <| .calm 2 <| .calm 3 <| .calm 4 <| .calm 5 <| .calm 6 <| .calm 7 <| .must 8 <| .must 9 <| .calm 10 <| .calm 11 <| .calm 12 <| .calm 13 <| .calm 14 <| .calm 15 <| .calm 16 <| .calm 17 <| .calm 18 <| .calm 19 <| .calm 20 <| .must 21 <| .calm 22 <| .calm 23 <| .calm 24 <| .calm 25 <| .calm 26 <| .calm 27 <| .calm 28 <| .calm 29 <| .calm 30 <| .calm 31 <| .calm 32 <| .calm 33 <| .must 34 <| .calm 35 <| .calm 36 <| .calm 37 <| .calm 38 <| .calm 39 <| .calm 40 <| .calm 41 <| .calm 42 <| .calm 43 <| .calm 44 <| .must 45 <| .calm 46 <| .calm 47 <| .calm 48 <| .done) mixed (by kernel_rfl) ?_ | refine WC_region (id := 0) ?_ | refine WC_region (id := 1) ?_ | refine WC_region (id := 2) ?_ | refine WC_region (id := 3) ?_ | refine WC_region (id := 4) ?_ | refine WC_region (id := 5) ?_ | refine WC_region (id := 7) ?_ | refine WC_region (id := 6) ?_ | refine WC_region (id := 8) ?_ | refine WC_region (id := 9) ?_ | refine WC_region (id := 10) ?_ | refine WC_region (id := 11) ?_ | refine WC_region (id := 12) ?_ | refine WC_region (id := 14) ?_ | refine WC_region (id := 16) ?_ | refine WC_region (id := 13) ?_ | refine WC_region (id := 17) ?_ | refine WC_region (id := 18) ?_ | refine WC_region (id := 19) ?_ | refine WC_region (id := 20) ?_ | refine WC_region (id := 21) ?_ | refine WC_region (id := 22) ?_ | refine WC_region (id := 23) ?_ | (refine WR_skN rfl (h := ?_)) | (refine WR_skM rfl (h := ?_)) | (refine WR_skU rfl (h := ?_)))
  rename_i x12
  repeat (first | ((first | refine WL_Q ?_ | refine WL_Y ?_ | refine WR_Q rfl ?_ | refine WR_late rfl rfl rfl (OW_Q ?_) | refine WR_Y rfl ?_); (first | refine QW_a ?_ | refine QW_of (Qt_fieldA rfl) ?_ | refine QW_of (Qt_fieldV rfl) ?_ | refine QW_of (Qt_neq_flat rfl (h := eqp_Rec.same (by decide) guard_Rec hrz f4 hrr f3 hrok)) ?_)) | ((first | refine WL_op rfl ?_ | refine WL_yes (h := ?_) | refine WR_late rfl rfl rfl ?_ | refine WR_opG rfl rfl ?_ | refine WR_opYG rfl (h := ?_)); (first | refine OW_alloc rfl (hk := fun _ => ?_) | refine OW_stA rfl ?_ | refine OW_stN rfl ?_ | refine OW_callP rfl (hF := works03_fn (by repeat (first | with_reducible assumption | apply HandleIn.cons))) (hk := ?_) | (refine OW_call rfl (hF := new_rd) (hk := ?_); rintro _ _ ⟨r1, rfl, rfl⟩) | refine OW_S (fun F => place_rd F) ?_ | (refine OW_call rfl (hF := bare_fn hM' _) (hk := ?_); rintro _ _ ⟨bc, x1, c1, x2, c2, rfl, rfl, ⟨hB, f1, f2, f3, f4⟩⟩) | refine OW_callP rfl (hF := same_fn (by repeat (first | with_reducible exact hMrL | apply MsgAt.cons)) (by repeat (first | with_reducible exact (hB.left T') | apply MsgAt.cons)) hnb hne) (hk := ?_) | (refine OW_call rfl (hF := PMsg_at (by repeat (first | with_reducible exact (hMr.app _) | apply MsgAt.cons)) (ByAt.nil _) hnb hne z9) (hk := ?_); rintro _ _ ⟨b1, off1, cap1, cur1, rfl, rfl, ho1⟩)); try refine ⟨(by first | exact fun _ h => h | exact sub_mem (by repeat (first | exact .refl _ | exact List.nil_sublist _ | exact List.sublist_append_right _ _ | exact List.Sublist.append (.refl _) (List.sublist_append_right _ _) | apply List.Sublist.cons_cons | apply List.Sublist.cons))), ?_⟩) | refine WL_nil ?_ | refine WL_un (h := ?_) | refine WL_N ?_ | refine WL_M ?_ | refine WR_nil ?_ | refine WR_un rfl (hk := ?_) | refine WR_N rfl ?_ | refine WR_M rfl ?_ | refine WC_seq ?_ | refine WC_block ?_ | refine WC_cond_t (ht := ?_) | refine WC_cond_f (he := ?_) | refine WC_skip ?_ | refine WC_ret ?_ | refine WC_exit ?_ | refine WC_draw_all (id := 15) 49 (.calm 0 <| .calm 1 <| .calm 2 <| .calm 3 <| .calm 4 <| .calm 5 <| .calm 6 <| .calm 7 <| .must 8 <| .must 9 <| .calm 10 <| .calm 11 <| .calm 12 <| .calm 13 <| .calm 14 <| .calm 15 <| .calm 16 <| .calm 17 <| .calm 18 <| .calm 19 <| .calm 20 <| .must 21 <| .calm 22 <| .calm 23 <| .calm 24 <| .calm 25 <| .calm 26 <| .calm 27 <| .calm 28 <| .calm 29 <| .calm 30 <| .calm 31 <| .calm 32 <| .calm 33 <| .must 34 <| .calm 35 <| .calm 36 <| .calm 37 <| .calm 38 <| .calm 39 <| .calm 40 <| .calm 41 <| .calm 42 <| .calm 43 <| .calm 44 <| .must 45 <| .calm 46 <| .calm 47 <| .calm 48 <| .done) mixed (by kernel_rfl) ?_ | refine WC_draw_all (id := 24) 13 (.calm 0 <| .calm 1 <| .calm 2 <| .calm 3 <| .calm 6 <| .calm 7 <| .must 4 <| .calm 5 <| .must 8 <| .calm 9 <| .calm 10 <| .calm 11 <| .calm 12 <| .done) mixed (by kernel_rfl) ?_ | refine WC_region ?_ | (refine WR_skN rfl (h := ?_)) | (refine WR_skM rfl (h := ?_)) | (refine WR_skU rfl (h := ?_)))
  rw [hq]
  exact ⟨rfl, _, L, Res1 rfl (resV_tmp rfl), .cons _ (.cons _ (.cons _ (.cons _ (List.sublist_append_left _ _)))), rfl, rfl⟩
end Go.Proofs.YtakedlockchpcaaDoor
namespace Go.Proofs.YtakedlockchpcaaDoor
open Go.ChangeShapes Go.WideShapes Go.ChangeAt Go.RowKit
set_option maxRecDepth 100000 in
theorem msgsR_sound : SoundZ Tryd.prog 22 (sliceZ msgR) := (soundZ_slice Tryd.underlying22 (by kernel_rfl) (by decide) (soundZ_struct Tryd.underlying38 (by kernel_rfl) (soundZF_cons (sound_int Tryd.underlying3 (by kernel_rfl)).z rfl (soundZF_cons (sound_int Tryd.underlying3 (by kernel_rfl)).z rfl (soundZF_cons (soundZ_struct Tryd.underlying28 (by kernel_rfl) (soundZF_cons (sound_int Tryd.underlying26 (by kernel_rfl)).z rfl (soundZF_cons (sound_int Tryd.underlying2 (by kernel_rfl)).z rfl (soundZF_cons (sound_int Tryd.underlying2 (by kernel_rfl)).z rfl (soundZF_cons (sound_int Tryd.underlying5 (by kernel_rfl)).z rfl (soundZF_cons (sound_bool Tryd.underlying4 (by kernel_rfl)).z rfl (soundZF_one (sound_bool Tryd.underlying4 (by kernel_rfl)).z rfl))))))) rfl (soundZF_cons (sound_int Tryd.underlying2 (by kernel_rfl)).z rfl (soundZF_cons (sound_int Tryd.underlying3 (by kernel_rfl)).z rfl (soundZF_cons (soundZ_struct Tryd.underlying33 (by kernel_rfl) (soundZF_cons (sound_int Tryd.underlying3 (by kernel_rfl)).z rfl (soundZF_cons (sound_int Tryd.underlying2 (by kernel_rfl)).z rfl (soundZF_cons (soundZ_slice Tryd.underlying29 (by kernel_rfl) (by decide) (sound_int Tryd.underlying3 (by kernel_rfl)).z) rfl (soundZF_cons (sound_int Tryd.underlying3 (by kernel_rfl)).z rfl (soundZF_cons (sound_int Tryd.underlying3 (by kernel_rfl)).z rfl (soundZF_cons (soundZ_struct Tryd.underlying31 (by kernel_rfl) (soundZF_cons (sound_int Tryd.underlying3 (by kernel_rfl)).z rfl (soundZF_cons (sound_int Tryd.underlying2 (by kernel_rfl)).z rfl (soundZF_cons (sound_int Tryd.underlying2 (by kernel_rfl)).z rfl (soundZF_one (sound_int Tryd.underlying3 (by kernel_rfl)).z rfl))))) rfl (soundZF_one (sound_int Tryd.underlying3 (by kernel_rfl)).z rfl)))))))) rfl (soundZF_one (soundZ_struct Tryd.underlying36 (by kernel_rfl) (soundZF_cons (sound_int Tryd.underlying3 (by kernel_rfl)).z rfl (soundZF_cons (sound_int Tryd.underlying3 (by kernel_rfl)).z rfl (soundZF_cons (sound_bool Tryd.underlying4 (by kernel_rfl)).z rfl (soundZF_one (soundZ_slice Tryd.underlying34 (by kernel_rfl) (by decide) (soundZ_struct Tryd.underlying150 (by kernel_rfl) (soundZF_cons (sound_int Tryd.underlying3 (by kernel_rfl)).z rfl (soundZF_cons (sound_int Tryd.underlying26 (by kernel_rfl)).z rfl (soundZF_cons (sound_int Tryd.underlying2 (by kernel_rfl)).z rfl (soundZF_cons (sound_int Tryd.underlying2 (by kernel_rfl)).z rfl (soundZF_cons (sound_int Tryd.underlying5 (by kernel_rfl)).z rfl (soundZF_one (soundZ_struct Tryd.underlying70 (by kernel_rfl) (soundZF_cons (sound_int Tryd.underlying2 (by kernel_rfl)).z rfl (soundZF_cons (sound_int Tryd.underlying2 (by kernel_rfl)).z rfl (soundZF_cons (sound_int Tryd.underlying50 (by kernel_rfl)).z rfl (soundZF_cons (sound_int Tryd.underlying2 (by kernel_rfl)).z rfl (soundZF_one (sound_int Tryd.underlying2 (by kernel_rfl)).z rfl)))))) rfl)))))))) rfl))))) rfl)))))))))
theorem exists_list {α : Type} : ∀ (n : Nat) (P : Nat → α → Prop), (∀ j, j < n → ∃ m, P j m) → ∃ ms : List α, ms.length = n ∧ ∀ j m, ms[j]? = some m → P j m
  | 0, _, _ => ⟨[], rfl, fun j m h => by simp at h⟩
  | n + 1, P, h => by
    obtain ⟨ms, h1, h2⟩ := exists_list n P fun j hj => h j (by omega)
    obtain ⟨m, hm⟩ := h n (by omega)
    refine ⟨ms ++ [m], by simp [h1], fun j x hx => ?_⟩
    by_cases hj : j < n
    · rw [List.getElem?_append_left (by omega)] at hx; exact h2 j x hx
    · rw [List.getElem?_append_right (by omega)] at hx
      have hl := (List.getElem?_eq_some_iff.1 hx).1
      simp only [List.length_cons, List.length_nil] at hl
      obtain rfl : j = n := by omega
      rw [h1, Nat.sub_self] at hx
      cases hx
      exact hm
theorem msgs_of {L : List (Nat × Obj)} {a : Option Addr} {xs : List _} (h : SlLieZ msgR L a xs) : ∃ ms : List MV, ms.length = xs.length ∧ MsgsAt L a ms := by
  rcases h with rfl | ⟨b, off, cs, E, fr, i, h1, h2, h3, h4⟩
  · exact ⟨[], rfl, fun j m h => by simp at h⟩
  · obtain ⟨ms, e1, e2⟩ := exists_list xs.length (fun j (m : MV) => ∃ (b off : Nat) (cs : Array Value) (E : TypeId) (fr : Nat × Nat) (i : Nat) (a1 : Option Addr) (cap : Nat) (a' : Option Addr) (cap' : Nat),
      a = some ⟨b, off, none⟩ ∧ L[i]? = some (b, Obj.cells cs E fr) ∧ off + j * 24 + 24 ≤ cs.size ∧ MsgAt L (cs.extract (off + j * 24) (off + j * 24 + 24)) m a1 cap a' cap') fun j hj => by
        obtain ⟨m, a1, cap, a', cap', q1, q2, q3, q4, q5, q6, q7, q8⟩ := msg_at (off := off + j * 24) (h4 j _ (List.getElem?_eq_getElem hj))
        have l24 := MV.cells_len q1 a1 cap a' cap'
        have hfit : off + j * 24 + 24 ≤ cs.size := by have := lies_size q2 (by omega); omega
        exact ⟨m, b, off, cs, E, fr, i, a1, cap, a', cap', h1, h2, hfit, q1, size_extract hfit, lies_extract q2 (by omega), q3, q4, q5, q6, q7, q8⟩
    exact ⟨ms, e1, e2⟩
end Go.Proofs.YtakedlockchpcaaDoor
namespace Go.Proofs.YtakedlockchpcaaDoor
open Go.ChangeShapes Go.WideShapes Go.ChangeAt Go.RowKit
theorem h_et : Tryd.prog.globalNamed "errors.errorType" = some 0 := by kernel_rfl
theorem h_rt : (Tryd.prog.cutTypes.find? (·.1 == "internal/reflectlite.rtype")).map (·.2) = some 161 := by kernel_rfl
theorem h_oneRow : ((List.range 211).filter fun t => Tryd.prog.rowNamed t [101, 114, 114, 111, 114]) = [43] := by kernel_rfl
theorem h_size : Tryd.prog.types.size = 211 := by kernel_rfl
def laidL : List (String × DataW Unit) := [("errors.errorType", Rows.laid_errors_errorType)]
theorem handle_of_laid {W : World} (h : laidMetH Tryd.prog laidL W) : W.cell? ⟨0, 0, none⟩ = some handle := by
  have h' : laidMet Tryd.prog [] W ∧ handlesMet Tryd.prog laidL W := h
  obtain ⟨name, u, ty, e1, e2, e3, e4, e5⟩ := h'.2 _ (List.mem_singleton.2 rfl)
  have en : name = [101, 114, 114, 111, 114] := (Option.some.inj e1).symm
  subst en
  obtain rfl := Option.some.inj (h_rt.symm.trans e2)
  have hm : ty ∈ (List.range 211).filter fun t => Tryd.prog.rowNamed t [101, 114, 114, 111, 114] := List.mem_filter.2 ⟨List.mem_range.2 (by rw [← h_size]; exact e3), e4⟩
  rw [h_oneRow] at hm
  obtain rfl := List.mem_singleton.1 hm
  have hh : typeHandle Tryd.prog 43 = .pointer (some ⟨1, 43, none⟩) := by kernel_rfl
  rw [hh] at e5
  unfold handle
  simpa using World.var?_cell h_et e5 0
noncomputable def laidWorld (os : Os) : World :=
  let w0 := World.holding Tryd.prog os ⟨#[], #[], []⟩
  { w0 with heap := w0.heap.modify 0 fun
      | .cells _ t frozen => .cells #[handle] t frozen
      | o => o }
theorem laidWorld_met (os : Os) (args : Array Value) : laidMetH Tryd.prog laidL ((laidWorld os).forCall (fun _ _ => 0) ⟨#[], args, []⟩).memory :=
  laidMetH_of_parts (laidMet_nil _ _) (by kernel_rfl)
set_option maxRecDepth 100000 in
theorem liftedH {os : Os} {H : Type} {enc : TypeId × Value → H} {f : FuncId} {fn : Func} {s : ChangeSpec} {tb : TypeId} (started : os.Started) (noInit : Tryd.prog.inits.idxOf? f = none) (hfn : Tryd.prog.funcs[f]? = some fn)
    (witness : ∃ (w : World) (tape : Tape) (i : Input), w.os = os ∧ (w.forCall tape i).Shaped Tryd.prog ∧ i.vars = [] ∧ Input.okWide Tryd.prog (w.forCall tape i) .any w.heap.size f i ∧
      ((s.pre enc Tryd.prog fn [] false (w.forCall tape i).memory i.args ∧ laidMetH Tryd.prog laidL (w.forCall tape i).memory) ∧ sizedMet enc Tryd.prog fn (OpenSpec.ofChange s) false (w.forCall tape i).memory i.args) ∧ ({} : Assume).holds Tryd.prog (lone (Frame.enter Tryd.prog f i.args .normal) [] (w.forCall tape i)))
    (hts : (fn.params.toList.all fun t => Tryd.prog.readableRec t && decide (t < Tryd.prog.types.size)) = true) (hv : s.vars = []) (hr : fn.resultTypes = #[tb]) (hb : Tryd.prog.underlying tb = some .bool)
    (hspec : ∀ ds : List (DataW H), ds.length = fn.params.size → s.fn H ds = { results := [.lit (.bool true)], args := ds })
    (h : ∀ (W : World) (base : Nat) (args : Array Value) (ds : List (DataW H)) (ps : List MemPlace), (∀ (j : Nat) t v, fn.params[j]? = some t → args[j]? = some v → Value.okWide Tryd.prog W .any base t v) →
      DataW.TrodAll enc Tryd.prog W 0 (fun _ => true) true fn.params.toList args.toList ds ps → W.noneFrozen ps → (∃ cs E fr, (0, Obj.cells cs E fr) ∈ allL W ∧ cs[0]? = some handle) → Fn Tryd.prog f args.toList (allL W) fun v L' => v = .bool true ∧ L' = allL W) :
    ReturnsInHanded {} Tryd.checked os f .any (fun w args => (s.pre enc Tryd.prog fn [] false w args ∧ laidMetH Tryd.prog laidL w) ∧ sizedMet enc Tryd.prog fn (OpenSpec.ofChange s) false w args) (s.post enc Tryd.prog fn false true false false) := by
  refine returnsInHanded_of_change_and (C := Tryd.checked) (X := fun w _ => laidMetH Tryd.prog laidL w) (fun _ _ _ hh h => h.of_heap hh) ownOf started noInit hfn witness ?_
  intro W base args ds gs before hval hW _ _ hL _
  have hW' := hW
  obtain ⟨p, q, hA, hV, rfl, hfz, _⟩ := hW
  rw [hv] at hV
  obtain ⟨rfl, rfl⟩ := trodVars_none hV
  have hlen : ∀ {ts : List TypeId} {vs : List Value} {ds : List (DataW H)} {ps : List MemPlace}, DataW.TrodAll enc Tryd.prog W 0 (fun _ => true) true ts vs ds ps → ds.length = ts.length := by
    intro ts
    induction ts with
    | nil => intro vs ds ps h; obtain ⟨_, rfl, _⟩ := trodAll_nil h; rfl
    | cons t ts ih => intro vs ds ps h; obtain ⟨v, vs', d, ds', a, b, rfl, rfl, rfl, _, h2⟩ := trodAll_cons h; simp [ih h2]
  have hds := hspec ds (by rw [hlen hA]; simp)
  have hg := handle_of_laid hL
  have hblk : ∃ cs E fr, (0, Obj.cells cs E fr) ∈ allL W ∧ cs[0]? = some handle := by
    unfold World.cell? at hg
    cases hb : W.heap[0]? with
    | none => simp [hb] at hg
    | some o =>
      cases o with
      | cells cs E fr => exact ⟨cs, E, fr, allL_mem_of hb, by simpa [hb] using hg⟩
      | _ => simp [hb] at hg
  refine ((h W base args ds p hval hA (by simpa using hfz) hblk) W W (mem_allL W)).mono fun e W' ⟨v, L', h1, h2, h3, h4⟩ => ?_
  subst h3; subst h4
  exact ⟨_, h1, post_law laidOf hts hv hr hb (by simpa using hds) hW' (below_of_mem h2)⟩
end Go.Proofs.YtakedlockchpcaaDoor
namespace Go.Proofs.YtakedlockchpcaaDoor
open Go.ChangeShapes Go.WideShapes Go.ChangeAt Go.RowKit
set_option maxRecDepth 100000 in
theorem codecBack_lifted (os : Os) (started : os.Started) (H : Type) (enc : TypeId × Value → H) :
    ReturnsInHanded {} Tryd.checked os 3 .any (fun w args => (Rows.codecBackSpec.pre enc Tryd.prog Tryd.f3 [] false w args ∧ laidMetH Tryd.prog laidL w) ∧ sizedMet enc Tryd.prog Tryd.f3 (OpenSpec.ofChange Rows.codecBackSpec) false w args) (Rows.codecBackSpec.post enc Tryd.prog Tryd.f3 false true false false) := by
  refine liftedH (tb := 4) started (by kernel_rfl) Tryd.func3
    (ChangeSpec.witness_at (enc := enc) (C := Tryd.checked) (os := os) (X := fun w _ => laidMetH Tryd.prog laidL w) false (laidWorld os) #[.slice none 0 0, .string .empty] 8 rfl (by kernel_rfl) (by kernel_rfl) (by kernel_rfl) (by kernel_rfl) (by kernel_rfl) (laidWorld_met os _)) (by kernel_rfl) rfl rfl Tryd.underlying4 ?_ ?_
  · intro ds h
    match ds, h with
    | [_, _], _ => rfl
  · intro W base args ds ps hval0 hA0 hfz hH
    have hval : ∀ (j : Nat) t v, Tryd.f3.params[j]? = some t → args[j]? = some v → Value.okWide Tryd.prog W .any base t v := hval0
    have hA : DataW.TrodAll enc Tryd.prog W 0 (fun _ => true) true Tryd.f3.params.toList args.toList ds ps := hA0
    rw [Tryd.params3] at hA hval
    obtain ⟨v0, vs0, d0, ds0, p0, q0, e0, rfl, rfl, h0, hA⟩ := trodAll_cons hA
    obtain ⟨v1, vs1, d1, ds1, p1, q1, rfl, rfl, rfl, h1, hA⟩ := trodAll_cons hA
    obtain ⟨rfl, rfl, rfl⟩ := trodAll_nil hA
    have ea : args = #[v0, v1] := by apply Array.ext'; simpa using e0
    subst ea
    obtain ⟨a0, cap0, xs0, rfl, hl0, hm0, hx0⟩ := argZ_slice Tryd.underlying22 msgsR_sound (hval 0 _ _ rfl rfl) h0 (noneFrozen_sub hfz fun _ hq => by simp [hq])
    obtain ⟨l1, rfl, hl1⟩ := arg_str Tryd.underlying9 (hval 1 _ _ rfl rfl) h1
    obtain ⟨ms, e1, hms⟩ := msgs_of hx0
    have h := cback_fn (cap0 := cap0) (s := l1) (L := allL W) hH hms (by rw [e1]; unfold maxLen at hm0; omega)
    rw [e1] at h
    exact h
theorem codecBack_said : Rows.CodecBackSaid :=
  OpenClaim.holds_of_wide 3 Tryd.f3 rfl rfl rfl rfl rfl rfl rfl ⟨rfl, rfl, rfl, rfl, rfl⟩ rfl rfl rfl rfl rfl (by kernel_rfl) Tryd.func3 (by kernel_rfl)
    (of_decide_eq_true (by kernel_rfl)) (by unfold Func.isWrapper; first | (rw [if_pos (by decide +kernel)]; kernel_rfl) | (rw [if_neg (by decide +kernel)]; exact ⟨rfl, rfl⟩))
    (fun os started H enc _ => codecBack_lifted os started H enc)
theorem codecBack_holds : Rows.CodecBackCardSaid :=
  Claim7.holds_tied_plain_at .later [] [.handle] true Rows.codecBackCard.stood.harness true
    codecBack_said (fun _ h => by cases h) (by kernel_rfl) (fun _ h => by cases h) codecBack_row_tie rfl ⟨rfl, rfl⟩ (by kernel_rfl) rfl
    (fun f fn hf hfn => by
      obtain rfl : f = 3 := Option.some.inj ((show Tryd.prog.funcNamed "anabranch/anabranchlaw03.CodecBack" = some 3 by kernel_rfl).symm.trans hf) |>.symm
      obtain rfl : fn = Tryd.f3 := (Option.some.inj (Tryd.func3.symm.trans hfn)).symm
      refine ⟨by kernel_rfl, fun j t ht => ?_⟩
      rw [Tryd.params3] at ht
      match j, ht with
      | 0, ht => cases ht; exact (show Tryd.prog.wantsStandIn 22 = false by kernel_rfl)
      | 1, ht => cases ht; exact (show Tryd.prog.wantsStandIn 9 = false by kernel_rfl)
      | n + 2, ht => simp at ht)
    (by kernel_rfl)
end Go.Proofs.YtakedlockchpcaaDoor
