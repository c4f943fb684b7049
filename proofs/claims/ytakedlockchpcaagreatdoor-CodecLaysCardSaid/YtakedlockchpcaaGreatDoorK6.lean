/-
  CodecLays is proved (the tied card): messages, items, and what is in them, are laid as the document says, behind any bytes. No condition.
-/
import Derived.ProofKit
import Derived.Deep.Slices
import Derived.OpenShut
import Derived.ChangeMaps5
import Derived.ChangeSame
import Derived.ChangeVars
import Derived.JoinedOf
import Derived.LaidLaws
import Derived.LaidHandle
import Derived.Stop.Joined
import Derived.Test.YtakedlockchpcaaGreatDoorTie
import Derived.Test.YtakedlockchpcaaGreatDoorCards
import Derived.SevenTiedAt
import Derived.Test.YtakedlockchpcaaGreatDoorK5
namespace Go.Proofs.YtakedlockchpcaaGreatDoor
open Go.RowKit
attribute [local irreducible] Fn WC WL WR OW Qt YieldFn QW FnP FnD FnE
abbrev zEntry : List Value := [.int .i64 0, .int .u32 0, .int .i64 0, .int .i64 0, .int .u8 0, .int .i64 0, .int .i64 0, .int .u64 0, .int .i64 0, .int .i64 0]
theorem zEntry_ok : Oks entryF zEntry := ⟨oks_zI, ⟨0, rfl, by omega, by omega⟩, oks_zI, oks_zI, ⟨0, rfl⟩, oks_zI, oks_zI, ⟨0, rfl, by omega, by omega⟩, oks_zI, oks_zI, trivial⟩
theorem lies_of {cs : Array Value} {vs : List Value} (h : cs = vs.toArray) : Lies cs 0 vs := fun j v hj => by subst h; simpa using hj
set_option maxRecDepth 100000 in
set_option maxHeartbeats 16000000 in
theorem clays_fn {bv : Value} {bs0 : List UInt8} {cs xs : Array Value} {m : MV} {a : Option Addr} {cap : Nat} {a' : Option Addr} {cap' : Nat} {vx : List Value} {L : List (Nat × Obj)} (hH : HandleIn L) (hb : ByAt L bv bs0) (hM : MsgAt L cs m a cap a' cap') (hzx : xs.size = 8) (hvx : Oks itemF vx) (hlx : Lies xs 0 vx) :
    Fn Tryz.prog 3 [bv, .agg cs, .agg xs] L (fun v L' => v = .bool true ∧ L' = L) := by
  have hb' := hb
  obtain ⟨h0, ba, bcap, rfl, hc1, hc2, h5⟩ := hb
  have hz := hM.size
  have hmin := min_take bs0 (n := 50) (by omega)
  refine Fn_enter Tryz.func3 rfl Tryz.ntmps3 rfl fun g => ?_
  repeat (first | ((first | refine WL_Q ?_ | refine WL_Y ?_ | refine WR_Q rfl ?_ | refine WR_late rfl rfl rfl (OW_Q ?_) | refine WR_Y rfl ?_); (first | refine QW_a ?_)) | ((first | refine WL_op rfl ?_ | refine WL_yes (h := ?_) | refine WR_late rfl rfl rfl ?_ | refine WR_opG rfl rfl ?_ | refine WR_opYG rfl (h := ?_)); (first | refine OW_box rfl (hk := fun _ => ?_) | refine OW_stA rfl ?_ | refine OW_stN rfl ?_ | refine OW_st1 rfl ?_ | refine OW_alloc rfl (hk := fun _ => ?_) | refine OW_callP rfl (hF := works03_fn (by repeat (first | with_reducible assumption | apply HandleIn.cons))) (hk := ?_) | (refine OW_call rfl (hF := few_fn hM _) (hk := ?_); rintro _ _ ⟨cs2, rfl, rfl, hM2⟩)); try refine ⟨(by first | exact fun _ h => h | exact sub_mem (by repeat (first | exact .refl _ | exact List.nil_sublist _ | exact List.sublist_append_right _ _ | apply List.Sublist.cons_cons | apply List.Sublist.cons))), ?_⟩) | refine WL_nil ?_ | refine WL_un (h := ?_) | refine WL_N ?_ | refine WL_M ?_ | refine WR_nil ?_ | refine WR_un rfl (hk := ?_) | refine WR_N rfl ?_ | refine WR_M rfl ?_ | refine WC_seq ?_ | refine WC_block ?_ | refine WC_cond_t (ht := ?_) | refine WC_cond_f (he := ?_) | refine WC_skip ?_ | refine WC_ret ?_ | refine WC_exit ?_ | refine WC_draw_all (id := 1) 8 (.calm 0 <| .calm 1 <| .calm 2 <| .calm 3 <| .calm 4 <| .calm 5 <| .must 6 <| .calm 7 <| .must 8 <| .done) mixed (by kernel_rfl) ?_ | refine WC_draw_all (id := 7) 9 (.calm 0 <| .calm 1 <| .calm 4 <| .calm 5 <| .must 2 <| .calm 3 <| .must 6 <| .calm 7 <| .calm 8 <| .done) mixed (by kernel_rfl) ?_ | refine WC_draw_fast (id := 12) 97 (.calm 0 <| .calm 1 <| .calm 4 <| .calm 5 <| .must 2 <| .calm 3 <| .must 6 <| .calm 7 <| .calm 8 <| .calm 9 <| .calm 10 <| .calm 11 <| .calm 12 <| .calm 15 <| .calm 16 <| .calm 17 <| .must 13 <| .calm 14 <| .must 18 <| .calm 19 <| .calm 20 <| .calm 21 <| .calm 22 <| .calm 23 <| .calm 24 <| .calm 25 <| .calm 28 <| .calm 29 <| .calm 30 <| .must 26 <| .calm 27 <| .must 31 <| .calm 32 <| .calm 33 <| .calm 34 <| .calm 35 <| .calm 36 <| .calm 37 <| .calm 38 <| .calm 39 <| .calm 42 <| .calm 43 <| .calm 44 <| .calm 45 <| .must 40 <| .calm 41 <| .must 46 <| .calm 47 <| .calm 48 <| .calm 49 <| .calm 50 <| .calm 51 <| .calm 52 <| .calm 55 <| .calm 56 <| .must 53 <| .calm 54 <| .must 57 <| .calm 58 <| .calm 59 <| .calm 60 <| .calm 61 <| .calm 62 <| .calm 63 <| .calm 64 <| .calm 67 <| .calm 68 <| .calm 69 <| .must 65 <| .calm 66 <| .must 70 <| .calm 71 <| .calm 72 <| .calm 73 <| .calm 74 <| .calm 75 <| .calm 76 <| .calm 77 <| .calm 80 <| .calm 81 <| .calm 82 <| .must 78 <| .calm 79 <| .must 83 <| .calm 84 <| .calm 85 <| .calm 86 <| .calm 87 <| .calm 88 <| .calm 89 <| .calm 90 <| .calm 91 <| .calm 92 <| .calm 93 <| .must 94 <| .calm 95 <| .calm 96 <| .done) mixed (by kernel_rfl) ?_ | refine WC_region ?_ | (refine WR_skN rfl (h := ?_)) | (refine WR_skM rfl (h := ?_)) | (refine WR_skU rfl (h := ?_)))
  have hz2 := hM2.size
  have hone2 := MV.all_one hM2.ok hz2 hM2.lies
  repeat (first | ((first | refine WL_Q ?_ | refine WL_Y ?_ | refine WR_Q rfl ?_ | refine WR_late rfl rfl rfl (OW_Q ?_) | refine WR_Y rfl ?_); (first | refine QW_a ?_)) | ((first | refine WL_op rfl ?_ | refine WL_yes (h := ?_) | refine WR_late rfl rfl rfl ?_ | refine WR_opG rfl rfl ?_ | refine WR_opYG rfl (h := ?_)); (first | refine OW_box rfl (hk := fun _ => ?_) | refine OW_stA rfl ?_ | refine OW_stN rfl ?_ | refine OW_st1 rfl ?_ | refine OW_alloc rfl (hk := fun _ => ?_) | refine OW_callP rfl (hF := works03_fn (by repeat (first | with_reducible assumption | apply HandleIn.cons))) (hk := ?_) | (refine OW_call rfl (hF := few_fn hM _) (hk := ?_); rintro _ _ ⟨cs2, rfl, rfl, hM2⟩)); try refine ⟨(by first | exact fun _ h => h | exact sub_mem (by repeat (first | exact .refl _ | exact List.nil_sublist _ | exact List.sublist_append_right _ _ | apply List.Sublist.cons_cons | apply List.Sublist.cons))), ?_⟩) | refine WL_nil ?_ | refine WL_un (h := ?_) | refine WL_N ?_ | refine WL_M ?_ | refine WR_nil ?_ | refine WR_un rfl (hk := ?_) | refine WR_N rfl ?_ | refine WR_M rfl ?_ | refine WC_seq ?_ | refine WC_block ?_ | refine WC_cond_t (ht := ?_) | refine WC_cond_f (he := ?_) | refine WC_skip ?_ | refine WC_ret ?_ | refine WC_exit ?_ | refine WC_draw_all (id := 1) 8 (.calm 0 <| .calm 1 <| .calm 2 <| .calm 3 <| .calm 4 <| .calm 5 <| .must 6 <| .calm 7 <| .must 8 <| .done) mixed (by kernel_rfl) ?_ | refine WC_draw_all (id := 7) 9 (.calm 0 <| .calm 1 <| .calm 4 <| .calm 5 <| .must 2 <| .calm 3 <| .must 6 <| .calm 7 <| .calm 8 <| .done) mixed (by kernel_rfl) ?_ | refine WC_draw_fast (id := 12) 97 (.calm 0 <| .calm 1 <| .calm 4 <| .calm 5 <| .must 2 <| .calm 3 <| .must 6 <| .calm 7 <| .calm 8 <| .calm 9 <| .calm 10 <| .calm 11 <| .calm 12 <| .calm 15 <| .calm 16 <| .calm 17 <| .must 13 <| .calm 14 <| .must 18 <| .calm 19 <| .calm 20 <| .calm 21 <| .calm 22 <| .calm 23 <| .calm 24 <| .calm 25 <| .calm 28 <| .calm 29 <| .calm 30 <| .must 26 <| .calm 27 <| .must 31 <| .calm 32 <| .calm 33 <| .calm 34 <| .calm 35 <| .calm 36 <| .calm 37 <| .calm 38 <| .calm 39 <| .calm 42 <| .calm 43 <| .calm 44 <| .calm 45 <| .must 40 <| .calm 41 <| .must 46 <| .calm 47 <| .calm 48 <| .calm 49 <| .calm 50 <| .calm 51 <| .calm 52 <| .calm 55 <| .calm 56 <| .must 53 <| .calm 54 <| .must 57 <| .calm 58 <| .calm 59 <| .calm 60 <| .calm 61 <| .calm 62 <| .calm 63 <| .calm 64 <| .calm 67 <| .calm 68 <| .calm 69 <| .must 65 <| .calm 66 <| .must 70 <| .calm 71 <| .calm 72 <| .calm 73 <| .calm 74 <| .calm 75 <| .calm 76 <| .calm 77 <| .calm 80 <| .calm 81 <| .calm 82 <| .must 78 <| .calm 79 <| .must 83 <| .calm 84 <| .calm 85 <| .calm 86 <| .calm 87 <| .calm 88 <| .calm 89 <| .calm 90 <| .calm 91 <| .calm 92 <| .calm 93 <| .must 94 <| .calm 95 <| .calm 96 <| .done) mixed (by kernel_rfl) ?_ | refine WC_region (id := 0) ?_ | refine WC_region (id := 3) ?_ | refine WC_region (id := 4) ?_ | refine WC_region (id := 6) ?_ | refine WC_region (id := 8) ?_ | refine WC_region (id := 5) ?_ | refine WC_region (id := 9) ?_ | refine WC_region (id := 10) ?_ | refine WC_region (id := 11) ?_ | (refine WR_skN rfl (h := ?_)) | (refine WR_skM rfl (h := ?_)) | (refine WR_skU rfl (h := ?_)))
  rename_i x4 x5
  rw [hmin]
  obtain ⟨B, hB⟩ : ∃ B, B = bs0.take (50 : Int).toNat := ⟨_, rfl⟩
  have hbB := hb'.take (50 : Int).toNat
  have hBl : B.length ≤ 50 := by rw [hB, List.length_take]; omega
  rw [← hB] at hbB
  rw [← hB]
  repeat (first | ((first | refine WL_Q ?_ | refine WL_Y ?_ | refine WR_Q rfl ?_ | refine WR_late rfl rfl rfl (OW_Q ?_) | refine WR_Y rfl ?_); (first | refine QW_a ?_)) | ((first | refine WL_op rfl ?_ | refine WL_yes (h := ?_) | refine WR_late rfl rfl rfl ?_ | refine WR_opG rfl rfl ?_ | refine WR_opYG rfl (h := ?_)); (first | refine OW_box rfl (hk := fun _ => ?_) | refine OW_stA rfl ?_ | refine OW_stN rfl ?_ | refine OW_st1 rfl ?_ | refine OW_alloc rfl (hk := fun _ => ?_) | refine OW_callP rfl (hF := works03_fn (by repeat (first | with_reducible assumption | apply HandleIn.cons))) (hk := ?_) | (refine OW_call rfl (hF := few_fn hM _) (hk := ?_); rintro _ _ ⟨cs2, rfl, rfl, hM2⟩)); try refine ⟨(by first | exact fun _ h => h | exact sub_mem (by repeat (first | exact .refl _ | exact List.nil_sublist _ | exact List.sublist_append_right _ _ | apply List.Sublist.cons_cons | apply List.Sublist.cons))), ?_⟩) | refine WL_nil ?_ | refine WL_un (h := ?_) | refine WL_N ?_ | refine WL_M ?_ | refine WR_nil ?_ | refine WR_un rfl (hk := ?_) | refine WR_N rfl ?_ | refine WR_M rfl ?_ | refine WC_seq ?_ | refine WC_block (id := 1) ?_ | refine WC_cond_t (ht := ?_) | refine WC_cond_f (he := ?_) | refine WC_skip ?_ | refine WC_ret ?_ | refine WC_exit ?_ | refine WC_draw_all (id := 1) 8 (.calm 0 <| .calm 1 <| .calm 2 <| .calm 3 <| .calm 4 <| .calm 5 <| .must 6 <| .calm 7 <| .must 8 <| .done) mixed (by kernel_rfl) ?_ | refine WC_draw_all (id := 7) 9 (.calm 0 <| .calm 1 <| .calm 4 <| .calm 5 <| .must 2 <| .calm 3 <| .must 6 <| .calm 7 <| .calm 8 <| .done) mixed (by kernel_rfl) ?_ | refine WC_draw_fast (id := 12) 97 (.calm 0 <| .calm 1 <| .calm 4 <| .calm 5 <| .must 2 <| .calm 3 <| .must 6 <| .calm 7 <| .calm 8 <| .calm 9 <| .calm 10 <| .calm 11 <| .calm 12 <| .calm 15 <| .calm 16 <| .calm 17 <| .must 13 <| .calm 14 <| .must 18 <| .calm 19 <| .calm 20 <| .calm 21 <| .calm 22 <| .calm 23 <| .calm 24 <| .calm 25 <| .calm 28 <| .calm 29 <| .calm 30 <| .must 26 <| .calm 27 <| .must 31 <| .calm 32 <| .calm 33 <| .calm 34 <| .calm 35 <| .calm 36 <| .calm 37 <| .calm 38 <| .calm 39 <| .calm 42 <| .calm 43 <| .calm 44 <| .calm 45 <| .must 40 <| .calm 41 <| .must 46 <| .calm 47 <| .calm 48 <| .calm 49 <| .calm 50 <| .calm 51 <| .calm 52 <| .calm 55 <| .calm 56 <| .must 53 <| .calm 54 <| .must 57 <| .calm 58 <| .calm 59 <| .calm 60 <| .calm 61 <| .calm 62 <| .calm 63 <| .calm 64 <| .calm 67 <| .calm 68 <| .calm 69 <| .must 65 <| .calm 66 <| .must 70 <| .calm 71 <| .calm 72 <| .calm 73 <| .calm 74 <| .calm 75 <| .calm 76 <| .calm 77 <| .calm 80 <| .calm 81 <| .calm 82 <| .must 78 <| .calm 79 <| .must 83 <| .calm 84 <| .calm 85 <| .calm 86 <| .calm 87 <| .calm 88 <| .calm 89 <| .calm 90 <| .calm 91 <| .calm 92 <| .calm 93 <| .must 94 <| .calm 95 <| .calm 96 <| .done) mixed (by kernel_rfl) ?_ | refine WC_region ?_ | (refine WR_skN rfl (h := ?_)) | (refine WR_skM rfl (h := ?_)) | (refine WR_skU rfl (h := ?_)))
  refine WC_meet (fun σ => ∃ ck mk, MsgAt L ck mk a cap a' cap' ∧ mk.bins.length ≤ 12 ∧ mk.ents.length ≤ 70 ∧ σ = ⟨[(0, .slice ba B.length bcap), (7, .string (bstr B)), (5, .pointer (some ⟨x5, 0, none⟩)), (4, .pointer (some ⟨x4, 0, none⟩))], [], (x5, .cells xs 37 (0, 0)) :: (x4, .cells ck 35 (0, 0)) :: L⟩) ?_ ?_
  · refine WC_block (WC_wk [(8, .int .i64 (-1)), (0, .slice ba B.length bcap), (7, .string (bstr B)), (5, .pointer (some ⟨x5, 0, none⟩)), (4, .pointer (some ⟨x4, 0, none⟩))] ⟨rfl, rfl, rfl, rfl, rfl, trivial⟩ ?_)
    refine WC_loop (fun n σ => ∃ (k : Int) (ck : Array Value) (mk : MV), n = (6 - k).toNat ∧ -1 ≤ k ∧ k ≤ 6 ∧ MsgAt L ck mk a cap a' cap' ∧ mk.bins.length ≤ 12 ∧ mk.ents.length ≤ 70 ∧ σ = ⟨[(8, .int .i64 k), (0, .slice ba B.length bcap), (7, .string (bstr B)), (5, .pointer (some ⟨x5, 0, none⟩)), (4, .pointer (some ⟨x4, 0, none⟩))], [], (x5, .cells xs 37 (0, 0)) :: (x4, .cells ck 35 (0, 0)) :: L⟩) 7 ⟨-1, cs2, _, by omega, by omega, by omega, hM2, by unfold MV.few; rw [List.length_take]; omega, by unfold MV.few; rw [List.length_take]; omega, rfl⟩ ?_
    rintro n σ ⟨k, ck, mk, rfl, hk1, hk6, hMk, hb12, he70, rfl⟩
    by_cases hk : k ≤ 5
    · have d1 : decide (k ≤ 5) = true := decide_eq_true hk
      have hMn := hMk.kind (k := k) ⟨by omega, by omega⟩
      have hzk := hMk.size
      have hzn := hMn.size
      have hwk : IntKind.i64.wrap (k + 1) = k + 1 := wI64 (by omega) (by omega)
      obtain ⟨mn, hmn⟩ : ∃ mn : MV, mn = { mk with kind := k } := ⟨_, rfl⟩
      rw [← hmn] at hMn
      have n12 : mn.bins.length ≤ 1000000 := by rw [hmn]; show mk.bins.length ≤ _; omega
      have n70 : mn.ents.length ≤ 100000 := by rw [hmn]; show mk.ents.length ≤ _; omega
      have n71 : mn.ents.length ≤ 1000000 := by omega
      have hel := MV.enc_len hMn.ok (by rw [hmn]; show mk.bins.length ≤ _; omega) n70
      have hB9 : B.length ≤ 900000000 := by omega
      have e1 : (!(B ++ mn.enc == B ++ mn.enc)) = false := by simp
      have ecat : B.length + mn.enc.length ≤ 4611686018427387904 := by omega
      repeat (first | ((first | refine WL_Q ?_ | refine WL_Y ?_ | refine WR_Q rfl ?_ | refine WR_late rfl rfl rfl (OW_Q ?_) | refine WR_Y rfl ?_); (first | refine QW_a ?_)) | ((first | refine WL_op rfl ?_ | refine WL_yes (h := ?_) | refine WR_late rfl rfl rfl ?_ | refine WR_opG rfl rfl ?_ | refine WR_opYG rfl (h := ?_)); (first | refine OW_box rfl (hk := fun _ => ?_) | refine OW_stA rfl ?_ | refine OW_stN rfl ?_ | refine OW_st1 rfl ?_ | refine OW_alloc rfl (hk := fun _ => ?_) | refine OW_callP rfl (hF := works03_fn (by repeat (first | with_reducible assumption | apply HandleIn.cons))) (hk := ?_) | (refine OW_call rfl (hF := few_fn hM _) (hk := ?_); rintro _ _ ⟨cs2, rfl, rfl, hM2⟩) | (refine OW_call rfl (hF := PMsg_at (by repeat (first | with_reducible assumption | apply MsgAt.cons)) (by repeat (first | with_reducible assumption | apply ByAt.cons)) n12 n70 hB9) (hk := ?_); rintro _ _ ⟨b1, off1, cap1, cur1, rfl, rfl, ho1⟩) | refine OW_callP rfl (hF := rMsg_at (by repeat (first | with_reducible assumption | apply MsgAt.cons)) n12 n71) (hk := ?_)); try refine ⟨(by first | exact fun _ h => h | exact sub_mem (by repeat (first | exact .refl _ | exact List.nil_sublist _ | exact List.sublist_append_right _ _ | apply List.Sublist.cons_cons | apply List.Sublist.cons))), ?_⟩) | refine WL_nil ?_ | refine WL_un (h := ?_) | refine WL_N ?_ | refine WL_M ?_ | refine WR_nil ?_ | refine WR_un rfl (hk := ?_) | refine WR_N rfl ?_ | refine WR_M rfl ?_ | refine WC_seq ?_ | refine WC_block ?_ | refine WC_cond_t (ht := ?_) | refine WC_cond_f (he := ?_) | refine WC_skip ?_ | refine WC_ret ?_ | refine WC_exit ?_ | refine WC_draw_all (id := 1) 8 (.calm 0 <| .calm 1 <| .calm 2 <| .calm 3 <| .calm 4 <| .calm 5 <| .must 6 <| .calm 7 <| .must 8 <| .done) mixed (by kernel_rfl) ?_ | refine WC_draw_all (id := 7) 9 (.calm 0 <| .calm 1 <| .calm 4 <| .calm 5 <| .must 2 <| .calm 3 <| .must 6 <| .calm 7 <| .calm 8 <| .done) mixed (by kernel_rfl) ?_ | refine WC_draw_fast (id := 12) 97 (.calm 0 <| .calm 1 <| .calm 4 <| .calm 5 <| .must 2 <| .calm 3 <| .must 6 <| .calm 7 <| .calm 8 <| .calm 9 <| .calm 10 <| .calm 11 <| .calm 12 <| .calm 15 <| .calm 16 <| .calm 17 <| .must 13 <| .calm 14 <| .must 18 <| .calm 19 <| .calm 20 <| .calm 21 <| .calm 22 <| .calm 23 <| .calm 24 <| .calm 25 <| .calm 28 <| .calm 29 <| .calm 30 <| .must 26 <| .calm 27 <| .must 31 <| .calm 32 <| .calm 33 <| .calm 34 <| .calm 35 <| .calm 36 <| .calm 37 <| .calm 38 <| .calm 39 <| .calm 42 <| .calm 43 <| .calm 44 <| .calm 45 <| .must 40 <| .calm 41 <| .must 46 <| .calm 47 <| .calm 48 <| .calm 49 <| .calm 50 <| .calm 51 <| .calm 52 <| .calm 55 <| .calm 56 <| .must 53 <| .calm 54 <| .must 57 <| .calm 58 <| .calm 59 <| .calm 60 <| .calm 61 <| .calm 62 <| .calm 63 <| .calm 64 <| .calm 67 <| .calm 68 <| .calm 69 <| .must 65 <| .calm 66 <| .must 70 <| .calm 71 <| .calm 72 <| .calm 73 <| .calm 74 <| .calm 75 <| .calm 76 <| .calm 77 <| .calm 80 <| .calm 81 <| .calm 82 <| .must 78 <| .calm 79 <| .must 83 <| .calm 84 <| .calm 85 <| .calm 86 <| .calm 87 <| .calm 88 <| .calm 89 <| .calm 90 <| .calm 91 <| .calm 92 <| .calm 93 <| .must 94 <| .calm 95 <| .calm 96 <| .done) mixed (by kernel_rfl) ?_ | refine WC_region ?_ | (refine WR_skN rfl (h := ?_)) | (refine WR_skM rfl (h := ?_)) | (refine WR_skU rfl (h := ?_)))
      rw [hwk]
      exact ⟨_, _, by omega, ⟨k + 1, _, mn, rfl, by omega, by omega, hMn, by rw [hmn]; exact hb12, by rw [hmn]; exact he70, rfl⟩, ⟨rfl, rfl, rfl, rfl, rfl, trivial⟩, rfl, .cons _ (.refl _)⟩
    · have d1 : decide (k ≤ 5) = false := decide_eq_false hk
      repeat (first | ((first | refine WL_Q ?_ | refine WL_Y ?_ | refine WR_Q rfl ?_ | refine WR_late rfl rfl rfl (OW_Q ?_) | refine WR_Y rfl ?_); (first | refine QW_a ?_)) | ((first | refine WL_op rfl ?_ | refine WL_yes (h := ?_) | refine WR_late rfl rfl rfl ?_ | refine WR_opG rfl rfl ?_ | refine WR_opYG rfl (h := ?_)); (first | refine OW_box rfl (hk := fun _ => ?_) | refine OW_stA rfl ?_ | refine OW_stN rfl ?_ | refine OW_st1 rfl ?_ | refine OW_alloc rfl (hk := fun _ => ?_) | refine OW_callP rfl (hF := works03_fn (by repeat (first | with_reducible assumption | apply HandleIn.cons))) (hk := ?_) | (refine OW_call rfl (hF := few_fn hM _) (hk := ?_); rintro _ _ ⟨cs2, rfl, rfl, hM2⟩) | (refine OW_call rfl (hF := PMsg_at (by repeat (first | with_reducible assumption | apply MsgAt.cons)) (by repeat (first | with_reducible assumption | apply ByAt.cons)) n12 n70 hB9) (hk := ?_); rintro _ _ ⟨b1, off1, cap1, cur1, rfl, rfl, ho1⟩) | refine OW_callP rfl (hF := rMsg_at (by repeat (first | with_reducible assumption | apply MsgAt.cons)) n12 n71) (hk := ?_)); try refine ⟨(by first | exact fun _ h => h | exact sub_mem (by repeat (first | exact .refl _ | exact List.nil_sublist _ | exact List.sublist_append_right _ _ | apply List.Sublist.cons_cons | apply List.Sublist.cons))), ?_⟩) | refine WL_nil ?_ | refine WL_un (h := ?_) | refine WL_N ?_ | refine WL_M ?_ | refine WR_nil ?_ | refine WR_un rfl (hk := ?_) | refine WR_N rfl ?_ | refine WR_M rfl ?_ | refine WC_seq ?_ | refine WC_block ?_ | refine WC_cond_t (ht := ?_) | refine WC_cond_f (he := ?_) | refine WC_skip ?_ | refine WC_ret ?_ | refine WC_exit ?_ | refine WC_draw_all (id := 1) 8 (.calm 0 <| .calm 1 <| .calm 2 <| .calm 3 <| .calm 4 <| .calm 5 <| .must 6 <| .calm 7 <| .must 8 <| .done) mixed (by kernel_rfl) ?_ | refine WC_draw_all (id := 7) 9 (.calm 0 <| .calm 1 <| .calm 4 <| .calm 5 <| .must 2 <| .calm 3 <| .must 6 <| .calm 7 <| .calm 8 <| .done) mixed (by kernel_rfl) ?_ | refine WC_draw_fast (id := 12) 97 (.calm 0 <| .calm 1 <| .calm 4 <| .calm 5 <| .must 2 <| .calm 3 <| .must 6 <| .calm 7 <| .calm 8 <| .calm 9 <| .calm 10 <| .calm 11 <| .calm 12 <| .calm 15 <| .calm 16 <| .calm 17 <| .must 13 <| .calm 14 <| .must 18 <| .calm 19 <| .calm 20 <| .calm 21 <| .calm 22 <| .calm 23 <| .calm 24 <| .calm 25 <| .calm 28 <| .calm 29 <| .calm 30 <| .must 26 <| .calm 27 <| .must 31 <| .calm 32 <| .calm 33 <| .calm 34 <| .calm 35 <| .calm 36 <| .calm 37 <| .calm 38 <| .calm 39 <| .calm 42 <| .calm 43 <| .calm 44 <| .calm 45 <| .must 40 <| .calm 41 <| .must 46 <| .calm 47 <| .calm 48 <| .calm 49 <| .calm 50 <| .calm 51 <| .calm 52 <| .calm 55 <| .calm 56 <| .must 53 <| .calm 54 <| .must 57 <| .calm 58 <| .calm 59 <| .calm 60 <| .calm 61 <| .calm 62 <| .calm 63 <| .calm 64 <| .calm 67 <| .calm 68 <| .calm 69 <| .must 65 <| .calm 66 <| .must 70 <| .calm 71 <| .calm 72 <| .calm 73 <| .calm 74 <| .calm 75 <| .calm 76 <| .calm 77 <| .calm 80 <| .calm 81 <| .calm 82 <| .must 78 <| .calm 79 <| .must 83 <| .calm 84 <| .calm 85 <| .calm 86 <| .calm 87 <| .calm 88 <| .calm 89 <| .calm 90 <| .calm 91 <| .calm 92 <| .calm 93 <| .must 94 <| .calm 95 <| .calm 96 <| .done) mixed (by kernel_rfl) ?_ | refine WC_region ?_ | (refine WR_skN rfl (h := ?_)) | (refine WR_skM rfl (h := ?_)) | (refine WR_skU rfl (h := ?_)))
      exact ⟨_, ⟨ck, mk, hMk, hb12, he70, rfl⟩, ⟨rfl, rfl, rfl, rfl, trivial⟩, rfl, .refl _⟩
  rintro _ ⟨ck, mk, hMk, hb12, he70, rfl⟩
  obtain ⟨g0, g1, g2, g3, g4, g5, g6⟩ := MV.cells_at hMk.ok hMk.lies
  simp only [Nat.zero_add] at g0 g1 g2 g3 g4 g5 g6
  have l2 := hMk.ok.ch.len
  have l3 := hMk.ok.ct.len
  have l4 := hMk.ok.kh.len
  simp only [List.length_cons, List.length_nil] at l2 l3 l4
  have hzk := hMk.size
  have s23 : ck[20 + 3]? = some (.slice a' mk.ents.length cap') := g6 3 (.slice a' mk.ents.length cap') (by rw [List.getElem?_append_right (by omega), l4]; rfl)
  repeat (first | ((first | refine WL_Q ?_ | refine WL_Y ?_ | refine WR_Q rfl ?_ | refine WR_late rfl rfl rfl (OW_Q ?_) | refine WR_Y rfl ?_); (first | refine QW_a ?_)) | ((first | refine WL_op rfl ?_ | refine WL_yes (h := ?_) | refine WR_late rfl rfl rfl ?_ | refine WR_opG rfl rfl ?_ | refine WR_opYG rfl (h := ?_)); (first | refine OW_box rfl (hk := fun _ => ?_) | refine OW_stA rfl ?_ | refine OW_stN rfl ?_ | refine OW_st1 rfl ?_ | refine OW_alloc rfl (hk := fun _ => ?_) | refine OW_callP rfl (hF := works03_fn (by repeat (first | with_reducible assumption | apply HandleIn.cons))) (hk := ?_) | (refine OW_call rfl (hF := few_fn hM _) (hk := ?_); rintro _ _ ⟨cs2, rfl, rfl, hM2⟩) | (refine OW_call rfl (hF := PMsg_at (by repeat (first | with_reducible assumption | apply MsgAt.cons)) (by repeat (first | with_reducible assumption | apply ByAt.cons)) n12 n70 hB9) (hk := ?_); rintro _ _ ⟨b1, off1, cap1, cur1, rfl, rfl, ho1⟩) | refine OW_callP rfl (hF := rMsg_at (by repeat (first | with_reducible assumption | apply MsgAt.cons)) n12 n71) (hk := ?_)); try refine ⟨(by first | exact fun _ h => h | exact sub_mem (by repeat (first | exact .refl _ | exact List.nil_sublist _ | exact List.sublist_append_right _ _ | apply List.Sublist.cons_cons | apply List.Sublist.cons))), ?_⟩) | refine WL_nil ?_ | refine WL_un (h := ?_) | refine WL_N ?_ | refine WL_M ?_ | refine WR_nil ?_ | refine WR_un rfl (hk := ?_) | refine WR_N rfl ?_ | refine WR_M rfl ?_ | refine WC_seq ?_ | refine WC_block ?_ | refine WC_cond_t (ht := ?_) | refine WC_cond_f (he := ?_) | refine WC_skip ?_ | refine WC_ret ?_ | refine WC_exit ?_ | refine WC_draw_all (id := 1) 8 (.calm 0 <| .calm 1 <| .calm 2 <| .calm 3 <| .calm 4 <| .calm 5 <| .must 6 <| .calm 7 <| .must 8 <| .done) mixed (by kernel_rfl) ?_ | refine WC_draw_all (id := 7) 9 (.calm 0 <| .calm 1 <| .calm 4 <| .calm 5 <| .must 2 <| .calm 3 <| .must 6 <| .calm 7 <| .calm 8 <| .done) mixed (by kernel_rfl) ?_ | refine WC_draw_fast (id := 12) 97 (.calm 0 <| .calm 1 <| .calm 4 <| .calm 5 <| .must 2 <| .calm 3 <| .must 6 <| .calm 7 <| .calm 8 <| .calm 9 <| .calm 10 <| .calm 11 <| .calm 12 <| .calm 15 <| .calm 16 <| .calm 17 <| .must 13 <| .calm 14 <| .must 18 <| .calm 19 <| .calm 20 <| .calm 21 <| .calm 22 <| .calm 23 <| .calm 24 <| .calm 25 <| .calm 28 <| .calm 29 <| .calm 30 <| .must 26 <| .calm 27 <| .must 31 <| .calm 32 <| .calm 33 <| .calm 34 <| .calm 35 <| .calm 36 <| .calm 37 <| .calm 38 <| .calm 39 <| .calm 42 <| .calm 43 <| .calm 44 <| .calm 45 <| .must 40 <| .calm 41 <| .must 46 <| .calm 47 <| .calm 48 <| .calm 49 <| .calm 50 <| .calm 51 <| .calm 52 <| .calm 55 <| .calm 56 <| .must 53 <| .calm 54 <| .must 57 <| .calm 58 <| .calm 59 <| .calm 60 <| .calm 61 <| .calm 62 <| .calm 63 <| .calm 64 <| .calm 67 <| .calm 68 <| .calm 69 <| .must 65 <| .calm 66 <| .must 70 <| .calm 71 <| .calm 72 <| .calm 73 <| .calm 74 <| .calm 75 <| .calm 76 <| .calm 77 <| .calm 80 <| .calm 81 <| .calm 82 <| .must 78 <| .calm 79 <| .must 83 <| .calm 84 <| .calm 85 <| .calm 86 <| .calm 87 <| .calm 88 <| .calm 89 <| .calm 90 <| .calm 91 <| .calm 92 <| .calm 93 <| .must 94 <| .calm 95 <| .calm 96 <| .done) mixed (by kernel_rfl) ?_ | refine WC_region (id := 0) ?_ | refine WC_region (id := 2) ?_ | refine WC_region (id := 3) ?_ | refine WC_region (id := 4) ?_ | refine WC_region (id := 6) ?_ | refine WC_region (id := 8) ?_ | refine WC_region (id := 5) ?_ | refine WC_region (id := 9) ?_ | refine WC_region (id := 11) ?_ | (refine WR_skN rfl (h := ?_)) | (refine WR_skM rfl (h := ?_)) | (refine WR_skU rfl (h := ?_)))
  rename_i x9
  refine WC_meet2 (fun σ => ∃ ec ve, ec.size = 10 ∧ Oks entryF ve ∧ Lies ec 0 ve ∧ σ = ⟨[(9, .pointer (some ⟨x9, 0, none⟩)), (0, .slice ba B.length bcap), (7, .string (bstr B)), (5, .pointer (some ⟨x5, 0, none⟩)), (4, .pointer (some ⟨x4, 0, none⟩))], [], (x9, .cells ec 45 (0, 0)) :: (x5, .cells xs 37 (0, 0)) :: (x4, .cells ck 35 (0, 0)) :: L⟩) ?_ ?_
  · by_cases hne : 0 < mk.ents.length
    · have d1 : decide (((mk.ents.length : Nat) : Int) > 0) = true := decide_eq_true (by omega)
      rcases hMk.ents with he | ⟨be, eo, ie, ec, EE, ef, ha, hRe, hat⟩
      · rw [he] at hne; simp at hne
      obtain ⟨vs, hvs⟩ : ∃ vs, mk.ents[0]? = some vs := ⟨_, List.getElem?_eq_getElem hne⟩
      obtain ⟨hle, _⟩ := hat 0 vs hvs
      have hov := hMk.ok.ents vs (List.mem_of_getElem? hvs)
      have hvl : vs.length = 10 := hov.len
      have hle' : Lies ec (eo + Int.toNat 0 * 10) vs := hle
      have hfit : eo + Int.toNat 0 * 10 + 10 ≤ ec.size := by have := lies_size hle' (by omega); rwa [hvl] at this
      have hzE := size_extract hfit
      have hlE := lies_extract hle' (n := 10) (by omega)
      have hoE : ((ec.extract (eo + Int.toNat 0 * 10) (eo + Int.toNat 0 * 10 + 10)).toList.all fun v => v.oneCell') = true := by
        rw [lies_whole hlE (by rw [hzE, hvl]), List.all_eq_true]
        intro v hv
        exact oks_one hov v (by simpa using hv)
      have i1 : (0 : Int) < ((mk.ents.length : Nat) : Int) := by omega
      subst ha
      have hXe : ((x9, Obj.cells zc45 45 (0, 0)) :: (x5, Obj.cells xs 37 (0, 0)) :: (x4, Obj.cells ck 35 (0, 0)) :: L)[ie + 3]? = some (be, .cells ec EE ef) := hRe
      repeat (first | ((first | refine WL_Q ?_ | refine WL_Y ?_ | refine WR_Q rfl ?_ | refine WR_late rfl rfl rfl (OW_Q ?_) | refine WR_Y rfl ?_); (first | refine QW_a ?_)) | ((first | refine WL_op rfl ?_ | refine WL_yes (h := ?_) | refine WR_late rfl rfl rfl ?_ | refine WR_opG rfl rfl ?_ | refine WR_opYG rfl (h := ?_)); (first | refine OW_box rfl (hk := fun _ => ?_) | refine OW_stA rfl ?_ | refine OW_stN rfl ?_ | refine OW_st1 rfl ?_ | refine OW_alloc rfl (hk := fun _ => ?_) | refine OW_callP rfl (hF := works03_fn (by repeat (first | with_reducible assumption | apply HandleIn.cons))) (hk := ?_) | (refine OW_call rfl (hF := few_fn hM _) (hk := ?_); rintro _ _ ⟨cs2, rfl, rfl, hM2⟩) | (refine OW_call rfl (hF := PMsg_at (by repeat (first | with_reducible assumption | apply MsgAt.cons)) (by repeat (first | with_reducible assumption | apply ByAt.cons)) n12 n70 hB9) (hk := ?_); rintro _ _ ⟨b1, off1, cap1, cur1, rfl, rfl, ho1⟩) | refine OW_callP rfl (hF := rMsg_at (by repeat (first | with_reducible assumption | apply MsgAt.cons)) n12 n71) (hk := ?_)); try refine ⟨(by first | exact fun _ h => h | exact sub_mem (by repeat (first | exact .refl _ | exact List.nil_sublist _ | exact List.sublist_append_right _ _ | apply List.Sublist.cons_cons | apply List.Sublist.cons))), ?_⟩) | refine WL_nil ?_ | refine WL_un (h := ?_) | refine WL_N ?_ | refine WL_M ?_ | refine WR_nil ?_ | refine WR_un rfl (hk := ?_) | refine WR_N rfl ?_ | refine WR_M rfl ?_ | refine WC_seq ?_ | refine WC_block ?_ | refine WC_cond_t (ht := ?_) | refine WC_cond_f (he := ?_) | refine WC_skip ?_ | refine WC_ret ?_ | refine WC_exit ?_ | refine WC_draw_all (id := 1) 8 (.calm 0 <| .calm 1 <| .calm 2 <| .calm 3 <| .calm 4 <| .calm 5 <| .must 6 <| .calm 7 <| .must 8 <| .done) mixed (by kernel_rfl) ?_ | refine WC_draw_all (id := 7) 9 (.calm 0 <| .calm 1 <| .calm 4 <| .calm 5 <| .must 2 <| .calm 3 <| .must 6 <| .calm 7 <| .calm 8 <| .done) mixed (by kernel_rfl) ?_ | refine WC_region (id := 0) ?_ | refine WC_region (id := 2) ?_ | refine WC_region (id := 3) ?_ | refine WC_region (id := 4) ?_ | refine WC_region (id := 6) ?_ | refine WC_region (id := 8) ?_ | refine WC_region (id := 5) ?_ | refine WC_region (id := 9) ?_ | refine WC_region (id := 10) ?_ | refine WC_region (id := 11) ?_ | (refine WR_skN rfl (h := ?_)) | (refine WR_skM rfl (h := ?_)) | (refine WR_skU rfl (h := ?_)))
      exact ⟨_, ⟨_, vs, hzE, hov, hlE, rfl⟩, ⟨rfl, rfl, rfl, rfl, rfl, trivial⟩, rfl, .refl _⟩
    · have d1 : decide (((mk.ents.length : Nat) : Int) > 0) = false := decide_eq_false (by omega)
      repeat (first | ((first | refine WL_Q ?_ | refine WL_Y ?_ | refine WR_Q rfl ?_ | refine WR_late rfl rfl rfl (OW_Q ?_) | refine WR_Y rfl ?_); (first | refine QW_a ?_)) | ((first | refine WL_op rfl ?_ | refine WL_yes (h := ?_) | refine WR_late rfl rfl rfl ?_ | refine WR_opG rfl rfl ?_ | refine WR_opYG rfl (h := ?_)); (first | refine OW_box rfl (hk := fun _ => ?_) | refine OW_stA rfl ?_ | refine OW_stN rfl ?_ | refine OW_st1 rfl ?_ | refine OW_alloc rfl (hk := fun _ => ?_) | refine OW_callP rfl (hF := works03_fn (by repeat (first | with_reducible assumption | apply HandleIn.cons))) (hk := ?_) | (refine OW_call rfl (hF := few_fn hM _) (hk := ?_); rintro _ _ ⟨cs2, rfl, rfl, hM2⟩) | (refine OW_call rfl (hF := PMsg_at (by repeat (first | with_reducible assumption | apply MsgAt.cons)) (by repeat (first | with_reducible assumption | apply ByAt.cons)) n12 n70 hB9) (hk := ?_); rintro _ _ ⟨b1, off1, cap1, cur1, rfl, rfl, ho1⟩) | refine OW_callP rfl (hF := rMsg_at (by repeat (first | with_reducible assumption | apply MsgAt.cons)) n12 n71) (hk := ?_)); try refine ⟨(by first | exact fun _ h => h | exact sub_mem (by repeat (first | exact .refl _ | exact List.nil_sublist _ | exact List.sublist_append_right _ _ | apply List.Sublist.cons_cons | apply List.Sublist.cons))), ?_⟩) | refine WL_nil ?_ | refine WL_un (h := ?_) | refine WL_N ?_ | refine WL_M ?_ | refine WR_nil ?_ | refine WR_un rfl (hk := ?_) | refine WR_N rfl ?_ | refine WR_M rfl ?_ | refine WC_seq ?_ | refine WC_block ?_ | refine WC_cond_t (ht := ?_) | refine WC_cond_f (he := ?_) | refine WC_skip ?_ | refine WC_ret ?_ | refine WC_exit ?_ | refine WC_draw_all (id := 1) 8 (.calm 0 <| .calm 1 <| .calm 2 <| .calm 3 <| .calm 4 <| .calm 5 <| .must 6 <| .calm 7 <| .must 8 <| .done) mixed (by kernel_rfl) ?_ | refine WC_draw_all (id := 7) 9 (.calm 0 <| .calm 1 <| .calm 4 <| .calm 5 <| .must 2 <| .calm 3 <| .must 6 <| .calm 7 <| .calm 8 <| .done) mixed (by kernel_rfl) ?_ | refine WC_region (id := 0) ?_ | refine WC_region (id := 2) ?_ | refine WC_region (id := 3) ?_ | refine WC_region (id := 4) ?_ | refine WC_region (id := 6) ?_ | refine WC_region (id := 8) ?_ | refine WC_region (id := 5) ?_ | refine WC_region (id := 9) ?_ | refine WC_region (id := 10) ?_ | refine WC_region (id := 11) ?_ | (refine WR_skN rfl (h := ?_)) | (refine WR_skM rfl (h := ?_)) | (refine WR_skU rfl (h := ?_)))
      exact ⟨_, ⟨_, zEntry, rfl, zEntry_ok, lies_of rfl, rfl⟩, ⟨rfl, rfl, rfl, rfl, rfl, trivial⟩, rfl, .refl _⟩
  rintro _ ⟨ec, ve, hze, hve, hle, rfl⟩
  have hB9 : B.length ≤ 900000000 := by omega
  have n12 : mk.bins.length ≤ 1000000 := by omega
  have n70 : mk.ents.length ≤ 100000 := by omega
  have n71 : mk.ents.length ≤ 1000000 := by omega
  have hch := hMk.ok.ch
  have hct := hMk.ok.ct
  have hkh := hMk.ok.kh
  have hbi := hMk.ok.bins
  have hen := hMk.ok.ents
  have hEb := hMk.bins
  have hEe := hMk.ents
  have z5 : (ck.extract 10 (10 + 10)).size = 10 := size_extract (by omega)
  have z6 : (ck.extract 20 (20 + 4)).size = 4 := size_extract (by omega)
  have zo : (ck.extract (10 + 5) (10 + 5 + 4)).size = 4 := size_extract (by omega)
  have za : (ec.extract 5 (5 + 5)).size = 5 := size_extract (by omega)
  have zr : (xs.extract 2 (2 + 6)).size = 6 := size_extract (by omega)
  have s5 : Lies (ck.extract 10 (10 + 10)) 0 (mk.ch ++ (.slice a mk.bins.length cap :: mk.ct)) := lies_extract g5 (by simp only [List.length_append, List.length_cons]; omega)
  have s6 : Lies (ck.extract 20 (20 + 4)) 0 (mk.kh ++ [.slice a' mk.ents.length cap']) := lies_extract g6 (by simp only [List.length_append, List.length_cons, List.length_nil]; omega)
  have hop : Oks opF ((mk.ct.drop 2).take 4) := hct.cut 2 4
  have hac : Oks accF ((ve.drop 5).take 5) := hve.cut 5 5
  have hrc : Oks recF ((vx.drop 2).take 6) := hvx.cut 2 6
  have so : Lies (ck.extract (10 + 5) (10 + 5 + 4)) 0 ((mk.ct.drop 2).take 4) := by
    have h1 := (Lies.app g5).2
    rw [l2] at h1
    exact lies_extract (h1.cons.2.cut 2 4) (by rw [List.length_take]; omega)
  have sa : Lies (ec.extract 5 (5 + 5)) 0 ((ve.drop 5).take 5) := lies_extract (by have h := hle.cut 5 5; rwa [Nat.zero_add] at h) (by rw [List.length_take]; omega)
  have sr : Lies (xs.extract 2 (2 + 6)) 0 ((vx.drop 2).take 6) := lies_extract (by have h := hlx.cut 2 6; rwa [Nat.zero_add] at h) (by rw [List.length_take]; omega)
  have b1 := encs_len hvx
  have b2 := encs_len hrc
  have b3 : (encCmd mk.ch mk.bins mk.ct).length ≤ 200 + 10 * mk.bins.length := by
    have h1 := encs_len hch
    have h2 := encl_len hbi n12
    have h3 := encs_len hct
    rw [show binF.length = 1 from rfl] at h2
    simp only [List.length_cons, List.length_nil] at h1 h3
    unfold encCmd
    rw [List.length_append, List.length_append]; omega
  have b4 := encs_len hop
  have b5 := encs_len hve
  have b6 := encs_len hac
  have b7 : (encChunk mk.kh mk.ents).length ≤ 200 + 100 * mk.ents.length := by
    have h1 := encs_len hkh
    have h2 := encl_len hen n71
    rw [show entryF.length = 10 from rfl] at h2
    simp only [List.length_cons, List.length_nil] at h1
    unfold encChunk
    rw [List.length_append]; omega
  simp only [List.length_cons, List.length_nil] at b1 b2 b4 b5 b6
  have c1 : B.length + (encs itemF vx).length ≤ 4611686018427387904 := by omega
  have c2 : B.length + (encs recF ((vx.drop 2).take 6)).length ≤ 4611686018427387904 := by omega
  have c3 : B.length + (encCmd mk.ch mk.bins mk.ct).length ≤ 4611686018427387904 := by omega
  have c4 : B.length + (encs opF ((mk.ct.drop 2).take 4)).length ≤ 4611686018427387904 := by omega
  have c5 : B.length + (encs entryF ve).length ≤ 4611686018427387904 := by omega
  have c6 : B.length + (encs accF ((ve.drop 5).take 5)).length ≤ 4611686018427387904 := by omega
  have c7 : B.length + (encChunk mk.kh mk.ents).length ≤ 4611686018427387904 := by omega
  have q1 : (B ++ encs itemF vx == B ++ encs itemF vx) = true := beq_self_eq_true _
  have q2 : (B ++ encs recF ((vx.drop 2).take 6) == B ++ encs recF ((vx.drop 2).take 6)) = true := beq_self_eq_true _
  have q3 : (B ++ encCmd mk.ch mk.bins mk.ct == B ++ encCmd mk.ch mk.bins mk.ct) = true := beq_self_eq_true _
  have q4 : (B ++ encs opF ((mk.ct.drop 2).take 4) == B ++ encs opF ((mk.ct.drop 2).take 4)) = true := beq_self_eq_true _
  have q5 : (B ++ encs entryF ve == B ++ encs entryF ve) = true := beq_self_eq_true _
  have q6 : (B ++ encs accF ((ve.drop 5).take 5) == B ++ encs accF ((ve.drop 5).take 5)) = true := beq_self_eq_true _
  have q7 : (B ++ encChunk mk.kh mk.ents == B ++ encChunk mk.kh mk.ents) = true := beq_self_eq_true _
  have q8 : (B == B) = true := beq_self_eq_true _
  clear b1 b2 b3 b4 b5 b6 b7
  repeat (first | ((first | refine WL_Q ?_ | refine WL_Y ?_ | refine WR_Q rfl ?_ | refine WR_late rfl rfl rfl (OW_Q ?_) | refine WR_Y rfl ?_); (first | refine QW_a ?_)) | ((first | refine WL_op rfl ?_ | refine WL_yes (h := ?_) | refine WR_late rfl rfl rfl ?_ | refine WR_opG rfl rfl ?_ | refine WR_opYG rfl (h := ?_)); (first | refine OW_box rfl (hk := fun _ => ?_) | refine OW_stA rfl ?_ | refine OW_stN rfl ?_ | refine OW_st1 rfl ?_ | refine OW_alloc rfl (hk := fun _ => ?_) | refine OW_callP rfl (hF := works03_fn (by repeat (first | with_reducible assumption | apply HandleIn.cons))) (hk := ?_) | (refine OW_call rfl (hF := few_fn hM _) (hk := ?_); rintro _ _ ⟨cs2, rfl, rfl, hM2⟩) | (refine OW_call rfl (hF := PMsg_at (by repeat (first | with_reducible assumption | apply MsgAt.cons)) (by repeat (first | with_reducible assumption | apply ByAt.cons)) n12 n70 hB9) (hk := ?_); rintro _ _ ⟨b1, off1, cap1, cur1, rfl, rfl, ho1⟩) | refine OW_callP rfl (hF := rMsg_at (by repeat (first | with_reducible assumption | apply MsgAt.cons)) n12 n71) (hk := ?_) | (refine OW_call rfl (hF := PItem_fn (by repeat (first | with_reducible assumption | apply ByAt.cons)) hzx hvx hlx hB9) (hk := ?_); rintro _ _ ⟨b1, off1, cap1, cur1, rfl, rfl, ho1⟩) | (refine OW_call rfl (hF := PRec_fn (by repeat (first | with_reducible assumption | apply ByAt.cons)) zr hrc sr hB9) (hk := ?_); rintro _ _ ⟨b1, off1, cap1, cur1, rfl, rfl, ho1⟩) | (refine OW_call rfl (hF := PCmd_fn (by repeat (first | with_reducible assumption | apply ByAt.cons)) z5 n12 hch hct hbi s5 (by repeat (first | with_reducible assumption | apply Elems.cons)) hB9) (hk := ?_); rintro _ _ ⟨b1, off1, cap1, cur1, rfl, rfl, ho1⟩) | (refine OW_call rfl (hF := POp_fn (by repeat (first | with_reducible assumption | apply ByAt.cons)) zo hop so hB9) (hk := ?_); rintro _ _ ⟨b1, off1, cap1, cur1, rfl, rfl, ho1⟩) | (refine OW_call rfl (hF := PEntry_fn (by repeat (first | with_reducible assumption | apply ByAt.cons)) hze hve hle hB9) (hk := ?_); rintro _ _ ⟨b1, off1, cap1, cur1, rfl, rfl, ho1⟩) | (refine OW_call rfl (hF := PAcc_fn (by repeat (first | with_reducible assumption | apply ByAt.cons)) za hac sa hB9) (hk := ?_); rintro _ _ ⟨b1, off1, cap1, cur1, rfl, rfl, ho1⟩) | (refine OW_call rfl (hF := PChunk_fn (by repeat (first | with_reducible assumption | apply ByAt.cons)) z6 n70 hkh hen s6 (by repeat (first | with_reducible assumption | apply Elems.cons)) hB9) (hk := ?_); rintro _ _ ⟨b1, off1, cap1, cur1, rfl, rfl, ho1⟩) | refine OW_callP rfl (hF := rItem_fn hzx hvx hlx) (hk := ?_) | refine OW_callP rfl (hF := rRec_fn hrc sr) (hk := ?_) | refine OW_callP rfl (hF := rCmd_fn z5 n12 hch hct hbi s5 (by repeat (first | with_reducible assumption | apply Elems.cons))) (hk := ?_) | refine OW_callP rfl (hF := rOp_fn hop so) (hk := ?_) | refine OW_callP rfl (hF := rEntry_fn hze hve hle) (hk := ?_) | refine OW_callP rfl (hF := rAcc_fn hac sa) (hk := ?_) | refine OW_callP rfl (hF := rChunk_fn n71 hkh hen s6 (by repeat (first | with_reducible assumption | apply Elems.cons))) (hk := ?_)); try refine ⟨(by first | exact fun _ h => h | exact sub_mem (by repeat (first | exact .refl _ | exact List.nil_sublist _ | exact List.sublist_append_right _ _ | apply List.Sublist.cons_cons | apply List.Sublist.cons))), ?_⟩) | refine WL_nil ?_ | refine WL_un (h := ?_) | refine WL_N ?_ | refine WL_M ?_ | refine WR_nil ?_ | refine WR_un rfl (hk := ?_) | refine WR_N rfl ?_ | refine WR_M rfl ?_ | refine WC_seq ?_ | refine WC_block ?_ | refine WC_cond_t (ht := ?_) | refine WC_cond_f (he := ?_) | refine WC_skip ?_ | refine WC_ret ?_ | refine WC_exit ?_ | refine WC_draw_all (id := 1) 8 (.calm 0 <| .calm 1 <| .calm 2 <| .calm 3 <| .calm 4 <| .calm 5 <| .must 6 <| .calm 7 <| .must 8 <| .done) mixed (by kernel_rfl) ?_ | refine WC_draw_all (id := 7) 9 (.calm 0 <| .calm 1 <| .calm 4 <| .calm 5 <| .must 2 <| .calm 3 <| .must 6 <| .calm 7 <| .calm 8 <| .done) mixed (by kernel_rfl) ?_ | refine WC_draw_fast (id := 12) 97 (.calm 0 <| .calm 1 <| .calm 4 <| .calm 5 <| .must 2 <| .calm 3 <| .must 6 <| .calm 7 <| .calm 8 <| .calm 9 <| .calm 10 <| .calm 11 <| .calm 12 <| .calm 15 <| .calm 16 <| .calm 17 <| .must 13 <| .calm 14 <| .must 18 <| .calm 19 <| .calm 20 <| .calm 21 <| .calm 22 <| .calm 23 <| .calm 24 <| .calm 25 <| .calm 28 <| .calm 29 <| .calm 30 <| .must 26 <| .calm 27 <| .must 31 <| .calm 32 <| .calm 33 <| .calm 34 <| .calm 35 <| .calm 36 <| .calm 37 <| .calm 38 <| .calm 39 <| .calm 42 <| .calm 43 <| .calm 44 <| .calm 45 <| .must 40 <| .calm 41 <| .must 46 <| .calm 47 <| .calm 48 <| .calm 49 <| .calm 50 <| .calm 51 <| .calm 52 <| .calm 55 <| .calm 56 <| .must 53 <| .calm 54 <| .must 57 <| .calm 58 <| .calm 59 <| .calm 60 <| .calm 61 <| .calm 62 <| .calm 63 <| .calm 64 <| .calm 67 <| .calm 68 <| .calm 69 <| .must 65 <| .calm 66 <| .must 70 <| .calm 71 <| .calm 72 <| .calm 73 <| .calm 74 <| .calm 75 <| .calm 76 <| .calm 77 <| .calm 80 <| .calm 81 <| .calm 82 <| .must 78 <| .calm 79 <| .must 83 <| .calm 84 <| .calm 85 <| .calm 86 <| .calm 87 <| .calm 88 <| .calm 89 <| .calm 90 <| .calm 91 <| .calm 92 <| .calm 93 <| .must 94 <| .calm 95 <| .calm 96 <| .done) mixed (by kernel_rfl) ?_ | refine WC_region ?_ | (refine WR_skN rfl (h := ?_)) | (refine WR_skM rfl (h := ?_)) | (refine WR_skU rfl (h := ?_)))
  refine ⟨rfl, _, L, Res1 rfl (resV_tmp rfl), ?_, rfl, rfl⟩
  repeat (first | exact List.Sublist.refl _ | apply List.Sublist.cons)
end Go.Proofs.YtakedlockchpcaaGreatDoor
namespace Go.Proofs.YtakedlockchpcaaGreatDoor
open Go.ChangeShapes Go.WideShapes Go.ChangeAt Go.RowKit
theorem ownOf : ownKnob Tryz.prog.godebug = none := by kernel_rfl
theorem laidOf : laidOutB Tryz.prog = true := by kernel_rfl
def allL (W : World) : List (Nat × Obj) := W.heap.toList.zipIdx.map fun p => (p.2, p.1)
theorem allL_get {W : World} {b : Nat} {o : Obj} (h : W.heap[b]? = some o) : (allL W)[b]? = some (b, o) := by
  simp [allL, h]
theorem allL_mem {W : World} {p : Nat × Obj} : p ∈ allL W → W.heap[p.1]? = some p.2 := fun h => by
  simp only [allL, List.mem_map] at h
  obtain ⟨⟨o, b⟩, h1, rfl⟩ := h
  have := List.mem_zipIdx_iff_getElem?.1 h1
  simpa using this
theorem allL_mem_of {W : World} {b : Nat} {o : Obj} (h : W.heap[b]? = some o) : (b, o) ∈ allL W := List.mem_of_getElem? (allL_get h)
theorem mem_allL (W : World) : Mem W (allL W) W where
  os := rfl
  tape := rfl
  output := rfl
  size := Nat.le_refl _
  nodup := by
    have : (allL W).map Prod.fst = List.range W.heap.size := by
      simp only [allL, List.map_map]
      apply List.ext_getElem?
      intro i
      simp only [List.getElem?_map, List.getElem?_zipIdx, Array.getElem?_toList]
      by_cases h : i < W.heap.size
      · simp [h]
      · simp [h]
    rw [this]; exact List.nodup_range
  has := fun _ h => allL_mem h
theorem below_of_mem {W W' : World} (h : Mem W (allL W) W') : Below W.heap.size W W' where
  os := h.os
  tape := h.tape
  output := h.output
  size := h.size
  block := fun k hk => by
    have h1 : W.heap[k]? = some W.heap[k] := Array.getElem?_eq_getElem hk
    rw [h1]
    exact h.has (k, W.heap[k]) (allL_mem_of h1)
theorem trodAll_stays {H : Type} {enc : TypeId × Value → H} {P : Program} (hl : laidOutB P = true) {W W' : World} (hb : Below W.heap.size W W') : ∀ {ts : List TypeId} {vs : List Value} {ds : List (DataW H)} {ps : List MemPlace},
    (∀ t ∈ ts, P.readableRec t = true ∧ t < P.types.size) → DataW.TrodAll enc P W 0 (fun _ => true) true ts vs ds ps → (∀ x ∈ ps, x.block < W.heap.size) → DataW.TrodAll enc P W' 0 (fun b => decide (b < W.heap.size)) true ts vs ds ps
  | [], _, _, _, _, h, _ => by obtain ⟨rfl, rfl, rfl⟩ := trodAll_nil h; exact trodAll_mk0
  | t :: ts, _, _, _, ht, h, hp => by
    obtain ⟨v, vs', d, ds', p, q, rfl, rfl, rfl, h1, h2⟩ := trodAll_cons h
    have h3 := ht t (by simp)
    exact ⟨p, q, Below.trod hl h3.1 h3.2 h1 hb (fun x hx => hp x (by simp [hx])), trodAll_stays hl hb (fun t' h' => ht t' (by simp [h'])) h2 (fun x hx => hp x (by simp [hx])), rfl⟩
theorem post_law {H : Type} {enc : TypeId × Value → H} {P : Program} {f : Func} {s : ChangeSpec} {W W' : World} {args : Array Value} {ds gs : List (DataW H)} {before : List MemPlace} {tb : TypeId} (hl : laidOutB P = true)
    (hts : (f.params.toList.all fun t => P.readableRec t && decide (t < P.types.size)) = true) (hv : s.vars = []) (hr : f.resultTypes = #[tb]) (hb : P.underlying tb = some .bool)
    (hfn : s.fn H (ds ++ gs) = { results := [.lit (.bool true)], args := ds }) (hW : DataW.Whole enc P f.params.toList s.vars false W args.toList ds gs before) (hbel : Below W.heap.size W W') :
    s.post enc P f false true false false W args (.bool true) W' := by
  have hlt := hW.lt
  have hW' := hW
  obtain ⟨p, q, hA, hV, rfl, _, _⟩ := hW
  rw [hv] at hV
  obtain ⟨rfl, rfl⟩ := trodVars_none hV
  have hts' : ∀ t ∈ f.params.toList, P.readableRec t = true ∧ t < P.types.size := fun t ht => by
    have := List.all_eq_true.1 hts t ht
    simpa using this
  refine ⟨ds, [], p ++ [], [], p, [], hW', ?_, ?_, ?_, hbel.frame _, fun h => by cases h⟩
  · rw [hfn, hr]
    exact trodAll_mk1 (shut_bool hb true)
  · rw [hfn]
    exact trodAll_stays hl hbel hts' hA (fun x hx => by simpa using hlt x (by simp [hx]))
  · rw [hfn, hv]; rfl
theorem u8_bounds {x : Int} (h : (Lit.int .u8 x).wf = true) : 0 ≤ x ∧ x < 256 := by
  have h1 := h
  simp only [Lit.wf, Bool.and_eq_true, decide_eq_true_eq] at h1
  have e1 : IntKind.u8.min = 0 := rfl
  have e2 : IntKind.u8.max = 255 := rfl
  omega
theorem u32_bounds {x : Int} (h : (Lit.int .u32 x).wf = true) : 0 ≤ x ∧ x < 4294967296 := by
  have h1 := h
  simp only [Lit.wf, Bool.and_eq_true, decide_eq_true_eq] at h1
  have e1 : IntKind.u32.min = 0 := rfl
  have e2 : IntKind.u32.max = 4294967295 := rfl
  omega
theorem u64_bounds {x : Int} (h : (Lit.int .u64 x).wf = true) : 0 ≤ x ∧ x < 18446744073709551616 := by
  have h1 := h
  simp only [Lit.wf, Bool.and_eq_true, decide_eq_true_eq] at h1
  have e1 : IntKind.u64.min = 0 := rfl
  have e2 : IntKind.u64.max = 18446744073709551615 := rfl
  omega
theorem i64_bounds {x : Int} (h : (Lit.int .i64 x).wf = true) : -9223372036854775808 ≤ x ∧ x < 9223372036854775808 := by
  have h1 := h
  simp only [Lit.wf, Bool.and_eq_true, decide_eq_true_eq] at h1
  have e1 : IntKind.i64.min = -9223372036854775808 := rfl
  have e2 : IntKind.i64.max = 9223372036854775807 := rfl
  omega
end Go.Proofs.YtakedlockchpcaaGreatDoor
namespace Go.Proofs.YtakedlockchpcaaGreatDoor
open Go.ChangeShapes Go.WideShapes Go.ChangeAt Go.RowKit Go.Deep
structure Rd (α : Type) where
  n : Nat
  lie : List (Nat × Obj) → α → (Nat → Option Value) → Prop
  mono : ∀ {L a g g'}, (∀ k v, g k = some v → g' k = some v) → lie L a g → lie L a g'
def intR (k : IntKind) : Rd Int where
  n := 1
  lie := fun _ x g => g 0 = some (.int k x) ∧ (Lit.int k x).wf = true
  mono := fun h h1 => ⟨h _ _ h1.1, h1.2⟩
def boolR : Rd Bool where
  n := 1
  lie := fun _ x g => g 0 = some (.bool x)
  mono := fun h h1 => h _ _ h1
def pairR {α β : Type} (r : Rd α) (s : Rd β) : Rd (α × β) where
  n := r.n + s.n
  lie := fun L x g => r.lie L x.1 g ∧ s.lie L x.2 (fun k => g (r.n + k))
  mono := fun h h1 => ⟨r.mono h h1.1, s.mono (fun _ _ h2 => h _ _ h2) h1.2⟩
def SlLie {α : Type} (r : Rd α) (L : List (Nat × Obj)) (a : Option Addr) (xs : List α) : Prop :=
  xs = [] ∨ ∃ (b off : Nat) (cs : Array Value) (E : TypeId) (fr : Nat × Nat) (i : Nat), a = some ⟨b, off, none⟩ ∧ L[i]? = some (b, Obj.cells cs E fr) ∧ ∀ j x, xs[j]? = some x → r.lie L x (fun k => cs[off + j * r.n + k]?)
def sliceR {α : Type} (r : Rd α) : Rd (List α) where
  n := 1
  lie := fun L xs g => ∃ a cap, g 0 = some (.slice a xs.length cap) ∧ xs.length ≤ cap ∧ cap ≤ maxLen ∧ SlLie r L a xs
  mono := fun h ⟨a, cap, h1, h2⟩ => ⟨a, cap, h _ _ h1, h2⟩
def Sound {α : Type} (P : Program) (t : TypeId) (r : Rd α) : Prop :=
  P.cellsOf t = r.n ∧ ∀ {H : Type} {enc : TypeId × Value → H} {W : World} {fuel : Nat} {cs : List Value} {x : DataW H × List MemPlace}, DataW.trod enc P W 0 (fun _ => true) true fuel t cs = some x → ∃ a, r.lie (allL W) a (fun k => cs[k]?)
variable {P : Program} {t : TypeId}
theorem sound_int {k : IntKind} (ht : P.underlying t = some (.int k)) (hc : P.cellsOf t = 1) : Sound P t (intR k) := ⟨hc, fun h => by
  obtain ⟨n, rfl, _, hw⟩ := DataW.trod_int ht h
  exact ⟨n, rfl, hw⟩⟩
theorem sound_bool (ht : P.underlying t = some .bool) (hc : P.cellsOf t = 1) : Sound P t boolR := ⟨hc, fun h => by
  obtain ⟨n, rfl, _⟩ := DataW.trod_bool ht h
  exact ⟨n, rfl⟩⟩
theorem cut_get {cs : List Value} {o n k : Nat} {v : Value} (h : ((cs.drop o).take n)[k]? = some v) : cs[o + k]? = some v := by
  rw [List.getElem?_take] at h
  split at h
  · rwa [List.getElem?_drop] at h
  · cases h
theorem choose_list {α : Type} {n : Nat} {p : Nat → α → Prop} (h : ∀ i, i < n → ∃ x, p i x) : ∃ xs : List α, xs.length = n ∧ ∀ i x, xs[i]? = some x → p i x := by
  induction n with
  | zero => exact ⟨[], rfl, by simp⟩
  | succ n ih =>
    obtain ⟨xs, h1, h2⟩ := ih fun i hi => h i (by omega)
    obtain ⟨x, hx⟩ := h n (by omega)
    refine ⟨xs ++ [x], by simp [h1], fun i y hy => ?_⟩
    by_cases hi : i < n
    · rw [List.getElem?_append_left (by omega)] at hy; exact h2 i y hy
    · rw [List.getElem?_append_right (by omega)] at hy
      have : i = n := by
        have := (List.getElem?_eq_some_iff.1 hy).1
        simp at this; omega
      subst this
      rw [h1, Nat.sub_self] at hy
      simp at hy; subst hy; exact hx
theorem cells_get {W : World} {a : Addr} {n k : Nat} {cs : List Value} (h : W.cells? 0 a n = some cs) (hk : k < n) : ∃ v, cs[k]? = some v ∧ W.cell? (a.add k) = some v := by
  obtain ⟨_, hl, hat⟩ := World.cells?_some h
  exact ⟨cs[k]'(by omega), List.getElem?_eq_getElem (by omega), by rw [hat k hk, List.getElem?_eq_getElem (by omega)]⟩
theorem sound_slice {α : Type} {r : Rd α} {e : TypeId} (ht : P.underlying t = some (.slice e)) (hc : P.cellsOf t = 1) (hr : 0 < r.n) (he : Sound P e r) : Sound P t (sliceR r) := ⟨hc, fun {H enc W fuel cs x} h => by
  rcases open_slice ht h with ⟨rfl, _⟩ | ⟨a, len, cap, m, n, D, Pl, rfl, _, hl, hm, hmm, _, hi⟩
  · exact ⟨[], none, 0, rfl, Nat.le_refl _, Nat.zero_le _, .inl rfl⟩
  · simp only [if_true] at hmm
    subst hmm
    by_cases h0 : len = 0
    · subst h0; exact ⟨[], some a, m, rfl, Nat.zero_le _, hm, .inl rfl⟩
    rw [he.1] at hi
    have hblock : ∃ b off cs E fr, a = ⟨b, off, none⟩ ∧ W.heap[b]? = some (Obj.cells cs E fr) := by
      obtain ⟨cs', h1, _⟩ := hi 0 (by omega)
      obtain ⟨v, _, hv⟩ := cells_get h1 hr
      have e0 : (a.add (0 * r.n)).add 0 = a := by simp [Addr.add]
      rw [e0] at hv
      obtain ⟨b, off, spot⟩ := a
      simp only [World.cell?] at hv
      split at hv
      · rename_i cs E fr hb
        split at hv
        · cases hv
        · rename_i hs
          have hs' : spot = none := by cases spot with | none => rfl | some _ => simp at hs
          subst hs'
          exact ⟨b, off, cs, E, fr, rfl, hb⟩
      · cases hv
    obtain ⟨b, off, cs, E, fr, rfl, hb⟩ := hblock
    obtain ⟨ys, h1, h2⟩ := choose_list (n := len) (p := fun j x => r.lie (allL W) x (fun k => cs[off + j * r.n + k]?)) fun i hlt => by
      obtain ⟨cs', hc1, ht1⟩ := hi i (by omega)
      obtain ⟨x, hx⟩ := he.2 ht1
      refine ⟨x, r.mono (fun k v hk => ?_) hx⟩
      have hk2 : k < r.n := by
        obtain ⟨_, hl2, _⟩ := World.cells?_some hc1
        have := (List.getElem?_eq_some_iff.1 hk).1
        omega
      obtain ⟨v', e1, e2⟩ := cells_get hc1 hk2
      rw [hk] at e1; cases e1
      rw [add_add, Addr.add_mid, World.cell?] at e2
      simp only [hb] at e2
      rw [Nat.add_assoc]
      simpa using e2
    exact ⟨ys, some ⟨b, off, none⟩, m, by rw [h1]; rfl, by omega, hm, .inr ⟨b, off, cs, E, fr, b, rfl, allL_get hb, h2⟩⟩⟩
theorem arg_slice {α : Type} {H : Type} {enc : TypeId × Value → H} {W : World} {rc : Reach} {b0 e : TypeId} {r : Rd α} {v : Value} {d : DataW H} {p : List MemPlace} (ht : P.underlying t = some (.slice e)) (hs : Sound P t (sliceR r))
    (hval : Value.okWide P W rc b0 t v) (h : DataW.Trod enc P W 0 (fun _ => true) true t v d p) : ∃ (a : Option Addr) (cap : Nat) (xs : List α), v = .slice a xs.length cap ∧ xs.length ≤ cap ∧ cap ≤ maxLen ∧ SlLie r (allL W) a xs := by
  obtain ⟨a0, len, cap, rfl⟩ := okWide_slice ht hval
  obtain ⟨fuel, hf⟩ := h
  obtain ⟨xs, a, cap', h1, h2⟩ := hs.2 hf
  simp [Value.cells] at h1
  obtain ⟨rfl, rfl, rfl⟩ := h1
  exact ⟨_, _, xs, rfl, h2⟩
end Go.Proofs.YtakedlockchpcaaGreatDoor
namespace Go.Proofs.YtakedlockchpcaaGreatDoor
open Go.ChangeShapes Go.WideShapes Go.ChangeAt Go.RowKit
theorem by_of {L : List (Nat × Obj)} {a : Option Addr} {cap : Nat} {xs : List Int} (h : xs.length ≤ cap) (hm : cap ≤ maxLen) (hx : SlLie (intR .u8) L a xs) : ∃ l : List UInt8, l.length = xs.length ∧ ByAt L (.slice a xs.length cap) l := by
  refine ⟨xs.map fun x => UInt8.ofNat x.toNat, by simp, ?_⟩
  unfold ByAt
  rw [List.length_map]
  refine ⟨by simp, a, cap, rfl, h, hm, ?_⟩
  rcases hx with rfl | ⟨b, off, cs, E, fr, i, h1, h2, h3⟩
  · exact .inl rfl
  · refine .inr ⟨b, off, cs, E, fr, i, h1, h2, fun j x hj => ?_⟩
    simp only [List.map_map, List.getElem?_map] at hj
    obtain ⟨y, hy, rfl⟩ := Option.map_eq_some_iff.1 hj
    obtain ⟨h4, h5⟩ := h3 j y hy
    have hb := u8_bounds h5
    have h6 : cs[off + j]? = some (.int .u8 y) := by simpa [intR] using h4
    rw [h6]
    simp only [Function.comp, bV, UInt8.toNat_ofNat', Option.some.injEq, Value.int.injEq, true_and]
    omega
end Go.Proofs.YtakedlockchpcaaGreatDoor
namespace Go.Proofs.YtakedlockchpcaaGreatDoor
open Go.ChangeShapes Go.WideShapes Go.ChangeAt Go.RowKit Go.Deep
def SlLieZ {α : Type} (r : Rd α) (L : List (Nat × Obj)) (a : Option Addr) (xs : List α) : Prop :=
  xs = [] ∨ ∃ (b off : Nat) (cs : Array Value) (E : TypeId) (fr : Nat × Nat) (i : Nat), a = some ⟨b, off, none⟩ ∧ L[i]? = some (b, Obj.cells cs E fr) ∧ (∀ k, k < xs.length * r.n → ¬ (fr.1 ≤ off + k ∧ off + k < fr.2)) ∧ ∀ j x, xs[j]? = some x → r.lie L x (fun k => cs[off + j * r.n + k]?)
def sliceZ {α : Type} (r : Rd α) : Rd (List α) where
  n := 1
  lie := fun L xs g => ∃ a cap, g 0 = some (.slice a xs.length cap) ∧ xs.length ≤ cap ∧ cap ≤ maxLen ∧ SlLieZ r L a xs
  mono := fun h ⟨a, cap, h1, h2⟩ => ⟨a, cap, h _ _ h1, h2⟩
def SoundZ {α : Type} (P : Program) (t : TypeId) (r : Rd α) : Prop :=
  P.cellsOf t = r.n ∧ ∀ {H : Type} {enc : TypeId × Value → H} {W : World} {fuel : Nat} {cs : List Value} {x : DataW H × List MemPlace}, DataW.trod enc P W 0 (fun _ => true) true fuel t cs = some x → W.noneFrozen x.2 → ∃ a, r.lie (allL W) a (fun k => cs[k]?)
variable {P : Program} {t : TypeId}
theorem Sound.z {α : Type} {r : Rd α} (h : Sound P t r) : SoundZ P t r := ⟨h.1, fun h1 _ => h.2 h1⟩
theorem noneFrozen_sub {W : World} {p q : List MemPlace} (h : W.noneFrozen p) (hs : ∀ x ∈ q, x ∈ p) : W.noneFrozen q := fun b off hm => h b off (hs _ hm)
theorem soundZ_slice {α : Type} {r : Rd α} {e : TypeId} (ht : P.underlying t = some (.slice e)) (hc : P.cellsOf t = 1) (hr : 0 < r.n) (he : SoundZ P e r) : SoundZ P t (sliceZ r) := ⟨hc, fun {H enc W fuel cs x} h hz => by
  rcases open_slice ht h with ⟨rfl, _⟩ | ⟨a, len, cap, m, n, D, Pl, rfl, _, hl, hm, hmm, rfl, hi⟩
  · exact ⟨[], none, 0, rfl, Nat.le_refl _, Nat.zero_le _, .inl rfl⟩
  · simp only [if_true] at hmm
    subst hmm
    by_cases h0 : len = 0
    · subst h0; exact ⟨[], some a, m, rfl, Nat.zero_le _, hm, .inl rfl⟩
    rw [he.1] at hi hz
    have hblock : ∃ b off cs E fr, a = ⟨b, off, none⟩ ∧ W.heap[b]? = some (Obj.cells cs E fr) := by
      obtain ⟨cs', h1, _⟩ := hi 0 (by omega)
      obtain ⟨v, _, hv⟩ := cells_get h1 hr
      have e0 : (a.add (0 * r.n)).add 0 = a := by simp [Addr.add]
      rw [e0] at hv
      obtain ⟨b, off, spot⟩ := a
      simp only [World.cell?] at hv
      split at hv
      · rename_i cs E fr hb
        split at hv
        · cases hv
        · rename_i hs
          have hs' : spot = none := by cases spot with | none => rfl | some _ => simp at hs
          subst hs'
          exact ⟨b, off, cs, E, fr, rfl, hb⟩
      · cases hv
    obtain ⟨b, off, cs, E, fr, rfl, hb⟩ := hblock
    obtain ⟨ys, h1, h2⟩ := choose_list (n := len) (p := fun j x => r.lie (allL W) x (fun k => cs[off + j * r.n + k]?)) fun i hlt => by
      obtain ⟨cs', hc1, ht1⟩ := hi i (by omega)
      obtain ⟨x, hx⟩ := he.2 ht1 (noneFrozen_sub hz fun q hq => List.mem_append_right _ (List.mem_flatMap.2 ⟨i, List.mem_range.2 (by omega), hq⟩))
      refine ⟨x, r.mono (fun k v hk => ?_) hx⟩
      have hk2 : k < r.n := by
        obtain ⟨_, hl2, _⟩ := World.cells?_some hc1
        have := (List.getElem?_eq_some_iff.1 hk).1
        omega
      obtain ⟨v', e1, e2⟩ := cells_get hc1 hk2
      rw [hk] at e1; cases e1
      rw [add_add, Addr.add_mid, World.cell?] at e2
      simp only [hb] at e2
      rw [Nat.add_assoc]
      simpa using e2
    refine ⟨ys, some ⟨b, off, none⟩, m, by rw [h1]; rfl, by omega, hm, .inr ⟨b, off, cs, E, fr, b, rfl, allL_get hb, fun k hk hf => ?_, h2⟩⟩
    rw [h1] at hk
    have hkm : k < m * r.n := Nat.lt_of_lt_of_le hk (Nat.mul_le_mul_right _ hl)
    have := hz b (off + k) (List.mem_append_left _ (by
      unfold MemPlace.row
      exact List.mem_map.2 ⟨k, List.mem_range.2 hkm, rfl⟩))
    obtain ⟨lo, hi'⟩ := fr
    unfold World.frozen? at this
    simp only [hb, Bool.and_eq_false_iff, decide_eq_false_iff_not] at this
    simp only at hf
    omega⟩
def SoundZF {α : Type} (P : Program) (fs : List Field) (off : Nat) (r : Rd α) : Prop :=
  ∀ {H : Type} {enc : TypeId × Value → H} {W : World} {n : Nat} {cs : List Value} {xs : List (DataW H × List MemPlace)}, xs.length = fs.length → (∀ x ∈ xs, W.noneFrozen x.2) →
    (∀ (i : Nat) (f : Field), fs[i]? = some f → DataW.trod enc P W 0 (fun _ => true) true n f.type ((cs.drop f.offset).take (P.cellsOf f.type)) = xs[i]?) → ∃ a, r.lie (allL W) a (fun k => cs[off + k]?)
theorem soundZF_one {α : Type} {r : Rd α} {f : Field} {off : Nat} (h : SoundZ P f.type r) (ho : f.offset = off) : SoundZF P [f] off r := fun {H enc W n cs xs} hl hz hi => by
  have h1 := hi 0 f rfl
  obtain ⟨y, hy⟩ : ∃ y, xs[0]? = some y := ⟨xs[0]'(by simp [hl]), List.getElem?_eq_getElem _⟩
  rw [hy] at h1
  obtain ⟨a, ha⟩ := h.2 h1 (hz y (List.mem_of_getElem? hy))
  refine ⟨a, r.mono (fun k v hk => ?_) ha⟩
  have := cut_get hk
  rwa [ho] at this
theorem soundZF_cons {α β : Type} {r : Rd α} {s : Rd β} {f : Field} {fs : List Field} {off : Nat} (h : SoundZ P f.type r) (ho : f.offset = off) (hs : SoundZF P fs (off + r.n) s) : SoundZF P (f :: fs) off (pairR r s) := fun {H enc W n cs xs} hl hz hi => by
  obtain ⟨y, xs, rfl⟩ : ∃ y ys, xs = y :: ys := by
    cases xs with
    | nil => simp at hl
    | cons y ys => exact ⟨y, ys, rfl⟩
  obtain ⟨a, ha⟩ := soundZF_one (P := P) h ho (enc := enc) (W := W) (n := n) (cs := cs) (xs := [y]) rfl (fun x hx => hz x (by rw [List.mem_singleton.1 hx]; exact List.mem_cons_self)) (fun i g hg => by
    cases i with
    | zero => exact hi 0 g hg
    | succ i => simp at hg)
  obtain ⟨b, hb⟩ := hs (enc := enc) (W := W) (n := n) (cs := cs) (xs := xs) (by simpa using hl) (fun x hx => hz x (List.mem_cons_of_mem _ hx)) (fun i g hg => hi (i + 1) g hg)
  exact ⟨(a, b), ha, by simpa [Nat.add_assoc] using hb⟩
theorem soundZ_struct {α : Type} {r : Rd α} {fs : Array Field} (ht : P.underlying t = some (.struct fs)) (hc : P.cellsOf t = r.n) (h : SoundZF P fs.toList 0 r) : SoundZ P t r := ⟨hc, fun hx hz => by
  obtain ⟨xs, n, _, rfl, _, hl, hi⟩ := DataW.trod_struct ht hx
  obtain ⟨a, ha⟩ := h (by simpa using hl) (fun x hx' => noneFrozen_sub hz fun q hq => List.mem_flatMap.2 ⟨x, hx', hq⟩) (fun i f hf => hi i f (by simpa using hf))
  exact ⟨a, by simpa using ha⟩⟩
theorem argZ_agg {α : Type} {H : Type} {enc : TypeId × Value → H} {W : World} {rc : Reach} {b0 : TypeId} {r : Rd α} {v : Value} {d : DataW H} {p : List MemPlace} {fs : Array Field} (ht : P.underlying t = some (.struct fs)) (hs : SoundZ P t r)
    (hval : Value.okWide P W rc b0 t v) (h : DataW.Trod enc P W 0 (fun _ => true) true t v d p) (hz : W.noneFrozen p) : ∃ (cs : Array Value) (x : α), v = .agg cs ∧ cs.size = r.n ∧ r.lie (allL W) x (fun k => cs[k]?) := by
  obtain ⟨cs, rfl, hsz⟩ := okWide_struct ht hval
  obtain ⟨fuel, hf⟩ := h
  obtain ⟨x, h1⟩ := hs.2 hf hz
  exact ⟨cs, x, rfl, by rw [hsz, hs.1], by simpa [Value.cells] using h1⟩
end Go.Proofs.YtakedlockchpcaaGreatDoor
namespace Go.Proofs.YtakedlockchpcaaGreatDoor
open Go.ChangeShapes Go.WideShapes Go.ChangeAt Go.RowKit
abbrev msgR := (pairR (intR .i64) (pairR (intR .i64) (pairR (pairR (intR .u32) (pairR (intR .i64) (pairR (intR .i64) (pairR (intR .u8) (pairR boolR boolR))))) (pairR (intR .i64) (pairR (intR .i64) (pairR (pairR (intR .i64) (pairR (intR .i64) (pairR (sliceZ (intR .i64)) (pairR (intR .i64) (pairR (intR .i64) (pairR (pairR (intR .i64) (pairR (intR .i64) (pairR (intR .i64) (intR .i64)))) (intR .i64))))))) (pairR (intR .i64) (pairR (intR .i64) (pairR boolR (sliceZ (pairR (intR .i64) (pairR (intR .u32) (pairR (intR .i64) (pairR (intR .i64) (pairR (intR .u8) (pairR (intR .i64) (pairR (intR .i64) (pairR (intR .u64) (pairR (intR .i64) (intR .i64))))))))))))))))))))
abbrev itemR := (pairR boolR (pairR (intR .i64) (pairR (intR .u32) (pairR (intR .i64) (pairR (intR .i64) (pairR (intR .u8) (pairR boolR boolR)))))))
abbrev entR := (pairR (intR .i64) (pairR (intR .u32) (pairR (intR .i64) (pairR (intR .i64) (pairR (intR .u8) (pairR (intR .i64) (pairR (intR .i64) (pairR (intR .u64) (pairR (intR .i64) (intR .i64))))))))))
set_option maxRecDepth 100000 in
theorem msgR_sound : SoundZ Tryz.prog 35 msgR := (soundZ_struct Tryz.underlying35 (by kernel_rfl) (soundZF_cons (sound_int Tryz.underlying3 (by kernel_rfl)).z rfl (soundZF_cons (sound_int Tryz.underlying3 (by kernel_rfl)).z rfl (soundZF_cons (soundZ_struct Tryz.underlying25 (by kernel_rfl) (soundZF_cons (sound_int Tryz.underlying23 (by kernel_rfl)).z rfl (soundZF_cons (sound_int Tryz.underlying2 (by kernel_rfl)).z rfl (soundZF_cons (sound_int Tryz.underlying2 (by kernel_rfl)).z rfl (soundZF_cons (sound_int Tryz.underlying5 (by kernel_rfl)).z rfl (soundZF_cons (sound_bool Tryz.underlying4 (by kernel_rfl)).z rfl (soundZF_one (sound_bool Tryz.underlying4 (by kernel_rfl)).z rfl))))))) rfl (soundZF_cons (sound_int Tryz.underlying2 (by kernel_rfl)).z rfl (soundZF_cons (sound_int Tryz.underlying3 (by kernel_rfl)).z rfl (soundZF_cons (soundZ_struct Tryz.underlying30 (by kernel_rfl) (soundZF_cons (sound_int Tryz.underlying3 (by kernel_rfl)).z rfl (soundZF_cons (sound_int Tryz.underlying2 (by kernel_rfl)).z rfl (soundZF_cons (soundZ_slice Tryz.underlying26 (by kernel_rfl) (by decide) (sound_int Tryz.underlying3 (by kernel_rfl)).z) rfl (soundZF_cons (sound_int Tryz.underlying3 (by kernel_rfl)).z rfl (soundZF_cons (sound_int Tryz.underlying3 (by kernel_rfl)).z rfl (soundZF_cons (soundZ_struct Tryz.underlying28 (by kernel_rfl) (soundZF_cons (sound_int Tryz.underlying3 (by kernel_rfl)).z rfl (soundZF_cons (sound_int Tryz.underlying2 (by kernel_rfl)).z rfl (soundZF_cons (sound_int Tryz.underlying2 (by kernel_rfl)).z rfl (soundZF_one (sound_int Tryz.underlying3 (by kernel_rfl)).z rfl))))) rfl (soundZF_one (sound_int Tryz.underlying3 (by kernel_rfl)).z rfl)))))))) rfl (soundZF_one (soundZ_struct Tryz.underlying33 (by kernel_rfl) (soundZF_cons (sound_int Tryz.underlying3 (by kernel_rfl)).z rfl (soundZF_cons (sound_int Tryz.underlying3 (by kernel_rfl)).z rfl (soundZF_cons (sound_bool Tryz.underlying4 (by kernel_rfl)).z rfl (soundZF_one (soundZ_slice Tryz.underlying31 (by kernel_rfl) (by decide) (soundZ_struct Tryz.underlying45 (by kernel_rfl) (soundZF_cons (sound_int Tryz.underlying3 (by kernel_rfl)).z rfl (soundZF_cons (sound_int Tryz.underlying23 (by kernel_rfl)).z rfl (soundZF_cons (sound_int Tryz.underlying2 (by kernel_rfl)).z rfl (soundZF_cons (sound_int Tryz.underlying2 (by kernel_rfl)).z rfl (soundZF_cons (sound_int Tryz.underlying5 (by kernel_rfl)).z rfl (soundZF_one (soundZ_struct Tryz.underlying43 (by kernel_rfl) (soundZF_cons (sound_int Tryz.underlying2 (by kernel_rfl)).z rfl (soundZF_cons (sound_int Tryz.underlying2 (by kernel_rfl)).z rfl (soundZF_cons (sound_int Tryz.underlying41 (by kernel_rfl)).z rfl (soundZF_cons (sound_int Tryz.underlying2 (by kernel_rfl)).z rfl (soundZF_one (sound_int Tryz.underlying2 (by kernel_rfl)).z rfl)))))) rfl)))))))) rfl))))) rfl))))))))
set_option maxRecDepth 100000 in
theorem itemR_sound : SoundZ Tryz.prog 37 itemR := (soundZ_struct Tryz.underlying37 (by kernel_rfl) (soundZF_cons (sound_bool Tryz.underlying4 (by kernel_rfl)).z rfl (soundZF_cons (sound_int Tryz.underlying2 (by kernel_rfl)).z rfl (soundZF_one (soundZ_struct Tryz.underlying25 (by kernel_rfl) (soundZF_cons (sound_int Tryz.underlying23 (by kernel_rfl)).z rfl (soundZF_cons (sound_int Tryz.underlying2 (by kernel_rfl)).z rfl (soundZF_cons (sound_int Tryz.underlying2 (by kernel_rfl)).z rfl (soundZF_cons (sound_int Tryz.underlying5 (by kernel_rfl)).z rfl (soundZF_cons (sound_bool Tryz.underlying4 (by kernel_rfl)).z rfl (soundZF_one (sound_bool Tryz.underlying4 (by kernel_rfl)).z rfl))))))) rfl))))
theorem ok_ww {x : Int} (h : (Lit.int .i64 x).wf = true) : Fk.ok .ww (.int .i64 x) := ⟨x, rfl, (i64_bounds h).1, (i64_bounds h).2⟩
theorem ok_nn {x : Int} (h : (Lit.int .u64 x).wf = true) : Fk.ok .nn (.int .u64 x) := ⟨x, rfl, (u64_bounds h).1, (u64_bounds h).2⟩
theorem ok_kk {x : Int} (h : (Lit.int .u32 x).wf = true) : Fk.ok .kk (.int .u32 x) := ⟨x, rfl, (u32_bounds h).1, (u32_bounds h).2⟩
theorem ok_bb {x : Int} (h : (Lit.int .u8 x).wf = true) : Fk.ok .bb (.int .u8 x) := ⟨UInt8.ofNat x.toNat, by
  have hb := u8_bounds h
  simp only [bV, UInt8.toNat_ofNat', Value.int.injEq, true_and]
  omega⟩
theorem ok_tt (x : Bool) : Fk.ok .tt (.bool x) := ⟨x, rfl⟩
abbrev RecT := Int × Int × Int × Int × Bool × Bool
def rcV (x : RecT) : List Value := [.int .u32 x.1, .int .i64 x.2.1, .int .i64 x.2.2.1, .int .u8 x.2.2.2.1, .bool x.2.2.2.2.1, .bool x.2.2.2.2.2]
abbrev EntT := Int × Int × Int × Int × Int × Int × Int × Int × Int × Int
def enV (x : EntT) : List Value := [.int .i64 x.1, .int .u32 x.2.1, .int .i64 x.2.2.1, .int .i64 x.2.2.2.1, .int .u8 x.2.2.2.2.1, .int .i64 x.2.2.2.2.2.1, .int .i64 x.2.2.2.2.2.2.1, .int .u64 x.2.2.2.2.2.2.2.1, .int .i64 x.2.2.2.2.2.2.2.2.1, .int .i64 x.2.2.2.2.2.2.2.2.2]
theorem ent_of {L : List (Nat × Obj)} {cs : Array Value} {off : Nat} {x : EntT} (h : entR.lie L x (fun k => cs[off + k]?)) : Oks entryF (enV x) ∧ Lies cs off (enV x) := by
  obtain ⟨⟨a0, w0⟩, ⟨a1, w1⟩, ⟨a2, w2⟩, ⟨a3, w3⟩, ⟨a4, w4⟩, ⟨a5, w5⟩, ⟨a6, w6⟩, ⟨a7, w7⟩, ⟨a8, w8⟩, a9, w9⟩ := h
  refine ⟨⟨ok_ww w0, ok_kk w1, ok_ww w2, ok_ww w3, ok_bb w4, ok_ww w5, ok_ww w6, ok_nn w7, ok_ww w8, ok_ww w9, trivial⟩, fun j v hj => ?_⟩
  match j, hj with
  | 0, hj => cases hj; exact a0
  | 1, hj => cases hj; exact a1
  | 2, hj => cases hj; exact a2
  | 3, hj => cases hj; exact a3
  | 4, hj => cases hj; exact a4
  | 5, hj => cases hj; exact a5
  | 6, hj => cases hj; exact a6
  | 7, hj => cases hj; exact a7
  | 8, hj => cases hj; exact a8
  | 9, hj => cases hj; exact a9
  | j + 10, hj => simp [enV] at hj
theorem item_of {L : List (Nat × Obj)} {cs : Array Value} {x : Bool × Int × RecT} (h : itemR.lie L x (fun k => cs[k]?)) : ∃ vs, Oks itemF vs ∧ Lies cs 0 vs := by
  obtain ⟨a0, ⟨a1, w1⟩, ⟨a2, w2⟩, ⟨a3, w3⟩, ⟨a4, w4⟩, ⟨a5, w5⟩, a6, a7⟩ := h
  refine ⟨.bool x.1 :: .int .i64 x.2.1 :: rcV x.2.2, ⟨ok_tt _, ok_ww w1, ok_kk w2, ok_ww w3, ok_ww w4, ok_bb w5, ok_tt _, ok_tt _, trivial⟩, fun j v hj => ?_⟩
  rw [Nat.zero_add]
  match j, hj with
  | 0, hj => cases hj; exact a0
  | 1, hj => cases hj; exact a1
  | 2, hj => cases hj; exact a2
  | 3, hj => cases hj; exact a3
  | 4, hj => cases hj; exact a4
  | 5, hj => cases hj; exact a5
  | 6, hj => cases hj; exact a6
  | 7, hj => cases hj; exact a7
  | j + 8, hj => simp [rcV] at hj
theorem bins_of {L : List (Nat × Obj)} {a : Option Addr} {xs : List Int} (h : SlLieZ (intR .i64) L a xs) : (∀ vs ∈ xs.map fun x => [Value.int .i64 x], Oks binF vs) ∧ Elems L a 1 (xs.map fun x => [Value.int .i64 x]) := by
  rcases h with rfl | ⟨b, off, cs, E, fr, i, h1, h2, h3, h4⟩
  · exact ⟨(fun _ h => (by cases h)), .inl rfl⟩
  · refine ⟨fun vs hv => ?_, .inr ⟨b, off, i, cs, E, fr, h1, h2, fun j vs hj => ?_⟩⟩
    · obtain ⟨x, hx, rfl⟩ := List.mem_map.1 hv
      obtain ⟨j, hj⟩ := List.mem_iff_getElem?.1 hx
      exact ⟨ok_ww (h4 j x hj).2, trivial⟩
    · rw [List.getElem?_map] at hj
      obtain ⟨x, hx, rfl⟩ := Option.map_eq_some_iff.1 hj
      have hlt := (List.getElem?_eq_some_iff.1 hx).1
      refine ⟨one_lies (h4 j x hx).1, fun k hk => ?_⟩
      have := h3 (j * 1 + k) (by show j * 1 + k < xs.length * 1; omega)
      rwa [← Nat.add_assoc] at this
theorem ents_of {L : List (Nat × Obj)} {a : Option Addr} {xs : List EntT} (h : SlLieZ entR L a xs) : (∀ vs ∈ xs.map enV, Oks entryF vs) ∧ Elems L a 10 (xs.map enV) := by
  rcases h with rfl | ⟨b, off, cs, E, fr, i, h1, h2, h3, h4⟩
  · exact ⟨(fun _ h => (by cases h)), .inl rfl⟩
  · refine ⟨fun vs hv => ?_, .inr ⟨b, off, i, cs, E, fr, h1, h2, fun j vs hj => ?_⟩⟩
    · obtain ⟨x, hx, rfl⟩ := List.mem_map.1 hv
      obtain ⟨j, hj⟩ := List.mem_iff_getElem?.1 hx
      exact (ent_of (h4 j x hj)).1
    · rw [List.getElem?_map] at hj
      obtain ⟨x, hx, rfl⟩ := Option.map_eq_some_iff.1 hj
      have hlt := (List.getElem?_eq_some_iff.1 hx).1
      refine ⟨(ent_of (h4 j x hx)).2, fun k hk => ?_⟩
      have := h3 (j * 10 + k) (by show j * 10 + k < xs.length * 10; omega)
      rwa [← Nat.add_assoc] at this
theorem msg_at {L : List (Nat × Obj)} {cs : Array Value} {off : Nat} {x : _} (h : msgR.lie L x (fun k => cs[off + k]?)) : ∃ (m : MV) (a : Option Addr) (cap : Nat) (a' : Option Addr) (cap' : Nat), m.Ok ∧ Lies cs off (m.cells a cap a' cap') ∧ Elems L a 1 m.bins ∧ Elems L a' 10 m.ents ∧ m.bins.length ≤ cap ∧ m.ents.length ≤ cap' ∧ cap ≤ maxLen ∧ cap' ≤ maxLen := by
  obtain ⟨⟨k0, w0⟩, ⟨k1, w1⟩, ⟨⟨r0, v0⟩, ⟨r1, v1⟩, ⟨r2, v2⟩, ⟨r3, v3⟩, r4, r5⟩, ⟨k8, w8⟩, ⟨k9, w9⟩, ⟨⟨c0, u0⟩, ⟨c1, u1⟩, ⟨a, cap, c2, n1, n2, hb⟩, ⟨c3, u3⟩, ⟨c4, u4⟩, ⟨⟨c5, u5⟩, ⟨c6, u6⟩, ⟨c7, u7⟩, c8, u8⟩, c9, u9⟩, ⟨q0, s0⟩, ⟨q1, s1⟩, q2, a', cap', q3, n3, n4, he⟩ := h
  obtain ⟨ob, eb⟩ := bins_of hb
  obtain ⟨oe, ee⟩ := ents_of he
  have lb : (x.2.2.2.2.2.1.2.2.1.map fun x => [Value.int .i64 x]).length = x.2.2.2.2.2.1.2.2.1.length := List.length_map ..
  refine ⟨⟨x.1, x.2.1, rcV x.2.2.1, x.2.2.2.1, x.2.2.2.2.1, [.int .i64 x.2.2.2.2.2.1.1, .int .i64 x.2.2.2.2.2.1.2.1], x.2.2.2.2.2.1.2.2.1.map fun x => [Value.int .i64 x],
    [.int .i64 x.2.2.2.2.2.1.2.2.2.1, .int .i64 x.2.2.2.2.2.1.2.2.2.2.1, .int .i64 x.2.2.2.2.2.1.2.2.2.2.2.1.1, .int .i64 x.2.2.2.2.2.1.2.2.2.2.2.1.2.1, .int .i64 x.2.2.2.2.2.1.2.2.2.2.2.1.2.2.1, .int .i64 x.2.2.2.2.2.1.2.2.2.2.2.1.2.2.2, .int .i64 x.2.2.2.2.2.1.2.2.2.2.2.2],
    [.int .i64 x.2.2.2.2.2.2.1, .int .i64 x.2.2.2.2.2.2.2.1, .bool x.2.2.2.2.2.2.2.2.1], x.2.2.2.2.2.2.2.2.2.map enV⟩, a, cap, a', cap', ⟨i64_bounds w0, i64_bounds w1, ⟨ok_kk v0, ok_ww v1, ok_ww v2, ok_bb v3, ok_tt _, ok_tt _, trivial⟩, i64_bounds w8, i64_bounds w9, ⟨ok_ww u0, ok_ww u1, trivial⟩, ob, ⟨ok_ww u3, ok_ww u4, ok_ww u5, ok_ww u6, ok_ww u7, ok_ww u8, ok_ww u9, trivial⟩, ⟨ok_ww s0, ok_ww s1, ok_tt _, trivial⟩, oe⟩, ?_, eb, ee, by rw [lb]; exact n1, by rw [List.length_map]; exact n3, n2, n4⟩
  intro j v hj
  unfold MV.cells at hj
  rw [List.length_map, List.length_map] at hj
  match j, hj with
  | 0, hj => cases hj; exact k0
  | 1, hj => cases hj; exact k1
  | 2, hj => cases hj; exact r0
  | 3, hj => cases hj; exact r1
  | 4, hj => cases hj; exact r2
  | 5, hj => cases hj; exact r3
  | 6, hj => cases hj; exact r4
  | 7, hj => cases hj; exact r5
  | 8, hj => cases hj; exact k8
  | 9, hj => cases hj; exact k9
  | 10, hj => cases hj; exact c0
  | 11, hj => cases hj; exact c1
  | 12, hj => cases hj; exact c2
  | 13, hj => cases hj; exact c3
  | 14, hj => cases hj; exact c4
  | 15, hj => cases hj; exact c5
  | 16, hj => cases hj; exact c6
  | 17, hj => cases hj; exact c7
  | 18, hj => cases hj; exact c8
  | 19, hj => cases hj; exact c9
  | 20, hj => cases hj; exact q0
  | 21, hj => cases hj; exact q1
  | 22, hj => cases hj; exact q2
  | 23, hj => cases hj; exact q3
  | j + 24, hj => simp [rcV] at hj
theorem msg_of {L : List (Nat × Obj)} {cs : Array Value} {x : _} (hz : cs.size = 24) (h : msgR.lie L x (fun k => cs[k]?)) : ∃ (m : MV) (a : Option Addr) (cap : Nat) (a' : Option Addr) (cap' : Nat), MsgAt L cs m a cap a' cap' := by
  obtain ⟨m, a, cap, a', cap', h1, h2, h3, h4, h5, h6, h7, h8⟩ := msg_at (off := 0) (by simpa only [Nat.zero_add] using h)
  exact ⟨m, a, cap, a', cap', h1, hz, h2, h3, h4, h5, h6, h7, h8⟩
end Go.Proofs.YtakedlockchpcaaGreatDoor
namespace Go.Proofs.YtakedlockchpcaaGreatDoor
open Go.ChangeShapes Go.WideShapes Go.ChangeAt Go.RowKit
theorem h_et : Tryz.prog.globalNamed "errors.errorType" = some 0 := by kernel_rfl
theorem h_rt : (Tryz.prog.cutTypes.find? (·.1 == "internal/reflectlite.rtype")).map (·.2) = some 254 := by kernel_rfl
theorem h_oneRow : ((List.range 303).filter fun t => Tryz.prog.rowNamed t [101, 114, 114, 111, 114]) = [70] := by kernel_rfl
theorem h_size : Tryz.prog.types.size = 303 := by kernel_rfl
def laidL : List (String × DataW Unit) := [("errors.errorType", Rows.laid_errors_errorType)]
theorem handle_of_laid {W : World} (h : laidMetH Tryz.prog laidL W) : W.cell? ⟨0, 0, none⟩ = some handle := by
  have h' : laidMet Tryz.prog [] W ∧ handlesMet Tryz.prog laidL W := h
  obtain ⟨name, u, ty, e1, e2, e3, e4, e5⟩ := h'.2 _ (List.mem_singleton.2 rfl)
  have en : name = [101, 114, 114, 111, 114] := (Option.some.inj e1).symm
  subst en
  obtain rfl := Option.some.inj (h_rt.symm.trans e2)
  have hm : ty ∈ (List.range 303).filter fun t => Tryz.prog.rowNamed t [101, 114, 114, 111, 114] := List.mem_filter.2 ⟨List.mem_range.2 (by rw [← h_size]; exact e3), e4⟩
  rw [h_oneRow] at hm
  obtain rfl := List.mem_singleton.1 hm
  have hh : typeHandle Tryz.prog 70 = .pointer (some ⟨1, 70, none⟩) := by kernel_rfl
  rw [hh] at e5
  unfold handle
  simpa using World.var?_cell h_et e5 0
noncomputable def laidWorld (os : Os) : World :=
  let w0 := World.holding Tryz.prog os ⟨#[], #[], []⟩
  { w0 with heap := w0.heap.modify 0 fun
      | .cells _ t frozen => .cells #[handle] t frozen
      | o => o }
theorem laidWorld_met (os : Os) (args : Array Value) : laidMetH Tryz.prog laidL ((laidWorld os).forCall (fun _ _ => 0) ⟨#[], args, []⟩).memory :=
  laidMetH_of_parts (laidMet_nil _ _) (by kernel_rfl)
set_option maxRecDepth 100000 in
theorem liftedH {os : Os} {H : Type} {enc : TypeId × Value → H} {f : FuncId} {fn : Func} {s : ChangeSpec} {tb : TypeId} (started : os.Started) (noInit : Tryz.prog.inits.idxOf? f = none) (hfn : Tryz.prog.funcs[f]? = some fn)
    (witness : ∃ (w : World) (tape : Tape) (i : Input), w.os = os ∧ (w.forCall tape i).Shaped Tryz.prog ∧ i.vars = [] ∧ Input.okWide Tryz.prog (w.forCall tape i) .any w.heap.size f i ∧
      ((s.pre enc Tryz.prog fn [] false (w.forCall tape i).memory i.args ∧ laidMetH Tryz.prog laidL (w.forCall tape i).memory) ∧ sizedMet enc Tryz.prog fn (OpenSpec.ofChange s) false (w.forCall tape i).memory i.args) ∧ ({} : Assume).holds Tryz.prog (lone (Frame.enter Tryz.prog f i.args .normal) [] (w.forCall tape i)))
    (hts : (fn.params.toList.all fun t => Tryz.prog.readableRec t && decide (t < Tryz.prog.types.size)) = true) (hv : s.vars = []) (hr : fn.resultTypes = #[tb]) (hb : Tryz.prog.underlying tb = some .bool)
    (hspec : ∀ ds : List (DataW H), ds.length = fn.params.size → s.fn H ds = { results := [.lit (.bool true)], args := ds })
    (h : ∀ (W : World) (base : Nat) (args : Array Value) (ds : List (DataW H)) (ps : List MemPlace), (∀ (j : Nat) t v, fn.params[j]? = some t → args[j]? = some v → Value.okWide Tryz.prog W .any base t v) →
      DataW.TrodAll enc Tryz.prog W 0 (fun _ => true) true fn.params.toList args.toList ds ps → W.noneFrozen ps → (∃ cs E fr, (0, Obj.cells cs E fr) ∈ allL W ∧ cs[0]? = some handle) → Fn Tryz.prog f args.toList (allL W) fun v L' => v = .bool true ∧ L' = allL W) :
    ReturnsInHanded {} Tryz.checked os f .any (fun w args => (s.pre enc Tryz.prog fn [] false w args ∧ laidMetH Tryz.prog laidL w) ∧ sizedMet enc Tryz.prog fn (OpenSpec.ofChange s) false w args) (s.post enc Tryz.prog fn false true false false) := by
  refine returnsInHanded_of_change_and (C := Tryz.checked) (X := fun w _ => laidMetH Tryz.prog laidL w) (fun _ _ _ hh h => h.of_heap hh) ownOf started noInit hfn witness ?_
  intro W base args ds gs before hval hW _ _ hL _
  have hW' := hW
  obtain ⟨p, q, hA, hV, rfl, hfz, _⟩ := hW
  rw [hv] at hV
  obtain ⟨rfl, rfl⟩ := trodVars_none hV
  have hlen : ∀ {ts : List TypeId} {vs : List Value} {ds : List (DataW H)} {ps : List MemPlace}, DataW.TrodAll enc Tryz.prog W 0 (fun _ => true) true ts vs ds ps → ds.length = ts.length := by
    intro ts
    induction ts with
    | nil => intro vs ds ps h; obtain ⟨_, rfl, _⟩ := trodAll_nil h; rfl
    | cons t ts ih => intro vs ds ps h; obtain ⟨v, vs', d, ds', a, b, rfl, rfl, rfl, _, h2⟩ := trodAll_cons h; simp [ih h2]
  have hds := hspec ds (by rw [hlen hA]; simp)
  have hg := handle_of_laid hL
  have hblk : ∃ cs E fr, (0, Obj.cells cs E fr) ∈ allL W ∧ cs[0]? = some handle := by
    unfold World.cell? at hg
    cases hb : W.heap[0]? with
    | none => simp [hb] at hg
    | some o =>
      cases o with
      | cells cs E fr => exact ⟨cs, E, fr, allL_mem_of hb, by simpa [hb] using hg⟩
      | _ => simp [hb] at hg
  refine ((h W base args ds p hval hA (by simpa using hfz) hblk) W W (mem_allL W)).mono fun e W' ⟨v, L', h1, h2, h3, h4⟩ => ?_
  subst h3; subst h4
  exact ⟨_, h1, post_law laidOf hts hv hr hb (by simpa using hds) hW' (below_of_mem h2)⟩
end Go.Proofs.YtakedlockchpcaaGreatDoor
namespace Go.Proofs.YtakedlockchpcaaGreatDoor
open Go.ChangeShapes Go.WideShapes Go.ChangeAt Go.RowKit
set_option maxRecDepth 100000 in
theorem codecLays_lifted (os : Os) (started : os.Started) (H : Type) (enc : TypeId × Value → H) :
    ReturnsInHanded {} Tryz.checked os 3 .any (fun w args => (Rows.codecLaysSpec.pre enc Tryz.prog Tryz.f3 [] false w args ∧ laidMetH Tryz.prog laidL w) ∧ sizedMet enc Tryz.prog Tryz.f3 (OpenSpec.ofChange Rows.codecLaysSpec) false w args) (Rows.codecLaysSpec.post enc Tryz.prog Tryz.f3 false true false false) := by
  refine liftedH (tb := 4) started (by kernel_rfl) Tryz.func3
    (ChangeSpec.witness_at (enc := enc) (C := Tryz.checked) (os := os) (X := fun w _ => laidMetH Tryz.prog laidL w) false (laidWorld os) #[.slice none 0 0, .agg zc35, .agg zc37] 8 rfl (by kernel_rfl) (by kernel_rfl) (by kernel_rfl) (by kernel_rfl) (by kernel_rfl) (laidWorld_met os _)) (by kernel_rfl) rfl rfl Tryz.underlying4 ?_ ?_
  · intro ds h
    match ds, h with
    | [_, _, _], _ => rfl
  · intro W base args ds ps hval0 hA0 hfz hH
    have hval : ∀ (j : Nat) t v, Tryz.f3.params[j]? = some t → args[j]? = some v → Value.okWide Tryz.prog W .any base t v := hval0
    have hA : DataW.TrodAll enc Tryz.prog W 0 (fun _ => true) true Tryz.f3.params.toList args.toList ds ps := hA0
    rw [Tryz.params3] at hA hval
    obtain ⟨v0, vs0, d0, ds0, p0, q0, e0, rfl, rfl, h0, hA⟩ := trodAll_cons hA
    obtain ⟨v1, vs1, d1, ds1, p1, q1, rfl, rfl, rfl, h1, hA⟩ := trodAll_cons hA
    obtain ⟨v2, vs2, d2, ds2, p2, q2, rfl, rfl, rfl, h2, hA⟩ := trodAll_cons hA
    obtain ⟨rfl, rfl, rfl⟩ := trodAll_nil hA
    have ea : args = #[v0, v1, v2] := by apply Array.ext'; simpa using e0
    subst ea
    obtain ⟨a0, cap0, xs0, rfl, hl0, hm0, hx0⟩ := arg_slice Tryz.underlying22 (sound_slice Tryz.underlying22 (by kernel_rfl) (by decide) (sound_int Tryz.underlying5 (by kernel_rfl))) (hval 0 _ _ rfl rfl) h0
    obtain ⟨l0, hll0, hb0⟩ := by_of hl0 hm0 hx0
    obtain ⟨cs1, x1, rfl, hz1, hx1⟩ := argZ_agg Tryz.underlying35 msgR_sound (hval 1 _ _ rfl rfl) h1 (noneFrozen_sub hfz fun _ hq => by simp [hq])
    obtain ⟨cs2, x2, rfl, hz2, hx2⟩ := argZ_agg Tryz.underlying37 itemR_sound (hval 2 _ _ rfl rfl) h2 (noneFrozen_sub hfz fun _ hq => by simp [hq])
    obtain ⟨m, a, cap, a', cap', hM⟩ := msg_of hz1 hx1
    obtain ⟨vx, ho2, hlx⟩ := item_of hx2
    have h := clays_fn (L := allL W) hH hb0 hM hz2 ho2 hlx
    exact h
theorem codecLays_said : Rows.CodecLaysSaid :=
  OpenClaim.holds_of_wide 3 Tryz.f3 rfl rfl rfl rfl rfl rfl rfl ⟨rfl, rfl, rfl, rfl, rfl⟩ rfl rfl rfl rfl rfl (by kernel_rfl) Tryz.func3 (by kernel_rfl)
    (of_decide_eq_true (by kernel_rfl)) (by unfold Func.isWrapper; first | (rw [if_pos (by decide +kernel)]; kernel_rfl) | (rw [if_neg (by decide +kernel)]; exact ⟨rfl, rfl⟩))
    (fun os started H enc _ => codecLays_lifted os started H enc)
theorem codecLays_holds : Rows.CodecLaysCardSaid :=
  Claim7.holds_tied_plain_at .later [] [.handle] true Rows.codecLaysCard.stood.harness true
    codecLays_said (fun _ h => by cases h) (by kernel_rfl) (fun _ h => by cases h) codecLays_row_tie rfl ⟨rfl, rfl⟩ (by kernel_rfl) rfl
    (fun f fn hf hfn => by
      obtain rfl : f = 3 := Option.some.inj ((show Tryz.prog.funcNamed "anabranch/anabranchlaw03.CodecLays" = some 3 by kernel_rfl).symm.trans hf) |>.symm
      obtain rfl : fn = Tryz.f3 := (Option.some.inj (Tryz.func3.symm.trans hfn)).symm
      refine ⟨by kernel_rfl, fun j t ht => ?_⟩
      rw [Tryz.params3] at ht
      match j, ht with
      | 0, ht => cases ht; exact (show Tryz.prog.wantsStandIn 22 = false by kernel_rfl)
      | 1, ht => cases ht; exact (show Tryz.prog.wantsStandIn 35 = false by kernel_rfl)
      | 2, ht => cases ht; exact (show Tryz.prog.wantsStandIn 37 = false by kernel_rfl)
      | n + 3, ht => simp at ht)
    (by kernel_rfl)
end Go.Proofs.YtakedlockchpcaaGreatDoor
