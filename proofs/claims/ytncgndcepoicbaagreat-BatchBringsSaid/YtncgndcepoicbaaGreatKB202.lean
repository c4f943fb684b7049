/-
  A part of what the last of these texts needs; by itself it proves no statement.
-/
import Derived.ChangeKeysEq
import Derived.Test.YtncgndcepoicbaaGreatKB201
namespace Go.Proofs.YtncgndcepoicbaaGreat
open Go.RowKit
def exB : TbV := newT bthP (bthC 2 1)
def exB2 : TbV := stepF exB ⟨1, 3, [], 3, 0, (0, 0, 0, 0), 0⟩ 0
theorem exB_ok : TbOk exB := newT_ok bthP_ok bthC_ok
theorem exB_moves : movesF exB [1, 1, 1, 1, 1, 1, 1, 1] 5 3 = (mvL 5 [(1, [1, 3, 5]), (1, [7])], 0) ∧ movesF exB [1, 2, 1, 2, 1, 2, 1, 2] 0 1 = ([], 0) ∧ movesF exB [3, 2, 1, 2, 1, 2, 1, 2] 5 1 = ([], 16) := ⟨rfl, rfl, rfl⟩
theorem exB_level : levelF exB.act (b8.map (hasF exB.spans)) = [1, 2, 1, 2, 1, 2, 1, 2] ∧ tryF exB ⟨1, 3, [], 3, 0, (0, 0, 0, 0), 0⟩ 0 = 0 ∧ levelF exB2.act (b8.map (hasF exB2.spans)) = [1, 2, 1, 2, 1, 2, 3, 3] := ⟨by decide, by decide, by decide⟩
theorem putR_1 {a b c d e f g h x : Int} : putR (wnC [a, b, c, d, e, f, g, h]) (0 * 1) (Value.int .i64 x).cells = wnC [x, b, c, d, e, f, g, h] ∧ putR (wnC [a, b, c, d, e, f, g, h]) (1 * 1) (Value.int .i64 x).cells = wnC [a, x, c, d, e, f, g, h] ∧ putR (wnC [a, b, c, d, e, f, g, h]) (2 * 1) (Value.int .i64 x).cells = wnC [a, b, x, d, e, f, g, h] ∧ putR (wnC [a, b, c, d, e, f, g, h]) (3 * 1) (Value.int .i64 x).cells = wnC [a, b, c, x, e, f, g, h] ∧ putR (wnC [a, b, c, d, e, f, g, h]) (4 * 1) (Value.int .i64 x).cells = wnC [a, b, c, d, x, f, g, h] ∧ putR (wnC [a, b, c, d, e, f, g, h]) (5 * 1) (Value.int .i64 x).cells = wnC [a, b, c, d, e, x, g, h] ∧ putR (wnC [a, b, c, d, e, f, g, h]) (6 * 1) (Value.int .i64 x).cells = wnC [a, b, c, d, e, f, x, h] ∧ putR (wnC [a, b, c, d, e, f, g, h]) (7 * 1) (Value.int .i64 x).cells = wnC [a, b, c, d, e, f, g, x] := ⟨rfl, rfl, rfl, rfl, rfl, rfl, rfl, rfl⟩
theorem fill8 {a b c d e f g h : Int} : FilledA 1 zc61 [(0, .int .i64 a), (1, .int .i64 b), (2, .int .i64 c), (3, .int .i64 d), (4, .int .i64 e), (5, .int .i64 f), (6, .int .i64 g), (7, .int .i64 h)] (wnC [a, b, c, d, e, f, g, h]) := by
  rw [wnC_z8]
  unfold z8
  have hs : ∀ l : List Int, l.length = 8 → ∀ i : Nat, i < 8 → i * 1 + 1 ≤ (wnC l).size := fun l hl i hi => by rw [wnC_size hl]; omega
  simp only [FilledA, putR_1.1, putR_1.2.1, putR_1.2.2.1, putR_1.2.2.2.1, putR_1.2.2.2.2.1, putR_1.2.2.2.2.2.1, putR_1.2.2.2.2.2.2.1, putR_1.2.2.2.2.2.2.2]
  exact ⟨rfl, hs _ rfl 0 (by decide), rfl, hs _ rfl 1 (by decide), rfl, hs _ rfl 2 (by decide), rfl, hs _ rfl 3 (by decide), rfl, hs _ rfl 4 (by decide), rfl, hs _ rfl 5 (by decide), rfl, hs _ rfl 6 (by decide), rfl, hs _ rfl 7 (by decide), trivial⟩
instance : TBuildA Tryz.prog 61 zc61 1 := ⟨fun _ => by kernel_rfl⟩
theorem perm_wb1 {α : Type} (X3 X2 X1 S F : List α) : (S ++ (X3 ++ (X2 ++ (X1 ++ F)))).Perm (X3 ++ (X2 ++ (X1 ++ (S ++ F)))) := by
  classical
  rw [List.perm_iff_count]
  intro z
  simp only [List.count_append]
  omega
theorem jn_R : CmR ⟨1, 3, [], 3, 0, (0, 0, 0, 0), 0⟩ := ⟨i64q_of (by decide), i64q_of (by decide), fun b hb => (by cases hb), i64q_of (by decide), i64q_of (by decide), ⟨by decide, by decide, by decide, by decide⟩, i64q_of (by decide)⟩
theorem mv5_R : CmR (mvC 5 (1, [1, 3, 5])) := ⟨i64q_of (by decide), i64q_of (by decide), fun b hb => (by
  simp only [mvC, List.mem_cons, List.not_mem_nil, or_false] at hb
  rcases hb with rfl | rfl | rfl <;> exact i64q_of (by decide)), i64q_of (by decide), i64q_of (by decide), ⟨by decide, by decide, by decide, by decide⟩, i64q_of (by decide)⟩
theorem mv6_R : CmR (mvC 6 (1, [7])) := ⟨i64q_of (by decide), i64q_of (by decide), fun b hb => (by
  simp only [mvC, List.mem_cons, List.not_mem_nil, or_false] at hb
  subst hb
  exact i64q_of (by decide)), i64q_of (by decide), i64q_of (by decide), ⟨by decide, by decide, by decide, by decide⟩, i64q_of (by decide)⟩
attribute [local irreducible] Fn WC WL WR OW Qt YieldFn QW FnP FnD FnE
theorem move_fn10 {a to : Int} {bv : Value} {x : CmV} {ab : Option Addr} {n cb : Nat} (hb : bv = .slice ab n cb) (hx : x = ⟨0, a, x.bins, to, 0, (0, 0, 0, 0), 0⟩) {L : List (Nat × Obj)} : Fn Tryz.prog 91 [iV a, iV to, bv] L (fun v L' => v = .agg (cmC x bv).toArray ∧ L' = L) := by
  subst hb
  rw [hx]
  refine Fn_enter Tryz.func91 rfl Tryz.ntmps91 rfl fun g => ?_
  repeat (first | (refine WL_Q ?_; (first | refine QW_a ?_ | refine QW_of (Qt_ldX rfl (hn := by with_reducible assumption)) ?_ | refine QW_of (Qt_buildA rfl (hf := fill8)) ?_ | refine QW_of (Qt_eqlW rfl) ?_)) | (refine WL_op rfl ?_; (first | refine OW_alloc rfl (hk := fun _ => ?_) | refine OW_stA rfl ?_ | refine OW_stN rfl ?_)) | refine WL_nil ?_ | refine WC_seq ?_ | refine WC_ret ?_ | refine WC_region ?_)
  exact ⟨rfl, _, _, Res1 rfl (resV_cellN (n := 10) rfl 0 rfl rfl), .cons _ (.refl _), rfl, rfl⟩
set_option maxHeartbeats 8000000 in
theorem works10_fn (L : List (Nat × Obj)) : Fn Tryz.prog 30 [] L (fun v L' => v = .bool true ∧ L' = L) := by
  obtain ⟨m1, m2, m3⟩ := exB_moves
  obtain ⟨l1, l2, l3⟩ := exB_level
  have hv0 : StpsAt L (.slice none 0 0) [] := ⟨none, 0, rfl, Nat.le_refl _, Nat.zero_le _, fun j x h => by simp at h⟩
  have hbf : Fn Tryz.prog 31 [.int .u8 2, .int .u8 1, .slice none 0 0] L (fun r L' => ∃ tb rb S F, r = .tuple #[.pointer (some ⟨tb, 0, none⟩), .pointer (some ⟨rb, 0, none⟩)] ∧ L' = S ++ F ∧ L.Sublist F ∧ TabAt tb S F exB) := (both_fn (w := 2) (a := 1) (by decide) (by decide) hv0).mono (by
    rintro r L' ⟨tb, rb, S, G, t, h1, h2, h4, _, _, _, h8⟩
    exact ⟨tb, rb, S, G ++ L, h1, h2, List.sublist_append_right _ _, by rw [← show t = exB from h8 rfl]; exact h4.mem fun q hq => List.mem_append_left _ hq⟩)
  refine Fn_enter Tryz.func30 rfl Tryz.ntmps30 rfl fun g => ?_
  repeat (first | (refine WL_Q ?_; (first | refine QW_a ?_ | refine QW_of (Qt_ldX rfl (hn := by with_reducible assumption)) ?_ | refine QW_of (Qt_buildA rfl (hf := fill8)) ?_ | refine QW_of (Qt_eqlW rfl) ?_)) | (refine WL_op rfl ?_; (first | (refine OW_call rfl (hF := hbf) (hk := ?_); rintro _ _ ⟨tb, rb, S, F, rfl, rfl, hLF, hTab⟩))) | refine WL_nil ?_ | refine WC_seq ?_ | refine WC_cond_t (ht := ?_) | refine WC_cond_f (he := ?_) | refine WC_skip ?_ | refine WC_ret ?_ | refine WG 0 ?_ | refine WG 1 ?_ | refine WG 2 ?_)
  have hT := exB_ok
  have hB0 : ∀ x ∈ exB.cmds, x.bins.length ≤ 1000 := fun x hx => by cases hx
  have hIn : ∀ M : List (Nat × Obj), (∀ q ∈ S ++ F, q ∈ M) → TabIn tb M exB := fun M h => hTab.tabIn (fun q hq => h q (List.mem_append_left _ hq)) (fun q hq => h q (List.mem_append_right _ hq))
  have hM1 : Fn Tryz.prog 36 [.pointer (some ⟨tb, 0, none⟩), .agg (wnC [1, 1, 1, 1, 1, 1, 1, 1]), iV 5, iV 3] (S ++ F) (fun v L' => ∃ X lv lc, L' = X ++ (S ++ F) ∧ v = .tuple #[lv, iV 0] ∧ VecM 10 X lv 2 lc.flatten ∧ CmsAt X lc (mvL 5 [(1, [1, 3, 5]), (1, [7])])) := by
    have := Moves_fn (want := [1, 1, 1, 1, 1, 1, 1, 1]) (a := 5) (most := 3) (hIn _ fun _ h => h) hT hB0 rfl (by decide)
    rw [m1] at this
    exact this
  have hM2 : ∀ M, (∀ q ∈ S ++ F, q ∈ M) → Fn Tryz.prog 36 [.pointer (some ⟨tb, 0, none⟩), .agg (wnC [1, 2, 1, 2, 1, 2, 1, 2]), iV 0, iV 1] M (fun v L' => ∃ X2 lv lc, L' = X2 ++ M ∧ v = .tuple #[lv, iV 0] ∧ VecM 10 X2 lv 0 (List.flatten lc)) := fun M h => by
    have := Moves_fn (want := [1, 2, 1, 2, 1, 2, 1, 2]) (a := 0) (most := 1) (hIn M h) hT hB0 rfl (by decide)
    rw [m2] at this
    exact this.mono fun v L' ⟨X2, lv, lc, h1, h2, h3, _⟩ => ⟨X2, lv, lc, h1, h2, h3⟩
  have hM3 : ∀ M, (∀ q ∈ S ++ F, q ∈ M) → Fn Tryz.prog 36 [.pointer (some ⟨tb, 0, none⟩), .agg (wnC [3, 2, 1, 2, 1, 2, 1, 2]), iV 5, iV 1] M (fun v L' => ∃ X2 lv, L' = X2 ++ M ∧ v = .tuple #[lv, iV 16]) := fun M h => by
    have := Moves_fn (want := [3, 2, 1, 2, 1, 2, 1, 2]) (a := 5) (most := 1) (hIn M h) hT hB0 rfl (by decide)
    rw [m3] at this
    exact this.mono fun v L' ⟨X2, lv, lc, h1, h2, _, _⟩ => ⟨X2, lv, h1, h2⟩
  repeat (first | (refine WL_Q ?_; (first | refine QW_a ?_ | refine QW_of (Qt_ldX rfl (hn := by with_reducible assumption)) ?_ | refine QW_of (Qt_buildA rfl (hf := fill8)) ?_ | refine QW_of (Qt_eqlW rfl) ?_)) | refine WL_nil ?_ | refine WC_seq ?_ | refine WC_cond_t (ht := ?_) | refine WC_cond_f (he := ?_) | refine WC_skip ?_ | refine WC_ret ?_ | refine WG 4 ?_)
  refine WL_op rfl (OW_call rfl (hF := hM1) (hk := ?_))
  rintro _ _ ⟨X1, v3, lc3, rfl, rfl, hV3, hC3⟩
  repeat (first | (refine WL_Q ?_; (first | refine QW_a ?_ | refine QW_of (Qt_ldX rfl (hn := by with_reducible assumption)) ?_ | refine QW_of (Qt_buildA rfl (hf := fill8)) ?_ | refine QW_of (Qt_eqlW rfl) ?_)) | refine WL_nil ?_ | refine WC_seq ?_ | refine WC_cond_t (ht := ?_) | refine WC_cond_f (he := ?_) | refine WC_skip ?_ | refine WC_ret ?_ | refine WG 4 ?_ | refine WG 5 ?_)
  refine WL_op rfl (OW_call rfl (hF := hM2 _ fun q hq => List.mem_append_right _ hq) (hk := ?_))
  rintro _ _ ⟨X2, v5, lc5, rfl, rfl, hV5⟩
  obtain ⟨_, a5, c5, rfl, _⟩ := id hV5
  repeat (first | (refine WL_Q ?_; (first | refine QW_a ?_ | refine QW_of (Qt_ldX rfl (hn := by with_reducible assumption)) ?_ | refine QW_of (Qt_buildA rfl (hf := fill8)) ?_ | refine QW_of (Qt_eqlW rfl) ?_)) | refine WL_nil ?_ | refine WC_seq ?_ | refine WC_cond_t (ht := ?_) | refine WC_cond_f (he := ?_) | refine WC_skip ?_ | refine WC_ret ?_ | refine WG 5 ?_ | refine WG 6 ?_)
  refine WL_op rfl (OW_call rfl (hF := hM3 _ fun q hq => List.mem_append_right _ (List.mem_append_right _ hq)) (hk := ?_))
  rintro _ _ ⟨X3, v7, rfl, rfl⟩
  repeat (first | (refine WL_Q ?_; (first | refine QW_a ?_ | refine QW_of (Qt_ldX rfl (hn := by with_reducible assumption)) ?_ | refine QW_of (Qt_buildA rfl (hf := fill8)) ?_ | refine QW_of (Qt_eqlW rfl) ?_)) | refine WL_nil ?_ | refine WC_seq ?_ | refine WC_cond_t (ht := ?_) | refine WC_cond_f (he := ?_) | refine WC_skip ?_ | refine WC_ret ?_ | refine WG 6 ?_)
  refine WC_wk [(8, iV 16), (6, iV 0), (5, .slice a5 0 c5), (4, iV 0), (3, v3), (1, .pointer (some ⟨tb, 0, none⟩))] ⟨rfl, rfl, rfl, rfl, rfl, rfl, trivial⟩ ?_
  obtain ⟨F1, hF1⟩ : ∃ F1, F1 = X3 ++ (X2 ++ (X1 ++ F)) := ⟨_, rfl⟩
  have hFF1 : F.Sublist F1 := by rw [hF1]; exact (List.sublist_append_right X1 F).trans ((List.sublist_append_right X2 _).trans (List.sublist_append_right X3 _))
  have hX1F : ∀ q ∈ X1, q ∈ F1 := fun q hq => by rw [hF1]; exact List.mem_append_right _ (List.mem_append_right _ (List.mem_append_left _ hq))
  refine WC_permT (L' := S ++ F1) (by rw [hF1]; exact perm_wb1 ..) ?_
  have hTab1 : TabAt tb S F1 exB := hTab.mem fun q hq => hFF1.mem hq
  have hlv := Level_fn (hTab1.tabIn (L := S ++ F1) (fun q hq => List.mem_append_left _ hq) (fun q hq => List.mem_append_right _ hq)) hT
  rw [l1] at hlv
  have hsz : (wnC [1, 2, 1, 2, 1, 2, 1, 2]).size = 8 := rfl
  have hall := wnC_all (want := [1, 2, 1, 2, 1, 2, 1, 2])
  repeat (first | (refine WL_Q ?_; (first | refine QW_a ?_ | refine QW_of (Qt_ldX rfl (hn := by with_reducible assumption)) ?_ | refine QW_of (Qt_buildA rfl (hf := fill8)) ?_ | refine QW_of (Qt_eqlW rfl) ?_)) | (refine WL_op rfl ?_; (first | refine OW_alloc rfl (hk := fun _ => ?_) | refine OW_stA rfl ?_ | refine OW_stN rfl ?_ | refine OW_callP rfl (hF := hlv) (hk := ?_))) | refine WL_nil ?_ | refine WC_seq ?_ | refine WC_cond_t (ht := ?_) | refine WC_cond_f (he := ?_) | refine WC_skip ?_ | refine WC_ret ?_ | refine WG 7 ?_ | refine WG 8 ?_)
  rename_i x9
  refine WL_permT (L' := S ++ ((x9, Obj.cells (wnC [1, 2, 1, 2, 1, 2, 1, 2]) 61 (0, 0)) :: F1)) List.perm_middle ?_
  refine WL_op rfl (OW_call rfl (hF := step_fn (F := (x9, Obj.cells (wnC [1, 2, 1, 2, 1, 2, 1, 2]) 61 (0, 0)) :: F1) (c := ⟨1, 3, [], 3, 0, (0, 0, 0, 0), 0⟩) (bv := .slice none 0 0) (floor := 0) hT hTab1 (fun q hq => .tail _ hq) (VecM.nil _ _) jn_R (by decide)) (hk := ?_))
  rintro _ _ ⟨rfl, S1, X4, rfl, hTab2⟩
  have hTab2 : TabAt tb S1 (X4 ++ F1) exB2 := hTab2
  have hT2 : TbOk exB2 := stepF_ok hT
  rw [l2]
  obtain ⟨M, hM⟩ : ∃ M, M = S1 ++ (X4 ++ (x9, Obj.cells (wnC [1, 2, 1, 2, 1, 2, 1, 2]) 61 (0, 0)) :: F1) := ⟨_, rfl⟩
  have hFM : F1.Sublist M := by rw [hM]; exact (List.Sublist.cons _ (.refl _)).trans ((List.sublist_append_right X4 _).trans (List.sublist_append_right S1 _))
  have hIn2 : TabIn tb M exB2 := by
    rw [hM]
    exact hTab2.tabIn (fun q hq => List.mem_append_left _ hq) (fun q hq => by
      rcases List.mem_append.1 hq with h | h
      · exact List.mem_append_right _ (List.mem_append_left _ h)
      · exact List.mem_append_right _ (List.mem_append_right _ (.tail _ h)))
  have h9M : (x9, Obj.cells (wnC [1, 2, 1, 2, 1, 2, 1, 2]) 61 (0, 0)) ∈ M := by rw [hM]; exact List.mem_append_right _ (List.mem_append_right _ (.head _))
  have hLM : L.Sublist M := hLF.trans (hFF1.trans hFM)
  have hV3M := hV3.mem (G' := M) fun q hq => hFM.mem (hX1F q hq)
  have hC3M := hC3.mem (G' := M) fun q hq => hFM.mem (hX1F q hq)
  rw [← hM]
  clear hM
  repeat (first | ((first | refine WL_Q ?_ | refine WL_Y ?_); (first | refine QW_a ?_ | refine QW_of (Qt_ldX rfl (hn := by with_reducible assumption)) ?_ | refine QW_of (Qt_buildA rfl (hf := fill8)) ?_ | refine QW_of (Qt_eqlW rfl) ?_)) | ((first | refine WL_op rfl ?_ | refine WL_yes (h := ?_)); (first | refine OW_build1 rfl (hk := fun _ => ?_) | refine OW_callP rfl (hF := hlv) (hk := ?_))) | refine WL_nil ?_ | refine WL_un (h := ?_) | refine WL_N ?_ | refine WL_M ?_ | refine WC_seq ?_ | refine WC_cond_t (ht := ?_) | refine WC_cond_f (he := ?_) | refine WC_skip ?_ | refine WC_ret ?_ | refine WG 8 ?_ | refine WG 9 ?_)
  refine WL_yes rfl rfl rfl rfl rfl (OW_buildS rfl (hk := ?_))
  intro xa
  repeat (first | ((first | refine WL_Q ?_ | refine WL_Y ?_); (first | refine QW_a ?_ | refine QW_of (Qt_ldX rfl (hn := by with_reducible assumption)) ?_ | refine QW_of (Qt_buildA rfl (hf := fill8)) ?_ | refine QW_of (Qt_eqlW rfl) ?_)) | ((first | refine WL_op rfl ?_ | refine WL_yes (h := ?_)); (first | refine OW_build1 rfl (hk := fun _ => ?_) | refine OW_callP rfl (hF := hlv) (hk := ?_) | refine OW_callP rfl (hF := move_fn10 (x := mvC 5 (1, [1, 3, 5])) rfl rfl) (hk := ?_))) | refine WL_nil ?_ | refine WL_un (h := ?_) | refine WL_N ?_ | refine WL_M ?_ | refine WC_seq ?_ | refine WC_cond_t (ht := ?_) | refine WC_cond_f (he := ?_) | refine WC_skip ?_ | refine WC_ret ?_ | refine WG 9 ?_)
  rename_i xb
  repeat (first | ((first | refine WL_Q ?_ | refine WL_Y ?_); (first | refine QW_a ?_ | refine QW_of (Qt_ldX rfl (hn := by with_reducible assumption)) ?_ | refine QW_of (Qt_buildA rfl (hf := fill8)) ?_ | refine QW_of (Qt_eqlW rfl) ?_)) | ((first | refine WL_op rfl ?_ | refine WL_yes (h := ?_)); (first | refine OW_build1 rfl (hk := fun _ => ?_) | refine OW_callP rfl (hF := hlv) (hk := ?_) | refine OW_callP rfl (hF := move_fn10 (x := mvC 6 (1, [7])) rfl rfl) (hk := ?_))) | refine WL_nil ?_ | refine WL_un (h := ?_) | refine WL_N ?_ | refine WL_M ?_ | refine WC_seq ?_ | refine WC_cond_t (ht := ?_) | refine WC_cond_f (he := ?_) | refine WC_skip ?_ | refine WC_ret ?_ | refine WG 9 ?_)
  refine WL_yes rfl rfl rfl rfl rfl (OW_buildS rfl (hk := ?_))
  intro xc
  refine WL_permT (L' := (xc, Obj.cells (cmC (mvC 5 (1, [1, 3, 5])) (.slice (some ⟨xa, 0, none⟩) 3 3) ++ cmC (mvC 6 (1, [7])) (.slice (some ⟨xb, 0, none⟩) 1 1)).toArray 42 (0, 0)) :: (xb, Obj.cells #[iV 7] 3 (0, 0)) :: (xa, Obj.cells #[iV 1, iV 3, iV 5] 3 (0, 0)) :: M) (.refl _) ?_
  obtain ⟨N, hN⟩ : ∃ N, N = (xc, Obj.cells (cmC (mvC 5 (1, [1, 3, 5])) (.slice (some ⟨xa, 0, none⟩) 3 3) ++ cmC (mvC 6 (1, [7])) (.slice (some ⟨xb, 0, none⟩) 1 1)).toArray 42 (0, 0)) :: (xb, Obj.cells #[iV 7] 3 (0, 0)) :: (xa, Obj.cells #[iV 1, iV 3, iV 5] 3 (0, 0)) :: M := ⟨_, rfl⟩
  have hMN : M.Sublist N := by rw [hN]; exact .cons _ (.cons _ (.cons _ (.refl _)))
  have hVa : VecM 1 N (.slice (some ⟨xa, 0, none⟩) 3 3) 3 ([1, 3, 5].map iV) := ⟨rfl, _, 3, rfl, Nat.le_refl _, by decide, .inr ⟨xa, 0, _, _, _, rfl, by rw [hN]; exact .tail _ (.tail _ (.head _)), fun j x hj => by rw [Nat.zero_add]; simpa using hj⟩⟩
  have hVb : VecM 1 N (.slice (some ⟨xb, 0, none⟩) 1 1) 1 ([7].map iV) := ⟨rfl, _, 1, rfl, Nat.le_refl _, by decide, .inr ⟨xb, 0, _, _, _, rfl, by rw [hN]; exact .tail _ (.head _), fun j x hj => by rw [Nat.zero_add]; simpa using hj⟩⟩
  have hVc : VecM 10 N (.slice (some ⟨xc, 0, none⟩) 2 2) 2 (List.flatten [cmC (mvC 5 (1, [1, 3, 5])) (.slice (some ⟨xa, 0, none⟩) 3 3), cmC (mvC 6 (1, [7])) (.slice (some ⟨xb, 0, none⟩) 1 1)]) := ⟨rfl, _, 2, rfl, Nat.le_refl _, by decide, .inr ⟨xc, 0, _, _, _, rfl, by rw [hN]; exact .head _, fun j x hj => by rw [Nat.zero_add]; simpa using hj⟩⟩
  have hCc : CmsAt N [cmC (mvC 5 (1, [1, 3, 5])) (.slice (some ⟨xa, 0, none⟩) 3 3), cmC (mvC 6 (1, [7])) (.slice (some ⟨xb, 0, none⟩) 1 1)] (mvL 5 [(1, [1, 3, 5]), (1, [7])]) := ⟨⟨_, rfl, hVa, mv5_R⟩, ⟨_, rfl, hVb, mv6_R⟩, trivial⟩
  have hV3N := hV3M.mem (G' := N) fun q hq => hMN.mem hq
  have hC3N := hC3M.mem (G' := N) fun q hq => hMN.mem hq
  have hInN := hIn2.mem (L' := N) fun q hq => hMN.mem hq
  have hlv2 := Level_fn hInN hT2
  rw [l3] at hlv2
  obtain ⟨i9, hi9⟩ := List.mem_iff_getElem?.1 (hMN.mem h9M)
  have hLN := hLM.trans hMN
  have e2 : decide (([1, 2, 1, 2, 1, 2, 1, 2] : List Int) = [1, 2, 1, 2, 1, 2, 1, 2]) = true := by decide
  have e3 : decide (([1, 2, 1, 2, 1, 2, 3, 3] : List Int) = [1, 2, 1, 2, 1, 2, 3, 3]) = true := by decide
  rw [← hN]
  clear hN
  repeat (first | ((first | refine WL_Q ?_ | refine WL_Y ?_); (first | refine QW_a ?_ | refine QW_of (Qt_ldX rfl (hn := by with_reducible assumption)) ?_ | refine QW_of (Qt_buildA rfl (hf := fill8)) ?_ | refine QW_of (Qt_eqlW rfl) ?_)) | ((first | refine WL_op rfl ?_ | refine WL_yes (h := ?_)); (first | refine OW_build1 rfl (hk := fun _ => ?_) | refine OW_callP rfl (hF := move_fn10 (x := mvC 6 (1, [7])) rfl rfl) (hk := ?_) | refine OW_callP rfl (hF := hlv2) (hk := ?_) | refine OW_callP rfl (hF := same_fn (l := mvL 5 [(1, [1, 3, 5]), (1, [7])]) hV3N hC3N hVc hCc) (hk := ?_))) | refine WL_nil ?_ | refine WL_un (h := ?_) | refine WL_N ?_ | refine WL_M ?_ | refine WC_seq ?_ | refine WC_cond_t (ht := ?_) | refine WC_cond_f (he := ?_) | refine WC_skip ?_ | refine WC_ret ?_ | refine WG 9 ?_)
  exact ⟨rfl, _, _, Res1 rfl (resV_tmp rfl), hLN, by first | rfl | rw [e3], rfl⟩
end Go.Proofs.YtncgndcepoicbaaGreat
