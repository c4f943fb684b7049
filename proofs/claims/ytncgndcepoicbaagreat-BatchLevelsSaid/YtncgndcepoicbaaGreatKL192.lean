/-
  A part of what the last of these texts needs; by itself it proves no statement.
-/
import Derived.Test.YtncgndcepoicbaaGreatKL191
namespace Go.Proofs.YtncgndcepoicbaaGreat
open Go.RowKit
abbrev stpC (w b t f : Int) : Array Value := #[.int .u8 w, .int .u8 b, .int .u8 t, .int .u16 f]
attribute [local irreducible] Fn WC WL WR OW Qt YieldFn QW FnP FnD FnE
set_option maxHeartbeats 2000000 in
theorem scmd_fn {w b to f last : Int} (hw : 0 ≤ w ∧ w < 256) (_hb : 0 ≤ b ∧ b < 256) (ht : 0 ≤ to ∧ to < 256) (hf : 0 ≤ f ∧ f < 65536) (hl : 0 ≤ last ∧ last ≤ 1099511627776) {L : List (Nat × Obj)} :
    Fn Tryz.prog 92 [.agg (stpC w b to f), iV last] L (fun v L' => ∃ x bv T, v = .agg (cmC x bv).toArray ∧ L' = T ++ L ∧ VecM 1 T bv x.bins.length (x.bins.map iV) ∧ CmR x ∧ x.bins.length ≤ 8 ∧ last < x.at_ ∧ x.at_ ≤ last + 65536) := by
  refine Fn_enter Tryz.func92 rfl Tryz.ntmps92 rfl fun g => ?_
  have w4 : IntKind.i64.wrap (w.tmod 4) = w % 4 := by rw [Int.tmod_eq_emod_of_nonneg hw.1, wI64 (by omega) (by omega)]
  have wt : IntKind.i64.wrap (1 + IntKind.i64.wrap (to.tmod 3)) = 1 + to % 3 := wr_mod ht.1 (by decide) (by decide) (by decide)
  have wf : IntKind.i64.wrap (IntKind.i64.wrap (last + 1) + IntKind.i64.wrap f) = last + 1 + f := by rw [wI64 (x := last + 1) (by omega) (by omega), wI64 (x := f) (by omega) (by omega), wI64 (by omega) (by omega)]
  repeat (first | (refine WL_Q ?_; (first | refine QW_a ?_ | refine QW_of (Qt_ldX rfl (hn := by with_reducible assumption)) ?_ | refine QW_of (Qt_shr rfl (hb := by with_reducible assumption)) ?_)) | (refine WL_op rfl ?_; (first | refine OW_alloc rfl (hk := fun _ => ?_) | refine OW_box rfl (hk := fun _ => ?_) | refine OW_stA rfl ?_ | refine OW_stN rfl ?_)) | refine WL_nil ?_ | refine WC_seq ?_ | refine WC_block ?_ | refine WC_cond_t (ht := ?_) | refine WC_cond_f (he := ?_) | refine WC_skip ?_ | refine WC_ret ?_ | refine WC_exit ?_ | refine WG 0 ?_ | refine WG 1 ?_)
  rw [w4, wt, wf]
  rename_i x2 x4 x5
  refine WC_wk [(5, .pointer (some ⟨x5, 0, none⟩)), (4, .pointer (some ⟨x4, 0, none⟩)), (2, .pointer (some ⟨x2, 0, none⟩))] ⟨rfl, rfl, rfl, trivial⟩ ?_
  refine WC_permT (L' := (x5, Obj.cells (cmC ⟨w % 4, last + 1 + f, [], 1 + to % 3, 0, (0, 0, 0, 0), 0⟩ (.slice none 0 0)).toArray 42 (0, 0)) :: (x4, Obj.cells zc42 42 (0, 0)) :: (x2, Obj.cells (stpC w b to f) 166 (0, 0)) :: L) (.refl _) ?_
  have hsz0 : (cmC ⟨w % 4, last + 1 + f, [], 1 + to % 3, 0, (0, 0, 0, 0), 0⟩ (.slice none 0 0)).toArray.size = 10 := rfl
  refine WC_meet2 (fun σ => ∃ kd : Int, 0 ≤ kd ∧ kd ≤ 2 ∧ σ = ⟨[(5, .pointer (some ⟨x5, 0, none⟩)), (4, .pointer (some ⟨x4, 0, none⟩)), (2, .pointer (some ⟨x2, 0, none⟩))], [], (x5, Obj.cells (cmC ⟨kd, last + 1 + f, [], 1 + to % 3, 0, (0, 0, 0, 0), 0⟩ (.slice none 0 0)).toArray 42 (0, 0)) :: (x4, Obj.cells zc42 42 (0, 0)) :: (x2, Obj.cells (stpC w b to f) 166 (0, 0)) :: L⟩) ?_ ?_
  · by_cases h0 : w % 4 > 0
    · have d1 : decide (w % 4 > 0) = true := decide_eq_true h0
      have wk : IntKind.i64.wrap (w % 4 - 1) = w % 4 - 1 := wI64 (by omega) (by omega)
      repeat (first | (refine WL_Q ?_; (first | refine QW_a ?_ | refine QW_of (Qt_ldX rfl (hn := by with_reducible assumption)) ?_ | refine QW_of (Qt_shr rfl (hb := by with_reducible assumption)) ?_)) | (refine WL_op rfl ?_; (first | refine OW_st1 rfl ?_)) | refine WL_nil ?_ | refine WC_seq ?_ | refine WC_block ?_ | refine WC_cond_t (ht := ?_) | refine WC_cond_f (he := ?_) | refine WC_skip ?_ | refine WC_ret ?_ | refine WC_exit ?_ | refine WG 2 ?_ | refine WG 3 ?_)
      rw [wk]
      exact ⟨_, ⟨w % 4 - 1, by omega, by omega, rfl⟩, ⟨rfl, rfl, rfl, trivial⟩, rfl, .refl _⟩
    · have d1 : decide (w % 4 > 0) = false := decide_eq_false h0
      repeat (first | (refine WL_Q ?_; (first | refine QW_a ?_ | refine QW_of (Qt_ldX rfl (hn := by with_reducible assumption)) ?_ | refine QW_of (Qt_shr rfl (hb := by with_reducible assumption)) ?_)) | refine WL_nil ?_ | refine WC_seq ?_ | refine WC_block ?_ | refine WC_cond_t (ht := ?_) | refine WC_cond_f (he := ?_) | refine WC_skip ?_ | refine WC_ret ?_ | refine WC_exit ?_ | refine WG 2 ?_)
      exact ⟨_, ⟨w % 4, by omega, by omega, rfl⟩, ⟨rfl, rfl, rfl, trivial⟩, rfl, .refl _⟩
  rintro _ ⟨kd, hk0, hk2, rfl⟩
  repeat (first | (refine WL_Q ?_; (first | refine QW_a ?_ | refine QW_of (Qt_ldX rfl (hn := by with_reducible assumption)) ?_ | refine QW_of (Qt_shr rfl (hb := by with_reducible assumption)) ?_)) | refine WL_nil ?_ | refine WC_seq ?_ | refine WC_block ?_ | refine WC_cond_t (ht := ?_) | refine WC_cond_f (he := ?_) | refine WC_skip ?_ | refine WC_ret ?_ | refine WC_exit ?_ | refine WG 4 ?_)
  obtain ⟨c0, hc0⟩ : ∃ c0 : CmV, c0 = ⟨kd, last + 1 + f, [], 1 + to % 3, 0, (0, 0, 0, 0), 0⟩ := ⟨_, rfl⟩
  have hcm0 : ∀ v : Value, (cmC c0 v).toArray[0]? = some (iV kd) := fun v => by rw [hc0]; rfl
  have hcm2 : ∀ v : Value, (cmC c0 v).toArray[2]? = some v := fun v => rfl
  have hcsz : ∀ v : Value, (cmC c0 v).toArray.size = 10 := fun v => rfl
  rw [← hc0]
  refine WC_wk [(6, iV ((0 : Nat) : Int)), (5, .pointer (some ⟨x5, 0, none⟩)), (4, .pointer (some ⟨x4, 0, none⟩)), (2, .pointer (some ⟨x2, 0, none⟩))] ⟨rfl, rfl, rfl, rfl, trivial⟩ ?_
  refine WC_loop (fun m σ => ∃ (k : Nat) (bl : List Int) (v : Value) (T : List (Nat × Obj)), m = 8 - k ∧ k ≤ 8 ∧ bl.length ≤ k ∧ (∀ y ∈ bl, 0 ≤ y ∧ y < 8) ∧ BufI v T bl ∧ σ = ⟨[(6, iV (k : Int)), (5, .pointer (some ⟨x5, 0, none⟩)), (4, .pointer (some ⟨x4, 0, none⟩)), (2, .pointer (some ⟨x2, 0, none⟩))], [], (x5, Obj.cells (cmC c0 v).toArray 42 (0, 0)) :: (x4, Obj.cells zc42 42 (0, 0)) :: (x2, Obj.cells (stpC w b to f) 166 (0, 0)) :: (T ++ L)⟩) 8 ⟨0, [], _, [], rfl, by decide, Nat.le_refl _, by simp, Buf.nil _ _, rfl⟩ ?_
  rintro _ σ ⟨k, bl, v, T, rfl, hk, hbl, hbr, hbf, rfl⟩
  obtain ⟨av, cv, rfl, _, _⟩ := id hbf.val
  have e0 := hcm0 (.slice av bl.length cv)
  have e2 := hcm2 (.slice av bl.length cv)
  have es := hcsz (.slice av bl.length cv)
  by_cases h8 : k < 8
  rotate_left
  · have d1 : decide ((k : Int) < 8) = false := decide_eq_false (by omega)
    have hall := (show CmAt T (cmC { c0 with bins := bl } (.slice av bl.length cv)) { c0 with bins := bl } from ⟨_, rfl, Buf.vecM hbf, ⟨(by rw [hc0]; unfold i64q; simp only; omega), (by rw [hc0]; unfold i64q; simp only; omega), fun y hy => by have := hbr y hy; unfold i64q; omega, (by rw [hc0]; unfold i64q; simp only; omega), (by rw [hc0]; exact i64q_of (x := 0) (by decide)), (by rw [hc0]; exact ⟨i64q_of (x := 0) (by decide), i64q_of (x := 0) (by decide), i64q_of (x := 0) (by decide), i64q_of (x := 0) (by decide)⟩), (by rw [hc0]; exact i64q_of (x := 0) (by decide))⟩⟩)
    have ha2 : ((cmC c0 (.slice av bl.length cv)).toArray.toList.all fun v => v.oneCell') = true := hall.all
    repeat (first | (refine WL_Q ?_; (first | refine QW_a ?_ | refine QW_of (Qt_ldX rfl (hn := by with_reducible assumption)) ?_ | refine QW_of (Qt_shr rfl (hb := by with_reducible assumption)) ?_)) | (refine WL_op rfl ?_; (first | refine OW_stA rfl ?_ | refine OW_stN rfl ?_)) | refine WL_nil ?_ | refine WC_seq ?_ | refine WC_block ?_ | refine WC_cond_t (ht := ?_) | refine WC_cond_f (he := ?_) | refine WC_skip ?_ | refine WC_ret ?_ | refine WC_exit ?_ | refine WG 5 ?_ | refine WG 9 ?_)
    obtain ⟨_, _, hV, hR⟩ := hall
    exact ⟨rfl, _, _, Res1 rfl (resV_cellN (n := 10) rfl 1 rfl rfl), .cons _ (.cons _ (.cons _ (.refl _))), { c0 with bins := bl }, .slice av bl.length cv, T, rfl, rfl, Buf.vecM hbf, hR, by simp only; omega, by rw [hc0]; simp only; omega, by rw [hc0]; simp only; omega⟩
  have d1 : decide ((k : Int) < 8) = true := decide_eq_true (by omega)
  have ww : IntKind.i64.wrap ((k : Int) + 1) = ((k + 1 : Nat) : Int) := by rw [wI64 (by omega) (by omega)]; omega
  have p0 : (0 : Int) ≤ (k : Int) := by omega
  cases hkd : (kd == 0)
  · repeat (first | ((first | refine WL_Q ?_ | refine WL_Y ?_); (first | refine QW_a ?_ | refine QW_of (Qt_ldX rfl (hn := by with_reducible assumption)) ?_ | refine QW_of (Qt_shr rfl (hb := by with_reducible assumption)) ?_)) | refine WL_nil ?_ | refine WL_un (h := ?_) | refine WL_N ?_ | refine WL_M ?_ | refine WC_seq ?_ | refine WC_block ?_ | refine WC_cond_t (ht := ?_) | refine WC_cond_f (he := ?_) | refine WC_skip ?_ | refine WC_ret ?_ | refine WC_exit ?_ | refine WG 5 ?_ | refine WG 7 ?_ | refine WG 6 ?_)
    rw [ww]
    exact ⟨_, _, by omega, ⟨k + 1, bl, _, T, rfl, by omega, by omega, hbr, hbf, rfl⟩, ⟨rfl, rfl, rfl, rfl, trivial⟩, rfl, .refl _⟩
  repeat (first | ((first | refine WL_Q ?_ | refine WL_Y ?_); (first | refine QW_a ?_ | refine QW_of (Qt_ldX rfl (hn := by with_reducible assumption)) ?_ | refine QW_of (Qt_shr rfl (hb := by with_reducible assumption)) ?_)) | refine WL_nil ?_ | refine WL_un (h := ?_) | refine WL_N ?_ | refine WL_M ?_ | refine WC_seq ?_ | refine WC_block ?_ | refine WC_cond_t (ht := ?_) | refine WC_cond_f (he := ?_) | refine WC_skip ?_ | refine WC_ret ?_ | refine WC_exit ?_ | refine WG 5 ?_ | refine WG 7 ?_)
  obtain ⟨tv, htv⟩ : ∃ tv : Bool, (IntKind.u8.wrap ((BitVec.ofInt IntKind.u8.bits (b.fdiv (2 ^ min ((k : Nat) : Int).toNat IntKind.u8.bits)) &&& BitVec.ofInt IntKind.u8.bits 1).toNat : Int) == 1) = tv := ⟨_, rfl⟩
  rw [htv]
  cases tv
  · repeat (first | ((first | refine WL_Q ?_ | refine WL_Y ?_); (first | refine QW_a ?_ | refine QW_of (Qt_ldX rfl (hn := by with_reducible assumption)) ?_ | refine QW_of (Qt_shr rfl (hb := by with_reducible assumption)) ?_)) | refine WL_nil ?_ | refine WL_un (h := ?_) | refine WL_N ?_ | refine WL_M ?_ | refine WC_seq ?_ | refine WC_block ?_ | refine WC_cond_t (ht := ?_) | refine WC_cond_f (he := ?_) | refine WC_skip ?_ | refine WC_ret ?_ | refine WC_exit ?_ | refine WG 7 ?_ | refine WG 6 ?_)
    rw [ww]
    exact ⟨_, _, by omega, ⟨k + 1, bl, _, T, rfl, by omega, by omega, hbr, hbf, rfl⟩, ⟨rfl, rfl, rfl, rfl, trivial⟩, rfl, .refl _⟩
  · repeat (first | ((first | refine WL_Q ?_ | refine WL_Y ?_); (first | refine QW_a ?_ | refine QW_of (Qt_ldX rfl (hn := by with_reducible assumption)) ?_ | refine QW_of (Qt_shr rfl (hb := by with_reducible assumption)) ?_)) | ((first | refine WL_op rfl ?_ | refine WL_yes (h := ?_)); (first | refine OW_build1 rfl (hk := fun _ => ?_) | refine OW_st1 rfl ?_)) | refine WL_nil ?_ | refine WL_un (h := ?_) | refine WL_N ?_ | refine WL_M ?_ | refine WC_seq ?_ | refine WC_block ?_ | refine WC_cond_t (ht := ?_) | refine WC_cond_f (he := ?_) | refine WC_skip ?_ | refine WC_ret ?_ | refine WC_exit ?_ | refine WG 7 ?_ | refine WG 8 ?_)
    rename_i xs
    refine WL_op rfl (OW_append_buf (A := [(xs, Obj.cells #[iV k] 3 (0, 0)), (x5, Obj.cells (cmC c0 (.slice av bl.length cv)).toArray 42 (0, 0)), (x4, Obj.cells zc42 42 (0, 0)), (x2, Obj.cells (stpC w b to f) 166 (0, 0))]) (T := T) (B := L) rfl rfl rfl rfl rfl hbf (src1 0 rfl) (by decide) (by simp only [maxLen]; omega) (by omega) ?_)
    intro v' T' hb'
    obtain ⟨av', cv', rfl, _, _⟩ := id hb'.val
    simp only [List.cons_append, List.nil_append]
    repeat (first | (refine WL_Q ?_; (first | refine QW_a ?_ | refine QW_of (Qt_ldX rfl (hn := by with_reducible assumption)) ?_ | refine QW_of (Qt_shr rfl (hb := by with_reducible assumption)) ?_)) | (refine WL_op rfl ?_; (first | refine OW_build1 rfl (hk := fun _ => ?_) | refine OW_st1 rfl ?_)) | refine WL_nil ?_ | refine WC_seq ?_ | refine WC_block ?_ | refine WC_cond_t (ht := ?_) | refine WC_cond_f (he := ?_) | refine WC_skip ?_ | refine WC_ret ?_ | refine WC_exit ?_ | refine WG 8 ?_ | refine WG 6 ?_)
    rw [ww]
    refine ⟨_, _, by omega, ⟨k + 1, bl ++ [(k : Int)], .slice av' (bl.length + 1) cv', T', rfl, by omega, by simp; omega, fun y hy => ?_, ?_, rfl⟩, ⟨rfl, rfl, rfl, rfl, trivial⟩, rfl, .cons _ (.refl _)⟩
    · rcases List.mem_append.1 hy with h | h
      · exact hbr y h
      · obtain rfl : y = k := by simpa using h
        omega
    · unfold BufI
      rw [List.length_append, List.map_append]
      exact hb'
end Go.Proofs.YtncgndcepoicbaaGreat
namespace Go.Proofs.YtncgndcepoicbaaGreat
open Go.RowKit
abbrev StpV := Int × Int × Int × Int
structure StpOk (x : StpV) : Prop where
  w : 0 ≤ x.1 ∧ x.1 < 256
  b : 0 ≤ x.2.1 ∧ x.2.1 < 256
  t : 0 ≤ x.2.2.1 ∧ x.2.2.1 < 256
  f : 0 ≤ x.2.2.2 ∧ x.2.2.2 < 65536
def StpsAt (L : List (Nat × Obj)) (v : Value) (l : List StpV) : Prop := ∃ a cap, v = .slice a l.length cap ∧ l.length ≤ cap ∧ cap ≤ maxLen ∧ ∀ (j : Nat) (x : StpV), l[j]? = some x → ∃ (q off : Nat) (cur : Array Value) (E : TypeId) (fr : Nat × Nat), a = some ⟨q, off, none⟩ ∧ (q, Obj.cells cur E fr) ∈ L ∧ StpOk x ∧ cur.extract (off + j * 4) (off + j * 4 + 4) = stpC x.1 x.2.1 x.2.2.1 x.2.2.2 ∧ off + j * 4 + 4 ≤ cur.size
def bthP : PlV := ⟨[], [((4, 5, 0, 0), [])], 0, 1⟩
def bthC (w a : Int) : CfV := (1 + w % 3, 1 + a % (1 + w % 3), 1, 1, 4)
theorem bthP_ok : (planF bthP).2 = 0 := by decide
theorem bthC_ok {w a : Int} : rightF (bthC w a) = true := by
  unfold bthC rightF
  apply decide_eq_true
  dsimp only
  have h1 := Int.emod_nonneg a (b := 1 + w % 3) (by omega)
  have h2 := Int.emod_lt_of_pos a (b := 1 + w % 3) (by omega)
  refine ⟨⟨by omega, by omega⟩, ⟨by omega, by omega⟩, ⟨by omega, by omega⟩, ⟨by omega, by omega⟩, ⟨by omega, by omega⟩⟩
theorem perm_b2 {α : Type} (r d : α) (T S F : List α) : (r :: d :: (S ++ (T ++ F))).Perm (d :: (T ++ r :: (S ++ F))) := by
  classical
  rw [List.perm_iff_count]
  intro z
  simp only [List.count_append, List.count_cons]
  omega
theorem perm_b3 {α : Type} (r d : α) (X S F : List α) : (d :: (S ++ (r :: (X ++ F)))).Perm (r :: (X ++ d :: (S ++ F))) := by
  classical
  rw [List.perm_iff_count]
  intro z
  simp only [List.count_append, List.count_cons]
  omega
theorem perm_b4 {α : Type} (r d : α) (X S F : List α) : (S ++ (d :: r :: (X ++ F))).Perm (d :: (S ++ (r :: (X ++ F)))) := by
  classical
  rw [List.perm_iff_count]
  intro z
  simp only [List.count_append, List.count_cons]
  omega
theorem perm_b5 {α : Type} (r d : α) (X4 X S F : List α) : (d :: r :: (S ++ (X4 ++ (X ++ F)))).Perm (S ++ (X4 ++ (d :: r :: (X ++ F)))) := by
  classical
  rw [List.perm_iff_count]
  intro z
  simp only [List.count_append, List.count_cons]
  omega
attribute [local irreducible] Fn WC WL WR OW Qt YieldFn QW FnP FnD FnE
set_option maxHeartbeats 4000000 in
theorem both_fn {w a : Int} (hw : 0 ≤ w ∧ w < 256) (ha : 0 ≤ a ∧ a < 256) {v : Value} {l : List StpV} {L : List (Nat × Obj)} (hv : StpsAt L v l) : Fn Tryz.prog 31 [.int .u8 w, .int .u8 a, v] L (fun r L' => ∃ tb rb S G t, r = .tuple #[.pointer (some ⟨tb, 0, none⟩), .pointer (some ⟨rb, 0, none⟩)] ∧ L' = S ++ (G ++ L) ∧ TabAt tb S G t ∧ TbOk t ∧ lastF t ≤ 4587520 ∧ (∀ x ∈ t.cmds, x.bins.length ≤ 1000) ∧ (l = [] → t = newT bthP (bthC w a))) := by
  obtain ⟨al, cal, rfl, hl1, hl2, hlx⟩ := id hv
  refine Fn_enter Tryz.func31 rfl Tryz.ntmps31 rfl fun g => ?_
  repeat (first | (refine WL_Q ?_; (first | refine QW_a ?_ | refine QW_of (Qt_ldX rfl (hn := by with_reducible assumption)) ?_)) | (refine WL_op rfl ?_; (first | refine OW_alloc rfl (hk := fun _ => ?_) | refine OW_stA rfl ?_ | refine OW_stN rfl ?_ | refine OW_build1 rfl (hk := fun _ => ?_))) | refine WL_nil ?_ | refine WC_seq ?_ | refine WC_block ?_ | refine WC_cond_t (ht := ?_) | refine WC_cond_f (he := ?_) | refine WC_skip ?_ | refine WC_ret ?_ | refine WC_exit ?_ | refine WG 0 ?_ | refine WG 1 ?_ | refine WG 2 ?_)
  rw [wr_mod hw.1 (by decide) (by decide) (by decide)]
  rename_i xs x8 x9
  refine WC_wk [(9, .pointer (some ⟨x9, 0, none⟩)), (8, .pointer (some ⟨x8, 0, none⟩)), (1, .int .u8 a), (2, .slice al l.length cal)] ⟨rfl, rfl, rfl, rfl, trivial⟩ ?_
  refine WC_permT (L' := (x9, Obj.cells (cfC (1 + w % 3, 0, 1, 1, 4)) 27 (0, 0)) :: (x8, Obj.cells (plC (.slice none 0 0) (.slice (some ⟨xs, 0, none⟩) 1 1) bthP) 25 (0, 0)) :: (xs, Obj.cells (stC (4, 5, 0, 0) (.slice none 0 0)) 100 (0, 0)) :: L) (.refl _) ?_
  have hne : (1 + w % 3 : Int) ≠ 0 := by omega
  have e1 : IntKind.i64.wrap (1 + (IntKind.i64.wrap a).tmod (1 + w % 3, (0 : Int), (1 : Int), (1 : Int), (4 : Int)).1) = 1 + a % (1 + w % 3) := by
    have h1 := Int.emod_nonneg a (b := 1 + w % 3) (by omega)
    have h2 := Int.emod_lt_of_pos a (b := 1 + w % 3) (by omega)
    show IntKind.i64.wrap (1 + (IntKind.i64.wrap a).tmod (1 + w % 3)) = 1 + a % (1 + w % 3)
    rw [wI64 (x := a) (by omega) (by omega), Int.tmod_eq_emod_of_nonneg ha.1, wI64 (by omega) (by omega)]
  repeat (first | (refine WL_Q ?_; (first | refine QW_a ?_ | refine QW_of (Qt_ldX rfl (hn := by with_reducible assumption)) ?_)) | (refine WL_op rfl ?_; (first | refine OW_st1 rfl ?_)) | refine WL_nil ?_ | refine WC_seq ?_ | refine WC_block ?_ | refine WC_cond_t (ht := ?_) | refine WC_cond_f (he := ?_) | refine WC_skip ?_ | refine WC_ret ?_ | refine WC_exit ?_ | refine WG 3 ?_)
  rw [e1]
  rw [show (cfC (1 + w % 3, 0, 1, 1, 4)).setIfInBounds 1 (Value.int IntKind.i64 (1 + a % (1 + w % 3))) = cfC (bthC w a) from rfl]
  refine WC_wk [(9, .pointer (some ⟨x9, 0, none⟩)), (8, .pointer (some ⟨x8, 0, none⟩)), (2, .slice al l.length cal)] ⟨rfl, rfl, rfl, trivial⟩ ?_
  obtain ⟨pv, hpv⟩ : ∃ pv, pv = plC (.slice none 0 0) (.slice (some ⟨xs, 0, none⟩) 1 1) bthP := ⟨_, rfl⟩
  have hpz : pv.size = 4 := by rw [hpv]; rfl
  have hpa : (pv.toList.all fun v => v.oneCell') = true := by rw [hpv]; rfl
  have hcz : (cfC (bthC w a)).size = 5 := rfl
  have hca : ((cfC (bthC w a)).toList.all fun v => v.oneCell') = true := rfl
  rw [← hpv]
  obtain ⟨M, hM⟩ : ∃ M, M = (x9, Obj.cells (cfC (bthC w a)) 27 (0, 0)) :: (x8, Obj.cells pv 25 (0, 0)) :: (xs, Obj.cells (stC (4, 5, 0, 0) (.slice none 0 0)) 100 (0, 0)) :: L := ⟨_, rfl⟩
  have hLM : L.Sublist M := by rw [hM]; exact .cons _ (.cons _ (.cons _ (.refl _)))
  obtain ⟨M0, hM0⟩ : ∃ M0, M0 = [(x9, Obj.cells (cfC (bthC w a)) 27 (0, 0)), (x8, Obj.cells pv 25 (0, 0)), (xs, Obj.cells (stC (4, 5, 0, 0) (.slice none 0 0)) 100 (0, 0))] := ⟨_, rfl⟩
  have hMM : M = M0 ++ L := by rw [hM, hM0]; rfl
  have hpl0 : PlAt M0 pv bthP := by
    rw [hpv]
    refine ⟨_, _, [(stC (4, 5, 0, 0) (.slice none 0 0)).toList], rfl, VecM.nil _ _, ⟨rfl, _, 1, rfl, Nat.le_refl _, by decide, .inr ⟨xs, 0, _, _, _, rfl, by rw [hM0]; exact .tail _ (.tail _ (.head _)), fun j x hj => by rw [Nat.zero_add]; simpa using hj⟩⟩, ⟨_, rfl, VecM.nil _ _⟩, trivial⟩
  have hpl : PlAt M pv bthP := hpl0.mem fun q hq => by rw [hMM]; exact List.mem_append_left _ hq
  have hi8 : M[1]? = some (x8, Obj.cells pv 25 (0, 0)) := by rw [hM]; rfl
  have hi9 : M[0]? = some (x9, Obj.cells (cfC (bthC w a)) 27 (0, 0)) := by rw [hM]; rfl
  rw [← hM]
  clear hM hM0 hpv
  repeat (first | (refine WL_Q ?_; (first | refine QW_a ?_ | refine QW_of (Qt_ldX rfl (hn := by with_reducible assumption)) ?_)) | (refine WL_op rfl ?_; (first | (refine OW_call rfl (hF := New_fn hpl bthP_ok bthC_ok) (hk := ?_); rintro _ _ ⟨tb, S, G, rfl, rfl, hTab⟩))) | refine WL_nil ?_ | refine WC_seq ?_ | refine WC_block ?_ | refine WC_cond_t (ht := ?_) | refine WC_cond_f (he := ?_) | refine WC_skip ?_ | refine WC_ret ?_ | refine WC_exit ?_ | refine WG 4 ?_)
  have hd0 : Fn Tryz.prog 9 [.agg pv, .agg (cfC (bthC w a))] (S ++ (G ++ M)) (fun v L' => (∃ rb cs, v = .tuple #[.pointer (some ⟨rb, 0, none⟩), iV 0] ∧ L' = rfO rb cs :: (S ++ (G ++ M)) ∧ RefAt cs M0 bthP (bthC w a) [])) := by
    refine (dNew_fn (c := bthC w a) (L := S ++ (G ++ M)) hpl0 (fun q h => List.mem_append_right _ (List.mem_append_right _ (by rw [hMM]; exact List.mem_append_left _ h))) (by decide)).mono ?_
    rintro v L' (⟨h0, _⟩ | ⟨_, h0, _⟩ | ⟨_, _, rb, cs, h1, h2, h3⟩)
    · exact absurd bthP_ok h0
    · rw [bthC_ok] at h0; cases h0
    · exact ⟨rb, cs, h1, h2, h3⟩
  obtain ⟨i8, hi8'⟩ := List.mem_iff_getElem?.1 (show (x8, Obj.cells pv 25 (0, 0)) ∈ S ++ (G ++ M) from List.mem_append_right _ (List.mem_append_right _ (List.mem_of_getElem? hi8)))
  obtain ⟨i9, hi9'⟩ := List.mem_iff_getElem?.1 (show (x9, Obj.cells (cfC (bthC w a)) 27 (0, 0)) ∈ S ++ (G ++ M) from List.mem_append_right _ (List.mem_append_right _ (List.mem_of_getElem? hi9)))
  repeat (first | ((first | refine WL_Q ?_ | refine WL_Y ?_); (first | refine QW_a ?_ | refine QW_of (Qt_ldX rfl (hn := by with_reducible assumption)) ?_)) | ((first | refine WL_op rfl ?_ | refine WL_yes (h := ?_)); (first | (refine OW_call rfl (hF := hd0) (hk := ?_); rintro _ _ ⟨rb, cs, rfl, rfl, hR⟩))) | refine WL_nil ?_ | refine WL_un (h := ?_) | refine WL_N ?_ | refine WL_M ?_ | refine WC_seq ?_ | refine WC_block ?_ | refine WC_cond_t (ht := ?_) | refine WC_cond_f (he := ?_) | refine WC_skip ?_ | refine WC_ret ?_ | refine WC_exit ?_ | refine WG 5 ?_ | refine WG 6 ?_ | refine WG 8 ?_ | refine WG 9 ?_)
  have hO0 : RfOk bthP (bthC w a) [] := ⟨bthP_ok, bthC_ok, fun i x h => by simp at h⟩
  obtain ⟨P, hP⟩ : ∃ P, P = bthP := ⟨_, rfl⟩
  obtain ⟨c, hc⟩ : ∃ c, c = bthC w a := ⟨_, rfl⟩
  have hres : ∀ t : TbV, (∃ l' : List CmV, RfOk P c l' ∧ (l = [] → l' = []) ∧ t = rchT P c l') → l = [] → t = newT bthP (bthC w a) := fun t ⟨l', _, h1, h2⟩ hl => by rw [h2, h1 hl, hP, hc]; rfl
  rw [← hP, ← hc] at hTab hR hO0
  refine WC_wk [(15, iV ((0 : Nat) : Int)), (14, iV (lastF (rchT P c []))), (12, .pointer (some ⟨rb, 0, none⟩)), (10, .pointer (some ⟨tb, 0, none⟩)), (2, .slice al l.length cal)] ⟨rfl, by rw [hP, hc]; rfl, rfl, rfl, rfl, trivial⟩ ?_
  refine WC_loop (fun m σ => ∃ (k : Nat) (l' : List CmV) (cs : Array Value) (S F G : List (Nat × Obj)), m = l.length - k ∧ k ≤ l.length ∧ k ≤ 70 ∧ RfOk P c l' ∧ (∀ x ∈ l', x.bins.length ≤ 1000) ∧ lastF (rchT P c l') ≤ k * 65536 ∧ (l = [] → l' = []) ∧ TabAt tb S G (rchT P c l') ∧ RefAt cs G P c l' ∧ F = G ++ L ∧ σ = ⟨[(15, iV (k : Int)), (14, iV (lastF (rchT P c l'))), (12, .pointer (some ⟨rb, 0, none⟩)), (10, .pointer (some ⟨tb, 0, none⟩)), (2, .slice al l.length cal)], [], rfO rb cs :: (S ++ F)⟩) l.length ⟨0, [], cs, S, G ++ M, G ++ M0, rfl, Nat.zero_le _, by decide, hO0, by simp, by rw [hP, hc]; exact Int.le_refl _, fun _ => rfl, hTab.mem fun q hq => List.mem_append_left _ hq, hR.mem fun q hq => List.mem_append_right _ hq, by rw [hMM, List.append_assoc], rfl⟩ ?_
  clear hR hTab hi8' hi9' hi8 hi9 hpl hpl0 hd0 hMM
  rintro _ σ ⟨k, l', cs, S, F, G, rfl, hk, hk70, hO, hB, hla, hnil, hTab, hR, hFG, rfl⟩
  have hLF : L.Sublist F := by rw [hFG]; exact List.sublist_append_right _ _
  have hGF : G.Sublist F := by rw [hFG]; exact List.sublist_append_left _ _
  have hT := hO.tb
  obtain ⟨t, ht⟩ : ∃ t, t = rchT P c l' := ⟨_, rfl⟩
  rw [← ht] at hTab hT hla ⊢
  have hCont : (k < l.length ∧ k < 70) ∨ ¬ (k < l.length ∧ k < 70) := Decidable.em _
  rcases hCont with ⟨hk1, hk2⟩ | hno
  rotate_left
  · refine WC_seq ?_
    refine WC_seq ?_
    refine WC_meet (fun σ => σ = ⟨[(62, .bool false), (12, .pointer (some ⟨rb, 0, none⟩)), (10, .pointer (some ⟨tb, 0, none⟩))], [], rfO rb cs :: (S ++ F)⟩) ?_ ?_
    · by_cases hkl : k < l.length
      · have d1 : decide ((k : Int) < ((l.length : Nat) : Int)) = true := decide_eq_true (by omega)
        have d2 : decide ((k : Int) < 70) = false := decide_eq_false (by omega)
        repeat (first | ((first | refine WL_Q ?_ | refine WL_Y ?_); (first | refine QW_a ?_ | refine QW_of (Qt_ldX rfl (hn := by with_reducible assumption)) ?_)) | refine WL_nil ?_ | refine WL_un (h := ?_) | refine WL_N ?_ | refine WL_M ?_ | refine WC_seq ?_ | refine WC_block ?_ | refine WC_cond_t (ht := ?_) | refine WC_cond_f (he := ?_) | refine WC_skip ?_ | refine WC_ret ?_ | refine WC_exit ?_ | refine WG 10 ?_)
        exact ⟨_, rfl, ⟨by rw [d2]; rfl, rfl, rfl, trivial⟩, rfl, .refl _⟩
      · have d1 : decide ((k : Int) < ((l.length : Nat) : Int)) = false := decide_eq_false (by omega)
        repeat (first | ((first | refine WL_Q ?_ | refine WL_Y ?_); (first | refine QW_a ?_ | refine QW_of (Qt_ldX rfl (hn := by with_reducible assumption)) ?_)) | refine WL_nil ?_ | refine WL_un (h := ?_) | refine WL_N ?_ | refine WL_M ?_ | refine WC_seq ?_ | refine WC_block ?_ | refine WC_cond_t (ht := ?_) | refine WC_cond_f (he := ?_) | refine WC_skip ?_ | refine WC_ret ?_ | refine WC_exit ?_ | refine WG 10 ?_)
        exact ⟨_, rfl, ⟨by rw [d1]; rfl, rfl, rfl, trivial⟩, rfl, .refl _⟩
    rintro _ rfl
    repeat (first | (refine WL_Q ?_; (first | refine QW_a ?_ | refine QW_of (Qt_ldX rfl (hn := by with_reducible assumption)) ?_)) | refine WL_nil ?_ | refine WC_seq ?_ | refine WC_block ?_ | refine WC_cond_t (ht := ?_) | refine WC_cond_f (he := ?_) | refine WC_skip ?_ | refine WC_ret ?_ | refine WC_exit ?_ | refine WG 16 ?_)
    exact ⟨rfl, _, _, Res2 rfl (resV_tmp rfl) (resV_tmp rfl), .cons _ (.refl _), tb, rb, S, G, t, rfl, by rw [hFG], hTab, hT, by omega, by rw [ht, hO.cmds]; exact hB, hres t ⟨l', hO, hnil, ht⟩⟩
  have d1 : decide ((k : Int) < ((l.length : Nat) : Int)) = true := decide_eq_true (by omega)
  have d2 : decide ((k : Int) < 70) = true := decide_eq_true (by omega)
  obtain ⟨o, ho⟩ : ∃ o, l[k]? = some o := ⟨_, List.getElem?_eq_getElem hk1⟩
  obtain ⟨q, off, cur, E, fr, rfl, hq, hoo, hx1, hx2'⟩ := hlx k o ho
  obtain ⟨iq, hiq⟩ := List.mem_iff_getElem?.1 (show (q, Obj.cells cur E fr) ∈ rfO rb cs :: (S ++ F) from .tail _ (List.mem_append_right _ (hLF.mem hq)))
  have p0 : (0 : Int) ≤ (k : Int) := by omega
  have p1 : ((k : Nat) : Int) < ((l.length : Nat) : Int) := by omega
  have y1 : off + ((k : Nat) : Int).toNat * 4 + 4 ≤ cur.size := by rw [Int.toNat_natCast]; exact hx2'
  have v1 : cur.extract (off + ((k : Nat) : Int).toNat * 4) (off + ((k : Nat) : Int).toNat * 4 + 4) = stpC o.1 o.2.1 o.2.2.1 o.2.2.2 := by rw [Int.toNat_natCast]; exact hx1
  have w7 : IntKind.i64.wrap ((k : Int) + 1) = ((k + 1 : Nat) : Int) := by rw [wI64 (by omega) (by omega)]; omega
  have hlast := hT.last
  repeat (first | ((first | refine WL_Q ?_ | refine WL_Y ?_); (first | refine QW_a ?_ | refine QW_of (Qt_ldX rfl (hn := by with_reducible assumption)) ?_)) | ((first | refine WL_op rfl ?_ | refine WL_yes (h := ?_)); (first | refine OW_alloc rfl (hk := fun _ => ?_) | refine OW_stA rfl ?_ | refine OW_stN rfl ?_)) | refine WL_nil ?_ | refine WL_un (h := ?_) | refine WL_N ?_ | refine WL_M ?_ | refine WC_seq ?_ | refine WC_block ?_ | refine WC_cond_t (ht := ?_) | refine WC_cond_f (he := ?_) | refine WC_skip ?_ | refine WC_ret ?_ | refine WC_exit ?_ | refine WG 10 ?_ | refine WG 12 ?_)
  rw [v1]
  repeat (first | (refine WL_Q ?_; (first | refine QW_a ?_ | refine QW_of (Qt_ldX rfl (hn := by with_reducible assumption)) ?_)) | (refine WL_op rfl ?_; (first | refine OW_alloc rfl (hk := fun _ => ?_) | refine OW_stA rfl ?_ | refine OW_stN rfl ?_)) | refine WL_nil ?_ | refine WC_seq ?_ | refine WC_block ?_ | refine WC_cond_t (ht := ?_) | refine WC_cond_f (he := ?_) | refine WC_skip ?_ | refine WC_ret ?_ | refine WC_exit ?_ | refine WG 12 ?_)
  refine WL_op rfl (OW_call rfl (hF := scmd_fn hoo.w hoo.b hoo.t hoo.f hlast) (hk := ?_))
  rintro _ _ ⟨x, bv, Tb, rfl, rfl, hbv, hxR, hx8, hxl, hxh⟩
  have hsz2 : (cmC x bv).toArray.size = 10 := rfl
  have hall2 := (show CmAt Tb (cmC x bv) x from ⟨bv, rfl, hbv, hxR⟩).all
  repeat (first | (refine WL_Q ?_; (first | refine QW_a ?_ | refine QW_of (Qt_ldX rfl (hn := by with_reducible assumption)) ?_)) | (refine WL_op rfl ?_; (first | refine OW_alloc rfl (hk := fun _ => ?_) | refine OW_stA rfl ?_ | refine OW_stN rfl ?_)) | refine WL_nil ?_ | refine WC_seq ?_ | refine WC_block ?_ | refine WC_cond_t (ht := ?_) | refine WC_cond_f (he := ?_) | refine WC_skip ?_ | refine WC_ret ?_ | refine WC_exit ?_ | refine WG 12 ?_)
  rename_i x16
  obtain ⟨D, hD⟩ : ∃ D, D = (x16, Obj.cells (cmC x bv).toArray 42 (0, 0)) := ⟨_, rfl⟩
  obtain ⟨F1, hF1⟩ : ∃ F1, F1 = Tb ++ F := ⟨_, rfl⟩
  have hFF1 : F.Sublist F1 := by rw [hF1]; exact List.sublist_append_right _ _
  obtain ⟨G1, hG1⟩ : ∃ G1, G1 = Tb ++ G := ⟨_, rfl⟩
  have hG1F : ∀ q ∈ G1, q ∈ F1 := fun q hq => by
    rw [hG1] at hq
    rw [hF1]
    rcases List.mem_append.1 hq with h | h
    · exact List.mem_append_left _ h
    · exact List.mem_append_right _ (hGF.mem h)
  have hF1G : F1 = G1 ++ L := by rw [hF1, hG1, hFG, List.append_assoc]
  have hGG1 : ∀ q ∈ G, q ∈ G1 := fun q hq => by rw [hG1]; exact List.mem_append_right _ hq
  have hbv1 : VecM 1 G1 bv x.bins.length (x.bins.map iV) := hbv.mem fun q hq => by rw [hG1]; exact List.mem_append_left _ hq
  refine WC_wk [(16, .pointer (some ⟨x16, 0, none⟩)), (15, iV (k : Int)), (14, iV (lastF t)), (12, .pointer (some ⟨rb, 0, none⟩)), (10, .pointer (some ⟨tb, 0, none⟩)), (2, .slice (some ⟨q, off, none⟩) l.length cal)] ⟨rfl, rfl, rfl, rfl, rfl, rfl, trivial⟩ ?_
  refine WC_permT (L' := rfO rb cs :: D :: (S ++ F1)) (by rw [hD, hF1]; exact perm_b2 ..) ?_
  obtain ⟨tr, htr⟩ : ∃ tr, tr = tryF t x 0 := ⟨_, rfl⟩
  have hj1 : (rfO rb cs :: D :: (S ++ F1))[1]? = some (x16, Obj.cells (cmC x bv).toArray 42 (0, 0)) := by rw [hD]; rfl
  repeat (first | (refine WL_Q ?_; (first | refine QW_a ?_ | refine QW_of (Qt_ldX rfl (hn := by with_reducible assumption)) ?_)) | refine WL_nil ?_ | refine WC_seq ?_ | refine WC_block ?_ | refine WC_cond_t (ht := ?_) | refine WC_cond_f (he := ?_) | refine WC_skip ?_ | refine WC_ret ?_ | refine WC_exit ?_ | refine WG 13 ?_)
  refine WL_op rfl (OW_call rfl (hF := dAdd_fn (F := D :: (S ++ F1)) (floor := 0) hR hO (fun q hq => .tail _ (List.mem_append_right _ (hG1F q (hGG1 q hq)))) (hbv1.mem fun q hq => .tail _ (List.mem_append_right _ (hG1F q hq))) hxR (by omega)) (hk := ?_))
  rintro _ _ ⟨rfl, cs3, X3, rfl, hR3⟩
  rw [← ht, ← htr] at hR3
  rw [← ht, ← htr]
  obtain ⟨l2, hl2e⟩ : ∃ l2, l2 = (if tr = 0 then l' ++ [x] else l') := ⟨_, rfl⟩
  rw [← hl2e] at hR3
  have hst : stepF t x 0 = rchT P c l2 := by
    rw [hl2e]
    unfold stepF
    rw [← htr]
    split
    · rw [rchT_snoc, ht]
    · exact ht
  have hO2 : RfOk P c l2 := by
    rw [hl2e]
    split
    · rename_i h0
      exact hO.snoc (fl := 0) (by rw [← ht, ← htr]; exact h0)
    · exact hO
  have hB2 : ∀ y ∈ l2, y.bins.length ≤ 1000 := by
    rw [hl2e]
    split
    · intro y hy
      rcases List.mem_append.1 hy with h | h
      · exact hB y h
      · obtain rfl : y = x := by simpa using h
        omega
    · exact hB
  have hnil2 : l = [] → l2 = [] := fun h => by rw [h] at hk1; simp at hk1
  have hls0 : tr = 0 → lastF (rchT P c l2) = x.at_ := fun h0 => by rw [hl2e, if_pos h0, rchT_snoc, addF_last]
  have hls1 : ¬ tr = 0 → lastF (rchT P c l2) = lastF t := fun h0 => by rw [hl2e, if_neg h0, ht]
  have hla2 : lastF (rchT P c l2) ≤ ((k + 1 : Nat) : Int) * 65536 := by
    by_cases h0 : tr = 0
    · rw [hls0 h0]; omega
    · rw [hls1 h0]; omega
  refine WL_permT (L' := D :: (S ++ (rfO rb cs3 :: (X3 ++ F1)))) (perm_b3 ..) ?_
  have hj2 : (D :: (S ++ (rfO rb cs3 :: (X3 ++ F1))))[0]? = some (x16, Obj.cells (cmC x bv).toArray 42 (0, 0)) := by rw [hD]; rfl
  have hc1 : (cmC x bv).toArray[0 + 1]? = some (iV x.at_) := rfl
  have hc2 : (cmC x bv).toArray[1]? = some (iV x.at_) := rfl
  have hTab1 : TabAt tb S G1 t := hTab.mem hGG1
  by_cases h0 : tr = 0
  · have dz : (tr == 0) = true := by simpa using h0
    repeat (first | (refine WL_Q ?_; (first | refine QW_a ?_ | refine QW_of (Qt_ldX rfl (hn := by with_reducible assumption)) ?_)) | refine WL_nil ?_ | refine WC_seq ?_ | refine WC_block ?_ | refine WC_cond_t (ht := ?_) | refine WC_cond_f (he := ?_) | refine WC_skip ?_ | refine WC_ret ?_ | refine WC_exit ?_ | refine WG 13 ?_ | refine WG 14 ?_ | refine WG 15 ?_)
    refine WL_permT (L' := S ++ (D :: rfO rb cs3 :: (X3 ++ F1))) (perm_b4 ..) ?_
    refine WL_op rfl (OW_call rfl (hF := step_fn (F := D :: rfO rb cs3 :: (X3 ++ F1)) (floor := 0) hT hTab1 (fun q hq => .tail _ (.tail _ (List.mem_append_right _ (hG1F q hq)))) hbv1 hxR (by omega)) (hk := ?_))
    rintro _ _ ⟨rfl, S1, X4, rfl, hTab2⟩
    refine WL_permT (L' := D :: rfO rb cs3 :: (S1 ++ (X4 ++ (X3 ++ F1)))) (perm_b5 ..) ?_
    repeat (first | (refine WL_Q ?_; (first | refine QW_a ?_ | refine QW_of (Qt_ldX rfl (hn := by with_reducible assumption)) ?_)) | refine WL_nil ?_ | refine WC_seq ?_ | refine WC_block ?_ | refine WC_cond_t (ht := ?_) | refine WC_cond_f (he := ?_) | refine WC_skip ?_ | refine WC_ret ?_ | refine WC_exit ?_ | refine WG 15 ?_ | refine WG 11 ?_)
    rw [w7]
    rw [hst] at hTab2
    refine ⟨_, _, by omega, ⟨k + 1, l2, cs3, S1, X4 ++ (X3 ++ F1), X4 ++ (X3 ++ G1), rfl, by omega, by omega, hO2, hB2, hla2, hnil2, hTab2.mem fun q hq => ?_, hR3.mem fun q hq => ?_, by rw [hF1G, List.append_assoc, List.append_assoc], rfl⟩, ⟨rfl, by rw [hls0 h0]; rfl, rfl, rfl, rfl, trivial⟩, rfl, .cons _ (.refl _)⟩
    · rcases List.mem_append.1 hq with h | h
      · exact List.mem_append_left _ h
      · exact List.mem_append_right _ (List.mem_append_right _ h)
    · rcases List.mem_append.1 hq with h | h
      · exact List.mem_append_right _ (List.mem_append_left _ h)
      · exact List.mem_append_right _ (List.mem_append_right _ (hGG1 q h))
  · have dz : (tr == 0) = false := by simpa using h0
    repeat (first | (refine WL_Q ?_; (first | refine QW_a ?_ | refine QW_of (Qt_ldX rfl (hn := by with_reducible assumption)) ?_)) | refine WL_nil ?_ | refine WC_seq ?_ | refine WC_block ?_ | refine WC_cond_t (ht := ?_) | refine WC_cond_f (he := ?_) | refine WC_skip ?_ | refine WC_ret ?_ | refine WC_exit ?_ | refine WG 13 ?_ | refine WG 15 ?_)
    refine WL_permT (L' := S ++ (D :: rfO rb cs3 :: (X3 ++ F1))) (perm_b4 ..) ?_
    refine WL_op rfl (OW_call rfl (hF := step_fn (F := D :: rfO rb cs3 :: (X3 ++ F1)) (floor := 0) hT hTab1 (fun q hq => .tail _ (.tail _ (List.mem_append_right _ (hG1F q hq)))) hbv1 hxR (by omega)) (hk := ?_))
    rintro _ _ ⟨rfl, S1, X4, rfl, hTab2⟩
    refine WL_permT (L' := D :: rfO rb cs3 :: (S1 ++ (X4 ++ (X3 ++ F1)))) (perm_b5 ..) ?_
    repeat (first | (refine WL_Q ?_; (first | refine QW_a ?_ | refine QW_of (Qt_ldX rfl (hn := by with_reducible assumption)) ?_)) | refine WL_nil ?_ | refine WC_seq ?_ | refine WC_block ?_ | refine WC_cond_t (ht := ?_) | refine WC_cond_f (he := ?_) | refine WC_skip ?_ | refine WC_ret ?_ | refine WC_exit ?_ | refine WG 15 ?_ | refine WG 11 ?_)
    rw [w7]
    rw [hst] at hTab2
    refine ⟨_, _, by omega, ⟨k + 1, l2, cs3, S1, X4 ++ (X3 ++ F1), X4 ++ (X3 ++ G1), rfl, by omega, by omega, hO2, hB2, hla2, hnil2, hTab2.mem fun q hq => ?_, hR3.mem fun q hq => ?_, by rw [hF1G, List.append_assoc, List.append_assoc], rfl⟩, ⟨rfl, by rw [hls1 h0]; rfl, rfl, rfl, rfl, trivial⟩, rfl, .cons _ (.refl _)⟩
    · rcases List.mem_append.1 hq with h | h
      · exact List.mem_append_left _ h
      · exact List.mem_append_right _ (List.mem_append_right _ h)
    · rcases List.mem_append.1 hq with h | h
      · exact List.mem_append_right _ (List.mem_append_left _ h)
      · exact List.mem_append_right _ (List.mem_append_right _ (hGG1 q h))
end Go.Proofs.YtncgndcepoicbaaGreat
