/-
  A part of what the last of these texts needs; by itself it proves no statement.
-/
import Derived.Test.YtdiaogcogkapgaaGreatDoorKP8
namespace Go.Proofs.YtdiaogcogkapgaaGreatDoor
open Go.RowKit
attribute [local irreducible] Fn WC WL WR OW Qt YieldFn QW
theorem all1_fn {b c : Nat} {cs : Array Value} {cap first : Nat} {ms : List (Array Value)} {next refused : Int} (hc : RecvC cs cap first ms next refused) (l : Nat) (J : List (Array Value) → List (Nat × Obj) → Prop) (Jx : List (Nat × Obj) → Prop)
    (hJ : ∀ pre L, J pre L → ∃ i j : Nat, L[i]? = some (c, Obj.cells #[.pointer (some ⟨b, 0, none⟩)] 82 (0, 0)) ∧ L[j]? = some (b, Obj.cells cs 126 (0, 0)))
    (hY : ∀ pre y L, (pre ++ [y]) <+: ms → J pre L → YieldFn Tryz.prog l [.agg y] L (fun v L2 => (v = .bool true ∧ J (pre ++ [y]) L2) ∨ (v = .bool false ∧ Jx L2)))
    {L0 : List (Nat × Obj)} (h0 : J [] L0) : Fn Tryz.prog 75 [.func (.yield l) #[] #[], .pointer (some ⟨c, 0, none⟩)] L0 (fun _ L2 => J ms L2 ∨ Jx L2) := by
  obtain ⟨i0, j0, hi0, hj0⟩ := hJ [] L0 h0
  have hn := hc.n_
  refine Fn_enter Tryz.func75 rfl Tryz.ntmps75 rfl fun g => ?_
  repeat (first | (refine WL_Q ?_; (first | refine QW_of (Qt_move rfl) ?_ | refine QW_of (Qt_ld1 rfl) ?_ | refine QW_of (Qt_nilCheck rfl) ?_ | refine QW_of (Qt_nilCheck_fn rfl) ?_ | refine QW_of (Qt_bin rfl) ?_ | refine QW_of (Qt_eql_nilS rfl) ?_ | refine QW_of (Qt_eql_nilN rfl) ?_ | refine QW_of (Qt_fieldAddr0 rfl) ?_ | refine QW_of (Qt_fieldAddr rfl) ?_ | refine QW_of (Qt_assign rfl) ?_ | refine QW_of (Qt_ldA rfl) ?_ | refine QW_of (Qt_ldN rfl) ?_ | refine QW_of (Qt_not rfl) ?_)) | refine WL_nil ?_ | refine WC_seq ?_ | refine WC_block ?_ | refine WC_cond_t (ht := ?_) | refine WC_cond_f (he := ?_) | refine WC_skip ?_ | refine WC_ret ?_ | refine WC_exit ?_ | refine WC_region ?_)
  refine WC_weaken [(10, .int .i64 0), (9, .int .i64 ms.length), (0, .func (.yield l) #[] #[]), (1, .pointer (some ⟨c, 0, none⟩))] ⟨rfl, rfl, rfl, rfl, trivial⟩ ?_
  refine WC_loop (fun m σ => ∃ pre L, m = ms.length - pre.length ∧ pre <+: ms ∧ J pre L ∧ σ = ⟨[(10, .int .i64 pre.length), (9, .int .i64 ms.length), (0, .func (.yield l) #[] #[]), (1, .pointer (some ⟨c, 0, none⟩))], [], L⟩) ms.length ?_ ?_
  · exact ⟨[], L0, by simp, List.nil_prefix, h0, rfl⟩
  · rintro m σ ⟨pre, L, rfl, hpre, hJp, rfl⟩
    obtain ⟨i1, j1, hi1, hj1⟩ := hJ pre L hJp
    by_cases hlt : pre.length < ms.length
    · have h1 : decide ((pre.length : Int) < ms.length) = true := by simpa using hlt
      have hm : ∃ y, ms[pre.length]? = some y := ⟨_, List.getElem?_eq_getElem hlt⟩
      obtain ⟨y, hy⟩ := hm
      have hpre2 : (pre ++ [y]) <+: ms := by
        obtain ⟨r, rfl⟩ := hpre
        rw [List.getElem?_append_right (Nat.le_refl _), Nat.sub_self] at hy
        cases r with
        | nil => cases hy
        | cons z r => simp at hy; subst hy; exact ⟨r, by simp⟩
      have hmsg := hc.msg pre.length y hy
      have hs := hc.size
      have hfit : (first + pre.length) % 16 * 24 + 24 ≤ cs.size := by omega
      have hl := hc.len
      have hcc := hc.cap16
      repeat (first | (refine WL_Q ?_; (first | refine QW_of (Qt_move rfl) ?_ | refine QW_of (Qt_ld1 rfl) ?_ | refine QW_of (Qt_nilCheck rfl) ?_ | refine QW_of (Qt_nilCheck_fn rfl) ?_ | refine QW_of (Qt_bin rfl) ?_ | refine QW_of (Qt_eql_nilS rfl) ?_ | refine QW_of (Qt_eql_nilN rfl) ?_ | refine QW_of (Qt_fieldAddr0 rfl) ?_ | refine QW_of (Qt_fieldAddr rfl) ?_ | refine QW_of (Qt_assign rfl) ?_ | refine QW_of (Qt_ldA rfl) ?_ | refine QW_of (Qt_ldN rfl) ?_ | refine QW_of (Qt_not rfl) ?_)) | refine WL_nil ?_ | refine WC_seq ?_ | refine WC_block ?_ | refine WC_cond_t (ht := ?_) | refine WC_cond_f (he := ?_) | refine WC_skip ?_ | refine WC_ret ?_ | refine WC_exit ?_ | refine WC_region ?_)
      refine WL_op rfl (OW_call rfl rfl rfl rfl (Fn.at_same (fun F => place_fn (L := F) pre.length (by omega) hc) j1 hj1) ?_)
      rintro _ _ ⟨rfl, rfl⟩
      repeat (first | (refine WL_Q ?_; (first | refine QW_of (Qt_move rfl) ?_ | refine QW_of (Qt_ld1 rfl) ?_ | refine QW_of (Qt_nilCheck rfl) ?_ | refine QW_of (Qt_nilCheck_fn rfl) ?_ | refine QW_of (Qt_bin rfl) ?_ | refine QW_of (Qt_eql_nilS rfl) ?_ | refine QW_of (Qt_eql_nilN rfl) ?_ | refine QW_of (Qt_fieldAddr0 rfl) ?_ | refine QW_of (Qt_fieldAddr rfl) ?_ | refine QW_of (Qt_assign rfl) ?_ | refine QW_of (Qt_ldA rfl) ?_ | refine QW_of (Qt_ldN rfl) ?_ | refine QW_of (Qt_not rfl) ?_)) | refine WL_nil ?_ | refine WC_seq ?_ | refine WC_block ?_ | refine WC_cond_t (ht := ?_) | refine WC_cond_f (he := ?_) | refine WC_skip ?_ | refine WC_ret ?_ | refine WC_exit ?_ | refine WC_region ?_)
      have hYf := hY pre y L hpre2 hJp
      subst hmsg
      refine WL_op rfl (OW_yield rfl rfl rfl rfl rfl hYf ?_)
      rintro v L2 (⟨rfl, hJ2⟩ | ⟨rfl, hJx⟩)
      · repeat (first | (refine WL_Q ?_; (first | refine QW_of (Qt_move rfl) ?_ | refine QW_of (Qt_ld1 rfl) ?_ | refine QW_of (Qt_nilCheck rfl) ?_ | refine QW_of (Qt_nilCheck_fn rfl) ?_ | refine QW_of (Qt_bin rfl) ?_ | refine QW_of (Qt_eql_nilS rfl) ?_ | refine QW_of (Qt_eql_nilN rfl) ?_ | refine QW_of (Qt_fieldAddr0 rfl) ?_ | refine QW_of (Qt_fieldAddr rfl) ?_ | refine QW_of (Qt_assign rfl) ?_ | refine QW_of (Qt_ldA rfl) ?_ | refine QW_of (Qt_ldN rfl) ?_ | refine QW_of (Qt_not rfl) ?_)) | refine WL_nil ?_ | refine WC_seq ?_ | refine WC_block ?_ | refine WC_cond_t (ht := ?_) | refine WC_cond_f (he := ?_) | refine WC_skip ?_ | refine WC_ret ?_ | refine WC_exit ?_ | refine WC_region ?_)
        repeat (first | (refine WL_Q ?_; (first | refine QW_of (Qt_move rfl) ?_ | refine QW_of (Qt_ld1 rfl) ?_ | refine QW_of (Qt_nilCheck rfl) ?_ | refine QW_of (Qt_nilCheck_fn rfl) ?_ | refine QW_of (Qt_bin rfl) ?_ | refine QW_of (Qt_eql_nilS rfl) ?_ | refine QW_of (Qt_eql_nilN rfl) ?_ | refine QW_of (Qt_fieldAddr0 rfl) ?_ | refine QW_of (Qt_fieldAddr rfl) ?_ | refine QW_of (Qt_assign rfl) ?_ | refine QW_of (Qt_ldA rfl) ?_ | refine QW_of (Qt_ldN rfl) ?_ | refine QW_of (Qt_not rfl) ?_)) | refine WL_nil ?_ | refine WC_seq ?_ | refine WC_block ?_ | refine WC_cond_t (ht := ?_) | refine WC_cond_f (he := ?_) | refine WC_skip ?_ | refine WC_ret ?_ | refine WC_exit ?_ | refine WC_region ?_)
        refine ⟨_, _, ?_, ⟨pre ++ [_], L2, rfl, hpre2, hJ2, rfl⟩, ⟨?_, rfl, rfl, rfl, trivial⟩, rfl, .refl _⟩
        · simp; omega
        · show some (Value.int .i64 (IntKind.i64.wrap ((pre.length : Int) + 1))) = _
          rw [wrap_i64 (by omega) (by omega)]
          simp
      · repeat (first | (refine WL_Q ?_; (first | refine QW_of (Qt_move rfl) ?_ | refine QW_of (Qt_ld1 rfl) ?_ | refine QW_of (Qt_nilCheck rfl) ?_ | refine QW_of (Qt_nilCheck_fn rfl) ?_ | refine QW_of (Qt_bin rfl) ?_ | refine QW_of (Qt_eql_nilS rfl) ?_ | refine QW_of (Qt_eql_nilN rfl) ?_ | refine QW_of (Qt_fieldAddr0 rfl) ?_ | refine QW_of (Qt_fieldAddr rfl) ?_ | refine QW_of (Qt_assign rfl) ?_ | refine QW_of (Qt_ldA rfl) ?_ | refine QW_of (Qt_ldN rfl) ?_ | refine QW_of (Qt_not rfl) ?_)) | refine WL_nil ?_ | refine WC_seq ?_ | refine WC_block ?_ | refine WC_cond_t (ht := ?_) | refine WC_cond_f (he := ?_) | refine WC_skip ?_ | refine WC_ret ?_ | refine WC_exit ?_ | refine WC_region ?_)
        repeat (first | (refine WL_Q ?_; (first | refine QW_of (Qt_move rfl) ?_ | refine QW_of (Qt_ld1 rfl) ?_ | refine QW_of (Qt_nilCheck rfl) ?_ | refine QW_of (Qt_nilCheck_fn rfl) ?_ | refine QW_of (Qt_bin rfl) ?_ | refine QW_of (Qt_eql_nilS rfl) ?_ | refine QW_of (Qt_eql_nilN rfl) ?_ | refine QW_of (Qt_fieldAddr0 rfl) ?_ | refine QW_of (Qt_fieldAddr rfl) ?_ | refine QW_of (Qt_assign rfl) ?_ | refine QW_of (Qt_ldA rfl) ?_ | refine QW_of (Qt_ldN rfl) ?_ | refine QW_of (Qt_not rfl) ?_)) | refine WL_nil ?_ | refine WC_seq ?_ | refine WC_block ?_ | refine WC_cond_t (ht := ?_) | refine WC_cond_f (he := ?_) | refine WC_skip ?_ | refine WC_ret ?_ | refine WC_exit ?_ | refine WC_region ?_)
        exact ⟨rfl, _, _, Res0 rfl, .refl _, .inr hJx⟩
    · have h1 : decide ((pre.length : Int) < ms.length) = false := by simpa using hlt
      have he : pre = ms := hpre.eq_of_length (by have := hpre.length_le; omega)
      subst he
      repeat (first | (refine WL_Q ?_; (first | refine QW_of (Qt_move rfl) ?_ | refine QW_of (Qt_ld1 rfl) ?_ | refine QW_of (Qt_nilCheck rfl) ?_ | refine QW_of (Qt_nilCheck_fn rfl) ?_ | refine QW_of (Qt_bin rfl) ?_ | refine QW_of (Qt_eql_nilS rfl) ?_ | refine QW_of (Qt_eql_nilN rfl) ?_ | refine QW_of (Qt_fieldAddr0 rfl) ?_ | refine QW_of (Qt_fieldAddr rfl) ?_ | refine QW_of (Qt_assign rfl) ?_ | refine QW_of (Qt_ldA rfl) ?_ | refine QW_of (Qt_ldN rfl) ?_ | refine QW_of (Qt_not rfl) ?_)) | refine WL_nil ?_ | refine WC_seq ?_ | refine WC_block ?_ | refine WC_cond_t (ht := ?_) | refine WC_cond_f (he := ?_) | refine WC_skip ?_ | refine WC_ret ?_ | refine WC_exit ?_ | refine WC_region ?_)
      exact ⟨rfl, _, _, Res0 rfl, .refl _, .inl hJp⟩
theorem all_fn (b : Nat) (L : List (Nat × Obj)) : Fn Tryz.prog 57 [.pointer (some ⟨b, 0, none⟩)] L (fun v L' => ∃ c, v = .func (.func 75) #[] #[.pointer (some ⟨c, 0, none⟩)] ∧ L' = (c, .cells #[.pointer (some ⟨b, 0, none⟩)] 82 (0, 0)) :: L) := by
  refine Fn_enter Tryz.func57 rfl Tryz.ntmps57 rfl fun g => ?_
  repeat (first | (refine WL_Q ?_; (first | refine QW_of (Qt_assign rfl) ?_ | refine QW_of (Qt_makeFunc rfl) ?_)) | (refine WL_op rfl ?_; (first | refine OW_box rfl (hk := fun _ => ?_))) | refine WL_nil ?_ | refine WC_seq ?_ | refine WC_ret ?_ | refine WC_region ?_)
  exact ⟨rfl, _, _, Res1 rfl (resV_tmp rfl), .refl _, _, rfl, rfl⟩
def headV (ms : List (Array Value)) : Value := .tuple #[.agg (ms.headD zc43), .bool !ms.isEmpty]
set_option maxHeartbeats 1000000 in
theorem head_fn {b : Nat} {cs : Array Value} {cap first : Nat} {ms : List (Array Value)} {next refused : Int} (hc : RecvC cs cap first ms next refused) (hall : ∀ m ∈ ms, m.size = 24 ∧ (m.toList.all fun v => v.oneCell') = true) (F : List (Nat × Obj)) :
    Fn Tryz.prog 33 [.pointer (some ⟨b, 0, none⟩)] (rc b cs F) (fun v L' => v = headV ms ∧ L' = rc b cs F) := by
  refine Fn_enterM Tryz.func33 rfl Tryz.ntmps33 rfl fun g => ?_
  repeat (first | (refine WL_Q ?_; (first | refine QW_of (Qt_move rfl) ?_ | refine QW_of (Qt_ldA rfl) ?_ | refine QW_of (Qt_ldN rfl) ?_ | refine QW_of (Qt_build rfl) ?_)) | (refine WL_op rfl ?_; (first | refine OW_alloc rfl (hk := fun _ => ?_) | refine OW_stA rfl ?_ | refine OW_stN rfl ?_ | refine OW_st1 rfl ?_)) | refine WL_nil ?_ | refine WC_seq ?_ | refine WC_block ?_ | refine WC_ret ?_ | refine WC_region ?_)
  refine WL_op rfl (OW_call rfl rfl rfl rfl (all_fn b _) ?_)
  rintro _ _ ⟨c, rfl, rfl⟩
  repeat (first | (refine WL_Q ?_; (first | refine QW_of (Qt_move rfl) ?_ | refine QW_of (Qt_ldA rfl) ?_ | refine QW_of (Qt_ldN rfl) ?_ | refine QW_of (Qt_build rfl) ?_)) | (refine WL_op rfl ?_; (first | refine OW_alloc rfl (hk := fun _ => ?_) | refine OW_stA rfl ?_ | refine OW_stN rfl ?_ | refine OW_st1 rfl ?_)) | refine WL_nil ?_ | refine WC_seq ?_ | refine WC_block ?_ | refine WC_ret ?_ | refine WC_region ?_)
  repeat (first | (refine WL_Q ?_; (first | refine QW_of (Qt_move rfl) ?_ | refine QW_of (Qt_ldA rfl) ?_ | refine QW_of (Qt_ldN rfl) ?_ | refine QW_of (Qt_build rfl) ?_)) | (refine WL_op rfl ?_; (first | refine OW_alloc rfl (hk := fun _ => ?_) | refine OW_stA rfl ?_ | refine OW_stN rfl ?_ | refine OW_st1 rfl ?_)) | refine WL_nil ?_ | refine WC_seq ?_ | refine WC_block ?_ | refine WC_ret ?_ | refine WC_region ?_)
  rename_i d0 d1 
  refine WC_range rfl (fun m : Array Value => [.agg m]) (fun _ => rfl) rfl (fun pre y => (pre ++ [y]) <+: ms) (fun xs => xs = ms)
    (fun pre L' => pre = [] ∧ L' = (c, .cells #[.pointer (some ⟨b, 0, none⟩)] 82 (0, 0)) :: (d1, .cells #[.bool false] 4 (0,0)) :: (d0, .cells zc43 43 (0,0)) :: rc b cs F)
    (fun cj L' => cj = .ret ∧ ∃ m r, ms = m :: r ∧ L' = (c, .cells #[.pointer (some ⟨b, 0, none⟩)] 82 (0, 0)) :: (d1, .cells #[.bool true] 4 (0,0)) :: (d0, .cells m 43 (0,0)) :: rc b cs F)
    ?_ ?_ ?_ ?_
  · intro l d o1 o2 Jx hr
    refine (all1_fn (b := b) hc l (fun pre L1 => ∃ L', L1 = (l, o1) :: (d, o2) :: L' ∧ pre = [] ∧ L' = (c, .cells #[.pointer (some ⟨b, 0, none⟩)] 82 (0, 0)) :: (d1, .cells #[.bool false] 4 (0,0)) :: (d0, .cells zc43 43 (0,0)) :: rc b cs F) Jx ?_ ?_ ?_).mono ?_
    · rintro pre L ⟨L', rfl, -, rfl⟩
      exact ⟨2, 5, rfl, rfl⟩
    · exact hr
    · exact ⟨_, rfl, rfl, rfl⟩
    · rintro v L2 (⟨L', h1, h2, h3⟩ | h)
      · exact .inl ⟨ms, L', rfl, h1, h2, h3⟩
      · exact .inr h
  · rintro g' n' l d pre y L' hdom ⟨rfl, rfl⟩ ol od hol
    have hym : y ∈ ms := by obtain ⟨r, rfl⟩ := hdom; simp
    obtain ⟨hys, hy1⟩ := hall y hym
    repeat (first | (refine WL_Q ?_; (first | refine QW_of (Qt_move rfl) ?_ | refine QW_of (Qt_ldA rfl) ?_ | refine QW_of (Qt_ldN rfl) ?_ | refine QW_of (Qt_build rfl) ?_)) | (refine WL_op rfl ?_; (first | refine OW_alloc rfl (hk := fun _ => ?_) | refine OW_stA rfl ?_ | refine OW_stN rfl ?_ | refine OW_st1 rfl ?_)) | refine WL_nil ?_ | refine WC_seq ?_ | refine WC_block ?_ | refine WC_ret ?_ | refine WC_region ?_)
    refine ⟨rfl, _, [_], _, rfl, fun ol' hol' => ?_⟩
    repeat (first | (refine WL_Q ?_; (first | refine QW_of (Qt_move rfl) ?_ | refine QW_of (Qt_ldA rfl) ?_ | refine QW_of (Qt_ldN rfl) ?_ | refine QW_of (Qt_build rfl) ?_)) | (refine WL_op rfl ?_; (first | refine OW_alloc rfl (hk := fun _ => ?_) | refine OW_stA rfl ?_ | refine OW_stN rfl ?_ | refine OW_st1 rfl ?_)) | refine WL_nil ?_ | refine WC_seq ?_ | refine WC_block ?_ | refine WC_ret ?_ | refine WC_region ?_)
    obtain ⟨r, rfl⟩ := hdom
    exact ⟨_, .cons _ (.refl _), rfl, y, r, by simp, rfl⟩
  · rintro d xs L' rfl ⟨rfl, rfl⟩
    repeat (first | (refine WL_Q ?_; (first | refine QW_of (Qt_move rfl) ?_ | refine QW_of (Qt_ldA rfl) ?_ | refine QW_of (Qt_ldN rfl) ?_ | refine QW_of (Qt_build rfl) ?_)) | (refine WL_op rfl ?_; (first | refine OW_alloc rfl (hk := fun _ => ?_) | refine OW_stA rfl ?_ | refine OW_stN rfl ?_ | refine OW_st1 rfl ?_)) | refine WL_nil ?_ | refine WC_seq ?_ | refine WC_block ?_ | refine WC_ret ?_ | refine WC_region ?_)
    exact ⟨_, ⟨d, 0, _, rfl, rfl, rfl, rfl⟩, _, _, Res2 rfl (resV_cellN rfl 3 rfl rfl) (resV_cell1 rfl 2 rfl), .cons _ (.cons _ (.cons _ (.cons _ (.refl _)))), rfl, rfl⟩
  · rintro d cj L' ⟨rfl, m, r, rfl, rfl⟩
    refine WC_ret ?_
    have hm := (hall m (by simp)).1
    exact ⟨_, ⟨d, 0, _, rfl, rfl, rfl, rfl⟩, _, _, Res2 rfl (resV_cellN rfl 3 rfl hm) (resV_cell1 rfl 2 rfl), .cons _ (.cons _ (.cons _ (.cons _ (.refl _)))), rfl, rfl⟩
theorem RecvC.popped {cs : Array Value} {cap first : Nat} {m : Array Value} {ms : List (Array Value)} {next refused : Int} (hc : RecvC cs cap first (m :: ms) next refused) (z : Array Value) (hz : z.size = 24) :
    RecvC (((putR cs (first % 16 * 24) z).setIfInBounds 385 (.int .i64 ((first + 1) % 16 : Nat))).setIfInBounds 386 (.int .i64 ms.length)) cap ((first + 1) % 16) ms next refused := by
  have hs := hc.size
  have hf := hc.f16
  have hoff : first % 16 * 24 + z.size ≤ 384 := by omega
  have hp := putR_size cs z (first % 16 * 24) (by omega)
  have ho : ∀ j, 384 ≤ j → (putR cs (first % 16 * 24) z)[j]? = cs[j]? := fun j hj => putR_get_out cs z _ j (by omega) (by omega)
  have hl := hc.len
  have hcc := hc.cap16
  simp only [List.length_cons] at hl
  refine ⟨by simpa using hp.trans hs, ?_, ?_, ?_, ?_, ?_, hc.cap1, hc.cap16, by omega, by omega, hc.nx0, hc.nx1, ?_⟩
  · rw [Array.getElem?_setIfInBounds_ne (by decide), Array.getElem?_setIfInBounds_ne (by decide), ho _ (by decide)]; exact hc.cap_
  · rw [Array.getElem?_setIfInBounds_ne (by decide)]; simp [hp, hs]
  · simp [hp, hs]
  · rw [Array.getElem?_setIfInBounds_ne (by decide), Array.getElem?_setIfInBounds_ne (by decide), ho _ (by decide)]; exact hc.next_
  · rw [Array.getElem?_setIfInBounds_ne (by decide), Array.getElem?_setIfInBounds_ne (by decide), ho _ (by decide)]; exact hc.ref_
  · intro k u hk
    have hk1 : k < ms.length := (List.getElem?_eq_some_iff.1 hk).1
    rw [← hc.msg (k + 1) u (by simpa using hk)]
    have e1 : ((first + 1) % 16 + k) % 16 = (first + (k + 1)) % 16 := by omega
    have hne : (first + (k + 1)) % 16 ≠ first % 16 := by omega
    have hlt : (first + (k + 1)) % 16 < 16 := Nat.mod_lt _ (by decide)
    rw [e1]
    exact extract_congr fun j h1 h2 => by
      rw [Array.getElem?_setIfInBounds_ne (by omega), Array.getElem?_setIfInBounds_ne (by omega)]
      exact putR_get_out cs z _ j (by omega) (by omega)
set_option maxHeartbeats 2000000 in
theorem pop_ok {b : Nat} {cs : Array Value} {cap first : Nat} {m : Array Value} {ms : List (Array Value)} {next refused : Int} {L : List (Nat × Obj)} (hc : RecvC cs cap first (m :: ms) next refused) :
    Fn Tryz.prog 35 [.pointer (some ⟨b, 0, none⟩)] (rc b cs L) (fun v L' => v = .int .i64 0 ∧ ∃ cs' first', L' = rc b cs' L ∧ RecvC cs' cap first' ms next refused) := by
  have hn := hc.n_
  have hfi := hc.first_
  have hs := hc.size
  have hf := hc.f16
  have hl := hc.len
  have hcc := hc.cap16
  have h2 : ((((m :: ms).length : Nat) : Int) == 0) = false := by simp; omega
  have hoff : first % 16 * 24 + 24 ≤ cs.size := by omega
  have hps := putR_size cs zc43 (first % 16 * 24) (by have : (zc43).size = 24 := rfl; omega)
  have hzs : (zc43).size = 24 := rfl
  have hf2 : (putR cs (first % 16 * 24) zc43)[385]? = some (.int .i64 first) := by rw [putR_get_out cs _ _ _ (by omega) (by omega)]; exact hfi
  have hn2 : ((putR cs (first % 16 * 24) zc43).setIfInBounds 385 (.int .i64 ((IntKind.i64.wrap ((first : Int) + 1)).tmod 16)))[386]? = some (.int .i64 (m :: ms).length) := by
    rw [Array.getElem?_setIfInBounds_ne (by decide), putR_get_out cs _ _ _ (by omega) (by omega)]; exact hn
  refine Fn_enter Tryz.func35 rfl Tryz.ntmps35 rfl fun g => ?_
  repeat (first | (refine WL_Q ?_; (first | refine QW_of (Qt_assign rfl) ?_ | refine QW_of (Qt_move rfl) ?_ | refine QW_of (Qt_nilCheck rfl) ?_ | refine QW_of (Qt_nilCheck_fn rfl) ?_ | refine QW_of (Qt_fieldAddr0 rfl) ?_ | refine QW_of (Qt_fieldAddr rfl) ?_ | refine QW_of (Qt_ld1 rfl) ?_ | refine QW_of (Qt_bin rfl) ?_ | refine QW_of (Qt_eql_nilS rfl) ?_ | refine QW_of (Qt_eql_nilN rfl) ?_ | refine QW_of (Qt_build rfl) ?_ | refine QW_of (Qt_rem rfl) ?_)) | (refine WL_op rfl ?_; (first | refine OW_st1 rfl ?_ | refine OW_stA rfl ?_ | refine OW_stN rfl ?_)) | refine WL_nil ?_ | refine WC_seq ?_ | refine WC_block ?_ | refine WC_cond_t (ht := ?_) | refine WC_cond_f (he := ?_) | refine WC_skip ?_ | refine WC_ret ?_ | refine WC_region ?_)
  refine WL_op rfl (OW_call rfl rfl rfl rfl (show Fn _ _ _ _ (fun v L' => v = .pointer (some ⟨b, first % 16 * 24, none⟩) ∧ L' = rc b cs L) from place_fn 0 (by omega) hc) ?_)
  rintro _ _ ⟨rfl, rfl⟩
  repeat (first | (refine WL_Q ?_; (first | refine QW_of (Qt_assign rfl) ?_ | refine QW_of (Qt_move rfl) ?_ | refine QW_of (Qt_nilCheck rfl) ?_ | refine QW_of (Qt_nilCheck_fn rfl) ?_ | refine QW_of (Qt_fieldAddr0 rfl) ?_ | refine QW_of (Qt_fieldAddr rfl) ?_ | refine QW_of (Qt_ld1 rfl) ?_ | refine QW_of (Qt_bin rfl) ?_ | refine QW_of (Qt_eql_nilS rfl) ?_ | refine QW_of (Qt_eql_nilN rfl) ?_ | refine QW_of (Qt_build rfl) ?_ | refine QW_of (Qt_rem rfl) ?_)) | (refine WL_op rfl ?_; (first | refine OW_st1 rfl ?_ | refine OW_stA rfl ?_ | refine OW_stN rfl ?_)) | refine WL_nil ?_ | refine WC_seq ?_ | refine WC_block ?_ | refine WC_cond_t (ht := ?_) | refine WC_cond_f (he := ?_) | refine WC_skip ?_ | refine WC_ret ?_ | refine WC_region ?_)
  repeat (first | (refine WL_Q ?_; (first | refine QW_of (Qt_assign rfl) ?_ | refine QW_of (Qt_move rfl) ?_ | refine QW_of (Qt_nilCheck rfl) ?_ | refine QW_of (Qt_nilCheck_fn rfl) ?_ | refine QW_of (Qt_fieldAddr0 rfl) ?_ | refine QW_of (Qt_fieldAddr rfl) ?_ | refine QW_of (Qt_ld1 rfl) ?_ | refine QW_of (Qt_bin rfl) ?_ | refine QW_of (Qt_eql_nilS rfl) ?_ | refine QW_of (Qt_eql_nilN rfl) ?_ | refine QW_of (Qt_build rfl) ?_ | refine QW_of (Qt_rem rfl) ?_)) | (refine WL_op rfl ?_; (first | refine OW_st1 rfl ?_ | refine OW_stA rfl ?_ | refine OW_stN rfl ?_)) | refine WL_nil ?_ | refine WC_seq ?_ | refine WC_block ?_ | refine WC_cond_t (ht := ?_) | refine WC_cond_f (he := ?_) | refine WC_skip ?_ | refine WC_ret ?_ | refine WC_region ?_)
  refine ⟨rfl, _, _, Res1 rfl (resV_tmp rfl), .refl _, rfl, _, (first + 1) % 16, rfl, ?_⟩
  have e1 : (IntKind.i64.wrap ((first : Int) + 1)).tmod 16 = (((first + 1) % 16 : Nat) : Int) := by
    rw [wrap_i64 (by omega) (by omega), Int.tmod_eq_emod_of_nonneg (by omega)]; omega
  have e2 : IntKind.i64.wrap (((m :: ms).length : Int) - 1) = (ms.length : Int) := by
    simp only [List.length_cons] at hl ⊢
    rw [wrap_i64 (by omega) (by omega)]; omega
  rw [e1, e2]
  exact hc.popped _ rfl
end Go.Proofs.YtdiaogcogkapgaaGreatDoor
namespace Go.Proofs.YtdiaogcogkapgaaGreatDoor
open Go.RowKit
attribute [local irreducible] Fn WC WL WR OW Qt YieldFn QW
noncomputable def newC (cap : Int) : Array Value := putR Tryz.zeroCells126 384 #[.int .i64 cap]
theorem newC_ok {cap : Nat} (h1 : 1 ≤ cap) (h2 : cap ≤ 16) : RecvC (newC cap) cap 0 [] 0 0 where
  size := by kernel_rfl
  cap_ := by kernel_rfl
  first_ := by kernel_rfl
  n_ := by kernel_rfl
  next_ := by kernel_rfl
  ref_ := by kernel_rfl
  cap1 := h1
  cap16 := h2
  f16 := by decide
  len := by simp
  nx0 := by decide
  nx1 := by decide
  msg := fun k m h => by simp at h
theorem new_fn {cap : Nat} (h1 : 1 ≤ cap) (h2 : cap ≤ 16) (L : List (Nat × Obj)) : Fn Tryz.prog 24 [.int .i64 cap] L (fun v L' => ∃ b, v = .pointer (some ⟨b, 0, none⟩) ∧ ∃ cs, L' = rc b cs L ∧ RecvC cs cap 0 [] 0 0) := by
  have g1 : decide ((cap : Int) < 1) = false := by simp; omega
  have g2 : decide ((cap : Int) > 16) = false := by simp; omega
  have hz : (Tryz.zeroCells126).size = 389 := Tryz.zeroCells126_size
  refine Fn_enter Tryz.func24 rfl Tryz.ntmps24 rfl fun g => ?_
  repeat (first | ((first | refine WL_Q ?_ | refine WL_Y ?_); (first | refine QW_of (Qt_move rfl) ?_ | refine QW_of (Qt_assign rfl) ?_ | refine QW_of (Qt_bin rfl) ?_ | refine QW_of (Qt_pick_true rfl) ?_ | refine QW_of (Qt_pick_false rfl) ?_ | refine QW_of (Qt_build rfl) ?_)) | ((first | refine WL_op rfl ?_ | refine WL_yes (h := ?_)); (first | refine OW_box rfl (hk := fun _ => ?_))) | refine WL_nil ?_ | refine WL_un (h := ?_) | refine WL_N ?_ | refine WL_M ?_ | refine WC_seq ?_ | refine WC_cond_t (ht := ?_) | refine WC_cond_f (he := ?_) | refine WC_skip ?_ | refine WC_ret ?_ | refine WC_region ?_)
  exact ⟨rfl, _, _, Res1 rfl (resV_tmp rfl), .refl _, _, rfl, _, rfl, newC_ok h1 h2⟩
theorem new_none {cap : Int} (h : cap < 1 ∨ 16 < cap) (L : List (Nat × Obj)) : Fn Tryz.prog 24 [.int .i64 cap] L (fun v L' => v = .pointer none ∧ L' = L) := by
  by_cases g1 : cap < 1
  · have g1 : decide (cap < 1) = true := by simpa using g1
    refine Fn_enter Tryz.func24 rfl Tryz.ntmps24 rfl fun g => ?_
    repeat (first | ((first | refine WL_Q ?_ | refine WL_Y ?_); (first | refine QW_of (Qt_move rfl) ?_ | refine QW_of (Qt_assign rfl) ?_ | refine QW_of (Qt_bin rfl) ?_ | refine QW_of (Qt_pick_true rfl) ?_ | refine QW_of (Qt_pick_false rfl) ?_ | refine QW_of (Qt_build rfl) ?_)) | ((first | refine WL_op rfl ?_ | refine WL_yes (h := ?_)); (first | refine OW_box rfl (hk := fun _ => ?_))) | refine WL_nil ?_ | refine WL_un (h := ?_) | refine WL_N ?_ | refine WL_M ?_ | refine WC_seq ?_ | refine WC_cond_t (ht := ?_) | refine WC_cond_f (he := ?_) | refine WC_skip ?_ | refine WC_ret ?_ | refine WC_region ?_)
    exact ⟨rfl, _, _, Res1 rfl (resV_tmp rfl), .refl _, rfl, rfl⟩
  · have g2 : decide (cap > 16) = true := by simp; omega
    have g1 : decide (cap < 1) = false := by simpa using g1
    refine Fn_enter Tryz.func24 rfl Tryz.ntmps24 rfl fun g => ?_
    repeat (first | ((first | refine WL_Q ?_ | refine WL_Y ?_); (first | refine QW_of (Qt_move rfl) ?_ | refine QW_of (Qt_assign rfl) ?_ | refine QW_of (Qt_bin rfl) ?_ | refine QW_of (Qt_pick_true rfl) ?_ | refine QW_of (Qt_pick_false rfl) ?_ | refine QW_of (Qt_build rfl) ?_)) | ((first | refine WL_op rfl ?_ | refine WL_yes (h := ?_)); (first | refine OW_box rfl (hk := fun _ => ?_))) | refine WL_nil ?_ | refine WL_un (h := ?_) | refine WL_N ?_ | refine WL_M ?_ | refine WC_seq ?_ | refine WC_cond_t (ht := ?_) | refine WC_cond_f (he := ?_) | refine WC_skip ?_ | refine WC_ret ?_ | refine WC_region ?_)
    exact ⟨rfl, _, _, Res1 rfl (resV_tmp rfl), .refl _, rfl, rfl⟩
end Go.Proofs.YtdiaogcogkapgaaGreatDoor
namespace Go.Proofs.YtdiaogcogkapgaaGreatDoor
open Go.RowKit
def mkV (n : Nat) : MV := { MV.none with kind := 1, time := (n : Int) }
def mkC (n : Nat) : List Value := (mkV n).cells none 0 none 0
theorem mkV_ok {n : Nat} (h : n ≤ 1000000) : (mkV n).Ok := ⟨⟨(by decide : (-9223372036854775808 : Int) ≤ 1), (by decide : (1 : Int) < 9223372036854775808)⟩, i64r0, oks_zRec, ⟨by show (-9223372036854775808 : Int) ≤ (n : Int); omega, by show (n : Int) < 9223372036854775808; omega⟩, i64r0, MV.none_ok.ch, MV.none_ok.bins, MV.none_ok.ct, MV.none_ok.kh, MV.none_ok.ents⟩
theorem mkV_lim {n : Nat} (h : n ≤ 1000000) : (mkV n).Lim := ⟨mkV_ok h, (by decide : (0 : Int) ≤ 1), (by decide : (1 : Int) ≤ 4), Nat.zero_le 8, Nat.zero_le 64, rfl⟩
theorem gram_at {g : GV} (hok : g.Ok) (hb : g.m.bins = []) (he : g.m.ents = []) {L : List (Nat × Obj)} : GramAt L (g.cells none 0 none 0).toArray g none 0 none 0 := by
  refine ⟨hok, rfl, ?_, ?_, ?_, ?_, by simp [maxLen], by simp [maxLen]⟩
  · rw [hb]; exact .inl rfl
  · rw [he]; exact .inl rfl
  · rw [hb]; exact Nat.le_refl _
  · rw [he]; exact Nat.le_refl _
attribute [local irreducible] Fn WC WL WR OW Qt YieldFn QW FnP FnD FnE
theorem msg22_fn {n : Nat} {L : List (Nat × Obj)} : Fn Tryz.prog 9 [.int .i64 (n : Nat)] L (fun v L' => v = .agg (mkC n).toArray ∧ L' = L) := by
  refine Fn_enter Tryz.func9 rfl Tryz.ntmps9 rfl fun gw => ?_
  repeat (first | refine RQ ?_ | (refine RE ?_; try intro _) | refine RC ?_ | refine WC_region ?_)
  exact ⟨rfl, _, _, Res1 rfl (resV_cellN rfl 0 rfl rfl), .cons _ (.refl _), rfl, rfl⟩
theorem unless_t {e : Int} {L : List (Nat × Obj)} : Fn Tryz.prog 70 [.bool true, .int .i64 e] L (fun v L' => v = .int .i64 0 ∧ L' = L) := by
  refine Fn_enter Tryz.func70 rfl Tryz.ntmps70 rfl fun gw => ?_
  repeat (first | refine RQ ?_ | refine RC ?_ | refine WC_region ?_)
  exact ⟨rfl, _, _, Res1 rfl (resV_tmp rfl), .refl _, rfl, rfl⟩
theorem unless_f {e : Int} {L : List (Nat × Obj)} : Fn Tryz.prog 70 [.bool false, .int .i64 e] L (fun v L' => v = .int .i64 e ∧ L' = L) := by
  refine Fn_enter Tryz.func70 rfl Tryz.ntmps70 rfl fun gw => ?_
  repeat (first | refine RQ ?_ | refine RC ?_ | refine WC_region ?_)
  exact ⟨rfl, _, _, Res1 rfl (resV_tmp rfl), .refl _, rfl, rfl⟩
theorem unless_fn {t : Bool} {e : Int} {L : List (Nat × Obj)} : Fn Tryz.prog 70 [.bool t, .int .i64 e] L (fun v L' => v = .int .i64 (if t then 0 else e) ∧ L' = L) := by
  cases t
  · exact unless_f
  · exact unless_t
theorem first3_fn {fb f1 f2 f3 : Nat} [FCall Tryz.prog f1] [FCall Tryz.prog f2] [FCall Tryz.prog f3] {B1 B2 B3 : Array Value} {e1 e2 e3 : Int} {M : List (Nat × Obj)} {i : Nat} {E : TypeId} (hi : M[i]? = some (fb, .cells #[.func (.func f1) #[] B1, .func (.func f2) #[] B2, .func (.func f3) #[] B3] E (0, 0)))
    (h1 : Fn Tryz.prog f1 (#[].toList ++ [] ++ B1.toList) M (fun r L' => r = .int .i64 e1 ∧ L' = M)) (h2 : Fn Tryz.prog f2 (#[].toList ++ [] ++ B2.toList) M (fun r L' => r = .int .i64 e2 ∧ L' = M)) (h3 : Fn Tryz.prog f3 (#[].toList ++ [] ++ B3.toList) M (fun r L' => r = .int .i64 e3 ∧ L' = M)) :
    Fn Tryz.prog 25 [.slice (some ⟨fb, 0, none⟩) 3 3] M (fun r L' => r = .int .i64 (if e1 ≠ 0 then e1 else if e2 ≠ 0 then e2 else e3) ∧ L' = M) := by
  refine Fn_enter Tryz.func25 rfl Tryz.ntmps25 rfl fun gw => ?_
  repeat (first | refine RQ ?_ | refine RC ?_ | refine WG 0 ?_ | refine WG 1 ?_)
  refine WC_wk [(8, .int .i64 0), (7, .int .i64 3), (6, .slice (some ⟨fb, 0, none⟩) 3 3)] ⟨rfl, rfl, rfl, trivial⟩ ?_
  refine WC_unroll 4 (WCn_s ?_)
  repeat (first | refine RQ ?_ | refine RC ?_ | refine WG 2 ?_ | refine WG 3 ?_ | refine WG 4 ?_)
  refine WL_op rfl (OW_callv rfl rfl rfl rfl rfl h1 ?_)
  rintro _ _ ⟨rfl, rfl⟩
  by_cases z1 : e1 = 0
  rotate_left
  · have d : (e1 != 0) = true := by simpa using z1
    repeat (first | refine RQ ?_ | refine RC ?_ | refine WG 4 ?_ | refine WG 5 ?_ | refine WG 6 ?_)
    exact ⟨rfl, _, _, Res1 rfl (resV_tmp rfl), .refl _, by rw [if_pos z1], rfl⟩
  have d : (e1 != 0) = false := by simpa using z1
  repeat (first | refine RQ ?_ | refine RC ?_ | refine WG 4 ?_ | refine WG 5 ?_ | refine WG 7 ?_)
  refine WC_wk [(8, .int .i64 1), (7, .int .i64 3), (6, .slice (some ⟨fb, 0, none⟩) 3 3)] ⟨rfl, rfl, rfl, trivial⟩ ?_
  clear d
  repeat (first | refine RQ ?_ | refine RC ?_ | refine WG 2 ?_ | refine WG 3 ?_ | refine WG 4 ?_)
  refine WL_op rfl (OW_callv rfl rfl rfl rfl rfl h2 ?_)
  rintro _ _ ⟨rfl, rfl⟩
  by_cases z2 : e2 = 0
  rotate_left
  · have d : (e2 != 0) = true := by simpa using z2
    repeat (first | refine RQ ?_ | refine RC ?_ | refine WG 4 ?_ | refine WG 5 ?_ | refine WG 6 ?_)
    exact ⟨rfl, _, _, Res1 rfl (resV_tmp rfl), .refl _, by rw [if_neg (not_not_intro z1), if_pos z2], rfl⟩
  have d : (e2 != 0) = false := by simpa using z2
  repeat (first | refine RQ ?_ | refine RC ?_ | refine WG 4 ?_ | refine WG 5 ?_ | refine WG 7 ?_)
  refine WC_wk [(8, .int .i64 2), (7, .int .i64 3), (6, .slice (some ⟨fb, 0, none⟩) 3 3)] ⟨rfl, rfl, rfl, trivial⟩ ?_
  clear d
  repeat (first | refine RQ ?_ | refine RC ?_ | refine WG 2 ?_ | refine WG 3 ?_ | refine WG 4 ?_)
  refine WL_op rfl (OW_callv rfl rfl rfl rfl rfl h3 ?_)
  rintro _ _ ⟨rfl, rfl⟩
  by_cases z3 : e3 = 0
  rotate_left
  · have d : (e3 != 0) = true := by simpa using z3
    repeat (first | refine RQ ?_ | refine RC ?_ | refine WG 4 ?_ | refine WG 5 ?_ | refine WG 6 ?_)
    exact ⟨rfl, _, _, Res1 rfl (resV_tmp rfl), .refl _, by rw [if_neg (not_not_intro z1), if_neg (not_not_intro z2)], rfl⟩
  have d : (e3 != 0) = false := by simpa using z3
  repeat (first | refine RQ ?_ | refine RC ?_ | refine WG 4 ?_ | refine WG 5 ?_ | refine WG 7 ?_)
  refine WC_wk [(8, .int .i64 3), (7, .int .i64 3), (6, .slice (some ⟨fb, 0, none⟩) 3 3)] ⟨rfl, rfl, rfl, trivial⟩ ?_
  clear d
  repeat (first | refine RQ ?_ | refine RC ?_ | refine WG 2 ?_ | refine WG 8 ?_)
  exact ⟨rfl, _, _, Res1 rfl (resV_tmp rfl), .refl _, by rw [if_neg (not_not_intro z1), if_neg (not_not_intro z2), z3], rfl⟩
theorem first2_fn {fb f1 f2 : Nat} [FCall Tryz.prog f1] [FCall Tryz.prog f2] {B1 B2 : Array Value} {e2 : Int} {M : List (Nat × Obj)} {i : Nat} {E : TypeId} {R : List (Nat × Obj) → Prop} (hi : M[i]? = some (fb, .cells #[.func (.func f1) #[] B1, .func (.func f2) #[] B2] E (0, 0)))
    (h1 : Fn Tryz.prog f1 (#[].toList ++ [] ++ B1.toList) M (fun r L' => r = .int .i64 0 ∧ L' = M)) (h2 : Fn Tryz.prog f2 (#[].toList ++ [] ++ B2.toList) M (fun r L' => r = .int .i64 e2 ∧ R L')) :
    Fn Tryz.prog 25 [.slice (some ⟨fb, 0, none⟩) 2 2] M (fun r L' => r = .int .i64 e2 ∧ R L') := by
  refine Fn_enter Tryz.func25 rfl Tryz.ntmps25 rfl fun gw => ?_
  repeat (first | refine RQ ?_ | refine RC ?_ | refine WG 0 ?_ | refine WG 1 ?_)
  refine WC_wk [(8, .int .i64 0), (7, .int .i64 2), (6, .slice (some ⟨fb, 0, none⟩) 2 2)] ⟨rfl, rfl, rfl, trivial⟩ ?_
  refine WC_unroll 3 (WCn_s ?_)
  repeat (first | refine RQ ?_ | refine RC ?_ | refine WG 2 ?_ | refine WG 3 ?_ | refine WG 4 ?_)
  refine WL_op rfl (OW_callv rfl rfl rfl rfl rfl h1 ?_)
  rintro _ _ ⟨rfl, rfl⟩
  repeat (first | refine RQ ?_ | refine RC ?_ | refine WG 4 ?_ | refine WG 5 ?_ | refine WG 7 ?_)
  refine WC_wk [(8, .int .i64 1), (7, .int .i64 2), (6, .slice (some ⟨fb, 0, none⟩) 2 2)] ⟨rfl, rfl, rfl, trivial⟩ ?_
  repeat (first | refine RQ ?_ | refine RC ?_ | refine WG 2 ?_ | refine WG 3 ?_ | refine WG 4 ?_)
  refine WL_op rfl (OW_callv rfl rfl rfl rfl rfl h2 ?_)
  rintro _ L' ⟨rfl, hR⟩
  by_cases z2 : e2 = 0
  rotate_left
  · have d : (e2 != 0) = true := by simpa using z2
    repeat (first | refine RQ ?_ | refine RC ?_ | refine WG 4 ?_ | refine WG 5 ?_ | refine WG 6 ?_)
    exact ⟨rfl, _, _, Res1 rfl (resV_tmp rfl), .refl _, rfl, hR⟩
  have d : (e2 != 0) = false := by simpa using z2
  repeat (first | refine RQ ?_ | refine RC ?_ | refine WG 4 ?_ | refine WG 5 ?_ | refine WG 7 ?_)
  refine WC_wk [(8, .int .i64 2), (7, .int .i64 2), (6, .slice (some ⟨fb, 0, none⟩) 2 2)] ⟨rfl, rfl, rfl, trivial⟩ ?_
  clear d
  repeat (first | refine RQ ?_ | refine RC ?_ | refine WG 2 ?_ | refine WG 8 ?_)
  exact ⟨rfl, _, _, Res1 rfl (resV_tmp rfl), .refl _, by rw [z2], hR⟩
end Go.Proofs.YtdiaogcogkapgaaGreatDoor
namespace Go.Proofs.YtdiaogcogkapgaaGreatDoor
open Go.RowKit
def readE (g : GV) (chan life : Int) (ack : Bool) : Int := if (g.chan == chan && g.ack == ack) = true then (if (g.life == life) = true then 0 else 18) else 2
abbrev endC (chan life : Int) : Array Value := #[.int .i64 chan, .int .i64 life]
attribute [local irreducible] Fn WC WL WR OW Qt YieldFn QW FnP FnD FnE
theorem read1_fn {b i : Nat} {E : TypeId} {L : List (Nat × Obj)} (hi : L[i]? = some (b, .cells #[.nilIface] E (0, 0))) : Fn Tryz.prog 69 [.pointer (some ⟨b, 0, none⟩)] L (fun v L' => v = .int .i64 0 ∧ L' = L) := by
  refine Fn_enter Tryz.func69 rfl Tryz.ntmps69 rfl fun gw => ?_
  repeat (first | refine RQ ?_ | (refine WL_op rfl ?_; (first | refine OW_callP rfl (hF := unless_t) (hk := ?_))) | refine RC ?_ | refine WC_region ?_)
  exact ⟨rfl, _, _, Res1 rfl (resV_tmp rfl), .refl _, rfl, rfl⟩
end Go.Proofs.YtdiaogcogkapgaaGreatDoor
namespace Go.Proofs.YtdiaogcogkapgaaGreatDoor
open Go.RowKit
theorem Fn.under {P : Program} {f : FuncId} {args : List Value} {Pf S L : List (Nat × Obj)} {Q : Value → Prop} {Z : List (Nat × Obj) → Prop} (h : Fn P f args (S ++ (Pf ++ L)) (fun r L' => Q r ∧ ∃ S', L' = S' ++ (Pf ++ L) ∧ Z S')) : Fn P f args (Pf ++ (S ++ L)) (fun r L' => Q r ∧ ∃ S', L' = Pf ++ (S' ++ L) ∧ Z S') :=
  h.perm (List.perm_append_comm_assoc ..) fun v L' ⟨h1, S', h2, h3⟩ => ⟨_, by rw [h2]; exact List.perm_append_comm_assoc .., h1, S', rfl, h3⟩
theorem Fn.underP {P : Program} {f : FuncId} {args : List Value} {Pf S L : List (Nat × Obj)} {x : Value} (h : Fn P f args (S ++ (Pf ++ L)) (fun r L' => r = x ∧ L' = S ++ (Pf ++ L))) : Fn P f args (Pf ++ (S ++ L)) (fun r L' => r = x ∧ L' = Pf ++ (S ++ L)) :=
  h.perm (List.perm_append_comm_assoc ..) fun v L' ⟨h1, h2⟩ => ⟨_, by rw [h2]; exact List.perm_append_comm_assoc .., h1, rfl⟩
def SendAt (b : Nat) (S : List (Nat × Obj)) (ms : List (List Value)) (cap base limit : Nat) : Prop := ∃ v T, S = sdO b v cap base limit :: T ∧ BufM v T ms ∧ Ms24 ms ∧ ms.length ≤ cap ∧ cap ≤ 16
section
variable {b cap base limit : Nat} {S F : List (Nat × Obj)} {ms : List (List Value)}
theorem push_sd {m : List Value} (h : SendAt b S ms cap base limit) (hm : m.length = 24) (hm1 : (m.all fun v => v.oneCell') = true) : Fn Tryz.prog 29 [.pointer (some ⟨b, 0, none⟩), .agg m.toArray] (S ++ F) (fun r L' => r = .int .i64 (if ms.length = cap then 8 else 0) ∧ ∃ S', L' = S' ++ F ∧ SendAt b S' (if ms.length = cap then ms else ms ++ [m]) cap base limit) := by
  obtain ⟨v, T, rfl, hb, hms, hl, hc⟩ := id h
  by_cases hf : ms.length = cap
  · rw [if_pos hf, if_pos hf]
    refine (spush_full (F := F) (m := m.toArray) hb hf hc).mono ?_
    rintro _ _ ⟨rfl, rfl⟩
    exact ⟨rfl, _, rfl, h⟩
  · rw [if_neg hf, if_neg hf]
    refine (spush_ok (F := F) hm hm1 hb (by omega) hc).mono ?_
    rintro _ _ ⟨rfl, v', T', hb', rfl⟩
    exact ⟨rfl, sdO b v' cap base limit :: T', rfl, v', T', rfl, hb', hms.app hm hm1, by rw [List.length_append]; simp; omega, hc⟩
theorem next_none (h : SendAt b S [] cap base limit) {k : Int} : Fn Tryz.prog 30 [.pointer (some ⟨b, 0, none⟩), .int .i64 k] (S ++ F) (fun r L' => r = .tuple #[.int .u64 0, .agg zc43, .bool false] ∧ L' = S ++ F) := by
  obtain ⟨v, T, rfl, hb, hms, hl, hc⟩ := h
  exact snext_none (F := F) hb
theorem next_sd (h : SendAt b S ms cap base limit) {k : Nat} {m : List Value} (hk : ms[k % mayN ms.length base limit]? = some m) (h1 : base ≤ 1000000000000) (h2 : limit ≤ 1000000000000) (hk2 : k ≤ 1000000) : Fn Tryz.prog 30 [.pointer (some ⟨b, 0, none⟩), .int .i64 (k : Nat)] (S ++ F) (fun r L' => r = .tuple #[.int .u64 (base + k % mayN ms.length base limit : Nat), .agg m.toArray, .bool true] ∧ L' = S ++ F) := by
  obtain ⟨v, T, rfl, hb, hms, hl, hc⟩ := h
  exact snext_ok (F := F) hb hms hk (by omega) h1 h2 hk2
theorem ack_sd (h : SendAt b S ms cap base limit) {next room : Nat} (hbb : base ≤ 1000000000000) (hn : next ≤ base + ms.length) (hr : room ≤ cap) : Fn Tryz.prog 51 [.pointer (some ⟨b, 0, none⟩), .int .u64 (next : Nat), .int .i64 (room : Nat)] (S ++ F) (fun r L' => r = .int .i64 0 ∧ ∃ S', L' = S' ++ F ∧ SendAt b S' (ms.drop (next - base)) cap (max base next) (max limit (next + room))) := by
  obtain ⟨v, T, rfl, hb, hms, hl, hc⟩ := h
  refine (sack_ok (F := F) hb hms (by omega) hbb hn hr hc).mono ?_
  rintro _ _ ⟨rfl, v', hb', rfl⟩
  exact ⟨rfl, _, rfl, v', T, rfl, hb', hms.drop _, by rw [List.length_drop]; omega, hc⟩
theorem len_sd (h : SendAt b S ms cap base limit) : Fn Tryz.prog 32 [.pointer (some ⟨b, 0, none⟩)] (S ++ F) (fun r L' => r = .int .i64 (ms.length : Nat) ∧ L' = S ++ F) := by
  obtain ⟨v, T, rfl, hb, hms, hl, hc⟩ := h
  exact slen_fn (i := 0) hb rfl
theorem left_sd (h : SendAt b S ms cap base limit) : Fn Tryz.prog 31 [.pointer (some ⟨b, 0, none⟩)] (S ++ F) (fun r L' => r = .int .i64 ((cap - ms.length : Nat) : Int) ∧ L' = S ++ F) := by
  obtain ⟨v, T, rfl, hb, hms, hl, hc⟩ := h
  exact sleft_fn (i := 0) hb hl hc rfl
end
abbrev outO (ob db : Nat) (chan life : Int) : Nat × Obj := (ob, .cells #[.int .i64 chan, .int .i64 life, .pointer (some ⟨db, 0, none⟩)] 81 (0, 0))
abbrev sndO (db sb : Nat) : Nat × Obj := (db, .cells #[.pointer (some ⟨sb, 0, none⟩)] 79 (0, 0))
def OutAt (ob : Nat) (S : List (Nat × Obj)) (chan life : Int) (ms : List (List Value)) (cap base limit : Nat) : Prop := ∃ db sb S1, S = outO ob db chan life :: sndO db sb :: S1 ∧ SendAt sb S1 ms cap base limit
def rG (chan life : Int) : GV := ⟨life, chan, true, 0, 0, MV.none⟩
attribute [local irreducible] Fn WC WL WR OW Qt YieldFn QW FnP FnD FnE
section
variable {ob cap base limit : Nat} {chan life : Int} {S F : List (Nat × Obj)} {ms : List (List Value)}
theorem push2_fn {fb x3 x2 db sb : Nat} {m : List Value} {o1 : Obj} {E2 E3 : TypeId} {S1 : List (Nat × Obj)} (hm : m.length = 24) (hm1 : (m.all fun v => v.oneCell') = true) (h : SendAt sb S1 ms cap base limit) : Fn Tryz.prog 28 [.pointer (some ⟨x2, 0, none⟩), .pointer (some ⟨x3, 0, none⟩)] ([(fb, o1), (x3, .cells m.toArray E3 (0, 0)), (x2, .cells #[.pointer (some ⟨ob, 0, none⟩)] E2 (0, 0)), outO ob db chan life, sndO db sb] ++ (S1 ++ F))
    (fun r L' => r = .int .i64 (if ms.length = cap then 8 else 0) ∧ ∃ S', L' = [(fb, o1), (x3, .cells m.toArray E3 (0, 0)), (x2, .cells #[.pointer (some ⟨ob, 0, none⟩)] E2 (0, 0)), outO ob db chan life, sndO db sb] ++ (S' ++ F) ∧ SendAt sb S' (if ms.length = cap then ms else ms ++ [m]) cap base limit) := by
  have hsz : m.toArray.size = 24 := hm
  refine Fn_enter Tryz.func28 rfl Tryz.ntmps28 rfl fun gw => ?_
  have hsub : [(fb, o1), (x3, Obj.cells m.toArray E3 (0, 0)), (x2, .cells #[.pointer (some ⟨ob, 0, none⟩)] E2 (0, 0)), outO ob db chan life, sndO db sb].Sublist ([(fb, o1), (x3, .cells m.toArray E3 (0, 0)), (x2, .cells #[.pointer (some ⟨ob, 0, none⟩)] E2 (0, 0)), outO ob db chan life, sndO db sb] ++ (S1 ++ F)) := List.sublist_append_left _ _
  repeat (first | refine RQ ?_ | refine RC ?_ | refine WG 0 ?_)
  refine WC_draw_sub (id := 1) 10 (Cs [0,1,2,3,4,5,6,7] <| .must 8 <| .calm 9 <| .done) mixed (by kernel_rfl) (hsub) ?_
  repeat (first | refine RQr ?_ | refine RC ?_ | refine RU ?_ | refine WC_draw_all (id := 1) 10 (Cs [0,1,2,3,4,5,6,7] <| .must 8 <| .calm 9 <| .done) mixed (by kernel_rfl) ?_)
  refine WR_op rfl rfl (OW_call rfl (hF := Fn.under (push_sd h hm hm1)) (hk := ?_))
  rintro _ _ ⟨rfl, S', rfl, h'⟩
  refine ⟨sub_mem (List.sublist_append_left _ _), ?_⟩
  repeat (first | refine RQr ?_ | refine RC ?_ | refine RU ?_ | refine WC_draw_all (id := 1) 10 (Cs [0,1,2,3,4,5,6,7] <| .must 8 <| .calm 9 <| .done) mixed (by kernel_rfl) ?_)
  exact ⟨rfl, _, _, Res1 rfl (resV_tmp rfl), .refl _, rfl, S', rfl, h'⟩
theorem len22_fn (h : OutAt ob S chan life ms cap base limit) : Fn Tryz.prog 12 [.pointer (some ⟨ob, 0, none⟩)] (S ++ F) (fun r L' => r = .int .i64 (ms.length : Nat) ∧ L' = S ++ F) := by
  obtain ⟨db, sb, S1, rfl, hS⟩ := h
  refine Fn_enter Tryz.func12 rfl Tryz.ntmps12 rfl fun gw => ?_
  repeat (first | refine RQ ?_ | (refine WL_op rfl ?_; (first | refine OW_callP rfl (hF := Fn.underP (Pf := [_, _]) (len_sd hS)) (hk := ?_))) | refine RC ?_ | refine WC_region ?_)
  exact ⟨rfl, _, _, Res1 rfl (resV_tmp rfl), .refl _, rfl, rfl⟩
theorem left22_fn (h : OutAt ob S chan life ms cap base limit) : Fn Tryz.prog 11 [.pointer (some ⟨ob, 0, none⟩)] (S ++ F) (fun r L' => r = .int .i64 ((cap - ms.length : Nat) : Int) ∧ L' = S ++ F) := by
  obtain ⟨db, sb, S1, rfl, hS⟩ := h
  refine Fn_enter Tryz.func11 rfl Tryz.ntmps11 rfl fun gw => ?_
  repeat (first | refine RQ ?_ | (refine WL_op rfl ?_; (first | refine OW_callP rfl (hF := Fn.underP (Pf := [_, _]) (left_sd hS)) (hk := ?_))) | refine RC ?_ | refine WC_region ?_)
  exact ⟨rfl, _, _, Res1 rfl (resV_tmp rfl), .refl _, rfl, rfl⟩
theorem pump_none (h : OutAt ob S chan life [] cap base limit) {k : Int} : Fn Tryz.prog 10 [.pointer (some ⟨ob, 0, none⟩), .int .i64 k] (S ++ F) (fun r L' => r = .tuple #[.string (bstr []), .bool false] ∧ L' = S ++ F) := by
  obtain ⟨db, sb, S1, rfl, hS⟩ := h
  refine Fn_enter Tryz.func10 rfl Tryz.ntmps10 rfl fun gw => ?_
  repeat (first | refine RQr ?_ | (refine OX ?_; (first | (refine OE ?_; try intro _) | refine OW_callP rfl (hF := Put_lim (gram_at hL.ok rfl rfl) hL) (hk := ?_) | refine OW_callP rfl (hF := Put_lim (gram_at hL.ok rfl rfl) hL) (hk := ?_) | refine OW_callP rfl (hF := Fn.underP (Pf := [_, _]) (next_none hS)) (hk := ?_)); try refine SD ?_) | refine RC ?_ | refine RU ?_ | refine WC_draw_all (id := 6) 19 (Cs [0,1,2,3,4,5,6,7,8,9,10,11,12] <| .must 13 <| Cs [14,15,16,17,18] <| .done) mixed (by kernel_rfl) ?_ | refine WC_region ?_)
  exact ⟨rfl, _, _, Res2 rfl (resV_tmp rfl) (resV_tmp rfl), .cons _ (.refl _), rfl, rfl⟩
end
end Go.Proofs.YtdiaogcogkapgaaGreatDoor
namespace Go.Proofs.YtdiaogcogkapgaaGreatDoor
open Go.RowKit
abbrev linO (ib rb2 : Nat) (chan life : Int) : Nat × Obj := (ib, .cells #[.int .i64 chan, .int .i64 life, .pointer (some ⟨rb2, 0, none⟩)] 88 (0, 0))
abbrev rcvO (rb2 rb : Nat) : Nat × Obj := (rb2, .cells #[.pointer (some ⟨rb, 0, none⟩)] 86 (0, 0))
attribute [local irreducible] Fn WC WL WR OW Qt YieldFn QW FnP FnD FnE
end Go.Proofs.YtdiaogcogkapgaaGreatDoor
namespace Go.Proofs.YtdiaogcogkapgaaGreatDoor
open Go.RowKit
abbrev rsO (b : Nat) (v : Value) (cap base limit : Nat) : Nat × Obj := (b, .cells #[.int .i64 (cap : Nat), .int .u64 (base : Nat), .int .u64 (limit : Nat), v] 113 (0, 0))
def cntN (i base limit : Nat) : Nat := if i = 0 then 0 else mayN i base limit
theorem cntN_val (i base limit : Nat) : cntN i base limit = if i = 0 then 0 else if limit ≤ base then 1 else min i (limit - base) := rfl
theorem cntN_le (i base limit : Nat) : cntN i base limit ≤ i := by
  rw [cntN_val]
  by_cases hi : i = 0
  · rw [if_pos hi]; omega
  · rw [if_neg hi]
    by_cases hl : limit ≤ base
    · rw [if_pos hl]; omega
    · rw [if_neg hl]; omega
theorem cntN_more {i base limit : Nat} (h : i = 0 ∨ base + i < limit) : cntN (i + 1) base limit = cntN i base limit + 1 := by
  rw [cntN_val, cntN_val, if_neg (by omega)]
  by_cases hi : i = 0
  · rw [if_pos hi]
    by_cases hl : limit ≤ base
    · rw [if_pos hl]
    · rw [if_neg hl]; omega
  · rw [if_neg hi, if_neg (by omega), if_neg (by omega)]; omega
theorem cntN_same {i base limit : Nat} (h0 : i ≠ 0) (h : ¬ base + i < limit) : cntN (i + 1) base limit = cntN i base limit := by
  rw [cntN_val, cntN_val, if_neg (by omega), if_neg h0]
  by_cases hl : limit ≤ base
  · rw [if_pos hl, if_pos hl]
  · rw [if_neg hl, if_neg hl]; omega
theorem BufM.snoc {v : Value} {T : List (Nat × Obj)} {ms : List (List Value)} {m : List Value} (h : Buf 43 24 v T (0 + ms.length + 1) ([] ++ ms.flatten ++ m)) : BufM v T (ms ++ [m]) := by
  unfold BufM
  rw [List.length_append, List.flatten_append, List.flatten_cons, List.flatten_nil, List.append_nil]
  rw [Nat.zero_add, List.nil_append] at h
  exact h
theorem BufM.full {v : Value} {T : List (Nat × Obj)} {ms : List (List Value)} {m : List Value} (h : BufM v T (ms ++ [m])) : ∃ g off cap cur, v = .slice (some ⟨g, off, none⟩) (ms ++ [m]).length cap ∧ T = [(g, .cells cur 43 (0, 0))] := by
  rcases h with ⟨_, h2, _⟩ | ⟨g, off, cap, cur, h1, h2, _⟩
  · simp at h2
  · exact ⟨g, off, cap, cur, h1, h2⟩
theorem buf0 (z : Nat) : Buf 43 24 (.slice (some ⟨z, 0, none⟩) 0 0) [(z, .cells #[] 43 (0, 0))] 0 [] := .inr ⟨z, 0, 0, #[], rfl, rfl, rfl, Nat.le_refl _, Nat.zero_le _, Nat.le_refl _, fun j x hx => by simp at hx⟩
theorem Ms24.ones {ms : List (List Value)} (h : Ms24 ms) : ∀ u ∈ ms.flatten, u.oneCell' = true := fun u hu => by
  obtain ⟨l, hl, hu⟩ := List.mem_flatten.1 hu
  exact List.all_eq_true.1 (h l hl).2 u hu
theorem WC_permA {c : Cx} {code : Code} {K : Exit → St → Prop} {s : List (Nat × Value)} {D : List Deferred} {L L' : List (Nat × Obj)} (hp : L'.Perm L) (h : WC c code K ⟨s, D, L'⟩) : WC c code K ⟨s, D, L⟩ := fun a w ha => h a w (ha.mem' (ha.mem.perm hp))
theorem WL_dropL {c : Cx} {ops : Array Oper} {l : List Oper} {K : Exit → St → Prop} {s : List (Nat × Value)} {D : List Deferred} {L L' : List (Nat × Obj)} (hp : L'.Sublist L) (h : WL c ops l K ⟨s, D, L'⟩) : WL c ops l K ⟨s, D, L⟩ := fun a w ha => h a w (ha.mem' (ha.mem.sublist hp))
theorem blockK_mono {id : Nat} {K1 K2 : Exit → St → Prop} (h : ∀ e σ, K1 e σ → K2 e σ) (e : Exit) (σ : St) (hk : blockK id K1 e σ) : blockK id K2 e σ := by
  cases e with
  | exit id' =>
    simp only [blockK] at hk ⊢
    split at hk
    · exact h _ _ hk
    · exact h _ _ hk
  | normal => exact h _ _ hk
  | ret => exact h _ _ hk
  | panic ch => exact h _ _ hk
  | goto l => exact h _ _ hk
  | outgrown => exact h _ _ hk
theorem WC_meetL {c : Cx} {x z : Code} {id : Nat} {K : Exit → St → Prop} {σ : St} (Q : St → Prop) (hA : WC c x (blockK id (thenK (meetQ Q) K)) σ) (hB : ∀ σ, Q σ → WC c z K σ) : WC c x (blockK id (thenK (WC c z K) K)) σ :=
  WC_mono hA (blockK_mono (meet_next hB))
attribute [local irreducible] Fn WC WL WR OW Qt YieldFn QW FnP FnD
theorem rsnew_fn {cap : Nat} (h1 : 1 ≤ cap) (h2 : cap ≤ 16) {L : List (Nat × Obj)} : Fn Tryz.prog 37 [.int .i64 (cap : Nat)] L (fun v L' => ∃ b, v = .pointer (some ⟨b, 0, none⟩) ∧ L' = rsO b (.slice none 0 0) cap 0 cap :: L) := by
  refine Fn_enter Tryz.func37 rfl Tryz.ntmps37 rfl fun gw => ?_
  have d1 : decide ((cap : Int) < 1) = false := decide_eq_false (by omega)
  have d2 : decide ((cap : Int) > 16) = false := decide_eq_false (by omega)
  have w : IntKind.u64.wrap (cap : Int) = (cap : Int) := wU64 (by omega) (by omega)
  repeat (first | refine RQ ?_ | (refine RE ?_; try intro _) | refine RC ?_ | refine WC_region ?_)
  rename_i b
  exact ⟨rfl, _, _, Res1 rfl (resV_tmp rfl), .refl _, b, rfl, by rw [w]; rfl⟩
section
variable {b cap base limit : Nat} {v : Value} {T F : List (Nat × Obj)} {ms : List (List Value)}
theorem rspush_full {m : Array Value} (hb : BufM v T ms) (hl : ms.length = cap) : Fn Tryz.prog 60 [.pointer (some ⟨b, 0, none⟩), .agg m] (rsO b v cap base limit :: (T ++ F)) (fun r L' => r = .int .i64 8 ∧ L' = rsO b v cap base limit :: (T ++ F)) := by
  obtain ⟨a, c, rfl, _, _⟩ := hb.val
  refine Fn_enter Tryz.func60 rfl Tryz.ntmps60 rfl fun gw => ?_
  have d : decide (((ms.length : Nat) : Int) ≥ ((cap : Nat) : Int)) = true := decide_eq_true (by omega)
  repeat (first | refine RQr ?_ | (refine OX ?_; (first | (refine OE ?_; try intro _)); try refine SD ?_) | refine RC ?_ | refine RU ?_ | refine WC_draw_all (id := 1) 10 (Cs [0,1,2,3,4,5,6,7,8,9] <| .done) mixed (by kernel_rfl) ?_ | refine WC_draw_all (id := 3) 10 (Cs [0,2,3,4,5,7] <| .either 1 (.either 6 (.must 8 <| .must 9 <| .must 10 <| .must 11 <| .must 12 <| .done) 8 (.must 6 <| .must 9 <| .must 10 <| .must 11 <| .must 12 <| .done)) 8 (.must 1 <| .must 6 <| .must 9 <| .must 10 <| .must 11 <| .must 12 <| .done)) mixed (by kernel_rfl) ?_ | refine WC_region ?_)
  exact ⟨rfl, _, _, Res1 rfl (resV_tmp rfl), .cons _ (.refl _), rfl, rfl⟩
set_option maxHeartbeats 2000000 in
theorem rspush_ok {m : List Value} (hm : m.length = 24) (hm1 : (m.all fun v => v.oneCell') = true) (hb : BufM v T ms) (hms : Ms24 ms) (hl : ms.length < cap) (hc : cap ≤ 16) : Fn Tryz.prog 60 [.pointer (some ⟨b, 0, none⟩), .agg m.toArray] (rsO b v cap base limit :: (T ++ F)) (fun r L' => r = .int .i64 0 ∧ ∃ v' T', BufM v' T' (ms ++ [m]) ∧ L' = rsO b v' cap base limit :: (T' ++ F)) := by
  have hv := hb.vec0 F
  obtain ⟨a, c, rfl, hle, hcm⟩ := id hb.val
  refine Fn_enter Tryz.func60 rfl Tryz.ntmps60 rfl fun gw => ?_
  have d : decide (((ms.length : Nat) : Int) ≥ ((cap : Nat) : Int)) = false := decide_eq_false (by omega)
  have hmz : m.toArray.size = 24 := hm
  have hone : ∀ u ∈ m, u.oneCell' = true := by simpa [List.all_eq_true] using hm1
  repeat (first | refine RQr ?_ | (refine OX ?_; (first | (refine OE ?_; try intro _)); try refine SD ?_) | refine RC ?_ | refine RU ?_ | refine WC_draw_all (id := 1) 10 (Cs [0,1,2,3,4,5,6,7,8,9] <| .done) mixed (by kernel_rfl) ?_ | refine WG 0 ?_)
  repeat (first | refine RQr ?_ | ((first | refine WL_op rfl ?_ | refine WR_late rfl rfl rfl ?_ | refine WR_op rfl rfl ?_); (first | (refine OE ?_; try intro _)); try refine SD ?_) | refine RC ?_ | refine RU ?_ | refine WC_draw_all (id := 3) 10 (Cs [0,2,3,4,5,7] <| .either 1 (.either 6 (.must 8 <| .must 9 <| .must 10 <| .must 11 <| .must 12 <| .done) 8 (.must 6 <| .must 9 <| .must 10 <| .must 11 <| .must 12 <| .done)) 8 (.must 1 <| .must 6 <| .must 9 <| .must 10 <| .must 11 <| .must 12 <| .done)) mixed (by kernel_rfl) ?_)
  rename_i x3
  refine WR_either ?_ ?_
  · repeat (first | refine RQr ?_ | ((first | refine WL_op rfl ?_ | refine WR_late rfl rfl rfl ?_ | refine WR_op rfl rfl ?_); (first | (refine OE ?_; try intro _)); try refine SD ?_) | refine RC ?_ | refine RU ?_ | refine WC_draw_all (id := 3) 10 (Cs [0,2,3,4,5,7] <| .either 1 (.either 6 (.must 8 <| .must 9 <| .must 10 <| .must 11 <| .must 12 <| .done) 8 (.must 6 <| .must 9 <| .must 10 <| .must 11 <| .must 12 <| .done)) 8 (.must 1 <| .must 6 <| .must 9 <| .must 10 <| .must 11 <| .must 12 <| .done)) mixed (by kernel_rfl) ?_)
    rename_i z
    refine WR_either ?_ ?_
    · skip
      refine WR_op rfl rfl (OW_append_bufM (A := []) (T := [(z, .cells #[] 43 (0, 0))]) (B := (x3, .cells m.toArray 43 (0, 0)) :: rsO b (.slice a ms.length c) cap base limit :: (T ++ F)) rfl rfl rfl rfl rfl (buf0 z) (srcVec (((hv.cons _).cons _).cons _) hms.ones) hms.flat (by simp only [maxLen]; omega) (by omega) ?_)
      intro v1 T1 hb1
      refine ⟨sub_mem (by repeat (first | exact .refl _ | exact List.nil_sublist _ | exact List.sublist_append_right _ _ | apply List.Sublist.cons_cons | apply List.Sublist.cons)), ?_⟩
      repeat (first | refine RQr ?_ | ((first | refine WL_op rfl ?_ | refine WR_late rfl rfl rfl ?_ | refine WR_op rfl rfl ?_); (first | (refine OE ?_; try intro _)); try refine SD ?_) | refine RC ?_ | refine RU ?_ | refine WC_draw_all (id := 3) 10 (Cs [0,2,3,4,5,7] <| .either 1 (.either 6 (.must 8 <| .must 9 <| .must 10 <| .must 11 <| .must 12 <| .done) 8 (.must 6 <| .must 9 <| .must 10 <| .must 11 <| .must 12 <| .done)) 8 (.must 1 <| .must 6 <| .must 9 <| .must 10 <| .must 11 <| .must 12 <| .done)) mixed (by kernel_rfl) ?_)
      rename_i eb
      refine WR_op rfl rfl (OW_append_bufM (A := [(eb, .cells m.toArray 43 (0, 0))]) (T := T1) (B := (x3, .cells m.toArray 43 (0, 0)) :: rsO b (.slice a ms.length c) cap base limit :: (T ++ F)) rfl rfl rfl rfl rfl hb1 (srcVec ⟨by rw [hm], _, 1, rfl, Nat.le_refl _, by decide, .inr ⟨eb, 0, _, _, _, 0, rfl, rfl, fun j x hx => by rw [Nat.zero_add]; simpa using hx⟩⟩ hone) (by rw [hm]) (by simp only [maxLen]; omega) (by omega) ?_)
      intro v2 T2 hb2
      have hb2 := BufM.snoc hb2
      obtain ⟨g2, o2, c2, cur2, rfl, rfl⟩ := id hb2.full
      refine ⟨sub_mem (by repeat (first | exact .refl _ | exact List.nil_sublist _ | exact List.sublist_append_right _ _ | apply List.Sublist.cons_cons | apply List.Sublist.cons)), ?_⟩
      repeat (first | refine RQr ?_ | ((first | refine WL_op rfl ?_ | refine WR_late rfl rfl rfl ?_ | refine WR_op rfl rfl ?_); (first | (refine OE ?_; try intro _)); try refine SD ?_) | refine RC ?_ | refine RU ?_ | refine WC_draw_all (id := 3) 10 (Cs [0,2,3,4,5,7] <| .either 1 (.either 6 (.must 8 <| .must 9 <| .must 10 <| .must 11 <| .must 12 <| .done) 8 (.must 6 <| .must 9 <| .must 10 <| .must 11 <| .must 12 <| .done)) 8 (.must 1 <| .must 6 <| .must 9 <| .must 10 <| .must 11 <| .must 12 <| .done)) mixed (by kernel_rfl) ?_)
      refine WC_front 3 rfl ?_
      repeat (first | refine RQ ?_ | refine RC ?_ | refine WG 4 ?_)
      exact ⟨rfl, _, rsO b (.slice (some ⟨g2, o2, none⟩) (ms ++ [m]).length c2) cap base limit :: (g2, .cells cur2 43 (0, 0)) :: F, Res1 rfl (resV_tmp rfl), (by repeat (first | exact .refl _ | exact List.sublist_append_right _ _ | apply List.Sublist.cons_cons | apply List.Sublist.cons)), rfl, _, [(g2, .cells cur2 43 (0, 0))], hb2, rfl⟩
    · repeat (first | refine RQr ?_ | ((first | refine WL_op rfl ?_ | refine WR_late rfl rfl rfl ?_ | refine WR_op rfl rfl ?_); (first | (refine OE ?_; try intro _)); try refine SD ?_) | refine RC ?_ | refine RU ?_ | refine WC_draw_all (id := 3) 10 (Cs [0,2,3,4,5,7] <| .either 1 (.either 6 (.must 8 <| .must 9 <| .must 10 <| .must 11 <| .must 12 <| .done) 8 (.must 6 <| .must 9 <| .must 10 <| .must 11 <| .must 12 <| .done)) 8 (.must 1 <| .must 6 <| .must 9 <| .must 10 <| .must 11 <| .must 12 <| .done)) mixed (by kernel_rfl) ?_)
      rename_i eb
      refine WR_op rfl rfl (OW_append_bufM (A := [(eb, .cells m.toArray 43 (0, 0))]) (T := [(z, .cells #[] 43 (0, 0))]) (B := (x3, .cells m.toArray 43 (0, 0)) :: rsO b (.slice a ms.length c) cap base limit :: (T ++ F)) rfl rfl rfl rfl rfl (buf0 z) (srcVec ((((hv.cons _).cons _).cons _).cons _) hms.ones) hms.flat (by simp only [maxLen]; omega) (by omega) ?_)
      intro v1 T1 hb1
      refine ⟨sub_mem (by repeat (first | exact .refl _ | exact List.nil_sublist _ | exact List.sublist_append_right _ _ | apply List.Sublist.cons_cons | apply List.Sublist.cons)), ?_⟩
      repeat (first | refine RQr ?_ | ((first | refine WL_op rfl ?_ | refine WR_late rfl rfl rfl ?_ | refine WR_op rfl rfl ?_); (first | (refine OE ?_; try intro _)); try refine SD ?_) | refine RC ?_ | refine RU ?_ | refine WC_draw_all (id := 3) 10 (Cs [0,2,3,4,5,7] <| .either 1 (.either 6 (.must 8 <| .must 9 <| .must 10 <| .must 11 <| .must 12 <| .done) 8 (.must 6 <| .must 9 <| .must 10 <| .must 11 <| .must 12 <| .done)) 8 (.must 1 <| .must 6 <| .must 9 <| .must 10 <| .must 11 <| .must 12 <| .done)) mixed (by kernel_rfl) ?_)
      refine WR_op rfl rfl (OW_append_bufM (A := [(eb, .cells m.toArray 43 (0, 0))]) (T := T1) (B := (x3, .cells m.toArray 43 (0, 0)) :: rsO b (.slice a ms.length c) cap base limit :: (T ++ F)) rfl rfl rfl rfl rfl hb1 (srcVec ⟨by rw [hm], _, 1, rfl, Nat.le_refl _, by decide, .inr ⟨eb, 0, _, _, _, 0, rfl, rfl, fun j x hx => by rw [Nat.zero_add]; simpa using hx⟩⟩ hone) (by rw [hm]) (by simp only [maxLen]; omega) (by omega) ?_)
      intro v2 T2 hb2
      have hb2 := BufM.snoc hb2
      obtain ⟨g2, o2, c2, cur2, rfl, rfl⟩ := id hb2.full
      refine ⟨sub_mem (by repeat (first | exact .refl _ | exact List.nil_sublist _ | exact List.sublist_append_right _ _ | apply List.Sublist.cons_cons | apply List.Sublist.cons)), ?_⟩
      repeat (first | refine RQr ?_ | ((first | refine WL_op rfl ?_ | refine WR_late rfl rfl rfl ?_ | refine WR_op rfl rfl ?_); (first | (refine OE ?_; try intro _)); try refine SD ?_) | refine RC ?_ | refine RU ?_ | refine WC_draw_all (id := 3) 10 (Cs [0,2,3,4,5,7] <| .either 1 (.either 6 (.must 8 <| .must 9 <| .must 10 <| .must 11 <| .must 12 <| .done) 8 (.must 6 <| .must 9 <| .must 10 <| .must 11 <| .must 12 <| .done)) 8 (.must 1 <| .must 6 <| .must 9 <| .must 10 <| .must 11 <| .must 12 <| .done)) mixed (by kernel_rfl) ?_)
      refine WC_front 3 rfl ?_
      repeat (first | refine RQ ?_ | refine RC ?_ | refine WG 4 ?_)
      exact ⟨rfl, _, rsO b (.slice (some ⟨g2, o2, none⟩) (ms ++ [m]).length c2) cap base limit :: (g2, .cells cur2 43 (0, 0)) :: F, Res1 rfl (resV_tmp rfl), (by repeat (first | exact .refl _ | exact List.sublist_append_right _ _ | apply List.Sublist.cons_cons | apply List.Sublist.cons)), rfl, _, [(g2, .cells cur2 43 (0, 0))], hb2, rfl⟩
  · repeat (first | refine RQr ?_ | ((first | refine WL_op rfl ?_ | refine WR_late rfl rfl rfl ?_ | refine WR_op rfl rfl ?_); (first | (refine OE ?_; try intro _)); try refine SD ?_) | refine RC ?_ | refine RU ?_ | refine WC_draw_all (id := 3) 10 (Cs [0,2,3,4,5,7] <| .either 1 (.either 6 (.must 8 <| .must 9 <| .must 10 <| .must 11 <| .must 12 <| .done) 8 (.must 6 <| .must 9 <| .must 10 <| .must 11 <| .must 12 <| .done)) 8 (.must 1 <| .must 6 <| .must 9 <| .must 10 <| .must 11 <| .must 12 <| .done)) mixed (by kernel_rfl) ?_)
    rename_i eb z
    refine WR_op rfl rfl (OW_append_bufM (A := []) (T := [(z, .cells #[] 43 (0, 0))]) (B := (eb, .cells m.toArray 43 (0, 0)) :: (x3, .cells m.toArray 43 (0, 0)) :: rsO b (.slice a ms.length c) cap base limit :: (T ++ F)) rfl rfl rfl rfl rfl (buf0 z) (srcVec ((((hv.cons _).cons _).cons _).cons _) hms.ones) hms.flat (by simp only [maxLen]; omega) (by omega) ?_)
    intro v1 T1 hb1
    refine ⟨fun q hq => List.mem_append_right _ (List.mem_append_right _ (List.mem_cons_of_mem _ hq)), ?_⟩
    repeat (first | refine RQr ?_ | ((first | refine WL_op rfl ?_ | refine WR_late rfl rfl rfl ?_ | refine WR_op rfl rfl ?_); (first | (refine OE ?_; try intro _)); try refine SD ?_) | refine RC ?_ | refine RU ?_ | refine WC_draw_all (id := 3) 10 (Cs [0,2,3,4,5,7] <| .either 1 (.either 6 (.must 8 <| .must 9 <| .must 10 <| .must 11 <| .must 12 <| .done) 8 (.must 6 <| .must 9 <| .must 10 <| .must 11 <| .must 12 <| .done)) 8 (.must 1 <| .must 6 <| .must 9 <| .must 10 <| .must 11 <| .must 12 <| .done)) mixed (by kernel_rfl) ?_)
    refine WR_op rfl rfl (OW_append_bufM (A := []) (T := T1) (B := (eb, .cells m.toArray 43 (0, 0)) :: (x3, .cells m.toArray 43 (0, 0)) :: rsO b (.slice a ms.length c) cap base limit :: (T ++ F)) rfl rfl rfl rfl rfl hb1 (srcVec ⟨by rw [hm], _, 1, rfl, Nat.le_refl _, by decide, .inr ⟨eb, 0, m.toArray, 43, (0, 0), T1.length, rfl, by simp, fun j x hx => by rw [Nat.zero_add]; simpa using hx⟩⟩ hone) (by rw [hm]) (by simp only [maxLen]; omega) (by omega) ?_)
    intro v2 T2 hb2
    have hb2 := BufM.snoc hb2
    obtain ⟨g2, o2, c2, cur2, rfl, rfl⟩ := id hb2.full
    refine ⟨sub_mem (by repeat (first | exact .refl _ | exact List.nil_sublist _ | exact List.sublist_append_right _ _ | apply List.Sublist.cons_cons | apply List.Sublist.cons)), ?_⟩
    repeat (first | refine RQr ?_ | ((first | refine WL_op rfl ?_ | refine WR_late rfl rfl rfl ?_ | refine WR_op rfl rfl ?_); (first | (refine OE ?_; try intro _)); try refine SD ?_) | refine RC ?_ | refine RU ?_ | refine WC_draw_all (id := 3) 10 (Cs [0,2,3,4,5,7] <| .either 1 (.either 6 (.must 8 <| .must 9 <| .must 10 <| .must 11 <| .must 12 <| .done) 8 (.must 6 <| .must 9 <| .must 10 <| .must 11 <| .must 12 <| .done)) 8 (.must 1 <| .must 6 <| .must 9 <| .must 10 <| .must 11 <| .must 12 <| .done)) mixed (by kernel_rfl) ?_)
    refine WC_front 3 rfl ?_
    repeat (first | refine RQ ?_ | refine RC ?_ | refine WG 4 ?_)
    exact ⟨rfl, _, rsO b (.slice (some ⟨g2, o2, none⟩) (ms ++ [m]).length c2) cap base limit :: (g2, .cells cur2 43 (0, 0)) :: F, Res1 rfl (resV_tmp rfl), (by repeat (first | exact .refl _ | exact List.sublist_append_right _ _ | apply List.Sublist.cons_cons | apply List.Sublist.cons)), rfl, _, [(g2, .cells cur2 43 (0, 0))], hb2, rfl⟩
end
end Go.Proofs.YtdiaogcogkapgaaGreatDoor
namespace Go.Proofs.YtdiaogcogkapgaaGreatDoor
open Go.RowKit
attribute [local irreducible] Fn WC WL WR OW Qt YieldFn QW FnP FnD
section
variable {b cap base limit : Nat} {v : Value} {T F : List (Nat × Obj)} {ms : List (List Value)}
set_option maxHeartbeats 2000000 in
theorem rsnext_ok {k : Nat} {m : List Value} (hb : BufM v T ms) (hms : Ms24 ms) (hk : ms[k % mayN ms.length base limit]? = some m) (hlen : ms.length ≤ 1000) (h1 : base ≤ 1000000000000) (h2 : limit ≤ 1000000000000) (hk2 : k ≤ 1000000) : Fn Tryz.prog 61 [.pointer (some ⟨b, 0, none⟩), .int .i64 (k : Nat)] (rsO b v cap base limit :: (T ++ F)) (fun r L' => r = .tuple #[.int .u64 ((base + k % mayN ms.length base limit : Nat) : Int), .agg m.toArray, .bool true] ∧ L' = rsO b v cap base limit :: (T ++ F)) := by
  obtain ⟨g, off, c, cur, rfl, rfl, hsz, hx⟩ := hb.at_ hms hk
  have hlt := (List.getElem?_eq_some_iff.1 hk).1
  have hml := (hms m (List.mem_of_getElem? hk)).1
  have hone := (hms m (List.mem_of_getElem? hk)).2
  have hp : 0 < ms.length := Nat.lt_of_le_of_lt (Nat.zero_le _) hlt
  obtain ⟨mp, ml⟩ := mayN_pos (len := ms.length) (base := base) (limit := limit) hp
  refine Fn_enter Tryz.func61 rfl Tryz.ntmps61 rfl fun gw => ?_
  repeat (first | refine RQ ?_ | (refine RE ?_; try intro _) | refine RC ?_ | refine WG 0 ?_ | refine WG 1 ?_ | refine WG 2 ?_)
  rename_i x5
  refine WC_wk [(8, .int .i64 ((0 : Nat) : Int)), (7, .int .i64 ((cntN 0 base limit : Nat) : Int)), (6, .bool false), (5, .pointer (some ⟨x5, 0, none⟩)), (4, .int .u64 0), (0, .pointer (some ⟨b, 0, none⟩)), (1, .int .i64 (k : Nat))] ⟨rfl, rfl, rfl, rfl, rfl, rfl, rfl, trivial⟩ ?_
  refine WC_meetL (fun σ => σ = ⟨[(7, .int .i64 ((mayN ms.length base limit : Nat) : Int)), (6, .bool false), (5, .pointer (some ⟨x5, 0, none⟩)), (4, .int .u64 0), (0, .pointer (some ⟨b, 0, none⟩)), (1, .int .i64 (k : Nat))], [], (x5, .cells zc43 43 (0, 0)) :: rsO b (.slice (some ⟨g, off, none⟩) ms.length c) cap base limit :: ([(g, .cells cur 43 (0, 0))] ++ F)⟩) ?_ ?_
  · refine WC_loop (fun m σ => ∃ i : Nat, m = ms.length - i ∧ i ≤ ms.length ∧ σ = ⟨[(8, .int .i64 i), (7, .int .i64 ((cntN i base limit : Nat) : Int)), (6, .bool false), (5, .pointer (some ⟨x5, 0, none⟩)), (4, .int .u64 0), (0, .pointer (some ⟨b, 0, none⟩)), (1, .int .i64 (k : Nat))], [], (x5, .cells zc43 43 (0, 0)) :: rsO b (.slice (some ⟨g, off, none⟩) ms.length c) cap base limit :: ([(g, .cells cur 43 (0, 0))] ++ F)⟩) ms.length ⟨0, rfl, Nat.zero_le _, rfl⟩ ?_
    rintro m' σ ⟨i, rfl, hi, rfl⟩
    by_cases hgo : i < ms.length
    rotate_left
    · have d2 : decide (((i : Nat) : Int) < ((ms.length : Nat) : Int)) = false := decide_eq_false (by omega)
      repeat (first | refine RQ ?_ | refine RC ?_ | refine WG 3 ?_)
      refine ⟨_, rfl, ⟨?_, rfl, rfl, rfl, rfl, rfl, trivial⟩, rfl, .refl _⟩
      have e : cntN i base limit = mayN ms.length base limit := by rw [show i = ms.length by omega]; unfold cntN; rw [if_neg (by omega)]
      rw [e]; rfl
    have d2 : decide (((i : Nat) : Int) < ((ms.length : Nat) : Int)) = true := decide_eq_true (by omega)
    have w : IntKind.i64.wrap ((i : Int) + 1) = ((i + 1 : Nat) : Int) := by rw [wI64 (by omega) (by omega)]; omega
    have hcl := cntN_le i base limit
    by_cases h0 : i = 0
    · have d3 : (((i : Nat) : Int) == 0) = true := by simpa using h0
      have wc : IntKind.i64.wrap (((cntN i base limit : Nat) : Int) + 1) = ((cntN (i + 1) base limit : Nat) : Int) := by rw [cntN_more (.inl h0), wI64 (by omega) (by omega)]; omega
      repeat (first | refine RQr ?_ | refine RC ?_ | refine RU ?_ | refine WC_draw_all (id := 5) 16 (Cs [0,1,2,3,4,5,6,7,8,9,10,11,12,13,14,15] <| .done) mixed (by kernel_rfl) ?_ | refine WG 3 ?_ | refine WG 6 ?_ | refine WG 4 ?_)
      rw [w, wc]
      exact ⟨_, _, by omega, ⟨i + 1, rfl, by omega, rfl⟩, ⟨rfl, rfl, rfl, rfl, rfl, rfl, rfl, trivial⟩, rfl, .refl _⟩
    · have d3 : (((i : Nat) : Int) == 0) = false := by simpa using h0
      have w1 : IntKind.u64.wrap ((i : Nat) : Int) = ((i : Nat) : Int) := wU64 (by omega) (by omega)
      have w2 : IntKind.u64.wrap (((base : Nat) : Int) + ((i : Nat) : Int)) = ((base + i : Nat) : Int) := by rw [wU64 (by omega) (by omega)]; omega
      by_cases hm : base + i < limit
      · have d4 : decide (IntKind.u64.wrap (((base : Nat) : Int) + IntKind.u64.wrap ((i : Nat) : Int)) < ((limit : Nat) : Int)) = true := by rw [w1, w2]; exact decide_eq_true (by omega)
        have wc : IntKind.i64.wrap (((cntN i base limit : Nat) : Int) + 1) = ((cntN (i + 1) base limit : Nat) : Int) := by rw [cntN_more (.inr hm), wI64 (by omega) (by omega)]; omega
        repeat (first | refine RQr ?_ | refine RC ?_ | refine RU ?_ | refine WC_draw_all (id := 5) 16 (Cs [0,1,2,3,4,5,6,7,8,9,10,11,12,13,14,15] <| .done) mixed (by kernel_rfl) ?_ | refine WG 3 ?_ | refine WG 6 ?_ | refine WG 4 ?_)
        rw [w, wc]
        exact ⟨_, _, by omega, ⟨i + 1, rfl, by omega, rfl⟩, ⟨rfl, rfl, rfl, rfl, rfl, rfl, rfl, trivial⟩, rfl, .refl _⟩
      · have d4 : decide (IntKind.u64.wrap (((base : Nat) : Int) + IntKind.u64.wrap ((i : Nat) : Int)) < ((limit : Nat) : Int)) = false := by rw [w1, w2]; exact decide_eq_false (by omega)
        repeat (first | refine RQr ?_ | refine RC ?_ | refine RU ?_ | refine WC_draw_all (id := 5) 16 (Cs [0,1,2,3,4,5,6,7,8,9,10,11,12,13,14,15] <| .done) mixed (by kernel_rfl) ?_ | refine WG 3 ?_ | refine WG 4 ?_)
        rw [w, ← cntN_same h0 hm]
        exact ⟨_, _, by omega, ⟨i + 1, rfl, by omega, rfl⟩, ⟨rfl, rfl, rfl, rfl, rfl, rfl, rfl, trivial⟩, rfl, .refl _⟩
  rintro _ rfl
  have e0 : (if ((k : Nat) : Int) > 0 then ((k : Nat) : Int) else 0) = ((k : Nat) : Int) := by split <;> omega
  have hne : ((mayN ms.length base limit : Nat) : Int) ≠ 0 := by omega
  have hz : (((mayN ms.length base limit : Nat) : Int) == 0) = false := by simpa using hne
  have e1 : ((k : Nat) : Int).tmod ((mayN ms.length base limit : Nat) : Int) = ((k % mayN ms.length base limit : Nat) : Int) := rfl
  repeat (first | refine RQ ?_ | refine RC ?_ | refine WG 7 ?_ | refine WG 9 ?_)
  rw [e0]
  repeat (first | refine RQ ?_ | refine RC ?_ | refine WG 9 ?_)
  rw [e1]
  generalize k % mayN ms.length base limit = at_ at hsz hx hlt ⊢
  have p0 : (0 : Int) ≤ (at_ : Int) := by omega
  have p1 : (at_ : Int) < ((ms.length : Nat) : Int) := by omega
  have w1 : IntKind.u64.wrap ((at_ : Nat) : Int) = ((at_ : Nat) : Int) := wU64 (by omega) (by omega)
  have w2 : IntKind.u64.wrap (((base : Nat) : Int) + ((at_ : Nat) : Int)) = ((base + at_ : Nat) : Int) := by rw [wU64 (by omega) (by omega)]; omega
  have hx' : cur.extract (off + ((at_ : Nat) : Int).toNat * 24) (off + ((at_ : Nat) : Int).toNat * 24 + 24) = m.toArray := by rw [Int.toNat_natCast]; exact hx
  have hsz' : off + ((at_ : Nat) : Int).toNat * 24 + 24 ≤ cur.size := by rw [Int.toNat_natCast]; exact hsz
  repeat (first | refine RQr ?_ | (refine OX ?_; (first | (refine OE ?_; try intro _)); try refine SD ?_) | refine RC ?_ | refine RU ?_ | refine WC_draw_all (id := 10) 15 (Cs [0,1,2,3,4,5,6,7,8,9,10,11,12,13,14] <| .must 15 <| .must 16 <| .done) mixed (by kernel_rfl) ?_)
  rw [hx', w1, w2]
  have hmz : m.toArray.size = 24 := hml
  have hm1 : (m.toArray.toList.all fun v => v.oneCell') = true := hone
  repeat (first | refine RQr ?_ | (refine OX ?_; (first | (refine OE ?_; try intro _)); try refine SD ?_) | refine RC ?_ | refine RU ?_ | refine WC_draw_all (id := 10) 15 (Cs [0,1,2,3,4,5,6,7,8,9,10,11,12,13,14] <| .must 15 <| .must 16 <| .done) mixed (by kernel_rfl) ?_)
  exact ⟨rfl, _, _, Res3 rfl (resV_tmp rfl) (resV_cellN rfl 0 rfl hmz) (resV_tmp rfl), .cons _ (.refl _), rfl, rfl⟩
set_option maxHeartbeats 1000000 in
theorem rsnext_none {k : Int} (hb : BufM v T []) : Fn Tryz.prog 61 [.pointer (some ⟨b, 0, none⟩), .int .i64 k] (rsO b v cap base limit :: (T ++ F)) (fun r L' => r = .tuple #[.int .u64 0, .agg zc43, .bool false] ∧ L' = rsO b v cap base limit :: (T ++ F)) := by
  obtain ⟨a, c, rfl, _, _⟩ := hb.val
  refine Fn_enter Tryz.func61 rfl Tryz.ntmps61 rfl fun gw => ?_
  have d0 : decide ((0 : Int) < ((([] : List (List Value)).length : Nat) : Int)) = false := rfl
  have d1 : ((0 : Int) == 0) = true := rfl
  repeat (first | refine RQ ?_ | (refine RE ?_; try intro _) | refine RC ?_ | refine WG 0 ?_ | refine WG 1 ?_ | refine WG 2 ?_)
  rename_i x5
  refine WC_wk [(8, .int .i64 0), (7, .int .i64 0), (6, .bool false), (5, .pointer (some ⟨x5, 0, none⟩)), (4, .int .u64 0), (0, .pointer (some ⟨b, 0, none⟩)), (1, .int .i64 k)] ⟨rfl, rfl, rfl, rfl, rfl, rfl, rfl, trivial⟩ ?_
  refine WC_loop (fun m σ => m = 0 ∧ σ = ⟨[(8, .int .i64 0), (7, .int .i64 0), (6, .bool false), (5, .pointer (some ⟨x5, 0, none⟩)), (4, .int .u64 0), (0, .pointer (some ⟨b, 0, none⟩)), (1, .int .i64 k)], [], (x5, .cells zc43 43 (0, 0)) :: rsO b (.slice a ([] : List (List Value)).length c) cap base limit :: (T ++ F)⟩) 0 ⟨rfl, rfl⟩ ?_
  rintro m' σ ⟨rfl, rfl⟩
  repeat (first | refine RQ ?_ | (refine RE ?_; try intro _) | refine RC ?_ | refine WG 3 ?_ | refine WG 7 ?_ | refine WG 8 ?_)
  exact ⟨rfl, _, _, Res3 rfl (resV_tmp rfl) (resV_cellN rfl 0 rfl rfl) (resV_tmp rfl), .cons _ (.refl _), rfl, rfl⟩
theorem rsack_bad {next room : Int} (hb : BufM v T ms) (hlen : ms.length ≤ 1000) (hbb : base ≤ 1000000000000) (h : (base : Int) + ms.length < next ∨ room < 0 ∨ (cap : Int) < room) {M : List (Nat × Obj)} {i : Nat} (hi : M[i]? = some (rsO b v cap base limit)) : Fn Tryz.prog 64 [.pointer (some ⟨b, 0, none⟩), .int .u64 next, .int .i64 room] M (fun r L' => r = .int .i64 2 ∧ L' = M) := by
  obtain ⟨a, c, rfl, _, _⟩ := hb.val
  have w1 : IntKind.u64.wrap ((ms.length : Nat) : Int) = ((ms.length : Nat) : Int) := wU64 (by omega) (by omega)
  have w2 : IntKind.u64.wrap (((base : Nat) : Int) + ((ms.length : Nat) : Int)) = ((base + ms.length : Nat) : Int) := by rw [wU64 (by omega) (by omega)]; omega
  refine Fn_enter Tryz.func64 rfl Tryz.ntmps64 rfl fun gw => ?_
  by_cases hover : (base : Int) + ms.length < next
  · have d2 : decide (next > IntKind.u64.wrap (((base : Nat) : Int) + IntKind.u64.wrap ((ms.length : Nat) : Int))) = true := by rw [w1, w2]; exact decide_eq_true (by omega)
    repeat (first | refine RQr ?_ | ((first | refine WL_op rfl ?_ | refine WL_yes (h := ?_) | refine WR_late rfl rfl rfl ?_ | refine WR_opG rfl rfl ?_ | refine WR_opYG rfl (h := ?_)); (first | (refine OE ?_; try intro _)); try refine SD ?_) | refine RC ?_ | refine RU ?_ | refine WC_draw_all (id := 1) 25 (Cs [0,1,2,3,4,5,6,7,8,9,10,11,12,13,14,15,16,17,18,19,20,21,22,23,24] <| .done) mixed (by kernel_rfl) ?_ | refine WC_region ?_)
    exact ⟨rfl, _, _, Res1 rfl (resV_tmp rfl), .refl _, rfl, rfl⟩
  · have d2 : decide (next > IntKind.u64.wrap (((base : Nat) : Int) + IntKind.u64.wrap ((ms.length : Nat) : Int))) = false := by rw [w1, w2]; exact decide_eq_false (by omega)
    by_cases hr : room < 0
    · have d3 : decide (room < 0) = true := decide_eq_true hr
      repeat (first | refine RQr ?_ | ((first | refine WL_op rfl ?_ | refine WL_yes (h := ?_) | refine WR_late rfl rfl rfl ?_ | refine WR_opG rfl rfl ?_ | refine WR_opYG rfl (h := ?_)); (first | (refine OE ?_; try intro _)); try refine SD ?_) | refine RC ?_ | refine RU ?_ | refine WC_draw_all (id := 1) 25 (Cs [0,1,2,3,4,5,6,7,8,9,10,11,12,13,14,15,16,17,18,19,20,21,22,23,24] <| .done) mixed (by kernel_rfl) ?_ | refine WC_region ?_)
      exact ⟨rfl, _, _, Res1 rfl (resV_tmp rfl), .refl _, rfl, rfl⟩
    · have d3 : decide (room < 0) = false := decide_eq_false hr
      have d4 : decide (room > (cap : Int)) = true := decide_eq_true (by omega)
      repeat (first | refine RQr ?_ | ((first | refine WL_op rfl ?_ | refine WL_yes (h := ?_) | refine WR_late rfl rfl rfl ?_ | refine WR_opG rfl rfl ?_ | refine WR_opYG rfl (h := ?_)); (first | (refine OE ?_; try intro _)); try refine SD ?_) | refine RC ?_ | refine RU ?_ | refine WC_draw_all (id := 1) 25 (Cs [0,1,2,3,4,5,6,7,8,9,10,11,12,13,14,15,16,17,18,19,20,21,22,23,24] <| .done) mixed (by kernel_rfl) ?_ | refine WC_region ?_)
      exact ⟨rfl, _, _, Res1 rfl (resV_tmp rfl), .refl _, rfl, rfl⟩
theorem BufM.tail {a : Option Addr} {c : Nat} {m : List Value} (hb : BufM (.slice a (m :: ms).length c) T (m :: ms)) (hm : m.length = 24) : ∃ g off, a = some ⟨g, off, none⟩ ∧ BufM (.slice (some ⟨g, slOff c 1 off 24, none⟩) ms.length (c - 1)) T ms := by
  rcases hb with ⟨_, h2, _⟩ | ⟨g, off, cap', cur, h3, rfl, ho⟩
  · simp at h2
  · simp only [Value.slice.injEq] at h3
    obtain ⟨rfl, _, rfl⟩ := h3
    have hf := ho.fit
    have hle := ho.le
    have hmx := ho.max
    have hl := ho.len
    rw [List.length_cons] at hle hl
    rw [List.flatten_cons, List.length_append, hm] at hl
    refine ⟨g, off, rfl, .inr ⟨g, _, _, cur, rfl, rfl, ?_⟩⟩
    have hj' : ∀ j x, ms.flatten[j]? = some x → cur[off + 24 + j]? = some x := fun j x hj => by
      have := ho.at_ (24 + j) x (by rw [List.flatten_cons, List.getElem?_append_right (by omega), hm, Nat.add_sub_cancel_left]; exact hj)
      rw [← this]; congr 1; omega
    by_cases hc1 : c = 1
    · have e : slOff c 1 off 24 = off := if_pos hc1
      rw [e]
      have h0 : ms = [] := List.eq_nil_of_length_eq_zero (by omega)
      subst h0
      exact ⟨rfl, by omega, by omega, by omega, fun j x hj => by simp at hj⟩
    · have e : slOff c 1 off 24 = off + 24 := by unfold slOff; rw [if_neg hc1]
      rw [e]
      exact ⟨by omega, by omega, by omega, by omega, hj'⟩
set_option maxHeartbeats 2000000 in
theorem rsack_ok {next room : Nat} (hb : BufM v T ms) (hms : Ms24 ms) (hlen : ms.length ≤ 1000) (hbb : base ≤ 1000000000000) (h : next ≤ base + ms.length) (hr : room ≤ cap) (hc : cap ≤ 16) : Fn Tryz.prog 64 [.pointer (some ⟨b, 0, none⟩), .int .u64 (next : Nat), .int .i64 (room : Nat)] (rsO b v cap base limit :: (T ++ F)) (fun r L' => r = .int .i64 0 ∧ ∃ v', BufM v' T (ms.drop (next - base)) ∧ L' = rsO b v' cap (max base next) (max limit (next + room)) :: (T ++ F)) := by
  obtain ⟨a, c, rfl, _, _⟩ := id hb.val
  have w1 : IntKind.u64.wrap ((ms.length : Nat) : Int) = ((ms.length : Nat) : Int) := wU64 (by omega) (by omega)
  have w2 : IntKind.u64.wrap (((base : Nat) : Int) + ((ms.length : Nat) : Int)) = ((base + ms.length : Nat) : Int) := by rw [wU64 (by omega) (by omega)]; omega
  have d2 : decide (((next : Nat) : Int) > IntKind.u64.wrap (((base : Nat) : Int) + IntKind.u64.wrap ((ms.length : Nat) : Int))) = false := by rw [w1, w2]; exact decide_eq_false (by omega)
  have d3 : decide (((room : Nat) : Int) < 0) = false := decide_eq_false (by omega)
  have d4 : decide (((room : Nat) : Int) > (cap : Int)) = false := decide_eq_false (by omega)
  have w5 : IntKind.u64.wrap ((room : Nat) : Int) = ((room : Nat) : Int) := wU64 (by omega) (by omega)
  have w6 : IntKind.u64.wrap (((next : Nat) : Int) + ((room : Nat) : Int)) = ((next + room : Nat) : Int) := by rw [wU64 (by omega) (by omega)]; omega
  have w7 : (if ((next + room : Nat) : Int) > ((limit : Nat) : Int) then ((next + room : Nat) : Int) else ((limit : Nat) : Int)) = ((max limit (next + room) : Nat) : Int) := by split <;> omega
  refine Fn_enter Tryz.func64 rfl Tryz.ntmps64 rfl fun gw => ?_
  repeat (first | refine RQr ?_ | refine RC ?_ | refine RU ?_ | refine WC_draw_all (id := 1) 25 (Cs [0,1,2,3,4,5,6,7,8,9,10,11,12,13,14,15,16,17,18,19,20,21,22,23,24] <| .done) mixed (by kernel_rfl) ?_ | refine WG 0 ?_)
  refine WC_wk [(6, .int .i64 0), (0, .pointer (some ⟨b, 0, none⟩)), (1, .int .u64 (next : Nat)), (2, .int .i64 (room : Nat))] ⟨rfl, rfl, rfl, rfl, trivial⟩ ?_
  refine WC_meetL (fun σ => ∃ v', BufM v' T (ms.drop (next - base)) ∧ σ = ⟨[(6, .int .i64 0), (0, .pointer (some ⟨b, 0, none⟩)), (1, .int .u64 (next : Nat)), (2, .int .i64 (room : Nat))], [], rsO b v' cap (max base next) limit :: (T ++ F)⟩) ?_ ?_
  · refine WC_loop (fun μ σ => ∃ (j : Nat) (v' : Value), μ = (next - base) - j ∧ j ≤ next - base ∧ BufM v' T (ms.drop j) ∧ σ = ⟨[(6, .int .i64 0), (0, .pointer (some ⟨b, 0, none⟩)), (1, .int .u64 (next : Nat)), (2, .int .i64 (room : Nat))], [], rsO b v' cap (base + j) limit :: (T ++ F)⟩) (next - base) ⟨0, _, rfl, Nat.zero_le _, hb, rfl⟩ ?_
    rintro μ σ ⟨j, v', rfl, hj, hb', rfl⟩
    by_cases hgo : base + j < next
    rotate_left
    · have e1 : decide (((base + j : Nat) : Int) < ((next : Nat) : Int)) = false := decide_eq_false (by omega)
      repeat (first | refine RQ ?_ | refine RC ?_ | refine WG 3 ?_)
      have ej : j = next - base := by omega
      subst ej
      rw [show base + (next - base) = max base next by omega]
      exact ⟨_, ⟨_, hb', rfl⟩, ⟨rfl, rfl, rfl, rfl, trivial⟩, rfl, .refl _⟩
    have e1 : decide (((base + j : Nat) : Int) < ((next : Nat) : Int)) = true := decide_eq_true (by omega)
    have w : IntKind.u64.wrap (((base + j : Nat) : Int) + 1) = ((base + (j + 1) : Nat) : Int) := by rw [wU64 (by omega) (by omega)]; omega
    obtain ⟨m, rest, hmr⟩ : ∃ m rest, ms.drop j = m :: rest := by
      cases hd : ms.drop j with
      | nil => have := congrArg List.length hd; rw [List.length_drop, List.length_nil] at this; omega
      | cons m rest => exact ⟨m, rest, rfl⟩
    have hd1 : ms.drop (j + 1) = rest := by rw [← List.drop_drop, hmr]; rfl
    rw [hmr] at hb'
    obtain ⟨a', c', rfl, hle', _⟩ := id hb'.val
    obtain ⟨g, off, rfl, hb2⟩ := hb'.tail (hms m (List.mem_of_mem_drop (hmr ▸ List.mem_cons_self ..))).1
    have p1 : (1 : Int) ≤ (((m :: rest).length : Nat) : Int) := by rw [List.length_cons]; omega
    repeat (first | refine RQ ?_ | (refine RE ?_; try intro _) | refine RC ?_ | refine WG 3 ?_ | refine WG 4 ?_ | refine WG 5 ?_)
    rw [w]
    exact ⟨_, _, by omega, ⟨j + 1, _, rfl, by omega, by rw [hd1]; exact hb2, rfl⟩, ⟨rfl, rfl, rfl, rfl, trivial⟩, rfl, .refl _⟩
  rintro _ ⟨v', hb', rfl⟩
  obtain ⟨a', c', rfl, _, _⟩ := id hb'.val
  repeat (first | refine RQ ?_ | (refine RE ?_; try intro _) | refine RC ?_ | refine WG 6 ?_)
  rw [w5, w6, w7]
  repeat (first | refine RQ ?_ | (refine RE ?_; try intro _) | refine RC ?_ | refine WG 6 ?_ | refine WG 7 ?_)
  exact ⟨rfl, _, _, Res1 rfl (resV_tmp rfl), .refl _, rfl, _, hb', rfl⟩
end
end Go.Proofs.YtdiaogcogkapgaaGreatDoor
namespace Go.Proofs.YtdiaogcogkapgaaGreatDoor
open Go.RowKit
attribute [local irreducible] Fn WC WL WR OW Qt YieldFn QW
abbrev refQ (cap : Nat) (lv : Value) (nx rf : Int) : Array Value := #[.int .i64 cap, lv, .int .u64 nx, .int .i64 rf]
abbrev rq (q cap : Nat) (lv : Value) (nx rf : Int) (L : List (Nat × Obj)) : List (Nat × Obj) := (q, .cells (refQ cap lv nx rf) 115 (0, 0)) :: L
theorem rnew_fn {cap : Nat} (h1 : 1 ≤ cap) (h2 : cap ≤ 16) (L : List (Nat × Obj)) : Fn Tryz.prog 38 [.int .i64 cap] L (fun v L' => ∃ q, v = .pointer (some ⟨q, 0, none⟩) ∧ L' = rq q cap (.slice none 0 0) 0 0 L) := by
  have g1 : decide ((cap : Int) < 1) = false := decide_eq_false (by omega)
  have g2 : decide ((cap : Int) > 16) = false := decide_eq_false (by omega)
  refine Fn_enter Tryz.func38 rfl Tryz.ntmps38 rfl fun g => ?_
  repeat (first | ((first | refine WL_Q ?_ | refine WL_Y ?_); (first | refine QW_of (Qt_move rfl) ?_ | refine QW_of (Qt_assign rfl) ?_ | refine QW_of (Qt_bin rfl) ?_ | refine QW_of (Qt_pick_true rfl) ?_ | refine QW_of (Qt_pick_false rfl) ?_ | refine QW_of (Qt_build rfl) ?_)) | ((first | refine WL_op rfl ?_ | refine WL_yes (h := ?_)); (first | refine OW_box rfl (hk := fun _ => ?_))) | refine WL_nil ?_ | refine WL_un (h := ?_) | refine WL_N ?_ | refine WL_M ?_ | refine WC_seq ?_ | refine WC_cond_t (ht := ?_) | refine WC_cond_f (he := ?_) | refine WC_skip ?_ | refine WC_ret ?_ | refine WC_region ?_)
  exact ⟨rfl, _, _, Res1 rfl (resV_tmp rfl), .refl _, _, rfl, rfl⟩
set_option maxHeartbeats 4000000 in
theorem rdata_refused {q cap n k : Nat} {a : Option Addr} {nx rf : Int} (seq : Int) (m : Array Value) (e : Int) (he : (seq < nx ∧ e = 18) ∨ (nx < seq ∧ e = 7) ∨ (seq = nx ∧ cap ≤ n ∧ e = 8)) (F : List (Nat × Obj)) :
    Fn Tryz.prog 80 [.pointer (some ⟨q, 0, none⟩), .int .u64 seq, .agg m] (rq q cap (.slice a n k) nx rf F) (fun v L' => v = .int .i64 e ∧ L' = rq q cap (.slice a n k) nx (IntKind.i64.wrap (rf + 1)) F) := by
  by_cases hn : (cap : Int) ≤ n
  · have d1 : decide ((n : Int) ≥ cap) = true := decide_eq_true hn
    rcases he with ⟨h, rfl⟩ | ⟨h, rfl⟩ | ⟨rfl, h, rfl⟩
    · have d2 : decide (seq > nx) = false := decide_eq_false (by omega)
      have d3 : decide (seq < nx) = true := decide_eq_true (by omega)
      refine Fn_enter Tryz.func80 rfl Tryz.ntmps80 rfl fun g => ?_
      repeat (first | (refine RX ?_; (first | refine QW_of (Qt_move rfl) ?_ | refine QW_of (Qt_nilCheck rfl) ?_ | refine QW_of (Qt_nilCheck_fn rfl) ?_ | refine QW_of (Qt_fieldAddr0 rfl) ?_ | refine QW_of (Qt_fieldAddr rfl) ?_ | refine QW_of (Qt_assign rfl) ?_ | refine QW_of (Qt_ld1 rfl) ?_ | refine QW_of (Qt_bin rfl) ?_ | refine QW_of (Qt_lenSl rfl) ?_ | refine QW_of (Qt_lenStr rfl) ?_ | refine QW_of (Qt_ldA rfl) ?_ | refine QW_of (Qt_ldN rfl) ?_)) | ((first | refine WL_op rfl ?_ | refine WR_late rfl rfl rfl ?_); (first | refine OW_st1 rfl ?_ | refine OW_box rfl (hk := fun _ => ?_) | refine OW_build0 rfl (hk := fun _ => ?_) | refine OW_build1 rfl (hk := fun _ => ?_))) | refine WL_nil ?_ | refine WR_nil ?_ | refine WC_seq ?_ | refine WC_cond_t (ht := ?_) | refine WC_cond_f (he := ?_) | refine WC_skip ?_ | refine WC_ret ?_ | refine WC_draw_all (id := 2) 10 (Cs [0,1,2,3,4,5,6,7,8,9] <| .done) mixed (by kernel_rfl) ?_ | refine WC_draw_all (id := 11) 10 (Cs [0,2,3,4,5,7] <| .either 1 (.either 6 (.must 8 <| .must 9 <| .must 10 <| .must 11 <| .must 12 <| .done) 8 (.must 6 <| .must 9 <| .must 10 <| .must 11 <| .must 12 <| .done)) 8 (.must 1 <| .must 6 <| .must 9 <| .must 10 <| .must 11 <| .must 12 <| .done)) mixed (by kernel_rfl) ?_ | refine WC_region ?_ | ((refine WR_op rfl rfl ?_); (first | refine OW_st1 rfl ?_ | refine OW_box rfl (hk := fun _ => ?_) | refine OW_build0 rfl (hk := fun _ => ?_) | refine OW_build1 rfl (hk := fun _ => ?_)); refine ⟨(by first | exact fun _ h => h | exact fun _ h => List.Sublist.subset (by repeat (first | exact .refl _ | exact List.nil_sublist _ | exact List.sublist_append_right _ _ | exact List.Sublist.append (.refl _) (List.sublist_append_right _ _) | apply List.Sublist.cons_cons | apply List.Sublist.cons)) h), ?_⟩))
      exact ⟨rfl, _, _, Res1 rfl (resV_tmp rfl), .cons _ (.refl _), rfl, rfl⟩
    · have d2 : decide (seq > nx) = true := decide_eq_true (by omega)
      have d3 : decide (seq < nx) = false := decide_eq_false (by omega)
      refine Fn_enter Tryz.func80 rfl Tryz.ntmps80 rfl fun g => ?_
      repeat (first | (refine RX ?_; (first | refine QW_of (Qt_move rfl) ?_ | refine QW_of (Qt_nilCheck rfl) ?_ | refine QW_of (Qt_nilCheck_fn rfl) ?_ | refine QW_of (Qt_fieldAddr0 rfl) ?_ | refine QW_of (Qt_fieldAddr rfl) ?_ | refine QW_of (Qt_assign rfl) ?_ | refine QW_of (Qt_ld1 rfl) ?_ | refine QW_of (Qt_bin rfl) ?_ | refine QW_of (Qt_lenSl rfl) ?_ | refine QW_of (Qt_lenStr rfl) ?_ | refine QW_of (Qt_ldA rfl) ?_ | refine QW_of (Qt_ldN rfl) ?_)) | ((first | refine WL_op rfl ?_ | refine WR_late rfl rfl rfl ?_); (first | refine OW_st1 rfl ?_ | refine OW_box rfl (hk := fun _ => ?_) | refine OW_build0 rfl (hk := fun _ => ?_) | refine OW_build1 rfl (hk := fun _ => ?_))) | refine WL_nil ?_ | refine WR_nil ?_ | refine WC_seq ?_ | refine WC_cond_t (ht := ?_) | refine WC_cond_f (he := ?_) | refine WC_skip ?_ | refine WC_ret ?_ | refine WC_draw_all (id := 2) 10 (Cs [0,1,2,3,4,5,6,7,8,9] <| .done) mixed (by kernel_rfl) ?_ | refine WC_draw_all (id := 11) 10 (Cs [0,2,3,4,5,7] <| .either 1 (.either 6 (.must 8 <| .must 9 <| .must 10 <| .must 11 <| .must 12 <| .done) 8 (.must 6 <| .must 9 <| .must 10 <| .must 11 <| .must 12 <| .done)) 8 (.must 1 <| .must 6 <| .must 9 <| .must 10 <| .must 11 <| .must 12 <| .done)) mixed (by kernel_rfl) ?_ | refine WC_region ?_ | ((refine WR_op rfl rfl ?_); (first | refine OW_st1 rfl ?_ | refine OW_box rfl (hk := fun _ => ?_) | refine OW_build0 rfl (hk := fun _ => ?_) | refine OW_build1 rfl (hk := fun _ => ?_)); refine ⟨(by first | exact fun _ h => h | exact fun _ h => List.Sublist.subset (by repeat (first | exact .refl _ | exact List.nil_sublist _ | exact List.sublist_append_right _ _ | exact List.Sublist.append (.refl _) (List.sublist_append_right _ _) | apply List.Sublist.cons_cons | apply List.Sublist.cons)) h), ?_⟩))
      exact ⟨rfl, _, _, Res1 rfl (resV_tmp rfl), .cons _ (.refl _), rfl, rfl⟩
    · have d2 : decide (seq > seq) = false := decide_eq_false (by omega)
      have d3 : decide (seq < seq) = false := decide_eq_false (by omega)
      refine Fn_enter Tryz.func80 rfl Tryz.ntmps80 rfl fun g => ?_
      repeat (first | (refine RX ?_; (first | refine QW_of (Qt_move rfl) ?_ | refine QW_of (Qt_nilCheck rfl) ?_ | refine QW_of (Qt_nilCheck_fn rfl) ?_ | refine QW_of (Qt_fieldAddr0 rfl) ?_ | refine QW_of (Qt_fieldAddr rfl) ?_ | refine QW_of (Qt_assign rfl) ?_ | refine QW_of (Qt_ld1 rfl) ?_ | refine QW_of (Qt_bin rfl) ?_ | refine QW_of (Qt_lenSl rfl) ?_ | refine QW_of (Qt_lenStr rfl) ?_ | refine QW_of (Qt_ldA rfl) ?_ | refine QW_of (Qt_ldN rfl) ?_)) | ((first | refine WL_op rfl ?_ | refine WR_late rfl rfl rfl ?_); (first | refine OW_st1 rfl ?_ | refine OW_box rfl (hk := fun _ => ?_) | refine OW_build0 rfl (hk := fun _ => ?_) | refine OW_build1 rfl (hk := fun _ => ?_))) | refine WL_nil ?_ | refine WR_nil ?_ | refine WC_seq ?_ | refine WC_cond_t (ht := ?_) | refine WC_cond_f (he := ?_) | refine WC_skip ?_ | refine WC_ret ?_ | refine WC_draw_all (id := 2) 10 (Cs [0,1,2,3,4,5,6,7,8,9] <| .done) mixed (by kernel_rfl) ?_ | refine WC_draw_all (id := 11) 10 (Cs [0,2,3,4,5,7] <| .either 1 (.either 6 (.must 8 <| .must 9 <| .must 10 <| .must 11 <| .must 12 <| .done) 8 (.must 6 <| .must 9 <| .must 10 <| .must 11 <| .must 12 <| .done)) 8 (.must 1 <| .must 6 <| .must 9 <| .must 10 <| .must 11 <| .must 12 <| .done)) mixed (by kernel_rfl) ?_ | refine WC_region ?_ | ((refine WR_op rfl rfl ?_); (first | refine OW_st1 rfl ?_ | refine OW_box rfl (hk := fun _ => ?_) | refine OW_build0 rfl (hk := fun _ => ?_) | refine OW_build1 rfl (hk := fun _ => ?_)); refine ⟨(by first | exact fun _ h => h | exact fun _ h => List.Sublist.subset (by repeat (first | exact .refl _ | exact List.nil_sublist _ | exact List.sublist_append_right _ _ | exact List.Sublist.append (.refl _) (List.sublist_append_right _ _) | apply List.Sublist.cons_cons | apply List.Sublist.cons)) h), ?_⟩))
      exact ⟨rfl, _, _, Res1 rfl (resV_tmp rfl), .cons _ (.refl _), rfl, rfl⟩
  · have d1 : decide ((n : Int) ≥ cap) = false := decide_eq_false hn
    rcases he with ⟨h, rfl⟩ | ⟨h, rfl⟩ | ⟨rfl, h, rfl⟩
    · have d2 : decide (seq > nx) = false := decide_eq_false (by omega)
      have d3 : decide (seq < nx) = true := decide_eq_true (by omega)
      refine Fn_enter Tryz.func80 rfl Tryz.ntmps80 rfl fun g => ?_
      repeat (first | (refine RX ?_; (first | refine QW_of (Qt_move rfl) ?_ | refine QW_of (Qt_nilCheck rfl) ?_ | refine QW_of (Qt_nilCheck_fn rfl) ?_ | refine QW_of (Qt_fieldAddr0 rfl) ?_ | refine QW_of (Qt_fieldAddr rfl) ?_ | refine QW_of (Qt_assign rfl) ?_ | refine QW_of (Qt_ld1 rfl) ?_ | refine QW_of (Qt_bin rfl) ?_ | refine QW_of (Qt_lenSl rfl) ?_ | refine QW_of (Qt_lenStr rfl) ?_ | refine QW_of (Qt_ldA rfl) ?_ | refine QW_of (Qt_ldN rfl) ?_)) | ((first | refine WL_op rfl ?_ | refine WR_late rfl rfl rfl ?_); (first | refine OW_st1 rfl ?_ | refine OW_box rfl (hk := fun _ => ?_) | refine OW_build0 rfl (hk := fun _ => ?_) | refine OW_build1 rfl (hk := fun _ => ?_))) | refine WL_nil ?_ | refine WR_nil ?_ | refine WC_seq ?_ | refine WC_cond_t (ht := ?_) | refine WC_cond_f (he := ?_) | refine WC_skip ?_ | refine WC_ret ?_ | refine WC_draw_all (id := 2) 10 (Cs [0,1,2,3,4,5,6,7,8,9] <| .done) mixed (by kernel_rfl) ?_ | refine WC_draw_all (id := 11) 10 (Cs [0,2,3,4,5,7] <| .either 1 (.either 6 (.must 8 <| .must 9 <| .must 10 <| .must 11 <| .must 12 <| .done) 8 (.must 6 <| .must 9 <| .must 10 <| .must 11 <| .must 12 <| .done)) 8 (.must 1 <| .must 6 <| .must 9 <| .must 10 <| .must 11 <| .must 12 <| .done)) mixed (by kernel_rfl) ?_ | refine WC_region ?_ | ((refine WR_op rfl rfl ?_); (first | refine OW_st1 rfl ?_ | refine OW_box rfl (hk := fun _ => ?_) | refine OW_build0 rfl (hk := fun _ => ?_) | refine OW_build1 rfl (hk := fun _ => ?_)); refine ⟨(by first | exact fun _ h => h | exact fun _ h => List.Sublist.subset (by repeat (first | exact .refl _ | exact List.nil_sublist _ | exact List.sublist_append_right _ _ | exact List.Sublist.append (.refl _) (List.sublist_append_right _ _) | apply List.Sublist.cons_cons | apply List.Sublist.cons)) h), ?_⟩))
      exact ⟨rfl, _, _, Res1 rfl (resV_tmp rfl), .cons _ (.refl _), rfl, rfl⟩
    · have d2 : decide (seq > nx) = true := decide_eq_true (by omega)
      have d3 : decide (seq < nx) = false := decide_eq_false (by omega)
      refine Fn_enter Tryz.func80 rfl Tryz.ntmps80 rfl fun g => ?_
      repeat (first | (refine RX ?_; (first | refine QW_of (Qt_move rfl) ?_ | refine QW_of (Qt_nilCheck rfl) ?_ | refine QW_of (Qt_nilCheck_fn rfl) ?_ | refine QW_of (Qt_fieldAddr0 rfl) ?_ | refine QW_of (Qt_fieldAddr rfl) ?_ | refine QW_of (Qt_assign rfl) ?_ | refine QW_of (Qt_ld1 rfl) ?_ | refine QW_of (Qt_bin rfl) ?_ | refine QW_of (Qt_lenSl rfl) ?_ | refine QW_of (Qt_lenStr rfl) ?_ | refine QW_of (Qt_ldA rfl) ?_ | refine QW_of (Qt_ldN rfl) ?_)) | ((first | refine WL_op rfl ?_ | refine WR_late rfl rfl rfl ?_); (first | refine OW_st1 rfl ?_ | refine OW_box rfl (hk := fun _ => ?_) | refine OW_build0 rfl (hk := fun _ => ?_) | refine OW_build1 rfl (hk := fun _ => ?_))) | refine WL_nil ?_ | refine WR_nil ?_ | refine WC_seq ?_ | refine WC_cond_t (ht := ?_) | refine WC_cond_f (he := ?_) | refine WC_skip ?_ | refine WC_ret ?_ | refine WC_draw_all (id := 2) 10 (Cs [0,1,2,3,4,5,6,7,8,9] <| .done) mixed (by kernel_rfl) ?_ | refine WC_draw_all (id := 11) 10 (Cs [0,2,3,4,5,7] <| .either 1 (.either 6 (.must 8 <| .must 9 <| .must 10 <| .must 11 <| .must 12 <| .done) 8 (.must 6 <| .must 9 <| .must 10 <| .must 11 <| .must 12 <| .done)) 8 (.must 1 <| .must 6 <| .must 9 <| .must 10 <| .must 11 <| .must 12 <| .done)) mixed (by kernel_rfl) ?_ | refine WC_region ?_ | ((refine WR_op rfl rfl ?_); (first | refine OW_st1 rfl ?_ | refine OW_box rfl (hk := fun _ => ?_) | refine OW_build0 rfl (hk := fun _ => ?_) | refine OW_build1 rfl (hk := fun _ => ?_)); refine ⟨(by first | exact fun _ h => h | exact fun _ h => List.Sublist.subset (by repeat (first | exact .refl _ | exact List.nil_sublist _ | exact List.sublist_append_right _ _ | exact List.Sublist.append (.refl _) (List.sublist_append_right _ _) | apply List.Sublist.cons_cons | apply List.Sublist.cons)) h), ?_⟩))
      exact ⟨rfl, _, _, Res1 rfl (resV_tmp rfl), .cons _ (.refl _), rfl, rfl⟩
    · omega
def flat : List (Array Value) → Array Value
  | [] => #[]
  | m :: r => m ++ flat r
theorem flat_append (a b : List (Array Value)) : flat (a ++ b) = flat a ++ flat b := by
  induction a with
  | nil => simp [flat]
  | cons m r ih => simp [flat, ih, Array.append_assoc]
theorem flat21_one {ms : List (Array Value)} (h : ∀ m ∈ ms, m.size = 24 ∧ (m.toList.all fun v => v.oneCell') = true) : ((flat ms).toList.all fun v => v.oneCell') = true := by
  induction ms with
  | nil => rfl
  | cons m r ih => simp only [flat, Array.toList_append, List.all_append, (h m (by simp)).2, ih (fun x hx => h x (by simp [hx])), Bool.and_self]
def RefC (lv : Value) (T : List (Nat × Obj)) (ms : List (Array Value)) : Prop :=
  (ms = [] ∧ lv = .slice none 0 0 ∧ T = []) ∨ ∃ (g off k : Nat) (cur : Array Value), lv = .slice (some ⟨g, off, none⟩) ms.length k ∧ T = [(g, .cells cur 43 (0, 0))] ∧ SlAt T 0 g off ms.length k 43 24 cur ∧ cur.extract off (off + ms.length * 24) = flat ms
end Go.Proofs.YtdiaogcogkapgaaGreatDoor
