/-
  The program's receiver (layer 21), the rest: its making, popping, its iterator, its head.
-/
import Derived.Test.YtcnbecdpfildnaaRecv
namespace Go.Proofs.Ytcnbecdpfildnaa
open Go.RowKit
attribute [local irreducible] Fn WC WL WR OW Qt YieldFn QW

/-- The iterator over a receiver's messages: c is the block of the captured variable. -/
theorem all1_fn {b c : Nat} {cs : Array Value} {cap first : Nat} {ms : List (Array Value)} {next refused : Int} (hc : RecvC cs cap first ms next refused) (l : Nat) (J : List (Array Value) → List (Nat × Obj) → Prop) (Jx : List (Nat × Obj) → Prop)
    (hJ : ∀ pre L, J pre L → ∃ i j : Nat, L[i]? = some (c, Obj.cells #[.pointer (some ⟨b, 0, none⟩)] 23 (0, 0)) ∧ L[j]? = some (b, Obj.cells cs 95 (0, 0)))
    (hY : ∀ pre y L, (pre ++ [y]) <+: ms → J pre L → YieldFn Try.prog l [.agg y] L (fun v L2 => (v = .bool true ∧ J (pre ++ [y]) L2) ∨ (v = .bool false ∧ Jx L2)))
    {L0 : List (Nat × Obj)} (h0 : J [] L0) : Fn Try.prog 54 [.func (.yield l) #[] #[], .pointer (some ⟨c, 0, none⟩)] L0 (fun _ L2 => J ms L2 ∨ Jx L2) := by
  obtain ⟨i0, j0, hi0, hj0⟩ := hJ [] L0 h0
  have hn := hc.n_
  refine Fn_enter Try.func54 rfl Try.ntmps54 rfl fun g => ?_
  repeat (first | ((first | refine WL_Q ?_); (first | refine QW_of (Qt_move rfl) ?_ | refine QW_of (Qt_ld1 rfl) ?_ | refine QW_of (Qt_nilCheck rfl) ?_ | refine QW_of (Qt_nilCheck_fn rfl) ?_ | refine QW_of (Qt_bin rfl) ?_ | refine QW_of (Qt_eql_nilS rfl) ?_ | refine QW_of (Qt_eql_nilN rfl) ?_ | refine QW_of (Qt_fieldAddr0 rfl) ?_ | refine QW_of (Qt_fieldAddr rfl) ?_ | refine QW_of (Qt_assign rfl) ?_ | refine QW_of (Qt_ldA rfl) ?_ | refine QW_of (Qt_ldN rfl) ?_ | refine QW_of (Qt_not rfl) ?_)) | refine WL_nil ?_ | refine WC_seq ?_ | refine WC_block ?_ | refine WC_cond_t (ht := ?_) | refine WC_cond_f (he := ?_) | refine WC_skip ?_ | refine WC_ret ?_ | refine WC_exit ?_ | refine WC_region ?_)
  refine WC_weaken [(10, .int .i64 0), (9, .int .i64 ms.length), (0, .func (.yield l) #[] #[]), (1, .pointer (some ⟨c, 0, none⟩))] ⟨rfl, rfl, rfl, rfl, trivial⟩ ?_
  refine WC_loop (fun m σ => ∃ pre L, m = ms.length - pre.length ∧ pre <+: ms ∧ J pre L ∧ σ = ⟨[(10, .int .i64 pre.length), (9, .int .i64 ms.length), (0, .func (.yield l) #[] #[]), (1, .pointer (some ⟨c, 0, none⟩))], [], L⟩) ms.length ?_ ?_
  · exact ⟨[], L0, by simp, List.nil_prefix, h0, rfl⟩
  · rintro m σ ⟨pre, L, rfl, hpre, hJp, rfl⟩
    obtain ⟨i1, j1, hi1, hj1⟩ := hJ pre L hJp
    by_cases hlt : pre.length < ms.length
    · have h1 : decide ((pre.length : Int) < ms.length) = true := by simpa using hlt
      have hm : ∃ y, ms[pre.length]? = some y := ⟨_, List.getElem?_eq_getElem hlt⟩
      obtain ⟨y, hy⟩ := hm
      have hpre2 : (pre ++ [y]) <+: ms := by
        obtain ⟨r, rfl⟩ := hpre
        rw [List.getElem?_append_right (Nat.le_refl _), Nat.sub_self] at hy
        cases r with
        | nil => cases hy
        | cons z r => simp at hy; subst hy; exact ⟨r, by simp⟩
      have hmsg := hc.msg pre.length y hy
      have hs := hc.size
      have hfit : (first + pre.length) % 16 * 24 + 24 ≤ cs.size := by omega
      have hl := hc.len
      have hcc := hc.cap16
      repeat (first | ((first | refine WL_Q ?_); (first | refine QW_of (Qt_move rfl) ?_ | refine QW_of (Qt_ld1 rfl) ?_ | refine QW_of (Qt_nilCheck rfl) ?_ | refine QW_of (Qt_nilCheck_fn rfl) ?_ | refine QW_of (Qt_bin rfl) ?_ | refine QW_of (Qt_eql_nilS rfl) ?_ | refine QW_of (Qt_eql_nilN rfl) ?_ | refine QW_of (Qt_fieldAddr0 rfl) ?_ | refine QW_of (Qt_fieldAddr rfl) ?_ | refine QW_of (Qt_assign rfl) ?_ | refine QW_of (Qt_ldA rfl) ?_ | refine QW_of (Qt_ldN rfl) ?_ | refine QW_of (Qt_not rfl) ?_)) | refine WL_nil ?_ | refine WC_seq ?_ | refine WC_block ?_ | refine WC_cond_t (ht := ?_) | refine WC_cond_f (he := ?_) | refine WC_skip ?_ | refine WC_ret ?_ | refine WC_exit ?_ | refine WC_region ?_)
      refine WL_op rfl (OW_call rfl rfl rfl rfl (Fn.at_same (fun F => place_fn (L := F) pre.length (by omega) hc) j1 hj1) ?_)
      rintro _ _ ⟨rfl, rfl⟩
      repeat (first | ((first | refine WL_Q ?_); (first | refine QW_of (Qt_move rfl) ?_ | refine QW_of (Qt_ld1 rfl) ?_ | refine QW_of (Qt_nilCheck rfl) ?_ | refine QW_of (Qt_nilCheck_fn rfl) ?_ | refine QW_of (Qt_bin rfl) ?_ | refine QW_of (Qt_eql_nilS rfl) ?_ | refine QW_of (Qt_eql_nilN rfl) ?_ | refine QW_of (Qt_fieldAddr0 rfl) ?_ | refine QW_of (Qt_fieldAddr rfl) ?_ | refine QW_of (Qt_assign rfl) ?_ | refine QW_of (Qt_ldA rfl) ?_ | refine QW_of (Qt_ldN rfl) ?_ | refine QW_of (Qt_not rfl) ?_)) | refine WL_nil ?_ | refine WC_seq ?_ | refine WC_block ?_ | refine WC_cond_t (ht := ?_) | refine WC_cond_f (he := ?_) | refine WC_skip ?_ | refine WC_ret ?_ | refine WC_exit ?_ | refine WC_region ?_)
      have hYf := hY pre y L hpre2 hJp
      subst hmsg
      refine WL_op rfl (OW_yield rfl rfl rfl rfl rfl hYf ?_)
      rintro v L2 (⟨rfl, hJ2⟩ | ⟨rfl, hJx⟩)
      · repeat (first | ((first | refine WL_Q ?_); (first | refine QW_of (Qt_move rfl) ?_ | refine QW_of (Qt_ld1 rfl) ?_ | refine QW_of (Qt_nilCheck rfl) ?_ | refine QW_of (Qt_nilCheck_fn rfl) ?_ | refine QW_of (Qt_bin rfl) ?_ | refine QW_of (Qt_eql_nilS rfl) ?_ | refine QW_of (Qt_eql_nilN rfl) ?_ | refine QW_of (Qt_fieldAddr0 rfl) ?_ | refine QW_of (Qt_fieldAddr rfl) ?_ | refine QW_of (Qt_assign rfl) ?_ | refine QW_of (Qt_ldA rfl) ?_ | refine QW_of (Qt_ldN rfl) ?_ | refine QW_of (Qt_not rfl) ?_)) | refine WL_nil ?_ | refine WC_seq ?_ | refine WC_block ?_ | refine WC_cond_t (ht := ?_) | refine WC_cond_f (he := ?_) | refine WC_skip ?_ | refine WC_ret ?_ | refine WC_exit ?_ | refine WC_region ?_)
        repeat (first | ((first | refine WL_Q ?_); (first | refine QW_of (Qt_move rfl) ?_ | refine QW_of (Qt_ld1 rfl) ?_ | refine QW_of (Qt_nilCheck rfl) ?_ | refine QW_of (Qt_nilCheck_fn rfl) ?_ | refine QW_of (Qt_bin rfl) ?_ | refine QW_of (Qt_eql_nilS rfl) ?_ | refine QW_of (Qt_eql_nilN rfl) ?_ | refine QW_of (Qt_fieldAddr0 rfl) ?_ | refine QW_of (Qt_fieldAddr rfl) ?_ | refine QW_of (Qt_assign rfl) ?_ | refine QW_of (Qt_ldA rfl) ?_ | refine QW_of (Qt_ldN rfl) ?_ | refine QW_of (Qt_not rfl) ?_)) | refine WL_nil ?_ | refine WC_seq ?_ | refine WC_block ?_ | refine WC_cond_t (ht := ?_) | refine WC_cond_f (he := ?_) | refine WC_skip ?_ | refine WC_ret ?_ | refine WC_exit ?_ | refine WC_region ?_)
        refine ⟨_, _, ?_, ⟨pre ++ [_], L2, rfl, hpre2, hJ2, rfl⟩, ⟨?_, rfl, rfl, rfl, trivial⟩, rfl, .refl _⟩
        · simp; omega
        · show some (Value.int .i64 (IntKind.i64.wrap ((pre.length : Int) + 1))) = _
          rw [wrap_i64 (by omega) (by omega)]
          simp
      · repeat (first | ((first | refine WL_Q ?_); (first | refine QW_of (Qt_move rfl) ?_ | refine QW_of (Qt_ld1 rfl) ?_ | refine QW_of (Qt_nilCheck rfl) ?_ | refine QW_of (Qt_nilCheck_fn rfl) ?_ | refine QW_of (Qt_bin rfl) ?_ | refine QW_of (Qt_eql_nilS rfl) ?_ | refine QW_of (Qt_eql_nilN rfl) ?_ | refine QW_of (Qt_fieldAddr0 rfl) ?_ | refine QW_of (Qt_fieldAddr rfl) ?_ | refine QW_of (Qt_assign rfl) ?_ | refine QW_of (Qt_ldA rfl) ?_ | refine QW_of (Qt_ldN rfl) ?_ | refine QW_of (Qt_not rfl) ?_)) | refine WL_nil ?_ | refine WC_seq ?_ | refine WC_block ?_ | refine WC_cond_t (ht := ?_) | refine WC_cond_f (he := ?_) | refine WC_skip ?_ | refine WC_ret ?_ | refine WC_exit ?_ | refine WC_region ?_)
        repeat (first | ((first | refine WL_Q ?_); (first | refine QW_of (Qt_move rfl) ?_ | refine QW_of (Qt_ld1 rfl) ?_ | refine QW_of (Qt_nilCheck rfl) ?_ | refine QW_of (Qt_nilCheck_fn rfl) ?_ | refine QW_of (Qt_bin rfl) ?_ | refine QW_of (Qt_eql_nilS rfl) ?_ | refine QW_of (Qt_eql_nilN rfl) ?_ | refine QW_of (Qt_fieldAddr0 rfl) ?_ | refine QW_of (Qt_fieldAddr rfl) ?_ | refine QW_of (Qt_assign rfl) ?_ | refine QW_of (Qt_ldA rfl) ?_ | refine QW_of (Qt_ldN rfl) ?_ | refine QW_of (Qt_not rfl) ?_)) | refine WL_nil ?_ | refine WC_seq ?_ | refine WC_block ?_ | refine WC_cond_t (ht := ?_) | refine WC_cond_f (he := ?_) | refine WC_skip ?_ | refine WC_ret ?_ | refine WC_exit ?_ | refine WC_region ?_)
        exact ⟨rfl, _, _, Res0 rfl, .refl _, .inr hJx⟩
    · have h1 : decide ((pre.length : Int) < ms.length) = false := by simpa using hlt
      have he : pre = ms := hpre.eq_of_length (by have := hpre.length_le; omega)
      subst he
      repeat (first | ((first | refine WL_Q ?_); (first | refine QW_of (Qt_move rfl) ?_ | refine QW_of (Qt_ld1 rfl) ?_ | refine QW_of (Qt_nilCheck rfl) ?_ | refine QW_of (Qt_nilCheck_fn rfl) ?_ | refine QW_of (Qt_bin rfl) ?_ | refine QW_of (Qt_eql_nilS rfl) ?_ | refine QW_of (Qt_eql_nilN rfl) ?_ | refine QW_of (Qt_fieldAddr0 rfl) ?_ | refine QW_of (Qt_fieldAddr rfl) ?_ | refine QW_of (Qt_assign rfl) ?_ | refine QW_of (Qt_ldA rfl) ?_ | refine QW_of (Qt_ldN rfl) ?_ | refine QW_of (Qt_not rfl) ?_)) | refine WL_nil ?_ | refine WC_seq ?_ | refine WC_block ?_ | refine WC_cond_t (ht := ?_) | refine WC_cond_f (he := ?_) | refine WC_skip ?_ | refine WC_ret ?_ | refine WC_exit ?_ | refine WC_region ?_)
      exact ⟨rfl, _, _, Res0 rfl, .refl _, .inl hJp⟩

theorem all_fn (b : Nat) (L : List (Nat × Obj)) : Fn Try.prog 47 [.pointer (some ⟨b, 0, none⟩)] L (fun v L' => ∃ c, v = .func (.func 54) #[] #[.pointer (some ⟨c, 0, none⟩)] ∧ L' = (c, .cells #[.pointer (some ⟨b, 0, none⟩)] 23 (0, 0)) :: L) := by
  refine Fn_enter Try.func47 rfl Try.ntmps47 rfl fun g => ?_
  repeat (first | ((first | refine WL_Q ?_); (first | refine QW_of (Qt_assign rfl) ?_ | refine QW_of (Qt_makeFunc rfl) ?_)) | ((first | refine WL_op rfl ?_); (first | refine OW_box rfl (hk := fun _ => ?_))) | refine WL_nil ?_ | refine WC_seq ?_ | refine WC_block ?_ | refine WC_cond_t (ht := ?_) | refine WC_cond_f (he := ?_) | refine WC_skip ?_ | refine WC_ret ?_ | refine WC_exit ?_ | refine WC_region ?_)
  exact ⟨rfl, _, _, Res1 rfl (resV_tmp rfl), .refl _, _, rfl, rfl⟩

/-- What Head answers. -/
def headV (ms : List (Array Value)) : Value := .tuple #[.agg (ms.headD zc48), .bool !ms.isEmpty]

set_option maxHeartbeats 1000000 in
theorem head_fn {b : Nat} {cs : Array Value} {cap first : Nat} {ms : List (Array Value)} {next refused : Int} (hc : RecvC cs cap first ms next refused) (hall : ∀ m ∈ ms, m.size = 24 ∧ (m.toList.all fun v => v.oneCell') = true) (F : List (Nat × Obj)) :
    Fn Try.prog 17 [.pointer (some ⟨b, 0, none⟩)] (rc b cs F) (fun v L' => v = headV ms ∧ L' = rc b cs F) := by
  refine Fn_enterM Try.func17 rfl Try.ntmps17 rfl fun g => ?_
  repeat (first | ((first | refine WL_Q ?_); (first | refine QW_of (Qt_move rfl) ?_ | refine QW_of (Qt_ldA rfl) ?_ | refine QW_of (Qt_ldN rfl) ?_ | refine QW_of (Qt_build rfl) ?_)) | ((first | refine WL_op rfl ?_); (first | refine OW_alloc rfl (hk := fun _ => ?_) | refine OW_stA rfl ?_ | refine OW_stN rfl ?_ | refine OW_st1 rfl ?_)) | refine WL_nil ?_ | refine WC_seq ?_ | refine WC_block ?_ | refine WC_cond_t (ht := ?_) | refine WC_cond_f (he := ?_) | refine WC_skip ?_ | refine WC_ret ?_ | refine WC_exit ?_ | refine WC_region ?_)
  refine WL_op rfl (OW_call rfl rfl rfl rfl (all_fn b _) ?_)
  rintro _ _ ⟨c, rfl, rfl⟩
  repeat (first | ((first | refine WL_Q ?_); (first | refine QW_of (Qt_move rfl) ?_ | refine QW_of (Qt_ldA rfl) ?_ | refine QW_of (Qt_ldN rfl) ?_ | refine QW_of (Qt_build rfl) ?_)) | ((first | refine WL_op rfl ?_); (first | refine OW_alloc rfl (hk := fun _ => ?_) | refine OW_stA rfl ?_ | refine OW_stN rfl ?_ | refine OW_st1 rfl ?_)) | refine WL_nil ?_ | refine WC_seq ?_ | refine WC_block ?_ | refine WC_cond_t (ht := ?_) | refine WC_cond_f (he := ?_) | refine WC_skip ?_ | refine WC_ret ?_ | refine WC_exit ?_ | refine WC_region ?_)
  repeat (first | ((first | refine WL_Q ?_); (first | refine QW_of (Qt_move rfl) ?_ | refine QW_of (Qt_ldA rfl) ?_ | refine QW_of (Qt_ldN rfl) ?_ | refine QW_of (Qt_build rfl) ?_)) | ((first | refine WL_op rfl ?_); (first | refine OW_alloc rfl (hk := fun _ => ?_) | refine OW_stA rfl ?_ | refine OW_stN rfl ?_ | refine OW_st1 rfl ?_)) | refine WL_nil ?_ | refine WC_seq ?_ | refine WC_block ?_ | refine WC_cond_t (ht := ?_) | refine WC_cond_f (he := ?_) | refine WC_skip ?_ | refine WC_ret ?_ | refine WC_exit ?_ | refine WC_region ?_)
  rename_i d0 d1 

  refine WC_range rfl (fun m : Array Value => [.agg m]) (fun _ => rfl) rfl (fun pre y => (pre ++ [y]) <+: ms) (fun xs => xs = ms)
    (fun pre L' => pre = [] ∧ L' = (c, .cells #[.pointer (some ⟨b, 0, none⟩)] 23 (0, 0)) :: (d1, .cells #[.bool false] 4 (0,0)) :: (d0, .cells zc48 48 (0,0)) :: rc b cs F)
    (fun cj L' => cj = .ret ∧ ∃ m r, ms = m :: r ∧ L' = (c, .cells #[.pointer (some ⟨b, 0, none⟩)] 23 (0, 0)) :: (d1, .cells #[.bool true] 4 (0,0)) :: (d0, .cells m 48 (0,0)) :: rc b cs F)
    ?_ ?_ ?_ ?_
  · intro l d o1 o2 Jx hr
    refine (all1_fn (b := b) hc l (fun pre L1 => ∃ L', L1 = (l, o1) :: (d, o2) :: L' ∧ pre = [] ∧ L' = (c, .cells #[.pointer (some ⟨b, 0, none⟩)] 23 (0, 0)) :: (d1, .cells #[.bool false] 4 (0,0)) :: (d0, .cells zc48 48 (0,0)) :: rc b cs F) Jx ?_ ?_ ?_).mono ?_
    · rintro pre L ⟨L', rfl, -, rfl⟩
      exact ⟨2, 5, rfl, rfl⟩
    · exact hr
    · exact ⟨_, rfl, rfl, rfl⟩
    · rintro v L2 (⟨L', h1, h2, h3⟩ | h)
      · exact .inl ⟨ms, L', rfl, h1, h2, h3⟩
      · exact .inr h
  · rintro g' n' l d pre y L' hdom ⟨rfl, rfl⟩ ol od hol
    have hym : y ∈ ms := by obtain ⟨r, rfl⟩ := hdom; simp
    obtain ⟨hys, hy1⟩ := hall y hym
    repeat (first | ((first | refine WL_Q ?_); (first | refine QW_of (Qt_move rfl) ?_ | refine QW_of (Qt_ldA rfl) ?_ | refine QW_of (Qt_ldN rfl) ?_ | refine QW_of (Qt_build rfl) ?_)) | ((first | refine WL_op rfl ?_); (first | refine OW_alloc rfl (hk := fun _ => ?_) | refine OW_stA rfl ?_ | refine OW_stN rfl ?_ | refine OW_st1 rfl ?_)) | refine WL_nil ?_ | refine WC_seq ?_ | refine WC_block ?_ | refine WC_cond_t (ht := ?_) | refine WC_cond_f (he := ?_) | refine WC_skip ?_ | refine WC_ret ?_ | refine WC_exit ?_ | refine WC_region ?_)
    refine ⟨rfl, _, [_], _, rfl, fun ol' hol' => ?_⟩
    repeat (first | ((first | refine WL_Q ?_); (first | refine QW_of (Qt_move rfl) ?_ | refine QW_of (Qt_ldA rfl) ?_ | refine QW_of (Qt_ldN rfl) ?_ | refine QW_of (Qt_build rfl) ?_)) | ((first | refine WL_op rfl ?_); (first | refine OW_alloc rfl (hk := fun _ => ?_) | refine OW_stA rfl ?_ | refine OW_stN rfl ?_ | refine OW_st1 rfl ?_)) | refine WL_nil ?_ | refine WC_seq ?_ | refine WC_block ?_ | refine WC_cond_t (ht := ?_) | refine WC_cond_f (he := ?_) | refine WC_skip ?_ | refine WC_ret ?_ | refine WC_exit ?_ | refine WC_region ?_)
    obtain ⟨r, rfl⟩ := hdom
    exact ⟨_, .cons _ (.refl _), rfl, y, r, by simp, rfl⟩
  · rintro d xs L' rfl ⟨rfl, rfl⟩
    repeat (first | ((first | refine WL_Q ?_); (first | refine QW_of (Qt_move rfl) ?_ | refine QW_of (Qt_ldA rfl) ?_ | refine QW_of (Qt_ldN rfl) ?_ | refine QW_of (Qt_build rfl) ?_)) | ((first | refine WL_op rfl ?_); (first | refine OW_alloc rfl (hk := fun _ => ?_) | refine OW_stA rfl ?_ | refine OW_stN rfl ?_ | refine OW_st1 rfl ?_)) | refine WL_nil ?_ | refine WC_seq ?_ | refine WC_block ?_ | refine WC_cond_t (ht := ?_) | refine WC_cond_f (he := ?_) | refine WC_skip ?_ | refine WC_ret ?_ | refine WC_exit ?_ | refine WC_region ?_)
    exact ⟨_, ⟨d, 0, _, rfl, rfl, rfl, rfl⟩, _, _, Res2 rfl (resV_cellN rfl 3 rfl rfl) (resV_cell1 rfl 2 rfl), .cons _ (.cons _ (.cons _ (.cons _ (.refl _)))), rfl, rfl⟩
  · rintro d cj L' ⟨rfl, m, r, rfl, rfl⟩
    refine WC_ret ?_
    have hm := (hall m (by simp)).1
    exact ⟨_, ⟨d, 0, _, rfl, rfl, rfl, rfl⟩, _, _, Res2 rfl (resV_cellN rfl 3 rfl hm) (resV_cell1 rfl 2 rfl), .cons _ (.cons _ (.cons _ (.cons _ (.refl _)))), rfl, rfl⟩

theorem RecvC.popped {cs : Array Value} {cap first : Nat} {m : Array Value} {ms : List (Array Value)} {next refused : Int} (hc : RecvC cs cap first (m :: ms) next refused) (z : Array Value) (hz : z.size = 24) :
    RecvC (((putR cs (first % 16 * 24) z).setIfInBounds 385 (.int .i64 ((first + 1) % 16 : Nat))).setIfInBounds 386 (.int .i64 ms.length)) cap ((first + 1) % 16) ms next refused := by
  have hs := hc.size
  have hf := hc.f16
  have hoff : first % 16 * 24 + z.size ≤ 384 := by omega
  have hp := putR_size cs z (first % 16 * 24) (by omega)
  have ho : ∀ j, 384 ≤ j → (putR cs (first % 16 * 24) z)[j]? = cs[j]? := fun j hj => putR_get_out cs z _ j (by omega) (by omega)
  have hl := hc.len
  have hcc := hc.cap16
  simp only [List.length_cons] at hl
  refine ⟨by simpa using hp.trans hs, ?_, ?_, ?_, ?_, ?_, hc.cap1, hc.cap16, by omega, by omega, hc.nx0, hc.nx1, ?_⟩
  · rw [Array.getElem?_setIfInBounds_ne (by decide), Array.getElem?_setIfInBounds_ne (by decide), ho _ (by decide)]; exact hc.cap_
  · rw [Array.getElem?_setIfInBounds_ne (by decide)]; simp [hp, hs]
  · simp [hp, hs]
  · rw [Array.getElem?_setIfInBounds_ne (by decide), Array.getElem?_setIfInBounds_ne (by decide), ho _ (by decide)]; exact hc.next_
  · rw [Array.getElem?_setIfInBounds_ne (by decide), Array.getElem?_setIfInBounds_ne (by decide), ho _ (by decide)]; exact hc.ref_
  · intro k u hk
    have hk1 : k < ms.length := (List.getElem?_eq_some_iff.1 hk).1
    rw [← hc.msg (k + 1) u (by simpa using hk)]
    have e1 : ((first + 1) % 16 + k) % 16 = (first + (k + 1)) % 16 := by omega
    have hne : (first + (k + 1)) % 16 ≠ first % 16 := by omega
    have hlt : (first + (k + 1)) % 16 < 16 := Nat.mod_lt _ (by decide)
    rw [e1]
    exact extract_congr fun j h1 h2 => by
      rw [Array.getElem?_setIfInBounds_ne (by omega), Array.getElem?_setIfInBounds_ne (by omega)]
      exact putR_get_out cs z _ j (by omega) (by omega)

set_option maxHeartbeats 2000000 in
theorem pop_ok {b : Nat} {cs : Array Value} {cap first : Nat} {m : Array Value} {ms : List (Array Value)} {next refused : Int} {L : List (Nat × Obj)} (hc : RecvC cs cap first (m :: ms) next refused) :
    Fn Try.prog 15 [.pointer (some ⟨b, 0, none⟩)] (rc b cs L) (fun v L' => v = .int .i64 0 ∧ ∃ cs' first', L' = rc b cs' L ∧ RecvC cs' cap first' ms next refused) := by
  have hn := hc.n_
  have hfi := hc.first_
  have hs := hc.size
  have hf := hc.f16
  have hl := hc.len
  have hcc := hc.cap16
  have h2 : ((((m :: ms).length : Nat) : Int) == 0) = false := by simp; omega
  have hoff : first % 16 * 24 + 24 ≤ cs.size := by omega
  have hps := putR_size cs zc48 (first % 16 * 24) (by have : (zc48).size = 24 := rfl; omega)
  have hzs : (zc48).size = 24 := rfl
  have hf2 : (putR cs (first % 16 * 24) zc48)[385]? = some (.int .i64 first) := by rw [putR_get_out cs _ _ _ (by omega) (by omega)]; exact hfi
  have hn2 : ((putR cs (first % 16 * 24) zc48).setIfInBounds 385 (.int .i64 ((IntKind.i64.wrap ((first : Int) + 1)).tmod 16)))[386]? = some (.int .i64 (m :: ms).length) := by
    rw [Array.getElem?_setIfInBounds_ne (by decide), putR_get_out cs _ _ _ (by omega) (by omega)]; exact hn
  refine Fn_enter Try.func15 rfl Try.ntmps15 rfl fun g => ?_
  repeat (first | ((first | refine WL_Q ?_); (first | refine QW_of (Qt_assign rfl) ?_ | refine QW_of (Qt_move rfl) ?_ | refine QW_of (Qt_nilCheck rfl) ?_ | refine QW_of (Qt_nilCheck_fn rfl) ?_ | refine QW_of (Qt_fieldAddr0 rfl) ?_ | refine QW_of (Qt_fieldAddr rfl) ?_ | refine QW_of (Qt_ld1 rfl) ?_ | refine QW_of (Qt_bin rfl) ?_ | refine QW_of (Qt_eql_nilS rfl) ?_ | refine QW_of (Qt_eql_nilN rfl) ?_ | refine QW_of (Qt_build rfl) ?_ | refine QW_of (Qt_rem rfl) ?_)) | ((first | refine WL_op rfl ?_); (first | refine OW_st1 rfl ?_ | refine OW_stA rfl ?_ | refine OW_stN rfl ?_)) | refine WL_nil ?_ | refine WC_seq ?_ | refine WC_block ?_ | refine WC_cond_t (ht := ?_) | refine WC_cond_f (he := ?_) | refine WC_skip ?_ | refine WC_ret ?_ | refine WC_exit ?_ | refine WC_region ?_)
  refine WL_op rfl (OW_call rfl rfl rfl rfl (show Fn _ _ _ _ (fun v L' => v = .pointer (some ⟨b, first % 16 * 24, none⟩) ∧ L' = rc b cs L) from place_fn 0 (by omega) hc) ?_)
  rintro _ _ ⟨rfl, rfl⟩
  repeat (first | ((first | refine WL_Q ?_); (first | refine QW_of (Qt_assign rfl) ?_ | refine QW_of (Qt_move rfl) ?_ | refine QW_of (Qt_nilCheck rfl) ?_ | refine QW_of (Qt_nilCheck_fn rfl) ?_ | refine QW_of (Qt_fieldAddr0 rfl) ?_ | refine QW_of (Qt_fieldAddr rfl) ?_ | refine QW_of (Qt_ld1 rfl) ?_ | refine QW_of (Qt_bin rfl) ?_ | refine QW_of (Qt_eql_nilS rfl) ?_ | refine QW_of (Qt_eql_nilN rfl) ?_ | refine QW_of (Qt_build rfl) ?_ | refine QW_of (Qt_rem rfl) ?_)) | ((first | refine WL_op rfl ?_); (first | refine OW_st1 rfl ?_ | refine OW_stA rfl ?_ | refine OW_stN rfl ?_)) | refine WL_nil ?_ | refine WC_seq ?_ | refine WC_block ?_ | refine WC_cond_t (ht := ?_) | refine WC_cond_f (he := ?_) | refine WC_skip ?_ | refine WC_ret ?_ | refine WC_exit ?_ | refine WC_region ?_)
  repeat (first | ((first | refine WL_Q ?_); (first | refine QW_of (Qt_assign rfl) ?_ | refine QW_of (Qt_move rfl) ?_ | refine QW_of (Qt_nilCheck rfl) ?_ | refine QW_of (Qt_nilCheck_fn rfl) ?_ | refine QW_of (Qt_fieldAddr0 rfl) ?_ | refine QW_of (Qt_fieldAddr rfl) ?_ | refine QW_of (Qt_ld1 rfl) ?_ | refine QW_of (Qt_bin rfl) ?_ | refine QW_of (Qt_eql_nilS rfl) ?_ | refine QW_of (Qt_eql_nilN rfl) ?_ | refine QW_of (Qt_build rfl) ?_ | refine QW_of (Qt_rem rfl) ?_)) | ((first | refine WL_op rfl ?_); (first | refine OW_st1 rfl ?_ | refine OW_stA rfl ?_ | refine OW_stN rfl ?_)) | refine WL_nil ?_ | refine WC_seq ?_ | refine WC_block ?_ | refine WC_cond_t (ht := ?_) | refine WC_cond_f (he := ?_) | refine WC_skip ?_ | refine WC_ret ?_ | refine WC_exit ?_ | refine WC_region ?_)
  refine ⟨rfl, _, _, Res1 rfl (resV_tmp rfl), .refl _, rfl, _, (first + 1) % 16, rfl, ?_⟩
  have e1 : (IntKind.i64.wrap ((first : Int) + 1)).tmod 16 = (((first + 1) % 16 : Nat) : Int) := by
    rw [wrap_i64 (by omega) (by omega), Int.tmod_eq_emod_of_nonneg (by omega)]; omega
  have e2 : IntKind.i64.wrap (((m :: ms).length : Int) - 1) = (ms.length : Int) := by
    simp only [List.length_cons] at hl ⊢
    rw [wrap_i64 (by omega) (by omega)]; omega
  rw [e1, e2]
  exact hc.popped _ rfl
end Go.Proofs.Ytcnbecdpfildnaa
