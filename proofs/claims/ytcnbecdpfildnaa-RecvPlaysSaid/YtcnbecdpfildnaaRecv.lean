/-
  The program's receiver (layer 21): what each of its methods does to its block, and returns.
-/
import Derived.Test.YtcnbecdpfildnaaTy
namespace Go.Proofs.Ytcnbecdpfildnaa
open Go.RowKit
attribute [local irreducible] Fn WC WL WR OW Qt YieldFn QW

theorem wrap_i64 {x : Int} (h1 : -9223372036854775808 ≤ x) (h2 : x < 9223372036854775808) : IntKind.i64.wrap x = x := by
  unfold IntKind.wrap
  simp only [show IntKind.i64.bits = 64 from rfl, show IntKind.i64.signed = true from rfl]
  by_cases h : x % 2 ^ 64 ≥ 2 ^ (64 - 1)
  · rw [if_pos (by simpa using h)]; omega
  · rw [if_neg (by simpa using h)]; omega
theorem wrap_u64 {x : Int} (h1 : 0 ≤ x) (h2 : x < 18446744073709551616) : IntKind.u64.wrap x = x := by
  simp only [IntKind.wrap, IntKind.bits, IntKind.signed]
  simp; omega

/-- A message that is a mark of a time. -/
def markC (a : Int) : Array Value := putR (putR zc48 0 #[.int .i64 1]) 8 #[.int .i64 a]

set_option maxHeartbeats 400000 in
theorem mark_fn (a : Int) (L : List (Nat × Obj)) : Fn Try.prog 13 [.int .i64 a] L (fun v L' => v = .agg (markC a) ∧ L' = L) := by
  refine Fn_enter Try.func13 rfl Try.ntmps13 rfl fun g => ?_
  repeat (first | ((first | refine WL_Q ?_); (first | refine QW_of (Qt_move rfl) ?_ | refine QW_of (Qt_build rfl) ?_)) | ((first | refine WL_op rfl ?_); (first | refine OW_alloc rfl (hk := fun _ => ?_) | refine OW_stA rfl ?_ | refine OW_stN rfl ?_)) | refine WL_nil ?_ | refine WC_seq ?_ | refine WC_block ?_ | refine WC_cond_t (ht := ?_) | refine WC_cond_f (he := ?_) | refine WC_skip ?_ | refine WC_ret ?_ | refine WC_exit ?_ | refine WC_region ?_)
  exact ⟨rfl, _, _, Res1 rfl (resV_cellN rfl 0 rfl rfl), .cons _ (.refl _), rfl, rfl⟩

/-- The cells of a receiver: its capacity, where the first message lies, its messages, the next number, how many it refused. -/
structure RecvC (cs : Array Value) (cap first : Nat) (ms : List (Array Value)) (next refused : Int) : Prop where
  size : cs.size = 389
  cap_ : cs[384]? = some (.int .i64 cap)
  first_ : cs[385]? = some (.int .i64 first)
  n_ : cs[386]? = some (.int .i64 ms.length)
  next_ : cs[387]? = some (.int .u64 next)
  ref_ : cs[388]? = some (.int .i64 refused)
  cap1 : 1 ≤ cap
  cap16 : cap ≤ 16
  f16 : first < 16
  len : ms.length ≤ cap
  nx0 : 0 ≤ next
  nx1 : next < 18446744073709551616
  msg : ∀ k m, ms[k]? = some m → cs.extract ((first + k) % 16 * 24) ((first + k) % 16 * 24 + 24) = m

/-- A receiver's block ahead of the others. -/
abbrev rc (b : Nat) (cs : Array Value) (L : List (Nat × Obj)) : List (Nat × Obj) := (b, .cells cs 95 (0, 0)) :: L

set_option maxHeartbeats 400000 in
theorem len_fn {b : Nat} {cs : Array Value} {cap first : Nat} {ms : List (Array Value)} {next refused : Int} {L : List (Nat × Obj)} (hc : RecvC cs cap first ms next refused) :
    Fn Try.prog 21 [.pointer (some ⟨b, 0, none⟩)] (rc b cs L) (fun v L' => v = .int .i64 ms.length ∧ L' = rc b cs L) := by
  have hn := hc.n_
  refine Fn_enter Try.func21 rfl Try.ntmps21 rfl fun g => ?_
  repeat (first | ((first | refine WL_Q ?_); (first | refine QW_of (Qt_assign rfl) ?_ | refine QW_of (Qt_move rfl) ?_ | refine QW_of (Qt_eql_nilS rfl) ?_ | refine QW_of (Qt_eql_nilN rfl) ?_ | refine QW_of (Qt_nilCheck rfl) ?_ | refine QW_of (Qt_nilCheck_fn rfl) ?_ | refine QW_of (Qt_fieldAddr0 rfl) ?_ | refine QW_of (Qt_fieldAddr rfl) ?_ | refine QW_of (Qt_ld1 rfl) ?_)) | refine WL_nil ?_ | refine WC_seq ?_ | refine WC_block ?_ | refine WC_cond_t (ht := ?_) | refine WC_cond_f (he := ?_) | refine WC_skip ?_ | refine WC_ret ?_ | refine WC_exit ?_ | refine WC_region ?_)
  exact ⟨rfl, _, _, Res1 rfl (resV_tmp rfl), .refl _, rfl, rfl⟩

set_option maxHeartbeats 400000 in
theorem place_fn {b : Nat} {cs : Array Value} {cap first : Nat} {ms : List (Array Value)} {next refused : Int} {L : List (Nat × Obj)} (k : Nat) (hk : k ≤ 16) (hc : RecvC cs cap first ms next refused) :
    Fn Try.prog 46 [.pointer (some ⟨b, 0, none⟩), .int .i64 k] (rc b cs L) (fun v L' => v = .pointer (some ⟨b, (first + k) % 16 * 24, none⟩) ∧ L' = rc b cs L) := by
  have hn := hc.first_
  have hf := hc.f16
  have e : (IntKind.i64.wrap ((first : Int) + k)).tmod 16 = (((first + k) % 16 : Nat) : Int) := by
    rw [wrap_i64 (by omega) (by omega)]
    rw [Int.tmod_eq_emod_of_nonneg (by omega)]; omega
  have h0 : 0 ≤ (IntKind.i64.wrap ((first : Int) + k)).tmod 16 := by rw [e]; omega
  have h1 : (IntKind.i64.wrap ((first : Int) + k)).tmod 16 < (16 : Nat) := by rw [e]; omega
  refine Fn_enter Try.func46 rfl Try.ntmps46 rfl fun g => ?_
  repeat (first | ((first | refine WL_Q ?_ | refine WR_Q rfl ?_ | refine WR_late rfl rfl rfl (OW_Q ?_)); (first | refine QW_of (Qt_move rfl) ?_ | refine QW_of (Qt_assign rfl) ?_ | refine QW_of (Qt_nilCheck rfl) ?_ | refine QW_of (Qt_nilCheck_fn rfl) ?_ | refine QW_of (Qt_fieldAddr0 rfl) ?_ | refine QW_of (Qt_fieldAddr rfl) ?_ | refine QW_of (Qt_ld1 rfl) ?_ | refine QW_of (Qt_bin rfl) ?_ | refine QW_of (Qt_rem rfl) ?_ | refine QW_of (Qt_indexArr0 rfl) ?_ | refine QW_of (Qt_indexSl0 rfl) ?_ | refine QW_of (Qt_indexArr rfl) ?_ | refine QW_of (Qt_indexSl rfl) ?_)) | refine WL_nil ?_ | refine WR_nil ?_ | refine WC_seq ?_ | refine WC_block ?_ | refine WC_cond_t (ht := ?_) | refine WC_cond_f (he := ?_) | refine WC_skip ?_ | refine WC_ret ?_ | refine WC_exit ?_ | refine WC_draw_all (id := 1) 12 (.calm 0 <| .calm 1 <| .calm 2 <| .calm 3 <| .calm 4 <| .calm 5 <| .calm 6 <| .calm 7 <| .calm 8 <| .calm 9 <| .calm 10 <| .calm 11 <| .done) mixed (by kernel_rfl) ?_ | refine WC_region ?_)
  refine ⟨rfl, _, _, Res1 rfl (resV_tmp rfl), .refl _, ?_, rfl⟩
  rw [e]
  simp


theorem RecvC.refused {cs : Array Value} {cap first : Nat} {ms : List (Array Value)} {next refused : Int} (hc : RecvC cs cap first ms next refused) (r : Int) : RecvC (cs.setIfInBounds 388 (.int .i64 r)) cap first ms next r where
  size := by simpa using hc.size
  cap_ := by rw [Array.getElem?_setIfInBounds_ne (by decide)]; exact hc.cap_
  first_ := by rw [Array.getElem?_setIfInBounds_ne (by decide)]; exact hc.first_
  n_ := by rw [Array.getElem?_setIfInBounds_ne (by decide)]; exact hc.n_
  next_ := by rw [Array.getElem?_setIfInBounds_ne (by decide)]; exact hc.next_
  ref_ := by have := hc.size; simp [this]
  cap1 := hc.cap1
  cap16 := hc.cap16
  f16 := hc.f16
  len := hc.len
  nx0 := hc.nx0
  nx1 := hc.nx1
  msg := fun k m hk => by
    rw [← hc.msg k m hk]
    have hlt : (first + k) % 16 < 16 := Nat.mod_lt _ (by decide)
    exact extract_congr fun j h1 h2 => Array.getElem?_setIfInBounds_ne (by omega)

/-- A number that was, is refused. -/
theorem data_refused {b : Nat} {cs : Array Value} {cap first : Nat} {ms : List (Array Value)} {next refused : Int} {L : List (Nat × Obj)} (hc : RecvC cs cap first ms next refused) (seq : Int) (m : Array Value) (e : Int)
    (he : (seq < next ∧ e = 18) ∨ (next < seq ∧ e = 7) ∨ (seq = next ∧ ms.length = cap ∧ e = 8)) :
    Fn Try.prog 12 [.pointer (some ⟨b, 0, none⟩), .int .u64 seq, .agg m] (rc b cs L) (fun v L' => v = .int .i64 e ∧ L' = rc b (cs.setIfInBounds 388 (.int .i64 (IntKind.i64.wrap (refused + 1)))) L) := by
  have hn := hc.next_
  have hr := hc.ref_
  have hs := hc.size
  have hl := hc.n_
  have hcap := hc.cap_
  rcases he with ⟨h, rfl⟩ | ⟨h, rfl⟩ | ⟨rfl, h, rfl⟩
  · have h1 : decide (seq < next) = true := by simpa using h
    refine Fn_enter Try.func12 rfl Try.ntmps12 rfl fun g => ?_
    repeat (first | ((first | refine WL_Q ?_ | refine WR_Q rfl ?_ | refine WR_late rfl rfl rfl (OW_Q ?_)); (first | refine QW_of (Qt_move rfl) ?_ | refine QW_of (Qt_nilCheck rfl) ?_ | refine QW_of (Qt_nilCheck_fn rfl) ?_ | refine QW_of (Qt_fieldAddr0 rfl) ?_ | refine QW_of (Qt_fieldAddr rfl) ?_ | refine QW_of (Qt_assign rfl) ?_ | refine QW_of (Qt_ld1 rfl) ?_ | refine QW_of (Qt_bin rfl) ?_ | refine QW_of (Qt_eql_nilS rfl) ?_ | refine QW_of (Qt_eql_nilN rfl) ?_ | refine QW_of (Qt_ldA rfl) ?_ | refine QW_of (Qt_ldN rfl) ?_)) | ((first | refine WL_op rfl ?_ | refine WR_late rfl rfl rfl ?_); (first | refine OW_st1 rfl ?_ | refine OW_box rfl (hk := fun _ => ?_) | refine OW_stA rfl ?_ | refine OW_stN rfl ?_)) | refine WL_nil ?_ | refine WR_nil ?_ | refine WC_seq ?_ | refine WC_block ?_ | refine WC_cond_t (ht := ?_) | refine WC_cond_f (he := ?_) | refine WC_skip ?_ | refine WC_ret ?_ | refine WC_exit ?_ | refine WC_draw_all (id := 5) 10 (.calm 0 <| .calm 1 <| .calm 2 <| .calm 3 <| .calm 4 <| .calm 5 <| .calm 6 <| .calm 7 <| .calm 8 <| .calm 9 <| .done) mixed (by kernel_rfl) ?_ | refine WC_draw_all (id := 13) 8 (.calm 0 <| .calm 1 <| .calm 2 <| .calm 3 <| .calm 4 <| .calm 6 <| .must 5 <| .calm 7 <| .must 8 <| .done) mixed (by kernel_rfl) ?_ | refine WC_region ?_ | ((refine WR_op rfl rfl ?_); (first | refine OW_st1 rfl ?_ | refine OW_box rfl (hk := fun _ => ?_) | refine OW_stA rfl ?_ | refine OW_stN rfl ?_); refine ⟨(by first | exact fun _ h => h | exact fun _ h => List.Sublist.subset (by repeat (first | exact .refl _ | exact List.nil_sublist _ | exact List.sublist_append_right _ _ | apply List.Sublist.cons_cons | apply List.Sublist.cons)) h), ?_⟩))
    exact ⟨rfl, _, _, Res1 rfl (resV_tmp rfl), .cons _ (.refl _), rfl, rfl⟩
  · have h1 : decide (seq < next) = false := by simp; omega
    have h2 : decide (seq > next) = true := by simpa using h
    refine Fn_enter Try.func12 rfl Try.ntmps12 rfl fun g => ?_
    repeat (first | ((first | refine WL_Q ?_ | refine WR_Q rfl ?_ | refine WR_late rfl rfl rfl (OW_Q ?_)); (first | refine QW_of (Qt_move rfl) ?_ | refine QW_of (Qt_nilCheck rfl) ?_ | refine QW_of (Qt_nilCheck_fn rfl) ?_ | refine QW_of (Qt_fieldAddr0 rfl) ?_ | refine QW_of (Qt_fieldAddr rfl) ?_ | refine QW_of (Qt_assign rfl) ?_ | refine QW_of (Qt_ld1 rfl) ?_ | refine QW_of (Qt_bin rfl) ?_ | refine QW_of (Qt_eql_nilS rfl) ?_ | refine QW_of (Qt_eql_nilN rfl) ?_ | refine QW_of (Qt_ldA rfl) ?_ | refine QW_of (Qt_ldN rfl) ?_)) | ((first | refine WL_op rfl ?_ | refine WR_late rfl rfl rfl ?_); (first | refine OW_st1 rfl ?_ | refine OW_box rfl (hk := fun _ => ?_) | refine OW_stA rfl ?_ | refine OW_stN rfl ?_)) | refine WL_nil ?_ | refine WR_nil ?_ | refine WC_seq ?_ | refine WC_block ?_ | refine WC_cond_t (ht := ?_) | refine WC_cond_f (he := ?_) | refine WC_skip ?_ | refine WC_ret ?_ | refine WC_exit ?_ | refine WC_draw_all (id := 5) 10 (.calm 0 <| .calm 1 <| .calm 2 <| .calm 3 <| .calm 4 <| .calm 5 <| .calm 6 <| .calm 7 <| .calm 8 <| .calm 9 <| .done) mixed (by kernel_rfl) ?_ | refine WC_draw_all (id := 13) 8 (.calm 0 <| .calm 1 <| .calm 2 <| .calm 3 <| .calm 4 <| .calm 6 <| .must 5 <| .calm 7 <| .must 8 <| .done) mixed (by kernel_rfl) ?_ | refine WC_region ?_ | ((refine WR_op rfl rfl ?_); (first | refine OW_st1 rfl ?_ | refine OW_box rfl (hk := fun _ => ?_) | refine OW_stA rfl ?_ | refine OW_stN rfl ?_); refine ⟨(by first | exact fun _ h => h | exact fun _ h => List.Sublist.subset (by repeat (first | exact .refl _ | exact List.nil_sublist _ | exact List.sublist_append_right _ _ | apply List.Sublist.cons_cons | apply List.Sublist.cons)) h), ?_⟩))
    exact ⟨rfl, _, _, Res1 rfl (resV_tmp rfl), .cons _ (.refl _), rfl, rfl⟩
  · have h1 : decide (seq < seq) = false := by simp
    have h2 : decide (seq > seq) = false := by simp
    have h3 : ((ms.length : Int) == (cap : Int)) = true := by simp [h]
    refine Fn_enter Try.func12 rfl Try.ntmps12 rfl fun g => ?_
    repeat (first | ((first | refine WL_Q ?_ | refine WR_Q rfl ?_ | refine WR_late rfl rfl rfl (OW_Q ?_)); (first | refine QW_of (Qt_move rfl) ?_ | refine QW_of (Qt_nilCheck rfl) ?_ | refine QW_of (Qt_nilCheck_fn rfl) ?_ | refine QW_of (Qt_fieldAddr0 rfl) ?_ | refine QW_of (Qt_fieldAddr rfl) ?_ | refine QW_of (Qt_assign rfl) ?_ | refine QW_of (Qt_ld1 rfl) ?_ | refine QW_of (Qt_bin rfl) ?_ | refine QW_of (Qt_eql_nilS rfl) ?_ | refine QW_of (Qt_eql_nilN rfl) ?_ | refine QW_of (Qt_ldA rfl) ?_ | refine QW_of (Qt_ldN rfl) ?_)) | ((first | refine WL_op rfl ?_ | refine WR_late rfl rfl rfl ?_); (first | refine OW_st1 rfl ?_ | refine OW_box rfl (hk := fun _ => ?_) | refine OW_stA rfl ?_ | refine OW_stN rfl ?_)) | refine WL_nil ?_ | refine WR_nil ?_ | refine WC_seq ?_ | refine WC_block ?_ | refine WC_cond_t (ht := ?_) | refine WC_cond_f (he := ?_) | refine WC_skip ?_ | refine WC_ret ?_ | refine WC_exit ?_ | refine WC_draw_all (id := 5) 10 (.calm 0 <| .calm 1 <| .calm 2 <| .calm 3 <| .calm 4 <| .calm 5 <| .calm 6 <| .calm 7 <| .calm 8 <| .calm 9 <| .done) mixed (by kernel_rfl) ?_ | refine WC_draw_all (id := 13) 8 (.calm 0 <| .calm 1 <| .calm 2 <| .calm 3 <| .calm 4 <| .calm 6 <| .must 5 <| .calm 7 <| .must 8 <| .done) mixed (by kernel_rfl) ?_ | refine WC_region ?_ | ((refine WR_op rfl rfl ?_); (first | refine OW_st1 rfl ?_ | refine OW_box rfl (hk := fun _ => ?_) | refine OW_stA rfl ?_ | refine OW_stN rfl ?_); refine ⟨(by first | exact fun _ h => h | exact fun _ h => List.Sublist.subset (by repeat (first | exact .refl _ | exact List.nil_sublist _ | exact List.sublist_append_right _ _ | apply List.Sublist.cons_cons | apply List.Sublist.cons)) h), ?_⟩))
    exact ⟨rfl, _, _, Res1 rfl (resV_tmp rfl), .cons _ (.refl _), rfl, rfl⟩

theorem RecvC.taken {cs : Array Value} {cap first : Nat} {ms : List (Array Value)} {next refused : Int} (hc : RecvC cs cap first ms next refused) (m : Array Value) (hm : m.size = 24) (hroom : ms.length < cap) (hx : next + 1 < 18446744073709551616) :
    RecvC (((putR cs ((first + ms.length) % 16 * 24) m).setIfInBounds 386 (.int .i64 (ms.length + 1 : Nat))).setIfInBounds 387 (.int .u64 (next + 1))) cap first (ms ++ [m]) (next + 1) refused := by
  have hs := hc.size
  have hoff : (first + ms.length) % 16 * 24 + m.size ≤ 384 := by have := Nat.mod_lt (first + ms.length) (show 0 < 16 by decide); omega
  have hp := putR_size cs m ((first + ms.length) % 16 * 24) (by omega)
  have ho : ∀ j, 384 ≤ j → (putR cs ((first + ms.length) % 16 * 24) m)[j]? = cs[j]? := fun j hj => putR_get_out cs m _ j (by omega) (by omega)
  have hcap := hc.cap16
  refine ⟨by simpa using hp.trans hs, ?_, ?_, ?_, ?_, ?_, hc.cap1, hc.cap16, hc.f16, by simp; omega, by have := hc.nx0; omega, hx, ?_⟩
  · rw [Array.getElem?_setIfInBounds_ne (by decide), Array.getElem?_setIfInBounds_ne (by decide), ho _ (by decide)]; exact hc.cap_
  · rw [Array.getElem?_setIfInBounds_ne (by decide), Array.getElem?_setIfInBounds_ne (by decide), ho _ (by decide)]; exact hc.first_
  · rw [Array.getElem?_setIfInBounds_ne (by decide)]; simp [hp, hs]
  · simp [hp, hs]
  · rw [Array.getElem?_setIfInBounds_ne (by decide), Array.getElem?_setIfInBounds_ne (by decide), ho _ (by decide)]; exact hc.ref_
  · intro k u hk
    have hk16 : (first + k) % 16 < 16 := Nat.mod_lt _ (by decide)
    have e : (((putR cs ((first + ms.length) % 16 * 24) m).setIfInBounds 386 (.int .i64 (ms.length + 1 : Nat))).setIfInBounds 387 (.int .u64 (next + 1))).extract ((first + k) % 16 * 24) ((first + k) % 16 * 24 + 24) = (putR cs ((first + ms.length) % 16 * 24) m).extract ((first + k) % 16 * 24) ((first + k) % 16 * 24 + 24) :=
      extract_congr fun j h1 h2 => by rw [Array.getElem?_setIfInBounds_ne (by omega), Array.getElem?_setIfInBounds_ne (by omega)]
    rw [e]
    by_cases hlt : k < ms.length
    · rw [List.getElem?_append_left hlt] at hk
      rw [← hc.msg k u hk]
      have hf := hc.f16
      have hne : (first + k) % 16 ≠ (first + ms.length) % 16 := by omega
      exact extract_congr fun j h1 h2 => putR_get_out cs m _ j (by omega) (by omega)
    · rw [List.getElem?_append_right (by omega)] at hk
      have hk0 : k - ms.length = 0 := by
        have := (List.getElem?_eq_some_iff.1 hk).1
        simp at this; omega
      rw [hk0] at hk
      simp at hk
      subst hk
      have hkk : k = ms.length := by omega
      subst hkk
      have := extract_putR cs m ((first + ms.length) % 16 * 24) (by omega)
      rw [hm] at this; exact this

set_option maxHeartbeats 2000000 in
/-- The next one is taken, if there is room. -/
theorem data_taken {b : Nat} {cs : Array Value} {cap first : Nat} {ms : List (Array Value)} {next refused : Int} {L : List (Nat × Obj)} (hc : RecvC cs cap first ms next refused) (m : Array Value) (hm : m.size = 24) (hm1 : (m.toList.all fun v => v.oneCell') = true) (hroom : ms.length < cap) (hx : next + 1 < 18446744073709551616) :
    Fn Try.prog 12 [.pointer (some ⟨b, 0, none⟩), .int .u64 next, .agg m] (rc b cs L) (fun v L' => v = .int .i64 0 ∧ ∃ cs', L' = rc b cs' L ∧ RecvC cs' cap first (ms ++ [m]) (next + 1) refused) := by
  have hn := hc.next_
  have hr := hc.ref_
  have hs := hc.size
  have hl := hc.n_
  have hcap := hc.cap_
  have h1 : decide (next < next) = false := by simp
  have h2 : decide (next > next) = false := by simp
  have h3 : ((ms.length : Int) == (cap : Int)) = false := by simp; omega
  have hoff : (first + ms.length) % 16 * 24 + 24 ≤ cs.size := by omega
  have hps := putR_size cs m ((first + ms.length) % 16 * 24) (by omega)
  have hs2 : (putR cs ((first + ms.length) % 16 * 24) m).size = 389 := by omega
  have hl2 : (putR cs ((first + ms.length) % 16 * 24) m)[386]? = some (.int .i64 ms.length) := by rw [putR_get_out cs m _ _ (by omega) (by omega)]; exact hl
  have hn2 : ((putR cs ((first + ms.length) % 16 * 24) m).setIfInBounds 386 (.int .i64 (IntKind.i64.wrap (ms.length + 1))))[387]? = some (.int .u64 next) := by
    rw [Array.getElem?_setIfInBounds_ne (by decide), putR_get_out cs m _ _ (by omega) (by omega)]; exact hn
  refine Fn_enter Try.func12 rfl Try.ntmps12 rfl fun g => ?_
  repeat (first | ((first | refine WL_Q ?_ | refine WR_Q rfl ?_ | refine WR_late rfl rfl rfl (OW_Q ?_)); (first | refine QW_of (Qt_move rfl) ?_ | refine QW_of (Qt_nilCheck rfl) ?_ | refine QW_of (Qt_nilCheck_fn rfl) ?_ | refine QW_of (Qt_fieldAddr0 rfl) ?_ | refine QW_of (Qt_fieldAddr rfl) ?_ | refine QW_of (Qt_assign rfl) ?_ | refine QW_of (Qt_ld1 rfl) ?_ | refine QW_of (Qt_bin rfl) ?_ | refine QW_of (Qt_eql_nilS rfl) ?_ | refine QW_of (Qt_eql_nilN rfl) ?_ | refine QW_of (Qt_ldA rfl) ?_ | refine QW_of (Qt_ldN rfl) ?_)) | ((first | refine WL_op rfl ?_ | refine WR_late rfl rfl rfl ?_); (first | refine OW_st1 rfl ?_ | refine OW_box rfl (hk := fun _ => ?_) | refine OW_stA rfl ?_ | refine OW_stN rfl ?_)) | refine WL_nil ?_ | refine WR_nil ?_ | refine WC_seq ?_ | refine WC_block ?_ | refine WC_cond_t (ht := ?_) | refine WC_cond_f (he := ?_) | refine WC_skip ?_ | refine WC_ret ?_ | refine WC_exit ?_ | refine WC_draw_all (id := 5) 10 (.calm 0 <| .calm 1 <| .calm 2 <| .calm 3 <| .calm 4 <| .calm 5 <| .calm 6 <| .calm 7 <| .calm 8 <| .calm 9 <| .done) mixed (by kernel_rfl) ?_ | refine WC_draw_all (id := 13) 8 (.calm 0 <| .calm 1 <| .calm 2 <| .calm 3 <| .calm 4 <| .calm 6 <| .must 5 <| .calm 7 <| .must 8 <| .done) mixed (by kernel_rfl) ?_ | refine WC_region ?_ | ((refine WR_op rfl rfl ?_); (first | refine OW_st1 rfl ?_ | refine OW_box rfl (hk := fun _ => ?_) | refine OW_stA rfl ?_ | refine OW_stN rfl ?_); refine ⟨(by first | exact fun _ h => h | exact fun _ h => List.Sublist.subset (by repeat (first | exact .refl _ | exact List.nil_sublist _ | exact List.sublist_append_right _ _ | apply List.Sublist.cons_cons | apply List.Sublist.cons)) h), ?_⟩))
  refine WR_op rfl rfl (OW_call rfl rfl rfl rfl (Fn.at_same (fun F => place_fn (L := F) ms.length (by have := hc.len; have := hc.cap16; omega) hc) 1 rfl) ?_)
  rintro _ _ ⟨rfl, rfl⟩
  refine ⟨fun _ h => h, ?_⟩
  repeat (first | ((first | refine WL_Q ?_ | refine WR_Q rfl ?_ | refine WR_late rfl rfl rfl (OW_Q ?_)); (first | refine QW_of (Qt_move rfl) ?_ | refine QW_of (Qt_nilCheck rfl) ?_ | refine QW_of (Qt_nilCheck_fn rfl) ?_ | refine QW_of (Qt_fieldAddr0 rfl) ?_ | refine QW_of (Qt_fieldAddr rfl) ?_ | refine QW_of (Qt_assign rfl) ?_ | refine QW_of (Qt_ld1 rfl) ?_ | refine QW_of (Qt_bin rfl) ?_ | refine QW_of (Qt_eql_nilS rfl) ?_ | refine QW_of (Qt_eql_nilN rfl) ?_ | refine QW_of (Qt_ldA rfl) ?_ | refine QW_of (Qt_ldN rfl) ?_)) | ((first | refine WL_op rfl ?_ | refine WR_late rfl rfl rfl ?_); (first | refine OW_st1 rfl ?_ | refine OW_box rfl (hk := fun _ => ?_) | refine OW_stA rfl ?_ | refine OW_stN rfl ?_)) | refine WL_nil ?_ | refine WR_nil ?_ | refine WC_seq ?_ | refine WC_block ?_ | refine WC_cond_t (ht := ?_) | refine WC_cond_f (he := ?_) | refine WC_skip ?_ | refine WC_ret ?_ | refine WC_exit ?_ | refine WC_draw_all (id := 5) 10 (.calm 0 <| .calm 1 <| .calm 2 <| .calm 3 <| .calm 4 <| .calm 5 <| .calm 6 <| .calm 7 <| .calm 8 <| .calm 9 <| .done) mixed (by kernel_rfl) ?_ | refine WC_draw_all (id := 13) 8 (.calm 0 <| .calm 1 <| .calm 2 <| .calm 3 <| .calm 4 <| .calm 6 <| .must 5 <| .calm 7 <| .must 8 <| .done) mixed (by kernel_rfl) ?_ | refine WC_region ?_ | ((refine WR_op rfl rfl ?_); (first | refine OW_st1 rfl ?_ | refine OW_box rfl (hk := fun _ => ?_) | refine OW_stA rfl ?_ | refine OW_stN rfl ?_); refine ⟨(by first | exact fun _ h => h | exact fun _ h => List.Sublist.subset (by repeat (first | exact .refl _ | exact List.nil_sublist _ | exact List.sublist_append_right _ _ | apply List.Sublist.cons_cons | apply List.Sublist.cons)) h), ?_⟩))
  repeat (first | ((first | refine WL_Q ?_ | refine WR_Q rfl ?_ | refine WR_late rfl rfl rfl (OW_Q ?_)); (first | refine QW_of (Qt_move rfl) ?_ | refine QW_of (Qt_nilCheck rfl) ?_ | refine QW_of (Qt_nilCheck_fn rfl) ?_ | refine QW_of (Qt_fieldAddr0 rfl) ?_ | refine QW_of (Qt_fieldAddr rfl) ?_ | refine QW_of (Qt_assign rfl) ?_ | refine QW_of (Qt_ld1 rfl) ?_ | refine QW_of (Qt_bin rfl) ?_ | refine QW_of (Qt_eql_nilS rfl) ?_ | refine QW_of (Qt_eql_nilN rfl) ?_ | refine QW_of (Qt_ldA rfl) ?_ | refine QW_of (Qt_ldN rfl) ?_)) | ((first | refine WL_op rfl ?_ | refine WR_late rfl rfl rfl ?_); (first | refine OW_st1 rfl ?_ | refine OW_box rfl (hk := fun _ => ?_) | refine OW_stA rfl ?_ | refine OW_stN rfl ?_)) | refine WL_nil ?_ | refine WR_nil ?_ | refine WC_seq ?_ | refine WC_block ?_ | refine WC_cond_t (ht := ?_) | refine WC_cond_f (he := ?_) | refine WC_skip ?_ | refine WC_ret ?_ | refine WC_exit ?_ | refine WC_draw_all (id := 5) 10 (.calm 0 <| .calm 1 <| .calm 2 <| .calm 3 <| .calm 4 <| .calm 5 <| .calm 6 <| .calm 7 <| .calm 8 <| .calm 9 <| .done) mixed (by kernel_rfl) ?_ | refine WC_draw_all (id := 13) 8 (.calm 0 <| .calm 1 <| .calm 2 <| .calm 3 <| .calm 4 <| .calm 6 <| .must 5 <| .calm 7 <| .must 8 <| .done) mixed (by kernel_rfl) ?_ | refine WC_region ?_ | ((refine WR_op rfl rfl ?_); (first | refine OW_st1 rfl ?_ | refine OW_box rfl (hk := fun _ => ?_) | refine OW_stA rfl ?_ | refine OW_stN rfl ?_); refine ⟨(by first | exact fun _ h => h | exact fun _ h => List.Sublist.subset (by repeat (first | exact .refl _ | exact List.nil_sublist _ | exact List.sublist_append_right _ _ | apply List.Sublist.cons_cons | apply List.Sublist.cons)) h), ?_⟩))
  refine ⟨rfl, _, _, Res1 rfl (resV_tmp rfl), .cons _ (.refl _), rfl, _, rfl, ?_⟩
  have hcc := hc.cap16
  have e1 : IntKind.i64.wrap ((ms.length : Int) + 1) = ((ms.length + 1 : Nat) : Int) := by rw [wrap_i64 (by omega) (by omega)]; simp
  have e2 : IntKind.u64.wrap (next + 1) = next + 1 := by have := hc.nx0; rw [wrap_u64 (by omega) (by omega)]
  rw [e1, e2]
  exact hc.taken m hm hroom hx

set_option maxHeartbeats 1000000 in
theorem answer_fn {b : Nat} {cs : Array Value} {cap first : Nat} {ms : List (Array Value)} {next refused : Int} {L : List (Nat × Obj)} (hc : RecvC cs cap first ms next refused) :
    Fn Try.prog 19 [.pointer (some ⟨b, 0, none⟩)] (rc b cs L) (fun v L' => v = .tuple #[.int .u64 next, .int .i64 ((cap : Int) - ms.length)] ∧ L' = rc b cs L) := by
  have h1 := hc.n_
  have h2 := hc.next_
  have h3 := hc.cap_
  refine Fn_enter Try.func19 rfl Try.ntmps19 rfl fun g => ?_
  repeat (first | ((first | refine WL_Q ?_ | refine WR_Q rfl ?_ | refine WR_late rfl rfl rfl (OW_Q ?_)); (first | refine QW_of (Qt_assign rfl) ?_ | refine QW_of (Qt_move rfl) ?_ | refine QW_of (Qt_nilCheck rfl) ?_ | refine QW_of (Qt_nilCheck_fn rfl) ?_ | refine QW_of (Qt_fieldAddr0 rfl) ?_ | refine QW_of (Qt_fieldAddr rfl) ?_ | refine QW_of (Qt_ld1 rfl) ?_ | refine QW_of (Qt_eql_nilS rfl) ?_ | refine QW_of (Qt_eql_nilN rfl) ?_ | refine QW_of (Qt_bin rfl) ?_)) | refine WL_nil ?_ | refine WR_nil ?_ | refine WC_seq ?_ | refine WC_block ?_ | refine WC_cond_t (ht := ?_) | refine WC_cond_f (he := ?_) | refine WC_skip ?_ | refine WC_ret ?_ | refine WC_exit ?_ | refine WC_draw_all (id := 3) 15 (.calm 0 <| .calm 1 <| .calm 2 <| .calm 3 <| .calm 4 <| .calm 5 <| .calm 6 <| .calm 7 <| .calm 8 <| .calm 9 <| .calm 10 <| .calm 11 <| .calm 12 <| .calm 13 <| .calm 14 <| .done) mixed (by kernel_rfl) ?_ | refine WC_region ?_)
  have := hc.len
  have := hc.cap16
  refine ⟨rfl, _, _, Res2 rfl (resV_tmp rfl) (resV_tmp rfl), .refl _, ?_, rfl⟩
  rw [wrap_i64 (by omega) (by omega)]

set_option maxHeartbeats 1000000 in
theorem refused_fn {b : Nat} {cs : Array Value} {cap first : Nat} {ms : List (Array Value)} {next refused : Int} {L : List (Nat × Obj)} (hc : RecvC cs cap first ms next refused) :
    Fn Try.prog 22 [.pointer (some ⟨b, 0, none⟩)] (rc b cs L) (fun v L' => v = .int .i64 refused ∧ L' = rc b cs L) := by
  have h1 := hc.ref_
  refine Fn_enter Try.func22 rfl Try.ntmps22 rfl fun g => ?_
  repeat (first | ((first | refine WL_Q ?_); (first | refine QW_of (Qt_assign rfl) ?_ | refine QW_of (Qt_move rfl) ?_ | refine QW_of (Qt_eql_nilS rfl) ?_ | refine QW_of (Qt_eql_nilN rfl) ?_ | refine QW_of (Qt_nilCheck rfl) ?_ | refine QW_of (Qt_nilCheck_fn rfl) ?_ | refine QW_of (Qt_fieldAddr0 rfl) ?_ | refine QW_of (Qt_fieldAddr rfl) ?_ | refine QW_of (Qt_ld1 rfl) ?_)) | refine WL_nil ?_ | refine WC_seq ?_ | refine WC_block ?_ | refine WC_cond_t (ht := ?_) | refine WC_cond_f (he := ?_) | refine WC_skip ?_ | refine WC_ret ?_ | refine WC_exit ?_ | refine WC_region ?_)
  exact ⟨rfl, _, _, Res1 rfl (resV_tmp rfl), .refl _, rfl, rfl⟩

set_option maxHeartbeats 1000000 in
theorem pop_empty {b : Nat} {cs : Array Value} {cap first : Nat} {next refused : Int} {L : List (Nat × Obj)} (hc : RecvC cs cap first [] next refused) :
    Fn Try.prog 15 [.pointer (some ⟨b, 0, none⟩)] (rc b cs L) (fun v L' => v = .int .i64 9 ∧ L' = rc b cs L) := by
  have h1 := hc.n_
  have h2 : (((([] : List (Array Value)).length : Nat) : Int) == 0) = true := by simp
  refine Fn_enter Try.func15 rfl Try.ntmps15 rfl fun g => ?_
  repeat (first | ((first | refine WL_Q ?_); (first | refine QW_of (Qt_assign rfl) ?_ | refine QW_of (Qt_move rfl) ?_ | refine QW_of (Qt_nilCheck rfl) ?_ | refine QW_of (Qt_nilCheck_fn rfl) ?_ | refine QW_of (Qt_fieldAddr0 rfl) ?_ | refine QW_of (Qt_fieldAddr rfl) ?_ | refine QW_of (Qt_ld1 rfl) ?_ | refine QW_of (Qt_bin rfl) ?_ | refine QW_of (Qt_eql_nilS rfl) ?_ | refine QW_of (Qt_eql_nilN rfl) ?_ | refine QW_of (Qt_build rfl) ?_ | refine QW_of (Qt_rem rfl) ?_)) | ((first | refine WL_op rfl ?_); (first | refine OW_st1 rfl ?_ | refine OW_stA rfl ?_ | refine OW_stN rfl ?_)) | refine WL_nil ?_ | refine WC_seq ?_ | refine WC_block ?_ | refine WC_cond_t (ht := ?_) | refine WC_cond_f (he := ?_) | refine WC_skip ?_ | refine WC_ret ?_ | refine WC_exit ?_ | refine WC_region ?_)
  exact ⟨rfl, _, _, Res1 rfl (resV_tmp rfl), .refl _, rfl, rfl⟩
end Go.Proofs.Ytcnbecdpfildnaa
