/-
  Numbers in as few bytes as they need (layer 1): what nums.P lays, and the document's Num.
-/
import Derived.Test.YtcnbecdpfildnaaDoorBy
import Derived.Test.YtcnbecdpfildnaaDoorTy
namespace Go.Proofs.YtcnbecdpfildnaaDoor
open Go.RowKit
attribute [local irreducible] Fn WC WL WR OW Qt YieldFn QW

/-- The digits but the last one, each with the sign that more follow. -/
def encH (n : Nat) : List UInt8 := if n = 0 then [] else encH (n / 128) ++ [UInt8.ofNat (n % 128 + 128)]
/-- A number's bytes. -/
def enc (n : Nat) : List UInt8 := encH (n / 128) ++ [UInt8.ofNat (n % 128)]

theorem encH_zero : encH 0 = [] := by unfold encH; rfl
theorem encH_pos {n : Nat} (h : n ≠ 0) : encH n = encH (n / 128) ++ [UInt8.ofNat (n % 128 + 128)] := by rw [encH, if_neg h]

theorem dig_eq (m : Nat) : IntKind.u8.wrap ((m : Int).tmod 128) = ((UInt8.ofNat (m % 128)).toNat : Int) := by
  rw [Int.tmod_eq_emod_of_nonneg (by omega), wU8_mod]
  simp only [UInt8.toNat_ofNat']
  omega
theorem or_dig : ∀ d : Fin 128, (BitVec.ofInt 8 (d.val : Int) ||| BitVec.ofInt 8 128).toNat = d.val + 128 := by decide
theorem dig_more (m : Nat) : IntKind.u8.wrap (((BitVec.ofInt IntKind.u8.bits (IntKind.u8.wrap ((m : Int).tmod 128)) ||| BitVec.ofInt IntKind.u8.bits 128).toNat : Nat) : Int) = ((UInt8.ofNat (m % 128 + 128)).toNat : Int) := by
  have h : IntKind.u8.wrap ((m : Int).tmod 128) = ((m % 128 : Nat) : Int) := by
    rw [Int.tmod_eq_emod_of_nonneg (by omega), wU8_mod]; omega
  rw [h, show IntKind.u8.bits = 8 from rfl]
  have := or_dig ⟨m % 128, Nat.mod_lt _ (by decide)⟩
  simp only at this
  rw [this, wU8_mod]
  simp only [UInt8.toNat_ofNat']
  omega
theorem shr7 (m : Nat) : (m : Int).fdiv (2 ^ min (Int.toNat 7) IntKind.u64.bits) = ((m / 128 : Nat) : Int) := by
  rw [show min (Int.toNat 7) IntKind.u64.bits = 7 from rfl, Int.fdiv_eq_ediv_of_nonneg _ (by decide)]
  omega

theorem encH_len : ∀ (k n : Nat), n < 128 ^ k → (encH n).length ≤ k
  | 0, n, h => by simp at h; subst h; rw [encH_zero]; simp
  | k + 1, n, h => by
    by_cases h0 : n = 0
    · subst h0; rw [encH_zero]; simp
    · rw [encH_pos h0]
      have := encH_len k (n / 128) (by rw [Nat.pow_succ] at h; omega)
      simp; omega
theorem enc_len {n : Nat} (h : n < 18446744073709551616) : (enc n).length ≤ 10 := by
  have := encH_len 9 (n / 128) (by show n / 128 < 9223372036854775808; omega)
  simp [enc]; omega
theorem enc_pos (n : Nat) : 0 < (enc n).length := by simp [enc]

/-- What is laid behind bs: a block of one's own. -/
def LaidAt (v : Value) (L L' : List (Nat × Obj)) (l : List UInt8) : Prop :=
  ∃ g off cap cur, v = .slice (some ⟨g, off, none⟩) l.length cap ∧ L' = (g, .cells cur 5 (0, 0)) :: L ∧ Own 1 cur off cap l.length (l.map bV)

theorem bV_one (l : List UInt8) : ∀ u ∈ l.map bV, u.oneCell' = true := fun u hu => by
  obtain ⟨_, _, rfl⟩ := List.mem_map.1 hu
  rfl

set_option maxHeartbeats 1000000 in
theorem P_fn {v : Value} {bs : List UInt8} {n : Nat} {L : List (Nat × Obj)} (hb : ByAt L v bs) (hn : n < 18446744073709551616) (hlen : bs.length ≤ 1000000000) :
    Fn Tryd.prog 9 [v, .int .u64 n] L (fun r L' => LaidAt r L L' (bs ++ enc n)) := by
  have hb' := hb
  obtain ⟨_, a, cap, rfl, hc1, hc2, _⟩ := hb
  refine Fn_enter Tryd.func9 rfl Tryd.ntmps9 rfl fun g => ?_
  repeat (first | ((first | refine WL_Q ?_ | refine WR_Q rfl ?_ | refine WR_late rfl rfl rfl (OW_Q ?_)); (first | refine QW_of (Qt_lenB rfl) ?_ | refine QW_of (Qt_move rfl) ?_ | refine QW_of (Qt_assign rfl) ?_ | refine QW_of (Qt_rem rfl) ?_ | refine QW_of (Qt_convInt rfl) ?_ | refine QW_of (Qt_indexArr0 rfl) ?_ | refine QW_of (Qt_indexSl0 rfl) ?_ | refine QW_of (Qt_indexArr rfl) ?_ | refine QW_of (Qt_indexSl rfl) ?_ | refine QW_of (Qt_shr rfl) ?_ | refine QW_of (Qt_bin rfl) ?_ | refine QW_of (Qt_lenSl rfl) ?_ | refine QW_of (Qt_or rfl) ?_ | refine QW_of (Qt_sliceL rfl) ?_ | refine QW_of (Qt_slTo rfl) ?_ | refine QW_of (Qt_slLHM rfl) ?_ | refine QW_of (Qt_arrFrom rfl) ?_)) | ((first | refine WL_op rfl ?_ | refine WR_late rfl rfl rfl ?_); (first | refine OW_st1 rfl ?_ | refine OW_alloc rfl (hk := fun _ => ?_))) | refine WL_nil ?_ | refine WR_nil ?_ | refine WC_seq ?_ | refine WC_block ?_ | refine WC_cond_t (ht := ?_) | refine WC_cond_f (he := ?_) | refine WC_skip ?_ | refine WC_ret ?_ | refine WC_exit ?_ | refine WC_draw_all (id := 9) 10 (.calm 0 <| .calm 1 <| .calm 2 <| .calm 3 <| .calm 4 <| .calm 5 <| .calm 6 <| .calm 7 <| .must 8 <| .calm 9 <| .done) mixed (by kernel_rfl) ?_ | refine WC_region ?_ | ((refine WR_opG rfl rfl ?_); (first | refine OW_st1 rfl ?_ | refine OW_alloc rfl (hk := fun _ => ?_)); refine ⟨(by first | exact fun _ h => h | exact fun _ h => List.Sublist.subset (by repeat (first | exact .refl _ | exact List.nil_sublist _ | exact List.sublist_append_right _ _ | apply List.Sublist.cons_cons | apply List.Sublist.cons)) h), ?_⟩))
  rename_i o
  refine WC_wk [(5, .pointer (some ⟨o, 0, none⟩)), (6, .int .i64 9), (1, .int .u64 ((n : Int).fdiv (2 ^ min (Int.toNat 7) IntKind.u64.bits))), (0, .slice a bs.length cap)] ⟨rfl, rfl, rfl, rfl, trivial⟩ ?_
  rw [dig_eq, shr7]
  refine WC_loop (fun m σ => ∃ (k : Nat) (ys : List UInt8) (cs : Array Value), m = k ∧ enc n = encH k ++ ys ∧ k < 128 ^ (10 - ys.length) ∧ ys.length ≤ 10 ∧ cs.size = 10 ∧ 1 ≤ ys.length ∧ (∀ j u, ys[j]? = some u → cs[10 - ys.length + j]? = some (bV u)) ∧ σ = ⟨[(5, .pointer (some ⟨o, 0, none⟩)), (6, .int .i64 ((10 - ys.length : Nat) : Int)), (1, .int .u64 (k : Int)), (0, .slice a bs.length cap)], [], (o, .cells cs 78 (0, 0)) :: L⟩) (n / 128) ?_ ?_
  · refine ⟨n / 128, [UInt8.ofNat (n % 128)], _, rfl, rfl, ?_, by simp, by rfl, by simp, ?_, rfl⟩
    · show n / 128 < 128 ^ 9
      omega
    · intro j u hu
      cases j with
      | zero => cases hu; rfl
      | succ j => simp at hu
  · rintro k σ ⟨_, ys, cs, rfl, he, hk, hy, hcs, hy1, hat, rfl⟩
    by_cases h0 : k = 0
    · subst h0
      have d1 : decide (((0 : Nat) : Int) > 0) = false := by decide
      rw [encH_zero, List.nil_append] at he
      subst he
      have hown : Own 1 cs (slOff 10 (10 - (enc n).length) 0 1) (enc n).length (enc n).length ((enc n).map bV) := by
        refine ⟨by simp, Nat.le_refl _, by simp only [maxLen]; omega, ?_, fun j x hx => ?_⟩
        · unfold slOff; rw [if_neg (by omega)]; omega
        · rw [List.getElem?_map] at hx
          obtain ⟨u, hu, rfl⟩ := Option.map_eq_some_iff.1 hx
          unfold slOff; rw [if_neg (by omega), Nat.zero_add, Nat.mul_one]
          exact hat j u hu
      repeat (first | ((first | refine WL_Q ?_ | refine WR_Q rfl ?_ | refine WR_late rfl rfl rfl (OW_Q ?_)); (first | refine QW_of (Qt_lenB rfl) ?_ | refine QW_of (Qt_move rfl) ?_ | refine QW_of (Qt_assign rfl) ?_ | refine QW_of (Qt_rem rfl) ?_ | refine QW_of (Qt_convInt rfl) ?_ | refine QW_of (Qt_indexArr0 rfl) ?_ | refine QW_of (Qt_indexSl0 rfl) ?_ | refine QW_of (Qt_indexArr rfl) ?_ | refine QW_of (Qt_indexSl rfl) ?_ | refine QW_of (Qt_shr rfl) ?_ | refine QW_of (Qt_bin rfl) ?_ | refine QW_of (Qt_lenSl rfl) ?_ | refine QW_of (Qt_or rfl) ?_ | refine QW_of (Qt_sliceL rfl) ?_ | refine QW_of (Qt_slTo rfl) ?_ | refine QW_of (Qt_slLHM rfl) ?_ | refine QW_of (Qt_arrFrom rfl) ?_)) | ((first | refine WL_op rfl ?_ | refine WR_late rfl rfl rfl ?_); (first | refine OW_st1 rfl ?_ | refine OW_alloc rfl (hk := fun _ => ?_))) | refine WL_nil ?_ | refine WR_nil ?_ | refine WC_seq ?_ | refine WC_block ?_ | refine WC_cond_t (ht := ?_) | refine WC_cond_f (he := ?_) | refine WC_skip ?_ | refine WC_ret ?_ | refine WC_exit ?_ | refine WC_draw_all (id := 9) 10 (.calm 0 <| .calm 1 <| .calm 2 <| .calm 3 <| .calm 4 <| .calm 5 <| .calm 6 <| .calm 7 <| .must 8 <| .calm 9 <| .done) mixed (by kernel_rfl) ?_ | refine WC_region ?_ | ((refine WR_opG rfl rfl ?_); (first | refine OW_st1 rfl ?_ | refine OW_alloc rfl (hk := fun _ => ?_)); refine ⟨(by first | exact fun _ h => h | exact fun _ h => List.Sublist.subset (by repeat (first | exact .refl _ | exact List.nil_sublist _ | exact List.sublist_append_right _ _ | apply List.Sublist.cons_cons | apply List.Sublist.cons)) h), ?_⟩))
      have e1 : (((10 - (enc n).length : Nat) : Int)).toNat = 10 - (enc n).length := by omega
      have e2 : (10 - (10 - (enc n).length)) = (enc n).length := by omega
      simp only [e1, e2, Int.toNat_natCast]
      refine WR_op rfl rfl (OW_append_new rfl rfl rfl rfl rfl (olds := bs.map bV) (news := (enc n).map bV) (Vec.cons _ (hb'.shrink (Nat.le_refl _))) (srcVec (hown.vec 0 rfl) (bV_one _)) (by omega) (by simp only [maxLen]; omega) (by omega) fun b' cap' cur' ho => ?_)
      refine ⟨(by first | exact fun _ h => h | exact fun _ h => List.Sublist.subset (by repeat (first | exact .refl _ | exact List.nil_sublist _ | exact List.sublist_append_right _ _ | apply List.Sublist.cons_cons | apply List.Sublist.cons)) h), ?_⟩
      repeat (first | ((first | refine WL_Q ?_ | refine WR_Q rfl ?_ | refine WR_late rfl rfl rfl (OW_Q ?_)); (first | refine QW_of (Qt_lenB rfl) ?_ | refine QW_of (Qt_move rfl) ?_ | refine QW_of (Qt_assign rfl) ?_ | refine QW_of (Qt_rem rfl) ?_ | refine QW_of (Qt_convInt rfl) ?_ | refine QW_of (Qt_indexArr0 rfl) ?_ | refine QW_of (Qt_indexSl0 rfl) ?_ | refine QW_of (Qt_indexArr rfl) ?_ | refine QW_of (Qt_indexSl rfl) ?_ | refine QW_of (Qt_shr rfl) ?_ | refine QW_of (Qt_bin rfl) ?_ | refine QW_of (Qt_lenSl rfl) ?_ | refine QW_of (Qt_or rfl) ?_ | refine QW_of (Qt_sliceL rfl) ?_ | refine QW_of (Qt_slTo rfl) ?_ | refine QW_of (Qt_slLHM rfl) ?_ | refine QW_of (Qt_arrFrom rfl) ?_)) | ((first | refine WL_op rfl ?_ | refine WR_late rfl rfl rfl ?_); (first | refine OW_st1 rfl ?_ | refine OW_alloc rfl (hk := fun _ => ?_))) | refine WL_nil ?_ | refine WR_nil ?_ | refine WC_seq ?_ | refine WC_block ?_ | refine WC_cond_t (ht := ?_) | refine WC_cond_f (he := ?_) | refine WC_skip ?_ | refine WC_ret ?_ | refine WC_exit ?_ | refine WC_draw_all (id := 9) 10 (.calm 0 <| .calm 1 <| .calm 2 <| .calm 3 <| .calm 4 <| .calm 5 <| .calm 6 <| .calm 7 <| .must 8 <| .calm 9 <| .done) mixed (by kernel_rfl) ?_ | refine WC_region ?_ | ((refine WR_opG rfl rfl ?_); (first | refine OW_st1 rfl ?_ | refine OW_alloc rfl (hk := fun _ => ?_)); refine ⟨(by first | exact fun _ h => h | exact fun _ h => List.Sublist.subset (by repeat (first | exact .refl _ | exact List.nil_sublist _ | exact List.sublist_append_right _ _ | apply List.Sublist.cons_cons | apply List.Sublist.cons)) h), ?_⟩))
      refine ⟨rfl, _, _, Res1 rfl (resV_tmp rfl), .cons_cons _ (.cons _ (.refl _)), b', 0, cap', cur', ?_, rfl, ?_⟩
      · rw [List.length_append]
      · rw [List.length_append, List.map_append]; exact ho
    · have hk0 : decide (((k : Nat) : Int) > 0) = true := decide_eq_true (by omega)
      have h10 : ys.length < 10 := by
        rcases Nat.lt_or_ge ys.length 10 with h | h
        · exact h
        · rw [show 10 - ys.length = 0 by omega] at hk; simp at hk; omega
      have ew : IntKind.i64.wrap (((10 - ys.length : Nat) : Int) - 1) = ((10 - (ys.length + 1) : Nat) : Int) := by rw [wI64 (by omega) (by omega)]; omega
      repeat (first | ((first | refine WL_Q ?_ | refine WR_Q rfl ?_ | refine WR_late rfl rfl rfl (OW_Q ?_)); (first | refine QW_of (Qt_lenB rfl) ?_ | refine QW_of (Qt_move rfl) ?_ | refine QW_of (Qt_assign rfl) ?_ | refine QW_of (Qt_rem rfl) ?_ | refine QW_of (Qt_convInt rfl) ?_ | refine QW_of (Qt_indexArr0 rfl) ?_ | refine QW_of (Qt_indexSl0 rfl) ?_ | refine QW_of (Qt_indexArr rfl) ?_ | refine QW_of (Qt_indexSl rfl) ?_ | refine QW_of (Qt_shr rfl) ?_ | refine QW_of (Qt_bin rfl) ?_ | refine QW_of (Qt_lenSl rfl) ?_ | refine QW_of (Qt_or rfl) ?_ | refine QW_of (Qt_sliceL rfl) ?_ | refine QW_of (Qt_slTo rfl) ?_ | refine QW_of (Qt_slLHM rfl) ?_ | refine QW_of (Qt_arrFrom rfl) ?_)) | ((first | refine WL_op rfl ?_ | refine WR_late rfl rfl rfl ?_); (first | refine OW_st1 rfl ?_ | refine OW_alloc rfl (hk := fun _ => ?_))) | refine WL_nil ?_ | refine WR_nil ?_ | refine WC_seq ?_ | refine WC_block ?_ | refine WC_cond_t (ht := ?_) | refine WC_cond_f (he := ?_) | refine WC_skip ?_ | refine WC_ret ?_ | refine WC_exit ?_ | refine WC_draw_all (id := 9) 10 (.calm 0 <| .calm 1 <| .calm 2 <| .calm 3 <| .calm 4 <| .calm 5 <| .calm 6 <| .calm 7 <| .must 8 <| .calm 9 <| .done) mixed (by kernel_rfl) ?_ | refine WC_region ?_ | ((refine WR_opG rfl rfl ?_); (first | refine OW_st1 rfl ?_ | refine OW_alloc rfl (hk := fun _ => ?_)); refine ⟨(by first | exact fun _ h => h | exact fun _ h => List.Sublist.subset (by repeat (first | exact .refl _ | exact List.nil_sublist _ | exact List.sublist_append_right _ _ | apply List.Sublist.cons_cons | apply List.Sublist.cons)) h), ?_⟩))
      rw [shr7, dig_more, ew]
      simp only [Int.toNat_natCast, Nat.mul_one]
      refine ⟨k / 128, _, by omega, ⟨k / 128, UInt8.ofNat (k % 128 + 128) :: ys, _, rfl, ?_, ?_, ?_, ?_, ?_, ?_, rfl⟩, ⟨rfl, rfl, rfl, rfl, trivial⟩, rfl, .refl _⟩
      · rw [he, encH_pos h0]; simp
      · have e3 : 10 - ys.length = (10 - (ys.length + 1)) + 1 := by omega
        rw [e3, Nat.pow_succ] at hk
        show k / 128 < 128 ^ (10 - (ys.length + 1))
        omega
      · simp only [List.length_cons]; omega
      · simpa using hcs
      · simp
      · intro j u hu
        simp only [List.length_cons]
        cases j with
        | zero =>
          simp only [List.getElem?_cons_zero, Option.some.injEq] at hu; subst hu
          show (cs.setIfInBounds (10 - (ys.length + 1)) _)[10 - (ys.length + 1)]? = _
          rw [Array.getElem?_setIfInBounds_self_of_lt (by omega)]; rfl
        | succ j =>
          rw [Array.getElem?_setIfInBounds_ne (by omega)]
          have := hat j u (by simpa using hu)
          rw [show 10 - (ys.length + 1) + (j + 1) = 10 - ys.length + j by omega]; exact this
theorem P_fn' {v : Value} {bs : List UInt8} {x : Int} {L : List (Nat × Obj)} (hb : ByAt L v bs) (h0 : 0 ≤ x) (h1 : x < 18446744073709551616) (hlen : bs.length ≤ 1000000000) :
    Fn Tryd.prog 9 [v, .int .u64 x] L (fun r L' => LaidAt r L L' (bs ++ enc x.toNat)) := by
  have := P_fn (L := L) (n := x.toNat) hb (by omega) hlen
  rwa [show ((x.toNat : Nat) : Int) = x by omega] at this

/-- A whole number's number. -/
def zz (x : Int) : Nat := if 0 ≤ x then (2 * x).toNat else (-2 * x - 1).toNat
theorem zz_lt {x : Int} (h0 : -9223372036854775808 ≤ x) (h1 : x < 9223372036854775808) : zz x < 18446744073709551616 := by
  unfold zz; split <;> omega
theorem zz_bits {x : Int} (h0 : -9223372036854775808 ≤ x) (h1 : x < 9223372036854775808) :
    IntKind.u64.wrap ((BitVec.ofInt IntKind.u64.bits (IntKind.u64.wrap (IntKind.u64.wrap x * 2 ^ min (Int.toNat 1) IntKind.u64.bits)) ^^^ BitVec.ofInt IntKind.u64.bits (IntKind.u64.wrap (x.fdiv (2 ^ min (Int.toNat 63) IntKind.i64.bits)))).toNat : Int) = (zz x : Int) := by
  rw [show min (Int.toNat 1) IntKind.u64.bits = 1 from rfl, show min (Int.toNat 63) IntKind.i64.bits = 63 from rfl, show IntKind.u64.bits = 64 from rfl, Int.fdiv_eq_ediv_of_nonneg _ (by decide)]
  by_cases hx : 0 ≤ x
  · have e1 : x / 2 ^ 63 = 0 := by omega
    have e2 : IntKind.u64.wrap (IntKind.u64.wrap x * 2 ^ 1) = 2 * x := by
      rw [wU64 hx (by omega), wU64 (by omega) (by omega)]; omega
    rw [e1, e2, show IntKind.u64.wrap 0 = 0 by decide, show BitVec.ofInt 64 0 = 0#64 from rfl, BitVec.xor_zero, BitVec.toNat_ofInt, wU64_mod]
    unfold zz; rw [if_pos hx]; omega
  · have e1 : x / 2 ^ 63 = -1 := by omega
    have e2 : IntKind.u64.wrap (IntKind.u64.wrap x * 2 ^ 1) = 2 * x + 18446744073709551616 := by
      rw [wU64_mod, wU64_mod]; omega
    rw [e1, e2, wU64_mod (-1)]
    rw [show BitVec.ofInt 64 (-1 % 18446744073709551616) = BitVec.allOnes 64 by decide, BitVec.xor_allOnes, BitVec.toNat_not, BitVec.toNat_ofInt, wU64_mod]
    unfold zz; rw [if_neg hx]; omega

theorem bytes_find {L : List (Nat × Obj)} {v : Value} {l : List UInt8} (h : ByAt L v l) : ByAt L v l := h


set_option maxHeartbeats 1000000 in
theorem PI_fn {v : Value} {bs : List UInt8} {x : Int} {L : List (Nat × Obj)} (hb : ByAt L v bs) (h0 : -9223372036854775808 ≤ x) (h1 : x < 9223372036854775808) (hlen : bs.length ≤ 1000000000) :
    Fn Tryd.prog 10 [v, .int .i64 x] L (fun r L' => LaidAt r L L' (bs ++ enc (zz x))) := by
  have hz := zz_bits h0 h1
  have hz0 : 0 ≤ IntKind.u64.wrap ((BitVec.ofInt IntKind.u64.bits (IntKind.u64.wrap (IntKind.u64.wrap x * 2 ^ min (Int.toNat 1) IntKind.u64.bits)) ^^^ BitVec.ofInt IntKind.u64.bits (IntKind.u64.wrap (x.fdiv (2 ^ min (Int.toNat 63) IntKind.i64.bits)))).toNat : Int) := by omega
  have hz1 : IntKind.u64.wrap ((BitVec.ofInt IntKind.u64.bits (IntKind.u64.wrap (IntKind.u64.wrap x * 2 ^ min (Int.toNat 1) IntKind.u64.bits)) ^^^ BitVec.ofInt IntKind.u64.bits (IntKind.u64.wrap (x.fdiv (2 ^ min (Int.toNat 63) IntKind.i64.bits)))).toNat : Int) < 18446744073709551616 := by have := zz_lt h0 h1; omega
  refine Fn_enter Tryd.func10 rfl Tryd.ntmps10 rfl fun g => ?_
  repeat (first | ((first | refine WL_Q ?_); (first | refine QW_of (Qt_move rfl) ?_ | refine QW_of (Qt_assign rfl) ?_ | refine QW_of (Qt_convInt rfl) ?_ | refine QW_of (Qt_shl rfl) ?_ | refine QW_of (Qt_shr rfl) ?_ | refine QW_of (Qt_xor rfl) ?_)) | ((first | refine WL_op rfl ?_); (first | (refine OW_call rfl (hF := P_fn' (by with_reducible assumption) (by first | with_reducible assumption | omega) (by first | with_reducible assumption | omega) (by with_reducible assumption)) (hk := ?_); rintro _ _ ⟨b1, off1, cap1, cur1, rfl, rfl, ho1⟩))) | refine WL_nil ?_ | refine WC_seq ?_ | refine WC_block ?_ | refine WC_cond_t (ht := ?_) | refine WC_cond_f (he := ?_) | refine WC_skip ?_ | refine WC_ret ?_ | refine WC_exit ?_ | refine WC_region ?_)
  rw [hz, Int.toNat_natCast] at ho1
  refine ⟨rfl, _, _, Res1 rfl (resV_tmp rfl), .refl _, b1, off1, cap1, cur1, ?_, rfl, ho1⟩
  rw [hz, Int.toNat_natCast]

/-- A truth's byte. -/
def encB (b : Bool) : List UInt8 := if b then [1] else [0]
set_option maxHeartbeats 1000000 in
theorem PBool_fn {v : Value} {bs : List UInt8} {x : Bool} {L : List (Nat × Obj)} (hb : ByAt L v bs) (hlen : bs.length ≤ 1000000000) :
    Fn Tryd.prog 13 [v, .bool x] L (fun r L' => LaidAt r L L' (bs ++ encB x)) := by
  have hb' := hb
  obtain ⟨_, a, cap, rfl, hc1, hc2, _⟩ := hb
  cases x
  · refine Fn_enter Tryd.func13 rfl Tryd.ntmps13 rfl fun g => ?_
    repeat (first | ((first | refine WL_Q ?_); (first | refine QW_of (Qt_lenB rfl) ?_ | refine QW_of (Qt_move rfl) ?_ | refine QW_of (Qt_lenSl rfl) ?_ | refine QW_of (Qt_assign rfl) ?_ | refine QW_of (Qt_sliceL rfl) ?_ | refine QW_of (Qt_slTo rfl) ?_ | refine QW_of (Qt_slLHM rfl) ?_)) | ((first | refine WL_op rfl ?_); (first | refine OW_build1 rfl (hk := fun _ => ?_))) | refine WL_nil ?_ | refine WC_seq ?_ | refine WC_block ?_ | refine WC_cond_t (ht := ?_) | refine WC_cond_f (he := ?_) | refine WC_skip ?_ | refine WC_ret ?_ | refine WC_exit ?_ | refine WC_region ?_)
    simp only [Int.toNat_natCast]
    refine WL_op rfl (OW_append_new rfl rfl rfl rfl rfl (olds := bs.map bV) (m := 1) (news := [bV 0]) (Vec.cons _ (hb'.shrink (Nat.le_refl _))) (srcVec ⟨rfl, _, _, rfl, Nat.le_refl _, by decide, .inr ⟨_, _, _, _, _, 0, rfl, rfl, fun j x hx => by cases j <;> simp_all [bV]⟩⟩ (by simp [bV, Value.oneCell'])) (by omega) (by simp only [maxLen]; omega) (by omega) fun b' cap' cur' ho => ?_)
    repeat (first | ((first | refine WL_Q ?_); (first | refine QW_of (Qt_lenB rfl) ?_ | refine QW_of (Qt_move rfl) ?_ | refine QW_of (Qt_lenSl rfl) ?_ | refine QW_of (Qt_assign rfl) ?_ | refine QW_of (Qt_sliceL rfl) ?_ | refine QW_of (Qt_slTo rfl) ?_ | refine QW_of (Qt_slLHM rfl) ?_)) | ((first | refine WL_op rfl ?_); (first | refine OW_build1 rfl (hk := fun _ => ?_))) | refine WL_nil ?_ | refine WC_seq ?_ | refine WC_block ?_ | refine WC_cond_t (ht := ?_) | refine WC_cond_f (he := ?_) | refine WC_skip ?_ | refine WC_ret ?_ | refine WC_exit ?_ | refine WC_region ?_)
    refine ⟨rfl, _, _, Res1 rfl (resV_tmp rfl), .cons_cons _ (.cons _ (.refl _)), b', 0, cap', cur', ?_, rfl, ?_⟩
    · rw [List.length_append]; rfl
    · rw [List.length_append, List.map_append]; exact ho
  · refine Fn_enter Tryd.func13 rfl Tryd.ntmps13 rfl fun g => ?_
    repeat (first | ((first | refine WL_Q ?_); (first | refine QW_of (Qt_lenB rfl) ?_ | refine QW_of (Qt_move rfl) ?_ | refine QW_of (Qt_lenSl rfl) ?_ | refine QW_of (Qt_assign rfl) ?_ | refine QW_of (Qt_sliceL rfl) ?_ | refine QW_of (Qt_slTo rfl) ?_ | refine QW_of (Qt_slLHM rfl) ?_)) | ((first | refine WL_op rfl ?_); (first | refine OW_build1 rfl (hk := fun _ => ?_))) | refine WL_nil ?_ | refine WC_seq ?_ | refine WC_block ?_ | refine WC_cond_t (ht := ?_) | refine WC_cond_f (he := ?_) | refine WC_skip ?_ | refine WC_ret ?_ | refine WC_exit ?_ | refine WC_region ?_)
    simp only [Int.toNat_natCast]
    refine WL_op rfl (OW_append_new rfl rfl rfl rfl rfl (olds := bs.map bV) (m := 1) (news := [bV 1]) (Vec.cons _ (hb'.shrink (Nat.le_refl _))) (srcVec ⟨rfl, _, _, rfl, Nat.le_refl _, by decide, .inr ⟨_, _, _, _, _, 0, rfl, rfl, fun j x hx => by cases j <;> simp_all [bV]⟩⟩ (by simp [bV, Value.oneCell'])) (by omega) (by simp only [maxLen]; omega) (by omega) fun b' cap' cur' ho => ?_)
    repeat (first | ((first | refine WL_Q ?_); (first | refine QW_of (Qt_lenB rfl) ?_ | refine QW_of (Qt_move rfl) ?_ | refine QW_of (Qt_lenSl rfl) ?_ | refine QW_of (Qt_assign rfl) ?_ | refine QW_of (Qt_sliceL rfl) ?_ | refine QW_of (Qt_slTo rfl) ?_ | refine QW_of (Qt_slLHM rfl) ?_)) | ((first | refine WL_op rfl ?_); (first | refine OW_build1 rfl (hk := fun _ => ?_))) | refine WL_nil ?_ | refine WC_seq ?_ | refine WC_block ?_ | refine WC_cond_t (ht := ?_) | refine WC_cond_f (he := ?_) | refine WC_skip ?_ | refine WC_ret ?_ | refine WC_exit ?_ | refine WC_region ?_)
    refine ⟨rfl, _, _, Res1 rfl (resV_tmp rfl), .cons_cons _ (.cons _ (.refl _)), b', 0, cap', cur', ?_, rfl, ?_⟩
    · rw [List.length_append]; rfl
    · rw [List.length_append, List.map_append]; exact ho

set_option maxHeartbeats 1000000 in
theorem PText_fn {v : Value} {bs l : List UInt8} {L : List (Nat × Obj)} (hb : ByAt L v bs) (hlen : bs.length ≤ 1000000) (hl : l.length ≤ 1000000) :
    Fn Tryd.prog 15 [v, .string (bstr l)] L (fun r L' => LaidAt r L L' (bs ++ enc l.length ++ l)) := by
  have hlen' : bs.length ≤ 1000000000 := by omega
  have h0 : 0 ≤ IntKind.u64.wrap (l.length : Int) := by rw [wU64_mod]; omega
  have h1 : IntKind.u64.wrap (l.length : Int) < 18446744073709551616 := by rw [wU64_mod]; omega
  refine Fn_enter Tryd.func15 rfl Tryd.ntmps15 rfl fun g => ?_
  repeat (first | ((first | refine WL_Q ?_); (first | refine QW_of (Qt_lenB rfl) ?_ | refine QW_of (Qt_move rfl) ?_ | refine QW_of (Qt_assign rfl) ?_ | refine QW_of (Qt_lenSl rfl) ?_ | refine QW_of (Qt_convInt rfl) ?_)) | ((first | refine WL_op rfl ?_); (first | (refine OW_call rfl (hF := P_fn' (by with_reducible assumption) (by first | with_reducible assumption | omega) (by first | with_reducible assumption | omega) (by with_reducible assumption)) (hk := ?_); rintro _ _ ⟨b1, off1, cap1, cur1, rfl, rfl, ho1⟩))) | refine WL_nil ?_ | refine WC_seq ?_ | refine WC_block ?_ | refine WC_cond_t (ht := ?_) | refine WC_cond_f (he := ?_) | refine WC_skip ?_ | refine WC_ret ?_ | refine WC_exit ?_ | refine WC_region ?_)
  have hw : IntKind.u64.wrap (l.length : Int) = l.length := wU64 (by omega) (by omega)
  rw [hw, Int.toNat_natCast] at ho1
  rw [hw, Int.toNat_natCast]
  have he : (enc l.length).length ≤ 10 := enc_len (by omega)
  refine WL_op rfl (OW_append_own rfl rfl rfl rfl rfl 0 rfl ho1 srcStr (by simp only [maxLen, List.length_append]; omega) (by simp only [List.length_append]; omega) fun b' off' cap' cur' ho => ?_)
  repeat (first | ((first | refine WL_Q ?_); (first | refine QW_of (Qt_lenB rfl) ?_ | refine QW_of (Qt_move rfl) ?_ | refine QW_of (Qt_assign rfl) ?_ | refine QW_of (Qt_lenSl rfl) ?_ | refine QW_of (Qt_convInt rfl) ?_)) | ((first | refine WL_op rfl ?_); (first | (refine OW_call rfl (hF := P_fn' (by with_reducible assumption) (by first | with_reducible assumption | omega) (by first | with_reducible assumption | omega) (by with_reducible assumption)) (hk := ?_); rintro _ _ ⟨b1, off1, cap1, cur1, rfl, rfl, ho1⟩))) | refine WL_nil ?_ | refine WC_seq ?_ | refine WC_block ?_ | refine WC_cond_t (ht := ?_) | refine WC_cond_f (he := ?_) | refine WC_skip ?_ | refine WC_ret ?_ | refine WC_exit ?_ | refine WC_region ?_)
  refine ⟨rfl, _, _, Res1 rfl (resV_tmp rfl), .refl _, b', off', cap', cur', ?_, rfl, ?_⟩
  · simp only [List.length_append]
  · simp only [List.length_append, List.map_append] at ho ⊢; exact ho

/-! ### the document's -/
theorem encH_or (n : Nat) : (encH n).map (· ||| 128) = encH n := by
  induction n using Nat.strongRecOn with
  | _ n ih =>
    by_cases h : n = 0
    · subst h; rw [encH_zero]; rfl
    · rw [encH_pos h, List.map_append, ih (n / 128) (by omega)]
      congr 1
      simp only [List.map_cons, List.map_nil, List.cons.injEq, and_true]
      have : ∀ d : Fin 128, UInt8.ofNat (d.val + 128) ||| 128 = UInt8.ofNat (d.val + 128) := by decide
      exact this ⟨n % 128, Nat.mod_lt _ (by decide)⟩
theorem enc_or {n : Nat} (h : n ≠ 0) : (enc n).map (· ||| 128) = encH n := by
  rw [encH_pos h, enc, List.map_append, encH_or]
  congr 1
  simp only [List.map_cons, List.map_nil, List.cons.injEq, and_true]
  have : ∀ d : Fin 128, UInt8.ofNat d.val ||| 128 = UInt8.ofNat (d.val + 128) := by decide
  exact this ⟨n % 128, Nat.mod_lt _ (by decide)⟩
theorem or_byte (u : UInt8) : UInt8.ofNat (IntKind.u8.wrap ((BitVec.ofInt IntKind.u8.bits (u.toNat : Int) ||| BitVec.ofInt IntKind.u8.bits 128).toNat : Int)).toNat = u ||| 128 := by
  have : ∀ d : Fin 256, UInt8.ofNat (IntKind.u8.wrap ((BitVec.ofInt IntKind.u8.bits (d.val : Int) ||| BitVec.ofInt IntKind.u8.bits 128).toNat : Int)).toNat = UInt8.ofNat d.val ||| 128 := by decide +kernel
  have h := this ⟨u.toNat, u.toNat_lt⟩
  simpa using h

set_option maxHeartbeats 1000000 in
theorem Num_fn (n : Nat) : ∀ (L : List (Nat × Obj)), n < 18446744073709551616 →
    Fn Tryd.prog 11 [.int .u64 n] L (fun r L' => r = .string (bstr (enc n)) ∧ L' = L) := by
  induction n using Nat.strongRecOn with
  | _ n ih =>
    intro L hn
    refine Fn_enter Tryd.func11 rfl Tryd.ntmps11 rfl fun g => ?_
    by_cases h : n < 128
    · have d1 : decide ((n : Int) < 128) = true := decide_eq_true (by omega)
      repeat (first | ((first | refine WL_Q ?_); (first | refine QW_of (Qt_cat rfl) ?_ | refine QW_of (Qt_lenB rfl) ?_ | refine QW_of (Qt_indexB rfl) ?_ | refine QW_of (Qt_move rfl) ?_ | refine QW_of (Qt_assign rfl) ?_ | refine QW_of (Qt_bin rfl) ?_ | refine QW_of (Qt_str1 rfl) ?_ | refine QW_of (Qt_str rfl (hv := own_by0 (by with_reducible assumption))) ?_ | refine QW_of (Qt_str rfl) ?_ | refine QW_of (Qt_convInt rfl) ?_ | refine QW_of (Qt_quo rfl) ?_ | refine QW_of (Qt_lenSl rfl) ?_ | refine QW_of (Qt_or rfl) ?_ | refine QW_of (Qt_rem rfl) ?_)) | ((first | refine WL_op rfl ?_); (first | refine OW_build1 rfl (hk := fun _ => ?_))) | refine WL_nil ?_ | refine WC_seq ?_ | refine WC_block ?_ | refine WC_cond_t (ht := ?_) | refine WC_cond_f (he := ?_) | refine WC_skip ?_ | refine WC_ret ?_ | refine WC_exit ?_ | refine WC_region ?_)
      refine ⟨rfl, _, _, Res1 rfl (resV_tmp rfl), .cons _ (.refl _), ?_, rfl⟩
      have e : enc n = [UInt8.ofNat n] := by rw [enc, show n / 128 = 0 by omega, encH_zero, show n % 128 = n by omega]; rfl
      rw [e, wU8 (by omega) (by omega)]; rfl
    · have d1 : decide ((n : Int) < 128) = false := decide_eq_false (by omega)
      have hq : (n : Int).tdiv 128 = ((n / 128 : Nat) : Int) := by rw [Int.tdiv_eq_ediv_of_nonneg (by omega)]; omega
      have hw : IntKind.u64.wrap ((n : Int).tdiv 128) = ((n / 128 : Nat) : Int) := by rw [hq, wU64 (by omega) (by omega)]
      repeat (first | ((first | refine WL_Q ?_); (first | refine QW_of (Qt_cat rfl) ?_ | refine QW_of (Qt_lenB rfl) ?_ | refine QW_of (Qt_indexB rfl) ?_ | refine QW_of (Qt_move rfl) ?_ | refine QW_of (Qt_assign rfl) ?_ | refine QW_of (Qt_bin rfl) ?_ | refine QW_of (Qt_str1 rfl) ?_ | refine QW_of (Qt_str rfl (hv := own_by0 (by with_reducible assumption))) ?_ | refine QW_of (Qt_str rfl) ?_ | refine QW_of (Qt_convInt rfl) ?_ | refine QW_of (Qt_quo rfl) ?_ | refine QW_of (Qt_lenSl rfl) ?_ | refine QW_of (Qt_or rfl) ?_ | refine QW_of (Qt_rem rfl) ?_)) | ((first | refine WL_op rfl ?_); (first | refine OW_build1 rfl (hk := fun _ => ?_))) | refine WL_nil ?_ | refine WC_seq ?_ | refine WC_block ?_ | refine WC_cond_t (ht := ?_) | refine WC_cond_f (he := ?_) | refine WC_skip ?_ | refine WC_ret ?_ | refine WC_exit ?_ | refine WC_region ?_)
      rw [hw]
      refine WL_op rfl (OW_callP rfl rfl rfl rfl (ih (n / 128) (by omega) _ (by omega)) ?_); repeat (first | ((first | refine WL_Q ?_); (first | refine QW_of (Qt_cat rfl) ?_ | refine QW_of (Qt_lenB rfl) ?_ | refine QW_of (Qt_indexB rfl) ?_ | refine QW_of (Qt_move rfl) ?_ | refine QW_of (Qt_assign rfl) ?_ | refine QW_of (Qt_bin rfl) ?_ | refine QW_of (Qt_str1 rfl) ?_ | refine QW_of (Qt_str rfl (hv := own_by0 (by with_reducible assumption))) ?_ | refine QW_of (Qt_str rfl) ?_ | refine QW_of (Qt_convInt rfl) ?_ | refine QW_of (Qt_quo rfl) ?_ | refine QW_of (Qt_lenSl rfl) ?_ | refine QW_of (Qt_or rfl) ?_ | refine QW_of (Qt_rem rfl) ?_)) | ((first | refine WL_op rfl ?_); (first | refine OW_build1 rfl (hk := fun _ => ?_))) | refine WL_nil ?_ | refine WC_seq ?_ | refine WC_block ?_ | refine WC_cond_t (ht := ?_) | refine WC_cond_f (he := ?_) | refine WC_skip ?_ | refine WC_ret ?_ | refine WC_exit ?_ | refine WC_region ?_)
      have hm0 : n / 128 ≠ 0 := by omega
      have hlen := enc_len (n := n / 128) (by omega)
      have hor := enc_or hm0
      refine WC_wk [(5, .int .i64 0), (4, .string (bstr [])), (3, .string (bstr (enc (n / 128)))), (0, .int .u64 n)] ⟨rfl, rfl, rfl, rfl, trivial⟩ ?_
      refine WC_loop (fun m σ => ∃ (i : Nat), m = (enc (n / 128)).length - i ∧ i ≤ (enc (n / 128)).length ∧ σ = ⟨[(5, .int .i64 (i : Int)), (4, .string (bstr (((enc (n / 128)).take i).map (· ||| 128)))), (3, .string (bstr (enc (n / 128)))), (0, .int .u64 n)], [], L⟩) (enc (n / 128)).length ⟨0, by omega, by omega, rfl⟩ ?_
      rintro m σ ⟨i, rfl, hi, rfl⟩
      by_cases hlt : i < (enc (n / 128)).length
      · have d2 : decide ((i : Int) < ((enc (n / 128)).length : Int)) = true := decide_eq_true (by omega)
        obtain ⟨u, hu⟩ : ∃ u, (enc (n / 128))[i]? = some u := ⟨_, List.getElem?_eq_getElem hlt⟩
        have hu' : (enc (n / 128))[((i : Nat) : Int).toNat]? = some u := by rw [Int.toNat_natCast]; exact hu
        have hl2 : (((enc (n / 128)).take i).map (· ||| 128)).length = i := by simp; omega
        have hw1 : IntKind.i64.wrap ((i : Int) + 1) = ((i + 1 : Nat) : Int) := by rw [wI64 (by omega) (by omega)]; simp
        repeat (first | ((first | refine WL_Q ?_); (first | refine QW_of (Qt_cat rfl) ?_ | refine QW_of (Qt_lenB rfl) ?_ | refine QW_of (Qt_indexB rfl) ?_ | refine QW_of (Qt_move rfl) ?_ | refine QW_of (Qt_assign rfl) ?_ | refine QW_of (Qt_bin rfl) ?_ | refine QW_of (Qt_str1 rfl) ?_ | refine QW_of (Qt_str rfl (hv := own_by0 (by with_reducible assumption))) ?_ | refine QW_of (Qt_str rfl) ?_ | refine QW_of (Qt_convInt rfl) ?_ | refine QW_of (Qt_quo rfl) ?_ | refine QW_of (Qt_lenSl rfl) ?_ | refine QW_of (Qt_or rfl) ?_ | refine QW_of (Qt_rem rfl) ?_)) | ((first | refine WL_op rfl ?_); (first | refine OW_build1 rfl (hk := fun _ => ?_))) | refine WL_nil ?_ | refine WC_seq ?_ | refine WC_block ?_ | refine WC_cond_t (ht := ?_) | refine WC_cond_f (he := ?_) | refine WC_skip ?_ | refine WC_ret ?_ | refine WC_exit ?_ | refine WC_region ?_)
        rw [hw1, or_byte]
        refine ⟨_, _, by omega, ⟨i + 1, rfl, by omega, rfl⟩, ⟨rfl, ?_, rfl, rfl, trivial⟩, rfl, .cons _ (.refl _)⟩
        show some _ = some _
        rw [List.take_add_one, hu, List.map_append]
        rfl
      · have d2 : decide ((i : Int) < ((enc (n / 128)).length : Int)) = false := decide_eq_false (by omega)
        have hii : i = (enc (n / 128)).length := by omega
        subst hii
        repeat (first | ((first | refine WL_Q ?_); (first | refine QW_of (Qt_cat rfl) ?_ | refine QW_of (Qt_lenB rfl) ?_ | refine QW_of (Qt_indexB rfl) ?_ | refine QW_of (Qt_move rfl) ?_ | refine QW_of (Qt_assign rfl) ?_ | refine QW_of (Qt_bin rfl) ?_ | refine QW_of (Qt_str1 rfl) ?_ | refine QW_of (Qt_str rfl (hv := own_by0 (by with_reducible assumption))) ?_ | refine QW_of (Qt_str rfl) ?_ | refine QW_of (Qt_convInt rfl) ?_ | refine QW_of (Qt_quo rfl) ?_ | refine QW_of (Qt_lenSl rfl) ?_ | refine QW_of (Qt_or rfl) ?_ | refine QW_of (Qt_rem rfl) ?_)) | ((first | refine WL_op rfl ?_); (first | refine OW_build1 rfl (hk := fun _ => ?_))) | refine WL_nil ?_ | refine WC_seq ?_ | refine WC_block ?_ | refine WC_cond_t (ht := ?_) | refine WC_cond_f (he := ?_) | refine WC_skip ?_ | refine WC_ret ?_ | refine WC_exit ?_ | refine WC_region ?_)
        rw [List.take_length, hor, dig_eq]
        refine ⟨rfl, _, _, Res1 rfl (resV_tmp rfl), .cons _ (.refl _), ?_, rfl⟩
        rw [Int.toNat_natCast, UInt8.ofNat_toNat]
        rfl

theorem Num_fn' {x : Int} {L : List (Nat × Obj)} (h0 : 0 ≤ x) (h1 : x < 18446744073709551616) : Fn Tryd.prog 11 [.int .u64 x] L (fun r L' => r = .string (bstr (enc x.toNat)) ∧ L' = L) := by
  have := Num_fn x.toNat L (by omega)
  rwa [show ((x.toNat : Nat) : Int) = x by omega] at this


set_option maxHeartbeats 1000000 in
theorem Int_fn {x : Int} {L : List (Nat × Obj)} (h0 : -9223372036854775808 ≤ x) (h1 : x < 9223372036854775808) : Fn Tryd.prog 12 [.int .i64 x] L (fun r L' => r = .string (bstr (enc (zz x))) ∧ L' = L) := by
  refine Fn_enter Tryd.func12 rfl Tryd.ntmps12 rfl fun g => ?_
  by_cases hx : 0 ≤ x
  · have d1 : decide (x ≥ 0) = true := decide_eq_true hx
    have e : IntKind.u64.wrap (2 * IntKind.u64.wrap x) = ((zz x : Nat) : Int) := by
      rw [wU64 hx (by omega), wU64 (by omega) (by omega)]; unfold zz; rw [if_pos hx]; omega
    have := zz_lt h0 h1
    have b0 : 0 ≤ IntKind.u64.wrap (2 * IntKind.u64.wrap x) := by omega
    have b1 : IntKind.u64.wrap (2 * IntKind.u64.wrap x) < 18446744073709551616 := by omega
    repeat (first | ((first | refine WL_Q ?_); (first | refine QW_of (Qt_bin rfl) ?_ | refine QW_of (Qt_assign rfl) ?_ | refine QW_of (Qt_move rfl) ?_ | refine QW_of (Qt_convInt rfl) ?_ | refine QW_of (Qt_neg rfl) ?_)) | ((first | refine WL_op rfl ?_); (first | refine OW_callP rfl (hF := Num_fn' (by with_reducible assumption) (by with_reducible assumption)) (hk := ?_))) | refine WL_nil ?_ | refine WC_seq ?_ | refine WC_block ?_ | refine WC_cond_t (ht := ?_) | refine WC_cond_f (he := ?_) | refine WC_skip ?_ | refine WC_ret ?_ | refine WC_exit ?_ | refine WC_region ?_)
    rw [e, Int.toNat_natCast]
    exact ⟨rfl, _, _, Res1 rfl (resV_tmp rfl), .refl _, rfl, rfl⟩
  · have d1 : decide (x ≥ 0) = false := decide_eq_false hx
    have e : IntKind.u64.wrap (IntKind.u64.wrap (2 * IntKind.u64.wrap (IntKind.i64.wrap (0 - IntKind.i64.wrap (x + 1)))) + 1) = ((zz x : Nat) : Int) := by
      rw [wI64 (x := x + 1) (by omega) (by omega), wI64 (by omega) (by omega), wU64 (x := 0 - (x + 1)) (by omega) (by omega), wU64 (x := 2 * _) (by omega) (by omega), wU64 (by omega) (by omega)]; unfold zz; rw [if_neg hx]; omega
    have := zz_lt h0 h1
    have b0 : 0 ≤ IntKind.u64.wrap (IntKind.u64.wrap (2 * IntKind.u64.wrap (IntKind.i64.wrap (0 - IntKind.i64.wrap (x + 1)))) + 1) := by omega
    have b1 : IntKind.u64.wrap (IntKind.u64.wrap (2 * IntKind.u64.wrap (IntKind.i64.wrap (0 - IntKind.i64.wrap (x + 1)))) + 1) < 18446744073709551616 := by omega
    repeat (first | ((first | refine WL_Q ?_); (first | refine QW_of (Qt_bin rfl) ?_ | refine QW_of (Qt_assign rfl) ?_ | refine QW_of (Qt_move rfl) ?_ | refine QW_of (Qt_convInt rfl) ?_ | refine QW_of (Qt_neg rfl) ?_)) | ((first | refine WL_op rfl ?_); (first | refine OW_callP rfl (hF := Num_fn' (by with_reducible assumption) (by with_reducible assumption)) (hk := ?_))) | refine WL_nil ?_ | refine WC_seq ?_ | refine WC_block ?_ | refine WC_cond_t (ht := ?_) | refine WC_cond_f (he := ?_) | refine WC_skip ?_ | refine WC_ret ?_ | refine WC_exit ?_ | refine WC_region ?_)
    rw [e, Int.toNat_natCast]
    exact ⟨rfl, _, _, Res1 rfl (resV_tmp rfl), .refl _, rfl, rfl⟩
theorem Truth_fn {x : Bool} {L : List (Nat × Obj)} : Fn Tryd.prog 14 [.bool x] L (fun r L' => r = .string (bstr (encB x)) ∧ L' = L) := by
  cases x
  · refine Fn_enter Tryd.func14 rfl Tryd.ntmps14 rfl fun g => ?_
    repeat (first | ((first | refine WL_Q ?_); (first | refine QW_of (Qt_assign rfl) ?_ | refine QW_of (Qt_move rfl) ?_)) | refine WL_nil ?_ | refine WC_seq ?_ | refine WC_block ?_ | refine WC_cond_t (ht := ?_) | refine WC_cond_f (he := ?_) | refine WC_skip ?_ | refine WC_ret ?_ | refine WC_exit ?_ | refine WC_region ?_)
    exact ⟨rfl, _, _, Res1 rfl (resV_tmp rfl), .refl _, rfl, rfl⟩
  · refine Fn_enter Tryd.func14 rfl Tryd.ntmps14 rfl fun g => ?_
    repeat (first | ((first | refine WL_Q ?_); (first | refine QW_of (Qt_assign rfl) ?_ | refine QW_of (Qt_move rfl) ?_)) | refine WL_nil ?_ | refine WC_seq ?_ | refine WC_block ?_ | refine WC_cond_t (ht := ?_) | refine WC_cond_f (he := ?_) | refine WC_skip ?_ | refine WC_ret ?_ | refine WC_exit ?_ | refine WC_region ?_)
    exact ⟨rfl, _, _, Res1 rfl (resV_tmp rfl), .refl _, rfl, rfl⟩
theorem Text_fn {l : List UInt8} {L : List (Nat × Obj)} (hl : l.length ≤ 1000000000) : Fn Tryd.prog 16 [.string (bstr l)] L (fun r L' => r = .string (bstr (enc l.length ++ l)) ∧ L' = L) := by
  have e : IntKind.u64.wrap (l.length : Int) = l.length := wU64 (by omega) (by omega)
  have b0 : 0 ≤ IntKind.u64.wrap (l.length : Int) := by omega
  have b1 : IntKind.u64.wrap (l.length : Int) < 18446744073709551616 := by omega
  have b2 : (enc (IntKind.u64.wrap (l.length : Int)).toNat).length + l.length ≤ 4611686018427387904 := by
    have := enc_len (n := (IntKind.u64.wrap (l.length : Int)).toNat) (by omega)
    omega
  refine Fn_enter Tryd.func16 rfl Tryd.ntmps16 rfl fun g => ?_
  repeat (first | ((first | refine WL_Q ?_); (first | refine QW_of (Qt_lenB rfl) ?_ | refine QW_of (Qt_cat rfl) ?_ | refine QW_of (Qt_assign rfl) ?_ | refine QW_of (Qt_move rfl) ?_ | refine QW_of (Qt_lenSl rfl) ?_ | refine QW_of (Qt_convInt rfl) ?_)) | ((first | refine WL_op rfl ?_); (first | refine OW_callP rfl (hF := Num_fn' (by with_reducible assumption) (by with_reducible assumption)) (hk := ?_))) | refine WL_nil ?_ | refine WC_seq ?_ | refine WC_block ?_ | refine WC_cond_t (ht := ?_) | refine WC_cond_f (he := ?_) | refine WC_skip ?_ | refine WC_ret ?_ | refine WC_exit ?_ | refine WC_region ?_)
  rw [e, Int.toNat_natCast]
  exact ⟨rfl, _, _, Res1 rfl (resV_tmp rfl), .refl _, rfl, rfl⟩
end Go.Proofs.YtcnbecdpfildnaaDoor
