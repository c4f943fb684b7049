/-
  A part of what the last of these texts needs; by itself it proves no statement.
-/
import Derived.Test.YtdiaogcogkapgaaGreatDoorRows
import Derived.WalkKit
import Derived.LaidEql
import Derived.Stop.Asserts
import Derived.RowKitTokens
import Derived.Test.YtdiaogcogkapgaaGreatDoorKC6
namespace Go.Proofs.YtdiaogcogkapgaaGreatDoor
open Go.RowKit
attribute [local irreducible] Fn WC WL WR OW Qt YieldFn QW
def encH (n : Nat) : List UInt8 := if n = 0 then [] else encH (n / 128) ++ [UInt8.ofNat (n % 128 + 128)]
def enc (n : Nat) : List UInt8 := encH (n / 128) ++ [UInt8.ofNat (n % 128)]
theorem encH_zero : encH 0 = [] := by unfold encH; rfl
theorem encH_pos {n : Nat} (h : n ≠ 0) : encH n = encH (n / 128) ++ [UInt8.ofNat (n % 128 + 128)] := by rw [encH, if_neg h]
theorem dig_eq (m : Nat) : IntKind.u8.wrap ((m : Int).tmod 128) = ((UInt8.ofNat (m % 128)).toNat : Int) := by
  rw [Int.tmod_eq_emod_of_nonneg (by omega), wU8_mod]
  simp only [UInt8.toNat_ofNat']
  omega
theorem or_dig : ∀ d : Fin 128, (BitVec.ofInt 8 (d.val : Int) ||| BitVec.ofInt 8 128).toNat = d.val + 128 := by decide
theorem dig_more (m : Nat) : IntKind.u8.wrap (((BitVec.ofInt IntKind.u8.bits (IntKind.u8.wrap ((m : Int).tmod 128)) ||| BitVec.ofInt IntKind.u8.bits 128).toNat : Nat) : Int) = ((UInt8.ofNat (m % 128 + 128)).toNat : Int) := by
  have h : IntKind.u8.wrap ((m : Int).tmod 128) = ((m % 128 : Nat) : Int) := by
    rw [Int.tmod_eq_emod_of_nonneg (by omega), wU8_mod]; omega
  rw [h, show IntKind.u8.bits = 8 from rfl]
  have := or_dig ⟨m % 128, Nat.mod_lt _ (by decide)⟩
  simp only at this
  rw [this, wU8_mod]
  simp only [UInt8.toNat_ofNat']
  omega
theorem shr7 (m : Nat) : (m : Int).fdiv (2 ^ min (Int.toNat 7) IntKind.u64.bits) = ((m / 128 : Nat) : Int) := by
  rw [show min (Int.toNat 7) IntKind.u64.bits = 7 from rfl, Int.fdiv_eq_ediv_of_nonneg _ (by decide)]
  omega
theorem encH_len : ∀ (k n : Nat), n < 128 ^ k → (encH n).length ≤ k
  | 0, n, h => by simp at h; subst h; rw [encH_zero]; simp
  | k + 1, n, h => by
    by_cases h0 : n = 0
    · subst h0; rw [encH_zero]; simp
    · rw [encH_pos h0]
      have := encH_len k (n / 128) (by rw [Nat.pow_succ] at h; omega)
      simp; omega
theorem enc_len {n : Nat} (h : n < 18446744073709551616) : (enc n).length ≤ 10 := by
  have := encH_len 9 (n / 128) (by show n / 128 < 9223372036854775808; omega)
  simp [enc]; omega
theorem enc_pos (n : Nat) : 0 < (enc n).length := by simp [enc]
def LaidAt (v : Value) (L L' : List (Nat × Obj)) (l : List UInt8) : Prop :=
  ∃ g off cap cur, v = .slice (some ⟨g, off, none⟩) l.length cap ∧ L' = (g, .cells cur 5 (0, 0)) :: L ∧ Own 1 cur off cap l.length (l.map bV)
theorem bV_one (l : List UInt8) : ∀ u ∈ l.map bV, u.oneCell' = true := fun u hu => by
  obtain ⟨_, _, rfl⟩ := List.mem_map.1 hu
  rfl
set_option maxHeartbeats 1000000 in
theorem P_fn {v : Value} {bs : List UInt8} {n : Nat} {L : List (Nat × Obj)} (hb : ByAt L v bs) (hn : n < 18446744073709551616) (hlen : bs.length ≤ 1000000000) :
    Fn Tryz.prog 53 [v, .int .u64 n] L (fun r L' => LaidAt r L L' (bs ++ enc n)) := by
  have hb' := hb
  obtain ⟨_, a, cap, rfl, hc1, hc2, _⟩ := hb
  refine Fn_enter Tryz.func53 rfl Tryz.ntmps53 rfl fun g => ?_
  repeat (first | (refine RX ?_; (first | refine QW_of (Qt_lenB rfl) ?_ | refine QW_of (Qt_move rfl) ?_ | refine QW_of (Qt_assign rfl) ?_ | refine QW_of (Qt_rem rfl) ?_ | refine QW_of (Qt_convInt rfl) ?_ | refine QW_of (Qt_indexArr0 rfl) ?_ | refine QW_of (Qt_indexSl0 rfl) ?_ | refine QW_of (Qt_indexArr rfl) ?_ | refine QW_of (Qt_indexSl rfl) ?_ | refine QW_of (Qt_shr rfl) ?_ | refine QW_of (Qt_bin rfl) ?_ | refine QW_of (Qt_lenSl rfl) ?_ | refine QW_of (Qt_or rfl) ?_ | refine QW_of (Qt_sliceL rfl) ?_ | refine QW_of (Qt_slTo rfl) ?_ | refine QW_of (Qt_slLHM rfl) ?_ | refine QW_of (Qt_arrFrom rfl) ?_)) | ((first | refine WL_op rfl ?_ | refine WR_late rfl rfl rfl ?_); (first | refine OW_st1 rfl ?_ | refine OW_alloc rfl (hk := fun _ => ?_))) | refine WL_nil ?_ | refine WR_nil ?_ | refine WC_seq ?_ | refine WC_block ?_ | refine WC_cond_t (ht := ?_) | refine WC_cond_f (he := ?_) | refine WC_skip ?_ | refine WC_ret ?_ | refine WC_exit ?_ | refine WC_draw_all (id := 9) 10 (.calm 0 <| .calm 1 <| .calm 2 <| .calm 3 <| .calm 4 <| .calm 5 <| .calm 6 <| .calm 7 <| .must 8 <| .calm 9 <| .done) mixed (by kernel_rfl) ?_ | refine WC_region ?_ | ((refine WR_opG rfl rfl ?_); (first | refine OW_st1 rfl ?_ | refine OW_alloc rfl (hk := fun _ => ?_)); refine ⟨(by first | exact fun _ h => h | exact fun _ h => List.Sublist.subset (by repeat (first | exact .refl _ | exact List.nil_sublist _ | exact List.sublist_append_right _ _ | exact List.Sublist.append (.refl _) (List.sublist_append_right _ _) | apply List.Sublist.cons_cons | apply List.Sublist.cons)) h), ?_⟩))
  rename_i o
  refine WC_wk [(5, .pointer (some ⟨o, 0, none⟩)), (6, .int .i64 9), (1, .int .u64 ((n : Int).fdiv (2 ^ min (Int.toNat 7) IntKind.u64.bits))), (0, .slice a bs.length cap)] ⟨rfl, rfl, rfl, rfl, trivial⟩ ?_
  rw [dig_eq, shr7]
  refine WC_loop (fun m σ => ∃ (k : Nat) (ys : List UInt8) (cs : Array Value), m = k ∧ enc n = encH k ++ ys ∧ k < 128 ^ (10 - ys.length) ∧ ys.length ≤ 10 ∧ cs.size = 10 ∧ 1 ≤ ys.length ∧ (∀ j u, ys[j]? = some u → cs[10 - ys.length + j]? = some (bV u)) ∧ σ = ⟨[(5, .pointer (some ⟨o, 0, none⟩)), (6, .int .i64 ((10 - ys.length : Nat) : Int)), (1, .int .u64 (k : Int)), (0, .slice a bs.length cap)], [], (o, .cells cs 148 (0, 0)) :: L⟩) (n / 128) ?_ ?_
  · refine ⟨n / 128, [UInt8.ofNat (n % 128)], _, rfl, rfl, ?_, by simp, by rfl, by simp, ?_, rfl⟩
    · show n / 128 < 128 ^ 9
      omega
    · intro j u hu
      cases j with
      | zero => cases hu; rfl
      | succ j => simp at hu
  · rintro k σ ⟨_, ys, cs, rfl, he, hk, hy, hcs, hy1, hat, rfl⟩
    by_cases h0 : k = 0
    · subst h0
      have d1 : decide (((0 : Nat) : Int) > 0) = false := by decide
      rw [encH_zero, List.nil_append] at he
      subst he
      have hown : Own 1 cs (slOff 10 (10 - (enc n).length) 0 1) (enc n).length (enc n).length ((enc n).map bV) := by
        refine ⟨by simp, Nat.le_refl _, by simp only [maxLen]; omega, ?_, fun j x hx => ?_⟩
        · unfold slOff; rw [if_neg (by omega)]; omega
        · rw [List.getElem?_map] at hx
          obtain ⟨u, hu, rfl⟩ := Option.map_eq_some_iff.1 hx
          unfold slOff; rw [if_neg (by omega), Nat.zero_add, Nat.mul_one]
          exact hat j u hu
      repeat (first | (refine RX ?_; (first | refine QW_of (Qt_lenB rfl) ?_ | refine QW_of (Qt_move rfl) ?_ | refine QW_of (Qt_assign rfl) ?_ | refine QW_of (Qt_rem rfl) ?_ | refine QW_of (Qt_convInt rfl) ?_ | refine QW_of (Qt_indexArr0 rfl) ?_ | refine QW_of (Qt_indexSl0 rfl) ?_ | refine QW_of (Qt_indexArr rfl) ?_ | refine QW_of (Qt_indexSl rfl) ?_ | refine QW_of (Qt_shr rfl) ?_ | refine QW_of (Qt_bin rfl) ?_ | refine QW_of (Qt_lenSl rfl) ?_ | refine QW_of (Qt_or rfl) ?_ | refine QW_of (Qt_sliceL rfl) ?_ | refine QW_of (Qt_slTo rfl) ?_ | refine QW_of (Qt_slLHM rfl) ?_ | refine QW_of (Qt_arrFrom rfl) ?_)) | ((first | refine WL_op rfl ?_ | refine WR_late rfl rfl rfl ?_); (first | refine OW_st1 rfl ?_ | refine OW_alloc rfl (hk := fun _ => ?_))) | refine WL_nil ?_ | refine WR_nil ?_ | refine WC_seq ?_ | refine WC_block ?_ | refine WC_cond_t (ht := ?_) | refine WC_cond_f (he := ?_) | refine WC_skip ?_ | refine WC_ret ?_ | refine WC_exit ?_ | refine WC_draw_all (id := 9) 10 (.calm 0 <| .calm 1 <| .calm 2 <| .calm 3 <| .calm 4 <| .calm 5 <| .calm 6 <| .calm 7 <| .must 8 <| .calm 9 <| .done) mixed (by kernel_rfl) ?_ | refine WC_region ?_ | ((refine WR_opG rfl rfl ?_); (first | refine OW_st1 rfl ?_ | refine OW_alloc rfl (hk := fun _ => ?_)); refine ⟨(by first | exact fun _ h => h | exact fun _ h => List.Sublist.subset (by repeat (first | exact .refl _ | exact List.nil_sublist _ | exact List.sublist_append_right _ _ | exact List.Sublist.append (.refl _) (List.sublist_append_right _ _) | apply List.Sublist.cons_cons | apply List.Sublist.cons)) h), ?_⟩))
      have e1 : (((10 - (enc n).length : Nat) : Int)).toNat = 10 - (enc n).length := by omega
      have e2 : (10 - (10 - (enc n).length)) = (enc n).length := by omega
      simp only [e1, e2, Int.toNat_natCast]
      refine WR_op rfl rfl (OW_append_new rfl rfl rfl rfl rfl (olds := bs.map bV) (news := (enc n).map bV) (Vec.cons _ (hb'.shrink (Nat.le_refl _))) (srcVec (hown.vec 0 rfl) (bV_one _)) (by omega) (by simp only [maxLen]; omega) (by omega) fun b' cap' cur' ho => ?_)
      refine ⟨(by first | exact fun _ h => h | exact fun _ h => List.Sublist.subset (by repeat (first | exact .refl _ | exact List.nil_sublist _ | exact List.sublist_append_right _ _ | exact List.Sublist.append (.refl _) (List.sublist_append_right _ _) | apply List.Sublist.cons_cons | apply List.Sublist.cons)) h), ?_⟩
      repeat (first | (refine RX ?_; (first | refine QW_of (Qt_lenB rfl) ?_ | refine QW_of (Qt_move rfl) ?_ | refine QW_of (Qt_assign rfl) ?_ | refine QW_of (Qt_rem rfl) ?_ | refine QW_of (Qt_convInt rfl) ?_ | refine QW_of (Qt_indexArr0 rfl) ?_ | refine QW_of (Qt_indexSl0 rfl) ?_ | refine QW_of (Qt_indexArr rfl) ?_ | refine QW_of (Qt_indexSl rfl) ?_ | refine QW_of (Qt_shr rfl) ?_ | refine QW_of (Qt_bin rfl) ?_ | refine QW_of (Qt_lenSl rfl) ?_ | refine QW_of (Qt_or rfl) ?_ | refine QW_of (Qt_sliceL rfl) ?_ | refine QW_of (Qt_slTo rfl) ?_ | refine QW_of (Qt_slLHM rfl) ?_ | refine QW_of (Qt_arrFrom rfl) ?_)) | ((first | refine WL_op rfl ?_ | refine WR_late rfl rfl rfl ?_); (first | refine OW_st1 rfl ?_ | refine OW_alloc rfl (hk := fun _ => ?_))) | refine WL_nil ?_ | refine WR_nil ?_ | refine WC_seq ?_ | refine WC_block ?_ | refine WC_cond_t (ht := ?_) | refine WC_cond_f (he := ?_) | refine WC_skip ?_ | refine WC_ret ?_ | refine WC_exit ?_ | refine WC_draw_all (id := 9) 10 (.calm 0 <| .calm 1 <| .calm 2 <| .calm 3 <| .calm 4 <| .calm 5 <| .calm 6 <| .calm 7 <| .must 8 <| .calm 9 <| .done) mixed (by kernel_rfl) ?_ | refine WC_region ?_ | ((refine WR_opG rfl rfl ?_); (first | refine OW_st1 rfl ?_ | refine OW_alloc rfl (hk := fun _ => ?_)); refine ⟨(by first | exact fun _ h => h | exact fun _ h => List.Sublist.subset (by repeat (first | exact .refl _ | exact List.nil_sublist _ | exact List.sublist_append_right _ _ | exact List.Sublist.append (.refl _) (List.sublist_append_right _ _) | apply List.Sublist.cons_cons | apply List.Sublist.cons)) h), ?_⟩))
      refine ⟨rfl, _, _, Res1 rfl (resV_tmp rfl), .cons_cons _ (.cons _ (.refl _)), b', 0, cap', cur', ?_, rfl, ?_⟩
      · rw [List.length_append]
      · rw [List.length_append, List.map_append]; exact ho
    · have hk0 : decide (((k : Nat) : Int) > 0) = true := decide_eq_true (by omega)
      have h10 : ys.length < 10 := by
        rcases Nat.lt_or_ge ys.length 10 with h | h
        · exact h
        · rw [show 10 - ys.length = 0 by omega] at hk; simp at hk; omega
      have ew : IntKind.i64.wrap (((10 - ys.length : Nat) : Int) - 1) = ((10 - (ys.length + 1) : Nat) : Int) := by rw [wI64 (by omega) (by omega)]; omega
      repeat (first | (refine RX ?_; (first | refine QW_of (Qt_lenB rfl) ?_ | refine QW_of (Qt_move rfl) ?_ | refine QW_of (Qt_assign rfl) ?_ | refine QW_of (Qt_rem rfl) ?_ | refine QW_of (Qt_convInt rfl) ?_ | refine QW_of (Qt_indexArr0 rfl) ?_ | refine QW_of (Qt_indexSl0 rfl) ?_ | refine QW_of (Qt_indexArr rfl) ?_ | refine QW_of (Qt_indexSl rfl) ?_ | refine QW_of (Qt_shr rfl) ?_ | refine QW_of (Qt_bin rfl) ?_ | refine QW_of (Qt_lenSl rfl) ?_ | refine QW_of (Qt_or rfl) ?_ | refine QW_of (Qt_sliceL rfl) ?_ | refine QW_of (Qt_slTo rfl) ?_ | refine QW_of (Qt_slLHM rfl) ?_ | refine QW_of (Qt_arrFrom rfl) ?_)) | ((first | refine WL_op rfl ?_ | refine WR_late rfl rfl rfl ?_); (first | refine OW_st1 rfl ?_ | refine OW_alloc rfl (hk := fun _ => ?_))) | refine WL_nil ?_ | refine WR_nil ?_ | refine WC_seq ?_ | refine WC_block ?_ | refine WC_cond_t (ht := ?_) | refine WC_cond_f (he := ?_) | refine WC_skip ?_ | refine WC_ret ?_ | refine WC_exit ?_ | refine WC_draw_all (id := 9) 10 (.calm 0 <| .calm 1 <| .calm 2 <| .calm 3 <| .calm 4 <| .calm 5 <| .calm 6 <| .calm 7 <| .must 8 <| .calm 9 <| .done) mixed (by kernel_rfl) ?_ | refine WC_region ?_ | ((refine WR_opG rfl rfl ?_); (first | refine OW_st1 rfl ?_ | refine OW_alloc rfl (hk := fun _ => ?_)); refine ⟨(by first | exact fun _ h => h | exact fun _ h => List.Sublist.subset (by repeat (first | exact .refl _ | exact List.nil_sublist _ | exact List.sublist_append_right _ _ | exact List.Sublist.append (.refl _) (List.sublist_append_right _ _) | apply List.Sublist.cons_cons | apply List.Sublist.cons)) h), ?_⟩))
      rw [shr7, dig_more, ew]
      simp only [Int.toNat_natCast, Nat.mul_one]
      refine ⟨k / 128, _, by omega, ⟨k / 128, UInt8.ofNat (k % 128 + 128) :: ys, _, rfl, ?_, ?_, ?_, ?_, ?_, ?_, rfl⟩, ⟨rfl, rfl, rfl, rfl, trivial⟩, rfl, .refl _⟩
      · rw [he, encH_pos h0]; simp
      · have e3 : 10 - ys.length = (10 - (ys.length + 1)) + 1 := by omega
        rw [e3, Nat.pow_succ] at hk
        show k / 128 < 128 ^ (10 - (ys.length + 1))
        omega
      · simp only [List.length_cons]; omega
      · simpa using hcs
      · simp
      · intro j u hu
        simp only [List.length_cons]
        cases j with
        | zero =>
          simp only [List.getElem?_cons_zero, Option.some.injEq] at hu; subst hu
          show (cs.setIfInBounds (10 - (ys.length + 1)) _)[10 - (ys.length + 1)]? = _
          rw [Array.getElem?_setIfInBounds_self_of_lt (by omega)]; rfl
        | succ j =>
          rw [Array.getElem?_setIfInBounds_ne (by omega)]
          have := hat j u (by simpa using hu)
          rw [show 10 - (ys.length + 1) + (j + 1) = 10 - ys.length + j by omega]; exact this
theorem P_fn' {v : Value} {bs : List UInt8} {x : Int} {L : List (Nat × Obj)} (hb : ByAt L v bs) (h0 : 0 ≤ x) (h1 : x < 18446744073709551616) (hlen : bs.length ≤ 1000000000) :
    Fn Tryz.prog 53 [v, .int .u64 x] L (fun r L' => LaidAt r L L' (bs ++ enc x.toNat)) := by
  have := P_fn (L := L) (n := x.toNat) hb (by omega) hlen
  rwa [show ((x.toNat : Nat) : Int) = x by omega] at this
def zz (x : Int) : Nat := if 0 ≤ x then (2 * x).toNat else (-2 * x - 1).toNat
theorem zz_lt {x : Int} (h0 : -9223372036854775808 ≤ x) (h1 : x < 9223372036854775808) : zz x < 18446744073709551616 := by
  unfold zz; split <;> omega
theorem zz_bits {x : Int} (h0 : -9223372036854775808 ≤ x) (h1 : x < 9223372036854775808) :
    IntKind.u64.wrap ((BitVec.ofInt IntKind.u64.bits (IntKind.u64.wrap (IntKind.u64.wrap x * 2 ^ min (Int.toNat 1) IntKind.u64.bits)) ^^^ BitVec.ofInt IntKind.u64.bits (IntKind.u64.wrap (x.fdiv (2 ^ min (Int.toNat 63) IntKind.i64.bits)))).toNat : Int) = (zz x : Int) := by
  rw [show min (Int.toNat 1) IntKind.u64.bits = 1 from rfl, show min (Int.toNat 63) IntKind.i64.bits = 63 from rfl, show IntKind.u64.bits = 64 from rfl, Int.fdiv_eq_ediv_of_nonneg _ (by decide)]
  by_cases hx : 0 ≤ x
  · have e1 : x / 2 ^ 63 = 0 := by omega
    have e2 : IntKind.u64.wrap (IntKind.u64.wrap x * 2 ^ 1) = 2 * x := by
      rw [wU64 hx (by omega), wU64 (by omega) (by omega)]; omega
    rw [e1, e2, show IntKind.u64.wrap 0 = 0 by decide, show BitVec.ofInt 64 0 = 0#64 from rfl, BitVec.xor_zero, BitVec.toNat_ofInt, wU64_mod]
    unfold zz; rw [if_pos hx]; omega
  · have e1 : x / 2 ^ 63 = -1 := by omega
    have e2 : IntKind.u64.wrap (IntKind.u64.wrap x * 2 ^ 1) = 2 * x + 18446744073709551616 := by
      rw [wU64_mod, wU64_mod]; omega
    rw [e1, e2, wU64_mod (-1)]
    rw [show BitVec.ofInt 64 (-1 % 18446744073709551616) = BitVec.allOnes 64 by decide, BitVec.xor_allOnes, BitVec.toNat_not, BitVec.toNat_ofInt, wU64_mod]
    unfold zz; rw [if_neg hx]; omega
set_option maxHeartbeats 1000000 in
theorem PI_fn {v : Value} {bs : List UInt8} {x : Int} {L : List (Nat × Obj)} (hb : ByAt L v bs) (h0 : -9223372036854775808 ≤ x) (h1 : x < 9223372036854775808) (hlen : bs.length ≤ 1000000000) :
    Fn Tryz.prog 175 [v, .int .i64 x] L (fun r L' => LaidAt r L L' (bs ++ enc (zz x))) := by
  have hz := zz_bits h0 h1
  have hz0 : 0 ≤ IntKind.u64.wrap ((BitVec.ofInt IntKind.u64.bits (IntKind.u64.wrap (IntKind.u64.wrap x * 2 ^ min (Int.toNat 1) IntKind.u64.bits)) ^^^ BitVec.ofInt IntKind.u64.bits (IntKind.u64.wrap (x.fdiv (2 ^ min (Int.toNat 63) IntKind.i64.bits)))).toNat : Int) := by omega
  have hz1 : IntKind.u64.wrap ((BitVec.ofInt IntKind.u64.bits (IntKind.u64.wrap (IntKind.u64.wrap x * 2 ^ min (Int.toNat 1) IntKind.u64.bits)) ^^^ BitVec.ofInt IntKind.u64.bits (IntKind.u64.wrap (x.fdiv (2 ^ min (Int.toNat 63) IntKind.i64.bits)))).toNat : Int) < 18446744073709551616 := by have := zz_lt h0 h1; omega
  refine Fn_enter Tryz.func175 rfl Tryz.ntmps175 rfl fun g => ?_
  repeat (first | (refine WL_Q ?_; (first | refine QW_of (Qt_move rfl) ?_ | refine QW_of (Qt_assign rfl) ?_ | refine QW_of (Qt_convInt rfl) ?_ | refine QW_of (Qt_shl rfl) ?_ | refine QW_of (Qt_shr rfl) ?_ | refine QW_of (Qt_xor rfl) ?_)) | (refine WL_op rfl ?_; (first | (refine OW_call rfl (hF := P_fn' (by with_reducible assumption) (by first | with_reducible assumption | omega) (by first | with_reducible assumption | omega) (by with_reducible assumption)) (hk := ?_); rintro _ _ ⟨b1, off1, cap1, cur1, rfl, rfl, ho1⟩))) | refine WL_nil ?_ | refine WC_seq ?_ | refine WC_ret ?_ | refine WC_region ?_)
  rw [hz, Int.toNat_natCast] at ho1
  refine ⟨rfl, _, _, Res1 rfl (resV_tmp rfl), .refl _, b1, off1, cap1, cur1, ?_, rfl, ho1⟩
  rw [hz, Int.toNat_natCast]
def encB (b : Bool) : List UInt8 := if b then [1] else [0]
set_option maxHeartbeats 1000000 in
theorem PBool_fn {v : Value} {bs : List UInt8} {x : Bool} {L : List (Nat × Obj)} (hb : ByAt L v bs) (hlen : bs.length ≤ 1000000000) :
    Fn Tryz.prog 54 [v, .bool x] L (fun r L' => LaidAt r L L' (bs ++ encB x)) := by
  have hb' := hb
  obtain ⟨_, a, cap, rfl, hc1, hc2, _⟩ := hb
  cases x
  · refine Fn_enter Tryz.func54 rfl Tryz.ntmps54 rfl fun g => ?_
    repeat (first | (refine WL_Q ?_; (first | refine QW_of (Qt_lenB rfl) ?_ | refine QW_of (Qt_move rfl) ?_ | refine QW_of (Qt_lenSl rfl) ?_ | refine QW_of (Qt_assign rfl) ?_ | refine QW_of (Qt_sliceL rfl) ?_ | refine QW_of (Qt_slTo rfl) ?_ | refine QW_of (Qt_slLHM rfl) ?_)) | (refine WL_op rfl ?_; (first | refine OW_build1 rfl (hk := fun _ => ?_))) | refine WL_nil ?_ | refine WC_seq ?_ | refine WC_cond_t (ht := ?_) | refine WC_cond_f (he := ?_) | refine WC_skip ?_ | refine WC_ret ?_ | refine WC_region ?_)
    simp only [Int.toNat_natCast]
    refine WL_op rfl (OW_append_new rfl rfl rfl rfl rfl (olds := bs.map bV) (m := 1) (news := [bV 0]) (Vec.cons _ (hb'.shrink (Nat.le_refl _))) (srcVec ⟨rfl, _, _, rfl, Nat.le_refl _, by decide, .inr ⟨_, _, _, _, _, 0, rfl, rfl, fun j x hx => by cases j <;> simp_all [bV]⟩⟩ (by simp [bV, Value.oneCell'])) (by omega) (by simp only [maxLen]; omega) (by omega) fun b' cap' cur' ho => ?_)
    repeat (first | (refine WL_Q ?_; (first | refine QW_of (Qt_lenB rfl) ?_ | refine QW_of (Qt_move rfl) ?_ | refine QW_of (Qt_lenSl rfl) ?_ | refine QW_of (Qt_assign rfl) ?_ | refine QW_of (Qt_sliceL rfl) ?_ | refine QW_of (Qt_slTo rfl) ?_ | refine QW_of (Qt_slLHM rfl) ?_)) | (refine WL_op rfl ?_; (first | refine OW_build1 rfl (hk := fun _ => ?_))) | refine WL_nil ?_ | refine WC_seq ?_ | refine WC_cond_t (ht := ?_) | refine WC_cond_f (he := ?_) | refine WC_skip ?_ | refine WC_ret ?_ | refine WC_region ?_)
    refine ⟨rfl, _, _, Res1 rfl (resV_tmp rfl), .cons_cons _ (.cons _ (.refl _)), b', 0, cap', cur', ?_, rfl, ?_⟩
    · rw [List.length_append]; rfl
    · rw [List.length_append, List.map_append]; exact ho
  · refine Fn_enter Tryz.func54 rfl Tryz.ntmps54 rfl fun g => ?_
    repeat (first | (refine WL_Q ?_; (first | refine QW_of (Qt_lenB rfl) ?_ | refine QW_of (Qt_move rfl) ?_ | refine QW_of (Qt_lenSl rfl) ?_ | refine QW_of (Qt_assign rfl) ?_ | refine QW_of (Qt_sliceL rfl) ?_ | refine QW_of (Qt_slTo rfl) ?_ | refine QW_of (Qt_slLHM rfl) ?_)) | (refine WL_op rfl ?_; (first | refine OW_build1 rfl (hk := fun _ => ?_))) | refine WL_nil ?_ | refine WC_seq ?_ | refine WC_cond_t (ht := ?_) | refine WC_cond_f (he := ?_) | refine WC_skip ?_ | refine WC_ret ?_ | refine WC_region ?_)
    simp only [Int.toNat_natCast]
    refine WL_op rfl (OW_append_new rfl rfl rfl rfl rfl (olds := bs.map bV) (m := 1) (news := [bV 1]) (Vec.cons _ (hb'.shrink (Nat.le_refl _))) (srcVec ⟨rfl, _, _, rfl, Nat.le_refl _, by decide, .inr ⟨_, _, _, _, _, 0, rfl, rfl, fun j x hx => by cases j <;> simp_all [bV]⟩⟩ (by simp [bV, Value.oneCell'])) (by omega) (by simp only [maxLen]; omega) (by omega) fun b' cap' cur' ho => ?_)
    repeat (first | (refine WL_Q ?_; (first | refine QW_of (Qt_lenB rfl) ?_ | refine QW_of (Qt_move rfl) ?_ | refine QW_of (Qt_lenSl rfl) ?_ | refine QW_of (Qt_assign rfl) ?_ | refine QW_of (Qt_sliceL rfl) ?_ | refine QW_of (Qt_slTo rfl) ?_ | refine QW_of (Qt_slLHM rfl) ?_)) | (refine WL_op rfl ?_; (first | refine OW_build1 rfl (hk := fun _ => ?_))) | refine WL_nil ?_ | refine WC_seq ?_ | refine WC_cond_t (ht := ?_) | refine WC_cond_f (he := ?_) | refine WC_skip ?_ | refine WC_ret ?_ | refine WC_region ?_)
    refine ⟨rfl, _, _, Res1 rfl (resV_tmp rfl), .cons_cons _ (.cons _ (.refl _)), b', 0, cap', cur', ?_, rfl, ?_⟩
    · rw [List.length_append]; rfl
    · rw [List.length_append, List.map_append]; exact ho
end Go.Proofs.YtdiaogcogkapgaaGreatDoor
namespace Go.Proofs.YtdiaogcogkapgaaGreatDoor
open Go.RowKit
attribute [local irreducible] Fn WC WL WR OW Qt YieldFn QW FnP FnD
def cont (l : List UInt8) (at_ : Nat) : Nat := ((l.drop at_).takeWhile fun u => 128 ≤ u.toNat).length
theorem cont_lt {l : List UInt8} {a j : Nat} (h : j < cont l a) : ∃ u, l[a + j]? = some u ∧ 128 ≤ u.toNat := by
  unfold cont at h
  rw [← List.getElem?_drop]
  generalize l.drop a = m at h
  induction m generalizing j with
  | nil => simp at h
  | cons x r ih =>
    by_cases hx : 128 ≤ x.toNat
    · rw [List.takeWhile_cons_of_pos (by simpa using hx)] at h
      cases j with
      | zero => exact ⟨x, rfl, hx⟩
      | succ j => exact ih (by simpa using h)
    · rw [List.takeWhile_cons_of_neg (by simpa using hx)] at h
      simp at h
theorem cont_end {l : List UInt8} {a : Nat} {u : UInt8} (h : l[a + cont l a]? = some u) : u.toNat < 128 := by
  unfold cont at h
  rw [← List.getElem?_drop] at h
  generalize l.drop a = m at h
  induction m with
  | nil => simp at h
  | cons x r ih =>
    by_cases hx : 128 ≤ x.toNat
    · rw [List.takeWhile_cons_of_pos (by simpa using hx)] at h
      simp only [List.length_cons, List.getElem?_cons_succ] at h
      exact ih h
    · rw [List.takeWhile_cons_of_neg (by simpa using hx)] at h
      simp at h; subst h; omega
theorem cont_le {l : List UInt8} {a : Nat} (h : a ≤ l.length) : a + cont l a ≤ l.length := by
  have := (List.takeWhile_prefix (fun u : UInt8 => decide (128 ≤ u.toNat)) (l := l.drop a)).length_le
  unfold cont
  rw [List.length_drop] at this
  omega
def val (xs : List UInt8) : Nat := xs.foldl (fun n u => (n * 128 + u.toNat % 128) % 18446744073709551616) 0
theorem val_lt (xs : List UInt8) : val xs < 18446744073709551616 := by
  unfold val
  rcases List.eq_nil_or_concat xs with rfl | ⟨ys, u, rfl⟩
  · decide
  · rw [List.concat_eq_append, List.foldl_append]; simp only [List.foldl_cons, List.foldl_nil]; omega
theorem val_snoc (xs : List UInt8) (u : UInt8) : val (xs ++ [u]) = (val xs * 128 + u.toNat % 128) % 18446744073709551616 := by
  unfold val; rw [List.foldl_append]; rfl
def uCode (l : List UInt8) (a : Nat) : Nat :=
  if l.length ≤ a + cont l a then 3 else if l[a]? = some 128 then 5 else if cont l a + 1 < 10 ∨ (cont l a + 1 = 10 ∧ l[a]? = some 129) then 0 else 4
def uVal (l : List UInt8) (a : Nat) : Nat := val ((l.drop a).take (cont l a + 1))
def uNext (l : List UInt8) (a : Nat) : Nat := a + cont l a + 1
abbrev rdO (l : List UInt8) (a : Nat) : Obj := .cells #[.string (bstr l), .int .i64 a] 216 (0, 0)
abbrev fltO (code : Nat) (a : Nat) : Obj := .cells #[.int .i64 code, .int .i64 a] 157 (0, 0)
abbrev flt (p : Nat) : Value := .iface 174 (.pointer (some ⟨p, 0, none⟩))
theorem new_rd {l : List UInt8} {L : List (Nat × Obj)} : Fn Tryz.prog 84 [.string (bstr l)] L (fun v L' => ∃ r, v = .pointer (some ⟨r, 0, none⟩) ∧ L' = (r, rdO l 0) :: L) := by
  refine Fn_enter Tryz.func84 rfl Tryz.ntmps84 rfl fun g => ?_
  repeat (first | refine RQ ?_ | (refine RE ?_; try intro _) | refine RC ?_ | refine WC_region ?_)
  exact ⟨rfl, _, _, Res1 rfl (resV_tmp rfl), .refl _, _, rfl, rfl⟩
theorem place_rd {l : List UInt8} {a r : Nat} (F : List (Nat × Obj)) : Fn Tryz.prog 109 [.pointer (some ⟨r, 0, none⟩)] ((r, rdO l a) :: F) (fun v L' => v = .int .i64 a ∧ L' = (r, rdO l a) :: F) := by
  refine Fn_enter Tryz.func109 rfl Tryz.ntmps109 rfl fun g => ?_
  repeat (first | refine RQ ?_ | refine RC ?_ | refine WC_region ?_)
  exact ⟨rfl, _, _, Res1 rfl (resV_tmp rfl), .refl _, rfl, rfl⟩
theorem begin_rd {r : Nat} {L : List (Nat × Obj)} : Fn Tryz.prog 112 [.pointer (some ⟨r, 0, none⟩)] L (fun v L' => v = .pointer (some ⟨r, 0, none⟩) ∧ L' = L) := by
  refine Fn_enter Tryz.func112 rfl Tryz.ntmps112 rfl fun g => ?_
  repeat (first | refine RQ ?_ | (refine RE ?_; try intro _) | refine RC ?_ | refine WC_region ?_)
  exact ⟨rfl, _, _, Res1 rfl (resV_tmp rfl), .refl _, rfl, rfl⟩
theorem must_ok {v : Value} {code : Int} {b : Bool} (hb : b = true) {L : List (Nat × Obj)} : Fn Tryz.prog 113 [v, .bool b, .int .i64 code] L (fun v L' => v = .tuple #[] ∧ L' = L) := by
  subst hb
  refine Fn_enter Tryz.func113 rfl Tryz.ntmps113 rfl fun g => ?_
  repeat (first | refine RQ ?_ | (refine RE ?_; try intro _) | refine RC ?_ | refine WC_region ?_)
  exact ⟨rfl, _, _, Res0 rfl, .refl _, rfl, rfl⟩
def Flt (code a : Nat) (L : List (Nat × Obj)) (v : Value) (L' : List (Nat × Obj)) : Prop := ∃ p, v = flt p ∧ L' = (p, fltO code a) :: L
theorem must_no {l : List UInt8} {a r : Nat} {code : Nat} {b : Bool} (hb : b = false) (F : List (Nat × Obj)) : FnP Tryz.prog 113 [.pointer (some ⟨r, 0, none⟩), .bool b, .int .i64 code] ((r, rdO l a) :: F) (Flt code a ((r, rdO l a) :: F)) := by
  subst hb
  refine FnP_enter Tryz.func113 rfl Tryz.ntmps113 rfl fun g => ?_
  repeat (first | refine RQ ?_ | (refine RE ?_; try intro _) | refine RC ?_ | refine WC_region ?_)
  refine WL_op rfl (OW_panic (σ := ⟨_, _, _⟩) rfl rfl ?_)
  exact ⟨_, rfl, _, rfl, rfl⟩
theorem told_ret {cb : Nat} {L : List (Nat × Obj)} : FnD Tryz.prog 111 [.pointer (some ⟨cb, 0, none⟩)] L .returning (fun u' L' => u' = .returning ∧ L' = L) := by
  refine FnD_recover (rv := .nilIface) (u' := .returning) Tryz.func111 rfl Tryz.ntmps111 rfl rfl rfl rfl ⟨rfl, rfl⟩ fun g n => ⟨_, ⟨_, rfl, rfl, Qt_assign rfl, rfl⟩, ?_⟩
  show WC _ _ _ ⟨[(2, .nilIface), (5, .nilIface), (0, .pointer (some ⟨cb, 0, none⟩))], [], L⟩
  repeat (first | refine RQ ?_ | (refine RE ?_; try intro _) | refine RC ?_ | refine WC_region ?_)
  exact ⟨rfl, _, _, Res0 rfl, .refl _, rfl, rfl⟩
theorem or_val (n d : Nat) (hd : d < 128) : IntKind.u64.wrap (((BitVec.ofInt IntKind.u64.bits (IntKind.u64.wrap ((n : Int) * 2 ^ min (Int.toNat 7) IntKind.u64.bits)) ||| BitVec.ofInt IntKind.u64.bits (d : Int)).toNat : Nat) : Int) = (((n * 128 + d) % 18446744073709551616 : Nat) : Int) := by
  rw [show min (Int.toNat 7) IntKind.u64.bits = 7 from rfl, show IntKind.u64.bits = 64 from rfl, wU64_mod, wU64_mod]
  have e1 : ((n : Int) * (2 : Int) ^ 7) % (18446744073709551616 : Int) = (((n % 144115188075855872) <<< 7 : Nat) : Int) := by rw [Nat.shiftLeft_eq]; omega
  have e2 : (BitVec.ofInt 64 ((((n % 144115188075855872) <<< 7 : Nat) : Int)) ||| BitVec.ofInt 64 (d : Int)).toNat = (n % 144115188075855872) <<< 7 + d := by
    rw [BitVec.toNat_or, BitVec.toNat_ofInt, BitVec.toNat_ofInt, Nat.shiftLeft_add_eq_or_of_lt (show d < 2 ^ 7 by omega)]
    have h1 : ((((n % 144115188075855872) <<< 7 : Nat) : Int) % ((2 ^ 64 : Nat) : Int)).toNat = (n % 144115188075855872) <<< 7 := by rw [Nat.shiftLeft_eq]; omega
    have h2 : ((d : Int) % ((2 ^ 64 : Nat) : Int)).toNat = d := by omega
    rw [h1, h2]
  rw [e1, e2, Nat.shiftLeft_eq]
  omega
theorem dig_u64 (u : UInt8) : IntKind.u64.wrap ((u.toNat : Int).tmod 128) = ((u.toNat % 128 : Nat) : Int) := by
  have := u.toNat_lt
  rw [Int.tmod_eq_emod_of_nonneg (by omega), wU64 (by omega) (by omega)]; omega
set_option maxHeartbeats 4000000 in
theorem number_all {l : List UInt8} {a r : Nat} (ha : a ≤ l.length) (hl : l.length ≤ 1000000000) (F : List (Nat × Obj)) : ∀ g w, Mem g ((r, rdO l a) :: F) w → Calls Tryz.prog 114 [.pointer (some ⟨r, 0, none⟩)].toArray w
    (EndR g (fun v L' => uCode l a = 0 ∧ v = .tuple #[.int .u64 (uVal l a), .int .i64 (uNext l a)] ∧ L' = (r, rdO l a) :: F) (fun v L' => uCode l a ≠ 0 ∧ Flt (uCode l a) a ((r, rdO l a) :: F) v L')) := by
  refine enterL Tryz.func114 rfl Tryz.ntmps114 rfl fun g => ?_
  repeat (first | refine RQr ?_ | ((first | refine WL_op rfl ?_ | refine WL_yes (h := ?_) | refine WR_late rfl rfl rfl ?_ | refine WR_opG rfl rfl ?_ | refine WR_opYG rfl (h := ?_)); (first | refine OW_callP rfl (hF := must_ok (by first | with_reducible assumption | rfl)) (hk := ?_)); try refine SD ?_) | refine RC ?_ | refine RU ?_ | refine WC_draw_all (id := 5) 12 (.calm 0 <| .calm 1 <| .calm 2 <| .calm 3 <| .calm 4 <| .calm 5 <| .calm 6 <| .calm 7 <| .calm 8 <| .calm 9 <| .calm 10 <| .must 11 <| .done) mixed (by kernel_rfl) ?_ | refine WC_draw_all (id := 8) 20 (.calm 0 <| .calm 1 <| .calm 2 <| .calm 3 <| .calm 4 <| .calm 5 <| .calm 6 <| .calm 7 <| .calm 8 <| .calm 9 <| .calm 10 <| .calm 11 <| .calm 12 <| .calm 13 <| .calm 14 <| .calm 15 <| .calm 16 <| .calm 17 <| .calm 18 <| .must 19 <| .done) mixed (by kernel_rfl) ?_ | refine WC_draw_all (id := 9) 13 (.calm 0 <| .calm 1 <| .calm 2 <| .calm 3 <| .calm 4 <| .calm 5 <| .calm 6 <| .calm 7 <| .calm 8 <| .calm 9 <| .calm 12 <| .must 10 <| .calm 11 <| .done) mixed (by kernel_rfl) ?_ | refine WC_region ?_)
  refine WC_wk [(3, .int .i64 a), (2, .int .u64 0), (0, .pointer (some ⟨r, 0, none⟩))] ⟨rfl, rfl, rfl, trivial⟩ ?_
  have hcl := cont_le ha
  refine WC_loop (fun m σ => ∃ j : Nat, m = cont l a - j ∧ j ≤ cont l a ∧ σ = ⟨[(3, .int .i64 ((a + j : Nat) : Int)), (2, .int .u64 0), (0, .pointer (some ⟨r, 0, none⟩))], [], (r, rdO l a) :: F⟩) (cont l a) ⟨0, by omega, by omega, rfl⟩ ?_
  rintro m σ ⟨j, rfl, hj, rfl⟩
  by_cases hjc : j < cont l a
  · obtain ⟨u, hu, hu128⟩ := cont_lt hjc
    have hlt := (List.getElem?_eq_some_iff.1 hu).1
    have d1 : decide (((a + j : Nat) : Int) < (l.length : Int)) = true := decide_eq_true (by omega)
    have d2 : decide ((u.toNat : Int) ≥ 128) = true := decide_eq_true (by omega)
    have hu' : l[((a + j : Nat) : Int).toNat]? = some u := by rw [Int.toNat_natCast]; exact hu
    have hw : IntKind.i64.wrap (((a + j : Nat) : Int) + 1) = ((a + (j + 1) : Nat) : Int) := by rw [wI64 (by omega) (by omega)]; omega
    repeat (first | refine RQr ?_ | ((first | refine WL_op rfl ?_ | refine WL_yes (h := ?_) | refine WR_late rfl rfl rfl ?_ | refine WR_opG rfl rfl ?_ | refine WR_opYG rfl (h := ?_)); (first | refine OW_callP rfl (hF := must_ok (by first | with_reducible assumption | rfl)) (hk := ?_)); try refine SD ?_) | refine RC ?_ | refine RU ?_ | refine WC_draw_all (id := 5) 12 (.calm 0 <| .calm 1 <| .calm 2 <| .calm 3 <| .calm 4 <| .calm 5 <| .calm 6 <| .calm 7 <| .calm 8 <| .calm 9 <| .calm 10 <| .must 11 <| .done) mixed (by kernel_rfl) ?_ | refine WC_draw_all (id := 8) 20 (.calm 0 <| .calm 1 <| .calm 2 <| .calm 3 <| .calm 4 <| .calm 5 <| .calm 6 <| .calm 7 <| .calm 8 <| .calm 9 <| .calm 10 <| .calm 11 <| .calm 12 <| .calm 13 <| .calm 14 <| .calm 15 <| .calm 16 <| .calm 17 <| .calm 18 <| .must 19 <| .done) mixed (by kernel_rfl) ?_ | refine WC_draw_all (id := 9) 13 (.calm 0 <| .calm 1 <| .calm 2 <| .calm 3 <| .calm 4 <| .calm 5 <| .calm 6 <| .calm 7 <| .calm 8 <| .calm 9 <| .calm 12 <| .must 10 <| .calm 11 <| .done) mixed (by kernel_rfl) ?_ | refine WC_region ?_)
    rw [hw]
    exact ⟨_, _, by omega, ⟨j + 1, rfl, by omega, rfl⟩, ⟨rfl, rfl, rfl, trivial⟩, rfl, .refl _⟩
  · obtain rfl : j = cont l a := by omega
    by_cases hend : a + cont l a < l.length
    · obtain ⟨u, hu⟩ : ∃ u, l[a + cont l a]? = some u := ⟨_, List.getElem?_eq_getElem hend⟩
      have hu128 := cont_end hu
      have d1 : decide (((a + cont l a : Nat) : Int) < (l.length : Int)) = true := decide_eq_true (by omega)
      have d2 : decide ((u.toNat : Int) ≥ 128) = false := decide_eq_false (by omega)
      have hu' : l[((a + cont l a : Nat) : Int).toNat]? = some u := by rw [Int.toNat_natCast]; exact hu
      obtain ⟨x, hx⟩ : ∃ x, l[a]? = some x := ⟨_, List.getElem?_eq_getElem (show a < l.length by omega)⟩
      have hx' : l[((a : Nat) : Int).toNat]? = some x := by rw [Int.toNat_natCast]; exact hx
      by_cases h5 : x = 128
      · subst h5
        have d3 : (((128 : UInt8).toNat : Int) != 128) = false := by decide
        have hcode : uCode l a = 5 := by unfold uCode; rw [if_neg (by omega), if_pos hx]
        repeat (first | refine RQr ?_ | ((first | refine WL_op rfl ?_ | refine WL_yes (h := ?_) | refine WR_late rfl rfl rfl ?_ | refine WR_opG rfl rfl ?_ | refine WR_opYG rfl (h := ?_)); (first | refine OW_callP rfl (hF := must_ok (by first | with_reducible assumption | rfl)) (hk := ?_)); try refine SD ?_) | refine RC ?_ | refine RU ?_ | refine WC_draw_all (id := 5) 12 (.calm 0 <| .calm 1 <| .calm 2 <| .calm 3 <| .calm 4 <| .calm 5 <| .calm 6 <| .calm 7 <| .calm 8 <| .calm 9 <| .calm 10 <| .must 11 <| .done) mixed (by kernel_rfl) ?_ | refine WC_draw_all (id := 8) 20 (.calm 0 <| .calm 1 <| .calm 2 <| .calm 3 <| .calm 4 <| .calm 5 <| .calm 6 <| .calm 7 <| .calm 8 <| .calm 9 <| .calm 10 <| .calm 11 <| .calm 12 <| .calm 13 <| .calm 14 <| .calm 15 <| .calm 16 <| .calm 17 <| .calm 18 <| .must 19 <| .done) mixed (by kernel_rfl) ?_ | refine WC_draw_all (id := 9) 13 (.calm 0 <| .calm 1 <| .calm 2 <| .calm 3 <| .calm 4 <| .calm 5 <| .calm 6 <| .calm 7 <| .calm 8 <| .calm 9 <| .calm 12 <| .must 10 <| .calm 11 <| .done) mixed (by kernel_rfl) ?_ | refine WC_region ?_)
        refine WR_op rfl rfl (OW_pan rfl (must_no (l := l) (code := 5) d3 F) fun v L' h => ?_)
        exact ⟨v, rfl, by rw [hcode]; decide, by rw [hcode]; exact h⟩
      · have d3 : ((x.toNat : Int) != 128) = true := by
          simp only [bne_iff_ne, ne_eq]
          intro e
          exact h5 (UInt8.toNat_inj.1 (by simpa using (show x.toNat = 128 by omega)))
        have hw1 : IntKind.i64.wrap (((a + cont l a : Nat) : Int) + 1) = ((uNext l a : Nat) : Int) := by rw [wI64 (by omega) (by omega)]; unfold uNext; omega
        have hw2 : IntKind.i64.wrap (((uNext l a : Nat) : Int) - a) = ((cont l a + 1 : Nat) : Int) := by unfold uNext; rw [wI64 (by omega) (by omega)]; omega
        have hx5 : ¬ l[a]? = some 128 := by rw [hx]; simpa using h5
        repeat (first | refine RQr ?_ | ((first | refine WL_op rfl ?_ | refine WL_yes (h := ?_) | refine WR_late rfl rfl rfl ?_ | refine WR_opG rfl rfl ?_ | refine WR_opYG rfl (h := ?_)); (first | refine OW_callP rfl (hF := must_ok (by first | with_reducible assumption | rfl)) (hk := ?_)); try refine SD ?_) | refine RC ?_ | refine RU ?_ | refine WC_draw_all (id := 5) 12 (.calm 0 <| .calm 1 <| .calm 2 <| .calm 3 <| .calm 4 <| .calm 5 <| .calm 6 <| .calm 7 <| .calm 8 <| .calm 9 <| .calm 10 <| .must 11 <| .done) mixed (by kernel_rfl) ?_ | refine WC_draw_all (id := 9) 13 (.calm 0 <| .calm 1 <| .calm 2 <| .calm 3 <| .calm 4 <| .calm 5 <| .calm 6 <| .calm 7 <| .calm 8 <| .calm 9 <| .calm 12 <| .must 10 <| .calm 11 <| .done) mixed (by kernel_rfl) ?_ | refine WG 0 ?_ | refine WG 1 ?_ | refine WG 2 ?_ | refine WG 3 ?_ | refine WG 4 ?_ | refine WG 6 ?_ | refine WG 7 ?_ | refine WG 10 ?_ | refine WG 11 ?_ | refine WG 12 ?_ | refine WG 13 ?_ | refine WG 14 ?_)
        rw [hw1, hw2]
        refine WC_meet (fun σ => uCode l a = 0 ∧ σ = ⟨[(3, .int .i64 (uNext l a)), (2, .int .u64 0), (0, .pointer (some ⟨r, 0, none⟩))], [], (r, rdO l a) :: F⟩) ?_ ?_
        rotate_left
        · rintro σ ⟨hc, rfl⟩
          have hnx : uNext l a ≤ l.length := by unfold uNext; omega
          have hnx1 : (a : Int) ≤ (uNext l a : Nat) := by unfold uNext; omega
          have hnx2 : ((uNext l a : Nat) : Int) ≤ (l.length : Int) := by omega
          repeat (first | refine RQr ?_ | ((first | refine WL_op rfl ?_ | refine WL_yes (h := ?_) | refine WR_late rfl rfl rfl ?_ | refine WR_opG rfl rfl ?_ | refine WR_opYG rfl (h := ?_)); (first | refine OW_callP rfl (hF := must_ok (by first | with_reducible assumption | rfl)) (hk := ?_)); try refine SD ?_) | refine RC ?_ | refine RU ?_ | refine WC_draw_all (id := 5) 12 (.calm 0 <| .calm 1 <| .calm 2 <| .calm 3 <| .calm 4 <| .calm 5 <| .calm 6 <| .calm 7 <| .calm 8 <| .calm 9 <| .calm 10 <| .must 11 <| .done) mixed (by kernel_rfl) ?_ | refine WC_draw_all (id := 8) 20 (.calm 0 <| .calm 1 <| .calm 2 <| .calm 3 <| .calm 4 <| .calm 5 <| .calm 6 <| .calm 7 <| .calm 8 <| .calm 9 <| .calm 10 <| .calm 11 <| .calm 12 <| .calm 13 <| .calm 14 <| .calm 15 <| .calm 16 <| .calm 17 <| .calm 18 <| .must 19 <| .done) mixed (by kernel_rfl) ?_ | refine WC_draw_all (id := 9) 13 (.calm 0 <| .calm 1 <| .calm 2 <| .calm 3 <| .calm 4 <| .calm 5 <| .calm 6 <| .calm 7 <| .calm 8 <| .calm 9 <| .calm 12 <| .must 10 <| .calm 11 <| .done) mixed (by kernel_rfl) ?_ | refine WC_region ?_)
          simp only [Int.toNat_natCast]
          obtain ⟨xs, hxs⟩ : ∃ xs, xs = (l.take (uNext l a)).drop a := ⟨_, rfl⟩
          have hxs' : val xs = uVal l a := by
            unfold uVal; rw [hxs, List.drop_take]; unfold uNext; congr 2; omega
          have hxl : xs.length ≤ 1000000000 := by rw [hxs]; simp; omega
          rw [← hxs]
          refine WR_opG rfl rfl (OW_text rfl hxl fun b cap cs fr g1 g2 g3 => ?_)
          refine ⟨(by first | exact fun _ h => h | exact fun _ h => List.Sublist.subset (by repeat (first | exact .refl _ | exact List.nil_sublist _ | exact List.sublist_append_right _ _ | exact List.Sublist.append (.refl _) (List.sublist_append_right _ _) | apply List.Sublist.cons_cons | apply List.Sublist.cons)) h), ?_⟩
          repeat (first | refine RQr ?_ | ((first | refine WL_op rfl ?_ | refine WL_yes (h := ?_) | refine WR_late rfl rfl rfl ?_ | refine WR_opG rfl rfl ?_ | refine WR_opYG rfl (h := ?_)); (first | refine OW_callP rfl (hF := must_ok (by first | with_reducible assumption | rfl)) (hk := ?_)); try refine SD ?_) | refine RC ?_ | refine RU ?_ | refine WC_draw_all (id := 5) 12 (.calm 0 <| .calm 1 <| .calm 2 <| .calm 3 <| .calm 4 <| .calm 5 <| .calm 6 <| .calm 7 <| .calm 8 <| .calm 9 <| .calm 10 <| .must 11 <| .done) mixed (by kernel_rfl) ?_ | refine WC_draw_all (id := 8) 20 (.calm 0 <| .calm 1 <| .calm 2 <| .calm 3 <| .calm 4 <| .calm 5 <| .calm 6 <| .calm 7 <| .calm 8 <| .calm 9 <| .calm 10 <| .calm 11 <| .calm 12 <| .calm 13 <| .calm 14 <| .calm 15 <| .calm 16 <| .calm 17 <| .calm 18 <| .must 19 <| .done) mixed (by kernel_rfl) ?_ | refine WC_draw_all (id := 9) 13 (.calm 0 <| .calm 1 <| .calm 2 <| .calm 3 <| .calm 4 <| .calm 5 <| .calm 6 <| .calm 7 <| .calm 8 <| .calm 9 <| .calm 12 <| .must 10 <| .calm 11 <| .done) mixed (by kernel_rfl) ?_ | refine WC_region ?_)
          refine WC_wk [(90, .int .i64 0), (89, .int .i64 xs.length), (88, .slice (some ⟨b, 0, none⟩) xs.length cap), (2, .int .u64 0), (3, .int .i64 (uNext l a)), (0, .pointer (some ⟨r, 0, none⟩))] ⟨rfl, rfl, rfl, rfl, rfl, rfl, trivial⟩ ?_
          refine WC_loop (fun m σ => ∃ i : Nat, m = xs.length - i ∧ i ≤ xs.length ∧ σ = ⟨[(90, .int .i64 i), (89, .int .i64 xs.length), (88, .slice (some ⟨b, 0, none⟩) xs.length cap), (2, .int .u64 (val (xs.take i))), (3, .int .i64 (uNext l a)), (0, .pointer (some ⟨r, 0, none⟩))], [], (b, .cells cs 5 fr) :: (r, rdO l a) :: F⟩) xs.length ⟨0, by omega, by omega, rfl⟩ ?_
          rintro m σ ⟨i, rfl, hi, rfl⟩
          by_cases hlt : i < xs.length
          · have e1 : decide ((i : Int) < (xs.length : Int)) = true := decide_eq_true (by omega)
            obtain ⟨y, hy⟩ : ∃ y, xs[i]? = some y := ⟨_, List.getElem?_eq_getElem hlt⟩
            have hcell : cs[((i : Nat) : Int).toNat * 1]? = some (bV y) := by rw [Int.toNat_natCast, Nat.mul_one]; exact g3 i y hy
            have hw : IntKind.i64.wrap ((i : Int) + 1) = ((i + 1 : Nat) : Int) := by rw [wI64 (by omega) (by omega)]; omega
            repeat (first | refine RQr ?_ | ((first | refine WL_op rfl ?_ | refine WL_yes (h := ?_) | refine WR_late rfl rfl rfl ?_ | refine WR_opG rfl rfl ?_ | refine WR_opYG rfl (h := ?_)); (first | refine OW_callP rfl (hF := must_ok (by first | with_reducible assumption | rfl)) (hk := ?_)); try refine SD ?_) | refine RC ?_ | refine RU ?_ | refine WC_draw_all (id := 5) 12 (.calm 0 <| .calm 1 <| .calm 2 <| .calm 3 <| .calm 4 <| .calm 5 <| .calm 6 <| .calm 7 <| .calm 8 <| .calm 9 <| .calm 10 <| .must 11 <| .done) mixed (by kernel_rfl) ?_ | refine WC_draw_all (id := 8) 20 (.calm 0 <| .calm 1 <| .calm 2 <| .calm 3 <| .calm 4 <| .calm 5 <| .calm 6 <| .calm 7 <| .calm 8 <| .calm 9 <| .calm 10 <| .calm 11 <| .calm 12 <| .calm 13 <| .calm 14 <| .calm 15 <| .calm 16 <| .calm 17 <| .calm 18 <| .must 19 <| .done) mixed (by kernel_rfl) ?_ | refine WC_draw_all (id := 9) 13 (.calm 0 <| .calm 1 <| .calm 2 <| .calm 3 <| .calm 4 <| .calm 5 <| .calm 6 <| .calm 7 <| .calm 8 <| .calm 9 <| .calm 12 <| .must 10 <| .calm 11 <| .done) mixed (by kernel_rfl) ?_ | refine WC_region ?_)
            rw [hw, dig_u64, or_val _ _ (by omega)]
            refine ⟨_, _, by omega, ⟨i + 1, rfl, by omega, rfl⟩, ⟨rfl, rfl, rfl, ?_, rfl, rfl, trivial⟩, rfl, .refl _⟩
            show some _ = some _
            rw [List.take_add_one, hy]
            show _ = some (Value.int .u64 ((val (xs.take i ++ [y]) : Nat) : Int))
            rw [val_snoc]
          · have e1 : decide ((i : Int) < (xs.length : Int)) = false := decide_eq_false (by omega)
            obtain rfl : i = xs.length := by omega
            repeat (first | refine RQr ?_ | ((first | refine WL_op rfl ?_ | refine WL_yes (h := ?_) | refine WR_late rfl rfl rfl ?_ | refine WR_opG rfl rfl ?_ | refine WR_opYG rfl (h := ?_)); (first | refine OW_callP rfl (hF := must_ok (by first | with_reducible assumption | rfl)) (hk := ?_)); try refine SD ?_) | refine RC ?_ | refine RU ?_ | refine WC_draw_all (id := 5) 12 (.calm 0 <| .calm 1 <| .calm 2 <| .calm 3 <| .calm 4 <| .calm 5 <| .calm 6 <| .calm 7 <| .calm 8 <| .calm 9 <| .calm 10 <| .must 11 <| .done) mixed (by kernel_rfl) ?_ | refine WC_draw_all (id := 8) 20 (.calm 0 <| .calm 1 <| .calm 2 <| .calm 3 <| .calm 4 <| .calm 5 <| .calm 6 <| .calm 7 <| .calm 8 <| .calm 9 <| .calm 10 <| .calm 11 <| .calm 12 <| .calm 13 <| .calm 14 <| .calm 15 <| .calm 16 <| .calm 17 <| .calm 18 <| .must 19 <| .done) mixed (by kernel_rfl) ?_ | refine WC_draw_all (id := 9) 13 (.calm 0 <| .calm 1 <| .calm 2 <| .calm 3 <| .calm 4 <| .calm 5 <| .calm 6 <| .calm 7 <| .calm 8 <| .calm 9 <| .calm 12 <| .must 10 <| .calm 11 <| .done) mixed (by kernel_rfl) ?_ | refine WC_region ?_)
            refine ⟨_, _, Res2 rfl (resV_tmp rfl) (resV_tmp rfl), .cons _ (.refl _), hc, ?_, rfl⟩
            rw [List.take_length, hxs']
        by_cases hm10 : cont l a + 1 < 10
        · have d4 : decide (((cont l a + 1 : Nat) : Int) < 10) = true := decide_eq_true (by omega)
          have hcode : uCode l a = 0 := by unfold uCode; rw [if_neg (by omega), if_neg hx5, if_pos (.inl hm10)]
          repeat (first | refine RQr ?_ | ((first | refine WL_op rfl ?_ | refine WL_yes (h := ?_) | refine WR_late rfl rfl rfl ?_ | refine WR_opG rfl rfl ?_ | refine WR_opYG rfl (h := ?_)); (first | refine OW_callP rfl (hF := must_ok (by first | with_reducible assumption | rfl)) (hk := ?_)); try refine SD ?_) | refine RC ?_ | refine RU ?_ | refine WC_draw_all (id := 5) 12 (.calm 0 <| .calm 1 <| .calm 2 <| .calm 3 <| .calm 4 <| .calm 5 <| .calm 6 <| .calm 7 <| .calm 8 <| .calm 9 <| .calm 10 <| .must 11 <| .done) mixed (by kernel_rfl) ?_ | refine WC_draw_all (id := 8) 20 (.calm 0 <| .calm 1 <| .calm 2 <| .calm 3 <| .calm 4 <| .calm 5 <| .calm 6 <| .calm 7 <| .calm 8 <| .calm 9 <| .calm 10 <| .calm 11 <| .calm 12 <| .calm 13 <| .calm 14 <| .calm 15 <| .calm 16 <| .calm 17 <| .calm 18 <| .must 19 <| .done) mixed (by kernel_rfl) ?_ | refine WC_draw_all (id := 9) 13 (.calm 0 <| .calm 1 <| .calm 2 <| .calm 3 <| .calm 4 <| .calm 5 <| .calm 6 <| .calm 7 <| .calm 8 <| .calm 9 <| .calm 12 <| .must 10 <| .calm 11 <| .done) mixed (by kernel_rfl) ?_ | refine WC_region ?_)
          exact ⟨_, ⟨hcode, rfl⟩, ⟨rfl, rfl, rfl, trivial⟩, rfl, .refl _⟩
        · have d4 : decide (((cont l a + 1 : Nat) : Int) < 10) = false := decide_eq_false (by omega)
          by_cases hm : cont l a + 1 = 10
          · have d5 : (((cont l a + 1 : Nat) : Int) == 10) = true := by simp; omega
            by_cases h129 : x = 129
            · subst h129
              have d6 : (((129 : UInt8).toNat : Int) == 129) = true := by decide
              have hcode : uCode l a = 0 := by unfold uCode; rw [if_neg (by omega), if_neg hx5, if_pos (.inr ⟨hm, hx⟩)]
              repeat (first | refine RQr ?_ | ((first | refine WL_op rfl ?_ | refine WL_yes (h := ?_) | refine WR_late rfl rfl rfl ?_ | refine WR_opG rfl rfl ?_ | refine WR_opYG rfl (h := ?_)); (first | refine OW_callP rfl (hF := must_ok (by first | with_reducible assumption | rfl)) (hk := ?_)); try refine SD ?_) | refine RC ?_ | refine RU ?_ | refine WC_draw_all (id := 5) 12 (.calm 0 <| .calm 1 <| .calm 2 <| .calm 3 <| .calm 4 <| .calm 5 <| .calm 6 <| .calm 7 <| .calm 8 <| .calm 9 <| .calm 10 <| .must 11 <| .done) mixed (by kernel_rfl) ?_ | refine WC_draw_all (id := 8) 20 (.calm 0 <| .calm 1 <| .calm 2 <| .calm 3 <| .calm 4 <| .calm 5 <| .calm 6 <| .calm 7 <| .calm 8 <| .calm 9 <| .calm 10 <| .calm 11 <| .calm 12 <| .calm 13 <| .calm 14 <| .calm 15 <| .calm 16 <| .calm 17 <| .calm 18 <| .must 19 <| .done) mixed (by kernel_rfl) ?_ | refine WC_draw_all (id := 9) 13 (.calm 0 <| .calm 1 <| .calm 2 <| .calm 3 <| .calm 4 <| .calm 5 <| .calm 6 <| .calm 7 <| .calm 8 <| .calm 9 <| .calm 12 <| .must 10 <| .calm 11 <| .done) mixed (by kernel_rfl) ?_ | refine WC_region ?_)
              exact ⟨_, ⟨hcode, rfl⟩, ⟨rfl, rfl, rfl, trivial⟩, rfl, .refl _⟩
            · have d6 : ((x.toNat : Int) == 129) = false := by
                simp only [beq_eq_false_iff_ne, ne_eq]
                intro e
                exact h129 (UInt8.toNat_inj.1 (by simpa using (show x.toNat = 129 by omega)))
              have hcode : uCode l a = 4 := by
                unfold uCode
                rw [if_neg (by omega), if_neg hx5, if_neg]
                rintro (h | ⟨_, h⟩)
                · omega
                · rw [hx] at h; exact h129 (Option.some.inj h)
              repeat (first | refine RQr ?_ | ((first | refine WL_op rfl ?_ | refine WL_yes (h := ?_) | refine WR_late rfl rfl rfl ?_ | refine WR_opG rfl rfl ?_ | refine WR_opYG rfl (h := ?_)); (first | refine OW_callP rfl (hF := must_ok (by first | with_reducible assumption | rfl)) (hk := ?_)); try refine SD ?_) | refine RC ?_ | refine RU ?_ | refine WC_draw_all (id := 5) 12 (.calm 0 <| .calm 1 <| .calm 2 <| .calm 3 <| .calm 4 <| .calm 5 <| .calm 6 <| .calm 7 <| .calm 8 <| .calm 9 <| .calm 10 <| .must 11 <| .done) mixed (by kernel_rfl) ?_ | refine WC_draw_all (id := 8) 20 (.calm 0 <| .calm 1 <| .calm 2 <| .calm 3 <| .calm 4 <| .calm 5 <| .calm 6 <| .calm 7 <| .calm 8 <| .calm 9 <| .calm 10 <| .calm 11 <| .calm 12 <| .calm 13 <| .calm 14 <| .calm 15 <| .calm 16 <| .calm 17 <| .calm 18 <| .must 19 <| .done) mixed (by kernel_rfl) ?_ | refine WC_draw_all (id := 9) 13 (.calm 0 <| .calm 1 <| .calm 2 <| .calm 3 <| .calm 4 <| .calm 5 <| .calm 6 <| .calm 7 <| .calm 8 <| .calm 9 <| .calm 12 <| .must 10 <| .calm 11 <| .done) mixed (by kernel_rfl) ?_ | refine WC_region ?_)
              refine WR_op rfl rfl (OW_pan rfl (must_no (l := l) (code := 4) d6 F) fun v L' h => ?_)
              exact ⟨v, rfl, by rw [hcode]; decide, by rw [hcode]; exact h⟩
          · have d5 : (((cont l a + 1 : Nat) : Int) == 10) = false := by simp; omega
            have hcode : uCode l a = 4 := by
              unfold uCode
              rw [if_neg (by omega), if_neg hx5, if_neg]
              rintro (h | ⟨h, _⟩) <;> omega
            repeat (first | refine RQr ?_ | ((first | refine WL_op rfl ?_ | refine WL_yes (h := ?_) | refine WR_late rfl rfl rfl ?_ | refine WR_opG rfl rfl ?_ | refine WR_opYG rfl (h := ?_)); (first | refine OW_callP rfl (hF := must_ok (by first | with_reducible assumption | rfl)) (hk := ?_)); try refine SD ?_) | refine RC ?_ | refine RU ?_ | refine WC_draw_all (id := 5) 12 (.calm 0 <| .calm 1 <| .calm 2 <| .calm 3 <| .calm 4 <| .calm 5 <| .calm 6 <| .calm 7 <| .calm 8 <| .calm 9 <| .calm 10 <| .must 11 <| .done) mixed (by kernel_rfl) ?_ | refine WC_draw_all (id := 8) 20 (.calm 0 <| .calm 1 <| .calm 2 <| .calm 3 <| .calm 4 <| .calm 5 <| .calm 6 <| .calm 7 <| .calm 8 <| .calm 9 <| .calm 10 <| .calm 11 <| .calm 12 <| .calm 13 <| .calm 14 <| .calm 15 <| .calm 16 <| .calm 17 <| .calm 18 <| .must 19 <| .done) mixed (by kernel_rfl) ?_ | refine WC_draw_all (id := 9) 13 (.calm 0 <| .calm 1 <| .calm 2 <| .calm 3 <| .calm 4 <| .calm 5 <| .calm 6 <| .calm 7 <| .calm 8 <| .calm 9 <| .calm 12 <| .must 10 <| .calm 11 <| .done) mixed (by kernel_rfl) ?_ | refine WC_region ?_)
            refine WR_op rfl rfl (OW_pan rfl (must_no (l := l) (code := 4) rfl F) fun v L' h => ?_)
            exact ⟨v, rfl, by rw [hcode]; decide, by rw [hcode]; exact h⟩
    · have d1 : decide (((a + cont l a : Nat) : Int) < (l.length : Int)) = false := decide_eq_false (by omega)
      have hcode : uCode l a = 3 := by unfold uCode; rw [if_pos (by omega)]
      repeat (first | refine RQr ?_ | ((first | refine WL_op rfl ?_ | refine WL_yes (h := ?_) | refine WR_late rfl rfl rfl ?_ | refine WR_opG rfl rfl ?_ | refine WR_opYG rfl (h := ?_)); (first | refine OW_callP rfl (hF := must_ok (by first | with_reducible assumption | rfl)) (hk := ?_)); try refine SD ?_) | refine RC ?_ | refine RU ?_ | refine WC_draw_all (id := 5) 12 (.calm 0 <| .calm 1 <| .calm 2 <| .calm 3 <| .calm 4 <| .calm 5 <| .calm 6 <| .calm 7 <| .calm 8 <| .calm 9 <| .calm 10 <| .must 11 <| .done) mixed (by kernel_rfl) ?_ | refine WC_draw_all (id := 8) 20 (.calm 0 <| .calm 1 <| .calm 2 <| .calm 3 <| .calm 4 <| .calm 5 <| .calm 6 <| .calm 7 <| .calm 8 <| .calm 9 <| .calm 10 <| .calm 11 <| .calm 12 <| .calm 13 <| .calm 14 <| .calm 15 <| .calm 16 <| .calm 17 <| .calm 18 <| .must 19 <| .done) mixed (by kernel_rfl) ?_ | refine WC_draw_all (id := 9) 13 (.calm 0 <| .calm 1 <| .calm 2 <| .calm 3 <| .calm 4 <| .calm 5 <| .calm 6 <| .calm 7 <| .calm 8 <| .calm 9 <| .calm 12 <| .must 10 <| .calm 11 <| .done) mixed (by kernel_rfl) ?_ | refine WC_region ?_)
      refine WL_op rfl (OW_pan rfl (must_no (l := l) (code := 3) d1 F) fun v L' h => ?_)
      exact ⟨v, rfl, by rw [hcode]; decide, by rw [hcode]; exact h⟩
end Go.Proofs.YtdiaogcogkapgaaGreatDoor
namespace Go.Proofs.YtdiaogcogkapgaaGreatDoor
open Go.RowKit
attribute [local irreducible] Fn WC WL WR OW Qt YieldFn QW FnP FnD
theorem number_ok {l : List UInt8} {a r : Nat} (ha : a ≤ l.length) (hl : l.length ≤ 1000000000) (hc : uCode l a = 0) (F : List (Nat × Obj)) : Fn Tryz.prog 114 [.pointer (some ⟨r, 0, none⟩)] ((r, rdO l a) :: F) (fun v L' => v = .tuple #[.int .u64 (uVal l a), .int .i64 (uNext l a)] ∧ L' = (r, rdO l a) :: F) := by
  unfold Fn
  intro g w hm
  refine (number_all ha hl F g w hm).mono fun _ _ hE => ?_
  rcases hE with ⟨v, L', h1, h2, _, h3, h4⟩ | ⟨v, L', _, _, h3, _⟩
  · exact ⟨v, L', h1, h2, h3, h4⟩
  · exact absurd hc h3
theorem number_no {l : List UInt8} {a r : Nat} (ha : a ≤ l.length) (hl : l.length ≤ 1000000000) (hc : uCode l a ≠ 0) (F : List (Nat × Obj)) : FnP Tryz.prog 114 [.pointer (some ⟨r, 0, none⟩)] ((r, rdO l a) :: F) (Flt (uCode l a) a ((r, rdO l a) :: F)) := by
  unfold FnP
  intro g w hm
  refine (number_all ha hl F g w hm).mono fun _ _ hE => ?_
  rcases hE with ⟨v, L', h1, h2, h3, _⟩ | ⟨v, L', h1, h2, _, h3⟩
  · exact absurd h3 hc
  · exact ⟨v, L', h1, h2, h3⟩
theorem told_pan2 {x y : Nat × Obj} {cb p : Nat} {old : Value} {F : List (Nat × Obj)} : FnD Tryz.prog 111 [.pointer (some ⟨cb, 0, none⟩)] (x :: y :: (cb, .cells #[old] 144 (0, 0)) :: F) (.panicking (pan (flt p))) (fun u' L' => settle u' = .returning ∧ L' = x :: y :: (cb, .cells #[flt p] 144 (0, 0)) :: F) := by
  refine FnD_recover (rv := flt p) Tryz.func111 rfl Tryz.ntmps111 rfl rfl rfl rfl ⟨rfl, rfl⟩ fun g n => ⟨_, ⟨_, rfl, rfl, Qt_assign rfl, rfl⟩, ?_⟩
  show WC _ _ _ ⟨[(2, flt p), (5, flt p), (0, .pointer (some ⟨cb, 0, none⟩))], [], _⟩
  repeat (first | refine RQ ?_ | (refine RE ?_; try intro _) | refine RC ?_ | refine WC_region ?_)
  exact ⟨rfl, _, _, Res0 rfl, .refl _, rfl, rfl⟩
def Read (l : List UInt8) (a r : Nat) (F : List (Nat × Obj)) (code : Nat) (x z : Value) (next : Nat) (v : Value) (L' : List (Nat × Obj)) : Prop :=
  (code = 0 ∧ v = .tuple #[x, .nilIface] ∧ L' = (r, rdO l next) :: F) ∨ (code ≠ 0 ∧ ∃ p, v = .tuple #[z, flt p] ∧ L' = (p, fltO code a) :: (r, rdO l a) :: F)
set_option maxHeartbeats 1000000 in
theorem U_fn {l : List UInt8} {a r : Nat} (ha : a ≤ l.length) (hl : l.length ≤ 1000000000) (F : List (Nat × Obj)) : Fn Tryz.prog 91 [.pointer (some ⟨r, 0, none⟩)] ((r, rdO l a) :: F) (Read l a r F (uCode l a) (.int .u64 (uVal l a)) (.int .u64 0) (uNext l a)) := by
  refine Fn_enterD Tryz.func91 rfl Tryz.ntmps91 rfl fun g => ?_
  repeat (first | refine RQ ?_ | (refine RE ?_; try intro _) | (refine WL_op rfl ?_; (first | refine OW_callP rfl (hF := begin_rd) (hk := ?_) | (refine OW_call rfl (hF := number_ok ha hl hc _) (hk := ?_); rintro _ _ ⟨rfl, rfl⟩))) | refine RC ?_ | refine WG 0 ?_ | refine WG 2 ?_ | refine WG 3 ?_ | refine WG 4 ?_)
  refine WC_region (WL_op rfl (OW_def rfl (hk := WL_nil ?_)))
  refine WC_front 1 rfl ?_
  by_cases hc : uCode l a = 0
  · repeat (first | refine RQ ?_ | (refine RE ?_; try intro _) | (refine WL_op rfl ?_; (first | refine OW_callP rfl (hF := begin_rd) (hk := ?_) | (refine OW_call rfl (hF := number_ok ha hl hc _) (hk := ?_); rintro _ _ ⟨rfl, rfl⟩))) | refine RC ?_ | refine WC_region ?_)
    refine LeavS_one (by simp) told_ret ?_
    rintro u' L' ⟨rfl, rfl⟩
    exact ⟨_, _, Res2 rfl (resV_tmp rfl) (resV_cell1 rfl 1 rfl), .cons_cons _ (.cons _ (.refl _)), .inl ⟨hc, rfl, rfl⟩⟩
  · repeat (first | refine RQ ?_ | (refine RE ?_; try intro _) | (refine WL_op rfl ?_; (first | refine OW_callP rfl (hF := begin_rd) (hk := ?_) | (refine OW_call rfl (hF := number_ok ha hl hc _) (hk := ?_); rintro _ _ ⟨rfl, rfl⟩))) | refine RC ?_ | refine WG 0 ?_ | refine WG 1 ?_ | refine WG 3 ?_ | refine WG 4 ?_)
    refine WC_regP ?_
    repeat (first | refine RQ ?_ | (refine RE ?_; try intro _) | (refine WL_op rfl ?_; (first | refine OW_callP rfl (hF := begin_rd) (hk := ?_) | (refine OW_call rfl (hF := number_ok ha hl hc _) (hk := ?_); rintro _ _ ⟨rfl, rfl⟩))) | refine RC ?_ | refine WC_region ?_)
    refine WL_op rfl (OW_pan rfl (number_no ha hl hc _) fun v L' h => ?_)
    obtain ⟨p, rfl, rfl⟩ := h
    refine LeavS_one (by simp) told_pan2 ?_
    rintro u' L' ⟨hu, rfl⟩
    rw [hu]
    exact ⟨_, _, Res2 rfl (resV_tmp rfl) (resV_cell1 rfl 2 rfl), .cons_cons _ (.cons_cons _ (.cons _ (.refl _))), .inr ⟨hc, p, rfl, rfl⟩⟩
def whole (n : Nat) : Int := if n % 2 = 0 then ((n / 2 : Nat) : Int) else -((n / 2 : Nat) : Int) - 1
theorem whole_bits {n : Nat} (h : n < 18446744073709551616) :
    IntKind.i64.wrap (((BitVec.ofInt IntKind.i64.bits (IntKind.i64.wrap ((n : Int).fdiv (2 ^ min (Int.toNat 1) IntKind.u64.bits))) ^^^ BitVec.ofInt IntKind.i64.bits (IntKind.i64.wrap (0 - IntKind.i64.wrap (IntKind.u64.wrap ((BitVec.ofInt IntKind.u64.bits (n : Int) &&& BitVec.ofInt IntKind.u64.bits 1).toNat : Int))))).toNat : Nat) : Int) = whole n := by
  rw [show min (Int.toNat 1) IntKind.u64.bits = 1 from rfl, show IntKind.u64.bits = 64 from rfl, show IntKind.i64.bits = 64 from rfl, Int.fdiv_eq_ediv_of_nonneg _ (by decide)]
  have e1 : (BitVec.ofInt 64 (n : Int) &&& BitVec.ofInt 64 1).toNat = n % 2 := by
    rw [BitVec.toNat_and, BitVec.toNat_ofInt, show (BitVec.ofInt 64 1).toNat = 1 from rfl, Nat.and_one_is_mod]
    omega
  rw [e1, wU64 (by omega) (by omega), wI64 (x := ((n % 2 : Nat) : Int)) (by omega) (by omega), wI64 (x := 0 - _) (by omega) (by omega), wI64 (x := (n : Int) / 2 ^ 1) (by omega) (by omega)]
  unfold whole
  by_cases hx : n % 2 = 0
  · rw [if_pos hx, hx, show BitVec.ofInt 64 (0 - ((0 : Nat) : Int)) = 0#64 from rfl, BitVec.xor_zero, BitVec.toNat_ofInt, IntKind.wrap_i64]
    omega
  · rw [if_neg hx, show n % 2 = 1 by omega, show BitVec.ofInt 64 (0 - ((1 : Nat) : Int)) = BitVec.allOnes 64 by decide, BitVec.xor_allOnes, BitVec.toNat_not, BitVec.toNat_ofInt, IntKind.wrap_i64]
    omega
set_option maxHeartbeats 1000000 in
theorem I_fn {l : List UInt8} {a r : Nat} (ha : a ≤ l.length) (hl : l.length ≤ 1000000000) (F : List (Nat × Obj)) : Fn Tryz.prog 190 [.pointer (some ⟨r, 0, none⟩)] ((r, rdO l a) :: F) (Read l a r F (uCode l a) (.int .i64 (whole (uVal l a))) (.int .i64 0) (uNext l a)) := by
  have hv : uVal l a < 18446744073709551616 := val_lt _
  refine Fn_enter Tryz.func190 rfl Tryz.ntmps190 rfl fun g => ?_
  repeat (first | refine RQ ?_ | refine RC ?_ | refine WC_region ?_)
  refine WL_op rfl (OW_call rfl (hF := U_fn ha hl _) (hk := ?_))
  rintro _ _ (⟨hc, rfl, rfl⟩ | ⟨hc, p, rfl, rfl⟩)
  · repeat (first | refine RQ ?_ | refine RC ?_ | refine WC_region ?_)
    rw [whole_bits hv]
    exact ⟨rfl, _, _, Res2 rfl (resV_tmp rfl) (resV_tmp rfl), .refl _, .inl ⟨hc, rfl, rfl⟩⟩
  · repeat (first | refine RQ ?_ | refine RC ?_ | refine WC_region ?_)
    exact ⟨rfl, _, _, Res2 rfl (resV_tmp rfl) (resV_tmp rfl), .refl _, .inr ⟨hc, p, rfl, rfl⟩⟩
def bCode (l : List UInt8) (a : Nat) : Nat := if a < l.length then 0 else 3
def bVal (l : List UInt8) (a : Nat) : UInt8 := (l[a]?).getD 0
set_option maxHeartbeats 1000000 in
theorem Byte_fn {l : List UInt8} {a r : Nat} (ha : a ≤ l.length) (hl : l.length ≤ 1000000000) (F : List (Nat × Obj)) : Fn Tryz.prog 187 [.pointer (some ⟨r, 0, none⟩)] ((r, rdO l a) :: F) (Read l a r F (bCode l a) (bV (bVal l a)) (.int .u8 0) (a + 1)) := by
  refine Fn_enterD Tryz.func187 rfl Tryz.ntmps187 rfl fun g => ?_
  repeat (first | refine RQr ?_ | (refine OX ?_; (first | (refine OE ?_; try intro _) | refine OW_callP rfl (hF := must_ok (by first | with_reducible assumption | rfl)) (hk := ?_) | refine OW_callP rfl (hF := begin_rd) (hk := ?_)); try refine SD ?_) | refine RC ?_ | refine RU ?_ | refine WC_draw_all (id := 2) 13 (.calm 0 <| .calm 2 <| .calm 3 <| .calm 4 <| .calm 5 <| .calm 6 <| .calm 7 <| .calm 8 <| .calm 9 <| .calm 10 <| .calm 11 <| .must 1 <| .must 12 <| .done) mixed (by kernel_rfl) ?_ | refine WC_draw_all (id := 4) 11 (.calm 0 <| .calm 1 <| .calm 2 <| .calm 3 <| .calm 4 <| .calm 5 <| .calm 6 <| .calm 7 <| .calm 8 <| .calm 9 <| .calm 10 <| .must 11 <| .done) mixed (by kernel_rfl) ?_ | refine WG 0 ?_ | refine WG 3 ?_)
  refine WC_region (WL_op rfl (OW_def rfl (hk := WL_nil ?_)))
  refine WC_front 1 rfl ?_
  by_cases h0 : a < l.length
  · have hcode : bCode l a = 0 := if_pos h0
    have d1 : decide ((a : Int) < (l.length : Int)) = true := decide_eq_true (by omega)
    obtain ⟨x, hx⟩ : ∃ x, l[a]? = some x := ⟨_, List.getElem?_eq_getElem h0⟩
    have hw : IntKind.i64.wrap ((a : Int) + 1) = ((a + 1 : Nat) : Int) := by rw [wI64 (by omega) (by omega)]; omega
    have hw2 : IntKind.i64.wrap (((a + 1 : Nat) : Int) - 1) = (a : Int) := by rw [wI64 (by omega) (by omega)]; omega
    have hx' : l[(IntKind.i64.wrap (((a + 1 : Nat) : Int) - 1)).toNat]? = some x := by rw [hw2, Int.toNat_natCast]; exact hx
    have hp : 0 ≤ IntKind.i64.wrap (((a + 1 : Nat) : Int) - 1) := by omega
    repeat (first | refine RQr ?_ | (refine OX ?_; (first | (refine OE ?_; try intro _) | refine OW_callP rfl (hF := must_ok (by first | with_reducible assumption | rfl)) (hk := ?_) | refine OW_callP rfl (hF := begin_rd) (hk := ?_)); try refine SD ?_) | refine RC ?_ | refine RU ?_ | refine WC_draw_all (id := 2) 13 (.calm 0 <| .calm 2 <| .calm 3 <| .calm 4 <| .calm 5 <| .calm 6 <| .calm 7 <| .calm 8 <| .calm 9 <| .calm 10 <| .calm 11 <| .must 1 <| .must 12 <| .done) mixed (by kernel_rfl) ?_ | refine WC_regB 4 ?_)
    rw [hw]
    repeat (first | refine RQr ?_ | (refine OX ?_; (first | (refine OE ?_; try intro _) | refine OW_callP rfl (hF := must_ok (by first | with_reducible assumption | rfl)) (hk := ?_) | refine OW_callP rfl (hF := begin_rd) (hk := ?_)); try refine SD ?_) | refine RC ?_ | refine RU ?_ | refine WC_draw_all (id := 2) 13 (.calm 0 <| .calm 2 <| .calm 3 <| .calm 4 <| .calm 5 <| .calm 6 <| .calm 7 <| .calm 8 <| .calm 9 <| .calm 10 <| .calm 11 <| .must 1 <| .must 12 <| .done) mixed (by kernel_rfl) ?_ | refine WC_draw_all (id := 4) 11 (.calm 0 <| .calm 1 <| .calm 2 <| .calm 3 <| .calm 4 <| .calm 5 <| .calm 6 <| .calm 7 <| .calm 8 <| .calm 9 <| .calm 10 <| .must 11 <| .done) mixed (by kernel_rfl) ?_ | refine WC_region ?_)
    refine LeavS_one (by simp) told_ret ?_
    rintro u' L' ⟨rfl, rfl⟩
    refine ⟨_, _, Res2 rfl (resV_tmp rfl) (resV_cell1 rfl 1 rfl), .cons_cons _ (.cons _ (.refl _)), .inl ⟨hcode, ?_, rfl⟩⟩
    unfold bVal; rw [hx]; rfl
  · have hcode : bCode l a ≠ 0 := by unfold bCode; rw [if_neg h0]; decide
    have hc3 : bCode l a = 3 := if_neg h0
    have d1 : decide ((a : Int) < (l.length : Int)) = false := decide_eq_false (by omega)
    repeat (first | refine RQr ?_ | (refine OX ?_; (first | (refine OE ?_; try intro _) | refine OW_callP rfl (hF := must_ok (by first | with_reducible assumption | rfl)) (hk := ?_) | refine OW_callP rfl (hF := begin_rd) (hk := ?_)); try refine SD ?_) | refine RC ?_ | refine RU ?_ | refine WC_draw_all (id := 4) 11 (.calm 0 <| .calm 1 <| .calm 2 <| .calm 3 <| .calm 4 <| .calm 5 <| .calm 6 <| .calm 7 <| .calm 8 <| .calm 9 <| .calm 10 <| .must 11 <| .done) mixed (by kernel_rfl) ?_ | refine WG 0 ?_ | refine WG 1 ?_ | refine WG 3 ?_)
    refine WC_drP (id := 2) 13 (.calm 0 <| .calm 2 <| .calm 3 <| .calm 4 <| .calm 5 <| .calm 6 <| .calm 7 <| .calm 8 <| .calm 9 <| .calm 10 <| .calm 11 <| .must 1 <| .must 12 <| .done) mixed (by kernel_rfl) ?_
    repeat (first | refine RQr ?_ | (refine OX ?_; (first | (refine OE ?_; try intro _) | refine OW_callP rfl (hF := must_ok (by first | with_reducible assumption | rfl)) (hk := ?_) | refine OW_callP rfl (hF := begin_rd) (hk := ?_)); try refine SD ?_) | refine RC ?_ | refine RU ?_ | refine WC_draw_all (id := 2) 13 (.calm 0 <| .calm 2 <| .calm 3 <| .calm 4 <| .calm 5 <| .calm 6 <| .calm 7 <| .calm 8 <| .calm 9 <| .calm 10 <| .calm 11 <| .must 1 <| .must 12 <| .done) mixed (by kernel_rfl) ?_ | refine WC_draw_all (id := 4) 11 (.calm 0 <| .calm 1 <| .calm 2 <| .calm 3 <| .calm 4 <| .calm 5 <| .calm 6 <| .calm 7 <| .calm 8 <| .calm 9 <| .calm 10 <| .must 11 <| .done) mixed (by kernel_rfl) ?_ | refine WC_region ?_)
    refine WR_op rfl rfl (OW_pan rfl (must_no (l := l) (code := 3) d1 _) fun v L' h => ?_)
    rw [← hc3] at h
    obtain ⟨p, rfl, rfl⟩ := h
    refine LeavS_one (by simp) told_pan2 ?_
    rintro u' L' ⟨hu, rfl⟩
    rw [hu]
    exact ⟨_, _, Res2 rfl (resV_tmp rfl) (resV_cell1 rfl 2 rfl), .cons_cons _ (.cons_cons _ (.cons _ (.refl _))), .inr ⟨hcode, p, rfl, rfl⟩⟩
def tCode (l : List UInt8) (a : Nat) : Nat := if a < l.length then (if (bVal l a).toNat ≤ 1 then 0 else 5) else 3
set_option maxHeartbeats 1000000 in
theorem Bool_fn {l : List UInt8} {a r : Nat} (ha : a ≤ l.length) (hl : l.length ≤ 1000000000) (F : List (Nat × Obj)) : Fn Tryz.prog 89 [.pointer (some ⟨r, 0, none⟩)] ((r, rdO l a) :: F) (Read l a r F (tCode l a) (.bool ((bVal l a).toNat == 1)) (.bool false) (a + 1)) := by
  refine Fn_enterD Tryz.func89 rfl Tryz.ntmps89 rfl fun g => ?_
  repeat (first | refine RQr ?_ | (refine OX ?_; (first | (refine OE ?_; try intro _) | refine OW_callP rfl (hF := must_ok (by first | with_reducible assumption | rfl)) (hk := ?_) | refine OW_callP rfl (hF := begin_rd) (hk := ?_)); try refine SD ?_) | refine RC ?_ | refine RU ?_ | refine WC_draw_all (id := 2) 13 (.calm 0 <| .calm 2 <| .calm 3 <| .calm 4 <| .calm 5 <| .calm 6 <| .calm 7 <| .calm 8 <| .calm 9 <| .calm 10 <| .calm 11 <| .must 1 <| .must 12 <| .done) mixed (by kernel_rfl) ?_ | refine WC_draw_all (id := 3) 12 (.calm 0 <| .calm 1 <| .calm 2 <| .calm 3 <| .calm 4 <| .calm 5 <| .calm 6 <| .calm 7 <| .calm 8 <| .calm 9 <| .calm 10 <| .must 11 <| .done) mixed (by kernel_rfl) ?_ | refine WC_draw_all (id := 5) 12 (.calm 0 <| .calm 1 <| .calm 2 <| .calm 3 <| .calm 4 <| .calm 5 <| .calm 6 <| .calm 7 <| .calm 8 <| .calm 9 <| .calm 10 <| .calm 11 <| .must 12 <| .done) mixed (by kernel_rfl) ?_ | refine WG 0 ?_ | refine WG 4 ?_)
  refine WC_region (WL_op rfl (OW_def rfl (hk := WL_nil ?_)))
  refine WC_front 1 rfl ?_
  by_cases h0 : a < l.length
  · have d1 : decide ((a : Int) < (l.length : Int)) = true := decide_eq_true (by omega)
    obtain ⟨x, hx⟩ : ∃ x, l[a]? = some x := ⟨_, List.getElem?_eq_getElem h0⟩
    have hbv : bVal l a = x := by unfold bVal; rw [hx]; rfl
    have hx0 : l[((a : Nat) : Int).toNat]? = some x := by rw [Int.toNat_natCast]; exact hx
    have hw : IntKind.i64.wrap ((a : Int) + 1) = ((a + 1 : Nat) : Int) := by rw [wI64 (by omega) (by omega)]; omega
    have hw2 : IntKind.i64.wrap (((a + 1 : Nat) : Int) - 1) = (a : Int) := by rw [wI64 (by omega) (by omega)]; omega
    have hx' : l[(IntKind.i64.wrap (((a + 1 : Nat) : Int) - 1)).toNat]? = some x := by rw [hw2, Int.toNat_natCast]; exact hx
    have hp : 0 ≤ IntKind.i64.wrap (((a + 1 : Nat) : Int) - 1) := by omega
    by_cases h1 : x.toNat ≤ 1
    · have d2 : decide ((x.toNat : Int) ≤ 1) = true := decide_eq_true (by omega)
      have hcode : tCode l a = 0 := by unfold tCode; rw [if_pos h0, hbv, if_pos h1]
      repeat (first | refine RQr ?_ | (refine OX ?_; (first | (refine OE ?_; try intro _) | refine OW_callP rfl (hF := must_ok (by first | with_reducible assumption | rfl)) (hk := ?_) | refine OW_callP rfl (hF := begin_rd) (hk := ?_)); try refine SD ?_) | refine RC ?_ | refine RU ?_ | refine WC_draw_all (id := 2) 13 (.calm 0 <| .calm 2 <| .calm 3 <| .calm 4 <| .calm 5 <| .calm 6 <| .calm 7 <| .calm 8 <| .calm 9 <| .calm 10 <| .calm 11 <| .must 1 <| .must 12 <| .done) mixed (by kernel_rfl) ?_ | refine WC_draw_all (id := 3) 12 (.calm 0 <| .calm 1 <| .calm 2 <| .calm 3 <| .calm 4 <| .calm 5 <| .calm 6 <| .calm 7 <| .calm 8 <| .calm 9 <| .calm 10 <| .must 11 <| .done) mixed (by kernel_rfl) ?_ | refine WC_regB 5 ?_)
      rw [hw]
      repeat (first | refine RQr ?_ | (refine OX ?_; (first | (refine OE ?_; try intro _) | refine OW_callP rfl (hF := must_ok (by first | with_reducible assumption | rfl)) (hk := ?_) | refine OW_callP rfl (hF := begin_rd) (hk := ?_)); try refine SD ?_) | refine RC ?_ | refine RU ?_ | refine WC_draw_all (id := 2) 13 (.calm 0 <| .calm 2 <| .calm 3 <| .calm 4 <| .calm 5 <| .calm 6 <| .calm 7 <| .calm 8 <| .calm 9 <| .calm 10 <| .calm 11 <| .must 1 <| .must 12 <| .done) mixed (by kernel_rfl) ?_ | refine WC_draw_all (id := 3) 12 (.calm 0 <| .calm 1 <| .calm 2 <| .calm 3 <| .calm 4 <| .calm 5 <| .calm 6 <| .calm 7 <| .calm 8 <| .calm 9 <| .calm 10 <| .must 11 <| .done) mixed (by kernel_rfl) ?_ | refine WC_draw_all (id := 5) 12 (.calm 0 <| .calm 1 <| .calm 2 <| .calm 3 <| .calm 4 <| .calm 5 <| .calm 6 <| .calm 7 <| .calm 8 <| .calm 9 <| .calm 10 <| .calm 11 <| .must 12 <| .done) mixed (by kernel_rfl) ?_ | refine WC_region ?_)
      refine LeavS_one (by simp) told_ret ?_
      rintro u' L' ⟨rfl, rfl⟩
      refine ⟨_, _, Res2 rfl (resV_tmp rfl) (resV_cell1 rfl 1 rfl), .cons_cons _ (.cons _ (.refl _)), .inl ⟨hcode, ?_, rfl⟩⟩
      rw [hbv, show (x.toNat == 1) = ((x.toNat : Int) == 1) by rw [Bool.eq_iff_iff]; simp; omega]
    · have d2 : decide ((x.toNat : Int) ≤ 1) = false := decide_eq_false (by omega)
      have hc5 : tCode l a = 5 := by unfold tCode; rw [if_pos h0, hbv, if_neg h1]
      have hcode : tCode l a ≠ 0 := by rw [hc5]; decide
      repeat (first | refine RQr ?_ | (refine OX ?_; (first | (refine OE ?_; try intro _) | refine OW_callP rfl (hF := must_ok (by first | with_reducible assumption | rfl)) (hk := ?_) | refine OW_callP rfl (hF := begin_rd) (hk := ?_)); try refine SD ?_) | refine RC ?_ | refine RU ?_ | refine WC_draw_all (id := 2) 13 (.calm 0 <| .calm 2 <| .calm 3 <| .calm 4 <| .calm 5 <| .calm 6 <| .calm 7 <| .calm 8 <| .calm 9 <| .calm 10 <| .calm 11 <| .must 1 <| .must 12 <| .done) mixed (by kernel_rfl) ?_ | refine WC_draw_all (id := 5) 12 (.calm 0 <| .calm 1 <| .calm 2 <| .calm 3 <| .calm 4 <| .calm 5 <| .calm 6 <| .calm 7 <| .calm 8 <| .calm 9 <| .calm 10 <| .calm 11 <| .must 12 <| .done) mixed (by kernel_rfl) ?_ | refine WG 0 ?_ | refine WG 1 ?_ | refine WG 4 ?_)
      refine WC_drP (id := 3) 12 (.calm 0 <| .calm 1 <| .calm 2 <| .calm 3 <| .calm 4 <| .calm 5 <| .calm 6 <| .calm 7 <| .calm 8 <| .calm 9 <| .calm 10 <| .must 11 <| .done) mixed (by kernel_rfl) ?_
      repeat (first | refine RQr ?_ | (refine OX ?_; (first | (refine OE ?_; try intro _) | refine OW_callP rfl (hF := must_ok (by first | with_reducible assumption | rfl)) (hk := ?_) | refine OW_callP rfl (hF := begin_rd) (hk := ?_)); try refine SD ?_) | refine RC ?_ | refine RU ?_ | refine WC_draw_all (id := 2) 13 (.calm 0 <| .calm 2 <| .calm 3 <| .calm 4 <| .calm 5 <| .calm 6 <| .calm 7 <| .calm 8 <| .calm 9 <| .calm 10 <| .calm 11 <| .must 1 <| .must 12 <| .done) mixed (by kernel_rfl) ?_ | refine WC_draw_all (id := 3) 12 (.calm 0 <| .calm 1 <| .calm 2 <| .calm 3 <| .calm 4 <| .calm 5 <| .calm 6 <| .calm 7 <| .calm 8 <| .calm 9 <| .calm 10 <| .must 11 <| .done) mixed (by kernel_rfl) ?_ | refine WC_draw_all (id := 5) 12 (.calm 0 <| .calm 1 <| .calm 2 <| .calm 3 <| .calm 4 <| .calm 5 <| .calm 6 <| .calm 7 <| .calm 8 <| .calm 9 <| .calm 10 <| .calm 11 <| .must 12 <| .done) mixed (by kernel_rfl) ?_ | refine WC_region ?_)
      refine WR_op rfl rfl (OW_pan rfl (must_no (l := l) (code := 5) d2 _) fun v L' h => ?_)
      rw [← hc5] at h
      obtain ⟨p, rfl, rfl⟩ := h
      refine LeavS_one (by simp) told_pan2 ?_
      rintro u' L' ⟨hu, rfl⟩
      rw [hu]
      exact ⟨_, _, Res2 rfl (resV_tmp rfl) (resV_cell1 rfl 2 rfl), .cons_cons _ (.cons_cons _ (.cons _ (.refl _))), .inr ⟨hcode, p, rfl, rfl⟩⟩
  · have hc3 : tCode l a = 3 := if_neg h0
    have hcode : tCode l a ≠ 0 := by rw [hc3]; decide
    have d1 : decide ((a : Int) < (l.length : Int)) = false := decide_eq_false (by omega)
    repeat (first | refine RQr ?_ | (refine OX ?_; (first | (refine OE ?_; try intro _) | refine OW_callP rfl (hF := must_ok (by first | with_reducible assumption | rfl)) (hk := ?_) | refine OW_callP rfl (hF := begin_rd) (hk := ?_)); try refine SD ?_) | refine RC ?_ | refine RU ?_ | refine WC_draw_all (id := 3) 12 (.calm 0 <| .calm 1 <| .calm 2 <| .calm 3 <| .calm 4 <| .calm 5 <| .calm 6 <| .calm 7 <| .calm 8 <| .calm 9 <| .calm 10 <| .must 11 <| .done) mixed (by kernel_rfl) ?_ | refine WC_draw_all (id := 5) 12 (.calm 0 <| .calm 1 <| .calm 2 <| .calm 3 <| .calm 4 <| .calm 5 <| .calm 6 <| .calm 7 <| .calm 8 <| .calm 9 <| .calm 10 <| .calm 11 <| .must 12 <| .done) mixed (by kernel_rfl) ?_ | refine WG 0 ?_ | refine WG 1 ?_ | refine WG 4 ?_)
    refine WC_drP (id := 2) 13 (.calm 0 <| .calm 2 <| .calm 3 <| .calm 4 <| .calm 5 <| .calm 6 <| .calm 7 <| .calm 8 <| .calm 9 <| .calm 10 <| .calm 11 <| .must 1 <| .must 12 <| .done) mixed (by kernel_rfl) ?_
    repeat (first | refine RQr ?_ | (refine OX ?_; (first | (refine OE ?_; try intro _) | refine OW_callP rfl (hF := must_ok (by first | with_reducible assumption | rfl)) (hk := ?_) | refine OW_callP rfl (hF := begin_rd) (hk := ?_)); try refine SD ?_) | refine RC ?_ | refine RU ?_ | refine WC_draw_all (id := 2) 13 (.calm 0 <| .calm 2 <| .calm 3 <| .calm 4 <| .calm 5 <| .calm 6 <| .calm 7 <| .calm 8 <| .calm 9 <| .calm 10 <| .calm 11 <| .must 1 <| .must 12 <| .done) mixed (by kernel_rfl) ?_ | refine WC_draw_all (id := 3) 12 (.calm 0 <| .calm 1 <| .calm 2 <| .calm 3 <| .calm 4 <| .calm 5 <| .calm 6 <| .calm 7 <| .calm 8 <| .calm 9 <| .calm 10 <| .must 11 <| .done) mixed (by kernel_rfl) ?_ | refine WC_draw_all (id := 5) 12 (.calm 0 <| .calm 1 <| .calm 2 <| .calm 3 <| .calm 4 <| .calm 5 <| .calm 6 <| .calm 7 <| .calm 8 <| .calm 9 <| .calm 10 <| .calm 11 <| .must 12 <| .done) mixed (by kernel_rfl) ?_ | refine WC_region ?_)
    refine WR_op rfl rfl (OW_pan rfl (must_no (l := l) (code := 3) d1 _) fun v L' h => ?_)
    rw [← hc3] at h
    obtain ⟨p, rfl, rfl⟩ := h
    refine LeavS_one (by simp) told_pan2 ?_
    rintro u' L' ⟨hu, rfl⟩
    rw [hu]
    exact ⟨_, _, Res2 rfl (resV_tmp rfl) (resV_cell1 rfl 2 rfl), .cons_cons _ (.cons_cons _ (.cons _ (.refl _))), .inr ⟨hcode, p, rfl, rfl⟩⟩
theorem uNext_le {l : List UInt8} {a : Nat} (h : uCode l a = 0) : uNext l a ≤ l.length := by
  unfold uCode at h
  split at h
  · cases h
  · unfold uNext; omega
def eCode (l : List UInt8) (a : Nat) : Nat := if a < l.length then 4 else 0
set_option maxHeartbeats 1000000 in
theorem End_fn {l : List UInt8} {a r : Nat} (ha : a ≤ l.length) (F : List (Nat × Obj)) : Fn Tryz.prog 92 [.pointer (some ⟨r, 0, none⟩)] ((r, rdO l a) :: F) (fun v L' => (eCode l a = 0 ∧ v = .nilIface ∧ L' = (r, rdO l a) :: F) ∨ (eCode l a ≠ 0 ∧ ∃ p, v = flt p ∧ L' = (p, fltO (eCode l a) a) :: (r, rdO l a) :: F)) := by
  refine Fn_enterD Tryz.func92 rfl Tryz.ntmps92 rfl fun g => ?_
  repeat (first | refine RQr ?_ | (refine OX ?_; (first | (refine OE ?_; try intro _) | refine OW_callP rfl (hF := must_ok (by first | with_reducible assumption | rfl)) (hk := ?_) | refine OW_callP rfl (hF := begin_rd) (hk := ?_)); try refine SD ?_) | refine RC ?_ | refine RU ?_ | refine WC_draw_all (id := 2) 13 (.calm 0 <| .calm 2 <| .calm 3 <| .calm 4 <| .calm 5 <| .calm 6 <| .calm 7 <| .calm 8 <| .calm 9 <| .calm 10 <| .calm 11 <| .must 1 <| .must 12 <| .done) mixed (by kernel_rfl) ?_ | refine WG 0 ?_ | refine WG 3 ?_)
  refine WC_region (WL_op rfl (OW_def rfl (hk := WL_nil ?_)))
  refine WC_front 1 rfl ?_
  by_cases h0 : a < l.length
  · have hc4 : eCode l a = 4 := if_pos h0
    have hcode : eCode l a ≠ 0 := by rw [hc4]; decide
    have d1 : ((a : Int) == (l.length : Int)) = false := by simp; omega
    repeat (first | refine RQ ?_ | (refine RE ?_; try intro _) | (refine WL_op rfl ?_; (first | refine OW_callP rfl (hF := must_ok (by first | with_reducible assumption | rfl)) (hk := ?_) | refine OW_callP rfl (hF := begin_rd) (hk := ?_))) | refine RC ?_ | refine WG 0 ?_ | refine WG 1 ?_ | refine WG 3 ?_)
    refine WC_drP (id := 2) 13 (.calm 0 <| .calm 2 <| .calm 3 <| .calm 4 <| .calm 5 <| .calm 6 <| .calm 7 <| .calm 8 <| .calm 9 <| .calm 10 <| .calm 11 <| .must 1 <| .must 12 <| .done) mixed (by kernel_rfl) ?_
    repeat (first | refine RQr ?_ | (refine OX ?_; (first | (refine OE ?_; try intro _) | refine OW_callP rfl (hF := must_ok (by first | with_reducible assumption | rfl)) (hk := ?_) | refine OW_callP rfl (hF := begin_rd) (hk := ?_)); try refine SD ?_) | refine RC ?_ | refine RU ?_ | refine WC_draw_all (id := 2) 13 (.calm 0 <| .calm 2 <| .calm 3 <| .calm 4 <| .calm 5 <| .calm 6 <| .calm 7 <| .calm 8 <| .calm 9 <| .calm 10 <| .calm 11 <| .must 1 <| .must 12 <| .done) mixed (by kernel_rfl) ?_ | refine WC_region ?_)
    refine WR_op rfl rfl (OW_pan rfl (must_no (l := l) (code := 4) d1 _) fun v L' h => ?_)
    rw [← hc4] at h
    obtain ⟨p, rfl, rfl⟩ := h
    refine LeavS_one (by simp) told_pan2 ?_
    rintro u' L' ⟨hu, rfl⟩
    rw [hu]
    exact ⟨_, _, Res1 rfl (resV_cell1 rfl 2 rfl), .cons_cons _ (.cons_cons _ (.cons _ (.refl _))), .inr ⟨hcode, p, rfl, rfl⟩⟩
  · have hcode : eCode l a = 0 := if_neg h0
    have d1 : ((a : Int) == (l.length : Int)) = true := by simp; omega
    repeat (first | refine RQr ?_ | (refine OX ?_; (first | (refine OE ?_; try intro _) | refine OW_callP rfl (hF := must_ok (by first | with_reducible assumption | rfl)) (hk := ?_) | refine OW_callP rfl (hF := begin_rd) (hk := ?_)); try refine SD ?_) | refine RC ?_ | refine RU ?_ | refine WC_draw_all (id := 2) 13 (.calm 0 <| .calm 2 <| .calm 3 <| .calm 4 <| .calm 5 <| .calm 6 <| .calm 7 <| .calm 8 <| .calm 9 <| .calm 10 <| .calm 11 <| .must 1 <| .must 12 <| .done) mixed (by kernel_rfl) ?_ | refine WC_region ?_)
    refine LeavS_one (by simp) told_ret ?_
    rintro u' L' ⟨rfl, rfl⟩
    exact ⟨_, _, Res1 rfl (resV_cell1 rfl 1 rfl), .cons_cons _ (.cons _ (.refl _)), .inl ⟨hcode, rfl, rfl⟩⟩
end Go.Proofs.YtdiaogcogkapgaaGreatDoor
namespace Go.Proofs.YtdiaogcogkapgaaGreatDoor
open Go.RowKit Go.Extern.Stop Go.Stop Go.Extern
theorem as_nil (t : Value) (w : World) :
    Calls Tryz.prog 93 #[.nilIface, t] w fun e w' => e = .returned (.bool false) ∧ w' = w := by
  go_enter Tryz.func93, Tryz.ntmps93
  go_wp2
  go_ret
  exact ⟨rfl, rfl⟩
theorem e_valueOf27 (t : Addr) (w : World) : (ReflectliteValue.unpack (.iface 176 (.pointer (some t)))).run Tryz.prog w
    = .ok (.agg #[.pointer (some ⟨1, 176, none⟩), .pointer (some ⟨w.heap.size, 0, none⟩), .int .u64 150]) (w.alloc (.cells #[.pointer (some t)] 176)) := by kernel_rfl
theorem e_type27 (a : Addr) (w : World) : (ReflectliteValue.methodAny (ReflectliteValue.valueError "reflectlite.Value.Type" 0) (fun t _ _ _ => ReflectliteType.toType t) #[.agg #[.pointer (some ⟨1, 176, none⟩), .pointer (some a), .int .u64 150]]).run Tryz.prog w
    = .ok (.iface 257 (.agg #[.pointer (some ⟨1, 176, none⟩)])) w := by kernel_rfl
theorem e_methodKind (h : Value) (w : World) : (Go.method 421 257 (.agg #[h]) "Kind").run Tryz.prog w = .ok (161, h) w := by kernel_rfl
theorem e_kind27 (w : World) : ((ReflectliteType.abiMethod fun t => (fun a : Nat => Value.int IntKind.u8 (a : Int)) <$> Rtype.kind t) #[.pointer (some ⟨1, 176, none⟩)]).run Tryz.prog w = .ok (.int .u8 22) w := by kernel_rfl
theorem e_kind25 (w : World) : ((ReflectliteType.abiMethod fun t => (fun a : Nat => Value.int IntKind.u8 (a : Int)) <$> Rtype.kind t) #[.pointer (some ⟨1, 174, none⟩)]).run Tryz.prog w = .ok (.int .u8 22) w := by kernel_rfl
theorem rlm (z : Sem Value) (f : TypeId → Addr → Nat → Nat → Sem Value) (v : Value) :
    ReflectliteValue.method z f #[v] = (do match ← ReflectliteValue.parts v with | none => z | some (t, a, fl) => f t a fl (fl % 32)) := rfl
theorem e_parts27 (a : Addr) (w : World) : (ReflectliteValue.parts (.agg #[.pointer (some ⟨1, 176, none⟩), .pointer (some a), .int .u64 150])).run Tryz.prog w = .ok (some (176, a, 150)) w := by kernel_rfl
theorem e_isNil27 (a p : Addr) (W : World) (ha : W.cell? a = some (.pointer (some p))) :
    (ReflectliteValue.method (ReflectliteValue.valueError "reflectlite.Value.IsNil" 0) ReflectliteValue.isNil #[.agg #[.pointer (some ⟨1, 176, none⟩), .pointer (some a), .int .u64 150]]).run Tryz.prog W = .ok (.bool false) W := by
  rw [rlm]
  simp only [Sem.run_bind, e_parts27, Result.andThen]
  simp [ReflectliteValue.isNil, loadVar, isAgg, underlying, Tryz.underlying176, ha, Result.andThen]
theorem e_methodElem (h : Value) (w : World) : (Go.method 421 257 (.agg #[h]) "Elem").run Tryz.prog w = .ok (194, .agg #[h]) w := by kernel_rfl
theorem e_methodImplements (h : Value) (w : World) : (Go.method 421 257 (.agg #[h]) "Implements").run Tryz.prog w = .ok (195, .agg #[h]) w := by kernel_rfl
theorem e_methodAssignableTo (h : Value) (w : World) : (Go.method 421 257 (.agg #[h]) "AssignableTo").run Tryz.prog w = .ok (192, .agg #[h]) w := by kernel_rfl
theorem e_elem27 (w : World) : (ReflectliteType.method ReflectliteType.elem #[.agg #[.pointer (some ⟨1, 176, none⟩)]]).run Tryz.prog w = .ok (.iface 257 (.agg #[.pointer (some ⟨1, 174, none⟩)])) w := by kernel_rfl
theorem e_implements25 (w : World) : (ReflectliteType.relation "Implements" ReflectliteType.implements_ #[.agg #[.pointer (some ⟨1, 174, none⟩)], .iface 257 (.agg #[.pointer (some ⟨1, 144, none⟩)])]).run Tryz.prog w = .ok (.bool true) w := by kernel_rfl
theorem e_typeOf25 (v : Value) (w : World) : (ReflectliteType.typeOf #[.iface 174 v]).run Tryz.prog w = .ok (.iface 257 (.agg #[.pointer (some ⟨1, 174, none⟩)])) w := by kernel_rfl
theorem e_assignable25 (w : World) : (ReflectliteType.relation "AssignableTo" ReflectliteType.assignableTo #[.agg #[.pointer (some ⟨1, 174, none⟩)], .iface 257 (.agg #[.pointer (some ⟨1, 174, none⟩)])]).run Tryz.prog w = .ok (.bool true) w := by kernel_rfl
theorem e_valueOf25 (e : Addr) (w : World) : (ReflectliteValue.unpack (.iface 174 (.pointer (some e)))).run Tryz.prog w
    = .ok (.agg #[.pointer (some ⟨1, 174, none⟩), .pointer (some ⟨w.heap.size, 0, none⟩), .int .u64 150]) (w.alloc (.cells #[.pointer (some e)] 174)) := by kernel_rfl
theorem e_elemOf27 (w : World) : (Rtype.elem? 176).run Tryz.prog w = .ok (some 174) w := by kernel_rfl
theorem e_mk25 (p : Addr) (w : World) : (ReflectliteValue.mk 174 p ReflectliteValue.flagAddr).run Tryz.prog w = .ok (.agg #[.pointer (some ⟨1, 174, none⟩), .pointer (some p), .int .u64 406]) w := by kernel_rfl
theorem e_elemV27 (a p : Addr) (W : World) (ha : W.cell? a = some (.pointer (some p))) :
    (ReflectliteValue.method (ReflectliteValue.valueError "reflectlite.Value.Elem" 0) ReflectliteValue.elem #[.agg #[.pointer (some ⟨1, 176, none⟩), .pointer (some a), .int .u64 150]]).run Tryz.prog W
      = .ok (.agg #[.pointer (some ⟨1, 174, none⟩), .pointer (some p), .int .u64 406]) W := by
  rw [rlm]
  simp only [Sem.run_bind, e_parts27, Result.andThen]
  simp [ReflectliteValue.elem, loadVar, isAgg, underlying, Tryz.underlying176, ha, Result.andThen, e_elemOf27, e_mk25]
theorem rls (v x : Value) : ReflectliteValue.set #[v, x] = (do
    let (some (dst, a, fl), some (src, b, _)) := (← ReflectliteValue.parts v, ← ReflectliteValue.parts x)
      | unsupported (.noEntry "extern/(internal/reflectlite.Value).Set.zeroValue")
    if fl / ReflectliteValue.flagAddr % 2 == 0 then unsupported (.noEntry "extern/(internal/reflectlite.Value).Set.unaddressable")
    let val ← loadVar src b
    if ← Rtype.directlyAssignable dst src then storeVar dst a val
    else if ← Rtype.implements dst src then
      if (← Rtype.kind src) == 20 then
        match val with
        | .nilIface => unsupported (.noEntry "extern/reflectlite: a nil value of one interface type handed on as a value of another")
        | _ => storeVar dst a val
      else storeVar dst a (.iface src val)
    else panicString ("reflectlite.Set: value of type " ++ (← Rtype.spelt src) ++ " is not assignable to type " ++ (← Rtype.spelt dst))
    pure (.tuple #[])) := rfl
theorem e_parts25a (a : Addr) (w : World) : (ReflectliteValue.parts (.agg #[.pointer (some ⟨1, 174, none⟩), .pointer (some a), .int .u64 406])).run Tryz.prog w = .ok (some (174, a, 406)) w := by kernel_rfl
theorem e_parts25 (a : Addr) (w : World) : (ReflectliteValue.parts (.agg #[.pointer (some ⟨1, 174, none⟩), .pointer (some a), .int .u64 150])).run Tryz.prog w = .ok (some (174, a, 150)) w := by kernel_rfl
theorem e_direct25 (w : World) : (Rtype.directlyAssignable 174 174).run Tryz.prog w = .ok true w := by kernel_rfl
theorem e_set25 (ta b e : Addr) (old : Value) (W : World) (hb : W.cell? b = some (.pointer (some e))) (ht : W.cell? ta = some old) (hf : W.frozen? ta = false) :
    (ReflectliteValue.set #[.agg #[.pointer (some ⟨1, 174, none⟩), .pointer (some ta), .int .u64 406], .agg #[.pointer (some ⟨1, 174, none⟩), .pointer (some b), .int .u64 150]]).run Tryz.prog W
      = .ok (.tuple #[]) (W.setCell ta (.pointer (some e))) := by
  rw [rls]
  simp only [Sem.run_bind, e_parts25a, e_parts25, Result.andThen]
  simp [ReflectliteValue.flagAddr, loadVar, isAgg, underlying, Tryz.underlying174, hb, Result.andThen, e_direct25, storeVar, Value.cells, storeCells, Addr.add]
  rw [run_store Tryz.prog W ta _ _ (by rfl)]
  simp [ht, hf]
set_option maxHeartbeats 4000000 in
theorem as_hit (e t : Addr) (old : Value) (w : World) (hg : w.cell? ⟨0, 0, none⟩ = some (.iface 257 (.agg #[.pointer (some ⟨1, 144, none⟩)]))) (ht0 : w.cell? t = some old) (hf0 : w.frozen? t = false) :
    Calls Tryz.prog 93 #[.iface 174 (.pointer (some e)), .iface 176 (.pointer (some t))] w fun ev w' => ev = .returned (.bool true) ∧ w' = ((((w.alloc (.cells #[.pointer (some t)] 176)).alloc (.cells #[.pointer (some ⟨1, 176, none⟩), .pointer (some ⟨w.heap.size, 0, none⟩), .int .u64 150] 224)).alloc (.cells #[.pointer (some ⟨1, 176, none⟩), .pointer (some ⟨w.heap.size, 0, none⟩), .int .u64 150] 224)).alloc (.cells #[.pointer (some e)] 174)).setCell t (.pointer (some e)) := by
  have h6 := @run_callFunc_extern Tryz.prog 115 _ (fun args => ReflectliteValue.unpack (args.getD 0 (.tuple #[]))) Tryz.func115 (by kernel_rfl) (by kernel_rfl) (by kernel_rfl) (by kernel_rfl)
  have h7 := @run_callFunc_extern Tryz.prog 116 _ (ReflectliteValue.methodAny (ReflectliteValue.valueError "reflectlite.Value.Type" 0) (fun t _ _ _ => ReflectliteType.toType t)) Tryz.func116 (by kernel_rfl) (by kernel_rfl) (by kernel_rfl) (by kernel_rfl)
  have h8 := @run_callFunc_extern Tryz.prog 117 _ (ReflectliteValue.method (ReflectliteValue.valueError "reflectlite.Value.IsNil" 0) ReflectliteValue.isNil) Tryz.func117 (by kernel_rfl) (by kernel_rfl) (by kernel_rfl) (by kernel_rfl)
  have h27 := @run_callFunc_extern Tryz.prog 161 _ (ReflectliteType.abiMethod fun t => do pure (.int .u8 (← Rtype.kind t))) Tryz.func161 (by kernel_rfl) (by kernel_rfl) (by kernel_rfl) (by kernel_rfl)
  have h37 := @run_callFunc_extern Tryz.prog 194 _ (ReflectliteType.method ReflectliteType.elem) Tryz.func194 (by kernel_rfl) (by kernel_rfl) (by kernel_rfl) (by kernel_rfl)
  have h38 := @run_callFunc_extern Tryz.prog 195 _ (ReflectliteType.relation "Implements" ReflectliteType.implements_) Tryz.func195 (by kernel_rfl) (by kernel_rfl) (by kernel_rfl) (by kernel_rfl)
  have h10 := @run_callFunc_extern Tryz.prog 132 _ ReflectliteType.typeOf Tryz.func132 (by kernel_rfl) (by kernel_rfl) (by kernel_rfl) (by kernel_rfl)
  have h35 := @run_callFunc_extern Tryz.prog 192 _ (ReflectliteType.relation "AssignableTo" ReflectliteType.assignableTo) Tryz.func192 (by kernel_rfl) (by kernel_rfl) (by kernel_rfl) (by kernel_rfl)
  have h11 := @run_callFunc_extern Tryz.prog 133 _ (ReflectliteValue.method (ReflectliteValue.valueError "reflectlite.Value.Elem" 0) ReflectliteValue.elem) Tryz.func133 (by kernel_rfl) (by kernel_rfl) (by kernel_rfl) (by kernel_rfl)
  have h12 := @run_callFunc_extern Tryz.prog 134 _ ReflectliteValue.set Tryz.func134 (by kernel_rfl) (by kernel_rfl) (by kernel_rfl) (by kernel_rfl)
  have tO := e_typeOf25
  have mA := e_methodAssignableTo
  have a25 := e_assignable25
  have v25 := e_valueOf25
  have f6 := e_valueOf27
  have f7 := e_type27
  have mK := e_methodKind
  have mE := e_methodElem
  have mI := e_methodImplements
  have k27 := e_kind27
  have k25 := e_kind25
  have e27 := e_elem27
  have i25 := e_implements25
  have n8 := e_isNil27 ⟨w.heap.size, 0, none⟩ t ((w.alloc (.cells #[.pointer (some t)] 176)).alloc (.cells #[.pointer (some ⟨1, 176, none⟩), .pointer (some ⟨w.heap.size, 0, none⟩), .int .u64 150] 224)) (by simp)
  have hlt : 0 < w.heap.size := by
    rcases Nat.eq_zero_or_pos w.heap.size with h0 | h
    · simp [World.cell?, h0] at hg
    · exact h
  have hg2 : ((w.alloc (.cells #[.pointer (some t)] 176)).alloc (.cells #[.pointer (some ⟨1, 176, none⟩), .pointer (some ⟨w.heap.size, 0, none⟩), .int .u64 150] 224)).cell? ⟨0, 0, none⟩ = some (.iface 257 (.agg #[.pointer (some ⟨1, 144, none⟩)])) := by
    rw [World.cell?_alloc_lt _ _ ⟨0, 0, none⟩ (by simp), World.cell?_alloc_lt _ _ ⟨0, 0, none⟩ hlt]; exact hg
  have htl : t.block < w.heap.size := by
    rcases Nat.lt_or_ge t.block w.heap.size with h | h
    · exact h
    · simp [World.cell?, Array.getElem?_eq_none h] at ht0
  have el := e_elemV27 ⟨w.heap.size, 0, none⟩ t (((w.alloc (.cells #[.pointer (some t)] 176)).alloc (.cells #[.pointer (some ⟨1, 176, none⟩), .pointer (some ⟨w.heap.size, 0, none⟩), .int .u64 150] 224)).alloc (.cells #[.pointer (some ⟨1, 176, none⟩), .pointer (some ⟨w.heap.size, 0, none⟩), .int .u64 150] 224)) (by rw [World.cell?_alloc_lt _ _ ⟨w.heap.size, 0, none⟩ (by simp; omega)]; simp)
  have st := e_set25 t ⟨w.heap.size + 1 + 1 + 1, 0, none⟩ e old ((((w.alloc (.cells #[.pointer (some t)] 176)).alloc (.cells #[.pointer (some ⟨1, 176, none⟩), .pointer (some ⟨w.heap.size, 0, none⟩), .int .u64 150] 224)).alloc (.cells #[.pointer (some ⟨1, 176, none⟩), .pointer (some ⟨w.heap.size, 0, none⟩), .int .u64 150] 224)).alloc (.cells #[.pointer (some e)] 174))
    (by rw [World.cell?_alloc_at _ _ _ _ (by simp)]; rfl)
    (by rw [World.cell?_alloc_lt _ _ t (by simp; omega), World.cell?_alloc_lt _ _ t (by simp; omega), World.cell?_alloc_lt _ _ t (by simp; omega), World.cell?_alloc_lt _ _ t htl]; exact ht0)
    (by rw [World.frozen?_alloc_old _ _ t (by simp; omega), World.frozen?_alloc_old _ _ t (by simp; omega), World.frozen?_alloc_old _ _ t (by simp; omega), World.frozen?_alloc_old _ _ t (Nat.ne_of_lt htl)]; exact hf0)
  go_enter Tryz.func93, Tryz.ntmps93
  go_wp2
  refine wp_loop_rounds 1 ?_
  rw [rounds_succ]
  go_wp2
  go_ret
  exact ⟨rfl, rfl⟩
end Go.Proofs.YtdiaogcogkapgaaGreatDoor
namespace Go.Proofs.YtdiaogcogkapgaaGreatDoor
open Go.RowKit
noncomputable section
attribute [local irreducible] T.put T.set
def handle : Value := .iface 257 (.agg #[.pointer (some ⟨1, 144, none⟩)])
def hOk (Hp : H) : Bool := match Hp.h.get 0 with
  | some (.glob b0 v) => match v with
    | .iface r (.agg a) => match a.toList with
      | [.pointer (some ⟨B, o, none⟩)] => Nat.beq b0 0 && Nat.beq r 257 && Nat.beq B 1 && Nat.beq o 144
      | _ => false
    | _ => false
  | _ => false
theorem hOk_ok {Hp : H} (h : hOk Hp = true) : Hp.h.get 0 = some (.glob 0 handle) := by
  unfold hOk at h
  split at h
  · rename_i b0 v hg
    split at h
    · rename_i r a
      split at h
      · rename_i B o ha
        simp only [Bool.and_eq_true] at h
        obtain ⟨⟨⟨h1, h2⟩, h3⟩, h4⟩ := h
        rw [hg, Nat.eq_of_beq_eq_true h1, Nat.eq_of_beq_eq_true h2]
        have : a = #[.pointer (some ⟨B, o, none⟩)] := by apply Array.ext'; simpa using ha
        rw [this, Nat.eq_of_beq_eq_true h3, Nat.eq_of_beq_eq_true h4]
        rfl
      · cases h
    · cases h
  · cases h
def asX (vs : List V) (Hp : H) : Option (V × H) := match vs with
  | [.ifc t (.ptr k off), .ifc t2 (.ptr k2 off2)] => match Nat.beq t 174, Nat.beq t2 176, hOk Hp, Hp.h.get k2 with
    | true, true, true, some (.cells c E) => match c.get off2 with
      | some _ => some (.bool true, Hp.upd k2 (.cells (c.set off2 (.ptr k off)) E))
      | none => none
    | _, _, _, _ => none
  | _ => none
theorem setCell_row {W : World} {b off : Nat} {v : Value} {cs : Array Value} {E : TypeId} {fr : Nat × Nat} (h : W.heap[b]? = some (.cells cs E fr)) : W.setCell ⟨b, off, none⟩ v = W.setRow b (cs.setIfInBounds off v) := by
  unfold World.setCell World.setRow
  congr 1
  apply Array.ext_getElem?
  intro i
  rw [Array.getElem?_modify, Array.getElem?_modify]
  by_cases e : b = i
  · subst e; rw [if_pos rfl, if_pos rfl, h]; simp
  · rw [if_neg e, if_neg e]
theorem as_ok {Hp : H} {vs : List V} {v : V} {H2 : H} (h : asX vs Hp = some (v, H2)) : Ext Hp H2 ∧ ∀ bs M F vs', HCov bs Hp M → RVs bs vs vs' → Fn Tryz.prog 93 vs' (M ++ F) (FPost bs Hp M F v H2) := by
  unfold asX at h
  split at h
  · rename_i t k off t2 k2 off2
    split at h
    · rename_i c E g1 g2 g3 g4
      split at h
      · rename_i old g5
        cases h
        refine ⟨.upd _ _ _, fun bs M F vs' hm hvs g w hmem => ?_⟩
        obtain rfl := Nat.eq_of_beq_eq_true g1
        obtain rfl := Nat.eq_of_beq_eq_true g2
        cases hvs with
        | cons h1 hvs => cases hvs with
          | cons h2 hvs => cases hvs with
            | nil =>
              cases h1 with
              | ifc _ h1 => cases h2 with
                | ifc _ h2 =>
                  obtain ⟨b, base, av, rfl, hk⟩ := h1.ptr_inv
                  obtain ⟨b2, base2, av2, rfl, hk2⟩ := h2.ptr_inv
                  obtain ⟨b', base', av', i, o', a1, a2, a3⟩ := hm.at_ k2 _ g4
                  rw [hk2] at a1; cases a1
                  have a4 := a3
                  obtain ⟨cs, rfl, a5, a6⟩ := a4
                  obtain ⟨a7, old', a8, _⟩ := a6 off2 _ g5
                  obtain ⟨b0, base0, av0, i0, o0, c1, c2, rfl, cs0, E0, fr0, rfl, c3⟩ := hm.at_ 0 _ (hOk_ok g3)
                  have hi2 : (M ++ F)[i]? = some (b2, .cells cs E (0, 0)) := by rw [List.getElem?_append_left (List.getElem?_eq_some_iff.1 a2).1]; exact a2
                  have hi0 : (M ++ F)[i0]? = some (0, .cells cs0 E0 fr0) := by rw [List.getElem?_append_left (List.getElem?_eq_some_iff.1 c2).1]; exact c2
                  have hw2 := hmem.at_ hi2
                  have hw0 := hmem.at_ hi0
                  have hg : w.cell? ⟨0, 0, none⟩ = some handle := by rw [cell_of_row w _ 0 cs0 E0 fr0 hw0]; exact c3
                  have ht : w.cell? ⟨b2, base2 + off2, none⟩ = some old' := by rw [cell_of_row w b2 (base2 + off2) cs E (0, 0) hw2]; exact a8
                  have hf : w.frozen? ⟨b2, base2 + off2, none⟩ = false := by
                    simp [World.frozen?, hw2]
                  have hlt : b2 < w.heap.size := hmem.lt _ (List.mem_of_getElem? hi2)
                  refine (as_hit ⟨b, base + off, none⟩ ⟨b2, base2 + off2, none⟩ old' w hg ht hf).mono fun e w' ⟨he, hw'⟩ => ?_
                  have hm4 := (((hmem.alloc (.cells #[.pointer (some ⟨b2, base2 + off2, none⟩)] 176)).alloc (.cells #[.pointer (some ⟨1, 176, none⟩), .pointer (some ⟨w.heap.size, 0, none⟩), .int .u64 150] 224)).alloc (.cells #[.pointer (some ⟨1, 176, none⟩), .pointer (some ⟨w.heap.size, 0, none⟩), .int .u64 150] 224)).alloc (.cells #[.pointer (some ⟨b, base + off, none⟩)] 174)
                  have hm5 : Mem g (M ++ F) _ := hm4.sublist ((((List.sublist_cons_self _ _).trans (List.sublist_cons_self _ _)).trans (List.sublist_cons_self _ _)).trans (List.sublist_cons_self _ _))
                  have hset := hm5.setRow hi2 (cs.setIfInBounds (base2 + off2) (.pointer (some ⟨b, base + off, none⟩)))
                  have hL : (M ++ F).set i (b2, .cells (cs.setIfInBounds (base2 + off2) (.pointer (some ⟨b, base + off, none⟩))) E (0, 0)) = M.set i (b2, .cells (cs.setIfInBounds (base2 + off2) (.pointer (some ⟨b, base + off, none⟩))) E (0, 0)) ++ F := List.set_append_left _ _ (List.getElem?_eq_some_iff.1 a2).1
                  have hRO : RO bs b2 base2 av2 (.cells (c.set off2 (.ptr k off)) E) (.cells (cs.setIfInBounds (base2 + off2) (.pointer (some ⟨b, base + off, none⟩))) E (0, 0)) := by
                    refine ⟨_, rfl, by rw [Array.size_setIfInBounds]; exact a5, fun j u hj => ?_⟩
                    rcases T.get_set hj with ⟨rfl, rfl⟩ | ⟨hne, hj⟩
                    · refine ⟨a7, .pointer (some ⟨b, base + off, none⟩), ?_, .ptr hk⟩
                      have : base2 + j < cs.size := by omega
                      simp [this]
                    · obtain ⟨q1, q2, q3, q4⟩ := a6 j u hj
                      refine ⟨q1, q2, ?_, q4⟩
                      rw [Array.getElem?_setIfInBounds_ne (by omega)]; exact q3
                  have hnod : ((M ++ F).map Prod.fst).Nodup := hmem.nodup
                  have hpost := Post_upd (bs := bs) (s := noS) (Hp := ⟨Hp.h, Hp.n, Hp.log, []⟩) (M := M) (F := F) (σ := ⟨[], [], M ++ F⟩) (s2 := noS) (k := k2) (ob := .cells c E) (σ' := ⟨[], [], (M ++ F).set i (b2, .cells (cs.setIfInBounds (base2 + off2) (.pointer (some ⟨b, base + off, none⟩))) E (0, 0))⟩) ⟨covS_none, rfl, ⟨hm.n, hm.at_, hm.inj⟩, rfl⟩ hnod g4 hk2 a2 hRO covS_none rfl rfl
                  obtain ⟨r, M', f1, f2, f3, f4, f5, f6⟩ := hpost
                  refine ⟨.bool true, _, he, ?_, r, M', f2, .bool true, ⟨f4.n, f4.at_, f4.inj⟩, rfl, f5, f6⟩
                  rw [hw']
                  rw [setCell_row (hm5.at_ hi2)]
                  exact hset
      · cases h
    · cases h
  · cases h
def doorPr : PrimF := fun f vs Hp => match Nat.beq f 93 with
  | true => asX vs Hp
  | false => none
theorem doorPr_ok : PrimOk Tryz.prog doorPr := by
  refine ⟨fun f vs Hp v H2 h => ?_, fun f vs Hp v H2 h => ?_, fun f vs Hp v H2 h bs M F vs' hm hvs => ?_⟩
  · unfold doorPr at h
    split at h
    · exact (as_ok h).1
    · cases h
  · unfold doorPr at h
    split at h
    · rename_i e; rw [Nat.eq_of_beq_eq_true e]; infer_instance
    · cases h
  · unfold doorPr at h
    split at h
    · rename_i e; rw [Nat.eq_of_beq_eq_true e]; exact (as_ok h).2 bs M F vs' hm hvs
    · cases h
def doorH : H := ⟨(T.e).set 0 (.glob 0 handle), 1, [], []⟩
theorem doorH_cov {cs : Array Value} {E : TypeId} {fr : Nat × Nat} (h : cs[0]? = some handle) : HCov [(0, 0, 0)] doorH [(0, .cells cs E fr)] := by
  have key : ∀ {k : Nat} {o : O}, doorH.h.get k = some o → k = 0 ∧ o = .glob 0 handle := fun {k o} hk => by
    rcases T.get_set hk with ⟨h1, h2⟩ | ⟨_, h2⟩
    · exact ⟨h1, h2.symm⟩
    · cases h2
  refine ⟨rfl, fun k o hk => ?_, fun j k o o' b x y x' y' hj hk _ _ => ?_⟩
  · obtain ⟨rfl, rfl⟩ := key hk
    exact ⟨_, 0, 0, 0, _, rfl, rfl, rfl, cs, E, fr, rfl, h⟩
  · rw [(key hj).1, (key hk).1]
theorem doorH_zero : ∀ k o, doorH.h.get k = some o → k = 0 := fun k o hk => by
  rcases T.get_set hk with ⟨h1, _⟩ | ⟨_, h2⟩
  · exact h1
  · cases h2
end
end Go.Proofs.YtdiaogcogkapgaaGreatDoor
namespace Go.Proofs.YtdiaogcogkapgaaGreatDoor
open Go.RowKit
def HandleIn (L : List (Nat × Obj)) : Prop := ∃ cs E fr, (0, Obj.cells cs E fr) ∈ L ∧ cs[0]? = some handle
theorem HandleIn.cons {L : List (Nat × Obj)} (p : Nat × Obj) (h : HandleIn L) : HandleIn (p :: L) := by
  obtain ⟨cs, E, fr, h1, h2⟩ := h
  exact ⟨cs, E, fr, List.mem_cons_of_mem _ h1, h2⟩
theorem HandleIn.app {L : List (Nat × Obj)} (A : List (Nat × Obj)) (h : HandleIn L) : HandleIn (A ++ L) := by
  obtain ⟨cs, E, fr, h1, h2⟩ := h
  exact ⟨cs, E, fr, List.mem_append_right _ h1, h2⟩
end Go.Proofs.YtdiaogcogkapgaaGreatDoor
namespace Go.Proofs.YtdiaogcogkapgaaGreatDoor
open Go.RowKit
attribute [local irreducible] Fn WC WL WR OW Qt YieldFn QW FnP FnD
theorem as_fn {L : List (Nat × Obj)} (hH : HandleIn L) {t : Nat} {e : Addr} {old : Value} {E : TypeId} {i : Nat} (hi : L[i]? = some (t, .cells #[old] E (0, 0))) :
    Fn Tryz.prog 93 [.iface 174 (.pointer (some e)), .iface 176 (.pointer (some ⟨t, 0, none⟩))] L (fun v L' => v = .bool true ∧ L' = L.set i (t, .cells #[.pointer (some e)] E (0, 0))) := by
  unfold Fn
  intro g w hm
  obtain ⟨cs, E0, fr, h1, h2⟩ := hH
  have hw0 := hm.has _ h1
  have hg : w.cell? ⟨0, 0, none⟩ = some handle := by rw [cell_of_row w _ 0 cs E0 fr hw0]; exact h2
  have ht : w.cell? ⟨t, 0, none⟩ = some old := by rw [cell_of_row w t 0 #[old] E (0, 0) (hm.at_ hi)]; rfl
  have hf : w.frozen? ⟨t, 0, none⟩ = false := by simp [World.frozen?, hm.at_ hi]
  refine (as_hit e ⟨t, 0, none⟩ old w hg ht hf).mono fun ev' w' ⟨he, hw'⟩ => ?_
  have hm4 := (((hm.alloc (.cells #[.pointer (some ⟨t, 0, none⟩)] 176)).alloc (.cells #[.pointer (some ⟨1, 176, none⟩), .pointer (some ⟨w.heap.size, 0, none⟩), .int .u64 150] 224)).alloc (.cells #[.pointer (some ⟨1, 176, none⟩), .pointer (some ⟨w.heap.size, 0, none⟩), .int .u64 150] 224)).alloc (.cells #[.pointer (some e)] 174)
  have hm5 : Mem g L _ := hm4.sublist ((((List.sublist_cons_self _ _).trans (List.sublist_cons_self _ _)).trans (List.sublist_cons_self _ _)).trans (List.sublist_cons_self _ _))
  have hset := hm5.setRow hi (#[old].setIfInBounds 0 (.pointer (some e)))
  refine ⟨.bool true, _, he, ?_, rfl, rfl⟩
  rw [hw', setCell_row (hm5.at_ hi)]
  exact hset
theorem bNext_le {l : List UInt8} {a : Nat} (h : bCode l a = 0) : a + 1 ≤ l.length := by
  unfold bCode at h
  split at h
  · omega
  · cases h
theorem tNext_le {l : List UInt8} {a : Nat} (h : tCode l a = 0) : a + 1 ≤ l.length := by
  unfold tCode at h
  split at h
  · omega
  · cases h
end Go.Proofs.YtdiaogcogkapgaaGreatDoor
namespace Go.Proofs.YtdiaogcogkapgaaGreatDoor
open Go.RowKit
theorem ofNat_hi {d : Nat} (h : d < 128) : (UInt8.ofNat (d + 128)).toNat = d + 128 := by simp only [UInt8.toNat_ofNat']; omega
theorem ofNat_lo {d : Nat} (h : d < 128) : (UInt8.ofNat d).toNat = d := by simp only [UInt8.toNat_ofNat']; omega
theorem encH_ge (n : Nat) : ∀ u ∈ encH n, 128 ≤ u.toNat := by
  induction n using Nat.strongRecOn with
  | _ n ih =>
    by_cases h : n = 0
    · subst h; rw [encH_zero]; simp
    · rw [encH_pos h]
      intro u hu
      rcases List.mem_append.1 hu with hu | hu
      · exact ih (n / 128) (by omega) u hu
      · simp only [List.mem_singleton] at hu
        subst hu
        rw [ofNat_hi (by omega)]; omega
theorem takeWhile_stop {p : UInt8 → Bool} : ∀ (a : List UInt8) (u : UInt8) (r : List UInt8), (∀ x ∈ a, p x = true) → p u = false → (a ++ u :: r).takeWhile p = a
  | [], u, r, _, h => by simp [h]
  | x :: a, u, r, h1, h2 => by
    rw [List.cons_append, List.takeWhile_cons_of_pos (h1 x (by simp)), takeWhile_stop a u r (fun y hy => h1 y (by simp [hy])) h2]
theorem cont_enc {pre post : List UInt8} {n : Nat} : cont (pre ++ (enc n ++ post)) pre.length = (encH (n / 128)).length := by
  unfold cont
  rw [List.drop_left, enc, List.append_assoc, List.singleton_append, takeWhile_stop]
  · intro x hx; simpa using encH_ge _ x hx
  · rw [ofNat_lo (by omega)]; simp; omega
theorem encH_head : ∀ (m : Nat), m ≠ 0 → ∃ d rest, encH m = UInt8.ofNat (d + 128) :: rest ∧ 1 ≤ d ∧ d < 128 ∧ d * 128 ^ rest.length ≤ m := by
  intro m
  induction m using Nat.strongRecOn with
  | _ m ih =>
    intro h
    rw [encH_pos h]
    by_cases h0 : m / 128 = 0
    · rw [h0, encH_zero]
      exact ⟨m % 128, [], rfl, by omega, by omega, by simp; omega⟩
    · obtain ⟨d, rest, e, h1, h2, h3⟩ := ih (m / 128) (by omega) h0
      refine ⟨d, rest ++ [UInt8.ofNat (m % 128 + 128)], by rw [e]; rfl, h1, h2, ?_⟩
      rw [List.length_append, List.length_singleton, Nat.pow_succ, ← Nat.mul_assoc]
      calc d * 128 ^ rest.length * 128 ≤ m / 128 * 128 := Nat.mul_le_mul_right _ h3
        _ ≤ m := by omega
theorem val_encH (m : Nat) (h : m < 18446744073709551616) : val (encH m) = m := by
  induction m using Nat.strongRecOn with
  | _ m ih =>
    by_cases h0 : m = 0
    · subst h0; rw [encH_zero]; rfl
    · rw [encH_pos h0, val_snoc, ih (m / 128) (by omega) (by omega), ofNat_hi (by omega)]
      omega
theorem val_enc {n : Nat} (h : n < 18446744073709551616) : val (enc n) = n := by
  rw [enc, val_snoc, val_encH _ (by omega), ofNat_lo (by omega)]
  omega
theorem read_enc {pre post : List UInt8} {n : Nat} (h : n < 18446744073709551616) :
    uCode (pre ++ (enc n ++ post)) pre.length = 0 ∧ uVal (pre ++ (enc n ++ post)) pre.length = n ∧ uNext (pre ++ (enc n ++ post)) pre.length = (pre ++ enc n).length := by
  have hc := cont_enc (pre := pre) (post := post) (n := n)
  have hl := enc_len h
  have hle : (enc n).length = (encH (n / 128)).length + 1 := by simp [enc]
  refine ⟨?_, ?_, ?_⟩
  · unfold uCode
    rw [hc, if_neg (by simp; omega)]
    have hfirst : (pre ++ (enc n ++ post))[pre.length]? = (enc n ++ post)[0]? := by rw [List.getElem?_append_right (Nat.le_refl _), Nat.sub_self]
    rw [hfirst]
    by_cases h0 : n / 128 = 0
    · rw [enc, h0, encH_zero]
      have hne : UInt8.ofNat (n % 128) ≠ 128 := fun e => by
        have := congrArg UInt8.toNat e
        rw [ofNat_lo (by omega)] at this
        simp at this; omega
      rw [if_neg (by simpa using hne), if_pos (.inl (by simp))]
    · obtain ⟨d, rest, e, h1, h2, h3⟩ := encH_head (n / 128) h0
      have hne : UInt8.ofNat (d + 128) ≠ 128 := fun e => by
        have := congrArg UInt8.toNat e
        rw [ofNat_hi h2] at this
        simp at this; omega
      have hf : (enc n ++ post)[0]? = some (UInt8.ofNat (d + 128)) := by rw [enc, e]; rfl
      rw [hf, if_neg (by simpa using hne), if_pos]
      by_cases hlen : (encH (n / 128)).length + 1 < 10
      · exact .inl hlen
      · right
        refine ⟨by omega, ?_⟩
        have hr : rest.length = 8 := by rw [e] at hlen hle; simp at hlen hle; omega
        rw [hr] at h3
        have hd : d * 72057594037927936 ≤ n / 128 := h3
        have : d = 1 := by omega
        rw [this]; rfl
  · unfold uVal
    rw [hc, List.drop_left, ← hle, List.take_left, val_enc h]
  · unfold uNext
    rw [hc]; simp; omega
def vexact (xs : List UInt8) : Nat := xs.foldl (fun n u => n * 128 + u.toNat % 128) 0
theorem vexact_snoc (xs : List UInt8) (u : UInt8) : vexact (xs ++ [u]) = vexact xs * 128 + u.toNat % 128 := by unfold vexact; rw [List.foldl_append]; rfl
theorem list_rec {α : Type} {P : List α → Prop} (h0 : P []) (h1 : ∀ xs u, P xs → P (xs ++ [u])) (xs : List α) : P xs := by
  have : ∀ ys : List α, P ys.reverse := by
    intro ys
    induction ys with
    | nil => exact h0
    | cons y ys ih => rw [List.reverse_cons]; exact h1 _ _ ih
  have h := this xs.reverse
  rwa [List.reverse_reverse] at h
theorem val_vexact (xs : List UInt8) : val xs = vexact xs % 18446744073709551616 := by
  refine list_rec (P := fun xs => val xs = vexact xs % 18446744073709551616) rfl (fun xs u h => ?_) xs
  rw [val_snoc, vexact_snoc, h]; omega
theorem vexact_lt (xs : List UInt8) : vexact xs < 128 ^ xs.length := by
  refine list_rec (P := fun xs => vexact xs < 128 ^ xs.length) (by decide) (fun xs u h => ?_) xs
  rw [vexact_snoc, List.length_append, List.length_singleton, Nat.pow_succ]
  have := Nat.mod_lt u.toNat (show 0 < 128 by decide)
  omega
theorem vexact_cons (u : UInt8) (xs : List UInt8) : vexact (u :: xs) = u.toNat % 128 * 128 ^ xs.length + vexact xs := by
  refine list_rec (P := fun xs => vexact (u :: xs) = u.toNat % 128 * 128 ^ xs.length + vexact xs) (by simp [vexact]) (fun xs w h => ?_) xs
  rw [← List.cons_append, vexact_snoc, h, vexact_snoc, List.length_append, List.length_singleton, Nat.pow_succ, Nat.add_mul, Nat.mul_assoc]
  omega
theorem encH_back : ∀ (ys : List UInt8), (∀ u ∈ ys, 128 ≤ u.toNat) → ys.head? ≠ some 128 → encH (vexact ys) = ys := by
  intro ys
  refine list_rec (P := fun ys => (∀ u ∈ ys, 128 ≤ u.toNat) → ys.head? ≠ some 128 → encH (vexact ys) = ys) (fun _ _ => by unfold vexact; rw [List.foldl_nil, encH_zero]) (fun zs w ih hge hh => ?_) ys
  have hw := hge w (by simp)
  have hw2 := w.toNat_lt
  have hback : UInt8.ofNat (w.toNat % 128 + 128) = w := UInt8.toNat_inj.1 (by rw [ofNat_hi (by omega)]; omega)
  cases zs with
  | nil =>
    have hne : w.toNat ≠ 128 := fun e => hh (by rw [show w = 128 from UInt8.toNat_inj.1 (by simpa using e)]; rfl)
    have e : vexact ([] ++ [w]) = w.toNat % 128 := by simp [vexact]
    rw [e, encH_pos (by omega), show w.toNat % 128 / 128 = 0 by omega, encH_zero, Nat.mod_mod, hback]
  | cons z zs =>
    have h1 := ih (fun u hu => hge u (by simp at hu ⊢; rcases hu with h | h <;> simp [h])) hh
    have h0 : vexact (z :: zs) ≠ 0 := fun e => by rw [e, encH_zero] at h1; cases h1
    rw [vexact_snoc, encH_pos (by omega), show (vexact (z :: zs) * 128 + w.toNat % 128) / 128 = vexact (z :: zs) by omega, h1, show (vexact (z :: zs) * 128 + w.toNat % 128) % 128 = w.toNat % 128 by omega, hback]
theorem enc_read {l : List UInt8} {a : Nat} (h : uCode l a = 0) : enc (uVal l a) = (l.drop a).take (cont l a + 1) := by
  have hcd := h
  unfold uCode at h
  split at h
  · cases h
  · rename_i hlen
    split at h
    · cases h
    · rename_i hne
      split at h
      · rename_i hm
        obtain ⟨u, hu⟩ : ∃ u, l[a + cont l a]? = some u := ⟨_, List.getElem?_eq_getElem (by omega)⟩
        have hu128 := cont_end hu
        have hsplit : (l.drop a).take (cont l a + 1) = (l.drop a).take (cont l a) ++ [u] := by
          rw [List.take_add_one, List.getElem?_drop, hu]; rfl
        have hys : ∀ y ∈ (l.drop a).take (cont l a), 128 ≤ y.toNat := by
          intro y hy
          obtain ⟨j, hj⟩ := List.mem_iff_getElem?.1 hy
          have hjc : j < cont l a := by
            have := (List.getElem?_eq_some_iff.1 hj).1
            simp at this; omega
          obtain ⟨x, hx, hx2⟩ := cont_lt hjc
          rw [List.getElem?_take_of_lt hjc, List.getElem?_drop, hx] at hj
          cases hj; exact hx2
        have hhead : ((l.drop a).take (cont l a)).head? ≠ some 128 := by
          intro e
          rw [List.head?_eq_getElem?] at e
          have hc0 : 0 < cont l a := by
            have := (List.getElem?_eq_some_iff.1 e).1
            simp at this; omega
          rw [List.getElem?_take_of_lt hc0, List.getElem?_drop, Nat.add_zero] at e
          exact hne e
        have hb := encH_back _ hys hhead
        have hll : ((l.drop a).take (cont l a)).length = cont l a := by simp; omega
        have hex : vexact ((l.drop a).take (cont l a + 1)) < 18446744073709551616 := by
          rcases hm with hm | ⟨hm, hm2⟩
          · have := vexact_lt ((l.drop a).take (cont l a + 1))
            rw [hsplit, List.length_append, hll, List.length_singleton] at this
            rw [hsplit]
            have hp : 128 ^ (cont l a + 1) ≤ 128 ^ 9 := Nat.pow_le_pow_right (by decide) (by omega)
            have : (128 : Nat) ^ 9 = 9223372036854775808 := rfl
            omega
          · obtain ⟨r, hr⟩ : ∃ r, (l.drop a).take (cont l a + 1) = 129 :: r := by
              cases hq : (l.drop a).take (cont l a + 1) with
              | nil => rw [hsplit] at hq; simp at hq
              | cons y r =>
                have h0 : ((l.drop a).take (cont l a + 1))[0]? = some y := by rw [hq]; rfl
                rw [List.getElem?_take_of_lt (by omega), List.getElem?_drop, Nat.add_zero, hm2] at h0
                cases h0; exact ⟨r, rfl⟩
            have hrl : r.length = 9 := by
              have := congrArg List.length hr
              rw [hsplit, List.length_append, hll] at this
              simp at this; omega
            rw [hr, vexact_cons, hrl]
            have h3 := vexact_lt r
            rw [hrl] at h3
            have h4 : (128 : Nat) ^ 9 = 9223372036854775808 := rfl
            rw [h4] at h3 ⊢
            have h5 : (129 : UInt8).toNat % 128 = 1 := by decide
            rw [h5]; omega
        have hv : uVal l a = vexact ((l.drop a).take (cont l a + 1)) := by
          unfold uVal; rw [val_vexact, Nat.mod_eq_of_lt hex]
        rw [hv, hsplit, vexact_snoc, enc, show (vexact ((l.drop a).take (cont l a)) * 128 + u.toNat % 128) / 128 = vexact ((l.drop a).take (cont l a)) by omega, hb]
        congr 1
        rw [show (vexact ((l.drop a).take (cont l a)) * 128 + u.toNat % 128) % 128 = u.toNat by omega, UInt8.ofNat_toNat]
      · cases h
theorem whole_zz {x : Int} (h0 : -9223372036854775808 ≤ x) (h1 : x < 9223372036854775808) : whole (zz x) = x := by
  unfold zz
  split
  · unfold whole; rw [if_pos (by omega)]; omega
  · unfold whole; rw [if_neg (by omega)]; omega
end Go.Proofs.YtdiaogcogkapgaaGreatDoor
namespace Go.Proofs.YtdiaogcogkapgaaGreatDoor
open Go.RowKit
inductive Fk where
  | ww | nn | kk | tt | bb
def Fk.enc : Fk → Value → List UInt8
  | .ww, .int _ x => Go.Proofs.YtdiaogcogkapgaaGreatDoor.enc (zz x)
  | .nn, .int _ x => Go.Proofs.YtdiaogcogkapgaaGreatDoor.enc x.toNat
  | .kk, .int _ x => Go.Proofs.YtdiaogcogkapgaaGreatDoor.enc x.toNat
  | .tt, .bool x => encB x
  | .bb, .int _ x => [UInt8.ofNat x.toNat]
  | _, _ => []
def Fk.ok : Fk → Value → Prop
  | .ww, v => ∃ x : Int, v = .int .i64 x ∧ -9223372036854775808 ≤ x ∧ x < 9223372036854775808
  | .nn, v => ∃ x : Int, v = .int .u64 x ∧ 0 ≤ x ∧ x < 18446744073709551616
  | .kk, v => ∃ x : Int, v = .int .u32 x ∧ 0 ≤ x ∧ x < 4294967296
  | .tt, v => ∃ x : Bool, v = .bool x
  | .bb, v => ∃ x : UInt8, v = bV x
inductive PR (α : Type) where
  | ok (x : α) (next : Nat)
  | bad (code at_ : Nat)
def PR.bind {α β : Type} (r : PR α) (f : α → Nat → PR β) : PR β := match r with
  | .ok x n => f x n
  | .bad c a => .bad c a
def Fk.pr (l : List UInt8) (a : Nat) : Fk → PR Value
  | .ww => if uCode l a = 0 then .ok (.int .i64 (whole (uVal l a))) (uNext l a) else .bad (uCode l a) a
  | .nn => if uCode l a = 0 then .ok (.int .u64 (uVal l a)) (uNext l a) else .bad (uCode l a) a
  | .kk => if uCode l a = 0 then (if uVal l a < 4294967296 then .ok (.int .u32 (uVal l a)) (uNext l a) else .bad 4 a) else .bad (uCode l a) a
  | .tt => if tCode l a = 0 then .ok (.bool ((bVal l a).toNat == 1)) (a + 1) else .bad (tCode l a) a
  | .bb => if bCode l a = 0 then .ok (bV (bVal l a)) (a + 1) else .bad (bCode l a) a
def encs : List Fk → List Value → List UInt8
  | f :: fs, v :: vs => f.enc v ++ encs fs vs
  | _, _ => []
def Oks : List Fk → List Value → Prop
  | [], [] => True
  | f :: fs, v :: vs => f.ok v ∧ Oks fs vs
  | _, _ => False
def prs (l : List UInt8) : List Fk → Nat → PR (List Value)
  | [], a => .ok [] a
  | f :: fs, a => (f.pr l a).bind fun v a' => (prs l fs a').bind fun vs a'' => .ok (v :: vs) a''
def prn (l : List UInt8) (es : List Fk) : Nat → Nat → PR (List (List Value))
  | 0, a => .ok [] a
  | n + 1, a => (prs l es a).bind fun v a' => (prn l es n a').bind fun vs a'' => .ok (v :: vs) a''
def prl (l : List UInt8) (most : Nat) (es : List Fk) (a : Nat) : PR (List (List Value)) :=
  (Fk.nn.pr l a).bind fun _ a' => if uVal l a ≤ most then prn l es (uVal l a) a' else .bad 4 a
def encl (es : List Fk) (vss : List (List Value)) : List UInt8 := enc vss.length ++ vss.flatMap (encs es)
theorem Oks.len : ∀ {fs : List Fk} {vs : List Value}, Oks fs vs → vs.length = fs.length
  | [], [], _ => rfl
  | _ :: _, _ :: _, h => by simp [Oks.len h.2]
  | [], _ :: _, h => h.elim
  | _ :: _, [], h => h.elim
theorem Oks.app : ∀ {fs gs : List Fk} {vs us : List Value}, Oks fs vs → Oks gs us → Oks (fs ++ gs) (vs ++ us)
  | [], _, [], _, _, h => h
  | _ :: _, _, _ :: _, _, h1, h2 => ⟨h1.1, Oks.app h1.2 h2⟩
  | [], _, _ :: _, _, h, _ => h.elim
  | _ :: _, _, [], _, h, _ => h.elim
theorem PR.bind_ok {α β : Type} {r : PR α} {f : α → Nat → PR β} {y : β} {b : Nat} (h : r.bind f = .ok y b) : ∃ x a, r = .ok x a ∧ f x a = .ok y b := by
  cases r with
  | ok x a => exact ⟨x, a, rfl, h⟩
  | bad c a => cases h
theorem prs_app (l : List UInt8) : ∀ (fs gs : List Fk) (a : Nat), prs l (fs ++ gs) a = (prs l fs a).bind fun vs a' => (prs l gs a').bind fun us a'' => .ok (vs ++ us) a''
  | [], gs, a => by
    simp only [List.nil_append, prs, PR.bind]
    cases prs l gs a <;> rfl
  | f :: fs, gs, a => by
    simp only [List.cons_append, prs]
    cases f.pr l a with
    | bad c a => rfl
    | ok v a' =>
      simp only [PR.bind]
      rw [prs_app l fs gs a']
      cases prs l fs a' with
      | bad c a => rfl
      | ok vs a'' =>
        simp only [PR.bind]
        cases prs l gs a'' <;> rfl
theorem zz_whole {n : Nat} : zz (whole n) = n := by
  unfold whole
  split
  · unfold zz; rw [if_pos (by omega)]; omega
  · unfold zz; rw [if_neg (by omega)]; omega
theorem whole_rng {n : Nat} (h : n < 18446744073709551616) : -9223372036854775808 ≤ whole n ∧ whole n < 9223372036854775808 := by
  unfold whole; split <;> omega
def cut (l : List UInt8) (a b : Nat) : List UInt8 := (l.drop a).take (b - a)
theorem cut_app {l : List UInt8} {a b c : Nat} (h1 : a ≤ b) (h2 : b ≤ c) : cut l a b ++ cut l b c = cut l a c := by
  unfold cut
  rw [show c - a = (b - a) + (c - b) by omega, List.take_add, List.drop_drop]
  congr 3
  omega
theorem cut_self (l : List UInt8) (a : Nat) : cut l a a = [] := by unfold cut; simp
theorem byte_cut {l : List UInt8} {a : Nat} (h : a < l.length) : cut l a (a + 1) = [bVal l a] := by
  unfold cut bVal
  rw [show a + 1 - a = 1 by omega, List.getElem?_eq_getElem h, List.drop_eq_getElem_cons h]
  rfl
def Went (l : List UInt8) (ok : Prop) (bs : List UInt8) (a b : Nat) : Prop := ok ∧ a ≤ b ∧ b ≤ l.length ∧ bs = cut l a b
theorem u_went {l : List UInt8} {a : Nat} (h : uCode l a = 0) : a ≤ uNext l a ∧ uNext l a ≤ l.length ∧ enc (uVal l a) = cut l a (uNext l a) := by
  refine ⟨by unfold uNext; omega, uNext_le h, ?_⟩
  rw [enc_read h]
  unfold cut uNext
  congr 1
  omega
theorem pr_went {l : List UInt8} {a b : Nat} {f : Fk} {v : Value} (h : f.pr l a = .ok v b) : Went l (f.ok v) (f.enc v) a b := by
  have hv := val_lt ((l.drop a).take (cont l a + 1))
  cases f with
  | ww =>
    simp only [Fk.pr] at h
    split at h
    · rename_i hc
      cases h
      obtain ⟨h1, h2, h3⟩ := u_went hc
      refine ⟨⟨_, rfl, whole_rng hv⟩, h1, h2, ?_⟩
      show enc (zz (whole (uVal l a))) = _
      rw [zz_whole, h3]
    · cases h
  | nn =>
    simp only [Fk.pr] at h
    split at h
    · rename_i hc
      cases h
      obtain ⟨h1, h2, h3⟩ := u_went hc
      refine ⟨⟨_, rfl, by omega, by unfold uVal; omega⟩, h1, h2, ?_⟩
      show enc ((uVal l a : Nat) : Int).toNat = _
      rw [Int.toNat_natCast, h3]
    · cases h
  | kk =>
    simp only [Fk.pr] at h
    split at h
    · rename_i hc
      split at h
      · cases h
        obtain ⟨h1, h2, h3⟩ := u_went hc
        refine ⟨⟨_, rfl, by omega, by omega⟩, h1, h2, ?_⟩
        show enc ((uVal l a : Nat) : Int).toNat = _
        rw [Int.toNat_natCast, h3]
      · cases h
    · cases h
  | tt =>
    simp only [Fk.pr] at h
    split at h
    · rename_i hc
      cases h
      unfold tCode at hc
      split at hc
      · rename_i hlt
        split at hc
        · rename_i h1
          refine ⟨⟨_, rfl⟩, by omega, by omega, ?_⟩
          rw [byte_cut hlt]
          show encB ((bVal l a).toNat == 1) = _
          by_cases h0 : (bVal l a).toNat = 1
          · rw [show ((bVal l a).toNat == 1) = true by simpa using h0]
            show [1] = _
            congr 1
            exact (UInt8.toNat_inj.1 (by rw [h0]; rfl)).symm
          · rw [show ((bVal l a).toNat == 1) = false by simpa using h0]
            show [0] = _
            congr 1
            exact (UInt8.toNat_inj.1 (show (bVal l a).toNat = 0 by omega)).symm
        · cases hc
      · cases hc
    · cases h
  | bb =>
    simp only [Fk.pr] at h
    split at h
    · rename_i hc
      cases h
      have hlt := bNext_le hc
      refine ⟨⟨_, rfl⟩, by omega, by omega, ?_⟩
      rw [byte_cut (by omega)]
      show [UInt8.ofNat ((bVal l a).toNat : Int).toNat] = _
      rw [Int.toNat_natCast, UInt8.ofNat_toNat]
    · cases h
theorem prs_went {l : List UInt8} : ∀ {fs : List Fk} {a b : Nat} {vs : List Value}, a ≤ l.length → prs l fs a = .ok vs b → Went l (Oks fs vs) (encs fs vs) a b
  | [], a, b, vs, ha, h => by
    cases h
    exact ⟨trivial, Nat.le_refl _, ha, (cut_self l a).symm⟩
  | f :: fs, a, b, vs, ha, h => by
    obtain ⟨v, a', h1, h2⟩ := PR.bind_ok h
    obtain ⟨us, a'', h3, h4⟩ := PR.bind_ok h2
    cases h4
    obtain ⟨o1, l1, l2, e1⟩ := pr_went h1
    obtain ⟨o2, l3, l4, e2⟩ := prs_went l2 h3
    refine ⟨⟨o1, o2⟩, by omega, l4, ?_⟩
    show f.enc v ++ encs fs us = _
    rw [e1, e2, cut_app l1 l3]
theorem prn_went {l : List UInt8} {es : List Fk} : ∀ {n a b : Nat} {vss : List (List Value)}, a ≤ l.length → prn l es n a = .ok vss b → Went l (vss.length = n ∧ ∀ vs ∈ vss, Oks es vs) (vss.flatMap (encs es)) a b
  | 0, a, b, vss, ha, h => by
    cases h
    exact ⟨⟨rfl, by simp⟩, Nat.le_refl _, ha, (cut_self l a).symm⟩
  | n + 1, a, b, vss, ha, h => by
    obtain ⟨v, a', h1, h2⟩ := PR.bind_ok h
    obtain ⟨us, a'', h3, h4⟩ := PR.bind_ok h2
    cases h4
    obtain ⟨o1, l1, l2, e1⟩ := prs_went ha h1
    obtain ⟨o2, l3, l4, e2⟩ := prn_went l2 h3
    refine ⟨⟨by simp [o2.1], fun vs hv => ?_⟩, by omega, l4, ?_⟩
    · rcases List.mem_cons.1 hv with rfl | hv
      · exact o1
      · exact o2.2 _ hv
    · rw [List.flatMap_cons, e1, e2, cut_app l1 l3]
theorem prl_went {l : List UInt8} {es : List Fk} {most a b : Nat} {vss : List (List Value)} (h : prl l most es a = .ok vss b) : Went l (vss.length ≤ most ∧ ∀ vs ∈ vss, Oks es vs) (encl es vss) a b := by
  obtain ⟨v, a', h1, h2⟩ := PR.bind_ok h
  obtain ⟨o1, l1, l2, e1⟩ := pr_went h1
  simp only [Fk.pr] at h1
  split at h1
  · cases h1
    split at h2
    · rename_i hm
      obtain ⟨o2, l3, l4, e2⟩ := prn_went l2 h2
      refine ⟨⟨by omega, o2.2⟩, by omega, l4, ?_⟩
      have e1' : enc (uVal l a) = cut l a (uNext l a) := by
        have : Fk.enc .nn (.int .u64 (uVal l a)) = enc (uVal l a) := by show enc ((uVal l a : Nat) : Int).toNat = _; rw [Int.toNat_natCast]
        rw [← this]; exact e1
      unfold encl
      rw [o2.1, e1', e2, cut_app l1 l3]
    · cases h2
  · cases h1
theorem at_mid {pre post : List UInt8} {u : UInt8} : (pre ++ u :: post)[pre.length]? = some u := by simp
theorem enc_pr {f : Fk} {v : Value} (h : f.ok v) (pre post : List UInt8) : f.pr (pre ++ (f.enc v ++ post)) pre.length = .ok v (pre ++ f.enc v).length := by
  cases f with
  | ww =>
    obtain ⟨x, rfl, h0, h1⟩ := h
    obtain ⟨e1, e2, e3⟩ := read_enc (pre := pre) (post := post) (zz_lt h0 h1)
    show Fk.pr (pre ++ (enc (zz x) ++ post)) pre.length .ww = _
    simp only [Fk.pr]
    rw [if_pos e1, e2, e3, whole_zz h0 h1]
    rfl
  | nn =>
    obtain ⟨x, rfl, h0, h1⟩ := h
    obtain ⟨e1, e2, e3⟩ := read_enc (pre := pre) (post := post) (n := x.toNat) (by omega)
    show Fk.pr (pre ++ (enc x.toNat ++ post)) pre.length .nn = _
    simp only [Fk.pr]
    rw [if_pos e1, e2, e3, show ((x.toNat : Nat) : Int) = x by omega]
    rfl
  | kk =>
    obtain ⟨x, rfl, h0, h1⟩ := h
    obtain ⟨e1, e2, e3⟩ := read_enc (pre := pre) (post := post) (n := x.toNat) (by omega)
    show Fk.pr (pre ++ (enc x.toNat ++ post)) pre.length .kk = _
    simp only [Fk.pr]
    rw [if_pos e1, e2, if_pos (by omega), e3, show ((x.toNat : Nat) : Int) = x by omega]
    rfl
  | tt =>
    obtain ⟨x, rfl⟩ := h
    show Fk.pr (pre ++ (encB x ++ post)) pre.length .tt = _
    cases x
    · have hg : (pre ++ (encB false ++ post))[pre.length]? = some 0 := at_mid
      have hb : bVal (pre ++ (encB false ++ post)) pre.length = 0 := by unfold bVal; rw [hg]; rfl
      have hc : tCode (pre ++ (encB false ++ post)) pre.length = 0 := by
        unfold tCode; rw [hb, if_pos (by simp [encB]), if_pos (by decide)]
      simp only [Fk.pr]
      rw [if_pos hc, hb]
      simp [Fk.enc, encB]
    · have hg : (pre ++ (encB true ++ post))[pre.length]? = some 1 := at_mid
      have hb : bVal (pre ++ (encB true ++ post)) pre.length = 1 := by unfold bVal; rw [hg]; rfl
      have hc : tCode (pre ++ (encB true ++ post)) pre.length = 0 := by
        unfold tCode; rw [hb, if_pos (by simp [encB]), if_pos (by decide)]
      simp only [Fk.pr]
      rw [if_pos hc, hb]
      simp [Fk.enc, encB]
  | bb =>
    obtain ⟨x, rfl⟩ := h
    have e : Fk.enc .bb (bV x) = [x] := by show [UInt8.ofNat ((x.toNat : Nat) : Int).toNat] = _; rw [Int.toNat_natCast, UInt8.ofNat_toNat]
    rw [e]
    have hg : (pre ++ ([x] ++ post))[pre.length]? = some x := at_mid
    have hb : bVal (pre ++ ([x] ++ post)) pre.length = x := by unfold bVal; rw [hg]; rfl
    have hc : bCode (pre ++ ([x] ++ post)) pre.length = 0 := by unfold bCode; rw [if_pos (by simp)]
    simp only [Fk.pr]
    rw [if_pos hc, hb]
    simp
theorem encs_prs : ∀ {fs : List Fk} {vs : List Value}, Oks fs vs → ∀ (pre post : List UInt8), prs (pre ++ (encs fs vs ++ post)) fs pre.length = .ok vs (pre ++ encs fs vs).length
  | [], [], _, pre, post => by simp [prs, encs]
  | f :: fs, v :: vs, h, pre, post => by
    have e1 := enc_pr h.1 pre (encs fs vs ++ post)
    have e2 := encs_prs h.2 (pre ++ f.enc v) post
    have es : pre ++ (encs (f :: fs) (v :: vs) ++ post) = pre ++ (f.enc v ++ (encs fs vs ++ post)) := by show pre ++ (f.enc v ++ encs fs vs ++ post) = _; rw [List.append_assoc]
    have es2 : pre ++ (f.enc v ++ (encs fs vs ++ post)) = (pre ++ f.enc v) ++ (encs fs vs ++ post) := by rw [List.append_assoc]
    rw [es, prs, e1]
    show PR.bind (prs _ fs (pre ++ f.enc v).length) _ = _
    rw [es2, e2]
    show PR.ok _ _ = _
    rw [List.append_assoc]
    rfl
  | [], _ :: _, h, _, _ => h.elim
  | _ :: _, [], h, _, _ => h.elim
theorem encn_prn {es : List Fk} : ∀ {vss : List (List Value)}, (∀ vs ∈ vss, Oks es vs) → ∀ (pre post : List UInt8), prn (pre ++ (vss.flatMap (encs es) ++ post)) es vss.length pre.length = .ok vss (pre ++ vss.flatMap (encs es)).length
  | [], _, pre, post => by simp [prn]
  | v :: vss, h, pre, post => by
    have e1 := encs_prs (h v (List.mem_cons_self ..)) pre (vss.flatMap (encs es) ++ post)
    have e2 := encn_prn (fun vs hv => h vs (List.mem_cons_of_mem _ hv)) (pre ++ encs es v) post
    have s1 : pre ++ ((v :: vss).flatMap (encs es) ++ post) = pre ++ (encs es v ++ (vss.flatMap (encs es) ++ post)) := by rw [List.flatMap_cons, List.append_assoc]
    have s2 : pre ++ (encs es v ++ (vss.flatMap (encs es) ++ post)) = (pre ++ encs es v) ++ (vss.flatMap (encs es) ++ post) := by rw [List.append_assoc]
    rw [s1]
    show prn _ es (vss.length + 1) _ = _
    rw [prn, e1]
    show PR.bind (prn _ es vss.length (pre ++ encs es v).length) _ = _
    rw [s2, e2]
    show PR.ok _ _ = _
    rw [List.append_assoc]
    rfl
theorem encl_prl {es : List Fk} {most : Nat} {vss : List (List Value)} (hm : vss.length ≤ most) (hmm : most ≤ 1000000) (h : ∀ vs ∈ vss, Oks es vs) (pre post : List UInt8) : prl (pre ++ (encl es vss ++ post)) most es pre.length = .ok vss (pre ++ encl es vss).length := by
  obtain ⟨e1, e2, e3⟩ := read_enc (pre := pre) (post := vss.flatMap (encs es) ++ post) (n := vss.length) (by omega)
  have s1 : pre ++ (encl es vss ++ post) = pre ++ (enc vss.length ++ (vss.flatMap (encs es) ++ post)) := by unfold encl; rw [List.append_assoc]
  have s2 : pre ++ (enc vss.length ++ (vss.flatMap (encs es) ++ post)) = (pre ++ enc vss.length) ++ (vss.flatMap (encs es) ++ post) := by rw [List.append_assoc]
  rw [s1]
  simp only [prl, Fk.pr]
  rw [if_pos e1]
  simp only [PR.bind]
  rw [e2, if_pos hm, e3, s2, encn_prn h, List.append_assoc]
  rfl
end Go.Proofs.YtdiaogcogkapgaaGreatDoor
