/-
  A part of what the last of these texts needs; by itself it proves no statement.
-/
import Derived.Test.YtdiaogcogkapgaaGreatDoorRows
import Derived.WalkKit
import Derived.LaidEql
import Derived.Stop.Asserts
import Derived.RowKitTokens
import Derived.Test.YtdiaogcogkapgaaGreatDoorKP3
namespace Go.Proofs.YtdiaogcogkapgaaGreatDoor
open Go.RowKit
attribute [local irreducible] Fn WC WL WR OW Qt YieldFn QW FnP FnD
theorem number_ok {l : List UInt8} {a r : Nat} (ha : a ≤ l.length) (hl : l.length ≤ 1000000000) (hc : uCode l a = 0) (F : List (Nat × Obj)) : Fn Tryz.prog 114 [.pointer (some ⟨r, 0, none⟩)] ((r, rdO l a) :: F) (fun v L' => v = .tuple #[.int .u64 (uVal l a), .int .i64 (uNext l a)] ∧ L' = (r, rdO l a) :: F) := by
  unfold Fn
  intro g w hm
  refine (number_all ha hl F g w hm).mono fun _ _ hE => ?_
  rcases hE with ⟨v, L', h1, h2, _, h3, h4⟩ | ⟨v, L', _, _, h3, _⟩
  · exact ⟨v, L', h1, h2, h3, h4⟩
  · exact absurd hc h3
theorem number_no {l : List UInt8} {a r : Nat} (ha : a ≤ l.length) (hl : l.length ≤ 1000000000) (hc : uCode l a ≠ 0) (F : List (Nat × Obj)) : FnP Tryz.prog 114 [.pointer (some ⟨r, 0, none⟩)] ((r, rdO l a) :: F) (Flt (uCode l a) a ((r, rdO l a) :: F)) := by
  unfold FnP
  intro g w hm
  refine (number_all ha hl F g w hm).mono fun _ _ hE => ?_
  rcases hE with ⟨v, L', h1, h2, h3, _⟩ | ⟨v, L', h1, h2, _, h3⟩
  · exact absurd h3 hc
  · exact ⟨v, L', h1, h2, h3⟩
theorem told_pan2 {x y : Nat × Obj} {cb p : Nat} {old : Value} {F : List (Nat × Obj)} : FnD Tryz.prog 111 [.pointer (some ⟨cb, 0, none⟩)] (x :: y :: (cb, .cells #[old] 144 (0, 0)) :: F) (.panicking (pan (flt p))) (fun u' L' => settle u' = .returning ∧ L' = x :: y :: (cb, .cells #[flt p] 144 (0, 0)) :: F) := by
  refine FnD_recover (rv := flt p) Tryz.func111 rfl Tryz.ntmps111 rfl rfl rfl rfl ⟨rfl, rfl⟩ fun g n => ⟨_, ⟨_, rfl, rfl, Qt_assign rfl, rfl⟩, ?_⟩
  show WC _ _ _ ⟨[(2, flt p), (5, flt p), (0, .pointer (some ⟨cb, 0, none⟩))], [], _⟩
  repeat (first | refine RQ ?_ | (refine RE ?_; try intro _) | refine RC ?_ | refine WC_region ?_)
  exact ⟨rfl, _, _, Res0 rfl, .refl _, rfl, rfl⟩
def Read (l : List UInt8) (a r : Nat) (F : List (Nat × Obj)) (code : Nat) (x z : Value) (next : Nat) (v : Value) (L' : List (Nat × Obj)) : Prop :=
  (code = 0 ∧ v = .tuple #[x, .nilIface] ∧ L' = (r, rdO l next) :: F) ∨ (code ≠ 0 ∧ ∃ p, v = .tuple #[z, flt p] ∧ L' = (p, fltO code a) :: (r, rdO l a) :: F)
set_option maxHeartbeats 1000000 in
theorem U_fn {l : List UInt8} {a r : Nat} (ha : a ≤ l.length) (hl : l.length ≤ 1000000000) (F : List (Nat × Obj)) : Fn Tryz.prog 91 [.pointer (some ⟨r, 0, none⟩)] ((r, rdO l a) :: F) (Read l a r F (uCode l a) (.int .u64 (uVal l a)) (.int .u64 0) (uNext l a)) := by
  refine Fn_enterD Tryz.func91 rfl Tryz.ntmps91 rfl fun g => ?_
  repeat (first | refine RQ ?_ | (refine RE ?_; try intro _) | (refine WL_op rfl ?_; (first | refine OW_callP rfl (hF := begin_rd) (hk := ?_) | (refine OW_call rfl (hF := number_ok ha hl hc _) (hk := ?_); rintro _ _ ⟨rfl, rfl⟩))) | refine RC ?_ | refine WG 0 ?_ | refine WG 2 ?_ | refine WG 3 ?_ | refine WG 4 ?_)
  refine WC_region (WL_op rfl (OW_def rfl (hk := WL_nil ?_)))
  refine WC_front 1 rfl ?_
  by_cases hc : uCode l a = 0
  · repeat (first | refine RQ ?_ | (refine RE ?_; try intro _) | (refine WL_op rfl ?_; (first | refine OW_callP rfl (hF := begin_rd) (hk := ?_) | (refine OW_call rfl (hF := number_ok ha hl hc _) (hk := ?_); rintro _ _ ⟨rfl, rfl⟩))) | refine RC ?_ | refine WC_region ?_)
    refine LeavS_one (by simp) told_ret ?_
    rintro u' L' ⟨rfl, rfl⟩
    exact ⟨_, _, Res2 rfl (resV_tmp rfl) (resV_cell1 rfl 1 rfl), .cons_cons _ (.cons _ (.refl _)), .inl ⟨hc, rfl, rfl⟩⟩
  · repeat (first | refine RQ ?_ | (refine RE ?_; try intro _) | (refine WL_op rfl ?_; (first | refine OW_callP rfl (hF := begin_rd) (hk := ?_) | (refine OW_call rfl (hF := number_ok ha hl hc _) (hk := ?_); rintro _ _ ⟨rfl, rfl⟩))) | refine RC ?_ | refine WG 0 ?_ | refine WG 1 ?_ | refine WG 3 ?_ | refine WG 4 ?_)
    refine WC_regP ?_
    repeat (first | refine RQ ?_ | (refine RE ?_; try intro _) | (refine WL_op rfl ?_; (first | refine OW_callP rfl (hF := begin_rd) (hk := ?_) | (refine OW_call rfl (hF := number_ok ha hl hc _) (hk := ?_); rintro _ _ ⟨rfl, rfl⟩))) | refine RC ?_ | refine WC_region ?_)
    refine WL_op rfl (OW_pan rfl (number_no ha hl hc _) fun v L' h => ?_)
    obtain ⟨p, rfl, rfl⟩ := h
    refine LeavS_one (by simp) told_pan2 ?_
    rintro u' L' ⟨hu, rfl⟩
    rw [hu]
    exact ⟨_, _, Res2 rfl (resV_tmp rfl) (resV_cell1 rfl 2 rfl), .cons_cons _ (.cons_cons _ (.cons _ (.refl _))), .inr ⟨hc, p, rfl, rfl⟩⟩
def whole (n : Nat) : Int := if n % 2 = 0 then ((n / 2 : Nat) : Int) else -((n / 2 : Nat) : Int) - 1
theorem whole_bits {n : Nat} (h : n < 18446744073709551616) :
    IntKind.i64.wrap (((BitVec.ofInt IntKind.i64.bits (IntKind.i64.wrap ((n : Int).fdiv (2 ^ min (Int.toNat 1) IntKind.u64.bits))) ^^^ BitVec.ofInt IntKind.i64.bits (IntKind.i64.wrap (0 - IntKind.i64.wrap (IntKind.u64.wrap ((BitVec.ofInt IntKind.u64.bits (n : Int) &&& BitVec.ofInt IntKind.u64.bits 1).toNat : Int))))).toNat : Nat) : Int) = whole n := by
  rw [show min (Int.toNat 1) IntKind.u64.bits = 1 from rfl, show IntKind.u64.bits = 64 from rfl, show IntKind.i64.bits = 64 from rfl, Int.fdiv_eq_ediv_of_nonneg _ (by decide)]
  have e1 : (BitVec.ofInt 64 (n : Int) &&& BitVec.ofInt 64 1).toNat = n % 2 := by
    rw [BitVec.toNat_and, BitVec.toNat_ofInt, show (BitVec.ofInt 64 1).toNat = 1 from rfl, Nat.and_one_is_mod]
    omega
  rw [e1, wU64 (by omega) (by omega), wI64 (x := ((n % 2 : Nat) : Int)) (by omega) (by omega), wI64 (x := 0 - _) (by omega) (by omega), wI64 (x := (n : Int) / 2 ^ 1) (by omega) (by omega)]
  unfold whole
  by_cases hx : n % 2 = 0
  · rw [if_pos hx, hx, show BitVec.ofInt 64 (0 - ((0 : Nat) : Int)) = 0#64 from rfl, BitVec.xor_zero, BitVec.toNat_ofInt, IntKind.wrap_i64]
    omega
  · rw [if_neg hx, show n % 2 = 1 by omega, show BitVec.ofInt 64 (0 - ((1 : Nat) : Int)) = BitVec.allOnes 64 by decide, BitVec.xor_allOnes, BitVec.toNat_not, BitVec.toNat_ofInt, IntKind.wrap_i64]
    omega
set_option maxHeartbeats 1000000 in
theorem I_fn {l : List UInt8} {a r : Nat} (ha : a ≤ l.length) (hl : l.length ≤ 1000000000) (F : List (Nat × Obj)) : Fn Tryz.prog 190 [.pointer (some ⟨r, 0, none⟩)] ((r, rdO l a) :: F) (Read l a r F (uCode l a) (.int .i64 (whole (uVal l a))) (.int .i64 0) (uNext l a)) := by
  have hv : uVal l a < 18446744073709551616 := val_lt _
  refine Fn_enter Tryz.func190 rfl Tryz.ntmps190 rfl fun g => ?_
  repeat (first | refine RQ ?_ | refine RC ?_ | refine WC_region ?_)
  refine WL_op rfl (OW_call rfl (hF := U_fn ha hl _) (hk := ?_))
  rintro _ _ (⟨hc, rfl, rfl⟩ | ⟨hc, p, rfl, rfl⟩)
  · repeat (first | refine RQ ?_ | refine RC ?_ | refine WC_region ?_)
    rw [whole_bits hv]
    exact ⟨rfl, _, _, Res2 rfl (resV_tmp rfl) (resV_tmp rfl), .refl _, .inl ⟨hc, rfl, rfl⟩⟩
  · repeat (first | refine RQ ?_ | refine RC ?_ | refine WC_region ?_)
    exact ⟨rfl, _, _, Res2 rfl (resV_tmp rfl) (resV_tmp rfl), .refl _, .inr ⟨hc, p, rfl, rfl⟩⟩
def bCode (l : List UInt8) (a : Nat) : Nat := if a < l.length then 0 else 3
def bVal (l : List UInt8) (a : Nat) : UInt8 := (l[a]?).getD 0
set_option maxHeartbeats 1000000 in
theorem Byte_fn {l : List UInt8} {a r : Nat} (ha : a ≤ l.length) (hl : l.length ≤ 1000000000) (F : List (Nat × Obj)) : Fn Tryz.prog 187 [.pointer (some ⟨r, 0, none⟩)] ((r, rdO l a) :: F) (Read l a r F (bCode l a) (bV (bVal l a)) (.int .u8 0) (a + 1)) := by
  refine Fn_enterD Tryz.func187 rfl Tryz.ntmps187 rfl fun g => ?_
  repeat (first | refine RQr ?_ | (refine OX ?_; (first | (refine OE ?_; try intro _) | refine OW_callP rfl (hF := must_ok (by first | with_reducible assumption | rfl)) (hk := ?_) | refine OW_callP rfl (hF := begin_rd) (hk := ?_)); try refine SD ?_) | refine RC ?_ | refine RU ?_ | refine WC_draw_all (id := 2) 13 (Cs [0,2,3,4,5,6,7,8,9,10,11] <| .must 1 <| .must 12 <| .done) mixed (by kernel_rfl) ?_ | refine WC_draw_all (id := 4) 11 (Cs [0,1,2,3,4,5,6,7,8,9,10] <| .must 11 <| .done) mixed (by kernel_rfl) ?_ | refine WG 0 ?_ | refine WG 3 ?_)
  refine WC_region (WL_op rfl (OW_def rfl (hk := WL_nil ?_)))
  refine WC_front 1 rfl ?_
  by_cases h0 : a < l.length
  · have hcode : bCode l a = 0 := if_pos h0
    have d1 : decide ((a : Int) < (l.length : Int)) = true := decide_eq_true (by omega)
    obtain ⟨x, hx⟩ : ∃ x, l[a]? = some x := ⟨_, List.getElem?_eq_getElem h0⟩
    have hw : IntKind.i64.wrap ((a : Int) + 1) = ((a + 1 : Nat) : Int) := by rw [wI64 (by omega) (by omega)]; omega
    have hw2 : IntKind.i64.wrap (((a + 1 : Nat) : Int) - 1) = (a : Int) := by rw [wI64 (by omega) (by omega)]; omega
    have hx' : l[(IntKind.i64.wrap (((a + 1 : Nat) : Int) - 1)).toNat]? = some x := by rw [hw2, Int.toNat_natCast]; exact hx
    have hp : 0 ≤ IntKind.i64.wrap (((a + 1 : Nat) : Int) - 1) := by omega
    repeat (first | refine RQr ?_ | (refine OX ?_; (first | (refine OE ?_; try intro _) | refine OW_callP rfl (hF := must_ok (by first | with_reducible assumption | rfl)) (hk := ?_) | refine OW_callP rfl (hF := begin_rd) (hk := ?_)); try refine SD ?_) | refine RC ?_ | refine RU ?_ | refine WC_draw_all (id := 2) 13 (Cs [0,2,3,4,5,6,7,8,9,10,11] <| .must 1 <| .must 12 <| .done) mixed (by kernel_rfl) ?_ | refine WC_regB 4 ?_)
    rw [hw]
    repeat (first | refine RQr ?_ | (refine OX ?_; (first | (refine OE ?_; try intro _) | refine OW_callP rfl (hF := must_ok (by first | with_reducible assumption | rfl)) (hk := ?_) | refine OW_callP rfl (hF := begin_rd) (hk := ?_)); try refine SD ?_) | refine RC ?_ | refine RU ?_ | refine WC_draw_all (id := 2) 13 (Cs [0,2,3,4,5,6,7,8,9,10,11] <| .must 1 <| .must 12 <| .done) mixed (by kernel_rfl) ?_ | refine WC_draw_all (id := 4) 11 (Cs [0,1,2,3,4,5,6,7,8,9,10] <| .must 11 <| .done) mixed (by kernel_rfl) ?_ | refine WC_region ?_)
    refine LeavS_one (by simp) told_ret ?_
    rintro u' L' ⟨rfl, rfl⟩
    refine ⟨_, _, Res2 rfl (resV_tmp rfl) (resV_cell1 rfl 1 rfl), .cons_cons _ (.cons _ (.refl _)), .inl ⟨hcode, ?_, rfl⟩⟩
    unfold bVal; rw [hx]; rfl
  · have hcode : bCode l a ≠ 0 := by unfold bCode; rw [if_neg h0]; decide
    have hc3 : bCode l a = 3 := if_neg h0
    have d1 : decide ((a : Int) < (l.length : Int)) = false := decide_eq_false (by omega)
    repeat (first | refine RQr ?_ | (refine OX ?_; (first | (refine OE ?_; try intro _) | refine OW_callP rfl (hF := must_ok (by first | with_reducible assumption | rfl)) (hk := ?_) | refine OW_callP rfl (hF := begin_rd) (hk := ?_)); try refine SD ?_) | refine RC ?_ | refine RU ?_ | refine WC_draw_all (id := 4) 11 (Cs [0,1,2,3,4,5,6,7,8,9,10] <| .must 11 <| .done) mixed (by kernel_rfl) ?_ | refine WG 0 ?_ | refine WG 1 ?_ | refine WG 3 ?_)
    refine WC_drP (id := 2) 13 (Cs [0,2,3,4,5,6,7,8,9,10,11] <| .must 1 <| .must 12 <| .done) mixed (by kernel_rfl) ?_
    repeat (first | refine RQr ?_ | (refine OX ?_; (first | (refine OE ?_; try intro _) | refine OW_callP rfl (hF := must_ok (by first | with_reducible assumption | rfl)) (hk := ?_) | refine OW_callP rfl (hF := begin_rd) (hk := ?_)); try refine SD ?_) | refine RC ?_ | refine RU ?_ | refine WC_draw_all (id := 2) 13 (Cs [0,2,3,4,5,6,7,8,9,10,11] <| .must 1 <| .must 12 <| .done) mixed (by kernel_rfl) ?_ | refine WC_draw_all (id := 4) 11 (Cs [0,1,2,3,4,5,6,7,8,9,10] <| .must 11 <| .done) mixed (by kernel_rfl) ?_ | refine WC_region ?_)
    refine WR_op rfl rfl (OW_pan rfl (must_no (l := l) (code := 3) d1 _) fun v L' h => ?_)
    rw [← hc3] at h
    obtain ⟨p, rfl, rfl⟩ := h
    refine LeavS_one (by simp) told_pan2 ?_
    rintro u' L' ⟨hu, rfl⟩
    rw [hu]
    exact ⟨_, _, Res2 rfl (resV_tmp rfl) (resV_cell1 rfl 2 rfl), .cons_cons _ (.cons_cons _ (.cons _ (.refl _))), .inr ⟨hcode, p, rfl, rfl⟩⟩
def tCode (l : List UInt8) (a : Nat) : Nat := if a < l.length then (if (bVal l a).toNat ≤ 1 then 0 else 5) else 3
set_option maxHeartbeats 1000000 in
theorem Bool_fn {l : List UInt8} {a r : Nat} (ha : a ≤ l.length) (hl : l.length ≤ 1000000000) (F : List (Nat × Obj)) : Fn Tryz.prog 89 [.pointer (some ⟨r, 0, none⟩)] ((r, rdO l a) :: F) (Read l a r F (tCode l a) (.bool ((bVal l a).toNat == 1)) (.bool false) (a + 1)) := by
  refine Fn_enterD Tryz.func89 rfl Tryz.ntmps89 rfl fun g => ?_
  repeat (first | refine RQr ?_ | (refine OX ?_; (first | (refine OE ?_; try intro _) | refine OW_callP rfl (hF := must_ok (by first | with_reducible assumption | rfl)) (hk := ?_) | refine OW_callP rfl (hF := begin_rd) (hk := ?_)); try refine SD ?_) | refine RC ?_ | refine RU ?_ | refine WC_draw_all (id := 2) 13 (Cs [0,2,3,4,5,6,7,8,9,10,11] <| .must 1 <| .must 12 <| .done) mixed (by kernel_rfl) ?_ | refine WC_draw_all (id := 3) 12 (Cs [0,1,2,3,4,5,6,7,8,9,10] <| .must 11 <| .done) mixed (by kernel_rfl) ?_ | refine WC_draw_all (id := 5) 12 (Cs [0,1,2,3,4,5,6,7,8,9,10,11] <| .must 12 <| .done) mixed (by kernel_rfl) ?_ | refine WG 0 ?_ | refine WG 4 ?_)
  refine WC_region (WL_op rfl (OW_def rfl (hk := WL_nil ?_)))
  refine WC_front 1 rfl ?_
  by_cases h0 : a < l.length
  · have d1 : decide ((a : Int) < (l.length : Int)) = true := decide_eq_true (by omega)
    obtain ⟨x, hx⟩ : ∃ x, l[a]? = some x := ⟨_, List.getElem?_eq_getElem h0⟩
    have hbv : bVal l a = x := by unfold bVal; rw [hx]; rfl
    have hx0 : l[((a : Nat) : Int).toNat]? = some x := by rw [Int.toNat_natCast]; exact hx
    have hw : IntKind.i64.wrap ((a : Int) + 1) = ((a + 1 : Nat) : Int) := by rw [wI64 (by omega) (by omega)]; omega
    have hw2 : IntKind.i64.wrap (((a + 1 : Nat) : Int) - 1) = (a : Int) := by rw [wI64 (by omega) (by omega)]; omega
    have hx' : l[(IntKind.i64.wrap (((a + 1 : Nat) : Int) - 1)).toNat]? = some x := by rw [hw2, Int.toNat_natCast]; exact hx
    have hp : 0 ≤ IntKind.i64.wrap (((a + 1 : Nat) : Int) - 1) := by omega
    by_cases h1 : x.toNat ≤ 1
    · have d2 : decide ((x.toNat : Int) ≤ 1) = true := decide_eq_true (by omega)
      have hcode : tCode l a = 0 := by unfold tCode; rw [if_pos h0, hbv, if_pos h1]
      repeat (first | refine RQr ?_ | (refine OX ?_; (first | (refine OE ?_; try intro _) | refine OW_callP rfl (hF := must_ok (by first | with_reducible assumption | rfl)) (hk := ?_) | refine OW_callP rfl (hF := begin_rd) (hk := ?_)); try refine SD ?_) | refine RC ?_ | refine RU ?_ | refine WC_draw_all (id := 2) 13 (Cs [0,2,3,4,5,6,7,8,9,10,11] <| .must 1 <| .must 12 <| .done) mixed (by kernel_rfl) ?_ | refine WC_draw_all (id := 3) 12 (Cs [0,1,2,3,4,5,6,7,8,9,10] <| .must 11 <| .done) mixed (by kernel_rfl) ?_ | refine WC_regB 5 ?_)
      rw [hw]
      repeat (first | refine RQr ?_ | (refine OX ?_; (first | (refine OE ?_; try intro _) | refine OW_callP rfl (hF := must_ok (by first | with_reducible assumption | rfl)) (hk := ?_) | refine OW_callP rfl (hF := begin_rd) (hk := ?_)); try refine SD ?_) | refine RC ?_ | refine RU ?_ | refine WC_draw_all (id := 2) 13 (Cs [0,2,3,4,5,6,7,8,9,10,11] <| .must 1 <| .must 12 <| .done) mixed (by kernel_rfl) ?_ | refine WC_draw_all (id := 3) 12 (Cs [0,1,2,3,4,5,6,7,8,9,10] <| .must 11 <| .done) mixed (by kernel_rfl) ?_ | refine WC_draw_all (id := 5) 12 (Cs [0,1,2,3,4,5,6,7,8,9,10,11] <| .must 12 <| .done) mixed (by kernel_rfl) ?_ | refine WC_region ?_)
      refine LeavS_one (by simp) told_ret ?_
      rintro u' L' ⟨rfl, rfl⟩
      refine ⟨_, _, Res2 rfl (resV_tmp rfl) (resV_cell1 rfl 1 rfl), .cons_cons _ (.cons _ (.refl _)), .inl ⟨hcode, ?_, rfl⟩⟩
      rw [hbv, show (x.toNat == 1) = ((x.toNat : Int) == 1) by rw [Bool.eq_iff_iff]; simp; omega]
    · have d2 : decide ((x.toNat : Int) ≤ 1) = false := decide_eq_false (by omega)
      have hc5 : tCode l a = 5 := by unfold tCode; rw [if_pos h0, hbv, if_neg h1]
      have hcode : tCode l a ≠ 0 := by rw [hc5]; decide
      repeat (first | refine RQr ?_ | (refine OX ?_; (first | (refine OE ?_; try intro _) | refine OW_callP rfl (hF := must_ok (by first | with_reducible assumption | rfl)) (hk := ?_) | refine OW_callP rfl (hF := begin_rd) (hk := ?_)); try refine SD ?_) | refine RC ?_ | refine RU ?_ | refine WC_draw_all (id := 2) 13 (Cs [0,2,3,4,5,6,7,8,9,10,11] <| .must 1 <| .must 12 <| .done) mixed (by kernel_rfl) ?_ | refine WC_draw_all (id := 5) 12 (Cs [0,1,2,3,4,5,6,7,8,9,10,11] <| .must 12 <| .done) mixed (by kernel_rfl) ?_ | refine WG 0 ?_ | refine WG 1 ?_ | refine WG 4 ?_)
      refine WC_drP (id := 3) 12 (Cs [0,1,2,3,4,5,6,7,8,9,10] <| .must 11 <| .done) mixed (by kernel_rfl) ?_
      repeat (first | refine RQr ?_ | (refine OX ?_; (first | (refine OE ?_; try intro _) | refine OW_callP rfl (hF := must_ok (by first | with_reducible assumption | rfl)) (hk := ?_) | refine OW_callP rfl (hF := begin_rd) (hk := ?_)); try refine SD ?_) | refine RC ?_ | refine RU ?_ | refine WC_draw_all (id := 2) 13 (Cs [0,2,3,4,5,6,7,8,9,10,11] <| .must 1 <| .must 12 <| .done) mixed (by kernel_rfl) ?_ | refine WC_draw_all (id := 3) 12 (Cs [0,1,2,3,4,5,6,7,8,9,10] <| .must 11 <| .done) mixed (by kernel_rfl) ?_ | refine WC_draw_all (id := 5) 12 (Cs [0,1,2,3,4,5,6,7,8,9,10,11] <| .must 12 <| .done) mixed (by kernel_rfl) ?_ | refine WC_region ?_)
      refine WR_op rfl rfl (OW_pan rfl (must_no (l := l) (code := 5) d2 _) fun v L' h => ?_)
      rw [← hc5] at h
      obtain ⟨p, rfl, rfl⟩ := h
      refine LeavS_one (by simp) told_pan2 ?_
      rintro u' L' ⟨hu, rfl⟩
      rw [hu]
      exact ⟨_, _, Res2 rfl (resV_tmp rfl) (resV_cell1 rfl 2 rfl), .cons_cons _ (.cons_cons _ (.cons _ (.refl _))), .inr ⟨hcode, p, rfl, rfl⟩⟩
  · have hc3 : tCode l a = 3 := if_neg h0
    have hcode : tCode l a ≠ 0 := by rw [hc3]; decide
    have d1 : decide ((a : Int) < (l.length : Int)) = false := decide_eq_false (by omega)
    repeat (first | refine RQr ?_ | (refine OX ?_; (first | (refine OE ?_; try intro _) | refine OW_callP rfl (hF := must_ok (by first | with_reducible assumption | rfl)) (hk := ?_) | refine OW_callP rfl (hF := begin_rd) (hk := ?_)); try refine SD ?_) | refine RC ?_ | refine RU ?_ | refine WC_draw_all (id := 3) 12 (Cs [0,1,2,3,4,5,6,7,8,9,10] <| .must 11 <| .done) mixed (by kernel_rfl) ?_ | refine WC_draw_all (id := 5) 12 (Cs [0,1,2,3,4,5,6,7,8,9,10,11] <| .must 12 <| .done) mixed (by kernel_rfl) ?_ | refine WG 0 ?_ | refine WG 1 ?_ | refine WG 4 ?_)
    refine WC_drP (id := 2) 13 (Cs [0,2,3,4,5,6,7,8,9,10,11] <| .must 1 <| .must 12 <| .done) mixed (by kernel_rfl) ?_
    repeat (first | refine RQr ?_ | (refine OX ?_; (first | (refine OE ?_; try intro _) | refine OW_callP rfl (hF := must_ok (by first | with_reducible assumption | rfl)) (hk := ?_) | refine OW_callP rfl (hF := begin_rd) (hk := ?_)); try refine SD ?_) | refine RC ?_ | refine RU ?_ | refine WC_draw_all (id := 2) 13 (Cs [0,2,3,4,5,6,7,8,9,10,11] <| .must 1 <| .must 12 <| .done) mixed (by kernel_rfl) ?_ | refine WC_draw_all (id := 3) 12 (Cs [0,1,2,3,4,5,6,7,8,9,10] <| .must 11 <| .done) mixed (by kernel_rfl) ?_ | refine WC_draw_all (id := 5) 12 (Cs [0,1,2,3,4,5,6,7,8,9,10,11] <| .must 12 <| .done) mixed (by kernel_rfl) ?_ | refine WC_region ?_)
    refine WR_op rfl rfl (OW_pan rfl (must_no (l := l) (code := 3) d1 _) fun v L' h => ?_)
    rw [← hc3] at h
    obtain ⟨p, rfl, rfl⟩ := h
    refine LeavS_one (by simp) told_pan2 ?_
    rintro u' L' ⟨hu, rfl⟩
    rw [hu]
    exact ⟨_, _, Res2 rfl (resV_tmp rfl) (resV_cell1 rfl 2 rfl), .cons_cons _ (.cons_cons _ (.cons _ (.refl _))), .inr ⟨hcode, p, rfl, rfl⟩⟩
theorem uNext_le {l : List UInt8} {a : Nat} (h : uCode l a = 0) : uNext l a ≤ l.length := by
  unfold uCode at h
  split at h
  · cases h
  · unfold uNext; omega
def eCode (l : List UInt8) (a : Nat) : Nat := if a < l.length then 4 else 0
set_option maxHeartbeats 1000000 in
theorem End_fn {l : List UInt8} {a r : Nat} (ha : a ≤ l.length) (F : List (Nat × Obj)) : Fn Tryz.prog 92 [.pointer (some ⟨r, 0, none⟩)] ((r, rdO l a) :: F) (fun v L' => (eCode l a = 0 ∧ v = .nilIface ∧ L' = (r, rdO l a) :: F) ∨ (eCode l a ≠ 0 ∧ ∃ p, v = flt p ∧ L' = (p, fltO (eCode l a) a) :: (r, rdO l a) :: F)) := by
  refine Fn_enterD Tryz.func92 rfl Tryz.ntmps92 rfl fun g => ?_
  repeat (first | refine RQr ?_ | (refine OX ?_; (first | (refine OE ?_; try intro _) | refine OW_callP rfl (hF := must_ok (by first | with_reducible assumption | rfl)) (hk := ?_) | refine OW_callP rfl (hF := begin_rd) (hk := ?_)); try refine SD ?_) | refine RC ?_ | refine RU ?_ | refine WC_draw_all (id := 2) 13 (Cs [0,2,3,4,5,6,7,8,9,10,11] <| .must 1 <| .must 12 <| .done) mixed (by kernel_rfl) ?_ | refine WG 0 ?_ | refine WG 3 ?_)
  refine WC_region (WL_op rfl (OW_def rfl (hk := WL_nil ?_)))
  refine WC_front 1 rfl ?_
  by_cases h0 : a < l.length
  · have hc4 : eCode l a = 4 := if_pos h0
    have hcode : eCode l a ≠ 0 := by rw [hc4]; decide
    have d1 : ((a : Int) == (l.length : Int)) = false := by simp; omega
    repeat (first | refine RQ ?_ | (refine RE ?_; try intro _) | (refine WL_op rfl ?_; (first | refine OW_callP rfl (hF := must_ok (by first | with_reducible assumption | rfl)) (hk := ?_) | refine OW_callP rfl (hF := begin_rd) (hk := ?_))) | refine RC ?_ | refine WG 0 ?_ | refine WG 1 ?_ | refine WG 3 ?_)
    refine WC_drP (id := 2) 13 (Cs [0,2,3,4,5,6,7,8,9,10,11] <| .must 1 <| .must 12 <| .done) mixed (by kernel_rfl) ?_
    repeat (first | refine RQr ?_ | (refine OX ?_; (first | (refine OE ?_; try intro _) | refine OW_callP rfl (hF := must_ok (by first | with_reducible assumption | rfl)) (hk := ?_) | refine OW_callP rfl (hF := begin_rd) (hk := ?_)); try refine SD ?_) | refine RC ?_ | refine RU ?_ | refine WC_draw_all (id := 2) 13 (Cs [0,2,3,4,5,6,7,8,9,10,11] <| .must 1 <| .must 12 <| .done) mixed (by kernel_rfl) ?_ | refine WC_region ?_)
    refine WR_op rfl rfl (OW_pan rfl (must_no (l := l) (code := 4) d1 _) fun v L' h => ?_)
    rw [← hc4] at h
    obtain ⟨p, rfl, rfl⟩ := h
    refine LeavS_one (by simp) told_pan2 ?_
    rintro u' L' ⟨hu, rfl⟩
    rw [hu]
    exact ⟨_, _, Res1 rfl (resV_cell1 rfl 2 rfl), .cons_cons _ (.cons_cons _ (.cons _ (.refl _))), .inr ⟨hcode, p, rfl, rfl⟩⟩
  · have hcode : eCode l a = 0 := if_neg h0
    have d1 : ((a : Int) == (l.length : Int)) = true := by simp; omega
    repeat (first | refine RQr ?_ | (refine OX ?_; (first | (refine OE ?_; try intro _) | refine OW_callP rfl (hF := must_ok (by first | with_reducible assumption | rfl)) (hk := ?_) | refine OW_callP rfl (hF := begin_rd) (hk := ?_)); try refine SD ?_) | refine RC ?_ | refine RU ?_ | refine WC_draw_all (id := 2) 13 (Cs [0,2,3,4,5,6,7,8,9,10,11] <| .must 1 <| .must 12 <| .done) mixed (by kernel_rfl) ?_ | refine WC_region ?_)
    refine LeavS_one (by simp) told_ret ?_
    rintro u' L' ⟨rfl, rfl⟩
    exact ⟨_, _, Res1 rfl (resV_cell1 rfl 1 rfl), .cons_cons _ (.cons _ (.refl _)), .inl ⟨hcode, rfl, rfl⟩⟩
end Go.Proofs.YtdiaogcogkapgaaGreatDoor
namespace Go.Proofs.YtdiaogcogkapgaaGreatDoor
open Go.RowKit
attribute [local irreducible] Fn WC WL WR OW Qt YieldFn QW FnP FnD
abbrev qdO (l : List UInt8) (a : Nat) : Obj := .cells #[.string (bstr l), .int .i64 a] 197 (0, 0)
abbrev fltA (code a : Nat) : Value := .agg #[.int .i64 code, .int .i64 a]
def ARead (l : List UInt8) (a q : Nat) (F : List (Nat × Obj)) (code : Nat) (x z : Value) (next : Nat) (v : Value) (L' : List (Nat × Obj)) : Prop :=
  (code = 0 ∧ v = .tuple #[x, fltA 0 0] ∧ L' = (q, qdO l next) :: F) ∨ (code ≠ 0 ∧ v = .tuple #[z, fltA code a] ∧ L' = (q, qdO l a) :: F)
theorem fault_fn {l : List UInt8} {a q : Nat} {code : Nat} (F : List (Nat × Obj)) : Fn Tryz.prog 124 [.pointer (some ⟨q, 0, none⟩), .int .i64 code] ((q, qdO l a) :: F) (fun v L' => v = fltA code a ∧ L' = (q, qdO l a) :: F) := by
  refine Fn_enter Tryz.func124 rfl Tryz.ntmps124 rfl fun g => ?_
  repeat (first | refine RQ ?_ | (refine RE ?_; try intro _) | refine RC ?_ | refine WC_region ?_)
  exact ⟨rfl, _, _, Res1 rfl (resV_cellN rfl 0 rfl rfl), .cons _ (.refl _), rfl, rfl⟩
theorem Whole_fn {n : Nat} (hn : n < 18446744073709551616) (L : List (Nat × Obj)) : Fn Tryz.prog 145 [.int .u64 n] L (fun v L' => v = .int .i64 (whole n) ∧ L' = L) := by
  have e1 : (n : Int).tmod 2 = ((n % 2 : Nat) : Int) := by rw [Int.tmod_eq_emod_of_nonneg (by omega)]; omega
  have e2 : IntKind.u64.wrap ((n : Int).tdiv 2) = ((n / 2 : Nat) : Int) := by rw [Int.tdiv_eq_ediv_of_nonneg (by omega), wU64 (by omega) (by omega)]; omega
  refine Fn_enter Tryz.func145 rfl Tryz.ntmps145 rfl fun g => ?_
  by_cases h : n % 2 = 0
  · have d1 : ((n : Int).tmod 2 == 0) = true := by rw [e1]; simp; omega
    repeat (first | refine RQ ?_ | refine RC ?_ | refine WC_region ?_)
    refine ⟨rfl, _, _, Res1 rfl (resV_tmp rfl), .refl _, ?_, rfl⟩
    rw [e2, wI64 (by omega) (by omega)]; unfold whole; rw [if_pos h]
  · have d1 : ((n : Int).tmod 2 == 0) = false := by rw [e1]; simp; omega
    repeat (first | refine RQ ?_ | refine RC ?_ | refine WC_region ?_)
    refine ⟨rfl, _, _, Res1 rfl (resV_tmp rfl), .refl _, ?_, rfl⟩
    rw [e2, wI64 (x := ((n / 2 : Nat) : Int)) (by omega) (by omega), wI64 (x := 0 - _) (by omega) (by omega), wI64 (by omega) (by omega)]; unfold whole; rw [if_neg h]; congr 1; omega
theorem rEnd_fn {l : List UInt8} {a q : Nat} (F : List (Nat × Obj)) : Fn Tryz.prog 105 [.pointer (some ⟨q, 0, none⟩)] ((q, qdO l a) :: F) (fun v L' => v = fltA (eCode l a) (if eCode l a = 0 then 0 else a) ∧ L' = (q, qdO l a) :: F) := by
  refine Fn_enter Tryz.func105 rfl Tryz.ntmps105 rfl fun g => ?_
  by_cases h0 : a < l.length
  · have hc4 : eCode l a = 4 := if_pos h0
    have d1 : decide ((a : Int) < (l.length : Int)) = true := decide_eq_true (by omega)
    repeat (first | refine RQr ?_ | (refine OX ?_; (first | (refine OE ?_; try intro _)); try refine SD ?_) | refine RC ?_ | refine RU ?_ | refine WC_draw_all (id := 1) 10 (Cs [0,1,2,3,4,5,6,7,8,9] <| .done) mixed (by kernel_rfl) ?_ | refine WC_region ?_)
    refine WL_op rfl (OW_S (fun F => fault_fn (code := 4) F) ?_)
    repeat (first | refine RQr ?_ | (refine OX ?_; (first | (refine OE ?_; try intro _)); try refine SD ?_) | refine RC ?_ | refine RU ?_ | refine WC_draw_all (id := 1) 10 (Cs [0,1,2,3,4,5,6,7,8,9] <| .done) mixed (by kernel_rfl) ?_ | refine WC_region ?_)
    refine ⟨rfl, _, _, Res1 rfl (resV_cellN rfl 0 rfl rfl), .cons _ (.refl _), ?_, rfl⟩
    rw [hc4]; rfl
  · have hc0 : eCode l a = 0 := if_neg h0
    have d1 : decide ((a : Int) < (l.length : Int)) = false := decide_eq_false (by omega)
    repeat (first | refine RQr ?_ | (refine OX ?_; (first | (refine OE ?_; try intro _)); try refine SD ?_) | refine RC ?_ | refine RU ?_ | refine WC_draw_all (id := 1) 10 (Cs [0,1,2,3,4,5,6,7,8,9] <| .done) mixed (by kernel_rfl) ?_ | refine WC_region ?_)
    refine ⟨rfl, _, _, Res1 rfl (resV_cellN rfl 0 rfl rfl), .cons _ (.refl _), ?_, rfl⟩
    rw [hc0]; rfl
set_option maxHeartbeats 1000000 in
theorem rByte_fn {l : List UInt8} {a q : Nat} (ha : a ≤ l.length) (hl : l.length ≤ 1000000000) (F : List (Nat × Obj)) : Fn Tryz.prog 144 [.pointer (some ⟨q, 0, none⟩)] ((q, qdO l a) :: F) (ARead l a q F (bCode l a) (bV (bVal l a)) (.int .u8 0) (a + 1)) := by
  refine Fn_enter Tryz.func144 rfl Tryz.ntmps144 rfl fun g => ?_
  by_cases h0 : a < l.length
  · have hcode : bCode l a = 0 := if_pos h0
    have d1 : decide ((a : Int) ≥ (l.length : Int)) = false := decide_eq_false (by omega)
    obtain ⟨x, hx⟩ : ∃ x, l[a]? = some x := ⟨_, List.getElem?_eq_getElem h0⟩
    have hw : IntKind.i64.wrap ((a : Int) + 1) = ((a + 1 : Nat) : Int) := by rw [wI64 (by omega) (by omega)]; omega
    have hw2 : IntKind.i64.wrap (((a + 1 : Nat) : Int) - 1) = (a : Int) := by rw [wI64 (by omega) (by omega)]; omega
    have hx' : l[(IntKind.i64.wrap (((a + 1 : Nat) : Int) - 1)).toNat]? = some x := by rw [hw2, Int.toNat_natCast]; exact hx
    have hp : 0 ≤ IntKind.i64.wrap (((a + 1 : Nat) : Int) - 1) := by omega
    repeat (first | refine RQr ?_ | (refine OX ?_; (first | (refine OE ?_; try intro _)); try refine SD ?_) | refine RC ?_ | refine RU ?_ | refine WC_draw_all (id := 1) 10 (Cs [0,1,2,3,4,5,6,7,8,9] <| .done) mixed (by kernel_rfl) ?_ | refine WC_regB 4 ?_)
    rw [hw]
    repeat (first | refine RQr ?_ | (refine OX ?_; (first | (refine OE ?_; try intro _)); try refine SD ?_) | refine RC ?_ | refine RU ?_ | refine WC_draw_all (id := 1) 10 (Cs [0,1,2,3,4,5,6,7,8,9] <| .done) mixed (by kernel_rfl) ?_ | refine WC_draw_all (id := 4) 12 (Cs [0,1,2,3,4,5,6,7,8,9,10,11] <| .must 12 <| .done) mixed (by kernel_rfl) ?_ | refine WC_region ?_)
    refine ⟨rfl, _, _, Res2 rfl (resV_tmp rfl) (resV_cellN rfl 0 rfl rfl), .cons _ (.refl _), .inl ⟨hcode, ?_, rfl⟩⟩
    unfold bVal; rw [hx]; rfl
  · have hc3 : bCode l a = 3 := if_neg h0
    have d1 : decide ((a : Int) ≥ (l.length : Int)) = true := decide_eq_true (by omega)
    repeat (first | refine RQr ?_ | (refine OX ?_; (first | (refine OE ?_; try intro _)); try refine SD ?_) | refine RC ?_ | refine RU ?_ | refine WC_draw_all (id := 1) 10 (Cs [0,1,2,3,4,5,6,7,8,9] <| .done) mixed (by kernel_rfl) ?_ | refine WC_draw_all (id := 4) 12 (Cs [0,1,2,3,4,5,6,7,8,9,10,11] <| .must 12 <| .done) mixed (by kernel_rfl) ?_ | refine WC_region ?_)
    refine WL_op rfl (OW_S (fun F => fault_fn (code := 3) F) ?_)
    repeat (first | refine RQr ?_ | (refine OX ?_; (first | (refine OE ?_; try intro _)); try refine SD ?_) | refine RC ?_ | refine RU ?_ | refine WC_draw_all (id := 1) 10 (Cs [0,1,2,3,4,5,6,7,8,9] <| .done) mixed (by kernel_rfl) ?_ | refine WC_draw_all (id := 4) 12 (Cs [0,1,2,3,4,5,6,7,8,9,10,11] <| .must 12 <| .done) mixed (by kernel_rfl) ?_ | refine WC_region ?_)
    refine ⟨rfl, _, _, Res2 rfl (resV_tmp rfl) (resV_cellN rfl 0 rfl rfl), .cons _ (.refl _), .inr ⟨by rw [hc3]; decide, ?_, rfl⟩⟩
    rw [hc3]
set_option maxHeartbeats 1000000 in
theorem rBool_fn {l : List UInt8} {a q : Nat} (ha : a ≤ l.length) (hl : l.length ≤ 1000000000) (F : List (Nat × Obj)) : Fn Tryz.prog 102 [.pointer (some ⟨q, 0, none⟩)] ((q, qdO l a) :: F) (ARead l a q F (tCode l a) (.bool ((bVal l a).toNat == 1)) (.bool false) (a + 1)) := by
  refine Fn_enter Tryz.func102 rfl Tryz.ntmps102 rfl fun g => ?_
  by_cases h0 : a < l.length
  · have d1 : decide ((a : Int) ≥ (l.length : Int)) = false := decide_eq_false (by omega)
    obtain ⟨x, hx⟩ : ∃ x, l[a]? = some x := ⟨_, List.getElem?_eq_getElem h0⟩
    have hbv : bVal l a = x := by unfold bVal; rw [hx]; rfl
    have hx0 : l[((a : Nat) : Int).toNat]? = some x := by rw [Int.toNat_natCast]; exact hx
    have hw : IntKind.i64.wrap ((a : Int) + 1) = ((a + 1 : Nat) : Int) := by rw [wI64 (by omega) (by omega)]; omega
    have hw2 : IntKind.i64.wrap (((a + 1 : Nat) : Int) - 1) = (a : Int) := by rw [wI64 (by omega) (by omega)]; omega
    have hx' : l[(IntKind.i64.wrap (((a + 1 : Nat) : Int) - 1)).toNat]? = some x := by rw [hw2, Int.toNat_natCast]; exact hx
    have hp : 0 ≤ IntKind.i64.wrap (((a + 1 : Nat) : Int) - 1) := by omega
    by_cases h1 : x.toNat ≤ 1
    · have d2 : decide ((x.toNat : Int) > 1) = false := decide_eq_false (by omega)
      have hcode : tCode l a = 0 := by unfold tCode; rw [if_pos h0, hbv, if_pos h1]
      repeat (first | refine RQr ?_ | (refine OX ?_; (first | (refine OE ?_; try intro _)); try refine SD ?_) | refine RC ?_ | refine RU ?_ | refine WC_draw_all (id := 1) 10 (Cs [0,1,2,3,4,5,6,7,8,9] <| .done) mixed (by kernel_rfl) ?_ | refine WC_draw_all (id := 3) 10 (Cs [0,1,2,3,4,5,6,7,8,9] <| .done) mixed (by kernel_rfl) ?_ | refine WC_regB 6 ?_)
      rw [hw]
      repeat (first | refine RQr ?_ | (refine OX ?_; (first | (refine OE ?_; try intro _)); try refine SD ?_) | refine RC ?_ | refine RU ?_ | refine WC_draw_all (id := 1) 10 (Cs [0,1,2,3,4,5,6,7,8,9] <| .done) mixed (by kernel_rfl) ?_ | refine WC_draw_all (id := 3) 10 (Cs [0,1,2,3,4,5,6,7,8,9] <| .done) mixed (by kernel_rfl) ?_ | refine WC_draw_all (id := 6) 13 (Cs [0,1,2,3,4,5,6,7,8,9,10,11,12] <| .must 13 <| .done) mixed (by kernel_rfl) ?_ | refine WC_region ?_)
      refine ⟨rfl, _, _, Res2 rfl (resV_tmp rfl) (resV_cellN rfl 0 rfl rfl), .cons _ (.refl _), .inl ⟨hcode, ?_, rfl⟩⟩
      rw [hbv, show (x.toNat == 1) = ((x.toNat : Int) == 1) by rw [Bool.eq_iff_iff]; simp; omega]
      rfl
    · have d2 : decide ((x.toNat : Int) > 1) = true := decide_eq_true (by omega)
      have hc5 : tCode l a = 5 := by unfold tCode; rw [if_pos h0, hbv, if_neg h1]
      repeat (first | refine RQr ?_ | (refine OX ?_; (first | (refine OE ?_; try intro _)); try refine SD ?_) | refine RC ?_ | refine RU ?_ | refine WC_draw_all (id := 1) 10 (Cs [0,1,2,3,4,5,6,7,8,9] <| .done) mixed (by kernel_rfl) ?_ | refine WC_draw_all (id := 3) 10 (Cs [0,1,2,3,4,5,6,7,8,9] <| .done) mixed (by kernel_rfl) ?_ | refine WC_draw_all (id := 6) 13 (Cs [0,1,2,3,4,5,6,7,8,9,10,11,12] <| .must 13 <| .done) mixed (by kernel_rfl) ?_ | refine WC_region ?_)
      refine WL_op rfl (OW_S (fun F => fault_fn (code := 5) F) ?_)
      repeat (first | refine RQr ?_ | (refine OX ?_; (first | (refine OE ?_; try intro _)); try refine SD ?_) | refine RC ?_ | refine RU ?_ | refine WC_draw_all (id := 1) 10 (Cs [0,1,2,3,4,5,6,7,8,9] <| .done) mixed (by kernel_rfl) ?_ | refine WC_draw_all (id := 3) 10 (Cs [0,1,2,3,4,5,6,7,8,9] <| .done) mixed (by kernel_rfl) ?_ | refine WC_draw_all (id := 6) 13 (Cs [0,1,2,3,4,5,6,7,8,9,10,11,12] <| .must 13 <| .done) mixed (by kernel_rfl) ?_ | refine WC_region ?_)
      refine ⟨rfl, _, _, Res2 rfl (resV_tmp rfl) (resV_cellN rfl 0 rfl rfl), .cons _ (.refl _), .inr ⟨by rw [hc5]; decide, ?_, rfl⟩⟩
      rw [hc5]
  · have hc3 : tCode l a = 3 := if_neg h0
    have d1 : decide ((a : Int) ≥ (l.length : Int)) = true := decide_eq_true (by omega)
    repeat (first | refine RQr ?_ | (refine OX ?_; (first | (refine OE ?_; try intro _)); try refine SD ?_) | refine RC ?_ | refine RU ?_ | refine WC_draw_all (id := 1) 10 (Cs [0,1,2,3,4,5,6,7,8,9] <| .done) mixed (by kernel_rfl) ?_ | refine WC_draw_all (id := 3) 10 (Cs [0,1,2,3,4,5,6,7,8,9] <| .done) mixed (by kernel_rfl) ?_ | refine WC_draw_all (id := 6) 13 (Cs [0,1,2,3,4,5,6,7,8,9,10,11,12] <| .must 13 <| .done) mixed (by kernel_rfl) ?_ | refine WC_region ?_)
    refine WL_op rfl (OW_S (fun F => fault_fn (code := 3) F) ?_)
    repeat (first | refine RQr ?_ | (refine OX ?_; (first | (refine OE ?_; try intro _)); try refine SD ?_) | refine RC ?_ | refine RU ?_ | refine WC_draw_all (id := 1) 10 (Cs [0,1,2,3,4,5,6,7,8,9] <| .done) mixed (by kernel_rfl) ?_ | refine WC_draw_all (id := 3) 10 (Cs [0,1,2,3,4,5,6,7,8,9] <| .done) mixed (by kernel_rfl) ?_ | refine WC_draw_all (id := 6) 13 (Cs [0,1,2,3,4,5,6,7,8,9,10,11,12] <| .must 13 <| .done) mixed (by kernel_rfl) ?_ | refine WC_region ?_)
    refine ⟨rfl, _, _, Res2 rfl (resV_tmp rfl) (resV_cellN rfl 0 rfl rfl), .cons _ (.refl _), .inr ⟨by rw [hc3]; decide, ?_, rfl⟩⟩
    rw [hc3]
theorem ref_step (n : Nat) (u : UInt8) : IntKind.u64.wrap (IntKind.u64.wrap ((n : Int) * 128) + (IntKind.u64.wrap (u.toNat : Int)).tmod 128) = (((n * 128 + u.toNat % 128) % 18446744073709551616 : Nat) : Int) := by
  have := u.toNat_lt
  rw [wU64 (x := (u.toNat : Int)) (by omega) (by omega), Int.tmod_eq_emod_of_nonneg (by omega), wU64_mod, wU64_mod]
  omega
set_option maxHeartbeats 4000000 in
theorem rU_fn {l : List UInt8} {a q : Nat} (ha : a ≤ l.length) (hl : l.length ≤ 1000000000) (F : List (Nat × Obj)) : Fn Tryz.prog 103 [.pointer (some ⟨q, 0, none⟩)] ((q, qdO l a) :: F) (ARead l a q F (uCode l a) (.int .u64 (uVal l a)) (.int .u64 0) (uNext l a)) := by
  refine Fn_enter Tryz.func103 rfl Tryz.ntmps103 rfl fun g => ?_
  repeat (first | refine RQr ?_ | ((first | refine WL_op rfl ?_ | refine WL_yes (h := ?_) | refine WR_late rfl rfl rfl ?_ | refine WR_opG rfl rfl ?_ | refine WR_opYG rfl (h := ?_)); (first | (refine OE ?_; try intro _)); try refine SD ?_) | refine RC ?_ | refine RU ?_ | refine WC_draw_all (id := 6) 10 (Cs [0,1,2,3,4,5,6,7,8,9] <| .done) mixed (by kernel_rfl) ?_ | refine WC_draw_all (id := 9) 18 (Cs [0,1,2,3,4,5,6,7,8,9,10,11,12,13,14,15,16,17] <| .done) mixed (by kernel_rfl) ?_ | refine WC_region ?_)
  rename_i cb
  refine WC_wk [(4, .int .i64 a), (3, .pointer (some ⟨cb, 0, none⟩)), (0, .pointer (some ⟨q, 0, none⟩))] ⟨rfl, rfl, rfl, trivial⟩ ?_
  have hcl := cont_le ha
  refine WC_loop (fun m σ => ∃ j : Nat, m = cont l a - j ∧ j ≤ cont l a ∧ σ = ⟨[(4, .int .i64 ((a + j : Nat) : Int)), (3, .pointer (some ⟨cb, 0, none⟩)), (0, .pointer (some ⟨q, 0, none⟩))], [], (cb, .cells zc157 157 (0, 0)) :: (q, qdO l a) :: F⟩) (cont l a) ⟨0, by omega, by omega, rfl⟩ ?_
  rintro m σ ⟨j, rfl, hj, rfl⟩
  by_cases hjc : j < cont l a
  · obtain ⟨u, hu, hu128⟩ := cont_lt hjc
    have hlt := (List.getElem?_eq_some_iff.1 hu).1
    have d1 : decide (((a + j : Nat) : Int) < (l.length : Int)) = true := decide_eq_true (by omega)
    have d2 : decide ((u.toNat : Int) ≥ 128) = true := decide_eq_true (by omega)
    have hu' : l[((a + j : Nat) : Int).toNat]? = some u := by rw [Int.toNat_natCast]; exact hu
    have hw : IntKind.i64.wrap (((a + j : Nat) : Int) + 1) = ((a + (j + 1) : Nat) : Int) := by rw [wI64 (by omega) (by omega)]; omega
    repeat (first | refine RQr ?_ | ((first | refine WL_op rfl ?_ | refine WL_yes (h := ?_) | refine WR_late rfl rfl rfl ?_ | refine WR_opG rfl rfl ?_ | refine WR_opYG rfl (h := ?_)); (first | (refine OE ?_; try intro _)); try refine SD ?_) | refine RC ?_ | refine RU ?_ | refine WC_draw_all (id := 6) 10 (Cs [0,1,2,3,4,5,6,7,8,9] <| .done) mixed (by kernel_rfl) ?_ | refine WC_draw_all (id := 9) 18 (Cs [0,1,2,3,4,5,6,7,8,9,10,11,12,13,14,15,16,17] <| .done) mixed (by kernel_rfl) ?_ | refine WC_region ?_)
    rw [hw]
    exact ⟨_, _, by omega, ⟨j + 1, rfl, by omega, rfl⟩, ⟨rfl, rfl, rfl, trivial⟩, rfl, .refl _⟩
  · obtain rfl : j = cont l a := by omega
    by_cases hend : a + cont l a < l.length
    · obtain ⟨u, hu⟩ : ∃ u, l[a + cont l a]? = some u := ⟨_, List.getElem?_eq_getElem hend⟩
      have hu128 := cont_end hu
      have d1 : decide (((a + cont l a : Nat) : Int) < (l.length : Int)) = true := decide_eq_true (by omega)
      have d1' : decide (((a + cont l a : Nat) : Int) ≥ (l.length : Int)) = false := decide_eq_false (by omega)
      have d2 : decide ((u.toNat : Int) ≥ 128) = false := decide_eq_false (by omega)
      have hu' : l[((a + cont l a : Nat) : Int).toNat]? = some u := by rw [Int.toNat_natCast]; exact hu
      obtain ⟨x, hx⟩ : ∃ x, l[a]? = some x := ⟨_, List.getElem?_eq_getElem (show a < l.length by omega)⟩
      have hx' : l[((a : Nat) : Int).toNat]? = some x := by rw [Int.toNat_natCast]; exact hx
      by_cases h5 : x = 128
      · subst h5
        have d3 : (((128 : UInt8).toNat : Int) == 128) = true := by decide
        have hcode : uCode l a = 5 := by unfold uCode; rw [if_neg (by omega), if_pos hx]
        repeat (first | refine RQr ?_ | ((first | refine WL_op rfl ?_ | refine WL_yes (h := ?_) | refine WR_late rfl rfl rfl ?_ | refine WR_opG rfl rfl ?_ | refine WR_opYG rfl (h := ?_)); (first | (refine OE ?_; try intro _)); try refine SD ?_) | refine RC ?_ | refine RU ?_ | refine WC_draw_all (id := 6) 10 (Cs [0,1,2,3,4,5,6,7,8,9] <| .done) mixed (by kernel_rfl) ?_ | refine WC_draw_all (id := 9) 18 (Cs [0,1,2,3,4,5,6,7,8,9,10,11,12,13,14,15,16,17] <| .done) mixed (by kernel_rfl) ?_ | refine WC_region ?_)
        refine WL_op rfl (OW_S (fun F => fault_fn (code := 5) F) ?_)
        repeat (first | refine RQr ?_ | ((first | refine WL_op rfl ?_ | refine WL_yes (h := ?_) | refine WR_late rfl rfl rfl ?_ | refine WR_opG rfl rfl ?_ | refine WR_opYG rfl (h := ?_)); (first | (refine OE ?_; try intro _)); try refine SD ?_) | refine RC ?_ | refine RU ?_ | refine WC_draw_all (id := 6) 10 (Cs [0,1,2,3,4,5,6,7,8,9] <| .done) mixed (by kernel_rfl) ?_ | refine WC_draw_all (id := 9) 18 (Cs [0,1,2,3,4,5,6,7,8,9,10,11,12,13,14,15,16,17] <| .done) mixed (by kernel_rfl) ?_ | refine WC_region ?_)
        refine ⟨rfl, _, _, Res2 rfl (resV_tmp rfl) (resV_cellN rfl 0 rfl rfl), .cons _ (.refl _), .inr ⟨by rw [hcode]; decide, ?_, rfl⟩⟩
        rw [hcode]
      · have d3 : ((x.toNat : Int) == 128) = false := by
          simp only [beq_eq_false_iff_ne, ne_eq]
          intro e
          exact h5 (UInt8.toNat_inj.1 (by simpa using (show x.toNat = 128 by omega)))
        have hw1 : IntKind.i64.wrap (((a + cont l a : Nat) : Int) + 1) = ((uNext l a : Nat) : Int) := by rw [wI64 (by omega) (by omega)]; unfold uNext; omega
        have hw2 : IntKind.i64.wrap (((uNext l a : Nat) : Int) - a) = ((cont l a + 1 : Nat) : Int) := by unfold uNext; rw [wI64 (by omega) (by omega)]; omega
        have hx5 : ¬ l[a]? = some 128 := by rw [hx]; simpa using h5
        repeat (first | refine RQr ?_ | ((first | refine WL_op rfl ?_ | refine WL_yes (h := ?_) | refine WR_late rfl rfl rfl ?_ | refine WR_opG rfl rfl ?_ | refine WR_opYG rfl (h := ?_)); (first | (refine OE ?_; try intro _)); try refine SD ?_) | refine RC ?_ | refine RU ?_ | refine WC_draw_all (id := 6) 10 (Cs [0,1,2,3,4,5,6,7,8,9] <| .done) mixed (by kernel_rfl) ?_ | refine WG 0 ?_ | refine WG 1 ?_ | refine WG 2 ?_ | refine WG 3 ?_ | refine WG 4 ?_ | refine WG 5 ?_ | refine WG 7 ?_ | refine WG 8 ?_ | refine WG 10 ?_ | refine WG 11 ?_ | refine WG 12 ?_ | refine WG 13 ?_ | refine WG 15 ?_ | refine WG 14 ?_ | refine WG 16 ?_ | refine WG 17 ?_)
        rw [hw1, hw2]
        have hge : 1 ≤ cont l a → 128 ≤ x.toNat := fun h => by
          obtain ⟨y, hy, hy2⟩ := cont_lt (show 0 < cont l a by omega)
          rw [Nat.add_zero, hx] at hy
          cases hy; exact hy2
        refine WC_meet2 (fun σ => uCode l a = 0 ∧ σ = ⟨[(4, .int .i64 ((a + cont l a : Nat) : Int)), (3, .pointer (some ⟨cb, 0, none⟩)), (0, .pointer (some ⟨q, 0, none⟩))], [], (cb, .cells zc157 157 (0, 0)) :: (q, qdO l a) :: F⟩) ?_ ?_
        rotate_left
        · rintro σ ⟨hc, rfl⟩
          obtain ⟨xs, hxs⟩ : ∃ xs, xs = (l.drop a).take (cont l a + 1) := ⟨_, rfl⟩
          have hxl : xs.length = cont l a + 1 := by rw [hxs]; simp; omega
          have hxs' : val xs = uVal l a := by unfold uVal; rw [hxs]
          repeat (first | refine RQr ?_ | ((first | refine WL_op rfl ?_ | refine WL_yes (h := ?_) | refine WR_late rfl rfl rfl ?_ | refine WR_opG rfl rfl ?_ | refine WR_opYG rfl (h := ?_)); (first | (refine OE ?_; try intro _)); try refine SD ?_) | refine RC ?_ | refine RU ?_ | refine WC_draw_all (id := 6) 10 (Cs [0,1,2,3,4,5,6,7,8,9] <| .done) mixed (by kernel_rfl) ?_ | refine WC_draw_all (id := 9) 18 (Cs [0,1,2,3,4,5,6,7,8,9,10,11,12,13,14,15,16,17] <| .done) mixed (by kernel_rfl) ?_ | refine WC_region ?_)
          refine WC_wk [(7, .int .i64 a), (6, .int .u64 0), (4, .int .i64 ((a + cont l a : Nat) : Int)), (3, .pointer (some ⟨cb, 0, none⟩)), (0, .pointer (some ⟨q, 0, none⟩))] ⟨rfl, rfl, rfl, rfl, rfl, trivial⟩ ?_
          refine WC_loop (fun m σ => ∃ i : Nat, m = cont l a + 1 - i ∧ i ≤ cont l a + 1 ∧ σ = ⟨[(7, .int .i64 ((a + i : Nat) : Int)), (6, .int .u64 (val (xs.take i))), (4, .int .i64 ((a + cont l a : Nat) : Int)), (3, .pointer (some ⟨cb, 0, none⟩)), (0, .pointer (some ⟨q, 0, none⟩))], [], (cb, .cells zc157 157 (0, 0)) :: (q, qdO l a) :: F⟩) (cont l a + 1) ⟨0, by omega, by omega, rfl⟩ ?_
          rintro m σ ⟨i, rfl, hi, rfl⟩
          by_cases hlt : i < cont l a + 1
          · have e1 : decide (((a + i : Nat) : Int) ≤ ((a + cont l a : Nat) : Int)) = true := decide_eq_true (by omega)
            obtain ⟨y, hy⟩ : ∃ y, xs[i]? = some y := ⟨_, List.getElem?_eq_getElem (by omega)⟩
            have hy2 : l[a + i]? = some y := by rw [hxs, List.getElem?_take_of_lt hlt, List.getElem?_drop] at hy; exact hy
            have hy' : l[((a + i : Nat) : Int).toNat]? = some y := by rw [Int.toNat_natCast]; exact hy2
            have hw : IntKind.i64.wrap (((a + i : Nat) : Int) + 1) = ((a + (i + 1) : Nat) : Int) := by rw [wI64 (by omega) (by omega)]; omega
            repeat (first | refine RQr ?_ | ((first | refine WL_op rfl ?_ | refine WL_yes (h := ?_) | refine WR_late rfl rfl rfl ?_ | refine WR_opG rfl rfl ?_ | refine WR_opYG rfl (h := ?_)); (first | (refine OE ?_; try intro _)); try refine SD ?_) | refine RC ?_ | refine RU ?_ | refine WC_draw_all (id := 6) 10 (Cs [0,1,2,3,4,5,6,7,8,9] <| .done) mixed (by kernel_rfl) ?_ | refine WC_draw_all (id := 9) 18 (Cs [0,1,2,3,4,5,6,7,8,9,10,11,12,13,14,15,16,17] <| .done) mixed (by kernel_rfl) ?_ | refine WC_region ?_)
            rw [hw, ref_step]
            refine ⟨_, _, by omega, ⟨i + 1, rfl, by omega, rfl⟩, ⟨rfl, ?_, rfl, rfl, rfl, trivial⟩, rfl, .refl _⟩
            show some _ = some _
            rw [List.take_add_one, hy]
            show _ = some (Value.int .u64 ((val (xs.take i ++ [y]) : Nat) : Int))
            rw [val_snoc]
          · have e1 : decide (((a + i : Nat) : Int) ≤ ((a + cont l a : Nat) : Int)) = false := decide_eq_false (by omega)
            obtain rfl : i = cont l a + 1 := by omega
            repeat (first | refine RQr ?_ | ((first | refine WL_op rfl ?_ | refine WL_yes (h := ?_) | refine WR_late rfl rfl rfl ?_ | refine WR_opG rfl rfl ?_ | refine WR_opYG rfl (h := ?_)); (first | (refine OE ?_; try intro _)); try refine SD ?_) | refine RC ?_ | refine RU ?_ | refine WC_draw_all (id := 6) 10 (Cs [0,1,2,3,4,5,6,7,8,9] <| .done) mixed (by kernel_rfl) ?_ | refine WC_draw_all (id := 9) 18 (Cs [0,1,2,3,4,5,6,7,8,9,10,11,12,13,14,15,16,17] <| .done) mixed (by kernel_rfl) ?_ | refine WC_region ?_)
            rw [hw1]
            refine ⟨rfl, _, _, Res2 rfl (resV_tmp rfl) (resV_cellN rfl 0 rfl rfl), .cons _ (.refl _), .inl ⟨hc, ?_, rfl⟩⟩
            rw [List.take_of_length_le (by omega), hxs']
            rfl
        by_cases hgt : cont l a + 1 > 10
        · have d4 : decide (((cont l a + 1 : Nat) : Int) > 10) = true := decide_eq_true (by omega)
          have hcode : uCode l a = 4 := by
            unfold uCode
            rw [if_neg (by omega), if_neg hx5, if_neg]
            rintro (h | ⟨h, _⟩) <;> omega
          repeat (first | refine RQr ?_ | ((first | refine WL_op rfl ?_ | refine WL_yes (h := ?_) | refine WR_late rfl rfl rfl ?_ | refine WR_opG rfl rfl ?_ | refine WR_opYG rfl (h := ?_)); (first | (refine OE ?_; try intro _)); try refine SD ?_) | refine RC ?_ | refine RU ?_ | refine WC_draw_all (id := 6) 10 (Cs [0,1,2,3,4,5,6,7,8,9] <| .done) mixed (by kernel_rfl) ?_ | refine WC_draw_all (id := 9) 18 (Cs [0,1,2,3,4,5,6,7,8,9,10,11,12,13,14,15,16,17] <| .done) mixed (by kernel_rfl) ?_ | refine WC_region ?_)
          refine WL_op rfl (OW_S (fun F => fault_fn (code := 4) F) ?_)
          repeat (first | refine RQr ?_ | ((first | refine WL_op rfl ?_ | refine WL_yes (h := ?_) | refine WR_late rfl rfl rfl ?_ | refine WR_opG rfl rfl ?_ | refine WR_opYG rfl (h := ?_)); (first | (refine OE ?_; try intro _)); try refine SD ?_) | refine RC ?_ | refine RU ?_ | refine WC_draw_all (id := 6) 10 (Cs [0,1,2,3,4,5,6,7,8,9] <| .done) mixed (by kernel_rfl) ?_ | refine WC_draw_all (id := 9) 18 (Cs [0,1,2,3,4,5,6,7,8,9,10,11,12,13,14,15,16,17] <| .done) mixed (by kernel_rfl) ?_ | refine WC_region ?_)
          refine ⟨rfl, _, _, Res2 rfl (resV_tmp rfl) (resV_cellN rfl 0 rfl rfl), .cons _ (.refl _), .inr ⟨by rw [hcode]; decide, ?_, rfl⟩⟩
          rw [hcode]
        · have d4 : decide (((cont l a + 1 : Nat) : Int) > 10) = false := decide_eq_false (by omega)
          by_cases hm : cont l a + 1 = 10
          · have d5 : (((cont l a + 1 : Nat) : Int) == 10) = true := by simp; omega
            have hx128 := hge (by omega)
            have hxne : x.toNat ≠ 128 := fun e => h5 (UInt8.toNat_inj.1 (by simpa using e))
            by_cases h129 : x = 129
            · subst h129
              have d6 : decide (((129 : UInt8).toNat : Int) > 129) = false := by decide
              have hcode : uCode l a = 0 := by unfold uCode; rw [if_neg (by omega), if_neg hx5, if_pos (.inr ⟨hm, hx⟩)]
              repeat (first | refine RQr ?_ | ((first | refine WL_op rfl ?_ | refine WL_yes (h := ?_) | refine WR_late rfl rfl rfl ?_ | refine WR_opG rfl rfl ?_ | refine WR_opYG rfl (h := ?_)); (first | (refine OE ?_; try intro _)); try refine SD ?_) | refine RC ?_ | refine RU ?_ | refine WC_draw_all (id := 6) 10 (Cs [0,1,2,3,4,5,6,7,8,9] <| .done) mixed (by kernel_rfl) ?_ | refine WC_draw_all (id := 9) 18 (Cs [0,1,2,3,4,5,6,7,8,9,10,11,12,13,14,15,16,17] <| .done) mixed (by kernel_rfl) ?_ | refine WC_region ?_)
              exact ⟨_, ⟨hcode, rfl⟩, ⟨rfl, rfl, rfl, trivial⟩, rfl, .refl _⟩
            · have hxn9 : x.toNat ≠ 129 := fun e => h129 (UInt8.toNat_inj.1 (by simpa using e))
              have d6 : decide ((x.toNat : Int) > 129) = true := decide_eq_true (by omega)
              have hcode : uCode l a = 4 := by
                unfold uCode
                rw [if_neg (by omega), if_neg hx5, if_neg]
                rintro (h | ⟨_, h⟩)
                · omega
                · rw [hx] at h; exact h129 (Option.some.inj h)
              repeat (first | refine RQr ?_ | ((first | refine WL_op rfl ?_ | refine WL_yes (h := ?_) | refine WR_late rfl rfl rfl ?_ | refine WR_opG rfl rfl ?_ | refine WR_opYG rfl (h := ?_)); (first | (refine OE ?_; try intro _)); try refine SD ?_) | refine RC ?_ | refine RU ?_ | refine WC_draw_all (id := 6) 10 (Cs [0,1,2,3,4,5,6,7,8,9] <| .done) mixed (by kernel_rfl) ?_ | refine WC_draw_all (id := 9) 18 (Cs [0,1,2,3,4,5,6,7,8,9,10,11,12,13,14,15,16,17] <| .done) mixed (by kernel_rfl) ?_ | refine WC_region ?_)
              refine WL_op rfl (OW_S (fun F => fault_fn (code := 4) F) ?_)
              repeat (first | refine RQr ?_ | ((first | refine WL_op rfl ?_ | refine WL_yes (h := ?_) | refine WR_late rfl rfl rfl ?_ | refine WR_opG rfl rfl ?_ | refine WR_opYG rfl (h := ?_)); (first | (refine OE ?_; try intro _)); try refine SD ?_) | refine RC ?_ | refine RU ?_ | refine WC_draw_all (id := 6) 10 (Cs [0,1,2,3,4,5,6,7,8,9] <| .done) mixed (by kernel_rfl) ?_ | refine WC_draw_all (id := 9) 18 (Cs [0,1,2,3,4,5,6,7,8,9,10,11,12,13,14,15,16,17] <| .done) mixed (by kernel_rfl) ?_ | refine WC_region ?_)
              refine ⟨rfl, _, _, Res2 rfl (resV_tmp rfl) (resV_cellN rfl 0 rfl rfl), .cons _ (.refl _), .inr ⟨by rw [hcode]; decide, ?_, rfl⟩⟩
              rw [hcode]
          · have d5 : (((cont l a + 1 : Nat) : Int) == 10) = false := by simp; omega
            have hcode : uCode l a = 0 := by unfold uCode; rw [if_neg (by omega), if_neg hx5, if_pos (.inl (by omega))]
            repeat (first | refine RQr ?_ | ((first | refine WL_op rfl ?_ | refine WL_yes (h := ?_) | refine WR_late rfl rfl rfl ?_ | refine WR_opG rfl rfl ?_ | refine WR_opYG rfl (h := ?_)); (first | (refine OE ?_; try intro _)); try refine SD ?_) | refine RC ?_ | refine RU ?_ | refine WC_draw_all (id := 6) 10 (Cs [0,1,2,3,4,5,6,7,8,9] <| .done) mixed (by kernel_rfl) ?_ | refine WC_draw_all (id := 9) 18 (Cs [0,1,2,3,4,5,6,7,8,9,10,11,12,13,14,15,16,17] <| .done) mixed (by kernel_rfl) ?_ | refine WC_region ?_)
            exact ⟨_, ⟨hcode, rfl⟩, ⟨rfl, rfl, rfl, trivial⟩, rfl, .refl _⟩
    · have d1 : decide (((a + cont l a : Nat) : Int) < (l.length : Int)) = false := decide_eq_false (by omega)
      have d1' : decide (((a + cont l a : Nat) : Int) ≥ (l.length : Int)) = true := decide_eq_true (by omega)
      have hcode : uCode l a = 3 := by unfold uCode; rw [if_pos (by omega)]
      repeat (first | refine RQr ?_ | ((first | refine WL_op rfl ?_ | refine WL_yes (h := ?_) | refine WR_late rfl rfl rfl ?_ | refine WR_opG rfl rfl ?_ | refine WR_opYG rfl (h := ?_)); (first | (refine OE ?_; try intro _)); try refine SD ?_) | refine RC ?_ | refine RU ?_ | refine WC_draw_all (id := 6) 10 (Cs [0,1,2,3,4,5,6,7,8,9] <| .done) mixed (by kernel_rfl) ?_ | refine WC_draw_all (id := 9) 18 (Cs [0,1,2,3,4,5,6,7,8,9,10,11,12,13,14,15,16,17] <| .done) mixed (by kernel_rfl) ?_ | refine WC_region ?_)
      refine WL_op rfl (OW_S (fun F => fault_fn (code := 3) F) ?_)
      repeat (first | refine RQr ?_ | ((first | refine WL_op rfl ?_ | refine WL_yes (h := ?_) | refine WR_late rfl rfl rfl ?_ | refine WR_opG rfl rfl ?_ | refine WR_opYG rfl (h := ?_)); (first | (refine OE ?_; try intro _)); try refine SD ?_) | refine RC ?_ | refine RU ?_ | refine WC_draw_all (id := 6) 10 (Cs [0,1,2,3,4,5,6,7,8,9] <| .done) mixed (by kernel_rfl) ?_ | refine WC_draw_all (id := 9) 18 (Cs [0,1,2,3,4,5,6,7,8,9,10,11,12,13,14,15,16,17] <| .done) mixed (by kernel_rfl) ?_ | refine WC_region ?_)
      refine ⟨rfl, _, _, Res2 rfl (resV_tmp rfl) (resV_cellN rfl 0 rfl rfl), .cons _ (.refl _), .inr ⟨by rw [hcode]; decide, ?_, rfl⟩⟩
      rw [hcode]
set_option maxHeartbeats 1000000 in
theorem rI_fn {l : List UInt8} {a q : Nat} (ha : a ≤ l.length) (hl : l.length ≤ 1000000000) (F : List (Nat × Obj)) : Fn Tryz.prog 139 [.pointer (some ⟨q, 0, none⟩)] ((q, qdO l a) :: F) (ARead l a q F (uCode l a) (.int .i64 (whole (uVal l a))) (.int .i64 0) (uNext l a)) := by
  have hv : uVal l a < 18446744073709551616 := val_lt _
  refine Fn_enter Tryz.func139 rfl Tryz.ntmps139 rfl fun g => ?_
  repeat (first | refine RQr ?_ | (refine OX ?_; (first | (refine OE ?_; try intro _)); try refine SD ?_) | refine RC ?_ | refine RU ?_ | refine WC_draw_all (id := 3) 2 (Cs [0,1] <| .must 2 <| .done) mixed (by kernel_rfl) ?_ | refine WC_draw_all (id := 4) 4 (Cs [0,2] <| .must 1 <| .calm 3 <| .must 4 <| .done) mixed (by kernel_rfl) ?_ | refine WC_region ?_)
  refine WL_front 1 rfl ?_
  refine WL_op rfl (OW_call rfl (hF := rU_fn ha hl _) (hk := ?_))
  rintro _ _ (⟨hc, rfl, rfl⟩ | ⟨hc, rfl, rfl⟩)
  · have d1 : (((0 : Nat) : Int) != 0) = false := by decide
    repeat (first | refine RQr ?_ | (refine OX ?_; (first | (refine OE ?_; try intro _)); try refine SD ?_) | refine RC ?_ | refine RU ?_ | refine WC_draw_all (id := 3) 2 (Cs [0,1] <| .must 2 <| .done) mixed (by kernel_rfl) ?_ | refine WC_draw_all (id := 4) 4 (Cs [0,2] <| .must 1 <| .calm 3 <| .must 4 <| .done) mixed (by kernel_rfl) ?_ | refine WC_region ?_)
    refine WR_op rfl rfl (OW_callP rfl (hF := Whole_fn hv _) (hk := ?_))
    refine ⟨(by first | exact fun _ h => h | exact fun _ h => List.Sublist.subset (by repeat (first | exact .refl _ | exact List.nil_sublist _ | exact List.sublist_append_right _ _ | exact List.Sublist.append (.refl _) (List.sublist_append_right _ _) | apply List.Sublist.cons_cons | apply List.Sublist.cons)) h), ?_⟩
    repeat (first | refine RQr ?_ | (refine OX ?_; (first | (refine OE ?_; try intro _)); try refine SD ?_) | refine RC ?_ | refine RU ?_ | refine WC_draw_all (id := 3) 2 (Cs [0,1] <| .must 2 <| .done) mixed (by kernel_rfl) ?_ | refine WC_draw_all (id := 4) 4 (Cs [0,2] <| .must 1 <| .calm 3 <| .must 4 <| .done) mixed (by kernel_rfl) ?_ | refine WC_region ?_)
    exact ⟨rfl, _, _, Res2 rfl (resV_tmp rfl) (resV_cellN rfl 2 rfl rfl), .cons _ (.cons_cons _ (.cons _ (.refl _))), .inl ⟨hc, rfl, rfl⟩⟩
  · have d1 : (((uCode l a : Nat) : Int) != 0) = true := by simp; omega
    repeat (first | refine RQr ?_ | (refine OX ?_; (first | (refine OE ?_; try intro _)); try refine SD ?_) | refine RC ?_ | refine RU ?_ | refine WC_draw_all (id := 3) 2 (Cs [0,1] <| .must 2 <| .done) mixed (by kernel_rfl) ?_ | refine WC_draw_all (id := 4) 4 (Cs [0,2] <| .must 1 <| .calm 3 <| .must 4 <| .done) mixed (by kernel_rfl) ?_ | refine WC_region ?_)
    exact ⟨rfl, _, _, Res2 rfl (resV_tmp rfl) (resV_cellN rfl 2 rfl rfl), .cons _ (.cons_cons _ (.cons _ (.refl _))), .inr ⟨hc, rfl, rfl⟩⟩
end Go.Proofs.YtdiaogcogkapgaaGreatDoor
namespace Go.Proofs.YtdiaogcogkapgaaGreatDoor
open Go.RowKit Go.Extern.Stop Go.Stop Go.Extern
theorem as_nil (t : Value) (w : World) :
    Calls Tryz.prog 93 #[.nilIface, t] w fun e w' => e = .returned (.bool false) ∧ w' = w := by
  go_enter Tryz.func93, Tryz.ntmps93
  go_wp2
  go_ret
  exact ⟨rfl, rfl⟩
theorem e_valueOf27 (t : Addr) (w : World) : (ReflectliteValue.unpack (.iface 176 (.pointer (some t)))).run Tryz.prog w
    = .ok (.agg #[.pointer (some ⟨1, 176, none⟩), .pointer (some ⟨w.heap.size, 0, none⟩), .int .u64 150]) (w.alloc (.cells #[.pointer (some t)] 176)) := by kernel_rfl
theorem e_type27 (a : Addr) (w : World) : (ReflectliteValue.methodAny (ReflectliteValue.valueError "reflectlite.Value.Type" 0) (fun t _ _ _ => ReflectliteType.toType t) #[.agg #[.pointer (some ⟨1, 176, none⟩), .pointer (some a), .int .u64 150]]).run Tryz.prog w
    = .ok (.iface 257 (.agg #[.pointer (some ⟨1, 176, none⟩)])) w := by kernel_rfl
theorem e_methodKind (h : Value) (w : World) : (Go.method 421 257 (.agg #[h]) "Kind").run Tryz.prog w = .ok (161, h) w := by kernel_rfl
theorem e_kind27 (w : World) : ((ReflectliteType.abiMethod fun t => (fun a : Nat => Value.int IntKind.u8 (a : Int)) <$> Rtype.kind t) #[.pointer (some ⟨1, 176, none⟩)]).run Tryz.prog w = .ok (.int .u8 22) w := by kernel_rfl
theorem e_kind25 (w : World) : ((ReflectliteType.abiMethod fun t => (fun a : Nat => Value.int IntKind.u8 (a : Int)) <$> Rtype.kind t) #[.pointer (some ⟨1, 174, none⟩)]).run Tryz.prog w = .ok (.int .u8 22) w := by kernel_rfl
theorem rlm (z : Sem Value) (f : TypeId → Addr → Nat → Nat → Sem Value) (v : Value) :
    ReflectliteValue.method z f #[v] = (do match ← ReflectliteValue.parts v with | none => z | some (t, a, fl) => f t a fl (fl % 32)) := rfl
theorem e_parts27 (a : Addr) (w : World) : (ReflectliteValue.parts (.agg #[.pointer (some ⟨1, 176, none⟩), .pointer (some a), .int .u64 150])).run Tryz.prog w = .ok (some (176, a, 150)) w := by kernel_rfl
theorem e_isNil27 (a p : Addr) (W : World) (ha : W.cell? a = some (.pointer (some p))) :
    (ReflectliteValue.method (ReflectliteValue.valueError "reflectlite.Value.IsNil" 0) ReflectliteValue.isNil #[.agg #[.pointer (some ⟨1, 176, none⟩), .pointer (some a), .int .u64 150]]).run Tryz.prog W = .ok (.bool false) W := by
  rw [rlm]
  simp only [Sem.run_bind, e_parts27, Result.andThen]
  simp [ReflectliteValue.isNil, loadVar, isAgg, underlying, Tryz.underlying176, ha, Result.andThen]
theorem e_methodElem (h : Value) (w : World) : (Go.method 421 257 (.agg #[h]) "Elem").run Tryz.prog w = .ok (194, .agg #[h]) w := by kernel_rfl
theorem e_methodImplements (h : Value) (w : World) : (Go.method 421 257 (.agg #[h]) "Implements").run Tryz.prog w = .ok (195, .agg #[h]) w := by kernel_rfl
theorem e_methodAssignableTo (h : Value) (w : World) : (Go.method 421 257 (.agg #[h]) "AssignableTo").run Tryz.prog w = .ok (192, .agg #[h]) w := by kernel_rfl
theorem e_elem27 (w : World) : (ReflectliteType.method ReflectliteType.elem #[.agg #[.pointer (some ⟨1, 176, none⟩)]]).run Tryz.prog w = .ok (.iface 257 (.agg #[.pointer (some ⟨1, 174, none⟩)])) w := by kernel_rfl
theorem e_implements25 (w : World) : (ReflectliteType.relation "Implements" ReflectliteType.implements_ #[.agg #[.pointer (some ⟨1, 174, none⟩)], .iface 257 (.agg #[.pointer (some ⟨1, 144, none⟩)])]).run Tryz.prog w = .ok (.bool true) w := by kernel_rfl
theorem e_typeOf25 (v : Value) (w : World) : (ReflectliteType.typeOf #[.iface 174 v]).run Tryz.prog w = .ok (.iface 257 (.agg #[.pointer (some ⟨1, 174, none⟩)])) w := by kernel_rfl
theorem e_assignable25 (w : World) : (ReflectliteType.relation "AssignableTo" ReflectliteType.assignableTo #[.agg #[.pointer (some ⟨1, 174, none⟩)], .iface 257 (.agg #[.pointer (some ⟨1, 174, none⟩)])]).run Tryz.prog w = .ok (.bool true) w := by kernel_rfl
theorem e_valueOf25 (e : Addr) (w : World) : (ReflectliteValue.unpack (.iface 174 (.pointer (some e)))).run Tryz.prog w
    = .ok (.agg #[.pointer (some ⟨1, 174, none⟩), .pointer (some ⟨w.heap.size, 0, none⟩), .int .u64 150]) (w.alloc (.cells #[.pointer (some e)] 174)) := by kernel_rfl
theorem e_elemOf27 (w : World) : (Rtype.elem? 176).run Tryz.prog w = .ok (some 174) w := by kernel_rfl
theorem e_mk25 (p : Addr) (w : World) : (ReflectliteValue.mk 174 p ReflectliteValue.flagAddr).run Tryz.prog w = .ok (.agg #[.pointer (some ⟨1, 174, none⟩), .pointer (some p), .int .u64 406]) w := by kernel_rfl
theorem e_elemV27 (a p : Addr) (W : World) (ha : W.cell? a = some (.pointer (some p))) :
    (ReflectliteValue.method (ReflectliteValue.valueError "reflectlite.Value.Elem" 0) ReflectliteValue.elem #[.agg #[.pointer (some ⟨1, 176, none⟩), .pointer (some a), .int .u64 150]]).run Tryz.prog W
      = .ok (.agg #[.pointer (some ⟨1, 174, none⟩), .pointer (some p), .int .u64 406]) W := by
  rw [rlm]
  simp only [Sem.run_bind, e_parts27, Result.andThen]
  simp [ReflectliteValue.elem, loadVar, isAgg, underlying, Tryz.underlying176, ha, Result.andThen, e_elemOf27, e_mk25]
theorem rls (v x : Value) : ReflectliteValue.set #[v, x] = (do
    let (some (dst, a, fl), some (src, b, _)) := (← ReflectliteValue.parts v, ← ReflectliteValue.parts x)
      | unsupported (.noEntry "extern/(internal/reflectlite.Value).Set.zeroValue")
    if fl / ReflectliteValue.flagAddr % 2 == 0 then unsupported (.noEntry "extern/(internal/reflectlite.Value).Set.unaddressable")
    let val ← loadVar src b
    if ← Rtype.directlyAssignable dst src then storeVar dst a val
    else if ← Rtype.implements dst src then
      if (← Rtype.kind src) == 20 then
        match val with
        | .nilIface => unsupported (.noEntry "extern/reflectlite: a nil value of one interface type handed on as a value of another")
        | _ => storeVar dst a val
      else storeVar dst a (.iface src val)
    else panicString ("reflectlite.Set: value of type " ++ (← Rtype.spelt src) ++ " is not assignable to type " ++ (← Rtype.spelt dst))
    pure (.tuple #[])) := rfl
theorem e_parts25a (a : Addr) (w : World) : (ReflectliteValue.parts (.agg #[.pointer (some ⟨1, 174, none⟩), .pointer (some a), .int .u64 406])).run Tryz.prog w = .ok (some (174, a, 406)) w := by kernel_rfl
theorem e_parts25 (a : Addr) (w : World) : (ReflectliteValue.parts (.agg #[.pointer (some ⟨1, 174, none⟩), .pointer (some a), .int .u64 150])).run Tryz.prog w = .ok (some (174, a, 150)) w := by kernel_rfl
theorem e_direct25 (w : World) : (Rtype.directlyAssignable 174 174).run Tryz.prog w = .ok true w := by kernel_rfl
theorem e_set25 (ta b e : Addr) (old : Value) (W : World) (hb : W.cell? b = some (.pointer (some e))) (ht : W.cell? ta = some old) (hf : W.frozen? ta = false) :
    (ReflectliteValue.set #[.agg #[.pointer (some ⟨1, 174, none⟩), .pointer (some ta), .int .u64 406], .agg #[.pointer (some ⟨1, 174, none⟩), .pointer (some b), .int .u64 150]]).run Tryz.prog W
      = .ok (.tuple #[]) (W.setCell ta (.pointer (some e))) := by
  rw [rls]
  simp only [Sem.run_bind, e_parts25a, e_parts25, Result.andThen]
  simp [ReflectliteValue.flagAddr, loadVar, isAgg, underlying, Tryz.underlying174, hb, Result.andThen, e_direct25, storeVar, Value.cells, storeCells, Addr.add]
  rw [run_store Tryz.prog W ta _ _ (by rfl)]
  simp [ht, hf]
set_option maxHeartbeats 4000000 in
theorem as_hit (e t : Addr) (old : Value) (w : World) (hg : w.cell? ⟨0, 0, none⟩ = some (.iface 257 (.agg #[.pointer (some ⟨1, 144, none⟩)]))) (ht0 : w.cell? t = some old) (hf0 : w.frozen? t = false) :
    Calls Tryz.prog 93 #[.iface 174 (.pointer (some e)), .iface 176 (.pointer (some t))] w fun ev w' => ev = .returned (.bool true) ∧ w' = ((((w.alloc (.cells #[.pointer (some t)] 176)).alloc (.cells #[.pointer (some ⟨1, 176, none⟩), .pointer (some ⟨w.heap.size, 0, none⟩), .int .u64 150] 224)).alloc (.cells #[.pointer (some ⟨1, 176, none⟩), .pointer (some ⟨w.heap.size, 0, none⟩), .int .u64 150] 224)).alloc (.cells #[.pointer (some e)] 174)).setCell t (.pointer (some e)) := by
  have h6 := @run_callFunc_extern Tryz.prog 115 _ (fun args => ReflectliteValue.unpack (args.getD 0 (.tuple #[]))) Tryz.func115 (by kernel_rfl) (by kernel_rfl) (by kernel_rfl) (by kernel_rfl)
  have h7 := @run_callFunc_extern Tryz.prog 116 _ (ReflectliteValue.methodAny (ReflectliteValue.valueError "reflectlite.Value.Type" 0) (fun t _ _ _ => ReflectliteType.toType t)) Tryz.func116 (by kernel_rfl) (by kernel_rfl) (by kernel_rfl) (by kernel_rfl)
  have h8 := @run_callFunc_extern Tryz.prog 117 _ (ReflectliteValue.method (ReflectliteValue.valueError "reflectlite.Value.IsNil" 0) ReflectliteValue.isNil) Tryz.func117 (by kernel_rfl) (by kernel_rfl) (by kernel_rfl) (by kernel_rfl)
  have h27 := @run_callFunc_extern Tryz.prog 161 _ (ReflectliteType.abiMethod fun t => do pure (.int .u8 (← Rtype.kind t))) Tryz.func161 (by kernel_rfl) (by kernel_rfl) (by kernel_rfl) (by kernel_rfl)
  have h37 := @run_callFunc_extern Tryz.prog 194 _ (ReflectliteType.method ReflectliteType.elem) Tryz.func194 (by kernel_rfl) (by kernel_rfl) (by kernel_rfl) (by kernel_rfl)
  have h38 := @run_callFunc_extern Tryz.prog 195 _ (ReflectliteType.relation "Implements" ReflectliteType.implements_) Tryz.func195 (by kernel_rfl) (by kernel_rfl) (by kernel_rfl) (by kernel_rfl)
  have h10 := @run_callFunc_extern Tryz.prog 132 _ ReflectliteType.typeOf Tryz.func132 (by kernel_rfl) (by kernel_rfl) (by kernel_rfl) (by kernel_rfl)
  have h35 := @run_callFunc_extern Tryz.prog 192 _ (ReflectliteType.relation "AssignableTo" ReflectliteType.assignableTo) Tryz.func192 (by kernel_rfl) (by kernel_rfl) (by kernel_rfl) (by kernel_rfl)
  have h11 := @run_callFunc_extern Tryz.prog 133 _ (ReflectliteValue.method (ReflectliteValue.valueError "reflectlite.Value.Elem" 0) ReflectliteValue.elem) Tryz.func133 (by kernel_rfl) (by kernel_rfl) (by kernel_rfl) (by kernel_rfl)
  have h12 := @run_callFunc_extern Tryz.prog 134 _ ReflectliteValue.set Tryz.func134 (by kernel_rfl) (by kernel_rfl) (by kernel_rfl) (by kernel_rfl)
  have tO := e_typeOf25
  have mA := e_methodAssignableTo
  have a25 := e_assignable25
  have v25 := e_valueOf25
  have f6 := e_valueOf27
  have f7 := e_type27
  have mK := e_methodKind
  have mE := e_methodElem
  have mI := e_methodImplements
  have k27 := e_kind27
  have k25 := e_kind25
  have e27 := e_elem27
  have i25 := e_implements25
  have n8 := e_isNil27 ⟨w.heap.size, 0, none⟩ t ((w.alloc (.cells #[.pointer (some t)] 176)).alloc (.cells #[.pointer (some ⟨1, 176, none⟩), .pointer (some ⟨w.heap.size, 0, none⟩), .int .u64 150] 224)) (by simp)
  have hlt : 0 < w.heap.size := by
    rcases Nat.eq_zero_or_pos w.heap.size with h0 | h
    · simp [World.cell?, h0] at hg
    · exact h
  have hg2 : ((w.alloc (.cells #[.pointer (some t)] 176)).alloc (.cells #[.pointer (some ⟨1, 176, none⟩), .pointer (some ⟨w.heap.size, 0, none⟩), .int .u64 150] 224)).cell? ⟨0, 0, none⟩ = some (.iface 257 (.agg #[.pointer (some ⟨1, 144, none⟩)])) := by
    rw [World.cell?_alloc_lt _ _ ⟨0, 0, none⟩ (by simp), World.cell?_alloc_lt _ _ ⟨0, 0, none⟩ hlt]; exact hg
  have htl : t.block < w.heap.size := by
    rcases Nat.lt_or_ge t.block w.heap.size with h | h
    · exact h
    · simp [World.cell?, Array.getElem?_eq_none h] at ht0
  have el := e_elemV27 ⟨w.heap.size, 0, none⟩ t (((w.alloc (.cells #[.pointer (some t)] 176)).alloc (.cells #[.pointer (some ⟨1, 176, none⟩), .pointer (some ⟨w.heap.size, 0, none⟩), .int .u64 150] 224)).alloc (.cells #[.pointer (some ⟨1, 176, none⟩), .pointer (some ⟨w.heap.size, 0, none⟩), .int .u64 150] 224)) (by rw [World.cell?_alloc_lt _ _ ⟨w.heap.size, 0, none⟩ (by simp; omega)]; simp)
  have st := e_set25 t ⟨w.heap.size + 1 + 1 + 1, 0, none⟩ e old ((((w.alloc (.cells #[.pointer (some t)] 176)).alloc (.cells #[.pointer (some ⟨1, 176, none⟩), .pointer (some ⟨w.heap.size, 0, none⟩), .int .u64 150] 224)).alloc (.cells #[.pointer (some ⟨1, 176, none⟩), .pointer (some ⟨w.heap.size, 0, none⟩), .int .u64 150] 224)).alloc (.cells #[.pointer (some e)] 174))
    (by rw [World.cell?_alloc_at _ _ _ _ (by simp)]; rfl)
    (by rw [World.cell?_alloc_lt _ _ t (by simp; omega), World.cell?_alloc_lt _ _ t (by simp; omega), World.cell?_alloc_lt _ _ t (by simp; omega), World.cell?_alloc_lt _ _ t htl]; exact ht0)
    (by rw [World.frozen?_alloc_old _ _ t (by simp; omega), World.frozen?_alloc_old _ _ t (by simp; omega), World.frozen?_alloc_old _ _ t (by simp; omega), World.frozen?_alloc_old _ _ t (Nat.ne_of_lt htl)]; exact hf0)
  go_enter Tryz.func93, Tryz.ntmps93
  go_wp2
  refine wp_loop_rounds 1 ?_
  rw [rounds_succ]
  go_wp2
  go_ret
  exact ⟨rfl, rfl⟩
end Go.Proofs.YtdiaogcogkapgaaGreatDoor
namespace Go.Proofs.YtdiaogcogkapgaaGreatDoor
open Go.RowKit
noncomputable section
attribute [local irreducible] T.put T.set
def handle : Value := .iface 257 (.agg #[.pointer (some ⟨1, 144, none⟩)])
theorem setCell_row {W : World} {b off : Nat} {v : Value} {cs : Array Value} {E : TypeId} {fr : Nat × Nat} (h : W.heap[b]? = some (.cells cs E fr)) : W.setCell ⟨b, off, none⟩ v = W.setRow b (cs.setIfInBounds off v) := by
  unfold World.setCell World.setRow
  congr 1
  apply Array.ext_getElem?
  intro i
  rw [Array.getElem?_modify, Array.getElem?_modify]
  by_cases e : b = i
  · subst e; rw [if_pos rfl, if_pos rfl, h]; simp
  · rw [if_neg e, if_neg e]
end
end Go.Proofs.YtdiaogcogkapgaaGreatDoor
namespace Go.Proofs.YtdiaogcogkapgaaGreatDoor
open Go.RowKit
def HandleIn (L : List (Nat × Obj)) : Prop := ∃ cs E fr, (0, Obj.cells cs E fr) ∈ L ∧ cs[0]? = some handle
theorem HandleIn.cons {L : List (Nat × Obj)} (p : Nat × Obj) (h : HandleIn L) : HandleIn (p :: L) := by
  obtain ⟨cs, E, fr, h1, h2⟩ := h
  exact ⟨cs, E, fr, List.mem_cons_of_mem _ h1, h2⟩
theorem HandleIn.app {L : List (Nat × Obj)} (A : List (Nat × Obj)) (h : HandleIn L) : HandleIn (A ++ L) := by
  obtain ⟨cs, E, fr, h1, h2⟩ := h
  exact ⟨cs, E, fr, List.mem_append_right _ h1, h2⟩
end Go.Proofs.YtdiaogcogkapgaaGreatDoor
namespace Go.Proofs.YtdiaogcogkapgaaGreatDoor
open Go.RowKit
attribute [local irreducible] Fn WC WL WR OW Qt YieldFn QW FnP FnD
theorem as_fn {L : List (Nat × Obj)} (hH : HandleIn L) {t : Nat} {e : Addr} {old : Value} {E : TypeId} {i : Nat} (hi : L[i]? = some (t, .cells #[old] E (0, 0))) :
    Fn Tryz.prog 93 [.iface 174 (.pointer (some e)), .iface 176 (.pointer (some ⟨t, 0, none⟩))] L (fun v L' => v = .bool true ∧ L' = L.set i (t, .cells #[.pointer (some e)] E (0, 0))) := by
  unfold Fn
  intro g w hm
  obtain ⟨cs, E0, fr, h1, h2⟩ := hH
  have hw0 := hm.has _ h1
  have hg : w.cell? ⟨0, 0, none⟩ = some handle := by rw [cell_of_row w _ 0 cs E0 fr hw0]; exact h2
  have ht : w.cell? ⟨t, 0, none⟩ = some old := by rw [cell_of_row w t 0 #[old] E (0, 0) (hm.at_ hi)]; rfl
  have hf : w.frozen? ⟨t, 0, none⟩ = false := by simp [World.frozen?, hm.at_ hi]
  refine (as_hit e ⟨t, 0, none⟩ old w hg ht hf).mono fun ev' w' ⟨he, hw'⟩ => ?_
  have hm4 := (((hm.alloc (.cells #[.pointer (some ⟨t, 0, none⟩)] 176)).alloc (.cells #[.pointer (some ⟨1, 176, none⟩), .pointer (some ⟨w.heap.size, 0, none⟩), .int .u64 150] 224)).alloc (.cells #[.pointer (some ⟨1, 176, none⟩), .pointer (some ⟨w.heap.size, 0, none⟩), .int .u64 150] 224)).alloc (.cells #[.pointer (some e)] 174)
  have hm5 : Mem g L _ := hm4.sublist ((((List.sublist_cons_self _ _).trans (List.sublist_cons_self _ _)).trans (List.sublist_cons_self _ _)).trans (List.sublist_cons_self _ _))
  have hset := hm5.setRow hi (#[old].setIfInBounds 0 (.pointer (some e)))
  refine ⟨.bool true, _, he, ?_, rfl, rfl⟩
  rw [hw', setCell_row (hm5.at_ hi)]
  exact hset
theorem rEnd_ok {l : List UInt8} {a q : Nat} (hc : eCode l a = 0) (F : List (Nat × Obj)) : Fn Tryz.prog 105 [.pointer (some ⟨q, 0, none⟩)] ((q, qdO l a) :: F) (fun v L' => v = fltA 0 0 ∧ L' = (q, qdO l a) :: F) := by
  have := rEnd_fn (l := l) (a := a) (q := q) F
  rwa [hc, if_pos rfl] at this
theorem rEnd_no {l : List UInt8} {a q : Nat} (hc : eCode l a ≠ 0) (F : List (Nat × Obj)) : Fn Tryz.prog 105 [.pointer (some ⟨q, 0, none⟩)] ((q, qdO l a) :: F) (fun v L' => v = fltA (eCode l a) a ∧ L' = (q, qdO l a) :: F) := by
  have := rEnd_fn (l := l) (a := a) (q := q) F
  rwa [if_neg hc] at this
theorem bNext_le {l : List UInt8} {a : Nat} (h : bCode l a = 0) : a + 1 ≤ l.length := by
  unfold bCode at h
  split at h
  · omega
  · cases h
theorem tNext_le {l : List UInt8} {a : Nat} (h : tCode l a = 0) : a + 1 ≤ l.length := by
  unfold tCode at h
  split at h
  · omega
  · cases h
end Go.Proofs.YtdiaogcogkapgaaGreatDoor
namespace Go.Proofs.YtdiaogcogkapgaaGreatDoor
open Go.RowKit
theorem ofNat_hi {d : Nat} (h : d < 128) : (UInt8.ofNat (d + 128)).toNat = d + 128 := by simp only [UInt8.toNat_ofNat']; omega
theorem ofNat_lo {d : Nat} (h : d < 128) : (UInt8.ofNat d).toNat = d := by simp only [UInt8.toNat_ofNat']; omega
theorem encH_ge (n : Nat) : ∀ u ∈ encH n, 128 ≤ u.toNat := by
  induction n using Nat.strongRecOn with
  | _ n ih =>
    by_cases h : n = 0
    · subst h; rw [encH_zero]; simp
    · rw [encH_pos h]
      intro u hu
      rcases List.mem_append.1 hu with hu | hu
      · exact ih (n / 128) (by omega) u hu
      · simp only [List.mem_singleton] at hu
        subst hu
        rw [ofNat_hi (by omega)]; omega
theorem takeWhile_stop {p : UInt8 → Bool} : ∀ (a : List UInt8) (u : UInt8) (r : List UInt8), (∀ x ∈ a, p x = true) → p u = false → (a ++ u :: r).takeWhile p = a
  | [], u, r, _, h => by simp [h]
  | x :: a, u, r, h1, h2 => by
    rw [List.cons_append, List.takeWhile_cons_of_pos (h1 x (by simp)), takeWhile_stop a u r (fun y hy => h1 y (by simp [hy])) h2]
theorem cont_enc {pre post : List UInt8} {n : Nat} : cont (pre ++ (enc n ++ post)) pre.length = (encH (n / 128)).length := by
  unfold cont
  rw [List.drop_left, enc, List.append_assoc, List.singleton_append, takeWhile_stop]
  · intro x hx; simpa using encH_ge _ x hx
  · rw [ofNat_lo (by omega)]; simp; omega
theorem encH_head : ∀ (m : Nat), m ≠ 0 → ∃ d rest, encH m = UInt8.ofNat (d + 128) :: rest ∧ 1 ≤ d ∧ d < 128 ∧ d * 128 ^ rest.length ≤ m := by
  intro m
  induction m using Nat.strongRecOn with
  | _ m ih =>
    intro h
    rw [encH_pos h]
    by_cases h0 : m / 128 = 0
    · rw [h0, encH_zero]
      exact ⟨m % 128, [], rfl, by omega, by omega, by simp; omega⟩
    · obtain ⟨d, rest, e, h1, h2, h3⟩ := ih (m / 128) (by omega) h0
      refine ⟨d, rest ++ [UInt8.ofNat (m % 128 + 128)], by rw [e]; rfl, h1, h2, ?_⟩
      rw [List.length_append, List.length_singleton, Nat.pow_succ, ← Nat.mul_assoc]
      calc d * 128 ^ rest.length * 128 ≤ m / 128 * 128 := Nat.mul_le_mul_right _ h3
        _ ≤ m := by omega
theorem val_encH (m : Nat) (h : m < 18446744073709551616) : val (encH m) = m := by
  induction m using Nat.strongRecOn with
  | _ m ih =>
    by_cases h0 : m = 0
    · subst h0; rw [encH_zero]; rfl
    · rw [encH_pos h0, val_snoc, ih (m / 128) (by omega) (by omega), ofNat_hi (by omega)]
      omega
theorem val_enc {n : Nat} (h : n < 18446744073709551616) : val (enc n) = n := by
  rw [enc, val_snoc, val_encH _ (by omega), ofNat_lo (by omega)]
  omega
theorem read_enc {pre post : List UInt8} {n : Nat} (h : n < 18446744073709551616) :
    uCode (pre ++ (enc n ++ post)) pre.length = 0 ∧ uVal (pre ++ (enc n ++ post)) pre.length = n ∧ uNext (pre ++ (enc n ++ post)) pre.length = (pre ++ enc n).length := by
  have hc := cont_enc (pre := pre) (post := post) (n := n)
  have hl := enc_len h
  have hle : (enc n).length = (encH (n / 128)).length + 1 := by simp [enc]
  refine ⟨?_, ?_, ?_⟩
  · unfold uCode
    rw [hc, if_neg (by simp; omega)]
    have hfirst : (pre ++ (enc n ++ post))[pre.length]? = (enc n ++ post)[0]? := by rw [List.getElem?_append_right (Nat.le_refl _), Nat.sub_self]
    rw [hfirst]
    by_cases h0 : n / 128 = 0
    · rw [enc, h0, encH_zero]
      have hne : UInt8.ofNat (n % 128) ≠ 128 := fun e => by
        have := congrArg UInt8.toNat e
        rw [ofNat_lo (by omega)] at this
        simp at this; omega
      rw [if_neg (by simpa using hne), if_pos (.inl (by simp))]
    · obtain ⟨d, rest, e, h1, h2, h3⟩ := encH_head (n / 128) h0
      have hne : UInt8.ofNat (d + 128) ≠ 128 := fun e => by
        have := congrArg UInt8.toNat e
        rw [ofNat_hi h2] at this
        simp at this; omega
      have hf : (enc n ++ post)[0]? = some (UInt8.ofNat (d + 128)) := by rw [enc, e]; rfl
      rw [hf, if_neg (by simpa using hne), if_pos]
      by_cases hlen : (encH (n / 128)).length + 1 < 10
      · exact .inl hlen
      · right
        refine ⟨by omega, ?_⟩
        have hr : rest.length = 8 := by rw [e] at hlen hle; simp at hlen hle; omega
        rw [hr] at h3
        have hd : d * 72057594037927936 ≤ n / 128 := h3
        have : d = 1 := by omega
        rw [this]; rfl
  · unfold uVal
    rw [hc, List.drop_left, ← hle, List.take_left, val_enc h]
  · unfold uNext
    rw [hc]; simp; omega
def vexact (xs : List UInt8) : Nat := xs.foldl (fun n u => n * 128 + u.toNat % 128) 0
theorem vexact_snoc (xs : List UInt8) (u : UInt8) : vexact (xs ++ [u]) = vexact xs * 128 + u.toNat % 128 := by unfold vexact; rw [List.foldl_append]; rfl
theorem list_rec {α : Type} {P : List α → Prop} (h0 : P []) (h1 : ∀ xs u, P xs → P (xs ++ [u])) (xs : List α) : P xs := by
  have : ∀ ys : List α, P ys.reverse := by
    intro ys
    induction ys with
    | nil => exact h0
    | cons y ys ih => rw [List.reverse_cons]; exact h1 _ _ ih
  have h := this xs.reverse
  rwa [List.reverse_reverse] at h
theorem val_vexact (xs : List UInt8) : val xs = vexact xs % 18446744073709551616 := by
  refine list_rec (P := fun xs => val xs = vexact xs % 18446744073709551616) rfl (fun xs u h => ?_) xs
  rw [val_snoc, vexact_snoc, h]; omega
theorem vexact_lt (xs : List UInt8) : vexact xs < 128 ^ xs.length := by
  refine list_rec (P := fun xs => vexact xs < 128 ^ xs.length) (by decide) (fun xs u h => ?_) xs
  rw [vexact_snoc, List.length_append, List.length_singleton, Nat.pow_succ]
  have := Nat.mod_lt u.toNat (show 0 < 128 by decide)
  omega
theorem vexact_cons (u : UInt8) (xs : List UInt8) : vexact (u :: xs) = u.toNat % 128 * 128 ^ xs.length + vexact xs := by
  refine list_rec (P := fun xs => vexact (u :: xs) = u.toNat % 128 * 128 ^ xs.length + vexact xs) (by simp [vexact]) (fun xs w h => ?_) xs
  rw [← List.cons_append, vexact_snoc, h, vexact_snoc, List.length_append, List.length_singleton, Nat.pow_succ, Nat.add_mul, Nat.mul_assoc]
  omega
theorem encH_back : ∀ (ys : List UInt8), (∀ u ∈ ys, 128 ≤ u.toNat) → ys.head? ≠ some 128 → encH (vexact ys) = ys := by
  intro ys
  refine list_rec (P := fun ys => (∀ u ∈ ys, 128 ≤ u.toNat) → ys.head? ≠ some 128 → encH (vexact ys) = ys) (fun _ _ => by unfold vexact; rw [List.foldl_nil, encH_zero]) (fun zs w ih hge hh => ?_) ys
  have hw := hge w (by simp)
  have hw2 := w.toNat_lt
  have hback : UInt8.ofNat (w.toNat % 128 + 128) = w := UInt8.toNat_inj.1 (by rw [ofNat_hi (by omega)]; omega)
  cases zs with
  | nil =>
    have hne : w.toNat ≠ 128 := fun e => hh (by rw [show w = 128 from UInt8.toNat_inj.1 (by simpa using e)]; rfl)
    have e : vexact ([] ++ [w]) = w.toNat % 128 := by simp [vexact]
    rw [e, encH_pos (by omega), show w.toNat % 128 / 128 = 0 by omega, encH_zero, Nat.mod_mod, hback]
  | cons z zs =>
    have h1 := ih (fun u hu => hge u (by simp at hu ⊢; rcases hu with h | h <;> simp [h])) hh
    have h0 : vexact (z :: zs) ≠ 0 := fun e => by rw [e, encH_zero] at h1; cases h1
    rw [vexact_snoc, encH_pos (by omega), show (vexact (z :: zs) * 128 + w.toNat % 128) / 128 = vexact (z :: zs) by omega, h1, show (vexact (z :: zs) * 128 + w.toNat % 128) % 128 = w.toNat % 128 by omega, hback]
theorem enc_read {l : List UInt8} {a : Nat} (h : uCode l a = 0) : enc (uVal l a) = (l.drop a).take (cont l a + 1) := by
  have hcd := h
  unfold uCode at h
  split at h
  · cases h
  · rename_i hlen
    split at h
    · cases h
    · rename_i hne
      split at h
      · rename_i hm
        obtain ⟨u, hu⟩ : ∃ u, l[a + cont l a]? = some u := ⟨_, List.getElem?_eq_getElem (by omega)⟩
        have hu128 := cont_end hu
        have hsplit : (l.drop a).take (cont l a + 1) = (l.drop a).take (cont l a) ++ [u] := by
          rw [List.take_add_one, List.getElem?_drop, hu]; rfl
        have hys : ∀ y ∈ (l.drop a).take (cont l a), 128 ≤ y.toNat := by
          intro y hy
          obtain ⟨j, hj⟩ := List.mem_iff_getElem?.1 hy
          have hjc : j < cont l a := by
            have := (List.getElem?_eq_some_iff.1 hj).1
            simp at this; omega
          obtain ⟨x, hx, hx2⟩ := cont_lt hjc
          rw [List.getElem?_take_of_lt hjc, List.getElem?_drop, hx] at hj
          cases hj; exact hx2
        have hhead : ((l.drop a).take (cont l a)).head? ≠ some 128 := by
          intro e
          rw [List.head?_eq_getElem?] at e
          have hc0 : 0 < cont l a := by
            have := (List.getElem?_eq_some_iff.1 e).1
            simp at this; omega
          rw [List.getElem?_take_of_lt hc0, List.getElem?_drop, Nat.add_zero] at e
          exact hne e
        have hb := encH_back _ hys hhead
        have hll : ((l.drop a).take (cont l a)).length = cont l a := by simp; omega
        have hex : vexact ((l.drop a).take (cont l a + 1)) < 18446744073709551616 := by
          rcases hm with hm | ⟨hm, hm2⟩
          · have := vexact_lt ((l.drop a).take (cont l a + 1))
            rw [hsplit, List.length_append, hll, List.length_singleton] at this
            rw [hsplit]
            have hp : 128 ^ (cont l a + 1) ≤ 128 ^ 9 := Nat.pow_le_pow_right (by decide) (by omega)
            have : (128 : Nat) ^ 9 = 9223372036854775808 := rfl
            omega
          · obtain ⟨r, hr⟩ : ∃ r, (l.drop a).take (cont l a + 1) = 129 :: r := by
              cases hq : (l.drop a).take (cont l a + 1) with
              | nil => rw [hsplit] at hq; simp at hq
              | cons y r =>
                have h0 : ((l.drop a).take (cont l a + 1))[0]? = some y := by rw [hq]; rfl
                rw [List.getElem?_take_of_lt (by omega), List.getElem?_drop, Nat.add_zero, hm2] at h0
                cases h0; exact ⟨r, rfl⟩
            have hrl : r.length = 9 := by
              have := congrArg List.length hr
              rw [hsplit, List.length_append, hll] at this
              simp at this; omega
            rw [hr, vexact_cons, hrl]
            have h3 := vexact_lt r
            rw [hrl] at h3
            have h4 : (128 : Nat) ^ 9 = 9223372036854775808 := rfl
            rw [h4] at h3 ⊢
            have h5 : (129 : UInt8).toNat % 128 = 1 := by decide
            rw [h5]; omega
        have hv : uVal l a = vexact ((l.drop a).take (cont l a + 1)) := by
          unfold uVal; rw [val_vexact, Nat.mod_eq_of_lt hex]
        rw [hv, hsplit, vexact_snoc, enc, show (vexact ((l.drop a).take (cont l a)) * 128 + u.toNat % 128) / 128 = vexact ((l.drop a).take (cont l a)) by omega, hb]
        congr 1
        rw [show (vexact ((l.drop a).take (cont l a)) * 128 + u.toNat % 128) % 128 = u.toNat by omega, UInt8.ofNat_toNat]
      · cases h
theorem whole_zz {x : Int} (h0 : -9223372036854775808 ≤ x) (h1 : x < 9223372036854775808) : whole (zz x) = x := by
  unfold zz
  split
  · unfold whole; rw [if_pos (by omega)]; omega
  · unfold whole; rw [if_neg (by omega)]; omega
end Go.Proofs.YtdiaogcogkapgaaGreatDoor
namespace Go.Proofs.YtdiaogcogkapgaaGreatDoor
open Go.RowKit
inductive Fk where
  | ww | nn | kk | tt | bb
def Fk.enc : Fk → Value → List UInt8
  | .ww, .int _ x => Go.Proofs.YtdiaogcogkapgaaGreatDoor.enc (zz x)
  | .nn, .int _ x => Go.Proofs.YtdiaogcogkapgaaGreatDoor.enc x.toNat
  | .kk, .int _ x => Go.Proofs.YtdiaogcogkapgaaGreatDoor.enc x.toNat
  | .tt, .bool x => encB x
  | .bb, .int _ x => [UInt8.ofNat x.toNat]
  | _, _ => []
def Fk.ok : Fk → Value → Prop
  | .ww, v => ∃ x : Int, v = .int .i64 x ∧ -9223372036854775808 ≤ x ∧ x < 9223372036854775808
  | .nn, v => ∃ x : Int, v = .int .u64 x ∧ 0 ≤ x ∧ x < 18446744073709551616
  | .kk, v => ∃ x : Int, v = .int .u32 x ∧ 0 ≤ x ∧ x < 4294967296
  | .tt, v => ∃ x : Bool, v = .bool x
  | .bb, v => ∃ x : UInt8, v = bV x
inductive PR (α : Type) where
  | ok (x : α) (next : Nat)
  | bad (code at_ : Nat)
def PR.bind {α β : Type} (r : PR α) (f : α → Nat → PR β) : PR β := match r with
  | .ok x n => f x n
  | .bad c a => .bad c a
def Fk.pr (l : List UInt8) (a : Nat) : Fk → PR Value
  | .ww => if uCode l a = 0 then .ok (.int .i64 (whole (uVal l a))) (uNext l a) else .bad (uCode l a) a
  | .nn => if uCode l a = 0 then .ok (.int .u64 (uVal l a)) (uNext l a) else .bad (uCode l a) a
  | .kk => if uCode l a = 0 then (if uVal l a < 4294967296 then .ok (.int .u32 (uVal l a)) (uNext l a) else .bad 4 a) else .bad (uCode l a) a
  | .tt => if tCode l a = 0 then .ok (.bool ((bVal l a).toNat == 1)) (a + 1) else .bad (tCode l a) a
  | .bb => if bCode l a = 0 then .ok (bV (bVal l a)) (a + 1) else .bad (bCode l a) a
def encs : List Fk → List Value → List UInt8
  | f :: fs, v :: vs => f.enc v ++ encs fs vs
  | _, _ => []
def Oks : List Fk → List Value → Prop
  | [], [] => True
  | f :: fs, v :: vs => f.ok v ∧ Oks fs vs
  | _, _ => False
def prs (l : List UInt8) : List Fk → Nat → PR (List Value)
  | [], a => .ok [] a
  | f :: fs, a => (f.pr l a).bind fun v a' => (prs l fs a').bind fun vs a'' => .ok (v :: vs) a''
def prn (l : List UInt8) (es : List Fk) : Nat → Nat → PR (List (List Value))
  | 0, a => .ok [] a
  | n + 1, a => (prs l es a).bind fun v a' => (prn l es n a').bind fun vs a'' => .ok (v :: vs) a''
def prl (l : List UInt8) (most : Nat) (es : List Fk) (a : Nat) : PR (List (List Value)) :=
  (Fk.nn.pr l a).bind fun _ a' => if uVal l a ≤ most then prn l es (uVal l a) a' else .bad 4 a
def encl (es : List Fk) (vss : List (List Value)) : List UInt8 := enc vss.length ++ vss.flatMap (encs es)
theorem Oks.len : ∀ {fs : List Fk} {vs : List Value}, Oks fs vs → vs.length = fs.length
  | [], [], _ => rfl
  | _ :: _, _ :: _, h => by simp [Oks.len h.2]
  | [], _ :: _, h => h.elim
  | _ :: _, [], h => h.elim
theorem Oks.app : ∀ {fs gs : List Fk} {vs us : List Value}, Oks fs vs → Oks gs us → Oks (fs ++ gs) (vs ++ us)
  | [], _, [], _, _, h => h
  | _ :: _, _, _ :: _, _, h1, h2 => ⟨h1.1, Oks.app h1.2 h2⟩
  | [], _, _ :: _, _, h, _ => h.elim
  | _ :: _, _, [], _, h, _ => h.elim
theorem PR.bind_ok {α β : Type} {r : PR α} {f : α → Nat → PR β} {y : β} {b : Nat} (h : r.bind f = .ok y b) : ∃ x a, r = .ok x a ∧ f x a = .ok y b := by
  cases r with
  | ok x a => exact ⟨x, a, rfl, h⟩
  | bad c a => cases h
theorem prs_app (l : List UInt8) : ∀ (fs gs : List Fk) (a : Nat), prs l (fs ++ gs) a = (prs l fs a).bind fun vs a' => (prs l gs a').bind fun us a'' => .ok (vs ++ us) a''
  | [], gs, a => by
    simp only [List.nil_append, prs, PR.bind]
    cases prs l gs a <;> rfl
  | f :: fs, gs, a => by
    simp only [List.cons_append, prs]
    cases f.pr l a with
    | bad c a => rfl
    | ok v a' =>
      simp only [PR.bind]
      rw [prs_app l fs gs a']
      cases prs l fs a' with
      | bad c a => rfl
      | ok vs a'' =>
        simp only [PR.bind]
        cases prs l gs a'' <;> rfl
theorem zz_whole {n : Nat} : zz (whole n) = n := by
  unfold whole
  split
  · unfold zz; rw [if_pos (by omega)]; omega
  · unfold zz; rw [if_neg (by omega)]; omega
theorem whole_rng {n : Nat} (h : n < 18446744073709551616) : -9223372036854775808 ≤ whole n ∧ whole n < 9223372036854775808 := by
  unfold whole; split <;> omega
def cut (l : List UInt8) (a b : Nat) : List UInt8 := (l.drop a).take (b - a)
theorem cut_app {l : List UInt8} {a b c : Nat} (h1 : a ≤ b) (h2 : b ≤ c) : cut l a b ++ cut l b c = cut l a c := by
  unfold cut
  rw [show c - a = (b - a) + (c - b) by omega, List.take_add, List.drop_drop]
  congr 3
  omega
theorem cut_self (l : List UInt8) (a : Nat) : cut l a a = [] := by unfold cut; simp
theorem byte_cut {l : List UInt8} {a : Nat} (h : a < l.length) : cut l a (a + 1) = [bVal l a] := by
  unfold cut bVal
  rw [show a + 1 - a = 1 by omega, List.getElem?_eq_getElem h, List.drop_eq_getElem_cons h]
  rfl
def Went (l : List UInt8) (ok : Prop) (bs : List UInt8) (a b : Nat) : Prop := ok ∧ a ≤ b ∧ b ≤ l.length ∧ bs = cut l a b
theorem u_went {l : List UInt8} {a : Nat} (h : uCode l a = 0) : a ≤ uNext l a ∧ uNext l a ≤ l.length ∧ enc (uVal l a) = cut l a (uNext l a) := by
  refine ⟨by unfold uNext; omega, uNext_le h, ?_⟩
  rw [enc_read h]
  unfold cut uNext
  congr 1
  omega
theorem pr_went {l : List UInt8} {a b : Nat} {f : Fk} {v : Value} (h : f.pr l a = .ok v b) : Went l (f.ok v) (f.enc v) a b := by
  have hv := val_lt ((l.drop a).take (cont l a + 1))
  cases f with
  | ww =>
    simp only [Fk.pr] at h
    split at h
    · rename_i hc
      cases h
      obtain ⟨h1, h2, h3⟩ := u_went hc
      refine ⟨⟨_, rfl, whole_rng hv⟩, h1, h2, ?_⟩
      show enc (zz (whole (uVal l a))) = _
      rw [zz_whole, h3]
    · cases h
  | nn =>
    simp only [Fk.pr] at h
    split at h
    · rename_i hc
      cases h
      obtain ⟨h1, h2, h3⟩ := u_went hc
      refine ⟨⟨_, rfl, by omega, by unfold uVal; omega⟩, h1, h2, ?_⟩
      show enc ((uVal l a : Nat) : Int).toNat = _
      rw [Int.toNat_natCast, h3]
    · cases h
  | kk =>
    simp only [Fk.pr] at h
    split at h
    · rename_i hc
      split at h
      · cases h
        obtain ⟨h1, h2, h3⟩ := u_went hc
        refine ⟨⟨_, rfl, by omega, by omega⟩, h1, h2, ?_⟩
        show enc ((uVal l a : Nat) : Int).toNat = _
        rw [Int.toNat_natCast, h3]
      · cases h
    · cases h
  | tt =>
    simp only [Fk.pr] at h
    split at h
    · rename_i hc
      cases h
      unfold tCode at hc
      split at hc
      · rename_i hlt
        split at hc
        · rename_i h1
          refine ⟨⟨_, rfl⟩, by omega, by omega, ?_⟩
          rw [byte_cut hlt]
          show encB ((bVal l a).toNat == 1) = _
          by_cases h0 : (bVal l a).toNat = 1
          · rw [show ((bVal l a).toNat == 1) = true by simpa using h0]
            show [1] = _
            congr 1
            exact (UInt8.toNat_inj.1 (by rw [h0]; rfl)).symm
          · rw [show ((bVal l a).toNat == 1) = false by simpa using h0]
            show [0] = _
            congr 1
            exact (UInt8.toNat_inj.1 (show (bVal l a).toNat = 0 by omega)).symm
        · cases hc
      · cases hc
    · cases h
  | bb =>
    simp only [Fk.pr] at h
    split at h
    · rename_i hc
      cases h
      have hlt := bNext_le hc
      refine ⟨⟨_, rfl⟩, by omega, by omega, ?_⟩
      rw [byte_cut (by omega)]
      show [UInt8.ofNat ((bVal l a).toNat : Int).toNat] = _
      rw [Int.toNat_natCast, UInt8.ofNat_toNat]
    · cases h
theorem prs_went {l : List UInt8} : ∀ {fs : List Fk} {a b : Nat} {vs : List Value}, a ≤ l.length → prs l fs a = .ok vs b → Went l (Oks fs vs) (encs fs vs) a b
  | [], a, b, vs, ha, h => by
    cases h
    exact ⟨trivial, Nat.le_refl _, ha, (cut_self l a).symm⟩
  | f :: fs, a, b, vs, ha, h => by
    obtain ⟨v, a', h1, h2⟩ := PR.bind_ok h
    obtain ⟨us, a'', h3, h4⟩ := PR.bind_ok h2
    cases h4
    obtain ⟨o1, l1, l2, e1⟩ := pr_went h1
    obtain ⟨o2, l3, l4, e2⟩ := prs_went l2 h3
    refine ⟨⟨o1, o2⟩, by omega, l4, ?_⟩
    show f.enc v ++ encs fs us = _
    rw [e1, e2, cut_app l1 l3]
theorem prn_went {l : List UInt8} {es : List Fk} : ∀ {n a b : Nat} {vss : List (List Value)}, a ≤ l.length → prn l es n a = .ok vss b → Went l (vss.length = n ∧ ∀ vs ∈ vss, Oks es vs) (vss.flatMap (encs es)) a b
  | 0, a, b, vss, ha, h => by
    cases h
    exact ⟨⟨rfl, by simp⟩, Nat.le_refl _, ha, (cut_self l a).symm⟩
  | n + 1, a, b, vss, ha, h => by
    obtain ⟨v, a', h1, h2⟩ := PR.bind_ok h
    obtain ⟨us, a'', h3, h4⟩ := PR.bind_ok h2
    cases h4
    obtain ⟨o1, l1, l2, e1⟩ := prs_went ha h1
    obtain ⟨o2, l3, l4, e2⟩ := prn_went l2 h3
    refine ⟨⟨by simp [o2.1], fun vs hv => ?_⟩, by omega, l4, ?_⟩
    · rcases List.mem_cons.1 hv with rfl | hv
      · exact o1
      · exact o2.2 _ hv
    · rw [List.flatMap_cons, e1, e2, cut_app l1 l3]
theorem prl_went {l : List UInt8} {es : List Fk} {most a b : Nat} {vss : List (List Value)} (h : prl l most es a = .ok vss b) : Went l (vss.length ≤ most ∧ ∀ vs ∈ vss, Oks es vs) (encl es vss) a b := by
  obtain ⟨v, a', h1, h2⟩ := PR.bind_ok h
  obtain ⟨o1, l1, l2, e1⟩ := pr_went h1
  simp only [Fk.pr] at h1
  split at h1
  · cases h1
    split at h2
    · rename_i hm
      obtain ⟨o2, l3, l4, e2⟩ := prn_went l2 h2
      refine ⟨⟨by omega, o2.2⟩, by omega, l4, ?_⟩
      have e1' : enc (uVal l a) = cut l a (uNext l a) := by
        have : Fk.enc .nn (.int .u64 (uVal l a)) = enc (uVal l a) := by show enc ((uVal l a : Nat) : Int).toNat = _; rw [Int.toNat_natCast]
        rw [← this]; exact e1
      unfold encl
      rw [o2.1, e1', e2, cut_app l1 l3]
    · cases h2
  · cases h1
theorem at_mid {pre post : List UInt8} {u : UInt8} : (pre ++ u :: post)[pre.length]? = some u := by simp
theorem enc_pr {f : Fk} {v : Value} (h : f.ok v) (pre post : List UInt8) : f.pr (pre ++ (f.enc v ++ post)) pre.length = .ok v (pre ++ f.enc v).length := by
  cases f with
  | ww =>
    obtain ⟨x, rfl, h0, h1⟩ := h
    obtain ⟨e1, e2, e3⟩ := read_enc (pre := pre) (post := post) (zz_lt h0 h1)
    show Fk.pr (pre ++ (enc (zz x) ++ post)) pre.length .ww = _
    simp only [Fk.pr]
    rw [if_pos e1, e2, e3, whole_zz h0 h1]
    rfl
  | nn =>
    obtain ⟨x, rfl, h0, h1⟩ := h
    obtain ⟨e1, e2, e3⟩ := read_enc (pre := pre) (post := post) (n := x.toNat) (by omega)
    show Fk.pr (pre ++ (enc x.toNat ++ post)) pre.length .nn = _
    simp only [Fk.pr]
    rw [if_pos e1, e2, e3, show ((x.toNat : Nat) : Int) = x by omega]
    rfl
  | kk =>
    obtain ⟨x, rfl, h0, h1⟩ := h
    obtain ⟨e1, e2, e3⟩ := read_enc (pre := pre) (post := post) (n := x.toNat) (by omega)
    show Fk.pr (pre ++ (enc x.toNat ++ post)) pre.length .kk = _
    simp only [Fk.pr]
    rw [if_pos e1, e2, if_pos (by omega), e3, show ((x.toNat : Nat) : Int) = x by omega]
    rfl
  | tt =>
    obtain ⟨x, rfl⟩ := h
    show Fk.pr (pre ++ (encB x ++ post)) pre.length .tt = _
    cases x
    · have hg : (pre ++ (encB false ++ post))[pre.length]? = some 0 := at_mid
      have hb : bVal (pre ++ (encB false ++ post)) pre.length = 0 := by unfold bVal; rw [hg]; rfl
      have hc : tCode (pre ++ (encB false ++ post)) pre.length = 0 := by
        unfold tCode; rw [hb, if_pos (by simp [encB]), if_pos (by decide)]
      simp only [Fk.pr]
      rw [if_pos hc, hb]
      simp [Fk.enc, encB]
    · have hg : (pre ++ (encB true ++ post))[pre.length]? = some 1 := at_mid
      have hb : bVal (pre ++ (encB true ++ post)) pre.length = 1 := by unfold bVal; rw [hg]; rfl
      have hc : tCode (pre ++ (encB true ++ post)) pre.length = 0 := by
        unfold tCode; rw [hb, if_pos (by simp [encB]), if_pos (by decide)]
      simp only [Fk.pr]
      rw [if_pos hc, hb]
      simp [Fk.enc, encB]
  | bb =>
    obtain ⟨x, rfl⟩ := h
    have e : Fk.enc .bb (bV x) = [x] := by show [UInt8.ofNat ((x.toNat : Nat) : Int).toNat] = _; rw [Int.toNat_natCast, UInt8.ofNat_toNat]
    rw [e]
    have hg : (pre ++ ([x] ++ post))[pre.length]? = some x := at_mid
    have hb : bVal (pre ++ ([x] ++ post)) pre.length = x := by unfold bVal; rw [hg]; rfl
    have hc : bCode (pre ++ ([x] ++ post)) pre.length = 0 := by unfold bCode; rw [if_pos (by simp)]
    simp only [Fk.pr]
    rw [if_pos hc, hb]
    simp
theorem encs_prs : ∀ {fs : List Fk} {vs : List Value}, Oks fs vs → ∀ (pre post : List UInt8), prs (pre ++ (encs fs vs ++ post)) fs pre.length = .ok vs (pre ++ encs fs vs).length
  | [], [], _, pre, post => by simp [prs, encs]
  | f :: fs, v :: vs, h, pre, post => by
    have e1 := enc_pr h.1 pre (encs fs vs ++ post)
    have e2 := encs_prs h.2 (pre ++ f.enc v) post
    have es : pre ++ (encs (f :: fs) (v :: vs) ++ post) = pre ++ (f.enc v ++ (encs fs vs ++ post)) := by show pre ++ (f.enc v ++ encs fs vs ++ post) = _; rw [List.append_assoc]
    have es2 : pre ++ (f.enc v ++ (encs fs vs ++ post)) = (pre ++ f.enc v) ++ (encs fs vs ++ post) := by rw [List.append_assoc]
    rw [es, prs, e1]
    show PR.bind (prs _ fs (pre ++ f.enc v).length) _ = _
    rw [es2, e2]
    show PR.ok _ _ = _
    rw [List.append_assoc]
    rfl
  | [], _ :: _, h, _, _ => h.elim
  | _ :: _, [], h, _, _ => h.elim
theorem encn_prn {es : List Fk} : ∀ {vss : List (List Value)}, (∀ vs ∈ vss, Oks es vs) → ∀ (pre post : List UInt8), prn (pre ++ (vss.flatMap (encs es) ++ post)) es vss.length pre.length = .ok vss (pre ++ vss.flatMap (encs es)).length
  | [], _, pre, post => by simp [prn]
  | v :: vss, h, pre, post => by
    have e1 := encs_prs (h v (List.mem_cons_self ..)) pre (vss.flatMap (encs es) ++ post)
    have e2 := encn_prn (fun vs hv => h vs (List.mem_cons_of_mem _ hv)) (pre ++ encs es v) post
    have s1 : pre ++ ((v :: vss).flatMap (encs es) ++ post) = pre ++ (encs es v ++ (vss.flatMap (encs es) ++ post)) := by rw [List.flatMap_cons, List.append_assoc]
    have s2 : pre ++ (encs es v ++ (vss.flatMap (encs es) ++ post)) = (pre ++ encs es v) ++ (vss.flatMap (encs es) ++ post) := by rw [List.append_assoc]
    rw [s1]
    show prn _ es (vss.length + 1) _ = _
    rw [prn, e1]
    show PR.bind (prn _ es vss.length (pre ++ encs es v).length) _ = _
    rw [s2, e2]
    show PR.ok _ _ = _
    rw [List.append_assoc]
    rfl
theorem encl_prl {es : List Fk} {most : Nat} {vss : List (List Value)} (hm : vss.length ≤ most) (hmm : most ≤ 1000000) (h : ∀ vs ∈ vss, Oks es vs) (pre post : List UInt8) : prl (pre ++ (encl es vss ++ post)) most es pre.length = .ok vss (pre ++ encl es vss).length := by
  obtain ⟨e1, e2, e3⟩ := read_enc (pre := pre) (post := vss.flatMap (encs es) ++ post) (n := vss.length) (by omega)
  have s1 : pre ++ (encl es vss ++ post) = pre ++ (enc vss.length ++ (vss.flatMap (encs es) ++ post)) := by unfold encl; rw [List.append_assoc]
  have s2 : pre ++ (enc vss.length ++ (vss.flatMap (encs es) ++ post)) = (pre ++ enc vss.length) ++ (vss.flatMap (encs es) ++ post) := by rw [List.append_assoc]
  rw [s1]
  simp only [prl, Fk.pr]
  rw [if_pos e1]
  simp only [PR.bind]
  rw [e2, if_pos hm, e3, s2, encn_prn h, List.append_assoc]
  rfl
end Go.Proofs.YtdiaogcogkapgaaGreatDoor
namespace Go.Proofs.YtdiaogcogkapgaaGreatDoor
open Go.RowKit
def FnE (P : Program) (f : FuncId) (args : List Value) (L : List (Nat × Obj)) (Rr Rp : Value → List (Nat × Obj) → Prop) : Prop := ∀ g w, Mem g L w → Calls P f args.toArray w (EndR g Rr Rp)
theorem EndR.mono {g : World} {Rr Rp Rr' Rp' : Value → List (Nat × Obj) → Prop} (h1 : ∀ v L, Rr v L → Rr' v L) (h2 : ∀ v L, Rp v L → Rp' v L) {e : Ending} {w : World} (h : EndR g Rr Rp e w) : EndR g Rr' Rp' e w := by
  rcases h with ⟨v, L, a, b, c⟩ | ⟨v, L, a, b, c⟩
  · exact .inl ⟨v, L, a, b, h1 v L c⟩
  · exact .inr ⟨v, L, a, b, h2 v L c⟩
theorem FnE.mono {P : Program} {f : FuncId} {args : List Value} {L : List (Nat × Obj)} {Rr Rp Rr' Rp' : Value → List (Nat × Obj) → Prop} (h : FnE P f args L Rr Rp) (h1 : ∀ v L, Rr v L → Rr' v L) (h2 : ∀ v L, Rp v L → Rp' v L) : FnE P f args L Rr' Rp' :=
  fun g w hm => (h g w hm).mono fun _ _ hE => hE.mono h1 h2
theorem FnE.perm {P : Program} {f : FuncId} {args : List Value} {L L1 : List (Nat × Obj)} {Rr Rp Rr1 Rp1 : Value → List (Nat × Obj) → Prop} (h : FnE P f args L1 Rr1 Rp1) (hp : L1.Perm L) (h1 : ∀ v L', Rr1 v L' → ∃ L2, L2.Perm L' ∧ Rr v L2) (h2 : ∀ v L', Rp1 v L' → ∃ L2, L2.Perm L' ∧ Rp v L2) : FnE P f args L Rr Rp :=
  fun g w hm => (h g w (hm.perm hp)).mono fun _ _ hE => by
    rcases hE with ⟨v, L', a, b, c⟩ | ⟨v, L', a, b, c⟩
    · obtain ⟨L2, p, q⟩ := h1 v L' c; exact .inl ⟨v, L2, a, b.perm p, q⟩
    · obtain ⟨L2, p, q⟩ := h2 v L' c; exact .inr ⟨v, L2, a, b.perm p, q⟩
theorem FnE.ofFn {P : Program} {f : FuncId} {args : List Value} {L : List (Nat × Obj)} {Rr Rp : Value → List (Nat × Obj) → Prop} (h : Fn P f args L Rr) : FnE P f args L Rr Rp :=
  fun g w hm => (h g w hm).mono fun _ _ ⟨v, L', h1, h2, h3⟩ => .inl ⟨v, L', h1, h2, h3⟩
theorem FnE.toFn {P : Program} {f : FuncId} {args : List Value} {L : List (Nat × Obj)} {Rr Rp : Value → List (Nat × Obj) → Prop} (h : FnE P f args L Rr Rp) (hn : ∀ v L', ¬ Rp v L') : Fn P f args L Rr :=
  fun g w hm => (h g w hm).mono fun _ _ hE => by
    rcases hE with ⟨v, L', a, b, c⟩ | ⟨v, L', _, _, c⟩
    · exact ⟨v, L', a, b, c⟩
    · exact (hn v L' c).elim
theorem FnE_enter {P : Program} {f : FuncId} {fn : Func} {code : Code} {args : List Value} {L : List (Nat × Obj)} {Rr Rp : Value → List (Nat × Obj) → Prop} {N : Nat} (hf : P.funcs[f]? = some fn) (hb : fn.body = some code) (hN : fn.ntmps = N) (hl : Nat.ble args.length N = true)
    (h : ∀ g, WC ⟨P, g, N, 0, none⟩ code (postL ⟨P, g, N, 0, none⟩ fn Rr Rp) ⟨initS 0 args, [], L⟩) : FnE P f args L Rr Rp := enterL hf hb hN hl h
section
variable {c : Cx} {o : Oper} {Kn : St → Prop} {K : Exit → St → Prop} {σ : St}
theorem OW_enterE {f : FuncId} {vs : List Value} {Rr Rp : Value → List (Nat × Obj) → Prop} (hnd : ∀ cc, o.op ≠ .defer cc) (hr : ∀ a w, Holds c.g c.N σ a w → (execOp a.eval o).run c.P w = .ok (.enter f vs.toArray) w) (hd : dok c.N o.dst = true)
    (hF : FnE c.P f vs σ.L Rr Rp) (hk : ∀ v L', Rr v L' → Kn (St.put ⟨σ.s, σ.D, L'⟩ o.dst v)) (hp : ∀ v L', Rp v L' → K (.panic (pan v)) ⟨[], σ.D, L'⟩) : OW c o Kn K σ := fun a w hH => by
  refine ⟨fun _ _ => trivial, ?_⟩
  rw [Oper.semAt_eq _ _ _ hnd, hr a w hH]
  refine ⟨fun h => by simp at h, (callsIn_fw c.r _ (hF c.g w hH.mem)).mono fun e w' hE => ?_⟩
  rcases hE with ⟨v, L', h1, h2, h3⟩ | ⟨v, L', h1, h2, h3⟩
  · subst h1
    exact ⟨_, (hH.mem' h2).put hd v, hk v L' h3⟩
  · subst h1
    exact ⟨σ.D, L', ⟨hH.size, (fun t u hu => by cases hu), hH.defers, h2⟩, hp v L' h3⟩
theorem call_run {f : FuncId} {x : Operand} {A B : Array Value} {args : Array Operand} {tys : Array TypeId} [hf : FCall c.P f] {vs : List Value} (ho : o.op = .call { callee := .value x, args := args, argTypes := tys }) (hx : ev σ.s x = some (.func (.func f) A B)) (ha : evs σ.s args.toList = some vs) (a : Act) (w : World) (hH : Holds c.g c.N σ a w) :
    (execOp a.eval o).run c.P w = .ok (.enter f (A.toList ++ vs ++ B.toList).toArray) w := by
  have hargs : args.map a.eval = vs.toArray := by
    apply Array.ext'
    simpa using hH.evs ha
  have e : (A.toList ++ vs ++ B.toList).toArray = A ++ vs.toArray ++ B := by apply Array.ext'; simp
  rw [e]
  simp [execOp, ho, resolve, Deferred.ofValue, hH.ev hx, hargs, invoke, hf.h]
end
theorem OW_callE {c : Cx} {o : Oper} {Kn : St → Prop} {K : Exit → St → Prop} {s : List (Nat × Value)} {D : List Deferred} {L : List (Nat × Obj)} {f d : FuncId} {x : Operand} {args : Array Operand} {tys : Array TypeId} [hf : FCall c.P f] {vs : List Value} {Rr Rp : Value → List (Nat × Obj) → Prop}
    (ho : o.op = .call { callee := .value x, args := args, argTypes := tys }) (hF : FnE c.P f vs L Rr Rp) (hk : ∀ v L', Rr v L' → Kn ⟨(d, v) :: s, D, L'⟩) (hp : ∀ v L', Rp v L' → K (.panic (pan v)) ⟨[], D, L'⟩)
    (hdst : o.dst = some d := by exact rfl) (hd : Nat.blt d c.N = true := by exact rfl) (hx : ev s x = some (.func (.func f) #[] #[]) := by exact rfl) (ha : evs s args.toList = some vs := by exact rfl) : OW c o Kn K ⟨s, D, L⟩ :=
  OW_enterE (σ := ⟨s, D, L⟩) (by rw [ho]; intro cc h; cases h) (call_run ho hx ha) (by rw [hdst]; exact hd) (by simpa using hF) (by rw [hdst]; exact hk) hp
theorem OW_invE {c : Cx} {o : Oper} {Kn : St → Prop} {K : Exit → St → Prop} {s : List (Nat × Value)} {D : List Deferred} {L : List (Nat × Obj)} {f d : FuncId} {x : Operand} {name : String} {args : Array Operand} {tys : Array TypeId} {t : TypeId} {r : Value} (hm : methX c.P t name = some f) [hf : FCall c.P f] {vs : List Value} {Rr Rp : Value → List (Nat × Obj) → Prop}
    (ho : o.op = .call { callee := .invoke x name, args := args, argTypes := tys }) (hF : FnE c.P f (r :: vs) L Rr Rp) (hk : ∀ v L', Rr v L' → Kn ⟨(d, v) :: s, D, L'⟩) (hp : ∀ v L', Rp v L' → K (.panic (pan v)) ⟨[], D, L'⟩)
    (hdst : o.dst = some d := by exact rfl) (hd : Nat.blt d c.N = true := by exact rfl) (hx : ev s x = some (.iface t r) := by exact rfl) (ha : evs s args.toList = some vs := by exact rfl) : OW c o Kn K ⟨s, D, L⟩ :=
  OW_enterE (σ := ⟨s, D, L⟩) (by rw [ho]; intro cc h; cases h) (fun a w hH => invoke_run ho hx ha hm a w hH) (by rw [hdst]; exact hd) hF (by rw [hdst]; exact hk) hp
def Free (fr : Nat × Nat) (off n : Nat) : Prop := ∀ k, k < n → ¬ (fr.1 ≤ off + k ∧ off + k < fr.2)
theorem Free.sub {fr : Nat × Nat} {off n : Nat} (h : Free fr off n) (j m : Nat) (hm : j + m ≤ n) : Free fr (off + j) m := fun k hk => by
  have := h (j + k) (by omega)
  rwa [← Nat.add_assoc] at this
theorem Free.zero (off n : Nat) : Free (0, 0) off n := fun k _ => by simp
theorem OW_store1F {c : Cx} {o : Oper} {Kn : St → Prop} {K : Exit → St → Prop} {s : List (Nat × Value)} {D : List Deferred} {L : List (Nat × Obj)} {t : TypeId} [hs : TSize c.P t 1] {x y : Operand} {b off : Nat} {cs : Array Value} {v : Value} {E : TypeId} {fr : Nat × Nat} (ho : o.op = .store t x y) (i : Nat) (hi : L[i]? = some (b, .cells cs E fr)) (hl : off < cs.size) (hfr : Free fr off 1)
    (hk : Kn ⟨s, D, L.set i (b, .cells (cs.setIfInBounds off v) E fr)⟩) (hdst : o.dst = none := by exact rfl) (hx : ev s x = some (.pointer (some ⟨b, off, none⟩)) := by exact rfl) (hy : ev s y = some v := by exact rfl) (h1 : v.oneCell' = true := by exact rfl) : OW c o Kn K ⟨s, D, L⟩ := fun a w ha => by
  refine ⟨fun _ _ => trivial, ?_⟩
  have hcell : w.cell? ⟨b, off, none⟩ = some cs[off] := by rw [cell_of_row w b off cs E fr (ha.mem.at_ hi)]; simp [hl]
  have hfro : w.frozen? ⟨b, off, none⟩ = false := by
    obtain ⟨lo, hi'⟩ := fr
    have h2 := hfr 0 (by omega)
    simp only [Nat.add_zero] at h2
    unfold World.frozen?
    simp only [ha.mem.at_ hi, Bool.and_eq_false_iff, decide_eq_false_iff_not]
    omega
  have hc1 : v.cells = #[v] := by cases v <;> first | rfl | cases h1
  have hr : (execOp a.eval o).run c.P w = .ok .skip (w.setRow b (cs.setIfInBounds off v)) := by
    have hst : (store (⟨b, off, none⟩ : Addr) v).run c.P w = .ok () (w.setRow b (cs.setIfInBounds off v)) := by
      rw [run_store c.P w _ v _ h1, hcell]
      simp [hfro, setCell_eq_setRow w b off cs E fr v (ha.mem.at_ hi)]
    simp [execOp, ho, ha.ev hx, ha.ev hy, Instr.storeAt, Instr.sureAddr, storeVar, hs.h, hc1, storeCells, Addr.add, hst]
  rw [Oper.semAt_eq _ _ _ (by rw [ho]; intro cc h; cases h), hr]
  refine ⟨_, ?_, hk⟩
  rw [hdst]
  exact ha.mem' (ha.mem.setRow hi _)
theorem set_app {A R : List (Nat × Obj)} {i : Nat} {q : Nat × Obj} : (A ++ R).set (A.length + i) q = A ++ R.set i q := by
  rw [List.set_append_right _ _ (by omega)]
  congr 2
  omega
theorem get_app {A R : List (Nat × Obj)} {i : Nat} {q : Nat × Obj} (h : R[i]? = some q) : (A ++ R)[A.length + i]? = some q := by
  rw [List.getElem?_append_right (by omega), show A.length + i - A.length = i by omega]; exact h
def Lies (cs : Array Value) (off : Nat) (vs : List Value) : Prop := ∀ j v, vs[j]? = some v → cs[off + j]? = some v
structure Upd (cs cs' : Array Value) (off : Nat) (vs : List Value) : Prop where
  size : cs'.size = cs.size
  lies : Lies cs' off vs
  rest : ∀ q, q < off ∨ off + vs.length ≤ q → cs'[q]? = cs[q]?
theorem Lies.cons {cs : Array Value} {off : Nat} {v : Value} {vs : List Value} (h : Lies cs off (v :: vs)) : cs[off]? = some v ∧ Lies cs (off + 1) vs :=
  ⟨h 0 v rfl, fun j u hj => by rw [Nat.add_assoc, Nat.add_comm 1 j]; exact h (j + 1) u hj⟩
theorem Lies.app {cs : Array Value} {off : Nat} {vs us : List Value} (h : Lies cs off (vs ++ us)) : Lies cs off vs ∧ Lies cs (off + vs.length) us :=
  ⟨fun j v hj => h j v (by rw [List.getElem?_append_left (List.getElem?_eq_some_iff.1 hj).1]; exact hj), fun j v hj => by
    rw [Nat.add_assoc]; exact h _ v (by rw [List.getElem?_append_right (by omega), show vs.length + j - vs.length = j by omega]; exact hj)⟩
theorem Lies.cut {cs : Array Value} {off : Nat} {vs : List Value} (h : Lies cs off vs) (at_ m : Nat) : Lies cs (off + at_) ((vs.drop at_).take m) := fun j v hj => by
  rw [Nat.add_assoc]
  refine h _ v ?_
  rw [List.getElem?_take] at hj
  split at hj
  · rwa [List.getElem?_drop] at hj
  · cases hj
theorem Upd.app {cs cs1 cs2 : Array Value} {off off' : Nat} {vs us : List Value} (h1 : Upd cs cs1 off vs) (h2 : Upd cs1 cs2 off' us) (ho : off' = off + vs.length) : Upd cs cs2 off (vs ++ us) := by
  subst ho
  refine ⟨h2.size.trans h1.size, fun j v hj => ?_, fun q hq => ?_⟩
  · by_cases hlt : j < vs.length
    · rw [List.getElem?_append_left hlt] at hj
      rw [h2.rest _ (.inl (by omega))]; exact h1.lies j v hj
    · rw [List.getElem?_append_right (by omega)] at hj
      have := h2.lies _ v hj
      rwa [show off + vs.length + (j - vs.length) = off + j by omega] at this
  · rw [List.length_append] at hq
    rw [h2.rest q (by omega), h1.rest q (by omega)]
theorem Upd.refl_of {cs : Array Value} {off : Nat} {vs : List Value} (h : Lies cs off vs) : Upd cs cs off vs := ⟨rfl, h, fun _ _ => rfl⟩
theorem Upd.keep {cs cs' : Array Value} {off off' : Nat} {vs us : List Value} (h : Upd cs cs' off vs) (hl : Lies cs off' us) (hd : off' + us.length ≤ off ∨ off + vs.length ≤ off') : Lies cs' off' us := fun j v hj => by
  have := (List.getElem?_eq_some_iff.1 hj).1
  rw [h.rest _ (by omega)]; exact hl j v hj
theorem Upd.same {cs cs' : Array Value} {off : Nat} {vs : List Value} (h : Upd cs cs' off vs) (hl : Lies cs off vs) : cs' = cs := by
  apply Array.ext_getElem?
  intro q
  by_cases hq : q < off ∨ off + vs.length ≤ q
  · exact h.rest q hq
  · obtain ⟨v, hv⟩ : ∃ v, vs[q - off]? = some v := ⟨_, List.getElem?_eq_getElem (by omega)⟩
    have h1 := h.lies _ v hv
    have h2 := hl _ v hv
    rw [show off + (q - off) = q by omega] at h1 h2
    rw [h1, h2]
theorem Upd.one {cs : Array Value} {off : Nat} (v : Value) (h : off < cs.size) : Upd cs (cs.setIfInBounds off v) off [v] := by
  refine ⟨by simp, fun j u hj => ?_, fun q hq => ?_⟩
  · cases j with
    | zero => simp at hj; subst hj; simp [h]
    | succ j => simp at hj
  · rw [Array.getElem?_setIfInBounds_ne (by simp at hq; omega)]
inductive RW (S : Type) where
  | ok (s : S) (v : Value)
  | bad (code at_ : Nat)
inductive RWs (S : Type) where
  | ok (s : S) (vs : List Value)
  | bad (code at_ : Nat)
structure Wy (P : Program) where
  S : Type
  t : TypeId
  v : Value
  T0 : List (Nat × Obj)
  mem : S → List (Nat × Obj) → Prop
  room : S → Nat → Prop
  stp : Fk → S → Value → RW S
  hr : S → S
  mst : Bool → Nat → S → Option (Nat × Nat)
  hr_room : ∀ {s n}, room s n → room (hr s) n
  key_ok : ∀ {s x s' y}, 0 ≤ x → x < 4294967296 → stp .nn (hr s) (.int .u64 x) = .ok s' (.int .u64 y) → mst (decide (y ≤ 4294967295)) 4 s' = none → stp .kk s (.int .u32 x) = .ok s' (.int .u32 y) ∧ y < 4294967296
  key_bad : ∀ {s x c a}, stp .nn (hr s) (.int .u64 x) = .bad c a → stp .kk s (.int .u32 x) = .bad c a
  key_must : ∀ {s x s' y c a}, stp .nn (hr s) (.int .u64 x) = .ok s' (.int .u64 y) → mst (decide (y ≤ 4294967295)) 4 s' = some (c, a) → stp .kk s (.int .u32 x) = .bad c a
  keeps : T0 = [] ∨ ∀ k s x s' y, stp k s x = .ok s' y → y = x
  stp_ok : ∀ {k s x s' y}, stp k s x = .ok s' y → Fk.ok k x → Fk.ok k y
  stp_room : ∀ {k s x s' y n}, stp k s x = .ok s' y → Fk.ok k x → room s (n + 1) → room s' n
  room_le : ∀ {s n m}, room s n → m ≤ n → room s m
variable {P : Program}
def Wy.recv (W : Wy P) : Value := .iface W.t W.v
def Wy.stps (W : Wy P) : List Fk → W.S → List Value → RWs W.S
  | [], s, _ => .ok s []
  | _ :: _, s, [] => .ok s []
  | k :: ks, s, v :: vs => match W.stp k s v with
    | .bad c a => .bad c a
    | .ok s' v' => match W.stps ks s' vs with
      | .bad c a => .bad c a
      | .ok s'' vs' => .ok s'' (v' :: vs')
theorem Wy.stps_app (W : Wy P) : ∀ {ks : List Fk} {ls : List Fk} {s : W.S} {vs us : List Value}, Oks ks vs → W.stps (ks ++ ls) s (vs ++ us) = match W.stps ks s vs with
    | .bad c a => .bad c a
    | .ok s' vs' => match W.stps ls s' us with
      | .bad c a => .bad c a
      | .ok s'' us' => .ok s'' (vs' ++ us')
  | [], ls, s, [], us, _ => by
    simp only [List.nil_append, Wy.stps]
    cases W.stps ls s us <;> rfl
  | k :: ks, ls, s, v :: vs, us, h => by
    simp only [List.cons_append, Wy.stps]
    cases W.stp k s v with
    | bad c a => rfl
    | ok s' v' =>
      simp only
      rw [Wy.stps_app W h.2]
      cases W.stps ks s' vs with
      | bad c a => rfl
      | ok s'' vs' =>
        simp only
        cases W.stps ls s'' us <;> rfl
  | [], _, _, _ :: _, _, h => h.elim
  | _ :: _, _, _, [], _, h => h.elim
theorem Wy.stps_ok (W : Wy P) : ∀ {ks : List Fk} {s s' : W.S} {vs us : List Value}, W.stps ks s vs = .ok s' us → Oks ks vs → Oks ks us
  | [], _, _, [], us, h, _ => by simp only [Wy.stps] at h; cases h; trivial
  | k :: ks, s, s', v :: vs, us, h, ho => by
    simp only [Wy.stps] at h
    cases h1 : W.stp k s v with
    | bad c a => rw [h1] at h; cases h
    | ok s1 v1 =>
      rw [h1] at h
      cases h2 : W.stps ks s1 vs with
      | bad c a => simp only [h2] at h; cases h
      | ok s2 vs2 =>
        simp only [h2] at h
        cases h
        exact ⟨W.stp_ok h1 ho.1, Wy.stps_ok W h2 ho.2⟩
  | [], _, _, _ :: _, _, _, h => h.elim
  | _ :: _, _, _, [], _, _, h => h.elim
theorem Wy.stps_room (W : Wy P) : ∀ {ks : List Fk} {s s' : W.S} {vs us : List Value} {n : Nat}, W.stps ks s vs = .ok s' us → Oks ks vs → W.room s (n + ks.length) → W.room s' n
  | [], _, _, [], us, n, h, _, hr => by simp only [Wy.stps] at h; cases h; exact hr
  | k :: ks, s, s', v :: vs, us, n, h, ho, hr => by
    simp only [Wy.stps] at h
    cases h1 : W.stp k s v with
    | bad c a => rw [h1] at h; cases h
    | ok s1 v1 =>
      rw [h1] at h
      cases h2 : W.stps ks s1 vs with
      | bad c a => simp only [h2] at h; cases h
      | ok s2 vs2 =>
        simp only [h2] at h
        cases h
        exact Wy.stps_room W h2 ho.2 (W.stp_room h1 ho.1 hr)
  | [], _, _, _ :: _, _, _, _, h, _ => h.elim
  | _ :: _, _, _, [], _, _, _, h, _ => h.elim
theorem Wy.cat_ok (W : Wy P) {fs gs : List Fk} {s s1 s2 : W.S} {vs us vs1 us2 : List Value} (h1 : W.stps fs s vs = .ok s1 vs1) (ho : Oks fs vs) (h2 : W.stps gs s1 us = .ok s2 us2) : W.stps (fs ++ gs) s (vs ++ us) = .ok s2 (vs1 ++ us2) := by
  rw [W.stps_app ho, h1]
  simp only [h2]
theorem Wy.cat_bad (W : Wy P) {fs gs : List Fk} {s s1 : W.S} {vs us vs1 : List Value} {c a : Nat} (h1 : W.stps fs s vs = .ok s1 vs1) (ho : Oks fs vs) (h2 : W.stps gs s1 us = .bad c a) : W.stps (fs ++ gs) s (vs ++ us) = .bad c a := by
  rw [W.stps_app ho, h1]
  simp only [h2]
theorem Wy.bad_cat (W : Wy P) {fs : List Fk} (gs : List Fk) {s : W.S} {vs : List Value} (us : List Value) {c a : Nat} (h1 : W.stps fs s vs = .bad c a) (ho : Oks fs vs) : W.stps (fs ++ gs) s (vs ++ us) = .bad c a := by
  rw [W.stps_app ho, h1]
theorem Wy.stps_len (W : Wy P) {fs : List Fk} {s s' : W.S} {vs us : List Value} (h : W.stps fs s vs = .ok s' us) (ho : Oks fs vs) : us.length = fs.length := (W.stps_ok h ho).len
theorem Wy.stps1_ok (W : Wy P) {k : Fk} {s s' : W.S} {v v' : Value} (h : W.stp k s v = .ok s' v') : W.stps [k] s [v] = .ok s' [v'] := by simp only [Wy.stps, h]
theorem Wy.stps1_bad (W : Wy P) {k : Fk} {s : W.S} {v : Value} {c a : Nat} (h : W.stp k s v = .bad c a) : W.stps [k] s [v] = .bad c a := by simp only [Wy.stps, h]
theorem Oks.split {k : Fk} {ks : List Fk} {vs : List Value} (h : Oks (k :: ks) vs) : ∃ v us, vs = v :: us ∧ k.ok v ∧ Oks ks us := by
  cases vs with
  | nil => exact h.elim
  | cons v us => exact ⟨v, us, rfl, h.1, h.2⟩
theorem Oks.nil {vs : List Value} (h : Oks [] vs) : vs = [] := by
  cases vs with
  | nil => rfl
  | cons v us => exact h.elim
theorem Oks.splitA : ∀ {fs gs : List Fk} {vs : List Value}, Oks (fs ++ gs) vs → ∃ us ws, vs = us ++ ws ∧ Oks fs us ∧ Oks gs ws
  | [], _, vs, h => ⟨[], vs, rfl, trivial, h⟩
  | _ :: fs, _, v :: vs, h => by
    obtain ⟨us, ws, rfl, h1, h2⟩ := Oks.splitA (fs := fs) h.2
    exact ⟨v :: us, ws, rfl, ⟨h.1, h1⟩, h2⟩
  | _ :: _, _, [], h => h.elim
def FRet (W : Wy P) (r : RWs W.S) (R : List (Nat × Obj)) (i b : Nat) (cs : Array Value) (E : TypeId) (fr : Nat × Nat) (off : Nat) (L' : List (Nat × Obj)) : Prop :=
  ∃ s' vs' Lp' cs', r = .ok s' vs' ∧ L' = Lp' ++ R.set i (b, .cells cs' E fr) ∧ W.mem s' Lp' ∧ Upd cs cs' off vs' ∧ ∀ q ∈ W.T0, q ∈ R.set i (b, .cells cs' E fr)
def FPan (W : Wy P) (r : RWs W.S) (R : List (Nat × Obj)) (i b : Nat) (cs : Array Value) (E : TypeId) (fr : Nat × Nat) (u : Value) (L' : List (Nat × Obj)) : Prop :=
  ∃ c a p s' Lp' cs', r = .bad c a ∧ u = flt p ∧ L' = (p, fltO c a) :: (Lp' ++ R.set i (b, .cells cs' E fr)) ∧ W.mem s' Lp' ∧ cs'.size = cs.size
def Flat (W : Wy P) (f : FuncId) (a0 : Value) (fs : List Fk) : Prop :=
  ∀ (s : W.S) (Lp R : List (Nat × Obj)) (i b : Nat) (cs : Array Value) (E : TypeId) (fr : Nat × Nat) (off : Nat) (vs : List Value), W.mem s Lp → (∀ q ∈ W.T0, q ∈ R) → W.room s fs.length → R[i]? = some (b, .cells cs E fr) → Oks fs vs → Lies cs off vs → Free fr off fs.length →
    FnE P f [a0, .pointer (some ⟨b, off, none⟩)] (Lp ++ R) (fun v L' => v = .tuple #[] ∧ FRet W (W.stps fs s vs) R i b cs E fr off L') (FPan W (W.stps fs s vs) R i b cs E fr)
theorem FnE.dropP {P : Program} {f : FuncId} {args : List Value} {L : List (Nat × Obj)} {Rr Rp Rp' : Value → List (Nat × Obj) → Prop} (h : FnE P f args L Rr Rp) (h2 : ∀ v L', Rp v L' → ∃ Lx, Lx.Sublist L' ∧ Rp' v Lx) : FnE P f args L Rr Rp' :=
  fun g w hm => (h g w hm).mono fun _ _ hE => by
    rcases hE with ⟨v, L', a, b, c⟩ | ⟨v, L', a, b, c⟩
    · exact .inl ⟨v, L', a, b, c⟩
    · obtain ⟨Lx, p, q⟩ := h2 v L' c; exact .inr ⟨v, Lx, a, b.sublist p, q⟩
theorem set_same {α : Type} {l : List α} {i : Nat} {x : α} (h : l[i]? = some x) : l.set i x = l := by
  apply List.ext_getElem?
  intro j
  rw [List.getElem?_set]
  obtain ⟨hl, he⟩ := List.getElem?_eq_some_iff.1 h
  by_cases e : i = j
  · subst e; simp [hl, he]
  · rw [if_neg e]
theorem get_set_self {α : Type} {l : List α} {i : Nat} {x : α} (h : l[i]? = some x) (y : α) : (l.set i y)[i]? = some y := by
  have := (List.getElem?_eq_some_iff.1 h).1
  simp [this]
section
variable {c : Cx} {o : Oper} {Kn : St → Prop} {K : Exit → St → Prop} {sl : List (Nat × Value)} {D : List Deferred}
structure After (W : Wy c.P) (fs : List Fk) (s : W.S) (vs : List Value) (R : List (Nat × Obj)) (i b : Nat) (cs : Array Value) (E : TypeId) (fr : Nat × Nat) (off : Nat) (Kn : List (Nat × Obj) → Prop) (Kp : List PanicEntry → List (Nat × Obj) → Prop) : Prop where
  ret : ∀ s' vs' Lp' cs', W.stps fs s vs = .ok s' vs' → W.mem s' Lp' → Upd cs cs' off vs' → (∀ q ∈ W.T0, q ∈ R.set i (b, .cells cs' E fr)) → Kn (Lp' ++ R.set i (b, .cells cs' E fr))
  pan : ∀ q a p s' Lp' cs', W.stps fs s vs = .bad q a → W.mem s' Lp' → cs'.size = cs.size → Kp (pan (flt p)) ((p, fltO q a) :: (Lp' ++ R.set i (b, .cells cs' E fr)))
variable {W : Wy c.P} {s : W.S} {Lp R : List (Nat × Obj)} {i b : Nat} {cs : Array Value} {E : TypeId} {fr : Nat × Nat} {off : Nat}
theorem OW_flatF {fs : List Fk} {vs : List Value} {f d : FuncId} {x : Operand} {args : Array Operand} {tys : Array TypeId} [hf : FCall c.P f] (hC : Flat W f W.recv fs) (hM : W.mem s Lp) (hT : ∀ q ∈ W.T0, q ∈ R) (hr : W.room s fs.length) (hR : R[i]? = some (b, .cells cs E fr)) (hv : Oks fs vs) (hl : Lies cs off vs) (hfr : Free fr off fs.length)
    (ho : o.op = .call { callee := .value x, args := args, argTypes := tys }) (hk : After W fs s vs R i b cs E fr off (fun L => Kn ⟨(d, .tuple #[]) :: sl, D, L⟩) (fun ch L => K (.panic ch) ⟨[], D, L⟩))
    (hdst : o.dst = some d := by exact rfl) (hd : Nat.blt d c.N = true := by exact rfl) (hx : ev sl x = some (.func (.func f) #[] #[]) := by exact rfl) (ha : evs sl args.toList = some [W.recv, .pointer (some ⟨b, off, none⟩)] := by exact rfl) : OW c o Kn K ⟨sl, D, Lp ++ R⟩ :=
  OW_callE ho (hC s Lp R i b cs E fr off vs hM hT hr hR hv hl hfr) (fun v L' ⟨h0, s', vs', Lp', cs', h1, h2, h3, h4, h5⟩ => by
    rw [h2, h0]; exact hk.ret s' vs' Lp' cs' h1 h3 h4 h5) (fun v L' ⟨q, a, p, s', Lp', cs', h1, h2, h3, h4, h5⟩ => by
    rw [h2, h3]; exact hk.pan q a p s' Lp' cs' h1 h4 h5) hdst hd hx ha
theorem OW_flatI {k : Fk} {x0 : Value} {f d : FuncId} {x : Operand} {name : String} {args : Array Operand} {tys : Array TypeId} (hm : methX c.P W.t name = some f) [hf : FCall c.P f] (hC : Flat W f W.v [k]) (hM : W.mem s Lp) (hT : ∀ q ∈ W.T0, q ∈ R) (hr : W.room s 1) (hR : R[i]? = some (b, .cells cs E fr)) (hv : k.ok x0) (hl : cs[off]? = some x0) (hfr : Free fr off 1)
    (ho : o.op = .call { callee := .invoke x name, args := args, argTypes := tys }) (hk : After W [k] s [x0] R i b cs E fr off (fun L => Kn ⟨(d, .tuple #[]) :: sl, D, L⟩) (fun ch L => K (.panic ch) ⟨[], D, L⟩))
    (hdst : o.dst = some d := by exact rfl) (hd : Nat.blt d c.N = true := by exact rfl) (hx : ev sl x = some (.iface W.t W.v) := by exact rfl) (ha : evs sl args.toList = some [.pointer (some ⟨b, off, none⟩)] := by exact rfl) : OW c o Kn K ⟨sl, D, Lp ++ R⟩ :=
  OW_enterE (σ := ⟨sl, D, Lp ++ R⟩) (by rw [ho]; intro cc h; cases h) (fun a w hH => invoke_run ho hx ha hm a w hH) (by rw [hdst]; exact hd) (hC s Lp R i b cs E fr off [x0] hM hT hr hR ⟨hv, trivial⟩ (fun j v hj => by
    cases j with
    | zero => simp at hj; subst hj; exact hl
    | succ j => simp at hj) hfr) (fun v L' ⟨h0, s', vs', Lp', cs', h1, h2, h3, h4, h5⟩ => by
    rw [hdst, h2, h0]; exact hk.ret s' vs' Lp' cs' h1 h3 h4 h5) (fun v L' ⟨q, a, p, s', Lp', cs', h1, h2, h3, h4, h5⟩ => by
    rw [h2, h3]; exact hk.pan q a p s' Lp' cs' h1 h4 h5)
theorem OW_locI {k : Fk} {x0 : Value} {f d m : FuncId} {x : Operand} {name : String} {args : Array Operand} {tys : Array TypeId} (hm : methX c.P W.t name = some f) [hf : FCall c.P f] (hC : Flat W f W.v [k]) (hM : W.mem s Lp) (hT : ∀ q ∈ W.T0, q ∈ R) (hr : W.room s 1) (hv : k.ok x0)
    (ho : o.op = .call { callee := .invoke x name, args := args, argTypes := tys })
    (hk : ∀ s' x' Lp', W.stp k s x0 = .ok s' x' → W.mem s' Lp' → Kn ⟨(d, .tuple #[]) :: sl, D, (m, .cells #[x'] E (0, 0)) :: (Lp' ++ R)⟩)
    (hp : ∀ q a p s' Lp', W.stp k s x0 = .bad q a → W.mem s' Lp' → K (.panic (pan (flt p))) ⟨[], D, (p, fltO q a) :: (Lp' ++ R)⟩)
    (hdst : o.dst = some d := by exact rfl) (hd : Nat.blt d c.N = true := by exact rfl) (hx : ev sl x = some (.iface W.t W.v) := by exact rfl) (ha : evs sl args.toList = some [.pointer (some ⟨m, 0, none⟩)] := by exact rfl) : OW c o Kn K ⟨sl, D, (m, .cells #[x0] E (0, 0)) :: (Lp ++ R)⟩ := by
  have hF := hC s Lp ((m, .cells #[x0] E (0, 0)) :: R) 0 m #[x0] E (0, 0) 0 [x0] hM (fun q hq => List.mem_cons_of_mem _ (hT q hq)) hr rfl ⟨hv, trivial⟩ (fun j v hj => by
    cases j with
    | zero => simp at hj; subst hj; rfl
    | succ j => simp at hj) (Free.zero _ _)
  have hF2 : FnE c.P f [W.v, .pointer (some ⟨m, 0, none⟩)] ((m, .cells #[x0] E (0, 0)) :: (Lp ++ R)) (fun v L' => v = .tuple #[] ∧ ∃ s' x' Lp', W.stp k s x0 = .ok s' x' ∧ L' = (m, .cells #[x'] E (0, 0)) :: (Lp' ++ R) ∧ W.mem s' Lp') (fun u L' => ∃ q a p s' Lp', W.stp k s x0 = .bad q a ∧ u = flt p ∧ L' = (p, fltO q a) :: (Lp' ++ R) ∧ W.mem s' Lp') := by
    refine FnE.perm (Rr1 := fun v L' => v = .tuple #[] ∧ FRet W (W.stps [k] s [x0]) ((m, .cells #[x0] E (0, 0)) :: R) 0 m #[x0] E (0, 0) 0 L') (Rp1 := fun u L' => ∃ q a p s' Lp', W.stp k s x0 = .bad q a ∧ u = flt p ∧ L' = (p, fltO q a) :: (Lp' ++ R) ∧ W.mem s' Lp') (hF.dropP ?_) List.perm_middle ?_ ?_
    · rintro u L' ⟨q, a, p, s', Lp', cs', h1, h2, rfl, h4, _⟩
      refine ⟨(p, fltO q a) :: (Lp' ++ R), .cons_cons _ (List.Sublist.append (.refl _) (.cons _ (.refl _))), q, a, p, s', Lp', ?_, h2, rfl, h4⟩
      simp only [Wy.stps] at h1
      cases e : W.stp k s x0 with
      | ok s1 v1 => rw [e] at h1; cases h1
      | bad c1 a1 => rw [e] at h1; cases h1; rfl
    · rintro v L' ⟨h0, s', vs', Lp', cs', h1, rfl, h3, h4, _⟩
      simp only [Wy.stps] at h1
      cases e : W.stp k s x0 with
      | bad c1 a1 => rw [e] at h1; cases h1
      | ok s1 v1 =>
        rw [e] at h1
        cases h1
        have hc : cs' = #[v1] := by
          apply Array.ext_getElem?
          intro q
          have hz := h4.size
          cases q with
          | zero => have := h4.lies 0 v1 rfl; simpa using this
          | succ q => rw [Array.getElem?_eq_none (by simp at hz; omega), Array.getElem?_eq_none (by simp)]
        subst hc
        exact ⟨_, List.perm_middle.symm, h0, _, _, Lp', rfl, rfl, h3⟩
    · rintro u L' h
      exact ⟨L', .refl _, h⟩
  refine OW_enterE (σ := ⟨sl, D, (m, .cells #[x0] E (0, 0)) :: (Lp ++ R)⟩) (by rw [ho]; intro cc h; cases h) (fun a w hH => invoke_run ho hx ha hm a w hH) (by rw [hdst]; exact hd) hF2 (fun v L' ⟨h0, s', x', Lp', h1, h2, h3⟩ => ?_) (fun u L' ⟨q, a, p, s', Lp', h1, h2, h3, h4⟩ => ?_)
  · rw [hdst, h0, h2]; exact hk s' x' Lp' h1 h3
  · rw [h2, h3]; exact hp q a p s' Lp' h1 h4
theorem Qt_nilCheck_m {L : List (Nat × Obj)} {x : Operand} {t f : Nat} {name : String} {v : Value} (ho : o.op = .nilCheck x) (hx : ev sl x = some (.func (.method name) #[.iface t v] #[]) := by exact rfl) (hm : methX c.P t name = some f := by with_reducible assumption) : Qt c sl L o (.func (.method name) #[.iface t v] #[]) :=
  Qt_of_run (by simp [ho]) (fun ρ hρ w _ => by
    have hpos : 0 < Made.depth := by decide
    obtain ⟨q, hq⟩ : ∃ q, c.P.types.size + Made.depth = q + 1 := ⟨c.P.types.size + Made.depth - 1, by omega⟩
    have hnr := nilAhead_run hm q v w
    simp [execOp, ho, hρ x _ hx, hq, hnr])
end
theorem Wy.keepT {P : Program} (W : Wy P) {R : List (Nat × Obj)} {i b : Nat} {cs : Array Value} {E : TypeId} {fr : Nat × Nat} {off : Nat} {k : Fk} {s s' : W.S} {x y : Value} (hT : ∀ q ∈ W.T0, q ∈ R) (hR : R[i]? = some (b, .cells cs E fr)) (hc : cs[off]? = some x) (hs : W.stp k s x = .ok s' y) : ∀ q ∈ W.T0, q ∈ R.set i (b, .cells (cs.setIfInBounds off y) E fr) := by
  rcases W.keeps with h | h
  · rw [h]; intro q hq; cases hq
  · rw [h _ _ _ _ _ hs]
    have e : cs.setIfInBounds off x = cs := by
      apply Array.ext_getElem?
      intro j
      by_cases ej : off = j
      · subst ej
        rw [Array.getElem?_setIfInBounds_self_of_lt (Array.getElem?_eq_some_iff.1 hc).1, hc]
      · rw [Array.getElem?_setIfInBounds_ne ej]
    rw [e, set_same hR]; exact hT
structure Meth (W : Wy Tryz.prog) where
  fw : FuncId
  fn : FuncId
  ft : FuncId
  fo : FuncId
  fh : FuncId
  fm : FuncId
  mw : methX Tryz.prog W.t "anabranch/codec.whole" = some fw
  mn : methX Tryz.prog W.t "anabranch/codec.number" = some fn
  mt : methX Tryz.prog W.t "anabranch/codec.truth" = some ft
  mo : methX Tryz.prog W.t "anabranch/codec.one" = some fo
  mh : methX Tryz.prog W.t "anabranch/codec.here" = some fh
  mm : methX Tryz.prog W.t "anabranch/codec.must" = some fm
  iw : FCall Tryz.prog fw
  jn : FCall Tryz.prog fn
  it : FCall Tryz.prog ft
  io : FCall Tryz.prog fo
  ih : FCall Tryz.prog fh
  im : FCall Tryz.prog fm
  cw : Flat W fw W.v [.ww]
  cn : Flat W fn W.v [.nn]
  ct : Flat W ft W.v [.tt]
  co : Flat W fo W.v [.bb]
  ch : ∀ (s : W.S) (Lp R : List (Nat × Obj)), W.mem s Lp → FnE Tryz.prog fh [W.v] (Lp ++ R) (fun v L' => v = .tuple #[] ∧ ∃ Lp', L' = Lp' ++ R ∧ W.mem (W.hr s) Lp') (fun _ _ => False)
  cm : ∀ (s : W.S) (Lp R : List (Nat × Obj)) (b : Bool) (code : Nat), W.mem s Lp → FnE Tryz.prog fm [W.v, .bool b, .int .i64 code] (Lp ++ R) (fun v L' => v = .tuple #[] ∧ L' = Lp ++ R ∧ W.mst b code s = none) (fun u L' => ∃ c a p, W.mst b code s = some (c, a) ∧ u = flt p ∧ L' = (p, fltO c a) :: (Lp ++ R))
end Go.Proofs.YtdiaogcogkapgaaGreatDoor
