/-
  A part of what the last of these texts needs; by itself it proves no statement.
-/
import Derived.Test.YtekmmhmhcpaiaaaGreatKP28
namespace Go.Proofs.YtekmmhmhcpaiaaaGreat
open Go.RowKit
structure JnOk (c : PtV) (e : EnV) : Prop where
  ver : e.ver ≤ c.rs.length
  k0 : 0 ≤ e.key
  k1 : e.key < 4294967296
  s0 : -4398046511104 ≤ e.s
  s1 : e.s ≤ 4398046511104
  side : e.side = 0 ∨ e.side = 1
  mn0 : -9223372036854775808 ≤ e.ac.mn
  mn1 : e.ac.mn < 9223372036854775808
def metE (A t : Int) (e x : EnV) : Bool := decide (max x.s e.s - min x.s e.s ≤ A) && (decide (x.s ≥ t) && decide ((e.side + x.side) % 2 = 1))
theorem par_xor {a b : Int} (ha : a = 0 ∨ a = 1) (hb : b = 0 ∨ b = 1) : (IntKind.u8.wrap (BitVec.ofInt IntKind.u8.bits (IntKind.u8.wrap (BitVec.ofInt IntKind.u8.bits a ^^^ BitVec.ofInt IntKind.u8.bits b).toNat) &&& BitVec.ofInt IntKind.u8.bits 1).toNat == 1) = decide ((b + a) % 2 = 1) := by
  rcases ha with rfl | rfl <;> rcases hb with rfl | rfl <;> decide
attribute [local irreducible] Fn WC WL WR OW Qt YieldFn QW FnP FnD FnE
set_option maxHeartbeats 8000000 in
theorem met1_fn {pb mb tb : Nat} {nd cl n : Int} {c : PtV} {es : Array MapEntry} {ck : Nat} {e : EnV} {x3 x4 x5 x7 l d : Nat} {k A b g t : Int} {F B0 : List (Nat × Obj)} {o1 o2 : Obj} {vr : Value} {ps : List ((Int × Int) × Value)} {row : List EnV} {J : List EnV → List (Nat × Obj) → Prop} (he : JnOk c e) (hrow : ∀ x ∈ row, JnOk c x)
    (hp : (pb, Obj.cells (PtC tb mb nd cl n) 89 (0, 0)) ∈ F) (hmb : (mb, Obj.map es ck) ∈ F) (hm : EntV grpK es.toList ps) (hg : (vGet ps e.grp).getD (.slice none 0 0) = vr) (hv : VecM 10 F vr row.length (enL row)) (hn : row.length ≤ 100000)
    (h3 : (x3, Obj.cells #[.pointer (some ⟨pb, 0, none⟩)] 29 (0, 0)) ∈ F) (h4 : (x4, Obj.cells (enC e).toArray 53 (0, 0)) ∈ F) (h7 : (x7, Obj.cells (opC k A b g) 59 (0, 0)) ∈ F) (h5 : (x5, Obj.cells #[iV t] 2 (0, 0)) ∈ F)
    (hr : ∀ (pre : List EnV) (B : List (Nat × Obj)) (y : EnV), (pre ++ [y]) <+: row.filter (metE A t e) → J pre B → YieldFn Tryz.prog l [.agg (enC y).toArray] ((l, o1) :: (d, o2) :: (B ++ F)) (fun v L2 => v = .bool true ∧ ∃ B', L2 = (l, o1) :: (d, o2) :: (B' ++ F) ∧ J (pre ++ [y]) B'))
    (h0 : J [] B0) :
    Fn Tryz.prog 115 [.func (.yield l) #[] #[], .pointer (some ⟨x3, 0, none⟩), .pointer (some ⟨x4, 0, none⟩), .pointer (some ⟨x7, 0, none⟩), .pointer (some ⟨x5, 0, none⟩)] ((l, o1) :: (d, o2) :: (B0 ++ F)) (fun _ L2 => ∃ B, L2 = (l, o1) :: (d, o2) :: (B ++ F) ∧ J (row.filter (metE A t e)) B) := by
  refine Fn_enter Tryz.func115 rfl Tryz.ntmps115 rfl fun gw => ?_
  have hone := enC_one e
  have hsz : (enC e).toArray.size = 10 := rfl
  have hF : ∀ (B : List (Nat × Obj)) q, q ∈ F → q ∈ (l, o1) :: (d, o2) :: (B ++ F) := fun B q hq => .tail _ (.tail _ (List.mem_append_right _ hq))
  obtain ⟨_, va, vcap, rfl, _, hvm, _⟩ := id hv
  obtain ⟨L0, hL0⟩ : ∃ L0, L0 = (l, o1) :: (d, o2) :: (B0 ++ F) := ⟨_, rfl⟩
  obtain ⟨i3, hi3⟩ := List.mem_iff_getElem?.1 (hF B0 _ h3)
  obtain ⟨i4, hi4⟩ := List.mem_iff_getElem?.1 (hF B0 _ h4)
  obtain ⟨ip, hip⟩ := List.mem_iff_getElem?.1 (hF B0 _ hp)
  obtain ⟨im, him⟩ := List.mem_iff_getElem?.1 (hF B0 _ hmb)
  rw [← hL0] at hi3 hi4 hip him
  rw [← hL0]
  repeat (first | (refine WL_Q ?_; (first | refine QW_a ?_ | refine QW_of (Qt_ldX rfl (hn := by with_reducible assumption)) ?_ | refine QW_of (Qt_lookVE rfl) ?_ | refine QW_of (Qt_xor rfl) ?_ | refine QW_of (Qt_and rfl) ?_)) | refine WL_nil ?_ | refine WC_seq ?_ | refine WC_block ?_ | refine WC_cond_t (ht := ?_) | refine WC_cond_f (he := ?_) | refine WC_skip ?_ | refine WC_ret ?_ | refine WC_exit ?_)
  refine WC_draw_sub (id := 0) 9 (Cs [0,1,2,3,4,8] <| .must 5 <| Cs [6,7] <| .done) mixed (by kernel_rfl) (List.Sublist.refl _) ?_
  repeat (first | (refine RX ?_; (first | refine QW_a ?_ | refine QW_of (Qt_ldX rfl (hn := by with_reducible assumption)) ?_ | refine QW_of (Qt_lookVE rfl) ?_ | refine QW_of (Qt_xor rfl) ?_ | refine QW_of (Qt_and rfl) ?_)) | (refine OX ?_; (first | refine OW_callP rfl (hF := of_fn) (hk := ?_)); try refine ⟨(by first | exact fun _ h => h | exact sub_mem (by repeat (first | exact .refl _ | exact List.nil_sublist _ | exact List.sublist_append_right _ _ | exact List.Sublist.append (.refl _) (List.sublist_append_right _ _) | apply List.Sublist.cons_cons | apply List.Sublist.cons))), ?_⟩) | refine WL_nil ?_ | refine WR_nil ?_ | refine WC_seq ?_ | refine WC_block ?_ | refine WC_cond_t (ht := ?_) | refine WC_cond_f (he := ?_) | refine WC_skip ?_ | refine WC_ret ?_ | refine WC_exit ?_ | refine WC_draw_all (id := 0) 9 (Cs [0,1,2,3,4,8] <| .must 5 <| Cs [6,7] <| .done) mixed (by kernel_rfl) ?_)
  rw [hL0]
  clear hL0 hi3 hi4 hip him
  refine WC_wk [(17, iV ((0 : Nat) : Int)), (16, iV ((row.length : Nat) : Int)), (15, .slice va row.length vcap), (0, .func (.yield l) #[] #[]), (2, .pointer (some ⟨x4, 0, none⟩)), (3, .pointer (some ⟨x7, 0, none⟩)), (4, .pointer (some ⟨x5, 0, none⟩))] ⟨rfl, rfl, rfl, rfl, rfl, rfl, rfl, trivial⟩ ?_
  refine WC_loop (fun m σ => ∃ (i : Nat) (B : List (Nat × Obj)), m = row.length - i ∧ i ≤ row.length ∧ J ((row.take i).filter (metE A t e)) B ∧ σ = ⟨[(17, iV (i : Int)), (16, iV ((row.length : Nat) : Int)), (15, .slice va row.length vcap), (0, .func (.yield l) #[] #[]), (2, .pointer (some ⟨x4, 0, none⟩)), (3, .pointer (some ⟨x7, 0, none⟩)), (4, .pointer (some ⟨x5, 0, none⟩))], [], (l, o1) :: (d, o2) :: (B ++ F)⟩) row.length ⟨0, B0, rfl, Nat.zero_le _, h0, rfl⟩ ?_
  rintro _ σ ⟨i, B, rfl, hi, hJ, rfl⟩
  by_cases hlt : i < row.length
  rotate_left
  · have d1 : decide ((i : Int) < ((row.length : Nat) : Int)) = false := decide_eq_false (by omega)
    rw [List.take_of_length_le (by omega)] at hJ
    repeat (first | (refine WL_Q ?_; (first | refine QW_a ?_ | refine QW_of (Qt_ldX rfl (hn := by with_reducible assumption)) ?_ | refine QW_of (Qt_lookVE rfl) ?_ | refine QW_of (Qt_xor rfl) ?_ | refine QW_of (Qt_and rfl) ?_)) | refine WL_nil ?_ | refine WC_seq ?_ | refine WC_block ?_ | refine WC_cond_t (ht := ?_) | refine WC_cond_f (he := ?_) | refine WC_skip ?_ | refine WC_ret ?_ | refine WC_exit ?_ | refine WG 1 ?_)
    exact ⟨rfl, _, _, Res0 rfl, .refl _, B, rfl, hJ⟩
  have d1 : decide ((i : Int) < ((row.length : Nat) : Int)) = true := decide_eq_true (by omega)
  have p0 : (0 : Int) ≤ (i : Int) := by omega
  have p1 : ((i : Nat) : Int) < ((row.length : Nat) : Int) := by omega
  have ww : IntKind.i64.wrap ((i : Int) + 1) = ((i + 1 : Nat) : Int) := by rw [wI64 (by omega) (by omega)]; omega
  obtain ⟨x, hx⟩ : ∃ x, row[i]? = some x := ⟨_, List.getElem?_eq_getElem hlt⟩
  have hxo := hrow x (List.mem_of_getElem? hx)
  obtain ⟨b1, f1, _, c1, E1, fr1, i1, e1, _, _, hi1, hx1⟩ := (hv.mem (hF B)).cell (by omega)
  cases e1
  obtain ⟨v1, y1⟩ := enL_ext hx1 hx
  have v1 : c1.extract (f1 + ((i : Nat) : Int).toNat * 10) (f1 + ((i : Nat) : Int).toNat * 10 + 10) = (enC x).toArray := by rw [Int.toNat_natCast]; exact v1
  have y1 : f1 + ((i : Nat) : Int).toNat * 10 + 10 ≤ c1.size := by rw [Int.toNat_natCast]; exact y1
  have honx := enC_one x
  have hszx : (enC x).toArray.size = 10 := rfl
  have htk : row.take (i + 1) = row.take i ++ [x] := by rw [List.take_add_one, hx]; rfl
  obtain ⟨L1, hL1⟩ : ∃ L1, L1 = (l, o1) :: (d, o2) :: (B ++ F) := ⟨_, rfl⟩
  rw [← hL1] at hi1
  rw [← hL1]
  repeat (first | (refine WL_Q ?_; (first | refine QW_a ?_ | refine QW_of (Qt_ldX rfl (hn := by with_reducible assumption)) ?_ | refine QW_of (Qt_lookVE rfl) ?_ | refine QW_of (Qt_xor rfl) ?_ | refine QW_of (Qt_and rfl) ?_)) | (refine WL_op rfl ?_; (first | refine OW_alloc rfl (hk := fun _ => ?_) | refine OW_stA rfl ?_ | refine OW_stN rfl ?_)) | refine WL_nil ?_ | refine WC_seq ?_ | refine WC_block ?_ | refine WC_cond_t (ht := ?_) | refine WC_cond_f (he := ?_) | refine WC_skip ?_ | refine WC_ret ?_ | refine WC_exit ?_ | refine WG 1 ?_ | refine WG 2 ?_)
  rename_i x8
  rw [v1]
  repeat (first | (refine WL_Q ?_; (first | refine QW_a ?_ | refine QW_of (Qt_ldX rfl (hn := by with_reducible assumption)) ?_ | refine QW_of (Qt_lookVE rfl) ?_ | refine QW_of (Qt_xor rfl) ?_ | refine QW_of (Qt_and rfl) ?_)) | (refine WL_op rfl ?_; (first | refine OW_alloc rfl (hk := fun _ => ?_) | refine OW_stA rfl ?_ | refine OW_stN rfl ?_)) | refine WL_nil ?_ | refine WC_seq ?_ | refine WC_block ?_ | refine WC_cond_t (ht := ?_) | refine WC_cond_f (he := ?_) | refine WC_skip ?_ | refine WC_ret ?_ | refine WC_exit ?_ | refine WG 2 ?_)
  obtain ⟨L2, hL2⟩ : ∃ L2, L2 = (x8, Obj.cells (enC x).toArray 53 (0, 0)) :: L1 := ⟨_, rfl⟩
  have hj8 : L2[0]? = some (x8, Obj.cells (enC x).toArray 53 (0, 0)) := by rw [hL2]; rfl
  obtain ⟨j4, hj4⟩ := List.mem_iff_getElem?.1 (show (x4, Obj.cells (enC e).toArray 53 (0, 0)) ∈ L2 by rw [hL2, hL1]; exact .tail _ (hF B _ h4))
  obtain ⟨j7, hj7⟩ := List.mem_iff_getElem?.1 (show (x7, Obj.cells (opC k A b g) 59 (0, 0)) ∈ L2 by rw [hL2, hL1]; exact .tail _ (hF B _ h7))
  obtain ⟨j5, hj5⟩ := List.mem_iff_getElem?.1 (show (x5, Obj.cells #[iV t] 2 (0, 0)) ∈ L2 by rw [hL2, hL1]; exact .tail _ (hF B _ h5))
  rw [← hL2]
  repeat (first | (refine WL_Q ?_; (first | refine QW_a ?_ | refine QW_of (Qt_ldX rfl (hn := by with_reducible assumption)) ?_ | refine QW_of (Qt_lookVE rfl) ?_ | refine QW_of (Qt_xor rfl) ?_ | refine QW_of (Qt_and rfl) ?_)) | refine WL_nil ?_ | refine WC_seq ?_ | refine WC_block ?_ | refine WC_cond_t (ht := ?_) | refine WC_cond_f (he := ?_) | refine WC_skip ?_ | refine WC_ret ?_ | refine WC_exit ?_ | refine WG 3 ?_)
  have wn : decide (IntKind.i64.wrap ((if e.s > x.s then e.s else x.s) - if e.s < x.s then e.s else x.s) ≤ A) = decide (max x.s e.s - min x.s e.s ≤ A) := by
    have e0 := he.s0
    have e1 := he.s1
    have f0 := hxo.s0
    have f1 := hxo.s1
    have g1 : (if e.s > x.s then e.s else x.s) = max x.s e.s := by split <;> omega
    have g2 : (if e.s < x.s then e.s else x.s) = min x.s e.s := by split <;> omega
    rw [g1, g2, wI64 (by omega) (by omega)]
  rw [wn]
  cases hn1 : decide (max x.s e.s - min x.s e.s ≤ A)
  · have hm0 : metE A t e x = false := by unfold metE; rw [hn1]; rfl
    repeat (first | ((first | refine WL_Q ?_ | refine WL_Y ?_); (first | refine QW_a ?_ | refine QW_of (Qt_ldX rfl (hn := by with_reducible assumption)) ?_ | refine QW_of (Qt_lookVE rfl) ?_ | refine QW_of (Qt_xor rfl) ?_ | refine QW_of (Qt_and rfl) ?_)) | refine WL_nil ?_ | refine WL_un (h := ?_) | refine WL_N ?_ | refine WL_M ?_ | refine WC_seq ?_ | refine WC_block ?_ | refine WC_cond_t (ht := ?_) | refine WC_cond_f (he := ?_) | refine WC_skip ?_ | refine WC_ret ?_ | refine WC_exit ?_ | refine WG 4 ?_ | refine WG 5 ?_)
    rw [ww]
    refine ⟨_, _, by omega, ⟨i + 1, B, rfl, by omega, ?_, rfl⟩, ⟨rfl, rfl, rfl, rfl, rfl, rfl, rfl, trivial⟩, rfl, by rw [hL2, hL1]; exact .cons _ (.refl _)⟩
    rw [htk, List.filter_append, List.filter_cons_of_neg (by rw [hm0]; exact Bool.false_ne_true), List.filter_nil, List.append_nil]
    exact hJ
  cases hn2 : decide (x.s ≥ t)
  · have hm0 : metE A t e x = false := by unfold metE; rw [hn2]; simp
    repeat (first | ((first | refine WL_Q ?_ | refine WL_Y ?_); (first | refine QW_a ?_ | refine QW_of (Qt_ldX rfl (hn := by with_reducible assumption)) ?_ | refine QW_of (Qt_lookVE rfl) ?_ | refine QW_of (Qt_xor rfl) ?_ | refine QW_of (Qt_and rfl) ?_)) | refine WL_nil ?_ | refine WL_un (h := ?_) | refine WL_N ?_ | refine WL_M ?_ | refine WC_seq ?_ | refine WC_block ?_ | refine WC_cond_t (ht := ?_) | refine WC_cond_f (he := ?_) | refine WC_skip ?_ | refine WC_ret ?_ | refine WC_exit ?_ | refine WG 4 ?_ | refine WG 5 ?_)
    rw [ww]
    refine ⟨_, _, by omega, ⟨i + 1, B, rfl, by omega, ?_, rfl⟩, ⟨rfl, rfl, rfl, rfl, rfl, rfl, rfl, trivial⟩, rfl, by rw [hL2, hL1]; exact .cons _ (.refl _)⟩
    rw [htk, List.filter_append, List.filter_cons_of_neg (by rw [hm0]; exact Bool.false_ne_true), List.filter_nil, List.append_nil]
    exact hJ
  repeat (first | ((first | refine WL_Q ?_ | refine WL_Y ?_); (first | refine QW_a ?_ | refine QW_of (Qt_ldX rfl (hn := by with_reducible assumption)) ?_ | refine QW_of (Qt_lookVE rfl) ?_ | refine QW_of (Qt_xor rfl) ?_ | refine QW_of (Qt_and rfl) ?_)) | refine WL_nil ?_ | refine WL_un (h := ?_) | refine WL_N ?_ | refine WL_M ?_ | refine WC_seq ?_ | refine WC_block ?_ | refine WC_cond_t (ht := ?_) | refine WC_cond_f (he := ?_) | refine WC_skip ?_ | refine WC_ret ?_ | refine WC_exit ?_ | refine WG 4 ?_)
  rw [par_xor hxo.side he.side]
  cases hn3 : decide ((e.side + x.side) % 2 = 1)
  · have hm0 : metE A t e x = false := by unfold metE; rw [hn3]; simp
    repeat (first | ((first | refine WL_Q ?_ | refine WL_Y ?_); (first | refine QW_a ?_ | refine QW_of (Qt_ldX rfl (hn := by with_reducible assumption)) ?_ | refine QW_of (Qt_lookVE rfl) ?_ | refine QW_of (Qt_xor rfl) ?_ | refine QW_of (Qt_and rfl) ?_)) | refine WL_nil ?_ | refine WL_un (h := ?_) | refine WL_N ?_ | refine WL_M ?_ | refine WC_seq ?_ | refine WC_block ?_ | refine WC_cond_t (ht := ?_) | refine WC_cond_f (he := ?_) | refine WC_skip ?_ | refine WC_ret ?_ | refine WC_exit ?_ | refine WG 4 ?_ | refine WG 5 ?_)
    rw [ww]
    refine ⟨_, _, by omega, ⟨i + 1, B, rfl, by omega, ?_, rfl⟩, ⟨rfl, rfl, rfl, rfl, rfl, rfl, rfl, trivial⟩, rfl, by rw [hL2, hL1]; exact .cons _ (.refl _)⟩
    rw [htk, List.filter_append, List.filter_cons_of_neg (by rw [hm0]; exact Bool.false_ne_true), List.filter_nil, List.append_nil]
    exact hJ
  · have hm0 : metE A t e x = true := by unfold metE; rw [hn1, hn2, hn3]; rfl
    have htk2 : (row.take (i + 1)).filter (metE A t e) = (row.take i).filter (metE A t e) ++ [x] := by
      rw [htk, List.filter_append, List.filter_cons_of_pos hm0, List.filter_nil]
    have hYf := hr ((row.take i).filter (metE A t e)) B x (by rw [← htk2]; exact (List.take_prefix _ _).filter _) hJ
    rw [← htk2] at hYf
    repeat (first | ((first | refine WL_Q ?_ | refine WL_Y ?_); (first | refine QW_a ?_ | refine QW_of (Qt_ldX rfl (hn := by with_reducible assumption)) ?_ | refine QW_of (Qt_lookVE rfl) ?_ | refine QW_of (Qt_xor rfl) ?_ | refine QW_of (Qt_and rfl) ?_)) | refine WL_nil ?_ | refine WL_un (h := ?_) | refine WL_N ?_ | refine WL_M ?_ | refine WC_seq ?_ | refine WC_block ?_ | refine WC_cond_t (ht := ?_) | refine WC_cond_f (he := ?_) | refine WC_skip ?_ | refine WC_ret ?_ | refine WC_exit ?_ | refine WG 4 ?_)
    rw [hL2, hL1]
    refine WL_dropN (.cons _ (.refl _)) ?_
    refine WL_yes (he := rfl) (h := OW_yield rfl rfl rfl rfl rfl hYf ?_)
    rintro v L3 ⟨rfl, B', rfl, hJ'⟩
    repeat (first | ((first | refine WL_Q ?_ | refine WL_Y ?_); (first | refine QW_a ?_ | refine QW_of (Qt_ldX rfl (hn := by with_reducible assumption)) ?_ | refine QW_of (Qt_lookVE rfl) ?_ | refine QW_of (Qt_xor rfl) ?_ | refine QW_of (Qt_and rfl) ?_)) | refine WL_nil ?_ | refine WL_un (h := ?_) | refine WL_N ?_ | refine WL_M ?_ | refine WC_seq ?_ | refine WC_block ?_ | refine WC_cond_t (ht := ?_) | refine WC_cond_f (he := ?_) | refine WC_skip ?_ | refine WC_ret ?_ | refine WC_exit ?_ | refine WG 4 ?_ | refine WG 5 ?_)
    rw [ww]
    exact ⟨_, _, by omega, ⟨i + 1, B', rfl, by omega, hJ', rfl⟩, ⟨rfl, rfl, rfl, rfl, rfl, rfl, rfl, trivial⟩, rfl, .refl _⟩
end Go.Proofs.YtekmmhmhcpaiaaaGreat
namespace Go.Proofs.YtekmmhmhcpaiaaaGreat
open Go.RowKit
abbrev metV (x3 x4 x7 x5 : Nat) : Value := .func (.func 115) #[] #[.pointer (some ⟨x3, 0, none⟩), .pointer (some ⟨x4, 0, none⟩), .pointer (some ⟨x7, 0, none⟩), .pointer (some ⟨x5, 0, none⟩)]
def rcC (o : OutV) : List Value := [.int .u32 o.key, iV o.time, iV o.val, .int .u8 0, .bool o.err, .bool false]
def rcL (l : List OutV) : List Value := l.flatMap rcC
theorem rcL_append (a b : List OutV) : rcL (a ++ b) = rcL a ++ rcL b := List.flatMap_append
theorem rcL_len (l : List OutV) : (rcL l).length = l.length * 6 := by
  induction l with
  | nil => rfl
  | cons x l ih => show (rcC x ++ rcL l).length = _; rw [List.length_append, ih, List.length_cons]; show 6 + _ = _; omega
attribute [local irreducible] Fn WC WL WR OW Qt YieldFn QW FnP FnD FnE
set_option maxHeartbeats 4000000 in
theorem WC_met {pb mb tb : Nat} {nd cl n0 : Int} {c : PtV} {es : Array MapEntry} {ck : Nat} {e : EnV} {x3 x4 x5 x7 : Nat} {k A b g0 t : Int} {F B0 : List (Nat × Obj)} {vr : Value} {ps : List ((Int × Int) × Value)} {row : List EnV} {J : List EnV → List (Nat × Obj) → Prop} {g : World} {N n : Nat} {x : Operand} {pa : Array Nat} {assign body : Code} {K : Exit → St → Prop} {s : List (Nat × Value)} {D : List Deferred} (he : JnOk c e) (hrow : ∀ x ∈ row, JnOk c x)
    (hp : (pb, Obj.cells (PtC tb mb nd cl n0) 89 (0, 0)) ∈ F) (hmb : (mb, Obj.map es ck) ∈ F) (hm : EntV grpK es.toList ps) (hg : (vGet ps e.grp).getD (.slice none 0 0) = vr) (hv : VecM 10 F vr row.length (enL row)) (hn : row.length ≤ 100000)
    (h3 : (x3, Obj.cells #[.pointer (some ⟨pb, 0, none⟩)] 29 (0, 0)) ∈ F) (h4 : (x4, Obj.cells (enC e).toArray 53 (0, 0)) ∈ F) (h7 : (x7, Obj.cells (opC k A b g0) 59 (0, 0)) ∈ F) (h5 : (x5, Obj.cells #[iV t] 2 (0, 0)) ∈ F)
    (h0 : J [] B0) (hx : ev s x = some (metV x3 x4 x7 x5)) (hps : 1 = pa.size) (hpn : (pa.toList.all fun p => Nat.blt p N) = true)
    (hbody : ∀ (pre : List EnV) (B : List (Nat × Obj)) (y : EnV) (g' : World) (n' l d : Nat), (pre ++ [y]) <+: row.filter (metE A t e) → J pre B → RoundOk ⟨Tryz.prog, g', N, n', none⟩ l d assign body ⟨zipS pa.toList [.agg (enC y).toArray] s, [], B ++ F⟩ (B ++ F) (fun L3 => ∃ B', L3 = B' ++ F ∧ J (pre ++ [y]) B') (fun _ _ => False))
    (hdone : ∀ (d : Nat) (B : List (Nat × Obj)), J (row.filter (metE A t e)) B → K .normal ⟨s, markD d :: D, (d, .deferred (some [])) :: (B ++ F)⟩) :
    WC ⟨Tryz.prog, g, N, n, none⟩ (.rangeFunc x pa assign body) K ⟨s, D, B0 ++ F⟩ := by
  refine WC_rangeZ (α := EnV) (γ := List EnV × List (Nat × Obj)) (gf := 115) (fs := #[]) (lb := #[.pointer (some ⟨x3, 0, none⟩), .pointer (some ⟨x4, 0, none⟩), .pointer (some ⟨x7, 0, none⟩), .pointer (some ⟨x5, 0, none⟩)]) hx (fun y => [.agg (enC y).toArray]) (fun _ => hps) hpn (fun st => st.2 ++ F)
    (fun st y => (st.1 ++ [y]) <+: row.filter (metE A t e) ∧ J st.1 st.2) (fun st y st' => J (st.1 ++ [y]) st'.2) (fun st => J (row.filter (metE A t e)) st.2) (fun _ _ => False) ?_ ?_ ?_ ?_
  · intro l d o1 o2 Jx hJ hyr
    refine (met1_fn (J := J) he hrow hp hmb hm hg hv hn h3 h4 h7 h5 (fun pre B y h1 h2 => ?_) h0).mono ?_
    · refine (hyr (pre, B) y ⟨h1, h2⟩).monoY ?_
      rintro v' L2 (⟨rfl, ⟨pre2, B2⟩, e3, rfl⟩ | ⟨_, h⟩)
      · exact ⟨rfl, B2, rfl, e3⟩
      · obtain ⟨_, _, _, _, h⟩ := hJ _ h
        exact h.elim
    · rintro v L2 ⟨B, rfl, h1⟩
      exact .inl ⟨([], B), h1, rfl⟩
  · rintro g' n' l d ⟨pre, B⟩ y ⟨h1, h2⟩
    intro ol od hol
    refine WC_mono (hbody pre B y g' n' l d h1 h2 ol od hol) ?_
    rintro e σ' ⟨rfl, s', A', B', rfl, hk⟩
    refine ⟨rfl, s', A', B', rfl, fun ol' hol' => WC_mono (hk ol' hol') ?_⟩
    intro e σ'' hp
    cases e with
    | normal =>
      obtain ⟨L'', hs, B2, rfl, hJ2⟩ := hp
      exact ⟨_, hs, (pre ++ [y], B2), hJ2, rfl⟩
    | _ => exact hp
  · rintro d ⟨pre, B⟩ h1
    exact hdone d B h1
  · intro _ _ _ h
    exact h.elim
set_option maxHeartbeats 2000000 in
theorem met_fn {pb mb tb : Nat} {nd cl n : Int} {c : PtV} {tv : TbV} {e : EnV} {t : Int} {k a b g : Int} {L : List (Nat × Obj)} (ht : TabIn tb L tv) (hN : NodeIn tv nd c) (he : e.ver ≤ c.rs.length) (hop : c.op e.ver = (k, a, b, g)) (hp : CellAt L pb (PtC tb mb nd cl n) 89) :
    Fn Tryz.prog 57 [.pointer (some ⟨pb, 0, none⟩), .agg (enC e).toArray, iV t] L (fun v L' => ∃ x3 x4 x5 x7, v = metV x3 x4 x7 x5 ∧ L' = (x7, Obj.cells (opC k a b g) 59 (0, 0)) :: (x5, Obj.cells #[iV t] 2 (0, 0)) :: (x4, Obj.cells (enC e).toArray 53 (0, 0)) :: (x3, Obj.cells #[.pointer (some ⟨pb, 0, none⟩)] 29 (0, 0)) :: L) := by
  obtain ⟨i, hi⟩ := hp
  refine Fn_enter Tryz.func57 rfl Tryz.ntmps57 rfl fun gw => ?_
  have hone := enC_one e
  have hsz : (enC e).toArray.size = 10 := rfl
  repeat (first | (refine WL_Q ?_; (first | refine QW_a ?_ | refine QW_of (Qt_ldX rfl (hn := by with_reducible assumption)) ?_)) | (refine WL_op rfl ?_; (first | refine OW_box rfl (hk := fun _ => ?_))) | refine WL_nil ?_ | refine WC_seq ?_ | refine WC_ret ?_ | refine WG 0 ?_)
  rename_i x3 x4 x5
  obtain ⟨L0, hL0⟩ : ∃ L0, L0 = (x5, Obj.cells #[iV t] 2 (0, 0)) :: (x4, Obj.cells (enC e).toArray 53 (0, 0)) :: (x3, Obj.cells #[.pointer (some ⟨pb, 0, none⟩)] 29 (0, 0)) :: L := ⟨_, rfl⟩
  have hi0 : L0[i + 3]? = some (pb, Obj.cells (PtC tb mb nd cl n) 89 (0, 0)) := by rw [hL0]; exact hi
  have h3 : L0[2]? = some (x3, Obj.cells #[.pointer (some ⟨pb, 0, none⟩)] 29 (0, 0)) := by rw [hL0]; rfl
  have h4 : L0[1]? = some (x4, Obj.cells (enC e).toArray 53 (0, 0)) := by rw [hL0]; rfl
  have ht0 : TabIn tb L0 tv := ht.mem fun q hq => by rw [hL0]; exact .tail _ (.tail _ (.tail _ hq))
  rw [← hL0]
  refine WC_meet (fun σ => ∃ x7, σ = ⟨[(7, .pointer (some ⟨x7, 0, none⟩)), (3, .pointer (some ⟨x3, 0, none⟩)), (4, .pointer (some ⟨x4, 0, none⟩)), (5, .pointer (some ⟨x5, 0, none⟩))], [], (x7, Obj.cells (opC k a b g) 59 (0, 0)) :: L0⟩) ?_ ?_
  · refine WC_draw_sub (id := 1) 17 (Cs [0,1,2,3,4,5,6,7,8,9] <| .either 10 (Cs [11,12,13] <| .must 14 <| .must 15 <| .calm 16 <| .done) 14 (.must 10 <| Cs [11,12,13] <| .must 15 <| .calm 16 <| .done)) mixed (by kernel_rfl) (List.Sublist.refl _) ?_
    repeat (first | (refine RX ?_; (first | refine QW_a ?_ | refine QW_of (Qt_ldX rfl (hn := by with_reducible assumption)) ?_)) | ((first | refine WL_op rfl ?_ | refine WR_late rfl rfl rfl ?_ | refine WR_op rfl rfl ?_); (first | refine OW_alloc rfl (hk := fun _ => ?_) | refine OW_stA rfl ?_ | refine OW_stN rfl ?_ | refine OW_callP rfl (hF := nodeOp_fn hN he hop ht0) (hk := ?_) | refine OW_callP rfl (hF := nodeOp_fn hN he hop (ht0.mem fun _ hq => .tail _ hq)) (hk := ?_)); try refine ⟨(by first | exact fun _ h => h | exact sub_mem (by repeat (first | exact .refl _ | exact List.nil_sublist _ | exact List.sublist_append_right _ _ | exact List.Sublist.append (.refl _) (List.sublist_append_right _ _) | apply List.Sublist.cons_cons | apply List.Sublist.cons))), ?_⟩) | refine WL_nil ?_ | refine WR_nil ?_ | refine WC_seq ?_ | refine WC_ret ?_ | refine WC_draw_all (id := 1) 17 (Cs [0,1,2,3,4,5,6,7,8,9] <| .either 10 (Cs [11,12,13] <| .must 14 <| .must 15 <| .calm 16 <| .done) 14 (.must 10 <| Cs [11,12,13] <| .must 15 <| .calm 16 <| .done)) mixed (by kernel_rfl) ?_)
    refine WR_either ?_ ?_
    · repeat (first | (refine RX ?_; (first | refine QW_a ?_ | refine QW_of (Qt_ldX rfl (hn := by with_reducible assumption)) ?_)) | ((first | refine WL_op rfl ?_ | refine WR_late rfl rfl rfl ?_ | refine WR_op rfl rfl ?_); (first | refine OW_alloc rfl (hk := fun _ => ?_) | refine OW_stA rfl ?_ | refine OW_stN rfl ?_ | refine OW_callP rfl (hF := nodeOp_fn hN he hop ht0) (hk := ?_) | refine OW_callP rfl (hF := nodeOp_fn hN he hop (ht0.mem fun _ hq => .tail _ hq)) (hk := ?_)); try refine ⟨(by first | exact fun _ h => h | exact sub_mem (by repeat (first | exact .refl _ | exact List.nil_sublist _ | exact List.sublist_append_right _ _ | exact List.Sublist.append (.refl _) (List.sublist_append_right _ _) | apply List.Sublist.cons_cons | apply List.Sublist.cons))), ?_⟩) | refine WL_nil ?_ | refine WR_nil ?_ | refine WC_seq ?_ | refine WC_ret ?_ | refine WC_draw_all (id := 1) 17 (Cs [0,1,2,3,4,5,6,7,8,9] <| .either 10 (Cs [11,12,13] <| .must 14 <| .must 15 <| .calm 16 <| .done) 14 (.must 10 <| Cs [11,12,13] <| .must 15 <| .calm 16 <| .done)) mixed (by kernel_rfl) ?_)
      exact ⟨_, ⟨_, rfl⟩, ⟨rfl, rfl, rfl, rfl, trivial⟩, rfl, .refl _⟩
    · repeat (first | (refine RX ?_; (first | refine QW_a ?_ | refine QW_of (Qt_ldX rfl (hn := by with_reducible assumption)) ?_)) | ((first | refine WL_op rfl ?_ | refine WR_late rfl rfl rfl ?_ | refine WR_op rfl rfl ?_); (first | refine OW_alloc rfl (hk := fun _ => ?_) | refine OW_stA rfl ?_ | refine OW_stN rfl ?_ | refine OW_callP rfl (hF := nodeOp_fn hN he hop ht0) (hk := ?_) | refine OW_callP rfl (hF := nodeOp_fn hN he hop (ht0.mem fun _ hq => .tail _ hq)) (hk := ?_)); try refine ⟨(by first | exact fun _ h => h | exact sub_mem (by repeat (first | exact .refl _ | exact List.nil_sublist _ | exact List.sublist_append_right _ _ | exact List.Sublist.append (.refl _) (List.sublist_append_right _ _) | apply List.Sublist.cons_cons | apply List.Sublist.cons))), ?_⟩) | refine WL_nil ?_ | refine WR_nil ?_ | refine WC_seq ?_ | refine WC_ret ?_ | refine WC_draw_all (id := 1) 17 (Cs [0,1,2,3,4,5,6,7,8,9] <| .either 10 (Cs [11,12,13] <| .must 14 <| .must 15 <| .calm 16 <| .done) 14 (.must 10 <| Cs [11,12,13] <| .must 15 <| .calm 16 <| .done)) mixed (by kernel_rfl) ?_)
      exact ⟨_, ⟨_, rfl⟩, ⟨rfl, rfl, rfl, rfl, trivial⟩, rfl, .refl _⟩
  rintro _ ⟨x7, rfl⟩
  repeat (first | (refine WL_Q ?_; (first | refine QW_a ?_ | refine QW_of (Qt_ldX rfl (hn := by with_reducible assumption)) ?_)) | refine WL_nil ?_ | refine WC_seq ?_ | refine WC_ret ?_ | refine WG 2 ?_)
  exact ⟨rfl, _, _, Res1 rfl (resV_tmp rfl), .refl _, x3, x4, x5, x7, rfl, by rw [hL0]⟩
theorem met_of {c : PtV} {e : EnV} {l row : List EnV} {t : Int} (hp : row.Perm (ofG l e.grp)) : (row.filter (metE (c.op e.ver).2.1 t e)).Perm (l.filter fun x => jm c e x && decide (t ≤ x.s)) := by
  refine (hp.filter _).trans ?_
  unfold ofG
  rw [List.filter_filter]
  refine List.Perm.of_eq (List.filter_congr fun x _ => ?_)
  rw [Bool.eq_iff_iff]
  unfold metE jm
  simp only [Bool.and_eq_true, decide_eq_true_eq]
  constructor
  · rintro ⟨⟨h1, h2, h3⟩, h4⟩
    obtain ⟨h5, h6⟩ := Prod.mk.inj h4
    exact ⟨⟨by omega, h6.symm, by omega, h3⟩, h2⟩
  · rintro ⟨⟨h1, h2, h3, h4⟩, h5⟩
    exact ⟨⟨by omega, h5, h4⟩, Prod.ext (by show (x.ver : Int) = e.ver; omega) h2.symm⟩
set_option maxHeartbeats 4000000 in
theorem pjoin_fn {pb mb tb : Nat} {nd cl : Int} {c : PtV} {tv : TbV} {S G F : List (Nat × Obj)} {l : List EnV} {e : EnV} {t : Int} (h : PtAt pb mb tb nd cl S G l) (ht : TabIn tb G tv) (hN : NodeIn tv nd c) (hG : ∀ q ∈ G, q ∈ F) (he : JnOk c e) (hE : ∀ x ∈ l, JnOk c x) (hn : l.length < 100000) :
    Fn Tryz.prog 28 [.pointer (some ⟨pb, 0, none⟩), .agg (enC e).toArray, iV t] (S ++ F) (fun v L' => ∃ S' T o, L' = S' ++ (T ++ F) ∧ PtAt pb mb tb nd cl S' (T ++ G) (e :: l) ∧ o.Perm ((l.filter fun x => jm c e x && decide (t ≤ x.s)).map (jr e)) ∧ VecM 6 T v o.length (rcL o)) := by
  obtain ⟨es, ck, ps, rfl, hm, hr⟩ := h.h
  obtain ⟨vr, row, hvr, hvv, hpr⟩ := hr.get e.grp
  have hrl : row.length ≤ l.length := by rw [hpr.length_eq]; exact ofG_len _ _
  have hrow : ∀ x ∈ row, JnOk c x := fun x hx => hE x (List.mem_filter.1 (hpr.mem_iff.1 hx)).1
  obtain ⟨⟨k, A, b, g⟩, hop⟩ : ∃ o : OpV, c.op e.ver = o := ⟨_, rfl⟩
  have hY := met_of (c := c) (t := t) hpr
  rw [hop] at hY
  refine Fn_enterM Tryz.func28 rfl Tryz.ntmps28 rfl fun gw => ?_
  have hone := enC_one e
  have hsz : (enC e).toArray.size = 10 := rfl
  repeat (first | (refine WL_Q ?_; (first | refine QW_a ?_ | refine QW_of (Qt_ldX rfl (hn := by with_reducible assumption)) ?_)) | (refine WL_op rfl ?_; (first | refine OW_box rfl (hk := fun _ => ?_) | refine OW_alloc rfl (hk := fun _ => ?_))) | refine WL_nil ?_ | refine WC_seq ?_ | refine WC_block ?_ | refine WC_ret ?_ | refine WG 0 ?_)
  rename_i x4 x6
  repeat (first | (refine WL_Q ?_; (first | refine QW_a ?_ | refine QW_of (Qt_ldX rfl (hn := by with_reducible assumption)) ?_)) | (refine WL_op rfl ?_; (first | (refine OW_call rfl (hF := met_fn (ht.mem fun q hq => .tail _ (.tail _ (List.mem_append_right _ (hG q hq)))) hN he.ver hop ⟨2, rfl⟩) (hk := ?_); rintro _ _ ⟨m3, m4, m5, m7, rfl, rfl⟩))) | refine WL_nil ?_ | refine WC_seq ?_ | refine WC_block ?_ | refine WC_ret ?_ | refine WG 1 ?_)
  obtain ⟨F1, hF1⟩ : ∃ F1, F1 = (m7, Obj.cells (opC k A b g) 59 (0, 0)) :: (m5, Obj.cells #[iV t] 2 (0, 0)) :: (m4, Obj.cells (enC e).toArray 53 (0, 0)) :: (m3, Obj.cells #[.pointer (some ⟨pb, 0, none⟩)] 29 (0, 0)) :: ([(pb, Obj.cells (PtC tb mb nd cl l.length) 89 (0, 0)), (mb, Obj.map es ck)] ++ F) := ⟨_, rfl⟩
  refine WC_permT (L' := [(x6, Obj.cells #[.slice none 0 0] 31 (0, 0)), (x4, Obj.cells (enC e).toArray 53 (0, 0))] ++ F1) (by
    rw [hF1]
    classical
    rw [List.perm_iff_count]
    intro q
    simp only [List.count_append, List.count_cons, List.count_nil]
    omega) ?_
  have hF1F : ∀ q ∈ F, q ∈ F1 := fun q hq => by rw [hF1]; exact .tail _ (.tail _ (.tail _ (.tail _ (List.mem_append_right _ hq))))
  have hlen : (row.filter (metE A t e)).length ≤ row.length := List.length_filter_le _ _
  refine WC_met (J := fun pre B => ∃ v T, B = (x6, Obj.cells #[v] 31 (0, 0)) :: (x4, Obj.cells (enC e).toArray 53 (0, 0)) :: T ∧ Buf 35 6 v T pre.length (rcL (pre.map (jr e)))) he hrow (by rw [hF1]; exact .tail _ (.tail _ (.tail _ (.tail _ (.head _))))) (by rw [hF1]; exact .tail _ (.tail _ (.tail _ (.tail _ (.tail _ (.head _)))))) hm.ents hvr (hvv.mem fun q hq => hF1F q (hG q hq)) (by omega) (by rw [hF1]; exact .tail _ (.tail _ (.tail _ (.head _)))) (by rw [hF1]; exact .tail _ (.tail _ (.head _))) (by rw [hF1]; exact .head _) (by rw [hF1]; exact .tail _ (.head _)) ⟨_, [], rfl, Buf.nil _ _⟩ rfl rfl rfl ?_ ?_
  · rintro pre B y g' n' ll d hpre ⟨v, T, rfl, hbf⟩ ol od hol
    have hony := enC_one y
    have hszy : (enC y).toArray.size = 10 := rfl
    have hpl := hpre.length_le
    rw [List.length_append, List.length_cons, List.length_nil] at hpl
    obtain ⟨av, cv, rfl, _, _⟩ := id hbf.val
    simp only [List.cons_append]
    repeat (first | (refine WL_Q ?_; (first | refine QW_a ?_ | refine QW_of (Qt_ldX rfl (hn := by with_reducible assumption)) ?_)) | (refine WL_op rfl ?_; (first | refine OW_alloc rfl (hk := fun _ => ?_) | refine OW_stA rfl ?_ | refine OW_stN rfl ?_)) | refine WL_nil ?_ | refine WC_seq ?_ | refine WC_block ?_ | refine WC_ret ?_ | refine WG 2 ?_)
    refine ⟨rfl, _, [_], _, rfl, fun ol' hol' => ?_⟩
    simp only [List.cons_append, List.nil_append]
    repeat (first | (refine WL_Q ?_; (first | refine QW_a ?_ | refine QW_of (Qt_ldX rfl (hn := by with_reducible assumption)) ?_)) | (refine WL_op rfl ?_; (first | refine OW_build1 rfl (hk := fun _ => ?_) | refine OW_st1 rfl ?_)) | refine WL_nil ?_ | refine WC_seq ?_ | refine WC_block ?_ | refine WC_ret ?_ | refine WG 3 ?_)
    rename_i x7 xs
    have hmax : max e.s y.s = if e.s > y.s then e.s else y.s := by split <;> omega
    have hcell : putR (putR (putR zc35 0 (Value.int .u32 e.key).cells) 1 (Value.int .i64 (if e.s > y.s then e.s else y.s)).cells) 2 (Value.int .i64 (IntKind.i64.wrap (y.ac.mn + e.ac.mn))).cells = (rcC (jr e y)).toArray := by
      unfold jr
      rw [hmax, Int.add_comm y.ac.mn]
      rfl
    rw [hcell]
    refine WL_op rfl (OW_append_buf (A := [(xs, Obj.cells (rcC (jr e y)).toArray 35 (0, 0)), (x7, Obj.cells (enC y).toArray 53 (0, 0)), (ll, ol'), (d, od), (x6, Obj.cells #[.slice av pre.length cv] 31 (0, 0)), (x4, Obj.cells (enC e).toArray 53 (0, 0))]) (T := T) (B := F1) rfl rfl rfl rfl rfl hbf (m := 1) (news := rcC (jr e y)) (srcVec (sz := 6) ⟨rfl, _, 1, rfl, Nat.le_refl _, by decide, .inr ⟨xs, 0, (rcC (jr e y)).toArray, 35, (0, 0), 0, rfl, rfl, fun j x hx => by rw [Nat.zero_add]; simpa using hx⟩⟩ (fun u hu => by simp only [rcC, List.mem_cons, List.not_mem_nil, or_false] at hu; rcases hu with rfl | rfl | rfl | rfl | rfl | rfl <;> rfl)) (by decide) (by simp only [maxLen]; omega) (by omega) ?_)
    intro v' T' hb'
    obtain ⟨av', cv', rfl, _, _⟩ := id hb'.val
    simp only [List.cons_append, List.nil_append]
    repeat (first | (refine WL_Q ?_; (first | refine QW_a ?_ | refine QW_of (Qt_ldX rfl (hn := by with_reducible assumption)) ?_)) | (refine WL_op rfl ?_; (first | refine OW_build1 rfl (hk := fun _ => ?_) | refine OW_st1 rfl ?_)) | refine WL_nil ?_ | refine WC_seq ?_ | refine WC_block ?_ | refine WC_ret ?_ | refine WG 3 ?_)
    refine ⟨_, .cons _ (.cons _ (.refl _)), (x6, Obj.cells #[.slice av' (pre.length + 1) cv'] 31 (0, 0)) :: (x4, Obj.cells (enC e).toArray 53 (0, 0)) :: T', by simp only [List.cons_append]; rfl, _, T', rfl, ?_⟩
    rw [List.length_append, List.map_append, rcL_append]
    exact hb'
  · rintro d B ⟨v, T, rfl, hbf⟩
    obtain ⟨av, cv, rfl, _, _⟩ := id hbf.val
    obtain ⟨Y, hYe⟩ : ∃ Y, Y = row.filter (metE A t e) := ⟨_, rfl⟩
    rw [← hYe] at hbf hY ⊢
    refine WC_permT (L' := (pb, Obj.cells (PtC tb mb nd cl l.length) 89 (0, 0)) :: (mb, Obj.map es ck) :: (d, Obj.deferred (some [])) :: (x6, Obj.cells #[.slice av Y.length cv] 31 (0, 0)) :: (x4, Obj.cells (enC e).toArray 53 (0, 0)) :: (T ++ ((m7, Obj.cells (opC k A b g) 59 (0, 0)) :: (m5, Obj.cells #[iV t] 2 (0, 0)) :: (m4, Obj.cells (enC e).toArray 53 (0, 0)) :: (m3, Obj.cells #[.pointer (some ⟨pb, 0, none⟩)] 29 (0, 0)) :: F))) (by
      rw [hF1]
      classical
      rw [List.perm_iff_count]
      intro q
      simp only [List.count_append, List.count_cons, List.count_nil]
      omega) ?_
    repeat (first | (refine WL_Q ?_; (first | refine QW_a ?_ | refine QW_of (Qt_ldX rfl (hn := by with_reducible assumption)) ?_)) | refine WL_nil ?_ | refine WC_seq ?_ | refine WC_block ?_ | refine WC_ret ?_ | refine WG 4 ?_)
    have hMo := more_fn (F := (d, Obj.deferred (some [])) :: (x6, Obj.cells #[.slice av Y.length cv] 31 (0, 0)) :: (x4, Obj.cells (enC e).toArray 53 (0, 0)) :: (T ++ ((m7, Obj.cells (opC k A b g) 59 (0, 0)) :: (m5, Obj.cells #[iV t] 2 (0, 0)) :: (m4, Obj.cells (enC e).toArray 53 (0, 0)) :: (m3, Obj.cells #[.pointer (some ⟨pb, 0, none⟩)] 29 (0, 0)) :: F))) (e := e) h (fun q hq => .tail _ (.tail _ (.tail _ (List.mem_append_right _ (.tail _ (.tail _ (.tail _ (.tail _ (hG q hq))))))))) hn
    refine WL_op rfl (OW_call rfl (hF := hMo) (hk := ?_))
    rintro _ _ ⟨rfl, S2, T2, rfl, h2⟩
    refine WL_permN (L' := (d, Obj.deferred (some [])) :: (x6, Obj.cells #[.slice av Y.length cv] 31 (0, 0)) :: (x4, Obj.cells (enC e).toArray 53 (0, 0)) :: (S2 ++ (T2 ++ (T ++ ((m7, Obj.cells (opC k A b g) 59 (0, 0)) :: (m5, Obj.cells #[iV t] 2 (0, 0)) :: (m4, Obj.cells (enC e).toArray 53 (0, 0)) :: (m3, Obj.cells #[.pointer (some ⟨pb, 0, none⟩)] 29 (0, 0)) :: F))))) (by
      classical
      rw [List.perm_iff_count]
      intro q
      simp only [List.count_append, List.count_cons]
      omega) ?_
    repeat (first | (refine WL_Q ?_; (first | refine QW_a ?_ | refine QW_of (Qt_ldX rfl (hn := by with_reducible assumption)) ?_)) | (refine WL_op rfl ?_; (first | refine OW_st1 rfl ?_)) | refine WL_nil ?_ | refine WC_seq ?_ | refine WC_block ?_ | refine WC_ret ?_ | refine WG 4 ?_ | refine WG 5 ?_)
    have hYl : (Y.map (jr e)).length = Y.length := List.length_map ..
    refine ⟨_, ⟨d, 0, _, rfl, rfl, rfl, rfl⟩, _, S2 ++ ((T2 ++ T) ++ F), Res1 rfl (resV_cell1 rfl 1 rfl), ?_, S2, T2 ++ T, Y.map (jr e), rfl, ?_, hY.map _, ?_⟩
    · rw [List.append_assoc]
      exact .cons _ (.cons _ (.cons _ (List.Sublist.append (.refl _) (List.Sublist.append (.refl _) (List.Sublist.append (.refl _) (.cons _ (.cons _ (.cons _ (.cons _ (.refl _))))))))))
    · refine h2.mem fun q hq => ?_
      rcases List.mem_append.1 hq with hq | hq
      · exact List.mem_append_left _ (List.mem_append_left _ hq)
      · exact List.mem_append_right _ hq
    · rw [hYl]
      exact hbf.vecM.mem fun q hq => List.mem_append_right _ hq
end Go.Proofs.YtekmmhmhcpaiaaaGreat
