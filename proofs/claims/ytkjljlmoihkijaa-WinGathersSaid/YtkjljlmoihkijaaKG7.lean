/-
  A part of what the last of these texts needs; by itself it proves no statement.
-/
import Derived.Shelf.SlSortCmp.WholeK
import Derived.Test.YtkjljlmoihkijaaChecked
import Derived.Handy
import Derived.Deep.QuietTactic
import Derived.Test.YtkjljlmoihkijaaKG6
namespace Go.Proofs.Ytkjljlmoihkijaa
open Go.RowKit
theorem placed_len (out : List (Int × Int)) (w : Int × Int) : (placed out w).length = out.length + 1 := by
  unfold placed
  have h : placeW out w ≤ out.length := (List.takeWhile_sublist _).length_le
  simp only [List.length_append, List.length_take, List.length_drop, List.length_singleton]
  omega
theorem placed_foldl_len : ∀ (l out : List (Int × Int)), (l.foldl placed out).length = out.length + l.length
  | [], out => by simp
  | w :: l, out => by rw [List.foldl_cons, placed_foldl_len l, placed_len, List.length_cons]; omega
theorem place_at {w : Int × Int} : ∀ {out : List (Int × Int)} {j : Nat}, (∀ (a : Nat) p, a < j → out[a]? = some p → p.1 < w.1) → (∀ p, out[j]? = some p → ¬ p.1 < w.1) → j ≤ out.length → placeW out w = j
  | [], j, _, _, h => by
    obtain rfl : j = 0 := by simpa using h
    rfl
  | q :: out, 0, _, h, _ => by
    have := h q rfl
    unfold placeW
    rw [List.takeWhile_cons_of_neg (by simpa using this)]
    rfl
  | q :: out, j + 1, h1, h2, h3 => by
    have h0 := h1 0 q (by omega) rfl
    have ih := place_at (out := out) (j := j) (fun a p ha hp => h1 (a + 1) p (by omega) hp) (fun p hp => h2 p hp) (by simpa using h3)
    unfold placeW at ih ⊢
    rw [List.takeWhile_cons_of_pos (by simpa using h0), List.length_cons, ih]
theorem VecW.take {L : List (Nat × Obj)} {a : Option Addr} {cap : Nat} {ws : List (Int × Int)} (h : VecW L (.slice a ws.length cap) ws) {k : Nat} (hk : k ≤ ws.length) : Vec 2 L (.slice a k cap) k (flatW (ws.take k)) := by
  obtain ⟨_, a', cap', e, hle, hm, h⟩ := h
  cases e
  refine ⟨by rw [flatW_len, List.length_take, Nat.min_eq_left hk], a, cap, rfl, by omega, hm, ?_⟩
  rcases h with h | ⟨g, off, cur, E, fr, i, rfl, hi, hc⟩
  · exact .inl (by omega)
  · refine .inr ⟨g, off, cur, E, fr, i, rfl, hi, fun j x hj => hc j x ?_⟩
    rw [flatW_take, List.getElem?_take] at hj
    split at hj
    · exact hj
    · cases hj
theorem OwnW.from {cur : Array Value} {off cap : Nat} {ws : List (Int × Int)} (h : OwnW cur off cap ws) {L : List (Nat × Obj)} {g E : Nat} {fr : Nat × Nat} (i : Nat) (hi : L[i]? = some (g, .cells cur E fr)) {k : Nat} (hk : k ≤ ws.length) : Vec 2 L (.slice (some ⟨g, slOff cap k off 2, none⟩) (ws.length - k) (cap - k)) (ws.length - k) (flatW (ws.drop k)) := by
  have hd := OwnW.drop h hk
  have h2 := Own.le h
  have h3 := Own.max h
  refine ⟨by rw [flatW_len, List.length_drop], _, _, rfl, by omega, by omega, ?_⟩
  rcases Nat.lt_or_ge k ws.length with hlt | hge
  · refine .inr ⟨g, _, cur, E, fr, i, rfl, hi, fun j x hj => ?_⟩
    have e : slOff cap k off 2 = off + k * 2 := by unfold slOff; rw [if_neg (by omega)]
    rw [e]
    exact Own.at_ hd j x hj
  · exact .inl (by omega)
theorem Qt_sliceN {c : Cx} {s : List (Nat × Value)} {L : List (Nat × Obj)} {o : Oper} {t E n : Nat} [hu : TUnd c.P t (.slice E)] [hs : TSize c.P E n] {x lo : Operand} {len cap : Nat} {k : IntKind} {l : Int} (ho : o.op = .slice t x (some lo) none none) (hx : ev s x = some (.slice none len cap) := by exact rfl) (hl : ev s lo = some (.int k l) := by exact rfl) (h0 : 0 ≤ l := by first | with_reducible assumption | decide | omega) (h1 : l ≤ len := by first | with_reducible assumption | decide | omega) :
    Qt c s L o (.slice none (len - l.toNat) (cap - l.toNat)) :=
  ⟨(fun cc => by simp [ho]), fun ρ hρ w _ => by
    have hut : c.P.underlying t = some (.slice (c.P.elem t)) := by rw [elem_of hu.h]; exact hu.h
    have h2 := run_slice_l (P := c.P) w t none len cap hut k l h0 h1
    have h3 := run_sliceAt_slice (P := c.P) w t (.slice none len cap) (some (.int k l)) none none hut
    rw [elem_of hu.h, hs.h] at h2
    simp only [Result.andThen, sliced] at h2
    simp [execOp, ho, hρ x _ hx, hρ lo _ hl, h3, h2]⟩
theorem at_app2 {α : Type} (A B C : List α) (p : α) : (A ++ (B ++ ([p] ++ C)))[A.length + B.length]? = some p := by simp
theorem at_app1 {α : Type} (A C : List α) (p : α) : (A ++ ([p] ++ C))[A.length]? = some p := by simp
attribute [local irreducible] Fn WC WL WR OW Qt YieldFn QW FnP FnD
set_option maxHeartbeats 8000000 in
theorem rGather_fn {v : Value} {ws : List (Int × Int)} (hn : ws.length ≤ 100000) {L : List (Nat × Obj)} (hv : VecW L v ws) : Fn Try.prog 8 [v] L (fun r L' => ∃ out T, Gath ws out ∧ out.length ≤ ws.length ∧ BufW r T out ∧ L' = T ++ L) := by
  have hpa := hv.pairs
  obtain ⟨a1, cap1, rfl, h1⟩ := hpa
  refine Fn_enter Try.func8 rfl Try.ntmps8 rfl fun gw => ?_
  repeat (first | refine RQ ?_ | ((first | refine WL_Q ?_); (first | refine QW_of (Qt_sliceN rfl) ?_ | refine QW_of (Qt_ldX rfl (hn := by with_reducible assumption)) ?_)) | refine RC ?_ | refine WC_region (id := 0) ?_ | refine WC_region (id := 1) ?_ | refine WC_region (id := 2) ?_)
  refine WC_wk [(4, .int .i64 0), (3, .slice none 0 0), (0, .slice a1 ws.length cap1)] ⟨rfl, rfl, rfl, trivial⟩ ?_
  refine WC_loop (fun m σ => ∃ (i : Nat) (v : Value) (T : List (Nat × Obj)), m = ws.length - i ∧ i ≤ ws.length ∧ BufW v T ((ws.take i).filter fun p => decide (p.1 < p.2)) ∧ σ = ⟨[(4, .int .i64 i), (3, v), (0, .slice a1 ws.length cap1)], [], T ++ L⟩) ws.length ⟨0, .slice none 0 0, [], by omega, by omega, Buf.nil _ _, rfl⟩ ?_
  rintro m σ ⟨i, v, T, rfl, hi, hb, rfl⟩
  by_cases hlt : i < ws.length
  · have d2 : decide ((i : Int) < ((ws.length : Nat) : Int)) = true := decide_eq_true (by omega)
    obtain ⟨p, hp⟩ : ∃ p, ws[i]? = some p := ⟨_, List.getElem?_eq_getElem hlt⟩
    have hne : ws ≠ [] := by intro e; rw [e] at hlt; simp at hlt
    obtain ⟨g1, o1, cu1, E1, fr1, i1, rfl, hi1, hc1⟩ := h1.resolve_left hne
    obtain ⟨x1, z1⟩ := hc1 i p hp
    have p0 : (0 : Int) ≤ (i : Int) := by omega
    have p1 : ((i : Nat) : Int) < ((ws.length : Nat) : Int) := by omega
    have y1 : o1 + ((i : Nat) : Int).toNat * 2 + 2 ≤ cu1.size := by rw [Int.toNat_natCast]; exact z1
    have v1 : cu1.extract (o1 + ((i : Nat) : Int).toNat * 2) (o1 + ((i : Nat) : Int).toNat * 2 + 2) = wC p := by rw [Int.toNat_natCast]; exact x1
    have w : IntKind.i64.wrap ((i : Int) + 1) = ((i + 1 : Nat) : Int) := by rw [wI64 (by omega) (by omega)]; omega
    have hm1 : (T ++ L)[T.length + i1]? = some (g1, .cells cu1 E1 fr1) := by rw [List.getElem?_append_right (by omega), Nat.add_sub_cancel_left]; exact hi1
    have q0 : cu1[o1 + ((i : Nat) : Int).toNat * 2 + 0]? = some (.int .i64 p.1) := by
      have := congrArg (fun a : Array Value => a[0]?) v1
      simp only [Array.getElem?_extract] at this
      rwa [if_pos (by omega)] at this
    have q1 : cu1[o1 + ((i : Nat) : Int).toNat * 2 + 1]? = some (.int .i64 p.2) := by
      have := congrArg (fun a : Array Value => a[1]?) v1
      simp only [Array.getElem?_extract] at this
      rwa [if_pos (by omega)] at this
    have htk : ws.take (i + 1) = ws.take i ++ [p] := by rw [List.take_add_one, hp]; rfl
    by_cases hlo : p.1 < p.2
    · have d3 : decide (p.1 < p.2) = true := decide_eq_true hlo
      have hlf : ((ws.take i).filter fun p => decide (p.1 < p.2)).length ≤ i := Nat.le_trans (List.length_filter_le _ _) (by rw [List.length_take]; omega)
      repeat (first | refine RQr ?_ | ((first | refine WL_Q ?_ | refine WR_Q rfl ?_ | refine WR_late rfl rfl rfl (OW_Q ?_)); (first | refine QW_of (Qt_sliceN rfl) ?_ | refine QW_of (Qt_ldX rfl (hn := by with_reducible assumption)) ?_)) | ((first | refine WL_op rfl ?_ | refine WR_late rfl rfl rfl ?_ | refine WR_opG rfl rfl ?_); (first | (refine OE ?_; try intro _)); try refine SD ?_) | refine RC ?_ | refine RU ?_ | refine WC_draw_all (id := 5) 11 (.calm 0 <| .calm 1 <| .calm 2 <| .calm 3 <| .calm 4 <| .calm 5 <| .calm 6 <| .calm 7 <| .calm 8 <| .calm 9 <| .calm 10 <| .done) mixed (by kernel_rfl) ?_ | refine WC_region (id := 3) ?_ | refine WC_region (id := 6) ?_)
      rw [v1]
      repeat (first | refine RQ ?_ | ((first | refine WL_Q ?_); (first | refine QW_of (Qt_sliceN rfl) ?_ | refine QW_of (Qt_ldX rfl (hn := by with_reducible assumption)) ?_)) | (refine RE ?_; try intro _) | refine RC ?_ | refine WC_region (id := 6) ?_)
      refine WL_op rfl (OW_append_buf (A := [_]) (T := T) (B := L) rfl rfl rfl rfl rfl hb (srcW (w := wC p) (i := 0) rfl rfl rfl) (by decide) (by simp only [maxLen]; omega) (by omega) ?_)
      intro v' T' hb'
      simp only [List.cons_append, List.nil_append]
      repeat (first | refine RQ ?_ | ((first | refine WL_Q ?_); (first | refine QW_of (Qt_sliceN rfl) ?_ | refine QW_of (Qt_ldX rfl (hn := by with_reducible assumption)) ?_)) | (refine RE ?_; try intro _) | refine RC ?_ | refine WC_region (id := 6) ?_ | refine WC_region (id := 4) ?_)
      rw [w]
      refine ⟨_, _, by omega, ⟨i + 1, v', T', rfl, by omega, ?_, rfl⟩, ⟨rfl, rfl, rfl, trivial⟩, rfl, .cons _ (.refl _)⟩
      rw [htk, List.filter_append, List.filter_cons_of_pos (by simpa using hlo), List.filter_nil]
      unfold BufW
      rw [flatW_snoc, List.length_append]
      exact hb'
    · have d3 : decide (p.1 < p.2) = false := decide_eq_false hlo
      repeat (first | refine RQr ?_ | ((first | refine WL_Q ?_ | refine WR_Q rfl ?_ | refine WR_late rfl rfl rfl (OW_Q ?_)); (first | refine QW_of (Qt_sliceN rfl) ?_ | refine QW_of (Qt_ldX rfl (hn := by with_reducible assumption)) ?_)) | refine RC ?_ | refine RU ?_ | refine WC_draw_all (id := 5) 11 (.calm 0 <| .calm 1 <| .calm 2 <| .calm 3 <| .calm 4 <| .calm 5 <| .calm 6 <| .calm 7 <| .calm 8 <| .calm 9 <| .calm 10 <| .done) mixed (by kernel_rfl) ?_ | refine WC_region (id := 3) ?_ | refine WC_region (id := 4) ?_)
      rw [w]
      refine ⟨_, _, by omega, ⟨i + 1, v, T, rfl, by omega, ?_, rfl⟩, ⟨rfl, rfl, rfl, trivial⟩, rfl, .refl _⟩
      rw [htk, List.filter_append, List.filter_cons_of_neg (by simpa using hlo), List.filter_nil, List.append_nil]
      exact hb
  · have d2 : decide ((i : Int) < ((ws.length : Nat) : Int)) = false := decide_eq_false (by omega)
    rw [List.take_of_length_le (by omega)] at hb
    have hJ := Joins.start ws
    have hlen : (ws.filter fun p => decide (p.1 < p.2)).length ≤ ws.length := List.length_filter_le _ _
    generalize (ws.filter fun p => decide (p.1 < p.2)) = own at hb hJ hlen
    repeat (first | refine RQ ?_ | ((first | refine WL_Q ?_); (first | refine QW_of (Qt_sliceN rfl) ?_ | refine QW_of (Qt_ldX rfl (hn := by with_reducible assumption)) ?_)) | refine RC ?_ | refine WC_region (id := 3) ?_)
    refine WC_wk [(3, v)] ⟨rfl, trivial⟩ ?_
    refine WC_loop (fun m σ => ∃ (own : List (Int × Int)) (v : Value) (T : List (Nat × Obj)), m = own.length ∧ own.length ≤ ws.length ∧ Joins ws own ∧ BufW v T own ∧ σ = ⟨[(3, v)], [], T ++ L⟩) own.length ⟨own, v, T, rfl, hlen, hJ, hb, rfl⟩ ?_
    clear hb hJ hlen
    rintro m σ ⟨own, v, T, rfl, hlen, hJ, hb, rfl⟩
    repeat (first | refine RQ ?_ | ((first | refine WL_Q ?_); (first | refine QW_of (Qt_sliceN rfl) ?_ | refine QW_of (Qt_ldX rfl (hn := by with_reducible assumption)) ?_)) | ((first | refine WL_op rfl ?_); (first | (refine OW_call rfl (hF := pair_fn (by omega) (VecW.pairs (hb.vec0 L))) (hk := ?_); rintro _ _ ⟨⟨i2, k2, is2, hP, rfl⟩, rfl⟩))) | refine RC ?_ | refine WC_region (id := 7) ?_ | refine WC_region (id := 8) ?_)
    rcases hP with ⟨rfl, p, q, hp, hq, hik, hm⟩ | ⟨rfl, hno⟩
    · have hil : i2 < own.length := (List.getElem?_eq_some_iff.1 hp).1
      have hkl : k2 < own.length := (List.getElem?_eq_some_iff.1 hq).1
      obtain ⟨g, off, cap, cur, rfl, rfl, ho⟩ := (BufW.cases_ hb).resolve_left (fun h => by rw [h.1] at hil; simp at hil)
      have p0 : (0 : Int) ≤ (i2 : Int) := by omega
      have p1 : ((i2 : Nat) : Int) < ((own.length : Nat) : Int) := by omega
      have y1 : off + ((i2 : Nat) : Int).toNat * 2 + 2 ≤ cur.size := by rw [Int.toNat_natCast]; exact ho.lt hil
      have v1 : cur.extract (off + ((i2 : Nat) : Int).toNat * 2) (off + ((i2 : Nat) : Int).toNat * 2 + 2) = wC p := by rw [Int.toNat_natCast]; exact ho.cell hp
      have q0 : (0 : Int) ≤ (k2 : Int) := by omega
      have q1 : ((k2 : Nat) : Int) < ((own.length : Nat) : Int) := by omega
      have y2 : off + ((k2 : Nat) : Int).toNat * 2 + 2 ≤ cur.size := by rw [Int.toNat_natCast]; exact ho.lt hkl
      have v2 : cur.extract (off + ((k2 : Nat) : Int).toNat * 2) (off + ((k2 : Nat) : Int).toNat * 2 + 2) = wC q := by rw [Int.toNat_natCast]; exact ho.cell hq
      have wk : IntKind.i64.wrap ((k2 : Int) + 1) = ((k2 + 1 : Nat) : Int) := by rw [wI64 (by omega) (by omega)]; omega
      repeat (first | refine RQr ?_ | ((first | refine WL_Q ?_ | refine WR_Q rfl ?_ | refine WR_late rfl rfl rfl (OW_Q ?_)); (first | refine QW_of (Qt_sliceN rfl) ?_ | refine QW_of (Qt_ldX rfl (hn := by with_reducible assumption)) ?_)) | ((first | refine WL_op rfl ?_ | refine WR_late rfl rfl rfl ?_ | refine WR_opG rfl rfl ?_); (first | (refine OE ?_; try intro _) | refine OW_callP rfl (hF := joinR_fn) (hk := ?_)); try refine SD ?_) | refine RC ?_ | refine RU ?_ | refine WC_draw_all (id := 9) 12 (.calm 0 <| .calm 1 <| .calm 2 <| .calm 3 <| .calm 4 <| .calm 5 <| .calm 6 <| .calm 7 <| .calm 8 <| .calm 9 <| .must 10 <| .calm 11 <| .must 12 <| .done) mixed (by kernel_rfl) ?_ | refine WC_region (id := 8) ?_)
      rw [v1, v2]
      repeat (first | refine RQr ?_ | ((first | refine WL_Q ?_ | refine WR_Q rfl ?_ | refine WR_late rfl rfl rfl (OW_Q ?_)); (first | refine QW_of (Qt_sliceN rfl) ?_ | refine QW_of (Qt_ldX rfl (hn := by with_reducible assumption)) ?_)) | ((first | refine WL_op rfl ?_ | refine WR_late rfl rfl rfl ?_ | refine WR_opG rfl rfl ?_); (first | (refine OE ?_; try intro _) | refine OW_callP rfl (hF := joinR_fn) (hk := ?_)); try refine SD ?_) | refine RC ?_ | refine RU ?_ | refine WC_draw_all (id := 9) 12 (.calm 0 <| .calm 1 <| .calm 2 <| .calm 3 <| .calm 4 <| .calm 5 <| .calm 6 <| .calm 7 <| .calm 8 <| .calm 9 <| .must 10 <| .calm 11 <| .must 12 <| .done) mixed (by kernel_rfl) ?_)
      have ho2 : OwnW (putR cur (off + ((i2 : Nat) : Int).toNat * 2) (wC (joinW p q))) off cap (own.set i2 (joinW p q)) := ho.put hil _
      have hl2 : (own.set i2 (joinW p q)).length = own.length := List.length_set ..
      refine WC_wk [(6, .int .i64 k2), (3, .slice (some ⟨g, off, none⟩) own.length cap)] ⟨rfl, rfl, trivial⟩ ?_
      generalize putR cur (off + ((i2 : Nat) : Int).toNat * 2) (wC (joinW p q)) = cur2 at ho2 ⊢
      have hcap := Own.le ho
      have c0 : ((k2 : Nat) : Int) ≤ ((cap : Nat) : Int) := by omega
      have c1 : (0 : Int) ≤ IntKind.i64.wrap ((k2 : Int) + 1) := by rw [wk]; omega
      have c2 : IntKind.i64.wrap ((k2 : Int) + 1) ≤ ((own.length : Nat) : Int) := by rw [wk]; omega
      refine WC_draw_sub (id := 10) 10 (.calm 0 <| .calm 1 <| .calm 2 <| .calm 3 <| .calm 4 <| .calm 5 <| .calm 6 <| .calm 7 <| .must 8 <| .calm 9 <| .done) mixed (by kernel_rfl) ((List.sublist_cons_self _ L)) ?_
      repeat (first | refine RQr ?_ | ((first | refine WL_Q ?_ | refine WR_Q rfl ?_ | refine WR_late rfl rfl rfl (OW_Q ?_)); (first | refine QW_of (Qt_sliceN rfl) ?_ | refine QW_of (Qt_ldX rfl (hn := by with_reducible assumption)) ?_)) | refine RC ?_ | refine RU ?_ | refine WC_draw_all (id := 10) 10 (.calm 0 <| .calm 1 <| .calm 2 <| .calm 3 <| .calm 4 <| .calm 5 <| .calm 6 <| .calm 7 <| .must 8 <| .calm 9 <| .done) mixed (by kernel_rfl) ?_)
      rw [wk]
      have hsrc := OwnW.from (L := (g, Obj.cells cur2 30 (0, 0)) :: L) (E := 30) (fr := (0, 0)) ho2 0 rfl (k := k2 + 1) (by omega)
      rw [hl2] at hsrc
      refine WR_op rfl rfl (OW_append_own rfl rfl rfl rfl rfl 0 rfl (Own.take ho2 (k := k2) (cap' := k2) (by omega) (Nat.le_refl _) (by omega)) (srcVec hsrc flatW_one) (by simp only [maxLen]; omega) (by omega) fun b1 off1 cap1 cur1 hown => ?_)
      simp only [List.set_cons_zero]
      refine ⟨fun _ h => List.mem_cons_of_mem _ h, ?_⟩
      repeat (first | refine RQr ?_ | ((first | refine WL_Q ?_ | refine WR_Q rfl ?_ | refine WR_late rfl rfl rfl (OW_Q ?_)); (first | refine QW_of (Qt_sliceN rfl) ?_ | refine QW_of (Qt_ldX rfl (hn := by with_reducible assumption)) ?_)) | refine RC ?_ | refine RU ?_ | refine WC_draw_all (id := 10) 10 (.calm 0 <| .calm 1 <| .calm 2 <| .calm 3 <| .calm 4 <| .calm 5 <| .calm 6 <| .calm 7 <| .must 8 <| .calm 9 <| .done) mixed (by kernel_rfl) ?_)
      have hE : ((own.set i2 (joinW p q)).eraseIdx k2).length = k2 + (own.length - (k2 + 1)) := by rw [List.length_eraseIdx_of_lt (by omega), hl2]; omega
      have hfin : OwnW cur1 off1 cap1 ((own.set i2 (joinW p q)).eraseIdx k2) := by
        unfold OwnW
        rw [hE, List.eraseIdx_eq_take_drop_succ, flatW_append, flatW_take]
        exact hown
      exact ⟨_, _, by omega, ⟨(own.set i2 (joinW p q)).eraseIdx k2, _, _, rfl, by omega, hJ.join hp hq hik hm, .inr ⟨b1, off1, cap1, cur1, congrArg (fun n => Value.slice (some ⟨b1, off1, none⟩) n cap1) hE.symm, rfl, hfin⟩, rfl⟩, ⟨rfl, trivial⟩, rfl, .refl _⟩
    · have hG := hJ.gath hno
      repeat (first | refine RQ ?_ | ((first | refine WL_Q ?_); (first | refine QW_of (Qt_sliceN rfl) ?_ | refine QW_of (Qt_ldX rfl (hn := by with_reducible assumption)) ?_)) | refine RC ?_ | refine WC_region (id := 8) ?_ | refine WC_region (id := 11) ?_ | refine WC_region (id := 12) ?_)
      refine WC_wk [(9, .int .i64 0), (8, .slice none 0 0), (3, v)] ⟨rfl, rfl, rfl, trivial⟩ ?_
      refine WC_loop (fun m σ => ∃ (i : Nat) (u : Value) (U : List (Nat × Obj)), m = own.length - i ∧ i ≤ own.length ∧ BufW u U ((own.take i).foldl placed []) ∧ σ = ⟨[(9, .int .i64 i), (8, u), (3, v)], [], U ++ (T ++ L)⟩) own.length ⟨0, .slice none 0 0, [], by omega, by omega, Buf.nil _ _, rfl⟩ ?_
      rintro m σ ⟨i, u, U, rfl, hi, hu, rfl⟩
      by_cases hlt : i < own.length
      · obtain ⟨gv, ov, capv, curv, rfl, rfl, hov⟩ := (BufW.cases_ hb).resolve_left (fun h => by rw [h.1] at hlt; simp at hlt)
        have d2 : decide ((i : Int) < ((own.length : Nat) : Int)) = true := decide_eq_true (by omega)
        obtain ⟨p, hp⟩ : ∃ p, own[i]? = some p := ⟨_, List.getElem?_eq_getElem hlt⟩
        have hno : (own.take i).length = i := by rw [List.length_take]; omega
        have hlo : ((own.take i).foldl placed []).length = i := by rw [placed_foldl_len, hno]; simp
        have htk : (own.take (i + 1)).foldl placed [] = placed ((own.take i).foldl placed []) p := by rw [List.take_add_one, hp]; simp [List.foldl_append]
        generalize (own.take i).foldl placed [] = out at hu hlo htk
        obtain ⟨au, capu, rfl, hule, hum⟩ := Buf.val hu
        have w : IntKind.i64.wrap ((i : Int) + 1) = ((i + 1 : Nat) : Int) := by rw [wI64 (by omega) (by omega)]; omega
        have p0 : (0 : Int) ≤ (i : Int) := by omega
        have p1 : ((i : Nat) : Int) < ((own.length : Nat) : Int) := by omega
        have y1 : ov + ((i : Nat) : Int).toNat * 2 + 2 ≤ curv.size := by rw [Int.toNat_natCast]; exact hov.lt hlt
        have v1 : curv.extract (ov + ((i : Nat) : Int).toNat * 2) (ov + ((i : Nat) : Int).toNat * 2 + 2) = wC p := by rw [Int.toNat_natCast]; exact hov.cell hp
        have l1 : curv[ov + ((i : Nat) : Int).toNat * 2 + 0]? = some (.int .i64 p.1) := by rw [Int.toNat_natCast]; exact (hov.at_ hp).1
        repeat (first | refine RQr ?_ | ((first | refine WL_Q ?_ | refine WL_Y ?_ | refine WR_Q rfl ?_ | refine WR_late rfl rfl rfl (OW_Q ?_) | refine WR_Y rfl ?_); (first | refine QW_of (Qt_sliceN rfl) ?_ | refine QW_of (Qt_ldX rfl (hn := by with_reducible assumption)) ?_)) | ((first | refine WL_op rfl ?_ | refine WL_yes (h := ?_) | refine WR_late rfl rfl rfl ?_ | refine WR_opG rfl rfl ?_ | refine WR_opYG rfl (h := ?_)); (first | (refine OE ?_; try intro _) | refine OW_callP rfl (hF := joinR_fn) (hk := ?_) | (refine OW_call rfl (hF := pair_fn (by omega) (VecW.pairs (hb.vec0 L))) (hk := ?_); rintro _ _ ⟨⟨i2, k2, is2, hP, rfl⟩, rfl⟩)); try refine SD ?_) | refine RC0 ?_ | refine RU ?_ | refine WC_block (id := 0) ?_ | refine WC_block (id := 1) ?_ | refine WC_block (id := 2) ?_ | refine WC_block (id := 3) ?_ | refine WC_block (id := 4) ?_ | refine WC_block (id := 5) ?_ | refine WC_block (id := 7) ?_ | refine WC_draw_all (id := 5) 11 (.calm 0 <| .calm 1 <| .calm 2 <| .calm 3 <| .calm 4 <| .calm 5 <| .calm 6 <| .calm 7 <| .calm 8 <| .calm 9 <| .calm 10 <| .done) mixed (by kernel_rfl) ?_ | refine WC_draw_all (id := 9) 12 (.calm 0 <| .calm 1 <| .calm 2 <| .calm 3 <| .calm 4 <| .calm 5 <| .calm 6 <| .calm 7 <| .calm 8 <| .calm 9 <| .must 10 <| .calm 11 <| .must 12 <| .done) mixed (by kernel_rfl) ?_ | refine WC_draw_all (id := 10) 10 (.calm 0 <| .calm 1 <| .calm 2 <| .calm 3 <| .calm 4 <| .calm 5 <| .calm 6 <| .calm 7 <| .must 8 <| .calm 9 <| .done) mixed (by kernel_rfl) ?_ | refine WC_region (id := 0) ?_ | refine WC_region (id := 1) ?_ | refine WC_region (id := 2) ?_ | refine WC_region (id := 3) ?_ | refine WC_region (id := 6) ?_ | refine WC_region (id := 4) ?_ | refine WC_region (id := 7) ?_ | refine WC_region (id := 8) ?_ | refine WC_region (id := 11) ?_ | refine WC_region (id := 12) ?_ | refine WC_region (id := 13) ?_ | refine WC_region (id := 15) ?_ | refine WC_region (id := 17) ?_ | refine WC_region (id := 18) ?_ | refine WC_region (id := 19) ?_ | refine WC_region (id := 20) ?_ | refine WC_region (id := 21) ?_ | refine WC_region (id := 14) ?_ | refine WC_region (id := 22) ?_)
        refine WC_meetB (fun σ => σ = ⟨[(10, .int .i64 (placeW out p)), (9, .int .i64 i), (8, .slice au out.length capu), (3, .slice (some ⟨gv, ov, none⟩) own.length capv)], [], U ++ ([(gv, .cells curv 30 (0, 0))] ++ L)⟩) ?_ ?_
        · refine WC_wk [(10, .int .i64 0), (9, .int .i64 i), (8, .slice au out.length capu), (3, .slice (some ⟨gv, ov, none⟩) own.length capv)] ⟨rfl, rfl, rfl, rfl, trivial⟩ ?_
          repeat (first | refine RQr ?_ | ((first | refine WL_Q ?_ | refine WL_Y ?_ | refine WR_Q rfl ?_ | refine WR_late rfl rfl rfl (OW_Q ?_) | refine WR_Y rfl ?_); (first | refine QW_of (Qt_sliceN rfl) ?_ | refine QW_of (Qt_ldX rfl (hn := by with_reducible assumption)) ?_)) | ((first | refine WL_op rfl ?_ | refine WL_yes (h := ?_) | refine WR_late rfl rfl rfl ?_ | refine WR_opG rfl rfl ?_ | refine WR_opYG rfl (h := ?_)); (first | (refine OE ?_; try intro _) | refine OW_callP rfl (hF := joinR_fn) (hk := ?_) | (refine OW_call rfl (hF := pair_fn (by omega) (VecW.pairs (hb.vec0 L))) (hk := ?_); rintro _ _ ⟨⟨i2, k2, is2, hP, rfl⟩, rfl⟩)); try refine SD ?_) | refine RC ?_ | refine RU ?_ | refine WC_draw_all (id := 5) 11 (.calm 0 <| .calm 1 <| .calm 2 <| .calm 3 <| .calm 4 <| .calm 5 <| .calm 6 <| .calm 7 <| .calm 8 <| .calm 9 <| .calm 10 <| .done) mixed (by kernel_rfl) ?_ | refine WC_draw_all (id := 9) 12 (.calm 0 <| .calm 1 <| .calm 2 <| .calm 3 <| .calm 4 <| .calm 5 <| .calm 6 <| .calm 7 <| .calm 8 <| .calm 9 <| .must 10 <| .calm 11 <| .must 12 <| .done) mixed (by kernel_rfl) ?_ | refine WC_draw_all (id := 10) 10 (.calm 0 <| .calm 1 <| .calm 2 <| .calm 3 <| .calm 4 <| .calm 5 <| .calm 6 <| .calm 7 <| .must 8 <| .calm 9 <| .done) mixed (by kernel_rfl) ?_ | refine WC_region (id := 0) ?_ | refine WC_region (id := 1) ?_ | refine WC_region (id := 2) ?_ | refine WC_region (id := 3) ?_ | refine WC_region (id := 6) ?_ | refine WC_region (id := 4) ?_ | refine WC_region (id := 7) ?_ | refine WC_region (id := 8) ?_ | refine WC_region (id := 11) ?_ | refine WC_region (id := 12) ?_ | refine WC_region (id := 13) ?_ | refine WC_region (id := 15) ?_ | refine WC_region (id := 17) ?_ | refine WC_region (id := 18) ?_ | refine WC_region (id := 19) ?_ | refine WC_region (id := 20) ?_ | refine WC_region (id := 21) ?_ | refine WC_region (id := 14) ?_ | refine WC_region (id := 22) ?_)
          refine WC_loop (fun m σ => ∃ j : Nat, m = out.length - j ∧ j ≤ out.length ∧ (∀ (a : Nat) q, a < j → out[a]? = some q → q.1 < p.1) ∧ σ = ⟨[(10, .int .i64 j), (9, .int .i64 i), (8, .slice au out.length capu), (3, .slice (some ⟨gv, ov, none⟩) own.length capv)], [], U ++ ([(gv, .cells curv 30 (0, 0))] ++ L)⟩) out.length ⟨0, by omega, by omega, fun a q h => by omega, rfl⟩ ?_
          rintro m σ ⟨j, rfl, hj, hB, rfl⟩
          by_cases hjt : j < out.length
          · have d3 : decide ((j : Int) < ((out.length : Nat) : Int)) = true := decide_eq_true (by omega)
            obtain ⟨q, hq⟩ : ∃ q, out[j]? = some q := ⟨_, List.getElem?_eq_getElem hjt⟩
            obtain ⟨gu, ou, capu', curu, e2, rfl, hou⟩ := (BufW.cases_ hu).resolve_left (fun h => by rw [h.1] at hjt; simp at hjt)
            cases e2
            have j0 : (0 : Int) ≤ (j : Int) := by omega
            have j1 : ((j : Nat) : Int) < ((out.length : Nat) : Int) := by omega
            have y2 : ou + ((j : Nat) : Int).toNat * 2 + 2 ≤ curu.size := by rw [Int.toNat_natCast]; exact hou.lt hjt
            have l2 : curu[ou + ((j : Nat) : Int).toNat * 2 + 0]? = some (.int .i64 q.1) := by rw [Int.toNat_natCast]; exact (hou.at_ hq).1
            have wj : IntKind.i64.wrap ((j : Int) + 1) = ((j + 1 : Nat) : Int) := by rw [wI64 (by omega) (by omega)]; omega
            by_cases hqp : q.1 < p.1
            · have d4 : decide (q.1 < p.1) = true := decide_eq_true hqp
              repeat (first | refine RQr ?_ | ((first | refine WL_Q ?_ | refine WL_Y ?_ | refine WR_Q rfl ?_ | refine WR_late rfl rfl rfl (OW_Q ?_) | refine WR_Y rfl ?_); (first | refine QW_of (Qt_sliceN rfl) ?_ | refine QW_of (Qt_ldX rfl (hn := by with_reducible assumption)) ?_)) | refine RC ?_ | refine RU ?_ | refine WC_draw_all (id := 16) 17 (.calm 0 <| .calm 1 <| .calm 2 <| .calm 3 <| .calm 4 <| .calm 5 <| .calm 6 <| .calm 7 <| .calm 8 <| .calm 9 <| .calm 10 <| .calm 11 <| .calm 12 <| .calm 13 <| .calm 14 <| .calm 15 <| .calm 16 <| .done) mixed (by kernel_rfl) ?_ | refine WC_region (id := 17) ?_)
              rw [wj]
              refine ⟨_, _, by omega, ⟨j + 1, rfl, by omega, fun a r ha hr => ?_, rfl⟩, ⟨rfl, rfl, rfl, rfl, trivial⟩, rfl, .refl _⟩
              rcases Nat.lt_or_ge a j with g | g
              · exact hB a r g hr
              · obtain rfl : a = j := by omega
                rw [hq] at hr
                cases hr
                exact hqp
            · have d4 : decide (q.1 < p.1) = false := decide_eq_false hqp
              have hpa := place_at (w := p) hB (fun r hr => by rw [hq] at hr; cases hr; exact hqp) (by omega)
              subst hpa
              repeat (first | refine RQr ?_ | ((first | refine WL_Q ?_ | refine WL_Y ?_ | refine WR_Q rfl ?_ | refine WR_late rfl rfl rfl (OW_Q ?_) | refine WR_Y rfl ?_); (first | refine QW_of (Qt_sliceN rfl) ?_ | refine QW_of (Qt_ldX rfl (hn := by with_reducible assumption)) ?_)) | refine RC ?_ | refine RU ?_ | refine WC_draw_all (id := 16) 17 (.calm 0 <| .calm 1 <| .calm 2 <| .calm 3 <| .calm 4 <| .calm 5 <| .calm 6 <| .calm 7 <| .calm 8 <| .calm 9 <| .calm 10 <| .calm 11 <| .calm 12 <| .calm 13 <| .calm 14 <| .calm 15 <| .calm 16 <| .done) mixed (by kernel_rfl) ?_)
              exact ⟨_, rfl, ⟨rfl, rfl, rfl, rfl, trivial⟩, rfl, .refl _⟩
          · have d3 : decide ((j : Int) < ((out.length : Nat) : Int)) = false := decide_eq_false (by omega)
            have hpa := place_at (w := p) hB (fun r hr => absurd (List.getElem?_eq_some_iff.1 hr).1 hjt) (by omega)
            subst hpa
            repeat (first | refine RQr ?_ | ((first | refine WL_Q ?_ | refine WL_Y ?_ | refine WR_Q rfl ?_ | refine WR_late rfl rfl rfl (OW_Q ?_) | refine WR_Y rfl ?_); (first | refine QW_of (Qt_sliceN rfl) ?_ | refine QW_of (Qt_ldX rfl (hn := by with_reducible assumption)) ?_)) | refine RC ?_ | refine RU ?_ | refine WC_draw_all (id := 16) 17 (.calm 0 <| .calm 1 <| .calm 2 <| .calm 3 <| .calm 4 <| .calm 5 <| .calm 6 <| .calm 7 <| .calm 8 <| .calm 9 <| .calm 10 <| .calm 11 <| .calm 12 <| .calm 13 <| .calm 14 <| .calm 15 <| .calm 16 <| .done) mixed (by kernel_rfl) ?_)
            exact ⟨_, rfl, ⟨rfl, rfl, rfl, rfl, trivial⟩, rfl, .refl _⟩
        · rintro _ rfl
          have hpl : placeW out p ≤ out.length := (List.takeWhile_sublist _).length_le
          have hol : out.length ≤ 100000 := by omega
          repeat (first | refine RQ ?_ | ((first | refine WL_Q ?_); (first | refine QW_of (Qt_sliceN rfl) ?_ | refine QW_of (Qt_ldX rfl (hn := by with_reducible assumption)) ?_)) | refine RC ?_ | refine WC_region (id := 18) ?_ | refine WC_region (id := 19) ?_)
          refine WL_op rfl (OW_append_nilM rfl rfl rfl rfl rfl (srcVec (VecW.take (hu.vec0 _) hpl) flatW_one) (by rw [flatW_len, List.length_take, Int.toNat_natCast, Nat.min_eq_left hpl]) (by simp only [maxLen]; omega) (by omega) fun v1' T1 hT1 => ?_)
          have hmv := at_app2 T1 U L (gv, Obj.cells curv 30 (0, 0))
          repeat (first | refine RQ ?_ | ((first | refine WL_Q ?_); (first | refine QW_of (Qt_sliceN rfl) ?_ | refine QW_of (Qt_ldX rfl (hn := by with_reducible assumption)) ?_)) | (refine RE ?_; try intro _) | refine RC ?_ | refine WC_region (id := 19) ?_ | refine WC_region (id := 20) ?_)
          rw [v1]
          repeat (first | refine RQ ?_ | ((first | refine WL_Q ?_); (first | refine QW_of (Qt_sliceN rfl) ?_ | refine QW_of (Qt_ldX rfl (hn := by with_reducible assumption)) ?_)) | (refine RE ?_; try intro _) | refine RC ?_ | refine WC_region (id := 20) ?_)
          rename_i bx
          show WL _ _ _ _ ⟨_, _, [(bx, .cells (wC p) 30 (0, 0))] ++ (T1 ++ (U ++ ([(gv, .cells curv 30 (0, 0))] ++ L)))⟩
          refine WL_op rfl ?_
          have hS1 : ∀ gw, SrcL ⟨Try.prog, gw, 108, 0, none⟩ ([(bx, .cells (wC p) 30 (0, 0))] ++ (T1 ++ (U ++ ([(gv, .cells curv 30 (0, 0))] ++ L)))) 2 22 (.slice (some ⟨bx, 0, none⟩) 1 1) 1 (wC p).toList := fun gw => srcW (w := wC p) (i := 0) rfl rfl rfl
          refine OW_append_buf rfl rfl rfl rfl rfl hT1 (hS1 _) (by decide) (by simp only [maxLen]; omega) (by omega) ?_
          intro v2' T2 hT2
          simp only [List.cons_append, List.nil_append]
          repeat (first | refine RQr ?_ | ((first | refine WL_Q ?_ | refine WL_Y ?_ | refine WR_Q rfl ?_ | refine WR_late rfl rfl rfl (OW_Q ?_) | refine WR_Y rfl ?_); (first | refine QW_of (Qt_sliceN rfl) ?_ | refine QW_of (Qt_ldX rfl (hn := by with_reducible assumption)) ?_)) | ((first | refine WL_op rfl ?_ | refine WL_yes (h := ?_) | refine WR_late rfl rfl rfl ?_ | refine WR_opG rfl rfl ?_ | refine WR_opYG rfl (h := ?_)); (first | (refine OE ?_; try intro _) | refine OW_callP rfl (hF := joinR_fn) (hk := ?_) | (refine OW_call rfl (hF := pair_fn (by omega) (VecW.pairs (hb.vec0 L))) (hk := ?_); rintro _ _ ⟨⟨i2, k2, is2, hP, rfl⟩, rfl⟩)); try refine SD ?_) | refine RC ?_ | refine RU ?_ | refine WC_draw_all (id := 5) 11 (.calm 0 <| .calm 1 <| .calm 2 <| .calm 3 <| .calm 4 <| .calm 5 <| .calm 6 <| .calm 7 <| .calm 8 <| .calm 9 <| .calm 10 <| .done) mixed (by kernel_rfl) ?_ | refine WC_draw_all (id := 9) 12 (.calm 0 <| .calm 1 <| .calm 2 <| .calm 3 <| .calm 4 <| .calm 5 <| .calm 6 <| .calm 7 <| .calm 8 <| .calm 9 <| .must 10 <| .calm 11 <| .must 12 <| .done) mixed (by kernel_rfl) ?_ | refine WC_draw_all (id := 10) 10 (.calm 0 <| .calm 1 <| .calm 2 <| .calm 3 <| .calm 4 <| .calm 5 <| .calm 6 <| .calm 7 <| .must 8 <| .calm 9 <| .done) mixed (by kernel_rfl) ?_ | refine WC_draw_all (id := 16) 17 (.calm 0 <| .calm 1 <| .calm 2 <| .calm 3 <| .calm 4 <| .calm 5 <| .calm 6 <| .calm 7 <| .calm 8 <| .calm 9 <| .calm 10 <| .calm 11 <| .calm 12 <| .calm 13 <| .calm 14 <| .calm 15 <| .calm 16 <| .done) mixed (by kernel_rfl) ?_ | refine WC_region (id := 0) ?_ | refine WC_region (id := 1) ?_ | refine WC_region (id := 2) ?_ | refine WC_region (id := 3) ?_ | refine WC_region (id := 6) ?_ | refine WC_region (id := 4) ?_ | refine WC_region (id := 7) ?_ | refine WC_region (id := 8) ?_ | refine WC_region (id := 11) ?_ | refine WC_region (id := 12) ?_ | refine WC_region (id := 13) ?_ | refine WC_region (id := 15) ?_ | refine WC_region (id := 17) ?_ | refine WC_region (id := 18) ?_ | refine WC_region (id := 19) ?_ | refine WC_region (id := 20) ?_ | refine WC_region (id := 14) ?_ | refine WC_region (id := 22) ?_)
          refine WC_wk [(11, v2'), (10, .int .i64 (placeW out p)), (9, .int .i64 i), (8, .slice au out.length capu), (3, .slice (some ⟨gv, ov, none⟩) own.length capv)] ⟨rfl, rfl, rfl, rfl, rfl, trivial⟩ ?_
          refine WC_dropL (T2 ++ (U ++ ([(gv, .cells curv 30 (0, 0))] ++ L))) (.cons _ (.refl _)) ?_
          have hpz : ((placeW out p : Nat) : Int).toNat = placeW out p := Int.toNat_natCast _
          have c0 : (0 : Int) ≤ ((placeW out p : Nat) : Int) := by omega
          have c1 : ((placeW out p : Nat) : Int) ≤ ((out.length : Nat) : Int) := by omega
          have hfl : flatW (placed out p) = flatW (out.take (placeW out p)) ++ (wC p).toList ++ flatW (out.drop (placeW out p)) := by unfold placed; rw [flatW_append, flatW_snoc]
          have hpn : (placed out p).length = placeW out p + 1 + (out.length - placeW out p) := by rw [placed_len]; omega
          have hend : ∀ v3 T3, Buf 30 2 v3 T3 (placeW out p + 1 + (out.length - placeW out p)) (flatW (out.take (placeW out p)) ++ (wC p).toList ++ flatW (out.drop (placeW out p))) → BufW v3 T3 ((own.take (i + 1)).foldl placed []) := fun v3 T3 h => by
            rw [htk]
            unfold BufW
            rw [hpn, hfl]
            exact h
          rcases BufW.cases_ hu with ⟨rfl, e2, rfl⟩ | ⟨gu, ou, capu', curu, e2, rfl, hou⟩
          · cases e2
            repeat (first | refine RQ ?_ | ((first | refine WL_Q ?_); (first | refine QW_of (Qt_sliceN rfl) ?_ | refine QW_of (Qt_ldX rfl (hn := by with_reducible assumption)) ?_)) | refine RC ?_ | refine WC_region (id := 21) ?_)
            refine WL_op rfl ?_
            show OW _ _ _ _ ⟨_, _, [] ++ (T2 ++ ([(gv, .cells curv 30 (0, 0))] ++ L))⟩
            have hS2 : ∀ gw, SrcL ⟨Try.prog, gw, 108, 0, none⟩ ([] ++ (T2 ++ ([(gv, .cells curv 30 (0, 0))] ++ L))) 2 22 (.slice none 0 0) 0 [] := fun gw => srcVec (Vec.nil 2 _) (by intro v hv; cases hv)
            refine OW_append_bufM (A := []) rfl rfl rfl rfl rfl hT2 (hS2 _) rfl (by simp only [maxLen]; omega) (by omega) ?_
            intro v3 T3 hT3
            simp only [List.nil_append]
            repeat (first | refine RQ ?_ | ((first | refine WL_Q ?_); (first | refine QW_of (Qt_sliceN rfl) ?_ | refine QW_of (Qt_ldX rfl (hn := by with_reducible assumption)) ?_)) | refine RC ?_ | refine WC_region (id := 21) ?_ | refine WC_region (id := 14) ?_)
            rw [w]
            exact ⟨_, _, by omega, ⟨i + 1, v3, T3, rfl, by omega, hend _ _ hT3, rfl⟩, ⟨rfl, rfl, rfl, trivial⟩, rfl, .refl _⟩
          · cases e2
            repeat (first | refine RQ ?_ | ((first | refine WL_Q ?_); (first | refine QW_of (Qt_sliceN rfl) ?_ | refine QW_of (Qt_ldX rfl (hn := by with_reducible assumption)) ?_)) | refine RC ?_ | refine WC_region (id := 21) ?_)
            refine WL_op rfl ?_
            show OW _ _ _ _ ⟨_, _, [] ++ (T2 ++ ([(gu, .cells curu 30 (0, 0))] ++ ([(gv, .cells curv 30 (0, 0))] ++ L)))⟩
            have hS2 : ∀ gw, SrcL ⟨Try.prog, gw, 108, 0, none⟩ ([] ++ (T2 ++ ([(gu, .cells curu 30 (0, 0))] ++ ([(gv, .cells curv 30 (0, 0))] ++ L)))) 2 22 (.slice (some ⟨gu, slOff capu (placeW out p) ou 2, none⟩) (out.length - placeW out p) (capu - placeW out p)) (out.length - placeW out p) (flatW (out.drop (placeW out p))) := fun gw => srcVec (hou.from T2.length (at_app1 T2 _ _) hpl) flatW_one
            refine OW_append_bufM (A := []) rfl rfl rfl rfl rfl hT2 (hS2 _) (by rw [flatW_len, List.length_drop]) (by simp only [maxLen]; omega) (by omega) ?_
            intro v3 T3 hT3
            simp only [List.nil_append]
            repeat (first | refine RQ ?_ | ((first | refine WL_Q ?_); (first | refine QW_of (Qt_sliceN rfl) ?_ | refine QW_of (Qt_ldX rfl (hn := by with_reducible assumption)) ?_)) | refine RC ?_ | refine WC_region (id := 21) ?_ | refine WC_region (id := 14) ?_)
            rw [w]
            exact ⟨_, _, by omega, ⟨i + 1, v3, T3, rfl, by omega, hend _ _ hT3, rfl⟩, ⟨rfl, rfl, rfl, trivial⟩, rfl, .append (.refl _) (List.sublist_append_right _ _)⟩
      · have d2 : decide ((i : Int) < ((own.length : Nat) : Int)) = false := decide_eq_false (by omega)
        obtain ⟨av, capv, rfl, hvle, hvm⟩ := Buf.val hb
        rw [List.take_of_length_le (by omega)] at hu
        repeat (first | refine RQ ?_ | ((first | refine WL_Q ?_); (first | refine QW_of (Qt_sliceN rfl) ?_ | refine QW_of (Qt_ldX rfl (hn := by with_reducible assumption)) ?_)) | refine RC ?_ | refine WC_region (id := 13) ?_ | refine WC_region (id := 22) ?_)
        exact ⟨rfl, _, U ++ L, Res1 rfl (resV_tmp rfl), .append (.refl _) (List.sublist_append_right _ _), own.foldl placed [], U, hG, by rw [placed_foldl_len]; simpa using hlen, hu, rfl⟩
end Go.Proofs.Ytkjljlmoihkijaa
namespace Go.Proofs.Ytkjljlmoihkijaa
open Go.RowKit
theorem Qt_eqlNilS {c : Cx} {s : List (Nat × Value)} {L : List (Nat × Obj)} {o : Oper} {t t' e : TypeId} [hu : TUnd c.P t (.slice e)] {x : Operand} {a : Option Addr} {n cap : Nat} (ho : o.op = .binOp .eql t x (.const (.slice none 0 0)) t') (hx : ev s x = some (.slice a n cap) := by exact rfl) : Qt c s L o (.bool a.isNone) :=
  Qt_of_run (by simp [ho]) (fun ρ hρ w _ => by
    have h2 := Lib.run_eql_slice_nil (P := c.P) w t e a n cap 0 0 hu.h
    have h3 := hρ (.const (.slice none 0 0)) _ rfl
    simp [execOp, ho, hρ x _ hx, h3, eqGuard, h2, Result.andThen])
attribute [local irreducible] Fn WC WL WR OW Qt YieldFn QW FnP FnD
theorem empty_fn {p : Int × Int} {L : List (Nat × Obj)} : Fn Try.prog 14 [.agg (wC p)] L (fun v L' => v = .bool (decide (p.1 ≥ p.2)) ∧ L' = L) := by
  refine Fn_enter Try.func14 rfl Try.ntmps14 rfl fun gw => ?_
  repeat (first | refine RQ ?_ | ((first | refine WL_Q ?_); (first | refine QW_of (Qt_eqlP rfl) ?_ | refine QW_of (Qt_eqlNilS rfl) ?_)) | (refine RE ?_; try intro _) | refine RC ?_ | refine WC_region ?_)
  exact ⟨rfl, _, _, Res1 rfl (resV_tmp rfl), .cons _ (.refl _), rfl, rfl⟩
theorem alikeW_fn {p q : Int × Int} {L : List (Nat × Obj)} : Fn Try.prog 19 [.agg (wC p), .agg (wC q)] L (fun v L' => v = .bool (p.1 == q.1 && p.2 == q.2) ∧ L' = L) := by
  refine Fn_enter Try.func19 rfl Try.ntmps19 rfl fun gw => ?_
  repeat (first | refine RQ ?_ | ((first | refine WL_Q ?_); (first | refine QW_of (Qt_eqlP rfl) ?_ | refine QW_of (Qt_eqlNilS rfl) ?_)) | (refine RE ?_; try intro _) | refine RC ?_ | refine WC_region ?_)
  exact ⟨rfl, _, _, Res1 rfl (resV_tmp rfl), .cons _ (.cons _ (.refl _)), rfl, rfl⟩
set_option maxHeartbeats 2000000 in
theorem cloneW_fn {v : Value} {ws : List (Int × Int)} (hn : ws.length ≤ 100000) {L : List (Nat × Obj)} (hv : VecW L v ws) : Fn Try.prog 13 [v] L (fun r L' => ∃ T, BufW r T ws ∧ L' = T ++ L) := by
  obtain ⟨_, a1, cap1, rfl, hle, hm, hor⟩ := id hv
  refine Fn_enter Try.func13 rfl Try.ntmps13 rfl fun gw => ?_
  cases a1 with
  | none =>
    have hnil : ws = [] := by
      rcases hor with h | ⟨_, _, _, _, _, _, h, _⟩
      · exact List.eq_nil_of_length_eq_zero h
      · cases h
    repeat (first | refine RQ ?_ | ((first | refine WL_Q ?_); (first | refine QW_of (Qt_eqlP rfl) ?_ | refine QW_of (Qt_eqlNilS rfl) ?_)) | refine RC ?_ | refine WC_region (id := 0) ?_ | refine WC_region (id := 1) ?_ | refine WC_region (id := 2) ?_)
    exact ⟨rfl, _, _, Res1 rfl (resV_tmp rfl), .refl _, [], .inl ⟨by rw [hnil]; rfl, by rw [hnil]; rfl, rfl, rfl⟩, rfl⟩
  | some a =>
    have dS : (some a).isNone = false := rfl
    repeat (first | refine RQ ?_ | ((first | refine WL_Q ?_); (first | refine QW_of (Qt_eqlP rfl) ?_ | refine QW_of (Qt_eqlNilS rfl) ?_)) | (refine RE ?_; try intro _) | refine RC ?_ | refine WC_region (id := 0) ?_ | refine WC_region (id := 1) ?_ | refine WC_region (id := 3) ?_)
    refine WL_op rfl (OW_append_own rfl rfl rfl rfl rfl 0 rfl (xs := []) (n := 0) (cap := 0) ⟨rfl, Nat.le_refl _, by decide, Nat.le_refl _, fun j x hj => by simp at hj⟩ (srcVec (Vec.cons _ hv) flatW_one) (by simp only [maxLen]; omega) (by omega) ?_)
    intro b1 off1 cap2 cur1 hown
    simp only [List.set_cons_zero]
    repeat (first | refine RQ ?_ | ((first | refine WL_Q ?_); (first | refine QW_of (Qt_eqlP rfl) ?_ | refine QW_of (Qt_eqlNilS rfl) ?_)) | (refine RE ?_; try intro _) | refine RC ?_ | refine WC_region (id := 3) ?_)
    have h0 : 0 + ws.length = ws.length := Nat.zero_add _
    rw [h0]
    rw [h0, List.nil_append] at hown
    exact ⟨rfl, _, _, Res1 rfl (resV_tmp rfl), .refl _, _, .inr ⟨b1, off1, cap2, cur1, rfl, rfl, hown⟩, rfl⟩
end Go.Proofs.Ytkjljlmoihkijaa
namespace Go.Proofs.Ytkjljlmoihkijaa
open Go.RowKit
theorem OW_clear {c : Cx} {o : Oper} {Kn : St → Prop} {K : Exit → St → Prop} {s : List (Nat × Value)} {D : List Deferred} {L : List (Nat × Obj)} {t E : TypeId} {zv : Value} {x : Operand} {g off n cap : Nat} {cs : Array Value} {E' : TypeId} [hu : TUnd c.P t (.slice E)] [hz : TZero c.P E zv]
    (ho : o.op = .call { callee := .builtin .clear, args := #[x], argTypes := #[t] }) (hdst : o.dst = none) (hx : ev s x = some (.slice (some ⟨g, off, none⟩) n cap)) (i : Nat) (hi : L[i]? = some (g, .cells cs E' (0, 0))) {sz : Nat} (hzs : zv.cells.size = sz) (h1 : ∀ u ∈ zv.cells, u.oneCell' = true) (hfit : n = 0 ∨ off + n * sz ≤ cs.size)
    (hk : ∀ cs' : Array Value, cs'.size = cs.size → (∀ k, k < off ∨ n = 0 → cs'[k]? = cs[k]?) → Kn ⟨s, D, L.set i (g, .cells cs' E' (0, 0))⟩) : OW c o Kn K ⟨s, D, L⟩ := fun a w ha => by
  refine ⟨fun _ _ => trivial, ?_⟩
  rcases Nat.eq_zero_or_pos n with rfl | hn
  · have hr : (execOp a.eval o).run c.P w = .ok (.value (.tuple #[])) w := by
      simp [execOp, ho, resolve, invoke, builtin, Builtin.clear_, ha.ev hx, run_underlying hu.h]
    rw [Oper.semAt_eq _ _ _ (by rw [ho]; intro cc h; cases h), hr]
    have hself : L.set i (g, .cells cs E' (0, 0)) = L := by
      apply List.ext_getElem?
      intro j
      rw [List.getElem?_set]
      by_cases e : i = j
      · subst e
        rw [if_pos rfl, if_pos (List.getElem?_eq_some_iff.1 hi).1, hi]
      · rw [if_neg e]
    have hk' := hk cs rfl (fun _ _ => rfl)
    rw [hself] at hk'
    exact ⟨_, by rw [hdst]; exact ha, hk'⟩
  · have hf : off + n * sz ≤ cs.size := hfit.resolve_left (by omega)
    have hsz : (Builtin.zeroCells zv.cells n).size = n * sz := by rw [size_zeroCells, hzs]
    have hones : ∀ u ∈ (Builtin.zeroCells zv.cells n).toList, u.oneCell' = true := fun u hu => by
      simp only [Builtin.zeroCells, Array.toList_map, List.mem_map] at hu
      obtain ⟨k, hk, rfl⟩ := hu
      have hk' : k < n * zv.cells.size := by simpa using hk
      have hpos : 0 < zv.cells.size := by
        rcases Nat.eq_zero_or_pos zv.cells.size with e | e
        · rw [e] at hk'; simp at hk'
        · exact e
      have hlt : k % zv.cells.size < zv.cells.size := Nat.mod_lt _ hpos
      rw [getElem!_pos zv.cells (k % zv.cells.size) hlt]
      exact h1 _ (Array.getElem_mem hlt)
    have hst := run_storeCells_at (P := c.P) g off E' (Builtin.zeroCells zv.cells n).toList 0 cs w (ha.mem.at_ hi) (by rw [Array.length_toList, hsz]; omega) hones
    simp only [Nat.add_zero, Array.length_toList] at hst
    have hr : (execOp a.eval o).run c.P w = .ok (.value (.tuple #[])) (w.setRow g (putR cs off (Builtin.zeroCells zv.cells n))) := by
      obtain ⟨m, rfl⟩ : ∃ m, n = m + 1 := ⟨n - 1, by omega⟩
      simp [execOp, ho, resolve, invoke, builtin, Builtin.clear_, ha.ev hx, run_underlying hu.h, hz.h, hst, putR]
    rw [Oper.semAt_eq _ _ _ (by rw [ho]; intro cc h; cases h), hr]
    refine ⟨_, ?_, hk (putR cs off (Builtin.zeroCells zv.cells n)) (putR_size _ _ _ (by rw [hsz]; exact hf)) (fun k hk => putR_get_out _ _ _ _ (by rw [hsz]; exact hf) (.inl (hk.resolve_right (by omega))))⟩
    rw [hdst]
    exact ha.mem' (ha.mem.setRow hi _)
end Go.Proofs.Ytkjljlmoihkijaa
namespace Go.Proofs.Ytkjljlmoihkijaa
open Go.RowKit
def FirstE (ws : List (Int × Int)) (i : Int) : Prop := (i = -1 ∧ ∀ p ∈ ws, p.1 < p.2) ∨ ∃ k : Nat, i = k ∧ k < ws.length ∧ (∀ (a : Nat) q, a < k → ws[a]? = some q → q.1 < q.2) ∧ ∃ q, ws[k]? = some q ∧ ¬ q.1 < q.2
attribute [local irreducible] Fn WC WL WR OW Qt YieldFn QW FnP FnD
set_option maxHeartbeats 2000000 in
theorem indexF_fn {v : Value} {ws : List (Int × Int)} (hn : ws.length ≤ 100000) {L : List (Nat × Obj)} (hv : VecW L v ws) : Fn Try.prog 24 [v, .func (.func 14) #[] #[]] L (fun r L' => (∃ i, FirstE ws i ∧ r = .int .i64 i) ∧ L' = L) := by
  obtain ⟨a1, cap1, rfl, h1⟩ := hv.pairs
  refine Fn_enter Try.func24 rfl Try.ntmps24 rfl fun gw => ?_
  repeat (first | refine RQ ?_ | ((first | refine WL_Q ?_); (first | refine QW_of (Qt_ldX rfl (hn := by with_reducible assumption)) ?_)) | refine RC ?_ | refine WC_region (id := 0) ?_ | refine WC_region (id := 1) ?_)
  refine WC_wk [(8, .int .i64 0), (7, .int .i64 (ws.length : Nat)), (0, .slice a1 ws.length cap1), (1, .func (.func 14) #[] #[])] ⟨rfl, rfl, rfl, rfl, trivial⟩ ?_
  refine WC_loop (fun m σ => ∃ i : Nat, m = ws.length - i ∧ i ≤ ws.length ∧ (∀ (a : Nat) q, a < i → ws[a]? = some q → q.1 < q.2) ∧ σ = ⟨[(8, .int .i64 i), (7, .int .i64 (ws.length : Nat)), (0, .slice a1 ws.length cap1), (1, .func (.func 14) #[] #[])], [], L⟩) ws.length ⟨0, by omega, by omega, fun a q h => by omega, rfl⟩ ?_
  rintro m σ ⟨i, rfl, hi, hB, rfl⟩
  by_cases hlt : i < ws.length
  · have d2 : decide ((i : Int) < ((ws.length : Nat) : Int)) = true := decide_eq_true (by omega)
    obtain ⟨p, hp⟩ : ∃ p, ws[i]? = some p := ⟨_, List.getElem?_eq_getElem hlt⟩
    have hne : ws ≠ [] := by intro e; rw [e] at hlt; simp at hlt
    obtain ⟨g1, o1, cu1, E1, fr1, i1, rfl, hi1, hc1⟩ := h1.resolve_left hne
    obtain ⟨x1, z1⟩ := hc1 i p hp
    have p0 : (0 : Int) ≤ (i : Int) := by omega
    have p1 : ((i : Nat) : Int) < ((ws.length : Nat) : Int) := by omega
    have y1 : o1 + ((i : Nat) : Int).toNat * 2 + 2 ≤ cu1.size := by rw [Int.toNat_natCast]; exact z1
    have v1 : cu1.extract (o1 + ((i : Nat) : Int).toNat * 2) (o1 + ((i : Nat) : Int).toNat * 2 + 2) = wC p := by rw [Int.toNat_natCast]; exact x1
    have w : IntKind.i64.wrap ((i : Int) + 1) = ((i + 1 : Nat) : Int) := by rw [wI64 (by omega) (by omega)]; omega
    repeat (first | refine RQ ?_ | ((first | refine WL_Q ?_); (first | refine QW_of (Qt_ldX rfl (hn := by with_reducible assumption)) ?_)) | refine RC ?_ | refine WC_region (id := 2) ?_ | refine WC_region (id := 3) ?_ | refine WC_region (id := 4) ?_)
    rw [v1]
    refine WL_op rfl (OW_callv rfl rfl rfl rfl rfl (empty_fn (p := p)) ?_)
    rintro _ _ ⟨rfl, rfl⟩
    by_cases hpe : p.1 ≥ p.2
    · have d3 : decide (p.1 ≥ p.2) = true := decide_eq_true hpe
      repeat (first | refine RQ ?_ | ((first | refine WL_Q ?_); (first | refine QW_of (Qt_ldX rfl (hn := by with_reducible assumption)) ?_)) | refine RC ?_ | refine WC_region (id := 4) ?_ | refine WC_region (id := 5) ?_)
      exact ⟨rfl, _, _, Res1 rfl (resV_tmp rfl), .refl _, ⟨_, .inr ⟨i, rfl, hlt, hB, p, hp, by omega⟩, rfl⟩, rfl⟩
    · have d3 : decide (p.1 ≥ p.2) = false := decide_eq_false hpe
      repeat (first | refine RQ ?_ | ((first | refine WL_Q ?_); (first | refine QW_of (Qt_ldX rfl (hn := by with_reducible assumption)) ?_)) | refine RC ?_ | refine WC_region (id := 4) ?_ | refine WC_region (id := 6) ?_)
      rw [w]
      refine ⟨_, _, by omega, ⟨i + 1, rfl, by omega, fun a q ha hq => ?_, rfl⟩, ⟨rfl, rfl, rfl, rfl, trivial⟩, rfl, .refl _⟩
      rcases Nat.lt_or_ge a i with g | g
      · exact hB a q g hq
      · obtain rfl : a = i := by omega
        rw [hp] at hq
        cases hq
        omega
  · have d2 : decide ((i : Int) < ((ws.length : Nat) : Int)) = false := decide_eq_false (by omega)
    repeat (first | refine RQ ?_ | ((first | refine WL_Q ?_); (first | refine QW_of (Qt_ldX rfl (hn := by with_reducible assumption)) ?_)) | refine RC ?_ | refine WC_region (id := 2) ?_ | refine WC_region (id := 7) ?_)
    refine ⟨rfl, _, _, Res1 rfl (resV_tmp rfl), .refl _, ⟨_, .inl ⟨rfl, fun p hp => ?_⟩, rfl⟩, rfl⟩
    obtain ⟨a, ha⟩ := List.mem_iff_getElem?.1 hp
    exact hB a p (Nat.lt_of_lt_of_le (List.getElem?_eq_some_iff.1 ha).1 (by omega)) ha
abbrev fullW (p : Int × Int) : Bool := decide (p.1 < p.2)
set_option maxHeartbeats 4000000 in
theorem deleteF_fn {v : Value} {T : List (Nat × Obj)} {ws : List (Int × Int)} (hn : ws.length ≤ 100000) (hb : BufW v T ws) {L : List (Nat × Obj)} : Fn Try.prog 12 [v, .func (.func 14) #[] #[]] (T ++ L) (fun r L' => ∃ T', BufW r T' (ws.filter fullW) ∧ L' = T' ++ L) := by
  refine Fn_enter Try.func12 rfl Try.ntmps12 rfl fun gw => ?_
  repeat (first | refine RQ ?_ | ((first | refine WL_Q ?_); (first | refine QW_of (Qt_ldX rfl (hn := by with_reducible assumption)) ?_)) | ((first | refine WL_op rfl ?_); (first | (refine OW_call rfl (hF := indexF_fn hn (hb.vec0 L)) (hk := ?_); rintro _ _ ⟨⟨i0, hF, rfl⟩, rfl⟩))) | refine RC ?_ | refine WC_region (id := 0) ?_ | refine WC_region (id := 1) ?_ | refine WC_region (id := 2) ?_)
  rcases hF with ⟨rfl, hall⟩ | ⟨k, rfl, hk, hB, q, hq, hqe⟩
  · have dI : ((-1 : Int) == -1) = true := rfl
    repeat (first | refine RQ ?_ | ((first | refine WL_Q ?_); (first | refine QW_of (Qt_ldX rfl (hn := by with_reducible assumption)) ?_)) | refine RC ?_ | refine WC_region (id := 2) ?_ | refine WC_region (id := 3) ?_)
    refine ⟨rfl, _, T ++ L, Res1 rfl (resV_tmp rfl), .refl _, T, ?_, rfl⟩
    rw [List.filter_eq_self.2 (fun p hp => by simpa [fullW] using hall p hp)]
    exact hb
  obtain ⟨g, off, cap, cur, rfl, rfl, ho⟩ := (BufW.cases_ hb).resolve_left (fun h => by rw [h.1] at hk; simp at hk)
  have dI : (((k : Nat) : Int) == -1) = false := by simp
  have wk : IntKind.i64.wrap ((k : Int) + 1) = ((k + 1 : Nat) : Int) := by rw [wI64 (by omega) (by omega)]; omega
  repeat (first | refine RQ ?_ | ((first | refine WL_Q ?_); (first | refine QW_of (Qt_ldX rfl (hn := by with_reducible assumption)) ?_)) | refine RC ?_ | refine WC_region (id := 2) ?_ | refine WC_region (id := 4) ?_)
  rw [wk]
  have hinit : ws.take k = (ws.take (k + 1)).filter fullW := by
    rw [List.take_add_one, hq, List.filter_append]
    simp only [Option.toList_some]
    rw [List.filter_cons_of_neg (by simpa [fullW] using hqe), List.filter_nil, List.append_nil, List.filter_eq_self.2]
    intro p hp
    obtain ⟨a, ha⟩ := List.mem_iff_getElem?.1 hp
    rw [List.getElem?_take] at ha
    split at ha
    · rename_i hak
      simpa [fullW] using hB a p hak ha
    · cases ha
  refine WC_wk [(6, .int .i64 ((k + 1 : Nat) : Int)), (5, .int .i64 k), (0, .slice (some ⟨g, off, none⟩) ws.length cap), (1, .func (.func 14) #[] #[])] ⟨rfl, rfl, rfl, rfl, trivial⟩ ?_
  refine WC_loop (fun m σ => ∃ (i j : Nat) (row : List (Int × Int)) (cur' : Array Value), m = ws.length - j ∧ i < j ∧ j ≤ ws.length ∧ row.length = ws.length ∧ row.take i = (ws.take j).filter fullW ∧ (∀ a, j ≤ a → row[a]? = ws[a]?) ∧ OwnW cur' off cap row ∧ σ = ⟨[(6, .int .i64 j), (5, .int .i64 i), (0, .slice (some ⟨g, off, none⟩) ws.length cap), (1, .func (.func 14) #[] #[])], [], (g, .cells cur' 30 (0, 0)) :: L⟩) (ws.length - (k + 1)) ⟨k, k + 1, ws, cur, rfl, by omega, by omega, rfl, hinit, fun _ _ => rfl, ho, rfl⟩ ?_
  rintro m σ ⟨i, j, row, cur', rfl, hij, hj, hrl, hpre, hrest, hown, rfl⟩
  by_cases hlt : j < ws.length
  · have d2 : decide ((j : Int) < ((ws.length : Nat) : Int)) = true := decide_eq_true (by omega)
    obtain ⟨p, hp⟩ : ∃ p, ws[j]? = some p := ⟨_, List.getElem?_eq_getElem hlt⟩
    have hpr : row[j]? = some p := (hrest j (Nat.le_refl _)).trans hp
    have p0 : (0 : Int) ≤ (j : Int) := by omega
    have p1 : ((j : Nat) : Int) < ((ws.length : Nat) : Int) := by omega
    have y1 : off + ((j : Nat) : Int).toNat * 2 + 2 ≤ cur'.size := by rw [Int.toNat_natCast]; exact hown.lt (by omega)
    have v1 : cur'.extract (off + ((j : Nat) : Int).toNat * 2) (off + ((j : Nat) : Int).toNat * 2 + 2) = wC p := by rw [Int.toNat_natCast]; exact hown.cell hpr
    have q0 : (0 : Int) ≤ (i : Int) := by omega
    have q1 : ((i : Nat) : Int) < ((ws.length : Nat) : Int) := by omega
    have y2 : off + ((i : Nat) : Int).toNat * 2 + 2 ≤ cur'.size := by rw [Int.toNat_natCast]; exact hown.lt (by omega)
    have wj : IntKind.i64.wrap ((j : Int) + 1) = ((j + 1 : Nat) : Int) := by rw [wI64 (by omega) (by omega)]; omega
    have wi : IntKind.i64.wrap ((i : Int) + 1) = ((i + 1 : Nat) : Int) := by rw [wI64 (by omega) (by omega)]; omega
    have htk : ws.take (j + 1) = ws.take j ++ [p] := by rw [List.take_add_one, hp]; rfl
    repeat (first | refine RQ ?_ | ((first | refine WL_Q ?_); (first | refine QW_of (Qt_ldX rfl (hn := by with_reducible assumption)) ?_)) | (refine RE ?_; try intro _) | refine RC ?_ | refine WC_region (id := 5) ?_ | refine WC_region (id := 7) ?_)
    rw [v1]
    repeat (first | refine RQ ?_ | ((first | refine WL_Q ?_); (first | refine QW_of (Qt_ldX rfl (hn := by with_reducible assumption)) ?_)) | (refine RE ?_; try intro _) | refine RC ?_ | refine WC_region (id := 7) ?_ | refine WC_region (id := 8) ?_)
    refine WL_op rfl (OW_callv rfl rfl rfl rfl rfl (empty_fn (p := p)) ?_)
    rintro _ _ ⟨rfl, rfl⟩
    by_cases hpe : p.1 < p.2
    · have d3 : (!decide (p.1 ≥ p.2)) = true := by simp; omega
      repeat (first | refine RQ ?_ | ((first | refine WL_Q ?_); (first | refine QW_of (Qt_ldX rfl (hn := by with_reducible assumption)) ?_)) | (refine RE ?_; try intro _) | refine RC ?_ | refine WC_region (id := 8) ?_ | refine WC_region (id := 9) ?_ | refine WC_region (id := 10) ?_ | refine WC_region (id := 6) ?_)
      rw [wi, wj]
      have hil : i < row.length := by omega
      have hput : OwnW (putR cur' (off + ((i : Nat) : Int).toNat * 2) (wC p)) off cap (row.set i p) := hown.put hil p
      refine ⟨_, _, by omega, ⟨i + 1, j + 1, row.set i p, _, rfl, by omega, by omega, by rw [List.length_set]; exact hrl, ?_, fun a ha => ?_, hput, rfl⟩, ⟨rfl, rfl, rfl, rfl, trivial⟩, rfl, .cons _ (.refl _)⟩
      · rw [htk, List.filter_append, List.filter_cons_of_pos (by simpa [fullW] using hpe), List.filter_nil, ← hpre, List.take_add_one, List.getElem?_set_self hil, List.take_set_of_le (Nat.le_refl _)]
        rfl
      · rw [List.getElem?_set_ne (by omega)]
        exact hrest a (by omega)
    · have d3 : (!decide (p.1 ≥ p.2)) = false := by simp; omega
      repeat (first | refine RQ ?_ | ((first | refine WL_Q ?_); (first | refine QW_of (Qt_ldX rfl (hn := by with_reducible assumption)) ?_)) | refine RC ?_ | refine WC_region (id := 8) ?_ | refine WC_region (id := 6) ?_)
      rw [wj]
      refine ⟨_, _, by omega, ⟨i, j + 1, row, cur', rfl, by omega, by omega, hrl, ?_, fun a ha => hrest a (by omega), hown, rfl⟩, ⟨rfl, rfl, rfl, rfl, trivial⟩, rfl, .cons _ (.refl _)⟩
      rw [htk, List.filter_append, List.filter_cons_of_neg (by simpa [fullW] using hpe), List.filter_nil, List.append_nil]
      exact hpre
  · have d2 : decide ((j : Int) < ((ws.length : Nat) : Int)) = false := decide_eq_false (by omega)
    have hcap := Own.le ho
    have i0 : (0 : Int) ≤ ((i : Nat) : Int) := by omega
    have i1 : ((i : Nat) : Int) ≤ ((cap : Nat) : Int) := by omega
    obtain rfl : j = ws.length := by omega
    have hfl : (ws.filter fullW) = row.take i := by rw [hpre, List.take_of_length_le (Nat.le_refl _)]
    have hfz := hown.drop (k := i) (by omega)
    repeat (first | refine RQ ?_ | ((first | refine WL_Q ?_); (first | refine QW_of (Qt_ldX rfl (hn := by with_reducible assumption)) ?_)) | refine RC ?_ | refine WC_region (id := 5) ?_ | refine WC_region (id := 11) ?_)
    refine WL_op rfl (OW_clear (sz := 2) rfl rfl rfl 0 rfl rfl (Array.all_eq_true_iff_forall_mem.1 (by kernel_rfl)) ?_ ?_)
    · rcases Nat.lt_or_ge i ws.length with g1 | g1
      · right
        have := Own.fit hown
        have e : slOff cap ((i : Nat) : Int).toNat off 2 = off + i * 2 := by rw [Int.toNat_natCast]; unfold slOff; rw [if_neg (by omega)]
        rw [e, Int.toNat_natCast]
        have : (ws.length - i) * 2 + i * 2 = ws.length * 2 := by omega
        have : ws.length * 2 ≤ cap * 2 := Nat.mul_le_mul_right 2 hcap
        omega
      · left
        rw [Int.toNat_natCast]; omega
    intro cs' hcs hkeep
    simp only [List.set_cons_zero]
    repeat (first | refine RQ ?_ | ((first | refine WL_Q ?_); (first | refine QW_of (Qt_ldX rfl (hn := by with_reducible assumption)) ?_)) | refine RC ?_ | refine WC_region (id := 12) ?_)
    have hti : (row.take i).length = i := by rw [List.length_take]; omega
    have hfin : OwnW cs' off cap (row.take i) := by
      have ht := hown.take (k := i) (cap' := cap) (by omega) (by omega) (Nat.le_refl _)
      refine OwnW.of (by rw [hti]; omega) (Own.max ht) (by rw [hcs]; exact Own.fit ht) fun a p hp => ?_
      obtain ⟨c0, c1⟩ := ht.at_ hp
      have ha : a < i := by rw [← hti]; exact (List.getElem?_eq_some_iff.1 hp).1
      have hside : ∀ x, x < off + i * 2 → x < slOff cap ((i : Nat) : Int).toNat off 2 ∨ ws.length - ((i : Nat) : Int).toNat = 0 := fun x hx => by
        rw [Int.toNat_natCast]
        rcases Nat.lt_or_ge i ws.length with g1 | g1
        · left; unfold slOff; rw [if_neg (by omega)]; exact hx
        · right; omega
      rw [hkeep _ (hside _ (by omega)), hkeep _ (hside _ (by omega))]
      exact ⟨c0, c1⟩
    rw [hfl]
    exact ⟨rfl, _, _, Res1 rfl (resV_tmp rfl), .refl _, _, .inr ⟨g, off, cap, cs', congrArg (fun n => Value.slice (some ⟨g, off, none⟩) n cap) hti.symm, rfl, hfin⟩, rfl⟩
end Go.Proofs.Ytkjljlmoihkijaa
namespace Go.Proofs.Ytkjljlmoihkijaa
open Go.RowKit
def Same' (a b : List (Int × Int)) : Prop := a.Sublist b ∧ ∀ p, p ∈ b → p ∈ a
theorem Same'.same {a b : List (Int × Int)} {p : Int × Int} (h : Same' a b) (hp : p ∈ b) : Same' a (b ++ [p]) :=
  ⟨h.1.trans (List.sublist_append_left _ _), fun q hq => by
    rcases List.mem_append.1 hq with g | g
    · exact h.2 q g
    · obtain rfl : q = p := by simpa using g
      exact h.2 q hp⟩
theorem Same'.more {a b : List (Int × Int)} {p : Int × Int} (h : Same' a b) : Same' (a ++ [p]) (b ++ [p]) :=
  ⟨h.1.append (.refl _), fun q hq => by
    rcases List.mem_append.1 hq with g | g
    · exact List.mem_append_left _ (h.2 q g)
    · exact List.mem_append_right _ g⟩
attribute [local irreducible] Fn WC WL WR OW Qt YieldFn QW FnP FnD
set_option maxHeartbeats 4000000 in
theorem compactF_fn {v : Value} {T : List (Nat × Obj)} {ws : List (Int × Int)} (hn : ws.length ≤ 100000) (hb : BufW v T ws) {L : List (Nat × Obj)} : Fn Try.prog 18 [v, .func (.func 19) #[] #[]] (T ++ L) (fun r L' => ∃ T' ws', Same' ws' ws ∧ BufW r T' ws' ∧ L' = T' ++ L) := by
  refine Fn_enter Try.func18 rfl Try.ntmps18 rfl fun gw => ?_
  by_cases h2 : ws.length < 2
  · obtain ⟨av, capv, rfl, hle, hm⟩ := Buf.val hb
    have d0 : decide (((ws.length : Nat) : Int) < 2) = true := decide_eq_true (by omega)
    repeat (first | refine RQ ?_ | ((first | refine WL_Q ?_); (first | refine QW_of (Qt_ldX rfl (hn := by with_reducible assumption)) ?_)) | refine RC ?_ | refine WC_region (id := 0) ?_ | refine WC_region (id := 1) ?_ | refine WC_region (id := 2) ?_)
    exact ⟨rfl, _, T ++ L, Res1 rfl (resV_tmp rfl), .refl _, T, ws, ⟨.refl _, fun _ h => h⟩, hb, rfl⟩
  obtain ⟨g, off, cap, cur, rfl, rfl, ho⟩ := (BufW.cases_ hb).resolve_left (fun h => by rw [h.1] at h2; simp at h2)
  have d0 : decide (((ws.length : Nat) : Int) < 2) = false := decide_eq_false (by omega)
  repeat (first | refine RQ ?_ | ((first | refine WL_Q ?_); (first | refine QW_of (Qt_ldX rfl (hn := by with_reducible assumption)) ?_)) | refine RC ?_ | refine WC_region (id := 0) ?_ | refine WC_region (id := 1) ?_ | refine WC_region (id := 3) ?_)
  refine WC_wk [(5, .int .i64 1), (0, .slice (some ⟨g, off, none⟩) ws.length cap), (1, .func (.func 19) #[] #[])] ⟨rfl, rfl, rfl, trivial⟩ ?_
  refine WC_loop (fun m σ => ∃ k : Nat, m = ws.length - k ∧ 1 ≤ k ∧ k ≤ ws.length ∧ σ = ⟨[(5, .int .i64 k), (0, .slice (some ⟨g, off, none⟩) ws.length cap), (1, .func (.func 19) #[] #[])], [], (g, .cells cur 30 (0, 0)) :: L⟩) (ws.length - 1) ⟨1, rfl, by omega, by omega, rfl⟩ ?_
  rintro m σ ⟨k, rfl, hk1, hkn, rfl⟩
  by_cases hlt : k < ws.length
  · have d2 : decide ((k : Int) < ((ws.length : Nat) : Int)) = true := decide_eq_true (by omega)
    obtain ⟨p, hp⟩ : ∃ p, ws[k]? = some p := ⟨_, List.getElem?_eq_getElem hlt⟩
    obtain ⟨q, hq⟩ : ∃ q, ws[k - 1]? = some q := ⟨_, List.getElem?_eq_getElem (by omega)⟩
    have w1 : IntKind.i64.wrap ((k : Int) - 1) = ((k - 1 : Nat) : Int) := by rw [wI64 (by omega) (by omega)]; omega
    have p0 : (0 : Int) ≤ (k : Int) := by omega
    have p1 : ((k : Nat) : Int) < ((ws.length : Nat) : Int) := by omega
    have y1 : off + ((k : Nat) : Int).toNat * 2 + 2 ≤ cur.size := by rw [Int.toNat_natCast]; exact ho.lt hlt
    have v1 : cur.extract (off + ((k : Nat) : Int).toNat * 2) (off + ((k : Nat) : Int).toNat * 2 + 2) = wC p := by rw [Int.toNat_natCast]; exact ho.cell hp
    have q0 : (0 : Int) ≤ IntKind.i64.wrap ((k : Int) - 1) := by rw [w1]; omega
    have q1 : IntKind.i64.wrap ((k : Int) - 1) < ((ws.length : Nat) : Int) := by rw [w1]; omega
    have y2 : off + (IntKind.i64.wrap ((k : Int) - 1)).toNat * 2 + 2 ≤ cur.size := by rw [w1, Int.toNat_natCast]; exact ho.lt (by omega)
    have v2 : cur.extract (off + (IntKind.i64.wrap ((k : Int) - 1)).toNat * 2) (off + (IntKind.i64.wrap ((k : Int) - 1)).toNat * 2 + 2) = wC q := by rw [w1, Int.toNat_natCast]; exact ho.cell hq
    have wk : IntKind.i64.wrap ((k : Int) + 1) = ((k + 1 : Nat) : Int) := by rw [wI64 (by omega) (by omega)]; omega
    repeat (first | refine RQr ?_ | ((first | refine WL_Q ?_ | refine WR_Q rfl ?_ | refine WR_late rfl rfl rfl (OW_Q ?_)); (first | refine QW_of (Qt_ldX rfl (hn := by with_reducible assumption)) ?_)) | refine RC ?_ | refine RU ?_ | refine WC_draw_all (id := 6) 11 (.calm 0 <| .calm 1 <| .calm 2 <| .calm 3 <| .calm 4 <| .calm 5 <| .calm 6 <| .calm 7 <| .calm 8 <| .calm 9 <| .must 10 <| .done) mixed (by kernel_rfl) ?_ | refine WC_region (id := 4) ?_)
    rw [v1, v2]
    refine WR_op rfl rfl (OW_callv rfl rfl rfl rfl rfl (alikeW_fn (p := p) (q := q)) ?_)
    rintro _ _ ⟨rfl, rfl⟩
    refine ⟨fun _ h => h, ?_⟩
    by_cases hpq : p = q
    · have d3 : (p.1 == q.1 && p.2 == q.2) = true := by rw [hpq]; simp
      have hcap := Own.le ho
      have hke : ((k : Nat) : Int) ≤ ((ws.length : Nat) : Int) := by omega
      repeat (first | refine RQr ?_ | ((first | refine WL_Q ?_ | refine WR_Q rfl ?_ | refine WR_late rfl rfl rfl (OW_Q ?_)); (first | refine QW_of (Qt_ldX rfl (hn := by with_reducible assumption)) ?_)) | refine RC ?_ | refine RU ?_ | refine WC_draw_all (id := 6) 11 (.calm 0 <| .calm 1 <| .calm 2 <| .calm 3 <| .calm 4 <| .calm 5 <| .calm 6 <| .calm 7 <| .calm 8 <| .calm 9 <| .must 10 <| .done) mixed (by kernel_rfl) ?_ | refine WC_region (id := 7) ?_ | refine WC_region (id := 8) ?_)
      have hsl : slOff cap ((k : Nat) : Int).toNat off 2 = off + k * 2 := by rw [Int.toNat_natCast]; unfold slOff; rw [if_neg (by omega)]
      rw [hsl]
      refine WC_wk [(7, .int .i64 1), (6, .slice (some ⟨g, off + k * 2, none⟩) (ws.length - k) (cap - k)), (5, .int .i64 k), (0, .slice (some ⟨g, off, none⟩) ws.length cap), (1, .func (.func 19) #[] #[])] ⟨rfl, rfl, rfl, rfl, rfl, trivial⟩ ?_
      have hini : Same' (ws.take k) (ws.take (k + 1)) := by
        rw [List.take_add_one, hp]
        refine Same'.same (p := p) ⟨.refl _, fun _ h => h⟩ ?_
        rw [hpq]
        exact List.mem_iff_getElem?.2 ⟨k - 1, by rw [List.getElem?_take, if_pos (by omega)]; exact hq⟩
      refine WC_loop (fun m σ => ∃ (j i : Nat) (row : List (Int × Int)) (cur' : Array Value), m = (ws.length - k) - j ∧ 1 ≤ j ∧ j ≤ ws.length - k ∧ i < k + j ∧ row.length = ws.length ∧ Same' (row.take i) (ws.take (k + j)) ∧ (∀ a, k + j - 1 ≤ a → row[a]? = ws[a]?) ∧ OwnW cur' off cap row ∧ σ = ⟨[(7, .int .i64 j), (6, .slice (some ⟨g, off + k * 2, none⟩) (ws.length - k) (cap - k)), (5, .int .i64 i), (0, .slice (some ⟨g, off, none⟩) ws.length cap), (1, .func (.func 19) #[] #[])], [], (g, .cells cur' 30 (0, 0)) :: L⟩) ((ws.length - k) - 1) ⟨1, k, ws, cur, rfl, by omega, by omega, by omega, rfl, hini, fun _ _ => rfl, ho, rfl⟩ ?_
      clear v1 v2 q0 q1 y1 y2 p0 p1 w1 hp hq
      rintro m σ ⟨j, i, row, cur', rfl, hj1, hjn, hij, hrl, hpre, hrest, hown, rfl⟩
      by_cases hjt : j < ws.length - k
      · have d4 : decide ((j : Int) < ((ws.length - k : Nat) : Int)) = true := decide_eq_true (by omega)
        obtain ⟨a, ha⟩ : ∃ a, ws[k + j]? = some a := ⟨_, List.getElem?_eq_getElem (by omega)⟩
        obtain ⟨b, hb'⟩ : ∃ b, ws[k + j - 1]? = some b := ⟨_, List.getElem?_eq_getElem (by omega)⟩
        have har : row[k + j]? = some a := (hrest _ (by omega)).trans ha
        have hbr : row[k + j - 1]? = some b := (hrest _ (by omega)).trans hb'
        have w1 : IntKind.i64.wrap ((j : Int) - 1) = ((j - 1 : Nat) : Int) := by rw [wI64 (by omega) (by omega)]; omega
        have wj : IntKind.i64.wrap ((j : Int) + 1) = ((j + 1 : Nat) : Int) := by rw [wI64 (by omega) (by omega)]; omega
        have wi : IntKind.i64.wrap ((i : Int) + 1) = ((i + 1 : Nat) : Int) := by rw [wI64 (by omega) (by omega)]; omega
        have p0 : (0 : Int) ≤ (j : Int) := by omega
        have p1 : ((j : Nat) : Int) < ((ws.length - k : Nat) : Int) := by omega
        have y1 : off + k * 2 + ((j : Nat) : Int).toNat * 2 + 2 ≤ cur'.size := by have := hown.lt (j := k + j) (by omega); rw [Int.toNat_natCast]; omega
        have v1 : cur'.extract (off + k * 2 + ((j : Nat) : Int).toNat * 2) (off + k * 2 + ((j : Nat) : Int).toNat * 2 + 2) = wC a := by
          have := hown.cell har
          rw [Nat.add_mul, ← Nat.add_assoc] at this
          rw [Int.toNat_natCast]; exact this
        have q0 : (0 : Int) ≤ IntKind.i64.wrap ((j : Int) - 1) := by rw [w1]; omega
        have q1 : IntKind.i64.wrap ((j : Int) - 1) < ((ws.length - k : Nat) : Int) := by rw [w1]; omega
        have y2 : off + k * 2 + (IntKind.i64.wrap ((j : Int) - 1)).toNat * 2 + 2 ≤ cur'.size := by have := hown.lt (j := k + j) (by omega); rw [w1, Int.toNat_natCast]; omega
        have v2 : cur'.extract (off + k * 2 + (IntKind.i64.wrap ((j : Int) - 1)).toNat * 2) (off + k * 2 + (IntKind.i64.wrap ((j : Int) - 1)).toNat * 2 + 2) = wC b := by
          have := hown.cell hbr
          rw [show off + (k + j - 1) * 2 = off + k * 2 + (j - 1) * 2 by omega] at this
          rw [w1, Int.toNat_natCast]; exact this
        have i0 : (0 : Int) ≤ (i : Int) := by omega
        have i1 : ((i : Nat) : Int) < ((ws.length : Nat) : Int) := by omega
        have y3 : off + ((i : Nat) : Int).toNat * 2 + 2 ≤ cur'.size := by rw [Int.toNat_natCast]; exact hown.lt (by omega)
        have htk : ws.take (k + (j + 1)) = ws.take (k + j) ++ [a] := by rw [← Nat.add_assoc, List.take_add_one, ha]; rfl
        repeat (first | refine RQr ?_ | ((first | refine WL_Q ?_ | refine WR_Q rfl ?_ | refine WR_late rfl rfl rfl (OW_Q ?_)); (first | refine QW_of (Qt_ldX rfl (hn := by with_reducible assumption)) ?_)) | refine RC ?_ | refine RU ?_ | refine WC_draw_all (id := 11) 12 (.calm 0 <| .calm 1 <| .calm 2 <| .calm 3 <| .calm 4 <| .calm 5 <| .calm 6 <| .calm 7 <| .calm 8 <| .calm 9 <| .must 10 <| .calm 11 <| .done) mixed (by kernel_rfl) ?_ | refine WC_region (id := 9) ?_)
        rw [v1, v2]
        refine WR_op rfl rfl (OW_callv rfl rfl rfl rfl rfl (alikeW_fn (p := a) (q := b)) ?_)
        rintro _ _ ⟨rfl, rfl⟩
        refine ⟨fun _ h => h, ?_⟩
        by_cases hab : a = b
        · have d5 : (!(a.1 == b.1 && a.2 == b.2)) = false := by rw [hab]; simp
          repeat (first | refine RQr ?_ | ((first | refine WL_Q ?_ | refine WR_Q rfl ?_ | refine WR_late rfl rfl rfl (OW_Q ?_)); (first | refine QW_of (Qt_ldX rfl (hn := by with_reducible assumption)) ?_)) | refine RC ?_ | refine RU ?_ | refine WC_draw_all (id := 11) 12 (.calm 0 <| .calm 1 <| .calm 2 <| .calm 3 <| .calm 4 <| .calm 5 <| .calm 6 <| .calm 7 <| .calm 8 <| .calm 9 <| .must 10 <| .calm 11 <| .done) mixed (by kernel_rfl) ?_ | refine WC_region (id := 10) ?_)
          rw [wj]
          refine ⟨_, _, by omega, ⟨j + 1, i, row, cur', rfl, by omega, by omega, by omega, hrl, ?_, fun x hx => hrest x (by omega), hown, rfl⟩, ⟨rfl, rfl, rfl, rfl, rfl, trivial⟩, rfl, .refl _⟩
          rw [htk]
          refine hpre.same ?_
          rw [hab]
          exact List.mem_iff_getElem?.2 ⟨k + j - 1, by rw [List.getElem?_take, if_pos (by omega)]; exact hb'⟩
        · have d5 : (!(a.1 == b.1 && a.2 == b.2)) = true := by
            cases e : (a.1 == b.1 && a.2 == b.2) with
            | false => rfl
            | true => simp at e; exact absurd (Prod.ext e.1 e.2) hab
          repeat (first | refine RQr ?_ | ((first | refine WL_Q ?_ | refine WR_Q rfl ?_ | refine WR_late rfl rfl rfl (OW_Q ?_)); (first | refine QW_of (Qt_ldX rfl (hn := by with_reducible assumption)) ?_)) | ((first | refine WL_op rfl ?_ | refine WR_late rfl rfl rfl ?_ | refine WR_opG rfl rfl ?_); (first | (refine OE ?_; try intro _)); try refine SD ?_) | refine RC ?_ | refine RU ?_ | refine WC_draw_all (id := 11) 12 (.calm 0 <| .calm 1 <| .calm 2 <| .calm 3 <| .calm 4 <| .calm 5 <| .calm 6 <| .calm 7 <| .calm 8 <| .calm 9 <| .must 10 <| .calm 11 <| .done) mixed (by kernel_rfl) ?_ | refine WC_region (id := 12) ?_)
          rw [v1]
          repeat (first | refine RQ ?_ | ((first | refine WL_Q ?_); (first | refine QW_of (Qt_ldX rfl (hn := by with_reducible assumption)) ?_)) | (refine RE ?_; try intro _) | refine RC ?_ | refine WC_region (id := 12) ?_ | refine WC_region (id := 13) ?_ | refine WC_region (id := 10) ?_)
          rw [wi, wj]
          have hil : i < row.length := by omega
          have hput : OwnW (putR cur' (off + ((i : Nat) : Int).toNat * 2) (wC a)) off cap (row.set i a) := hown.put hil a
          refine ⟨_, _, by omega, ⟨j + 1, i + 1, row.set i a, _, rfl, by omega, by omega, by omega, by rw [List.length_set]; exact hrl, ?_, fun x hx => ?_, hput, rfl⟩, ⟨rfl, rfl, rfl, rfl, rfl, trivial⟩, rfl, .refl _⟩
          · rw [htk, List.take_add_one, List.getElem?_set_self hil, List.take_set_of_le (Nat.le_refl _)]
            exact hpre.more
          · rw [List.getElem?_set_ne (by omega)]
            exact hrest x (by omega)
      · have d4 : decide ((j : Int) < ((ws.length - k : Nat) : Int)) = false := decide_eq_false (by omega)
        have i0 : (0 : Int) ≤ ((i : Nat) : Int) := by omega
        have i1 : ((i : Nat) : Int) ≤ ((cap : Nat) : Int) := by omega
        have i2 : ((i : Nat) : Int) ≤ ((ws.length : Nat) : Int) := by omega
        repeat (first | refine RQ ?_ | ((first | refine WL_Q ?_); (first | refine QW_of (Qt_ldX rfl (hn := by with_reducible assumption)) ?_)) | refine RC ?_ | refine WC_region (id := 9) ?_ | refine WC_region (id := 14) ?_)
        refine WL_op rfl (OW_clear (sz := 2) rfl rfl rfl 0 rfl rfl (Array.all_eq_true_iff_forall_mem.1 (by kernel_rfl)) ?_ ?_)
        · rcases Nat.lt_or_ge i ws.length with g1 | g1
          · right
            have := Own.fit hown
            have e : slOff cap ((i : Nat) : Int).toNat off 2 = off + i * 2 := by rw [Int.toNat_natCast]; unfold slOff; rw [if_neg (by omega)]
            rw [e, Int.toNat_natCast]
            have : (ws.length - i) * 2 + i * 2 = ws.length * 2 := by omega
            have : ws.length * 2 ≤ cap * 2 := Nat.mul_le_mul_right 2 hcap
            omega
          · left
            rw [Int.toNat_natCast]; omega
        intro cs' hcs hkeep
        simp only [List.set_cons_zero]
        repeat (first | refine RQ ?_ | ((first | refine WL_Q ?_); (first | refine QW_of (Qt_ldX rfl (hn := by with_reducible assumption)) ?_)) | refine RC ?_ | refine WC_region (id := 15) ?_)
        have hti : (row.take i).length = i := by rw [List.length_take]; omega
        have hfin : OwnW cs' off cap (row.take i) := by
          have ht := hown.take (k := i) (cap' := cap) (by omega) (by omega) (Nat.le_refl _)
          refine OwnW.of (by rw [hti]; omega) (Own.max ht) (by rw [hcs]; exact Own.fit ht) fun x p' hp' => ?_
          obtain ⟨c0, c1⟩ := ht.at_ hp'
          have hx : x < i := by rw [← hti]; exact (List.getElem?_eq_some_iff.1 hp').1
          have hside : ∀ z, z < off + i * 2 → z < slOff cap ((i : Nat) : Int).toNat off 2 ∨ ws.length - ((i : Nat) : Int).toNat = 0 := fun z hz => by
            rw [Int.toNat_natCast]
            rcases Nat.lt_or_ge i ws.length with g1 | g1
            · left; unfold slOff; rw [if_neg (by omega)]; exact hz
            · right; omega
          rw [hkeep _ (hside _ (by omega)), hkeep _ (hside _ (by omega))]
          exact ⟨c0, c1⟩
        have hall : ws.take (k + j) = ws := List.take_of_length_le (by omega)
        rw [hall] at hpre
        exact ⟨rfl, _, _, Res1 rfl (resV_tmp rfl), .refl _, _, row.take i, hpre, .inr ⟨g, off, cap, cs', congrArg (fun n => Value.slice (some ⟨g, off, none⟩) n cap) hti.symm, rfl, hfin⟩, rfl⟩
    · have d3 : (p.1 == q.1 && p.2 == q.2) = false := by
        cases e : (p.1 == q.1 && p.2 == q.2) with
        | false => rfl
        | true => simp at e; exact absurd (Prod.ext e.1 e.2) hpq
      repeat (first | refine RQr ?_ | ((first | refine WL_Q ?_ | refine WR_Q rfl ?_ | refine WR_late rfl rfl rfl (OW_Q ?_)); (first | refine QW_of (Qt_ldX rfl (hn := by with_reducible assumption)) ?_)) | refine RC ?_ | refine RU ?_ | refine WC_draw_all (id := 6) 11 (.calm 0 <| .calm 1 <| .calm 2 <| .calm 3 <| .calm 4 <| .calm 5 <| .calm 6 <| .calm 7 <| .calm 8 <| .calm 9 <| .must 10 <| .done) mixed (by kernel_rfl) ?_ | refine WC_region (id := 5) ?_)
      rw [wk]
      exact ⟨_, _, by omega, ⟨k + 1, rfl, by omega, by omega, rfl⟩, ⟨rfl, rfl, rfl, trivial⟩, rfl, .refl _⟩
  · have d2 : decide ((k : Int) < ((ws.length : Nat) : Int)) = false := decide_eq_false (by omega)
    repeat (first | refine RQ ?_ | ((first | refine WL_Q ?_); (first | refine QW_of (Qt_ldX rfl (hn := by with_reducible assumption)) ?_)) | refine RC ?_ | refine WC_region (id := 4) ?_ | refine WC_region (id := 16) ?_)
    exact ⟨rfl, _, (g, .cells cur 30 (0, 0)) :: L, Res1 rfl (resV_tmp rfl), .refl _, [(g, .cells cur 30 (0, 0))], ws, ⟨.refl _, fun _ h => h⟩, hb, rfl⟩
end Go.Proofs.Ytkjljlmoihkijaa
namespace Go.Proofs.Ytkjljlmoihkijaa
open Go.Shelf
def sortRen : Ren where
  f := fun x => match x with
    | 6 => 15
    | 15 => 26
    | 14 => 25
    | 28 => 45
    | 29 => 46
    | 20 => 37
    | 21 => 38
    | 22 => 39
    | 23 => 40
    | 24 => 41
    | 25 => 42
    | 26 => 43
    | 27 => 44
    | 46 => 52
    | 47 => 53
    | 48 => 54
    | 49 => 55
    | 50 => 56
    | 57 => 69
    | n => n
  t := fun x => match x with
    | 22 => 22
    | 24 => 30
    | 25 => 38
    | 3 => 3
    | 39 => 49
    | 0 => 0
    | 53 => 70
    | 55 => 72
    | 4 => 4
    | 46 => 63
    | 45 => 62
    | 50 => 67
    | 5 => 5
    | 9 => 9
    | 66 => 81
    | 70 => 85
    | 76 => 88
    | 77 => 89
    | n => n
  g := fun n => n
set_option maxRecDepth 100000 in
theorem sortLaid : SlLaysF0.n6 Try.prog sortRen where
  mixed := by kernel_rfl
  f6 := ⟨(Try.f15).name, by kernel_rfl, by kernel_rfl⟩
  f14 := ⟨(Try.f25).name, by kernel_rfl, by kernel_rfl⟩
  f15 := by kernel_rfl
  f20 := ⟨(Try.f37).name, by kernel_rfl, by kernel_rfl⟩
  f21 := ⟨(Try.f38).name, by kernel_rfl, by kernel_rfl⟩
  f22 := ⟨(Try.f39).name, by kernel_rfl, by kernel_rfl⟩
  f23 := ⟨(Try.f40).name, by kernel_rfl, by kernel_rfl⟩
  f24 := ⟨(Try.f41).name, by kernel_rfl, by kernel_rfl⟩
  f25 := ⟨(Try.f42).name, by kernel_rfl, by kernel_rfl⟩
  f26 := ⟨(Try.f43).name, by kernel_rfl, by kernel_rfl⟩
  f27 := ⟨(Try.f44).name, by kernel_rfl, by kernel_rfl⟩
  f28 := by kernel_rfl
  f29 := by kernel_rfl
  f46 := ⟨(Try.f52).name, by kernel_rfl, by kernel_rfl⟩
  f47 := by kernel_rfl
  f48 := by kernel_rfl
  f49 := ⟨(Try.f55).name, by kernel_rfl, by kernel_rfl⟩
  f50 := ⟨(Try.f56).name, by kernel_rfl, by kernel_rfl⟩
  f57 := ⟨(Try.f69).name, by kernel_rfl, by kernel_rfl⟩
  t0 := by kernel_rfl
  a0 := fun _ => by kernel_rfl
  z0 := fun _ => by kernel_rfl
  v0 := fun _ => by kernel_rfl
  t3 := by kernel_rfl
  a3 := fun _ => by kernel_rfl
  z3 := fun _ => by kernel_rfl
  v3 := fun _ => by kernel_rfl
  t4 := by kernel_rfl
  a4 := fun _ => by kernel_rfl
  z4 := fun _ => by kernel_rfl
  v4 := fun _ => by kernel_rfl
  t5 := by kernel_rfl
  a5 := fun _ => by kernel_rfl
  z5 := fun _ => by kernel_rfl
  v5 := fun _ => by kernel_rfl
  t9 := by kernel_rfl
  a9 := fun _ => by kernel_rfl
  z9 := fun _ => by kernel_rfl
  v9 := fun _ => by kernel_rfl
  t22 := by kernel_rfl
  a22 := fun _ => by kernel_rfl
  z22 := fun _ => by kernel_rfl
  v22 := fun _ => by kernel_rfl
  t25 := by kernel_rfl
  a25 := fun _ => by kernel_rfl
  z25 := fun _ => by kernel_rfl
  v25 := fun _ => by kernel_rfl
  t39 := by kernel_rfl
  a39 := fun _ => by kernel_rfl
  z39 := fun _ => by kernel_rfl
  v39 := fun _ => by kernel_rfl
  t45 := by kernel_rfl
  a45 := fun _ => by kernel_rfl
  z45 := fun _ => by kernel_rfl
  v45 := fun _ => by kernel_rfl
  t46 := by kernel_rfl
  a46 := fun _ => by kernel_rfl
  z46 := fun _ => by kernel_rfl
  v46 := fun _ => by kernel_rfl
  t50 := by kernel_rfl
  a50 := fun _ => by kernel_rfl
  z50 := fun _ => by kernel_rfl
  v50 := fun _ => by kernel_rfl
  t53 := by kernel_rfl
  a53 := fun _ => by kernel_rfl
  z53 := fun _ => by kernel_rfl
  v53 := fun _ => by kernel_rfl
  t55 := by kernel_rfl
  a55 := fun _ => by kernel_rfl
  z55 := fun _ => by kernel_rfl
  v55 := fun _ => by kernel_rfl
  t66 := by kernel_rfl
  a66 := fun _ => by kernel_rfl
  z66 := fun _ => by kernel_rfl
  v66 := fun _ => by kernel_rfl
  t70 := by kernel_rfl
  a70 := fun _ => by kernel_rfl
  z70 := fun _ => by kernel_rfl
  v70 := fun _ => by kernel_rfl
  t76 := by kernel_rfl
  a76 := fun _ => by kernel_rfl
  z76 := fun _ => by kernel_rfl
  v76 := fun _ => by kernel_rfl
  t77 := by kernel_rfl
  a77 := fun _ => by kernel_rfl
  z77 := fun _ => by kernel_rfl
  v77 := fun _ => by kernel_rfl
end Go.Proofs.Ytkjljlmoihkijaa
namespace Go.Proofs.Ytkjljlmoihkijaa
open Go.Shelf Go.RowKit Go.Sort
def cmp1 (a b : Int) : Int := if a < b then -1 else if a > b then 1 else 0
def cmpF (x y : Int × Int) : Int := if cmp1 x.1 y.1 ≠ 0 then cmp1 x.1 y.1 else cmp1 x.2 y.2
theorem cmpI_calls (a b : Int) (w : World) : Calls Try.prog 27 #[.int .i64 a, .int .i64 b] w fun e w' => e = .returned (.int .i64 (cmp1 a b)) ∧ w' = w := by
  go_enter Try.func27, Try.ntmps27
  go_wp2
  all_goals (go_ret; refine ⟨?_, rfl⟩; unfold cmp1; (try simp_all); (try (split <;> (try split) <;> omega)))
set_option maxHeartbeats 2000000 in
theorem cmpS_calls (x y : Int × Int) (b1 b2 : Nat) (w : World) (h0 : w.cell? ⟨b1, 0, none⟩ = some (.int .i64 x.1)) (h1 : w.cell? ⟨b1, 1, none⟩ = some (.int .i64 x.2)) (k0 : w.cell? ⟨b2, 0, none⟩ = some (.int .i64 y.1)) (k1 : w.cell? ⟨b2, 1, none⟩ = some (.int .i64 y.2)) :
    Calls Try.prog 17 #[.slice (some ⟨b1, 0, none⟩) 2 2, .slice (some ⟨b2, 0, none⟩) 2 2] w fun e w' => e = .returned (.int .i64 (cmpF x y)) ∧ w' = w := by
  have hc := fun a b w => cmpI_calls a b w
  go_enter Try.func17, Try.ntmps17
  go_wp2
  refine wp_loop_rounds 3 ?_
  rw [rounds_succ]
  go_wp2_with (go_at_call 27; refine (hc _ _ _).mono ?_; rintro e w' ⟨rfl, rfl⟩)
  · go_ret
    refine ⟨?_, rfl⟩
    unfold cmpF
    simp_all
  · rw [rounds_succ]
    go_wp2_with (go_at_call 27; refine (hc _ _ _).mono ?_; rintro e w' ⟨rfl, rfl⟩)
    · go_ret
      refine ⟨?_, rfl⟩
      unfold cmpF
      simp_all
    · rw [rounds_succ]
      go_wp2
      go_ret
      refine ⟨?_, rfl⟩
      unfold cmpF
      simp_all
set_option maxHeartbeats 2000000 in
theorem cmpW_calls (x y : Int × Int) (W : World) : Calls Try.prog 16 #[.agg #[.int .i64 x.1, .int .i64 x.2], .agg #[.int .i64 y.1, .int .i64 y.2]] W fun e w' => e = .returned (.int .i64 (cmpF x y)) ∧ ∃ q os', w' = grow (W.drewN q) os' := by
  have hc := fun b1 b2 w => cmpS_calls x y b1 b2 w
  go_enter Try.func16, Try.ntmps16
  go_wp2
  have hcc := fun n => hc W.heap.size (W.heap.size + 1) (((W.alloc (.cells #[.int .i64 x.1, .int .i64 x.2] 30)).alloc (.cells #[.int .i64 y.1, .int .i64 y.2] 30)).drewN n) (by simp) (by simp) (by simp) (by simp)
  go_quiet (first | (go_at_call 17; refine Calls.quiet_of_same (hcc _)))
  go_wp2
  go_ret
  exact ⟨rfl, nq, _, by rw [alloc_eq_grow, alloc_eq_grow, grow_grow]; rfl⟩
end Go.Proofs.Ytkjljlmoihkijaa
namespace Go.Proofs.Ytkjljlmoihkijaa
open Go.Shelf Go.RowKit Go.Sort
def encW (p : Int × Int) : List Value := [.int .i64 p.1, .int .i64 p.2]
theorem ltOf_cmpF (x y : Int × Int) : ltOf cmpF x y = decide (x.1 < y.1 ∨ (x.1 = y.1 ∧ x.2 < y.2)) := by
  unfold ltOf cmpF cmp1
  apply decide_eq_decide.2
  by_cases h1 : x.1 < y.1 <;> by_cases h2 : x.1 > y.1 <;> by_cases g1 : x.2 < y.2 <;> by_cases g2 : x.2 > y.2 <;> simp [h1, h2, g1, g2] <;> omega
theorem swoW : SWO (ltOf cmpF) where
  irrefl x := by rw [ltOf_cmpF]; simp
  trans x y z h1 h2 := by rw [ltOf_cmpF] at *; simp at *; omega
  ntrans x y z h1 h2 := by rw [ltOf_cmpF] at *; simp at *; omega
theorem cmpLaysW (blk off size : Nat) (w : World) : CmpLays Try.prog 16 #[] encW 2 cmpF blk off size w :=
  fun _ _ _ _ x y => cmpW_calls x y _
theorem flat_get {d : Array (Int × Int)} {j : Nat} (hj : j < d.size) : (flatK encW 2 d)[j * 2]! = .int .i64 d[j]!.1 ∧ (flatK encW 2 d)[j * 2 + 1]! = .int .i64 d[j]!.2 := by
  rw [get_flatK _ _ _ _ (by omega), get_flatK _ _ _ _ (by omega), show j * 2 / 2 = j by omega, show j * 2 % 2 = 0 by omega, show (j * 2 + 1) / 2 = j by omega, show (j * 2 + 1) % 2 = 1 by omega]
  exact ⟨rfl, rfl⟩
theorem toArray_get {ws : List (Int × Int)} {j : Nat} {p : Int × Int} (h : ws[j]? = some p) : ws.toArray[j]! = p := by
  obtain ⟨h1, h2⟩ := List.getElem?_eq_some_iff.1 h
  rw [getElem!_pos _ _ (by simpa using h1)]
  simpa using h2
theorem OwnW.holds {cur : Array Value} {off cap : Nat} {ws : List (Int × Int)} (h : OwnW cur off cap ws) {g : World} {w : World} {L : List (Nat × Obj)} {b E : Nat} (hm : Mem g ((b, .cells cur E (0, 0)) :: L) w) : HoldsK encW 2 w b off ws.toArray := fun j hj => by
  have hb := hm.at_ (i := 0) rfl
  have hj' : j < ws.length * 2 := by simpa using hj
  have hp : ws[j / 2]? = some (ws[j / 2]'(by omega)) := List.getElem?_eq_getElem _
  obtain ⟨c0, c1⟩ := h.at_ hp
  obtain ⟨f0, f1⟩ := flat_get (d := ws.toArray) (j := j / 2) (by simp; omega)
  rw [toArray_get hp] at f0 f1
  refine ⟨?_, frozen_of_row w b (off + j) cur E hb⟩
  rw [cell_of_row w b (off + j) cur E (0, 0) hb]
  rcases Nat.mod_two_eq_zero_or_one j with e | e
  · have ej : j = j / 2 * 2 := by omega
    rw [ej, c0, f0]; rfl
  · have ej : j = j / 2 * 2 + 1 := by omega
    rw [ej, ← Nat.add_assoc, c1, f1]; rfl
theorem putCells_own {cur : Array Value} {off cap : Nat} {ws : List (Int × Int)} (h : OwnW cur off cap ws) {d : Array (Int × Int)} (hd : d.size = ws.length) : OwnW (putCells id off (flatK encW 2 d) cur) off cap d.toList := by
  have hl : d.toList.length = ws.length := by simpa using hd
  have hs : (putCells id off (flatK encW 2 d) cur).size = cur.size := by simp [putCells]
  refine OwnW.of (by rw [hl]; exact Own.le h) (Own.max h) (by rw [hs]; exact Own.fit h) fun j p hj => ?_
  obtain ⟨h1, h2⟩ := List.getElem?_eq_some_iff.1 hj
  have hjs : j < d.size := by simpa using h1
  have hlt := h.lt (j := j) (by omega)
  obtain ⟨f0, f1⟩ := flat_get hjs
  have hp : d[j]! = p := by rw [getElem!_pos d j hjs]; simpa using h2
  rw [hp] at f0 f1
  have get : ∀ k, k < cur.size → off ≤ k → k < off + d.size * 2 → (putCells id off (flatK encW 2 d) cur)[k]? = some ((flatK encW 2 d)[k - off]!) := fun k hk h1 h2 => by
    unfold putCells
    rw [Array.getElem?_mapIdx, Array.getElem?_eq_getElem hk]
    simp only [Option.map_some]
    rw [if_pos ⟨h1, by rw [size_flatK]; exact h2⟩]
    rfl
  constructor
  · rw [get _ (by omega) (by omega) (by omega), show off + j * 2 - off = j * 2 by omega, f0]
  · rw [get _ (by omega) (by omega) (by omega), show off + j * 2 + 1 - off = j * 2 + 1 by omega, f1]
theorem sortWorld_mem {cur : Array Value} {off : Nat} {g w : World} {L : List (Nat × Obj)} {b E n : Nat} {d : Array (Int × Int)} {os : Array Obj} (hm : Mem g ((b, .cells cur E (0, 0)) :: L) w) : Mem g ((b, .cells (putCells id off (flatK encW 2 d) cur) E (0, 0)) :: L) (sortWorldK encW 2 w b off n d os) := by
  have hb := hm.at_ (i := 0) rfl
  have hlt := hm.lt (b, .cells cur E (0, 0)) (List.mem_cons_self ..)
  have heap : ∀ k, k < w.heap.size → (sortWorldK encW 2 w b off n d os).heap[k]? = (w.heap.modify b (onCells (putCells id off (flatK encW 2 d))))[k]? := fun k hk => by
    show (w.heap.modify b (onCells (putCells id off (flatK encW 2 d))) ++ os)[k]? = _
    rw [Array.getElem?_append_left (by simpa using hk)]
  refine hm.set (i := 0) (o' := .cells (putCells id off (flatK encW 2 d) cur) E (0, 0)) rfl rfl rfl rfl ?_ ?_ fun k hk hne => ?_
  · show w.heap.size ≤ (w.heap.modify b (onCells (putCells id off (flatK encW 2 d))) ++ os).size
    simp
  · rw [heap b hlt, Array.getElem?_modify, if_pos rfl, hb]
    rfl
  · rw [heap k hk, Array.getElem?_modify, if_neg (Ne.symm hne)]
theorem sortW_fn {b E off cap : Nat} {cur : Array Value} {ws : List (Int × Int)} (h : OwnW cur off cap ws) (hn : ws.length ≤ 1000000) {L : List (Nat × Obj)} :
    Fn Try.prog 15 [.slice (some ⟨b, off, none⟩) ws.length cap, .func (.func 16) #[] #[]] ((b, .cells cur E (0, 0)) :: L)
      (fun v L' => v = .tuple #[] ∧ ∃ cur' ws', ws'.Perm ws ∧ ws'.Pairwise (fun p q => p.1 ≤ q.1) ∧ OwnW cur' off cap ws' ∧ L' = (b, .cells cur' E (0, 0)) :: L) := fun g w hm => by
  have hlt := hm.lt (b, .cells cur E (0, 0)) (List.mem_cons_self ..)
  have hc := AnyQ.slices_SortFunc sortLaid 2 Try.isAgg30 Try.sizeOf30 encW (fun _ => rfl) (fun x v hv => by simp [encW] at hv; rcases hv with rfl | rfl <;> rfl) cmpF swoW 16 #[] b off cap ws.toArray w (enters_of Try.func16 (by kernel_rfl) rfl) (cmpLaysW b off ws.toArray.size w) (h.holds hm) hlt (by simp; omega)
  refine Calls.mono (P := Try.prog) hc fun e w' ⟨he, d', n, os, hp, hs, hw⟩ => ?_
  have hsz : d'.size = ws.length := by simpa using hp.1
  refine ⟨.tuple #[], _, he, hw ▸ sortWorld_mem hm, rfl, _, d'.toList, ?_, ?_, putCells_own h hsz, rfl⟩
  · have := hp.2.2
    have e : d'.toList.take ws.length = d'.toList := List.take_of_length_le (by simp [hsz])
    simp at this
    rwa [e] at this
  · rw [List.pairwise_iff_getElem]
    intro i j hi hj hij
    have hi' : i < d'.size := by simpa using hi
    have hj' : j < d'.size := by simpa using hj
    have := hs i j (Nat.zero_le _) hij (by simp; omega)
    rw [ltOf_cmpF, getElem!_pos d' i hi', getElem!_pos d' j hj'] at this
    simp at this ⊢
    omega
end Go.Proofs.Ytkjljlmoihkijaa
namespace Go.Proofs.Ytkjljlmoihkijaa
open Go.RowKit
attribute [local irreducible] Fn WC WL WR OW Qt YieldFn QW FnP FnD
theorem len64_zero {L : List (Nat × Obj)} : Fn Try.prog 46 [.int .u64 0] L (fun v L' => v = .int .i64 0 ∧ L' = L) := by
  refine Fn_enter Try.func46 rfl Try.ntmps46 rfl fun gw => ?_
  repeat (first | refine RQ ?_ | ((first | refine WL_Q ?_); (first | refine QW_of (Qt_ldX rfl (hn := by with_reducible assumption)) ?_)) | refine RC ?_ | refine WC_region ?_)
  exact ⟨rfl, _, _, Res1 rfl (resV_tmp rfl), .refl _, rfl, rfl⟩
theorem len_zero {L : List (Nat × Obj)} : Fn Try.prog 26 [.int .u64 0] L (fun v L' => v = .int .i64 0 ∧ L' = L) := by
  refine Fn_enter Try.func26 rfl Try.ntmps26 rfl fun gw => ?_
  repeat (first | refine RQ ?_ | ((first | refine WL_Q ?_); (first | refine QW_of (Qt_ldX rfl (hn := by with_reducible assumption)) ?_)) | ((first | refine WL_op rfl ?_); (first | refine OW_callP rfl (hF := len64_zero) (hk := ?_))) | refine RC ?_ | refine WC_region (id := 0) ?_ | refine WC_region (id := 2) ?_)
  exact ⟨rfl, _, _, Res1 rfl (resV_tmp rfl), .refl _, rfl, rfl⟩
theorem insNil_fn {f : Value} {L : List (Nat × Obj)} : Fn Try.prog 37 [.slice none 0 0, .int .i64 0, .int .i64 0, f] L (fun v L' => v = .tuple #[] ∧ L' = L) := by
  have d : decide (IntKind.i64.wrap (0 + 1) < 0) = false := by decide
  refine Fn_enter Try.func37 rfl Try.ntmps37 rfl fun gw => ?_
  repeat (first | refine RQ ?_ | ((first | refine WL_Q ?_); (first | refine QW_of (Qt_ldX rfl (hn := by with_reducible assumption)) ?_)) | refine RC ?_ | refine WC_region (id := 0) ?_)
  refine WC_unroll 1 (WCn_s ?_)
  repeat (first | refine RQ ?_ | ((first | refine WL_Q ?_); (first | refine QW_of (Qt_ldX rfl (hn := by with_reducible assumption)) ?_)) | refine RC ?_ | refine WC_region (id := 1) ?_)
  exact ⟨rfl, _, _, Res0 rfl, .refl _, rfl, rfl⟩
theorem pdqNil_fn {f : Value} {L : List (Nat × Obj)} : Fn Try.prog 25 [.slice none 0 0, .int .i64 0, .int .i64 0, .int .i64 0, f] L (fun v L' => v = .tuple #[] ∧ L' = L) := by
  have d : decide (IntKind.i64.wrap (0 - 0) ≤ 12) = true := by decide
  refine Fn_enter Try.func25 rfl Try.ntmps25 rfl fun gw => ?_
  repeat (first | refine RQ ?_ | ((first | refine WL_Q ?_); (first | refine QW_of (Qt_ldX rfl (hn := by with_reducible assumption)) ?_)) | refine RC ?_ | refine WC_region (id := 0) ?_ | refine WC_region (id := 1) ?_)
  refine WC_unroll 1 (WCn_s ?_)
  repeat (first | refine RQ ?_ | ((first | refine WL_Q ?_); (first | refine QW_of (Qt_ldX rfl (hn := by with_reducible assumption)) ?_)) | ((first | refine WL_op rfl ?_); (first | refine OW_callP rfl (hF := insNil_fn) (hk := ?_))) | refine RC ?_ | refine WC_region (id := 2) ?_ | refine WC_region (id := 3) ?_ | refine WC_region (id := 4) ?_)
  exact ⟨rfl, _, _, Res0 rfl, .refl _, rfl, rfl⟩
theorem sortNil_fn {f : Value} {L : List (Nat × Obj)} : Fn Try.prog 15 [.slice none 0 0, f] L (fun v L' => v = .tuple #[] ∧ L' = L) := by
  refine Fn_enter Try.func15 rfl Try.ntmps15 rfl fun gw => ?_
  repeat (first | refine RQ ?_ | ((first | refine WL_Q ?_); (first | refine QW_of (Qt_ldX rfl (hn := by with_reducible assumption)) ?_)) | ((first | refine WL_op rfl ?_); (first | refine OW_callP rfl (hF := len_zero) (hk := ?_) | refine OW_callP rfl (hF := pdqNil_fn) (hk := ?_))) | refine RC ?_ | refine WC_region ?_)
  exact ⟨rfl, _, _, Res0 rfl, .refl _, rfl, rfl⟩
theorem sortB_fn {v : Value} {T : List (Nat × Obj)} {ws : List (Int × Int)} (hn : ws.length ≤ 100000) (hb : BufW v T ws) {L : List (Nat × Obj)} :
    Fn Try.prog 15 [v, .func (.func 16) #[] #[]] (T ++ L) (fun r L' => ∃ T' ws', r = .tuple #[] ∧ ws'.Perm ws ∧ ws'.Pairwise (fun p q => p.1 ≤ q.1) ∧ BufW v T' ws' ∧ L' = T' ++ L) := by
  rcases BufW.cases_ hb with ⟨rfl, rfl, rfl⟩ | ⟨g, off, cap, cur, rfl, rfl, ho⟩
  · refine Fn.mono sortNil_fn ?_
    rintro _ _ ⟨rfl, rfl⟩
    exact ⟨[], [], rfl, .refl _, .nil, hb, rfl⟩
  · refine Fn.mono (sortW_fn ho (by omega)) ?_
    rintro _ _ ⟨rfl, cur', ws', hp, hs, ho', rfl⟩
    refine ⟨[(g, .cells cur' 30 (0, 0))], ws', rfl, hp, hs, ?_, rfl⟩
    rw [← hp.length_eq]
    exact .inr ⟨g, off, cap, cur', rfl, rfl, ho'⟩
theorem sweepW_snoc (l : List (Int × Int)) (w : Int × Int) : sweepW (l ++ [w]) = sweep1 (sweepW l) w := by simp [sweepW]
theorem sweep1_len (out : List (Int × Int)) (w : Int × Int) : (sweep1 out w).length ≤ out.length + 1 := by
  unfold sweep1
  split
  · split <;> simp <;> omega
  · simp
theorem sweep_len_from : ∀ (l out : List (Int × Int)), (l.foldl sweep1 out).length ≤ out.length + l.length
  | [], out => by simp
  | w :: l, out => by
    have h1 := sweep_len_from l (sweep1 out w)
    have h2 := sweep1_len out w
    rw [List.foldl_cons, List.length_cons]; omega
theorem sweepW_len (l : List (Int × Int)) : (sweepW l).length ≤ l.length := by
  have := sweep_len_from l []
  simpa [sweepW] using this
theorem sweep1_nil (w : Int × Int) : sweep1 [] w = [w] := rfl
theorem sweep1_join {out : List (Int × Int)} {p w : Int × Int} {n : Nat} (hp : out[n]? = some p) (hn : out.length = n + 1) (h : w.1 < p.2) : sweep1 out w = out.set n (joinW p w) := by
  rcases List.eq_nil_or_concat out with rfl | ⟨o, q, rfl⟩
  · simp at hn
  · rw [List.concat_eq_append] at *
    have ho : o.length = n := by simpa using hn
    subst ho
    have : q = p := by simpa using hp
    subst this
    unfold sweep1
    rw [List.getLast?_concat, List.dropLast_concat]
    dsimp only
    rw [if_pos h, List.set_append_right _ _ (by omega)]
    simp
theorem sweep1_add {out : List (Int × Int)} {p w : Int × Int} {n : Nat} (hp : out[n]? = some p) (hn : out.length = n + 1) (h : ¬ w.1 < p.2) : sweep1 out w = out ++ [w] := by
  rcases List.eq_nil_or_concat out with rfl | ⟨o, q, rfl⟩
  · simp at hn
  · rw [List.concat_eq_append] at *
    have ho : o.length = n := by simpa using hn
    subst ho
    have : q = p := by simpa using hp
    subst this
    unfold sweep1
    rw [List.getLast?_concat]
    dsimp only
    rw [if_neg h]
set_option maxHeartbeats 4000000 in
theorem gather_fn {v : Value} {ws : List (Int × Int)} (hn : ws.length ≤ 100000) {L : List (Nat × Obj)} (hv : VecW L v ws) : Fn Try.prog 7 [v] L (fun r L' => ∃ out T, Gath ws out ∧ out.length ≤ ws.length ∧ BufW r T out ∧ L' = T ++ L) := by
  refine Fn_enter Try.func7 rfl Try.ntmps7 rfl fun gw => ?_
  repeat (first | refine RQ ?_ | ((first | refine WL_Q ?_); (first | refine QW_of (Qt_ldX rfl (hn := by with_reducible assumption)) ?_)) | ((first | refine WL_op rfl ?_); (first | (refine OW_call rfl (hF := cloneW_fn hn hv) (hk := ?_); rintro v1 _ ⟨T1, hb1, rfl⟩) | (refine OW_call rfl (hF := deleteF_fn hn hb1) (hk := ?_); rintro v2 _ ⟨T2, hb2, rfl⟩) | (refine OW_call rfl (hF := sortB_fn (Nat.le_trans (List.length_filter_le _ _) hn) hb2) (hk := ?_); rintro _ _ ⟨T3, w3, rfl, hp3, hs3, hb3, rfl⟩) | (refine OW_call rfl (hF := compactF_fn (by rw [hp3.length_eq]; exact Nat.le_trans (List.length_filter_le _ _) hn) hb3) (hk := ?_); rintro v4 _ ⟨T4, w4, hs4, hb4, rfl⟩))) | refine RC ?_ | refine WC_region (id := 0) ?_ | refine WC_region (id := 1) ?_ | refine WC_region (id := 2) ?_ | refine WC_region (id := 3) ?_)
  have hl4 : w4.length ≤ ws.length := Nat.le_trans hs4.1.length_le (by rw [hp3.length_eq]; exact List.length_filter_le _ _)
  have hfull : ∀ p ∈ w4, p.1 < p.2 := fun p hp => by
    have := (List.mem_filter.1 (hp3.mem_iff.1 (hs4.1.subset hp))).2
    simpa [fullW] using this
  have hrise : w4.Pairwise fun p q => p.1 ≤ q.1 := hs3.sublist hs4.1
  have hmem : ∀ p : Int × Int, p.1 < p.2 → (p ∈ w4 ↔ p ∈ ws) := fun p hf => by
    constructor
    · intro h
      exact (List.mem_filter.1 (hp3.mem_iff.1 (hs4.1.subset h))).1
    · intro h
      exact hs4.2 p (hp3.mem_iff.2 (List.mem_filter.2 ⟨h, by simpa [fullW] using hf⟩))
  have hG : Gath ws (sweepW w4) := (sweep_gath hfull hrise).congr hmem
  clear hfull hrise hmem hs4 hs3 hp3 hb3 hb2 hb1
  obtain ⟨a4, c4, rfl, h4⟩ := (VecW.pairs (hb4.vec0 L))
  refine WC_wk [(3, .slice a4 w4.length c4)] ⟨rfl, trivial⟩ ?_
  repeat (first | refine RQ ?_ | ((first | refine WL_Q ?_); (first | refine QW_of (Qt_ldX rfl (hn := by with_reducible assumption)) ?_)) | refine RC ?_ | refine WC_region (id := 4) ?_ | refine WC_region (id := 5) ?_)
  refine WC_wk [(17, .int .i64 0), (16, .int .i64 w4.length), (15, .slice a4 w4.length c4), (4, .slice none 0 0)] ⟨rfl, rfl, rfl, rfl, trivial⟩ ?_
  refine WC_loop (fun m σ => ∃ (i : Nat) (v : Value) (T : List (Nat × Obj)), m = w4.length - i ∧ i ≤ w4.length ∧ BufW v T (sweepW (w4.take i)) ∧ σ = ⟨[(17, .int .i64 i), (16, .int .i64 w4.length), (15, .slice a4 w4.length c4), (4, v)], [], T ++ (T4 ++ L)⟩) w4.length ⟨0, .slice none 0 0, [], by omega, by omega, Buf.nil _ _, rfl⟩ ?_
  rintro m σ ⟨i, v, T, rfl, hi, hb, rfl⟩
  by_cases hlt : i < w4.length
  · have d2 : decide ((i : Int) < ((w4.length : Nat) : Int)) = true := decide_eq_true (by omega)
    obtain ⟨p, hp⟩ : ∃ p, w4[i]? = some p := ⟨_, List.getElem?_eq_getElem hlt⟩
    have hne : w4 ≠ [] := by intro e; rw [e] at hlt; simp at hlt
    obtain ⟨g1, o1, cu1, E1, fr1, i1, rfl, hi1, hc1⟩ := h4.resolve_left hne
    obtain ⟨x1, z1⟩ := hc1 i p hp
    have p0 : (0 : Int) ≤ (i : Int) := by omega
    have p1 : ((i : Nat) : Int) < ((w4.length : Nat) : Int) := by omega
    have y1 : o1 + ((i : Nat) : Int).toNat * 2 + 2 ≤ cu1.size := by rw [Int.toNat_natCast]; exact z1
    have v1 : cu1.extract (o1 + ((i : Nat) : Int).toNat * 2) (o1 + ((i : Nat) : Int).toNat * 2 + 2) = wC p := by rw [Int.toNat_natCast]; exact x1
    have w : IntKind.i64.wrap ((i : Int) + 1) = ((i + 1 : Nat) : Int) := by rw [wI64 (by omega) (by omega)]; omega
    have hm1 : (T ++ (T4 ++ L))[T.length + i1]? = some (g1, .cells cu1 E1 fr1) := by rw [List.getElem?_append_right (by omega), Nat.add_sub_cancel_left]; exact hi1
    have htk : w4.take (i + 1) = w4.take i ++ [p] := by rw [List.take_add_one, hp]; rfl
    have hlen : (sweepW (w4.take i)).length ≤ i := Nat.le_trans (sweepW_len _) (by rw [List.length_take]; omega)
    have hnext : sweepW (w4.take (i + 1)) = sweep1 (sweepW (w4.take i)) p := by rw [htk, sweepW_snoc]
    generalize sweepW (w4.take i) = out at hb hlen hnext
    obtain ⟨vo, capo, rfl, hleo, hmo⟩ := Buf.val hb
    rcases Nat.eq_zero_or_pos out.length with h0 | h0
    · obtain rfl := List.eq_nil_of_length_eq_zero h0
      have w0 : decide (IntKind.i64.wrap (((([] : List (Int × Int)).length : Nat) : Int) - 1) ≥ 0) = false := by decide
      repeat (first | refine RQ ?_ | ((first | refine WL_Q ?_); (first | refine QW_of (Qt_ldX rfl (hn := by with_reducible assumption)) ?_)) | (refine RE ?_; try intro _) | refine RC ?_ | refine WC_region (id := 6) ?_ | refine WC_region (id := 7) ?_)
      rw [v1]
      repeat (first | refine RQr ?_ | ((first | refine WL_Q ?_ | refine WL_Y ?_ | refine WR_Q rfl ?_ | refine WR_late rfl rfl rfl (OW_Q ?_) | refine WR_Y rfl ?_); (first | refine QW_of (Qt_ldX rfl (hn := by with_reducible assumption)) ?_)) | ((first | refine WL_op rfl ?_ | refine WL_yes (h := ?_) | refine WR_late rfl rfl rfl ?_ | refine WR_opG rfl rfl ?_ | refine WR_opYG rfl (h := ?_)); (first | (refine OE ?_; try intro _)); try refine SD ?_) | refine RC ?_ | refine RU ?_ | refine WC_draw_all (id := 9) 12 (.calm 0 <| .calm 1 <| .calm 2 <| .calm 3 <| .calm 4 <| .calm 5 <| .calm 6 <| .calm 7 <| .calm 8 <| .calm 9 <| .calm 10 <| .calm 11 <| .done) mixed (by kernel_rfl) ?_ | refine WC_region (id := 7) ?_ | refine WC_region (id := 8) ?_ | refine WC_region (id := 11) ?_)
      refine WL_op rfl (OW_append_buf (A := [_, _]) (T := T) (B := T4 ++ L) rfl rfl rfl rfl rfl hb (srcW (w := wC p) (i := 0) rfl rfl rfl) (by decide) (by simp only [maxLen]; omega) (by omega) ?_)
      intro v' T' hb'
      simp only [List.cons_append, List.nil_append]
      repeat (first | refine RQ ?_ | ((first | refine WL_Q ?_); (first | refine QW_of (Qt_ldX rfl (hn := by with_reducible assumption)) ?_)) | (refine RE ?_; try intro _) | refine RC ?_ | refine WC_region (id := 11) ?_ | refine WC_region (id := 12) ?_)
      rw [w]
      refine ⟨_, _, by omega, ⟨i + 1, v', T', rfl, by omega, ?_, rfl⟩, ⟨rfl, rfl, rfl, rfl, trivial⟩, rfl, .cons _ (.cons _ (.refl _))⟩
      rw [hnext, sweep1_nil]
      exact hb'
    · obtain ⟨n, hnn⟩ : ∃ n, out.length = n + 1 := ⟨out.length - 1, by omega⟩
      obtain ⟨q, hq⟩ : ∃ q, out[n]? = some q := ⟨_, List.getElem?_eq_getElem (by omega)⟩
      obtain ⟨g, off, cap, cur, e1, rfl, ho⟩ := (BufW.cases_ hb).resolve_left (fun h => by rw [h.1] at h0; simp at h0)
      cases e1
      have wn : IntKind.i64.wrap (((out.length : Nat) : Int) - 1) = ((n : Nat) : Int) := by rw [wI64 (by omega) (by omega)]; omega
      have w0 : decide (((n : Nat) : Int) ≥ 0) = true := decide_eq_true (by omega)
      have n0 : (0 : Int) ≤ (n : Int) := by omega
      have n1 : ((n : Nat) : Int) < ((out.length : Nat) : Int) := by omega
      have n2 : off + ((n : Nat) : Int).toNat * 2 + 2 ≤ cur.size := by rw [Int.toNat_natCast]; exact ho.lt (by omega)
      have n3 : cur.extract (off + ((n : Nat) : Int).toNat * 2) (off + ((n : Nat) : Int).toNat * 2 + 2) = wC q := by rw [Int.toNat_natCast]; exact ho.cell hq
      have n4 : cur[off + ((n : Nat) : Int).toNat * 2 + 1]? = some (.int .i64 q.2) := by rw [Int.toNat_natCast]; exact (ho.at_ hq).2
      repeat (first | refine RQ ?_ | ((first | refine WL_Q ?_); (first | refine QW_of (Qt_ldX rfl (hn := by with_reducible assumption)) ?_)) | (refine RE ?_; try intro _) | refine RC ?_ | refine WC_region (id := 6) ?_ | refine WC_region (id := 7) ?_)
      rw [v1]
      repeat (first | refine RQ ?_ | ((first | refine WL_Q ?_); (first | refine QW_of (Qt_ldX rfl (hn := by with_reducible assumption)) ?_)) | (refine RE ?_; try intro _) | refine RC ?_ | refine WC_region (id := 7) ?_ | refine WC_region (id := 8) ?_)
      rw [wn]
      by_cases hlo : p.1 < q.2
      · have d3 : decide (p.1 < q.2) = true := decide_eq_true hlo
        repeat (first | refine RQr ?_ | ((first | refine WL_Q ?_ | refine WL_Y ?_ | refine WR_Q rfl ?_ | refine WR_late rfl rfl rfl (OW_Q ?_) | refine WR_Y rfl ?_); (first | refine QW_of (Qt_ldX rfl (hn := by with_reducible assumption)) ?_)) | ((first | refine WL_op rfl ?_ | refine WL_yes (h := ?_) | refine WR_late rfl rfl rfl ?_ | refine WR_opG rfl rfl ?_ | refine WR_opYG rfl (h := ?_)); (first | (refine OE ?_; try intro _) | refine OW_callP rfl (hF := joinP_fn) (hk := ?_)); try refine SD ?_) | refine RC ?_ | refine RU ?_ | refine WC_draw_all (id := 9) 12 (.calm 0 <| .calm 1 <| .calm 2 <| .calm 3 <| .calm 4 <| .calm 5 <| .calm 6 <| .calm 7 <| .calm 8 <| .calm 9 <| .calm 10 <| .calm 11 <| .done) mixed (by kernel_rfl) ?_ | refine WC_draw_all (id := 10) 9 (.calm 0 <| .calm 1 <| .calm 2 <| .calm 3 <| .calm 4 <| .calm 5 <| .calm 6 <| .must 7 <| .calm 8 <| .must 9 <| .done) mixed (by kernel_rfl) ?_)
        rw [n3]
        have hput : OwnW (putR cur (off + ((n : Nat) : Int).toNat * 2) (wC (joinW q p))) off capo (out.set n (joinW q p)) := ho.put (by omega) _
        repeat (first | refine RQr ?_ | ((first | refine WL_Q ?_ | refine WR_Q rfl ?_ | refine WR_late rfl rfl rfl (OW_Q ?_)); (first | refine QW_of (Qt_ldX rfl (hn := by with_reducible assumption)) ?_)) | ((first | refine WL_op rfl ?_ | refine WR_late rfl rfl rfl ?_ | refine WR_opG rfl rfl ?_); (first | (refine OE ?_; try intro _) | refine OW_callP rfl (hF := joinP_fn) (hk := ?_)); try refine SD ?_) | refine RC ?_ | refine RU ?_ | refine WC_draw_all (id := 10) 9 (.calm 0 <| .calm 1 <| .calm 2 <| .calm 3 <| .calm 4 <| .calm 5 <| .calm 6 <| .must 7 <| .calm 8 <| .must 9 <| .done) mixed (by kernel_rfl) ?_ | refine WC_region (id := 12) ?_)
        rw [w]
        refine ⟨_, _, by omega, ⟨i + 1, .slice (some ⟨g, off, none⟩) out.length capo, [(g, .cells (putR cur (off + ((n : Nat) : Int).toNat * 2) (wC (joinW q p))) 30 (0, 0))], rfl, by omega, ?_, rfl⟩, ⟨rfl, rfl, rfl, rfl, trivial⟩, rfl, .cons _ (.refl _)⟩
        rw [hnext, sweep1_join hq hnn hlo]
        refine .inr ⟨g, off, capo, _, ?_, rfl, hput⟩
        rw [List.length_set]
      · have d3 : decide (p.1 < q.2) = false := decide_eq_false hlo
        repeat (first | refine RQr ?_ | ((first | refine WL_Q ?_ | refine WL_Y ?_ | refine WR_Q rfl ?_ | refine WR_late rfl rfl rfl (OW_Q ?_) | refine WR_Y rfl ?_); (first | refine QW_of (Qt_ldX rfl (hn := by with_reducible assumption)) ?_)) | ((first | refine WL_op rfl ?_ | refine WL_yes (h := ?_) | refine WR_late rfl rfl rfl ?_ | refine WR_opG rfl rfl ?_ | refine WR_opYG rfl (h := ?_)); (first | (refine OE ?_; try intro _)); try refine SD ?_) | refine RC ?_ | refine RU ?_ | refine WC_draw_all (id := 9) 12 (.calm 0 <| .calm 1 <| .calm 2 <| .calm 3 <| .calm 4 <| .calm 5 <| .calm 6 <| .calm 7 <| .calm 8 <| .calm 9 <| .calm 10 <| .calm 11 <| .done) mixed (by kernel_rfl) ?_ | refine WC_region (id := 11) ?_)
        refine WL_op rfl (OW_append_buf (A := [_, _]) (T := [(g, .cells cur 30 (0, 0))]) (B := T4 ++ L) rfl rfl rfl rfl rfl hb (srcW (w := wC p) (i := 0) rfl rfl rfl) (by decide) (by simp only [maxLen]; omega) (by omega) ?_)
        intro v' T' hb'
        simp only [List.cons_append, List.nil_append]
        repeat (first | refine RQ ?_ | ((first | refine WL_Q ?_); (first | refine QW_of (Qt_ldX rfl (hn := by with_reducible assumption)) ?_)) | (refine RE ?_; try intro _) | refine RC ?_ | refine WC_region (id := 11) ?_ | refine WC_region (id := 12) ?_)
        rw [w]
        refine ⟨_, _, by omega, ⟨i + 1, v', T', rfl, by omega, ?_, rfl⟩, ⟨rfl, rfl, rfl, rfl, trivial⟩, rfl, .cons _ (.cons _ (.refl _))⟩
        rw [hnext, sweep1_add hq hnn hlo]
        unfold BufW
        rw [flatW_snoc, List.length_append]
        exact hb'
  · obtain rfl : i = w4.length := by omega
    have d2 : decide (((w4.length : Nat) : Int) < ((w4.length : Nat) : Int)) = false := decide_eq_false (by omega)
    repeat (first | refine RQ ?_ | ((first | refine WL_Q ?_); (first | refine QW_of (Qt_ldX rfl (hn := by with_reducible assumption)) ?_)) | refine RC ?_ | refine WC_region (id := 6) ?_ | refine WC_region (id := 13) ?_)
    rw [List.take_length] at hb
    exact ⟨rfl, _, T ++ L, Res1 rfl (resV_tmp rfl), List.Sublist.append (.refl _) (List.sublist_append_right _ _), sweepW w4, T, hG, Nat.le_trans (sweepW_len _) hl4, hb, rfl⟩
end Go.Proofs.Ytkjljlmoihkijaa
namespace Go.Proofs.Ytkjljlmoihkijaa
open Go.RowKit
noncomputable def xf6 : XF := ⟨Try.f6, (Try.f6.body).getD .skip, T.ofList [(6, (9, .calm 0 <| .calm 1 <| .calm 2 <| .calm 3 <| .calm 4 <| .calm 5 <| .calm 6 <| .calm 7 <| .calm 8 <| .done))], 33571891⟩
theorem xf6_ok : GoodF Try.prog 6 xf6 := ⟨Try.func6, by kernel_rfl, inferInstance, by kernel_rfl⟩
noncomputable def xf7 : XF := ⟨Try.f7, (Try.f7.body).getD .skip, T.ofList [(9, (12, .calm 0 <| .calm 1 <| .calm 2 <| .calm 3 <| .calm 4 <| .calm 5 <| .calm 6 <| .calm 7 <| .calm 8 <| .calm 9 <| .calm 10 <| .calm 11 <| .done)), (10, (9, .calm 0 <| .calm 1 <| .calm 2 <| .calm 3 <| .calm 4 <| .calm 5 <| .calm 6 <| .must 7 <| .calm 8 <| .must 9 <| .done))], 34360230109⟩
theorem xf7_ok : GoodF Try.prog 7 xf7 := ⟨Try.func7, by kernel_rfl, inferInstance, by kernel_rfl⟩
noncomputable def xf9 : XF := ⟨Try.f9, (Try.f9.body).getD .skip, T.ofList [], 31⟩
theorem xf9_ok : GoodF Try.prog 9 xf9 := ⟨Try.func9, by kernel_rfl, inferInstance, by kernel_rfl⟩
noncomputable def xf10 : XF := ⟨Try.f10, (Try.f10.body).getD .skip, T.ofList [], 31⟩
theorem xf10_ok : GoodF Try.prog 10 xf10 := ⟨Try.func10, by kernel_rfl, inferInstance, by kernel_rfl⟩
noncomputable def xf12 : XF := ⟨Try.f12, (Try.f12.body).getD .skip, T.ofList [], 537399539⟩
theorem xf12_ok : GoodF Try.prog 12 xf12 := ⟨Try.func12, by kernel_rfl, inferInstance, by kernel_rfl⟩
noncomputable def xf13 : XF := ⟨Try.f13, (Try.f13.body).getD .skip, T.ofList [], 21⟩
theorem xf13_ok : GoodF Try.prog 13 xf13 := ⟨Try.func13, by kernel_rfl, inferInstance, by kernel_rfl⟩
noncomputable def xf14 : XF := ⟨Try.f14, (Try.f14.body).getD .skip, T.ofList [], 7⟩
theorem xf14_ok : GoodF Try.prog 14 xf14 := ⟨Try.func14, by kernel_rfl, inferInstance, by kernel_rfl⟩
noncomputable def xf15 : XF := ⟨Try.f15, (Try.f15.body).getD .skip, T.ofList [], 19⟩
theorem xf15_ok : GoodF Try.prog 15 xf15 := ⟨Try.func15, by kernel_rfl, inferInstance, by kernel_rfl⟩
noncomputable def xf16 : XF := ⟨Try.f16, (Try.f16.body).getD .skip, T.ofList [(1, (4, .calm 0 <| .calm 1 <| .must 2 <| .calm 3 <| .done))], 31⟩
theorem xf16_ok : GoodF Try.prog 16 xf16 := ⟨Try.func16, by kernel_rfl, inferInstance, by kernel_rfl⟩
noncomputable def xf17 : XF := ⟨Try.f17, (Try.f17.body).getD .skip, T.ofList [], 34628706291⟩
theorem xf17_ok : GoodF Try.prog 17 xf17 := ⟨Try.func17, by kernel_rfl, inferInstance, by kernel_rfl⟩
noncomputable def xf18 : XF := ⟨Try.f18, (Try.f18.body).getD .skip, T.ofList [(6, (11, .calm 0 <| .calm 1 <| .calm 2 <| .calm 3 <| .calm 4 <| .calm 5 <| .calm 6 <| .calm 7 <| .calm 8 <| .calm 9 <| .must 10 <| .done)), (11, (12, .calm 0 <| .calm 1 <| .calm 2 <| .calm 3 <| .calm 4 <| .calm 5 <| .calm 6 <| .calm 7 <| .calm 8 <| .calm 9 <| .must 10 <| .calm 11 <| .done))], 562984581629171⟩
theorem xf18_ok : GoodF Try.prog 18 xf18 := ⟨Try.func18, by kernel_rfl, inferInstance, by kernel_rfl⟩
noncomputable def xf19 : XF := ⟨Try.f19, (Try.f19.body).getD .skip, T.ofList [], 31⟩
theorem xf19_ok : GoodF Try.prog 19 xf19 := ⟨Try.func19, by kernel_rfl, inferInstance, by kernel_rfl⟩
noncomputable def xf20 : XF := ⟨Try.f20, (Try.f20.body).getD .skip, T.ofList [], 31⟩
theorem xf20_ok : GoodF Try.prog 20 xf20 := ⟨Try.func20, by kernel_rfl, inferInstance, by kernel_rfl⟩
noncomputable def xf23 : XF := ⟨Try.f23, (Try.f23.body).getD .skip, T.ofList [], 2097215⟩
theorem xf23_ok : GoodF Try.prog 23 xf23 := ⟨Try.func23, by kernel_rfl, inferInstance, by kernel_rfl⟩
noncomputable def xf24 : XF := ⟨Try.f24, (Try.f24.body).getD .skip, T.ofList [], 66483⟩
theorem xf24_ok : GoodF Try.prog 24 xf24 := ⟨Try.func24, by kernel_rfl, inferInstance, by kernel_rfl⟩
noncomputable def xf25 : XF := ⟨Try.f25, (Try.f25.body).getD .skip, T.ofList [(17, (17, .calm 0 <| .calm 1 <| .calm 2 <| .calm 3 <| .calm 4 <| .calm 5 <| .calm 6 <| .calm 7 <| .calm 8 <| .calm 9 <| .calm 10 <| .calm 11 <| .calm 12 <| .must 13 <| .calm 14 <| .calm 15 <| .calm 16 <| .done))], 42535296023574879666274036850519702559⟩
theorem xf25_ok : GoodF Try.prog 25 xf25 := ⟨Try.func25, by kernel_rfl, inferInstance, by kernel_rfl⟩
noncomputable def xf26 : XF := ⟨Try.f26, (Try.f26.body).getD .skip, T.ofList [], 5⟩
theorem xf26_ok : GoodF Try.prog 26 xf26 := ⟨Try.func26, by kernel_rfl, inferInstance, by kernel_rfl⟩
noncomputable def xf27 : XF := ⟨Try.f27, (Try.f27.body).getD .skip, T.ofList [], 604275⟩
theorem xf27_ok : GoodF Try.prog 27 xf27 := ⟨Try.func27, by kernel_rfl, inferInstance, by kernel_rfl⟩
noncomputable def xf29 : XF := ⟨Try.f29, (Try.f29.body).getD .skip, T.ofList [(3, (5, .calm 1 <| .calm 2 <| .par [(0, []), (3, [0]), (4, [])] <| .must 5 <| .done))], 34360266783⟩
theorem xf29_ok : GoodF Try.prog 29 xf29 := ⟨Try.func29, by kernel_rfl, inferInstance, by kernel_rfl⟩
noncomputable def xf30 : XF := ⟨Try.f30, (Try.f30.body).getD .skip, T.ofList [(3, (6, .calm 1 <| .calm 2 <| .must 0 <| .calm 3 <| .calm 4 <| .calm 5 <| .done))], 1031⟩
theorem xf30_ok : GoodF Try.prog 30 xf30 := ⟨Try.func30, by kernel_rfl, inferInstance, by kernel_rfl⟩
noncomputable def xf31 : XF := ⟨Try.f31, (Try.f31.body).getD .skip, T.ofList [], 7⟩
theorem xf31_ok : GoodF Try.prog 31 xf31 := ⟨Try.func31, by kernel_rfl, inferInstance, by kernel_rfl⟩
noncomputable def xf32 : XF := ⟨Try.f32, (Try.f32.body).getD .skip, T.ofList [], 127⟩
theorem xf32_ok : GoodF Try.prog 32 xf32 := ⟨Try.func32, by kernel_rfl, inferInstance, by kernel_rfl⟩
noncomputable def xf33 : XF := ⟨Try.f33, (Try.f33.body).getD .skip, T.ofList [], 7⟩
theorem xf33_ok : GoodF Try.prog 33 xf33 := ⟨Try.func33, by kernel_rfl, inferInstance, by kernel_rfl⟩
noncomputable def xf34 : XF := ⟨Try.f34, (Try.f34.body).getD .skip, T.ofList [], 7⟩
theorem xf34_ok : GoodF Try.prog 34 xf34 := ⟨Try.func34, by kernel_rfl, inferInstance, by kernel_rfl⟩
noncomputable def xf35 : XF := ⟨Try.f35, (Try.f35.body).getD .skip, T.ofList [], 7⟩
theorem xf35_ok : GoodF Try.prog 35 xf35 := ⟨Try.func35, by kernel_rfl, inferInstance, by kernel_rfl⟩
noncomputable def xf36 : XF := ⟨Try.f36, (Try.f36.body).getD .skip, T.ofList [], 5⟩
theorem xf36_ok : GoodF Try.prog 36 xf36 := ⟨Try.func36, by kernel_rfl, inferInstance, by kernel_rfl⟩
noncomputable def xf37 : XF := ⟨Try.f37, (Try.f37.body).getD .skip, T.ofList [(4, (17, .calm 0 <| .calm 1 <| .calm 2 <| .calm 3 <| .calm 4 <| .calm 5 <| .calm 6 <| .calm 7 <| .calm 8 <| .calm 9 <| .calm 10 <| .calm 11 <| .calm 12 <| .calm 13 <| .must 14 <| .calm 15 <| .calm 16 <| .done)), (6, (18, .calm 0 <| .calm 1 <| .calm 2 <| .calm 3 <| .calm 4 <| .calm 5 <| .calm 6 <| .calm 7 <| .calm 8 <| .calm 9 <| .calm 10 <| .calm 11 <| .calm 12 <| .calm 13 <| .calm 14 <| .must 15 <| .calm 16 <| .must 17 <| .done))], 17179886351⟩
theorem xf37_ok : GoodF Try.prog 37 xf37 := ⟨Try.func37, by kernel_rfl, inferInstance, by kernel_rfl⟩
noncomputable def xf38 : XF := ⟨Try.f38, (Try.f38.body).getD .skip, T.ofList [(10, (20, .calm 0 <| .calm 1 <| .calm 2 <| .calm 3 <| .calm 4 <| .calm 5 <| .calm 6 <| .calm 7 <| .calm 8 <| .calm 9 <| .calm 10 <| .calm 11 <| .calm 12 <| .calm 13 <| .calm 14 <| .calm 15 <| .calm 16 <| .must 17 <| .calm 18 <| .must 19 <| .done))], 8592039695⟩
theorem xf38_ok : GoodF Try.prog 38 xf38 := ⟨Try.func38, by kernel_rfl, inferInstance, by kernel_rfl⟩
noncomputable def xf39 : XF := ⟨Try.f39, (Try.f39.body).getD .skip, T.ofList [(10, (20, .calm 0 <| .calm 1 <| .calm 2 <| .calm 3 <| .calm 4 <| .calm 5 <| .calm 6 <| .calm 7 <| .calm 8 <| .calm 9 <| .calm 10 <| .calm 11 <| .calm 12 <| .calm 13 <| .calm 14 <| .calm 15 <| .calm 16 <| .must 17 <| .calm 18 <| .must 19 <| .done))], 35218731966223⟩
theorem xf39_ok : GoodF Try.prog 39 xf39 := ⟨Try.func39, by kernel_rfl, inferInstance, by kernel_rfl⟩
noncomputable def xf40 : XF := ⟨Try.f40, (Try.f40.body).getD .skip, T.ofList [], 1333065575601045263⟩
theorem xf40_ok : GoodF Try.prog 40 xf40 := ⟨Try.func40, by kernel_rfl, inferInstance, by kernel_rfl⟩
noncomputable def xf41 : XF := ⟨Try.f41, (Try.f41.body).getD .skip, T.ofList [(3, (16, .calm 0 <| .calm 1 <| .calm 2 <| .calm 3 <| .calm 4 <| .calm 5 <| .calm 6 <| .calm 7 <| .calm 8 <| .calm 9 <| .calm 10 <| .calm 11 <| .calm 12 <| .must 13 <| .calm 14 <| .must 15 <| .done))], 33551⟩
theorem xf41_ok : GoodF Try.prog 41 xf41 := ⟨Try.func41, by kernel_rfl, inferInstance, by kernel_rfl⟩
noncomputable def xf42 : XF := ⟨Try.f42, (Try.f42.body).getD .skip, T.ofList [(5, (18, .calm 0 <| .calm 1 <| .calm 2 <| .calm 3 <| .calm 4 <| .calm 5 <| .calm 6 <| .calm 7 <| .calm 8 <| .calm 9 <| .calm 10 <| .calm 11 <| .calm 12 <| .calm 13 <| .must 14 <| .calm 15 <| .calm 16 <| .calm 17 <| .done)), (11, (18, .calm 0 <| .calm 1 <| .calm 2 <| .calm 3 <| .calm 4 <| .calm 5 <| .calm 6 <| .calm 7 <| .calm 8 <| .calm 9 <| .calm 10 <| .calm 11 <| .calm 12 <| .calm 13 <| .calm 14 <| .must 15 <| .calm 16 <| .must 17 <| .done)), (16, (13, .calm 0 <| .calm 1 <| .calm 2 <| .calm 3 <| .calm 4 <| .calm 5 <| .calm 6 <| .calm 7 <| .calm 8 <| .calm 9 <| .must 10 <| .calm 11 <| .calm 12 <| .done)), (17, (18, .calm 0 <| .calm 1 <| .calm 2 <| .calm 3 <| .calm 4 <| .calm 5 <| .calm 6 <| .calm 7 <| .calm 8 <| .calm 9 <| .calm 10 <| .calm 11 <| .calm 12 <| .calm 13 <| .calm 14 <| .must 15 <| .calm 16 <| .must 17 <| .done)), (22, (13, .calm 0 <| .calm 1 <| .calm 2 <| .calm 3 <| .calm 4 <| .calm 5 <| .calm 6 <| .calm 7 <| .calm 8 <| .calm 9 <| .must 10 <| .calm 11 <| .calm 12 <| .done)), (23, (18, .calm 0 <| .calm 1 <| .calm 2 <| .calm 3 <| .calm 4 <| .calm 5 <| .calm 6 <| .calm 7 <| .calm 8 <| .calm 9 <| .calm 10 <| .calm 11 <| .calm 12 <| .calm 13 <| .calm 14 <| .must 15 <| .calm 16 <| .must 17 <| .done))], 21268317252094917911888073248812900111⟩
theorem xf42_ok : GoodF Try.prog 42 xf42 := ⟨Try.func42, by kernel_rfl, inferInstance, by kernel_rfl⟩
noncomputable def xf43 : XF := ⟨Try.f43, (Try.f43.body).getD .skip, T.ofList [(1, (16, .calm 0 <| .calm 1 <| .calm 2 <| .calm 3 <| .calm 4 <| .calm 5 <| .calm 6 <| .calm 7 <| .calm 8 <| .calm 9 <| .calm 10 <| .calm 11 <| .calm 12 <| .must 13 <| .calm 14 <| .must 15 <| .done)), (3, (17, .calm 0 <| .calm 1 <| .calm 2 <| .calm 3 <| .calm 4 <| .calm 5 <| .calm 6 <| .calm 7 <| .calm 8 <| .calm 9 <| .calm 10 <| .calm 11 <| .calm 12 <| .must 13 <| .calm 14 <| .calm 15 <| .calm 16 <| .done)), (5, (16, .calm 0 <| .calm 1 <| .calm 2 <| .calm 3 <| .calm 4 <| .calm 5 <| .calm 6 <| .calm 7 <| .calm 8 <| .calm 9 <| .calm 10 <| .calm 11 <| .calm 12 <| .must 13 <| .calm 14 <| .calm 15 <| .done)), (8, (16, .calm 0 <| .calm 1 <| .calm 2 <| .calm 3 <| .calm 4 <| .calm 5 <| .calm 6 <| .calm 7 <| .calm 8 <| .calm 9 <| .calm 10 <| .calm 11 <| .calm 12 <| .must 13 <| .calm 14 <| .must 15 <| .done))], 1217485249602318769183⟩
theorem xf43_ok : GoodF Try.prog 43 xf43 := ⟨Try.func43, by kernel_rfl, inferInstance, by kernel_rfl⟩
noncomputable def xf44 : XF := ⟨Try.f44, (Try.f44.body).getD .skip, T.ofList [(1, (16, .calm 0 <| .calm 1 <| .calm 2 <| .calm 3 <| .calm 4 <| .calm 5 <| .calm 6 <| .calm 7 <| .calm 8 <| .calm 9 <| .calm 10 <| .calm 11 <| .calm 12 <| .must 13 <| .calm 14 <| .must 15 <| .done)), (3, (16, .calm 0 <| .calm 1 <| .calm 2 <| .calm 3 <| .calm 4 <| .calm 5 <| .calm 6 <| .calm 7 <| .calm 8 <| .calm 9 <| .calm 10 <| .calm 11 <| .calm 12 <| .must 13 <| .calm 14 <| .calm 15 <| .done)), (5, (17, .calm 0 <| .calm 1 <| .calm 2 <| .calm 3 <| .calm 4 <| .calm 5 <| .calm 6 <| .calm 7 <| .calm 8 <| .calm 9 <| .calm 10 <| .calm 11 <| .calm 12 <| .must 13 <| .calm 14 <| .calm 15 <| .calm 16 <| .done)), (8, (16, .calm 0 <| .calm 1 <| .calm 2 <| .calm 3 <| .calm 4 <| .calm 5 <| .calm 6 <| .calm 7 <| .calm 8 <| .calm 9 <| .calm 10 <| .calm 11 <| .calm 12 <| .must 13 <| .calm 14 <| .must 15 <| .done)), (10, (16, .calm 0 <| .calm 1 <| .calm 2 <| .calm 3 <| .calm 4 <| .calm 5 <| .calm 6 <| .calm 7 <| .calm 8 <| .calm 9 <| .calm 10 <| .calm 11 <| .calm 12 <| .must 13 <| .calm 14 <| .must 15 <| .done)), (13, (16, .calm 0 <| .calm 1 <| .calm 2 <| .calm 3 <| .calm 4 <| .calm 5 <| .calm 6 <| .calm 7 <| .calm 8 <| .calm 9 <| .calm 10 <| .calm 11 <| .calm 12 <| .must 13 <| .calm 14 <| .calm 15 <| .done)), (15, (17, .calm 0 <| .calm 1 <| .calm 2 <| .calm 3 <| .calm 4 <| .calm 5 <| .calm 6 <| .calm 7 <| .calm 8 <| .calm 9 <| .calm 10 <| .calm 11 <| .calm 12 <| .must 13 <| .calm 14 <| .calm 15 <| .calm 16 <| .done)), (18, (16, .calm 0 <| .calm 1 <| .calm 2 <| .calm 3 <| .calm 4 <| .calm 5 <| .calm 6 <| .calm 7 <| .calm 8 <| .calm 9 <| .calm 10 <| .calm 11 <| .calm 12 <| .must 13 <| .calm 14 <| .must 15 <| .done)), (21, (16, .calm 0 <| .calm 1 <| .calm 2 <| .calm 3 <| .calm 4 <| .calm 5 <| .calm 6 <| .calm 7 <| .calm 8 <| .calm 9 <| .calm 10 <| .calm 11 <| .calm 12 <| .must 13 <| .calm 14 <| .must 15 <| .done))], 22997644815212700899627017342834150232570911⟩
theorem xf44_ok : GoodF Try.prog 44 xf44 := ⟨Try.func44, by kernel_rfl, inferInstance, by kernel_rfl⟩
noncomputable def xf45 : XF := ⟨Try.f45, (Try.f45.body).getD .skip, T.ofList [], 277⟩
theorem xf45_ok : GoodF Try.prog 45 xf45 := ⟨Try.func45, by kernel_rfl, inferInstance, by kernel_rfl⟩
noncomputable def xf46 : XF := ⟨Try.f46, (Try.f46.body).getD .skip, T.ofList [], 16661⟩
theorem xf46_ok : GoodF Try.prog 46 xf46 := ⟨Try.func46, by kernel_rfl, inferInstance, by kernel_rfl⟩
noncomputable def xf47 : XF := ⟨Try.f47, (Try.f47.body).getD .skip, T.ofList [], 5⟩
theorem xf47_ok : GoodF Try.prog 47 xf47 := ⟨Try.func47, by kernel_rfl, inferInstance, by kernel_rfl⟩
noncomputable def xf48 : XF := ⟨Try.f48, (Try.f48.body).getD .skip, T.ofList [], 1⟩
theorem xf48_ok : GoodF Try.prog 48 xf48 := ⟨Try.func48, by kernel_rfl, inferInstance, by kernel_rfl⟩
noncomputable def xf49 : XF := ⟨Try.f49, (Try.f49.body).getD .skip, T.ofList [], 34376517743⟩
theorem xf49_ok : GoodF Try.prog 49 xf49 := ⟨Try.func49, by kernel_rfl, inferInstance, by kernel_rfl⟩
noncomputable def xf50 : XF := ⟨Try.f50, (Try.f50.body).getD .skip, T.ofList [], 16883⟩
theorem xf50_ok : GoodF Try.prog 50 xf50 := ⟨Try.func50, by kernel_rfl, inferInstance, by kernel_rfl⟩
noncomputable def xf51 : XF := ⟨Try.f51, (Try.f51.body).getD .skip, T.ofList [], 247⟩
theorem xf51_ok : GoodF Try.prog 51 xf51 := ⟨Try.func51, by kernel_rfl, inferInstance, by kernel_rfl⟩
noncomputable def xf52 : XF := ⟨Try.f52, (Try.f52.body).getD .skip, T.ofList [(3, (22, .calm 0 <| .calm 1 <| .calm 2 <| .calm 3 <| .calm 4 <| .calm 5 <| .calm 6 <| .calm 7 <| .calm 8 <| .calm 9 <| .calm 10 <| .calm 11 <| .calm 12 <| .calm 13 <| .calm 14 <| .calm 15 <| .calm 16 <| .calm 17 <| .calm 18 <| .must 19 <| .calm 20 <| .calm 21 <| .done)), (5, (16, .calm 0 <| .calm 1 <| .calm 2 <| .calm 3 <| .calm 4 <| .calm 5 <| .calm 6 <| .calm 7 <| .calm 8 <| .calm 9 <| .calm 10 <| .calm 11 <| .calm 12 <| .must 13 <| .calm 14 <| .calm 15 <| .done)), (6, (24, .calm 0 <| .calm 1 <| .calm 2 <| .calm 3 <| .calm 4 <| .calm 5 <| .calm 6 <| .calm 7 <| .calm 8 <| .calm 9 <| .calm 10 <| .calm 11 <| .calm 12 <| .calm 13 <| .calm 14 <| .calm 15 <| .calm 16 <| .calm 17 <| .calm 18 <| .calm 19 <| .calm 20 <| .must 21 <| .calm 22 <| .must 23 <| .done))], 288231475663604767⟩
theorem xf52_ok : GoodF Try.prog 52 xf52 := ⟨Try.func52, by kernel_rfl, inferInstance, by kernel_rfl⟩
noncomputable def xf53 : XF := ⟨Try.f53, (Try.f53.body).getD .skip, T.ofList [], 5⟩
theorem xf53_ok : GoodF Try.prog 53 xf53 := ⟨Try.func53, by kernel_rfl, inferInstance, by kernel_rfl⟩
noncomputable def xf54 : XF := ⟨Try.f54, (Try.f54.body).getD .skip, T.ofList [(1, (9, .calm 0 <| .calm 1 <| .calm 2 <| .calm 3 <| .calm 4 <| .calm 5 <| .calm 6 <| .calm 7 <| .calm 8 <| .must 9 <| .done)), (2, (9, .calm 0 <| .calm 1 <| .calm 2 <| .calm 3 <| .calm 4 <| .calm 5 <| .calm 6 <| .calm 7 <| .calm 8 <| .must 9 <| .done)), (3, (9, .calm 0 <| .calm 1 <| .calm 2 <| .calm 3 <| .calm 4 <| .calm 5 <| .calm 6 <| .calm 7 <| .calm 8 <| .must 9 <| .done))], 5⟩
theorem xf54_ok : GoodF Try.prog 54 xf54 := ⟨Try.func54, by kernel_rfl, inferInstance, by kernel_rfl⟩
noncomputable def xf55 : XF := ⟨Try.f55, (Try.f55.body).getD .skip, T.ofList [], 271⟩
theorem xf55_ok : GoodF Try.prog 55 xf55 := ⟨Try.func55, by kernel_rfl, inferInstance, by kernel_rfl⟩
noncomputable def xf56 : XF := ⟨Try.f56, (Try.f56.body).getD .skip, T.ofList [], 4159⟩
theorem xf56_ok : GoodF Try.prog 56 xf56 := ⟨Try.func56, by kernel_rfl, inferInstance, by kernel_rfl⟩
noncomputable def xf57 : XF := ⟨Try.f57, (Try.f57.body).getD .skip, T.ofList [], 5⟩
theorem xf57_ok : GoodF Try.prog 57 xf57 := ⟨Try.func57, by kernel_rfl, inferInstance, by kernel_rfl⟩
noncomputable def xf58 : XF := ⟨Try.f58, (Try.f58.body).getD .skip, T.ofList [], 31⟩
theorem xf58_ok : GoodF Try.prog 58 xf58 := ⟨Try.func58, by kernel_rfl, inferInstance, by kernel_rfl⟩
noncomputable def xf59 : XF := ⟨Try.f59, (Try.f59.body).getD .skip, T.ofList [], 7⟩
theorem xf59_ok : GoodF Try.prog 59 xf59 := ⟨Try.func59, by kernel_rfl, inferInstance, by kernel_rfl⟩
noncomputable def xf60 : XF := ⟨Try.f60, (Try.f60.body).getD .skip, T.ofList [], 71⟩
theorem xf60_ok : GoodF Try.prog 60 xf60 := ⟨Try.func60, by kernel_rfl, inferInstance, by kernel_rfl⟩
noncomputable def xf61 : XF := ⟨Try.f61, (Try.f61.body).getD .skip, T.ofList [(1, (13, .calm 0 <| .calm 1 <| .calm 2 <| .calm 3 <| .calm 4 <| .calm 5 <| .calm 6 <| .calm 7 <| .calm 8 <| .calm 9 <| .calm 10 <| .calm 11 <| .calm 12 <| .must 13 <| .done))], 31⟩
theorem xf61_ok : GoodF Try.prog 61 xf61 := ⟨Try.func61, by kernel_rfl, inferInstance, by kernel_rfl⟩
noncomputable def xf62 : XF := ⟨Try.f62, (Try.f62.body).getD .skip, T.ofList [], 7⟩
theorem xf62_ok : GoodF Try.prog 62 xf62 := ⟨Try.func62, by kernel_rfl, inferInstance, by kernel_rfl⟩
noncomputable def xf63 : XF := ⟨Try.f63, (Try.f63.body).getD .skip, T.ofList [], 7⟩
theorem xf63_ok : GoodF Try.prog 63 xf63 := ⟨Try.func63, by kernel_rfl, inferInstance, by kernel_rfl⟩
noncomputable def xf64 : XF := ⟨Try.f64, (Try.f64.body).getD .skip, T.ofList [], 1052735⟩
theorem xf64_ok : GoodF Try.prog 64 xf64 := ⟨Try.func64, by kernel_rfl, inferInstance, by kernel_rfl⟩
noncomputable def xf65 : XF := ⟨Try.f65, (Try.f65.body).getD .skip, T.ofList [], 7⟩
theorem xf65_ok : GoodF Try.prog 65 xf65 := ⟨Try.func65, by kernel_rfl, inferInstance, by kernel_rfl⟩
noncomputable def xf66 : XF := ⟨Try.f66, (Try.f66.body).getD .skip, T.ofList [], 31⟩
theorem xf66_ok : GoodF Try.prog 66 xf66 := ⟨Try.func66, by kernel_rfl, inferInstance, by kernel_rfl⟩
noncomputable def xf67 : XF := ⟨Try.f67, (Try.f67.body).getD .skip, T.ofList [], 7⟩
theorem xf67_ok : GoodF Try.prog 67 xf67 := ⟨Try.func67, by kernel_rfl, inferInstance, by kernel_rfl⟩
noncomputable def xf68 : XF := ⟨Try.f68, (Try.f68.body).getD .skip, T.ofList [], 7⟩
theorem xf68_ok : GoodF Try.prog 68 xf68 := ⟨Try.func68, by kernel_rfl, inferInstance, by kernel_rfl⟩
noncomputable def xf69 : XF := ⟨Try.f69, (Try.f69.body).getD .skip, T.ofList [(1, (11, .calm 0 <| .calm 1 <| .calm 2 <| .calm 3 <| .calm 4 <| .calm 5 <| .calm 6 <| .calm 7 <| .calm 8 <| .must 9 <| .calm 10 <| .done))], 4197407⟩
theorem xf69_ok : GoodF Try.prog 69 xf69 := ⟨Try.func69, by kernel_rfl, inferInstance, by kernel_rfl⟩
noncomputable def xf70 : XF := ⟨Try.f70, (Try.f70.body).getD .skip, T.ofList [], 7⟩
theorem xf70_ok : GoodF Try.prog 70 xf70 := ⟨Try.func70, by kernel_rfl, inferInstance, by kernel_rfl⟩
noncomputable def xf71 : XF := ⟨Try.f71, (Try.f71.body).getD .skip, T.ofList [], 1⟩
theorem xf71_ok : GoodF Try.prog 71 xf71 := ⟨Try.func71, by kernel_rfl, inferInstance, by kernel_rfl⟩
noncomputable def xf72 : XF := ⟨Try.f72, (Try.f72.body).getD .skip, T.ofList [], 2279⟩
theorem xf72_ok : GoodF Try.prog 72 xf72 := ⟨Try.func72, by kernel_rfl, inferInstance, by kernel_rfl⟩
noncomputable def xf73 : XF := ⟨Try.f73, (Try.f73.body).getD .skip, T.ofList [], 3⟩
theorem xf73_ok : GoodF Try.prog 73 xf73 := ⟨Try.func73, by kernel_rfl, inferInstance, by kernel_rfl⟩
noncomputable def tabL : List (Nat × XF) := [(6, xf6), (7, xf7), (9, xf9), (10, xf10), (12, xf12), (13, xf13), (14, xf14), (15, xf15), (16, xf16), (17, xf17), (18, xf18), (19, xf19), (20, xf20), (23, xf23), (24, xf24), (25, xf25), (26, xf26), (27, xf27), (29, xf29), (30, xf30), (31, xf31), (32, xf32), (33, xf33), (34, xf34), (35, xf35), (36, xf36), (37, xf37), (38, xf38), (39, xf39), (40, xf40), (41, xf41), (42, xf42), (43, xf43), (44, xf44), (45, xf45), (46, xf46), (47, xf47), (48, xf48), (49, xf49), (50, xf50), (51, xf51), (52, xf52), (53, xf53), (54, xf54), (55, xf55), (56, xf56), (57, xf57), (58, xf58), (59, xf59), (60, xf60), (61, xf61), (62, xf62), (63, xf63), (64, xf64), (65, xf65), (66, xf66), (67, xf67), (68, xf68), (69, xf69), (70, xf70), (71, xf71), (72, xf72), (73, xf73)]
noncomputable def tab : T XF := T.ofList tabL
theorem tab_ok : ∀ f x, tab.get f = some x → GoodF Try.prog f x := fun f x h => GoodL.mem (l := tabL) ⟨xf6_ok, xf7_ok, xf9_ok, xf10_ok, xf12_ok, xf13_ok, xf14_ok, xf15_ok, xf16_ok, xf17_ok, xf18_ok, xf19_ok, xf20_ok, xf23_ok, xf24_ok, xf25_ok, xf26_ok, xf27_ok, xf29_ok, xf30_ok, xf31_ok, xf32_ok, xf33_ok, xf34_ok, xf35_ok, xf36_ok, xf37_ok, xf38_ok, xf39_ok, xf40_ok, xf41_ok, xf42_ok, xf43_ok, xf44_ok, xf45_ok, xf46_ok, xf47_ok, xf48_ok, xf49_ok, xf50_ok, xf51_ok, xf52_ok, xf53_ok, xf54_ok, xf55_ok, xf56_ok, xf57_ok, xf58_ok, xf59_ok, xf60_ok, xf61_ok, xf62_ok, xf63_ok, xf64_ok, xf65_ok, xf66_ok, xf67_ok, xf68_ok, xf69_ok, xf70_ok, xf71_ok, xf72_ok, xf73_ok, trivial⟩ (f, x) (T.get_ofList h)
theorem works06_run : trueG Try.prog tab 100000 noPr ⟨.e, 1, [], []⟩ 200 9 = true := by kernel_rfl
theorem works06_fn (L : List (Nat × Obj)) : Fn Try.prog 9 [] L (fun v L' => v = .bool true ∧ L' = L) :=
  runG (bs0 := [(0, 0, 0)]) (M0 := []) noPr_ok mixed tab_ok ⟨rfl, fun k o hk => (by cases hk), fun j k o o' b x y x' y' hj => (by cases hj)⟩ (fun k o hk => (by cases hk)) works06_run L
end Go.Proofs.Ytkjljlmoihkijaa
namespace Go.Proofs.Ytkjljlmoihkijaa
open Go.RowKit
def idxL : Nat → List Value → List (Nat × Value)
  | _, [] => []
  | k, x :: r => (k, x) :: idxL (k + 1) r
theorem fill_idx {n : Nat} : ∀ (xs : List Value) (k : Nat) (pre z : List Value), pre.length = k * n → z.length = xs.length * n → (∀ x ∈ xs, x.cells.size = n) →
    FilledA n (pre ++ z).toArray (idxL k xs) (pre ++ xs.flatMap fun x => x.cells.toList).toArray
  | [], k, pre, z, _, hz, _ => by
    have : z = [] := List.length_eq_zero_iff.1 (by simpa using hz)
    subst this
    show _ = _
    simp
  | x :: r, k, pre, z, hp, hz, hx => by
    have h1 := hx x (by simp)
    have h2 : z.length = r.length * n + n := by rw [hz, List.length_cons, Nat.succ_mul]
    refine ⟨h1, by rw [List.size_toArray, List.length_append]; omega, ?_⟩
    have ih := fill_idx (n := n) r (k + 1) (pre ++ x.cells.toList) (z.drop n) (by rw [List.length_append, hp, Nat.succ_mul, Array.length_toList, h1]) (by rw [List.length_drop]; omega) (fun y hy => hx y (by simp [hy]))
    have e : putR (pre ++ z).toArray (k * n) x.cells = ((pre ++ x.cells.toList) ++ z.drop n).toArray := by
      unfold putR
      rw [← hp, h1]
      simp only [List.take_left, List.drop_append, List.append_assoc]
      rw [List.drop_eq_nil_of_le (by omega), List.nil_append]
      congr 4
      omega
    rw [e]
    simpa using ih
end Go.Proofs.Ytkjljlmoihkijaa
namespace Go.Proofs.Ytkjljlmoihkijaa
open Go.RowKit
def smallW (p : Int × Int) : Int × Int := (p.1.tmod 200, p.1.tmod 200 + p.2.tmod 12)
theorem smallW_r (p : Int × Int) : -200 < (smallW p).1 ∧ (smallW p).1 < 200 ∧ (smallW p).2 < 212 ∧ -212 < (smallW p).2 := by
  unfold smallW
  have h1 := Int.tmod_lt_of_pos p.1 (b := 200) (by decide)
  have h2 := Int.tmod_lt_of_pos p.2 (b := 12) (by decide)
  have h3 := Int.lt_tmod_of_pos p.1 (b := 200) (by decide)
  have h4 := Int.lt_tmod_of_pos p.2 (b := 12) (by decide)
  dsimp only
  omega
theorem flatW_vec {L : List (Nat × Obj)} {a : Option Addr} {cap : Nat} {ws : List (Int × Int)} (h : VecW L (.slice a ws.length cap) ws) {j : Nat} {p : Int × Int} (hj : ws[j]? = some p) : ∃ (g off : Nat) (cur : Array Value) (E : TypeId) (fr : Nat × Nat) (i : Nat), a = some ⟨g, off, none⟩ ∧ L[i]? = some (g, .cells cur E fr) ∧ cur.extract (off + j * 2) (off + j * 2 + 2) = wC p ∧ off + j * 2 + 2 ≤ cur.size ∧ cur[off + j * 2]? = some (.int .i64 p.1) ∧ cur[off + j * 2 + 1]? = some (.int .i64 p.2) := by
  obtain ⟨_, _, e, hor⟩ := VecW.pairs h
  cases e
  have hne : ws ≠ [] := by intro e; rw [e] at hj; simp at hj
  obtain ⟨g, off, cur, E, fr, i, rfl, hi, hc⟩ := hor.resolve_left hne
  obtain ⟨h1, h2⟩ := hc j p hj
  refine ⟨g, off, cur, E, fr, i, rfl, hi, h1, h2, ?_, ?_⟩
  · have := congrArg (fun a : Array Value => a[0]?) h1
    simp only [Array.getElem?_extract] at this
    rwa [if_pos (by omega)] at this
  · have := congrArg (fun a : Array Value => a[1]?) h1
    simp only [Array.getElem?_extract] at this
    rwa [if_pos (by omega)] at this
theorem WL_dropL {c : Cx} {ops : Array Oper} {l : List Oper} {K : Exit → St → Prop} {s : List (Nat × Value)} {D : List Deferred} {L : List (Nat × Obj)} (L' : List (Nat × Obj)) (hs : L'.Sublist L) (h : WL c ops l K ⟨s, D, L'⟩) : WL c ops l K ⟨s, D, L⟩ := fun a w ha => h a w (ha.mem' (ha.mem.sublist hs))
attribute [local irreducible] Fn WC WL WR OW Qt YieldFn QW FnP FnD
set_option maxHeartbeats 4000000 in
theorem few06_fn {v : Value} {ws : List (Int × Int)} {L : List (Nat × Obj)} (hv : VecW L v ws) : Fn Try.prog 5 [v] L (fun r L' => ∃ ra Ta rb Tb, r = .tuple #[ra, rb] ∧ BufW ra Ta (ws.take 40) ∧ BufW rb Tb ((ws.take 40).map smallW) ∧ L' = Ta ++ (Tb ++ L)) := by
  obtain ⟨_, a1, cap1, rfl, hle, hm, hor⟩ := id hv
  refine Fn_enter Try.func5 rfl Try.ntmps5 rfl fun gw => ?_
  repeat (first | refine RQ ?_ | ((first | refine WL_Q ?_); (first | refine QW_of (Qt_buildA rfl (hf := pair_fill)) ?_ | refine QW_of (Qt_ldX rfl (hn := by with_reducible assumption)) ?_ | refine QW_of (Qt_buildA rfl (hf := two_fill)) ?_ | refine QW_of (Qt_indexV rfl (hv := by with_reducible assumption)) ?_)) | refine RC ?_ | refine WC_region (id := 0) ?_ | refine WC_region (id := 1) ?_ | refine WC_region (id := 2) ?_)
  refine WC_wk [(6, .int .i64 0), (5, .slice none 0 0), (4, .slice none 0 0), (0, .slice a1 ws.length cap1)] ⟨rfl, rfl, rfl, rfl, trivial⟩ ?_
  refine WC_loop (fun m σ => ∃ (i : Nat) (ra rb : Value) (Ta Tb : List (Nat × Obj)), m = 40 - i ∧ i ≤ 40 ∧ i ≤ ws.length ∧ BufW ra Ta (ws.take i) ∧ BufW rb Tb ((ws.take i).map smallW) ∧ σ = ⟨[(6, .int .i64 i), (5, rb), (4, ra), (0, .slice a1 ws.length cap1)], [], Ta ++ (Tb ++ L)⟩) 40 ⟨0, _, _, [], [], by omega, by omega, by omega, Buf.nil _ _, Buf.nil _ _, rfl⟩ ?_
  rintro m σ ⟨i, ra, rb, Ta, Tb, rfl, hi, hil, hba, hbb, rfl⟩
  by_cases hlt : i < ws.length
  · have d2 : decide ((i : Int) < ((ws.length : Nat) : Int)) = true := decide_eq_true (by omega)
    by_cases h40 : i < 40
    · have d3 : decide ((i : Int) < 40) = true := decide_eq_true (by omega)
      obtain ⟨p, hp⟩ : ∃ p, ws[i]? = some p := ⟨_, List.getElem?_eq_getElem hlt⟩
      obtain ⟨g1, o1, cu1, E1, fr1, i1, rfl, hi1, x1, z1, q0, q1⟩ := flatW_vec hv hp
      have p0 : (0 : Int) ≤ (i : Int) := by omega
      have p1 : ((i : Nat) : Int) < ((ws.length : Nat) : Int) := by omega
      have y1 : o1 + ((i : Nat) : Int).toNat * 2 + 2 ≤ cu1.size := by rw [Int.toNat_natCast]; exact z1
      have v1 : cu1.extract (o1 + ((i : Nat) : Int).toNat * 2) (o1 + ((i : Nat) : Int).toNat * 2 + 2) = wC p := by rw [Int.toNat_natCast]; exact x1
      have w : IntKind.i64.wrap ((i : Int) + 1) = ((i + 1 : Nat) : Int) := by rw [wI64 (by omega) (by omega)]; omega
      have hsm := smallW_r p
      unfold smallW at hsm
      have ws2 : IntKind.i64.wrap (p.1.tmod 200 + p.2.tmod 12) = p.1.tmod 200 + p.2.tmod 12 := wI64 (by omega) (by omega)
      have hm1 : (Ta ++ (Tb ++ L))[Ta.length + (Tb.length + i1)]? = some (g1, .cells cu1 E1 fr1) := by rw [List.getElem?_append_right (by omega), Nat.add_sub_cancel_left, List.getElem?_append_right (by omega), Nat.add_sub_cancel_left]; exact hi1
      have q0' : cu1[o1 + ((i : Nat) : Int).toNat * 2 + (0 : Int).toNat * 1]? = some (.int .i64 p.1) := by rw [Int.toNat_natCast]; exact q0
      have q1' : cu1[o1 + ((i : Nat) : Int).toNat * 2 + (1 : Int).toNat * 1]? = some (.int .i64 p.2) := by rw [Int.toNat_natCast]; exact q1
      have htk : ws.take (i + 1) = ws.take i ++ [p] := by rw [List.take_add_one, hp]; rfl
      have hlen : (ws.take i).length ≤ 40 := by rw [List.length_take]; omega
      repeat (first | refine RQ ?_ | ((first | refine WL_Q ?_ | refine WL_Y ?_); (first | refine QW_of (Qt_buildA rfl (hf := pair_fill)) ?_ | refine QW_of (Qt_ldX rfl (hn := by with_reducible assumption)) ?_ | refine QW_of (Qt_buildA rfl (hf := two_fill)) ?_ | refine QW_of (Qt_indexV rfl (hv := by with_reducible assumption)) ?_)) | (refine RE ?_; try intro _) | refine RC ?_ | refine WC_region (id := 3) ?_ | refine WC_region (id := 5) ?_)
      rw [v1]
      repeat (first | refine RQ ?_ | ((first | refine WL_Q ?_); (first | refine QW_of (Qt_buildA rfl (hf := pair_fill)) ?_ | refine QW_of (Qt_ldX rfl (hn := by with_reducible assumption)) ?_ | refine QW_of (Qt_buildA rfl (hf := two_fill)) ?_ | refine QW_of (Qt_indexV rfl (hv := by with_reducible assumption)) ?_)) | (refine RE ?_; try intro _) | refine RC ?_ | refine WC_region (id := 5) ?_)
      refine WL_op rfl (OW_append_buf (A := [_]) (T := Ta) (B := Tb ++ L) rfl rfl rfl rfl rfl hba (srcW (w := wC p) (i := 0) rfl rfl rfl) (by decide) (by simp only [maxLen]; omega) (by omega) ?_)
      intro ra' Ta' hba'
      simp only [List.cons_append, List.nil_append]
      rename_i xq
      refine WL_dropL (Ta' ++ (Tb ++ L)) (.cons _ (.refl _)) ?_
      have hm2 : (Ta' ++ (Tb ++ L))[Ta'.length + (Tb.length + i1)]? = some (g1, .cells cu1 E1 fr1) := by rw [List.getElem?_append_right (by omega), Nat.add_sub_cancel_left, List.getElem?_append_right (by omega), Nat.add_sub_cancel_left]; exact hi1
      repeat (first | refine RQ ?_ | ((first | refine WL_Q ?_); (first | refine QW_of (Qt_buildA rfl (hf := pair_fill)) ?_ | refine QW_of (Qt_ldX rfl (hn := by with_reducible assumption)) ?_ | refine QW_of (Qt_buildA rfl (hf := two_fill)) ?_ | refine QW_of (Qt_indexV rfl (hv := by with_reducible assumption)) ?_)) | (refine RE ?_; try intro _) | refine RC ?_ | refine WC_region (id := 5) ?_ | refine WC_region (id := 6) ?_ | refine WC_region (id := 7) ?_)
      rw [ws2]
      have hl2 : ((ws.take i).map smallW).length ≤ 40 := by rw [List.length_map]; exact hlen
      refine WL_op rfl (OW_append_buf (A := _ :: Ta') (T := Tb) (B := L) rfl rfl rfl rfl rfl hbb (srcW (w := wC (smallW p)) (i := 0) rfl rfl rfl) (by decide) (by simp only [maxLen]; omega) (by omega) ?_)
      intro rb' Tb' hbb'
      simp only [List.cons_append]
      repeat (first | refine RQ ?_ | ((first | refine WL_Q ?_); (first | refine QW_of (Qt_buildA rfl (hf := pair_fill)) ?_ | refine QW_of (Qt_ldX rfl (hn := by with_reducible assumption)) ?_ | refine QW_of (Qt_buildA rfl (hf := two_fill)) ?_ | refine QW_of (Qt_indexV rfl (hv := by with_reducible assumption)) ?_)) | (refine RE ?_; try intro _) | refine RC ?_ | refine WC_region (id := 7) ?_ | refine WC_region (id := 4) ?_)
      rw [w]
      refine ⟨_, _, by omega, ⟨i + 1, ra', rb', Ta', Tb', rfl, by omega, by omega, ?_, ?_, rfl⟩, ⟨rfl, rfl, rfl, rfl, trivial⟩, rfl, .cons _ (.refl _)⟩
      · rw [htk]
        unfold BufW
        rw [flatW_snoc, List.length_append]
        exact hba'
      · rw [htk, List.map_append, List.map_singleton]
        unfold BufW
        rw [flatW_snoc, List.length_append]
        exact hbb'
    · obtain rfl : i = 40 := by omega
      have d3 : decide (((40 : Nat) : Int) < 40) = false := by decide
      repeat (first | refine RQ ?_ | ((first | refine WL_Q ?_ | refine WL_Y ?_); (first | refine QW_of (Qt_buildA rfl (hf := pair_fill)) ?_ | refine QW_of (Qt_ldX rfl (hn := by with_reducible assumption)) ?_ | refine QW_of (Qt_buildA rfl (hf := two_fill)) ?_ | refine QW_of (Qt_indexV rfl (hv := by with_reducible assumption)) ?_)) | refine RC ?_ | refine WC_region (id := 3) ?_ | refine WC_region (id := 8) ?_)
      exact ⟨rfl, _, _, Res2 rfl (resV_tmp rfl) (resV_tmp rfl), .refl _, ra, Ta, rb, Tb, rfl, hba, hbb, rfl⟩
  · have d2 : decide ((i : Int) < ((ws.length : Nat) : Int)) = false := decide_eq_false (by omega)
    have e : ws.take 40 = ws.take i := by rw [List.take_of_length_le (by omega), List.take_of_length_le (by omega)]
    repeat (first | refine RQ ?_ | ((first | refine WL_Q ?_ | refine WL_Y ?_); (first | refine QW_of (Qt_buildA rfl (hf := pair_fill)) ?_ | refine QW_of (Qt_ldX rfl (hn := by with_reducible assumption)) ?_ | refine QW_of (Qt_buildA rfl (hf := two_fill)) ?_ | refine QW_of (Qt_indexV rfl (hv := by with_reducible assumption)) ?_)) | refine RC ?_ | refine WC_region (id := 3) ?_ | refine WC_region (id := 8) ?_)
    exact ⟨rfl, _, _, Res2 rfl (resV_tmp rfl) (resV_tmp rfl), .refl _, ra, Ta, rb, Tb, rfl, by rw [e]; exact hba, by rw [e]; exact hbb, rfl⟩
theorem fillA2 {z : Array Value} (xs : List Value) (n : Nat) (hz : z.size = xs.length * n) (h1 : (xs.all fun x => x.cells.size == n) = true) : FilledA n z (idxL 0 xs) (xs.flatMap fun x => x.cells.toList).toArray := by
  have hc : ∀ x ∈ xs, x.cells.size = n := fun x hx => by simpa using List.all_eq_true.1 h1 x hx
  have hf := fill_idx (n := n) xs 0 [] z.toList (by simp) (by rw [Array.length_toList, hz]) hc
  rwa [List.nil_append, List.nil_append, Array.toArray_toList] at hf
instance : TBuildA Try.prog 25 zc25 1 := ⟨fun _ => by kernel_rfl⟩
theorem two_fill {a b : Option Addr} {n m c d : Nat} : FilledA 1 zc25 [(0, .slice a n c), (1, .slice b m d)] #[.slice a n c, .slice b m d] := fillA2 [.slice a n c, .slice b m d] 1 rfl rfl
theorem same2_fn {ws o1 o2 : List (Int × Int)} {u v : Value} {T1 T2 L : List (Nat × Obj)} (hn : ws.length ≤ 100000) (hG1 : Gath ws o1) (hG2 : Gath ws o2) (hl : o1.length ≤ ws.length) (hb1 : BufW u T1 o1) (hb2 : BufW v T2 o2) : Fn Try.prog 6 [u, v] (T2 ++ (T1 ++ L)) (fun r L' => r = .bool true ∧ L' = T2 ++ (T1 ++ L)) := by
  obtain rfl := Gath.unique hG1 hG2
  exact sameW_fn (Nat.le_trans hl (by omega)) (VecW.pairs ((hb1.vec0 L).app T2)) (VecW.pairs (hb2.vec0 _))
set_option maxHeartbeats 4000000 in
theorem gathers_fn {v : Value} {ws : List (Int × Int)} {L : List (Nat × Obj)} (hv : VecW L v ws) : Fn Try.prog 3 [v] L (fun r L' => r = .bool true ∧ L' = L) := by
  refine Fn_enter Try.func3 rfl Try.ntmps3 rfl fun gw => ?_
  repeat (first | refine RQ ?_ | ((first | refine WL_Q ?_); (first | refine QW_of (Qt_buildA rfl (hf := pair_fill)) ?_ | refine QW_of (Qt_ldX rfl (hn := by with_reducible assumption)) ?_ | refine QW_of (Qt_buildA rfl (hf := two_fill)) ?_ | refine QW_of (Qt_indexV rfl (hv := by with_reducible assumption)) ?_)) | ((first | refine WL_op rfl ?_); (first | (refine OW_call rfl (hF := few06_fn hv) (hk := ?_); rintro _ _ ⟨ra, Ta, rb, Tb, rfl, hba, hbb, rfl⟩))) | refine RC ?_ | refine WC_region (id := 0) ?_ | refine WC_region (id := 1) ?_)
  obtain ⟨aa, ca, rfl, _, _⟩ := hba.val
  obtain ⟨ab, cb, rfl, _, _⟩ := hbb.val
  have hn40 : (ws.take 40).length ≤ 40 := by rw [List.length_take]; omega
  have hn41 : ((ws.take 40).map smallW).length ≤ 40 := by rw [List.length_map]; exact hn40
  generalize hwa : ws.take 40 = wa at hba hbb hn40 hn41
  generalize hwb : wa.map smallW = wb at hbb hn41
  have hva : VecW (Ta ++ (Tb ++ L)) (.slice aa wa.length ca) wa := hba.vec0 _
  have hvb : VecW (Ta ++ (Tb ++ L)) (.slice ab wb.length cb) wb := (hbb.vec0 L).app Ta
  repeat (first | refine RQ ?_ | ((first | refine WL_Q ?_); (first | refine QW_of (Qt_buildA rfl (hf := pair_fill)) ?_ | refine QW_of (Qt_ldX rfl (hn := by with_reducible assumption)) ?_ | refine QW_of (Qt_buildA rfl (hf := two_fill)) ?_ | refine QW_of (Qt_indexV rfl (hv := by with_reducible assumption)) ?_)) | refine RC ?_ | refine WC_region (id := 2) ?_)
  refine WC_wk [(17, .int .i64 0), (16, .agg #[.slice aa wa.length ca, .slice ab wb.length cb]), (4, .slice ab wb.length cb), (3, .slice aa wa.length ca), (0, v)] (by exact ⟨rfl, rfl, rfl, rfl, rfl, trivial⟩) ?_
  refine WC_unroll 3 (WCn_s ?_)
  have hx0 : (#[.slice aa wa.length ca, .slice ab wb.length cb] : Array Value)[(0 : Int).toNat * 1]? = some (.slice aa wa.length ca) := rfl
  have hx1 : (#[.slice aa wa.length ca, .slice ab wb.length cb] : Array Value)[(IntKind.i64.wrap (0 + 1)).toNat * 1]? = some (.slice ab wb.length cb) := rfl
  have hn4 : wa.length ≤ 100000 := by omega
  have hvG := hva
  repeat (first | refine RQ ?_ | ((first | refine WL_Q ?_); (first | refine QW_of (Qt_buildA rfl (hf := pair_fill)) ?_ | refine QW_of (Qt_ldX rfl (hn := by with_reducible assumption)) ?_ | refine QW_of (Qt_buildA rfl (hf := two_fill)) ?_ | refine QW_of (Qt_indexV rfl (hv := by with_reducible assumption)) ?_)) | ((first | refine WL_op rfl ?_); (first | (refine OW_call rfl (hF := gather_fn hn4 hvG) (hk := ?_); rintro v1 _ ⟨o1, T1, hG1, hl1, hb1, rfl⟩) | (refine OW_call rfl (hF := rGather_fn hn4 (hvG.app T1)) (hk := ?_); rintro v2 _ ⟨o2, T2, hG2, hl2, hb2, rfl⟩) | refine OW_callP rfl (hF := same2_fn hn4 hG1 hG2 hl1 hb1 hb2) (hk := ?_))) | refine RC ?_ | refine WC_region (id := 3) ?_ | refine WC_region (id := 4) ?_ | refine WC_region (id := 5) ?_)
  repeat (first | refine RQ ?_ | ((first | refine WL_Q ?_); (first | refine QW_of (Qt_buildA rfl (hf := pair_fill)) ?_ | refine QW_of (Qt_ldX rfl (hn := by with_reducible assumption)) ?_ | refine QW_of (Qt_buildA rfl (hf := two_fill)) ?_ | refine QW_of (Qt_indexV rfl (hv := by with_reducible assumption)) ?_)) | refine RC ?_ | refine WC_region (id := 7) ?_)
  refine WC_wk [(17, .int .i64 (IntKind.i64.wrap (0 + 1))), (16, .agg #[.slice aa wa.length ca, .slice ab wb.length cb]), (4, .slice ab wb.length cb), (3, .slice aa wa.length ca), (0, v)] ⟨rfl, rfl, rfl, rfl, rfl, trivial⟩ ?_
  refine WC_dropL (Ta ++ (Tb ++ L)) (.trans (List.sublist_append_right _ _) (List.sublist_append_right _ _)) ?_
  clear hvG hn4 hG1 hG2 hl1 hl2 hb1 hb2
  have hn4 : wb.length ≤ 100000 := by omega
  have hvG := hvb
  repeat (first | refine RQ ?_ | ((first | refine WL_Q ?_); (first | refine QW_of (Qt_buildA rfl (hf := pair_fill)) ?_ | refine QW_of (Qt_ldX rfl (hn := by with_reducible assumption)) ?_ | refine QW_of (Qt_buildA rfl (hf := two_fill)) ?_ | refine QW_of (Qt_indexV rfl (hv := by with_reducible assumption)) ?_)) | ((first | refine WL_op rfl ?_); (first | (refine OW_call rfl (hF := gather_fn hn4 hvG) (hk := ?_); rintro v1 _ ⟨o1, T1, hG1, hl1, hb1, rfl⟩) | (refine OW_call rfl (hF := rGather_fn hn4 (hvG.app T1)) (hk := ?_); rintro v2 _ ⟨o2, T2, hG2, hl2, hb2, rfl⟩) | refine OW_callP rfl (hF := same2_fn hn4 hG1 hG2 hl1 hb1 hb2) (hk := ?_))) | refine RC ?_ | refine WC_region (id := 3) ?_ | refine WC_region (id := 4) ?_ | refine WC_region (id := 5) ?_)
  repeat (first | refine RQ ?_ | ((first | refine WL_Q ?_); (first | refine QW_of (Qt_buildA rfl (hf := pair_fill)) ?_ | refine QW_of (Qt_ldX rfl (hn := by with_reducible assumption)) ?_ | refine QW_of (Qt_buildA rfl (hf := two_fill)) ?_ | refine QW_of (Qt_indexV rfl (hv := by with_reducible assumption)) ?_)) | refine RC ?_ | refine WC_region (id := 7) ?_)
  refine WC_wk [(17, .int .i64 (IntKind.i64.wrap (IntKind.i64.wrap (0 + 1) + 1))), (4, .slice ab wb.length cb), (3, .slice aa wa.length ca), (0, v)] ⟨rfl, rfl, rfl, rfl, trivial⟩ ?_
  refine WC_dropL (Ta ++ (Tb ++ L)) (.trans (List.sublist_append_right _ _) (List.sublist_append_right _ _)) ?_
  clear hvG hn4 hG1 hG2 hl1 hl2 hb1 hb2
  have hv2 := (hv.app Tb).app Ta
  repeat (first | refine RQ ?_ | ((first | refine WL_Q ?_); (first | refine QW_of (Qt_buildA rfl (hf := pair_fill)) ?_ | refine QW_of (Qt_ldX rfl (hn := by with_reducible assumption)) ?_ | refine QW_of (Qt_buildA rfl (hf := two_fill)) ?_ | refine QW_of (Qt_indexV rfl (hv := by with_reducible assumption)) ?_)) | ((first | refine WL_op rfl ?_); (first | (refine OW_call rfl (hF := few06_fn hv2) (hk := ?_); rintro _ _ ⟨rc, Tc, rd, Td, rfl, hbc, hbd, rfl⟩))) | refine RC ?_ | refine WC_region (id := 3) ?_ | refine WC_region (id := 8) ?_)
  rw [hwa] at hbc hbd
  rw [hwb] at hbd
  have hpa : PairsAt (Tc ++ (Td ++ (Ta ++ (Tb ++ L)))) (.slice aa wa.length ca) wa := VecW.pairs ((hva.app Td).app Tc)
  have hpb : PairsAt (Tc ++ (Td ++ (Ta ++ (Tb ++ L)))) (.slice ab wb.length cb) wb := VecW.pairs ((hvb.app Td).app Tc)
  have hpc : PairsAt (Tc ++ (Td ++ (Ta ++ (Tb ++ L)))) rc wa := VecW.pairs (hbc.vec0 _)
  have hpd : PairsAt (Tc ++ (Td ++ (Ta ++ (Tb ++ L)))) rd wb := VecW.pairs ((hbd.vec0 _).app Tc)
  repeat (first | refine RQ ?_ | ((first | refine WL_Q ?_ | refine WL_Y ?_); (first | refine QW_of (Qt_buildA rfl (hf := pair_fill)) ?_ | refine QW_of (Qt_ldX rfl (hn := by with_reducible assumption)) ?_ | refine QW_of (Qt_buildA rfl (hf := two_fill)) ?_ | refine QW_of (Qt_indexV rfl (hv := by with_reducible assumption)) ?_)) | ((first | refine WL_op rfl ?_ | refine WL_yes (h := ?_)); (first | refine OW_callP rfl (hF := works06_fn _) (hk := ?_) | (refine OW_call rfl (hF := few06_fn hv2) (hk := ?_); rintro _ _ ⟨rc, Tc, rd, Td, rfl, hbc, hbd, rfl⟩) | refine OW_callP rfl (hF := sameW_fn (by omega) hpa hpc) (hk := ?_) | refine OW_callP rfl (hF := sameW_fn (by omega) hpb hpd) (hk := ?_))) | refine RC ?_ | refine WC_region (id := 8) ?_ | refine WC_region (id := 9) ?_)
  exact ⟨rfl, _, L, Res1 rfl (resV_tmp rfl), .trans (List.sublist_append_right _ _) (.trans (List.sublist_append_right _ _) (.trans (List.sublist_append_right _ _) (List.sublist_append_right _ _))), rfl, rfl⟩
end Go.Proofs.Ytkjljlmoihkijaa
