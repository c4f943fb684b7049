/-
  A part of what the last of these texts needs; by itself it proves no statement.
-/
import Derived.Test.YtncgndcepoicbaaGreatKH23
namespace Go.Proofs.YtncgndcepoicbaaGreat
open Go.RowKit
theorem loF_len {G : List (Nat × Obj)} : ∀ {lo : List (OwnV × List Value)}, (∀ q ∈ lo, OwnIn G q.2 q.1) → (loF lo).length = lo.length * 5
  | [], _ => rfl
  | q :: r, h => by
    have ih := loF_len (lo := r) fun q hq => h q (.tail _ hq)
    have h1 := (h q (.head _)).len
    unfold loF at ih ⊢
    rw [List.flatMap_cons, List.length_append, ih, h1, List.length_cons]
    omega
theorem loF_one {G : List (Nat × Obj)} {lo : List (OwnV × List Value)} (h : ∀ q ∈ lo, OwnIn G q.2 q.1) : ∀ u ∈ loF lo, u.oneCell' = true := by
  intro u hu
  obtain ⟨q, hq, hu⟩ := List.mem_flatMap.1 hu
  exact (h q hq).one u hu
theorem perm_hl1 {α : Type} (a h m : α) (F : List α) : (a :: h :: m :: F).Perm (h :: a :: m :: ([] ++ ([] ++ F))) := .swap ..
theorem perm_hl2 {α : Type} (h a m : α) (Ts T X F : List α) : (Ts ++ h :: a :: m :: (T ++ (X ++ F))).Perm (h :: a :: m :: (T ++ ((Ts ++ X) ++ F))) := by
  classical
  rw [List.perm_iff_count]
  intro z
  simp only [List.count_append, List.count_cons]
  omega
theorem perm_hl3 {α : Type} (x5 x6 h a m : α) (T X F : List α) : (x6 :: x5 :: h :: a :: m :: (T ++ (X ++ F))).Perm (h :: a :: m :: (T ++ ((x6 :: x5 :: X) ++ F))) := by
  classical
  rw [List.perm_iff_count]
  intro z
  simp only [List.count_append, List.count_cons]
  omega
theorem perm_hl4 {α : Type} (xs x5 x6 h a m : α) (T X F : List α) : (xs :: x6 :: x5 :: h :: a :: m :: (T ++ (X ++ F))).Perm (h :: a :: m :: (T ++ ((xs :: x6 :: x5 :: X) ++ F))) := by
  classical
  rw [List.perm_iff_count]
  intro z
  simp only [List.count_append, List.count_cons]
  omega
theorem perm_hl5 {α : Type} (h a m : α) (T X F : List α) : (h :: a :: m :: (T ++ (X ++ F))).Perm ([h, m] ++ ((a :: (T ++ X)) ++ F)) := by
  classical
  rw [List.perm_iff_count]
  intro z
  simp only [List.count_append, List.count_cons, List.count_nil]
  omega
attribute [local irreducible] Fn WC WL WR OW Qt YieldFn QW FnP FnD FnE
set_option maxHeartbeats 4000000 in
theorem learn_fn {hb tb : Nat} {t : TbV} {w : Int} {m : PlK → Bool × Bool} {S G F : List (Nat × Obj)} (hT : TbOk t) (hIn : TabIn tb F t) (h : HandAt hb tb S G t w m) : Fn Tryz.prog 126 [.pointer (some ⟨hb, 0, none⟩)] (S ++ F) (fun _ L' => ∃ S' X, L' = S' ++ (X ++ F) ∧ HandL hb tb S' (X ++ G) t w m) := by
  obtain ⟨kn, rv, av, ⟨mb, es, cl, ps, rfl, hE, hP⟩, hk0, hk1, hk⟩ := h.h
  have hfew := hT.few
  have wc : IntKind.i64.wrap (((t.cmds.length : Nat) : Int) + 1) = ((t.cmds.length : Nat) : Int) + 1 := wI64 (by omega) (by omega)
  refine Fn_enter Tryz.func126 rfl Tryz.ntmps126 rfl fun g => ?_
  simp only [List.cons_append, List.nil_append]
  by_cases hkn : kn = ((t.cmds.length : Nat) : Int) + 1
  · have d1 : (kn == IntKind.i64.wrap (((t.cmds.length : Nat) : Int) + 1)) = true := by rw [wc]; simpa using hkn
    repeat (first | refine RQr ?_ | (refine OX ?_; (first | refine OW_callP rfl (hF := count_fn (hIn.mem fun q hq => .tail _ (.tail _ hq))) (hk := ?_)); try refine SD ?_) | refine RC ?_ | refine RU ?_ | refine WC_draw_all (id := 0) 11 (Cs [0,1,2,3,4,5,6,7] <| .must 8 <| Cs [9,10] <| .done) mixed (by kernel_rfl) ?_)
    refine ⟨rfl, _, _, Res0 rfl, .refl _, [_, _], [], rfl, rv, av, ⟨mb, es, cl, ps, by rw [hkn], hE, hP⟩, ?_⟩
    rw [List.nil_append]
    exact hk hkn
  have d1 : (kn == IntKind.i64.wrap (((t.cmds.length : Nat) : Int) + 1)) = false := by rw [wc]; simpa using hkn
  clear hk
  repeat (first | refine RQr ?_ | (refine OX ?_; (first | (refine OE ?_; try intro _) | refine OW_callP rfl (hF := count_fn (hIn.mem fun q hq => .tail _ (.tail _ hq))) (hk := ?_)); try refine SD ?_) | refine RC ?_ | refine RU ?_ | refine WC_draw_all (id := 0) 11 (Cs [0,1,2,3,4,5,6,7] <| .must 8 <| Cs [9,10] <| .done) mixed (by kernel_rfl) ?_ | refine WG 1 ?_)
  refine WL_op rfl (OW_makeMap rfl fun ab => ?_)
  repeat (first | refine RQ ?_ | (refine RE ?_; try intro _) | (refine WL_op rfl ?_; (first | refine OW_callP rfl (hF := count_fn (hIn.mem fun q hq => .tail _ (.tail _ hq))) (hk := ?_))) | refine RC ?_ | refine WG 1 ?_ | refine WG 2 ?_)
  rw [wc]
  refine WC_wk [(34, iV ((0 : Nat) : Int)), (0, .pointer (some ⟨hb, 0, none⟩))] ⟨rfl, rfl, trivial⟩ ?_
  refine WC_permT (L' := (hb, Obj.cells (hnC tb w mb (((t.cmds.length : Nat) : Int) + 1) (.slice none 0 0) (.map (some ab))) 150 (0, 0)) :: (ab, Obj.map #[] 0) :: (mb, Obj.map es cl) :: ([] ++ ([] ++ F))) (perm_hl1 ..) ?_
  refine WC_loop (fun q σ => ∃ (j : Nat) (lo : List (OwnV × List Value)) (T X : List (Nat × Obj)) (rv : Value) (es' : Array MapEntry) (cl' : Nat), q = 8 - j ∧ j ≤ 8 ∧ lo.map Prod.fst = hownL w t j ∧ (∀ q ∈ lo, OwnIn X q.2 q.1) ∧ Buf 156 5 rv T lo.length (loF lo) ∧ EntV pairK es'.toList (loK lo) ∧ σ = ⟨[(34, iV (j : Int)), (0, .pointer (some ⟨hb, 0, none⟩))], [], (hb, Obj.cells (hnC tb w mb (((t.cmds.length : Nat) : Int) + 1) rv (.map (some ab))) 150 (0, 0)) :: (ab, Obj.map es' cl') :: (mb, Obj.map es cl) :: (T ++ (X ++ F))⟩) 8 ⟨0, [], [], [], .slice none 0 0, #[], 0, rfl, by decide, rfl, nofun, Buf.nil _ _, EntV.empty _, rfl⟩ ?_
  rintro _ σ ⟨j, lo, T, X, rv, es', cl', rfl, hj, hlo, hOw, hbf, hEn, rfl⟩
  by_cases hj8 : j < 8
  rotate_left
  · have d2 : decide ((j : Int) < 8) = false := decide_eq_false (by omega)
    obtain rfl : j = 8 := by omega
    refine WC_permT (L' := [(hb, Obj.cells (hnC tb w mb (((t.cmds.length : Nat) : Int) + 1) rv (.map (some ab))) 150 (0, 0)), (mb, Obj.map es cl)] ++ (((ab, Obj.map es' cl') :: (T ++ X)) ++ F)) (perm_hl5 ..).symm ?_
    repeat (first | refine RQ ?_ | refine RC ?_ | refine WG 3 ?_)
    refine ⟨rfl, _, _, Res0 rfl, .refl _, [(hb, _), (mb, _)], (ab, Obj.map es' cl') :: (T ++ X), rfl, rv, .map (some ab), ⟨mb, es, cl, ps, rfl, hE, hP⟩, lo, hlo, fun q hq => (hOw q hq).mem fun z hz => .tail _ (List.mem_append_left _ (List.mem_append_right _ hz)), hbf.vecM.mem fun z hz => .tail _ (List.mem_append_left _ (List.mem_append_left _ hz)), ab, es', cl', rfl, .head _, hEn⟩
  have d2 : decide ((j : Int) < 8) = true := decide_eq_true (by omega)
  obtain ⟨row, hrow⟩ : ∃ row, row = rowT t j := ⟨_, rfl⟩
  obtain ⟨hro, hrs⟩ := hT.rowT hj8
  rw [← hrow] at hro hrs
  have hrl := hT.short row (List.mem_of_getElem? hrs)
  have hsp : ∀ M : List (Nat × Obj), (∀ q ∈ F, q ∈ M) → Fn Tryz.prog 25 [.pointer (some ⟨tb, 0, none⟩), iV (j : Int)] M (fun v L' => ∃ T, L' = T ++ M ∧ Buf 76 2 v T row.length (spL row)) := fun M hM => by
    have := spans_fn (b := (j : Int)) (hIn.mem hM) (fun r hr => by have := hT.short r hr; omega)
    rw [if_pos ⟨by omega, by omega⟩, Int.toNat_natCast, hrs] at this
    exact this
  repeat (first | refine RQ ?_ | (refine WL_op rfl ?_; (first | (refine OW_call rfl (hF := hsp _ (fun q hq => .tail _ (.tail _ (.tail _ (List.mem_append_right _ (List.mem_append_right _ hq)))))) (hk := ?_); rintro _ _ ⟨Ts, rfl, hTs⟩))) | refine RC ?_ | refine WG 3 ?_ | refine WG 4 ?_ | refine WG 5 ?_)
  obtain ⟨asl, ccp, rfl, _, hcs⟩ := hTs.val
  repeat (first | refine RQ ?_ | (refine WL_op rfl ?_; (first | (refine OW_call rfl (hF := hsp _ (fun q hq => .tail _ (.tail _ (.tail _ (List.mem_append_right _ (List.mem_append_right _ hq)))))) (hk := ?_); rintro _ _ ⟨Ts, rfl, hTs⟩))) | refine RC ?_ | refine WG 5 ?_ | refine WG 6 ?_)
  refine WC_wk [(45, iV ((0 : Nat) : Int)), (44, iV ((row.length : Nat) : Int)), (43, .slice asl row.length ccp), (3, .slice asl row.length ccp), (2, iV (j : Int)), (34, iV (j : Int)), (0, .pointer (some ⟨hb, 0, none⟩))] ⟨rfl, rfl, rfl, rfl, rfl, rfl, rfl, trivial⟩ ?_
  refine WC_permT (L' := (hb, Obj.cells (hnC tb w mb (((t.cmds.length : Nat) : Int) + 1) rv (.map (some ab))) 150 (0, 0)) :: (ab, Obj.map es' cl') :: (mb, Obj.map es cl) :: (T ++ ((Ts ++ X) ++ F))) (perm_hl2 ..).symm ?_
  have hTv := Buf.vecM hTs
  refine WC_loop (fun q σ => ∃ (i : Nat) (lo : List (OwnV × List Value)) (T X : List (Nat × Obj)) (rv : Value) (es' : Array MapEntry) (cl' : Nat), q = row.length - i ∧ i ≤ row.length ∧ (∀ q ∈ Ts, q ∈ X) ∧ lo.map Prod.fst = hownL w t j ++ ownB w j row i ∧ (∀ q ∈ lo, OwnIn X q.2 q.1) ∧ Buf 156 5 rv T lo.length (loF lo) ∧ EntV pairK es'.toList (loK lo) ∧ σ = ⟨[(45, iV (i : Int)), (44, iV ((row.length : Nat) : Int)), (43, .slice asl row.length ccp), (3, .slice asl row.length ccp), (2, iV (j : Int)), (34, iV (j : Int)), (0, .pointer (some ⟨hb, 0, none⟩))], [], (hb, Obj.cells (hnC tb w mb (((t.cmds.length : Nat) : Int) + 1) rv (.map (some ab))) 150 (0, 0)) :: (ab, Obj.map es' cl') :: (mb, Obj.map es cl) :: (T ++ (X ++ F))⟩) row.length ⟨0, lo, T, Ts ++ X, rv, es', cl', rfl, Nat.zero_le _, fun q hq => List.mem_append_left _ hq, by rw [hlo, ownB, List.range_zero]; simp, fun q hq => (hOw q hq).mem fun z hz => List.mem_append_right _ hz, hbf, hEn, rfl⟩ ?_
  clear hlo hOw hbf hEn
  rintro _ σ ⟨i, lo, T, X, rv, es', cl', rfl, hi, hTX, hlo, hOw, hbf, hEn, rfl⟩
  by_cases hil : i < row.length
  rotate_left
  · have d3 : decide ((i : Int) < ((row.length : Nat) : Int)) = false := decide_eq_false (by omega)
    obtain rfl : i = row.length := by omega
    have wj : IntKind.i64.wrap ((j : Int) + 1) = ((j + 1 : Nat) : Int) := by rw [wI64 (by omega) (by omega)]; omega
    repeat (first | refine RQ ?_ | refine RC ?_ | refine WG 7 ?_ | refine WG 16 ?_)
    rw [wj]
    exact ⟨_, _, by omega, ⟨j + 1, lo, T, X, rv, es', cl', rfl, by omega, by rw [hlo, hownL_succ, ← hrow], hOw, hbf, hEn, rfl⟩, ⟨rfl, rfl, trivial⟩, rfl, .refl _⟩
  have d3 : decide ((i : Int) < ((row.length : Nat) : Int)) = true := decide_eq_true (by omega)
  obtain ⟨q, hq⟩ : ∃ q, row[i]? = some q := ⟨_, List.getElem?_eq_getElem hil⟩
  obtain ⟨hq1, hq2⟩ := spL_at hq
  obtain ⟨bs, os, _, ccs, Es, frs, is, e, _, _, his, hxs⟩ := ((hTv.mem hTX).mem (G' := (hb, Obj.cells (hnC tb w mb (((t.cmds.length : Nat) : Int) + 1) rv (.map (some ab))) 150 (0, 0)) :: (ab, Obj.map es' cl') :: (mb, Obj.map es cl) :: (T ++ (X ++ F))) fun z hz => .tail _ (.tail _ (.tail _ (List.mem_append_right _ (List.mem_append_left _ hz))))).cell (by omega)
  cases e
  have p0 : (0 : Int) ≤ (i : Int) := by omega
  have p1 : ((i : Nat) : Int) < ((row.length : Nat) : Int) := by omega
  have c1 := hxs _ _ hq1
  have c2 := hxs _ _ hq2
  have y1 : os + ((i : Nat) : Int).toNat * 2 + 2 ≤ ccs.size := by
    rw [Int.toNat_natCast]
    have := (Array.getElem?_eq_some_iff.1 c2).1
    omega
  have v1 : ccs.extract (os + ((i : Nat) : Int).toNat * 2) (os + ((i : Nat) : Int).toNat * 2 + 2) = #[iV q.1, iV q.2] := by
    rw [Int.toNat_natCast]
    apply Array.ext_getElem?
    intro k
    rw [Array.getElem?_extract]
    match k with
    | 0 => rw [if_pos (by omega)]; exact c1
    | 1 => rw [if_pos (by omega), Nat.add_assoc]; exact c2
    | k + 2 => rw [if_neg (by omega)]; simp
  repeat (first | refine RQ ?_ | (refine RE ?_; try intro _) | refine RC ?_ | refine WG 7 ?_ | refine WG 8 ?_)
  rw [v1]
  repeat (first | refine RQ ?_ | (refine RE ?_; try intro _) | refine RC ?_ | refine WG 8 ?_ | refine WG 9 ?_)
  rename_i x5 x6
  have wi : IntKind.i64.wrap ((i : Int) + 1) = ((i + 1 : Nat) : Int) := by rw [wI64 (by omega) (by omega)]; omega
  obtain ⟨nx, hnx⟩ : ∃ nx, nx = row[i + 1]? := ⟨_, rfl⟩
  refine WC_wk [(6, .pointer (some ⟨x6, 0, none⟩)), (5, .pointer (some ⟨x5, 0, none⟩)), (4, iV (i : Int)), (45, iV (i : Int)), (44, iV ((row.length : Nat) : Int)), (43, .slice (some ⟨bs, os, none⟩) row.length ccp), (3, .slice (some ⟨bs, os, none⟩) row.length ccp), (2, iV (j : Int)), (34, iV (j : Int)), (0, .pointer (some ⟨hb, 0, none⟩))] ⟨rfl, rfl, rfl, rfl, rfl, rfl, rfl, rfl, rfl, rfl, trivial⟩ ?_
  refine WC_permT (L' := (x6, Obj.cells (owC ⟨j, i, q.1, q.2, nx⟩ (.pointer none)).toArray 156 (0, 0)) :: (x5, Obj.cells #[iV q.1, iV q.2] 76 (0, 0)) :: (hb, Obj.cells (hnC tb w mb (((t.cmds.length : Nat) : Int) + 1) rv (.map (some ab))) 150 (0, 0)) :: (ab, Obj.map es' cl') :: (mb, Obj.map es cl) :: (T ++ (X ++ F))) (.refl _) ?_
  have hz6 : (owC ⟨j, i, q.1, q.2, nx⟩ (.pointer none)).toArray.size = 5 := rfl
  refine WC_meet2 (fun σ => ∃ pv, NxAt X pv nx ∧ σ = ⟨[(6, .pointer (some ⟨x6, 0, none⟩)), (5, .pointer (some ⟨x5, 0, none⟩)), (4, iV (i : Int)), (45, iV (i : Int)), (44, iV ((row.length : Nat) : Int)), (43, .slice (some ⟨bs, os, none⟩) row.length ccp), (3, .slice (some ⟨bs, os, none⟩) row.length ccp), (2, iV (j : Int)), (34, iV (j : Int)), (0, .pointer (some ⟨hb, 0, none⟩))], [], (x6, Obj.cells (owC ⟨j, i, q.1, q.2, nx⟩ pv).toArray 156 (0, 0)) :: (x5, Obj.cells #[iV q.1, iV q.2] 76 (0, 0)) :: (hb, Obj.cells (hnC tb w mb (((t.cmds.length : Nat) : Int) + 1) rv (.map (some ab))) 150 (0, 0)) :: (ab, Obj.map es' cl') :: (mb, Obj.map es cl) :: (T ++ (X ++ F))⟩) ?_ ?_
  · by_cases hlt : i + 1 < row.length
    · have e1 : decide (IntKind.i64.wrap ((i : Int) + 1) < ((row.length : Nat) : Int)) = true := by rw [wi]; exact decide_eq_true (by omega)
      have p2 : 0 ≤ IntKind.i64.wrap ((i : Int) + 1) := by rw [wi]; omega
      have p3 : IntKind.i64.wrap ((i : Int) + 1) < ((row.length : Nat) : Int) := by rw [wi]; omega
      repeat (first | refine RQ ?_ | (refine RE ?_; try intro _) | refine RC ?_ | refine WG 10 ?_ | refine WG 11 ?_)
      rw [wi]
      refine ⟨_, ⟨.pointer (some ⟨bs, os + ((i + 1 : Nat) : Int).toNat * 2, none⟩), ?_, rfl⟩, ⟨rfl, rfl, rfl, rfl, rfl, rfl, rfl, rfl, rfl, rfl, trivial⟩, rfl, .refl _⟩
      obtain ⟨q', hq'⟩ : ∃ q', row[i + 1]? = some q' := ⟨_, List.getElem?_eq_getElem hlt⟩
      obtain ⟨hq3, hq4⟩ := spL_at hq'
      obtain ⟨b3, o3, _, c3, E3, f3, i3, e, _, _, hi3, hx3⟩ := (hTv.mem hTX).cell (by omega)
      cases e
      rw [hnx, hq']
      exact ⟨bs, _, c3, E3, f3, rfl, List.mem_of_getElem? hi3, by rw [Int.toNat_natCast]; exact hx3 _ _ hq3, by rw [Int.toNat_natCast, Nat.add_assoc]; exact hx3 _ _ hq4⟩
    · have e1 : decide (IntKind.i64.wrap ((i : Int) + 1) < ((row.length : Nat) : Int)) = false := by rw [wi]; exact decide_eq_false (by omega)
      repeat (first | refine RQ ?_ | refine RC ?_ | refine WG 10 ?_)
      refine ⟨_, ⟨.pointer none, ?_, rfl⟩, ⟨rfl, rfl, rfl, rfl, rfl, rfl, rfl, rfl, rfl, rfl, trivial⟩, rfl, .refl _⟩
      rw [hnx, List.getElem?_eq_none (by omega)]
      rfl
  rintro _ ⟨pv, hpv, rfl⟩
  have hpv1 := hpv.one.1
  have hOx : OwnIn X (owC ⟨j, i, q.1, q.2, nx⟩ pv) ⟨j, i, q.1, q.2, nx⟩ := ⟨pv, rfl, hpv⟩
  have hz7 : (owC ⟨j, i, q.1, q.2, nx⟩ pv).toArray.size = 5 := rfl
  have hall7 : ((owC ⟨j, i, q.1, q.2, nx⟩ pv).toArray.toList.all fun v => v.oneCell') = true := by simpa [List.all_eq_true] using hOx.one
  by_cases hw : q.2 = w
  rotate_left
  · have e1 : (q.2 == w) = false := by simpa using hw
    repeat (first | refine RQr ?_ | refine RC ?_ | refine RU ?_ | refine WC_draw_all (id := 12) 7 (Cs [0,1,2,3,4,5,6] <| .done) mixed (by kernel_rfl) ?_)
    refine WC_permT (L' := (hb, Obj.cells (hnC tb w mb (((t.cmds.length : Nat) : Int) + 1) rv (.map (some ab))) 150 (0, 0)) :: (ab, Obj.map es' cl') :: (mb, Obj.map es cl) :: (T ++ (((x6, Obj.cells (owC ⟨j, i, q.1, q.2, nx⟩ pv).toArray 156 (0, 0)) :: (x5, Obj.cells #[iV q.1, iV q.2] 76 (0, 0)) :: X) ++ F))) (perm_hl3 ..).symm ?_
    repeat (first | refine RQ ?_ | refine RC ?_ | refine WG 15 ?_)
    rw [wi]
    refine ⟨_, _, by omega, ⟨i + 1, lo, T, (x6, Obj.cells (owC ⟨j, i, q.1, q.2, nx⟩ pv).toArray 156 (0, 0)) :: (x5, Obj.cells #[iV q.1, iV q.2] 76 (0, 0)) :: X, rv, es', cl', rfl, by omega, fun z hz => .tail _ (.tail _ (hTX z hz)), by rw [hlo, ownB_succ hq, if_neg hw, List.append_nil], fun z hz => (hOw z hz).mem fun y hy => .tail _ (.tail _ hy), hbf, hEn, rfl⟩, ⟨rfl, rfl, rfl, rfl, rfl, rfl, rfl, trivial⟩, rfl, .refl _⟩
  have e1 : (q.2 == w) = true := by simpa using hw
  repeat (first | refine RQr ?_ | refine RC ?_ | refine RU ?_ | refine WC_draw_all (id := 12) 7 (Cs [0,1,2,3,4,5,6] <| .done) mixed (by kernel_rfl) ?_)
  refine WC_draw_sub (id := 13) 8 (Cs [0,1,2,3,4,5] <| .must 6 <| .must 7 <| .must 8 <| .must 9 <| .must 10 <| .done) mixed (by kernel_rfl) (.cons_cons _ (.cons_cons _ (.cons_cons _ (List.nil_sublist _)))) ?_
  repeat (first | refine RQr ?_ | ((first | refine WL_op rfl ?_ | refine WR_late rfl rfl rfl ?_ | refine WR_op rfl rfl ?_); (first | (refine OE ?_; try intro _)); try refine SD ?_) | refine RC ?_ | refine RU ?_ | refine WC_draw_all (id := 13) 8 (Cs [0,1,2,3,4,5] <| .must 6 <| .must 7 <| .must 8 <| .must 9 <| .must 10 <| .done) mixed (by kernel_rfl) ?_)
  rename_i xs
  have hzo : (owC ⟨j, i, q.1, q.2, nx⟩ pv).length = 5 := rfl
  have hlen5 := loF_len hOw
  have hrows : lo.length ≤ 8 * 65 := by
    have h1 : lo.length = (hownL w t j ++ ownB w j row i).length := by rw [← hlo, List.length_map]
    have h2 := hownL_len (w := w) (t := t) (n := 65) (fun r hr => by have := hT.short r hr; omega) j
    have h3 := ownB_len (w := w) (b := j) (row := row) i
    rw [List.length_append] at h1
    omega
  refine WR_op rfl rfl (OW_append_buf (A := [(xs, Obj.cells (owC ⟨j, i, q.1, q.2, nx⟩ pv).toArray 156 (0, 0)), (x6, Obj.cells (owC ⟨j, i, q.1, q.2, nx⟩ pv).toArray 156 (0, 0)), (x5, Obj.cells #[iV q.1, iV q.2] 76 (0, 0)), (hb, Obj.cells (hnC tb w mb (((t.cmds.length : Nat) : Int) + 1) rv (.map (some ab))) 150 (0, 0)), (ab, Obj.map es' cl'), (mb, Obj.map es cl)]) (T := T) (B := X ++ F) rfl rfl rfl rfl rfl hbf (m := 1) (news := owC ⟨j, i, q.1, q.2, nx⟩ pv) (srcVec ⟨by rw [hzo], _, 1, rfl, Nat.le_refl _, by decide, .inr ⟨xs, 0, _, _, _, 0, rfl, rfl, fun k x hx => by rw [Nat.zero_add]; simpa using hx⟩⟩ hOx.one) (by omega) (by simp only [maxLen]; omega) (by omega) ?_)
  intro v' T' hb'
  obtain ⟨av, ac, rfl, _, _⟩ := id hb'.val
  refine ⟨sub_mem (.cons _ (.cons_cons _ (.cons_cons _ (.cons_cons _ (List.nil_sublist _))))), ?_⟩
  simp only [List.cons_append, List.nil_append]
  repeat (first | refine RQr ?_ | (refine OX ?_; (first | (refine OE ?_; try intro _)); try refine SD ?_) | refine RC ?_ | refine RU ?_ | refine WC_draw_all (id := 13) 8 (Cs [0,1,2,3,4,5] <| .must 6 <| .must 7 <| .must 8 <| .must 9 <| .must 10 <| .done) mixed (by kernel_rfl) ?_)
  repeat (first | refine RQr ?_ | refine RC ?_ | refine RU ?_ | refine WC_draw_all (id := 14) 7 (Cs [0,1,2,3,4,5,6] <| .must 7 <| .done) mixed (by kernel_rfl) ?_)
  refine WR_late rfl rfl rfl (OW_mapPutV (n := ((j : Int), (i : Int))) rfl rfl rfl rfl (i := 4) rfl hEn fun es3 cl3 hE3 => ?_)
  repeat (first | refine RQr ?_ | refine RC ?_ | refine RU ?_ | refine WC_draw_all (id := 14) 7 (Cs [0,1,2,3,4,5,6] <| .must 7 <| .done) mixed (by kernel_rfl) ?_)
  refine WC_permT (L' := (hb, Obj.cells (hnC tb w mb (((t.cmds.length : Nat) : Int) + 1) (.slice av (lo.length + 1) ac) (.map (some ab))) 150 (0, 0)) :: (ab, Obj.map es3 cl3) :: (mb, Obj.map es cl) :: (T' ++ (((xs, Obj.cells (owC ⟨j, i, q.1, q.2, nx⟩ pv).toArray 156 (0, 0)) :: (x6, Obj.cells (owC ⟨j, i, q.1, q.2, nx⟩ pv).toArray 156 (0, 0)) :: (x5, Obj.cells #[iV q.1, iV q.2] 76 (0, 0)) :: X) ++ F))) (perm_hl4 ..).symm ?_
  repeat (first | refine RQ ?_ | refine RC ?_ | refine WG 15 ?_)
  rw [wi]
  have hnew : (lo ++ [((⟨j, i, q.1, q.2, nx⟩ : OwnV), owC ⟨j, i, q.1, q.2, nx⟩ pv)]).map Prod.fst = hownL w t j ++ ownB w j row (i + 1) := by
    rw [List.map_append, hlo, ownB_succ hq, if_pos hw, List.append_assoc, hnx]
    rfl
  have hkey : vGet (loK lo) ((j : Int), (i : Int)) = none := by
    refine vGet_no.1 fun hm => ?_
    have hr : (hownL w t j ++ ownB w j row (i + 1)).Pairwise plLt := by
      rw [List.pairwise_append]
      refine ⟨hownL_rise j, ownB_rise _ (by omega), fun x hx y hy => .inl ?_⟩
      obtain ⟨b, i', q', hb, _, _, rfl⟩ := hownL_mem.1 hx
      obtain ⟨i'', q'', _, _, _, rfl⟩ := ownB_mem.1 hy
      show (b : Int) < j
      omega
    have hnd := rise_keys hr
    rw [← hnew, List.map_append, List.map_append, List.nodup_append] at hnd
    obtain ⟨z, hz, e⟩ := List.mem_map.1 hm
    obtain ⟨z', hz', e'⟩ := List.mem_map.1 hz
    refine hnd.2.2 z'.1.key ?_ ((j : Int), (i : Int)) (.head _) ?_
    · rw [List.map_map]
      exact List.mem_map.2 ⟨z', hz', rfl⟩
    · rw [← e, ← e']
  rw [vPut_none hkey] at hE3
  refine ⟨_, _, by omega, ⟨i + 1, lo ++ [((⟨j, i, q.1, q.2, nx⟩ : OwnV), owC ⟨j, i, q.1, q.2, nx⟩ pv)], T', (xs, Obj.cells (owC ⟨j, i, q.1, q.2, nx⟩ pv).toArray 156 (0, 0)) :: (x6, Obj.cells (owC ⟨j, i, q.1, q.2, nx⟩ pv).toArray 156 (0, 0)) :: (x5, Obj.cells #[iV q.1, iV q.2] 76 (0, 0)) :: X, .slice av (lo.length + 1) ac, es3, cl3, rfl, by omega, fun z hz => .tail _ (.tail _ (.tail _ (hTX z hz))), hnew, fun z hz => ?_, ?_, ?_, rfl⟩, ⟨rfl, rfl, rfl, rfl, rfl, rfl, rfl, trivial⟩, ?_⟩
  · rcases List.mem_append.1 hz with hz | hz
    · exact (hOw z hz).mem fun y hy => .tail _ (.tail _ (.tail _ hy))
    · obtain rfl := List.mem_singleton.1 hz
      exact hOx.mem fun y hy => .tail _ (.tail _ (.tail _ hy))
  · rw [List.length_append]
    unfold loF
    rw [List.flatMap_append]
    simpa using hb'
  · unfold loK
    rw [List.map_append]
    exact hE3
  · exact ⟨rfl, .refl _⟩
end Go.Proofs.YtncgndcepoicbaaGreat
