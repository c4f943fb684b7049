/-
  A part of what the last of these texts needs; by itself it proves no statement.
-/
import Derived.Test.YtncgndcepoicbaaGreatKL171
namespace Go.Proofs.YtncgndcepoicbaaGreat
open Go.RowKit
theorem pairsF_snoc (act : List Int) (w : Int) (own : Int → Int) (want : List Int) (m : Nat) : pairsF (act ++ [w]) own want m = pairsF act own want m ++ (chunkF m (goesL own want w)).map fun l => (w, l) := by simp [pairsF]
theorem pairsF_take {act : List Int} {k : Nat} {w : Int} (h : act[k]? = some w) (own : Int → Int) (want : List Int) (m j : Nat) : (pairsF (act.take k) own want m ++ ((chunkF m (goesL own want w)).take j).map fun l => (w, l)) <+: pairsF act own want m := by
  have h1 : pairsF (act.take (k + 1)) own want m <+: pairsF act own want m := by
    have : pairsF act own want m = pairsF (act.take (k + 1)) own want m ++ pairsF (act.drop (k + 1)) own want m := by
      unfold pairsF
      rw [← List.flatMap_append, List.take_append_drop]
    rw [this]
    exact List.prefix_append _ _
  refine List.IsPrefix.trans ?_ h1
  rw [List.take_add_one, h]
  show _ <+: pairsF (act.take k ++ [w]) own want m
  rw [pairsF_snoc, List.prefix_append_right_inj]
  exact (List.take_prefix _ _).map _
theorem VecM.chunk {G : List (Nat × Obj)} {l : List Int} {cap b off m j : Nat} {a : Option Addr} (h : VecM 1 G (.slice a l.length cap) l.length (l.map iV)) (ha : a = some ⟨b, off, none⟩) (hj : j * m < l.length) : VecM 1 G (chV b off m l.length j) ((l.drop (j * m)).take m).length (((l.drop (j * m)).take m).map iV) := by
  have hl : ((l.drop (j * m)).take m).length = min m (l.length - j * m) := by rw [List.length_take, List.length_drop]
  obtain ⟨_, a', cap', e, h1, h2, h3⟩ := h
  cases e
  rcases h3 with h3 | ⟨b', off', cs, E, fr, e, h4, h5⟩
  · simp at h3
    rw [h3] at hj
    simp at hj
  rw [ha] at e
  cases e
  refine ⟨by simp, some ⟨b, off + j * m, none⟩, _, by rw [hl], by rw [hl]; exact Nat.le_refl _, by omega, .inr ⟨b, off + j * m, cs, E, fr, rfl, h4, fun i x hx => ?_⟩⟩
  rw [Nat.add_assoc]
  refine h5 _ _ ?_
  rw [List.getElem?_map] at hx ⊢
  have hi : i < ((l.drop (j * m)).take m).length := by
    rcases Nat.lt_or_ge i ((l.drop (j * m)).take m).length with h | h
    · exact h
    · rw [List.getElem?_eq_none h] at hx; cases hx
  rw [List.getElem?_take_of_lt (by omega), List.getElem?_drop] at hx
  exact hx
theorem perm_mv1 {α : Type} (x a b : α) (T L : List α) : ((a :: b :: (L ++ (x :: T)))).Perm (T ++ (x :: a :: b :: L)) := by
  classical
  rw [List.perm_iff_count]
  intro z
  simp only [List.count_append, List.count_cons]
  omega
theorem perm_mv2 {α : Type} (x3 x2 x5 a b : α) (T2 T1 L G Z : List α) : (a :: b :: (L ++ ((x5 :: x3 :: x2 :: (T2 ++ (T1 ++ G))) ++ Z))).Perm (x3 :: x2 :: (T2 ++ (T1 ++ (x5 :: a :: b :: (L ++ (G ++ Z)))))) := by
  classical
  rw [List.perm_iff_count]
  intro z
  simp only [List.count_append, List.count_cons]
  omega
theorem perm_mv3 {α : Type} (p q a b : α) (L G Z : List α) : (a :: b :: (L ++ (G ++ (Z ++ [p, q])))).Perm (p :: q :: a :: b :: (L ++ (G ++ Z))) := by
  classical
  rw [List.perm_iff_count]
  intro z
  simp only [List.count_append, List.count_cons, List.count_nil]
  omega
theorem perm_mv4 {α : Type} (p a b : α) (L G Z : List α) : (a :: b :: (L ++ (G ++ p :: Z))).Perm (p :: a :: b :: (L ++ (G ++ Z))) := by
  classical
  rw [List.perm_iff_count]
  intro z
  simp only [List.count_append, List.count_cons]
  omega
abbrev dfS (r : Nat) : Nat × Obj := (r, .deferred (some []))
abbrev dfN (r : Nat) : Nat × Obj := (r, .deferred none)
theorem marks_all : ∀ (Ds : List Nat) (A : List (Nat × Obj)) {M : List (Nat × Obj)}, M = A ++ Ds.map dfS → MarksOk (Ds.map markD) M (A ++ Ds.map dfN)
  | [], A, M, h => by subst h; rfl
  | r :: Ds, A, M, h => by
    subst h
    refine ⟨r, A.length, (A ++ [dfN r]) ++ Ds.map dfS, rfl, by simp, ?_, ?_⟩
    · have : ∀ (A : List (Nat × Obj)), setL (A ++ (r :: Ds).map dfS) A.length (r, .deferred none) = some ((A ++ [dfN r]) ++ Ds.map dfS) := fun A => by
        induction A with
        | nil => rfl
        | cons x A ih =>
          simp only [List.map_cons, List.cons_append, List.append_assoc, List.length_cons, setL] at ih ⊢
          rw [ih]
      exact this A
    · have := marks_all Ds (A ++ [dfN r]) rfl
      simpa using this
attribute [local irreducible] Fn WC WL WR OW Qt YieldFn QW FnP FnD FnE plnC
set_option maxHeartbeats 2000000 in
theorem moves1_fn {tb xp xm ly d m : Nat} {t : TbV} {want : List Int} {o1 o2 : Obj} {I : List (Nat × Obj) → List (Int × List Int) → List (Nat × Obj) → Prop} {L0 : List (Nat × Obj)} (hT : TbOk t) (hw : want.length = 8) (hm : 1 ≤ m) (hm8 : m ≤ 8)
    (hI : ∀ G pre L', I G pre L' → TabIn tb L' t ∧ (∃ i : Nat, L'[i]? = some (xp, Obj.cells (plnC tb want) 168 (0, 0))) ∧ ∃ i : Nat, L'[i]? = some (xm, Obj.cells #[iV m] 3 (0, 0)))
    (hmono : ∀ G G' pre L', (∀ q ∈ G, q ∈ G') → I G pre L' → I G' pre L')
    (hr : ∀ G Z pre w l v L', (pre ++ [(w, l)]) <+: pairsF t.act (hasF t.spans) want m → VecM 1 G v l.length (l.map iV) → I G pre L' → YieldFn Tryz.prog ly [iV w, v] ((ly, o1) :: (d, o2) :: (L' ++ (G ++ Z))) (fun v' L2 => v' = .bool true ∧ ∃ L'', L2 = (ly, o1) :: (d, o2) :: (L'' ++ (G ++ Z)) ∧ I G (pre ++ [(w, l)]) L''))
    (h0 : I [] [] L0) :
    Fn Tryz.prog 128 [.func (.yield ly) #[] #[], .pointer (some ⟨xp, 0, none⟩), .pointer (some ⟨xm, 0, none⟩)] ((ly, o1) :: (d, o2) :: L0) (fun _ L2 => ∃ G L', L2 = (ly, o1) :: (d, o2) :: (L' ++ G) ∧ I G (pairsF t.act (hasF t.spans) want m) L') := by
  obtain ⟨hIn, ⟨i1, hi1⟩, _⟩ := hI _ _ _ h0
  have hsz := plnC_size (tb := tb) hw
  have hp0 := plnC_0 (tb := tb) (want := want)
  refine Fn_enterM Tryz.func128 rfl Tryz.ntmps128 rfl fun g => ?_
  repeat (first | (refine WL_Q ?_; (first | refine QW_a ?_)) | (refine WL_op rfl ?_; (first | refine OW_box rfl (hk := fun _ => ?_))) | refine WL_nil ?_ | refine WC_seq ?_ | refine WC_block ?_ | refine WC_cond_t (ht := ?_) | refine WC_cond_f (he := ?_) | refine WC_skip ?_ | refine WC_ret ?_ | refine WC_exit ?_ | refine WG 0 ?_)
  rename_i x3
  have hi12 : ((x3, Obj.cells #[.func (.yield ly) #[] #[]] 208 (0, 0)) :: (ly, o1) :: (d, o2) :: L0)[i1 + 1 + 1 + 1]? = some (xp, Obj.cells (plnC tb want) 168 (0, 0)) := hi1
  repeat (first | (refine WL_Q ?_; (first | refine QW_a ?_)) | (refine WL_op rfl ?_; (first | (refine OW_call rfl (hF := active_fn (hIn.mem fun q hq => .tail _ (.tail _ (.tail _ hq))) (by have := hT.few3; omega)) (hk := ?_); rintro v10 _ ⟨Ta, rfl, hTa⟩))) | refine WL_nil ?_ | refine WC_seq ?_ | refine WC_block ?_ | refine WC_cond_t (ht := ?_) | refine WC_cond_f (he := ?_) | refine WC_skip ?_ | refine WC_ret ?_ | refine WC_exit ?_ | refine WG 1 ?_)
  obtain ⟨_, a, cap, rfl, hac, hmx, _⟩ := Buf.vecM hTa
  repeat (first | (refine WL_Q ?_; (first | refine QW_a ?_)) | (refine WL_op rfl ?_; (first | (refine OW_call rfl (hF := active_fn (hIn.mem fun q hq => .tail _ (.tail _ (.tail _ hq))) (by have := hT.few3; omega)) (hk := ?_); rintro v10 _ ⟨Ta, rfl, hTa⟩))) | refine WL_nil ?_ | refine WC_seq ?_ | refine WC_block ?_ | refine WC_cond_t (ht := ?_) | refine WC_cond_f (he := ?_) | refine WC_skip ?_ | refine WC_ret ?_ | refine WC_exit ?_ | refine WG 1 ?_)
  have h3 := hT.few3
  obtain ⟨Y, hY⟩ : ∃ Y : Nat × Obj, Y = (x3, Obj.cells #[.func (.yield ly) #[] #[]] 208 (0, 0)) := ⟨_, rfl⟩
  rw [← hY]
  clear hi12
  refine WC_permT (L' := (ly, o1) :: (d, o2) :: (L0 ++ (Y :: Ta))) (perm_mv1 ..) ?_
  refine WC_wk [(12, iV ((0 : Nat) : Int)), (11, iV (t.act.length : Nat)), (10, .slice a t.act.length cap), (1, .pointer (some ⟨xp, 0, none⟩)), (2, .pointer (some ⟨xm, 0, none⟩)), (3, .pointer (some ⟨x3, 0, none⟩))] ⟨rfl, rfl, rfl, rfl, rfl, rfl, trivial⟩ ?_
  refine WC_loop (fun q σ => ∃ (k : Nat) (G L' : List (Nat × Obj)) (Ds : List Nat), q = t.act.length - k ∧ k ≤ t.act.length ∧ (∀ q ∈ Y :: Ta, q ∈ G) ∧ I G (pairsF (t.act.take k) (hasF t.spans) want m) L' ∧ σ = ⟨[(12, iV (k : Int)), (11, iV (t.act.length : Nat)), (10, .slice a t.act.length cap), (1, .pointer (some ⟨xp, 0, none⟩)), (2, .pointer (some ⟨xm, 0, none⟩)), (3, .pointer (some ⟨x3, 0, none⟩))], Ds.map markD, (ly, o1) :: (d, o2) :: (L' ++ (G ++ Ds.map dfS))⟩) t.act.length ⟨0, Y :: Ta, L0, [], rfl, Nat.zero_le _, fun _ h => h, hmono _ _ _ _ (fun q hq => by cases hq) h0, by simp⟩ ?_
  rintro _ σ ⟨k, G, L', Ds, rfl, hk, hG, hIk, rfl⟩
  obtain ⟨Z, hZ⟩ : ∃ Z, Z = Ds.map dfS := ⟨_, rfl⟩
  rw [← hZ]
  by_cases hlt : k < t.act.length
  rotate_left
  · have d1 : decide ((k : Int) < ((t.act.length : Nat) : Int)) = false := decide_eq_false (by omega)
    repeat (first | (refine WL_Q ?_; (first | refine QW_a ?_)) | refine WL_nil ?_ | refine WC_seq ?_ | refine WC_block ?_ | refine WC_cond_t (ht := ?_) | refine WC_cond_f (he := ?_) | refine WC_skip ?_ | refine WC_ret ?_ | refine WC_exit ?_ | refine WG 2 ?_)
    rw [List.take_of_length_le (by omega)] at hIk
    rw [hZ]
    refine ⟨_, marks_all Ds ((ly, o1) :: (d, o2) :: (L' ++ G)) (by simp), _, _, Res0 rfl, List.sublist_append_left _ _, G, L', rfl, hIk⟩
  have d1 : decide ((k : Int) < ((t.act.length : Nat) : Int)) = true := decide_eq_true (by omega)
  have p0 : (0 : Int) ≤ (k : Int) := by omega
  have p1 : ((k : Nat) : Int) < ((t.act.length : Nat) : Int) := by omega
  have ww : IntKind.i64.wrap ((k : Int) + 1) = ((k + 1 : Nat) : Int) := by rw [wI64 (by omega) (by omega)]; omega
  obtain ⟨w, hwk⟩ : ∃ w, t.act[k]? = some w := ⟨_, List.getElem?_eq_getElem hlt⟩
  have hGM : ∀ q ∈ G, q ∈ (ly, o1) :: (d, o2) :: (L' ++ (G ++ Z)) := fun q hq => .tail _ (.tail _ (List.mem_append_right _ (List.mem_append_left _ hq)))
  have hLM : ∀ q ∈ L', q ∈ (ly, o1) :: (d, o2) :: (L' ++ (G ++ Z)) := fun q hq => .tail _ (.tail _ (List.mem_append_left _ hq))
  obtain ⟨ab, aoff, ac, acs, aE, afr, ai, ae, _, _, hai, hacs⟩ := ((Buf.vecM hTa).mem fun q hq => hGM q (hG q (.tail _ hq))).cell (by omega)
  cases ae
  have hc1 : acs[aoff + ((k : Nat) : Int).toNat * 1]? = some (iV w) := by rw [Int.toNat_natCast, Nat.mul_one]; exact hacs k _ (by rw [List.getElem?_map, hwk]; rfl)
  obtain ⟨hInk, ⟨jp, hjp⟩, ⟨jm, hjm⟩⟩ := hI _ _ _ hIk
  repeat (first | (refine WL_Q ?_; (first | refine QW_a ?_)) | (refine WL_op rfl ?_; (first | refine OW_alloc rfl (hk := fun _ => ?_) | refine OW_st1 rfl ?_)) | refine WL_nil ?_ | refine WC_seq ?_ | refine WC_block ?_ | refine WC_cond_t (ht := ?_) | refine WC_cond_f (he := ?_) | refine WC_skip ?_ | refine WC_ret ?_ | refine WC_exit ?_ | refine WG 2 ?_ | refine WG 3 ?_ | refine WG 4 ?_)
  rename_i x5
  refine WC_permT (L' := (x5, Obj.cells #[iV w] 3 (0, 0)) :: (ly, o1) :: (d, o2) :: (L' ++ (G ++ Z))) (.refl _) ?_
  have hb81 : ∀ b ∈ b8, 0 ≤ b ∧ b < 8 := fun b hb => b8_mem.1 hb
  have hth : ∀ (T1 : List (Nat × Obj)) (v18 : Value), BufI v18 T1 b8 → Fn Tryz.prog 98 [.func (.func 129) #[] #[.pointer (some ⟨xp, 0, none⟩), .pointer (some ⟨x5, 0, none⟩)], v18] (T1 ++ ((x5, Obj.cells #[iV w] 3 (0, 0)) :: (ly, o1) :: (d, o2) :: (L' ++ (G ++ Z)))) (fun v L2 => ∃ T2, BufI v T2 (goesL (hasF t.spans) want w) ∧ L2 = T2 ++ (T1 ++ ((x5, Obj.cells #[iV w] 3 (0, 0)) :: (ly, o1) :: (d, o2) :: (L' ++ (G ++ Z))))) := fun T1 v18 h18 => by
    have := those_fn (f := 129) (A := #[]) (B := #[.pointer (some ⟨xp, 0, none⟩), .pointer (some ⟨x5, 0, none⟩)]) (l := b8) (v := v18) (F := T1 ++ ((x5, Obj.cells #[iV w] 3 (0, 0)) :: (ly, o1) :: (d, o2) :: (L' ++ (G ++ Z)))) (fun _ b => (wnF want b == w) && !(hasF t.spans b == w)) (fun _ M => M = T1 ++ ((x5, Obj.cells #[iV w] 3 (0, 0)) :: (ly, o1) :: (d, o2) :: (L' ++ (G ++ Z)))) (by decide)
      (fun pre M hM => by subst hM; exact (Buf.vecM h18).mem fun q hq => List.mem_append_left _ hq) rfl (fun X pre b M hpre hM => by
        subst hM
        have hb : 0 ≤ b ∧ b < 8 := hb81 b (hpre.subset (List.mem_append_right _ (.head _)))
        have hsub : ∀ q ∈ L', q ∈ X ++ (T1 ++ ((x5, Obj.cells #[iV w] 3 (0, 0)) :: (ly, o1) :: (d, o2) :: (L' ++ (G ++ Z)))) := fun q hq => List.mem_append_right _ (List.mem_append_right _ (.tail _ (hLM q hq)))
        exact (goes_fn (b := b) (w := w) (hInk.mem hsub) hT hw hb (List.mem_iff_getElem?.1 (hsub _ (List.mem_of_getElem? hjp))) (List.mem_iff_getElem?.1 (List.mem_append_right _ (List.mem_append_right _ (.head _))))).mono fun v L2 ⟨h1, h2⟩ => ⟨h1, _, h2, rfl⟩)
    refine this.mono ?_
    rintro v L2 ⟨T2, M, rfl, rfl, hb⟩
    rw [selF_filter] at hb
    exact ⟨T2, hb, rfl⟩
  have hjm2 : ((x5, Obj.cells #[iV w] 3 (0, 0)) :: (ly, o1) :: (d, o2) :: (L' ++ (G ++ Z)))[jm + 1 + 1 + 1]? = some (xm, Obj.cells #[iV m] 3 (0, 0)) := by
    show (L' ++ (G ++ Z))[jm]? = _
    rw [List.getElem?_append_left (List.getElem?_eq_some_iff.1 hjm).1]
    exact hjm
  repeat (first | (refine RX ?_; (first | refine QW_a ?_)) | (refine OX ?_; (first | (refine OW_call rfl (hF := bins_fn) (hk := ?_); rintro v18 _ ⟨T1, rfl, h18⟩) | (refine OW_call rfl (hF := hth _ _ h18) (hk := ?_); rintro v19 _ ⟨T2, h19, rfl⟩)); try refine ⟨(by first | exact fun _ h => h | exact sub_mem (by repeat (first | exact .refl _ | exact List.nil_sublist _ | exact List.sublist_append_right _ _ | exact List.Sublist.append (.refl _) (List.sublist_append_right _ _) | apply List.Sublist.cons_cons | apply List.Sublist.cons))), ?_⟩) | refine WL_nil ?_ | refine WR_nil ?_ | refine WC_seq ?_ | refine WC_block ?_ | refine WC_cond_t (ht := ?_) | refine WC_cond_f (he := ?_) | refine WC_skip ?_ | refine WC_ret ?_ | refine WC_exit ?_ | refine WC_draw_all (id := 5) 5 (Cs [0,3] <| .must 1 <| .must 2 <| .must 4 <| .done) mixed (by kernel_rfl) ?_)
  have hgl : (goesL (hasF t.spans) want w).length ≤ 8 := List.length_filter_le _ _
  obtain ⟨_, a19, c19, rfl, hc19, hm19, _⟩ := Buf.vecM h19
  repeat (first | (refine RX ?_; (first | refine QW_a ?_)) | (refine OX ?_; (first | (refine OW_call rfl (hF := bins_fn) (hk := ?_); rintro v18 _ ⟨T1, rfl, h18⟩) | (refine OW_call rfl (hF := hth _ _ h18) (hk := ?_); rintro v19 _ ⟨T2, h19, rfl⟩) | (refine OW_call rfl (hF := Chunk_fn rfl (by omega)) (hk := ?_); rintro _ _ ⟨x2c, x3c, rfl, rfl⟩)); try refine ⟨(by first | exact fun _ h => h | exact sub_mem (by repeat (first | exact .refl _ | exact List.nil_sublist _ | exact List.sublist_append_right _ _ | exact List.Sublist.append (.refl _) (List.sublist_append_right _ _) | apply List.Sublist.cons_cons | apply List.Sublist.cons))), ?_⟩) | refine WL_nil ?_ | refine WR_nil ?_ | refine WC_seq ?_ | refine WC_block ?_ | refine WC_cond_t (ht := ?_) | refine WC_cond_f (he := ?_) | refine WC_skip ?_ | refine WC_ret ?_ | refine WC_exit ?_ | refine WC_draw_all (id := 5) 5 (Cs [0,3] <| .must 1 <| .must 2 <| .must 4 <| .done) mixed (by kernel_rfl) ?_)
  obtain ⟨ls, hls⟩ : ∃ ls, ls = goesL (hasF t.spans) want w := ⟨_, rfl⟩
  have hb19 : ∃ b19 off19, 0 < ls.length → a19 = some ⟨b19, off19, none⟩ ∧ True := by
    by_cases h0 : 0 < ls.length
    · obtain ⟨bb, bo, bc, bcs, bE, bfr, bi, be, _⟩ := (Buf.vecM h19).cell (by rw [← hls]; omega)
      cases be
      exact ⟨bb, bo, fun _ => ⟨rfl, trivial⟩⟩
    · exact ⟨0, 0, fun h => absurd h h0⟩
  obtain ⟨b19, off19, ha19⟩ := hb19
  rw [← hls] at h19 hc19 hgl ⊢
  obtain ⟨G1, hG1⟩ : ∃ G1, G1 = (x5, Obj.cells #[iV w] 3 (0, 0)) :: (x3c, Obj.cells #[iV m] 3 (0, 0)) :: (x2c, Obj.cells #[.slice a19 ls.length c19] 38 (0, 0)) :: (T2 ++ (T1 ++ G)) := ⟨_, rfl⟩
  refine WC_permT (L' := (ly, o1) :: (d, o2) :: (L' ++ (G1 ++ Z))) (by rw [hG1]; exact perm_mv2 ..) ?_
  have hGG1 : ∀ q ∈ G, q ∈ G1 := fun q hq => by rw [hG1]; exact .tail _ (.tail _ (.tail _ (List.mem_append_right _ (List.mem_append_right _ hq))))
  have h5G : (x5, Obj.cells #[iV w] 3 (0, 0)) ∈ G1 := by rw [hG1]; exact .head _
  have h3G : (x3c, Obj.cells #[iV m] 3 (0, 0)) ∈ G1 := by rw [hG1]; exact .tail _ (.head _)
  have h2G : (x2c, Obj.cells #[.slice a19 ls.length c19] 38 (0, 0)) ∈ G1 := by rw [hG1]; exact .tail _ (.tail _ (.head _))
  have hYG : Y ∈ G1 := hGG1 _ (hG _ (.head _))
  have hV19 : VecM 1 G1 (.slice a19 ls.length c19) ls.length (ls.map iV) := (Buf.vecM h19).mem fun q hq => by rw [hG1]; exact .tail _ (.tail _ (.tail _ (List.mem_append_left _ hq)))
  obtain ⟨P, hP⟩ : ∃ P : Nat → List (Int × List Int), P = fun j => pairsF (t.act.take k) (hasF t.spans) want m ++ ((chunkF m ls).take j).map fun l => (w, l) := ⟨_, rfl⟩
  have hI1 : I G1 (P 0) L' := by
    rw [hP]
    simp only [List.take_zero, List.map_nil, List.append_nil]
    exact hmono _ _ _ _ hGG1 hIk
  have hPn : ∀ j, j * m < ls.length → P (j + 1) = P j ++ [(w, (ls.drop (j * m)).take m)] := fun j hj => by
    rw [hP]
    simp only
    have := chunkN_at hm (n := ls.length) (l := ls) (k := j) (Nat.le_refl _) hj
    rw [List.take_add_one, show (chunkF m ls)[j]? = _ from this]
    simp
  have hPe : ∀ j, ls.length ≤ j * m → P j = pairsF (t.act.take (k + 1)) (hasF t.spans) want m := fun j hj => by
    rw [hP]
    simp only
    have := chunkN_end hm (n := ls.length) (l := ls) (k := j) (Nat.le_refl _) hj
    rw [List.take_of_length_le (l := chunkF m ls) this, List.take_add_one (i := k), hwk]
    show _ = pairsF (t.act.take k ++ [w]) (hasF t.spans) want m
    rw [pairsF_snoc, hls]
  have hPp : ∀ j, P j <+: pairsF t.act (hasF t.spans) want m := fun j => by
    rw [hP, hls]
    exact pairsF_take hwk _ _ _ _
  refine WC_wk [(21, .func (.func 148) #[] #[.pointer (some ⟨x2c, 0, none⟩), .pointer (some ⟨x3c, 0, none⟩)]), (5, .pointer (some ⟨x5, 0, none⟩)), (12, iV (k : Int)), (11, iV (t.act.length : Nat)), (10, .slice (some ⟨ab, aoff, none⟩) t.act.length cap), (1, .pointer (some ⟨xp, 0, none⟩)), (2, .pointer (some ⟨xm, 0, none⟩)), (3, .pointer (some ⟨x3, 0, none⟩))] ⟨rfl, rfl, rfl, rfl, rfl, rfl, rfl, rfl, trivial⟩ ?_
  refine WC_rangeZ (α := Nat) (γ := Nat × List (Nat × Obj)) rfl (fun j => [chV b19 off19 m ls.length j]) (fun _ => rfl) rfl (fun st => (ly, o1) :: (d, o2) :: (st.2 ++ (G1 ++ Z)))
    (fun st j => j = st.1 ∧ j * m < ls.length ∧ I G1 (P j) st.2) (fun st j st' => st'.1 = j + 1 ∧ I G1 (P (j + 1)) st'.2) (fun st => I G1 (pairsF (t.act.take (k + 1)) (hasF t.spans) want m) st.2) (fun _ _ => False) ?_ ?_ ?_ ?_
  · intro l2 d2 p1 p2 Jx hJ hyr
    refine (chunk1_fn (v := .slice a19 ls.length c19) (b := b19) (off := off19) (m := m) (I := fun j M => ∃ L'', M = (ly, o1) :: (d, o2) :: (L'' ++ (G1 ++ Z)) ∧ I G1 (P j) L'') (Jx := Jx) rfl (fun h => (ha19 h).1) hc19 (by omega) hm (by omega) ?_ ?_ ⟨L', rfl, hI1⟩).mono ?_
    · rintro j _ ⟨L'', rfl, hIj⟩
      exact ⟨List.mem_iff_getElem?.1 (.tail _ (.tail _ (List.mem_append_right _ (List.mem_append_left _ h2G)))), List.mem_iff_getElem?.1 (.tail _ (.tail _ (List.mem_append_right _ (List.mem_append_left _ h3G))))⟩
    · rintro j _ hj ⟨L'', rfl, hIj⟩
      refine (hyr (j, L'') j ⟨rfl, hj, hIj⟩).monoY ?_
      rintro v L2 (⟨rfl, st', ⟨_, h2⟩, rfl⟩ | ⟨rfl, h⟩)
      · exact .inl ⟨rfl, _, rfl, _, rfl, h2⟩
      · exact .inr ⟨rfl, h⟩
    · rintro v L2 (⟨j, _, hj, rfl, L'', rfl, hIj⟩ | h)
      · rw [hPe j hj] at hIj
        exact .inl ⟨(j, L''), hIj, rfl⟩
      · exact .inr h
  · rintro g' n' l2 d2 ⟨_, L''⟩ j ⟨rfl, hj, hIj⟩ ol od hol
    repeat (first | (refine WL_Q ?_; (first | refine QW_a ?_)) | refine WL_nil ?_ | refine WC_seq ?_ | refine WC_block ?_ | refine WC_cond_t (ht := ?_) | refine WC_cond_f (he := ?_) | refine WC_skip ?_ | refine WC_ret ?_ | refine WC_exit ?_ | refine WG 6 ?_)
    refine ⟨rfl, _, [], _, rfl, fun ol' hol' => ?_⟩
    simp only [List.nil_append]
    obtain ⟨jY, hjY⟩ := List.mem_iff_getElem?.1 (show Y ∈ (l2, ol') :: (d2, od) :: (ly, o1) :: (d, o2) :: (L'' ++ (G1 ++ Z)) from .tail _ (.tail _ (.tail _ (.tail _ (List.mem_append_right _ (List.mem_append_left _ hYG))))))
    obtain ⟨j5, hj5⟩ := List.mem_iff_getElem?.1 (show (x5, Obj.cells #[iV w] 3 (0, 0)) ∈ (l2, ol') :: (d2, od) :: (ly, o1) :: (d, o2) :: (L'' ++ (G1 ++ Z)) from .tail _ (.tail _ (.tail _ (.tail _ (List.mem_append_right _ (List.mem_append_left _ h5G))))))
    rw [hY] at hjY
    repeat (first | (refine WL_Q ?_; (first | refine QW_a ?_)) | refine WL_nil ?_ | refine WC_seq ?_ | refine WC_block ?_ | refine WC_cond_t (ht := ?_) | refine WC_cond_f (he := ?_) | refine WC_skip ?_ | refine WC_ret ?_ | refine WC_exit ?_ | refine WG 7 ?_)
    have hch := hV19.chunk (b := b19) (off := off19) (m := m) (j := j) (by rw [(ha19 (by omega)).1]) hj
    have hIm : I G1 (P j) L'' := hIj
    have hyf := hr G1 (Z ++ [(l2, ol'), (d2, od)]) (P j) w _ _ L'' (by rw [← hPn j hj]; exact hPp (j + 1)) hch hIm
    refine WL_permT (L' := (ly, o1) :: (d, o2) :: (L'' ++ (G1 ++ (Z ++ [(l2, ol'), (d2, od)])))) (perm_mv3 ..) ?_
    refine WL_op rfl (OW_yield rfl rfl rfl rfl rfl hyf ?_)
    rintro _ _ ⟨rfl, L3, rfl, hI3⟩
    refine WL_permT (L' := (l2, ol') :: (d2, od) :: (ly, o1) :: (d, o2) :: (L3 ++ (G1 ++ Z))) (perm_mv3 ..).symm ?_
    repeat (first | (refine WL_Q ?_; (first | refine QW_a ?_)) | refine WL_nil ?_ | refine WC_seq ?_ | refine WC_block ?_ | refine WC_cond_t (ht := ?_) | refine WC_cond_f (he := ?_) | refine WC_skip ?_ | refine WC_ret ?_ | refine WC_exit ?_ | refine WG 7 ?_)
    exact ⟨_, .refl _, (j + 1, L3), ⟨rfl, by rw [hPn j hj]; exact hI3⟩, rfl⟩
  · rintro d2 ⟨_, L''⟩ hIe
    refine WC_permT (L' := (ly, o1) :: (d, o2) :: (L'' ++ (G1 ++ dfS d2 :: Z))) (perm_mv4 ..) ?_
    repeat (first | (refine WL_Q ?_; (first | refine QW_a ?_)) | refine WL_nil ?_ | refine WC_seq ?_ | refine WC_block ?_ | refine WC_cond_t (ht := ?_) | refine WC_cond_f (he := ?_) | refine WC_skip ?_ | refine WC_ret ?_ | refine WC_exit ?_ | refine WG 8 ?_)
    rw [ww, hZ]
    exact ⟨_, _, by omega, ⟨k + 1, G1, L'', d2 :: Ds, rfl, by omega, fun q hq => hGG1 q (hG q hq), hIe, rfl⟩, ⟨rfl, rfl, rfl, rfl, rfl, rfl, trivial⟩, rfl, .refl _⟩
  · intro _ _ _ h
    exact h.elim
end Go.Proofs.YtncgndcepoicbaaGreat
namespace Go.Proofs.YtncgndcepoicbaaGreat
open Go.RowKit
def idxL : Nat → List Value → List (Nat × Value)
  | _, [] => []
  | k, x :: r => (k, x) :: idxL (k + 1) r
theorem fill_idx {n : Nat} : ∀ (xs : List Value) (k : Nat) (pre z : List Value), pre.length = k * n → z.length = xs.length * n → (∀ x ∈ xs, x.cells.size = n) →
    FilledA n (pre ++ z).toArray (idxL k xs) (pre ++ xs.flatMap fun x => x.cells.toList).toArray
  | [], k, pre, z, _, hz, _ => by
    have : z = [] := List.length_eq_zero_iff.1 (by simpa using hz)
    subst this
    show _ = _
    simp
  | x :: r, k, pre, z, hp, hz, hx => by
    have h1 := hx x (by simp)
    have h2 : z.length = r.length * n + n := by rw [hz, List.length_cons, Nat.succ_mul]
    refine ⟨h1, by rw [List.size_toArray, List.length_append]; omega, ?_⟩
    have ih := fill_idx (n := n) r (k + 1) (pre ++ x.cells.toList) (z.drop n) (by rw [List.length_append, hp, Nat.succ_mul, Array.length_toList, h1]) (by rw [List.length_drop]; omega) (fun y hy => hx y (by simp [hy]))
    have e : putR (pre ++ z).toArray (k * n) x.cells = ((pre ++ x.cells.toList) ++ z.drop n).toArray := by
      unfold putR
      rw [← hp, h1]
      simp only [List.take_left, List.drop_append, List.append_assoc]
      rw [List.drop_eq_nil_of_le (by omega), List.nil_append]
      congr 4
      omega
    rw [e]
    simpa using ih
theorem OW_buildS {c : Cx} {o : Oper} {Kn : St → Prop} {K : Exit → St → Prop} {s : List (Nat × Value)} {D : List Deferred} {L : List (Nat × Obj)} {t E n m by_ d : Nat} {z : Array Value} {parts : Array (Nat × Operand)} {xs : List Value} [hu : TUnd c.P t (.slice E)] [hrow : TRow c.P E z n by_] (ho : o.op = .buildSlice t m parts) (_hv : evs s (parts.toList.map fun q => q.2) = some xs := by exact rfl) (hx : evp s parts.toList = some (idxL 0 xs) := by exact rfl) (hm : xs.length = m := by exact rfl)
    (hk : ∀ b, Kn ⟨(d, .slice (some ⟨b, 0, none⟩) m m) :: s, D, (b, .cells (xs.flatMap fun x => x.cells.toList).toArray E) :: L⟩) (hc0 : (xs.all fun x => x.cells.size == n) = true := by exact rfl) (hn0 : Nat.ble 1 (m * n) = true := by exact rfl) (hn1 : Nat.ble (m * n) 16777216 = true := by exact rfl) (hdst : o.dst = some d := by exact rfl) (hd : Nat.blt d c.N = true := by exact rfl) : OW c o Kn K ⟨s, D, L⟩ := fun a w ha => by
  have hc : ∀ x ∈ xs, x.cells.size = n := fun x hx => by simpa using List.all_eq_true.1 hc0 x hx
  refine ⟨fun _ _ => trivial, ?_⟩
  obtain ⟨i, zz, h1, h2, h3, h4, h5, h6⟩ := hrow.h
  have hn0 := Nat.le_of_ble_eq_true hn0
  have hn1 := Nat.le_of_ble_eq_true hn1
  have hb := run_buildSlice (P := c.P) w t E m (parts.map fun (i, x) => (i, a.eval x)) (xs.flatMap fun x => x.cells.toList).toArray i zz hu.h h1 h2 (by rw [h4]; omega) (by rw [h4]; omega) (by
    rw [h4, Array.toList_map, evp_map (fun x u hu => ha.ev hu) hx]
    generalize hAe : (Array.range (m * n)).map (zz.cells[· % zz.cells.size]!) = A
    have hA : A.size = m * n := by rw [← hAe]; simp
    have hf := fill_of_FilledA (fill_idx (n := n) xs 0 [] A.toList (by simp) (by rw [Array.length_toList, hA, hm]) hc)
    rw [List.nil_append, List.nil_append, Array.toArray_toList] at hf
    exact hf)
  have hr : (execOp a.eval o).run c.P w = .ok (.value (.slice (some ⟨w.heap.size, 0, none⟩) m m)) (w.alloc (.cells (xs.flatMap fun x => x.cells.toList).toArray E)) := by
    simp [execOp, ho, hb]
  rw [Oper.semAt_eq _ _ _ (by rw [ho]; intro cc h; cases h), hr]
  refine ⟨_, ?_, hk w.heap.size⟩
  rw [hdst]
  exact (ha.mem' (ha.mem.alloc _)).put (d := some d) hd _
end Go.Proofs.YtncgndcepoicbaaGreat
namespace Go.Proofs.YtncgndcepoicbaaGreat
open Go.RowKit
theorem i64q_of {x : Int} (h : -1000 ≤ x ∧ x ≤ 1000) : i64q x := by unfold i64q; omega
attribute [local irreducible] Fn WC WL WR OW Qt YieldFn QW FnP FnD FnE
end Go.Proofs.YtncgndcepoicbaaGreat
