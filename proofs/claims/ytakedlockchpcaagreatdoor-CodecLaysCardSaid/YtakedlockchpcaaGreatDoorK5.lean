/-
  A part of what the last of these texts needs; by itself it proves no statement.
-/
import Derived.Test.YtakedlockchpcaaGreatDoorK4
namespace Go.Proofs.YtakedlockchpcaaGreatDoor
open Go.RowKit
attribute [local irreducible] Fn WC WL WR OW Qt YieldFn QW FnP FnD FnE
def PMem (pb : Nat) (T0 : List (Nat × Obj)) (n0 : Nat) (bs : List UInt8) (Lp : List (Nat × Obj)) : Prop :=
  ∃ v T, Lp = T ++ [(pb, .cells #[v] 177 (0, 0))] ∧ ByAt (T ++ T0) v bs ∧
    ((T = [] ∧ bs.length = n0 ∧ ∃ a, v = .slice a bs.length bs.length) ∨ ∃ g off cap cur, v = .slice (some ⟨g, off, none⟩) bs.length cap ∧ T = [(g, .cells cur 5 (0, 0))] ∧ Own 1 cur off cap bs.length (bs.map bV))
theorem enc_len_ok {k : Fk} {x : Value} (h : k.ok x) : (k.enc x).length ≤ 10 := by
  cases k with
  | ww => obtain ⟨x, rfl, h0, h1⟩ := h; exact enc_len (zz_lt h0 h1)
  | nn => obtain ⟨x, rfl, h0, h1⟩ := h; exact enc_len (by omega)
  | kk => obtain ⟨x, rfl, h0, h1⟩ := h; exact enc_len (by omega)
  | tt => obtain ⟨x, rfl⟩ := h; cases x <;> simp [Fk.enc, encB]
  | bb => obtain ⟨x, rfl⟩ := h; simp [Fk.enc, bV]
def putW (pb : Nat) (T0 : List (Nat × Obj)) (n0 : Nat) : Wy Tryz.prog where
  S := List UInt8
  t := 175
  v := .pointer (some ⟨pb, 0, none⟩)
  T0 := T0
  mem := PMem pb T0 n0
  room := fun bs n => bs.length + 10 * n ≤ 1000000000
  stp := fun k bs x => .ok (bs ++ k.enc x) x
  hr := fun bs => bs
  mst := fun _ _ _ => none
  hr_room := fun h => h
  key_ok := fun h0 h1 h _ => by cases h; exact ⟨rfl, h1⟩
  key_bad := fun h => by cases h
  key_must := fun _ h => by cases h
  keeps := .inr fun _ _ _ _ _ h => by cases h; rfl
  stp_ok := fun h ho => by cases h; exact ho
  stp_room := fun h ho hr => by
    cases h
    have := enc_len_ok ho
    rw [List.length_append]
    omega
  room_le := fun h hm => by omega
theorem putW_stps (pb : Nat) (T0 : List (Nat × Obj)) (n0 : Nat) : ∀ {fs : List Fk} {bs : List UInt8} {vs : List Value}, Oks fs vs → (putW pb T0 n0).stps fs bs vs = .ok (bs ++ encs fs vs) vs
  | [], bs, [], _ => by simp [Wy.stps, encs]
  | k :: ks, bs, v :: vs, h => by
    have ih := putW_stps pb T0 n0 (fs := ks) (bs := bs ++ k.enc v) h.2
    simp only [Wy.stps]
    have e : (putW pb T0 n0).stp k bs v = .ok (bs ++ k.enc v) v := rfl
    rw [e]
    simp only
    rw [ih, List.append_assoc]
    rfl
  | [], _, _ :: _, h => h.elim
  | _ :: _, _, [], h => h.elim
section
variable {pb : Nat} {T0 : List (Nat × Obj)} {n0 : Nat}
theorem put_after {R : List (Nat × Obj)} (hT : ∀ q ∈ T0, q ∈ R) {bs bs' : List UInt8} {i b : Nat} {cs : Array Value} {E : TypeId} {fr : Nat × Nat} {off : Nat} {x : Value} {k : Fk} (hR : R[i]? = some (b, .cells cs E fr)) (hl : cs[off]? = some x) (he : bs' = bs ++ k.enc x) {g off' cap : Nat} {cur : Array Value} (ho : Own 1 cur off' cap bs'.length (bs'.map bV)) :
    FRet (putW pb T0 n0) ((putW pb T0 n0).stps [k] bs [x]) R i b cs E fr off ((g, .cells cur 5 (0, 0)) :: (pb, .cells #[.slice (some ⟨g, off', none⟩) bs'.length cap] 177 (0, 0)) :: R) := by
  subst he
  refine ⟨bs ++ k.enc x, [x], [(g, .cells cur 5 (0, 0))] ++ [(pb, .cells #[.slice (some ⟨g, off', none⟩) (bs ++ k.enc x).length cap] 177 (0, 0))], cs, rfl, by rw [set_same hR]; rfl, ⟨_, _, rfl, (show ByAt ([(g, Obj.cells cur 5 (0, 0))] ++ T0) _ _ from own_by0 ho), .inr ⟨g, off', cap, cur, rfl, rfl, ho⟩⟩, Upd.refl_of fun j v h => ?_, by rw [set_same hR]; exact hT⟩
  cases j with
  | zero => simp at h; subst h; exact hl
  | succ j => simp at h
theorem put_by {sl : Value} {T R : List (Nat × Obj)} {bs : List UInt8} {q : Nat × Obj} (hT : ∀ q ∈ T0, q ∈ R) (hb0 : ByAt (T ++ T0) sl bs) : ByAt ((T ++ [q]) ++ R) sl bs := by
  refine Vec.mono hb0 fun i p hp => ?_
  refine List.mem_iff_getElem?.1 ?_
  have := List.mem_of_getElem? hp
  rcases List.mem_append.1 this with h | h
  · exact List.mem_append_left _ (List.mem_append_left _ h)
  · exact List.mem_append_right _ (hT _ h)
set_option maxHeartbeats 1000000 in
theorem put_whole : Flat (putW pb T0 n0) 172 (.pointer (some ⟨pb, 0, none⟩)) [.ww] := by
  rintro (bs : List UInt8) _ R i b cs E fr off vs ⟨sl, T, rfl, hb0, hT⟩ hT0 hroom hR hv hl _
  obtain ⟨x0, us, rfl, ⟨x, rfl, h0, h1⟩, hv'⟩ := hv.split
  obtain rfl := hv'.nil
  have hc := hl.cons.1
  have hroom : bs.length + 10 * 1 ≤ 1000000000 := hroom
  have hlen : bs.length ≤ 1000000000 := by omega
  have hX := get_app (A := T ++ [(pb, .cells #[sl] 177 (0, 0))]) hR
  have hP : ((T ++ [(pb, .cells #[sl] 177 (0, 0))]) ++ R)[T.length]? = some (pb, .cells #[sl] 177 (0, 0)) := by simp
  have hb := put_by (R := R) (q := (pb, .cells #[sl] 177 (0, 0))) hT0 hb0
  refine FnE.ofFn ?_
  refine Fn_enter Tryz.func172 rfl Tryz.ntmps172 rfl fun g => ?_
  repeat (first | ((first | refine WL_Q ?_ | refine WR_Q rfl ?_ | refine WR_late rfl rfl rfl (OW_Q ?_)); (first | refine QW_a ?_)) | ((first | refine WL_op rfl ?_ | refine WR_late rfl rfl rfl ?_ | refine WR_opG rfl rfl ?_); (first | refine OW_st1 rfl ?_ | (refine OW_call rfl (hF := PI_fn hb h0 h1 hlen) (hk := ?_); rintro _ _ ⟨b1, off1, cap1, cur1, rfl, rfl, ho1⟩)); try refine ⟨(by first | exact fun _ h => h | exact sub_mem (by repeat (first | exact .refl _ | exact List.nil_sublist _ | exact List.sublist_append_right _ _ | apply List.Sublist.cons_cons | apply List.Sublist.cons))), ?_⟩) | refine WL_nil ?_ | refine WR_nil ?_ | refine WC_seq ?_ | refine WC_block ?_ | refine WC_cond_t (ht := ?_) | refine WC_cond_f (he := ?_) | refine WC_skip ?_ | refine WC_ret ?_ | refine WC_exit ?_ | refine WC_draw_all (id := 0) 9 (.calm 0 <| .calm 1 <| .calm 2 <| .calm 3 <| .calm 4 <| .calm 5 <| .calm 6 <| .calm 7 <| .must 8 <| .must 9 <| .must 10 <| .must 11 <| .done) mixed (by kernel_rfl) ?_ | refine WC_region ?_)
  have hP' : ((b1, Obj.cells cur1 5 (0, 0)) :: ((T ++ [(pb, .cells #[sl] 177 (0, 0))]) ++ R))[T.length + 1]? = some (pb, .cells #[sl] 177 (0, 0)) := hP
  refine WR_late rfl rfl rfl (OW_store1F (v := .slice (some ⟨b1, off1, none⟩) (bs ++ enc (zz x)).length cap1) rfl (off := 0) (cs := #[sl]) (T.length + 1) hP' (by simp) (Free.zero _ _) (WR_nil ?_))
  refine ⟨rfl, _, _, Res0 rfl, ?_, rfl, put_after (g := b1) hT0 hR hc rfl ho1⟩
  rw [show ∀ q : Nat × Obj, ((b1, Obj.cells cur1 5 (0, 0)) :: ((T ++ [(pb, .cells #[sl] 177 (0, 0))]) ++ R)).set (T.length + 1) q = (b1, Obj.cells cur1 5 (0, 0)) :: (T ++ (q :: R)) from fun q => by simp]
  exact .cons_cons _ (List.sublist_append_right _ _)
set_option maxHeartbeats 1000000 in
theorem put_number : Flat (putW pb T0 n0) 169 (.pointer (some ⟨pb, 0, none⟩)) [.nn] := by
  rintro (bs : List UInt8) _ R i b cs E fr off vs ⟨sl, T, rfl, hb0, hT⟩ hT0 hroom hR hv hl _
  obtain ⟨x0, us, rfl, ⟨x, rfl, h0, h1⟩, hv'⟩ := hv.split
  obtain rfl := hv'.nil
  have hc := hl.cons.1
  have hroom : bs.length + 10 * 1 ≤ 1000000000 := hroom
  have hlen : bs.length ≤ 1000000000 := by omega
  have hX := get_app (A := T ++ [(pb, .cells #[sl] 177 (0, 0))]) hR
  have hP : ((T ++ [(pb, .cells #[sl] 177 (0, 0))]) ++ R)[T.length]? = some (pb, .cells #[sl] 177 (0, 0)) := by simp
  have hb := put_by (R := R) (q := (pb, .cells #[sl] 177 (0, 0))) hT0 hb0
  refine FnE.ofFn ?_
  refine Fn_enter Tryz.func169 rfl Tryz.ntmps169 rfl fun g => ?_
  repeat (first | ((first | refine WL_Q ?_ | refine WR_Q rfl ?_ | refine WR_late rfl rfl rfl (OW_Q ?_)); (first | refine QW_a ?_)) | ((first | refine WL_op rfl ?_ | refine WR_late rfl rfl rfl ?_ | refine WR_opG rfl rfl ?_); (first | refine OW_st1 rfl ?_ | (refine OW_call rfl (hF := P_fn' hb h0 h1 hlen) (hk := ?_); rintro _ _ ⟨b1, off1, cap1, cur1, rfl, rfl, ho1⟩)); try refine ⟨(by first | exact fun _ h => h | exact sub_mem (by repeat (first | exact .refl _ | exact List.nil_sublist _ | exact List.sublist_append_right _ _ | apply List.Sublist.cons_cons | apply List.Sublist.cons))), ?_⟩) | refine WL_nil ?_ | refine WR_nil ?_ | refine WC_seq ?_ | refine WC_block ?_ | refine WC_cond_t (ht := ?_) | refine WC_cond_f (he := ?_) | refine WC_skip ?_ | refine WC_ret ?_ | refine WC_exit ?_ | refine WC_draw_all (id := 0) 9 (.calm 0 <| .calm 1 <| .calm 2 <| .calm 3 <| .calm 4 <| .calm 5 <| .calm 6 <| .calm 7 <| .must 8 <| .must 9 <| .must 10 <| .must 11 <| .done) mixed (by kernel_rfl) ?_ | refine WC_region ?_)
  have hP' : ((b1, Obj.cells cur1 5 (0, 0)) :: ((T ++ [(pb, .cells #[sl] 177 (0, 0))]) ++ R))[T.length + 1]? = some (pb, .cells #[sl] 177 (0, 0)) := hP
  refine WR_late rfl rfl rfl (OW_store1F (v := .slice (some ⟨b1, off1, none⟩) (bs ++ enc x.toNat).length cap1) rfl (off := 0) (cs := #[sl]) (T.length + 1) hP' (by simp) (Free.zero _ _) (WR_nil ?_))
  refine ⟨rfl, _, _, Res0 rfl, ?_, rfl, put_after (g := b1) hT0 hR hc rfl ho1⟩
  rw [show ∀ q : Nat × Obj, ((b1, Obj.cells cur1 5 (0, 0)) :: ((T ++ [(pb, .cells #[sl] 177 (0, 0))]) ++ R)).set (T.length + 1) q = (b1, Obj.cells cur1 5 (0, 0)) :: (T ++ (q :: R)) from fun q => by simp]
  exact .cons_cons _ (List.sublist_append_right _ _)
set_option maxHeartbeats 1000000 in
theorem put_truth : Flat (putW pb T0 n0) 171 (.pointer (some ⟨pb, 0, none⟩)) [.tt] := by
  rintro (bs : List UInt8) _ R i b cs E fr off vs ⟨sl, T, rfl, hb0, hT⟩ hT0 hroom hR hv hl _
  obtain ⟨x0, us, rfl, ⟨x, rfl⟩, hv'⟩ := hv.split
  obtain rfl := hv'.nil
  have hc := hl.cons.1
  have hroom : bs.length + 10 * 1 ≤ 1000000000 := hroom
  have hlen : bs.length ≤ 1000000000 := by omega
  have hX := get_app (A := T ++ [(pb, .cells #[sl] 177 (0, 0))]) hR
  have hP : ((T ++ [(pb, .cells #[sl] 177 (0, 0))]) ++ R)[T.length]? = some (pb, .cells #[sl] 177 (0, 0)) := by simp
  have hb := put_by (R := R) (q := (pb, .cells #[sl] 177 (0, 0))) hT0 hb0
  refine FnE.ofFn ?_
  refine Fn_enter Tryz.func171 rfl Tryz.ntmps171 rfl fun g => ?_
  repeat (first | ((first | refine WL_Q ?_ | refine WR_Q rfl ?_ | refine WR_late rfl rfl rfl (OW_Q ?_)); (first | refine QW_a ?_)) | ((first | refine WL_op rfl ?_ | refine WR_late rfl rfl rfl ?_ | refine WR_opG rfl rfl ?_); (first | refine OW_st1 rfl ?_ | (refine OW_call rfl (hF := PBool_fn hb hlen) (hk := ?_); rintro _ _ ⟨b1, off1, cap1, cur1, rfl, rfl, ho1⟩)); try refine ⟨(by first | exact fun _ h => h | exact sub_mem (by repeat (first | exact .refl _ | exact List.nil_sublist _ | exact List.sublist_append_right _ _ | apply List.Sublist.cons_cons | apply List.Sublist.cons))), ?_⟩) | refine WL_nil ?_ | refine WR_nil ?_ | refine WC_seq ?_ | refine WC_block ?_ | refine WC_cond_t (ht := ?_) | refine WC_cond_f (he := ?_) | refine WC_skip ?_ | refine WC_ret ?_ | refine WC_exit ?_ | refine WC_draw_all (id := 0) 9 (.calm 0 <| .calm 1 <| .calm 2 <| .calm 3 <| .calm 4 <| .calm 5 <| .calm 6 <| .calm 7 <| .must 8 <| .must 9 <| .must 10 <| .must 11 <| .done) mixed (by kernel_rfl) ?_ | refine WC_region ?_)
  have hP' : ((b1, Obj.cells cur1 5 (0, 0)) :: ((T ++ [(pb, .cells #[sl] 177 (0, 0))]) ++ R))[T.length + 1]? = some (pb, .cells #[sl] 177 (0, 0)) := hP
  refine WR_late rfl rfl rfl (OW_store1F (v := .slice (some ⟨b1, off1, none⟩) (bs ++ encB x).length cap1) rfl (off := 0) (cs := #[sl]) (T.length + 1) hP' (by simp) (Free.zero _ _) (WR_nil ?_))
  refine ⟨rfl, _, _, Res0 rfl, ?_, rfl, put_after (g := b1) hT0 hR hc rfl ho1⟩
  rw [show ∀ q : Nat × Obj, ((b1, Obj.cells cur1 5 (0, 0)) :: ((T ++ [(pb, .cells #[sl] 177 (0, 0))]) ++ R)).set (T.length + 1) q = (b1, Obj.cells cur1 5 (0, 0)) :: (T ++ (q :: R)) from fun q => by simp]
  exact .cons_cons _ (List.sublist_append_right _ _)
set_option maxHeartbeats 1000000 in
theorem put_one : Flat (putW pb T0 n0) 170 (.pointer (some ⟨pb, 0, none⟩)) [.bb] := by
  rintro (bs : List UInt8) _ R i b cs E fr off vs ⟨sl, T, rfl, hb0, hT⟩ hT0 hroom hR hv hl _
  obtain ⟨x0, us, rfl, ⟨x, rfl⟩, hv'⟩ := hv.split
  obtain rfl := hv'.nil
  have hc := hl.cons.1
  have hroom : bs.length + 10 * 1 ≤ 1000000000 := hroom
  have hlen : bs.length ≤ 1000000000 := by omega
  have hX := get_app (A := T ++ [(pb, .cells #[sl] 177 (0, 0))]) hR
  have hP : ((T ++ [(pb, .cells #[sl] 177 (0, 0))]) ++ R)[T.length]? = some (pb, .cells #[sl] 177 (0, 0)) := by simp
  have hb := put_by (R := R) (q := (pb, .cells #[sl] 177 (0, 0))) hT0 hb0
  have e1 : bs ++ [x] = bs ++ Fk.enc .bb (bV x) := by
    show _ = bs ++ [UInt8.ofNat ((x.toNat : Nat) : Int).toNat]
    rw [Int.toNat_natCast, UInt8.ofNat_toNat]
  refine FnE.ofFn ?_
  refine Fn_enter Tryz.func170 rfl Tryz.ntmps170 rfl fun g => ?_
  rcases hT with ⟨rfl, hn0, a, rfl⟩ | ⟨g, goff, gcap, gcur, rfl, rfl, hown⟩
  · repeat (first | ((first | refine WL_Q ?_ | refine WR_Q rfl ?_ | refine WR_late rfl rfl rfl (OW_Q ?_)); (first | refine QW_a ?_)) | ((first | refine WL_op rfl ?_ | refine WR_late rfl rfl rfl ?_ | refine WR_opG rfl rfl ?_); (first | refine OW_build1 rfl (hk := fun _ => ?_) | refine OW_st1 rfl ?_); try refine ⟨(by first | exact fun _ h => h | exact sub_mem (by repeat (first | exact .refl _ | exact List.nil_sublist _ | exact List.sublist_append_right _ _ | apply List.Sublist.cons_cons | apply List.Sublist.cons))), ?_⟩) | refine WL_nil ?_ | refine WR_nil ?_ | refine WC_seq ?_ | refine WC_block ?_ | refine WC_cond_t (ht := ?_) | refine WC_cond_f (he := ?_) | refine WC_skip ?_ | refine WC_ret ?_ | refine WC_exit ?_ | refine WC_draw_all (id := 0) 10 (.calm 0 <| .calm 1 <| .calm 2 <| .calm 3 <| .calm 4 <| .calm 5 <| .calm 6 <| .calm 7 <| .must 8 <| .must 9 <| .must 10 <| .must 11 <| .must 12 <| .done) mixed (by kernel_rfl) ?_ | refine WC_region ?_)
    rename_i qb
    refine WR_opG rfl rfl (OW_append_new rfl rfl rfl rfl rfl (olds := bs.map bV) (m := 1) (news := [bV x]) (Vec.cons _ hb) (src1 0 rfl) (by omega) (by simp only [maxLen]; omega) (by omega) fun b1 cap1 cur1 ho => ?_)
    refine ⟨(by first | exact fun _ h => h | exact fun _ h => List.Sublist.subset (by repeat (first | exact .refl _ | exact List.nil_sublist _ | exact List.sublist_append_right _ _ | apply List.Sublist.cons_cons | apply List.Sublist.cons)) h), ?_⟩
    repeat (first | ((first | refine WL_Q ?_ | refine WR_Q rfl ?_ | refine WR_late rfl rfl rfl (OW_Q ?_)); (first | refine QW_a ?_)) | ((first | refine WL_op rfl ?_ | refine WR_late rfl rfl rfl ?_ | refine WR_opG rfl rfl ?_); (first | refine OW_build1 rfl (hk := fun _ => ?_) | refine OW_st1 rfl ?_); try refine ⟨(by first | exact fun _ h => h | exact sub_mem (by repeat (first | exact .refl _ | exact List.nil_sublist _ | exact List.sublist_append_right _ _ | apply List.Sublist.cons_cons | apply List.Sublist.cons))), ?_⟩) | refine WL_nil ?_ | refine WR_nil ?_ | refine WC_seq ?_ | refine WC_block ?_ | refine WC_cond_t (ht := ?_) | refine WC_cond_f (he := ?_) | refine WC_skip ?_ | refine WC_ret ?_ | refine WC_exit ?_ | refine WC_draw_all (id := 0) 10 (.calm 0 <| .calm 1 <| .calm 2 <| .calm 3 <| .calm 4 <| .calm 5 <| .calm 6 <| .calm 7 <| .must 8 <| .must 9 <| .must 10 <| .must 11 <| .must 12 <| .done) mixed (by kernel_rfl) ?_ | refine WC_region ?_)
    have ho1 : Own 1 cur1 0 cap1 (bs ++ [x]).length ((bs ++ [x]).map bV) := by rw [List.length_append, List.map_append]; exact ho
    have hf := put_after (g := b1) (pb := pb) (T0 := T0) (n0 := n0) hT0 hR hc e1 ho1
    rw [List.length_append] at hf
    exact ⟨rfl, _, _, Res0 rfl, .cons_cons _ (.cons _ (.refl _)), rfl, hf⟩
  · have hX2 : ((pb, Obj.cells #[.slice (some ⟨g, goff, none⟩) bs.length gcap] 177 (0, 0)) :: R)[i + 1]? = some _ := hR
    have hsub : ((pb, Obj.cells #[.slice (some ⟨g, goff, none⟩) bs.length gcap] 177 (0, 0)) :: R).Sublist (([(g, Obj.cells gcur 5 (0, 0))] ++ [(pb, Obj.cells #[.slice (some ⟨g, goff, none⟩) bs.length gcap] 177 (0, 0))]) ++ R) := .cons _ (.refl _)
    refine WC_draw_sub (id := 0) 10 (.calm 0 <| .calm 1 <| .calm 2 <| .calm 3 <| .calm 4 <| .calm 5 <| .calm 6 <| .calm 7 <| .must 8 <| .must 9 <| .must 10 <| .must 11 <| .must 12 <| .done) mixed (by kernel_rfl) (hsub) ?_
    repeat (first | ((first | refine WL_Q ?_ | refine WR_Q rfl ?_ | refine WR_late rfl rfl rfl (OW_Q ?_)); (first | refine QW_a ?_)) | ((first | refine WL_op rfl ?_ | refine WR_late rfl rfl rfl ?_ | refine WR_op rfl rfl ?_); (first | refine OW_build1 rfl (hk := fun _ => ?_) | refine OW_st1 rfl ?_); try refine ⟨(by first | exact fun _ h => h | exact sub_mem (by repeat (first | exact .refl _ | exact List.nil_sublist _ | exact List.sublist_append_right _ _ | apply List.Sublist.cons_cons | apply List.Sublist.cons))), ?_⟩) | refine WL_nil ?_ | refine WR_nil ?_ | refine WC_seq ?_ | refine WC_block ?_ | refine WC_cond_t (ht := ?_) | refine WC_cond_f (he := ?_) | refine WC_skip ?_ | refine WC_ret ?_ | refine WC_exit ?_ | refine WC_draw_all (id := 0) 10 (.calm 0 <| .calm 1 <| .calm 2 <| .calm 3 <| .calm 4 <| .calm 5 <| .calm 6 <| .calm 7 <| .must 8 <| .must 9 <| .must 10 <| .must 11 <| .must 12 <| .done) mixed (by kernel_rfl) ?_ | refine WC_region ?_)
    rename_i qb
    refine WR_op rfl rfl (OW_append_own rfl rfl rfl rfl rfl 1 rfl hown (src1 0 rfl) (by simp only [maxLen]; omega) (by omega) fun b1 off1 cap1 cur1 ho => ?_)
    simp only [List.cons_append, List.nil_append, List.set_cons_succ, List.set_cons_zero]
    refine ⟨(by first | exact fun _ h => h | exact fun _ h => List.Sublist.subset (by repeat (first | exact .refl _ | exact List.nil_sublist _ | exact List.sublist_append_right _ _ | apply List.Sublist.cons_cons | apply List.Sublist.cons)) h), ?_⟩
    repeat (first | ((first | refine WL_Q ?_ | refine WR_Q rfl ?_ | refine WR_late rfl rfl rfl (OW_Q ?_)); (first | refine QW_a ?_)) | ((first | refine WL_op rfl ?_ | refine WR_late rfl rfl rfl ?_ | refine WR_op rfl rfl ?_); (first | refine OW_build1 rfl (hk := fun _ => ?_) | refine OW_st1 rfl ?_); try refine ⟨(by first | exact fun _ h => h | exact sub_mem (by repeat (first | exact .refl _ | exact List.nil_sublist _ | exact List.sublist_append_right _ _ | apply List.Sublist.cons_cons | apply List.Sublist.cons))), ?_⟩) | refine WL_nil ?_ | refine WR_nil ?_ | refine WC_seq ?_ | refine WC_block ?_ | refine WC_cond_t (ht := ?_) | refine WC_cond_f (he := ?_) | refine WC_skip ?_ | refine WC_ret ?_ | refine WC_exit ?_ | refine WC_draw_all (id := 0) 10 (.calm 0 <| .calm 1 <| .calm 2 <| .calm 3 <| .calm 4 <| .calm 5 <| .calm 6 <| .calm 7 <| .must 8 <| .must 9 <| .must 10 <| .must 11 <| .must 12 <| .done) mixed (by kernel_rfl) ?_ | refine WC_region ?_)
    have ho1 : Own 1 cur1 off1 cap1 (bs ++ [x]).length ((bs ++ [x]).map bV) := by rw [List.length_append, List.map_append]; exact ho
    have hf := put_after (g := b1) (pb := pb) (T0 := T0) (n0 := n0) hT0 hR hc e1 ho1
    rw [List.length_append] at hf
    exact ⟨rfl, _, _, Res0 rfl, .cons _ (.refl _), rfl, hf⟩
theorem put_here (s : List UInt8) (Lp R : List (Nat × Obj)) (h : PMem pb T0 n0 s Lp) : FnE Tryz.prog 167 [.pointer (some ⟨pb, 0, none⟩)] (Lp ++ R) (fun v L' => v = .tuple #[] ∧ ∃ Lp', L' = Lp' ++ R ∧ PMem pb T0 n0 s Lp') (fun _ _ => False) := by
  refine FnE.ofFn ?_
  refine Fn_enter Tryz.func167 rfl Tryz.ntmps167 rfl fun g => ?_
  repeat (first | ((first | refine WL_Q ?_); (first | refine QW_a ?_)) | refine WL_nil ?_ | refine WC_seq ?_ | refine WC_block ?_ | refine WC_cond_t (ht := ?_) | refine WC_cond_f (he := ?_) | refine WC_skip ?_ | refine WC_ret ?_ | refine WC_exit ?_ | refine WC_region ?_)
  exact ⟨rfl, _, _, Res0 rfl, .refl _, rfl, Lp, rfl, h⟩
theorem put_must (Lp R : List (Nat × Obj)) (b : Bool) (code : Nat) : FnE Tryz.prog 168 [.pointer (some ⟨pb, 0, none⟩), .bool b, .int .i64 code] (Lp ++ R) (fun v L' => v = .tuple #[] ∧ L' = Lp ++ R) (fun _ _ => False) := by
  refine FnE.ofFn ?_
  refine Fn_enter Tryz.func168 rfl Tryz.ntmps168 rfl fun g => ?_
  repeat (first | ((first | refine WL_Q ?_); (first | refine QW_a ?_)) | refine WL_nil ?_ | refine WC_seq ?_ | refine WC_block ?_ | refine WC_cond_t (ht := ?_) | refine WC_cond_f (he := ?_) | refine WC_skip ?_ | refine WC_ret ?_ | refine WC_exit ?_ | refine WC_region ?_)
  exact ⟨rfl, _, _, Res0 rfl, .refl _, rfl, rfl⟩
end
def putM (pb : Nat) (T0 : List (Nat × Obj)) (n0 : Nat) : Meth (putW pb T0 n0) where
  fw := 172
  fn := 169
  ft := 171
  fo := 170
  fh := 167
  fm := 168
  mw := by kernel_rfl
  mn := by kernel_rfl
  mt := by kernel_rfl
  mo := by kernel_rfl
  mh := by kernel_rfl
  mm := by kernel_rfl
  iw := inferInstance
  jn := inferInstance
  it := inferInstance
  io := inferInstance
  ih := inferInstance
  im := inferInstance
  cw := put_whole
  cn := put_number
  ct := put_truth
  co := put_one
  ch := put_here
  cm := fun _ Lp R b code _ => (put_must Lp R b code).mono (fun _ _ ⟨h1, h2⟩ => ⟨h1, h2, rfl⟩) (fun _ _ h => h.elim)
theorem putF {pb : Nat} {T0 : List (Nat × Obj)} {n0 : Nat} {f : FuncId} {a0 : Value} {fs : List Fk} (hC : Flat (putW pb T0 n0) f a0 fs) {bs : List UInt8} {Lp R : List (Nat × Obj)} {i b : Nat} {cs : Array Value} {E : TypeId} {fr : Nat × Nat} {off : Nat} {vs : List Value} (hM : PMem pb T0 n0 bs Lp) (hT : ∀ q ∈ T0, q ∈ R) (hroom : bs.length + 10 * fs.length ≤ 1000000000) (hR : R[i]? = some (b, .cells cs E fr)) (hv : Oks fs vs) (hl : Lies cs off vs) (hfr : Free fr off fs.length) :
    Fn Tryz.prog f [a0, .pointer (some ⟨b, off, none⟩)] (Lp ++ R) (fun v L' => v = .tuple #[] ∧ ∃ Lp', L' = Lp' ++ R ∧ PMem pb T0 n0 (bs ++ encs fs vs) Lp') := by
  have h := hC bs Lp R i b cs E fr off vs hM hT hroom hR hv hl hfr
  rw [putW_stps pb T0 n0 hv] at h
  refine (h.toFn fun u L' ⟨c, a, p, s', Lp', cs', h1, _⟩ => by cases h1).mono fun v L' ⟨h0, s', vs', Lp', cs', h1, h2, h3, h4, _⟩ => ?_
  cases h1
  refine ⟨h0, Lp', ?_, h3⟩
  rw [h2, h4.same hl, set_same hR]
theorem encs_len : ∀ {fs : List Fk} {vs : List Value}, Oks fs vs → (encs fs vs).length ≤ 10 * fs.length
  | [], [], _ => by simp [encs]
  | k :: ks, v :: vs, h => by
    have h1 := enc_len_ok h.1
    have h2 := encs_len h.2
    show (k.enc v ++ encs ks vs).length ≤ _
    rw [List.length_append, List.length_cons]; omega
  | [], _ :: _, h => h.elim
  | _ :: _, [], h => h.elim
theorem encn_len {es : List Fk} : ∀ {vss : List (List Value)}, (∀ vs ∈ vss, Oks es vs) → (vss.flatMap (encs es)).length ≤ 10 * es.length * vss.length
  | [], _ => by simp
  | v :: vss, h => by
    have h1 := encs_len (h v List.mem_cons_self)
    have h2 := encn_len (vss := vss) fun vs hv => h vs (List.mem_cons_of_mem _ hv)
    rw [List.flatMap_cons, List.length_append, List.length_cons, Nat.mul_succ]; omega
theorem encl_len {es : List Fk} {vss : List (List Value)} (h : ∀ vs ∈ vss, Oks es vs) (hn : vss.length ≤ 1000000) : (encl es vss).length ≤ 10 + 10 * es.length * vss.length := by
  have h1 := encn_len h
  have h2 := enc_len (n := vss.length) (by omega)
  unfold encl
  rw [List.length_append]; omega
end Go.Proofs.YtakedlockchpcaaGreatDoor
namespace Go.Proofs.YtakedlockchpcaaGreatDoor
open Go.RowKit
attribute [local irreducible] Fn WC WL WR OW Qt YieldFn QW FnP FnD FnE
def Elems (R : List (Nat × Obj)) (a : Option Addr) (n : Nat) (vss : List (List Value)) : Prop :=
  vss = [] ∨ ∃ (be eo ie : Nat) (ec : Array Value) (EE : TypeId) (ef : Nat × Nat), a = some ⟨be, eo, none⟩ ∧ R[ie]? = some (be, .cells ec EE ef) ∧ ∀ j vs, vss[j]? = some vs → Lies ec (eo + j * n) vs ∧ Free ef (eo + j * n) n
abbrev putV (pb : Nat) : Value := .iface 175 (.pointer (some ⟨pb, 0, none⟩))
section
variable {pb : Nat} {T0 : List (Nat × Obj)} {n0 : Nat}
set_option maxHeartbeats 4000000 in
theorem plist_int {bs : List UInt8} {Lp R : List (Nat × Obj)} {i b : Nat} {cs : Array Value} {E : TypeId} {fr : Nat × Nat} {off : Nat} {a : Option Addr} {cap : Nat} {vss : List (List Value)} {most : Int} (hM : PMem pb T0 n0 bs Lp) (hT : ∀ q ∈ T0, q ∈ R) (hn : vss.length ≤ 1000000) (hroom : bs.length + 10 + 10 * vss.length ≤ 1000000000) (hR : R[i]? = some (b, .cells cs E fr)) (hc : cs[off]? = some (.slice a vss.length cap)) (he : Elems R a 1 vss) (ho : ∀ vs ∈ vss, Oks binF vs) :
    Fn Tryz.prog 103 [putV pb, .pointer (some ⟨b, off, none⟩), .int .i64 most, .func (.func 101) #[] #[]] (Lp ++ R) (fun v L' => v = .tuple #[] ∧ ∃ Lp', L' = Lp' ++ R ∧ PMem pb T0 n0 (bs ++ encl binF vss) Lp') := by
  have ih := (putM pb T0 n0).ih
  have jn := (putM pb T0 n0).jn
  have im := (putM pb T0 n0).im
  have hX := get_app (A := Lp) hR
  have hw : IntKind.u64.wrap ((vss.length : Nat) : Int) = ((vss.length : Nat) : Int) := wU64 (by omega) (by omega)
  refine Fn_enter Tryz.func103 rfl Tryz.ntmps103 rfl fun g => ?_
  repeat (first | ((first | refine WL_Q ?_); (first | refine QW_a ?_ | refine QW_of (Qt_nilCheck_m rfl) ?_)) | ((first | refine WL_op rfl ?_); (first | refine OW_st1 rfl ?_ | refine OW_alloc rfl (hk := fun _ => ?_) | refine OW_build1 rfl (hk := fun _ => ?_))) | refine WL_nil ?_ | refine WC_seq ?_ | refine WC_block ?_ | refine WC_cond_t (ht := ?_) | refine WC_cond_f (he := ?_) | refine WC_skip ?_ | refine WC_ret ?_ | refine WC_exit ?_ | refine WC_region ?_)
  refine WL_op rfl ?_
  refine OW_invE (putM pb T0 n0).mh rfl (put_here bs Lp R hM) ?_ (fun _ _ h => h.elim)
  rintro _ _ ⟨rfl, Lp1, rfl, hM1⟩
  have hX1 := get_app (A := Lp1) hR
  repeat (first | ((first | refine WL_Q ?_); (first | refine QW_a ?_ | refine QW_of (Qt_nilCheck_m rfl) ?_)) | ((first | refine WL_op rfl ?_); (first | refine OW_st1 rfl ?_ | refine OW_alloc rfl (hk := fun _ => ?_) | refine OW_build1 rfl (hk := fun _ => ?_))) | refine WL_nil ?_ | refine WC_seq ?_ | refine WC_block ?_ | refine WC_cond_t (ht := ?_) | refine WC_cond_f (he := ?_) | refine WC_skip ?_ | refine WC_ret ?_ | refine WC_exit ?_ | refine WC_region (id := 0) ?_ | refine WC_region (id := 1) ?_ | refine WC_region (id := 3) ?_ | refine WC_region (id := 4) ?_ | refine WC_region (id := 5) ?_ | refine WC_region (id := 6) ?_ | refine WC_region (id := 7) ?_ | refine WC_region (id := 8) ?_ | refine WC_region (id := 9) ?_ | refine WC_region (id := 10) ?_ | refine WC_region (id := 11) ?_)
  rw [hw]
  repeat (first | ((first | refine WL_Q ?_); (first | refine QW_a ?_ | refine QW_of (Qt_nilCheck_m rfl) ?_)) | ((first | refine WL_op rfl ?_); (first | refine OW_st1 rfl ?_ | refine OW_alloc rfl (hk := fun _ => ?_) | refine OW_build1 rfl (hk := fun _ => ?_))) | refine WL_nil ?_ | refine WC_seq ?_ | refine WC_block ?_ | refine WC_cond_t (ht := ?_) | refine WC_cond_f (he := ?_) | refine WC_skip ?_ | refine WC_ret ?_ | refine WC_exit ?_ | refine WC_region ?_)
  rename_i mb
  refine WL_op rfl ?_
  refine OW_locI (c := ⟨Tryz.prog, g, _, _, _⟩) (W := putW pb T0 n0) (k := .nn) (s := bs) (putM pb T0 n0).mn (putM pb T0 n0).cn hM1 hT (show bs.length + 10 * 1 ≤ 1000000000 by omega) ⟨_, rfl, by omega, by omega⟩ rfl ?_ (fun c a p s' Lp' h => by cases h)
  intro s' x' Lp2 hs hM2
  cases hs
  repeat (first | ((first | refine WL_Q ?_); (first | refine QW_a ?_ | refine QW_of (Qt_nilCheck_m rfl) ?_)) | ((first | refine WL_op rfl ?_); (first | refine OW_st1 rfl ?_ | refine OW_alloc rfl (hk := fun _ => ?_) | refine OW_build1 rfl (hk := fun _ => ?_))) | refine WL_nil ?_ | refine WC_seq ?_ | refine WC_block ?_ | refine WC_cond_t (ht := ?_) | refine WC_cond_f (he := ?_) | refine WC_skip ?_ | refine WC_ret ?_ | refine WC_exit ?_ | refine WC_region ?_)
  refine WL_op rfl ?_
  refine OW_invE (putM pb T0 n0).mm rfl (put_must (_ :: Lp2) R _ 4) ?_ (fun _ _ h => h.elim)
  rintro _ _ ⟨rfl, rfl⟩
  rw [List.cons_append]
  repeat (first | ((first | refine WL_Q ?_); (first | refine QW_a ?_ | refine QW_of (Qt_nilCheck_m rfl) ?_)) | ((first | refine WL_op rfl ?_); (first | refine OW_st1 rfl ?_ | refine OW_alloc rfl (hk := fun _ => ?_) | refine OW_build1 rfl (hk := fun _ => ?_))) | refine WL_nil ?_ | refine WC_seq ?_ | refine WC_block (id := 1) ?_ | refine WC_cond_t (ht := ?_) | refine WC_cond_f (he := ?_) | refine WC_skip ?_ | refine WC_ret ?_ | refine WC_exit ?_ | refine WC_region ?_)
  have hM2 : PMem pb T0 n0 (bs ++ enc vss.length) Lp2 := by
    have e : bs ++ Fk.enc .nn (.int .u64 (vss.length : Nat)) = bs ++ enc vss.length := by show bs ++ enc ((vss.length : Nat) : Int).toNat = _; rw [Int.toNat_natCast]
    rw [← e]; exact hM2
  refine WC_block (WC_wk [(27, .int .u64 0), (26, .int .u64 (vss.length : Nat)), (0, putV pb), (1, .pointer (some ⟨b, off, none⟩)), (3, .func (.func 101) #[] #[])] ⟨rfl, rfl, rfl, rfl, rfl, trivial⟩ ?_)
  refine WC_dropL (Lp2 ++ R) (.cons _ (.refl _)) ?_
  have hel := enc_len (n := vss.length) (by omega)
  refine WC_loop (fun m σ => ∃ j Lpj, m = vss.length - j ∧ j ≤ vss.length ∧ PMem pb T0 n0 (bs ++ enc vss.length ++ (vss.take j).flatMap (encs binF)) Lpj ∧ σ = ⟨[(27, .int .u64 (j : Nat)), (26, .int .u64 (vss.length : Nat)), (0, putV pb), (1, .pointer (some ⟨b, off, none⟩)), (3, .func (.func 101) #[] #[])], [], Lpj ++ R⟩) vss.length ⟨0, Lp2, by omega, by omega, by simpa using hM2, rfl⟩ ?_
  rintro m σ ⟨j, Lpj, rfl, hj, hMj, rfl⟩
  by_cases hlt : j < vss.length
  · have d1 : decide (((j : Nat) : Int) < ((vss.length : Nat) : Int)) = true := decide_eq_true (by omega)
    have d2 : (((j : Nat) : Int) == IntKind.u64.wrap ((vss.length : Nat) : Int)) = false := by rw [hw]; simp; omega
    have hXj := get_app (A := Lpj) hR
    obtain ⟨vs, hvs⟩ : ∃ vs, vss[j]? = some vs := ⟨_, List.getElem?_eq_getElem hlt⟩
    rcases he with he | ⟨be, eo, ie, ec, EE, ef, rfl, hRe, hat⟩
    · rw [he] at hlt; simp at hlt
    obtain ⟨hl, hf⟩ := hat j vs hvs
    have hov := ho vs (List.mem_of_getElem? hvs)
    have i1 : ((j : Nat) : Int) < ((vss.length : Nat) : Int) := by omega
    have hrm : (bs ++ enc vss.length ++ (vss.take j).flatMap (encs binF)).length + 10 * binF.length ≤ 1000000000 := by
      have h1 := encn_len (es := binF) (vss := vss.take j) fun vs hv => ho vs (List.mem_of_mem_take hv)
      have h2 : (vss.take j).length = j := by rw [List.length_take]; omega
      rw [h2, show binF.length = 1 from rfl] at h1
      rw [List.length_append, List.length_append, show binF.length = 1 from rfl]
      omega
    have hwj : IntKind.u64.wrap (((j : Nat) : Int) + 1) = ((j + 1 : Nat) : Int) := by rw [wU64 (by omega) (by omega)]; omega
    repeat (first | ((first | refine WL_Q ?_); (first | refine QW_a ?_ | refine QW_of (Qt_nilCheck_m rfl) ?_)) | ((first | refine WL_op rfl ?_); (first | refine OW_st1 rfl ?_ | refine OW_alloc rfl (hk := fun _ => ?_) | refine OW_build1 rfl (hk := fun _ => ?_))) | refine WL_nil ?_ | refine WC_seq ?_ | refine WC_block ?_ | refine WC_cond_t (ht := ?_) | refine WC_cond_f (he := ?_) | refine WC_skip ?_ | refine WC_ret ?_ | refine WC_exit ?_ | refine WC_region ?_)
    refine WL_op rfl ?_
    refine OW_callE rfl (FnE.ofFn (Rp := fun _ _ => False) (putF (small_flat (putM pb T0 n0)) hMj hT hrm hRe hov hl hf)) ?_ (fun _ _ h => h.elim)
    rintro _ _ ⟨rfl, Lp', rfl, hM'⟩
    repeat (first | ((first | refine WL_Q ?_); (first | refine QW_a ?_ | refine QW_of (Qt_nilCheck_m rfl) ?_)) | ((first | refine WL_op rfl ?_); (first | refine OW_st1 rfl ?_ | refine OW_alloc rfl (hk := fun _ => ?_) | refine OW_build1 rfl (hk := fun _ => ?_))) | refine WL_nil ?_ | refine WC_seq ?_ | refine WC_block ?_ | refine WC_cond_t (ht := ?_) | refine WC_cond_f (he := ?_) | refine WC_skip ?_ | refine WC_ret ?_ | refine WC_exit ?_ | refine WC_region ?_)
    rw [hwj]
    refine ⟨_, _, by omega, ⟨j + 1, Lp', rfl, by omega, ?_, rfl⟩, ⟨rfl, rfl, rfl, rfl, rfl, trivial⟩, rfl, .refl _⟩
    rw [List.take_add_one, hvs, List.flatMap_append, ← List.append_assoc]
    simpa using hM'
  · have d1 : decide (((j : Nat) : Int) < ((vss.length : Nat) : Int)) = false := decide_eq_false (by omega)
    obtain rfl : j = vss.length := by omega
    rw [List.take_length, List.append_assoc] at hMj
    repeat (first | ((first | refine WL_Q ?_); (first | refine QW_a ?_ | refine QW_of (Qt_nilCheck_m rfl) ?_)) | ((first | refine WL_op rfl ?_); (first | refine OW_st1 rfl ?_ | refine OW_alloc rfl (hk := fun _ => ?_) | refine OW_build1 rfl (hk := fun _ => ?_))) | refine WL_nil ?_ | refine WC_seq ?_ | refine WC_block ?_ | refine WC_cond_t (ht := ?_) | refine WC_cond_f (he := ?_) | refine WC_skip ?_ | refine WC_ret ?_ | refine WC_exit ?_ | refine WC_region ?_)
    exact ⟨rfl, _, _, Res0 rfl, .refl _, rfl, Lpj, rfl, hMj⟩
set_option maxHeartbeats 4000000 in
theorem plist_entry {bs : List UInt8} {Lp R : List (Nat × Obj)} {i b : Nat} {cs : Array Value} {E : TypeId} {fr : Nat × Nat} {off : Nat} {a : Option Addr} {cap : Nat} {vss : List (List Value)} {most : Int} (hM : PMem pb T0 n0 bs Lp) (hT : ∀ q ∈ T0, q ∈ R) (hn : vss.length ≤ 1000000) (hroom : bs.length + 10 + 100 * vss.length ≤ 1000000000) (hR : R[i]? = some (b, .cells cs E fr)) (hc : cs[off]? = some (.slice a vss.length cap)) (he : Elems R a 10 vss) (ho : ∀ vs ∈ vss, Oks entryF vs) :
    Fn Tryz.prog 104 [putV pb, .pointer (some ⟨b, off, none⟩), .int .i64 most, .func (.func 61) #[] #[]] (Lp ++ R) (fun v L' => v = .tuple #[] ∧ ∃ Lp', L' = Lp' ++ R ∧ PMem pb T0 n0 (bs ++ encl entryF vss) Lp') := by
  have ih := (putM pb T0 n0).ih
  have jn := (putM pb T0 n0).jn
  have im := (putM pb T0 n0).im
  have hX := get_app (A := Lp) hR
  have hw : IntKind.u64.wrap ((vss.length : Nat) : Int) = ((vss.length : Nat) : Int) := wU64 (by omega) (by omega)
  refine Fn_enter Tryz.func104 rfl Tryz.ntmps104 rfl fun g => ?_
  repeat (first | ((first | refine WL_Q ?_ | refine WR_Q rfl ?_ | refine WR_late rfl rfl rfl (OW_Q ?_)); (first | refine QW_a ?_ | refine QW_of (Qt_nilCheck_m rfl) ?_)) | ((first | refine WL_op rfl ?_ | refine WR_late rfl rfl rfl ?_ | refine WR_opG rfl rfl ?_); (first | refine OW_alloc rfl (hk := fun _ => ?_) | refine OW_st1 rfl ?_ | refine OW_build1 rfl (hk := fun _ => ?_)); try refine ⟨(by first | exact fun _ h => h | exact sub_mem (by repeat (first | exact .refl _ | exact List.nil_sublist _ | exact List.sublist_append_right _ _ | apply List.Sublist.cons_cons | apply List.Sublist.cons))), ?_⟩) | refine WL_nil ?_ | refine WR_nil ?_ | refine WC_seq ?_ | refine WC_block ?_ | refine WC_cond_t (ht := ?_) | refine WC_cond_f (he := ?_) | refine WC_skip ?_ | refine WC_ret ?_ | refine WC_exit ?_ | refine WC_draw_all (id := 9) 8 (.calm 0 <| .calm 1 <| .calm 2 <| .calm 3 <| .calm 4 <| .must 5 <| .must 6 <| .calm 7 <| .must 8 <| .done) mixed (by kernel_rfl) ?_ | refine WC_region ?_)
  refine WL_op rfl ?_
  refine OW_invE (putM pb T0 n0).mh rfl (put_here bs Lp R hM) ?_ (fun _ _ h => h.elim)
  rintro _ _ ⟨rfl, Lp1, rfl, hM1⟩
  have hX1 := get_app (A := Lp1) hR
  repeat (first | ((first | refine WL_Q ?_ | refine WR_Q rfl ?_ | refine WR_late rfl rfl rfl (OW_Q ?_)); (first | refine QW_a ?_ | refine QW_of (Qt_nilCheck_m rfl) ?_)) | ((first | refine WL_op rfl ?_ | refine WR_late rfl rfl rfl ?_ | refine WR_opG rfl rfl ?_); (first | refine OW_alloc rfl (hk := fun _ => ?_) | refine OW_st1 rfl ?_ | refine OW_build1 rfl (hk := fun _ => ?_)); try refine ⟨(by first | exact fun _ h => h | exact sub_mem (by repeat (first | exact .refl _ | exact List.nil_sublist _ | exact List.sublist_append_right _ _ | apply List.Sublist.cons_cons | apply List.Sublist.cons))), ?_⟩) | refine WL_nil ?_ | refine WR_nil ?_ | refine WC_seq ?_ | refine WC_block ?_ | refine WC_cond_t (ht := ?_) | refine WC_cond_f (he := ?_) | refine WC_skip ?_ | refine WC_ret ?_ | refine WC_exit ?_ | refine WC_draw_all (id := 9) 8 (.calm 0 <| .calm 1 <| .calm 2 <| .calm 3 <| .calm 4 <| .must 5 <| .must 6 <| .calm 7 <| .must 8 <| .done) mixed (by kernel_rfl) ?_ | refine WC_region (id := 0) ?_ | refine WC_region (id := 1) ?_ | refine WC_region (id := 3) ?_ | refine WC_region (id := 4) ?_ | refine WC_region (id := 5) ?_ | refine WC_region (id := 6) ?_ | refine WC_region (id := 7) ?_ | refine WC_region (id := 8) ?_ | refine WC_region (id := 10) ?_ | refine WC_region (id := 11) ?_)
  rw [hw]
  repeat (first | ((first | refine WL_Q ?_ | refine WR_Q rfl ?_ | refine WR_late rfl rfl rfl (OW_Q ?_)); (first | refine QW_a ?_ | refine QW_of (Qt_nilCheck_m rfl) ?_)) | ((first | refine WL_op rfl ?_ | refine WR_late rfl rfl rfl ?_ | refine WR_opG rfl rfl ?_); (first | refine OW_alloc rfl (hk := fun _ => ?_) | refine OW_st1 rfl ?_ | refine OW_build1 rfl (hk := fun _ => ?_)); try refine ⟨(by first | exact fun _ h => h | exact sub_mem (by repeat (first | exact .refl _ | exact List.nil_sublist _ | exact List.sublist_append_right _ _ | apply List.Sublist.cons_cons | apply List.Sublist.cons))), ?_⟩) | refine WL_nil ?_ | refine WR_nil ?_ | refine WC_seq ?_ | refine WC_block ?_ | refine WC_cond_t (ht := ?_) | refine WC_cond_f (he := ?_) | refine WC_skip ?_ | refine WC_ret ?_ | refine WC_exit ?_ | refine WC_draw_all (id := 9) 8 (.calm 0 <| .calm 1 <| .calm 2 <| .calm 3 <| .calm 4 <| .must 5 <| .must 6 <| .calm 7 <| .must 8 <| .done) mixed (by kernel_rfl) ?_ | refine WC_region ?_)
  rename_i mb
  refine WL_op rfl ?_
  refine OW_locI (c := ⟨Tryz.prog, g, _, _, _⟩) (W := putW pb T0 n0) (k := .nn) (s := bs) (putM pb T0 n0).mn (putM pb T0 n0).cn hM1 hT (show bs.length + 10 * 1 ≤ 1000000000 by omega) ⟨_, rfl, by omega, by omega⟩ rfl ?_ (fun c a p s' Lp' h => by cases h)
  intro s' x' Lp2 hs hM2
  cases hs
  repeat (first | ((first | refine WL_Q ?_ | refine WR_Q rfl ?_ | refine WR_late rfl rfl rfl (OW_Q ?_)); (first | refine QW_a ?_ | refine QW_of (Qt_nilCheck_m rfl) ?_)) | ((first | refine WL_op rfl ?_ | refine WR_late rfl rfl rfl ?_ | refine WR_opG rfl rfl ?_); (first | refine OW_alloc rfl (hk := fun _ => ?_) | refine OW_st1 rfl ?_ | refine OW_build1 rfl (hk := fun _ => ?_)); try refine ⟨(by first | exact fun _ h => h | exact sub_mem (by repeat (first | exact .refl _ | exact List.nil_sublist _ | exact List.sublist_append_right _ _ | apply List.Sublist.cons_cons | apply List.Sublist.cons))), ?_⟩) | refine WL_nil ?_ | refine WR_nil ?_ | refine WC_seq ?_ | refine WC_block ?_ | refine WC_cond_t (ht := ?_) | refine WC_cond_f (he := ?_) | refine WC_skip ?_ | refine WC_ret ?_ | refine WC_exit ?_ | refine WC_draw_all (id := 9) 8 (.calm 0 <| .calm 1 <| .calm 2 <| .calm 3 <| .calm 4 <| .must 5 <| .must 6 <| .calm 7 <| .must 8 <| .done) mixed (by kernel_rfl) ?_ | refine WC_region ?_)
  refine WL_op rfl ?_
  refine OW_invE (putM pb T0 n0).mm rfl (put_must (_ :: Lp2) R _ 4) ?_ (fun _ _ h => h.elim)
  rintro _ _ ⟨rfl, rfl⟩
  rw [List.cons_append]
  repeat (first | ((first | refine WL_Q ?_ | refine WR_Q rfl ?_ | refine WR_late rfl rfl rfl (OW_Q ?_)); (first | refine QW_a ?_ | refine QW_of (Qt_nilCheck_m rfl) ?_)) | ((first | refine WL_op rfl ?_ | refine WR_late rfl rfl rfl ?_ | refine WR_opG rfl rfl ?_); (first | refine OW_alloc rfl (hk := fun _ => ?_) | refine OW_st1 rfl ?_ | refine OW_build1 rfl (hk := fun _ => ?_)); try refine ⟨(by first | exact fun _ h => h | exact sub_mem (by repeat (first | exact .refl _ | exact List.nil_sublist _ | exact List.sublist_append_right _ _ | apply List.Sublist.cons_cons | apply List.Sublist.cons))), ?_⟩) | refine WL_nil ?_ | refine WR_nil ?_ | refine WC_seq ?_ | refine WC_block (id := 1) ?_ | refine WC_cond_t (ht := ?_) | refine WC_cond_f (he := ?_) | refine WC_skip ?_ | refine WC_ret ?_ | refine WC_exit ?_ | refine WC_draw_all (id := 9) 8 (.calm 0 <| .calm 1 <| .calm 2 <| .calm 3 <| .calm 4 <| .must 5 <| .must 6 <| .calm 7 <| .must 8 <| .done) mixed (by kernel_rfl) ?_ | refine WC_region ?_)
  have hM2 : PMem pb T0 n0 (bs ++ enc vss.length) Lp2 := by
    have e : bs ++ Fk.enc .nn (.int .u64 (vss.length : Nat)) = bs ++ enc vss.length := by show bs ++ enc ((vss.length : Nat) : Int).toNat = _; rw [Int.toNat_natCast]
    rw [← e]; exact hM2
  refine WC_block (WC_wk [(27, .int .u64 0), (26, .int .u64 (vss.length : Nat)), (0, putV pb), (1, .pointer (some ⟨b, off, none⟩)), (3, .func (.func 61) #[] #[])] ⟨rfl, rfl, rfl, rfl, rfl, trivial⟩ ?_)
  refine WC_dropL (Lp2 ++ R) (.cons _ (.refl _)) ?_
  have hel := enc_len (n := vss.length) (by omega)
  refine WC_loop (fun m σ => ∃ j Lpj, m = vss.length - j ∧ j ≤ vss.length ∧ PMem pb T0 n0 (bs ++ enc vss.length ++ (vss.take j).flatMap (encs entryF)) Lpj ∧ σ = ⟨[(27, .int .u64 (j : Nat)), (26, .int .u64 (vss.length : Nat)), (0, putV pb), (1, .pointer (some ⟨b, off, none⟩)), (3, .func (.func 61) #[] #[])], [], Lpj ++ R⟩) vss.length ⟨0, Lp2, by omega, by omega, by simpa using hM2, rfl⟩ ?_
  rintro m σ ⟨j, Lpj, rfl, hj, hMj, rfl⟩
  by_cases hlt : j < vss.length
  · have d1 : decide (((j : Nat) : Int) < ((vss.length : Nat) : Int)) = true := decide_eq_true (by omega)
    have d2 : (((j : Nat) : Int) == IntKind.u64.wrap ((vss.length : Nat) : Int)) = false := by rw [hw]; simp; omega
    have hXj := get_app (A := Lpj) hR
    obtain ⟨vs, hvs⟩ : ∃ vs, vss[j]? = some vs := ⟨_, List.getElem?_eq_getElem hlt⟩
    rcases he with he | ⟨be, eo, ie, ec, EE, ef, rfl, hRe, hat⟩
    · rw [he] at hlt; simp at hlt
    obtain ⟨hl, hf⟩ := hat j vs hvs
    have hov := ho vs (List.mem_of_getElem? hvs)
    have i1 : ((j : Nat) : Int) < ((vss.length : Nat) : Int) := by omega
    have hrm : (bs ++ enc vss.length ++ (vss.take j).flatMap (encs entryF)).length + 10 * entryF.length ≤ 1000000000 := by
      have h1 := encn_len (es := entryF) (vss := vss.take j) fun vs hv => ho vs (List.mem_of_mem_take hv)
      have h2 : (vss.take j).length = j := by rw [List.length_take]; omega
      rw [h2, show entryF.length = 10 from rfl] at h1
      rw [List.length_append, List.length_append, show entryF.length = 10 from rfl]
      omega
    have hwj : IntKind.u64.wrap (((j : Nat) : Int) + 1) = ((j + 1 : Nat) : Int) := by rw [wU64 (by omega) (by omega)]; omega
    repeat (first | ((first | refine WL_Q ?_ | refine WR_Q rfl ?_ | refine WR_late rfl rfl rfl (OW_Q ?_)); (first | refine QW_a ?_ | refine QW_of (Qt_nilCheck_m rfl) ?_)) | ((first | refine WL_op rfl ?_ | refine WR_late rfl rfl rfl ?_ | refine WR_opG rfl rfl ?_); (first | refine OW_alloc rfl (hk := fun _ => ?_) | refine OW_st1 rfl ?_ | refine OW_build1 rfl (hk := fun _ => ?_)); try refine ⟨(by first | exact fun _ h => h | exact sub_mem (by repeat (first | exact .refl _ | exact List.nil_sublist _ | exact List.sublist_append_right _ _ | apply List.Sublist.cons_cons | apply List.Sublist.cons))), ?_⟩) | refine WL_nil ?_ | refine WR_nil ?_ | refine WC_seq ?_ | refine WC_block ?_ | refine WC_cond_t (ht := ?_) | refine WC_cond_f (he := ?_) | refine WC_skip ?_ | refine WC_ret ?_ | refine WC_exit ?_ | refine WC_draw_all (id := 9) 8 (.calm 0 <| .calm 1 <| .calm 2 <| .calm 3 <| .calm 4 <| .must 5 <| .must 6 <| .calm 7 <| .must 8 <| .done) mixed (by kernel_rfl) ?_ | refine WC_region ?_)
    refine WL_op rfl ?_
    refine OW_callE rfl (FnE.ofFn (Rp := fun _ _ => False) (putF (entry_flat (putM pb T0 n0)) hMj hT hrm hRe hov hl hf)) ?_ (fun _ _ h => h.elim)
    rintro _ _ ⟨rfl, Lp', rfl, hM'⟩
    repeat (first | ((first | refine WL_Q ?_ | refine WR_Q rfl ?_ | refine WR_late rfl rfl rfl (OW_Q ?_)); (first | refine QW_a ?_ | refine QW_of (Qt_nilCheck_m rfl) ?_)) | ((first | refine WL_op rfl ?_ | refine WR_late rfl rfl rfl ?_ | refine WR_opG rfl rfl ?_); (first | refine OW_alloc rfl (hk := fun _ => ?_) | refine OW_st1 rfl ?_ | refine OW_build1 rfl (hk := fun _ => ?_)); try refine ⟨(by first | exact fun _ h => h | exact sub_mem (by repeat (first | exact .refl _ | exact List.nil_sublist _ | exact List.sublist_append_right _ _ | apply List.Sublist.cons_cons | apply List.Sublist.cons))), ?_⟩) | refine WL_nil ?_ | refine WR_nil ?_ | refine WC_seq ?_ | refine WC_block ?_ | refine WC_cond_t (ht := ?_) | refine WC_cond_f (he := ?_) | refine WC_skip ?_ | refine WC_ret ?_ | refine WC_exit ?_ | refine WC_draw_all (id := 9) 8 (.calm 0 <| .calm 1 <| .calm 2 <| .calm 3 <| .calm 4 <| .must 5 <| .must 6 <| .calm 7 <| .must 8 <| .done) mixed (by kernel_rfl) ?_ | refine WC_region ?_)
    rw [hwj]
    refine ⟨_, _, by omega, ⟨j + 1, Lp', rfl, by omega, ?_, rfl⟩, ⟨rfl, rfl, rfl, rfl, rfl, trivial⟩, rfl, .refl _⟩
    rw [List.take_add_one, hvs, List.flatMap_append, ← List.append_assoc]
    simpa using hM'
  · have d1 : decide (((j : Nat) : Int) < ((vss.length : Nat) : Int)) = false := decide_eq_false (by omega)
    obtain rfl : j = vss.length := by omega
    rw [List.take_length, List.append_assoc] at hMj
    repeat (first | ((first | refine WL_Q ?_ | refine WR_Q rfl ?_ | refine WR_late rfl rfl rfl (OW_Q ?_)); (first | refine QW_a ?_ | refine QW_of (Qt_nilCheck_m rfl) ?_)) | ((first | refine WL_op rfl ?_ | refine WR_late rfl rfl rfl ?_ | refine WR_opG rfl rfl ?_); (first | refine OW_alloc rfl (hk := fun _ => ?_) | refine OW_st1 rfl ?_ | refine OW_build1 rfl (hk := fun _ => ?_)); try refine ⟨(by first | exact fun _ h => h | exact sub_mem (by repeat (first | exact .refl _ | exact List.nil_sublist _ | exact List.sublist_append_right _ _ | apply List.Sublist.cons_cons | apply List.Sublist.cons))), ?_⟩) | refine WL_nil ?_ | refine WR_nil ?_ | refine WC_seq ?_ | refine WC_block ?_ | refine WC_cond_t (ht := ?_) | refine WC_cond_f (he := ?_) | refine WC_skip ?_ | refine WC_ret ?_ | refine WC_exit ?_ | refine WC_draw_all (id := 9) 8 (.calm 0 <| .calm 1 <| .calm 2 <| .calm 3 <| .calm 4 <| .must 5 <| .must 6 <| .calm 7 <| .must 8 <| .done) mixed (by kernel_rfl) ?_ | refine WC_region ?_)
    exact ⟨rfl, _, _, Res0 rfl, .refl _, rfl, Lpj, rfl, hMj⟩
end
end Go.Proofs.YtakedlockchpcaaGreatDoor
namespace Go.Proofs.YtakedlockchpcaaGreatDoor
open Go.RowKit
attribute [local irreducible] Fn WC WL WR OW Qt YieldFn QW FnP FnD FnE
theorem ok1 {k : Fk} {v : Value} (h : k.ok v) : Oks [k] [v] := ⟨h, trivial⟩
section
variable {pb : Nat} {T0 : List (Nat × Obj)} {n0 : Nat}
set_option maxHeartbeats 4000000 in
theorem pcmd {bs : List UInt8} {Lp R : List (Nat × Obj)} {i b : Nat} {cs : Array Value} {E : TypeId} {fr : Nat × Nat} {off : Nat} {a : Option Addr} {cap : Nat} {ch ct : List Value} {bins : List (List Value)} (hM : PMem pb T0 n0 bs Lp) (hT : ∀ q ∈ T0, q ∈ R) (hn : bins.length ≤ 1000000) (hroom : bs.length + 100 + 10 * bins.length ≤ 1000000000) (hR : R[i]? = some (b, .cells cs E fr)) (hch : Oks chF ch) (hct : Oks ctF ct) (hb : ∀ vs ∈ bins, Oks binF vs)
    (hl : Lies cs off (ch ++ (.slice a bins.length cap :: ct))) (he : Elems R a 1 bins) (hfr : Free fr off 10) :
    Fn Tryz.prog 57 [putV pb, .pointer (some ⟨b, off, none⟩)] (Lp ++ R) (fun v L' => v = .tuple #[] ∧ ∃ Lp', L' = Lp' ++ R ∧ PMem pb T0 n0 (bs ++ encCmd ch bins ct) Lp') := by
  obtain ⟨c0, us, rfl, h0, hch'⟩ := hch.split
  obtain ⟨c1, us, rfl, h1, hch''⟩ := hch'.split
  obtain rfl := hch''.nil
  obtain ⟨t0, us, rfl, k0, q⟩ := hct.split
  obtain ⟨t1, us, rfl, k1, q⟩ := q.split
  obtain ⟨t2, us, rfl, k2, q⟩ := q.split
  obtain ⟨t3, us, rfl, k3, q⟩ := q.split
  obtain ⟨t4, us, rfl, k4, q⟩ := q.split
  obtain ⟨t5, us, rfl, k5, q⟩ := q.split
  obtain ⟨t6, us, rfl, k6, q⟩ := q.split
  obtain rfl := q.nil
  have ih := (putM pb T0 n0).ih
  have jn := (putM pb T0 n0).jn
  have im := (putM pb T0 n0).im
  have iw := (putM pb T0 n0).iw
  have it := (putM pb T0 n0).it
  have qw : methX Tryz.prog 175 "anabranch/codec.whole" = some 172 := (putM pb T0 n0).mw
  have qt : methX Tryz.prog 175 "anabranch/codec.truth" = some 171 := (putM pb T0 n0).mt
  have qm : methX Tryz.prog 175 "anabranch/codec.must" = some 168 := (putM pb T0 n0).mm
  have e0 := enc_len_ok h0
  have e1 := enc_len_ok h1
  have e2 := encl_len hb hn
  have e3 := enc_len_ok k0
  have e4 := enc_len_ok k1
  have hop : Oks opF [t2, t3, t4, t5] := ⟨k2, k3, k4, k5, trivial⟩
  have e5 := encs_len hop
  have s1 : ∀ v : Value, encs [.ww] [v] = Fk.enc .ww v := fun v => by simp [encs]
  have e5' : (encs opF [t2, t3, t4, t5]).length ≤ 40 := e5
  have e2' : (encl binF bins).length ≤ 10 + 10 * bins.length := by simpa using e2
  refine Fn_enter Tryz.func57 rfl Tryz.ntmps57 rfl fun g => ?_
  repeat (first | ((first | refine WL_Q ?_); (first | refine QW_a ?_ | refine QW_of (Qt_nilCheck_m rfl) ?_)) | refine WL_nil ?_ | refine WC_seq ?_ | refine WC_block ?_ | refine WC_cond_t (ht := ?_) | refine WC_cond_f (he := ?_) | refine WC_skip ?_ | refine WC_ret ?_ | refine WC_exit ?_ | refine WC_region (id := 0) ?_)
  refine WL_op rfl ?_
  refine OW_callE rfl (FnE.ofFn (Rp := fun _ _ => False) (putF (fs := [.ww]) (small_flat (putM pb T0 n0)) hM hT (show bs.length + 10 * 1 ≤ 1000000000 by omega) hR (ok1 h0) (hl.cut 0 1) (hfr.sub 0 1 (by decide)))) ?_ (fun _ _ h => h.elim)
  rintro _ _ ⟨rfl, Lp0, rfl, hM0⟩
  repeat (first | ((first | refine WL_Q ?_); (first | refine QW_a ?_ | refine QW_of (Qt_nilCheck_m rfl) ?_)) | refine WL_nil ?_ | refine WC_seq ?_ | refine WC_block ?_ | refine WC_cond_t (ht := ?_) | refine WC_cond_f (he := ?_) | refine WC_skip ?_ | refine WC_ret ?_ | refine WC_exit ?_ | refine WC_region (id := 0) ?_)
  repeat (first | ((first | refine WL_Q ?_); (first | refine QW_a ?_ | refine QW_of (Qt_nilCheck_m rfl) ?_)) | refine WL_nil ?_ | refine WC_seq ?_ | refine WC_block ?_ | refine WC_cond_t (ht := ?_) | refine WC_cond_f (he := ?_) | refine WC_skip ?_ | refine WC_ret ?_ | refine WC_exit ?_ | refine WC_region (id := 0) ?_)
  refine WC_draw_sub (id := 1) 8 (.calm 0 <| .calm 1 <| .calm 2 <| .calm 3 <| .calm 4 <| .calm 5 <| .calm 6 <| .must 7 <| .done) mixed (by kernel_rfl) (List.nil_sublist _) ?_
  repeat (first | ((first | refine WL_Q ?_ | refine WR_Q rfl ?_ | refine WR_late rfl rfl rfl (OW_Q ?_)); (first | refine QW_a ?_ | refine QW_of (Qt_nilCheck_m rfl) ?_)) | refine WL_nil ?_ | refine WR_nil ?_ | refine WC_seq ?_ | refine WC_block ?_ | refine WC_cond_t (ht := ?_) | refine WC_cond_f (he := ?_) | refine WC_skip ?_ | refine WC_ret ?_ | refine WC_exit ?_ | refine WC_draw_all (id := 1) 8 (.calm 0 <| .calm 1 <| .calm 2 <| .calm 3 <| .calm 4 <| .calm 5 <| .calm 6 <| .must 7 <| .done) mixed (by kernel_rfl) ?_ | refine WC_region (id := 0) ?_)
  refine WR_op rfl rfl ?_
  refine OW_invE (putM pb T0 n0).mw rfl (FnE.ofFn (Rp := fun _ _ => False) (putF (fs := [.ww]) put_whole hM0 hT (show (bs ++ encs [.ww] [c0]).length + 10 * 1 ≤ 1000000000 by simp only [List.length_append, s1]; omega) hR (ok1 h1) (hl.cut 1 1) (hfr.sub 1 1 (by decide)))) ?_ (fun _ _ h => h.elim)
  rintro _ _ ⟨rfl, Lp1, rfl, hM1⟩
  refine ⟨(fun q hq => (by cases hq)), ?_⟩
  repeat (first | ((first | refine WL_Q ?_ | refine WR_Q rfl ?_ | refine WR_late rfl rfl rfl (OW_Q ?_)); (first | refine QW_a ?_ | refine QW_of (Qt_nilCheck_m rfl) ?_)) | refine WL_nil ?_ | refine WR_nil ?_ | refine WC_seq ?_ | refine WC_block ?_ | refine WC_cond_t (ht := ?_) | refine WC_cond_f (he := ?_) | refine WC_skip ?_ | refine WC_ret ?_ | refine WC_exit ?_ | refine WC_draw_all (id := 1) 8 (.calm 0 <| .calm 1 <| .calm 2 <| .calm 3 <| .calm 4 <| .calm 5 <| .calm 6 <| .must 7 <| .done) mixed (by kernel_rfl) ?_ | refine WC_region (id := 0) ?_ | refine WC_region (id := 2) ?_)
  refine WL_op rfl ?_
  refine OW_callE rfl (FnE.ofFn (Rp := fun _ _ => False) (plist_int (most := 8) hM1 hT hn (show (bs ++ encs [.ww] [c0] ++ encs [.ww] [c1]).length + 10 + 10 * bins.length ≤ 1000000000 by simp only [List.length_append, s1]; omega) hR ((hl.cut 2 1) 0 _ rfl) he hb)) ?_ (fun _ _ h => h.elim)
  rintro _ _ ⟨rfl, Lp2, rfl, hM2⟩
  repeat (first | ((first | refine WL_Q ?_); (first | refine QW_a ?_ | refine QW_of (Qt_nilCheck_m rfl) ?_)) | refine WL_nil ?_ | refine WC_seq ?_ | refine WC_block ?_ | refine WC_cond_t (ht := ?_) | refine WC_cond_f (he := ?_) | refine WC_skip ?_ | refine WC_ret ?_ | refine WC_exit ?_ | refine WC_region (id := 2) ?_ | refine WC_region (id := 3) ?_)
  refine WL_op rfl ?_
  refine OW_callE rfl (FnE.ofFn (Rp := fun _ _ => False) (putF (fs := [.ww]) (small_flat (putM pb T0 n0)) hM2 hT (show (bs ++ encs [.ww] [c0] ++ encs [.ww] [c1] ++ encl binF bins).length + 10 * 1 ≤ 1000000000 by simp only [List.length_append, s1]; omega) hR (ok1 k0) (hl.cut 3 1) (hfr.sub 3 1 (by decide)))) ?_ (fun _ _ h => h.elim)
  rintro _ _ ⟨rfl, Lp3, rfl, hM3⟩
  repeat (first | ((first | refine WL_Q ?_); (first | refine QW_a ?_ | refine QW_of (Qt_nilCheck_m rfl) ?_)) | refine WL_nil ?_ | refine WC_seq ?_ | refine WC_block ?_ | refine WC_cond_t (ht := ?_) | refine WC_cond_f (he := ?_) | refine WC_skip ?_ | refine WC_ret ?_ | refine WC_exit ?_ | refine WC_region (id := 2) ?_ | refine WC_region (id := 3) ?_ | refine WC_region (id := 4) ?_)
  refine WL_op rfl ?_
  refine OW_callE rfl (FnE.ofFn (Rp := fun _ _ => False) (putF (fs := [.ww]) (small_flat (putM pb T0 n0)) hM3 hT (show (bs ++ encs [.ww] [c0] ++ encs [.ww] [c1] ++ encl binF bins ++ encs [.ww] [t0]).length + 10 * 1 ≤ 1000000000 by simp only [List.length_append, s1]; omega) hR (ok1 k1) (hl.cut 4 1) (hfr.sub 4 1 (by decide)))) ?_ (fun _ _ h => h.elim)
  rintro _ _ ⟨rfl, Lp4, rfl, hM4⟩
  repeat (first | ((first | refine WL_Q ?_); (first | refine QW_a ?_ | refine QW_of (Qt_nilCheck_m rfl) ?_)) | refine WL_nil ?_ | refine WC_seq ?_ | refine WC_block ?_ | refine WC_cond_t (ht := ?_) | refine WC_cond_f (he := ?_) | refine WC_skip ?_ | refine WC_ret ?_ | refine WC_exit ?_ | refine WC_region (id := 2) ?_ | refine WC_region (id := 3) ?_ | refine WC_region (id := 4) ?_ | refine WC_region (id := 5) ?_)
  refine WL_op rfl ?_
  refine OW_callE rfl (FnE.ofFn (Rp := fun _ _ => False) (putF (fs := opF) (op_flat (putM pb T0 n0)) hM4 hT (show (bs ++ encs [.ww] [c0] ++ encs [.ww] [c1] ++ encl binF bins ++ encs [.ww] [t0] ++ encs [.ww] [t1]).length + 10 * 4 ≤ 1000000000 by simp only [List.length_append, s1]; omega) hR hop (hl.cut 5 4) (hfr.sub 5 4 (by decide)))) ?_ (fun _ _ h => h.elim)
  rintro _ _ ⟨rfl, Lp5, rfl, hM5⟩
  repeat (first | ((first | refine WL_Q ?_); (first | refine QW_a ?_ | refine QW_of (Qt_nilCheck_m rfl) ?_)) | refine WL_nil ?_ | refine WC_seq ?_ | refine WC_block ?_ | refine WC_cond_t (ht := ?_) | refine WC_cond_f (he := ?_) | refine WC_skip ?_ | refine WC_ret ?_ | refine WC_exit ?_ | refine WC_region (id := 2) ?_ | refine WC_region (id := 3) ?_ | refine WC_region (id := 4) ?_ | refine WC_region (id := 5) ?_ | refine WC_region (id := 6) ?_)
  refine WL_op rfl ?_
  refine OW_callE rfl (FnE.ofFn (Rp := fun _ _ => False) (putF (fs := [.ww]) (small_flat (putM pb T0 n0)) hM5 hT (show (bs ++ encs [.ww] [c0] ++ encs [.ww] [c1] ++ encl binF bins ++ encs [.ww] [t0] ++ encs [.ww] [t1] ++ encs opF [t2, t3, t4, t5]).length + 10 * 1 ≤ 1000000000 by simp only [List.length_append, s1]; omega) hR (ok1 k6) (hl.cut 9 1) (hfr.sub 9 1 (by decide)))) ?_ (fun _ _ h => h.elim)
  rintro _ _ ⟨rfl, Lp6, rfl, hM6⟩
  repeat (first | ((first | refine WL_Q ?_); (first | refine QW_a ?_ | refine QW_of (Qt_nilCheck_m rfl) ?_)) | refine WL_nil ?_ | refine WC_seq ?_ | refine WC_block ?_ | refine WC_cond_t (ht := ?_) | refine WC_cond_f (he := ?_) | refine WC_skip ?_ | refine WC_ret ?_ | refine WC_exit ?_ | refine WC_region (id := 2) ?_ | refine WC_region (id := 3) ?_ | refine WC_region (id := 4) ?_ | refine WC_region (id := 5) ?_ | refine WC_region (id := 6) ?_)
  refine ⟨rfl, _, _, Res0 rfl, .refl _, rfl, Lp6, rfl, ?_⟩
  have e : bs ++ encCmd [c0, c1] bins [t0, t1, t2, t3, t4, t5, t6] = (bs ++ encs [.ww] [c0] ++ encs [.ww] [c1] ++ encl binF bins ++ encs [.ww] [t0] ++ encs [.ww] [t1] ++ encs opF [t2, t3, t4, t5]) ++ encs [.ww] [t6] := by simp [encCmd, encs]
  rw [e]; exact hM6
set_option maxHeartbeats 4000000 in
theorem pchunk {bs : List UInt8} {Lp R : List (Nat × Obj)} {i b : Nat} {cs : Array Value} {E : TypeId} {fr : Nat × Nat} {off : Nat} {a : Option Addr} {cap : Nat} {kh : List Value} {ents : List (List Value)} (hM : PMem pb T0 n0 bs Lp) (hT : ∀ q ∈ T0, q ∈ R) (hn : ents.length ≤ 1000000) (hroom : bs.length + 100 + 100 * ents.length ≤ 1000000000) (hR : R[i]? = some (b, .cells cs E fr)) (hkh : Oks khF kh) (hb : ∀ vs ∈ ents, Oks entryF vs)
    (hl : Lies cs off (kh ++ [.slice a ents.length cap])) (he : Elems R a 10 ents) (hfr : Free fr off 4) :
    Fn Tryz.prog 65 [putV pb, .pointer (some ⟨b, off, none⟩)] (Lp ++ R) (fun v L' => v = .tuple #[] ∧ ∃ Lp', L' = Lp' ++ R ∧ PMem pb T0 n0 (bs ++ encChunk kh ents) Lp') := by
  obtain ⟨c0, us, rfl, h0, q⟩ := hkh.split
  obtain ⟨c1, us, rfl, h1, q⟩ := q.split
  obtain ⟨c2, us, rfl, h2, q⟩ := q.split
  obtain rfl := q.nil
  have ih := (putM pb T0 n0).ih
  have jn := (putM pb T0 n0).jn
  have im := (putM pb T0 n0).im
  have iw := (putM pb T0 n0).iw
  have it := (putM pb T0 n0).it
  have qw : methX Tryz.prog 175 "anabranch/codec.whole" = some 172 := (putM pb T0 n0).mw
  have qt : methX Tryz.prog 175 "anabranch/codec.truth" = some 171 := (putM pb T0 n0).mt
  have qm : methX Tryz.prog 175 "anabranch/codec.must" = some 168 := (putM pb T0 n0).mm
  have e0 := enc_len_ok h0
  have e1 := enc_len_ok h1
  have e2 := enc_len_ok h2
  have s1 : ∀ (k : Fk) (v : Value), encs [k] [v] = k.enc v := fun k v => by simp [encs]
  refine Fn_enter Tryz.func65 rfl Tryz.ntmps65 rfl fun g => ?_
  repeat (first | ((first | refine WL_Q ?_); (first | refine QW_a ?_ | refine QW_of (Qt_nilCheck_m rfl) ?_)) | refine WL_nil ?_ | refine WC_seq ?_ | refine WC_block ?_ | refine WC_cond_t (ht := ?_) | refine WC_cond_f (he := ?_) | refine WC_skip ?_ | refine WC_ret ?_ | refine WC_exit ?_ | refine WC_region (id := 0) ?_)
  refine WL_op rfl ?_
  refine OW_callE rfl (FnE.ofFn (Rp := fun _ _ => False) (putF (fs := [.ww]) (small_flat (putM pb T0 n0)) hM hT (show bs.length + 10 * 1 ≤ 1000000000 by omega) hR (ok1 h0) (hl.cut 0 1) (hfr.sub 0 1 (by decide)))) ?_ (fun _ _ h => h.elim)
  rintro _ _ ⟨rfl, Lp0, rfl, hM0⟩
  repeat (first | ((first | refine WL_Q ?_); (first | refine QW_a ?_ | refine QW_of (Qt_nilCheck_m rfl) ?_)) | refine WL_nil ?_ | refine WC_seq ?_ | refine WC_block ?_ | refine WC_cond_t (ht := ?_) | refine WC_cond_f (he := ?_) | refine WC_skip ?_ | refine WC_ret ?_ | refine WC_exit ?_ | refine WC_region (id := 0) ?_ | refine WC_region (id := 1) ?_)
  refine WL_op rfl ?_
  refine OW_callE rfl (FnE.ofFn (Rp := fun _ _ => False) (putF (fs := [.ww]) (small_flat (putM pb T0 n0)) hM0 hT (show (bs ++ encs [.ww] [c0]).length + 10 * 1 ≤ 1000000000 by simp only [List.length_append, s1]; omega) hR (ok1 h1) (hl.cut 1 1) (hfr.sub 1 1 (by decide)))) ?_ (fun _ _ h => h.elim)
  rintro _ _ ⟨rfl, Lp1, rfl, hM1⟩
  repeat (first | ((first | refine WL_Q ?_); (first | refine QW_a ?_ | refine QW_of (Qt_nilCheck_m rfl) ?_)) | refine WL_nil ?_ | refine WC_seq ?_ | refine WC_block ?_ | refine WC_cond_t (ht := ?_) | refine WC_cond_f (he := ?_) | refine WC_skip ?_ | refine WC_ret ?_ | refine WC_exit ?_ | refine WC_region (id := 0) ?_ | refine WC_region (id := 1) ?_)
  repeat (first | ((first | refine WL_Q ?_); (first | refine QW_a ?_ | refine QW_of (Qt_nilCheck_m rfl) ?_)) | refine WL_nil ?_ | refine WC_seq ?_ | refine WC_block ?_ | refine WC_cond_t (ht := ?_) | refine WC_cond_f (he := ?_) | refine WC_skip ?_ | refine WC_ret ?_ | refine WC_exit ?_ | refine WC_region (id := 0) ?_ | refine WC_region (id := 1) ?_)
  refine WC_draw_sub (id := 2) 8 (.calm 0 <| .calm 1 <| .calm 2 <| .calm 3 <| .calm 4 <| .calm 5 <| .calm 6 <| .must 7 <| .done) mixed (by kernel_rfl) (List.nil_sublist _) ?_
  repeat (first | ((first | refine WL_Q ?_ | refine WR_Q rfl ?_ | refine WR_late rfl rfl rfl (OW_Q ?_)); (first | refine QW_a ?_ | refine QW_of (Qt_nilCheck_m rfl) ?_)) | refine WL_nil ?_ | refine WR_nil ?_ | refine WC_seq ?_ | refine WC_block ?_ | refine WC_cond_t (ht := ?_) | refine WC_cond_f (he := ?_) | refine WC_skip ?_ | refine WC_ret ?_ | refine WC_exit ?_ | refine WC_draw_all (id := 2) 8 (.calm 0 <| .calm 1 <| .calm 2 <| .calm 3 <| .calm 4 <| .calm 5 <| .calm 6 <| .must 7 <| .done) mixed (by kernel_rfl) ?_ | refine WC_region (id := 0) ?_ | refine WC_region (id := 1) ?_)
  refine WR_op rfl rfl ?_
  refine OW_invE (putM pb T0 n0).mt rfl (FnE.ofFn (Rp := fun _ _ => False) (putF (fs := [.tt]) put_truth hM1 hT (show (bs ++ encs [.ww] [c0] ++ encs [.ww] [c1]).length + 10 * 1 ≤ 1000000000 by simp only [List.length_append, s1]; omega) hR (ok1 h2) (hl.cut 2 1) (hfr.sub 2 1 (by decide)))) ?_ (fun _ _ h => h.elim)
  rintro _ _ ⟨rfl, Lp2, rfl, hM2⟩
  refine ⟨(fun q hq => (by cases hq)), ?_⟩
  repeat (first | ((first | refine WL_Q ?_ | refine WR_Q rfl ?_ | refine WR_late rfl rfl rfl (OW_Q ?_)); (first | refine QW_a ?_ | refine QW_of (Qt_nilCheck_m rfl) ?_)) | refine WL_nil ?_ | refine WR_nil ?_ | refine WC_seq ?_ | refine WC_block ?_ | refine WC_cond_t (ht := ?_) | refine WC_cond_f (he := ?_) | refine WC_skip ?_ | refine WC_ret ?_ | refine WC_exit ?_ | refine WC_draw_all (id := 2) 8 (.calm 0 <| .calm 1 <| .calm 2 <| .calm 3 <| .calm 4 <| .calm 5 <| .calm 6 <| .must 7 <| .done) mixed (by kernel_rfl) ?_ | refine WC_region ?_)
  refine WL_op rfl ?_
  refine OW_callE rfl (FnE.ofFn (Rp := fun _ _ => False) (plist_entry (most := 64) hM2 hT hn (show (bs ++ encs [.ww] [c0] ++ encs [.ww] [c1] ++ encs [.tt] [c2]).length + 10 + 100 * ents.length ≤ 1000000000 by simp only [List.length_append, s1]; omega) hR ((hl.cut 3 1) 0 _ rfl) he hb)) ?_ (fun _ _ h => h.elim)
  rintro _ _ ⟨rfl, Lp3, rfl, hM3⟩
  repeat (first | ((first | refine WL_Q ?_); (first | refine QW_a ?_ | refine QW_of (Qt_nilCheck_m rfl) ?_)) | refine WL_nil ?_ | refine WC_seq ?_ | refine WC_block ?_ | refine WC_cond_t (ht := ?_) | refine WC_cond_f (he := ?_) | refine WC_skip ?_ | refine WC_ret ?_ | refine WC_exit ?_ | refine WC_region (id := 0) ?_ | refine WC_region (id := 1) ?_ | refine WC_region (id := 3) ?_)
  refine ⟨rfl, _, _, Res0 rfl, .refl _, rfl, Lp3, rfl, ?_⟩
  have e : bs ++ encChunk [c0, c1, c2] ents = (bs ++ encs [.ww] [c0] ++ encs [.ww] [c1] ++ encs [.tt] [c2]) ++ encl entryF ents := by simp [encChunk, encs]
  rw [e]; exact hM3
def MV.cells (m : MV) (a : Option Addr) (cap : Nat) (a' : Option Addr) (cap' : Nat) : List Value :=
  [.int .i64 m.kind, .int .i64 m.ver] ++ (m.rc ++ ([.int .i64 m.time, .int .i64 m.num] ++ ((m.ch ++ (.slice a m.bins.length cap :: m.ct)) ++ (m.kh ++ [.slice a' m.ents.length cap']))))
theorem MV.cells_at {m : MV} (h : m.Ok) {cs : Array Value} {off : Nat} {a : Option Addr} {cap : Nat} {a' : Option Addr} {cap' : Nat} (hl : Lies cs off (m.cells a cap a' cap')) :
    cs[off + 0]? = some (.int .i64 m.kind) ∧ cs[off + 1]? = some (.int .i64 m.ver) ∧ Lies cs (off + 2) m.rc ∧ cs[off + 8]? = some (.int .i64 m.time) ∧ cs[off + 9]? = some (.int .i64 m.num) ∧ Lies cs (off + 10) (m.ch ++ (.slice a m.bins.length cap :: m.ct)) ∧ Lies cs (off + 20) (m.kh ++ [.slice a' m.ents.length cap']) := by
  have l1 := h.rc.len
  have l2 := h.ch.len
  have l3 := h.ct.len
  simp only [List.length_cons, List.length_nil] at l1 l2 l3
  obtain ⟨h1, q⟩ := Lies.app hl
  obtain ⟨h2, q⟩ := Lies.app q
  obtain ⟨h3, q⟩ := Lies.app q
  obtain ⟨h4, h5⟩ := Lies.app q
  simp only [List.length_append, List.length_cons, List.length_nil, l1, l2, l3, Nat.add_assoc] at h2 h3 h4 h5
  exact ⟨h1 0 _ rfl, h1 1 _ rfl, h2, h3 0 _ rfl, h3 1 _ rfl, h4, h5⟩
theorem one_lies {cs : Array Value} {off : Nat} {v : Value} (h : cs[off]? = some v) : Lies cs off [v] := fun j u hj => by
  cases j with
  | zero => simp at hj; subst hj; exact h
  | succ j => simp at hj
set_option maxHeartbeats 8000000 in
theorem pmsg {bs : List UInt8} {Lp R : List (Nat × Obj)} {i b : Nat} {cs : Array Value} {E : TypeId} {fr : Nat × Nat} {off : Nat} {a : Option Addr} {cap : Nat} {a' : Option Addr} {cap' : Nat} {m : MV} (hM : PMem pb T0 n0 bs Lp) (hT : ∀ q ∈ T0, q ∈ R) (hm : m.Ok) (hn : m.bins.length ≤ 1000000) (hn' : m.ents.length ≤ 1000000) (hroom : bs.length + 1000 + 10 * m.bins.length + 100 * m.ents.length ≤ 1000000000) (hR : R[i]? = some (b, .cells cs E fr))
    (hl : Lies cs off (m.cells a cap a' cap')) (he : Elems R a 1 m.bins) (he' : Elems R a' 10 m.ents) (hfr : Free fr off 24) :
    Fn Tryz.prog 47 [putV pb, .pointer (some ⟨b, off, none⟩)] (Lp ++ R) (fun v L' => v = .tuple #[] ∧ ∃ Lp', L' = Lp' ++ R ∧ PMem pb T0 n0 (bs ++ m.enc) Lp') := by
  obtain ⟨g0, g1, g2, g3, g4, g5, g6⟩ := MV.cells_at hm hl
  have ih := (putM pb T0 n0).ih
  have jn := (putM pb T0 n0).jn
  have im := (putM pb T0 n0).im
  have iw := (putM pb T0 n0).iw
  have it := (putM pb T0 n0).it
  have qw : methX Tryz.prog 175 "anabranch/codec.whole" = some 172 := (putM pb T0 n0).mw
  have qt : methX Tryz.prog 175 "anabranch/codec.truth" = some 171 := (putM pb T0 n0).mt
  have qm : methX Tryz.prog 175 "anabranch/codec.must" = some 168 := (putM pb T0 n0).mm
  have e0 := enc_len (zz_lt hm.kind.1 hm.kind.2)
  have e1 := enc_len (zz_lt hm.ver.1 hm.ver.2)
  have o0 : Fk.ok .ww (.int .i64 m.kind) := ⟨_, rfl, hm.kind.1, hm.kind.2⟩
  have o1 : Fk.ok .ww (.int .i64 m.ver) := ⟨_, rfl, hm.ver.1, hm.ver.2⟩
  have o2 : Fk.ok .ww (.int .i64 m.time) := ⟨_, rfl, hm.time.1, hm.time.2⟩
  have o3 : Fk.ok .ww (.int .i64 m.num) := ⟨_, rfl, hm.num.1, hm.num.2⟩
  have s1 : ∀ x : Int, encs [.ww] [.int .i64 x] = enc (zz x) := fun x => by simp [encs, Fk.enc]
  have e2 := encs_len hm.rc
  refine Fn_enter Tryz.func47 rfl Tryz.ntmps47 rfl fun g => ?_
  repeat (first | ((first | refine WL_Q ?_ | refine WL_Y ?_); (first | refine QW_a ?_ | refine QW_of (Qt_nilCheck_m rfl) ?_)) | refine WL_nil ?_ | refine WL_un (h := ?_) | refine WL_N ?_ | refine WL_M ?_ | refine WC_seq ?_ | refine WC_block ?_ | refine WC_cond_t (ht := ?_) | refine WC_cond_f (he := ?_) | refine WC_skip ?_ | refine WC_ret ?_ | refine WC_exit ?_ | refine WC_region (id := 0) ?_)
  refine WL_op rfl ?_
  refine OW_invE (putM pb T0 n0).mh rfl (put_here bs Lp R hM) ?_ (fun _ _ h => h.elim)
  rintro _ _ ⟨rfl, Lp0, rfl, hM0⟩
  repeat (first | ((first | refine WL_Q ?_ | refine WL_Y ?_); (first | refine QW_a ?_ | refine QW_of (Qt_nilCheck_m rfl) ?_)) | refine WL_nil ?_ | refine WL_un (h := ?_) | refine WL_N ?_ | refine WL_M ?_ | refine WC_seq ?_ | refine WC_block ?_ | refine WC_cond_t (ht := ?_) | refine WC_cond_f (he := ?_) | refine WC_skip ?_ | refine WC_ret ?_ | refine WC_exit ?_ | refine WC_region (id := 0) ?_ | refine WC_region (id := 1) ?_)
  refine WL_op rfl ?_
  refine OW_callE rfl (FnE.ofFn (Rp := fun _ _ => False) (putF (fs := [.ww]) (small_flat (putM pb T0 n0)) hM0 hT (show bs.length + 10 * 1 ≤ 1000000000 by omega) hR (ok1 o0) (one_lies g0) (hfr.sub 0 1 (by decide)))) ?_ (fun _ _ h => h.elim)
  rintro _ _ ⟨rfl, Lp1, rfl, hM1⟩
  rw [s1] at hM1
  have hX := get_app (A := Lp1) hR
  repeat (first | ((first | refine WL_Q ?_ | refine WL_Y ?_); (first | refine QW_a ?_ | refine QW_of (Qt_nilCheck_m rfl) ?_)) | refine WL_nil ?_ | refine WL_un (h := ?_) | refine WL_N ?_ | refine WL_M ?_ | refine WC_seq ?_ | refine WC_block ?_ | refine WC_cond_t (ht := ?_) | refine WC_cond_f (he := ?_) | refine WC_skip ?_ | refine WC_ret ?_ | refine WC_exit ?_ | refine WC_region (id := 1) ?_)
  refine WC_meet (fun σ => σ = ⟨[(0, putV pb), (1, .pointer (some ⟨b, off, none⟩))], [], Lp1 ++ R⟩) ?_ ?_
  · by_cases hk : 0 ≤ m.kind
    · have d1 : decide (m.kind ≥ 0) = true := decide_eq_true hk
      repeat (first | ((first | refine WL_Q ?_ | refine WL_Y ?_ | refine WR_Q rfl ?_ | refine WR_late rfl rfl rfl (OW_Q ?_) | refine WR_Y rfl ?_); (first | refine QW_a ?_ | refine QW_of (Qt_nilCheck_m rfl) ?_)) | refine WL_nil ?_ | refine WL_un (h := ?_) | refine WL_N ?_ | refine WL_M ?_ | refine WR_nil ?_ | refine WR_un rfl (hk := ?_) | refine WR_N rfl ?_ | refine WR_M rfl ?_ | refine WC_seq ?_ | refine WC_block ?_ | refine WC_cond_t (ht := ?_) | refine WC_cond_f (he := ?_) | refine WC_skip ?_ | refine WC_ret ?_ | refine WC_exit ?_ | refine WC_draw_all (id := 2) 17 (.calm 0 <| .calm 1 <| .calm 2 <| .calm 3 <| .calm 4 <| .calm 5 <| .calm 6 <| .calm 7 <| .calm 8 <| .calm 9 <| .calm 10 <| .calm 11 <| .calm 12 <| .calm 13 <| .calm 14 <| .calm 15 <| .must 16 <| .done) mixed (by kernel_rfl) ?_ | (refine WR_skN rfl (h := ?_)) | (refine WR_skM rfl (h := ?_)) | (refine WR_skU rfl (h := ?_)))
      refine WR_op rfl rfl ?_
      refine OW_invE (putM pb T0 n0).mm rfl (put_must Lp1 R _ 6) ?_ (fun _ _ h => h.elim)
      rintro _ _ ⟨rfl, rfl⟩
      refine ⟨fun _ h => h, ?_⟩
      repeat (first | ((first | refine WL_Q ?_ | refine WL_Y ?_ | refine WR_Q rfl ?_ | refine WR_late rfl rfl rfl (OW_Q ?_) | refine WR_Y rfl ?_); (first | refine QW_a ?_ | refine QW_of (Qt_nilCheck_m rfl) ?_)) | refine WL_nil ?_ | refine WL_un (h := ?_) | refine WL_N ?_ | refine WL_M ?_ | refine WR_nil ?_ | refine WR_un rfl (hk := ?_) | refine WR_N rfl ?_ | refine WR_M rfl ?_ | refine WC_seq ?_ | refine WC_block ?_ | refine WC_cond_t (ht := ?_) | refine WC_cond_f (he := ?_) | refine WC_skip ?_ | refine WC_ret ?_ | refine WC_exit ?_ | refine WC_draw_all (id := 2) 17 (.calm 0 <| .calm 1 <| .calm 2 <| .calm 3 <| .calm 4 <| .calm 5 <| .calm 6 <| .calm 7 <| .calm 8 <| .calm 9 <| .calm 10 <| .calm 11 <| .calm 12 <| .calm 13 <| .calm 14 <| .calm 15 <| .must 16 <| .done) mixed (by kernel_rfl) ?_ | (refine WR_skN rfl (h := ?_)) | (refine WR_skM rfl (h := ?_)) | (refine WR_skU rfl (h := ?_)))
      exact ⟨_, rfl, ⟨rfl, rfl, trivial⟩, rfl, .refl _⟩
    · have d1 : decide (m.kind ≥ 0) = false := decide_eq_false hk
      repeat (first | ((first | refine WL_Q ?_ | refine WL_Y ?_ | refine WR_Q rfl ?_ | refine WR_late rfl rfl rfl (OW_Q ?_) | refine WR_Y rfl ?_); (first | refine QW_a ?_ | refine QW_of (Qt_nilCheck_m rfl) ?_)) | refine WL_nil ?_ | refine WL_un (h := ?_) | refine WL_N ?_ | refine WL_M ?_ | refine WR_nil ?_ | refine WR_un rfl (hk := ?_) | refine WR_N rfl ?_ | refine WR_M rfl ?_ | refine WC_seq ?_ | refine WC_block ?_ | refine WC_cond_t (ht := ?_) | refine WC_cond_f (he := ?_) | refine WC_skip ?_ | refine WC_ret ?_ | refine WC_exit ?_ | refine WC_draw_all (id := 2) 17 (.calm 0 <| .calm 1 <| .calm 2 <| .calm 3 <| .calm 4 <| .calm 5 <| .calm 6 <| .calm 7 <| .calm 8 <| .calm 9 <| .calm 10 <| .calm 11 <| .calm 12 <| .calm 13 <| .calm 14 <| .calm 15 <| .must 16 <| .done) mixed (by kernel_rfl) ?_ | (refine WR_skN rfl (h := ?_)) | (refine WR_skM rfl (h := ?_)) | (refine WR_skU rfl (h := ?_)))
      refine WR_op rfl rfl ?_
      refine OW_invE (putM pb T0 n0).mm rfl (put_must Lp1 R _ 6) ?_ (fun _ _ h => h.elim)
      rintro _ _ ⟨rfl, rfl⟩
      refine ⟨fun _ h => h, ?_⟩
      repeat (first | ((first | refine WL_Q ?_ | refine WL_Y ?_ | refine WR_Q rfl ?_ | refine WR_late rfl rfl rfl (OW_Q ?_) | refine WR_Y rfl ?_); (first | refine QW_a ?_ | refine QW_of (Qt_nilCheck_m rfl) ?_)) | refine WL_nil ?_ | refine WL_un (h := ?_) | refine WL_N ?_ | refine WL_M ?_ | refine WR_nil ?_ | refine WR_un rfl (hk := ?_) | refine WR_N rfl ?_ | refine WR_M rfl ?_ | refine WC_seq ?_ | refine WC_block ?_ | refine WC_cond_t (ht := ?_) | refine WC_cond_f (he := ?_) | refine WC_skip ?_ | refine WC_ret ?_ | refine WC_exit ?_ | refine WC_draw_all (id := 2) 17 (.calm 0 <| .calm 1 <| .calm 2 <| .calm 3 <| .calm 4 <| .calm 5 <| .calm 6 <| .calm 7 <| .calm 8 <| .calm 9 <| .calm 10 <| .calm 11 <| .calm 12 <| .calm 13 <| .calm 14 <| .calm 15 <| .must 16 <| .done) mixed (by kernel_rfl) ?_ | (refine WR_skN rfl (h := ?_)) | (refine WR_skM rfl (h := ?_)) | (refine WR_skU rfl (h := ?_)))
      exact ⟨_, rfl, ⟨rfl, rfl, trivial⟩, rfl, .refl _⟩
  rintro _ rfl
  repeat (first | ((first | refine WL_Q ?_ | refine WL_Y ?_); (first | refine QW_a ?_ | refine QW_of (Qt_nilCheck_m rfl) ?_)) | refine WL_nil ?_ | refine WL_un (h := ?_) | refine WL_N ?_ | refine WL_M ?_ | refine WC_seq ?_ | refine WC_block ?_ | refine WC_cond_t (ht := ?_) | refine WC_cond_f (he := ?_) | refine WC_skip ?_ | refine WC_ret ?_ | refine WC_exit ?_ | refine WC_region (id := 3) ?_)
  refine WL_op rfl ?_
  refine OW_callE rfl (FnE.ofFn (Rp := fun _ _ => False) (putF (fs := [.ww]) (small_flat (putM pb T0 n0)) hM1 hT (show (bs ++ enc (zz m.kind)).length + 10 * 1 ≤ 1000000000 by rw [List.length_append]; omega) hR (ok1 o1) (one_lies g1) (hfr.sub 1 1 (by decide)))) ?_ (fun _ _ h => h.elim)
  rintro _ _ ⟨rfl, Lp2, rfl, hM2⟩
  rw [s1] at hM2
  have hl2 : (bs ++ enc (zz m.kind) ++ enc (zz m.ver)).length ≤ bs.length + 20 := by rw [List.length_append, List.length_append]; omega
  have fin : ∀ {x : List UInt8} {Lp' : List (Nat × Obj)}, m.body = x → PMem pb T0 n0 (bs ++ enc (zz m.kind) ++ enc (zz m.ver) ++ x) Lp' → PMem pb T0 n0 (bs ++ m.enc) Lp' := fun {x Lp'} h1 h2 => by
    have e : bs ++ m.enc = bs ++ enc (zz m.kind) ++ enc (zz m.ver) ++ x := by rw [← h1]; unfold MV.enc; simp
    rw [e]; exact h2
  have hX2 := get_app (A := Lp2) hR
  by_cases hk : m.kind = 0
  · have hk0 := hk
    have d0 : (m.kind == 0) = true := by simpa using hk
    repeat (first | ((first | refine WL_Q ?_ | refine WL_Y ?_ | refine WR_Q rfl ?_ | refine WR_late rfl rfl rfl (OW_Q ?_) | refine WR_Y rfl ?_); (first | refine QW_a ?_ | refine QW_of (Qt_nilCheck_m rfl) ?_)) | refine WL_nil ?_ | refine WL_un (h := ?_) | refine WL_N ?_ | refine WL_M ?_ | refine WR_nil ?_ | refine WR_un rfl (hk := ?_) | refine WR_N rfl ?_ | refine WR_M rfl ?_ | refine WC_seq ?_ | refine WC_block ?_ | refine WC_cond_t (ht := ?_) | refine WC_cond_f (he := ?_) | refine WC_skip ?_ | refine WC_ret ?_ | refine WC_exit ?_ | refine WC_draw_all (id := 8) 8 (.calm 0 <| .calm 1 <| .calm 2 <| .calm 3 <| .calm 4 <| .calm 5 <| .calm 6 <| .must 7 <| .done) mixed (by kernel_rfl) ?_ | refine WC_region (id := 4) ?_ | refine WC_region (id := 5) ?_ | refine WC_region (id := 6) ?_ | refine WC_region (id := 7) ?_ | refine WC_region (id := 9) ?_ | refine WC_region (id := 10) ?_ | refine WC_region (id := 11) ?_ | refine WC_region (id := 12) ?_ | refine WC_region (id := 13) ?_ | refine WC_region (id := 14) ?_ | (refine WR_skN rfl (h := ?_)) | (refine WR_skM rfl (h := ?_)) | (refine WR_skU rfl (h := ?_)))
    refine WL_op rfl ?_
    refine OW_callE rfl (FnE.ofFn (Rp := fun _ _ => False) (putF (fs := recF) (rec_flat (putM pb T0 n0)) hM2 hT (show (bs ++ enc (zz m.kind) ++ enc (zz m.ver)).length + 10 * 6 ≤ 1000000000 by omega) hR (hm.rc) g2 (hfr.sub 2 6 (by decide)))) ?_ (fun _ _ h => h.elim)
    rintro _ _ ⟨rfl, Lp3, rfl, hM3⟩
    repeat (first | ((first | refine WL_Q ?_ | refine WL_Y ?_ | refine WR_Q rfl ?_ | refine WR_late rfl rfl rfl (OW_Q ?_) | refine WR_Y rfl ?_); (first | refine QW_a ?_ | refine QW_of (Qt_nilCheck_m rfl) ?_)) | refine WL_nil ?_ | refine WL_un (h := ?_) | refine WL_N ?_ | refine WL_M ?_ | refine WR_nil ?_ | refine WR_un rfl (hk := ?_) | refine WR_N rfl ?_ | refine WR_M rfl ?_ | refine WC_seq ?_ | refine WC_block ?_ | refine WC_cond_t (ht := ?_) | refine WC_cond_f (he := ?_) | refine WC_skip ?_ | refine WC_ret ?_ | refine WC_exit ?_ | refine WC_draw_all (id := 8) 8 (.calm 0 <| .calm 1 <| .calm 2 <| .calm 3 <| .calm 4 <| .calm 5 <| .calm 6 <| .must 7 <| .done) mixed (by kernel_rfl) ?_ | refine WC_region (id := 0) ?_ | refine WC_region (id := 5) ?_ | refine WC_region (id := 6) ?_ | refine WC_region (id := 7) ?_ | refine WC_region (id := 9) ?_ | refine WC_region (id := 10) ?_ | refine WC_region (id := 11) ?_ | refine WC_region (id := 12) ?_ | refine WC_region (id := 13) ?_ | refine WC_region (id := 14) ?_ | (refine WR_skN rfl (h := ?_)) | (refine WR_skM rfl (h := ?_)) | (refine WR_skU rfl (h := ?_)))
    exact ⟨rfl, _, _, Res0 rfl, .refl _, rfl, Lp3, rfl, fin (by unfold MV.body; rw [if_pos hk]) hM3⟩
  by_cases hk : m.kind = 1
  · have hk1 := hk
    have d0 : (m.kind == 0) = false := by simpa using (show ¬ m.kind = 0 by omega)
    have d1 : (m.kind == 1) = true := by simpa using hk
    repeat (first | ((first | refine WL_Q ?_ | refine WL_Y ?_); (first | refine QW_a ?_ | refine QW_of (Qt_nilCheck_m rfl) ?_)) | refine WL_nil ?_ | refine WL_un (h := ?_) | refine WL_N ?_ | refine WL_M ?_ | refine WC_seq ?_ | refine WC_block ?_ | refine WC_cond_t (ht := ?_) | refine WC_cond_f (he := ?_) | refine WC_skip ?_ | refine WC_ret ?_ | refine WC_exit ?_ | refine WC_region (id := 4) ?_ | refine WC_region (id := 5) ?_ | refine WC_region (id := 6) ?_ | refine WC_region (id := 7) ?_ | refine WC_region (id := 9) ?_ | refine WC_region (id := 10) ?_ | refine WC_region (id := 11) ?_ | refine WC_region (id := 12) ?_ | refine WC_region (id := 13) ?_ | refine WC_region (id := 14) ?_)
    refine WC_draw_sub (id := 8) 8 (.calm 0 <| .calm 1 <| .calm 2 <| .calm 3 <| .calm 4 <| .calm 5 <| .calm 6 <| .must 7 <| .done) mixed (by kernel_rfl) (List.nil_sublist _) ?_
    repeat (first | ((first | refine WL_Q ?_ | refine WL_Y ?_ | refine WR_Q rfl ?_ | refine WR_late rfl rfl rfl (OW_Q ?_) | refine WR_Y rfl ?_); (first | refine QW_a ?_ | refine QW_of (Qt_nilCheck_m rfl) ?_)) | refine WL_nil ?_ | refine WL_un (h := ?_) | refine WL_N ?_ | refine WL_M ?_ | refine WR_nil ?_ | refine WR_un rfl (hk := ?_) | refine WR_N rfl ?_ | refine WR_M rfl ?_ | refine WC_seq ?_ | refine WC_block ?_ | refine WC_cond_t (ht := ?_) | refine WC_cond_f (he := ?_) | refine WC_skip ?_ | refine WC_ret ?_ | refine WC_exit ?_ | refine WC_draw_all (id := 8) 8 (.calm 0 <| .calm 1 <| .calm 2 <| .calm 3 <| .calm 4 <| .calm 5 <| .calm 6 <| .must 7 <| .done) mixed (by kernel_rfl) ?_ | refine WC_region (id := 4) ?_ | refine WC_region (id := 5) ?_ | refine WC_region (id := 6) ?_ | refine WC_region (id := 7) ?_ | refine WC_region (id := 9) ?_ | refine WC_region (id := 10) ?_ | refine WC_region (id := 11) ?_ | refine WC_region (id := 12) ?_ | refine WC_region (id := 13) ?_ | refine WC_region (id := 14) ?_ | (refine WR_skN rfl (h := ?_)) | (refine WR_skM rfl (h := ?_)) | (refine WR_skU rfl (h := ?_)))
    refine WR_op rfl rfl ?_
    refine OW_invE (putM pb T0 n0).mw rfl (FnE.ofFn (Rp := fun _ _ => False) (putF (fs := [.ww]) put_whole hM2 hT (show (bs ++ enc (zz m.kind) ++ enc (zz m.ver)).length + 10 * 1 ≤ 1000000000 by omega) hR (ok1 o2) (one_lies g3) (hfr.sub 8 1 (by decide)))) ?_ (fun _ _ h => h.elim)
    rintro _ _ ⟨rfl, Lp3, rfl, hM3⟩
    refine ⟨(fun q hq => (by cases hq)), ?_⟩
    repeat (first | ((first | refine WL_Q ?_ | refine WL_Y ?_ | refine WR_Q rfl ?_ | refine WR_late rfl rfl rfl (OW_Q ?_) | refine WR_Y rfl ?_); (first | refine QW_a ?_ | refine QW_of (Qt_nilCheck_m rfl) ?_)) | refine WL_nil ?_ | refine WL_un (h := ?_) | refine WL_N ?_ | refine WL_M ?_ | refine WR_nil ?_ | refine WR_un rfl (hk := ?_) | refine WR_N rfl ?_ | refine WR_M rfl ?_ | refine WC_seq ?_ | refine WC_block ?_ | refine WC_cond_t (ht := ?_) | refine WC_cond_f (he := ?_) | refine WC_skip ?_ | refine WC_ret ?_ | refine WC_exit ?_ | refine WC_draw_all (id := 8) 8 (.calm 0 <| .calm 1 <| .calm 2 <| .calm 3 <| .calm 4 <| .calm 5 <| .calm 6 <| .must 7 <| .done) mixed (by kernel_rfl) ?_ | refine WC_region (id := 0) ?_ | refine WC_region (id := 5) ?_ | refine WC_region (id := 6) ?_ | refine WC_region (id := 7) ?_ | refine WC_region (id := 9) ?_ | refine WC_region (id := 10) ?_ | refine WC_region (id := 11) ?_ | refine WC_region (id := 12) ?_ | refine WC_region (id := 13) ?_ | refine WC_region (id := 14) ?_ | (refine WR_skN rfl (h := ?_)) | (refine WR_skM rfl (h := ?_)) | (refine WR_skU rfl (h := ?_)))
    exact ⟨rfl, _, _, Res0 rfl, .refl _, rfl, Lp3, rfl, fin (by unfold MV.body; rw [if_neg (by omega), if_pos hk]; exact (s1 _).symm) hM3⟩
  by_cases hk : m.kind = 2
  · have hk2 := hk
    have d0 : (m.kind == 0) = false := by simpa using (show ¬ m.kind = 0 by omega)
    have d1 : (m.kind == 1) = false := by simpa using (show ¬ m.kind = 1 by omega)
    have d2 : (m.kind == 2) = true := by simpa using hk
    repeat (first | ((first | refine WL_Q ?_ | refine WL_Y ?_ | refine WR_Q rfl ?_ | refine WR_late rfl rfl rfl (OW_Q ?_) | refine WR_Y rfl ?_); (first | refine QW_a ?_ | refine QW_of (Qt_nilCheck_m rfl) ?_)) | refine WL_nil ?_ | refine WL_un (h := ?_) | refine WL_N ?_ | refine WL_M ?_ | refine WR_nil ?_ | refine WR_un rfl (hk := ?_) | refine WR_N rfl ?_ | refine WR_M rfl ?_ | refine WC_seq ?_ | refine WC_block ?_ | refine WC_cond_t (ht := ?_) | refine WC_cond_f (he := ?_) | refine WC_skip ?_ | refine WC_ret ?_ | refine WC_exit ?_ | refine WC_draw_all (id := 8) 8 (.calm 0 <| .calm 1 <| .calm 2 <| .calm 3 <| .calm 4 <| .calm 5 <| .calm 6 <| .must 7 <| .done) mixed (by kernel_rfl) ?_ | refine WC_region (id := 4) ?_ | refine WC_region (id := 5) ?_ | refine WC_region (id := 6) ?_ | refine WC_region (id := 7) ?_ | refine WC_region (id := 9) ?_ | refine WC_region (id := 10) ?_ | refine WC_region (id := 11) ?_ | refine WC_region (id := 12) ?_ | refine WC_region (id := 13) ?_ | refine WC_region (id := 14) ?_ | (refine WR_skN rfl (h := ?_)) | (refine WR_skM rfl (h := ?_)) | (refine WR_skU rfl (h := ?_)))
    refine WL_op rfl ?_
    refine OW_callE rfl (FnE.ofFn (Rp := fun _ _ => False) (putF (fs := [.ww]) (small_flat (putM pb T0 n0)) hM2 hT (show (bs ++ enc (zz m.kind) ++ enc (zz m.ver)).length + 10 * 1 ≤ 1000000000 by omega) hR ((ok1 o3)) (one_lies g4) (hfr.sub 9 1 (by decide)))) ?_ (fun _ _ h => h.elim)
    rintro _ _ ⟨rfl, Lp3, rfl, hM3⟩
    repeat (first | ((first | refine WL_Q ?_ | refine WL_Y ?_ | refine WR_Q rfl ?_ | refine WR_late rfl rfl rfl (OW_Q ?_) | refine WR_Y rfl ?_); (first | refine QW_a ?_ | refine QW_of (Qt_nilCheck_m rfl) ?_)) | refine WL_nil ?_ | refine WL_un (h := ?_) | refine WL_N ?_ | refine WL_M ?_ | refine WR_nil ?_ | refine WR_un rfl (hk := ?_) | refine WR_N rfl ?_ | refine WR_M rfl ?_ | refine WC_seq ?_ | refine WC_block ?_ | refine WC_cond_t (ht := ?_) | refine WC_cond_f (he := ?_) | refine WC_skip ?_ | refine WC_ret ?_ | refine WC_exit ?_ | refine WC_draw_all (id := 8) 8 (.calm 0 <| .calm 1 <| .calm 2 <| .calm 3 <| .calm 4 <| .calm 5 <| .calm 6 <| .must 7 <| .done) mixed (by kernel_rfl) ?_ | refine WC_region (id := 0) ?_ | refine WC_region (id := 5) ?_ | refine WC_region (id := 6) ?_ | refine WC_region (id := 7) ?_ | refine WC_region (id := 9) ?_ | refine WC_region (id := 10) ?_ | refine WC_region (id := 11) ?_ | refine WC_region (id := 12) ?_ | refine WC_region (id := 13) ?_ | refine WC_region (id := 14) ?_ | (refine WR_skN rfl (h := ?_)) | (refine WR_skM rfl (h := ?_)) | (refine WR_skU rfl (h := ?_)))
    exact ⟨rfl, _, _, Res0 rfl, .refl _, rfl, Lp3, rfl, fin (by unfold MV.body; rw [if_neg (by omega), if_neg (by omega), if_pos hk]; exact (s1 _).symm) hM3⟩
  by_cases hk : m.kind = 3
  · have hk3 := hk
    have d0 : (m.kind == 0) = false := by simpa using (show ¬ m.kind = 0 by omega)
    have d1 : (m.kind == 1) = false := by simpa using (show ¬ m.kind = 1 by omega)
    have d2 : (m.kind == 2) = false := by simpa using (show ¬ m.kind = 2 by omega)
    have d3 : (m.kind == 3) = true := by simpa using hk
    repeat (first | ((first | refine WL_Q ?_ | refine WL_Y ?_ | refine WR_Q rfl ?_ | refine WR_late rfl rfl rfl (OW_Q ?_) | refine WR_Y rfl ?_); (first | refine QW_a ?_ | refine QW_of (Qt_nilCheck_m rfl) ?_)) | refine WL_nil ?_ | refine WL_un (h := ?_) | refine WL_N ?_ | refine WL_M ?_ | refine WR_nil ?_ | refine WR_un rfl (hk := ?_) | refine WR_N rfl ?_ | refine WR_M rfl ?_ | refine WC_seq ?_ | refine WC_block ?_ | refine WC_cond_t (ht := ?_) | refine WC_cond_f (he := ?_) | refine WC_skip ?_ | refine WC_ret ?_ | refine WC_exit ?_ | refine WC_draw_all (id := 8) 8 (.calm 0 <| .calm 1 <| .calm 2 <| .calm 3 <| .calm 4 <| .calm 5 <| .calm 6 <| .must 7 <| .done) mixed (by kernel_rfl) ?_ | refine WC_region (id := 4) ?_ | refine WC_region (id := 5) ?_ | refine WC_region (id := 6) ?_ | refine WC_region (id := 7) ?_ | refine WC_region (id := 9) ?_ | refine WC_region (id := 10) ?_ | refine WC_region (id := 11) ?_ | refine WC_region (id := 12) ?_ | refine WC_region (id := 13) ?_ | refine WC_region (id := 14) ?_ | (refine WR_skN rfl (h := ?_)) | (refine WR_skM rfl (h := ?_)) | (refine WR_skU rfl (h := ?_)))
    refine WL_op rfl ?_
    refine OW_callE rfl (FnE.ofFn (Rp := fun _ _ => False) (pcmd hM2 hT hn (by omega) hR hm.ch hm.ct hm.bins g5 he (hfr.sub 10 10 (by decide)))) ?_ (fun _ _ h => h.elim)
    rintro _ _ ⟨rfl, Lp3, rfl, hM3⟩
    repeat (first | ((first | refine WL_Q ?_ | refine WL_Y ?_ | refine WR_Q rfl ?_ | refine WR_late rfl rfl rfl (OW_Q ?_) | refine WR_Y rfl ?_); (first | refine QW_a ?_ | refine QW_of (Qt_nilCheck_m rfl) ?_)) | refine WL_nil ?_ | refine WL_un (h := ?_) | refine WL_N ?_ | refine WL_M ?_ | refine WR_nil ?_ | refine WR_un rfl (hk := ?_) | refine WR_N rfl ?_ | refine WR_M rfl ?_ | refine WC_seq ?_ | refine WC_block ?_ | refine WC_cond_t (ht := ?_) | refine WC_cond_f (he := ?_) | refine WC_skip ?_ | refine WC_ret ?_ | refine WC_exit ?_ | refine WC_draw_all (id := 8) 8 (.calm 0 <| .calm 1 <| .calm 2 <| .calm 3 <| .calm 4 <| .calm 5 <| .calm 6 <| .must 7 <| .done) mixed (by kernel_rfl) ?_ | refine WC_region (id := 0) ?_ | refine WC_region (id := 5) ?_ | refine WC_region (id := 6) ?_ | refine WC_region (id := 7) ?_ | refine WC_region (id := 9) ?_ | refine WC_region (id := 10) ?_ | refine WC_region (id := 11) ?_ | refine WC_region (id := 12) ?_ | refine WC_region (id := 13) ?_ | refine WC_region (id := 14) ?_ | (refine WR_skN rfl (h := ?_)) | (refine WR_skM rfl (h := ?_)) | (refine WR_skU rfl (h := ?_)))
    exact ⟨rfl, _, _, Res0 rfl, .refl _, rfl, Lp3, rfl, fin (by unfold MV.body; rw [if_neg (by omega), if_neg (by omega), if_neg (by omega), if_pos hk]) hM3⟩
  by_cases hk : m.kind = 4
  · have hk4 := hk
    have d0 : (m.kind == 0) = false := by simpa using (show ¬ m.kind = 0 by omega)
    have d1 : (m.kind == 1) = false := by simpa using (show ¬ m.kind = 1 by omega)
    have d2 : (m.kind == 2) = false := by simpa using (show ¬ m.kind = 2 by omega)
    have d3 : (m.kind == 3) = false := by simpa using (show ¬ m.kind = 3 by omega)
    have d4 : (m.kind == 4) = true := by simpa using hk
    repeat (first | ((first | refine WL_Q ?_ | refine WL_Y ?_ | refine WR_Q rfl ?_ | refine WR_late rfl rfl rfl (OW_Q ?_) | refine WR_Y rfl ?_); (first | refine QW_a ?_ | refine QW_of (Qt_nilCheck_m rfl) ?_)) | refine WL_nil ?_ | refine WL_un (h := ?_) | refine WL_N ?_ | refine WL_M ?_ | refine WR_nil ?_ | refine WR_un rfl (hk := ?_) | refine WR_N rfl ?_ | refine WR_M rfl ?_ | refine WC_seq ?_ | refine WC_block ?_ | refine WC_cond_t (ht := ?_) | refine WC_cond_f (he := ?_) | refine WC_skip ?_ | refine WC_ret ?_ | refine WC_exit ?_ | refine WC_draw_all (id := 8) 8 (.calm 0 <| .calm 1 <| .calm 2 <| .calm 3 <| .calm 4 <| .calm 5 <| .calm 6 <| .must 7 <| .done) mixed (by kernel_rfl) ?_ | refine WC_region (id := 4) ?_ | refine WC_region (id := 5) ?_ | refine WC_region (id := 6) ?_ | refine WC_region (id := 7) ?_ | refine WC_region (id := 9) ?_ | refine WC_region (id := 10) ?_ | refine WC_region (id := 11) ?_ | refine WC_region (id := 12) ?_ | refine WC_region (id := 13) ?_ | refine WC_region (id := 14) ?_ | (refine WR_skN rfl (h := ?_)) | (refine WR_skM rfl (h := ?_)) | (refine WR_skU rfl (h := ?_)))
    refine WL_op rfl ?_
    refine OW_callE rfl (FnE.ofFn (Rp := fun _ _ => False) (pchunk hM2 hT hn' (by omega) hR hm.kh hm.ents g6 he' (hfr.sub 20 4 (by decide)))) ?_ (fun _ _ h => h.elim)
    rintro _ _ ⟨rfl, Lp3, rfl, hM3⟩
    repeat (first | ((first | refine WL_Q ?_ | refine WL_Y ?_ | refine WR_Q rfl ?_ | refine WR_late rfl rfl rfl (OW_Q ?_) | refine WR_Y rfl ?_); (first | refine QW_a ?_ | refine QW_of (Qt_nilCheck_m rfl) ?_)) | refine WL_nil ?_ | refine WL_un (h := ?_) | refine WL_N ?_ | refine WL_M ?_ | refine WR_nil ?_ | refine WR_un rfl (hk := ?_) | refine WR_N rfl ?_ | refine WR_M rfl ?_ | refine WC_seq ?_ | refine WC_block ?_ | refine WC_cond_t (ht := ?_) | refine WC_cond_f (he := ?_) | refine WC_skip ?_ | refine WC_ret ?_ | refine WC_exit ?_ | refine WC_draw_all (id := 8) 8 (.calm 0 <| .calm 1 <| .calm 2 <| .calm 3 <| .calm 4 <| .calm 5 <| .calm 6 <| .must 7 <| .done) mixed (by kernel_rfl) ?_ | refine WC_region (id := 0) ?_ | refine WC_region (id := 5) ?_ | refine WC_region (id := 6) ?_ | refine WC_region (id := 7) ?_ | refine WC_region (id := 9) ?_ | refine WC_region (id := 10) ?_ | refine WC_region (id := 11) ?_ | refine WC_region (id := 12) ?_ | refine WC_region (id := 13) ?_ | refine WC_region (id := 14) ?_ | (refine WR_skN rfl (h := ?_)) | (refine WR_skM rfl (h := ?_)) | (refine WR_skU rfl (h := ?_)))
    exact ⟨rfl, _, _, Res0 rfl, .refl _, rfl, Lp3, rfl, fin (by unfold MV.body; rw [if_neg (by omega), if_neg (by omega), if_neg (by omega), if_neg (by omega), if_pos hk]) hM3⟩
  have d0 : (m.kind == 0) = false := by simpa using (show ¬ m.kind = 0 by omega)
  have d1 : (m.kind == 1) = false := by simpa using (show ¬ m.kind = 1 by omega)
  have d2 : (m.kind == 2) = false := by simpa using (show ¬ m.kind = 2 by omega)
  have d3 : (m.kind == 3) = false := by simpa using (show ¬ m.kind = 3 by omega)
  have d4 : (m.kind == 4) = false := by simpa using (show ¬ m.kind = 4 by omega)
  repeat (first | ((first | refine WL_Q ?_ | refine WL_Y ?_ | refine WR_Q rfl ?_ | refine WR_late rfl rfl rfl (OW_Q ?_) | refine WR_Y rfl ?_); (first | refine QW_a ?_ | refine QW_of (Qt_nilCheck_m rfl) ?_)) | refine WL_nil ?_ | refine WL_un (h := ?_) | refine WL_N ?_ | refine WL_M ?_ | refine WR_nil ?_ | refine WR_un rfl (hk := ?_) | refine WR_N rfl ?_ | refine WR_M rfl ?_ | refine WC_seq ?_ | refine WC_block ?_ | refine WC_cond_t (ht := ?_) | refine WC_cond_f (he := ?_) | refine WC_skip ?_ | refine WC_ret ?_ | refine WC_exit ?_ | refine WC_draw_all (id := 8) 8 (.calm 0 <| .calm 1 <| .calm 2 <| .calm 3 <| .calm 4 <| .calm 5 <| .calm 6 <| .must 7 <| .done) mixed (by kernel_rfl) ?_ | refine WC_region (id := 4) ?_ | refine WC_region (id := 5) ?_ | refine WC_region (id := 6) ?_ | refine WC_region (id := 7) ?_ | refine WC_region (id := 9) ?_ | refine WC_region (id := 10) ?_ | refine WC_region (id := 11) ?_ | refine WC_region (id := 12) ?_ | refine WC_region (id := 13) ?_ | refine WC_region (id := 14) ?_ | (refine WR_skN rfl (h := ?_)) | (refine WR_skM rfl (h := ?_)) | (refine WR_skU rfl (h := ?_)))
  exact ⟨rfl, _, _, Res0 rfl, .refl _, rfl, Lp2, rfl, fin (x := []) (by unfold MV.body; rw [if_neg (by omega), if_neg (by omega), if_neg (by omega), if_neg (by omega), if_neg (by omega)]) (by rw [List.append_nil]; exact hM2)⟩
end
end Go.Proofs.YtakedlockchpcaaGreatDoor
namespace Go.Proofs.YtakedlockchpcaaGreatDoor
open Go.RowKit
attribute [local irreducible] Fn WC WL WR OW Qt YieldFn QW FnP FnD FnE
theorem by_T0 {L : List (Nat × Obj)} {v : Value} {bs : List UInt8} (h : ByAt L v bs) : ∃ a cap T0, v = .slice a bs.length cap ∧ bs.length ≤ cap ∧ cap ≤ maxLen ∧ (∀ q ∈ T0, q ∈ L) ∧ ByAt T0 (.slice a bs.length bs.length) bs := by
  obtain ⟨h1, a, cap, rfl, h3, h4, h5⟩ := h
  rcases h5 with h5 | ⟨b, off, cs, E, fr, i, e1, e2, e3⟩
  · refine ⟨a, cap, [], rfl, h3, h4, (fun q hq => (by cases hq)), h1, a, bs.length, rfl, Nat.le_refl _, by omega, .inl h5⟩
  · exact ⟨a, cap, [(b, .cells cs E fr)], rfl, h3, h4, fun q hq => by rw [List.mem_singleton.1 hq]; exact List.mem_of_getElem? e2, h1, a, bs.length, rfl, Nat.le_refl _, by omega, .inr ⟨b, off, cs, E, fr, 0, e1, rfl, e3⟩⟩
theorem Elems.mem {R R' : List (Nat × Obj)} {a : Option Addr} {n : Nat} {vss : List (List Value)} (h : Elems R a n vss) (hs : ∀ q ∈ R, q ∈ R') : Elems R' a n vss := by
  rcases h with h | ⟨be, eo, ie, ec, EE, ef, h1, h2, h3⟩
  · exact .inl h
  · obtain ⟨j, hj⟩ := List.mem_iff_getElem?.1 (hs _ (List.mem_of_getElem? h2))
    exact .inr ⟨be, eo, j, ec, EE, ef, h1, hj, h3⟩
theorem Fk.enc_pos {k : Fk} {v : Value} (h : k.ok v) : 0 < (k.enc v).length := by
  cases k with
  | ww => obtain ⟨x, rfl, _⟩ := h; exact Go.Proofs.YtakedlockchpcaaGreatDoor.enc_pos _
  | nn => obtain ⟨x, rfl, _⟩ := h; exact Go.Proofs.YtakedlockchpcaaGreatDoor.enc_pos _
  | kk => obtain ⟨x, rfl, _⟩ := h; exact Go.Proofs.YtakedlockchpcaaGreatDoor.enc_pos _
  | tt => obtain ⟨x, rfl⟩ := h; cases x <;> simp [Fk.enc, encB]
  | bb => obtain ⟨x, rfl⟩ := h; simp [Fk.enc, bV]
theorem encs_pos {k : Fk} {ks : List Fk} {vs : List Value} (h : Oks (k :: ks) vs) : 0 < (encs (k :: ks) vs).length := by
  obtain ⟨v, us, rfl, h1, _⟩ := h.split
  have := Fk.enc_pos h1
  show 0 < (k.enc v ++ encs ks us).length
  rw [List.length_append]; omega
theorem encCmd_pos {ch ct : List Value} {bins : List (List Value)} (h : Oks chF ch) : 0 < (encCmd ch bins ct).length := by
  have h1 : 0 < (encs chF ch).length := encs_pos h
  unfold encCmd; rw [List.length_append]; omega
theorem encChunk_pos {kh : List Value} {ents : List (List Value)} (h : Oks khF kh) : 0 < (encChunk kh ents).length := by
  have h1 : 0 < (encs khF kh).length := encs_pos h
  unfold encChunk; rw [List.length_append]; omega
theorem MV.enc_pos (m : MV) : 0 < m.enc.length := by
  have := Go.Proofs.YtakedlockchpcaaGreatDoor.enc_pos (zz m.kind)
  unfold MV.enc; rw [List.length_append]; omega
set_option maxHeartbeats 2000000 in
theorem laid_Rec {v : Value} {bs l : List UInt8} {cs : Array Value} {L : List (Nat × Obj)} {fu : FuncId} [FCall Tryz.prog fu] (hb : ByAt L v bs) (hlen : 0 < l.length)
    (hf : ∀ (pb : Nat) (T0 : List (Nat × Obj)) (xb : Nat) (Lp : List (Nat × Obj)), PMem pb T0 bs.length bs Lp → (∀ q ∈ T0, q ∈ ((xb, Obj.cells cs 25 (0, 0)) :: L)) → Fn Tryz.prog fu [putV pb, .pointer (some ⟨xb, 0, none⟩)] (Lp ++ ((xb, Obj.cells cs 25 (0, 0)) :: L)) (fun v L' => v = .tuple #[] ∧ ∃ Lp', L' = Lp' ++ ((xb, Obj.cells cs 25 (0, 0)) :: L) ∧ PMem pb T0 bs.length (bs ++ l) Lp')) :
    Fn Tryz.prog 53 [v, .agg cs, .func (.func fu) #[] #[]] L (fun r L' => LaidAt r L L' (bs ++ l)) := by
  obtain ⟨a, cap, T0, rfl, hc1, hc2, hT, hb0⟩ := by_T0 hb
  refine Fn_enter Tryz.func53 rfl Tryz.ntmps53 rfl fun g => ?_
  repeat (first | ((first | refine WL_Q ?_); (first | refine QW_a ?_)) | ((first | refine WL_op rfl ?_); (first | refine OW_box rfl (hk := fun _ => ?_))) | refine WL_nil ?_ | refine WC_seq ?_ | refine WC_block ?_ | refine WC_cond_t (ht := ?_) | refine WC_cond_f (he := ?_) | refine WC_skip ?_ | refine WC_ret ?_ | refine WC_exit ?_ | refine WC_region ?_)
  rename_i xb pb
  refine WL_op rfl ?_
  refine OW_callE rfl (FnE.ofFn (Rp := fun _ _ => False) (hf pb T0 xb [(pb, Obj.cells #[.slice a bs.length bs.length] 177 (0, 0))] ⟨_, [], rfl, hb0, .inl ⟨rfl, rfl, a, rfl⟩⟩ (fun q hq => List.mem_cons_of_mem _ (hT q hq)))) ?_ (fun _ _ h => h.elim)
  rintro _ _ ⟨rfl, _, rfl, v', T, rfl, _, hc⟩
  rcases hc with ⟨_, hc, _⟩ | ⟨g', off, cap', cur, rfl, rfl, hown⟩
  · rw [List.length_append] at hc; omega
  repeat (first | ((first | refine WL_Q ?_); (first | refine QW_a ?_)) | ((first | refine WL_op rfl ?_); (first | refine OW_box rfl (hk := fun _ => ?_))) | refine WL_nil ?_ | refine WC_seq ?_ | refine WC_block ?_ | refine WC_cond_t (ht := ?_) | refine WC_cond_f (he := ?_) | refine WC_skip ?_ | refine WC_ret ?_ | refine WC_exit ?_ | refine WC_region ?_)
  exact ⟨rfl, _, (g', .cells cur 5 (0, 0)) :: L, Res1 rfl (resV_tmp rfl), .cons_cons _ (.cons _ (.cons _ (.refl _))), g', off, cap', cur, rfl, rfl, hown⟩
set_option maxHeartbeats 1000000 in
theorem PRec_fn {v : Value} {bs : List UInt8} {cs : Array Value} {L : List (Nat × Obj)} {vs : List Value} (hb : ByAt L v bs) (hz : cs.size = 6) (hv : Oks recF vs) (hl : Lies cs 0 vs) (hroom : bs.length ≤ 900000000) :
    Fn Tryz.prog 15 [v, .agg cs] L (fun r L' => LaidAt r L L' (bs ++ encs recF vs)) := by
  refine Fn_enter Tryz.func15 rfl Tryz.ntmps15 rfl fun g => ?_
  repeat (first | ((first | refine WL_Q ?_); (first | refine QW_a ?_)) | ((first | refine WL_op rfl ?_); (first | refine OW_box rfl (hk := fun _ => ?_))) | refine WL_nil ?_ | refine WC_seq ?_ | refine WC_block ?_ | refine WC_cond_t (ht := ?_) | refine WC_cond_f (he := ?_) | refine WC_skip ?_ | refine WC_ret ?_ | refine WC_exit ?_ | refine WC_region ?_)
  rename_i xb
  refine WL_op rfl ?_
  refine OW_callE rfl (FnE.ofFn (Rp := fun _ _ => False) (laid_Rec (l := encs recF vs) (hb.cons _) (encs_pos hv) fun pb T0 xb2 Lp hM hT => putF (fs := recF) (rec_flat (putM pb T0 bs.length)) hM hT (show bs.length + 10 * 6 ≤ 1000000000 by omega) (i := 0) rfl hv hl (Free.zero _ _))) ?_ (fun _ _ h => h.elim)
  rintro _ _ ⟨g', off, cap', cur, rfl, rfl, hown⟩
  repeat (first | ((first | refine WL_Q ?_); (first | refine QW_a ?_)) | ((first | refine WL_op rfl ?_); (first | refine OW_box rfl (hk := fun _ => ?_))) | refine WL_nil ?_ | refine WC_seq ?_ | refine WC_block ?_ | refine WC_cond_t (ht := ?_) | refine WC_cond_f (he := ?_) | refine WC_skip ?_ | refine WC_ret ?_ | refine WC_exit ?_ | refine WC_region ?_)
  exact ⟨rfl, _, (g', .cells cur 5 (0, 0)) :: L, Res1 rfl (resV_tmp rfl), .cons_cons _ (.cons _ (.refl _)), g', off, cap', cur, rfl, rfl, hown⟩
set_option maxHeartbeats 2000000 in
theorem laid_Op {v : Value} {bs l : List UInt8} {cs : Array Value} {L : List (Nat × Obj)} {fu : FuncId} [FCall Tryz.prog fu] (hb : ByAt L v bs) (hlen : 0 < l.length)
    (hf : ∀ (pb : Nat) (T0 : List (Nat × Obj)) (xb : Nat) (Lp : List (Nat × Obj)), PMem pb T0 bs.length bs Lp → (∀ q ∈ T0, q ∈ ((xb, Obj.cells cs 28 (0, 0)) :: L)) → Fn Tryz.prog fu [putV pb, .pointer (some ⟨xb, 0, none⟩)] (Lp ++ ((xb, Obj.cells cs 28 (0, 0)) :: L)) (fun v L' => v = .tuple #[] ∧ ∃ Lp', L' = Lp' ++ ((xb, Obj.cells cs 28 (0, 0)) :: L) ∧ PMem pb T0 bs.length (bs ++ l) Lp')) :
    Fn Tryz.prog 58 [v, .agg cs, .func (.func fu) #[] #[]] L (fun r L' => LaidAt r L L' (bs ++ l)) := by
  obtain ⟨a, cap, T0, rfl, hc1, hc2, hT, hb0⟩ := by_T0 hb
  refine Fn_enter Tryz.func58 rfl Tryz.ntmps58 rfl fun g => ?_
  repeat (first | ((first | refine WL_Q ?_); (first | refine QW_a ?_)) | ((first | refine WL_op rfl ?_); (first | refine OW_box rfl (hk := fun _ => ?_))) | refine WL_nil ?_ | refine WC_seq ?_ | refine WC_block ?_ | refine WC_cond_t (ht := ?_) | refine WC_cond_f (he := ?_) | refine WC_skip ?_ | refine WC_ret ?_ | refine WC_exit ?_ | refine WC_region ?_)
  rename_i xb pb
  refine WL_op rfl ?_
  refine OW_callE rfl (FnE.ofFn (Rp := fun _ _ => False) (hf pb T0 xb [(pb, Obj.cells #[.slice a bs.length bs.length] 177 (0, 0))] ⟨_, [], rfl, hb0, .inl ⟨rfl, rfl, a, rfl⟩⟩ (fun q hq => List.mem_cons_of_mem _ (hT q hq)))) ?_ (fun _ _ h => h.elim)
  rintro _ _ ⟨rfl, _, rfl, v', T, rfl, _, hc⟩
  rcases hc with ⟨_, hc, _⟩ | ⟨g', off, cap', cur, rfl, rfl, hown⟩
  · rw [List.length_append] at hc; omega
  repeat (first | ((first | refine WL_Q ?_); (first | refine QW_a ?_)) | ((first | refine WL_op rfl ?_); (first | refine OW_box rfl (hk := fun _ => ?_))) | refine WL_nil ?_ | refine WC_seq ?_ | refine WC_block ?_ | refine WC_cond_t (ht := ?_) | refine WC_cond_f (he := ?_) | refine WC_skip ?_ | refine WC_ret ?_ | refine WC_exit ?_ | refine WC_region ?_)
  exact ⟨rfl, _, (g', .cells cur 5 (0, 0)) :: L, Res1 rfl (resV_tmp rfl), .cons_cons _ (.cons _ (.cons _ (.refl _))), g', off, cap', cur, rfl, rfl, hown⟩
set_option maxHeartbeats 1000000 in
theorem POp_fn {v : Value} {bs : List UInt8} {cs : Array Value} {L : List (Nat × Obj)} {vs : List Value} (hb : ByAt L v bs) (hz : cs.size = 4) (hv : Oks opF vs) (hl : Lies cs 0 vs) (hroom : bs.length ≤ 900000000) :
    Fn Tryz.prog 19 [v, .agg cs] L (fun r L' => LaidAt r L L' (bs ++ encs opF vs)) := by
  refine Fn_enter Tryz.func19 rfl Tryz.ntmps19 rfl fun g => ?_
  repeat (first | ((first | refine WL_Q ?_); (first | refine QW_a ?_)) | ((first | refine WL_op rfl ?_); (first | refine OW_box rfl (hk := fun _ => ?_))) | refine WL_nil ?_ | refine WC_seq ?_ | refine WC_block ?_ | refine WC_cond_t (ht := ?_) | refine WC_cond_f (he := ?_) | refine WC_skip ?_ | refine WC_ret ?_ | refine WC_exit ?_ | refine WC_region ?_)
  rename_i xb
  refine WL_op rfl ?_
  refine OW_callE rfl (FnE.ofFn (Rp := fun _ _ => False) (laid_Op (l := encs opF vs) (hb.cons _) (encs_pos hv) fun pb T0 xb2 Lp hM hT => putF (fs := opF) (op_flat (putM pb T0 bs.length)) hM hT (show bs.length + 10 * 4 ≤ 1000000000 by omega) (i := 0) rfl hv hl (Free.zero _ _))) ?_ (fun _ _ h => h.elim)
  rintro _ _ ⟨g', off, cap', cur, rfl, rfl, hown⟩
  repeat (first | ((first | refine WL_Q ?_); (first | refine QW_a ?_)) | ((first | refine WL_op rfl ?_); (first | refine OW_box rfl (hk := fun _ => ?_))) | refine WL_nil ?_ | refine WC_seq ?_ | refine WC_block ?_ | refine WC_cond_t (ht := ?_) | refine WC_cond_f (he := ?_) | refine WC_skip ?_ | refine WC_ret ?_ | refine WC_exit ?_ | refine WC_region ?_)
  exact ⟨rfl, _, (g', .cells cur 5 (0, 0)) :: L, Res1 rfl (resV_tmp rfl), .cons_cons _ (.cons _ (.refl _)), g', off, cap', cur, rfl, rfl, hown⟩
set_option maxHeartbeats 2000000 in
theorem laid_Item {v : Value} {bs l : List UInt8} {cs : Array Value} {L : List (Nat × Obj)} {fu : FuncId} [FCall Tryz.prog fu] (hb : ByAt L v bs) (hlen : 0 < l.length)
    (hf : ∀ (pb : Nat) (T0 : List (Nat × Obj)) (xb : Nat) (Lp : List (Nat × Obj)), PMem pb T0 bs.length bs Lp → (∀ q ∈ T0, q ∈ ((xb, Obj.cells cs 37 (0, 0)) :: L)) → Fn Tryz.prog fu [putV pb, .pointer (some ⟨xb, 0, none⟩)] (Lp ++ ((xb, Obj.cells cs 37 (0, 0)) :: L)) (fun v L' => v = .tuple #[] ∧ ∃ Lp', L' = Lp' ++ ((xb, Obj.cells cs 37 (0, 0)) :: L) ∧ PMem pb T0 bs.length (bs ++ l) Lp')) :
    Fn Tryz.prog 50 [v, .agg cs, .func (.func fu) #[] #[]] L (fun r L' => LaidAt r L L' (bs ++ l)) := by
  obtain ⟨a, cap, T0, rfl, hc1, hc2, hT, hb0⟩ := by_T0 hb
  refine Fn_enter Tryz.func50 rfl Tryz.ntmps50 rfl fun g => ?_
  repeat (first | ((first | refine WL_Q ?_); (first | refine QW_a ?_)) | ((first | refine WL_op rfl ?_); (first | refine OW_box rfl (hk := fun _ => ?_))) | refine WL_nil ?_ | refine WC_seq ?_ | refine WC_block ?_ | refine WC_cond_t (ht := ?_) | refine WC_cond_f (he := ?_) | refine WC_skip ?_ | refine WC_ret ?_ | refine WC_exit ?_ | refine WC_region ?_)
  rename_i xb pb
  refine WL_op rfl ?_
  refine OW_callE rfl (FnE.ofFn (Rp := fun _ _ => False) (hf pb T0 xb [(pb, Obj.cells #[.slice a bs.length bs.length] 177 (0, 0))] ⟨_, [], rfl, hb0, .inl ⟨rfl, rfl, a, rfl⟩⟩ (fun q hq => List.mem_cons_of_mem _ (hT q hq)))) ?_ (fun _ _ h => h.elim)
  rintro _ _ ⟨rfl, _, rfl, v', T, rfl, _, hc⟩
  rcases hc with ⟨_, hc, _⟩ | ⟨g', off, cap', cur, rfl, rfl, hown⟩
  · rw [List.length_append] at hc; omega
  repeat (first | ((first | refine WL_Q ?_); (first | refine QW_a ?_)) | ((first | refine WL_op rfl ?_); (first | refine OW_box rfl (hk := fun _ => ?_))) | refine WL_nil ?_ | refine WC_seq ?_ | refine WC_block ?_ | refine WC_cond_t (ht := ?_) | refine WC_cond_f (he := ?_) | refine WC_skip ?_ | refine WC_ret ?_ | refine WC_exit ?_ | refine WC_region ?_)
  exact ⟨rfl, _, (g', .cells cur 5 (0, 0)) :: L, Res1 rfl (resV_tmp rfl), .cons_cons _ (.cons _ (.cons _ (.refl _))), g', off, cap', cur, rfl, rfl, hown⟩
set_option maxHeartbeats 1000000 in
theorem PItem_fn {v : Value} {bs : List UInt8} {cs : Array Value} {L : List (Nat × Obj)} {vs : List Value} (hb : ByAt L v bs) (hz : cs.size = 8) (hv : Oks itemF vs) (hl : Lies cs 0 vs) (hroom : bs.length ≤ 900000000) :
    Fn Tryz.prog 13 [v, .agg cs] L (fun r L' => LaidAt r L L' (bs ++ encs itemF vs)) := by
  refine Fn_enter Tryz.func13 rfl Tryz.ntmps13 rfl fun g => ?_
  repeat (first | ((first | refine WL_Q ?_); (first | refine QW_a ?_)) | ((first | refine WL_op rfl ?_); (first | refine OW_box rfl (hk := fun _ => ?_))) | refine WL_nil ?_ | refine WC_seq ?_ | refine WC_block ?_ | refine WC_cond_t (ht := ?_) | refine WC_cond_f (he := ?_) | refine WC_skip ?_ | refine WC_ret ?_ | refine WC_exit ?_ | refine WC_region ?_)
  rename_i xb
  refine WL_op rfl ?_
  refine OW_callE rfl (FnE.ofFn (Rp := fun _ _ => False) (laid_Item (l := encs itemF vs) (hb.cons _) (encs_pos hv) fun pb T0 xb2 Lp hM hT => putF (fs := itemF) (item_flat (putM pb T0 bs.length)) hM hT (show bs.length + 10 * 8 ≤ 1000000000 by omega) (i := 0) rfl hv hl (Free.zero _ _))) ?_ (fun _ _ h => h.elim)
  rintro _ _ ⟨g', off, cap', cur, rfl, rfl, hown⟩
  repeat (first | ((first | refine WL_Q ?_); (first | refine QW_a ?_)) | ((first | refine WL_op rfl ?_); (first | refine OW_box rfl (hk := fun _ => ?_))) | refine WL_nil ?_ | refine WC_seq ?_ | refine WC_block ?_ | refine WC_cond_t (ht := ?_) | refine WC_cond_f (he := ?_) | refine WC_skip ?_ | refine WC_ret ?_ | refine WC_exit ?_ | refine WC_region ?_)
  exact ⟨rfl, _, (g', .cells cur 5 (0, 0)) :: L, Res1 rfl (resV_tmp rfl), .cons_cons _ (.cons _ (.refl _)), g', off, cap', cur, rfl, rfl, hown⟩
set_option maxHeartbeats 2000000 in
theorem laid_Acc {v : Value} {bs l : List UInt8} {cs : Array Value} {L : List (Nat × Obj)} {fu : FuncId} [FCall Tryz.prog fu] (hb : ByAt L v bs) (hlen : 0 < l.length)
    (hf : ∀ (pb : Nat) (T0 : List (Nat × Obj)) (xb : Nat) (Lp : List (Nat × Obj)), PMem pb T0 bs.length bs Lp → (∀ q ∈ T0, q ∈ ((xb, Obj.cells cs 43 (0, 0)) :: L)) → Fn Tryz.prog fu [putV pb, .pointer (some ⟨xb, 0, none⟩)] (Lp ++ ((xb, Obj.cells cs 43 (0, 0)) :: L)) (fun v L' => v = .tuple #[] ∧ ∃ Lp', L' = Lp' ++ ((xb, Obj.cells cs 43 (0, 0)) :: L) ∧ PMem pb T0 bs.length (bs ++ l) Lp')) :
    Fn Tryz.prog 62 [v, .agg cs, .func (.func fu) #[] #[]] L (fun r L' => LaidAt r L L' (bs ++ l)) := by
  obtain ⟨a, cap, T0, rfl, hc1, hc2, hT, hb0⟩ := by_T0 hb
  refine Fn_enter Tryz.func62 rfl Tryz.ntmps62 rfl fun g => ?_
  repeat (first | ((first | refine WL_Q ?_); (first | refine QW_a ?_)) | ((first | refine WL_op rfl ?_); (first | refine OW_box rfl (hk := fun _ => ?_))) | refine WL_nil ?_ | refine WC_seq ?_ | refine WC_block ?_ | refine WC_cond_t (ht := ?_) | refine WC_cond_f (he := ?_) | refine WC_skip ?_ | refine WC_ret ?_ | refine WC_exit ?_ | refine WC_region ?_)
  rename_i xb pb
  refine WL_op rfl ?_
  refine OW_callE rfl (FnE.ofFn (Rp := fun _ _ => False) (hf pb T0 xb [(pb, Obj.cells #[.slice a bs.length bs.length] 177 (0, 0))] ⟨_, [], rfl, hb0, .inl ⟨rfl, rfl, a, rfl⟩⟩ (fun q hq => List.mem_cons_of_mem _ (hT q hq)))) ?_ (fun _ _ h => h.elim)
  rintro _ _ ⟨rfl, _, rfl, v', T, rfl, _, hc⟩
  rcases hc with ⟨_, hc, _⟩ | ⟨g', off, cap', cur, rfl, rfl, hown⟩
  · rw [List.length_append] at hc; omega
  repeat (first | ((first | refine WL_Q ?_); (first | refine QW_a ?_)) | ((first | refine WL_op rfl ?_); (first | refine OW_box rfl (hk := fun _ => ?_))) | refine WL_nil ?_ | refine WC_seq ?_ | refine WC_block ?_ | refine WC_cond_t (ht := ?_) | refine WC_cond_f (he := ?_) | refine WC_skip ?_ | refine WC_ret ?_ | refine WC_exit ?_ | refine WC_region ?_)
  exact ⟨rfl, _, (g', .cells cur 5 (0, 0)) :: L, Res1 rfl (resV_tmp rfl), .cons_cons _ (.cons _ (.cons _ (.refl _))), g', off, cap', cur, rfl, rfl, hown⟩
set_option maxHeartbeats 1000000 in
theorem PAcc_fn {v : Value} {bs : List UInt8} {cs : Array Value} {L : List (Nat × Obj)} {vs : List Value} (hb : ByAt L v bs) (hz : cs.size = 5) (hv : Oks accF vs) (hl : Lies cs 0 vs) (hroom : bs.length ≤ 900000000) :
    Fn Tryz.prog 23 [v, .agg cs] L (fun r L' => LaidAt r L L' (bs ++ encs accF vs)) := by
  refine Fn_enter Tryz.func23 rfl Tryz.ntmps23 rfl fun g => ?_
  repeat (first | ((first | refine WL_Q ?_); (first | refine QW_a ?_)) | ((first | refine WL_op rfl ?_); (first | refine OW_box rfl (hk := fun _ => ?_))) | refine WL_nil ?_ | refine WC_seq ?_ | refine WC_block ?_ | refine WC_cond_t (ht := ?_) | refine WC_cond_f (he := ?_) | refine WC_skip ?_ | refine WC_ret ?_ | refine WC_exit ?_ | refine WC_region ?_)
  rename_i xb
  refine WL_op rfl ?_
  refine OW_callE rfl (FnE.ofFn (Rp := fun _ _ => False) (laid_Acc (l := encs accF vs) (hb.cons _) (encs_pos hv) fun pb T0 xb2 Lp hM hT => putF (fs := accF) (acc_flat (putM pb T0 bs.length)) hM hT (show bs.length + 10 * 5 ≤ 1000000000 by omega) (i := 0) rfl hv hl (Free.zero _ _))) ?_ (fun _ _ h => h.elim)
  rintro _ _ ⟨g', off, cap', cur, rfl, rfl, hown⟩
  repeat (first | ((first | refine WL_Q ?_); (first | refine QW_a ?_)) | ((first | refine WL_op rfl ?_); (first | refine OW_box rfl (hk := fun _ => ?_))) | refine WL_nil ?_ | refine WC_seq ?_ | refine WC_block ?_ | refine WC_cond_t (ht := ?_) | refine WC_cond_f (he := ?_) | refine WC_skip ?_ | refine WC_ret ?_ | refine WC_exit ?_ | refine WC_region ?_)
  exact ⟨rfl, _, (g', .cells cur 5 (0, 0)) :: L, Res1 rfl (resV_tmp rfl), .cons_cons _ (.cons _ (.refl _)), g', off, cap', cur, rfl, rfl, hown⟩
set_option maxHeartbeats 2000000 in
theorem laid_Entry {v : Value} {bs l : List UInt8} {cs : Array Value} {L : List (Nat × Obj)} {fu : FuncId} [FCall Tryz.prog fu] (hb : ByAt L v bs) (hlen : 0 < l.length)
    (hf : ∀ (pb : Nat) (T0 : List (Nat × Obj)) (xb : Nat) (Lp : List (Nat × Obj)), PMem pb T0 bs.length bs Lp → (∀ q ∈ T0, q ∈ ((xb, Obj.cells cs 45 (0, 0)) :: L)) → Fn Tryz.prog fu [putV pb, .pointer (some ⟨xb, 0, none⟩)] (Lp ++ ((xb, Obj.cells cs 45 (0, 0)) :: L)) (fun v L' => v = .tuple #[] ∧ ∃ Lp', L' = Lp' ++ ((xb, Obj.cells cs 45 (0, 0)) :: L) ∧ PMem pb T0 bs.length (bs ++ l) Lp')) :
    Fn Tryz.prog 60 [v, .agg cs, .func (.func fu) #[] #[]] L (fun r L' => LaidAt r L L' (bs ++ l)) := by
  obtain ⟨a, cap, T0, rfl, hc1, hc2, hT, hb0⟩ := by_T0 hb
  refine Fn_enter Tryz.func60 rfl Tryz.ntmps60 rfl fun g => ?_
  repeat (first | ((first | refine WL_Q ?_); (first | refine QW_a ?_)) | ((first | refine WL_op rfl ?_); (first | refine OW_box rfl (hk := fun _ => ?_))) | refine WL_nil ?_ | refine WC_seq ?_ | refine WC_block ?_ | refine WC_cond_t (ht := ?_) | refine WC_cond_f (he := ?_) | refine WC_skip ?_ | refine WC_ret ?_ | refine WC_exit ?_ | refine WC_region ?_)
  rename_i xb pb
  refine WL_op rfl ?_
  refine OW_callE rfl (FnE.ofFn (Rp := fun _ _ => False) (hf pb T0 xb [(pb, Obj.cells #[.slice a bs.length bs.length] 177 (0, 0))] ⟨_, [], rfl, hb0, .inl ⟨rfl, rfl, a, rfl⟩⟩ (fun q hq => List.mem_cons_of_mem _ (hT q hq)))) ?_ (fun _ _ h => h.elim)
  rintro _ _ ⟨rfl, _, rfl, v', T, rfl, _, hc⟩
  rcases hc with ⟨_, hc, _⟩ | ⟨g', off, cap', cur, rfl, rfl, hown⟩
  · rw [List.length_append] at hc; omega
  repeat (first | ((first | refine WL_Q ?_); (first | refine QW_a ?_)) | ((first | refine WL_op rfl ?_); (first | refine OW_box rfl (hk := fun _ => ?_))) | refine WL_nil ?_ | refine WC_seq ?_ | refine WC_block ?_ | refine WC_cond_t (ht := ?_) | refine WC_cond_f (he := ?_) | refine WC_skip ?_ | refine WC_ret ?_ | refine WC_exit ?_ | refine WC_region ?_)
  exact ⟨rfl, _, (g', .cells cur 5 (0, 0)) :: L, Res1 rfl (resV_tmp rfl), .cons_cons _ (.cons _ (.cons _ (.refl _))), g', off, cap', cur, rfl, rfl, hown⟩
set_option maxHeartbeats 1000000 in
theorem PEntry_fn {v : Value} {bs : List UInt8} {cs : Array Value} {L : List (Nat × Obj)} {vs : List Value} (hb : ByAt L v bs) (hz : cs.size = 10) (hv : Oks entryF vs) (hl : Lies cs 0 vs) (hroom : bs.length ≤ 900000000) :
    Fn Tryz.prog 21 [v, .agg cs] L (fun r L' => LaidAt r L L' (bs ++ encs entryF vs)) := by
  refine Fn_enter Tryz.func21 rfl Tryz.ntmps21 rfl fun g => ?_
  repeat (first | ((first | refine WL_Q ?_); (first | refine QW_a ?_)) | ((first | refine WL_op rfl ?_); (first | refine OW_box rfl (hk := fun _ => ?_))) | refine WL_nil ?_ | refine WC_seq ?_ | refine WC_block ?_ | refine WC_cond_t (ht := ?_) | refine WC_cond_f (he := ?_) | refine WC_skip ?_ | refine WC_ret ?_ | refine WC_exit ?_ | refine WC_region ?_)
  rename_i xb
  refine WL_op rfl ?_
  refine OW_callE rfl (FnE.ofFn (Rp := fun _ _ => False) (laid_Entry (l := encs entryF vs) (hb.cons _) (encs_pos hv) fun pb T0 xb2 Lp hM hT => putF (fs := entryF) (entry_flat (putM pb T0 bs.length)) hM hT (show bs.length + 10 * 10 ≤ 1000000000 by omega) (i := 0) rfl hv hl (Free.zero _ _))) ?_ (fun _ _ h => h.elim)
  rintro _ _ ⟨g', off, cap', cur, rfl, rfl, hown⟩
  repeat (first | ((first | refine WL_Q ?_); (first | refine QW_a ?_)) | ((first | refine WL_op rfl ?_); (first | refine OW_box rfl (hk := fun _ => ?_))) | refine WL_nil ?_ | refine WC_seq ?_ | refine WC_block ?_ | refine WC_cond_t (ht := ?_) | refine WC_cond_f (he := ?_) | refine WC_skip ?_ | refine WC_ret ?_ | refine WC_exit ?_ | refine WC_region ?_)
  exact ⟨rfl, _, (g', .cells cur 5 (0, 0)) :: L, Res1 rfl (resV_tmp rfl), .cons_cons _ (.cons _ (.refl _)), g', off, cap', cur, rfl, rfl, hown⟩
set_option maxHeartbeats 2000000 in
theorem laid_Cmd {v : Value} {bs l : List UInt8} {cs : Array Value} {L : List (Nat × Obj)} {fu : FuncId} [FCall Tryz.prog fu] (hb : ByAt L v bs) (hlen : 0 < l.length)
    (hf : ∀ (pb : Nat) (T0 : List (Nat × Obj)) (xb : Nat) (Lp : List (Nat × Obj)), PMem pb T0 bs.length bs Lp → (∀ q ∈ T0, q ∈ ((xb, Obj.cells cs 30 (0, 0)) :: L)) → Fn Tryz.prog fu [putV pb, .pointer (some ⟨xb, 0, none⟩)] (Lp ++ ((xb, Obj.cells cs 30 (0, 0)) :: L)) (fun v L' => v = .tuple #[] ∧ ∃ Lp', L' = Lp' ++ ((xb, Obj.cells cs 30 (0, 0)) :: L) ∧ PMem pb T0 bs.length (bs ++ l) Lp')) :
    Fn Tryz.prog 56 [v, .agg cs, .func (.func fu) #[] #[]] L (fun r L' => LaidAt r L L' (bs ++ l)) := by
  obtain ⟨a, cap, T0, rfl, hc1, hc2, hT, hb0⟩ := by_T0 hb
  refine Fn_enter Tryz.func56 rfl Tryz.ntmps56 rfl fun g => ?_
  repeat (first | ((first | refine WL_Q ?_); (first | refine QW_a ?_)) | ((first | refine WL_op rfl ?_); (first | refine OW_box rfl (hk := fun _ => ?_))) | refine WL_nil ?_ | refine WC_seq ?_ | refine WC_block ?_ | refine WC_cond_t (ht := ?_) | refine WC_cond_f (he := ?_) | refine WC_skip ?_ | refine WC_ret ?_ | refine WC_exit ?_ | refine WC_region ?_)
  rename_i xb pb
  refine WL_op rfl ?_
  refine OW_callE rfl (FnE.ofFn (Rp := fun _ _ => False) (hf pb T0 xb [(pb, Obj.cells #[.slice a bs.length bs.length] 177 (0, 0))] ⟨_, [], rfl, hb0, .inl ⟨rfl, rfl, a, rfl⟩⟩ (fun q hq => List.mem_cons_of_mem _ (hT q hq)))) ?_ (fun _ _ h => h.elim)
  rintro _ _ ⟨rfl, _, rfl, v', T, rfl, _, hc⟩
  rcases hc with ⟨_, hc, _⟩ | ⟨g', off, cap', cur, rfl, rfl, hown⟩
  · rw [List.length_append] at hc; omega
  repeat (first | ((first | refine WL_Q ?_); (first | refine QW_a ?_)) | ((first | refine WL_op rfl ?_); (first | refine OW_box rfl (hk := fun _ => ?_))) | refine WL_nil ?_ | refine WC_seq ?_ | refine WC_block ?_ | refine WC_cond_t (ht := ?_) | refine WC_cond_f (he := ?_) | refine WC_skip ?_ | refine WC_ret ?_ | refine WC_exit ?_ | refine WC_region ?_)
  exact ⟨rfl, _, (g', .cells cur 5 (0, 0)) :: L, Res1 rfl (resV_tmp rfl), .cons_cons _ (.cons _ (.cons _ (.refl _))), g', off, cap', cur, rfl, rfl, hown⟩
set_option maxHeartbeats 1000000 in
theorem PCmd_fn {v : Value} {bs : List UInt8} {cs : Array Value} {L : List (Nat × Obj)} {a : Option Addr} {cap : Nat} {ch ct : List Value} {bins : List (List Value)} (hb : ByAt L v bs) (hz : cs.size = 10) (hn : bins.length ≤ 1000000) (hch : Oks chF ch) (hct : Oks ctF ct) (hbi : ∀ vs ∈ bins, Oks binF vs) (hl : Lies cs 0 (ch ++ (.slice a bins.length cap :: ct))) (he : Elems L a 1 bins) (hroom : bs.length ≤ 900000000) :
    Fn Tryz.prog 17 [v, .agg cs] L (fun r L' => LaidAt r L L' (bs ++ encCmd ch bins ct)) := by
  refine Fn_enter Tryz.func17 rfl Tryz.ntmps17 rfl fun g => ?_
  repeat (first | ((first | refine WL_Q ?_); (first | refine QW_a ?_)) | ((first | refine WL_op rfl ?_); (first | refine OW_box rfl (hk := fun _ => ?_))) | refine WL_nil ?_ | refine WC_seq ?_ | refine WC_block ?_ | refine WC_cond_t (ht := ?_) | refine WC_cond_f (he := ?_) | refine WC_skip ?_ | refine WC_ret ?_ | refine WC_exit ?_ | refine WC_region ?_)
  rename_i xb
  refine WL_op rfl ?_
  refine OW_callE rfl (FnE.ofFn (Rp := fun _ _ => False) (laid_Cmd (l := encCmd ch bins ct) (hb.cons _) (encCmd_pos hch) fun pb T0 xb2 Lp hM hT => pcmd (i := 0) hM hT hn (by omega) rfl hch hct hbi hl (he.mem fun q hq => List.mem_cons_of_mem _ (List.mem_cons_of_mem _ hq)) (Free.zero _ _))) ?_ (fun _ _ h => h.elim)
  rintro _ _ ⟨g', off, cap', cur, rfl, rfl, hown⟩
  repeat (first | ((first | refine WL_Q ?_); (first | refine QW_a ?_)) | ((first | refine WL_op rfl ?_); (first | refine OW_box rfl (hk := fun _ => ?_))) | refine WL_nil ?_ | refine WC_seq ?_ | refine WC_block ?_ | refine WC_cond_t (ht := ?_) | refine WC_cond_f (he := ?_) | refine WC_skip ?_ | refine WC_ret ?_ | refine WC_exit ?_ | refine WC_region ?_)
  exact ⟨rfl, _, (g', .cells cur 5 (0, 0)) :: L, Res1 rfl (resV_tmp rfl), .cons_cons _ (.cons _ (.refl _)), g', off, cap', cur, rfl, rfl, hown⟩
set_option maxHeartbeats 2000000 in
theorem laid_Chunk {v : Value} {bs l : List UInt8} {cs : Array Value} {L : List (Nat × Obj)} {fu : FuncId} [FCall Tryz.prog fu] (hb : ByAt L v bs) (hlen : 0 < l.length)
    (hf : ∀ (pb : Nat) (T0 : List (Nat × Obj)) (xb : Nat) (Lp : List (Nat × Obj)), PMem pb T0 bs.length bs Lp → (∀ q ∈ T0, q ∈ ((xb, Obj.cells cs 33 (0, 0)) :: L)) → Fn Tryz.prog fu [putV pb, .pointer (some ⟨xb, 0, none⟩)] (Lp ++ ((xb, Obj.cells cs 33 (0, 0)) :: L)) (fun v L' => v = .tuple #[] ∧ ∃ Lp', L' = Lp' ++ ((xb, Obj.cells cs 33 (0, 0)) :: L) ∧ PMem pb T0 bs.length (bs ++ l) Lp')) :
    Fn Tryz.prog 64 [v, .agg cs, .func (.func fu) #[] #[]] L (fun r L' => LaidAt r L L' (bs ++ l)) := by
  obtain ⟨a, cap, T0, rfl, hc1, hc2, hT, hb0⟩ := by_T0 hb
  refine Fn_enter Tryz.func64 rfl Tryz.ntmps64 rfl fun g => ?_
  repeat (first | ((first | refine WL_Q ?_); (first | refine QW_a ?_)) | ((first | refine WL_op rfl ?_); (first | refine OW_box rfl (hk := fun _ => ?_))) | refine WL_nil ?_ | refine WC_seq ?_ | refine WC_block ?_ | refine WC_cond_t (ht := ?_) | refine WC_cond_f (he := ?_) | refine WC_skip ?_ | refine WC_ret ?_ | refine WC_exit ?_ | refine WC_region ?_)
  rename_i xb pb
  refine WL_op rfl ?_
  refine OW_callE rfl (FnE.ofFn (Rp := fun _ _ => False) (hf pb T0 xb [(pb, Obj.cells #[.slice a bs.length bs.length] 177 (0, 0))] ⟨_, [], rfl, hb0, .inl ⟨rfl, rfl, a, rfl⟩⟩ (fun q hq => List.mem_cons_of_mem _ (hT q hq)))) ?_ (fun _ _ h => h.elim)
  rintro _ _ ⟨rfl, _, rfl, v', T, rfl, _, hc⟩
  rcases hc with ⟨_, hc, _⟩ | ⟨g', off, cap', cur, rfl, rfl, hown⟩
  · rw [List.length_append] at hc; omega
  repeat (first | ((first | refine WL_Q ?_); (first | refine QW_a ?_)) | ((first | refine WL_op rfl ?_); (first | refine OW_box rfl (hk := fun _ => ?_))) | refine WL_nil ?_ | refine WC_seq ?_ | refine WC_block ?_ | refine WC_cond_t (ht := ?_) | refine WC_cond_f (he := ?_) | refine WC_skip ?_ | refine WC_ret ?_ | refine WC_exit ?_ | refine WC_region ?_)
  exact ⟨rfl, _, (g', .cells cur 5 (0, 0)) :: L, Res1 rfl (resV_tmp rfl), .cons_cons _ (.cons _ (.cons _ (.refl _))), g', off, cap', cur, rfl, rfl, hown⟩
set_option maxHeartbeats 1000000 in
theorem PChunk_fn {v : Value} {bs : List UInt8} {cs : Array Value} {L : List (Nat × Obj)} {a : Option Addr} {cap : Nat} {kh : List Value} {ents : List (List Value)} (hb : ByAt L v bs) (hz : cs.size = 4) (hn : ents.length ≤ 100000) (hkh : Oks khF kh) (hbi : ∀ vs ∈ ents, Oks entryF vs) (hl : Lies cs 0 (kh ++ [.slice a ents.length cap])) (he : Elems L a 10 ents) (hroom : bs.length ≤ 900000000) :
    Fn Tryz.prog 25 [v, .agg cs] L (fun r L' => LaidAt r L L' (bs ++ encChunk kh ents)) := by
  refine Fn_enter Tryz.func25 rfl Tryz.ntmps25 rfl fun g => ?_
  repeat (first | ((first | refine WL_Q ?_); (first | refine QW_a ?_)) | ((first | refine WL_op rfl ?_); (first | refine OW_box rfl (hk := fun _ => ?_))) | refine WL_nil ?_ | refine WC_seq ?_ | refine WC_block ?_ | refine WC_cond_t (ht := ?_) | refine WC_cond_f (he := ?_) | refine WC_skip ?_ | refine WC_ret ?_ | refine WC_exit ?_ | refine WC_region ?_)
  rename_i xb
  refine WL_op rfl ?_
  refine OW_callE rfl (FnE.ofFn (Rp := fun _ _ => False) (laid_Chunk (l := encChunk kh ents) (hb.cons _) (encChunk_pos hkh) fun pb T0 xb2 Lp hM hT => pchunk (i := 0) hM hT (by omega) (by omega) rfl hkh hbi hl (he.mem fun q hq => List.mem_cons_of_mem _ (List.mem_cons_of_mem _ hq)) (Free.zero _ _))) ?_ (fun _ _ h => h.elim)
  rintro _ _ ⟨g', off, cap', cur, rfl, rfl, hown⟩
  repeat (first | ((first | refine WL_Q ?_); (first | refine QW_a ?_)) | ((first | refine WL_op rfl ?_); (first | refine OW_box rfl (hk := fun _ => ?_))) | refine WL_nil ?_ | refine WC_seq ?_ | refine WC_block ?_ | refine WC_cond_t (ht := ?_) | refine WC_cond_f (he := ?_) | refine WC_skip ?_ | refine WC_ret ?_ | refine WC_exit ?_ | refine WC_region ?_)
  exact ⟨rfl, _, (g', .cells cur 5 (0, 0)) :: L, Res1 rfl (resV_tmp rfl), .cons_cons _ (.cons _ (.refl _)), g', off, cap', cur, rfl, rfl, hown⟩
set_option maxHeartbeats 2000000 in
theorem laid_Msg {v : Value} {bs l : List UInt8} {cs : Array Value} {L : List (Nat × Obj)} {fu : FuncId} [FCall Tryz.prog fu] (hb : ByAt L v bs) (hlen : 0 < l.length)
    (hf : ∀ (pb : Nat) (T0 : List (Nat × Obj)) (xb : Nat) (Lp : List (Nat × Obj)), PMem pb T0 bs.length bs Lp → (∀ q ∈ T0, q ∈ ((xb, Obj.cells cs 35 (0, 0)) :: L)) → Fn Tryz.prog fu [putV pb, .pointer (some ⟨xb, 0, none⟩)] (Lp ++ ((xb, Obj.cells cs 35 (0, 0)) :: L)) (fun v L' => v = .tuple #[] ∧ ∃ Lp', L' = Lp' ++ ((xb, Obj.cells cs 35 (0, 0)) :: L) ∧ PMem pb T0 bs.length (bs ++ l) Lp')) :
    Fn Tryz.prog 46 [v, .agg cs, .func (.func fu) #[] #[]] L (fun r L' => LaidAt r L L' (bs ++ l)) := by
  obtain ⟨a, cap, T0, rfl, hc1, hc2, hT, hb0⟩ := by_T0 hb
  refine Fn_enter Tryz.func46 rfl Tryz.ntmps46 rfl fun g => ?_
  repeat (first | ((first | refine WL_Q ?_); (first | refine QW_a ?_)) | ((first | refine WL_op rfl ?_); (first | refine OW_box rfl (hk := fun _ => ?_))) | refine WL_nil ?_ | refine WC_seq ?_ | refine WC_block ?_ | refine WC_cond_t (ht := ?_) | refine WC_cond_f (he := ?_) | refine WC_skip ?_ | refine WC_ret ?_ | refine WC_exit ?_ | refine WC_region ?_)
  rename_i xb pb
  refine WL_op rfl ?_
  refine OW_callE rfl (FnE.ofFn (Rp := fun _ _ => False) (hf pb T0 xb [(pb, Obj.cells #[.slice a bs.length bs.length] 177 (0, 0))] ⟨_, [], rfl, hb0, .inl ⟨rfl, rfl, a, rfl⟩⟩ (fun q hq => List.mem_cons_of_mem _ (hT q hq)))) ?_ (fun _ _ h => h.elim)
  rintro _ _ ⟨rfl, _, rfl, v', T, rfl, _, hc⟩
  rcases hc with ⟨_, hc, _⟩ | ⟨g', off, cap', cur, rfl, rfl, hown⟩
  · rw [List.length_append] at hc; omega
  repeat (first | ((first | refine WL_Q ?_); (first | refine QW_a ?_)) | ((first | refine WL_op rfl ?_); (first | refine OW_box rfl (hk := fun _ => ?_))) | refine WL_nil ?_ | refine WC_seq ?_ | refine WC_block ?_ | refine WC_cond_t (ht := ?_) | refine WC_cond_f (he := ?_) | refine WC_skip ?_ | refine WC_ret ?_ | refine WC_exit ?_ | refine WC_region ?_)
  exact ⟨rfl, _, (g', .cells cur 5 (0, 0)) :: L, Res1 rfl (resV_tmp rfl), .cons_cons _ (.cons _ (.cons _ (.refl _))), g', off, cap', cur, rfl, rfl, hown⟩
set_option maxHeartbeats 1000000 in
theorem PMsg_fn {v : Value} {bs : List UInt8} {cs : Array Value} {L : List (Nat × Obj)} {a : Option Addr} {cap : Nat} {a' : Option Addr} {cap' : Nat} {m : MV} (hb : ByAt L v bs) (hz : cs.size = 24) (hm : m.Ok) (hn : m.bins.length ≤ 1000000) (hn' : m.ents.length ≤ 100000) (hl : Lies cs 0 (m.cells a cap a' cap')) (he : Elems L a 1 m.bins) (he' : Elems L a' 10 m.ents) (hroom : bs.length ≤ 900000000) :
    Fn Tryz.prog 11 [v, .agg cs] L (fun r L' => LaidAt r L L' (bs ++ m.enc)) := by
  refine Fn_enter Tryz.func11 rfl Tryz.ntmps11 rfl fun g => ?_
  repeat (first | ((first | refine WL_Q ?_); (first | refine QW_a ?_)) | ((first | refine WL_op rfl ?_); (first | refine OW_box rfl (hk := fun _ => ?_))) | refine WL_nil ?_ | refine WC_seq ?_ | refine WC_block ?_ | refine WC_cond_t (ht := ?_) | refine WC_cond_f (he := ?_) | refine WC_skip ?_ | refine WC_ret ?_ | refine WC_exit ?_ | refine WC_region ?_)
  rename_i xb
  refine WL_op rfl ?_
  refine OW_callE rfl (FnE.ofFn (Rp := fun _ _ => False) (laid_Msg (l := m.enc) (hb.cons _) (m.enc_pos) fun pb T0 xb2 Lp hM hT => pmsg (i := 0) hM hT hm hn (by omega) (by omega) rfl hl (he.mem fun q hq => List.mem_cons_of_mem _ (List.mem_cons_of_mem _ hq)) (he'.mem fun q hq => List.mem_cons_of_mem _ (List.mem_cons_of_mem _ hq)) (Free.zero _ _))) ?_ (fun _ _ h => h.elim)
  rintro _ _ ⟨g', off, cap', cur, rfl, rfl, hown⟩
  repeat (first | ((first | refine WL_Q ?_); (first | refine QW_a ?_)) | ((first | refine WL_op rfl ?_); (first | refine OW_box rfl (hk := fun _ => ?_))) | refine WL_nil ?_ | refine WC_seq ?_ | refine WC_block ?_ | refine WC_cond_t (ht := ?_) | refine WC_cond_f (he := ?_) | refine WC_skip ?_ | refine WC_ret ?_ | refine WC_exit ?_ | refine WC_region ?_)
  exact ⟨rfl, _, (g', .cells cur 5 (0, 0)) :: L, Res1 rfl (resV_tmp rfl), .cons_cons _ (.cons _ (.refl _)), g', off, cap', cur, rfl, rfl, hown⟩
end Go.Proofs.YtakedlockchpcaaGreatDoor
namespace Go.Proofs.YtakedlockchpcaaGreatDoor
open Go.RowKit
attribute [local irreducible] Fn WC WL WR OW Qt YieldFn QW FnP FnD FnE
theorem lies_extract {cs : Array Value} {a n : Nat} {vs : List Value} (h : Lies cs a vs) (hn : vs.length ≤ n) : Lies (cs.extract a (a + n)) 0 vs := fun j v hj => by
  have hlt := (List.getElem?_eq_some_iff.1 hj).1
  have := h j v hj
  have hc := (Array.getElem?_eq_some_iff.1 this).1
  rw [Nat.zero_add, Array.getElem?_extract, if_pos (by omega)]
  exact this
theorem size_extract {cs : Array Value} {a n : Nat} (h : a + n ≤ cs.size) : (cs.extract a (a + n)).size = n := by simp; omega
theorem lies0 {cs : Array Value} {vs : List Value} (h : Lies cs 0 vs) {j : Nat} {v : Value} (hj : vs[j]? = some v) : cs[j]? = some v := by
  have := h j v hj
  rwa [Nat.zero_add] at this
theorem rW_fn {x : Int} {L : List (Nat × Obj)} (h0 : -9223372036854775808 ≤ x) (h1 : x < 9223372036854775808) : Fn Tryz.prog 48 [.int .i64 x] L (fun r L' => r = .string (bstr (enc (zz x))) ∧ L' = L) := by
  refine Fn_enter Tryz.func48 rfl Tryz.ntmps48 rfl fun g => ?_
  repeat (first | ((first | refine WL_Q ?_); (first | refine QW_a ?_)) | ((first | refine WL_op rfl ?_); (first | refine OW_callP rfl (hF := Int_fn (by with_reducible assumption) (by with_reducible assumption)) (hk := ?_))) | refine WL_nil ?_ | refine WC_seq ?_ | refine WC_block ?_ | refine WC_cond_t (ht := ?_) | refine WC_cond_f (he := ?_) | refine WC_skip ?_ | refine WC_ret ?_ | refine WC_exit ?_ | refine WC_region ?_)
  exact ⟨rfl, _, _, Res1 rfl (resV_tmp rfl), .refl _, rfl, rfl⟩
set_option maxHeartbeats 4000000 in
theorem rRec_fn {cs : Array Value} {vs : List Value} {L : List (Nat × Obj)} (hv : Oks recF vs) (hl : Lies cs 0 vs) : Fn Tryz.prog 16 [.agg cs] L (fun r L' => r = .string (bstr (encs recF vs)) ∧ L' = L) := by
  obtain ⟨x0, us, rfl, xh0, hv⟩ := hv.split
  obtain ⟨x1, us, rfl, xh1, hv⟩ := hv.split
  obtain ⟨x2, us, rfl, xh2, hv⟩ := hv.split
  obtain ⟨x3, us, rfl, xh3, hv⟩ := hv.split
  obtain ⟨x4, us, rfl, xh4, hv⟩ := hv.split
  obtain ⟨x5, us, rfl, xh5, hv⟩ := hv.split
  obtain rfl := hv.nil
  have ex0 := enc_len_ok xh0
  obtain ⟨x0, rfl, x0lo, x0hi⟩ := xh0
  have x0w : IntKind.u64.wrap x0 = x0 := wU64 x0lo (by omega)
  have x0wl := u64_lo x0
  have x0wh := u64_hi x0
  have fx0 : (enc (IntKind.u64.wrap x0).toNat).length ≤ 10 := by rw [x0w]; exact ex0
  have ex1 := enc_len_ok xh1
  obtain ⟨x1, rfl, x1lo, x1hi⟩ := xh1
  have fx1 : (enc (zz x1)).length ≤ 10 := ex1
  have ex2 := enc_len_ok xh2
  obtain ⟨x2, rfl, x2lo, x2hi⟩ := xh2
  have fx2 : (enc (zz x2)).length ≤ 10 := ex2
  have ex3 := enc_len_ok xh3
  obtain ⟨x3, rfl⟩ := xh3
  have ex4 := enc_len_ok xh4
  obtain ⟨x4, rfl⟩ := xh4
  have fx4 : (encB x4).length ≤ 10 := ex4
  have ex5 := enc_len_ok xh5
  obtain ⟨x5, rfl⟩ := xh5
  have fx5 : (encB x5).length ≤ 10 := ex5
  have c0 := lies0 hl (j := 0) rfl
  have c1 := lies0 hl (j := 1) rfl
  have c2 := lies0 hl (j := 2) rfl
  have c3 := lies0 hl (j := 3) rfl
  have c4 := lies0 hl (j := 4) rfl
  have c5 := lies0 hl (j := 5) rfl
  refine Fn_enter Tryz.func16 rfl Tryz.ntmps16 rfl fun g => ?_
  repeat' (first | ((first | refine WL_Q ?_ | refine WR_Q rfl ?_ | refine WR_late rfl rfl rfl (OW_Q ?_)); (first | refine QW_a ?_)) | ((first | refine WL_op rfl ?_ | refine WR_late rfl rfl rfl ?_ | refine WR_opG rfl rfl ?_); (first | refine OW_box rfl (hk := fun _ => ?_) | refine OW_build1 rfl (hk := fun _ => ?_) | refine OW_callP rfl (hF := Int_fn (by with_reducible assumption) (by with_reducible assumption)) (hk := ?_) | refine OW_callP rfl (hF := Num_fn' (by with_reducible assumption) (by with_reducible assumption)) (hk := ?_) | refine OW_callP rfl (hF := Truth_fn) (hk := ?_)); try refine ⟨(by first | exact fun _ h => h | exact sub_mem (by repeat (first | exact .refl _ | exact List.nil_sublist _ | exact List.sublist_append_right _ _ | apply List.Sublist.cons_cons | apply List.Sublist.cons))), ?_⟩) | refine WL_nil ?_ | refine WR_nil ?_ | refine WC_seq ?_ | refine WC_block ?_ | refine WC_cond_t (ht := ?_) | refine WC_cond_f (he := ?_) | refine WC_skip ?_ | refine WC_ret ?_ | refine WC_exit ?_ | refine WC_draw_all (id := 1) 26 (.calm 0 <| .calm 1 <| .calm 2 <| .calm 4 <| .calm 5 <| .calm 8 <| .calm 9 <| .calm 12 <| .calm 13 <| .calm 17 <| .calm 18 <| .calm 21 <| .calm 22 <| .either 3 (.either 6 (.calm 7 <| .either 10 (.calm 11 <| .either 14 (.calm 15 <| .calm 16 <| .must 19 <| .calm 20 <| .must 23 <| .calm 24 <| .calm 25 <| .done) 19 (.either 14 (.calm 15 <| .calm 16 <| .calm 20 <| .must 23 <| .calm 24 <| .calm 25 <| .done) 23 (.must 14 <| .calm 15 <| .calm 16 <| .calm 20 <| .calm 24 <| .calm 25 <| .done))) 14 (.calm 15 <| .must 10 <| .calm 11 <| .calm 16 <| .must 19 <| .calm 20 <| .must 23 <| .calm 24 <| .calm 25 <| .done)) 14 (.calm 15 <| .must 6 <| .calm 7 <| .must 10 <| .calm 11 <| .calm 16 <| .must 19 <| .calm 20 <| .must 23 <| .calm 24 <| .calm 25 <| .done)) 14 (.calm 15 <| .must 3 <| .must 6 <| .calm 7 <| .must 10 <| .calm 11 <| .calm 16 <| .must 19 <| .calm 20 <| .must 23 <| .calm 24 <| .calm 25 <| .done)) mixed (by kernel_rfl) ?_ | refine WC_region ?_ | refine WR_either ?_ ?_)
  all_goals
    refine ⟨rfl, _, _, Res1 rfl (resV_tmp rfl), .cons _ (.cons _ (.refl _)), ?_, rfl⟩
    simp [encs, Fk.enc, bV, x0w]
set_option maxHeartbeats 4000000 in
theorem rOp_fn {cs : Array Value} {vs : List Value} {L : List (Nat × Obj)} (hv : Oks opF vs) (hl : Lies cs 0 vs) : Fn Tryz.prog 20 [.agg cs] L (fun r L' => r = .string (bstr (encs opF vs)) ∧ L' = L) := by
  obtain ⟨x0, us, rfl, xh0, hv⟩ := hv.split
  obtain ⟨x1, us, rfl, xh1, hv⟩ := hv.split
  obtain ⟨x2, us, rfl, xh2, hv⟩ := hv.split
  obtain ⟨x3, us, rfl, xh3, hv⟩ := hv.split
  obtain rfl := hv.nil
  have ex0 := enc_len_ok xh0
  obtain ⟨x0, rfl, x0lo, x0hi⟩ := xh0
  have fx0 : (enc (zz x0)).length ≤ 10 := ex0
  have ex1 := enc_len_ok xh1
  obtain ⟨x1, rfl, x1lo, x1hi⟩ := xh1
  have fx1 : (enc (zz x1)).length ≤ 10 := ex1
  have ex2 := enc_len_ok xh2
  obtain ⟨x2, rfl, x2lo, x2hi⟩ := xh2
  have fx2 : (enc (zz x2)).length ≤ 10 := ex2
  have ex3 := enc_len_ok xh3
  obtain ⟨x3, rfl, x3lo, x3hi⟩ := xh3
  have fx3 : (enc (zz x3)).length ≤ 10 := ex3
  have c0 := lies0 hl (j := 0) rfl
  have c1 := lies0 hl (j := 1) rfl
  have c2 := lies0 hl (j := 2) rfl
  have c3 := lies0 hl (j := 3) rfl
  refine Fn_enter Tryz.func20 rfl Tryz.ntmps20 rfl fun g => ?_
  repeat (first | ((first | refine WL_Q ?_ | refine WR_Q rfl ?_ | refine WR_late rfl rfl rfl (OW_Q ?_)); (first | refine QW_a ?_)) | ((first | refine WL_op rfl ?_ | refine WR_late rfl rfl rfl ?_ | refine WR_opG rfl rfl ?_); (first | refine OW_box rfl (hk := fun _ => ?_) | refine OW_callP rfl (hF := Int_fn (by with_reducible assumption) (by with_reducible assumption)) (hk := ?_) | refine OW_callP rfl (hF := rW_fn (by with_reducible assumption) (by with_reducible assumption)) (hk := ?_)); try refine ⟨(by first | exact fun _ h => h | exact sub_mem (by repeat (first | exact .refl _ | exact List.nil_sublist _ | exact List.sublist_append_right _ _ | apply List.Sublist.cons_cons | apply List.Sublist.cons))), ?_⟩) | refine WL_nil ?_ | refine WR_nil ?_ | refine WC_seq ?_ | refine WC_block ?_ | refine WC_cond_t (ht := ?_) | refine WC_cond_f (he := ?_) | refine WC_skip ?_ | refine WC_ret ?_ | refine WC_exit ?_ | refine WC_draw_all (id := 1) 16 (.calm 0 <| .calm 1 <| .calm 3 <| .calm 4 <| .calm 7 <| .calm 8 <| .calm 11 <| .calm 12 <| .must 2 <| .must 5 <| .calm 6 <| .must 9 <| .calm 10 <| .must 13 <| .calm 14 <| .calm 15 <| .done) mixed (by kernel_rfl) ?_ | refine WC_region ?_)
  refine ⟨rfl, _, _, Res1 rfl (resV_tmp rfl), .cons _ (.refl _), ?_, rfl⟩
  simp [encs, Fk.enc]
set_option maxHeartbeats 4000000 in
theorem rAcc_fn {cs : Array Value} {vs : List Value} {L : List (Nat × Obj)} (hv : Oks accF vs) (hl : Lies cs 0 vs) : Fn Tryz.prog 24 [.agg cs] L (fun r L' => r = .string (bstr (encs accF vs)) ∧ L' = L) := by
  obtain ⟨x0, us, rfl, xh0, hv⟩ := hv.split
  obtain ⟨x1, us, rfl, xh1, hv⟩ := hv.split
  obtain ⟨x2, us, rfl, xh2, hv⟩ := hv.split
  obtain ⟨x3, us, rfl, xh3, hv⟩ := hv.split
  obtain ⟨x4, us, rfl, xh4, hv⟩ := hv.split
  obtain rfl := hv.nil
  have ex0 := enc_len_ok xh0
  obtain ⟨x0, rfl, x0lo, x0hi⟩ := xh0
  have fx0 : (enc (zz x0)).length ≤ 10 := ex0
  have ex1 := enc_len_ok xh1
  obtain ⟨x1, rfl, x1lo, x1hi⟩ := xh1
  have fx1 : (enc (zz x1)).length ≤ 10 := ex1
  have ex2 := enc_len_ok xh2
  obtain ⟨x2, rfl, x2lo, x2hi⟩ := xh2
  have fx2 : (enc x2.toNat).length ≤ 10 := ex2
  have ex3 := enc_len_ok xh3
  obtain ⟨x3, rfl, x3lo, x3hi⟩ := xh3
  have fx3 : (enc (zz x3)).length ≤ 10 := ex3
  have ex4 := enc_len_ok xh4
  obtain ⟨x4, rfl, x4lo, x4hi⟩ := xh4
  have fx4 : (enc (zz x4)).length ≤ 10 := ex4
  have c0 := lies0 hl (j := 0) rfl
  have c1 := lies0 hl (j := 1) rfl
  have c2 := lies0 hl (j := 2) rfl
  have c3 := lies0 hl (j := 3) rfl
  have c4 := lies0 hl (j := 4) rfl
  refine Fn_enter Tryz.func24 rfl Tryz.ntmps24 rfl fun g => ?_
  repeat (first | ((first | refine WL_Q ?_ | refine WR_Q rfl ?_ | refine WR_late rfl rfl rfl (OW_Q ?_)); (first | refine QW_a ?_)) | ((first | refine WL_op rfl ?_ | refine WR_late rfl rfl rfl ?_ | refine WR_opG rfl rfl ?_); (first | refine OW_box rfl (hk := fun _ => ?_) | refine OW_callP rfl (hF := Int_fn (by with_reducible assumption) (by with_reducible assumption)) (hk := ?_) | refine OW_callP rfl (hF := Num_fn' (by with_reducible assumption) (by with_reducible assumption)) (hk := ?_)); try refine ⟨(by first | exact fun _ h => h | exact sub_mem (by repeat (first | exact .refl _ | exact List.nil_sublist _ | exact List.sublist_append_right _ _ | apply List.Sublist.cons_cons | apply List.Sublist.cons))), ?_⟩) | refine WL_nil ?_ | refine WR_nil ?_ | refine WC_seq ?_ | refine WC_block ?_ | refine WC_cond_t (ht := ?_) | refine WC_cond_f (he := ?_) | refine WC_skip ?_ | refine WC_ret ?_ | refine WC_exit ?_ | refine WC_draw_all (id := 1) 20 (.calm 0 <| .calm 1 <| .calm 3 <| .calm 4 <| .calm 7 <| .calm 8 <| .calm 11 <| .calm 12 <| .calm 15 <| .calm 16 <| .must 2 <| .must 5 <| .calm 6 <| .must 9 <| .calm 10 <| .must 13 <| .calm 14 <| .must 17 <| .calm 18 <| .calm 19 <| .done) mixed (by kernel_rfl) ?_ | refine WC_region ?_)
  refine ⟨rfl, _, _, Res1 rfl (resV_tmp rfl), .cons _ (.refl _), ?_, rfl⟩
  simp [encs, Fk.enc]
set_option maxHeartbeats 4000000 in
theorem rItem_fn {cs : Array Value} {vs : List Value} {L : List (Nat × Obj)} (hz : cs.size = 8) (hv : Oks itemF vs) (hl : Lies cs 0 vs) : Fn Tryz.prog 14 [.agg cs] L (fun r L' => r = .string (bstr (encs itemF vs)) ∧ L' = L) := by
  obtain ⟨x0, us, rfl, xh0, hv⟩ := hv.split
  obtain ⟨x1, us, rfl, xh1, hv⟩ := hv.split
  obtain ⟨x2, us, rfl, xh2, hv⟩ := hv.split
  obtain ⟨x3, us, rfl, xh3, hv⟩ := hv.split
  obtain ⟨x4, us, rfl, xh4, hv⟩ := hv.split
  obtain ⟨x5, us, rfl, xh5, hv⟩ := hv.split
  obtain ⟨x6, us, rfl, xh6, hv⟩ := hv.split
  obtain ⟨x7, us, rfl, xh7, hv⟩ := hv.split
  obtain rfl := hv.nil
  have hs2 : Oks recF [x2, x3, x4, x5, x6, x7] := ⟨xh2, xh3, xh4, xh5, xh6, xh7, trivial⟩
  have hl2 : Lies (cs.extract 2 (2 + 6)) 0 [x2, x3, x4, x5, x6, x7] := lies_extract (by have h := hl.cut 2 6; rwa [Nat.zero_add] at h) (Nat.le_refl _)
  have hsl2 := encs_len hs2
  simp only [List.length_cons, List.length_nil] at hsl2
  have ex0 := enc_len_ok xh0
  obtain ⟨x0, rfl⟩ := xh0
  have fx0 : (encB x0).length ≤ 10 := ex0
  have ex1 := enc_len_ok xh1
  obtain ⟨x1, rfl, x1lo, x1hi⟩ := xh1
  have fx1 : (enc (zz x1)).length ≤ 10 := ex1
  have ex2 := enc_len_ok xh2
  have ex3 := enc_len_ok xh3
  have ex4 := enc_len_ok xh4
  have ex5 := enc_len_ok xh5
  have ex6 := enc_len_ok xh6
  have ex7 := enc_len_ok xh7
  have c0 := lies0 hl (j := 0) rfl
  have c1 := lies0 hl (j := 1) rfl
  refine Fn_enter Tryz.func14 rfl Tryz.ntmps14 rfl fun g => ?_
  repeat (first | ((first | refine WL_Q ?_ | refine WR_Q rfl ?_ | refine WR_late rfl rfl rfl (OW_Q ?_)); (first | refine QW_a ?_)) | ((first | refine WL_op rfl ?_ | refine WR_late rfl rfl rfl ?_ | refine WR_opG rfl rfl ?_); (first | refine OW_box rfl (hk := fun _ => ?_) | refine OW_callP rfl (hF := Int_fn (by with_reducible assumption) (by with_reducible assumption)) (hk := ?_) | refine OW_callP rfl (hF := Truth_fn) (hk := ?_) | refine OW_callP rfl (hF := rRec_fn hs2 hl2) (hk := ?_)); try refine ⟨(by first | exact fun _ h => h | exact sub_mem (by repeat (first | exact .refl _ | exact List.nil_sublist _ | exact List.sublist_append_right _ _ | apply List.Sublist.cons_cons | apply List.Sublist.cons))), ?_⟩) | refine WL_nil ?_ | refine WR_nil ?_ | refine WC_seq ?_ | refine WC_block ?_ | refine WC_cond_t (ht := ?_) | refine WC_cond_f (he := ?_) | refine WC_skip ?_ | refine WC_ret ?_ | refine WC_exit ?_ | refine WC_draw_all (id := 1) 12 (.calm 0 <| .calm 1 <| .calm 3 <| .calm 4 <| .calm 7 <| .calm 8 <| .must 2 <| .must 5 <| .calm 6 <| .must 9 <| .calm 10 <| .calm 11 <| .done) mixed (by kernel_rfl) ?_ | refine WC_region ?_)
  refine ⟨rfl, _, _, Res1 rfl (resV_tmp rfl), .cons _ (.refl _), ?_, rfl⟩
  simp [encs, Fk.enc]
set_option maxHeartbeats 4000000 in
theorem rEntry_fn {cs : Array Value} {vs : List Value} {L : List (Nat × Obj)} (hz : cs.size = 10) (hv : Oks entryF vs) (hl : Lies cs 0 vs) : Fn Tryz.prog 22 [.agg cs] L (fun r L' => r = .string (bstr (encs entryF vs)) ∧ L' = L) := by
  obtain ⟨x0, us, rfl, xh0, hv⟩ := hv.split
  obtain ⟨x1, us, rfl, xh1, hv⟩ := hv.split
  obtain ⟨x2, us, rfl, xh2, hv⟩ := hv.split
  obtain ⟨x3, us, rfl, xh3, hv⟩ := hv.split
  obtain ⟨x4, us, rfl, xh4, hv⟩ := hv.split
  obtain ⟨x5, us, rfl, xh5, hv⟩ := hv.split
  obtain ⟨x6, us, rfl, xh6, hv⟩ := hv.split
  obtain ⟨x7, us, rfl, xh7, hv⟩ := hv.split
  obtain ⟨x8, us, rfl, xh8, hv⟩ := hv.split
  obtain ⟨x9, us, rfl, xh9, hv⟩ := hv.split
  obtain rfl := hv.nil
  have hs5 : Oks accF [x5, x6, x7, x8, x9] := ⟨xh5, xh6, xh7, xh8, xh9, trivial⟩
  have hl5 : Lies (cs.extract 5 (5 + 5)) 0 [x5, x6, x7, x8, x9] := lies_extract (by have h := hl.cut 5 5; rwa [Nat.zero_add] at h) (Nat.le_refl _)
  have hsl5 := encs_len hs5
  simp only [List.length_cons, List.length_nil] at hsl5
  have ex0 := enc_len_ok xh0
  obtain ⟨x0, rfl, x0lo, x0hi⟩ := xh0
  have fx0 : (enc (zz x0)).length ≤ 10 := ex0
  have ex1 := enc_len_ok xh1
  obtain ⟨x1, rfl, x1lo, x1hi⟩ := xh1
  have x1w : IntKind.u64.wrap x1 = x1 := wU64 x1lo (by omega)
  have x1wl := u64_lo x1
  have x1wh := u64_hi x1
  have fx1 : (enc (IntKind.u64.wrap x1).toNat).length ≤ 10 := by rw [x1w]; exact ex1
  have ex2 := enc_len_ok xh2
  obtain ⟨x2, rfl, x2lo, x2hi⟩ := xh2
  have fx2 : (enc (zz x2)).length ≤ 10 := ex2
  have ex3 := enc_len_ok xh3
  obtain ⟨x3, rfl, x3lo, x3hi⟩ := xh3
  have fx3 : (enc (zz x3)).length ≤ 10 := ex3
  have ex4 := enc_len_ok xh4
  obtain ⟨x4, rfl⟩ := xh4
  have ex5 := enc_len_ok xh5
  have ex6 := enc_len_ok xh6
  have ex7 := enc_len_ok xh7
  have ex8 := enc_len_ok xh8
  have ex9 := enc_len_ok xh9
  have c0 := lies0 hl (j := 0) rfl
  have c1 := lies0 hl (j := 1) rfl
  have c2 := lies0 hl (j := 2) rfl
  have c3 := lies0 hl (j := 3) rfl
  have c4 := lies0 hl (j := 4) rfl
  refine Fn_enter Tryz.func22 rfl Tryz.ntmps22 rfl fun g => ?_
  repeat' (first | ((first | refine WL_Q ?_ | refine WR_Q rfl ?_ | refine WR_late rfl rfl rfl (OW_Q ?_)); (first | refine QW_a ?_)) | ((first | refine WL_op rfl ?_ | refine WR_late rfl rfl rfl ?_ | refine WR_opG rfl rfl ?_); (first | refine OW_box rfl (hk := fun _ => ?_) | refine OW_build1 rfl (hk := fun _ => ?_) | refine OW_callP rfl (hF := Int_fn (by with_reducible assumption) (by with_reducible assumption)) (hk := ?_) | refine OW_callP rfl (hF := Num_fn' (by with_reducible assumption) (by with_reducible assumption)) (hk := ?_) | refine OW_callP rfl (hF := rW_fn (by with_reducible assumption) (by with_reducible assumption)) (hk := ?_) | refine OW_callP rfl (hF := rAcc_fn hs5 hl5) (hk := ?_)); try refine ⟨(by first | exact fun _ h => h | exact sub_mem (by repeat (first | exact .refl _ | exact List.nil_sublist _ | exact List.sublist_append_right _ _ | apply List.Sublist.cons_cons | apply List.Sublist.cons))), ?_⟩) | refine WL_nil ?_ | refine WR_nil ?_ | refine WC_seq ?_ | refine WC_block ?_ | refine WC_cond_t (ht := ?_) | refine WC_cond_f (he := ?_) | refine WC_skip ?_ | refine WC_ret ?_ | refine WC_exit ?_ | refine WC_draw_all (id := 1) 26 (.calm 0 <| .calm 1 <| .calm 3 <| .calm 4 <| .calm 5 <| .calm 8 <| .calm 9 <| .calm 12 <| .calm 13 <| .calm 16 <| .calm 17 <| .calm 21 <| .calm 22 <| .either 2 (.either 6 (.calm 7 <| .either 10 (.calm 11 <| .either 14 (.calm 15 <| .either 18 (.calm 19 <| .calm 20 <| .must 23 <| .calm 24 <| .calm 25 <| .done) 23 (.must 18 <| .calm 19 <| .calm 20 <| .calm 24 <| .calm 25 <| .done)) 18 (.calm 19 <| .must 14 <| .calm 15 <| .calm 20 <| .must 23 <| .calm 24 <| .calm 25 <| .done)) 18 (.calm 19 <| .must 10 <| .calm 11 <| .must 14 <| .calm 15 <| .calm 20 <| .must 23 <| .calm 24 <| .calm 25 <| .done)) 18 (.calm 19 <| .must 6 <| .calm 7 <| .must 10 <| .calm 11 <| .must 14 <| .calm 15 <| .calm 20 <| .must 23 <| .calm 24 <| .calm 25 <| .done)) 18 (.calm 19 <| .must 2 <| .must 6 <| .calm 7 <| .must 10 <| .calm 11 <| .must 14 <| .calm 15 <| .calm 20 <| .must 23 <| .calm 24 <| .calm 25 <| .done)) mixed (by kernel_rfl) ?_ | refine WC_region ?_ | refine WR_either ?_ ?_)
  all_goals
    refine ⟨rfl, _, _, Res1 rfl (resV_tmp rfl), .cons _ (.cons _ (.refl _)), ?_, rfl⟩
    simp [encs, Fk.enc, bV, x1w]
end Go.Proofs.YtakedlockchpcaaGreatDoor
namespace Go.Proofs.YtakedlockchpcaaGreatDoor
open Go.RowKit
attribute [local irreducible] Fn WC WL WR OW Qt YieldFn QW FnP FnD FnE
set_option maxHeartbeats 4000000 in
theorem rCmd_fn {cs : Array Value} {L : List (Nat × Obj)} {a : Option Addr} {cap : Nat} {ch ct : List Value} {bins : List (List Value)} (hz : cs.size = 10) (hn : bins.length ≤ 1000000) (hch : Oks chF ch) (hct : Oks ctF ct) (hb : ∀ vs ∈ bins, Oks binF vs) (hl : Lies cs 0 (ch ++ (.slice a bins.length cap :: ct))) (he : Elems L a 1 bins) :
    Fn Tryz.prog 18 [.agg cs] L (fun r L' => r = .string (bstr (encCmd ch bins ct)) ∧ L' = L) := by
  obtain ⟨v0, us0, rfl, h0, q0⟩ := hch.split
  obtain ⟨v1, us1, rfl, h1, q1⟩ := q0.split
  obtain rfl := q1.nil
  obtain ⟨c0, rfl, a0, b0⟩ := h0
  obtain ⟨c1, rfl, a1, b1⟩ := h1
  obtain ⟨w0, ws0, rfl, k0, r0⟩ := hct.split
  obtain ⟨w1, ws1, rfl, k1, r1⟩ := r0.split
  obtain ⟨t2, ws2, rfl, k2, r2⟩ := r1.split
  obtain ⟨t3, ws3, rfl, k3, r3⟩ := r2.split
  obtain ⟨t4, ws4, rfl, k4, r4⟩ := r3.split
  obtain ⟨t5, ws5, rfl, k5, r5⟩ := r4.split
  obtain ⟨w6, ws6, rfl, k6, r6⟩ := r5.split
  obtain rfl := r6.nil
  obtain ⟨t0, rfl, a2, b2⟩ := k0
  obtain ⟨t1, rfl, a3, b3⟩ := k1
  obtain ⟨t6, rfl, a6, b6⟩ := k6
  have hop : Oks opF [t2, t3, t4, t5] := ⟨k2, k3, k4, k5, trivial⟩
  have hlop : Lies (cs.extract 5 (5 + 4)) 0 [t2, t3, t4, t5] := lies_extract (by have h := hl.cut 5 4; rwa [Nat.zero_add] at h) (Nat.le_refl _)
  have eop := encs_len hop
  simp only [List.length_cons, List.length_nil] at eop
  have f0 := enc_len (zz_lt a0 b0)
  have f1 := enc_len (zz_lt a1 b1)
  have f2 := enc_len (zz_lt a2 b2)
  have f3 := enc_len (zz_lt a3 b3)
  have f6 := enc_len (zz_lt a6 b6)
  have u0 := u64_lo ((bins.length : Nat) : Int)
  have u1 := u64_hi ((bins.length : Nat) : Int)
  have uw : (IntKind.u64.wrap ((bins.length : Nat) : Int)).toNat = bins.length := by rw [wU64 (by omega) (by omega)]; omega
  have fn : (enc (IntKind.u64.wrap ((bins.length : Nat) : Int)).toNat).length ≤ 10 := by rw [uw]; exact enc_len (by omega)
  have g0 := lies0 hl (j := 0) rfl
  have g1 := lies0 hl (j := 1) rfl
  have g2 := lies0 hl (j := 2) rfl
  have g3 := lies0 hl (j := 3) rfl
  have g4 := lies0 hl (j := 4) rfl
  have g9 := lies0 hl (j := 9) rfl
  refine Fn_enter Tryz.func18 rfl Tryz.ntmps18 rfl fun g => ?_
  repeat (first | ((first | refine WL_Q ?_ | refine WR_Q rfl ?_ | refine WR_late rfl rfl rfl (OW_Q ?_)); (first | refine QW_a ?_)) | ((first | refine WL_op rfl ?_ | refine WR_late rfl rfl rfl ?_ | refine WR_opG rfl rfl ?_); (first | refine OW_box rfl (hk := fun _ => ?_) | refine OW_callP rfl (hF := Int_fn (by with_reducible assumption) (by with_reducible assumption)) (hk := ?_) | refine OW_callP rfl (hF := Num_fn' (by with_reducible assumption) (by with_reducible assumption)) (hk := ?_) | refine OW_callP rfl (hF := rW_fn (by with_reducible assumption) (by with_reducible assumption)) (hk := ?_)); try refine ⟨(by first | exact fun _ h => h | exact sub_mem (by repeat (first | exact .refl _ | exact List.nil_sublist _ | exact List.sublist_append_right _ _ | apply List.Sublist.cons_cons | apply List.Sublist.cons))), ?_⟩) | refine WL_nil ?_ | refine WR_nil ?_ | refine WC_seq ?_ | refine WC_block (id := 1) ?_ | refine WC_cond_t (ht := ?_) | refine WC_cond_f (he := ?_) | refine WC_skip ?_ | refine WC_ret ?_ | refine WC_exit ?_ | refine WC_draw_all (id := 1) 14 (.calm 0 <| .calm 1 <| .calm 3 <| .calm 4 <| .calm 7 <| .calm 8 <| .calm 9 <| .calm 10 <| .must 2 <| .must 5 <| .calm 6 <| .must 11 <| .calm 12 <| .calm 13 <| .done) mixed (by kernel_rfl) ?_ | refine WC_draw_all (id := 6) 18 (.calm 0 <| .calm 1 <| .calm 2 <| .calm 5 <| .calm 6 <| .calm 9 <| .calm 10 <| .calm 13 <| .calm 14 <| .must 3 <| .calm 4 <| .must 7 <| .calm 8 <| .must 11 <| .calm 12 <| .must 15 <| .calm 16 <| .calm 17 <| .done) mixed (by kernel_rfl) ?_ | refine WC_region ?_)
  rename_i xb
  rw [uw]
  obtain ⟨pre, hpre⟩ : ∃ pre, pre = enc (zz c0) ++ enc (zz c1) ++ enc bins.length := ⟨_, rfl⟩
  rw [← hpre]
  have hprel : pre.length ≤ 30 := by
    rw [uw] at fn
    rw [hpre, List.length_append, List.length_append]; omega
  refine WC_meet (fun σ => σ = ⟨[(3, .string (bstr (pre ++ bins.flatMap (encs binF)))), (1, .pointer (some ⟨xb, 0, none⟩))], [], (xb, .cells cs 30 (0, 0)) :: L⟩) ?_ ?_
  · refine WC_block (WC_wk [(4, .int .i64 0), (3, .string (bstr pre)), (1, .pointer (some ⟨xb, 0, none⟩))] ⟨rfl, rfl, rfl, trivial⟩ ?_)
    refine WC_loop (fun m σ => ∃ (j : Nat) (acc : List UInt8), m = bins.length - j ∧ j ≤ bins.length ∧ acc = pre ++ (bins.take j).flatMap (encs binF) ∧ σ = ⟨[(4, .int .i64 (j : Nat)), (3, .string (bstr acc)), (1, .pointer (some ⟨xb, 0, none⟩))], [], (xb, .cells cs 30 (0, 0)) :: L⟩) bins.length ⟨0, pre, by omega, by omega, by simp, rfl⟩ ?_
    rintro m σ ⟨j, acc, rfl, hj, hacc, rfl⟩
    by_cases hlt : j < bins.length
    · have d1 : decide (((j : Nat) : Int) < ((bins.length : Nat) : Int)) = true := decide_eq_true (by omega)
      obtain ⟨vs, hvs⟩ : ∃ vs, bins[j]? = some vs := ⟨_, List.getElem?_eq_getElem hlt⟩
      rcases he with he | ⟨be, eo, ie, ec, EE, ef, rfl, hRe, hat⟩
      · rw [he] at hlt; simp at hlt
      obtain ⟨hle, _⟩ := hat j vs hvs
      obtain ⟨v, us, rfl, hx, q⟩ := (hb vs (List.mem_of_getElem? hvs)).split
      obtain rfl := q.nil
      obtain ⟨x, rfl, x0, x1⟩ := hx
      have i1 : ((j : Nat) : Int) < ((bins.length : Nat) : Int) := by omega
      have i0 : 0 ≤ ((j : Nat) : Int) := by omega
      have hXe : ((xb, Obj.cells cs 30 (0, 0)) :: L)[ie + 1]? = some (be, .cells ec EE ef) := hRe
      have hce : ec[eo + ((j : Nat) : Int).toNat * 1]? = some (.int .i64 x) := hle 0 _ rfl
      have hal : acc.length ≤ 30 + 10 * j := by
        have h1 := encn_len (es := binF) (vss := bins.take j) fun vs hv => hb vs (List.mem_of_mem_take hv)
        have h2 : (bins.take j).length = j := by rw [List.length_take]; omega
        rw [h2, show binF.length = 1 from rfl] at h1
        rw [hacc, List.length_append]; omega
      have fx := enc_len (zz_lt x0 x1)
      have hcat : acc.length + (enc (zz x)).length ≤ 4611686018427387904 := by omega
      have hw1 : IntKind.i64.wrap (((j : Nat) : Int) + 1) = ((j + 1 : Nat) : Int) := by rw [wI64 (by omega) (by omega)]; omega
      repeat (first | ((first | refine WL_Q ?_ | refine WR_Q rfl ?_ | refine WR_late rfl rfl rfl (OW_Q ?_)); (first | refine QW_a ?_)) | ((first | refine WL_op rfl ?_ | refine WR_late rfl rfl rfl ?_ | refine WR_opG rfl rfl ?_); (first | refine OW_box rfl (hk := fun _ => ?_) | refine OW_callP rfl (hF := Int_fn (by with_reducible assumption) (by with_reducible assumption)) (hk := ?_) | refine OW_callP rfl (hF := Num_fn' (by with_reducible assumption) (by with_reducible assumption)) (hk := ?_) | refine OW_callP rfl (hF := rW_fn (by with_reducible assumption) (by with_reducible assumption)) (hk := ?_)); try refine ⟨(by first | exact fun _ h => h | exact sub_mem (by repeat (first | exact .refl _ | exact List.nil_sublist _ | exact List.sublist_append_right _ _ | apply List.Sublist.cons_cons | apply List.Sublist.cons))), ?_⟩) | refine WL_nil ?_ | refine WR_nil ?_ | refine WC_seq ?_ | refine WC_block ?_ | refine WC_cond_t (ht := ?_) | refine WC_cond_f (he := ?_) | refine WC_skip ?_ | refine WC_ret ?_ | refine WC_exit ?_ | refine WC_draw_all (id := 1) 14 (.calm 0 <| .calm 1 <| .calm 3 <| .calm 4 <| .calm 7 <| .calm 8 <| .calm 9 <| .calm 10 <| .must 2 <| .must 5 <| .calm 6 <| .must 11 <| .calm 12 <| .calm 13 <| .done) mixed (by kernel_rfl) ?_ | refine WC_draw_all (id := 6) 18 (.calm 0 <| .calm 1 <| .calm 2 <| .calm 5 <| .calm 6 <| .calm 9 <| .calm 10 <| .calm 13 <| .calm 14 <| .must 3 <| .calm 4 <| .must 7 <| .calm 8 <| .must 11 <| .calm 12 <| .must 15 <| .calm 16 <| .calm 17 <| .done) mixed (by kernel_rfl) ?_ | refine WC_region ?_)
      rw [hw1]
      refine ⟨_, _, by omega, ⟨j + 1, acc ++ enc (zz x), rfl, by omega, ?_, rfl⟩, ⟨rfl, rfl, rfl, trivial⟩, rfl, .refl _⟩
      rw [hacc, List.take_add_one, hvs, List.flatMap_append]
      simp [encs, Fk.enc]
    · have d1 : decide (((j : Nat) : Int) < ((bins.length : Nat) : Int)) = false := decide_eq_false (by omega)
      obtain rfl : j = bins.length := by omega
      rw [List.take_length] at hacc
      subst hacc
      repeat (first | ((first | refine WL_Q ?_ | refine WR_Q rfl ?_ | refine WR_late rfl rfl rfl (OW_Q ?_)); (first | refine QW_a ?_)) | ((first | refine WL_op rfl ?_ | refine WR_late rfl rfl rfl ?_ | refine WR_opG rfl rfl ?_); (first | refine OW_box rfl (hk := fun _ => ?_) | refine OW_callP rfl (hF := Int_fn (by with_reducible assumption) (by with_reducible assumption)) (hk := ?_) | refine OW_callP rfl (hF := Num_fn' (by with_reducible assumption) (by with_reducible assumption)) (hk := ?_) | refine OW_callP rfl (hF := rW_fn (by with_reducible assumption) (by with_reducible assumption)) (hk := ?_)); try refine ⟨(by first | exact fun _ h => h | exact sub_mem (by repeat (first | exact .refl _ | exact List.nil_sublist _ | exact List.sublist_append_right _ _ | apply List.Sublist.cons_cons | apply List.Sublist.cons))), ?_⟩) | refine WL_nil ?_ | refine WR_nil ?_ | refine WC_seq ?_ | refine WC_block ?_ | refine WC_cond_t (ht := ?_) | refine WC_cond_f (he := ?_) | refine WC_skip ?_ | refine WC_ret ?_ | refine WC_exit ?_ | refine WC_draw_all (id := 1) 14 (.calm 0 <| .calm 1 <| .calm 3 <| .calm 4 <| .calm 7 <| .calm 8 <| .calm 9 <| .calm 10 <| .must 2 <| .must 5 <| .calm 6 <| .must 11 <| .calm 12 <| .calm 13 <| .done) mixed (by kernel_rfl) ?_ | refine WC_draw_all (id := 6) 18 (.calm 0 <| .calm 1 <| .calm 2 <| .calm 5 <| .calm 6 <| .calm 9 <| .calm 10 <| .calm 13 <| .calm 14 <| .must 3 <| .calm 4 <| .must 7 <| .calm 8 <| .must 11 <| .calm 12 <| .must 15 <| .calm 16 <| .calm 17 <| .done) mixed (by kernel_rfl) ?_ | refine WC_region ?_)
      exact ⟨_, rfl, ⟨rfl, rfl, trivial⟩, rfl, .refl _⟩
  rintro _ rfl
  have hbl : (pre ++ bins.flatMap (encs binF)).length ≤ 30 + 10 * bins.length := by
    have h1 := encn_len (es := binF) hb
    rw [show binF.length = 1 from rfl] at h1
    rw [List.length_append]; omega
  generalize hs : pre ++ bins.flatMap (encs binF) = s at hbl
  repeat (first | ((first | refine WL_Q ?_ | refine WR_Q rfl ?_ | refine WR_late rfl rfl rfl (OW_Q ?_)); (first | refine QW_a ?_)) | ((first | refine WL_op rfl ?_ | refine WR_late rfl rfl rfl ?_ | refine WR_opG rfl rfl ?_); (first | refine OW_box rfl (hk := fun _ => ?_) | refine OW_callP rfl (hF := Int_fn (by with_reducible assumption) (by with_reducible assumption)) (hk := ?_) | refine OW_callP rfl (hF := Num_fn' (by with_reducible assumption) (by with_reducible assumption)) (hk := ?_) | refine OW_callP rfl (hF := rW_fn (by with_reducible assumption) (by with_reducible assumption)) (hk := ?_) | refine OW_callP rfl (hF := rOp_fn hop hlop) (hk := ?_)); try refine ⟨(by first | exact fun _ h => h | exact sub_mem (by repeat (first | exact .refl _ | exact List.nil_sublist _ | exact List.sublist_append_right _ _ | apply List.Sublist.cons_cons | apply List.Sublist.cons))), ?_⟩) | refine WL_nil ?_ | refine WR_nil ?_ | refine WC_seq ?_ | refine WC_block ?_ | refine WC_cond_t (ht := ?_) | refine WC_cond_f (he := ?_) | refine WC_skip ?_ | refine WC_ret ?_ | refine WC_exit ?_ | refine WC_draw_all (id := 1) 14 (.calm 0 <| .calm 1 <| .calm 3 <| .calm 4 <| .calm 7 <| .calm 8 <| .calm 9 <| .calm 10 <| .must 2 <| .must 5 <| .calm 6 <| .must 11 <| .calm 12 <| .calm 13 <| .done) mixed (by kernel_rfl) ?_ | refine WC_draw_all (id := 6) 18 (.calm 0 <| .calm 1 <| .calm 2 <| .calm 5 <| .calm 6 <| .calm 9 <| .calm 10 <| .calm 13 <| .calm 14 <| .must 3 <| .calm 4 <| .must 7 <| .calm 8 <| .must 11 <| .calm 12 <| .must 15 <| .calm 16 <| .calm 17 <| .done) mixed (by kernel_rfl) ?_ | refine WC_region ?_)
  refine ⟨rfl, _, _, Res1 rfl (resV_tmp rfl), .cons _ (.refl _), ?_, rfl⟩
  rw [← hs, hpre]
  simp [encCmd, encl, encs, Fk.enc]
theorem lies_size {cs : Array Value} {a : Nat} {vs : List Value} (h : Lies cs a vs) (hn : 0 < vs.length) : a + vs.length ≤ cs.size := by
  have := h (vs.length - 1) (vs[vs.length - 1]'(by omega)) (List.getElem?_eq_getElem (by omega))
  have := (Array.getElem?_eq_some_iff.1 this).1
  omega
set_option maxHeartbeats 4000000 in
theorem rChunk_fn {cs : Array Value} {L : List (Nat × Obj)} {a : Option Addr} {cap : Nat} {kh : List Value} {ents : List (List Value)} (hn : ents.length ≤ 1000000) (hkh : Oks khF kh) (hb : ∀ vs ∈ ents, Oks entryF vs) (hl : Lies cs 0 (kh ++ [.slice a ents.length cap])) (he : Elems L a 10 ents) :
    Fn Tryz.prog 26 [.agg cs] L (fun r L' => r = .string (bstr (encChunk kh ents)) ∧ L' = L) := by
  obtain ⟨v0, us0, rfl, h0, q0⟩ := hkh.split
  obtain ⟨v1, us1, rfl, h1, q1⟩ := q0.split
  obtain ⟨v2, us2, rfl, h2, q2⟩ := q1.split
  obtain rfl := q2.nil
  have f2 := enc_len_ok h2
  obtain ⟨c0, rfl, a0, b0⟩ := h0
  obtain ⟨c1, rfl, a1, b1⟩ := h1
  obtain ⟨c2, rfl⟩ := h2
  have f2' : (encB c2).length ≤ 10 := f2
  have f0 := enc_len (zz_lt a0 b0)
  have f1 := enc_len (zz_lt a1 b1)
  have uw : (IntKind.u64.wrap ((ents.length : Nat) : Int)).toNat = ents.length := by rw [wU64 (by omega) (by omega)]; omega
  have fn : (enc (IntKind.u64.wrap ((ents.length : Nat) : Int)).toNat).length ≤ 10 := by rw [uw]; exact enc_len (by omega)
  have g0 := lies0 hl (j := 0) rfl
  have g1 := lies0 hl (j := 1) rfl
  have g2 := lies0 hl (j := 2) rfl
  have g3 := lies0 hl (j := 3) rfl
  refine Fn_enter Tryz.func26 rfl Tryz.ntmps26 rfl fun g => ?_
  have u0 := u64_lo ((ents.length : Nat) : Int)
  have u1 := u64_hi ((ents.length : Nat) : Int)
  repeat (first | ((first | refine WL_Q ?_ | refine WR_Q rfl ?_ | refine WR_late rfl rfl rfl (OW_Q ?_)); (first | refine QW_a ?_)) | ((first | refine WL_op rfl ?_ | refine WR_late rfl rfl rfl ?_ | refine WR_opG rfl rfl ?_); (first | refine OW_box rfl (hk := fun _ => ?_) | refine OW_callP rfl (hF := Num_fn' (by with_reducible assumption) (by with_reducible assumption)) (hk := ?_) | refine OW_callP rfl (hF := Truth_fn) (hk := ?_) | refine OW_callP rfl (hF := rW_fn (by with_reducible assumption) (by with_reducible assumption)) (hk := ?_)); try refine ⟨(by first | exact fun _ h => h | exact sub_mem (by repeat (first | exact .refl _ | exact List.nil_sublist _ | exact List.sublist_append_right _ _ | apply List.Sublist.cons_cons | apply List.Sublist.cons))), ?_⟩) | refine WL_nil ?_ | refine WR_nil ?_ | refine WC_seq ?_ | refine WC_block (id := 1) ?_ | refine WC_cond_t (ht := ?_) | refine WC_cond_f (he := ?_) | refine WC_skip ?_ | refine WC_ret ?_ | refine WC_exit ?_ | refine WC_draw_all (id := 1) 18 (.calm 0 <| .calm 1 <| .calm 3 <| .calm 4 <| .calm 7 <| .calm 8 <| .calm 11 <| .calm 12 <| .calm 13 <| .calm 14 <| .must 2 <| .must 5 <| .calm 6 <| .must 9 <| .calm 10 <| .must 15 <| .calm 16 <| .calm 17 <| .done) mixed (by kernel_rfl) ?_ | refine WC_region ?_)
  clear u0 u1
  rename_i xb
  rw [uw]
  obtain ⟨pre, hpre⟩ : ∃ pre, pre = enc (zz c0) ++ enc (zz c1) ++ encB c2 ++ enc ents.length := ⟨_, rfl⟩
  rw [← hpre]
  have hprel : pre.length ≤ 40 := by
    rw [uw] at fn
    rw [hpre, List.length_append, List.length_append, List.length_append]; omega
  refine WC_meet (fun σ => σ = ⟨[(3, .string (bstr (pre ++ ents.flatMap (encs entryF)))), (1, .pointer (some ⟨xb, 0, none⟩))], [], (xb, .cells cs 33 (0, 0)) :: L⟩) ?_ ?_
  · refine WC_block (WC_wk [(4, .int .i64 0), (3, .string (bstr pre)), (1, .pointer (some ⟨xb, 0, none⟩))] ⟨rfl, rfl, rfl, trivial⟩ ?_)
    refine WC_loop (fun m σ => ∃ (j : Nat) (acc : List UInt8), m = ents.length - j ∧ j ≤ ents.length ∧ acc = pre ++ (ents.take j).flatMap (encs entryF) ∧ σ = ⟨[(4, .int .i64 (j : Nat)), (3, .string (bstr acc)), (1, .pointer (some ⟨xb, 0, none⟩))], [], (xb, .cells cs 33 (0, 0)) :: L⟩) ents.length ⟨0, pre, by omega, by omega, by simp, rfl⟩ ?_
    rintro m σ ⟨j, acc, rfl, hj, hacc, rfl⟩
    by_cases hlt : j < ents.length
    · have d1 : decide (((j : Nat) : Int) < ((ents.length : Nat) : Int)) = true := decide_eq_true (by omega)
      obtain ⟨vs, hvs⟩ : ∃ vs, ents[j]? = some vs := ⟨_, List.getElem?_eq_getElem hlt⟩
      rcases he with he | ⟨be, eo, ie, ec, EE, ef, rfl, hRe, hat⟩
      · rw [he] at hlt; simp at hlt
      obtain ⟨hle, _⟩ := hat j vs hvs
      have hov := hb vs (List.mem_of_getElem? hvs)
      have hvl := hov.len
      have hvl' : vs.length = 10 := hvl
      have hle' : Lies ec (eo + ((j : Nat) : Int).toNat * 10) vs := hle
      have hfit : eo + ((j : Nat) : Int).toNat * 10 + 10 ≤ ec.size := by have := lies_size hle' (by omega); rwa [hvl'] at this
      have hzE := size_extract hfit
      have hlE := lies_extract hle' (n := 10) (by omega)
      have i1 : ((j : Nat) : Int) < ((ents.length : Nat) : Int) := by omega
      have i0 : 0 ≤ ((j : Nat) : Int) := by omega
      have hXe : ((xb, Obj.cells cs 33 (0, 0)) :: L)[ie + 1]? = some (be, .cells ec EE ef) := hRe
      have hal : acc.length ≤ 40 + 100 * j := by
        have h1 := encn_len (es := entryF) (vss := ents.take j) fun vs hv => hb vs (List.mem_of_mem_take hv)
        have h2 : (ents.take j).length = j := by rw [List.length_take]; omega
        rw [h2, show entryF.length = 10 from rfl] at h1
        rw [hacc, List.length_append]; omega
      have fx := encs_len hov
      rw [show entryF.length = 10 from rfl] at fx
      have hcat : acc.length + (encs entryF vs).length ≤ 4611686018427387904 := by omega
      have hw1 : IntKind.i64.wrap (((j : Nat) : Int) + 1) = ((j + 1 : Nat) : Int) := by rw [wI64 (by omega) (by omega)]; omega
      repeat (first | ((first | refine WL_Q ?_ | refine WR_Q rfl ?_ | refine WR_late rfl rfl rfl (OW_Q ?_)); (first | refine QW_a ?_)) | ((first | refine WL_op rfl ?_ | refine WR_late rfl rfl rfl ?_ | refine WR_opG rfl rfl ?_); (first | refine OW_box rfl (hk := fun _ => ?_) | refine OW_callP rfl (hF := Num_fn' (by with_reducible assumption) (by with_reducible assumption)) (hk := ?_) | refine OW_callP rfl (hF := Truth_fn) (hk := ?_) | refine OW_callP rfl (hF := rW_fn (by with_reducible assumption) (by with_reducible assumption)) (hk := ?_) | refine OW_callP rfl (hF := rEntry_fn hzE hov hlE) (hk := ?_)); try refine ⟨(by first | exact fun _ h => h | exact sub_mem (by repeat (first | exact .refl _ | exact List.nil_sublist _ | exact List.sublist_append_right _ _ | apply List.Sublist.cons_cons | apply List.Sublist.cons))), ?_⟩) | refine WL_nil ?_ | refine WR_nil ?_ | refine WC_seq ?_ | refine WC_block ?_ | refine WC_cond_t (ht := ?_) | refine WC_cond_f (he := ?_) | refine WC_skip ?_ | refine WC_ret ?_ | refine WC_exit ?_ | refine WC_draw_all (id := 1) 18 (.calm 0 <| .calm 1 <| .calm 3 <| .calm 4 <| .calm 7 <| .calm 8 <| .calm 11 <| .calm 12 <| .calm 13 <| .calm 14 <| .must 2 <| .must 5 <| .calm 6 <| .must 9 <| .calm 10 <| .must 15 <| .calm 16 <| .calm 17 <| .done) mixed (by kernel_rfl) ?_ | refine WC_region ?_)
      rw [hw1]
      refine ⟨_, _, by omega, ⟨j + 1, acc ++ encs entryF vs, rfl, by omega, ?_, rfl⟩, ⟨rfl, rfl, rfl, trivial⟩, rfl, .refl _⟩
      rw [hacc, List.take_add_one, hvs, List.flatMap_append]
      simp
    · have d1 : decide (((j : Nat) : Int) < ((ents.length : Nat) : Int)) = false := decide_eq_false (by omega)
      obtain rfl : j = ents.length := by omega
      rw [List.take_length] at hacc
      subst hacc
      repeat (first | ((first | refine WL_Q ?_ | refine WR_Q rfl ?_ | refine WR_late rfl rfl rfl (OW_Q ?_)); (first | refine QW_a ?_)) | ((first | refine WL_op rfl ?_ | refine WR_late rfl rfl rfl ?_ | refine WR_opG rfl rfl ?_); (first | refine OW_box rfl (hk := fun _ => ?_) | refine OW_callP rfl (hF := Num_fn' (by with_reducible assumption) (by with_reducible assumption)) (hk := ?_) | refine OW_callP rfl (hF := Truth_fn) (hk := ?_) | refine OW_callP rfl (hF := rW_fn (by with_reducible assumption) (by with_reducible assumption)) (hk := ?_) | refine OW_callP rfl (hF := rEntry_fn hzE hov hlE) (hk := ?_)); try refine ⟨(by first | exact fun _ h => h | exact sub_mem (by repeat (first | exact .refl _ | exact List.nil_sublist _ | exact List.sublist_append_right _ _ | apply List.Sublist.cons_cons | apply List.Sublist.cons))), ?_⟩) | refine WL_nil ?_ | refine WR_nil ?_ | refine WC_seq ?_ | refine WC_block ?_ | refine WC_cond_t (ht := ?_) | refine WC_cond_f (he := ?_) | refine WC_skip ?_ | refine WC_ret ?_ | refine WC_exit ?_ | refine WC_draw_all (id := 1) 18 (.calm 0 <| .calm 1 <| .calm 3 <| .calm 4 <| .calm 7 <| .calm 8 <| .calm 11 <| .calm 12 <| .calm 13 <| .calm 14 <| .must 2 <| .must 5 <| .calm 6 <| .must 9 <| .calm 10 <| .must 15 <| .calm 16 <| .calm 17 <| .done) mixed (by kernel_rfl) ?_ | refine WC_region ?_)
      exact ⟨_, rfl, ⟨rfl, rfl, trivial⟩, rfl, .refl _⟩
  rintro _ rfl
  repeat (first | ((first | refine WL_Q ?_ | refine WR_Q rfl ?_ | refine WR_late rfl rfl rfl (OW_Q ?_)); (first | refine QW_a ?_)) | ((first | refine WL_op rfl ?_ | refine WR_late rfl rfl rfl ?_ | refine WR_opG rfl rfl ?_); (first | refine OW_box rfl (hk := fun _ => ?_) | refine OW_callP rfl (hF := Num_fn' (by with_reducible assumption) (by with_reducible assumption)) (hk := ?_) | refine OW_callP rfl (hF := Truth_fn) (hk := ?_) | refine OW_callP rfl (hF := rW_fn (by with_reducible assumption) (by with_reducible assumption)) (hk := ?_) | refine OW_callP rfl (hF := rEntry_fn hzE hov hlE) (hk := ?_)); try refine ⟨(by first | exact fun _ h => h | exact sub_mem (by repeat (first | exact .refl _ | exact List.nil_sublist _ | exact List.sublist_append_right _ _ | apply List.Sublist.cons_cons | apply List.Sublist.cons))), ?_⟩) | refine WL_nil ?_ | refine WR_nil ?_ | refine WC_seq ?_ | refine WC_block ?_ | refine WC_cond_t (ht := ?_) | refine WC_cond_f (he := ?_) | refine WC_skip ?_ | refine WC_ret ?_ | refine WC_exit ?_ | refine WC_draw_all (id := 1) 18 (.calm 0 <| .calm 1 <| .calm 3 <| .calm 4 <| .calm 7 <| .calm 8 <| .calm 11 <| .calm 12 <| .calm 13 <| .calm 14 <| .must 2 <| .must 5 <| .calm 6 <| .must 9 <| .calm 10 <| .must 15 <| .calm 16 <| .calm 17 <| .done) mixed (by kernel_rfl) ?_ | refine WC_region ?_)
  refine ⟨rfl, _, _, Res1 rfl (resV_tmp rfl), .cons _ (.refl _), ?_, rfl⟩
  rw [hpre]
  simp [encChunk, encl, encs, Fk.enc]
set_option maxHeartbeats 4000000 in
theorem rMsg_fn {cs : Array Value} {L : List (Nat × Obj)} {a : Option Addr} {cap : Nat} {a' : Option Addr} {cap' : Nat} {m : MV} (hz : cs.size = 24) (hm : m.Ok) (hn : m.bins.length ≤ 1000000) (hn' : m.ents.length ≤ 1000000) (hl : Lies cs 0 (m.cells a cap a' cap')) (he : Elems L a 1 m.bins) (he' : Elems L a' 10 m.ents) :
    Fn Tryz.prog 12 [.agg cs] L (fun r L' => r = .string (bstr m.enc) ∧ L' = L) := by
  obtain ⟨g0, g1, g2, g3, g4, g5, g6⟩ := MV.cells_at hm hl
  simp only [Nat.zero_add] at g0 g1 g2 g3 g4 g5 g6
  obtain ⟨a0, b0⟩ := hm.kind
  obtain ⟨a1, b1⟩ := hm.ver
  obtain ⟨a2, b2⟩ := hm.time
  obtain ⟨a3, b3⟩ := hm.num
  have f0 := enc_len (zz_lt a0 b0)
  have f1 := enc_len (zz_lt a1 b1)
  have f2 := enc_len (zz_lt a2 b2)
  have f3 := enc_len (zz_lt a3 b3)
  have l1 := hm.rc.len
  have l2 := hm.ch.len
  have l3 := hm.ct.len
  have l4 := hm.kh.len
  simp only [List.length_cons, List.length_nil] at l1 l2 l3 l4
  have s2 : Lies (cs.extract 2 (2 + 6)) 0 m.rc := lies_extract g2 (by omega)
  have s5 : Lies (cs.extract 10 (10 + 10)) 0 (m.ch ++ (.slice a m.bins.length cap :: m.ct)) := lies_extract g5 (by simp only [List.length_append, List.length_cons]; omega)
  have s6 : Lies (cs.extract 20 (20 + 4)) 0 (m.kh ++ [.slice a' m.ents.length cap']) := lies_extract g6 (by simp only [List.length_append, List.length_cons, List.length_nil]; omega)
  have z5 : (cs.extract 10 (10 + 10)).size = 10 := size_extract (by omega)
  have hrc := hm.rc
  have hch := hm.ch
  have hct := hm.ct
  have hkh := hm.kh
  have hbi := hm.bins
  have hen := hm.ents
  have e2 := encs_len hrc
  simp only [List.length_cons, List.length_nil] at e2
  have e5 : (encCmd m.ch m.bins m.ct).length ≤ 200 + 10 * m.bins.length := by
    have h1 := encs_len hch
    have h2 := encl_len hbi hn
    have h3 := encs_len hct
    rw [show binF.length = 1 from rfl] at h2
    simp only [List.length_cons, List.length_nil] at h1 h3
    unfold encCmd
    rw [List.length_append, List.length_append]; omega
  have e6 : (encChunk m.kh m.ents).length ≤ 200 + 100 * m.ents.length := by
    have h1 := encs_len hkh
    have h2 := encl_len hen hn'
    rw [show entryF.length = 10 from rfl] at h2
    simp only [List.length_cons, List.length_nil] at h1
    unfold encChunk
    rw [List.length_append]; omega
  have he1 := fun q : Nat × Obj => he.mem (R' := q :: L) fun q' hq => List.mem_cons_of_mem _ hq
  have he2 := fun q : Nat × Obj => he'.mem (R' := q :: L) fun q' hq => List.mem_cons_of_mem _ hq
  refine Fn_enter Tryz.func12 rfl Tryz.ntmps12 rfl fun g => ?_
  by_cases hk : m.kind = 0
  · have hkk := hk
    have d0 : (m.kind == 0) = true := by simpa using hk
    repeat (first | ((first | refine WL_Q ?_ | refine WR_Q rfl ?_ | refine WR_late rfl rfl rfl (OW_Q ?_)); (first | refine QW_a ?_)) | ((first | refine WL_op rfl ?_ | refine WR_late rfl rfl rfl ?_ | refine WR_opG rfl rfl ?_); (first | refine OW_box rfl (hk := fun _ => ?_) | refine OW_callP rfl (hF := Int_fn (by with_reducible assumption) (by with_reducible assumption)) (hk := ?_) | refine OW_callP rfl (hF := rW_fn (by with_reducible assumption) (by with_reducible assumption)) (hk := ?_) | refine OW_callP rfl (hF := rRec_fn hrc s2) (hk := ?_) | refine OW_callP rfl (hF := rCmd_fn z5 hn hch hct hbi s5 (he1 _)) (hk := ?_) | refine OW_callP rfl (hF := rChunk_fn hn' hkh hen s6 (he2 _)) (hk := ?_)); try refine ⟨(by first | exact fun _ h => h | exact sub_mem (by repeat (first | exact .refl _ | exact List.nil_sublist _ | exact List.sublist_append_right _ _ | apply List.Sublist.cons_cons | apply List.Sublist.cons))), ?_⟩) | refine WL_nil ?_ | refine WR_nil ?_ | refine WC_seq ?_ | refine WC_block ?_ | refine WC_cond_t (ht := ?_) | refine WC_cond_f (he := ?_) | refine WC_skip ?_ | refine WC_ret ?_ | refine WC_exit ?_ | refine WC_draw_all (id := 1) 8 (.calm 0 <| .calm 1 <| .calm 3 <| .calm 4 <| .must 2 <| .must 5 <| .calm 6 <| .calm 7 <| .done) mixed (by kernel_rfl) ?_ | refine WC_region ?_)
    refine ⟨rfl, _, _, Res1 rfl (resV_tmp rfl), .cons _ (.refl _), ?_, rfl⟩
    unfold MV.enc MV.body
    rw [if_pos hk, List.append_assoc]
  by_cases hk : m.kind = 1
  · have hkk := hk
    have d0 : (m.kind == 0) = false := by simpa using (show ¬ m.kind = 0 by omega)
    have d1 : (m.kind == 1) = true := by simpa using hk
    repeat (first | ((first | refine WL_Q ?_ | refine WR_Q rfl ?_ | refine WR_late rfl rfl rfl (OW_Q ?_)); (first | refine QW_a ?_)) | ((first | refine WL_op rfl ?_ | refine WR_late rfl rfl rfl ?_ | refine WR_opG rfl rfl ?_); (first | refine OW_box rfl (hk := fun _ => ?_) | refine OW_callP rfl (hF := Int_fn (by with_reducible assumption) (by with_reducible assumption)) (hk := ?_) | refine OW_callP rfl (hF := rW_fn (by with_reducible assumption) (by with_reducible assumption)) (hk := ?_) | refine OW_callP rfl (hF := rRec_fn hrc s2) (hk := ?_) | refine OW_callP rfl (hF := rCmd_fn z5 hn hch hct hbi s5 (he1 _)) (hk := ?_) | refine OW_callP rfl (hF := rChunk_fn hn' hkh hen s6 (he2 _)) (hk := ?_)); try refine ⟨(by first | exact fun _ h => h | exact sub_mem (by repeat (first | exact .refl _ | exact List.nil_sublist _ | exact List.sublist_append_right _ _ | apply List.Sublist.cons_cons | apply List.Sublist.cons))), ?_⟩) | refine WL_nil ?_ | refine WR_nil ?_ | refine WC_seq ?_ | refine WC_block ?_ | refine WC_cond_t (ht := ?_) | refine WC_cond_f (he := ?_) | refine WC_skip ?_ | refine WC_ret ?_ | refine WC_exit ?_ | refine WC_draw_all (id := 1) 8 (.calm 0 <| .calm 1 <| .calm 3 <| .calm 4 <| .must 2 <| .must 5 <| .calm 6 <| .calm 7 <| .done) mixed (by kernel_rfl) ?_ | refine WC_region ?_)
    refine ⟨rfl, _, _, Res1 rfl (resV_tmp rfl), .cons _ (.refl _), ?_, rfl⟩
    unfold MV.enc MV.body
    rw [if_neg (by omega), if_pos hk, List.append_assoc]
  by_cases hk : m.kind = 2
  · have hkk := hk
    have d0 : (m.kind == 0) = false := by simpa using (show ¬ m.kind = 0 by omega)
    have d1 : (m.kind == 1) = false := by simpa using (show ¬ m.kind = 1 by omega)
    have d2 : (m.kind == 2) = true := by simpa using hk
    repeat (first | ((first | refine WL_Q ?_ | refine WR_Q rfl ?_ | refine WR_late rfl rfl rfl (OW_Q ?_)); (first | refine QW_a ?_)) | ((first | refine WL_op rfl ?_ | refine WR_late rfl rfl rfl ?_ | refine WR_opG rfl rfl ?_); (first | refine OW_box rfl (hk := fun _ => ?_) | refine OW_callP rfl (hF := Int_fn (by with_reducible assumption) (by with_reducible assumption)) (hk := ?_) | refine OW_callP rfl (hF := rW_fn (by with_reducible assumption) (by with_reducible assumption)) (hk := ?_) | refine OW_callP rfl (hF := rRec_fn hrc s2) (hk := ?_) | refine OW_callP rfl (hF := rCmd_fn z5 hn hch hct hbi s5 (he1 _)) (hk := ?_) | refine OW_callP rfl (hF := rChunk_fn hn' hkh hen s6 (he2 _)) (hk := ?_)); try refine ⟨(by first | exact fun _ h => h | exact sub_mem (by repeat (first | exact .refl _ | exact List.nil_sublist _ | exact List.sublist_append_right _ _ | apply List.Sublist.cons_cons | apply List.Sublist.cons))), ?_⟩) | refine WL_nil ?_ | refine WR_nil ?_ | refine WC_seq ?_ | refine WC_block ?_ | refine WC_cond_t (ht := ?_) | refine WC_cond_f (he := ?_) | refine WC_skip ?_ | refine WC_ret ?_ | refine WC_exit ?_ | refine WC_draw_all (id := 1) 8 (.calm 0 <| .calm 1 <| .calm 3 <| .calm 4 <| .must 2 <| .must 5 <| .calm 6 <| .calm 7 <| .done) mixed (by kernel_rfl) ?_ | refine WC_region ?_)
    refine ⟨rfl, _, _, Res1 rfl (resV_tmp rfl), .cons _ (.refl _), ?_, rfl⟩
    unfold MV.enc MV.body
    rw [if_neg (by omega), if_neg (by omega), if_pos hk, List.append_assoc]
  by_cases hk : m.kind = 3
  · have hkk := hk
    have d0 : (m.kind == 0) = false := by simpa using (show ¬ m.kind = 0 by omega)
    have d1 : (m.kind == 1) = false := by simpa using (show ¬ m.kind = 1 by omega)
    have d2 : (m.kind == 2) = false := by simpa using (show ¬ m.kind = 2 by omega)
    have d3 : (m.kind == 3) = true := by simpa using hk
    repeat (first | ((first | refine WL_Q ?_ | refine WR_Q rfl ?_ | refine WR_late rfl rfl rfl (OW_Q ?_)); (first | refine QW_a ?_)) | ((first | refine WL_op rfl ?_ | refine WR_late rfl rfl rfl ?_ | refine WR_opG rfl rfl ?_); (first | refine OW_box rfl (hk := fun _ => ?_) | refine OW_callP rfl (hF := Int_fn (by with_reducible assumption) (by with_reducible assumption)) (hk := ?_) | refine OW_callP rfl (hF := rW_fn (by with_reducible assumption) (by with_reducible assumption)) (hk := ?_) | refine OW_callP rfl (hF := rRec_fn hrc s2) (hk := ?_) | refine OW_callP rfl (hF := rCmd_fn z5 hn hch hct hbi s5 (he1 _)) (hk := ?_) | refine OW_callP rfl (hF := rChunk_fn hn' hkh hen s6 (he2 _)) (hk := ?_)); try refine ⟨(by first | exact fun _ h => h | exact sub_mem (by repeat (first | exact .refl _ | exact List.nil_sublist _ | exact List.sublist_append_right _ _ | apply List.Sublist.cons_cons | apply List.Sublist.cons))), ?_⟩) | refine WL_nil ?_ | refine WR_nil ?_ | refine WC_seq ?_ | refine WC_block ?_ | refine WC_cond_t (ht := ?_) | refine WC_cond_f (he := ?_) | refine WC_skip ?_ | refine WC_ret ?_ | refine WC_exit ?_ | refine WC_draw_all (id := 1) 8 (.calm 0 <| .calm 1 <| .calm 3 <| .calm 4 <| .must 2 <| .must 5 <| .calm 6 <| .calm 7 <| .done) mixed (by kernel_rfl) ?_ | refine WC_region ?_)
    refine ⟨rfl, _, _, Res1 rfl (resV_tmp rfl), .cons _ (.refl _), ?_, rfl⟩
    unfold MV.enc MV.body
    rw [if_neg (by omega), if_neg (by omega), if_neg (by omega), if_pos hk, List.append_assoc]
  by_cases hk : m.kind = 4
  · have hkk := hk
    have d0 : (m.kind == 0) = false := by simpa using (show ¬ m.kind = 0 by omega)
    have d1 : (m.kind == 1) = false := by simpa using (show ¬ m.kind = 1 by omega)
    have d2 : (m.kind == 2) = false := by simpa using (show ¬ m.kind = 2 by omega)
    have d3 : (m.kind == 3) = false := by simpa using (show ¬ m.kind = 3 by omega)
    have d4 : (m.kind == 4) = true := by simpa using hk
    repeat (first | ((first | refine WL_Q ?_ | refine WR_Q rfl ?_ | refine WR_late rfl rfl rfl (OW_Q ?_)); (first | refine QW_a ?_)) | ((first | refine WL_op rfl ?_ | refine WR_late rfl rfl rfl ?_ | refine WR_opG rfl rfl ?_); (first | refine OW_box rfl (hk := fun _ => ?_) | refine OW_callP rfl (hF := Int_fn (by with_reducible assumption) (by with_reducible assumption)) (hk := ?_) | refine OW_callP rfl (hF := rW_fn (by with_reducible assumption) (by with_reducible assumption)) (hk := ?_) | refine OW_callP rfl (hF := rRec_fn hrc s2) (hk := ?_) | refine OW_callP rfl (hF := rCmd_fn z5 hn hch hct hbi s5 (he1 _)) (hk := ?_) | refine OW_callP rfl (hF := rChunk_fn hn' hkh hen s6 (he2 _)) (hk := ?_)); try refine ⟨(by first | exact fun _ h => h | exact sub_mem (by repeat (first | exact .refl _ | exact List.nil_sublist _ | exact List.sublist_append_right _ _ | apply List.Sublist.cons_cons | apply List.Sublist.cons))), ?_⟩) | refine WL_nil ?_ | refine WR_nil ?_ | refine WC_seq ?_ | refine WC_block ?_ | refine WC_cond_t (ht := ?_) | refine WC_cond_f (he := ?_) | refine WC_skip ?_ | refine WC_ret ?_ | refine WC_exit ?_ | refine WC_draw_all (id := 1) 8 (.calm 0 <| .calm 1 <| .calm 3 <| .calm 4 <| .must 2 <| .must 5 <| .calm 6 <| .calm 7 <| .done) mixed (by kernel_rfl) ?_ | refine WC_region ?_)
    refine ⟨rfl, _, _, Res1 rfl (resV_tmp rfl), .cons _ (.refl _), ?_, rfl⟩
    unfold MV.enc MV.body
    rw [if_neg (by omega), if_neg (by omega), if_neg (by omega), if_neg (by omega), if_pos hk, List.append_assoc]
  have d0 : (m.kind == 0) = false := by simpa using (show ¬ m.kind = 0 by omega)
  have d1 : (m.kind == 1) = false := by simpa using (show ¬ m.kind = 1 by omega)
  have d2 : (m.kind == 2) = false := by simpa using (show ¬ m.kind = 2 by omega)
  have d3 : (m.kind == 3) = false := by simpa using (show ¬ m.kind = 3 by omega)
  have d4 : (m.kind == 4) = false := by simpa using (show ¬ m.kind = 4 by omega)
  repeat (first | ((first | refine WL_Q ?_ | refine WR_Q rfl ?_ | refine WR_late rfl rfl rfl (OW_Q ?_)); (first | refine QW_a ?_)) | ((first | refine WL_op rfl ?_ | refine WR_late rfl rfl rfl ?_ | refine WR_opG rfl rfl ?_); (first | refine OW_box rfl (hk := fun _ => ?_) | refine OW_callP rfl (hF := Int_fn (by with_reducible assumption) (by with_reducible assumption)) (hk := ?_) | refine OW_callP rfl (hF := rW_fn (by with_reducible assumption) (by with_reducible assumption)) (hk := ?_) | refine OW_callP rfl (hF := rRec_fn hrc s2) (hk := ?_) | refine OW_callP rfl (hF := rCmd_fn z5 hn hch hct hbi s5 (he1 _)) (hk := ?_) | refine OW_callP rfl (hF := rChunk_fn hn' hkh hen s6 (he2 _)) (hk := ?_)); try refine ⟨(by first | exact fun _ h => h | exact sub_mem (by repeat (first | exact .refl _ | exact List.nil_sublist _ | exact List.sublist_append_right _ _ | apply List.Sublist.cons_cons | apply List.Sublist.cons))), ?_⟩) | refine WL_nil ?_ | refine WR_nil ?_ | refine WC_seq ?_ | refine WC_block ?_ | refine WC_cond_t (ht := ?_) | refine WC_cond_f (he := ?_) | refine WC_skip ?_ | refine WC_ret ?_ | refine WC_exit ?_ | refine WC_draw_all (id := 1) 8 (.calm 0 <| .calm 1 <| .calm 3 <| .calm 4 <| .must 2 <| .must 5 <| .calm 6 <| .calm 7 <| .done) mixed (by kernel_rfl) ?_ | refine WC_region ?_)
  refine ⟨rfl, _, _, Res1 rfl (resV_tmp rfl), .cons _ (.refl _), ?_, rfl⟩
  unfold MV.enc MV.body
  rw [if_neg (by omega), if_neg (by omega), if_neg (by omega), if_neg (by omega), if_neg (by omega), List.append_nil]
end Go.Proofs.YtakedlockchpcaaGreatDoor
namespace Go.Proofs.YtakedlockchpcaaGreatDoor
open Go.RowKit
attribute [local irreducible] Fn WC WL WR OW Qt YieldFn QW FnP FnD FnE
theorem WC_draw_fast {c : Cx} {ops : Array Oper} {K : Exit → St → Prop} {σ : St} {id : Nat} (m : Nat) (p : Plan) (hm : c.P.follows .mixedOrders = true) (hok : (Region.noSelect ops && lateOk ops m && fastOk ops m p) = true) (h : WR c ops K σ.L m p σ) : WC c (.region id ops true) K σ := by
  simp only [Bool.and_eq_true] at hok
  exact WC_draw_all m p hm (by simp only [Bool.and_eq_true]; exact ⟨hok.1, fastOk_ok hok.2⟩) h
theorem ok_one {k : Fk} {v : Value} (h : k.ok v) : v.oneCell' = true := by
  cases k with
  | ww => obtain ⟨x, rfl, _⟩ := h; rfl
  | nn => obtain ⟨x, rfl, _⟩ := h; rfl
  | kk => obtain ⟨x, rfl, _⟩ := h; rfl
  | tt => obtain ⟨x, rfl⟩ := h; rfl
  | bb => obtain ⟨x, rfl⟩ := h; rfl
theorem oks_one : ∀ {fs : List Fk} {vs : List Value}, Oks fs vs → ∀ v ∈ vs, v.oneCell' = true
  | [], [], _, v, hv => by cases hv
  | _ :: _, _ :: _, h, v, hv => by
    rcases List.mem_cons.1 hv with rfl | hv
    · exact ok_one h.1
    · exact oks_one h.2 v hv
  | [], _ :: _, h, _, _ => h.elim
  | _ :: _, [], h, _, _ => h.elim
theorem Oks.cut : ∀ {fs : List Fk} {vs : List Value}, Oks fs vs → ∀ (a n : Nat), Oks ((fs.drop a).take n) ((vs.drop a).take n)
  | [], [], _, a, n => by simp [Oks]
  | _ :: fs, _ :: vs, h, 0, 0 => trivial
  | _ :: fs, _ :: vs, h, 0, n + 1 => ⟨h.1, Oks.cut h.2 0 n⟩
  | _ :: fs, _ :: vs, h, a + 1, n => Oks.cut h.2 a n
  | [], _ :: _, h, _, _ => h.elim
  | _ :: _, [], h, _, _ => h.elim
theorem lies_whole {cs : Array Value} {vs : List Value} (hl : Lies cs 0 vs) (hz : cs.size = vs.length) : cs = vs.toArray := by
  apply Array.ext_getElem?
  intro j
  by_cases h : j < vs.length
  · have := hl j _ (List.getElem?_eq_getElem h)
    rw [Nat.zero_add] at this
    rw [this]; simp [h]
  · rw [Array.getElem?_eq_none (by omega), Array.getElem?_eq_none (by simp; omega)]
theorem lies_app {cs : Array Value} {off : Nat} {vs us : List Value} (h1 : Lies cs off vs) (h2 : Lies cs (off + vs.length) us) : Lies cs off (vs ++ us) := fun j v hj => by
  by_cases h : j < vs.length
  · rw [List.getElem?_append_left h] at hj; exact h1 j v hj
  · rw [List.getElem?_append_right (by omega)] at hj
    have := h2 _ v hj
    rwa [show off + vs.length + (j - vs.length) = off + j by omega] at this
theorem lies_set_out {cs : Array Value} {a p : Nat} {vs : List Value} (h : Lies cs a vs) (v : Value) (hp : p < a ∨ a + vs.length ≤ p) : Lies (cs.setIfInBounds p v) a vs := fun j u hj => by
  have := (List.getElem?_eq_some_iff.1 hj).1
  rw [Array.getElem?_setIfInBounds_ne (by omega)]
  exact h j u hj
theorem lies_set_in {cs : Array Value} {a p : Nat} {us ws : List Value} {v : Value} (h : Lies cs a (us ++ v :: ws)) (v' : Value) (hp : p = a + us.length) : Lies (cs.setIfInBounds p v') a (us ++ v' :: ws) := fun j u hj => by
  subst hp
  by_cases e : j = us.length
  · subst e
    rw [List.getElem?_append_right (by omega), Nat.sub_self] at hj
    simp only [List.getElem?_cons_zero, Option.some.injEq] at hj
    subst hj
    have h1 := h us.length v (by rw [List.getElem?_append_right (by omega), Nat.sub_self]; rfl)
    rw [Array.getElem?_setIfInBounds_self_of_lt (Array.getElem?_eq_some_iff.1 h1).1]
  · rw [Array.getElem?_setIfInBounds_ne (by omega)]
    refine h j u ?_
    by_cases hlt : j < us.length
    · rwa [List.getElem?_append_left hlt] at hj ⊢
    · rw [List.getElem?_append_right (by omega)] at hj ⊢
      obtain ⟨q, hq⟩ : ∃ q, j - us.length = q + 1 := ⟨j - us.length - 1, by omega⟩
      rw [hq] at hj ⊢
      simpa using hj
theorem MV.cells_len {m : MV} (h : m.Ok) (a : Option Addr) (cap : Nat) (a' : Option Addr) (cap' : Nat) : (m.cells a cap a' cap').length = 24 := by
  have l1 := h.rc.len
  have l2 := h.ch.len
  have l3 := h.ct.len
  have l4 := h.kh.len
  simp only [List.length_cons, List.length_nil] at l1 l2 l3 l4
  unfold MV.cells
  simp only [List.length_append, List.length_cons, List.length_nil]
  omega
theorem MV.cells_mk {m : MV} (h : m.Ok) {cs : Array Value} {a : Option Addr} {cap : Nat} {a' : Option Addr} {cap' : Nat} (g0 : cs[0]? = some (.int .i64 m.kind)) (g1 : cs[1]? = some (.int .i64 m.ver)) (g2 : Lies cs 2 m.rc) (g3 : cs[8]? = some (.int .i64 m.time)) (g4 : cs[9]? = some (.int .i64 m.num)) (g5 : Lies cs 10 (m.ch ++ (.slice a m.bins.length cap :: m.ct))) (g6 : Lies cs 20 (m.kh ++ [.slice a' m.ents.length cap'])) : Lies cs 0 (m.cells a cap a' cap') := by
  have l1 := h.rc.len
  have l2 := h.ch.len
  have l3 := h.ct.len
  simp only [List.length_cons, List.length_nil] at l1 l2 l3
  have two : ∀ {off : Nat} {u v : Value}, cs[off]? = some u → cs[off + 1]? = some v → Lies cs off [u, v] := fun h1 h2 => lies_app (one_lies h1) (one_lies h2)
  refine lies_app (two g0 g1) (lies_app g2 (lies_app ?_ (lies_app ?_ ?_)))
  · simp only [List.length_cons, List.length_nil, l1]; exact two g3 g4
  · simp only [List.length_cons, List.length_nil, l1]; exact g5
  · simp only [List.length_append, List.length_cons, List.length_nil, l1, l2, l3]; exact g6
theorem MV.all_one {m : MV} (h : m.Ok) {cs : Array Value} {a : Option Addr} {cap : Nat} {a' : Option Addr} {cap' : Nat} (hz : cs.size = 24) (hl : Lies cs 0 (m.cells a cap a' cap')) : (cs.toList.all fun v => v.oneCell') = true := by
  rw [lies_whole hl (by rw [MV.cells_len h]; exact hz), List.all_eq_true]
  intro v hv
  have hv : v ∈ m.cells a cap a' cap' := by simpa using hv
  unfold MV.cells at hv
  simp only [List.mem_append, List.mem_cons, List.not_mem_nil, or_false] at hv
  rcases hv with (rfl | rfl) | hv | (rfl | rfl) | (hv | rfl | hv) | hv | rfl
  · rfl
  · rfl
  · exact oks_one h.rc v hv
  · rfl
  · rfl
  · exact oks_one h.ch v hv
  · rfl
  · exact oks_one h.ct v hv
  · exact oks_one h.kh v hv
  · rfl
def MV.few (m : MV) (n n' : Nat) : MV := { m with bins := m.bins.take n, ents := m.ents.take n' }
theorem MV.few_ok {m : MV} (h : m.Ok) (n n' : Nat) : (m.few n n').Ok := ⟨h.kind, h.ver, h.rc, h.time, h.num, h.ch, fun vs hv => h.bins vs (List.mem_of_mem_take hv), h.ct, h.kh, fun vs hv => h.ents vs (List.mem_of_mem_take hv)⟩
theorem Elems.take {R : List (Nat × Obj)} {a : Option Addr} {n : Nat} {vss : List (List Value)} (h : Elems R a n vss) (k : Nat) : Elems R a n (vss.take k) := by
  rcases h with h | ⟨be, eo, ie, ec, EE, ef, h1, h2, h3⟩
  · left; rw [h]; simp
  · refine .inr ⟨be, eo, ie, ec, EE, ef, h1, h2, fun j vs hj => h3 j vs ?_⟩
    rw [List.getElem?_take] at hj
    split at hj
    · exact hj
    · cases hj
theorem Elems.cons {R : List (Nat × Obj)} {a : Option Addr} {n : Nat} {vss : List (List Value)} (p : Nat × Obj) (h : Elems R a n vss) : Elems (p :: R) a n vss := h.mem fun _ hq => List.mem_cons_of_mem _ hq
structure MsgAt (L : List (Nat × Obj)) (cs : Array Value) (m : MV) (a : Option Addr) (cap : Nat) (a' : Option Addr) (cap' : Nat) : Prop where
  ok : m.Ok
  size : cs.size = 24
  lies : Lies cs 0 (m.cells a cap a' cap')
  bins : Elems L a 1 m.bins
  ents : Elems L a' 10 m.ents
  c1 : m.bins.length ≤ cap
  c2 : m.ents.length ≤ cap'
  m1 : cap ≤ maxLen
  m2 : cap' ≤ maxLen
theorem MsgAt.cons {L : List (Nat × Obj)} {cs : Array Value} {m : MV} {a : Option Addr} {cap : Nat} {a' : Option Addr} {cap' : Nat} (p : Nat × Obj) (h : MsgAt L cs m a cap a' cap') : MsgAt (p :: L) cs m a cap a' cap' := ⟨h.ok, h.size, h.lies, h.bins.cons p, h.ents.cons p, h.c1, h.c2, h.m1, h.m2⟩
theorem MsgAt.kind {L : List (Nat × Obj)} {cs : Array Value} {m : MV} {a : Option Addr} {cap : Nat} {a' : Option Addr} {cap' : Nat} (h : MsgAt L cs m a cap a' cap') {k : Int} (hk : i64r k) : MsgAt L (cs.setIfInBounds 0 (.int .i64 k)) { m with kind := k } a cap a' cap' := by
  obtain ⟨g0, g1, g2, g3, g4, g5, g6⟩ := MV.cells_at h.ok h.lies
  simp only [Nat.zero_add] at g0 g1 g2 g3 g4 g5 g6
  have ho : ({ m with kind := k } : MV).Ok := ⟨hk, h.ok.ver, h.ok.rc, h.ok.time, h.ok.num, h.ok.ch, h.ok.bins, h.ok.ct, h.ok.kh, h.ok.ents⟩
  have hz := h.size
  refine ⟨ho, by simpa using hz, MV.cells_mk ho ?_ ?_ (lies_set_out g2 _ (.inl (by omega))) ?_ ?_ (lies_set_out g5 _ (.inl (by omega))) (lies_set_out g6 _ (.inl (by omega))), h.bins, h.ents, h.c1, h.c2, h.m1, h.m2⟩
  · rw [Array.getElem?_setIfInBounds_self_of_lt (by omega)]
  · rw [Array.getElem?_setIfInBounds_ne (by omega)]; exact g1
  · rw [Array.getElem?_setIfInBounds_ne (by omega)]; exact g3
  · rw [Array.getElem?_setIfInBounds_ne (by omega)]; exact g4
theorem min_take {α : Type} (l : List α) {n : Int} (h : 0 ≤ n) : (if n < ((l.length : Nat) : Int) then n else ((l.length : Nat) : Int)).toNat = (l.take n.toNat).length := by
  rw [List.length_take]; split <;> omega
theorem MsgAt.few {L : List (Nat × Obj)} {cs : Array Value} {m : MV} {a : Option Addr} {cap : Nat} {a' : Option Addr} {cap' : Nat} (h : MsgAt L cs m a cap a' cap') (n n' : Nat) : MsgAt L ((cs.setIfInBounds 12 (.slice a (m.bins.take n).length cap)).setIfInBounds 23 (.slice a' (m.ents.take n').length cap')) (m.few n n') a cap a' cap' := by
  obtain ⟨g0, g1, g2, g3, g4, g5, g6⟩ := MV.cells_at h.ok h.lies
  simp only [Nat.zero_add] at g0 g1 g2 g3 g4 g5 g6
  have l1 := h.ok.rc.len
  have l2 := h.ok.ch.len
  have l3 := h.ok.ct.len
  have l4 := h.ok.kh.len
  simp only [List.length_cons, List.length_nil] at l1 l2 l3 l4
  have hz := h.size
  have one : ∀ {j : Nat} {v : Value} (u w : Value), cs[j]? = some v → j ≠ 12 → j ≠ 23 → ((cs.setIfInBounds 12 u).setIfInBounds 23 w)[j]? = some v := fun u w hj h1 h2 => by
    rw [Array.getElem?_setIfInBounds_ne (by omega), Array.getElem?_setIfInBounds_ne (by omega)]; exact hj
  refine ⟨MV.few_ok h.ok n n', by simpa using hz, MV.cells_mk (MV.few_ok h.ok n n') (one _ _ g0 (by omega) (by omega)) (one _ _ g1 (by omega) (by omega)) (lies_set_out (lies_set_out g2 _ (.inr ?_)) _ (.inr ?_)) (one _ _ g3 (by omega) (by omega)) (one _ _ g4 (by omega) (by omega)) (lies_set_out (lies_set_in g5 _ ?_) _ (.inr ?_)) (lies_set_in (lies_set_out g6 _ (.inl (by omega))) _ ?_), h.bins.take n, h.ents.take n', ?_, ?_, h.m1, h.m2⟩
  · omega
  · omega
  · omega
  · simp only [List.length_append, List.length_cons]; omega
  · omega
  · show (m.bins.take n).length ≤ cap
    rw [List.length_take]; have := h.c1; omega
  · show (m.ents.take n').length ≤ cap'
    rw [List.length_take]; have := h.c2; omega
set_option maxHeartbeats 2000000 in
theorem few_fn {L0 : List (Nat × Obj)} {cs : Array Value} {m : MV} {a : Option Addr} {cap : Nat} {a' : Option Addr} {cap' : Nat} (h : MsgAt L0 cs m a cap a' cap') (L : List (Nat × Obj)) : Fn Tryz.prog 10 [.agg cs] L (fun v L' => ∃ cs', v = .agg cs' ∧ L' = L ∧ MsgAt L0 cs' (m.few 12 70) a cap a' cap') := by
  obtain ⟨g0, g1, g2, g3, g4, g5, g6⟩ := MV.cells_at h.ok h.lies
  simp only [Nat.zero_add] at g0 g1 g2 g3 g4 g5 g6
  have l2 := h.ok.ch.len
  have l4 := h.ok.kh.len
  simp only [List.length_cons, List.length_nil] at l2 l4
  have hz := h.size
  have h1 := h.c1; have h2 := h.c2; have h3 := h.m1; have h4 := h.m2
  have s1 : cs[12]? = some (.slice a m.bins.length cap) := by
    have := g5 2 (.slice a m.bins.length cap) (by rw [List.getElem?_append_right (by omega), l2]; rfl)
    exact this
  have s2 : ∀ v : Value, (cs.setIfInBounds 12 v)[23]? = some (.slice a' m.ents.length cap') := fun v => by
    rw [Array.getElem?_setIfInBounds_ne (by omega)]
    exact g6 3 (.slice a' m.ents.length cap') (by rw [List.getElem?_append_right (by omega), l4]; rfl)
  have s3 := s2 (.slice a (m.bins.take 12).length cap)
  have e1 := min_take m.bins (n := 12) (by omega)
  have e2 := min_take m.ents (n := 70) (by omega)
  have hF := h.few 12 70
  refine Fn_enter Tryz.func10 rfl Tryz.ntmps10 rfl fun g => ?_
  repeat (first | ((first | refine WL_Q ?_); (first | refine QW_a ?_)) | ((first | refine WL_op rfl ?_); (first | refine OW_st1 rfl ?_ | refine OW_box rfl (hk := fun _ => ?_) | refine OW_alloc rfl (hk := fun _ => ?_) | refine OW_stA rfl ?_ | refine OW_stN rfl ?_)) | refine WL_nil ?_ | refine WC_seq ?_ | refine WC_block ?_ | refine WC_cond_t (ht := ?_) | refine WC_cond_f (he := ?_) | refine WC_skip ?_ | refine WC_ret ?_ | refine WC_exit ?_ | refine WC_region (id := 0) ?_ | refine WC_region (id := 1) ?_ | refine WC_region (id := 3) ?_)
  rw [e1]
  repeat (first | ((first | refine WL_Q ?_); (first | refine QW_a ?_)) | ((first | refine WL_op rfl ?_); (first | refine OW_st1 rfl ?_ | refine OW_box rfl (hk := fun _ => ?_) | refine OW_alloc rfl (hk := fun _ => ?_) | refine OW_stA rfl ?_ | refine OW_stN rfl ?_)) | refine WL_nil ?_ | refine WC_seq ?_ | refine WC_block ?_ | refine WC_cond_t (ht := ?_) | refine WC_cond_f (he := ?_) | refine WC_skip ?_ | refine WC_ret ?_ | refine WC_exit ?_ | refine WC_region (id := 0) ?_ | refine WC_region (id := 1) ?_ | refine WC_region (id := 2) ?_)
  rw [e2]
  show WC _ _ _ ⟨_, [], (_, _) :: (_, Obj.cells ((cs.setIfInBounds 12 (.slice a (m.bins.take 12).length cap)).setIfInBounds 23 (.slice a' (m.ents.take 70).length cap')) 35 (0, 0)) :: L⟩
  generalize (cs.setIfInBounds 12 (.slice a (m.bins.take 12).length cap)).setIfInBounds 23 (.slice a' (m.ents.take 70).length cap') = cs2 at hF
  have hz2 := hF.size
  have hone := MV.all_one hF.ok hz2 hF.lies
  repeat (first | ((first | refine WL_Q ?_); (first | refine QW_a ?_)) | ((first | refine WL_op rfl ?_); (first | refine OW_st1 rfl ?_ | refine OW_box rfl (hk := fun _ => ?_) | refine OW_alloc rfl (hk := fun _ => ?_) | refine OW_stA rfl ?_ | refine OW_stN rfl ?_)) | refine WL_nil ?_ | refine WC_seq ?_ | refine WC_block ?_ | refine WC_cond_t (ht := ?_) | refine WC_cond_f (he := ?_) | refine WC_skip ?_ | refine WC_ret ?_ | refine WC_exit ?_ | refine WC_region ?_)
  exact ⟨rfl, _, _, Res1 rfl (resV_cellN rfl 0 rfl hz2), .cons _ (.cons _ (.refl _)), cs2, rfl, rfl, hF⟩
theorem PMsg_at {L : List (Nat × Obj)} {v : Value} {bs : List UInt8} {cs : Array Value} {m : MV} {a : Option Addr} {cap : Nat} {a' : Option Addr} {cap' : Nat} (h : MsgAt L cs m a cap a' cap') (hb : ByAt L v bs) (hn : m.bins.length ≤ 1000000) (hn' : m.ents.length ≤ 100000) (hroom : bs.length ≤ 900000000) : Fn Tryz.prog 11 [v, .agg cs] L (fun r L' => LaidAt r L L' (bs ++ m.enc)) :=
  PMsg_fn hb h.size h.ok hn hn' h.lies h.bins h.ents hroom
theorem rMsg_at {L : List (Nat × Obj)} {cs : Array Value} {m : MV} {a : Option Addr} {cap : Nat} {a' : Option Addr} {cap' : Nat} (h : MsgAt L cs m a cap a' cap') (hn : m.bins.length ≤ 1000000) (hn' : m.ents.length ≤ 1000000) : Fn Tryz.prog 12 [.agg cs] L (fun r L' => r = .string (bstr m.enc) ∧ L' = L) :=
  rMsg_fn h.size h.ok hn hn' h.lies h.bins h.ents
theorem MV.enc_len {m : MV} (hm : m.Ok) (hn : m.bins.length ≤ 100000) (hn' : m.ents.length ≤ 100000) : m.enc.length ≤ 100000000 := by
  have f0 := Go.Proofs.YtakedlockchpcaaGreatDoor.enc_len (zz_lt hm.kind.1 hm.kind.2)
  have f1 := Go.Proofs.YtakedlockchpcaaGreatDoor.enc_len (zz_lt hm.ver.1 hm.ver.2)
  have f2 := Go.Proofs.YtakedlockchpcaaGreatDoor.enc_len (zz_lt hm.time.1 hm.time.2)
  have f3 := Go.Proofs.YtakedlockchpcaaGreatDoor.enc_len (zz_lt hm.num.1 hm.num.2)
  have e2 := encs_len hm.rc
  have h1 := encs_len hm.ch
  have h2 := encl_len hm.bins (by omega)
  have h3 := encs_len hm.ct
  have h4 := encs_len hm.kh
  have h5 := encl_len hm.ents (by omega)
  rw [show binF.length = 1 from rfl] at h2
  rw [show entryF.length = 10 from rfl] at h5
  simp only [List.length_cons, List.length_nil] at e2 h1 h3 h4
  have hb : m.body.length ≤ 50000000 := by
    unfold MV.body
    split
    · omega
    · split
      · omega
      · split
        · omega
        · split
          · unfold encCmd; rw [List.length_append, List.length_append]; omega
          · split
            · unfold encChunk; rw [List.length_append]; omega
            · simp
  unfold MV.enc
  rw [List.length_append, List.length_append]; omega
end Go.Proofs.YtakedlockchpcaaGreatDoor
namespace Go.Proofs.YtakedlockchpcaaGreatDoor
open Go.RowKit
namespace W03
noncomputable def xf11 : XF := ⟨Tryz.f11, (Tryz.f11.body).getD .skip, T.ofList [], 27⟩
theorem xf11_ok : GoodF Tryz.prog 11 xf11 := ⟨Tryz.func11, by kernel_rfl, inferInstance, by kernel_rfl⟩
noncomputable def xf15 : XF := ⟨Tryz.f15, (Tryz.f15.body).getD .skip, T.ofList [], 27⟩
theorem xf15_ok : GoodF Tryz.prog 15 xf15 := ⟨Tryz.func15, by kernel_rfl, inferInstance, by kernel_rfl⟩
noncomputable def xf23 : XF := ⟨Tryz.f23, (Tryz.f23.body).getD .skip, T.ofList [], 27⟩
theorem xf23_ok : GoodF Tryz.prog 23 xf23 := ⟨Tryz.func23, by kernel_rfl, inferInstance, by kernel_rfl⟩
noncomputable def xf25 : XF := ⟨Tryz.f25, (Tryz.f25.body).getD .skip, T.ofList [], 27⟩
theorem xf25_ok : GoodF Tryz.prog 25 xf25 := ⟨Tryz.func25, by kernel_rfl, inferInstance, by kernel_rfl⟩
noncomputable def xf27 : XF := ⟨Tryz.f27, (Tryz.f27.body).getD .skip, T.ofList [], 767⟩
theorem xf27_ok : GoodF Tryz.prog 27 xf27 := ⟨Tryz.func27, by kernel_rfl, inferInstance, by kernel_rfl⟩
noncomputable def xf29 : XF := ⟨Tryz.f29, (Tryz.f29.body).getD .skip, T.ofList [], 5⟩
theorem xf29_ok : GoodF Tryz.prog 29 xf29 := ⟨Tryz.func29, by kernel_rfl, inferInstance, by kernel_rfl⟩
noncomputable def xf31 : XF := ⟨Tryz.f31, (Tryz.f31.body).getD .skip, T.ofList [], 21⟩
theorem xf31_ok : GoodF Tryz.prog 31 xf31 := ⟨Tryz.func31, by kernel_rfl, inferInstance, by kernel_rfl⟩
noncomputable def xf46 : XF := ⟨Tryz.f46, (Tryz.f46.body).getD .skip, T.ofList [], 215⟩
theorem xf46_ok : GoodF Tryz.prog 46 xf46 := ⟨Tryz.func46, by kernel_rfl, inferInstance, by kernel_rfl⟩
noncomputable def xf47 : XF := ⟨Tryz.f47, (Tryz.f47.body).getD .skip, T.ofList [(2, (17, .calm 0 <| .calm 1 <| .calm 2 <| .calm 3 <| .calm 4 <| .calm 5 <| .calm 6 <| .calm 7 <| .calm 8 <| .calm 9 <| .calm 10 <| .calm 11 <| .calm 12 <| .calm 13 <| .calm 14 <| .calm 15 <| .must 16 <| .done)), (8, (8, .calm 0 <| .calm 1 <| .calm 2 <| .calm 3 <| .calm 4 <| .calm 5 <| .calm 6 <| .must 7 <| .done))], 297471780385420476419⟩
theorem xf47_ok : GoodF Tryz.prog 47 xf47 := ⟨Tryz.func47, by kernel_rfl, inferInstance, by kernel_rfl⟩
noncomputable def xf53 : XF := ⟨Tryz.f53, (Tryz.f53.body).getD .skip, T.ofList [], 215⟩
theorem xf53_ok : GoodF Tryz.prog 53 xf53 := ⟨Tryz.func53, by kernel_rfl, inferInstance, by kernel_rfl⟩
noncomputable def xf54 : XF := ⟨Tryz.f54, (Tryz.f54.body).getD .skip, T.ofList [(1, (8, .calm 0 <| .calm 1 <| .calm 2 <| .calm 3 <| .calm 4 <| .calm 5 <| .calm 6 <| .must 7 <| .done)), (2, (8, .calm 0 <| .calm 1 <| .calm 2 <| .calm 3 <| .calm 4 <| .calm 5 <| .calm 6 <| .must 7 <| .done)), (3, (8, .calm 0 <| .calm 1 <| .calm 2 <| .calm 3 <| .calm 4 <| .calm 5 <| .calm 6 <| .must 7 <| .done)), (4, (8, .calm 0 <| .calm 1 <| .calm 2 <| .calm 3 <| .calm 4 <| .calm 5 <| .calm 6 <| .must 7 <| .done)), (5, (8, .calm 0 <| .calm 1 <| .calm 2 <| .calm 3 <| .calm 4 <| .calm 5 <| .calm 6 <| .must 7 <| .done))], 3⟩
theorem xf54_ok : GoodF Tryz.prog 54 xf54 := ⟨Tryz.func54, by kernel_rfl, inferInstance, by kernel_rfl⟩
noncomputable def xf57 : XF := ⟨Tryz.f57, (Tryz.f57.body).getD .skip, T.ofList [(1, (8, .calm 0 <| .calm 1 <| .calm 2 <| .calm 3 <| .calm 4 <| .calm 5 <| .calm 6 <| .must 7 <| .done))], 3⟩
theorem xf57_ok : GoodF Tryz.prog 57 xf57 := ⟨Tryz.func57, by kernel_rfl, inferInstance, by kernel_rfl⟩
noncomputable def xf59 : XF := ⟨Tryz.f59, (Tryz.f59.body).getD .skip, T.ofList [(1, (8, .calm 0 <| .calm 1 <| .calm 2 <| .calm 3 <| .calm 4 <| .calm 5 <| .calm 6 <| .must 7 <| .done)), (2, (8, .calm 0 <| .calm 1 <| .calm 2 <| .calm 3 <| .calm 4 <| .calm 5 <| .calm 6 <| .must 7 <| .done))], 3⟩
theorem xf59_ok : GoodF Tryz.prog 59 xf59 := ⟨Tryz.func59, by kernel_rfl, inferInstance, by kernel_rfl⟩
noncomputable def xf61 : XF := ⟨Tryz.f61, (Tryz.f61.body).getD .skip, T.ofList [(2, (8, .calm 0 <| .calm 1 <| .calm 2 <| .calm 3 <| .calm 4 <| .calm 5 <| .calm 6 <| .must 7 <| .done)), (3, (8, .calm 0 <| .calm 1 <| .calm 2 <| .calm 3 <| .calm 4 <| .calm 5 <| .calm 6 <| .must 7 <| .done)), (4, (8, .calm 0 <| .calm 1 <| .calm 2 <| .calm 3 <| .calm 4 <| .calm 5 <| .calm 6 <| .must 7 <| .done))], 3⟩
theorem xf61_ok : GoodF Tryz.prog 61 xf61 := ⟨Tryz.func61, by kernel_rfl, inferInstance, by kernel_rfl⟩
noncomputable def xf62 : XF := ⟨Tryz.f62, (Tryz.f62.body).getD .skip, T.ofList [], 215⟩
theorem xf62_ok : GoodF Tryz.prog 62 xf62 := ⟨Tryz.func62, by kernel_rfl, inferInstance, by kernel_rfl⟩
noncomputable def xf63 : XF := ⟨Tryz.f63, (Tryz.f63.body).getD .skip, T.ofList [(0, (8, .calm 0 <| .calm 1 <| .calm 2 <| .calm 3 <| .calm 4 <| .calm 5 <| .calm 6 <| .must 7 <| .done)), (1, (8, .calm 0 <| .calm 1 <| .calm 2 <| .calm 3 <| .calm 4 <| .calm 5 <| .calm 6 <| .must 7 <| .done)), (2, (8, .calm 0 <| .calm 1 <| .calm 2 <| .calm 3 <| .calm 4 <| .calm 5 <| .calm 6 <| .must 7 <| .done)), (3, (8, .calm 0 <| .calm 1 <| .calm 2 <| .calm 3 <| .calm 4 <| .calm 5 <| .calm 6 <| .must 7 <| .done)), (4, (8, .calm 0 <| .calm 1 <| .calm 2 <| .calm 3 <| .calm 4 <| .calm 5 <| .calm 6 <| .must 7 <| .done))], 3⟩
theorem xf63_ok : GoodF Tryz.prog 63 xf63 := ⟨Tryz.func63, by kernel_rfl, inferInstance, by kernel_rfl⟩
noncomputable def xf64 : XF := ⟨Tryz.f64, (Tryz.f64.body).getD .skip, T.ofList [], 215⟩
theorem xf64_ok : GoodF Tryz.prog 64 xf64 := ⟨Tryz.func64, by kernel_rfl, inferInstance, by kernel_rfl⟩
noncomputable def xf65 : XF := ⟨Tryz.f65, (Tryz.f65.body).getD .skip, T.ofList [(2, (8, .calm 0 <| .calm 1 <| .calm 2 <| .calm 3 <| .calm 4 <| .calm 5 <| .calm 6 <| .must 7 <| .done))], 3⟩
theorem xf65_ok : GoodF Tryz.prog 65 xf65 := ⟨Tryz.func65, by kernel_rfl, inferInstance, by kernel_rfl⟩
noncomputable def xf66 : XF := ⟨Tryz.f66, (Tryz.f66.body).getD .skip, T.ofList [], 13⟩
theorem xf66_ok : GoodF Tryz.prog 66 xf66 := ⟨Tryz.func66, by kernel_rfl, inferInstance, by kernel_rfl⟩
noncomputable def xf67 : XF := ⟨Tryz.f67, (Tryz.f67.body).getD .skip, T.ofList [], 13⟩
theorem xf67_ok : GoodF Tryz.prog 67 xf67 := ⟨Tryz.func67, by kernel_rfl, inferInstance, by kernel_rfl⟩
noncomputable def xf68 : XF := ⟨Tryz.f68, (Tryz.f68.body).getD .skip, T.ofList [(4, (18, .calm 0 <| .calm 1 <| .must 2 <| .calm 3 <| .calm 7 <| .must 4 <| .calm 5 <| .must 6 <| .calm 8 <| .calm 9 <| .calm 10 <| .calm 11 <| .calm 12 <| .calm 13 <| .calm 14 <| .must 15 <| .calm 16 <| .calm 17 <| .done))], 4155⟩
theorem xf68_ok : GoodF Tryz.prog 68 xf68 := ⟨Tryz.func68, by kernel_rfl, inferInstance, by kernel_rfl⟩
noncomputable def xf88 : XF := ⟨Tryz.f88, (Tryz.f88.body).getD .skip, T.ofList [(9, (10, .calm 0 <| .calm 1 <| .calm 2 <| .calm 3 <| .calm 4 <| .calm 5 <| .calm 6 <| .calm 7 <| .must 8 <| .calm 9 <| .done))], 32883⟩
theorem xf88_ok : GoodF Tryz.prog 88 xf88 := ⟨Tryz.func88, by kernel_rfl, inferInstance, by kernel_rfl⟩
noncomputable def xf89 : XF := ⟨Tryz.f89, (Tryz.f89.body).getD .skip, T.ofList [], 51⟩
theorem xf89_ok : GoodF Tryz.prog 89 xf89 := ⟨Tryz.func89, by kernel_rfl, inferInstance, by kernel_rfl⟩
noncomputable def xf95 : XF := ⟨Tryz.f95, (Tryz.f95.body).getD .skip, T.ofList [(2, (13, .calm 0 <| .calm 2 <| .calm 3 <| .calm 4 <| .calm 5 <| .calm 6 <| .calm 7 <| .calm 8 <| .calm 9 <| .calm 10 <| .calm 11 <| .must 1 <| .must 12 <| .done)), (3, (12, .calm 0 <| .calm 1 <| .calm 2 <| .calm 3 <| .calm 4 <| .calm 5 <| .calm 6 <| .calm 7 <| .calm 8 <| .calm 9 <| .calm 10 <| .must 11 <| .done)), (5, (12, .calm 0 <| .calm 1 <| .calm 2 <| .calm 3 <| .calm 4 <| .calm 5 <| .calm 6 <| .calm 7 <| .calm 8 <| .calm 9 <| .calm 10 <| .calm 11 <| .must 12 <| .done))], 13⟩
theorem xf95_ok : GoodF Tryz.prog 95 xf95 := ⟨Tryz.func95, by kernel_rfl, inferInstance, by kernel_rfl⟩
noncomputable def xf97 : XF := ⟨Tryz.f97, (Tryz.f97.body).getD .skip, T.ofList [], 61⟩
theorem xf97_ok : GoodF Tryz.prog 97 xf97 := ⟨Tryz.func97, by kernel_rfl, inferInstance, by kernel_rfl⟩
noncomputable def xf99 : XF := ⟨Tryz.f99, (Tryz.f99.body).getD .skip, T.ofList [], 34368129779⟩
theorem xf99_ok : GoodF Tryz.prog 99 xf99 := ⟨Tryz.func99, by kernel_rfl, inferInstance, by kernel_rfl⟩
noncomputable def xf100 : XF := ⟨Tryz.f100, (Tryz.f100.body).getD .skip, T.ofList [], 2099⟩
theorem xf100_ok : GoodF Tryz.prog 100 xf100 := ⟨Tryz.func100, by kernel_rfl, inferInstance, by kernel_rfl⟩
noncomputable def xf101 : XF := ⟨Tryz.f101, (Tryz.f101.body).getD .skip, T.ofList [], 19⟩
theorem xf101_ok : GoodF Tryz.prog 101 xf101 := ⟨Tryz.func101, by kernel_rfl, inferInstance, by kernel_rfl⟩
noncomputable def xf102 : XF := ⟨Tryz.f102, (Tryz.f102.body).getD .skip, T.ofList [], 19⟩
theorem xf102_ok : GoodF Tryz.prog 102 xf102 := ⟨Tryz.func102, by kernel_rfl, inferInstance, by kernel_rfl⟩
noncomputable def xf103 : XF := ⟨Tryz.f103, (Tryz.f103.body).getD .skip, T.ofList [], 69189240591⟩
theorem xf103_ok : GoodF Tryz.prog 103 xf103 := ⟨Tryz.func103, by kernel_rfl, inferInstance, by kernel_rfl⟩
noncomputable def xf104 : XF := ⟨Tryz.f104, (Tryz.f104.body).getD .skip, T.ofList [(9, (8, .calm 0 <| .calm 1 <| .calm 2 <| .calm 3 <| .calm 4 <| .must 5 <| .must 6 <| .calm 7 <| .must 8 <| .done))], 69189240591⟩
theorem xf104_ok : GoodF Tryz.prog 104 xf104 := ⟨Tryz.func104, by kernel_rfl, inferInstance, by kernel_rfl⟩
noncomputable def xf105 : XF := ⟨Tryz.f105, (Tryz.f105.body).getD .skip, T.ofList [], 51⟩
theorem xf105_ok : GoodF Tryz.prog 105 xf105 := ⟨Tryz.func105, by kernel_rfl, inferInstance, by kernel_rfl⟩
noncomputable def xf106 : XF := ⟨Tryz.f106, (Tryz.f106.body).getD .skip, T.ofList [], 51⟩
theorem xf106_ok : GoodF Tryz.prog 106 xf106 := ⟨Tryz.func106, by kernel_rfl, inferInstance, by kernel_rfl⟩
noncomputable def xf125 : XF := ⟨Tryz.f125, (Tryz.f125.body).getD .skip, T.ofList [], 16541⟩
theorem xf125_ok : GoodF Tryz.prog 125 xf125 := ⟨Tryz.func125, by kernel_rfl, inferInstance, by kernel_rfl⟩
noncomputable def xf126 : XF := ⟨Tryz.f126, (Tryz.f126.body).getD .skip, T.ofList [], 21⟩
theorem xf126_ok : GoodF Tryz.prog 126 xf126 := ⟨Tryz.func126, by kernel_rfl, inferInstance, by kernel_rfl⟩
noncomputable def xf127 : XF := ⟨Tryz.f127, (Tryz.f127.body).getD .skip, T.ofList [], 135⟩
theorem xf127_ok : GoodF Tryz.prog 127 xf127 := ⟨Tryz.func127, by kernel_rfl, inferInstance, by kernel_rfl⟩
noncomputable def xf128 : XF := ⟨Tryz.f128, (Tryz.f128.body).getD .skip, T.ofList [(5, (12, .calm 0 <| .calm 1 <| .calm 2 <| .calm 3 <| .calm 4 <| .calm 5 <| .calm 6 <| .calm 7 <| .calm 8 <| .calm 9 <| .calm 10 <| .must 11 <| .done)), (8, (20, .calm 0 <| .calm 1 <| .calm 2 <| .calm 3 <| .calm 4 <| .calm 5 <| .calm 6 <| .calm 7 <| .calm 8 <| .calm 9 <| .calm 10 <| .calm 11 <| .calm 12 <| .calm 13 <| .calm 14 <| .calm 15 <| .calm 16 <| .calm 17 <| .calm 18 <| .must 19 <| .done)), (9, (13, .calm 0 <| .calm 1 <| .calm 2 <| .calm 3 <| .calm 4 <| .calm 5 <| .calm 6 <| .calm 7 <| .calm 8 <| .calm 9 <| .calm 12 <| .must 10 <| .calm 11 <| .done))], 4642275147320176030938824797⟩
theorem xf128_ok : GoodF Tryz.prog 128 xf128 := ⟨Tryz.func128, by kernel_rfl, inferInstance, by kernel_rfl⟩
noncomputable def xf132 : XF := ⟨Tryz.f132, (Tryz.f132.body).getD .skip, T.ofList [], 1193287703199244111⟩
theorem xf132_ok : GoodF Tryz.prog 132 xf132 := ⟨Tryz.func132, by kernel_rfl, inferInstance, by kernel_rfl⟩
noncomputable def xf134 : XF := ⟨Tryz.f134, (Tryz.f134.body).getD .skip, T.ofList [], 4639143427053511⟩
theorem xf134_ok : GoodF Tryz.prog 134 xf134 := ⟨Tryz.func134, by kernel_rfl, inferInstance, by kernel_rfl⟩
noncomputable def xf135 : XF := ⟨Tryz.f135, (Tryz.f135.body).getD .skip, T.ofList [], 3451⟩
theorem xf135_ok : GoodF Tryz.prog 135 xf135 := ⟨Tryz.func135, by kernel_rfl, inferInstance, by kernel_rfl⟩
noncomputable def xf136 : XF := ⟨Tryz.f136, (Tryz.f136.body).getD .skip, T.ofList [], 3451⟩
theorem xf136_ok : GoodF Tryz.prog 136 xf136 := ⟨Tryz.func136, by kernel_rfl, inferInstance, by kernel_rfl⟩
noncomputable def xf166 : XF := ⟨Tryz.f166, (Tryz.f166.body).getD .skip, T.ofList [], 5⟩
theorem xf166_ok : GoodF Tryz.prog 166 xf166 := ⟨Tryz.func166, by kernel_rfl, inferInstance, by kernel_rfl⟩
noncomputable def xf167 : XF := ⟨Tryz.f167, (Tryz.f167.body).getD .skip, T.ofList [], 1⟩
theorem xf167_ok : GoodF Tryz.prog 167 xf167 := ⟨Tryz.func167, by kernel_rfl, inferInstance, by kernel_rfl⟩
noncomputable def xf168 : XF := ⟨Tryz.f168, (Tryz.f168.body).getD .skip, T.ofList [], 7⟩
theorem xf168_ok : GoodF Tryz.prog 168 xf168 := ⟨Tryz.func168, by kernel_rfl, inferInstance, by kernel_rfl⟩
noncomputable def xf169 : XF := ⟨Tryz.f169, (Tryz.f169.body).getD .skip, T.ofList [(0, (11, .calm 0 <| .calm 1 <| .calm 2 <| .calm 3 <| .calm 4 <| .calm 5 <| .calm 6 <| .calm 7 <| .must 8 <| .calm 9 <| .calm 10 <| .must 11 <| .done))], 3⟩
theorem xf169_ok : GoodF Tryz.prog 169 xf169 := ⟨Tryz.func169, by kernel_rfl, inferInstance, by kernel_rfl⟩
noncomputable def xf170 : XF := ⟨Tryz.f170, (Tryz.f170.body).getD .skip, T.ofList [(0, (12, .calm 0 <| .calm 1 <| .calm 2 <| .calm 3 <| .calm 4 <| .calm 5 <| .calm 6 <| .calm 7 <| .must 8 <| .must 9 <| .calm 10 <| .calm 11 <| .must 12 <| .done))], 3⟩
theorem xf170_ok : GoodF Tryz.prog 170 xf170 := ⟨Tryz.func170, by kernel_rfl, inferInstance, by kernel_rfl⟩
noncomputable def xf171 : XF := ⟨Tryz.f171, (Tryz.f171.body).getD .skip, T.ofList [(0, (11, .calm 0 <| .calm 1 <| .calm 2 <| .calm 3 <| .calm 4 <| .calm 5 <| .calm 6 <| .calm 7 <| .must 8 <| .calm 9 <| .calm 10 <| .must 11 <| .done))], 3⟩
theorem xf171_ok : GoodF Tryz.prog 171 xf171 := ⟨Tryz.func171, by kernel_rfl, inferInstance, by kernel_rfl⟩
noncomputable def xf172 : XF := ⟨Tryz.f172, (Tryz.f172.body).getD .skip, T.ofList [(0, (11, .calm 0 <| .calm 1 <| .calm 2 <| .calm 3 <| .calm 4 <| .calm 5 <| .calm 6 <| .calm 7 <| .must 8 <| .calm 9 <| .calm 10 <| .must 11 <| .done))], 3⟩
theorem xf172_ok : GoodF Tryz.prog 172 xf172 := ⟨Tryz.func172, by kernel_rfl, inferInstance, by kernel_rfl⟩
noncomputable def xf173 : XF := ⟨Tryz.f173, (Tryz.f173.body).getD .skip, T.ofList [], 19⟩
theorem xf173_ok : GoodF Tryz.prog 173 xf173 := ⟨Tryz.func173, by kernel_rfl, inferInstance, by kernel_rfl⟩
noncomputable def xf174 : XF := ⟨Tryz.f174, (Tryz.f174.body).getD .skip, T.ofList [], 1⟩
theorem xf174_ok : GoodF Tryz.prog 174 xf174 := ⟨Tryz.func174, by kernel_rfl, inferInstance, by kernel_rfl⟩
noncomputable def xf175 : XF := ⟨Tryz.f175, (Tryz.f175.body).getD .skip, T.ofList [], 135⟩
theorem xf175_ok : GoodF Tryz.prog 175 xf175 := ⟨Tryz.func175, by kernel_rfl, inferInstance, by kernel_rfl⟩
noncomputable def xf176 : XF := ⟨Tryz.f176, (Tryz.f176.body).getD .skip, T.ofList [], 3⟩
theorem xf176_ok : GoodF Tryz.prog 176 xf176 := ⟨Tryz.func176, by kernel_rfl, inferInstance, by kernel_rfl⟩
noncomputable def xf177 : XF := ⟨Tryz.f177, (Tryz.f177.body).getD .skip, T.ofList [], 3⟩
theorem xf177_ok : GoodF Tryz.prog 177 xf177 := ⟨Tryz.func177, by kernel_rfl, inferInstance, by kernel_rfl⟩
noncomputable def xf178 : XF := ⟨Tryz.f178, (Tryz.f178.body).getD .skip, T.ofList [], 3⟩
theorem xf178_ok : GoodF Tryz.prog 178 xf178 := ⟨Tryz.func178, by kernel_rfl, inferInstance, by kernel_rfl⟩
noncomputable def xf179 : XF := ⟨Tryz.f179, (Tryz.f179.body).getD .skip, T.ofList [], 3⟩
theorem xf179_ok : GoodF Tryz.prog 179 xf179 := ⟨Tryz.func179, by kernel_rfl, inferInstance, by kernel_rfl⟩
noncomputable def xf180 : XF := ⟨Tryz.f180, (Tryz.f180.body).getD .skip, T.ofList [], 4211⟩
theorem xf180_ok : GoodF Tryz.prog 180 xf180 := ⟨Tryz.func180, by kernel_rfl, inferInstance, by kernel_rfl⟩
noncomputable def xf181 : XF := ⟨Tryz.f181, (Tryz.f181.body).getD .skip, T.ofList [], 4211⟩
theorem xf181_ok : GoodF Tryz.prog 181 xf181 := ⟨Tryz.func181, by kernel_rfl, inferInstance, by kernel_rfl⟩
noncomputable def xf182 : XF := ⟨Tryz.f182, (Tryz.f182.body).getD .skip, T.ofList [(2, (13, .calm 0 <| .calm 2 <| .calm 3 <| .calm 4 <| .calm 5 <| .calm 6 <| .calm 7 <| .calm 8 <| .calm 9 <| .calm 10 <| .calm 11 <| .must 1 <| .must 12 <| .done)), (4, (11, .calm 0 <| .calm 1 <| .calm 2 <| .calm 3 <| .calm 4 <| .calm 5 <| .calm 6 <| .calm 7 <| .calm 8 <| .calm 9 <| .calm 10 <| .must 11 <| .done))], 13⟩
theorem xf182_ok : GoodF Tryz.prog 182 xf182 := ⟨Tryz.func182, by kernel_rfl, inferInstance, by kernel_rfl⟩
noncomputable def xf183 : XF := ⟨Tryz.f183, (Tryz.f183.body).getD .skip, T.ofList [], 4211⟩
theorem xf183_ok : GoodF Tryz.prog 183 xf183 := ⟨Tryz.func183, by kernel_rfl, inferInstance, by kernel_rfl⟩
noncomputable def xf184 : XF := ⟨Tryz.f184, (Tryz.f184.body).getD .skip, T.ofList [], 4211⟩
theorem xf184_ok : GoodF Tryz.prog 184 xf184 := ⟨Tryz.func184, by kernel_rfl, inferInstance, by kernel_rfl⟩
noncomputable def xf185 : XF := ⟨Tryz.f185, (Tryz.f185.body).getD .skip, T.ofList [], 61⟩
theorem xf185_ok : GoodF Tryz.prog 185 xf185 := ⟨Tryz.func185, by kernel_rfl, inferInstance, by kernel_rfl⟩
noncomputable def tabL : List (Nat × XF) := [(11, xf11), (15, xf15), (23, xf23), (25, xf25), (27, xf27), (29, xf29), (31, xf31), (46, xf46), (47, xf47), (53, xf53), (54, xf54), (57, xf57), (59, xf59), (61, xf61), (62, xf62), (63, xf63), (64, xf64), (65, xf65), (66, xf66), (67, xf67), (68, xf68), (88, xf88), (89, xf89), (95, xf95), (97, xf97), (99, xf99), (100, xf100), (101, xf101), (102, xf102), (103, xf103), (104, xf104), (105, xf105), (106, xf106), (125, xf125), (126, xf126), (127, xf127), (128, xf128), (132, xf132), (134, xf134), (135, xf135), (136, xf136), (166, xf166), (167, xf167), (168, xf168), (169, xf169), (170, xf170), (171, xf171), (172, xf172), (173, xf173), (174, xf174), (175, xf175), (176, xf176), (177, xf177), (178, xf178), (179, xf179), (180, xf180), (181, xf181), (182, xf182), (183, xf183), (184, xf184), (185, xf185)]
noncomputable def tab : T XF := T.ofList tabL
theorem tab_ok : ∀ f x, tab.get f = some x → GoodF Tryz.prog f x := fun f x h => GoodL.mem (l := tabL) ⟨xf11_ok, xf15_ok, xf23_ok, xf25_ok, xf27_ok, xf29_ok, xf31_ok, xf46_ok, xf47_ok, xf53_ok, xf54_ok, xf57_ok, xf59_ok, xf61_ok, xf62_ok, xf63_ok, xf64_ok, xf65_ok, xf66_ok, xf67_ok, xf68_ok, xf88_ok, xf89_ok, xf95_ok, xf97_ok, xf99_ok, xf100_ok, xf101_ok, xf102_ok, xf103_ok, xf104_ok, xf105_ok, xf106_ok, xf125_ok, xf126_ok, xf127_ok, xf128_ok, xf132_ok, xf134_ok, xf135_ok, xf136_ok, xf166_ok, xf167_ok, xf168_ok, xf169_ok, xf170_ok, xf171_ok, xf172_ok, xf173_ok, xf174_ok, xf175_ok, xf176_ok, xf177_ok, xf178_ok, xf179_ok, xf180_ok, xf181_ok, xf182_ok, xf183_ok, xf184_ok, xf185_ok, trivial⟩ (f, x) (T.get_ofList h)
theorem works_run : trueG Tryz.prog tab 100000 doorPr doorH 200 27 = true := by kernel_rfl
end W03
theorem works03_fn {L : List (Nat × Obj)} (h : HandleIn L) : Fn Tryz.prog 27 [] L (fun v L' => v = .bool true ∧ L' = L) := by
  obtain ⟨cs, E, fr, h1, h2⟩ := h
  exact runD doorPr_ok mixed W03.tab_ok (doorH_cov h2) doorH_zero W03.works_run h1
end Go.Proofs.YtakedlockchpcaaGreatDoor
