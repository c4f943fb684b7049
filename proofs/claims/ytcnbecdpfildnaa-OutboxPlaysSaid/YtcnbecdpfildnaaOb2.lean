/-
  The outbox: what its methods turn.
-/
import Derived.Test.YtcnbecdpfildnaaOb1
namespace Go.Proofs.Ytcnbecdpfildnaa
open Go.RowKit
attribute [local irreducible] Fn WC WL WR OW Qt YieldFn QW FnP FnD

theorem mC_src {c : Cx} {L : List (Nat × Obj)} {q E : Nat} {x : Int} [TUnd c.P 31 (.slice E)] (i : Nat) (hi : L[i]? = some (q, .cells (mC x) 48 (0, 0))) : SrcL c L 24 31 (.slice (some ⟨q, 0, none⟩) 1 1) 1 (mC x).toList :=
  srcVec ⟨rfl, _, _, rfl, Nat.le_refl _, by decide, .inr ⟨q, 0, mC x, _, _, i, rfl, hi, fun j v h => by rw [Nat.zero_add]; simpa using h⟩⟩ (fun u hu => List.all_eq_true.1 (mC_all x) u hu)

set_option maxHeartbeats 1000000 in
theorem owe_fn {o w n k q : Nat} {cs : Array Value} {v : Value} {T : List (Nat × Obj)} {m : Nat} {xs : List Value} {x : Int} (hk : k < n) (hc : cs[k]? = some v) (hb : Buf 48 24 v T m xs) (hm : m ≤ 1000000) (F : List (Nat × Obj)) :
    Fn Try.prog 49 [.pointer (some ⟨o, 0, none⟩), .int .i64 (k : Nat), .slice (some ⟨q, 0, none⟩) 1 1] (((q, .cells (mC x) 48 (0, 0)) :: (o, oO w n) :: (w, wO cs) :: T) ++ F)
      (fun _ L' => ∃ S', L' = S' ++ F ∧ ∃ v' T', S' = (q, .cells (mC x) 48 (0, 0)) :: (o, oO w n) :: (w, wO (cs.setIfInBounds k v')) :: T' ∧ Buf 48 24 v' T' (m + 1) (xs ++ (mC x).toList)) := by
  refine Fn_enter Try.func49 rfl Try.ntmps49 rfl fun g => ?_
  have hc' : cs[((k : Nat) : Int).toNat * 1]? = some v := by simpa using hc
  have hk' : ((k : Nat) : Int) < ((n : Nat) : Int) := by omega
  have hlt : ((k : Nat) : Int).toNat * 1 < cs.size := by obtain ⟨h, _⟩ := Array.getElem?_eq_some_iff.1 hc'; exact h
  have hmx : m + 1 ≤ maxLen := by simp only [maxLen]; omega
  refine WC_draw_sub (id := 0) 15 (.calm 0 <| .calm 1 <| .calm 2 <| .calm 3 <| .calm 4 <| .calm 5 <| .calm 6 <| .calm 7 <| .calm 8 <| .calm 9 <| .calm 10 <| .calm 11 <| .calm 12 <| .must 13 <| .calm 14 <| .must 15 <| .done) mixed (by kernel_rfl) (.cons_cons _ (.cons_cons _ (.cons_cons _ (List.nil_sublist _)))) ?_
  repeat (first | ((first | refine WL_Q ?_ | refine WR_Q rfl ?_ | refine WR_late rfl rfl rfl (OW_Q ?_)); (first | refine QW_a ?_)) | ((first | refine WL_op rfl ?_ | refine WR_late rfl rfl rfl ?_ | refine WR_opG rfl rfl ?_); (first | refine OW_st1 rfl ?_); try refine ⟨(by first | exact fun _ h => h | exact sub_mem (by repeat (first | exact .refl _ | exact List.nil_sublist _ | exact List.sublist_append_right _ _ | apply List.Sublist.cons_cons | apply List.Sublist.cons))), ?_⟩) | refine WL_nil ?_ | refine WR_nil ?_ | refine WC_seq ?_ | refine WC_block ?_ | refine WC_cond_t (ht := ?_) | refine WC_cond_f (he := ?_) | refine WC_skip ?_ | refine WC_ret ?_ | refine WC_exit ?_ | refine WC_draw_all (id := 0) 15 (.calm 0 <| .calm 1 <| .calm 2 <| .calm 3 <| .calm 4 <| .calm 5 <| .calm 6 <| .calm 7 <| .calm 8 <| .calm 9 <| .calm 10 <| .calm 11 <| .calm 12 <| .must 13 <| .calm 14 <| .must 15 <| .done) mixed (by kernel_rfl) ?_ | refine WC_region ?_)
  refine WR_opG rfl rfl (OW_append_buf (A := [_, _, _]) (T := T) (B := F) rfl rfl rfl rfl rfl hb (mC_src 0 rfl) (by omega) hmx (by omega) fun v' T' hb' => ?_)
  refine ⟨sub_mem (.cons_cons _ (.cons_cons _ (.cons_cons _ (List.nil_sublist _)))), ?_⟩
  obtain ⟨a', cap', rfl, _⟩ := hb'.val
  simp only [List.cons_append, List.nil_append]
  repeat (first | ((first | refine WL_Q ?_ | refine WR_Q rfl ?_ | refine WR_late rfl rfl rfl (OW_Q ?_)); (first | refine QW_a ?_)) | ((first | refine WL_op rfl ?_ | refine WR_late rfl rfl rfl ?_ | refine WR_opG rfl rfl ?_); (first | refine OW_st1 rfl ?_); try refine ⟨(by first | exact fun _ h => h | exact sub_mem (by repeat (first | exact .refl _ | exact List.nil_sublist _ | exact List.sublist_append_right _ _ | apply List.Sublist.cons_cons | apply List.Sublist.cons))), ?_⟩) | refine WL_nil ?_ | refine WR_nil ?_ | refine WC_seq ?_ | refine WC_block ?_ | refine WC_cond_t (ht := ?_) | refine WC_cond_f (he := ?_) | refine WC_skip ?_ | refine WC_ret ?_ | refine WC_exit ?_ | refine WC_draw_all (id := 0) 15 (.calm 0 <| .calm 1 <| .calm 2 <| .calm 3 <| .calm 4 <| .calm 5 <| .calm 6 <| .calm 7 <| .calm 8 <| .calm 9 <| .calm 10 <| .calm 11 <| .calm 12 <| .must 13 <| .calm 14 <| .must 15 <| .done) mixed (by kernel_rfl) ?_ | refine WC_region ?_)
  refine ⟨rfl, _, _, Res0 rfl, .refl _, (q, _) :: (o, _) :: (w, _) :: T', rfl, _, T', ?_, hb'⟩
  simp

/-- The blocks of an outbox, with its rows. -/
def obL (o w : Nat) (rs : List (Value × List (Nat × Obj))) (R : List (Nat × Obj)) : List (Nat × Obj) := (o, oO w rs.length) :: (w, wO (rs.map Prod.fst).toArray) :: (rowsL rs ++ R)
theorem rows_get {rs : List (Value × List (Nat × Obj))} {k : Nat} {v : Value} {T : List (Nat × Obj)} (h : rs[k]? = some (v, T)) : (rs.map Prod.fst).toArray[k]? = some v := by simp [h]
theorem rows_set {rs : List (Value × List (Nat × Obj))} {k : Nat} {v : Value} {T : List (Nat × Obj)} : (rs.map Prod.fst).toArray.setIfInBounds k v = ((rs.set k (v, T)).map Prod.fst).toArray := by simp
theorem perm_ob (a b : Nat × Obj) (A T X Y R : List (Nat × Obj)) : (a :: b :: T ++ (A ++ (X ++ (Y ++ R)))).Perm (A ++ (a :: b :: ((X ++ (T ++ Y)) ++ R))) := by
  have h1 : (T ++ (A ++ (X ++ (Y ++ R)))).Perm (A ++ (X ++ (T ++ (Y ++ R)))) := (List.perm_append_comm_assoc _ _ _).trans (.append_left _ (List.perm_append_comm_assoc _ _ _))
  have h2 : (a :: b :: (A ++ (X ++ (T ++ (Y ++ R))))).Perm (A ++ (a :: b :: (X ++ (T ++ (Y ++ R))))) := (List.Perm.cons a List.perm_middle.symm).trans List.perm_middle.symm
  simp only [List.append_assoc, List.cons_append]
  exact (List.Perm.cons a (.cons b h1)).trans h2
theorem owe_ob {o w k q : Nat} {rs : List (Value × List (Nat × Obj))} {xss : List (List Value)} (hr : Rows 48 24 rs xss) {xs : List Value} (hx : xss[k]? = some xs) (hm : xs.length ≤ 24000000) (x : Int) (A R : List (Nat × Obj)) :
    Fn Try.prog 49 [.pointer (some ⟨o, 0, none⟩), .int .i64 (k : Nat), .slice (some ⟨q, 0, none⟩) 1 1] ((q, .cells (mC x) 48 (0, 0)) :: (A ++ obL o w rs R))
      (fun _ L' => ∃ rs', L' = (q, .cells (mC x) 48 (0, 0)) :: (A ++ obL o w rs' R) ∧ Rows 48 24 rs' (xss.set k (xs ++ (mC x).toList))) := by
  obtain ⟨v, T, m, hrk, hb⟩ := hr.at hx
  have hk : k < rs.length := (List.getElem?_eq_some_iff.1 hrk).1
  have hlen := hb.len
  refine Fn.upd (S := (q, .cells (mC x) 48 (0, 0)) :: (o, oO w rs.length) :: (w, wO (rs.map Prod.fst).toArray) :: T) (fun F => owe_fn hk (rows_get hrk) hb (by omega) F) (A ++ (rowsL (rs.take k) ++ (rowsL (rs.drop (k + 1)) ++ R))) ?_ ?_
  · unfold obL
    rw [rowsL_split hrk]
    exact .cons _ (perm_ob _ _ _ _ _ _ _)
  · rintro _ _ ⟨v', T', rfl, hb'⟩
    refine ⟨_, ?_, rs.set k (v', T'), rfl, hr.set hb' k⟩
    unfold obL
    rw [rowsL_set (v', T') hrk, List.length_set, ← rows_set]
    exact .cons _ (perm_ob _ _ _ _ _ _ _).symm


set_option maxHeartbeats 1000000 in
theorem Push_ob {o w k : Nat} {rs : List (Value × List (Nat × Obj))} {xss : List (List Value)} (hr : Rows 48 24 rs xss) {xs : List Value} (hx : xss[k]? = some xs) (hm : xs.length ≤ 24000000) (x : Int) (R : List (Nat × Obj)) :
    Fn Try.prog 26 [.pointer (some ⟨o, 0, none⟩), .int .i64 (k : Nat), .agg (mC x)] (obL o w rs R)
      (fun v L' => v = .int .i64 0 ∧ ∃ rs', L' = obL o w rs' R ∧ Rows 48 24 rs' (xss.set k (xs ++ (mC x).toList))) := by
  have hk : k < rs.length := by rw [hr.1]; exact (List.getElem?_eq_some_iff.1 hx).1
  refine Fn_enter Try.func26 rfl Try.ntmps26 rfl fun g => ?_
  repeat (first | ((first | refine WL_Q ?_); (first | refine QW_a ?_)) | ((first | refine WL_op rfl ?_); (first | refine OW_box rfl (hk := fun _ => ?_) | refine OW_build1 rfl (hk := fun _ => ?_) | refine OW_callP rfl (hF := Fn.sub (check_fn hk) (by repeat (first | exact .refl _ | exact List.nil_sublist _ | exact List.sublist_append_left _ _ | apply List.Sublist.cons_cons | apply List.Sublist.cons))) (hk := ?_))) | refine WL_nil ?_ | refine WC_seq ?_ | refine WC_block ?_ | refine WC_cond_t (ht := ?_) | refine WC_cond_f (he := ?_) | refine WC_skip ?_ | refine WC_ret ?_ | refine WC_exit ?_ | refine WC_region ?_)
  refine WL_op rfl (OW_call rfl (hF := owe_ob hr hx hm x [_] R) (hk := ?_))
  rintro _ _ ⟨rs', rfl, hr'⟩
  repeat (first | ((first | refine WL_Q ?_); (first | refine QW_a ?_)) | ((first | refine WL_op rfl ?_); (first | refine OW_box rfl (hk := fun _ => ?_) | refine OW_build1 rfl (hk := fun _ => ?_) | refine OW_callP rfl (hF := Fn.sub (check_fn hk) (by repeat (first | exact .refl _ | exact List.nil_sublist _ | exact List.sublist_append_left _ _ | apply List.Sublist.cons_cons | apply List.Sublist.cons))) (hk := ?_))) | refine WL_nil ?_ | refine WC_seq ?_ | refine WC_block ?_ | refine WC_cond_t (ht := ?_) | refine WC_cond_f (he := ?_) | refine WC_skip ?_ | refine WC_ret ?_ | refine WC_exit ?_ | refine WC_region ?_)
  exact ⟨rfl, _, _, Res1 rfl (resV_tmp rfl), .cons _ (.cons _ (.refl _)), rfl, _, rfl, hr'⟩
end Go.Proofs.Ytcnbecdpfildnaa
