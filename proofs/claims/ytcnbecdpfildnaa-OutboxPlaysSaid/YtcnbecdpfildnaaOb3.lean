/-
  The outbox: New, All, Owes, by the numbers of the messages that each way owes.
-/
import Derived.Test.YtcnbecdpfildnaaOb2
namespace Go.Proofs.Ytcnbecdpfildnaa
open Go.RowKit
attribute [local irreducible] Fn WC WL WR OW Qt YieldFn QW FnP FnD

/-- The cells of messages. -/
def msgs (l : List Nat) : List Value := l.flatMap fun a => (mC (a : Nat)).toList
theorem msgs_len (l : List Nat) : (msgs l).length = l.length * 24 := by
  induction l with
  | nil => rfl
  | cons a r ih =>
    have e : msgs (a :: r) = (mC (a : Nat)).toList ++ msgs r := rfl
    rw [e, List.length_append, ih, Array.length_toList, mC_size, List.length_cons]; omega
theorem msgs_snoc (l : List Nat) (a : Nat) : msgs (l ++ [a]) = msgs l ++ (mC (a : Nat)).toList := by simp [msgs]
theorem msgs_cons (l : List Nat) (a : Nat) : msgs (a :: l) = (mC (a : Nat)).toList ++ msgs l := rfl
theorem msgs_take (l : List Nat) (a : Nat) : (msgs (a :: l)).take 24 = (mC (a : Nat)).toList := by rw [msgs_cons]; exact List.take_left' (by simp [mC_size])
theorem msgs_drop (l : List Nat) (a : Nat) : (msgs (a :: l)).drop 24 = msgs l := by rw [msgs_cons]; exact List.drop_left' (by simp [mC_size])
abbrev RowsM (rs : List (Value × List (Nat × Obj))) (nss : List (List Nat)) : Prop := Rows 48 24 rs (nss.map msgs)
theorem RowsM.row {rs : List (Value × List (Nat × Obj))} {nss : List (List Nat)} (h : RowsM rs nss) {k : Nat} {ns : List Nat} (hx : nss[k]? = some ns) : ∃ a cap T, rs[k]? = some (.slice a ns.length cap, T) ∧ Buf 48 24 (.slice a ns.length cap) T ns.length (msgs ns) := by
  obtain ⟨v, T, m, h1, h2⟩ := h.at (k := k) (xs := msgs ns) (by simp [hx])
  have h3 := h2.len
  rw [msgs_len] at h3
  obtain rfl : m = ns.length := by omega
  obtain ⟨a, cap, rfl, _⟩ := h2.val
  exact ⟨a, cap, T, h1, h2⟩
theorem RowsM.len {rs : List (Value × List (Nat × Obj))} {nss : List (List Nat)} (h : RowsM rs nss) : rs.length = nss.length := by have := h.1; simpa using this
theorem RowsM.snoc {rs : List (Value × List (Nat × Obj))} {nss : List (List Nat)} {k x : Nat} {ns : List Nat} (h : Rows 48 24 rs ((nss.map msgs).set k (msgs ns ++ (mC (x : Nat)).toList))) : RowsM rs (nss.set k (ns ++ [x])) := by
  rw [RowsM, List.map_set, msgs_snoc]; exact h

section
variable {o w k : Nat} {rs : List (Value × List (Nat × Obj))} {nss : List (List Nat)}
theorem Len_ob (hr : RowsM rs nss) {ns : List Nat} (hx : nss[k]? = some ns) {L : List (Nat × Obj)} (hs : [(o, oO w rs.length), (w, wO (rs.map Prod.fst).toArray)].Sublist L) : Fn Try.prog 43 [.pointer (some ⟨o, 0, none⟩), .int .i64 (k : Nat)] L (fun v L' => v = .int .i64 (ns.length : Nat) ∧ L' = L) := by
  obtain ⟨a, cap, T, h1, _⟩ := hr.row hx
  exact Fn.sub (Len_fn (List.getElem?_eq_some_iff.1 h1).1 (rows_get h1)) hs

theorem New_ok {n : Nat} (h1 : 1 ≤ n) (h2 : n ≤ 16) (L : List (Nat × Obj)) : Fn Try.prog 24 [.int .i64 (n : Nat)] L (fun v L' => ∃ o w rs, v = .pointer (some ⟨o, 0, none⟩) ∧ L' = obL o w rs L ∧ RowsM rs (List.replicate n [])) := by
  refine Fn_enter Try.func24 rfl Try.ntmps24 rfl fun g => ?_
  have d1 : decide (((n : Nat) : Int) < 1) = false := decide_eq_false (by omega)
  have d2 : decide (((n : Nat) : Int) > 16) = false := decide_eq_false (by omega)
  repeat (first | ((first | refine WL_Q ?_ | refine WL_Y ?_); (first | refine QW_a ?_)) | ((first | refine WL_op rfl ?_ | refine WL_yes (h := ?_)); (first | refine OW_box rfl (hk := fun _ => ?_))) | refine WL_nil ?_ | refine WL_un (h := ?_) | refine WL_N ?_ | refine WL_M ?_ | refine WC_seq ?_ | refine WC_block ?_ | refine WC_cond_t (ht := ?_) | refine WC_cond_f (he := ?_) | refine WC_skip ?_ | refine WC_ret ?_ | refine WC_exit ?_ | refine WC_region ?_)
  refine WL_op rfl (OW_make1 (n := n) rfl ?_ ?_ fun w => ?_)
  · omega
  · simp only [maxLen]; omega
  repeat (first | ((first | refine WL_Q ?_ | refine WL_Y ?_); (first | refine QW_a ?_)) | ((first | refine WL_op rfl ?_ | refine WL_yes (h := ?_)); (first | refine OW_box rfl (hk := fun _ => ?_))) | refine WL_nil ?_ | refine WL_un (h := ?_) | refine WL_N ?_ | refine WL_M ?_ | refine WC_seq ?_ | refine WC_block ?_ | refine WC_cond_t (ht := ?_) | refine WC_cond_f (he := ?_) | refine WC_skip ?_ | refine WC_ret ?_ | refine WC_exit ?_ | refine WC_region ?_)
  rename_i o
  refine ⟨rfl, _, _, Res1 rfl (resV_tmp rfl), .refl _, o, w, List.replicate n (.slice none 0 0, []), rfl, ?_, ?_⟩
  · unfold obL
    rw [rowsL_nils]
    have e : putR zc102 0 (Value.slice (some ⟨w, 0, none⟩) n n).cells = #[Value.slice (some ⟨w, 0, none⟩) n n] := rfl
    simp [e]
  · have := Rows.nils 48 24 n
    simpa [RowsM, msgs] using this

/-- One more on each of the first ways. -/
def addTo (nss : List (List Nat)) (k x : Nat) : List (List Nat) := nss.mapIdx fun j l => if j < k then l ++ [x] else l
theorem addTo_len (k x : Nat) : (addTo nss k x).length = nss.length := by simp [addTo]
theorem addTo_zero (x : Nat) : addTo nss 0 x = nss := by apply List.ext_getElem? ; intro j; simp [addTo]
theorem addTo_all (x : Nat) : addTo nss nss.length x = nss.map (· ++ [x]) := by
  apply List.ext_getElem?; intro j
  simp only [addTo, List.getElem?_mapIdx, List.getElem?_map]
  by_cases h : j < nss.length
  · simp [h]
  · simp [List.getElem?_eq_none (Nat.le_of_not_lt h)]
theorem addTo_at (k x : Nat) : (addTo nss k x)[k]? = nss[k]? := by simp [addTo]
theorem addTo_succ {ns : List Nat} (x : Nat) (h : nss[k]? = some ns) : (addTo nss k x).set k (ns ++ [x]) = addTo nss (k + 1) x := by
  apply List.ext_getElem?; intro j
  rw [List.getElem?_set, addTo_len]
  obtain ⟨hk, hv⟩ := List.getElem?_eq_some_iff.1 h
  by_cases e : k = j
  · subst e; simp [addTo, hk, hv]
  · rw [if_neg e]
    simp only [addTo, List.getElem?_mapIdx]
    have : (j < k) ↔ (j < k + 1) := by omega
    simp only [this]
theorem addTo_mem {P : List Nat → Prop} (x : Nat) (h1 : ∀ l ∈ nss, P l) (h2 : ∀ l ∈ nss, P (l ++ [x])) : ∀ l ∈ addTo nss k x, P l := by
  intro l hl
  simp only [addTo, List.mem_mapIdx] at hl
  obtain ⟨j, hj, rfl⟩ := hl
  split
  · exact h2 _ (List.getElem_mem hj)
  · exact h1 _ (List.getElem_mem hj)

set_option maxHeartbeats 1000000 in
theorem All_ob (hr : RowsM rs nss) (hn : nss.length ≤ 16) (hm : ∀ l ∈ nss, l.length ≤ 1000000) (x : Nat) (R : List (Nat × Obj)) :
    Fn Try.prog 29 [.pointer (some ⟨o, 0, none⟩), .agg (mC (x : Nat))] (obL o w rs R) (fun v L' => v = .int .i64 0 ∧ ∃ rs', L' = obL o w rs' R ∧ RowsM rs' (nss.map (· ++ [x]))) := by
  refine Fn_enter Try.func29 rfl Try.ntmps29 rfl fun g => ?_
  repeat (first | ((first | refine WL_Q ?_); (first | refine QW_a ?_)) | ((first | refine WL_op rfl ?_); (first | refine OW_box rfl (hk := fun _ => ?_) | refine OW_build1 rfl (hk := fun _ => ?_))) | refine WL_nil ?_ | refine WC_seq ?_ | refine WC_block ?_ | refine WC_cond_t (ht := ?_) | refine WC_cond_f (he := ?_) | refine WC_skip ?_ | refine WC_ret ?_ | refine WC_exit ?_ | refine WC_region ?_)
  rename_i mb
  have hrl : rs.length = nss.length := hr.len
  refine WC_wk [(13, .int .i64 0), (12, .int .i64 (rs.length : Nat)), (0, .pointer (some ⟨o, 0, none⟩)), (3, .pointer (some ⟨mb, 0, none⟩))] ⟨rfl, rfl, rfl, rfl, trivial⟩ ?_
  refine WC_loop (fun m σ => ∃ i rs', m = nss.length - i ∧ i ≤ nss.length ∧ RowsM rs' (addTo nss i x) ∧ σ = ⟨[(13, .int .i64 (i : Nat)), (12, .int .i64 (rs.length : Nat)), (0, .pointer (some ⟨o, 0, none⟩)), (3, .pointer (some ⟨mb, 0, none⟩))], [], (mb, .cells (mC (x : Nat)) 48 (0, 0)) :: obL o w rs' R⟩) nss.length ⟨0, rs, by omega, by omega, by rw [addTo_zero]; exact hr, rfl⟩ ?_
  rintro m σ ⟨i, rs', rfl, hi, hr', rfl⟩
  by_cases hlt : i < nss.length
  · have d1 : decide (((i : Nat) : Int) < ((rs.length : Nat) : Int)) = true := decide_eq_true (by omega)
    obtain ⟨ns, hns⟩ : ∃ ns, nss[i]? = some ns := ⟨_, List.getElem?_eq_getElem hlt⟩
    have hlen : ns.length ≤ 1000000 := hm ns (List.mem_of_getElem? hns)
    have hw1 : IntKind.i64.wrap (((i : Nat) : Int) + 1) = ((i + 1 : Nat) : Int) := by rw [wI64 (by omega) (by omega)]; omega
    repeat (first | ((first | refine WL_Q ?_); (first | refine QW_a ?_)) | ((first | refine WL_op rfl ?_); (first | refine OW_box rfl (hk := fun _ => ?_) | refine OW_build1 rfl (hk := fun _ => ?_))) | refine WL_nil ?_ | refine WC_seq ?_ | refine WC_block ?_ | refine WC_cond_t (ht := ?_) | refine WC_cond_f (he := ?_) | refine WC_skip ?_ | refine WC_ret ?_ | refine WC_exit ?_ | refine WC_region ?_)
    refine WL_op rfl (OW_call rfl (hF := owe_ob (xs := msgs ns) hr' (by rw [List.getElem?_map, addTo_at, hns]; rfl) (by rw [msgs_len]; omega) x [_] R) (hk := ?_))
    rintro _ _ ⟨rs2, rfl, hr2⟩
    repeat (first | ((first | refine WL_Q ?_); (first | refine QW_a ?_)) | ((first | refine WL_op rfl ?_); (first | refine OW_box rfl (hk := fun _ => ?_) | refine OW_build1 rfl (hk := fun _ => ?_))) | refine WL_nil ?_ | refine WC_seq ?_ | refine WC_block ?_ | refine WC_cond_t (ht := ?_) | refine WC_cond_f (he := ?_) | refine WC_skip ?_ | refine WC_ret ?_ | refine WC_exit ?_ | refine WC_region ?_)
    rw [hw1]
    refine ⟨_, _, ?_, ⟨i + 1, rs2, rfl, by omega, ?_, rfl⟩, ⟨rfl, rfl, rfl, rfl, trivial⟩, rfl, .cons _ (.refl _)⟩
    · omega
    · rw [← addTo_succ x hns]; exact RowsM.snoc hr2
  · have d1 : decide (((i : Nat) : Int) < ((rs.length : Nat) : Int)) = false := decide_eq_false (by omega)
    obtain rfl : i = nss.length := by omega
    rw [addTo_all] at hr'
    repeat (first | ((first | refine WL_Q ?_); (first | refine QW_a ?_)) | ((first | refine WL_op rfl ?_); (first | refine OW_box rfl (hk := fun _ => ?_) | refine OW_build1 rfl (hk := fun _ => ?_))) | refine WL_nil ?_ | refine WC_seq ?_ | refine WC_block ?_ | refine WC_cond_t (ht := ?_) | refine WC_cond_f (he := ?_) | refine WC_skip ?_ | refine WC_ret ?_ | refine WC_exit ?_ | refine WC_region ?_)
    exact ⟨rfl, _, _, Res1 rfl (resV_tmp rfl), .cons _ (.refl _), rfl, rs', rfl, hr'⟩
/-- What the first ways owe. -/
def owed (nss : List (List Nat)) (k : Nat) : Nat := ((nss.take k).map List.length).sum
theorem owed_succ {ns : List Nat} (h : nss[k]? = some ns) : owed nss (k + 1) = owed nss k + ns.length := by
  unfold owed
  rw [List.take_add_one, h, List.map_append, List.sum_append]
  simp
theorem sum_le {l : List Nat} {b : Nat} (h : ∀ a ∈ l, a ≤ b) : l.sum ≤ l.length * b := by
  induction l with
  | nil => simp
  | cons a r ih =>
    have h1 := h a (by simp)
    have h2 := ih fun c hc => h c (by simp [hc])
    simp only [List.sum_cons, List.length_cons, Nat.succ_mul]; omega
theorem owed_le (hm : ∀ l ∈ nss, l.length ≤ 1000000) (k : Nat) (hk : k ≤ 16) : owed nss k ≤ 16000000 := by
  have := sum_le (l := (nss.take k).map List.length) (b := 1000000) fun a ha => by
    obtain ⟨l, hl, rfl⟩ := List.mem_map.1 ha
    exact hm l (List.mem_of_mem_take hl)
  simp only [List.length_map, List.length_take] at this
  unfold owed
  have : min k nss.length * 1000000 ≤ 16 * 1000000 := Nat.mul_le_mul_right _ (by omega)
  omega

set_option maxHeartbeats 1000000 in
theorem Owes_ob (hr : RowsM rs nss) (hn : nss.length ≤ 16) (hm : ∀ l ∈ nss, l.length ≤ 1000000) (R : List (Nat × Obj)) :
    Fn Try.prog 37 [.pointer (some ⟨o, 0, none⟩)] (obL o w rs R) (fun v L' => v = .int .i64 ((nss.map List.length).sum : Nat) ∧ L' = obL o w rs R) := by
  refine Fn_enter Try.func37 rfl Try.ntmps37 rfl fun g => ?_
  repeat (first | ((first | refine WL_Q ?_); (first | refine QW_a ?_)) | ((first | refine WL_op rfl ?_); (first | refine OW_callP rfl (hF := Len_ob hr hns (by unfold obL; repeat (first | exact .refl _ | exact List.nil_sublist _ | exact List.sublist_append_left _ _ | apply List.Sublist.cons_cons | apply List.Sublist.cons))) (hk := ?_))) | refine WL_nil ?_ | refine WC_seq ?_ | refine WC_block ?_ | refine WC_cond_t (ht := ?_) | refine WC_cond_f (he := ?_) | refine WC_skip ?_ | refine WC_ret ?_ | refine WC_exit ?_ | refine WC_region ?_)
  have hrl : rs.length = nss.length := hr.len
  refine WC_wk [(11, .int .i64 0), (10, .int .i64 (rs.length : Nat)), (2, .int .i64 0), (0, .pointer (some ⟨o, 0, none⟩))] ⟨rfl, rfl, rfl, rfl, trivial⟩ ?_
  refine WC_loop (fun m σ => ∃ i, m = nss.length - i ∧ i ≤ nss.length ∧ σ = ⟨[(11, .int .i64 (i : Nat)), (10, .int .i64 (rs.length : Nat)), (2, .int .i64 (owed nss i : Nat)), (0, .pointer (some ⟨o, 0, none⟩))], [], obL o w rs R⟩) nss.length ⟨0, by omega, by omega, by simp [owed]⟩ ?_
  rintro m σ ⟨i, rfl, hi, rfl⟩
  by_cases hlt : i < nss.length
  · have d1 : decide (((i : Nat) : Int) < ((rs.length : Nat) : Int)) = true := decide_eq_true (by omega)
    obtain ⟨ns, hns⟩ : ∃ ns, nss[i]? = some ns := ⟨_, List.getElem?_eq_getElem hlt⟩
    have hw1 : IntKind.i64.wrap (((i : Nat) : Int) + 1) = ((i + 1 : Nat) : Int) := by rw [wI64 (by omega) (by omega)]; omega
    have hle := owed_le hm i (by omega)
    have hlen : ns.length ≤ 1000000 := hm ns (List.mem_of_getElem? hns)
    have hw2 : IntKind.i64.wrap (((owed nss i : Nat) : Int) + ((ns.length : Nat) : Int)) = ((owed nss (i + 1) : Nat) : Int) := by rw [owed_succ hns, wI64 (by omega) (by omega)]; omega
    repeat (first | ((first | refine WL_Q ?_); (first | refine QW_a ?_)) | ((first | refine WL_op rfl ?_); (first | refine OW_callP rfl (hF := Len_ob hr hns (by unfold obL; repeat (first | exact .refl _ | exact List.nil_sublist _ | exact List.sublist_append_left _ _ | apply List.Sublist.cons_cons | apply List.Sublist.cons))) (hk := ?_))) | refine WL_nil ?_ | refine WC_seq ?_ | refine WC_block ?_ | refine WC_cond_t (ht := ?_) | refine WC_cond_f (he := ?_) | refine WC_skip ?_ | refine WC_ret ?_ | refine WC_exit ?_ | refine WC_region ?_)
    rw [hw1, hw2]
    exact ⟨_, _, by omega, ⟨i + 1, rfl, by omega, rfl⟩, ⟨rfl, rfl, rfl, rfl, trivial⟩, rfl, .refl _⟩
  · have d1 : decide (((i : Nat) : Int) < ((rs.length : Nat) : Int)) = false := decide_eq_false (by omega)
    obtain rfl : i = nss.length := by omega
    repeat (first | ((first | refine WL_Q ?_); (first | refine QW_a ?_)) | ((first | refine WL_op rfl ?_); (first | refine OW_callP rfl (hF := Len_ob hr hns (by unfold obL; repeat (first | exact .refl _ | exact List.nil_sublist _ | exact List.sublist_append_left _ _ | apply List.Sublist.cons_cons | apply List.Sublist.cons))) (hk := ?_))) | refine WL_nil ?_ | refine WC_seq ?_ | refine WC_block ?_ | refine WC_cond_t (ht := ?_) | refine WC_cond_f (he := ?_) | refine WC_skip ?_ | refine WC_ret ?_ | refine WC_exit ?_ | refine WC_region ?_)
    refine ⟨rfl, _, _, Res1 rfl (resV_tmp rfl), .refl _, ?_, rfl⟩
    simp [owed]
end
end Go.Proofs.Ytcnbecdpfildnaa
