/-
  The document's outbox: Owes; what a Flush sends by the document.
-/
import Derived.Test.YtcnbecdpfildnaaOb11
namespace Go.Proofs.Ytcnbecdpfildnaa
open Go.RowKit
attribute [local irreducible] Fn WC WL WR OW Qt YieldFn QW FnP FnD

section
variable {o w : Nat} {rs : List (Value × List (Nat × Obj))} {nss : List (List Nat)}
set_option maxHeartbeats 1000000 in
theorem rOwes_ob (hr : RowsM rs nss) (hn : nss.length ≤ 16) (hm : ∀ l ∈ nss, l.length ≤ 1000000) (R : List (Nat × Obj)) :
    Fn Try.prog 38 [.pointer (some ⟨o, 0, none⟩)] (rbL o w rs R) (fun v L' => v = .int .i64 ((nss.map List.length).sum : Nat) ∧ L' = rbL o w rs R) := by
  refine Fn_enter Try.func38 rfl Try.ntmps38 rfl fun g => ?_
  repeat (first | ((first | refine WL_Q ?_); (first | refine QW_a ?_)) | refine WL_nil ?_ | refine WC_seq ?_ | refine WC_block ?_ | refine WC_cond_t (ht := ?_) | refine WC_cond_f (he := ?_) | refine WC_skip ?_ | refine WC_ret ?_ | refine WC_exit ?_ | refine WC_region ?_)
  have hrl : rs.length = nss.length := hr.len
  refine WC_wk [(4, .int .i64 0), (3, .int .i64 0), (0, .pointer (some ⟨o, 0, none⟩))] ⟨rfl, rfl, rfl, trivial⟩ ?_
  refine WC_loop (fun m σ => ∃ i, m = nss.length - i ∧ i ≤ nss.length ∧ σ = ⟨[(4, .int .i64 (i : Nat)), (3, .int .i64 (owed nss i : Nat)), (0, .pointer (some ⟨o, 0, none⟩))], [], rbL o w rs R⟩) nss.length ⟨0, by omega, by omega, by simp [owed]⟩ ?_
  rintro m σ ⟨i, rfl, hi, rfl⟩
  by_cases hlt : i < nss.length
  · have d1 : decide (((i : Nat) : Int) < ((rs.length : Nat) : Int)) = true := decide_eq_true (by omega)
    have d2 : ((i : Nat) : Int) < ((rs.length : Nat) : Int) := by omega
    obtain ⟨ns, hns⟩ : ∃ ns, nss[i]? = some ns := ⟨_, List.getElem?_eq_getElem hlt⟩
    obtain ⟨a, cap, hrow⟩ := rLen_row hr hns
    have hw1 : IntKind.i64.wrap (((i : Nat) : Int) + 1) = ((i + 1 : Nat) : Int) := by rw [wI64 (by omega) (by omega)]; omega
    have hle := owed_le hm i (by omega)
    have hlen : ns.length ≤ 1000000 := hm ns (List.mem_of_getElem? hns)
    have hw2 : IntKind.i64.wrap (((owed nss i : Nat) : Int) + ((ns.length : Nat) : Int)) = ((owed nss (i + 1) : Nat) : Int) := by rw [owed_succ hns, wI64 (by omega) (by omega)]; omega
    repeat (first | ((first | refine WL_Q ?_); (first | refine QW_a ?_)) | refine WL_nil ?_ | refine WC_seq ?_ | refine WC_block ?_ | refine WC_cond_t (ht := ?_) | refine WC_cond_f (he := ?_) | refine WC_skip ?_ | refine WC_ret ?_ | refine WC_exit ?_ | refine WC_region ?_)
    rw [hw1, hw2]
    exact ⟨_, _, by omega, ⟨i + 1, rfl, by omega, rfl⟩, ⟨rfl, rfl, rfl, trivial⟩, rfl, .refl _⟩
  · have d1 : decide (((i : Nat) : Int) < ((rs.length : Nat) : Int)) = false := decide_eq_false (by omega)
    obtain rfl : i = nss.length := by omega
    repeat (first | ((first | refine WL_Q ?_); (first | refine QW_a ?_)) | refine WL_nil ?_ | refine WC_seq ?_ | refine WC_block ?_ | refine WC_cond_t (ht := ?_) | refine WC_cond_f (he := ?_) | refine WC_skip ?_ | refine WC_ret ?_ | refine WC_exit ?_ | refine WC_region ?_)
    refine ⟨rfl, _, _, Res1 rfl (resV_tmp rfl), .refl _, ?_, rfl⟩
    simp [owed]
theorem Send_R {p r : Nat} {ws ms : List Nat} {S : List (Nat × Obj)} (hp : PostP p r ws ms S) (k x : Nat) (hws : ws.length ≤ 1000000) (hms : ms.length ≤ 1000000) (R : List (Nat × Obj)) :
    Fn Try.prog 35 [.pointer (some ⟨p, 0, none⟩), .int .i64 (k : Nat), .agg (mC (x : Nat))] (rbL o w rs (S ++ R))
      (fun v L' => ∃ S', L' = rbL o w rs (S' ++ R) ∧ ((ws.count k < r ∧ v = .bool true ∧ PostP p r (ws ++ [k]) (ms ++ [x]) S') ∨ (r ≤ ws.count k ∧ v = .bool false ∧ PostP p r ws ms S'))) :=
  (Send_P hp k x hws hms [] (rbL o w rs R)).perm (perm_R o w rs S R) fun _ _ ⟨S', h1, h2⟩ => ⟨rbL o w rs (S' ++ R), h1 ▸ (perm_R o w rs S' R).symm, S', rfl, h2⟩
theorem WC_perm {c : Cx} {code : Code} {K : Exit → St → Prop} {s : List (Nat × Value)} {D : List Deferred} {L L' : List (Nat × Obj)} (hp : L'.Perm L) (h : WC c code K ⟨s, D, L'⟩) : WC c code K ⟨s, D, L⟩ := by
  unfold WC at h ⊢
  exact fun a w ha => h a w (ha.mem' (ha.mem.perm hp))
set_option maxHeartbeats 4000000 in
theorem flushed_ob {r : Nat} (hr : RowsM rs nss) (hn : nss.length ≤ 16) (hm : ∀ l ∈ nss, l.length ≤ 20000) (R : List (Nat × Obj)) :
    Fn Try.prog 33 [.pointer (some ⟨o, 0, none⟩), .int .i64 (r : Nat)] (rbL o w rs R) (fun v L' => ∃ p S' rs', v = .pointer (some ⟨p, 0, none⟩) ∧ L' = rbL o w rs' (S' ++ R) ∧ PostP p r (sW r nss nss.length) (sM r nss nss.length) S' ∧ RowsM rs' (nss.map (·.drop r))) := by
  refine Fn_enter Try.func33 rfl Try.ntmps33 rfl fun g => ?_
  repeat (first | ((first | refine WL_Q ?_ | refine WL_Y ?_); (first | refine QW_a ?_)) | ((first | refine WL_op rfl ?_ | refine WL_yes (h := ?_)); (first | refine OW_box rfl (hk := fun _ => ?_))) | refine WL_nil ?_ | refine WL_un (h := ?_) | refine WL_N ?_ | refine WL_M ?_ | refine WC_seq ?_ | refine WC_block (id := 1) ?_ | refine WC_block (id := 2) ?_ | refine WC_block (id := 3) ?_ | refine WC_cond_t (ht := ?_) | refine WC_cond_f (he := ?_) | refine WC_skip ?_ | refine WC_ret ?_ | refine WC_exit ?_ | refine WC_region ?_)
  rename_i p
  have hP0 : PostP p r [] [] [(p, pO (r : Nat) (.slice none 0 0) (.slice none 0 0) (.map none))] := ⟨[], ⟨_, [], _, [], _, [], rfl, Buf.nil _ _, Buf.nil _ _, .inl ⟨rfl, rfl, rfl⟩⟩, fun k => by simp [aGet]⟩
  refine WC_perm (L' := rbL o w rs ([(p, pO (r : Nat) (.slice none 0 0) (.slice none 0 0) (.map none))] ++ R)) (perm_R o w rs [_] R).symm ?_
  refine WC_block (WC_wk [(6, .int .i64 0), (5, .pointer (some ⟨p, 0, none⟩)), (0, .pointer (some ⟨o, 0, none⟩))] ⟨rfl, rfl, rfl, trivial⟩ ?_)
  refine WC_loop (fun m σ => ∃ i S' rs', m = nss.length - i ∧ i ≤ nss.length ∧ PostP p r (sW r nss i) (sM r nss i) S' ∧ RowsM rs' (dropTo r nss i) ∧ σ = ⟨[(6, .int .i64 (i : Nat)), (5, .pointer (some ⟨p, 0, none⟩)), (0, .pointer (some ⟨o, 0, none⟩))], [], rbL o w rs' (S' ++ R)⟩) nss.length ⟨0, _, rs, by omega, by omega, hP0, by rw [dropTo_zero]; exact hr, rfl⟩ ?_
  rintro m σ ⟨i, S', rs', rfl, hi, hP', hr', rfl⟩
  have hdl : (dropTo r nss i).length = nss.length := by simp [dropTo]
  have hrl : rs'.length = nss.length := by rw [hr'.len, hdl]
  by_cases hlt : i < nss.length
  · have d1 : decide (((i : Nat) : Int) < ((rs'.length : Nat) : Int)) = true := decide_eq_true (by omega)
    obtain ⟨ns, hns⟩ : ∃ ns, nss[i]? = some ns := ⟨_, List.getElem?_eq_getElem hlt⟩
    have hlen : ns.length ≤ 20000 := hm ns (List.mem_of_getElem? hns)
    have hw1 : IntKind.i64.wrap (((i : Nat) : Int) + 1) = ((i + 1 : Nat) : Int) := by rw [wI64 (by omega) (by omega)]; omega
    have hsm := sM_le (r := r) (i := i) hm
    have hsw := sM_len (r := r) (nss := nss) hi
    have hri : (dropTo r nss i)[i]? = some ns := by rw [dropTo_at]; exact hns
    repeat (first | ((first | refine WL_Q ?_ | refine WL_Y ?_); (first | refine QW_a ?_)) | ((first | refine WL_op rfl ?_ | refine WL_yes (h := ?_)); (first | refine OW_box rfl (hk := fun _ => ?_))) | refine WL_nil ?_ | refine WL_un (h := ?_) | refine WL_N ?_ | refine WL_M ?_ | refine WC_seq ?_ | refine WC_block (id := 0) ?_ | refine WC_block (id := 1) ?_ | refine WC_block (id := 3) ?_ | refine WC_cond_t (ht := ?_) | refine WC_cond_f (he := ?_) | refine WC_skip ?_ | refine WC_ret ?_ | refine WC_exit ?_ | refine WC_region ?_)
    refine WC_meetK (fun σ => ∃ S2 rs2, PostP p r (sW r nss (i + 1)) (sM r nss (i + 1)) S2 ∧ RowsM rs2 (dropTo r nss (i + 1)) ∧ σ = ⟨[(6, .int .i64 (i : Nat)), (5, .pointer (some ⟨p, 0, none⟩)), (0, .pointer (some ⟨o, 0, none⟩))], [], rbL o w rs2 (S2 ++ R)⟩) ?_ ?_
    · refine WC_block (WC_wk [(6, .int .i64 (i : Nat)), (5, .pointer (some ⟨p, 0, none⟩)), (0, .pointer (some ⟨o, 0, none⟩))] ⟨rfl, rfl, rfl, trivial⟩ ?_)
      refine WC_loop (fun m σ => ∃ j S2 rs2, m = min r ns.length - j ∧ j ≤ min r ns.length ∧ PostP p r (sW r nss i ++ List.replicate j i) (sM r nss i ++ ns.take j) S2 ∧ RowsM rs2 ((dropTo r nss i).set i (ns.drop j)) ∧ σ = ⟨[(6, .int .i64 (i : Nat)), (5, .pointer (some ⟨p, 0, none⟩)), (0, .pointer (some ⟨o, 0, none⟩))], [], rbL o w rs2 (S2 ++ R)⟩) (min r ns.length) ⟨0, S', rs', by omega, by omega, by simpa using hP', by
        have e : (dropTo r nss i).set i (ns.drop 0) = dropTo r nss i := by
          apply List.ext_getElem?; intro q
          rw [List.getElem?_set]
          by_cases e : i = q
          · subst e; rw [if_pos rfl, if_pos (by omega), hri]; rfl
          · rw [if_neg e]
        rw [e]; exact hr', rfl⟩ ?_
      rintro m σ ⟨j, S2, rs2, rfl, hj, hP2, hr2, rfl⟩
      have hx2 : ((dropTo r nss i).set i (ns.drop j))[i]? = some (ns.drop j) := by simp [hdl, hlt]
      have hr2l : rs2.length = nss.length := by rw [hr2.len, List.length_set, hdl]
      have hi2 : ((i : Nat) : Int) < ((rs2.length : Nat) : Int) := by omega
      have hcount : (sW r nss i ++ List.replicate j i).count i = j := by rw [List.count_append, sW_count, List.count_replicate_self]; omega
      obtain ⟨a2, cap2, T2, hrow2, hb2⟩ := hr2.row hx2
      have hc2 : (rs2.map Prod.fst).toArray[((i : Nat) : Int).toNat * 1]? = some (.slice a2 (ns.drop j).length cap2) := by simpa using rows_get hrow2
      have fin : j = min r ns.length → ∀ S, PostP p r (sW r nss i ++ List.replicate j i) (sM r nss i ++ ns.take j) S → PostP p r (sW r nss (i + 1)) (sM r nss (i + 1)) S := by
        intro e S h; rw [sW_succ hns, sM_succ hns, ← take_min, ← e]; exact h
      have finR : j = min r ns.length → RowsM rs2 (dropTo r nss (i + 1)) := by
        intro e; rw [← dropTo_succ hns, ← drop_min, ← e]; exact hr2
      by_cases hjl : j < ns.length
      · obtain ⟨x, hxj⟩ : ∃ x, ns[j]? = some x := ⟨_, List.getElem?_eq_getElem hjl⟩
        have hd : ns.drop j = x :: ns.drop (j + 1) := by
          obtain ⟨h1, h2⟩ := List.getElem?_eq_some_iff.1 hxj
          rw [← h2, List.getElem_cons_drop]
        have e1 : decide ((((ns.drop j).length : Nat) : Int) > 0) = true := decide_eq_true (by rw [hd]; simp)
        have e2 : (0 : Int) < (((ns.drop j).length : Nat) : Int) := of_decide_eq_true e1
        obtain ⟨gb, goff, gcur, rfl, rfl, hown⟩ := hb2.full (by rw [hd]; simp)
        have hfit : goff + Int.toNat 0 * 24 + 24 ≤ gcur.size := by
          have h1 := hown.fit; have h2 := hown.le
          rw [hd, List.length_cons] at h2
          simp; omega
        have hex : gcur.extract (goff + Int.toNat 0 * 24) (goff + Int.toNat 0 * 24 + 24) = mC (x : Nat) := by
          have h24 := msgs_take (ns.drop (j + 1)) x
          rw [← hd] at h24
          have hl24 : (msgs (ns.drop j)).length = (ns.drop j).length * 24 := msgs_len _
          rw [hd, List.length_cons] at hl24
          apply Array.ext_getElem?
          intro q
          have hj0 : (mC (x : Nat))[q]? = ((msgs (ns.drop j)).take 24)[q]? := by rw [h24, Array.getElem?_toList]
          rw [Array.getElem?_extract, hj0, List.getElem?_take]
          by_cases hq : q < 24
          · rw [if_pos (by simp; omega), if_pos hq]
            have := hown.at_ q ((msgs (ns.drop j))[q]'(by rw [hd]; omega)) (List.getElem?_eq_getElem _)
            simp only [Int.toNat_zero, Nat.zero_mul, Nat.add_zero]
            rw [this, List.getElem?_eq_getElem]
          · rw [if_neg (by simp; omega), if_neg hq]
        obtain ⟨jg, hg⟩ : ∃ q : Nat, (rbL o w rs2 (S2 ++ R))[q]? = some (gb, .cells gcur 48 (0, 0)) := List.mem_iff_getElem?.1 (by
          unfold rbL
          rw [rowsL_split hrow2]
          simp)
        repeat (first | ((first | refine WL_Q ?_ | refine WL_Y ?_); (first | refine QW_a ?_)) | ((first | refine WL_op rfl ?_ | refine WL_yes (h := ?_)); (first | refine OW_box rfl (hk := fun _ => ?_))) | refine WL_nil ?_ | refine WL_un (h := ?_) | refine WL_N ?_ | refine WL_M ?_ | refine WC_seq ?_ | refine WC_block ?_ | refine WC_cond_t (ht := ?_) | refine WC_cond_f (he := ?_) | refine WC_skip ?_ | refine WC_ret ?_ | refine WC_exit ?_ | refine WC_region ?_)
        rw [hex]
        repeat (first | ((first | refine WL_Q ?_ | refine WL_Y ?_); (first | refine QW_a ?_)) | ((first | refine WL_op rfl ?_ | refine WL_yes (h := ?_)); (first | refine OW_box rfl (hk := fun _ => ?_))) | refine WL_nil ?_ | refine WL_un (h := ?_) | refine WL_N ?_ | refine WL_M ?_ | refine WC_seq ?_ | refine WC_block ?_ | refine WC_cond_t (ht := ?_) | refine WC_cond_f (he := ?_) | refine WC_skip ?_ | refine WC_ret ?_ | refine WC_exit ?_ | refine WC_region ?_)
        have hl1 : (sW r nss i ++ List.replicate j i).length ≤ 1000000 := by rw [List.length_append, List.length_replicate]; omega
        have hl2 : (sM r nss i ++ ns.take j).length ≤ 1000000 := by rw [List.length_append, List.length_take]; omega
        refine WL_yes (h := OW_call rfl (hF := Send_R (rs := rs2) hP2 i x hl1 hl2 R) (hk := ?_))
        rw [hcount]
        rintro _ _ ⟨S3, rfl, ⟨h1, rfl, hP3⟩ | ⟨h1, rfl, hP3⟩⟩
        · repeat (first | ((first | refine WL_Q ?_ | refine WL_Y ?_); (first | refine QW_a ?_)) | ((first | refine WL_op rfl ?_ | refine WL_yes (h := ?_)); (first | refine OW_box rfl (hk := fun _ => ?_))) | refine WL_nil ?_ | refine WL_un (h := ?_) | refine WL_N ?_ | refine WL_M ?_ | refine WC_seq ?_ | refine WC_block ?_ | refine WC_cond_t (ht := ?_) | refine WC_cond_f (he := ?_) | refine WC_skip ?_ | refine WC_ret ?_ | refine WC_exit ?_ | refine WC_region ?_)
          refine WL_op rfl (OW_call rfl (hF := rPop_ob (x := x) (ns := ns.drop (j + 1)) hr2 (by rw [hx2, hd]) [] (S3 ++ R)) (hk := ?_))
          rintro _ _ ⟨rfl, rs3, rfl, hr3⟩
          rw [List.set_set] at hr3
          repeat (first | ((first | refine WL_Q ?_ | refine WL_Y ?_); (first | refine QW_a ?_)) | ((first | refine WL_op rfl ?_ | refine WL_yes (h := ?_)); (first | refine OW_box rfl (hk := fun _ => ?_))) | refine WL_nil ?_ | refine WL_un (h := ?_) | refine WL_N ?_ | refine WL_M ?_ | refine WC_seq ?_ | refine WC_block ?_ | refine WC_cond_t (ht := ?_) | refine WC_cond_f (he := ?_) | refine WC_skip ?_ | refine WC_ret ?_ | refine WC_exit ?_ | refine WC_region ?_)
          refine ⟨_, _, ?_, ⟨j + 1, S3, rs3, rfl, by omega, ?_, hr3, rfl⟩, ⟨rfl, rfl, rfl, trivial⟩, rfl, .refl _⟩
          · omega
          · rw [List.replicate_succ', ← List.append_assoc, List.take_add_one, hxj, ← List.append_assoc]
            exact hP3
        · repeat (first | ((first | refine WL_Q ?_ | refine WL_Y ?_); (first | refine QW_a ?_)) | ((first | refine WL_op rfl ?_ | refine WL_yes (h := ?_)); (first | refine OW_box rfl (hk := fun _ => ?_))) | refine WL_nil ?_ | refine WL_un (h := ?_) | refine WL_N ?_ | refine WL_M ?_ | refine WC_seq ?_ | refine WC_block ?_ | refine WC_cond_t (ht := ?_) | refine WC_cond_f (he := ?_) | refine WC_skip ?_ | refine WC_ret ?_ | refine WC_exit ?_ | refine WC_region ?_)
          exact ⟨_, ⟨S3, rs2, fin (by omega) S3 hP3, finR (by omega), rfl⟩, ⟨rfl, rfl, rfl, trivial⟩, rfl, .refl _⟩
      · have hd : ns.drop j = [] := List.drop_eq_nil_of_le (by omega)
        have e1 : decide ((((ns.drop j).length : Nat) : Int) > 0) = false := decide_eq_false (by rw [hd]; simp)
        repeat (first | ((first | refine WL_Q ?_ | refine WL_Y ?_); (first | refine QW_a ?_)) | ((first | refine WL_op rfl ?_ | refine WL_yes (h := ?_)); (first | refine OW_box rfl (hk := fun _ => ?_))) | refine WL_nil ?_ | refine WL_un (h := ?_) | refine WL_N ?_ | refine WL_M ?_ | refine WC_seq ?_ | refine WC_block ?_ | refine WC_cond_t (ht := ?_) | refine WC_cond_f (he := ?_) | refine WC_skip ?_ | refine WC_ret ?_ | refine WC_exit ?_ | refine WC_region ?_)
        exact ⟨_, ⟨S2, rs2, fin (by omega) S2 hP2, finR (by omega), rfl⟩, ⟨rfl, rfl, rfl, trivial⟩, rfl, .refl _⟩
    · rintro σ ⟨_, ⟨S2, rs2, hP2, hr2, rfl⟩, hs, hD, hL2⟩
      refine WC_lessen hs hD hL2 ?_
      repeat (first | ((first | refine WL_Q ?_ | refine WL_Y ?_); (first | refine QW_a ?_)) | ((first | refine WL_op rfl ?_ | refine WL_yes (h := ?_)); (first | refine OW_box rfl (hk := fun _ => ?_))) | refine WL_nil ?_ | refine WL_un (h := ?_) | refine WL_N ?_ | refine WL_M ?_ | refine WC_seq ?_ | refine WC_block ?_ | refine WC_cond_t (ht := ?_) | refine WC_cond_f (he := ?_) | refine WC_skip ?_ | refine WC_ret ?_ | refine WC_exit ?_ | refine WC_region ?_)
      rw [hw1]
      exact ⟨_, _, by omega, ⟨i + 1, S2, rs2, rfl, by omega, hP2, hr2, rfl⟩, ⟨rfl, rfl, rfl, trivial⟩, rfl, .refl _⟩
  · have d1 : decide (((i : Nat) : Int) < ((rs'.length : Nat) : Int)) = false := decide_eq_false (by omega)
    obtain rfl : i = nss.length := by omega
    rw [dropTo_all] at hr'
    repeat (first | ((first | refine WL_Q ?_ | refine WL_Y ?_); (first | refine QW_a ?_)) | ((first | refine WL_op rfl ?_ | refine WL_yes (h := ?_)); (first | refine OW_box rfl (hk := fun _ => ?_))) | refine WL_nil ?_ | refine WL_un (h := ?_) | refine WL_N ?_ | refine WL_M ?_ | refine WC_seq ?_ | refine WC_block ?_ | refine WC_cond_t (ht := ?_) | refine WC_cond_f (he := ?_) | refine WC_skip ?_ | refine WC_ret ?_ | refine WC_exit ?_ | refine WC_region ?_)
    exact ⟨rfl, _, _, Res1 rfl (resV_tmp rfl), .refl _, p, S', rs', rfl, rfl, hP', hr'⟩
end
end Go.Proofs.Ytcnbecdpfildnaa
