/-
  The document's receiver, the rest: the first message, and its going.
-/
import Derived.Test.YtcnbecdpfildnaaRef21b
namespace Go.Proofs.Ytcnbecdpfildnaa
open Go.RowKit
attribute [local irreducible] Fn WC WL WR OW Qt YieldFn QW

theorem RefC.cons {lv : Value} {T : List (Nat × Obj)} {m : Array Value} {ms : List (Array Value)} (h : RefC lv T (m :: ms)) : ∃ (g off k : Nat) (cur : Array Value), lv = .slice (some ⟨g, off, none⟩) (ms.length + 1) k ∧ T = [(g, .cells cur 48 (0, 0))] ∧ SlAt T 0 g off (ms.length + 1) k 48 24 cur ∧ cur.extract off (off + (ms.length + 1) * 24) = m ++ flat ms := by
  rcases h with ⟨h, _⟩ | ⟨g, off, k, cur, h1, h2, h3, h4⟩
  · cases h
  · exact ⟨g, off, k, cur, h1, h2, h3, h4⟩

theorem extract_two {cur m r : Array Value} {off n : Nat} (h : cur.extract off (off + (n + 1) * 24) = m ++ r) (hm : m.size = 24) (hf : off + (n + 1) * 24 ≤ cur.size) : cur.extract off (off + 24) = m ∧ cur.extract (off + 24) (off + 24 + n * 24) = r := by
  have hz : (cur.extract off (off + (n + 1) * 24)).size = (n + 1) * 24 := by simp; omega
  have hr : r.size = n * 24 := by rw [h] at hz; simp at hz; omega
  constructor
  · have h1 := congrArg (fun x : Array Value => x.extract 0 24) h
    simp only [Array.extract_extract] at h1
    rw [show min (off + 24) (off + (n + 1) * 24) = off + 24 by omega] at h1
    simpa [← hm] using h1
  · have h1 := congrArg (fun x : Array Value => x.extract 24 ((n + 1) * 24)) h
    simp only [Array.extract_extract] at h1
    rw [show min (off + (n + 1) * 24) (off + (n + 1) * 24) = off + 24 + n * 24 by omega] at h1
    rw [h1]
    apply Array.ext_getElem?
    intro j
    rw [Array.getElem?_extract, Array.getElem?_append, Array.size_append, hm, hr]
    by_cases hj : j < n * 24
    · rw [if_pos (by omega), if_neg (by omega)]; congr 1; omega
    · rw [if_neg (by omega), Array.getElem?_eq_none (by omega)]

set_option maxHeartbeats 2000000 in
theorem rhead_cons {q cap : Nat} {lv : Value} {T : List (Nat × Obj)} {m : Array Value} {ms : List (Array Value)} {nx rf : Int} (hR : RefC lv T (m :: ms)) (hm : m.size = 24) (hm1 : (m.toList.all fun v => v.oneCell') = true) (F : List (Nat × Obj)) :
    Fn Try.prog 18 [.pointer (some ⟨q, 0, none⟩)] (rq q cap lv nx rf (T ++ F)) (fun v L' => v = .tuple #[.agg m, .bool true] ∧ L' = rq q cap lv nx rf (T ++ F)) := by
  obtain ⟨g, off, k, cur, rfl, rfl, hS, hx⟩ := hR.cons
  have hf := hS.fit
  have hle := hS.le
  obtain ⟨e1, _⟩ := extract_two hx hm (by omega)
  subst e1
  have d1 : (((ms.length + 1 : Nat) : Int) == 0) = false := by simp; omega
  have d2 : (0 : Int) < ((ms.length + 1 : Nat) : Int) := by omega
  refine Fn_enter Try.func18 rfl Try.ntmps18 rfl fun g => ?_
  repeat (first | ((first | refine WL_Q ?_); (first | refine QW_of (Qt_assign rfl) ?_ | refine QW_of (Qt_move rfl) ?_ | refine QW_of (Qt_nilCheck rfl) ?_ | refine QW_of (Qt_nilCheck_fn rfl) ?_ | refine QW_of (Qt_fieldAddr0 rfl) ?_ | refine QW_of (Qt_fieldAddr rfl) ?_ | refine QW_of (Qt_ld1 rfl) ?_ | refine QW_of (Qt_lenSl rfl) ?_ | refine QW_of (Qt_lenStr rfl) ?_ | refine QW_of (Qt_bin rfl) ?_ | refine QW_of (Qt_build rfl) ?_ | refine QW_of (Qt_indexArr0 rfl) ?_ | refine QW_of (Qt_indexSl0 rfl) ?_ | refine QW_of (Qt_indexArr rfl) ?_ | refine QW_of (Qt_indexSl rfl) ?_ | refine QW_of (Qt_ldA rfl) ?_ | refine QW_of (Qt_ldN rfl) ?_)) | ((first | refine WL_op rfl ?_); (first | refine OW_stA rfl ?_ | refine OW_stN rfl ?_ | refine OW_alloc rfl (hk := fun _ => ?_))) | refine WL_nil ?_ | refine WC_seq ?_ | refine WC_block ?_ | refine WC_cond_t (ht := ?_) | refine WC_cond_f (he := ?_) | refine WC_skip ?_ | refine WC_ret ?_ | refine WC_exit ?_ | refine WC_region ?_)
  refine ⟨rfl, _, _, Res2 rfl (resV_cellN rfl 0 rfl (by simp; omega)) (resV_tmp rfl), .cons _ (.refl _), ?_, rfl⟩
  simp

set_option maxHeartbeats 2000000 in
theorem rpop_cons {q cap : Nat} {lv : Value} {T : List (Nat × Obj)} {m : Array Value} {ms : List (Array Value)} {nx rf : Int} (hR : RefC lv T (m :: ms)) (hm : m.size = 24) (hms : ∀ x ∈ ms, x.size = 24 ∧ (x.toList.all fun v => v.oneCell') = true) (hn : ms.length < 16) (F : List (Nat × Obj)) :
    Fn Try.prog 16 [.pointer (some ⟨q, 0, none⟩)] (rq q cap lv nx rf (T ++ F)) (fun v L' => v = .int .i64 0 ∧ ∃ lv' T', L' = rq q cap lv' nx rf (T' ++ F) ∧ RefC lv' T' ms) := by
  obtain ⟨g, off, k, cur, rfl, rfl, hS, hx⟩ := hR.cons
  have hf := hS.fit
  have hle := hS.le
  obtain ⟨_, e2⟩ := extract_two hx hm (by omega)
  have d1 : (((ms.length + 1 : Nat) : Int) == 0) = false := by simp; omega
  refine Fn_enter Try.func16 rfl Try.ntmps16 rfl fun g => ?_
  repeat (first | ((first | refine WL_Q ?_); (first | refine QW_of (Qt_assign rfl) ?_ | refine QW_of (Qt_move rfl) ?_ | refine QW_of (Qt_nilCheck rfl) ?_ | refine QW_of (Qt_nilCheck_fn rfl) ?_ | refine QW_of (Qt_fieldAddr0 rfl) ?_ | refine QW_of (Qt_fieldAddr rfl) ?_ | refine QW_of (Qt_ld1 rfl) ?_ | refine QW_of (Qt_lenSl rfl) ?_ | refine QW_of (Qt_lenStr rfl) ?_ | refine QW_of (Qt_bin rfl) ?_ | refine QW_of (Qt_sliceL rfl) ?_)) | ((first | refine WL_op rfl ?_); (first | refine OW_build0 rfl (hk := fun _ => ?_) | refine OW_st1 rfl ?_)) | refine WL_nil ?_ | refine WC_seq ?_ | refine WC_block ?_ | refine WC_cond_t (ht := ?_) | refine WC_cond_f (he := ?_) | refine WC_skip ?_ | refine WC_ret ?_ | refine WC_exit ?_ | refine WC_region ?_)
  have e3 : ms.length + 1 - Int.toNat 1 = ms.length := by simp
  rw [e3]
  obtain ⟨so, hso⟩ : ∃ so, slOff k (Int.toNat 1) off 24 = so := ⟨_, rfl⟩
  rw [hso]
  have hso2 : cur.extract so (so + ms.length * 24) = flat ms ∧ so + ms.length * 24 ≤ cur.size := by
    simp only [slOff] at hso
    split at hso
    · rename_i hk
      have hk1 : k = 1 := by simpa using hk
      have h0 : ms = [] := by cases ms with | nil => rfl | cons _ _ => simp at hle; omega
      subst h0
      refine ⟨by simp [flat]; omega, by simp; omega⟩
    · have : so = off + 24 := by simp at hso; omega
      subst this
      exact ⟨e2, by omega⟩
  refine WL_op rfl (OW_append rfl rfl rfl rfl 0 ⟨rfl, by decide, by decide, by simp⟩ rfl 2 rfl hso2.2 ?_ (by simp only [maxLen]; omega) (by omega) ?_)
  · rw [hso2.1]; exact flat_one hms
  rintro g1 off1 cap1 cur1 _ hset1 hS1 hx1
  obtain rfl := Option.some.inj hset1
  repeat (first | ((first | refine WL_Q ?_); (first | refine QW_of (Qt_assign rfl) ?_ | refine QW_of (Qt_move rfl) ?_ | refine QW_of (Qt_nilCheck rfl) ?_ | refine QW_of (Qt_nilCheck_fn rfl) ?_ | refine QW_of (Qt_fieldAddr0 rfl) ?_ | refine QW_of (Qt_fieldAddr rfl) ?_ | refine QW_of (Qt_ld1 rfl) ?_ | refine QW_of (Qt_lenSl rfl) ?_ | refine QW_of (Qt_lenStr rfl) ?_ | refine QW_of (Qt_bin rfl) ?_ | refine QW_of (Qt_sliceL rfl) ?_)) | ((first | refine WL_op rfl ?_); (first | refine OW_build0 rfl (hk := fun _ => ?_) | refine OW_st1 rfl ?_)) | refine WL_nil ?_ | refine WC_seq ?_ | refine WC_block ?_ | refine WC_cond_t (ht := ?_) | refine WC_cond_f (he := ?_) | refine WC_skip ?_ | refine WC_ret ?_ | refine WC_exit ?_ | refine WC_region (id := 0) ?_ | refine WC_region (id := 1) ?_ | refine WC_region (id := 2) ?_ | refine WC_region (id := 3) ?_)
  refine WC_front 1 rfl ?_
  repeat (first | ((first | refine WL_Q ?_); (first | refine QW_of (Qt_assign rfl) ?_ | refine QW_of (Qt_move rfl) ?_ | refine QW_of (Qt_nilCheck rfl) ?_ | refine QW_of (Qt_nilCheck_fn rfl) ?_ | refine QW_of (Qt_fieldAddr0 rfl) ?_ | refine QW_of (Qt_fieldAddr rfl) ?_ | refine QW_of (Qt_ld1 rfl) ?_ | refine QW_of (Qt_lenSl rfl) ?_ | refine QW_of (Qt_lenStr rfl) ?_ | refine QW_of (Qt_bin rfl) ?_ | refine QW_of (Qt_sliceL rfl) ?_)) | ((first | refine WL_op rfl ?_); (first | refine OW_build0 rfl (hk := fun _ => ?_) | refine OW_st1 rfl ?_)) | refine WL_nil ?_ | refine WC_seq ?_ | refine WC_block ?_ | refine WC_cond_t (ht := ?_) | refine WC_cond_f (he := ?_) | refine WC_skip ?_ | refine WC_ret ?_ | refine WC_exit ?_ | refine WC_region ?_)
  exact ⟨rfl, _, rq q cap (.slice (some ⟨g1, off1, none⟩) (0 + ms.length) cap1) nx rf ((g1, .cells cur1 48 (0, 0)) :: F), Res1 rfl (resV_tmp rfl), (by repeat (first | exact .refl _ | apply List.Sublist.cons_cons | apply List.Sublist.cons)), rfl, _, [(g1, .cells cur1 48 (0, 0))], rfl, .inr ⟨g1, off1, cap1, cur1, by simp, rfl, ⟨rfl, by have := hS1.le; omega, hS1.max, hS1.fit⟩, by rw [Nat.zero_add] at hx1; rw [hx1, hso2.1]; simp⟩⟩
end Go.Proofs.Ytcnbecdpfildnaa
