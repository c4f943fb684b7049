/-
  A part of what the last of these texts needs; by itself it proves no statement.
-/
import Derived.ProofKit
import Derived.Deep.Slices
import Derived.OpenShut
import Derived.Test.YtakedlockchpcaaGreatDoorKP5
namespace Go.Proofs.YtakedlockchpcaaGreatDoor
open Go.RowKit
attribute [local irreducible] Fn WC WL WR OW Qt YieldFn QW FnP FnD FnE
abbrev getV (gb : Nat) : Value := .iface 216 (.pointer (some ⟨gb, 0, none⟩))
theorem get_stps_ok {gb rb : Nat} {l : List UInt8} : ∀ {fs : List Fk} {s s' : Nat × Nat} {vs us : List Value}, Oks fs vs → (getW gb rb l).stps fs s vs = .ok s' us → prs l fs s.1 = .ok us s'.1
  | [], s, s', [], us, _, h => by simp only [Wy.stps] at h; cases h; rfl
  | k :: ks, s, s', v :: vs, us, ho, h => by
    simp only [Wy.stps] at h
    cases h1 : (getW gb rb l).stp k s v with
    | bad c a => rw [h1] at h; cases h
    | ok s1 v1 =>
      rw [h1] at h
      cases h2 : (getW gb rb l).stps ks s1 vs with
      | bad c a => simp only [h2] at h; cases h
      | ok s2 vs2 =>
        simp only [h2] at h
        cases h
        have e1 := getStp_ok (show getStp l k s = .ok s1 v1 from h1)
        have e2 := get_stps_ok ho.2 h2
        simp only [prs, e1, PR.bind, e2]
  | [], _, _, _ :: _, _, h, _ => h.elim
  | _ :: _, _, _, [], _, h, _ => h.elim
theorem getStp_bad {l : List UInt8} {k : Fk} {s : Nat × Nat} {c a : Nat} (h : getStp l k s = .bad c a) : Fk.pr l s.1 k = .bad c a := by
  unfold getStp at h
  split at h
  · cases h
  · rename_i h1; cases h; exact h1
theorem get_stps_bad {gb rb : Nat} {l : List UInt8} : ∀ {fs : List Fk} {s : Nat × Nat} {vs : List Value} {c a : Nat}, Oks fs vs → (getW gb rb l).stps fs s vs = .bad c a → prs l fs s.1 = .bad c a
  | [], s, [], c, a, _, h => by simp only [Wy.stps] at h; cases h
  | k :: ks, s, v :: vs, c, a, ho, h => by
    simp only [Wy.stps] at h
    cases h1 : (getW gb rb l).stp k s v with
    | bad c' a' =>
      rw [h1] at h; cases h
      have e1 := getStp_bad (show getStp l k s = .bad _ _ from h1)
      simp only [prs, e1, PR.bind]
    | ok s1 v1 =>
      rw [h1] at h
      have e1 := getStp_ok (show getStp l k s = .ok s1 v1 from h1)
      cases h2 : (getW gb rb l).stps ks s1 vs with
      | bad c' a' =>
        simp only [h2] at h; cases h
        have e2 := get_stps_bad ho.2 h2
        simp only [prs, e1, PR.bind, e2]
      | ok s2 vs2 => simp only [h2] at h; cases h
  | [], _, _ :: _, _, _, h, _ => h.elim
  | _ :: _, _, [], _, _, h, _ => h.elim
theorem prn_step {l : List UInt8} {es : List Fk} {n j a0 aj a' : Nat} {vss : List (List Value)} {us : List Value} (hp : prn l es n a0 = (prn l es (n - j) aj).bind fun vs b => .ok (vss ++ vs) b) (hj : j < n) (h : prs l es aj = .ok us a') : prn l es n a0 = (prn l es (n - (j + 1)) a').bind fun vs b => .ok ((vss ++ [us]) ++ vs) b := by
  obtain ⟨k, hk⟩ : ∃ k, n - j = k + 1 := ⟨n - j - 1, by omega⟩
  rw [hp, hk, show n - (j + 1) = k by omega, prn, h]
  simp only [PR.bind]
  cases prn l es k a' with
  | bad c a => rfl
  | ok vs b => simp
theorem prn_stop {l : List UInt8} {es : List Fk} {n j a0 aj c a : Nat} {vss : List (List Value)} (hp : prn l es n a0 = (prn l es (n - j) aj).bind fun vs b => .ok (vss ++ vs) b) (hj : j < n) (h : prs l es aj = .bad c a) : prn l es n a0 = .bad c a := by
  obtain ⟨k, hk⟩ : ∃ k, n - j = k + 1 := ⟨n - j - 1, by omega⟩
  rw [hp, hk, prn, h]
  rfl
theorem own_upd {sz : Nat} {cur cur' : Array Value} {off cap n : Nat} {xs zs us : List Value} (h : Own sz cur off cap (n + 1) (xs ++ zs)) (hx : xs.length = n * sz) (hu : Upd cur cur' (off + n * sz) us) (hul : us.length = sz) : Own sz cur' off cap (n + 1) (xs ++ us) := by
  refine ⟨by rw [List.length_append, hx, hul, Nat.succ_mul], h.le, h.max, by rw [hu.size]; exact h.fit, fun j x hj => ?_⟩
  by_cases hlt : j < xs.length
  · rw [List.getElem?_append_left hlt] at hj
    rw [hu.rest _ (.inl (by omega))]
    exact h.at_ j x (by rw [List.getElem?_append_left hlt]; exact hj)
  · rw [List.getElem?_append_right (by omega)] at hj
    have := hu.lies _ x hj
    rwa [show off + n * sz + (j - xs.length) = off + j by omega] at this
theorem Buf.full' {E sz : Nat} {v : Value} {T : List (Nat × Obj)} {n : Nat} {xs : List Value} (h : Buf E sz v T n xs) (hn : n ≠ 0) : ∃ g off cur, (∃ cap, v = .slice (some ⟨g, off, none⟩) n cap ∧ Own sz cur off cap n xs) ∧ T = [(g, .cells cur E (0, 0))] := by
  rcases h with ⟨_, h, _⟩ | ⟨g, off, cap, cur, rfl, rfl, ho⟩
  · exact absurd h hn
  · exact ⟨g, off, cur, ⟨cap, rfl, ho⟩, rfl⟩
theorem set_twice {cs : Array Value} {off : Nat} (u v : Value) : (cs.setIfInBounds off u).setIfInBounds off v = cs.setIfInBounds off v := by
  apply Array.ext_getElem?
  intro j
  by_cases e : off = j
  · subst e
    by_cases hlt : off < cs.size
    · rw [Array.getElem?_setIfInBounds_self_of_lt (by simpa using hlt), Array.getElem?_setIfInBounds_self_of_lt hlt]
    · rw [Array.getElem?_eq_none (by simp; omega), Array.getElem?_eq_none (by simp; omega)]
  · rw [Array.getElem?_setIfInBounds_ne e, Array.getElem?_setIfInBounds_ne e, Array.getElem?_setIfInBounds_ne e]
theorem set_idem {cs : Array Value} {off : Nat} {v : Value} (h : cs[off]? = some v) : cs.setIfInBounds off v = cs := by
  apply Array.ext_getElem?
  intro j
  by_cases e : off = j
  · subst e; rw [Array.getElem?_setIfInBounds_self_of_lt (Array.getElem?_eq_some_iff.1 h).1, h]
  · rw [Array.getElem?_setIfInBounds_ne e]
abbrev zInt : List Value := [.int .i64 0]
theorem zInt_ok : Oks binF zInt := ⟨oks_zI, trivial⟩
abbrev zEnt : List Value := [.int .i64 0, .int .u32 0, .int .i64 0, .int .i64 0, .int .u8 0, .int .i64 0, .int .i64 0, .int .u64 0, .int .i64 0, .int .i64 0]
theorem zEnt_ok : Oks entryF zEnt := ⟨oks_zI, ⟨0, rfl, by omega, by omega⟩, oks_zI, oks_zI, ⟨0, rfl⟩, oks_zI, oks_zI, ⟨0, rfl, by omega, by omega⟩, oks_zI, oks_zI, trivial⟩
set_option maxHeartbeats 4000000 in
theorem glist_int {gb rb : Nat} {l : List UInt8} (hl9 : l.length ≤ 1000000000) {s : Nat × Nat} {Lp R : List (Nat × Obj)} {i b : Nat} {cs : Array Value} {E : TypeId} {fr : Nat × Nat} {off most : Nat} (hm9 : most ≤ 1000) (hM : GMem gb rb l s Lp) (hR : R[i]? = some (b, .cells cs E fr)) (hc : cs[off]? = some (.slice none 0 0)) (hfr : Free fr off 1) :
    FnE Tryz.prog 103 [getV gb, .pointer (some ⟨b, off, none⟩), .int .i64 (most : Nat), .func (.func 101) #[] #[]] (Lp ++ R)
      (fun v L' => v = .tuple #[] ∧ ∃ vss s' Lp' v' T, prl l most binF s.1 = .ok vss s'.1 ∧ L' = Lp' ++ (T ++ R.set i (b, .cells (cs.setIfInBounds off v') E fr)) ∧ GMem gb rb l s' Lp' ∧ Buf 3 1 v' T vss.length vss.flatten)
      (fun u L' => ∃ c a p s' Lp' cs', prl l most binF s.1 = .bad c a ∧ u = flt p ∧ L' = (p, fltO c a) :: (Lp' ++ R.set i (b, .cells cs' E fr)) ∧ GMem gb rb l s' Lp' ∧ cs'.size = cs.size) := by
  have ih := (getM (gb := gb) (rb := rb) hl9).ih
  have jn := (getM (gb := gb) (rb := rb) hl9).jn
  have im := (getM (gb := gb) (rb := rb) hl9).im
  have hz : off < cs.size := (Array.getElem?_eq_some_iff.1 hc).1
  have hwm : IntKind.u64.wrap ((most : Nat) : Int) = ((most : Nat) : Int) := wU64 (by omega) (by omega)
  refine FnE_enter Tryz.func103 rfl Tryz.ntmps103 rfl fun g => ?_
  repeat (first | ((first | refine WL_Q ?_); (first | refine QW_a ?_ | refine QW_of (Qt_nilCheck_m rfl) ?_)) | ((first | refine WL_op rfl ?_); (first | refine OW_st1 rfl ?_ | refine OW_alloc rfl (hk := fun _ => ?_) | refine OW_build1 rfl (hk := fun _ => ?_))) | refine WL_nil ?_ | refine WC_seq ?_ | refine WC_block ?_ | refine WC_cond_t (ht := ?_) | refine WC_cond_f (he := ?_) | refine WC_skip ?_ | refine WC_ret ?_ | refine WC_exit ?_ | refine WC_region ?_)
  refine WL_op rfl ?_
  refine OW_invE (getM (gb := gb) (rb := rb) hl9).mh rfl (get_here s Lp R hM) ?_ (fun _ _ h => h.elim)
  rintro _ _ ⟨rfl, Lp1, rfl, hM1⟩
  have hX1 := get_app (A := Lp1) hR
  repeat (first | ((first | refine WL_Q ?_); (first | refine QW_a ?_ | refine QW_of (Qt_nilCheck_m rfl) ?_)) | ((first | refine WL_op rfl ?_); (first | refine OW_st1 rfl ?_ | refine OW_alloc rfl (hk := fun _ => ?_) | refine OW_build1 rfl (hk := fun _ => ?_))) | refine WL_nil ?_ | refine WC_seq ?_ | refine WC_block ?_ | refine WC_cond_t (ht := ?_) | refine WC_cond_f (he := ?_) | refine WC_skip ?_ | refine WC_ret ?_ | refine WC_exit ?_ | refine WC_region (id := 0) ?_ | refine WC_region (id := 1) ?_ | refine WC_region (id := 2) ?_ | refine WC_region (id := 4) ?_ | refine WC_region (id := 5) ?_ | refine WC_region (id := 6) ?_ | refine WC_region (id := 7) ?_ | refine WC_region (id := 8) ?_ | refine WC_region (id := 9) ?_ | refine WC_region (id := 10) ?_ | refine WC_region (id := 11) ?_)
  rename_i mb
  refine WL_op rfl ?_
  refine OW_locI (c := ⟨Tryz.prog, g, _, _, _⟩) (W := getW gb rb l) (k := .nn) (s := (s.1, s.1)) (getM (gb := gb) (rb := rb) hl9).mn (getM (gb := gb) (rb := rb) hl9).cn hM1 (fun q hq => by cases hq) trivial ⟨_, rfl, u64_lo _, u64_hi _⟩ rfl ?_ ?_
  rotate_left
  · intro c a p s' Lp' hs hM'
    have e := getStp_bad (show getStp l .nn (s.1, s.1) = .bad c a from hs)
    exact ⟨_, rfl, c, a, p, s', Lp', cs, by unfold prl; rw [e]; rfl, rfl, by rw [set_same hR], hM', rfl⟩
  intro s2 x' Lp2 hs hM2
  have e0 := getStp_ok (show getStp l .nn (s.1, s.1) = .ok s2 x' from hs)
  have hu0 : uCode l s.1 = 0 ∧ x' = .int .u64 (uVal l s.1) := by
    simp only [Fk.pr] at e0
    split at e0
    · rename_i h; simp only [PR.ok.injEq] at e0; exact ⟨h, e0.1.symm⟩
    · cases e0
  obtain ⟨hu0, rfl⟩ := hu0
  repeat (first | ((first | refine WL_Q ?_); (first | refine QW_a ?_ | refine QW_of (Qt_nilCheck_m rfl) ?_)) | ((first | refine WL_op rfl ?_); (first | refine OW_st1 rfl ?_ | refine OW_alloc rfl (hk := fun _ => ?_) | refine OW_build1 rfl (hk := fun _ => ?_))) | refine WL_nil ?_ | refine WC_seq ?_ | refine WC_block ?_ | refine WC_cond_t (ht := ?_) | refine WC_cond_f (he := ?_) | refine WC_skip ?_ | refine WC_ret ?_ | refine WC_exit ?_ | refine WC_region (id := 0) ?_ | refine WC_region (id := 1) ?_ | refine WC_region (id := 2) ?_ | refine WC_region (id := 4) ?_ | refine WC_region (id := 5) ?_ | refine WC_region (id := 6) ?_ | refine WC_region (id := 7) ?_ | refine WC_region (id := 8) ?_ | refine WC_region (id := 9) ?_ | refine WC_region (id := 10) ?_ | refine WC_region (id := 11) ?_)
  refine WC_region ?_
  repeat (first | ((first | refine WL_Q ?_); (first | refine QW_a ?_ | refine QW_of (Qt_nilCheck_m rfl) ?_)) | ((first | refine WL_op rfl ?_); (first | refine OW_st1 rfl ?_ | refine OW_alloc rfl (hk := fun _ => ?_) | refine OW_build1 rfl (hk := fun _ => ?_))) | refine WL_nil ?_ | refine WC_seq ?_ | refine WC_block ?_ | refine WC_cond_t (ht := ?_) | refine WC_cond_f (he := ?_) | refine WC_skip ?_ | refine WC_ret ?_ | refine WC_exit ?_ | refine WC_region ?_)
  rw [hwm]
  refine WL_op rfl ?_
  have hF := get_must s2 Lp2 ((mb, Obj.cells #[Value.int .u64 (uVal l s.1)] 41 (0, 0)) :: R) (decide (((uVal l s.1 : Nat) : Int) ≤ ((most : Nat) : Int))) 4 hM2
  refine OW_invE (getM (gb := gb) (rb := rb) hl9).mm rfl ((hF.dropP (Rp' := fun u L' => ∃ c a p, (if decide (((uVal l s.1 : Nat) : Int) ≤ ((most : Nat) : Int)) then none else some (4, s2.2)) = some (c, a) ∧ u = flt p ∧ L' = (p, fltO c a) :: (Lp2 ++ R)) (fun u L' ⟨c, a, p, h1, h2, h3⟩ => ⟨(p, fltO c a) :: (Lp2 ++ R), by rw [h3]; exact .cons_cons _ (.append (.refl _) (.cons _ (.refl _))), c, a, p, h1, h2, rfl⟩)).perm List.perm_middle (fun v L' h => ⟨_, .refl _, h⟩) (fun v L' h => ⟨_, .refl _, h⟩)) ?_ ?_
  rotate_left
  · rintro _ _ ⟨c, a, p, hm, rfl, rfl⟩
    have hgt : ¬ uVal l s.1 ≤ most := fun h => by rw [decide_eq_true (by omega)] at hm; cases hm
    rw [decide_eq_false (by omega)] at hm
    simp only [Bool.false_eq_true, if_false, Option.some.injEq, Prod.mk.injEq] at hm
    obtain ⟨rfl, rfl⟩ := hm
    have hat : s2.2 = s.1 := by
      have h1 : getStp l .nn (s.1, s.1) = .ok s2 (.int .u64 (uVal l s.1)) := hs
      unfold getStp at h1; rw [e0] at h1; injection h1 with h2 _; exact (congrArg Prod.snd h2).symm
    exact ⟨_, rfl, 4, s2.2, p, s2, Lp2, cs, by unfold prl; rw [e0]; simp only [PR.bind]; rw [if_neg hgt, hat], rfl, by rw [set_same hR], hM2, rfl⟩
  rintro _ _ ⟨rfl, rfl, hm⟩
  have hle : uVal l s.1 ≤ most := by
    rcases Nat.lt_or_ge most (uVal l s.1) with h | h
    · rw [decide_eq_false (by omega)] at hm; cases hm
    · exact h
  have hX0 : (Lp2 ++ ((mb, Obj.cells #[Value.int .u64 (uVal l s.1)] 41 (0, 0)) :: R))[Lp2.length]? = some _ := get_app (A := Lp2) (i := 0) rfl
  repeat (first | ((first | refine WL_Q ?_); (first | refine QW_a ?_ | refine QW_of (Qt_nilCheck_m rfl) ?_)) | ((first | refine WL_op rfl ?_); (first | refine OW_st1 rfl ?_ | refine OW_alloc rfl (hk := fun _ => ?_) | refine OW_build1 rfl (hk := fun _ => ?_))) | refine WL_nil ?_ | refine WC_seq ?_ | refine WC_block (id := 1) ?_ | refine WC_cond_t (ht := ?_) | refine WC_cond_f (he := ?_) | refine WC_skip ?_ | refine WC_ret ?_ | refine WC_exit ?_ | refine WC_region ?_)
  have hset0 : R.set i (b, Obj.cells (cs.setIfInBounds off (.slice none 0 0)) E fr) = R := by rw [set_idem hc, set_same hR]
  obtain ⟨n, hn⟩ : ∃ n, n = uVal l s.1 := ⟨_, rfl⟩
  rw [← hn]
  rw [← hn] at hle
  have hprl : prl l most binF s.1 = prn l binF n s2.1 := by unfold prl; rw [e0]; simp only [PR.bind]; rw [← hn, if_pos hle]
  rw [hprl]
  refine WC_block (WC_wk [(27, .int .u64 0), (26, .int .u64 (n : Nat)), (0, getV gb), (1, .pointer (some ⟨b, off, none⟩)), (3, .func (.func 101) #[] #[])] ⟨rfl, rfl, rfl, rfl, rfl, trivial⟩ ?_)
  refine WC_dropL (Lp2 ++ R) (.append (.refl _) (.cons _ (.refl _))) ?_
  refine WC_loop (fun m σ => ∃ (j : Nat) (sj : Nat × Nat) (Lpj Tj : List (Nat × Obj)) (vj : Value) (vssj : List (List Value)), m = n - j ∧ j ≤ n ∧ GMem gb rb l sj Lpj ∧ Buf 3 1 vj Tj j vssj.flatten ∧ vssj.length = j ∧ prn l binF n s2.1 = (prn l binF (n - j) sj.1).bind (fun vs b => .ok (vssj ++ vs) b) ∧ σ = ⟨[(27, .int .u64 (j : Nat)), (26, .int .u64 (n : Nat)), (0, getV gb), (1, .pointer (some ⟨b, off, none⟩)), (3, .func (.func 101) #[] #[])], [], Lpj ++ (Tj ++ R.set i (b, Obj.cells (cs.setIfInBounds off vj) E fr))⟩) n ⟨0, s2, Lp2, [], .slice none 0 0, [], by omega, by omega, hM2, Buf.nil _ _, rfl, by
    show _ = (prn l binF n s2.1).bind _
    cases prn l binF n s2.1 <;> rfl, by rw [hset0]; rfl⟩ ?_
  rintro m σ ⟨j, sj, Lpj, Tj, vj, vssj, rfl, hj, hMj, hbuf, hvl, hp, rfl⟩
  by_cases hlt : j < n
  · have d1 : decide (((j : Nat) : Int) < ((n : Nat) : Int)) = true := decide_eq_true (by omega)
    have hwj0 : IntKind.u64.wrap ((j : Nat) : Int) = ((j : Nat) : Int) := wU64 (by omega) (by omega)
    have d2 : (((j : Nat) : Int) == IntKind.u64.wrap ((j : Nat) : Int)) = true := by rw [hwj0]; simp
    have hwj : IntKind.u64.wrap (((j : Nat) : Int) + 1) = ((j + 1 : Nat) : Int) := by rw [wU64 (by omega) (by omega)]; omega
    obtain ⟨ag, cap, rfl, _⟩ := hbuf.val
    have hXj := get_app (A := Lpj) (get_app (A := Tj) (get_set_self hR (b, Obj.cells (cs.setIfInBounds off (.slice ag j cap)) E fr)))
    have hvj : (cs.setIfInBounds off (.slice ag j cap))[off]? = some (.slice ag j cap) := by rw [Array.getElem?_setIfInBounds_self_of_lt hz]
    have i0 : 0 ≤ ((j : Nat) : Int) := by omega
    have i1 : ((j : Nat) : Int) < ((j + 1 : Nat) : Int) := by omega
    repeat (first | ((first | refine WL_Q ?_); (first | refine QW_a ?_ | refine QW_of (Qt_nilCheck_m rfl) ?_)) | ((first | refine WL_op rfl ?_); (first | refine OW_st1 rfl ?_ | refine OW_alloc rfl (hk := fun _ => ?_) | refine OW_build1 rfl (hk := fun _ => ?_))) | refine WL_nil ?_ | refine WC_seq ?_ | refine WC_block ?_ | refine WC_cond_t (ht := ?_) | refine WC_cond_f (he := ?_) | refine WC_skip ?_ | refine WC_ret ?_ | refine WC_exit ?_ | refine WC_region ?_)
    rename_i qb
    refine WL_op rfl (OW_append_buf (A := (qb, Obj.cells #[Value.int .i64 0] 3 (0, 0)) :: Lpj) rfl rfl rfl rfl rfl hbuf (src1 0 rfl) (by omega) (by simp only [maxLen]; omega) (by omega) fun v' T' hb' => ?_)
    obtain ⟨g', goff, gcur, ⟨gcap, rfl, hown⟩, rfl⟩ := hb'.full' (by omega)
    repeat (first | ((first | refine WL_Q ?_); (first | refine QW_a ?_ | refine QW_of (Qt_nilCheck_m rfl) ?_)) | ((first | refine WL_op rfl ?_); (first | refine OW_st1 rfl ?_ | refine OW_alloc rfl (hk := fun _ => ?_) | refine OW_build1 rfl (hk := fun _ => ?_))) | refine WL_nil ?_ | refine WC_seq ?_ | refine WC_block ?_ | refine WC_cond_t (ht := ?_) | refine WC_cond_f (he := ?_) | refine WC_skip ?_ | refine WC_ret ?_ | refine WC_exit ?_ | refine WC_region (id := 0) ?_ | refine WC_region (id := 1) ?_ | refine WC_region (id := 2) ?_ | refine WC_region (id := 3) ?_ | refine WC_region (id := 4) ?_ | refine WC_region (id := 5) ?_ | refine WC_region (id := 6) ?_ | refine WC_region (id := 7) ?_ | refine WC_region (id := 8) ?_ | refine WC_region (id := 9) ?_ | refine WC_region (id := 11) ?_)
    have hXn : ((qb, Obj.cells #[Value.int .i64 0] 3 (0, 0)) :: (Lpj ++ ([(g', Obj.cells gcur 3 (0, 0))] ++ R.set i (b, Obj.cells (cs.setIfInBounds off (.slice ag j cap)) E fr))))[(Lpj.length + (1 + i)) + 1]? = some (b, .cells (cs.setIfInBounds off (.slice ag j cap)) E fr) := get_app (A := Lpj) (get_app (A := [(g', Obj.cells gcur 3 (0, 0))]) (get_set_self hR _))
    refine WL_op rfl (OW_store1F (v := .slice (some ⟨g', goff, none⟩) (j + 1) gcap) rfl _ hXn (by simpa using hz) hfr (WL_nil ?_))
    have hL : ((qb, Obj.cells #[Value.int .i64 0] 3 (0, 0)) :: (Lpj ++ ([(g', Obj.cells gcur 3 (0, 0))] ++ R.set i (b, Obj.cells (cs.setIfInBounds off (.slice ag j cap)) E fr)))).set ((Lpj.length + (1 + i)) + 1) (b, Obj.cells ((cs.setIfInBounds off (.slice ag j cap)).setIfInBounds off (.slice (some ⟨g', goff, none⟩) (j + 1) gcap)) E fr) = (qb, Obj.cells #[Value.int .i64 0] 3 (0, 0)) :: (Lpj ++ ([(g', Obj.cells gcur 3 (0, 0))] ++ R.set i (b, Obj.cells (cs.setIfInBounds off (.slice (some ⟨g', goff, none⟩) (j + 1) gcap)) E fr))) := by
      rw [List.set_cons_succ, set_app, show 1 + i = [(g', Obj.cells gcur 3 (0, 0))].length + i from rfl, set_app, List.set_set, set_twice]
    have hsubL := (List.Sublist.refl (Lpj ++ ([(g', Obj.cells gcur 3 (0, 0))] ++ R.set i (b, Obj.cells (cs.setIfInBounds off (.slice (some ⟨g', goff, none⟩) (j + 1) gcap)) E fr)))).cons (qb, Obj.cells #[Value.int .i64 0] 3 (0, 0))
    rw [← hL] at hsubL
    repeat (first | ((first | refine WL_Q ?_); (first | refine QW_a ?_ | refine QW_of (Qt_nilCheck_m rfl) ?_)) | ((first | refine WL_op rfl ?_); (first | refine OW_st1 rfl ?_ | refine OW_alloc rfl (hk := fun _ => ?_) | refine OW_build1 rfl (hk := fun _ => ?_))) | refine WL_nil ?_ | refine WC_seq ?_ | refine WC_block ?_ | refine WC_cond_t (ht := ?_) | refine WC_cond_f (he := ?_) | refine WC_skip ?_ | refine WC_ret ?_ | refine WC_exit ?_ | refine WC_region (id := 0) ?_ | refine WC_region (id := 1) ?_ | refine WC_region (id := 2) ?_ | refine WC_region (id := 3) ?_ | refine WC_region (id := 4) ?_ | refine WC_region (id := 5) ?_ | refine WC_region (id := 6) ?_ | refine WC_region (id := 7) ?_ | refine WC_region (id := 8) ?_ | refine WC_region (id := 9) ?_ | refine WC_region (id := 11) ?_)
    refine WC_dropL _ hsubL ?_
    have hvn : (cs.setIfInBounds off (.slice (some ⟨g', goff, none⟩) (j + 1) gcap))[off]? = some (.slice (some ⟨g', goff, none⟩) (j + 1) gcap) := by rw [Array.getElem?_setIfInBounds_self_of_lt hz]
    have hXm := get_app (A := Lpj) (get_app (A := [(g', Obj.cells gcur 3 (0, 0))]) (get_set_self hR (b, Obj.cells (cs.setIfInBounds off (.slice (some ⟨g', goff, none⟩) (j + 1) gcap)) E fr)))
    repeat (first | ((first | refine WL_Q ?_); (first | refine QW_a ?_ | refine QW_of (Qt_nilCheck_m rfl) ?_)) | ((first | refine WL_op rfl ?_); (first | refine OW_st1 rfl ?_ | refine OW_alloc rfl (hk := fun _ => ?_) | refine OW_build1 rfl (hk := fun _ => ?_))) | refine WL_nil ?_ | refine WC_seq ?_ | refine WC_block ?_ | refine WC_cond_t (ht := ?_) | refine WC_cond_f (he := ?_) | refine WC_skip ?_ | refine WC_ret ?_ | refine WC_exit ?_ | refine WC_region ?_)
    refine WL_op rfl ?_
    have hfl : vssj.flatten.length = j * 1 := hbuf.len
    have hlz : Lies gcur (goff + j * 1) zInt := fun q v hq => by
      have := hown.at_ (j * 1 + q) v (by rw [List.getElem?_append_right (by omega), hfl, show j * 1 + q - j * 1 = q by omega]; exact hq)
      rwa [← Nat.add_assoc] at this
    have hC := small_flat (getM hl9) sj Lpj ([(g', Obj.cells gcur 3 (0, 0))] ++ R.set i (b, Obj.cells (cs.setIfInBounds off (.slice (some ⟨g', goff, none⟩) (j + 1) gcap)) E fr)) 0 g' gcur 3 (0, 0) (goff + j * 1) zInt hMj (fun q hq => by cases hq) trivial rfl zInt_ok hlz (Free.zero _ _)
    refine OW_callE rfl (hC.dropP (Rp' := fun u L' => ∃ c a p s' Lp', prs l binF sj.1 = .bad c a ∧ u = flt p ∧ L' = (p, fltO c a) :: (Lp' ++ R.set i (b, Obj.cells (cs.setIfInBounds off (.slice (some ⟨g', goff, none⟩) (j + 1) gcap)) E fr)) ∧ GMem gb rb l s' Lp') (fun u L' ⟨c, a, p, s', Lp', cur', h1, h2, h3, h4, _⟩ => ⟨(p, fltO c a) :: (Lp' ++ R.set i (b, Obj.cells (cs.setIfInBounds off (.slice (some ⟨g', goff, none⟩) (j + 1) gcap)) E fr)), by rw [h3]; exact .cons_cons _ (.append (.refl _) (.cons _ (.refl _))), c, a, p, s', Lp', get_stps_bad zInt_ok h1, h2, rfl, h4⟩)) ?_ ?_
    rotate_left
    · rintro _ _ ⟨c, a, p, s', Lp', h1, rfl, rfl, h4⟩
      exact ⟨_, rfl, c, a, p, s', Lp', cs.setIfInBounds off (.slice (some ⟨g', goff, none⟩) (j + 1) gcap), prn_stop hp hlt h1, rfl, rfl, h4, by simp⟩
    rintro _ _ ⟨rfl, s', us, Lp', cur', h1, rfl, h3, h4, _⟩
    have e := get_stps_ok zInt_ok h1
    have hul : us.length = 1 := (getW gb rb l).stps_len h1 zInt_ok
    repeat (first | ((first | refine WL_Q ?_); (first | refine QW_a ?_ | refine QW_of (Qt_nilCheck_m rfl) ?_)) | ((first | refine WL_op rfl ?_); (first | refine OW_st1 rfl ?_ | refine OW_alloc rfl (hk := fun _ => ?_) | refine OW_build1 rfl (hk := fun _ => ?_))) | refine WL_nil ?_ | refine WC_seq ?_ | refine WC_block ?_ | refine WC_cond_t (ht := ?_) | refine WC_cond_f (he := ?_) | refine WC_skip ?_ | refine WC_ret ?_ | refine WC_exit ?_ | refine WC_region ?_)
    rw [hwj]
    exact ⟨_, _, by omega, ⟨j + 1, s', Lp', [(g', Obj.cells cur' 3 (0, 0))], .slice (some ⟨g', goff, none⟩) (j + 1) gcap, vssj ++ [us], rfl, by omega, h3, .inr ⟨g', goff, gcap, cur', rfl, rfl, by
      have := own_upd hown hfl h4 hul
      simpa using this⟩, by simp [hvl], prn_step hp hlt e, rfl⟩, ⟨rfl, rfl, rfl, rfl, rfl, trivial⟩, rfl, .refl _⟩
  · have d1 : decide (((j : Nat) : Int) < ((n : Nat) : Int)) = false := decide_eq_false (by omega)
    have hjn : n - j = 0 := by omega
    rw [hjn] at hp
    have hp' : prn l binF n s2.1 = .ok vssj sj.1 := by rw [hp]; simp [prn, PR.bind]
    subst hvl
    repeat (first | ((first | refine WL_Q ?_); (first | refine QW_a ?_ | refine QW_of (Qt_nilCheck_m rfl) ?_)) | ((first | refine WL_op rfl ?_); (first | refine OW_st1 rfl ?_ | refine OW_alloc rfl (hk := fun _ => ?_) | refine OW_build1 rfl (hk := fun _ => ?_))) | refine WL_nil ?_ | refine WC_seq ?_ | refine WC_block ?_ | refine WC_cond_t (ht := ?_) | refine WC_cond_f (he := ?_) | refine WC_skip ?_ | refine WC_ret ?_ | refine WC_exit ?_ | refine WC_region ?_)
    exact ⟨_, _, Res0 rfl, .refl _, rfl, vssj, sj, Lpj, vj, Tj, hp', rfl, hMj, hbuf⟩
end Go.Proofs.YtakedlockchpcaaGreatDoor
namespace Go.Proofs.YtakedlockchpcaaGreatDoor
open Go.RowKit
attribute [local irreducible] Fn WC WL WR OW Qt YieldFn QW FnP FnD FnE
theorem len_app {xs ys : List Value} {n m : Nat} (h : xs.length = n) (k : ys.length = m) : (xs ++ ys).length = n + m := by rw [List.length_append, h, k]
theorem oks1 {k : Fk} {v : Value} (h : k.ok v) : Oks [k] [v] := ⟨h, trivial⟩
theorem getF {gb rb : Nat} {l : List UInt8} {f : FuncId} {a0 : Value} {fs : List Fk} {s : Nat × Nat} {Lp R : List (Nat × Obj)} {i b : Nat} {cs : Array Value} {E : TypeId} {fr : Nat × Nat} {off : Nat} {vs : List Value} (hC : Flat (getW gb rb l) f a0 fs) (hM : GMem gb rb l s Lp) (hR : R[i]? = some (b, .cells cs E fr)) (hv : Oks fs vs) (hl : Lies cs off vs) (hfr : Free fr off fs.length) :
    FnE Tryz.prog f [a0, .pointer (some ⟨b, off, none⟩)] (Lp ++ R)
      (fun v L' => v = .tuple #[] ∧ ∃ us s' Lp' cs', prs l fs s.1 = .ok us s'.1 ∧ L' = Lp' ++ R.set i (b, .cells cs' E fr) ∧ GMem gb rb l s' Lp' ∧ Upd cs cs' off us ∧ us.length = fs.length)
      (fun u L' => ∃ c a p s' Lp' cs', prs l fs s.1 = .bad c a ∧ u = flt p ∧ L' = (p, fltO c a) :: (Lp' ++ R.set i (b, .cells cs' E fr)) ∧ GMem gb rb l s' Lp' ∧ cs'.size = cs.size) :=
  (hC s Lp R i b cs E fr off vs hM (fun q hq => by cases hq) trivial hR hv hl hfr).mono (fun v L' ⟨h0, s', us, Lp', cs', h1, h2, h3, h4, _⟩ => ⟨h0, us, s', Lp', cs', get_stps_ok hv h1, h2, h3, h4, (getW gb rb l).stps_len h1 hv⟩) (fun u L' ⟨c, a, p, s', Lp', cs', h1, h2, h3, h4, h5⟩ => ⟨c, a, p, s', Lp', cs', get_stps_bad hv h1, h2, h3, h4, h5⟩)
section
variable {gb rb : Nat} {l : List UInt8} (hl9 : l.length ≤ 1000000000)
include hl9
set_option maxHeartbeats 4000000 in
theorem gcmd {s : Nat × Nat} {Lp R : List (Nat × Obj)} {i b : Nat} {cs : Array Value} {E : TypeId} {fr : Nat × Nat} {off : Nat} {ch ct : List Value} (hM : GMem gb rb l s Lp) (hR : R[i]? = some (b, .cells cs E fr)) (hch : Oks chF ch) (hct : Oks ctF ct) (hl : Lies cs off (ch ++ (.slice none 0 0 :: ct))) (hfr : Free fr off 10) :
    FnE Tryz.prog 57 [getV gb, .pointer (some ⟨b, off, none⟩)] (Lp ++ R)
      (fun v L' => v = .tuple #[] ∧ ∃ x s' Lp' v' T cs', prCmd l s.1 = .ok x s'.1 ∧ L' = Lp' ++ (T ++ R.set i (b, .cells cs' E fr)) ∧ GMem gb rb l s' Lp' ∧ Buf 3 1 v' T x.2.1.length x.2.1.flatten ∧ Upd cs cs' off (x.1 ++ (v' :: x.2.2)))
      (fun u L' => ∃ c a p s' Lp' T cs', prCmd l s.1 = .bad c a ∧ u = flt p ∧ L' = (p, fltO c a) :: (Lp' ++ (T ++ R.set i (b, .cells cs' E fr))) ∧ GMem gb rb l s' Lp' ∧ cs'.size = cs.size) := by
  obtain ⟨c0, us, rfl, h0, hch'⟩ := hch.split
  obtain ⟨c1, us, rfl, h1, hch''⟩ := hch'.split
  obtain rfl := hch''.nil
  obtain ⟨t0, us, rfl, k0, q⟩ := hct.split
  obtain ⟨t1, us, rfl, k1, q⟩ := q.split
  obtain ⟨t2, us, rfl, k2, q⟩ := q.split
  obtain ⟨t3, us, rfl, k3, q⟩ := q.split
  obtain ⟨t4, us, rfl, k4, q⟩ := q.split
  obtain ⟨t5, us, rfl, k5, q⟩ := q.split
  obtain ⟨t6, us, rfl, k6, q⟩ := q.split
  obtain rfl := q.nil
  clear hch hct hch' hch''
  have ih := (getM (gb := gb) (rb := rb) hl9).ih
  have jn := (getM (gb := gb) (rb := rb) hl9).jn
  have im := (getM (gb := gb) (rb := rb) hl9).im
  have iw := (getM (gb := gb) (rb := rb) hl9).iw
  have it := (getM (gb := gb) (rb := rb) hl9).it
  have qw : methX Tryz.prog 216 "anabranch/codec.whole" = some 179 := (getM (gb := gb) (rb := rb) hl9).mw
  have qt : methX Tryz.prog 216 "anabranch/codec.truth" = some 178 := (getM (gb := gb) (rb := rb) hl9).mt
  have qm : methX Tryz.prog 216 "anabranch/codec.must" = some 175 := (getM (gb := gb) (rb := rb) hl9).mm
  have hop : Oks opF [t2, t3, t4, t5] := ⟨k2, k3, k4, k5, trivial⟩
  have hch : ∀ a, prs l chF a = (prs l [.ww] a).bind fun x b => (prs l [.ww] b).bind fun y c => .ok (x ++ y) c := fun a => by rw [show chF = [.ww] ++ [.ww] from rfl, prs_app]
  have hct : ∀ a, prs l ctF a = (prs l [.ww] a).bind fun x b => ((prs l [.ww] b).bind fun x b => ((prs l opF b).bind fun x b => (prs l [.ww] b).bind fun y c => .ok (x ++ y) c).bind fun y c => .ok (x ++ y) c).bind fun y c => .ok (x ++ y) c := fun a => by
    rw [show ctF = [.ww] ++ ([.ww] ++ (opF ++ [.ww])) from rfl, prs_app]
    simp only [prs_app]
  refine FnE_enter Tryz.func57 rfl Tryz.ntmps57 rfl fun g => ?_
  repeat (first | ((first | refine WL_Q ?_); (first | refine QW_a ?_ | refine QW_of (Qt_nilCheck_m rfl) ?_)) | refine WL_nil ?_ | refine WC_seq ?_ | refine WC_block ?_ | refine WC_cond_t (ht := ?_) | refine WC_cond_f (he := ?_) | refine WC_skip ?_ | refine WC_ret ?_ | refine WC_exit ?_ | refine WC_region (id := 0) ?_)
  refine WL_op rfl ?_
  refine OW_callE rfl (getF (fs := [.ww]) (small_flat (getM (gb := gb) (rb := rb) hl9)) hM hR (oks1 h0) (hl.cut 0 1) (hfr.sub 0 1 (by decide))) ?_ ?_
  rotate_left
  · rintro _ _ ⟨c, a, p, s', Lp', cs', h1, rfl, rfl, h4, h5⟩
    exact ⟨_, rfl, c, a, p, s', Lp', [], cs', by simp only [prCmd, hch, PR.bind, h1], rfl, rfl, h4, h5⟩
  rintro _ _ ⟨rfl, us0, s0, Lp0, c0, q0, rfl, hM0, u0, n0⟩
  have U0 := u0
  have N0 : us0.length = 1 := n0
  repeat (first | ((first | refine WL_Q ?_); (first | refine QW_a ?_ | refine QW_of (Qt_nilCheck_m rfl) ?_)) | refine WL_nil ?_ | refine WC_seq ?_ | refine WC_block ?_ | refine WC_cond_t (ht := ?_) | refine WC_cond_f (he := ?_) | refine WC_skip ?_ | refine WC_ret ?_ | refine WC_exit ?_ | refine WC_region (id := 0) ?_)
  repeat (first | ((first | refine WL_Q ?_); (first | refine QW_a ?_ | refine QW_of (Qt_nilCheck_m rfl) ?_)) | refine WL_nil ?_ | refine WC_seq ?_ | refine WC_block ?_ | refine WC_cond_t (ht := ?_) | refine WC_cond_f (he := ?_) | refine WC_skip ?_ | refine WC_ret ?_ | refine WC_exit ?_ | refine WC_region (id := 0) ?_)
  refine WC_draw_sub (id := 1) 8 (.calm 0 <| .calm 1 <| .calm 2 <| .calm 3 <| .calm 4 <| .calm 5 <| .calm 6 <| .must 7 <| .done) mixed (by kernel_rfl) (List.nil_sublist _) ?_
  repeat (first | ((first | refine WL_Q ?_ | refine WR_Q rfl ?_ | refine WR_late rfl rfl rfl (OW_Q ?_)); (first | refine QW_a ?_ | refine QW_of (Qt_nilCheck_m rfl) ?_)) | refine WL_nil ?_ | refine WR_nil ?_ | refine WC_seq ?_ | refine WC_block ?_ | refine WC_cond_t (ht := ?_) | refine WC_cond_f (he := ?_) | refine WC_skip ?_ | refine WC_ret ?_ | refine WC_exit ?_ | refine WC_draw_all (id := 1) 8 (.calm 0 <| .calm 1 <| .calm 2 <| .calm 3 <| .calm 4 <| .calm 5 <| .calm 6 <| .must 7 <| .done) mixed (by kernel_rfl) ?_ | refine WC_region (id := 0) ?_)
  refine WR_op rfl rfl ?_
  refine OW_invE (getM (gb := gb) (rb := rb) hl9).mw rfl (getF (fs := [.ww]) (get_whole hl9) hM0 (get_set_self hR _) (oks1 h1) (U0.keep (hl.cut 1 1) (.inr (by rw [N0]; exact Nat.le_refl _))) (hfr.sub 1 1 (by decide))) ?_ ?_
  rotate_left
  · rintro _ _ ⟨c, a, p, s', Lp', cs', h1, rfl, rfl, h4, h5⟩
    try rw [List.set_set]
    exact ⟨_, rfl, c, a, p, s', Lp', [], cs', by simp only [prCmd, hch, PR.bind, q0, h1], rfl, rfl, h4, h5.trans U0.size⟩
  rintro _ _ ⟨rfl, us1, s1, Lp1, c1, q1, rfl, hM1, u1, n1⟩
  rw [List.set_set]
  have U1 := U0.app u1 (by rw [N0])
  have N1 : (us0 ++ us1).length = 2 := len_app N0 n1
  refine ⟨(fun q hq => (by cases hq)), ?_⟩
  repeat (first | ((first | refine WL_Q ?_ | refine WR_Q rfl ?_ | refine WR_late rfl rfl rfl (OW_Q ?_)); (first | refine QW_a ?_ | refine QW_of (Qt_nilCheck_m rfl) ?_)) | refine WL_nil ?_ | refine WR_nil ?_ | refine WC_seq ?_ | refine WC_block ?_ | refine WC_cond_t (ht := ?_) | refine WC_cond_f (he := ?_) | refine WC_skip ?_ | refine WC_ret ?_ | refine WC_exit ?_ | refine WC_draw_all (id := 1) 8 (.calm 0 <| .calm 1 <| .calm 2 <| .calm 3 <| .calm 4 <| .calm 5 <| .calm 6 <| .must 7 <| .done) mixed (by kernel_rfl) ?_ | refine WC_region (id := 0) ?_ | refine WC_region (id := 2) ?_)
  refine WL_op rfl ?_
  refine OW_callE rfl (glist_int (most := 8) hl9 (by decide) hM1 (get_set_self hR _) ((U1.keep (hl.cut 2 1) (.inr (by rw [N1]; exact Nat.le_refl _))) 0 _ rfl) (hfr.sub 2 1 (by decide))) ?_ ?_
  rotate_left
  · rintro _ _ ⟨c, a, p, s', Lp', cs', h1, rfl, rfl, h4, h5⟩
    try rw [List.set_set]
    exact ⟨_, rfl, c, a, p, s', Lp', [], cs', by simp only [prCmd, hch, PR.bind, q0, q1, h1], rfl, rfl, h4, h5.trans U1.size⟩
  rintro _ _ ⟨rfl, vss, s2, Lp2, v', T, q2, rfl, hM2, hbuf⟩
  rw [List.set_set]
  have hz2 : off + 2 < c1.size := by
    rw [U1.size]
    exact (Array.getElem?_eq_some_iff.1 ((hl.cut 2 1) 0 _ rfl)).1
  obtain ⟨c2, hc2⟩ : ∃ c, c = c1.setIfInBounds (off + 2) v' := ⟨_, rfl⟩
  rw [← hc2]
  have u2 : Upd c1 c2 (off + 2) [v'] := by rw [hc2]; exact Upd.one v' hz2
  have U2 := U1.app u2 (by rw [N1])
  have N2 : (us0 ++ us1 ++ [v']).length = 3 := len_app N1 (show [v'].length = 1 from rfl)
  repeat (first | ((first | refine WL_Q ?_); (first | refine QW_a ?_ | refine QW_of (Qt_nilCheck_m rfl) ?_)) | refine WL_nil ?_ | refine WC_seq ?_ | refine WC_block ?_ | refine WC_cond_t (ht := ?_) | refine WC_cond_f (he := ?_) | refine WC_skip ?_ | refine WC_ret ?_ | refine WC_exit ?_ | refine WC_region (id := 2) ?_ | refine WC_region (id := 3) ?_)
  refine WL_op rfl ?_
  refine OW_callE rfl (getF (fs := [.ww]) (small_flat (getM (gb := gb) (rb := rb) hl9)) hM2 (get_app (A := T) (get_set_self hR _)) (oks1 k0) (U2.keep (hl.cut 3 1) (.inr (by rw [N2]; exact Nat.le_refl _))) (hfr.sub 3 1 (by decide))) ?_ ?_
  rotate_left
  · rintro _ _ ⟨c, a, p, s', Lp', cs', h1, rfl, rfl, h4, h5⟩
    try rw [set_app, List.set_set]
    exact ⟨_, rfl, c, a, p, s', Lp', T, cs', by simp only [prCmd, hch, hct, PR.bind, q0, q1, q2, h1], rfl, rfl, h4, h5.trans U2.size⟩
  rintro _ _ ⟨rfl, us3, s3, Lp3, c3, q3, rfl, hM3, u3, n3⟩
  rw [set_app, List.set_set]
  have U3 := U2.app u3 (by rw [N2])
  have N3 : (us0 ++ us1 ++ [v'] ++ us3).length = 4 := len_app N2 n3
  repeat (first | ((first | refine WL_Q ?_); (first | refine QW_a ?_ | refine QW_of (Qt_nilCheck_m rfl) ?_)) | refine WL_nil ?_ | refine WC_seq ?_ | refine WC_block ?_ | refine WC_cond_t (ht := ?_) | refine WC_cond_f (he := ?_) | refine WC_skip ?_ | refine WC_ret ?_ | refine WC_exit ?_ | refine WC_region (id := 2) ?_ | refine WC_region (id := 3) ?_ | refine WC_region (id := 4) ?_)
  refine WL_op rfl ?_
  refine OW_callE rfl (getF (fs := [.ww]) (small_flat (getM (gb := gb) (rb := rb) hl9)) hM3 (get_app (A := T) (get_set_self hR _)) (oks1 k1) (U3.keep (hl.cut 4 1) (.inr (by rw [N3]; exact Nat.le_refl _))) (hfr.sub 4 1 (by decide))) ?_ ?_
  rotate_left
  · rintro _ _ ⟨c, a, p, s', Lp', cs', h1, rfl, rfl, h4, h5⟩
    try rw [set_app, List.set_set]
    exact ⟨_, rfl, c, a, p, s', Lp', T, cs', by simp only [prCmd, hch, hct, PR.bind, q0, q1, q2, q3, h1], rfl, rfl, h4, h5.trans U3.size⟩
  rintro _ _ ⟨rfl, us4, s4, Lp4, c4, q4, rfl, hM4, u4, n4⟩
  rw [set_app, List.set_set]
  have U4 := U3.app u4 (by rw [N3])
  have N4 : (us0 ++ us1 ++ [v'] ++ us3 ++ us4).length = 5 := len_app N3 n4
  repeat (first | ((first | refine WL_Q ?_); (first | refine QW_a ?_ | refine QW_of (Qt_nilCheck_m rfl) ?_)) | refine WL_nil ?_ | refine WC_seq ?_ | refine WC_block ?_ | refine WC_cond_t (ht := ?_) | refine WC_cond_f (he := ?_) | refine WC_skip ?_ | refine WC_ret ?_ | refine WC_exit ?_ | refine WC_region (id := 2) ?_ | refine WC_region (id := 3) ?_ | refine WC_region (id := 4) ?_ | refine WC_region (id := 5) ?_)
  refine WL_op rfl ?_
  refine OW_callE rfl (getF (fs := opF) (op_flat (getM (gb := gb) (rb := rb) hl9)) hM4 (get_app (A := T) (get_set_self hR _)) hop (U4.keep (hl.cut 5 4) (.inr (by rw [N4]; exact Nat.le_refl _))) (hfr.sub 5 4 (by decide))) ?_ ?_
  rotate_left
  · rintro _ _ ⟨c, a, p, s', Lp', cs', h1, rfl, rfl, h4, h5⟩
    try rw [set_app, List.set_set]
    exact ⟨_, rfl, c, a, p, s', Lp', T, cs', by simp only [prCmd, hch, hct, PR.bind, q0, q1, q2, q3, q4, h1], rfl, rfl, h4, h5.trans U4.size⟩
  rintro _ _ ⟨rfl, us5, s5, Lp5, c5, q5, rfl, hM5, u5, n5⟩
  rw [set_app, List.set_set]
  have U5 := U4.app u5 (by rw [N4])
  have N5 : (us0 ++ us1 ++ [v'] ++ us3 ++ us4 ++ us5).length = 9 := len_app N4 n5
  repeat (first | ((first | refine WL_Q ?_); (first | refine QW_a ?_ | refine QW_of (Qt_nilCheck_m rfl) ?_)) | refine WL_nil ?_ | refine WC_seq ?_ | refine WC_block ?_ | refine WC_cond_t (ht := ?_) | refine WC_cond_f (he := ?_) | refine WC_skip ?_ | refine WC_ret ?_ | refine WC_exit ?_ | refine WC_region (id := 2) ?_ | refine WC_region (id := 3) ?_ | refine WC_region (id := 4) ?_ | refine WC_region (id := 5) ?_ | refine WC_region (id := 6) ?_)
  refine WL_op rfl ?_
  refine OW_callE rfl (getF (fs := [.ww]) (small_flat (getM (gb := gb) (rb := rb) hl9)) hM5 (get_app (A := T) (get_set_self hR _)) (oks1 k6) (U5.keep (hl.cut 9 1) (.inr (by rw [N5]; exact Nat.le_refl _))) (hfr.sub 9 1 (by decide))) ?_ ?_
  rotate_left
  · rintro _ _ ⟨c, a, p, s', Lp', cs', h1, rfl, rfl, h4, h5⟩
    try rw [set_app, List.set_set]
    exact ⟨_, rfl, c, a, p, s', Lp', T, cs', by simp only [prCmd, hch, hct, PR.bind, q0, q1, q2, q3, q4, q5, h1], rfl, rfl, h4, h5.trans U5.size⟩
  rintro _ _ ⟨rfl, us6, s6, Lp6, c6, q6, rfl, hM6, u6, n6⟩
  rw [set_app, List.set_set]
  have U6 := U5.app u6 (by rw [N5])
  have N6 : (us0 ++ us1 ++ [v'] ++ us3 ++ us4 ++ us5 ++ us6).length = 10 := len_app N5 n6
  repeat (first | ((first | refine WL_Q ?_); (first | refine QW_a ?_ | refine QW_of (Qt_nilCheck_m rfl) ?_)) | refine WL_nil ?_ | refine WC_seq ?_ | refine WC_block ?_ | refine WC_cond_t (ht := ?_) | refine WC_cond_f (he := ?_) | refine WC_skip ?_ | refine WC_ret ?_ | refine WC_exit ?_ | refine WC_region (id := 2) ?_ | refine WC_region (id := 3) ?_ | refine WC_region (id := 4) ?_ | refine WC_region (id := 5) ?_ | refine WC_region (id := 6) ?_)
  refine ⟨_, _, Res0 rfl, .refl _, rfl, (us0 ++ us1, vss, us3 ++ (us4 ++ (us5 ++ us6))), s6, Lp6, v', T, c6, by simp only [prCmd, hch, hct, PR.bind, q0, q1, q2, q3, q4, q5, q6], rfl, hM6, hbuf, ?_⟩
  simpa using U6
end
end Go.Proofs.YtakedlockchpcaaGreatDoor
namespace Go.Proofs.YtakedlockchpcaaGreatDoor
open Go.RowKit
attribute [local irreducible] Fn WC WL WR OW Qt YieldFn QW FnP FnD FnE
abbrev nilS : Value := .slice none 0 0
section
variable {gb rb : Nat} {l : List UInt8} (hl9 : l.length ≤ 1000000000)
include hl9
end
end Go.Proofs.YtakedlockchpcaaGreatDoor
namespace Go.Proofs.YtakedlockchpcaaGreatDoor
open Go.RowKit
attribute [local irreducible] Fn WC WL WR OW Qt YieldFn QW FnP FnD FnE
theorem LeavS_oneB {c : Cx} {fn : Func} {s : List (Nat × Value)} {Rr Rp : Value → List (Nat × Obj) → Prop} {f : FuncId} {A B : Array Value} {u : FrameMode} {L : List (Nat × Obj)} [hf : FCall c.P f] (hu : u ≠ .run) {Q : FrameMode → List (Nat × Obj) → Prop} (hD : FnD c.P f (A.toList ++ B.toList) L u Q) (hk : ∀ u' L', Q u' L' → LeavS c fn s Rr Rp [] (settle u') L') : LeavS c fn s Rr Rp [{ target := .fn (.func f) B, args := A }] u L := by
  unfold FnD at hD
  exact ⟨hu, .inr ⟨f, A, B, rfl, hf, by
    unfold FnD
    exact fun g w n hm => (hD g w n hm).mono fun _ _ _ ⟨v, L', e1, e2, e3⟩ => ⟨v, L', e1, e2, hk _ _ e3⟩⟩⟩
theorem saved_Item {xb eb : Nat} {L : List (Nat × Obj)} : FnD Tryz.prog 119 [.pointer (some ⟨xb, 0, none⟩), .pointer (some ⟨eb, 0, none⟩)] L .returning (fun u' L' => u' = .returning ∧ L' = L) := by
  refine FnD_recover (rv := .nilIface) (u' := .returning) Tryz.func119 rfl Tryz.ntmps119 rfl rfl rfl rfl ⟨rfl, rfl⟩ fun g n => ⟨_, rfl, ?_⟩
  show WC _ _ _ ⟨[(6, .nilIface), (0, .pointer (some ⟨xb, 0, none⟩)), (1, .pointer (some ⟨eb, 0, none⟩))], [], L⟩
  repeat (first | ((first | refine WL_Q ?_); (first | refine QW_a ?_ | refine QW_of (Qt_nilCheck_m rfl) ?_)) | ((first | refine WL_op rfl ?_); (first | refine OW_alloc rfl (hk := fun _ => ?_) | refine OW_stA rfl ?_ | refine OW_stN rfl ?_ | refine OW_st1 rfl ?_)) | refine WL_nil ?_ | refine WC_seq ?_ | refine WC_block ?_ | refine WC_cond_t (ht := ?_) | refine WC_cond_f (he := ?_) | refine WC_skip ?_ | refine WC_ret ?_ | refine WC_exit ?_ | refine WC_region ?_)
  exact ⟨rfl, _, _, Res0 rfl, .refl _, rfl, rfl⟩
theorem caught_Item {xb eb p : Nat} {old : Value} {cs : Array Value} (hz : cs.size = 8) {L : List (Nat × Obj)} : FnD Tryz.prog 119 [.pointer (some ⟨xb, 0, none⟩), .pointer (some ⟨eb, 0, none⟩)] ((eb, .cells #[old] 70 (0, 0)) :: (xb, .cells cs 37 (0, 0)) :: L) (.panicking (pan (flt p))) (fun u' L' => settle u' = .returning ∧ L' = (eb, .cells #[flt p] 70 (0, 0)) :: (xb, .cells zc37 37 (0, 0)) :: L) := by
  refine FnD_recover (rv := flt p) Tryz.func119 rfl Tryz.ntmps119 rfl rfl rfl rfl ⟨rfl, rfl⟩ fun g n => ⟨_, rfl, ?_⟩
  show WC _ _ _ ⟨[(6, flt p), (0, .pointer (some ⟨xb, 0, none⟩)), (1, .pointer (some ⟨eb, 0, none⟩))], [], _⟩
  repeat (first | ((first | refine WL_Q ?_); (first | refine QW_a ?_ | refine QW_of (Qt_nilCheck_m rfl) ?_)) | ((first | refine WL_op rfl ?_); (first | refine OW_alloc rfl (hk := fun _ => ?_) | refine OW_stA rfl ?_ | refine OW_stN rfl ?_ | refine OW_st1 rfl ?_)) | refine WL_nil ?_ | refine WC_seq ?_ | refine WC_block ?_ | refine WC_cond_t (ht := ?_) | refine WC_cond_f (he := ?_) | refine WC_skip ?_ | refine WC_ret ?_ | refine WC_exit ?_ | refine WC_region ?_)
  exact ⟨rfl, _, _, Res0 rfl, .cons _ (.refl _), rfl, rfl⟩
theorem saved_Entry {xb eb : Nat} {L : List (Nat × Obj)} : FnD Tryz.prog 117 [.pointer (some ⟨xb, 0, none⟩), .pointer (some ⟨eb, 0, none⟩)] L .returning (fun u' L' => u' = .returning ∧ L' = L) := by
  refine FnD_recover (rv := .nilIface) (u' := .returning) Tryz.func117 rfl Tryz.ntmps117 rfl rfl rfl rfl ⟨rfl, rfl⟩ fun g n => ⟨_, rfl, ?_⟩
  show WC _ _ _ ⟨[(6, .nilIface), (0, .pointer (some ⟨xb, 0, none⟩)), (1, .pointer (some ⟨eb, 0, none⟩))], [], L⟩
  repeat (first | ((first | refine WL_Q ?_); (first | refine QW_a ?_ | refine QW_of (Qt_nilCheck_m rfl) ?_)) | ((first | refine WL_op rfl ?_); (first | refine OW_alloc rfl (hk := fun _ => ?_) | refine OW_stA rfl ?_ | refine OW_stN rfl ?_ | refine OW_st1 rfl ?_)) | refine WL_nil ?_ | refine WC_seq ?_ | refine WC_block ?_ | refine WC_cond_t (ht := ?_) | refine WC_cond_f (he := ?_) | refine WC_skip ?_ | refine WC_ret ?_ | refine WC_exit ?_ | refine WC_region ?_)
  exact ⟨rfl, _, _, Res0 rfl, .refl _, rfl, rfl⟩
theorem caught_Entry {xb eb p : Nat} {old : Value} {cs : Array Value} (hz : cs.size = 10) {L : List (Nat × Obj)} : FnD Tryz.prog 117 [.pointer (some ⟨xb, 0, none⟩), .pointer (some ⟨eb, 0, none⟩)] ((eb, .cells #[old] 70 (0, 0)) :: (xb, .cells cs 45 (0, 0)) :: L) (.panicking (pan (flt p))) (fun u' L' => settle u' = .returning ∧ L' = (eb, .cells #[flt p] 70 (0, 0)) :: (xb, .cells zc45 45 (0, 0)) :: L) := by
  refine FnD_recover (rv := flt p) Tryz.func117 rfl Tryz.ntmps117 rfl rfl rfl rfl ⟨rfl, rfl⟩ fun g n => ⟨_, rfl, ?_⟩
  show WC _ _ _ ⟨[(6, flt p), (0, .pointer (some ⟨xb, 0, none⟩)), (1, .pointer (some ⟨eb, 0, none⟩))], [], _⟩
  repeat (first | ((first | refine WL_Q ?_); (first | refine QW_a ?_ | refine QW_of (Qt_nilCheck_m rfl) ?_)) | ((first | refine WL_op rfl ?_); (first | refine OW_alloc rfl (hk := fun _ => ?_) | refine OW_stA rfl ?_ | refine OW_stN rfl ?_ | refine OW_st1 rfl ?_)) | refine WL_nil ?_ | refine WC_seq ?_ | refine WC_block ?_ | refine WC_cond_t (ht := ?_) | refine WC_cond_f (he := ?_) | refine WC_skip ?_ | refine WC_ret ?_ | refine WC_exit ?_ | refine WC_region ?_)
  exact ⟨rfl, _, _, Res0 rfl, .cons _ (.refl _), rfl, rfl⟩
theorem saved_Cmd {xb eb : Nat} {L : List (Nat × Obj)} : FnD Tryz.prog 118 [.pointer (some ⟨xb, 0, none⟩), .pointer (some ⟨eb, 0, none⟩)] L .returning (fun u' L' => u' = .returning ∧ L' = L) := by
  refine FnD_recover (rv := .nilIface) (u' := .returning) Tryz.func118 rfl Tryz.ntmps118 rfl rfl rfl rfl ⟨rfl, rfl⟩ fun g n => ⟨_, rfl, ?_⟩
  show WC _ _ _ ⟨[(6, .nilIface), (0, .pointer (some ⟨xb, 0, none⟩)), (1, .pointer (some ⟨eb, 0, none⟩))], [], L⟩
  repeat (first | ((first | refine WL_Q ?_); (first | refine QW_a ?_ | refine QW_of (Qt_nilCheck_m rfl) ?_)) | ((first | refine WL_op rfl ?_); (first | refine OW_alloc rfl (hk := fun _ => ?_) | refine OW_stA rfl ?_ | refine OW_stN rfl ?_ | refine OW_st1 rfl ?_)) | refine WL_nil ?_ | refine WC_seq ?_ | refine WC_block ?_ | refine WC_cond_t (ht := ?_) | refine WC_cond_f (he := ?_) | refine WC_skip ?_ | refine WC_ret ?_ | refine WC_exit ?_ | refine WC_region ?_)
  exact ⟨rfl, _, _, Res0 rfl, .refl _, rfl, rfl⟩
theorem caught_Cmd {xb eb p : Nat} {old : Value} {cs : Array Value} (hz : cs.size = 10) {L : List (Nat × Obj)} : FnD Tryz.prog 118 [.pointer (some ⟨xb, 0, none⟩), .pointer (some ⟨eb, 0, none⟩)] ((eb, .cells #[old] 70 (0, 0)) :: (xb, .cells cs 30 (0, 0)) :: L) (.panicking (pan (flt p))) (fun u' L' => settle u' = .returning ∧ L' = (eb, .cells #[flt p] 70 (0, 0)) :: (xb, .cells zc30 30 (0, 0)) :: L) := by
  refine FnD_recover (rv := flt p) Tryz.func118 rfl Tryz.ntmps118 rfl rfl rfl rfl ⟨rfl, rfl⟩ fun g n => ⟨_, rfl, ?_⟩
  show WC _ _ _ ⟨[(6, flt p), (0, .pointer (some ⟨xb, 0, none⟩)), (1, .pointer (some ⟨eb, 0, none⟩))], [], _⟩
  repeat (first | ((first | refine WL_Q ?_); (first | refine QW_a ?_ | refine QW_of (Qt_nilCheck_m rfl) ?_)) | ((first | refine WL_op rfl ?_); (first | refine OW_alloc rfl (hk := fun _ => ?_) | refine OW_stA rfl ?_ | refine OW_stN rfl ?_ | refine OW_st1 rfl ?_)) | refine WL_nil ?_ | refine WC_seq ?_ | refine WC_block ?_ | refine WC_cond_t (ht := ?_) | refine WC_cond_f (he := ?_) | refine WC_skip ?_ | refine WC_ret ?_ | refine WC_exit ?_ | refine WC_region ?_)
  exact ⟨rfl, _, _, Res0 rfl, .cons _ (.refl _), rfl, rfl⟩
end Go.Proofs.YtakedlockchpcaaGreatDoor
namespace Go.Proofs.YtakedlockchpcaaGreatDoor
open Go.RowKit
attribute [local irreducible] Fn WC WL WR OW Qt YieldFn QW FnP FnD FnE
theorem OW_defB {c : Cx} {o : Oper} {Kn : St → Prop} {K : Exit → St → Prop} {s : List (Nat × Value)} {D : List Deferred} {L : List (Nat × Obj)} {f : FuncId} {x : Operand} {A B : Array Value} {args : Array Operand} {tys : Array TypeId} {vs : List Value} (ho : o.op = .defer { callee := .value x, args := args, argTypes := tys }) (hr : c.r = none := by exact rfl) (hdst : o.dst = none := by exact rfl) (hx : ev s x = some (.func (.func f) A B) := by exact rfl) (ha : evs s args.toList = some vs := by exact rfl)
    (hk : Kn ⟨s, { target := .fn (.func f) B, args := (A.toList ++ vs).toArray } :: D, L⟩) : OW c o Kn K ⟨s, D, L⟩ := by
  refine OW_defer (σ := ⟨s, D, L⟩) (x := x) (A := A) (B := B) hr ho hx ha (by rw [hdst]; rfl) ?_
  rw [hdst]
  simpa [St.put] using hk
theorem perm2 {α : Type} (P F : List α) (x y : α) : (x :: y :: (P ++ F)).Perm (P ++ (x :: y :: F)) := ((List.perm_middle (l₁ := P)).trans (.cons _ (List.perm_middle (l₁ := P)))).symm
def ReadAt (rb : Nat) (l : List UInt8) (F : List (Nat × Obj)) (n : Nat) (zc : Array Value) (Ok : Nat → List (Nat × Obj) → Array Value → Prop) (Bad : Nat → Nat → Prop) (v : Value) (L' : List (Nat × Obj)) : Prop :=
  (∃ b T cs', Ok b T cs' ∧ cs'.size = n ∧ v = .tuple #[.agg cs', .nilIface] ∧ L' = (rb, rdO l b) :: (F ++ T)) ∨
  (∃ c e p b, Bad c e ∧ b ≤ l.length ∧ v = .tuple #[.agg zc, flt p] ∧ L' = (p, fltO c e) :: (rb, rdO l b) :: F)
def PartsFn (fu : FuncId) (rb : Nat) (l : List UInt8) (a : Nat) (F : List (Nat × Obj)) (E : TypeId) (n : Nat) (zc : Array Value) (Ok : Nat → List (Nat × Obj) → Array Value → Prop) (Bad : Nat → Nat → Prop) : Prop :=
  ∀ gb eb xb : Nat, FnE Tryz.prog fu [getV gb, .pointer (some ⟨xb, 0, none⟩)] ((rb, rdO l a) :: (gb, gtO rb 0) :: (eb, .cells #[.nilIface] 70 (0, 0)) :: (xb, .cells zc E (0, 0)) :: F)
    (fun v L' => v = .tuple #[] ∧ ∃ b q T cs', Ok b T cs' ∧ L' = (rb, rdO l b) :: (gb, gtO rb q) :: (T ++ ((eb, .cells #[.nilIface] 70 (0, 0)) :: (xb, .cells cs' E (0, 0)) :: F)) ∧ cs'.size = n ∧ (cs'.toList.all fun v => v.oneCell') = true)
    (fun u L' => ∃ c e p b q T cs', Bad c e ∧ b ≤ l.length ∧ u = flt p ∧ L' = (p, fltO c e) :: (rb, rdO l b) :: (gb, gtO rb q) :: (T ++ ((eb, .cells #[.nilIface] 70 (0, 0)) :: (xb, .cells cs' E (0, 0)) :: F)) ∧ cs'.size = n)
theorem PartsFn.perm {fu : FuncId} {rb : Nat} {l : List UInt8} {a : Nat} {F : List (Nat × Obj)} {E : TypeId} {n : Nat} {zc : Array Value} {Ok : Nat → List (Nat × Obj) → Array Value → Prop} {Bad : Nat → Nat → Prop} (h : PartsFn fu rb l a F E n zc Ok Bad) (gb eb xb : Nat) :
    FnE Tryz.prog fu [getV gb, .pointer (some ⟨xb, 0, none⟩)] ((gb, gtO rb 0) :: (rb, rdO l a) :: (eb, .cells #[.nilIface] 70 (0, 0)) :: (xb, .cells zc E (0, 0)) :: F)
    (fun v L' => v = .tuple #[] ∧ ∃ b q T cs', Ok b T cs' ∧ L' = (rb, rdO l b) :: (eb, .cells #[.nilIface] 70 (0, 0)) :: (xb, .cells cs' E (0, 0)) :: ((gb, gtO rb q) :: (F ++ T)) ∧ cs'.size = n ∧ (cs'.toList.all fun v => v.oneCell') = true)
    (fun u L' => ∃ c e p b q T cs', Bad c e ∧ b ≤ l.length ∧ u = flt p ∧ L' = (eb, .cells #[.nilIface] 70 (0, 0)) :: (xb, .cells cs' E (0, 0)) :: ((p, fltO c e) :: (rb, rdO l b) :: (gb, gtO rb q) :: (T ++ F)) ∧ cs'.size = n) :=
  (h gb eb xb).perm (.swap _ _ _)
    (fun v L' ⟨h0, b, q, T, cs', h1, h2, h3⟩ => ⟨_, by rw [h2]; exact .cons _ ((List.Perm.cons _ (.cons _ (.cons _ List.perm_append_comm))).trans (perm2 ((gb, gtO rb q) :: T) F _ _)), h0, b, q, T, cs', h1, rfl, h3⟩)
    (fun u L' ⟨c, e, p, b, q, T, cs', h1, hb, h0, h2, h3⟩ => ⟨_, by rw [h2]; exact perm2 ((p, fltO c e) :: (rb, rdO l b) :: (gb, gtO rb q) :: T) F _ _, c, e, p, b, q, T, cs', h1, hb, h0, rfl, h3⟩)
set_option maxHeartbeats 1000000 in
theorem read_Item {rb a : Nat} {l : List UInt8} {F : List (Nat × Obj)} {fu : FuncId} [FCall Tryz.prog fu] {Ok : Nat → List (Nat × Obj) → Array Value → Prop} {Bad : Nat → Nat → Prop} (hf : PartsFn fu rb l a F 37 8 zc37 Ok Bad) :
    Fn Tryz.prog 86 [.pointer (some ⟨rb, 0, none⟩), .func (.func fu) #[] #[]] ((rb, rdO l a) :: F) (ReadAt rb l F 8 zc37 Ok Bad) := by
  refine Fn_enterD Tryz.func86 rfl Tryz.ntmps86 rfl fun g => ?_
  repeat (first | ((first | refine WL_Q ?_); (first | refine QW_a ?_ | refine QW_of (Qt_nilCheck_m rfl) ?_)) | ((first | refine WL_op rfl ?_); (first | refine OW_alloc rfl (hk := fun _ => ?_) | refine OW_box rfl (hk := fun _ => ?_) | refine OW_stA rfl ?_ | refine OW_stN rfl ?_ | refine OW_st1 rfl ?_)) | refine WL_nil ?_ | refine WC_seq ?_ | refine WC_block ?_ | refine WC_cond_t (ht := ?_) | refine WC_cond_f (he := ?_) | refine WC_skip ?_ | refine WC_ret ?_ | refine WC_exit ?_ | refine WC_region (id := 0) ?_ | refine WC_region (id := 1) ?_)
  rename_i xb eb
  refine WL_op rfl (OW_defB rfl (hk := WL_nil ?_))
  refine WC_front 2 rfl ?_
  repeat (first | ((first | refine WL_Q ?_); (first | refine QW_a ?_ | refine QW_of (Qt_nilCheck_m rfl) ?_)) | ((first | refine WL_op rfl ?_); (first | refine OW_alloc rfl (hk := fun _ => ?_) | refine OW_box rfl (hk := fun _ => ?_) | refine OW_stA rfl ?_ | refine OW_stN rfl ?_ | refine OW_st1 rfl ?_)) | refine WL_nil ?_ | refine WC_seq ?_ | refine WC_block ?_ | refine WC_cond_t (ht := ?_) | refine WC_cond_f (he := ?_) | refine WC_skip ?_ | refine WC_ret ?_ | refine WC_exit ?_ | refine WC_region (id := 0) ?_ | refine WC_region (id := 1) ?_)
  refine WC_regP ?_
  repeat (first | ((first | refine WL_Q ?_); (first | refine QW_a ?_ | refine QW_of (Qt_nilCheck_m rfl) ?_)) | ((first | refine WL_op rfl ?_); (first | refine OW_alloc rfl (hk := fun _ => ?_) | refine OW_box rfl (hk := fun _ => ?_) | refine OW_stA rfl ?_ | refine OW_stN rfl ?_ | refine OW_st1 rfl ?_)) | refine WL_nil ?_ | refine WC_seq ?_ | refine WC_block ?_ | refine WC_cond_t (ht := ?_) | refine WC_cond_f (he := ?_) | refine WC_skip ?_ | refine WC_ret ?_ | refine WC_exit ?_ | refine WC_region (id := 0) ?_ | refine WC_region (id := 1) ?_ | refine WC_region (id := 2) ?_)
  rename_i gb
  refine WL_op rfl ?_
  refine OW_callE rfl (hf.perm gb eb xb) ?_ ?_
  rotate_left
  · rintro _ _ ⟨c, e, p, b, q, T, cs', h1, hb, rfl, rfl, hz⟩
    refine LeavS_oneB (by simp) (caught_Item hz) ?_
    rintro u' L' ⟨hu, rfl⟩
    rw [hu]
    exact ⟨_, _, Res2 rfl (resV_cellN rfl 1 rfl rfl) (resV_cell1 rfl 0 rfl), .cons _ (.cons _ (.cons_cons _ (.cons_cons _ (.cons _ (List.sublist_append_right _ _))))), .inr ⟨c, e, p, b, h1, hb, rfl, rfl⟩⟩
  rintro _ _ ⟨rfl, b, q, T, cs', h1, rfl, hz, hone⟩
  repeat (first | ((first | refine WL_Q ?_); (first | refine QW_a ?_ | refine QW_of (Qt_nilCheck_m rfl) ?_)) | ((first | refine WL_op rfl ?_); (first | refine OW_alloc rfl (hk := fun _ => ?_) | refine OW_box rfl (hk := fun _ => ?_) | refine OW_stA rfl ?_ | refine OW_stN rfl ?_ | refine OW_st1 rfl ?_)) | refine WL_nil ?_ | refine WC_seq ?_ | refine WC_block ?_ | refine WC_cond_t (ht := ?_) | refine WC_cond_f (he := ?_) | refine WC_skip ?_ | refine WC_ret ?_ | refine WC_exit ?_ | refine WC_region ?_)
  refine LeavS_oneB (c := ⟨Tryz.prog, g, _, _, _⟩) (A := #[]) (B := #[.pointer (some ⟨xb, 0, none⟩), .pointer (some ⟨eb, 0, none⟩)]) (u := .returning) (by simp) saved_Item ?_
  rintro u' L' ⟨rfl, rfl⟩
  exact ⟨_, _, Res2 rfl (resV_cellN rfl 2 rfl hz) (resV_cell1 rfl 1 rfl), .cons_cons _ (.cons _ (.cons _ (.cons _ (.refl _)))), .inl ⟨b, T, cs', h1, hz, rfl, rfl⟩⟩
set_option maxHeartbeats 1000000 in
theorem read_Entry {rb a : Nat} {l : List UInt8} {F : List (Nat × Obj)} {fu : FuncId} [FCall Tryz.prog fu] {Ok : Nat → List (Nat × Obj) → Array Value → Prop} {Bad : Nat → Nat → Prop} (hf : PartsFn fu rb l a F 45 10 zc45 Ok Bad) :
    Fn Tryz.prog 84 [.pointer (some ⟨rb, 0, none⟩), .func (.func fu) #[] #[]] ((rb, rdO l a) :: F) (ReadAt rb l F 10 zc45 Ok Bad) := by
  refine Fn_enterD Tryz.func84 rfl Tryz.ntmps84 rfl fun g => ?_
  repeat (first | ((first | refine WL_Q ?_); (first | refine QW_a ?_ | refine QW_of (Qt_nilCheck_m rfl) ?_)) | ((first | refine WL_op rfl ?_); (first | refine OW_alloc rfl (hk := fun _ => ?_) | refine OW_box rfl (hk := fun _ => ?_) | refine OW_stA rfl ?_ | refine OW_stN rfl ?_ | refine OW_st1 rfl ?_)) | refine WL_nil ?_ | refine WC_seq ?_ | refine WC_block ?_ | refine WC_cond_t (ht := ?_) | refine WC_cond_f (he := ?_) | refine WC_skip ?_ | refine WC_ret ?_ | refine WC_exit ?_ | refine WC_region (id := 0) ?_ | refine WC_region (id := 1) ?_)
  rename_i xb eb
  refine WL_op rfl (OW_defB rfl (hk := WL_nil ?_))
  refine WC_front 2 rfl ?_
  repeat (first | ((first | refine WL_Q ?_); (first | refine QW_a ?_ | refine QW_of (Qt_nilCheck_m rfl) ?_)) | ((first | refine WL_op rfl ?_); (first | refine OW_alloc rfl (hk := fun _ => ?_) | refine OW_box rfl (hk := fun _ => ?_) | refine OW_stA rfl ?_ | refine OW_stN rfl ?_ | refine OW_st1 rfl ?_)) | refine WL_nil ?_ | refine WC_seq ?_ | refine WC_block ?_ | refine WC_cond_t (ht := ?_) | refine WC_cond_f (he := ?_) | refine WC_skip ?_ | refine WC_ret ?_ | refine WC_exit ?_ | refine WC_region (id := 0) ?_ | refine WC_region (id := 1) ?_)
  refine WC_regP ?_
  repeat (first | ((first | refine WL_Q ?_); (first | refine QW_a ?_ | refine QW_of (Qt_nilCheck_m rfl) ?_)) | ((first | refine WL_op rfl ?_); (first | refine OW_alloc rfl (hk := fun _ => ?_) | refine OW_box rfl (hk := fun _ => ?_) | refine OW_stA rfl ?_ | refine OW_stN rfl ?_ | refine OW_st1 rfl ?_)) | refine WL_nil ?_ | refine WC_seq ?_ | refine WC_block ?_ | refine WC_cond_t (ht := ?_) | refine WC_cond_f (he := ?_) | refine WC_skip ?_ | refine WC_ret ?_ | refine WC_exit ?_ | refine WC_region (id := 0) ?_ | refine WC_region (id := 1) ?_ | refine WC_region (id := 2) ?_)
  rename_i gb
  refine WL_op rfl ?_
  refine OW_callE rfl (hf.perm gb eb xb) ?_ ?_
  rotate_left
  · rintro _ _ ⟨c, e, p, b, q, T, cs', h1, hb, rfl, rfl, hz⟩
    refine LeavS_oneB (by simp) (caught_Entry hz) ?_
    rintro u' L' ⟨hu, rfl⟩
    rw [hu]
    exact ⟨_, _, Res2 rfl (resV_cellN rfl 1 rfl rfl) (resV_cell1 rfl 0 rfl), .cons _ (.cons _ (.cons_cons _ (.cons_cons _ (.cons _ (List.sublist_append_right _ _))))), .inr ⟨c, e, p, b, h1, hb, rfl, rfl⟩⟩
  rintro _ _ ⟨rfl, b, q, T, cs', h1, rfl, hz, hone⟩
  repeat (first | ((first | refine WL_Q ?_); (first | refine QW_a ?_ | refine QW_of (Qt_nilCheck_m rfl) ?_)) | ((first | refine WL_op rfl ?_); (first | refine OW_alloc rfl (hk := fun _ => ?_) | refine OW_box rfl (hk := fun _ => ?_) | refine OW_stA rfl ?_ | refine OW_stN rfl ?_ | refine OW_st1 rfl ?_)) | refine WL_nil ?_ | refine WC_seq ?_ | refine WC_block ?_ | refine WC_cond_t (ht := ?_) | refine WC_cond_f (he := ?_) | refine WC_skip ?_ | refine WC_ret ?_ | refine WC_exit ?_ | refine WC_region ?_)
  refine LeavS_oneB (c := ⟨Tryz.prog, g, _, _, _⟩) (A := #[]) (B := #[.pointer (some ⟨xb, 0, none⟩), .pointer (some ⟨eb, 0, none⟩)]) (u := .returning) (by simp) saved_Entry ?_
  rintro u' L' ⟨rfl, rfl⟩
  exact ⟨_, _, Res2 rfl (resV_cellN rfl 2 rfl hz) (resV_cell1 rfl 1 rfl), .cons_cons _ (.cons _ (.cons _ (.cons _ (.refl _)))), .inl ⟨b, T, cs', h1, hz, rfl, rfl⟩⟩
set_option maxHeartbeats 1000000 in
theorem read_Cmd {rb a : Nat} {l : List UInt8} {F : List (Nat × Obj)} {fu : FuncId} [FCall Tryz.prog fu] {Ok : Nat → List (Nat × Obj) → Array Value → Prop} {Bad : Nat → Nat → Prop} (hf : PartsFn fu rb l a F 30 10 zc30 Ok Bad) :
    Fn Tryz.prog 85 [.pointer (some ⟨rb, 0, none⟩), .func (.func fu) #[] #[]] ((rb, rdO l a) :: F) (ReadAt rb l F 10 zc30 Ok Bad) := by
  refine Fn_enterD Tryz.func85 rfl Tryz.ntmps85 rfl fun g => ?_
  repeat (first | ((first | refine WL_Q ?_); (first | refine QW_a ?_ | refine QW_of (Qt_nilCheck_m rfl) ?_)) | ((first | refine WL_op rfl ?_); (first | refine OW_alloc rfl (hk := fun _ => ?_) | refine OW_box rfl (hk := fun _ => ?_) | refine OW_stA rfl ?_ | refine OW_stN rfl ?_ | refine OW_st1 rfl ?_)) | refine WL_nil ?_ | refine WC_seq ?_ | refine WC_block ?_ | refine WC_cond_t (ht := ?_) | refine WC_cond_f (he := ?_) | refine WC_skip ?_ | refine WC_ret ?_ | refine WC_exit ?_ | refine WC_region (id := 0) ?_ | refine WC_region (id := 1) ?_)
  rename_i xb eb
  refine WL_op rfl (OW_defB rfl (hk := WL_nil ?_))
  refine WC_front 2 rfl ?_
  repeat (first | ((first | refine WL_Q ?_); (first | refine QW_a ?_ | refine QW_of (Qt_nilCheck_m rfl) ?_)) | ((first | refine WL_op rfl ?_); (first | refine OW_alloc rfl (hk := fun _ => ?_) | refine OW_box rfl (hk := fun _ => ?_) | refine OW_stA rfl ?_ | refine OW_stN rfl ?_ | refine OW_st1 rfl ?_)) | refine WL_nil ?_ | refine WC_seq ?_ | refine WC_block ?_ | refine WC_cond_t (ht := ?_) | refine WC_cond_f (he := ?_) | refine WC_skip ?_ | refine WC_ret ?_ | refine WC_exit ?_ | refine WC_region (id := 0) ?_ | refine WC_region (id := 1) ?_)
  refine WC_regP ?_
  repeat (first | ((first | refine WL_Q ?_); (first | refine QW_a ?_ | refine QW_of (Qt_nilCheck_m rfl) ?_)) | ((first | refine WL_op rfl ?_); (first | refine OW_alloc rfl (hk := fun _ => ?_) | refine OW_box rfl (hk := fun _ => ?_) | refine OW_stA rfl ?_ | refine OW_stN rfl ?_ | refine OW_st1 rfl ?_)) | refine WL_nil ?_ | refine WC_seq ?_ | refine WC_block ?_ | refine WC_cond_t (ht := ?_) | refine WC_cond_f (he := ?_) | refine WC_skip ?_ | refine WC_ret ?_ | refine WC_exit ?_ | refine WC_region (id := 0) ?_ | refine WC_region (id := 1) ?_ | refine WC_region (id := 2) ?_)
  rename_i gb
  refine WL_op rfl ?_
  refine OW_callE rfl (hf.perm gb eb xb) ?_ ?_
  rotate_left
  · rintro _ _ ⟨c, e, p, b, q, T, cs', h1, hb, rfl, rfl, hz⟩
    refine LeavS_oneB (by simp) (caught_Cmd hz) ?_
    rintro u' L' ⟨hu, rfl⟩
    rw [hu]
    exact ⟨_, _, Res2 rfl (resV_cellN rfl 1 rfl rfl) (resV_cell1 rfl 0 rfl), .cons _ (.cons _ (.cons_cons _ (.cons_cons _ (.cons _ (List.sublist_append_right _ _))))), .inr ⟨c, e, p, b, h1, hb, rfl, rfl⟩⟩
  rintro _ _ ⟨rfl, b, q, T, cs', h1, rfl, hz, hone⟩
  repeat (first | ((first | refine WL_Q ?_); (first | refine QW_a ?_ | refine QW_of (Qt_nilCheck_m rfl) ?_)) | ((first | refine WL_op rfl ?_); (first | refine OW_alloc rfl (hk := fun _ => ?_) | refine OW_box rfl (hk := fun _ => ?_) | refine OW_stA rfl ?_ | refine OW_stN rfl ?_ | refine OW_st1 rfl ?_)) | refine WL_nil ?_ | refine WC_seq ?_ | refine WC_block ?_ | refine WC_cond_t (ht := ?_) | refine WC_cond_f (he := ?_) | refine WC_skip ?_ | refine WC_ret ?_ | refine WC_exit ?_ | refine WC_region ?_)
  refine LeavS_oneB (c := ⟨Tryz.prog, g, _, _, _⟩) (A := #[]) (B := #[.pointer (some ⟨xb, 0, none⟩), .pointer (some ⟨eb, 0, none⟩)]) (u := .returning) (by simp) saved_Cmd ?_
  rintro u' L' ⟨rfl, rfl⟩
  exact ⟨_, _, Res2 rfl (resV_cellN rfl 2 rfl hz) (resV_cell1 rfl 1 rfl), .cons_cons _ (.cons _ (.cons _ (.cons _ (.refl _)))), .inl ⟨b, T, cs', h1, hz, rfl, rfl⟩⟩
end Go.Proofs.YtakedlockchpcaaGreatDoor
namespace Go.Proofs.YtakedlockchpcaaGreatDoor
open Go.RowKit
attribute [local irreducible] Fn WC WL WR OW Qt YieldFn QW FnP FnD FnE
theorem Fk.ok_one {k : Fk} {v : Value} (h : k.ok v) : v.oneCell' = true := by
  cases k <;> obtain ⟨x, rfl, _⟩ := h <;> rfl
theorem Oks.cells1 : ∀ {fs : List Fk} {vs : List Value}, Oks fs vs → (vs.all fun v => v.oneCell') = true
  | [], [], _ => rfl
  | k :: ks, v :: vs, h => by rw [List.all_cons, Fk.ok_one h.1, Oks.cells1 h.2]; rfl
  | [], _ :: _, h => h.elim
  | _ :: _, [], h => h.elim
theorem Upd.whole {cs cs' : Array Value} {us : List Value} (h : Upd cs cs' 0 us) (hn : us.length = cs.size) : cs' = us.toArray := by
  apply Array.ext_getElem?
  intro j
  by_cases hj : j < us.length
  · have := h.lies j us[j] (List.getElem?_eq_getElem hj)
    rw [Nat.zero_add] at this
    rw [this, List.getElem?_toArray, List.getElem?_eq_getElem hj]
  · rw [Array.getElem?_eq_none (by rw [h.size]; omega), Array.getElem?_eq_none (by simp; omega)]
theorem lies_self {vs : List Value} : Lies vs.toArray 0 vs := fun j v h => by rw [Nat.zero_add, List.getElem?_toArray]; exact h
def zItem : List Value := .bool false :: zI :: zRec
theorem zItem_ok : Oks itemF zItem := ⟨⟨false, rfl⟩, oks_zI, oks_zRec⟩
def FlatAt (rb : Nat) (l : List UInt8) (F : List (Nat × Obj)) (fs : List Fk) (a : Nat) (zc : Array Value) (v : Value) (L' : List (Nat × Obj)) : Prop :=
  (∃ us b, prs l fs a = .ok us b ∧ v = .tuple #[.agg us.toArray, .nilIface] ∧ L' = (rb, rdO l b) :: F) ∨
  (∃ c e p b, prs l fs a = .bad c e ∧ b ≤ l.length ∧ v = .tuple #[.agg zc, flt p] ∧ L' = (p, fltO c e) :: (rb, rdO l b) :: F)
theorem parts_Item {rb a : Nat} {l : List UInt8} (hl9 : l.length ≤ 1000000000) (ha : a ≤ l.length) (F : List (Nat × Obj)) :
    PartsFn 51 rb l a F 37 8 zc37 (fun b T cs' => ∃ us, prs l itemF a = .ok us b ∧ T = [] ∧ cs' = us.toArray) (fun c e => prs l itemF a = .bad c e) := by
  intro gb eb xb
  refine (getF (fs := itemF) (s := (a, 0)) (Lp := [(rb, rdO l a), (gb, gtO rb 0)]) (R := (eb, .cells #[.nilIface] 70 (0, 0)) :: (xb, .cells zc37 37 (0, 0)) :: F) (i := 1) (item_flat (getM hl9)) ⟨rfl, ha⟩ rfl zItem_ok (lies_self (vs := zItem)) (Free.zero _ _)).mono ?_ ?_
  · rintro _ _ ⟨h0, us, s', Lp', cs', h1, rfl, ⟨rfl, hb⟩, hu, hn⟩
    have e := hu.whole hn
    subst e
    exact ⟨h0, s'.1, s'.2, [], _, ⟨us, h1, rfl, rfl⟩, rfl, hu.size, (prs_went ha h1).1.cells1⟩
  · rintro _ _ ⟨c, e, p, s', Lp', cs', h1, h0, rfl, ⟨rfl, hb⟩, hz⟩
    exact ⟨c, e, p, s'.1, s'.2, [], cs', h1, hb, h0, rfl, hz⟩
theorem GItem_fn {rb a : Nat} {l : List UInt8} (hl9 : l.length ≤ 1000000000) (ha : a ≤ l.length) (F : List (Nat × Obj)) :
    Fn Tryz.prog 33 [.pointer (some ⟨rb, 0, none⟩)] ((rb, rdO l a) :: F) (FlatAt rb l F itemF a zc37) := by
  refine Fn_enter Tryz.func33 rfl Tryz.ntmps33 rfl fun g => ?_
  repeat (first | ((first | refine WL_Q ?_); (first | refine QW_a ?_ | refine QW_of (Qt_nilCheck_m rfl) ?_)) | ((first | refine WL_op rfl ?_); (first | refine OW_alloc rfl (hk := fun _ => ?_) | refine OW_stA rfl ?_ | refine OW_stN rfl ?_)) | refine WL_nil ?_ | refine WC_seq ?_ | refine WC_block ?_ | refine WC_cond_t (ht := ?_) | refine WC_cond_f (he := ?_) | refine WC_skip ?_ | refine WC_ret ?_ | refine WC_exit ?_ | refine WC_region (id := 0) ?_)
  rename_i xb
  refine WC_front 1 rfl ?_
  repeat (first | ((first | refine WL_Q ?_); (first | refine QW_a ?_ | refine QW_of (Qt_nilCheck_m rfl) ?_)) | ((first | refine WL_op rfl ?_); (first | refine OW_alloc rfl (hk := fun _ => ?_) | refine OW_stA rfl ?_ | refine OW_stN rfl ?_)) | refine WL_nil ?_ | refine WC_seq ?_ | refine WC_block ?_ | refine WC_cond_t (ht := ?_) | refine WC_cond_f (he := ?_) | refine WC_skip ?_ | refine WC_ret ?_ | refine WC_exit ?_ | refine WC_region ?_)
  refine WL_op rfl (OW_call rfl (hF := read_Item (parts_Item hl9 ha _)) (hk := ?_))
  rintro _ _ (⟨b, T, cs', ⟨us, h1, rfl, rfl⟩, hz, rfl, rfl⟩ | ⟨c, e, p, b, h1, hb, rfl, rfl⟩)
  · have hone : (us.toArray.toList.all fun v => v.oneCell') = true := (prs_went ha h1).1.cells1
    repeat (first | ((first | refine WL_Q ?_); (first | refine QW_a ?_ | refine QW_of (Qt_nilCheck_m rfl) ?_)) | ((first | refine WL_op rfl ?_); (first | refine OW_alloc rfl (hk := fun _ => ?_) | refine OW_stA rfl ?_ | refine OW_stN rfl ?_)) | refine WL_nil ?_ | refine WC_seq ?_ | refine WC_block ?_ | refine WC_cond_t (ht := ?_) | refine WC_cond_f (he := ?_) | refine WC_skip ?_ | refine WC_ret ?_ | refine WC_exit ?_ | refine WC_region ?_)
    exact ⟨rfl, _, _, Res2 rfl (resV_cellN rfl 1 rfl hz) (resV_tmp rfl), .cons_cons _ (.cons _ (List.sublist_append_left _ _)), .inl ⟨us, b, h1, rfl, rfl⟩⟩
  · repeat (first | ((first | refine WL_Q ?_); (first | refine QW_a ?_ | refine QW_of (Qt_nilCheck_m rfl) ?_)) | ((first | refine WL_op rfl ?_); (first | refine OW_alloc rfl (hk := fun _ => ?_) | refine OW_stA rfl ?_ | refine OW_stN rfl ?_)) | refine WL_nil ?_ | refine WC_seq ?_ | refine WC_block ?_ | refine WC_cond_t (ht := ?_) | refine WC_cond_f (he := ?_) | refine WC_skip ?_ | refine WC_ret ?_ | refine WC_exit ?_ | refine WC_region ?_)
    exact ⟨rfl, _, _, Res2 rfl (resV_cellN rfl 2 rfl rfl) (resV_tmp rfl), .cons_cons _ (.cons_cons _ (.cons _ (.refl _))), .inr ⟨c, e, p, b, h1, hb, rfl, rfl⟩⟩
theorem parts_Entry {rb a : Nat} {l : List UInt8} (hl9 : l.length ≤ 1000000000) (ha : a ≤ l.length) (F : List (Nat × Obj)) :
    PartsFn 61 rb l a F 45 10 zc45 (fun b T cs' => ∃ us, prs l entryF a = .ok us b ∧ T = [] ∧ cs' = us.toArray) (fun c e => prs l entryF a = .bad c e) := by
  intro gb eb xb
  refine (getF (fs := entryF) (s := (a, 0)) (Lp := [(rb, rdO l a), (gb, gtO rb 0)]) (R := (eb, .cells #[.nilIface] 70 (0, 0)) :: (xb, .cells zc45 45 (0, 0)) :: F) (i := 1) (entry_flat (getM hl9)) ⟨rfl, ha⟩ rfl zEnt_ok (lies_self (vs := zEnt)) (Free.zero _ _)).mono ?_ ?_
  · rintro _ _ ⟨h0, us, s', Lp', cs', h1, rfl, ⟨rfl, hb⟩, hu, hn⟩
    have e := hu.whole hn
    subst e
    exact ⟨h0, s'.1, s'.2, [], _, ⟨us, h1, rfl, rfl⟩, rfl, hu.size, (prs_went ha h1).1.cells1⟩
  · rintro _ _ ⟨c, e, p, s', Lp', cs', h1, h0, rfl, ⟨rfl, hb⟩, hz⟩
    exact ⟨c, e, p, s'.1, s'.2, [], cs', h1, hb, h0, rfl, hz⟩
theorem GEntry_fn {rb a : Nat} {l : List UInt8} (hl9 : l.length ≤ 1000000000) (ha : a ≤ l.length) (F : List (Nat × Obj)) :
    Fn Tryz.prog 30 [.pointer (some ⟨rb, 0, none⟩)] ((rb, rdO l a) :: F) (FlatAt rb l F entryF a zc45) := by
  refine Fn_enter Tryz.func30 rfl Tryz.ntmps30 rfl fun g => ?_
  repeat (first | ((first | refine WL_Q ?_); (first | refine QW_a ?_ | refine QW_of (Qt_nilCheck_m rfl) ?_)) | ((first | refine WL_op rfl ?_); (first | refine OW_alloc rfl (hk := fun _ => ?_) | refine OW_stA rfl ?_ | refine OW_stN rfl ?_)) | refine WL_nil ?_ | refine WC_seq ?_ | refine WC_block ?_ | refine WC_cond_t (ht := ?_) | refine WC_cond_f (he := ?_) | refine WC_skip ?_ | refine WC_ret ?_ | refine WC_exit ?_ | refine WC_region (id := 0) ?_)
  rename_i xb
  refine WC_front 1 rfl ?_
  repeat (first | ((first | refine WL_Q ?_); (first | refine QW_a ?_ | refine QW_of (Qt_nilCheck_m rfl) ?_)) | ((first | refine WL_op rfl ?_); (first | refine OW_alloc rfl (hk := fun _ => ?_) | refine OW_stA rfl ?_ | refine OW_stN rfl ?_)) | refine WL_nil ?_ | refine WC_seq ?_ | refine WC_block ?_ | refine WC_cond_t (ht := ?_) | refine WC_cond_f (he := ?_) | refine WC_skip ?_ | refine WC_ret ?_ | refine WC_exit ?_ | refine WC_region ?_)
  refine WL_op rfl (OW_call rfl (hF := read_Entry (parts_Entry hl9 ha _)) (hk := ?_))
  rintro _ _ (⟨b, T, cs', ⟨us, h1, rfl, rfl⟩, hz, rfl, rfl⟩ | ⟨c, e, p, b, h1, hb, rfl, rfl⟩)
  · have hone : (us.toArray.toList.all fun v => v.oneCell') = true := (prs_went ha h1).1.cells1
    repeat (first | ((first | refine WL_Q ?_); (first | refine QW_a ?_ | refine QW_of (Qt_nilCheck_m rfl) ?_)) | ((first | refine WL_op rfl ?_); (first | refine OW_alloc rfl (hk := fun _ => ?_) | refine OW_stA rfl ?_ | refine OW_stN rfl ?_)) | refine WL_nil ?_ | refine WC_seq ?_ | refine WC_block ?_ | refine WC_cond_t (ht := ?_) | refine WC_cond_f (he := ?_) | refine WC_skip ?_ | refine WC_ret ?_ | refine WC_exit ?_ | refine WC_region ?_)
    exact ⟨rfl, _, _, Res2 rfl (resV_cellN rfl 1 rfl hz) (resV_tmp rfl), .cons_cons _ (.cons _ (List.sublist_append_left _ _)), .inl ⟨us, b, h1, rfl, rfl⟩⟩
  · repeat (first | ((first | refine WL_Q ?_); (first | refine QW_a ?_ | refine QW_of (Qt_nilCheck_m rfl) ?_)) | ((first | refine WL_op rfl ?_); (first | refine OW_alloc rfl (hk := fun _ => ?_) | refine OW_stA rfl ?_ | refine OW_stN rfl ?_)) | refine WL_nil ?_ | refine WC_seq ?_ | refine WC_block ?_ | refine WC_cond_t (ht := ?_) | refine WC_cond_f (he := ?_) | refine WC_skip ?_ | refine WC_ret ?_ | refine WC_exit ?_ | refine WC_region ?_)
    exact ⟨rfl, _, _, Res2 rfl (resV_cellN rfl 2 rfl rfl) (resV_tmp rfl), .cons_cons _ (.cons_cons _ (.cons _ (.refl _))), .inr ⟨c, e, p, b, h1, hb, rfl, rfl⟩⟩
end Go.Proofs.YtakedlockchpcaaGreatDoor
namespace Go.Proofs.YtakedlockchpcaaGreatDoor
open Go.RowKit
attribute [local irreducible] Fn WC WL WR OW Qt YieldFn QW FnP FnD FnE
theorem Buf.one {E sz : Nat} {v : Value} {T : List (Nat × Obj)} {n : Nat} {xs : List Value} (h : Buf E sz v T n xs) : v.oneCell' = true := by
  obtain ⟨ag, cap, rfl, _⟩ := h.val
  rfl
def OkCmd (l : List UInt8) (a b : Nat) (T : List (Nat × Obj)) (cs' : Array Value) : Prop := (∃ x vb, prCmd l a = .ok x b ∧ Buf 3 1 vb T x.2.1.length x.2.1.flatten ∧ cs' = (x.1 ++ (vb :: x.2.2)).toArray) ∧ (cs'.toList.all fun v => v.oneCell') = true
theorem parts_Cmd {rb a : Nat} {l : List UInt8} (hl9 : l.length ≤ 1000000000) (ha : a ≤ l.length) (F : List (Nat × Obj)) :
    PartsFn 57 rb l a F 30 10 zc30 (OkCmd l a) (fun c e => prCmd l a = .bad c e) := by
  intro gb eb xb
  refine (gcmd hl9 (s := (a, 0)) (Lp := [(rb, rdO l a), (gb, gtO rb 0)]) (R := (eb, .cells #[.nilIface] 70 (0, 0)) :: (xb, .cells zc30 30 (0, 0)) :: F) (i := 1) (ch := MV.none.ch) (ct := MV.none.ct) ⟨rfl, ha⟩ rfl MV.none_ok.ch MV.none_ok.ct (lies_self (vs := MV.none.ch ++ (nilS :: MV.none.ct))) (Free.zero _ _)).mono ?_ ?_
  · rintro _ _ ⟨h0, x, s', Lp', v', T, cs', h1, rfl, ⟨rfl, hb⟩, hbuf, hu⟩
    have o := (prCmd_went ha h1).1
    have e := hu.whole (by simp only [List.length_append, List.length_cons, o.1.len, o.2.2.len]; rfl)
    subst e
    have hone : ((x.1 ++ (v' :: x.2.2)).toArray.toList.all fun v => v.oneCell') = true := by
      show ((x.1 ++ (v' :: x.2.2)).all _) = true
      rw [List.all_append, List.all_cons, o.1.cells1, o.2.2.cells1, hbuf.one]; rfl
    exact ⟨h0, s'.1, s'.2, T, _, ⟨⟨x, v', h1, hbuf, rfl⟩, hone⟩, rfl, hu.size, hone⟩
  · rintro _ _ ⟨c, e, p, s', Lp', T, cs', h1, h0, rfl, ⟨rfl, hb⟩, hz⟩
    exact ⟨c, e, p, s'.1, s'.2, T, cs', h1, hb, h0, rfl, hz⟩
theorem GCmd_fn {rb a : Nat} {l : List UInt8} (hl9 : l.length ≤ 1000000000) (ha : a ≤ l.length) (F : List (Nat × Obj)) :
    Fn Tryz.prog 32 [.pointer (some ⟨rb, 0, none⟩)] ((rb, rdO l a) :: F) (ReadAt rb l F 10 zc30 (OkCmd l a) (fun c e => prCmd l a = .bad c e)) := by
  refine Fn_enter Tryz.func32 rfl Tryz.ntmps32 rfl fun g => ?_
  repeat (first | ((first | refine WL_Q ?_); (first | refine QW_a ?_ | refine QW_of (Qt_nilCheck_m rfl) ?_)) | ((first | refine WL_op rfl ?_); (first | refine OW_alloc rfl (hk := fun _ => ?_) | refine OW_stA rfl ?_ | refine OW_stN rfl ?_)) | refine WL_nil ?_ | refine WC_seq ?_ | refine WC_block ?_ | refine WC_cond_t (ht := ?_) | refine WC_cond_f (he := ?_) | refine WC_skip ?_ | refine WC_ret ?_ | refine WC_exit ?_ | refine WC_region (id := 0) ?_)
  rename_i xb
  refine WC_front 1 rfl ?_
  repeat (first | ((first | refine WL_Q ?_); (first | refine QW_a ?_ | refine QW_of (Qt_nilCheck_m rfl) ?_)) | ((first | refine WL_op rfl ?_); (first | refine OW_alloc rfl (hk := fun _ => ?_) | refine OW_stA rfl ?_ | refine OW_stN rfl ?_)) | refine WL_nil ?_ | refine WC_seq ?_ | refine WC_block ?_ | refine WC_cond_t (ht := ?_) | refine WC_cond_f (he := ?_) | refine WC_skip ?_ | refine WC_ret ?_ | refine WC_exit ?_ | refine WC_region ?_)
  refine WL_op rfl (OW_call rfl (hF := read_Cmd (parts_Cmd hl9 ha _)) (hk := ?_))
  rintro _ _ (⟨b, T, cs', hok, hz, rfl, rfl⟩ | ⟨c, e, p, b, h1, hb, rfl, rfl⟩)
  · have hone := hok.2
    repeat (first | ((first | refine WL_Q ?_); (first | refine QW_a ?_ | refine QW_of (Qt_nilCheck_m rfl) ?_)) | ((first | refine WL_op rfl ?_); (first | refine OW_alloc rfl (hk := fun _ => ?_) | refine OW_stA rfl ?_ | refine OW_stN rfl ?_)) | refine WL_nil ?_ | refine WC_seq ?_ | refine WC_block ?_ | refine WC_cond_t (ht := ?_) | refine WC_cond_f (he := ?_) | refine WC_skip ?_ | refine WC_ret ?_ | refine WC_exit ?_ | refine WC_region ?_)
    exact ⟨rfl, _, _, Res2 rfl (resV_cellN rfl 1 rfl hz) (resV_tmp rfl), .cons_cons _ (.cons _ (.refl _)), .inl ⟨b, T, cs', hok, hz, rfl, rfl⟩⟩
  · repeat (first | ((first | refine WL_Q ?_); (first | refine QW_a ?_ | refine QW_of (Qt_nilCheck_m rfl) ?_)) | ((first | refine WL_op rfl ?_); (first | refine OW_alloc rfl (hk := fun _ => ?_) | refine OW_stA rfl ?_ | refine OW_stN rfl ?_)) | refine WL_nil ?_ | refine WC_seq ?_ | refine WC_block ?_ | refine WC_cond_t (ht := ?_) | refine WC_cond_f (he := ?_) | refine WC_skip ?_ | refine WC_ret ?_ | refine WC_exit ?_ | refine WC_region ?_)
    exact ⟨rfl, _, _, Res2 rfl (resV_cellN rfl 2 rfl rfl) (resV_tmp rfl), .cons_cons _ (.cons_cons _ (.cons _ (.refl _))), .inr ⟨c, e, p, b, h1, hb, rfl, rfl⟩⟩
end Go.Proofs.YtakedlockchpcaaGreatDoor
namespace Go.Proofs.YtakedlockchpcaaGreatDoor
theorem cut_take {l : List UInt8} {n a b : Nat} (h : b ≤ (l.take n).length) : cut (l.take n) a b = cut l a b := by
  rw [List.length_take] at h
  unfold cut
  rw [List.drop_take, List.take_take]
  congr 1
  omega
theorem take_cut {l : List UInt8} {a b : Nat} (h1 : a ≤ b) : l.take a ++ cut l a b = l.take b := by
  have := cut_app (l := l) (a := 0) (b := a) (c := b) (by omega) h1
  unfold cut at this ⊢
  simpa using this
theorem went_split {l : List UInt8} {n a b : Nat} {ok : Prop} {bs : List UInt8} (h : Went (l.take n) ok bs a b) : l = l.take a ++ (bs ++ l.drop b) ∧ (l.take a).length = a ∧ (l.take a ++ bs).length = b := by
  obtain ⟨_, h1, h2, h3⟩ := h
  have hb : b ≤ l.length := by have := h2; rw [List.length_take] at this; omega
  rw [cut_take h2] at h3
  subst h3
  refine ⟨?_, by rw [List.length_take]; omega, ?_⟩
  · rw [← List.append_assoc, take_cut h1, List.take_append_drop]
  · rw [take_cut h1, List.length_take]; omega
theorem ext_prs {l : List UInt8} {n : Nat} {fs : List Fk} {a b : Nat} {us : List Value} (ha : a ≤ (l.take n).length) (h : prs (l.take n) fs a = .ok us b) : prs l fs a = .ok us b ∧ b ≤ (l.take n).length := by
  have hw := prs_went ha h
  obtain ⟨e1, e2, e3⟩ := went_split hw
  have := encs_prs hw.1 (l.take a) (l.drop b)
  rw [← e1, e2, e3] at this
  exact ⟨this, hw.2.2.1⟩
theorem ext_prCmd {l : List UInt8} {n a b : Nat} {x : List Value × List (List Value) × List Value} (ha : a ≤ (l.take n).length) (h : prCmd (l.take n) a = .ok x b) : prCmd l a = .ok x b ∧ b ≤ (l.take n).length := by
  have hw := prCmd_went ha h
  obtain ⟨e1, e2, e3⟩ := went_split hw
  have := enc_prCmd hw.1.1 hw.1.2.1.2 hw.1.2.1.1 hw.1.2.2 (l.take a) (l.drop b)
  rw [← e1, e2, e3] at this
  exact ⟨this, hw.2.2.1⟩
structure Three (l : List UInt8) (ve : List Value) (x : List Value × List (List Value) × List Value) (vx : List Value) (n1 n2 : Nat) : Prop where
  e1 : prs l entryF 0 = .ok ve n1
  e2 : prCmd l n1 = .ok x n2
  e3 : prs l itemF n2 = .ok vx l.length
theorem three_of {ve ch ct vx : List Value} {bins : List (List Value)} (h1 : Oks entryF ve) (h2 : Oks chF ch) (h3 : ∀ vs ∈ bins, Oks binF vs) (hn : bins.length ≤ 8) (h4 : Oks ctF ct) (h5 : Oks itemF vx) : ∃ n1 n2, Three (encs entryF ve ++ encCmd ch bins ct ++ encs itemF vx) ve (ch, bins, ct) vx n1 n2 := by
  have e1 := encs_prs h1 [] (encCmd ch bins ct ++ encs itemF vx)
  have e2 := enc_prCmd h2 h3 hn h4 (encs entryF ve) (encs itemF vx)
  have e3 := encs_prs h5 (encs entryF ve ++ encCmd ch bins ct) []
  simp only [List.nil_append, List.append_nil, List.length_nil] at e1 e2 e3
  refine ⟨(encs entryF ve).length, (encs entryF ve ++ encCmd ch bins ct).length, ?_, ?_, ?_⟩
  · rw [List.append_assoc]; exact e1
  · rw [List.append_assoc]; exact e2
  · exact e3
section
variable {l : List UInt8} {ve vx : List Value} {x : List Value × List (List Value) × List Value} {n1 n2 : Nat} (T : Three l ve x vx n1 n2) {n : Nat}
include T
theorem Three.one_ok {us : List Value} {b : Nat} (h : prs (l.take n) entryF 0 = .ok us b) : us = ve ∧ b = n1 ∧ n1 ≤ (l.take n).length := by
  obtain ⟨h1, h2⟩ := ext_prs (by omega) h
  rw [T.e1] at h1
  cases h1
  exact ⟨rfl, rfl, h2⟩
theorem Three.two_ok {y : List Value × List (List Value) × List Value} {b : Nat} (ha : n1 ≤ (l.take n).length) (h : prCmd (l.take n) n1 = .ok y b) : y = x ∧ b = n2 ∧ n2 ≤ (l.take n).length := by
  obtain ⟨h1, h2⟩ := ext_prCmd ha h
  rw [T.e2] at h1
  cases h1
  exact ⟨rfl, rfl, h2⟩
theorem Three.three_ok {us : List Value} {b : Nat} (ha : n2 ≤ (l.take n).length) (h : prs (l.take n) itemF n2 = .ok us b) : us = vx ∧ b = l.length ∧ l.length ≤ n := by
  obtain ⟨h1, h2⟩ := ext_prs ha h
  rw [T.e3] at h1
  cases h1
  exact ⟨rfl, rfl, by rw [List.length_take] at h2; omega⟩
theorem Three.one_bad {c e : Nat} (h : prs (l.take n) entryF 0 = .bad c e) : n < l.length := by
  rcases Nat.lt_or_ge n l.length with h' | h'
  · exact h'
  · rw [List.take_of_length_le h', T.e1] at h; cases h
theorem Three.two_bad {c e : Nat} (h : prCmd (l.take n) n1 = .bad c e) : n < l.length := by
  rcases Nat.lt_or_ge n l.length with h' | h'
  · exact h'
  · rw [List.take_of_length_le h', T.e2] at h; cases h
theorem Three.three_bad {c e : Nat} (h : prs (l.take n) itemF n2 = .bad c e) : n < l.length := by
  rcases Nat.lt_or_ge n l.length with h' | h'
  · exact h'
  · rw [List.take_of_length_le h', T.e3] at h; cases h
end
end Go.Proofs.YtakedlockchpcaaGreatDoor
namespace Go.Proofs.YtakedlockchpcaaGreatDoor
open Go.RowKit
attribute [local irreducible] Fn WC WL WR OW Qt YieldFn QW FnP FnD FnE
def EqP (P : Program) (t : TypeId) (fs : List Fk) (h : Nat) : Prop := ∀ d, h ≤ d → ∀ (xs ys : Array Value) (off : Nat) (us vs : List Value), Lies xs off us → Lies ys off vs → Oks fs us → Oks fs vs → ∀ w,
  ∃ a b r, (part t xs off).run P w = .ok a w ∧ (part t ys off).run P w = .ok b w ∧ (Op.equalIn d t a b).run P w = .ok r w ∧ (r = true ↔ us = vs)
def EqFs (P : Program) (l : List Field) (o : Nat) (fs : List Fk) (h : Nat) : Prop := ∀ d, h ≤ d → ∀ (xs ys : Array Value) (us vs : List Value), Lies xs o us → Lies ys o vs → Oks fs us → Oks fs vs → ∀ w,
  ∃ r, (Op.eqFields d xs ys l).run P w = .ok r w ∧ (r = true ↔ us = vs)
theorem part1 {P : Program} {t : TypeId} [ha : TAgg P t false] {xs : Array Value} {off : Nat} {v : Value} (h : xs[off]? = some v) (w : World) : (part t xs off).run P w = .ok v w := by
  simp [part, ha.h, h]
theorem partN {P : Program} {t n : Nat} [ha : TAgg P t true] [hs : TSize P t n] {xs : Array Value} {off : Nat} (w : World) : (part t xs off).run P w = .ok (.agg (xs.extract off (off + n))) w := by
  simp [part, ha.h, hs.h]
theorem EqP.int {P : Program} {t : TypeId} {k : IntKind} {f : Fk} [hu : TUnd P t (.int k)] [ha : TAgg P t false] (hf : ∀ v, f.ok v → ∃ q x, v = .int q x) (hk : ∀ v u, f.ok v → f.ok u → ∀ q x, v = .int q x → ∃ y, u = .int q y) : EqP P t [f] 1 := fun d hd xs ys off us vs hx hy ho hp w => by
  obtain ⟨u, us, rfl, h1, h2⟩ := ho.split
  obtain ⟨v, vs, rfl, h3, h4⟩ := hp.split
  obtain rfl := h2.nil
  obtain rfl := h4.nil
  obtain ⟨q, x, rfl⟩ := hf u h1
  obtain ⟨y, rfl⟩ := hk _ v h1 h3 q x rfl
  obtain ⟨e, rfl⟩ : ∃ e, d = e + 1 := ⟨d - 1, by omega⟩
  refine ⟨_, _, _, part1 hx.cons.1 w, part1 hy.cons.1 w, run_equalIn_int w e t q k x y hu.h, ?_⟩
  simp
theorem EqP.ww {P : Program} {t : TypeId} {k : IntKind} [TUnd P t (.int k)] [TAgg P t false] : EqP P t [.ww] 1 :=
  EqP.int (fun v ⟨x, h, _⟩ => ⟨_, x, h⟩) fun v u ⟨x, h, _⟩ ⟨y, h', _⟩ q z e => ⟨y, by rw [h] at e; cases e; exact h'⟩
theorem EqP.nn {P : Program} {t : TypeId} {k : IntKind} [TUnd P t (.int k)] [TAgg P t false] : EqP P t [.nn] 1 :=
  EqP.int (fun v ⟨x, h, _⟩ => ⟨_, x, h⟩) fun v u ⟨x, h, _⟩ ⟨y, h', _⟩ q z e => ⟨y, by rw [h] at e; cases e; exact h'⟩
theorem EqP.kk {P : Program} {t : TypeId} {k : IntKind} [TUnd P t (.int k)] [TAgg P t false] : EqP P t [.kk] 1 :=
  EqP.int (fun v ⟨x, h, _⟩ => ⟨_, x, h⟩) fun v u ⟨x, h, _⟩ ⟨y, h', _⟩ q z e => ⟨y, by rw [h] at e; cases e; exact h'⟩
theorem EqP.bb {P : Program} {t : TypeId} {k : IntKind} [TUnd P t (.int k)] [TAgg P t false] : EqP P t [.bb] 1 :=
  EqP.int (fun v ⟨x, h⟩ => ⟨_, _, h⟩) fun v u ⟨x, h⟩ ⟨y, h'⟩ q z e => ⟨(y.toNat : Int), by rw [h] at e; cases e; exact h'⟩
theorem EqP.tt {P : Program} {t : TypeId} [hu : TUnd P t .bool] [TAgg P t false] : EqP P t [.tt] 1 := fun d hd xs ys off us vs hx hy ho hp w => by
  obtain ⟨u, us, rfl, ⟨x, rfl⟩, h2⟩ := ho.split
  obtain ⟨v, vs, rfl, ⟨y, rfl⟩, h4⟩ := hp.split
  obtain rfl := h2.nil
  obtain rfl := h4.nil
  obtain ⟨e, rfl⟩ : ∃ e, d = e + 1 := ⟨d - 1, by omega⟩
  refine ⟨_, _, _, part1 hx.cons.1 w, part1 hy.cons.1 w, run_equalIn_bool w e t x y hu.h, ?_⟩
  simp
theorem EqFs.nil {P : Program} {o h : Nat} : EqFs P [] o [] h := fun d _ xs ys us vs _ _ ho hp w => by
  obtain rfl := ho.nil
  obtain rfl := hp.nil
  exact ⟨true, by simp [Op.eqFields], by simp⟩
theorem EqFs.cons {P : Program} {f : Field} {l : List Field} {o h : Nat} {fs gs : List Fk} (hn : (f.name == "_") = false) (hof : f.offset = o) (h1 : EqP P f.type fs h) (h2 : EqFs P l (o + fs.length) gs h) : EqFs P (f :: l) o (fs ++ gs) h := fun d hd xs ys us vs hx hy ho hp w => by
  obtain ⟨u1, u2, rfl, o1, o2⟩ := ho.splitA
  obtain ⟨v1, v2, rfl, p1, p2⟩ := hp.splitA
  have x2 := hx.app.2
  have y2 := hy.app.2
  rw [o1.len] at x2
  rw [p1.len] at y2
  obtain ⟨a, b, r, q1, q2, q3, hiff⟩ := h1 d hd xs ys o u1 v1 hx.app.1 hy.app.1 o1 p1 w
  obtain ⟨r', q4, hiff'⟩ := h2 d hd xs ys u2 v2 x2 y2 o2 p2 w
  have hne : ¬ f.name = "_" := by simpa using hn
  rw [← hof] at q1 q2
  have hap : u1 ++ u2 = v1 ++ v2 ↔ u1 = v1 ∧ u2 = v2 := ⟨fun e => List.append_inj e (by rw [o1.len, p1.len]), fun ⟨e1, e2⟩ => by rw [e1, e2]⟩
  simp only [Op.eqFields, hne, ne_eq, not_false_eq_true, if_true, Sem.run_bind, q1, q2, q3, Result.andThen_ok]
  cases r
  · exact ⟨false, by simp, by simp only [Bool.false_eq_true, false_iff, hap]; intro e; exact absurd (hiff.2 e.1) (by simp)⟩
  · refine ⟨r', by simpa using q4, ?_⟩
    rw [hiff', hap]
    simp [hiff.1 rfl]
theorem EqP.struct {P : Program} {t h : Nat} {fs : Array Field} {ks : List Fk} [TAgg P t true] [hs : TSize P t ks.length] (ht : P.underlying t = some (.struct fs)) (hp : P.stoodInHeld t = false) (hf : EqFs P fs.toList 0 ks h) : EqP P t ks (h + 1) := fun d hd xs ys off us vs hx hy ho hv w => by
  obtain ⟨e, rfl⟩ : ∃ e, d = e + 1 := ⟨d - 1, by omega⟩
  have ht' : P.underlying t = some (.struct (P.fieldsOf t)) := by rw [ht]; simp [Program.fieldsOf, ht]
  have hfs : P.fieldsOf t = fs := by simp [Program.fieldsOf, ht]
  have l1 : Lies (xs.extract off (off + ks.length)) 0 us := lies_extract hx (by rw [ho.len]; exact Nat.le_refl _)
  have l2 : Lies (ys.extract off (off + ks.length)) 0 vs := lies_extract hy (by rw [hv.len]; exact Nat.le_refl _)
  obtain ⟨r, q, hiff⟩ := hf e (by omega) _ _ us vs l1 l2 ho hv w
  exact ⟨_, _, r, partN w, partN w, by rw [run_equalIn_struct w e t _ _ ht' hp, hfs]; exact q, hiff⟩
theorem EqP.up {P : Program} {t h h' : Nat} {fs : List Fk} (H : EqP P t fs h) (hh : h ≤ h') : EqP P t fs h' := fun d hd => H d (by omega)
structure EqV (P : Program) (t : TypeId) (a b : Array Value) (r : Bool) : Prop where
  guard : P.eqGuardType P.depth t = false
  run : ∀ w, (Op.equalIn 10000 t (.agg a) (.agg b)).run P w = .ok r w
theorem EqP.eqv {P : Program} {t h : Nat} {fs : List Fk} (H : EqP P t fs h) [TAgg P t true] [TSize P t fs.length] (hh : h ≤ 10000) (hg : P.eqGuardType P.depth t = false) {cs ds : Array Value} {us vs : List Value} (hz1 : cs.size = fs.length) (hz2 : ds.size = fs.length) (h1 : Lies cs 0 us) (h2 : Lies ds 0 vs) (ho : Oks fs us) (hv : Oks fs vs) {r : Bool} (hr : r = true ↔ us = vs) : EqV P t cs ds r := ⟨hg, fun w => by
  obtain ⟨a, b, r', q1, q2, q3, hiff⟩ := H 10000 hh cs ds 0 us vs h1 h2 ho hv w
  rw [partN, Nat.zero_add] at q1 q2
  cases q1; cases q2
  rw [← hz1, Array.extract_size] at q3
  rw [hz1, ← hz2, Array.extract_size] at q3
  rw [q3, show r' = r from Bool.eq_iff_iff.2 (hiff.trans hr.symm)]⟩
theorem EqP.same {P : Program} {t h : Nat} {fs : List Fk} (H : EqP P t fs h) [TAgg P t true] [TSize P t fs.length] (hh : h ≤ 10000) (hg : P.eqGuardType P.depth t = false) {cs ds : Array Value} {us : List Value} (hz1 : cs.size = fs.length) (hz2 : ds.size = fs.length) (h1 : Lies cs 0 us) (h2 : Lies ds 0 us) (ho : Oks fs us) : EqV P t cs ds true :=
  H.eqv hh hg hz1 hz2 h1 h2 ho ho (by simp)
section
variable {c : Cx} {s : List (Nat × Value)} {L : List (Nat × Obj)} {o : Oper}
theorem Qt_neq_flat {t t' : TypeId} {x y : Operand} {a b : Array Value} {r : Bool} (ho : o.op = .binOp .neq t x y t') (hx : ev s x = some (.agg a) := by exact rfl) (hy : ev s y = some (.agg b) := by exact rfl) (h : EqV c.P t a b r := by with_reducible assumption) : Qt c s L o (.bool (!r)) :=
  Qt_of_run (by simp [ho]) (fun ρ hρ w _ => by
    have h1 := run_eqGuard_agg (P := c.P) w .neq t x y a b h.guard
    have h2 := run_neq_struct (P := c.P) w t a b
    rw [h.run w] at h2
    simp [execOp, ho, hρ x _ hx, hρ y _ hy, h1, h2, Result.andThen])
end
theorem eqp_Item : EqP Tryz.prog 37 itemF 9 := ((EqP.struct (h := 2) Tryz.underlying37 (by kernel_rfl) (EqFs.cons rfl rfl (EqP.tt.up (by decide)) (EqFs.cons rfl rfl (EqP.ww.up (by decide)) (EqFs.cons rfl rfl (EqP.struct (h := 1) Tryz.underlying25 (by kernel_rfl) (EqFs.cons rfl rfl EqP.kk (EqFs.cons rfl rfl EqP.ww (EqFs.cons rfl rfl EqP.ww (EqFs.cons rfl rfl EqP.bb (EqFs.cons rfl rfl EqP.tt (EqFs.cons rfl rfl EqP.tt (EqFs.nil)))))))) (EqFs.nil)))))).up (by decide)
theorem eqp_Entry : EqP Tryz.prog 45 entryF 9 := ((EqP.struct (h := 2) Tryz.underlying45 (by kernel_rfl) (EqFs.cons rfl rfl (EqP.ww.up (by decide)) (EqFs.cons rfl rfl (EqP.kk.up (by decide)) (EqFs.cons rfl rfl (EqP.ww.up (by decide)) (EqFs.cons rfl rfl (EqP.ww.up (by decide)) (EqFs.cons rfl rfl (EqP.bb.up (by decide)) (EqFs.cons rfl rfl (EqP.struct (h := 1) Tryz.underlying43 (by kernel_rfl) (EqFs.cons rfl rfl EqP.ww (EqFs.cons rfl rfl EqP.ww (EqFs.cons rfl rfl EqP.nn (EqFs.cons rfl rfl EqP.ww (EqFs.cons rfl rfl EqP.ww (EqFs.nil))))))) (EqFs.nil))))))))).up (by decide)
theorem guard_Item : Tryz.prog.eqGuardType Tryz.prog.depth 37 = false := by kernel_rfl
theorem guard_Entry : Tryz.prog.eqGuardType Tryz.prog.depth 45 = false := by kernel_rfl
end Go.Proofs.YtakedlockchpcaaGreatDoor
namespace Go.Proofs.YtakedlockchpcaaGreatDoor
open Go.ChangeShapes Go.WideShapes Go.ChangeAt Go.RowKit
theorem ownOf : ownKnob Tryz.prog.godebug = none := by kernel_rfl
theorem laidOf : laidOutB Tryz.prog = true := by kernel_rfl
def allL (W : World) : List (Nat × Obj) := W.heap.toList.zipIdx.map fun p => (p.2, p.1)
theorem allL_get {W : World} {b : Nat} {o : Obj} (h : W.heap[b]? = some o) : (allL W)[b]? = some (b, o) := by
  simp [allL, h]
theorem allL_mem {W : World} {p : Nat × Obj} : p ∈ allL W → W.heap[p.1]? = some p.2 := fun h => by
  simp only [allL, List.mem_map] at h
  obtain ⟨⟨o, b⟩, h1, rfl⟩ := h
  have := List.mem_zipIdx_iff_getElem?.1 h1
  simpa using this
theorem allL_mem_of {W : World} {b : Nat} {o : Obj} (h : W.heap[b]? = some o) : (b, o) ∈ allL W := List.mem_of_getElem? (allL_get h)
theorem mem_allL (W : World) : Mem W (allL W) W where
  os := rfl
  tape := rfl
  output := rfl
  size := Nat.le_refl _
  nodup := by
    have : (allL W).map Prod.fst = List.range W.heap.size := by
      simp only [allL, List.map_map]
      apply List.ext_getElem?
      intro i
      simp only [List.getElem?_map, List.getElem?_zipIdx, Array.getElem?_toList]
      by_cases h : i < W.heap.size
      · simp [h]
      · simp [h]
    rw [this]; exact List.nodup_range
  has := fun _ h => allL_mem h
theorem below_of_mem {W W' : World} (h : Mem W (allL W) W') : Below W.heap.size W W' where
  os := h.os
  tape := h.tape
  output := h.output
  size := h.size
  block := fun k hk => by
    have h1 : W.heap[k]? = some W.heap[k] := Array.getElem?_eq_getElem hk
    rw [h1]
    exact h.has (k, W.heap[k]) (allL_mem_of h1)
theorem trodAll_stays {H : Type} {enc : TypeId × Value → H} {P : Program} (hl : laidOutB P = true) {W W' : World} (hb : Below W.heap.size W W') : ∀ {ts : List TypeId} {vs : List Value} {ds : List (DataW H)} {ps : List MemPlace},
    (∀ t ∈ ts, P.readableRec t = true ∧ t < P.types.size) → DataW.TrodAll enc P W 0 (fun _ => true) true ts vs ds ps → (∀ x ∈ ps, x.block < W.heap.size) → DataW.TrodAll enc P W' 0 (fun b => decide (b < W.heap.size)) true ts vs ds ps
  | [], _, _, _, _, h, _ => by obtain ⟨rfl, rfl, rfl⟩ := trodAll_nil h; exact trodAll_mk0
  | t :: ts, _, _, _, ht, h, hp => by
    obtain ⟨v, vs', d, ds', p, q, rfl, rfl, rfl, h1, h2⟩ := trodAll_cons h
    have h3 := ht t (by simp)
    exact ⟨p, q, Below.trod hl h3.1 h3.2 h1 hb (fun x hx => hp x (by simp [hx])), trodAll_stays hl hb (fun t' h' => ht t' (by simp [h'])) h2 (fun x hx => hp x (by simp [hx])), rfl⟩
theorem post_law {H : Type} {enc : TypeId × Value → H} {P : Program} {f : Func} {s : ChangeSpec} {W W' : World} {args : Array Value} {ds gs : List (DataW H)} {before : List MemPlace} {tb : TypeId} (hl : laidOutB P = true)
    (hts : (f.params.toList.all fun t => P.readableRec t && decide (t < P.types.size)) = true) (hv : s.vars = []) (hr : f.resultTypes = #[tb]) (hb : P.underlying tb = some .bool)
    (hfn : s.fn H (ds ++ gs) = { results := [.lit (.bool true)], args := ds }) (hW : DataW.Whole enc P f.params.toList s.vars false W args.toList ds gs before) (hbel : Below W.heap.size W W') :
    s.post enc P f false true false false W args (.bool true) W' := by
  have hlt := hW.lt
  have hW' := hW
  obtain ⟨p, q, hA, hV, rfl, _, _⟩ := hW
  rw [hv] at hV
  obtain ⟨rfl, rfl⟩ := trodVars_none hV
  have hts' : ∀ t ∈ f.params.toList, P.readableRec t = true ∧ t < P.types.size := fun t ht => by
    have := List.all_eq_true.1 hts t ht
    simpa using this
  refine ⟨ds, [], p ++ [], [], p, [], hW', ?_, ?_, ?_, hbel.frame _, fun h => by cases h⟩
  · rw [hfn, hr]
    exact trodAll_mk1 (shut_bool hb true)
  · rw [hfn]
    exact trodAll_stays hl hbel hts' hA (fun x hx => by simpa using hlt x (by simp [hx]))
  · rw [hfn, hv]; rfl
theorem u8_bounds {x : Int} (h : (Lit.int .u8 x).wf = true) : 0 ≤ x ∧ x < 256 := by
  have h1 := h
  simp only [Lit.wf, Bool.and_eq_true, decide_eq_true_eq] at h1
  have e1 : IntKind.u8.min = 0 := rfl
  have e2 : IntKind.u8.max = 255 := rfl
  omega
theorem u32_bounds {x : Int} (h : (Lit.int .u32 x).wf = true) : 0 ≤ x ∧ x < 4294967296 := by
  have h1 := h
  simp only [Lit.wf, Bool.and_eq_true, decide_eq_true_eq] at h1
  have e1 : IntKind.u32.min = 0 := rfl
  have e2 : IntKind.u32.max = 4294967295 := rfl
  omega
theorem u64_bounds {x : Int} (h : (Lit.int .u64 x).wf = true) : 0 ≤ x ∧ x < 18446744073709551616 := by
  have h1 := h
  simp only [Lit.wf, Bool.and_eq_true, decide_eq_true_eq] at h1
  have e1 : IntKind.u64.min = 0 := rfl
  have e2 : IntKind.u64.max = 18446744073709551615 := rfl
  omega
theorem i64_bounds {x : Int} (h : (Lit.int .i64 x).wf = true) : -9223372036854775808 ≤ x ∧ x < 9223372036854775808 := by
  have h1 := h
  simp only [Lit.wf, Bool.and_eq_true, decide_eq_true_eq] at h1
  have e1 : IntKind.i64.min = -9223372036854775808 := rfl
  have e2 : IntKind.i64.max = 9223372036854775807 := rfl
  omega
end Go.Proofs.YtakedlockchpcaaGreatDoor
namespace Go.Proofs.YtakedlockchpcaaGreatDoor
open Go.ChangeShapes Go.WideShapes Go.ChangeAt Go.RowKit Go.Deep
structure Rd (α : Type) where
  n : Nat
  lie : List (Nat × Obj) → α → (Nat → Option Value) → Prop
  mono : ∀ {L a g g'}, (∀ k v, g k = some v → g' k = some v) → lie L a g → lie L a g'
def intR (k : IntKind) : Rd Int where
  n := 1
  lie := fun _ x g => g 0 = some (.int k x) ∧ (Lit.int k x).wf = true
  mono := fun h h1 => ⟨h _ _ h1.1, h1.2⟩
def boolR : Rd Bool where
  n := 1
  lie := fun _ x g => g 0 = some (.bool x)
  mono := fun h h1 => h _ _ h1
def pairR {α β : Type} (r : Rd α) (s : Rd β) : Rd (α × β) where
  n := r.n + s.n
  lie := fun L x g => r.lie L x.1 g ∧ s.lie L x.2 (fun k => g (r.n + k))
  mono := fun h h1 => ⟨r.mono h h1.1, s.mono (fun _ _ h2 => h _ _ h2) h1.2⟩
def Sound {α : Type} (P : Program) (t : TypeId) (r : Rd α) : Prop :=
  P.cellsOf t = r.n ∧ ∀ {H : Type} {enc : TypeId × Value → H} {W : World} {fuel : Nat} {cs : List Value} {x : DataW H × List MemPlace}, DataW.trod enc P W 0 (fun _ => true) true fuel t cs = some x → ∃ a, r.lie (allL W) a (fun k => cs[k]?)
variable {P : Program} {t : TypeId}
theorem sound_int {k : IntKind} (ht : P.underlying t = some (.int k)) (hc : P.cellsOf t = 1) : Sound P t (intR k) := ⟨hc, fun h => by
  obtain ⟨n, rfl, _, hw⟩ := DataW.trod_int ht h
  exact ⟨n, rfl, hw⟩⟩
theorem sound_bool (ht : P.underlying t = some .bool) (hc : P.cellsOf t = 1) : Sound P t boolR := ⟨hc, fun h => by
  obtain ⟨n, rfl, _⟩ := DataW.trod_bool ht h
  exact ⟨n, rfl⟩⟩
theorem cut_get {cs : List Value} {o n k : Nat} {v : Value} (h : ((cs.drop o).take n)[k]? = some v) : cs[o + k]? = some v := by
  rw [List.getElem?_take] at h
  split at h
  · rwa [List.getElem?_drop] at h
  · cases h
theorem choose_list {α : Type} {n : Nat} {p : Nat → α → Prop} (h : ∀ i, i < n → ∃ x, p i x) : ∃ xs : List α, xs.length = n ∧ ∀ i x, xs[i]? = some x → p i x := by
  induction n with
  | zero => exact ⟨[], rfl, by simp⟩
  | succ n ih =>
    obtain ⟨xs, h1, h2⟩ := ih fun i hi => h i (by omega)
    obtain ⟨x, hx⟩ := h n (by omega)
    refine ⟨xs ++ [x], by simp [h1], fun i y hy => ?_⟩
    by_cases hi : i < n
    · rw [List.getElem?_append_left (by omega)] at hy; exact h2 i y hy
    · rw [List.getElem?_append_right (by omega)] at hy
      have : i = n := by
        have := (List.getElem?_eq_some_iff.1 hy).1
        simp at this; omega
      subst this
      rw [h1, Nat.sub_self] at hy
      simp at hy; subst hy; exact hx
theorem cells_get {W : World} {a : Addr} {n k : Nat} {cs : List Value} (h : W.cells? 0 a n = some cs) (hk : k < n) : ∃ v, cs[k]? = some v ∧ W.cell? (a.add k) = some v := by
  obtain ⟨_, hl, hat⟩ := World.cells?_some h
  exact ⟨cs[k]'(by omega), List.getElem?_eq_getElem (by omega), by rw [hat k hk, List.getElem?_eq_getElem (by omega)]⟩
end Go.Proofs.YtakedlockchpcaaGreatDoor
namespace Go.Proofs.YtakedlockchpcaaGreatDoor
open Go.ChangeShapes Go.WideShapes Go.ChangeAt Go.RowKit Go.Deep
def SlLieZ {α : Type} (r : Rd α) (L : List (Nat × Obj)) (a : Option Addr) (xs : List α) : Prop :=
  xs = [] ∨ ∃ (b off : Nat) (cs : Array Value) (E : TypeId) (fr : Nat × Nat) (i : Nat), a = some ⟨b, off, none⟩ ∧ L[i]? = some (b, Obj.cells cs E fr) ∧ (∀ k, k < xs.length * r.n → ¬ (fr.1 ≤ off + k ∧ off + k < fr.2)) ∧ ∀ j x, xs[j]? = some x → r.lie L x (fun k => cs[off + j * r.n + k]?)
def sliceZ {α : Type} (r : Rd α) : Rd (List α) where
  n := 1
  lie := fun L xs g => ∃ a cap, g 0 = some (.slice a xs.length cap) ∧ xs.length ≤ cap ∧ cap ≤ maxLen ∧ SlLieZ r L a xs
  mono := fun h ⟨a, cap, h1, h2⟩ => ⟨a, cap, h _ _ h1, h2⟩
def SoundZ {α : Type} (P : Program) (t : TypeId) (r : Rd α) : Prop :=
  P.cellsOf t = r.n ∧ ∀ {H : Type} {enc : TypeId × Value → H} {W : World} {fuel : Nat} {cs : List Value} {x : DataW H × List MemPlace}, DataW.trod enc P W 0 (fun _ => true) true fuel t cs = some x → W.noneFrozen x.2 → ∃ a, r.lie (allL W) a (fun k => cs[k]?)
variable {P : Program} {t : TypeId}
theorem Sound.z {α : Type} {r : Rd α} (h : Sound P t r) : SoundZ P t r := ⟨h.1, fun h1 _ => h.2 h1⟩
theorem noneFrozen_sub {W : World} {p q : List MemPlace} (h : W.noneFrozen p) (hs : ∀ x ∈ q, x ∈ p) : W.noneFrozen q := fun b off hm => h b off (hs _ hm)
theorem soundZ_slice {α : Type} {r : Rd α} {e : TypeId} (ht : P.underlying t = some (.slice e)) (hc : P.cellsOf t = 1) (hr : 0 < r.n) (he : SoundZ P e r) : SoundZ P t (sliceZ r) := ⟨hc, fun {H enc W fuel cs x} h hz => by
  rcases open_slice ht h with ⟨rfl, _⟩ | ⟨a, len, cap, m, n, D, Pl, rfl, _, hl, hm, hmm, rfl, hi⟩
  · exact ⟨[], none, 0, rfl, Nat.le_refl _, Nat.zero_le _, .inl rfl⟩
  · simp only [if_true] at hmm
    subst hmm
    by_cases h0 : len = 0
    · subst h0; exact ⟨[], some a, m, rfl, Nat.zero_le _, hm, .inl rfl⟩
    rw [he.1] at hi hz
    have hblock : ∃ b off cs E fr, a = ⟨b, off, none⟩ ∧ W.heap[b]? = some (Obj.cells cs E fr) := by
      obtain ⟨cs', h1, _⟩ := hi 0 (by omega)
      obtain ⟨v, _, hv⟩ := cells_get h1 hr
      have e0 : (a.add (0 * r.n)).add 0 = a := by simp [Addr.add]
      rw [e0] at hv
      obtain ⟨b, off, spot⟩ := a
      simp only [World.cell?] at hv
      split at hv
      · rename_i cs E fr hb
        split at hv
        · cases hv
        · rename_i hs
          have hs' : spot = none := by cases spot with | none => rfl | some _ => simp at hs
          subst hs'
          exact ⟨b, off, cs, E, fr, rfl, hb⟩
      · cases hv
    obtain ⟨b, off, cs, E, fr, rfl, hb⟩ := hblock
    obtain ⟨ys, h1, h2⟩ := choose_list (n := len) (p := fun j x => r.lie (allL W) x (fun k => cs[off + j * r.n + k]?)) fun i hlt => by
      obtain ⟨cs', hc1, ht1⟩ := hi i (by omega)
      obtain ⟨x, hx⟩ := he.2 ht1 (noneFrozen_sub hz fun q hq => List.mem_append_right _ (List.mem_flatMap.2 ⟨i, List.mem_range.2 (by omega), hq⟩))
      refine ⟨x, r.mono (fun k v hk => ?_) hx⟩
      have hk2 : k < r.n := by
        obtain ⟨_, hl2, _⟩ := World.cells?_some hc1
        have := (List.getElem?_eq_some_iff.1 hk).1
        omega
      obtain ⟨v', e1, e2⟩ := cells_get hc1 hk2
      rw [hk] at e1; cases e1
      rw [add_add, Addr.add_mid, World.cell?] at e2
      simp only [hb] at e2
      rw [Nat.add_assoc]
      simpa using e2
    refine ⟨ys, some ⟨b, off, none⟩, m, by rw [h1]; rfl, by omega, hm, .inr ⟨b, off, cs, E, fr, b, rfl, allL_get hb, fun k hk hf => ?_, h2⟩⟩
    rw [h1] at hk
    have hkm : k < m * r.n := Nat.lt_of_lt_of_le hk (Nat.mul_le_mul_right _ hl)
    have := hz b (off + k) (List.mem_append_left _ (by
      unfold MemPlace.row
      exact List.mem_map.2 ⟨k, List.mem_range.2 hkm, rfl⟩))
    obtain ⟨lo, hi'⟩ := fr
    unfold World.frozen? at this
    simp only [hb, Bool.and_eq_false_iff, decide_eq_false_iff_not] at this
    simp only at hf
    omega⟩
def SoundZF {α : Type} (P : Program) (fs : List Field) (off : Nat) (r : Rd α) : Prop :=
  ∀ {H : Type} {enc : TypeId × Value → H} {W : World} {n : Nat} {cs : List Value} {xs : List (DataW H × List MemPlace)}, xs.length = fs.length → (∀ x ∈ xs, W.noneFrozen x.2) →
    (∀ (i : Nat) (f : Field), fs[i]? = some f → DataW.trod enc P W 0 (fun _ => true) true n f.type ((cs.drop f.offset).take (P.cellsOf f.type)) = xs[i]?) → ∃ a, r.lie (allL W) a (fun k => cs[off + k]?)
theorem soundZF_one {α : Type} {r : Rd α} {f : Field} {off : Nat} (h : SoundZ P f.type r) (ho : f.offset = off) : SoundZF P [f] off r := fun {H enc W n cs xs} hl hz hi => by
  have h1 := hi 0 f rfl
  obtain ⟨y, hy⟩ : ∃ y, xs[0]? = some y := ⟨xs[0]'(by simp [hl]), List.getElem?_eq_getElem _⟩
  rw [hy] at h1
  obtain ⟨a, ha⟩ := h.2 h1 (hz y (List.mem_of_getElem? hy))
  refine ⟨a, r.mono (fun k v hk => ?_) ha⟩
  have := cut_get hk
  rwa [ho] at this
theorem soundZF_cons {α β : Type} {r : Rd α} {s : Rd β} {f : Field} {fs : List Field} {off : Nat} (h : SoundZ P f.type r) (ho : f.offset = off) (hs : SoundZF P fs (off + r.n) s) : SoundZF P (f :: fs) off (pairR r s) := fun {H enc W n cs xs} hl hz hi => by
  obtain ⟨y, xs, rfl⟩ : ∃ y ys, xs = y :: ys := by
    cases xs with
    | nil => simp at hl
    | cons y ys => exact ⟨y, ys, rfl⟩
  obtain ⟨a, ha⟩ := soundZF_one (P := P) h ho (enc := enc) (W := W) (n := n) (cs := cs) (xs := [y]) rfl (fun x hx => hz x (by rw [List.mem_singleton.1 hx]; exact List.mem_cons_self)) (fun i g hg => by
    cases i with
    | zero => exact hi 0 g hg
    | succ i => simp at hg)
  obtain ⟨b, hb⟩ := hs (enc := enc) (W := W) (n := n) (cs := cs) (xs := xs) (by simpa using hl) (fun x hx => hz x (List.mem_cons_of_mem _ hx)) (fun i g hg => hi (i + 1) g hg)
  exact ⟨(a, b), ha, by simpa [Nat.add_assoc] using hb⟩
theorem soundZ_struct {α : Type} {r : Rd α} {fs : Array Field} (ht : P.underlying t = some (.struct fs)) (hc : P.cellsOf t = r.n) (h : SoundZF P fs.toList 0 r) : SoundZ P t r := ⟨hc, fun hx hz => by
  obtain ⟨xs, n, _, rfl, _, hl, hi⟩ := DataW.trod_struct ht hx
  obtain ⟨a, ha⟩ := h (by simpa using hl) (fun x hx' => noneFrozen_sub hz fun q hq => List.mem_flatMap.2 ⟨x, hx', hq⟩) (fun i f hf => hi i f (by simpa using hf))
  exact ⟨a, by simpa using ha⟩⟩
theorem argZ_agg {α : Type} {H : Type} {enc : TypeId × Value → H} {W : World} {rc : Reach} {b0 : TypeId} {r : Rd α} {v : Value} {d : DataW H} {p : List MemPlace} {fs : Array Field} (ht : P.underlying t = some (.struct fs)) (hs : SoundZ P t r)
    (hval : Value.okWide P W rc b0 t v) (h : DataW.Trod enc P W 0 (fun _ => true) true t v d p) (hz : W.noneFrozen p) : ∃ (cs : Array Value) (x : α), v = .agg cs ∧ cs.size = r.n ∧ r.lie (allL W) x (fun k => cs[k]?) := by
  obtain ⟨cs, rfl, hsz⟩ := okWide_struct ht hval
  obtain ⟨fuel, hf⟩ := h
  obtain ⟨x, h1⟩ := hs.2 hf hz
  exact ⟨cs, x, rfl, by rw [hsz, hs.1], by simpa [Value.cells] using h1⟩
end Go.Proofs.YtakedlockchpcaaGreatDoor
namespace Go.Proofs.YtakedlockchpcaaGreatDoor
open Go.ChangeShapes Go.WideShapes Go.ChangeAt Go.RowKit
abbrev itemR := (pairR boolR (pairR (intR .i64) (pairR (intR .u32) (pairR (intR .i64) (pairR (intR .i64) (pairR (intR .u8) (pairR boolR boolR)))))))
abbrev entR := (pairR (intR .i64) (pairR (intR .u32) (pairR (intR .i64) (pairR (intR .i64) (pairR (intR .u8) (pairR (intR .i64) (pairR (intR .i64) (pairR (intR .u64) (pairR (intR .i64) (intR .i64))))))))))
set_option maxRecDepth 100000 in
theorem itemR_sound : SoundZ Tryz.prog 37 itemR := (soundZ_struct Tryz.underlying37 (by kernel_rfl) (soundZF_cons (sound_bool Tryz.underlying4 (by kernel_rfl)).z rfl (soundZF_cons (sound_int Tryz.underlying2 (by kernel_rfl)).z rfl (soundZF_one (soundZ_struct Tryz.underlying25 (by kernel_rfl) (soundZF_cons (sound_int Tryz.underlying23 (by kernel_rfl)).z rfl (soundZF_cons (sound_int Tryz.underlying2 (by kernel_rfl)).z rfl (soundZF_cons (sound_int Tryz.underlying2 (by kernel_rfl)).z rfl (soundZF_cons (sound_int Tryz.underlying5 (by kernel_rfl)).z rfl (soundZF_cons (sound_bool Tryz.underlying4 (by kernel_rfl)).z rfl (soundZF_one (sound_bool Tryz.underlying4 (by kernel_rfl)).z rfl))))))) rfl))))
theorem ok_ww {x : Int} (h : (Lit.int .i64 x).wf = true) : Fk.ok .ww (.int .i64 x) := ⟨x, rfl, (i64_bounds h).1, (i64_bounds h).2⟩
theorem ok_nn {x : Int} (h : (Lit.int .u64 x).wf = true) : Fk.ok .nn (.int .u64 x) := ⟨x, rfl, (u64_bounds h).1, (u64_bounds h).2⟩
theorem ok_kk {x : Int} (h : (Lit.int .u32 x).wf = true) : Fk.ok .kk (.int .u32 x) := ⟨x, rfl, (u32_bounds h).1, (u32_bounds h).2⟩
theorem ok_bb {x : Int} (h : (Lit.int .u8 x).wf = true) : Fk.ok .bb (.int .u8 x) := ⟨UInt8.ofNat x.toNat, by
  have hb := u8_bounds h
  simp only [bV, UInt8.toNat_ofNat', Value.int.injEq, true_and]
  omega⟩
theorem ok_tt (x : Bool) : Fk.ok .tt (.bool x) := ⟨x, rfl⟩
abbrev RecT := Int × Int × Int × Int × Bool × Bool
def rcV (x : RecT) : List Value := [.int .u32 x.1, .int .i64 x.2.1, .int .i64 x.2.2.1, .int .u8 x.2.2.2.1, .bool x.2.2.2.2.1, .bool x.2.2.2.2.2]
abbrev EntT := Int × Int × Int × Int × Int × Int × Int × Int × Int × Int
def enV (x : EntT) : List Value := [.int .i64 x.1, .int .u32 x.2.1, .int .i64 x.2.2.1, .int .i64 x.2.2.2.1, .int .u8 x.2.2.2.2.1, .int .i64 x.2.2.2.2.2.1, .int .i64 x.2.2.2.2.2.2.1, .int .u64 x.2.2.2.2.2.2.2.1, .int .i64 x.2.2.2.2.2.2.2.2.1, .int .i64 x.2.2.2.2.2.2.2.2.2]
theorem ent_of {L : List (Nat × Obj)} {cs : Array Value} {off : Nat} {x : EntT} (h : entR.lie L x (fun k => cs[off + k]?)) : Oks entryF (enV x) ∧ Lies cs off (enV x) := by
  obtain ⟨⟨a0, w0⟩, ⟨a1, w1⟩, ⟨a2, w2⟩, ⟨a3, w3⟩, ⟨a4, w4⟩, ⟨a5, w5⟩, ⟨a6, w6⟩, ⟨a7, w7⟩, ⟨a8, w8⟩, a9, w9⟩ := h
  refine ⟨⟨ok_ww w0, ok_kk w1, ok_ww w2, ok_ww w3, ok_bb w4, ok_ww w5, ok_ww w6, ok_nn w7, ok_ww w8, ok_ww w9, trivial⟩, fun j v hj => ?_⟩
  match j, hj with
  | 0, hj => cases hj; exact a0
  | 1, hj => cases hj; exact a1
  | 2, hj => cases hj; exact a2
  | 3, hj => cases hj; exact a3
  | 4, hj => cases hj; exact a4
  | 5, hj => cases hj; exact a5
  | 6, hj => cases hj; exact a6
  | 7, hj => cases hj; exact a7
  | 8, hj => cases hj; exact a8
  | 9, hj => cases hj; exact a9
  | j + 10, hj => simp [enV] at hj
theorem item_of {L : List (Nat × Obj)} {cs : Array Value} {x : Bool × Int × RecT} (h : itemR.lie L x (fun k => cs[k]?)) : ∃ vs, Oks itemF vs ∧ Lies cs 0 vs := by
  obtain ⟨a0, ⟨a1, w1⟩, ⟨a2, w2⟩, ⟨a3, w3⟩, ⟨a4, w4⟩, ⟨a5, w5⟩, a6, a7⟩ := h
  refine ⟨.bool x.1 :: .int .i64 x.2.1 :: rcV x.2.2, ⟨ok_tt _, ok_ww w1, ok_kk w2, ok_ww w3, ok_ww w4, ok_bb w5, ok_tt _, ok_tt _, trivial⟩, fun j v hj => ?_⟩
  rw [Nat.zero_add]
  match j, hj with
  | 0, hj => cases hj; exact a0
  | 1, hj => cases hj; exact a1
  | 2, hj => cases hj; exact a2
  | 3, hj => cases hj; exact a3
  | 4, hj => cases hj; exact a4
  | 5, hj => cases hj; exact a5
  | 6, hj => cases hj; exact a6
  | 7, hj => cases hj; exact a7
  | j + 8, hj => simp [rcV] at hj
theorem bins_of {L : List (Nat × Obj)} {a : Option Addr} {xs : List Int} (h : SlLieZ (intR .i64) L a xs) : (∀ vs ∈ xs.map fun x => [Value.int .i64 x], Oks binF vs) ∧ Elems L a 1 (xs.map fun x => [Value.int .i64 x]) := by
  rcases h with rfl | ⟨b, off, cs, E, fr, i, h1, h2, h3, h4⟩
  · exact ⟨(fun _ h => (by cases h)), .inl rfl⟩
  · refine ⟨fun vs hv => ?_, .inr ⟨b, off, i, cs, E, fr, h1, h2, fun j vs hj => ?_⟩⟩
    · obtain ⟨x, hx, rfl⟩ := List.mem_map.1 hv
      obtain ⟨j, hj⟩ := List.mem_iff_getElem?.1 hx
      exact ⟨ok_ww (h4 j x hj).2, trivial⟩
    · rw [List.getElem?_map] at hj
      obtain ⟨x, hx, rfl⟩ := Option.map_eq_some_iff.1 hj
      have hlt := (List.getElem?_eq_some_iff.1 hx).1
      refine ⟨one_lies (h4 j x hx).1, fun k hk => ?_⟩
      have := h3 (j * 1 + k) (by show j * 1 + k < xs.length * 1; omega)
      rwa [← Nat.add_assoc] at this
end Go.Proofs.YtakedlockchpcaaGreatDoor
namespace Go.Proofs.YtakedlockchpcaaGreatDoor
open Go.ChangeShapes Go.WideShapes Go.ChangeAt Go.RowKit
abbrev cmdR := (pairR (intR .i64) (pairR (intR .i64) (pairR (sliceZ (intR .i64)) (pairR (intR .i64) (pairR (intR .i64) (pairR (pairR (intR .i64) (pairR (intR .i64) (pairR (intR .i64) (intR .i64)))) (intR .i64)))))))
set_option maxRecDepth 100000 in
theorem cmdR_sound : SoundZ Tryz.prog 30 cmdR := (soundZ_struct Tryz.underlying30 (by kernel_rfl) (soundZF_cons (sound_int Tryz.underlying3 (by kernel_rfl)).z rfl (soundZF_cons (sound_int Tryz.underlying2 (by kernel_rfl)).z rfl (soundZF_cons (soundZ_slice Tryz.underlying26 (by kernel_rfl) (by decide) (sound_int Tryz.underlying3 (by kernel_rfl)).z) rfl (soundZF_cons (sound_int Tryz.underlying3 (by kernel_rfl)).z rfl (soundZF_cons (sound_int Tryz.underlying3 (by kernel_rfl)).z rfl (soundZF_cons (soundZ_struct Tryz.underlying28 (by kernel_rfl) (soundZF_cons (sound_int Tryz.underlying3 (by kernel_rfl)).z rfl (soundZF_cons (sound_int Tryz.underlying2 (by kernel_rfl)).z rfl (soundZF_cons (sound_int Tryz.underlying2 (by kernel_rfl)).z rfl (soundZF_one (sound_int Tryz.underlying3 (by kernel_rfl)).z rfl))))) rfl (soundZF_one (sound_int Tryz.underlying3 (by kernel_rfl)).z rfl))))))))
set_option maxRecDepth 100000 in
theorem entR_sound : SoundZ Tryz.prog 45 entR := (soundZ_struct Tryz.underlying45 (by kernel_rfl) (soundZF_cons (sound_int Tryz.underlying3 (by kernel_rfl)).z rfl (soundZF_cons (sound_int Tryz.underlying23 (by kernel_rfl)).z rfl (soundZF_cons (sound_int Tryz.underlying2 (by kernel_rfl)).z rfl (soundZF_cons (sound_int Tryz.underlying2 (by kernel_rfl)).z rfl (soundZF_cons (sound_int Tryz.underlying5 (by kernel_rfl)).z rfl (soundZF_one (soundZ_struct Tryz.underlying43 (by kernel_rfl) (soundZF_cons (sound_int Tryz.underlying2 (by kernel_rfl)).z rfl (soundZF_cons (sound_int Tryz.underlying2 (by kernel_rfl)).z rfl (soundZF_cons (sound_int Tryz.underlying41 (by kernel_rfl)).z rfl (soundZF_cons (sound_int Tryz.underlying2 (by kernel_rfl)).z rfl (soundZF_one (sound_int Tryz.underlying2 (by kernel_rfl)).z rfl)))))) rfl)))))))
theorem ent_of0 {L : List (Nat × Obj)} {cs : Array Value} {x : EntT} (h : entR.lie L x (fun k => cs[k]?)) : ∃ vs, Oks entryF vs ∧ Lies cs 0 vs :=
  ⟨enV x, ent_of (off := 0) (by simpa only [Nat.zero_add] using h)⟩
theorem cmd_of {L : List (Nat × Obj)} {cs : Array Value} {x : _} (h : cmdR.lie L x (fun k => cs[k]?)) : ∃ (ch ct : List Value) (bins : List (List Value)) (a : Option Addr) (cap : Nat), Oks chF ch ∧ Oks ctF ct ∧ (∀ vs ∈ bins, Oks binF vs) ∧ Lies cs 0 (ch ++ (.slice a bins.length cap :: ct)) ∧ Elems L a 1 bins ∧ bins.length ≤ cap ∧ cap ≤ maxLen := by
  obtain ⟨⟨c0, u0⟩, ⟨c1, u1⟩, ⟨a, cap, c2, n1, n2, hb⟩, ⟨c3, u3⟩, ⟨c4, u4⟩, ⟨⟨c5, u5⟩, ⟨c6, u6⟩, ⟨c7, u7⟩, c8, u8⟩, c9, u9⟩ := h
  obtain ⟨ob, eb⟩ := bins_of hb
  have lb : (x.2.2.1.map fun x => [Value.int .i64 x]).length = x.2.2.1.length := List.length_map ..
  refine ⟨[.int .i64 x.1, .int .i64 x.2.1], [.int .i64 x.2.2.2.1, .int .i64 x.2.2.2.2.1, .int .i64 x.2.2.2.2.2.1.1, .int .i64 x.2.2.2.2.2.1.2.1, .int .i64 x.2.2.2.2.2.1.2.2.1, .int .i64 x.2.2.2.2.2.1.2.2.2, .int .i64 x.2.2.2.2.2.2], x.2.2.1.map fun x => [Value.int .i64 x], a, cap, ⟨ok_ww u0, ok_ww u1, trivial⟩, ⟨ok_ww u3, ok_ww u4, ok_ww u5, ok_ww u6, ok_ww u7, ok_ww u8, ok_ww u9, trivial⟩, ob, ?_, eb, by rw [lb]; exact n1, n2⟩
  intro j v hj
  rw [List.length_map] at hj
  rw [Nat.zero_add]
  match j, hj with
  | 0, hj => cases hj; exact c0
  | 1, hj => cases hj; exact c1
  | 2, hj => cases hj; exact c2
  | 3, hj => cases hj; exact c3
  | 4, hj => cases hj; exact c4
  | 5, hj => cases hj; exact c5
  | 6, hj => cases hj; exact c6
  | 7, hj => cases hj; exact c7
  | 8, hj => cases hj; exact c8
  | 9, hj => cases hj; exact c9
  | j + 10, hj => simp at hj
end Go.Proofs.YtakedlockchpcaaGreatDoor
namespace Go.Proofs.YtakedlockchpcaaGreatDoor
open Go.RowKit
namespace W03
noncomputable def xf11 : XF := ⟨Tryz.f11, (Tryz.f11.body).getD .skip, T.ofList [], 27⟩
theorem xf11_ok : GoodF Tryz.prog 11 xf11 := ⟨Tryz.func11, by kernel_rfl, inferInstance, by kernel_rfl⟩
noncomputable def xf15 : XF := ⟨Tryz.f15, (Tryz.f15.body).getD .skip, T.ofList [], 27⟩
theorem xf15_ok : GoodF Tryz.prog 15 xf15 := ⟨Tryz.func15, by kernel_rfl, inferInstance, by kernel_rfl⟩
noncomputable def xf23 : XF := ⟨Tryz.f23, (Tryz.f23.body).getD .skip, T.ofList [], 27⟩
theorem xf23_ok : GoodF Tryz.prog 23 xf23 := ⟨Tryz.func23, by kernel_rfl, inferInstance, by kernel_rfl⟩
noncomputable def xf25 : XF := ⟨Tryz.f25, (Tryz.f25.body).getD .skip, T.ofList [], 27⟩
theorem xf25_ok : GoodF Tryz.prog 25 xf25 := ⟨Tryz.func25, by kernel_rfl, inferInstance, by kernel_rfl⟩
noncomputable def xf27 : XF := ⟨Tryz.f27, (Tryz.f27.body).getD .skip, T.ofList [], 767⟩
theorem xf27_ok : GoodF Tryz.prog 27 xf27 := ⟨Tryz.func27, by kernel_rfl, inferInstance, by kernel_rfl⟩
noncomputable def xf29 : XF := ⟨Tryz.f29, (Tryz.f29.body).getD .skip, T.ofList [], 5⟩
theorem xf29_ok : GoodF Tryz.prog 29 xf29 := ⟨Tryz.func29, by kernel_rfl, inferInstance, by kernel_rfl⟩
noncomputable def xf31 : XF := ⟨Tryz.f31, (Tryz.f31.body).getD .skip, T.ofList [], 21⟩
theorem xf31_ok : GoodF Tryz.prog 31 xf31 := ⟨Tryz.func31, by kernel_rfl, inferInstance, by kernel_rfl⟩
noncomputable def xf46 : XF := ⟨Tryz.f46, (Tryz.f46.body).getD .skip, T.ofList [], 215⟩
theorem xf46_ok : GoodF Tryz.prog 46 xf46 := ⟨Tryz.func46, by kernel_rfl, inferInstance, by kernel_rfl⟩
noncomputable def xf47 : XF := ⟨Tryz.f47, (Tryz.f47.body).getD .skip, T.ofList [(2, (17, .calm 0 <| .calm 1 <| .calm 2 <| .calm 3 <| .calm 4 <| .calm 5 <| .calm 6 <| .calm 7 <| .calm 8 <| .calm 9 <| .calm 10 <| .calm 11 <| .calm 12 <| .calm 13 <| .calm 14 <| .calm 15 <| .must 16 <| .done)), (8, (8, .calm 0 <| .calm 1 <| .calm 2 <| .calm 3 <| .calm 4 <| .calm 5 <| .calm 6 <| .must 7 <| .done))], 297471780385420476419⟩
theorem xf47_ok : GoodF Tryz.prog 47 xf47 := ⟨Tryz.func47, by kernel_rfl, inferInstance, by kernel_rfl⟩
noncomputable def xf53 : XF := ⟨Tryz.f53, (Tryz.f53.body).getD .skip, T.ofList [], 215⟩
theorem xf53_ok : GoodF Tryz.prog 53 xf53 := ⟨Tryz.func53, by kernel_rfl, inferInstance, by kernel_rfl⟩
noncomputable def xf54 : XF := ⟨Tryz.f54, (Tryz.f54.body).getD .skip, T.ofList [(1, (8, .calm 0 <| .calm 1 <| .calm 2 <| .calm 3 <| .calm 4 <| .calm 5 <| .calm 6 <| .must 7 <| .done)), (2, (8, .calm 0 <| .calm 1 <| .calm 2 <| .calm 3 <| .calm 4 <| .calm 5 <| .calm 6 <| .must 7 <| .done)), (3, (8, .calm 0 <| .calm 1 <| .calm 2 <| .calm 3 <| .calm 4 <| .calm 5 <| .calm 6 <| .must 7 <| .done)), (4, (8, .calm 0 <| .calm 1 <| .calm 2 <| .calm 3 <| .calm 4 <| .calm 5 <| .calm 6 <| .must 7 <| .done)), (5, (8, .calm 0 <| .calm 1 <| .calm 2 <| .calm 3 <| .calm 4 <| .calm 5 <| .calm 6 <| .must 7 <| .done))], 3⟩
theorem xf54_ok : GoodF Tryz.prog 54 xf54 := ⟨Tryz.func54, by kernel_rfl, inferInstance, by kernel_rfl⟩
noncomputable def xf57 : XF := ⟨Tryz.f57, (Tryz.f57.body).getD .skip, T.ofList [(1, (8, .calm 0 <| .calm 1 <| .calm 2 <| .calm 3 <| .calm 4 <| .calm 5 <| .calm 6 <| .must 7 <| .done))], 3⟩
theorem xf57_ok : GoodF Tryz.prog 57 xf57 := ⟨Tryz.func57, by kernel_rfl, inferInstance, by kernel_rfl⟩
noncomputable def xf59 : XF := ⟨Tryz.f59, (Tryz.f59.body).getD .skip, T.ofList [(1, (8, .calm 0 <| .calm 1 <| .calm 2 <| .calm 3 <| .calm 4 <| .calm 5 <| .calm 6 <| .must 7 <| .done)), (2, (8, .calm 0 <| .calm 1 <| .calm 2 <| .calm 3 <| .calm 4 <| .calm 5 <| .calm 6 <| .must 7 <| .done))], 3⟩
theorem xf59_ok : GoodF Tryz.prog 59 xf59 := ⟨Tryz.func59, by kernel_rfl, inferInstance, by kernel_rfl⟩
noncomputable def xf61 : XF := ⟨Tryz.f61, (Tryz.f61.body).getD .skip, T.ofList [(2, (8, .calm 0 <| .calm 1 <| .calm 2 <| .calm 3 <| .calm 4 <| .calm 5 <| .calm 6 <| .must 7 <| .done)), (3, (8, .calm 0 <| .calm 1 <| .calm 2 <| .calm 3 <| .calm 4 <| .calm 5 <| .calm 6 <| .must 7 <| .done)), (4, (8, .calm 0 <| .calm 1 <| .calm 2 <| .calm 3 <| .calm 4 <| .calm 5 <| .calm 6 <| .must 7 <| .done))], 3⟩
theorem xf61_ok : GoodF Tryz.prog 61 xf61 := ⟨Tryz.func61, by kernel_rfl, inferInstance, by kernel_rfl⟩
noncomputable def xf62 : XF := ⟨Tryz.f62, (Tryz.f62.body).getD .skip, T.ofList [], 215⟩
theorem xf62_ok : GoodF Tryz.prog 62 xf62 := ⟨Tryz.func62, by kernel_rfl, inferInstance, by kernel_rfl⟩
noncomputable def xf63 : XF := ⟨Tryz.f63, (Tryz.f63.body).getD .skip, T.ofList [(0, (8, .calm 0 <| .calm 1 <| .calm 2 <| .calm 3 <| .calm 4 <| .calm 5 <| .calm 6 <| .must 7 <| .done)), (1, (8, .calm 0 <| .calm 1 <| .calm 2 <| .calm 3 <| .calm 4 <| .calm 5 <| .calm 6 <| .must 7 <| .done)), (2, (8, .calm 0 <| .calm 1 <| .calm 2 <| .calm 3 <| .calm 4 <| .calm 5 <| .calm 6 <| .must 7 <| .done)), (3, (8, .calm 0 <| .calm 1 <| .calm 2 <| .calm 3 <| .calm 4 <| .calm 5 <| .calm 6 <| .must 7 <| .done)), (4, (8, .calm 0 <| .calm 1 <| .calm 2 <| .calm 3 <| .calm 4 <| .calm 5 <| .calm 6 <| .must 7 <| .done))], 3⟩
theorem xf63_ok : GoodF Tryz.prog 63 xf63 := ⟨Tryz.func63, by kernel_rfl, inferInstance, by kernel_rfl⟩
noncomputable def xf64 : XF := ⟨Tryz.f64, (Tryz.f64.body).getD .skip, T.ofList [], 215⟩
theorem xf64_ok : GoodF Tryz.prog 64 xf64 := ⟨Tryz.func64, by kernel_rfl, inferInstance, by kernel_rfl⟩
noncomputable def xf65 : XF := ⟨Tryz.f65, (Tryz.f65.body).getD .skip, T.ofList [(2, (8, .calm 0 <| .calm 1 <| .calm 2 <| .calm 3 <| .calm 4 <| .calm 5 <| .calm 6 <| .must 7 <| .done))], 3⟩
theorem xf65_ok : GoodF Tryz.prog 65 xf65 := ⟨Tryz.func65, by kernel_rfl, inferInstance, by kernel_rfl⟩
noncomputable def xf66 : XF := ⟨Tryz.f66, (Tryz.f66.body).getD .skip, T.ofList [], 13⟩
theorem xf66_ok : GoodF Tryz.prog 66 xf66 := ⟨Tryz.func66, by kernel_rfl, inferInstance, by kernel_rfl⟩
noncomputable def xf67 : XF := ⟨Tryz.f67, (Tryz.f67.body).getD .skip, T.ofList [], 13⟩
theorem xf67_ok : GoodF Tryz.prog 67 xf67 := ⟨Tryz.func67, by kernel_rfl, inferInstance, by kernel_rfl⟩
noncomputable def xf68 : XF := ⟨Tryz.f68, (Tryz.f68.body).getD .skip, T.ofList [(4, (18, .calm 0 <| .calm 1 <| .must 2 <| .calm 3 <| .calm 7 <| .must 4 <| .calm 5 <| .must 6 <| .calm 8 <| .calm 9 <| .calm 10 <| .calm 11 <| .calm 12 <| .calm 13 <| .calm 14 <| .must 15 <| .calm 16 <| .calm 17 <| .done))], 4155⟩
theorem xf68_ok : GoodF Tryz.prog 68 xf68 := ⟨Tryz.func68, by kernel_rfl, inferInstance, by kernel_rfl⟩
noncomputable def xf88 : XF := ⟨Tryz.f88, (Tryz.f88.body).getD .skip, T.ofList [(9, (10, .calm 0 <| .calm 1 <| .calm 2 <| .calm 3 <| .calm 4 <| .calm 5 <| .calm 6 <| .calm 7 <| .must 8 <| .calm 9 <| .done))], 32883⟩
theorem xf88_ok : GoodF Tryz.prog 88 xf88 := ⟨Tryz.func88, by kernel_rfl, inferInstance, by kernel_rfl⟩
noncomputable def xf89 : XF := ⟨Tryz.f89, (Tryz.f89.body).getD .skip, T.ofList [], 51⟩
theorem xf89_ok : GoodF Tryz.prog 89 xf89 := ⟨Tryz.func89, by kernel_rfl, inferInstance, by kernel_rfl⟩
noncomputable def xf95 : XF := ⟨Tryz.f95, (Tryz.f95.body).getD .skip, T.ofList [(2, (13, .calm 0 <| .calm 2 <| .calm 3 <| .calm 4 <| .calm 5 <| .calm 6 <| .calm 7 <| .calm 8 <| .calm 9 <| .calm 10 <| .calm 11 <| .must 1 <| .must 12 <| .done)), (3, (12, .calm 0 <| .calm 1 <| .calm 2 <| .calm 3 <| .calm 4 <| .calm 5 <| .calm 6 <| .calm 7 <| .calm 8 <| .calm 9 <| .calm 10 <| .must 11 <| .done)), (5, (12, .calm 0 <| .calm 1 <| .calm 2 <| .calm 3 <| .calm 4 <| .calm 5 <| .calm 6 <| .calm 7 <| .calm 8 <| .calm 9 <| .calm 10 <| .calm 11 <| .must 12 <| .done))], 13⟩
theorem xf95_ok : GoodF Tryz.prog 95 xf95 := ⟨Tryz.func95, by kernel_rfl, inferInstance, by kernel_rfl⟩
noncomputable def xf97 : XF := ⟨Tryz.f97, (Tryz.f97.body).getD .skip, T.ofList [], 61⟩
theorem xf97_ok : GoodF Tryz.prog 97 xf97 := ⟨Tryz.func97, by kernel_rfl, inferInstance, by kernel_rfl⟩
noncomputable def xf99 : XF := ⟨Tryz.f99, (Tryz.f99.body).getD .skip, T.ofList [], 34368129779⟩
theorem xf99_ok : GoodF Tryz.prog 99 xf99 := ⟨Tryz.func99, by kernel_rfl, inferInstance, by kernel_rfl⟩
noncomputable def xf100 : XF := ⟨Tryz.f100, (Tryz.f100.body).getD .skip, T.ofList [], 2099⟩
theorem xf100_ok : GoodF Tryz.prog 100 xf100 := ⟨Tryz.func100, by kernel_rfl, inferInstance, by kernel_rfl⟩
noncomputable def xf101 : XF := ⟨Tryz.f101, (Tryz.f101.body).getD .skip, T.ofList [], 19⟩
theorem xf101_ok : GoodF Tryz.prog 101 xf101 := ⟨Tryz.func101, by kernel_rfl, inferInstance, by kernel_rfl⟩
noncomputable def xf102 : XF := ⟨Tryz.f102, (Tryz.f102.body).getD .skip, T.ofList [], 19⟩
theorem xf102_ok : GoodF Tryz.prog 102 xf102 := ⟨Tryz.func102, by kernel_rfl, inferInstance, by kernel_rfl⟩
noncomputable def xf103 : XF := ⟨Tryz.f103, (Tryz.f103.body).getD .skip, T.ofList [], 69189240591⟩
theorem xf103_ok : GoodF Tryz.prog 103 xf103 := ⟨Tryz.func103, by kernel_rfl, inferInstance, by kernel_rfl⟩
noncomputable def xf104 : XF := ⟨Tryz.f104, (Tryz.f104.body).getD .skip, T.ofList [(9, (8, .calm 0 <| .calm 1 <| .calm 2 <| .calm 3 <| .calm 4 <| .must 5 <| .must 6 <| .calm 7 <| .must 8 <| .done))], 69189240591⟩
theorem xf104_ok : GoodF Tryz.prog 104 xf104 := ⟨Tryz.func104, by kernel_rfl, inferInstance, by kernel_rfl⟩
noncomputable def xf105 : XF := ⟨Tryz.f105, (Tryz.f105.body).getD .skip, T.ofList [], 51⟩
theorem xf105_ok : GoodF Tryz.prog 105 xf105 := ⟨Tryz.func105, by kernel_rfl, inferInstance, by kernel_rfl⟩
noncomputable def xf106 : XF := ⟨Tryz.f106, (Tryz.f106.body).getD .skip, T.ofList [], 51⟩
theorem xf106_ok : GoodF Tryz.prog 106 xf106 := ⟨Tryz.func106, by kernel_rfl, inferInstance, by kernel_rfl⟩
noncomputable def xf125 : XF := ⟨Tryz.f125, (Tryz.f125.body).getD .skip, T.ofList [], 16541⟩
theorem xf125_ok : GoodF Tryz.prog 125 xf125 := ⟨Tryz.func125, by kernel_rfl, inferInstance, by kernel_rfl⟩
noncomputable def xf126 : XF := ⟨Tryz.f126, (Tryz.f126.body).getD .skip, T.ofList [], 21⟩
theorem xf126_ok : GoodF Tryz.prog 126 xf126 := ⟨Tryz.func126, by kernel_rfl, inferInstance, by kernel_rfl⟩
noncomputable def xf127 : XF := ⟨Tryz.f127, (Tryz.f127.body).getD .skip, T.ofList [], 135⟩
theorem xf127_ok : GoodF Tryz.prog 127 xf127 := ⟨Tryz.func127, by kernel_rfl, inferInstance, by kernel_rfl⟩
noncomputable def xf128 : XF := ⟨Tryz.f128, (Tryz.f128.body).getD .skip, T.ofList [(5, (12, .calm 0 <| .calm 1 <| .calm 2 <| .calm 3 <| .calm 4 <| .calm 5 <| .calm 6 <| .calm 7 <| .calm 8 <| .calm 9 <| .calm 10 <| .must 11 <| .done)), (8, (20, .calm 0 <| .calm 1 <| .calm 2 <| .calm 3 <| .calm 4 <| .calm 5 <| .calm 6 <| .calm 7 <| .calm 8 <| .calm 9 <| .calm 10 <| .calm 11 <| .calm 12 <| .calm 13 <| .calm 14 <| .calm 15 <| .calm 16 <| .calm 17 <| .calm 18 <| .must 19 <| .done)), (9, (13, .calm 0 <| .calm 1 <| .calm 2 <| .calm 3 <| .calm 4 <| .calm 5 <| .calm 6 <| .calm 7 <| .calm 8 <| .calm 9 <| .calm 12 <| .must 10 <| .calm 11 <| .done))], 4642275147320176030938824797⟩
theorem xf128_ok : GoodF Tryz.prog 128 xf128 := ⟨Tryz.func128, by kernel_rfl, inferInstance, by kernel_rfl⟩
noncomputable def xf132 : XF := ⟨Tryz.f132, (Tryz.f132.body).getD .skip, T.ofList [], 1193287703199244111⟩
theorem xf132_ok : GoodF Tryz.prog 132 xf132 := ⟨Tryz.func132, by kernel_rfl, inferInstance, by kernel_rfl⟩
noncomputable def xf134 : XF := ⟨Tryz.f134, (Tryz.f134.body).getD .skip, T.ofList [], 4639143427053511⟩
theorem xf134_ok : GoodF Tryz.prog 134 xf134 := ⟨Tryz.func134, by kernel_rfl, inferInstance, by kernel_rfl⟩
noncomputable def xf135 : XF := ⟨Tryz.f135, (Tryz.f135.body).getD .skip, T.ofList [], 3451⟩
theorem xf135_ok : GoodF Tryz.prog 135 xf135 := ⟨Tryz.func135, by kernel_rfl, inferInstance, by kernel_rfl⟩
noncomputable def xf136 : XF := ⟨Tryz.f136, (Tryz.f136.body).getD .skip, T.ofList [], 3451⟩
theorem xf136_ok : GoodF Tryz.prog 136 xf136 := ⟨Tryz.func136, by kernel_rfl, inferInstance, by kernel_rfl⟩
noncomputable def xf166 : XF := ⟨Tryz.f166, (Tryz.f166.body).getD .skip, T.ofList [], 5⟩
theorem xf166_ok : GoodF Tryz.prog 166 xf166 := ⟨Tryz.func166, by kernel_rfl, inferInstance, by kernel_rfl⟩
noncomputable def xf167 : XF := ⟨Tryz.f167, (Tryz.f167.body).getD .skip, T.ofList [], 1⟩
theorem xf167_ok : GoodF Tryz.prog 167 xf167 := ⟨Tryz.func167, by kernel_rfl, inferInstance, by kernel_rfl⟩
noncomputable def xf168 : XF := ⟨Tryz.f168, (Tryz.f168.body).getD .skip, T.ofList [], 7⟩
theorem xf168_ok : GoodF Tryz.prog 168 xf168 := ⟨Tryz.func168, by kernel_rfl, inferInstance, by kernel_rfl⟩
noncomputable def xf169 : XF := ⟨Tryz.f169, (Tryz.f169.body).getD .skip, T.ofList [(0, (11, .calm 0 <| .calm 1 <| .calm 2 <| .calm 3 <| .calm 4 <| .calm 5 <| .calm 6 <| .calm 7 <| .must 8 <| .calm 9 <| .calm 10 <| .must 11 <| .done))], 3⟩
theorem xf169_ok : GoodF Tryz.prog 169 xf169 := ⟨Tryz.func169, by kernel_rfl, inferInstance, by kernel_rfl⟩
noncomputable def xf170 : XF := ⟨Tryz.f170, (Tryz.f170.body).getD .skip, T.ofList [(0, (12, .calm 0 <| .calm 1 <| .calm 2 <| .calm 3 <| .calm 4 <| .calm 5 <| .calm 6 <| .calm 7 <| .must 8 <| .must 9 <| .calm 10 <| .calm 11 <| .must 12 <| .done))], 3⟩
theorem xf170_ok : GoodF Tryz.prog 170 xf170 := ⟨Tryz.func170, by kernel_rfl, inferInstance, by kernel_rfl⟩
noncomputable def xf171 : XF := ⟨Tryz.f171, (Tryz.f171.body).getD .skip, T.ofList [(0, (11, .calm 0 <| .calm 1 <| .calm 2 <| .calm 3 <| .calm 4 <| .calm 5 <| .calm 6 <| .calm 7 <| .must 8 <| .calm 9 <| .calm 10 <| .must 11 <| .done))], 3⟩
theorem xf171_ok : GoodF Tryz.prog 171 xf171 := ⟨Tryz.func171, by kernel_rfl, inferInstance, by kernel_rfl⟩
noncomputable def xf172 : XF := ⟨Tryz.f172, (Tryz.f172.body).getD .skip, T.ofList [(0, (11, .calm 0 <| .calm 1 <| .calm 2 <| .calm 3 <| .calm 4 <| .calm 5 <| .calm 6 <| .calm 7 <| .must 8 <| .calm 9 <| .calm 10 <| .must 11 <| .done))], 3⟩
theorem xf172_ok : GoodF Tryz.prog 172 xf172 := ⟨Tryz.func172, by kernel_rfl, inferInstance, by kernel_rfl⟩
noncomputable def xf173 : XF := ⟨Tryz.f173, (Tryz.f173.body).getD .skip, T.ofList [], 19⟩
theorem xf173_ok : GoodF Tryz.prog 173 xf173 := ⟨Tryz.func173, by kernel_rfl, inferInstance, by kernel_rfl⟩
noncomputable def xf174 : XF := ⟨Tryz.f174, (Tryz.f174.body).getD .skip, T.ofList [], 1⟩
theorem xf174_ok : GoodF Tryz.prog 174 xf174 := ⟨Tryz.func174, by kernel_rfl, inferInstance, by kernel_rfl⟩
noncomputable def xf175 : XF := ⟨Tryz.f175, (Tryz.f175.body).getD .skip, T.ofList [], 135⟩
theorem xf175_ok : GoodF Tryz.prog 175 xf175 := ⟨Tryz.func175, by kernel_rfl, inferInstance, by kernel_rfl⟩
noncomputable def xf176 : XF := ⟨Tryz.f176, (Tryz.f176.body).getD .skip, T.ofList [], 3⟩
theorem xf176_ok : GoodF Tryz.prog 176 xf176 := ⟨Tryz.func176, by kernel_rfl, inferInstance, by kernel_rfl⟩
noncomputable def xf177 : XF := ⟨Tryz.f177, (Tryz.f177.body).getD .skip, T.ofList [], 3⟩
theorem xf177_ok : GoodF Tryz.prog 177 xf177 := ⟨Tryz.func177, by kernel_rfl, inferInstance, by kernel_rfl⟩
noncomputable def xf178 : XF := ⟨Tryz.f178, (Tryz.f178.body).getD .skip, T.ofList [], 3⟩
theorem xf178_ok : GoodF Tryz.prog 178 xf178 := ⟨Tryz.func178, by kernel_rfl, inferInstance, by kernel_rfl⟩
noncomputable def xf179 : XF := ⟨Tryz.f179, (Tryz.f179.body).getD .skip, T.ofList [], 3⟩
theorem xf179_ok : GoodF Tryz.prog 179 xf179 := ⟨Tryz.func179, by kernel_rfl, inferInstance, by kernel_rfl⟩
noncomputable def xf180 : XF := ⟨Tryz.f180, (Tryz.f180.body).getD .skip, T.ofList [], 4211⟩
theorem xf180_ok : GoodF Tryz.prog 180 xf180 := ⟨Tryz.func180, by kernel_rfl, inferInstance, by kernel_rfl⟩
noncomputable def xf181 : XF := ⟨Tryz.f181, (Tryz.f181.body).getD .skip, T.ofList [], 4211⟩
theorem xf181_ok : GoodF Tryz.prog 181 xf181 := ⟨Tryz.func181, by kernel_rfl, inferInstance, by kernel_rfl⟩
noncomputable def xf182 : XF := ⟨Tryz.f182, (Tryz.f182.body).getD .skip, T.ofList [(2, (13, .calm 0 <| .calm 2 <| .calm 3 <| .calm 4 <| .calm 5 <| .calm 6 <| .calm 7 <| .calm 8 <| .calm 9 <| .calm 10 <| .calm 11 <| .must 1 <| .must 12 <| .done)), (4, (11, .calm 0 <| .calm 1 <| .calm 2 <| .calm 3 <| .calm 4 <| .calm 5 <| .calm 6 <| .calm 7 <| .calm 8 <| .calm 9 <| .calm 10 <| .must 11 <| .done))], 13⟩
theorem xf182_ok : GoodF Tryz.prog 182 xf182 := ⟨Tryz.func182, by kernel_rfl, inferInstance, by kernel_rfl⟩
noncomputable def xf183 : XF := ⟨Tryz.f183, (Tryz.f183.body).getD .skip, T.ofList [], 4211⟩
theorem xf183_ok : GoodF Tryz.prog 183 xf183 := ⟨Tryz.func183, by kernel_rfl, inferInstance, by kernel_rfl⟩
noncomputable def xf184 : XF := ⟨Tryz.f184, (Tryz.f184.body).getD .skip, T.ofList [], 4211⟩
theorem xf184_ok : GoodF Tryz.prog 184 xf184 := ⟨Tryz.func184, by kernel_rfl, inferInstance, by kernel_rfl⟩
noncomputable def xf185 : XF := ⟨Tryz.f185, (Tryz.f185.body).getD .skip, T.ofList [], 61⟩
theorem xf185_ok : GoodF Tryz.prog 185 xf185 := ⟨Tryz.func185, by kernel_rfl, inferInstance, by kernel_rfl⟩
noncomputable def tabL : List (Nat × XF) := [(11, xf11), (15, xf15), (23, xf23), (25, xf25), (27, xf27), (29, xf29), (31, xf31), (46, xf46), (47, xf47), (53, xf53), (54, xf54), (57, xf57), (59, xf59), (61, xf61), (62, xf62), (63, xf63), (64, xf64), (65, xf65), (66, xf66), (67, xf67), (68, xf68), (88, xf88), (89, xf89), (95, xf95), (97, xf97), (99, xf99), (100, xf100), (101, xf101), (102, xf102), (103, xf103), (104, xf104), (105, xf105), (106, xf106), (125, xf125), (126, xf126), (127, xf127), (128, xf128), (132, xf132), (134, xf134), (135, xf135), (136, xf136), (166, xf166), (167, xf167), (168, xf168), (169, xf169), (170, xf170), (171, xf171), (172, xf172), (173, xf173), (174, xf174), (175, xf175), (176, xf176), (177, xf177), (178, xf178), (179, xf179), (180, xf180), (181, xf181), (182, xf182), (183, xf183), (184, xf184), (185, xf185)]
noncomputable def tab : T XF := T.ofList tabL
theorem tab_ok : ∀ f x, tab.get f = some x → GoodF Tryz.prog f x := fun f x h => GoodL.mem (l := tabL) ⟨xf11_ok, xf15_ok, xf23_ok, xf25_ok, xf27_ok, xf29_ok, xf31_ok, xf46_ok, xf47_ok, xf53_ok, xf54_ok, xf57_ok, xf59_ok, xf61_ok, xf62_ok, xf63_ok, xf64_ok, xf65_ok, xf66_ok, xf67_ok, xf68_ok, xf88_ok, xf89_ok, xf95_ok, xf97_ok, xf99_ok, xf100_ok, xf101_ok, xf102_ok, xf103_ok, xf104_ok, xf105_ok, xf106_ok, xf125_ok, xf126_ok, xf127_ok, xf128_ok, xf132_ok, xf134_ok, xf135_ok, xf136_ok, xf166_ok, xf167_ok, xf168_ok, xf169_ok, xf170_ok, xf171_ok, xf172_ok, xf173_ok, xf174_ok, xf175_ok, xf176_ok, xf177_ok, xf178_ok, xf179_ok, xf180_ok, xf181_ok, xf182_ok, xf183_ok, xf184_ok, xf185_ok, trivial⟩ (f, x) (T.get_ofList h)
theorem works_run : trueG Tryz.prog tab 100000 doorPr doorH 200 27 = true := by kernel_rfl
end W03
theorem works03_fn {L : List (Nat × Obj)} (h : HandleIn L) : Fn Tryz.prog 27 [] L (fun v L' => v = .bool true ∧ L' = L) := by
  obtain ⟨cs, E, fr, h1, h2⟩ := h
  exact runD doorPr_ok mixed W03.tab_ok (doorH_cov h2) doorH_zero W03.works_run h1
end Go.Proofs.YtakedlockchpcaaGreatDoor
