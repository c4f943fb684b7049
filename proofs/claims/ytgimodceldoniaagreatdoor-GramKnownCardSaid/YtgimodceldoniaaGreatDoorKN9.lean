/-
  A part of what the last of these texts needs; by itself it proves no statement.
-/
import Derived.Test.YtgimodceldoniaaGreatDoorKN8
namespace Go.Proofs.YtgimodceldoniaaGreatDoor
open Go.RowKit
attribute [local irreducible] Fn WC WL WR OW Qt YieldFn QW FnP FnD FnE
abbrev getV (gb : Nat) : Value := .iface 122 (.pointer (some ⟨gb, 0, none⟩))
theorem get_stps_ok {gb rb : Nat} {l : List UInt8} : ∀ {fs : List Fk} {s s' : Nat × Nat} {vs us : List Value}, Oks fs vs → (getW gb rb l).stps fs s vs = .ok s' us → prs l fs s.1 = .ok us s'.1
  | [], s, s', [], us, _, h => by simp only [Wy.stps] at h; cases h; rfl
  | k :: ks, s, s', v :: vs, us, ho, h => by
    simp only [Wy.stps] at h
    cases h1 : (getW gb rb l).stp k s v with
    | bad c a => rw [h1] at h; cases h
    | ok s1 v1 =>
      rw [h1] at h
      cases h2 : (getW gb rb l).stps ks s1 vs with
      | bad c a => simp only [h2] at h; cases h
      | ok s2 vs2 =>
        simp only [h2] at h
        cases h
        have e1 := getStp_ok (show getStp l k s = .ok s1 v1 from h1)
        have e2 := get_stps_ok ho.2 h2
        simp only [prs, e1, PR.bind, e2]
  | [], _, _, _ :: _, _, h, _ => h.elim
  | _ :: _, _, _, [], _, h, _ => h.elim
theorem getStp_bad {l : List UInt8} {k : Fk} {s : Nat × Nat} {c a : Nat} (h : getStp l k s = .bad c a) : Fk.pr l s.1 k = .bad c a := by
  unfold getStp at h
  split at h
  · cases h
  · rename_i h1; cases h; exact h1
theorem get_stps_bad {gb rb : Nat} {l : List UInt8} : ∀ {fs : List Fk} {s : Nat × Nat} {vs : List Value} {c a : Nat}, Oks fs vs → (getW gb rb l).stps fs s vs = .bad c a → prs l fs s.1 = .bad c a
  | [], s, [], c, a, _, h => by simp only [Wy.stps] at h; cases h
  | k :: ks, s, v :: vs, c, a, ho, h => by
    simp only [Wy.stps] at h
    cases h1 : (getW gb rb l).stp k s v with
    | bad c' a' =>
      rw [h1] at h; cases h
      have e1 := getStp_bad (show getStp l k s = .bad _ _ from h1)
      simp only [prs, e1, PR.bind]
    | ok s1 v1 =>
      rw [h1] at h
      have e1 := getStp_ok (show getStp l k s = .ok s1 v1 from h1)
      cases h2 : (getW gb rb l).stps ks s1 vs with
      | bad c' a' =>
        simp only [h2] at h; cases h
        have e2 := get_stps_bad ho.2 h2
        simp only [prs, e1, PR.bind, e2]
      | ok s2 vs2 => simp only [h2] at h; cases h
  | [], _, _ :: _, _, _, h, _ => h.elim
  | _ :: _, _, [], _, _, h, _ => h.elim
theorem prn_step {l : List UInt8} {es : List Fk} {n j a0 aj a' : Nat} {vss : List (List Value)} {us : List Value} (hp : prn l es n a0 = (prn l es (n - j) aj).bind fun vs b => .ok (vss ++ vs) b) (hj : j < n) (h : prs l es aj = .ok us a') : prn l es n a0 = (prn l es (n - (j + 1)) a').bind fun vs b => .ok ((vss ++ [us]) ++ vs) b := by
  obtain ⟨k, hk⟩ : ∃ k, n - j = k + 1 := ⟨n - j - 1, by omega⟩
  rw [hp, hk, show n - (j + 1) = k by omega, prn, h]
  simp only [PR.bind]
  cases prn l es k a' with
  | bad c a => rfl
  | ok vs b => simp
theorem prn_stop {l : List UInt8} {es : List Fk} {n j a0 aj c a : Nat} {vss : List (List Value)} (hp : prn l es n a0 = (prn l es (n - j) aj).bind fun vs b => .ok (vss ++ vs) b) (hj : j < n) (h : prs l es aj = .bad c a) : prn l es n a0 = .bad c a := by
  obtain ⟨k, hk⟩ : ∃ k, n - j = k + 1 := ⟨n - j - 1, by omega⟩
  rw [hp, hk, prn, h]
  rfl
theorem own_upd {sz : Nat} {cur cur' : Array Value} {off cap n : Nat} {xs zs us : List Value} (h : Own sz cur off cap (n + 1) (xs ++ zs)) (hx : xs.length = n * sz) (hu : Upd cur cur' (off + n * sz) us) (hul : us.length = sz) : Own sz cur' off cap (n + 1) (xs ++ us) := by
  refine ⟨by rw [List.length_append, hx, hul, Nat.succ_mul], h.le, h.max, by rw [hu.size]; exact h.fit, fun j x hj => ?_⟩
  by_cases hlt : j < xs.length
  · rw [List.getElem?_append_left hlt] at hj
    rw [hu.rest _ (.inl (by omega))]
    exact h.at_ j x (by rw [List.getElem?_append_left hlt]; exact hj)
  · rw [List.getElem?_append_right (by omega)] at hj
    have := hu.lies _ x hj
    rwa [show off + n * sz + (j - xs.length) = off + j by omega] at this
theorem Buf.full' {E sz : Nat} {v : Value} {T : List (Nat × Obj)} {n : Nat} {xs : List Value} (h : Buf E sz v T n xs) (hn : n ≠ 0) : ∃ g off cur, (∃ cap, v = .slice (some ⟨g, off, none⟩) n cap ∧ Own sz cur off cap n xs) ∧ T = [(g, .cells cur E (0, 0))] := by
  rcases h with ⟨_, h, _⟩ | ⟨g, off, cap, cur, rfl, rfl, ho⟩
  · exact absurd h hn
  · exact ⟨g, off, cur, ⟨cap, rfl, ho⟩, rfl⟩
theorem set_twice {cs : Array Value} {off : Nat} (u v : Value) : (cs.setIfInBounds off u).setIfInBounds off v = cs.setIfInBounds off v := by
  apply Array.ext_getElem?
  intro j
  by_cases e : off = j
  · subst e
    by_cases hlt : off < cs.size
    · rw [Array.getElem?_setIfInBounds_self_of_lt (by simpa using hlt), Array.getElem?_setIfInBounds_self_of_lt hlt]
    · rw [Array.getElem?_eq_none (by simp; omega), Array.getElem?_eq_none (by simp; omega)]
  · rw [Array.getElem?_setIfInBounds_ne e, Array.getElem?_setIfInBounds_ne e, Array.getElem?_setIfInBounds_ne e]
theorem set_idem {cs : Array Value} {off : Nat} {v : Value} (h : cs[off]? = some v) : cs.setIfInBounds off v = cs := by
  apply Array.ext_getElem?
  intro j
  by_cases e : off = j
  · subst e; rw [Array.getElem?_setIfInBounds_self_of_lt (Array.getElem?_eq_some_iff.1 h).1, h]
  · rw [Array.getElem?_setIfInBounds_ne e]
abbrev zInt : List Value := [.int .i64 0]
theorem zInt_ok : Oks binF zInt := ⟨oks_zI, trivial⟩
abbrev zEnt : List Value := [.int .i64 0, .int .u32 0, .int .i64 0, .int .i64 0, .int .u8 0, .int .i64 0, .int .i64 0, .int .u64 0, .int .i64 0, .int .i64 0]
theorem zEnt_ok : Oks entryF zEnt := ⟨oks_zI, ⟨0, rfl, by omega, by omega⟩, oks_zI, oks_zI, ⟨0, rfl⟩, oks_zI, oks_zI, ⟨0, rfl, by omega, by omega⟩, oks_zI, oks_zI, trivial⟩
theorem zEnt_src {c : Cx} {L : List (Nat × Obj)} {q E : Nat} [TUnd c.P 32 (.slice E)] (i : Nat) (hi : L[i]? = some (q, .cells zc157 157 (0, 0))) : SrcL c L 10 32 (.slice (some ⟨q, 0, none⟩) 1 1) 1 zEnt :=
  srcVec ⟨rfl, _, _, rfl, Nat.le_refl _, by decide, .inr ⟨q, 0, zc157, _, _, i, rfl, hi, fun j v h => by rw [Nat.zero_add, show zc157 = zEnt.toArray from rfl]; simpa using h⟩⟩ (oks_one zEnt_ok)
set_option maxHeartbeats 4000000 in
theorem glist_int {gb rb : Nat} {l : List UInt8} (hl9 : l.length ≤ 1000000000) {s : Nat × Nat} {Lp R : List (Nat × Obj)} {i b : Nat} {cs : Array Value} {E : TypeId} {fr : Nat × Nat} {off most : Nat} (hm9 : most ≤ 1000) (hM : GMem gb rb l s Lp) (hR : R[i]? = some (b, .cells cs E fr)) (hc : cs[off]? = some (.slice none 0 0)) (hfr : Free fr off 1) :
    FnE Tryz.prog 54 [getV gb, .pointer (some ⟨b, off, none⟩), .int .i64 (most : Nat), .func (.func 44) #[] #[]] (Lp ++ R)
      (fun v L' => v = .tuple #[] ∧ ∃ vss s' Lp' v' T, prl l most binF s.1 = .ok vss s'.1 ∧ L' = Lp' ++ (T ++ R.set i (b, .cells (cs.setIfInBounds off v') E fr)) ∧ GMem gb rb l s' Lp' ∧ Buf 3 1 v' T vss.length vss.flatten)
      (fun u L' => ∃ c a p s' Lp' cs', prl l most binF s.1 = .bad c a ∧ u = flt p ∧ L' = (p, fltO c a) :: (Lp' ++ R.set i (b, .cells cs' E fr)) ∧ GMem gb rb l s' Lp' ∧ cs'.size = cs.size) := by
  have ih := (getM (gb := gb) (rb := rb) hl9).ih
  have jn := (getM (gb := gb) (rb := rb) hl9).jn
  have im := (getM (gb := gb) (rb := rb) hl9).im
  have hz : off < cs.size := (Array.getElem?_eq_some_iff.1 hc).1
  have hwm : IntKind.u64.wrap ((most : Nat) : Int) = ((most : Nat) : Int) := wU64 (by omega) (by omega)
  refine FnE_enter Tryz.func54 rfl Tryz.ntmps54 rfl fun g => ?_
  repeat (first | refine RQ ?_ | (refine WL_Q ?_; (first | refine QW_of (Qt_nilCheck_m rfl) ?_)) | (refine RE ?_; try intro _) | refine RC ?_ | refine WC_region ?_)
  refine WL_op rfl ?_
  refine OW_invE (getM (gb := gb) (rb := rb) hl9).mh rfl (get_here s Lp R hM) ?_ (fun _ _ h => h.elim)
  rintro _ _ ⟨rfl, Lp1, rfl, hM1⟩
  have hX1 := get_app (A := Lp1) hR
  repeat (first | refine RQ ?_ | (refine WL_Q ?_; (first | refine QW_of (Qt_nilCheck_m rfl) ?_)) | (refine RE ?_; try intro _) | refine RC ?_ | refine WG 0 ?_ | refine WG 1 ?_ | refine WG 2 ?_ | refine WG 4 ?_ | refine WG 5 ?_ | refine WG 6 ?_ | refine WG 7 ?_ | refine WG 8 ?_ | refine WG 9 ?_ | refine WG 10 ?_ | refine WG 11 ?_)
  rename_i mb
  refine WL_op rfl ?_
  refine OW_locI (c := ⟨Tryz.prog, g, _, _, _⟩) (W := getW gb rb l) (k := .nn) (s := (s.1, s.1)) (getM (gb := gb) (rb := rb) hl9).mn (getM (gb := gb) (rb := rb) hl9).cn hM1 (fun q hq => by cases hq) trivial ⟨_, rfl, u64_lo _, u64_hi _⟩ rfl ?_ ?_
  rotate_left
  · intro c a p s' Lp' hs hM'
    have e := getStp_bad (show getStp l .nn (s.1, s.1) = .bad c a from hs)
    exact ⟨_, rfl, c, a, p, s', Lp', cs, by unfold prl; rw [e]; rfl, rfl, by rw [set_same hR], hM', rfl⟩
  intro s2 x' Lp2 hs hM2
  have e0 := getStp_ok (show getStp l .nn (s.1, s.1) = .ok s2 x' from hs)
  have hu0 : uCode l s.1 = 0 ∧ x' = .int .u64 (uVal l s.1) := by
    simp only [Fk.pr] at e0
    split at e0
    · rename_i h; simp only [PR.ok.injEq] at e0; exact ⟨h, e0.1.symm⟩
    · cases e0
  obtain ⟨hu0, rfl⟩ := hu0
  repeat (first | refine RQ ?_ | (refine WL_Q ?_; (first | refine QW_of (Qt_nilCheck_m rfl) ?_)) | (refine RE ?_; try intro _) | refine RC ?_ | refine WG 0 ?_ | refine WG 1 ?_ | refine WG 2 ?_ | refine WG 4 ?_ | refine WG 5 ?_ | refine WG 6 ?_ | refine WG 7 ?_ | refine WG 8 ?_ | refine WG 9 ?_ | refine WG 10 ?_ | refine WG 11 ?_)
  refine WC_region ?_
  repeat (first | refine RQ ?_ | (refine WL_Q ?_; (first | refine QW_of (Qt_nilCheck_m rfl) ?_)) | (refine RE ?_; try intro _) | refine RC ?_ | refine WC_region ?_)
  rw [hwm]
  refine WL_op rfl ?_
  have hF := get_must s2 Lp2 ((mb, Obj.cells #[Value.int .u64 (uVal l s.1)] 23 (0, 0)) :: R) (decide (((uVal l s.1 : Nat) : Int) ≤ ((most : Nat) : Int))) 4 hM2
  refine OW_invE (getM (gb := gb) (rb := rb) hl9).mm rfl ((hF.dropP (Rp' := fun u L' => ∃ c a p, (if decide (((uVal l s.1 : Nat) : Int) ≤ ((most : Nat) : Int)) then none else some (4, s2.2)) = some (c, a) ∧ u = flt p ∧ L' = (p, fltO c a) :: (Lp2 ++ R)) (fun u L' ⟨c, a, p, h1, h2, h3⟩ => ⟨(p, fltO c a) :: (Lp2 ++ R), by rw [h3]; exact .cons_cons _ (.append (.refl _) (.cons _ (.refl _))), c, a, p, h1, h2, rfl⟩)).perm List.perm_middle (fun v L' h => ⟨_, .refl _, h⟩) (fun v L' h => ⟨_, .refl _, h⟩)) ?_ ?_
  rotate_left
  · rintro _ _ ⟨c, a, p, hm, rfl, rfl⟩
    have hgt : ¬ uVal l s.1 ≤ most := fun h => by rw [decide_eq_true (by omega)] at hm; cases hm
    rw [decide_eq_false (by omega)] at hm
    simp only [Bool.false_eq_true, if_false, Option.some.injEq, Prod.mk.injEq] at hm
    obtain ⟨rfl, rfl⟩ := hm
    have hat : s2.2 = s.1 := by
      have h1 : getStp l .nn (s.1, s.1) = .ok s2 (.int .u64 (uVal l s.1)) := hs
      unfold getStp at h1; rw [e0] at h1; injection h1 with h2 _; exact (congrArg Prod.snd h2).symm
    exact ⟨_, rfl, 4, s2.2, p, s2, Lp2, cs, by unfold prl; rw [e0]; simp only [PR.bind]; rw [if_neg hgt, hat], rfl, by rw [set_same hR], hM2, rfl⟩
  rintro _ _ ⟨rfl, rfl, hm⟩
  have hle : uVal l s.1 ≤ most := by
    rcases Nat.lt_or_ge most (uVal l s.1) with h | h
    · rw [decide_eq_false (by omega)] at hm; cases hm
    · exact h
  have hX0 : (Lp2 ++ ((mb, Obj.cells #[Value.int .u64 (uVal l s.1)] 23 (0, 0)) :: R))[Lp2.length]? = some _ := get_app (A := Lp2) (i := 0) rfl
  repeat (first | refine RQ ?_ | (refine WL_Q ?_; (first | refine QW_of (Qt_nilCheck_m rfl) ?_)) | (refine RE ?_; try intro _) | refine RC0 ?_ | refine WC_block (id := 1) ?_ | refine WC_region ?_)
  have hset0 : R.set i (b, Obj.cells (cs.setIfInBounds off (.slice none 0 0)) E fr) = R := by rw [set_idem hc, set_same hR]
  obtain ⟨n, hn⟩ : ∃ n, n = uVal l s.1 := ⟨_, rfl⟩
  rw [← hn]
  rw [← hn] at hle
  have hprl : prl l most binF s.1 = prn l binF n s2.1 := by unfold prl; rw [e0]; simp only [PR.bind]; rw [← hn, if_pos hle]
  rw [hprl]
  refine WC_block (WC_wk [(27, .int .u64 0), (26, .int .u64 (n : Nat)), (0, getV gb), (1, .pointer (some ⟨b, off, none⟩)), (3, .func (.func 44) #[] #[])] ⟨rfl, rfl, rfl, rfl, rfl, trivial⟩ ?_)
  refine WC_dropL (Lp2 ++ R) (.append (.refl _) (.cons _ (.refl _))) ?_
  refine WC_loop (fun m σ => ∃ (j : Nat) (sj : Nat × Nat) (Lpj Tj : List (Nat × Obj)) (vj : Value) (vssj : List (List Value)), m = n - j ∧ j ≤ n ∧ GMem gb rb l sj Lpj ∧ Buf 3 1 vj Tj j vssj.flatten ∧ vssj.length = j ∧ prn l binF n s2.1 = (prn l binF (n - j) sj.1).bind (fun vs b => .ok (vssj ++ vs) b) ∧ σ = ⟨[(27, .int .u64 (j : Nat)), (26, .int .u64 (n : Nat)), (0, getV gb), (1, .pointer (some ⟨b, off, none⟩)), (3, .func (.func 44) #[] #[])], [], Lpj ++ (Tj ++ R.set i (b, Obj.cells (cs.setIfInBounds off vj) E fr))⟩) n ⟨0, s2, Lp2, [], .slice none 0 0, [], by omega, by omega, hM2, Buf.nil _ _, rfl, by
    show _ = (prn l binF n s2.1).bind _
    cases prn l binF n s2.1 <;> rfl, by rw [hset0]; rfl⟩ ?_
  rintro m σ ⟨j, sj, Lpj, Tj, vj, vssj, rfl, hj, hMj, hbuf, hvl, hp, rfl⟩
  by_cases hlt : j < n
  · have d1 : decide (((j : Nat) : Int) < ((n : Nat) : Int)) = true := decide_eq_true (by omega)
    have hwj0 : IntKind.u64.wrap ((j : Nat) : Int) = ((j : Nat) : Int) := wU64 (by omega) (by omega)
    have d2 : (((j : Nat) : Int) == IntKind.u64.wrap ((j : Nat) : Int)) = true := by rw [hwj0]; simp
    have hwj : IntKind.u64.wrap (((j : Nat) : Int) + 1) = ((j + 1 : Nat) : Int) := by rw [wU64 (by omega) (by omega)]; omega
    obtain ⟨ag, cap, rfl, _⟩ := hbuf.val
    have hXj := get_app (A := Lpj) (get_app (A := Tj) (get_set_self hR (b, Obj.cells (cs.setIfInBounds off (.slice ag j cap)) E fr)))
    have hvj : (cs.setIfInBounds off (.slice ag j cap))[off]? = some (.slice ag j cap) := by rw [Array.getElem?_setIfInBounds_self_of_lt hz]
    have i0 : 0 ≤ ((j : Nat) : Int) := by omega
    have i1 : ((j : Nat) : Int) < ((j + 1 : Nat) : Int) := by omega
    repeat (first | refine RQ ?_ | (refine WL_Q ?_; (first | refine QW_of (Qt_nilCheck_m rfl) ?_)) | (refine RE ?_; try intro _) | refine RC ?_ | refine WC_region ?_)
    rename_i qb
    refine WL_op rfl (OW_append_buf (A := (qb, Obj.cells #[Value.int .i64 0] 3 (0, 0)) :: Lpj) rfl rfl rfl rfl rfl hbuf (src1 0 rfl) (by omega) (by simp only [maxLen]; omega) (by omega) fun v' T' hb' => ?_)
    obtain ⟨g', goff, gcur, ⟨gcap, rfl, hown⟩, rfl⟩ := hb'.full' (by omega)
    repeat (first | refine RQ ?_ | (refine WL_Q ?_; (first | refine QW_of (Qt_nilCheck_m rfl) ?_)) | (refine RE ?_; try intro _) | refine RC ?_ | refine WG 0 ?_ | refine WG 1 ?_ | refine WG 2 ?_ | refine WG 3 ?_ | refine WG 4 ?_ | refine WG 5 ?_ | refine WG 6 ?_ | refine WG 7 ?_ | refine WG 8 ?_ | refine WG 9 ?_ | refine WG 11 ?_)
    have hXn : ((qb, Obj.cells #[Value.int .i64 0] 3 (0, 0)) :: (Lpj ++ ([(g', Obj.cells gcur 3 (0, 0))] ++ R.set i (b, Obj.cells (cs.setIfInBounds off (.slice ag j cap)) E fr))))[(Lpj.length + (1 + i)) + 1]? = some (b, .cells (cs.setIfInBounds off (.slice ag j cap)) E fr) := get_app (A := Lpj) (get_app (A := [(g', Obj.cells gcur 3 (0, 0))]) (get_set_self hR _))
    refine WL_op rfl (OW_store1F (v := .slice (some ⟨g', goff, none⟩) (j + 1) gcap) rfl _ hXn (by simpa using hz) hfr (WL_nil ?_))
    have hL : ((qb, Obj.cells #[Value.int .i64 0] 3 (0, 0)) :: (Lpj ++ ([(g', Obj.cells gcur 3 (0, 0))] ++ R.set i (b, Obj.cells (cs.setIfInBounds off (.slice ag j cap)) E fr)))).set ((Lpj.length + (1 + i)) + 1) (b, Obj.cells ((cs.setIfInBounds off (.slice ag j cap)).setIfInBounds off (.slice (some ⟨g', goff, none⟩) (j + 1) gcap)) E fr) = (qb, Obj.cells #[Value.int .i64 0] 3 (0, 0)) :: (Lpj ++ ([(g', Obj.cells gcur 3 (0, 0))] ++ R.set i (b, Obj.cells (cs.setIfInBounds off (.slice (some ⟨g', goff, none⟩) (j + 1) gcap)) E fr))) := by
      rw [List.set_cons_succ, set_app, show 1 + i = [(g', Obj.cells gcur 3 (0, 0))].length + i from rfl, set_app, List.set_set, set_twice]
    have hsubL := (List.Sublist.refl (Lpj ++ ([(g', Obj.cells gcur 3 (0, 0))] ++ R.set i (b, Obj.cells (cs.setIfInBounds off (.slice (some ⟨g', goff, none⟩) (j + 1) gcap)) E fr)))).cons (qb, Obj.cells #[Value.int .i64 0] 3 (0, 0))
    rw [← hL] at hsubL
    repeat (first | refine RQ ?_ | (refine WL_Q ?_; (first | refine QW_of (Qt_nilCheck_m rfl) ?_)) | (refine RE ?_; try intro _) | refine RC ?_ | refine WG 0 ?_ | refine WG 1 ?_ | refine WG 2 ?_ | refine WG 3 ?_ | refine WG 4 ?_ | refine WG 5 ?_ | refine WG 6 ?_ | refine WG 7 ?_ | refine WG 8 ?_ | refine WG 9 ?_ | refine WG 11 ?_)
    refine WC_dropL _ hsubL ?_
    have hvn : (cs.setIfInBounds off (.slice (some ⟨g', goff, none⟩) (j + 1) gcap))[off]? = some (.slice (some ⟨g', goff, none⟩) (j + 1) gcap) := by rw [Array.getElem?_setIfInBounds_self_of_lt hz]
    have hXm := get_app (A := Lpj) (get_app (A := [(g', Obj.cells gcur 3 (0, 0))]) (get_set_self hR (b, Obj.cells (cs.setIfInBounds off (.slice (some ⟨g', goff, none⟩) (j + 1) gcap)) E fr)))
    repeat (first | refine RQ ?_ | (refine WL_Q ?_; (first | refine QW_of (Qt_nilCheck_m rfl) ?_)) | (refine RE ?_; try intro _) | refine RC ?_ | refine WC_region ?_)
    refine WL_op rfl ?_
    have hfl : vssj.flatten.length = j * 1 := hbuf.len
    have hlz : Lies gcur (goff + j * 1) zInt := fun q v hq => by
      have := hown.at_ (j * 1 + q) v (by rw [List.getElem?_append_right (by omega), hfl, show j * 1 + q - j * 1 = q by omega]; exact hq)
      rwa [← Nat.add_assoc] at this
    have hC := small_flat (getM hl9) sj Lpj ([(g', Obj.cells gcur 3 (0, 0))] ++ R.set i (b, Obj.cells (cs.setIfInBounds off (.slice (some ⟨g', goff, none⟩) (j + 1) gcap)) E fr)) 0 g' gcur 3 (0, 0) (goff + j * 1) zInt hMj (fun q hq => by cases hq) trivial rfl zInt_ok hlz (Free.zero _ _)
    refine OW_callE rfl (hC.dropP (Rp' := fun u L' => ∃ c a p s' Lp', prs l binF sj.1 = .bad c a ∧ u = flt p ∧ L' = (p, fltO c a) :: (Lp' ++ R.set i (b, Obj.cells (cs.setIfInBounds off (.slice (some ⟨g', goff, none⟩) (j + 1) gcap)) E fr)) ∧ GMem gb rb l s' Lp') (fun u L' ⟨c, a, p, s', Lp', cur', h1, h2, h3, h4, _⟩ => ⟨(p, fltO c a) :: (Lp' ++ R.set i (b, Obj.cells (cs.setIfInBounds off (.slice (some ⟨g', goff, none⟩) (j + 1) gcap)) E fr)), by rw [h3]; exact .cons_cons _ (.append (.refl _) (.cons _ (.refl _))), c, a, p, s', Lp', get_stps_bad zInt_ok h1, h2, rfl, h4⟩)) ?_ ?_
    rotate_left
    · rintro _ _ ⟨c, a, p, s', Lp', h1, rfl, rfl, h4⟩
      exact ⟨_, rfl, c, a, p, s', Lp', cs.setIfInBounds off (.slice (some ⟨g', goff, none⟩) (j + 1) gcap), prn_stop hp hlt h1, rfl, rfl, h4, by simp⟩
    rintro _ _ ⟨rfl, s', us, Lp', cur', h1, rfl, h3, h4, _⟩
    have e := get_stps_ok zInt_ok h1
    have hul : us.length = 1 := (getW gb rb l).stps_len h1 zInt_ok
    repeat (first | refine RQ ?_ | (refine WL_Q ?_; (first | refine QW_of (Qt_nilCheck_m rfl) ?_)) | (refine RE ?_; try intro _) | refine RC ?_ | refine WC_region ?_)
    rw [hwj]
    exact ⟨_, _, by omega, ⟨j + 1, s', Lp', [(g', Obj.cells cur' 3 (0, 0))], .slice (some ⟨g', goff, none⟩) (j + 1) gcap, vssj ++ [us], rfl, by omega, h3, .inr ⟨g', goff, gcap, cur', rfl, rfl, by
      have := own_upd hown hfl h4 hul
      simpa using this⟩, by simp [hvl], prn_step hp hlt e, rfl⟩, ⟨rfl, rfl, rfl, rfl, rfl, trivial⟩, rfl, .refl _⟩
  · have d1 : decide (((j : Nat) : Int) < ((n : Nat) : Int)) = false := decide_eq_false (by omega)
    have hjn : n - j = 0 := by omega
    rw [hjn] at hp
    have hp' : prn l binF n s2.1 = .ok vssj sj.1 := by rw [hp]; simp [prn, PR.bind]
    subst hvl
    repeat (first | refine RQ ?_ | (refine WL_Q ?_; (first | refine QW_of (Qt_nilCheck_m rfl) ?_)) | (refine RE ?_; try intro _) | refine RC ?_ | refine WC_region ?_)
    exact ⟨_, _, Res0 rfl, .refl _, rfl, vssj, sj, Lpj, vj, Tj, hp', rfl, hMj, hbuf⟩
set_option maxHeartbeats 4000000 in
theorem glist_entry {gb rb : Nat} {l : List UInt8} (hl9 : l.length ≤ 1000000000) {s : Nat × Nat} {Lp R : List (Nat × Obj)} {i b : Nat} {cs : Array Value} {E : TypeId} {fr : Nat × Nat} {off most : Nat} (hm9 : most ≤ 1000) (hM : GMem gb rb l s Lp) (hR : R[i]? = some (b, .cells cs E fr)) (hc : cs[off]? = some (.slice none 0 0)) (hfr : Free fr off 1) :
    FnE Tryz.prog 56 [getV gb, .pointer (some ⟨b, off, none⟩), .int .i64 (most : Nat), .func (.func 57) #[] #[]] (Lp ++ R)
      (fun v L' => v = .tuple #[] ∧ ∃ vss s' Lp' v' T, prl l most entryF s.1 = .ok vss s'.1 ∧ L' = Lp' ++ (T ++ R.set i (b, .cells (cs.setIfInBounds off v') E fr)) ∧ GMem gb rb l s' Lp' ∧ Buf 157 10 v' T vss.length vss.flatten)
      (fun u L' => ∃ c a p s' Lp' cs', prl l most entryF s.1 = .bad c a ∧ u = flt p ∧ L' = (p, fltO c a) :: (Lp' ++ R.set i (b, .cells cs' E fr)) ∧ GMem gb rb l s' Lp' ∧ cs'.size = cs.size) := by
  have ih := (getM (gb := gb) (rb := rb) hl9).ih
  have jn := (getM (gb := gb) (rb := rb) hl9).jn
  have im := (getM (gb := gb) (rb := rb) hl9).im
  have hz : off < cs.size := (Array.getElem?_eq_some_iff.1 hc).1
  have hwm : IntKind.u64.wrap ((most : Nat) : Int) = ((most : Nat) : Int) := wU64 (by omega) (by omega)
  refine FnE_enter Tryz.func56 rfl Tryz.ntmps56 rfl fun g => ?_
  repeat (first | refine RQr ?_ | (refine RX ?_; (first | refine QW_of (Qt_nilCheck_m rfl) ?_)) | (refine OX ?_; (first | (refine OE ?_; try intro _)); try refine SD ?_) | refine RC ?_ | refine RU ?_ | refine WC_draw_all (id := 9) 8 (Cs [0,1,2,3,4] <| .must 5 <| .must 6 <| .calm 7 <| .must 8 <| .done) mixed (by kernel_rfl) ?_ | refine WC_region ?_)
  refine WL_op rfl ?_
  refine OW_invE (getM (gb := gb) (rb := rb) hl9).mh rfl (get_here s Lp R hM) ?_ (fun _ _ h => h.elim)
  rintro _ _ ⟨rfl, Lp1, rfl, hM1⟩
  have hX1 := get_app (A := Lp1) hR
  repeat (first | refine RQr ?_ | (refine RX ?_; (first | refine QW_of (Qt_nilCheck_m rfl) ?_)) | (refine OX ?_; (first | (refine OE ?_; try intro _)); try refine SD ?_) | refine RC ?_ | refine RU ?_ | refine WC_draw_all (id := 9) 8 (Cs [0,1,2,3,4] <| .must 5 <| .must 6 <| .calm 7 <| .must 8 <| .done) mixed (by kernel_rfl) ?_ | refine WG 0 ?_ | refine WG 1 ?_ | refine WG 2 ?_ | refine WG 4 ?_ | refine WG 5 ?_ | refine WG 6 ?_ | refine WG 7 ?_ | refine WG 8 ?_ | refine WG 10 ?_ | refine WG 11 ?_)
  rename_i mb
  refine WL_op rfl ?_
  refine OW_locI (c := ⟨Tryz.prog, g, _, _, _⟩) (W := getW gb rb l) (k := .nn) (s := (s.1, s.1)) (getM (gb := gb) (rb := rb) hl9).mn (getM (gb := gb) (rb := rb) hl9).cn hM1 (fun q hq => by cases hq) trivial ⟨_, rfl, u64_lo _, u64_hi _⟩ rfl ?_ ?_
  rotate_left
  · intro c a p s' Lp' hs hM'
    have e := getStp_bad (show getStp l .nn (s.1, s.1) = .bad c a from hs)
    exact ⟨_, rfl, c, a, p, s', Lp', cs, by unfold prl; rw [e]; rfl, rfl, by rw [set_same hR], hM', rfl⟩
  intro s2 x' Lp2 hs hM2
  have e0 := getStp_ok (show getStp l .nn (s.1, s.1) = .ok s2 x' from hs)
  have hu0 : uCode l s.1 = 0 ∧ x' = .int .u64 (uVal l s.1) := by
    simp only [Fk.pr] at e0
    split at e0
    · rename_i h; simp only [PR.ok.injEq] at e0; exact ⟨h, e0.1.symm⟩
    · cases e0
  obtain ⟨hu0, rfl⟩ := hu0
  repeat (first | refine RQr ?_ | (refine RX ?_; (first | refine QW_of (Qt_nilCheck_m rfl) ?_)) | (refine OX ?_; (first | (refine OE ?_; try intro _)); try refine SD ?_) | refine RC ?_ | refine RU ?_ | refine WC_draw_all (id := 9) 8 (Cs [0,1,2,3,4] <| .must 5 <| .must 6 <| .calm 7 <| .must 8 <| .done) mixed (by kernel_rfl) ?_ | refine WG 0 ?_ | refine WG 1 ?_ | refine WG 2 ?_ | refine WG 4 ?_ | refine WG 5 ?_ | refine WG 6 ?_ | refine WG 7 ?_ | refine WG 8 ?_ | refine WG 10 ?_ | refine WG 11 ?_)
  refine WC_region ?_
  repeat (first | refine RQr ?_ | (refine RX ?_; (first | refine QW_of (Qt_nilCheck_m rfl) ?_)) | (refine OX ?_; (first | (refine OE ?_; try intro _)); try refine SD ?_) | refine RC ?_ | refine RU ?_ | refine WC_draw_all (id := 9) 8 (Cs [0,1,2,3,4] <| .must 5 <| .must 6 <| .calm 7 <| .must 8 <| .done) mixed (by kernel_rfl) ?_ | refine WC_region ?_)
  rw [hwm]
  refine WL_op rfl ?_
  have hF := get_must s2 Lp2 ((mb, Obj.cells #[Value.int .u64 (uVal l s.1)] 23 (0, 0)) :: R) (decide (((uVal l s.1 : Nat) : Int) ≤ ((most : Nat) : Int))) 4 hM2
  refine OW_invE (getM (gb := gb) (rb := rb) hl9).mm rfl ((hF.dropP (Rp' := fun u L' => ∃ c a p, (if decide (((uVal l s.1 : Nat) : Int) ≤ ((most : Nat) : Int)) then none else some (4, s2.2)) = some (c, a) ∧ u = flt p ∧ L' = (p, fltO c a) :: (Lp2 ++ R)) (fun u L' ⟨c, a, p, h1, h2, h3⟩ => ⟨(p, fltO c a) :: (Lp2 ++ R), by rw [h3]; exact .cons_cons _ (.append (.refl _) (.cons _ (.refl _))), c, a, p, h1, h2, rfl⟩)).perm List.perm_middle (fun v L' h => ⟨_, .refl _, h⟩) (fun v L' h => ⟨_, .refl _, h⟩)) ?_ ?_
  rotate_left
  · rintro _ _ ⟨c, a, p, hm, rfl, rfl⟩
    have hgt : ¬ uVal l s.1 ≤ most := fun h => by rw [decide_eq_true (by omega)] at hm; cases hm
    rw [decide_eq_false (by omega)] at hm
    simp only [Bool.false_eq_true, if_false, Option.some.injEq, Prod.mk.injEq] at hm
    obtain ⟨rfl, rfl⟩ := hm
    have hat : s2.2 = s.1 := by
      have h1 : getStp l .nn (s.1, s.1) = .ok s2 (.int .u64 (uVal l s.1)) := hs
      unfold getStp at h1; rw [e0] at h1; injection h1 with h2 _; exact (congrArg Prod.snd h2).symm
    exact ⟨_, rfl, 4, s2.2, p, s2, Lp2, cs, by unfold prl; rw [e0]; simp only [PR.bind]; rw [if_neg hgt, hat], rfl, by rw [set_same hR], hM2, rfl⟩
  rintro _ _ ⟨rfl, rfl, hm⟩
  have hle : uVal l s.1 ≤ most := by
    rcases Nat.lt_or_ge most (uVal l s.1) with h | h
    · rw [decide_eq_false (by omega)] at hm; cases hm
    · exact h
  have hX0 : (Lp2 ++ ((mb, Obj.cells #[Value.int .u64 (uVal l s.1)] 23 (0, 0)) :: R))[Lp2.length]? = some _ := get_app (A := Lp2) (i := 0) rfl
  repeat (first | refine RQr ?_ | (refine RX ?_; (first | refine QW_of (Qt_nilCheck_m rfl) ?_)) | (refine OX ?_; (first | (refine OE ?_; try intro _)); try refine SD ?_) | refine RC0 ?_ | refine RU ?_ | refine WC_block (id := 1) ?_ | refine WC_draw_all (id := 9) 8 (Cs [0,1,2,3,4] <| .must 5 <| .must 6 <| .calm 7 <| .must 8 <| .done) mixed (by kernel_rfl) ?_ | refine WC_region ?_)
  have hset0 : R.set i (b, Obj.cells (cs.setIfInBounds off (.slice none 0 0)) E fr) = R := by rw [set_idem hc, set_same hR]
  obtain ⟨n, hn⟩ : ∃ n, n = uVal l s.1 := ⟨_, rfl⟩
  rw [← hn]
  rw [← hn] at hle
  have hprl : prl l most entryF s.1 = prn l entryF n s2.1 := by unfold prl; rw [e0]; simp only [PR.bind]; rw [← hn, if_pos hle]
  rw [hprl]
  refine WC_block (WC_wk [(27, .int .u64 0), (26, .int .u64 (n : Nat)), (0, getV gb), (1, .pointer (some ⟨b, off, none⟩)), (3, .func (.func 57) #[] #[])] ⟨rfl, rfl, rfl, rfl, rfl, trivial⟩ ?_)
  refine WC_dropL (Lp2 ++ R) (.append (.refl _) (.cons _ (.refl _))) ?_
  refine WC_loop (fun m σ => ∃ (j : Nat) (sj : Nat × Nat) (Lpj Tj : List (Nat × Obj)) (vj : Value) (vssj : List (List Value)), m = n - j ∧ j ≤ n ∧ GMem gb rb l sj Lpj ∧ Buf 157 10 vj Tj j vssj.flatten ∧ vssj.length = j ∧ prn l entryF n s2.1 = (prn l entryF (n - j) sj.1).bind (fun vs b => .ok (vssj ++ vs) b) ∧ σ = ⟨[(27, .int .u64 (j : Nat)), (26, .int .u64 (n : Nat)), (0, getV gb), (1, .pointer (some ⟨b, off, none⟩)), (3, .func (.func 57) #[] #[])], [], Lpj ++ (Tj ++ R.set i (b, Obj.cells (cs.setIfInBounds off vj) E fr))⟩) n ⟨0, s2, Lp2, [], .slice none 0 0, [], by omega, by omega, hM2, Buf.nil _ _, rfl, by
    show _ = (prn l entryF n s2.1).bind _
    cases prn l entryF n s2.1 <;> rfl, by rw [hset0]; rfl⟩ ?_
  rintro m σ ⟨j, sj, Lpj, Tj, vj, vssj, rfl, hj, hMj, hbuf, hvl, hp, rfl⟩
  by_cases hlt : j < n
  · have d1 : decide (((j : Nat) : Int) < ((n : Nat) : Int)) = true := decide_eq_true (by omega)
    have hwj0 : IntKind.u64.wrap ((j : Nat) : Int) = ((j : Nat) : Int) := wU64 (by omega) (by omega)
    have d2 : (((j : Nat) : Int) == IntKind.u64.wrap ((j : Nat) : Int)) = true := by rw [hwj0]; simp
    have hwj : IntKind.u64.wrap (((j : Nat) : Int) + 1) = ((j + 1 : Nat) : Int) := by rw [wU64 (by omega) (by omega)]; omega
    obtain ⟨ag, cap, rfl, _⟩ := hbuf.val
    have hXj := get_app (A := Lpj) (get_app (A := Tj) (get_set_self hR (b, Obj.cells (cs.setIfInBounds off (.slice ag j cap)) E fr)))
    have hvj : (cs.setIfInBounds off (.slice ag j cap))[off]? = some (.slice ag j cap) := by rw [Array.getElem?_setIfInBounds_self_of_lt hz]
    have i0 : 0 ≤ ((j : Nat) : Int) := by omega
    have i1 : ((j : Nat) : Int) < ((j + 1 : Nat) : Int) := by omega
    repeat (first | refine RQ ?_ | (refine WL_Q ?_; (first | refine QW_of (Qt_nilCheck_m rfl) ?_)) | (refine RE ?_; try intro _) | refine RC ?_ | refine WG 0 ?_ | refine WG 1 ?_ | refine WG 2 ?_ | refine WG 3 ?_ | refine WG 4 ?_ | refine WG 5 ?_ | refine WG 6 ?_ | refine WG 7 ?_ | refine WG 8 ?_ | refine WG 10 ?_ | refine WG 11 ?_)
    rename_i zb
    have hsub : ((zb, Obj.cells zc157 157 (0, 0)) :: (Lpj ++ R.set i (b, Obj.cells (cs.setIfInBounds off (.slice ag j cap)) E fr))).Sublist ((zb, Obj.cells zc157 157 (0, 0)) :: (Lpj ++ (Tj ++ R.set i (b, Obj.cells (cs.setIfInBounds off (.slice ag j cap)) E fr)))) := .cons_cons _ (.append (.refl _) (List.sublist_append_right _ _))
    have hXz : ((zb, Obj.cells zc157 157 (0, 0)) :: (Lpj ++ R.set i (b, Obj.cells (cs.setIfInBounds off (.slice ag j cap)) E fr)))[(Lpj.length + i) + 1]? = some (b, .cells (cs.setIfInBounds off (.slice ag j cap)) E fr) := get_app (A := Lpj) (get_set_self hR _)
    refine WC_draw_sub (id := 9) 8 (Cs [0,1,2,3,4] <| .must 5 <| .must 6 <| .calm 7 <| .must 8 <| .done) mixed (by kernel_rfl) (hsub) ?_
    repeat (first | refine RQr ?_ | (refine RX ?_; (first | refine QW_of (Qt_nilCheck_m rfl) ?_)) | ((first | refine WL_op rfl ?_ | refine WR_late rfl rfl rfl ?_ | refine WR_op rfl rfl ?_); (first | (refine OE ?_; try intro _)); try refine SD ?_) | refine RC ?_ | refine RU ?_ | refine WC_draw_all (id := 9) 8 (Cs [0,1,2,3,4] <| .must 5 <| .must 6 <| .calm 7 <| .must 8 <| .done) mixed (by kernel_rfl) ?_ | refine WG 0 ?_ | refine WG 1 ?_ | refine WG 2 ?_ | refine WG 3 ?_ | refine WG 4 ?_ | refine WG 5 ?_ | refine WG 6 ?_ | refine WG 7 ?_ | refine WG 8 ?_ | refine WG 11 ?_)
    rename_i qb
    refine WR_op rfl rfl (OW_append_buf (A := (qb, Obj.cells zc157 157 (0, 0)) :: (zb, Obj.cells zc157 157 (0, 0)) :: Lpj) rfl rfl rfl rfl rfl hbuf (zEnt_src 0 rfl) (by omega) (by simp only [maxLen]; omega) (by omega) fun v' T' hb' => ?_)
    obtain ⟨g', goff, gcur, ⟨gcap, rfl, hown⟩, rfl⟩ := hb'.full' (by omega)
    refine ⟨sub_mem (show ((zb, Obj.cells zc157 157 (0, 0)) :: (Lpj ++ R.set i (b, Obj.cells (cs.setIfInBounds off (.slice ag j cap)) E fr))).Sublist ((qb, Obj.cells zc157 157 (0, 0)) :: (zb, Obj.cells zc157 157 (0, 0)) :: (Lpj ++ ([(g', Obj.cells gcur 157 (0, 0))] ++ R.set i (b, Obj.cells (cs.setIfInBounds off (.slice ag j cap)) E fr)))) from .cons _ (.cons_cons _ (.append (.refl _) (List.sublist_append_right _ _)))), ?_⟩
    repeat (first | refine RQr ?_ | (refine RX ?_; (first | refine QW_of (Qt_nilCheck_m rfl) ?_)) | ((first | refine WL_op rfl ?_ | refine WR_late rfl rfl rfl ?_ | refine WR_op rfl rfl ?_); (first | (refine OE ?_; try intro _)); try refine SD ?_) | refine RC ?_ | refine RU ?_ | refine WC_draw_all (id := 9) 8 (Cs [0,1,2,3,4] <| .must 5 <| .must 6 <| .calm 7 <| .must 8 <| .done) mixed (by kernel_rfl) ?_ | refine WG 0 ?_ | refine WG 1 ?_ | refine WG 2 ?_ | refine WG 3 ?_ | refine WG 4 ?_ | refine WG 5 ?_ | refine WG 6 ?_ | refine WG 7 ?_ | refine WG 8 ?_ | refine WG 11 ?_)
    have hXn : ((qb, Obj.cells zc157 157 (0, 0)) :: (zb, Obj.cells zc157 157 (0, 0)) :: (Lpj ++ ([(g', Obj.cells gcur 157 (0, 0))] ++ R.set i (b, Obj.cells (cs.setIfInBounds off (.slice ag j cap)) E fr))))[(Lpj.length + (1 + i)) + 2]? = some (b, .cells (cs.setIfInBounds off (.slice ag j cap)) E fr) := get_app (A := Lpj) (get_app (A := [(g', Obj.cells gcur 157 (0, 0))]) (get_set_self hR _))
    refine WR_late rfl rfl rfl (OW_store1F (v := .slice (some ⟨g', goff, none⟩) (j + 1) gcap) rfl _ hXn (by simpa using hz) hfr (WR_nil ?_))
    have hL : ((qb, Obj.cells zc157 157 (0, 0)) :: (zb, Obj.cells zc157 157 (0, 0)) :: (Lpj ++ ([(g', Obj.cells gcur 157 (0, 0))] ++ R.set i (b, Obj.cells (cs.setIfInBounds off (.slice ag j cap)) E fr)))).set ((Lpj.length + (1 + i)) + 2) (b, Obj.cells ((cs.setIfInBounds off (.slice ag j cap)).setIfInBounds off (.slice (some ⟨g', goff, none⟩) (j + 1) gcap)) E fr) = (qb, Obj.cells zc157 157 (0, 0)) :: (zb, Obj.cells zc157 157 (0, 0)) :: (Lpj ++ ([(g', Obj.cells gcur 157 (0, 0))] ++ R.set i (b, Obj.cells (cs.setIfInBounds off (.slice (some ⟨g', goff, none⟩) (j + 1) gcap)) E fr))) := by
      rw [List.set_cons_succ, List.set_cons_succ, set_app, show 1 + i = [(g', Obj.cells gcur 157 (0, 0))].length + i from rfl, set_app, List.set_set, set_twice]
    have hsubL := ((List.Sublist.refl (Lpj ++ ([(g', Obj.cells gcur 157 (0, 0))] ++ R.set i (b, Obj.cells (cs.setIfInBounds off (.slice (some ⟨g', goff, none⟩) (j + 1) gcap)) E fr)))).cons (zb, Obj.cells zc157 157 (0, 0))).cons (qb, Obj.cells zc157 157 (0, 0))
    rw [← hL] at hsubL
    repeat (first | refine RQr ?_ | (refine RX ?_; (first | refine QW_of (Qt_nilCheck_m rfl) ?_)) | (refine OX ?_; (first | (refine OE ?_; try intro _)); try refine SD ?_) | refine RC ?_ | refine RU ?_ | refine WC_draw_all (id := 9) 8 (Cs [0,1,2,3,4] <| .must 5 <| .must 6 <| .calm 7 <| .must 8 <| .done) mixed (by kernel_rfl) ?_ | refine WG 0 ?_ | refine WG 1 ?_ | refine WG 2 ?_ | refine WG 3 ?_ | refine WG 4 ?_ | refine WG 5 ?_ | refine WG 6 ?_ | refine WG 7 ?_ | refine WG 8 ?_ | refine WG 11 ?_)
    refine WC_dropL _ hsubL ?_
    have hvn : (cs.setIfInBounds off (.slice (some ⟨g', goff, none⟩) (j + 1) gcap))[off]? = some (.slice (some ⟨g', goff, none⟩) (j + 1) gcap) := by rw [Array.getElem?_setIfInBounds_self_of_lt hz]
    have hXm := get_app (A := Lpj) (get_app (A := [(g', Obj.cells gcur 157 (0, 0))]) (get_set_self hR (b, Obj.cells (cs.setIfInBounds off (.slice (some ⟨g', goff, none⟩) (j + 1) gcap)) E fr)))
    repeat (first | refine RQr ?_ | (refine RX ?_; (first | refine QW_of (Qt_nilCheck_m rfl) ?_)) | (refine OX ?_; (first | (refine OE ?_; try intro _)); try refine SD ?_) | refine RC ?_ | refine RU ?_ | refine WC_draw_all (id := 9) 8 (Cs [0,1,2,3,4] <| .must 5 <| .must 6 <| .calm 7 <| .must 8 <| .done) mixed (by kernel_rfl) ?_ | refine WC_region ?_)
    refine WL_op rfl ?_
    have hfl : vssj.flatten.length = j * 10 := hbuf.len
    have hlz : Lies gcur (goff + j * 10) zEnt := fun q v hq => by
      have := hown.at_ (j * 10 + q) v (by rw [List.getElem?_append_right (by omega), hfl, show j * 10 + q - j * 10 = q by omega]; exact hq)
      rwa [← Nat.add_assoc] at this
    have hC := entry_flat (getM hl9) sj Lpj ([(g', Obj.cells gcur 157 (0, 0))] ++ R.set i (b, Obj.cells (cs.setIfInBounds off (.slice (some ⟨g', goff, none⟩) (j + 1) gcap)) E fr)) 0 g' gcur 157 (0, 0) (goff + j * 10) zEnt hMj (fun q hq => by cases hq) trivial rfl zEnt_ok hlz (Free.zero _ _)
    refine OW_callE rfl (hC.dropP (Rp' := fun u L' => ∃ c a p s' Lp', prs l entryF sj.1 = .bad c a ∧ u = flt p ∧ L' = (p, fltO c a) :: (Lp' ++ R.set i (b, Obj.cells (cs.setIfInBounds off (.slice (some ⟨g', goff, none⟩) (j + 1) gcap)) E fr)) ∧ GMem gb rb l s' Lp') (fun u L' ⟨c, a, p, s', Lp', cur', h1, h2, h3, h4, _⟩ => ⟨(p, fltO c a) :: (Lp' ++ R.set i (b, Obj.cells (cs.setIfInBounds off (.slice (some ⟨g', goff, none⟩) (j + 1) gcap)) E fr)), by rw [h3]; exact .cons_cons _ (.append (.refl _) (.cons _ (.refl _))), c, a, p, s', Lp', get_stps_bad zEnt_ok h1, h2, rfl, h4⟩)) ?_ ?_
    rotate_left
    · rintro _ _ ⟨c, a, p, s', Lp', h1, rfl, rfl, h4⟩
      exact ⟨_, rfl, c, a, p, s', Lp', cs.setIfInBounds off (.slice (some ⟨g', goff, none⟩) (j + 1) gcap), prn_stop hp hlt h1, rfl, rfl, h4, by simp⟩
    rintro _ _ ⟨rfl, s', us, Lp', cur', h1, rfl, h3, h4, _⟩
    have e := get_stps_ok zEnt_ok h1
    have hul : us.length = 10 := (getW gb rb l).stps_len h1 zEnt_ok
    repeat (first | refine RQr ?_ | (refine RX ?_; (first | refine QW_of (Qt_nilCheck_m rfl) ?_)) | (refine OX ?_; (first | (refine OE ?_; try intro _)); try refine SD ?_) | refine RC ?_ | refine RU ?_ | refine WC_draw_all (id := 9) 8 (Cs [0,1,2,3,4] <| .must 5 <| .must 6 <| .calm 7 <| .must 8 <| .done) mixed (by kernel_rfl) ?_ | refine WC_region ?_)
    rw [hwj]
    exact ⟨_, _, by omega, ⟨j + 1, s', Lp', [(g', Obj.cells cur' 157 (0, 0))], .slice (some ⟨g', goff, none⟩) (j + 1) gcap, vssj ++ [us], rfl, by omega, h3, .inr ⟨g', goff, gcap, cur', rfl, rfl, by
      have := own_upd hown hfl h4 hul
      simpa using this⟩, by simp [hvl], prn_step hp hlt e, rfl⟩, ⟨rfl, rfl, rfl, rfl, rfl, trivial⟩, rfl, .refl _⟩
  · have d1 : decide (((j : Nat) : Int) < ((n : Nat) : Int)) = false := decide_eq_false (by omega)
    have hjn : n - j = 0 := by omega
    rw [hjn] at hp
    have hp' : prn l entryF n s2.1 = .ok vssj sj.1 := by rw [hp]; simp [prn, PR.bind]
    subst hvl
    repeat (first | refine RQr ?_ | (refine RX ?_; (first | refine QW_of (Qt_nilCheck_m rfl) ?_)) | (refine OX ?_; (first | (refine OE ?_; try intro _)); try refine SD ?_) | refine RC ?_ | refine RU ?_ | refine WC_draw_all (id := 9) 8 (Cs [0,1,2,3,4] <| .must 5 <| .must 6 <| .calm 7 <| .must 8 <| .done) mixed (by kernel_rfl) ?_ | refine WC_region ?_)
    exact ⟨_, _, Res0 rfl, .refl _, rfl, vssj, sj, Lpj, vj, Tj, hp', rfl, hMj, hbuf⟩
end Go.Proofs.YtgimodceldoniaaGreatDoor
namespace Go.Proofs.YtgimodceldoniaaGreatDoor
open Go.RowKit
attribute [local irreducible] Fn WC WL WR OW Qt YieldFn QW FnP FnD FnE
theorem len_app {xs ys : List Value} {n m : Nat} (h : xs.length = n) (k : ys.length = m) : (xs ++ ys).length = n + m := by rw [List.length_append, h, k]
theorem oks1 {k : Fk} {v : Value} (h : k.ok v) : Oks [k] [v] := ⟨h, trivial⟩
theorem getF {gb rb : Nat} {l : List UInt8} {f : FuncId} {a0 : Value} {fs : List Fk} {s : Nat × Nat} {Lp R : List (Nat × Obj)} {i b : Nat} {cs : Array Value} {E : TypeId} {fr : Nat × Nat} {off : Nat} {vs : List Value} (hC : Flat (getW gb rb l) f a0 fs) (hM : GMem gb rb l s Lp) (hR : R[i]? = some (b, .cells cs E fr)) (hv : Oks fs vs) (hl : Lies cs off vs) (hfr : Free fr off fs.length) :
    FnE Tryz.prog f [a0, .pointer (some ⟨b, off, none⟩)] (Lp ++ R)
      (fun v L' => v = .tuple #[] ∧ ∃ us s' Lp' cs', prs l fs s.1 = .ok us s'.1 ∧ L' = Lp' ++ R.set i (b, .cells cs' E fr) ∧ GMem gb rb l s' Lp' ∧ Upd cs cs' off us ∧ us.length = fs.length)
      (fun u L' => ∃ c a p s' Lp' cs', prs l fs s.1 = .bad c a ∧ u = flt p ∧ L' = (p, fltO c a) :: (Lp' ++ R.set i (b, .cells cs' E fr)) ∧ GMem gb rb l s' Lp' ∧ cs'.size = cs.size) :=
  (hC s Lp R i b cs E fr off vs hM (fun q hq => by cases hq) trivial hR hv hl hfr).mono (fun v L' ⟨h0, s', us, Lp', cs', h1, h2, h3, h4, _⟩ => ⟨h0, us, s', Lp', cs', get_stps_ok hv h1, h2, h3, h4, (getW gb rb l).stps_len h1 hv⟩) (fun u L' ⟨c, a, p, s', Lp', cs', h1, h2, h3, h4, h5⟩ => ⟨c, a, p, s', Lp', cs', get_stps_bad hv h1, h2, h3, h4, h5⟩)
section
variable {gb rb : Nat} {l : List UInt8} (hl9 : l.length ≤ 1000000000)
include hl9
set_option maxHeartbeats 4000000 in
theorem gcmd {s : Nat × Nat} {Lp R : List (Nat × Obj)} {i b : Nat} {cs : Array Value} {E : TypeId} {fr : Nat × Nat} {off : Nat} {ch ct : List Value} (hM : GMem gb rb l s Lp) (hR : R[i]? = some (b, .cells cs E fr)) (hch : Oks chF ch) (hct : Oks ctF ct) (hl : Lies cs off (ch ++ (.slice none 0 0 :: ct))) (hfr : Free fr off 10) :
    FnE Tryz.prog 46 [getV gb, .pointer (some ⟨b, off, none⟩)] (Lp ++ R)
      (fun v L' => v = .tuple #[] ∧ ∃ x s' Lp' v' T cs', prCmd l s.1 = .ok x s'.1 ∧ L' = Lp' ++ (T ++ R.set i (b, .cells cs' E fr)) ∧ GMem gb rb l s' Lp' ∧ Buf 3 1 v' T x.2.1.length x.2.1.flatten ∧ Upd cs cs' off (x.1 ++ (v' :: x.2.2)))
      (fun u L' => ∃ c a p s' Lp' T cs', prCmd l s.1 = .bad c a ∧ u = flt p ∧ L' = (p, fltO c a) :: (Lp' ++ (T ++ R.set i (b, .cells cs' E fr))) ∧ GMem gb rb l s' Lp' ∧ cs'.size = cs.size) := by
  obtain ⟨c0, us, rfl, h0, hch'⟩ := hch.split
  obtain ⟨c1, us, rfl, h1, hch''⟩ := hch'.split
  obtain rfl := hch''.nil
  obtain ⟨t0, us, rfl, k0, q⟩ := hct.split
  obtain ⟨t1, us, rfl, k1, q⟩ := q.split
  obtain ⟨t2, us, rfl, k2, q⟩ := q.split
  obtain ⟨t3, us, rfl, k3, q⟩ := q.split
  obtain ⟨t4, us, rfl, k4, q⟩ := q.split
  obtain ⟨t5, us, rfl, k5, q⟩ := q.split
  obtain ⟨t6, us, rfl, k6, q⟩ := q.split
  obtain rfl := q.nil
  clear hch hct hch' hch''
  have ih := (getM (gb := gb) (rb := rb) hl9).ih
  have jn := (getM (gb := gb) (rb := rb) hl9).jn
  have im := (getM (gb := gb) (rb := rb) hl9).im
  have iw := (getM (gb := gb) (rb := rb) hl9).iw
  have it := (getM (gb := gb) (rb := rb) hl9).it
  have qw : methX Tryz.prog 122 "anabranch/codec.whole" = some 102 := (getM (gb := gb) (rb := rb) hl9).mw
  have qt : methX Tryz.prog 122 "anabranch/codec.truth" = some 101 := (getM (gb := gb) (rb := rb) hl9).mt
  have qm : methX Tryz.prog 122 "anabranch/codec.must" = some 98 := (getM (gb := gb) (rb := rb) hl9).mm
  have hop : Oks opF [t2, t3, t4, t5] := ⟨k2, k3, k4, k5, trivial⟩
  have hch : ∀ a, prs l chF a = (prs l [.ww] a).bind fun x b => (prs l [.ww] b).bind fun y c => .ok (x ++ y) c := fun a => by rw [show chF = [.ww] ++ [.ww] from rfl, prs_app]
  have hct : ∀ a, prs l ctF a = (prs l [.ww] a).bind fun x b => ((prs l [.ww] b).bind fun x b => ((prs l opF b).bind fun x b => (prs l [.ww] b).bind fun y c => .ok (x ++ y) c).bind fun y c => .ok (x ++ y) c).bind fun y c => .ok (x ++ y) c := fun a => by
    rw [show ctF = [.ww] ++ ([.ww] ++ (opF ++ [.ww])) from rfl, prs_app]
    simp only [prs_app]
  refine FnE_enter Tryz.func46 rfl Tryz.ntmps46 rfl fun g => ?_
  repeat (first | refine RQ ?_ | (refine WL_Q ?_; (first | refine QW_of (Qt_nilCheck_m rfl) ?_)) | refine RC ?_ | refine WG 0 ?_)
  refine WL_op rfl ?_
  refine OW_callE rfl (getF (fs := [.ww]) (small_flat (getM (gb := gb) (rb := rb) hl9)) hM hR (oks1 h0) (hl.cut 0 1) (hfr.sub 0 1 (by decide))) ?_ ?_
  rotate_left
  · rintro _ _ ⟨c, a, p, s', Lp', cs', h1, rfl, rfl, h4, h5⟩
    exact ⟨_, rfl, c, a, p, s', Lp', [], cs', by simp only [prCmd, hch, PR.bind, h1], rfl, rfl, h4, h5⟩
  rintro _ _ ⟨rfl, us0, s0, Lp0, c0, q0, rfl, hM0, u0, n0⟩
  have U0 := u0
  have N0 : us0.length = 1 := n0
  repeat (first | refine RQ ?_ | (refine WL_Q ?_; (first | refine QW_of (Qt_nilCheck_m rfl) ?_)) | refine RC ?_ | refine WG 0 ?_)
  repeat (first | refine RQ ?_ | (refine WL_Q ?_; (first | refine QW_of (Qt_nilCheck_m rfl) ?_)) | refine RC ?_ | refine WG 0 ?_)
  refine WC_draw_sub (id := 1) 8 (Cs [0,1,2,3,4,5,6] <| .must 7 <| .done) mixed (by kernel_rfl) (List.nil_sublist _) ?_
  repeat (first | refine RQr ?_ | (refine RX ?_; (first | refine QW_of (Qt_nilCheck_m rfl) ?_)) | refine RC ?_ | refine RU ?_ | refine WC_draw_all (id := 1) 8 (Cs [0,1,2,3,4,5,6] <| .must 7 <| .done) mixed (by kernel_rfl) ?_ | refine WG 0 ?_)
  refine WR_op rfl rfl ?_
  refine OW_invE (getM (gb := gb) (rb := rb) hl9).mw rfl (getF (fs := [.ww]) (get_whole hl9) hM0 (get_set_self hR _) (oks1 h1) (U0.keep (hl.cut 1 1) (.inr (by rw [N0]; exact Nat.le_refl _))) (hfr.sub 1 1 (by decide))) ?_ ?_
  rotate_left
  · rintro _ _ ⟨c, a, p, s', Lp', cs', h1, rfl, rfl, h4, h5⟩
    try rw [List.set_set]
    exact ⟨_, rfl, c, a, p, s', Lp', [], cs', by simp only [prCmd, hch, PR.bind, q0, h1], rfl, rfl, h4, h5.trans U0.size⟩
  rintro _ _ ⟨rfl, us1, s1, Lp1, c1, q1, rfl, hM1, u1, n1⟩
  rw [List.set_set]
  have U1 := U0.app u1 (by rw [N0])
  have N1 : (us0 ++ us1).length = 2 := len_app N0 n1
  refine ⟨(fun q hq => (by cases hq)), ?_⟩
  repeat (first | refine RQr ?_ | (refine RX ?_; (first | refine QW_of (Qt_nilCheck_m rfl) ?_)) | refine RC ?_ | refine RU ?_ | refine WC_draw_all (id := 1) 8 (Cs [0,1,2,3,4,5,6] <| .must 7 <| .done) mixed (by kernel_rfl) ?_ | refine WC_regB 3 ?_)
  refine WL_op rfl ?_
  refine OW_callE rfl (glist_int (most := 8) hl9 (by decide) hM1 (get_set_self hR _) ((U1.keep (hl.cut 2 1) (.inr (by rw [N1]; exact Nat.le_refl _))) 0 _ rfl) (hfr.sub 2 1 (by decide))) ?_ ?_
  rotate_left
  · rintro _ _ ⟨c, a, p, s', Lp', cs', h1, rfl, rfl, h4, h5⟩
    try rw [List.set_set]
    exact ⟨_, rfl, c, a, p, s', Lp', [], cs', by simp only [prCmd, hch, PR.bind, q0, q1, h1], rfl, rfl, h4, h5.trans U1.size⟩
  rintro _ _ ⟨rfl, vss, s2, Lp2, v', T, q2, rfl, hM2, hbuf⟩
  rw [List.set_set]
  have hz2 : off + 2 < c1.size := by
    rw [U1.size]
    exact (Array.getElem?_eq_some_iff.1 ((hl.cut 2 1) 0 _ rfl)).1
  obtain ⟨c2, hc2⟩ : ∃ c, c = c1.setIfInBounds (off + 2) v' := ⟨_, rfl⟩
  rw [← hc2]
  have u2 : Upd c1 c2 (off + 2) [v'] := by rw [hc2]; exact Upd.one v' hz2
  have U2 := U1.app u2 (by rw [N1])
  have N2 : (us0 ++ us1 ++ [v']).length = 3 := len_app N1 (show [v'].length = 1 from rfl)
  repeat (first | refine RQ ?_ | (refine WL_Q ?_; (first | refine QW_of (Qt_nilCheck_m rfl) ?_)) | refine RC ?_ | refine WG 2 ?_ | refine WG 3 ?_)
  refine WL_op rfl ?_
  refine OW_callE rfl (getF (fs := [.ww]) (small_flat (getM (gb := gb) (rb := rb) hl9)) hM2 (get_app (A := T) (get_set_self hR _)) (oks1 k0) (U2.keep (hl.cut 3 1) (.inr (by rw [N2]; exact Nat.le_refl _))) (hfr.sub 3 1 (by decide))) ?_ ?_
  rotate_left
  · rintro _ _ ⟨c, a, p, s', Lp', cs', h1, rfl, rfl, h4, h5⟩
    try rw [set_app, List.set_set]
    exact ⟨_, rfl, c, a, p, s', Lp', T, cs', by simp only [prCmd, hch, hct, PR.bind, q0, q1, q2, h1], rfl, rfl, h4, h5.trans U2.size⟩
  rintro _ _ ⟨rfl, us3, s3, Lp3, c3, q3, rfl, hM3, u3, n3⟩
  rw [set_app, List.set_set]
  have U3 := U2.app u3 (by rw [N2])
  have N3 : (us0 ++ us1 ++ [v'] ++ us3).length = 4 := len_app N2 n3
  repeat (first | refine RQ ?_ | (refine WL_Q ?_; (first | refine QW_of (Qt_nilCheck_m rfl) ?_)) | refine RC ?_ | refine WG 2 ?_ | refine WG 3 ?_ | refine WG 4 ?_)
  refine WL_op rfl ?_
  refine OW_callE rfl (getF (fs := [.ww]) (small_flat (getM (gb := gb) (rb := rb) hl9)) hM3 (get_app (A := T) (get_set_self hR _)) (oks1 k1) (U3.keep (hl.cut 4 1) (.inr (by rw [N3]; exact Nat.le_refl _))) (hfr.sub 4 1 (by decide))) ?_ ?_
  rotate_left
  · rintro _ _ ⟨c, a, p, s', Lp', cs', h1, rfl, rfl, h4, h5⟩
    try rw [set_app, List.set_set]
    exact ⟨_, rfl, c, a, p, s', Lp', T, cs', by simp only [prCmd, hch, hct, PR.bind, q0, q1, q2, q3, h1], rfl, rfl, h4, h5.trans U3.size⟩
  rintro _ _ ⟨rfl, us4, s4, Lp4, c4, q4, rfl, hM4, u4, n4⟩
  rw [set_app, List.set_set]
  have U4 := U3.app u4 (by rw [N3])
  have N4 : (us0 ++ us1 ++ [v'] ++ us3 ++ us4).length = 5 := len_app N3 n4
  repeat (first | refine RQ ?_ | (refine WL_Q ?_; (first | refine QW_of (Qt_nilCheck_m rfl) ?_)) | refine RC ?_ | refine WG 2 ?_ | refine WG 3 ?_ | refine WG 4 ?_ | refine WG 5 ?_)
  refine WL_op rfl ?_
  refine OW_callE rfl (getF (fs := opF) (op_flat (getM (gb := gb) (rb := rb) hl9)) hM4 (get_app (A := T) (get_set_self hR _)) hop (U4.keep (hl.cut 5 4) (.inr (by rw [N4]; exact Nat.le_refl _))) (hfr.sub 5 4 (by decide))) ?_ ?_
  rotate_left
  · rintro _ _ ⟨c, a, p, s', Lp', cs', h1, rfl, rfl, h4, h5⟩
    try rw [set_app, List.set_set]
    exact ⟨_, rfl, c, a, p, s', Lp', T, cs', by simp only [prCmd, hch, hct, PR.bind, q0, q1, q2, q3, q4, h1], rfl, rfl, h4, h5.trans U4.size⟩
  rintro _ _ ⟨rfl, us5, s5, Lp5, c5, q5, rfl, hM5, u5, n5⟩
  rw [set_app, List.set_set]
  have U5 := U4.app u5 (by rw [N4])
  have N5 : (us0 ++ us1 ++ [v'] ++ us3 ++ us4 ++ us5).length = 9 := len_app N4 n5
  repeat (first | refine RQ ?_ | (refine WL_Q ?_; (first | refine QW_of (Qt_nilCheck_m rfl) ?_)) | refine RC ?_ | refine WG 2 ?_ | refine WG 3 ?_ | refine WG 4 ?_ | refine WG 5 ?_ | refine WG 6 ?_)
  refine WL_op rfl ?_
  refine OW_callE rfl (getF (fs := [.ww]) (small_flat (getM (gb := gb) (rb := rb) hl9)) hM5 (get_app (A := T) (get_set_self hR _)) (oks1 k6) (U5.keep (hl.cut 9 1) (.inr (by rw [N5]; exact Nat.le_refl _))) (hfr.sub 9 1 (by decide))) ?_ ?_
  rotate_left
  · rintro _ _ ⟨c, a, p, s', Lp', cs', h1, rfl, rfl, h4, h5⟩
    try rw [set_app, List.set_set]
    exact ⟨_, rfl, c, a, p, s', Lp', T, cs', by simp only [prCmd, hch, hct, PR.bind, q0, q1, q2, q3, q4, q5, h1], rfl, rfl, h4, h5.trans U5.size⟩
  rintro _ _ ⟨rfl, us6, s6, Lp6, c6, q6, rfl, hM6, u6, n6⟩
  rw [set_app, List.set_set]
  have U6 := U5.app u6 (by rw [N5])
  have N6 : (us0 ++ us1 ++ [v'] ++ us3 ++ us4 ++ us5 ++ us6).length = 10 := len_app N5 n6
  repeat (first | refine RQ ?_ | (refine WL_Q ?_; (first | refine QW_of (Qt_nilCheck_m rfl) ?_)) | refine RC ?_ | refine WG 2 ?_ | refine WG 3 ?_ | refine WG 4 ?_ | refine WG 5 ?_ | refine WG 6 ?_)
  refine ⟨_, _, Res0 rfl, .refl _, rfl, (us0 ++ us1, vss, us3 ++ (us4 ++ (us5 ++ us6))), s6, Lp6, v', T, c6, by simp only [prCmd, hch, hct, PR.bind, q0, q1, q2, q3, q4, q5, q6], rfl, hM6, hbuf, ?_⟩
  simpa using U6
set_option maxHeartbeats 4000000 in
theorem gchunk {s : Nat × Nat} {Lp R : List (Nat × Obj)} {i b : Nat} {cs : Array Value} {E : TypeId} {fr : Nat × Nat} {off : Nat} {kh : List Value} (hM : GMem gb rb l s Lp) (hR : R[i]? = some (b, .cells cs E fr)) (hkh : Oks khF kh) (hl : Lies cs off (kh ++ [.slice none 0 0])) (hfr : Free fr off 4) :
    FnE Tryz.prog 47 [getV gb, .pointer (some ⟨b, off, none⟩)] (Lp ++ R)
      (fun v L' => v = .tuple #[] ∧ ∃ x s' Lp' v' T cs', prChunk l s.1 = .ok x s'.1 ∧ L' = Lp' ++ (T ++ R.set i (b, .cells cs' E fr)) ∧ GMem gb rb l s' Lp' ∧ Buf 157 10 v' T x.2.length x.2.flatten ∧ Upd cs cs' off (x.1 ++ [v']))
      (fun u L' => ∃ c a p s' Lp' T cs', prChunk l s.1 = .bad c a ∧ u = flt p ∧ L' = (p, fltO c a) :: (Lp' ++ (T ++ R.set i (b, .cells cs' E fr))) ∧ GMem gb rb l s' Lp' ∧ cs'.size = cs.size) := by
  obtain ⟨c0, us, rfl, h0, q⟩ := hkh.split
  obtain ⟨c1, us, rfl, h1, q⟩ := q.split
  obtain ⟨c2, us, rfl, h2, q⟩ := q.split
  obtain rfl := q.nil
  clear hkh
  have ih := (getM (gb := gb) (rb := rb) hl9).ih
  have jn := (getM (gb := gb) (rb := rb) hl9).jn
  have im := (getM (gb := gb) (rb := rb) hl9).im
  have iw := (getM (gb := gb) (rb := rb) hl9).iw
  have it := (getM (gb := gb) (rb := rb) hl9).it
  have qw : methX Tryz.prog 122 "anabranch/codec.whole" = some 102 := (getM (gb := gb) (rb := rb) hl9).mw
  have qt : methX Tryz.prog 122 "anabranch/codec.truth" = some 101 := (getM (gb := gb) (rb := rb) hl9).mt
  have qm : methX Tryz.prog 122 "anabranch/codec.must" = some 98 := (getM (gb := gb) (rb := rb) hl9).mm
  have hkh : ∀ a, prs l khF a = (prs l [.ww] a).bind fun x b => ((prs l [.ww] b).bind fun x b => (prs l [.tt] b).bind fun y c => .ok (x ++ y) c).bind fun y c => .ok (x ++ y) c := fun a => by
    rw [show khF = [.ww] ++ ([.ww] ++ [.tt]) from rfl, prs_app]
    simp only [prs_app]
  refine FnE_enter Tryz.func47 rfl Tryz.ntmps47 rfl fun g => ?_
  repeat (first | refine RQ ?_ | (refine WL_Q ?_; (first | refine QW_of (Qt_nilCheck_m rfl) ?_)) | refine RC ?_ | refine WG 0 ?_)
  refine WL_op rfl ?_
  refine OW_callE rfl (getF (fs := [.ww]) (small_flat (getM (gb := gb) (rb := rb) hl9)) hM hR (oks1 h0) (hl.cut 0 1) (hfr.sub 0 1 (by decide))) ?_ ?_
  rotate_left
  · rintro _ _ ⟨c, a, p, s', Lp', cs', h1, rfl, rfl, h4, h5⟩
    exact ⟨_, rfl, c, a, p, s', Lp', [], cs', by simp only [prChunk, hkh, PR.bind, h1], rfl, rfl, h4, h5⟩
  rintro _ _ ⟨rfl, us0, s0, Lp0, c0, q0, rfl, hM0, u0, n0⟩
  have U0 := u0
  have N0 : us0.length = 1 := n0
  repeat (first | refine RQ ?_ | (refine WL_Q ?_; (first | refine QW_of (Qt_nilCheck_m rfl) ?_)) | refine RC ?_ | refine WC_regB 2 ?_)
  refine WL_op rfl ?_
  refine OW_callE rfl (getF (fs := [.ww]) (small_flat (getM (gb := gb) (rb := rb) hl9)) hM0 (get_set_self hR _) (oks1 h1) (U0.keep (hl.cut 1 1) (.inr (by rw [N0]; exact Nat.le_refl _))) (hfr.sub 1 1 (by decide))) ?_ ?_
  rotate_left
  · rintro _ _ ⟨c, a, p, s', Lp', cs', h1, rfl, rfl, h4, h5⟩
    try rw [List.set_set]
    exact ⟨_, rfl, c, a, p, s', Lp', [], cs', by simp only [prChunk, hkh, PR.bind, q0, h1], rfl, rfl, h4, h5.trans U0.size⟩
  rintro _ _ ⟨rfl, us1, s1, Lp1, c1, q1, rfl, hM1, u1, n1⟩
  rw [List.set_set]
  have U1 := U0.app u1 (by rw [N0])
  have N1 : (us0 ++ us1).length = 2 := len_app N0 n1
  repeat (first | refine RQ ?_ | (refine WL_Q ?_; (first | refine QW_of (Qt_nilCheck_m rfl) ?_)) | refine RC ?_ | refine WC_regB 2 ?_)
  repeat (first | refine RQ ?_ | (refine WL_Q ?_; (first | refine QW_of (Qt_nilCheck_m rfl) ?_)) | refine RC ?_ | refine WC_regB 2 ?_)
  refine WC_draw_sub (id := 2) 8 (Cs [0,1,2,3,4,5,6] <| .must 7 <| .done) mixed (by kernel_rfl) (List.nil_sublist _) ?_
  repeat (first | refine RQr ?_ | (refine RX ?_; (first | refine QW_of (Qt_nilCheck_m rfl) ?_)) | refine RC ?_ | refine RU ?_ | refine WC_draw_all (id := 2) 8 (Cs [0,1,2,3,4,5,6] <| .must 7 <| .done) mixed (by kernel_rfl) ?_ | refine WC_regB 3 ?_)
  refine WR_op rfl rfl ?_
  refine OW_invE (getM (gb := gb) (rb := rb) hl9).mt rfl (getF (fs := [.tt]) (get_truth hl9) hM1 (get_set_self hR _) (oks1 h2) (U1.keep (hl.cut 2 1) (.inr (by rw [N1]; exact Nat.le_refl _))) (hfr.sub 2 1 (by decide))) ?_ ?_
  rotate_left
  · rintro _ _ ⟨c, a, p, s', Lp', cs', h1, rfl, rfl, h4, h5⟩
    try rw [List.set_set]
    exact ⟨_, rfl, c, a, p, s', Lp', [], cs', by simp only [prChunk, hkh, PR.bind, q0, q1, h1], rfl, rfl, h4, h5.trans U1.size⟩
  rintro _ _ ⟨rfl, us2, s2, Lp2, c2, q2, rfl, hM2, u2, n2⟩
  rw [List.set_set]
  have U2 := U1.app u2 (by rw [N1])
  have N2 : (us0 ++ us1 ++ us2).length = 3 := len_app N1 n2
  refine ⟨(fun q hq => (by cases hq)), ?_⟩
  repeat (first | refine RQr ?_ | (refine RX ?_; (first | refine QW_of (Qt_nilCheck_m rfl) ?_)) | refine RC ?_ | refine RU ?_ | refine WC_draw_all (id := 2) 8 (Cs [0,1,2,3,4,5,6] <| .must 7 <| .done) mixed (by kernel_rfl) ?_ | refine WC_region ?_)
  refine WL_op rfl ?_
  refine OW_callE rfl (glist_entry (most := 64) hl9 (by decide) hM2 (get_set_self hR _) ((U2.keep (hl.cut 3 1) (.inr (by rw [N2]; exact Nat.le_refl _))) 0 _ rfl) (hfr.sub 3 1 (by decide))) ?_ ?_
  rotate_left
  · rintro _ _ ⟨c, a, p, s', Lp', cs', h1, rfl, rfl, h4, h5⟩
    try rw [List.set_set]
    exact ⟨_, rfl, c, a, p, s', Lp', [], cs', by simp only [prChunk, hkh, PR.bind, q0, q1, q2, h1], rfl, rfl, h4, h5.trans U2.size⟩
  rintro _ _ ⟨rfl, vss, s3, Lp3, v', T, q3, rfl, hM3, hbuf⟩
  rw [List.set_set]
  have hz3 : off + 3 < c2.size := by
    rw [U2.size]
    exact (Array.getElem?_eq_some_iff.1 ((hl.cut 3 1) 0 _ rfl)).1
  obtain ⟨c3, hc3⟩ : ∃ c, c = c2.setIfInBounds (off + 3) v' := ⟨_, rfl⟩
  rw [← hc3]
  have u3 : Upd c2 c3 (off + 3) [v'] := by rw [hc3]; exact Upd.one v' hz3
  have U3 := U2.app u3 (by rw [N2])
  have N3 : (us0 ++ us1 ++ us2 ++ [v']).length = 4 := len_app N2 (show [v'].length = 1 from rfl)
  repeat (first | refine RQ ?_ | (refine WL_Q ?_; (first | refine QW_of (Qt_nilCheck_m rfl) ?_)) | refine RC ?_ | refine WG 0 ?_ | refine WG 1 ?_ | refine WG 3 ?_)
  refine ⟨_, _, Res0 rfl, .refl _, rfl, (us0 ++ (us1 ++ us2), vss), s3, Lp3, v', T, c3, by simp only [prChunk, hkh, PR.bind, q0, q1, q2, q3], rfl, hM3, hbuf, ?_⟩
  simpa using U3
end
end Go.Proofs.YtgimodceldoniaaGreatDoor
namespace Go.Proofs.YtgimodceldoniaaGreatDoor
open Go.RowKit
attribute [local irreducible] Fn WC WL WR OW Qt YieldFn QW FnP FnD FnE
theorem Upd.put {cs c1 c2 : Array Value} {off off' : Nat} {xs ys zs ys' : List Value} (U : Upd cs c1 off (xs ++ (ys ++ zs))) (u : Upd c1 c2 off' ys') (ho : off' = off + xs.length) (h : ys'.length = ys.length) : Upd cs c2 off (xs ++ (ys' ++ zs)) := by
  subst ho
  refine ⟨u.size.trans U.size, fun j x hj => ?_, fun j hj => ?_⟩
  · by_cases h1 : j < xs.length
    · rw [u.rest _ (.inl (by omega))]
      refine U.lies j x ?_
      rw [List.getElem?_append_left h1] at hj ⊢
      exact hj
    · rw [List.getElem?_append_right (by omega)] at hj
      by_cases h2 : j - xs.length < ys'.length
      · rw [List.getElem?_append_left h2] at hj
        have := u.lies _ x hj
        rwa [show off + xs.length + (j - xs.length) = off + j by omega] at this
      · rw [List.getElem?_append_right (by omega)] at hj
        rw [u.rest _ (.inr (by omega))]
        refine U.lies j x ?_
        rw [List.getElem?_append_right (by omega), List.getElem?_append_right (by omega), ← h]
        exact hj
  · simp only [List.length_append] at hj
    rw [u.rest _ (by omega), U.rest _ (by simp only [List.length_append]; omega)]
def MV.cellsV (m : MV) (vb ve : Value) : List Value :=
  [.int .i64 m.kind, .int .i64 m.ver] ++ (m.rc ++ ([.int .i64 m.time, .int .i64 m.num] ++ ((m.ch ++ (vb :: m.ct)) ++ (m.kh ++ [ve]))))
abbrev nilS : Value := .slice none 0 0
def zMsg : List Value := MV.none.cellsV nilS nilS
theorem prs_ww {l : List UInt8} {a : Nat} : prs l [.ww] a = (prI l a).bind fun x b => .ok [.int .i64 x] b := by
  simp only [prs, Fk.pr, prI]
  split <;> rfl
theorem prMsg_bad0 {l : List UInt8} {a c e : Nat} (h : prI l a = .bad c e) : prMsg l a = .bad c e := by unfold prMsg; rw [h]; rfl
theorem prMsg_kind {l : List UInt8} {a a1 : Nat} {k : Int} (h : prI l a = .ok k a1) (hk : ¬ (0 ≤ k ∧ k ≤ 4)) : prMsg l a = .bad 6 a := by
  unfold prMsg; rw [h]; simp only [PR.bind]; rw [if_neg hk]
theorem prMsg_bad1 {l : List UInt8} {a a1 c e : Nat} {k : Int} (h : prI l a = .ok k a1) (hk : 0 ≤ k ∧ k ≤ 4) (h2 : prI l a1 = .bad c e) : prMsg l a = .bad c e := by
  unfold prMsg; rw [h]; simp only [PR.bind]; rw [if_pos hk, h2]
theorem prMsg_body {l : List UInt8} {a a1 a2 : Nat} {k v : Int} (h : prI l a = .ok k a1) (hk : 0 ≤ k ∧ k ≤ 4) (h2 : prI l a1 = .ok v a2) : prMsg l a = prBody l k v a2 := by
  unfold prMsg; rw [h]; simp only [PR.bind]; rw [if_pos hk, h2]
theorem getI {gb rb : Nat} {l : List UInt8} {f : FuncId} {a0 : Value} {s : Nat × Nat} {Lp R : List (Nat × Obj)} {i b : Nat} {cs : Array Value} {E : TypeId} {fr : Nat × Nat} {off : Nat} {y : Int} (hC : Flat (getW gb rb l) f a0 [.ww]) (hM : GMem gb rb l s Lp) (hR : R[i]? = some (b, .cells cs E fr)) (hy : i64r y) (hl : Lies cs off [.int .i64 y]) (hfr : Free fr off 1) :
    FnE Tryz.prog f [a0, .pointer (some ⟨b, off, none⟩)] (Lp ++ R)
      (fun v L' => v = .tuple #[] ∧ ∃ x s' Lp' cs', prI l s.1 = .ok x s'.1 ∧ s'.2 = s.2 ∧ L' = Lp' ++ R.set i (b, .cells cs' E fr) ∧ GMem gb rb l s' Lp' ∧ Upd cs cs' off [.int .i64 x])
      (fun u L' => ∃ c a p s' Lp' cs', prI l s.1 = .bad c a ∧ u = flt p ∧ L' = (p, fltO c a) :: (Lp' ++ R.set i (b, .cells cs' E fr)) ∧ GMem gb rb l s' Lp' ∧ cs'.size = cs.size) := by
  have hv : Oks [.ww] [.int .i64 y] := ⟨⟨_, rfl, hy.1, hy.2⟩, trivial⟩
  refine (hC s Lp R i b cs E fr off _ hM (fun q hq => by cases hq) trivial hR hv hl hfr).mono ?_ ?_
  · rintro _ _ ⟨h0, s', us, Lp', cs', h1, h2, h3, h4, _⟩
    have e := get_stps_ok hv h1
    rw [prs_ww] at e
    have hs2 : s'.2 = s.2 := by
      simp only [Wy.stps] at h1
      cases h5 : (getW gb rb l).stp .ww s (.int .i64 y) with
      | bad c a => rw [h5] at h1; cases h1
      | ok s1 v1 =>
        rw [h5] at h1
        injection h1 with h6 _
        rw [← h6]
        have h7 : getStp l .ww s = .ok s1 v1 := h5
        unfold getStp at h7
        split at h7
        · injection h7 with h8 _; exact (congrArg Prod.snd h8).symm
        · cases h7
    cases h5 : prI l s.1 with
    | bad c a => rw [h5] at e; cases e
    | ok x b =>
      rw [h5] at e
      simp only [PR.bind, PR.ok.injEq] at e
      obtain ⟨rfl, rfl⟩ := e
      exact ⟨h0, x, s', Lp', cs', rfl, hs2, h2, h3, h4⟩
  · rintro _ _ ⟨c, a, p, s', Lp', cs', h1, h2, h3, h4, h5'⟩
    have e := get_stps_bad hv h1
    rw [prs_ww] at e
    cases h5 : prI l s.1 with
    | ok x b => rw [h5] at e; cases e
    | bad c' a' =>
      rw [h5] at e
      simp only [PR.bind, PR.bad.injEq] at e
      obtain ⟨rfl, rfl⟩ := e
      exact ⟨_, _, p, s', Lp', cs', rfl, h2, h3, h4, h5'⟩
section
variable {gb rb : Nat} {l : List UInt8} (hl9 : l.length ≤ 1000000000)
include hl9
set_option maxHeartbeats 4000000 in
theorem gmsg {s : Nat × Nat} {Lp R : List (Nat × Obj)} {i b : Nat} {cs : Array Value} {E : TypeId} {fr : Nat × Nat} {off : Nat} (hM : GMem gb rb l s Lp) (hR : R[i]? = some (b, .cells cs E fr)) (hl : Lies cs off zMsg) (hfr : Free fr off 24) :
    FnE Tryz.prog 28 [getV gb, .pointer (some ⟨b, off, none⟩)] (Lp ++ R)
      (fun v L' => v = .tuple #[] ∧ ∃ m s' Lp' vb ve T1 T2 cs', prMsg l s.1 = .ok m s'.1 ∧ L' = Lp' ++ (T1 ++ (T2 ++ R.set i (b, .cells cs' E fr))) ∧ GMem gb rb l s' Lp' ∧ Buf 3 1 vb T1 m.bins.length m.bins.flatten ∧ Buf 157 10 ve T2 m.ents.length m.ents.flatten ∧ Upd cs cs' off (m.cellsV vb ve))
      (fun u L' => ∃ c a p s' Lp' T cs', prMsg l s.1 = .bad c a ∧ u = flt p ∧ L' = (p, fltO c a) :: (Lp' ++ (T ++ R.set i (b, .cells cs' E fr))) ∧ GMem gb rb l s' Lp' ∧ cs'.size = cs.size) := by
  have ih := (getM (gb := gb) (rb := rb) hl9).ih
  have jn := (getM (gb := gb) (rb := rb) hl9).jn
  have im := (getM (gb := gb) (rb := rb) hl9).im
  have iw := (getM (gb := gb) (rb := rb) hl9).iw
  have it := (getM (gb := gb) (rb := rb) hl9).it
  have qw : methX Tryz.prog 122 "anabranch/codec.whole" = some 102 := (getM (gb := gb) (rb := rb) hl9).mw
  have qt : methX Tryz.prog 122 "anabranch/codec.truth" = some 101 := (getM (gb := gb) (rb := rb) hl9).mt
  have qm : methX Tryz.prog 122 "anabranch/codec.must" = some 98 := (getM (gb := gb) (rb := rb) hl9).mm
  have U0 : Upd cs cs off ([] ++ ([zI] ++ zMsg.drop 1)) := Upd.refl_of hl
  refine FnE_enter Tryz.func28 rfl Tryz.ntmps28 rfl fun g => ?_
  repeat (first | refine RQ ?_ | (refine WL_Q ?_; (first | refine QW_of (Qt_nilCheck_m rfl) ?_)) | refine RC ?_ | refine WG 0 ?_)
  refine WL_op rfl ?_
  refine OW_invE (getM (gb := gb) (rb := rb) hl9).mh rfl (get_here s Lp R hM) ?_ (fun _ _ h => h.elim)
  rintro _ _ ⟨rfl, Lp0, rfl, hM0⟩
  repeat (first | refine RQ ?_ | (refine WL_Q ?_; (first | refine QW_of (Qt_nilCheck_m rfl) ?_)) | refine RC ?_ | refine WC_regB 2 ?_)
  refine WL_op rfl ?_
  refine OW_callE rfl (getI (small_flat (getM (gb := gb) (rb := rb) hl9)) hM0 hR i64r0 (hl.cut 0 1) (hfr.sub 0 1 (by decide))) ?_ ?_
  rotate_left
  · rintro _ _ ⟨c, a, p, s', Lp', cs', h1, rfl, rfl, h4, h5⟩
    try rw [List.set_set]
    exact ⟨_, rfl, c, a, p, s', Lp', [], cs', prMsg_bad0 h1, rfl, rfl, h4, h5⟩
  rintro _ _ ⟨rfl, k, s1, Lp1, c1, i1, hs1, rfl, hM1, u1⟩
  have U1 := U0.put u1 rfl rfl
  have g0 : c1[off + 0]? = some (.int .i64 k) := u1.lies 0 _ rfl
  have hR1 := get_set_self hR (b, Obj.cells c1 E fr)
  have hX := get_app (A := Lp1) hR1
  repeat (first | refine RQ ?_ | ((first | refine WL_Q ?_ | refine WL_Y ?_); (first | refine QW_of (Qt_nilCheck_m rfl) ?_)) | refine RC ?_ | refine WG 1 ?_)
  refine WC_meet (fun σ => σ = ⟨[(0, getV gb), (1, .pointer (some ⟨b, off, none⟩))], [], Lp1 ++ R.set i (b, Obj.cells c1 E fr)⟩ ∧ 0 ≤ k ∧ k ≤ 4) ?_ ?_
  · by_cases hk : 0 ≤ k
    · have d1 : decide (k ≥ 0) = true := decide_eq_true hk
      repeat (first | refine RQr ?_ | ((first | refine WL_Q ?_ | refine WL_Y ?_ | refine WR_Q rfl ?_ | refine WR_late rfl rfl rfl (OW_Q ?_) | refine WR_Y rfl ?_); (first | refine QW_of (Qt_nilCheck_m rfl) ?_)) | refine RC ?_ | refine RU ?_ | refine WC_draw_all (id := 2) 17 (Cs [0,1,2,3,4,5,6,7,8,9,10,11,12,13,14,15] <| .must 16 <| .done) mixed (by kernel_rfl) ?_)
      refine WR_op rfl rfl ?_
      refine OW_invE (getM (gb := gb) (rb := rb) hl9).mm rfl (get_must s1 Lp1 _ _ 6 hM1) ?_ ?_
      rotate_left
      · rintro _ _ ⟨c, a, p, hm, rfl, rfl⟩
        have h4 : ¬ k ≤ 4 := fun h => by rw [decide_eq_true h] at hm; cases hm
        rw [decide_eq_false h4] at hm
        simp only [Bool.false_eq_true, if_false, Option.some.injEq, Prod.mk.injEq] at hm
        obtain ⟨rfl, rfl⟩ := hm
        exact ⟨_, rfl, 6, s1.2, p, s1, Lp1, [], c1, by rw [hs1]; exact prMsg_kind i1 (by omega), rfl, rfl, hM1, U1.size⟩
      rintro _ _ ⟨rfl, rfl, hm⟩
      have h4 : k ≤ 4 := by
        rcases Decidable.em (k ≤ 4) with h | h
        · exact h
        · rw [decide_eq_false h] at hm; cases hm
      refine ⟨fun _ h => h, ?_⟩
      repeat (first | refine RQr ?_ | ((first | refine WL_Q ?_ | refine WL_Y ?_ | refine WR_Q rfl ?_ | refine WR_late rfl rfl rfl (OW_Q ?_) | refine WR_Y rfl ?_); (first | refine QW_of (Qt_nilCheck_m rfl) ?_)) | refine RC ?_ | refine RU ?_ | refine WC_draw_all (id := 2) 17 (Cs [0,1,2,3,4,5,6,7,8,9,10,11,12,13,14,15] <| .must 16 <| .done) mixed (by kernel_rfl) ?_)
      exact ⟨_, ⟨rfl, hk, h4⟩, ⟨rfl, rfl, trivial⟩, rfl, .refl _⟩
    · have d1 : decide (k ≥ 0) = false := decide_eq_false hk
      repeat (first | refine RQr ?_ | ((first | refine WL_Q ?_ | refine WL_Y ?_ | refine WR_Q rfl ?_ | refine WR_late rfl rfl rfl (OW_Q ?_) | refine WR_Y rfl ?_); (first | refine QW_of (Qt_nilCheck_m rfl) ?_)) | refine RC ?_ | refine RU ?_ | refine WC_draw_all (id := 2) 17 (Cs [0,1,2,3,4,5,6,7,8,9,10,11,12,13,14,15] <| .must 16 <| .done) mixed (by kernel_rfl) ?_)
      refine WR_op rfl rfl ?_
      refine OW_invE (getM (gb := gb) (rb := rb) hl9).mm rfl (get_must s1 Lp1 _ _ 6 hM1) ?_ ?_
      rotate_left
      · rintro _ _ ⟨c, a, p, hm, rfl, rfl⟩
        simp only [Bool.false_eq_true, if_false, Option.some.injEq, Prod.mk.injEq] at hm
        obtain ⟨rfl, rfl⟩ := hm
        exact ⟨_, rfl, 6, s1.2, p, s1, Lp1, [], c1, by rw [hs1]; exact prMsg_kind i1 (by omega), rfl, rfl, hM1, U1.size⟩
      rintro _ _ ⟨rfl, rfl, hm⟩
      cases hm
  rintro _ ⟨rfl, hk0, hk4⟩
  have hkk : 0 ≤ k ∧ k ≤ 4 := ⟨hk0, hk4⟩
  repeat (first | refine RQ ?_ | ((first | refine WL_Q ?_ | refine WL_Y ?_); (first | refine QW_of (Qt_nilCheck_m rfl) ?_)) | refine RC ?_ | refine WG 3 ?_)
  refine WL_op rfl ?_
  refine OW_callE rfl (getI (small_flat (getM (gb := gb) (rb := rb) hl9)) hM1 hR1 i64r0 (U1.lies.cut 1 1) (hfr.sub 1 1 (by decide))) ?_ ?_
  rotate_left
  · rintro _ _ ⟨c, a, p, s', Lp', cs', h1, rfl, rfl, h4, h5⟩
    try rw [List.set_set]
    exact ⟨_, rfl, c, a, p, s', Lp', [], cs', prMsg_bad1 i1 hkk h1, rfl, rfl, h4, h5.trans U1.size⟩
  rintro _ _ ⟨rfl, v, s2, Lp2, c2, i2, hs2, rfl, hM2, u2⟩
  rw [List.set_set]
  have U2 : Upd cs c2 off ([.int .i64 k] ++ ([.int .i64 v] ++ zMsg.drop 2)) := Upd.put (ys := [zI]) U1 u2 rfl rfl
  have g1 : c2[off + 0]? = some (.int .i64 k) := by
    rw [u2.rest _ (.inl (by omega))]; exact g0
  have hb := prMsg_body i1 hkk i2
  rw [hb]
  have hR2 := get_set_self hR (b, Obj.cells c2 E fr)
  have hX2 := get_app (A := Lp2) hR2
  by_cases hk : k = 0
  · have hk0 := hk
    have d0 : (k == 0) = true := by simpa using hk
    repeat (first | refine RQr ?_ | ((first | refine WL_Q ?_ | refine WL_Y ?_ | refine WR_Q rfl ?_ | refine WR_late rfl rfl rfl (OW_Q ?_) | refine WR_Y rfl ?_); (first | refine QW_of (Qt_nilCheck_m rfl) ?_)) | refine RC ?_ | refine RU ?_ | refine WC_draw_all (id := 8) 8 (Cs [0,1,2,3,4,5,6] <| .must 7 <| .done) mixed (by kernel_rfl) ?_ | refine WG 4 ?_ | refine WG 5 ?_ | refine WG 6 ?_ | refine WG 7 ?_ | refine WG 9 ?_ | refine WG 10 ?_ | refine WG 11 ?_ | refine WG 12 ?_ | refine WG 13 ?_ | refine WG 14 ?_)
    refine WL_op rfl ?_
    refine OW_callE rfl (getF (fs := recF) (rec_flat (getM (gb := gb) (rb := rb) hl9)) hM2 hR2 oks_zRec ((show Upd cs c2 off ([.int .i64 k, .int .i64 v] ++ zMsg.drop 2) from U2).lies.cut 2 6) (hfr.sub 2 6 (by decide))) ?_ ?_
    rotate_left
    · rintro _ _ ⟨c, a, p, s', Lp', cs', h1, rfl, rfl, h4, h5⟩
      rw [List.set_set]
      exact ⟨_, rfl, c, a, p, s', Lp', [], cs', by unfold prBody; rw [if_pos hk, h1]; rfl, rfl, rfl, h4, h5.trans U2.size⟩
    rintro _ _ ⟨rfl, us, s3, Lp3, c3, h1, rfl, hM3, u3, n3⟩
    rw [List.set_set]
    have U3 := Upd.put (xs := [.int .i64 k, .int .i64 v] ++ (zMsg.drop 2).take 0) (ys := (zMsg.drop 2).take 6) (zs := zMsg.drop 8) U2 u3 rfl n3
    repeat (first | refine RQr ?_ | ((first | refine WL_Q ?_ | refine WL_Y ?_ | refine WR_Q rfl ?_ | refine WR_late rfl rfl rfl (OW_Q ?_) | refine WR_Y rfl ?_); (first | refine QW_of (Qt_nilCheck_m rfl) ?_)) | refine RC ?_ | refine RU ?_ | refine WC_draw_all (id := 8) 8 (Cs [0,1,2,3,4,5,6] <| .must 7 <| .done) mixed (by kernel_rfl) ?_ | refine WG 0 ?_ | refine WG 5 ?_ | refine WG 6 ?_ | refine WG 7 ?_ | refine WG 9 ?_ | refine WG 10 ?_ | refine WG 11 ?_ | refine WG 12 ?_ | refine WG 13 ?_ | refine WG 14 ?_)
    exact ⟨_, _, Res0 rfl, .refl _, rfl, ({ MV.none with kind := k, ver := v, rc := us } : MV), s3, Lp3, nilS, nilS, [], [], c3, by unfold prBody; rw [if_pos hk, h1]; rfl, rfl, hM3, Buf.nil _ _, Buf.nil _ _, U3⟩
  by_cases hk : k = 1
  · have hk1 := hk
    have d0 : (k == 0) = false := by simpa using (show ¬ k = 0 by omega)
    have d1 : (k == 1) = true := by simpa using hk
    repeat (first | refine RQ ?_ | ((first | refine WL_Q ?_ | refine WL_Y ?_); (first | refine QW_of (Qt_nilCheck_m rfl) ?_)) | refine RC ?_ | refine WG 4 ?_ | refine WG 5 ?_ | refine WG 6 ?_ | refine WG 7 ?_ | refine WG 9 ?_ | refine WG 10 ?_ | refine WG 11 ?_ | refine WG 12 ?_ | refine WG 13 ?_ | refine WG 14 ?_)
    refine WC_draw_sub (id := 8) 8 (Cs [0,1,2,3,4,5,6] <| .must 7 <| .done) mixed (by kernel_rfl) (List.nil_sublist _) ?_
    repeat (first | refine RQr ?_ | ((first | refine WL_Q ?_ | refine WL_Y ?_ | refine WR_Q rfl ?_ | refine WR_late rfl rfl rfl (OW_Q ?_) | refine WR_Y rfl ?_); (first | refine QW_of (Qt_nilCheck_m rfl) ?_)) | refine RC ?_ | refine RU ?_ | refine WC_draw_all (id := 8) 8 (Cs [0,1,2,3,4,5,6] <| .must 7 <| .done) mixed (by kernel_rfl) ?_ | refine WG 4 ?_ | refine WG 5 ?_ | refine WG 6 ?_ | refine WG 7 ?_ | refine WG 9 ?_ | refine WG 10 ?_ | refine WG 11 ?_ | refine WG 12 ?_ | refine WG 13 ?_ | refine WG 14 ?_)
    refine WR_op rfl rfl ?_
    refine OW_invE (getM (gb := gb) (rb := rb) hl9).mw rfl (getI (get_whole hl9) hM2 hR2 i64r0 ((show Upd cs c2 off ([.int .i64 k, .int .i64 v] ++ zMsg.drop 2) from U2).lies.cut 8 1) (hfr.sub 8 1 (by decide))) ?_ ?_
    rotate_left
    · rintro _ _ ⟨c, a, p, s', Lp', cs', h1, rfl, rfl, h4, h5⟩
      rw [List.set_set]
      exact ⟨_, rfl, c, a, p, s', Lp', [], cs', by unfold prBody; rw [if_neg (by omega), if_pos hk, h1]; rfl, rfl, rfl, h4, h5.trans U2.size⟩
    rintro _ _ ⟨rfl, x, s3, Lp3, c3, h1, hs3, rfl, hM3, u3⟩
    rw [List.set_set]
    refine ⟨(fun q hq => (by cases hq)), ?_⟩
    have U3 := Upd.put (xs := [.int .i64 k, .int .i64 v] ++ (zMsg.drop 2).take 6) (ys := (zMsg.drop 8).take 1) (zs := zMsg.drop 9) U2 u3 rfl rfl
    repeat (first | refine RQr ?_ | ((first | refine WL_Q ?_ | refine WL_Y ?_ | refine WR_Q rfl ?_ | refine WR_late rfl rfl rfl (OW_Q ?_) | refine WR_Y rfl ?_); (first | refine QW_of (Qt_nilCheck_m rfl) ?_)) | refine RC ?_ | refine RU ?_ | refine WC_draw_all (id := 8) 8 (Cs [0,1,2,3,4,5,6] <| .must 7 <| .done) mixed (by kernel_rfl) ?_ | refine WG 0 ?_ | refine WG 5 ?_ | refine WG 6 ?_ | refine WG 7 ?_ | refine WG 9 ?_ | refine WG 10 ?_ | refine WG 11 ?_ | refine WG 12 ?_ | refine WG 13 ?_ | refine WG 14 ?_)
    exact ⟨_, _, Res0 rfl, .refl _, rfl, ({ MV.none with kind := k, ver := v, time := x } : MV), s3, Lp3, nilS, nilS, [], [], c3, by unfold prBody; rw [if_neg (by omega), if_pos hk, h1]; rfl, rfl, hM3, Buf.nil _ _, Buf.nil _ _, U3⟩
  by_cases hk : k = 2
  · have hk2 := hk
    have d0 : (k == 0) = false := by simpa using (show ¬ k = 0 by omega)
    have d1 : (k == 1) = false := by simpa using (show ¬ k = 1 by omega)
    have d2 : (k == 2) = true := by simpa using hk
    repeat (first | refine RQr ?_ | ((first | refine WL_Q ?_ | refine WL_Y ?_ | refine WR_Q rfl ?_ | refine WR_late rfl rfl rfl (OW_Q ?_) | refine WR_Y rfl ?_); (first | refine QW_of (Qt_nilCheck_m rfl) ?_)) | refine RC ?_ | refine RU ?_ | refine WC_draw_all (id := 8) 8 (Cs [0,1,2,3,4,5,6] <| .must 7 <| .done) mixed (by kernel_rfl) ?_ | refine WG 4 ?_ | refine WG 5 ?_ | refine WG 6 ?_ | refine WG 7 ?_ | refine WG 9 ?_ | refine WG 10 ?_ | refine WG 11 ?_ | refine WG 12 ?_ | refine WG 13 ?_ | refine WG 14 ?_)
    refine WL_op rfl ?_
    refine OW_callE rfl (getI (small_flat (getM (gb := gb) (rb := rb) hl9)) hM2 hR2 i64r0 ((show Upd cs c2 off ([.int .i64 k, .int .i64 v] ++ zMsg.drop 2) from U2).lies.cut 9 1) (hfr.sub 9 1 (by decide))) ?_ ?_
    rotate_left
    · rintro _ _ ⟨c, a, p, s', Lp', cs', h1, rfl, rfl, h4, h5⟩
      rw [List.set_set]
      exact ⟨_, rfl, c, a, p, s', Lp', [], cs', by unfold prBody; rw [if_neg (by omega), if_neg (by omega), if_pos hk, h1]; rfl, rfl, rfl, h4, h5.trans U2.size⟩
    rintro _ _ ⟨rfl, x, s3, Lp3, c3, h1, hs3, rfl, hM3, u3⟩
    rw [List.set_set]
    have U3 := Upd.put (xs := [.int .i64 k, .int .i64 v] ++ (zMsg.drop 2).take 7) (ys := (zMsg.drop 9).take 1) (zs := zMsg.drop 10) U2 u3 rfl rfl
    repeat (first | refine RQr ?_ | ((first | refine WL_Q ?_ | refine WL_Y ?_ | refine WR_Q rfl ?_ | refine WR_late rfl rfl rfl (OW_Q ?_) | refine WR_Y rfl ?_); (first | refine QW_of (Qt_nilCheck_m rfl) ?_)) | refine RC ?_ | refine RU ?_ | refine WC_draw_all (id := 8) 8 (Cs [0,1,2,3,4,5,6] <| .must 7 <| .done) mixed (by kernel_rfl) ?_ | refine WG 0 ?_ | refine WG 5 ?_ | refine WG 6 ?_ | refine WG 7 ?_ | refine WG 9 ?_ | refine WG 10 ?_ | refine WG 11 ?_ | refine WG 12 ?_ | refine WG 13 ?_ | refine WG 14 ?_)
    exact ⟨_, _, Res0 rfl, .refl _, rfl, ({ MV.none with kind := k, ver := v, num := x } : MV), s3, Lp3, nilS, nilS, [], [], c3, by unfold prBody; rw [if_neg (by omega), if_neg (by omega), if_pos hk, h1]; rfl, rfl, hM3, Buf.nil _ _, Buf.nil _ _, U3⟩
  by_cases hk : k = 3
  · have hk3 := hk
    have d0 : (k == 0) = false := by simpa using (show ¬ k = 0 by omega)
    have d1 : (k == 1) = false := by simpa using (show ¬ k = 1 by omega)
    have d2 : (k == 2) = false := by simpa using (show ¬ k = 2 by omega)
    have d3 : (k == 3) = true := by simpa using hk
    repeat (first | refine RQr ?_ | ((first | refine WL_Q ?_ | refine WL_Y ?_ | refine WR_Q rfl ?_ | refine WR_late rfl rfl rfl (OW_Q ?_) | refine WR_Y rfl ?_); (first | refine QW_of (Qt_nilCheck_m rfl) ?_)) | refine RC ?_ | refine RU ?_ | refine WC_draw_all (id := 8) 8 (Cs [0,1,2,3,4,5,6] <| .must 7 <| .done) mixed (by kernel_rfl) ?_ | refine WG 4 ?_ | refine WG 5 ?_ | refine WG 6 ?_ | refine WG 7 ?_ | refine WG 9 ?_ | refine WG 10 ?_ | refine WG 11 ?_ | refine WG 12 ?_ | refine WG 13 ?_ | refine WG 14 ?_)
    refine WL_op rfl ?_
    refine OW_callE rfl (gcmd (ch := MV.none.ch) (ct := MV.none.ct) hl9 hM2 hR2 MV.none_ok.ch MV.none_ok.ct ((show Upd cs c2 off ([.int .i64 k, .int .i64 v] ++ zMsg.drop 2) from U2).lies.cut 10 10) (hfr.sub 10 10 (by decide))) ?_ ?_
    rotate_left
    · rintro _ _ ⟨c, a, p, s', Lp', T, cs', h1, rfl, rfl, h4, h5⟩
      rw [List.set_set]
      exact ⟨_, rfl, c, a, p, s', Lp', T, cs', by unfold prBody; rw [if_neg (by omega), if_neg (by omega), if_neg (by omega), if_pos hk, h1]; rfl, rfl, rfl, h4, h5.trans U2.size⟩
    rintro _ _ ⟨rfl, x, s3, Lp3, v', T, c3, h1, rfl, hM3, hbuf, u3⟩
    rw [List.set_set]
    have U3 := Upd.put (xs := [.int .i64 k, .int .i64 v] ++ (zMsg.drop 2).take 8) (ys := (zMsg.drop 10).take 10) (zs := zMsg.drop 20) U2 u3 rfl (by have o := (prCmd_went hM2.2 h1).1; simp only [List.length_append, List.length_cons, o.1.len, o.2.2.len]; rfl)
    repeat (first | refine RQr ?_ | ((first | refine WL_Q ?_ | refine WL_Y ?_ | refine WR_Q rfl ?_ | refine WR_late rfl rfl rfl (OW_Q ?_) | refine WR_Y rfl ?_); (first | refine QW_of (Qt_nilCheck_m rfl) ?_)) | refine RC ?_ | refine RU ?_ | refine WC_draw_all (id := 8) 8 (Cs [0,1,2,3,4,5,6] <| .must 7 <| .done) mixed (by kernel_rfl) ?_ | refine WG 0 ?_ | refine WG 5 ?_ | refine WG 6 ?_ | refine WG 7 ?_ | refine WG 9 ?_ | refine WG 10 ?_ | refine WG 11 ?_ | refine WG 12 ?_ | refine WG 13 ?_ | refine WG 14 ?_)
    exact ⟨_, _, Res0 rfl, .refl _, rfl, ({ MV.none with kind := k, ver := v, ch := x.1, bins := x.2.1, ct := x.2.2 } : MV), s3, Lp3, v', nilS, T, [], c3, by unfold prBody; rw [if_neg (by omega), if_neg (by omega), if_neg (by omega), if_pos hk, h1]; rfl, rfl, hM3, hbuf, Buf.nil _ _, U3⟩
  have hk : k = 4 := by omega
  have d0 : (k == 0) = false := by simpa using (show ¬ k = 0 by omega)
  have d1 : (k == 1) = false := by simpa using (show ¬ k = 1 by omega)
  have d2 : (k == 2) = false := by simpa using (show ¬ k = 2 by omega)
  have d3 : (k == 3) = false := by simpa using (show ¬ k = 3 by omega)
  have d4 : (k == 4) = true := by simpa using hk
  repeat (first | refine RQr ?_ | ((first | refine WL_Q ?_ | refine WL_Y ?_ | refine WR_Q rfl ?_ | refine WR_late rfl rfl rfl (OW_Q ?_) | refine WR_Y rfl ?_); (first | refine QW_of (Qt_nilCheck_m rfl) ?_)) | refine RC ?_ | refine RU ?_ | refine WC_draw_all (id := 8) 8 (Cs [0,1,2,3,4,5,6] <| .must 7 <| .done) mixed (by kernel_rfl) ?_ | refine WG 4 ?_ | refine WG 5 ?_ | refine WG 6 ?_ | refine WG 7 ?_ | refine WG 9 ?_ | refine WG 10 ?_ | refine WG 11 ?_ | refine WG 12 ?_ | refine WG 13 ?_ | refine WG 14 ?_)
  refine WL_op rfl ?_
  refine OW_callE rfl (gchunk (kh := MV.none.kh) hl9 hM2 hR2 MV.none_ok.kh ((show Upd cs c2 off ([.int .i64 k, .int .i64 v] ++ zMsg.drop 2) from U2).lies.cut 20 4) (hfr.sub 20 4 (by decide))) ?_ ?_
  rotate_left
  · rintro _ _ ⟨c, a, p, s', Lp', T, cs', h1, rfl, rfl, h4, h5⟩
    rw [List.set_set]
    exact ⟨_, rfl, c, a, p, s', Lp', T, cs', by unfold prBody; rw [if_neg (by omega), if_neg (by omega), if_neg (by omega), if_neg (by omega), h1]; rfl, rfl, rfl, h4, h5.trans U2.size⟩
  rintro _ _ ⟨rfl, x, s3, Lp3, v', T, c3, h1, rfl, hM3, hbuf, u3⟩
  rw [List.set_set]
  have U3 := Upd.put (xs := [.int .i64 k, .int .i64 v] ++ (zMsg.drop 2).take 18) (ys := (zMsg.drop 20).take 4) (zs := zMsg.drop 24) U2 u3 rfl (by have o := (prChunk_went hM2.2 h1).1; simp only [List.length_append, List.length_cons, o.1.len]; rfl)
  rw [show x.1 ++ [v'] ++ zMsg.drop 24 = x.1 ++ [v'] from List.append_nil _] at U3
  repeat (first | refine RQr ?_ | ((first | refine WL_Q ?_ | refine WL_Y ?_ | refine WR_Q rfl ?_ | refine WR_late rfl rfl rfl (OW_Q ?_) | refine WR_Y rfl ?_); (first | refine QW_of (Qt_nilCheck_m rfl) ?_)) | refine RC ?_ | refine RU ?_ | refine WC_draw_all (id := 8) 8 (Cs [0,1,2,3,4,5,6] <| .must 7 <| .done) mixed (by kernel_rfl) ?_ | refine WG 0 ?_ | refine WG 5 ?_ | refine WG 6 ?_ | refine WG 7 ?_ | refine WG 9 ?_ | refine WG 10 ?_ | refine WG 11 ?_ | refine WG 12 ?_ | refine WG 13 ?_ | refine WG 14 ?_)
  exact ⟨_, _, Res0 rfl, .refl _, rfl, ({ MV.none with kind := k, ver := v, kh := x.1, ents := x.2 } : MV), s3, Lp3, nilS, v', [], T, c3, by unfold prBody; rw [if_neg (by omega), if_neg (by omega), if_neg (by omega), if_neg (by omega), h1]; rfl, rfl, hM3, Buf.nil _ _, hbuf, U3⟩
end
end Go.Proofs.YtgimodceldoniaaGreatDoor
namespace Go.Proofs.YtgimodceldoniaaGreatDoor
open Go.RowKit
attribute [local irreducible] Fn WC WL WR OW Qt YieldFn QW FnP FnD FnE
theorem LeavS_oneB {c : Cx} {fn : Func} {s : List (Nat × Value)} {Rr Rp : Value → List (Nat × Obj) → Prop} {f : FuncId} {A B : Array Value} {u : FrameMode} {L : List (Nat × Obj)} [hf : FCall c.P f] (hu : u ≠ .run) {Q : FrameMode → List (Nat × Obj) → Prop} (hD : FnD c.P f (A.toList ++ B.toList) L u Q) (hk : ∀ u' L', Q u' L' → LeavS c fn s Rr Rp [] (settle u') L') : LeavS c fn s Rr Rp [{ target := .fn (.func f) B, args := A }] u L := by
  unfold FnD at hD
  exact ⟨hu, .inr ⟨f, A, B, rfl, hf, by
    unfold FnD
    exact fun g w n hm => (hD g w n hm).mono fun _ _ _ ⟨v, L', e1, e2, e3⟩ => ⟨v, L', e1, e2, hk _ _ e3⟩⟩⟩
theorem saved_Msg {xb eb : Nat} {L : List (Nat × Obj)} : FnD Tryz.prog 48 [.pointer (some ⟨xb, 0, none⟩), .pointer (some ⟨eb, 0, none⟩)] L .returning (fun u' L' => u' = .returning ∧ L' = L) := by
  refine FnD_recover (rv := .nilIface) (u' := .returning) Tryz.func48 rfl Tryz.ntmps48 rfl rfl rfl rfl ⟨rfl, rfl⟩ fun g n => ⟨_, rfl, ?_⟩
  show WC _ _ _ ⟨[(6, .nilIface), (0, .pointer (some ⟨xb, 0, none⟩)), (1, .pointer (some ⟨eb, 0, none⟩))], [], L⟩
  repeat (first | refine RQ ?_ | (refine WL_Q ?_; (first | refine QW_of (Qt_nilCheck_m rfl) ?_)) | (refine RE ?_; try intro _) | refine RC ?_ | refine WC_region ?_)
  exact ⟨rfl, _, _, Res0 rfl, .refl _, rfl, rfl⟩
theorem caught_Msg {xb eb p : Nat} {old : Value} {cs : Array Value} (hz : cs.size = 24) {L : List (Nat × Obj)} : FnD Tryz.prog 48 [.pointer (some ⟨xb, 0, none⟩), .pointer (some ⟨eb, 0, none⟩)] ((eb, .cells #[old] 46 (0, 0)) :: (xb, .cells cs 36 (0, 0)) :: L) (.panicking (pan (flt p))) (fun u' L' => settle u' = .returning ∧ L' = (eb, .cells #[flt p] 46 (0, 0)) :: (xb, .cells zc36 36 (0, 0)) :: L) := by
  refine FnD_recover (rv := flt p) Tryz.func48 rfl Tryz.ntmps48 rfl rfl rfl rfl ⟨rfl, rfl⟩ fun g n => ⟨_, rfl, ?_⟩
  show WC _ _ _ ⟨[(6, flt p), (0, .pointer (some ⟨xb, 0, none⟩)), (1, .pointer (some ⟨eb, 0, none⟩))], [], _⟩
  repeat (first | refine RQ ?_ | (refine WL_Q ?_; (first | refine QW_of (Qt_nilCheck_m rfl) ?_)) | (refine RE ?_; try intro _) | refine RC ?_ | refine WC_region ?_)
  exact ⟨rfl, _, _, Res0 rfl, .cons _ (.refl _), rfl, rfl⟩
end Go.Proofs.YtgimodceldoniaaGreatDoor
namespace Go.Proofs.YtgimodceldoniaaGreatDoor
open Go.RowKit
attribute [local irreducible] Fn WC WL WR OW Qt YieldFn QW FnP FnD FnE
theorem OW_defB {c : Cx} {o : Oper} {Kn : St → Prop} {K : Exit → St → Prop} {s : List (Nat × Value)} {D : List Deferred} {L : List (Nat × Obj)} {f : FuncId} {x : Operand} {A B : Array Value} {args : Array Operand} {tys : Array TypeId} {vs : List Value} (ho : o.op = .defer { callee := .value x, args := args, argTypes := tys }) (hr : c.r = none := by exact rfl) (hdst : o.dst = none := by exact rfl) (hx : ev s x = some (.func (.func f) A B) := by exact rfl) (ha : evs s args.toList = some vs := by exact rfl)
    (hk : Kn ⟨s, { target := .fn (.func f) B, args := (A.toList ++ vs).toArray } :: D, L⟩) : OW c o Kn K ⟨s, D, L⟩ := by
  refine OW_defer (σ := ⟨s, D, L⟩) (x := x) (A := A) (B := B) hr ho hx ha (by rw [hdst]; rfl) ?_
  rw [hdst]
  simpa [St.put] using hk
theorem perm2 {α : Type} (P F : List α) (x y : α) : (x :: y :: (P ++ F)).Perm (P ++ (x :: y :: F)) := ((List.perm_middle (l₁ := P)).trans (.cons _ (List.perm_middle (l₁ := P)))).symm
def ReadAt (rb : Nat) (l : List UInt8) (F : List (Nat × Obj)) (n : Nat) (zc : Array Value) (Ok : Nat → List (Nat × Obj) → Array Value → Prop) (Bad : Nat → Nat → Prop) (v : Value) (L' : List (Nat × Obj)) : Prop :=
  (∃ b T cs', Ok b T cs' ∧ cs'.size = n ∧ v = .tuple #[.agg cs', .nilIface] ∧ L' = (rb, rdO l b) :: (F ++ T)) ∨
  (∃ c e p b, Bad c e ∧ b ≤ l.length ∧ v = .tuple #[.agg zc, flt p] ∧ L' = (p, fltO c e) :: (rb, rdO l b) :: F)
def PartsFn (fu : FuncId) (rb : Nat) (l : List UInt8) (a : Nat) (F : List (Nat × Obj)) (E : TypeId) (n : Nat) (zc : Array Value) (Ok : Nat → List (Nat × Obj) → Array Value → Prop) (Bad : Nat → Nat → Prop) : Prop :=
  ∀ gb eb xb : Nat, FnE Tryz.prog fu [getV gb, .pointer (some ⟨xb, 0, none⟩)] ((rb, rdO l a) :: (gb, gtO rb 0) :: (eb, .cells #[.nilIface] 46 (0, 0)) :: (xb, .cells zc E (0, 0)) :: F)
    (fun v L' => v = .tuple #[] ∧ ∃ b q T cs', Ok b T cs' ∧ L' = (rb, rdO l b) :: (gb, gtO rb q) :: (T ++ ((eb, .cells #[.nilIface] 46 (0, 0)) :: (xb, .cells cs' E (0, 0)) :: F)) ∧ cs'.size = n ∧ (cs'.toList.all fun v => v.oneCell') = true)
    (fun u L' => ∃ c e p b q T cs', Bad c e ∧ b ≤ l.length ∧ u = flt p ∧ L' = (p, fltO c e) :: (rb, rdO l b) :: (gb, gtO rb q) :: (T ++ ((eb, .cells #[.nilIface] 46 (0, 0)) :: (xb, .cells cs' E (0, 0)) :: F)) ∧ cs'.size = n)
theorem PartsFn.perm {fu : FuncId} {rb : Nat} {l : List UInt8} {a : Nat} {F : List (Nat × Obj)} {E : TypeId} {n : Nat} {zc : Array Value} {Ok : Nat → List (Nat × Obj) → Array Value → Prop} {Bad : Nat → Nat → Prop} (h : PartsFn fu rb l a F E n zc Ok Bad) (gb eb xb : Nat) :
    FnE Tryz.prog fu [getV gb, .pointer (some ⟨xb, 0, none⟩)] ((gb, gtO rb 0) :: (rb, rdO l a) :: (eb, .cells #[.nilIface] 46 (0, 0)) :: (xb, .cells zc E (0, 0)) :: F)
    (fun v L' => v = .tuple #[] ∧ ∃ b q T cs', Ok b T cs' ∧ L' = (rb, rdO l b) :: (eb, .cells #[.nilIface] 46 (0, 0)) :: (xb, .cells cs' E (0, 0)) :: ((gb, gtO rb q) :: (F ++ T)) ∧ cs'.size = n ∧ (cs'.toList.all fun v => v.oneCell') = true)
    (fun u L' => ∃ c e p b q T cs', Bad c e ∧ b ≤ l.length ∧ u = flt p ∧ L' = (eb, .cells #[.nilIface] 46 (0, 0)) :: (xb, .cells cs' E (0, 0)) :: ((p, fltO c e) :: (rb, rdO l b) :: (gb, gtO rb q) :: (T ++ F)) ∧ cs'.size = n) :=
  (h gb eb xb).perm (.swap _ _ _)
    (fun v L' ⟨h0, b, q, T, cs', h1, h2, h3⟩ => ⟨_, by rw [h2]; exact .cons _ ((List.Perm.cons _ (.cons _ (.cons _ List.perm_append_comm))).trans (perm2 ((gb, gtO rb q) :: T) F _ _)), h0, b, q, T, cs', h1, rfl, h3⟩)
    (fun u L' ⟨c, e, p, b, q, T, cs', h1, hb, h0, h2, h3⟩ => ⟨_, by rw [h2]; exact perm2 ((p, fltO c e) :: (rb, rdO l b) :: (gb, gtO rb q) :: T) F _ _, c, e, p, b, q, T, cs', h1, hb, h0, rfl, h3⟩)
set_option maxHeartbeats 1000000 in
theorem read_Msg {rb a : Nat} {l : List UInt8} {F : List (Nat × Obj)} {fu : FuncId} [FCall Tryz.prog fu] {Ok : Nat → List (Nat × Obj) → Array Value → Prop} {Bad : Nat → Nat → Prop} (hf : PartsFn fu rb l a F 36 24 zc36 Ok Bad) :
    Fn Tryz.prog 31 [.pointer (some ⟨rb, 0, none⟩), .func (.func fu) #[] #[]] ((rb, rdO l a) :: F) (ReadAt rb l F 24 zc36 Ok Bad) := by
  refine Fn_enterD Tryz.func31 rfl Tryz.ntmps31 rfl fun g => ?_
  repeat (first | refine RQ ?_ | (refine WL_Q ?_; (first | refine QW_of (Qt_nilCheck_m rfl) ?_)) | (refine RE ?_; try intro _) | refine RC ?_ | refine WC_regB 2 ?_)
  rename_i xb eb
  refine WL_op rfl (OW_defB rfl (hk := WL_nil ?_))
  refine WC_front 2 rfl ?_
  repeat (first | refine RQ ?_ | (refine WL_Q ?_; (first | refine QW_of (Qt_nilCheck_m rfl) ?_)) | (refine RE ?_; try intro _) | refine RC ?_ | refine WC_regB 2 ?_)
  refine WC_regP ?_
  repeat (first | refine RQ ?_ | (refine WL_Q ?_; (first | refine QW_of (Qt_nilCheck_m rfl) ?_)) | (refine RE ?_; try intro _) | refine RC ?_ | refine WC_regB 3 ?_)
  rename_i gb
  refine WL_op rfl ?_
  refine OW_callE rfl (hf.perm gb eb xb) ?_ ?_
  rotate_left
  · rintro _ _ ⟨c, e, p, b, q, T, cs', h1, hb, rfl, rfl, hz⟩
    refine LeavS_oneB (by simp) (caught_Msg hz) ?_
    rintro u' L' ⟨hu, rfl⟩
    rw [hu]
    exact ⟨_, _, Res2 rfl (resV_cellN rfl 1 rfl rfl) (resV_cell1 rfl 0 rfl), .cons _ (.cons _ (.cons_cons _ (.cons_cons _ (.cons _ (List.sublist_append_right _ _))))), .inr ⟨c, e, p, b, h1, hb, rfl, rfl⟩⟩
  rintro _ _ ⟨rfl, b, q, T, cs', h1, rfl, hz, hone⟩
  repeat (first | refine RQ ?_ | (refine WL_Q ?_; (first | refine QW_of (Qt_nilCheck_m rfl) ?_)) | (refine RE ?_; try intro _) | refine RC ?_ | refine WC_region ?_)
  refine LeavS_oneB (c := ⟨Tryz.prog, g, _, _, _⟩) (A := #[]) (B := #[.pointer (some ⟨xb, 0, none⟩), .pointer (some ⟨eb, 0, none⟩)]) (u := .returning) (by simp) saved_Msg ?_
  rintro u' L' ⟨rfl, rfl⟩
  exact ⟨_, _, Res2 rfl (resV_cellN rfl 2 rfl hz) (resV_cell1 rfl 1 rfl), .cons_cons _ (.cons _ (.cons _ (.cons _ (.refl _)))), .inl ⟨b, T, cs', h1, hz, rfl, rfl⟩⟩
end Go.Proofs.YtgimodceldoniaaGreatDoor
namespace Go.Proofs.YtgimodceldoniaaGreatDoor
open Go.RowKit
attribute [local irreducible] Fn WC WL WR OW Qt YieldFn QW FnP FnD FnE
theorem Fk.ok_one {k : Fk} {v : Value} (h : k.ok v) : v.oneCell' = true := by
  cases k <;> obtain ⟨x, rfl, _⟩ := h <;> rfl
theorem Oks.cells1 : ∀ {fs : List Fk} {vs : List Value}, Oks fs vs → (vs.all fun v => v.oneCell') = true
  | [], [], _ => rfl
  | k :: ks, v :: vs, h => by rw [List.all_cons, Fk.ok_one h.1, Oks.cells1 h.2]; rfl
  | [], _ :: _, h => h.elim
  | _ :: _, [], h => h.elim
theorem Upd.whole {cs cs' : Array Value} {us : List Value} (h : Upd cs cs' 0 us) (hn : us.length = cs.size) : cs' = us.toArray := by
  apply Array.ext_getElem?
  intro j
  by_cases hj : j < us.length
  · have := h.lies j us[j] (List.getElem?_eq_getElem hj)
    rw [Nat.zero_add] at this
    rw [this, List.getElem?_toArray, List.getElem?_eq_getElem hj]
  · rw [Array.getElem?_eq_none (by rw [h.size]; omega), Array.getElem?_eq_none (by simp; omega)]
theorem lies_self {vs : List Value} : Lies vs.toArray 0 vs := fun j v h => by rw [Nat.zero_add, List.getElem?_toArray]; exact h
end Go.Proofs.YtgimodceldoniaaGreatDoor
namespace Go.Proofs.YtgimodceldoniaaGreatDoor
open Go.RowKit
attribute [local irreducible] Fn WC WL WR OW Qt YieldFn QW FnP FnD FnE
theorem Buf.one {E sz : Nat} {v : Value} {T : List (Nat × Obj)} {n : Nat} {xs : List Value} (h : Buf E sz v T n xs) : v.oneCell' = true := by
  obtain ⟨ag, cap, rfl, _⟩ := h.val
  rfl
def OkMsg (l : List UInt8) (a b : Nat) (T : List (Nat × Obj)) (cs' : Array Value) : Prop := (∃ m vb ve T1 T2, prMsg l a = .ok m b ∧ T = T1 ++ T2 ∧ Buf 3 1 vb T1 m.bins.length m.bins.flatten ∧ Buf 157 10 ve T2 m.ents.length m.ents.flatten ∧ cs' = (m.cellsV vb ve).toArray) ∧ (cs'.toList.all fun v => v.oneCell') = true
theorem MV.cellsV_len {m : MV} (h : m.Ok) {vb ve : Value} : (m.cellsV vb ve).length = 24 := by
  have l1 := h.rc.len
  have l2 := h.ch.len
  have l3 := h.ct.len
  have l4 := h.kh.len
  simp only [MV.cellsV, List.length_append, List.length_cons, List.length_nil, l1, l2, l3, l4]
theorem MV.cellsV_one {m : MV} (h : m.Ok) {vb ve : Value} (hb : vb.oneCell' = true) (he : ve.oneCell' = true) : ((m.cellsV vb ve).all fun v => v.oneCell') = true := by
  unfold MV.cellsV
  simp only [List.all_append, List.all_cons, h.rc.cells1, h.ch.cells1, h.ct.cells1, h.kh.cells1, hb, he]
  rfl
theorem parts_Msg {rb a : Nat} {l : List UInt8} (hl9 : l.length ≤ 1000000000) (ha : a ≤ l.length) (F : List (Nat × Obj)) :
    PartsFn 28 rb l a F 36 24 zc36 (OkMsg l a) (fun c e => prMsg l a = .bad c e) := by
  intro gb eb xb
  refine (gmsg hl9 (s := (a, 0)) (Lp := [(rb, rdO l a), (gb, gtO rb 0)]) (R := (eb, .cells #[.nilIface] 46 (0, 0)) :: (xb, .cells zc36 36 (0, 0)) :: F) (i := 1) ⟨rfl, ha⟩ rfl (lies_self (vs := zMsg)) (Free.zero _ _)).mono ?_ ?_
  · rintro _ _ ⟨h0, m, s', Lp', vb, ve, T1, T2, cs', h1, rfl, ⟨rfl, hb⟩, hbuf, hbuf2, hu⟩
    have o := (prMsg_went h1).1.ok
    have e := hu.whole (MV.cellsV_len o)
    subst e
    have hone : ((m.cellsV vb ve).toArray.toList.all fun v => v.oneCell') = true := MV.cellsV_one o hbuf.one hbuf2.one
    refine ⟨h0, s'.1, s'.2, T1 ++ T2, _, ⟨⟨m, vb, ve, T1, T2, h1, rfl, hbuf, hbuf2, rfl⟩, hone⟩, ?_, hu.size, hone⟩
    rw [List.append_assoc]; rfl
  · rintro _ _ ⟨c, e, p, s', Lp', T, cs', h1, h0, rfl, ⟨rfl, hb⟩, hz⟩
    exact ⟨c, e, p, s'.1, s'.2, T, cs', h1, hb, h0, rfl, hz⟩
theorem GMsg_fn {rb a : Nat} {l : List UInt8} (hl9 : l.length ≤ 1000000000) (ha : a ≤ l.length) (F : List (Nat × Obj)) :
    Fn Tryz.prog 18 [.pointer (some ⟨rb, 0, none⟩)] ((rb, rdO l a) :: F) (ReadAt rb l F 24 zc36 (OkMsg l a) (fun c e => prMsg l a = .bad c e)) := by
  refine Fn_enter Tryz.func18 rfl Tryz.ntmps18 rfl fun g => ?_
  repeat (first | refine RQ ?_ | (refine WL_Q ?_; (first | refine QW_of (Qt_nilCheck_m rfl) ?_)) | (refine RE ?_; try intro _) | refine RC ?_ | refine WG 0 ?_)
  rename_i xb
  refine WC_front 1 rfl ?_
  repeat (first | refine RQ ?_ | (refine WL_Q ?_; (first | refine QW_of (Qt_nilCheck_m rfl) ?_)) | (refine RE ?_; try intro _) | refine RC ?_ | refine WC_region ?_)
  refine WL_op rfl (OW_call rfl (hF := read_Msg (parts_Msg hl9 ha _)) (hk := ?_))
  rintro _ _ (⟨b, T, cs', hok, hz, rfl, rfl⟩ | ⟨c, e, p, b, h1, hb, rfl, rfl⟩)
  · have hone := hok.2
    repeat (first | refine RQ ?_ | (refine WL_Q ?_; (first | refine QW_of (Qt_nilCheck_m rfl) ?_)) | (refine RE ?_; try intro _) | refine RC ?_ | refine WC_region ?_)
    exact ⟨rfl, _, _, Res2 rfl (resV_cellN rfl 1 rfl hz) (resV_tmp rfl), .cons_cons _ (.cons _ (.refl _)), .inl ⟨b, T, cs', hok, hz, rfl, rfl⟩⟩
  · repeat (first | refine RQ ?_ | (refine WL_Q ?_; (first | refine QW_of (Qt_nilCheck_m rfl) ?_)) | (refine RE ?_; try intro _) | refine RC ?_ | refine WC_region ?_)
    exact ⟨rfl, _, _, Res2 rfl (resV_cellN rfl 2 rfl rfl) (resV_tmp rfl), .cons_cons _ (.cons_cons _ (.cons _ (.refl _))), .inr ⟨c, e, p, b, h1, hb, rfl, rfl⟩⟩
end Go.Proofs.YtgimodceldoniaaGreatDoor
namespace Go.Proofs.YtgimodceldoniaaGreatDoor
open Go.RowKit
attribute [local irreducible] Fn WC WL WR OW Qt YieldFn QW FnP FnD FnE
abbrev ptr (b off : Nat) : Value := .pointer (some ⟨b, off, none⟩)
abbrev bxR (b rb : Nat) : Nat × Obj := (b, .cells #[ptr rb 0] 60 (0, 0))
abbrev bxN (b most : Nat) : Nat × Obj := (b, .cells #[.int .u64 (most : Nat)] 23 (0, 0))
abbrev bxT (b gb off : Nat) : Nat × Obj := (b, .cells #[ptr gb off] 64 (0, 0))
abbrev gmO (cs : Array Value) : Obj := .cells cs 38 (0, 0)
theorem number_fn {rb gb off : Nat} {most : Nat} {L : List (Nat × Obj)} : Fn Tryz.prog 17 [ptr rb 0, ptr gb off, .int .u64 (most : Nat)] L (fun v L' => ∃ b3 b4 b5, v = .func (.func 29) #[] #[ptr b3 0, ptr b5 0, ptr b4 0] ∧ L' = bxN b5 most :: bxT b4 gb off :: bxR b3 rb :: L) := by
  refine Fn_enter Tryz.func17 rfl Tryz.ntmps17 rfl fun g => ?_
  repeat (first | refine RQ ?_ | (refine RE ?_; try intro _) | refine RC ?_ | refine WC_region ?_)
  exact ⟨rfl, _, _, Res1 rfl (resV_tmp rfl), .refl _, _, _, _, rfl, rfl⟩
def FldAt (l : List UInt8) (rb gb : Nat) (cs : Array Value) (F : List (Nat × Obj)) (p : PR Value) (off : Nat) (v : Value) (L' : List (Nat × Obj)) : Prop :=
  (∃ x b, p = .ok x b ∧ b ≤ l.length ∧ v = .nilIface ∧ L' = (rb, rdO l b) :: (gb, gmO (cs.setIfInBounds off x)) :: F) ∨
  (∃ c e q b cs', p = .bad c e ∧ b ≤ l.length ∧ cs'.size = cs.size ∧ v = flt q ∧ L' = (q, fltO c e) :: (rb, rdO l b) :: (gb, gmO cs') :: F)
def prUV (l : List UInt8) (most a : Nat) : PR Value := (prU l most a).bind fun x b => .ok (.int .i64 x) b
set_option maxHeartbeats 1000000 in
theorem number1_fn {l : List UInt8} {a rb gb b3 b4 b5 off most : Nat} {cs : Array Value} (ha : a ≤ l.length) (hl : l.length ≤ 1000000000) (hoff : off < cs.size) (hm : most ≤ 65535) (F : List (Nat × Obj)) :
    Fn Tryz.prog 29 [ptr b3 0, ptr b5 0, ptr b4 0] ((rb, rdO l a) :: (gb, gmO cs) :: bxR b3 rb :: bxN b5 most :: bxT b4 gb off :: F)
      (FldAt l rb gb cs (bxR b3 rb :: bxN b5 most :: bxT b4 gb off :: F) (prUV l most a) off) := by
  refine Fn_enter Tryz.func29 rfl Tryz.ntmps29 rfl fun g => ?_
  repeat (first | refine RQ ?_ | (refine WL_op rfl ?_; (first | refine OW_S (fun F => place_rd F) ?_)) | refine RC ?_ | refine WG 0 ?_ | refine WG 1 ?_ | refine WG 2 ?_)
  refine WL_op rfl (OW_call rfl (hF := U_fn ha hl _) (hk := ?_))
  rintro _ _ (⟨hc, rfl, rfl⟩ | ⟨hc, p, rfl, rfl⟩)
  · have hn := uNext_le hc
    by_cases hv : uVal l a ≤ most
    · have d1 : decide (((uVal l a : Nat) : Int) > (most : Nat)) = false := decide_eq_false (by omega)
      have w1 : IntKind.i64.wrap (if ((most : Nat) : Int) < (uVal l a : Nat) then ((most : Nat) : Int) else (uVal l a : Nat)) = (uVal l a : Nat) := by rw [if_neg (by omega), wI64 (by omega) (by omega)]
      repeat (first | refine RQ ?_ | (refine RE ?_; try intro _) | refine RC ?_ | refine WG 2 ?_ | refine WG 3 ?_ | refine WG 5 ?_ | refine WG 6 ?_)
      rw [w1]
      exact ⟨rfl, _, _, Res1 rfl (resV_tmp rfl), .refl _, .inl ⟨.int .i64 (uVal l a : Nat), uNext l a, by unfold prUV prU; rw [if_pos hc, if_pos hv]; rfl, hn, rfl, rfl⟩⟩
    · have d1 : decide (((uVal l a : Nat) : Int) > (most : Nat)) = true := decide_eq_true (by omega)
      repeat (first | refine RQ ?_ | (refine RE ?_; try intro _) | ((first | refine WL_op rfl ?_ | refine WL_yes (h := ?_)); (first | refine OW_S (fun F => place_rd F) ?_)) | refine RC ?_ | refine WC_region ?_)
      exact ⟨rfl, _, _, Res1 rfl (resV_tmp rfl), .refl _, .inr ⟨2, a, _, uNext l a, _, by unfold prUV prU; rw [if_pos hc, if_neg hv]; rfl, hn, by simp, rfl, rfl⟩⟩
  · repeat (first | refine RQ ?_ | (refine RE ?_; try intro _) | ((first | refine WL_op rfl ?_ | refine WL_yes (h := ?_)); (first | refine OW_S (fun F => place_rd F) ?_)) | refine RC ?_ | refine WC_region ?_)
    exact ⟨rfl, _, _, Res1 rfl (resV_tmp rfl), .refl _, .inr ⟨uCode l a, a, _, a, _, by unfold prUV prU; rw [if_neg hc]; rfl, ha, by simp, rfl, rfl⟩⟩
set_option maxHeartbeats 1000000 in
theorem get2_fn {l : List UInt8} {a rb gb cb : Nat} {cs : Array Value} (ha : a ≤ l.length) (hl : l.length ≤ 1000000000) (hoff : 2 < cs.size) (F : List (Nat × Obj)) :
    Fn Tryz.prog 19 [ptr cb 0, ptr gb 0] ((rb, rdO l a) :: (gb, gmO cs) :: bxR cb rb :: F) (FldAt l rb gb cs (bxR cb rb :: F) (Fk.pr l a .tt) 2) := by
  refine Fn_enter Tryz.func19 rfl Tryz.ntmps19 rfl fun g => ?_
  repeat (first | refine RQ ?_ | (refine RE ?_; try intro _) | refine RC ?_ | refine WC_region ?_)
  refine WL_op rfl (OW_call rfl (hF := Bool_fn ha hl _) (hk := ?_))
  rintro _ _ (⟨hc, rfl, rfl⟩ | ⟨hc, p, rfl, rfl⟩)
  · repeat (first | refine RQ ?_ | (refine RE ?_; try intro _) | refine RC ?_ | refine WC_region ?_)
    exact ⟨rfl, _, _, Res1 rfl (resV_tmp rfl), .refl _, .inl ⟨.bool ((bVal l a).toNat == 1), a + 1, by simp only [Fk.pr]; rw [if_pos hc], tNext_le hc, rfl, rfl⟩⟩
  · repeat (first | refine RQ ?_ | (refine RE ?_; try intro _) | refine RC ?_ | refine WC_region ?_)
    exact ⟨rfl, _, _, Res1 rfl (resV_tmp rfl), .refl _, .inr ⟨tCode l a, a, _, a, _, by simp only [Fk.pr]; rw [if_neg hc], ha, by simp, rfl, rfl⟩⟩
set_option maxHeartbeats 1000000 in
theorem get3_fn {l : List UInt8} {a rb gb cb : Nat} {cs : Array Value} (ha : a ≤ l.length) (hl : l.length ≤ 1000000000) (hoff : 3 < cs.size) (F : List (Nat × Obj)) :
    Fn Tryz.prog 21 [ptr cb 0, ptr gb 0] ((rb, rdO l a) :: (gb, gmO cs) :: bxR cb rb :: F) (FldAt l rb gb cs (bxR cb rb :: F) (Fk.pr l a .nn) 3) := by
  refine Fn_enter Tryz.func21 rfl Tryz.ntmps21 rfl fun g => ?_
  repeat (first | refine RQ ?_ | (refine RE ?_; try intro _) | refine RC ?_ | refine WC_region ?_)
  refine WL_op rfl (OW_call rfl (hF := U_fn ha hl _) (hk := ?_))
  rintro _ _ (⟨hc, rfl, rfl⟩ | ⟨hc, p, rfl, rfl⟩)
  · repeat (first | refine RQ ?_ | (refine RE ?_; try intro _) | refine RC ?_ | refine WC_region ?_)
    exact ⟨rfl, _, _, Res1 rfl (resV_tmp rfl), .refl _, .inl ⟨.int .u64 (uVal l a : Nat), uNext l a, by simp only [Fk.pr]; rw [if_pos hc], uNext_le hc, rfl, rfl⟩⟩
  · repeat (first | refine RQ ?_ | (refine RE ?_; try intro _) | refine RC ?_ | refine WC_region ?_)
    exact ⟨rfl, _, _, Res1 rfl (resV_tmp rfl), .refl _, .inr ⟨uCode l a, a, _, a, _, by simp only [Fk.pr]; rw [if_neg hc], ha, by simp, rfl, rfl⟩⟩
def gcs (life chan : Int) (ack : Bool) (seq room : Int) (ms : List Value) : Array Value := (.int .i64 life :: .int .i64 chan :: .bool ack :: .int .u64 seq :: .int .i64 room :: ms).toArray
def GramOk (g : GV) (cs : Array Value) (T : List (Nat × Obj)) : Prop := ∃ vb ve T1 T2, T = T1 ++ T2 ∧ Buf 3 1 vb T1 g.m.bins.length g.m.bins.flatten ∧ Buf 157 10 ve T2 g.m.ents.length g.m.ents.flatten ∧ cs = gcs g.life g.chan g.ack g.seq g.room (g.m.cellsV vb ve)
theorem putR_mid {pre mid vs : List Value} (h : mid.length = vs.length) : putR (pre ++ mid).toArray pre.length vs.toArray = (pre ++ vs).toArray := by
  unfold putR
  simp only [List.size_toArray]
  rw [List.drop_append, List.drop_eq_nil_of_le (by omega), show pre.length + vs.length - pre.length = vs.length by omega, ← h, List.drop_length]
  simp
theorem gcs_put {life chan : Int} {ack : Bool} {seq room : Int} {ms vs : List Value} (h : ms.length = vs.length) : putR (gcs life chan ack seq room ms) 5 vs.toArray = gcs life chan ack seq room vs :=
  putR_mid (pre := [.int .i64 life, .int .i64 chan, .bool ack, .int .u64 seq, .int .i64 room]) h
theorem gcs_size {life chan : Int} {ack : Bool} {seq room : Int} {ms : List Value} : (gcs life chan ack seq room ms).size = ms.length + 5 := rfl
def RestAt (l : List UInt8) (rb gb cb : Nat) (F : List (Nat × Obj)) (p : PR GV) (v : Value) (L' : List (Nat × Obj)) : Prop :=
  (∃ g b T cs', p = .ok g b ∧ b ≤ l.length ∧ GramOk g cs' T ∧ v = .nilIface ∧ L' = (rb, rdO l b) :: (gb, gmO cs') :: bxR cb rb :: (F ++ T)) ∨
  (∃ c e q b cs', p = .bad c e ∧ b ≤ l.length ∧ cs'.size = 29 ∧ v = flt q ∧ L' = (q, fltO c e) :: (rb, rdO l b) :: (gb, gmO cs') :: bxR cb rb :: F)
set_option maxHeartbeats 4000000 in
theorem get1_fn {l : List UInt8} {a rb gb cb : Nat} {life chan seq : Int} {ack : Bool} (ha : a ≤ l.length) (hl : l.length ≤ 1000000000) (F : List (Nat × Obj)) :
    Fn Tryz.prog 16 [ptr gb 0, ptr cb 0] ((rb, rdO l a) :: (gb, gmO (gcs life chan ack seq 0 zMsg)) :: bxR cb rb :: F) (RestAt l rb gb cb F (prTail l life chan ack seq a)) := by
  refine Fn_enter Tryz.func16 rfl Tryz.ntmps16 rfl fun g => ?_
  have hsz : (gcs life chan ack seq 0 zMsg).size = 29 := rfl
  have h2 : (gcs life chan ack seq 0 zMsg)[2]? = some (.bool ack) := rfl
  cases hk : ack
  · subst hk
    repeat (first | refine RQ ?_ | (refine RE ?_; try intro _) | refine RC ?_ | refine WG 0 ?_ | refine WG 1 ?_ | refine WG 3 ?_)
    refine WL_op rfl (OW_call rfl (hF := GMsg_fn hl ha _) (hk := ?_))
    rintro _ _ (⟨b, T, cs', hok, hz, rfl, rfl⟩ | ⟨c, e, p, b, h1, hb, rfl, rfl⟩)
    · have hone := hok.2
      obtain ⟨m, vb, ve, T1, T2, h1, rfl, b1, b2, rfl⟩ := hok.1
      have hm := prMsg_went h1
      simp only [List.cons_append]
      repeat (first | refine RQ ?_ | (refine RE ?_; try intro _) | refine RC ?_ | refine WG 3 ?_ | refine WG 4 ?_)
      rw [gcs_put (by rw [MV.cellsV_len hm.1.ok]; rfl)]
      refine ⟨rfl, _, _, Res1 rfl (resV_tmp rfl), .refl _, .inl ⟨⟨life, chan, false, seq, 0, m⟩, b, T1 ++ T2, _, ?_, hm.2.2.1, ⟨vb, ve, T1, T2, rfl, b1, b2, rfl⟩, rfl, rfl⟩⟩
      unfold prTail
      rw [if_neg (by decide), h1]; rfl
    · repeat (first | refine RQ ?_ | (refine RE ?_; try intro _) | refine RC ?_ | refine WG 3 ?_ | refine WG 4 ?_)
      refine ⟨rfl, _, _, Res1 rfl (resV_tmp rfl), .refl _, .inr ⟨c, e, p, b, _, ?_, hb, ?_, rfl, rfl⟩⟩
      · unfold prTail
        rw [if_neg (by decide), h1]; rfl
      · rw [putR_size _ _ _ (by rw [hsz]; exact Nat.le_of_ble_eq_true rfl)]; rfl
  · subst hk
    repeat (first | refine RQ ?_ | (refine WL_op rfl ?_; (first | (refine OW_call rfl (hF := number_fn (most := 16)) (hk := ?_); rintro _ _ ⟨b3, b4, b5, rfl, rfl⟩))) | refine RC ?_ | refine WG 0 ?_ | refine WG 1 ?_ | refine WG 2 ?_)
    refine WL_front 1 rfl (WL_front 1 rfl (WL_front 2 rfl (WL_front 4 rfl (WL_front 4 rfl ?_))))
    refine WL_op rfl (OW_callv rfl rfl rfl rfl rfl (number1_fn ha hl (by rw [hsz]; decide) (by decide) _) ?_)
    rintro _ _ (⟨x, b, h1, hb, rfl, rfl⟩ | ⟨c, e, p, b, cs', h1, hb, hz, rfl, rfl⟩)
    · obtain ⟨x, b', e1, e2⟩ := PR.bind_ok h1
      cases e2
      repeat (first | refine RQ ?_ | (refine WL_op rfl ?_; (first | (refine OW_call rfl (hF := number_fn (most := 16)) (hk := ?_); rintro _ _ ⟨b3, b4, b5, rfl, rfl⟩))) | refine RC ?_ | refine WG 2 ?_)
      refine ⟨rfl, _, _, Res1 rfl (resV_tmp rfl), .cons_cons _ (.cons_cons _ (.cons _ (.cons _ (.cons _ (.refl _))))), .inl ⟨⟨life, chan, true, seq, x, MV.none⟩, b, [], _, ?_, hb, ⟨nilS, nilS, [], [], rfl, Buf.nil _ _, Buf.nil _ _, rfl⟩, rfl, by rw [List.append_nil]; rfl⟩⟩
      unfold prTail
      rw [if_pos rfl, e1]; rfl
    · repeat (first | refine RQ ?_ | (refine WL_op rfl ?_; (first | (refine OW_call rfl (hF := number_fn (most := 16)) (hk := ?_); rintro _ _ ⟨b3, b4, b5, rfl, rfl⟩))) | refine RC ?_ | refine WG 2 ?_)
      refine ⟨rfl, _, _, Res1 rfl (resV_tmp rfl), .cons_cons _ (.cons_cons _ (.cons_cons _ (.cons _ (.cons _ (.cons _ (.refl _)))))), .inr ⟨c, e, p, b, cs', ?_, hb, by rw [hz]; rfl, rfl, rfl⟩⟩
      unfold prUV at h1
      unfold prTail
      rw [if_pos rfl]
      cases h5 : prU l 16 a with
      | ok y b2 => rw [h5] at h1; cases h1
      | bad c2 e2 => rw [h5] at h1; cases h1; rfl
end Go.Proofs.YtgimodceldoniaaGreatDoor
namespace Go.Proofs.YtgimodceldoniaaGreatDoor
open Go.RowKit
attribute [local irreducible] Fn WC WL WR OW Qt YieldFn QW FnP FnD FnE
theorem as_nil_fn {t : Value} {L : List (Nat × Obj)} : Fn Tryz.prog 24 [.nilIface, t] L (fun v L' => v = .bool false ∧ L' = L) := by
  unfold Fn
  intro g w hm
  refine (as_nil t w).mono fun e w' ⟨he, hw'⟩ => ?_
  subst hw'
  exact ⟨_, _, he, hm, rfl, rfl⟩
theorem prN_pr {l : List UInt8} {a : Nat} : Fk.pr l a .nn = (prN l a).bind fun x b => .ok (.int .u64 x) b := by
  simp only [Fk.pr, prN]
  split <;> rfl
theorem PR.bind_bad' {α β : Type} {r : PR α} {f : α → β} {c a : Nat} (h : (r.bind fun x b => PR.ok (f x) b) = .bad c a) : r = .bad c a := by
  cases r with
  | ok x n => cases h
  | bad c' a' => cases h; rfl
theorem gcs_s0 {life chan x : Int} {ack : Bool} {seq room : Int} {ms : List Value} : (gcs life chan ack seq room ms).setIfInBounds 0 (.int .i64 x) = gcs x chan ack seq room ms := by unfold gcs; simp
theorem gcs_s1 {life chan x : Int} {ack : Bool} {seq room : Int} {ms : List Value} : (gcs life chan ack seq room ms).setIfInBounds 1 (.int .i64 x) = gcs life x ack seq room ms := by unfold gcs; simp
theorem gcs_s2 {life chan : Int} {ack x : Bool} {seq room : Int} {ms : List Value} : (gcs life chan ack seq room ms).setIfInBounds 2 (.bool x) = gcs life chan x seq room ms := by unfold gcs; simp
theorem gcs_s3 {life chan x : Int} {ack : Bool} {seq room : Int} {ms : List Value} : (gcs life chan ack seq room ms).setIfInBounds 3 (.int .u64 x) = gcs life chan ack x room ms := by unfold gcs; simp
theorem GramOk.one {g : GV} {cs : Array Value} {T : List (Nat × Obj)} (h : GramOk g cs T) (hm : g.m.Ok) : (cs.toList.all fun v => v.oneCell') = true := by
  obtain ⟨vb, ve, T1, T2, _, b1, b2, rfl⟩ := h
  show ((_ :: _ :: _ :: _ :: _ :: g.m.cellsV vb ve).all _) = true
  have := MV.cellsV_one hm b1.one b2.one
  simp only [List.all_cons, this]; rfl
theorem GramOk.size {g : GV} {cs : Array Value} {T : List (Nat × Obj)} (h : GramOk g cs T) (hm : g.m.Ok) : cs.size = 29 := by
  obtain ⟨vb, ve, T1, T2, _, b1, b2, rfl⟩ := h
  rw [gcs_size, MV.cellsV_len hm]
def GotAt (l : List UInt8) (F : List (Nat × Obj)) (v : Value) (L' : List (Nat × Obj)) : Prop :=
  (∃ g b T cs', prGram l = .ok g b ∧ GramOk g cs' T ∧ v = .tuple #[.agg cs', .nilIface] ∧ L' = F ++ T) ∨
  (∃ c e p, prGram l = .bad c e ∧ v = .tuple #[.agg zc38, flt p] ∧ L' = (p, fltO c e) :: F)
theorem HandleIn.left {L : List (Nat × Obj)} (B : List (Nat × Obj)) (h : HandleIn L) : HandleIn (L ++ B) := by
  obtain ⟨cs, E, fr, h1, h2⟩ := h
  exact ⟨cs, E, fr, List.mem_append_left _ h1, h2⟩
theorem WC_dropS {c : Cx} {code : Code} {K : Exit → St → Prop} {s : List (Nat × Value)} {D : List Deferred} {L L' : List (Nat × Obj)} (hs : L'.Sublist L) (h : WC c code K ⟨s, D, L'⟩) : WC c code K ⟨s, D, L⟩ := WC_dropL L' hs h
theorem bind_okf {α β : Type} {x : α} {a : Nat} {f : α → Nat → PR β} {r : PR α} (h : r = .ok x a) : r.bind f = f x a := by rw [h]; rfl
theorem bind_badf {α β : Type} {c a : Nat} {f : α → Nat → PR β} {r : PR α} (h : r = .bad c a) : r.bind f = .bad c a := by rw [h]; rfl
set_option maxHeartbeats 8000000 in
set_option maxRecDepth 100000 in
theorem Get_fn {l : List UInt8} (hl : l.length ≤ 1000000000) {L : List (Nat × Obj)} (hH : HandleIn L) : Fn Tryz.prog 8 [.string (bstr l)] L (GotAt l L) := by
  refine Fn_enter Tryz.func8 rfl Tryz.ntmps8 rfl fun g => ?_
  repeat (first | refine RQ ?_ | (refine RE ?_; try intro _) | (refine WL_op rfl ?_; (first | (refine OW_call rfl (hF := new_rd) (hk := ?_); rintro _ _ ⟨rb, rfl, rfl⟩))) | refine RC ?_ | refine WG 0 ?_ | refine WG 1 ?_ | refine WG 2 ?_ | refine WG 3 ?_)
  rename_i res gb cb
  repeat (first | refine RQr ?_ | (refine OX ?_; (first | (refine OW_call rfl (hF := number_fn (most := 65535)) (hk := ?_); rintro _ _ ⟨b3, b4, b5, rfl, rfl⟩) | (refine OW_call rfl (hF := number_fn (most := 99)) (hk := ?_); rintro _ _ ⟨b3, b4, b5, rfl, rfl⟩)); try refine SD ?_) | refine RC ?_ | refine RU ?_ | refine WC_draw_all (id := 4) 14 (Cs [0,1,3,4,6,7,8,9,10,13] <| .must 2 <| .must 5 <| .must 11 <| .calm 12 <| .done) mixed (by kernel_rfl) ?_)
  rename_i x3 x4 x5
  refine WR_opG rfl rfl (OW_buildS rfl (hk := ?_))
  intro sb
  refine ⟨(by first | exact fun _ h => h | exact fun _ h => List.Sublist.subset (by repeat (first | exact .refl _ | exact List.nil_sublist _ | exact List.sublist_append_right _ _ | exact List.Sublist.append (.refl _) (List.sublist_append_right _ _) | apply List.Sublist.cons_cons | apply List.Sublist.cons)) h), ?_⟩
  repeat (first | refine RQr ?_ | (refine OX ?_; (first | (refine OW_call rfl (hF := number_fn (most := 65535)) (hk := ?_); rintro _ _ ⟨b3, b4, b5, rfl, rfl⟩) | (refine OW_call rfl (hF := number_fn (most := 99)) (hk := ?_); rintro _ _ ⟨b3, b4, b5, rfl, rfl⟩)); try refine SD ?_) | refine RC ?_ | refine RU ?_ | refine WC_draw_all (id := 4) 14 (Cs [0,1,3,4,6,7,8,9,10,13] <| .must 2 <| .must 5 <| .must 11 <| .calm 12 <| .done) mixed (by kernel_rfl) ?_)
  refine WC_wk [(24, .slice (some ⟨sb, 0, none⟩) 6 6), (25, .int .i64 6), (26, .int .i64 0), (4, ptr gb 0), (2, ptr res 0)] ⟨rfl, rfl, rfl, rfl, rfl, trivial⟩ ?_
  refine WC_dropL ((sb, .cells #[.func (.func 29) #[] #[ptr x3 0, ptr x5 0, ptr x4 0], .func (.func 29) #[] #[ptr b3 0, ptr b5 0, ptr b4 0], .func (.func 19) #[] #[ptr cb 0, ptr gb 0], .func (.func 21) #[] #[ptr cb 0, ptr gb 0], .func (.func 16) #[] #[ptr gb 0, ptr cb 0], .func (.func 23) #[ptr rb 0] #[]] 62 (0, 0)) :: bxN b5 99 :: bxT b4 gb 1 :: bxR b3 rb :: bxN x5 65535 :: bxT x4 gb 0 :: bxR x3 rb :: bxR cb rb :: (rb, rdO l 0) :: (gb, gmO (gcs 0 0 false 0 0 zMsg)) :: (res, gmO zc38) :: L) (.refl _) ?_
  refine WC_unroll 7 (WCn_s ?_)
  have hsz : ∀ {a b : Int} {k : Bool} {s r : Int}, (gcs a b k s r zMsg).size = 29 := rfl
  repeat (first | refine RQ ?_ | (refine RE ?_; try intro _) | (refine WL_op rfl ?_; (first | refine OW_callP rfl (hF := as_nil_fn) (hk := ?_))) | refine RC ?_ | refine WG 5 ?_ | refine WG 6 ?_ | refine WG 7 ?_ | refine WG 8 ?_)
  rename_i tb0
  refine WL_front 6 rfl ?_
  refine WL_front 6 rfl ?_
  refine WL_front 7 rfl ?_
  refine WL_front 10 rfl ?_
  refine WL_front 10 rfl ?_
  refine WL_op rfl (OW_callv rfl rfl rfl rfl rfl (number1_fn (Nat.zero_le _) hl (by rw [hsz]; decide) (by decide) _) ?_)
  rintro _ _ (⟨x, b, h1, hb, rfl, rfl⟩ | ⟨c, e, p, b, cs', h1, hb, hz, rfl, rfl⟩)
  rotate_left
  · repeat (first | refine RQ ?_ | (refine WL_op rfl ?_; (first | refine OW_callP rfl (hF := as_nil_fn) (hk := ?_))) | refine RC ?_ | refine WG 8 ?_)
    refine WL_op rfl (OW_call rfl (hF := as_fn (by repeat (first | with_reducible assumption | apply HandleIn.cons | apply HandleIn.left)) (i := 6) rfl) (hk := ?_))
    rintro _ _ ⟨rfl, rfl⟩
    simp only [List.set_cons_zero, List.set_cons_succ]
    replace h1 : prU l 65535 0 = .bad c e := PR.bind_bad' h1
    have e9 : prGram l = .bad c e := by unfold prGram; rw [bind_badf h1]
    repeat' (first | refine RQr ?_ | (refine OX ?_; (first | (refine OE ?_; try intro _) | refine OW_callP rfl (hF := as_nil_fn) (hk := ?_)); try refine SD ?_) | refine RC ?_ | refine RU ?_ | refine WC_draw_all (id := 9) 0 (.either 0 (.either 1 (.either 2 (.must 3 <| .must 4 <| .done) 3 (.must 2 <| .must 4 <| .done)) 3 (.must 1 <| .must 2 <| .must 4 <| .done)) 1 (.either 0 (.either 2 (.must 3 <| .must 4 <| .done) 3 (.must 2 <| .must 4 <| .done)) 2 (.must 0 <| .must 3 <| .must 4 <| .done))) mixed (by kernel_rfl) ?_ | refine WG 8 ?_ | refine WR_either ?_ ?_)
    all_goals exact ⟨rfl, _, (p, fltO c e) :: L, Res2 rfl (resV_cellN rfl 12 rfl rfl) (resV_tmp rfl), .cons_cons _ (by repeat (first | exact List.Sublist.refl _ | apply List.Sublist.cons)), .inr ⟨c, e, p, e9, rfl, rfl⟩⟩
  obtain ⟨life, a1, e1, e'⟩ := PR.bind_ok h1
  injection e' with q1 q2
  subst q1
  subst q2
  have ha1 := hb
  rw [gcs_s0]
  repeat (first | refine RQ ?_ | (refine WL_op rfl ?_; (first | refine OW_callP rfl (hF := as_nil_fn) (hk := ?_))) | refine RC ?_ | refine WG 8 ?_ | refine WG 10 ?_)
  refine WC_dropS (.cons_cons _ (.cons_cons _ (.cons_cons _ (.cons_cons _ (.cons_cons _ (.cons _ (.refl _))))))) ?_
  repeat (first | refine RQ ?_ | (refine RE ?_; try intro _) | (refine WL_op rfl ?_; (first | refine OW_callP rfl (hF := as_nil_fn) (hk := ?_))) | refine RC ?_ | refine WG 5 ?_ | refine WG 6 ?_ | refine WG 7 ?_ | refine WG 8 ?_)
  rename_i tb1
  refine WL_front 8 rfl ?_
  refine WL_front 8 rfl ?_
  refine WL_front 9 rfl ?_
  refine WL_front 5 rfl ?_
  refine WL_front 5 rfl ?_
  refine WL_op rfl (OW_callv rfl rfl rfl rfl rfl (number1_fn ha1 hl (by rw [hsz]; decide) (by decide) _) ?_)
  rintro _ _ (⟨x, b, h1, hb, rfl, rfl⟩ | ⟨c, e, p, b, cs', h1, hb, hz, rfl, rfl⟩)
  rotate_left
  · repeat (first | refine RQ ?_ | (refine WL_op rfl ?_; (first | refine OW_callP rfl (hF := as_nil_fn) (hk := ?_))) | refine RC ?_ | refine WG 8 ?_)
    refine WL_op rfl (OW_call rfl (hF := as_fn (by repeat (first | with_reducible assumption | apply HandleIn.cons | apply HandleIn.left)) (i := 6) rfl) (hk := ?_))
    rintro _ _ ⟨rfl, rfl⟩
    simp only [List.set_cons_zero, List.set_cons_succ]
    replace h1 : prU l 99 a1 = .bad c e := PR.bind_bad' h1
    have e9 : prGram l = .bad c e := by unfold prGram; rw [bind_okf e1, bind_badf h1]
    repeat' (first | refine RQr ?_ | (refine OX ?_; (first | (refine OE ?_; try intro _) | refine OW_callP rfl (hF := as_nil_fn) (hk := ?_)); try refine SD ?_) | refine RC ?_ | refine RU ?_ | refine WC_draw_all (id := 9) 0 (.either 0 (.either 1 (.either 2 (.must 3 <| .must 4 <| .done) 3 (.must 2 <| .must 4 <| .done)) 3 (.must 1 <| .must 2 <| .must 4 <| .done)) 1 (.either 0 (.either 2 (.must 3 <| .must 4 <| .done) 3 (.must 2 <| .must 4 <| .done)) 2 (.must 0 <| .must 3 <| .must 4 <| .done))) mixed (by kernel_rfl) ?_ | refine WG 8 ?_ | refine WR_either ?_ ?_)
    all_goals exact ⟨rfl, _, (p, fltO c e) :: L, Res2 rfl (resV_cellN rfl 12 rfl rfl) (resV_tmp rfl), .cons_cons _ (by repeat (first | exact List.Sublist.refl _ | apply List.Sublist.cons)), .inr ⟨c, e, p, e9, rfl, rfl⟩⟩
  obtain ⟨chan, a2, e2, e'⟩ := PR.bind_ok h1
  injection e' with q1 q2
  subst q1
  subst q2
  have ha2 := hb
  rw [gcs_s1]
  repeat (first | refine RQ ?_ | (refine WL_op rfl ?_; (first | refine OW_callP rfl (hF := as_nil_fn) (hk := ?_))) | refine RC ?_ | refine WG 8 ?_ | refine WG 10 ?_)
  refine WC_dropS (.cons_cons _ (.cons_cons _ (.cons_cons _ (.cons_cons _ (.cons_cons _ (.cons _ (.refl _))))))) ?_
  repeat (first | refine RQ ?_ | (refine RE ?_; try intro _) | (refine WL_op rfl ?_; (first | refine OW_callP rfl (hF := as_nil_fn) (hk := ?_))) | refine RC ?_ | refine WG 5 ?_ | refine WG 6 ?_ | refine WG 7 ?_ | refine WG 8 ?_)
  rename_i tb2
  refine WL_front 10 rfl ?_
  refine WL_front 3 rfl ?_
  refine WL_front 3 rfl ?_
  refine WL_op rfl (OW_callv rfl rfl rfl rfl rfl (get2_fn ha2 hl (by rw [hsz]; decide) _) ?_)
  rintro _ _ (⟨x, b, h1, hb, rfl, rfl⟩ | ⟨c, e, p, b, cs', h1, hb, hz, rfl, rfl⟩)
  rotate_left
  · repeat (first | refine RQ ?_ | (refine WL_op rfl ?_; (first | refine OW_callP rfl (hF := as_nil_fn) (hk := ?_))) | refine RC ?_ | refine WG 8 ?_)
    refine WL_op rfl (OW_call rfl (hF := as_fn (by repeat (first | with_reducible assumption | apply HandleIn.cons | apply HandleIn.left)) (i := 4) rfl) (hk := ?_))
    rintro _ _ ⟨rfl, rfl⟩
    simp only [List.set_cons_zero, List.set_cons_succ]
    replace h1 : prT l a2 = .bad c e := by rw [prT_pr] at h1; exact PR.bind_bad' h1
    have e9 : prGram l = .bad c e := by unfold prGram; rw [bind_okf e1, bind_okf e2, bind_badf h1]
    repeat' (first | refine RQr ?_ | (refine OX ?_; (first | (refine OE ?_; try intro _) | refine OW_callP rfl (hF := as_nil_fn) (hk := ?_)); try refine SD ?_) | refine RC ?_ | refine RU ?_ | refine WC_draw_all (id := 9) 0 (.either 0 (.either 1 (.either 2 (.must 3 <| .must 4 <| .done) 3 (.must 2 <| .must 4 <| .done)) 3 (.must 1 <| .must 2 <| .must 4 <| .done)) 1 (.either 0 (.either 2 (.must 3 <| .must 4 <| .done) 3 (.must 2 <| .must 4 <| .done)) 2 (.must 0 <| .must 3 <| .must 4 <| .done))) mixed (by kernel_rfl) ?_ | refine WG 8 ?_ | refine WR_either ?_ ?_)
    all_goals exact ⟨rfl, _, (p, fltO c e) :: L, Res2 rfl (resV_cellN rfl 12 rfl rfl) (resV_tmp rfl), .cons_cons _ (by repeat (first | exact List.Sublist.refl _ | apply List.Sublist.cons)), .inr ⟨c, e, p, e9, rfl, rfl⟩⟩
  rw [prT_pr] at h1
  obtain ⟨ack, a3, e3, e'⟩ := PR.bind_ok h1
  injection e' with q1 q2
  subst q1
  subst q2
  have ha3 := hb
  rw [gcs_s2]
  repeat (first | refine RQ ?_ | (refine WL_op rfl ?_; (first | refine OW_callP rfl (hF := as_nil_fn) (hk := ?_))) | refine RC ?_ | refine WG 8 ?_ | refine WG 10 ?_)
  refine WC_dropS (.cons_cons _ (.cons_cons _ (.cons_cons _ (.cons _ (.refl _))))) ?_
  repeat (first | refine RQ ?_ | (refine RE ?_; try intro _) | (refine WL_op rfl ?_; (first | refine OW_callP rfl (hF := as_nil_fn) (hk := ?_))) | refine RC ?_ | refine WG 5 ?_ | refine WG 6 ?_ | refine WG 7 ?_ | refine WG 8 ?_)
  rename_i tb3
  refine WL_front 3 rfl ?_
  refine WL_front 3 rfl ?_
  refine WL_front 3 rfl ?_
  refine WL_op rfl (OW_callv rfl rfl rfl rfl rfl (get3_fn ha3 hl (by rw [hsz]; decide) _) ?_)
  rintro _ _ (⟨x, b, h1, hb, rfl, rfl⟩ | ⟨c, e, p, b, cs', h1, hb, hz, rfl, rfl⟩)
  rotate_left
  · repeat (first | refine RQ ?_ | (refine WL_op rfl ?_; (first | refine OW_callP rfl (hF := as_nil_fn) (hk := ?_))) | refine RC ?_ | refine WG 8 ?_)
    refine WL_op rfl (OW_call rfl (hF := as_fn (by repeat (first | with_reducible assumption | apply HandleIn.cons | apply HandleIn.left)) (i := 4) rfl) (hk := ?_))
    rintro _ _ ⟨rfl, rfl⟩
    simp only [List.set_cons_zero, List.set_cons_succ]
    replace h1 : prN l a3 = .bad c e := by rw [prN_pr] at h1; exact PR.bind_bad' h1
    have e9 : prGram l = .bad c e := by unfold prGram; rw [bind_okf e1, bind_okf e2, bind_okf e3, bind_badf h1]
    repeat' (first | refine RQr ?_ | (refine OX ?_; (first | (refine OE ?_; try intro _) | refine OW_callP rfl (hF := as_nil_fn) (hk := ?_)); try refine SD ?_) | refine RC ?_ | refine RU ?_ | refine WC_draw_all (id := 9) 0 (.either 0 (.either 1 (.either 2 (.must 3 <| .must 4 <| .done) 3 (.must 2 <| .must 4 <| .done)) 3 (.must 1 <| .must 2 <| .must 4 <| .done)) 1 (.either 0 (.either 2 (.must 3 <| .must 4 <| .done) 3 (.must 2 <| .must 4 <| .done)) 2 (.must 0 <| .must 3 <| .must 4 <| .done))) mixed (by kernel_rfl) ?_ | refine WG 8 ?_ | refine WR_either ?_ ?_)
    all_goals exact ⟨rfl, _, (p, fltO c e) :: L, Res2 rfl (resV_cellN rfl 12 rfl rfl) (resV_tmp rfl), .cons_cons _ (by repeat (first | exact List.Sublist.refl _ | apply List.Sublist.cons)), .inr ⟨c, e, p, e9, rfl, rfl⟩⟩
  rw [prN_pr] at h1
  obtain ⟨seq, a4, e4, e'⟩ := PR.bind_ok h1
  injection e' with q1 q2
  subst q1
  subst q2
  have ha4 := hb
  rw [gcs_s3]
  repeat (first | refine RQ ?_ | (refine WL_op rfl ?_; (first | refine OW_callP rfl (hF := as_nil_fn) (hk := ?_))) | refine RC ?_ | refine WG 8 ?_ | refine WG 10 ?_)
  refine WC_dropS (.cons_cons _ (.cons_cons _ (.cons_cons _ (.cons _ (.refl _))))) ?_
  repeat (first | refine RQ ?_ | (refine RE ?_; try intro _) | (refine WL_op rfl ?_; (first | refine OW_callP rfl (hF := as_nil_fn) (hk := ?_))) | refine RC ?_ | refine WG 5 ?_ | refine WG 6 ?_ | refine WG 7 ?_ | refine WG 8 ?_)
  rename_i tb4
  refine WL_front 3 rfl ?_
  refine WL_front 3 rfl ?_
  refine WL_front 3 rfl ?_
  refine WL_op rfl (OW_callv rfl rfl rfl rfl rfl (get1_fn ha4 hl _) ?_)
  rintro _ _ (⟨gv, a5, T, cs', e5, ha5, hG, rfl, rfl⟩ | ⟨c, e, p, b, cs', h1, hb, hz, rfl, rfl⟩)
  rotate_left
  · repeat (first | refine RQ ?_ | (refine WL_op rfl ?_; (first | refine OW_callP rfl (hF := as_nil_fn) (hk := ?_))) | refine RC ?_ | refine WG 8 ?_)
    refine WL_op rfl (OW_call rfl (hF := as_fn (by repeat (first | with_reducible assumption | apply HandleIn.cons | apply HandleIn.left)) (i := 4) rfl) (hk := ?_))
    rintro _ _ ⟨rfl, rfl⟩
    simp only [List.set_cons_zero, List.set_cons_succ]
    skip
    have e9 : prGram l = .bad c e := by unfold prGram; rw [bind_okf e1, bind_okf e2, bind_okf e3, bind_okf e4, bind_badf h1]
    repeat' (first | refine RQr ?_ | (refine OX ?_; (first | (refine OE ?_; try intro _) | refine OW_callP rfl (hF := as_nil_fn) (hk := ?_)); try refine SD ?_) | refine RC ?_ | refine RU ?_ | refine WC_draw_all (id := 9) 0 (.either 0 (.either 1 (.either 2 (.must 3 <| .must 4 <| .done) 3 (.must 2 <| .must 4 <| .done)) 3 (.must 1 <| .must 2 <| .must 4 <| .done)) 1 (.either 0 (.either 2 (.must 3 <| .must 4 <| .done) 3 (.must 2 <| .must 4 <| .done)) 2 (.must 0 <| .must 3 <| .must 4 <| .done))) mixed (by kernel_rfl) ?_ | refine WG 8 ?_ | refine WR_either ?_ ?_)
    all_goals exact ⟨rfl, _, (p, fltO c e) :: L, Res2 rfl (resV_cellN rfl 12 rfl rfl) (resV_tmp rfl), .cons_cons _ (by repeat (first | exact List.Sublist.refl _ | apply List.Sublist.cons)), .inr ⟨c, e, p, e9, rfl, rfl⟩⟩
  simp only [List.cons_append]
  repeat (first | refine RQ ?_ | (refine WL_op rfl ?_; (first | refine OW_callP rfl (hF := as_nil_fn) (hk := ?_))) | refine RC ?_ | refine WG 8 ?_ | refine WG 10 ?_)
  refine WC_dropS (.cons_cons _ (.cons_cons _ (.cons_cons _ (.cons _ (.refl _))))) ?_
  repeat (first | refine RQ ?_ | (refine RE ?_; try intro _) | (refine WL_op rfl ?_; (first | refine OW_callP rfl (hF := as_nil_fn) (hk := ?_))) | refine RC ?_ | refine WG 5 ?_ | refine WG 6 ?_ | refine WG 7 ?_ | refine WG 8 ?_)
  rename_i tb5
  refine WL_front 1 rfl ?_
  refine WL_op rfl (OW_callv rfl rfl rfl rfl rfl (End_fn ha5 _) ?_)
  rintro _ _ (⟨hc, rfl, rfl⟩ | ⟨hc, p, rfl, rfl⟩)
  rotate_left
  · have hlt : a5 < l.length := by
      unfold eCode at hc
      split at hc
      · assumption
      · exact absurd rfl hc
    repeat (first | refine RQ ?_ | (refine WL_op rfl ?_; (first | refine OW_callP rfl (hF := as_nil_fn) (hk := ?_))) | refine RC ?_ | refine WG 8 ?_)
    refine WL_op rfl (OW_call rfl (hF := as_fn (by repeat (first | with_reducible assumption | apply HandleIn.cons | apply HandleIn.left)) (i := 2) rfl) (hk := ?_))
    rintro _ _ ⟨rfl, rfl⟩
    simp only [List.set_cons_zero, List.set_cons_succ]
    have e9 : prGram l = .bad (eCode l a5) a5 := by
      unfold prGram
      rw [bind_okf e1, bind_okf e2, bind_okf e3, bind_okf e4, bind_okf e5]
      unfold prEnd eCode
      rw [if_pos hlt, if_pos hlt]
    repeat' (first | refine RQr ?_ | (refine OX ?_; (first | (refine OE ?_; try intro _) | refine OW_callP rfl (hF := as_nil_fn) (hk := ?_)); try refine SD ?_) | refine RC ?_ | refine RU ?_ | refine WC_draw_all (id := 9) 0 (.either 0 (.either 1 (.either 2 (.must 3 <| .must 4 <| .done) 3 (.must 2 <| .must 4 <| .done)) 3 (.must 1 <| .must 2 <| .must 4 <| .done)) 1 (.either 0 (.either 2 (.must 3 <| .must 4 <| .done) 3 (.must 2 <| .must 4 <| .done)) 2 (.must 0 <| .must 3 <| .must 4 <| .done))) mixed (by kernel_rfl) ?_ | refine WG 8 ?_ | refine WR_either ?_ ?_)
    all_goals exact ⟨rfl, _, (p, fltO (eCode l a5) a5) :: L, Res2 rfl (resV_cellN rfl 12 rfl rfl) (resV_tmp rfl), .cons_cons _ (by repeat (first | exact List.Sublist.refl _ | exact List.sublist_append_left _ _ | apply List.Sublist.cons)), .inr ⟨eCode l a5, a5, p, e9, rfl, rfl⟩⟩
  repeat (first | refine RQ ?_ | (refine WL_op rfl ?_; (first | refine OW_callP rfl (hF := as_nil_fn) (hk := ?_))) | refine RC ?_ | refine WG 8 ?_ | refine WG 10 ?_)
  have hnl : ¬ a5 < l.length := by
    unfold eCode at hc
    split at hc
    · cases hc
    · assumption
  have e6 : prGram l = .ok gv a5 := by
    unfold prGram
    rw [bind_okf e1, bind_okf e2, bind_okf e3, bind_okf e4, bind_okf e5]
    unfold prEnd
    rw [if_neg hnl]
  have hm := (prGram_went e6).1.ok.m
  have hone := hG.one hm
  have hsz2 := hG.size hm
  repeat (first | refine RQ ?_ | (refine RE ?_; try intro _) | refine RC ?_ | refine WG 5 ?_ | refine WG 11 ?_)
  refine ⟨rfl, _, L ++ T, Res2 rfl (resV_cellN rfl 11 rfl hsz2) (resV_tmp rfl), (by repeat (first | exact List.Sublist.refl _ | apply List.Sublist.cons)), .inl ⟨gv, a5, T, cs', e6, hG, rfl, rfl⟩⟩
end Go.Proofs.YtgimodceldoniaaGreatDoor
namespace Go.Proofs.YtgimodceldoniaaGreatDoor
open Go.RowKit
theorem flat_get {vss : List (List Value)} {sz : Nat} : ∀ {j k : Nat} {vs : List Value} {v : Value}, (∀ vs ∈ vss, vs.length = sz) → vss[j]? = some vs → vs[k]? = some v → vss.flatten[j * sz + k]? = some v := by
  induction vss with
  | nil => intro j k vs v _ h; simp at h
  | cons x xs ih =>
    intro j k vs v hs h hk
    have hx := hs x (List.mem_cons_self ..)
    rw [List.flatten_cons]
    cases j with
    | zero =>
      simp only [List.getElem?_cons_zero, Option.some.injEq] at h
      subst h
      have := (List.getElem?_eq_some_iff.1 hk).1
      rw [Nat.zero_mul, Nat.zero_add, List.getElem?_append_left this]; exact hk
    | succ j =>
      rw [List.getElem?_cons_succ] at h
      rw [List.getElem?_append_right (by rw [hx, Nat.succ_mul]; omega), hx, show (j + 1) * sz + k - sz = j * sz + k by rw [Nat.succ_mul]; omega]
      exact ih (fun vs hv => hs vs (List.mem_cons_of_mem _ hv)) h hk
theorem Buf.elems {E sz : Nat} {v : Value} {T : List (Nat × Obj)} {n : Nat} {vss : List (List Value)} (h : Buf E sz v T n vss.flatten) (hs : ∀ vs ∈ vss, vs.length = sz) (hn : n = vss.length) : ∃ a cap, v = .slice a vss.length cap ∧ vss.length ≤ cap ∧ cap ≤ maxLen ∧ Elems T a sz vss := by
  subst hn
  rcases h with ⟨_, h2, rfl, rfl⟩ | ⟨g, off, cap, cur, rfl, rfl, ho⟩
  · have e : vss = [] := List.eq_nil_of_length_eq_zero h2
    subst e
    exact ⟨_, _, rfl, Nat.le_refl _, by simp [maxLen], .inl rfl⟩
  · refine ⟨_, _, rfl, ho.le, ho.max, .inr ⟨g, off, 0, cur, E, (0, 0), rfl, rfl, fun j vs hj => ⟨fun k v hk => ?_, Free.zero _ _⟩⟩⟩
    rw [Nat.add_assoc]
    exact ho.at_ _ _ (flat_get hs hj hk)
theorem cmd_one {cs : Array Value} {ch ct : List Value} {v : Value} (hz : cs.size = 10) (h1 : Oks chF ch) (h2 : Oks ctF ct) (hv : v.oneCell' = true) (hl : Lies cs 0 (ch ++ (v :: ct))) : (cs.toList.all fun v => v.oneCell') = true := by
  have l1 := h1.len
  have l2 := h2.len
  simp only [List.length_cons, List.length_nil] at l1 l2
  rw [lies_whole hl (by rw [hz]; simp only [List.length_append, List.length_cons]; omega)]
  show ((ch ++ (v :: ct)).all _) = true
  rw [List.all_append, List.all_cons, h1.cells1, h2.cells1, hv]; rfl
end Go.Proofs.YtgimodceldoniaaGreatDoor
namespace Go.Proofs.YtgimodceldoniaaGreatDoor
open Go.RowKit
attribute [local irreducible] Fn WC WL WR OW Qt YieldFn QW FnP FnD FnE
def EqP (P : Program) (t : TypeId) (fs : List Fk) (h : Nat) : Prop := ∀ d, h ≤ d → ∀ (xs ys : Array Value) (off : Nat) (us vs : List Value), Lies xs off us → Lies ys off vs → Oks fs us → Oks fs vs → ∀ w,
  ∃ a b r, (part t xs off).run P w = .ok a w ∧ (part t ys off).run P w = .ok b w ∧ (Op.equalIn d t a b).run P w = .ok r w ∧ (r = true ↔ us = vs)
def EqFs (P : Program) (l : List Field) (o : Nat) (fs : List Fk) (h : Nat) : Prop := ∀ d, h ≤ d → ∀ (xs ys : Array Value) (us vs : List Value), Lies xs o us → Lies ys o vs → Oks fs us → Oks fs vs → ∀ w,
  ∃ r, (Op.eqFields d xs ys l).run P w = .ok r w ∧ (r = true ↔ us = vs)
theorem EqP.int {P : Program} {t : TypeId} {k : IntKind} {f : Fk} [hu : TUnd P t (.int k)] [ha : TAgg P t false] (hf : ∀ v, f.ok v → ∃ q x, v = .int q x) (hk : ∀ v u, f.ok v → f.ok u → ∀ q x, v = .int q x → ∃ y, u = .int q y) : EqP P t [f] 1 := fun d hd xs ys off us vs hx hy ho hp w => by
  obtain ⟨u, us, rfl, h1, h2⟩ := ho.split
  obtain ⟨v, vs, rfl, h3, h4⟩ := hp.split
  obtain rfl := h2.nil
  obtain rfl := h4.nil
  obtain ⟨q, x, rfl⟩ := hf u h1
  obtain ⟨y, rfl⟩ := hk _ v h1 h3 q x rfl
  obtain ⟨e, rfl⟩ : ∃ e, d = e + 1 := ⟨d - 1, by omega⟩
  refine ⟨_, _, _, part1 hx.cons.1 w, part1 hy.cons.1 w, run_equalIn_int w e t q k x y hu.h, ?_⟩
  simp
theorem EqP.ww {P : Program} {t : TypeId} {k : IntKind} [TUnd P t (.int k)] [TAgg P t false] : EqP P t [.ww] 1 :=
  EqP.int (fun v ⟨x, h, _⟩ => ⟨_, x, h⟩) fun v u ⟨x, h, _⟩ ⟨y, h', _⟩ q z e => ⟨y, by rw [h] at e; cases e; exact h'⟩
theorem EqP.kk {P : Program} {t : TypeId} {k : IntKind} [TUnd P t (.int k)] [TAgg P t false] : EqP P t [.kk] 1 :=
  EqP.int (fun v ⟨x, h, _⟩ => ⟨_, x, h⟩) fun v u ⟨x, h, _⟩ ⟨y, h', _⟩ q z e => ⟨y, by rw [h] at e; cases e; exact h'⟩
theorem EqP.bb {P : Program} {t : TypeId} {k : IntKind} [TUnd P t (.int k)] [TAgg P t false] : EqP P t [.bb] 1 :=
  EqP.int (fun v ⟨x, h⟩ => ⟨_, _, h⟩) fun v u ⟨x, h⟩ ⟨y, h'⟩ q z e => ⟨(y.toNat : Int), by rw [h] at e; cases e; exact h'⟩
theorem EqP.tt {P : Program} {t : TypeId} [hu : TUnd P t .bool] [TAgg P t false] : EqP P t [.tt] 1 := fun d hd xs ys off us vs hx hy ho hp w => by
  obtain ⟨u, us, rfl, ⟨x, rfl⟩, h2⟩ := ho.split
  obtain ⟨v, vs, rfl, ⟨y, rfl⟩, h4⟩ := hp.split
  obtain rfl := h2.nil
  obtain rfl := h4.nil
  obtain ⟨e, rfl⟩ : ∃ e, d = e + 1 := ⟨d - 1, by omega⟩
  refine ⟨_, _, _, part1 hx.cons.1 w, part1 hy.cons.1 w, run_equalIn_bool w e t x y hu.h, ?_⟩
  simp
theorem EqFs.nil {P : Program} {o h : Nat} : EqFs P [] o [] h := fun d _ xs ys us vs _ _ ho hp w => by
  obtain rfl := ho.nil
  obtain rfl := hp.nil
  exact ⟨true, by simp [Op.eqFields], by simp⟩
theorem EqFs.cons {P : Program} {f : Field} {l : List Field} {o h : Nat} {fs gs : List Fk} (hn : (f.name == "_") = false) (hof : f.offset = o) (h1 : EqP P f.type fs h) (h2 : EqFs P l (o + fs.length) gs h) : EqFs P (f :: l) o (fs ++ gs) h := fun d hd xs ys us vs hx hy ho hp w => by
  obtain ⟨u1, u2, rfl, o1, o2⟩ := ho.splitA
  obtain ⟨v1, v2, rfl, p1, p2⟩ := hp.splitA
  have x2 := hx.app.2
  have y2 := hy.app.2
  rw [o1.len] at x2
  rw [p1.len] at y2
  obtain ⟨a, b, r, q1, q2, q3, hiff⟩ := h1 d hd xs ys o u1 v1 hx.app.1 hy.app.1 o1 p1 w
  obtain ⟨r', q4, hiff'⟩ := h2 d hd xs ys u2 v2 x2 y2 o2 p2 w
  have hne : ¬ f.name = "_" := by simpa using hn
  rw [← hof] at q1 q2
  have hap : u1 ++ u2 = v1 ++ v2 ↔ u1 = v1 ∧ u2 = v2 := ⟨fun e => List.append_inj e (by rw [o1.len, p1.len]), fun ⟨e1, e2⟩ => by rw [e1, e2]⟩
  simp only [Op.eqFields, hne, ne_eq, not_false_eq_true, if_true, Sem.run_bind, q1, q2, q3, Result.andThen_ok]
  cases r
  · exact ⟨false, by simp, by simp only [Bool.false_eq_true, false_iff, hap]; intro e; exact absurd (hiff.2 e.1) (by simp)⟩
  · refine ⟨r', by simpa using q4, ?_⟩
    rw [hiff', hap]
    simp [hiff.1 rfl]
theorem EqP.struct {P : Program} {t h : Nat} {fs : Array Field} {ks : List Fk} [TAgg P t true] [hs : TSize P t ks.length] (ht : P.underlying t = some (.struct fs)) (hp : P.stoodInHeld t = false) (hf : EqFs P fs.toList 0 ks h) : EqP P t ks (h + 1) := fun d hd xs ys off us vs hx hy ho hv w => by
  obtain ⟨e, rfl⟩ : ∃ e, d = e + 1 := ⟨d - 1, by omega⟩
  have ht' : P.underlying t = some (.struct (P.fieldsOf t)) := by rw [ht]; simp [Program.fieldsOf, ht]
  have hfs : P.fieldsOf t = fs := by simp [Program.fieldsOf, ht]
  have l1 : Lies (xs.extract off (off + ks.length)) 0 us := lies_extract hx (by rw [ho.len]; exact Nat.le_refl _)
  have l2 : Lies (ys.extract off (off + ks.length)) 0 vs := lies_extract hy (by rw [hv.len]; exact Nat.le_refl _)
  obtain ⟨r, q, hiff⟩ := hf e (by omega) _ _ us vs l1 l2 ho hv w
  exact ⟨_, _, r, partN w, partN w, by rw [run_equalIn_struct w e t _ _ ht' hp, hfs]; exact q, hiff⟩
theorem EqP.up {P : Program} {t h h' : Nat} {fs : List Fk} (H : EqP P t fs h) (hh : h ≤ h') : EqP P t fs h' := fun d hd => H d (by omega)
structure EqV (P : Program) (t : TypeId) (a b : Array Value) (r : Bool) : Prop where
  guard : P.eqGuardType P.depth t = false
  run : ∀ w, (Op.equalIn 10000 t (.agg a) (.agg b)).run P w = .ok r w
theorem EqP.eqv {P : Program} {t h : Nat} {fs : List Fk} (H : EqP P t fs h) [TAgg P t true] [TSize P t fs.length] (hh : h ≤ 10000) (hg : P.eqGuardType P.depth t = false) {cs ds : Array Value} {us vs : List Value} (hz1 : cs.size = fs.length) (hz2 : ds.size = fs.length) (h1 : Lies cs 0 us) (h2 : Lies ds 0 vs) (ho : Oks fs us) (hv : Oks fs vs) {r : Bool} (hr : r = true ↔ us = vs) : EqV P t cs ds r := ⟨hg, fun w => by
  obtain ⟨a, b, r', q1, q2, q3, hiff⟩ := H 10000 hh cs ds 0 us vs h1 h2 ho hv w
  rw [partN, Nat.zero_add] at q1 q2
  cases q1; cases q2
  rw [← hz1, Array.extract_size] at q3
  rw [hz1, ← hz2, Array.extract_size] at q3
  rw [q3, show r' = r from Bool.eq_iff_iff.2 (hiff.trans hr.symm)]⟩
theorem EqP.same {P : Program} {t h : Nat} {fs : List Fk} (H : EqP P t fs h) [TAgg P t true] [TSize P t fs.length] (hh : h ≤ 10000) (hg : P.eqGuardType P.depth t = false) {cs ds : Array Value} {us : List Value} (hz1 : cs.size = fs.length) (hz2 : ds.size = fs.length) (h1 : Lies cs 0 us) (h2 : Lies ds 0 us) (ho : Oks fs us) : EqV P t cs ds true :=
  H.eqv hh hg hz1 hz2 h1 h2 ho ho (by simp)
section
variable {c : Cx} {s : List (Nat × Value)} {L : List (Nat × Obj)} {o : Oper}
theorem Qt_eql_flat {t t' : TypeId} {x y : Operand} {a b : Array Value} {r : Bool} (ho : o.op = .binOp .eql t x y t') (hx : ev s x = some (.agg a) := by exact rfl) (hy : ev s y = some (.agg b) := by exact rfl) (h : EqV c.P t a b r := by with_reducible assumption) : Qt c s L o (.bool r) :=
  Qt_of_run (by simp [ho]) (fun ρ hρ w _ => by
    have h1 := run_eqGuard_agg (P := c.P) w .eql t x y a b h.guard
    have h2 := run_eql_struct (P := c.P) w t a b
    rw [h.run w] at h2
    simp [execOp, ho, hρ x _ hx, hρ y _ hy, h1, h2, Result.andThen])
end
theorem eqp_Rec : EqP Tryz.prog 26 recF 9 := ((EqP.struct (h := 1) Tryz.underlying26 (by kernel_rfl) (EqFs.cons rfl rfl EqP.kk (EqFs.cons rfl rfl EqP.ww (EqFs.cons rfl rfl EqP.ww (EqFs.cons rfl rfl EqP.bb (EqFs.cons rfl rfl EqP.tt (EqFs.cons rfl rfl EqP.tt (EqFs.nil))))))))).up (by decide)
theorem guard_Rec : Tryz.prog.eqGuardType Tryz.prog.depth 26 = false := by kernel_rfl
end Go.Proofs.YtgimodceldoniaaGreatDoor
