/-
  A part of what the last of these texts needs; by itself it proves no statement.
-/
import Derived.Test.YtncgndcepoicbaaGreatKL163
namespace Go.Proofs.YtncgndcepoicbaaGreat
open Go.RowKit
def plnC (tb : Nat) (want : List Int) : Array Value := (.pointer (some ⟨tb, 0, none⟩) :: want.map iV).toArray
theorem plnC_size {tb : Nat} {want : List Int} (h : want.length = 8) : (plnC tb want).size = 9 := by simp [plnC, h]
theorem plnC_all {tb : Nat} {want : List Int} : ((plnC tb want).toList.all fun v => v.oneCell') = true := by
  rw [List.all_eq_true]
  intro v hv
  simp only [plnC, List.mem_cons, List.mem_map] at hv
  rcases hv with rfl | ⟨x, _, rfl⟩ <;> rfl
theorem plnC_at {tb : Nat} {want : List Int} (h : want.length = 8) {b : Int} (hb : 0 ≤ b ∧ b < 8) : (plnC tb want)[1 + b.toNat * 1]? = some (iV (wnF want b)) := by
  obtain ⟨k, rfl⟩ : ∃ k : Nat, b = k := ⟨b.toNat, by omega⟩
  rw [Int.toNat_natCast, Nat.mul_one, Nat.add_comm, plnC, List.getElem?_toArray, List.getElem?_cons_succ, List.getElem?_map]
  have hk : k < want.length := by omega
  rw [List.getElem?_eq_getElem hk]
  simp [wnF, List.getElem?_eq_getElem hk]
theorem plnC_0 {tb : Nat} {want : List Int} : (plnC tb want)[0]? = some (.pointer (some ⟨tb, 0, none⟩)) := rfl
attribute [local irreducible] Fn WC WL WR OW Qt YieldFn QW FnP FnD FnE plnC
theorem phas_fn {tb : Nat} {t : TbV} {want : List Int} {b : Int} {L : List (Nat × Obj)} (h : TabIn tb L t) (hT : TbOk t) (hw : want.length = 8) : Fn Tryz.prog 100 [.agg (plnC tb want), iV b] L (fun v L' => v = iV (ownF t b 1099511627776) ∧ L' = L) := by
  have hsz := plnC_size (tb := tb) hw
  have hall := plnC_all (tb := tb) (want := want)
  have hp0 := plnC_0 (tb := tb) (want := want)
  refine Fn_enter Tryz.func100 rfl Tryz.ntmps100 rfl fun g => ?_
  repeat (first | (refine WL_Q ?_; (first | refine QW_a ?_ | refine QW_of (Qt_ldX rfl (hn := by with_reducible assumption)) ?_)) | (refine WL_op rfl ?_; (first | refine OW_box rfl (hk := fun _ => ?_) | refine OW_callP rfl (hF := owner_fn (h.mem fun q hq => .tail _ hq) (fun row hr => by have := hT.short row hr; have := hT.few; omega)) (hk := ?_))) | refine WL_nil ?_ | refine WC_seq ?_ | refine WC_ret ?_ | refine WC_region ?_)
  exact ⟨rfl, _, _, Res1 rfl (resV_tmp rfl), .cons _ (.refl _), rfl, rfl⟩
theorem tick_fn {xw : Nat} {n : Int} {E : TypeId} {F : List (Nat × Obj)} : Fn Tryz.prog 94 [.pointer (some ⟨xw, 0, none⟩)] ((xw, Obj.cells #[iV n] E (0, 0)) :: F) (fun v L' => v = iV (IntKind.i64.wrap (n + 1)) ∧ L' = (xw, Obj.cells #[iV (IntKind.i64.wrap (n + 1))] E (0, 0)) :: F) := by
  refine Fn_enter Tryz.func94 rfl Tryz.ntmps94 rfl fun g => ?_
  repeat (first | (refine WL_Q ?_; (first | refine QW_a ?_ | refine QW_of (Qt_ldX rfl (hn := by with_reducible assumption)) ?_)) | (refine WL_op rfl ?_; (first | refine OW_st1 rfl ?_)) | refine WL_nil ?_ | refine WC_seq ?_ | refine WC_ret ?_ | refine WC_region ?_)
  exact ⟨rfl, _, _, Res1 rfl (resV_tmp rfl), .refl _, rfl, rfl⟩
set_option maxHeartbeats 4000000 in
theorem plast_fn {tb : Nat} {t : TbV} {want : List Int} {L : List (Nat × Obj)} (h : TabIn tb L t) (hT : TbOk t) (hB : ∀ x ∈ t.cmds, x.bins.length ≤ 1000) (hw : want.length = 8) : Fn Tryz.prog 96 [.agg (plnC tb want)] L (fun v L' => v = iV (lastF t) ∧ L' = L) := by
  have hsz := plnC_size (tb := tb) hw
  have hall := plnC_all (tb := tb) (want := want)
  have hp0 := plnC_0 (tb := tb) (want := want)
  refine Fn_enter Tryz.func96 rfl Tryz.ntmps96 rfl fun g => ?_
  repeat (first | (refine WL_Q ?_; (first | refine QW_a ?_ | refine QW_of (Qt_ldX rfl (hn := by with_reducible assumption)) ?_)) | (refine WL_op rfl ?_; (first | refine OW_box rfl (hk := fun _ => ?_) | (refine OW_call rfl (hF := cmds_fn (h.mem fun q hq => .tail _ hq) (by have := hT.few; omega) hB) (hk := ?_); rintro v8 _ ⟨X, lc, rfl, hV, hC⟩))) | refine WL_nil ?_ | refine WC_seq ?_ | refine WC_block ?_ | refine WC_cond_t (ht := ?_) | refine WC_cond_f (he := ?_) | refine WC_skip ?_ | refine WC_ret ?_ | refine WC_exit ?_ | refine WG 0 ?_ | refine WG 1 ?_ | refine WG 2 ?_)
  rename_i xp
  obtain ⟨_, a, cap, rfl, _, _, _⟩ := id hV
  repeat (first | (refine WL_Q ?_; (first | refine QW_a ?_ | refine QW_of (Qt_ldX rfl (hn := by with_reducible assumption)) ?_)) | (refine WL_op rfl ?_; (first | (refine OW_call rfl (hF := cmds_fn (h.mem fun q hq => .tail _ hq) (by have := hT.few; omega) hB) (hk := ?_); rintro v8 _ ⟨X, lc, rfl, hV, hC⟩))) | refine WL_nil ?_ | refine WC_seq ?_ | refine WC_block ?_ | refine WC_cond_t (ht := ?_) | refine WC_cond_f (he := ?_) | refine WC_skip ?_ | refine WC_ret ?_ | refine WC_exit ?_ | refine WG 2 ?_)
  obtain ⟨M, hM⟩ : ∃ M, M = X ++ (xp, Obj.cells (plnC tb want) 168 (0, 0)) :: L := ⟨_, rfl⟩
  have hLM : L.Sublist M := by rw [hM]; exact (List.Sublist.cons _ (.refl _)).trans (List.sublist_append_right X _)
  have hVM := hV.mem (G' := M) fun q hq => by rw [hM]; exact List.mem_append_left _ hq
  have hCM := hC.mem (G' := M) fun q hq => by rw [hM]; exact List.mem_append_left _ hq
  rw [← hM]
  clear hV hC
  obtain ⟨l, hl⟩ : ∃ l, l = t.cmds := ⟨_, rfl⟩
  have hla : lastF t = lastF { t with cmds := l } := by rw [hl]
  rw [← hl] at hVM hCM
  rw [← hl]
  have hn : l.length ≤ 64 := by rw [hl]; exact hT.few
  refine WC_wk [(10, iV ((0 : Nat) : Int)), (9, iV (l.length : Nat)), (8, .slice a l.length cap), (3, iV 0)] ⟨rfl, rfl, rfl, rfl, trivial⟩ ?_
  refine WC_loop (fun m σ => ∃ k : Nat, m = l.length - k ∧ k ≤ l.length ∧ σ = ⟨[(10, iV (k : Int)), (9, iV (l.length : Nat)), (8, .slice a l.length cap), (3, iV (lastF { t with cmds := l.take k }))], [], M⟩) l.length ⟨0, rfl, Nat.zero_le _, rfl⟩ ?_
  rintro _ σ ⟨k, rfl, hk, rfl⟩
  by_cases hlt : k < l.length
  rotate_left
  · have d1 : decide ((k : Int) < ((l.length : Nat) : Int)) = false := decide_eq_false (by omega)
    repeat (first | (refine WL_Q ?_; (first | refine QW_a ?_ | refine QW_of (Qt_ldX rfl (hn := by with_reducible assumption)) ?_)) | refine WL_nil ?_ | refine WC_seq ?_ | refine WC_block ?_ | refine WC_cond_t (ht := ?_) | refine WC_cond_f (he := ?_) | refine WC_skip ?_ | refine WC_ret ?_ | refine WC_exit ?_ | refine WG 3 ?_ | refine WG 7 ?_)
    rw [List.take_of_length_le (by omega), ← hla]
    exact ⟨rfl, _, _, Res1 rfl (resV_tmp rfl), hLM, rfl, rfl⟩
  have d1 : decide ((k : Int) < ((l.length : Nat) : Int)) = true := decide_eq_true (by omega)
  obtain ⟨c, hc⟩ : ∃ c, l[k]? = some c := ⟨_, List.getElem?_eq_getElem hlt⟩
  obtain ⟨rb, ro, rc, rcs, rE, rfr, ri, e, _, _, hri, hrx⟩ := hVM.cell (by omega)
  cases e
  obtain ⟨bv, hcm, hx1, hx2⟩ := VecM.cmd hrx hCM hc
  have hall := hcm.all
  have y1 : ro + ((k : Nat) : Int).toNat * 10 + 10 ≤ rcs.size := by rw [Int.toNat_natCast]; exact hx2
  have v1 : rcs.extract (ro + ((k : Nat) : Int).toNat * 10) (ro + ((k : Nat) : Int).toNat * 10 + 10) = (cmC c bv).toArray := by rw [Int.toNat_natCast]; exact hx1
  have p0 : (0 : Int) ≤ (k : Int) := by omega
  have p1 : ((k : Nat) : Int) < ((l.length : Nat) : Int) := by omega
  have w : IntKind.i64.wrap ((k : Int) + 1) = ((k + 1 : Nat) : Int) := by rw [wI64 (by omega) (by omega)]; omega
  have htk : l.take (k + 1) = l.take k ++ [c] := by rw [List.take_add_one, hc]; rfl
  have hlk : lastF { t with cmds := l.take (k + 1) } = c.at_ := by rw [htk]; exact lastF_add { t with cmds := l.take k } c
  repeat (first | (refine WL_Q ?_; (first | refine QW_a ?_ | refine QW_of (Qt_ldX rfl (hn := by with_reducible assumption)) ?_)) | (refine WL_op rfl ?_; (first | refine OW_alloc rfl (hk := fun _ => ?_) | refine OW_stA rfl ?_ | refine OW_stN rfl ?_)) | refine WL_nil ?_ | refine WC_seq ?_ | refine WC_block ?_ | refine WC_cond_t (ht := ?_) | refine WC_cond_f (he := ?_) | refine WC_skip ?_ | refine WC_ret ?_ | refine WC_exit ?_ | refine WG 3 ?_ | refine WG 4 ?_)
  rw [v1]
  repeat (first | (refine WL_Q ?_; (first | refine QW_a ?_ | refine QW_of (Qt_ldX rfl (hn := by with_reducible assumption)) ?_)) | (refine WL_op rfl ?_; (first | refine OW_alloc rfl (hk := fun _ => ?_) | refine OW_stA rfl ?_ | refine OW_stN rfl ?_)) | refine WL_nil ?_ | refine WC_seq ?_ | refine WC_block ?_ | refine WC_cond_t (ht := ?_) | refine WC_cond_f (he := ?_) | refine WC_skip ?_ | refine WC_ret ?_ | refine WC_exit ?_ | refine WG 4 ?_ | refine WG 5 ?_ | refine WG 6 ?_)
  rw [w]
  exact ⟨_, _, by omega, ⟨k + 1, rfl, by omega, rfl⟩, ⟨rfl, rfl, rfl, by rw [hlk]; rfl, trivial⟩, rfl, .cons _ (.refl _)⟩
set_option maxHeartbeats 4000000 in
theorem goes_fn {tb xp xw : Nat} {t : TbV} {want : List Int} {b w : Int} {L : List (Nat × Obj)} (h : TabIn tb L t) (hT : TbOk t) (hw : want.length = 8) (hb : 0 ≤ b ∧ b < 8) (hxp : ∃ i : Nat, L[i]? = some (xp, Obj.cells (plnC tb want) 168 (0, 0))) (hxw : ∃ i : Nat, L[i]? = some (xw, Obj.cells #[iV w] 3 (0, 0))) :
    Fn Tryz.prog 129 [iV b, .pointer (some ⟨xp, 0, none⟩), .pointer (some ⟨xw, 0, none⟩)] L (fun v L' => v = .bool ((wnF want b == w) && !(hasF t.spans b == w)) ∧ L' = L) := by
  obtain ⟨i1, hi1⟩ := hxp
  obtain ⟨i2, hi2⟩ := hxw
  obtain ⟨hb0, hb8⟩ := id hb
  have hsz := plnC_size (tb := tb) hw
  have hall := plnC_all (tb := tb) (want := want)
  have hp1 := plnC_at (tb := tb) hw hb
  have ho := own_has hT hb
  have hph := phas_fn (b := b) h hT hw
  rw [ho] at hph
  refine Fn_enter Tryz.func129 rfl Tryz.ntmps129 rfl fun g => ?_
  cases e1 : (wnF want b == w)
  · repeat' (first | ((first | refine WL_Q ?_ | refine WL_Y ?_ | refine WR_Q rfl ?_ | refine WR_late rfl rfl rfl (OW_Q ?_) | refine WR_Y rfl ?_); (first | refine QW_a ?_ | refine QW_of (Qt_ldX rfl (hn := by with_reducible assumption)) ?_)) | ((first | refine WL_op rfl ?_ | refine WL_yes (h := ?_) | refine WR_late rfl rfl rfl ?_ | refine WR_opG rfl rfl ?_ | refine WR_opYG rfl (h := ?_)); (first | refine OW_callP rfl (hF := hph) (hk := ?_)); try refine ⟨(by first | exact fun _ h => h | exact sub_mem (by repeat (first | exact .refl _ | exact List.nil_sublist _ | exact List.sublist_append_right _ _ | exact List.Sublist.append (.refl _) (List.sublist_append_right _ _) | apply List.Sublist.cons_cons | apply List.Sublist.cons))), ?_⟩) | refine WL_nil ?_ | refine WL_un (h := ?_) | refine WL_N ?_ | refine WL_M ?_ | refine WR_nil ?_ | refine WR_un rfl (hk := ?_) | refine WR_N rfl ?_ | refine WR_M rfl ?_ | refine WC_seq ?_ | refine WC_ret ?_ | refine WC_draw_all (id := 1) 14 (Cs [0,1,2,3,4,5,6,7,8,10] <| .must 9 <| Cs [11,12,13] <| .done) mixed (by kernel_rfl) ?_ | refine WC_region ?_ | (refine WR_skN rfl (h := ?_)) | (refine WR_skM rfl (h := ?_)) | (refine WR_skU rfl (h := ?_)) | refine WR_either ?_ ?_)
    all_goals exact ⟨rfl, _, _, Res1 rfl (resV_tmp rfl), .refl _, rfl, rfl⟩
  · repeat' (first | ((first | refine WL_Q ?_ | refine WL_Y ?_ | refine WR_Q rfl ?_ | refine WR_late rfl rfl rfl (OW_Q ?_) | refine WR_Y rfl ?_); (first | refine QW_a ?_ | refine QW_of (Qt_ldX rfl (hn := by with_reducible assumption)) ?_)) | ((first | refine WL_op rfl ?_ | refine WL_yes (h := ?_) | refine WR_late rfl rfl rfl ?_ | refine WR_opG rfl rfl ?_ | refine WR_opYG rfl (h := ?_)); (first | refine OW_callP rfl (hF := hph) (hk := ?_)); try refine ⟨(by first | exact fun _ h => h | exact sub_mem (by repeat (first | exact .refl _ | exact List.nil_sublist _ | exact List.sublist_append_right _ _ | exact List.Sublist.append (.refl _) (List.sublist_append_right _ _) | apply List.Sublist.cons_cons | apply List.Sublist.cons))), ?_⟩) | refine WL_nil ?_ | refine WL_un (h := ?_) | refine WL_N ?_ | refine WL_M ?_ | refine WR_nil ?_ | refine WR_un rfl (hk := ?_) | refine WR_N rfl ?_ | refine WR_M rfl ?_ | refine WC_seq ?_ | refine WC_ret ?_ | refine WC_draw_all (id := 1) 14 (Cs [0,1,2,3,4,5,6,7,8,10] <| .must 9 <| Cs [11,12,13] <| .done) mixed (by kernel_rfl) ?_ | refine WC_region ?_ | (refine WR_skN rfl (h := ?_)) | (refine WR_skM rfl (h := ?_)) | (refine WR_skU rfl (h := ?_)) | refine WR_either ?_ ?_)
    all_goals exact ⟨rfl, _, _, Res1 rfl (resV_tmp rfl), .refl _, rfl, rfl⟩
end Go.Proofs.YtncgndcepoicbaaGreat
namespace Go.Proofs.YtncgndcepoicbaaGreat
open Go.RowKit
theorem chunkN_at {m : Nat} (hm : 1 ≤ m) : ∀ {n : Nat} {l : List Int} {k : Nat}, l.length ≤ n → k * m < l.length → (chunkN m n l)[k]? = some ((l.drop (k * m)).take m)
  | 0, l, k, h, hk => by omega
  | n + 1, [], k, h, hk => by simp at hk
  | n + 1, x :: r, 0, h, hk => by rw [chunkN, Nat.zero_mul, List.drop_zero]; rfl
  | n + 1, x :: r, k + 1, h, hk => by
    have e : (k + 1) * m = m + k * m := by rw [Nat.add_mul, Nat.one_mul, Nat.add_comm]
    rw [e] at hk ⊢
    simp only [List.length_cons] at h hk
    rw [chunkN, List.getElem?_cons_succ, chunkN_at hm (by rw [List.length_drop, List.length_cons]; omega) (by rw [List.length_drop, List.length_cons]; omega), List.drop_drop]
theorem chunkN_end {m : Nat} (hm : 1 ≤ m) : ∀ {n : Nat} {l : List Int} {k : Nat}, l.length ≤ n → l.length ≤ k * m → (chunkN m n l).length ≤ k
  | 0, l, k, h, hk => by simp [chunkN]
  | n + 1, [], k, h, hk => by simp [chunkN]
  | n + 1, x :: r, 0, h, hk => by simp at hk
  | n + 1, x :: r, k + 1, h, hk => by
    have e : (k + 1) * m = m + k * m := by rw [Nat.add_mul, Nat.one_mul, Nat.add_comm]
    rw [e] at hk
    simp only [List.length_cons] at h hk
    have := chunkN_end hm (n := n) (l := (x :: r).drop m) (k := k) (by rw [List.length_drop, List.length_cons]; omega) (by rw [List.length_drop, List.length_cons]; omega)
    rw [chunkN, List.length_cons]
    omega
section
variable {c : Cx} {o : Oper} {s : List (Nat × Value)} {L : List (Nat × Obj)}
theorem Qt_slMid {t E n : Nat} [hu : TUnd c.P t (.slice E)] [hs : TSize c.P E n] {x lo hi mx : Operand} {g off len cap : Nat} {k k' k2 : IntKind} {l h m : Int} (ho : o.op = .slice t x (some lo) (some hi) (some mx)) (hx : ev s x = some (.slice (some ⟨g, off, none⟩) len cap) := by exact rfl) (hl : ev s lo = some (.int k l) := by exact rfl) (hh : ev s hi = some (.int k' h) := by exact rfl) (hm : ev s mx = some (.int k2 m) := by exact rfl)
    (h0 : 0 ≤ l := by first | with_reducible assumption | omega) (h1 : l ≤ h := by first | with_reducible assumption | omega) (h2 : h ≤ m := by first | exact Int.le_refl _ | with_reducible assumption | omega) (h3 : m ≤ cap := by first | with_reducible assumption | omega) : Qt c s L o (.slice (some ⟨g, slOff m.toNat l.toNat off n, none⟩) (h.toNat - l.toNat) (m.toNat - l.toNat)) :=
  ⟨(fun cc => by simp [ho]), fun ρ hρ w _ => by
    have hut : c.P.underlying t = some (.slice (c.P.elem t)) := by rw [elem_of hu.h]; exact hu.h
    have h2 := run_slice_lhm (P := c.P) w t (some ⟨g, off, none⟩) len cap hut k k' k2 l h m h0 h1 h2 h3
    have h3 := run_sliceAt_slice (P := c.P) w t (.slice (some ⟨g, off, none⟩) len cap) (some (.int k l)) (some (.int k' h)) (some (.int k2 m)) hut
    rw [elem_of hu.h, hs.h] at h2
    simp only [Result.andThen, sliced_eq] at h2
    simp [execOp, ho, hρ x _ hx, hρ lo _ hl, hρ hi _ hh, hρ mx _ hm, h3, h2]⟩
end
abbrev chV (b off m n k : Nat) : Value := .slice (some ⟨b, off + k * m, none⟩) (min m (n - k * m)) (min m (n - k * m))
attribute [local irreducible] Fn WC WL WR OW Qt YieldFn QW FnP FnD FnE
theorem Chunk_fn {v : Value} {a : Option Addr} {n cap : Nat} {m : Int} (hv : v = .slice a n cap) (hm : 1 ≤ m) {L : List (Nat × Obj)} : Fn Tryz.prog 130 [v, iV m] L (fun r L' => ∃ x2 x3, r = .func (.func 148) #[] #[.pointer (some ⟨x2, 0, none⟩), .pointer (some ⟨x3, 0, none⟩)] ∧ L' = (x3, Obj.cells #[iV m] 3 (0, 0)) :: (x2, Obj.cells #[v] 38 (0, 0)) :: L) := by
  subst hv
  have d1 : decide (m < 1) = false := decide_eq_false (by omega)
  refine Fn_enter Tryz.func130 rfl Tryz.ntmps130 rfl fun g => ?_
  repeat (first | (refine WL_Q ?_; (first | refine QW_a ?_ | refine QW_of (Qt_slMid rfl) ?_)) | (refine WL_op rfl ?_; (first | refine OW_box rfl (hk := fun _ => ?_))) | refine WL_nil ?_ | refine WC_seq ?_ | refine WC_cond_t (ht := ?_) | refine WC_cond_f (he := ?_) | refine WC_skip ?_ | refine WC_ret ?_ | refine WG 0 ?_ | refine WG 1 ?_ | refine WG 3 ?_)
  exact ⟨rfl, _, _, Res1 rfl (resV_tmp rfl), .refl _, _, _, rfl, rfl⟩
set_option maxHeartbeats 1000000 in
theorem chunk1_fn {v : Value} {a : Option Addr} {b off n cap m x2 x3 l d : Nat} {o1 o2 : Obj} {I : Nat → List (Nat × Obj) → Prop} {Jx : List (Nat × Obj) → Prop} {L0 : List (Nat × Obj)} (hv : v = .slice a n cap) (ha : 0 < n → a = some ⟨b, off, none⟩) (hnc : n ≤ cap) (hn : n ≤ 1000) (hm : 1 ≤ m) (hm8 : m ≤ 1000)
    (hI : ∀ k L', I k L' → (∃ i : Nat, L'[i]? = some (x2, Obj.cells #[v] 38 (0, 0))) ∧ ∃ i : Nat, L'[i]? = some (x3, Obj.cells #[iV m] 3 (0, 0)))
    (hr : ∀ k L', k * m < n → I k L' → YieldFn Tryz.prog l [chV b off m n k] ((l, o1) :: (d, o2) :: L') (fun v L2 => (v = .bool true ∧ ∃ L'', L2 = (l, o1) :: (d, o2) :: L'' ∧ I (k + 1) L'') ∨ (v = .bool false ∧ Jx L2))) (h0 : I 0 L0) :
    Fn Tryz.prog 148 [.func (.yield l) #[] #[], .pointer (some ⟨x2, 0, none⟩), .pointer (some ⟨x3, 0, none⟩)] ((l, o1) :: (d, o2) :: L0) (fun _ L2 => (∃ k L', n ≤ k * m ∧ L2 = (l, o1) :: (d, o2) :: L' ∧ I k L') ∨ Jx L2) := by
  subst hv
  refine Fn_enter Tryz.func148 rfl Tryz.ntmps148 rfl fun g => ?_
  repeat (first | (refine WL_Q ?_; (first | refine QW_a ?_ | refine QW_of (Qt_slMid rfl) ?_)) | refine WL_nil ?_ | refine WC_seq ?_ | refine WC_block ?_ | refine WC_cond_t (ht := ?_) | refine WC_cond_f (he := ?_) | refine WC_skip ?_ | refine WC_ret ?_ | refine WC_exit ?_ | refine WG 0 ?_)
  refine WC_wk [(4, iV ((0 * m : Nat) : Int)), (0, .func (.yield l) #[] #[]), (1, .pointer (some ⟨x2, 0, none⟩)), (2, .pointer (some ⟨x3, 0, none⟩))] ⟨by rw [Nat.zero_mul]; rfl, rfl, rfl, rfl, trivial⟩ ?_
  refine WC_loop (fun q σ => ∃ (k : Nat) (L' : List (Nat × Obj)), q = n + m - k * m ∧ k * m < n + m ∧ I k L' ∧ σ = ⟨[(4, iV ((k * m : Nat) : Int)), (0, .func (.yield l) #[] #[]), (1, .pointer (some ⟨x2, 0, none⟩)), (2, .pointer (some ⟨x3, 0, none⟩))], [], (l, o1) :: (d, o2) :: L'⟩) (n + m) ⟨0, L0, by omega, by omega, h0, rfl⟩ ?_
  rintro _ σ ⟨k, L', rfl, hk, hIk, rfl⟩
  obtain ⟨⟨i2, hi2⟩, ⟨i3, hi3⟩⟩ := hI _ _ hIk
  have hi22 : ((l, o1) :: (d, o2) :: L')[i2 + 1 + 1]? = some (x2, Obj.cells #[.slice a n cap] 38 (0, 0)) := hi2
  have hi33 : ((l, o1) :: (d, o2) :: L')[i3 + 1 + 1]? = some (x3, Obj.cells #[iV m] 3 (0, 0)) := hi3
  by_cases hlt : k * m < n
  rotate_left
  · have d1 : decide (((k * m : Nat) : Int) < ((n : Nat) : Int)) = false := decide_eq_false (by omega)
    repeat (first | (refine WL_Q ?_; (first | refine QW_a ?_ | refine QW_of (Qt_slMid rfl) ?_)) | refine WL_nil ?_ | refine WC_seq ?_ | refine WC_block ?_ | refine WC_cond_t (ht := ?_) | refine WC_cond_f (he := ?_) | refine WC_skip ?_ | refine WC_ret ?_ | refine WC_exit ?_ | refine WG 1 ?_)
    exact ⟨rfl, _, _, Res0 rfl, .refl _, .inl ⟨k, L', by omega, rfl, hIk⟩⟩
  have d1 : decide (((k * m : Nat) : Int) < ((n : Nat) : Int)) = true := decide_eq_true (by omega)
  obtain rfl := ha (by omega)
  have p0 : (0 : Int) ≤ ((k * m : Nat) : Int) := by omega
  have p1 : ((k * m : Nat) : Int) ≤ ((n : Nat) : Int) := by omega
  have hyf := hr k L' hlt hIk
  repeat (first | (refine RX ?_; (first | refine QW_a ?_ | refine QW_of (Qt_slMid rfl) ?_)) | refine WL_nil ?_ | refine WR_nil ?_ | refine WC_seq ?_ | refine WC_block ?_ | refine WC_cond_t (ht := ?_) | refine WC_cond_f (he := ?_) | refine WC_skip ?_ | refine WC_ret ?_ | refine WC_exit ?_ | refine WC_draw_all (id := 3) 7 (Cs [0,1,2,3,4,5,6] <| .done) mixed (by kernel_rfl) ?_ | refine WG 1 ?_)
  obtain ⟨e, he⟩ : ∃ e : Nat, e = min m (n - k * m) := ⟨_, rfl⟩
  have hif : (if ((n - ((k * m : Nat) : Int).toNat : Nat) : Int) < (m : Int) then ((n - ((k * m : Nat) : Int).toNat : Nat) : Int) else (m : Int)) = (e : Int) := by
    rw [Int.toNat_natCast, he]
    split <;> omega
  have e1 : 1 ≤ e ∧ k * m + e ≤ n := by omega
  have we : IntKind.i64.wrap (((k * m : Nat) : Int) + (e : Int)) = ((k * m + e : Nat) : Int) := by rw [wI64 (by omega) (by omega)]; omega
  have wm : IntKind.i64.wrap (((k * m : Nat) : Int) + (m : Int)) = (((k + 1) * m : Nat) : Int) := by rw [wI64 (by omega) (by omega), Nat.add_mul, Nat.one_mul]; omega
  have q1 : ((k * m : Nat) : Int) ≤ IntKind.i64.wrap (((k * m : Nat) : Int) + (e : Int)) := by rw [we]; omega
  have q2 : IntKind.i64.wrap (((k * m : Nat) : Int) + (e : Int)) ≤ (cap : Int) := by rw [we]; omega
  rw [hif]
  repeat (first | (refine WL_Q ?_; (first | refine QW_a ?_ | refine QW_of (Qt_slMid rfl) ?_)) | refine WL_nil ?_ | refine WC_seq ?_ | refine WC_block ?_ | refine WC_cond_t (ht := ?_) | refine WC_cond_f (he := ?_) | refine WC_skip ?_ | refine WC_ret ?_ | refine WC_exit ?_ | refine WG 4 ?_)
  have hch : Value.slice (some ⟨b, slOff (IntKind.i64.wrap (((k * m : Nat) : Int) + (e : Int))).toNat ((k * m : Nat) : Int).toNat off 1, none⟩) ((IntKind.i64.wrap (((k * m : Nat) : Int) + (e : Int))).toNat - ((k * m : Nat) : Int).toNat) ((IntKind.i64.wrap (((k * m : Nat) : Int) + (e : Int))).toNat - ((k * m : Nat) : Int).toNat) = chV b off m n k := by
    rw [we, Int.toNat_natCast, Int.toNat_natCast, slOff, if_neg (by omega), Nat.mul_one, Nat.add_sub_cancel_left, he]
  rw [hch]
  refine WL_op rfl (OW_yield rfl rfl rfl rfl rfl hyf ?_)
  rintro v L3 (⟨rfl, L4, rfl, hI4⟩ | ⟨rfl, hJx⟩)
  · obtain ⟨_, ⟨i4, hi4⟩⟩ := hI _ _ hI4
    have hi44 : ((l, o1) :: (d, o2) :: L4)[i4 + 1 + 1]? = some (x3, Obj.cells #[iV m] 3 (0, 0)) := hi4
    have hs : (k + 1) * m = k * m + m := by rw [Nat.add_mul, Nat.one_mul]
    repeat (first | (refine WL_Q ?_; (first | refine QW_a ?_ | refine QW_of (Qt_slMid rfl) ?_)) | refine WL_nil ?_ | refine WC_seq ?_ | refine WC_block ?_ | refine WC_cond_t (ht := ?_) | refine WC_cond_f (he := ?_) | refine WC_skip ?_ | refine WC_ret ?_ | refine WC_exit ?_ | refine WG 4 ?_ | refine WG 2 ?_)
    rw [wm]
    exact ⟨_, _, by omega, ⟨k + 1, L4, rfl, by omega, hI4, rfl⟩, ⟨rfl, rfl, rfl, rfl, trivial⟩, rfl, .refl _⟩
  · repeat (first | (refine WL_Q ?_; (first | refine QW_a ?_ | refine QW_of (Qt_slMid rfl) ?_)) | refine WL_nil ?_ | refine WC_seq ?_ | refine WC_block ?_ | refine WC_cond_t (ht := ?_) | refine WC_cond_f (he := ?_) | refine WC_skip ?_ | refine WC_ret ?_ | refine WC_exit ?_ | refine WG 4 ?_)
    exact ⟨rfl, _, _, Res0 rfl, .refl _, .inr hJx⟩
end Go.Proofs.YtncgndcepoicbaaGreat
