/-
  A part of what the last of these texts needs; by itself it proves no statement.
-/
import Derived.Test.YtekmmhmhcpaiaaaGreatKP29
namespace Go.Proofs.YtekmmhmhcpaiaaaGreat
open Go.RowKit
structure JnAll (c : PtV) (e : EnV) : Prop where
  j : JnOk c e
  n0 : 0 < e.ac.n
  en : e.e = e.s + (c.op e.ver).2.1 + 1
def EntOk (c : PtV) (e : EnV) : Prop := if c.cls = 1 then EnOk c e else JnAll c e
structure LsOk (c : PtV) (l : List EnV) : Prop where
  apart : Apart (rC c) l
  en : ∀ x ∈ l, EntOk c x
  mass : massW c.rs.length l ≤ 99999
theorem EntOk.win {c : PtV} {e : EnV} (hc : c.cls = 1) (h : EntOk c e) : EnOk c e := by unfold EntOk at h; rwa [if_pos hc] at h
theorem EntOk.join {c : PtV} {e : EnV} (hc : c.cls ≠ 1) (h : EntOk c e) : JnAll c e := by unfold EntOk at h; rwa [if_neg hc] at h
theorem EntOk.n0 {c : PtV} {e : EnV} (h : EntOk c e) : 0 < e.ac.n := by
  by_cases hc : c.cls = 1
  · exact (h.win hc).n0
  · exact (h.join hc).n0
theorem LsOk.len {c : PtV} {l : List EnV} (h : LsOk c l) : l.length ≤ 99999 := Nat.le_trans (mass_len fun x hx => (h.en x hx).n0) h.mass
theorem LsOk.nil {c : PtV} : LsOk c [] := ⟨List.Pairwise.nil, (fun _ h => nomatch h), Nat.zero_le _⟩
theorem LsOk.perm {c : PtV} {l k : List EnV} (h : LsOk c l) (p : l.Perm k) : LsOk c k := ⟨h.apart.perm (rC_meets c) p, fun x hx => h.en x (p.mem_iff.2 hx), by rw [← massW_perm p]; exact h.mass⟩
theorem LsOk.tail {c : PtV} {e : EnV} {l : List EnV} (h : LsOk c (e :: l)) : LsOk c l := ⟨(List.pairwise_cons.1 h.apart).2, fun x hx => h.en x (.tail _ hx), by have := h.mass; rw [massW_cons] at this; omega⟩
theorem LsOk.lays {c : PtV} {l k : List EnV} (h : LsOk c l) (hk : ∀ x ∈ k, EntOk c x) (hj : c.cls = 1 ∨ k.length ≤ 1) (hm : massW c.rs.length k + massW c.rs.length l ≤ 99999) : LsOk c (laysL (rC c) EnV.add k l) := by
  refine ⟨laysL_apart (rC_meets c) _ h.apart, fun x hx => ?_, Nat.le_trans (massW_lays _ _ k l) hm⟩
  by_cases hc : c.cls = 1
  · have := EnOk.lays (r := rC c) (fun y hy => (hk y hy).win hc) (fun y hy => (h.en y hy).win hc) x hx
    unfold EntOk
    rw [if_pos hc]
    exact this
  · cases k with
    | nil => exact h.en x hx
    | cons e k =>
      obtain rfl : k = [] := List.eq_nil_of_length_eq_zero (by have := hj.resolve_left hc; rw [List.length_cons] at this; omega)
      have hx : x ∈ layL (rC c) EnV.add e l := hx
      rw [lay_join hc] at hx
      rcases List.mem_cons.1 hx with rfl | hx
      · exact hk _ (.head _)
      · exact h.en x hx
structure RcOk (r : RcV) : Prop where
  k0 : 0 ≤ r.key
  k1 : r.key < 4294967296
  t0 : 0 ≤ r.t
  t1 : r.t ≤ 2199023255552
  v0 : -9223372036854775808 ≤ r.val
  v1 : r.val < 9223372036854775808
  side : r.side = 0 ∨ r.side = 1
theorem oneA_en {c : PtV} {r : RcV} (hr : RcOk r) : ∀ x ∈ itsW c (c.ver r.t) r.key r.t (oneA r.val), EnOk c x := EnOk.its (ver_le c r.t) ⟨hr.k0, hr.k1⟩ ⟨hr.t0, hr.t1⟩ Int.zero_lt_one (by show -(1 * 9223372036854775808) ≤ r.val; have := hr.v0; omega) (by show r.val ≤ 1 * 9223372036854775808; have := hr.v1; omega) ⟨hr.v0, hr.v1⟩ ⟨hr.v0, hr.v1⟩
theorem putE_en {c : PtV} {r : RcV} (hr : RcOk r) : ∀ x ∈ putE c r, EntOk c x := by
  intro x hx
  unfold putE at hx
  unfold EntOk
  by_cases hc : c.cls = 1
  · rw [if_pos hc] at hx ⊢
    exact oneA_en hr x hx
  · rw [if_neg hc] at hx ⊢
    obtain rfl := List.mem_singleton.1 hx
    exact ⟨⟨ver_le c r.t, hr.k0, hr.k1, by show _ ≤ r.t; have := hr.t0; omega, by show r.t ≤ _; have := hr.t1; omega, hr.side, hr.v0, hr.v1⟩, Int.zero_lt_one, rfl⟩
theorem LsOk.put {c : PtV} {r : RcV} (hr : RcOk r) {l : List EnV} (h : LsOk c l) (hm : massW c.rs.length (putE c r) + massW c.rs.length l ≤ 99999) : LsOk c (putS c r l) := by
  refine h.lays (putE_en hr) ?_ hm
  by_cases hc : c.cls = 1
  · exact .inl hc
  · right
    unfold putE
    rw [if_neg hc]
    exact Nat.le_refl _
theorem and_one {x : Int} (h0 : 0 ≤ x) (h1 : x < 256) : IntKind.u8.wrap (BitVec.ofInt IntKind.u8.bits x &&& BitVec.ofInt IntKind.u8.bits 1).toNat = x % 2 := by
  obtain ⟨n, rfl⟩ : ∃ n : Nat, x = n := ⟨x.toNat, by omega⟩
  have hb : IntKind.u8.bits = 8 := rfl
  rw [hb]
  have h3 : BitVec.ofInt 8 (n : Int) = BitVec.ofNat 8 n := by simp
  have h4 : BitVec.ofInt 8 (1 : Int) = BitVec.ofNat 8 1 := rfl
  rw [h3, h4, BitVec.toNat_and, BitVec.toNat_ofNat, BitVec.toNat_ofNat]
  have h5 : n % 2 ^ 8 = n := Nat.mod_eq_of_lt (by omega)
  have h6 : 1 % 2 ^ 8 = 1 := rfl
  rw [h5, h6, Nat.and_one_is_mod, wU8 (by omega) (by omega)]
  omega
abbrev rcI (key t val side : Int) : Array Value := #[.int .u32 key, .int .i64 t, .int .i64 val, .int .u8 side, .bool false, .bool false]
attribute [local irreducible] Fn WC WL WR OW Qt YieldFn QW FnP FnD FnE
set_option maxHeartbeats 8000000 in
theorem put_fn {pb mb tb : Nat} {nd : Int} {c : PtV} {tv : TbV} {S G F : List (Nat × Obj)} {l : List EnV} {key t val sd : Int} (h : PtAt pb mb tb nd c.cls S G l) (ht : TabIn tb G tv) (hN : NodeIn tv nd c) (hG : ∀ q ∈ G, q ∈ F) (hk : PtOk c) (hl : LsOk c l) (hr : RcOk ⟨key, t, val, sd % 2⟩) (hsd : 0 ≤ sd ∧ sd < 256) (hM : massW c.rs.length (putE c ⟨key, t, val, sd % 2⟩) + massW c.rs.length l ≤ 99999) :
    Fn Tryz.prog 8 [.pointer (some ⟨pb, 0, none⟩), .agg (rcI key t val sd)] (S ++ F) (fun v L' => ∃ S' T o, L' = S' ++ (T ++ F) ∧ PtAt pb mb tb nd c.cls S' (T ++ G) (putS c ⟨key, t, val, sd % 2⟩ l) ∧ o.Perm (putO c ⟨key, t, val, sd % 2⟩ l) ∧ VecM 6 T v o.length (rcL o)) := by
  obtain ⟨es, ck, ps, rfl, hm, hrw⟩ := h.h
  have hv0 : -9223372036854775808 ≤ val ∧ val < 9223372036854775808 := ⟨hr.v0, hr.v1⟩
  refine Fn_enter Tryz.func8 rfl Tryz.ntmps8 rfl fun gw => ?_
  repeat (first | ((first | refine WL_Q ?_ | refine WL_Y ?_); (first | refine QW_a ?_ | refine QW_of (Qt_ldX rfl (hn := by with_reducible assumption)) ?_ | refine QW_of (Qt_and rfl) ?_)) | ((first | refine WL_op rfl ?_ | refine WL_yes (h := ?_)); (first | refine OW_box rfl (hk := fun _ => ?_))) | refine WL_nil ?_ | refine WL_un (h := ?_) | refine WL_N ?_ | refine WL_M ?_ | refine WC_seq ?_ | refine WC_block ?_ | refine WC_cond_t (ht := ?_) | refine WC_cond_f (he := ?_) | refine WC_skip ?_ | refine WC_ret ?_ | refine WG 0 ?_ | refine WG 1 ?_ | refine WG 3 ?_)
  rename_i x3
  obtain ⟨L0, hL0⟩ : ∃ L0, L0 = (x3, Obj.cells (rcI key t val sd) 35 (0, 0)) :: ([(pb, Obj.cells (PtC tb mb nd c.cls l.length) 89 (0, 0)), (mb, Obj.map es ck)] ++ F) := ⟨_, rfl⟩
  have ht0 : TabIn tb L0 tv := ht.mem fun q hq => by rw [hL0]; exact .tail _ (List.mem_append_right _ (hG q hq))
  have hp0 : L0[0]? = some (x3, Obj.cells (rcI key t val sd) 35 (0, 0)) := by rw [hL0]; rfl
  have hp1 : L0[1]? = some (pb, Obj.cells (PtC tb mb nd c.cls l.length) 89 (0, 0)) := by rw [hL0]; rfl
  rw [← hL0]
  have hVe := ver_fn (n := nd) (now := t) ht0 hN.rl (by rw [hN.rs]; exact hN.len)
  rw [hN.ver] at hVe
  refine WC_draw_sub (id := 5) 12 (Cs [0,1,2,3,4,5,6,7,8,9] <| .must 10 <| .calm 11 <| .done) mixed (by kernel_rfl) (List.Sublist.refl _) ?_
  repeat (first | (refine RX ?_; (first | refine QW_a ?_ | refine QW_of (Qt_ldX rfl (hn := by with_reducible assumption)) ?_ | refine QW_of (Qt_and rfl) ?_)) | (refine OX ?_; (first | refine OW_callP rfl (hF := hVe) (hk := ?_)); try refine ⟨(by first | exact fun _ h => h | exact sub_mem (by repeat (first | exact .refl _ | exact List.nil_sublist _ | exact List.sublist_append_right _ _ | exact List.Sublist.append (.refl _) (List.sublist_append_right _ _) | apply List.Sublist.cons_cons | apply List.Sublist.cons))), ?_⟩) | refine WL_nil ?_ | refine WR_nil ?_ | refine WC_seq ?_ | refine WC_block ?_ | refine WC_cond_t (ht := ?_) | refine WC_cond_f (he := ?_) | refine WC_skip ?_ | refine WC_ret ?_ | refine WC_draw_all (id := 5) 12 (Cs [0,1,2,3,4,5,6,7,8,9] <| .must 10 <| .calm 11 <| .done) mixed (by kernel_rfl) ?_)
  by_cases hc : c.cls = 1
  · have d : (c.cls == 1) = true := by simpa using hc
    rw [hL0]
    refine WC_permT (L' := (pb, Obj.cells (PtC tb mb nd c.cls l.length) 89 (0, 0)) :: (mb, Obj.map es ck) :: (x3, Obj.cells (rcI key t val sd) 35 (0, 0)) :: F) (by
      classical
      rw [List.perm_iff_count]
      intro q
      simp only [List.count_append, List.count_cons, List.count_nil]
      omega) ?_
    repeat (first | (refine WL_Q ?_; (first | refine QW_a ?_ | refine QW_of (Qt_ldX rfl (hn := by with_reducible assumption)) ?_ | refine QW_of (Qt_and rfl) ?_)) | refine WL_nil ?_ | refine WC_seq ?_ | refine WC_block ?_ | refine WC_cond_t (ht := ?_) | refine WC_cond_f (he := ?_) | refine WC_skip ?_ | refine WC_ret ?_ | refine WG 6 ?_)
    refine WC_draw_sub (id := 7) 10 (Cs [0,1,2,3,4,5,6,7] <| .must 8 <| .must 9 <| .done) mixed (by kernel_rfl) (.cons _ (.cons _ (.cons_cons _ (List.nil_sublist _)))) ?_
    repeat (first | (refine RX ?_; (first | refine QW_a ?_ | refine QW_of (Qt_ldX rfl (hn := by with_reducible assumption)) ?_ | refine QW_of (Qt_and rfl) ?_)) | ((first | refine WL_op rfl ?_ | refine WR_late rfl rfl rfl ?_ | refine WR_op rfl rfl ?_); (first | refine OW_callP rfl (hF := One_fn (by first | assumption | exact ⟨by omega, by omega⟩)) (hk := ?_)); try refine ⟨(by first | exact fun _ h => h | exact sub_mem (by repeat (first | exact .refl _ | exact List.nil_sublist _ | exact List.sublist_append_right _ _ | exact List.Sublist.append (.refl _) (List.sublist_append_right _ _) | apply List.Sublist.cons_cons | apply List.Sublist.cons))), ?_⟩) | refine WL_nil ?_ | refine WR_nil ?_ | refine WC_seq ?_ | refine WC_block ?_ | refine WC_cond_t (ht := ?_) | refine WC_cond_f (he := ?_) | refine WC_skip ?_ | refine WC_ret ?_ | refine WC_draw_all (id := 7) 10 (Cs [0,1,2,3,4,5,6,7] <| .must 8 <| .must 9 <| .done) mixed (by kernel_rfl) ?_)
    have hputE : putE c ⟨key, t, val, sd % 2⟩ = itsW c (c.ver t) key t (oneA val) := by unfold putE; rw [if_pos hc]
    have hrC : rC c = rW c := by unfold rC; rw [if_pos hc]
    have hap := hl.apart
    rw [hrC] at hap
    have hIn := into_fn (F := (x3, Obj.cells (rcI key t val sd) 35 (0, 0)) :: F) (v := c.ver t) (key := key) (t := t) (ac := oneA val) h ht hN (fun q hq => .tail _ (hG q hq)) hap (fun x hx => (hl.en x hx).win hc) (ver_le c t) (oneA_en hr) (by rw [hputE] at hM; exact hM)
    refine WR_op rfl rfl (OW_call rfl (hF := hIn) (hk := ?_))
    rintro _ _ ⟨rfl, S2, T2, rfl, h2⟩
    refine ⟨sub_mem (List.Sublist.trans (.cons_cons _ (List.nil_sublist _)) (List.Sublist.trans (List.sublist_append_right _ _) (List.sublist_append_right _ _))), ?_⟩
    repeat (first | (refine RX ?_; (first | refine QW_a ?_ | refine QW_of (Qt_ldX rfl (hn := by with_reducible assumption)) ?_ | refine QW_of (Qt_and rfl) ?_)) | (refine OX ?_; (first | refine OW_callP rfl (hF := One_fn (by first | assumption | exact ⟨by omega, by omega⟩)) (hk := ?_)); try refine ⟨(by first | exact fun _ h => h | exact sub_mem (by repeat (first | exact .refl _ | exact List.nil_sublist _ | exact List.sublist_append_right _ _ | exact List.Sublist.append (.refl _) (List.sublist_append_right _ _) | apply List.Sublist.cons_cons | apply List.Sublist.cons))), ?_⟩) | refine WL_nil ?_ | refine WR_nil ?_ | refine WC_seq ?_ | refine WC_block ?_ | refine WC_cond_t (ht := ?_) | refine WC_cond_f (he := ?_) | refine WC_skip ?_ | refine WC_ret ?_ | refine WC_draw_all (id := 7) 10 (Cs [0,1,2,3,4,5,6,7] <| .must 8 <| .must 9 <| .done) mixed (by kernel_rfl) ?_ | refine WG 8 ?_)
    refine ⟨rfl, _, S2 ++ (T2 ++ F), Res1 rfl (resV_tmp rfl), List.Sublist.append (.refl _) (List.Sublist.append (.refl _) (.cons _ (.refl _))), S2, T2, [], rfl, ?_, ?_, VecM.nil _ _⟩
    · unfold putS
      rw [hputE, hrC]
      exact h2
    · unfold putO
      rw [if_pos hc]
  · have d : (c.cls == 1) = false := by simpa using hc
    repeat (first | (refine WL_Q ?_; (first | refine QW_a ?_ | refine QW_of (Qt_ldX rfl (hn := by with_reducible assumption)) ?_ | refine QW_of (Qt_and rfl) ?_)) | refine WL_nil ?_ | refine WC_seq ?_ | refine WC_block ?_ | refine WC_cond_t (ht := ?_) | refine WC_cond_f (he := ?_) | refine WC_skip ?_ | refine WC_ret ?_ | refine WG 6 ?_)
    obtain ⟨⟨k, A, b, g⟩, hop⟩ : ∃ o : OpV, c.op (c.ver t) = o := ⟨_, rfl⟩
    refine WC_meet (fun σ => ∃ x6, σ = ⟨[(6, .pointer (some ⟨x6, 0, none⟩)), (5, iV (c.ver t)), (3, .pointer (some ⟨x3, 0, none⟩)), (0, .pointer (some ⟨pb, 0, none⟩))], [], (x6, Obj.cells (opC k A b g) 59 (0, 0)) :: L0⟩) ?_ ?_
    · refine WC_draw_sub (id := 9) 16 (Cs [0,1,2,3,4,5,6,7,8] <| .either 9 (Cs [10,11,12] <| .must 13 <| .must 14 <| .calm 15 <| .done) 13 (.must 9 <| Cs [10,11,12] <| .must 14 <| .calm 15 <| .done)) mixed (by kernel_rfl) (List.Sublist.refl _) ?_
      repeat (first | (refine RX ?_; (first | refine QW_a ?_ | refine QW_of (Qt_ldX rfl (hn := by with_reducible assumption)) ?_ | refine QW_of (Qt_and rfl) ?_)) | ((first | refine WL_op rfl ?_ | refine WR_late rfl rfl rfl ?_ | refine WR_op rfl rfl ?_); (first | refine OW_alloc rfl (hk := fun _ => ?_) | refine OW_stA rfl ?_ | refine OW_stN rfl ?_ | refine OW_callP rfl (hF := nodeOp_fn hN (ver_le c t) hop ht0) (hk := ?_) | refine OW_callP rfl (hF := nodeOp_fn hN (ver_le c t) hop (ht0.mem fun _ hq => .tail _ hq)) (hk := ?_)); try refine ⟨(by first | exact fun _ h => h | exact sub_mem (by repeat (first | exact .refl _ | exact List.nil_sublist _ | exact List.sublist_append_right _ _ | exact List.Sublist.append (.refl _) (List.sublist_append_right _ _) | apply List.Sublist.cons_cons | apply List.Sublist.cons))), ?_⟩) | refine WL_nil ?_ | refine WR_nil ?_ | refine WC_seq ?_ | refine WC_block ?_ | refine WC_cond_t (ht := ?_) | refine WC_cond_f (he := ?_) | refine WC_skip ?_ | refine WC_ret ?_ | refine WC_draw_all (id := 9) 16 (Cs [0,1,2,3,4,5,6,7,8] <| .either 9 (Cs [10,11,12] <| .must 13 <| .must 14 <| .calm 15 <| .done) 13 (.must 9 <| Cs [10,11,12] <| .must 14 <| .calm 15 <| .done)) mixed (by kernel_rfl) ?_)
      refine WR_either ?_ ?_
      · repeat (first | (refine RX ?_; (first | refine QW_a ?_ | refine QW_of (Qt_ldX rfl (hn := by with_reducible assumption)) ?_ | refine QW_of (Qt_and rfl) ?_)) | ((first | refine WL_op rfl ?_ | refine WR_late rfl rfl rfl ?_ | refine WR_op rfl rfl ?_); (first | refine OW_alloc rfl (hk := fun _ => ?_) | refine OW_stA rfl ?_ | refine OW_stN rfl ?_ | refine OW_callP rfl (hF := nodeOp_fn hN (ver_le c t) hop ht0) (hk := ?_) | refine OW_callP rfl (hF := nodeOp_fn hN (ver_le c t) hop (ht0.mem fun _ hq => .tail _ hq)) (hk := ?_)); try refine ⟨(by first | exact fun _ h => h | exact sub_mem (by repeat (first | exact .refl _ | exact List.nil_sublist _ | exact List.sublist_append_right _ _ | exact List.Sublist.append (.refl _) (List.sublist_append_right _ _) | apply List.Sublist.cons_cons | apply List.Sublist.cons))), ?_⟩) | refine WL_nil ?_ | refine WR_nil ?_ | refine WC_seq ?_ | refine WC_block ?_ | refine WC_cond_t (ht := ?_) | refine WC_cond_f (he := ?_) | refine WC_skip ?_ | refine WC_ret ?_ | refine WC_draw_all (id := 9) 16 (Cs [0,1,2,3,4,5,6,7,8] <| .either 9 (Cs [10,11,12] <| .must 13 <| .must 14 <| .calm 15 <| .done) 13 (.must 9 <| Cs [10,11,12] <| .must 14 <| .calm 15 <| .done)) mixed (by kernel_rfl) ?_)
        exact ⟨_, ⟨_, rfl⟩, ⟨rfl, rfl, rfl, rfl, trivial⟩, rfl, .refl _⟩
      · repeat (first | (refine RX ?_; (first | refine QW_a ?_ | refine QW_of (Qt_ldX rfl (hn := by with_reducible assumption)) ?_ | refine QW_of (Qt_and rfl) ?_)) | ((first | refine WL_op rfl ?_ | refine WR_late rfl rfl rfl ?_ | refine WR_op rfl rfl ?_); (first | refine OW_alloc rfl (hk := fun _ => ?_) | refine OW_stA rfl ?_ | refine OW_stN rfl ?_ | refine OW_callP rfl (hF := nodeOp_fn hN (ver_le c t) hop ht0) (hk := ?_) | refine OW_callP rfl (hF := nodeOp_fn hN (ver_le c t) hop (ht0.mem fun _ hq => .tail _ hq)) (hk := ?_)); try refine ⟨(by first | exact fun _ h => h | exact sub_mem (by repeat (first | exact .refl _ | exact List.nil_sublist _ | exact List.sublist_append_right _ _ | exact List.Sublist.append (.refl _) (List.sublist_append_right _ _) | apply List.Sublist.cons_cons | apply List.Sublist.cons))), ?_⟩) | refine WL_nil ?_ | refine WR_nil ?_ | refine WC_seq ?_ | refine WC_block ?_ | refine WC_cond_t (ht := ?_) | refine WC_cond_f (he := ?_) | refine WC_skip ?_ | refine WC_ret ?_ | refine WC_draw_all (id := 9) 16 (Cs [0,1,2,3,4,5,6,7,8] <| .either 9 (Cs [10,11,12] <| .must 13 <| .must 14 <| .calm 15 <| .done) 13 (.must 9 <| Cs [10,11,12] <| .must 14 <| .calm 15 <| .done)) mixed (by kernel_rfl) ?_)
        exact ⟨_, ⟨_, rfl⟩, ⟨rfl, rfl, rfl, rfl, trivial⟩, rfl, .refl _⟩
    rintro _ ⟨x6, rfl⟩
    rw [hL0]
    refine WC_permT (L' := (pb, Obj.cells (PtC tb mb nd c.cls l.length) 89 (0, 0)) :: (mb, Obj.map es ck) :: (x6, Obj.cells (opC k A b g) 59 (0, 0)) :: (x3, Obj.cells (rcI key t val sd) 35 (0, 0)) :: F) (by
      classical
      rw [List.perm_iff_count]
      intro q
      simp only [List.count_append, List.count_cons, List.count_nil]
      omega) ?_
    repeat (first | (refine WL_Q ?_; (first | refine QW_a ?_ | refine QW_of (Qt_ldX rfl (hn := by with_reducible assumption)) ?_ | refine QW_of (Qt_and rfl) ?_)) | refine WL_nil ?_ | refine WC_seq ?_ | refine WC_block ?_ | refine WC_cond_t (ht := ?_) | refine WC_cond_f (he := ?_) | refine WC_skip ?_ | refine WC_ret ?_)
    refine WC_draw_sub (id := 10) 21 (Cs [0,1,2,3,4,5,6,7,8,9,10,11,12,13,14,15,16] <| .must 17 <| .calm 18 <| .must 19 <| .calm 20 <| .done) mixed (by kernel_rfl) (.cons _ (.cons _ (.cons_cons _ (.cons_cons _ (List.nil_sublist _))))) ?_
    repeat (first | (refine RX ?_; (first | refine QW_a ?_ | refine QW_of (Qt_ldX rfl (hn := by with_reducible assumption)) ?_ | refine QW_of (Qt_and rfl) ?_)) | ((first | refine WL_op rfl ?_ | refine WR_late rfl rfl rfl ?_ | refine WR_op rfl rfl ?_); (first | refine OW_callP rfl (hF := One_fn (by first | assumption | exact ⟨by omega, by omega⟩)) (hk := ?_)); try refine ⟨(by first | exact fun _ h => h | exact sub_mem (by repeat (first | exact .refl _ | exact List.nil_sublist _ | exact List.sublist_append_right _ _ | exact List.Sublist.append (.refl _) (List.sublist_append_right _ _) | apply List.Sublist.cons_cons | apply List.Sublist.cons))), ?_⟩) | refine WL_nil ?_ | refine WR_nil ?_ | refine WC_seq ?_ | refine WC_block ?_ | refine WC_cond_t (ht := ?_) | refine WC_cond_f (he := ?_) | refine WC_skip ?_ | refine WC_ret ?_ | refine WC_draw_all (id := 10) 21 (Cs [0,1,2,3,4,5,6,7,8,9,10,11,12,13,14,15,16] <| .must 17 <| .calm 18 <| .must 19 <| .calm 20 <| .done) mixed (by kernel_rfl) ?_)
    have hA := hk.a0 (ver_le c t)
    rw [hop] at hA
    have ht0' := hr.t0
    have ht1' := hr.t1
    have hcell : putR (putR (putR (putR (putR (putR zc53 0 (iV (c.ver t)).cells) 1 (Value.int .u32 key).cells) 2 (Value.int .i64 t).cells) 3 (Value.int .i64 (IntKind.i64.wrap (IntKind.i64.wrap (t + A) + 1))).cells) 4 (Value.int .u8 (IntKind.u8.wrap (BitVec.ofInt IntKind.u8.bits sd &&& BitVec.ofInt IntKind.u8.bits 1).toNat)).cells) 5 (Value.agg (agC (oneA val))).cells = (enC (entJ c ⟨key, t, val, sd % 2⟩)).toArray := by
      have w1 : IntKind.i64.wrap (t + A) = t + A := wI64 (by dsimp only at *; omega) (by dsimp only at *; omega)
      have w2 : IntKind.i64.wrap (t + A + 1) = t + A + 1 := wI64 (by dsimp only at *; omega) (by dsimp only at *; omega)
      unfold entJ
      rw [and_one hsd.1 hsd.2, w1, w2]
      dsimp only
      rw [hop]
      rfl
    rw [hcell]
    have hput : putE c ⟨key, t, val, sd % 2⟩ = [entJ c ⟨key, t, val, sd % 2⟩] := by unfold putE; rw [if_neg hc]
    have heO := (putE_en (c := c) hr (entJ c ⟨key, t, val, sd % 2⟩) (by rw [hput]; exact .head _)).join hc
    have hll := mass_len (M := c.rs.length) (l := entJ c ⟨key, t, val, sd % 2⟩ :: l) fun x hx => by
      rcases List.mem_cons.1 hx with rfl | hx
      · exact heO.n0
      · exact (hl.en x hx).n0
    rw [hput] at hM
    rw [massW_cons, List.length_cons] at hll
    rw [massW_cons, show massW c.rs.length [] = 0 from rfl] at hM
    have hJo := pjoin_fn (F := (x6, Obj.cells (opC k A b g) 59 (0, 0)) :: (x3, Obj.cells (rcI key t val sd) 35 (0, 0)) :: F) (e := entJ c ⟨key, t, val, sd % 2⟩) (t := -9223372036854775808) h ht hN (fun q hq => .tail _ (.tail _ (hG q hq))) heO.j (fun x hx => ((hl.en x hx).join hc).j) (by omega)
    refine WR_op rfl rfl (OW_call rfl (hF := hJo) (hk := ?_))
    rintro v _ ⟨S2, T2, o, rfl, h2, ho, hvo⟩
    refine ⟨sub_mem (List.Sublist.trans (.cons_cons _ (.cons_cons _ (List.nil_sublist _))) (List.Sublist.trans (List.sublist_append_right _ _) (List.sublist_append_right _ _))), ?_⟩
    repeat (first | (refine RX ?_; (first | refine QW_a ?_ | refine QW_of (Qt_ldX rfl (hn := by with_reducible assumption)) ?_ | refine QW_of (Qt_and rfl) ?_)) | (refine OX ?_; (first | refine OW_callP rfl (hF := One_fn (by first | assumption | exact ⟨by omega, by omega⟩)) (hk := ?_)); try refine ⟨(by first | exact fun _ h => h | exact sub_mem (by repeat (first | exact .refl _ | exact List.nil_sublist _ | exact List.sublist_append_right _ _ | exact List.Sublist.append (.refl _) (List.sublist_append_right _ _) | apply List.Sublist.cons_cons | apply List.Sublist.cons))), ?_⟩) | refine WL_nil ?_ | refine WR_nil ?_ | refine WC_seq ?_ | refine WC_block ?_ | refine WC_cond_t (ht := ?_) | refine WC_cond_f (he := ?_) | refine WC_skip ?_ | refine WC_ret ?_ | refine WC_draw_all (id := 10) 21 (Cs [0,1,2,3,4,5,6,7,8,9,10,11,12,13,14,15,16] <| .must 17 <| .calm 18 <| .must 19 <| .calm 20 <| .done) mixed (by kernel_rfl) ?_)
    refine ⟨rfl, _, S2 ++ (T2 ++ F), Res1 rfl (resV_tmp rfl), List.Sublist.append (.refl _) (List.Sublist.append (.refl _) (.cons _ (.cons _ (.refl _)))), S2, T2, o, rfl, ?_, ?_, hvo⟩
    · rw [putS_join hc]
      exact h2
    · unfold putO jX
      rw [if_neg hc]
      refine ho.trans (List.Perm.of_eq ?_)
      rw [List.filter_congr fun x hx => by
        have := ((hl.en x hx).join hc).j.s0
        rw [decide_eq_true (show (-9223372036854775808 : Int) ≤ x.s by omega), Bool.and_true]]
end Go.Proofs.YtekmmhmhcpaiaaaGreat
