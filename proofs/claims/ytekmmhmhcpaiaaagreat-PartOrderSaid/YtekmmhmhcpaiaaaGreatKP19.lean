/-
  A part of what the last of these texts needs; by itself it proves no statement.
-/
import Derived.Test.YtekmmhmhcpaiaaaGreatKP18
namespace Go.Proofs.YtekmmhmhcpaiaaaGreat
open Go.RowKit
abbrev ordV : Value := .func (.func 47) #[] #[]
attribute [local irreducible] Fn WC WL WR OW Qt YieldFn QW FnP FnD FnE
set_option maxHeartbeats 4000000 in
theorem insE_fn {g E off cap : Nat} {cur : Array Value} {xs : List EnV} (ho : OwnE cur off cap xs) (hn : xs.length ≤ 100000) {a b : Nat} (hab : a ≤ b) (hb : b ≤ xs.length) {L : List (Nat × Obj)} :
    Fn Tryz.prog 140 [.slice (some ⟨g, off, none⟩) xs.length cap, iV a, iV b, ordV] ((g, .cells cur E (0, 0)) :: L)
      (fun v L' => v = .tuple #[] ∧ ∃ cur' ys, ys.Perm xs ∧ OwnE cur' off cap ys ∧ L' = (g, .cells cur' E (0, 0)) :: L) := by
  refine Fn_enter Tryz.func140 rfl Tryz.ntmps140 rfl fun gw => ?_
  have w1 : IntKind.i64.wrap ((a : Int) + 1) = ((a + 1 : Nat) : Int) := by rw [wI64 (by omega) (by omega)]; omega
  repeat (first | (refine WL_Q ?_; (first | refine QW_a ?_)) | refine WL_nil ?_ | refine WC_seq ?_ | refine WC_block ?_ | refine WC_cond_t (ht := ?_) | refine WC_cond_f (he := ?_) | refine WC_skip ?_ | refine WC_exit ?_ | refine WG 0 ?_)
  rw [w1]
  refine WC_wk [(8, iV ((a + 1 : Nat) : Int)), (0, .slice (some ⟨g, off, none⟩) xs.length cap), (1, iV a), (2, iV b), (3, ordV)] ⟨rfl, rfl, rfl, rfl, rfl, trivial⟩ ?_
  refine WC_loop (fun z σ => ∃ (i : Nat) (ys : List EnV) (cur : Array Value), z = b - i ∧ a < i ∧ i ≤ b + 1 ∧ ys.Perm xs ∧ OwnE cur off cap ys ∧ σ = ⟨[(8, iV i), (0, .slice (some ⟨g, off, none⟩) xs.length cap), (1, iV a), (2, iV b), (3, ordV)], [], (g, .cells cur E (0, 0)) :: L⟩) (b - (a + 1)) ⟨a + 1, xs, cur, rfl, by omega, by omega, .refl _, ho, rfl⟩ ?_
  clear ho cur
  rintro z σ ⟨i, ys, cur, rfl, hai, hib, hp, ho, rfl⟩
  by_cases hlt : i < b
  rotate_left
  · have d : decide ((i : Int) < (b : Int)) = false := decide_eq_false (by omega)
    repeat (first | (refine WL_Q ?_; (first | refine QW_a ?_)) | refine WL_nil ?_ | refine WC_seq ?_ | refine WC_block ?_ | refine WC_cond_t (ht := ?_) | refine WC_cond_f (he := ?_) | refine WC_skip ?_ | refine WC_exit ?_ | refine WG 1 ?_)
    exact ⟨rfl, _, _, Res0 rfl, .refl _, rfl, cur, ys, hp, ho, rfl⟩
  have d : decide ((i : Int) < (b : Int)) = true := decide_eq_true (by omega)
  have wi : IntKind.i64.wrap ((i : Int) + 1) = ((i + 1 : Nat) : Int) := by rw [wI64 (by omega) (by omega)]; omega
  repeat (first | (refine WL_Q ?_; (first | refine QW_a ?_)) | refine WL_nil ?_ | refine WC_seq ?_ | refine WC_block ?_ | refine WC_cond_t (ht := ?_) | refine WC_cond_f (he := ?_) | refine WC_skip ?_ | refine WC_exit ?_ | refine WG 1 ?_ | refine WG 3 ?_)
  refine WC_wk [(9, iV i), (8, iV i), (0, .slice (some ⟨g, off, none⟩) xs.length cap), (1, iV a), (2, iV b), (3, ordV)] ⟨rfl, rfl, rfl, rfl, rfl, rfl, trivial⟩ ?_
  refine WC_loop (fun z σ => ∃ (j : Nat) (ys : List EnV) (cur : Array Value), z = j ∧ a ≤ j ∧ j ≤ i ∧ ys.Perm xs ∧ OwnE cur off cap ys ∧ σ = ⟨[(9, iV j), (8, iV i), (0, .slice (some ⟨g, off, none⟩) xs.length cap), (1, iV a), (2, iV b), (3, ordV)], [], (g, .cells cur E (0, 0)) :: L⟩) i ⟨i, ys, cur, rfl, by omega, Nat.le_refl _, hp, ho, rfl⟩ ?_
  clear ho cur hp ys
  rintro z σ ⟨j, ys, cur, rfl, haj, hji, hp, ho, rfl⟩
  have hl : ys.length = xs.length := hp.length_eq
  by_cases hgt : a < z
  rotate_left
  · have d1 : decide ((z : Int) > (a : Int)) = false := decide_eq_false (by omega)
    repeat (first | ((first | refine WL_Q ?_ | refine WL_Y ?_ | refine WR_Q rfl ?_ | refine WR_late rfl rfl rfl (OW_Q ?_) | refine WR_Y rfl ?_); (first | refine QW_a ?_)) | refine WL_nil ?_ | refine WL_un (h := ?_) | refine WL_N ?_ | refine WL_M ?_ | refine WR_nil ?_ | refine WR_un rfl (hk := ?_) | refine WR_N rfl ?_ | refine WR_M rfl ?_ | refine WC_seq ?_ | refine WC_block ?_ | refine WC_cond_t (ht := ?_) | refine WC_cond_f (he := ?_) | refine WC_skip ?_ | refine WC_exit ?_ | refine WC_draw_all (id := 4) 17 (Cs [0,1,2,3,4,5,6,7,8,9,10,11,12,13] <| .must 14 <| Cs [15,16] <| .done) mixed (by kernel_rfl) ?_ | refine WG 2 ?_ | (refine WR_skN rfl (h := ?_)) | (refine WR_skM rfl (h := ?_)) | (refine WR_skU rfl (h := ?_)))
    rw [wi]
    exact ⟨_, _, by omega, ⟨i + 1, ys, cur, rfl, by omega, by omega, hp, ho, rfl⟩, ⟨rfl, rfl, rfl, rfl, rfl, trivial⟩, rfl, .refl _⟩
  obtain ⟨k, rfl⟩ : ∃ k, z = k + 1 := ⟨z - 1, by omega⟩
  have d1 : decide (((k + 1 : Nat) : Int) > (a : Int)) = true := decide_eq_true (by omega)
  have wk : IntKind.i64.wrap (((k + 1 : Nat) : Int) - 1) = (k : Int) := by rw [wI64 (by omega) (by omega)]; omega
  obtain ⟨x, hx⟩ : ∃ x, ys[k + 1]? = some x := ⟨_, List.getElem?_eq_getElem (by omega)⟩
  obtain ⟨y, hy⟩ : ∃ y, ys[k]? = some y := ⟨_, List.getElem?_eq_getElem (by omega)⟩
  obtain ⟨x1, x2⟩ := enL_ext (Own.at_ ho) hx
  obtain ⟨y1, y2⟩ := enL_ext (Own.at_ ho) hy
  have j0 : (0 : Int) ≤ ((k + 1 : Nat) : Int) := by omega
  have j1 : ((k + 1 : Nat) : Int) < ((xs.length : Nat) : Int) := by omega
  have j2 : (0 : Int) ≤ IntKind.i64.wrap (((k + 1 : Nat) : Int) - 1) := by rw [wk]; omega
  have j3 : IntKind.i64.wrap (((k + 1 : Nat) : Int) - 1) < ((xs.length : Nat) : Int) := by rw [wk]; omega
  have c1 : cur.extract (off + (((k + 1 : Nat) : Int)).toNat * 10) (off + (((k + 1 : Nat) : Int)).toNat * 10 + 10) = (enC x).toArray := by rw [Int.toNat_natCast]; exact x1
  have c2 : off + (((k + 1 : Nat) : Int)).toNat * 10 + 10 ≤ cur.size := by rw [Int.toNat_natCast]; exact x2
  have c3 : cur.extract (off + (IntKind.i64.wrap (((k + 1 : Nat) : Int) - 1)).toNat * 10) (off + (IntKind.i64.wrap (((k + 1 : Nat) : Int) - 1)).toNat * 10 + 10) = (enC y).toArray := by rw [wk, Int.toNat_natCast]; exact y1
  have c4 : off + (IntKind.i64.wrap (((k + 1 : Nat) : Int) - 1)).toNat * 10 + 10 ≤ cur.size := by rw [wk, Int.toNat_natCast]; exact y2
  repeat (first | (refine WL_Q ?_; (first | refine QW_a ?_)) | refine WL_nil ?_ | refine WC_seq ?_ | refine WC_block ?_ | refine WC_cond_t (ht := ?_) | refine WC_cond_f (he := ?_) | refine WC_skip ?_ | refine WC_exit ?_)
  refine WC_draw_sub (id := 4) 17 (Cs [0,1,2,3,4,5,6,7,8,9,10,11,12,13] <| .must 14 <| Cs [15,16] <| .done) mixed (by kernel_rfl) (.cons_cons _ (List.nil_sublist _)) ?_
  repeat refine RQr ?_
  rw [c1, c3]
  refine WR_opY rfl (h := OW_callv rfl rfl rfl rfl rfl (order_fn (x := x) (y := y)) ?_)
  rintro _ _ ⟨⟨q, rfl⟩, rfl⟩
  refine ⟨fun z hz => by
    rw [List.mem_singleton.1 hz]
    exact .head _, ?_⟩
  iterate 2 (refine RQr ?_)
  refine RU ?_
  by_cases hq : q < 0
  rotate_left
  · have dq : decide (q < 0) = false := decide_eq_false hq
    repeat (first | (refine WL_Q ?_; (first | refine QW_a ?_)) | refine WL_nil ?_ | refine WC_seq ?_ | refine WC_block ?_ | refine WC_cond_t (ht := ?_) | refine WC_cond_f (he := ?_) | refine WC_skip ?_ | refine WC_exit ?_ | refine WG 2 ?_)
    rw [wi]
    exact ⟨_, _, by omega, ⟨i + 1, ys, cur, rfl, by omega, by omega, hp, ho, rfl⟩, ⟨rfl, rfl, rfl, rfl, rfl, trivial⟩, rfl, .refl _⟩
  have dq : decide (q < 0) = true := decide_eq_true hq
  have o1 := enC_one x
  have o2 := enC_one y
  repeat (first | (refine WL_Q ?_; (first | refine QW_a ?_)) | refine WL_nil ?_ | refine WC_seq ?_ | refine WC_block ?_ | refine WC_cond_t (ht := ?_) | refine WC_cond_f (he := ?_) | refine WC_skip ?_ | refine WC_exit ?_)
  refine WC_drawK (id := 6) [] 18 (Cs [0,1,2,3,4,5,6,7,8,9,10,11,12,13,14] <| .must 15 <| .calm 16 <| .must 17 <| .done) mixed (by kernel_rfl) (by kernel_rfl) (List.nil_sublist _) ?_; repeat (first | refine WS_d ?_ | refine WS_c rfl (QW_a ?_) | refine WS_r rfl (by kernel_rfl) (QW_a ?_) | (refine WS_m rfl rfl (OE ?_); refine ⟨(fun _ hq => nomatch hq), ?_⟩))
  rw [c1, c3]
  refine WS_m rfl rfl (OW_stN rfl (hl := c2) (hk := ?_))
  refine ⟨(fun _ hq => nomatch hq), ?_⟩
  refine WS_c rfl (QW_a ?_)
  have c5 : off + (IntKind.i64.wrap (((k + 1 : Nat) : Int) - 1)).toNat * 10 + 10 ≤ (putR cur (off + (((k + 1 : Nat) : Int)).toNat * 10) (enC y).toArray).size := by rw [putR_sizeE c2]; exact c4
  refine WS_m rfl rfl (OW_stN rfl (hl := c5) (hk := ?_))
  refine ⟨(fun _ hq => nomatch hq), ?_⟩
  refine WS_d ?_
  repeat (first | (refine WL_Q ?_; (first | refine QW_a ?_)) | refine WL_nil ?_ | refine WC_seq ?_ | refine WC_block ?_ | refine WC_cond_t (ht := ?_) | refine WC_cond_f (he := ?_) | refine WC_skip ?_ | refine WC_exit ?_ | refine WG 5 ?_)
  have q1 := OwnE.put ho (i := k + 1) (by omega) y
  have q2 := OwnE.put q1 (i := k) (by rw [List.length_set]; omega) x
  rw [wk, Int.toNat_natCast, Int.toNat_natCast]
  exact ⟨_, _, by omega, ⟨k, _, _, rfl, by omega, by omega, (swap_perm hx hy).trans hp, q2, rfl⟩, ⟨rfl, rfl, rfl, rfl, rfl, rfl, trivial⟩, rfl, .refl _⟩
end Go.Proofs.YtekmmhmhcpaiaaaGreat
namespace Go.Proofs.YtekmmhmhcpaiaaaGreat
open Go.RowKit
theorem half_u (x : Nat) (h : x ≤ 1000000) : IntKind.i64.wrap ((IntKind.u64.wrap (x : Int)).fdiv (2 ^ min (Int.toNat 1) IntKind.u64.bits)) = ((x / 2 : Nat) : Int) := by
  have h1 : IntKind.u64.wrap (x : Int) = (x : Int) := by
    unfold IntKind.wrap
    simp [IntKind.signed, IntKind.bits]
    omega
  rw [h1, Int.fdiv_eq_ediv_of_nonneg _ (by decide)]
  have h2 : (x : Int) / (2 ^ min (Int.toNat 1) IntKind.u64.bits) = ((x / 2 : Nat) : Int) := by
    show (x : Int) / 2 = _
    omega
  rw [h2, wI64 (by omega) (by omega)]
attribute [local irreducible] Fn WC WL WR OW Qt YieldFn QW FnP FnD FnE
set_option maxHeartbeats 8000000 in
theorem symE_fn {g E off cap : Nat} {L : List (Nat × Obj)} : ∀ (N : Nat) {cur : Array Value} {xs : List EnV} (_ : OwnE cur off cap xs) (_ : xs.length ≤ 100000) {a m b : Nat} (_ : b - a ≤ N) (_ : a < m) (_ : m < b) (_ : b ≤ xs.length),
    Fn Tryz.prog 141 [.slice (some ⟨g, off, none⟩) xs.length cap, iV a, iV m, iV b, ordV] ((g, .cells cur E (0, 0)) :: L)
      (fun v L' => v = .tuple #[] ∧ ∃ cur' ys, ys.Perm xs ∧ OwnE cur' off cap ys ∧ L' = (g, .cells cur' E (0, 0)) :: L) := by
  intro N
  induction N with
  | zero => intro cur xs _ _ a m b h1 h2 h3 _; omega
  | succ N ih =>
  intro cur xs ho hn a m b hN ham hmb hb
  refine Fn_enter Tryz.func141 rfl Tryz.ntmps141 rfl fun gw => ?_
  have wma : IntKind.i64.wrap ((m : Int) - (a : Int)) = ((m - a : Nat) : Int) := by rw [wI64 (by omega) (by omega)]; omega
  have wbm : IntKind.i64.wrap ((b : Int) - (m : Int)) = ((b - m : Nat) : Int) := by rw [wI64 (by omega) (by omega)]; omega
  repeat (first | refine RQ ?_ | refine RC ?_ | refine WG 0 ?_)
  rw [wma]
  by_cases h1 : m - a = 1
  · have dd : (((m - a : Nat) : Int) == 1) = true := by rw [h1]; rfl
    repeat (first | refine RQ ?_ | refine RC ?_ | refine WG 1 ?_ | refine WG 2 ?_)
    refine WC_wk [(11, iV b), (10, iV m), (0, .slice (some ⟨g, off, none⟩) xs.length cap), (1, iV a), (2, iV m), (3, iV b), (4, ordV)] ⟨rfl, rfl, rfl, rfl, rfl, rfl, rfl, trivial⟩ ?_
    refine WC_loop (fun z σ => ∃ i j : Nat, z = j - i ∧ m ≤ i ∧ i ≤ j ∧ j ≤ b ∧ σ = ⟨[(11, iV j), (10, iV i), (0, .slice (some ⟨g, off, none⟩) xs.length cap), (1, iV a), (2, iV m), (3, iV b), (4, ordV)], [], (g, .cells cur E (0, 0)) :: L⟩) (b - m) ⟨m, b, rfl, by omega, by omega, by omega, rfl⟩ ?_
    rintro z σ ⟨i, j, rfl, hi, hij, hj, rfl⟩
    by_cases hlt : i < j
    rotate_left
    · have d : decide ((i : Int) < (j : Int)) = false := decide_eq_false (by omega)
      repeat (first | refine RQ ?_ | refine RC ?_ | refine WG 3 ?_ | refine WG 8 ?_)
      have wi : IntKind.i64.wrap ((i : Int) - 1) = ((i - 1 : Nat) : Int) := by rw [wI64 (by omega) (by omega)]; omega
      refine WC_wk [(13, iV a), (10, iV i), (0, .slice (some ⟨g, off, none⟩) xs.length cap)] ⟨rfl, rfl, rfl, trivial⟩ ?_
      refine WC_loop (fun z σ => ∃ (k : Nat) (ys : List EnV) (cur : Array Value), z = i - k ∧ a ≤ k ∧ k < i ∧ ys.Perm xs ∧ OwnE cur off cap ys ∧ σ = ⟨[(13, iV k), (10, iV i), (0, .slice (some ⟨g, off, none⟩) xs.length cap)], [], (g, .cells cur E (0, 0)) :: L⟩) (i - a) ⟨a, xs, cur, rfl, Nat.le_refl _, by omega, .refl _, ho, rfl⟩ ?_
      clear ho cur d
      rintro z σ ⟨k, ys, cur, rfl, hak, hki, hp, ho, rfl⟩
      have hl : ys.length = xs.length := hp.length_eq
      by_cases hlk : k < i - 1
      rotate_left
      · have d : decide ((k : Int) < IntKind.i64.wrap ((i : Int) - 1)) = false := by rw [wi]; exact decide_eq_false (by omega)
        repeat (first | refine RQ ?_ | refine RC ?_ | refine WG 9 ?_)
        exact ⟨rfl, _, _, Res0 rfl, .refl _, rfl, cur, ys, hp, ho, rfl⟩
      have d : decide ((k : Int) < IntKind.i64.wrap ((i : Int) - 1)) = true := by rw [wi]; exact decide_eq_true (by omega)
      have wk : IntKind.i64.wrap ((k : Int) + 1) = ((k + 1 : Nat) : Int) := by rw [wI64 (by omega) (by omega)]; omega
      obtain ⟨eK, heK⟩ : ∃ x, ys[k]? = some x := ⟨_, List.getElem?_eq_getElem (by omega)⟩
      obtain ⟨xK, zK⟩ := enL_ext (Own.at_ ho) heK
      have pK : (0 : Int) ≤ ((k : Nat) : Int) := by skip; omega
      have qK : ((k : Nat) : Int) < ((xs.length : Nat) : Int) := by skip; omega
      have cK : cur.extract (off + (((k : Nat) : Int)).toNat * 10) (off + (((k : Nat) : Int)).toNat * 10 + 10) = (enC eK).toArray := by skip; rw [Int.toNat_natCast]; exact xK
      have dK : off + (((k : Nat) : Int)).toNat * 10 + 10 ≤ cur.size := by skip; rw [Int.toNat_natCast]; exact zK
      obtain ⟨eJ, heJ⟩ : ∃ x, ys[k + 1]? = some x := ⟨_, List.getElem?_eq_getElem (by omega)⟩
      obtain ⟨xJ, zJ⟩ := enL_ext (Own.at_ ho) heJ
      have pJ : (0 : Int) ≤ IntKind.i64.wrap ((k : Int) + 1) := by rw [wk]; omega
      have qJ : IntKind.i64.wrap ((k : Int) + 1) < ((xs.length : Nat) : Int) := by rw [wk]; omega
      have cJ : cur.extract (off + (IntKind.i64.wrap ((k : Int) + 1)).toNat * 10) (off + (IntKind.i64.wrap ((k : Int) + 1)).toNat * 10 + 10) = (enC eJ).toArray := by rw [wk]; rw [Int.toNat_natCast]; exact xJ
      have dJ : off + (IntKind.i64.wrap ((k : Int) + 1)).toNat * 10 + 10 ≤ cur.size := by rw [wk]; rw [Int.toNat_natCast]; exact zJ
      repeat (first | refine RQ ?_ | refine RC ?_ | refine WG 9 ?_)
      have oK := enC_one eK
      have oJ := enC_one eJ
      repeat (first | refine RQ ?_ | refine RC ?_)
      refine WC_drawK (id := 11) [] 18 (Cs [0,1,2,3,4,5,6,7,8,9,10,11,12,13,14] <| .must 15 <| .calm 16 <| .must 17 <| .done) mixed (by kernel_rfl) (by kernel_rfl) (List.nil_sublist _) ?_; repeat (first | refine WS_d ?_ | refine WS_c rfl (QW_a ?_) | refine WS_r rfl (by kernel_rfl) (QW_a ?_) | (refine WS_m rfl rfl (OE ?_); refine ⟨(fun _ hq => nomatch hq), ?_⟩))
      rw [cK, cJ]
      refine WS_m rfl rfl (OW_stN rfl (hl := dK) (hk := ?_))
      refine ⟨(fun _ hq => nomatch hq), ?_⟩
      refine WS_c rfl (QW_a ?_)
      have d5 : off + (IntKind.i64.wrap ((k : Int) + 1)).toNat * 10 + 10 ≤ (putR cur (off + (((k : Nat) : Int)).toNat * 10) (enC eJ).toArray).size := by rw [putR_sizeE dK]; exact dJ
      refine WS_m rfl rfl (OW_stN rfl (hl := d5) (hk := ?_))
      refine ⟨(fun _ hq => nomatch hq), ?_⟩
      refine WS_d ?_
      repeat (first | refine RQ ?_ | refine RC ?_ | refine WG 10 ?_)
      have q1 := OwnE.put ho (i := k) (by omega) eJ
      have q2 := OwnE.put q1 (i := k + 1) (by rw [List.length_set]; omega) eK
      rw [wk, Int.toNat_natCast, Int.toNat_natCast]
      exact ⟨_, _, by omega, ⟨k + 1, _, _, rfl, by omega, by omega, (swap_perm heK heJ).trans hp, q2, rfl⟩, ⟨rfl, rfl, rfl, trivial⟩, rfl, .refl _⟩
    have d : decide ((i : Int) < (j : Int)) = true := decide_eq_true (by omega)
    have wij : IntKind.i64.wrap ((i : Int) + (j : Int)) = ((i + j : Nat) : Int) := by rw [wI64 (by omega) (by omega)]; omega
    have wh := half_u (i + j) (by omega)
    repeat (first | refine RQ ?_ | refine RC ?_ | refine WG 3 ?_ | refine WG 4 ?_)
    rw [wij, wh]
    obtain ⟨h, hh⟩ : ∃ h, h = (i + j) / 2 := ⟨_, rfl⟩
    rw [← hh]
    have hh1 : i ≤ h ∧ h < j := by omega
    have wh1 : IntKind.i64.wrap ((h : Int) + 1) = ((h + 1 : Nat) : Int) := by rw [wI64 (by omega) (by omega)]; omega
    obtain ⟨eH, heH⟩ : ∃ x, xs[h]? = some x := ⟨_, List.getElem?_eq_getElem (by omega)⟩
    obtain ⟨xH, zH⟩ := enL_ext (Own.at_ ho) heH
    have pH : (0 : Int) ≤ ((h : Nat) : Int) := by skip; omega
    have qH : ((h : Nat) : Int) < ((xs.length : Nat) : Int) := by skip; omega
    have cH : cur.extract (off + (((h : Nat) : Int)).toNat * 10) (off + (((h : Nat) : Int)).toNat * 10 + 10) = (enC eH).toArray := by skip; rw [Int.toNat_natCast]; exact xH
    have dH : off + (((h : Nat) : Int)).toNat * 10 + 10 ≤ cur.size := by skip; rw [Int.toNat_natCast]; exact zH
    obtain ⟨eA, heA⟩ : ∃ x, xs[a]? = some x := ⟨_, List.getElem?_eq_getElem (by omega)⟩
    obtain ⟨xA, zA⟩ := enL_ext (Own.at_ ho) heA
    have pA : (0 : Int) ≤ ((a : Nat) : Int) := by skip; omega
    have qA : ((a : Nat) : Int) < ((xs.length : Nat) : Int) := by skip; omega
    have cA : cur.extract (off + (((a : Nat) : Int)).toNat * 10) (off + (((a : Nat) : Int)).toNat * 10 + 10) = (enC eA).toArray := by skip; rw [Int.toNat_natCast]; exact xA
    have dA : off + (((a : Nat) : Int)).toNat * 10 + 10 ≤ cur.size := by skip; rw [Int.toNat_natCast]; exact zA
    repeat (first | refine RQ ?_ | refine RC ?_)
    refine WC_draw_sub (id := 5) 11 (Cs [0,1,2,3,4,5,6,7,8] <| .must 9 <| .calm 10 <| .done) mixed (by kernel_rfl) (.cons_cons _ (List.nil_sublist _)) ?_
    repeat refine RQr ?_
    rw [cH, cA]
    refine WR_op rfl rfl (OW_callv rfl rfl rfl rfl rfl (order_fn (x := eH) (y := eA)) ?_)
    rintro _ _ ⟨⟨q, rfl⟩, rfl⟩
    refine ⟨fun z hz => by
      rw [List.mem_singleton.1 hz]
      exact .head _, ?_⟩
    iterate 1 (refine RQr ?_)
    refine RU ?_
    by_cases hq : q < 0
    · have dq : decide (q < 0) = true := decide_eq_true hq
      repeat (first | refine RQ ?_ | refine RC ?_ | refine WG 6 ?_)
      rw [wh1]
      exact ⟨_, _, by omega, ⟨h + 1, j, rfl, by omega, by omega, hj, rfl⟩, ⟨rfl, rfl, rfl, rfl, rfl, rfl, rfl, trivial⟩, rfl, .refl _⟩
    · have dq : decide (q < 0) = false := decide_eq_false hq
      repeat (first | refine RQ ?_ | refine RC ?_ | refine WG 7 ?_)
      exact ⟨_, _, by omega, ⟨i, h, rfl, by omega, by omega, by omega, rfl⟩, ⟨rfl, rfl, rfl, rfl, rfl, rfl, rfl, trivial⟩, rfl, .refl _⟩
  have dd : (((m - a : Nat) : Int) == 1) = false := by simp; omega
  repeat (first | refine RQ ?_ | refine RC ?_ | refine WG 12 ?_)
  rw [wbm]
  by_cases h2 : b - m = 1
  · have dd2 : (((b - m : Nat) : Int) == 1) = true := by rw [h2]; rfl
    repeat (first | refine RQ ?_ | refine RC ?_ | refine WG 13 ?_ | refine WG 14 ?_)
    refine WC_wk [(15, iV m), (14, iV a), (0, .slice (some ⟨g, off, none⟩) xs.length cap), (1, iV a), (2, iV m), (3, iV b), (4, ordV)] ⟨rfl, rfl, rfl, rfl, rfl, rfl, rfl, trivial⟩ ?_
    refine WC_loop (fun z σ => ∃ i j : Nat, z = j - i ∧ a ≤ i ∧ i ≤ j ∧ j ≤ m ∧ σ = ⟨[(15, iV j), (14, iV i), (0, .slice (some ⟨g, off, none⟩) xs.length cap), (1, iV a), (2, iV m), (3, iV b), (4, ordV)], [], (g, .cells cur E (0, 0)) :: L⟩) (m - a) ⟨a, m, rfl, by omega, by omega, by omega, rfl⟩ ?_
    rintro z σ ⟨i, j, rfl, hi, hij, hj, rfl⟩
    by_cases hlt : i < j
    rotate_left
    · have d : decide ((i : Int) < (j : Int)) = false := decide_eq_false (by omega)
      repeat (first | refine RQ ?_ | refine RC ?_ | refine WG 15 ?_ | refine WG 20 ?_)
      refine WC_wk [(17, iV m), (14, iV i), (0, .slice (some ⟨g, off, none⟩) xs.length cap)] ⟨rfl, rfl, rfl, trivial⟩ ?_
      refine WC_loop (fun z σ => ∃ (k : Nat) (ys : List EnV) (cur : Array Value), z = k ∧ i ≤ k ∧ k ≤ m ∧ ys.Perm xs ∧ OwnE cur off cap ys ∧ σ = ⟨[(17, iV k), (14, iV i), (0, .slice (some ⟨g, off, none⟩) xs.length cap)], [], (g, .cells cur E (0, 0)) :: L⟩) m ⟨m, xs, cur, rfl, by omega, Nat.le_refl _, .refl _, ho, rfl⟩ ?_
      clear ho cur d
      rintro z σ ⟨k, ys, cur, rfl, hak, hki, hp, ho, rfl⟩
      have hl : ys.length = xs.length := hp.length_eq
      by_cases hlk : i < z
      rotate_left
      · have d : decide ((z : Int) > (i : Int)) = false := decide_eq_false (by omega)
        repeat (first | refine RQ ?_ | refine RC ?_ | refine WG 21 ?_)
        exact ⟨rfl, _, _, Res0 rfl, .refl _, rfl, cur, ys, hp, ho, rfl⟩
      have d : decide ((z : Int) > (i : Int)) = true := decide_eq_true (by omega)
      have wk : IntKind.i64.wrap ((z : Int) - 1) = ((z - 1 : Nat) : Int) := by rw [wI64 (by omega) (by omega)]; omega
      obtain ⟨eK, heK⟩ : ∃ x, ys[z]? = some x := ⟨_, List.getElem?_eq_getElem (by omega)⟩
      obtain ⟨xK, zK⟩ := enL_ext (Own.at_ ho) heK
      have pK : (0 : Int) ≤ ((z : Nat) : Int) := by skip; omega
      have qK : ((z : Nat) : Int) < ((xs.length : Nat) : Int) := by skip; omega
      have cK : cur.extract (off + (((z : Nat) : Int)).toNat * 10) (off + (((z : Nat) : Int)).toNat * 10 + 10) = (enC eK).toArray := by skip; rw [Int.toNat_natCast]; exact xK
      have dK : off + (((z : Nat) : Int)).toNat * 10 + 10 ≤ cur.size := by skip; rw [Int.toNat_natCast]; exact zK
      obtain ⟨eJ, heJ⟩ : ∃ x, ys[z - 1]? = some x := ⟨_, List.getElem?_eq_getElem (by omega)⟩
      obtain ⟨xJ, zJ⟩ := enL_ext (Own.at_ ho) heJ
      have pJ : (0 : Int) ≤ IntKind.i64.wrap ((z : Int) - 1) := by rw [wk]; omega
      have qJ : IntKind.i64.wrap ((z : Int) - 1) < ((xs.length : Nat) : Int) := by rw [wk]; omega
      have cJ : cur.extract (off + (IntKind.i64.wrap ((z : Int) - 1)).toNat * 10) (off + (IntKind.i64.wrap ((z : Int) - 1)).toNat * 10 + 10) = (enC eJ).toArray := by rw [wk]; rw [Int.toNat_natCast]; exact xJ
      have dJ : off + (IntKind.i64.wrap ((z : Int) - 1)).toNat * 10 + 10 ≤ cur.size := by rw [wk]; rw [Int.toNat_natCast]; exact zJ
      repeat (first | refine RQ ?_ | refine RC ?_ | refine WG 21 ?_)
      have oK := enC_one eK
      have oJ := enC_one eJ
      repeat (first | refine RQ ?_ | refine RC ?_)
      refine WC_drawK (id := 23) [] 18 (Cs [0,1,2,3,4,5,6,7,8,9,10,11,12,13,14] <| .must 15 <| .calm 16 <| .must 17 <| .done) mixed (by kernel_rfl) (by kernel_rfl) (List.nil_sublist _) ?_; repeat (first | refine WS_d ?_ | refine WS_c rfl (QW_a ?_) | refine WS_r rfl (by kernel_rfl) (QW_a ?_) | (refine WS_m rfl rfl (OE ?_); refine ⟨(fun _ hq => nomatch hq), ?_⟩))
      rw [cK, cJ]
      refine WS_m rfl rfl (OW_stN rfl (hl := dK) (hk := ?_))
      refine ⟨(fun _ hq => nomatch hq), ?_⟩
      refine WS_c rfl (QW_a ?_)
      have d5 : off + (IntKind.i64.wrap ((z : Int) - 1)).toNat * 10 + 10 ≤ (putR cur (off + (((z : Nat) : Int)).toNat * 10) (enC eJ).toArray).size := by rw [putR_sizeE dK]; exact dJ
      refine WS_m rfl rfl (OW_stN rfl (hl := d5) (hk := ?_))
      refine ⟨(fun _ hq => nomatch hq), ?_⟩
      refine WS_d ?_
      repeat (first | refine RQ ?_ | refine RC ?_ | refine WG 22 ?_)
      have q1 := OwnE.put ho (i := z) (by omega) eJ
      have q2 := OwnE.put q1 (i := z - 1) (by rw [List.length_set]; omega) eK
      rw [wk, Int.toNat_natCast, Int.toNat_natCast]
      exact ⟨_, _, by omega, ⟨z - 1, _, _, rfl, by omega, by omega, (swap_perm heK heJ).trans hp, q2, rfl⟩, ⟨rfl, rfl, rfl, trivial⟩, rfl, .refl _⟩
    have d : decide ((i : Int) < (j : Int)) = true := decide_eq_true (by omega)
    have wij : IntKind.i64.wrap ((i : Int) + (j : Int)) = ((i + j : Nat) : Int) := by rw [wI64 (by omega) (by omega)]; omega
    have wh := half_u (i + j) (by omega)
    repeat (first | refine RQ ?_ | refine RC ?_ | refine WG 15 ?_ | refine WG 16 ?_)
    rw [wij, wh]
    obtain ⟨h, hh⟩ : ∃ h, h = (i + j) / 2 := ⟨_, rfl⟩
    rw [← hh]
    have hh1 : i ≤ h ∧ h < j := by omega
    have wh1 : IntKind.i64.wrap ((h : Int) + 1) = ((h + 1 : Nat) : Int) := by rw [wI64 (by omega) (by omega)]; omega
    obtain ⟨eH, heH⟩ : ∃ x, xs[h]? = some x := ⟨_, List.getElem?_eq_getElem (by omega)⟩
    obtain ⟨xH, zH⟩ := enL_ext (Own.at_ ho) heH
    have pH : (0 : Int) ≤ ((h : Nat) : Int) := by skip; omega
    have qH : ((h : Nat) : Int) < ((xs.length : Nat) : Int) := by skip; omega
    have cH : cur.extract (off + (((h : Nat) : Int)).toNat * 10) (off + (((h : Nat) : Int)).toNat * 10 + 10) = (enC eH).toArray := by skip; rw [Int.toNat_natCast]; exact xH
    have dH : off + (((h : Nat) : Int)).toNat * 10 + 10 ≤ cur.size := by skip; rw [Int.toNat_natCast]; exact zH
    obtain ⟨eA, heA⟩ : ∃ x, xs[m]? = some x := ⟨_, List.getElem?_eq_getElem (by omega)⟩
    obtain ⟨xA, zA⟩ := enL_ext (Own.at_ ho) heA
    have pA : (0 : Int) ≤ ((m : Nat) : Int) := by skip; omega
    have qA : ((m : Nat) : Int) < ((xs.length : Nat) : Int) := by skip; omega
    have cA : cur.extract (off + (((m : Nat) : Int)).toNat * 10) (off + (((m : Nat) : Int)).toNat * 10 + 10) = (enC eA).toArray := by skip; rw [Int.toNat_natCast]; exact xA
    have dA : off + (((m : Nat) : Int)).toNat * 10 + 10 ≤ cur.size := by skip; rw [Int.toNat_natCast]; exact zA
    repeat (first | refine RQ ?_ | refine RC ?_)
    refine WC_draw_sub (id := 17) 12 (Cs [0,1,2,3,4,5,6,7,8] <| .must 9 <| Cs [10,11] <| .done) mixed (by kernel_rfl) (.cons_cons _ (List.nil_sublist _)) ?_
    repeat refine RQr ?_
    rw [cA, cH]
    refine WR_op rfl rfl (OW_callv rfl rfl rfl rfl rfl (order_fn (x := eA) (y := eH)) ?_)
    rintro _ _ ⟨⟨q, rfl⟩, rfl⟩
    refine ⟨fun z hz => by
      rw [List.mem_singleton.1 hz]
      exact .head _, ?_⟩
    iterate 2 (refine RQr ?_)
    refine RU ?_
    by_cases hq : q < 0
    · have dq : decide (q < 0) = true := decide_eq_true hq
      rw [dq]
      repeat (first | refine RQ ?_ | refine RC ?_ | refine WG 19 ?_)
      exact ⟨_, _, by omega, ⟨i, h, rfl, by omega, by omega, by omega, rfl⟩, ⟨rfl, rfl, rfl, rfl, rfl, rfl, rfl, trivial⟩, rfl, .refl _⟩
    · have dq : decide (q < 0) = false := decide_eq_false hq
      rw [dq]
      repeat (first | refine RQ ?_ | refine RC ?_ | refine WG 18 ?_)
      rw [wh1]
      exact ⟨_, _, by omega, ⟨h + 1, j, rfl, by omega, by omega, hj, rfl⟩, ⟨rfl, rfl, rfl, rfl, rfl, rfl, rfl, trivial⟩, rfl, .refl _⟩
  have dd2 : (((b - m : Nat) : Int) == 1) = false := by simp; omega
  repeat (first | refine RQ ?_ | refine RC ?_ | refine WG 24 ?_)
  have wab : IntKind.i64.wrap ((a : Int) + (b : Int)) = ((a + b : Nat) : Int) := by rw [wI64 (by omega) (by omega)]; omega
  have wh := half_u (a + b) (by omega)
  rw [wab, wh]
  obtain ⟨c, hc⟩ : ∃ c, c = (a + b) / 2 := ⟨_, rfl⟩
  rw [← hc]
  have wcm : IntKind.i64.wrap ((c : Int) + (m : Int)) = ((c + m : Nat) : Int) := by rw [wI64 (by omega) (by omega)]; omega
  repeat (first | refine RQ ?_ | refine RC ?_ | refine WG 25 ?_ | refine WG 26 ?_)
  rw [wcm]
  repeat (first | refine RQ ?_ | refine RC ?_ | refine WG 27 ?_)
  refine WC_meet (fun σ => ∃ s0 r0 : Nat, s0 ≤ r0 ∧ r0 ≤ m ∧ r0 ≤ c ∧ a ≤ s0 ∧ c + m ≤ s0 + b ∧ σ = ⟨[(21, iV r0), (20, iV s0), (19, iV ((c + m : Nat) : Int)), (18, iV c), (0, .slice (some ⟨g, off, none⟩) xs.length cap), (1, iV a), (2, iV m), (3, iV b), (4, ordV)], [], (g, .cells cur E (0, 0)) :: L⟩) ?_ ?_
  · by_cases hmc : c < m
    · have d : decide ((m : Int) > (c : Int)) = true := decide_eq_true (by omega)
      have wn : IntKind.i64.wrap (((c + m : Nat) : Int) - (b : Int)) = ((c + m - b : Nat) : Int) := by rw [wI64 (by omega) (by omega)]; omega
      repeat (first | refine RQ ?_ | refine RC ?_ | refine WG 28 ?_ | refine WG 29 ?_)
      rw [wn]
      exact ⟨_, ⟨c + m - b, c, by omega, by omega, by omega, by omega, by omega, rfl⟩, ⟨rfl, rfl, rfl, rfl, rfl, rfl, rfl, rfl, rfl, trivial⟩, rfl, .refl _⟩
    · have d : decide ((m : Int) > (c : Int)) = false := decide_eq_false (by omega)
      repeat (first | refine RQ ?_ | refine RC ?_ | refine WG 30 ?_ | refine WG 31 ?_)
      exact ⟨_, ⟨a, m, by omega, by omega, by omega, by omega, by omega, rfl⟩, ⟨rfl, rfl, rfl, rfl, rfl, rfl, rfl, rfl, rfl, trivial⟩, rfl, .refl _⟩
  rintro _ ⟨s0, r0, hs1, hs2, hs3, hs4, hs5, rfl⟩
  have wp : IntKind.i64.wrap (((c + m : Nat) : Int) - 1) = ((c + m - 1 : Nat) : Int) := by rw [wI64 (by omega) (by omega)]; omega
  repeat (first | refine RQ ?_ | refine RC ?_ | refine WG 32 ?_)
  rw [wp]
  refine WC_wk [(22, iV ((c + m - 1 : Nat) : Int)), (21, iV r0), (20, iV s0), (19, iV ((c + m : Nat) : Int)), (18, iV c), (0, .slice (some ⟨g, off, none⟩) xs.length cap), (1, iV a), (2, iV m), (3, iV b), (4, ordV)] ⟨rfl, rfl, rfl, rfl, rfl, rfl, rfl, rfl, rfl, rfl, trivial⟩ ?_
  refine WC_loop (fun z σ => ∃ i j : Nat, z = j - i ∧ s0 ≤ i ∧ i ≤ j ∧ j ≤ r0 ∧ σ = ⟨[(22, iV ((c + m - 1 : Nat) : Int)), (21, iV j), (20, iV i), (19, iV ((c + m : Nat) : Int)), (18, iV c), (0, .slice (some ⟨g, off, none⟩) xs.length cap), (1, iV a), (2, iV m), (3, iV b), (4, ordV)], [], (g, .cells cur E (0, 0)) :: L⟩) (r0 - s0) ⟨s0, r0, rfl, by omega, by omega, by omega, rfl⟩ ?_
  rintro z σ ⟨i, j, rfl, hi, hij, hj, rfl⟩
  by_cases hlt : i < j
  · have d : decide ((i : Int) < (j : Int)) = true := decide_eq_true (by omega)
    have wij : IntKind.i64.wrap ((i : Int) + (j : Int)) = ((i + j : Nat) : Int) := by rw [wI64 (by omega) (by omega)]; omega
    have wh := half_u (i + j) (by omega)
    repeat (first | refine RQ ?_ | refine RC ?_ | refine WG 33 ?_ | refine WG 34 ?_)
    rw [wij, wh]
    obtain ⟨h, hh⟩ : ∃ h, h = (i + j) / 2 := ⟨_, rfl⟩
    rw [← hh]
    have hh1 : i ≤ h ∧ h < j := by omega
    have wh1 : IntKind.i64.wrap ((h : Int) + 1) = ((h + 1 : Nat) : Int) := by rw [wI64 (by omega) (by omega)]; omega
    have wph : IntKind.i64.wrap (((c + m - 1 : Nat) : Int) - (h : Int)) = ((c + m - 1 - h : Nat) : Int) := by rw [wI64 (by omega) (by omega)]; omega
    obtain ⟨eH, heH⟩ : ∃ x, xs[h]? = some x := ⟨_, List.getElem?_eq_getElem (by omega)⟩
    obtain ⟨xH, zH⟩ := enL_ext (Own.at_ ho) heH
    have pH : (0 : Int) ≤ ((h : Nat) : Int) := by skip; omega
    have qH : ((h : Nat) : Int) < ((xs.length : Nat) : Int) := by skip; omega
    have cH : cur.extract (off + (((h : Nat) : Int)).toNat * 10) (off + (((h : Nat) : Int)).toNat * 10 + 10) = (enC eH).toArray := by skip; rw [Int.toNat_natCast]; exact xH
    have dH : off + (((h : Nat) : Int)).toNat * 10 + 10 ≤ cur.size := by skip; rw [Int.toNat_natCast]; exact zH
    obtain ⟨eA, heA⟩ : ∃ x, xs[c + m - 1 - h]? = some x := ⟨_, List.getElem?_eq_getElem (by omega)⟩
    obtain ⟨xA, zA⟩ := enL_ext (Own.at_ ho) heA
    have pA : (0 : Int) ≤ IntKind.i64.wrap (((c + m - 1 : Nat) : Int) - (h : Int)) := by rw [wph]; omega
    have qA : IntKind.i64.wrap (((c + m - 1 : Nat) : Int) - (h : Int)) < ((xs.length : Nat) : Int) := by rw [wph]; omega
    have cA : cur.extract (off + (IntKind.i64.wrap (((c + m - 1 : Nat) : Int) - (h : Int))).toNat * 10) (off + (IntKind.i64.wrap (((c + m - 1 : Nat) : Int) - (h : Int))).toNat * 10 + 10) = (enC eA).toArray := by rw [wph]; rw [Int.toNat_natCast]; exact xA
    have dA : off + (IntKind.i64.wrap (((c + m - 1 : Nat) : Int) - (h : Int))).toNat * 10 + 10 ≤ cur.size := by rw [wph]; rw [Int.toNat_natCast]; exact zA
    repeat (first | refine RQ ?_ | refine RC ?_)
    refine WC_draw_sub (id := 35) 14 (Cs [0,1,2,3,4,5,6,7,8,9,10] <| .must 11 <| Cs [12,13] <| .done) mixed (by kernel_rfl) (.cons_cons _ (List.nil_sublist _)) ?_
    repeat refine RQr ?_
    rw [cA, cH]
    refine WR_op rfl rfl (OW_callv rfl rfl rfl rfl rfl (order_fn (x := eA) (y := eH)) ?_)
    rintro _ _ ⟨⟨q, rfl⟩, rfl⟩
    refine ⟨fun z hz => by
      rw [List.mem_singleton.1 hz]
      exact .head _, ?_⟩
    iterate 2 (refine RQr ?_)
    refine RU ?_
    by_cases hq : q < 0
    · have dq : decide (q < 0) = true := decide_eq_true hq
      rw [dq]
      repeat (first | refine RQ ?_ | refine RC ?_ | refine WG 37 ?_)
      exact ⟨_, _, by omega, ⟨i, h, rfl, by omega, by omega, by omega, rfl⟩, ⟨rfl, rfl, rfl, rfl, rfl, rfl, rfl, rfl, rfl, rfl, trivial⟩, rfl, .refl _⟩
    · have dq : decide (q < 0) = false := decide_eq_false hq
      rw [dq]
      repeat (first | refine RQ ?_ | refine RC ?_ | refine WG 36 ?_)
      rw [wh1]
      exact ⟨_, _, by omega, ⟨h + 1, j, rfl, by omega, by omega, hj, rfl⟩, ⟨rfl, rfl, rfl, rfl, rfl, rfl, rfl, rfl, rfl, rfl, trivial⟩, rfl, .refl _⟩
  have d : decide ((i : Int) < (j : Int)) = false := decide_eq_false (by omega)
  have we : IntKind.i64.wrap (((c + m : Nat) : Int) - (i : Int)) = ((c + m - i : Nat) : Int) := by rw [wI64 (by omega) (by omega)]; omega
  repeat (first | refine RQ ?_ | refine RC ?_ | refine WG 33 ?_ | refine WG 38 ?_)
  rw [we]
  have hie : i ≤ c ∧ i ≤ m ∧ a ≤ i := by omega
  have hen : c + m - i ≤ b := by omega
  clear hs5 d
  obtain ⟨e, he⟩ : ∃ e, e = c + m - i := ⟨_, rfl⟩
  rw [← he] at hen ⊢
  refine WC_meet2 (fun σ => ∃ (ys : List EnV) (cur : Array Value), ys.Perm xs ∧ OwnE cur off cap ys ∧ σ = ⟨[(24, iV e), (20, iV i), (18, iV c), (0, .slice (some ⟨g, off, none⟩) xs.length cap), (1, iV a), (2, iV m), (3, iV b), (4, ordV)], [], (g, .cells cur E (0, 0)) :: L⟩) ?_ ?_
  · by_cases hc1 : i < m
    · have d1 : decide ((i : Int) < (m : Int)) = true := decide_eq_true (by omega)
      by_cases hc2 : m < e
      · have d2 : decide ((m : Int) < (e : Int)) = true := decide_eq_true (by omega)
        have hF := rotate_fn ho hn hc1 hc2 (by omega) (g := g) (E := E) (fv := ordV) (L := L)
        repeat (first | refine RQ ?_ | ((first | refine WL_op rfl ?_ | refine WL_yes (h := ?_)); (first | (refine OW_call rfl (hF := hF) (hk := ?_); rintro _ _ ⟨rfl, cur', zs, hq, ho', rfl⟩))) | refine RC ?_ | refine WG 39 ?_ | refine WG 40 ?_)
        exact ⟨_, ⟨zs, cur', hq, ho', rfl⟩, ⟨rfl, rfl, rfl, rfl, rfl, rfl, rfl, rfl, trivial⟩, rfl, .refl _⟩
      · have d2 : decide ((m : Int) < (e : Int)) = false := decide_eq_false (by omega)
        repeat (first | refine RQ ?_ | refine RC ?_ | refine WG 39 ?_)
        exact ⟨_, ⟨xs, cur, .refl _, ho, rfl⟩, ⟨rfl, rfl, rfl, rfl, rfl, rfl, rfl, rfl, trivial⟩, rfl, .refl _⟩
    · have d1 : decide ((i : Int) < (m : Int)) = false := decide_eq_false (by omega)
      repeat (first | refine RQ ?_ | refine RC ?_ | refine WG 39 ?_)
      exact ⟨_, ⟨xs, cur, .refl _, ho, rfl⟩, ⟨rfl, rfl, rfl, rfl, rfl, rfl, rfl, rfl, trivial⟩, rfl, .refl _⟩
  clear ho cur
  rintro _ ⟨ys, cur, hp, ho, rfl⟩
  have hl : ys.length = xs.length := hp.length_eq
  repeat (first | refine RQ ?_ | refine RC ?_)
  refine WC_meet2 (fun σ => ∃ (ys : List EnV) (cur : Array Value), ys.Perm xs ∧ OwnE cur off cap ys ∧ σ = ⟨[(24, iV e), (18, iV c), (0, .slice (some ⟨g, off, none⟩) xs.length cap), (3, iV b), (4, ordV)], [], (g, .cells cur E (0, 0)) :: L⟩) ?_ ?_
  · by_cases hc1 : a < i
    · have d1 : decide ((a : Int) < (i : Int)) = true := decide_eq_true (by omega)
      by_cases hc2 : i < c
      · have d2 : decide ((i : Int) < (c : Int)) = true := decide_eq_true (by omega)
        have hF := ih ho (by omega) (a := a) (m := i) (b := c) (by omega) hc1 hc2 (by omega)
        rw [hl] at hF
        repeat (first | refine RQ ?_ | ((first | refine WL_op rfl ?_ | refine WL_yes (h := ?_)); (first | (refine OW_call rfl (hF := hF) (hk := ?_); rintro _ _ ⟨rfl, cur', zs, hq, ho', rfl⟩))) | refine RC ?_ | refine WG 41 ?_ | refine WG 42 ?_)
        exact ⟨_, ⟨zs, cur', hq.trans hp, ho', rfl⟩, ⟨rfl, rfl, rfl, rfl, rfl, trivial⟩, rfl, .refl _⟩
      · have d2 : decide ((i : Int) < (c : Int)) = false := decide_eq_false (by omega)
        repeat (first | refine RQ ?_ | refine RC ?_ | refine WG 41 ?_)
        exact ⟨_, ⟨ys, cur, hp, ho, rfl⟩, ⟨rfl, rfl, rfl, rfl, rfl, trivial⟩, rfl, .refl _⟩
    · have d1 : decide ((a : Int) < (i : Int)) = false := decide_eq_false (by omega)
      repeat (first | refine RQ ?_ | refine RC ?_ | refine WG 41 ?_)
      exact ⟨_, ⟨ys, cur, hp, ho, rfl⟩, ⟨rfl, rfl, rfl, rfl, rfl, trivial⟩, rfl, .refl _⟩
  clear hp hl ho cur ys
  rintro _ ⟨ys, cur, hp, ho, rfl⟩
  have hl : ys.length = xs.length := hp.length_eq
  by_cases hc1 : c < e
  · have d1 : decide ((c : Int) < (e : Int)) = true := decide_eq_true (by omega)
    by_cases hc2 : e < b
    · have d2 : decide ((e : Int) < (b : Int)) = true := decide_eq_true (by omega)
      have hF := ih ho (by omega) (a := c) (m := e) (b := b) (by omega) hc1 hc2 (by omega)
      rw [hl] at hF
      repeat (first | refine RQ ?_ | ((first | refine WL_op rfl ?_ | refine WL_yes (h := ?_)); (first | (refine OW_call rfl (hF := hF) (hk := ?_); rintro _ _ ⟨rfl, cur', zs, hq, ho', rfl⟩))) | refine RC ?_ | refine WG 43 ?_ | refine WG 44 ?_)
      exact ⟨rfl, _, _, Res0 rfl, .refl _, rfl, cur', zs, hq.trans hp, ho', rfl⟩
    · have d2 : decide ((e : Int) < (b : Int)) = false := decide_eq_false (by omega)
      repeat (first | refine RQ ?_ | refine RC ?_ | refine WG 43 ?_)
      exact ⟨rfl, _, _, Res0 rfl, .refl _, rfl, cur, ys, hp, ho, rfl⟩
  · have d1 : decide ((c : Int) < (e : Int)) = false := decide_eq_false (by omega)
    repeat (first | refine RQ ?_ | refine RC ?_ | refine WG 43 ?_)
    exact ⟨rfl, _, _, Res0 rfl, .refl _, rfl, cur, ys, hp, ho, rfl⟩
end Go.Proofs.YtekmmhmhcpaiaaaGreat
