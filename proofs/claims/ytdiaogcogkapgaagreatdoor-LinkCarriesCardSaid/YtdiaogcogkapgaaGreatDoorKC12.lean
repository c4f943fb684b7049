/-
  A part of what the last of these texts needs; by itself it proves no statement.
-/
import Derived.ChangeSame
import Derived.ChangeVars
import Derived.JoinedOf
import Derived.LaidLaws
import Derived.LaidHandle
import Derived.Stop.Joined
import Derived.Test.YtdiaogcogkapgaaGreatDoorKC11
namespace Go.Proofs.YtdiaogcogkapgaaGreatDoor
open Go.RowKit
abbrev eld (i cap : Nat) : List (List Value) := (List.range' 1000 (min i cap)).map mkC
theorem eld_len (i cap : Nat) : (eld i cap).length = min i cap := by rw [List.length_map, List.length_range']
theorem eld_push (i cap : Nat) : (if (eld i cap).length = cap then eld i cap else eld i cap ++ [mkC (1000 + i)]) = eld (i + 1) cap := by
  rw [eld_len]
  by_cases h : min i cap = cap
  · rw [if_pos h]
    unfold eld
    rw [h, show min (i + 1) cap = cap by omega]
  · rw [if_neg h]
    unfold eld
    rw [show min i cap = i by omega, show min (i + 1) cap = i + 1 by omega, List.range'_1_concat, List.map_append]
    rfl
def WsOk (cap : Nat) (s : Pst) (ws : List Way) : Prop := ∀ w ∈ ws, w.Ok cap s
theorem WsOk.snoc {cap : Nat} {s : Pst} {ws : List Way} {w : Way} (h : WsOk cap s ws) (hw : w.Ok cap s) : WsOk cap s (ws ++ [w]) := fun x hx => by
  rcases List.mem_append.1 hx with hx | hx
  · exact h x hx
  · obtain rfl : x = w := by simpa using hx
    exact hw
theorem src_way {c : Cx} {M : List (Nat × Obj)} {b E t2 e : Nat} {w : Way} [hu : TUnd c.P t2 (.slice e)] : SrcL c ((b, .cells w.c.toArray E (0, 0)) :: M) 2 t2 (.slice (some ⟨b, 0, none⟩) 1 1) 1 w.c :=
  srcVec ⟨rfl, _, 1, rfl, Nat.le_refl _, by decide, .inr ⟨b, 0, _, _, _, 0, rfl, rfl, fun j x hx => by rw [Nat.zero_add]; simpa using hx⟩⟩ (fun u hu => by
    simp only [Way.c, List.mem_cons, List.not_mem_nil, or_false] at hu
    rcases hu with rfl | rfl <;> rfl)
def s0 (cap : Nat) : Pst := ⟨0, 0, 0, 0, cap⟩
theorem s0_ok {cap : Nat} (h1 : 1 ≤ cap) (h2 : cap ≤ 16) : (s0 cap).Ok cap := ⟨h1, h2, Nat.le_refl _, Nat.le_refl _, Nat.le_refl _, Nat.zero_le _, Nat.zero_le _, Nat.zero_le _, by show cap ≤ 2000; omega⟩
theorem WC_permA {c : Cx} {code : Code} {K : Exit → St → Prop} {s : List (Nat × Value)} {D : List Deferred} {L L' : List (Nat × Obj)} (hp : L'.Perm L) (h : WC c code K ⟨s, D, L'⟩) : WC c code K ⟨s, D, L⟩ := fun a w ha => h a w (ha.mem' (ha.mem.perm hp))
theorem WL_dropL {c : Cx} {ops : Array Oper} {l : List Oper} {K : Exit → St → Prop} {s : List (Nat × Value)} {D : List Deferred} {L L' : List (Nat × Obj)} (hp : L'.Sublist L) (h : WL c ops l K ⟨s, D, L'⟩) : WL c ops l K ⟨s, D, L⟩ := fun a w ha => h a w (ha.mem' (ha.mem.sublist hp))
theorem blockK_mono {id : Nat} {K1 K2 : Exit → St → Prop} (h : ∀ e σ, K1 e σ → K2 e σ) (e : Exit) (σ : St) (hk : blockK id K1 e σ) : blockK id K2 e σ := by
  cases e with
  | exit id' =>
    simp only [blockK] at hk ⊢
    split at hk
    · exact h _ _ hk
    · exact h _ _ hk
  | normal => exact h _ _ hk
  | ret => exact h _ _ hk
  | panic ch => exact h _ _ hk
  | goto l => exact h _ _ hk
  | outgrown => exact h _ _ hk
theorem WC_meetL {c : Cx} {x z : Code} {id : Nat} {K : Exit → St → Prop} {σ : St} (Q : St → Prop) (hA : WC c x (blockK id (thenK (meetQ Q) K)) σ) (hB : ∀ σ, Q σ → WC c z K σ) : WC c x (blockK id (thenK (WC c z K) K)) σ :=
  WC_mono hA (blockK_mono (meet_next hB))
theorem BufW.cut {ws : List Way} {g o cv : Nat} {cur : Array Value} (h : BufW (.slice (some ⟨g, o, none⟩) ws.length cv) [(g, .cells cur 50 (0, 0))] ws) {j : Nat} (hj : j < ws.length) : Own 2 cur o j j ((ws.take j).map Way.c).flatten ∧ (∀ (L : List (Nat × Obj)) (i : Nat), L[i]? = some (g, .cells cur 50 (0, 0)) → Vec 2 L (.slice (some ⟨g, o, none⟩) j j) j ((ws.take j).map Way.c).flatten) ∧ (∀ (L : List (Nat × Obj)) (i : Nat), L[i]? = some (g, .cells cur 50 (0, 0)) → Vec 2 L (.slice (some ⟨g, slOff cv (j + 1) o 2, none⟩) (ws.length - (j + 1)) (cv - (j + 1))) (ws.length - (j + 1)) ((ws.drop (j + 1)).map Way.c).flatten) := by
  rcases h with ⟨_, h2, _⟩ | ⟨g', off, cap, cu', e1, e2, ho⟩
  · omega
  · simp only [Value.slice.injEq, Option.some.injEq, Addr.mk.injEq, true_and, and_true] at e1
    simp only [List.cons.injEq, Prod.mk.injEq, Obj.cells.injEq, and_true] at e2
    obtain ⟨⟨rfl, rfl⟩, rfl⟩ := e1
    obtain ⟨_, rfl⟩ := e2
    have hle := ho.le
    have ht : Own 2 cur o j j ((ws.take j).map Way.c).flatten := by
      have := ho.take (k := j) (cap' := j) (by omega) (Nat.le_refl _) (by omega)
      rwa [ways_take] at this
    refine ⟨ht, fun L i hi => ht.vec i hi, fun L i hi => ?_⟩
    have hm := ho.max
    refine ⟨by rw [ways_len, List.length_drop], _, _, rfl, by omega, by omega, ?_⟩
    by_cases he : ws.length - (j + 1) = 0
    · exact .inl he
    · refine .inr ⟨g, _, cur, _, _, i, rfl, hi, fun k x hk => ?_⟩
      rw [← ways_drop, List.getElem?_drop] at hk
      have := ho.at_ _ _ hk
      rw [show slOff cv (j + 1) o 2 = o + (j + 1) * 2 from if_neg (by omega)]
      rw [← this]; congr 1; omega
theorem WsOk.cut {cap : Nat} {s : Pst} {ws : List Way} (h : WsOk cap s ws) (j : Nat) : WsOk cap s (ws.take j ++ ws.drop (j + 1)) := fun x hx => by
  rcases List.mem_append.1 hx with hx | hx
  · exact h x (List.mem_of_mem_take hx)
  · exact h x (List.mem_of_mem_drop hx)
def mu (s : Pst) : Nat := (s.pushed - s.popped) + (if s.base < s.next then 1 else 0)
theorem mu_le {cap : Nat} {s : Pst} (h : s.Ok cap) : mu s ≤ 33 := by
  have b1 := h.h1; have b2 := h.h2; have b3 := h.h3; have b4 := h.h4; have b5 := h.h5; have b6 := h.c2
  unfold mu
  split <;> omega
theorem mu_less {s s1 : Pst} (e1 : s1.pushed = s.pushed) (e2 : s1.popped = s.popped) (e3 : s1.base = s1.next) (hlt : s.popped < s.pushed) : mu s1.less < mu s := by
  unfold mu
  rw [if_neg (show ¬ s1.less.base < s1.less.next by show ¬ s1.base < s1.next; omega)]
  show s1.pushed - (s1.popped + 1) + 0 < _
  split <;> omega
theorem mu_same {s s1 : Pst} (e1 : s1.pushed = s.pushed) (e2 : s1.popped = s.popped) (e3 : s1.base = s1.next) (h : s.base < s.next) : mu s1 < mu s := by
  unfold mu
  rw [if_neg (by omega), if_pos h]
  omega
theorem pos_of_refused {cap : Nat} {s : Pst} (h : s.Ok cap) (he : s.base = s.next) : s.popped < (s.go cap (.dat s.base)).next := by
  have b1 := h.h1; have b0 := h.c1
  simp only [Pst.go]
  split
  · show s.popped < s.next + 1; omega
  · rename_i hne
    have := mt dataE_zero.2 hne
    show s.popped < s.next
    have : s.next - s.popped = cap := Decidable.byContradiction fun hc => this ⟨he, hc⟩
    omega
attribute [local irreducible] Fn WC WL WR OW Qt YieldFn QW FnP FnD FnE
theorem pumpSB {ob ib cap : Nat} {s : Pst} {SO SI F : List (Nat × Obj)} (h : Sys ob ib SO SI cap s) (hs : s.Ok cap) : Fn Tryz.prog 10 [.pointer (some ⟨ob, 0, none⟩), .int .i64 0] (SO ++ F) (fun r L' => ∃ str : List UInt8, (s.base < s.pushed → str = (Way.dat s.base).s) ∧ r = .tuple #[.string (bstr str), .bool (decide (s.base < s.pushed))] ∧ L' = SO ++ F) := by
  by_cases hz : s.base < s.pushed
  · refine (pumpS (F := F) (k := 0) h hs hz (by decide)).mono ?_
    rintro _ _ ⟨rfl, rfl⟩
    exact ⟨(Way.dat (s.at_ 0)).s, fun _ => by rw [Pst.at_zero], by rw [decide_eq_true hz], rfl⟩
  · have := hs.h2; have := hs.h3
    refine (pumpS0 (F := F) (k := 0) h (by omega)).mono ?_
    rintro _ _ ⟨rfl, rfl⟩
    exact ⟨[], fun hc => absurd hc hz, by rw [decide_eq_false hz], rfl⟩
set_option maxHeartbeats 16000000 in
theorem carries_fn {small : Nat} {ev lv : Value} {en ln : Nat} {L : List (Nat × Obj)} (he : ChAt L ev en) (hl : ChAt L lv ln) (hH : HandleIn L) : Fn Tryz.prog 3 [.int .u8 (small : Nat), ev, lv] L (fun r L' => r = .bool true ∧ L' = L) := by
  obtain ⟨ea, ec, rfl, hel, hem, hech⟩ := he
  obtain ⟨la, lc, rfl, hll, hlm, hlch⟩ := hl
  refine Fn_enter Tryz.func3 rfl Tryz.ntmps3 rfl fun gw => ?_
  obtain ⟨cap, hcap⟩ : ∃ cap, cap = 1 + small % 16 := ⟨_, rfl⟩
  have c1 : 1 ≤ cap := by omega
  have c2 : cap ≤ 16 := by omega
  have ecap : IntKind.i64.wrap (1 + IntKind.i64.wrap (((small : Nat) : Int).tmod 16)) = ((cap : Nat) : Int) := by
    rw [show ((small : Nat) : Int).tmod 16 = ((small % 16 : Nat) : Int) from rfl, wI64 (x := ((small % 16 : Nat) : Int)) (by omega) (by omega), wI64 (by omega) (by omega)]
    omega
  repeat (first | refine RQ ?_ | (refine WL_op rfl ?_; (first | refine OW_callP rfl (hF := works22_fn hH) (hk := ?_))) | refine RC ?_ | refine WG 0 ?_ | refine WG 1 ?_ | refine WG 3 ?_)
  rw [ecap]
  clear ecap hcap
  repeat (first | refine RQ ?_ | (refine WL_op rfl ?_; (first | (refine OW_call rfl (hF := newOut_fn c1 c2 (by decide) (by decide) (by decide) (by decide)) (hk := ?_); rintro _ _ ⟨ob, SO, rfl, rfl, hO⟩) | (refine OW_call rfl (hF := newIn_fn c1 c2 (by decide) (by decide) (by decide) (by decide)) (hk := ?_); rintro _ _ ⟨ib, SI, rfl, rfl, hI⟩))) | refine RC ?_ | refine WG 4 ?_)
  repeat (first | refine RQ ?_ | ((first | refine WL_op rfl ?_ | refine WL_yes (h := ?_)); (first | (refine OW_call rfl (hF := newOut_fn c1 c2 (by decide) (by decide) (by decide) (by decide)) (hk := ?_); rintro _ _ ⟨oo, So, rfl, rfl, hOo⟩))) | refine RC ?_ | refine WG 5 ?_ | refine WG 6 ?_ | refine WG 8 ?_ | refine WG 9 ?_)
  have hS : Sys ob ib SO SI cap (s0 cap) := ⟨hO, hI⟩
  clear hO hI
  refine WC_permA (L' := So ++ ([] ++ (SO ++ (SI ++ L)))) (List.Perm.append_left So (show ([] ++ (SO ++ (SI ++ L))).Perm (SI ++ (SO ++ L)) from List.perm_append_comm_assoc SO SI L)) ?_
  refine WC_wk [(12, .int .i64 ((0 : Nat) : Int)), (11, .slice none 0 0), (10, .pointer (some ⟨oo, 0, none⟩)), (9, .pointer (some ⟨ib, 0, none⟩)), (8, .pointer (some ⟨ob, 0, none⟩)), (7, .int .i64 (cap : Nat)), (1, .slice ea en ec), (2, .slice la ln lc)] ⟨rfl, rfl, rfl, rfl, rfl, rfl, rfl, rfl, trivial⟩ ?_
  refine WC_meetL (fun σ => ∃ (So : List (Nat × Obj)) (ws : List Way) (v : Value) (T : List (Nat × Obj)), ws.length ≤ 10 ∧ WsOk cap (s0 cap) ws ∧ BufW v T ws ∧ σ = ⟨[(11, v), (9, .pointer (some ⟨ib, 0, none⟩)), (8, .pointer (some ⟨ob, 0, none⟩)), (7, .int .i64 (cap : Nat)), (2, .slice la ln lc)], [], So ++ (T ++ (SO ++ (SI ++ L)))⟩) ?_ ?_
  · refine WC_loop (fun m σ => ∃ (i : Nat) (So : List (Nat × Obj)) (ws : List Way) (v : Value) (T : List (Nat × Obj)), m = en - i ∧ i ≤ en ∧ i ≤ 10 ∧ OutAt oo So 7 (3 : Nat) (eld i cap) cap 0 cap ∧ ws.length ≤ i ∧ WsOk cap (s0 cap) ws ∧ BufW v T ws ∧ σ = ⟨[(12, .int .i64 i), (11, v), (10, .pointer (some ⟨oo, 0, none⟩)), (9, .pointer (some ⟨ib, 0, none⟩)), (8, .pointer (some ⟨ob, 0, none⟩)), (7, .int .i64 (cap : Nat)), (1, .slice ea en ec), (2, .slice la ln lc)], [], So ++ (T ++ (SO ++ (SI ++ L)))⟩) en ⟨0, So, [], _, [], by omega, by omega, by omega, by unfold eld; rw [Nat.zero_min]; exact hOo, Nat.le_refl _, (fun w hw => by cases hw), Buf.nil _ _, rfl⟩ ?_
    clear hOo So
    rintro m σ ⟨i, So, ws, v, T, rfl, hi, hi10, hOo, hwl, hws, hb, rfl⟩
    by_cases hgo : i < en ∧ i < 10
    rotate_left
    · by_cases hlt : i < en
      · have d2 : decide ((i : Int) < ((en : Nat) : Int)) = true := decide_eq_true (by omega)
        have d3 : decide ((i : Int) < 10) = false := decide_eq_false (by omega)
        repeat (first | refine RQ ?_ | refine RC ?_ | refine WG 10 ?_)
        exact ⟨_, ⟨So, ws, v, T, by omega, hws, hb, rfl⟩, ⟨rfl, rfl, rfl, rfl, rfl, trivial⟩, rfl, .refl _⟩
      · have d2 : decide ((i : Int) < ((en : Nat) : Int)) = false := decide_eq_false (by omega)
        repeat (first | refine RQ ?_ | refine RC ?_ | refine WG 10 ?_)
        exact ⟨_, ⟨So, ws, v, T, by omega, hws, hb, rfl⟩, ⟨rfl, rfl, rfl, rfl, rfl, trivial⟩, rfl, .refl _⟩
    obtain ⟨hlt, h10⟩ := hgo
    have d2 : decide ((i : Int) < ((en : Nat) : Int)) = true := decide_eq_true (by omega)
    have d3 : decide ((i : Int) < 10) = true := decide_eq_true (by omega)
    obtain ⟨g1, o1, cu1, E1, fr1, i1, what, kk, rfl, hi1, w0, w1, x0, x1⟩ := hech i hlt
    have p0 : (0 : Int) ≤ (i : Int) := by omega
    have p1 : ((i : Nat) : Int) < ((en : Nat) : Int) := by omega
    have y1 : cu1[o1 + ((i : Nat) : Int).toNat * 2 + 1]? = some (.int .u8 (kk : Nat)) := by rw [Int.toNat_natCast]; exact x1
    have w : IntKind.i64.wrap ((i : Int) + 1) = ((i + 1 : Nat) : Int) := by rw [wI64 (by omega) (by omega)]; omega
    have wm : IntKind.i64.wrap (1000 + (i : Int)) = ((1000 + i : Nat) : Int) := by rw [wI64 (by omega) (by omega)]; omega
    have wk : IntKind.i64.wrap ((kk : Nat) : Int) = ((kk : Nat) : Int) := wI64 (by omega) (by omega)
    repeat (first | refine RQ ?_ | refine RC ?_ | refine WG 10 ?_ | refine WG 12 ?_)
    rw [wm]
    repeat (first | refine RQ ?_ | (refine WL_op rfl ?_; (first | refine OW_callP rfl (hF := msg22_fn (n := 1000 + i)) (hk := ?_))) | refine RC ?_ | refine WG 12 ?_)
    refine WL_op rfl (OW_call rfl (hF := push22_fn (n := 1000 + i) (by omega) hOo) (hk := ?_))
    rintro _ _ ⟨rfl, So', rfl, hOo'⟩
    rw [eld_push] at hOo'
    have hm1 : (So' ++ (T ++ (SO ++ (SI ++ L))))[So'.length + (T.length + (SO.length + (SI.length + i1)))]? = some (g1, .cells cu1 E1 fr1) := by
      rw [List.getElem?_append_right (by omega), Nat.add_sub_cancel_left, List.getElem?_append_right (by omega), Nat.add_sub_cancel_left, List.getElem?_append_right (by omega), Nat.add_sub_cancel_left, List.getElem?_append_right (by omega), Nat.add_sub_cancel_left]; exact hi1
    repeat (first | refine RQ ?_ | (refine WL_op rfl ?_; (first | refine OW_callP rfl (hF := msg22_fn (n := 1000 + i)) (hk := ?_))) | refine RC ?_ | refine WG 12 ?_ | refine WG 13 ?_)
    rw [wk]
    obtain ⟨jj, hj⟩ : ∃ jj, jj = kk % mayN (eld (i + 1) cap).length 0 cap := ⟨_, rfl⟩
    have hel2 := eld_len (i + 1) cap
    obtain ⟨mp, ml⟩ := mayN_pos (len := (eld (i + 1) cap).length) (base := 0) (limit := cap) (by omega)
    have hjl : jj < (eld (i + 1) cap).length := by rw [hj]; exact Nat.lt_of_lt_of_le (Nat.mod_lt _ mp) ml
    have hget : (eld (i + 1) cap)[kk % mayN (eld (i + 1) cap).length 0 cap]? = some (mkC (1000 + jj)) := by
      rw [← hj, List.getElem?_map, List.getElem?_range' (by omega), Nat.one_mul]; rfl
    have hP := pump_fn (F := T ++ (SO ++ (SI ++ L))) (lf := 3) hOo' (by decide) hget (by omega) (by omega) (by omega) (by omega)
    rw [← hj, Nat.zero_add] at hP
    repeat (first | refine RQ ?_ | (refine RE ?_; try intro _) | (refine WL_op rfl ?_; (first | refine OW_callP rfl (hF := hP) (hk := ?_))) | refine RC ?_ | refine WG 13 ?_ | refine WG 14 ?_ | refine WG 15 ?_)
    rename_i wb
    refine WL_op rfl (OW_append_bufM (A := (wb, .cells (Way.old jj (1000 + jj)).c.toArray 50 (0, 0)) :: So') (T := T) (B := SO ++ (SI ++ L)) rfl rfl rfl rfl rfl hb src_way rfl (by simp only [maxLen]; omega) (by omega) ?_)
    intro v' T' hb'
    have hb' := BufW.app (w := .old jj (1000 + jj)) hb'
    repeat (first | refine RQ ?_ | (refine RE ?_; try intro _) | refine RC ?_ | refine WG 15 ?_ | refine WG 11 ?_)
    rw [w]
    exact ⟨_, _, by omega, ⟨i + 1, So', ws ++ [.old jj (1000 + jj)], v', T', rfl, by omega, by omega, hOo', by rw [List.length_append]; simp; omega, hws.snoc (w := .old jj (1000 + jj)) ⟨by omega, by omega⟩, hb', rfl⟩, ⟨rfl, rfl, rfl, rfl, rfl, rfl, rfl, rfl, trivial⟩, rfl, .cons _ (.refl _)⟩
  rintro _ ⟨So, ws, v, T, hwl, hws, hb, rfl⟩
  refine WC_dropL (T ++ (SO ++ (SI ++ L))) (List.sublist_append_right _ _) ?_
  refine WC_permA (L' := SO ++ (SI ++ (T ++ L))) (.trans (.append_left SO (List.perm_append_comm_assoc SI T L)) (List.perm_append_comm_assoc SO T (SI ++ L))) ?_
  clear hech hOo So hel hem
  repeat (first | refine RQ ?_ | refine RC ?_ | refine WG 16 ?_ | refine WG 17 ?_)
  refine WC_wk [(17, .int .i64 ((0 : Nat) : Int)), (16, .int .i64 ((0 : Nat) : Int)), (15, .int .i64 ((0 : Nat) : Int)), (11, v), (9, .pointer (some ⟨ib, 0, none⟩)), (8, .pointer (some ⟨ob, 0, none⟩)), (7, .int .i64 (cap : Nat)), (2, .slice la ln lc)] ⟨rfl, rfl, rfl, rfl, rfl, rfl, rfl, rfl, trivial⟩ ?_
  refine WC_meetL (fun σ => ∃ (s : Pst) (SO SI : List (Nat × Obj)), s.Ok cap ∧ Sys ob ib SO SI cap s ∧ σ = ⟨[(16, .int .i64 s.popped), (15, .int .i64 s.pushed), (9, .pointer (some ⟨ib, 0, none⟩)), (8, .pointer (some ⟨ob, 0, none⟩))], [], SO ++ (SI ++ L)⟩) ?_ ?_
  rotate_left
  · clear hS SO SI hwl hws hb ws v T
    rintro _ ⟨s, SO, SI, hs, hS, rfl⟩
    repeat (first | refine RQ ?_ | refine RC ?_ | refine WG 56 ?_)
    refine WC_wk [(30, .int .i64 ((0 : Nat) : Int)), (16, .int .i64 s.popped), (15, .int .i64 s.pushed), (9, .pointer (some ⟨ib, 0, none⟩)), (8, .pointer (some ⟨ob, 0, none⟩))] ⟨rfl, rfl, rfl, rfl, rfl, trivial⟩ ?_
    refine WC_meetL (fun σ => ∃ (s : Pst) (SO SI : List (Nat × Obj)), s.Ok cap ∧ Sys ob ib SO SI cap s ∧ s.popped = s.pushed ∧ σ = ⟨[(16, .int .i64 s.popped), (15, .int .i64 s.pushed), (9, .pointer (some ⟨ib, 0, none⟩)), (8, .pointer (some ⟨ob, 0, none⟩))], [], SO ++ (SI ++ L)⟩) ?_ ?_
    rotate_left
    · clear hS hs SO SI s
      rintro _ ⟨s, SO, SI, hs, hS, heq, rfl⟩
      have b1 := hs.h1; have b3 := hs.h3
      have t1 : (((s.popped : Nat) : Int) == ((s.pushed : Nat) : Int)) = true := by rw [heq]; simp
      have t2 : (((s.next - s.popped : Nat) : Int) == 0) = true := by rw [show s.next - s.popped = 0 by omega]; rfl
      repeat (first | refine RQ ?_ | ((first | refine WL_op rfl ?_ | refine WL_yes (h := ?_)); (first | refine OW_callP rfl (hF := Fn.underP (Pf := SO) (ilenS hS)) (hk := ?_))) | refine RC ?_ | refine WG 73 ?_)
      exact ⟨rfl, _, _, Res1 rfl (resV_tmp rfl), (List.sublist_append_right _ _).trans (List.sublist_append_right SO _), by rw [t2], rfl⟩
    refine WC_loop (fun m σ => ∃ (i : Nat) (s : Pst) (SO SI : List (Nat × Obj)), m = mu s ∧ i + mu s ≤ 33 ∧ s.Ok cap ∧ Sys ob ib SO SI cap s ∧ σ = ⟨[(30, .int .i64 i), (16, .int .i64 s.popped), (15, .int .i64 s.pushed), (9, .pointer (some ⟨ib, 0, none⟩)), (8, .pointer (some ⟨ob, 0, none⟩))], [], SO ++ (SI ++ L)⟩) (mu s) ⟨0, s, SO, SI, rfl, by have := mu_le hs; omega, hs, hS, rfl⟩ ?_
    clear hS hs SO SI s
    rintro m σ ⟨i, s, SO, SI, rfl, hi, hs, hS, rfl⟩
    have d2 : decide ((i : Int) < 60) = true := decide_eq_true (by omega)
    have b1 := hs.h1; have b2 := hs.h2; have b3 := hs.h3; have b6 := hs.h6
    by_cases hgo : s.popped < s.pushed
    rotate_left
    · have d3 : decide (((s.popped : Nat) : Int) < ((s.pushed : Nat) : Int)) = false := decide_eq_false (by omega)
      repeat (first | refine RQ ?_ | refine RC ?_ | refine WG 57 ?_)
      exact ⟨_, ⟨s, SO, SI, hs, hS, by omega, rfl⟩, ⟨rfl, rfl, rfl, rfl, trivial⟩, rfl, .refl _⟩
    have d3 : decide (((s.popped : Nat) : Int) < ((s.pushed : Nat) : Int)) = true := decide_eq_true (by omega)
    have w : IntKind.i64.wrap ((i : Int) + 1) = ((i + 1 : Nat) : Int) := by rw [wI64 (by omega) (by omega)]; omega
    repeat (first | refine RQ ?_ | ((first | refine WL_op rfl ?_ | refine WL_yes (h := ?_)); (first | (refine OW_call rfl (hF := pumpSB hS hs) (hk := ?_); rintro _ _ ⟨str, hstr, rfl, rfl⟩))) | refine RC ?_ | refine WG 57 ?_ | refine WG 59 ?_ | refine WG 60 ?_)
    refine WC_meet (fun σ => ∃ (s1 : Pst) (SO SI : List (Nat × Obj)), s1.Ok cap ∧ Sys ob ib SO SI cap s1 ∧ s1.pushed = s.pushed ∧ s1.popped = s.popped ∧ s1.base = s1.next ∧ (s.base = s.next → s1.popped < s1.next) ∧ σ = ⟨[(30, .int .i64 i), (16, .int .i64 s1.popped), (15, .int .i64 s1.pushed), (9, .pointer (some ⟨ib, 0, none⟩)), (8, .pointer (some ⟨ob, 0, none⟩))], [], SO ++ (SI ++ L)⟩) ?_ ?_
    rotate_left
    · rintro _ ⟨s1, SO, SI, hs1, hS1, e1, e2, e3, e4, rfl⟩
      clear hS hstr
      have q1 := hs1.h1; have q2 := hs1.h2; have q3 := hs1.h3; have q6 := hs1.h6
      repeat (first | refine RQ ?_ | (refine RE ?_; try intro _) | refine RC ?_ | refine WG 68 ?_)
      refine WL_op rfl (OW_call rfl (hF := Fn.under3 (Pf := SO) (headS hS1)) (hk := ?_))
      rintro _ _ ⟨m, ⟨hm, hm1, hm8, rfl⟩, rfl⟩
      by_cases hz : s1.popped < s1.next
      · rw [decide_eq_true hz]
        have hx8 := hm8 hz
        have t3 : (((s1.popped : Nat) : Int) != ((s1.popped : Nat) : Int)) = false := by simp
        repeat (first | refine RQ ?_ | (refine RE ?_; try intro _) | refine RC ?_ | refine WG 68 ?_ | refine WG 69 ?_ | refine WG 70 ?_)
        refine WL_yes rfl rfl rfl t3 rfl (OW_call rfl (hF := Fn.under (Pf := _ :: SO) (popS hS1 hs1 hz)) (hk := ?_))
        rintro _ _ ⟨rfl, SI', rfl, hS', hs'⟩
        have wp : IntKind.i64.wrap (((s1.popped : Nat) : Int) + 1) = ((s1.less.popped : Nat) : Int) := by
          show _ = ((s1.popped + 1 : Nat) : Int)
          rw [wI64 (by omega) (by omega)]; omega
        have hml := mu_less e1 e2 e3 hgo
        repeat (first | refine RQ ?_ | refine RC ?_ | refine WG 70 ?_ | refine WG 72 ?_ | refine WG 58 ?_)
        rw [wp, w]
        exact ⟨_, _, hml, ⟨i + 1, s1.less, SO, SI', rfl, by omega, hs', hS', rfl⟩, ⟨rfl, rfl, rfl, rfl, rfl, trivial⟩, rfl, .cons _ (.refl _)⟩
      · rw [decide_eq_false hz]
        have hml := mu_same e1 e2 e3 (show s.base < s.next from Nat.lt_of_le_of_ne b2 (fun hc => hz (e4 hc)))
        repeat (first | refine RQ ?_ | (refine RE ?_; try intro _) | refine RC ?_ | refine WG 68 ?_ | refine WG 69 ?_ | refine WG 58 ?_)
        rw [w]
        exact ⟨_, _, hml, ⟨i + 1, s1, SO, SI, rfl, by omega, hs1, hS1, rfl⟩, ⟨rfl, rfl, rfl, rfl, rfl, trivial⟩, rfl, .cons _ (.refl _)⟩
    by_cases hz : s.base < s.pushed
    rotate_left
    · rw [decide_eq_false hz]
      repeat (first | refine RQ ?_ | refine RC ?_ | refine WG 60 ?_)
      exact ⟨_, ⟨s, SO, SI, hs, hS, rfl, rfl, by omega, (fun _ => by omega), rfl⟩, ⟨rfl, rfl, rfl, rfl, rfl, trivial⟩, rfl, .refl _⟩
    obtain rfl := hstr hz
    rw [decide_eq_true hz]
    repeat (first | refine RQ ?_ | refine RC ?_ | refine WG 60 ?_ | refine WG 61 ?_)
    refine WL_op rfl (OW_call rfl (hF := goes_fn (w := .dat s.base) hS hs hz hH) (hk := ?_))
    rintro _ _ ⟨vb, Tb, hbb, rfl, SO', SI', rfl, hS'⟩
    obtain ⟨hok, hbk⟩ := Pst.go_ok (w := .dat s.base) hs hz
    obtain ⟨g1', g2', g3'⟩ := Pst.go_pp cap s (.dat s.base)
    have hp0 := pos_of_refused hs
    have hack := hbk _ (List.mem_singleton.2 rfl)
    change BufW vb Tb [.ack (s.go cap (.dat s.base)).next (cap - ((s.go cap (.dat s.base)).next - s.popped))] at hbb
    clear hbk
    generalize s.go cap (.dat s.base) = s1 at *
    generalize cap - (s1.next - s.popped) = r at *
    obtain ⟨gb, o, cv, cur, ev, hcv, eT, hsz, hxt⟩ := hbb.at_ (k := 0) (w := .ack s1.next r) rfl
    have ev : vb = .slice (some ⟨gb, o, none⟩) 1 cv := ev
    subst ev
    subst eT
    repeat (first | refine RQ ?_ | refine RC ?_ | refine WG 61 ?_ | refine WG 62 ?_ | refine WG 64 ?_)
    rw [← g2', ← g1']
    refine WC_wk [(35, .int .i64 ((0 : Nat) : Int)), (33, .slice (some ⟨gb, o, none⟩) 1 cv), (30, .int .i64 i), (16, .int .i64 s1.popped), (15, .int .i64 s1.pushed), (9, .pointer (some ⟨ib, 0, none⟩)), (8, .pointer (some ⟨ob, 0, none⟩))] ⟨rfl, rfl, rfl, rfl, rfl, rfl, rfl, trivial⟩ ?_
    refine WC_permA (L' := SO' ++ (SI' ++ ([(gb, .cells cur 50 (0, 0))] ++ L))) (.trans (.append_left SO' (List.perm_append_comm_assoc SI' _ L)) (List.perm_append_comm_assoc SO' _ (SI' ++ L))) ?_
    refine WC_loop (fun m σ => ∃ (k : Nat) (s2 : Pst) (SO SI : List (Nat × Obj)), m = 1 - k ∧ (k = 0 ∧ s2 = s1 ∨ k = 1 ∧ s2 = s1.go cap (.ack s1.next r)) ∧ Sys ob ib SO SI cap s2 ∧ σ = ⟨[(35, .int .i64 k), (33, .slice (some ⟨gb, o, none⟩) 1 cv), (30, .int .i64 i), (16, .int .i64 s1.popped), (15, .int .i64 s1.pushed), (9, .pointer (some ⟨ib, 0, none⟩)), (8, .pointer (some ⟨ob, 0, none⟩))], [], SO ++ (SI ++ ([(gb, .cells cur 50 (0, 0))] ++ L))⟩) 1 ⟨0, s1, SO', SI', rfl, .inl ⟨rfl, rfl⟩, hS', rfl⟩ ?_
    clear hS hS' SO' SI' SO SI
    rintro m σ ⟨k, s2, SO, SI, rfl, ⟨rfl, rfl⟩ | ⟨rfl, rfl⟩, hS2, rfl⟩
    · have hmT : (SO ++ (SI ++ ([(gb, Obj.cells cur 50 (0, 0))] ++ L)))[SO.length + (SI.length + 0)]? = some (gb, .cells cur 50 (0, 0)) := by
        rw [List.getElem?_append_right (by omega), Nat.add_sub_cancel_left, List.getElem?_append_right (by omega), Nat.add_sub_cancel_left]; rfl
      have c0 : decide (((0 : Nat) : Int) < ((1 : Nat) : Int)) = true := rfl
      have r0 : (0 : Int) ≤ ((0 : Nat) : Int) := by omega
      have r1 : ((0 : Nat) : Int) < ((1 : Nat) : Int) := by omega
      have r2 : o + ((0 : Nat) : Int).toNat * 2 + 2 ≤ cur.size := hsz
      have r3 : cur.extract (o + ((0 : Nat) : Int).toNat * 2) (o + ((0 : Nat) : Int).toNat * 2 + 2) = (Way.ack s2.next r).c.toArray := hxt
      have hys : (Way.ack s2.next r).c.toArray.size = 2 := rfl
      have w0 : IntKind.i64.wrap (((0 : Nat) : Int) + 1) = ((1 : Nat) : Int) := by decide
      repeat (first | refine RQ ?_ | refine RC ?_ | refine WG 65 ?_ | refine WG 67 ?_)
      rw [r3]
      refine WL_op rfl (OW_call rfl (hF := goes_fn (w := .ack s2.next r) hS2 hok hack (hH.app _)) (hk := ?_))
      rintro _ _ ⟨vb, Tb, hbb, rfl, SO', SI', rfl, hS'⟩
      repeat (first | refine RQ ?_ | refine RC ?_ | refine WG 67 ?_ | refine WG 66 ?_)
      rw [w0]
      exact ⟨_, _, by decide, ⟨1, _, SO', SI', rfl, .inr ⟨rfl, rfl⟩, hS', rfl⟩, ⟨rfl, rfl, rfl, rfl, rfl, rfl, rfl, trivial⟩, rfl, List.sublist_append_right _ _⟩
    · have c0 : decide (((1 : Nat) : Int) < ((1 : Nat) : Int)) = false := rfl
      have q2 := hok.h2
      repeat (first | refine RQ ?_ | refine RC ?_ | refine WG 65 ?_)
      exact ⟨_, ⟨_, SO, SI, (Pst.go_ok hok hack).1, hS2, rfl, rfl, (show max s1.base s1.next = s1.next by omega), (fun he => by rw [← g2'] at hp0; exact hp0 he), rfl⟩, ⟨rfl, rfl, rfl, rfl, rfl, trivial⟩, rfl, .append (.refl _) (.append (.refl _) (List.sublist_append_right _ _))⟩
  refine WC_loop (fun m σ => ∃ (i : Nat) (s : Pst) (SO SI : List (Nat × Obj)) (ws : List Way) (v : Value) (T : List (Nat × Obj)), m = ln - i ∧ i ≤ ln ∧ i ≤ 300 ∧ s.pushed ≤ i ∧ s.Ok cap ∧ Sys ob ib SO SI cap s ∧ ws.length ≤ 10 + i ∧ WsOk cap s ws ∧ BufW v T ws ∧ σ = ⟨[(17, .int .i64 i), (16, .int .i64 s.popped), (15, .int .i64 s.pushed), (11, v), (9, .pointer (some ⟨ib, 0, none⟩)), (8, .pointer (some ⟨ob, 0, none⟩)), (7, .int .i64 (cap : Nat)), (2, .slice la ln lc)], [], SO ++ (SI ++ (T ++ L))⟩) ln ⟨0, s0 cap, SO, SI, ws, v, T, by omega, by omega, by omega, Nat.le_refl _, s0_ok c1 c2, hS, by omega, hws, hb, rfl⟩ ?_
  clear hS SO SI hwl hws hb ws v T
  rintro m σ ⟨i, s, SO, SI, ws, v, T, rfl, hi, hi3, hpi, hs, hS, hwl, hws, hb, rfl⟩
  by_cases hgo : i < ln ∧ i < 300
  rotate_left
  · have hq : List.Sublist (SO ++ (SI ++ L)) (SO ++ (SI ++ (T ++ L))) := .append (.refl _) (.append (.refl _) (List.sublist_append_right _ _))
    by_cases hlt : i < ln
    · have d2 : decide ((i : Int) < ((ln : Nat) : Int)) = true := decide_eq_true (by omega)
      have d3 : decide ((i : Int) < 300) = false := decide_eq_false (by omega)
      repeat (first | refine RQ ?_ | refine RC ?_ | refine WG 18 ?_)
      exact ⟨_, ⟨s, SO, SI, hs, hS, rfl⟩, ⟨rfl, rfl, rfl, rfl, trivial⟩, rfl, hq⟩
    · have d2 : decide ((i : Int) < ((ln : Nat) : Int)) = false := decide_eq_false (by omega)
      repeat (first | refine RQ ?_ | refine RC ?_ | refine WG 18 ?_)
      exact ⟨_, ⟨s, SO, SI, hs, hS, rfl⟩, ⟨rfl, rfl, rfl, rfl, trivial⟩, rfl, hq⟩
  obtain ⟨hlt, h300⟩ := hgo
  have d2 : decide ((i : Int) < ((ln : Nat) : Int)) = true := decide_eq_true (by omega)
  have d3 : decide ((i : Int) < 300) = true := decide_eq_true (by omega)
  obtain ⟨g1, o1, cu1, E1, fr1, i1, what, kk, rfl, hi1, w0, w1, x0, x1⟩ := hlch i hlt
  have p0 : (0 : Int) ≤ (i : Int) := by omega
  have p1 : ((i : Nat) : Int) < ((ln : Nat) : Int) := by omega
  have y0 : cu1[o1 + ((i : Nat) : Int).toNat * 2]? = some (.int .u8 (what : Nat)) := by rw [Int.toNat_natCast]; exact x0
  have y1 : cu1[o1 + ((i : Nat) : Int).toNat * 2 + 1]? = some (.int .u8 (kk : Nat)) := by rw [Int.toNat_natCast]; exact x1
  have w : IntKind.i64.wrap ((i : Int) + 1) = ((i + 1 : Nat) : Int) := by rw [wI64 (by omega) (by omega)]; omega
  have wk : IntKind.i64.wrap ((kk : Nat) : Int) = ((kk : Nat) : Int) := wI64 (by omega) (by omega)
  have hm1 : (SO ++ (SI ++ (T ++ L)))[SO.length + (SI.length + (T.length + i1))]? = some (g1, .cells cu1 E1 fr1) := by
    rw [List.getElem?_append_right (by omega), Nat.add_sub_cancel_left, List.getElem?_append_right (by omega), Nat.add_sub_cancel_left, List.getElem?_append_right (by omega), Nat.add_sub_cancel_left]; exact hi1
  repeat (first | refine RQ ?_ | refine RC0 ?_ | refine WC_block (id := 0) ?_ | refine WC_block (id := 1) ?_ | refine WC_block (id := 2) ?_ | refine WC_block (id := 3) ?_ | refine WC_block (id := 5) ?_ | refine WC_block (id := 6) ?_ | refine WC_block (id := 7) ?_ | refine WC_block (id := 8) ?_ | refine WG 18 ?_ | refine WG 20 ?_ | refine WG 21 ?_ | refine WG 22 ?_)
  rw [wk, show ((what : Nat) : Int).tmod 9 = ((what % 9 : Nat) : Int) from rfl]
  clear d2 d3 x0 x1 y0 y1 hm1 wk hi1
  have hq9 := Nat.mod_lt what (show 0 < 9 by decide)
  generalize what % 9 = q at hq9
  refine WC_wk [(114, .int .u8 (q : Nat)), (19, .int .u8 (q : Nat)), (18, .int .i64 (kk : Nat)), (17, .int .i64 i), (16, .int .i64 s.popped), (15, .int .i64 s.pushed), (11, v), (9, .pointer (some ⟨ib, 0, none⟩)), (8, .pointer (some ⟨ob, 0, none⟩)), (7, .int .i64 (cap : Nat)), (2, .slice (some ⟨g1, o1, none⟩) ln lc)] ⟨rfl, rfl, rfl, rfl, rfl, rfl, rfl, rfl, rfl, rfl, rfl, trivial⟩ ?_
  refine WC_meet (fun σ => ∃ (s' : Pst) (SO SI : List (Nat × Obj)) (ws : List Way) (v : Value) (T : List (Nat × Obj)), s'.pushed ≤ i + 1 ∧ s'.Ok cap ∧ Sys ob ib SO SI cap s' ∧ ws.length ≤ 10 + (i + 1) ∧ WsOk cap s' ws ∧ BufW v T ws ∧ σ = ⟨[(17, .int .i64 i), (16, .int .i64 s'.popped), (15, .int .i64 s'.pushed), (11, v), (9, .pointer (some ⟨ib, 0, none⟩)), (8, .pointer (some ⟨ob, 0, none⟩)), (7, .int .i64 (cap : Nat)), (2, .slice (some ⟨g1, o1, none⟩) ln lc)], [], SO ++ (SI ++ (T ++ L))⟩) ?_ ?_
  rotate_left
  · clear hs hS hws hb hpi hwl
    rintro _ ⟨s, SO, SI, ws, v, T, hpi, hs, hS, hwl, hws, hb, rfl⟩
    have b1 := hs.h1; have b2 := hs.h2; have b3 := hs.h3; have b4 := hs.h4; have b5 := hs.h5; have b6 := hs.h6
    have t1 : decide (((s.next - s.popped : Nat) : Int) > ((cap : Nat) : Int)) = false := decide_eq_false (by omega)
    have t2 : decide (((s.pushed - s.base : Nat) : Int) > ((cap : Nat) : Int)) = false := decide_eq_false (by omega)
    have w3 : IntKind.i64.wrap (((s.popped : Nat) : Int) + ((s.next - s.popped : Nat) : Int)) = ((s.next : Nat) : Int) := by rw [wI64 (by omega) (by omega)]; omega
    have t3 : decide (IntKind.i64.wrap (((s.popped : Nat) : Int) + ((s.next - s.popped : Nat) : Int)) > ((s.pushed : Nat) : Int)) = false := by rw [w3]; exact decide_eq_false (by omega)
    repeat (first | refine RQ ?_ | ((first | refine WL_op rfl ?_ | refine WL_yes (h := ?_)); (first | refine OW_callP rfl (hF := Fn.underP (Pf := SO) (ilenS hS)) (hk := ?_) | refine OW_callP rfl (hF := Fn.underP (Pf := SO) (ilenS hS)) (hk := ?_) | refine OW_callP rfl (hF := olenS hS) (hk := ?_))) | refine RC ?_ | refine WG 54 ?_ | refine WG 19 ?_)
    rw [w]
    exact ⟨_, _, by omega, ⟨i + 1, s, SO, SI, ws, v, T, rfl, by omega, by omega, hpi, hs, hS, hwl, hws, hb, rfl⟩, ⟨rfl, rfl, rfl, rfl, rfl, rfl, rfl, rfl, trivial⟩, rfl, .refl _⟩
  have b1 := hs.h1; have b2 := hs.h2; have b3 := hs.h3; have b4 := hs.h4; have b5 := hs.h5; have b6 := hs.h6; have b7 := hs.h7
  by_cases e0 : q = 0
  · subst e0
    have d0 : ((((0 : Nat)) : Int) == 0) = true := rfl
    repeat (first | refine RQ ?_ | (refine WL_op rfl ?_; (first | refine OW_callP rfl (hF := leftS hS) (hk := ?_) | refine OW_callP rfl (hF := msg22_fn (n := s.pushed)) (hk := ?_))) | refine RC ?_ | refine WG 34 ?_ | refine WG 35 ?_ | refine WG 36 ?_)
    refine WL_op rfl (OW_call rfl (hF := pushS hS hs (by omega)) (hk := ?_))
    rintro _ _ (⟨hf, rfl, SO', rfl, hS'⟩ | ⟨hf, rfl, SO', rfl, hS', hs'⟩)
    · have t1 : decide (((cap - (s.pushed - s.base) : Nat) : Int) > 0) = false := decide_eq_false (by omega)
      have t2 : ((((8 : Int) == 0)) != decide (((cap - (s.pushed - s.base) : Nat) : Int) > 0)) = false := by rw [t1]; rfl
      repeat (first | refine RQ ?_ | (refine WL_op rfl ?_; (first | refine OW_callP rfl (hF := msg22_fn (n := s.pushed)) (hk := ?_))) | refine RC ?_ | refine WG 36 ?_ | refine WG 37 ?_ | refine WG 39 ?_)
      exact ⟨_, ⟨s, SO', SI, ws, v, T, by omega, hs, hS', by omega, hws, hb, rfl⟩, ⟨rfl, rfl, rfl, rfl, rfl, rfl, rfl, rfl, trivial⟩, rfl, .refl _⟩
    · have t1 : decide (((cap - (s.pushed - s.base) : Nat) : Int) > 0) = true := decide_eq_true (by omega)
      have t2 : ((((0 : Int) == 0)) != decide (((cap - (s.pushed - s.base) : Nat) : Int) > 0)) = false := by rw [t1]; rfl
      have wp : IntKind.i64.wrap (((s.pushed : Nat) : Int) + 1) = ((s.more.pushed : Nat) : Int) := by
        show _ = ((s.pushed + 1 : Nat) : Int)
        rw [wI64 (by omega) (by omega)]; omega
      repeat (first | refine RQ ?_ | (refine WL_op rfl ?_; (first | refine OW_callP rfl (hF := msg22_fn (n := s.pushed)) (hk := ?_))) | refine RC ?_ | refine WG 36 ?_ | refine WG 37 ?_ | refine WG 39 ?_ | refine WG 40 ?_)
      rw [wp]
      exact ⟨_, ⟨s.more, SO', SI, ws, v, T, by show s.pushed + 1 ≤ i + 1; omega, hs', hS', by omega, (fun x hx => (hws x hx).mono (Nat.le_succ _) (Nat.le_refl _)), hb, rfl⟩, ⟨rfl, rfl, rfl, rfl, rfl, rfl, rfl, rfl, trivial⟩, rfl, .refl _⟩
  have d0 : (((q : Nat) : Int) == 0) = false := by simp; omega
  by_cases e1 : q = 1 ∨ q = 2
  · refine WC_block ?_
    repeat (first | refine RQ ?_ | refine RC ?_ | refine WG 34 ?_ | refine WG 41 ?_)
    refine WC_meet (fun σ => σ = ⟨[(172, .bool true), (18, .int .i64 (kk : Nat)), (17, .int .i64 i), (16, .int .i64 s.popped), (15, .int .i64 s.pushed), (11, v), (9, .pointer (some ⟨ib, 0, none⟩)), (8, .pointer (some ⟨ob, 0, none⟩)), (7, .int .i64 (cap : Nat)), (2, .slice (some ⟨g1, o1, none⟩) ln lc)], [], SO ++ (SI ++ (T ++ L))⟩) ?_ ?_
    · rcases e1 with rfl | rfl
      · have d1 : ((((1 : Nat)) : Int) == 1) = true := rfl
        repeat (first | refine RQ ?_ | refine RC ?_ | refine WG 42 ?_)
        exact ⟨_, rfl, ⟨rfl, rfl, rfl, rfl, rfl, rfl, rfl, rfl, rfl, rfl, trivial⟩, rfl, .refl _⟩
      · have d1 : ((((2 : Nat)) : Int) == 1) = false := rfl
        repeat (first | refine RQ ?_ | refine RC ?_ | refine WG 42 ?_)
        exact ⟨_, rfl, ⟨rfl, rfl, rfl, rfl, rfl, rfl, rfl, rfl, rfl, rfl, trivial⟩, rfl, .refl _⟩
    rintro _ rfl
    by_cases hz : s.base < s.pushed
    · 
      have t1 : decide (((s.pushed - s.base : Nat) : Int) > 0) = true := decide_eq_true (by omega)
      have t2 : (true != decide (((s.pushed - s.base : Nat) : Int) > 0)) = false := by rw [t1]; rfl
      obtain ⟨av, cv, rfl, _, _⟩ := id hb.val
      repeat (first | refine RQ ?_ | (refine WL_op rfl ?_; (first | refine OW_callP rfl (hF := olenS hS) (hk := ?_) | refine OW_callP rfl (hF := pumpS hS hs hz w1) (hk := ?_))) | refine RC ?_ | refine WG 43 ?_ | refine WG 44 ?_)
      by_cases h64 : ws.length < 64
      · have t3 : decide (((ws.length : Nat) : Int) < 64) = true := decide_eq_true (by omega)
        repeat (first | refine RQ ?_ | (refine RE ?_; try intro _) | refine RC ?_ | refine WG 46 ?_ | refine WG 47 ?_)
        rename_i wb
        refine WL_permA (L' := ((wb, .cells (Way.dat (s.at_ kk)).c.toArray 50 (0, 0)) :: (SO ++ SI)) ++ (T ++ L)) (.of_eq (by rw [List.cons_append, List.append_assoc]; rfl)) ?_
        refine WL_op rfl (OW_append_bufM (A := (wb, .cells (Way.dat (s.at_ kk)).c.toArray 50 (0, 0)) :: (SO ++ SI)) (T := T) (B := L) rfl rfl rfl rfl rfl hb src_way rfl (by simp only [maxLen]; omega) (by omega) ?_)
        intro v' T' hb'
        have hb' := BufW.app (w := .dat (s.at_ kk)) hb'
        repeat (first | refine RQ ?_ | (refine RE ?_; try intro _) | refine RC ?_ | refine WG 47 ?_)
        exact ⟨_, ⟨s, SO, SI, ws ++ [.dat (s.at_ kk)], v', T', by omega, hs, hS, by rw [List.length_append]; simp; omega, hws.snoc (w := .dat (s.at_ kk)) (Pst.at_lt hz kk).1, hb', rfl⟩, ⟨rfl, rfl, rfl, rfl, rfl, rfl, rfl, rfl, trivial⟩, rfl, by rw [List.cons_append, List.append_assoc]; exact .cons _ (.refl _)⟩
      · have t3 : decide (((ws.length : Nat) : Int) < 64) = false := decide_eq_false (by omega)
        repeat (first | refine RQ ?_ | refine RC ?_ | refine WG 46 ?_)
        exact ⟨_, ⟨s, SO, SI, ws, _, T, by omega, hs, hS, by omega, hws, hb, rfl⟩, ⟨rfl, rfl, rfl, rfl, rfl, rfl, rfl, rfl, trivial⟩, rfl, .refl _⟩
    · 
      have t1 : decide (((s.pushed - s.base : Nat) : Int) > 0) = false := decide_eq_false (by omega)
      have t2 : (false != decide (((s.pushed - s.base : Nat) : Int) > 0)) = false := by rw [t1]; rfl
      repeat (first | refine RQ ?_ | ((first | refine WL_op rfl ?_ | refine WL_yes (h := ?_)); (first | refine OW_callP rfl (hF := olenS hS) (hk := ?_) | refine OW_callP rfl (hF := pumpS0 hS (by omega)) (hk := ?_))) | refine RC ?_ | refine WG 43 ?_ | refine WG 44 ?_ | refine WG 46 ?_)
      exact ⟨_, ⟨s, SO, SI, ws, _, T, by omega, hs, hS, by omega, hws, hb, rfl⟩, ⟨rfl, rfl, rfl, rfl, rfl, rfl, rfl, rfl, trivial⟩, rfl, .refl _⟩
  have d1 : (((q : Nat) : Int) == 1) = false := by simp; omega
  have d2 : (((q : Nat) : Int) == 2) = false := by simp; omega
  repeat (first | refine RQ ?_ | refine RC ?_ | refine WG 34 ?_ | refine WG 41 ?_ | refine WG 42 ?_)
  by_cases e8 : q = 8
  · subst e8
    have d8 : ((((8 : Nat)) : Int) == 8) = true := rfl
    repeat (first | refine RQ ?_ | (refine RE ?_; try intro _) | refine RC ?_ | refine WG 48 ?_ | refine WG 49 ?_)
    refine WL_op rfl (OW_call rfl (hF := Fn.under3 (Pf := SO) (headS hS)) (hk := ?_))
    rintro _ _ ⟨m, ⟨hm, hm1, hm8, rfl⟩, rfl⟩
    by_cases hz : s.popped < s.next
    · rw [decide_eq_true hz]
      have hx8 := hm8 hz
      have t1 : decide (((s.next - s.popped : Nat) : Int) > 0) = true := decide_eq_true (by omega)
      have t2 : (true != decide (((s.next - s.popped : Nat) : Int) > 0)) = false := by rw [t1]; rfl
      have t3 : (((s.popped : Nat) : Int) != ((s.popped : Nat) : Int)) = false := by simp
      repeat (first | refine RQ ?_ | (refine RE ?_; try intro _) | ((first | refine WL_op rfl ?_ | refine WL_yes (h := ?_)); (first | refine OW_callP rfl (hF := Fn.underP (Pf := _ :: SO) (ilenS hS)) (hk := ?_))) | refine RC ?_ | refine WG 49 ?_ | refine WG 50 ?_)
      refine WL_yes rfl rfl rfl t3 rfl (OW_call rfl (hF := Fn.under (Pf := _ :: SO) (popS hS hs hz)) (hk := ?_))
      rintro _ _ ⟨rfl, SI', rfl, hS', hs'⟩
      have wp : IntKind.i64.wrap (((s.popped : Nat) : Int) + 1) = ((s.less.popped : Nat) : Int) := by
        show _ = ((s.popped + 1 : Nat) : Int)
        rw [wI64 (by omega) (by omega)]; omega
      repeat (first | refine RQ ?_ | ((first | refine WL_op rfl ?_ | refine WL_yes (h := ?_)); (first | refine OW_callP rfl (hF := Fn.underP (Pf := _ :: SO) (ilenS hS)) (hk := ?_))) | refine RC ?_ | refine WG 50 ?_ | refine WG 52 ?_ | refine WG 53 ?_)
      rw [wp]
      exact ⟨_, ⟨s.less, SO, SI', ws, v, T, by show s.pushed ≤ i + 1; omega, hs', hS', by omega, (fun x hx => (hws x hx).mono (Nat.le_refl _) (Nat.le_refl _)), hb, rfl⟩, ⟨rfl, rfl, rfl, rfl, rfl, rfl, rfl, rfl, trivial⟩, rfl, .cons _ (.refl _)⟩
    · rw [decide_eq_false hz]
      have t1 : decide (((s.next - s.popped : Nat) : Int) > 0) = false := decide_eq_false (by omega)
      have t2 : (false != decide (((s.next - s.popped : Nat) : Int) > 0)) = false := by rw [t1]; rfl
      repeat (first | refine RQ ?_ | (refine RE ?_; try intro _) | ((first | refine WL_op rfl ?_ | refine WL_yes (h := ?_)); (first | refine OW_callP rfl (hF := Fn.underP (Pf := _ :: SO) (ilenS hS)) (hk := ?_) | refine OW_callP rfl (hF := Fn.underP (Pf := _ :: SO) (popS0 hS (by omega))) (hk := ?_))) | refine RC ?_ | refine WG 49 ?_ | refine WG 50 ?_ | refine WG 52 ?_)
      exact ⟨_, ⟨s, SO, SI, ws, v, T, by omega, hs, hS, by omega, hws, hb, rfl⟩, ⟨rfl, rfl, rfl, rfl, rfl, rfl, rfl, rfl, trivial⟩, rfl, .cons _ (.refl _)⟩
  have d8 : (((q : Nat) : Int) == 8) = false := by simp; omega
  obtain ⟨av, cv, rfl, hcv, _⟩ := id hb.val
  by_cases hw0 : ws.length = 0
  · have t1 : (((ws.length : Nat) : Int) == 0) = true := by simpa using hw0
    repeat (first | refine RQ ?_ | refine RC ?_ | refine WG 48 ?_ | refine WG 23 ?_ | refine WG 19 ?_)
    rw [w]
    exact ⟨_, _, by omega, ⟨i + 1, s, SO, SI, ws, _, T, rfl, by omega, by omega, by omega, hs, hS, by omega, hws, hb, rfl⟩, ⟨rfl, rfl, rfl, rfl, rfl, rfl, rfl, rfl, trivial⟩, rfl, .refl _⟩
  have t1 : (((ws.length : Nat) : Int) == 0) = false := by simpa using hw0
  have hne : ((ws.length : Nat) : Int) ≠ 0 := by omega
  have hat : kk % ws.length < ws.length := Nat.mod_lt _ (by omega)
  repeat (first | refine RQ ?_ | refine RC ?_ | refine WG 48 ?_ | refine WG 23 ?_ | refine WG 24 ?_)
  rw [show ((kk : Nat) : Int).tmod ((ws.length : Nat) : Int) = ((kk % ws.length : Nat) : Int) from rfl]
  generalize kk % ws.length = j at hat
  obtain ⟨y, hy⟩ : ∃ y, ws[j]? = some y := ⟨_, List.getElem?_eq_getElem hat⟩
  obtain ⟨gT, oT, cT, cuT, ev, hcT, eT, hsz, hx⟩ := hb.at_ hy
  cases ev
  subst eT
  have hmT : (SO ++ (SI ++ ([(gT, Obj.cells cuT 50 (0, 0))] ++ L)))[SO.length + (SI.length + 0)]? = some (gT, .cells cuT 50 (0, 0)) := by
    rw [List.getElem?_append_right (by omega), Nat.add_sub_cancel_left, List.getElem?_append_right (by omega), Nat.add_sub_cancel_left]; rfl
  have r0 : (0 : Int) ≤ (j : Int) := by omega
  have r1 : ((j : Nat) : Int) < ((ws.length : Nat) : Int) := by omega
  have r2 : oT + ((j : Nat) : Int).toNat * 2 + 2 ≤ cuT.size := by rw [Int.toNat_natCast]; exact hsz
  have r3 : cuT.extract (oT + ((j : Nat) : Int).toNat * 2) (oT + ((j : Nat) : Int).toNat * 2 + 2) = y.c.toArray := by rw [Int.toNat_natCast]; exact hx
  have hys : y.c.toArray.size = 2 := rfl
  have hyo : (y.c.toArray.toList.all fun v => v.oneCell') = true := rfl
  repeat (first | refine RQ ?_ | (refine RE ?_; try intro _) | refine RC ?_ | refine WG 25 ?_)
  rw [r3]
  repeat (first | refine RQ ?_ | (refine RE ?_; try intro _) | refine RC ?_ | refine WG 25 ?_)
  have hsn : (SO ++ (SI ++ ([(gT, Obj.cells cuT 50 (0, 0))] ++ L))) = (SO ++ SI) ++ ([(gT, Obj.cells cuT 50 (0, 0))] ++ L) := by rw [List.append_assoc]
  by_cases e7 : q = 7
  · subst e7
    have d7 : ((((7 : Nat)) : Int) == 7) = true := rfl
    repeat (first | refine RQ ?_ | (refine RE ?_; try intro _) | refine RC ?_ | refine WG 26 ?_ | refine WG 27 ?_)
    rename_i yb wb
    refine WL_permA (L' := ((wb, .cells y.c.toArray 50 (0, 0)) :: (yb, .cells y.c.toArray 50 (0, 0)) :: (SO ++ SI)) ++ ([(gT, Obj.cells cuT 50 (0, 0))] ++ L)) (.of_eq (by rw [List.cons_append, List.cons_append, List.append_assoc])) ?_
    refine WL_op rfl (OW_append_bufM (A := (wb, .cells y.c.toArray 50 (0, 0)) :: (yb, .cells y.c.toArray 50 (0, 0)) :: (SO ++ SI)) (T := [(gT, Obj.cells cuT 50 (0, 0))]) (B := L) rfl rfl rfl rfl rfl hb src_way rfl (by simp only [maxLen]; omega) (by omega) ?_)
    intro v' T' hb'
    have hb' := BufW.app (w := y) hb'
    repeat (first | refine RQ ?_ | (refine RE ?_; try intro _) | refine RC ?_ | refine WG 27 ?_ | refine WG 19 ?_)
    rw [w]
    exact ⟨_, _, by omega, ⟨i + 1, s, SO, SI, ws ++ [y], v', T', rfl, by omega, by omega, by omega, hs, hS, by rw [List.length_append]; simp; omega, hws.snoc (hws y (List.mem_of_getElem? hy)), hb', rfl⟩, ⟨rfl, rfl, rfl, rfl, rfl, rfl, rfl, rfl, trivial⟩, rfl, by rw [List.cons_append, List.cons_append, List.append_assoc]; exact .cons _ (.cons _ (.refl _))⟩
  have d7 : (((q : Nat) : Int) == 7) = false := by simp; omega
  repeat (first | refine RQ ?_ | refine RC ?_ | refine WG 26 ?_)
  rename_i yb
  obtain ⟨cut1, cut2, cut3⟩ := hb.cut hat
  refine WC_meet (fun σ => ∃ (ws' : List Way) (v' : Value) (T' M : List (Nat × Obj)), ws'.length + 1 ≤ 10 + (i + 1) ∧ WsOk cap s ws' ∧ BufW v' T' ws' ∧ M.Perm ((yb, .cells y.c.toArray 50 (0, 0)) :: (SO ++ (SI ++ (T' ++ L)))) ∧ σ = ⟨[(27, .pointer (some ⟨yb, 0, none⟩)), (19, .int .u8 (q : Nat)), (17, .int .i64 i), (16, .int .i64 s.popped), (15, .int .i64 s.pushed), (11, v'), (9, .pointer (some ⟨ib, 0, none⟩)), (8, .pointer (some ⟨ob, 0, none⟩)), (7, .int .i64 (cap : Nat)), (2, .slice (some ⟨g1, o1, none⟩) ln lc)], [], M⟩) ?_ ?_
  · have w1' : IntKind.i64.wrap (((j : Nat) : Int) + 1) = ((j + 1 : Nat) : Int) := by rw [wI64 (by omega) (by omega)]; omega
    have r4 : ((j : Nat) : Int) ≤ ((cv : Nat) : Int) := by omega
    have r5 : (0 : Int) ≤ IntKind.i64.wrap (((j : Nat) : Int) + 1) := by rw [w1']; omega
    have r6 : IntKind.i64.wrap (((j : Nat) : Int) + 1) ≤ ((ws.length : Nat) : Int) := by rw [w1']; omega
    have hmY : ((yb, Obj.cells y.c.toArray 50 (0, 0)) :: (SO ++ (SI ++ ([(gT, Obj.cells cuT 50 (0, 0))] ++ L))))[SO.length + (SI.length + 0) + 1]? = some (gT, .cells cuT 50 (0, 0)) := hmT
    repeat (first | refine RQr ?_ | refine RC ?_ | refine RU ?_ | refine WC_draw_all (id := 28) 10 (.calm 0 <| .calm 1 <| .calm 2 <| .calm 3 <| .calm 4 <| .calm 5 <| .calm 6 <| .calm 7 <| .must 8 <| .calm 9 <| .done) mixed (by kernel_rfl) ?_)
    rw [w1', Int.toNat_natCast, Int.toNat_natCast]
    by_cases hlast : ws.length - (j + 1) = 0
    · have hv2 := cut3 _ _ hmY
      rw [hlast, List.drop_eq_nil_of_le (by omega)] at hv2
      rw [hlast]
      refine WR_op rfl rfl (OW_append_nothing rfl rfl rfl rfl rfl (Nat.le_refl _) (srcVec hv2 (fun u hu => by cases hu)) ?_)
      refine ⟨fun _ h => h, ?_⟩
      have el : (ws.take j).length = j := by rw [List.length_take]; omega
      repeat (first | refine RQr ?_ | refine RC ?_ | refine RU ?_ | refine WC_draw_all (id := 28) 10 (.calm 0 <| .calm 1 <| .calm 2 <| .calm 3 <| .calm 4 <| .calm 5 <| .calm 6 <| .calm 7 <| .must 8 <| .calm 9 <| .done) mixed (by kernel_rfl) ?_)
      refine ⟨_, ⟨ws.take j, _, _, _, by omega, fun x hx => hws x (List.mem_of_mem_take hx), ?_, .refl _, rfl⟩, ⟨rfl, rfl, rfl, rfl, rfl, rfl, rfl, rfl, rfl, rfl, trivial⟩, rfl, .refl _⟩
      unfold BufW
      rw [el]
      exact .inr ⟨_, _, _, _, rfl, rfl, cut1⟩
    · refine WR_op rfl rfl (OW_append_new rfl rfl rfl rfl rfl (cut2 _ _ hmY) (srcVec (cut3 _ _ hmY) (way_one _)) (by omega) (by simp only [maxLen]; omega) (by omega) ?_)
      intro b cap' cur' ho
      refine ⟨sub_mem (.cons _ (.refl _)), ?_⟩
      have el : (ws.take j).length = j := by rw [List.length_take]; omega
      have eu : (ws.drop (j + 1)).length = ws.length - (j + 1) := by rw [List.length_drop]
      repeat (first | refine RQr ?_ | refine RC ?_ | refine RU ?_ | refine WC_draw_all (id := 28) 10 (.calm 0 <| .calm 1 <| .calm 2 <| .calm 3 <| .calm 4 <| .calm 5 <| .calm 6 <| .calm 7 <| .must 8 <| .calm 9 <| .done) mixed (by kernel_rfl) ?_)
      refine ⟨_, ⟨ws.take j ++ ws.drop (j + 1), _, [(b, .cells cur' 50 (0, 0))], (b, .cells cur' 50 (0, 0)) :: (yb, .cells y.c.toArray 50 (0, 0)) :: (SO ++ (SI ++ L)), by rw [List.length_append]; omega, hws.cut j, BufW.app2 ?_, ?_, rfl⟩, ⟨rfl, rfl, rfl, rfl, rfl, rfl, rfl, rfl, rfl, rfl, trivial⟩, rfl, .cons_cons _ (.cons_cons _ (.append (.refl _) (.append (.refl _) (List.sublist_append_right _ _))))⟩
      · rw [el, eu]
        exact .inr ⟨_, _, _, _, rfl, rfl, ho⟩
      · exact (List.Perm.swap _ _ _).trans (.cons _ (List.perm_middle.symm.trans (.append_left SO List.perm_middle.symm)))
  have hyk := hws y (List.mem_of_getElem? hy)
  clear hmT r3 r2 hx hsz hb cut1 cut2 cut3 hcv hws t1 hne
  rintro _ ⟨ws', v', T', M, hwl', hws', hb', hp, rfl⟩
  refine WC_permA hp.symm ?_
  by_cases e6 : q < 6
  · have d6 : decide (((q : Nat) : Int) < 6) = true := decide_eq_true (by omega)
    repeat (first | refine RQ ?_ | refine RC ?_ | refine WG 29 ?_ | refine WG 30 ?_)
    refine WL_dropL (L' := SO ++ (SI ++ (T' ++ L))) (.cons _ (.refl _)) ?_
    refine WL_op rfl (OW_call rfl (hF := goes_fn (w := y) hS hs hyk (hH.app T')) (hk := ?_))
    rintro _ _ ⟨vb, Tb, hbb, rfl, SO', SI', rfl, hS'⟩
    obtain ⟨ab, cb, rfl, _, _⟩ := id hbb.val
    obtain ⟨hok, hbk⟩ := Pst.go_ok hs hyk
    obtain ⟨g1', g2', g3'⟩ := Pst.go_pp cap s y
    have hbl : (s.backs cap y).length ≤ 1 := by cases y <;> simp [Pst.backs]
    repeat (first | refine RQ ?_ | refine RC ?_ | refine WG 30 ?_ | refine WG 31 ?_ | refine WG 33 ?_)
    refine WL_permA (L' := (Tb ++ (SO' ++ SI')) ++ (T' ++ L)) (.of_eq (by simp only [List.append_assoc])) ?_
    refine WL_op rfl (OW_append_bufM (A := Tb ++ (SO' ++ SI')) (T := T') (B := L) rfl rfl rfl rfl rfl hb' (srcVec (by rw [List.append_assoc]; exact hbb.vec0 _) (way_one _)) (ways_len _) (by simp only [maxLen]; omega) (by omega) ?_)
    intro v'' T'' hb''
    have hb'' := BufW.app2 hb''
    repeat (first | refine RQ ?_ | refine RC ?_ | refine WG 33 ?_)
    rw [← g2', ← g1']
    exact ⟨_, ⟨s.go cap y, SO', SI', ws' ++ s.backs cap y, v'', T'', by omega, hok, hS', by rw [List.length_append]; omega, (fun x hx => by
      rcases List.mem_append.1 hx with hx | hx
      · exact (hws' x hx).mono (Nat.le_of_eq g1'.symm) g3'
      · exact hbk x hx), hb'', rfl⟩, ⟨rfl, rfl, rfl, rfl, rfl, rfl, rfl, rfl, trivial⟩, rfl, by rw [List.append_assoc, List.append_assoc]; exact List.sublist_append_right _ _⟩
  · have d6 : decide (((q : Nat) : Int) < 6) = false := decide_eq_false (by omega)
    repeat (first | refine RQ ?_ | refine RC ?_ | refine WG 29 ?_)
    exact ⟨_, ⟨s, SO, SI, ws', v', T', by omega, hs, hS, by omega, hws', hb', rfl⟩, ⟨rfl, rfl, rfl, rfl, rfl, rfl, rfl, rfl, trivial⟩, rfl, .cons _ (.refl _)⟩
end Go.Proofs.YtdiaogcogkapgaaGreatDoor
namespace Go.Proofs.YtdiaogcogkapgaaGreatDoor
open Go.ChangeShapes Go.WideShapes Go.ChangeAt Go.RowKit
theorem h_et : Tryz.prog.globalNamed "errors.errorType" = some 0 := by kernel_rfl
theorem h_rt : (Tryz.prog.cutTypes.find? (·.1 == "internal/reflectlite.rtype")).map (·.2) = some 257 := by kernel_rfl
theorem h_oneRow : ((List.range 321).filter fun t => Tryz.prog.rowNamed t [101, 114, 114, 111, 114]) = [144] := by kernel_rfl
theorem h_size : Tryz.prog.types.size = 321 := by kernel_rfl
def laidL : List (String × DataW Unit) := [("errors.errorType", Rows.laid_errors_errorType)]
theorem handle_of_laid {W : World} (h : laidMetH Tryz.prog laidL W) : W.cell? ⟨0, 0, none⟩ = some handle := by
  have h' : laidMet Tryz.prog [] W ∧ handlesMet Tryz.prog laidL W := h
  obtain ⟨name, u, ty, e1, e2, e3, e4, e5⟩ := h'.2 _ (List.mem_singleton.2 rfl)
  have en : name = [101, 114, 114, 111, 114] := (Option.some.inj e1).symm
  subst en
  obtain rfl := Option.some.inj (h_rt.symm.trans e2)
  have hm : ty ∈ (List.range 321).filter fun t => Tryz.prog.rowNamed t [101, 114, 114, 111, 114] := List.mem_filter.2 ⟨List.mem_range.2 (by rw [← h_size]; exact e3), e4⟩
  rw [h_oneRow] at hm
  obtain rfl := List.mem_singleton.1 hm
  have hh : typeHandle Tryz.prog 144 = .pointer (some ⟨1, 144, none⟩) := by kernel_rfl
  rw [hh] at e5
  unfold handle
  simpa using World.var?_cell h_et e5 0
noncomputable def laidWorld (os : Os) : World :=
  let w0 := World.holding Tryz.prog os ⟨#[], #[], []⟩
  { w0 with heap := w0.heap.modify 0 fun
      | .cells _ t frozen => .cells #[handle] t frozen
      | o => o }
theorem laidWorld_met (os : Os) (args : Array Value) : laidMetH Tryz.prog laidL ((laidWorld os).forCall (fun _ _ => 0) ⟨#[], args, []⟩).memory :=
  laidMetH_of_parts (laidMet_nil _ _) (by kernel_rfl)
set_option maxRecDepth 100000 in
theorem liftedH {os : Os} {H : Type} {enc : TypeId × Value → H} {f : FuncId} {fn : Func} {s : ChangeSpec} {tb : TypeId} (started : os.Started) (noInit : Tryz.prog.inits.idxOf? f = none) (hfn : Tryz.prog.funcs[f]? = some fn)
    (witness : ∃ (w : World) (tape : Tape) (i : Input), w.os = os ∧ (w.forCall tape i).Shaped Tryz.prog ∧ i.vars = [] ∧ Input.okWide Tryz.prog (w.forCall tape i) .any w.heap.size f i ∧
      ((s.pre enc Tryz.prog fn [] false (w.forCall tape i).memory i.args ∧ laidMetH Tryz.prog laidL (w.forCall tape i).memory) ∧ sizedMet enc Tryz.prog fn (OpenSpec.ofChange s) false (w.forCall tape i).memory i.args) ∧ ({} : Assume).holds Tryz.prog (lone (Frame.enter Tryz.prog f i.args .normal) [] (w.forCall tape i)))
    (hts : (fn.params.toList.all fun t => Tryz.prog.readableRec t && decide (t < Tryz.prog.types.size)) = true) (hv : s.vars = []) (hr : fn.resultTypes = #[tb]) (hb : Tryz.prog.underlying tb = some .bool)
    (hspec : ∀ ds : List (DataW H), ds.length = fn.params.size → s.fn H ds = { results := [.lit (.bool true)], args := ds })
    (h : ∀ (W : World) (base : Nat) (args : Array Value) (ds : List (DataW H)) (ps : List MemPlace), (∀ (j : Nat) t v, fn.params[j]? = some t → args[j]? = some v → Value.okWide Tryz.prog W .any base t v) →
      DataW.TrodAll enc Tryz.prog W 0 (fun _ => true) true fn.params.toList args.toList ds ps → W.noneFrozen ps → (∃ cs E fr, (0, Obj.cells cs E fr) ∈ allL W ∧ cs[0]? = some handle) → Fn Tryz.prog f args.toList (allL W) fun v L' => v = .bool true ∧ L' = allL W) :
    ReturnsInHanded {} Tryz.checked os f .any (fun w args => (s.pre enc Tryz.prog fn [] false w args ∧ laidMetH Tryz.prog laidL w) ∧ sizedMet enc Tryz.prog fn (OpenSpec.ofChange s) false w args) (s.post enc Tryz.prog fn false true false false) := by
  refine returnsInHanded_of_change_and (C := Tryz.checked) (X := fun w _ => laidMetH Tryz.prog laidL w) (fun _ _ _ hh h => h.of_heap hh) ownOf started noInit hfn witness ?_
  intro W base args ds gs before hval hW _ _ hL _
  have hW' := hW
  obtain ⟨p, q, hA, hV, rfl, hfz, _⟩ := hW
  rw [hv] at hV
  obtain ⟨rfl, rfl⟩ := trodVars_none hV
  have hlen : ∀ {ts : List TypeId} {vs : List Value} {ds : List (DataW H)} {ps : List MemPlace}, DataW.TrodAll enc Tryz.prog W 0 (fun _ => true) true ts vs ds ps → ds.length = ts.length := by
    intro ts
    induction ts with
    | nil => intro vs ds ps h; obtain ⟨_, rfl, _⟩ := trodAll_nil h; rfl
    | cons t ts ih => intro vs ds ps h; obtain ⟨v, vs', d, ds', a, b, rfl, rfl, rfl, _, h2⟩ := trodAll_cons h; simp [ih h2]
  have hds := hspec ds (by rw [hlen hA]; simp)
  have hg := handle_of_laid hL
  have hblk : ∃ cs E fr, (0, Obj.cells cs E fr) ∈ allL W ∧ cs[0]? = some handle := by
    unfold World.cell? at hg
    cases hb : W.heap[0]? with
    | none => simp [hb] at hg
    | some o =>
      cases o with
      | cells cs E fr => exact ⟨cs, E, fr, allL_mem_of hb, by simpa [hb] using hg⟩
      | _ => simp [hb] at hg
  refine ((h W base args ds p hval hA (by simpa using hfz) hblk) W W (mem_allL W)).mono fun e W' ⟨v, L', h1, h2, h3, h4⟩ => ?_
  subst h3; subst h4
  exact ⟨_, h1, post_law laidOf hts hv hr hb (by simpa using hds) hW' (below_of_mem h2)⟩
end Go.Proofs.YtdiaogcogkapgaaGreatDoor
