/-
  A part of what the last of these texts needs; by itself it proves no statement.
-/
import Derived.Test.YtncgndcepoicbaaGreatKH29
namespace Go.Proofs.YtncgndcepoicbaaGreat
open Go.RowKit
theorem Own.tailH {sz : Nat} {cur : Array Value} {off cap n : Nat} {xs : List Value} (h : Own sz cur off cap (n + 1) xs) : Own sz cur (slOff cap 1 off sz) (cap - 1) n (xs.drop sz) := by
  have h1 := h.len; have h2 := h.le; have h3 := h.max; have h4 := h.fit
  have e1 : (n + 1) * sz = n * sz + sz := Nat.succ_mul n sz
  by_cases hc : cap = 1
  · have hn : n = 0 := by omega
    subst hn
    refine ⟨by simp; omega, by omega, by omega, by subst hc; simp only [slOff, Nat.sub_self, Nat.zero_mul, Nat.add_zero, if_true]; omega, fun j x hx => ?_⟩
    have : xs.drop sz = [] := List.drop_eq_nil_of_le (by omega)
    rw [this] at hx; simp at hx
  · have e : slOff cap 1 off sz = off + sz := by simp [slOff, hc]
    obtain ⟨q, rfl⟩ : ∃ q, cap = q + 1 := ⟨cap - 1, by omega⟩
    have e2 : (q + 1) * sz = q * sz + sz := Nat.succ_mul q sz
    refine ⟨by simp; omega, by omega, by omega, by rw [e, Nat.add_sub_cancel]; omega, fun j x hx => ?_⟩
    rw [List.getElem?_drop] at hx
    rw [e, Nat.add_assoc]
    exact h.at_ _ _ hx
theorem blockK_monoH {id : Nat} {K1 K2 : Exit → St → Prop} (h : ∀ e σ, K1 e σ → K2 e σ) (e : Exit) (σ : St) (hk : blockK id K1 e σ) : blockK id K2 e σ := by
  cases e with
  | exit id' =>
    simp only [blockK] at hk ⊢
    split at hk
    · exact h _ _ hk
    · exact h _ _ hk
  | normal => exact h _ _ hk
  | ret => exact h _ _ hk
  | panic ch => exact h _ _ hk
  | goto l => exact h _ _ hk
  | outgrown => exact h _ _ hk
theorem WC_meetX {c : Cx} {x z : Code} {id : Nat} {K : Exit → St → Prop} {σ : St} (Q : St → Prop) (hA : WC c x (blockK id (thenK (meetQ Q) K)) σ) (hB : ∀ σ, Q σ → WC c z K σ) : WC c x (blockK id (thenK (WC c z K) K)) σ :=
  WC_mono hA (blockK_monoH (meet_next hB))
theorem Buf.behind {E sz : Nat} {v : Value} {T : List (Nat × Obj)} {n : Nat} {xs : List Value} (h : Buf E sz v T (n + 1) xs) : ∃ (g off cap : Nat) (cur : Array Value), v = .slice (some ⟨g, off, none⟩) (n + 1) cap ∧ T = [(g, .cells cur E (0, 0))] ∧ Own sz cur off cap (n + 1) xs ∧ Buf E sz (.slice (some ⟨g, slOff cap 1 off sz, none⟩) n (cap - 1)) T n (xs.drop sz) := by
  rcases h with ⟨_, h, _, _⟩ | ⟨g, off, cap, cur, rfl, rfl, ho⟩
  · cases h
  · exact ⟨g, off, cap, cur, rfl, rfl, ho, .inr ⟨g, _, _, cur, rfl, rfl, ho.tailH⟩⟩
theorem perm_se1 {α : Type} (a b c : α) (S F : List α) : (S ++ ([a, b, c] ++ F)).Perm (a :: b :: c :: (S ++ F)) := by
  classical
  rw [List.perm_iff_count]
  intro z
  simp only [List.count_append, List.count_cons, List.count_nil]
  omega
theorem perm_se2 {α : Type} (a b c : α) (S Y X F : List α) : (a :: b :: ([c] ++ (S ++ ((Y ++ X) ++ F)))).Perm (S ++ (Y ++ ([a, b, c] ++ (X ++ F)))) := by
  classical
  rw [List.perm_iff_count]
  intro z
  simp only [List.count_append, List.count_cons, List.count_nil]
  omega
theorem perm_se3 {α : Type} (a b : α) (T S F : List α) : (S ++ ((a :: b :: T) ++ F)).Perm (a :: b :: (T ++ (S ++ F))) := by
  classical
  rw [List.perm_iff_count]
  intro z
  simp only [List.count_append, List.count_cons]
  omega
theorem perm_se4 {α : Type} (a b : α) (T S Y X F : List α) : (a :: b :: (T ++ (S ++ ((Y ++ X) ++ F)))).Perm (S ++ (Y ++ ((a :: b :: T) ++ (X ++ F)))) := by
  classical
  rw [List.perm_iff_count]
  intro z
  simp only [List.count_append, List.count_cons]
  omega
theorem perm_se5 {α : Type} (a b c : α) (T S F : List α) : (S ++ ((a :: b :: c :: T) ++ F)).Perm (a :: b :: c :: (T ++ (S ++ F))) := by
  classical
  rw [List.perm_iff_count]
  intro z
  simp only [List.count_append, List.count_cons]
  omega
theorem perm_se6 {α : Type} (a b c : α) (T S Z Y X F : List α) : (a :: b :: c :: (T ++ (S ++ ((Z ++ (Y ++ X)) ++ F)))).Perm (S ++ (Z ++ ((a :: b :: c :: T) ++ ((Y ++ X) ++ F)))) := by
  classical
  rw [List.perm_iff_count]
  intro z
  simp only [List.count_append, List.count_cons]
  omega
theorem perm_se7 {α : Type} (a b : α) (T S X F : List α) : (a :: b :: (S ++ ((X ++ T) ++ F))).Perm (a :: b :: (T ++ (S ++ (X ++ F)))) := by
  classical
  rw [List.perm_iff_count]
  intro z
  simp only [List.count_append, List.count_cons]
  omega
theorem perm_se8 {α : Type} (a b : α) (T S X F : List α) : (a :: b :: (S ++ ((T ++ X) ++ F))).Perm (T ++ (a :: b :: (S ++ (X ++ F)))) := by
  classical
  rw [List.perm_iff_count]
  intro z
  simp only [List.count_append, List.count_cons]
  omega
attribute [local irreducible] Fn WC WL WR OW Qt YieldFn QW FnP FnD FnE wnC
set_option maxHeartbeats 16000000 in
theorem settles_fn {hb : Int → Nat} {tb : Nat} {Ss : Int → List (Nat × Obj)} {G F T : List (Nat × Obj)} {t : TbV} {g : Nat → Nat} {fl : List (PlK × Int)} {wv : Value} (hT : TbOk t) (hIn : TabIn tb F t) (hG : ∀ q ∈ G, q ∈ F) (hH : Hands hb tb Ss G t (chS t g fl)) (hC : Chain t g fl) (h3 : One3 t) (hfl : BufY wv T fl) : Fn Tryz.prog 29 [.pointer (some ⟨tb, 0, none⟩), .agg (hbC hb), wv, .agg (gvC g), iV (lastF t)] (T ++ (hmS Ss ++ F)) (fun v L' => v = .bool true ∧ ∃ Z, L' = Z ++ F) := by
  refine Fn_enter Tryz.func29 rfl Tryz.ntmps29 rfl fun gw => ?_
  have hbz : (hbC hb).size = 4 := rfl
  have hgz : ∀ g : Nat → Nat, (gvC g).size = 8 := fun g => wnC_size rfl
  have hgz0 := hgz g
  have hga : ((gvC g).toList.all fun v => v.oneCell') = true := wnC_all
  repeat (first | refine RQ ?_ | (refine WL_Q ?_; (first | refine QW_of (Qt_fieldV rfl) ?_ | refine QW_of (Qt_ldX rfl (hn := by with_reducible assumption)) ?_)) | (refine RE ?_; try intro _) | refine RC ?_ | refine WG 0 ?_ | refine WG 1 ?_)
  rename_i x6 x8
  have hl0 := left_le hC hT
  refine WC_wk [(11, iV ((0 : Nat) : Int)), (8, .pointer (some ⟨x8, 0, none⟩)), (6, .pointer (some ⟨x6, 0, none⟩)), (0, .pointer (some ⟨tb, 0, none⟩)), (4, iV (lastF t)), (2, wv)] ⟨rfl, rfl, rfl, rfl, rfl, rfl, trivial⟩ ?_
  refine WC_permT (L' := (x8, Obj.cells (gvC g) 61 (0, 0)) :: (x6, Obj.cells (hbC hb) 58 (0, 0)) :: (T ++ (hmS Ss ++ ([] ++ F)))) (.refl _) ?_
  refine WC_meetX (fun σ => ∃ (g : Nat → Nat) (Ss : Int → List (Nat × Obj)) (X T : List (Nat × Obj)), Chain t g [] ∧ Hands hb tb Ss (X ++ G) t (chS t g []) ∧ (∀ w, 1 ≤ w → w ≤ 3 → rdyL t (chS t g [] w) w (lastF t) = []) ∧ σ = ⟨[(8, .pointer (some ⟨x8, 0, none⟩)), (6, .pointer (some ⟨x6, 0, none⟩)), (0, .pointer (some ⟨tb, 0, none⟩))], [], (x8, Obj.cells (gvC g) 61 (0, 0)) :: (x6, Obj.cells (hbC hb) 58 (0, 0)) :: (T ++ (hmS Ss ++ (X ++ F)))⟩) ?_ ?_
  · refine WC_loop (fun q σ => ∃ (i : Nat) (g : Nat → Nat) (fl : List (PlK × Int)) (Ss : Int → List (Nat × Obj)) (X T : List (Nat × Obj)) (wv : Value), q = 2000 - i ∧ i + leftN t g fl ≤ 1100 ∧ Chain t g fl ∧ Hands hb tb Ss (X ++ G) t (chS t g fl) ∧ BufY wv T fl ∧ σ = ⟨[(11, iV (i : Int)), (8, .pointer (some ⟨x8, 0, none⟩)), (6, .pointer (some ⟨x6, 0, none⟩)), (0, .pointer (some ⟨tb, 0, none⟩)), (4, iV (lastF t)), (2, wv)], [], (x8, Obj.cells (gvC g) 61 (0, 0)) :: (x6, Obj.cells (hbC hb) 58 (0, 0)) :: (T ++ (hmS Ss ++ (X ++ F)))⟩) 2000 ⟨0, g, fl, Ss, [], T, wv, rfl, by omega, hC, hH, hfl, rfl⟩ ?_
    clear hC hH hfl hl0 hga hgz0
    rintro _ σ ⟨i, g, fl, Ss, X, T, wv, rfl, hi, hC, hH, hfl, rfl⟩
    have d1 : decide ((i : Int) < 2000) = true := decide_eq_true (by omega)
    have wi : IntKind.i64.wrap ((i : Int) + 1) = ((i + 1 : Nat) : Int) := by rw [wI64 (by omega) (by omega)]; omega
    have hXF : ∀ q ∈ X ++ G, q ∈ X ++ F := fun q hq => by
      rcases List.mem_append.1 hq with h | h
      · exact List.mem_append_left _ h
      · exact List.mem_append_right _ (hG _ h)
    cases fl with
    | cons f r =>
      obtain ⟨gT, off, cap, cur, rfl, rfl, ho, hbt⟩ := Buf.behind (n := r.length) hfl
      have d2 : decide (((r.length + 1 : Nat) : Int) > 0) = true := decide_eq_true (by omega)
      have hcx := fun j x hx => ho.at_ j x hx
      obtain ⟨a1, a2, a3⟩ := wyL_at (fl := f :: r) (k := 0) rfl
      obtain ⟨hw, x, hx, hxk, hx0, hxm⟩ := hC.fly_own h3 (.head r)
      have p0 : (0 : Int) ≤ f.2 := by omega
      have p1 : f.2 < ((4 : Nat) : Int) := by omega
      have ghb := hbC_at (hb := hb) hw
      have c2 : cur[off + 2]? = some (iV f.2) := hcx 2 _ a3
      have y1 : off + 2 ≤ cur.size := by have := (Array.getElem?_eq_some_iff.1 c2).1; omega
      have v1 : cur.extract off (off + 2) = #[.int .i64 f.1.1, .int .i64 f.1.2] := by
        apply Array.ext_getElem?
        intro k
        rw [Array.getElem?_extract]
        match k with
        | 0 => rw [if_pos (by omega)]; exact hcx 0 _ a1
        | 1 => rw [if_pos (by omega)]; exact hcx 1 _ a2
        | k + 2 => rw [if_neg (by omega)]; simp
      have z0 : (0 : Int) ≤ 0 := by decide
      have z1 : (0 : Int) < ((r.length + 1 : Nat) : Int) := by omega
      simp only [List.cons_append, List.nil_append]
      repeat (first | refine RQ ?_ | (refine WL_Q ?_; (first | refine QW_of (Qt_fieldV rfl) ?_ | refine QW_of (Qt_ldX rfl (hn := by with_reducible assumption)) ?_)) | refine RC ?_ | refine WG 2 ?_ | refine WG 4 ?_)
      refine WC_draw_sub (id := 5) 12 (Cs [0,1,2,3,4,5,6,7,8,9] <| .must 10 <| .calm 11 <| .done) mixed (by kernel_rfl) (.cons_cons _ (.cons_cons _ (.cons_cons _ (List.nil_sublist _)))) ?_
      repeat (first | refine RQr ?_ | (refine RX ?_; (first | refine QW_of (Qt_fieldV rfl) ?_ | refine QW_of (Qt_ldX rfl (hn := by with_reducible assumption)) ?_)) | refine RC ?_ | refine RU ?_ | refine WC_draw_all (id := 5) 12 (Cs [0,1,2,3,4,5,6,7,8,9] <| .must 10 <| .calm 11 <| .done) mixed (by kernel_rfl) ?_)
      have v2 : cur.extract (off + Int.toNat 0 * 3 + 0) (off + Int.toNat 0 * 3 + 0 + 2) = #[.int .i64 f.1.1, .int .i64 f.1.2] := v1
      rw [v2]
      obtain ⟨R, hR⟩ : ∃ R, R = (x8, Obj.cells (gvC g) 61 (0, 0)) :: (x6, Obj.cells (hbC hb) 58 (0, 0)) :: [(gT, Obj.cells cur 78 (0, 0))] := ⟨_, rfl⟩
      have hgot := gGot_fn (F := R ++ (X ++ F)) hT (hIn.mem fun q hq => List.mem_append_right _ (List.mem_append_right _ hq)) (fun q hq => List.mem_append_right _ (hXF q hq)) hH hw hx hx0 hxm
      rw [hxk] at hgot
      refine WR_op rfl rfl (OW_permT2 (L' := hmS Ss ++ (R ++ (X ++ F))) (by rw [hR]; exact perm_se1 ..) (OW_call rfl (hF := hgot) (hk := ?_)))
      rintro _ _ ⟨Ss1, X1, rfl, hH1, rfl⟩
      refine ⟨fun q hq => List.mem_append_right _ (List.mem_append_right _ (List.mem_append_left _ (by rw [hR]; exact hq))), ?_⟩
      obtain ⟨hC1, he1⟩ := hC.got_eq (k := 0) rfl
      rw [he1] at hH1
      have hle := left_got (t := t) (g := g) (fl := f :: r) (k := 0) (by simp)
      repeat (first | refine RQr ?_ | (refine RX ?_; (first | refine QW_of (Qt_fieldV rfl) ?_ | refine QW_of (Qt_ldX rfl (hn := by with_reducible assumption)) ?_)) | refine RC ?_ | refine RU ?_ | refine WC_draw_all (id := 5) 12 (Cs [0,1,2,3,4,5,6,7,8,9] <| .must 10 <| .calm 11 <| .done) mixed (by kernel_rfl) ?_)
      refine WC_permT (L' := (x8, Obj.cells (gvC g) 61 (0, 0)) :: (x6, Obj.cells (hbC hb) 58 (0, 0)) :: ([(gT, Obj.cells cur 78 (0, 0))] ++ (hmS Ss1 ++ ((X1 ++ X) ++ F)))) (by rw [hR]; exact perm_se2 ..) ?_
      have u0 : (0 : Int) ≤ 1 := by decide
      have u1 : (1 : Int) ≤ ((r.length + 1 : Nat) : Int) := by omega
      repeat (first | refine RQ ?_ | (refine WL_Q ?_; (first | refine QW_of (Qt_fieldV rfl) ?_ | refine QW_of (Qt_ldX rfl (hn := by with_reducible assumption)) ?_)) | refine RC ?_ | refine WG 7 ?_ | refine WG 3 ?_)
      rw [wi]
      have e0 : (f :: r).eraseIdx 0 = r := rfl
      rw [e0] at hC1 hH1 hle
      exact ⟨_, _, by omega, ⟨i + 1, g, r, Ss1, X1 ++ X, [(gT, Obj.cells cur 78 (0, 0))], _, rfl, by omega, hC1, by rw [List.append_assoc]; exact hH1, hbt, rfl⟩, ⟨rfl, rfl, rfl, rfl, rfl, rfl, trivial⟩, rfl, .refl _⟩
    | nil =>
      obtain ⟨aw, cw, rfl, _, _⟩ := id hfl.val
      have d2 : decide (((0 : Nat) : Int) > 0) = false := by decide
      have hlast := hT.last
      repeat (first | refine RQ ?_ | (refine WL_Q ?_; (first | refine QW_of (Qt_fieldV rfl) ?_ | refine QW_of (Qt_ldX rfl (hn := by with_reducible assumption)) ?_)) | refine RC ?_ | refine WG 2 ?_ | refine WG 4 ?_ | refine WG 8 ?_ | refine WG 9 ?_)
      refine WC_wk [(13, iV (((0 : Nat) : Int) + 1)), (12, .bool false), (11, iV (i : Int)), (8, .pointer (some ⟨x8, 0, none⟩)), (6, .pointer (some ⟨x6, 0, none⟩)), (0, .pointer (some ⟨tb, 0, none⟩)), (4, iV (lastF t)), (2, .slice aw 0 cw)] ⟨rfl, rfl, rfl, rfl, rfl, rfl, rfl, rfl, trivial⟩ ?_
      refine WC_meetX (fun σ => ∃ (fd : Bool) (g' : Nat → Nat) (fl' : List (PlK × Int)) (Ss : Int → List (Nat × Obj)) (X T : List (Nat × Obj)) (wv : Value), Chain t g' fl' ∧ Hands hb tb Ss (X ++ G) t (chS t g' fl') ∧ BufY wv T fl' ∧ ((fd = false ∧ fl' = [] ∧ ∀ w, 1 ≤ w → w ≤ 3 → rdyL t (chS t g' [] w) w (lastF t) = []) ∨ (fd = true ∧ leftN t g' fl' + 1 = leftN t g [])) ∧ σ = ⟨[(12, .bool fd), (11, iV (i : Int)), (8, .pointer (some ⟨x8, 0, none⟩)), (6, .pointer (some ⟨x6, 0, none⟩)), (0, .pointer (some ⟨tb, 0, none⟩)), (4, iV (lastF t)), (2, wv)], [], (x8, Obj.cells (gvC g') 61 (0, 0)) :: (x6, Obj.cells (hbC hb) 58 (0, 0)) :: (T ++ (hmS Ss ++ (X ++ F)))⟩) ?_ ?_
      · refine WC_loop (fun q σ => ∃ (k : Nat) (fd : Bool) (g' : Nat → Nat) (fl' : List (PlK × Int)) (Ss : Int → List (Nat × Obj)) (X T : List (Nat × Obj)) (wv : Value), q = 3 - k ∧ k ≤ 3 ∧ Chain t g' fl' ∧ Hands hb tb Ss (X ++ G) t (chS t g' fl') ∧ BufY wv T fl' ∧ ((fd = false ∧ fl' = [] ∧ g' = g ∧ ∀ w, 1 ≤ w → w ≤ (k : Int) → rdyL t (chS t g' [] w) w (lastF t) = []) ∨ (fd = true ∧ leftN t g' fl' + 1 = leftN t g [])) ∧ σ = ⟨[(13, iV ((k : Int) + 1)), (12, .bool fd), (11, iV (i : Int)), (8, .pointer (some ⟨x8, 0, none⟩)), (6, .pointer (some ⟨x6, 0, none⟩)), (0, .pointer (some ⟨tb, 0, none⟩)), (4, iV (lastF t)), (2, wv)], [], (x8, Obj.cells (gvC g') 61 (0, 0)) :: (x6, Obj.cells (hbC hb) 58 (0, 0)) :: (T ++ (hmS Ss ++ (X ++ F)))⟩) 3 ⟨0, false, g, [], Ss, X, T, .slice aw 0 cw, rfl, by decide, hC, hH, hfl, .inl ⟨rfl, rfl, rfl, fun w h1 h2 => by omega⟩, rfl⟩ ?_
        clear hC hH hfl hXF
        rintro _ σ ⟨k, fd, g', fl', Ss, X, T, wv, rfl, hk, hC, hH, hfl, hst, rfl⟩
        by_cases hk3 : k < 3
        rotate_left
        · obtain rfl : k = 3 := by omega
          have e1 : decide (((3 : Nat) : Int) + 1 ≤ 3) = false := by decide
          repeat (first | refine RQ ?_ | ((first | refine WL_Q ?_ | refine WL_Y ?_); (first | refine QW_of (Qt_fieldV rfl) ?_ | refine QW_of (Qt_ldX rfl (hn := by with_reducible assumption)) ?_)) | refine RC ?_ | refine WG 10 ?_)
          refine ⟨_, ⟨fd, g', fl', Ss, X, T, wv, hC, hH, hfl, ?_, rfl⟩, ⟨rfl, rfl, rfl, rfl, rfl, rfl, rfl, trivial⟩, rfl, .refl _⟩
          rcases hst with ⟨h1, h2, h3, h4⟩ | h1
          · exact .inl ⟨h1, h2, fun w q1 q2 => h4 w q1 q2⟩
          · exact .inr h1
        have e1 : decide ((k : Int) + 1 ≤ 3) = true := decide_eq_true (by omega)
        rcases hst with ⟨rfl, rfl, rfl, hrd⟩ | ⟨rfl, hlf⟩
        rotate_left
        · repeat (first | refine RQ ?_ | ((first | refine WL_Q ?_ | refine WL_Y ?_); (first | refine QW_of (Qt_fieldV rfl) ?_ | refine QW_of (Qt_ldX rfl (hn := by with_reducible assumption)) ?_)) | refine RC ?_ | refine WG 10 ?_)
          exact ⟨_, ⟨true, g', fl', Ss, X, T, wv, hC, hH, hfl, .inr ⟨rfl, hlf⟩, rfl⟩, ⟨rfl, rfl, rfl, rfl, rfl, rfl, rfl, trivial⟩, rfl, .refl _⟩
        have hXF : ∀ q ∈ X ++ G, q ∈ X ++ F := fun q hq => by
          rcases List.mem_append.1 hq with h | h
          · exact List.mem_append_left _ h
          · exact List.mem_append_right _ (hG _ h)
        obtain ⟨aw, cw, rfl, _, _⟩ := id hfl.val
        have hw : 1 ≤ (k : Int) + 1 ∧ (k : Int) + 1 ≤ 3 := by omega
        obtain ⟨w, hwe⟩ : ∃ w : Int, w = (k : Int) + 1 := ⟨_, rfl⟩
        rw [← hwe] at e1 hw ⊢
        have ww : IntKind.i64.wrap (w + 1) = ((k + 1 : Nat) : Int) + 1 := by rw [wI64 (by omega) (by omega)]; omega
        have p0 : (0 : Int) ≤ w := by omega
        have p1 : w < ((4 : Nat) : Int) := by omega
        have ghb := hbC_at (hb := hb) hw
        repeat (first | refine RQ ?_ | ((first | refine WL_Q ?_ | refine WL_Y ?_); (first | refine QW_of (Qt_fieldV rfl) ?_ | refine QW_of (Qt_ldX rfl (hn := by with_reducible assumption)) ?_)) | refine RC ?_ | refine WG 10 ?_ | refine WG 12 ?_)
        obtain ⟨R, hR⟩ : ∃ R, R = (x8, Obj.cells (gvC g') 61 (0, 0)) :: (x6, Obj.cells (hbC hb) 58 (0, 0)) :: T := ⟨_, rfl⟩
        refine WL_op rfl (OW_permT2 (L' := hmS Ss ++ (R ++ (X ++ F))) (by rw [hR]; exact perm_se3 ..) (OW_call rfl (hF := gReady_fn (F := R ++ (X ++ F)) hT (hIn.mem fun q hq => List.mem_append_right _ (List.mem_append_right _ hq)) (fun q hq => List.mem_append_right _ (hXF q hq)) hH hw) (hk := ?_)))
        rintro _ _ ⟨Ss1, X1, rfl, hH1, hv⟩
        refine WL_permT (L' := (x8, Obj.cells (gvC g') 61 (0, 0)) :: (x6, Obj.cells (hbC hb) 58 (0, 0)) :: (T ++ (hmS Ss1 ++ ((X1 ++ X) ++ F)))) (by rw [hR]; exact perm_se4 ..) ?_
        have hH1 : Hands hb tb Ss1 ((X1 ++ X) ++ G) t (chS t g' []) := by rw [List.append_assoc]; exact hH1
        obtain ⟨rd, hrde⟩ : ∃ rd, rd = rdyL t (chS t g' [] w) w (lastF t) := ⟨_, rfl⟩
        rw [← hrde] at hv
        obtain ⟨_, ar, cr, rfl, _, _, _⟩ := id hv
        repeat (first | refine RQ ?_ | (refine WL_Q ?_; (first | refine QW_of (Qt_fieldV rfl) ?_ | refine QW_of (Qt_ldX rfl (hn := by with_reducible assumption)) ?_)) | refine RC ?_ | refine WG 12 ?_ | refine WG 13 ?_)
        by_cases hrn : rd = []
        · have e2 : decide (((rd.length : Nat) : Int) > 0) = false := by rw [hrn]; decide
          repeat (first | refine RQ ?_ | (refine WL_Q ?_; (first | refine QW_of (Qt_fieldV rfl) ?_ | refine QW_of (Qt_ldX rfl (hn := by with_reducible assumption)) ?_)) | refine RC ?_ | refine WG 13 ?_ | refine WG 11 ?_)
          rw [ww]
          exact ⟨_, _, by omega, ⟨k + 1, false, g', [], Ss1, X1 ++ X, T, _, rfl, by omega, hC, hH1, hfl, .inl ⟨rfl, rfl, rfl, fun v q1 q2 => by
            by_cases hvk : v ≤ (k : Int)
            · exact hrd v q1 hvk
            · obtain rfl : v = w := by omega
              rw [← hrde]
              exact hrn⟩, rfl⟩, ⟨rfl, rfl, rfl, rfl, rfl, rfl, rfl, rfl, trivial⟩, rfl, .refl _⟩
        obtain ⟨x, rd', hrx⟩ : ∃ x rd', rd = x :: rd' := by
          cases rd with
          | nil => exact absurd rfl hrn
          | cons x r => exact ⟨x, r, rfl⟩
        have hx0 : rd[0]? = some x := by rw [hrx]; rfl
        have hlr : 0 < rd.length := by rw [hrx]; exact Nat.succ_pos _
        have e2 : decide (((rd.length : Nat) : Int) > 0) = true := decide_eq_true (by omega)
        obtain ⟨b, q, q', hb8, hq, hq', hqw, hno, hxe, hxo, hxw, hxg, hne, hq13⟩ := rdy_own hC hT h3 (show x ∈ rdyL t (chS t g' [] w) w (lastF t) by rw [← hrde, hrx]; exact .head _)
        obtain ⟨b1, f1, _, c1, E1, fr1, i1, e, _, _, hi1, hx1⟩ := (hv.mem (G' := (x8, Obj.cells (gvC g') 61 (0, 0)) :: (x6, Obj.cells (hbC hb) 58 (0, 0)) :: (T ++ (hmS Ss1 ++ ((X1 ++ X) ++ F)))) fun z hz => .tail _ (.tail _ (List.mem_append_right _ (List.mem_append_right _ (List.mem_append_left _ (List.mem_append_left _ hz)))))).cell (by omega)
        cases e
        obtain ⟨v1, y1⟩ := gvL_ext hx1 hx0
        have hn : x.nx = some q' := by rw [hxe]
        rw [hn] at v1
        have v2 : c1.extract (f1 + Int.toNat 0 * 4) (f1 + Int.toNat 0 * 4 + 4) = #[iV (b : Int), iV (g' b : Int), iV q'.2, iV q'.1] := by rw [hxe] at v1; exact v1
        have y2 : f1 + Int.toNat 0 * 4 + 4 ≤ c1.size := y1
        have z0 : (0 : Int) ≤ 0 := by decide
        have z1 : (0 : Int) < ((rd.length : Nat) : Int) := by omega
        repeat (first | refine RQ ?_ | (refine WL_Q ?_; (first | refine QW_of (Qt_fieldV rfl) ?_ | refine QW_of (Qt_ldX rfl (hn := by with_reducible assumption)) ?_)) | refine RC ?_ | refine WG 13 ?_)
        repeat (first | refine WC_seq ?_ | refine WG 14 ?_)
        iterate 3 (refine RQ ?_)
        rw [v2]
        repeat (first | refine RQ ?_ | (refine WL_Q ?_; (first | refine QW_of (Qt_fieldV rfl) ?_ | refine QW_of (Qt_ldX rfl (hn := by with_reducible assumption)) ?_)) | (refine RE ?_; try intro _) | refine RC ?_ | refine WG 14 ?_ | refine WG 15 ?_)
        rename_i x15
        refine WC_draw_sub (id := 16) 7 (Cs [0,1,2,3,4] <| .must 5 <| .calm 6 <| .done) mixed (by kernel_rfl) (.cons_cons _ (.cons_cons _ (.cons_cons _ (List.nil_sublist _)))) ?_
        iterate 4 (refine RQr ?_)
        refine WR_Q rfl (QW_of (Qt_ldN rfl (hn := Nat.le_of_ble_eq_true rfl)) ?_)
        have e15 : (#[iV (b : Int), iV (g' b : Int), iV q'.2, iV q'.1] : Array Value).extract 0 (0 + 2) = #[iV (b : Int), iV (g' b : Int)] := rfl
        rw [e15]
        have hk : x.key = ((b : Int), (g' b : Int)) := by rw [hxe]
        obtain ⟨R2, hR2⟩ : ∃ R2, R2 = (x15, Obj.cells #[iV (b : Int), iV (g' b : Int), iV q'.2, iV q'.1] 71 (0, 0)) :: (x8, Obj.cells (gvC g') 61 (0, 0)) :: (x6, Obj.cells (hbC hb) 58 (0, 0)) :: T := ⟨_, rfl⟩
        have hXF2 : ∀ q ∈ (X1 ++ X) ++ G, q ∈ (X1 ++ X) ++ F := fun q hq => by
          rcases List.mem_append.1 hq with h | h
          · exact List.mem_append_left _ h
          · exact List.mem_append_right _ (hG _ h)
        have hgave := gGave_fn (F := R2 ++ ((X1 ++ X) ++ F)) hT (hIn.mem fun q hq => List.mem_append_right _ (List.mem_append_right _ hq)) (fun q hq => List.mem_append_right _ (hXF2 q hq)) hH1 hw hxo hn hxw hxg
        have hge := hC.gave_eq hb8 hq hq' hno
        rw [hqw] at hge
        rw [hk, hge] at hgave
        refine WR_op rfl rfl (OW_permT2 (L' := hmS Ss1 ++ (R2 ++ ((X1 ++ X) ++ F))) (by rw [hR2]; exact perm_se5 ..) (OW_call rfl (hF := hgave) (hk := ?_)))
        rintro _ _ ⟨Ss2, X2, rfl, hH2, rfl⟩
        refine ⟨fun q hq => List.mem_append_right _ (List.mem_append_right _ (List.mem_append_left _ (by
          rw [hR2]
          simp only [List.mem_cons, List.not_mem_nil, or_false] at hq ⊢
          rcases hq with rfl | rfl | rfl
          · exact .inl rfl
          · exact .inr (.inl rfl)
          · exact .inr (.inr (.inl rfl))))), ?_⟩
        repeat (first | refine RQr ?_ | (refine RX ?_; (first | refine QW_of (Qt_fieldV rfl) ?_ | refine QW_of (Qt_ldX rfl (hn := by with_reducible assumption)) ?_)) | refine RC ?_ | refine RU ?_ | refine WC_draw_all (id := 16) 7 (Cs [0,1,2,3,4] <| .must 5 <| .calm 6 <| .done) mixed (by kernel_rfl) ?_)
        refine WC_permT (L' := (x15, Obj.cells #[iV (b : Int), iV (g' b : Int), iV q'.2, iV q'.1] 71 (0, 0)) :: (x8, Obj.cells (gvC g') 61 (0, 0)) :: (x6, Obj.cells (hbC hb) 58 (0, 0)) :: (T ++ (hmS Ss2 ++ ((X2 ++ (X1 ++ X)) ++ F)))) (by rw [hR2]; exact perm_se6 ..) ?_
        have gq := gvC_get (g := g') hb8
        have zq := gvC_len (g := g') hb8
        have r0 : (0 : Int) ≤ (b : Int) := by omega
        have r1 : (b : Int) < 8 := by omega
        have hgb : g' b ≤ 100 := by
          have h1 := hC.lt b hb8
          have h2 := hT.short (rowT t b) (List.mem_of_getElem? (hT.rowT hb8).2)
          have h3 := hT.few
          omega
        have wq : IntKind.i64.wrap ((g' b : Int) + 1) = (g' b : Int) + 1 := wI64 (by omega) (by omega)
        repeat (first | refine RQ ?_ | (refine WL_Q ?_; (first | refine QW_of (Qt_fieldV rfl) ?_ | refine QW_of (Qt_ldX rfl (hn := by with_reducible assumption)) ?_)) | (refine RE ?_; try intro _) | refine RC ?_ | refine WG 18 ?_)
        rw [wq, gvC_put hb8]
        repeat (first | refine RQ ?_ | (refine WL_Q ?_; (first | refine QW_of (Qt_fieldV rfl) ?_ | refine QW_of (Qt_ldX rfl (hn := by with_reducible assumption)) ?_)) | (refine RE ?_; try intro _) | refine RC ?_ | refine WG 19 ?_)
        rw [wq]
        rename_i xs
        refine WL_op rfl (OW_permT2 (L' := [(xs, Obj.cells #[iV (b : Int), iV ((g' b : Int) + 1), iV q'.2] 78 (0, 0)), (x15, Obj.cells #[iV (b : Int), iV (g' b : Int), iV q'.2, iV q'.1] 71 (0, 0)), (x8, Obj.cells (gvC (fun x => if x = b then g' b + 1 else g' x)) 61 (0, 0)), (x6, Obj.cells (hbC hb) 58 (0, 0))] ++ (T ++ (hmS Ss2 ++ ((X2 ++ (X1 ++ X)) ++ F)))) (.refl _) (OW_append_buf (T := T) (B := hmS Ss2 ++ ((X2 ++ (X1 ++ X)) ++ F)) rfl rfl rfl rfl rfl hfl (m := 1) (news := [iV (b : Int), iV ((g' b : Int) + 1), iV q'.2]) (srcVec (sz := 3) ⟨rfl, _, _, rfl, Nat.le_refl _, by decide, .inr ⟨_, _, _, _, _, 0, rfl, rfl, fun j x hx => by rw [Nat.zero_add]; simpa using hx⟩⟩ (fun u hu => by simp only [List.mem_cons, List.not_mem_nil, or_false] at hu; rcases hu with rfl | rfl | rfl <;> rfl)) (by decide) (by simp only [maxLen]; decide) (by decide) ?_))
        intro v' T' hb'
        simp only [List.cons_append, List.nil_append]
        repeat (first | refine RQ ?_ | (refine WL_Q ?_; (first | refine QW_of (Qt_fieldV rfl) ?_ | refine QW_of (Qt_ldX rfl (hn := by with_reducible assumption)) ?_)) | (refine RE ?_; try intro _) | refine RC ?_ | refine WG 19 ?_ | refine WG 11 ?_)
        rw [ww]
        have hlg := left_gave (t := t) (g := g') (fl := []) (b := b) (f := (((b : Int), ((g' b + 1 : Nat) : Int)), q'.2)) hb8 (List.getElem?_eq_some_iff.1 hq').1
        obtain ⟨hC2, _⟩ := hC.gave hb8 hq hq' hno
        exact ⟨_, _, by omega, ⟨k + 1, true, _, _, Ss2, X2 ++ (X1 ++ X), T', v', rfl, by omega, hC2, by rw [List.append_assoc]; exact hH2, hb', .inr ⟨rfl, hlg⟩, rfl⟩, ⟨rfl, rfl, rfl, rfl, rfl, rfl, rfl, rfl, trivial⟩, rfl, .cons _ (.cons _ (.refl _))⟩
      · rintro _ ⟨fd, g', fl', Ss, X, T, wv, hC, hH, hfl, hst, rfl⟩
        rcases hst with ⟨rfl, rfl, hrd⟩ | ⟨rfl, hlf⟩
        · repeat (first | refine RQ ?_ | (refine WL_Q ?_; (first | refine QW_of (Qt_fieldV rfl) ?_ | refine QW_of (Qt_ldX rfl (hn := by with_reducible assumption)) ?_)) | refine RC ?_ | refine WG 20 ?_)
          exact ⟨_, ⟨g', Ss, X, T, hC, hH, hrd, rfl⟩, ⟨rfl, rfl, rfl, trivial⟩, rfl, .refl _⟩
        · repeat (first | refine RQ ?_ | (refine WL_Q ?_; (first | refine QW_of (Qt_fieldV rfl) ?_ | refine QW_of (Qt_ldX rfl (hn := by with_reducible assumption)) ?_)) | refine RC ?_ | refine WG 20 ?_ | refine WG 3 ?_)
          rw [wi]
          exact ⟨_, _, by omega, ⟨i + 1, g', fl', Ss, X, T, wv, rfl, by omega, hC, hH, hfl, rfl⟩, ⟨rfl, rfl, rfl, rfl, rfl, rfl, trivial⟩, rfl, .refl _⟩
  · clear hC hH hfl hl0 hga hgz0
    rintro _ ⟨g, Ss, X, T, hC, hH, hrd, rfl⟩
    obtain ⟨hlen, hlow⟩ := low_end hC hT h3 hrd
    obtain ⟨Y, hY⟩ : ∃ Y, Y = X := ⟨_, rfl⟩
    refine WC_permT (L' := (x8, Obj.cells (gvC g) 61 (0, 0)) :: (x6, Obj.cells (hbC hb) 58 (0, 0)) :: (hmS Ss ++ ((X ++ T) ++ F))) (perm_se7 ..) ?_
    repeat (first | refine RQ ?_ | (refine WL_Q ?_; (first | refine QW_of (Qt_fieldV rfl) ?_ | refine QW_of (Qt_ldX rfl (hn := by with_reducible assumption)) ?_)) | refine RC ?_ | refine WG 21 ?_)
    refine WC_wk [(16, iV (((0 : Nat) : Int) + 1)), (8, .pointer (some ⟨x8, 0, none⟩)), (6, .pointer (some ⟨x6, 0, none⟩)), (0, .pointer (some ⟨tb, 0, none⟩))] ⟨rfl, rfl, rfl, rfl, trivial⟩ ?_
    refine WC_loop (fun q σ => ∃ (k : Nat) (Ss : Int → List (Nat × Obj)) (X : List (Nat × Obj)), q = 3 - k ∧ k ≤ 3 ∧ Hands hb tb Ss (X ++ G) t (chS t g []) ∧ σ = ⟨[(16, iV ((k : Int) + 1)), (8, .pointer (some ⟨x8, 0, none⟩)), (6, .pointer (some ⟨x6, 0, none⟩)), (0, .pointer (some ⟨tb, 0, none⟩))], [], (x8, Obj.cells (gvC g) 61 (0, 0)) :: (x6, Obj.cells (hbC hb) 58 (0, 0)) :: (hmS Ss ++ (X ++ F))⟩) 3 ⟨0, Ss, X ++ T, rfl, by decide, hH.mem (fun q hq => by
      rcases List.mem_append.1 hq with h | h
      · exact List.mem_append_left _ (List.mem_append_left _ h)
      · exact List.mem_append_right _ h), rfl⟩ ?_
    clear hH hrd
    rintro _ σ ⟨k, Ss, X, rfl, hk, hH, rfl⟩
    have hXF : ∀ q ∈ X ++ G, q ∈ X ++ F := fun q hq => by
      rcases List.mem_append.1 hq with h | h
      · exact List.mem_append_left _ h
      · exact List.mem_append_right _ (hG _ h)
    by_cases hk3 : k < 3
    · have e1 : decide ((k : Int) + 1 ≤ 3) = true := decide_eq_true (by omega)
      have hw : 1 ≤ (k : Int) + 1 ∧ (k : Int) + 1 ≤ 3 := by omega
      obtain ⟨w, hwe⟩ : ∃ w : Int, w = (k : Int) + 1 := ⟨_, rfl⟩
      rw [← hwe] at e1 hw ⊢
      have ww : IntKind.i64.wrap (w + 1) = ((k + 1 : Nat) : Int) + 1 := by rw [wI64 (by omega) (by omega)]; omega
      have p0 : (0 : Int) ≤ w := by omega
      have p1 : w < ((4 : Nat) : Int) := by omega
      have ghb := hbC_at (hb := hb) hw
      have hlc := gLow_fn (F := (x8, Obj.cells (gvC g) 61 (0, 0)) :: (x6, Obj.cells (hbC hb) 58 (0, 0)) :: (X ++ F)) hT (hIn.mem fun q hq => .tail _ (.tail _ (List.mem_append_right _ hq))) (fun q hq => .tail _ (.tail _ (hXF q hq))) hH hw
      rw [hlow w] at hlc
      repeat (first | refine RQ ?_ | (refine WL_Q ?_; (first | refine QW_of (Qt_fieldV rfl) ?_ | refine QW_of (Qt_ldX rfl (hn := by with_reducible assumption)) ?_)) | refine RC ?_ | refine WG 22 ?_ | refine WG 24 ?_)
      refine WL_op rfl (OW_permT2 (perm_hs1 ..) (OW_call rfl (hF := hlc) (hk := ?_)))
      rintro _ _ ⟨Ss1, X1, rfl, hH1, rfl⟩
      refine WL_permT (perm_hs3 ..) ?_
      repeat (first | refine RQ ?_ | (refine WL_Q ?_; (first | refine QW_of (Qt_fieldV rfl) ?_ | refine QW_of (Qt_ldX rfl (hn := by with_reducible assumption)) ?_)) | refine RC ?_ | refine WG 24 ?_ | refine WG 23 ?_)
      rw [ww]
      exact ⟨_, _, by omega, ⟨k + 1, Ss1, X1 ++ X, rfl, by omega, by rw [List.append_assoc]; exact hH1, rfl⟩, ⟨rfl, rfl, rfl, rfl, trivial⟩, rfl, .refl _⟩
    obtain rfl : k = 3 := by omega
    have e1 : decide (((3 : Nat) : Int) + 1 ≤ 3) = false := by decide
    repeat (first | refine RQ ?_ | (refine WL_Q ?_; (first | refine QW_of (Qt_fieldV rfl) ?_ | refine QW_of (Qt_ldX rfl (hn := by with_reducible assumption)) ?_)) | refine RC ?_ | refine WG 22 ?_ | refine WG 26 ?_)
    refine WC_wk [(17, iV ((0 : Nat) : Int)), (8, .pointer (some ⟨x8, 0, none⟩)), (6, .pointer (some ⟨x6, 0, none⟩)), (0, .pointer (some ⟨tb, 0, none⟩))] ⟨rfl, rfl, rfl, rfl, trivial⟩ ?_
    refine WC_loop (fun q σ => ∃ (j : Nat) (Ss : Int → List (Nat × Obj)) (X : List (Nat × Obj)), q = 8 - j ∧ j ≤ 8 ∧ Hands hb tb Ss (X ++ G) t (chS t g []) ∧ σ = ⟨[(17, iV (j : Int)), (8, .pointer (some ⟨x8, 0, none⟩)), (6, .pointer (some ⟨x6, 0, none⟩)), (0, .pointer (some ⟨tb, 0, none⟩))], [], (x8, Obj.cells (gvC g) 61 (0, 0)) :: (x6, Obj.cells (hbC hb) 58 (0, 0)) :: (hmS Ss ++ (X ++ F))⟩) 8 ⟨0, Ss, X, rfl, by decide, hH, rfl⟩ ?_
    clear hH hXF
    rintro _ σ ⟨j, Ss, X, rfl, hj, hH, rfl⟩
    by_cases hj8 : j < 8
    rotate_left
    · have e1 : decide ((j : Int) < 8) = false := decide_eq_false (by omega)
      repeat (first | refine RQ ?_ | (refine WL_Q ?_; (first | refine QW_of (Qt_fieldV rfl) ?_ | refine QW_of (Qt_ldX rfl (hn := by with_reducible assumption)) ?_)) | refine RC ?_ | refine WG 27 ?_ | refine WG 32 ?_)
      refine ⟨rfl, _, _, Res1 rfl (resV_tmp rfl), .cons _ (.cons _ (.refl _)), rfl, hmS Ss ++ X, by rw [List.append_assoc]⟩
    have e1 : decide ((j : Int) < 8) = true := decide_eq_true (by omega)
    obtain ⟨row, hrow⟩ : ∃ row, row = rowT t j := ⟨_, rfl⟩
    have hrl := hlen j hj8
    obtain ⟨q, hq⟩ : ∃ q, (rowT t j)[g j]? = some q := ⟨_, List.getElem?_eq_getElem (hC.lt j hj8)⟩
    have hq13 := h3 j q hj8 (List.mem_of_getElem? hq)
    have hshort : row.length ≤ 65 := by
      have h2 := hT.short (rowT t j) (List.mem_of_getElem? (hT.rowT hj8).2)
      have := hT.few
      rw [hrow]
      omega
    have hrs := (hT.rowT hj8).2
    rw [← hrow] at hrl hq hrs
    have hsp : ∀ M : List (Nat × Obj), (∀ q ∈ F, q ∈ M) → Fn Tryz.prog 25 [.pointer (some ⟨tb, 0, none⟩), iV (j : Int)] M (fun v L' => ∃ T, L' = T ++ M ∧ Buf 76 2 v T row.length (spL row)) := fun M hM => by
      have := spans_fn (b := (j : Int)) (hIn.mem hM) (fun r hr => by have := hT.short r hr; have := hT.few; omega)
      rw [if_pos ⟨by omega, by omega⟩, Int.toNat_natCast, hrs] at this
      exact this
    repeat (first | refine RQ ?_ | (refine WL_Q ?_; (first | refine QW_of (Qt_fieldV rfl) ?_ | refine QW_of (Qt_ldX rfl (hn := by with_reducible assumption)) ?_)) | (refine WL_op rfl ?_; (first | (refine OW_call rfl (hF := hsp _ (fun q hq => .tail _ (.tail _ (List.mem_append_right _ (List.mem_append_right _ hq))))) (hk := ?_); rintro _ _ ⟨Ts, rfl, hTs⟩))) | refine RC ?_ | refine WG 27 ?_ | refine WG 29 ?_)
    obtain ⟨asl, ccp, rfl, _, _⟩ := hTs.val
    repeat (first | refine RQ ?_ | (refine WL_Q ?_; (first | refine QW_of (Qt_fieldV rfl) ?_ | refine QW_of (Qt_ldX rfl (hn := by with_reducible assumption)) ?_)) | (refine WL_op rfl ?_; (first | (refine OW_call rfl (hF := hsp _ (fun q hq => .tail _ (.tail _ (List.mem_append_right _ (List.mem_append_right _ hq))))) (hk := ?_); rintro _ _ ⟨Ts, rfl, hTs⟩))) | refine RC ?_ | refine WG 29 ?_)
    refine WC_permT (L' := (x8, Obj.cells (gvC g) 61 (0, 0)) :: (x6, Obj.cells (hbC hb) 58 (0, 0)) :: (hmS Ss ++ ((Ts ++ X) ++ F))) (perm_se8 ..) ?_
    obtain ⟨b1, f1, _, c1, E1, fr1, i1, e, _, _, hi1, hx1⟩ := (hTs.vecM.mem (G' := (x8, Obj.cells (gvC g) 61 (0, 0)) :: (x6, Obj.cells (hbC hb) 58 (0, 0)) :: (hmS Ss ++ ((Ts ++ X) ++ F))) fun z hz => .tail _ (.tail _ (List.mem_append_right _ (List.mem_append_left _ (List.mem_append_left _ hz))))).cell (by omega)
    cases e
    have wl : IntKind.i64.wrap (((row.length : Nat) : Int) - 1) = (g j : Int) := by rw [wI64 (by omega) (by omega)]; omega
    have d1 : (((row.length : Nat) : Int) == 0) = false := by rw [beq_eq_false_iff_ne]; omega
    have u0 : 0 ≤ IntKind.i64.wrap (((row.length : Nat) : Int) - 1) := by rw [wl]; omega
    have u1 : IntKind.i64.wrap (((row.length : Nat) : Int) - 1) < ((row.length : Nat) : Int) := by rw [wl]; omega
    have g1 : c1[f1 + (IntKind.i64.wrap (((row.length : Nat) : Int) - 1)).toNat * 2 + 1]? = some (iV q.2) := by
      rw [wl, Int.toNat_natCast, Nat.add_assoc]
      exact hx1 _ _ (spL_at hq).2
    have d2 : decide (q.2 < 1) = false := decide_eq_false (by omega)
    have d3 : decide (q.2 > 3) = false := decide_eq_false (by omega)
    have gq := gvC_get (g := g) hj8
    have r0 : (0 : Int) ≤ (j : Int) := by omega
    have r1 : (j : Int) < ((8 : Nat) : Int) := by omega
    have d4 : ((g j : Int) != IntKind.i64.wrap (((row.length : Nat) : Int) - 1)) = false := by rw [wl]; exact bne_self_eq_false _
    have s0 : (0 : Int) ≤ q.2 := by omega
    have s1 : q.2 < ((4 : Nat) : Int) := by omega
    have ghb := hbC_at (hb := hb) hq13
    have wj : IntKind.i64.wrap ((j : Int) + 1) = ((j + 1 : Nat) : Int) := by rw [wI64 (by omega) (by omega)]; omega
    repeat (first | refine RQ ?_ | ((first | refine WL_Q ?_ | refine WL_Y ?_); (first | refine QW_of (Qt_fieldV rfl) ?_ | refine QW_of (Qt_ldX rfl (hn := by with_reducible assumption)) ?_)) | refine RC ?_ | refine WG 30 ?_)
    have d5 : ((g j : Int) != (g j : Int)) = false := bne_self_eq_false _
    have hxo : (⟨(j : Int), (g j : Int), q.1, q.2, row[g j + 1]?⟩ : OwnV) ∈ hownL q.2 t 8 := hownL_mem.2 ⟨j, g j, q, hj8, by rw [← hrow]; exact hq, rfl, by rw [← hrow]⟩
    have hXF : ∀ z ∈ (Ts ++ X) ++ G, z ∈ (Ts ++ X) ++ F := fun z hz => by
      rcases List.mem_append.1 hz with h | h
      · exact List.mem_append_left _ h
      · exact List.mem_append_right _ (hG _ h)
    have hH' : Hands hb tb Ss ((Ts ++ X) ++ G) t (chS t g []) := hH.mem fun z hz => by
      rcases List.mem_append.1 hz with h | h
      · exact List.mem_append_left _ (List.mem_append_right _ h)
      · exact List.mem_append_right _ h
    have hwh := gWhole_fn (F := (x8, Obj.cells (gvC g) 61 (0, 0)) :: (x6, Obj.cells (hbC hb) 58 (0, 0)) :: ((Ts ++ X) ++ F)) hT (hIn.mem fun z hz => .tail _ (.tail _ (List.mem_append_right _ hz))) (fun z hz => .tail _ (.tail _ (hXF z hz))) hH' hq13 hxo
    have he : (decide ((g j : Int) = 0) || (chS t g [] q.2 ((j : Int), (g j : Int))).1) = true := by
      rw [chS_at hj8 (by rw [← hrow]; exact hq)]
      simp only [Bool.or_eq_true, decide_eq_true_eq]
      by_cases hz : g j = 0
      · left; omega
      · right; exact ⟨by omega, Nat.le_refl _, fun h => by simp at h⟩
    simp only [OwnV.key] at hwh
    rw [he] at hwh
    rw [wl]
    refine WL_yes (h := OW_permT2 (perm_hs1 ..) (OW_call rfl (hF := hwh) (hk := ?_)))
    rintro _ _ ⟨Ss1, X1, rfl, hH1, rfl⟩
    refine WL_permT (perm_hs3 ..) ?_
    repeat (first | refine RQ ?_ | ((first | refine WL_Q ?_ | refine WL_Y ?_); (first | refine QW_of (Qt_fieldV rfl) ?_ | refine QW_of (Qt_ldX rfl (hn := by with_reducible assumption)) ?_)) | refine RC ?_ | refine WG 30 ?_ | refine WG 28 ?_)
    rw [wj]
    exact ⟨_, _, by omega, ⟨j + 1, Ss1, X1 ++ (Ts ++ X), rfl, by omega, by rw [List.append_assoc]; exact hH1, rfl⟩, ⟨rfl, rfl, rfl, rfl, trivial⟩, rfl, .refl _⟩
end Go.Proofs.YtncgndcepoicbaaGreat
