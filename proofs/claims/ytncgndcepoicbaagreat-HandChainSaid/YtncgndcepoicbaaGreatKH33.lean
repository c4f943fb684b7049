/-
  A part of what the last of these texts needs; by itself it proves no statement.
-/
import Derived.Test.YtncgndcepoicbaaGreatKH32
namespace Go.Proofs.YtncgndcepoicbaaGreat
open Go.RowKit
def ActsH (L : List (Nat × Obj)) (v : Value) (l : List ActV) : Prop := ∃ a cap, v = .slice a l.length cap ∧ l.length ≤ cap ∧ cap ≤ maxLen ∧ ∀ (j : Nat) (x : ActV), l[j]? = some x → ∃ (q off : Nat) (cur : Array Value) (E : TypeId) (fr : Nat × Nat), a = some ⟨q, off, none⟩ ∧ (q, Obj.cells cur E fr) ∈ L ∧ ActOk x ∧ cur.extract (off + j * 7) (off + j * 7 + 7) = acC x ∧ off + j * 7 + 7 ≤ cur.size
theorem HandAt.step {hb tb : Nat} {S G : List (Nat × Obj)} {t : TbV} {w : Int} {m : PlK → Bool × Bool} (h : HandAt hb tb S G t w m) {c : CmV} {fl : Int} : HandAt hb tb S G (stepF t c fl) w m := by
  unfold stepF
  split
  · obtain ⟨kn, rv, av, h1, h2, h3, _⟩ := h.h
    have e : ((addF t c).cmds.length : Int) = (t.cmds.length : Int) + 1 := by rw [addF_cmds, List.length_append]; rfl
    exact ⟨kn, rv, av, h1, h2, by omega, fun hk => by omega⟩
  · exact h
theorem Hands.step {hb : Int → Nat} {tb : Nat} {Ss : Int → List (Nat × Obj)} {G : List (Nat × Obj)} {t : TbV} {m : Int → PlK → Bool × Bool} (h : Hands hb tb Ss G t m) {c : CmV} {fl : Int} : Hands hb tb Ss G (stepF t c fl) m := fun w h1 h2 => (h w h1 h2).step
theorem new_rows {p : PlV} {c : CfV} (hT : TbOk (newT p c)) : (∀ b, b < 8 → 0 < (rowT (newT p c) b).length) ∧ One3 (newT p c) := by
  refine ⟨fun b hb => List.length_pos_iff.2 (hT.rowT hb).1.ne, fun b q hb hq => ?_⟩
  have hs := hT.short _ (List.mem_of_getElem? (hT.rowT hb).2)
  have hz : (newT p c).cmds.length = 0 := rfl
  have hl : (rowT (newT p c) b).length = 1 := by
    have := List.length_pos_iff.2 (hT.rowT hb).1.ne
    omega
  obtain ⟨r, hr⟩ : ∃ r, rowT (newT p c) b = [r] := List.length_eq_one_iff.1 hl
  rw [hr] at hq
  obtain rfl := List.mem_singleton.1 hq
  have ho := (hT.rowT hb).1.own q (by rw [hr]; rfl)
  have h1 := hT.one q.2 ho
  have h2 := hT.wk
  omega
def hbK (hb : Int → Nat) (k : Nat) : Array Value := #[.pointer none, if 1 ≤ k then .pointer (some ⟨hb 1, 0, none⟩) else .pointer none, if 2 ≤ k then .pointer (some ⟨hb 2, 0, none⟩) else .pointer none, if 3 ≤ k then .pointer (some ⟨hb 3, 0, none⟩) else .pointer none]
theorem hbK_set {hb : Int → Nat} {k n : Nat} (hk : k < 3) : (hbK hb k).setIfInBounds (((k : Int) + 1).toNat * 1) (.pointer (some ⟨n, 0, none⟩)) = hbK (fun v => if v = (k : Int) + 1 then n else hb v) (k + 1) := by
  have h3 : k = 0 ∨ k = 1 ∨ k = 2 := by omega
  rcases h3 with rfl | rfl | rfl <;> rfl
theorem perm_ch1 {α : Type} {x : α} {A B R S F : List α} (h1 : (A ++ ([] ++ F)).Perm (S ++ ([] ++ (R ++ F)))) (h2 : ([] ++ (R ++ F)).Perm (B ++ F)) : (x :: (A ++ F)).Perm (S ++ (x :: (B ++ F))) :=
  ((List.Perm.cons x (h1.trans (.append_left S h2))).trans List.perm_middle.symm)
theorem Chain.few {t : TbV} {g : Nat → Nat} {fl : List (PlK × Int)} (hC : Chain t g fl) : fl.length ≤ 8 := by
  have hb : ∀ y ∈ fl.map (fun f => f.1.1), 0 ≤ y ∧ y < ((8 : Nat) : Int) := fun y hy => by
    obtain ⟨f, hf, rfl⟩ := List.mem_map.1 hy
    obtain ⟨b, q, hb, h1, _⟩ := hC.fly f hf
    rw [h1]
    exact ⟨by show (0 : Int) ≤ b; omega, by show (b : Int) < 8; omega⟩
  have := few_len 8 hC.one hb
  rw [List.length_map] at this
  exact this
theorem WC_draw_subF {c : Cx} {ops : Array Oper} {K : Exit → St → Prop} {σ : St} {id : Nat} {Ls : List (Nat × Obj)} (m : Nat) (p : Plan) (hm : c.P.follows .mixedOrders = true) (hok : (Region.noSelect ops && lateOk ops m && fastOk ops m p) = true) (hs : Ls.Sublist σ.L) (h : WR c ops K Ls m p σ) : WC c (.region id ops true) K σ := by
  simp only [Bool.and_eq_true] at hok
  exact WC_draw_sub m p hm (by simp only [Bool.and_eq_true]; exact ⟨hok.1, fastOk_ok hok.2⟩) hs h
structure ChO (tb : Nat) (hb : Int → Nat) (L : List (Nat × Obj)) (t : TbV) (S G F : List (Nat × Obj)) (g : Nat → Nat) (fl : List (PlK × Int)) (Ss : Int → List (Nat × Obj)) (T : List (Nat × Obj)) (wv : Value) : Prop where
  ok : TbOk t
  one : One3 t
  tab : TabAt tb S G t
  gf : ∀ q ∈ G, q ∈ F
  lf : L.Sublist F
  ch : Chain t g fl
  hd : Hands hb tb Ss G t (chS t g fl)
  bf : BufY wv T fl
abbrev chM (x10 x7 : Nat) (hb : Int → Nat) (S F : List (Nat × Obj)) (g : Nat → Nat) (Ss : Int → List (Nat × Obj)) (T : List (Nat × Obj)) : List (Nat × Obj) := (x10, Obj.cells (gvC g) 61 (0, 0)) :: (x7, Obj.cells (hbC hb) 58 (0, 0)) :: (T ++ (hmS Ss ++ (S ++ F)))
theorem ChO.tin {tb : Nat} {hb : Int → Nat} {L : List (Nat × Obj)} {t : TbV} {S G F : List (Nat × Obj)} {g : Nat → Nat} {fl : List (PlK × Int)} {Ss : Int → List (Nat × Obj)} {T : List (Nat × Obj)} {wv : Value} (h : ChO tb hb L t S G F g fl Ss T wv) {M : List (Nat × Obj)} (hM : ∀ q ∈ S ++ F, q ∈ M) : TabIn tb M t := h.tab.tabIn (fun q hq => hM q (List.mem_append_left _ hq)) (fun q hq => hM q (List.mem_append_right _ (h.gf q hq)))
theorem perm_ch2 {α : Type} (a b : α) (T H S F : List α) : (T ++ (H ++ (a :: b :: (S ++ F)))).Perm (a :: b :: (T ++ (H ++ (S ++ F)))) := by
  classical
  rw [List.perm_iff_count]
  intro z
  simp only [List.count_append, List.count_cons]
  omega
theorem perm_ch3 {α : Type} (a b c d : α) (Tb T H S F : List α) : (S ++ (a :: (Tb ++ (b :: c :: d :: (T ++ (H ++ F)))))).Perm (a :: (Tb ++ (b :: c :: d :: (T ++ (H ++ (S ++ F)))))) := by
  classical
  rw [List.perm_iff_count]
  intro z
  simp only [List.count_append, List.count_cons]
  omega
theorem perm_ch4 {α : Type} (a b c d : α) (Tb T H S X F : List α) : (a :: b :: c :: d :: (T ++ (H ++ (S ++ (X ++ (Tb ++ F)))))).Perm (S ++ (X ++ (a :: (Tb ++ (b :: c :: d :: (T ++ (H ++ F))))))) := by
  classical
  rw [List.perm_iff_count]
  intro z
  simp only [List.count_append, List.count_cons]
  omega
theorem perm_ch5 {α : Type} (R H S X F : List α) : (R ++ (H ++ (S ++ (X ++ F)))).Perm (H ++ (X ++ (R ++ (S ++ F)))) := by
  classical
  rw [List.perm_iff_count]
  intro z
  simp only [List.count_append]
  omega
theorem wyL_take (fl : List (PlK × Int)) (k : Nat) : (wyL fl).take (k * 3) = wyL (fl.take k) := by
  induction fl generalizing k with
  | nil => simp
  | cons w r ih =>
    cases k with
    | zero => simp
    | succ k =>
      have e : wyL (w :: r) = [iV w.1.1, iV w.1.2, iV w.2] ++ wyL r := rfl
      have e2 : wyL ((w :: r).take (k + 1)) = [iV w.1.1, iV w.1.2, iV w.2] ++ wyL (r.take k) := rfl
      rw [e, e2, ← ih k, show (k + 1) * 3 = k * 3 + 3 by omega]
      rfl
theorem wyL_drop (fl : List (PlK × Int)) (k : Nat) : (wyL fl).drop (k * 3) = wyL (fl.drop k) := by
  induction fl generalizing k with
  | nil => simp
  | cons w r ih =>
    cases k with
    | zero => simp
    | succ k =>
      have e : wyL (w :: r) = [iV w.1.1, iV w.1.2, iV w.2] ++ wyL r := rfl
      rw [List.drop_succ_cons, e, ← ih k, show (k + 1) * 3 = k * 3 + 3 by omega]
      rfl
theorem Own.takeY {sz : Nat} {cur : Array Value} {off cap n : Nat} {xs : List Value} (h : Own sz cur off cap n xs) {k : Nat} (hk : k ≤ n) : Own sz cur off k k (xs.take (k * sz)) := by
  have h1 := h.len; have h2 := h.le; have h3 := h.max; have h4 := h.fit
  have e1 : k * sz ≤ n * sz := Nat.mul_le_mul_right _ hk
  have e2 : k * sz ≤ cap * sz := Nat.mul_le_mul_right _ (by omega)
  refine ⟨by rw [List.length_take]; omega, Nat.le_refl _, by omega, by omega, fun j x hx => ?_⟩
  rw [List.getElem?_take] at hx
  split at hx
  · exact h.at_ j x hx
  · cases hx
theorem BufY.cut {fl : List (PlK × Int)} {g o cv : Nat} {cur : Array Value} (h : BufY (.slice (some ⟨g, o, none⟩) fl.length cv) [(g, .cells cur 78 (0, 0))] fl) {j : Nat} (hj : j < fl.length) : Own 3 cur o j j (wyL (fl.take j)) ∧ (∀ (L : List (Nat × Obj)) (i : Nat), L[i]? = some (g, .cells cur 78 (0, 0)) → Vec 3 L (.slice (some ⟨g, o, none⟩) j j) j (wyL (fl.take j))) ∧ (∀ (L : List (Nat × Obj)) (i : Nat), L[i]? = some (g, .cells cur 78 (0, 0)) → Vec 3 L (.slice (some ⟨g, slOff cv (j + 1) o 3, none⟩) (fl.length - (j + 1)) (cv - (j + 1))) (fl.length - (j + 1)) (wyL (fl.drop (j + 1)))) := by
  rcases h with ⟨_, h2, _⟩ | ⟨g', off, cap, cu', e1, e2, ho⟩
  · omega
  · simp only [Value.slice.injEq, Option.some.injEq, Addr.mk.injEq, true_and, and_true] at e1
    simp only [List.cons.injEq, Prod.mk.injEq, Obj.cells.injEq, and_true] at e2
    obtain ⟨⟨rfl, rfl⟩, rfl⟩ := e1
    obtain ⟨_, rfl⟩ := e2
    have hle := ho.le
    have ht : Own 3 cur o j j (wyL (fl.take j)) := by
      have := ho.takeY (k := j) (by omega)
      rwa [wyL_take] at this
    refine ⟨ht, fun L i hi => ht.vec i hi, fun L i hi => ?_⟩
    have hm := ho.max
    refine ⟨by rw [wyL_len, List.length_drop], _, _, rfl, by omega, by omega, ?_⟩
    by_cases he : fl.length - (j + 1) = 0
    · exact .inl he
    · refine .inr ⟨g, _, cur, _, _, i, rfl, hi, fun k x hk => ?_⟩
      rw [← wyL_drop, List.getElem?_drop] at hk
      have := ho.at_ _ _ hk
      rw [show slOff cv (j + 1) o 3 = o + (j + 1) * 3 from if_neg (by omega)]
      rw [← this]; congr 1; omega
theorem perm_ch6 {α : Type} (a b c d e z : α) (F : List α) : (a :: b :: c :: d :: z :: e :: F).Perm (z :: a :: b :: c :: d :: e :: F) := by
  classical
  rw [List.perm_iff_count]
  intro x
  simp only [List.count_cons]
  omega
theorem perm_ch7 {α : Type} (a b c d : α) (Z T H F : List α) : (H ++ ((Z ++ (a :: b :: c :: d :: T)) ++ F)).Perm (Z ++ (a :: b :: c :: d :: (T ++ (H ++ F)))) := by
  classical
  rw [List.perm_iff_count]
  intro z
  simp only [List.count_append, List.count_cons]
  omega
theorem perm_ch8 {α : Type} (a b c d : α) (Z V Y X T H S F : List α) : (a :: b :: c :: d :: (T ++ (H ++ (S ++ ((Y ++ (X ++ (Z ++ V))) ++ F))))).Perm (V ++ (H ++ (Y ++ ((Z ++ (a :: b :: c :: d :: T)) ++ (S ++ (X ++ F)))))) := by
  classical
  rw [List.perm_iff_count]
  intro z
  simp only [List.count_append, List.count_cons]
  omega
attribute [local irreducible] Fn WC WL WR OW Qt YieldFn QW FnP FnD FnE wnC
set_option maxHeartbeats 16000000 in
theorem chain_fn {a : Int} (ha : 0 ≤ a ∧ a < 256) {v : Value} {l : List ActV} {L : List (Nat × Obj)} (hv : ActsH L v l) : Fn Tryz.prog 4 [.int .u8 a, v] L (fun r L' => r = .bool true ∧ L' = L) := by
  obtain ⟨al, cal, rfl, hl1, hl2, hlx⟩ := id hv
  refine Fn_enter Tryz.func4 rfl Tryz.ntmps4 rfl fun gw => ?_
  repeat (first | refine RQ ?_ | (refine WL_Q ?_; (first | refine QW_of (Qt_fieldV rfl) ?_ | refine QW_of (Qt_ldX rfl (hn := by with_reducible assumption)) ?_)) | (refine RE ?_; try intro _) | (refine WL_op rfl ?_; (first | refine OW_callP rfl (hF := works25w_fn _) (hk := ?_) | (refine OW_call rfl (hF := tables_fn ha) (hk := ?_); rintro _ _ ⟨tb, rb, S, G, rfl, rfl, hTab⟩))) | refine RC ?_ | refine WG 0 ?_ | refine WG 1 ?_ | refine WG 3 ?_ | refine WG 4 ?_ | refine WG 6 ?_ | refine WG 7 ?_)
  rename_i x7
  have hT0 : TbOk (newT chP (chC a)) := newT_ok chP_ok chC_ok
  obtain ⟨hpos, h30⟩ := new_rows hT0
  have hlast0 : lastF (newT chP (chC a)) = 0 := rfl
  have hwk : (newT chP (chC a)).wk = 3 := rfl
  obtain ⟨t, ht⟩ : ∃ t, t = newT chP (chC a) := ⟨_, rfl⟩
  rw [← ht] at hTab hT0 hpos h30 hlast0 hwk
  obtain ⟨F, hF⟩ : ∃ F, F = S ++ (G ++ L) := ⟨_, rfl⟩
  have hInF : ∀ M : List (Nat × Obj), (∀ q ∈ F, q ∈ M) → TabIn tb M t := fun M h => hTab.tabIn (fun q hq => h q (by rw [hF]; exact List.mem_append_left _ hq)) (fun q hq => h q (by rw [hF]; exact List.mem_append_right _ (List.mem_append_left _ hq)))
  refine WC_wk [(8, iV (((0 : Nat) : Int) + 1)), (7, .pointer (some ⟨x7, 0, none⟩)), (5, .pointer (some ⟨tb, 0, none⟩)), (1, .slice al l.length cal)] ⟨rfl, rfl, rfl, rfl, trivial⟩ ?_
  refine WC_permT (L' := (x7, Obj.cells (hbK (fun _ => 0) 0) 58 (0, 0)) :: (hmS (fun _ => []) ++ F)) (by rw [hF]; exact .refl _) ?_
  refine WC_loop (fun q σ => ∃ (k : Nat) (hb : Int → Nat) (Ss : Int → List (Nat × Obj)), q = 3 - k ∧ k ≤ 3 ∧ (∀ w, 1 ≤ w → w ≤ (k : Int) → HandAt (hb w) tb (Ss w) [] t w (fun _ => (false, false))) ∧ (∀ w, (k : Int) < w → Ss w = []) ∧ σ = ⟨[(8, iV ((k : Int) + 1)), (7, .pointer (some ⟨x7, 0, none⟩)), (5, .pointer (some ⟨tb, 0, none⟩)), (1, .slice al l.length cal)], [], (x7, Obj.cells (hbK hb k) 58 (0, 0)) :: (hmS Ss ++ F)⟩) 3 ⟨0, fun _ => 0, fun _ => [], rfl, by decide, fun w h1 h2 => by omega, fun _ _ => rfl, rfl⟩ ?_
  rintro _ σ ⟨k, hb, Ss, rfl, hk, hH, hnil, rfl⟩
  by_cases hk3 : k < 3
  · have e1 : decide ((k : Int) + 1 ≤ 3) = true := decide_eq_true (by omega)
    have p0 : (0 : Int) ≤ (k : Int) + 1 := by omega
    have p1 : (k : Int) + 1 < ((4 : Nat) : Int) := by omega
    have ww : IntKind.i64.wrap ((k : Int) + 1 + 1) = ((k + 1 : Nat) : Int) + 1 := by rw [wI64 (by omega) (by omega)]; omega
    have hkz : (hbK hb k).size = 4 := rfl
    have hlt : ((k : Int) + 1).toNat * 1 < (hbK hb k).size := by rw [hkz]; omega
    repeat (first | refine RQ ?_ | (refine WL_Q ?_; (first | refine QW_of (Qt_fieldV rfl) ?_ | refine QW_of (Qt_ldX rfl (hn := by with_reducible assumption)) ?_)) | (refine RE ?_; try intro _) | refine RC ?_ | refine WG 8 ?_ | refine WG 10 ?_)
    refine WL_op rfl (OW_call rfl (hF := hNew_fn (w := (k : Int) + 1) (hInF _ fun q hq => .tail _ (List.mem_append_right _ hq)) (by rw [hwk]; omega)) (hk := ?_))
    rintro _ _ ⟨n, S', rfl, rfl, hN⟩
    obtain ⟨R, r1, r2⟩ := hand_in (w := (k : Int) + 1) (by omega) Ss F
    rw [hnil _ (by omega)] at r1
    refine WL_permT (L' := (x7, Obj.cells (hbK hb k) 58 (0, 0)) :: (hmS (fun v => if v = (k : Int) + 1 then S' else Ss v) ++ F)) (perm_ch1 (r2 S' []) r1) ?_
    have hset := hbK_set (hb := hb) (n := n) hk3
    have hg : (hbK (fun v => if v = (k : Int) + 1 then n else hb v) (k + 1))[((k : Int) + 1).toNat * 1]? = some (.pointer (some ⟨n, 0, none⟩)) := by
      rw [← hset, Array.getElem?_setIfInBounds_self_of_lt hlt]
    repeat (first | refine RQ ?_ | (refine WL_Q ?_; (first | refine QW_of (Qt_fieldV rfl) ?_ | refine QW_of (Qt_ldX rfl (hn := by with_reducible assumption)) ?_)) | (refine RE ?_; try intro _) | refine RC ?_ | refine WG 10 ?_)
    rw [hset]
    repeat (first | refine RQ ?_ | (refine WL_Q ?_; (first | refine QW_of (Qt_fieldV rfl) ?_ | refine QW_of (Qt_ldX rfl (hn := by with_reducible assumption)) ?_)) | refine RC ?_ | refine WG 11 ?_ | refine WG 9 ?_)
    rw [ww]
    refine ⟨_, _, by omega, ⟨k + 1, _, _, rfl, by omega, fun w q1 q2 => ?_, fun w q1 => ?_, rfl⟩, ⟨rfl, rfl, rfl, rfl, trivial⟩, rfl, .refl _⟩
    · by_cases e : w = (k : Int) + 1
      · subst e
        simp only [if_true]
        exact hN
      · simp only [if_neg e]
        exact hH w q1 (by omega)
    · rw [if_neg (by omega)]
      exact hnil w (by omega)
  obtain rfl : k = 3 := by omega
  have e1 : decide (((3 : Nat) : Int) + 1 ≤ 3) = false := by decide
  repeat (first | refine RQ ?_ | (refine WL_Q ?_; (first | refine QW_of (Qt_fieldV rfl) ?_ | refine QW_of (Qt_ldX rfl (hn := by with_reducible assumption)) ?_)) | (refine RE ?_; try intro _) | refine RC ?_ | refine WG 8 ?_ | refine WG 13 ?_ | refine WG 14 ?_ | refine WG 15 ?_ | refine WG 16 ?_)
  rename_i x10
  refine WC_wk [(12, iV ((0 : Nat) : Int)), (11, iV (lastF t)), (10, .pointer (some ⟨x10, 0, none⟩)), (9, .slice none 0 0), (7, .pointer (some ⟨x7, 0, none⟩)), (5, .pointer (some ⟨tb, 0, none⟩)), (1, .slice al l.length cal)] ⟨rfl, by rw [hlast0]; rfl, rfl, rfl, rfl, rfl, rfl, trivial⟩ ?_
  refine WC_permT (L' := chM x10 x7 hb S (G ++ L) (fun _ => 0) Ss []) (by unfold chM; rw [gvC_zero, hF]; exact .refl _) ?_
  have hO : ChO tb hb L t S G (G ++ L) (fun _ => 0) [] Ss [] (.slice none 0 0) := ⟨hT0, h30, hTab, fun q hq => List.mem_append_left _ hq, List.sublist_append_right _ _, Chain.zero hpos, fun w q1 q2 => by
    have h := (hH w q1 (by omega)).mem (G' := G) (fun q hq => by cases hq)
    have e : chS t (fun _ => 0) [] w = fun _ => (false, false) := by funext p; exact chS_zero
    rw [e]
    exact h, Buf.nil _ _⟩
  have hl0 : lastF t ≤ ((0 : Nat) : Int) * 20 := by rw [hlast0]; decide
  clear hF hInF hTab hT0 hpos h30 hlast0 hwk ht hH hnil
  refine WC_loop (fun q σ => ∃ (i : Nat) (t : TbV) (S G F : List (Nat × Obj)) (g : Nat → Nat) (fl : List (PlK × Int)) (Ss : Int → List (Nat × Obj)) (T : List (Nat × Obj)) (wv : Value), q = l.length - i ∧ i ≤ l.length ∧ i ≤ 260 ∧ lastF t ≤ (i : Int) * 20 ∧ ChO tb hb L t S G F g fl Ss T wv ∧ σ = ⟨[(12, iV (i : Int)), (11, iV (lastF t)), (10, .pointer (some ⟨x10, 0, none⟩)), (9, wv), (7, .pointer (some ⟨x7, 0, none⟩)), (5, .pointer (some ⟨tb, 0, none⟩)), (1, .slice al l.length cal)], [], chM x10 x7 hb S F g Ss T⟩) l.length ⟨0, t, S, G, G ++ L, _, [], Ss, [], _, rfl, Nat.zero_le _, by decide, hl0, hO, rfl⟩ ?_
  clear hO hl0
  rintro _ σ ⟨i, t, S, G, F, g, fl, Ss, T, wv, rfl, hi, hi260, hla, hO, rfl⟩
  have hbz : (hbC hb).size = 4 := rfl
  have hba : ((hbC hb).toList.all fun v => v.oneCell') = true := rfl
  have hgz : (gvC g).size = 8 := wnC_size rfl
  have hga : ((gvC g).toList.all fun v => v.oneCell') = true := wnC_all
  have hCont : (i < l.length ∧ i < 260) ∨ ¬ (i < l.length ∧ i < 260) := Decidable.em _
  rcases hCont with ⟨hi1, hi2⟩ | hno
  rotate_left
  · refine WC_seq ?_
    refine WC_seq ?_
    refine WC_meet (fun σ => σ = ⟨[(49, .bool false), (11, iV (lastF t)), (10, .pointer (some ⟨x10, 0, none⟩)), (9, wv), (7, .pointer (some ⟨x7, 0, none⟩)), (5, .pointer (some ⟨tb, 0, none⟩)), (1, .slice al l.length cal)], [], chM x10 x7 hb S F g Ss T⟩) ?_ ?_
    · by_cases hkl : i < l.length
      · have d1 : decide ((i : Int) < ((l.length : Nat) : Int)) = true := decide_eq_true (by omega)
        have d2 : decide ((i : Int) < 260) = false := decide_eq_false (by omega)
        repeat (first | refine RQ ?_ | ((first | refine WL_Q ?_ | refine WL_Y ?_); (first | refine QW_of (Qt_fieldV rfl) ?_ | refine QW_of (Qt_ldX rfl (hn := by with_reducible assumption)) ?_)) | refine RC ?_ | refine WG 17 ?_)
        exact ⟨_, rfl, ⟨by rw [d2]; rfl, rfl, rfl, rfl, rfl, rfl, rfl, trivial⟩, rfl, .refl _⟩
      · have d1 : decide ((i : Int) < ((l.length : Nat) : Int)) = false := decide_eq_false (by omega)
        repeat (first | refine RQ ?_ | ((first | refine WL_Q ?_ | refine WL_Y ?_); (first | refine QW_of (Qt_fieldV rfl) ?_ | refine QW_of (Qt_ldX rfl (hn := by with_reducible assumption)) ?_)) | refine RC ?_ | refine WG 17 ?_)
        exact ⟨_, rfl, ⟨by rw [d1]; rfl, rfl, rfl, rfl, rfl, rfl, rfl, trivial⟩, rfl, .refl _⟩
    rintro _ rfl
    repeat (first | refine RQ ?_ | (refine WL_Q ?_; (first | refine QW_of (Qt_fieldV rfl) ?_ | refine QW_of (Qt_ldX rfl (hn := by with_reducible assumption)) ?_)) | refine RC ?_ | refine WG 41 ?_)
    refine WL_op rfl (OW_permT2 (perm_ch2 ..) (OW_call rfl (hF := settles_fn (F := (x10, Obj.cells (gvC g) 61 (0, 0)) :: (x7, Obj.cells (hbC hb) 58 (0, 0)) :: (S ++ F)) hO.ok (hO.tin fun q hq => .tail _ (.tail _ hq)) (fun q hq => .tail _ (.tail _ (List.mem_append_right _ (hO.gf q hq)))) hO.hd hO.ch hO.one hO.bf) (hk := ?_)))
    rintro _ _ ⟨rfl, Z, rfl⟩
    repeat (first | refine RQ ?_ | (refine WL_Q ?_; (first | refine QW_of (Qt_fieldV rfl) ?_ | refine QW_of (Qt_ldX rfl (hn := by with_reducible assumption)) ?_)) | refine RC ?_ | refine WG 41 ?_)
    exact ⟨rfl, _, _, Res1 rfl (resV_tmp rfl), (hO.lf.trans (List.sublist_append_right S F)).trans ((List.Sublist.cons _ (.cons _ (.refl _))).trans (List.sublist_append_right Z _)), rfl, rfl⟩
  have d1 : decide ((i : Int) < ((l.length : Nat) : Int)) = true := decide_eq_true (by omega)
  have d2 : decide ((i : Int) < 260) = true := decide_eq_true (by omega)
  obtain ⟨y, hy⟩ : ∃ y, l[i]? = some y := ⟨_, List.getElem?_eq_getElem hi1⟩
  obtain ⟨qb, off, cur, E, fr, rfl, hqm, hyo, hx1, hx2⟩ := hlx i y hy
  have hne : ((l.length : Nat) : Int) ≠ 0 := by omega
  have wm : (i : Int).tmod ((l.length : Nat) : Int) = (i : Int) := by
    rw [Int.tmod_eq_emod_of_nonneg (by omega), Int.emod_eq_of_lt (by omega) (by omega)]
  have p0 : (0 : Int) ≤ (i : Int).tmod ((l.length : Nat) : Int) := by rw [wm]; omega
  have p1 : (i : Int).tmod ((l.length : Nat) : Int) < ((l.length : Nat) : Int) := by rw [wm]; omega
  have y1 : off + ((i : Int).tmod ((l.length : Nat) : Int)).toNat * 7 + 7 ≤ cur.size := by rw [wm, Int.toNat_natCast]; exact hx2
  have v1 : cur.extract (off + ((i : Int).tmod ((l.length : Nat) : Int)).toNat * 7) (off + ((i : Int).tmod ((l.length : Nat) : Int)).toNat * 7 + 7) = acC y := by rw [wm, Int.toNat_natCast]; exact hx1
  obtain ⟨iq, hiq⟩ := List.mem_iff_getElem?.1 (show (qb, Obj.cells cur E fr) ∈ chM x10 x7 hb S F g Ss T from .tail _ (.tail _ (List.mem_append_right _ (List.mem_append_right _ (List.mem_append_right _ (hO.lf.mem hqm))))))
  have wi : IntKind.i64.wrap ((i : Int) + 1) = ((i + 1 : Nat) : Int) := by rw [wI64 (by omega) (by omega)]; omega
  have hyz : (acC y).size = 7 := rfl
  have hya : ((acC y).toList.all fun v => v.oneCell') = true := by
    show (true && (true && (true && (true && (true && (true && (y.fv.oneCell' && true))))))) = true
    rw [hyo.f]
    rfl
  have wt : IntKind.i64.wrap (1 + IntKind.i64.wrap (y.to.tmod 3)) = 1 + y.to % 3 := wr_mod hyo.t.1 (by decide) (by decide) (by decide)
  repeat (first | refine RQ ?_ | ((first | refine WL_Q ?_ | refine WL_Y ?_); (first | refine QW_of (Qt_fieldV rfl) ?_ | refine QW_of (Qt_ldX rfl (hn := by with_reducible assumption)) ?_)) | refine RC ?_ | refine WG 17 ?_)
  repeat (first | refine WC_seq ?_ | refine WC_block ?_ | refine WG 19 ?_)
  iterate 7 (refine RQ ?_)
  rw [v1]
  repeat (first | refine RQ ?_ | (refine WL_Q ?_; (first | refine QW_of (Qt_fieldV rfl) ?_ | refine QW_of (Qt_ldX rfl (hn := by with_reducible assumption)) ?_)) | (refine RE ?_; try intro _) | refine RC0 ?_ | refine WC_block (id := 0) ?_ | refine WC_block (id := 1) ?_ | refine WC_block (id := 2) ?_ | refine WC_block (id := 3) ?_ | refine WG 19 ?_ | refine WG 20 ?_)
  rw [wt]
  rename_i x13
  obtain ⟨w, hwe⟩ : ∃ w : Int, w = 1 + y.to % 3 := ⟨_, rfl⟩
  have hw : 1 ≤ w ∧ w ≤ 3 := by rw [hwe]; omega
  rw [← hwe]
  clear hwe wt hiq v1 y1 p0 p1 wm
  refine WC_wk [(14, iV w), (13, .pointer (some ⟨x13, 0, none⟩)), (12, iV (i : Int)), (11, iV (lastF t)), (10, .pointer (some ⟨x10, 0, none⟩)), (9, wv), (7, .pointer (some ⟨x7, 0, none⟩)), (5, .pointer (some ⟨tb, 0, none⟩)), (1, .slice (some ⟨qb, off, none⟩) l.length cal)] ⟨rfl, rfl, rfl, rfl, rfl, rfl, rfl, rfl, rfl, trivial⟩ ?_
  refine WC_permT (L' := (x13, Obj.cells (acC y) 64 (0, 0)) :: chM x10 x7 hb S F g Ss T) (.refl _) ?_
  refine WC_block ?_
  refine WC_meetX (fun σ => ∃ (t : TbV) (S G F : List (Nat × Obj)) (g : Nat → Nat) (fl : List (PlK × Int)) (Ss : Int → List (Nat × Obj)) (T : List (Nat × Obj)) (wv : Value), lastF t ≤ ((i + 1 : Nat) : Int) * 20 ∧ ChO tb hb L t S G F g fl Ss T wv ∧ σ = ⟨[(12, iV (i : Int)), (11, iV (lastF t)), (10, .pointer (some ⟨x10, 0, none⟩)), (9, wv), (7, .pointer (some ⟨x7, 0, none⟩)), (5, .pointer (some ⟨tb, 0, none⟩)), (1, .slice (some ⟨qb, off, none⟩) l.length cal)], [], chM x10 x7 hb S F g Ss T⟩) ?_ ?_
  · refine WC_seq ?_
    refine WC_meet (fun σ => ∃ tv : Bool, σ = ⟨[(94, .bool tv), (14, iV w), (13, .pointer (some ⟨x13, 0, none⟩)), (12, iV (i : Int)), (11, iV (lastF t)), (10, .pointer (some ⟨x10, 0, none⟩)), (9, wv), (7, .pointer (some ⟨x7, 0, none⟩)), (5, .pointer (some ⟨tb, 0, none⟩)), (1, .slice (some ⟨qb, off, none⟩) l.length cal)], [], (x13, Obj.cells (acC y) 64 (0, 0)) :: chM x10 x7 hb S F g Ss T⟩) ?_ ?_
    · cases e1 : decide ((i : Int) < 60)
      · repeat (first | refine RQ ?_ | ((first | refine WL_Q ?_ | refine WL_Y ?_); (first | refine QW_of (Qt_fieldV rfl) ?_ | refine QW_of (Qt_ldX rfl (hn := by with_reducible assumption)) ?_)) | refine RC ?_ | refine WG 27 ?_)
        exact ⟨_, ⟨false, rfl⟩, ⟨by rw [e1]; rfl, rfl, rfl, rfl, rfl, rfl, rfl, rfl, rfl, rfl, trivial⟩, rfl, .refl _⟩
      cases e2 : decide (y.what.tmod 10 > 4)
      · repeat (first | refine RQ ?_ | ((first | refine WL_Q ?_ | refine WL_Y ?_); (first | refine QW_of (Qt_fieldV rfl) ?_ | refine QW_of (Qt_ldX rfl (hn := by with_reducible assumption)) ?_)) | refine RC ?_ | refine WG 27 ?_)
        exact ⟨_, ⟨false, rfl⟩, ⟨by rw [e2]; rfl, rfl, rfl, rfl, rfl, rfl, rfl, rfl, rfl, rfl, trivial⟩, rfl, .refl _⟩
      · repeat (first | refine RQ ?_ | ((first | refine WL_Q ?_ | refine WL_Y ?_); (first | refine QW_of (Qt_fieldV rfl) ?_ | refine QW_of (Qt_ldX rfl (hn := by with_reducible assumption)) ?_)) | refine RC ?_ | refine WG 27 ?_)
        exact ⟨_, ⟨_, rfl⟩, ⟨rfl, rfl, rfl, rfl, rfl, rfl, rfl, rfl, rfl, rfl, trivial⟩, rfl, .refl _⟩
    rintro _ ⟨tv, rfl⟩
    cases tv
    rotate_left
    · have hlst := hO.ok.last
      repeat (first | refine RQ ?_ | (refine WL_Q ?_; (first | refine QW_of (Qt_fieldV rfl) ?_ | refine QW_of (Qt_ldX rfl (hn := by with_reducible assumption)) ?_)) | (refine RE ?_; try intro _) | refine RC ?_ | refine WG 28 ?_)
      refine WL_op rfl (OW_call rfl (hF := acmd_fn hyo hlst) (hk := ?_))
      rintro _ _ ⟨x, bv, Tb, rfl, rfl, hbv, hxR, hx8, hxl, hxh⟩
      have hsz2 : (cmC x bv).toArray.size = 10 := rfl
      have hall2 := (show CmAt Tb (cmC x bv) x from ⟨bv, rfl, hbv, hxR⟩).all
      have hat : (cmC x bv).toArray[1]? = some (iV x.at_) := rfl
      repeat (first | refine RQ ?_ | (refine WL_Q ?_; (first | refine QW_of (Qt_fieldV rfl) ?_ | refine QW_of (Qt_ldX rfl (hn := by with_reducible assumption)) ?_)) | (refine RE ?_; try intro _) | refine RC ?_ | refine WG 28 ?_ | refine WG 29 ?_)
      rename_i x15
      refine WL_op rfl (OW_permT2 (perm_ch3 ..) (OW_call rfl (hF := step_fn (G := Tb ++ G) (F := (x15, Obj.cells (cmC x bv).toArray 42 (0, 0)) :: (Tb ++ ((x13, Obj.cells (acC y) 64 (0, 0)) :: (x10, Obj.cells (gvC g) 61 (0, 0)) :: (x7, Obj.cells (hbC hb) 58 (0, 0)) :: (T ++ (hmS Ss ++ F))))) (floor := 0) hO.ok (hO.tab.mem fun q hq => List.mem_append_right _ hq) (fun q hq => .tail _ (by
        rcases List.mem_append.1 hq with h | h
        · exact List.mem_append_left _ h
        · exact List.mem_append_right _ (.tail _ (.tail _ (.tail _ (List.mem_append_right _ (List.mem_append_right _ (hO.gf q h)))))))) (hbv.mem fun q hq => List.mem_append_left _ hq) hxR (by omega)) (hk := ?_)))
      rintro _ _ ⟨rfl, S1, X, rfl, hTab1⟩
      refine WL_permT (perm_ch4 ..) ?_
      have hO1 : ChO tb hb L (stepF t x 0) S1 (X ++ (Tb ++ G)) (X ++ (Tb ++ F)) g fl Ss T wv := ⟨stepF_ok hO.ok, One3.step hO.ok hO.one, hTab1, fun q hq => by
        rcases List.mem_append.1 hq with h | h
        · exact List.mem_append_left _ h
        rcases List.mem_append.1 h with h | h
        · exact List.mem_append_right _ (List.mem_append_left _ h)
        · exact List.mem_append_right _ (List.mem_append_right _ (hO.gf q h)), hO.lf.trans ((List.sublist_append_right Tb F).trans (List.sublist_append_right X _)), (hO.ch.step hO.ok).1, by
        rw [(hO.ch.step hO.ok).2]
        exact (hO.hd.step).mem fun q hq => List.mem_append_right _ (List.mem_append_right _ hq), hO.bf⟩
      by_cases htr : tryF t x 0 = 0
      · have e1 : (tryF t x 0 == 0) = true := by simpa using htr
        have hls : lastF (stepF t x 0) = x.at_ := by unfold stepF; rw [if_pos htr, addF_last]
        repeat (first | refine RQ ?_ | (refine WL_Q ?_; (first | refine QW_of (Qt_fieldV rfl) ?_ | refine QW_of (Qt_ldX rfl (hn := by with_reducible assumption)) ?_)) | refine RC ?_ | refine WG 29 ?_ | refine WG 30 ?_)
        exact ⟨_, ⟨_, S1, _, _, g, fl, Ss, T, wv, by rw [hls]; omega, hO1, rfl⟩, ⟨rfl, by rw [hls]; rfl, rfl, rfl, rfl, rfl, rfl, trivial⟩, rfl, .cons _ (.cons _ (.refl _))⟩
      · have e1 : (tryF t x 0 == 0) = false := by simpa using htr
        have hls : lastF (stepF t x 0) = lastF t := by unfold stepF; rw [if_neg htr]
        repeat (first | refine RQ ?_ | (refine WL_Q ?_; (first | refine QW_of (Qt_fieldV rfl) ?_ | refine QW_of (Qt_ldX rfl (hn := by with_reducible assumption)) ?_)) | refine RC ?_ | refine WG 29 ?_)
        exact ⟨_, ⟨_, S1, _, _, g, fl, Ss, T, wv, by rw [hls]; omega, hO1, rfl⟩, ⟨rfl, by rw [hls]; rfl, rfl, rfl, rfl, rfl, rfl, trivial⟩, rfl, .cons _ (.cons _ (.refl _))⟩
    cases e2 : (y.what.tmod 2 == 0)
    · obtain ⟨aw, cw, rfl, hcw, hcm⟩ := id hO.bf.val
      by_cases hf0 : fl = []
      · have e3 : (((fl.length : Nat) : Int) == 0) = true := by rw [hf0]; rfl
        repeat (first | refine RQ ?_ | (refine WL_Q ?_; (first | refine QW_of (Qt_fieldV rfl) ?_ | refine QW_of (Qt_ldX rfl (hn := by with_reducible assumption)) ?_)) | refine RC ?_ | refine WG 31 ?_ | refine WG 21 ?_)
        exact ⟨_, ⟨t, S, G, F, g, fl, Ss, T, _, by omega, hO, rfl⟩, ⟨rfl, rfl, rfl, rfl, rfl, rfl, rfl, trivial⟩, rfl, .cons _ (.refl _)⟩
      have hfp : 0 < fl.length := List.length_pos_iff.2 hf0
      have e3 : (((fl.length : Nat) : Int) == 0) = false := by rw [beq_eq_false_iff_ne]; omega
      have hne2 : ((fl.length : Nat) : Int) ≠ 0 := by omega
      obtain ⟨k, hk, hkl⟩ : ∃ k : Nat, (IntKind.i64.wrap y.more).tmod ((fl.length : Nat) : Int) = (k : Int) ∧ k < fl.length := by
        have h1 := hyo.m
        rw [wI64 (by omega) (by omega), Int.tmod_eq_emod_of_nonneg h1.1]
        have h2 := Int.emod_nonneg y.more hne2
        have h3 := Int.emod_lt_of_pos y.more (b := ((fl.length : Nat) : Int)) (by omega)
        exact ⟨(y.more % ((fl.length : Nat) : Int)).toNat, by omega, by omega⟩
      repeat (first | refine RQ ?_ | (refine WL_Q ?_; (first | refine QW_of (Qt_fieldV rfl) ?_ | refine QW_of (Qt_ldX rfl (hn := by with_reducible assumption)) ?_)) | refine RC ?_ | refine WG 31 ?_ | refine WG 21 ?_ | refine WG 22 ?_)
      rw [hk]
      obtain ⟨f, hf⟩ : ∃ f, fl[k]? = some f := ⟨_, List.getElem?_eq_getElem hkl⟩
      have hbf := hO.bf
      obtain ⟨gT, oT, cT, cuT, ev, rfl, ho⟩ : ∃ (gT oT cT : Nat) (cuT : Array Value), (Value.slice aw fl.length cw) = .slice (some ⟨gT, oT, none⟩) fl.length cT ∧ T = [(gT, .cells cuT 78 (0, 0))] ∧ Own 3 cuT oT cT fl.length (wyL fl) := by
        rcases hbf with ⟨_, h, _⟩ | ⟨g1, f1, c1, cu1, h1, h2, h3⟩
        · omega
        · exact ⟨g1, f1, c1, cu1, h1, h2, h3⟩
      cases ev
      obtain ⟨v3, y3⟩ := wyL_ext (off := oT) (cs := cuT) (fun j x hx => ho.at_ j x hx) hf
      have y3 : oT + ((k : Nat) : Int).toNat * 3 + 3 ≤ cuT.size := by rw [Int.toNat_natCast]; exact y3
      have v3 : cuT.extract (oT + ((k : Nat) : Int).toNat * 3) (oT + ((k : Nat) : Int).toNat * 3 + 3) = #[iV f.1.1, iV f.1.2, iV f.2] := by rw [Int.toNat_natCast]; exact v3
      have q0 : (0 : Int) ≤ ((k : Nat) : Int) := by omega
      have q1 : ((k : Nat) : Int) < ((fl.length : Nat) : Int) := by omega
      refine WG 23 ?_
      iterate 4 (refine RQ ?_)
      rw [v3]
      repeat (first | refine RQ ?_ | (refine WL_Q ?_; (first | refine QW_of (Qt_fieldV rfl) ?_ | refine QW_of (Qt_ldX rfl (hn := by with_reducible assumption)) ?_)) | (refine RE ?_; try intro _) | refine RC ?_ | refine WG 23 ?_)
      rename_i x19
      obtain ⟨hw2, xo, hxo, hxk, hx0, hxm⟩ := hO.ch.fly_own hO.one (List.mem_of_getElem? hf)
      have ghb := hbC_at (hb := hb) hw2
      have u0 : (0 : Int) ≤ f.2 := by omega
      have u1 : f.2 < ((4 : Nat) : Int) := by omega
      have w1' : IntKind.i64.wrap (((k : Nat) : Int) + 1) = ((k + 1 : Nat) : Int) := by
        have hm := ho.max
        have hle := ho.le
        simp only [maxLen] at hm
        rw [wI64 (by omega) (by omega)]; omega
      clear v3 y3
      refine WC_draw_sub (id := 24) 8 (Cs [0,1,2,3,4,5] <| .must 6 <| .calm 7 <| .done) mixed (by kernel_rfl) (.cons_cons _ (.cons_cons _ (.cons_cons _ (.cons_cons _ (List.nil_sublist _))))) ?_
      iterate 5 (refine RQr ?_)
      refine WR_Q rfl (QW_of (Qt_ldN rfl (hn := Nat.le_of_ble_eq_true rfl)) ?_)
      have e19 : (#[iV f.1.1, iV f.1.2, iV f.2] : Array Value).extract 0 (0 + 2) = #[iV f.1.1, iV f.1.2] := rfl
      rw [e19]
      obtain ⟨R, hR⟩ : ∃ R, R = [(x19, Obj.cells #[iV f.1.1, iV f.1.2, iV f.2] 78 (0, 0)), (x13, Obj.cells (acC y) 64 (0, 0)), (x10, Obj.cells (gvC g) 61 (0, 0)), (x7, Obj.cells (hbC hb) 58 (0, 0)), (gT, Obj.cells cuT 78 (0, 0))] := ⟨_, rfl⟩
      have hgot := gGot_fn (F := R ++ (S ++ F)) hO.ok (hO.tin fun q hq => List.mem_append_right _ hq) (fun q hq => List.mem_append_right _ (List.mem_append_right _ (hO.gf q hq))) hO.hd hw2 hxo hx0 hxm
      rw [hxk] at hgot
      obtain ⟨hC1, he1⟩ := hO.ch.got_eq hf
      refine WR_op rfl rfl (OW_permT2 (L' := hmS Ss ++ (R ++ (S ++ F))) (by rw [hR]; exact List.perm_append_comm_assoc ..) (OW_call rfl (hF := hgot) (hk := ?_)))
      rintro _ _ ⟨Ss1, X1, rfl, hH1, rfl⟩
      rw [he1] at hH1
      refine ⟨fun q hq => List.mem_append_right _ (List.mem_append_right _ (List.mem_append_left _ (by
        rw [hR]
        simp only [List.mem_cons, List.not_mem_nil, or_false] at hq ⊢
        rcases hq with rfl | rfl | rfl | rfl
        · exact .inl rfl
        · exact .inr (.inl rfl)
        · exact .inr (.inr (.inl rfl))
        · exact .inr (.inr (.inr (.inl rfl)))))), ?_⟩
      repeat (first | refine RQr ?_ | (refine RX ?_; (first | refine QW_of (Qt_fieldV rfl) ?_ | refine QW_of (Qt_ldX rfl (hn := by with_reducible assumption)) ?_)) | refine RC ?_ | refine RU ?_ | refine WC_draw_all (id := 24) 8 (Cs [0,1,2,3,4,5] <| .must 6 <| .calm 7 <| .done) mixed (by kernel_rfl) ?_)
      refine WC_permT (L' := R ++ (hmS Ss1 ++ (S ++ (X1 ++ F)))) (perm_ch5 ..) ?_
      rw [hR]
      simp only [List.cons_append, List.nil_append]
      obtain ⟨cut1, cut2, cut3⟩ := BufY.cut hbf hkl
      have r4 : ((k : Nat) : Int) ≤ ((cw : Nat) : Int) := by omega
      have r5 : (0 : Int) ≤ IntKind.i64.wrap (((k : Nat) : Int) + 1) := by rw [w1']; omega
      have r6 : IntKind.i64.wrap (((k : Nat) : Int) + 1) ≤ ((fl.length : Nat) : Int) := by rw [w1']; omega
      have hO1 : ∀ (T' : List (Nat × Obj)) (wv' : Value), BufY wv' T' (fl.eraseIdx k) → ChO tb hb L t S (X1 ++ G) (X1 ++ F) g (fl.eraseIdx k) Ss1 T' wv' := fun T' wv' hb' => ⟨hO.ok, hO.one, hO.tab.mem fun q hq => List.mem_append_right _ hq, fun q hq => by
        rcases List.mem_append.1 hq with h | h
        · exact List.mem_append_left _ h
        · exact List.mem_append_right _ (hO.gf q h), hO.lf.trans (List.sublist_append_right _ _), hC1, hH1, hb'⟩
      have her : fl.eraseIdx k = fl.take k ++ fl.drop (k + 1) := List.eraseIdx_eq_take_drop_succ ..
      have elk : (fl.take k).length = k := by rw [List.length_take]; omega
      have edk : (fl.drop (k + 1)).length = fl.length - (k + 1) := by rw [List.length_drop]
      have hfl8 := hO.ch.few
      repeat (first | refine RQr ?_ | (refine RX ?_; (first | refine QW_of (Qt_fieldV rfl) ?_ | refine QW_of (Qt_ldX rfl (hn := by with_reducible assumption)) ?_)) | refine RC ?_ | refine RU ?_ | refine WC_draw_all (id := 26) 10 (Cs [0,1,2,3,4,5,6,7] <| .must 8 <| .calm 9 <| .done) mixed (by kernel_rfl) ?_)
      rw [w1', Int.toNat_natCast, Int.toNat_natCast]
      by_cases hlast : fl.length - (k + 1) = 0
      · have hdn : fl.drop (k + 1) = [] := List.drop_eq_nil_of_le (by omega)
        rw [hlast, hdn] at cut3
        rw [hlast]
        refine WR_op rfl rfl (OW_append_nothing rfl rfl rfl rfl rfl (Nat.le_refl _) (srcVec (cut3 _ 4 rfl) (fun u hu => by cases hu)) ?_)
        refine ⟨fun _ h => h, ?_⟩
        repeat (first | refine RQr ?_ | (refine RX ?_; (first | refine QW_of (Qt_fieldV rfl) ?_ | refine QW_of (Qt_ldX rfl (hn := by with_reducible assumption)) ?_)) | refine RC ?_ | refine RU ?_ | refine WC_draw_all (id := 26) 10 (Cs [0,1,2,3,4,5,6,7] <| .must 8 <| .calm 9 <| .done) mixed (by kernel_rfl) ?_)
        exact ⟨_, ⟨t, S, X1 ++ G, X1 ++ F, g, fl.eraseIdx k, Ss1, [(gT, Obj.cells cuT 78 (0, 0))], _, by omega, hO1 _ (.slice (some ⟨gT, oT, none⟩) k k) (by
          rw [her, hdn, List.append_nil]
          show Buf 78 3 _ _ (fl.take k).length (wyL (fl.take k))
          rw [elk]
          exact .inr ⟨_, _, _, _, rfl, rfl, cut1⟩), rfl⟩, ⟨rfl, rfl, rfl, rfl, rfl, rfl, rfl, trivial⟩, rfl, .cons _ (.cons _ (.refl _))⟩
      · refine WR_op rfl rfl (OW.permL (OW_append_new rfl rfl rfl rfl rfl (cut2 _ 4 rfl) (srcVec (cut3 _ 4 rfl) (wyL_one _)) (by omega) (by simp only [maxLen]; omega) (by omega) ?_))
        intro b cap' cur' ho'
        refine ⟨(x19, Obj.cells #[iV f.1.1, iV f.1.2, iV f.2] 78 (0, 0)) :: (x13, Obj.cells (acC y) 64 (0, 0)) :: (x10, Obj.cells (gvC g) 61 (0, 0)) :: (x7, Obj.cells (hbC hb) 58 (0, 0)) :: (b, Obj.cells cur' 78 (0, 0)) :: (gT, Obj.cells cuT 78 (0, 0)) :: (hmS Ss1 ++ (S ++ (X1 ++ F))), perm_ch6 .., sub_mem (.cons_cons _ (.cons_cons _ (.cons_cons _ (.cons_cons _ (.cons _ (.refl _)))))), ?_⟩
        repeat (first | refine RQr ?_ | (refine RX ?_; (first | refine QW_of (Qt_fieldV rfl) ?_ | refine QW_of (Qt_ldX rfl (hn := by with_reducible assumption)) ?_)) | refine RC ?_ | refine RU ?_ | refine WC_draw_all (id := 26) 10 (Cs [0,1,2,3,4,5,6,7] <| .must 8 <| .calm 9 <| .done) mixed (by kernel_rfl) ?_)
        have hb' : BufY (.slice (some ⟨b, 0, none⟩) (k + (fl.length - (k + 1))) cap') [(b, Obj.cells cur' 78 (0, 0))] (fl.eraseIdx k) := by
          rw [her]
          show Buf 78 3 _ _ (fl.take k ++ fl.drop (k + 1)).length (wyL (fl.take k ++ fl.drop (k + 1)))
          rw [List.length_append, elk, edk, wyL_app]
          exact .inr ⟨_, _, _, _, rfl, rfl, ho'⟩
        exact ⟨_, ⟨t, S, X1 ++ G, X1 ++ F, g, fl.eraseIdx k, Ss1, [(b, Obj.cells cur' 78 (0, 0))], _, by omega, hO1 _ _ hb', rfl⟩, ⟨rfl, rfl, rfl, rfl, rfl, rfl, rfl, trivial⟩, rfl, .cons _ (.cons _ (.cons_cons _ (.cons_cons _ (.cons_cons _ (.cons _ (.refl _))))))⟩
    · have ghb := hbC_at (hb := hb) hw
      have u0 : (0 : Int) ≤ w := by omega
      have u1 : w < ((4 : Nat) : Int) := by omega
      repeat (first | refine RQ ?_ | (refine WL_Q ?_; (first | refine QW_of (Qt_fieldV rfl) ?_ | refine QW_of (Qt_ldX rfl (hn := by with_reducible assumption)) ?_)) | refine RC ?_ | refine WG 31 ?_ | refine WG 32 ?_)
      obtain ⟨R, hR⟩ : ∃ R, R = (x13, Obj.cells (acC y) 64 (0, 0)) :: (x10, Obj.cells (gvC g) 61 (0, 0)) :: (x7, Obj.cells (hbC hb) 58 (0, 0)) :: T := ⟨_, rfl⟩
      refine WL_op rfl (OW_permT2 (L' := hmS Ss ++ (R ++ (S ++ F))) (by rw [hR]; exact List.perm_append_comm_assoc ..) (OW_call rfl (hF := gReady_fn (F := R ++ (S ++ F)) hO.ok (hO.tin fun q hq => List.mem_append_right _ hq) (fun q hq => List.mem_append_right _ (List.mem_append_right _ (hO.gf q hq))) hO.hd hw) (hk := ?_)))
      rintro _ _ ⟨Ss1, X1, rfl, hH1, hv1⟩
      refine WL_permT (L' := R ++ (hmS Ss1 ++ (S ++ (X1 ++ F)))) (perm_ch5 ..) ?_
      rw [hR]
      simp only [List.cons_append]
      have hO1 : ChO tb hb L t S (X1 ++ G) (X1 ++ F) g fl Ss1 T wv := ⟨hO.ok, hO.one, hO.tab.mem fun q hq => List.mem_append_right _ hq, fun q hq => by
        rcases List.mem_append.1 hq with h | h
        · exact List.mem_append_left _ h
        · exact List.mem_append_right _ (hO.gf q h), hO.lf.trans (List.sublist_append_right _ _), hO.ch, hH1, hO.bf⟩
      clear hR R
      obtain ⟨rd, hrde⟩ : ∃ rd, rd = rdyL t (chS t g fl w) w (lastF t) := ⟨_, rfl⟩
      rw [← hrde] at hv1
      obtain ⟨_, ar, cr, rfl, _, _, _⟩ := id hv1
      by_cases hrn : rd = []
      · have e3 : (((rd.length : Nat) : Int) == 0) = true := by rw [hrn]; rfl
        repeat (first | refine RQ ?_ | (refine WL_Q ?_; (first | refine QW_of (Qt_fieldV rfl) ?_ | refine QW_of (Qt_ldX rfl (hn := by with_reducible assumption)) ?_)) | refine RC ?_ | refine WG 32 ?_ | refine WG 33 ?_)
        exact ⟨_, ⟨t, S, _, _, g, fl, Ss1, T, wv, by omega, hO1, rfl⟩, ⟨rfl, rfl, rfl, rfl, rfl, rfl, rfl, trivial⟩, rfl, .cons _ (.refl _)⟩
      have hrp : 0 < rd.length := List.length_pos_iff.2 hrn
      have e3 : (((rd.length : Nat) : Int) == 0) = false := by rw [beq_eq_false_iff_ne]; omega
      have hne2 : ((rd.length : Nat) : Int) ≠ 0 := by omega
      obtain ⟨k, hk, hkl⟩ : ∃ k : Nat, (IntKind.i64.wrap y.more).tmod ((rd.length : Nat) : Int) = (k : Int) ∧ k < rd.length := by
        have h1 := hyo.m
        rw [wI64 (by omega) (by omega), Int.tmod_eq_emod_of_nonneg h1.1]
        have h2 := Int.emod_nonneg y.more hne2
        have h3 := Int.emod_lt_of_pos y.more (b := ((rd.length : Nat) : Int)) (by omega)
        exact ⟨(y.more % ((rd.length : Nat) : Int)).toNat, by omega, by omega⟩
      obtain ⟨x, hx⟩ : ∃ x, rd[k]? = some x := ⟨_, List.getElem?_eq_getElem hkl⟩
      obtain ⟨b, q, q', hb8, hq, hq', hqw, hno, hxe, hxo, hxw, hxg, hneq, hq13⟩ := rdy_own hO.ch hO.ok hO.one (show x ∈ rdyL t (chS t g fl w) w (lastF t) by rw [← hrde]; exact List.mem_of_getElem? hx)
      obtain ⟨b1, f1, _, c1, E1, fr1, i1, e, _, _, hi1, hx1⟩ := (hv1.mem (G' := (x13, Obj.cells (acC y) 64 (0, 0)) :: chM x10 x7 hb S (X1 ++ F) g Ss1 T) fun z hz => .tail _ (.tail _ (.tail _ (List.mem_append_right _ (List.mem_append_right _ (List.mem_append_right _ (List.mem_append_left _ hz))))))).cell (by omega)
      cases e
      obtain ⟨v1, y1⟩ := gvL_ext hx1 hx
      have hn : x.nx = some q' := by rw [hxe]
      rw [hn] at v1
      have v2 : c1.extract (f1 + (((k : Nat) : Int)).toNat * 4) (f1 + (((k : Nat) : Int)).toNat * 4 + 4) = #[iV (b : Int), iV (g b : Int), iV q'.2, iV q'.1] := by rw [Int.toNat_natCast, v1, hxe]; rfl
      have y2 : f1 + (((k : Nat) : Int)).toNat * 4 + 4 ≤ c1.size := by rw [Int.toNat_natCast]; exact y1
      have z0 : (0 : Int) ≤ ((k : Nat) : Int) := by omega
      have z1 : ((k : Nat) : Int) < ((rd.length : Nat) : Int) := by omega
      repeat (first | refine RQ ?_ | (refine WL_Q ?_; (first | refine QW_of (Qt_fieldV rfl) ?_ | refine QW_of (Qt_ldX rfl (hn := by with_reducible assumption)) ?_)) | refine RC ?_ | refine WG 32 ?_ | refine WG 33 ?_)
      repeat (first | refine WC_seq ?_ | refine WG 34 ?_)
      iterate 7 (refine RQ ?_)
      rw [hk]
      iterate 2 (refine RQ ?_)
      rw [v2]
      repeat (first | refine RQ ?_ | (refine WL_Q ?_; (first | refine QW_of (Qt_fieldV rfl) ?_ | refine QW_of (Qt_ldX rfl (hn := by with_reducible assumption)) ?_)) | (refine RE ?_; try intro _) | refine RC ?_ | refine WG 34 ?_)
      rename_i x17
      clear v1 v2 y1 y2 hx1 hi1 hv1 z0 z1
      refine WC_wk [(17, .pointer (some ⟨x17, 0, none⟩)), (14, iV w), (12, iV (i : Int)), (11, iV (lastF t)), (10, .pointer (some ⟨x10, 0, none⟩)), (9, wv), (7, .pointer (some ⟨x7, 0, none⟩)), (5, .pointer (some ⟨tb, 0, none⟩)), (1, .slice (some ⟨qb, off, none⟩) l.length cal)] ⟨rfl, rfl, rfl, rfl, rfl, rfl, rfl, rfl, rfl, trivial⟩ ?_
      have hgb : g b ≤ 100 := by
        have h1 := hO.ch.lt b hb8
        have h2 := hO.ok.short (rowT t b) (List.mem_of_getElem? (hO.ok.rowT hb8).2)
        have h3 := hO.ok.few
        omega
      have hrow := (List.getElem?_eq_some_iff.1 hq').1
      have hrs := (hO.ok.rowT hb8).2
      obtain ⟨row, hrowe⟩ : ∃ row, row = rowT t b := ⟨_, rfl⟩
      rw [← hrowe] at hrow hrs
      have wq : IntKind.i64.wrap ((g b : Int) + 1) = (g b : Int) + 1 := wI64 (by omega) (by omega)
      have s1 : decide ((b : Int) < 0) = false := decide_eq_false (by omega)
      have s2 : decide ((b : Int) ≥ 8) = false := decide_eq_false (by omega)
      have s3 : decide (q'.2 < 1) = false := decide_eq_false (by omega)
      have s4 : decide (q'.2 > 3) = false := decide_eq_false (by omega)
      have s5 : decide ((g b : Int) < 0) = false := decide_eq_false (by omega)
      have s6 : decide (IntKind.i64.wrap ((g b : Int) + 1) ≥ ((row.length : Nat) : Int)) = false := by rw [wq]; exact decide_eq_false (by omega)
      have s7 : ((g b : Int) != (g b : Int)) = false := bne_self_eq_false _
      have s8 : (q'.2 == w) = false := by rw [beq_eq_false_iff_ne]; exact hneq
      have s9 : (q'.1 != q'.1) = false := bne_self_eq_false _
      have gq := gvC_get (g := g) hb8
      have zq := gvC_len (g := g) hb8
      have r0 : (0 : Int) ≤ (b : Int) := by omega
      have r1 : (b : Int) < ((8 : Nat) : Int) := by omega
      have r2 : (0 : Int) ≤ IntKind.i64.wrap ((g b : Int) + 1) := by rw [wq]; omega
      have r3 : IntKind.i64.wrap ((g b : Int) + 1) < ((row.length : Nat) : Int) := by rw [wq]; omega
      have hsp : ∀ M : List (Nat × Obj), (∀ q ∈ S ++ (X1 ++ F), q ∈ M) → Fn Tryz.prog 25 [.pointer (some ⟨tb, 0, none⟩), iV (b : Int)] M (fun v L' => ∃ T, L' = T ++ M ∧ Buf 76 2 v T row.length (spL row)) := fun M hM => by
        have := spans_fn (b := (b : Int)) (hO1.tin hM) (fun r hr => by have := hO.ok.short r hr; have := hO.ok.few; omega)
        rw [if_pos ⟨by omega, by omega⟩, Int.toNat_natCast, hrs] at this
        exact this
      refine WC_draw_subF (id := 35) 82 (Cs [0,1,2,3,4,5,6,7,8,9,10,11,12,13,14,15,16,17,18,19,20,21,22,23,24,25,26,27,28,29,30,31,32,33,34] <| .must 35 <| Cs [36,37,38,39,40,41,42,43,44,45,46,47,48,49,50,51,52,53,54,55] <| .must 56 <| Cs [57,58,59,60,61,62,63,64,65,66,67,68,69,70,71,73,74,75,76] <| .must 72 <| Cs [77,78,79,80,81] <| .done) mixed (by kernel_rfl) (.cons_cons _ (.cons _ (.cons_cons _ (.cons_cons _ (List.nil_sublist _))))) ?_
      repeat (first | refine RQr ?_ | ((first | refine WL_Q ?_ | refine WL_Y ?_ | refine WR_Q rfl ?_ | refine WR_late rfl rfl rfl (OW_Q ?_) | refine WR_Y rfl ?_); (first | refine QW_of (Qt_fieldV rfl) ?_ | refine QW_of (Qt_ldX rfl (hn := by with_reducible assumption)) ?_)) | refine RC ?_ | refine RU ?_ | refine WC_draw_fast (id := 35) 82 (Cs [0,1,2,3,4,5,6,7,8,9,10,11,12,13,14,15,16,17,18,19,20,21,22,23,24,25,26,27,28,29,30,31,32,33,34] <| .must 35 <| Cs [36,37,38,39,40,41,42,43,44,45,46,47,48,49,50,51,52,53,54,55] <| .must 56 <| Cs [57,58,59,60,61,62,63,64,65,66,67,68,69,70,71,73,74,75,76] <| .must 72 <| Cs [77,78,79,80,81] <| .done) mixed (by kernel_rfl) ?_)
      have hLs : ∀ (M : List (Nat × Obj)), ∀ z ∈ [(x17, Obj.cells #[iV (b : Int), iV (g b : Int), iV q'.2, iV q'.1] 71 (0, 0)), (x10, Obj.cells (gvC g) 61 (0, 0)), (x7, Obj.cells (hbC hb) 58 (0, 0))], z ∈ (x17, Obj.cells #[iV (b : Int), iV (g b : Int), iV q'.2, iV q'.1] 71 (0, 0)) :: (x13, Obj.cells (acC y) 64 (0, 0)) :: (x10, Obj.cells (gvC g) 61 (0, 0)) :: (x7, Obj.cells (hbC hb) 58 (0, 0)) :: M := fun M z hz => by
        simp only [List.mem_cons, List.not_mem_nil, or_false] at hz
        rcases hz with rfl | rfl | rfl
        · exact .head _
        · exact .tail _ (.tail _ (.head _))
        · exact .tail _ (.tail _ (.tail _ (.head _)))
      refine WR_opY rfl (h := OW_call rfl (hF := hsp _ fun q hq => .tail _ (.tail _ (.tail _ (.tail _ (List.mem_append_right _ (List.mem_append_right _ hq)))))) (hk := ?_))
      rintro _ _ ⟨Ts, rfl, hTs⟩
      obtain ⟨as1, cs1, rfl, _, _⟩ := hTs.val
      refine ⟨fun z hz => List.mem_append_right _ (hLs _ z hz), ?_⟩
      iterate 19 (refine RQr ?_)
      refine WR_Y rfl (QW_of (Qt_ldN rfl (hn := Nat.le_of_ble_eq_true rfl)) ?_)
      have e17 : (#[iV (b : Int), iV (g b : Int), iV q'.2, iV q'.1] : Array Value).extract 0 (0 + 2) = #[iV (b : Int), iV (g b : Int)] := rfl
      rw [e17]
      have hkx : x.key = ((b : Int), (g b : Int)) := by rw [hxe]
      obtain ⟨R2, hR2⟩ : ∃ R2, R2 = Ts ++ ((x17, Obj.cells #[iV (b : Int), iV (g b : Int), iV q'.2, iV q'.1] 71 (0, 0)) :: (x13, Obj.cells (acC y) 64 (0, 0)) :: (x10, Obj.cells (gvC g) 61 (0, 0)) :: (x7, Obj.cells (hbC hb) 58 (0, 0)) :: T) := ⟨_, rfl⟩
      have hgave := gGave_fn (F := R2 ++ (S ++ (X1 ++ F))) hO.ok (hO1.tin fun q hq => List.mem_append_right _ hq) (fun q hq => List.mem_append_right _ (List.mem_append_right _ (hO1.gf q hq))) hO1.hd hw hxo hn hxw hxg
      have hge := hO.ch.gave_eq hb8 hq hq' hno
      rw [hqw] at hge
      rw [hkx, hge] at hgave
      refine WR_opY rfl (h := OW_permT2 (L' := hmS Ss1 ++ (R2 ++ (S ++ (X1 ++ F)))) (by rw [hR2]; exact perm_ch7 ..) (OW_call rfl (hF := hgave) (hk := ?_)))
      rintro _ _ ⟨Ss2, X2, rfl, hH2, rfl⟩
      refine ⟨fun z hz => List.mem_append_right _ (List.mem_append_right _ (List.mem_append_left _ (by rw [hR2]; exact List.mem_append_right _ (hLs _ z hz)))), ?_⟩
      iterate 19 (refine RQr ?_)
      refine WR_opYG rfl (h := OW_call rfl (hF := hsp _ fun q hq => List.mem_append_right _ (List.mem_append_right _ (List.mem_append_right _ hq))) (hk := ?_))
      rintro _ _ ⟨Ts2, rfl, hTs2⟩
      obtain ⟨as2, cs2, rfl, _, _⟩ := id hTs2.val
      have h17 : ∀ z ∈ [(x17, Obj.cells #[iV (b : Int), iV (g b : Int), iV q'.2, iV q'.1] 71 (0, 0)), (x10, Obj.cells (gvC g) 61 (0, 0)), (x7, Obj.cells (hbC hb) 58 (0, 0))], z ∈ Ts2 ++ (hmS Ss2 ++ (X2 ++ (R2 ++ (S ++ (X1 ++ F))))) := fun z hz => List.mem_append_right _ (List.mem_append_right _ (List.mem_append_right _ (List.mem_append_left _ (by rw [hR2]; exact List.mem_append_right _ (hLs _ z hz)))))
      refine ⟨h17, ?_⟩
      obtain ⟨b2, f2, _, c2, E2, fr2, i2, e, _, _, hi2', hx2'⟩ := (hTs2.vecM.mem (G' := Ts2 ++ (hmS Ss2 ++ (X2 ++ (R2 ++ (S ++ (X1 ++ F)))))) fun z hz => List.mem_append_left _ hz).cell (by omega)
      cases e
      obtain ⟨i17, hi17⟩ := List.mem_iff_getElem?.1 (h17 _ (.head _))
      have g2 : c2[f2 + (IntKind.i64.wrap ((g b : Int) + 1)).toNat * 2 + 0]? = some (iV q'.1) := by
        rw [wq, show ((g b : Int) + 1).toNat = g b + 1 by omega, Nat.add_zero]
        exact hx2' _ _ (spL_at (by rw [hrowe]; exact hq')).1
      iterate 5 (refine RQr ?_)
      refine RU ?_
      repeat (first | refine RQ ?_ | (refine WL_Q ?_; (first | refine QW_of (Qt_fieldV rfl) ?_ | refine QW_of (Qt_ldX rfl (hn := by with_reducible assumption)) ?_)) | refine RC ?_)
      rw [hR2]
      refine WC_permT (L' := (x17, Obj.cells #[iV (b : Int), iV (g b : Int), iV q'.2, iV q'.1] 71 (0, 0)) :: (x13, Obj.cells (acC y) 64 (0, 0)) :: (x10, Obj.cells (gvC g) 61 (0, 0)) :: (x7, Obj.cells (hbC hb) 58 (0, 0)) :: (T ++ (hmS Ss2 ++ (S ++ ((X2 ++ (X1 ++ (Ts ++ Ts2))) ++ F))))) (perm_ch8 ..) ?_
      repeat (first | refine RQ ?_ | (refine WL_Q ?_; (first | refine QW_of (Qt_fieldV rfl) ?_ | refine QW_of (Qt_ldX rfl (hn := by with_reducible assumption)) ?_)) | (refine RE ?_; try intro _) | refine RC ?_ | refine WG 37 ?_)
      rw [wq, gvC_put hb8]
      repeat (first | refine RQ ?_ | (refine WL_Q ?_; (first | refine QW_of (Qt_fieldV rfl) ?_ | refine QW_of (Qt_ldX rfl (hn := by with_reducible assumption)) ?_)) | (refine RE ?_; try intro _) | refine RC ?_ | refine WG 38 ?_)
      rw [wq]
      rename_i xs
      have hfw := hO.ch.few
      obtain ⟨Y, hY⟩ : ∃ Y, Y = X2 ++ (X1 ++ (Ts ++ Ts2)) := ⟨_, rfl⟩
      rw [← hY]
      refine WL_op rfl (OW_permT2 (L' := [(xs, Obj.cells #[iV (b : Int), iV ((g b : Int) + 1), iV q'.2] 78 (0, 0)), (x17, Obj.cells #[iV (b : Int), iV (g b : Int), iV q'.2, iV q'.1] 71 (0, 0)), (x13, Obj.cells (acC y) 64 (0, 0)), (x10, Obj.cells (gvC (fun x => if x = b then g b + 1 else g x)) 61 (0, 0)), (x7, Obj.cells (hbC hb) 58 (0, 0))] ++ (T ++ (hmS Ss2 ++ (S ++ (Y ++ F))))) (.refl _) (OW_append_buf (T := T) (B := hmS Ss2 ++ (S ++ (Y ++ F))) rfl rfl rfl rfl rfl hO.bf (m := 1) (news := [iV (b : Int), iV ((g b : Int) + 1), iV q'.2]) (srcVec (sz := 3) ⟨rfl, _, _, rfl, Nat.le_refl _, by decide, .inr ⟨_, _, _, _, _, 0, rfl, rfl, fun j x hx => by rw [Nat.zero_add]; simpa using hx⟩⟩ (fun u hu => by simp only [List.mem_cons, List.not_mem_nil, or_false] at hu; rcases hu with rfl | rfl | rfl <;> rfl)) (by decide) (by simp only [maxLen]; omega) (by omega) ?_))
      intro v' T' hb'
      simp only [List.cons_append, List.nil_append]
      repeat (first | refine RQ ?_ | (refine WL_Q ?_; (first | refine QW_of (Qt_fieldV rfl) ?_ | refine QW_of (Qt_ldX rfl (hn := by with_reducible assumption)) ?_)) | (refine RE ?_; try intro _) | refine RC ?_ | refine WG 38 ?_)
      obtain ⟨hC2, _⟩ := hO.ch.gave hb8 hq hq' hno
      have hGY : ∀ z ∈ X2 ++ (X1 ++ G), z ∈ Y ++ G := fun z hz => by
        rw [hY]
        rcases List.mem_append.1 hz with h | h
        · exact List.mem_append_left _ (List.mem_append_left _ h)
        rcases List.mem_append.1 h with h | h
        · exact List.mem_append_left _ (List.mem_append_right _ (List.mem_append_left _ h))
        · exact List.mem_append_right _ h
      have hbf2 : BufY v' T' (fl ++ [(((b : Int), ((g b + 1 : Nat) : Int)), q'.2)]) := by
        show Buf 78 3 _ _ (fl ++ [(((b : Int), ((g b + 1 : Nat) : Int)), q'.2)]).length (wyL (fl ++ [(((b : Int), ((g b + 1 : Nat) : Int)), q'.2)]))
        rw [List.length_append, wyL_app]
        exact hb'
      exact ⟨_, ⟨t, S, Y ++ G, Y ++ F, _, _, Ss2, T', v', by omega, ⟨hO.ok, hO.one, hO.tab.mem fun q hq => List.mem_append_right _ hq, fun q hq => by
        rcases List.mem_append.1 hq with h | h
        · exact List.mem_append_left _ h
        · exact List.mem_append_right _ (hO.gf q h), hO.lf.trans (List.sublist_append_right _ _), hC2, hH2.mem hGY, hbf2⟩, rfl⟩, ⟨rfl, rfl, rfl, rfl, rfl, rfl, rfl, trivial⟩, rfl, .cons _ (.cons _ (.cons _ (.refl _)))⟩
  · clear hO hla hgz hga
    rintro _ ⟨t, S, G, F, g, fl, Ss, T, wv, hla, hO, rfl⟩
    have hgz : (gvC g).size = 8 := wnC_size rfl
    repeat (first | refine RQ ?_ | (refine WL_Q ?_; (first | refine QW_of (Qt_fieldV rfl) ?_ | refine QW_of (Qt_ldX rfl (hn := by with_reducible assumption)) ?_)) | refine RC ?_ | refine WG 39 ?_)
    obtain ⟨R, hR⟩ : ∃ R, R = (x10, Obj.cells (gvC g) 61 (0, 0)) :: (x7, Obj.cells (hbC hb) 58 (0, 0)) :: T := ⟨_, rfl⟩
    refine WL_op rfl (OW_permT2 (L' := hmS Ss ++ (R ++ (S ++ F))) (by rw [hR]; exact List.perm_append_comm_assoc ..) (OW_call rfl (hF := single_fn (F := R ++ (S ++ F)) hO.ok (hO.tin fun q hq => List.mem_append_right _ hq) (fun q hq => List.mem_append_right _ (List.mem_append_right _ (hO.gf q hq))) hO.hd hO.ch hO.one (hO.bf.vecM.mem fun q hq => by rw [hR]; exact .tail _ (.tail _ (List.mem_append_left _ hq)))) (hk := ?_)))
    rintro _ _ ⟨rfl, Ss1, X1, rfl, hH1⟩
    refine WL_permT (L' := R ++ (hmS Ss1 ++ (S ++ (X1 ++ F)))) (perm_ch5 ..) ?_
    rw [hR]
    simp only [List.cons_append]
    repeat (first | refine RQ ?_ | (refine WL_Q ?_; (first | refine QW_of (Qt_fieldV rfl) ?_ | refine QW_of (Qt_ldX rfl (hn := by with_reducible assumption)) ?_)) | refine RC ?_ | refine WG 39 ?_ | refine WG 18 ?_)
    rw [wi]
    exact ⟨_, _, by omega, ⟨i + 1, t, S, X1 ++ G, X1 ++ F, g, fl, Ss1, T, wv, rfl, by omega, by omega, hla, ⟨hO.ok, hO.one, hO.tab.mem fun q hq => List.mem_append_right _ hq, fun q hq => by
      rcases List.mem_append.1 hq with h | h
      · exact List.mem_append_left _ h
      · exact List.mem_append_right _ (hO.gf q h), hO.lf.trans (List.sublist_append_right _ _), hO.ch, hH1, hO.bf⟩, rfl⟩, ⟨rfl, rfl, rfl, rfl, rfl, rfl, rfl, trivial⟩, rfl, .refl _⟩
end Go.Proofs.YtncgndcepoicbaaGreat
