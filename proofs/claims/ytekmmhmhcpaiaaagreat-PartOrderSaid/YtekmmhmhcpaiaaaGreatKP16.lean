/-
  A part of what the last of these texts needs; by itself it proves no statement.
-/
import Derived.Test.YtekmmhmhcpaiaaaGreatKP15
namespace Go.Proofs.YtekmmhmhcpaiaaaGreat
open Go.RowKit
theorem WS_late {c : Cx} {ops : Array Oper} {K : Exit → St → Prop} {Ls L0 : List (Nat × Obj)} {m i : Nat} {ms : List Nat} {fr : Bool} {p : Plan} {σ : St} {o : Oper} (ho : ops[i]? = some o) (hm : Nat.ble m i = true) (hg : o.guard = none) (h : OW c o (fun σ' => WS c ops K Ls L0 m ms false p σ') K σ) : WS c ops K Ls L0 m ms fr (.must i p) σ :=
  ⟨o, ho, .inl ⟨.inl hg, h.mono fun _ h' => ⟨fun hlt => by have := Nat.le_of_ble_eq_true hm; omega, h'⟩⟩⟩
def SpIn (G : List (Nat × Obj)) (sv : Nat → Value) (sp : List (List (Int × Int))) : Prop := sp.length = 8 ∧ ∀ b, b < 8 → ∃ row, sp[b]? = some row ∧ row ≠ [] ∧ VecM 2 G (sv b) row.length (spL row)
theorem SpIn.mem {G G' : List (Nat × Obj)} {sv : Nat → Value} {sp : List (List (Int × Int))} (h : SpIn G sv sp) (hs : ∀ q ∈ G, q ∈ G') : SpIn G' sv sp := ⟨h.1, fun b hb => by
  obtain ⟨row, h1, h2, h3⟩ := h.2 b hb
  exact ⟨row, h1, h2, h3.mem hs⟩⟩
theorem turnsF_len (n : Nat) (to : List Int) (h : to ≠ []) : (turnsF n to).length = n := by rw [turnsF, if_neg h, turnsL_len]
theorem turnsF_get {n k : Nat} {to : List Int} (h : to ≠ []) (hk : k < n) : (turnsF n to)[k]? = some ((to[k % to.length]?).getD 0) := by
  rw [turnsF, if_neg h, turnsL, List.getElem?_map, List.getElem?_range hk]; rfl
theorem TabC.setS {cs : Array Value} {wk : CfV} {cv av nv rv : Value} {sv : Nat → Value} (h : TabC cs wk cv sv av nv rv) {b : Nat} (hb : b < 8) {v : Value} (h1 : v.oneCell' = true) : TabC (cs.setIfInBounds (10 + b * 1) v) wk cv (fun z => if z = b then v else sv z) av nv rv where
  z := by rw [Array.size_setIfInBounds]; exact h.z
  one := by
    rw [List.all_eq_true]
    intro x hx
    rw [Array.toList_setIfInBounds] at hx
    rcases List.mem_or_eq_of_mem_set hx with h2 | rfl
    · exact List.all_eq_true.1 h.one x h2
    · exact h1
  w := by rw [Array.getElem?_setIfInBounds_ne (by omega)]; exact h.w
  g5 := by rw [Array.getElem?_setIfInBounds_ne (by omega)]; exact h.g5
  g6 := by rw [Array.getElem?_setIfInBounds_ne (by omega)]; exact h.g6
  g7 := by rw [Array.getElem?_setIfInBounds_ne (by omega)]; exact h.g7
  g8 := by rw [Array.getElem?_setIfInBounds_ne (by omega)]; exact h.g8
  c := by rw [Array.getElem?_setIfInBounds_ne (by omega)]; exact h.c
  s := fun b' hb' => by
    by_cases e : b' = b
    · subst e; rw [Nat.mul_one, Array.getElem?_setIfInBounds_self_of_lt (by rw [h.z]; omega), if_pos rfl]
    · rw [Array.getElem?_setIfInBounds_ne (by omega), if_neg e]; exact h.s b' hb'
  a := by rw [Array.getElem?_setIfInBounds_ne (by omega)]; exact h.a
  n := by rw [Array.getElem?_setIfInBounds_ne (by omega)]; exact h.n
  r := by rw [Array.getElem?_setIfInBounds_ne (by omega)]; exact h.r
theorem SpIn.set {G : List (Nat × Obj)} {sv : Nat → Value} {sp : List (List (Int × Int))} (h : SpIn G sv sp) {b : Nat} {v : Value} {row : List (Int × Int)} (hb : b < 8) (hne : row ≠ []) (hv : VecM 2 G v row.length (spL row)) : SpIn G (fun z => if z = b then v else sv z) (sp.set b row) := by
  refine ⟨by rw [List.length_set]; exact h.1, fun b' hb' => ?_⟩
  by_cases e : b' = b
  · subst e
    exact ⟨row, by rw [List.getElem?_set_self (by rw [h.1]; exact hb)], hne, by dsimp only; rw [if_pos rfl]; exact hv⟩
  · obtain ⟨r, h1, h2, h3⟩ := h.2 b' hb'
    exact ⟨r, by rw [List.getElem?_set_ne (Ne.symm e)]; exact h1, h2, by dsimp only; rw [if_neg e]; exact h3⟩
theorem Own.vecG {sz : Nat} {cur : Array Value} {off cap n : Nat} {xs : List Value} (h : Own sz cur off cap n xs) {G : List (Nat × Obj)} {b E : Nat} (hm : (b, Obj.cells cur E (0, 0)) ∈ G) : VecM sz G (.slice (some ⟨b, off, none⟩) n cap) n xs :=
  ⟨h.len, _, cap, rfl, h.le, h.max, .inr ⟨b, off, cur, E, (0, 0), rfl, hm, h.at_⟩⟩
theorem spL_snoc (row : List (Int × Int)) (q : Int × Int) : spL (row ++ [q]) = spL row ++ [iV q.1, iV q.2] := by simp [spL]
attribute [local irreducible] Fn WC WL WR OW Qt YieldFn QW FnP FnD FnE
set_option maxHeartbeats 4000000 in
theorem give_fn {tb : Nat} {cs0 : Array Value} {wk : CfV} {at_ : Int} {cv av nv rv : Value} {sv0 : Nat → Value} {sp0 : List (List (Int × Int))} {bins to : List Int} {bv tv : Value} {F G : List (Nat × Obj)} (hC0 : TabC cs0 wk cv sv0 av nv rv) (hG : ∀ q ∈ G, q ∈ F) (hS0 : SpIn G sv0 sp0)
    (hR0 : ∀ row ∈ sp0, row.length + bins.length ≤ 1000000) (hbn : ∀ b ∈ bins, 0 ≤ b ∧ b < 8) (hbl : bins.length ≤ 1000) (hbv : VecM 1 F bv bins.length (bins.map iV)) (htv : VecM 1 F tv to.length (to.map iV)) :
    Fn Tryz.prog 39 [.pointer (some ⟨tb, 0, none⟩), iV at_, bv, tv] ((tb, .cells cs0 107 (0, 0)) :: F) (fun v L' => v = .tuple #[] ∧ ∃ cs sv X, L' = (tb, .cells cs 107 (0, 0)) :: (X ++ F) ∧ TabC cs wk cv sv av nv rv ∧ SpIn (X ++ G) sv (giveF sp0 at_ bins to)) := by
  refine Fn_enter Tryz.func39 rfl Tryz.ntmps39 rfl fun g => ?_
  repeat (first | refine RQ ?_ | (refine WL_op rfl ?_; (first | (refine OW_call rfl (hF := Turns_fn hbl (hbv.vec fun _ h => .tail _ h) (htv.mem fun _ h => .tail _ h)) (hk := ?_); rintro _ _ ⟨T, hT, rfl⟩))) | refine RC ?_ | refine WG 0 ?_)
  obtain ⟨ag, capg, rfl, _, hmg⟩ := hT.val
  repeat (first | refine RQ ?_ | (refine WL_op rfl ?_; (first | (refine OW_call rfl (hF := Turns_fn hbl (hbv.vec fun _ h => .tail _ h) (htv.mem fun _ h => .tail _ h)) (hk := ?_); rintro _ _ ⟨T, hT, rfl⟩))) | refine RC ?_ | refine WG 0 ?_)
  refine WC_permT (L' := (tb, .cells cs0 107 (0, 0)) :: (T ++ F)) List.perm_middle.symm ?_
  obtain ⟨N, hN⟩ : ∃ N, N = (turnsF bins.length to).length := ⟨_, rfl⟩
  rw [← hN]
  have hNt : N ≠ 0 → to ≠ [] := by rintro h rfl; exact h hN
  have hNb : to ≠ [] → N = bins.length := fun h => hN.trans (turnsF_len _ _ h)
  have hTv := hT.vecM
  rw [← hN] at hTv
  refine WC_wk [(15, .int .i64 ((0 : Nat) : Int)), (14, .int .i64 (N : Nat)), (13, .slice ag N capg), (0, .pointer (some ⟨tb, 0, none⟩)), (1, iV at_), (2, bv)] ⟨rfl, rfl, rfl, rfl, rfl, rfl, trivial⟩ ?_
  refine WC_loop (fun m σ => ∃ (k : Nat) (cs : Array Value) (sv : Nat → Value) (sp : List (List (Int × Int))) (X : List (Nat × Obj)), m = N - k ∧ k ≤ N ∧ TabC cs wk cv sv av nv rv ∧ SpIn (X ++ G) sv sp ∧ (∀ row ∈ sp, row.length + (bins.length - k) ≤ 1000000)
    ∧ giveF sp0 at_ bins to = (if to = [] then sp else giveK at_ to k (bins.drop k) sp)
    ∧ σ = ⟨[(15, .int .i64 (k : Nat)), (14, .int .i64 (N : Nat)), (13, .slice ag N capg), (0, .pointer (some ⟨tb, 0, none⟩)), (1, iV at_), (2, bv)], [], (tb, .cells cs 107 (0, 0)) :: (X ++ (T ++ F))⟩) N
    ⟨0, cs0, sv0, sp0, [], rfl, Nat.zero_le _, hC0, hS0, hR0, rfl, rfl⟩ ?_
  rintro m σ ⟨k, cs, sv, sp, X, rfl, hk, hC, hS, hR, hg, rfl⟩
  by_cases hlt : k < N
  rotate_left
  · have d1 : decide ((k : Int) < ((N : Nat) : Int)) = false := decide_eq_false (by omega)
    repeat (first | refine RQ ?_ | refine RC ?_ | refine WG 1 ?_)
    refine ⟨rfl, _, _, Res0 rfl, .refl _, rfl, cs, sv, X ++ T, by simp, hC, ?_⟩
    have e : giveF sp0 at_ bins to = sp := by
      rw [hg]
      by_cases hz : to = []
      · rw [if_pos hz]
      · rw [if_neg hz, List.drop_eq_nil_of_le (by have := hNb hz; omega)]; rfl
    rw [e]
    exact hS.mem fun q hq => by
      rcases List.mem_append.1 hq with h | h
      · exact List.mem_append_left _ (List.mem_append_left _ h)
      · exact List.mem_append_right _ h
  have hto : to ≠ [] := hNt (by omega)
  have hkb : k < bins.length := by rw [← hNb hto]; exact hlt
  obtain ⟨b, hb⟩ : ∃ b, bins[k]? = some b := ⟨_, List.getElem?_eq_getElem hkb⟩
  obtain ⟨hb0, hb8⟩ := hbn b (List.mem_of_getElem? hb)
  obtain ⟨y, hy⟩ : ∃ y, y = (to[k % to.length]?).getD 0 := ⟨_, rfl⟩
  have d1 : decide ((k : Int) < ((N : Nat) : Int)) = true := decide_eq_true (by omega)
  obtain ⟨g1, go1, gc1, gs1, gE1, gf1, gi1, eg1, _, _, hgi1, hgx1⟩ := (hTv.mem (G' := (tb, Obj.cells cs 107 (0, 0)) :: (X ++ (T ++ F))) fun q h => .tail _ (List.mem_append_right _ (List.mem_append_left _ h))).cell (by omega)
  cases eg1
  obtain ⟨g2, go2, gc2, gs2, gE2, gf2, gi2, rfl, _, _, hgi2, hgx2⟩ := (hbv.mem (G' := (tb, Obj.cells cs 107 (0, 0)) :: (X ++ (T ++ F))) fun q h => .tail _ (List.mem_append_right _ (List.mem_append_right _ h))).cell (by omega)
  have c1 : gs1[go1 + ((k : Nat) : Int).toNat * 1]? = some (iV y) := by rw [Int.toNat_natCast, Nat.mul_one]; exact hgx1 k _ (by rw [List.getElem?_map, turnsF_get hto hkb, hy]; rfl)
  have c2 : gs2[go2 + ((k : Nat) : Int).toNat * 1]? = some (iV b) := by rw [Int.toNat_natCast, Nat.mul_one]; exact hgx2 k _ (by rw [List.getElem?_map, hb]; rfl)
  have p0 : (0 : Int) ≤ ((k : Nat) : Int) := by omega
  have p1 : ((k : Nat) : Int) < ((N : Nat) : Int) := by omega
  have p2 : ((k : Nat) : Int) < ((bins.length : Nat) : Int) := by omega
  have q1 : b < ((8 : Nat) : Int) := by omega
  obtain ⟨row, hrow, hne, hrv⟩ := hS.2 b.toNat (by omega)
  have hrv2 := hrv.mem (G' := (tb, Obj.cells cs 107 (0, 0)) :: (X ++ (T ++ F))) fun q hq => by
    rcases List.mem_append.1 hq with h | h
    · exact .tail _ (List.mem_append_left _ h)
    · exact .tail _ (List.mem_append_right _ (List.mem_append_right _ (hG _ h)))
  obtain ⟨_, ar, capr, esv, hcr, hmr, _⟩ := hrv
  have hsb : cs[10 + b.toNat * 1]? = some (.slice ar row.length capr) := by rw [Nat.mul_one, hC.s _ (by omega), esv]
  rw [esv] at hrv2
  have hn1 := hR row (List.mem_of_getElem? hrow)
  have s1 : 10 + b.toNat * 1 < cs.size := by rw [hC.z]; omega
  have r0 : (0 : Int) ≤ ((row.length : Nat) : Int) := by omega
  have r1 : ((row.length : Nat) : Int) ≤ ((capr : Nat) : Int) := by omega
  repeat (first | refine RQ ?_ | refine RC ?_ | refine WG 1 ?_ | refine WG 2 ?_ | refine WG 3 ?_)
  refine WC_drawK (id := 4) _ 31 (Cs [0,1,2,3,4,5,6,7,8,9,10,11,12,13,14,15,16,17,18,19,20,21,22,23,24,25,28,29] <| .must 26 <| .must 27 <| .calm 30 <| .must 31 <| .done) mixed (by kernel_rfl) (by kernel_rfl) (List.Sublist.refl _) ?_; repeat (first | refine WS_d ?_ | refine WS_c rfl (QW_a ?_))
  refine WS_m rfl rfl (OW_build1 rfl (hk := fun xn => ?_))
  refine ⟨(by first | exact fun _ h => h | exact fun _ h => List.Sublist.subset (by repeat (first | exact .refl _ | exact List.nil_sublist _ | exact List.sublist_append_right _ _ | exact List.Sublist.append (.refl _) (List.sublist_append_right _ _) | apply List.Sublist.cons_cons | apply List.Sublist.cons)) h), ?_⟩
  refine WS_m rfl rfl (OW_append_new rfl rfl rfl rfl rfl (olds := spL row) (m := 1) (news := [iV at_, iV y]) (Vec.cons _ ((hrv2.vec fun _ h => h).shrink (Nat.le_refl _) hcr)) (srcVec (sz := 2) ⟨rfl, _, _, rfl, Nat.le_refl _, by decide, .inr ⟨_, _, _, _, _, 0, rfl, rfl, fun j x hx => by rw [Nat.zero_add]; show (#[iV at_, iV y] : Array Value)[j]? = some x; simpa using hx⟩⟩ (fun u hu => by simp only [List.mem_cons, List.not_mem_nil, or_false] at hu; rcases hu with rfl | rfl <;> rfl)) (by omega) (by simp only [maxLen]; omega) (by omega) fun b1 cap1 cur1 ho => ?_)
  refine ⟨(by first | exact fun _ h => h | exact fun _ h => List.Sublist.subset (by repeat (first | exact .refl _ | exact List.nil_sublist _ | exact List.sublist_append_right _ _ | exact List.Sublist.append (.refl _) (List.sublist_append_right _ _) | apply List.Sublist.cons_cons | apply List.Sublist.cons)) h), ?_⟩
  repeat (first | refine WS_d ?_ | refine WS_c rfl (QW_a ?_))
  refine WS_late rfl rfl rfl (OW_st1 rfl ?_)
  refine WS_d ?_
  refine WC_permT (L' := (tb, .cells (cs.setIfInBounds (10 + b.toNat * 1) (.slice (some ⟨b1, 0, none⟩) (row.length + 1) cap1)) 107 (0, 0)) :: (([(b1, .cells cur1 111 (0, 0)), (xn, .cells #[iV at_, iV y] 111 (0, 0))] ++ X) ++ (T ++ F))) (((List.Perm.swap _ _ _).trans (.cons _ (.swap ..)))) ?_
  have w : IntKind.i64.wrap ((k : Int) + 1) = ((k + 1 : Nat) : Int) := by rw [wI64 (by omega) (by omega)]; omega
  have hlen : (row ++ [(at_, y)]).length = row.length + 1 := by simp
  repeat (first | refine RQ ?_ | refine RC ?_ | refine WG 5 ?_)
  rw [w]
  refine ⟨_, _, by omega, ⟨k + 1, _, _, sp.set b.toNat (row ++ [(at_, y)]), [(b1, .cells cur1 111 (0, 0)), (xn, .cells #[iV at_, iV y] 111 (0, 0))] ++ X, rfl, by omega, hC.setS (b := b.toNat) (by omega) rfl, ?_, ?_, ?_, rfl⟩, ⟨rfl, rfl, rfl, rfl, rfl, rfl, trivial⟩, rfl, .refl _⟩
  · refine (hS.mem fun q hq => List.mem_append.2 ?_).set (by omega) (by simp) ?_
    · rcases List.mem_append.1 hq with h | h
      · exact .inl (List.mem_append_right _ h)
      · exact .inr h
    · rw [hlen, spL_snoc]
      exact ho.vecG (E := 111) (by simp)
  · intro r hr
    rcases List.mem_or_eq_of_mem_set hr with h | rfl
    · have := hR r h; omega
    · rw [hlen]; omega
  · rw [hg, if_neg hto, if_neg hto, List.drop_eq_getElem_cons hkb]
    have e : bins[k] = b := by rw [List.getElem?_eq_getElem hkb] at hb; exact Option.some.inj hb
    rw [giveK, e, hrow, hy]
    rfl
end Go.Proofs.YtekmmhmhcpaiaaaGreat
namespace Go.Proofs.YtekmmhmhcpaiaaaGreat
open Go.RowKit
abbrev OwnI (cur : Array Value) (off cap : Nat) (xs : List Int) : Prop := Own 1 cur off cap xs.length (xs.map iV)
abbrev BufI (v : Value) (T : List (Nat × Obj)) (xs : List Int) : Prop := Buf 3 1 v T xs.length (xs.map iV)
theorem OwnI.at_i {cur : Array Value} {off cap : Nat} {xs : List Int} (h : OwnI cur off cap xs) {i : Int} {j : Nat} {x : Int} (hi : i.toNat = j) (hx : xs[j]? = some x) : cur[off + i.toNat * 1]? = some (iV x) := by
  rw [hi, Nat.mul_one]
  exact Own.at_ h j _ (by rw [List.getElem?_map, hx]; rfl)
theorem OwnI.lt {cur : Array Value} {off cap : Nat} {xs : List Int} (h : OwnI cur off cap xs) {i : Int} (hi : i.toNat < xs.length) : off + i.toNat * 1 < cur.size := by
  have := Own.fit h
  have := Own.le h
  omega
theorem OwnI.put {cur : Array Value} {off cap : Nat} {xs : List Int} (h : OwnI cur off cap xs) {i : Int} {j : Nat} (hi : i.toNat = j) (x : Int) : OwnI (cur.setIfInBounds (off + i.toNat * 1) (iV x)) off cap (xs.set j x) := by
  subst hi
  unfold OwnI
  rw [List.length_set]
  refine ⟨by simp, Own.le h, Own.max h, by rw [Array.size_setIfInBounds]; exact Own.fit h, fun k v hk => ?_⟩
  rw [List.getElem?_map, List.getElem?_set] at hk
  by_cases e : i.toNat = k
  · rw [if_pos e] at hk
    split at hk
    · rename_i hlt
      cases hk
      have hs := h.lt hlt
      rw [← e, Nat.mul_one] at *
      rw [Array.getElem?_setIfInBounds_self_of_lt hs]
    · cases hk
  · rw [if_neg e] at hk
    rw [Array.getElem?_setIfInBounds_ne (by omega)]
    exact Own.at_ h k v (by rw [List.getElem?_map]; exact hk)
theorem set_mid {A C : List Int} (x y : Int) : (A ++ x :: C).set A.length y = A ++ y :: C := by simp
theorem get_mid {A C : List Int} (x : Int) : (A ++ x :: C)[A.length]? = some x := by simp
def Rise (xs : List Int) : Prop := xs.Pairwise fun a b => a ≤ b
attribute [local irreducible] Fn WC WL WR OW Qt YieldFn QW FnP FnD
theorem isNaN_fn {x : Int} {L : List (Nat × Obj)} : Fn Tryz.prog 133 [iV x] L (fun v L' => v = .bool false ∧ L' = L) := by
  refine Fn_enter Tryz.func133 rfl Tryz.ntmps133 rfl fun gw => ?_
  have d : (x != x) = false := by simp
  repeat (first | refine RQ ?_ | refine RC ?_ | refine WC_region ?_)
  exact ⟨rfl, _, _, Res1 rfl (resV_tmp rfl), .refl _, by rw [d], rfl⟩
theorem lessI_fn {x y : Int} {L : List (Nat × Obj)} : Fn Tryz.prog 128 [iV x, iV y] L (fun v L' => v = .bool (decide (x < y)) ∧ L' = L) := by
  refine Fn_enter Tryz.func128 rfl Tryz.ntmps128 rfl fun gw => ?_
  repeat (first | refine RQ ?_ | ((first | refine WL_op rfl ?_ | refine WL_yes (h := ?_)); (first | refine OW_callP rfl (hF := isNaN_fn) (hk := ?_))) | refine RC ?_ | refine WC_region ?_)
  exact ⟨rfl, _, _, Res1 rfl (resV_tmp rfl), .refl _, rfl, rfl⟩
set_option maxHeartbeats 4000000 in
theorem insSort_fn {g E off cap : Nat} {cur : Array Value} {xs : List Int} (ho : OwnI cur off cap xs) (hn : xs.length ≤ 1000) {L : List (Nat × Obj)} :
    Fn Tryz.prog 122 [.slice (some ⟨g, off, none⟩) xs.length cap, iV 0, iV xs.length] ((g, .cells cur E (0, 0)) :: L)
      (fun v L' => v = .tuple #[] ∧ ∃ cur' ys, ys.Perm xs ∧ Rise ys ∧ OwnI cur' off cap ys ∧ L' = (g, .cells cur' E (0, 0)) :: L) := by
  refine Fn_enter Tryz.func122 rfl Tryz.ntmps122 rfl fun gw => ?_
  rcases xs with _ | ⟨x0, xs⟩
  · have d : decide (IntKind.i64.wrap (0 + 1) < ((([] : List Int).length : Nat) : Int)) = false := by decide
    repeat (first | refine RQ ?_ | refine RC ?_ | refine WG 0 ?_)
    refine WC_unroll 1 (WCn_s ?_)
    repeat (first | refine RQ ?_ | refine RC ?_ | refine WG 1 ?_)
    exact ⟨rfl, _, _, Res0 rfl, .refl _, rfl, cur, [], .refl _, .nil, ho, rfl⟩
  generalize hxs : x0 :: xs = zs at ho hn
  have h0 : 1 ≤ zs.length := by rw [← hxs]; simp
  repeat (first | refine RQ ?_ | refine RC ?_ | refine WG 0 ?_)
  refine WC_wk [(6, iV ((1 : Nat) : Int)), (0, .slice (some ⟨g, off, none⟩) zs.length cap), (1, iV 0), (2, iV zs.length)] ⟨rfl, rfl, rfl, rfl, trivial⟩ ?_
  refine WC_loop (fun m σ => ∃ (i : Nat) (P C : List Int) (cur : Array Value), m = zs.length - i ∧ P.length = i ∧ Rise P ∧ (P ++ C).Perm zs ∧ OwnI cur off cap (P ++ C) ∧ σ = ⟨[(6, iV i), (0, .slice (some ⟨g, off, none⟩) zs.length cap), (1, iV 0), (2, iV zs.length)], [], (g, .cells cur E (0, 0)) :: L⟩) (zs.length - 1) ⟨1, [x0], xs, cur, rfl, rfl, by simp [Rise], by rw [← hxs]; exact .refl _, by rw [← hxs] at ho; exact ho, rfl⟩ ?_
  clear ho cur hxs
  rintro m σ ⟨i, P, C, cur, rfl, hP, hrise, hperm, ho, rfl⟩
  have hlen : P.length + C.length = zs.length := by have := hperm.length_eq; simpa using this
  rcases C with _ | ⟨x, C⟩
  · have d : decide ((i : Int) < ((zs.length : Nat) : Int)) = false := decide_eq_false (by simp at hlen; omega)
    repeat (first | refine RQ ?_ | refine RC ?_ | refine WG 1 ?_)
    rw [List.append_nil] at hperm ho
    exact ⟨rfl, _, _, Res0 rfl, .refl _, rfl, cur, P, hperm, hrise, ho, rfl⟩
  · have hlt : i < zs.length := by simp at hlen; omega
    have d : decide ((i : Int) < ((zs.length : Nat) : Int)) = true := decide_eq_true (by omega)
    have wi : IntKind.i64.wrap ((i : Int) + 1) = ((i + 1 : Nat) : Int) := by rw [wI64 (by omega) (by omega)]; omega
    repeat (first | refine RQ ?_ | refine RC ?_ | refine WG 1 ?_ | refine WG 3 ?_)
    refine WC_wk [(7, iV i), (6, iV i), (0, .slice (some ⟨g, off, none⟩) zs.length cap), (1, iV 0), (2, iV zs.length)] ⟨rfl, rfl, rfl, rfl, rfl, trivial⟩ ?_
    refine WC_loop (fun m σ => ∃ (j : Nat) (A B : List Int) (cur : Array Value), m = j ∧ A.length = j ∧ A.length + B.length = i ∧ Rise (A ++ B) ∧ (∀ b ∈ B, x < b) ∧ (A ++ x :: (B ++ C)).Perm zs ∧ OwnI cur off cap (A ++ x :: (B ++ C)) ∧ σ = ⟨[(7, iV j), (6, iV i), (0, .slice (some ⟨g, off, none⟩) zs.length cap), (1, iV 0), (2, iV zs.length)], [], (g, .cells cur E (0, 0)) :: L⟩) i ⟨i, P, [], cur, rfl, hP, by simpa using hP, by simpa using hrise, nofun, by simpa using hperm, by simpa using ho, rfl⟩ ?_
    clear ho cur hperm hrise hP hlen
    rintro m σ ⟨j, A, B, cur, rfl, hA, hAB, hrise, hB, hperm, ho, rfl⟩
    have hlen : A.length + (1 + (B.length + C.length)) = zs.length := by have := hperm.length_eq; simp at this; omega
    have hzl : (A ++ x :: (B ++ C)).length = zs.length := hperm.length_eq
    rcases List.eq_nil_or_concat A with rfl | ⟨A', a, rfl⟩
    · obtain rfl : m = 0 := by simpa using hA.symm
      have d1 : decide (((0 : Nat) : Int) > 0) = false := by decide
      repeat (first | refine RQr ?_ | ((first | refine WL_op rfl ?_ | refine WL_yes (h := ?_) | refine WR_late rfl rfl rfl ?_ | refine WR_opG rfl rfl ?_ | refine WR_opYG rfl (h := ?_)); (first | refine OW_callP rfl (hF := lessI_fn) (hk := ?_)); try refine SD ?_) | refine RC ?_ | refine RU ?_ | refine WC_draw_all (id := 4) 15 (Cs [0,1,2,3,4,5,6,7,8,9,10,11,12] <| .must 13 <| .calm 14 <| .done) mixed (by kernel_rfl) ?_ | refine WG 2 ?_)
      rw [wi]
      refine ⟨_, _, by omega, ⟨i + 1, x :: B, C, cur, rfl, by simp at hAB ⊢; omega, ?_, by simpa using hperm, by simpa using ho, rfl⟩, ⟨rfl, rfl, rfl, rfl, trivial⟩, rfl, .refl _⟩
      exact List.pairwise_cons.2 ⟨fun b hb => Int.le_of_lt (hB b hb), by unfold Rise at hrise; simpa using hrise⟩
    · rw [List.concat_eq_append] at *
      obtain ⟨k, rfl⟩ : ∃ k, m = k + 1 := ⟨A'.length, by simpa using hA.symm⟩
      have hk : A'.length = k := by simpa using hA
      have d1 : decide (((k + 1 : Nat) : Int) > 0) = true := decide_eq_true (by omega)
      have wk : IntKind.i64.wrap (((k + 1 : Nat) : Int) - 1) = (k : Int) := by rw [wI64 (by omega) (by omega)]; omega
      have e1 : A' ++ [a] ++ x :: (B ++ C) = A' ++ a :: x :: (B ++ C) := by simp
      have j0 : (0 : Int) ≤ ((k + 1 : Nat) : Int) := by omega
      have j1 : ((k + 1 : Nat) : Int) < ((zs.length : Nat) : Int) := by simp at hlen; omega
      have j2 : (0 : Int) ≤ IntKind.i64.wrap (((k + 1 : Nat) : Int) - 1) := by rw [wk]; omega
      have j3 : IntKind.i64.wrap (((k + 1 : Nat) : Int) - 1) < ((zs.length : Nat) : Int) := by rw [wk]; simp at hlen; omega
      have c1 : cur[off + (((k + 1 : Nat) : Int)).toNat * 1]? = some (iV x) := ho.at_i (j := k + 1) (by omega) (by rw [← hA]; exact get_mid x)
      have c2 : cur[off + (IntKind.i64.wrap (((k + 1 : Nat) : Int) - 1)).toNat * 1]? = some (iV a) := ho.at_i (j := k) (by rw [wk]; omega) (by rw [e1, ← hk]; exact get_mid a)
      by_cases hxa : x < a
      · have d2 : decide (x < a) = true := decide_eq_true hxa
        have s1 : off + (((k + 1 : Nat) : Int)).toNat * 1 < cur.size := ho.lt (by rw [hzl]; omega)
        have s2 : off + (IntKind.i64.wrap (((k + 1 : Nat) : Int) - 1)).toNat * 1 < (cur.setIfInBounds (off + (((k + 1 : Nat) : Int)).toNat * 1) (iV a)).size := by rw [Array.size_setIfInBounds]; exact ho.lt (by rw [hzl, wk]; omega)
        have p1 := ho.put (i := ((k + 1 : Nat) : Int)) (j := k + 1) (by omega) a
        have p2 := p1.put (i := IntKind.i64.wrap (((k + 1 : Nat) : Int) - 1)) (j := k) (by rw [wk]; omega) x
        have e2 : ((A' ++ [a] ++ x :: (B ++ C)).set (k + 1) a).set k x = A' ++ x :: (a :: B ++ C) := by
          have q1 : (A' ++ [a] ++ x :: (B ++ C)).set (k + 1) a = A' ++ a :: a :: (B ++ C) := by rw [← hA, set_mid]; simp
          rw [q1, ← hk, set_mid]
          rfl
        rw [e2] at p2
        repeat (first | refine RQr ?_ | ((first | refine WL_op rfl ?_ | refine WL_yes (h := ?_) | refine WR_late rfl rfl rfl ?_ | refine WR_opG rfl rfl ?_ | refine WR_opYG rfl (h := ?_)); (first | refine OW_callP rfl (hF := lessI_fn) (hk := ?_)); try refine SD ?_) | refine RC ?_ | refine RU ?_ | refine WC_draw_all (id := 4) 15 (Cs [0,1,2,3,4,5,6,7,8,9,10,11,12] <| .must 13 <| .calm 14 <| .done) mixed (by kernel_rfl) ?_)
        refine WC_drawK (id := 6) [] 18 (Cs [0,1,2,3,4,5,6,7,8,9,10,11,12,13,14] <| .must 15 <| .calm 16 <| .must 17 <| .done) mixed (by kernel_rfl) (by kernel_rfl) (List.nil_sublist _) ?_; repeat (first | refine WS_d ?_ | refine WS_c rfl (QW_a ?_) | refine WS_r rfl (by kernel_rfl) (QW_a ?_) | (refine WS_m rfl rfl (OE ?_); refine ⟨(fun _ hq => nomatch hq), ?_⟩))
        repeat (first | refine RQ ?_ | refine RC ?_ | refine WG 5 ?_)
        rw [wk] at p2 ⊢
        refine ⟨_, _, by omega, ⟨k, A', a :: B, _, rfl, hk, by simp at hAB ⊢; omega, by simpa using hrise, ?_, ?_, p2, rfl⟩, ⟨rfl, rfl, rfl, rfl, rfl, trivial⟩, rfl, .refl _⟩
        · intro b hb
          rcases List.mem_cons.1 hb with rfl | hb
          · exact hxa
          · exact hB b hb
        · refine .trans ?_ hperm
          rw [List.append_assoc]
          exact .append_left _ (.swap ..)
      · have d2 : decide (x < a) = false := decide_eq_false hxa
        repeat (first | refine RQr ?_ | ((first | refine WL_op rfl ?_ | refine WL_yes (h := ?_) | refine WR_late rfl rfl rfl ?_ | refine WR_opG rfl rfl ?_ | refine WR_opYG rfl (h := ?_)); (first | refine OW_callP rfl (hF := lessI_fn) (hk := ?_)); try refine SD ?_) | refine RC ?_ | refine RU ?_ | refine WC_draw_all (id := 4) 15 (Cs [0,1,2,3,4,5,6,7,8,9,10,11,12] <| .must 13 <| .calm 14 <| .done) mixed (by kernel_rfl) ?_ | refine WG 2 ?_)
        rw [wi]
        refine ⟨_, _, by omega, ⟨i + 1, A' ++ [a] ++ x :: B, C, cur, rfl, by simp at hAB ⊢; omega, ?_, by simpa using hperm, by simpa using ho, rfl⟩, ⟨rfl, rfl, rfl, rfl, trivial⟩, rfl, .refl _⟩
        have h3 := List.pairwise_append.1 hrise
        have h4 := List.pairwise_append.1 h3.1
        refine List.pairwise_append.2 ⟨h3.1, List.pairwise_cons.2 ⟨fun b hb => Int.le_of_lt (hB b hb), h3.2.1⟩, fun p hp q hq => ?_⟩
        rcases List.mem_cons.1 hq with rfl | hq
        · rcases List.mem_append.1 hp with g1 | g1
          · have := h4.2.2 p g1 a (by simp); omega
          · have : p = a := by simpa using g1
            omega
        · exact h3.2.2 p hp q hq
theorem len64_few {n : Int} (h0 : 0 ≤ n) (hn : n ≤ 12) {L : List (Nat × Obj)} : Fn Tryz.prog 132 [.int .u64 n] L (fun v L' => (∃ k, v = .int .i64 k) ∧ L' = L) := by
  have hc : n = 0 ∨ n = 1 ∨ n = 2 ∨ n = 3 ∨ n = 4 ∨ n = 5 ∨ n = 6 ∨ n = 7 ∨ n = 8 ∨ n = 9 ∨ n = 10 ∨ n = 11 ∨ n = 12 := by omega
  rcases hc with rfl | rfl | rfl | rfl | rfl | rfl | rfl | rfl | rfl | rfl | rfl | rfl | rfl
  all_goals
    refine Fn_enter Tryz.func132 rfl Tryz.ntmps132 rfl fun gw => ?_
    repeat (first | refine RQ ?_ | refine RC ?_ | refine WC_region ?_)
    exact ⟨rfl, _, _, Res1 rfl (resV_tmp rfl), .refl _, ⟨_, rfl⟩, rfl⟩
theorem len_few {n : Int} (h0 : 0 ≤ n) (hn : n ≤ 12) {L : List (Nat × Obj)} : Fn Tryz.prog 86 [.int .u64 n] L (fun v L' => (∃ k, v = .int .i64 k) ∧ L' = L) := by
  refine Fn_enter Tryz.func86 rfl Tryz.ntmps86 rfl fun gw => ?_
  repeat (first | refine RQ ?_ | (refine WL_op rfl ?_; (first | (refine OW_call rfl (hF := len64_few h0 hn) (hk := ?_); rintro _ _ ⟨⟨k, rfl⟩, rfl⟩))) | refine RC ?_ | refine WG 0 ?_ | refine WG 2 ?_)
  exact ⟨rfl, _, _, Res1 rfl (resV_tmp rfl), .refl _, ⟨_, rfl⟩, rfl⟩
theorem insNil_fn {L : List (Nat × Obj)} : Fn Tryz.prog 122 [.slice none 0 0, iV 0, iV 0] L (fun v L' => v = .tuple #[] ∧ L' = L) := by
  have d : decide (IntKind.i64.wrap (0 + 1) < 0) = false := by decide
  refine Fn_enter Tryz.func122 rfl Tryz.ntmps122 rfl fun gw => ?_
  repeat (first | refine RQ ?_ | refine RC ?_ | refine WG 0 ?_)
  refine WC_unroll 1 (WCn_s ?_)
  repeat (first | refine RQ ?_ | refine RC ?_ | refine WG 1 ?_)
  exact ⟨rfl, _, _, Res0 rfl, .refl _, rfl, rfl⟩
theorem insB_fn {v : Value} {T : List (Nat × Obj)} {xs : List Int} (hb : BufI v T xs) (hn : xs.length ≤ 1000) {L : List (Nat × Obj)} :
    Fn Tryz.prog 122 [v, iV 0, iV xs.length] (T ++ L) (fun r L' => ∃ T' ys, r = .tuple #[] ∧ ys.Perm xs ∧ Rise ys ∧ BufI v T' ys ∧ L' = T' ++ L) := by
  rcases id hb with ⟨h1, h2, rfl, rfl⟩ | ⟨g, off, cap, cur, rfl, rfl, ho⟩
  · have : xs = [] := List.eq_nil_of_length_eq_zero h2
    subst this
    refine (insNil_fn (L := L)).mono ?_
    rintro _ _ ⟨rfl, rfl⟩
    exact ⟨[], [], rfl, .refl _, .nil, hb, rfl⟩
  · refine (insSort_fn ho hn (L := L)).mono ?_
    rintro _ _ ⟨rfl, cur', ys, hp, hr, ho', rfl⟩
    refine ⟨[(g, .cells cur' 3 (0, 0))], ys, rfl, hp, hr, ?_, rfl⟩
    unfold BufI
    rw [← hp.length_eq]
    exact .inr ⟨g, off, cap, cur', rfl, rfl, ho'⟩
theorem pdqI_fn {v : Value} {T : List (Nat × Obj)} {xs : List Int} (hb : BufI v T xs) (hn : xs.length ≤ 12) {k : Int} {L : List (Nat × Obj)} :
    Fn Tryz.prog 85 [v, iV 0, iV xs.length, .int .i64 k] (T ++ L) (fun r L' => ∃ T' ys, r = .tuple #[] ∧ ys.Perm xs ∧ Rise ys ∧ BufI v T' ys ∧ L' = T' ++ L) := by
  have w : IntKind.i64.wrap (((xs.length : Nat) : Int) - 0) = ((xs.length : Nat) : Int) := by rw [wI64 (by omega) (by omega)]; omega
  have d : decide (((xs.length : Nat) : Int) ≤ 12) = true := decide_eq_true (by omega)
  refine Fn_enter Tryz.func85 rfl Tryz.ntmps85 rfl fun gw => ?_
  repeat (first | refine RQ ?_ | refine RC ?_ | refine WG 0 ?_ | refine WG 1 ?_)
  refine WC_unroll 1 (WCn_s ?_)
  repeat (first | refine RQ ?_ | refine RC ?_ | refine WG 2 ?_)
  rw [w]
  repeat (first | refine RQ ?_ | (refine WL_op rfl ?_; (first | (refine OW_call rfl (hF := insB_fn hb (by omega)) (hk := ?_); rintro _ _ ⟨T', ys, rfl, hp, hr, hb', rfl⟩))) | refine RC ?_ | refine WG 3 ?_ | refine WG 4 ?_)
  exact ⟨rfl, _, _, Res0 rfl, .refl _, T', ys, rfl, hp, hr, hb', rfl⟩
theorem sortI_fn {v : Value} {T : List (Nat × Obj)} {xs : List Int} (hb : BufI v T xs) (hn : xs.length ≤ 12) {L : List (Nat × Obj)} :
    Fn Tryz.prog 40 [v] (T ++ L) (fun r L' => ∃ T' ys, r = .tuple #[] ∧ ys.Perm xs ∧ Rise ys ∧ BufI v T' ys ∧ L' = T' ++ L) := by
  have w : IntKind.u64.wrap ((xs.length : Nat) : Int) = ((xs.length : Nat) : Int) := by
    unfold IntKind.wrap
    simp [IntKind.signed, IntKind.bits]
    omega
  obtain ⟨a, cap, rfl, _, _⟩ := id hb.val
  refine Fn_enter Tryz.func40 rfl Tryz.ntmps40 rfl fun gw => ?_
  repeat (first | refine RQ ?_ | (refine WL_op rfl ?_; (first | (refine OW_call rfl (hF := pdqI_fn hb hn) (hk := ?_); rintro _ _ ⟨T', ys, rfl, hp, hr, hb', rfl⟩) | (refine OW_call rfl (hF := len_few (by omega) (by omega)) (hk := ?_); rintro _ _ ⟨⟨k, rfl⟩, rfl⟩))) | refine RC ?_ | refine WC_region ?_)
  rw [w]
  repeat (first | refine RQ ?_ | (refine WL_op rfl ?_; (first | (refine OW_call rfl (hF := pdqI_fn hb hn) (hk := ?_); rintro _ _ ⟨T', ys, rfl, hp, hr, hb', rfl⟩) | (refine OW_call rfl (hF := len_few (by omega) (by omega)) (hk := ?_); rintro _ _ ⟨⟨k, rfl⟩, rfl⟩))) | refine RC ?_ | refine WG 1 ?_)
  exact ⟨rfl, _, _, Res0 rfl, .refl _, T', ys, rfl, hp, hr, hb', rfl⟩
end Go.Proofs.YtekmmhmhcpaiaaaGreat
