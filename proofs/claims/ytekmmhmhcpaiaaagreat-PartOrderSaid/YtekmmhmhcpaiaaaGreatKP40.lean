/-
  A part of what the last of these texts needs; by itself it proves no statement.
-/
import Derived.Test.YtekmmhmhcpaiaaaGreatKP39
namespace Go.Proofs.YtekmmhmhcpaiaaaGreat
open Go.RowKit
structure SwV where
  more : Int
  mode : Int
  k : Int
  a : Int
  b : Int
  g : Int
abbrev u8q (x : Int) : Prop := 0 ≤ x ∧ x < 256
structure SwR (s : SwV) : Prop where
  more : u8q s.more
  mode : u8q s.mode
  k : u8q s.k
  a : u8q s.a
  b : u8q s.b
  g : u8q s.g
def swC (s : SwV) : List Value := [.int .u8 s.more, .int .u8 s.mode, .int .u8 s.k, .int .u8 s.a, .int .u8 s.b, .int .u8 s.g]
def swL (l : List SwV) : List Value := l.flatMap swC
theorem swL_get : ∀ (l : List SwV) (k : Nat), (swL l)[k]? = (l[k / 6]?).bind fun x => (swC x)[k % 6]?
  | [], k => by simp [swL]
  | x :: l, k => by
    have hx : (swC x).length = 6 := rfl
    rw [show swL (x :: l) = swC x ++ swL l from rfl]
    by_cases h : k < 6
    · rw [List.getElem?_append_left (by omega), Nat.div_eq_of_lt h, Nat.mod_eq_of_lt h]
      rfl
    · rw [List.getElem?_append_right (by omega), hx, swL_get l (k - 6)]
      have e1 : k / 6 = (k - 6) / 6 + 1 := by omega
      have e2 : k % 6 = (k - 6) % 6 := by omega
      rw [e1, e2, List.getElem?_cons_succ]
theorem swL_at {l : List SwV} {off k : Nat} {cs : Array Value} {x : SwV} (hx : ∀ (j : Nat) (v : Value), (swL l)[j]? = some v → cs[off + j]? = some v) (hk : l[k]? = some x) (j : Nat) (hj : j < 6) : cs[off + k * 6 + j]? = (swC x)[j]? := by
  have h3 : (swC x)[j]? = some ((swC x)[j]'hj) := List.getElem?_eq_getElem _
  rw [Nat.add_assoc, h3]
  refine hx _ _ ?_
  rw [swL_get, show (k * 6 + j) / 6 = k by omega, show (k * 6 + j) % 6 = j by omega, hk]
  exact h3
def cmS (k last : Int) (s : SwV) : CmV := ⟨3, last + 1 + s.more, [], 0, 1, opA k s.k s.a s.b s.g, s.mode % 3⟩
structure SetIn (o : OpV) (tv : TbV) (last : Int) (rs : List CmV) : Prop where
  ok : TbOk tv
  nodes : tv.nodes = [(0, 1, 0, 0), o]
  after : tv.repl[1]? = some rs
  rl : tv.repl.length = 2
  lst : lastF tv = last
  l0 : 0 ≤ last
  cl : tv.cmds.length = rs.length
  at0 : ∀ x ∈ rs, 0 ≤ x.at_ ∧ x.at_ ≤ last
  okc : ∀ x ∈ rs, x.op.ok = true ∧ clsF x.op.1 = clsF o.1
  up : rs.Pairwise fun a b => a.at_ < b.at_
theorem SetIn.try_ {o : OpV} {tv : TbV} {last k : Int} {rs : List CmV} (h : SetIn o tv last rs) (hn : rs.length < 4) (hl : last ≤ 1000000) (hc : clsF o.1 = if k % 4 = 3 then 2 else 1) {s : SwV} (hs : SwR s) : tryF tv (cmS k last s) 0 = 0 := by
  have m0 := Int.emod_nonneg s.mode (b := 3) (by decide)
  have m1 := Int.emod_lt_of_pos s.mode (b := 3) (by decide)
  have h0 := h.l0
  have h1 := hs.more
  have hcl := h.cl
  unfold tryF
  rw [if_neg (by omega), if_neg (by show ¬ ¬ ((0 : Int) ≤ 3 ∧ (3 : Int) ≤ 3); omega), if_neg (by rw [h.lst]; show ¬ ¬ (max 0 last < last + 1 + s.more ∧ last + 1 + s.more ≤ 1099511627776); omega), if_neg (by show ¬ (3 : Int) = 0; omega), if_neg (by show ¬ (3 : Int) = 1; omega), if_neg (by show ¬ (3 : Int) = 2; omega), if_neg (by rw [h.nodes]; show ¬ ¬ (((0 : Int) ≤ 1 ∧ (1 : Int) ≤ ((2 : Nat) : Int) - 1) ∧ (0 ≤ s.mode % 3 ∧ s.mode % 3 ≤ 2)); omega)]
  rw [if_neg (by show ¬ (opA k s.k s.a s.b s.g).ok = false; unfold opA; rw [opS_ok]; exact fun h => by cases h), if_neg]
  show ¬ clsF (opA k s.k s.a s.b s.g).1 ≠ clsF ((tv.nodes[(1 : Int).toNat]?).getD (0, 0, 0, 0)).1
  rw [h.nodes, opA_cls]
  show ¬ (if k % 4 = 3 then (2 : Int) else 1) ≠ clsF o.1
  rw [hc]
  exact fun h => h rfl
theorem SetIn.add {o : OpV} {tv : TbV} {last k : Int} {rs : List CmV} (h : SetIn o tv last rs) (hn : rs.length < 4) (hl : last ≤ 1000000) (hc : clsF o.1 = if k % 4 = 3 then 2 else 1) {s : SwV} (hs : SwR s) : SetIn o (stepF tv (cmS k last s) 0) (last + 1 + s.more) (rs ++ [cmS k last s]) := by
  have ht := h.try_ hn hl hc hs
  have h0 := h.l0
  have h1 := hs.more
  have hok := stepF_ok (c := cmS k last s) (fl := 0) h.ok
  have e : stepF tv (cmS k last s) 0 = { tv with cmds := tv.cmds ++ [cmS k last s], repl := tv.repl.set 1 (((tv.repl[1]?).getD []) ++ [cmS k last s]) } := by
    unfold stepF
    rw [if_pos ht]
    unfold addF
    rw [if_neg (by show ¬ (3 : Int) = 0; omega), if_neg (by show ¬ (3 : Int) = 1; omega), if_neg (by show ¬ (3 : Int) = 2; omega)]
    rfl
  rw [e] at hok ⊢
  refine ⟨hok, h.nodes, ?_, ?_, ?_, by omega, ?_, ?_, ?_, ?_⟩
  · rw [List.getElem?_set_self (by rw [h.rl]; decide), h.after]; rfl
  · show (tv.repl.set 1 _).length = 2
    rw [List.length_set, h.rl]
  · unfold lastF
    show (match (tv.cmds ++ [cmS k last s]).getLast? with | some c => c.at_ | none => 0) = _
    rw [List.getLast?_append]
    rfl
  · show (tv.cmds ++ [_]).length = _
    rw [List.length_append, List.length_append, h.cl]
  · intro x hx
    rcases List.mem_append.1 hx with hx | hx
    · have := h.at0 x hx; omega
    · obtain rfl := List.mem_singleton.1 hx
      show 0 ≤ last + 1 + s.more ∧ last + 1 + s.more ≤ last + 1 + s.more
      omega
  · intro x hx
    rcases List.mem_append.1 hx with hx | hx
    · exact h.okc x hx
    · obtain rfl := List.mem_singleton.1 hx
      refine ⟨?_, ?_⟩
      · show (opA k s.k s.a s.b s.g).ok = true
        unfold opA
        exact opS_ok ..
      · show clsF (opA k s.k s.a s.b s.g).1 = _
        rw [opA_cls, hc]
  · refine List.pairwise_append.2 ⟨h.up, List.pairwise_singleton _ _, fun a ha b hb => ?_⟩
    obtain rfl := List.mem_singleton.1 hb
    have := h.at0 a ha
    show a.at_ < last + 1 + s.more
    omega
theorem SetIn.new {o : OpV} (h : o.ok = true) (hc : clsF o.1 = 1 ∨ clsF o.1 = 2) : SetIn o (newT (planS o) cfgS) 0 [] := by
  have hn : opsL (planS o) = [(0, 1, 0, 0), o] := rfl
  refine ⟨newT_ok (planS_ok h hc) (by decide), ?_, ?_, ?_, rfl, by decide, rfl, (fun _ h => by cases h), (fun _ h => by cases h), .nil⟩
  · show opsL (planS o) = _
    exact hn
  · show (List.replicate (opsL (planS o)).length [])[1]? = some []
    rw [hn]; rfl
  · show (List.replicate (opsL (planS o)).length ([] : List CmV)).length = 2
    rw [hn]; rfl
theorem SetIn.node {o : OpV} {tv : TbV} {last : Int} {rs : List CmV} (h : SetIn o tv last rs) (hn : rs.length ≤ 4) : NodeIn tv 1 ⟨o, rs⟩ where
  n0 := by decide
  n1 := by rw [h.nodes]; show (1 : Int) ≤ ((2 : Nat) : Int) - 1; decide
  o := by rw [h.nodes]; rfl
  rs := by
    rw [afterF_in ⟨by decide, by rw [h.nodes]; show (1 : Int) ≤ ((2 : Nat) : Int) - 1; decide⟩]
    show (tv.repl[1]?).getD [] = rs
    rw [h.after]; rfl
  rl := by rw [h.rl, h.nodes]; rfl
  len := by show rs.length ≤ 100000; omega
theorem SetIn.part {o : OpV} {tv : TbV} {last : Int} {rs : List CmV} (h : SetIn o tv last rs) (hl : last ≤ 1000000) (ho : o.ok = true) (hc : clsF o.1 = 1 ∨ clsF o.1 = 2) : PtOk ⟨o, rs⟩ where
  rise := h.up
  cls := hc
  same v hv := by
    cases v with
    | zero => rfl
    | succ v =>
      have hv : v < rs.length := hv
      have e : (PtV.op ⟨o, rs⟩ (v + 1)) = ((rs[v]?).map CmV.op).getD (0, 0, 0, 0) := rfl
      rw [e, List.getElem?_eq_getElem hv]
      exact (h.okc _ (List.getElem_mem hv)).2
  may v hv := by
    cases v with
    | zero => exact ho
    | succ v =>
      have hv : v < rs.length := hv
      have e : (PtV.op ⟨o, rs⟩ (v + 1)) = ((rs[v]?).map CmV.op).getD (0, 0, 0, 0) := rfl
      rw [e, List.getElem?_eq_getElem hv]
      exact (h.okc _ (List.getElem_mem hv)).1
  at_ x hx := by
    have := h.at0 x hx
    omega
theorem opS_r (k a b g : Int) : (0 ≤ (opS k a b g).1 ∧ (opS k a b g).1 ≤ 1000) ∧ (0 ≤ (opS k a b g).2.1 ∧ (opS k a b g).2.1 ≤ 1000) ∧ (0 ≤ (opS k a b g).2.2.1 ∧ (opS k a b g).2.2.1 ≤ 1000) ∧ (0 ≤ (opS k a b g).2.2.2 ∧ (opS k a b g).2.2.2 ≤ 1000) := by
  have a0 := Int.emod_nonneg a (b := 40) (by decide)
  have a1 := Int.emod_lt_of_pos a (b := 40) (by decide)
  have b0 := Int.emod_nonneg b (b := 4) (by decide)
  have b1 := Int.emod_lt_of_pos b (b := 4) (by decide)
  have g0 := Int.emod_nonneg g (b := 4) (by decide)
  have g1 := Int.emod_lt_of_pos g (b := 4) (by decide)
  have hp0 : 0 ≤ (1 + a % 40) * (1 + b % 4) := Int.mul_nonneg (by omega) (by omega)
  have hp1 : (1 + a % 40) * (1 + b % 4) ≤ (1 + a % 40) * 4 := Int.mul_le_mul_of_nonneg_left (by omega) (by omega)
  unfold opS
  generalize (1 + a % 40) * (1 + b % 4) = X at hp0 hp1
  split
  · dsimp only; omega
  split
  · dsimp only; omega
  split
  · dsimp only; omega
  · dsimp only; omega
theorem cmS_r {k last : Int} {s : SwV} (h0 : 0 ≤ last) (h1 : last ≤ 1000000) (hs : SwR s) : CmR (cmS k last s) := by
  have m0 := Int.emod_nonneg s.mode (b := 3) (by decide)
  have m1 := Int.emod_lt_of_pos s.mode (b := 3) (by decide)
  have hm := hs.more
  obtain ⟨q1, q2, q3, q4⟩ := opS_r (if k % 4 = 3 then 3 else s.k % 3) s.a s.b s.g
  refine ⟨⟨?_, ?_⟩, ⟨?_, ?_⟩, fun b hb => (nomatch hb), ⟨?_, ?_⟩, ⟨?_, ?_⟩, ⟨⟨?_, ?_⟩, ⟨?_, ?_⟩, ⟨?_, ?_⟩, ⟨?_, ?_⟩⟩, ⟨?_, ?_⟩⟩ <;> simp only [cmS, opA] <;> omega
attribute [local irreducible] Fn WC WL WR OW Qt YieldFn QW FnP FnD FnE
set_option maxHeartbeats 8000000 in
theorem set_fn {k a b g : Int} {v : Value} {sw : List SwV} {L : List (Nat × Obj)} (hk : u8q k) (ha : u8q a) (hb : u8q b) (hg : u8q g) (hv : VecM 6 L v sw.length (swL sw)) (hs : ∀ s ∈ sw, SwR s) : Fn Tryz.prog 6 [.agg (suC k a b g), v] L (fun r L' => ∃ tb S G tv last rs, r = .pointer (some ⟨tb, 0, none⟩) ∧ L' = S ++ (G ++ L) ∧ TabAt tb S G tv ∧ SetIn (opS k a b g) tv last rs ∧ rs.length ≤ 4 ∧ last ≤ 1000000) := by
  obtain ⟨_, va, vcap, rfl, _, hvm, _⟩ := id hv
  refine Fn_enter Tryz.func6 rfl Tryz.ntmps6 rfl fun gw => ?_
  have hok := opS_ok k a b g
  have hcl := opS_cls k a b g
  have hcl2 : clsF (opS k a b g).1 = 1 ∨ clsF (opS k a b g).1 = 2 := by rw [hcl]; split <;> simp
  repeat (first | (refine WL_Q ?_; (first | refine QW_a ?_ | refine QW_of (Qt_ldX rfl (hn := by with_reducible assumption)) ?_)) | (refine WL_op rfl ?_; (first | refine OW_box rfl (hk := fun _ => ?_) | (refine OW_call rfl (hF := tables_fn hk ha hb hg) (hk := ?_); rintro _ _ ⟨tb, S, G, rv, rfl, rfl, hTab⟩))) | refine WL_nil ?_ | refine WC_seq ?_ | refine WC_block ?_ | refine WC_cond_t (ht := ?_) | refine WC_cond_f (he := ?_) | refine WC_skip ?_ | refine WC_ret ?_ | refine WC_exit ?_ | refine WG 0 ?_ | refine WG 1 ?_ | refine WG 2 ?_ | refine WG 3 ?_)
  rename_i x2
  obtain ⟨L0, hL0⟩ : ∃ L0, L0 = G ++ (x2, Obj.cells (suC k a b g) 23 (0, 0)) :: L := ⟨_, rfl⟩
  have hx2 : (x2, Obj.cells (suC k a b g) 23 (0, 0)) ∈ L0 := by rw [hL0]; exact List.mem_append_right _ (.head _)
  have hLL : ∀ q ∈ L, q ∈ L0 := fun q hq => by rw [hL0]; exact List.mem_append_right _ (.tail _ hq)
  have hGL : ∀ q ∈ G, q ∈ L0 := fun q hq => by rw [hL0]; exact List.mem_append_left _ hq
  rw [← hL0]
  refine WC_wk [(8, iV ((0 : Nat) : Int)), (7, iV 0), (5, .pointer (some ⟨tb, 0, none⟩)), (4, .pointer none), (2, .pointer (some ⟨x2, 0, none⟩)), (1, .slice va sw.length vcap)] ⟨rfl, rfl, rfl, rfl, rfl, rfl, trivial⟩ ?_
  refine WC_loop (fun m σ => ∃ (i : Nat) (tv : TbV) (last : Int) (rs : List CmV) (S X : List (Nat × Obj)), m = 4 - i ∧ i ≤ 4 ∧ rs.length = i ∧ last ≤ i * 256 ∧ SetIn (opS k a b g) tv last rs ∧ TabAt tb S (X ++ G) tv ∧ σ = ⟨[(8, iV (i : Int)), (7, iV last), (5, .pointer (some ⟨tb, 0, none⟩)), (4, .pointer none), (2, .pointer (some ⟨x2, 0, none⟩)), (1, .slice va sw.length vcap)], [], S ++ (X ++ L0)⟩) 4 ⟨0, _, 0, [], S, [], rfl, by decide, rfl, by decide, SetIn.new hok hcl2, hTab, rfl⟩ ?_
  clear hTab
  rintro _ σ ⟨i, tv, last, rs, S, X, rfl, hi4, hri, hla, hIn, hTab, rfl⟩
  have h0 := hIn.l0
  have hsub : (S ++ ((X ++ G) ++ L)).Sublist (S ++ (X ++ L0)) := by
    rw [hL0, List.append_assoc]
    exact List.Sublist.append (.refl _) (List.Sublist.append (.refl _) (List.Sublist.append (.refl _) (.cons _ (.refl _))))
  by_cases hgo : i < sw.length ∧ i < 4
  rotate_left
  · by_cases hlt : i < sw.length
    · have d1 : decide ((i : Int) < ((sw.length : Nat) : Int)) = true := decide_eq_true (by omega)
      have d2 : decide ((i : Int) < 4) = false := decide_eq_false (by omega)
      repeat (first | ((first | refine WL_Q ?_ | refine WL_Y ?_); (first | refine QW_a ?_ | refine QW_of (Qt_ldX rfl (hn := by with_reducible assumption)) ?_)) | refine WL_nil ?_ | refine WL_un (h := ?_) | refine WL_N ?_ | refine WL_M ?_ | refine WC_seq ?_ | refine WC_block ?_ | refine WC_cond_t (ht := ?_) | refine WC_cond_f (he := ?_) | refine WC_skip ?_ | refine WC_ret ?_ | refine WC_exit ?_ | refine WG 4 ?_ | refine WG 9 ?_)
      exact ⟨rfl, _, S ++ ((X ++ G) ++ L), Res1 rfl (resV_tmp rfl), hsub, tb, S, X ++ G, tv, last, rs, rfl, rfl, hTab, hIn, by omega, by omega⟩
    · have d1 : decide ((i : Int) < ((sw.length : Nat) : Int)) = false := decide_eq_false (by omega)
      repeat (first | ((first | refine WL_Q ?_ | refine WL_Y ?_); (first | refine QW_a ?_ | refine QW_of (Qt_ldX rfl (hn := by with_reducible assumption)) ?_)) | refine WL_nil ?_ | refine WL_un (h := ?_) | refine WL_N ?_ | refine WL_M ?_ | refine WC_seq ?_ | refine WC_block ?_ | refine WC_cond_t (ht := ?_) | refine WC_cond_f (he := ?_) | refine WC_skip ?_ | refine WC_ret ?_ | refine WC_exit ?_ | refine WG 4 ?_ | refine WG 9 ?_)
      exact ⟨rfl, _, S ++ ((X ++ G) ++ L), Res1 rfl (resV_tmp rfl), hsub, tb, S, X ++ G, tv, last, rs, rfl, rfl, hTab, hIn, by omega, by omega⟩
  obtain ⟨hlt, hl4⟩ := hgo
  have d1 : decide ((i : Int) < ((sw.length : Nat) : Int)) = true := decide_eq_true (by omega)
  have d2 : decide ((i : Int) < 4) = true := decide_eq_true (by omega)
  obtain ⟨s, hsw⟩ : ∃ s, sw[i]? = some s := ⟨_, List.getElem?_eq_getElem hlt⟩
  have hsr := hs s (List.mem_of_getElem? hsw)
  have hsm := hsr.more
  have p0 : (0 : Int) ≤ (i : Int) := by omega
  have p1 : ((i : Nat) : Int) < ((sw.length : Nat) : Int) := by omega
  have ww : IntKind.i64.wrap ((i : Int) + 1) = ((i + 1 : Nat) : Int) := by rw [wI64 (by omega) (by omega)]; omega
  obtain ⟨L1, hL1⟩ : ∃ L1, L1 = S ++ (X ++ L0) := ⟨_, rfl⟩
  obtain ⟨b1, f1, _, c1, E1, fr1, iA, e1, _, _, hiA, hx1⟩ := (hv.mem (G' := L0) hLL).cell (by omega)
  cases e1
  obtain ⟨i1, hi1⟩ := List.mem_iff_getElem?.1 (show (b1, Obj.cells c1 E1 fr1) ∈ L1 by rw [hL1]; exact List.mem_append_right _ (List.mem_append_right _ (List.mem_of_getElem? hiA)))
  obtain ⟨iB, hiB⟩ := List.mem_iff_getElem?.1 hx2
  obtain ⟨i2, hi2⟩ := List.mem_iff_getElem?.1 (show (x2, Obj.cells (suC k a b g) 23 (0, 0)) ∈ L1 by rw [hL1]; exact List.mem_append_right _ (List.mem_append_right _ hx2))
  have hat := swL_at hx1 hsw
  have hm0 : c1[f1 + ((i : Nat) : Int).toNat * 6 + 0]? = some (.int .u8 s.more) := by rw [Int.toNat_natCast]; exact hat 0 (by decide)
  have hm1 : c1[f1 + ((i : Nat) : Int).toNat * 6 + 1]? = some (.int .u8 s.mode) := by rw [Int.toNat_natCast]; exact hat 1 (by decide)
  obtain ⟨hx2', hy2'⟩ : c1.extract (f1 + ((i : Nat) : Int).toNat * 6 + 2) (f1 + ((i : Nat) : Int).toNat * 6 + 2 + 4) = suC s.k s.a s.b s.g ∧ f1 + ((i : Nat) : Int).toNat * 6 + 2 + 4 ≤ c1.size := ext_of (l := [.int .u8 s.k, .int .u8 s.a, .int .u8 s.b, .int .u8 s.g]) rfl (by decide) fun j hj => by
    rw [Int.toNat_natCast, Nat.add_assoc, hat (2 + j) (by omega)]
    have hc : j = 0 ∨ j = 1 ∨ j = 2 ∨ j = 3 := by omega
    rcases hc with rfl | rfl | rfl | rfl <;> rfl
  rw [← hL1]
  repeat (first | ((first | refine WL_Q ?_ | refine WL_Y ?_); (first | refine QW_a ?_ | refine QW_of (Qt_ldX rfl (hn := by with_reducible assumption)) ?_)) | refine WL_nil ?_ | refine WL_un (h := ?_) | refine WL_N ?_ | refine WL_M ?_ | refine WC_seq ?_ | refine WC_block ?_ | refine WC_cond_t (ht := ?_) | refine WC_cond_f (he := ?_) | refine WC_skip ?_ | refine WC_ret ?_ | refine WC_exit ?_ | refine WG 4 ?_ | refine WG 6 ?_)
  rw [wI64 (x := last + 1) (by omega) (by omega), wI64 (x := s.more) (by omega) (by omega), wI64 (x := last + 1 + s.more) (by omega) (by omega)]
  have hagain := again_fn (k := k) (a := a) (b := b) (g := g) hk hsr.k hsr.a hsr.b hsr.g (L := L1)
  rw [hL1]
  rw [hL1] at hagain
  have hsL : L0.Sublist (S ++ (X ++ L0)) := (List.sublist_append_right _ _).trans (List.sublist_append_right _ _)
  refine WC_draw_sub (id := 7) 19 (Cs [0,1,2,3,4,5,6,7,9,10,11,12,13,14,15] <| .must 8 <| .calm 16 <| .must 17 <| .calm 18 <| .done) mixed (by kernel_rfl) (hsL) ?_
  repeat (first | (refine RX ?_; (first | refine QW_a ?_ | refine QW_of (Qt_ldX rfl (hn := by with_reducible assumption)) ?_)) | ((first | refine WL_op rfl ?_ | refine WR_late rfl rfl rfl ?_ | refine WR_op rfl rfl ?_); (first | refine OW_callP rfl (hF := hagain) (hk := ?_)); try refine ⟨(by first | exact fun _ h => h | exact sub_mem (by repeat (first | exact .refl _ | exact List.nil_sublist _ | exact List.sublist_append_right _ _ | exact List.Sublist.append (.refl _) (List.sublist_append_right _ _) | apply List.Sublist.cons_cons | apply List.Sublist.cons))), ?_⟩) | refine WL_nil ?_ | refine WR_nil ?_ | refine WC_seq ?_ | refine WC_block ?_ | refine WC_cond_t (ht := ?_) | refine WC_cond_f (he := ?_) | refine WC_skip ?_ | refine WC_ret ?_ | refine WC_exit ?_ | refine WC_draw_all (id := 7) 19 (Cs [0,1,2,3,4,5,6,7,9,10,11,12,13,14,15] <| .must 8 <| .calm 16 <| .must 17 <| .calm 18 <| .done) mixed (by kernel_rfl) ?_)
  rw [hx2', w8_3 hsr.mode (by decide)]
  refine WR_op rfl rfl (OW_callP rfl (hF := hagain) (hk := ?_))
  refine ⟨sub_mem hsL, ?_⟩
  repeat (first | (refine RX ?_; (first | refine QW_a ?_ | refine QW_of (Qt_ldX rfl (hn := by with_reducible assumption)) ?_)) | ((first | refine WL_op rfl ?_ | refine WR_late rfl rfl rfl ?_ | refine WR_op rfl rfl ?_); (first | refine OW_callP rfl (hF := hagain) (hk := ?_)); try refine ⟨(by first | exact fun _ h => h | exact sub_mem (by repeat (first | exact .refl _ | exact List.nil_sublist _ | exact List.sublist_append_right _ _ | exact List.Sublist.append (.refl _) (List.sublist_append_right _ _) | apply List.Sublist.cons_cons | apply List.Sublist.cons))), ?_⟩) | refine WL_nil ?_ | refine WR_nil ?_ | refine WC_seq ?_ | refine WC_block ?_ | refine WC_cond_t (ht := ?_) | refine WC_cond_f (he := ?_) | refine WC_skip ?_ | refine WC_ret ?_ | refine WC_exit ?_ | refine WC_draw_all (id := 7) 19 (Cs [0,1,2,3,4,5,6,7,9,10,11,12,13,14,15] <| .must 8 <| .calm 16 <| .must 17 <| .calm 18 <| .done) mixed (by kernel_rfl) ?_)
  rw [show putR (putR (putR (putR (putR zc71 0 (Value.int .i64 3).cells) 1 (Value.int .i64 (last + 1 + s.more)).cells) 4 (Value.int .i64 1).cells) 5 (Value.agg (opC (opA k s.k s.a s.b s.g).1 (opA k s.k s.a s.b s.g).2.1 (opA k s.k s.a s.b s.g).2.2.1 (opA k s.k s.a s.b s.g).2.2.2)).cells) 9 (Value.int .i64 (s.mode % 3)).cells = (cmC (cmS k last s) (.slice none 0 0)).toArray from rfl]
  have hSt := step_fn (c := cmS k last s) (bv := .slice none 0 0) (floor := 0) (F := X ++ L0) hIn.ok hTab (fun q hq => by
    rcases List.mem_append.1 hq with hq | hq
    · exact List.mem_append_left _ hq
    · exact List.mem_append_right _ (hGL q hq)) (VecM.nil _ _) (cmS_r h0 (by omega) hsr) (Nat.zero_le _)
  rw [hIn.try_ (by omega) (by omega) hcl hsr] at hSt
  have hIn2 := hIn.add (k := k) (by omega) (by omega) hcl hsr
  refine WR_op rfl rfl (OW_call rfl (hF := hSt) (hk := ?_))
  rintro _ _ ⟨rfl, S1, X1, rfl, hTab1⟩
  refine ⟨sub_mem ((List.sublist_append_right _ _).trans ((List.sublist_append_right _ _).trans (List.sublist_append_right _ _))), ?_⟩
  repeat (first | (refine RX ?_; (first | refine QW_a ?_ | refine QW_of (Qt_ldX rfl (hn := by with_reducible assumption)) ?_)) | (refine OX ?_; (first | refine OW_callP rfl (hF := hagain) (hk := ?_)); try refine ⟨(by first | exact fun _ h => h | exact sub_mem (by repeat (first | exact .refl _ | exact List.nil_sublist _ | exact List.sublist_append_right _ _ | exact List.Sublist.append (.refl _) (List.sublist_append_right _ _) | apply List.Sublist.cons_cons | apply List.Sublist.cons))), ?_⟩) | refine WL_nil ?_ | refine WR_nil ?_ | refine WC_seq ?_ | refine WC_block ?_ | refine WC_cond_t (ht := ?_) | refine WC_cond_f (he := ?_) | refine WC_skip ?_ | refine WC_ret ?_ | refine WC_exit ?_ | refine WC_draw_all (id := 7) 19 (Cs [0,1,2,3,4,5,6,7,9,10,11,12,13,14,15] <| .must 8 <| .calm 16 <| .must 17 <| .calm 18 <| .done) mixed (by kernel_rfl) ?_ | refine WG 5 ?_)
  rw [ww]
  refine ⟨_, _, by omega, ⟨i + 1, _, _, _, S1, X1 ++ X, rfl, by omega, by rw [List.length_append, hri]; rfl, by omega, hIn2, by rw [List.append_assoc]; exact hTab1, rfl⟩, ⟨rfl, rfl, rfl, rfl, rfl, rfl, trivial⟩, rfl, by rw [List.append_assoc]; exact .refl _⟩
end Go.Proofs.YtekmmhmhcpaiaaaGreat
namespace Go.Proofs.YtekmmhmhcpaiaaaGreat
open Go.RowKit
attribute [local irreducible] Fn WC WL WR OW Qt YieldFn QW FnP FnD FnE
theorem insN_fn {L : List (Nat × Obj)} : Fn Tryz.prog 140 [.slice none 0 0, iV 0, iV 0, ordV] L (fun v L' => v = .tuple #[] ∧ L' = L) := by
  refine Fn_enter Tryz.func140 rfl Tryz.ntmps140 rfl fun gw => ?_
  have d : decide (IntKind.i64.wrap ((0 : Int) + 1) < 0) = false := by decide
  repeat (first | (refine WL_Q ?_; (first | refine QW_a ?_ | refine QW_of (Qt_ldX rfl (hn := by with_reducible assumption)) ?_ | refine QW_of (Qt_entryW rfl hiI2 hmI2 hm hlast) ?_)) | refine WL_nil ?_ | refine WC_seq ?_ | refine WC_block ?_ | refine WC_cond_t (ht := ?_) | refine WC_cond_f (he := ?_) | refine WC_skip ?_ | refine WC_exit ?_ | refine WG 0 ?_)
  refine WC_wk [(8, iV (IntKind.i64.wrap ((0 : Int) + 1))), (2, iV 0)] ⟨rfl, rfl, trivial⟩ ?_
  refine WC_loop (fun m σ => m = 0 ∧ σ = ⟨[(8, iV (IntKind.i64.wrap ((0 : Int) + 1))), (2, iV 0)], [], L⟩) 0 ⟨rfl, rfl⟩ ?_
  rintro _ σ ⟨rfl, rfl⟩
  repeat (first | (refine WL_Q ?_; (first | refine QW_a ?_ | refine QW_of (Qt_ldX rfl (hn := by with_reducible assumption)) ?_ | refine QW_of (Qt_entryW rfl hiI2 hmI2 hm hlast) ?_)) | refine WL_nil ?_ | refine WC_seq ?_ | refine WC_block ?_ | refine WC_cond_t (ht := ?_) | refine WC_cond_f (he := ?_) | refine WC_skip ?_ | refine WC_exit ?_ | refine WG 1 ?_)
  exact ⟨rfl, _, _, Res0 rfl, .refl _, rfl, rfl⟩
theorem stableN_fn {L : List (Nat × Obj)} : Fn Tryz.prog 94 [.slice none 0 0, iV 0, ordV] L (fun v L' => v = .tuple #[] ∧ L' = L) := by
  refine Fn_enter Tryz.func94 rfl Tryz.ntmps94 rfl fun gw => ?_
  repeat (first | (refine WL_Q ?_; (first | refine QW_a ?_ | refine QW_of (Qt_ldX rfl (hn := by with_reducible assumption)) ?_ | refine QW_of (Qt_entryW rfl hiI2 hmI2 hm hlast) ?_)) | refine WL_nil ?_ | refine WC_seq ?_ | refine WC_block ?_ | refine WC_cond_t (ht := ?_) | refine WC_cond_f (he := ?_) | refine WC_skip ?_ | refine WC_exit ?_ | refine WG 0 ?_ | refine WG 1 ?_)
  refine WC_wk [(8, iV 20), (7, iV 0), (6, iV 20), (0, .slice none 0 0), (1, iV 0), (2, ordV)] ⟨rfl, rfl, rfl, rfl, rfl, rfl, trivial⟩ ?_
  refine WC_loop (fun m σ => m = 0 ∧ σ = ⟨[(8, iV 20), (7, iV 0), (6, iV 20), (0, .slice none 0 0), (1, iV 0), (2, ordV)], [], L⟩) 0 ⟨rfl, rfl⟩ ?_
  rintro _ σ ⟨rfl, rfl⟩
  repeat (first | (refine WL_Q ?_; (first | refine QW_a ?_ | refine QW_of (Qt_ldX rfl (hn := by with_reducible assumption)) ?_ | refine QW_of (Qt_entryW rfl hiI2 hmI2 hm hlast) ?_)) | (refine WL_op rfl ?_; (first | refine OW_callP rfl (hF := insN_fn) (hk := ?_))) | refine WL_nil ?_ | refine WC_seq ?_ | refine WC_block ?_ | refine WC_cond_t (ht := ?_) | refine WC_cond_f (he := ?_) | refine WC_skip ?_ | refine WC_exit ?_ | refine WG 2 ?_ | refine WG 6 ?_)
  refine WC_wk [(6, iV 20), (0, .slice none 0 0), (1, iV 0), (2, ordV)] ⟨rfl, rfl, rfl, rfl, trivial⟩ ?_
  refine WC_loop (fun m σ => m = 0 ∧ σ = ⟨[(6, iV 20), (0, .slice none 0 0), (1, iV 0), (2, ordV)], [], L⟩) 0 ⟨rfl, rfl⟩ ?_
  rintro _ σ ⟨rfl, rfl⟩
  repeat (first | (refine WL_Q ?_; (first | refine QW_a ?_ | refine QW_of (Qt_ldX rfl (hn := by with_reducible assumption)) ?_ | refine QW_of (Qt_entryW rfl hiI2 hmI2 hm hlast) ?_)) | refine WL_nil ?_ | refine WC_seq ?_ | refine WC_block ?_ | refine WC_cond_t (ht := ?_) | refine WC_cond_f (he := ?_) | refine WC_skip ?_ | refine WC_exit ?_ | refine WG 7 ?_)
  exact ⟨rfl, _, _, Res0 rfl, .refl _, rfl, rfl⟩
theorem sortN_fn {L : List (Nat × Obj)} : Fn Tryz.prog 49 [.slice none 0 0, ordV] L (fun v L' => v = .tuple #[] ∧ L' = L) := by
  refine Fn_enter Tryz.func49 rfl Tryz.ntmps49 rfl fun gw => ?_
  repeat (first | (refine WL_Q ?_; (first | refine QW_a ?_ | refine QW_of (Qt_ldX rfl (hn := by with_reducible assumption)) ?_ | refine QW_of (Qt_entryW rfl hiI2 hmI2 hm hlast) ?_)) | (refine WL_op rfl ?_; (first | refine OW_callP rfl (hF := stableN_fn) (hk := ?_))) | refine WL_nil ?_ | refine WC_seq ?_ | refine WC_region ?_)
  exact ⟨rfl, _, _, Res0 rfl, .refl _, rfl, rfl⟩
theorem sortB_fn {v : Value} {T : List (Nat × Obj)} {xs : List EnV} {L : List (Nat × Obj)} (hb : Buf 53 10 v T xs.length (enL xs)) (hn : xs.length ≤ 100000) : Fn Tryz.prog 49 [v, ordV] (T ++ L) (fun r L' => r = .tuple #[] ∧ ∃ T' ys, ys.Perm xs ∧ Buf 53 10 v T' xs.length (enL ys) ∧ L' = T' ++ L) := by
  rcases hb with ⟨h1, h2, rfl, rfl⟩ | ⟨g, off, cap, cur, rfl, rfl, ho⟩
  · refine sortN_fn.mono fun r L' h => ⟨h.1, [], xs, .refl _, .inl ⟨h1, h2, rfl, rfl⟩, h.2⟩
  · refine (sortE_fn ho hn).mono ?_
    rintro r L' ⟨rfl, cur', ys, hp, ho', rfl⟩
    refine ⟨rfl, _, ys, hp, .inr ⟨g, off, cap, cur', rfl, rfl, ?_⟩, rfl⟩
    unfold OwnE at ho'
    rw [hp.length_eq] at ho'
    exact ho'
set_option maxHeartbeats 4000000 in
theorem Entries_core {pb mb tb : Nat} {nd cl : Int} {S G F : List (Nat × Obj)} {l : List EnV} (h : PtAt pb mb tb nd cl S G l) (hG : ∀ q ∈ G, q ∈ F) (hn : l.length ≤ 100000) :
    Fn Tryz.prog 19 [.pointer (some ⟨pb, 0, none⟩)] (S ++ F) (fun v L1 => ∃ L', L'.Perm L1 ∧ ∃ T zs, zs.Perm l ∧ VecM 10 T v zs.length (enL zs) ∧ L' = S ++ (T ++ F)) := by
  obtain ⟨es, ck, ps, rfl, hm, hr⟩ := h.h
  refine Fn_enter Tryz.func19 rfl Tryz.ntmps19 rfl fun gw => ?_
  repeat (first | (refine WL_Q ?_; (first | refine QW_a ?_ | refine QW_of (Qt_ldX rfl (hn := by with_reducible assumption)) ?_ | refine QW_of (Qt_entryW rfl hiI2 hmI2 hm hlast) ?_)) | refine WL_nil ?_ | refine WC_seq ?_ | refine WC_block ?_ | refine WC_cond_t (ht := ?_) | refine WC_cond_f (he := ?_) | refine WC_skip ?_ | refine WC_ret ?_ | refine WC_exit ?_ | refine WG 0 ?_ | refine WG 1 ?_ | refine WG 3 ?_)
  refine WL_op rfl (OW_rangeMapW rfl rfl (i := 1) rfl hm ?_)
  intro it hit
  repeat (first | (refine WL_Q ?_; (first | refine QW_a ?_ | refine QW_of (Qt_ldX rfl (hn := by with_reducible assumption)) ?_ | refine QW_of (Qt_entryW rfl hiI2 hmI2 hm hlast) ?_)) | refine WL_nil ?_ | refine WC_seq ?_ | refine WC_block ?_ | refine WC_cond_t (ht := ?_) | refine WC_cond_f (he := ?_) | refine WC_skip ?_ | refine WC_ret ?_ | refine WC_exit ?_ | refine WG 3 ?_)
  obtain ⟨L0, hL0⟩ : ∃ L0, L0 = [(pb, Obj.cells (PtC tb mb nd cl l.length) 89 (0, 0)), (mb, Obj.map es ck)] ++ F := ⟨_, rfl⟩
  have hm0 : L0[1]? = some (mb, Obj.map es ck) := by rw [hL0]; rfl
  have hGL : ∀ q ∈ G, q ∈ L0 := fun q hq => by rw [hL0]; exact List.mem_append_right _ (hG q hq)
  rw [← hL0]
  refine WC_wk [(11, .pointer (some ⟨it, 0, none⟩)), (2, .slice none 0 0)] ⟨rfl, rfl, trivial⟩ ?_
  refine WC_loop (fun m σ => ∃ (v : Value) (Tb : List (Nat × Obj)) (zs : List EnV) (todo : List ((Int × Int) × Value)) (seen : Array Nat), m = todo.length ∧ IterV grpK es seen todo ∧ todo.Sublist ps ∧ zs.Perm (l.filter fun x => decide (x.grp ∉ todo.map Prod.fst)) ∧ Buf 53 10 v Tb zs.length (enL zs) ∧ σ = ⟨[(11, .pointer (some ⟨it, 0, none⟩)), (2, v)], [], (it, Obj.mapIter (some mb) ck seen ck) :: (Tb ++ L0)⟩) ps.length ⟨_, [], [], ps, #[], rfl, hit, .refl _, ?_, Buf.nil _ _, rfl⟩ ?_
  · refine List.Perm.of_eq (List.filter_eq_nil_iff.2 fun x hx => ?_).symm
    simp only [decide_eq_true_eq, Classical.not_not]
    exact Classical.byContradiction fun hno => hr.all x hx (vGet_none.2 hno)
  rintro m σ ⟨v, Tb, zs, todo, seen, rfl, hit, hsub, hz, hb, rfl⟩
  have hmI : ((it, Obj.mapIter (some mb) ck seen ck) :: (Tb ++ L0))[Tb.length + 1 + 1]? = some (mb, Obj.map es ck) := by
    rw [List.getElem?_cons_succ, List.getElem?_append_right (by omega), show Tb.length + 1 - Tb.length = 1 by omega]; exact hm0
  repeat (first | (refine WL_Q ?_; (first | refine QW_a ?_ | refine QW_of (Qt_ldX rfl (hn := by with_reducible assumption)) ?_ | refine QW_of (Qt_entryW rfl hiI2 hmI2 hm hlast) ?_)) | refine WL_nil ?_ | refine WC_seq ?_ | refine WC_block ?_ | refine WC_cond_t (ht := ?_) | refine WC_cond_f (he := ?_) | refine WC_skip ?_ | refine WC_ret ?_ | refine WC_exit ?_ | refine WG 4 ?_)
  refine WL_op rfl (OW_nextMapW rfl rfl (i := 0) rfl hmI hm hit ?_ ?_)
  · rintro rfl
    have hz2 : zs.Perm l := by
      refine hz.trans (List.Perm.of_eq (List.filter_eq_self.2 fun x _ => by simp))
    have hzl : zs.length ≤ 100000 := by rw [hz2.length_eq]; exact hn
    repeat (first | (refine WL_Q ?_; (first | refine QW_a ?_ | refine QW_of (Qt_ldX rfl (hn := by with_reducible assumption)) ?_ | refine QW_of (Qt_entryW rfl hiI2 hmI2 hm hlast) ?_)) | refine WL_nil ?_ | refine WC_seq ?_ | refine WC_block ?_ | refine WC_cond_t (ht := ?_) | refine WC_cond_f (he := ?_) | refine WC_skip ?_ | refine WC_ret ?_ | refine WC_exit ?_ | refine WG 4 ?_ | refine WG 7 ?_)
    refine WL_dropN (.cons _ (.refl _)) ?_
    refine WL_op rfl (OW_call rfl (hF := sortB_fn hb hzl) (hk := ?_))
    rintro _ _ ⟨rfl, T', ys, hpy, hb', rfl⟩
    repeat (first | (refine WL_Q ?_; (first | refine QW_a ?_ | refine QW_of (Qt_ldX rfl (hn := by with_reducible assumption)) ?_ | refine QW_of (Qt_entryW rfl hiI2 hmI2 hm hlast) ?_)) | refine WL_nil ?_ | refine WC_seq ?_ | refine WC_block ?_ | refine WC_cond_t (ht := ?_) | refine WC_cond_f (he := ?_) | refine WC_skip ?_ | refine WC_ret ?_ | refine WC_exit ?_ | refine WG 7 ?_ | refine WG 8 ?_)
    refine ⟨rfl, _, _, Res1 rfl (resV_tmp rfl), .refl _, _, ?_, T', ys, hpy.trans hz2, ?_, rfl⟩
    · rw [hL0]
      exact List.perm_append_comm_assoc ..
    · rw [hpy.length_eq]
      exact hb'.vecM
  · rintro A n v2 B seen' rfl hit' hlast
    simp only [List.set_cons_zero]
    have hmI2 : ((it, Obj.mapIter (some mb) ck seen' ck) :: (Tb ++ L0))[Tb.length + 1 + 1]? = some (mb, Obj.map es ck) := by
      rw [List.getElem?_cons_succ, List.getElem?_append_right (by omega), show Tb.length + 1 - Tb.length = 1 by omega]; exact hm0
    have hiI2 : ((it, Obj.mapIter (some mb) ck seen' ck) :: (Tb ++ L0))[0]? = some (it, Obj.mapIter (some mb) ck seen' ck) := rfl
    have hnv : (n, v2) ∈ ps := hsub.subset (List.mem_append_right _ (.head _))
    have hgv : vGet ps n = some v2 := (vGet_mem hm.keys).2 hnv
    obtain ⟨row, hrne, hvr, hpr⟩ := hr.row n v2 hgv
    have hrl : row.length ≤ l.length := by rw [hpr.length_eq]; exact ofG_len _ _
    have hzl : zs.length ≤ l.length := by rw [hz.length_eq]; exact List.length_filter_le _ _
    have hnd : ((A ++ (n, v2) :: B).map Prod.fst).Nodup := hm.keys.sublist (hsub.map _)
    have hnn : n ∉ (A ++ B).map Prod.fst := by
      rw [List.map_append, List.map_cons] at hnd
      have := (List.perm_middle (a := n) (l₁ := A.map Prod.fst) (l₂ := B.map Prod.fst)).nodup_iff.1 hnd
      rw [List.map_append]
      exact (List.nodup_cons.1 this).1
    obtain ⟨av, cv, rfl, _, _⟩ := id hb.val
    repeat (first | (refine WL_Q ?_; (first | refine QW_a ?_ | refine QW_of (Qt_ldX rfl (hn := by with_reducible assumption)) ?_ | refine QW_of (Qt_entryW rfl hiI2 hmI2 hm hlast) ?_)) | refine WL_nil ?_ | refine WC_seq ?_ | refine WC_block ?_ | refine WC_cond_t (ht := ?_) | refine WC_cond_f (he := ?_) | refine WC_skip ?_ | refine WC_ret ?_ | refine WC_exit ?_ | refine WG 4 ?_ | refine WG 5 ?_ | refine WG 6 ?_)
    refine WL_op rfl (OW_append_bufM (A := [(it, Obj.mapIter (some mb) ck seen' ck)]) rfl rfl rfl rfl rfl hb (m := row.length) (news := enL row) (srcVec (sz := 10) ((hvr.mem hGL).vec fun q hq => List.mem_append_right _ (List.mem_append_right _ hq)) enL_one) (enL_len _) (by simp only [maxLen]; omega) (by omega) ?_)
    intro v' T' hb'
    repeat (first | (refine WL_Q ?_; (first | refine QW_a ?_ | refine QW_of (Qt_ldX rfl (hn := by with_reducible assumption)) ?_ | refine QW_of (Qt_entryW rfl hiI2 hmI2 hm hlast) ?_)) | refine WL_nil ?_ | refine WC_seq ?_ | refine WC_block ?_ | refine WC_cond_t (ht := ?_) | refine WC_cond_f (he := ?_) | refine WC_skip ?_ | refine WC_ret ?_ | refine WC_exit ?_ | refine WG 6 ?_)
    rw [← enL_append, ← List.length_append] at hb'
    refine ⟨_, _, ?_, ⟨v', T', zs ++ row, A ++ B, seen', rfl, hit', (List.Sublist.append (.refl _) (.cons _ (.refl _))).trans hsub, ?_, hb', rfl⟩, ⟨rfl, rfl, trivial⟩, rfl, .refl _⟩
    · rw [List.length_append, List.length_append, List.length_cons]; omega
    · have h1 := filter_either (fun x : EnV => decide (x.grp ∉ (A ++ (n, v2) :: B).map Prod.fst)) (fun x => decide (x.grp = n)) l
      have h2 : (l.filter fun x => !decide (x.grp ∉ (A ++ (n, v2) :: B).map Prod.fst)).filter (fun x => decide (x.grp = n)) = ofG l n := by
        rw [List.filter_filter]
        refine List.filter_congr fun x _ => ?_
        by_cases hg : x.grp = n
        · rw [decide_eq_true hg, Bool.true_and, decide_eq_false]
          · rfl
          · rw [hg]; simp
        · rw [decide_eq_false hg, Bool.false_and]
      rw [h2] at h1
      refine (hz.append hpr).trans (h1.trans (List.Perm.of_eq (List.filter_congr fun x _ => ?_)))
      rw [Bool.eq_iff_iff]
      simp only [Bool.or_eq_true, decide_eq_true_eq]
      rw [List.map_append, List.map_append, List.map_cons] at *
      simp only [List.mem_append, List.mem_cons] at *
      constructor
      · rintro (h | h)
        · exact fun hh => h (hh.elim .inl fun hh => .inr (.inr hh))
        · rw [h]; exact hnn
      · intro h
        by_cases hg : x.grp = n
        · exact .inr hg
        · refine .inl fun hh => ?_
          rcases hh with hh | hh | hh
          · exact h (.inl hh)
          · exact hg hh
          · exact h (.inr hh)
theorem Entries_fn {pb mb tb : Nat} {nd cl : Int} {S G F : List (Nat × Obj)} {l : List EnV} (h : PtAt pb mb tb nd cl S G l) (hG : ∀ q ∈ G, q ∈ F) (hn : l.length ≤ 100000) :
    Fn Tryz.prog 19 [.pointer (some ⟨pb, 0, none⟩)] (S ++ F) (fun v L' => ∃ T zs, zs.Perm l ∧ VecM 10 T v zs.length (enL zs) ∧ L' = S ++ (T ++ F)) := (Entries_core h hG hn).perm (.refl _) fun _ _ h => h
end Go.Proofs.YtekmmhmhcpaiaaaGreat
