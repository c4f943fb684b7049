/-
  A part of what the last of these texts needs; by itself it proves no statement.
-/
import Derived.ProofKit
import Derived.Deep.Slices
import Derived.OpenShut
import Derived.ChangeMaps5
import Derived.ChangeSame
import Derived.ChangeVars
import Derived.JoinedOf
import Derived.LaidLaws
import Derived.LaidHandle
import Derived.Stop.Joined
import Derived.Test.YtakedlockchpcaaGreatDoorKB7
namespace Go.Proofs.YtakedlockchpcaaGreatDoor
open Go.RowKit
attribute [local irreducible] Fn WC WL WR OW Qt YieldFn QW FnP FnD FnE
theorem Put_fit {L : List (Nat × Obj)} {gs : Array Value} {g : GV} {a : Option Addr} {cap : Nat} {a' : Option Addr} {cap' : Nat} (h : GramAt L gs g a cap a' cap') (hf : g.Fit) :
    Fn Tryz.prog 36 [.agg gs] L (fun v L' => v = .tuple #[.string (bstr g.bare.bytes), .int .i64 ((0 : Nat) : Int)] ∧ L' = L) := by
  have := Put_fn h (by have := hf.m.nb; omega) (by have := hf.m.ne; omega)
  rwa [hf.put] at this
theorem Put_lim {L : List (Nat × Obj)} {gs : Array Value} {g : GV} {a : Option Addr} {cap : Nat} {a' : Option Addr} {cap' : Nat} (h : GramAt L gs g a cap a' cap') (hf : g.Lim) :
    Fn Tryz.prog 36 [.agg gs] L (fun v L' => v = .tuple #[.string (bstr g.bytes), .int .i64 ((0 : Nat) : Int)] ∧ L' = L) := by
  have := Put_fn h (by have := hf.few.1; omega) (by have := hf.few.2; omega)
  rwa [hf.put] at this
theorem GV.Lim.len {g : GV} (h : g.Lim) : g.bytes.length ≤ 900000000 := by
  have e1 : ∀ {x : Int}, x < 18446744073709551616 → (enc x.toNat).length ≤ 10 := fun hx => enc_le (n := _) (by omega)
  have l1 := e1 (x := g.life) (by have := h.l1; omega)
  have l2 := e1 (x := g.chan) (by have := h.c1; omega)
  have l3 : (encB g.ack).length ≤ 10 := by cases g.ack <;> simp [encB]
  have l4 := e1 (x := g.seq) h.s1
  have l5 := e1 (x := g.room) (by have := h.r1; omega)
  have lh : g.head.length ≤ 40 := by unfold GV.head; simp only [List.length_append]; omega
  have hel := MV.enc_len h.ok.m (by have := h.few.1; omega) (by have := h.few.2; omega)
  have := h.few
  unfold GV.bytes
  split <;> rw [List.length_append] <;> omega
theorem push_set {xs : Array Value} {n : Nat} {x y : Value} (h : xs.size = n) : (xs.push x).setIfInBounds n y = xs.push y := by
  apply Array.ext_getElem?
  intro j
  rw [Array.getElem?_setIfInBounds, Array.getElem?_push, Array.getElem?_push, Array.size_push]
  by_cases e : n = j
  · subst e
    rw [if_pos rfl, if_pos (by omega), if_pos (by omega)]
  · rw [if_neg e, if_neg (by omega), if_neg (by omega)]
theorem GramAt.gcs {L : List (Nat × Obj)} {gs : Array Value} {g : GV} {a : Option Addr} {cap : Nat} {a' : Option Addr} {cap' : Nat} (h : GramAt L gs g a cap a' cap') : gs = gcs g.life g.chan g.ack g.seq g.room (g.m.cells a cap a' cap') := h.lit
set_option maxRecDepth 100000 in
set_option maxHeartbeats 32000000 in
theorem gback_fn {s : List UInt8} {ds : Array Value} {d : GV} {odd : Bool} {b b' : Option Addr} {bcap bcap' : Nat} {kut : Int} {L : List (Nat × Obj)} (hH : HandleIn L) (hD : GramAt L ds d b bcap b' bcap') (h0 : 0 ≤ kut ∧ kut < 65536) :
    Fn Tryz.prog 8 [.agg (ds.push (.bool odd)), .int .u16 kut, .string (bstr s)] L (fun v L' => v = .bool true ∧ L' = L) := by
  have z2 : 29 < (ds.push (.bool odd)).size := by rw [Array.size_push, hD.size]; decide
  have z3 : (ds.push (.bool false)).size = 30 := by rw [Array.size_push, hD.size]
  have hps := push_set (x := .bool odd) (y := .bool false) hD.size
  refine Fn_enter Tryz.func8 rfl Tryz.ntmps8 rfl fun g => ?_
  repeat (first | ((first | refine WL_Q ?_); (first | refine QW_a ?_)) | ((first | refine WL_op rfl ?_); (first | refine OW_box rfl (hk := fun _ => ?_) | refine OW_st1 rfl ?_ | refine OW_callP rfl (hF := works18_fn (by repeat (first | with_reducible assumption | apply HandleIn.cons))) (hk := ?_))) | refine WL_nil ?_ | refine WC_seq ?_ | refine WC_cond_t (ht := ?_) | refine WC_cond_f (he := ?_) | refine WC_skip ?_ | refine WC_ret ?_ | refine WC_region (id := 0) ?_ | refine WC_region (id := 1) ?_ | refine WC_region (id := 3) ?_)
  rw [hps]
  repeat (first | ((first | refine WL_Q ?_); (first | refine QW_a ?_)) | ((first | refine WL_op rfl ?_); (first | refine OW_st1 rfl ?_ | refine OW_alloc rfl (hk := fun _ => ?_) | refine OW_stA rfl ?_ | refine OW_stN rfl ?_ | (refine OW_call rfl (hF := drafted_fn hD _) (hk := ?_); rintro _ _ ⟨gs, rfl, rfl, hD2⟩))) | refine WL_nil ?_ | refine WC_seq ?_ | refine WC_cond_t (ht := ?_) | refine WC_cond_f (he := ?_) | refine WC_skip ?_ | refine WC_ret ?_ | refine WC_region (id := 3) ?_ | refine WC_region (id := 4) ?_)
  rename_i x3 x7
  obtain ⟨gv, hgv⟩ : ∃ gv, gv = d.draft false := ⟨_, rfl⟩
  rw [← hgv] at hD2
  have hfit : gv.Fit := by rw [hgv] at hD2 ⊢; exact GV.draft_fit hD2.toOk
  have hlim := hfit.lim
  have hone := hD2.one
  have hsz := hD2.size
  repeat (first | ((first | refine WL_Q ?_); (first | refine QW_a ?_)) | ((first | refine WL_op rfl ?_); (first | refine OW_alloc rfl (hk := fun _ => ?_) | refine OW_stA rfl ?_ | refine OW_stN rfl ?_ | (refine OW_call rfl (hF := drafted_fn hD _) (hk := ?_); rintro _ _ ⟨gs, rfl, rfl, hD2⟩) | refine OW_callP rfl (hF := Put_fit (by repeat (first | with_reducible exact hD2 | apply GramAt.cons)) hfit) (hk := ?_))) | refine WL_nil ?_ | refine WC_seq ?_ | refine WC_cond_t (ht := ?_) | refine WC_cond_f (he := ?_) | refine WC_skip ?_ | refine WC_ret ?_ | refine WC_region (id := 4) ?_ | refine WC_region (id := 5) ?_ | refine WC_region (id := 6) ?_)
  obtain ⟨l, hl⟩ : ∃ l, l = gv.bare.bytes := ⟨_, rfl⟩
  have hlen : l.length ≤ 900000000 := by rw [hl]; exact hlim.len
  have hpos : 0 < l.length := by rw [hl]; exact gv.bare.bytes_pos
  have hpg : prGram l = .ok gv.bare l.length := by rw [hl]; exact enc_prGram0 hlim
  rw [← hl]
  refine WL_op rfl (OW_call rfl (hF := Get_fn (l := l) (by omega) (by repeat (first | with_reducible assumption | apply HandleIn.cons | apply HandleIn.left))) (hk := ?_))
  rintro _ _ (⟨x, bb, T, cs', h1, hG, rfl, rfl⟩ | ⟨c, e, p, h1, _⟩)
  rotate_left
  · rw [hpg] at h1; cases h1
  rw [hpg] at h1
  cases h1
  simp only [List.cons_append]
  have hone2 := hG.one hlim.ok.m
  have hsz2 := hG.size hlim.ok.m
  obtain ⟨a1, p1, a1', p1', M1⟩ := gramAt_of hG hlim.ok
  replace M1 := M1.mem' (L' := L ++ T) (fun q hq => List.mem_append_right _ hq)
  repeat (first | ((first | refine WL_Q ?_ | refine WL_Y ?_); (first | refine QW_a ?_)) | ((first | refine WL_op rfl ?_ | refine WL_yes (h := ?_)); (first | refine OW_alloc rfl (hk := fun _ => ?_) | refine OW_stA rfl ?_ | refine OW_stN rfl ?_)) | refine WL_nil ?_ | refine WL_un (h := ?_) | refine WL_N ?_ | refine WL_M ?_ | refine WC_seq ?_ | refine WC_cond_t (ht := ?_) | refine WC_cond_f (he := ?_) | refine WC_skip ?_ | refine WC_ret ?_ | refine WC_region (id := 6) ?_ | refine WC_region (id := 7) ?_)
  rename_i x10
  have k2 := hD2.at_.2.2.1
  repeat (first | ((first | refine WL_Q ?_); (first | refine QW_a ?_)) | refine WL_nil ?_ | refine WC_seq ?_ | refine WC_cond_t (ht := ?_) | refine WC_cond_f (he := ?_) | refine WC_skip ?_ | refine WC_ret ?_ | refine WC_region (id := 9) ?_)
  refine WC_wk [(7, .pointer (some ⟨x7, 0, none⟩)), (8, .string (bstr l)), (10, .pointer (some ⟨x10, 0, none⟩)), (1, .int .u16 kut), (2, .string (bstr s)), (40, .bool gv.ack)] ⟨rfl, rfl, rfl, rfl, rfl, rfl, trivial⟩ ?_
  refine WC_meet (fun σ => ∃ gs3 a2 p2 a2' p2', GramAt (L ++ T) gs3 gv.bare a2 p2 a2' p2' ∧ σ = ⟨[(7, .pointer (some ⟨x7, 0, none⟩)), (8, .string (bstr l)), (10, .pointer (some ⟨x10, 0, none⟩)), (1, .int .u16 kut), (2, .string (bstr s))], [], (x10, gmO cs') :: (x7, gmO gs3) :: (L ++ T)⟩) ?_ ?_
  · have hlit := hD2.gcs
    have hcl : (gv.m.cells b bcap b' bcap').length = 24 := MV.cells_len hfit.m.ok _ _ _ _
    cases ha : gv.ack
    · have hb : gv.bare = ⟨gv.life, gv.chan, false, gv.seq, 0, gv.m.bare⟩ := by unfold GV.bare; rw [ha]; rfl
      rw [ha] at hlit
      subst hlit
      have hs4 : 4 < (gcs gv.life gv.chan false gv.seq gv.room (gv.m.cells b bcap b' bcap')).size := by rw [gcs_size, hcl]; decide
      repeat (first | ((first | refine WL_Q ?_); (first | refine QW_a ?_)) | ((first | refine WL_op rfl ?_); (first | refine OW_st1 rfl ?_)) | refine WL_nil ?_ | refine WC_seq ?_ | refine WC_cond_t (ht := ?_) | refine WC_cond_f (he := ?_) | refine WC_skip ?_ | refine WC_ret ?_ | refine WC_region (id := 11) ?_)
      rw [gcs_s4]
      have hs5 : 5 + 24 ≤ (gcs gv.life gv.chan false gv.seq 0 (gv.m.cells b bcap b' bcap')).size := by rw [gcs_size, hcl]; decide
      have hx5 : (gcs gv.life gv.chan false gv.seq 0 (gv.m.cells b bcap b' bcap')).extract 5 (5 + 24) = (gv.m.cells b bcap b' bcap').toArray := by
        unfold gcs
        apply Array.ext'
        simp only [List.extract_toArray, List.extract_eq_take_drop]
        show List.take 24 (gv.m.cells b bcap b' bcap') = _
        exact List.take_of_length_le (by omega)
      repeat (first | ((first | refine WL_Q ?_); (first | refine QW_a ?_)) | ((first | refine WL_op rfl ?_); (first | refine OW_st1 rfl ?_ | refine OW_stA rfl ?_ | refine OW_stN rfl ?_)) | refine WL_nil ?_ | refine WC_seq ?_ | refine WC_cond_t (ht := ?_) | refine WC_cond_f (he := ?_) | refine WC_skip ?_ | refine WC_ret ?_ | refine WC_region (id := 11) ?_ | refine WC_region (id := 12) ?_)
      rw [hx5]
      refine WL_op rfl (OW_call rfl (hF := only_fn hD2.msg hfit.m _) (hk := ?_))
      rintro _ _ ⟨ms, a2, c2, a2', c2', rfl, rfl, hB⟩
      have hB := hB.at_
      have hBz := hB.size
      have hBo := MV.all_one hB.ok hB.size hB.lies
      have hBc := MV.cells_len hB.ok a2 c2 a2' c2'
      have hBe : ms = (gv.m.bare.cells a2 c2 a2' c2').toArray := lies_whole hB.lies (by rw [hBz, hBc])
      repeat (first | ((first | refine WL_Q ?_); (first | refine QW_a ?_)) | ((first | refine WL_op rfl ?_); (first | refine OW_stA rfl ?_ | refine OW_stN rfl ?_)) | refine WL_nil ?_ | refine WC_seq ?_ | refine WC_cond_t (ht := ?_) | refine WC_cond_f (he := ?_) | refine WC_skip ?_ | refine WC_ret ?_ | refine WC_region (id := 12) ?_)
      subst hBe
      rw [gcs_put (by rw [hcl, hBc])]
      refine ⟨_, ⟨_, a2, c2, a2', c2', ⟨hlim.ok, by rw [hb], ?_, ?_, by rw [hb]; exact hB.c1, by rw [hb]; exact hB.c2, hB.m1, hB.m2⟩, rfl⟩, ⟨rfl, rfl, rfl, rfl, rfl, trivial⟩, rfl, ?_⟩
      · rw [hb]; exact hB.bins.mem fun _ hq => List.mem_append_left _ hq
      · rw [hb]; exact hB.ents.mem fun _ hq => List.mem_append_left _ hq
      · exact .cons_cons _ (.cons_cons _ (.cons _ (.refl _)))
    · have hb : gv.bare = ⟨gv.life, gv.chan, true, gv.seq, gv.room, MV.none⟩ := by unfold GV.bare; rw [ha]; rfl
      rw [ha] at hlit
      subst hlit
      have hs5 : 5 + 24 ≤ (gcs gv.life gv.chan true gv.seq gv.room (gv.m.cells b bcap b' bcap')).size := by rw [gcs_size, hcl]; decide
      repeat (first | ((first | refine WL_Q ?_); (first | refine QW_a ?_)) | ((first | refine WL_op rfl ?_); (first | refine OW_stA rfl ?_ | refine OW_stN rfl ?_)) | refine WL_nil ?_ | refine WC_seq ?_ | refine WC_cond_t (ht := ?_) | refine WC_cond_f (he := ?_) | refine WC_skip ?_ | refine WC_ret ?_ | refine WC_region (id := 10) ?_)
      have ez : putR (gcs gv.life gv.chan true gv.seq gv.room (gv.m.cells b bcap b' bcap')) 5 zc35 = gcs gv.life gv.chan true gv.seq gv.room zMsg := gcs_put (vs := zMsg) (by rw [hcl]; rfl)
      rw [ez]
      refine ⟨_, ⟨_, none, 0, none, 0, ⟨hlim.ok, by rw [hb], ?_, ?_, by rw [hb]; exact Nat.le_refl _, by rw [hb]; exact Nat.le_refl _, by simp [maxLen], by simp [maxLen]⟩, rfl⟩, ⟨rfl, rfl, rfl, rfl, rfl, trivial⟩, rfl, ?_⟩
      · rw [hb]; exact .inl rfl
      · rw [hb]; exact .inl rfl
      · exact .cons_cons _ (.cons_cons _ (.cons _ (.refl _)))
  rintro _ ⟨gs3, a2, p2, a2', p2', M2, rfl⟩
  have hsz3 := M2.size
  have hone3 := M2.one
  have nb := hlim.few.1
  have ne := hlim.few.2
  have d1 : (((l.length : Nat) : Int) == 0) = false := by simp only [beq_eq_false_iff_ne, ne_eq]; omega
  have w1 : IntKind.i64.wrap kut = kut := wI64 (by omega) (by omega)
  have hne : ((l.length : Nat) : Int) ≠ 0 := by omega
  obtain ⟨k, hk⟩ : ∃ k : Nat, kut.tmod (l.length : Int) = (k : Int) := ⟨(kut.tmod (l.length : Int)).toNat, by
    have := Int.tmod_nonneg (l.length : Int) h0.1
    omega⟩
  have hkl : k < l.length := by
    have := Int.tmod_lt_of_pos kut (b := (l.length : Int)) (by omega)
    omega
  have k0 : (0 : Int) ≤ (IntKind.i64.wrap kut).tmod (l.length : Int) := by rw [w1, hk]; omega
  have k1 : (IntKind.i64.wrap kut).tmod (l.length : Int) ≤ (l.length : Int) := by rw [w1, hk]; omega
  repeat (first | ((first | refine WL_Q ?_); (first | refine QW_a ?_)) | ((first | refine WL_op rfl ?_); (first | refine OW_alloc rfl (hk := fun _ => ?_) | refine OW_stA rfl ?_ | refine OW_stN rfl ?_ | refine OW_callP rfl (hF := sameGram_fn (by repeat (first | with_reducible exact M1 | apply GramAt.cons)) (by repeat (first | with_reducible exact M2 | apply GramAt.cons)) (by omega) (by omega)) (hk := ?_))) | refine WL_nil ?_ | refine WC_seq ?_ | refine WC_cond_t (ht := ?_) | refine WC_cond_f (he := ?_) | refine WC_skip ?_ | refine WC_ret ?_ | refine WC_region (id := 13) ?_ | refine WC_region (id := 15) ?_ | refine WC_region (id := 17) ?_)
  rw [w1, hk, Int.toNat_natCast]
  have hl2 : (l.take k).length ≤ 1000000000 := by rw [List.length_take]; omega
  refine WL_op rfl (OW_call rfl (hF := Get_fn (l := l.take k) hl2 (by repeat (first | with_reducible assumption | apply HandleIn.cons | apply HandleIn.left))) (hk := ?_))
  rintro _ _ (⟨x, bb, T', cs2, h1, _⟩ | ⟨c, e, p, h1, rfl, rfl⟩)
  · rw [hl] at h1 hkl
    exact absurd h1 (cut_prGram hlim hkl)
  repeat (first | ((first | refine WL_Q ?_); (first | refine QW_a ?_)) | ((first | refine WL_op rfl ?_); (first | refine OW_alloc rfl (hk := fun _ => ?_) | refine OW_stA rfl ?_ | refine OW_stN rfl ?_)) | refine WL_nil ?_ | refine WC_seq ?_ | refine WC_cond_t (ht := ?_) | refine WC_cond_f (he := ?_) | refine WC_skip ?_ | refine WC_ret ?_ | refine WC_region (id := 17) ?_ | refine WC_region (id := 18) ?_ | refine WC_region (id := 20) ?_ | refine WC_region (id := 21) ?_)
  rename_i x12
  obtain ⟨t, ht⟩ : ∃ t, t = s.take (if (200 : Int) < s.length then (200 : Int) else s.length).toNat := ⟨_, rfl⟩
  have ht2 : t.length ≤ 200 := by rw [ht, List.length_take]; split <;> omega
  rw [← ht]
  repeat (first | ((first | refine WL_Q ?_); (first | refine QW_a ?_)) | ((first | refine WL_op rfl ?_); (first | refine OW_alloc rfl (hk := fun _ => ?_) | refine OW_stA rfl ?_ | refine OW_stN rfl ?_)) | refine WL_nil ?_ | refine WC_seq ?_ | refine WC_cond_t (ht := ?_) | refine WC_cond_f (he := ?_) | refine WC_skip ?_ | refine WC_ret ?_ | refine WC_region (id := 20) ?_ | refine WC_region (id := 21) ?_)
  refine WL_op rfl (OW_call rfl (hF := Get_fn (l := t) (by omega) (by repeat (first | with_reducible assumption | apply HandleIn.cons | apply HandleIn.left))) (hk := ?_))
  rintro _ _ (⟨y, bb, T', cs2, h3, hG2, rfl, rfl⟩ | ⟨c', e', p', h3, rfl, rfl⟩)
  · obtain ⟨hL, _, ey⟩ := prGram_went h3
    have hone4 := hG2.one hL.ok.m
    have hsz4 := hG2.size hL.ok.m
    obtain ⟨a3, p3, a3', p3', M3⟩ := gramAt_of hG2 hL.ok
    simp only [List.cons_append, List.append_assoc]
    replace M3 := M3.mem' (L' := L ++ (T ++ T')) (fun q hq => List.mem_append_right _ (List.mem_append_right _ hq))
    repeat (first | ((first | refine WL_Q ?_); (first | refine QW_a ?_)) | ((first | refine WL_op rfl ?_); (first | refine OW_alloc rfl (hk := fun _ => ?_) | refine OW_stA rfl ?_ | refine OW_stN rfl ?_ | refine OW_callP rfl (hF := Put_lim (by repeat (first | with_reducible exact M3 | apply GramAt.cons)) hL) (hk := ?_))) | refine WL_nil ?_ | refine WC_seq ?_ | refine WC_cond_t (ht := ?_) | refine WC_cond_f (he := ?_) | refine WC_skip ?_ | refine WC_ret ?_ | refine WC_region (id := 21) ?_ | refine WC_region (id := 22) ?_ | refine WC_region (id := 24) ?_)
    rw [ey]
    have q1 : (t == t) = true := beq_self_eq_true _
    repeat (first | ((first | refine WL_Q ?_ | refine WL_Y ?_); (first | refine QW_a ?_)) | ((first | refine WL_op rfl ?_ | refine WL_yes (h := ?_)); (first | refine OW_callP rfl (hF := Put_lim (by repeat (first | with_reducible exact M3 | apply GramAt.cons)) hL) (hk := ?_))) | refine WL_nil ?_ | refine WL_un (h := ?_) | refine WL_N ?_ | refine WL_M ?_ | refine WC_seq ?_ | refine WC_cond_t (ht := ?_) | refine WC_cond_f (he := ?_) | refine WC_skip ?_ | refine WC_ret ?_ | refine WC_region (id := 24) ?_ | refine WC_region (id := 25) ?_)
    exact ⟨rfl, _, L, Res1 rfl (resV_tmp rfl), (by repeat (first | exact List.Sublist.refl _ | exact List.sublist_append_left _ _ | apply List.Sublist.cons)), by rw [q1], rfl⟩
  · 
    repeat (first | ((first | refine WL_Q ?_); (first | refine QW_a ?_)) | ((first | refine WL_op rfl ?_); (first | refine OW_alloc rfl (hk := fun _ => ?_) | refine OW_stA rfl ?_ | refine OW_stN rfl ?_ | refine OW_callP rfl (hF := sameGram_fn zGram_at zGram_at (Nat.zero_le _) (Nat.zero_le _)) (hk := ?_))) | refine WL_nil ?_ | refine WC_seq ?_ | refine WC_cond_t (ht := ?_) | refine WC_cond_f (he := ?_) | refine WC_skip ?_ | refine WC_ret ?_ | refine WC_region (id := 21) ?_ | refine WC_region (id := 22) ?_ | refine WC_region (id := 23) ?_)
    exact ⟨rfl, _, L, Res1 rfl (resV_tmp rfl), (by repeat (first | exact List.Sublist.refl _ | exact List.sublist_append_left _ _ | apply List.Sublist.cons)), rfl, rfl⟩
end Go.Proofs.YtakedlockchpcaaGreatDoor
namespace Go.Proofs.YtakedlockchpcaaGreatDoor
open Go.ChangeShapes Go.WideShapes Go.ChangeAt Go.RowKit
theorem ownOf : ownKnob Tryz.prog.godebug = none := by kernel_rfl
theorem laidOf : laidOutB Tryz.prog = true := by kernel_rfl
def allL (W : World) : List (Nat × Obj) := W.heap.toList.zipIdx.map fun p => (p.2, p.1)
theorem allL_get {W : World} {b : Nat} {o : Obj} (h : W.heap[b]? = some o) : (allL W)[b]? = some (b, o) := by
  simp [allL, h]
theorem allL_mem {W : World} {p : Nat × Obj} : p ∈ allL W → W.heap[p.1]? = some p.2 := fun h => by
  simp only [allL, List.mem_map] at h
  obtain ⟨⟨o, b⟩, h1, rfl⟩ := h
  have := List.mem_zipIdx_iff_getElem?.1 h1
  simpa using this
theorem allL_mem_of {W : World} {b : Nat} {o : Obj} (h : W.heap[b]? = some o) : (b, o) ∈ allL W := List.mem_of_getElem? (allL_get h)
theorem mem_allL (W : World) : Mem W (allL W) W where
  os := rfl
  tape := rfl
  output := rfl
  size := Nat.le_refl _
  nodup := by
    have : (allL W).map Prod.fst = List.range W.heap.size := by
      simp only [allL, List.map_map]
      apply List.ext_getElem?
      intro i
      simp only [List.getElem?_map, List.getElem?_zipIdx, Array.getElem?_toList]
      by_cases h : i < W.heap.size
      · simp [h]
      · simp [h]
    rw [this]; exact List.nodup_range
  has := fun _ h => allL_mem h
theorem below_of_mem {W W' : World} (h : Mem W (allL W) W') : Below W.heap.size W W' where
  os := h.os
  tape := h.tape
  output := h.output
  size := h.size
  block := fun k hk => by
    have h1 : W.heap[k]? = some W.heap[k] := Array.getElem?_eq_getElem hk
    rw [h1]
    exact h.has (k, W.heap[k]) (allL_mem_of h1)
theorem trodAll_stays {H : Type} {enc : TypeId × Value → H} {P : Program} (hl : laidOutB P = true) {W W' : World} (hb : Below W.heap.size W W') : ∀ {ts : List TypeId} {vs : List Value} {ds : List (DataW H)} {ps : List MemPlace},
    (∀ t ∈ ts, P.readableRec t = true ∧ t < P.types.size) → DataW.TrodAll enc P W 0 (fun _ => true) true ts vs ds ps → (∀ x ∈ ps, x.block < W.heap.size) → DataW.TrodAll enc P W' 0 (fun b => decide (b < W.heap.size)) true ts vs ds ps
  | [], _, _, _, _, h, _ => by obtain ⟨rfl, rfl, rfl⟩ := trodAll_nil h; exact trodAll_mk0
  | t :: ts, _, _, _, ht, h, hp => by
    obtain ⟨v, vs', d, ds', p, q, rfl, rfl, rfl, h1, h2⟩ := trodAll_cons h
    have h3 := ht t (by simp)
    exact ⟨p, q, Below.trod hl h3.1 h3.2 h1 hb (fun x hx => hp x (by simp [hx])), trodAll_stays hl hb (fun t' h' => ht t' (by simp [h'])) h2 (fun x hx => hp x (by simp [hx])), rfl⟩
theorem post_law {H : Type} {enc : TypeId × Value → H} {P : Program} {f : Func} {s : ChangeSpec} {W W' : World} {args : Array Value} {ds gs : List (DataW H)} {before : List MemPlace} {tb : TypeId} (hl : laidOutB P = true)
    (hts : (f.params.toList.all fun t => P.readableRec t && decide (t < P.types.size)) = true) (hv : s.vars = []) (hr : f.resultTypes = #[tb]) (hb : P.underlying tb = some .bool)
    (hfn : s.fn H (ds ++ gs) = { results := [.lit (.bool true)], args := ds }) (hW : DataW.Whole enc P f.params.toList s.vars false W args.toList ds gs before) (hbel : Below W.heap.size W W') :
    s.post enc P f false true false false W args (.bool true) W' := by
  have hlt := hW.lt
  have hW' := hW
  obtain ⟨p, q, hA, hV, rfl, _, _⟩ := hW
  rw [hv] at hV
  obtain ⟨rfl, rfl⟩ := trodVars_none hV
  have hts' : ∀ t ∈ f.params.toList, P.readableRec t = true ∧ t < P.types.size := fun t ht => by
    have := List.all_eq_true.1 hts t ht
    simpa using this
  refine ⟨ds, [], p ++ [], [], p, [], hW', ?_, ?_, ?_, hbel.frame _, fun h => by cases h⟩
  · rw [hfn, hr]
    exact trodAll_mk1 (shut_bool hb true)
  · rw [hfn]
    exact trodAll_stays hl hbel hts' hA (fun x hx => by simpa using hlt x (by simp [hx]))
  · rw [hfn, hv]; rfl
theorem u8_bounds {x : Int} (h : (Lit.int .u8 x).wf = true) : 0 ≤ x ∧ x < 256 := by
  have h1 := h
  simp only [Lit.wf, Bool.and_eq_true, decide_eq_true_eq] at h1
  have e1 : IntKind.u8.min = 0 := rfl
  have e2 : IntKind.u8.max = 255 := rfl
  omega
theorem u16_bounds {x : Int} (h : (Lit.int .u16 x).wf = true) : 0 ≤ x ∧ x < 65536 := by
  have h1 := h
  simp only [Lit.wf, Bool.and_eq_true, decide_eq_true_eq] at h1
  have e1 : IntKind.u16.min = 0 := rfl
  have e2 : IntKind.u16.max = 65535 := rfl
  omega
theorem u32_bounds {x : Int} (h : (Lit.int .u32 x).wf = true) : 0 ≤ x ∧ x < 4294967296 := by
  have h1 := h
  simp only [Lit.wf, Bool.and_eq_true, decide_eq_true_eq] at h1
  have e1 : IntKind.u32.min = 0 := rfl
  have e2 : IntKind.u32.max = 4294967295 := rfl
  omega
theorem u64_bounds {x : Int} (h : (Lit.int .u64 x).wf = true) : 0 ≤ x ∧ x < 18446744073709551616 := by
  have h1 := h
  simp only [Lit.wf, Bool.and_eq_true, decide_eq_true_eq] at h1
  have e1 : IntKind.u64.min = 0 := rfl
  have e2 : IntKind.u64.max = 18446744073709551615 := rfl
  omega
theorem i64_bounds {x : Int} (h : (Lit.int .i64 x).wf = true) : -9223372036854775808 ≤ x ∧ x < 9223372036854775808 := by
  have h1 := h
  simp only [Lit.wf, Bool.and_eq_true, decide_eq_true_eq] at h1
  have e1 : IntKind.i64.min = -9223372036854775808 := rfl
  have e2 : IntKind.i64.max = 9223372036854775807 := rfl
  omega
end Go.Proofs.YtakedlockchpcaaGreatDoor
namespace Go.Proofs.YtakedlockchpcaaGreatDoor
open Go.ChangeShapes Go.WideShapes Go.ChangeAt Go.RowKit Go.Deep
structure Rd (α : Type) where
  n : Nat
  lie : List (Nat × Obj) → α → (Nat → Option Value) → Prop
  mono : ∀ {L a g g'}, (∀ k v, g k = some v → g' k = some v) → lie L a g → lie L a g'
def intR (k : IntKind) : Rd Int where
  n := 1
  lie := fun _ x g => g 0 = some (.int k x) ∧ (Lit.int k x).wf = true
  mono := fun h h1 => ⟨h _ _ h1.1, h1.2⟩
def boolR : Rd Bool where
  n := 1
  lie := fun _ x g => g 0 = some (.bool x)
  mono := fun h h1 => h _ _ h1
def pairR {α β : Type} (r : Rd α) (s : Rd β) : Rd (α × β) where
  n := r.n + s.n
  lie := fun L x g => r.lie L x.1 g ∧ s.lie L x.2 (fun k => g (r.n + k))
  mono := fun h h1 => ⟨r.mono h h1.1, s.mono (fun _ _ h2 => h _ _ h2) h1.2⟩
def Sound {α : Type} (P : Program) (t : TypeId) (r : Rd α) : Prop :=
  P.cellsOf t = r.n ∧ ∀ {H : Type} {enc : TypeId × Value → H} {W : World} {fuel : Nat} {cs : List Value} {x : DataW H × List MemPlace}, DataW.trod enc P W 0 (fun _ => true) true fuel t cs = some x → ∃ a, r.lie (allL W) a (fun k => cs[k]?)
variable {P : Program} {t : TypeId}
theorem sound_int {k : IntKind} (ht : P.underlying t = some (.int k)) (hc : P.cellsOf t = 1) : Sound P t (intR k) := ⟨hc, fun h => by
  obtain ⟨n, rfl, _, hw⟩ := DataW.trod_int ht h
  exact ⟨n, rfl, hw⟩⟩
theorem sound_bool (ht : P.underlying t = some .bool) (hc : P.cellsOf t = 1) : Sound P t boolR := ⟨hc, fun h => by
  obtain ⟨n, rfl, _⟩ := DataW.trod_bool ht h
  exact ⟨n, rfl⟩⟩
theorem cut_get {cs : List Value} {o n k : Nat} {v : Value} (h : ((cs.drop o).take n)[k]? = some v) : cs[o + k]? = some v := by
  rw [List.getElem?_take] at h
  split at h
  · rwa [List.getElem?_drop] at h
  · cases h
theorem choose_list {α : Type} {n : Nat} {p : Nat → α → Prop} (h : ∀ i, i < n → ∃ x, p i x) : ∃ xs : List α, xs.length = n ∧ ∀ i x, xs[i]? = some x → p i x := by
  induction n with
  | zero => exact ⟨[], rfl, by simp⟩
  | succ n ih =>
    obtain ⟨xs, h1, h2⟩ := ih fun i hi => h i (by omega)
    obtain ⟨x, hx⟩ := h n (by omega)
    refine ⟨xs ++ [x], by simp [h1], fun i y hy => ?_⟩
    by_cases hi : i < n
    · rw [List.getElem?_append_left (by omega)] at hy; exact h2 i y hy
    · rw [List.getElem?_append_right (by omega)] at hy
      have : i = n := by
        have := (List.getElem?_eq_some_iff.1 hy).1
        simp at this; omega
      subst this
      rw [h1, Nat.sub_self] at hy
      simp at hy; subst hy; exact hx
theorem cells_get {W : World} {a : Addr} {n k : Nat} {cs : List Value} (h : W.cells? 0 a n = some cs) (hk : k < n) : ∃ v, cs[k]? = some v ∧ W.cell? (a.add k) = some v := by
  obtain ⟨_, hl, hat⟩ := World.cells?_some h
  exact ⟨cs[k]'(by omega), List.getElem?_eq_getElem (by omega), by rw [hat k hk, List.getElem?_eq_getElem (by omega)]⟩
end Go.Proofs.YtakedlockchpcaaGreatDoor
namespace Go.Proofs.YtakedlockchpcaaGreatDoor
open Go.ChangeShapes Go.WideShapes Go.ChangeAt Go.RowKit
theorem arg_str {H : Type} {enc : TypeId × Value → H} {P : Program} {W : World} {r : Reach} {b0 t : TypeId} {v : Value} {d : DataW H} {p : List MemPlace} (ht : P.underlying t = some .string) (hval : Value.okWide P W r b0 t v) (h : DataW.Trod enc P W 0 (fun _ => true) true t v d p) :
    ∃ l : List UInt8, v = .string (bstr l) ∧ l.length ≤ maxLen := by
  obtain ⟨s, rfl, _, _, hs⟩ := Go.ChangeMaps.open_string ht hval h
  refine ⟨s.data.toList, by rw [← bstr_of], ?_⟩
  simpa using hs
end Go.Proofs.YtakedlockchpcaaGreatDoor
namespace Go.Proofs.YtakedlockchpcaaGreatDoor
open Go.ChangeShapes Go.WideShapes Go.ChangeAt Go.RowKit Go.Deep
def SlLieZ {α : Type} (r : Rd α) (L : List (Nat × Obj)) (a : Option Addr) (xs : List α) : Prop :=
  xs = [] ∨ ∃ (b off : Nat) (cs : Array Value) (E : TypeId) (fr : Nat × Nat) (i : Nat), a = some ⟨b, off, none⟩ ∧ L[i]? = some (b, Obj.cells cs E fr) ∧ (∀ k, k < xs.length * r.n → ¬ (fr.1 ≤ off + k ∧ off + k < fr.2)) ∧ ∀ j x, xs[j]? = some x → r.lie L x (fun k => cs[off + j * r.n + k]?)
def sliceZ {α : Type} (r : Rd α) : Rd (List α) where
  n := 1
  lie := fun L xs g => ∃ a cap, g 0 = some (.slice a xs.length cap) ∧ xs.length ≤ cap ∧ cap ≤ maxLen ∧ SlLieZ r L a xs
  mono := fun h ⟨a, cap, h1, h2⟩ => ⟨a, cap, h _ _ h1, h2⟩
def SoundZ {α : Type} (P : Program) (t : TypeId) (r : Rd α) : Prop :=
  P.cellsOf t = r.n ∧ ∀ {H : Type} {enc : TypeId × Value → H} {W : World} {fuel : Nat} {cs : List Value} {x : DataW H × List MemPlace}, DataW.trod enc P W 0 (fun _ => true) true fuel t cs = some x → W.noneFrozen x.2 → ∃ a, r.lie (allL W) a (fun k => cs[k]?)
variable {P : Program} {t : TypeId}
theorem Sound.z {α : Type} {r : Rd α} (h : Sound P t r) : SoundZ P t r := ⟨h.1, fun h1 _ => h.2 h1⟩
theorem noneFrozen_sub {W : World} {p q : List MemPlace} (h : W.noneFrozen p) (hs : ∀ x ∈ q, x ∈ p) : W.noneFrozen q := fun b off hm => h b off (hs _ hm)
theorem soundZ_slice {α : Type} {r : Rd α} {e : TypeId} (ht : P.underlying t = some (.slice e)) (hc : P.cellsOf t = 1) (hr : 0 < r.n) (he : SoundZ P e r) : SoundZ P t (sliceZ r) := ⟨hc, fun {H enc W fuel cs x} h hz => by
  rcases open_slice ht h with ⟨rfl, _⟩ | ⟨a, len, cap, m, n, D, Pl, rfl, _, hl, hm, hmm, rfl, hi⟩
  · exact ⟨[], none, 0, rfl, Nat.le_refl _, Nat.zero_le _, .inl rfl⟩
  · simp only [if_true] at hmm
    subst hmm
    by_cases h0 : len = 0
    · subst h0; exact ⟨[], some a, m, rfl, Nat.zero_le _, hm, .inl rfl⟩
    rw [he.1] at hi hz
    have hblock : ∃ b off cs E fr, a = ⟨b, off, none⟩ ∧ W.heap[b]? = some (Obj.cells cs E fr) := by
      obtain ⟨cs', h1, _⟩ := hi 0 (by omega)
      obtain ⟨v, _, hv⟩ := cells_get h1 hr
      have e0 : (a.add (0 * r.n)).add 0 = a := by simp [Addr.add]
      rw [e0] at hv
      obtain ⟨b, off, spot⟩ := a
      simp only [World.cell?] at hv
      split at hv
      · rename_i cs E fr hb
        split at hv
        · cases hv
        · rename_i hs
          have hs' : spot = none := by cases spot with | none => rfl | some _ => simp at hs
          subst hs'
          exact ⟨b, off, cs, E, fr, rfl, hb⟩
      · cases hv
    obtain ⟨b, off, cs, E, fr, rfl, hb⟩ := hblock
    obtain ⟨ys, h1, h2⟩ := choose_list (n := len) (p := fun j x => r.lie (allL W) x (fun k => cs[off + j * r.n + k]?)) fun i hlt => by
      obtain ⟨cs', hc1, ht1⟩ := hi i (by omega)
      obtain ⟨x, hx⟩ := he.2 ht1 (noneFrozen_sub hz fun q hq => List.mem_append_right _ (List.mem_flatMap.2 ⟨i, List.mem_range.2 (by omega), hq⟩))
      refine ⟨x, r.mono (fun k v hk => ?_) hx⟩
      have hk2 : k < r.n := by
        obtain ⟨_, hl2, _⟩ := World.cells?_some hc1
        have := (List.getElem?_eq_some_iff.1 hk).1
        omega
      obtain ⟨v', e1, e2⟩ := cells_get hc1 hk2
      rw [hk] at e1; cases e1
      rw [add_add, Addr.add_mid, World.cell?] at e2
      simp only [hb] at e2
      rw [Nat.add_assoc]
      simpa using e2
    refine ⟨ys, some ⟨b, off, none⟩, m, by rw [h1]; rfl, by omega, hm, .inr ⟨b, off, cs, E, fr, b, rfl, allL_get hb, fun k hk hf => ?_, h2⟩⟩
    rw [h1] at hk
    have hkm : k < m * r.n := Nat.lt_of_lt_of_le hk (Nat.mul_le_mul_right _ hl)
    have := hz b (off + k) (List.mem_append_left _ (by
      unfold MemPlace.row
      exact List.mem_map.2 ⟨k, List.mem_range.2 hkm, rfl⟩))
    obtain ⟨lo, hi'⟩ := fr
    unfold World.frozen? at this
    simp only [hb, Bool.and_eq_false_iff, decide_eq_false_iff_not] at this
    simp only at hf
    omega⟩
def SoundZF {α : Type} (P : Program) (fs : List Field) (off : Nat) (r : Rd α) : Prop :=
  ∀ {H : Type} {enc : TypeId × Value → H} {W : World} {n : Nat} {cs : List Value} {xs : List (DataW H × List MemPlace)}, xs.length = fs.length → (∀ x ∈ xs, W.noneFrozen x.2) →
    (∀ (i : Nat) (f : Field), fs[i]? = some f → DataW.trod enc P W 0 (fun _ => true) true n f.type ((cs.drop f.offset).take (P.cellsOf f.type)) = xs[i]?) → ∃ a, r.lie (allL W) a (fun k => cs[off + k]?)
theorem soundZF_one {α : Type} {r : Rd α} {f : Field} {off : Nat} (h : SoundZ P f.type r) (ho : f.offset = off) : SoundZF P [f] off r := fun {H enc W n cs xs} hl hz hi => by
  have h1 := hi 0 f rfl
  obtain ⟨y, hy⟩ : ∃ y, xs[0]? = some y := ⟨xs[0]'(by simp [hl]), List.getElem?_eq_getElem _⟩
  rw [hy] at h1
  obtain ⟨a, ha⟩ := h.2 h1 (hz y (List.mem_of_getElem? hy))
  refine ⟨a, r.mono (fun k v hk => ?_) ha⟩
  have := cut_get hk
  rwa [ho] at this
theorem soundZF_cons {α β : Type} {r : Rd α} {s : Rd β} {f : Field} {fs : List Field} {off : Nat} (h : SoundZ P f.type r) (ho : f.offset = off) (hs : SoundZF P fs (off + r.n) s) : SoundZF P (f :: fs) off (pairR r s) := fun {H enc W n cs xs} hl hz hi => by
  obtain ⟨y, xs, rfl⟩ : ∃ y ys, xs = y :: ys := by
    cases xs with
    | nil => simp at hl
    | cons y ys => exact ⟨y, ys, rfl⟩
  obtain ⟨a, ha⟩ := soundZF_one (P := P) h ho (enc := enc) (W := W) (n := n) (cs := cs) (xs := [y]) rfl (fun x hx => hz x (by rw [List.mem_singleton.1 hx]; exact List.mem_cons_self)) (fun i g hg => by
    cases i with
    | zero => exact hi 0 g hg
    | succ i => simp at hg)
  obtain ⟨b, hb⟩ := hs (enc := enc) (W := W) (n := n) (cs := cs) (xs := xs) (by simpa using hl) (fun x hx => hz x (List.mem_cons_of_mem _ hx)) (fun i g hg => hi (i + 1) g hg)
  exact ⟨(a, b), ha, by simpa [Nat.add_assoc] using hb⟩
theorem soundZ_struct {α : Type} {r : Rd α} {fs : Array Field} (ht : P.underlying t = some (.struct fs)) (hc : P.cellsOf t = r.n) (h : SoundZF P fs.toList 0 r) : SoundZ P t r := ⟨hc, fun hx hz => by
  obtain ⟨xs, n, _, rfl, _, hl, hi⟩ := DataW.trod_struct ht hx
  obtain ⟨a, ha⟩ := h (by simpa using hl) (fun x hx' => noneFrozen_sub hz fun q hq => List.mem_flatMap.2 ⟨x, hx', hq⟩) (fun i f hf => hi i f (by simpa using hf))
  exact ⟨a, by simpa using ha⟩⟩
theorem argZ_agg {α : Type} {H : Type} {enc : TypeId × Value → H} {W : World} {rc : Reach} {b0 : TypeId} {r : Rd α} {v : Value} {d : DataW H} {p : List MemPlace} {fs : Array Field} (ht : P.underlying t = some (.struct fs)) (hs : SoundZ P t r)
    (hval : Value.okWide P W rc b0 t v) (h : DataW.Trod enc P W 0 (fun _ => true) true t v d p) (hz : W.noneFrozen p) : ∃ (cs : Array Value) (x : α), v = .agg cs ∧ cs.size = r.n ∧ r.lie (allL W) x (fun k => cs[k]?) := by
  obtain ⟨cs, rfl, hsz⟩ := okWide_struct ht hval
  obtain ⟨fuel, hf⟩ := h
  obtain ⟨x, h1⟩ := hs.2 hf hz
  exact ⟨cs, x, rfl, by rw [hsz, hs.1], by simpa [Value.cells] using h1⟩
end Go.Proofs.YtakedlockchpcaaGreatDoor
namespace Go.Proofs.YtakedlockchpcaaGreatDoor
open Go.ChangeShapes Go.WideShapes Go.ChangeAt Go.RowKit
abbrev msgR := (pairR (intR .i64) (pairR (intR .i64) (pairR (pairR (intR .u32) (pairR (intR .i64) (pairR (intR .i64) (pairR (intR .u8) (pairR boolR boolR))))) (pairR (intR .i64) (pairR (intR .i64) (pairR (pairR (intR .i64) (pairR (intR .i64) (pairR (sliceZ (intR .i64)) (pairR (intR .i64) (pairR (intR .i64) (pairR (pairR (intR .i64) (pairR (intR .i64) (pairR (intR .i64) (intR .i64)))) (intR .i64))))))) (pairR (intR .i64) (pairR (intR .i64) (pairR boolR (sliceZ (pairR (intR .i64) (pairR (intR .u32) (pairR (intR .i64) (pairR (intR .i64) (pairR (intR .u8) (pairR (intR .i64) (pairR (intR .i64) (pairR (intR .u64) (pairR (intR .i64) (intR .i64))))))))))))))))))))
abbrev entR := (pairR (intR .i64) (pairR (intR .u32) (pairR (intR .i64) (pairR (intR .i64) (pairR (intR .u8) (pairR (intR .i64) (pairR (intR .i64) (pairR (intR .u64) (pairR (intR .i64) (intR .i64))))))))))
theorem ok_ww {x : Int} (h : (Lit.int .i64 x).wf = true) : Fk.ok .ww (.int .i64 x) := ⟨x, rfl, (i64_bounds h).1, (i64_bounds h).2⟩
theorem ok_nn {x : Int} (h : (Lit.int .u64 x).wf = true) : Fk.ok .nn (.int .u64 x) := ⟨x, rfl, (u64_bounds h).1, (u64_bounds h).2⟩
theorem ok_kk {x : Int} (h : (Lit.int .u32 x).wf = true) : Fk.ok .kk (.int .u32 x) := ⟨x, rfl, (u32_bounds h).1, (u32_bounds h).2⟩
theorem ok_bb {x : Int} (h : (Lit.int .u8 x).wf = true) : Fk.ok .bb (.int .u8 x) := ⟨UInt8.ofNat x.toNat, by
  have hb := u8_bounds h
  simp only [bV, UInt8.toNat_ofNat', Value.int.injEq, true_and]
  omega⟩
theorem ok_tt (x : Bool) : Fk.ok .tt (.bool x) := ⟨x, rfl⟩
abbrev RecT := Int × Int × Int × Int × Bool × Bool
def rcV (x : RecT) : List Value := [.int .u32 x.1, .int .i64 x.2.1, .int .i64 x.2.2.1, .int .u8 x.2.2.2.1, .bool x.2.2.2.2.1, .bool x.2.2.2.2.2]
abbrev EntT := Int × Int × Int × Int × Int × Int × Int × Int × Int × Int
def enV (x : EntT) : List Value := [.int .i64 x.1, .int .u32 x.2.1, .int .i64 x.2.2.1, .int .i64 x.2.2.2.1, .int .u8 x.2.2.2.2.1, .int .i64 x.2.2.2.2.2.1, .int .i64 x.2.2.2.2.2.2.1, .int .u64 x.2.2.2.2.2.2.2.1, .int .i64 x.2.2.2.2.2.2.2.2.1, .int .i64 x.2.2.2.2.2.2.2.2.2]
theorem ent_of {L : List (Nat × Obj)} {cs : Array Value} {off : Nat} {x : EntT} (h : entR.lie L x (fun k => cs[off + k]?)) : Oks entryF (enV x) ∧ Lies cs off (enV x) := by
  obtain ⟨⟨a0, w0⟩, ⟨a1, w1⟩, ⟨a2, w2⟩, ⟨a3, w3⟩, ⟨a4, w4⟩, ⟨a5, w5⟩, ⟨a6, w6⟩, ⟨a7, w7⟩, ⟨a8, w8⟩, a9, w9⟩ := h
  refine ⟨⟨ok_ww w0, ok_kk w1, ok_ww w2, ok_ww w3, ok_bb w4, ok_ww w5, ok_ww w6, ok_nn w7, ok_ww w8, ok_ww w9, trivial⟩, fun j v hj => ?_⟩
  match j, hj with
  | 0, hj => cases hj; exact a0
  | 1, hj => cases hj; exact a1
  | 2, hj => cases hj; exact a2
  | 3, hj => cases hj; exact a3
  | 4, hj => cases hj; exact a4
  | 5, hj => cases hj; exact a5
  | 6, hj => cases hj; exact a6
  | 7, hj => cases hj; exact a7
  | 8, hj => cases hj; exact a8
  | 9, hj => cases hj; exact a9
  | j + 10, hj => simp [enV] at hj
theorem bins_of {L : List (Nat × Obj)} {a : Option Addr} {xs : List Int} (h : SlLieZ (intR .i64) L a xs) : (∀ vs ∈ xs.map fun x => [Value.int .i64 x], Oks binF vs) ∧ Elems L a 1 (xs.map fun x => [Value.int .i64 x]) := by
  rcases h with rfl | ⟨b, off, cs, E, fr, i, h1, h2, h3, h4⟩
  · exact ⟨(fun _ h => (by cases h)), .inl rfl⟩
  · refine ⟨fun vs hv => ?_, .inr ⟨b, off, i, cs, E, fr, h1, h2, fun j vs hj => ?_⟩⟩
    · obtain ⟨x, hx, rfl⟩ := List.mem_map.1 hv
      obtain ⟨j, hj⟩ := List.mem_iff_getElem?.1 hx
      exact ⟨ok_ww (h4 j x hj).2, trivial⟩
    · rw [List.getElem?_map] at hj
      obtain ⟨x, hx, rfl⟩ := Option.map_eq_some_iff.1 hj
      have hlt := (List.getElem?_eq_some_iff.1 hx).1
      refine ⟨one_lies (h4 j x hx).1, fun k hk => ?_⟩
      have := h3 (j * 1 + k) (by show j * 1 + k < xs.length * 1; omega)
      rwa [← Nat.add_assoc] at this
theorem ents_of {L : List (Nat × Obj)} {a : Option Addr} {xs : List EntT} (h : SlLieZ entR L a xs) : (∀ vs ∈ xs.map enV, Oks entryF vs) ∧ Elems L a 10 (xs.map enV) := by
  rcases h with rfl | ⟨b, off, cs, E, fr, i, h1, h2, h3, h4⟩
  · exact ⟨(fun _ h => (by cases h)), .inl rfl⟩
  · refine ⟨fun vs hv => ?_, .inr ⟨b, off, i, cs, E, fr, h1, h2, fun j vs hj => ?_⟩⟩
    · obtain ⟨x, hx, rfl⟩ := List.mem_map.1 hv
      obtain ⟨j, hj⟩ := List.mem_iff_getElem?.1 hx
      exact (ent_of (h4 j x hj)).1
    · rw [List.getElem?_map] at hj
      obtain ⟨x, hx, rfl⟩ := Option.map_eq_some_iff.1 hj
      have hlt := (List.getElem?_eq_some_iff.1 hx).1
      refine ⟨(ent_of (h4 j x hx)).2, fun k hk => ?_⟩
      have := h3 (j * 10 + k) (by show j * 10 + k < xs.length * 10; omega)
      rwa [← Nat.add_assoc] at this
theorem msg_at {L : List (Nat × Obj)} {cs : Array Value} {off : Nat} {x : _} (h : msgR.lie L x (fun k => cs[off + k]?)) : ∃ (m : MV) (a : Option Addr) (cap : Nat) (a' : Option Addr) (cap' : Nat), m.Ok ∧ Lies cs off (m.cells a cap a' cap') ∧ Elems L a 1 m.bins ∧ Elems L a' 10 m.ents ∧ m.bins.length ≤ cap ∧ m.ents.length ≤ cap' ∧ cap ≤ maxLen ∧ cap' ≤ maxLen := by
  obtain ⟨⟨k0, w0⟩, ⟨k1, w1⟩, ⟨⟨r0, v0⟩, ⟨r1, v1⟩, ⟨r2, v2⟩, ⟨r3, v3⟩, r4, r5⟩, ⟨k8, w8⟩, ⟨k9, w9⟩, ⟨⟨c0, u0⟩, ⟨c1, u1⟩, ⟨a, cap, c2, n1, n2, hb⟩, ⟨c3, u3⟩, ⟨c4, u4⟩, ⟨⟨c5, u5⟩, ⟨c6, u6⟩, ⟨c7, u7⟩, c8, u8⟩, c9, u9⟩, ⟨q0, s0⟩, ⟨q1, s1⟩, q2, a', cap', q3, n3, n4, he⟩ := h
  obtain ⟨ob, eb⟩ := bins_of hb
  obtain ⟨oe, ee⟩ := ents_of he
  have lb : (x.2.2.2.2.2.1.2.2.1.map fun x => [Value.int .i64 x]).length = x.2.2.2.2.2.1.2.2.1.length := List.length_map ..
  refine ⟨⟨x.1, x.2.1, rcV x.2.2.1, x.2.2.2.1, x.2.2.2.2.1, [.int .i64 x.2.2.2.2.2.1.1, .int .i64 x.2.2.2.2.2.1.2.1], x.2.2.2.2.2.1.2.2.1.map fun x => [Value.int .i64 x],
    [.int .i64 x.2.2.2.2.2.1.2.2.2.1, .int .i64 x.2.2.2.2.2.1.2.2.2.2.1, .int .i64 x.2.2.2.2.2.1.2.2.2.2.2.1.1, .int .i64 x.2.2.2.2.2.1.2.2.2.2.2.1.2.1, .int .i64 x.2.2.2.2.2.1.2.2.2.2.2.1.2.2.1, .int .i64 x.2.2.2.2.2.1.2.2.2.2.2.1.2.2.2, .int .i64 x.2.2.2.2.2.1.2.2.2.2.2.2],
    [.int .i64 x.2.2.2.2.2.2.1, .int .i64 x.2.2.2.2.2.2.2.1, .bool x.2.2.2.2.2.2.2.2.1], x.2.2.2.2.2.2.2.2.2.map enV⟩, a, cap, a', cap', ⟨i64_bounds w0, i64_bounds w1, ⟨ok_kk v0, ok_ww v1, ok_ww v2, ok_bb v3, ok_tt _, ok_tt _, trivial⟩, i64_bounds w8, i64_bounds w9, ⟨ok_ww u0, ok_ww u1, trivial⟩, ob, ⟨ok_ww u3, ok_ww u4, ok_ww u5, ok_ww u6, ok_ww u7, ok_ww u8, ok_ww u9, trivial⟩, ⟨ok_ww s0, ok_ww s1, ok_tt _, trivial⟩, oe⟩, ?_, eb, ee, by rw [lb]; exact n1, by rw [List.length_map]; exact n3, n2, n4⟩
  intro j v hj
  unfold MV.cells at hj
  rw [List.length_map, List.length_map] at hj
  match j, hj with
  | 0, hj => cases hj; exact k0
  | 1, hj => cases hj; exact k1
  | 2, hj => cases hj; exact r0
  | 3, hj => cases hj; exact r1
  | 4, hj => cases hj; exact r2
  | 5, hj => cases hj; exact r3
  | 6, hj => cases hj; exact r4
  | 7, hj => cases hj; exact r5
  | 8, hj => cases hj; exact k8
  | 9, hj => cases hj; exact k9
  | 10, hj => cases hj; exact c0
  | 11, hj => cases hj; exact c1
  | 12, hj => cases hj; exact c2
  | 13, hj => cases hj; exact c3
  | 14, hj => cases hj; exact c4
  | 15, hj => cases hj; exact c5
  | 16, hj => cases hj; exact c6
  | 17, hj => cases hj; exact c7
  | 18, hj => cases hj; exact c8
  | 19, hj => cases hj; exact c9
  | 20, hj => cases hj; exact q0
  | 21, hj => cases hj; exact q1
  | 22, hj => cases hj; exact q2
  | 23, hj => cases hj; exact q3
  | j + 24, hj => simp [rcV] at hj
end Go.Proofs.YtakedlockchpcaaGreatDoor
namespace Go.Proofs.YtakedlockchpcaaGreatDoor
open Go.ChangeShapes Go.WideShapes Go.ChangeAt Go.RowKit
abbrev gramR := (pairR (intR .i64) (pairR (intR .i64) (pairR boolR (pairR (intR .u64) (pairR (intR .i64) (pairR (intR .i64) (pairR (intR .i64) (pairR (pairR (intR .u32) (pairR (intR .i64) (pairR (intR .i64) (pairR (intR .u8) (pairR boolR boolR))))) (pairR (intR .i64) (pairR (intR .i64) (pairR (pairR (intR .i64) (pairR (intR .i64) (pairR (sliceZ (intR .i64)) (pairR (intR .i64) (pairR (intR .i64) (pairR (pairR (intR .i64) (pairR (intR .i64) (pairR (intR .i64) (intR .i64)))) (intR .i64))))))) (pairR (intR .i64) (pairR (intR .i64) (pairR boolR (sliceZ (pairR (intR .i64) (pairR (intR .u32) (pairR (intR .i64) (pairR (intR .i64) (pairR (intR .u8) (pairR (intR .i64) (pairR (intR .i64) (pairR (intR .u64) (pairR (intR .i64) (intR .i64)))))))))))))))))))))))))
abbrev draftR := (pairR (pairR (intR .i64) (pairR (intR .i64) (pairR boolR (pairR (intR .u64) (pairR (intR .i64) (pairR (intR .i64) (pairR (intR .i64) (pairR (pairR (intR .u32) (pairR (intR .i64) (pairR (intR .i64) (pairR (intR .u8) (pairR boolR boolR))))) (pairR (intR .i64) (pairR (intR .i64) (pairR (pairR (intR .i64) (pairR (intR .i64) (pairR (sliceZ (intR .i64)) (pairR (intR .i64) (pairR (intR .i64) (pairR (pairR (intR .i64) (pairR (intR .i64) (pairR (intR .i64) (intR .i64)))) (intR .i64))))))) (pairR (intR .i64) (pairR (intR .i64) (pairR boolR (sliceZ (pairR (intR .i64) (pairR (intR .u32) (pairR (intR .i64) (pairR (intR .i64) (pairR (intR .u8) (pairR (intR .i64) (pairR (intR .i64) (pairR (intR .u64) (pairR (intR .i64) (intR .i64))))))))))))))))))))))))) boolR)
set_option maxRecDepth 100000 in
theorem draftR_sound : SoundZ Tryz.prog 82 draftR := (soundZ_struct Tryz.underlying82 (by kernel_rfl) (soundZF_cons (soundZ_struct Tryz.underlying80 (by kernel_rfl) (soundZF_cons (sound_int Tryz.underlying3 (by kernel_rfl)).z rfl (soundZF_cons (sound_int Tryz.underlying3 (by kernel_rfl)).z rfl (soundZF_cons (sound_bool Tryz.underlying4 (by kernel_rfl)).z rfl (soundZF_cons (sound_int Tryz.underlying41 (by kernel_rfl)).z rfl (soundZF_cons (sound_int Tryz.underlying3 (by kernel_rfl)).z rfl (soundZF_one (soundZ_struct Tryz.underlying35 (by kernel_rfl) (soundZF_cons (sound_int Tryz.underlying3 (by kernel_rfl)).z rfl (soundZF_cons (sound_int Tryz.underlying3 (by kernel_rfl)).z rfl (soundZF_cons (soundZ_struct Tryz.underlying25 (by kernel_rfl) (soundZF_cons (sound_int Tryz.underlying23 (by kernel_rfl)).z rfl (soundZF_cons (sound_int Tryz.underlying2 (by kernel_rfl)).z rfl (soundZF_cons (sound_int Tryz.underlying2 (by kernel_rfl)).z rfl (soundZF_cons (sound_int Tryz.underlying5 (by kernel_rfl)).z rfl (soundZF_cons (sound_bool Tryz.underlying4 (by kernel_rfl)).z rfl (soundZF_one (sound_bool Tryz.underlying4 (by kernel_rfl)).z rfl))))))) rfl (soundZF_cons (sound_int Tryz.underlying2 (by kernel_rfl)).z rfl (soundZF_cons (sound_int Tryz.underlying3 (by kernel_rfl)).z rfl (soundZF_cons (soundZ_struct Tryz.underlying30 (by kernel_rfl) (soundZF_cons (sound_int Tryz.underlying3 (by kernel_rfl)).z rfl (soundZF_cons (sound_int Tryz.underlying2 (by kernel_rfl)).z rfl (soundZF_cons (soundZ_slice Tryz.underlying26 (by kernel_rfl) (by decide) (sound_int Tryz.underlying3 (by kernel_rfl)).z) rfl (soundZF_cons (sound_int Tryz.underlying3 (by kernel_rfl)).z rfl (soundZF_cons (sound_int Tryz.underlying3 (by kernel_rfl)).z rfl (soundZF_cons (soundZ_struct Tryz.underlying28 (by kernel_rfl) (soundZF_cons (sound_int Tryz.underlying3 (by kernel_rfl)).z rfl (soundZF_cons (sound_int Tryz.underlying2 (by kernel_rfl)).z rfl (soundZF_cons (sound_int Tryz.underlying2 (by kernel_rfl)).z rfl (soundZF_one (sound_int Tryz.underlying3 (by kernel_rfl)).z rfl))))) rfl (soundZF_one (sound_int Tryz.underlying3 (by kernel_rfl)).z rfl)))))))) rfl (soundZF_one (soundZ_struct Tryz.underlying33 (by kernel_rfl) (soundZF_cons (sound_int Tryz.underlying3 (by kernel_rfl)).z rfl (soundZF_cons (sound_int Tryz.underlying3 (by kernel_rfl)).z rfl (soundZF_cons (sound_bool Tryz.underlying4 (by kernel_rfl)).z rfl (soundZF_one (soundZ_slice Tryz.underlying31 (by kernel_rfl) (by decide) (soundZ_struct Tryz.underlying45 (by kernel_rfl) (soundZF_cons (sound_int Tryz.underlying3 (by kernel_rfl)).z rfl (soundZF_cons (sound_int Tryz.underlying23 (by kernel_rfl)).z rfl (soundZF_cons (sound_int Tryz.underlying2 (by kernel_rfl)).z rfl (soundZF_cons (sound_int Tryz.underlying2 (by kernel_rfl)).z rfl (soundZF_cons (sound_int Tryz.underlying5 (by kernel_rfl)).z rfl (soundZF_one (soundZ_struct Tryz.underlying43 (by kernel_rfl) (soundZF_cons (sound_int Tryz.underlying2 (by kernel_rfl)).z rfl (soundZF_cons (sound_int Tryz.underlying2 (by kernel_rfl)).z rfl (soundZF_cons (sound_int Tryz.underlying41 (by kernel_rfl)).z rfl (soundZF_cons (sound_int Tryz.underlying2 (by kernel_rfl)).z rfl (soundZF_one (sound_int Tryz.underlying2 (by kernel_rfl)).z rfl)))))) rfl)))))))) rfl))))) rfl)))))))) rfl))))))) rfl (soundZF_one (sound_bool Tryz.underlying4 (by kernel_rfl)).z rfl)))
theorem gram_at {L : List (Nat × Obj)} {cs : Array Value} {x : _} (h : gramR.lie L x (fun k => cs[k]?)) : ∃ (g : GV) (a : Option Addr) (cap : Nat) (a' : Option Addr) (cap' : Nat), GramAt L (g.cells a cap a' cap').toArray g a cap a' cap' ∧ Lies cs 0 (g.cells a cap a' cap') := by
  obtain ⟨⟨a0, w0⟩, ⟨a1, w1⟩, a2, ⟨a3, w3⟩, ⟨a4, w4⟩, hm⟩ := h
  obtain ⟨m, a, cap, a', cap', q1, q2, q3, q4, q5, q6, q7, q8⟩ := msg_at (cs := cs) (off := 5) hm
  refine ⟨⟨x.1, x.2.1, x.2.2.1, x.2.2.2.1, x.2.2.2.2.1, m⟩, a, cap, a', cap', ⟨⟨i64_bounds w0, i64_bounds w1, (u64_bounds w3).1, (u64_bounds w3).2, i64_bounds w4, q1⟩, rfl, q3, q4, q5, q6, q7, q8⟩, fun j v hj => ?_⟩
  rw [Nat.zero_add]
  match j, hj with
  | 0, hj => cases hj; exact a0
  | 1, hj => cases hj; exact a1
  | 2, hj => cases hj; exact a2
  | 3, hj => cases hj; exact a3
  | 4, hj => cases hj; exact a4
  | j + 5, hj =>
    have := q2 j v hj
    rwa [show j + 5 = 5 + j by omega]
theorem draft_of {L : List (Nat × Obj)} {cs : Array Value} {x : _} (hz : cs.size = 30) (h : draftR.lie L x (fun k => cs[k]?)) : ∃ (ds : Array Value) (g : GV) (odd : Bool) (a : Option Addr) (cap : Nat) (a' : Option Addr) (cap' : Nat), cs = ds.push (.bool odd) ∧ GramAt L ds g a cap a' cap' := by
  obtain ⟨h1, h2⟩ := h
  obtain ⟨g, a, cap, a', cap', h3, h4⟩ := gram_at h1
  have hl : (g.cells a cap a' cap').length = 29 := by have := h3.size; simpa using this
  refine ⟨_, g, x.2, a, cap, a', cap', ?_, h3⟩
  have e := lies_whole (cs := cs) (vs := g.cells a cap a' cap' ++ [.bool x.2]) (fun j v hj => ?_) (by rw [hz, List.length_append, hl]; rfl)
  · rw [e]; simp
  · rw [List.getElem?_append] at hj
    split at hj
    · exact h4 j v hj
    · rename_i hn
      have hlt := (List.getElem?_eq_some_iff.1 hj).1
      simp only [List.length_cons, List.length_nil] at hlt
      obtain rfl : j = 29 := by omega
      rw [hl] at hj
      cases hj
      exact h2
end Go.Proofs.YtakedlockchpcaaGreatDoor
namespace Go.Proofs.YtakedlockchpcaaGreatDoor
open Go.ChangeShapes Go.WideShapes Go.ChangeAt Go.RowKit
theorem h_et : Tryz.prog.globalNamed "errors.errorType" = some 0 := by kernel_rfl
theorem h_rt : (Tryz.prog.cutTypes.find? (·.1 == "internal/reflectlite.rtype")).map (·.2) = some 254 := by kernel_rfl
theorem h_oneRow : ((List.range 303).filter fun t => Tryz.prog.rowNamed t [101, 114, 114, 111, 114]) = [70] := by kernel_rfl
theorem h_size : Tryz.prog.types.size = 303 := by kernel_rfl
def laidL : List (String × DataW Unit) := [("errors.errorType", Rows.laid_errors_errorType)]
theorem handle_of_laid {W : World} (h : laidMetH Tryz.prog laidL W) : W.cell? ⟨0, 0, none⟩ = some handle := by
  have h' : laidMet Tryz.prog [] W ∧ handlesMet Tryz.prog laidL W := h
  obtain ⟨name, u, ty, e1, e2, e3, e4, e5⟩ := h'.2 _ (List.mem_singleton.2 rfl)
  have en : name = [101, 114, 114, 111, 114] := (Option.some.inj e1).symm
  subst en
  obtain rfl := Option.some.inj (h_rt.symm.trans e2)
  have hm : ty ∈ (List.range 303).filter fun t => Tryz.prog.rowNamed t [101, 114, 114, 111, 114] := List.mem_filter.2 ⟨List.mem_range.2 (by rw [← h_size]; exact e3), e4⟩
  rw [h_oneRow] at hm
  obtain rfl := List.mem_singleton.1 hm
  have hh : typeHandle Tryz.prog 70 = .pointer (some ⟨1, 70, none⟩) := by kernel_rfl
  rw [hh] at e5
  unfold handle
  simpa using World.var?_cell h_et e5 0
noncomputable def laidWorld (os : Os) : World :=
  let w0 := World.holding Tryz.prog os ⟨#[], #[], []⟩
  { w0 with heap := w0.heap.modify 0 fun
      | .cells _ t frozen => .cells #[handle] t frozen
      | o => o }
theorem laidWorld_met (os : Os) (args : Array Value) : laidMetH Tryz.prog laidL ((laidWorld os).forCall (fun _ _ => 0) ⟨#[], args, []⟩).memory :=
  laidMetH_of_parts (laidMet_nil _ _) (by kernel_rfl)
set_option maxRecDepth 100000 in
theorem liftedH {os : Os} {H : Type} {enc : TypeId × Value → H} {f : FuncId} {fn : Func} {s : ChangeSpec} {tb : TypeId} (started : os.Started) (noInit : Tryz.prog.inits.idxOf? f = none) (hfn : Tryz.prog.funcs[f]? = some fn)
    (witness : ∃ (w : World) (tape : Tape) (i : Input), w.os = os ∧ (w.forCall tape i).Shaped Tryz.prog ∧ i.vars = [] ∧ Input.okWide Tryz.prog (w.forCall tape i) .any w.heap.size f i ∧
      ((s.pre enc Tryz.prog fn [] false (w.forCall tape i).memory i.args ∧ laidMetH Tryz.prog laidL (w.forCall tape i).memory) ∧ sizedMet enc Tryz.prog fn (OpenSpec.ofChange s) false (w.forCall tape i).memory i.args) ∧ ({} : Assume).holds Tryz.prog (lone (Frame.enter Tryz.prog f i.args .normal) [] (w.forCall tape i)))
    (hts : (fn.params.toList.all fun t => Tryz.prog.readableRec t && decide (t < Tryz.prog.types.size)) = true) (hv : s.vars = []) (hr : fn.resultTypes = #[tb]) (hb : Tryz.prog.underlying tb = some .bool)
    (hspec : ∀ ds : List (DataW H), ds.length = fn.params.size → s.fn H ds = { results := [.lit (.bool true)], args := ds })
    (h : ∀ (W : World) (base : Nat) (args : Array Value) (ds : List (DataW H)) (ps : List MemPlace), (∀ (j : Nat) t v, fn.params[j]? = some t → args[j]? = some v → Value.okWide Tryz.prog W .any base t v) →
      DataW.TrodAll enc Tryz.prog W 0 (fun _ => true) true fn.params.toList args.toList ds ps → W.noneFrozen ps → (∃ cs E fr, (0, Obj.cells cs E fr) ∈ allL W ∧ cs[0]? = some handle) → Fn Tryz.prog f args.toList (allL W) fun v L' => v = .bool true ∧ L' = allL W) :
    ReturnsInHanded {} Tryz.checked os f .any (fun w args => (s.pre enc Tryz.prog fn [] false w args ∧ laidMetH Tryz.prog laidL w) ∧ sizedMet enc Tryz.prog fn (OpenSpec.ofChange s) false w args) (s.post enc Tryz.prog fn false true false false) := by
  refine returnsInHanded_of_change_and (C := Tryz.checked) (X := fun w _ => laidMetH Tryz.prog laidL w) (fun _ _ _ hh h => h.of_heap hh) ownOf started noInit hfn witness ?_
  intro W base args ds gs before hval hW _ _ hL _
  have hW' := hW
  obtain ⟨p, q, hA, hV, rfl, hfz, _⟩ := hW
  rw [hv] at hV
  obtain ⟨rfl, rfl⟩ := trodVars_none hV
  have hlen : ∀ {ts : List TypeId} {vs : List Value} {ds : List (DataW H)} {ps : List MemPlace}, DataW.TrodAll enc Tryz.prog W 0 (fun _ => true) true ts vs ds ps → ds.length = ts.length := by
    intro ts
    induction ts with
    | nil => intro vs ds ps h; obtain ⟨_, rfl, _⟩ := trodAll_nil h; rfl
    | cons t ts ih => intro vs ds ps h; obtain ⟨v, vs', d, ds', a, b, rfl, rfl, rfl, _, h2⟩ := trodAll_cons h; simp [ih h2]
  have hds := hspec ds (by rw [hlen hA]; simp)
  have hg := handle_of_laid hL
  have hblk : ∃ cs E fr, (0, Obj.cells cs E fr) ∈ allL W ∧ cs[0]? = some handle := by
    unfold World.cell? at hg
    cases hb : W.heap[0]? with
    | none => simp [hb] at hg
    | some o =>
      cases o with
      | cells cs E fr => exact ⟨cs, E, fr, allL_mem_of hb, by simpa [hb] using hg⟩
      | _ => simp [hb] at hg
  refine ((h W base args ds p hval hA (by simpa using hfz) hblk) W W (mem_allL W)).mono fun e W' ⟨v, L', h1, h2, h3, h4⟩ => ?_
  subst h3; subst h4
  exact ⟨_, h1, post_law laidOf hts hv hr hb (by simpa using hds) hW' (below_of_mem h2)⟩
end Go.Proofs.YtakedlockchpcaaGreatDoor
