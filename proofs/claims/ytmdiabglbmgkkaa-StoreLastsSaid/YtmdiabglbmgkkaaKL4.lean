/-
  A part of what the last of these texts needs; by itself it proves no statement.
-/
import Derived.ProofKit
import Derived.Deep.Slices
import Derived.OpenShut
import Derived.ChangeMaps5
import Derived.Test.YtmdiabglbmgkkaaKL3
namespace Go.Proofs.Ytmdiabglbmgkkaa
open Go.RowKit
theorem WL_dropS {c : Cx} {ops : Array Oper} {l : List Oper} {K : Exit → St → Prop} {s : List (Nat × Value)} {D : List Deferred} {L L' : List (Nat × Obj)} (hs : L'.Sublist L) (h : WL c ops l K ⟨s, D, L'⟩) : WL c ops l K ⟨s, D, L⟩ := fun a w ha => h a w (ha.mem' (ha.mem.sublist hs))
attribute [local irreducible] Fn WC WL WR OW Qt YieldFn QW
abbrev g0 : FG := fun _ => ([], 0)
abbrev g1 : FG := appG g0 0 [97, 98]
abbrev g2 : FG := syncG g1 0
abbrev g3 : FG := appG g2 0 [99, 100, 101]
abbrev g4 : FG := appG g3 3 [120]
abbrev g5 : FG := crashG g4 [2]
abbrev g6 : FG := appG g5 0 [122]
abbrev g7 : FG := cutG g6 0 3
abbrev g8 : FG := crashG g7 []
abbrev g9 : FG := cutG g8 0 0
theorem few4 : Few g4 := (((Few.zero.app (by decide) _).sync _).app (by decide) _).app (by decide) _
theorem few5 : Few g5 := crashes_few few4
theorem few7 : Few g7 := (few5.app (by decide) _).cut _ _
theorem few9 : Few g9 := (crashes_few few7).cut _ _
theorem ev1 : appE g0 0 [97, 98] = 0 ∧ syncE g1 0 = 0 ∧ appE g2 0 [99, 100, 101] = 0 ∧ appE g3 3 [120] = 0 ∧ keys7 g4 = [0, 3] ∧ (g4 0).2 = 2 ∧ ((g4 0).1 == [97, 98, 99, 100, 101]) = true := by decide
theorem ev2 : keys7 g5 = [0] ∧ ((g5 0).1 == [97, 98, 99, 100]) = true := by decide
theorem ev3 : cutE g6 0 3 = 0 ∧ ((g8 0).1 == [97, 98, 99]) = true ∧ cutE g8 0 0 = 0 ∧ keys7 g9 = [] := by decide
theorem ByAt.one (b E : Nat) (fr : Nat × Nat) (u : UInt8) (L : List (Nat × Obj)) : ByAt ((b, .cells #[bV u] E fr) :: L) (.slice (some ⟨b, 0, none⟩) 1 1) [u] :=
  ⟨rfl, _, 1, rfl, Nat.le_refl _, by decide, .inr ⟨b, 0, _, E, fr, 0, rfl, rfl, fun j x hj => by
    cases j with
    | zero => simpa using hj
    | succ j => simp at hj⟩⟩
theorem int_eq {a b : Int} (h : a = b) : some (Value.int .i64 a) = some (Value.int .i64 b) := by rw [h]
set_option maxHeartbeats 8000000 in
theorem works15_fn {L : List (Nat × Obj)} : Fn Try.prog 8 [] L (fun v L' => v = .bool true ∧ L' = L) := by
  refine Fn_enter Try.func8 rfl Try.ntmps8 rfl fun gw => ?_
  repeat (first | ((first | refine WL_Q ?_); (first | refine QW_a ?_)) | ((first | refine WL_op rfl ?_); (first | (refine OW_call rfl (hF := new_fn) (hk := ?_); rintro _ _ ⟨sb, S', rfl, rfl, h'⟩) | (refine OW_call rfl (hF := append_st (by assumption) (by decide)) (hk := ?_); rintro _ _ ⟨rfl, S', rfl, h'⟩) | (refine OW_call rfl (hF := sync_st (by assumption)) (hk := ?_); rintro _ _ ⟨rfl, S', rfl, h'⟩))) | refine WL_nil ?_ | refine WC_seq ?_ | refine WC_cond_t (ht := ?_) | refine WC_cond_f (he := ?_) | refine WC_skip ?_ | refine WC_ret ?_ | refine WC_region (id := 0) ?_ | refine WC_region (id := 1) ?_ | refine WC_region (id := 2) ?_ | refine WC_region (id := 4) ?_)
  have h4 : StAt sb S' g4 := h'
  have hf4 := few4
  obtain ⟨v1, v2, v3, v4, v5, v6, v7⟩ := ev1
  refine WC_wk [(5, iV 0), (4, iV 0), (3, iV 0), (2, iV 0), (1, fP sb)] ⟨int_eq v4, int_eq v3, int_eq v2, int_eq v1, rfl, trivial⟩ ?_
  clear v1 v2 v3 v4
  repeat (first | ((first | refine WL_Q ?_); (first | refine QW_a ?_)) | ((first | refine WL_op rfl ?_); (first | (refine OW_call rfl (hF := files7_st h4 hf4) (hk := ?_); rintro r _ ⟨T, hT, rfl⟩))) | refine WL_nil ?_ | refine WC_seq ?_ | refine WC_cond_t (ht := ?_) | refine WC_cond_f (he := ?_) | refine WC_skip ?_ | refine WC_ret ?_ | refine WC_region (id := 5) ?_)
  rw [v5] at hT
  rcases hT with ⟨_, h2, _⟩ | ⟨gT, oT, cT, cuT, rfl, rfl, hT⟩
  · cases h2
  have t0 : cuT[oT + (0 : Int).toNat * 1]? = some (iV 0) := OwnI.at_i hT rfl rfl
  have t1 : cuT[oT + (1 : Int).toNat * 1]? = some (iV 3) := OwnI.at_i hT rfl rfl
  refine WC_permA (L' := S' ++ ([(gT, .cells cuT 3 (0, 0))] ++ L)) (List.perm_append_comm_assoc ..) ?_
  repeat (first | ((first | refine WL_Q ?_); (first | refine QW_a ?_)) | ((first | refine WL_op rfl ?_); (first | refine OW_callP rfl (hF := synced_st (by assumption)) (hk := ?_) | refine OW_callP rfl (hF := reads_st (by assumption)) (hk := ?_))) | refine WL_nil ?_ | refine WC_seq ?_ | refine WC_cond_t (ht := ?_) | refine WC_cond_f (he := ?_) | refine WC_skip ?_ | refine WC_ret ?_ | refine WC_region (id := 6) ?_ | refine WC_region (id := 7) ?_)
  rw [v6, v7]
  repeat (first | ((first | refine WL_Q ?_); (first | refine QW_a ?_)) | ((first | refine WL_op rfl ?_); (first | refine OW_build1 rfl (hk := fun _ => ?_))) | refine WL_nil ?_ | refine WC_seq ?_ | refine WC_cond_t (ht := ?_) | refine WC_cond_f (he := ?_) | refine WC_skip ?_ | refine WC_ret ?_ | refine WC_region (id := 8) ?_)
  rename_i bx
  have hch := ByAt.one bx 5 (0, 0) 2 ([(gT, Obj.cells cuT 3 (0, 0))] ++ L)
  refine WL_permA (L' := S' ++ ((bx, .cells #[bV 2] 5 (0, 0)) :: ([(gT, .cells cuT 3 (0, 0))] ++ L))) List.perm_middle ?_
  refine WL_op rfl (OW_call rfl (hF := crash7_st h4 hf4 hch) (hk := ?_))
  rintro _ _ ⟨rfl, S5, rfl, h5⟩
  have h5 : StAt sb S5 g5 := h5
  have hf5 := few5
  obtain ⟨w1, w2⟩ := ev2
  clear hch h4
  refine WL_dropS (L' := S5 ++ ([(gT, .cells cuT 3 (0, 0))] ++ L)) (.append (.refl _) (.cons _ (.refl _))) ?_
  repeat (first | ((first | refine WL_Q ?_); (first | refine QW_a ?_)) | ((first | refine WL_op rfl ?_); (first | refine OW_build1 rfl (hk := fun _ => ?_) | (refine OW_call rfl (hF := files7_st h5 hf5) (hk := ?_); rintro r _ ⟨T, hU, rfl⟩))) | refine WL_nil ?_ | refine WC_seq ?_ | refine WC_cond_t (ht := ?_) | refine WC_cond_f (he := ?_) | refine WC_skip ?_ | refine WC_ret ?_ | refine WC_region (id := 8) ?_ | refine WC_region (id := 9) ?_)
  rw [w1] at hU
  rcases hU with ⟨_, h2, _⟩ | ⟨gU, oU, cU, cuU, rfl, rfl, hU⟩
  · cases h2
  have u0 : cuU[oU + (0 : Int).toNat * 1]? = some (iV 0) := OwnI.at_i hU rfl rfl
  refine WC_permA (L' := S5 ++ ([(gU, .cells cuU 3 (0, 0))] ++ ([(gT, .cells cuT 3 (0, 0))] ++ L))) (List.perm_append_comm_assoc ..) ?_
  repeat (first | ((first | refine WL_Q ?_); (first | refine QW_a ?_)) | ((first | refine WL_op rfl ?_); (first | refine OW_callP rfl (hF := reads_st (by assumption)) (hk := ?_))) | refine WL_nil ?_ | refine WC_seq ?_ | refine WC_cond_t (ht := ?_) | refine WC_cond_f (he := ?_) | refine WC_skip ?_ | refine WC_ret ?_ | refine WC_region (id := 10) ?_)
  rw [w2]
  repeat (first | ((first | refine WL_Q ?_); (first | refine QW_a ?_)) | ((first | refine WL_op rfl ?_); (first | (refine OW_call rfl (hF := append_st (by assumption) (by decide)) (hk := ?_); rintro _ _ ⟨rfl, S', rfl, h'⟩) | (refine OW_call rfl (hF := cut_st (by assumption)) (hk := ?_); rintro _ _ ⟨rfl, S', rfl, h'⟩))) | refine WL_nil ?_ | refine WC_seq ?_ | refine WC_cond_t (ht := ?_) | refine WC_cond_f (he := ?_) | refine WC_skip ?_ | refine WC_ret ?_ | refine WC_region (id := 11) ?_ | refine WC_region (id := 12) ?_ | refine WC_region (id := 13) ?_)
  have h7 : StAt sb S' g7 := h'
  have hf7 := few7
  obtain ⟨x1, x2, x3, x4⟩ := ev3
  refine WL_op rfl (OW_call rfl (hF := crash7_st h7 hf7 (ByAt.nil _)) (hk := ?_))
  rintro _ _ ⟨rfl, S8, rfl, h8⟩
  have h8 : StAt sb S8 g8 := h8
  clear h7 h5 h'
  repeat (first | ((first | refine WL_Q ?_); (first | refine QW_a ?_)) | ((first | refine WL_op rfl ?_); (first | refine OW_callP rfl (hF := reads_st (by assumption)) (hk := ?_))) | refine WL_nil ?_ | refine WC_seq ?_ | refine WC_cond_t (ht := ?_) | refine WC_cond_f (he := ?_) | refine WC_skip ?_ | refine WC_ret ?_ | refine WC_region (id := 13) ?_ | refine WC_region (id := 14) ?_)
  rw [x2]
  repeat (first | ((first | refine WL_Q ?_); (first | refine QW_a ?_)) | ((first | refine WL_op rfl ?_); (first | (refine OW_call rfl (hF := remove_st (by assumption)) (hk := ?_); rintro _ _ ⟨rfl, S', rfl, h'⟩))) | refine WL_nil ?_ | refine WC_seq ?_ | refine WC_cond_t (ht := ?_) | refine WC_cond_f (he := ?_) | refine WC_skip ?_ | refine WC_ret ?_ | refine WC_region (id := 15) ?_)
  have h9 : StAt sb S' g9 := h'
  have hf9 := few9
  refine WC_wk [(13, iV 0), (12, .bool true), (11, iV 0), (10, .bool true), (9, .slice (some ⟨gU, oU, none⟩) ([0] : List Int).length cU), (8, .bool true), (7, iV 2), (6, .slice (some ⟨gT, oT, none⟩) ([0, 3] : List Int).length cT), (5, iV 0), (4, iV 0), (3, iV 0), (2, iV 0), (1, fP sb)] ⟨int_eq x3, rfl, int_eq x1, rfl, rfl, rfl, rfl, rfl, rfl, rfl, rfl, rfl, rfl, trivial⟩ ?_
  refine WC_permA (L' := (gU, .cells cuU 3 (0, 0)) :: (gT, .cells cuT 3 (0, 0)) :: (S' ++ L)) (List.perm_append_comm_assoc [_, _] S' L) ?_
  repeat (first | ((first | refine WL_Q ?_ | refine WL_Y ?_); (first | refine QW_a ?_)) | refine WL_nil ?_ | refine WL_un (h := ?_) | refine WL_N ?_ | refine WL_M ?_ | refine WC_seq ?_ | refine WC_cond_t (ht := ?_) | refine WC_cond_f (he := ?_) | refine WC_skip ?_ | refine WC_ret ?_ | refine WC_app (id := 16) (by simp only [List.append]; rfl) ?_ | refine WC_region (id := 16) ?_)
  refine WL_permA (L' := S' ++ ([(gU, .cells cuU 3 (0, 0)), (gT, .cells cuT 3 (0, 0))] ++ L)) (List.perm_append_comm_assoc S' [_, _] L) ?_
  refine WL_yes rfl rfl rfl rfl rfl (OW_call rfl (hF := files7_st h9 hf9) (hk := ?_))
  rintro _ _ ⟨W, hW, rfl⟩
  rw [x4] at hW
  obtain ⟨aW, cW, rfl, _, _⟩ := hW.val
  repeat (first | ((first | refine WL_Q ?_ | refine WL_Y ?_); (first | refine QW_a ?_)) | refine WL_nil ?_ | refine WL_un (h := ?_) | refine WL_N ?_ | refine WL_M ?_ | refine WC_seq ?_ | refine WC_cond_t (ht := ?_) | refine WC_cond_f (he := ?_) | refine WC_skip ?_ | refine WC_ret ?_ | refine WC_app (id := 16) (by simp only [List.append]; rfl) ?_ | refine WC_region (id := 16) ?_)
  exact ⟨rfl, _, L, Res1 rfl (resV_tmp rfl), .trans (.trans (List.sublist_append_right _ _) (List.sublist_append_right _ _)) (List.sublist_append_right _ _), rfl, rfl⟩
end Go.Proofs.Ytmdiabglbmgkkaa
namespace Go.Proofs.Ytmdiabglbmgkkaa
open Go.ChangeShapes Go.WideShapes Go.ChangeAt Go.RowKit
theorem ownOf : ownKnob Try.prog.godebug = none := by kernel_rfl
theorem laidOf : laidOutB Try.prog = true := by kernel_rfl
def allL (W : World) : List (Nat × Obj) := W.heap.toList.zipIdx.map fun p => (p.2, p.1)
theorem allL_get {W : World} {b : Nat} {o : Obj} (h : W.heap[b]? = some o) : (allL W)[b]? = some (b, o) := by
  simp [allL, h]
theorem allL_mem {W : World} {p : Nat × Obj} : p ∈ allL W → W.heap[p.1]? = some p.2 := fun h => by
  simp only [allL, List.mem_map] at h
  obtain ⟨⟨o, b⟩, h1, rfl⟩ := h
  have := List.mem_zipIdx_iff_getElem?.1 h1
  simpa using this
theorem allL_mem_of {W : World} {b : Nat} {o : Obj} (h : W.heap[b]? = some o) : (b, o) ∈ allL W := List.mem_of_getElem? (allL_get h)
theorem mem_allL (W : World) : Mem W (allL W) W where
  os := rfl
  tape := rfl
  output := rfl
  size := Nat.le_refl _
  nodup := by
    have : (allL W).map Prod.fst = List.range W.heap.size := by
      simp only [allL, List.map_map]
      apply List.ext_getElem?
      intro i
      simp only [List.getElem?_map, List.getElem?_zipIdx, Array.getElem?_toList]
      by_cases h : i < W.heap.size
      · simp [h]
      · simp [h]
    rw [this]; exact List.nodup_range
  has := fun _ h => allL_mem h
theorem below_of_mem {W W' : World} (h : Mem W (allL W) W') : Below W.heap.size W W' where
  os := h.os
  tape := h.tape
  output := h.output
  size := h.size
  block := fun k hk => by
    have h1 : W.heap[k]? = some W.heap[k] := Array.getElem?_eq_getElem hk
    rw [h1]
    exact h.has (k, W.heap[k]) (allL_mem_of h1)
theorem trodAll_stays {H : Type} {enc : TypeId × Value → H} {P : Program} (hl : laidOutB P = true) {W W' : World} (hb : Below W.heap.size W W') : ∀ {ts : List TypeId} {vs : List Value} {ds : List (DataW H)} {ps : List MemPlace},
    (∀ t ∈ ts, P.readableRec t = true ∧ t < P.types.size) → DataW.TrodAll enc P W 0 (fun _ => true) true ts vs ds ps → (∀ x ∈ ps, x.block < W.heap.size) → DataW.TrodAll enc P W' 0 (fun b => decide (b < W.heap.size)) true ts vs ds ps
  | [], _, _, _, _, h, _ => by obtain ⟨rfl, rfl, rfl⟩ := trodAll_nil h; exact trodAll_mk0
  | t :: ts, _, _, _, ht, h, hp => by
    obtain ⟨v, vs', d, ds', p, q, rfl, rfl, rfl, h1, h2⟩ := trodAll_cons h
    have h3 := ht t (by simp)
    exact ⟨p, q, Below.trod hl h3.1 h3.2 h1 hb (fun x hx => hp x (by simp [hx])), trodAll_stays hl hb (fun t' h' => ht t' (by simp [h'])) h2 (fun x hx => hp x (by simp [hx])), rfl⟩
theorem post_law {H : Type} {enc : TypeId × Value → H} {P : Program} {f : Func} {s : ChangeSpec} {W W' : World} {args : Array Value} {ds gs : List (DataW H)} {before : List MemPlace} {tb : TypeId} (hl : laidOutB P = true)
    (hts : (f.params.toList.all fun t => P.readableRec t && decide (t < P.types.size)) = true) (hv : s.vars = []) (hr : f.resultTypes = #[tb]) (hb : P.underlying tb = some .bool)
    (hfn : s.fn H (ds ++ gs) = { results := [.lit (.bool true)], args := ds }) (hW : DataW.Whole enc P f.params.toList s.vars false W args.toList ds gs before) (hbel : Below W.heap.size W W') :
    s.post enc P f false true false false W args (.bool true) W' := by
  have hlt := hW.lt
  have hW' := hW
  obtain ⟨p, q, hA, hV, rfl, _, _⟩ := hW
  rw [hv] at hV
  obtain ⟨rfl, rfl⟩ := trodVars_none hV
  have hts' : ∀ t ∈ f.params.toList, P.readableRec t = true ∧ t < P.types.size := fun t ht => by
    have := List.all_eq_true.1 hts t ht
    simpa using this
  refine ⟨ds, [], p ++ [], [], p, [], hW', ?_, ?_, ?_, hbel.frame _, fun h => by cases h⟩
  · rw [hfn, hr]
    exact trodAll_mk1 (shut_bool hb true)
  · rw [hfn]
    exact trodAll_stays hl hbel hts' hA (fun x hx => by simpa using hlt x (by simp [hx]))
  · rw [hfn, hv]; rfl
theorem u8_bounds {x : Int} (h : (Lit.int .u8 x).wf = true) : 0 ≤ x ∧ x < 256 := by
  have h1 := h
  simp only [Lit.wf, Bool.and_eq_true, decide_eq_true_eq] at h1
  have e1 : IntKind.u8.min = 0 := rfl
  have e2 : IntKind.u8.max = 255 := rfl
  omega
theorem i16_bounds {x : Int} (h : (Lit.int .i16 x).wf = true) : -32768 ≤ x ∧ x < 32768 := by
  have h1 := h
  simp only [Lit.wf, Bool.and_eq_true, decide_eq_true_eq] at h1
  have e1 : IntKind.i16.min = -32768 := rfl
  have e2 : IntKind.i16.max = 32767 := rfl
  omega
theorem lifted {C : Checked} {os : Os} {H : Type} {enc : TypeId × Value → H} {f : FuncId} {fn : Func} {s : ChangeSpec} {tb : TypeId} (own : ownKnob C.prog.godebug = none) (started : os.Started) (noInit : C.prog.inits.idxOf? f = none) (hfn : C.prog.funcs[f]? = some fn)
    (witness : ∃ (w : World) (tape : Tape) (i : Input), w.os = os ∧ (w.forCall tape i).Shaped C.prog ∧ i.vars = [] ∧ Input.okWide C.prog (w.forCall tape i) .any w.heap.size f i ∧ s.pre6 enc C.prog fn [] false (w.forCall tape i).memory i.args ∧ ({} : Assume).holds C.prog (lone (Frame.enter C.prog f i.args .normal) [] (w.forCall tape i)))
    (hl : laidOutB C.prog = true) (hts : (fn.params.toList.all fun t => C.prog.readableRec t && decide (t < C.prog.types.size)) = true) (hv : s.vars = []) (hr : fn.resultTypes = #[tb]) (hb : C.prog.underlying tb = some .bool)
    (hspec : ∀ ds : List (DataW H), ds.length = fn.params.size → s.fn H ds = { results := [.lit (.bool true)], args := ds })
    (h : ∀ (W : World) (base : Nat) (args : Array Value) (ds : List (DataW H)) (ps : List MemPlace), (∀ (j : Nat) t v, fn.params[j]? = some t → args[j]? = some v → Value.okWide C.prog W .any base t v) →
      DataW.TrodAll enc C.prog W 0 (fun _ => true) true fn.params.toList args.toList ds ps → W.noneFrozen ps → Fn C.prog f args.toList (allL W) fun v L' => v = .bool true ∧ L' = allL W) :
    ReturnsInHanded {} C os f .any (s.pre6 enc C.prog fn [] false) (s.post enc C.prog fn false true false false) := by
  refine returnsInHanded_of_change (C := C) own started noInit hfn witness ?_
  intro W base args ds gs before hval hW _ _
  have hW' := hW
  obtain ⟨p, q, hA, hV, rfl, hfz, _⟩ := hW
  rw [hv] at hV
  obtain ⟨rfl, rfl⟩ := trodVars_none hV
  have hlen : ∀ {ts : List TypeId} {vs : List Value} {ds : List (DataW H)} {ps : List MemPlace}, DataW.TrodAll enc C.prog W 0 (fun _ => true) true ts vs ds ps → ds.length = ts.length := by
    intro ts
    induction ts with
    | nil => intro vs ds ps h; obtain ⟨_, rfl, _⟩ := trodAll_nil h; rfl
    | cons t ts ih => intro vs ds ps h; obtain ⟨v, vs', d, ds', a, b, rfl, rfl, rfl, _, h2⟩ := trodAll_cons h; simp [ih h2]
  have hds := hspec ds (by rw [hlen hA]; simp)
  refine ((h W base args ds p hval hA (by simpa using hfz)) W W (mem_allL W)).mono fun e W' ⟨v, L', h1, h2, h3, h4⟩ => ?_
  subst h3; subst h4
  exact ⟨_, h1, post_law hl hts hv hr hb (by simpa using hds) hW' (below_of_mem h2)⟩
end Go.Proofs.Ytmdiabglbmgkkaa
namespace Go.Proofs.Ytmdiabglbmgkkaa
open Go.ChangeShapes Go.WideShapes Go.ChangeAt Go.RowKit Go.Deep
structure Rd (α : Type) where
  n : Nat
  lie : List (Nat × Obj) → α → (Nat → Option Value) → Prop
  mono : ∀ {L a g g'}, (∀ k v, g k = some v → g' k = some v) → lie L a g → lie L a g'
def intR (k : IntKind) : Rd Int where
  n := 1
  lie := fun _ x g => g 0 = some (.int k x) ∧ (Lit.int k x).wf = true
  mono := fun h h1 => ⟨h _ _ h1.1, h1.2⟩
def strR : Rd ByteArray where
  n := 1
  lie := fun _ x g => g 0 = some (.string x) ∧ x.size ≤ maxLen
  mono := fun h h1 => ⟨h _ _ h1.1, h1.2⟩
def pairR {α β : Type} (r : Rd α) (s : Rd β) : Rd (α × β) where
  n := r.n + s.n
  lie := fun L x g => r.lie L x.1 g ∧ s.lie L x.2 (fun k => g (r.n + k))
  mono := fun h h1 => ⟨r.mono h h1.1, s.mono (fun _ _ h2 => h _ _ h2) h1.2⟩
def SlLie {α : Type} (r : Rd α) (L : List (Nat × Obj)) (a : Option Addr) (xs : List α) : Prop :=
  xs = [] ∨ ∃ (b off : Nat) (cs : Array Value) (E : TypeId) (fr : Nat × Nat) (i : Nat), a = some ⟨b, off, none⟩ ∧ L[i]? = some (b, Obj.cells cs E fr) ∧ ∀ j x, xs[j]? = some x → r.lie L x (fun k => cs[off + j * r.n + k]?)
def sliceR {α : Type} (r : Rd α) : Rd (List α) where
  n := 1
  lie := fun L xs g => ∃ a cap, g 0 = some (.slice a xs.length cap) ∧ xs.length ≤ cap ∧ cap ≤ maxLen ∧ SlLie r L a xs
  mono := fun h ⟨a, cap, h1, h2⟩ => ⟨a, cap, h _ _ h1, h2⟩
def Sound {α : Type} (P : Program) (t : TypeId) (r : Rd α) : Prop :=
  P.cellsOf t = r.n ∧ ∀ {H : Type} {enc : TypeId × Value → H} {W : World} {fuel : Nat} {cs : List Value} {x : DataW H × List MemPlace}, DataW.trod enc P W 0 (fun _ => true) true fuel t cs = some x → ∃ a, r.lie (allL W) a (fun k => cs[k]?)
variable {P : Program} {t : TypeId}
theorem sound_int {k : IntKind} (ht : P.underlying t = some (.int k)) (hc : P.cellsOf t = 1) : Sound P t (intR k) := ⟨hc, fun h => by
  obtain ⟨n, rfl, _, hw⟩ := DataW.trod_int ht h
  exact ⟨n, rfl, hw⟩⟩
theorem sound_str (ht : P.underlying t = some .string) (hc : P.cellsOf t = 1) : Sound P t strR := ⟨hc, fun h => by
  obtain ⟨n, rfl, _, hw⟩ := DataW.trod_string ht h
  exact ⟨n, rfl, hw⟩⟩
theorem cut_get {cs : List Value} {o n k : Nat} {v : Value} (h : ((cs.drop o).take n)[k]? = some v) : cs[o + k]? = some v := by
  rw [List.getElem?_take] at h
  split at h
  · rwa [List.getElem?_drop] at h
  · cases h
theorem choose_list {α : Type} {n : Nat} {p : Nat → α → Prop} (h : ∀ i, i < n → ∃ x, p i x) : ∃ xs : List α, xs.length = n ∧ ∀ i x, xs[i]? = some x → p i x := by
  induction n with
  | zero => exact ⟨[], rfl, by simp⟩
  | succ n ih =>
    obtain ⟨xs, h1, h2⟩ := ih fun i hi => h i (by omega)
    obtain ⟨x, hx⟩ := h n (by omega)
    refine ⟨xs ++ [x], by simp [h1], fun i y hy => ?_⟩
    by_cases hi : i < n
    · rw [List.getElem?_append_left (by omega)] at hy; exact h2 i y hy
    · rw [List.getElem?_append_right (by omega)] at hy
      have : i = n := by
        have := (List.getElem?_eq_some_iff.1 hy).1
        simp at this; omega
      subst this
      rw [h1, Nat.sub_self] at hy
      simp at hy; subst hy; exact hx
theorem cells_get {W : World} {a : Addr} {n k : Nat} {cs : List Value} (h : W.cells? 0 a n = some cs) (hk : k < n) : ∃ v, cs[k]? = some v ∧ W.cell? (a.add k) = some v := by
  obtain ⟨_, hl, hat⟩ := World.cells?_some h
  exact ⟨cs[k]'(by omega), List.getElem?_eq_getElem (by omega), by rw [hat k hk, List.getElem?_eq_getElem (by omega)]⟩
theorem sound_slice {α : Type} {r : Rd α} {e : TypeId} (ht : P.underlying t = some (.slice e)) (hc : P.cellsOf t = 1) (hr : 0 < r.n) (he : Sound P e r) : Sound P t (sliceR r) := ⟨hc, fun {H enc W fuel cs x} h => by
  rcases open_slice ht h with ⟨rfl, _⟩ | ⟨a, len, cap, m, n, D, Pl, rfl, _, hl, hm, hmm, _, hi⟩
  · exact ⟨[], none, 0, rfl, Nat.le_refl _, Nat.zero_le _, .inl rfl⟩
  · simp only [if_true] at hmm
    subst hmm
    by_cases h0 : len = 0
    · subst h0; exact ⟨[], some a, m, rfl, Nat.zero_le _, hm, .inl rfl⟩
    rw [he.1] at hi
    have hblock : ∃ b off cs E fr, a = ⟨b, off, none⟩ ∧ W.heap[b]? = some (Obj.cells cs E fr) := by
      obtain ⟨cs', h1, _⟩ := hi 0 (by omega)
      obtain ⟨v, _, hv⟩ := cells_get h1 hr
      have e0 : (a.add (0 * r.n)).add 0 = a := by simp [Addr.add]
      rw [e0] at hv
      obtain ⟨b, off, spot⟩ := a
      simp only [World.cell?] at hv
      split at hv
      · rename_i cs E fr hb
        split at hv
        · cases hv
        · rename_i hs
          have hs' : spot = none := by cases spot with | none => rfl | some _ => simp at hs
          subst hs'
          exact ⟨b, off, cs, E, fr, rfl, hb⟩
      · cases hv
    obtain ⟨b, off, cs, E, fr, rfl, hb⟩ := hblock
    obtain ⟨ys, h1, h2⟩ := choose_list (n := len) (p := fun j x => r.lie (allL W) x (fun k => cs[off + j * r.n + k]?)) fun i hlt => by
      obtain ⟨cs', hc1, ht1⟩ := hi i (by omega)
      obtain ⟨x, hx⟩ := he.2 ht1
      refine ⟨x, r.mono (fun k v hk => ?_) hx⟩
      have hk2 : k < r.n := by
        obtain ⟨_, hl2, _⟩ := World.cells?_some hc1
        have := (List.getElem?_eq_some_iff.1 hk).1
        omega
      obtain ⟨v', e1, e2⟩ := cells_get hc1 hk2
      rw [hk] at e1; cases e1
      rw [add_add, Addr.add_mid, World.cell?] at e2
      simp only [hb] at e2
      rw [Nat.add_assoc]
      simpa using e2
    exact ⟨ys, some ⟨b, off, none⟩, m, by rw [h1]; rfl, by omega, hm, .inr ⟨b, off, cs, E, fr, b, rfl, allL_get hb, h2⟩⟩⟩
def SoundF {α : Type} (P : Program) (fs : List Field) (off : Nat) (r : Rd α) : Prop :=
  ∀ {H : Type} {enc : TypeId × Value → H} {W : World} {n : Nat} {cs : List Value} {xs : List (DataW H × List MemPlace)}, xs.length = fs.length →
    (∀ (i : Nat) (f : Field), fs[i]? = some f → DataW.trod enc P W 0 (fun _ => true) true n f.type ((cs.drop f.offset).take (P.cellsOf f.type)) = xs[i]?) → ∃ a, r.lie (allL W) a (fun k => cs[off + k]?)
theorem soundF_one {α : Type} {r : Rd α} {f : Field} {off : Nat} (h : Sound P f.type r) (ho : f.offset = off) : SoundF P [f] off r := fun {H enc W n cs xs} hl hi => by
  have h1 := hi 0 f rfl
  obtain ⟨y, hy⟩ : ∃ y, xs[0]? = some y := ⟨xs[0]'(by simp [hl]), List.getElem?_eq_getElem _⟩
  rw [hy] at h1
  obtain ⟨a, ha⟩ := h.2 h1
  refine ⟨a, r.mono (fun k v hk => ?_) ha⟩
  have := cut_get hk
  rwa [ho] at this
theorem soundF_cons {α β : Type} {r : Rd α} {s : Rd β} {f : Field} {fs : List Field} {off : Nat} (h : Sound P f.type r) (ho : f.offset = off) (hs : SoundF P fs (off + r.n) s) : SoundF P (f :: fs) off (pairR r s) := fun {H enc W n cs xs} hl hi => by
  obtain ⟨y, xs, rfl⟩ : ∃ y ys, xs = y :: ys := by
    cases xs with
    | nil => simp at hl
    | cons y ys => exact ⟨y, ys, rfl⟩
  obtain ⟨a, ha⟩ := soundF_one (P := P) h ho (enc := enc) (W := W) (n := n) (cs := cs) (xs := [y]) rfl (fun i g hg => by
    cases i with
    | zero => exact hi 0 g hg
    | succ i => simp at hg)
  obtain ⟨b, hb⟩ := hs (enc := enc) (W := W) (n := n) (cs := cs) (xs := xs) (by simpa using hl) (fun i g hg => hi (i + 1) g hg)
  exact ⟨(a, b), ha, by simpa [Nat.add_assoc] using hb⟩
theorem sound_struct {α : Type} {r : Rd α} {fs : Array Field} (ht : P.underlying t = some (.struct fs)) (hc : P.cellsOf t = r.n) (h : SoundF P fs.toList 0 r) : Sound P t r := ⟨hc, fun hx => by
  obtain ⟨xs, n, _, _, _, hl, hi⟩ := DataW.trod_struct ht hx
  obtain ⟨a, ha⟩ := h (by simpa using hl) (fun i f hf => hi i f (by simpa using hf))
  exact ⟨a, by simpa using ha⟩⟩
theorem arg_slice {α : Type} {H : Type} {enc : TypeId × Value → H} {W : World} {rc : Reach} {b0 e : TypeId} {r : Rd α} {v : Value} {d : DataW H} {p : List MemPlace} (ht : P.underlying t = some (.slice e)) (hs : Sound P t (sliceR r))
    (hval : Value.okWide P W rc b0 t v) (h : DataW.Trod enc P W 0 (fun _ => true) true t v d p) : ∃ (a : Option Addr) (cap : Nat) (xs : List α), v = .slice a xs.length cap ∧ xs.length ≤ cap ∧ cap ≤ maxLen ∧ SlLie r (allL W) a xs := by
  obtain ⟨a0, len, cap, rfl⟩ := okWide_slice ht hval
  obtain ⟨fuel, hf⟩ := h
  obtain ⟨xs, a, cap', h1, h2⟩ := hs.2 hf
  simp [Value.cells] at h1
  obtain ⟨rfl, rfl, rfl⟩ := h1
  exact ⟨_, _, xs, rfl, h2⟩
end Go.Proofs.Ytmdiabglbmgkkaa
namespace Go.Proofs.Ytmdiabglbmgkkaa
open Go.RowKit
structure ActR where
  what : Int
  file : Int
  n : Int
  b : List UInt8
structure ActR.Ok (x : ActR) : Prop where
  w0 : 0 ≤ x.what
  w1 : x.what < 256
  f0 : 0 ≤ x.file
  f1 : x.file < 256
  n0 : -32768 ≤ x.n
  n1 : x.n < 32768
  bl : x.b.length ≤ maxLen
abbrev actC (x : ActR) : Array Value := #[.int .u8 x.what, .int .u8 x.file, .int .i16 x.n, .string (bstr x.b)]
def ActsAt (L : List (Nat × Obj)) (v : Value) (l : List ActR) : Prop := (∀ x ∈ l, x.Ok) ∧ ∃ a cap, v = .slice a l.length cap ∧ l.length ≤ cap ∧ cap ≤ maxLen ∧ (l = [] ∨ ∃ (g off : Nat) (cur : Array Value) (E : TypeId) (fr : Nat × Nat) (i : Nat), a = some ⟨g, off, none⟩ ∧ L[i]? = some (g, .cells cur E fr) ∧ ∀ (j : Nat) (x : ActR), l[j]? = some x → cur.extract (off + j * 4) (off + j * 4 + 4) = actC x ∧ off + j * 4 + 4 ≤ cur.size)
theorem ActsAt.at_ {L : List (Nat × Obj)} {a : Option Addr} {cap : Nat} {l : List ActR} (h : ActsAt L (.slice a l.length cap) l) {j : Nat} {x : ActR} (hj : l[j]? = some x) : x.Ok ∧ ∃ (g off : Nat) (cur : Array Value) (E : TypeId) (fr : Nat × Nat) (i : Nat), a = some ⟨g, off, none⟩ ∧ L[i]? = some (g, .cells cur E fr) ∧ cur.extract (off + j * 4) (off + j * 4 + 4) = actC x ∧ off + j * 4 + 4 ≤ cur.size ∧ cur[off + j * 4]? = some (.int .u8 x.what) ∧ cur[off + j * 4 + 1]? = some (.int .u8 x.file) ∧ cur[off + j * 4 + 2]? = some (.int .i16 x.n) ∧ cur[off + j * 4 + 3]? = some (.string (bstr x.b)) := by
  obtain ⟨h0, a', cap', e, h2, h3, h4⟩ := h
  simp only [Value.slice.injEq] at e
  obtain ⟨rfl, _, rfl⟩ := e
  refine ⟨h0 x (List.mem_of_getElem? hj), ?_⟩
  rcases h4 with rfl | ⟨g, off, cur, E, fr, i, e1, e2, e3⟩
  · simp at hj
  · obtain ⟨q1, q2⟩ := e3 j x hj
    have get : ∀ k, k < 4 → cur[off + j * 4 + k]? = (actC x)[k]? := fun k hk => by
      rw [← q1, Array.getElem?_extract, if_pos (by omega)]
    exact ⟨g, off, cur, E, fr, i, e1, e2, q1, q2, get 0 (by decide), get 1 (by decide), get 2 (by decide), get 3 (by decide)⟩
theorem acts_of {L : List (Nat × Obj)} {a : Option Addr} {cap : Nat} {xs : List (Int × Int × Int × ByteArray)} (h : xs.length ≤ cap) (hm : cap ≤ maxLen) (hx : SlLie (pairR (intR .u8) (pairR (intR .u8) (pairR (intR .i16) strR))) L a xs) : ∃ l : List ActR, ActsAt L (.slice a xs.length cap) l := by
  refine ⟨xs.map fun x => ⟨x.1, x.2.1, x.2.2.1, x.2.2.2.data.toList⟩, ?_, a, cap, by rw [List.length_map], by rw [List.length_map]; exact h, hm, ?_⟩
  · intro y hy
    obtain ⟨x, hxm, rfl⟩ := List.mem_map.1 hy
    rcases hx with rfl | ⟨b, off, cs, E, fr, i, rfl, hi, hc⟩
    · simp at hxm
    · obtain ⟨j, hj⟩ := List.mem_iff_getElem?.1 hxm
      obtain ⟨⟨_, a1⟩, ⟨_, a2⟩, ⟨_, a3⟩, _, a4⟩ := hc j x hj
      have u1 := u8_bounds a1
      have u2 := u8_bounds a2
      have u3 := i16_bounds a3
      exact ⟨u1.1, u1.2, u2.1, u2.2, u3.1, u3.2, by simpa using a4⟩
  · rcases hx with rfl | ⟨b, off, cs, E, fr, i, rfl, hi, hc⟩
    · exact .inl rfl
    · refine .inr ⟨b, off, cs, E, fr, i, rfl, hi, fun j y hj => ?_⟩
      rw [List.getElem?_map] at hj
      cases hl : xs[j]? with
      | none => rw [hl] at hj; cases hj
      | some x =>
        rw [hl] at hj
        obtain rfl : _ = y := Option.some.inj hj
        obtain ⟨⟨c0, _⟩, ⟨c1, _⟩, ⟨c2, _⟩, c3, _⟩ := hc j x hl
        have c0 : cs[off + j * 4]? = some (.int .u8 x.1) := c0
        have c1 : cs[off + j * 4 + 1]? = some (.int .u8 x.2.1) := c1
        have c2 : cs[off + j * 4 + 2]? = some (.int .i16 x.2.2.1) := c2
        have c3 : cs[off + j * 4 + 3]? = some (.string x.2.2.2) := c3
        have hsz : off + j * 4 + 4 ≤ cs.size := by
          have := (Array.getElem?_eq_some_iff.1 c3).1
          omega
        refine ⟨?_, hsz⟩
        apply Array.ext_getElem?
        intro q
        rw [Array.getElem?_extract]
        match q with
        | 0 => rw [if_pos (by omega)]; exact c0
        | 1 => rw [if_pos (by omega)]; exact c1
        | 2 => rw [if_pos (by omega)]; exact c2
        | 3 => rw [if_pos (by omega), show off + j * 4 + 3 = off + j * 4 + 3 from rfl, c3]; exact congrArg (fun s => some (Value.string s)) (bstr_of x.2.2.2)
        | q + 4 => rw [if_neg (by omega)]; rfl
theorem take_min (l : List UInt8) (k : Int) (m : Nat) (hk : k = m) : l.take (if k < ((l.length : Nat) : Int) then k else ((l.length : Nat) : Int)).toNat = l.take m := by
  subst hk
  split
  · rw [Int.toNat_natCast]
  · rw [Int.toNat_natCast, List.take_length, List.take_of_length_le (by omega)]
attribute [local irreducible] Fn WC WL WR OW Qt YieldFn QW
end Go.Proofs.Ytmdiabglbmgkkaa
namespace Go.Proofs.Ytmdiabglbmgkkaa
open Go.RowKit
def fileN (x : ActR) : Int := x.file.tmod 5
theorem fileN_r {x : ActR} (h : x.Ok) : 0 ≤ fileN x ∧ fileN x < 5 := by
  unfold fileN
  have := h.f0
  exact ⟨Int.tmod_nonneg 5 h.f0, Int.tmod_lt_of_pos _ (by decide)⟩
attribute [local irreducible] Fn WC WL WR OW Qt YieldFn QW
end Go.Proofs.Ytmdiabglbmgkkaa
namespace Go.Proofs.Ytmdiabglbmgkkaa
open Go.RowKit
def Left (x y : F1) : Prop := ∃ m, x.2 ≤ m ∧ m ≤ x.1.length ∧ y = (x.1.take m, m)
theorem crash1_left {st : FG × List UInt8} {n : Int} (hm : (st.1 n).2 ≤ (st.1 n).1.length) : Left (st.1 n) ((crash1 st n).1 n) := by
  obtain ⟨g, ch⟩ := st
  have up : ∀ x : F1, upG g n x n = x := fun x => by simp [upG]
  cases ch with
  | nil => exact ⟨(g n).2, Nat.le_refl _, hm, up _⟩
  | cons c ch =>
    by_cases hlt : (g n).2 < (g n).1.length
    · have := Nat.mod_lt c.toNat (show 0 < (g n).1.length - (g n).2 + 1 by omega)
      have e : crash1 (g, c :: ch) n = (upG g n ((g n).1.take ((g n).2 + c.toNat % ((g n).1.length - (g n).2 + 1)), (g n).2 + c.toNat % ((g n).1.length - (g n).2 + 1)), ch) := by
        unfold crash1
        dsimp only
        rw [if_pos hlt]
      rw [e]
      exact ⟨(g n).2 + c.toNat % ((g n).1.length - (g n).2 + 1), Nat.le_add_right _ _, by dsimp only; omega, up _⟩
    · have e : crash1 (g, c :: ch) n = (upG g n ((g n).1.take (g n).2, (g n).2), c :: ch) := by
        unfold crash1
        dsimp only
        rw [if_neg hlt]
      rw [e]
      exact ⟨(g n).2, Nat.le_refl _, hm, up _⟩
theorem crashes_left : ∀ {xs : List Int} {g : FG} {ch : List UInt8}, xs.Nodup → (∀ n, (g n).2 ≤ (g n).1.length) → ∀ n, n ∈ xs → Left (g n) ((crashes xs g ch).1 n)
  | [], _, _, _, _, _, h => by simp at h
  | x :: xs, g, ch, hn, hm, n, h => by
    obtain ⟨h1, h2⟩ := List.nodup_cons.1 hn
    have e : crashes (x :: xs) g ch = crashes xs (crash1 (g, ch) x).1 (crash1 (g, ch) x).2 := rfl
    have hm' : ∀ n, ((crash1 (g, ch) x).1 n).2 ≤ ((crash1 (g, ch) x).1 n).1.length := fun k => by
      by_cases hk : k = x
      · subst hk
        obtain ⟨m, _, q2, q3⟩ := crash1_left (st := (g, ch)) (n := k) (hm k)
        rw [q3]
        simp only [List.length_take]
        dsimp only at q2
        omega
      · rw [crash1_keep _ _ _ hk]; exact hm k
    rw [e]
    rcases List.mem_cons.1 h with rfl | h
    · rw [crashes_keep _ _ _ _ h1]
      exact crash1_left (st := (g, ch)) (hm n)
    · have hne : n ≠ x := fun e => h1 (e ▸ h)
      have := crashes_left (xs := xs) (g := (crash1 (g, ch) x).1) (ch := (crash1 (g, ch) x).2) h2 hm' n h
      rwa [crash1_keep _ _ _ hne] at this
theorem crashG_left {g : FG} (hf : Few g) (hm : ∀ n, (g n).2 ≤ (g n).1.length) (hz : ∀ n, (g n).1 = [] → g n = ([], 0)) (ch : List UInt8) (n : Int) : Left (g n) (crashG g ch n) := by
  unfold crashG
  by_cases h : n ∈ keys7 g
  · exact crashes_left (keys7_rise g).2 hm n h
  · rw [crashes_keep _ _ _ _ h]
    rw [mem_keys7 hf] at h
    have : (g n).1 = [] := by simpa using h
    rw [hz n this]
    exact ⟨0, Nat.le_refl _, Nat.le_refl _, rfl⟩
theorem crash1_same {g : FG} {ch : List UInt8} {n : Int} (h : (g n).2 = (g n).1.length) : crash1 (g, ch) n = (g, ch) := by
  have e : upG g n ((g n).1.take (g n).2, (g n).2) = g := by
    rw [h, List.take_length, ← h]
    exact upG_self g n
  unfold crash1
  split
  · rename_i hc
    dsimp only at hc ⊢
    rw [e, hc]
  · rename_i c ch' hc
    dsimp only at hc ⊢
    rw [if_neg (by omega), e, hc]
theorem crashes_same : ∀ {xs : List Int} {g : FG} {ch : List UInt8}, (∀ n, (g n).2 = (g n).1.length) → crashes xs g ch = (g, ch)
  | [], _, _, _ => rfl
  | x :: xs, g, ch, h => by
    have e : crashes (x :: xs) g ch = crashes xs (crash1 (g, ch) x).1 (crash1 (g, ch) x).2 := rfl
    rw [e, crash1_same (h x)]
    exact crashes_same h
theorem crashes_none : ∀ {xs : List Int} {g : FG}, xs.Nodup → ∀ n, n ∈ xs → (crashes xs g []).1 n = ((g n).1.take (g n).2, (g n).2) ∧ (crashes xs g []).2 = []
  | [], _, _, _, h => by simp at h
  | x :: xs, g, hn, n, h => by
    obtain ⟨h1, h2⟩ := List.nodup_cons.1 hn
    have e : crashes (x :: xs) g [] = crashes xs (upG g x ((g x).1.take (g x).2, (g x).2)) [] := rfl
    rw [e]
    have hlast : ∀ (ys : List Int) (g' : FG), (crashes ys g' []).2 = [] := fun ys => by
      induction ys with
      | nil => intro _; rfl
      | cons y ys ih => intro g'; exact ih _
    refine ⟨?_, hlast _ _⟩
    rcases List.mem_cons.1 h with rfl | h
    · rw [crashes_keep _ _ _ _ h1]; simp [upG]
    · have hne : n ≠ x := fun e => h1 (e ▸ h)
      rw [(crashes_none h2 n h).1]
      simp [upG, hne]
theorem crashG_none {g : FG} (hf : Few g) (hz : ∀ n, (g n).1 = [] → g n = ([], 0)) (n : Int) : crashG g [] n = ((g n).1.take (g n).2, (g n).2) := by
  unfold crashG
  by_cases h : n ∈ keys7 g
  · exact (crashes_none (keys7_rise g).2 n h).1
  · rw [crashes_keep _ _ _ _ h]
    rw [mem_keys7 hf] at h
    have : (g n).1 = [] := by simpa using h
    rw [hz n this]; rfl
def moreOf (x : F1) : Nat := x.1.length - x.2
def wholeL (g : FG) (ks : List Int) : List UInt8 := (ks.filter fun n => decide (0 < moreOf (g n))).map fun n => UInt8.ofNat (min (moreOf (g n)) 255)
theorem wholeL_congr {g g' : FG} : ∀ {ks : List Int}, (∀ n ∈ ks, g n = g' n) → wholeL g ks = wholeL g' ks
  | [], _ => rfl
  | k :: ks, h => by
    have h1 := h k (List.mem_cons_self ..)
    have ih := wholeL_congr (ks := ks) fun n hn => h n (List.mem_cons_of_mem _ hn)
    unfold wholeL at ih ⊢
    rw [List.filter_cons, List.filter_cons, h1]
    split
    · rw [List.map_cons, List.map_cons, ih, h1]
    · exact ih
theorem crashes_whole : ∀ {ks : List Int} {g : FG}, ks.Nodup → (∀ n, (g n).2 ≤ (g n).1.length) → ∀ n, n ∈ ks → moreOf (g n) < 255 → (crashes ks g (wholeL g ks)).1 n = ((g n).1, (g n).1.length)
  | [], _, _, _, _, h, _ => by simp at h
  | x :: ks, g, hn, hm, n, h, hs => by
    obtain ⟨h1, h2⟩ := List.nodup_cons.1 hn
    have hcong : ∀ y : F1, wholeL (upG g x y) ks = wholeL g ks := fun y => wholeL_congr fun k hk => by
      have hne : k ≠ x := fun e => h1 (e ▸ hk)
      unfold upG; rw [if_neg hne]
    have key : ∃ y : F1, crash1 (g, wholeL g (x :: ks)) x = (upG g x y, wholeL g ks) ∧ y.2 ≤ y.1.length ∧ (moreOf (g x) < 255 → y = ((g x).1, (g x).1.length)) := by
      by_cases hx : 0 < moreOf (g x)
      · have e : wholeL g (x :: ks) = UInt8.ofNat (min (moreOf (g x)) 255) :: wholeL g ks := by
          unfold wholeL
          rw [List.filter_cons_of_pos (by simpa using hx), List.map_cons]
        have hu : (UInt8.ofNat (min (moreOf (g x)) 255)).toNat = min (moreOf (g x)) 255 := by
          rw [UInt8.toNat_ofNat']
          omega
        have hlt := Nat.mod_lt (min (moreOf (g x)) 255) (show 0 < moreOf (g x) + 1 by omega)
        have hmx := hm x
        unfold moreOf at hx hlt hu ⊢
        refine ⟨((g x).1.take ((g x).2 + (min ((g x).1.length - (g x).2) 255) % ((g x).1.length - (g x).2 + 1)), (g x).2 + (min ((g x).1.length - (g x).2) 255) % ((g x).1.length - (g x).2 + 1)), ?_, ?_, ?_⟩
        · rw [e]
          unfold crash1
          dsimp only
          rw [if_pos (by omega)]
          unfold moreOf
          rw [hu]
        · simp only [List.length_take]; omega
        · intro hs
          rw [Nat.mod_eq_of_lt (by omega)]
          have e2 : (g x).2 + min ((g x).1.length - (g x).2) 255 = (g x).1.length := by omega
          rw [e2, List.take_length]
      · have e : wholeL g (x :: ks) = wholeL g ks := by
          unfold wholeL
          rw [List.filter_cons_of_neg (by simpa using hx)]
        have hmx := hm x
        have hfull : (g x).2 = (g x).1.length := by unfold moreOf at hx; omega
        refine ⟨((g x).1, (g x).1.length), ?_, Nat.le_refl _, fun _ => rfl⟩
        rw [e, crash1_same hfull]
        congr 1
        rw [← hfull]
        exact (upG_self g x).symm
    obtain ⟨y, k1, k2, k3⟩ := key
    have e : crashes (x :: ks) g (wholeL g (x :: ks)) = crashes ks (crash1 (g, wholeL g (x :: ks)) x).1 (crash1 (g, wholeL g (x :: ks)) x).2 := rfl
    rw [e, k1]
    dsimp only
    rcases List.mem_cons.1 h with rfl | h
    · rw [crashes_keep _ _ _ _ h1]
      unfold upG
      rw [if_pos rfl]
      exact k3 hs
    · have hne : n ≠ x := fun e => h1 (e ▸ h)
      have gn : upG g x y n = g n := by unfold upG; rw [if_neg hne]
      rw [← hcong y]
      have := crashes_whole (ks := ks) (g := upG g x y) h2 (fun k => by
        unfold upG
        by_cases hk : k = x
        · rw [if_pos hk]; exact k2
        · rw [if_neg hk]; exact hm k) n h (by rw [gn]; exact hs)
      rw [this, gn]
attribute [local irreducible] Fn WC WL WR OW Qt YieldFn QW
theorem hasPre1_fn {a b : List UInt8} {L : List (Nat × Obj)} : Fn Try.prog 45 [.string (bstr a), .string (bstr b)] L (fun v L' => v = .bool (b.isPrefixOf a) ∧ L' = L) := by
  refine Fn_enter Try.func45 rfl Try.ntmps45 rfl fun gw => ?_
  by_cases h : b.length ≤ a.length
  · have d : decide (((a.length : Nat) : Int) ≥ ((b.length : Nat) : Int)) = true := decide_eq_true (by omega)
    have h1 : ((b.length : Nat) : Int) ≤ ((a.length : Nat) : Int) := by omega
    repeat (first | ((first | refine WL_Q ?_ | refine WL_Y ?_); (first | refine QW_a ?_)) | refine WL_nil ?_ | refine WL_un (h := ?_) | refine WL_N ?_ | refine WL_M ?_ | refine WC_seq ?_ | refine WC_ret ?_ | refine WC_region ?_)
    refine ⟨rfl, _, _, Res1 rfl (resV_tmp rfl), .refl _, ?_, rfl⟩
    rw [Int.toNat_natCast]
    congr 1
    rw [Bool.eq_iff_iff, List.isPrefixOf_iff_prefix, beq_iff_eq, List.prefix_iff_eq_take]
    exact eq_comm
  · have d : decide (((a.length : Nat) : Int) ≥ ((b.length : Nat) : Int)) = false := decide_eq_false (by omega)
    repeat (first | ((first | refine WL_Q ?_ | refine WL_Y ?_); (first | refine QW_a ?_)) | refine WL_nil ?_ | refine WL_un (h := ?_) | refine WL_N ?_ | refine WL_M ?_ | refine WC_seq ?_ | refine WC_ret ?_ | refine WC_region ?_)
    refine ⟨rfl, _, _, Res1 rfl (resV_tmp rfl), .refl _, ?_, rfl⟩
    congr 1
    symm
    rw [Bool.eq_false_iff]
    intro h2
    rw [List.isPrefixOf_iff_prefix] at h2
    exact h h2.length_le
theorem hasPre_fn {a b : List UInt8} {L : List (Nat × Obj)} : Fn Try.prog 24 [.string (bstr a), .string (bstr b)] L (fun v L' => v = .bool (b.isPrefixOf a) ∧ L' = L) := by
  refine Fn_enter Try.func24 rfl Try.ntmps24 rfl fun gw => ?_
  repeat (first | ((first | refine WL_Q ?_); (first | refine QW_a ?_)) | ((first | refine WL_op rfl ?_); (first | refine OW_callP rfl (hF := hasPre1_fn) (hk := ?_))) | refine WL_nil ?_ | refine WC_seq ?_ | refine WC_ret ?_ | refine WC_region ?_)
  exact ⟨rfl, _, _, Res1 rfl (resV_tmp rfl), .refl _, rfl, rfl⟩
theorem file_fn {x : ActR} (hx : x.Ok) {L : List (Nat × Obj)} : Fn Try.prog 16 [.agg (actC x)] L (fun v L' => v = .int .i64 (fileN x - 1) ∧ L' = L) := by
  obtain ⟨f0, f1⟩ := fileN_r hx
  have wf : IntKind.i64.wrap (x.file.tmod 5) = fileN x := wI64 (by unfold fileN at f0; omega) (by unfold fileN at f1; omega)
  have w1 : IntKind.i64.wrap (fileN x - 1) = fileN x - 1 := wI64 (by omega) (by omega)
  refine Fn_enter Try.func16 rfl Try.ntmps16 rfl fun gw => ?_
  repeat (first | ((first | refine WL_Q ?_); (first | refine QW_a ?_)) | ((first | refine WL_op rfl ?_); (first | refine OW_box rfl (hk := fun _ => ?_))) | refine WL_nil ?_ | refine WC_seq ?_ | refine WC_ret ?_ | refine WC_region ?_)
  exact ⟨rfl, _, _, Res1 rfl (resV_tmp rfl), .cons _ (.refl _), by rw [wf, w1], rfl⟩
end Go.Proofs.Ytmdiabglbmgkkaa
namespace Go.Proofs.Ytmdiabglbmgkkaa
open Go.RowKit
def idxL : Nat → List Value → List (Nat × Value)
  | _, [] => []
  | k, x :: r => (k, x) :: idxL (k + 1) r
theorem fill_idx {n : Nat} : ∀ (xs : List Value) (k : Nat) (pre z : List Value), pre.length = k * n → z.length = xs.length * n → (∀ x ∈ xs, x.cells.size = n) →
    FilledA n (pre ++ z).toArray (idxL k xs) (pre ++ xs.flatMap fun x => x.cells.toList).toArray
  | [], k, pre, z, _, hz, _ => by
    have : z = [] := List.length_eq_zero_iff.1 (by simpa using hz)
    subst this
    show _ = _
    simp
  | x :: r, k, pre, z, hp, hz, hx => by
    have h1 := hx x (by simp)
    have h2 : z.length = r.length * n + n := by rw [hz, List.length_cons, Nat.succ_mul]
    refine ⟨h1, by rw [List.size_toArray, List.length_append]; omega, ?_⟩
    have ih := fill_idx (n := n) r (k + 1) (pre ++ x.cells.toList) (z.drop n) (by rw [List.length_append, hp, Nat.succ_mul, Array.length_toList, h1]) (by rw [List.length_drop]; omega) (fun y hy => hx y (by simp [hy]))
    have e : putR (pre ++ z).toArray (k * n) x.cells = ((pre ++ x.cells.toList) ++ z.drop n).toArray := by
      unfold putR
      rw [← hp, h1]
      simp only [List.take_left, List.drop_append, List.append_assoc]
      rw [List.drop_eq_nil_of_le (by omega), List.nil_append]
      congr 4
      omega
    rw [e]
    simpa using ih
theorem OW_buildS {c : Cx} {o : Oper} {Kn : St → Prop} {K : Exit → St → Prop} {s : List (Nat × Value)} {D : List Deferred} {L : List (Nat × Obj)} {t E n m by_ d : Nat} {z : Array Value} {parts : Array (Nat × Operand)} {xs : List Value} [hu : TUnd c.P t (.slice E)] [hrow : TRow c.P E z n by_] (ho : o.op = .buildSlice t m parts) (_hv : evs s (parts.toList.map fun q => q.2) = some xs := by exact rfl) (hx : evp s parts.toList = some (idxL 0 xs) := by exact rfl) (hm : xs.length = m := by exact rfl)
    (hk : ∀ b, Kn ⟨(d, .slice (some ⟨b, 0, none⟩) m m) :: s, D, (b, .cells (xs.flatMap fun x => x.cells.toList).toArray E) :: L⟩) (hc0 : (xs.all fun x => x.cells.size == n) = true := by exact rfl) (hn0 : Nat.ble 1 (m * n) = true := by exact rfl) (hn1 : Nat.ble (m * n) 16777216 = true := by exact rfl) (hdst : o.dst = some d := by exact rfl) (hd : Nat.blt d c.N = true := by exact rfl) : OW c o Kn K ⟨s, D, L⟩ := fun a w ha => by
  have hc : ∀ x ∈ xs, x.cells.size = n := fun x hx => by simpa using List.all_eq_true.1 hc0 x hx
  refine ⟨fun _ _ => trivial, ?_⟩
  obtain ⟨i, zz, h1, h2, h3, h4, h5, h6⟩ := hrow.h
  have hn0 := Nat.le_of_ble_eq_true hn0
  have hn1 := Nat.le_of_ble_eq_true hn1
  have hb := run_buildSlice (P := c.P) w t E m (parts.map fun (i, x) => (i, a.eval x)) (xs.flatMap fun x => x.cells.toList).toArray i zz hu.h h1 h2 (by rw [h4]; omega) (by rw [h4]; omega) (by
    rw [h4, Array.toList_map, evp_map (fun x u hu => ha.ev hu) hx]
    generalize hAe : (Array.range (m * n)).map (zz.cells[· % zz.cells.size]!) = A
    have hA : A.size = m * n := by rw [← hAe]; simp
    have hf := fill_of_FilledA (fill_idx (n := n) xs 0 [] A.toList (by simp) (by rw [Array.length_toList, hA, hm]) hc)
    rw [List.nil_append, List.nil_append, Array.toArray_toList] at hf
    exact hf)
  have hr : (execOp a.eval o).run c.P w = .ok (.value (.slice (some ⟨w.heap.size, 0, none⟩) m m)) (w.alloc (.cells (xs.flatMap fun x => x.cells.toList).toArray E)) := by
    simp [execOp, ho, hb]
  rw [Oper.semAt_eq _ _ _ (by rw [ho]; intro cc h; cases h), hr]
  refine ⟨_, ?_, hk w.heap.size⟩
  rw [hdst]
  exact (ha.mem' (ha.mem.alloc _)).put (d := some d) hd _
end Go.Proofs.Ytmdiabglbmgkkaa
namespace Go.Proofs.Ytmdiabglbmgkkaa
open Go.RowKit
abbrev sV (l : List UInt8) : Value := .string (bstr l)
def allC (g : FG) : Array Value := #[sV (g 0).1, sV (g 1).1, sV (g 2).1, sV (g 3).1]
def syC (g : FG) : Array Value := #[sV ((g 0).1.take (g 0).2), sV ((g 1).1.take (g 1).2), sV ((g 2).1.take (g 2).2), sV ((g 3).1.take (g 3).2)]
theorem four {k : Int} (h0 : 0 ≤ k) (h1 : k < 4) : k = 0 ∨ k = 1 ∨ k = 2 ∨ k = 3 := by omega
theorem all_get {g : FG} {k : Int} (h0 : 0 ≤ k) (h1 : k < 4) : (allC g)[k.toNat * 1]? = some (sV (g k).1) := by
  rcases four h0 h1 with rfl | rfl | rfl | rfl <;> rfl
theorem sy_get {g : FG} {k : Int} (h0 : 0 ≤ k) (h1 : k < 4) : (syC g)[k.toNat * 1]? = some (sV ((g k).1.take (g k).2)) := by
  rcases four h0 h1 with rfl | rfl | rfl | rfl <;> rfl
theorem all_set {g : FG} {k : Int} (h0 : 0 ≤ k) (h1 : k < 4) (l : List UInt8) (m : Nat) : (allC g).setIfInBounds (k.toNat * 1) (sV l) = allC (upG g k (l, m)) := by
  rcases four h0 h1 with rfl | rfl | rfl | rfl <;> rfl
theorem sy_set {g : FG} {k : Int} (h0 : 0 ≤ k) (h1 : k < 4) (l l' : List UInt8) (m : Nat) (h : l = l'.take m) : (syC g).setIfInBounds (k.toNat * 1) (sV l) = syC (upG g k (l', m)) := by
  subst h
  rcases four h0 h1 with rfl | rfl | rfl | rfl <;> rfl
theorem all_size (g : FG) : (allC g).size = 4 := rfl
theorem sy_size (g : FG) : (syC g).size = 4 := rfl
theorem all_keep {g : FG} {k : Int} {m : Nat} : allC (upG g k ((g k).1, m)) = allC g := by
  have e : ∀ n : Int, (upG g k ((g k).1, m) n).1 = (g n).1 := fun n => by
    unfold upG
    by_cases h : n = k
    · rw [if_pos h, h]
    · rw [if_neg h]
  unfold allC
  rw [e, e, e, e]
theorem sy_keep {g : FG} {k : Int} {b : List UInt8} (hm : (g k).2 ≤ (g k).1.length) : syC (upG g k ((g k).1 ++ b, (g k).2)) = syC g := by
  have e : ∀ n : Int, ((upG g k ((g k).1 ++ b, (g k).2) n).1.take (upG g k ((g k).1 ++ b, (g k).2) n).2) = ((g n).1.take (g n).2) := fun n => by
    unfold upG
    by_cases h : n = k
    · rw [if_pos h, h]; exact List.take_append_of_le_length hm
    · rw [if_neg h]
  unfold syC
  rw [e, e, e, e]
def Few4 (g : FG) : Prop := ∀ n, (g n).1 ≠ [] → 0 ≤ n ∧ n < 4
theorem Few4.few {g : FG} (h : Few4 g) : Few g := fun n hn => by have := h n hn; omega
theorem Few4.up {g : FG} (h : Few4 g) {n : Int} {x : F1} (h0 : 0 ≤ n) (h1 : n < 4) : Few4 (upG g n x) := fun m hm => by
  unfold upG at hm
  by_cases e : m = n
  · omega
  · rw [if_neg e] at hm; exact h m hm
theorem Fn.under {P : Program} {f : FuncId} {args : List Value} {Pf S L : List (Nat × Obj)} {Q : Value → Prop} {Z : List (Nat × Obj) → Prop} (h : Fn P f args (S ++ (Pf ++ L)) (fun r L' => Q r ∧ ∃ S', L' = S' ++ (Pf ++ L) ∧ Z S')) : Fn P f args (Pf ++ (S ++ L)) (fun r L' => Q r ∧ ∃ S', L' = Pf ++ (S' ++ L) ∧ Z S') :=
  h.perm (List.perm_append_comm_assoc ..) fun v L' ⟨h1, S', h2, h3⟩ => ⟨_, by rw [h2]; exact List.perm_append_comm_assoc .., h1, S', rfl, h3⟩
theorem sync_at {g : FG} {k : Int} (hz : (g k).1 = [] → g k = ([], 0)) : syncG g k = upG g k ((g k).1, (g k).1.length) := by
  rw [syncG_up]
  unfold syncF
  by_cases h : (g k).1 = []
  · rw [if_pos h, hz h]; rfl
  · rw [if_neg h]
theorem cut_ok {g : FG} {k n : Int} (h : cutE g k n = 0) : 0 ≤ n ∧ n ≤ ((g k).1.length : Int) ∧ (g k).1 ≠ [] ∧ cutG g k n = upG g k ((g k).1.take n.toNat, n.toNat) := by
  unfold cutG
  rw [if_pos h]
  unfold cutE at h
  by_cases h1 : (g k).1 = []
  · rw [if_pos h1] at h; omega
  · rw [if_neg h1] at h
    by_cases h2 : n < 0 ∨ ((g k).1.length : Int) < n
    · rw [if_pos h2] at h; omega
    · exact ⟨by omega, by omega, h1, rfl⟩
theorem cut_no {g : FG} {k n : Int} (h : cutE g k n ≠ 0) : cutG g k n = g := by
  unfold cutG
  rw [if_neg h]
theorem app_ok {g : FG} {k : Int} {b : List UInt8} (h : appE g k b = 0) : 0 ≤ k ∧ appG g k b = upG g k ((g k).1 ++ b, (g k).2) := by
  unfold appE at h
  unfold appG
  by_cases h1 : k < 0
  · rw [if_pos h1] at h; omega
  · rw [if_neg h1] at h ⊢
    by_cases h2 : 1048576 < (g k).1.length + b.length
    · rw [if_pos h2] at h; omega
    · rw [if_neg h2]
      exact ⟨by omega, rfl⟩
theorem app_no {g : FG} {k : Int} {b : List UInt8} (h : appE g k b ≠ 0) : appG g k b = g := by
  unfold appE at h
  unfold appG
  by_cases h1 : k < 0
  · rw [if_pos h1]
  · rw [if_neg h1] at h ⊢
    by_cases h2 : 1048576 < (g k).1.length + b.length
    · rw [if_pos h2]
    · rw [if_neg h2] at h; exact absurd rfl h
theorem Fn.permP {P : Program} {f : FuncId} {args : List Value} {M1 M : List (Nat × Obj)} {x : Value} (h : Fn P f args M1 (fun v L' => v = x ∧ L' = M1)) (hp : M1.Perm M) : Fn P f args M (fun v L' => v = x ∧ L' = M) :=
  h.perm hp fun v L' ⟨h1, h2⟩ => ⟨_, by rw [h2]; exact hp.symm, h1, rfl⟩
theorem perm_sw {α : Type} (a d X r : List α) : (a ++ (X ++ (d ++ r))).Perm (d ++ (X ++ (a ++ r))) :=
  .trans (.append_left _ (List.perm_append_comm_assoc X d r)) (.trans (List.perm_append_comm_assoc a d _) (.append_left _ (List.perm_append_comm_assoc a X r)))
theorem left_pre {x y : F1} (h : Left x y) : y.1.isPrefixOf x.1 = true ∧ (x.1.take x.2).isPrefixOf y.1 = true ∧ y.2 = y.1.length := by
  obtain ⟨m, h1, h2, rfl⟩ := h
  refine ⟨?_, ?_, ?_⟩
  · rw [List.isPrefixOf_iff_prefix]; exact List.take_prefix _ _
  · rw [List.isPrefixOf_iff_prefix]
    dsimp only
    have : x.1.take x.2 = (x.1.take m).take x.2 := by rw [List.take_take, Nat.min_eq_left h1]
    rw [this]
    exact List.take_prefix _ _
  · rw [List.length_take]; dsimp only; omega
theorem wholeL_keys {g : FG} (hf : Few4 g) : wholeL g [0, 1, 2, 3] = wholeL g (keys7 g) := by
  have key : ∀ ks : List Int, ks.filter (fun n => decide (0 < moreOf (g n))) = (ks.filter fun n => !(g n).1.isEmpty).filter (fun n => decide (0 < moreOf (g n))) := fun ks => by
    rw [List.filter_filter]
    congr 1
    funext n
    by_cases h : (g n).1 = []
    · have : moreOf (g n) = 0 := by unfold moreOf; rw [h]; simp
      rw [this, h]; rfl
    · have : (g n).1.isEmpty = false := by simpa using h
      rw [this]; simp
  unfold wholeL keys7
  rw [key [0, 1, 2, 3]]
  have e : ([4, 5, 6] : List Int).filter (fun n => !(g n).1.isEmpty) = [] := List.filter_eq_nil_iff.2 fun n hn => by
    have h : ¬ ((g n).1 ≠ []) := fun h => by
      have := hf n h
      simp at hn
      omega
    simpa using h
  have e2 : ([0, 1, 2, 3, 4, 5, 6] : List Int) = [0, 1, 2, 3] ++ [4, 5, 6] := rfl
  rw [e2, List.filter_append, e, List.append_nil]
theorem crashG_whole {g : FG} (hf : Few4 g) (hm : ∀ n, (g n).2 ≤ (g n).1.length) {n : Int} (hs : moreOf (g n) < 255) : (crashG g (wholeL g [0, 1, 2, 3]) n).1 = (g n).1 := by
  rw [wholeL_keys hf]
  unfold crashG
  by_cases h : n ∈ keys7 g
  · rw [crashes_whole (keys7_rise g).2 hm n h hs]
  · rw [crashes_keep _ _ _ _ h]
theorem wholeL_snoc (g : FG) (ks : List Int) (k : Int) : wholeL g (ks ++ [k]) = wholeL g ks ++ (if 0 < moreOf (g k) then [UInt8.ofNat (min (moreOf (g k)) 255)] else []) := by
  unfold wholeL
  rw [List.filter_append, List.map_append]
  by_cases h : 0 < moreOf (g k)
  · rw [if_pos h, List.filter_cons_of_pos (by simpa using h)]; rfl
  · rw [if_neg h, List.filter_cons_of_neg (by simpa using h)]; rfl
theorem wholeL_len (g : FG) (ks : List Int) : (wholeL g ks).length ≤ ks.length := by
  unfold wholeL
  rw [List.length_map]
  exact List.length_filter_le _ _
theorem take4 {k : Nat} (hk : k < 4) : ([0, 1, 2, 3] : List Int).take (k + 1) = ([0, 1, 2, 3] : List Int).take k ++ [(k : Int)] := by
  match k, hk with
  | 0, _ => rfl
  | 1, _ => rfl
  | 2, _ => rfl
  | 3, _ => rfl
theorem blockK_mono {id : Nat} {K1 K2 : Exit → St → Prop} (h : ∀ e σ, K1 e σ → K2 e σ) (e : Exit) (σ : St) (hk : blockK id K1 e σ) : blockK id K2 e σ := by
  cases e with
  | exit id' =>
    simp only [blockK] at hk ⊢
    split at hk
    · exact h _ _ hk
    · exact h _ _ hk
  | normal => exact h _ _ hk
  | ret => exact h _ _ hk
  | panic ch => exact h _ _ hk
  | goto l => exact h _ _ hk
  | outgrown => exact h _ _ hk
theorem WC_meetL {c : Cx} {x z : Code} {id : Nat} {K : Exit → St → Prop} {σ : St} (Q : St → Prop) (hA : WC c x (blockK id (thenK (meetQ Q) K)) σ) (hB : ∀ σ, Q σ → WC c z K σ) : WC c x (blockK id (thenK (WC c z K) K)) σ :=
  WC_mono hA (blockK_mono (meet_next hB))
attribute [local irreducible] Fn WC WL WR OW Qt YieldFn QW
set_option maxHeartbeats 16000000 in
theorem lasts_fn {v cv : Value} {l : List ActR} {ch : List UInt8} {L : List (Nat × Obj)} (hv : ActsAt L v l) (hch : ByAt L cv ch) : Fn Try.prog 5 [v, cv] L (fun r L' => r = .bool true ∧ L' = L) := by
  obtain ⟨_, va, vc, rfl, hvl, hvm, _⟩ := id hv
  refine Fn_enter Try.func5 rfl Try.ntmps5 rfl fun gw => ?_
  repeat (first | ((first | refine WL_Q ?_); (first | refine QW_a ?_ | refine QW_of (Qt_ldX rfl (hn := by with_reducible assumption)) ?_)) | ((first | refine WL_op rfl ?_); (first | refine OW_alloc rfl (hk := fun _ => ?_) | refine OW_callP rfl (hF := works15_fn) (hk := ?_) | (refine OW_call rfl (hF := new_fn) (hk := ?_); rintro _ _ ⟨sb, S, rfl, rfl, hS⟩))) | refine WL_nil ?_ | refine WC_seq ?_ | refine WC_block ?_ | refine WC_cond_t (ht := ?_) | refine WC_cond_f (he := ?_) | refine WC_skip ?_ | refine WC_ret ?_ | refine WC_exit ?_ | refine WC_region (id := 0) ?_ | refine WC_region (id := 1) ?_ | refine WC_region (id := 3) ?_ | refine WC_region (id := 4) ?_ | refine WC_region (id := 6) ?_ | refine WC_region (id := 7) ?_)
  rename_i x6 x7
  refine WC_wk [(8, .int .i64 ((0 : Nat) : Int)), (7, fP x7), (6, fP x6), (5, fP sb), (0, .slice va l.length vc), (1, cv)] ⟨rfl, rfl, rfl, rfl, rfl, rfl, trivial⟩ ?_
  refine WC_meetL (fun σ => ∃ (S : List (Nat × Obj)) (g : FG), StAt sb S g ∧ Few4 g ∧ σ = ⟨[(7, fP x7), (6, fP x6), (5, fP sb), (1, cv)], [], (x7, .cells (syC g) 45 (0, 0)) :: (x6, .cells (allC g) 45 (0, 0)) :: (S ++ L)⟩) ?_ ?_
  rotate_left
  · rintro _ ⟨S1, g, hS1, hf, rfl⟩
    have hlim := fun n => hS1.lim n
    refine WC_permA (L' := S1 ++ ([(x7, .cells (syC g) 45 (0, 0)), (x6, .cells (allC g) 45 (0, 0))] ++ L)) (List.perm_append_comm_assoc S1 [_, _] L) ?_
    repeat (first | ((first | refine WL_Q ?_); (first | refine QW_a ?_ | refine QW_of (Qt_ldX rfl (hn := by with_reducible assumption)) ?_)) | ((first | refine WL_op rfl ?_); (first | (refine OW_call rfl (hF := copy_st hS1) (hk := ?_); rintro _ _ ⟨c1, C1, rfl, rfl, hC1⟩))) | refine WL_nil ?_ | refine WC_seq ?_ | refine WC_block ?_ | refine WC_cond_t (ht := ?_) | refine WC_cond_f (he := ?_) | refine WC_skip ?_ | refine WC_ret ?_ | refine WC_exit ?_ | refine WC_region (id := 36) ?_)
    refine WL_permA (L' := S1 ++ (C1 ++ ([(x7, .cells (syC g) 45 (0, 0)), (x6, .cells (allC g) 45 (0, 0))] ++ L))) (List.perm_append_comm_assoc ..) ?_
    refine WL_op rfl (OW_call rfl (hF := copy_st hS1) (hk := ?_))
    rintro _ _ ⟨c2, C2, rfl, rfl, hC2⟩
    repeat (first | ((first | refine WL_Q ?_ | refine WL_Y ?_); (first | refine QW_a ?_ | refine QW_of (Qt_ldX rfl (hn := by with_reducible assumption)) ?_)) | ((first | refine WL_op rfl ?_ | refine WL_yes (h := ?_)); (first | (refine OW_call rfl (hF := copy_st hS1) (hk := ?_); rintro _ _ ⟨c1, C1, rfl, rfl, hC1⟩))) | refine WL_nil ?_ | refine WL_un (h := ?_) | refine WL_N ?_ | refine WL_M ?_ | refine WC_seq ?_ | refine WC_block ?_ | refine WC_cond_t (ht := ?_) | refine WC_cond_f (he := ?_) | refine WC_skip ?_ | refine WC_ret ?_ | refine WC_exit ?_ | refine WC_region (id := 36) ?_ | refine WC_region (id := 37) ?_ | refine WC_region (id := 39) ?_ | refine WC_region (id := 40) ?_)
    have hpm : ((x7, Obj.cells (syC g) 45 (0, 0)) :: (x6, Obj.cells (allC g) 45 (0, 0)) :: (S1 ++ (C1 ++ (C2 ++ L)))).Perm (C2 ++ (S1 ++ (C1 ++ ([(x7, .cells (syC g) 45 (0, 0)), (x6, .cells (allC g) 45 (0, 0))] ++ L)))) := by
      have h1 := List.perm_append_comm_assoc [(x7, Obj.cells (syC g) 45 (0, 0)), (x6, Obj.cells (allC g) 45 (0, 0))] (S1 ++ (C1 ++ C2)) L
      refine .trans (by simpa using h1) ?_
      have h2 := List.perm_append_comm_assoc (S1 ++ C1) C2 ([(x7, Obj.cells (syC g) 45 (0, 0)), (x6, Obj.cells (allC g) 45 (0, 0))] ++ L)
      simpa using h2
    refine WC_permA hpm ?_
    clear hpm
    refine WC_wk [(16, .int .i64 ((0 : Nat) : Int)), (15, .slice none 0 0), (14, fP c2), (13, fP c1), (7, fP x7), (6, fP x6), (5, fP sb), (1, cv)] ⟨rfl, rfl, rfl, rfl, rfl, rfl, rfl, rfl, trivial⟩ ?_
    refine WC_meetL (fun σ => ∃ v T, BufB v T (wholeL g [0, 1, 2, 3]) ∧ σ = ⟨[(15, v), (14, fP c2), (13, fP c1), (7, fP x7), (6, fP x6), (5, fP sb), (1, cv)], [], T ++ ((x7, .cells (syC g) 45 (0, 0)) :: (x6, .cells (allC g) 45 (0, 0)) :: (S1 ++ (C1 ++ (C2 ++ L))))⟩) ?_ ?_
    · have hrd : ∀ (T : List (Nat × Obj)) (n : Int) (b : List UInt8), Fn Try.prog 22 [fP sb, .int .i64 n, .string (bstr b)] (T ++ ((x7, .cells (syC g) 45 (0, 0)) :: (x6, .cells (allC g) 45 (0, 0)) :: (S1 ++ (C1 ++ (C2 ++ L))))) (fun r L' => r = .bool ((g n).1 == b) ∧ L' = T ++ ((x7, .cells (syC g) 45 (0, 0)) :: (x6, .cells (allC g) 45 (0, 0)) :: (S1 ++ (C1 ++ (C2 ++ L))))) := fun T n b =>
        Fn.permP (reads_st (F := T ++ ([(x7, .cells (syC g) 45 (0, 0)), (x6, .cells (allC g) 45 (0, 0))] ++ (C1 ++ (C2 ++ L)))) hS1) (.trans (List.perm_append_comm_assoc ..) (.append_left _ (List.perm_append_comm_assoc ..)))
      have hsn : ∀ (T : List (Nat × Obj)) (n : Int), Fn Try.prog 12 [fP sb, .int .i64 n] (T ++ ((x7, .cells (syC g) 45 (0, 0)) :: (x6, .cells (allC g) 45 (0, 0)) :: (S1 ++ (C1 ++ (C2 ++ L))))) (fun r L' => r = .int .i64 (g n).2 ∧ L' = T ++ ((x7, .cells (syC g) 45 (0, 0)) :: (x6, .cells (allC g) 45 (0, 0)) :: (S1 ++ (C1 ++ (C2 ++ L))))) := fun T n =>
        Fn.permP (synced_st (F := T ++ ([(x7, .cells (syC g) 45 (0, 0)), (x6, .cells (allC g) 45 (0, 0))] ++ (C1 ++ (C2 ++ L)))) hS1) (.trans (List.perm_append_comm_assoc ..) (.append_left _ (List.perm_append_comm_assoc ..)))
      generalize hM : (x7, Obj.cells (syC g) 45 (0, 0)) :: (x6, Obj.cells (allC g) 45 (0, 0)) :: (S1 ++ (C1 ++ (C2 ++ L))) = M at hrd hsn ⊢
      have hM0 : M[0]? = some (x7, .cells (syC g) 45 (0, 0)) := by rw [← hM]; rfl
      have hM1 : M[1]? = some (x6, .cells (allC g) 45 (0, 0)) := by rw [← hM]; rfl
      refine WC_loop (fun m σ => ∃ (k : Nat) (v : Value) (T : List (Nat × Obj)), m = 4 - k ∧ k ≤ 4 ∧ BufB v T (wholeL g (([0, 1, 2, 3] : List Int).take k)) ∧ σ = ⟨[(16, .int .i64 k), (15, v), (14, fP c2), (13, fP c1), (7, fP x7), (6, fP x6), (5, fP sb), (1, cv)], [], T ++ M⟩) 4 ⟨0, .slice none 0 0, [], by omega, by omega, Buf.nil _ _, rfl⟩ ?_
      rintro m σ ⟨k, v, T, rfl, hk, hb, rfl⟩
      by_cases hkt : k < 4
      · have d1 : decide ((k : Int) < 4) = true := decide_eq_true (by omega)
        have p0 : (0 : Int) ≤ (k : Int) := by omega
        have p1 : (k : Int) < 4 := by omega
        have p2 : (k : Int) < ((4 : Nat) : Int) := by omega
        have w : IntKind.i64.wrap ((k : Int) + 1) = ((k + 1 : Nat) : Int) := by rw [wI64 (by omega) (by omega)]; omega
        obtain ⟨l1, l2, l3⟩ := hlim (k : Int)
        have ca := all_get (g := g) p0 p1
        have cs := sy_get (g := g) p0 p1
        have hT0 : (T ++ M)[T.length + 0]? = some (x7, .cells (syC g) 45 (0, 0)) := by rw [List.getElem?_append_right (by omega), Nat.add_sub_cancel_left]; exact hM0
        have hT1 : (T ++ M)[T.length + 1]? = some (x6, .cells (allC g) 45 (0, 0)) := by rw [List.getElem?_append_right (by omega), Nat.add_sub_cancel_left]; exact hM1
        have htl : ((g k).1.take (g k).2).length = (g k).2 := by rw [List.length_take]; omega
        have b1 : (!((g k).1 == (g k).1)) = false := by simp
        have b2 : ((((g k).2 : Nat) : Int) != ((((g k).1.take (g k).2).length : Nat) : Int)) = false := by rw [htl]; simp
        have wm : IntKind.i64.wrap ((((g k).1.length : Nat) : Int) - ((((g k).1.take (g k).2).length : Nat) : Int)) = ((moreOf (g k) : Nat) : Int) := by unfold moreOf; rw [htl, wI64 (by omega) (by omega)]; omega
        repeat (first | ((first | refine WL_Q ?_ | refine WL_Y ?_ | refine WR_Q rfl ?_ | refine WR_late rfl rfl rfl (OW_Q ?_) | refine WR_Y rfl ?_); (first | refine QW_a ?_ | refine QW_of (Qt_ldX rfl (hn := by with_reducible assumption)) ?_)) | ((first | refine WL_op rfl ?_ | refine WL_yes (h := ?_) | refine WR_late rfl rfl rfl ?_ | refine WR_opG rfl rfl ?_ | refine WR_opYG rfl (h := ?_)); (first | refine OW_callP rfl (hF := hrd T _ _) (hk := ?_) | refine OW_callP rfl (hF := hsn T _) (hk := ?_)); try refine ⟨(by first | exact fun _ h => h | exact sub_mem (by repeat (first | exact .refl _ | exact List.nil_sublist _ | exact List.sublist_append_right _ _ | exact List.Sublist.append (.refl _) (List.sublist_append_right _ _) | apply List.Sublist.cons_cons | apply List.Sublist.cons))), ?_⟩) | refine WL_nil ?_ | refine WL_un (h := ?_) | refine WL_N ?_ | refine WL_M ?_ | refine WR_nil ?_ | refine WR_un rfl (hk := ?_) | refine WR_N rfl ?_ | refine WR_M rfl ?_ | refine WC_seq ?_ | refine WC_block ?_ | refine WC_cond_t (ht := ?_) | refine WC_cond_f (he := ?_) | refine WC_skip ?_ | refine WC_ret ?_ | refine WC_exit ?_ | refine WC_draw_all (id := 43) 17 (.calm 0 <| .calm 1 <| .calm 2 <| .calm 3 <| .calm 4 <| .must 5 <| .calm 6 <| .calm 7 <| .calm 8 <| .calm 9 <| .calm 11 <| .calm 12 <| .calm 13 <| .calm 14 <| .must 10 <| .calm 15 <| .calm 16 <| .done) mixed (by kernel_rfl) ?_ | refine WC_draw_all (id := 45) 10 (.calm 0 <| .calm 1 <| .calm 2 <| .calm 3 <| .calm 4 <| .calm 5 <| .calm 6 <| .calm 7 <| .calm 8 <| .calm 9 <| .done) mixed (by kernel_rfl) ?_ | refine WC_region (id := 41) ?_ | (refine WR_skN rfl (h := ?_)) | (refine WR_skM rfl (h := ?_)) | (refine WR_skU rfl (h := ?_)))
        rw [wm]
        have htk := take4 hkt
        have hsn2 := wholeL_snoc g (([0, 1, 2, 3] : List Int).take k) (k : Int)
        have hwl := wholeL_len g (([0, 1, 2, 3] : List Int).take k)
        have htl4 : (([0, 1, 2, 3] : List Int).take k).length ≤ 4 := by rw [List.length_take]; simp; omega
        by_cases hmo : 0 < moreOf (g k)
        · have d2 : decide (((moreOf (g k) : Nat) : Int) > 0) = true := decide_eq_true (by omega)
          rw [if_pos hmo, ← htk] at hsn2
          have hmin : (if (255 : Int) < ((moreOf (g k) : Nat) : Int) then (255 : Int) else ((moreOf (g k) : Nat) : Int)) = ((min (moreOf (g k)) 255 : Nat) : Int) := by split <;> omega
          have w8 : Value.int .u8 (IntKind.u8.wrap (if (255 : Int) < ((moreOf (g k) : Nat) : Int) then (255 : Int) else ((moreOf (g k) : Nat) : Int))) = bV (UInt8.ofNat (min (moreOf (g k)) 255)) := by
            unfold bV
            rw [hmin, wU8 (by omega) (by omega), UInt8.toNat_ofNat']
            congr 1
            omega
          repeat (first | ((first | refine WL_Q ?_); (first | refine QW_a ?_ | refine QW_of (Qt_ldX rfl (hn := by with_reducible assumption)) ?_)) | ((first | refine WL_op rfl ?_); (first | refine OW_build1 rfl (hk := fun _ => ?_))) | refine WL_nil ?_ | refine WC_seq ?_ | refine WC_block ?_ | refine WC_cond_t (ht := ?_) | refine WC_cond_f (he := ?_) | refine WC_skip ?_ | refine WC_ret ?_ | refine WC_exit ?_ | refine WC_region (id := 46) ?_ | refine WC_region (id := 47) ?_)
          rw [w8]
          repeat (first | ((first | refine WL_Q ?_); (first | refine QW_a ?_ | refine QW_of (Qt_ldX rfl (hn := by with_reducible assumption)) ?_)) | ((first | refine WL_op rfl ?_); (first | refine OW_build1 rfl (hk := fun _ => ?_))) | refine WL_nil ?_ | refine WC_seq ?_ | refine WC_block ?_ | refine WC_cond_t (ht := ?_) | refine WC_cond_f (he := ?_) | refine WC_skip ?_ | refine WC_ret ?_ | refine WC_exit ?_ | refine WC_region (id := 47) ?_)
          refine WL_op rfl (OW_append_buf (A := [_]) (T := T) (B := M) rfl rfl rfl rfl rfl hb (src1 0 rfl) (by decide) (by simp only [maxLen]; omega) (by omega) ?_)
          intro v' T' hb'
          simp only [List.cons_append, List.nil_append]
          repeat (first | ((first | refine WL_Q ?_); (first | refine QW_a ?_ | refine QW_of (Qt_ldX rfl (hn := by with_reducible assumption)) ?_)) | ((first | refine WL_op rfl ?_); (first | refine OW_build1 rfl (hk := fun _ => ?_))) | refine WL_nil ?_ | refine WC_seq ?_ | refine WC_block ?_ | refine WC_cond_t (ht := ?_) | refine WC_cond_f (he := ?_) | refine WC_skip ?_ | refine WC_ret ?_ | refine WC_exit ?_ | refine WC_region (id := 47) ?_ | refine WC_region (id := 42) ?_)
          rw [w]
          refine ⟨_, _, by omega, ⟨k + 1, v', T', rfl, by omega, ?_, rfl⟩, ⟨rfl, rfl, rfl, rfl, rfl, rfl, rfl, rfl, trivial⟩, rfl, .cons _ (.refl _)⟩
          rw [hsn2]
          unfold BufB
          rw [List.map_append, List.length_append]
          exact hb'
        · have d2 : decide (((moreOf (g k) : Nat) : Int) > 0) = false := decide_eq_false (by omega)
          rw [if_neg hmo, ← htk, List.append_nil] at hsn2
          repeat (first | ((first | refine WL_Q ?_); (first | refine QW_a ?_ | refine QW_of (Qt_ldX rfl (hn := by with_reducible assumption)) ?_)) | refine WL_nil ?_ | refine WC_seq ?_ | refine WC_block ?_ | refine WC_cond_t (ht := ?_) | refine WC_cond_f (he := ?_) | refine WC_skip ?_ | refine WC_ret ?_ | refine WC_exit ?_ | refine WC_region (id := 46) ?_ | refine WC_region (id := 42) ?_)
          rw [w]
          exact ⟨_, _, by omega, ⟨k + 1, v, T, rfl, by omega, by rw [hsn2]; exact hb, rfl⟩, ⟨rfl, rfl, rfl, rfl, rfl, rfl, rfl, rfl, trivial⟩, rfl, .refl _⟩
      · obtain rfl : k = 4 := by omega
        have d1 : decide (((4 : Nat) : Int) < 4) = false := by decide
        repeat (first | ((first | refine WL_Q ?_); (first | refine QW_a ?_ | refine QW_of (Qt_ldX rfl (hn := by with_reducible assumption)) ?_)) | refine WL_nil ?_ | refine WC_seq ?_ | refine WC_block ?_ | refine WC_cond_t (ht := ?_) | refine WC_cond_f (he := ?_) | refine WC_skip ?_ | refine WC_ret ?_ | refine WC_exit ?_ | refine WC_region (id := 41) ?_)
        exact ⟨_, ⟨v, T, hb, rfl⟩, ⟨rfl, rfl, rfl, rfl, rfl, rfl, rfl, trivial⟩, rfl, .refl _⟩
    rintro _ ⟨v, T, hb, rfl⟩
    have hfew := hf.few
    have hmk : ∀ n, (g n).2 ≤ (g n).1.length := fun n => (hlim n).1
    have hz : ∀ n, (g n).1 = [] → g n = ([], 0) := fun n => (hlim n).2.2
    refine WC_permA (L' := S1 ++ (T ++ ([(x7, .cells (syC g) 45 (0, 0)), (x6, .cells (allC g) 45 (0, 0))] ++ (C1 ++ (C2 ++ L))))) (.trans (List.perm_append_comm_assoc ..) (.append_left _ (List.perm_append_comm_assoc ..))) ?_
    have hcF : ByAt (T ++ ([(x7, .cells (syC g) 45 (0, 0)), (x6, .cells (allC g) 45 (0, 0))] ++ (C1 ++ (C2 ++ L)))) cv ch := ((((hch.app C2).app C1).app [(x7, .cells (syC g) 45 (0, 0)), (x6, .cells (allC g) 45 (0, 0))])).app T
    repeat (first | ((first | refine WL_Q ?_); (first | refine QW_a ?_ | refine QW_of (Qt_ldX rfl (hn := by with_reducible assumption)) ?_)) | refine WL_nil ?_ | refine WC_seq ?_ | refine WC_block ?_ | refine WC_cond_t (ht := ?_) | refine WC_cond_f (he := ?_) | refine WC_skip ?_ | refine WC_ret ?_ | refine WC_exit ?_ | refine WC_region (id := 48) ?_)
    refine WL_op rfl (OW_call rfl (hF := crash7_st hS1 hfew hcF) (hk := ?_))
    rintro _ _ ⟨rfl, S2, rfl, hS2⟩
    repeat (first | ((first | refine WL_Q ?_); (first | refine QW_a ?_ | refine QW_of (Qt_ldX rfl (hn := by with_reducible assumption)) ?_)) | refine WL_nil ?_ | refine WC_seq ?_ | refine WC_block ?_ | refine WC_cond_t (ht := ?_) | refine WC_cond_f (he := ?_) | refine WC_skip ?_ | refine WC_ret ?_ | refine WC_exit ?_ | refine WC_region (id := 48) ?_ | refine WC_region (id := 49) ?_)
    refine WL_permA (L' := C1 ++ ((T ++ [(x7, .cells (syC g) 45 (0, 0)), (x6, .cells (allC g) 45 (0, 0))]) ++ (S2 ++ (C2 ++ L)))) (.trans (perm_sw ..) (by simp)) ?_
    refine WL_op rfl (OW_call rfl (hF := crash7_st hC1 hfew (ch := wholeL g [0, 1, 2, 3]) (by rw [List.append_assoc]; exact hb.vec0 _)) (hk := ?_))
    rintro _ _ ⟨rfl, D1, rfl, hD1⟩
    repeat (first | ((first | refine WL_Q ?_); (first | refine QW_a ?_ | refine QW_of (Qt_ldX rfl (hn := by with_reducible assumption)) ?_)) | refine WL_nil ?_ | refine WC_seq ?_ | refine WC_block ?_ | refine WC_cond_t (ht := ?_) | refine WC_cond_f (he := ?_) | refine WC_skip ?_ | refine WC_ret ?_ | refine WC_exit ?_ | refine WC_region (id := 49) ?_ | refine WC_region (id := 50) ?_)
    refine WL_permA (L' := C2 ++ (((T ++ [(x7, .cells (syC g) 45 (0, 0)), (x6, .cells (allC g) 45 (0, 0))]) ++ S2) ++ (D1 ++ L))) (.trans (perm_sw ..) (by simp)) ?_
    refine WL_op rfl (OW_call rfl (hF := crash7_st hC2 hfew (ByAt.nil _)) (hk := ?_))
    rintro _ _ ⟨rfl, D2, rfl, hD2⟩
    repeat (first | ((first | refine WL_Q ?_); (first | refine QW_a ?_ | refine QW_of (Qt_ldX rfl (hn := by with_reducible assumption)) ?_)) | refine WL_nil ?_ | refine WC_seq ?_ | refine WC_block ?_ | refine WC_cond_t (ht := ?_) | refine WC_cond_f (he := ?_) | refine WC_skip ?_ | refine WC_ret ?_ | refine WC_exit ?_ | refine WC_region (id := 50) ?_ | refine WC_region (id := 51) ?_)
    have hleft := crashG_left hfew hmk hz ch
    have hwhole := fun n => crashG_whole (n := n) hf hmk
    have hnone := crashG_none hfew hz
    have hf1 : Few (crashG g ch) := crashes_few hfew
    generalize crashG g ch = ga at hS2 hleft hf1
    generalize crashG g (wholeL g [0, 1, 2, 3]) = gb at hD1 hwhole
    generalize crashG g [] = gc at hD2 hnone
    refine WC_wk [(18, .int .i64 ((0 : Nat) : Int)), (14, fP c2), (13, fP c1), (7, fP x7), (6, fP x6), (5, fP sb)] ⟨rfl, rfl, rfl, rfl, rfl, rfl, trivial⟩ ?_
    refine WC_meetL (fun σ => σ = ⟨[(5, fP sb)], [], D2 ++ (((T ++ [(x7, .cells (syC g) 45 (0, 0)), (x6, .cells (allC g) 45 (0, 0))]) ++ S2) ++ (D1 ++ L))⟩) ?_ ?_
    · have hp1 : (S2 ++ ((T ++ [(x7, Obj.cells (syC g) 45 (0, 0)), (x6, Obj.cells (allC g) 45 (0, 0))]) ++ (D1 ++ (D2 ++ L)))).Perm (D2 ++ (((T ++ [(x7, .cells (syC g) 45 (0, 0)), (x6, .cells (allC g) 45 (0, 0))]) ++ S2) ++ (D1 ++ L))) := by
        have h1 := List.perm_append_comm_assoc S2 (T ++ [(x7, Obj.cells (syC g) 45 (0, 0)), (x6, Obj.cells (allC g) 45 (0, 0))]) (D1 ++ (D2 ++ L))
        have h2 := List.perm_append_comm_assoc (((T ++ [(x7, Obj.cells (syC g) 45 (0, 0)), (x6, Obj.cells (allC g) 45 (0, 0))]) ++ S2) ++ D1) D2 L
        simp only [List.append_assoc] at h1 h2 ⊢
        exact h1.trans h2
      have hp2 : (D1 ++ (((T ++ [(x7, Obj.cells (syC g) 45 (0, 0)), (x6, Obj.cells (allC g) 45 (0, 0))]) ++ S2) ++ (D2 ++ L))).Perm (D2 ++ (((T ++ [(x7, .cells (syC g) 45 (0, 0)), (x6, .cells (allC g) 45 (0, 0))]) ++ S2) ++ (D1 ++ L))) := perm_sw ..
      have r1 := fun (n : Int) => Fn.permP (read_st (F := (T ++ [(x7, Obj.cells (syC g) 45 (0, 0)), (x6, Obj.cells (allC g) 45 (0, 0))]) ++ (D1 ++ (D2 ++ L))) (n := n) hS2) hp1
      have r2 := fun (n : Int) => Fn.permP (synced_st (F := (T ++ [(x7, Obj.cells (syC g) 45 (0, 0)), (x6, Obj.cells (allC g) 45 (0, 0))]) ++ (D1 ++ (D2 ++ L))) (n := n) hS2) hp1
      have r3 := fun (n : Int) (b : List UInt8) => Fn.permP (reads_st (F := ((T ++ [(x7, Obj.cells (syC g) 45 (0, 0)), (x6, Obj.cells (allC g) 45 (0, 0))]) ++ S2) ++ (D2 ++ L)) (n := n) (b := b) hD1) hp2
      have r4 := fun (n : Int) (b : List UInt8) => reads_st (F := ((T ++ [(x7, Obj.cells (syC g) 45 (0, 0)), (x6, Obj.cells (allC g) 45 (0, 0))]) ++ S2) ++ (D1 ++ L)) (n := n) (b := b) hD2
      have hM0 : (D2 ++ (((T ++ [(x7, Obj.cells (syC g) 45 (0, 0)), (x6, Obj.cells (allC g) 45 (0, 0))]) ++ S2) ++ (D1 ++ L)))[D2.length + T.length]? = some (x7, .cells (syC g) 45 (0, 0)) := by
        rw [List.getElem?_append_right (by omega), Nat.add_sub_cancel_left, List.append_assoc, List.append_assoc, List.getElem?_append_right (Nat.le_refl _), Nat.sub_self]
        rfl
      have hM1 : (D2 ++ (((T ++ [(x7, Obj.cells (syC g) 45 (0, 0)), (x6, Obj.cells (allC g) 45 (0, 0))]) ++ S2) ++ (D1 ++ L)))[D2.length + (T.length + 1)]? = some (x6, .cells (allC g) 45 (0, 0)) := by
        rw [List.getElem?_append_right (by omega), Nat.add_sub_cancel_left, List.append_assoc, List.append_assoc, List.getElem?_append_right (by omega), Nat.add_sub_cancel_left]
        rfl
      clear hp1 hp2
      generalize D2 ++ (((T ++ [(x7, Obj.cells (syC g) 45 (0, 0)), (x6, Obj.cells (allC g) 45 (0, 0))]) ++ S2) ++ (D1 ++ L)) = M at r1 r2 r3 r4 hM0 hM1 ⊢
      refine WC_loop (fun m σ => ∃ k : Nat, m = 4 - k ∧ k ≤ 4 ∧ σ = ⟨[(18, .int .i64 k), (14, fP c2), (13, fP c1), (7, fP x7), (6, fP x6), (5, fP sb)], [], M⟩) 4 ⟨0, by omega, by omega, rfl⟩ ?_
      rintro m σ ⟨k, rfl, hk, rfl⟩
      by_cases hkt : k < 4
      · have d1 : decide ((k : Int) < 4) = true := decide_eq_true (by omega)
        have p0 : (0 : Int) ≤ (k : Int) := by omega
        have p1 : (k : Int) < 4 := by omega
        have p2 : (k : Int) < ((4 : Nat) : Int) := by omega
        have w : IntKind.i64.wrap ((k : Int) + 1) = ((k + 1 : Nat) : Int) := by rw [wI64 (by omega) (by omega)]; omega
        obtain ⟨l1, l2, l3⟩ := hlim (k : Int)
        have ca := all_get (g := g) p0 p1
        have cs := sy_get (g := g) p0 p1
        obtain ⟨q1, q2, q3⟩ := left_pre (hleft (k : Int))
        have htl : ((g k).1.take (g k).2).length = (g k).2 := by rw [List.length_take]; omega
        have wm : IntKind.i64.wrap ((((g k).1.length : Nat) : Int) - ((((g k).1.take (g k).2).length : Nat) : Int)) = ((moreOf (g k) : Nat) : Int) := by unfold moreOf; rw [htl, wI64 (by omega) (by omega)]; omega
        have b2 : ((((ga k).2 : Nat) : Int) != (((ga k).1.length : Nat) : Int)) = false := by rw [q3]; simp
        have b3 : ((gc k).1 == ((g k).1.take (g k).2)) = true := by rw [hnone]; simp
        have q1' : (!((ga k).1.isPrefixOf (g k).1)) = false := by rw [q1]; rfl
        have q2' : (!(((g k).1.take (g k).2).isPrefixOf (ga k).1)) = false := by rw [q2]; rfl
        have b3' : (!((gc k).1 == ((g k).1.take (g k).2))) = false := by rw [b3]; rfl
        by_cases hsm : moreOf (g k) < 255
        · have d57 : decide (IntKind.i64.wrap ((((g k).1.length : Nat) : Int) - ((((g k).1.take (g k).2).length : Nat) : Int)) < 255) = true := by rw [wm]; exact decide_eq_true (by omega)
          have b4 : (!((gb k).1 == (g k).1)) = false := by rw [hwhole k hsm]; simp
          repeat (first | ((first | refine WL_Q ?_ | refine WL_Y ?_ | refine WR_Q rfl ?_ | refine WR_late rfl rfl rfl (OW_Q ?_) | refine WR_Y rfl ?_); (first | refine QW_a ?_ | refine QW_of (Qt_ldX rfl (hn := by with_reducible assumption)) ?_)) | ((first | refine WL_op rfl ?_ | refine WL_yes (h := ?_) | refine WR_late rfl rfl rfl ?_ | refine WR_opG rfl rfl ?_ | refine WR_opYG rfl (h := ?_)); (first | refine OW_callP rfl (hF := hsn T _) (hk := ?_) | refine OW_callP rfl (hF := r2 _) (hk := ?_) | refine OW_callP rfl (hF := r1 _) (hk := ?_) | refine OW_callP rfl (hF := r3 _ _) (hk := ?_) | refine OW_callP rfl (hF := r4 _ _) (hk := ?_) | refine OW_callP rfl (hF := hasPre_fn) (hk := ?_)); try refine ⟨(by first | exact fun _ h => h | exact sub_mem (by repeat (first | exact .refl _ | exact List.nil_sublist _ | exact List.sublist_append_right _ _ | exact List.Sublist.append (.refl _) (List.sublist_append_right _ _) | apply List.Sublist.cons_cons | apply List.Sublist.cons))), ?_⟩) | refine WL_nil ?_ | refine WL_un (h := ?_) | refine WL_N ?_ | refine WL_M ?_ | refine WR_nil ?_ | refine WR_un rfl (hk := ?_) | refine WR_N rfl ?_ | refine WR_M rfl ?_ | refine WC_seq ?_ | refine WC_block ?_ | refine WC_cond_t (ht := ?_) | refine WC_cond_f (he := ?_) | refine WC_skip ?_ | refine WC_ret ?_ | refine WC_exit ?_ | refine WC_draw_all (id := 57) 19 (.calm 0 <| .calm 1 <| .calm 2 <| .calm 3 <| .calm 4 <| .calm 5 <| .calm 6 <| .calm 7 <| .calm 8 <| .calm 9 <| .calm 10 <| .calm 11 <| .calm 12 <| .calm 13 <| .calm 14 <| .calm 15 <| .must 16 <| .calm 17 <| .calm 18 <| .done) mixed (by kernel_rfl) ?_ | refine WC_region (id := 52) ?_ | refine WC_region (id := 54) ?_ | refine WC_region (id := 55) ?_ | refine WC_region (id := 53) ?_ | (refine WR_skN rfl (h := ?_)) | (refine WR_skM rfl (h := ?_)) | (refine WR_skU rfl (h := ?_)))
          rw [w]
          exact ⟨_, _, by omega, ⟨k + 1, rfl, by omega, rfl⟩, ⟨rfl, rfl, rfl, rfl, rfl, rfl, trivial⟩, rfl, .refl _⟩
        · have d57 : decide (IntKind.i64.wrap ((((g k).1.length : Nat) : Int) - ((((g k).1.take (g k).2).length : Nat) : Int)) < 255) = false := by rw [wm]; exact decide_eq_false (by omega)
          repeat (first | ((first | refine WL_Q ?_ | refine WL_Y ?_ | refine WR_Q rfl ?_ | refine WR_late rfl rfl rfl (OW_Q ?_) | refine WR_Y rfl ?_); (first | refine QW_a ?_ | refine QW_of (Qt_ldX rfl (hn := by with_reducible assumption)) ?_)) | ((first | refine WL_op rfl ?_ | refine WL_yes (h := ?_) | refine WR_late rfl rfl rfl ?_ | refine WR_opG rfl rfl ?_ | refine WR_opYG rfl (h := ?_)); (first | refine OW_callP rfl (hF := hsn T _) (hk := ?_) | refine OW_callP rfl (hF := r2 _) (hk := ?_) | refine OW_callP rfl (hF := r1 _) (hk := ?_) | refine OW_callP rfl (hF := r3 _ _) (hk := ?_) | refine OW_callP rfl (hF := r4 _ _) (hk := ?_) | refine OW_callP rfl (hF := hasPre_fn) (hk := ?_)); try refine ⟨(by first | exact fun _ h => h | exact sub_mem (by repeat (first | exact .refl _ | exact List.nil_sublist _ | exact List.sublist_append_right _ _ | exact List.Sublist.append (.refl _) (List.sublist_append_right _ _) | apply List.Sublist.cons_cons | apply List.Sublist.cons))), ?_⟩) | refine WL_nil ?_ | refine WL_un (h := ?_) | refine WL_N ?_ | refine WL_M ?_ | refine WR_nil ?_ | refine WR_un rfl (hk := ?_) | refine WR_N rfl ?_ | refine WR_M rfl ?_ | refine WC_seq ?_ | refine WC_block ?_ | refine WC_cond_t (ht := ?_) | refine WC_cond_f (he := ?_) | refine WC_skip ?_ | refine WC_ret ?_ | refine WC_exit ?_ | refine WC_draw_all (id := 57) 19 (.calm 0 <| .calm 1 <| .calm 2 <| .calm 3 <| .calm 4 <| .calm 5 <| .calm 6 <| .calm 7 <| .calm 8 <| .calm 9 <| .calm 10 <| .calm 11 <| .calm 12 <| .calm 13 <| .calm 14 <| .calm 15 <| .must 16 <| .calm 17 <| .calm 18 <| .done) mixed (by kernel_rfl) ?_ | refine WC_region (id := 52) ?_ | refine WC_region (id := 54) ?_ | refine WC_region (id := 55) ?_ | refine WC_region (id := 53) ?_ | (refine WR_skN rfl (h := ?_)) | (refine WR_skM rfl (h := ?_)) | (refine WR_skU rfl (h := ?_)))
          rw [w]
          exact ⟨_, _, by omega, ⟨k + 1, rfl, by omega, rfl⟩, ⟨rfl, rfl, rfl, rfl, rfl, rfl, trivial⟩, rfl, .refl _⟩
      · obtain rfl : k = 4 := by omega
        have d1 : decide (((4 : Nat) : Int) < 4) = false := by decide
        repeat (first | ((first | refine WL_Q ?_); (first | refine QW_a ?_ | refine QW_of (Qt_ldX rfl (hn := by with_reducible assumption)) ?_)) | refine WL_nil ?_ | refine WC_seq ?_ | refine WC_block ?_ | refine WC_cond_t (ht := ?_) | refine WC_cond_f (he := ?_) | refine WC_skip ?_ | refine WC_ret ?_ | refine WC_exit ?_ | refine WC_region (id := 52) ?_)
        exact ⟨_, rfl, ⟨rfl, trivial⟩, rfl, .refl _⟩
    rintro _ rfl
    have hga : crashG ga [1, 2, 3] = ga := by
      unfold crashG
      rw [crashes_same fun n => (left_pre (hleft n)).2.2]
    have hML : ∀ X : List (Nat × Obj), L.Sublist (X ++ L) := fun X => List.sublist_append_right _ _
    refine WC_permA (L' := S2 ++ ((D2 ++ (T ++ ([(x7, .cells (syC g) 45 (0, 0)), (x6, .cells (allC g) 45 (0, 0))] ++ D1))) ++ L)) (by
      have h1 := List.perm_append_comm_assoc S2 (D2 ++ (T ++ [(x7, Obj.cells (syC g) 45 (0, 0)), (x6, Obj.cells (allC g) 45 (0, 0))])) (D1 ++ L)
      simpa using h1) ?_
    generalize (D2 ++ (T ++ ([(x7, Obj.cells (syC g) 45 (0, 0)), (x6, Obj.cells (allC g) 45 (0, 0))] ++ D1))) = Y
    repeat (first | ((first | refine WL_Q ?_); (first | refine QW_a ?_ | refine QW_of (Qt_ldX rfl (hn := by with_reducible assumption)) ?_)) | ((first | refine WL_op rfl ?_); (first | (refine OW_call rfl (hF := files7_st hS2 hf1) (hk := ?_); rintro _ _ ⟨U, hU, rfl⟩))) | refine WL_nil ?_ | refine WC_seq ?_ | refine WC_block ?_ | refine WC_cond_t (ht := ?_) | refine WC_cond_f (he := ?_) | refine WC_skip ?_ | refine WC_ret ?_ | refine WC_exit ?_ | refine WC_region (id := 59) ?_)
    obtain ⟨aU, cU, rfl, _, _⟩ := hU.val
    refine WC_permA (L' := S2 ++ (U ++ (Y ++ L))) (List.perm_append_comm_assoc ..) ?_
    repeat (first | ((first | refine WL_Q ?_); (first | refine QW_a ?_ | refine QW_of (Qt_ldX rfl (hn := by with_reducible assumption)) ?_)) | refine WL_nil ?_ | refine WC_seq ?_ | refine WC_block ?_ | refine WC_cond_t (ht := ?_) | refine WC_cond_f (he := ?_) | refine WC_skip ?_ | refine WC_ret ?_ | refine WC_exit ?_ | refine WC_region (id := 60) ?_)
    refine WL_op rfl (OW_buildS rfl (hk := ?_))
    intro bx
    refine WL_permA (L' := S2 ++ ((bx, .cells (([1, 2, 3] : List UInt8).map bV).toArray 5 (0, 0)) :: (U ++ (Y ++ L)))) List.perm_middle ?_
    refine WL_op rfl (OW_call rfl (hF := crash7_st hS2 hf1 (ch := [1, 2, 3]) ?_) (hk := ?_))
    · exact ⟨rfl, _, 3, rfl, by decide, by decide, .inr ⟨bx, 0, _, _, _, 0, rfl, rfl, fun j x hj => by simpa using hj⟩⟩
    rintro _ _ ⟨rfl, S3, rfl, hS3⟩
    rw [hga] at hS3
    repeat (first | ((first | refine WL_Q ?_); (first | refine QW_a ?_ | refine QW_of (Qt_ldX rfl (hn := by with_reducible assumption)) ?_)) | ((first | refine WL_op rfl ?_); (first | (refine OW_call rfl (hF := files7_st hS3 hf1) (hk := ?_); rintro _ _ ⟨U2, hU2, rfl⟩))) | refine WL_nil ?_ | refine WC_seq ?_ | refine WC_block ?_ | refine WC_cond_t (ht := ?_) | refine WC_cond_f (he := ?_) | refine WC_skip ?_ | refine WC_ret ?_ | refine WC_exit ?_ | refine WC_region (id := 60) ?_ | refine WC_region (id := 61) ?_)
    obtain ⟨aU2, cU2, rfl, _, _⟩ := hU2.val
    have hfin : ((((keys7 ga).length : Nat) : Int) == (((keys7 ga).length : Nat) : Int)) = true := by simp
    repeat (first | ((first | refine WL_Q ?_); (first | refine QW_a ?_ | refine QW_of (Qt_ldX rfl (hn := by with_reducible assumption)) ?_)) | ((first | refine WL_op rfl ?_); (first | (refine OW_call rfl (hF := files7_st hS3 hf1) (hk := ?_); rintro _ _ ⟨U2, hU2, rfl⟩))) | refine WL_nil ?_ | refine WC_seq ?_ | refine WC_block ?_ | refine WC_cond_t (ht := ?_) | refine WC_cond_f (he := ?_) | refine WC_skip ?_ | refine WC_ret ?_ | refine WC_exit ?_ | refine WC_region (id := 61) ?_)
    exact ⟨rfl, _, L, Res1 rfl (resV_tmp rfl), .trans (hML Y) (.trans (List.sublist_append_right _ _) (.trans (.cons _ (.refl _)) (.trans (List.sublist_append_right _ _) (List.sublist_append_right _ _)))), by rw [hfin], rfl⟩
  refine WC_loop (fun m σ => ∃ (i : Nat) (S : List (Nat × Obj)) (g : FG), m = l.length - i ∧ i ≤ l.length ∧ StAt sb S g ∧ Few4 g ∧ σ = ⟨[(8, .int .i64 i), (7, fP x7), (6, fP x6), (5, fP sb), (0, .slice va l.length vc), (1, cv)], [], (x7, .cells (syC g) 45 (0, 0)) :: (x6, .cells (allC g) 45 (0, 0)) :: (S ++ L)⟩) l.length ⟨0, S, _, by omega, by omega, hS, fun _ h => absurd rfl h, rfl⟩ ?_
  clear hS S
  rintro m σ ⟨i, S, g, rfl, hi, hS, hf, rfl⟩
  by_cases hgo : i < l.length ∧ i < 50
  · obtain ⟨hlt, h50⟩ := hgo
    have d2 : decide ((i : Int) < ((l.length : Nat) : Int)) = true := decide_eq_true (by omega)
    have d3 : decide ((i : Int) < 50) = true := decide_eq_true (by omega)
    obtain ⟨x, hx⟩ : ∃ x, l[i]? = some x := ⟨_, List.getElem?_eq_getElem hlt⟩
    obtain ⟨hxo, g1, o1, cu1, E1, fr1, i1, rfl, hi1, x1, z1, q0, q1, q2, q3⟩ := hv.at_ hx
    have p0 : (0 : Int) ≤ (i : Int) := by omega
    have p1 : ((i : Nat) : Int) < ((l.length : Nat) : Int) := by omega
    have y1 : o1 + ((i : Nat) : Int).toNat * 4 + 4 ≤ cu1.size := by rw [Int.toNat_natCast]; exact z1
    have v1 : cu1.extract (o1 + ((i : Nat) : Int).toNat * 4) (o1 + ((i : Nat) : Int).toNat * 4 + 4) = actC x := by rw [Int.toNat_natCast]; exact x1
    have hm1 : ((x7, Obj.cells (syC g) 45 (0, 0)) :: (x6, Obj.cells (allC g) 45 (0, 0)) :: (S ++ L))[S.length + i1 + 2]? = some (g1, .cells cu1 E1 fr1) := by
      show (S ++ L)[S.length + i1]? = _
      rw [List.getElem?_append_right (by omega), Nat.add_sub_cancel_left]; exact hi1
    have w : IntKind.i64.wrap ((i : Int) + 1) = ((i + 1 : Nat) : Int) := by rw [wI64 (by omega) (by omega)]; omega
    obtain ⟨f0, f1⟩ := fileN_r hxo
    have m0 : (0 : Int) ≤ (if (20 : Int) < ((x.b.length : Nat) : Int) then (20 : Int) else ((x.b.length : Nat) : Int)) := by split <;> omega
    have m1 : (if (20 : Int) < ((x.b.length : Nat) : Int) then (20 : Int) else ((x.b.length : Nat) : Int)) ≤ ((x.b.length : Nat) : Int) := by split <;> omega
    repeat (first | ((first | refine WL_Q ?_ | refine WL_Y ?_); (first | refine QW_a ?_ | refine QW_of (Qt_ldX rfl (hn := by with_reducible assumption)) ?_)) | ((first | refine WL_op rfl ?_ | refine WL_yes (h := ?_)); (first | refine OW_alloc rfl (hk := fun _ => ?_) | refine OW_stA rfl ?_ | refine OW_stN rfl ?_)) | refine WL_nil ?_ | refine WL_un (h := ?_) | refine WL_N ?_ | refine WL_M ?_ | refine WC_seq ?_ | refine WC_block ?_ | refine WC_cond_t (ht := ?_) | refine WC_cond_f (he := ?_) | refine WC_skip ?_ | refine WC_ret ?_ | refine WC_exit ?_ | refine WC_region (id := 8) ?_ | refine WC_region (id := 10) ?_)
    rw [v1]
    repeat (first | ((first | refine WL_Q ?_); (first | refine QW_a ?_ | refine QW_of (Qt_ldX rfl (hn := by with_reducible assumption)) ?_)) | ((first | refine WL_op rfl ?_); (first | refine OW_alloc rfl (hk := fun _ => ?_) | refine OW_stA rfl ?_ | refine OW_stN rfl ?_ | refine OW_callP rfl (hF := file_fn hxo) (hk := ?_))) | refine WL_nil ?_ | refine WC_seq ?_ | refine WC_block ?_ | refine WC_cond_t (ht := ?_) | refine WC_cond_f (he := ?_) | refine WC_skip ?_ | refine WC_ret ?_ | refine WC_exit ?_ | refine WC_region (id := 10) ?_ | refine WC_region (id := 11) ?_ | refine WC_region (id := 12) ?_)
    rw [take_min x.b 20 20 rfl]
    repeat (first | ((first | refine WL_Q ?_); (first | refine QW_a ?_ | refine QW_of (Qt_ldX rfl (hn := by with_reducible assumption)) ?_)) | refine WL_nil ?_ | refine WC_seq ?_ | refine WC_block ?_ | refine WC_cond_t (ht := ?_) | refine WC_cond_f (he := ?_) | refine WC_skip ?_ | refine WC_ret ?_ | refine WC_exit ?_ | refine WC_region (id := 12) ?_ | refine WC_region (id := 13) ?_)
    rename_i x9
    have k0 : -1 ≤ fileN x - 1 := by omega
    have k1 : fileN x - 1 < 4 := by omega
    have hN0 := hxo.n0
    have hN1 := hxo.n1
    generalize fileN x - 1 = k at k0 k1
    have hbl : (x.b.take 20).length ≤ 1048576 := by rw [List.length_take]; omega
    generalize x.b.take 20 = b at hbl
    clear m0 m1 v1 y1 hm1 q0 q1 q2 q3 f0 f1 d2 d3
    obtain ⟨lm1, lm2, lm3⟩ := hS.lim k
    refine WC_wk [(52, .int .u8 (x.what.tmod 6)), (11, sV b), (10, .int .i64 k), (9, fP x9), (8, .int .i64 i), (7, fP x7), (6, fP x6), (5, fP sb), (0, .slice (some ⟨g1, o1, none⟩) l.length vc), (1, cv)] ⟨rfl, rfl, rfl, rfl, rfl, rfl, rfl, rfl, rfl, rfl, trivial⟩ ?_
    have hsz := all_size g
    have hsz2 := sy_size g
    by_cases e3 : x.what.tmod 6 = 3
    · have d3 : (x.what.tmod 6 == 3) = true := by simpa using e3
      have hsy := sync_at lm3
      by_cases hk : 0 ≤ k
      · have dk : decide (k ≥ 0) = true := decide_eq_true hk
        have hmax : (if k > (0 : Int) then k else 0) = k := by split <;> omega
        have c1 : (allC g)[k.toNat * 1]? = some (sV (g k).1) := all_get hk k1
        have c1' : (allC g)[(if k > (0 : Int) then k else 0).toNat * 1]? = some (sV (g k).1) := by rw [hmax]; exact c1
        have i0 : (0 : Int) ≤ (if k > (0 : Int) then k else 0) := by rw [hmax]; exact hk
        have i1 : (if k > (0 : Int) then k else 0) < ((4 : Nat) : Int) := by rw [hmax]; omega
        have hse : ((syncE g k == 0) != !((g k).1 == [])) = false := by
          unfold syncE
          by_cases h0 : (g k).1 = []
          · rw [if_pos h0, h0]; rfl
          · have : ((g k).1 == []) = false := by simpa using h0
            rw [if_neg h0, this]; rfl
        have hk4 : k < ((4 : Nat) : Int) := by omega
        have hl1 : k.toNat * 1 < (syC g).size := by rw [hsz2]; omega
        repeat (first | ((first | refine WL_Q ?_ | refine WL_Y ?_); (first | refine QW_a ?_ | refine QW_of (Qt_ldX rfl (hn := by with_reducible assumption)) ?_)) | ((first | refine WL_op rfl ?_ | refine WL_yes (h := ?_)); (first | refine OW_st1 rfl ?_ | (refine OW_call rfl (hF := Fn.under (Pf := [_, _, _]) (sync_st hS)) (hk := ?_); rintro _ _ ⟨rfl, S', rfl, h'⟩))) | refine WL_nil ?_ | refine WL_un (h := ?_) | refine WL_N ?_ | refine WL_M ?_ | refine WC_seq ?_ | refine WC_block ?_ | refine WC_cond_t (ht := ?_) | refine WC_cond_f (he := ?_) | refine WC_skip ?_ | refine WC_ret ?_ | refine WC_exit ?_ | refine WC_region (id := 18) ?_ | refine WC_region (id := 19) ?_ | refine WC_region (id := 21) ?_ | refine WC_region (id := 22) ?_)
        rw [sy_set hk k1 (g k).1 (g k).1 (g k).1.length (List.take_length ..).symm, ← all_keep (g := g) (k := k) (m := (g k).1.length)]
        rw [hsy] at h'
        repeat (first | ((first | refine WL_Q ?_); (first | refine QW_a ?_ | refine QW_of (Qt_ldX rfl (hn := by with_reducible assumption)) ?_)) | refine WL_nil ?_ | refine WC_seq ?_ | refine WC_block ?_ | refine WC_cond_t (ht := ?_) | refine WC_cond_f (he := ?_) | refine WC_skip ?_ | refine WC_ret ?_ | refine WC_exit ?_ | refine WC_region (id := 9) ?_)
        rw [w]
        exact ⟨_, _, by omega, ⟨i + 1, S', _, rfl, by omega, h', hf.up hk k1, rfl⟩, ⟨rfl, rfl, rfl, rfl, rfl, rfl, trivial⟩, rfl, .cons _ (.refl _)⟩
      · have dk : decide (k ≥ 0) = false := decide_eq_false hk
        have h0 : (g k).1 = [] := by
          by_cases h : (g k).1 = []
          · exact h
          · exact absurd (hf k h).1 hk
        have hse : ((syncE g k == 0) != false) = false := by unfold syncE; rw [if_pos h0]; rfl
        have hsy' : syncG g k = g := by rw [syncG_up]; unfold syncF; rw [if_pos h0, upG_self]
        rw [hsy'] at hsy
        repeat (first | ((first | refine WL_Q ?_ | refine WL_Y ?_); (first | refine QW_a ?_ | refine QW_of (Qt_ldX rfl (hn := by with_reducible assumption)) ?_)) | ((first | refine WL_op rfl ?_ | refine WL_yes (h := ?_)); (first | (refine OW_call rfl (hF := Fn.under (Pf := [_, _, _]) (sync_st hS)) (hk := ?_); rintro _ _ ⟨rfl, S', rfl, h'⟩))) | refine WL_nil ?_ | refine WL_un (h := ?_) | refine WL_N ?_ | refine WL_M ?_ | refine WC_seq ?_ | refine WC_block ?_ | refine WC_cond_t (ht := ?_) | refine WC_cond_f (he := ?_) | refine WC_skip ?_ | refine WC_ret ?_ | refine WC_exit ?_ | refine WC_region (id := 18) ?_ | refine WC_region (id := 19) ?_ | refine WC_region (id := 21) ?_)
        rw [hsy'] at h'
        repeat (first | ((first | refine WL_Q ?_); (first | refine QW_a ?_ | refine QW_of (Qt_ldX rfl (hn := by with_reducible assumption)) ?_)) | refine WL_nil ?_ | refine WC_seq ?_ | refine WC_block ?_ | refine WC_cond_t (ht := ?_) | refine WC_cond_f (he := ?_) | refine WC_skip ?_ | refine WC_ret ?_ | refine WC_exit ?_ | refine WC_region (id := 9) ?_)
        rw [w]
        exact ⟨_, _, by omega, ⟨i + 1, S', g, rfl, by omega, h', hf, rfl⟩, ⟨rfl, rfl, rfl, rfl, rfl, rfl, trivial⟩, rfl, .cons _ (.refl _)⟩
    have d3 : (x.what.tmod 6 == 3) = false := by simpa using e3
    by_cases e4 : x.what.tmod 6 = 4
    · have d4 : (x.what.tmod 6 == 4) = true := by simpa using e4
      have wn : IntKind.i64.wrap (x.n.tmod 30) = x.n.tmod 30 := by
        have := Int.tmod_lt_of_pos x.n (b := 30) (by decide)
        have := Int.lt_tmod_of_pos x.n (b := 30) (by decide)
        exact wI64 (by omega) (by omega)
      repeat (first | ((first | refine WL_Q ?_); (first | refine QW_a ?_ | refine QW_of (Qt_ldX rfl (hn := by with_reducible assumption)) ?_)) | refine WL_nil ?_ | refine WC_seq ?_ | refine WC_block ?_ | refine WC_cond_t (ht := ?_) | refine WC_cond_f (he := ?_) | refine WC_skip ?_ | refine WC_ret ?_ | refine WC_exit ?_ | refine WC_region (id := 18) ?_ | refine WC_region (id := 23) ?_ | refine WC_region (id := 24) ?_)
      rw [wn]
      generalize x.n.tmod 30 = n
      by_cases hc : cutE g k n = 0
      · obtain ⟨n0, n1, hne, hcu⟩ := cut_ok hc
        have hk := (hf k hne).1
        have dc : (cutE g k n == 0) = true := by simpa using hc
        have dk : decide (k < 0) = false := decide_eq_false (by omega)
        have dn : decide (n < 0) = false := decide_eq_false (by omega)
        have dl : decide (n > (((g k).1.length : Nat) : Int)) = false := decide_eq_false (by omega)
        have c1 : (allC g)[k.toNat * 1]? = some (sV (g k).1) := all_get hk k1
        have hk4 : k < ((4 : Nat) : Int) := by omega
        have hl1 : k.toNat * 1 < (allC g).size := by rw [hsz]; omega
        repeat (first | ((first | refine WL_Q ?_ | refine WL_Y ?_); (first | refine QW_a ?_ | refine QW_of (Qt_ldX rfl (hn := by with_reducible assumption)) ?_)) | ((first | refine WL_op rfl ?_ | refine WL_yes (h := ?_)); (first | refine OW_st1 rfl ?_ | (refine OW_call rfl (hF := Fn.under (Pf := [_, _, _]) (cut_st hS)) (hk := ?_); rintro _ _ ⟨rfl, S', rfl, h'⟩))) | refine WL_nil ?_ | refine WL_un (h := ?_) | refine WL_N ?_ | refine WL_M ?_ | refine WC_seq ?_ | refine WC_block ?_ | refine WC_cond_t (ht := ?_) | refine WC_cond_f (he := ?_) | refine WC_skip ?_ | refine WC_ret ?_ | refine WC_exit ?_ | refine WC_region (id := 24) ?_ | refine WC_region (id := 25) ?_ | refine WC_region (id := 26) ?_ | refine WC_region (id := 28) ?_)
        rw [all_set hk k1 ((g k).1.take n.toNat) n.toNat]
        have c2 : (allC (upG g k ((g k).1.take n.toNat, n.toNat)))[k.toNat * 1]? = some (sV ((g k).1.take n.toNat)) := by
          rw [all_get hk k1]; simp [upG]
        have hl2 : k.toNat * 1 < (syC g).size := by rw [hsz2]; omega
        repeat (first | ((first | refine WL_Q ?_); (first | refine QW_a ?_ | refine QW_of (Qt_ldX rfl (hn := by with_reducible assumption)) ?_)) | ((first | refine WL_op rfl ?_); (first | refine OW_st1 rfl ?_)) | refine WL_nil ?_ | refine WC_seq ?_ | refine WC_block ?_ | refine WC_cond_t (ht := ?_) | refine WC_cond_f (he := ?_) | refine WC_skip ?_ | refine WC_ret ?_ | refine WC_exit ?_ | refine WC_region (id := 28) ?_ | refine WC_region (id := 29) ?_)
        rw [sy_set hk k1 ((g k).1.take n.toNat) ((g k).1.take n.toNat) n.toNat (by rw [List.take_take, Nat.min_self])]
        rw [hcu] at h'
        repeat (first | ((first | refine WL_Q ?_); (first | refine QW_a ?_ | refine QW_of (Qt_ldX rfl (hn := by with_reducible assumption)) ?_)) | refine WL_nil ?_ | refine WC_seq ?_ | refine WC_block ?_ | refine WC_cond_t (ht := ?_) | refine WC_cond_f (he := ?_) | refine WC_skip ?_ | refine WC_ret ?_ | refine WC_exit ?_ | refine WC_region (id := 9) ?_)
        rw [w]
        exact ⟨_, _, by omega, ⟨i + 1, S', _, rfl, by omega, h', hf.up hk k1, rfl⟩, ⟨rfl, rfl, rfl, rfl, rfl, rfl, trivial⟩, rfl, .cons _ (.refl _)⟩
      · have dc : (cutE g k n == 0) = false := by simpa using hc
        repeat (first | ((first | refine WL_Q ?_); (first | refine QW_a ?_ | refine QW_of (Qt_ldX rfl (hn := by with_reducible assumption)) ?_)) | ((first | refine WL_op rfl ?_); (first | (refine OW_call rfl (hF := Fn.under (Pf := [_, _, _]) (cut_st hS)) (hk := ?_); rintro _ _ ⟨rfl, S', rfl, h'⟩))) | refine WL_nil ?_ | refine WC_seq ?_ | refine WC_block ?_ | refine WC_cond_t (ht := ?_) | refine WC_cond_f (he := ?_) | refine WC_skip ?_ | refine WC_ret ?_ | refine WC_exit ?_ | refine WC_region (id := 24) ?_ | refine WC_region (id := 25) ?_)
        rw [cut_no hc] at h'
        repeat (first | ((first | refine WL_Q ?_); (first | refine QW_a ?_ | refine QW_of (Qt_ldX rfl (hn := by with_reducible assumption)) ?_)) | refine WL_nil ?_ | refine WC_seq ?_ | refine WC_block ?_ | refine WC_cond_t (ht := ?_) | refine WC_cond_f (he := ?_) | refine WC_skip ?_ | refine WC_ret ?_ | refine WC_exit ?_ | refine WC_region (id := 9) ?_)
        rw [w]
        exact ⟨_, _, by omega, ⟨i + 1, S', g, rfl, by omega, h', hf, rfl⟩, ⟨rfl, rfl, rfl, rfl, rfl, rfl, trivial⟩, rfl, .cons _ (.refl _)⟩
    have d4 : (x.what.tmod 6 == 4) = false := by simpa using e4
    by_cases e5 : x.what.tmod 6 = 5
    · have d5 : (x.what.tmod 6 == 5) = true := by simpa using e5
      by_cases hc : cutE g k 0 = 0
      · obtain ⟨n0, n1, hne, hcu⟩ := cut_ok hc
        have hk := (hf k hne).1
        have dc : (cutE g k 0 == 0) = true := by simpa using hc
        have dk : decide (k < 0) = false := decide_eq_false (by omega)
        have hk4 : k < ((4 : Nat) : Int) := by omega
        have hl1 : k.toNat * 1 < (allC g).size := by rw [hsz]; omega
        have hl2 : k.toNat * 1 < (syC g).size := by rw [hsz2]; omega
        have hA : (allC g).setIfInBounds (k.toNat * 1) (Value.string ⟨#[]⟩) = allC (upG g k ([], 0)) := all_set hk k1 [] 0
        have hB : (syC g).setIfInBounds (k.toNat * 1) (Value.string ⟨#[]⟩) = syC (upG g k ([], 0)) := sy_set hk k1 [] [] 0 rfl
        have hcu : cutG g k 0 = upG g k ([], 0) := hcu
        repeat (first | ((first | refine WL_Q ?_); (first | refine QW_a ?_ | refine QW_of (Qt_ldX rfl (hn := by with_reducible assumption)) ?_)) | ((first | refine WL_op rfl ?_); (first | refine OW_st1 rfl ?_ | (refine OW_call rfl (hF := Fn.under (Pf := [_, _, _]) (remove_st hS)) (hk := ?_); rintro _ _ ⟨rfl, S', rfl, h'⟩))) | refine WL_nil ?_ | refine WC_seq ?_ | refine WC_block ?_ | refine WC_cond_t (ht := ?_) | refine WC_cond_f (he := ?_) | refine WC_skip ?_ | refine WC_ret ?_ | refine WC_exit ?_ | refine WC_region (id := 18) ?_ | refine WC_region (id := 23) ?_ | refine WC_region (id := 30) ?_ | refine WC_region (id := 31) ?_ | refine WC_region (id := 32) ?_ | refine WC_region (id := 34) ?_ | refine WC_region (id := 35) ?_)
        rw [hA, hB]
        rw [hcu] at h'
        repeat (first | ((first | refine WL_Q ?_); (first | refine QW_a ?_ | refine QW_of (Qt_ldX rfl (hn := by with_reducible assumption)) ?_)) | refine WL_nil ?_ | refine WC_seq ?_ | refine WC_block ?_ | refine WC_cond_t (ht := ?_) | refine WC_cond_f (he := ?_) | refine WC_skip ?_ | refine WC_ret ?_ | refine WC_exit ?_ | refine WC_region (id := 9) ?_)
        rw [w]
        exact ⟨_, _, by omega, ⟨i + 1, S', _, rfl, by omega, h', hf.up hk k1, rfl⟩, ⟨rfl, rfl, rfl, rfl, rfl, rfl, trivial⟩, rfl, .cons _ (.refl _)⟩
      · have dc : (cutE g k 0 == 0) = false := by simpa using hc
        repeat (first | ((first | refine WL_Q ?_); (first | refine QW_a ?_ | refine QW_of (Qt_ldX rfl (hn := by with_reducible assumption)) ?_)) | ((first | refine WL_op rfl ?_); (first | (refine OW_call rfl (hF := Fn.under (Pf := [_, _, _]) (remove_st hS)) (hk := ?_); rintro _ _ ⟨rfl, S', rfl, h'⟩))) | refine WL_nil ?_ | refine WC_seq ?_ | refine WC_block ?_ | refine WC_cond_t (ht := ?_) | refine WC_cond_f (he := ?_) | refine WC_skip ?_ | refine WC_ret ?_ | refine WC_exit ?_ | refine WC_region (id := 18) ?_ | refine WC_region (id := 23) ?_ | refine WC_region (id := 30) ?_ | refine WC_region (id := 31) ?_)
        rw [cut_no hc] at h'
        repeat (first | ((first | refine WL_Q ?_); (first | refine QW_a ?_ | refine QW_of (Qt_ldX rfl (hn := by with_reducible assumption)) ?_)) | refine WL_nil ?_ | refine WC_seq ?_ | refine WC_block ?_ | refine WC_cond_t (ht := ?_) | refine WC_cond_f (he := ?_) | refine WC_skip ?_ | refine WC_ret ?_ | refine WC_exit ?_ | refine WC_region (id := 9) ?_)
        rw [w]
        exact ⟨_, _, by omega, ⟨i + 1, S', g, rfl, by omega, h', hf, rfl⟩, ⟨rfl, rfl, rfl, rfl, rfl, rfl, trivial⟩, rfl, .cons _ (.refl _)⟩
    have d5 : (x.what.tmod 6 == 5) = false := by simpa using e5
    by_cases hc : appE g k b = 0
    · obtain ⟨hk, hap⟩ := app_ok hc
      have dc : (appE g k b == 0) = true := by simpa using hc
      have dk : decide (k < 0) = false := decide_eq_false (by omega)
      have c1 : (allC g)[k.toNat * 1]? = some (sV (g k).1) := all_get hk k1
      have hk4 : k < ((4 : Nat) : Int) := by omega
      have hl1 : k.toNat * 1 < (allC g).size := by rw [hsz]; omega
      repeat (first | ((first | refine WL_Q ?_); (first | refine QW_a ?_ | refine QW_of (Qt_ldX rfl (hn := by with_reducible assumption)) ?_)) | ((first | refine WL_op rfl ?_); (first | refine OW_st1 rfl ?_ | (refine OW_call rfl (hF := Fn.under (Pf := [_, _, _]) (append_st hS hbl)) (hk := ?_); rintro _ _ ⟨rfl, S', rfl, h'⟩))) | refine WL_nil ?_ | refine WC_seq ?_ | refine WC_block ?_ | refine WC_cond_t (ht := ?_) | refine WC_cond_f (he := ?_) | refine WC_skip ?_ | refine WC_ret ?_ | refine WC_exit ?_ | refine WC_region (id := 18) ?_ | refine WC_region (id := 23) ?_ | refine WC_region (id := 30) ?_ | refine WC_region (id := 14) ?_ | refine WC_region (id := 15) ?_ | refine WC_region (id := 17) ?_)
      rw [all_set hk k1 ((g k).1 ++ b) (g k).2, ← sy_keep (b := b) lm1]
      rw [hap] at h'
      repeat (first | ((first | refine WL_Q ?_); (first | refine QW_a ?_ | refine QW_of (Qt_ldX rfl (hn := by with_reducible assumption)) ?_)) | refine WL_nil ?_ | refine WC_seq ?_ | refine WC_block ?_ | refine WC_cond_t (ht := ?_) | refine WC_cond_f (he := ?_) | refine WC_skip ?_ | refine WC_ret ?_ | refine WC_exit ?_ | refine WC_region (id := 9) ?_)
      rw [w]
      exact ⟨_, _, by omega, ⟨i + 1, S', _, rfl, by omega, h', hf.up hk k1, rfl⟩, ⟨rfl, rfl, rfl, rfl, rfl, rfl, trivial⟩, rfl, .cons _ (.refl _)⟩
    · have dc : (appE g k b == 0) = false := by simpa using hc
      repeat (first | ((first | refine WL_Q ?_); (first | refine QW_a ?_ | refine QW_of (Qt_ldX rfl (hn := by with_reducible assumption)) ?_)) | ((first | refine WL_op rfl ?_); (first | (refine OW_call rfl (hF := Fn.under (Pf := [_, _, _]) (append_st hS hbl)) (hk := ?_); rintro _ _ ⟨rfl, S', rfl, h'⟩))) | refine WL_nil ?_ | refine WC_seq ?_ | refine WC_block ?_ | refine WC_cond_t (ht := ?_) | refine WC_cond_f (he := ?_) | refine WC_skip ?_ | refine WC_ret ?_ | refine WC_exit ?_ | refine WC_region (id := 18) ?_ | refine WC_region (id := 23) ?_ | refine WC_region (id := 30) ?_ | refine WC_region (id := 14) ?_)
      rw [app_no hc] at h'
      repeat (first | ((first | refine WL_Q ?_); (first | refine QW_a ?_ | refine QW_of (Qt_ldX rfl (hn := by with_reducible assumption)) ?_)) | refine WL_nil ?_ | refine WC_seq ?_ | refine WC_block ?_ | refine WC_cond_t (ht := ?_) | refine WC_cond_f (he := ?_) | refine WC_skip ?_ | refine WC_ret ?_ | refine WC_exit ?_ | refine WC_region (id := 9) ?_)
      rw [w]
      exact ⟨_, _, by omega, ⟨i + 1, S', g, rfl, by omega, h', hf, rfl⟩, ⟨rfl, rfl, rfl, rfl, rfl, rfl, trivial⟩, rfl, .cons _ (.refl _)⟩
  · by_cases hlt : i < l.length
    · have d2 : decide ((i : Int) < ((l.length : Nat) : Int)) = true := decide_eq_true (by omega)
      have d3 : decide ((i : Int) < 50) = false := decide_eq_false (by omega)
      repeat (first | ((first | refine WL_Q ?_ | refine WL_Y ?_); (first | refine QW_a ?_ | refine QW_of (Qt_ldX rfl (hn := by with_reducible assumption)) ?_)) | refine WL_nil ?_ | refine WL_un (h := ?_) | refine WL_N ?_ | refine WL_M ?_ | refine WC_seq ?_ | refine WC_block ?_ | refine WC_cond_t (ht := ?_) | refine WC_cond_f (he := ?_) | refine WC_skip ?_ | refine WC_ret ?_ | refine WC_exit ?_ | refine WC_region (id := 8) ?_)
      exact ⟨_, ⟨S, g, hS, hf, rfl⟩, ⟨rfl, rfl, rfl, rfl, trivial⟩, rfl, .refl _⟩
    · have d2 : decide ((i : Int) < ((l.length : Nat) : Int)) = false := decide_eq_false (by omega)
      repeat (first | ((first | refine WL_Q ?_ | refine WL_Y ?_); (first | refine QW_a ?_ | refine QW_of (Qt_ldX rfl (hn := by with_reducible assumption)) ?_)) | refine WL_nil ?_ | refine WL_un (h := ?_) | refine WL_N ?_ | refine WL_M ?_ | refine WC_seq ?_ | refine WC_block ?_ | refine WC_cond_t (ht := ?_) | refine WC_cond_f (he := ?_) | refine WC_skip ?_ | refine WC_ret ?_ | refine WC_exit ?_ | refine WC_region (id := 8) ?_)
      exact ⟨_, ⟨S, g, hS, hf, rfl⟩, ⟨rfl, rfl, rfl, rfl, trivial⟩, rfl, .refl _⟩
end Go.Proofs.Ytmdiabglbmgkkaa
namespace Go.Proofs.Ytmdiabglbmgkkaa
open Go.ChangeShapes Go.WideShapes Go.ChangeAt Go.RowKit
theorem by_of {L : List (Nat × Obj)} {a : Option Addr} {cap : Nat} {xs : List Int} (h : xs.length ≤ cap) (hm : cap ≤ maxLen) (hx : SlLie (intR .u8) L a xs) : ∃ l : List UInt8, l.length = xs.length ∧ ByAt L (.slice a xs.length cap) l := by
  refine ⟨xs.map fun x => UInt8.ofNat x.toNat, by simp, ?_⟩
  unfold ByAt
  rw [List.length_map]
  refine ⟨by simp, a, cap, rfl, h, hm, ?_⟩
  rcases hx with rfl | ⟨b, off, cs, E, fr, i, h1, h2, h3⟩
  · exact .inl rfl
  · refine .inr ⟨b, off, cs, E, fr, i, h1, h2, fun j x hj => ?_⟩
    simp only [List.map_map, List.getElem?_map] at hj
    obtain ⟨y, hy, rfl⟩ := Option.map_eq_some_iff.1 hj
    obtain ⟨h4, h5⟩ := h3 j y hy
    have hb := u8_bounds h5
    have h6 : cs[off + j]? = some (.int .u8 y) := by simpa [intR] using h4
    rw [h6]
    simp only [Function.comp, bV, UInt8.toNat_ofNat', Option.some.injEq, Value.int.injEq, true_and]
    omega
end Go.Proofs.Ytmdiabglbmgkkaa
