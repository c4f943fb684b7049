/-
  A part of what the last of these texts needs; by itself it proves no statement.
-/
import Derived.Test.YtncgndcepoicbaaGreatKH25
namespace Go.Proofs.YtncgndcepoicbaaGreat
open Go.RowKit
set_option maxHeartbeats 4000000 in
theorem WC_rangeZ {α γ : Type} {P : Program} {g : World} {N n : Nat} {x : Operand} {ps : Array Nat} {assign body : Code} {K : Exit → St → Prop} {s : List (Nat × Value)} {D : List Deferred} {L : List (Nat × Obj)} {gf : Nat} {fs lb : Array Value} [hf : FCall P gf]
    (hx : ev s x = some (.func (.func gf) fs lb)) (enc : α → List Value) (hps : ∀ y, (enc y).length = ps.size) (hpn : (ps.toList.all fun p => Nat.blt p N) = true)
    (M : γ → List (Nat × Obj)) (Dom : γ → α → Prop) (Nx : γ → α → γ → Prop) (Fin : γ → Prop) (Ix : Code → List (Nat × Obj) → Prop)
    (hit : ∀ (l d : Nat) (o1 o2 : Obj) (Jx : List (Nat × Obj) → Prop), (∀ L2, Jx L2 → ∃ o1' cj L', L2 = (l, o1') :: (d, o2) :: L' ∧ Ix cj L') →
      (∀ st y, Dom st y → YieldFn P l (enc y) ((l, o1) :: (d, o2) :: M st) (fun v L2 => (v = .bool true ∧ ∃ st', Nx st y st' ∧ L2 = (l, o1) :: (d, o2) :: M st') ∨ (v = .bool false ∧ Jx L2))) →
      Fn P gf (fs.toList ++ [.func (.yield l) #[] #[]] ++ lb.toList) ((l, o1) :: (d, o2) :: L) (fun _ L2 => (∃ st, Fin st ∧ L2 = (l, o1) :: (d, o2) :: M st) ∨ Jx L2))
    (hbody : ∀ g' n' l d st y, Dom st y → RoundOk ⟨P, g', N, n', none⟩ l d assign body ⟨zipS ps.toList (enc y) s, [], M st⟩ (M st) (fun L3 => ∃ st', Nx st y st' ∧ L3 = M st') Ix)
    (hdone : ∀ d st, Fin st → K .normal ⟨s, markD d :: D, (d, .deferred (some [])) :: M st⟩)
    (hstop : ∀ d cj L', Ix cj L' → WC ⟨P, g, N, n, none⟩ cj K ⟨s, markD d :: D, (d, .deferred (some [])) :: L'⟩) :
    WC ⟨P, g, N, n, none⟩ (.rangeFunc x ps assign body) K ⟨s, D, L⟩ := fun a w ha => by
  refine wpIn_rangeFunc ?_
  intro fn _
  obtain ⟨rec, hrec⟩ : ∃ rec : LoopState → Option Code → Loop, rec = fun st pe => { state := st, pending := pe, fn, tmps := a.tmps, params := ps, assign, body, defers := w.heap.size } := ⟨_, rfl⟩
  obtain ⟨W1, hW1⟩ : ∃ W1, (w.alloc (.deferred (some []))).alloc (.loop (rec .ready none)) = W1 := ⟨_, rfl⟩
  have hm1 : Mem g ((w.heap.size + 1, .loop (rec .ready none)) :: (w.heap.size, .deferred (some [])) :: L) W1 := by
    have := (ha.mem.alloc (.deferred (some []))).alloc (.loop (rec .ready none))
    rw [World.size_alloc] at this
    rw [← hW1]; exact this
  refine ⟨w.heap.size + 1, [markD w.heap.size], W1, { target := .fn (.func gf) lb, args := fs ++ #[.func (.yield (w.heap.size + 1)) #[] #[]] }, W1, gf, fs ++ #[.func (.yield (w.heap.size + 1)) #[] #[]] ++ lb, W1, ?_, ?_, fun _ _ => trivial, ?_, fun h => by simp at h, ?_⟩
  · rw [← hW1, hrec]; exact run_enterLoop_outer _ _ _ _ _
  · have := ha.ev hx
    simp [resolve, this, Deferred.ofValue, show ∀ v, a.eval (.const v) = v from fun _ => rfl]
  · simp [invoke, hf.h]
  · generalize hl : w.heap.size + 1 = l at hm1 ⊢
    generalize hd : w.heap.size = d at hm1 ⊢
    let Jx : List (Nat × Obj) → Prop := fun L2 => ∃ cj L', L2 = (l, .loop (rec .done (some cj))) :: (d, .deferred (some [])) :: L' ∧ Ix cj L'
    have hcall := hit l d (.loop (rec .ready none)) (.deferred (some [])) Jx (fun L2 ⟨cj, L', h1, h2⟩ => ⟨_, cj, L', h1, h2⟩) ?_
    · have e : (fs.toList ++ [Value.func (.yield l) #[] #[]] ++ lb.toList).toArray = fs ++ #[.func (.yield l) #[] #[]] ++ lb := by apply Array.ext'; simp
      have hc := callsIn_fw none (n - 1) (hcall g W1 hm1)
      rw [e] at hc
      refine hc.mono fun e w' ⟨v, L2, h1, h2, h3⟩ => ?_
      subst h1
      rcases h3 with ⟨st, hfin, rfl⟩ | ⟨cj, L', rfl, hI⟩
      · have hlp := h2.at_ (i := 0) rfl
        have hpd : (rec .ready none).pending = none := by rw [hrec]
        obtain ⟨w4, hen, hm4⟩ : ∃ w4, (Instr.endLoop l).run P w' = .ok (rec .ready none).pending w4 ∧ Mem g ((d, .deferred (some [])) :: M st) w4 :=
          ⟨_, run_endLoop (P := P) hlp (by rw [hrec]; simp), (h2.putObj (i := 0) rfl (.loop { rec .ready none with state := .exhausted })).sublist (.cons _ (.refl _))⟩
        rw [hpd] at hen
        exact ⟨none, w4, hen, ⟨s, markD d :: D, (d, .deferred (some [])) :: M st⟩, ⟨ha.size, ha.slots, by show markD d :: a.defers = _; rw [ha.defers], hm4⟩, hdone d st hfin⟩
      · have hlp := h2.at_ (i := 0) rfl
        have hpd : (rec .done (some cj)).pending = some cj := by rw [hrec]
        obtain ⟨w4, hen, hm4⟩ : ∃ w4, (Instr.endLoop l).run P w' = .ok (rec .done (some cj)).pending w4 ∧ Mem g ((d, .deferred (some [])) :: L') w4 :=
          ⟨_, run_endLoop (P := P) hlp (by rw [hrec]; simp), (h2.putObj (i := 0) rfl (.loop { rec .done (some cj) with state := .exhausted })).sublist (.cons _ (.refl _))⟩
        rw [hpd] at hen
        exact ⟨some cj, w4, hen, hstop d cj L' hI _ _ ⟨ha.size, ha.slots, by show markD d :: a.defers = _; rw [ha.defers], hm4⟩⟩
    · -- one round
      rintro st y hdom g2 w2 m hm
      have hy := run_yield (P := P) (w := w2) (args := (enc y).toArray) (hm.at_ (i := 0) rfl) (by rw [hrec]; simpa using hps y)
      have e1 : (rec .ready none).fn = fn ∧ (rec .ready none).assign = assign ∧ (rec .ready none).body = body ∧ (rec .ready none).params = ps ∧ (rec .ready none).tmps = a.tmps := by rw [hrec]; exact ⟨rfl, rfl, rfl, rfl, rfl⟩
      rw [e1.1, e1.2.1, e1.2.2.1, e1.2.2.2.1, e1.2.2.2.2] at hy
      refine ⟨fn, _, assign, body, hy, roundIn_of_wpIn trivial ?_⟩
      have hz := holds_zip (g := g2) (w := w2) (N := N) (D := []) (L := (l, .loop (rec .ready none)) :: (d, .deferred (some [])) :: M st) ps.toList (enc y) s { tmps := a.tmps, defers := [] } hpn ⟨ha.size, ha.slots, rfl, hm⟩
      have e2 : (ps.toList.zip (enc y)).foldl (fun t (q : Nat × Value) => t.setIfInBounds q.1 q.2) a.tmps = (ps.zip (enc y).toArray).foldl (fun tmps (q : Nat × Value) => tmps.setIfInBounds q.1 q.2) a.tmps := by
        rw [← Array.foldl_toList, Array.toList_zip]
      simp only [e2] at hz
      refine Go.wpIn_mono (hbody g2 m l d st y hdom (.loop (rec .ready none)) (.deferred (some [])) ⟨_, rfl⟩ _ w2 hz) (fun e a3 w3 hl3 => ?_)
      cases e with
      | normal =>
        obtain ⟨σ', hH, _, s', A, B, rfl, hnext⟩ := hl3
        have hat : (A ++ (l, Obj.loop (rec .ready none)) :: B)[A.length]? = some (l, .loop (rec .ready none)) := by simp
        have hlp := hH.mem.at_ hat
        have hb := run_beginRound (P := P) hlp (by rw [hrec])
        refine ⟨_, hb, ?_⟩
        have hm4 := hH.mem.putObj hat (.loop { rec .ready none with state := .busy })
        have e3 : (A ++ (l, Obj.loop (rec .ready none)) :: B).set A.length (l, .loop { rec .ready none with state := .busy }) = A ++ (l, .loop { rec .ready none with state := .busy }) :: B := by simp
        simp only [e3] at hm4
        have hH4 : Holds g2 N ⟨s', [], A ++ (l, .loop { rec .ready none with state := .busy }) :: B⟩ a3 _ := ⟨hH.size, hH.slots, hH.defers, hm4⟩
        refine Go.wpIn_mono (hnext _ ⟨_, rfl⟩ _ _ hH4) (fun e a5 w5 hl5 => ?_)
        have fin : ∀ (jump : Option Code) (L'' : List (Nat × Obj)), Mem g2 ((l, .loop { rec .ready none with state := .busy }) :: (d, .deferred (some [])) :: L'') w5 →
            ∃ w6, (Instr.endRound l jump).run P w5 = .ok (.bool jump.isNone) w6 ∧ Mem g2 ((l, .loop (rec (if jump.isNone then .ready else .done) jump)) :: (d, .deferred (some [])) :: L'') w6 := fun jump L'' hm5 => by
          have h1 := run_endRound (P := P) jump (hm5.at_ (i := 0) rfl)
          have h2 := hm5.putObj (i := 0) rfl (.loop { ({ rec .ready none with state := .busy } : Loop) with state := if jump.isNone then .ready else .done, pending := jump })
          refine ⟨_, h1, ?_⟩
          have e4 : ({ ({ rec .ready none with state := .busy } : Loop) with state := if jump.isNone then .ready else .done, pending := jump } : Loop) = rec (if jump.isNone then .ready else .done) jump := by rw [hrec]
          rw [e4] at h2 ⊢
          exact h2
        cases e with
        | normal =>
          obtain ⟨σ'', h1, _, h2, st', h3, rfl⟩ := hl5
          obtain ⟨w6, h4, h5⟩ := fin none (M st') (h1.mem.sublist h2)
          exact ⟨_, w6, h4, _, _, rfl, h5, .inl ⟨rfl, st', h3, rfl⟩⟩
        | ret =>
          obtain ⟨σ'', h1, L'', h2, h3⟩ := hl5
          obtain ⟨w6, h4, h5⟩ := fin (some .ret) L'' (h1.mem.sublist h2)
          exact ⟨_, w6, h4, _, _, rfl, h5, .inr ⟨rfl, .ret, L'', rfl, h3⟩⟩
        | exit id =>
          obtain ⟨σ'', h1, L'', h2, h3⟩ := hl5
          obtain ⟨w6, h4, h5⟩ := fin (some (.exit id)) L'' (h1.mem.sublist h2)
          exact ⟨_, w6, h4, _, _, rfl, h5, .inr ⟨rfl, .exit id, L'', rfl, h3⟩⟩
        | goto t =>
          obtain ⟨σ'', h1, L'', h2, h3⟩ := hl5
          obtain ⟨w6, h4, h5⟩ := fin (some (.goto t)) L'' (h1.mem.sublist h2)
          exact ⟨_, w6, h4, _, _, rfl, h5, .inr ⟨rfl, .goto t, L'', rfl, h3⟩⟩
        | panic ch => obtain ⟨_, _, h⟩ := hl5; exact h.elim
        | outgrown => obtain ⟨_, _, h⟩ := hl5; exact h.elim
      | panic ch => obtain ⟨_, _, h, _⟩ := hl3; cases h
      | ret => obtain ⟨_, _, h, _⟩ := hl3; cases h
      | exit id => obtain ⟨_, _, h, _⟩ := hl3; cases h
      | goto t => obtain ⟨_, _, h, _⟩ := hl3; cases h
      | outgrown => obtain ⟨_, _, h, _⟩ := hl3; cases h
theorem YieldFn.monoY {P : Program} {l : Nat} {args : List Value} {L : List (Nat × Obj)} {R R' : Value → List (Nat × Obj) → Prop} (h : YieldFn P l args L R) (hr : ∀ v L', R v L' → R' v L') : YieldFn P l args L R' := fun g w n hm => by
  obtain ⟨fn, tmps, assign, body, h1, h2⟩ := h g w n hm
  exact ⟨fn, tmps, assign, body, h1, h2.mono fun e w' ⟨v, L', h3, h4, h5⟩ => ⟨v, L', h3, h4, hr v L' h5⟩⟩
end Go.Proofs.YtncgndcepoicbaaGreat
namespace Go.Proofs.YtncgndcepoicbaaGreat
open Go.RowKit
theorem lo_ext {off k : Nat} {cs : Array Value} {G : List (Nat × Obj)} : ∀ {lo : List (OwnV × List Value)}, (∀ q ∈ lo, OwnIn G q.2 q.1) → ∀ {q : OwnV × List Value}, lo[k]? = some q → (∀ (j : Nat) (x : Value), (loF lo)[j]? = some x → cs[off + j]? = some x) → cs.extract (off + k * 5) (off + k * 5 + 5) = q.2.toArray ∧ off + k * 5 + 5 ≤ cs.size := by
  intro lo hO q hq hx
  have hg : ∀ (lo : List (OwnV × List Value)) (k : Nat), (∀ q ∈ lo, OwnIn G q.2 q.1) → lo[k]? = some q → ∀ j, j < 5 → (loF lo)[k * 5 + j]? = q.2[j]? := by
    intro lo
    induction lo with
    | nil => intro k _ h; simp at h
    | cons p r ih =>
      intro k hO hk j hj
      have hp := (hO p (.head _)).len
      cases k with
      | zero =>
        obtain rfl : p = q := by simpa using hk
        unfold loF
        rw [List.flatMap_cons, Nat.zero_mul, Nat.zero_add, List.getElem?_append_left (by omega)]
      | succ k =>
        have := ih k (fun q hq => hO q (.tail _ hq)) (by simpa using hk) j hj
        unfold loF at this ⊢
        rw [List.flatMap_cons, List.getElem?_append_right (by omega), hp, show (k + 1) * 5 + j - 5 = k * 5 + j by omega]
        exact this
  have hl := (hO q (List.mem_of_getElem? hq)).len
  refine ext_of (l := q.2) hl (by decide) fun j hj => ?_
  have h1 := hg lo k hO hq j hj
  have h3 : q.2[j]? = some (q.2[j]'(by omega)) := List.getElem?_eq_getElem _
  rw [h3] at h1 ⊢
  rw [Nat.add_assoc]
  exact hx _ _ h1
theorem perm_ho1 {α : Type} (a b : α) (B S F : List α) : (a :: b :: (B ++ (S ++ F))).Perm (S ++ (a :: b :: (B ++ F))) := by
  classical
  rw [List.perm_iff_count]
  intro z
  simp only [List.count_append, List.count_cons]
  omega
theorem perm_ho2 {α : Type} (a b : α) (B S X F : List α) : (a :: b :: (B ++ (S ++ (X ++ F)))).Perm (S ++ (X ++ (a :: b :: (B ++ F)))) := by
  classical
  rw [List.perm_iff_count]
  intro z
  simp only [List.count_append, List.count_cons]
  omega
attribute [local irreducible] Fn WC WL WR OW Qt YieldFn QW FnP FnD FnE
set_option maxHeartbeats 2000000 in
theorem owns1_fn {hb tb xo l d : Nat} {t : TbV} {w : Int} {m : PlK → Bool × Bool} {S G F B0 : List (Nat × Obj)} {o1 o2 : Obj} {J : List OwnV → List (Nat × Obj) → Prop} (hT : TbOk t) (hIn : TabIn tb F t) (hG : ∀ q ∈ G, q ∈ F) (h : HandAt hb tb S G t w m) (hxo : (xo, Obj.cells #[.pointer (some ⟨hb, 0, none⟩)] 57 (0, 0)) ∈ F)
    (hr : ∀ (S' X : List (Nat × Obj)) (pre : List OwnV) (B : List (Nat × Obj)) (y : OwnV) (lv : List Value), HandL hb tb S' (X ++ G) t w m → (pre ++ [y]) <+: hownL w t 8 → OwnIn (X ++ G) lv y → J pre B → YieldFn Tryz.prog l [.agg lv.toArray] ((l, o1) :: (d, o2) :: (B ++ (S' ++ (X ++ F)))) (fun v L2 => v = .bool true ∧ ∃ B', L2 = (l, o1) :: (d, o2) :: (B' ++ (S' ++ (X ++ F))) ∧ J (pre ++ [y]) B'))
    (h0 : J [] B0) :
    Fn Tryz.prog 125 [.func (.yield l) #[] #[], .pointer (some ⟨xo, 0, none⟩)] ((l, o1) :: (d, o2) :: (B0 ++ (S ++ F))) (fun _ L2 => ∃ S' X B, L2 = (l, o1) :: (d, o2) :: (B ++ (S' ++ (X ++ F))) ∧ HandL hb tb S' (X ++ G) t w m ∧ J (hownL w t 8) B) := by
  refine Fn_enter Tryz.func125 rfl Tryz.ntmps125 rfl fun g => ?_
  obtain ⟨io, hio⟩ := List.mem_iff_getElem?.1 (show (xo, Obj.cells #[.pointer (some ⟨hb, 0, none⟩)] 57 (0, 0)) ∈ (l, o1) :: (d, o2) :: (B0 ++ (S ++ F)) from .tail _ (.tail _ (List.mem_append_right _ (List.mem_append_right _ hxo))))
  repeat (first | refine RQ ?_ | refine RC ?_ | refine WG 0 ?_)
  repeat (first | refine RQ ?_ | refine RC ?_ | refine WG 1 ?_)
  refine WL_op rfl (OW_permT2 (L' := S ++ ((l, o1) :: (d, o2) :: (B0 ++ F))) (perm_ho1 ..).symm ?_)
  refine OW_call rfl (hF := learn_fn hT (hIn.mem fun q hq => .tail _ (.tail _ (List.mem_append_right _ hq))) h) (hk := ?_)
  rintro _ _ ⟨S', X, rfl, hL⟩
  refine WL_permT (L' := (l, o1) :: (d, o2) :: (B0 ++ (S' ++ (X ++ F)))) (perm_ho2 ..) ?_
  obtain ⟨rv, av, ⟨mb, es, cl, ps, hS', hE, hP⟩, lo, hlo, hOw, hrv, hav⟩ := id hL
  have hmemO : ∀ B : List (Nat × Obj), (xo, Obj.cells #[.pointer (some ⟨hb, 0, none⟩)] 57 (0, 0)) ∈ (l, o1) :: (d, o2) :: (B ++ (S' ++ (X ++ F))) := fun B => .tail _ (.tail _ (List.mem_append_right _ (List.mem_append_right _ (List.mem_append_right _ hxo))))
  obtain ⟨io2, hio2⟩ := List.mem_iff_getElem?.1 (hmemO B0)
  obtain ⟨ih, hih⟩ := List.mem_iff_getElem?.1 (show (hb, Obj.cells (hnC tb w mb (((t.cmds.length : Nat) : Int) + 1) rv av) 150 (0, 0)) ∈ (l, o1) :: (d, o2) :: (B0 ++ (S' ++ (X ++ F))) from .tail _ (.tail _ (List.mem_append_right _ (List.mem_append_left _ (by rw [hS']; exact .head _)))))
  obtain ⟨_, arv, crv, rfl, hcl, hcm, _⟩ := id hrv
  repeat (first | refine RQ ?_ | refine RC ?_ | refine WG 1 ?_ | refine WG 2 ?_)
  refine WC_wk [(14, iV ((0 : Nat) : Int)), (13, iV ((lo.length : Nat) : Int)), (12, .slice arv lo.length crv), (0, .func (.yield l) #[] #[])] ⟨rfl, rfl, rfl, rfl, trivial⟩ ?_
  refine WC_loop (fun q σ => ∃ (k : Nat) (B : List (Nat × Obj)), q = lo.length - k ∧ k ≤ lo.length ∧ J ((hownL w t 8).take k) B ∧ σ = ⟨[(14, iV (k : Int)), (13, iV ((lo.length : Nat) : Int)), (12, .slice arv lo.length crv), (0, .func (.yield l) #[] #[])], [], (l, o1) :: (d, o2) :: (B ++ (S' ++ (X ++ F)))⟩) lo.length ⟨0, B0, rfl, Nat.zero_le _, h0, rfl⟩ ?_
  clear hio hio2 hih
  rintro _ σ ⟨k, B, rfl, hk, hJ, rfl⟩
  have hll : (hownL w t 8).length = lo.length := by rw [← hlo, List.length_map]
  by_cases hlt : k < lo.length
  rotate_left
  · have d1 : decide ((k : Int) < ((lo.length : Nat) : Int)) = false := decide_eq_false (by omega)
    rw [List.take_of_length_le (by omega)] at hJ
    repeat (first | refine RQ ?_ | refine RC ?_ | refine WG 3 ?_)
    exact ⟨rfl, _, _, Res0 rfl, .refl _, S', X, B, rfl, hL, hJ⟩
  have d1 : decide ((k : Int) < ((lo.length : Nat) : Int)) = true := decide_eq_true (by omega)
  have p0 : (0 : Int) ≤ (k : Int) := by omega
  have p1 : ((k : Nat) : Int) < ((lo.length : Nat) : Int) := by omega
  have ww : IntKind.i64.wrap ((k : Int) + 1) = ((k + 1 : Nat) : Int) := by rw [wI64 (by omega) (by simp only [maxLen] at hcm; omega)]; omega
  obtain ⟨q, hq⟩ : ∃ q, lo[k]? = some q := ⟨_, List.getElem?_eq_getElem hlt⟩
  have hqo : (hownL w t 8)[k]? = some q.1 := by rw [← hlo, List.getElem?_map, hq]; rfl
  obtain ⟨b1, f1, _, c1, E1, fr1, i1, e, _, _, hi1, hx1⟩ := (hrv.mem (G' := (l, o1) :: (d, o2) :: (B ++ (S' ++ (X ++ F)))) fun z hz => .tail _ (.tail _ (List.mem_append_right _ (List.mem_append_right _ (by
    rcases List.mem_append.1 hz with h | h
    · exact List.mem_append_left _ h
    · exact List.mem_append_right _ (hG _ h)))))).cell (by omega)
  cases e
  obtain ⟨v1, y1⟩ := lo_ext hOw hq hx1
  have v1 : c1.extract (f1 + ((k : Nat) : Int).toNat * 5) (f1 + ((k : Nat) : Int).toNat * 5 + 5) = q.2.toArray := by rw [Int.toNat_natCast]; exact v1
  have y1 : f1 + ((k : Nat) : Int).toNat * 5 + 5 ≤ c1.size := by rw [Int.toNat_natCast]; exact y1
  have hOq := hOw q (List.mem_of_getElem? hq)
  have hz5 : q.2.toArray.size = 5 := hOq.len
  have hal : (q.2.toArray.toList.all fun v => v.oneCell') = true := by simpa [List.all_eq_true] using hOq.one
  have htk : (hownL w t 8).take (k + 1) = (hownL w t 8).take k ++ [q.1] := by rw [List.take_add_one, hqo]; rfl
  have hYf := hr S' X ((hownL w t 8).take k) B q.1 q.2 hL (by rw [← htk]; exact List.take_prefix _ _) hOq hJ
  rw [← htk] at hYf
  repeat (first | refine RQ ?_ | (refine RE ?_; try intro _) | refine RC ?_ | refine WG 3 ?_ | refine WG 4 ?_)
  rw [v1]
  repeat (first | refine RQ ?_ | (refine RE ?_; try intro _) | refine RC ?_ | refine WG 4 ?_ | refine WG 5 ?_)
  refine WL_dropN (.cons _ (.refl _)) ?_
  refine WL_op rfl (OW_yield rfl rfl rfl rfl rfl hYf ?_)
  rintro v L3 ⟨rfl, B', rfl, hJ'⟩
  repeat (first | refine RQ ?_ | refine RC ?_ | refine WG 5 ?_ | refine WG 6 ?_)
  rw [ww]
  exact ⟨_, _, by omega, ⟨k + 1, B', rfl, by omega, hJ', rfl⟩, ⟨rfl, rfl, rfl, rfl, trivial⟩, rfl, .refl _⟩
end Go.Proofs.YtncgndcepoicbaaGreat
namespace Go.Proofs.YtncgndcepoicbaaGreat
open Go.RowKit
abbrev hxO (x hb : Nat) : Nat × Obj := (x, Obj.cells #[.pointer (some ⟨hb, 0, none⟩)] 57 (0, 0))
abbrev owF (x : Nat) : Value := .func (.func 125) #[] #[.pointer (some ⟨x, 0, none⟩)]
attribute [local irreducible] Fn WC WL WR OW Qt YieldFn QW FnP FnD FnE
set_option maxHeartbeats 4000000 in
theorem WC_owns {hb tb xo : Nat} {t : TbV} {w : Int} {m : PlK → Bool × Bool} {S G F B0 : List (Nat × Obj)} {J : List OwnV → List (Nat × Obj) → Prop} {g : World} {N n : Nat} {x : Operand} {ps : Array Nat} {assign body : Code} {K : Exit → St → Prop} {s : List (Nat × Value)} {D : List Deferred} (hT : TbOk t) (hIn : TabIn tb F t) (hG : ∀ q ∈ G, q ∈ F) (h : HandAt hb tb S G t w m) (hxo : hxO xo hb ∈ F) (h0 : J [] B0) (hx : ev s x = some (owF xo)) (hps : 1 = ps.size) (hpn : (ps.toList.all fun p => Nat.blt p N) = true)
    (hbody : ∀ (S' X : List (Nat × Obj)) (pre : List OwnV) (B : List (Nat × Obj)) (y : OwnV) (lv : List Value) (g' : World) (n' l d : Nat), HandL hb tb S' (X ++ G) t w m → (pre ++ [y]) <+: hownL w t 8 → OwnIn (X ++ G) lv y → J pre B → RoundOk ⟨Tryz.prog, g', N, n', none⟩ l d assign body ⟨zipS ps.toList [.agg lv.toArray] s, [], B ++ (S' ++ (X ++ F))⟩ (B ++ (S' ++ (X ++ F))) (fun L3 => ∃ B', L3 = B' ++ (S' ++ (X ++ F)) ∧ J (pre ++ [y]) B') (fun _ _ => False))
    (hdone : ∀ (d : Nat) (S' X B : List (Nat × Obj)), HandL hb tb S' (X ++ G) t w m → J (hownL w t 8) B → K .normal ⟨s, markD d :: D, (d, .deferred (some [])) :: (B ++ (S' ++ (X ++ F)))⟩) :
    WC ⟨Tryz.prog, g, N, n, none⟩ (.rangeFunc x ps assign body) K ⟨s, D, B0 ++ (S ++ F)⟩ := by
  refine WC_rangeZ (α := OwnV × List Value) (γ := List (Nat × Obj) × List (Nat × Obj) × List OwnV × List (Nat × Obj)) (gf := 125) (fs := #[]) (lb := #[.pointer (some ⟨xo, 0, none⟩)]) hx (fun y => [.agg y.2.toArray]) (fun _ => hps) hpn (fun st => st.2.2.2 ++ (st.1 ++ (st.2.1 ++ F)))
    (fun st y => HandL hb tb st.1 (st.2.1 ++ G) t w m ∧ (st.2.2.1 ++ [y.1]) <+: hownL w t 8 ∧ OwnIn (st.2.1 ++ G) y.2 y.1 ∧ J st.2.2.1 st.2.2.2) (fun st y st' => st'.1 = st.1 ∧ st'.2.1 = st.2.1 ∧ J (st.2.2.1 ++ [y.1]) st'.2.2.2) (fun st => HandL hb tb st.1 (st.2.1 ++ G) t w m ∧ J (hownL w t 8) st.2.2.2) (fun _ _ => False) ?_ ?_ ?_ ?_
  · intro l d o1 o2 Jx hJ hyr
    refine (owns1_fn (J := J) hT hIn hG h hxo (fun S' X pre B y lv h1 h2 h3 h4 => ?_) h0).mono ?_
    · refine (hyr (S', X, pre, B) (y, lv) ⟨h1, h2, h3, h4⟩).monoY ?_
      rintro v' L2 (⟨rfl, ⟨S2, X2, pre2, B2⟩, ⟨e1, e2, e3⟩, rfl⟩ | ⟨_, h⟩)
      · simp only at e1 e2 e3
        subst e1 e2
        exact ⟨rfl, B2, rfl, e3⟩
      · obtain ⟨_, _, _, _, h⟩ := hJ _ h
        exact h.elim
    · rintro v L2 ⟨S', X, B, rfl, h1, h2⟩
      exact .inl ⟨(S', X, [], B), ⟨h1, h2⟩, rfl⟩
  · rintro g' n' l d ⟨S', X, pre, B⟩ ⟨y, lv⟩ ⟨h1, h2, h3, h4⟩
    intro ol od hol
    refine WC_mono (hbody S' X pre B y lv g' n' l d h1 h2 h3 h4 ol od hol) ?_
    rintro e σ' ⟨rfl, s', A, B', rfl, hk⟩
    refine ⟨rfl, s', A, B', rfl, fun ol' hol' => WC_mono (hk ol' hol') ?_⟩
    intro e σ'' hp
    cases e with
    | normal =>
      obtain ⟨L'', hs, B2, rfl, hJ2⟩ := hp
      exact ⟨_, hs, (S', X, pre ++ [y], B2), ⟨rfl, rfl, hJ2⟩, rfl⟩
    | _ => exact hp
  · rintro d ⟨S', X, pre, B⟩ ⟨h1, h2⟩
    exact hdone d S' X B h1 h2
  · intro _ _ _ h
    exact h.elim
theorem owns_fn {hb : Nat} {L : List (Nat × Obj)} : Fn Tryz.prog 85 [.pointer (some ⟨hb, 0, none⟩)] L (fun r L' => ∃ xo, r = owF xo ∧ L' = hxO xo hb :: L) := by
  refine Fn_enter Tryz.func85 rfl Tryz.ntmps85 rfl fun g => ?_
  repeat (first | refine RQ ?_ | (refine RE ?_; try intro _) | refine RC ?_ | refine WC_region ?_)
  exact ⟨rfl, _, _, Res1 rfl (resV_tmp rfl), .refl _, _, rfl, rfl⟩
theorem perm_hp1 {α : Type} (a b : α) (S F : List α) : (a :: b :: (S ++ F)).Perm ([b] ++ (S ++ (a :: F))) := by
  classical
  rw [List.perm_iff_count]
  intro z
  simp only [List.count_append, List.count_cons, List.count_nil]
  omega
abbrev plL (l : List OwnV) : List Value := l.flatMap fun x => [iV x.bin, iV x.span]
theorem plL_snoc (l : List OwnV) (y : OwnV) : plL (l ++ [y]) = plL l ++ [iV y.bin, iV y.span] := by simp [plL]
set_option maxHeartbeats 2000000 in
theorem hPlaces_fn {hb tb : Nat} {t : TbV} {w : Int} {m : PlK → Bool × Bool} {S G F : List (Nat × Obj)} (hT : TbOk t) (hIn : TabIn tb F t) (hG : ∀ q ∈ G, q ∈ F) (h : HandAt hb tb S G t w m) : Fn Tryz.prog 81 [.pointer (some ⟨hb, 0, none⟩)] (S ++ F) (fun v L' => ∃ S' X T, L' = T ++ (S' ++ (X ++ F)) ∧ HandL hb tb S' (X ++ G) t w m ∧ Buf 69 2 v T (hownL w t 8).length (plL (hownL w t 8))) := by
  refine Fn_enterM Tryz.func81 rfl Tryz.ntmps81 rfl fun g => ?_
  have hfew : (hownL w t 8).length ≤ 520 := by
    have := hownL_len (w := w) (t := t) (n := 65) (fun r hr => by have := hT.short r hr; have := hT.few; omega) 8
    omega
  repeat (first | refine RQ ?_ | (refine RE ?_; try intro _) | (refine WL_op rfl ?_; (first | (refine OW_call rfl (hF := owns_fn) (hk := ?_); rintro _ _ ⟨xo, rfl, rfl⟩))) | refine RC ?_ | refine WG 0 ?_ | refine WG 1 ?_)
  rename_i x2
  refine WC_permT (L' := [(x2, Obj.cells #[.slice none 0 0] 142 (0, 0))] ++ (S ++ (hxO xo hb :: F))) (perm_hp1 ..).symm ?_
  refine WC_owns (J := fun pre B => ∃ v T, B = (x2, Obj.cells #[v] 142 (0, 0)) :: T ∧ Buf 69 2 v T pre.length (plL pre)) hT (hIn.mem fun q hq => .tail _ hq) (fun q hq => .tail _ (hG q hq)) h (.head _) ⟨_, [], rfl, Buf.nil _ _⟩ rfl rfl rfl ?_ ?_
  · rintro S' X pre B y lv g' n' l d hL hpre hO ⟨v, T, rfl, hbf⟩ ol od hol
    obtain ⟨pv, rfl, hpv⟩ := hO
    have hp1 := hpv.one.1
    have hz5 : (owC y pv).toArray.size = 5 := rfl
    have hal : ((owC y pv).toArray.toList.all fun v => v.oneCell') = true := by simpa [List.all_eq_true] using OwnIn.one ⟨pv, rfl, hpv⟩
    obtain ⟨av, cv, rfl, _, _⟩ := id hbf.val
    have hpl := hpre.length_le
    rw [List.length_append] at hpl
    simp only [List.length_cons, List.length_nil] at hpl
    simp only [List.cons_append]
    repeat (first | refine RQ ?_ | (refine RE ?_; try intro _) | refine RC ?_ | refine WG 2 ?_)
    refine ⟨rfl, _, [_], _, rfl, fun ol' hol' => ?_⟩
    simp only [List.cons_append, List.nil_append]
    repeat (first | refine RQ ?_ | (refine RE ?_; try intro _) | refine RC ?_ | refine WG 3 ?_)
    rename_i x3 xs
    refine WL_op rfl (OW_append_buf (A := [(xs, Obj.cells ((owC y pv).toArray.extract 0 (0 + 2)) 69 (0, 0)), (x3, Obj.cells (owC y pv).toArray 156 (0, 0)), (l, ol'), (d, od), (x2, Obj.cells #[.slice av pre.length cv] 142 (0, 0))]) (T := T) (B := S' ++ (X ++ hxO xo hb :: F)) rfl rfl rfl rfl rfl hbf (m := 1) (news := [iV y.bin, iV y.span]) (srcVec (sz := 2) ⟨rfl, _, _, rfl, Nat.le_refl _, by decide, .inr ⟨_, _, _, _, _, 0, rfl, rfl, fun j x hx => by
      have e : (owC y pv).toArray.extract 0 (0 + 2) = #[iV y.bin, iV y.span] := rfl
      rw [Nat.zero_add, e]
      simpa using hx⟩⟩ (fun u hu => by simp only [List.mem_cons, List.not_mem_nil, or_false] at hu; rcases hu with rfl | rfl <;> rfl)) (by decide) (by simp only [maxLen]; omega) (by omega) ?_)
    intro v' T' hb'
    obtain ⟨av', cv', rfl, _, _⟩ := id hb'.val
    simp only [List.cons_append, List.nil_append]
    repeat (first | refine RQ ?_ | (refine RE ?_; try intro _) | refine RC ?_ | refine WG 3 ?_)
    refine ⟨_, .cons _ (.cons _ (.refl _)), (x2, Obj.cells #[.slice av' (pre.length + 1) cv'] 142 (0, 0)) :: T', by simp only [List.cons_append]; rfl, _, T', rfl, ?_⟩
    rw [List.length_append, plL_snoc]
    exact hb'
  · rintro d S' X B hL ⟨v, T, rfl, hbf⟩
    obtain ⟨av, cv, rfl, _, _⟩ := id hbf.val
    repeat (first | refine RQ ?_ | (refine RE ?_; try intro _) | refine RC ?_ | refine WG 4 ?_)
    refine ⟨_, ⟨d, 0, _, rfl, rfl, rfl, rfl⟩, _, _, Res1 rfl (resV_cell1 rfl 1 rfl), .cons _ (.cons _ (.refl _)), S', X ++ [hxO xo hb], T, by simp, hL.mem (fun q hq => by
      rcases List.mem_append.1 hq with h | h
      · exact List.mem_append_left _ (List.mem_append_left _ h)
      · exact List.mem_append_right _ h), hbf⟩
def lowF (m : PlK → Bool × Bool) (l : List OwnV) : Int := l.foldl (fun a x => if decide (x.span = 0) || (m x.key).1 then a else if x.at_ < a then x.at_ else a) 1152921504606846976
theorem perm_hp2 {α : Type} (a b c : α) (S F : List α) : (a :: b :: c :: (S ++ F)).Perm ([b] ++ (S ++ (a :: c :: F))) := by
  classical
  rw [List.perm_iff_count]
  intro z
  simp only [List.count_append, List.count_cons, List.count_nil]
  omega
set_option maxHeartbeats 2000000 in
theorem hLow_fn {hb tb : Nat} {t : TbV} {w : Int} {m : PlK → Bool × Bool} {S G F : List (Nat × Obj)} (hT : TbOk t) (hIn : TabIn tb F t) (hG : ∀ q ∈ G, q ∈ F) (h : HandAt hb tb S G t w m) : Fn Tryz.prog 84 [.pointer (some ⟨hb, 0, none⟩)] (S ++ F) (fun v L' => ∃ S' X, L' = S' ++ (X ++ F) ∧ HandL hb tb S' (X ++ G) t w m ∧ v = iV (lowF m (hownL w t 8))) := by
  refine Fn_enterM Tryz.func84 rfl Tryz.ntmps84 rfl fun g => ?_
  repeat (first | refine RQ ?_ | (refine RE ?_; try intro _) | (refine WL_op rfl ?_; (first | (refine OW_call rfl (hF := owns_fn) (hk := ?_); rintro _ _ ⟨xo, rfl, rfl⟩))) | refine RC ?_ | refine WG 0 ?_ | refine WG 1 ?_ | refine WG 2 ?_)
  rename_i x1 x3
  refine WC_permT (L' := [(x3, Obj.cells #[iV 1152921504606846976] 2 (0, 0))] ++ (S ++ (hxO xo hb :: hxO x1 hb :: F))) (perm_hp2 ..).symm ?_
  refine WC_owns (J := fun pre B => B = [(x3, Obj.cells #[iV (lowF m pre)] 2 (0, 0))]) hT (hIn.mem fun q hq => .tail _ (.tail _ hq)) (fun q hq => .tail _ (.tail _ (hG q hq))) h (.head _) rfl rfl rfl rfl ?_ ?_
  · rintro S' X pre B y lv g' n' l d hL hpre hO rfl ol od hol
    obtain ⟨pv, rfl, hpv⟩ := hO
    have hp1 := hpv.one.1
    have hz5 : (owC y pv).toArray.size = 5 := rfl
    have hal : ((owC y pv).toArray.toList.all fun v => v.oneCell') = true := by simpa [List.all_eq_true] using OwnIn.one ⟨pv, rfl, hpv⟩
    obtain ⟨rv, av, hX, hLe⟩ := id hL
    simp only [List.cons_append, List.nil_append]
    repeat (first | refine RQ ?_ | (refine RE ?_; try intro _) | refine RC ?_ | refine WG 3 ?_)
    refine ⟨rfl, _, [_], _, rfl, fun ol' hol' => ?_⟩
    simp only [List.cons_append, List.nil_append]
    rename_i x4
    obtain ⟨i1, hi1⟩ := List.mem_iff_getElem?.1 (show hxO x1 hb ∈ (x4, Obj.cells (owC y pv).toArray 156 (0, 0)) :: (l, ol') :: (d, od) :: (x3, Obj.cells #[iV (lowF m pre)] 2 (0, 0)) :: (S' ++ (X ++ hxO xo hb :: hxO x1 hb :: F)) from .tail _ (.tail _ (.tail _ (.tail _ (List.mem_append_right _ (List.mem_append_right _ (.tail _ (.head _))))))))
    have hlow : lowF m (pre ++ [y]) = if decide (y.span = 0) || (m y.key).1 then lowF m pre else if y.at_ < lowF m pre then y.at_ else lowF m pre := by unfold lowF; rw [List.foldl_append]; rfl
    cases hb1 : (decide (y.span = 0) || (m y.key).1)
    · have e1 : (!(decide (y.key.2 = 0) || (m y.key).1)) = true := by rw [hb1]; rfl
      rw [hb1] at hlow
      repeat (first | refine RQ ?_ | (refine RE ?_; try intro _) | (refine WL_op rfl ?_; (first | refine OW_callP rfl (hF := whole_fn hX (fun q hq => .tail _ (.tail _ (.tail _ (.tail _ (List.mem_append_left _ hq))))) y.key) (hk := ?_))) | refine RC ?_ | refine WG 4 ?_ | refine WG 5 ?_)
      exact ⟨_, .cons _ (.refl _), [(x3, Obj.cells #[iV (if y.at_ < lowF m pre then y.at_ else lowF m pre)] 2 (0, 0))], rfl, by rw [hlow]; rfl⟩
    · have e1 : (!(decide (y.key.2 = 0) || (m y.key).1)) = false := by rw [hb1]; rfl
      rw [hb1] at hlow
      repeat (first | refine RQ ?_ | (refine WL_op rfl ?_; (first | refine OW_callP rfl (hF := whole_fn hX (fun q hq => .tail _ (.tail _ (.tail _ (.tail _ (List.mem_append_left _ hq))))) y.key) (hk := ?_))) | refine RC ?_ | refine WG 4 ?_)
      exact ⟨_, .cons _ (.refl _), [(x3, Obj.cells #[iV (lowF m pre)] 2 (0, 0))], rfl, by rw [hlow]; rfl⟩
  · rintro d S' X B hL rfl
    repeat (first | refine RQ ?_ | refine RC ?_ | refine WG 6 ?_)
    refine ⟨_, ⟨d, 0, _, rfl, rfl, rfl, rfl⟩, _, _, Res1 rfl (resV_tmp rfl), .cons _ (.cons _ (.refl _)), S', X ++ [hxO xo hb, hxO x1 hb], by simp, hL.mem (fun q hq => by
      rcases List.mem_append.1 hq with h | h
      · exact List.mem_append_left _ (List.mem_append_left _ h)
      · exact List.mem_append_right _ h), rfl⟩
end Go.Proofs.YtncgndcepoicbaaGreat
