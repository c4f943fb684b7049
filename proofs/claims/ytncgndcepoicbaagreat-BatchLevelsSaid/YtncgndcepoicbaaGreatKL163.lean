/-
  A part of what the last of these texts needs; by itself it proves no statement.
-/
import Derived.Test.YtncgndcepoicbaaGreatKL162
namespace Go.Proofs.YtncgndcepoicbaaGreat
open Go.RowKit
set_option maxHeartbeats 4000000 in
theorem WC_rangeZ {α γ : Type} {P : Program} {g : World} {N n : Nat} {x : Operand} {ps : Array Nat} {assign body : Code} {K : Exit → St → Prop} {s : List (Nat × Value)} {D : List Deferred} {L : List (Nat × Obj)} {gf : Nat} {fs lb : Array Value} [hf : FCall P gf]
    (hx : ev s x = some (.func (.func gf) fs lb)) (enc : α → List Value) (hps : ∀ y, (enc y).length = ps.size) (hpn : (ps.toList.all fun p => Nat.blt p N) = true)
    (M : γ → List (Nat × Obj)) (Dom : γ → α → Prop) (Nx : γ → α → γ → Prop) (Fin : γ → Prop) (Ix : Code → List (Nat × Obj) → Prop)
    (hit : ∀ (l d : Nat) (o1 o2 : Obj) (Jx : List (Nat × Obj) → Prop), (∀ L2, Jx L2 → ∃ o1' cj L', L2 = (l, o1') :: (d, o2) :: L' ∧ Ix cj L') →
      (∀ st y, Dom st y → YieldFn P l (enc y) ((l, o1) :: (d, o2) :: M st) (fun v L2 => (v = .bool true ∧ ∃ st', Nx st y st' ∧ L2 = (l, o1) :: (d, o2) :: M st') ∨ (v = .bool false ∧ Jx L2))) →
      Fn P gf (fs.toList ++ [.func (.yield l) #[] #[]] ++ lb.toList) ((l, o1) :: (d, o2) :: L) (fun _ L2 => (∃ st, Fin st ∧ L2 = (l, o1) :: (d, o2) :: M st) ∨ Jx L2))
    (hbody : ∀ g' n' l d st y, Dom st y → RoundOk ⟨P, g', N, n', none⟩ l d assign body ⟨zipS ps.toList (enc y) s, [], M st⟩ (M st) (fun L3 => ∃ st', Nx st y st' ∧ L3 = M st') Ix)
    (hdone : ∀ d st, Fin st → K .normal ⟨s, markD d :: D, (d, .deferred (some [])) :: M st⟩)
    (hstop : ∀ d cj L', Ix cj L' → WC ⟨P, g, N, n, none⟩ cj K ⟨s, markD d :: D, (d, .deferred (some [])) :: L'⟩) :
    WC ⟨P, g, N, n, none⟩ (.rangeFunc x ps assign body) K ⟨s, D, L⟩ := fun a w ha => by
  refine wpIn_rangeFunc ?_
  intro fn _
  obtain ⟨rec, hrec⟩ : ∃ rec : LoopState → Option Code → Loop, rec = fun st pe => { state := st, pending := pe, fn, tmps := a.tmps, params := ps, assign, body, defers := w.heap.size } := ⟨_, rfl⟩
  obtain ⟨W1, hW1⟩ : ∃ W1, (w.alloc (.deferred (some []))).alloc (.loop (rec .ready none)) = W1 := ⟨_, rfl⟩
  have hm1 : Mem g ((w.heap.size + 1, .loop (rec .ready none)) :: (w.heap.size, .deferred (some [])) :: L) W1 := by
    have := (ha.mem.alloc (.deferred (some []))).alloc (.loop (rec .ready none))
    rw [World.size_alloc] at this
    rw [← hW1]; exact this
  refine ⟨w.heap.size + 1, [markD w.heap.size], W1, { target := .fn (.func gf) lb, args := fs ++ #[.func (.yield (w.heap.size + 1)) #[] #[]] }, W1, gf, fs ++ #[.func (.yield (w.heap.size + 1)) #[] #[]] ++ lb, W1, ?_, ?_, fun _ _ => trivial, ?_, fun h => by simp at h, ?_⟩
  · rw [← hW1, hrec]; exact run_enterLoop_outer _ _ _ _ _
  · have := ha.ev hx
    simp [resolve, this, Deferred.ofValue, show ∀ v, a.eval (.const v) = v from fun _ => rfl]
  · simp [invoke, hf.h]
  · generalize hl : w.heap.size + 1 = l at hm1 ⊢
    generalize hd : w.heap.size = d at hm1 ⊢
    let Jx : List (Nat × Obj) → Prop := fun L2 => ∃ cj L', L2 = (l, .loop (rec .done (some cj))) :: (d, .deferred (some [])) :: L' ∧ Ix cj L'
    have hcall := hit l d (.loop (rec .ready none)) (.deferred (some [])) Jx (fun L2 ⟨cj, L', h1, h2⟩ => ⟨_, cj, L', h1, h2⟩) ?_
    · have e : (fs.toList ++ [Value.func (.yield l) #[] #[]] ++ lb.toList).toArray = fs ++ #[.func (.yield l) #[] #[]] ++ lb := by apply Array.ext'; simp
      have hc := callsIn_fw none (n - 1) (hcall g W1 hm1)
      rw [e] at hc
      refine hc.mono fun e w' ⟨v, L2, h1, h2, h3⟩ => ?_
      subst h1
      rcases h3 with ⟨st, hfin, rfl⟩ | ⟨cj, L', rfl, hI⟩
      · have hlp := h2.at_ (i := 0) rfl
        have hpd : (rec .ready none).pending = none := by rw [hrec]
        obtain ⟨w4, hen, hm4⟩ : ∃ w4, (Instr.endLoop l).run P w' = .ok (rec .ready none).pending w4 ∧ Mem g ((d, .deferred (some [])) :: M st) w4 :=
          ⟨_, run_endLoop (P := P) hlp (by rw [hrec]; simp), (h2.putObj (i := 0) rfl (.loop { rec .ready none with state := .exhausted })).sublist (.cons _ (.refl _))⟩
        rw [hpd] at hen
        exact ⟨none, w4, hen, ⟨s, markD d :: D, (d, .deferred (some [])) :: M st⟩, ⟨ha.size, ha.slots, by show markD d :: a.defers = _; rw [ha.defers], hm4⟩, hdone d st hfin⟩
      · have hlp := h2.at_ (i := 0) rfl
        have hpd : (rec .done (some cj)).pending = some cj := by rw [hrec]
        obtain ⟨w4, hen, hm4⟩ : ∃ w4, (Instr.endLoop l).run P w' = .ok (rec .done (some cj)).pending w4 ∧ Mem g ((d, .deferred (some [])) :: L') w4 :=
          ⟨_, run_endLoop (P := P) hlp (by rw [hrec]; simp), (h2.putObj (i := 0) rfl (.loop { rec .done (some cj) with state := .exhausted })).sublist (.cons _ (.refl _))⟩
        rw [hpd] at hen
        exact ⟨some cj, w4, hen, hstop d cj L' hI _ _ ⟨ha.size, ha.slots, by show markD d :: a.defers = _; rw [ha.defers], hm4⟩⟩
    · -- one round
      rintro st y hdom g2 w2 m hm
      have hy := run_yield (P := P) (w := w2) (args := (enc y).toArray) (hm.at_ (i := 0) rfl) (by rw [hrec]; simpa using hps y)
      have e1 : (rec .ready none).fn = fn ∧ (rec .ready none).assign = assign ∧ (rec .ready none).body = body ∧ (rec .ready none).params = ps ∧ (rec .ready none).tmps = a.tmps := by rw [hrec]; exact ⟨rfl, rfl, rfl, rfl, rfl⟩
      rw [e1.1, e1.2.1, e1.2.2.1, e1.2.2.2.1, e1.2.2.2.2] at hy
      refine ⟨fn, _, assign, body, hy, roundIn_of_wpIn trivial ?_⟩
      have hz := holds_zip (g := g2) (w := w2) (N := N) (D := []) (L := (l, .loop (rec .ready none)) :: (d, .deferred (some [])) :: M st) ps.toList (enc y) s { tmps := a.tmps, defers := [] } hpn ⟨ha.size, ha.slots, rfl, hm⟩
      have e2 : (ps.toList.zip (enc y)).foldl (fun t (q : Nat × Value) => t.setIfInBounds q.1 q.2) a.tmps = (ps.zip (enc y).toArray).foldl (fun tmps (q : Nat × Value) => tmps.setIfInBounds q.1 q.2) a.tmps := by
        rw [← Array.foldl_toList, Array.toList_zip]
      simp only [e2] at hz
      refine Go.wpIn_mono (hbody g2 m l d st y hdom (.loop (rec .ready none)) (.deferred (some [])) ⟨_, rfl⟩ _ w2 hz) (fun e a3 w3 hl3 => ?_)
      cases e with
      | normal =>
        obtain ⟨σ', hH, _, s', A, B, rfl, hnext⟩ := hl3
        have hat : (A ++ (l, Obj.loop (rec .ready none)) :: B)[A.length]? = some (l, .loop (rec .ready none)) := by simp
        have hlp := hH.mem.at_ hat
        have hb := run_beginRound (P := P) hlp (by rw [hrec])
        refine ⟨_, hb, ?_⟩
        have hm4 := hH.mem.putObj hat (.loop { rec .ready none with state := .busy })
        have e3 : (A ++ (l, Obj.loop (rec .ready none)) :: B).set A.length (l, .loop { rec .ready none with state := .busy }) = A ++ (l, .loop { rec .ready none with state := .busy }) :: B := by simp
        simp only [e3] at hm4
        have hH4 : Holds g2 N ⟨s', [], A ++ (l, .loop { rec .ready none with state := .busy }) :: B⟩ a3 _ := ⟨hH.size, hH.slots, hH.defers, hm4⟩
        refine Go.wpIn_mono (hnext _ ⟨_, rfl⟩ _ _ hH4) (fun e a5 w5 hl5 => ?_)
        have fin : ∀ (jump : Option Code) (L'' : List (Nat × Obj)), Mem g2 ((l, .loop { rec .ready none with state := .busy }) :: (d, .deferred (some [])) :: L'') w5 →
            ∃ w6, (Instr.endRound l jump).run P w5 = .ok (.bool jump.isNone) w6 ∧ Mem g2 ((l, .loop (rec (if jump.isNone then .ready else .done) jump)) :: (d, .deferred (some [])) :: L'') w6 := fun jump L'' hm5 => by
          have h1 := run_endRound (P := P) jump (hm5.at_ (i := 0) rfl)
          have h2 := hm5.putObj (i := 0) rfl (.loop { ({ rec .ready none with state := .busy } : Loop) with state := if jump.isNone then .ready else .done, pending := jump })
          refine ⟨_, h1, ?_⟩
          have e4 : ({ ({ rec .ready none with state := .busy } : Loop) with state := if jump.isNone then .ready else .done, pending := jump } : Loop) = rec (if jump.isNone then .ready else .done) jump := by rw [hrec]
          rw [e4] at h2 ⊢
          exact h2
        cases e with
        | normal =>
          obtain ⟨σ'', h1, _, h2, st', h3, rfl⟩ := hl5
          obtain ⟨w6, h4, h5⟩ := fin none (M st') (h1.mem.sublist h2)
          exact ⟨_, w6, h4, _, _, rfl, h5, .inl ⟨rfl, st', h3, rfl⟩⟩
        | ret =>
          obtain ⟨σ'', h1, L'', h2, h3⟩ := hl5
          obtain ⟨w6, h4, h5⟩ := fin (some .ret) L'' (h1.mem.sublist h2)
          exact ⟨_, w6, h4, _, _, rfl, h5, .inr ⟨rfl, .ret, L'', rfl, h3⟩⟩
        | exit id =>
          obtain ⟨σ'', h1, L'', h2, h3⟩ := hl5
          obtain ⟨w6, h4, h5⟩ := fin (some (.exit id)) L'' (h1.mem.sublist h2)
          exact ⟨_, w6, h4, _, _, rfl, h5, .inr ⟨rfl, .exit id, L'', rfl, h3⟩⟩
        | goto t =>
          obtain ⟨σ'', h1, L'', h2, h3⟩ := hl5
          obtain ⟨w6, h4, h5⟩ := fin (some (.goto t)) L'' (h1.mem.sublist h2)
          exact ⟨_, w6, h4, _, _, rfl, h5, .inr ⟨rfl, .goto t, L'', rfl, h3⟩⟩
        | panic ch => obtain ⟨_, _, h⟩ := hl5; exact h.elim
        | outgrown => obtain ⟨_, _, h⟩ := hl5; exact h.elim
      | panic ch => obtain ⟨_, _, h, _⟩ := hl3; cases h
      | ret => obtain ⟨_, _, h, _⟩ := hl3; cases h
      | exit id => obtain ⟨_, _, h, _⟩ := hl3; cases h
      | goto t => obtain ⟨_, _, h, _⟩ := hl3; cases h
      | outgrown => obtain ⟨_, _, h, _⟩ := hl3; cases h
theorem YieldFn.monoY {P : Program} {l : Nat} {args : List Value} {L : List (Nat × Obj)} {R R' : Value → List (Nat × Obj) → Prop} (h : YieldFn P l args L R) (hr : ∀ v L', R v L' → R' v L') : YieldFn P l args L R' := fun g w n hm => by
  obtain ⟨fn, tmps, assign, body, h1, h2⟩ := h g w n hm
  exact ⟨fn, tmps, assign, body, h1, h2.mono fun e w' ⟨v, L', h3, h4, h5⟩ => ⟨v, L', h3, h4, hr v L' h5⟩⟩
end Go.Proofs.YtncgndcepoicbaaGreat
