/-
  A part of what the last of these texts needs; by itself it proves no statement.
-/
import Derived.RangeFuncNested
import Derived.Test.YtekmmhmhcpaiaaaGreatKP3
namespace Go.Proofs.YtekmmhmhcpaiaaaGreat
open Go.RowKit
theorem OW_callv {c : Cx} {o : Oper} {Kn : St → Prop} {K : Exit → St → Prop} {s : List (Nat × Value)} {D : List Deferred} {L : List (Nat × Obj)} {f d : FuncId} {x : Operand} {A B : Array Value} {args : Array Operand} {tys : Array TypeId} [hf : FCall c.P f] {vs : List Value} {R : Value → List (Nat × Obj) → Prop}
    (ho : o.op = .call { callee := .value x, args := args, argTypes := tys }) (hdst : o.dst = some d) (hx : ev s x = some (.func (.func f) A B)) (ha : evs s args.toList = some vs) (hd : Nat.blt d c.N = true) (hF : Fn c.P f (A.toList ++ vs ++ B.toList) L R) (hk : ∀ v L', R v L' → Kn ⟨(d, v) :: s, D, L'⟩) : OW c o Kn K ⟨s, D, L⟩ := fun a w hH => by
  refine ⟨fun _ _ => trivial, ?_⟩
  have hargs : args.map a.eval = vs.toArray := by
    apply Array.ext'
    simpa using hH.evs ha
  have hr : (execOp a.eval o).run c.P w = .ok (.enter f (A.toList ++ vs ++ B.toList).toArray) w := by
    have e : (A.toList ++ vs ++ B.toList).toArray = A ++ vs.toArray ++ B := by apply Array.ext'; simp
    rw [e]
    simp [execOp, ho, resolve, Deferred.ofValue, hH.ev hx, hargs, invoke, hf.h]
  rw [Oper.semAt_eq _ _ _ (by rw [ho]; intro cc h; cases h), hr]
  refine ⟨fun h => by simp at h, (callsIn_fw c.r _ (hF c.g w hH.mem)).mono fun e w' ⟨v, L', h1, h2, h3⟩ => ?_⟩
  subst h1
  refine ⟨_, ?_, hk v L' h3⟩
  rw [hdst]
  exact (hH.mem' h2).put (d := some d) hd v
def YieldFn (P : Program) (l : Nat) (args : List Value) (L : List (Nat × Obj)) (R : Value → List (Nat × Obj) → Prop) : Prop :=
  ∀ g w n, Mem g L w → ∃ fn tmps assign body, (Instr.yield l args.toArray).run P w = .ok (.round l fn tmps assign body) w ∧
    RoundIn (Fw none) n P l fn tmps assign body w fun e w' => ∃ v L', e = .returned v ∧ Mem g L' w' ∧ R v L'
theorem OW_yield {c : Cx} {o : Oper} {Kn : St → Prop} {K : Exit → St → Prop} {s : List (Nat × Value)} {D : List Deferred} {L : List (Nat × Obj)} {l d : Nat} {x : Operand} {args : Array Operand} {tys : Array TypeId} {vs : List Value} {R : Value → List (Nat × Obj) → Prop}
    (ho : o.op = .call { callee := .value x, args := args, argTypes := tys }) (hdst : o.dst = some d) (hx : ev s x = some (.func (.yield l) #[] #[])) (ha : evs s args.toList = some vs) (hd : Nat.blt d c.N = true) (hY : YieldFn c.P l vs L R) (hk : ∀ v L', R v L' → Kn ⟨(d, v) :: s, D, L'⟩) : OW c o Kn K ⟨s, D, L⟩ := fun a w hH => by
  refine ⟨fun _ _ => trivial, ?_⟩
  have hargs : args.map a.eval = vs.toArray := by
    apply Array.ext'
    simpa using hH.evs ha
  obtain ⟨fn, tmps, assign, body, h1, h2⟩ := hY c.g w (c.n - 1) hH.mem
  have hr : (execOp a.eval o).run c.P w = .ok (.round l fn tmps assign body) w := by
    simp [execOp, ho, resolve, Deferred.ofValue, hH.ev hx, hargs, invoke, h1]
  rw [Oper.semAt_eq _ _ _ (by rw [ho]; intro cc h; cases h), hr]
  have h2' : RoundIn (Fw c.r) (c.n - 1) c.P l fn tmps assign body w fun e w' => ∃ v L', e = .returned v ∧ Mem c.g L' w' ∧ R v L' := h2
  refine ⟨fun h => by simp at h, h2'.mono fun e w' ⟨v, L', h1, h2, h3⟩ => ?_⟩
  subst h1
  refine ⟨_, ?_, hk v L' h3⟩
  rw [hdst]
  exact (hH.mem' h2).put (d := some d) hd v
abbrev markD (r : Nat) : Deferred := { target := .collected r, args := #[] }
theorem Mem.putObj {g w : World} {L : List (Nat × Obj)} (h : Mem g L w) {i b : Nat} {o : Obj} (hi : L[i]? = some (b, o)) (o' : Obj) : Mem g (L.set i (b, o')) (w.putObj b o') :=
  h.set hi rfl rfl rfl (by simp) (World.putObj_heap_same (h.lt _ (List.mem_of_getElem? hi))) (fun k _ hk => World.putObj_heap_other hk)
def MarksOk : List Deferred → List (Nat × Obj) → List (Nat × Obj) → Prop
  | [], L, L' => L' = L
  | d :: ds, L, L' => ∃ r i L1, d = markD r ∧ L[i]? = some (r, .deferred (some [])) ∧ setL L i (r, .deferred none) = some L1 ∧ MarksOk ds L1 L'
def postM (c : Cx) (fn : Func) (R : Value → List (Nat × Obj) → Prop) : Exit → St → Prop
  | .normal, σ | .ret, σ => ∃ L', MarksOk σ.D σ.L L' ∧ ∃ v Lx, Res c fn ⟨σ.s, [], L'⟩ v ∧ Lx.Sublist L' ∧ R v Lx
  | _, _ => False
set_option maxHeartbeats 4000000 in
theorem Fn_enterM {P : Program} {f : FuncId} {fn : Func} {code : Code} {args : List Value} {L : List (Nat × Obj)} {R : Value → List (Nat × Obj) → Prop} {N : Nat} (hf : P.funcs[f]? = some fn) (hb : fn.body = some code) (hN : fn.ntmps = N) (hl : Nat.ble args.length N = true)
    (h : ∀ g, WC ⟨P, g, N, 0, none⟩ code (postM ⟨P, g, N, 0, none⟩ fn R) ⟨initS 0 args, [], L⟩) : Fn P f args L R := fun g w hm => by
  refine (callsIn_wide (n := 0)).1 (callsIn_of_wp_marks hf hb trivial (Go.wpIn_mono (h g _ w ?_) fun e a' w' hl => ?_) rfl)
  · have hle : args.length ≤ N := Nat.le_of_ble_eq_true hl
    refine ⟨?_, ?_, rfl, hm⟩
    · simp only [hN, Array.size_append, List.size_toArray, Array.size_replicate]; omega
    · intro t v hv
      obtain ⟨_, h2⟩ := look_initS args 0 t v hv
      simp only [Nat.sub_zero] at h2
      have hlt : t < args.length := (List.getElem?_eq_some_iff.1 h2).1
      simp [Array.getElem?_append, hlt] at h2 ⊢
      simp [h2]
  · have key : ∀ (ds : List Deferred) (σ : St) (a' : Act) (w' : World), Holds g N ⟨σ.s, [], σ.L⟩ { a' with defers := [] } w' → ∀ L', MarksOk ds σ.L L' → (∃ v Lx, Res ⟨P, g, N, 0, none⟩ fn ⟨σ.s, [], L'⟩ v ∧ Lx.Sublist L' ∧ R v Lx) →
        LeavesInM Fence.wide 0 P fn a'.tmps (fun e w' => ∃ v L', e = .returned v ∧ Mem g L' w' ∧ R v L') ds .returning w' := by
      intro ds
      induction ds with
      | nil =>
        intro σ a' w' hH L' hM ⟨v, Lx, h1, h2, h3⟩
        cases hM
        exact ⟨v, h1 { a' with defers := [] } w' hH, v, Lx, rfl, hH.mem.sublist h2, h3⟩
      | cons d ds ih =>
        intro σ a' w' hH L' ⟨r, i, L1, hd, hi, hs, hM⟩ hR
        subst hd
        have hm' := hH.mem.putObj hi (.deferred none)
        rw [setL_eq hs] at hm'
        exact ⟨by simp, .inl ⟨r, w'.putObj r (.deferred none), rfl, run_takeDeferred (hH.mem.at_ hi), ih ⟨σ.s, [], L1⟩ a' _ (hH.mem' hm') L' hM hR⟩⟩
    cases e with
    | normal => obtain ⟨σ, h1, L', hM, hR⟩ := hl; rw [show bodyPostM _ _ _ _ _ .normal a' w' = LeavesInM _ _ _ _ _ _ _ _ _ from rfl, h1.defers]; exact key σ.D σ a' w' ⟨h1.size, h1.slots, rfl, h1.mem⟩ L' hM hR
    | ret => obtain ⟨σ, h1, L', hM, hR⟩ := hl; rw [show bodyPostM _ _ _ _ _ .ret a' w' = LeavesInM _ _ _ _ _ _ _ _ _ from rfl, h1.defers]; exact key σ.D σ a' w' ⟨h1.size, h1.slots, rfl, h1.mem⟩ L' hM hR
    | panic ch => obtain ⟨σ, _, h2⟩ := hl; exact h2.elim
    | exit id => obtain ⟨σ, _, h2⟩ := hl; exact h2.elim
    | goto l => obtain ⟨σ, _, h2⟩ := hl; exact h2.elim
    | outgrown => obtain ⟨σ, _, h2⟩ := hl; exact h2.elim
def zipS : List Nat → List Value → List (Nat × Value) → List (Nat × Value)
  | p :: ps, v :: vs, s => zipS ps vs ((p, v) :: s)
  | _, _, s => s
theorem holds_zip {g w : World} {N : Nat} {D : List Deferred} {L : List (Nat × Obj)} : ∀ (ps : List Nat) (vs : List Value) (s : List (Nat × Value)) (a : Act), (ps.all fun p => Nat.blt p N) = true → Holds g N ⟨s, D, L⟩ a w →
    Holds g N ⟨zipS ps vs s, D, L⟩ { a with tmps := (ps.zip vs).foldl (fun t (q : Nat × Value) => t.setIfInBounds q.1 q.2) a.tmps } w
  | [], _, _, _, _, h => h
  | _ :: _, [], _, _, _, h => h
  | p :: ps, v :: vs, s, a, hp, h => by
    simp only [List.all_cons, Bool.and_eq_true] at hp
    exact holds_zip ps vs ((p, v) :: s) { a with tmps := a.tmps.setIfInBounds p v } hp.2 (h.put (d := some p) hp.1 v)
def RoundOk (c : Cx) (l d : Nat) (assign body : Code) (σ : St) (L' : List (Nat × Obj)) (goOn : List (Nat × Obj) → Prop) (leave : Code → List (Nat × Obj) → Prop) : Prop :=
  ∀ ol od, (∃ r, ol = Obj.loop r) → WC { c with r := some l } assign (fun e σ' => e = .normal ∧ ∃ s' A B, σ' = ⟨s', [], A ++ (l, ol) :: B⟩ ∧ ∀ ol', (∃ r, ol' = Obj.loop r) →
    WC { c with r := some l } body (fun e σ'' => match e with
      | .normal => ∃ L'', ((l, ol') :: (d, od) :: L'').Sublist σ''.L ∧ goOn L''
      | .ret => ∃ L'', ((l, ol') :: (d, od) :: L'').Sublist σ''.L ∧ leave .ret L''
      | .exit id => ∃ L'', ((l, ol') :: (d, od) :: L'').Sublist σ''.L ∧ leave (.exit id) L''
      | .goto t => ∃ L'', ((l, ol') :: (d, od) :: L'').Sublist σ''.L ∧ leave (.goto t) L''
      | _ => False) ⟨s', [], A ++ (l, ol') :: B⟩) ⟨σ.s, [], (l, ol) :: (d, od) :: L'⟩
set_option maxHeartbeats 4000000 in
theorem WC_range {α : Type} {P : Program} {g : World} {N n : Nat} {x : Operand} {ps : Array Nat} {assign body : Code} {K : Exit → St → Prop} {s : List (Nat × Value)} {D : List Deferred} {L : List (Nat × Obj)} {gf : Nat} {fs lb : Array Value} [hf : FCall P gf]
    (hx : ev s x = some (.func (.func gf) fs lb)) (enc : α → List Value) (hps : ∀ y, (enc y).length = ps.size) (hpn : (ps.toList.all fun p => Nat.blt p N) = true)
    (Dom : List α → α → Prop) (Fin : List α → Prop) (I : List α → List (Nat × Obj) → Prop) (Ix : Code → List (Nat × Obj) → Prop)
    (hit : ∀ (l d : Nat) (o1 o2 : Obj) (Jx : List (Nat × Obj) → Prop),
      (∀ pre y L1, Dom pre y → (∃ L', L1 = (l, o1) :: (d, o2) :: L' ∧ I pre L') → YieldFn P l (enc y) L1 (fun v L2 => (v = .bool true ∧ ∃ L', L2 = (l, o1) :: (d, o2) :: L' ∧ I (pre ++ [y]) L') ∨ (v = .bool false ∧ Jx L2))) →
      Fn P gf (fs.toList ++ [.func (.yield l) #[] #[]] ++ lb.toList) ((l, o1) :: (d, o2) :: L) (fun _ L2 => (∃ xs L', Fin xs ∧ L2 = (l, o1) :: (d, o2) :: L' ∧ I xs L') ∨ Jx L2))
    (hbody : ∀ g' n' l d pre y L', Dom pre y → I pre L' → RoundOk ⟨P, g', N, n', none⟩ l d assign body ⟨zipS ps.toList (enc y) s, [], L'⟩ L' (I (pre ++ [y])) Ix)
    (hdone : ∀ d xs L', Fin xs → I xs L' → K .normal ⟨s, markD d :: D, (d, .deferred (some [])) :: L'⟩)
    (hstop : ∀ d cj L', Ix cj L' → WC ⟨P, g, N, n, none⟩ cj K ⟨s, markD d :: D, (d, .deferred (some [])) :: L'⟩) :
    WC ⟨P, g, N, n, none⟩ (.rangeFunc x ps assign body) K ⟨s, D, L⟩ := fun a w ha => by
  refine wpIn_rangeFunc ?_
  intro fn _
  obtain ⟨rec, hrec⟩ : ∃ rec : LoopState → Option Code → Loop, rec = fun st pe => { state := st, pending := pe, fn, tmps := a.tmps, params := ps, assign, body, defers := w.heap.size } := ⟨_, rfl⟩
  obtain ⟨W1, hW1⟩ : ∃ W1, (w.alloc (.deferred (some []))).alloc (.loop (rec .ready none)) = W1 := ⟨_, rfl⟩
  have hm1 : Mem g ((w.heap.size + 1, .loop (rec .ready none)) :: (w.heap.size, .deferred (some [])) :: L) W1 := by
    have := (ha.mem.alloc (.deferred (some []))).alloc (.loop (rec .ready none))
    rw [World.size_alloc] at this
    rw [← hW1]; exact this
  refine ⟨w.heap.size + 1, [markD w.heap.size], W1, { target := .fn (.func gf) lb, args := fs ++ #[.func (.yield (w.heap.size + 1)) #[] #[]] }, W1, gf, fs ++ #[.func (.yield (w.heap.size + 1)) #[] #[]] ++ lb, W1, ?_, ?_, fun _ _ => trivial, ?_, fun h => by simp at h, ?_⟩
  · rw [← hW1, hrec]; exact run_enterLoop_outer _ _ _ _ _
  · have := ha.ev hx
    simp [resolve, this, Deferred.ofValue, show ∀ v, a.eval (.const v) = v from fun _ => rfl]
  · simp [invoke, hf.h]
  · generalize hl : w.heap.size + 1 = l at hm1 ⊢
    generalize hd : w.heap.size = d at hm1 ⊢
    let Jx : List (Nat × Obj) → Prop := fun L2 => ∃ cj L', L2 = (l, .loop (rec .done (some cj))) :: (d, .deferred (some [])) :: L' ∧ Ix cj L'
    have hcall := hit l d (.loop (rec .ready none)) (.deferred (some [])) Jx ?_
    · have e : (fs.toList ++ [Value.func (.yield l) #[] #[]] ++ lb.toList).toArray = fs ++ #[.func (.yield l) #[] #[]] ++ lb := by apply Array.ext'; simp
      have hc := callsIn_fw none (n - 1) (hcall g W1 hm1)
      rw [e] at hc
      refine hc.mono fun e w' ⟨v, L2, h1, h2, h3⟩ => ?_
      subst h1
      rcases h3 with ⟨xs, L', hfin, rfl, hI⟩ | ⟨cj, L', rfl, hI⟩
      · have hlp := h2.at_ (i := 0) rfl
        have hpd : (rec .ready none).pending = none := by rw [hrec]
        obtain ⟨w4, hen, hm4⟩ : ∃ w4, (Instr.endLoop l).run P w' = .ok (rec .ready none).pending w4 ∧ Mem g ((d, .deferred (some [])) :: L') w4 :=
          ⟨_, run_endLoop (P := P) hlp (by rw [hrec]; simp), (h2.putObj (i := 0) rfl (.loop { rec .ready none with state := .exhausted })).sublist (.cons _ (.refl _))⟩
        rw [hpd] at hen
        exact ⟨none, w4, hen, ⟨s, markD d :: D, (d, .deferred (some [])) :: L'⟩, ⟨ha.size, ha.slots, by show markD d :: a.defers = _; rw [ha.defers], hm4⟩, hdone d xs L' hfin hI⟩
      · have hlp := h2.at_ (i := 0) rfl
        have hpd : (rec .done (some cj)).pending = some cj := by rw [hrec]
        obtain ⟨w4, hen, hm4⟩ : ∃ w4, (Instr.endLoop l).run P w' = .ok (rec .done (some cj)).pending w4 ∧ Mem g ((d, .deferred (some [])) :: L') w4 :=
          ⟨_, run_endLoop (P := P) hlp (by rw [hrec]; simp), (h2.putObj (i := 0) rfl (.loop { rec .done (some cj) with state := .exhausted })).sublist (.cons _ (.refl _))⟩
        rw [hpd] at hen
        exact ⟨some cj, w4, hen, hstop d cj L' hI _ _ ⟨ha.size, ha.slots, by show markD d :: a.defers = _; rw [ha.defers], hm4⟩⟩
    · -- one round
      rintro pre y L1 hdom ⟨L', rfl, hI⟩ g2 w2 m hm
      have hy := run_yield (P := P) (w := w2) (args := (enc y).toArray) (hm.at_ (i := 0) rfl) (by rw [hrec]; simpa using hps y)
      have e1 : (rec .ready none).fn = fn ∧ (rec .ready none).assign = assign ∧ (rec .ready none).body = body ∧ (rec .ready none).params = ps ∧ (rec .ready none).tmps = a.tmps := by rw [hrec]; exact ⟨rfl, rfl, rfl, rfl, rfl⟩
      rw [e1.1, e1.2.1, e1.2.2.1, e1.2.2.2.1, e1.2.2.2.2] at hy
      refine ⟨fn, _, assign, body, hy, roundIn_of_wpIn trivial ?_⟩
      have hz := holds_zip (g := g2) (w := w2) (N := N) (D := []) (L := (l, .loop (rec .ready none)) :: (d, .deferred (some [])) :: L') ps.toList (enc y) s { tmps := a.tmps, defers := [] } hpn ⟨ha.size, ha.slots, rfl, hm⟩
      have e2 : (ps.toList.zip (enc y)).foldl (fun t (q : Nat × Value) => t.setIfInBounds q.1 q.2) a.tmps = (ps.zip (enc y).toArray).foldl (fun tmps (q : Nat × Value) => tmps.setIfInBounds q.1 q.2) a.tmps := by
        rw [← Array.foldl_toList, Array.toList_zip]
      simp only [e2] at hz
      refine Go.wpIn_mono (hbody g2 m l d pre y L' hdom hI (.loop (rec .ready none)) (.deferred (some [])) ⟨_, rfl⟩ _ w2 hz) (fun e a3 w3 hl3 => ?_)
      cases e with
      | normal =>
        obtain ⟨σ', hH, _, s', A, B, rfl, hnext⟩ := hl3
        have hat : (A ++ (l, Obj.loop (rec .ready none)) :: B)[A.length]? = some (l, .loop (rec .ready none)) := by simp
        have hlp := hH.mem.at_ hat
        have hb := run_beginRound (P := P) hlp (by rw [hrec])
        refine ⟨_, hb, ?_⟩
        have hm4 := hH.mem.putObj hat (.loop { rec .ready none with state := .busy })
        have e3 : (A ++ (l, Obj.loop (rec .ready none)) :: B).set A.length (l, .loop { rec .ready none with state := .busy }) = A ++ (l, .loop { rec .ready none with state := .busy }) :: B := by simp
        simp only [e3] at hm4
        have hH4 : Holds g2 N ⟨s', [], A ++ (l, .loop { rec .ready none with state := .busy }) :: B⟩ a3 _ := ⟨hH.size, hH.slots, hH.defers, hm4⟩
        refine Go.wpIn_mono (hnext _ ⟨_, rfl⟩ _ _ hH4) (fun e a5 w5 hl5 => ?_)
        have fin : ∀ (jump : Option Code) (L'' : List (Nat × Obj)), Mem g2 ((l, .loop { rec .ready none with state := .busy }) :: (d, .deferred (some [])) :: L'') w5 →
            ∃ w6, (Instr.endRound l jump).run P w5 = .ok (.bool jump.isNone) w6 ∧ Mem g2 ((l, .loop (rec (if jump.isNone then .ready else .done) jump)) :: (d, .deferred (some [])) :: L'') w6 := fun jump L'' hm5 => by
          have h1 := run_endRound (P := P) jump (hm5.at_ (i := 0) rfl)
          have h2 := hm5.putObj (i := 0) rfl (.loop { ({ rec .ready none with state := .busy } : Loop) with state := if jump.isNone then .ready else .done, pending := jump })
          refine ⟨_, h1, ?_⟩
          have e4 : ({ ({ rec .ready none with state := .busy } : Loop) with state := if jump.isNone then .ready else .done, pending := jump } : Loop) = rec (if jump.isNone then .ready else .done) jump := by rw [hrec]
          rw [e4] at h2 ⊢
          exact h2
        cases e with
        | normal =>
          obtain ⟨σ'', h1, L'', h2, h3⟩ := hl5
          obtain ⟨w6, h4, h5⟩ := fin none L'' (h1.mem.sublist h2)
          exact ⟨_, w6, h4, _, _, rfl, h5, .inl ⟨rfl, L'', rfl, h3⟩⟩
        | ret =>
          obtain ⟨σ'', h1, L'', h2, h3⟩ := hl5
          obtain ⟨w6, h4, h5⟩ := fin (some .ret) L'' (h1.mem.sublist h2)
          exact ⟨_, w6, h4, _, _, rfl, h5, .inr ⟨rfl, .ret, L'', rfl, h3⟩⟩
        | exit id =>
          obtain ⟨σ'', h1, L'', h2, h3⟩ := hl5
          obtain ⟨w6, h4, h5⟩ := fin (some (.exit id)) L'' (h1.mem.sublist h2)
          exact ⟨_, w6, h4, _, _, rfl, h5, .inr ⟨rfl, .exit id, L'', rfl, h3⟩⟩
        | goto t =>
          obtain ⟨σ'', h1, L'', h2, h3⟩ := hl5
          obtain ⟨w6, h4, h5⟩ := fin (some (.goto t)) L'' (h1.mem.sublist h2)
          exact ⟨_, w6, h4, _, _, rfl, h5, .inr ⟨rfl, .goto t, L'', rfl, h3⟩⟩
        | panic ch => obtain ⟨_, _, h⟩ := hl5; exact h.elim
        | outgrown => obtain ⟨_, _, h⟩ := hl5; exact h.elim
      | panic ch => obtain ⟨_, _, h, _⟩ := hl3; cases h
      | ret => obtain ⟨_, _, h, _⟩ := hl3; cases h
      | exit id => obtain ⟨_, _, h, _⟩ := hl3; cases h
      | goto t => obtain ⟨_, _, h, _⟩ := hl3; cases h
      | outgrown => obtain ⟨_, _, h, _⟩ := hl3; cases h
end Go.Proofs.YtekmmhmhcpaiaaaGreat
namespace Go.Proofs.YtekmmhmhcpaiaaaGreat
open Go.RowKit
class TRow (P : Program) (e : TypeId) (z : outParam (Array Value)) (size bytes : outParam Nat) : Prop where
  h : ∃ i zz, P.info? e = some i ∧ i.zero = some zz ∧ zz.cells = z ∧ i.size = size ∧ i.bytes = bytes ∧ z.size = size
theorem TRow.of {P : Program} {e : TypeId} {zz : Value} {z : Array Value} {size bytes : Nat} (hz : ∀ w, (zeroValue e).run P w = .ok zz w) (hzz : zz.cells = z) (hr : (P.info? e).map (fun i => (i.size, i.bytes)) = some (size, bytes)) (hs : z.size = size) : TRow P e z size bytes := ⟨by
  obtain ⟨i, h1, h2⟩ := Option.map_eq_some_iff.1 hr
  simp only [Prod.mk.injEq] at h2
  refine ⟨i, zz, h1, ?_, hzz, h2.1, h2.2, hs⟩
  have := hz default
  simp only [zeroValue, typeInfo, Sem.run_bind] at this
  simp [h1] at this
  cases h : i.zero with
  | none => rw [h] at this; cases this
  | some u => rw [h] at this; simp at this; rw [this]⟩
section
variable {c : Cx} {s : List (Nat × Value)} {L : List (Nat × Obj)} {o : Oper}
theorem Qt_extract {x : Operand} {k : Nat} {vs : Array Value} {v : Value} (ho : o.op = .extract x k) (hx : ev s x = some (.tuple vs) := by exact rfl) (hv : vs[k]? = some v := by exact rfl) : Qt c s L o v :=
  ⟨(fun cc => by simp [ho]), fun ρ hρ w _ => by simp [execOp, ho, hρ x _ hx, Instr.extract, hv]⟩
def slOff (cap l off size : Nat) : Nat := if cap = l then off else off + l * size
theorem addr_add (b o n : Nat) : (⟨b, o, none⟩ : Addr).add n = ⟨b, o + n, none⟩ := Addr.add_mid b o n
theorem elem_of {P : Program} {t E : TypeId} (h : P.underlying t = some (.slice E)) : P.elem t = E := by simp [Program.elem, h]
theorem sliced_eq (g off l h m size : Nat) : sliced (some ⟨g, off, none⟩) l h m size = .slice (some ⟨g, slOff m l off size, none⟩) (h - l) (m - l) := by
  simp only [sliced, slOff]
  split <;> simp [addr_add]
theorem Qt_sliceL {t E n : Nat} [hu : TUnd c.P t (.slice E)] [hs : TSize c.P E n] {x lo : Operand} {g off len cap : Nat} {k : IntKind} {l : Int} (ho : o.op = .slice t x (some lo) none none) (hx : ev s x = some (.slice (some ⟨g, off, none⟩) len cap) := by exact rfl) (hl : ev s lo = some (.int k l) := by exact rfl) (h0 : 0 ≤ l := by first | with_reducible assumption | decide | assumption | (simp; done) | (simp; omega) | omega) (h1 : l ≤ len := by first | with_reducible assumption | decide | assumption | (simp; done) | (simp; omega) | omega) :
    Qt c s L o (.slice (some ⟨g, slOff cap l.toNat off n, none⟩) (len - l.toNat) (cap - l.toNat)) :=
  ⟨(fun cc => by simp [ho]), fun ρ hρ w _ => by
    have hut : c.P.underlying t = some (.slice (c.P.elem t)) := by rw [elem_of hu.h]; exact hu.h
    have h2 := run_slice_l (P := c.P) w t (some ⟨g, off, none⟩) len cap hut k l h0 h1
    have h3 := run_sliceAt_slice (P := c.P) w t (.slice (some ⟨g, off, none⟩) len cap) (some (.int k l)) none none hut
    rw [elem_of hu.h, hs.h] at h2
    simp only [Result.andThen, sliced_eq] at h2
    simp [execOp, ho, hρ x _ hx, hρ lo _ hl, h3, h2]⟩
end
structure SlAt (L : List (Nat × Obj)) (i g off n cap E size : Nat) (cur : Array Value) : Prop where
  at_ : L[i]? = some (g, .cells cur E (0, 0))
  le : n ≤ cap
  max : cap ≤ maxLen
  fit : off + cap * size ≤ cur.size
theorem OW_build0 {c : Cx} {o : Oper} {Kn : St → Prop} {K : Exit → St → Prop} {s : List (Nat × Value)} {D : List Deferred} {L : List (Nat × Obj)} {t E n d : Nat} [hu : TUnd c.P t (.slice E)] [hs : TSize c.P E n] (ho : o.op = .buildSlice t 0 #[]) (hdst : o.dst = some d := by exact rfl) (hd : Nat.blt d c.N = true := by exact rfl)
    (hk : ∀ b, Kn ⟨(d, .slice (some ⟨b, 0, none⟩) 0 0) :: s, D, (b, .cells #[] E) :: L⟩) : OW c o Kn K ⟨s, D, L⟩ := fun a w ha => by
  refine ⟨fun _ _ => trivial, ?_⟩
  have hr : (execOp a.eval o).run c.P w = .ok (.value (.slice (some ⟨w.heap.size, 0, none⟩) 0 0)) (w.alloc (.cells #[] E)) := by
    simp [execOp, ho, Instr.buildSlice, run_underlying hu.h, hs.h, Instr.fill, newRow]
    rw [Array.eq_empty_of_size_eq_zero (xs := Array.map (fun _ => (default : Value)) (Array.range 0)) (by simp)]
  rw [Oper.semAt_eq _ _ _ (by rw [ho]; intro cc h; cases h), hr]
  refine ⟨_, ?_, hk w.heap.size⟩
  rw [hdst]
  exact (ha.mem' (ha.mem.alloc _)).put (d := some d) hd _
theorem OW_build1 {c : Cx} {o : Oper} {Kn : St → Prop} {K : Exit → St → Prop} {s : List (Nat × Value)} {D : List Deferred} {L : List (Nat × Obj)} {t E n by_ d : Nat} {z vs : Array Value} {x : Operand} {v : Value} [hu : TUnd c.P t (.slice E)] [hrow : TRow c.P E z n by_] (ho : o.op = .buildSlice t 1 #[(0, x)]) (hdst : o.dst = some d := by exact rfl) (hx : ev s x = some v := by exact rfl) (hvs : cellsV v = some vs := by exact rfl) (hn : vs.size = n := by first | with_reducible assumption | rfl | assumption) (hn0 : Nat.ble 1 n = true := by exact rfl) (hn1 : Nat.ble n 16777216 = true := by exact rfl) (hd : Nat.blt d c.N = true := by exact rfl)
    (hk : ∀ b, Kn ⟨(d, .slice (some ⟨b, 0, none⟩) 1 1) :: s, D, (b, .cells vs E) :: L⟩) : OW c o Kn K ⟨s, D, L⟩ := fun a w ha => by
  refine ⟨fun _ _ => trivial, ?_⟩
  obtain ⟨i, zz, h1, h2, h3, h4, h5, h6⟩ := hrow.h
  have hn0 := Nat.le_of_ble_eq_true hn0
  have hn1 := Nat.le_of_ble_eq_true hn1
  obtain rfl := cellsV_eq hvs
  have hfold := fold_put v.cells.toList 0 0 ((Array.range (1 * n)).map fun j => z[j % z.size]!) (by simp; omega)
  have hz0 : (Array.map (fun j => z[j % z.size]!) (Array.range (1 * n))).size = n := by simp
  have he : (v.cells.zipIdx.foldl (fun (cs : Array Value) (p : Value × Nat) => cs.setIfInBounds (0 + p.2) p.1) ((Array.range (1 * n)).map fun j => z[j % z.size]!)) = v.cells := by
    rw [← Array.foldl_toList, Array.toList_zipIdx, hfold]
    simp only [Nat.zero_add, Array.toArray_toList]
    exact putR_all _ _ (by rw [hz0, hn])
  have hr : (execOp a.eval o).run c.P w = .ok (.value (.slice (some ⟨w.heap.size, 0, none⟩) 1 1)) (w.alloc (.cells v.cells E)) := by
    simp only [execOp, ho, Instr.buildSlice, Sem.run_bind, run_underlying hu.h, Result.andThen_ok, sizeOf, typeInfo, zeroValue]
    simp [h1, h2, h3, h4, ha.ev hx, Instr.fill, hn]
    simp only [Nat.zero_add, Nat.one_mul, Array.size_zipIdx, hn] at he
    rw [if_neg (by omega), if_neg (by omega), he]
    simp [newRow]
  rw [Oper.semAt_eq _ _ _ (by rw [ho]; intro cc h; cases h), hr]
  refine ⟨_, ?_, hk w.heap.size⟩
  rw [hdst]
  exact (ha.mem' (ha.mem.alloc _)).put (d := some d) hd _
theorem extract_left (A B : Array Value) : (A ++ B).extract 0 A.size = A := by
  apply Array.ext_getElem?
  intro q
  rw [Array.getElem?_extract, Array.getElem?_append, Array.size_append]
  by_cases h : q < A.size
  · rw [if_pos (by omega), if_pos (by omega), Nat.zero_add]
  · rw [if_neg (by omega), Array.getElem?_eq_none (by omega)]
theorem cells_at {g w : World} {L : List (Nat × Obj)} (h : Mem g L w) {i b : Nat} {cs : Array Value} {E : TypeId} {fr : Nat × Nat} (hi : L[i]? = some (b, .cells cs E fr)) (off k : Nat) : ∀ j v, (cs.extract off (off + k)).toList[j]? = some v → w.cell? ((⟨b, off, none⟩ : Addr).add j) = some v := by
  intro j v hv
  rw [Addr.add_mid, cell_of_row w b (off + j) cs E fr (h.at_ hi)]
  rw [Array.getElem?_toList, Array.getElem?_extract] at hv
  split at hv
  · exact hv
  · cases hv
end Go.Proofs.YtekmmhmhcpaiaaaGreat
namespace Go.Proofs.YtekmmhmhcpaiaaaGreat
open Go.RowKit
def QW (c : Cx) (s : List (Nat × Value)) (L : List (Nat × Obj)) (o : Oper) (κ : Value → Prop) : Prop := ∃ v, Qt c s L o v ∧ κ v
theorem QW_of {c : Cx} {s : List (Nat × Value)} {L : List (Nat × Obj)} {o : Oper} {κ : Value → Prop} {v : Value} (h : Qt c s L o v) (hk : κ v) : QW c s L o κ := ⟨v, h, hk⟩
section
variable {c : Cx} {ops : Array Oper}
theorem WL_Q {op : Op} {d ty : Nat} {pos : String} {aft : Array Edge} {rest : List Oper} {K : Exit → St → Prop} {s : List (Nat × Value)} {D : List Deferred} {L : List (Nat × Obj)}
    (h : QW c s L ⟨some d, op, ty, pos, aft, none⟩ fun v => WL c ops rest K ⟨(d, v) :: s, D, L⟩) (hd : Nat.blt d c.N = true := by exact rfl) : WL c ops (⟨some d, op, ty, pos, aft, none⟩ :: rest) K ⟨s, D, L⟩ :=
  let ⟨_, h1, h2⟩ := h; WL_q h1 hd h2
theorem OW_Q {op : Op} {d ty : Nat} {pos : String} {aft : Array Edge} {gd : Option (Nat × Bool)} {Kn : St → Prop} {K : Exit → St → Prop} {s : List (Nat × Value)} {D : List Deferred} {L : List (Nat × Obj)}
    (h : QW c s L ⟨some d, op, ty, pos, aft, gd⟩ fun v => Kn ⟨(d, v) :: s, D, L⟩) (hd : Nat.blt d c.N = true := by exact rfl) : OW c ⟨some d, op, ty, pos, aft, gd⟩ Kn K ⟨s, D, L⟩ :=
  let ⟨_, h1, h2⟩ := h; OW_q h1 hd h2
theorem WL_Y {op : Op} {d ty : Nat} {pos : String} {aft : Array Edge} {og : Oper} {rest : List Oper} {K : Exit → St → Prop} {s : List (Nat × Value)} {D : List Deferred} {L : List (Nat × Obj)} {j : Nat} {want b : Bool} {dg : Nat}
    (h : QW c s L ⟨some d, op, ty, pos, aft, some (j, want)⟩ fun v => WL c ops rest K ⟨(d, v) :: s, D, L⟩) (hj : ops[j]? = some og := by exact rfl) (hdg : og.dst = some dg := by exact rfl) (hb : look s dg = some (.bool b) := by exact rfl) (he : b = want := by first | with_reducible assumption | with_reducible rfl | decide)
    (hd : Nat.blt d c.N = true := by exact rfl) : WL c ops (⟨some d, op, ty, pos, aft, some (j, want)⟩ :: rest) K ⟨s, D, L⟩ :=
  WL_yes hj hdg hb he hd (OW_Q h hd)
theorem WR_Q {K : Exit → St → Prop} {Ls : List (Nat × Obj)} {m i : Nat} {p : Plan} {op : Op} {d ty : Nat} {pos : String} {aft : Array Edge} {s : List (Nat × Value)} {D : List Deferred} {L : List (Nat × Obj)} (ho : ops[i]? = some ⟨some d, op, ty, pos, aft, none⟩)
    (h : QW c s Ls ⟨some d, op, ty, pos, aft, none⟩ fun v => WR c ops K Ls m p ⟨(d, v) :: s, D, L⟩) (hd : Nat.blt d c.N = true := by exact rfl) : WR c ops K Ls m (.calm i p) ⟨s, D, L⟩ :=
  let ⟨_, h1, h2⟩ := h; WR_q ho h1 hd h2
theorem WR_Y {K : Exit → St → Prop} {Ls : List (Nat × Obj)} {m i j : Nat} {want : Bool} {og : Oper} {dg : Nat} {p : Plan} {op : Op} {d ty : Nat} {pos : String} {aft : Array Edge} {s : List (Nat × Value)} {D : List Deferred} {L : List (Nat × Obj)} (ho : ops[i]? = some ⟨some d, op, ty, pos, aft, some (j, want)⟩) {b : Bool}
    (h : QW c s Ls ⟨some d, op, ty, pos, aft, some (j, want)⟩ fun v => WR c ops K Ls m p ⟨(d, v) :: s, D, L⟩) (hj : ops[j]? = some og := by exact rfl) (hdg : og.dst = some dg := by exact rfl) (hb : look s dg = some (.bool b) := by exact rfl) (he : b = want := by first | with_reducible assumption | with_reducible rfl | decide) (hd : Nat.blt d c.N = true := by exact rfl) : WR c ops K Ls m (.calm i p) ⟨s, D, L⟩ :=
  let ⟨_, h1, h2⟩ := h; WR_yes ho hj hdg hb he h1 hd h2
theorem WL_N {op : Op} {d ty : Nat} {pos : String} {aft : Array Edge} {og : Oper} {rest : List Oper} {K : Exit → St → Prop} {s : List (Nat × Value)} {D : List Deferred} {L : List (Nat × Obj)} {j : Nat} {b : Bool} {dg : Nat} (h : WL c ops rest K ⟨(d, undef) :: s, D, L⟩)
    (hj : ops[j]? = some og := by exact rfl) (hdg : og.dst = some dg := by exact rfl) (hb : look s dg = some (.bool b) := by exact rfl) (he : b = false := by first | with_reducible assumption | with_reducible rfl | decide) (hd : Nat.blt d c.N = true := by exact rfl) : WL c ops (⟨some d, op, ty, pos, aft, some (j, true)⟩ :: rest) K ⟨s, D, L⟩ :=
  WL_no hj hdg hb he hd h
theorem WL_M {op : Op} {d ty : Nat} {pos : String} {aft : Array Edge} {og : Oper} {rest : List Oper} {K : Exit → St → Prop} {s : List (Nat × Value)} {D : List Deferred} {L : List (Nat × Obj)} {j : Nat} {b : Bool} {dg : Nat} (h : WL c ops rest K ⟨(d, undef) :: s, D, L⟩)
    (hj : ops[j]? = some og := by exact rfl) (hdg : og.dst = some dg := by exact rfl) (hb : look s dg = some (.bool b) := by exact rfl) (he : b = true := by first | with_reducible assumption | with_reducible rfl | decide) (hd : Nat.blt d c.N = true := by exact rfl) : WL c ops (⟨some d, op, ty, pos, aft, some (j, false)⟩ :: rest) K ⟨s, D, L⟩ :=
  WL_no hj hdg hb he hd h
theorem WR_N {K : Exit → St → Prop} {Ls : List (Nat × Obj)} {m i j : Nat} {og : Oper} {dg : Nat} {p : Plan} {op : Op} {d ty : Nat} {pos : String} {aft : Array Edge} {s : List (Nat × Value)} {D : List Deferred} {L : List (Nat × Obj)} (ho : ops[i]? = some ⟨some d, op, ty, pos, aft, some (j, true)⟩) {b : Bool} (hk : WR c ops K Ls m p ⟨(d, undef) :: s, D, L⟩)
    (hj : ops[j]? = some og := by exact rfl) (hdg : og.dst = some dg := by exact rfl) (hb : look s dg = some (.bool b) := by exact rfl) (he : b = false := by first | with_reducible assumption | with_reducible rfl | decide) (hdef : notDefer op = true := by exact rfl) (hd : Nat.blt d c.N = true := by exact rfl) : WR c ops K Ls m (.calm i p) ⟨s, D, L⟩ :=
  WR_no ho hj hdg hb he hdef hd hk
theorem WR_M {K : Exit → St → Prop} {Ls : List (Nat × Obj)} {m i j : Nat} {og : Oper} {dg : Nat} {p : Plan} {op : Op} {d ty : Nat} {pos : String} {aft : Array Edge} {s : List (Nat × Value)} {D : List Deferred} {L : List (Nat × Obj)} (ho : ops[i]? = some ⟨some d, op, ty, pos, aft, some (j, false)⟩) {b : Bool} (hk : WR c ops K Ls m p ⟨(d, undef) :: s, D, L⟩)
    (hj : ops[j]? = some og := by exact rfl) (hdg : og.dst = some dg := by exact rfl) (hb : look s dg = some (.bool b) := by exact rfl) (he : b = true := by first | with_reducible assumption | with_reducible rfl | decide) (hdef : notDefer op = true := by exact rfl) (hd : Nat.blt d c.N = true := by exact rfl) : WR c ops K Ls m (.calm i p) ⟨s, D, L⟩ :=
  WR_no ho hj hdg hb he hdef hd hk
end
section
variable {c : Cx} {s : List (Nat × Value)} {L : List (Nat × Obj)} {o : Oper}
theorem Qt_ldN {t b off n : Nat} [TAgg c.P t true] [TSize c.P t n] {x : Operand} {cs : Array Value} {E : TypeId} {fr : Nat × Nat} (ho : o.op = .load t x) (hx : ev s x = some (.pointer (some ⟨b, off, none⟩)) := by exact rfl) (hi : ∃ i : Nat, L[i]? = some (b, .cells cs E fr) := by first | exact ⟨0, rfl⟩ | exact ⟨1, rfl⟩ | exact ⟨2, rfl⟩ | exact ⟨3, rfl⟩ | exact ⟨4, rfl⟩ | exact ⟨5, rfl⟩ | exact ⟨6, rfl⟩ | exact ⟨7, rfl⟩ | exact ⟨8, rfl⟩ | exact ⟨9, rfl⟩ | exact ⟨10, rfl⟩ | exact ⟨11, rfl⟩ | exact ⟨12, rfl⟩ | exact ⟨13, rfl⟩ | exact ⟨_, by with_reducible assumption⟩) (hn : off + n ≤ cs.size := by first | assumption | omega) : Qt c s L o (.agg (cs.extract off (off + n))) :=
  let ⟨i, h⟩ := hi; Qt_loadN ho hx i h hn
theorem Qt_ldA {t b n : Nat} [TAgg c.P t true] [TSize c.P t n] {x : Operand} {cs : Array Value} {E : TypeId} {fr : Nat × Nat} (ho : o.op = .load t x) (hx : ev s x = some (.pointer (some ⟨b, 0, none⟩)) := by exact rfl) (hi : ∃ i : Nat, L[i]? = some (b, .cells cs E fr) := by first | exact ⟨0, rfl⟩ | exact ⟨1, rfl⟩ | exact ⟨2, rfl⟩ | exact ⟨3, rfl⟩ | exact ⟨4, rfl⟩ | exact ⟨5, rfl⟩ | exact ⟨6, rfl⟩ | exact ⟨7, rfl⟩ | exact ⟨8, rfl⟩ | exact ⟨9, rfl⟩ | exact ⟨10, rfl⟩ | exact ⟨11, rfl⟩ | exact ⟨12, rfl⟩ | exact ⟨13, rfl⟩ | exact ⟨_, by with_reducible assumption⟩) (hn : cs.size = n := by first | with_reducible assumption | rfl | assumption) : Qt c s L o (.agg cs) :=
  let ⟨i, h⟩ := hi; Qt_loadAll ho hx i h hn
theorem OW_st1 {Kn : St → Prop} {K : Exit → St → Prop} {D : List Deferred} {L' : List (Nat × Obj)} {t b off : Nat} [TAgg c.P t false] [TSize c.P t 1] {x y : Operand} {cs : Array Value} {E : TypeId} {v : Value} (ho : o.op = .store t x y) (hk : Kn ⟨s, D, L'⟩) (hdst : o.dst = none := by exact rfl) (hx : ev s x = some (.pointer (some ⟨b, off, none⟩)) := by exact rfl) (hy : ev s y = some v := by exact rfl) (h1 : v.oneCell' = true := by exact rfl)
    (hi : ∃ i : Nat, L[i]? = some (b, .cells cs E (0, 0)) ∧ setL L i (b, .cells (cs.setIfInBounds off v) E (0, 0)) = some L' := by first | exact ⟨0, rfl, rfl⟩ | exact ⟨1, rfl, rfl⟩ | exact ⟨2, rfl, rfl⟩ | exact ⟨3, rfl, rfl⟩ | exact ⟨4, rfl, rfl⟩ | exact ⟨5, rfl, rfl⟩ | exact ⟨6, rfl, rfl⟩ | exact ⟨7, rfl, rfl⟩ | exact ⟨8, rfl, rfl⟩ | exact ⟨9, rfl, rfl⟩ | exact ⟨10, rfl, rfl⟩ | exact ⟨11, rfl, rfl⟩ | exact ⟨12, rfl, rfl⟩ | exact ⟨13, rfl, rfl⟩) (hl : off < cs.size := by first | with_reducible assumption | decide | assumption | (simp; done) | (simp; omega) | omega) : OW c o Kn K ⟨s, D, L⟩ :=
  let ⟨i, h2, h3⟩ := hi; OW_store1 ho hdst hx hy h1 i h2 hl h3 hk
theorem OW_stA {Kn : St → Prop} {K : Exit → St → Prop} {D : List Deferred} {L' : List (Nat × Obj)} {t b n : Nat} [TAgg c.P t true] [TSize c.P t n] {x y : Operand} {cs vs : Array Value} {E : TypeId} (ho : o.op = .store t x y) (hk : Kn ⟨s, D, L'⟩) (hdst : o.dst = none := by exact rfl) (hx : ev s x = some (.pointer (some ⟨b, 0, none⟩)) := by exact rfl) (hy : ev s y = some (.agg vs) := by exact rfl)
    (hi : ∃ i : Nat, L[i]? = some (b, .cells cs E (0, 0)) ∧ setL L i (b, .cells vs E (0, 0)) = some L' := by first | exact ⟨0, rfl, rfl⟩ | exact ⟨1, rfl, rfl⟩ | exact ⟨2, rfl, rfl⟩ | exact ⟨3, rfl, rfl⟩ | exact ⟨4, rfl, rfl⟩ | exact ⟨5, rfl, rfl⟩ | exact ⟨6, rfl, rfl⟩ | exact ⟨7, rfl, rfl⟩ | exact ⟨8, rfl, rfl⟩ | exact ⟨9, rfl, rfl⟩ | exact ⟨10, rfl, rfl⟩ | exact ⟨11, rfl, rfl⟩ | exact ⟨12, rfl, rfl⟩ | exact ⟨13, rfl, rfl⟩) (hl : cs.size = n := by first | rfl | decide | assumption | (simp; done) | (simp; omega) | omega) (hn : vs.size = n := by first | rfl | decide | assumption | (simp; done) | (simp; omega) | omega) (h1 : (vs.toList.all fun v => v.oneCell') = true := by first | with_reducible assumption | rfl | assumption) : OW c o Kn K ⟨s, D, L⟩ :=
  let ⟨i, h2, h3⟩ := hi; OW_storeAll ho hdst hx hy hn h1 i h2 hl h3 hk
theorem OW_stN {Kn : St → Prop} {K : Exit → St → Prop} {D : List Deferred} {L' : List (Nat × Obj)} {t b off n : Nat} [TAgg c.P t true] [TSize c.P t n] {x y : Operand} {cs vs : Array Value} {E : TypeId} (ho : o.op = .store t x y) (hk : Kn ⟨s, D, L'⟩) (hdst : o.dst = none := by exact rfl) (hx : ev s x = some (.pointer (some ⟨b, off, none⟩)) := by exact rfl) (hy : ev s y = some (.agg vs) := by exact rfl)
    (hi : ∃ i : Nat, L[i]? = some (b, .cells cs E (0, 0)) ∧ setL L i (b, .cells (putR cs off vs) E (0, 0)) = some L' := by first | exact ⟨0, rfl, rfl⟩ | exact ⟨1, rfl, rfl⟩ | exact ⟨2, rfl, rfl⟩ | exact ⟨3, rfl, rfl⟩ | exact ⟨4, rfl, rfl⟩ | exact ⟨5, rfl, rfl⟩ | exact ⟨6, rfl, rfl⟩ | exact ⟨7, rfl, rfl⟩ | exact ⟨8, rfl, rfl⟩ | exact ⟨9, rfl, rfl⟩ | exact ⟨10, rfl, rfl⟩ | exact ⟨11, rfl, rfl⟩ | exact ⟨12, rfl, rfl⟩ | exact ⟨13, rfl, rfl⟩) (hl : off + n ≤ cs.size := by first | assumption | omega) (hn : vs.size = n := by first | rfl | decide | assumption | (simp; done) | (simp; omega) | omega) (h1 : (vs.toList.all fun v => v.oneCell') = true := by first | with_reducible assumption | rfl | assumption) : OW c o Kn K ⟨s, D, L⟩ :=
  let ⟨i, h2, h3⟩ := hi; OW_storeN ho hdst hx hy hn h1 i h2 hl h3 hk
end
section
variable {c : Cx} {ops : Array Oper}
theorem WC_draw_sub {K : Exit → St → Prop} {σ : St} {id : Nat} {Ls : List (Nat × Obj)} (m : Nat) (p : Plan) (hm : c.P.follows .mixedOrders = true)
    (hok : (Region.noSelect ops && lateOk ops m && planOk ops m p ops.size (Array.replicate ops.size false)) = true) (hs : Ls.Sublist σ.L) (h : WR c ops K Ls m p σ) : WC c (.region id ops true) K σ :=
  WC_draw Ls m p hm hok (fun hn => ⟨hn.sublist (hs.map _), fun _ h => hs.subset h⟩) h
theorem WC_mono {code : Code} {K K' : Exit → St → Prop} {σ : St} (h : WC c code K σ) (hk : ∀ e σ', K e σ' → K' e σ') : WC c code K' σ := fun a w ha => Go.wpIn_mono (h a w ha) fun _ _ _ hl => lift_mono hk hl
theorem WC_lessen {code : Code} {K : Exit → St → Prop} {σ σ' : St} (hs : SubS σ'.s σ.s) (hD : σ'.D = σ.D) (hL : σ'.L.Sublist σ.L) (h : WC c code K σ') : WC c code K σ := by
  obtain ⟨s, D, L⟩ := σ; obtain ⟨s', D', L'⟩ := σ'
  cases hD
  exact WC_weaken s' hs (WC_drop hL h)
end
end Go.Proofs.YtekmmhmhcpaiaaaGreat
