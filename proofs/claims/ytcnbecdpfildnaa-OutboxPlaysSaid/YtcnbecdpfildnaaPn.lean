/-
  Panics: what slots hold behind them; calls that panic; deferred calls, and what they recover. It proves no statement by itself. It holds for every program.
-/
import Derived.Test.YtcnbecdpfildnaaDr2
import Derived.RecoverIn
namespace Go.Proofs.Ytcnbecdpfildnaa
open Go.RowKit

/-! ### the slots that a region does not write -/
def RegS (ops : Array Oper) (a0 a : Act) : Prop := ∀ t, (∀ o ∈ ops.toList, o.dst ≠ some t) → a.tmps.getD t undef = a0.tmps.getD t undef
def PanI (I : Act → Prop) (Q : Exit → Act → World → Prop) : Exit → Act → World → Prop
  | .panic ch, a, w => Q (.panic ch) a w ∧ I a
  | e, a, w => Q e a w

theorem RegS.put {ops : Array Oper} {a0 a : Act} {o : Oper} (h : RegS ops a0 a) (ho : o ∈ ops.toList) (v : Value) : RegS ops a0 (a.put o.dst v) := fun t ht => by
  have hne := ht o ho
  rw [← h t ht]
  cases hd : o.dst with
  | none => rfl
  | some d =>
    have hdt : d ≠ t := fun e => hne (by rw [hd, e])
    simp [Act.put, Array.getElem?_setIfInBounds_ne hdt]

section
variable {F : Fence} {n : Nat} {P : Program} {Q : Exit → Act → World → Prop} {ops : Array Oper} {a0 : Act}
theorem wpIn_keepS {o : Oper} {a : Act} {w : World} {next : Act → World → Prop} (ho : o ∈ ops.toList) (hI : RegS ops a0 a) (h : o.wpIn F n P a w next Q) : o.wpIn F n P a w (fun a' w' => next a' w' ∧ RegS ops a0 a') (PanI (RegS ops a0) Q) := by
  unfold Oper.wpIn at *
  refine ⟨h.1, ?_⟩
  have hh := h.2
  generalize (o.semAt F.round a.eval).run P w = r at *
  cases r with
  | ok x w' =>
    cases x <;> simp only [Oper.uponIn] at hh ⊢
    case value u => exact ⟨hh, hI.put ho u⟩
    case skip => exact ⟨hh, hI.put ho undef⟩
    case defer d => exact ⟨hh, RegS.put (a := { a with defers := d :: a.defers }) hI ho undef⟩
    case enter f args =>
      refine ⟨hh.1, CallsIn.mono hh.2 fun e w'' he => ?_⟩
      cases e with
      | returned u => exact ⟨he, hI.put ho u⟩
      | panicked ch => exact ⟨he, hI⟩
      | outgrown => exact he
    case row row args => exact ⟨hh.1, RowsIn.mono hh.2 fun u w'' he => ⟨he, hI.put ho u⟩⟩
    case round l f tmps assign body =>
      refine ⟨hh.1, RoundIn.mono hh.2 fun e w'' he => ?_⟩
      cases e with
      | returned u => exact ⟨he, hI.put ho u⟩
      | panicked ch => exact ⟨he, hI⟩
      | outgrown => exact he
  | halt x w' =>
    cases x <;> simp only [Oper.uponIn] at hh ⊢
    case panic u => exact ⟨hh, hI⟩

theorem wpListIn_keepS : ∀ (l : List Oper) (a : Act) (w : World), (∀ o ∈ l, o ∈ ops.toList) → RegS ops a0 a → wpListIn F n P ops Q l a w → wpListIn F n P ops (PanI (RegS ops a0) Q) l a w
  | [], _, _, _, _, h => h
  | o :: r, a, w, hl, hI, h => by
    have ho := hl o List.mem_cons_self
    have hr := fun p hp => hl p (List.mem_cons_of_mem _ hp)
    simp only [wpListIn] at h ⊢
    split
    · rename_i hw
      rw [if_pos hw] at h
      exact Oper.wpIn_mono (fun a' w' h' => wpListIn_keepS r a' w' hr h'.2 h'.1) (wpIn_keepS ho hI h)
    · rename_i hw
      rw [if_neg hw] at h
      exact ⟨h.1, wpListIn_keepS r _ w hr (hI.put ho undef) h.2⟩

theorem wpOpIn_keepS {i : Nat} {Kn : Act → World → Prop} {a : Act} {w : World} (hI : RegS ops a0 a) (h : wpOpIn F n P ops Q i Kn a w) : wpOpIn F n P ops (PanI (RegS ops a0) Q) i (fun a' w' => Kn a' w' ∧ RegS ops a0 a') a w := by
  unfold wpOpIn at *
  cases ho : ops[i]? with
  | none => rw [ho] at h; exact ⟨h, hI⟩
  | some o =>
    rw [ho] at h
    have hm : o ∈ ops.toList := by
      obtain ⟨h1, h2⟩ := Array.getElem?_eq_some_iff.1 ho
      rw [← h2]; simp
    simp only at h ⊢
    split
    · rename_i hw
      rw [if_pos hw] at h
      exact wpIn_keepS hm hI h
    · rename_i hw
      rw [if_neg hw] at h
      exact ⟨h.1, h.2, hI.put hm undef⟩

theorem wpAnyIn_keepS {md : Region.Mode} : ∀ (fuel : Nat) (listed : Array Bool) (a : Act) (w : World), RegS ops a0 a → wpAnyIn F n P md ops Q fuel listed a w → wpAnyIn F n P md ops (PanI (RegS ops a0) Q) fuel listed a w
  | 0, _, _, _, _, h => h
  | fuel + 1, _, _, _, hI, h => ⟨h.1, fun i hi => wpOpIn_mono (fun a' w' h' => wpAnyIn_keepS fuel _ a' w' h'.2 h'.1) (wpOpIn_keepS hI (h.2 i hi))⟩
end

/-- The slots that a region does not write. -/
def keepS (ops : Array Oper) (s : List (Nat × Value)) : List (Nat × Value) := s.filter fun p => ops.toList.all fun o => decide (o.dst ≠ some p.1)
theorem look_keepS {ops : Array Oper} {t : Nat} {v : Value} : ∀ {s : List (Nat × Value)}, look (keepS ops s) t = some v ↔ look s t = some v ∧ ∀ o ∈ ops.toList, o.dst ≠ some t
  | [] => by simp [keepS, look]
  | (k, u) :: r => by
    have ih := look_keepS (ops := ops) (t := t) (v := v) (s := r)
    unfold keepS at ih ⊢
    rw [List.filter_cons, look_cons]
    by_cases hk : (ops.toList.all fun o => decide (o.dst ≠ some k)) = true
    · simp only [hk, if_true]
      rw [look_cons]
      by_cases e : k = t
      · subst e
        rw [if_pos rfl, if_pos rfl]
        simp only [List.all_eq_true, decide_eq_true_eq] at hk
        exact ⟨fun h => ⟨h, hk⟩, fun h => h.1⟩
      · rw [if_neg e, if_neg e]; exact ih
    · simp only [hk, Bool.false_eq_true, if_false]
      by_cases e : k = t
      · subst e
        rw [if_pos rfl, ih]
        simp only [List.all_eq_true, decide_eq_true_eq] at hk
        exact ⟨fun h => absurd h.2 hk, fun h => absurd h.2 hk⟩
      · rw [if_neg e]; exact ih

/-- What an operation does not write, it leaves. -/
theorem wpIn_slots {F : Fence} {n : Nat} {P : Program} {Q : Exit → Act → World → Prop} {o : Oper} {a : Act} {w : World} {next : Act → World → Prop} (h : o.wpIn F n P a w next Q) : o.wpIn F n P a w (fun a' w' => next a' w' ∧ RegS #[o] a a') Q := by
  have ho : o ∈ #[o].toList := by simp
  have hI : RegS #[o] a a := fun _ _ => rfl
  unfold Oper.wpIn at *
  refine ⟨h.1, ?_⟩
  have hh := h.2
  generalize (o.semAt F.round a.eval).run P w = r at *
  cases r with
  | ok x w' =>
    cases x <;> simp only [Oper.uponIn] at hh ⊢
    case value u => exact ⟨hh, hI.put ho u⟩
    case skip => exact ⟨hh, hI.put ho undef⟩
    case defer d => exact ⟨hh, RegS.put (a := { a with defers := d :: a.defers }) hI ho undef⟩
    case enter f args =>
      refine ⟨hh.1, CallsIn.mono hh.2 fun e w'' he => ?_⟩
      cases e with
      | returned u => exact ⟨he, hI.put ho u⟩
      | panicked ch => exact he
      | outgrown => exact he
    case row row args => exact ⟨hh.1, RowsIn.mono hh.2 fun u w'' he => ⟨he, hI.put ho u⟩⟩
    case round l f tmps assign body =>
      refine ⟨hh.1, RoundIn.mono hh.2 fun e w'' he => ?_⟩
      cases e with
      | returned u => exact ⟨he, hI.put ho u⟩
      | panicked ch => exact he
      | outgrown => exact he
  | halt x w' =>
    cases x <;> simp only [Oper.uponIn] at hh ⊢
    case panic u => exact hh
theorem look_append : ∀ {s1 s2 : List (Nat × Value)} {t : Nat}, look (s1 ++ s2) t = match look s1 t with
    | some v => some v
    | none => look s2 t
  | [], s2, t => by simp [look]
  | (k, v) :: r, s2, t => by
    rw [List.cons_append, look_cons, look_cons]
    by_cases e : k = t
    · simp [e]
    · simp only [if_neg e]; exact look_append
theorem OW.frame {c : Cx} {o : Oper} {Kn : St → Prop} {K : Exit → St → Prop} {σ : St} (h : OW c o Kn K σ) : OW c o (fun σ' => ∃ s1, Kn ⟨s1, σ'.D, σ'.L⟩ ∧ σ'.s = keepS #[o] σ.s ++ s1) K σ := fun a w ha => by
  refine Oper.wpIn_mono (fun a' w' h' => ?_) (wpIn_slots (h a w ha))
  obtain ⟨⟨σ1, h1, h2⟩, hR⟩ := h'
  refine ⟨⟨keepS #[o] σ.s ++ σ1.s, σ1.D, σ1.L⟩, ⟨h1.size, fun t v hv => ?_, h1.defers, h1.mem⟩, σ1.s, h2, rfl⟩
  rw [look_append] at hv
  split at hv
  · rename_i u hu
    cases hv
    obtain ⟨g1, g2⟩ := look_keepS.1 hu
    rw [hR t g2]
    exact ha.slots t _ g1
  · exact h1.slots t v hv
section
variable {c : Cx}
theorem lift_of_panI {ops : Array Oper} {K0 K : Exit → St → Prop} {σ : St} {a0 : Act} {w0 : World} (ha : Holds c.g c.N σ a0 w0) (hk : ∀ e σ', (∀ ch, e ≠ .panic ch) → K0 e σ' → K e σ') (hp : ∀ ch D L, K0 (.panic ch) ⟨[], D, L⟩ → K (.panic ch) ⟨keepS ops σ.s, D, L⟩) {e : Exit} {a : Act} {w : World} (h : PanI (RegS ops a0) (liftO c K0) e a w) : lift c K e a w := by
  cases e with
  | panic ch =>
    obtain ⟨⟨D, L, h1, h2⟩, h3⟩ := h
    refine ⟨⟨keepS ops σ.s, D, L⟩, ⟨h1.size, fun t v hv => ?_, h1.defers, h1.mem⟩, hp ch D L h2⟩
    obtain ⟨h4, h5⟩ := look_keepS.1 hv
    rw [h3 t h5]; exact ha.slots t v h4
  | normal => obtain ⟨σ', h1, h2⟩ := h; exact ⟨σ', h1, hk _ _ (by simp) h2⟩
  | ret => obtain ⟨σ', h1, h2⟩ := h; exact ⟨σ', h1, hk _ _ (by simp) h2⟩
  | exit id => obtain ⟨σ', h1, h2⟩ := h; exact ⟨σ', h1, hk _ _ (by simp) h2⟩
  | goto l => obtain ⟨σ', h1, h2⟩ := h; exact ⟨σ', h1, hk _ _ (by simp) h2⟩
  | outgrown => obtain ⟨σ', h1, h2⟩ := h; exact ⟨σ', h1, hk _ _ (by simp) h2⟩

theorem WC_regionP {id : Nat} {l : List Oper} {K0 K : Exit → St → Prop} {σ : St} (hk : ∀ e σ', (∀ ch, e ≠ .panic ch) → K0 e σ' → K e σ') (hp : ∀ ch D L, K0 (.panic ch) ⟨[], D, L⟩ → K (.panic ch) ⟨keepS l.toArray σ.s, D, L⟩) (h : WL c l.toArray l K0 σ) : WC c (.region id l.toArray false) K σ := fun a w ha =>
  Go.wpIn_mono (wpIn_region_lit (wpListIn_keepS l a w (fun _ h => by simpa using h) (fun _ _ => rfl) (h a w ha))) fun _ _ _ hl => lift_of_panI ha hk hp hl

theorem WC_drawP {ops : Array Oper} {K0 K : Exit → St → Prop} {σ : St} {id : Nat} (Ls : List (Nat × Obj)) (m : Nat) (p : Plan) (hm : c.P.follows .mixedOrders = true)
    (hok : (Region.noSelect ops && lateT ops.toList m && planOk ops m p ops.size (Array.replicate ops.size false)) = true) (hcm : calmsOk p.musts p = true) (hsub : Ls.Sublist σ.L) (hk : ∀ e σ', (∀ ch, e ≠ .panic ch) → K0 e σ' → K e σ') (hp : ∀ ch D L, K0 (.panic ch) ⟨[], D, L⟩ → K (.panic ch) ⟨keepS ops σ.s, D, L⟩) (h : WS c ops K0 Ls σ.L m p.musts true p σ) : WC c (.region id ops true) K σ := fun a w ha => by
  simp only [Bool.and_eq_true] at hok
  have ha' : Holds c.g c.N σ a { w with drawn := w.drawn + 1 } := ha.mem' ha.mem.drew
  exact Go.wpIn_mono (wpIn_region_any hm (wpAnyIn_keepS _ _ _ _ (fun _ _ => rfl) (AnyK.any _ _ _ _ (WS_any hok.1.1 hok.1.2 (ha.mem.nodup.sublist (hsub.map _)) (fun w hw => hw.sublist hsub) p true _ _ σ (fun _ h => h) hcm (fun _ j _ => by
    simp [Array.getElem?_replicate]; split <;> rfl) (fun j o _ hj => by
    rw [Array.getD_eq_getD_getElem?, Array.getElem?_replicate] at hj
    split at hj <;> cases hj) (by simp) hok.2 h a _ ha' (fun _ => ha'.mem.sublist hsub) (fun _ => ha'.mem))))) fun _ _ _ hl => lift_of_panI ha hk hp hl
end

/-! ### functions that panic; deferred calls -/
abbrev pan (v : Value) : List PanicEntry := [{ v, recovered := false }]
/-- Function f, called with these arguments where memory holds L, panics. -/
def FnP (P : Program) (f : FuncId) (args : List Value) (L : List (Nat × Obj)) (R : Value → List (Nat × Obj) → Prop) : Prop :=
  ∀ g w, Mem g L w → Calls P f args.toArray w fun e w' => ∃ v L', e = .panicked (pan v) ∧ Mem g L' w' ∧ R v L'
/-- As a deferred call of a frame that leaves so. -/
def FnD (P : Program) (f : FuncId) (args : List Value) (L : List (Nat × Obj)) (u : FrameMode) (R : FrameMode → List (Nat × Obj) → Prop) : Prop :=
  ∀ g w n, Mem g L w → CallsDIn Fence.wide n P f args.toArray u w fun e u' w' => ∃ v L', e = .returned v ∧ Mem g L' w' ∧ R u' L'

section
variable {c : Cx} {o : Oper} {Kn : St → Prop} {K : Exit → St → Prop} {σ : St}
theorem OW_callvP {f : FuncId} {x : Operand} {A B : Array Value} {args : Array Operand} {tys : Array TypeId} [hf : FCall c.P f] {vs : List Value} {R : Value → List (Nat × Obj) → Prop}
    (ho : o.op = .call { callee := .value x, args := args, argTypes := tys }) (hx : ev σ.s x = some (.func (.func f) A B)) (ha : evs σ.s args.toList = some vs) (hF : FnP c.P f (A.toList ++ vs ++ B.toList) σ.L R) (hk : ∀ v L', R v L' → K (.panic (pan v)) ⟨[], σ.D, L'⟩) : OW c o Kn K σ := fun a w hH => by
  refine ⟨fun _ _ => trivial, ?_⟩
  have hargs : args.map a.eval = vs.toArray := by
    apply Array.ext'
    simpa using hH.evs ha
  have hr : (execOp a.eval o).run c.P w = .ok (.enter f (A.toList ++ vs ++ B.toList).toArray) w := by
    have e : (A.toList ++ vs ++ B.toList).toArray = A ++ vs.toArray ++ B := by apply Array.ext'; simp
    rw [e]
    simp [execOp, ho, resolve, Deferred.ofValue, hH.ev hx, hargs, invoke, hf.h]
  rw [Oper.semAt_eq _ _ _ (by rw [ho]; intro cc h; cases h), hr]
  refine ⟨fun h => by simp at h, (callsIn_fw c.r _ (hF c.g w hH.mem)).mono fun e w' ⟨v, L', h1, h2, h3⟩ => ?_⟩
  subst h1
  exact ⟨σ.D, L', ⟨hH.size, (fun t u hu => by cases hu), hH.defers, h2⟩, hk v L' h3⟩

theorem OW_panic {x : Operand} {t : TypeId} {v : Value} (ho : o.op = .panic x) (hx : ev σ.s x = some (.iface t v)) (hk : K (.panic (pan (.iface t v))) ⟨[], σ.D, σ.L⟩) : OW c o Kn K σ := fun a w hH => by
  refine ⟨fun _ _ => trivial, ?_⟩
  have hr : (execOp a.eval o).run c.P w = .halt (.panic (.iface t v)) w := by
    simp [execOp, ho, Instr.panic, hH.ev hx, goPanic]
  rw [Oper.semAt_eq _ _ _ (by rw [ho]; intro cc h; cases h), hr]
  exact ⟨σ.D, σ.L, ⟨hH.size, (fun t u hu => by cases hu), hH.defers, hH.mem⟩, hk⟩

/-- A deferred call is laid by. -/
theorem OW_defer {f : FuncId} {x : Operand} {A B : Array Value} {args : Array Operand} {tys : Array TypeId} {vs : List Value} (hr : c.r = none)
    (ho : o.op = .defer { callee := .value x, args := args, argTypes := tys }) (hx : ev σ.s x = some (.func (.func f) A B)) (ha : evs σ.s args.toList = some vs) (hd : dok c.N o.dst = true) (hk : Kn (St.put ⟨σ.s, { target := .fn (.func f) B, args := (A.toList ++ vs).toArray } :: σ.D, σ.L⟩ o.dst undef)) : OW c o Kn K σ := fun a w hH => by
  refine ⟨fun _ _ => trivial, ?_⟩
  have hargs : args.map a.eval = vs.toArray := by
    apply Array.ext'
    simpa using hH.evs ha
  have hrun : (o.semAt (Fw c.r).round a.eval).run c.P w = .ok (.defer { target := .fn (.func f) B, args := (A.toList ++ vs).toArray }) w := by
    have e : (A.toList ++ vs).toArray = A ++ vs.toArray := by apply Array.ext'; simp
    rw [e, hr]
    show (execOp a.eval o).run c.P w = _
    simp [execOp, ho, resolve, Deferred.ofValue, hH.ev hx, hargs]
  rw [hrun]
  refine ⟨_, ?_, hk⟩
  refine Holds.put (σ := ⟨σ.s, { target := .fn (.func f) B, args := (A.toList ++ vs).toArray } :: σ.D, σ.L⟩) (a := { a with defers := { target := .fn (.func f) B, args := (A.toList ++ vs).toArray } :: a.defers }) ⟨hH.size, hH.slots, ?_, hH.mem⟩ hd undef
  show _ :: a.defers = _
  rw [hH.defers]
end

/-! ### a function's end -/
/-- The deferred calls are done, one behind the other; then the function returns, or panics on. -/
def LeavS (c : Cx) (fn : Func) (s : List (Nat × Value)) (Rr Rp : Value → List (Nat × Obj) → Prop) : List Deferred → FrameMode → List (Nat × Obj) → Prop
  | [], .returning, L => ∃ v Lx, Res c fn ⟨s, [], L⟩ v ∧ Lx.Sublist L ∧ Rr v Lx
  | [], .panicking ch, L => ∃ v, ch = pan v ∧ Rp v L
  | [], .run, _ => False
  | d :: ds, u, L => u ≠ .run ∧ ((∃ r i L1, d = markD r ∧ L[i]? = some (r, .deferred (some [])) ∧ setL L i (r, .deferred none) = some L1 ∧ LeavS c fn s Rr Rp ds u L1) ∨
      (∃ f A B, d = { target := .fn (.func f) B, args := A } ∧ FCall c.P f ∧ FnD c.P f (A.toList ++ B.toList) L u fun u' L' => LeavS c fn s Rr Rp ds (settle u') L'))

def EndR (g : World) (Rr Rp : Value → List (Nat × Obj) → Prop) (e : Ending) (w' : World) : Prop := (∃ v L', e = .returned v ∧ Mem g L' w' ∧ Rr v L') ∨ ∃ v L', e = .panicked (pan v) ∧ Mem g L' w' ∧ Rp v L'

theorem LeavS.leaves {P : Program} {g : World} {N : Nat} {fn : Func} {Rr Rp : Value → List (Nat × Obj) → Prop} : ∀ (ds : List Deferred) (u : FrameMode) (s : List (Nat × Value)) (L : List (Nat × Obj)) (a : Act) (w : World), Holds g N ⟨s, [], L⟩ { a with defers := [] } w → LeavS ⟨P, g, N, 0, none⟩ fn s Rr Rp ds u L → LeavesInM Fence.wide 0 P fn a.tmps (EndR g Rr Rp) ds u w
  | [], .returning, s, L, a, w, hH, ⟨v, Lx, h1, h2, h3⟩ => ⟨v, h1 { a with defers := [] } w hH, .inl ⟨v, Lx, rfl, hH.mem.sublist h2, h3⟩⟩
  | [], .panicking ch, s, L, a, w, hH, ⟨v, h1, h2⟩ => .inr ⟨v, L, by rw [h1], hH.mem, h2⟩
  | [], .run, _, _, _, _, _, h => h.elim
  | d :: ds, u, s, L, a, w, hH, ⟨hu, .inl ⟨r, i, L1, hd, hi, hs, hM⟩⟩ => by
    subst hd
    have hm' := hH.mem.putObj hi (.deferred none)
    rw [setL_eq hs] at hm'
    exact ⟨hu, .inl ⟨r, w.putObj r (.deferred none), rfl, run_takeDeferred (hH.mem.at_ hi), LeavS.leaves ds u s L1 a _ (hH.mem' hm') hM⟩⟩
  | d :: ds, u, s, L, a, w, hH, ⟨hu, .inr ⟨f, A, B, hd, hf, hD⟩⟩ => by
    subst hd
    refine ⟨hu, .inr ⟨fun h => by simp [Fence.wide] at h, .func f, B, f, A ++ B, rfl, by simp [invoke, hf.h], fun _ _ => trivial, ?_⟩⟩
    have h1 := hD g w (0 - 1) hH.mem
    have e : (A.toList ++ B.toList).toArray = A ++ B := by apply Array.ext'; simp
    rw [e] at h1
    refine h1.mono fun e u' w' ⟨v, L', h2, h3, h4⟩ => ?_
    subst h2
    exact LeavS.leaves ds (settle u') s L' a w' (hH.mem' h3) h4

def postL (c : Cx) (fn : Func) (Rr Rp : Value → List (Nat × Obj) → Prop) : Exit → St → Prop
  | .normal, σ | .ret, σ => LeavS c fn σ.s Rr Rp σ.D .returning σ.L
  | .panic ch, σ => LeavS c fn σ.s Rr Rp σ.D (.panicking ch) σ.L
  | _, _ => False

theorem holds_init {g w : World} {N n : Nat} {args : List Value} {L : List (Nat × Obj)} (hN : n = N) (hl : Nat.ble args.length N = true) (hm : Mem g L w) : Holds g N ⟨initS 0 args, [], L⟩ { tmps := args.toArray ++ Array.replicate (n - args.toArray.size) undef, defers := [] } w := by
  have hle : args.length ≤ N := Nat.le_of_ble_eq_true hl
  refine ⟨?_, ?_, rfl, hm⟩
  · simp only [hN, Array.size_append, List.size_toArray, Array.size_replicate]; omega
  · intro t v hv
    obtain ⟨_, h2⟩ := look_initS args 0 t v hv
    simp only [Nat.sub_zero] at h2
    have hlt : t < args.length := (List.getElem?_eq_some_iff.1 h2).1
    simp [Array.getElem?_append, hlt] at h2 ⊢
    simp [h2]

section
variable {P : Program} {f : FuncId} {fn : Func} {code : Code} {args : List Value} {L : List (Nat × Obj)} {N : Nat}
theorem enterL {Rr Rp : Value → List (Nat × Obj) → Prop} (hf : P.funcs[f]? = some fn) (hb : fn.body = some code) (hN : fn.ntmps = N) (hl : Nat.ble args.length N = true)
    (h : ∀ g, WC ⟨P, g, N, 0, none⟩ code (postL ⟨P, g, N, 0, none⟩ fn Rr Rp) ⟨initS 0 args, [], L⟩) : ∀ g w, Mem g L w → Calls P f args.toArray w (EndR g Rr Rp) := fun g w hm => by
  refine (callsIn_wide (n := 0)).1 (callsIn_of_wp_marks hf hb trivial (Go.wpIn_mono (h g _ w (holds_init hN hl hm)) fun e a' w' hl => ?_) rfl)
  obtain ⟨σ, h1, h2⟩ := hl
  have key : ∀ u, LeavS ⟨P, g, N, 0, none⟩ fn σ.s Rr Rp σ.D u σ.L → LeavesInM Fence.wide 0 P fn a'.tmps (EndR g Rr Rp) a'.defers u w' := fun u hu => by
    rw [h1.defers]; exact LeavS.leaves σ.D u σ.s σ.L a' w' ⟨h1.size, h1.slots, rfl, h1.mem⟩ hu
  cases e with
  | normal => exact key _ h2
  | ret => exact key _ h2
  | panic ch => exact key _ h2
  | exit id => exact h2.elim
  | goto l => exact h2.elim
  | outgrown => exact h2.elim

/-- A deferred call of a function that does not recover. -/
theorem FnD_enter {u : FrameMode} {R : FrameMode → List (Nat × Obj) → Prop} (hf : P.funcs[f]? = some fn) (hb : fn.body = some code) (hN : fn.ntmps = N) (hl : Nat.ble args.length N = true)
    (h : ∀ g n, WC ⟨P, g, N, n, none⟩ code (postK ⟨P, g, N, n, none⟩ fn fun _ L' => R u L') ⟨initS 0 args, [], L⟩) : FnD P f args L u R := fun g w n hm => by
  refine CallsDIn.mono (callsDIn_of_wp (R := fun e w' => ∃ v L', e = .returned v ∧ Mem g L' w' ∧ R u L') hf hb trivial (Go.wpIn_mono (h g n _ w (holds_init hN hl hm)) fun e a' w' hl => ?_) rfl) fun e u' w' ⟨h1, v, L', h2, h3, h4⟩ => ⟨v, L', h2, h3, by rw [h1]; exact h4⟩
  obtain ⟨σ, h1, h2⟩ := hl
  cases e with
  | normal => obtain ⟨h2, v, Lx, h3, hs, h4⟩ := h2; exact ⟨by rw [h1.defers, h2], v, h3 a' w' h1, v, Lx, rfl, h1.mem.sublist hs, h4⟩
  | ret => obtain ⟨h2, v, Lx, h3, hs, h4⟩ := h2; exact ⟨by rw [h1.defers, h2], v, h3 a' w' h1, v, Lx, rfl, h1.mem.sublist hs, h4⟩
  | panic ch => exact h2.elim
  | exit id => exact h2.elim
  | goto l => exact h2.elim
  | outgrown => exact h2.elim

/-- What recover gives to a deferred call of a frame that leaves so, and how that leaves then. -/
def Recov : FrameMode → Value → FrameMode → Prop
  | .returning, rv, u' => rv = .nilIface ∧ u' = .returning
  | .panicking [{ v, recovered := false, goexit := false }], rv, u' => rv = v ∧ u' = .panicking [{ v, recovered := true }]
  | _, _, _ => False

/-- Operations, one behind the other, that leave memory as it is. -/
def QS (c : Cx) (L : List (Nat × Obj)) : List Oper → List (Nat × Value) → List (Nat × Value) → Prop
  | [], s, s' => s' = s
  | o :: r, s, s' => ∃ v, o.guard = none ∧ dok c.N o.dst = true ∧ Qt c s L o v ∧ QS c L r (St.put ⟨s, [], []⟩ o.dst v).s s'
theorem put_s (σ : St) (d : Option Nat) (v : Value) : (σ.put d v).s = (St.put ⟨σ.s, [], []⟩ d v).s := by cases d <;> rfl
theorem wpOpsSIn_calm {F : Fence} {n : Nat} {P : Program} {g : World} {N m : Nat} {ops : Array Oper} {Q : Exit → Act → List Frame → World → Prop} {cs : List Frame} {w : World} {D : List Deferred} {L : List (Nat × Obj)} (hF : ∀ f, F.fn f) {s' : List (Nat × Value)} :
    ∀ (r : List Oper) (k : Nat) (a : Act) (s : List (Nat × Value)), (∀ i o, r[i]? = some o → ops[k + i]? = some o) → Holds g N ⟨s, D, L⟩ a w → QS ⟨P, g, N, m, none⟩ L r s s' → (∀ a', Holds g N ⟨s', D, L⟩ a' w → Q .normal a' cs w) → wpOpsSIn F n P ops Q (List.range' k r.length) a cs w
  | [], k, a, s, _, ha, hq, hk => by
    have hq : s' = s := hq
    subst hq
    exact hk a ha
  | o :: r, k, a, s, hops, ha, ⟨v, hg, hd, hq, hrest⟩, hk => by
    rw [List.length_cons, List.range'_succ]
    have ho : ops[k]? = some o := hops 0 o rfl
    have hrun : (execOp a.eval o).run P w = .ok (.value v) w := hq.2 a.eval (fun x u hu => ha.ev hu) w ha.mem
    simp only [wpOpsSIn, ho, Region.wanted, hg, if_true, hrun]
    refine ⟨fun f _ => hF f, ?_⟩
    refine wpOpsSIn_calm hF r (k + 1) _ _ (fun i o' h => ?_) ?_ hrest hk
    · have := hops (i + 1) o' (by simpa using h)
      rwa [show k + 1 + i = k + (i + 1) by omega]
    · have := ha.put hd v
      have e : St.put ⟨s, D, L⟩ o.dst v = ⟨(St.put ⟨s, [], []⟩ o.dst v).s, D, L⟩ := by cases o.dst <;> rfl
      rwa [e] at this
theorem FnD_recover {u u' : FrameMode} {rv : Value} {id : Nat} {o : Oper} {more : List Oper} {rest : Code} {args' : Array Operand} {tys : Array TypeId} {R : FrameMode → List (Nat × Obj) → Prop} (hf : P.funcs[f]? = some fn) (hb : fn.body = some (.seq (.region id (o :: more).toArray false) rest)) (hN : fn.ntmps = N) (hl : Nat.ble args.length N = true)
    (ho : o.op = .call { callee := .builtin .recover, args := args', argTypes := tys }) (hg : o.guard = none) (hd : dok N o.dst = true) (hu : Recov u rv u')
    (h : ∀ g n, ∃ s', QS ⟨P, g, N, n, none⟩ L more (St.put ⟨initS 0 args, [], L⟩ o.dst rv).s s' ∧ WC ⟨P, g, N, n, none⟩ rest (postK ⟨P, g, N, n, none⟩ fn fun _ L' => R u' L') ⟨s', [], L⟩) : FnD P f args L u R := fun g w n hm => by
  refine callsDIn_of_wpSIn hf hb trivial fun c₀ cs hc => wpSIn_seq (wpSIn_region ?_)
  have hH := holds_init (n := fn.ntmps) hN hl hm
  generalize ({ tmps := args.toArray ++ Array.replicate (fn.ntmps - args.toArray.size) undef, defers := [] } : Act) = a at hH ⊢
  have hsem : (execOp a.eval o).run P w = .ok .recover w := by
    simp [execOp, ho, resolve, invoke, Go.builtin]
  obtain ⟨s', hqs, hW⟩ := h g n
  have hput : St.put ⟨initS 0 args, [], L⟩ o.dst rv = ⟨(St.put ⟨initS 0 args, [], L⟩ o.dst rv).s, [], L⟩ := by cases o.dst <;> rfl
  have hrest : ∀ cs', cs' = { c₀ with mode := u' } :: cs → wpOpsSIn Fence.wide n P (o :: more).toArray (Exit.thenS (rest.wpSIn Fence.wide n P (bodyPostS P fn c₀ cs fun e u' w' => ∃ v L', e = .returned v ∧ Mem g L' w' ∧ R u' L')) (bodyPostS P fn c₀ cs fun e u' w' => ∃ v L', e = .returned v ∧ Mem g L' w' ∧ R u' L')) (List.range' 1 more.length) (a.put o.dst rv) cs' w := fun cs' hcs' => by
    have h1 := hH.put hd rv
    rw [hput] at h1
    refine wpOpsSIn_calm (fun _ => trivial) more 1 _ _ (fun i o' h => by simpa [Nat.add_comm] using h) h1 hqs fun a' ha' => ?_
    refine wpSIn_of_wpIn rfl (Go.wpIn_mono (hW a' w ha') fun e a' w' hl => ?_)
    obtain ⟨σ, h1, h2⟩ := hl
    cases e with
    | normal => obtain ⟨h2, v, Lx, h3, hs, h4⟩ := h2; exact ⟨by rw [h1.defers, h2], u', hcs', v, h3 a' w' h1, v, Lx, rfl, h1.mem.sublist hs, h4⟩
    | ret => obtain ⟨h2, v, Lx, h3, hs, h4⟩ := h2; exact ⟨by rw [h1.defers, h2], u', hcs', v, h3 a' w' h1, v, Lx, rfl, h1.mem.sublist hs, h4⟩
    | panic ch => exact h2.elim
    | exit id => exact h2.elim
    | goto l => exact h2.elim
    | outgrown => exact h2.elim
  have hrange : List.range (o :: more).toArray.size = 0 :: List.range' 1 more.length := by
    rw [List.range_eq_range', List.size_toArray, List.length_cons, List.range'_succ]
  rw [hrange]
  simp only [wpOpsSIn, List.getElem?_toArray, List.getElem?_cons_zero, Region.wanted, hg, if_true, hsem]
  refine ⟨fun _ _ => trivial, ?_⟩
  unfold Recov at hu
  split at hu
  · obtain ⟨rfl, rfl⟩ := hu
    have hrec : recoverD (c₀ :: cs) = none := by simp [recoverD, hc]
    rw [hrec]
    exact hrest _ (by rw [← hc])
  · obtain ⟨rfl, rfl⟩ := hu
    have hrec : recoverD (c₀ :: cs) = some (rv, { c₀ with mode := .panicking [{ v := rv, recovered := true }] } :: cs) := by simp [recoverD, hc]
    rw [hrec]
    exact hrest _ rfl
  · exact hu.elim
end
end Go.Proofs.Ytcnbecdpfildnaa
