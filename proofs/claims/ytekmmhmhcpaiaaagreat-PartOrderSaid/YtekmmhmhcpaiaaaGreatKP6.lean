/-
  A part of what the last of these texts needs; by itself it proves no statement.
-/
import Derived.RecoverIn
import Derived.Test.YtekmmhmhcpaiaaaGreatKP5
namespace Go.Proofs.YtekmmhmhcpaiaaaGreat
open Go.RowKit
def RegS (ops : Array Oper) (a0 a : Act) : Prop := ∀ t, (∀ o ∈ ops.toList, o.dst ≠ some t) → a.tmps.getD t undef = a0.tmps.getD t undef
def PanI (I : Act → Prop) (Q : Exit → Act → World → Prop) : Exit → Act → World → Prop
  | .panic ch, a, w => Q (.panic ch) a w ∧ I a
  | e, a, w => Q e a w
theorem RegS.put {ops : Array Oper} {a0 a : Act} {o : Oper} (h : RegS ops a0 a) (ho : o ∈ ops.toList) (v : Value) : RegS ops a0 (a.put o.dst v) := fun t ht => by
  have hne := ht o ho
  rw [← h t ht]
  cases hd : o.dst with
  | none => rfl
  | some d =>
    have hdt : d ≠ t := fun e => hne (by rw [hd, e])
    simp [Act.put, Array.getElem?_setIfInBounds_ne hdt]
section
variable {F : Fence} {n : Nat} {P : Program} {Q : Exit → Act → World → Prop} {ops : Array Oper} {a0 : Act}
theorem wpIn_keepS {o : Oper} {a : Act} {w : World} {next : Act → World → Prop} (ho : o ∈ ops.toList) (hI : RegS ops a0 a) (h : o.wpIn F n P a w next Q) : o.wpIn F n P a w (fun a' w' => next a' w' ∧ RegS ops a0 a') (PanI (RegS ops a0) Q) := by
  unfold Oper.wpIn at *
  refine ⟨h.1, ?_⟩
  have hh := h.2
  generalize (o.semAt F.round a.eval).run P w = r at *
  cases r with
  | ok x w' =>
    cases x <;> simp only [Oper.uponIn] at hh ⊢
    case value u => exact ⟨hh, hI.put ho u⟩
    case skip => exact ⟨hh, hI.put ho undef⟩
    case defer d => exact ⟨hh, RegS.put (a := { a with defers := d :: a.defers }) hI ho undef⟩
    case enter f args =>
      refine ⟨hh.1, CallsIn.mono hh.2 fun e w'' he => ?_⟩
      cases e with
      | returned u => exact ⟨he, hI.put ho u⟩
      | panicked ch => exact ⟨he, hI⟩
      | outgrown => exact he
    case row row args => exact ⟨hh.1, RowsIn.mono hh.2 fun u w'' he => ⟨he, hI.put ho u⟩⟩
    case round l f tmps assign body =>
      refine ⟨hh.1, RoundIn.mono hh.2 fun e w'' he => ?_⟩
      cases e with
      | returned u => exact ⟨he, hI.put ho u⟩
      | panicked ch => exact ⟨he, hI⟩
      | outgrown => exact he
  | halt x w' =>
    cases x <;> simp only [Oper.uponIn] at hh ⊢
    case panic u => exact ⟨hh, hI⟩
theorem wpListIn_keepS : ∀ (l : List Oper) (a : Act) (w : World), (∀ o ∈ l, o ∈ ops.toList) → RegS ops a0 a → wpListIn F n P ops Q l a w → wpListIn F n P ops (PanI (RegS ops a0) Q) l a w
  | [], _, _, _, _, h => h
  | o :: r, a, w, hl, hI, h => by
    have ho := hl o List.mem_cons_self
    have hr := fun p hp => hl p (List.mem_cons_of_mem _ hp)
    simp only [wpListIn] at h ⊢
    split
    · rename_i hw
      rw [if_pos hw] at h
      exact Oper.wpIn_mono (fun a' w' h' => wpListIn_keepS r a' w' hr h'.2 h'.1) (wpIn_keepS ho hI h)
    · rename_i hw
      rw [if_neg hw] at h
      exact ⟨h.1, wpListIn_keepS r _ w hr (hI.put ho undef) h.2⟩
theorem wpOpIn_keepS {i : Nat} {Kn : Act → World → Prop} {a : Act} {w : World} (hI : RegS ops a0 a) (h : wpOpIn F n P ops Q i Kn a w) : wpOpIn F n P ops (PanI (RegS ops a0) Q) i (fun a' w' => Kn a' w' ∧ RegS ops a0 a') a w := by
  unfold wpOpIn at *
  cases ho : ops[i]? with
  | none => rw [ho] at h; exact ⟨h, hI⟩
  | some o =>
    rw [ho] at h
    have hm : o ∈ ops.toList := by
      obtain ⟨h1, h2⟩ := Array.getElem?_eq_some_iff.1 ho
      rw [← h2]; simp
    simp only at h ⊢
    split
    · rename_i hw
      rw [if_pos hw] at h
      exact wpIn_keepS hm hI h
    · rename_i hw
      rw [if_neg hw] at h
      exact ⟨h.1, h.2, hI.put hm undef⟩
theorem wpAnyIn_keepS {md : Region.Mode} : ∀ (fuel : Nat) (listed : Array Bool) (a : Act) (w : World), RegS ops a0 a → wpAnyIn F n P md ops Q fuel listed a w → wpAnyIn F n P md ops (PanI (RegS ops a0) Q) fuel listed a w
  | 0, _, _, _, _, h => h
  | fuel + 1, _, _, _, hI, h => ⟨h.1, fun i hi => wpOpIn_mono (fun a' w' h' => wpAnyIn_keepS fuel _ a' w' h'.2 h'.1) (wpOpIn_keepS hI (h.2 i hi))⟩
end
def keepS (ops : Array Oper) (s : List (Nat × Value)) : List (Nat × Value) := s.filter fun p => ops.toList.all fun o => decide (o.dst ≠ some p.1)
theorem look_keepS {ops : Array Oper} {t : Nat} {v : Value} : ∀ {s : List (Nat × Value)}, look (keepS ops s) t = some v ↔ look s t = some v ∧ ∀ o ∈ ops.toList, o.dst ≠ some t
  | [] => by simp [keepS, look]
  | (k, u) :: r => by
    have ih := look_keepS (ops := ops) (t := t) (v := v) (s := r)
    unfold keepS at ih ⊢
    rw [List.filter_cons, look_cons]
    by_cases hk : (ops.toList.all fun o => decide (o.dst ≠ some k)) = true
    · simp only [hk, if_true]
      rw [look_cons]
      by_cases e : k = t
      · subst e
        rw [if_pos rfl, if_pos rfl]
        simp only [List.all_eq_true, decide_eq_true_eq] at hk
        exact ⟨fun h => ⟨h, hk⟩, fun h => h.1⟩
      · rw [if_neg e, if_neg e]; exact ih
    · simp only [hk, Bool.false_eq_true, if_false]
      by_cases e : k = t
      · subst e
        rw [if_pos rfl, ih]
        simp only [List.all_eq_true, decide_eq_true_eq] at hk
        exact ⟨fun h => absurd h.2 hk, fun h => absurd h.2 hk⟩
      · rw [if_neg e]; exact ih
section
variable {c : Cx}
theorem lift_of_panI {ops : Array Oper} {K0 K : Exit → St → Prop} {σ : St} {a0 : Act} {w0 : World} (ha : Holds c.g c.N σ a0 w0) (hk : ∀ e σ', (∀ ch, e ≠ .panic ch) → K0 e σ' → K e σ') (hp : ∀ ch D L, K0 (.panic ch) ⟨[], D, L⟩ → K (.panic ch) ⟨keepS ops σ.s, D, L⟩) {e : Exit} {a : Act} {w : World} (h : PanI (RegS ops a0) (liftO c K0) e a w) : lift c K e a w := by
  cases e with
  | panic ch =>
    obtain ⟨⟨D, L, h1, h2⟩, h3⟩ := h
    refine ⟨⟨keepS ops σ.s, D, L⟩, ⟨h1.size, fun t v hv => ?_, h1.defers, h1.mem⟩, hp ch D L h2⟩
    obtain ⟨h4, h5⟩ := look_keepS.1 hv
    rw [h3 t h5]; exact ha.slots t v h4
  | normal => obtain ⟨σ', h1, h2⟩ := h; exact ⟨σ', h1, hk _ _ (by simp) h2⟩
  | ret => obtain ⟨σ', h1, h2⟩ := h; exact ⟨σ', h1, hk _ _ (by simp) h2⟩
  | exit id => obtain ⟨σ', h1, h2⟩ := h; exact ⟨σ', h1, hk _ _ (by simp) h2⟩
  | goto l => obtain ⟨σ', h1, h2⟩ := h; exact ⟨σ', h1, hk _ _ (by simp) h2⟩
  | outgrown => obtain ⟨σ', h1, h2⟩ := h; exact ⟨σ', h1, hk _ _ (by simp) h2⟩
theorem WC_regionP {id : Nat} {l : List Oper} {K0 K : Exit → St → Prop} {σ : St} (hk : ∀ e σ', (∀ ch, e ≠ .panic ch) → K0 e σ' → K e σ') (hp : ∀ ch D L, K0 (.panic ch) ⟨[], D, L⟩ → K (.panic ch) ⟨keepS l.toArray σ.s, D, L⟩) (h : WL c l.toArray l K0 σ) : WC c (.region id l.toArray false) K σ := fun a w ha =>
  Go.wpIn_mono (wpIn_region_lit (wpListIn_keepS l a w (fun _ h => by simpa using h) (fun _ _ => rfl) (h a w ha))) fun _ _ _ hl => lift_of_panI ha hk hp hl
end
abbrev pan (v : Value) : List PanicEntry := [{ v, recovered := false }]
def FnP (P : Program) (f : FuncId) (args : List Value) (L : List (Nat × Obj)) (R : Value → List (Nat × Obj) → Prop) : Prop :=
  ∀ g w, Mem g L w → Calls P f args.toArray w fun e w' => ∃ v L', e = .panicked (pan v) ∧ Mem g L' w' ∧ R v L'
def FnD (P : Program) (f : FuncId) (args : List Value) (L : List (Nat × Obj)) (u : FrameMode) (R : FrameMode → List (Nat × Obj) → Prop) : Prop :=
  ∀ g w n, Mem g L w → CallsDIn Fence.wide n P f args.toArray u w fun e u' w' => ∃ v L', e = .returned v ∧ Mem g L' w' ∧ R u' L'
section
variable {c : Cx} {o : Oper} {Kn : St → Prop} {K : Exit → St → Prop} {σ : St}
theorem OW_callvP {f : FuncId} {x : Operand} {A B : Array Value} {args : Array Operand} {tys : Array TypeId} [hf : FCall c.P f] {vs : List Value} {R : Value → List (Nat × Obj) → Prop}
    (ho : o.op = .call { callee := .value x, args := args, argTypes := tys }) (hx : ev σ.s x = some (.func (.func f) A B)) (ha : evs σ.s args.toList = some vs) (hF : FnP c.P f (A.toList ++ vs ++ B.toList) σ.L R) (hk : ∀ v L', R v L' → K (.panic (pan v)) ⟨[], σ.D, L'⟩) : OW c o Kn K σ := fun a w hH => by
  refine ⟨fun _ _ => trivial, ?_⟩
  have hargs : args.map a.eval = vs.toArray := by
    apply Array.ext'
    simpa using hH.evs ha
  have hr : (execOp a.eval o).run c.P w = .ok (.enter f (A.toList ++ vs ++ B.toList).toArray) w := by
    have e : (A.toList ++ vs ++ B.toList).toArray = A ++ vs.toArray ++ B := by apply Array.ext'; simp
    rw [e]
    simp [execOp, ho, resolve, Deferred.ofValue, hH.ev hx, hargs, invoke, hf.h]
  rw [Oper.semAt_eq _ _ _ (by rw [ho]; intro cc h; cases h), hr]
  refine ⟨fun h => by simp at h, (callsIn_fw c.r _ (hF c.g w hH.mem)).mono fun e w' ⟨v, L', h1, h2, h3⟩ => ?_⟩
  subst h1
  exact ⟨σ.D, L', ⟨hH.size, (fun t u hu => by cases hu), hH.defers, h2⟩, hk v L' h3⟩
theorem OW_panic {x : Operand} {t : TypeId} {v : Value} (ho : o.op = .panic x) (hx : ev σ.s x = some (.iface t v)) (hk : K (.panic (pan (.iface t v))) ⟨[], σ.D, σ.L⟩) : OW c o Kn K σ := fun a w hH => by
  refine ⟨fun _ _ => trivial, ?_⟩
  have hr : (execOp a.eval o).run c.P w = .halt (.panic (.iface t v)) w := by
    simp [execOp, ho, Instr.panic, hH.ev hx, goPanic]
  rw [Oper.semAt_eq _ _ _ (by rw [ho]; intro cc h; cases h), hr]
  exact ⟨σ.D, σ.L, ⟨hH.size, (fun t u hu => by cases hu), hH.defers, hH.mem⟩, hk⟩
theorem OW_defer {f : FuncId} {x : Operand} {A B : Array Value} {args : Array Operand} {tys : Array TypeId} {vs : List Value} (hr : c.r = none)
    (ho : o.op = .defer { callee := .value x, args := args, argTypes := tys }) (hx : ev σ.s x = some (.func (.func f) A B)) (ha : evs σ.s args.toList = some vs) (hd : dok c.N o.dst = true) (hk : Kn (St.put ⟨σ.s, { target := .fn (.func f) B, args := (A.toList ++ vs).toArray } :: σ.D, σ.L⟩ o.dst undef)) : OW c o Kn K σ := fun a w hH => by
  refine ⟨fun _ _ => trivial, ?_⟩
  have hargs : args.map a.eval = vs.toArray := by
    apply Array.ext'
    simpa using hH.evs ha
  have hrun : (o.semAt (Fw c.r).round a.eval).run c.P w = .ok (.defer { target := .fn (.func f) B, args := (A.toList ++ vs).toArray }) w := by
    have e : (A.toList ++ vs).toArray = A ++ vs.toArray := by apply Array.ext'; simp
    rw [e, hr]
    show (execOp a.eval o).run c.P w = _
    simp [execOp, ho, resolve, Deferred.ofValue, hH.ev hx, hargs]
  rw [hrun]
  refine ⟨_, ?_, hk⟩
  refine Holds.put (σ := ⟨σ.s, { target := .fn (.func f) B, args := (A.toList ++ vs).toArray } :: σ.D, σ.L⟩) (a := { a with defers := { target := .fn (.func f) B, args := (A.toList ++ vs).toArray } :: a.defers }) ⟨hH.size, hH.slots, ?_, hH.mem⟩ hd undef
  show _ :: a.defers = _
  rw [hH.defers]
end
def LeavS (c : Cx) (fn : Func) (s : List (Nat × Value)) (Rr Rp : Value → List (Nat × Obj) → Prop) : List Deferred → FrameMode → List (Nat × Obj) → Prop
  | [], .returning, L => ∃ v Lx, Res c fn ⟨s, [], L⟩ v ∧ Lx.Sublist L ∧ Rr v Lx
  | [], .panicking ch, L => ∃ v, ch = pan v ∧ Rp v L
  | [], .run, _ => False
  | d :: ds, u, L => u ≠ .run ∧ ((∃ r i L1, d = markD r ∧ L[i]? = some (r, .deferred (some [])) ∧ setL L i (r, .deferred none) = some L1 ∧ LeavS c fn s Rr Rp ds u L1) ∨
      (∃ f A B, d = { target := .fn (.func f) B, args := A } ∧ FCall c.P f ∧ FnD c.P f (A.toList ++ B.toList) L u fun u' L' => LeavS c fn s Rr Rp ds (settle u') L'))
def EndR (g : World) (Rr Rp : Value → List (Nat × Obj) → Prop) (e : Ending) (w' : World) : Prop := (∃ v L', e = .returned v ∧ Mem g L' w' ∧ Rr v L') ∨ ∃ v L', e = .panicked (pan v) ∧ Mem g L' w' ∧ Rp v L'
theorem LeavS.leaves {P : Program} {g : World} {N : Nat} {fn : Func} {Rr Rp : Value → List (Nat × Obj) → Prop} : ∀ (ds : List Deferred) (u : FrameMode) (s : List (Nat × Value)) (L : List (Nat × Obj)) (a : Act) (w : World), Holds g N ⟨s, [], L⟩ { a with defers := [] } w → LeavS ⟨P, g, N, 0, none⟩ fn s Rr Rp ds u L → LeavesInM Fence.wide 0 P fn a.tmps (EndR g Rr Rp) ds u w
  | [], .returning, s, L, a, w, hH, ⟨v, Lx, h1, h2, h3⟩ => ⟨v, h1 { a with defers := [] } w hH, .inl ⟨v, Lx, rfl, hH.mem.sublist h2, h3⟩⟩
  | [], .panicking ch, s, L, a, w, hH, ⟨v, h1, h2⟩ => .inr ⟨v, L, by rw [h1], hH.mem, h2⟩
  | [], .run, _, _, _, _, _, h => h.elim
  | d :: ds, u, s, L, a, w, hH, ⟨hu, .inl ⟨r, i, L1, hd, hi, hs, hM⟩⟩ => by
    subst hd
    have hm' := hH.mem.putObj hi (.deferred none)
    rw [setL_eq hs] at hm'
    exact ⟨hu, .inl ⟨r, w.putObj r (.deferred none), rfl, run_takeDeferred (hH.mem.at_ hi), LeavS.leaves ds u s L1 a _ (hH.mem' hm') hM⟩⟩
  | d :: ds, u, s, L, a, w, hH, ⟨hu, .inr ⟨f, A, B, hd, hf, hD⟩⟩ => by
    subst hd
    refine ⟨hu, .inr ⟨fun h => by simp [Fence.wide] at h, .func f, B, f, A ++ B, rfl, by simp [invoke, hf.h], fun _ _ => trivial, ?_⟩⟩
    have h1 := hD g w (0 - 1) hH.mem
    have e : (A.toList ++ B.toList).toArray = A ++ B := by apply Array.ext'; simp
    rw [e] at h1
    refine h1.mono fun e u' w' ⟨v, L', h2, h3, h4⟩ => ?_
    subst h2
    exact LeavS.leaves ds (settle u') s L' a w' (hH.mem' h3) h4
def postL (c : Cx) (fn : Func) (Rr Rp : Value → List (Nat × Obj) → Prop) : Exit → St → Prop
  | .normal, σ | .ret, σ => LeavS c fn σ.s Rr Rp σ.D .returning σ.L
  | .panic ch, σ => LeavS c fn σ.s Rr Rp σ.D (.panicking ch) σ.L
  | _, _ => False
theorem holds_init {g w : World} {N n : Nat} {args : List Value} {L : List (Nat × Obj)} (hN : n = N) (hl : Nat.ble args.length N = true) (hm : Mem g L w) : Holds g N ⟨initS 0 args, [], L⟩ { tmps := args.toArray ++ Array.replicate (n - args.toArray.size) undef, defers := [] } w := by
  have hle : args.length ≤ N := Nat.le_of_ble_eq_true hl
  refine ⟨?_, ?_, rfl, hm⟩
  · simp only [hN, Array.size_append, List.size_toArray, Array.size_replicate]; omega
  · intro t v hv
    obtain ⟨_, h2⟩ := look_initS args 0 t v hv
    simp only [Nat.sub_zero] at h2
    have hlt : t < args.length := (List.getElem?_eq_some_iff.1 h2).1
    simp [Array.getElem?_append, hlt] at h2 ⊢
    simp [h2]
section
variable {P : Program} {f : FuncId} {fn : Func} {code : Code} {args : List Value} {L : List (Nat × Obj)} {N : Nat}
theorem enterL {Rr Rp : Value → List (Nat × Obj) → Prop} (hf : P.funcs[f]? = some fn) (hb : fn.body = some code) (hN : fn.ntmps = N) (hl : Nat.ble args.length N = true)
    (h : ∀ g, WC ⟨P, g, N, 0, none⟩ code (postL ⟨P, g, N, 0, none⟩ fn Rr Rp) ⟨initS 0 args, [], L⟩) : ∀ g w, Mem g L w → Calls P f args.toArray w (EndR g Rr Rp) := fun g w hm => by
  refine (callsIn_wide (n := 0)).1 (callsIn_of_wp_marks hf hb trivial (Go.wpIn_mono (h g _ w (holds_init hN hl hm)) fun e a' w' hl => ?_) rfl)
  obtain ⟨σ, h1, h2⟩ := hl
  have key : ∀ u, LeavS ⟨P, g, N, 0, none⟩ fn σ.s Rr Rp σ.D u σ.L → LeavesInM Fence.wide 0 P fn a'.tmps (EndR g Rr Rp) a'.defers u w' := fun u hu => by
    rw [h1.defers]; exact LeavS.leaves σ.D u σ.s σ.L a' w' ⟨h1.size, h1.slots, rfl, h1.mem⟩ hu
  cases e with
  | normal => exact key _ h2
  | ret => exact key _ h2
  | panic ch => exact key _ h2
  | exit id => exact h2.elim
  | goto l => exact h2.elim
  | outgrown => exact h2.elim
def Recov : FrameMode → Value → FrameMode → Prop
  | .returning, rv, u' => rv = .nilIface ∧ u' = .returning
  | .panicking [{ v, recovered := false, goexit := false }], rv, u' => rv = v ∧ u' = .panicking [{ v, recovered := true }]
  | _, _, _ => False
def QS (c : Cx) (L : List (Nat × Obj)) : List Oper → List (Nat × Value) → List (Nat × Value) → Prop
  | [], s, s' => s' = s
  | o :: r, s, s' => ∃ v, o.guard = none ∧ dok c.N o.dst = true ∧ Qt c s L o v ∧ QS c L r (St.put ⟨s, [], []⟩ o.dst v).s s'
theorem wpOpsSIn_calm {F : Fence} {n : Nat} {P : Program} {g : World} {N m : Nat} {ops : Array Oper} {Q : Exit → Act → List Frame → World → Prop} {cs : List Frame} {w : World} {D : List Deferred} {L : List (Nat × Obj)} (hF : ∀ f, F.fn f) {s' : List (Nat × Value)} :
    ∀ (r : List Oper) (k : Nat) (a : Act) (s : List (Nat × Value)), (∀ i o, r[i]? = some o → ops[k + i]? = some o) → Holds g N ⟨s, D, L⟩ a w → QS ⟨P, g, N, m, none⟩ L r s s' → (∀ a', Holds g N ⟨s', D, L⟩ a' w → Q .normal a' cs w) → wpOpsSIn F n P ops Q (List.range' k r.length) a cs w
  | [], k, a, s, _, ha, hq, hk => by
    have hq : s' = s := hq
    subst hq
    exact hk a ha
  | o :: r, k, a, s, hops, ha, ⟨v, hg, hd, hq, hrest⟩, hk => by
    rw [List.length_cons, List.range'_succ]
    have ho : ops[k]? = some o := hops 0 o rfl
    have hrun : (execOp a.eval o).run P w = .ok (.value v) w := hq.2 a.eval (fun x u hu => ha.ev hu) w ha.mem
    simp only [wpOpsSIn, ho, Region.wanted, hg, if_true, hrun]
    refine ⟨fun f _ => hF f, ?_⟩
    refine wpOpsSIn_calm hF r (k + 1) _ _ (fun i o' h => ?_) ?_ hrest hk
    · have := hops (i + 1) o' (by simpa using h)
      rwa [show k + 1 + i = k + (i + 1) by omega]
    · have := ha.put hd v
      have e : St.put ⟨s, D, L⟩ o.dst v = ⟨(St.put ⟨s, [], []⟩ o.dst v).s, D, L⟩ := by cases o.dst <;> rfl
      rwa [e] at this
set_option maxHeartbeats 4000000 in
theorem FnD_recover {u u' : FrameMode} {rv : Value} {id : Nat} {o : Oper} {more : List Oper} {rest : Code} {args' : Array Operand} {tys : Array TypeId} {R : FrameMode → List (Nat × Obj) → Prop} (hf : P.funcs[f]? = some fn) (hb : fn.body = some (.seq (.region id (o :: more).toArray false) rest)) (hN : fn.ntmps = N) (hl : Nat.ble args.length N = true)
    (ho : o.op = .call { callee := .builtin .recover, args := args', argTypes := tys }) (hg : o.guard = none) (hd : dok N o.dst = true) (hu : Recov u rv u')
    (h : ∀ g n, ∃ s', QS ⟨P, g, N, n, none⟩ L more (St.put ⟨initS 0 args, [], L⟩ o.dst rv).s s' ∧ WC ⟨P, g, N, n, none⟩ rest (postK ⟨P, g, N, n, none⟩ fn fun _ L' => R u' L') ⟨s', [], L⟩) : FnD P f args L u R := fun g w n hm => by
  refine callsDIn_of_wpSIn hf hb trivial fun c₀ cs hc => wpSIn_seq (wpSIn_region ?_)
  have hH := holds_init (n := fn.ntmps) hN hl hm
  generalize ({ tmps := args.toArray ++ Array.replicate (fn.ntmps - args.toArray.size) undef, defers := [] } : Act) = a at hH ⊢
  have hsem : (execOp a.eval o).run P w = .ok .recover w := by
    simp [execOp, ho, resolve, invoke, Go.builtin]
  obtain ⟨s', hqs, hW⟩ := h g n
  have hput : St.put ⟨initS 0 args, [], L⟩ o.dst rv = ⟨(St.put ⟨initS 0 args, [], L⟩ o.dst rv).s, [], L⟩ := by cases o.dst <;> rfl
  have hrest : ∀ cs', cs' = { c₀ with mode := u' } :: cs → wpOpsSIn Fence.wide n P (o :: more).toArray (Exit.thenS (rest.wpSIn Fence.wide n P (bodyPostS P fn c₀ cs fun e u' w' => ∃ v L', e = .returned v ∧ Mem g L' w' ∧ R u' L')) (bodyPostS P fn c₀ cs fun e u' w' => ∃ v L', e = .returned v ∧ Mem g L' w' ∧ R u' L')) (List.range' 1 more.length) (a.put o.dst rv) cs' w := fun cs' hcs' => by
    have h1 := hH.put hd rv
    rw [hput] at h1
    refine wpOpsSIn_calm (fun _ => trivial) more 1 _ _ (fun i o' h => by simpa [Nat.add_comm] using h) h1 hqs fun a' ha' => ?_
    refine wpSIn_of_wpIn rfl (Go.wpIn_mono (hW a' w ha') fun e a' w' hl => ?_)
    obtain ⟨σ, h1, h2⟩ := hl
    cases e with
    | normal => obtain ⟨h2, v, Lx, h3, hs, h4⟩ := h2; exact ⟨by rw [h1.defers, h2], u', hcs', v, h3 a' w' h1, v, Lx, rfl, h1.mem.sublist hs, h4⟩
    | ret => obtain ⟨h2, v, Lx, h3, hs, h4⟩ := h2; exact ⟨by rw [h1.defers, h2], u', hcs', v, h3 a' w' h1, v, Lx, rfl, h1.mem.sublist hs, h4⟩
    | panic ch => exact h2.elim
    | exit id => exact h2.elim
    | goto l => exact h2.elim
    | outgrown => exact h2.elim
  have hrange : List.range (o :: more).toArray.size = 0 :: List.range' 1 more.length := by
    rw [List.range_eq_range', List.size_toArray, List.length_cons, List.range'_succ]
  rw [hrange]
  simp only [wpOpsSIn, List.getElem?_toArray, List.getElem?_cons_zero, Region.wanted, hg, if_true, hsem]
  refine ⟨fun _ _ => trivial, ?_⟩
  unfold Recov at hu
  split at hu
  · obtain ⟨rfl, rfl⟩ := hu
    have hrec : recoverD (c₀ :: cs) = none := by simp [recoverD, hc]
    rw [hrec]
    exact hrest _ (by rw [← hc])
  · obtain ⟨rfl, rfl⟩ := hu
    have hrec : recoverD (c₀ :: cs) = some (rv, { c₀ with mode := .panicking [{ v := rv, recovered := true }] } :: cs) := by simp [recoverD, hc]
    rw [hrec]
    exact hrest _ rfl
  · exact hu.elim
end
end Go.Proofs.YtekmmhmhcpaiaaaGreat
namespace Go.Proofs.YtekmmhmhcpaiaaaGreat
open Go.RowKit
inductive V where
  | int (k : IntKind) (n : Int)
  | bool (b : Bool)
  | str (s : ByteArray)
  | ptrN
  | ptr (k off : Nat)
  | slN
  | sl (k off len sz : Nat) (ex : Bool)
  | fn (f : Go.Fn) (A B : List V)
  | nilf
  | ifc (t : TypeId) (v : V)
  | nili
  | mapN
  | map (k : Nat)
  | agg (l : List V)
  | tup (l : List V)
  | yld (k : Nat)
abbrev Bs := List (Nat × Nat × Nat)
mutual
inductive RV (bs : Bs) : V → Value → Prop
  | int (k : IntKind) (n : Int) : RV bs (.int k n) (.int k n)
  | bool (b : Bool) : RV bs (.bool b) (.bool b)
  | str (s : ByteArray) : RV bs (.str s) (.string s)
  | ptrN : RV bs .ptrN (.pointer none)
  | ptr {k off b base av : Nat} (h : bs[k]? = some (b, base, av)) : RV bs (.ptr k off) (.pointer (some ⟨b, base + off, none⟩))
  | slN : RV bs .slN (.slice none 0 0)
  | sl {k off len sz b base av off' cap : Nat} {ex : Bool} (hex : ex = true → cap = len) (h : bs[k]? = some (b, base, av)) (h1 : len ≤ cap) (h2 : cap ≤ maxLen) (h3 : off' = base + off ∨ (cap = 0 ∧ off' ≤ base + av)) (h4 : off + cap * sz ≤ av) : RV bs (.sl k off len sz ex) (.slice (some ⟨b, off', none⟩) len cap)
  | fn (f : Go.Fn) {A B : List V} {A' B' : List Value} (hA : RVs bs A A') (hB : RVs bs B B') : RV bs (.fn f A B) (.func f A'.toArray B'.toArray)
  | nilf : RV bs .nilf .nilFunc
  | ifc (t : TypeId) {v : V} {v' : Value} (h : RV bs v v') : RV bs (.ifc t v) (.iface t v')
  | nili : RV bs .nili .nilIface
  | mapN : RV bs .mapN (.map none)
  | map {k b base av : Nat} (h : bs[k]? = some (b, base, av)) : RV bs (.map k) (.map (some b))
  | agg {l : List V} {l' : List Value} (h : RVs bs l l') : RV bs (.agg l) (.agg l'.toArray)
  | tup {l : List V} {l' : List Value} (h : RVs bs l l') : RV bs (.tup l) (.tuple l'.toArray)
  | yld {k b base av : Nat} (h : bs[k]? = some (b, base, av)) : RV bs (.yld k) (.func (.yield b) #[] #[])
inductive RVs (bs : Bs) : List V → List Value → Prop
  | nil : RVs bs [] []
  | cons {v : V} {v' : Value} {l : List V} {l' : List Value} (h : RV bs v v') (hl : RVs bs l l') : RVs bs (v :: l) (v' :: l')
end
theorem RVs.get {bs : Bs} : ∀ {l : List V} {l' : List Value}, RVs bs l l' → ∀ {i : Nat} {v : V}, l[i]? = some v → ∃ v', l'[i]? = some v' ∧ RV bs v v'
  | _, _, .nil, _, _, h => by simp at h
  | _, _, .cons h hl, i, v, hi => by
    cases i with
    | zero => simp at hi; subst hi; exact ⟨_, rfl, h⟩
    | succ i => simp only [List.getElem?_cons_succ] at hi ⊢; exact hl.get hi
theorem RVs.take {bs : Bs} : ∀ {l : List V} {l' : List Value}, RVs bs l l' → ∀ n, RVs bs (l.take n) (l'.take n)
  | _, _, .nil, n => by simp; exact .nil
  | _, _, .cons h hl, n => by
    cases n with
    | zero => exact .nil
    | succ n => exact .cons h (hl.take n)
theorem RVs.drop {bs : Bs} : ∀ {l : List V} {l' : List Value}, RVs bs l l' → ∀ n, RVs bs (l.drop n) (l'.drop n)
  | _, _, .nil, n => by simp; exact .nil
  | _, _, .cons h hl, n => by
    cases n with
    | zero => exact .cons h hl
    | succ n => exact hl.drop n
end Go.Proofs.YtekmmhmhcpaiaaaGreat
namespace Go.Proofs.YtekmmhmhcpaiaaaGreat
open Go.RowKit
noncomputable section
section
variable {P : Program}
def sizeX (P : Program) (t : TypeId) : Option Nat := match P.info? t with
  | some i => some i.size
  | none => none
theorem sizeX_ok {t n : Nat} (h : sizeX P t = some n) : TSize P t n := ⟨fun w => by
  unfold sizeX at h
  split at h
  · rename_i i hi; cases h; simp [sizeOf, typeInfo, hi]
  · cases h⟩
def aggX (P : Program) (t : TypeId) : Option Bool := match P.underlying t with
  | some (.struct _) => some true
  | some (.array _ _) => some true
  | some _ => some false
  | none => none
theorem aggX_ok {t : Nat} {b : Bool} (h : aggX P t = some b) : TAgg P t b := ⟨fun w => by
  unfold aggX at h
  split at h
  · rename_i hu; cases h; simp [isAgg, run_underlying hu]
  · rename_i hu; cases h; simp [isAgg, run_underlying hu]
  · rename_i d h1 h2 hu
    cases h
    simp only [isAgg, Sem.run_bind, run_underlying hu]
    cases d <;> first | rfl | exact absurd rfl (h1 _) | exact absurd rfl (h2 _ _)
  · cases h⟩
def V.scal : V → Option Value
  | .int k n => some (.int k n)
  | .bool b => some (.bool b)
  | .str s => some (.string s)
  | _ => none
theorem V.scal_ok {bs : Bs} {v : V} {v' u : Value} (h : RV bs v v') (hs : v.scal = some u) : v' = u := by
  cases h <;> cases hs <;> rfl
def binW (P : Program) (op : BinOp) (t : TypeId) (x y : Value) : Option Value :=
  match x, y with
  | .int k a, .int k' b =>
    match op with
    | .shl => if 0 ≤ b then some (.int k (k.wrap (a * 2 ^ (min b.toNat k.bits)))) else none
    | .shr => if 0 ≤ b then some (.int k (a.fdiv (2 ^ (min b.toNat k.bits)))) else none
    | _ => if k = k' then
      match op with
      | .add => some (.int k (k.wrap (a + b)))
      | .sub => some (.int k (k.wrap (a - b)))
      | .mul => some (.int k (k.wrap (a * b)))
      | .quo => if b = 0 then none else some (.int k (k.wrap (a.tdiv b)))
      | .rem => if b = 0 then none else some (.int k (a.tmod b))
      | .and => some (.int k (k.wrap (BitVec.ofInt k.bits a &&& BitVec.ofInt k.bits b).toNat))
      | .or => some (.int k (k.wrap (BitVec.ofInt k.bits a ||| BitVec.ofInt k.bits b).toNat))
      | .xor => some (.int k (k.wrap (BitVec.ofInt k.bits a ^^^ BitVec.ofInt k.bits b).toNat))
      | .andNot => some (.int k (k.wrap (BitVec.ofInt k.bits a &&& ~~~(BitVec.ofInt k.bits b)).toNat))
      | .eql => some (.bool (a == b))
      | .neq => some (.bool (a != b))
      | .lss => some (.bool (decide (a < b)))
      | .leq => some (.bool (decide (a ≤ b)))
      | .gtr => some (.bool (decide (a > b)))
      | .geq => some (.bool (decide (a ≥ b)))
      | _ => none
      else none
  | .bool a, .bool b => match P.underlying t with
    | some .bool => match op with
      | .eql => some (.bool (a == b))
      | .neq => some (.bool (a != b))
      | _ => none
    | _ => none
  | .string a, .string b => match op with
    | .add => if ((a.size + b.size : Nat) : Int) > IntKind.i64.max then none else some (.string (a ++ b))
    | .eql => some (.bool (a.toList == b.toList))
    | .neq => some (.bool !(a.toList == b.toList))
    | .lss => some (.bool (Op.bytesLess a.toList b.toList))
    | .geq => some (.bool !(Op.bytesLess a.toList b.toList))
    | .leq => some (.bool (Op.bytesLess a.toList b.toList || a.toList == b.toList))
    | .gtr => some (.bool !(Op.bytesLess a.toList b.toList || a.toList == b.toList))
    | _ => none
  | _, _ => none
theorem binW_run {op : BinOp} {t : TypeId} {x y v : Value} (X Y : Operand) (h : binW P op t x y = some v) (w : World) : (eqGuard op t X Y x y).run P w = .ok () w ∧ (binOp op t x y).run P w = .ok v w := by
  unfold binW at h
  split at h
  · rename_i k a k' b
    split at h
    · split at h
      · rename_i hb; cases h
        simp [eqGuard, binOp, Op.shift, show ¬ b < 0 by omega]
      · cases h
    · split at h
      · rename_i hb; cases h
        simp [eqGuard, binOp, Op.shift, show ¬ b < 0 by omega]
      · cases h
    · split at h
      · rename_i h1 h2 hk
        subst hk
        split at h
        all_goals first
          | (cases h; done)
          | (cases h; simp [eqGuard, binOp, Op.intArith, Op.intCmp, Op.intBits]; done)
          | (split at h
             · cases h
             · rename_i hb; cases h; simp [eqGuard, binOp, Op.intDiv, hb])
      · cases h
  · rename_i a b
    split at h
    · rename_i hu
      split at h
      · cases h; simp [eqGuard, run_eql_bool w t a b hu]
      · cases h; simp [eqGuard, run_neq_bool w t a b hu, bne]
      · cases h
    · cases h
  · split at h
    all_goals first
      | (cases h; done)
      | (cases h; simp [eqGuard, binOp, Op.stringOp]; done)
      | (split at h
         · cases h
         · rename_i hb; cases h; rw [show IntKind.i64.max = 9223372036854775807 from rfl] at hb; simp [eqGuard, binOp, Op.stringOp]; omega)
  · cases h
end
section
variable {c : Cx} {s : List (Nat × Value)} {L : List (Nat × Obj)} {o : Oper}
theorem Qt_binW {op : BinOp} {t t' : TypeId} {x y : Operand} {a b v : Value} (ho : o.op = .binOp op t x y t') (hx : ev s x = some a) (hy : ev s y = some b) (hv : binW c.P op t a b = some v) : Qt c s L o v :=
  ⟨(fun cc => by simp [ho]), fun ρ hρ w _ => by
    obtain ⟨h1, h2⟩ := binW_run (P := c.P) (t := t) x y hv w
    simp [execOp, ho, hρ x _ hx, hρ y _ hy, h1, h2]⟩
theorem Qt_of_run {v : Value} (hd : ∀ cc, o.op ≠ .defer cc) (h : ∀ ρ : Operand → Value, (∀ x u, ev s x = some u → ρ x = u) → ∀ w, Mem c.g L w → (execOp ρ o).run c.P w = .ok (.value v) w) : Qt c s L o v := ⟨hd, h⟩
end
section
variable {c : Cx} {bs : Bs} {σs : List (Nat × Value)} {Ls : List (Nat × Obj)} {o : Oper}
def partX (P : Program) (ft off n : Nat) (l : List V) : Option V := match aggX P ft with
  | some true => some (.agg ((l.drop off).take n))
  | some false => l[off]?
  | none => none
theorem part_run {P : Program} {ft off n : Nat} {l : List V} {l' : List Value} {v : V} (h : partX P ft off n l = some v) (hn : ∀ w, (sizeOf ft).run P w = .ok n w) (hl : RVs bs l l') : ∃ v', (∀ w, (part ft l'.toArray off).run P w = .ok v' w) ∧ RV bs v v' := by
  unfold partX at h
  split at h
  · rename_i ha
    cases h
    refine ⟨.agg ((l'.drop off).take n).toArray, fun w => ?_, .agg ((hl.drop off).take n)⟩
    have := (aggX_ok ha).h w
    simp [part, this, hn]
  · rename_i ha
    obtain ⟨v', h1, h2⟩ := hl.get h
    refine ⟨v', fun w => ?_, h2⟩
    have := (aggX_ok ha).h w
    simp [part, this, h1]
  · cases h
end
end
end Go.Proofs.YtekmmhmhcpaiaaaGreat
