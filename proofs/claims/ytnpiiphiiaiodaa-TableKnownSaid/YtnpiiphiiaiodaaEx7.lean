/-
  Running a program's function by computing: calls, regions, whole functions. It proves no statement by itself. It holds for every program.
-/
import Derived.Test.YtnpiiphiiaiodaaEg
namespace Go.Proofs.Ytnpiiphiiaiodaa
open Go.RowKit
noncomputable section
attribute [local irreducible] T.put T.set

/-- What calls bring (of functions; of the bodies of ranges over functions; of functions that panic: with what; of deferred calls, where the frame leaves so: how it leaves then): the result, and memory. -/
structure CallF where
  f : FuncId → List V → H → Option (V × H)
  y : Nat → List V → H → Option (V × H)
  p : FuncId → List V → H → Option (V × H)
  d : FuncId → List V → Option V → H → Option (Option V × H)
/-- How a frame leaves. -/
def RM (bs : Bs) : Option V → FrameMode → Prop
  | none, u => u = .returning
  | some v, u => ∃ v', u = .panicking (pan v') ∧ RV bs v v'
def FPost (bs : Bs) (Hp : H) (M F : List (Nat × Obj)) (v : V) (H2 : H) (v' : Value) (L' : List (Nat × Obj)) : Prop :=
  ∃ (r : Bs) (M' : List (Nat × Obj)), L' = M' ++ F ∧ RV (bs ++ r) v v' ∧ HCov (bs ++ r) H2 M' ∧ H2.ds = Hp.ds ∧ (∀ k ∈ Hp.log, k ∈ H2.log) ∧ ∀ W B, (∀ k ∈ H2.log, k ∈ W) → Prot bs Hp M W B → Prot (bs ++ r) H2 M' W B
def DPost (bs : Bs) (Hp : H) (M F : List (Nat × Obj)) (m : Option V) (H2 : H) (u' : FrameMode) (L' : List (Nat × Obj)) : Prop :=
  ∃ (r : Bs) (M' : List (Nat × Obj)), L' = M' ++ F ∧ RM (bs ++ r) m (settle u') ∧ HCov (bs ++ r) H2 M' ∧ H2.ds = Hp.ds ∧ (∀ k ∈ Hp.log, k ∈ H2.log) ∧ ∀ W B, (∀ k ∈ H2.log, k ∈ W) → Prot bs Hp M W B → Prot (bs ++ r) H2 M' W B
structure CallOk (P : Program) (call : CallF) : Prop where
  fx : ∀ f vs Hp v H2, call.f f vs Hp = some (v, H2) → Ext Hp H2
  yx : ∀ k vs Hp v H2, call.y k vs Hp = some (v, H2) → Ext Hp H2
  px : ∀ f vs Hp v H2, call.p f vs Hp = some (v, H2) → Ext Hp H2
  dx : ∀ f vs m Hp m2 H2, call.d f vs m Hp = some (m2, H2) → Ext Hp H2
  pc : ∀ f vs Hp v H2, call.p f vs Hp = some (v, H2) → FCall P f
  pn : ∀ f vs Hp v H2, call.p f vs Hp = some (v, H2) → ∀ bs M F vs', HCov bs Hp M → RVs bs vs vs' → FnP P f vs' (M ++ F) (FPost bs Hp M F v H2)
  dc : ∀ f vs m Hp m2 H2, call.d f vs m Hp = some (m2, H2) → FCall P f
  dn : ∀ f vs m Hp m2 H2, call.d f vs m Hp = some (m2, H2) → ∀ bs M F vs' u, HCov bs Hp M → RVs bs vs vs' → RM bs m u → FnD P f vs' (M ++ F) u (DPost bs Hp M F m2 H2)
  fc : ∀ f vs Hp v H2, call.f f vs Hp = some (v, H2) → FCall P f
  fn : ∀ f vs Hp v H2, call.f f vs Hp = some (v, H2) → ∀ bs M F vs', HCov bs Hp M → RVs bs vs vs' → Fn P f vs' (M ++ F) (FPost bs Hp M F v H2)
  yn : ∀ k vs Hp v H2, call.y k vs Hp = some (v, H2) → ∀ bs M F vs' l x y, HCov bs Hp M → bs[k]? = some (l, x, y) → RVs bs vs vs' → YieldFn P l vs' (M ++ F) (FPost bs Hp M F v H2)

def finX (s : S) (Hp : H) (d : Option Nat) : Option (V × H) → SX
  | some (v, H2) => match V.low Hp.n v, newN Hp.n H2.log with
    | true, true => some (putD s d v, Hp)
    | _, _ => some (putD s d v, ⟨H2.h, H2.n, H2.log ++ Hp.log, Hp.ds⟩)
  | none => none
def callV (call : CallF) (s : S) (Hp : H) (d : Option Nat) : Option V → Option (List V) → SX
  | some (.fn (.func f) A B), some vs => finX s Hp d (call.f f (A ++ (vs ++ B)) ⟨Hp.h, Hp.n, [], Hp.ds⟩)
  | some (.yld k), some vs => finX s Hp d (call.y k vs ⟨Hp.h, Hp.n, [], Hp.ds⟩)
  | _, _ => none
def callX (P : Program) (call : CallF) (s : S) (Hp : H) (cl : Call) (d : Option Nat) : SX := match cl.callee with
  | .value x => callV call s Hp d (evX s x) (evsX s cl.args.toList)
  | .builtin .append => match d with
    | some d => match cl.args.toList, cl.argTypes.toList with
      | [x, y], [t, t2] => appendX P s Hp t t2 x y d
      | _, _ => none
    | none => none
  | .builtin .clear => match cl.args.toList, cl.argTypes.toList with
    | [x], [t] => clearX P s Hp t x d
    | _, _ => none
  | _ => none
def effX (P : Program) (call : CallF) (s : S) (Hp : H) (op : Op) (d : Option Nat) : SX := match op with
  | .call cl => callX P call s Hp cl d
  | .alloc t => match d with
    | some d => allocX P s Hp t d
    | none => none
  | .box t x => match d with
    | some d => boxX s Hp t x d
    | none => none
  | .store t x y => match d with
    | some _ => none
    | none => storeX P s Hp t x y
  | .makeSlice t x y => match d with
    | some d => makeSliceX P s Hp t x y d
    | none => none
  | .buildSlice t n parts => match d with
    | some d => buildSliceX P s Hp t n parts.toList d
    | none => none
  | .makeMap t r => match d with
    | some d => makeMapX P s Hp t r d
    | none => none
  | .mapUpdate t m k x => match d with
    | some _ => none
    | none => mapUpdateX P s Hp t m k x
  | .insert t m k x => match d with
    | some _ => none
    | none => mapUpdateX P s Hp t m k x
  | _ => none
def opX (P : Program) (call : CallF) (s : S) (Hp : H) (o : Oper) : SX := match calmX P s Hp.h o.op with
  | some (v, _) => some (putD s o.dst v, Hp)
  | none => effX P call s Hp o.op o.dst

/-- An operation that panics. -/
def panV (call : CallF) (Hp : H) : Option V → Option (List V) → Option (V × H)
  | some (.fn (.func f) A B), some vs => match call.p f (A ++ (vs ++ B)) ⟨Hp.h, Hp.n, [], Hp.ds⟩ with
    | some (v, H2) => some (v, ⟨H2.h, H2.n, H2.log ++ Hp.log, Hp.ds⟩)
    | none => none
  | _, _ => none
def opP (call : CallF) (s : S) (Hp : H) (o : Oper) : Option (V × H) := match o.op with
  | .call cl => match cl.callee with
    | .value x => panV call Hp (evX s x) (evsX s cl.args.toList)
    | _ => none
  | .panic x => match evX s x with
    | some (.ifc t v) => some (.ifc t v, Hp)
    | _ => none
  | _ => none
inductive EX where
  | normal
  | ret
  | exit (id : Nat)
  | panic (v : V)
def EX.to : EX → Exit
  | .normal => .normal
  | .ret => .ret
  | .exit id => .exit id
  | .panic _ => .normal
abbrev CX := Option (EX × S × H)
def noS : S := ⟨[], [], 0⟩
/-- What holds behind a panic. -/
def PPost (bs : Bs) (Hp : H) (M F : List (Nat × Obj)) (v : V) (s2 : S) (H2 : H) (v' : Value) (σ' : St) : Prop :=
  ∃ (r : Bs) (M' : List (Nat × Obj)), RD (bs ++ r) H2.ds σ'.D ∧ σ'.L = M' ++ F ∧ CovS (bs ++ r) s2 σ'.s ∧ HCov (bs ++ r) H2 M' ∧ (∀ k ∈ Hp.log, k ∈ H2.log) ∧ (∀ W B, (∀ k ∈ H2.log, k ∈ W) → Prot bs Hp M W B → Prot (bs ++ r) H2 M' W B) ∧ RV (bs ++ r) v v'
def DoneK (bs : Bs) (Hp : H) (M F : List (Nat × Obj)) (e : EX) (s2 : S) (H2 : H) (e' : Exit) (σ' : St) : Prop := match e with
  | .panic v => ∃ v', e' = .panic (pan v') ∧ PPost bs Hp M F v s2 H2 v' σ'
  | _ => e' = e.to ∧ Post bs Hp M F s2 H2 σ'
theorem DoneK.comp {bs r : Bs} {Hp H1 : H} {M M1 F : List (Nat × Obj)} (hl : ∀ k ∈ Hp.log, k ∈ H1.log) (hp : ∀ W B, (∀ k ∈ H1.log, k ∈ W) → Prot bs Hp M W B → Prot (bs ++ r) H1 M1 W B) {e : EX} {s2 : S} {H2 : H} {e' : Exit} {σ2 : St} (h : DoneK (bs ++ r) H1 M1 F e s2 H2 e' σ2) : DoneK bs Hp M F e s2 H2 e' σ2 := by
  have fin : ∀ {A : Bs → Prop}, (∃ (r2 : Bs) (M' : List (Nat × Obj)), RD (bs ++ r ++ r2) H2.ds σ2.D ∧ σ2.L = M' ++ F ∧ CovS (bs ++ r ++ r2) s2 σ2.s ∧ HCov (bs ++ r ++ r2) H2 M' ∧ (∀ k ∈ H1.log, k ∈ H2.log) ∧ (∀ W B, (∀ k ∈ H2.log, k ∈ W) → Prot (bs ++ r) H1 M1 W B → Prot (bs ++ r ++ r2) H2 M' W B) ∧ A (bs ++ r ++ r2)) →
      ∃ (r2 : Bs) (M' : List (Nat × Obj)), RD (bs ++ r2) H2.ds σ2.D ∧ σ2.L = M' ++ F ∧ CovS (bs ++ r2) s2 σ2.s ∧ HCov (bs ++ r2) H2 M' ∧ (∀ k ∈ Hp.log, k ∈ H2.log) ∧ (∀ W B, (∀ k ∈ H2.log, k ∈ W) → Prot bs Hp M W B → Prot (bs ++ r2) H2 M' W B) ∧ A (bs ++ r2) := fun {A} ⟨r2, M2, f1, f2, f3, f4, f5, f6, f7⟩ =>
    ⟨r ++ r2, M2, by rw [← List.append_assoc]; exact f1, f2, by rw [← List.append_assoc]; exact f3, by rw [← List.append_assoc]; exact f4, fun k hk => f5 k (hl k hk), fun W B hW hB => by
      rw [← List.append_assoc]; exact f6 W B hW (hp W B (fun k hk => hW k (f5 k hk)) hB), by rw [← List.append_assoc]; exact f7⟩
  have fin2 : Post (bs ++ r) H1 M1 F s2 H2 σ2 → Post bs Hp M F s2 H2 σ2 := fun ⟨r2, M2, f1, f2, f3, f4, f5, f6⟩ => by
    obtain ⟨r3, M3, g1, g2, g3, g4, g5, g6, _⟩ := fin (A := fun _ => True) ⟨r2, M2, f1, f2, f3, f4, f5, f6, trivial⟩
    exact ⟨r3, M3, g1, g2, g3, g4, g5, g6⟩
  cases e with
  | panic v => obtain ⟨v', h1, h2⟩ := h; exact ⟨v', h1, fin (A := fun bs => RV bs v v') h2⟩
  | normal => exact ⟨h.1, fin2 h.2⟩
  | ret => exact ⟨h.1, fin2 h.2⟩
  | exit id => exact ⟨h.1, fin2 h.2⟩

section
variable {c : Cx} {o : Oper} {K : Exit → St → Prop} {σ : St} {bs : Bs} {s : S} {Hp : H} {M F : List (Nat × Obj)} {s2 : S} {H2 : H} {call : CallF}

theorem OW_callW {Kn : St → Prop} {f : FuncId} {x : Operand} {A B : Array Value} {args : Array Operand} {tys : Array TypeId} [hf : FCall c.P f] {vs : List Value} {R : Value → List (Nat × Obj) → Prop}
    (ho : o.op = .call { callee := .value x, args := args, argTypes := tys }) (hx : ev σ.s x = some (.func (.func f) A B)) (ha : evs σ.s args.toList = some vs) (hd : dok c.N o.dst = true) (hF : Fn c.P f (A.toList ++ vs ++ B.toList) σ.L R) (hk : ∀ v L', R v L' → Kn (St.put ⟨σ.s, σ.D, L'⟩ o.dst v)) : OW c o Kn K σ := fun a w hH => by
  refine ⟨fun _ _ => trivial, ?_⟩
  have hargs : args.map a.eval = vs.toArray := by
    apply Array.ext'
    simpa using hH.evs ha
  have hr : (execOp a.eval o).run c.P w = .ok (.enter f (A.toList ++ vs ++ B.toList).toArray) w := by
    have e : (A.toList ++ vs ++ B.toList).toArray = A ++ vs.toArray ++ B := by apply Array.ext'; simp
    rw [e]
    simp [execOp, ho, resolve, Deferred.ofValue, hH.ev hx, hargs, invoke, hf.h]
  rw [Oper.semAt_eq _ _ _ (by rw [ho]; intro cc h; cases h), hr]
  refine ⟨fun h => by simp at h, (callsIn_fw c.r _ (hF c.g w hH.mem)).mono fun e w' ⟨v, L', h1, h2, h3⟩ => ?_⟩
  subst h1
  exact ⟨_, (hH.mem' h2).put hd v, hk v L' h3⟩

theorem OW_yieldW {Kn : St → Prop} {l : Nat} {x : Operand} {args : Array Operand} {tys : Array TypeId} {vs : List Value} {R : Value → List (Nat × Obj) → Prop}
    (ho : o.op = .call { callee := .value x, args := args, argTypes := tys }) (hx : ev σ.s x = some (.func (.yield l) #[] #[])) (ha : evs σ.s args.toList = some vs) (hd : dok c.N o.dst = true) (hY : YieldFn c.P l vs σ.L R) (hk : ∀ v L', R v L' → Kn (St.put ⟨σ.s, σ.D, L'⟩ o.dst v)) : OW c o Kn K σ := fun a w hH => by
  refine ⟨fun _ _ => trivial, ?_⟩
  have hargs : args.map a.eval = vs.toArray := by
    apply Array.ext'
    simpa using hH.evs ha
  obtain ⟨fn, tmps, assign, body, h1, h2⟩ := hY c.g w (c.n - 1) hH.mem
  have hr : (execOp a.eval o).run c.P w = .ok (.round l fn tmps assign body) w := by
    simp [execOp, ho, resolve, Deferred.ofValue, hH.ev hx, hargs, invoke, h1]
  rw [Oper.semAt_eq _ _ _ (by rw [ho]; intro cc h; cases h), hr]
  have h2' : RoundIn (Fw c.r) (c.n - 1) c.P l fn tmps assign body w fun e w' => ∃ v L', e = .returned v ∧ Mem c.g L' w' ∧ R v L' := h2
  refine ⟨fun h => by simp at h, h2'.mono fun e w' ⟨v, L', h1, h2, h3⟩ => ?_⟩
  subst h1
  exact ⟨_, (hH.mem' h2).put hd v, hk v L' h3⟩

theorem finX_ok {v : V} {H3 : H} {v' : Value} {L' : List (Nat × Obj)} {d : Option Nat} (hcov : Cov bs s Hp M F σ) (hf : FPost bs ⟨Hp.h, Hp.n, [], Hp.ds⟩ M F v H3 v' L') (hc : finX s Hp d (some (v, H3)) = some (s2, H2)) : Post bs Hp M F s2 H2 (St.put ⟨σ.s, σ.D, L'⟩ d v') := by
  obtain ⟨r, M', rfl, g2, g3, gd, g4, g5⟩ := hf
  simp only [finX] at hc
  split at hc
  · rename_i c1 c2
    cases hc
    rw [hcov.mem.n] at c1
    have g2' := g2.strip c1
    have hold : ∀ j o, Hp.h.get j = some o → j ∉ H3.log := fun j o hj hm => by
      have h1 := newN_ok c2 j hm
      have h2 := hcov.mem.lt hj
      rw [hcov.mem.n] at h1; omega
    have stay : ∀ q ∈ M, q ∈ M' := fun q hq => (g5 H3.log [q] (fun _ h => h) (fun q' hq' => by
      obtain rfl := List.mem_singleton.1 hq'
      exact ⟨hq, fun j o x y hj _ => hold j o hj⟩) q (List.mem_singleton.2 rfl)).1
    refine ⟨[], M', by rw [List.append_nil]; cases d <;> exact hcov.D, by cases d <;> rfl, ?_, ?_, fun _ h => h, fun W B _ hB => ?_⟩
    · rw [List.append_nil]; exact CovS.putD (σ := ⟨σ.s, σ.D, M' ++ F⟩) hcov.slots g2'
    · rw [List.append_nil]
      refine ⟨hcov.mem.n, fun k ob hk => ?_, hcov.mem.inj⟩
      obtain ⟨b, base, av, i, o', a1, a2, a3⟩ := hcov.mem.at_ k ob hk
      obtain ⟨i2, hi2⟩ := List.mem_iff_getElem?.1 (stay _ (List.mem_of_getElem? a2))
      exact ⟨b, base, av, i2, o', a1, hi2, a3⟩
    · rw [List.append_nil]
      exact fun q hq => ⟨stay q (hB q hq).1, (hB q hq).2⟩
  · cases hc
    refine ⟨r, M', by cases d <;> exact hcov.D.mono r, by cases d <;> rfl, CovS.putD (σ := ⟨σ.s, σ.D, M' ++ F⟩) (hcov.slots.mono r) g2, ⟨g3.n, g3.at_, g3.inj⟩, fun k hk => List.mem_append_right _ hk, fun W B hW hB => ?_⟩
    have := g5 W B (fun k hk => hW k (List.mem_append_left _ hk)) (by simpa [Prot] using hB)
    exact fun q hq => this q hq

theorem callV_ok (hcall : CallOk c.P call) {x : Operand} {args : Array Operand} {tys : Array TypeId} (ho : o.op = .call { callee := .value x, args := args, argTypes := tys }) (hd : dok c.N o.dst = true) (hcov : Cov bs s Hp M F σ) (hc : callV call s Hp o.dst (evX s x) (evsX s args.toList) = some (s2, H2)) : OW c o (Post bs Hp M F s2 H2) K σ := by
  generalize hx : evX s x = e1 at hc
  generalize hy : evsX s args.toList = e2 at hc
  have hm0 : HCov bs ⟨Hp.h, Hp.n, [], Hp.ds⟩ M := ⟨hcov.mem.n, hcov.mem.at_, hcov.mem.inj⟩
  unfold callV at hc
  split at hc
  · rename_i f A B vs
    generalize hcl : call.f f (A ++ (vs ++ B)) ⟨Hp.h, Hp.n, [], Hp.ds⟩ = res at hc
    cases res with
    | none => cases hc
    | some q =>
      obtain ⟨v, H3⟩ := q
      obtain ⟨x', h1, h2⟩ := evX_ok hcov.slots hx
      obtain ⟨vs', h3, h4⟩ := evsX_ok hcov.slots hy
      cases h2
      rename_i A' B' hA hB
      haveI := hcall.fc _ _ _ _ _ hcl
      have hF := hcall.fn _ _ _ _ _ hcl bs M F (A' ++ (vs' ++ B')) hm0 (hA.append (h4.append hB))
      refine OW_callW ho h1 h3 hd (R := FPost bs ⟨Hp.h, Hp.n, [], Hp.ds⟩ M F v H3) ?_ (fun v' L' hf => finX_ok hcov hf hc)
      rw [hcov.L]
      simpa using hF
  · rename_i k vs
    generalize hcl : call.y k vs ⟨Hp.h, Hp.n, [], Hp.ds⟩ = res at hc
    cases res with
    | none => cases hc
    | some q =>
      obtain ⟨v, H3⟩ := q
      obtain ⟨x', h1, h2⟩ := evX_ok hcov.slots hx
      obtain ⟨vs', h3, h4⟩ := evsX_ok hcov.slots hy
      cases h2
      rename_i l bx by_ hl
      have hY := hcall.yn _ _ _ _ _ hcl bs M F vs' l bx by_ hm0 hl h4
      refine OW_yieldW ho h1 h3 hd (R := FPost bs ⟨Hp.h, Hp.n, [], Hp.ds⟩ M F v H3) ?_ (fun v' L' hf => finX_ok hcov hf hc)
      rw [hcov.L]
      exact hY
  · cases hc

theorem effX_ok (hcall : CallOk c.P call) (hd : dok c.N o.dst = true) (hcov : Cov bs s Hp M F σ) (hc : effX c.P call s Hp o.op o.dst = some (s2, H2)) : OW c o (Post bs Hp M F s2 H2) K σ := by
  generalize ho : o.op = op at hc
  generalize hdst : o.dst = dst at hc
  have hd' : ∀ d, dst = some d → Nat.blt d c.N = true := fun d e => by rw [hdst, e] at hd; exact hd
  unfold effX at hc
  split at hc
  · rename_i cl
    obtain ⟨cal, args, tys⟩ := cl
    unfold callX at hc
    split at hc
    · rename_i x hx
      simp only at hx
      subst hx
      rw [← hdst] at hc
      exact callV_ok hcall ho hd hcov hc
    · rename_i hx
      simp only at hx
      subst hx
      split at hc
      · rename_i d
        split at hc
        · rename_i x y t t2 h1 h2
          simp only at h1 h2
          obtain rfl : args = #[x, y] := by apply Array.ext'; simpa using h1
          obtain rfl : tys = #[t, t2] := by apply Array.ext'; simpa using h2
          exact appendX_ok ho hdst (hd' d rfl) hcov hc
        · cases hc
      · cases hc
    · rename_i hx
      simp only at hx
      subst hx
      split at hc
      · rename_i x t h1 h2
        simp only at h1 h2
        obtain rfl : args = #[x] := by apply Array.ext'; simpa using h1
        obtain rfl : tys = #[t] := by apply Array.ext'; simpa using h2
        rw [← hdst] at hc
        exact clearX_ok ho hd hcov hc
      · cases hc
    · cases hc
  · split at hc
    · rename_i d; exact allocX_ok ho hdst (hd' d rfl) hcov hc
    · cases hc
  · split at hc
    · rename_i d; exact boxX_ok ho hdst (hd' d rfl) hcov hc
    · cases hc
  · split at hc
    · cases hc
    · exact storeX_ok ho hdst hcov hc
  · split at hc
    · rename_i d; exact makeSliceX_ok ho hdst (hd' d rfl) hcov hc
    · cases hc
  · split at hc
    · rename_i d; exact buildSliceX_ok ho hdst (hd' d rfl) hcov hc
    · cases hc
  · split at hc
    · rename_i d; exact makeMapX_ok ho hdst (hd' d rfl) hcov hc
    · cases hc
  · split at hc
    · cases hc
    · exact mapUpdateX_ok (.inl ho) hdst hcov hc
  · split at hc
    · cases hc
    · exact mapUpdateX_ok (.inr ho) hdst hcov hc
  · cases hc

theorem opX_ok (hcall : CallOk c.P call) (hd : dok c.N o.dst = true) (hcov : Cov bs s Hp M F σ) (hc : opX c.P call s Hp o = some (s2, H2)) : OW c o (Post bs Hp M F s2 H2) K σ := by
  unfold opX at hc
  split at hc
  · rename_i v rd hv
    cases hc
    obtain ⟨v', h1, h2⟩ := calmX_ok (Ls := σ.L) (o := o) hv hcov.slots (fun k ob _ hk => by
      obtain ⟨b, base, av, i, o', a1, a2, a3⟩ := hcov.mem.at_ k ob hk
      exact ⟨b, base, av, i, o', a1, by rw [hcov.L, List.getElem?_append_left (List.getElem?_eq_some_iff.1 a2).1]; exact a2, a3⟩)
    exact OW_qt h1 hd (Post.self (by cases o.dst <;> exact hcov.D) (by rw [← hcov.L]; cases o.dst <;> rfl) (CovS.putD hcov.slots h2) hcov.mem)
  · exact effX_ok hcall hd hcov hc

theorem covS_none {bs : Bs} {σs : List (Nat × Value)} : CovS bs noS σs := fun t v hv => by
  have := S.get_args (vs := []) (m := 0) hv
  simp at this
theorem opP_ok (hcall : CallOk c.P call) {Kn : St → Prop} {v : V} (hcov : Cov bs s Hp M F σ) (hc : opP call s Hp o = some (v, H2)) (hk : ∀ e' σ', DoneK bs Hp M F (.panic v) noS H2 e' σ' → K e' σ') : OW c o Kn K σ := by
  unfold opP at hc
  split at hc
  · rename_i cl hop
    obtain ⟨cal, args, tys⟩ := cl
    split at hc
    · rename_i x hx
      simp only at hx hc
      subst hx
      generalize hx : evX s x = e1 at hc
      generalize hy : evsX s args.toList = e2 at hc
      unfold panV at hc
      split at hc
      · rename_i f A B vs
        split at hc
        · rename_i v1 H3 hcl
          cases hc
          have hm0 : HCov bs ⟨Hp.h, Hp.n, [], Hp.ds⟩ M := ⟨hcov.mem.n, hcov.mem.at_, hcov.mem.inj⟩
          obtain ⟨x', h1, h2⟩ := evX_ok hcov.slots hx
          obtain ⟨vs', h3, h4⟩ := evsX_ok hcov.slots hy
          cases h2
          rename_i A' B' hA hB
          haveI := hcall.pc _ _ _ _ _ hcl
          have hF := hcall.pn _ _ _ _ _ hcl bs M F (A' ++ (vs' ++ B')) hm0 (hA.append (h4.append hB))
          refine OW_callvP hop h1 h3 (R := FPost bs ⟨Hp.h, Hp.n, [], Hp.ds⟩ M F v H3) ?_ (fun v' L' hf => ?_)
          · rw [hcov.L]; simpa using hF
          · obtain ⟨r, M', rfl, g2, g3, gd, g4, g5⟩ := hf
            refine hk _ _ ⟨v', rfl, r, M', hcov.D.mono r, rfl, covS_none, ⟨g3.n, g3.at_, g3.inj⟩, fun k hk => List.mem_append_right _ hk, fun W B hW hB => ?_, g2⟩
            have := g5 W B (fun k hk => hW k (List.mem_append_left _ hk)) (by simpa [Prot] using hB)
            exact fun q hq => this q hq
        · cases hc
      · cases hc
    · cases hc
  · rename_i x hop
    split at hc
    · rename_i t u hx
      cases hc
      obtain ⟨x', h1, h2⟩ := evX_ok hcov.slots hx
      cases h2
      rename_i u' hu
      refine OW_panic hop h1 (hk _ _ ⟨_, rfl, [], M, by simpa using hcov.D, hcov.L, covS_none, by simpa using hcov.mem, fun _ h => h, fun W B _ h => by simpa using h, ?_⟩)
      simpa using RV.ifc t hu
    · cases hc
  · cases hc
theorem opP_ext {P : Program} (hcall : CallOk P call) (hc : ∃ v, opP call s Hp o = some (v, H2)) : Ext Hp H2 := by
  obtain ⟨v, hc⟩ := hc
  unfold opP at hc
  split at hc
  · split at hc
    · unfold panV at hc
      split at hc
      · split at hc
        · rename_i hcl; cases hc; exact (hcall.px _ _ _ _ _ hcl).app
        · cases hc
      · cases hc
    · cases hc
  · split at hc
    · cases hc; exact .refl _
    · cases hc
  · cases hc

/-- What was written stays written. -/
theorem opX_ext {P : Program} (hcall : CallOk P call) (hc : opX P call s Hp o = some (s2, H2)) : Ext Hp H2 := by
  unfold opX at hc
  split at hc
  · cases hc; exact .refl _
  · unfold effX at hc
    split at hc
    · unfold callX at hc
      split at hc
      · have fin : ∀ {d : Option Nat} {q : Option (V × H)}, (∀ v H3, q = some (v, H3) → Ext ⟨Hp.h, Hp.n, [], Hp.ds⟩ H3) → finX s Hp d q = some (s2, H2) → Ext Hp H2 := fun {d q} hq h => by
          unfold finX at h
          split at h
          · split at h
            · cases h; exact .refl _
            · cases h; exact (hq _ _ rfl).app
          · cases h
        unfold callV at hc
        split at hc
        · exact fin (fun v H3 e => hcall.fx _ _ _ _ _ e) hc
        · exact fin (fun v H3 e => hcall.yx _ _ _ _ _ e) hc
        · cases hc
      · split at hc
        · split at hc
          · unfold appendX at hc
            repeat' split at hc
            all_goals first
              | (cases hc; done)
              | (cases hc; exact .refl _)
              | (cases hc; exact .new _ _)
              | (cases hc; exact .swap _ _ _)
          · cases hc
        · cases hc
      · split at hc
        · unfold clearX at hc
          repeat' split at hc
          all_goals first
            | (cases hc; done)
            | (cases hc; exact .refl _)
            | (cases hc; exact .upd _ _ _)
        · cases hc
      · cases hc
    · split at hc
      · unfold allocX at hc
        split at hc
        · cases hc; exact .new _ _
        · cases hc
      · cases hc
    · split at hc
      · unfold boxX at hc
        split at hc
        · cases hc
        · cases hc; exact .new _ _
        · cases hc
      · cases hc
    · split at hc
      · cases hc
      · unfold storeX at hc
        repeat' split at hc
        all_goals first
          | (cases hc; done)
          | (cases hc; exact .upd _ _ _)
    · split at hc
      · unfold makeSliceX at hc
        repeat' split at hc
        all_goals first
          | (cases hc; done)
          | (cases hc; exact .refl _)
          | (cases hc; exact .new _ _)
      · cases hc
    · split at hc
      · unfold buildSliceX at hc
        repeat' split at hc
        all_goals first
          | (cases hc; done)
          | (cases hc; exact .refl _)
          | (cases hc; exact .new _ _)
      · cases hc
    · split at hc
      · unfold makeMapX at hc
        repeat' split at hc
        all_goals first
          | (cases hc; done)
          | (cases hc; exact .refl _)
          | (cases hc; exact .new _ _)
      · cases hc
    · split at hc
      · cases hc
      · unfold mapUpdateX at hc
        repeat' split at hc
        all_goals first
          | (cases hc; done)
          | (cases hc; exact .upd _ _ _)
    · split at hc
      · cases hc
      · unfold mapUpdateX at hc
        repeat' split at hc
        all_goals first
          | (cases hc; done)
          | (cases hc; exact .upd _ _ _)
    · cases hc
end

/-! ### guards, and a region's operations one behind the other -/
def guardX (ops : List Oper) (s : S) (o : Oper) : Option Bool := match o.guard with
  | none => some true
  | some (j, want) => match ops[j]? with
    | some og => match og.dst with
      | some dg => match s.get dg with
        | some (.bool b) => match b, want with
          | true, true => some true
          | false, false => some true
          | _, _ => some false
        | some (.tup []) => some false
        | _ => none
      | none => none
    | none => none
def opsX (P : Program) (call : CallF) (ops : List Oper) : List Oper → S → H → CX
  | [], s, Hp => some (.normal, s, Hp)
  | o :: r, s, Hp => match guardX ops s o with
    | some true => match opX P call s Hp o with
      | some (s2, H2) => opsX P call ops r s2 H2
      | none => match opP call s Hp o with
        | some (v, H2) => some (.panic v, noS, H2)
        | none => none
    | some false => opsX P call ops r (putD s o.dst (.tup [])) Hp
    | none => none
def dstOk (N : Nat) : List Oper → Bool
  | [] => true
  | o :: r => match dok N o.dst with
    | true => dstOk N r
    | false => false

theorem dstOk_mem {N : Nat} : ∀ {l : List Oper}, dstOk N l = true → ∀ o ∈ l, dok N o.dst = true
  | [], _, _, h => by cases h
  | o :: r, h, p, hp => by
    simp only [dstOk] at h
    split at h
    · rename_i h1
      rcases List.mem_cons.1 hp with rfl | hp
      · exact h1
      · exact dstOk_mem h p hp
    · cases h

/-- What a guard says. -/
theorem guardX_ok {bs : Bs} {s : S} {σs : List (Nat × Value)} {ops : Array Oper} {o : Oper} {b : Bool} (hs : CovS bs s σs) (h : guardX ops.toList s o = some b) :
    (b = true ∧ o.guard = none) ∨ ∃ j want og dg, o.guard = some (j, want) ∧ ops[j]? = some og ∧ og.dst = some dg ∧ ((b = true ∧ look σs dg = some (.bool want)) ∨ (b = false ∧ ∃ u, look σs dg = some u ∧ (u = .bool (!want) ∨ u = undef))) := by
  unfold guardX at h
  split at h
  · rename_i hg; cases h; exact .inl ⟨rfl, hg⟩
  · rename_i j want hg
    right
    split at h
    · rename_i og hj
      split at h
      · rename_i dg hd
        refine ⟨j, want, og, dg, hg, by simpa using hj, hd, ?_⟩
        split at h
        · rename_i b' hb
          obtain ⟨v', h1, h2⟩ := hs _ _ hb
          cases h2
          split at h
          · cases h; exact .inl ⟨rfl, h1⟩
          · cases h; exact .inl ⟨rfl, h1⟩
          · rename_i n1 n2
            cases h
            refine .inr ⟨rfl, _, h1, .inl ?_⟩
            cases b' <;> cases want <;> simp_all
        · rename_i hb
          cases h
          obtain ⟨v', h1, h2⟩ := hs _ _ hb
          cases h2
          rename_i l' hl
          cases hl
          exact .inr ⟨rfl, _, h1, .inr rfl⟩
        · cases h
      · cases h
    · cases h

theorem Post.comp {bs r : Bs} {Hp H1 : H} {M M1 F : List (Nat × Obj)} (hl : ∀ k ∈ Hp.log, k ∈ H1.log) (hp : ∀ W B, (∀ k ∈ H1.log, k ∈ W) → Prot bs Hp M W B → Prot (bs ++ r) H1 M1 W B) {s2 : S} {H2 : H} {σ2 : St} (h : Post (bs ++ r) H1 M1 F s2 H2 σ2) : Post bs Hp M F s2 H2 σ2 := by
  obtain ⟨r2, M2, f1, f2, f3, f4, f5, f6⟩ := h
  exact ⟨r ++ r2, M2, by rw [← List.append_assoc]; exact f1, f2, by rw [← List.append_assoc]; exact f3, by rw [← List.append_assoc]; exact f4, fun k hk => f5 k (hl k hk), fun W B hW hB => by
    rw [← List.append_assoc]; exact f6 W B hW (hp W B (fun k hk => hW k (f5 k hk)) hB)⟩
theorem Post.sub {bs : Bs} {Hp : H} {M F : List (Nat × Obj)} {s1 s2 : S} {H2 : H} {σ : St} (h : Post bs Hp M F s2 H2 σ) (hs : ∀ t v, s1.get t = some v → s2.get t = some v) : Post bs Hp M F s1 H2 σ := by
  obtain ⟨r, M', f1, f2, f3, f4⟩ := h
  exact ⟨r, M', f1, f2, fun t v ht => f3 t v (hs t v ht), f4⟩
theorem Post.split {bs : Bs} {Hp H1 : H} {M F : List (Nat × Obj)} {s1 : S} {σ1 : St} (h : Post bs Hp M F s1 H1 σ1) : ∃ r M1, Cov (bs ++ r) s1 H1 M1 F σ1 ∧ (∀ k ∈ Hp.log, k ∈ H1.log) ∧ (∀ W B, (∀ k ∈ H1.log, k ∈ W) → Prot bs Hp M W B → Prot (bs ++ r) H1 M1 W B) ∧ ∀ {s2 H2 σ2}, Post (bs ++ r) H1 M1 F s2 H2 σ2 → Post bs Hp M F s2 H2 σ2 := by
  obtain ⟨r, M1, e1, e2, e3, e4, e5, e6⟩ := h
  exact ⟨r, M1, ⟨e3, e1, e4, e2⟩, e5, e6, fun h => Post.comp e5 e6 h⟩

theorem Cov.undef {bs : Bs} {s : S} {Hp : H} {M F : List (Nat × Obj)} {σ : St} (h : Cov bs s Hp M F σ) (d : Option Nat) : Cov bs (putD s d (.tup [])) Hp M F (σ.put d Go.undef) :=
  ⟨CovS.putD h.slots (.tup .nil), by cases d <;> exact h.D, h.mem, by cases d <;> exact h.L⟩
theorem put_D (σ : St) (d : Option Nat) (v : Value) : (σ.put d v).D = σ.D := by cases d <;> rfl
theorem put_L (σ : St) (d : Option Nat) (v : Value) : (σ.put d v).L = σ.L := by cases d <;> rfl

section
variable {c : Cx} {K : Exit → St → Prop} {call : CallF}

theorem opsX_ok (hcall : CallOk c.P call) {ops : Array Oper} : ∀ (l : List Oper) {bs : Bs} {s : S} {Hp : H} {M F : List (Nat × Obj)} {e : EX} {s2 : S} {H2 : H} {σ : St}, (∀ o ∈ l, dok c.N o.dst = true) → Cov bs s Hp M F σ → opsX c.P call ops.toList l s Hp = some (e, s2, H2) → (∀ e' σ', DoneK bs Hp M F e s2 H2 e' σ' → K e' σ') → WL c ops l K σ
  | [], bs, s, Hp, M, F, e, s2, H2, σ, _, hcov, hc, hk => by
    cases hc
    exact WL_nil (hk .normal σ ⟨rfl, Post.self hcov.D hcov.L hcov.slots hcov.mem⟩)
  | o :: r, bs, s, Hp, M, F, e, s2, H2, σ, hd, hcov, hc, hk => by
    have hd1 := hd o List.mem_cons_self
    have hd2 := fun p hp => hd p (List.mem_cons_of_mem _ hp)
    simp only [opsX] at hc
    split at hc
    · rename_i hg
      have go : OW c o (WL c ops r K) K σ → WL c ops (o :: r) K σ := fun hW => by
        rcases guardX_ok hcov.slots hg with ⟨_, hgn⟩ | ⟨j, want, og, dg, hg1, hj, hdg, ⟨_, hb⟩ | ⟨hb, _⟩⟩
        · exact WL_op hgn hW
        · exact WL_guard hg1 hj hdg hb (fun _ => hW) hd1 (fun e => by cases want <;> cases e)
        · cases hb
      split at hc
      · rename_i s1 H1 h1
        exact go ((opX_ok hcall hd1 hcov h1).mono fun σ1 hp1 => by
          obtain ⟨r1, M1, hcov1, hl1, hp1, _⟩ := hp1.split
          exact opsX_ok hcall r hd2 hcov1 hc fun e' σ' hp2 => hk e' σ' (DoneK.comp hl1 hp1 hp2))
      · split at hc
        · rename_i v H3 h3
          cases hc
          exact go (opP_ok hcall hcov h3 hk)
        · cases hc
    · rename_i hg
      have hrest : WL c ops r K (σ.put o.dst undef) := opsX_ok hcall r hd2 (hcov.undef o.dst) hc hk
      rcases guardX_ok hcov.slots hg with ⟨hb, _⟩ | ⟨j, want, og, dg, hg1, hj, hdg, ⟨hb, _⟩ | ⟨_, u, hu, rfl | rfl⟩⟩
      · cases hb
      · cases hb
      · exact WL_guard hg1 hj hdg hu (fun e => by cases want <;> cases e) hd1 (fun _ => hrest)
      · exact WL_guard_undef hg1 hj hdg hu hd1 hrest
    · cases hc
end

attribute [local irreducible] opX opP calmX effX callX appendX

theorem opsX_ext {P : Program} {call : CallF} (hcall : CallOk P call) {ops : List Oper} : ∀ {l : List Oper} {s : S} {Hp : H} {e : EX} {s2 : S} {H2 : H}, opsX P call ops l s Hp = some (e, s2, H2) → Ext Hp H2
  | [], s, Hp, e, s2, H2, h => by cases h; exact .refl _
  | o :: r, s, Hp, e, s2, H2, h => by
    simp only [opsX] at h
    split at h
    · split at h
      · rename_i h1; exact (opX_ext hcall h1).trans (opsX_ext hcall h)
      · split at h
        · rename_i h1; cases h; exact opP_ext hcall ⟨_, h1⟩
        · cases h
    · exact opsX_ext hcall h
    · cases h
/-! ### a region that draws -/
/-- The late ones, one behind the other. -/
def lateX (P : Program) (call : CallF) (ops : List Oper) (m : Nat) : Plan → S → H → CX
  | .done, s, Hp => some (.normal, s, Hp)
  | .must i p, s, Hp => match Nat.blt i m with
    | true => none
    | false => match ops[i]? with
      | some o => match guardX ops s o with
        | some true => match opX P call s Hp o with
          | some (s2, H2) => lateX P call ops m p s2 H2
          | none => match opP call s Hp o with
            | some (v, H2) => some (.panic v, noS, H2)
            | none => none
        | some false => lateX P call ops m p (putD s o.dst (.tup [])) Hp
        | none => none
      | none => none
  | _, _, _ => none
/-- One that must be done, and what goes on. -/
def stepK {α : Type} (P : Program) (call : CallF) (ops : List Oper) (i : Nat) (k : S → H → Option α) (pk : V → H → Option α) (s : S) (Hp : H) : Option α := match ops[i]? with
  | some o => match guardX ops s o with
    | some true => match opX P call s Hp o with
      | some (s2, H2) => k s2 H2
      | none => match opP call s Hp o with
        | some (v, H2) => pk v H2
        | none => none
    | some false => k (putD s o.dst (.tup [])) Hp
    | none => none
  | none => none
def aheadX (ops : List Oper) (ms : List Nat) (m i : Nat) : Bool := ms.all fun j => match Nat.ble m j with
  | true => true
  | false => match ops[j]? with
    | some o => o.after.any fun e => Region.binds .any e && e.on == i
    | none => true
theorem aheadX_ok {ops : Array Oper} {ms : List Nat} {m i : Nat} (h : aheadX ops.toList ms m i = true) : aheadOk ops ms m i = true := by
  rw [aheadOk, List.all_eq_true]
  intro j hj
  have h1 := List.all_eq_true.1 h j hj
  simp only [Array.getElem?_toList] at h1
  cases hb : Nat.ble m j with
  | true => rfl
  | false =>
    simp only [hb] at h1
    cases hq : ops[j]? with
    | none => rfl
    | some o => rw [hq] at h1; exact h1
def pairN {α : Type} (n : Nat) : Option α → Option (Nat × α)
  | some a => some (n, a)
  | none => none
/-- It gives, too, what was written ahead of the late ones, and what was read of what must be left alone. -/
def drawX (P : Program) (call : CallF) (ops : List Oper) (h0 : T O) (m : Nat) (ms : List Nat) : Bool → Plan → S → H → List Nat → Option (EX × S × H × List Nat × List Nat)
  | _, .done, s, Hp, rd => some (.normal, s, Hp, Hp.log, rd)
  | fresh, .calm i p, s, Hp, rd => match ops[i]? with
    | some o => match guardX ops s o with
      | some true => match calmX P s h0 o.op with
        | some (v, some k) => match fresh, aheadX ops ms m i with
          | true, true => drawX P call ops h0 m ms true p (putD s o.dst v) Hp rd
          | _, _ => drawX P call ops h0 m ms fresh p (putD s o.dst v) Hp (k :: rd)
        | some (v, none) => drawX P call ops h0 m ms fresh p (putD s o.dst v) Hp rd
        | none => none
      | some false => match notDefer o.op with
        | true => drawX P call ops h0 m ms fresh p (putD s o.dst (.tup [])) Hp rd
        | false => none
      | none => none
    | none => none
  | _, .must i p, s, Hp, rd => match Nat.blt i m with
    | true => stepK P call ops i (fun s2 H2 => drawX P call ops h0 m ms false p s2 H2 rd) (fun v H2 => some (.panic v, noS, H2, H2.log, rd)) s Hp
    | false => match lateX P call ops m (.must i p) s Hp with
      | some (e, s2, H2) => some (e, s2, H2, Hp.log, rd)
      | none => none
  | _, .either i p j q, s, Hp, rd => match stepK P call ops i (fun s2 H2 => pairN H2.n (drawX P call ops h0 m ms false p s2 H2 rd)) (fun _ _ => none) s Hp, stepK P call ops j (fun s2 H2 => pairN H2.n (drawX P call ops h0 m ms false q s2 H2 rd)) (fun _ _ => none) s Hp with
    | some (n1, .normal, s1, H1, W1, r1), some (n2, .normal, s2, H2, W2, r2) => match S.leq (shiftN Hp.n (Nat.sub n1 Hp.n) (Nat.sub n2 Hp.n)) s1 s2, H.leq Hp.n (Nat.sub n1 Hp.n) (Nat.sub n2 Hp.n) H1 H2 with
      | true, true => some (.normal, s1, H.both Hp.n (Nat.sub n1 Hp.n) (Nat.sub n2 Hp.n) H1 H2, W1 ++ W2, r1 ++ r2)
      | _, _ => none
    | _, _ => none

theorem stepK_some {α : Type} {P : Program} {call : CallF} {ops : List Oper} {i : Nat} {k : S → H → Option α} {pk : V → H → Option α} {s : S} {Hp : H} {a : α} (h : stepK P call ops i k pk s Hp = some a) : ∃ o, ops[i]? = some o ∧ ((guardX ops s o = some true ∧ ((∃ s2 H2, opX P call s Hp o = some (s2, H2) ∧ k s2 H2 = some a) ∨ ∃ v H2, opP call s Hp o = some (v, H2) ∧ pk v H2 = some a)) ∨ (guardX ops s o = some false ∧ k (putD s o.dst (.tup [])) Hp = some a)) := by
  unfold stepK at h
  split at h
  · rename_i o ho
    split at h
    · rename_i hg
      split at h
      · rename_i s2 H2 h1; exact ⟨o, ho, .inl ⟨hg, .inl ⟨s2, H2, h1, h⟩⟩⟩
      · split at h
        · rename_i v H2 h1; exact ⟨o, ho, .inl ⟨hg, .inr ⟨v, H2, h1, h⟩⟩⟩
        · cases h
    · rename_i hg; exact ⟨o, ho, .inr ⟨hg, h⟩⟩
    · cases h
  · cases h

theorem stepK_pair {α : Type} {P : Program} {call : CallF} {ops : List Oper} {i : Nat} {k : S → H → Option α} {s : S} {Hp : H} {n : Nat} {a : α} (h : stepK P call ops i (fun s2 H2 => pairN H2.n (k s2 H2)) (fun _ _ => none) s Hp = some (n, a)) : stepK P call ops i k (fun _ _ => none) s Hp = some a := by
  have pn : ∀ {m : Nat} {x : Option α}, pairN m x = some (n, a) → x = some a := fun {m x} h => by
    cases x with
    | none => cases h
    | some y => cases h; rfl
  unfold stepK at h ⊢
  split at h
  · split at h
    · split at h
      · exact pn h
      · split at h <;> cases h
    · exact pn h
    · cases h
  · cases h
theorem lateX_ext {P : Program} {call : CallF} (hcall : CallOk P call) {ops : List Oper} {m : Nat} : ∀ {p : Plan} {s : S} {Hp : H} {e : EX} {s2 : S} {H2 : H}, lateX P call ops m p s Hp = some (e, s2, H2) → Ext Hp H2 := by
  intro p
  induction p with
  | done => intro s Hp e s2 H2 h; cases h; exact .refl _
  | calm => intro s Hp e s2 H2 h; cases h
  | either => intro s Hp e s2 H2 h; cases h
  | must i p ih =>
    intro s Hp e s2 H2 h
    simp only [lateX] at h
    split at h
    · cases h
    · split at h
      · split at h
        · split at h
          · rename_i ho
            exact (opX_ext hcall ho).trans (ih h)
          · split at h
            · rename_i hp
              cases h
              exact opP_ext hcall ⟨_, hp⟩
            · cases h
        · exact ih h
        · cases h
      · cases h

theorem drawX_ext {P : Program} {call : CallF} (hcall : CallOk P call) {ops : List Oper} {h0 : T O} {m : Nat} {ms : List Nat} : ∀ {p : Plan} {fresh : Bool} {s : S} {Hp : H} {rd : List Nat} {e : EX} {s2 : S} {H2 : H} {W rd2 : List Nat}, drawX P call ops h0 m ms fresh p s Hp rd = some (e, s2, H2, W, rd2) → Ext Hp H2 ∧ (∀ k ∈ Hp.log, k ∈ W) ∧ (∀ k ∈ W, k ∈ H2.log) ∧ (∀ k ∈ rd, k ∈ rd2) := by
  intro p
  induction p with
  | done => intro fresh s Hp rd e s2 H2 W rd2 h; cases h; exact ⟨.refl _, fun _ h => h, fun _ h => h, fun _ h => h⟩
  | calm i p ih =>
    intro fresh s Hp rd e s2 H2 W rd2 h
    simp only [drawX] at h
    split at h
    · split at h
      · split at h
        · split at h
          · exact ih h
          · obtain ⟨h0, h1, h2, h3⟩ := ih h; exact ⟨h0, h1, h2, fun k hk => h3 k (List.mem_cons_of_mem _ hk)⟩
        · exact ih h
        · cases h
      · split at h
        · exact ih h
        · cases h
      · cases h
    · cases h
  | must i p ih =>
    intro fresh s Hp rd e s2 H2 W rd2 h
    simp only [drawX] at h
    split at h
    · obtain ⟨o, _, ⟨_, ⟨s3, H3, ho, h⟩ | ⟨v, H3, ho, h⟩⟩ | ⟨_, h⟩⟩ := stepK_some h
      · obtain ⟨h0, h1, h2, h3⟩ := ih h
        exact ⟨(opX_ext hcall ho).trans h0, fun k hk => h1 k ((opX_ext hcall ho).log k hk), h2, h3⟩
      · cases h
        exact ⟨opP_ext hcall ⟨_, ho⟩, (opP_ext hcall ⟨_, ho⟩).log, fun _ h => h, fun _ h => h⟩
      · exact ih h
    · split at h
      · rename_i hl
        cases h
        exact ⟨lateX_ext hcall hl, fun _ h => h, (lateX_ext hcall hl).log, fun _ h => h⟩
      · cases h
  | either i p j q ihp ihq =>
    intro fresh s Hp rd e s2 H2 W rd2 h
    simp only [drawX] at h
    split at h
    · rename_i n3 s3 H3 W3 r3 n4 s4 H4 W4 r4 e1 e2
      split at h
      · rename_i c1 c2
        cases h
        have e1 := stepK_pair e1
        have e2 := stepK_pair e2
        have k1 : Ext Hp H3 ∧ (∀ k ∈ Hp.log, k ∈ W3) ∧ (∀ k ∈ W3, k ∈ H3.log) ∧ (∀ k ∈ rd, k ∈ r3) := by
          obtain ⟨o, _, ⟨_, ⟨s5, H5, ho, h⟩ | ⟨v, H5, ho, h⟩⟩ | ⟨_, h⟩⟩ := stepK_some e1
          · obtain ⟨h0, h1, h2, h3⟩ := ihp h
            exact ⟨(opX_ext hcall ho).trans h0, fun k hk => h1 k ((opX_ext hcall ho).log k hk), h2, h3⟩
          · cases h
          · exact ihp h
        have k2 : Ext Hp H4 ∧ (∀ k ∈ Hp.log, k ∈ W4) ∧ (∀ k ∈ W4, k ∈ H4.log) ∧ (∀ k ∈ rd, k ∈ r4) := by
          obtain ⟨o, _, ⟨_, ⟨s5, H5, ho, h⟩ | ⟨v, H5, ho, h⟩⟩ | ⟨_, h⟩⟩ := stepK_some e2
          · obtain ⟨h0, h1, h2, h3⟩ := ihq h
            exact ⟨(opX_ext hcall ho).trans h0, fun k hk => h1 k ((opX_ext hcall ho).log k hk), h2, h3⟩
          · cases h
          · exact ihq h
        refine ⟨k1.1.both1, fun k hk => List.mem_append_left _ (k1.2.1 k hk), fun k hk => ?_, fun k hk => List.mem_append_left _ (k1.2.2.2 k hk)⟩
        rcases List.mem_append.1 hk with hk | hk
        · exact List.mem_append_left _ (k1.2.2.1 k hk)
        · exact List.mem_append_right _ (List.mem_append_left _ (k2.2.2.1 k hk))
      · cases h
    · cases h
theorem drawX_log {P : Program} {call : CallF} (hcall : CallOk P call) {ops : List Oper} {h0 : T O} {m : Nat} {ms : List Nat} {p : Plan} {fresh : Bool} {s : S} {Hp : H} {rd : List Nat} {e : EX} {s2 : S} {H2 : H} {W rd2 : List Nat} (h : drawX P call ops h0 m ms fresh p s Hp rd = some (e, s2, H2, W, rd2)) : (∀ k ∈ Hp.log, k ∈ W) ∧ (∀ k ∈ W, k ∈ H2.log) ∧ (∀ k ∈ rd, k ∈ rd2) := (drawX_ext hcall h).2
theorem stepK_ext {P : Program} {call : CallF} (hcall : CallOk P call) {ops : List Oper} {h0 : T O} {m : Nat} {ms : List Nat} {p : Plan} {i : Nat} {s : S} {Hp : H} {rd : List Nat} {e : EX} {s2 : S} {H2 : H} {W rd2 : List Nat} (h : stepK P call ops i (fun s2 H2 => drawX P call ops h0 m ms false p s2 H2 rd) (fun _ _ => none) s Hp = some (e, s2, H2, W, rd2)) : Ext Hp H2 := by
  obtain ⟨o, _, ⟨_, ⟨s5, H5, ho, h⟩ | ⟨v, H5, ho, h⟩⟩ | ⟨_, h⟩⟩ := stepK_some h
  · exact (opX_ext hcall ho).trans (drawX_ext hcall h).1
  · cases h
  · exact (drawX_ext hcall h).1

section
variable {c : Cx} {K : Exit → St → Prop} {call : CallF}
theorem guard_must {ops : Array Oper} {bs : Bs} {s : S} {σ : St} {o : Oper} (hs : CovS bs s σ.s) (hg : guardX ops.toList s o = some true) : o.guard = none ∨ ∃ j want og dg, o.guard = some (j, want) ∧ ops[j]? = some og ∧ og.dst = some dg ∧ look σ.s dg = some (.bool want) := by
  rcases guardX_ok hs hg with ⟨_, hgn⟩ | ⟨j, want, og, dg, hg1, hj, hdg, ⟨_, hb⟩ | ⟨hb, _⟩⟩
  · exact .inl hgn
  · exact .inr ⟨j, want, og, dg, hg1, hj, hdg, hb⟩
  · cases hb
theorem lateX_ok (hcall : CallOk c.P call) {ops : Array Oper} {Ls L0 : List (Nat × Obj)} {m : Nat} {ms : List Nat} (hdst : ∀ o ∈ ops.toList, dok c.N o.dst = true) :
    ∀ (p : Plan) {fresh : Bool} {bs : Bs} {s : S} {Hp : H} {M F : List (Nat × Obj)} {e : EX} {s2 : S} {H2 : H} {σ : St}, lateX c.P call ops.toList m p s Hp = some (e, s2, H2) → Cov bs s Hp M F σ → (∀ e' σ', DoneK bs Hp M F e s2 H2 e' σ' → K e' σ') → WS c ops K Ls L0 m ms fresh p σ := by
  intro p
  induction p with
  | done =>
    intro fresh bs s Hp M F e s2 H2 σ h hcov hk
    cases h
    exact hk .normal σ ⟨rfl, Post.self hcov.D hcov.L hcov.slots hcov.mem⟩
  | calm => intro fresh bs s Hp M F e s2 H2 σ h; cases h
  | either => intro fresh bs s Hp M F e s2 H2 σ h; cases h
  | must i p ih =>
    intro fresh bs s Hp M F e s2 H2 σ h hcov hk
    simp only [lateX] at h
    split at h
    · cases h
    · rename_i him
      have him : ¬ i < m := fun hlt => by rw [show Nat.blt i m = true by rw [Nat.blt_eq]; exact hlt] at him; cases him
      split at h
      · rename_i o hi
        have hd := hdst o (List.mem_of_getElem? hi)
        have hi' : ops[i]? = some o := by simpa using hi
        split at h
        · rename_i hg
          split at h
          · rename_i s1 H1 h1
            have hO : OW c o (fun σ' => (i < m → ∀ q ∈ Ls, q ∈ σ'.L) ∧ WS c ops K Ls L0 m ms false p σ') K σ := (opX_ok hcall hd hcov h1).mono fun σ1 hp1 => by
              obtain ⟨r1, M1, hcov1, hl1, hp1, _⟩ := hp1.split
              exact ⟨fun hlt => absurd hlt him, ih h hcov1 fun e' σ' hp2 => hk e' σ' (DoneK.comp hl1 hp1 hp2)⟩
            exact ⟨o, hi', .inl ⟨guard_must hcov.slots hg, hO⟩⟩
          · split at h
            · rename_i v H3 h3
              cases h
              exact ⟨o, hi', .inl ⟨guard_must hcov.slots hg, opP_ok hcall hcov h3 hk⟩⟩
            · cases h
        · rename_i hg
          have hrest := ih (fresh := false) h (hcov.undef o.dst) hk
          refine ⟨o, hi', .inr ⟨?_, hd, fun hlt => absurd hlt him, hrest⟩⟩
          rcases guardX_ok hcov.slots hg with ⟨hb, _⟩ | ⟨j, want, og, dg, hg1, hj, hdg, ⟨hb, _⟩ | ⟨_, u, hu, he⟩⟩
          · cases hb
          · cases hb
          · exact ⟨j, want, og, dg, u, hg1, hj, hdg, hu, he⟩
        · cases h
      · cases h
end

section
variable {c : Cx} {K : Exit → St → Prop} {call : CallF}
theorem mustW (hcall : CallOk c.P call) {ops : Array Oper} {Ls L0 : List (Nat × Obj)} {ms : List Nat} {fresh : Bool} {W : List Nat} {bs0 : Bs} {m : Nat} (hdst : ∀ o ∈ ops.toList, dok c.N o.dst = true) {α : Type} {a : α} {k : S → H → Option α} {pk : V → H → Option α} {i : Nat} {p : Plan} {r : Bs} {s : S} {Hp : H} {M F : List (Nat × Obj)} {σ : St} (h : stepK c.P call ops.toList i k pk s Hp = some a)
    (hlog : ∀ s1 H1, k s1 H1 = some a → ∀ x ∈ H1.log, x ∈ W) (hcov : Cov (bs0 ++ r) s Hp M F σ) (hp : Prot (bs0 ++ r) Hp M W Ls) (hpan : ∀ v H1, pk v H1 = some a → ∀ e' σ', DoneK (bs0 ++ r) Hp M F (.panic v) noS H1 e' σ' → K e' σ')
    (hcont : ∀ {r' s' H' M' σ'}, k s' H' = some a → Cov (bs0 ++ r') s' H' M' F σ' → Prot (bs0 ++ r') H' M' W Ls → (∀ {e s2 H2 e' σ2}, DoneK (bs0 ++ r') H' M' F e s2 H2 e' σ2 → DoneK (bs0 ++ r) Hp M F e s2 H2 e' σ2) → WS c ops K Ls L0 m ms false p σ') : WS c ops K Ls L0 m ms fresh (.must i p) σ := by
  obtain ⟨o, hi, h⟩ := stepK_some h
  have hd := hdst o (List.mem_of_getElem? hi)
  have hi' : ops[i]? = some o := by simpa using hi
  rcases h with ⟨hg, ⟨s1, H1, h1, h2⟩ | ⟨v, H1, h1, h2⟩⟩ | ⟨hg, h2⟩
  · have hO : OW c o (fun σ' => (i < m → ∀ q ∈ Ls, q ∈ σ'.L) ∧ WS c ops K Ls L0 m ms false p σ') K σ := (opX_ok hcall hd hcov h1).mono fun σ1 hp1 => by
      obtain ⟨r1, M1, hcov1, hl1, hprot, _⟩ := hp1.split
      have hp1' := hprot W Ls (hlog s1 H1 h2) hp
      have hcov1' := hcov1
      rw [List.append_assoc] at hcov1 hp1'
      exact ⟨fun _ q hq => by rw [hcov1.L]; exact List.mem_append_left _ (hp1' q hq).1, hcont h2 hcov1 hp1' fun hp2 => DoneK.comp hl1 hprot (by rw [List.append_assoc]; exact hp2)⟩
    exact ⟨o, hi', .inl ⟨guard_must hcov.slots hg, hO⟩⟩
  · exact ⟨o, hi', .inl ⟨guard_must hcov.slots hg, opP_ok hcall hcov h1 (hpan v H1 h2)⟩⟩
  · have hrest := hcont h2 (hcov.undef o.dst) hp (fun hp2 => hp2)
    refine ⟨o, hi', .inr ⟨?_, hd, fun _ q hq => by rw [hcov.L]; exact List.mem_append_left _ (hp q hq).1, hrest⟩⟩
    rcases guardX_ok hcov.slots hg with ⟨hb, _⟩ | ⟨j, want, og, dg, hg1, hj, hdg, ⟨hb, _⟩ | ⟨_, u, hu, he⟩⟩
    · cases hb
    · cases hb
    · exact ⟨j, want, og, dg, u, hg1, hj, hdg, hu, he⟩
theorem drawX_ok (hcall : CallOk c.P call) {ops : Array Oper} {h0 : T O} {Ls L0 : List (Nat × Obj)} {ms : List Nat} {W R : List Nat} {bs0 : Bs} {m : Nat} (hdst : ∀ o ∈ ops.toList, dok c.N o.dst = true) (hdisj : ∀ k ∈ R, k ∉ W) (h0ok : ∀ k o, h0.get k = some o → k ∉ W → At bs0 Ls k o) (h0all : ∀ k o, h0.get k = some o → At bs0 L0 k o) :
    ∀ (p : Plan) {fresh : Bool} {r : Bs} {s : S} {Hp : H} {rd : List Nat} {M F : List (Nat × Obj)} {e : EX} {s2 : S} {H2 : H} {W2 rd2 : List Nat} {σ : St}, drawX c.P call ops.toList h0 m ms fresh p s Hp rd = some (e, s2, H2, W2, rd2) → (∀ k ∈ W2, k ∈ W) → (∀ k ∈ rd2, k ∈ R) → Cov (bs0 ++ r) s Hp M F σ → Prot (bs0 ++ r) Hp M W Ls → (∀ e' σ', DoneK (bs0 ++ r) Hp M F e s2 H2 e' σ' → K e' σ') → WS c ops K Ls L0 m ms fresh p σ := by
  intro p
  induction p with
  | done =>
    intro fresh r s Hp rd M F e s2 H2 W2 rd2 σ h _ _ hcov _ hk
    cases h
    exact hk .normal σ ⟨rfl, Post.self hcov.D hcov.L hcov.slots hcov.mem⟩
  | calm i p ih =>
    intro fresh r s Hp rd M F e s2 H2 W2 rd2 σ h hW hR hcov hp hk
    simp only [drawX] at h
    split at h
    · rename_i o hi
      have hd := hdst o (List.mem_of_getElem? hi)
      have hi' : ops[i]? = some o := by simpa using hi
      split at h
      · rename_i hg
        have step : ∀ {v : V} {v' : Value} {rd3 : List Nat} (X : List (Nat × Obj)), (X = Ls ∨ X = L0 ∧ aheadOk ops ms m i = true ∧ fresh = true) → Qt c σ.s X o v' → RV (bs0 ++ r) v v' → drawX c.P call ops.toList h0 m ms fresh p (putD s o.dst v) Hp rd3 = some (e, s2, H2, W2, rd2) → WS c ops K Ls L0 m ms fresh (.calm i p) σ := by
          intro v v' rd3 X hX hq hv h
          have hcov2 : Cov (bs0 ++ r) (putD s o.dst v) Hp M F (σ.put o.dst v') := ⟨CovS.putD hcov.slots hv, by rw [put_D]; exact hcov.D, hcov.mem, by rw [put_L]; exact hcov.L⟩
          have hrest := ih h hW hR hcov2 hp hk
          refine ⟨o, v', X, hi', hd, hX, ?_, hrest⟩
          rcases guardX_ok hcov.slots hg with ⟨_, hgn⟩ | ⟨j, want, og, dg, hg1, hj, hdg, ⟨_, hb⟩ | ⟨hb, _⟩⟩
          · exact .inl ⟨hq, hgn⟩
          · exact .inr ⟨j, want, og, dg, _, hg1, hj, hdg, hb, .inl ⟨rfl, hq⟩⟩
          · cases hb
        split at h
        · rename_i v k hc
          split at h
          · rename_i hah
            obtain ⟨v', h1, h2⟩ := calmX_ok (Ls := L0) hc hcov.slots (fun k' ob e hk' => by
              cases e
              exact (h0all k ob hk').mono r)
            exact step L0 (.inr ⟨rfl, aheadX_ok hah, rfl⟩) h1 h2 h
          · obtain ⟨_, _, hrd⟩ := drawX_log hcall h
            obtain ⟨v', h1, h2⟩ := calmX_ok (Ls := Ls) hc hcov.slots (fun k' ob e hk' => by
              cases e
              exact (h0ok k ob hk' (hdisj k (hR k (hrd k List.mem_cons_self)))).mono r)
            exact step Ls (.inl rfl) h1 h2 h
        · rename_i v hc
          obtain ⟨v', h1, h2⟩ := calmX_ok (Ls := Ls) hc hcov.slots (fun k' ob e _ => by cases e)
          exact step Ls (.inl rfl) h1 h2 h
        · cases h
      · rename_i hg
        split at h
        · rename_i hnd
          have hrest := ih h hW hR (hcov.undef o.dst) hp hk
          refine ⟨o, undef, Ls, hi', hd, .inl rfl, ?_, hrest⟩
          have hnd' : ∀ cc, o.op ≠ .defer cc := fun cc h => by rw [h] at hnd; cases hnd
          rcases guardX_ok hcov.slots hg with ⟨hb, _⟩ | ⟨j, want, og, dg, hg1, hj, hdg, ⟨hb, _⟩ | ⟨_, u, hu, he⟩⟩
          · cases hb
          · cases hb
          · exact .inr ⟨j, want, og, dg, u, hg1, hj, hdg, hu, .inr ⟨he, rfl, hnd'⟩⟩
        · cases h
      · cases h
    · cases h
  | must i p ih =>
    intro fresh r s Hp rd M F e s2 H2 W2 rd2 σ h hW hR hcov hp hk
    simp only [drawX] at h
    split at h
    · exact mustW hcall hdst h (fun s1 H1 h1 x hx => hW x ((drawX_log hcall h1).1 x hx)) hcov hp (fun v H1 h1 => by cases h1; exact hk) fun h1 hc1 hp1 hcomp => ih h1 hW hR hc1 hp1 fun e' σ' hp2 => hk e' σ' (hcomp hp2)
    · split at h
      · rename_i hl
        cases h
        exact lateX_ok hcall hdst _ hl hcov hk
      · cases h
  | either i p j q ihp ihq =>
    intro fresh r s Hp rd M F e s2 H2 W2 rd2 σ h hW hR hcov hp hk
    simp only [drawX] at h
    split at h
    · rename_i n3 s3 H3 W3 r3 n4 s4 H4 W4 r4 e1 e2
      split at h
      · rename_i c1 c2
        cases h
        have e1 := stepK_pair e1
        have e2 := stepK_pair e2
        refine ⟨?_, ?_⟩
        · exact mustW (fresh := fresh) hcall hdst e1 (fun s1 H1 h1 x hx => hW x (List.mem_append_left _ ((drawX_log hcall h1).1 x hx))) hcov hp (fun v H1 h1 => by cases h1) fun h1 hc1 hp1 hcomp => ihp h1 (fun x hx => hW x (List.mem_append_left _ hx)) (fun x hx => hR x (List.mem_append_left _ hx)) hc1 hp1 fun e' σ' hp2 => by
            have h3 := hcomp hp2
            exact hk e' σ' ⟨h3.1, Post.both1 h3.2⟩
        · exact mustW (fresh := fresh) hcall hdst e2 (fun s1 H1 h1 x hx => hW x (List.mem_append_right _ ((drawX_log hcall h1).1 x hx))) hcov hp (fun v H1 h1 => by cases h1) fun h1 hc1 hp1 hcomp => ihq h1 (fun x hx => hW x (List.mem_append_right _ hx)) (fun x hx => hR x (List.mem_append_right _ hx)) hc1 hp1 fun e' σ' hp2 => by
            have h3 := hcomp hp2
            exact hk e' σ' ⟨h3.1, Post.both2 hcov.mem (stepK_ext hcall e1) c2 (fun t v => S.leq_ok c1) h3.2⟩
      · cases h
    · cases h
end

end
end Go.Proofs.Ytnpiiphiiaiodaa
