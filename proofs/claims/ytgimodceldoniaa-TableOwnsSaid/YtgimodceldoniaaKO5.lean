/-
  A part of what the last of these texts needs; by itself it proves no statement.
-/
import Derived.Test.YtgimodceldoniaaKO4
namespace Go.Proofs.Ytgimodceldoniaa
open Go.RowKit
noncomputable section
attribute [local irreducible] T.put T.set
structure CallF where
  f : FuncId → List V → H → Option (V × H)
  y : Nat → List V → H → Option (V × H)
  p : FuncId → List V → H → Option (V × H)
  d : FuncId → List V → Option V → H → Option (Option V × H)
def RM (bs : Bs) : Option V → FrameMode → Prop
  | none, u => u = .returning
  | some v, u => ∃ v', u = .panicking (pan v') ∧ RV bs v v'
def FPost (bs : Bs) (Hp : H) (M F : List (Nat × Obj)) (v : V) (H2 : H) (v' : Value) (L' : List (Nat × Obj)) : Prop :=
  ∃ (r : Bs) (M' : List (Nat × Obj)), L' = M' ++ F ∧ RV (bs ++ r) v v' ∧ HCov (bs ++ r) H2 M' ∧ H2.ds = Hp.ds ∧ (∀ k ∈ Hp.log, k ∈ H2.log) ∧ ∀ W B, (∀ k ∈ H2.log, k ∈ W) → Prot bs Hp M W B → Prot (bs ++ r) H2 M' W B
def DPost (bs : Bs) (Hp : H) (M F : List (Nat × Obj)) (m : Option V) (H2 : H) (u' : FrameMode) (L' : List (Nat × Obj)) : Prop :=
  ∃ (r : Bs) (M' : List (Nat × Obj)), L' = M' ++ F ∧ RM (bs ++ r) m (settle u') ∧ HCov (bs ++ r) H2 M' ∧ H2.ds = Hp.ds ∧ (∀ k ∈ Hp.log, k ∈ H2.log) ∧ ∀ W B, (∀ k ∈ H2.log, k ∈ W) → Prot bs Hp M W B → Prot (bs ++ r) H2 M' W B
structure CallOk (P : Program) (call : CallF) : Prop where
  fx : ∀ f vs Hp v H2, call.f f vs Hp = some (v, H2) → Ext Hp H2
  yx : ∀ k vs Hp v H2, call.y k vs Hp = some (v, H2) → Ext Hp H2
  px : ∀ f vs Hp v H2, call.p f vs Hp = some (v, H2) → Ext Hp H2
  dx : ∀ f vs m Hp m2 H2, call.d f vs m Hp = some (m2, H2) → Ext Hp H2
  pc : ∀ f vs Hp v H2, call.p f vs Hp = some (v, H2) → FCall P f
  pn : ∀ f vs Hp v H2, call.p f vs Hp = some (v, H2) → ∀ bs M F vs', HCov bs Hp M → RVs bs vs vs' → FnP P f vs' (M ++ F) (FPost bs Hp M F v H2)
  dc : ∀ f vs m Hp m2 H2, call.d f vs m Hp = some (m2, H2) → FCall P f
  dn : ∀ f vs m Hp m2 H2, call.d f vs m Hp = some (m2, H2) → ∀ bs M F vs' u, HCov bs Hp M → RVs bs vs vs' → RM bs m u → FnD P f vs' (M ++ F) u (DPost bs Hp M F m2 H2)
  fc : ∀ f vs Hp v H2, call.f f vs Hp = some (v, H2) → FCall P f
  fn : ∀ f vs Hp v H2, call.f f vs Hp = some (v, H2) → ∀ bs M F vs', HCov bs Hp M → RVs bs vs vs' → Fn P f vs' (M ++ F) (FPost bs Hp M F v H2)
  yn : ∀ k vs Hp v H2, call.y k vs Hp = some (v, H2) → ∀ bs M F vs' l x y, HCov bs Hp M → bs[k]? = some (l, x, y) → RVs bs vs vs' → YieldFn P l vs' (M ++ F) (FPost bs Hp M F v H2)
def finX (s : S) (Hp : H) (d : Option Nat) : Option (V × H) → SX
  | some (v, H2) => match V.low Hp.n v, newN Hp.n H2.log with
    | true, true => some (putD s d v, Hp)
    | _, _ => some (putD s d v, ⟨H2.h, H2.n, H2.log ++ Hp.log, Hp.ds⟩)
  | none => none
def callV (call : CallF) (s : S) (Hp : H) (d : Option Nat) : Option V → Option (List V) → SX
  | some (.fn (.func f) A B), some vs => finX s Hp d (call.f f (A ++ (vs ++ B)) ⟨Hp.h, Hp.n, [], Hp.ds⟩)
  | some (.yld k), some vs => finX s Hp d (call.y k vs ⟨Hp.h, Hp.n, [], Hp.ds⟩)
  | _, _ => none
def invokeV (P : Program) (call : CallF) (s : S) (Hp : H) (d : Option Nat) (name : String) : Option V → Option (List V) → SX
  | some (.ifc t v), some vs => match methX P t name with
    | some f => finX s Hp d (call.f f (v :: vs) ⟨Hp.h, Hp.n, [], Hp.ds⟩)
    | none => none
  | _, _ => none
def callX (P : Program) (call : CallF) (s : S) (Hp : H) (cl : Call) (d : Option Nat) : SX := match cl.callee with
  | .value x => callV call s Hp d (evX s x) (evsX s cl.args.toList)
  | .invoke x name => invokeV P call s Hp d name (evX s x) (evsX s cl.args.toList)
  | .builtin .append => match d with
    | some d => match cl.args.toList, cl.argTypes.toList with
      | [x, y], [t, t2] => appendX P s Hp t t2 x y d
      | _, _ => none
    | none => none
  | .builtin .clear => match cl.args.toList, cl.argTypes.toList with
    | [x], [t] => clearX P s Hp t x d
    | _, _ => none
  | .builtin .delete => match cl.args.toList, cl.argTypes.toList with
    | [m, k], [t, _] => deleteX P s Hp t m k d
    | _, _ => none
  | _ => none
def effX (P : Program) (call : CallF) (s : S) (Hp : H) (op : Op) (d : Option Nat) : SX := match op with
  | .convert t t' x => match d with
    | some d => textX P s Hp t t' x d
    | none => none
  | .call cl => callX P call s Hp cl d
  | .alloc t => match d with
    | some d => allocX P s Hp t d
    | none => none
  | .box t x => match d with
    | some d => boxX s Hp t x d
    | none => none
  | .store t x y => match d with
    | some _ => none
    | none => storeX P s Hp t x y
  | .makeSlice t x y => match d with
    | some d => makeSliceX P s Hp t x y d
    | none => none
  | .buildSlice t n parts => match d with
    | some d => buildSliceX P s Hp t n parts.toList d
    | none => none
  | .makeMap t r => match d with
    | some d => makeMapX P s Hp t r d
    | none => none
  | .mapUpdate t m k x => match d with
    | some _ => none
    | none => mapUpdateX P s Hp t m k x
  | .insert t m k x => match d with
    | some _ => none
    | none => mapUpdateX P s Hp t m k x
  | _ => none
def opX (P : Program) (call : CallF) (s : S) (Hp : H) (o : Oper) : SX := match calmX P s Hp.h o.op with
  | some (v, _) => some (putD s o.dst v, Hp)
  | none => effX P call s Hp o.op o.dst
def panV (call : CallF) (Hp : H) : Option V → Option (List V) → Option (V × H)
  | some (.fn (.func f) A B), some vs => match call.p f (A ++ (vs ++ B)) ⟨Hp.h, Hp.n, [], Hp.ds⟩ with
    | some (v, H2) => some (v, ⟨H2.h, H2.n, H2.log ++ Hp.log, Hp.ds⟩)
    | none => none
  | _, _ => none
def panM (P : Program) (call : CallF) (Hp : H) (name : String) : Option V → Option (List V) → Option (V × H)
  | some (.ifc t v), some vs => match methX P t name with
    | some f => match call.p f (v :: vs) ⟨Hp.h, Hp.n, [], Hp.ds⟩ with
      | some (v, H2) => some (v, ⟨H2.h, H2.n, H2.log ++ Hp.log, Hp.ds⟩)
      | none => none
    | none => none
  | _, _ => none
def opP (P : Program) (call : CallF) (s : S) (Hp : H) (o : Oper) : Option (V × H) := match o.op with
  | .call cl => match cl.callee with
    | .value x => panV call Hp (evX s x) (evsX s cl.args.toList)
    | .invoke x name => panM P call Hp name (evX s x) (evsX s cl.args.toList)
    | _ => none
  | .panic x => match evX s x with
    | some (.ifc t v) => some (.ifc t v, Hp)
    | _ => none
  | _ => none
inductive EX where
  | normal
  | ret
  | exit (id : Nat)
  | panic (v : V)
def EX.to : EX → Exit
  | .normal => .normal
  | .ret => .ret
  | .exit id => .exit id
  | .panic _ => .normal
abbrev CX := Option (EX × S × H)
def noS : S := ⟨[], [], 0⟩
def PPost (bs : Bs) (Hp : H) (M F : List (Nat × Obj)) (v : V) (s2 : S) (H2 : H) (v' : Value) (σ' : St) : Prop :=
  ∃ (r : Bs) (M' : List (Nat × Obj)), RD (bs ++ r) H2.ds σ'.D ∧ σ'.L = M' ++ F ∧ CovS (bs ++ r) s2 σ'.s ∧ HCov (bs ++ r) H2 M' ∧ (∀ k ∈ Hp.log, k ∈ H2.log) ∧ (∀ W B, (∀ k ∈ H2.log, k ∈ W) → Prot bs Hp M W B → Prot (bs ++ r) H2 M' W B) ∧ RV (bs ++ r) v v'
def DoneK (bs : Bs) (Hp : H) (M F : List (Nat × Obj)) (e : EX) (s2 : S) (H2 : H) (e' : Exit) (σ' : St) : Prop := match e with
  | .panic v => ∃ v', e' = .panic (pan v') ∧ PPost bs Hp M F v s2 H2 v' σ'
  | _ => e' = e.to ∧ Post bs Hp M F s2 H2 σ'
theorem DoneK.comp {bs r : Bs} {Hp H1 : H} {M M1 F : List (Nat × Obj)} (hl : ∀ k ∈ Hp.log, k ∈ H1.log) (hp : ∀ W B, (∀ k ∈ H1.log, k ∈ W) → Prot bs Hp M W B → Prot (bs ++ r) H1 M1 W B) {e : EX} {s2 : S} {H2 : H} {e' : Exit} {σ2 : St} (h : DoneK (bs ++ r) H1 M1 F e s2 H2 e' σ2) : DoneK bs Hp M F e s2 H2 e' σ2 := by
  have fin : ∀ {A : Bs → Prop}, (∃ (r2 : Bs) (M' : List (Nat × Obj)), RD (bs ++ r ++ r2) H2.ds σ2.D ∧ σ2.L = M' ++ F ∧ CovS (bs ++ r ++ r2) s2 σ2.s ∧ HCov (bs ++ r ++ r2) H2 M' ∧ (∀ k ∈ H1.log, k ∈ H2.log) ∧ (∀ W B, (∀ k ∈ H2.log, k ∈ W) → Prot (bs ++ r) H1 M1 W B → Prot (bs ++ r ++ r2) H2 M' W B) ∧ A (bs ++ r ++ r2)) →
      ∃ (r2 : Bs) (M' : List (Nat × Obj)), RD (bs ++ r2) H2.ds σ2.D ∧ σ2.L = M' ++ F ∧ CovS (bs ++ r2) s2 σ2.s ∧ HCov (bs ++ r2) H2 M' ∧ (∀ k ∈ Hp.log, k ∈ H2.log) ∧ (∀ W B, (∀ k ∈ H2.log, k ∈ W) → Prot bs Hp M W B → Prot (bs ++ r2) H2 M' W B) ∧ A (bs ++ r2) := fun {A} ⟨r2, M2, f1, f2, f3, f4, f5, f6, f7⟩ =>
    ⟨r ++ r2, M2, by rw [← List.append_assoc]; exact f1, f2, by rw [← List.append_assoc]; exact f3, by rw [← List.append_assoc]; exact f4, fun k hk => f5 k (hl k hk), fun W B hW hB => by
      rw [← List.append_assoc]; exact f6 W B hW (hp W B (fun k hk => hW k (f5 k hk)) hB), by rw [← List.append_assoc]; exact f7⟩
  have fin2 : Post (bs ++ r) H1 M1 F s2 H2 σ2 → Post bs Hp M F s2 H2 σ2 := fun ⟨r2, M2, f1, f2, f3, f4, f5, f6⟩ => by
    obtain ⟨r3, M3, g1, g2, g3, g4, g5, g6, _⟩ := fin (A := fun _ => True) ⟨r2, M2, f1, f2, f3, f4, f5, f6, trivial⟩
    exact ⟨r3, M3, g1, g2, g3, g4, g5, g6⟩
  cases e with
  | panic v => obtain ⟨v', h1, h2⟩ := h; exact ⟨v', h1, fin (A := fun bs => RV bs v v') h2⟩
  | normal => exact ⟨h.1, fin2 h.2⟩
  | ret => exact ⟨h.1, fin2 h.2⟩
  | exit id => exact ⟨h.1, fin2 h.2⟩
section
variable {c : Cx} {o : Oper} {K : Exit → St → Prop} {σ : St} {bs : Bs} {s : S} {Hp : H} {M F : List (Nat × Obj)} {s2 : S} {H2 : H} {call : CallF}
theorem OW_callW {Kn : St → Prop} {f : FuncId} {x : Operand} {A B : Array Value} {args : Array Operand} {tys : Array TypeId} [hf : FCall c.P f] {vs : List Value} {R : Value → List (Nat × Obj) → Prop}
    (ho : o.op = .call { callee := .value x, args := args, argTypes := tys }) (hx : ev σ.s x = some (.func (.func f) A B)) (ha : evs σ.s args.toList = some vs) (hd : dok c.N o.dst = true) (hF : Fn c.P f (A.toList ++ vs ++ B.toList) σ.L R) (hk : ∀ v L', R v L' → Kn (St.put ⟨σ.s, σ.D, L'⟩ o.dst v)) : OW c o Kn K σ := fun a w hH => by
  refine ⟨fun _ _ => trivial, ?_⟩
  have hargs : args.map a.eval = vs.toArray := by
    apply Array.ext'
    simpa using hH.evs ha
  have hr : (execOp a.eval o).run c.P w = .ok (.enter f (A.toList ++ vs ++ B.toList).toArray) w := by
    have e : (A.toList ++ vs ++ B.toList).toArray = A ++ vs.toArray ++ B := by apply Array.ext'; simp
    rw [e]
    simp [execOp, ho, resolve, Deferred.ofValue, hH.ev hx, hargs, invoke, hf.h]
  rw [Oper.semAt_eq _ _ _ (by rw [ho]; intro cc h; cases h), hr]
  refine ⟨fun h => by simp at h, (callsIn_fw c.r _ (hF c.g w hH.mem)).mono fun e w' ⟨v, L', h1, h2, h3⟩ => ?_⟩
  subst h1
  exact ⟨_, (hH.mem' h2).put hd v, hk v L' h3⟩
theorem OW_enterW {Kn : St → Prop} {f : FuncId} {vs : List Value} {R : Value → List (Nat × Obj) → Prop} (hnd : ∀ cc, o.op ≠ .defer cc) (hr : ∀ a w, Holds c.g c.N σ a w → (execOp a.eval o).run c.P w = .ok (.enter f vs.toArray) w)
    (hd : dok c.N o.dst = true) (hF : Fn c.P f vs σ.L R) (hk : ∀ v L', R v L' → Kn (St.put ⟨σ.s, σ.D, L'⟩ o.dst v)) : OW c o Kn K σ := fun a w hH => by
  refine ⟨fun _ _ => trivial, ?_⟩
  rw [Oper.semAt_eq _ _ _ hnd, hr a w hH]
  refine ⟨fun h => by simp at h, (callsIn_fw c.r _ (hF c.g w hH.mem)).mono fun e w' ⟨v, L', h1, h2, h3⟩ => ?_⟩
  subst h1
  exact ⟨_, (hH.mem' h2).put hd v, hk v L' h3⟩
theorem OW_enterP {Kn : St → Prop} {f : FuncId} {vs : List Value} {R : Value → List (Nat × Obj) → Prop} (hnd : ∀ cc, o.op ≠ .defer cc) (hr : ∀ a w, Holds c.g c.N σ a w → (execOp a.eval o).run c.P w = .ok (.enter f vs.toArray) w)
    (hF : FnP c.P f vs σ.L R) (hk : ∀ v L', R v L' → K (.panic (pan v)) ⟨[], σ.D, L'⟩) : OW c o Kn K σ := fun a w hH => by
  refine ⟨fun _ _ => trivial, ?_⟩
  rw [Oper.semAt_eq _ _ _ hnd, hr a w hH]
  refine ⟨fun h => by simp at h, (callsIn_fw c.r _ (hF c.g w hH.mem)).mono fun e w' ⟨v, L', h1, h2, h3⟩ => ?_⟩
  subst h1
  exact ⟨σ.D, L', ⟨hH.size, (fun t u hu => by cases hu), hH.defers, h2⟩, hk v L' h3⟩
theorem invoke_run {x : Operand} {name : String} {args : Array Operand} {tys : Array TypeId} (ho : o.op = .call { callee := .invoke x name, args := args, argTypes := tys }) {t : TypeId} {v : Value} {vs : List Value} (hx : ev σ.s x = some (.iface t v)) (ha : evs σ.s args.toList = some vs) {f : FuncId} (hm : methX c.P t name = some f) [hf : FCall c.P f] (a : Act) (w : World) (hH : Holds c.g c.N σ a w) :
    (execOp a.eval o).run c.P w = .ok (.enter f (v :: vs).toArray) w := by
  have hargs : args.map a.eval = vs.toArray := by
    apply Array.ext'
    simpa using hH.evs ha
  have hpos : 0 < Made.depth := by decide
  obtain ⟨n, hn⟩ : ∃ n, c.P.types.size + Made.depth = n + 1 := ⟨c.P.types.size + Made.depth - 1, by omega⟩
  have hmr := methX_run hm n v w
  have e3 : (v :: vs).toArray = #[v] ++ vs.toArray := by apply Array.ext'; simp
  rw [e3]
  simp [execOp, ho, resolve, hH.ev hx, hargs, invoke, callMethod, hn, hmr, hf.h]
theorem OW_yieldW {Kn : St → Prop} {l : Nat} {x : Operand} {args : Array Operand} {tys : Array TypeId} {vs : List Value} {R : Value → List (Nat × Obj) → Prop}
    (ho : o.op = .call { callee := .value x, args := args, argTypes := tys }) (hx : ev σ.s x = some (.func (.yield l) #[] #[])) (ha : evs σ.s args.toList = some vs) (hd : dok c.N o.dst = true) (hY : YieldFn c.P l vs σ.L R) (hk : ∀ v L', R v L' → Kn (St.put ⟨σ.s, σ.D, L'⟩ o.dst v)) : OW c o Kn K σ := fun a w hH => by
  refine ⟨fun _ _ => trivial, ?_⟩
  have hargs : args.map a.eval = vs.toArray := by
    apply Array.ext'
    simpa using hH.evs ha
  obtain ⟨fn, tmps, assign, body, h1, h2⟩ := hY c.g w (c.n - 1) hH.mem
  have hr : (execOp a.eval o).run c.P w = .ok (.round l fn tmps assign body) w := by
    simp [execOp, ho, resolve, Deferred.ofValue, hH.ev hx, hargs, invoke, h1]
  rw [Oper.semAt_eq _ _ _ (by rw [ho]; intro cc h; cases h), hr]
  have h2' : RoundIn (Fw c.r) (c.n - 1) c.P l fn tmps assign body w fun e w' => ∃ v L', e = .returned v ∧ Mem c.g L' w' ∧ R v L' := h2
  refine ⟨fun h => by simp at h, h2'.mono fun e w' ⟨v, L', h1, h2, h3⟩ => ?_⟩
  subst h1
  exact ⟨_, (hH.mem' h2).put hd v, hk v L' h3⟩
theorem finX_ok {v : V} {H3 : H} {v' : Value} {L' : List (Nat × Obj)} {d : Option Nat} (hcov : Cov bs s Hp M F σ) (hf : FPost bs ⟨Hp.h, Hp.n, [], Hp.ds⟩ M F v H3 v' L') (hc : finX s Hp d (some (v, H3)) = some (s2, H2)) : Post bs Hp M F s2 H2 (St.put ⟨σ.s, σ.D, L'⟩ d v') := by
  obtain ⟨r, M', rfl, g2, g3, gd, g4, g5⟩ := hf
  simp only [finX] at hc
  split at hc
  · rename_i c1 c2
    cases hc
    rw [hcov.mem.n] at c1
    have g2' := g2.strip c1
    have hold : ∀ j o, Hp.h.get j = some o → j ∉ H3.log := fun j o hj hm => by
      have h1 := newN_ok c2 j hm
      have h2 := hcov.mem.lt hj
      rw [hcov.mem.n] at h1; omega
    have stay : ∀ q ∈ M, q ∈ M' := fun q hq => (g5 H3.log [q] (fun _ h => h) (fun q' hq' => by
      obtain rfl := List.mem_singleton.1 hq'
      exact ⟨hq, fun j o x y hj _ => hold j o hj⟩) q (List.mem_singleton.2 rfl)).1
    refine ⟨[], M', by rw [List.append_nil]; cases d <;> exact hcov.D, by cases d <;> rfl, ?_, ?_, fun _ h => h, fun W B _ hB => ?_⟩
    · rw [List.append_nil]; exact CovS.putD (σ := ⟨σ.s, σ.D, M' ++ F⟩) hcov.slots g2'
    · rw [List.append_nil]
      refine ⟨hcov.mem.n, fun k ob hk => ?_, hcov.mem.inj⟩
      obtain ⟨b, base, av, i, o', a1, a2, a3⟩ := hcov.mem.at_ k ob hk
      obtain ⟨i2, hi2⟩ := List.mem_iff_getElem?.1 (stay _ (List.mem_of_getElem? a2))
      exact ⟨b, base, av, i2, o', a1, hi2, a3⟩
    · rw [List.append_nil]
      exact fun q hq => ⟨stay q (hB q hq).1, (hB q hq).2⟩
  · cases hc
    refine ⟨r, M', by cases d <;> exact hcov.D.mono r, by cases d <;> rfl, CovS.putD (σ := ⟨σ.s, σ.D, M' ++ F⟩) (hcov.slots.mono r) g2, ⟨g3.n, g3.at_, g3.inj⟩, fun k hk => List.mem_append_right _ hk, fun W B hW hB => ?_⟩
    have := g5 W B (fun k hk => hW k (List.mem_append_left _ hk)) (by simpa [Prot] using hB)
    exact fun q hq => this q hq
theorem callV_ok (hcall : CallOk c.P call) {x : Operand} {args : Array Operand} {tys : Array TypeId} (ho : o.op = .call { callee := .value x, args := args, argTypes := tys }) (hd : dok c.N o.dst = true) (hcov : Cov bs s Hp M F σ) (hc : callV call s Hp o.dst (evX s x) (evsX s args.toList) = some (s2, H2)) : OW c o (Post bs Hp M F s2 H2) K σ := by
  generalize hx : evX s x = e1 at hc
  generalize hy : evsX s args.toList = e2 at hc
  have hm0 : HCov bs ⟨Hp.h, Hp.n, [], Hp.ds⟩ M := ⟨hcov.mem.n, hcov.mem.at_, hcov.mem.inj⟩
  unfold callV at hc
  split at hc
  · rename_i f A B vs
    generalize hcl : call.f f (A ++ (vs ++ B)) ⟨Hp.h, Hp.n, [], Hp.ds⟩ = res at hc
    cases res with
    | none => cases hc
    | some q =>
      obtain ⟨v, H3⟩ := q
      obtain ⟨x', h1, h2⟩ := evX_ok hcov.slots hx
      obtain ⟨vs', h3, h4⟩ := evsX_ok hcov.slots hy
      cases h2
      rename_i A' B' hA hB
      haveI := hcall.fc _ _ _ _ _ hcl
      have hF := hcall.fn _ _ _ _ _ hcl bs M F (A' ++ (vs' ++ B')) hm0 (hA.append (h4.append hB))
      refine OW_callW ho h1 h3 hd (R := FPost bs ⟨Hp.h, Hp.n, [], Hp.ds⟩ M F v H3) ?_ (fun v' L' hf => finX_ok hcov hf hc)
      rw [hcov.L]
      simpa using hF
  · rename_i k vs
    generalize hcl : call.y k vs ⟨Hp.h, Hp.n, [], Hp.ds⟩ = res at hc
    cases res with
    | none => cases hc
    | some q =>
      obtain ⟨v, H3⟩ := q
      obtain ⟨x', h1, h2⟩ := evX_ok hcov.slots hx
      obtain ⟨vs', h3, h4⟩ := evsX_ok hcov.slots hy
      cases h2
      rename_i l bx by_ hl
      have hY := hcall.yn _ _ _ _ _ hcl bs M F vs' l bx by_ hm0 hl h4
      refine OW_yieldW ho h1 h3 hd (R := FPost bs ⟨Hp.h, Hp.n, [], Hp.ds⟩ M F v H3) ?_ (fun v' L' hf => finX_ok hcov hf hc)
      rw [hcov.L]
      exact hY
  · cases hc
theorem invokeV_ok (hcall : CallOk c.P call) {x : Operand} {name : String} {args : Array Operand} {tys : Array TypeId} (ho : o.op = .call { callee := .invoke x name, args := args, argTypes := tys }) (hd : dok c.N o.dst = true) (hcov : Cov bs s Hp M F σ) (hc : invokeV c.P call s Hp o.dst name (evX s x) (evsX s args.toList) = some (s2, H2)) : OW c o (Post bs Hp M F s2 H2) K σ := by
  generalize hx : evX s x = e1 at hc
  generalize hy : evsX s args.toList = e2 at hc
  have hm0 : HCov bs ⟨Hp.h, Hp.n, [], Hp.ds⟩ M := ⟨hcov.mem.n, hcov.mem.at_, hcov.mem.inj⟩
  unfold invokeV at hc
  split at hc
  · rename_i t u vs
    split at hc
    · rename_i f hm
      generalize hcl : call.f f (u :: vs) ⟨Hp.h, Hp.n, [], Hp.ds⟩ = res at hc
      cases res with
      | none => cases hc
      | some q =>
        obtain ⟨v, H3⟩ := q
        obtain ⟨x', h1, h2⟩ := evX_ok hcov.slots hx
        obtain ⟨vs', h3, h4⟩ := evsX_ok hcov.slots hy
        cases h2
        rename_i u' hu
        haveI := hcall.fc _ _ _ _ _ hcl
        have hF := hcall.fn _ _ _ _ _ hcl bs M F (u' :: vs') hm0 (.cons hu h4)
        refine OW_enterW (by rw [ho]; intro cc h; cases h) (fun a w hH => invoke_run ho h1 h3 hm a w hH) hd (R := FPost bs ⟨Hp.h, Hp.n, [], Hp.ds⟩ M F v H3) ?_ (fun v' L' hf => finX_ok hcov hf hc)
        rw [hcov.L]
        exact hF
    · cases hc
  · cases hc
set_option maxHeartbeats 4000000 in
theorem effX_ok (hcall : CallOk c.P call) (hd : dok c.N o.dst = true) (hcov : Cov bs s Hp M F σ) (hc : effX c.P call s Hp o.op o.dst = some (s2, H2)) : OW c o (Post bs Hp M F s2 H2) K σ := by
  generalize ho : o.op = op at hc
  generalize hdst : o.dst = dst at hc
  have hd' : ∀ d, dst = some d → Nat.blt d c.N = true := fun d e => by rw [hdst, e] at hd; exact hd
  unfold effX at hc
  split at hc
  · split at hc
    · rename_i d; exact textX_ok ho hdst (hd' d rfl) hcov hc
    · cases hc
  · rename_i cl
    obtain ⟨cal, args, tys⟩ := cl
    unfold callX at hc
    split at hc
    · rename_i x hx
      simp only at hx
      subst hx
      rw [← hdst] at hc
      exact callV_ok hcall ho hd hcov hc
    · rename_i x name hx
      simp only at hx
      subst hx
      rw [← hdst] at hc
      exact invokeV_ok hcall ho hd hcov hc
    · rename_i hx
      simp only at hx
      subst hx
      split at hc
      · rename_i d
        split at hc
        · rename_i x y t t2 h1 h2
          simp only at h1 h2
          obtain rfl : args = #[x, y] := by apply Array.ext'; simpa using h1
          obtain rfl : tys = #[t, t2] := by apply Array.ext'; simpa using h2
          exact appendX_ok ho hdst (hd' d rfl) hcov hc
        · cases hc
      · cases hc
    · rename_i hx
      simp only at hx
      subst hx
      split at hc
      · rename_i x t h1 h2
        simp only at h1 h2
        obtain rfl : args = #[x] := by apply Array.ext'; simpa using h1
        obtain rfl : tys = #[t] := by apply Array.ext'; simpa using h2
        rw [← hdst] at hc
        exact clearX_ok ho hd hcov hc
      · cases hc
    · rename_i hx
      simp only at hx
      subst hx
      split at hc
      · rename_i x y t t2 h1 h2
        simp only at h1 h2
        obtain rfl : args = #[x, y] := by apply Array.ext'; simpa using h1
        obtain rfl : tys = #[t, t2] := by apply Array.ext'; simpa using h2
        rw [← hdst] at hc
        exact deleteX_ok ho hd hcov hc
      · cases hc
    · cases hc
  · split at hc
    · rename_i d; exact allocX_ok ho hdst (hd' d rfl) hcov hc
    · cases hc
  · split at hc
    · rename_i d; exact boxX_ok ho hdst (hd' d rfl) hcov hc
    · cases hc
  · split at hc
    · cases hc
    · exact storeX_ok ho hdst hcov hc
  · split at hc
    · rename_i d; exact makeSliceX_ok ho hdst (hd' d rfl) hcov hc
    · cases hc
  · split at hc
    · rename_i d; exact buildSliceX_ok ho hdst (hd' d rfl) hcov hc
    · cases hc
  · split at hc
    · rename_i d; exact makeMapX_ok ho hdst (hd' d rfl) hcov hc
    · cases hc
  · split at hc
    · cases hc
    · exact mapUpdateX_ok (.inl ho) hdst hcov hc
  · split at hc
    · cases hc
    · exact mapUpdateX_ok (.inr ho) hdst hcov hc
  · cases hc
theorem opX_ok (hcall : CallOk c.P call) (hd : dok c.N o.dst = true) (hcov : Cov bs s Hp M F σ) (hc : opX c.P call s Hp o = some (s2, H2)) : OW c o (Post bs Hp M F s2 H2) K σ := by
  unfold opX at hc
  split at hc
  · rename_i v rd hv
    cases hc
    obtain ⟨v', h1, h2⟩ := calmX_ok (Ls := σ.L) (o := o) hv hcov.slots (fun k ob _ hk => by
      obtain ⟨b, base, av, i, o', a1, a2, a3⟩ := hcov.mem.at_ k ob hk
      exact ⟨b, base, av, i, o', a1, by rw [hcov.L, List.getElem?_append_left (List.getElem?_eq_some_iff.1 a2).1]; exact a2, a3⟩)
    exact OW_qt h1 hd (Post.self (by cases o.dst <;> exact hcov.D) (by rw [← hcov.L]; cases o.dst <;> rfl) (CovS.putD hcov.slots h2) hcov.mem)
  · exact effX_ok hcall hd hcov hc
theorem covS_none {bs : Bs} {σs : List (Nat × Value)} : CovS bs noS σs := fun t v hv => by
  have := S.get_args (vs := []) (m := 0) hv
  simp at this
set_option maxHeartbeats 4000000 in
theorem opP_ok (hcall : CallOk c.P call) {Kn : St → Prop} {v : V} (hcov : Cov bs s Hp M F σ) (hc : opP c.P call s Hp o = some (v, H2)) (hk : ∀ e' σ', DoneK bs Hp M F (.panic v) noS H2 e' σ' → K e' σ') : OW c o Kn K σ := by
  unfold opP at hc
  split at hc
  · rename_i cl hop
    obtain ⟨cal, args, tys⟩ := cl
    split at hc
    · rename_i x hx
      simp only at hx hc
      subst hx
      generalize hx : evX s x = e1 at hc
      generalize hy : evsX s args.toList = e2 at hc
      unfold panV at hc
      split at hc
      · rename_i f A B vs
        split at hc
        · rename_i v1 H3 hcl
          cases hc
          have hm0 : HCov bs ⟨Hp.h, Hp.n, [], Hp.ds⟩ M := ⟨hcov.mem.n, hcov.mem.at_, hcov.mem.inj⟩
          obtain ⟨x', h1, h2⟩ := evX_ok hcov.slots hx
          obtain ⟨vs', h3, h4⟩ := evsX_ok hcov.slots hy
          cases h2
          rename_i A' B' hA hB
          haveI := hcall.pc _ _ _ _ _ hcl
          have hF := hcall.pn _ _ _ _ _ hcl bs M F (A' ++ (vs' ++ B')) hm0 (hA.append (h4.append hB))
          refine OW_callvP hop h1 h3 (R := FPost bs ⟨Hp.h, Hp.n, [], Hp.ds⟩ M F v H3) ?_ (fun v' L' hf => ?_)
          · rw [hcov.L]; simpa using hF
          · obtain ⟨r, M', rfl, g2, g3, gd, g4, g5⟩ := hf
            refine hk _ _ ⟨v', rfl, r, M', hcov.D.mono r, rfl, covS_none, ⟨g3.n, g3.at_, g3.inj⟩, fun k hk => List.mem_append_right _ hk, fun W B hW hB => ?_, g2⟩
            have := g5 W B (fun k hk => hW k (List.mem_append_left _ hk)) (by simpa [Prot] using hB)
            exact fun q hq => this q hq
        · cases hc
      · cases hc
    · rename_i x name hx
      simp only at hx hc
      subst hx
      generalize hx : evX s x = e1 at hc
      generalize hy : evsX s args.toList = e2 at hc
      unfold panM at hc
      split at hc
      · rename_i t u vs
        split at hc
        · rename_i f hm
          split at hc
          · rename_i v1 H3 hcl
            cases hc
            have hm0 : HCov bs ⟨Hp.h, Hp.n, [], Hp.ds⟩ M := ⟨hcov.mem.n, hcov.mem.at_, hcov.mem.inj⟩
            obtain ⟨x', h1, h2⟩ := evX_ok hcov.slots hx
            obtain ⟨vs', h3, h4⟩ := evsX_ok hcov.slots hy
            cases h2
            rename_i u' hu
            haveI := hcall.pc _ _ _ _ _ hcl
            have hF := hcall.pn _ _ _ _ _ hcl bs M F (u' :: vs') hm0 (.cons hu h4)
            refine OW_enterP (by rw [hop]; intro cc h; cases h) (fun a w hH => invoke_run hop h1 h3 hm a w hH) (R := FPost bs ⟨Hp.h, Hp.n, [], Hp.ds⟩ M F v H3) ?_ (fun v' L' hf => ?_)
            · rw [hcov.L]; exact hF
            · obtain ⟨r, M', rfl, g2, g3, gd, g4, g5⟩ := hf
              refine hk _ _ ⟨v', rfl, r, M', hcov.D.mono r, rfl, covS_none, ⟨g3.n, g3.at_, g3.inj⟩, fun k hk => List.mem_append_right _ hk, fun W B hW hB => ?_, g2⟩
              have := g5 W B (fun k hk => hW k (List.mem_append_left _ hk)) (by simpa [Prot] using hB)
              exact fun q hq => this q hq
          · cases hc
        · cases hc
      · cases hc
    · cases hc
  · rename_i x hop
    split at hc
    · rename_i t u hx
      cases hc
      obtain ⟨x', h1, h2⟩ := evX_ok hcov.slots hx
      cases h2
      rename_i u' hu
      refine OW_panic hop h1 (hk _ _ ⟨_, rfl, [], M, by simpa using hcov.D, hcov.L, covS_none, by simpa using hcov.mem, fun _ h => h, fun W B _ h => by simpa using h, ?_⟩)
      simpa using RV.ifc t hu
    · cases hc
  · cases hc
theorem opP_ext {P : Program} (hcall : CallOk P call) (hc : ∃ v, opP P call s Hp o = some (v, H2)) : Ext Hp H2 := by
  obtain ⟨v, hc⟩ := hc
  unfold opP at hc
  split at hc
  · split at hc
    · unfold panV at hc
      split at hc
      · split at hc
        · rename_i hcl; cases hc; exact (hcall.px _ _ _ _ _ hcl).app
        · cases hc
      · cases hc
    · unfold panM at hc
      split at hc
      · split at hc
        · split at hc
          · rename_i hcl; cases hc; exact (hcall.px _ _ _ _ _ hcl).app
          · cases hc
        · cases hc
      · cases hc
    · cases hc
  · split at hc
    · cases hc; exact .refl _
    · cases hc
  · cases hc
set_option maxHeartbeats 4000000 in
theorem opX_ext {P : Program} (hcall : CallOk P call) (hc : opX P call s Hp o = some (s2, H2)) : Ext Hp H2 := by
  unfold opX at hc
  split at hc
  · cases hc; exact .refl _
  · unfold effX at hc
    split at hc
    · split at hc
      · unfold textX at hc
        repeat' split at hc
        all_goals first
          | (cases hc; done)
          | (cases hc; exact .new _ _)
      · cases hc
    · unfold callX at hc
      split at hc
      · have fin : ∀ {d : Option Nat} {q : Option (V × H)}, (∀ v H3, q = some (v, H3) → Ext ⟨Hp.h, Hp.n, [], Hp.ds⟩ H3) → finX s Hp d q = some (s2, H2) → Ext Hp H2 := fun {d q} hq h => by
          unfold finX at h
          split at h
          · split at h
            · cases h; exact .refl _
            · cases h; exact (hq _ _ rfl).app
          · cases h
        unfold callV at hc
        split at hc
        · exact fin (fun v H3 e => hcall.fx _ _ _ _ _ e) hc
        · exact fin (fun v H3 e => hcall.yx _ _ _ _ _ e) hc
        · cases hc
      · unfold invokeV at hc
        split at hc
        · split at hc
          · unfold finX at hc
            split at hc
            · rename_i e
              split at hc
              · cases hc; exact .refl _
              · cases hc; exact (hcall.fx _ _ _ _ _ e).app
            · cases hc
          · cases hc
        · cases hc
      · split at hc
        · split at hc
          · unfold appendX at hc
            repeat' split at hc
            all_goals first
              | (cases hc; done)
              | (cases hc; exact .refl _)
              | (cases hc; exact .new _ _)
              | (cases hc; exact .swap _ _ _)
          · cases hc
        · cases hc
      · split at hc
        · unfold clearX at hc
          repeat' split at hc
          all_goals first
            | (cases hc; done)
            | (cases hc; exact .refl _)
            | (cases hc; exact .upd _ _ _)
        · cases hc
      · split at hc
        · unfold deleteX at hc
          repeat' split at hc
          all_goals first
            | (cases hc; done)
            | (cases hc; exact .refl _)
            | (cases hc; exact .upd _ _ _)
        · cases hc
      · cases hc
    · split at hc
      · unfold allocX at hc
        split at hc
        · cases hc; exact .new _ _
        · cases hc
      · cases hc
    · split at hc
      · unfold boxX at hc
        split at hc
        · cases hc
        · cases hc; exact .new _ _
        · cases hc
      · cases hc
    · split at hc
      · cases hc
      · unfold storeX at hc
        repeat' split at hc
        all_goals first
          | (cases hc; done)
          | (cases hc; exact .upd _ _ _)
    · split at hc
      · unfold makeSliceX at hc
        repeat' split at hc
        all_goals first
          | (cases hc; done)
          | (cases hc; exact .refl _)
          | (cases hc; exact .new _ _)
      · cases hc
    · split at hc
      · unfold buildSliceX at hc
        repeat' split at hc
        all_goals first
          | (cases hc; done)
          | (cases hc; exact .refl _)
          | (cases hc; exact .new _ _)
      · cases hc
    · split at hc
      · unfold makeMapX at hc
        repeat' split at hc
        all_goals first
          | (cases hc; done)
          | (cases hc; exact .refl _)
          | (cases hc; exact .new _ _)
      · cases hc
    · split at hc
      · cases hc
      · unfold mapUpdateX at hc
        repeat' split at hc
        all_goals first
          | (cases hc; done)
          | (cases hc; exact .upd _ _ _)
    · split at hc
      · cases hc
      · unfold mapUpdateX at hc
        repeat' split at hc
        all_goals first
          | (cases hc; done)
          | (cases hc; exact .upd _ _ _)
    · cases hc
end
def guardX (ops : List Oper) (s : S) (o : Oper) : Option Bool := match o.guard with
  | none => some true
  | some (j, want) => match ops[j]? with
    | some og => match og.dst with
      | some dg => match s.get dg with
        | some (.bool b) => match b, want with
          | true, true => some true
          | false, false => some true
          | _, _ => some false
        | some (.tup []) => some false
        | _ => none
      | none => none
    | none => none
def opsX (P : Program) (call : CallF) (ops : List Oper) : List Oper → S → H → CX
  | [], s, Hp => some (.normal, s, Hp)
  | o :: r, s, Hp => match guardX ops s o with
    | some true => match opX P call s Hp o with
      | some (s2, H2) => opsX P call ops r s2 H2
      | none => match opP P call s Hp o with
        | some (v, H2) => some (.panic v, noS, H2)
        | none => none
    | some false => opsX P call ops r (putD s o.dst (.tup [])) Hp
    | none => none
def dstOk (N : Nat) : List Oper → Bool
  | [] => true
  | o :: r => match dok N o.dst with
    | true => dstOk N r
    | false => false
theorem dstOk_mem {N : Nat} : ∀ {l : List Oper}, dstOk N l = true → ∀ o ∈ l, dok N o.dst = true
  | [], _, _, h => by cases h
  | o :: r, h, p, hp => by
    simp only [dstOk] at h
    split at h
    · rename_i h1
      rcases List.mem_cons.1 hp with rfl | hp
      · exact h1
      · exact dstOk_mem h p hp
    · cases h
theorem guardX_ok {bs : Bs} {s : S} {σs : List (Nat × Value)} {ops : Array Oper} {o : Oper} {b : Bool} (hs : CovS bs s σs) (h : guardX ops.toList s o = some b) :
    (b = true ∧ o.guard = none) ∨ ∃ j want og dg, o.guard = some (j, want) ∧ ops[j]? = some og ∧ og.dst = some dg ∧ ((b = true ∧ look σs dg = some (.bool want)) ∨ (b = false ∧ ∃ u, look σs dg = some u ∧ (u = .bool (!want) ∨ u = undef))) := by
  unfold guardX at h
  split at h
  · rename_i hg; cases h; exact .inl ⟨rfl, hg⟩
  · rename_i j want hg
    right
    split at h
    · rename_i og hj
      split at h
      · rename_i dg hd
        refine ⟨j, want, og, dg, hg, by simpa using hj, hd, ?_⟩
        split at h
        · rename_i b' hb
          obtain ⟨v', h1, h2⟩ := hs _ _ hb
          cases h2
          split at h
          · cases h; exact .inl ⟨rfl, h1⟩
          · cases h; exact .inl ⟨rfl, h1⟩
          · rename_i n1 n2
            cases h
            refine .inr ⟨rfl, _, h1, .inl ?_⟩
            cases b' <;> cases want <;> simp_all
        · rename_i hb
          cases h
          obtain ⟨v', h1, h2⟩ := hs _ _ hb
          cases h2
          rename_i l' hl
          cases hl
          exact .inr ⟨rfl, _, h1, .inr rfl⟩
        · cases h
      · cases h
    · cases h
theorem Post.comp {bs r : Bs} {Hp H1 : H} {M M1 F : List (Nat × Obj)} (hl : ∀ k ∈ Hp.log, k ∈ H1.log) (hp : ∀ W B, (∀ k ∈ H1.log, k ∈ W) → Prot bs Hp M W B → Prot (bs ++ r) H1 M1 W B) {s2 : S} {H2 : H} {σ2 : St} (h : Post (bs ++ r) H1 M1 F s2 H2 σ2) : Post bs Hp M F s2 H2 σ2 := by
  obtain ⟨r2, M2, f1, f2, f3, f4, f5, f6⟩ := h
  exact ⟨r ++ r2, M2, by rw [← List.append_assoc]; exact f1, f2, by rw [← List.append_assoc]; exact f3, by rw [← List.append_assoc]; exact f4, fun k hk => f5 k (hl k hk), fun W B hW hB => by
    rw [← List.append_assoc]; exact f6 W B hW (hp W B (fun k hk => hW k (f5 k hk)) hB)⟩
theorem Post.sub {bs : Bs} {Hp : H} {M F : List (Nat × Obj)} {s1 s2 : S} {H2 : H} {σ : St} (h : Post bs Hp M F s2 H2 σ) (hs : ∀ t v, s1.get t = some v → s2.get t = some v) : Post bs Hp M F s1 H2 σ := by
  obtain ⟨r, M', f1, f2, f3, f4⟩ := h
  exact ⟨r, M', f1, f2, fun t v ht => f3 t v (hs t v ht), f4⟩
theorem Post.split {bs : Bs} {Hp H1 : H} {M F : List (Nat × Obj)} {s1 : S} {σ1 : St} (h : Post bs Hp M F s1 H1 σ1) : ∃ r M1, Cov (bs ++ r) s1 H1 M1 F σ1 ∧ (∀ k ∈ Hp.log, k ∈ H1.log) ∧ (∀ W B, (∀ k ∈ H1.log, k ∈ W) → Prot bs Hp M W B → Prot (bs ++ r) H1 M1 W B) ∧ ∀ {s2 H2 σ2}, Post (bs ++ r) H1 M1 F s2 H2 σ2 → Post bs Hp M F s2 H2 σ2 := by
  obtain ⟨r, M1, e1, e2, e3, e4, e5, e6⟩ := h
  exact ⟨r, M1, ⟨e3, e1, e4, e2⟩, e5, e6, fun h => Post.comp e5 e6 h⟩
theorem Cov.undef {bs : Bs} {s : S} {Hp : H} {M F : List (Nat × Obj)} {σ : St} (h : Cov bs s Hp M F σ) (d : Option Nat) : Cov bs (putD s d (.tup [])) Hp M F (σ.put d Go.undef) :=
  ⟨CovS.putD h.slots (.tup .nil), by cases d <;> exact h.D, h.mem, by cases d <;> exact h.L⟩
theorem put_D (σ : St) (d : Option Nat) (v : Value) : (σ.put d v).D = σ.D := by cases d <;> rfl
theorem put_L (σ : St) (d : Option Nat) (v : Value) : (σ.put d v).L = σ.L := by cases d <;> rfl
section
variable {c : Cx} {K : Exit → St → Prop} {call : CallF}
theorem opsX_ok (hcall : CallOk c.P call) {ops : Array Oper} : ∀ (l : List Oper) {bs : Bs} {s : S} {Hp : H} {M F : List (Nat × Obj)} {e : EX} {s2 : S} {H2 : H} {σ : St}, (∀ o ∈ l, dok c.N o.dst = true) → Cov bs s Hp M F σ → opsX c.P call ops.toList l s Hp = some (e, s2, H2) → (∀ e' σ', DoneK bs Hp M F e s2 H2 e' σ' → K e' σ') → WL c ops l K σ
  | [], bs, s, Hp, M, F, e, s2, H2, σ, _, hcov, hc, hk => by
    cases hc
    exact WL_nil (hk .normal σ ⟨rfl, Post.self hcov.D hcov.L hcov.slots hcov.mem⟩)
  | o :: r, bs, s, Hp, M, F, e, s2, H2, σ, hd, hcov, hc, hk => by
    have hd1 := hd o List.mem_cons_self
    have hd2 := fun p hp => hd p (List.mem_cons_of_mem _ hp)
    simp only [opsX] at hc
    split at hc
    · rename_i hg
      have go : OW c o (WL c ops r K) K σ → WL c ops (o :: r) K σ := fun hW => by
        rcases guardX_ok hcov.slots hg with ⟨_, hgn⟩ | ⟨j, want, og, dg, hg1, hj, hdg, ⟨_, hb⟩ | ⟨hb, _⟩⟩
        · exact WL_op hgn hW
        · exact WL_guard hg1 hj hdg hb (fun _ => hW) hd1 (fun e => by cases want <;> cases e)
        · cases hb
      split at hc
      · rename_i s1 H1 h1
        exact go ((opX_ok hcall hd1 hcov h1).mono fun σ1 hp1 => by
          obtain ⟨r1, M1, hcov1, hl1, hp1, _⟩ := hp1.split
          exact opsX_ok hcall r hd2 hcov1 hc fun e' σ' hp2 => hk e' σ' (DoneK.comp hl1 hp1 hp2))
      · split at hc
        · rename_i v H3 h3
          cases hc
          exact go (opP_ok hcall hcov h3 hk)
        · cases hc
    · rename_i hg
      have hrest : WL c ops r K (σ.put o.dst undef) := opsX_ok hcall r hd2 (hcov.undef o.dst) hc hk
      rcases guardX_ok hcov.slots hg with ⟨hb, _⟩ | ⟨j, want, og, dg, hg1, hj, hdg, ⟨hb, _⟩ | ⟨_, u, hu, rfl | rfl⟩⟩
      · cases hb
      · cases hb
      · exact WL_guard hg1 hj hdg hu (fun e => by cases want <;> cases e) hd1 (fun _ => hrest)
      · exact WL_guard_undef hg1 hj hdg hu hd1 hrest
    · cases hc
end
attribute [local irreducible] opX opP calmX effX callX appendX
theorem opsX_ext {P : Program} {call : CallF} (hcall : CallOk P call) {ops : List Oper} : ∀ {l : List Oper} {s : S} {Hp : H} {e : EX} {s2 : S} {H2 : H}, opsX P call ops l s Hp = some (e, s2, H2) → Ext Hp H2
  | [], s, Hp, e, s2, H2, h => by cases h; exact .refl _
  | o :: r, s, Hp, e, s2, H2, h => by
    simp only [opsX] at h
    split at h
    · split at h
      · rename_i h1; exact (opX_ext hcall h1).trans (opsX_ext hcall h)
      · split at h
        · rename_i h1; cases h; exact opP_ext hcall ⟨_, h1⟩
        · cases h
    · exact opsX_ext hcall h
    · cases h
def dstIn (k : Nat) : List Oper → Bool
  | [] => false
  | o :: r => match o.dst with
    | some d => match Nat.beq d k with
      | true => true
      | false => dstIn k r
    | none => dstIn k r
def cutL (ops : List Oper) : List (Nat × V) → List (Nat × V)
  | [] => []
  | p :: r => match dstIn p.1 ops with
    | true => cutL ops r
    | false => p :: cutL ops r
def S.cut (ops : List Oper) (s : S) : S := ⟨cutL ops s.new, cutL ops s.old, s.mask⟩
theorem dstIn_ok {k : Nat} : ∀ {l : List Oper}, dstIn k l = false → ∀ o ∈ l, o.dst ≠ some k
  | [], _, _, h => by cases h
  | o :: r, h, p, hp => by
    simp only [dstIn] at h
    split at h
    · rename_i d hd
      split at h
      · cases h
      · rename_i hb
        rcases List.mem_cons.1 hp with rfl | hp
        · rw [hd]; intro e; cases e; rw [Nat.beq_refl] at hb; cases hb
        · exact dstIn_ok h p hp
    · rename_i hd
      rcases List.mem_cons.1 hp with rfl | hp
      · rw [hd]; intro e; cases e
      · exact dstIn_ok h p hp
theorem look_cut {ops : List Oper} {k : Nat} {v : V} : ∀ {l : List (Nat × V)}, lookL (cutL ops l) k = some v → lookL l k = some v ∧ ∀ o ∈ ops, o.dst ≠ some k
  | [], h => by cases h
  | p :: r, h => by
    simp only [cutL] at h
    rw [lookL_cons]
    split at h
    · rename_i hd
      obtain ⟨h1, h2⟩ := look_cut h
      by_cases e : p.1 = k
      · exfalso
        rw [e] at hd
        have : dstIn k ops = false := by
          clear h h1 hd e
          induction ops with
          | nil => rfl
          | cons o r ih =>
            simp only [dstIn]
            have h3 := h2 o List.mem_cons_self
            split
            · rename_i d hd
              split
              · rename_i hb
                exact absurd (by rw [hd, Nat.eq_of_beq_eq_true hb]) h3
              · exact ih fun o ho => h2 o (List.mem_cons_of_mem _ ho)
            · exact ih fun o ho => h2 o (List.mem_cons_of_mem _ ho)
        rw [this] at hd; cases hd
      · rw [if_neg e]; exact ⟨h1, h2⟩
    · rename_i hd
      rw [lookL_cons] at h
      by_cases e : p.1 = k
      · rw [if_pos e] at h ⊢; rw [e] at hd; exact ⟨h, dstIn_ok hd⟩
      · rw [if_neg e] at h ⊢; exact look_cut h
theorem lookL_cut_none {ops : List Oper} {k : Nat} : ∀ {l : List (Nat × V)}, lookL (cutL ops l) k = none → (∀ o ∈ ops, o.dst ≠ some k) → lookL l k = none
  | [], _, _ => rfl
  | p :: r, h, hk => by
    simp only [cutL] at h
    rw [lookL_cons]
    split at h
    · rename_i hd
      by_cases e : p.1 = k
      · exfalso
        rw [e] at hd
        clear h e
        induction ops with
        | nil => cases hd
        | cons o r ih =>
          simp only [dstIn] at hd
          have h3 := hk o List.mem_cons_self
          split at hd
          · rename_i d hd2
            split at hd
            · rename_i hb
              exact absurd (by rw [hd2, Nat.eq_of_beq_eq_true hb]) h3
            · exact ih (fun o ho => hk o (List.mem_cons_of_mem _ ho)) hd
          · exact ih (fun o ho => hk o (List.mem_cons_of_mem _ ho)) hd
      · rw [if_neg e]; exact lookL_cut_none h hk
    · rw [lookL_cons] at h
      by_cases e : p.1 = k
      · rw [if_pos e] at h; cases h
      · rw [if_neg e] at h ⊢; exact lookL_cut_none h hk
theorem S.get_cut {ops : List Oper} {s : S} {k : Nat} {v : V} (h : (s.cut ops).get k = some v) : s.get k = some v ∧ ∀ o ∈ ops, o.dst ≠ some k := by
  obtain ⟨n, o, m⟩ := s
  cases hn : lookL (cutL ops n) k with
  | some u =>
    rw [S.get_new (s := S.cut ops ⟨n, o, m⟩) hn] at h
    cases h
    obtain ⟨h1, h2⟩ := look_cut hn
    exact ⟨S.get_new (s := ⟨n, o, m⟩) h1, h2⟩
  | none =>
    cases hb : bitX m k with
    | false => rw [S.get_no (s := S.cut ops ⟨n, o, m⟩) hn hb] at h; cases h
    | true =>
      rw [S.get_old (s := S.cut ops ⟨n, o, m⟩) hn hb] at h
      obtain ⟨h1, h2⟩ := look_cut (l := o) h
      exact ⟨by rw [S.get_old (s := ⟨n, o, m⟩) (lookL_cut_none hn h2) hb]; exact h1, h2⟩
section
theorem guard_must {ops : Array Oper} {bs : Bs} {s : S} {σ : St} {o : Oper} (hs : CovS bs s σ.s) (hg : guardX ops.toList s o = some true) : o.guard = none ∨ ∃ j want og dg, o.guard = some (j, want) ∧ ops[j]? = some og ∧ og.dst = some dg ∧ look σ.s dg = some (.bool want) := by
  rcases guardX_ok hs hg with ⟨_, hgn⟩ | ⟨j, want, og, dg, hg1, hj, hdg, ⟨_, hb⟩ | ⟨hb, _⟩⟩
  · exact .inl hgn
  · exact .inr ⟨j, want, og, dg, hg1, hj, hdg, hb⟩
  · cases hb
end
structure PX where
  i : Nat
  ds : List Nat
  d : Nat
  v : V
  lo : Nat
  hi : Nat
  h : T O
  rs : List (Nat × Nat)
mutual
def V.inn (p : Nat → Bool) : V → Bool
  | .ptr k _ => p k
  | .sl k _ _ _ _ => p k
  | .map k => p k
  | .yld k => p k
  | .fn _ A B => match V.inns p A with
    | true => V.inns p B
    | false => false
  | .ifc _ v => V.inn p v
  | .agg l => V.inns p l
  | .tup l => V.inns p l
  | _ => true
def V.inns (p : Nat → Bool) : List V → Bool
  | [] => true
  | v :: r => match V.inn p v with
    | true => V.inns p r
    | false => false
end
def T.allB {α : Type} (f : α → Bool) : T α → Bool
  | .e => true
  | .n l v r => match (match v with
    | some a => f a
    | none => true), T.allB f l with
    | true, true => T.allB f r
    | _, _ => false
theorem T.allB_get {α : Type} {f : α → Bool} : ∀ {a : T α}, T.allB f a = true → ∀ (k : Nat) (u : α), a.get k = some u → f u = true
  | .e, _, k, u, hk => by cases hk
  | .n l v r, h, k, u, hk => by
    simp only [T.allB] at h
    split at h
    · rename_i h1 h2
      rcases nat_cases k with rfl | ⟨k, rfl⟩ | ⟨k, rfl⟩
      · rw [T.get_zero] at hk
        have hk : v = some u := hk
        subst hk
        exact h1
      · rw [T.get_odd] at hk; exact T.allB_get h2 k u hk
      · rw [T.get_even] at hk; exact T.allB_get h k u hk
    · cases h
def innP (p : Nat → Bool) : List (V × V) → Bool
  | [] => true
  | q :: r => match V.inn p q.1, V.inn p q.2 with
    | true, true => innP p r
    | _, _ => false
def O.inn (p : Nat → Bool) : O → Bool
  | .cells t _ => T.allB (V.inn p) t
  | .text t => T.allB (V.inn p) t
  | .map l => innP p l
  | .defer => true
  | .glob _ _ => true
  | .gone => true
  | .loop _ _ => false
def Covers (p : Nat → Bool) (bs1 bs2 : Bs) : Prop := ∀ k, p k = true → ∀ e, bs1[k]? = some e → bs2[k]? = some e
mutual
theorem RV.inn {p : Nat → Bool} {bs1 bs2 : Bs} (hp : Covers p bs1 bs2) : ∀ {v : V} {v' : Value}, RV bs1 v v' → V.inn p v = true → RV bs2 v v'
  | _, _, .int k n, _ => .int k n
  | _, _, .bool b, _ => .bool b
  | _, _, .str s, _ => .str s
  | _, _, .ptrN, _ => .ptrN
  | _, _, .ptr h, hl => .ptr (hp _ (by simpa only [V.inn] using hl) _ h)
  | _, _, .slN, _ => .slN
  | _, _, .sl hex h h1 h2 h3 h4, hl => .sl hex (hp _ (by simpa only [V.inn] using hl) _ h) h1 h2 h3 h4
  | _, _, .fn f hA hB, hl => by
    simp only [V.inn] at hl
    split at hl
    · rename_i h1; exact .fn f (RVs.inn hp hA h1) (RVs.inn hp hB hl)
    · cases hl
  | _, _, .nilf, _ => .nilf
  | _, _, .ifc t h, hl => .ifc t (RV.inn hp h (by simpa only [V.inn] using hl))
  | _, _, .nili, _ => .nili
  | _, _, .mapN, _ => .mapN
  | _, _, .map h, hl => .map (hp _ (by simpa only [V.inn] using hl) _ h)
  | _, _, .agg h, hl => .agg (RVs.inn hp h (by simpa only [V.inn] using hl))
  | _, _, .tup h, hl => .tup (RVs.inn hp h (by simpa only [V.inn] using hl))
  | _, _, .yld h, hl => .yld (hp _ (by simpa only [V.inn] using hl) _ h)
theorem RVs.inn {p : Nat → Bool} {bs1 bs2 : Bs} (hp : Covers p bs1 bs2) : ∀ {l : List V} {l' : List Value}, RVs bs1 l l' → V.inns p l = true → RVs bs2 l l'
  | _, _, .nil, _ => .nil
  | _, _, .cons h hl, hh => by
    simp only [V.inns] at hh
    split at hh
    · rename_i h1; exact .cons (RV.inn hp h h1) (RVs.inn hp hl hh)
    · cases hh
end
theorem RMap.inn {p : Nat → Bool} {bs1 bs2 : Bs} (hp : Covers p bs1 bs2) : ∀ {l : List (V × V)} {es : List MapEntry}, RMap bs1 l es → innP p l = true → RMap bs2 l es
  | [], _, h, _ => h
  | q :: r, _, ⟨e, es', h1, h2, h3, h4⟩, h => by
    simp only [innP] at h
    split at h
    · rename_i g1 g2; exact ⟨e, es', h1, RV.inn hp h2 g1, RV.inn hp h3 g2, RMap.inn hp h4 h⟩
    · cases h
theorem RO.inn {p : Nat → Bool} {bs1 bs2 : Bs} (hp : Covers p bs1 bs2) {b base av : Nat} {o : O} {o' : Obj} (h : RO bs1 b base av o o') (hi : O.inn p o = true) : RO bs2 b base av o o' := by
  cases o with
  | cells t E =>
    obtain ⟨cs, h1, h2, h3⟩ := h
    refine ⟨cs, h1, h2, fun i v hv => ?_⟩
    obtain ⟨h4, v', h5, h6⟩ := h3 i v hv
    exact ⟨h4, v', h5, RV.inn hp h6 (T.allB_get hi i v hv)⟩
  | text t =>
    obtain ⟨cs, E, fr, h1, h2, h3⟩ := h
    refine ⟨cs, E, fr, h1, h2, fun i v hv => ?_⟩
    obtain ⟨h4, v', h5, h6⟩ := h3 i v hv
    exact ⟨h4, v', h5, RV.inn hp h6 (T.allB_get hi i v hv)⟩
  | map l =>
    obtain ⟨es, cl, h1, h2⟩ := h
    exact ⟨es, cl, h1, RMap.inn hp h2 hi⟩
  | loop c st => cases hi
  | defer => exact h
  | glob b0 v => exact h
  | gone => trivial
mutual
theorem RV.low {bs : Bs} : ∀ {v : V} {v' : Value}, RV bs v v' → V.low bs.length v = true
  | _, _, .int k n => rfl
  | _, _, .bool b => rfl
  | _, _, .str s => rfl
  | _, _, .ptrN => rfl
  | _, _, .ptr h => by simp only [V.low]; exact blt_t (List.getElem?_eq_some_iff.1 h).1
  | _, _, .slN => rfl
  | _, _, .sl hex h h1 h2 h3 h4 => by simp only [V.low]; exact blt_t (List.getElem?_eq_some_iff.1 h).1
  | _, _, .fn f hA hB => by simp only [V.low, RVs.low hA]; exact RVs.low hB
  | _, _, .nilf => rfl
  | _, _, .ifc t h => by simp only [V.low]; exact RV.low h
  | _, _, .nili => rfl
  | _, _, .mapN => rfl
  | _, _, .map h => by simp only [V.low]; exact blt_t (List.getElem?_eq_some_iff.1 h).1
  | _, _, .agg h => by simp only [V.low]; exact RVs.low h
  | _, _, .tup h => by simp only [V.low]; exact RVs.low h
  | _, _, .yld h => by simp only [V.low]; exact blt_t (List.getElem?_eq_some_iff.1 h).1
theorem RVs.low {bs : Bs} : ∀ {l : List V} {l' : List Value}, RVs bs l l' → V.lows bs.length l = true
  | _, _, .nil => rfl
  | _, _, .cons h hl => by simp only [V.lows, RV.low h]; exact RVs.low hl
end
theorem RD.strip {bs r : Bs} : ∀ {ks : List DI} {D D0 : List Deferred}, RD (bs ++ r) ks D → RD bs ks D0 → RD bs ks D
  | [], _, _, h, _ => h
  | .mark _ :: _, _, _, ⟨b, x, y, D', h1, h2, h3⟩, ⟨_, _, _, _, g1, _, g3⟩ => ⟨b, x, y, D', bs_strip h1 (blt_t (List.getElem?_eq_some_iff.1 g1).1), h2, RD.strip h3 g3⟩
  | .call _ _ _ :: _, _, _, ⟨A', B', D', h1, h2, h3, h4⟩, ⟨_, _, _, g1, g2, _, g4⟩ => ⟨A', B', D', RVs.strip h1 (RVs.low g1), RVs.strip h2 (RVs.low g2), h3, RD.strip h4 g4⟩
def putP (ds : List Nat) (s : S) : List PX → S
  | [] => s
  | px :: r => match memB px.i ds with
    | true => putP ds (s.set px.d px.v) r
    | false => putP ds s r
def addB (src : T O) : Nat → Nat → T O → T O
  | _, 0, h => h
  | k, n + 1, h => match src.get k with
    | some o => addB src (Nat.succ k) n (h.set k o)
    | none => addB src (Nat.succ k) n h
def blkP (ds : List Nat) (h : T O) : List PX → T O
  | [] => h
  | px :: r => match memB px.i ds with
    | true => blkP ds (addB px.h px.lo (Nat.sub px.hi px.lo) h) r
    | false => blkP ds h r
def rangeP (ds : List Nat) : List PX → List (Nat × Nat)
  | [] => []
  | px :: r => match memB px.i ds with
    | true => (px.lo, px.hi) :: rangeP ds r
    | false => rangeP ds r
def inRs (k : Nat) : List (Nat × Nat) → Bool
  | [] => false
  | p :: r => match Nat.ble p.1 k, Nat.blt k p.2 with
    | true, true => true
    | _, _ => inRs k r
def okNum (n : Nat) (rs : List (Nat × Nat)) (k : Nat) : Bool := match Nat.blt k n with
  | true => true
  | false => inRs k rs
def innB (p : Nat → Bool) (h : T O) : Nat → Nat → Bool
  | _, 0 => true
  | k, n + 1 => match h.get k with
    | some o => match O.inn p o with
      | true => innB p h (Nat.succ k) n
      | false => false
    | none => innB p h (Nat.succ k) n
theorem innB_ok {p : Nat → Bool} {h : T O} : ∀ {n k : Nat}, innB p h k n = true → ∀ {j : Nat} {o : O}, k ≤ j → j < k + n → h.get j = some o → O.inn p o = true
  | 0, k, _, j, o, h1, h2, _ => by omega
  | n + 1, k, hi, j, o, h1, h2, ho => by
    simp only [innB] at hi
    split at hi
    · rename_i o1 e
      split at hi
      · rename_i g
        by_cases e2 : k = j
        · subst e2; rw [ho] at e; cases e; exact g
        · exact innB_ok hi (by show k + 1 ≤ j; omega) (by show j < k + 1 + n; omega) ho
      · cases hi
    · rename_i e
      by_cases e2 : k = j
      · subst e2; rw [ho] at e; cases e
      · exact innB_ok hi (by show k + 1 ≤ j; omega) (by show j < k + 1 + n; omega) ho
theorem get_addB {src : T O} : ∀ {n k : Nat} {h : T O} {j : Nat} {o : O}, (addB src k n h).get j = some o → h.get j = some o ∨ (k ≤ j ∧ j < k + n ∧ src.get j = some o)
  | 0, k, h, j, o, hj => .inl hj
  | n + 1, k, h, j, o, hj => by
    simp only [addB] at hj
    split at hj
    · rename_i o1 e
      rcases get_addB hj with h1 | ⟨h1, h2, h3⟩
      · rcases T.get_set h1 with ⟨rfl, rfl⟩ | ⟨_, h2⟩
        · exact .inr ⟨Nat.le_refl _, by omega, e⟩
        · exact .inl h2
      · exact .inr ⟨by have : k + 1 ≤ j := h1; omega, by have : j < k + 1 + n := h2; omega, h3⟩
    · rcases get_addB hj with h1 | ⟨h1, h2, h3⟩
      · exact .inl h1
      · exact .inr ⟨by have : k + 1 ≤ j := h1; omega, by have : j < k + 1 + n := h2; omega, h3⟩
theorem get_blkP {ds : List Nat} : ∀ {ps : List PX} {h : T O} {j : Nat} {o : O}, (blkP ds h ps).get j = some o → h.get j = some o ∨ ∃ px ∈ ps, px.i ∈ ds ∧ px.lo ≤ j ∧ j < px.hi ∧ px.h.get j = some o
  | [], h, j, o, hj => .inl hj
  | px :: r, h, j, o, hj => by
    simp only [blkP] at hj
    split at hj
    · rename_i hm
      rcases get_blkP hj with h1 | ⟨py, h1, h2⟩
      · rcases get_addB h1 with h2 | ⟨h2, h3, h4⟩
        · exact .inl h2
        · exact .inr ⟨px, List.mem_cons_self, memB_ok hm, h2, by have : j < px.lo + (px.hi - px.lo) := h3; omega, h4⟩
      · exact .inr ⟨py, List.mem_cons_of_mem _ h1, h2⟩
    · rcases get_blkP hj with h1 | ⟨py, h1, h2⟩
      · exact .inl h1
      · exact .inr ⟨py, List.mem_cons_of_mem _ h1, h2⟩
theorem get_putP {ds : List Nat} : ∀ {ps : List PX} {s : S} {t : Nat} {v : V}, (putP ds s ps).get t = some v → s.get t = some v ∨ ∃ px ∈ ps, px.i ∈ ds ∧ px.d = t ∧ px.v = v
  | [], s, t, v, h => .inl h
  | px :: r, s, t, v, h => by
    simp only [putP] at h
    split at h
    · rename_i hm
      rcases get_putP h with h1 | ⟨py, h1, h2⟩
      · rcases S.get_set h1 with ⟨rfl, rfl⟩ | ⟨_, h2⟩
        · exact .inr ⟨px, List.mem_cons_self, memB_ok hm, rfl, rfl⟩
        · exact .inl h2
      · exact .inr ⟨py, List.mem_cons_of_mem _ h1, h2⟩
    · rcases get_putP h with h1 | ⟨py, h1, h2⟩
      · exact .inl h1
      · exact .inr ⟨py, List.mem_cons_of_mem _ h1, h2⟩
theorem inRs_spec {k : Nat} : ∀ {rs : List (Nat × Nat)}, inRs k rs = true ↔ ∃ p ∈ rs, p.1 ≤ k ∧ k < p.2
  | [] => by simp [inRs]
  | p :: r => by
    simp only [inRs]
    split
    · rename_i h1 h2
      rw [Nat.blt_eq] at h2
      exact ⟨fun _ => ⟨p, List.mem_cons_self, Nat.le_of_ble_eq_true h1, h2⟩, fun _ => rfl⟩
    · rename_i hno
      rw [inRs_spec]
      refine ⟨fun ⟨q, h1, h2⟩ => ⟨q, List.mem_cons_of_mem _ h1, h2⟩, fun ⟨q, h1, h2, h3⟩ => ?_⟩
      rcases List.mem_cons.1 h1 with rfl | h1
      · exact absurd (blt_t h3) (fun h => hno (Nat.ble_eq_true_of_le h2) h)
      · exact ⟨q, h1, h2, h3⟩
theorem rangeP_spec {ds : List Nat} {p : Nat × Nat} : ∀ {ps : List PX}, p ∈ rangeP ds ps → ∃ px ∈ ps, px.i ∈ ds ∧ p = (px.lo, px.hi)
  | [], h => by cases h
  | px :: r, h => by
    simp only [rangeP] at h
    split at h
    · rename_i hm
      rcases List.mem_cons.1 h with h | h
      · exact ⟨px, List.mem_cons_self, memB_ok hm, h⟩
      · obtain ⟨py, h1, h2⟩ := rangeP_spec h
        exact ⟨py, List.mem_cons_of_mem _ h1, h2⟩
    · obtain ⟨py, h1, h2⟩ := rangeP_spec h
      exact ⟨py, List.mem_cons_of_mem _ h1, h2⟩
def memberX (P : Program) (call : CallF) (ops : List Oper) (s0 : S) (Hp : H) (acc : List PX) (N x : Nat) (ds : List Nat) : Option PX := match ops[x]? with
  | some o => match o.dst with
    | some d => match guardX ops (putP ds s0 acc) o with
      | some true => match opX P call (putP ds s0 acc) ⟨blkP ds Hp.h acc, N, [], Hp.ds⟩ o with
        | some (s2, H2) => match s2.get d, newN N H2.log, innB (okNum Hp.n ((N, H2.n) :: rangeP ds acc)) H2.h N (Nat.sub H2.n N) with
          | some v, true, true => match V.inn (okNum Hp.n ((N, H2.n) :: rangeP ds acc)) v && sameD (fun k => k) Hp.ds H2.ds with
            | true => some ⟨x, ds, d, v, N, H2.n, H2.h, (N, H2.n) :: rangeP ds acc⟩
            | false => none
          | _, _, _ => none
        | none => none
      | some false => some ⟨x, ds, d, .tup [], N, N, .e, (N, N) :: rangeP ds acc⟩
      | none => none
    | none => none
  | none => none
def parX (P : Program) (call : CallF) (ops : List Oper) (s0 : S) (Hp : H) : List (Nat × List Nat) → List PX → Nat → Option (List PX × Nat)
  | [], acc, N => some (acc, N)
  | q :: r, acc, N => match memberX P call ops s0 Hp acc N q.1 q.2 with
    | some px => parX P call ops s0 Hp r (acc ++ [px]) px.hi
    | none => none
def nodupN : List Nat → Bool
  | [] => true
  | k :: r => match memB k r with
    | true => false
    | false => nodupN r
theorem nodupN_ok : ∀ {l : List Nat}, nodupN l = true → l.Nodup
  | [], _ => by simp
  | k :: r, h => by
    simp only [nodupN] at h
    split at h
    · cases h
    · rename_i hm; exact List.nodup_cons.2 ⟨memB_no hm, nodupN_ok h⟩
def opersOf (ops : List Oper) : List (Nat × List Nat) → List Oper
  | [] => []
  | q :: r => match ops[q.1]? with
    | some o => o :: opersOf ops r
    | none => opersOf ops r
def groupX (P : Program) (call : CallF) (ops : List Oper) (l : List (Nat × List Nat)) (s : S) (Hp : H) : SX := match parX P call ops (s.cut (opersOf ops l)) Hp l [] Hp.n with
  | some (ps, N) => match nodupN (ps.map PX.d), nodupN (ps.map PX.i) with
    | true, true => some (putP (l.map Prod.fst) (s.cut (opersOf ops l)) ps, ⟨blkP (l.map Prod.fst) Hp.h ps, N, Hp.log, Hp.ds⟩)
    | _, _ => none
  | none => none
structure PInv (n : Nat) (ps : List PX) (N : Nat) : Prop where
  le : n ≤ N
  each : ∀ px ∈ ps, n ≤ px.lo ∧ px.lo ≤ px.hi ∧ px.hi ≤ N
  rs : ∀ px ∈ ps, ∀ p ∈ px.rs, p.2 ≤ px.hi ∧ ∃ pz ∈ ps, (pz = px ∨ pz.i ∈ px.ds) ∧ p = (pz.lo, pz.hi)
  pair : ps.Pairwise fun a b => a.hi ≤ b.lo
theorem memberX_spec {P : Program} {call : CallF} (hcall : CallOk P call) {ops : List Oper} {s0 : S} {Hp : H} {acc : List PX} {N x : Nat} {ds : List Nat} {px : PX} (h : memberX P call ops s0 Hp acc N x ds = some px) :
    px.i = x ∧ px.ds = ds ∧ px.lo = N ∧ px.rs = (px.lo, px.hi) :: rangeP ds acc ∧ N ≤ px.hi ∧ ∃ o, ops[x]? = some o ∧ o.dst = some px.d := by
  unfold memberX at h
  split at h
  · rename_i o ho
    split at h
    · rename_i d hd
      split at h
      · split at h
        · rename_i s2 H2 hop
          split at h
          · split at h
            · cases h; exact ⟨rfl, rfl, rfl, rfl, (opX_ext hcall hop).n, o, ho, hd⟩
            · cases h
          · cases h
        · cases h
      · cases h; exact ⟨rfl, rfl, rfl, rfl, Nat.le_refl _, o, ho, hd⟩
      · cases h
    · cases h
  · cases h
theorem parX_spec {P : Program} {call : CallF} (hcall : CallOk P call) {ops : List Oper} {s0 : S} {Hp : H} : ∀ {l : List (Nat × List Nat)} {acc : List PX} {N : Nat} {ps : List PX} {N' : Nat}, parX P call ops s0 Hp l acc N = some (ps, N') → PInv Hp.n acc N →
    PInv Hp.n ps N' ∧ (∃ rest, ps = acc ++ rest) ∧ (∀ q ∈ l, ∃ pre px post, ps = pre ++ px :: post ∧ memberX P call ops s0 Hp pre px.lo q.1 q.2 = some px) ∧ ∀ px ∈ ps, px ∈ acc ∨ ∃ q ∈ l, px.i = q.1
  | [], acc, N, ps, N', h, hi => by
    cases h
    exact ⟨hi, ⟨[], by simp⟩, fun q hq => (by cases hq), fun px hpx => .inl hpx⟩
  | q :: r, acc, N, ps, N', h, hi => by
    simp only [parX] at h
    split at h
    · rename_i px hm
      obtain ⟨e1, e2, e3, e4, e5, _⟩ := memberX_spec hcall hm
      have hi2 : PInv Hp.n (acc ++ [px]) px.hi := by
        refine ⟨Nat.le_trans hi.le e5, fun py hpy => ?_, fun py hpy p hp => ?_, ?_⟩
        · rcases List.mem_append.1 hpy with hpy | hpy
          · obtain ⟨h1, h2, h3⟩ := hi.each py hpy
            exact ⟨h1, h2, Nat.le_trans h3 e5⟩
          · obtain rfl := List.mem_singleton.1 hpy
            exact ⟨by rw [e3]; exact hi.le, by rw [e3]; exact e5, Nat.le_refl _⟩
        · rcases List.mem_append.1 hpy with hpy | hpy
          · obtain ⟨h1, pz, h2, h3⟩ := hi.rs py hpy p hp
            exact ⟨h1, pz, List.mem_append_left _ h2, h3⟩
          · obtain rfl := List.mem_singleton.1 hpy
            rw [e4] at hp
            rcases List.mem_cons.1 hp with rfl | hp
            · exact ⟨Nat.le_refl _, py, by simp, .inl rfl, rfl⟩
            · obtain ⟨pz, h1, h2, rfl⟩ := rangeP_spec hp
              exact ⟨Nat.le_trans (hi.each pz h1).2.2 e5, pz, List.mem_append_left _ h1, .inr (by rw [e2]; exact h2), rfl⟩
        · rw [List.pairwise_append]
          exact ⟨hi.pair, by simp, fun a ha b hb => by
            obtain rfl := List.mem_singleton.1 hb
            rw [e3]; exact (hi.each a ha).2.2⟩
      obtain ⟨g1, ⟨rest, g2⟩, g3, g4⟩ := parX_spec hcall h hi2
      refine ⟨g1, ⟨px :: rest, by rw [g2]; simp⟩, fun q' hq' => ?_, fun py hpy => ?_⟩
      · rcases List.mem_cons.1 hq' with rfl | hq'
        · exact ⟨acc, px, rest, by rw [g2]; simp, by rw [e3]; exact hm⟩
        · exact g3 q' hq'
      · rcases g4 py hpy with h1 | ⟨q', h1, h2⟩
        · rcases List.mem_append.1 h1 with h1 | h1
          · exact .inl h1
          · obtain rfl := List.mem_singleton.1 h1
            exact .inr ⟨q, List.mem_cons_self, e1⟩
        · exact .inr ⟨q', List.mem_cons_of_mem _ h1, h2⟩
    · cases h
def full (bs : Bs) (ent : Nat → Nat × Nat × Nat) (n N : Nat) : Bs := bs ++ (List.range (N - n)).map fun i => ent (n + i)
theorem full_len {bs : Bs} {ent : Nat → Nat × Nat × Nat} {n N : Nat} (hn : bs.length = n) (h : n ≤ N) : (full bs ent n N).length = N := by
  simp [full]; omega
theorem full_lo {bs : Bs} {ent : Nat → Nat × Nat × Nat} {n N k : Nat} (hn : bs.length = n) (h : k < n) : (full bs ent n N)[k]? = bs[k]? := by
  unfold full; rw [List.getElem?_append_left (by omega)]
theorem full_hi {bs : Bs} {ent : Nat → Nat × Nat × Nat} {n N k : Nat} (hn : bs.length = n) (h : n ≤ k) (h2 : k < N) : (full bs ent n N)[k]? = some (ent k) := by
  unfold full
  rw [List.getElem?_append_right (by omega), List.getElem?_map, List.getElem?_range (by omega)]
  simp only [Option.map_some]
  congr 2; omega
def Agr (bs : Bs) (ent : Nat → Nat × Nat × Nat) (n : Nat) (rs : List (Nat × Nat)) (bs' : Bs) : Prop := (∀ k, k < n → bs'[k]? = bs[k]?) ∧ ∀ k, n ≤ k → inRs k rs = true → bs'[k]? = some (ent k)
def blkN (bs : Bs) (ent : Nat → Nat × Nat × Nat) (n k : Nat) : Option Nat := if k < n then (bs[k]?).map Prod.fst else some (ent k).1
def KnB (Hp : H) (ps : List PX) (A : Nat → Bool) (k : Nat) : Prop := (∃ o, Hp.h.get k = some o) ∨ ∃ px ∈ ps, A px.i = true ∧ px.lo ≤ k ∧ k < px.hi ∧ ∃ o, px.h.get k = some o
structure GIx (bs : Bs) (s0 : S) (Hp : H) (M F : List (Nat × Obj)) (ps : List PX) (A : Nat → Bool) (σ' : St) (ent : Nat → Nat × Nat × Nat) (M' : List (Nat × Obj)) : Prop where
  D : RD bs Hp.ds σ'.D
  L : σ'.L = M' ++ F
  sub : ∀ q ∈ M, q ∈ M'
  slots : ∀ t v, s0.get t = some v → ∃ v', look σ'.s t = some v' ∧ RV bs v v'
  deps : ∀ px ∈ ps, A px.i = true → ∀ y ∈ px.ds, A y = true
  val : ∀ px ∈ ps, A px.i = true → ∃ v', look σ'.s px.d = some v' ∧ ∀ bs', Agr bs ent Hp.n px.rs bs' → RV bs' px.v v'
  blk : ∀ px ∈ ps, A px.i = true → ∀ bs', Agr bs ent Hp.n px.rs bs' → ∀ k o, px.lo ≤ k → k < px.hi → px.h.get k = some o → At bs' M' k o
  inj : ∀ j k, KnB Hp ps A j → KnB Hp ps A k → blkN bs ent Hp.n j = blkN bs ent Hp.n k → j = k
  fresh : ∀ px ∈ ps, A px.i = true → ∀ k o, px.lo ≤ k → k < px.hi → px.h.get k = some o → ∀ q ∈ M, q.1 ≠ (ent k).1
theorem At.sub {bs : Bs} {M M' : List (Nat × Obj)} {k : Nat} {o : O} (h : At bs M k o) (hs : ∀ q ∈ M, q ∈ M') : At bs M' k o := by
  obtain ⟨b, base, av, i, o', h1, h2, h3⟩ := h
  obtain ⟨i', hi'⟩ := List.mem_iff_getElem?.1 (hs _ (List.mem_of_getElem? h2))
  exact ⟨b, base, av, i', o', h1, hi', h3⟩
theorem fromL_ge : ∀ {n k j : Nat}, j ∈ fromL k n → k ≤ j
  | 0, k, j, h => by cases h
  | n + 1, k, j, h => by
    rcases List.mem_cons.1 h with rfl | h
    · exact Nat.le_refl _
    · have : k + 1 ≤ j := fromL_ge h
      omega
section
variable {c : Cx} {K : Exit → St → Prop} {call : CallF}
set_option maxHeartbeats 4000000 in
theorem GIx.step (hcall : CallOk c.P call) {ops : Array Oper} (hdst : ∀ o ∈ ops.toList, dok c.N o.dst = true) {Ls : List (Nat × Obj)} {m : Nat} {bs : Bs} {s0 : S} {Hp : H} {M F : List (Nat × Obj)} {ps : List PX} {N : Nat} (hLs : ∀ q ∈ Ls, q ∈ M) (hm : HCov bs Hp M) (hinv : PInv Hp.n ps N) (hnd : (ps.map PX.d).Nodup) (hni : (ps.map PX.i).Nodup)
    (hs0 : ∀ t v, s0.get t = some v → ∀ px ∈ ps, px.d ≠ t) {pre post : List PX} {px : PX} (hps : ps = pre ++ px :: post) (hmem : memberX c.P call ops.toList s0 Hp pre px.lo px.i px.ds = some px) {A : Nat → Bool} {σ' : St} {ent : Nat → Nat × Nat × Nat} {M' : List (Nat × Obj)} (h : GIx bs s0 Hp M F ps A σ' ent M') (hA : A px.i = false) (hds : ∀ y ∈ px.ds, A y = true) :
    Must c ops K Ls m px.i (fun σ'' => ∃ ent M', GIx bs s0 Hp M F ps (fun z => z == px.i || A z) σ'' ent M') σ' := by
  have hn : bs.length = Hp.n := hm.n.symm
  have hpx : px ∈ ps := by rw [hps]; simp
  have hpre : ∀ py ∈ pre, py ∈ ps := fun py hpy => by rw [hps]; exact List.mem_append_left _ hpy
  obtain ⟨hlo, hlh, _⟩ := hinv.each px hpx
  have hprelo : ∀ py ∈ pre, py.hi ≤ px.lo := fun py hpy => by
    have := hinv.pair
    rw [hps, List.pairwise_append] at this
    exact this.2.2 py hpy px List.mem_cons_self
  have apart : ∀ {a b : PX}, a ∈ ps → b ∈ ps → a ≠ b → a.hi ≤ b.lo ∨ b.hi ≤ a.lo := fun {a b} ha hb hab => by
    have h1 : ∀ (l : List PX), l.Pairwise (fun a b => a.hi ≤ b.lo) → a ∈ l → b ∈ l → a.hi ≤ b.lo ∨ b.hi ≤ a.lo := by
      intro l
      induction l with
      | nil => intro _ h; cases h
      | cons z r ih =>
        intro hp ha hb
        rw [List.pairwise_cons] at hp
        rcases List.mem_cons.1 ha with e1 | ha'
        · rcases List.mem_cons.1 hb with e2 | hb'
          · exact absurd (e1.trans e2.symm) hab
          · rw [e1]; exact .inl (hp.1 b hb')
        · rcases List.mem_cons.1 hb with e2 | hb'
          · rw [e2]; exact .inr (hp.1 a ha')
          · exact ih hp.2 ha' hb'
    exact h1 ps hinv.pair ha hb
  have uniq : ∀ {a : PX}, a ∈ ps → a.i = px.i → a = px := fun {a} ha e => by
    have gen : ∀ (l : List PX), (l.map PX.i).Nodup → a ∈ l → px ∈ l → a = px := by
      intro l
      induction l with
      | nil => intro _ h; cases h
      | cons z r ih =>
        intro hp h1 h2
        simp only [List.map_cons, List.nodup_cons] at hp
        rcases List.mem_cons.1 h1 with e1 | h1'
        · rcases List.mem_cons.1 h2 with e2 | h2'
          · exact e1.trans e2.symm
          · exact absurd (List.mem_map.2 ⟨px, h2', by rw [← e1]; exact e.symm⟩) hp.1
        · rcases List.mem_cons.1 h2 with e2 | h2'
          · exact absurd (List.mem_map.2 ⟨a, h1', by rw [← e2]; exact e⟩) hp.1
          · exact ih hp.2 h1' h2'
    exact gen ps hni ha hpx
  have dne : ∀ {a : PX}, a ∈ ps → a ≠ px → a.d ≠ px.d := fun {a} ha hne e => by
    have gen : ∀ (l : List PX), (l.map PX.d).Nodup → a ∈ l → px ∈ l → a = px := by
      intro l
      induction l with
      | nil => intro _ h; cases h
      | cons z r ih =>
        intro hp h1 h2
        simp only [List.map_cons, List.nodup_cons] at hp
        rcases List.mem_cons.1 h1 with e1 | h1'
        · rcases List.mem_cons.1 h2 with e2 | h2'
          · exact e1.trans e2.symm
          · exact absurd (List.mem_map.2 ⟨px, h2', by rw [← e1]; exact e.symm⟩) hp.1
        · rcases List.mem_cons.1 h2 with e2 | h2'
          · exact absurd (List.mem_map.2 ⟨a, h1', by rw [← e2]; exact e⟩) hp.1
          · exact ih hp.2 h1' h2'
    exact hne (gen ps hnd ha hpx)
  have agrF : ∀ py ∈ pre, Agr bs ent Hp.n py.rs (full bs ent Hp.n px.lo) := fun py hpy => ⟨fun k hk => full_lo hn hk, fun k hk hr => by
    obtain ⟨p, hp, h1, h2⟩ := inRs_spec.1 hr
    have := (hinv.rs py (hpre py hpy) p hp).1
    have := hprelo py hpy
    exact full_hi hn hk (by omega)⟩
  have hbn : ∀ {N : Nat} {k b x y : Nat}, (full bs ent Hp.n N)[k]? = some (b, x, y) → blkN bs ent Hp.n k = some b := fun {N k b x y} hk => by
    unfold blkN
    by_cases e : k < Hp.n
    · rw [if_pos e]; rw [full_lo hn e] at hk; rw [hk]; rfl
    · rw [if_neg e]
      have hlt : k < N := by
        have := (List.getElem?_eq_some_iff.1 hk).1
        unfold full at this
        simp at this
        omega
      rw [full_hi hn (by omega) hlt] at hk
      rw [Option.some.inj hk]
  have kn_low : ∀ {k : Nat}, (blkP px.ds Hp.h pre).get k ≠ none → KnB Hp ps A k := fun {k} hk => by
    cases hg : (blkP px.ds Hp.h pre).get k with
    | none => exact absurd hg hk
    | some o =>
      rcases get_blkP hg with h1 | ⟨py, h1, h2, h3, h4, h5⟩
      · exact .inl ⟨o, h1⟩
      · exact .inr ⟨py, hpre py h1, hds _ h2, h3, h4, o, h5⟩
  have hcov : Cov (full bs ent Hp.n px.lo) (putP px.ds s0 pre) ⟨blkP px.ds Hp.h pre, px.lo, [], Hp.ds⟩ M' F σ' := by
    refine ⟨fun t v hv => ?_, h.D.mono _, ⟨(full_len hn hlo).symm, fun k o hk => ?_, fun j k o o' b x y x' y' hj hk hjb hkb => ?_⟩, h.L⟩
    · rcases get_putP hv with h1 | ⟨py, h1, h2, rfl, rfl⟩
      · obtain ⟨v', g1, g2⟩ := h.slots t v h1
        exact ⟨v', g1, g2.mono _⟩
      · obtain ⟨v', g1, g2⟩ := h.val py (hpre py h1) (hds _ h2)
        exact ⟨v', g1, g2 _ (agrF py h1)⟩
    · rcases get_blkP hk with h1 | ⟨py, h1, h2, h3, h4, h5⟩
      · exact ((hm.at_ k o h1).sub h.sub).mono _
      · exact h.blk py (hpre py h1) (hds _ h2) _ (agrF py h1) k o h3 h4 h5
    · exact h.inj j k (kn_low (by rw [hj]; simp)) (kn_low (by rw [hk]; simp)) (by rw [hbn hjb, hbn hkb])
  unfold memberX at hmem
  split at hmem
  · rename_i o ho
    have ho' : ops[px.i]? = some o := by simpa using ho
    have hd := hdst o (List.mem_of_getElem? ho)
    split at hmem
    · rename_i d hod
      split at hmem
      · rename_i hg
        split at hmem
        · rename_i s2 H2 hop
          split at hmem
          · rename_i v hv hnew hinn
            split at hmem
            · rename_i hvi
              simp only [Bool.and_eq_true] at hvi
              obtain ⟨hvi, hsd⟩ := hvi
              have e1 : d = px.d := congrArg PX.d (Option.some.inj hmem)
              have e2 : v = px.v := congrArg PX.v (Option.some.inj hmem)
              have e3 : H2.n = px.hi := congrArg PX.hi (Option.some.inj hmem)
              have e4 : H2.h = px.h := congrArg PX.h (Option.some.inj hmem)
              have e5 : (px.lo, H2.n) :: rangeP px.ds pre = px.rs := congrArg PX.rs (Option.some.inj hmem)
              rw [e5] at hvi hinn
              subst e1 e2
              refine ⟨o, ho', .inl ⟨guard_must hcov.slots hg, ((opX_ok hcall hd hcov hop).frame).mono fun σ'' hσ => ?_⟩⟩
              obtain ⟨s1, ⟨r, M'', f1, f2, f3, f4, f5, f6⟩, hs⟩ := hσ
              have f1 : RD (full bs ent Hp.n px.lo ++ r) H2.ds σ''.D := f1
              have f2 : σ''.L = M'' ++ F := f2
              have f3 : CovS (full bs ent Hp.n px.lo ++ r) s2 s1 := f3
              have hlenF := full_len (ent := ent) hn hlo
              have hrlen : px.hi = px.lo + r.length := by
                have := f4.n
                rw [e3, List.length_append, hlenF] at this
                exact this
              have keepM : ∀ q ∈ M', q ∈ M'' ∧ ∀ j o x y, px.lo ≤ j → H2.h.get j = some o → (full bs ent Hp.n px.lo ++ r)[j]? = some (q.1, x, y) → False := fun q hq => by
                obtain ⟨g1, g2⟩ := f6 (H2.log ++ fromL px.lo (px.hi - px.lo)) [q] (fun k hk => List.mem_append_left _ hk) (fun q' hq' => by
                  obtain rfl := List.mem_singleton.1 hq'
                  refine ⟨hq, fun j o x y hj hjb hW => ?_⟩
                  have hjl : j < px.lo := by rw [← hlenF]; exact (List.getElem?_eq_some_iff.1 hjb).1
                  rcases List.mem_append.1 hW with hW | hW
                  · have := newN_ok hnew j hW; omega
                  · have := fromL_ge hW; omega) q (List.mem_singleton.2 rfl)
                refine ⟨g1, fun j o x y hj ho hjb => g2 j o x y ho hjb (List.mem_append_right _ (fromL_mem hj ?_))⟩
                have := (List.getElem?_eq_some_iff.1 hjb).1
                rw [List.length_append, hlenF] at this
                omega
              refine ⟨fun _ q hq => by rw [f2]; exact List.mem_append_left _ (keepM q (h.sub q (hLs q hq))).1, fun k => if px.lo ≤ k ∧ k < px.hi then r.getD (k - px.lo) (0, 0, 0) else ent k, M'', ?_⟩
              obtain ⟨ent', hent'⟩ : ∃ ent' : Nat → Nat × Nat × Nat, ent' = fun k => if px.lo ≤ k ∧ k < px.hi then r.getD (k - px.lo) (0, 0, 0) else ent k := ⟨_, rfl⟩
              rw [← hent']
              have entO : ∀ k, ¬ (px.lo ≤ k ∧ k < px.hi) → ent' k = ent k := fun k hk => by rw [hent']; exact if_neg hk
              have entN : ∀ k, px.lo ≤ k → k < px.hi → (full bs ent Hp.n px.lo ++ r)[k]? = some (ent' k) := fun k h1 h2 => by
                rw [hent']
                simp only [if_pos (And.intro h1 h2)]
                rw [List.getElem?_append_right (by omega), hlenF, List.getD_eq_getElem?_getD, List.getElem?_eq_getElem (by omega)]
                rfl
              have cvr : ∀ bs', Agr bs ent' Hp.n px.rs bs' → Covers (okNum Hp.n px.rs) (full bs ent Hp.n px.lo ++ r) bs' := fun bs' ha k hk e he => by
                unfold okNum at hk
                split at hk
                · rename_i hlt
                  rw [Nat.blt_eq] at hlt
                  rw [ha.1 k hlt]
                  rwa [List.getElem?_append_left (by rw [hlenF]; omega), full_lo hn hlt] at he
                · rename_i hge
                  have hge : Hp.n ≤ k := by
                    rcases Nat.lt_or_ge k Hp.n with h' | h'
                    · rw [blt_t h'] at hge; cases hge
                    · exact h'
                  rw [ha.2 k hge hk]
                  by_cases hk2 : px.lo ≤ k
                  · have hk3 : k < px.hi := by
                      have := (List.getElem?_eq_some_iff.1 he).1
                      rw [List.length_append, hlenF] at this
                      omega
                    rw [entN k hk2 hk3] at he; exact he
                  · rw [List.getElem?_append_left (by rw [hlenF]; omega), full_hi hn hge (by omega)] at he
                    rw [entO k (by omega)]; exact he
              have agrO : ∀ {py : PX}, py ∈ ps → A py.i = true → ∀ bs', Agr bs ent' Hp.n py.rs bs' → Agr bs ent Hp.n py.rs bs' := fun {py} hpy hAy bs' ha => ⟨ha.1, fun k hk hr => by
                rw [ha.2 k hk hr]
                obtain ⟨p, hp, g1, g2⟩ := inRs_spec.1 hr
                obtain ⟨_, pz, hz, hzz, rfl⟩ := hinv.rs py hpy p hp
                have hAz : A pz.i = true := by
                  rcases hzz with rfl | hzz
                  · exact hAy
                  · exact h.deps py hpy hAy _ hzz
                have hne : pz ≠ px := fun e => by rw [e, hA] at hAz; cases hAz
                have := apart hz hpx hne
                have g1 : pz.lo ≤ k := g1
                have g2 : k < pz.hi := g2
                rw [entO k (by omega)]⟩
              have entM : ∀ {py : PX}, py ∈ ps → A py.i = true → ∀ k, py.lo ≤ k → k < py.hi → ent' k = ent k := fun {py} hpy hAy k h1 h2 => by
                have hne : py ≠ px := fun e => by rw [e, hA] at hAy; cases hAy
                have := apart hpy hpx hne
                exact entO k (by omega)
              have stay : ∀ t, t ≠ px.d → ∀ u, look σ'.s t = some u → look σ''.s t = some u := fun t ht u hu => by
                rw [hs, look_append]
                rw [look_keepS.2 ⟨hu, fun o' ho' => by
                  simp only [List.mem_singleton] at ho'
                  subst ho'
                  rw [hod]; intro e; exact ht (Option.some.inj e).symm⟩]
              have knO : ∀ {k : Nat}, KnB Hp ps A k → blkN bs ent' Hp.n k = blkN bs ent Hp.n k ∧ ∃ b, blkN bs ent Hp.n k = some b ∧ ∃ o', (b, o') ∈ M' := fun {k} hk => by
                rcases hk with ⟨o, hk⟩ | ⟨py, hpy, hAy, g1, g2, o, hk⟩
                · have hlt : k < Hp.n := by rw [← hn]; exact hm.lt hk
                  obtain ⟨b, base, av, i, o', a1, a2, _⟩ := hm.at_ k o hk
                  refine ⟨by simp [blkN, hlt], b, by simp [blkN, hlt, a1], o', h.sub _ (List.mem_of_getElem? a2)⟩
                · obtain ⟨w1, w2, w3⟩ := hinv.each py hpy
                  have hge : ¬ k < Hp.n := by omega
                  obtain ⟨b, base, av, i, o', a1, a2, _⟩ := h.blk py hpy hAy (full bs ent Hp.n N) ⟨fun k hk => full_lo hn hk, fun k hk hr => by
                    obtain ⟨p, hp, q1, q2⟩ := inRs_spec.1 hr
                    have := (hinv.rs py hpy p hp).1
                    exact full_hi hn hk (by omega)⟩ k o g1 g2 hk
                  refine ⟨by simp only [blkN, if_neg hge]; rw [entM hpy hAy k g1 g2], b, hbn a1, o', List.mem_of_getElem? a2⟩
              have knN : ∀ {k : Nat}, px.lo ≤ k → k < px.hi → blkN bs ent' Hp.n k = some (ent' k).1 := fun {k} g1 g2 => by
                simp only [blkN, if_neg (show ¬ k < Hp.n by omega)]
              have mixed : ∀ {j k : Nat} {o : O}, KnB Hp ps A j → px.lo ≤ k → k < px.hi → px.h.get k = some o → blkN bs ent' Hp.n j = blkN bs ent' Hp.n k → False := fun {j k o} hj g1 g2 g3 he => by
                obtain ⟨w1, b, w2, o', w3⟩ := knO hj
                rw [w1, w2, knN g1 g2] at he
                have := entN k g1 g2
                rw [show ent' k = (b, (ent' k).2.1, (ent' k).2.2) by rw [Option.some.inj he]] at this
                exact (keepM _ w3).2 k o _ _ g1 (by rw [e4]; exact g3) this
              have split' : ∀ {py : PX}, py ∈ ps → (py.i == px.i || A py.i) = true → py = px ∨ (py ≠ px ∧ A py.i = true) := fun {py} hpy ht => by
                simp only [Bool.or_eq_true, beq_iff_eq] at ht
                by_cases e : py = px
                · exact .inl e
                · rcases ht with ht | ht
                  · exact .inl (uniq hpy ht)
                  · exact .inr ⟨e, ht⟩
              refine ⟨?_, f2, fun q hq => (keepM q (h.sub q hq)).1, fun t v hv => ?_, fun py hpy ht y hy => ?_, fun py hpy ht => ?_, fun py hpy ht bs' ha k o hk1 hk2 hk3 => ?_, fun j k hj hk he => ?_, fun py hpy ht k o hk1 hk2 hk3 q hq => ?_⟩
              · have h1 := sameD_ok (ρ := fun k => k) (bs1 := full bs ent Hp.n px.lo ++ r) (fun k => rfl) hsd f1
                unfold full at h1
                rw [List.append_assoc] at h1
                exact h1.strip h.D
              · obtain ⟨v', g1, g2⟩ := h.slots t v hv
                exact ⟨v', stay t (fun e => hs0 t v hv px hpx e.symm) v' g1, g2⟩
              · rcases split' hpy ht with rfl | ⟨_, ht⟩
                · simp [hds y hy]
                · simp [h.deps py hpy ht y hy]
              · rcases split' hpy ht with rfl | ⟨hne, ht⟩
                · obtain ⟨v', g1, g2⟩ := f3 _ _ hv
                  refine ⟨v', ?_, fun bs' ha => RV.inn (cvr bs' ha) g2 hvi⟩
                  rw [hs, look_append]
                  cases hk : look (keepS #[o] σ'.s) py.d with
                  | none => exact g1
                  | some u => exact absurd hod ((look_keepS.1 hk).2 o (by simp))
                · obtain ⟨v', g1, g2⟩ := h.val py hpy ht
                  exact ⟨v', stay _ (dne hpy hne) v' g1, fun bs' ha => g2 bs' (agrO hpy ht bs' ha)⟩
              · rcases split' hpy ht with rfl | ⟨hne, ht⟩
                · obtain ⟨b, base, av, i, o', a1, a2, a3⟩ := f4.at_ k o (by rw [e4]; exact hk3)
                  have hok : okNum Hp.n py.rs k = true := by
                    unfold okNum
                    split
                    · rfl
                    · exact inRs_spec.2 ⟨(py.lo, py.hi), by rw [← e5, e3]; exact List.mem_cons_self, hk1, hk2⟩
                  have hoi : O.inn (okNum Hp.n py.rs) o = true := innB_ok hinn hk1 (by
                    have : Nat.sub H2.n py.lo = H2.n - py.lo := rfl
                    rw [this, e3]; omega) (by rw [e4]; exact hk3)
                  exact ⟨b, base, av, i, o', cvr bs' ha k hok _ a1, a2, a3.inn (cvr bs' ha) hoi⟩
                · exact (h.blk py hpy ht bs' (agrO hpy ht bs' ha) k o hk1 hk2 hk3).sub fun q hq => (keepM q hq).1
              · have cases' : ∀ {k : Nat}, KnB Hp ps (fun z => z == px.i || A z) k → KnB Hp ps A k ∨ (px.lo ≤ k ∧ k < px.hi ∧ ∃ o, px.h.get k = some o) := fun {k} hk => by
                  rcases hk with hk | ⟨py, hpy, ht, g1, g2, g3⟩
                  · exact .inl (.inl hk)
                  · rcases split' hpy ht with rfl | ⟨_, ht⟩
                    · exact .inr ⟨g1, g2, g3⟩
                    · exact .inl (.inr ⟨py, hpy, ht, g1, g2, g3⟩)
                rcases cases' hj with hj | ⟨j1, j2, oj, j3⟩
                · rcases cases' hk with hk | ⟨k1, k2, ok, k3⟩
                  · exact h.inj j k hj hk (by rw [← (knO hj).1, ← (knO hk).1]; exact he)
                  · exact (mixed hj k1 k2 k3 he).elim
                · rcases cases' hk with hk | ⟨k1, k2, ok, k3⟩
                  · exact (mixed hk j1 j2 j3 he.symm).elim
                  · rw [knN j1 j2, knN k1 k2] at he
                    have hj' := entN j j1 j2
                    have hk' := entN k k1 k2
                    rw [show ent' j = ((ent' k).1, (ent' j).2.1, (ent' j).2.2) by rw [← Option.some.inj he]] at hj'
                    exact f4.inj j k oj ok _ _ _ _ _ (by rw [e4]; exact j3) (by rw [e4]; exact k3) hj' hk'
              · rcases split' hpy ht with rfl | ⟨_, ht⟩
                · intro e
                  have := entN k hk1 hk2
                  rw [show ent' k = (q.1, (ent' k).2.1, (ent' k).2.2) by rw [e]] at this
                  exact (keepM q (h.sub q hq)).2 k o _ _ hk1 (by rw [e4]; exact hk3) this
                · rw [entM hpy ht k hk1 hk2]; exact h.fresh py hpy ht k o hk1 hk2 hk3 q hq
            · cases hmem
          · cases hmem
        · cases hmem
      · rename_i hg
        have e1 : d = px.d := congrArg PX.d (Option.some.inj hmem)
        have e2 : V.tup [] = px.v := congrArg PX.v (Option.some.inj hmem)
        have e3 : px.lo = px.hi := congrArg PX.hi (Option.some.inj hmem)
        subst e1
        have hW : ∃ ent M', GIx bs s0 Hp M F ps (fun z => z == px.i || A z) (σ'.put o.dst undef) ent M' := by
          have stay : ∀ t, t ≠ px.d → ∀ u, look σ'.s t = some u → look (σ'.put o.dst undef).s t = some u := fun t ht u hu => by
            rw [hod]
            show look ((px.d, undef) :: σ'.s) t = some u
            rw [look_cons, if_neg (Ne.symm ht)]; exact hu
          have split' : ∀ {py : PX}, py ∈ ps → (py.i == px.i || A py.i) = true → py = px ∨ (py ≠ px ∧ A py.i = true) := fun {py} hpy ht => by
            simp only [Bool.or_eq_true, beq_iff_eq] at ht
            by_cases e : py = px
            · exact .inl e
            · rcases ht with ht | ht
              · exact .inl (uniq hpy ht)
              · exact .inr ⟨e, ht⟩
          have knE : ∀ {k : Nat}, KnB Hp ps (fun z => z == px.i || A z) k → KnB Hp ps A k := fun {k} hk => by
            rcases hk with hk | ⟨py, hpy, ht, g1, g2, g3⟩
            · exact .inl hk
            · rcases split' hpy ht with rfl | ⟨_, ht⟩
              · omega
              · exact .inr ⟨py, hpy, ht, g1, g2, g3⟩
          refine ⟨ent, M', by rw [put_D]; exact h.D, by rw [put_L]; exact h.L, h.sub, fun t v hv => ?_, fun py hpy ht y hy => ?_, fun py hpy ht => ?_, fun py hpy ht bs' ha k o hk1 hk2 hk3 => ?_, fun j k hj hk he => h.inj j k (knE hj) (knE hk) he, fun py hpy ht k o hk1 hk2 hk3 q hq => ?_⟩
          · obtain ⟨v', g1, g2⟩ := h.slots t v hv
            exact ⟨v', stay t (fun e => hs0 t v hv px hpx e.symm) v' g1, g2⟩
          · rcases split' hpy ht with rfl | ⟨_, ht⟩
            · simp [hds y hy]
            · simp [h.deps py hpy ht y hy]
          · rcases split' hpy ht with rfl | ⟨hne, ht⟩
            · refine ⟨undef, ?_, fun bs' _ => by rw [← e2]; exact .tup .nil⟩
              rw [hod]
              show look ((py.d, undef) :: σ'.s) py.d = some undef
              rw [look_cons, if_pos rfl]
            · obtain ⟨v', g1, g2⟩ := h.val py hpy ht
              exact ⟨v', stay _ (dne hpy hne) v' g1, g2⟩
          · rcases split' hpy ht with rfl | ⟨_, ht⟩
            · omega
            · exact h.blk py hpy ht bs' ha k o hk1 hk2 hk3
          · rcases split' hpy ht with rfl | ⟨_, ht⟩
            · omega
            · exact h.fresh py hpy ht k o hk1 hk2 hk3 q hq
        refine ⟨o, ho', .inr ⟨?_, hd, fun _ q hq => by rw [h.L]; exact List.mem_append_left _ (h.sub q (hLs q hq)), hW⟩⟩
        rcases guardX_ok hcov.slots hg with ⟨hb, _⟩ | ⟨j, want, og, dg, hg1, hj, hdg, ⟨hb, _⟩ | ⟨_, u, hu, he⟩⟩
        · cases hb
        · cases hb
        · exact ⟨j, want, og, dg, u, hg1, hj, hdg, hu, he⟩
      · cases hmem
    · cases hmem
  · cases hmem
set_option maxHeartbeats 4000000 in
theorem GIx.end_ {bs : Bs} {s0 : S} {Hp : H} {M F : List (Nat × Obj)} {ps : List PX} {N : Nat} {ds : List Nat} (hm : HCov bs Hp M) (hinv : PInv Hp.n ps N) {A : Nat → Bool} {σ' : St} {ent : Nat → Nat × Nat × Nat} {M' : List (Nat × Obj)} (h : GIx bs s0 Hp M F ps A σ' ent M') (hA : ∀ px ∈ ps, A px.i = true) :
    Post bs Hp M F (putP ds s0 ps) ⟨blkP ds Hp.h ps, N, Hp.log, Hp.ds⟩ σ' := by
  have hn : bs.length = Hp.n := hm.n.symm
  have agr : ∀ py ∈ ps, Agr bs ent Hp.n py.rs (full bs ent Hp.n N) := fun py hpy => ⟨fun k hk => full_lo hn hk, fun k hk hr => by
    obtain ⟨p, hp, h1, h2⟩ := inRs_spec.1 hr
    have := (hinv.rs py hpy p hp).1
    have := (hinv.each py hpy).2.2
    exact full_hi hn hk (by omega)⟩
  have kn : ∀ {k : Nat} {o : O}, (blkP ds Hp.h ps).get k = some o → KnB Hp ps A k := fun {k o} hk => by
    rcases get_blkP hk with h1 | ⟨py, h1, h2, h3, h4, h5⟩
    · exact .inl ⟨o, h1⟩
    · exact .inr ⟨py, h1, hA py h1, h3, h4, o, h5⟩
  have hbn : ∀ {k b x y : Nat}, (full bs ent Hp.n N)[k]? = some (b, x, y) → blkN bs ent Hp.n k = some b := fun {k b x y} hk => by
    unfold blkN
    by_cases e : k < Hp.n
    · rw [if_pos e]; rw [full_lo hn e] at hk; rw [hk]; rfl
    · rw [if_neg e]
      have hlt : k < N := by
        have := (List.getElem?_eq_some_iff.1 hk).1
        rwa [full_len hn hinv.le] at this
      rw [full_hi hn (by omega) hlt] at hk
      rw [Option.some.inj hk]
  refine ⟨(List.range (N - Hp.n)).map fun i => ent (Hp.n + i), M', h.D.mono _, h.L, fun t v hv => ?_, ⟨(full_len (ent := ent) hn hinv.le).symm, fun k o hk => ?_, fun j k o o' b x y x' y' hj hk hjb hkb => ?_⟩, fun k hk => hk, fun W B hW hB q hq => ?_⟩
  · rcases get_putP hv with h1 | ⟨py, h1, h2, rfl, rfl⟩
    · obtain ⟨v', g1, g2⟩ := h.slots t v h1
      exact ⟨v', g1, g2.mono _⟩
    · obtain ⟨v', g1, g2⟩ := h.val py h1 (hA py h1)
      exact ⟨v', g1, g2 _ (agr py h1)⟩
  · rcases get_blkP hk with h1 | ⟨py, h1, h2, h3, h4, h5⟩
    · exact ((hm.at_ k o h1).sub h.sub).mono _
    · exact h.blk py h1 (hA py h1) _ (agr py h1) k o h3 h4 h5
  · exact h.inj j k (kn hj) (kn hk) (by rw [hbn hjb, hbn hkb])
  · obtain ⟨g1, g2⟩ := hB q hq
    refine ⟨h.sub q g1, fun j o x y hj hjb => ?_⟩
    rcases get_blkP hj with h1 | ⟨py, h1, h2, h3, h4, h5⟩
    · refine g2 j o x y h1 ?_
      rwa [List.getElem?_append_left (hm.lt h1)] at hjb
    · exfalso
      obtain ⟨w1, w2, w3⟩ := hinv.each py h1
      have hjb : (full bs ent Hp.n N)[j]? = some (q.1, x, y) := hjb
      rw [full_hi hn (by omega) (by omega)] at hjb
      exact h.fresh py h1 (hA py h1) j o h3 h4 h5 q g1 (by rw [Option.some.inj hjb])
set_option maxHeartbeats 4000000 in
theorem groupX_ok (hcall : CallOk c.P call) {ops : Array Oper} (hdst : ∀ o ∈ ops.toList, dok c.N o.dst = true) {Ls L0 : List (Nat × Obj)} {m : Nat} {ms : List Nat} {fresh : Bool} {bs : Bs} {s : S} {Hp : H} {M F : List (Nat × Obj)} {σ : St} {l : List (Nat × List Nat)} {p : Plan} {s2 : S} {H2 : H} (hLs : ∀ q ∈ Ls, q ∈ M) (hcov : Cov bs s Hp M F σ) (hc : groupX c.P call ops.toList l s Hp = some (s2, H2))
    (hend : ∀ σ', Post bs Hp M F s2 H2 σ' → WS c ops K Ls L0 m ms false p σ') : WS c ops K Ls L0 m ms fresh (.par l p) σ := by
  unfold groupX at hc
  split at hc
  · rename_i ps N hpar
    split at hc
    · rename_i hnd hni
      cases hc
      have hinv0 : PInv Hp.n [] Hp.n := ⟨Nat.le_refl _, (fun px h => by cases h), (fun px h => by cases h), by simp⟩
      obtain ⟨hinv, _, hmem, hback⟩ := parX_spec hcall hpar hinv0
      have hnd := nodupN_ok hnd
      have hni := nodupN_ok hni
      have hdo : ∀ px ∈ ps, ∃ o, ops.toList[px.i]? = some o ∧ o.dst = some px.d ∧ o ∈ opersOf ops.toList l := fun px hpx => by
        rcases hback px hpx with h | ⟨q, hq, e⟩
        · cases h
        · obtain ⟨pre, py, post, h1, h2⟩ := hmem q hq
          obtain ⟨e1, _, _, _, _, o, e6, e7⟩ := memberX_spec hcall h2
          have hpy : py = px := by
            have gen : ∀ (l : List PX), (l.map PX.i).Nodup → py ∈ l → px ∈ l → py = px := by
              intro l
              induction l with
              | nil => intro _ h; cases h
              | cons z r ih =>
                intro hp g1 g2
                simp only [List.map_cons, List.nodup_cons] at hp
                rcases List.mem_cons.1 g1 with w1 | g1'
                · rcases List.mem_cons.1 g2 with w2 | g2'
                  · exact w1.trans w2.symm
                  · exact absurd (List.mem_map.2 ⟨px, g2', by rw [← w1]; exact e.trans e1.symm⟩) hp.1
                · rcases List.mem_cons.1 g2 with w2 | g2'
                  · exact absurd (List.mem_map.2 ⟨py, g1', by rw [← w2]; exact e1.trans e.symm⟩) hp.1
                  · exact ih hp.2 g1' g2'
            exact gen ps hni (by rw [h1]; simp) hpx
          subst hpy
          refine ⟨o, by rw [e]; exact e6, e7, ?_⟩
          have gen : ∀ (l : List (Nat × List Nat)), q ∈ l → o ∈ opersOf ops.toList l := by
            intro l
            induction l with
            | nil => intro h; cases h
            | cons z r ih =>
              intro h
              simp only [opersOf]
              rcases List.mem_cons.1 h with w | h'
              · rw [← w, e6]; exact List.mem_cons_self
              · have := ih h'
                split
                · exact List.mem_cons_of_mem _ this
                · exact this
          exact gen l hq
      refine ⟨fun A σ' => ∃ ent M', GIx bs (s.cut (opersOf ops.toList l)) Hp M F ps A σ' ent M', ?_, ?_, ?_⟩
      · refine ⟨fun _ => (0, 0, 0), M, hcov.D, hcov.L, fun q hq => hq, fun t v hv => hcov.slots t v (S.get_cut hv).1, (fun px _ h => by cases h), (fun px _ h => by cases h), (fun px _ h => by cases h), fun j k hj hk he => ?_, (fun px _ h => by cases h)⟩
        rcases hj with ⟨o, hj⟩ | ⟨px, _, h, _⟩
        · rcases hk with ⟨o', hk⟩ | ⟨px, _, h, _⟩
          · have hj1 := hcov.mem.lt hj
            have hk1 := hcov.mem.lt hk
            have hn := hcov.mem.n
            simp only [blkN, if_pos (show j < Hp.n by omega), if_pos (show k < Hp.n by omega), List.getElem?_eq_getElem hj1, List.getElem?_eq_getElem hk1, Option.map_some, Option.some.injEq] at he
            exact hcov.mem.inj j k o o' bs[j].1 bs[j].2.1 bs[j].2.2 bs[k].2.1 bs[k].2.2 hj hk (by rw [List.getElem?_eq_getElem hj1]) (by rw [List.getElem?_eq_getElem hk1, he])
          · cases h
        · cases h
      · intro A σ' ⟨ent, M', hI⟩ x ds hq hA hds
        obtain ⟨pre, px, post, h1, h2⟩ := hmem (x, ds) hq
        obtain ⟨e1, e2, e3, _, _, _⟩ := memberX_spec hcall h2
        have e1 : px.i = x := e1
        have e2 : px.ds = ds := e2
        subst e1 e2
        exact GIx.step hcall hdst hLs hcov.mem hinv hnd hni (fun t v hv px hpx e => by
          obtain ⟨o, _, g1, g2⟩ := hdo px hpx
          exact (S.get_cut hv).2 o g2 (by rw [g1, e])) h1 h2 hI hA hds
      · intro A σ' ⟨ent, M', hI⟩ hA
        have hin : ∀ px ∈ ps, px.i ∈ l.map Prod.fst := fun px hpx => by
          rcases hback px hpx with h | ⟨q, hq, e⟩
          · cases h
          · rw [e]; exact List.mem_map.2 ⟨q, hq, rfl⟩
        exact hend σ' (hI.end_ hcov.mem hinv fun px hpx => hA _ (hin px hpx))
    · cases hc
  · cases hc
end
theorem groupX_ext {P : Program} {call : CallF} (hcall : CallOk P call) {ops : List Oper} {l : List (Nat × List Nat)} {s : S} {Hp : H} {s2 : S} {H2 : H} (hc : groupX P call ops l s Hp = some (s2, H2)) : Ext Hp H2 := by
  unfold groupX at hc
  split at hc
  · rename_i ps N hpar
    split at hc
    · cases hc
      have hinv0 : PInv Hp.n [] Hp.n := ⟨Nat.le_refl _, (fun px h => by cases h), (fun px h => by cases h), by simp⟩
      obtain ⟨hinv, _, _, _⟩ := parX_spec hcall hpar hinv0
      refine ⟨fun k hk => hk, hinv.le, fun k o hk => ?_⟩
      rcases get_blkP hk with h1 | ⟨py, h1, h2, h3, h4, h5⟩
      · exact .inr (.inr h1)
      · obtain ⟨w1, w2, w3⟩ := hinv.each py h1
        exact .inr (.inl ⟨by omega, by show k < N; omega⟩)
    · cases hc
  · cases hc
def lateX (P : Program) (call : CallF) (ops : List Oper) (m : Nat) : Plan → S → H → CX
  | .done, s, Hp => some (.normal, s, Hp)
  | .must i p, s, Hp => match Nat.blt i m with
    | true => none
    | false => match ops[i]? with
      | some o => match guardX ops s o with
        | some true => match opX P call s Hp o with
          | some (s2, H2) => lateX P call ops m p s2 H2
          | none => match opP P call s Hp o with
            | some (v, H2) => some (.panic v, noS, H2)
            | none => none
        | some false => lateX P call ops m p (putD s o.dst (.tup [])) Hp
        | none => none
      | none => none
  | _, _, _ => none
def stepK {α : Type} (P : Program) (call : CallF) (ops : List Oper) (i : Nat) (k : S → H → Option α) (pk : V → H → Option α) (s : S) (Hp : H) : Option α := match ops[i]? with
  | some o => match guardX ops s o with
    | some true => match opX P call s Hp o with
      | some (s2, H2) => k s2 H2
      | none => match opP P call s Hp o with
        | some (v, H2) => pk v H2
        | none => none
    | some false => k (putD s o.dst (.tup [])) Hp
    | none => none
  | none => none
def aheadX (ops : List Oper) (ms : List Nat) (m i : Nat) : Bool := ms.all fun j => match Nat.ble m j with
  | true => true
  | false => match ops[j]? with
    | some o => o.after.any fun e => Region.binds .any e && e.on == i
    | none => true
theorem aheadX_ok {ops : Array Oper} {ms : List Nat} {m i : Nat} (h : aheadX ops.toList ms m i = true) : aheadOk ops ms m i = true := by
  rw [aheadOk, List.all_eq_true]
  intro j hj
  have h1 := List.all_eq_true.1 h j hj
  simp only [Array.getElem?_toList] at h1
  cases hb : Nat.ble m j with
  | true => rfl
  | false =>
    simp only [hb] at h1
    cases hq : ops[j]? with
    | none => rfl
    | some o => rw [hq] at h1; exact h1
def pairN {α : Type} (n : Nat) : Option α → Option (Nat × α)
  | some a => some (n, a)
  | none => none
def drawX (P : Program) (call : CallF) (ops : List Oper) (h0 : T O) (m : Nat) (ms : List Nat) : Bool → Plan → S → H → List Nat → Option (EX × S × H × List Nat × List Nat)
  | _, .done, s, Hp, rd => some (.normal, s, Hp, Hp.log, rd)
  | fresh, .calm i p, s, Hp, rd => match ops[i]? with
    | some o => match guardX ops s o with
      | some true => match calmX P s h0 o.op with
        | some (v, some k) => match fresh, aheadX ops ms m i with
          | true, true => drawX P call ops h0 m ms true p (putD s o.dst v) Hp rd
          | _, _ => drawX P call ops h0 m ms fresh p (putD s o.dst v) Hp (k :: rd)
        | some (v, none) => drawX P call ops h0 m ms fresh p (putD s o.dst v) Hp rd
        | none => none
      | some false => match notDefer o.op with
        | true => drawX P call ops h0 m ms fresh p (putD s o.dst (.tup [])) Hp rd
        | false => none
      | none => none
    | none => none
  | _, .must i p, s, Hp, rd => match Nat.blt i m with
    | true => stepK P call ops i (fun s2 H2 => drawX P call ops h0 m ms false p s2 H2 rd) (fun v H2 => some (.panic v, noS, H2, H2.log, rd)) s Hp
    | false => match lateX P call ops m (.must i p) s Hp with
      | some (e, s2, H2) => some (e, s2, H2, Hp.log, rd)
      | none => none
  | _, .par l p, s, Hp, rd => match groupX P call ops l s Hp with
    | some (s2, H2) => drawX P call ops h0 m ms false p s2 H2 rd
    | none => none
  | _, .either i p j q, s, Hp, rd => match stepK P call ops i (fun s2 H2 => pairN H2.n (drawX P call ops h0 m ms false p s2 H2 rd)) (fun _ _ => none) s Hp, stepK P call ops j (fun s2 H2 => pairN H2.n (drawX P call ops h0 m ms false q s2 H2 rd)) (fun _ _ => none) s Hp with
    | some (n1, .normal, s1, H1, W1, r1), some (n2, .normal, s2, H2, W2, r2) => match S.leq (shiftN Hp.n (Nat.sub n1 Hp.n) (Nat.sub n2 Hp.n)) s1 s2, H.leq Hp.n (Nat.sub n1 Hp.n) (Nat.sub n2 Hp.n) H1 H2 with
      | true, true => some (.normal, s1, H.both Hp.n (Nat.sub n1 Hp.n) (Nat.sub n2 Hp.n) H1 H2, W1 ++ W2, r1 ++ r2)
      | _, _ => none
    | _, _ => none
theorem stepK_some {α : Type} {P : Program} {call : CallF} {ops : List Oper} {i : Nat} {k : S → H → Option α} {pk : V → H → Option α} {s : S} {Hp : H} {a : α} (h : stepK P call ops i k pk s Hp = some a) : ∃ o, ops[i]? = some o ∧ ((guardX ops s o = some true ∧ ((∃ s2 H2, opX P call s Hp o = some (s2, H2) ∧ k s2 H2 = some a) ∨ ∃ v H2, opP P call s Hp o = some (v, H2) ∧ pk v H2 = some a)) ∨ (guardX ops s o = some false ∧ k (putD s o.dst (.tup [])) Hp = some a)) := by
  unfold stepK at h
  split at h
  · rename_i o ho
    split at h
    · rename_i hg
      split at h
      · rename_i s2 H2 h1; exact ⟨o, ho, .inl ⟨hg, .inl ⟨s2, H2, h1, h⟩⟩⟩
      · split at h
        · rename_i v H2 h1; exact ⟨o, ho, .inl ⟨hg, .inr ⟨v, H2, h1, h⟩⟩⟩
        · cases h
    · rename_i hg; exact ⟨o, ho, .inr ⟨hg, h⟩⟩
    · cases h
  · cases h
theorem stepK_pair {α : Type} {P : Program} {call : CallF} {ops : List Oper} {i : Nat} {k : S → H → Option α} {s : S} {Hp : H} {n : Nat} {a : α} (h : stepK P call ops i (fun s2 H2 => pairN H2.n (k s2 H2)) (fun _ _ => none) s Hp = some (n, a)) : stepK P call ops i k (fun _ _ => none) s Hp = some a := by
  have pn : ∀ {m : Nat} {x : Option α}, pairN m x = some (n, a) → x = some a := fun {m x} h => by
    cases x with
    | none => cases h
    | some y => cases h; rfl
  unfold stepK at h ⊢
  split at h
  · split at h
    · split at h
      · exact pn h
      · split at h <;> cases h
    · exact pn h
    · cases h
  · cases h
theorem lateX_ext {P : Program} {call : CallF} (hcall : CallOk P call) {ops : List Oper} {m : Nat} : ∀ {p : Plan} {s : S} {Hp : H} {e : EX} {s2 : S} {H2 : H}, lateX P call ops m p s Hp = some (e, s2, H2) → Ext Hp H2 := by
  intro p
  induction p with
  | done => intro s Hp e s2 H2 h; cases h; exact .refl _
  | calm => intro s Hp e s2 H2 h; cases h
  | either => intro s Hp e s2 H2 h; cases h
  | par => intro s Hp e s2 H2 h; cases h
  | must i p ih =>
    intro s Hp e s2 H2 h
    simp only [lateX] at h
    split at h
    · cases h
    · split at h
      · split at h
        · split at h
          · rename_i ho
            exact (opX_ext hcall ho).trans (ih h)
          · split at h
            · rename_i hp
              cases h
              exact opP_ext hcall ⟨_, hp⟩
            · cases h
        · exact ih h
        · cases h
      · cases h
set_option maxHeartbeats 4000000 in
theorem drawX_ext {P : Program} {call : CallF} (hcall : CallOk P call) {ops : List Oper} {h0 : T O} {m : Nat} {ms : List Nat} : ∀ {p : Plan} {fresh : Bool} {s : S} {Hp : H} {rd : List Nat} {e : EX} {s2 : S} {H2 : H} {W rd2 : List Nat}, drawX P call ops h0 m ms fresh p s Hp rd = some (e, s2, H2, W, rd2) → Ext Hp H2 ∧ (∀ k ∈ Hp.log, k ∈ W) ∧ (∀ k ∈ W, k ∈ H2.log) ∧ (∀ k ∈ rd, k ∈ rd2) := by
  intro p
  induction p with
  | done => intro fresh s Hp rd e s2 H2 W rd2 h; cases h; exact ⟨.refl _, fun _ h => h, fun _ h => h, fun _ h => h⟩
  | calm i p ih =>
    intro fresh s Hp rd e s2 H2 W rd2 h
    simp only [drawX] at h
    split at h
    · split at h
      · split at h
        · split at h
          · exact ih h
          · obtain ⟨h0, h1, h2, h3⟩ := ih h; exact ⟨h0, h1, h2, fun k hk => h3 k (List.mem_cons_of_mem _ hk)⟩
        · exact ih h
        · cases h
      · split at h
        · exact ih h
        · cases h
      · cases h
    · cases h
  | par l p ih =>
    intro fresh s Hp rd e s2 H2 W rd2 h
    simp only [drawX] at h
    split at h
    · rename_i s3 H3 hg
      obtain ⟨h0, h1, h2, h3⟩ := ih h
      have hx := groupX_ext hcall hg
      exact ⟨hx.trans h0, fun k hk => h1 k (hx.log k hk), h2, h3⟩
    · cases h
  | must i p ih =>
    intro fresh s Hp rd e s2 H2 W rd2 h
    simp only [drawX] at h
    split at h
    · obtain ⟨o, _, ⟨_, ⟨s3, H3, ho, h⟩ | ⟨v, H3, ho, h⟩⟩ | ⟨_, h⟩⟩ := stepK_some h
      · obtain ⟨h0, h1, h2, h3⟩ := ih h
        exact ⟨(opX_ext hcall ho).trans h0, fun k hk => h1 k ((opX_ext hcall ho).log k hk), h2, h3⟩
      · cases h
        exact ⟨opP_ext hcall ⟨_, ho⟩, (opP_ext hcall ⟨_, ho⟩).log, fun _ h => h, fun _ h => h⟩
      · exact ih h
    · split at h
      · rename_i hl
        cases h
        exact ⟨lateX_ext hcall hl, fun _ h => h, (lateX_ext hcall hl).log, fun _ h => h⟩
      · cases h
  | either i p j q ihp ihq =>
    intro fresh s Hp rd e s2 H2 W rd2 h
    simp only [drawX] at h
    split at h
    · rename_i n3 s3 H3 W3 r3 n4 s4 H4 W4 r4 e1 e2
      split at h
      · rename_i c1 c2
        cases h
        have e1 := stepK_pair e1
        have e2 := stepK_pair e2
        have k1 : Ext Hp H3 ∧ (∀ k ∈ Hp.log, k ∈ W3) ∧ (∀ k ∈ W3, k ∈ H3.log) ∧ (∀ k ∈ rd, k ∈ r3) := by
          obtain ⟨o, _, ⟨_, ⟨s5, H5, ho, h⟩ | ⟨v, H5, ho, h⟩⟩ | ⟨_, h⟩⟩ := stepK_some e1
          · obtain ⟨h0, h1, h2, h3⟩ := ihp h
            exact ⟨(opX_ext hcall ho).trans h0, fun k hk => h1 k ((opX_ext hcall ho).log k hk), h2, h3⟩
          · cases h
          · exact ihp h
        have k2 : Ext Hp H4 ∧ (∀ k ∈ Hp.log, k ∈ W4) ∧ (∀ k ∈ W4, k ∈ H4.log) ∧ (∀ k ∈ rd, k ∈ r4) := by
          obtain ⟨o, _, ⟨_, ⟨s5, H5, ho, h⟩ | ⟨v, H5, ho, h⟩⟩ | ⟨_, h⟩⟩ := stepK_some e2
          · obtain ⟨h0, h1, h2, h3⟩ := ihq h
            exact ⟨(opX_ext hcall ho).trans h0, fun k hk => h1 k ((opX_ext hcall ho).log k hk), h2, h3⟩
          · cases h
          · exact ihq h
        refine ⟨k1.1.both1, fun k hk => List.mem_append_left _ (k1.2.1 k hk), fun k hk => ?_, fun k hk => List.mem_append_left _ (k1.2.2.2 k hk)⟩
        rcases List.mem_append.1 hk with hk | hk
        · exact List.mem_append_left _ (k1.2.2.1 k hk)
        · exact List.mem_append_right _ (List.mem_append_left _ (k2.2.2.1 k hk))
      · cases h
    · cases h
theorem drawX_log {P : Program} {call : CallF} (hcall : CallOk P call) {ops : List Oper} {h0 : T O} {m : Nat} {ms : List Nat} {p : Plan} {fresh : Bool} {s : S} {Hp : H} {rd : List Nat} {e : EX} {s2 : S} {H2 : H} {W rd2 : List Nat} (h : drawX P call ops h0 m ms fresh p s Hp rd = some (e, s2, H2, W, rd2)) : (∀ k ∈ Hp.log, k ∈ W) ∧ (∀ k ∈ W, k ∈ H2.log) ∧ (∀ k ∈ rd, k ∈ rd2) := (drawX_ext hcall h).2
theorem stepK_ext {P : Program} {call : CallF} (hcall : CallOk P call) {ops : List Oper} {h0 : T O} {m : Nat} {ms : List Nat} {p : Plan} {i : Nat} {s : S} {Hp : H} {rd : List Nat} {e : EX} {s2 : S} {H2 : H} {W rd2 : List Nat} (h : stepK P call ops i (fun s2 H2 => drawX P call ops h0 m ms false p s2 H2 rd) (fun _ _ => none) s Hp = some (e, s2, H2, W, rd2)) : Ext Hp H2 := by
  obtain ⟨o, _, ⟨_, ⟨s5, H5, ho, h⟩ | ⟨v, H5, ho, h⟩⟩ | ⟨_, h⟩⟩ := stepK_some h
  · exact (opX_ext hcall ho).trans (drawX_ext hcall h).1
  · cases h
  · exact (drawX_ext hcall h).1
section
variable {c : Cx} {K : Exit → St → Prop} {call : CallF}
theorem lateX_ok (hcall : CallOk c.P call) {ops : Array Oper} {Ls L0 : List (Nat × Obj)} {m : Nat} {ms : List Nat} (hdst : ∀ o ∈ ops.toList, dok c.N o.dst = true) :
    ∀ (p : Plan) {fresh : Bool} {bs : Bs} {s : S} {Hp : H} {M F : List (Nat × Obj)} {e : EX} {s2 : S} {H2 : H} {σ : St}, lateX c.P call ops.toList m p s Hp = some (e, s2, H2) → Cov bs s Hp M F σ → (∀ e' σ', DoneK bs Hp M F e s2 H2 e' σ' → K e' σ') → WS c ops K Ls L0 m ms fresh p σ := by
  intro p
  induction p with
  | done =>
    intro fresh bs s Hp M F e s2 H2 σ h hcov hk
    cases h
    exact hk .normal σ ⟨rfl, Post.self hcov.D hcov.L hcov.slots hcov.mem⟩
  | calm => intro fresh bs s Hp M F e s2 H2 σ h; cases h
  | either => intro fresh bs s Hp M F e s2 H2 σ h; cases h
  | par => intro fresh bs s Hp M F e s2 H2 σ h; cases h
  | must i p ih =>
    intro fresh bs s Hp M F e s2 H2 σ h hcov hk
    simp only [lateX] at h
    split at h
    · cases h
    · rename_i him
      have him : ¬ i < m := fun hlt => by rw [show Nat.blt i m = true by rw [Nat.blt_eq]; exact hlt] at him; cases him
      split at h
      · rename_i o hi
        have hd := hdst o (List.mem_of_getElem? hi)
        have hi' : ops[i]? = some o := by simpa using hi
        split at h
        · rename_i hg
          split at h
          · rename_i s1 H1 h1
            have hO : OW c o (fun σ' => (i < m → ∀ q ∈ Ls, q ∈ σ'.L) ∧ WS c ops K Ls L0 m ms false p σ') K σ := (opX_ok hcall hd hcov h1).mono fun σ1 hp1 => by
              obtain ⟨r1, M1, hcov1, hl1, hp1, _⟩ := hp1.split
              exact ⟨fun hlt => absurd hlt him, ih h hcov1 fun e' σ' hp2 => hk e' σ' (DoneK.comp hl1 hp1 hp2)⟩
            exact ⟨o, hi', .inl ⟨guard_must hcov.slots hg, hO⟩⟩
          · split at h
            · rename_i v H3 h3
              cases h
              exact ⟨o, hi', .inl ⟨guard_must hcov.slots hg, opP_ok hcall hcov h3 hk⟩⟩
            · cases h
        · rename_i hg
          have hrest := ih (fresh := false) h (hcov.undef o.dst) hk
          refine ⟨o, hi', .inr ⟨?_, hd, fun hlt => absurd hlt him, hrest⟩⟩
          rcases guardX_ok hcov.slots hg with ⟨hb, _⟩ | ⟨j, want, og, dg, hg1, hj, hdg, ⟨hb, _⟩ | ⟨_, u, hu, he⟩⟩
          · cases hb
          · cases hb
          · exact ⟨j, want, og, dg, u, hg1, hj, hdg, hu, he⟩
        · cases h
      · cases h
end
section
variable {c : Cx} {K : Exit → St → Prop} {call : CallF}
theorem mustW (hcall : CallOk c.P call) {ops : Array Oper} {Ls L0 : List (Nat × Obj)} {ms : List Nat} {fresh : Bool} {W : List Nat} {bs0 : Bs} {m : Nat} (hdst : ∀ o ∈ ops.toList, dok c.N o.dst = true) {α : Type} {a : α} {k : S → H → Option α} {pk : V → H → Option α} {i : Nat} {p : Plan} {r : Bs} {s : S} {Hp : H} {M F : List (Nat × Obj)} {σ : St} (h : stepK c.P call ops.toList i k pk s Hp = some a)
    (hlog : ∀ s1 H1, k s1 H1 = some a → ∀ x ∈ H1.log, x ∈ W) (hcov : Cov (bs0 ++ r) s Hp M F σ) (hp : Prot (bs0 ++ r) Hp M W Ls) (hpan : ∀ v H1, pk v H1 = some a → ∀ e' σ', DoneK (bs0 ++ r) Hp M F (.panic v) noS H1 e' σ' → K e' σ')
    (hcont : ∀ {r' s' H' M' σ'}, k s' H' = some a → Cov (bs0 ++ r') s' H' M' F σ' → Prot (bs0 ++ r') H' M' W Ls → (∀ {e s2 H2 e' σ2}, DoneK (bs0 ++ r') H' M' F e s2 H2 e' σ2 → DoneK (bs0 ++ r) Hp M F e s2 H2 e' σ2) → WS c ops K Ls L0 m ms false p σ') : WS c ops K Ls L0 m ms fresh (.must i p) σ := by
  obtain ⟨o, hi, h⟩ := stepK_some h
  have hd := hdst o (List.mem_of_getElem? hi)
  have hi' : ops[i]? = some o := by simpa using hi
  rcases h with ⟨hg, ⟨s1, H1, h1, h2⟩ | ⟨v, H1, h1, h2⟩⟩ | ⟨hg, h2⟩
  · have hO : OW c o (fun σ' => (i < m → ∀ q ∈ Ls, q ∈ σ'.L) ∧ WS c ops K Ls L0 m ms false p σ') K σ := (opX_ok hcall hd hcov h1).mono fun σ1 hp1 => by
      obtain ⟨r1, M1, hcov1, hl1, hprot, _⟩ := hp1.split
      have hp1' := hprot W Ls (hlog s1 H1 h2) hp
      have hcov1' := hcov1
      rw [List.append_assoc] at hcov1 hp1'
      exact ⟨fun _ q hq => by rw [hcov1.L]; exact List.mem_append_left _ (hp1' q hq).1, hcont h2 hcov1 hp1' fun hp2 => DoneK.comp hl1 hprot (by rw [List.append_assoc]; exact hp2)⟩
    exact ⟨o, hi', .inl ⟨guard_must hcov.slots hg, hO⟩⟩
  · exact ⟨o, hi', .inl ⟨guard_must hcov.slots hg, opP_ok hcall hcov h1 (hpan v H1 h2)⟩⟩
  · have hrest := hcont h2 (hcov.undef o.dst) hp (fun hp2 => hp2)
    refine ⟨o, hi', .inr ⟨?_, hd, fun _ q hq => by rw [hcov.L]; exact List.mem_append_left _ (hp q hq).1, hrest⟩⟩
    rcases guardX_ok hcov.slots hg with ⟨hb, _⟩ | ⟨j, want, og, dg, hg1, hj, hdg, ⟨hb, _⟩ | ⟨_, u, hu, he⟩⟩
    · cases hb
    · cases hb
    · exact ⟨j, want, og, dg, u, hg1, hj, hdg, hu, he⟩
set_option maxHeartbeats 4000000 in
theorem drawX_ok (hcall : CallOk c.P call) {ops : Array Oper} {h0 : T O} {Ls L0 : List (Nat × Obj)} {ms : List Nat} {W R : List Nat} {bs0 : Bs} {m : Nat} (hdst : ∀ o ∈ ops.toList, dok c.N o.dst = true) (hdisj : ∀ k ∈ R, k ∉ W) (h0ok : ∀ k o, h0.get k = some o → k ∉ W → At bs0 Ls k o) (h0all : ∀ k o, h0.get k = some o → At bs0 L0 k o) :
    ∀ (p : Plan) {fresh : Bool} {r : Bs} {s : S} {Hp : H} {rd : List Nat} {M F : List (Nat × Obj)} {e : EX} {s2 : S} {H2 : H} {W2 rd2 : List Nat} {σ : St}, drawX c.P call ops.toList h0 m ms fresh p s Hp rd = some (e, s2, H2, W2, rd2) → (∀ k ∈ W2, k ∈ W) → (∀ k ∈ rd2, k ∈ R) → Cov (bs0 ++ r) s Hp M F σ → Prot (bs0 ++ r) Hp M W Ls → (∀ e' σ', DoneK (bs0 ++ r) Hp M F e s2 H2 e' σ' → K e' σ') → WS c ops K Ls L0 m ms fresh p σ := by
  intro p
  induction p with
  | done =>
    intro fresh r s Hp rd M F e s2 H2 W2 rd2 σ h _ _ hcov _ hk
    cases h
    exact hk .normal σ ⟨rfl, Post.self hcov.D hcov.L hcov.slots hcov.mem⟩
  | calm i p ih =>
    intro fresh r s Hp rd M F e s2 H2 W2 rd2 σ h hW hR hcov hp hk
    simp only [drawX] at h
    split at h
    · rename_i o hi
      have hd := hdst o (List.mem_of_getElem? hi)
      have hi' : ops[i]? = some o := by simpa using hi
      split at h
      · rename_i hg
        have step : ∀ {v : V} {v' : Value} {rd3 : List Nat} (X : List (Nat × Obj)), (X = Ls ∨ X = L0 ∧ aheadOk ops ms m i = true ∧ fresh = true) → Qt c σ.s X o v' → RV (bs0 ++ r) v v' → drawX c.P call ops.toList h0 m ms fresh p (putD s o.dst v) Hp rd3 = some (e, s2, H2, W2, rd2) → WS c ops K Ls L0 m ms fresh (.calm i p) σ := by
          intro v v' rd3 X hX hq hv h
          have hcov2 : Cov (bs0 ++ r) (putD s o.dst v) Hp M F (σ.put o.dst v') := ⟨CovS.putD hcov.slots hv, by rw [put_D]; exact hcov.D, hcov.mem, by rw [put_L]; exact hcov.L⟩
          have hrest := ih h hW hR hcov2 hp hk
          refine ⟨o, v', X, hi', hd, hX, ?_, hrest⟩
          rcases guardX_ok hcov.slots hg with ⟨_, hgn⟩ | ⟨j, want, og, dg, hg1, hj, hdg, ⟨_, hb⟩ | ⟨hb, _⟩⟩
          · exact .inl ⟨hq, hgn⟩
          · exact .inr ⟨j, want, og, dg, _, hg1, hj, hdg, hb, .inl ⟨rfl, hq⟩⟩
          · cases hb
        split at h
        · rename_i v k hc
          split at h
          · rename_i hah
            obtain ⟨v', h1, h2⟩ := calmX_ok (Ls := L0) hc hcov.slots (fun k' ob e hk' => by
              cases e
              exact (h0all k ob hk').mono r)
            exact step L0 (.inr ⟨rfl, aheadX_ok hah, rfl⟩) h1 h2 h
          · obtain ⟨_, _, hrd⟩ := drawX_log hcall h
            obtain ⟨v', h1, h2⟩ := calmX_ok (Ls := Ls) hc hcov.slots (fun k' ob e hk' => by
              cases e
              exact (h0ok k ob hk' (hdisj k (hR k (hrd k List.mem_cons_self)))).mono r)
            exact step Ls (.inl rfl) h1 h2 h
        · rename_i v hc
          obtain ⟨v', h1, h2⟩ := calmX_ok (Ls := Ls) hc hcov.slots (fun k' ob e _ => by cases e)
          exact step Ls (.inl rfl) h1 h2 h
        · cases h
      · rename_i hg
        split at h
        · rename_i hnd
          have hrest := ih h hW hR (hcov.undef o.dst) hp hk
          refine ⟨o, undef, Ls, hi', hd, .inl rfl, ?_, hrest⟩
          have hnd' : ∀ cc, o.op ≠ .defer cc := fun cc h => by rw [h] at hnd; cases hnd
          rcases guardX_ok hcov.slots hg with ⟨hb, _⟩ | ⟨j, want, og, dg, hg1, hj, hdg, ⟨hb, _⟩ | ⟨_, u, hu, he⟩⟩
          · cases hb
          · cases hb
          · exact .inr ⟨j, want, og, dg, u, hg1, hj, hdg, hu, .inr ⟨he, rfl, hnd'⟩⟩
        · cases h
      · cases h
    · cases h
  | must i p ih =>
    intro fresh r s Hp rd M F e s2 H2 W2 rd2 σ h hW hR hcov hp hk
    simp only [drawX] at h
    split at h
    · exact mustW hcall hdst h (fun s1 H1 h1 x hx => hW x ((drawX_log hcall h1).1 x hx)) hcov hp (fun v H1 h1 => by cases h1; exact hk) fun h1 hc1 hp1 hcomp => ih h1 hW hR hc1 hp1 fun e' σ' hp2 => hk e' σ' (hcomp hp2)
    · split at h
      · rename_i hl
        cases h
        exact lateX_ok hcall hdst _ hl hcov hk
      · cases h
  | par l p ih =>
    intro fresh r s Hp rd M F e s2 H2 W2 rd2 σ h hW hR hcov hp hk
    simp only [drawX] at h
    split at h
    · rename_i s3 H3 hg
      refine groupX_ok hcall hdst (fun q hq => (hp q hq).1) hcov hg fun σ' hpost => ?_
      obtain ⟨r1, M1, hcov1, hl1, hprot, _⟩ := hpost.split
      have hp1' := hprot W Ls (fun k hk => hW k ((drawX_log hcall h).1 k hk)) hp
      have hcov1' := hcov1
      rw [List.append_assoc] at hcov1 hp1'
      exact ih h hW hR hcov1 hp1' fun e' σ2 hp2 => hk e' σ2 (DoneK.comp hl1 hprot (by rw [List.append_assoc]; exact hp2))
    · cases h
  | either i p j q ihp ihq =>
    intro fresh r s Hp rd M F e s2 H2 W2 rd2 σ h hW hR hcov hp hk
    simp only [drawX] at h
    split at h
    · rename_i n3 s3 H3 W3 r3 n4 s4 H4 W4 r4 e1 e2
      split at h
      · rename_i c1 c2
        cases h
        have e1 := stepK_pair e1
        have e2 := stepK_pair e2
        refine ⟨?_, ?_⟩
        · exact mustW (fresh := fresh) hcall hdst e1 (fun s1 H1 h1 x hx => hW x (List.mem_append_left _ ((drawX_log hcall h1).1 x hx))) hcov hp (fun v H1 h1 => by cases h1) fun h1 hc1 hp1 hcomp => ihp h1 (fun x hx => hW x (List.mem_append_left _ hx)) (fun x hx => hR x (List.mem_append_left _ hx)) hc1 hp1 fun e' σ' hp2 => by
            have h3 := hcomp hp2
            exact hk e' σ' ⟨h3.1, Post.both1 h3.2⟩
        · exact mustW (fresh := fresh) hcall hdst e2 (fun s1 H1 h1 x hx => hW x (List.mem_append_right _ ((drawX_log hcall h1).1 x hx))) hcov hp (fun v H1 h1 => by cases h1) fun h1 hc1 hp1 hcomp => ihq h1 (fun x hx => hW x (List.mem_append_right _ hx)) (fun x hx => hR x (List.mem_append_right _ hx)) hc1 hp1 fun e' σ' hp2 => by
            have h3 := hcomp hp2
            exact hk e' σ' ⟨h3.1, Post.both2 hcov.mem (stepK_ext hcall e1) c2 (fun t v => S.leq_ok c1) h3.2⟩
      · cases h
    · cases h
end
end
end Go.Proofs.Ytgimodceldoniaa
