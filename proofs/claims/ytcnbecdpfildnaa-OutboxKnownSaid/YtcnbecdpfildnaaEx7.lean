/-
  Running a program's function by computing: calls, regions, whole functions. It proves no statement by itself. It holds for every program.
-/
import Derived.Test.YtcnbecdpfildnaaEm
namespace Go.Proofs.Ytcnbecdpfildnaa
open Go.RowKit
attribute [local irreducible] T.put T.set

/-- What a call brings: its result, and memory. -/
abbrev CallF := FuncId → List V → H → Option (V × H)
def FPost (bs : Bs) (Hp : H) (M F : List (Nat × Obj)) (v : V) (H2 : H) (v' : Value) (L' : List (Nat × Obj)) : Prop :=
  ∃ (r : Bs) (M' : List (Nat × Obj)), L' = M' ++ F ∧ RV (bs ++ r) v v' ∧ HCov (bs ++ r) H2 M' ∧ (∀ k ∈ Hp.log, k ∈ H2.log) ∧ ∀ W B, (∀ k ∈ H2.log, k ∈ W) → Prot bs Hp M W B → Prot (bs ++ r) H2 M' W B
structure CallOk (P : Program) (call : CallF) : Prop where
  log : ∀ f vs Hp v H2, call f vs Hp = some (v, H2) → ∀ k ∈ Hp.log, k ∈ H2.log
  fc : ∀ f vs Hp v H2, call f vs Hp = some (v, H2) → FCall P f
  fn : ∀ f vs Hp v H2, call f vs Hp = some (v, H2) → ∀ bs M F vs', HCov bs Hp M → RVs bs vs vs' → Fn P f vs' (M ++ F) (FPost bs Hp M F v H2)

def putD (s : T V) : Option Nat → V → T V
  | some d, v => s.set d v
  | none, _ => s
theorem CovS.putD {bs : Bs} {s : T V} {σ : St} (h : CovS bs s σ.s) {d : Option Nat} {v : V} {v' : Value} (hv : RV bs v v') : CovS bs (putD s d v) (σ.put d v').s := by
  cases d with
  | none => exact h
  | some d => exact h.put hv

def callV (call : CallF) (s : T V) (Hp : H) (d : Option Nat) : Option V → Option (List V) → SX
  | some (.fn (.func f) A B), some vs => match call f (A ++ (vs ++ B)) Hp with
    | some (v, H2) => some (putD s d v, H2)
    | none => none
  | _, _ => none
def callX (P : Program) (call : CallF) (s : T V) (Hp : H) (cl : Call) (d : Option Nat) : SX := match cl.callee with
  | .value x => callV call s Hp d (evX s x) (evsX s cl.args.toList)
  | .builtin .append => match d with
    | some d => match cl.args.toList, cl.argTypes.toList with
      | [x, y], [t, t2] => match Nat.beq t t2 with
        | true => appendX P s Hp t x y d
        | false => none
      | _, _ => none
    | none => none
  | _ => none
def effX (P : Program) (call : CallF) (s : T V) (Hp : H) (op : Op) (d : Option Nat) : SX := match op with
  | .call cl => callX P call s Hp cl d
  | .alloc t => match d with
    | some d => allocX P s Hp t d
    | none => none
  | .box t x => match d with
    | some d => boxX s Hp t x d
    | none => none
  | .store t x y => match d with
    | some _ => none
    | none => storeX P s Hp t x y
  | .makeSlice t x y => match d with
    | some d => makeSliceX P s Hp t x y d
    | none => none
  | .buildSlice t n parts => match d with
    | some d => buildSliceX P s Hp t n parts.toList d
    | none => none
  | .makeMap t r => match d with
    | some d => makeMapX P s Hp t r d
    | none => none
  | .mapUpdate t m k x => match d with
    | some _ => none
    | none => mapUpdateX P s Hp t m k x
  | .insert t m k x => match d with
    | some _ => none
    | none => mapUpdateX P s Hp t m k x
  | _ => none
def opX (P : Program) (call : CallF) (s : T V) (Hp : H) (o : Oper) : SX := match calmX P s Hp.h o.op with
  | some (v, _) => some (putD s o.dst v, Hp)
  | none => effX P call s Hp o.op o.dst

section
variable {c : Cx} {o : Oper} {K : Exit → St → Prop} {σ : St} {bs : Bs} {s : T V} {Hp : H} {M F : List (Nat × Obj)} {s2 : T V} {H2 : H} {call : CallF}

theorem OW_callW {Kn : St → Prop} {f : FuncId} {x : Operand} {A B : Array Value} {args : Array Operand} {tys : Array TypeId} [hf : FCall c.P f] {vs : List Value} {R : Value → List (Nat × Obj) → Prop}
    (ho : o.op = .call { callee := .value x, args := args, argTypes := tys }) (hx : ev σ.s x = some (.func (.func f) A B)) (ha : evs σ.s args.toList = some vs) (hd : dok c.N o.dst = true) (hF : Fn c.P f (A.toList ++ vs ++ B.toList) σ.L R) (hk : ∀ v L', R v L' → Kn (St.put ⟨σ.s, σ.D, L'⟩ o.dst v)) : OW c o Kn K σ := fun a w hH => by
  refine ⟨fun _ _ => trivial, ?_⟩
  have hargs : args.map a.eval = vs.toArray := by
    apply Array.ext'
    simpa using hH.evs ha
  have hr : (execOp a.eval o).run c.P w = .ok (.enter f (A.toList ++ vs ++ B.toList).toArray) w := by
    have e : (A.toList ++ vs ++ B.toList).toArray = A ++ vs.toArray ++ B := by apply Array.ext'; simp
    rw [e]
    simp [execOp, ho, resolve, Deferred.ofValue, hH.ev hx, hargs, invoke, hf.h]
  rw [Oper.semAt_eq _ _ _ (by rw [ho]; intro cc h; cases h), hr]
  refine ⟨fun h => by simp at h, (callsIn_fw c.r _ (hF c.g w hH.mem)).mono fun e w' ⟨v, L', h1, h2, h3⟩ => ?_⟩
  subst h1
  exact ⟨_, (hH.mem' h2).put hd v, hk v L' h3⟩

theorem callV_ok (hcall : CallOk c.P call) {x : Operand} {args : Array Operand} {tys : Array TypeId} (ho : o.op = .call { callee := .value x, args := args, argTypes := tys }) (hd : dok c.N o.dst = true) (hcov : Cov bs s Hp M F σ) (hc : callV call s Hp o.dst (evX s x) (evsX s args.toList) = some (s2, H2)) : OW c o (Post bs Hp M F σ.D s2 H2) K σ := by
  generalize hx : evX s x = e1 at hc
  generalize hy : evsX s args.toList = e2 at hc
  unfold callV at hc
  split at hc
  · rename_i f A B vs
    split at hc
    · rename_i v H3 hcl
      cases hc
      obtain ⟨x', h1, h2⟩ := evX_ok hcov.slots hx
      obtain ⟨vs', h3, h4⟩ := evsX_ok hcov.slots hy
      cases h2
      rename_i A' B' hA hB
      haveI := hcall.fc _ _ _ _ _ hcl
      have hF := hcall.fn _ _ _ _ _ hcl bs M F (A' ++ (vs' ++ B')) hcov.mem (hA.append (h4.append hB))
      refine OW_callW ho h1 h3 hd (R := FPost bs Hp M F v H2) ?_ ?_
      · rw [hcov.L]
        simpa using hF
      · rintro v' L' ⟨r, M', rfl, g2, g3, g4, g5⟩
        exact ⟨r, M', by cases o.dst <;> rfl, by cases o.dst <;> rfl, CovS.putD (σ := ⟨σ.s, σ.D, M' ++ F⟩) (hcov.slots.mono r) g2, g3, g4, g5⟩
    · cases hc
  · cases hc

theorem effX_ok (hcall : CallOk c.P call) (hd : dok c.N o.dst = true) (hcov : Cov bs s Hp M F σ) (hc : effX c.P call s Hp o.op o.dst = some (s2, H2)) : OW c o (Post bs Hp M F σ.D s2 H2) K σ := by
  generalize ho : o.op = op at hc
  generalize hdst : o.dst = dst at hc
  have hd' : ∀ d, dst = some d → Nat.blt d c.N = true := fun d e => by rw [hdst, e] at hd; exact hd
  unfold effX at hc
  split at hc
  · rename_i cl
    obtain ⟨cal, args, tys⟩ := cl
    unfold callX at hc
    split at hc
    · rename_i x hx
      simp only at hx
      subst hx
      rw [← hdst] at hc
      exact callV_ok hcall ho hd hcov hc
    · rename_i hx
      simp only at hx
      subst hx
      split at hc
      · rename_i d
        split at hc
        · rename_i x y t t2 h1 h2
          split at hc
          · rename_i ht
            have ht := Nat.eq_of_beq_eq_true ht
            subst ht
            simp only at h1 h2
            obtain rfl : args = #[x, y] := by apply Array.ext'; simpa using h1
            obtain rfl : tys = #[t, t] := by apply Array.ext'; simpa using h2
            exact appendX_ok ho hdst (hd' d rfl) hcov hc
          · cases hc
        · cases hc
      · cases hc
    · cases hc
  · split at hc
    · rename_i d; exact allocX_ok ho hdst (hd' d rfl) hcov hc
    · cases hc
  · split at hc
    · rename_i d; exact boxX_ok ho hdst (hd' d rfl) hcov hc
    · cases hc
  · split at hc
    · cases hc
    · exact storeX_ok ho hdst hcov hc
  · split at hc
    · rename_i d; exact makeSliceX_ok ho hdst (hd' d rfl) hcov hc
    · cases hc
  · split at hc
    · rename_i d; exact buildSliceX_ok ho hdst (hd' d rfl) hcov hc
    · cases hc
  · split at hc
    · rename_i d; exact makeMapX_ok ho hdst (hd' d rfl) hcov hc
    · cases hc
  · split at hc
    · cases hc
    · exact mapUpdateX_ok (.inl ho) hdst hcov hc
  · split at hc
    · cases hc
    · exact mapUpdateX_ok (.inr ho) hdst hcov hc
  · cases hc

theorem opX_ok (hcall : CallOk c.P call) (hd : dok c.N o.dst = true) (hcov : Cov bs s Hp M F σ) (hc : opX c.P call s Hp o = some (s2, H2)) : OW c o (Post bs Hp M F σ.D s2 H2) K σ := by
  unfold opX at hc
  split at hc
  · rename_i v rd hv
    cases hc
    obtain ⟨v', h1, h2⟩ := calmX_ok (Ls := σ.L) (o := o) hv hcov.slots (fun k ob _ hk => by
      obtain ⟨b, base, av, i, o', a1, a2, a3⟩ := hcov.mem.at_ k ob hk
      exact ⟨b, base, av, i, o', a1, by rw [hcov.L, List.getElem?_append_left (List.getElem?_eq_some_iff.1 a2).1]; exact a2, a3⟩)
    exact OW_qt h1 hd (Post.self (by cases o.dst <;> rfl) (by rw [← hcov.L]; cases o.dst <;> rfl) (CovS.putD hcov.slots h2) hcov.mem)
  · exact effX_ok hcall hd hcov hc

/-- What was written stays written. -/
theorem opX_log {P : Program} (hcall : CallOk P call) (hc : opX P call s Hp o = some (s2, H2)) : ∀ k ∈ Hp.log, k ∈ H2.log := by
  unfold opX at hc
  split at hc
  · cases hc; exact fun _ h => h
  · unfold effX at hc
    split at hc
    · unfold callX at hc
      split at hc
      · unfold callV at hc
        split at hc
        · split at hc
          · rename_i hcl; cases hc; exact hcall.log _ _ _ _ _ hcl
          · cases hc
        · cases hc
      · split at hc
        · split at hc
          · split at hc
            · unfold appendX at hc
              repeat' split at hc
              all_goals first
                | (cases hc; done)
                | (cases hc; exact fun _ h => h)
                | (cases hc; exact fun _ h => List.mem_cons_of_mem _ h)
            · cases hc
          · cases hc
        · cases hc
      · cases hc
    · split at hc
      · unfold allocX at hc
        split at hc
        · cases hc; exact fun _ h => h
        · cases hc
      · cases hc
    · split at hc
      · unfold boxX at hc
        split at hc
        · cases hc
        · cases hc; exact fun _ h => h
        · cases hc
      · cases hc
    · split at hc
      · cases hc
      · unfold storeX at hc
        repeat' split at hc
        all_goals first
          | (cases hc; done)
          | (cases hc; exact fun _ h => List.mem_cons_of_mem _ h)
    · split at hc
      · unfold makeSliceX at hc
        repeat' split at hc
        all_goals first
          | (cases hc; done)
          | (cases hc; exact fun _ h => h)
      · cases hc
    · split at hc
      · unfold buildSliceX at hc
        repeat' split at hc
        all_goals first
          | (cases hc; done)
          | (cases hc; exact fun _ h => h)
      · cases hc
    · split at hc
      · unfold makeMapX at hc
        repeat' split at hc
        all_goals first
          | (cases hc; done)
          | (cases hc; exact fun _ h => h)
      · cases hc
    · split at hc
      · cases hc
      · unfold mapUpdateX at hc
        repeat' split at hc
        all_goals first
          | (cases hc; done)
          | (cases hc; exact fun _ h => List.mem_cons_of_mem _ h)
    · split at hc
      · cases hc
      · unfold mapUpdateX at hc
        repeat' split at hc
        all_goals first
          | (cases hc; done)
          | (cases hc; exact fun _ h => List.mem_cons_of_mem _ h)
    · cases hc
end

/-! ### guards, and a region's operations one behind the other -/
def guardX (ops : List Oper) (s : T V) (o : Oper) : Option Bool := match o.guard with
  | none => some true
  | some (j, want) => match ops[j]? with
    | some og => match og.dst with
      | some dg => match s.get dg with
        | some (.bool b) => match b, want with
          | true, true => some true
          | false, false => some true
          | _, _ => some false
        | some (.tup []) => some false
        | _ => none
      | none => none
    | none => none
def opsX (P : Program) (call : CallF) (ops : List Oper) : List Oper → T V → H → SX
  | [], s, Hp => some (s, Hp)
  | o :: r, s, Hp => match guardX ops s o with
    | some true => match opX P call s Hp o with
      | some (s2, H2) => opsX P call ops r s2 H2
      | none => none
    | some false => opsX P call ops r (putD s o.dst (.tup [])) Hp
    | none => none
def dstOk (N : Nat) : List Oper → Bool
  | [] => true
  | o :: r => match dok N o.dst with
    | true => dstOk N r
    | false => false

theorem dstOk_mem {N : Nat} : ∀ {l : List Oper}, dstOk N l = true → ∀ o ∈ l, dok N o.dst = true
  | [], _, _, h => by cases h
  | o :: r, h, p, hp => by
    simp only [dstOk] at h
    split at h
    · rename_i h1
      rcases List.mem_cons.1 hp with rfl | hp
      · exact h1
      · exact dstOk_mem h p hp
    · cases h

/-- What a guard says. -/
theorem guardX_ok {bs : Bs} {s : T V} {σs : List (Nat × Value)} {ops : Array Oper} {o : Oper} {b : Bool} (hs : CovS bs s σs) (h : guardX ops.toList s o = some b) :
    (b = true ∧ o.guard = none) ∨ ∃ j want og dg, o.guard = some (j, want) ∧ ops[j]? = some og ∧ og.dst = some dg ∧ ((b = true ∧ look σs dg = some (.bool want)) ∨ (b = false ∧ ∃ u, look σs dg = some u ∧ (u = .bool (!want) ∨ u = undef))) := by
  unfold guardX at h
  split at h
  · rename_i hg; cases h; exact .inl ⟨rfl, hg⟩
  · rename_i j want hg
    right
    split at h
    · rename_i og hj
      split at h
      · rename_i dg hd
        refine ⟨j, want, og, dg, hg, by simpa using hj, hd, ?_⟩
        split at h
        · rename_i b' hb
          obtain ⟨v', h1, h2⟩ := hs _ _ hb
          cases h2
          split at h
          · cases h; exact .inl ⟨rfl, h1⟩
          · cases h; exact .inl ⟨rfl, h1⟩
          · rename_i n1 n2
            cases h
            refine .inr ⟨rfl, _, h1, .inl ?_⟩
            cases b' <;> cases want <;> simp_all
        · rename_i hb
          cases h
          obtain ⟨v', h1, h2⟩ := hs _ _ hb
          cases h2
          rename_i l' hl
          cases hl
          exact .inr ⟨rfl, _, h1, .inr rfl⟩
        · cases h
      · cases h
    · cases h

theorem Post.split {bs : Bs} {Hp H1 : H} {M F : List (Nat × Obj)} {D : List Deferred} {s1 : T V} {σ1 : St} (h : Post bs Hp M F D s1 H1 σ1) : ∃ r M1, Cov (bs ++ r) s1 H1 M1 F σ1 ∧ σ1.D = D ∧ (∀ k ∈ Hp.log, k ∈ H1.log) ∧ (∀ W B, (∀ k ∈ H1.log, k ∈ W) → Prot bs Hp M W B → Prot (bs ++ r) H1 M1 W B) ∧ ∀ {s2 H2 σ2}, Post (bs ++ r) H1 M1 F σ1.D s2 H2 σ2 → Post bs Hp M F D s2 H2 σ2 := by
  obtain ⟨r, M1, e1, e2, e3, e4, e5, e6⟩ := h
  refine ⟨r, M1, ⟨e3, e4, e2⟩, e1, e5, e6, ?_⟩
  rintro s2 H2 σ2 ⟨r2, M2, f1, f2, f3, f4, f5, f6⟩
  exact ⟨r ++ r2, M2, f1.trans e1, f2, by rw [← List.append_assoc]; exact f3, by rw [← List.append_assoc]; exact f4, fun k hk => f5 k (e5 k hk), fun W B hW hB => by
    rw [← List.append_assoc]; exact f6 W B hW (e6 W B (fun k hk => hW k (f5 k hk)) hB)⟩

theorem Cov.undef {bs : Bs} {s : T V} {Hp : H} {M F : List (Nat × Obj)} {σ : St} (h : Cov bs s Hp M F σ) (d : Option Nat) : Cov bs (putD s d (.tup [])) Hp M F (σ.put d Go.undef) :=
  ⟨CovS.putD h.slots (.tup .nil), h.mem, by cases d <;> exact h.L⟩
theorem put_D (σ : St) (d : Option Nat) (v : Value) : (σ.put d v).D = σ.D := by cases d <;> rfl
theorem put_L (σ : St) (d : Option Nat) (v : Value) : (σ.put d v).L = σ.L := by cases d <;> rfl

section
variable {c : Cx} {K : Exit → St → Prop} {call : CallF}

theorem opsX_ok (hcall : CallOk c.P call) {ops : Array Oper} : ∀ (l : List Oper) {bs : Bs} {s : T V} {Hp : H} {M F : List (Nat × Obj)} {s2 : T V} {H2 : H} {σ : St}, (∀ o ∈ l, dok c.N o.dst = true) → Cov bs s Hp M F σ → opsX c.P call ops.toList l s Hp = some (s2, H2) → (∀ σ', Post bs Hp M F σ.D s2 H2 σ' → K .normal σ') → WL c ops l K σ
  | [], bs, s, Hp, M, F, s2, H2, σ, _, hcov, hc, hk => by
    cases hc
    exact WL_nil (hk σ (Post.self rfl hcov.L hcov.slots hcov.mem))
  | o :: r, bs, s, Hp, M, F, s2, H2, σ, hd, hcov, hc, hk => by
    have hd1 := hd o List.mem_cons_self
    have hd2 := fun p hp => hd p (List.mem_cons_of_mem _ hp)
    simp only [opsX] at hc
    split at hc
    · rename_i hg
      split at hc
      · rename_i s1 H1 h1
        have hW : OW c o (WL c ops r K) K σ := (opX_ok hcall hd1 hcov h1).mono fun σ1 hp1 => by
          obtain ⟨r1, M1, hcov1, _, _, _, hcomp⟩ := hp1.split
          exact opsX_ok hcall r hd2 hcov1 hc fun σ' hp2 => hk σ' (hcomp hp2)
        rcases guardX_ok hcov.slots hg with ⟨_, hgn⟩ | ⟨j, want, og, dg, hg1, hj, hdg, ⟨_, hb⟩ | ⟨hb, _⟩⟩
        · exact WL_op hgn hW
        · exact WL_guard hg1 hj hdg hb (fun _ => hW) hd1 (fun e => by cases want <;> cases e)
        · cases hb
      · cases hc
    · rename_i hg
      have hrest : WL c ops r K (σ.put o.dst undef) := opsX_ok hcall r hd2 (hcov.undef o.dst) hc fun σ' hp2 => hk σ' (by rw [put_D] at hp2; exact hp2)
      rcases guardX_ok hcov.slots hg with ⟨hb, _⟩ | ⟨j, want, og, dg, hg1, hj, hdg, ⟨hb, _⟩ | ⟨_, u, hu, rfl | rfl⟩⟩
      · cases hb
      · cases hb
      · exact WL_guard hg1 hj hdg hu (fun e => by cases want <;> cases e) hd1 (fun _ => hrest)
      · exact WL_guard_undef hg1 hj hdg hu hd1 hrest
    · cases hc
end

attribute [local irreducible] opX calmX effX callX appendX

/-! ### a region that draws -/
/-- The late ones, one behind the other. -/
def lateX (P : Program) (call : CallF) (ops : List Oper) (m : Nat) : Plan → T V → H → SX
  | .done, s, Hp => some (s, Hp)
  | .must i p, s, Hp => match Nat.blt i m with
    | true => none
    | false => match ops[i]? with
      | some o => match guardX ops s o with
        | some true => match opX P call s Hp o with
          | some (s2, H2) => lateX P call ops m p s2 H2
          | none => none
        | some false => lateX P call ops m p (putD s o.dst (.tup [])) Hp
        | none => none
      | none => none
  | _, _, _ => none
/-- It gives, too, what was written ahead of the late ones, and what was read. -/
def drawX (P : Program) (call : CallF) (ops : List Oper) (h0 : T O) (m : Nat) : Plan → T V → H → List Nat → Option (T V × H × List Nat × List Nat)
  | .done, s, Hp, rd => some (s, Hp, Hp.log, rd)
  | .calm i p, s, Hp, rd => match ops[i]? with
    | some o => match guardX ops s o with
      | some true => match calmX P s h0 o.op with
        | some (v, some k) => drawX P call ops h0 m p (putD s o.dst v) Hp (k :: rd)
        | some (v, none) => drawX P call ops h0 m p (putD s o.dst v) Hp rd
        | none => none
      | some false => match notDefer o.op with
        | true => drawX P call ops h0 m p (putD s o.dst (.tup [])) Hp rd
        | false => none
      | none => none
    | none => none
  | .must i p, s, Hp, rd => match Nat.blt i m with
    | true => match ops[i]? with
      | some o => match guardX ops s o with
        | some true => match opX P call s Hp o with
          | some (s2, H2) => drawX P call ops h0 m p s2 H2 rd
          | none => none
        | some false => drawX P call ops h0 m p (putD s o.dst (.tup [])) Hp rd
        | none => none
      | none => none
    | false => match lateX P call ops m (.must i p) s Hp with
      | some (s2, H2) => some (s2, H2, Hp.log, rd)
      | none => none
  | .either _ _ _ _, _, _, _ => none

theorem lateX_log {P : Program} {call : CallF} (hcall : CallOk P call) {ops : List Oper} {m : Nat} : ∀ {p : Plan} {s : T V} {Hp : H} {s2 : T V} {H2 : H}, lateX P call ops m p s Hp = some (s2, H2) → ∀ k ∈ Hp.log, k ∈ H2.log := by
  intro p
  induction p with
  | done => intro s Hp s2 H2 h; cases h; exact fun _ h => h
  | calm => intro s Hp s2 H2 h; cases h
  | either => intro s Hp s2 H2 h; cases h
  | must i p ih =>
    intro s Hp s2 H2 h
    simp only [lateX] at h
    split at h
    · cases h
    · split at h
      · split at h
        · split at h
          · rename_i ho
            exact fun k hk => ih h k (opX_log hcall ho k hk)
          · cases h
        · exact ih h
        · cases h
      · cases h

theorem drawX_log {P : Program} {call : CallF} (hcall : CallOk P call) {ops : List Oper} {h0 : T O} {m : Nat} : ∀ {p : Plan} {s : T V} {Hp : H} {rd : List Nat} {s2 : T V} {H2 : H} {W rd2 : List Nat}, drawX P call ops h0 m p s Hp rd = some (s2, H2, W, rd2) → (∀ k ∈ Hp.log, k ∈ W) ∧ (∀ k ∈ W, k ∈ H2.log) ∧ (∀ k ∈ rd, k ∈ rd2) := by
  intro p
  induction p with
  | done => intro s Hp rd s2 H2 W rd2 h; cases h; exact ⟨fun _ h => h, fun _ h => h, fun _ h => h⟩
  | calm i p ih =>
    intro s Hp rd s2 H2 W rd2 h
    simp only [drawX] at h
    split at h
    · split at h
      · split at h
        · obtain ⟨h1, h2, h3⟩ := ih h; exact ⟨h1, h2, fun k hk => h3 k (List.mem_cons_of_mem _ hk)⟩
        · exact ih h
        · cases h
      · split at h
        · exact ih h
        · cases h
      · cases h
    · cases h
  | must i p ih =>
    intro s Hp rd s2 H2 W rd2 h
    simp only [drawX] at h
    split at h
    · split at h
      · split at h
        · split at h
          · rename_i ho
            obtain ⟨h1, h2, h3⟩ := ih h
            exact ⟨fun k hk => h1 k (opX_log hcall ho k hk), h2, h3⟩
          · cases h
        · exact ih h
        · cases h
      · cases h
    · split at h
      · rename_i hl
        cases h
        exact ⟨fun _ h => h, lateX_log hcall hl, fun _ h => h⟩
      · cases h
  | either => intro s Hp rd s2 H2 W rd2 h; cases h

section
variable {c : Cx} {K : Exit → St → Prop} {call : CallF}
theorem lateX_ok (hcall : CallOk c.P call) {ops : Array Oper} {Ls : List (Nat × Obj)} {m : Nat} (hdst : ∀ o ∈ ops.toList, dok c.N o.dst = true) :
    ∀ (p : Plan) {bs : Bs} {s : T V} {Hp : H} {M F : List (Nat × Obj)} {s2 : T V} {H2 : H} {σ : St}, lateX c.P call ops.toList m p s Hp = some (s2, H2) → Cov bs s Hp M F σ → (∀ σ', Post bs Hp M F σ.D s2 H2 σ' → K .normal σ') → WR c ops K Ls m p σ := by
  intro p
  induction p with
  | done =>
    intro bs s Hp M F s2 H2 σ h hcov hk
    cases h
    exact hk σ (Post.self rfl hcov.L hcov.slots hcov.mem)
  | calm => intro bs s Hp M F s2 H2 σ h; cases h
  | either => intro bs s Hp M F s2 H2 σ h; cases h
  | must i p ih =>
    intro bs s Hp M F s2 H2 σ h hcov hk
    simp only [lateX] at h
    split at h
    · cases h
    · rename_i him
      have him : ¬ i < m := fun hlt => by rw [show Nat.blt i m = true by rw [Nat.blt_eq]; exact hlt] at him; cases him
      split at h
      · rename_i o hi
        have hd := hdst o (List.mem_of_getElem? hi)
        have hi' : ops[i]? = some o := by simpa using hi
        split at h
        · rename_i hg
          split at h
          · rename_i s1 H1 h1
            have hO : OW c o (fun σ' => (i < m → ∀ q ∈ Ls, q ∈ σ'.L) ∧ WR c ops K Ls m p σ') K σ := (opX_ok hcall hd hcov h1).mono fun σ1 hp1 => by
              obtain ⟨r1, M1, hcov1, _, _, _, hcomp⟩ := hp1.split
              exact ⟨fun hlt => absurd hlt him, ih h hcov1 fun σ' hp2 => hk σ' (hcomp hp2)⟩
            refine ⟨o, hi', .inl ⟨?_, hO⟩⟩
            rcases guardX_ok hcov.slots hg with ⟨_, hgn⟩ | ⟨j, want, og, dg, hg1, hj, hdg, ⟨_, hb⟩ | ⟨hb, _⟩⟩
            · exact .inl hgn
            · exact .inr ⟨j, want, og, dg, hg1, hj, hdg, hb⟩
            · cases hb
          · cases h
        · rename_i hg
          have hrest := ih h (hcov.undef o.dst) (fun σ' hp2 => hk σ' (by rw [put_D] at hp2; exact hp2))
          refine ⟨o, hi', .inr ⟨?_, hd, fun hlt => absurd hlt him, hrest⟩⟩
          rcases guardX_ok hcov.slots hg with ⟨hb, _⟩ | ⟨j, want, og, dg, hg1, hj, hdg, ⟨hb, _⟩ | ⟨_, u, hu, he⟩⟩
          · cases hb
          · cases hb
          · exact ⟨j, want, og, dg, u, hg1, hj, hdg, hu, he⟩
        · cases h
      · cases h
end

section
variable {c : Cx} {K : Exit → St → Prop} {call : CallF}
theorem drawX_ok (hcall : CallOk c.P call) {ops : Array Oper} {h0 : T O} {Ls : List (Nat × Obj)} {W R : List Nat} {bs0 : Bs} {m : Nat} (hdst : ∀ o ∈ ops.toList, dok c.N o.dst = true) (hdisj : ∀ k ∈ R, k ∉ W) (h0ok : ∀ k o, h0.get k = some o → k ∉ W → At bs0 Ls k o) :
    ∀ (p : Plan) {r : Bs} {s : T V} {Hp : H} {rd : List Nat} {M F : List (Nat × Obj)} {s2 : T V} {H2 : H} {W2 rd2 : List Nat} {σ : St}, drawX c.P call ops.toList h0 m p s Hp rd = some (s2, H2, W2, rd2) → (∀ k ∈ W2, k ∈ W) → (∀ k ∈ rd2, k ∈ R) → Cov (bs0 ++ r) s Hp M F σ → Prot (bs0 ++ r) Hp M W Ls → (∀ σ', Post (bs0 ++ r) Hp M F σ.D s2 H2 σ' → K .normal σ') → WR c ops K Ls m p σ := by
  intro p
  induction p with
  | done =>
    intro r s Hp rd M F s2 H2 W2 rd2 σ h _ _ hcov _ hk
    cases h
    exact hk σ (Post.self rfl hcov.L hcov.slots hcov.mem)
  | calm i p ih =>
    intro r s Hp rd M F s2 H2 W2 rd2 σ h hW hR hcov hp hk
    simp only [drawX] at h
    split at h
    · rename_i o hi
      have hd := hdst o (List.mem_of_getElem? hi)
      have hi' : ops[i]? = some o := by simpa using hi
      split at h
      · rename_i hg
        have step : ∀ {v : V} {v' : Value} {rd3 : List Nat}, Qt c σ.s Ls o v' → RV (bs0 ++ r) v v' → drawX c.P call ops.toList h0 m p (putD s o.dst v) Hp rd3 = some (s2, H2, W2, rd2) → WR c ops K Ls m (.calm i p) σ := by
          intro v v' rd3 hq hv h
          have hcov2 : Cov (bs0 ++ r) (putD s o.dst v) Hp M F (σ.put o.dst v') := ⟨CovS.putD hcov.slots hv, hcov.mem, by rw [put_L]; exact hcov.L⟩
          have hrest := ih h hW hR hcov2 hp (fun σ' hp2 => hk σ' (by rw [put_D] at hp2; exact hp2))
          rcases guardX_ok hcov.slots hg with ⟨_, hgn⟩ | ⟨j, want, og, dg, hg1, hj, hdg, ⟨_, hb⟩ | ⟨hb, _⟩⟩
          · exact WR_qt hi' hq hgn hd hrest
          · exact WR_qt_yes hi' hg1 hj hdg hb rfl hq hd hrest
          · cases hb
        split at h
        · rename_i v k hc
          obtain ⟨_, _, hrd⟩ := drawX_log hcall h
          obtain ⟨v', h1, h2⟩ := calmX_ok (Ls := Ls) hc hcov.slots (fun k' ob e hk' => by
            cases e
            exact (h0ok k ob hk' (hdisj k (hR k (hrd k List.mem_cons_self)))).mono r)
          exact step h1 h2 h
        · rename_i v hc
          obtain ⟨v', h1, h2⟩ := calmX_ok (Ls := Ls) hc hcov.slots (fun k' ob e _ => by cases e)
          exact step h1 h2 h
        · cases h
      · rename_i hg
        split at h
        · rename_i hnd
          have hrest := ih h hW hR (hcov.undef o.dst) hp (fun σ' hp2 => hk σ' (by rw [put_D] at hp2; exact hp2))
          rcases guardX_ok hcov.slots hg with ⟨hb, _⟩ | ⟨j, want, og, dg, hg1, hj, hdg, ⟨hb, _⟩ | ⟨_, u, hu, rfl | rfl⟩⟩
          · cases hb
          · cases hb
          · exact WR_qt_no hi' hg1 hj hdg hu rfl hnd hd hrest
          · exact WR_qt_undef hi' hg1 hj hdg hu hnd hd hrest
        · cases h
      · cases h
    · cases h
  | must i p ih =>
    intro r s Hp rd M F s2 H2 W2 rd2 σ h hW hR hcov hp hk
    simp only [drawX] at h
    split at h
    · split at h
      · rename_i o hi
        have hd := hdst o (List.mem_of_getElem? hi)
        have hi' : ops[i]? = some o := by simpa using hi
        split at h
        · rename_i hg
          split at h
          · rename_i s1 H1 h1
            have hlog := (drawX_log hcall h).1
            have hO : OW c o (fun σ' => (i < m → ∀ q ∈ Ls, q ∈ σ'.L) ∧ WR c ops K Ls m p σ') K σ := (opX_ok hcall hd hcov h1).mono fun σ1 hp1 => by
              obtain ⟨r1, M1, hcov1, _, _, hprot, hcomp⟩ := hp1.split
              have hp1' := hprot W Ls (fun k hk => hW k (hlog k hk)) hp
              rw [List.append_assoc] at hcov1 hp1'
              refine ⟨fun _ q hq => by rw [hcov1.L]; exact List.mem_append_left _ (hp1' q hq).1, ih h hW hR hcov1 hp1' fun σ' hp2 => hk σ' (hcomp (by rw [List.append_assoc]; exact hp2))⟩
            refine ⟨o, hi', .inl ⟨?_, hO⟩⟩
            rcases guardX_ok hcov.slots hg with ⟨_, hgn⟩ | ⟨j, want, og, dg, hg1, hj, hdg, ⟨_, hb⟩ | ⟨hb, _⟩⟩
            · exact .inl hgn
            · exact .inr ⟨j, want, og, dg, hg1, hj, hdg, hb⟩
            · cases hb
          · cases h
        · rename_i hg
          have hrest := ih h hW hR (hcov.undef o.dst) hp (fun σ' hp2 => hk σ' (by rw [put_D] at hp2; exact hp2))
          refine ⟨o, hi', .inr ⟨?_, hd, fun _ q hq => by rw [hcov.L]; exact List.mem_append_left _ (hp q hq).1, hrest⟩⟩
          rcases guardX_ok hcov.slots hg with ⟨hb, _⟩ | ⟨j, want, og, dg, hg1, hj, hdg, ⟨hb, _⟩ | ⟨_, u, hu, he⟩⟩
          · cases hb
          · cases hb
          · exact ⟨j, want, og, dg, u, hg1, hj, hdg, hu, he⟩
        · cases h
      · cases h
    · split at h
      · rename_i hl
        cases h
        exact lateX_ok hcall hdst _ hl hcov hk
      · cases h
  | either => intro r s Hp rd M F s2 H2 W2 rd2 σ h; cases h
end

/-! ### code -/
inductive EX where
  | normal
  | ret
  | exit (id : Nat)
def EX.to : EX → Exit
  | .normal => .normal
  | .ret => .ret
  | .exit id => .exit id
abbrev CX := Option (EX × T V × H)

def memX (k : Nat) : List Nat → Bool
  | [] => false
  | j :: r => match Nat.beq j k with
    | true => true
    | false => memX k r
def apartX (W : List Nat) : List Nat → Bool
  | [] => true
  | k :: r => match memX k W with
    | true => false
    | false => apartX W r
theorem memX_ok {k : Nat} : ∀ {l : List Nat}, memX k l = false → k ∉ l
  | [], _ => by simp
  | j :: r, h => by
    simp only [memX] at h
    split at h
    · cases h
    · rename_i hj
      simp only [List.mem_cons, not_or]
      exact ⟨fun e => Nat.ne_of_beq_eq_false hj e.symm, memX_ok h⟩
theorem apartX_ok {W : List Nat} : ∀ {l : List Nat}, apartX W l = true → ∀ k ∈ l, k ∉ W
  | [], _, k, hk => by cases hk
  | j :: r, h, k, hk => by
    simp only [apartX] at h
    split at h
    · cases h
    · rename_i hj
      rcases List.mem_cons.1 hk with rfl | hk
      · exact memX_ok hj
      · exact apartX_ok h k hk

def regionX (P : Program) (call : CallF) (pt : T (Nat × Plan)) (id : Nat) (ops : List Oper) (draw : Bool) (s : T V) (Hp : H) : CX := match draw with
  | false => match opsX P call ops ops s Hp with
    | some (s2, H2) => some (.normal, s2, H2)
    | none => none
  | true => match pt.get id with
    | some (m, p) => match drawX P call ops Hp.h m p s ⟨Hp.h, Hp.n, []⟩ [] with
      | some (s2, H2, W, rd) => match apartX W rd with
        | true => some (.normal, s2, ⟨H2.h, H2.n, H2.log ++ Hp.log⟩)
        | false => none
      | none => none
    | none => none

def loopX (f : T V → H → CX) : Nat → T V → H → CX
  | 0, _, _ => none
  | n + 1, s, Hp => match f s Hp with
    | some (.normal, s2, H2) => loopX f n s2 H2
    | r => r
def codeX (P : Program) (call : CallF) (pt : T (Nat × Plan)) (lf : Nat) : Code → T V → H → CX
  | .skip, s, Hp => some (.normal, s, Hp)
  | .ret, s, Hp => some (.ret, s, Hp)
  | .exit id, s, Hp => some (.exit id, s, Hp)
  | .seq a b, s, Hp => match codeX P call pt lf a s Hp with
    | some (.normal, s2, H2) => codeX P call pt lf b s2 H2
    | r => r
  | .cond x a b, s, Hp => match evX s x with
    | some (.bool true) => codeX P call pt lf a s Hp
    | some (.bool false) => codeX P call pt lf b s Hp
    | _ => none
  | .block id a, s, Hp => match codeX P call pt lf a s Hp with
    | some (.exit id', s2, H2) => match Nat.beq id' id with
      | true => some (.normal, s2, H2)
      | false => some (.exit id', s2, H2)
    | r => r
  | .loop a, s, Hp => loopX (codeX P call pt lf a) lf s Hp
  | .region id ops draw, s, Hp => regionX P call pt id ops.toList draw s Hp
  | _, _, _ => none

def codeOk (N : Nat) (pt : T (Nat × Plan)) : Code → Bool
  | .seq a b => match codeOk N pt a with
    | true => codeOk N pt b
    | false => false
  | .cond _ a b => match codeOk N pt a with
    | true => codeOk N pt b
    | false => false
  | .block _ a => codeOk N pt a
  | .loop a => codeOk N pt a
  | .region id ops draw => match dstOk N ops.toList, draw with
    | true, false => true
    | true, true => match pt.get id with
      | some (m, p) => Region.noSelect ops && lateOk ops m && planOk ops m p ops.size (Array.replicate ops.size false)
      | none => true
    | false, _ => false
  | _ => true

section
variable {c : Cx} {call : CallF} {pt : T (Nat × Plan)} {lf : Nat}
def DoneK (bs : Bs) (Hp : H) (M F : List (Nat × Obj)) (D : List Deferred) (e : EX) (s2 : T V) (H2 : H) (e' : Exit) (σ' : St) : Prop := e' = e.to ∧ Post bs Hp M F D s2 H2 σ'

theorem regionX_ok (hcall : CallOk c.P call) (hmix : c.P.follows .mixedOrders = true) {id : Nat} {ops : Array Oper} {draw : Bool} {bs : Bs} {s : T V} {Hp : H} {M F : List (Nat × Obj)} {σ : St} {e : EX} {s2 : T V} {H2 : H} (hok : codeOk c.N pt (.region id ops draw) = true) (hcov : Cov bs s Hp M F σ) (hc : regionX c.P call pt id ops.toList draw s Hp = some (e, s2, H2)) : WC c (.region id ops draw) (DoneK bs Hp M F σ.D e s2 H2) σ := by
  unfold regionX at hc
  unfold codeOk at hok
  split at hc
  · split at hc
    · rename_i h1
      cases hc
      split at hok
      · rename_i hd _
        refine WC_app (ops' := ops.toList.toArray) (by simp) (WC_region ?_)
        simp only [Array.toArray_toList]
        exact opsX_ok hcall ops.toList (dstOk_mem hd) hcov h1 fun σ' hp => ⟨rfl, hp⟩
      · rename_i h; cases h
      · cases hok
    · cases hc
  · split at hc
    · rename_i m p hpt
      split at hc
      · rename_i s3 H3 W0 rd h1
        split at hc
        · rename_i hap
          cases hc
          split at hok
          · rename_i h; cases h
          · rename_i hd _
            rw [hpt] at hok
            classical
            let Ls : List (Nat × Obj) := σ.L.filter fun q => decide (q ∈ M ∧ ∀ j o x y, Hp.h.get j = some o → bs[j]? = some (q.1, x, y) → j ∉ W0)
            have hLs : ∀ q, q ∈ Ls ↔ q ∈ σ.L ∧ q ∈ M ∧ ∀ j o x y, Hp.h.get j = some o → bs[j]? = some (q.1, x, y) → j ∉ W0 := fun q => by
              simp only [Ls, List.mem_filter, decide_eq_true_eq]
            refine WC_draw_sub (Ls := Ls) m p hmix hok List.filter_sublist ?_
            have hcov0 : Cov (bs ++ []) s ⟨Hp.h, Hp.n, []⟩ M F σ := ⟨by simpa using hcov.slots, by simpa using ⟨hcov.mem.n, hcov.mem.at_, hcov.mem.inj⟩, hcov.L⟩
            refine drawX_ok (bs0 := bs) (W := W0) (R := rd) (h0 := Hp.h) (Ls := Ls) hcall (dstOk_mem hd) (apartX_ok hap) ?_ p (r := []) h1 (fun _ h => h) (fun _ h => h) hcov0 ?_ ?_
            · intro k o hk hkW
              obtain ⟨b, base, av, i, o', a1, a2, a3⟩ := hcov.mem.at_ k o hk
              have hmem : (b, o') ∈ Ls := (hLs _).2 ⟨by rw [hcov.L]; exact List.mem_append_left _ (List.mem_of_getElem? a2), List.mem_of_getElem? a2, fun j u x y hj hb => by
                rw [hcov.mem.inj j k u o b x y base av hj hk hb a1]; exact hkW⟩
              obtain ⟨i2, hi2⟩ := List.mem_iff_getElem?.1 hmem
              exact ⟨b, base, av, i2, o', a1, hi2, a3⟩
            · intro q hq
              obtain ⟨_, h2, h3⟩ := (hLs q).1 hq
              exact ⟨h2, fun j o x y hj hb => h3 j o x y hj (by simpa using hb)⟩
            · rintro σ' ⟨r, M', f1, f2, f3, f4, f5, f6⟩
              rw [List.append_nil] at f3 f4 f6
              refine ⟨rfl, r, M', f1, f2, f3, ⟨f4.n, f4.at_, f4.inj⟩, fun k hk => List.mem_append_right _ hk, fun W B hW hB => ?_⟩
              have := f6 W B (fun k hk => hW k (List.mem_append_left _ hk)) (by simpa [Prot] using hB)
              exact fun q hq => this q hq
          · cases hok
        · cases hc
      · cases hc
    · cases hc

theorem WC_loopX {x : Code} {K : Exit → St → Prop} {σ : St} (I : Nat → St → Prop) (m : Nat) (h0 : I m σ)
    (round : ∀ m σ, I m σ → WC c x (thenK (fun σ' => ∃ m', m' < m ∧ I m' σ') K) σ) : WC c (.loop x) K σ := fun a w ha => by
  let p : Act → World → Nat → Prop := fun a w m => ∃ σ, Holds c.g c.N σ a w ∧ I m σ
  refine wpIn_loop (fun a w => ∃ m, p a w m) (fun a w => leastOf (p a w)) ⟨m, σ, ha, h0⟩ ?_
  intro a w hp
  obtain ⟨⟨σ1, hs1, hi1⟩, hmin⟩ := leastOf_spec hp
  refine Go.wpIn_mono (round _ σ1 hi1 a w hs1) (fun e a' w' hl => ?_)
  cases e with
  | normal =>
    obtain ⟨σ', h1, m', hlt, hI⟩ := hl
    have hp' : ∃ m, p a' w' m := ⟨m', σ', h1, hI⟩
    exact ⟨hp', Nat.lt_of_le_of_lt ((leastOf_spec hp').2 m' ⟨σ', h1, hI⟩) hlt⟩
  | _ => exact hl

theorem codeX_ok (hcall : CallOk c.P call) (hmix : c.P.follows .mixedOrders = true) : ∀ (code : Code) {bs : Bs} {s : T V} {Hp : H} {M F : List (Nat × Obj)} {σ : St} {e : EX} {s2 : T V} {H2 : H}, codeOk c.N pt code = true → Cov bs s Hp M F σ → codeX c.P call pt lf code s Hp = some (e, s2, H2) → WC c code (DoneK bs Hp M F σ.D e s2 H2) σ := by
  intro code
  induction code with
  | skip =>
    intro bs s Hp M F σ e s2 H2 _ hcov hc
    cases hc
    exact WC_skip ⟨rfl, Post.self rfl hcov.L hcov.slots hcov.mem⟩
  | ret =>
    intro bs s Hp M F σ e s2 H2 _ hcov hc
    cases hc
    exact WC_ret ⟨rfl, Post.self rfl hcov.L hcov.slots hcov.mem⟩
  | exit id =>
    intro bs s Hp M F σ e s2 H2 _ hcov hc
    cases hc
    exact WC_exit ⟨rfl, Post.self rfl hcov.L hcov.slots hcov.mem⟩
  | seq a b iha ihb =>
    intro bs s Hp M F σ e s2 H2 hok hcov hc
    simp only [codeOk] at hok
    split at hok
    · rename_i hok1
      simp only [codeX] at hc
      split at hc
      · rename_i s1 H1 h1
        refine WC_seq ((iha hok1 hcov h1).mono fun e' σ1 hd => ?_)
        obtain ⟨rfl, hp1⟩ := hd
        obtain ⟨r1, M1, hcov1, _, _, _, hcomp⟩ := hp1.split
        exact (ihb hok hcov1 hc).mono fun e2 σ2 h2 => ⟨h2.1, hcomp h2.2⟩
      · rename_i hne
        refine WC_seq ((iha hok1 hcov hc).mono fun e' σ1 hd => ?_)
        obtain ⟨rfl, hp1⟩ := hd
        cases e with
        | normal => exact absurd hc (hne _ _)
        | ret => exact ⟨rfl, hp1⟩
        | exit id => exact ⟨rfl, hp1⟩
    · cases hok
  | cond x a b iha ihb =>
    intro bs s Hp M F σ e s2 H2 hok hcov hc
    simp only [codeOk] at hok
    split at hok
    · rename_i hok1
      simp only [codeX] at hc
      split at hc
      · rename_i hx
        obtain ⟨_, h1, h2⟩ := evX_ok hcov.slots hx; cases h2
        exact WC_cond_true h1 (iha hok1 hcov hc)
      · rename_i hx
        obtain ⟨_, h1, h2⟩ := evX_ok hcov.slots hx; cases h2
        exact WC_cond_false h1 (ihb hok hcov hc)
      · cases hc
    · cases hok
  | block id a ih =>
    intro bs s Hp M F σ e s2 H2 hok hcov hc
    simp only [codeX] at hc
    split at hc
    · rename_i id' s1 H1 h1
      refine WC_block ((ih hok hcov h1).mono fun e' σ1 hd => ?_)
      obtain ⟨rfl, hp1⟩ := hd
      split at hc
      · rename_i hb
        cases hc
        show blockK id _ (.exit id') σ1
        simp only [blockK, hb]
        exact ⟨rfl, hp1⟩
      · rename_i hb
        cases hc
        show blockK id _ (.exit id') σ1
        simp only [blockK, hb]
        exact ⟨rfl, hp1⟩
    · rename_i hne
      refine WC_block ((ih hok hcov hc).mono fun e' σ1 hd => ?_)
      obtain ⟨rfl, hp1⟩ := hd
      cases e with
      | normal => exact ⟨rfl, hp1⟩
      | ret => exact ⟨rfl, hp1⟩
      | exit id => exact absurd hc (hne _ _ _)
  | loop a ih =>
    intro bs s Hp M F σ e s2 H2 hok hcov hc
    simp only [codeX] at hc
    refine WC_loopX (fun m σ' => ∃ r s' H' M', loopX (codeX c.P call pt lf a) m s' H' = some (e, s2, H2) ∧ Cov (bs ++ r) s' H' M' F σ' ∧ σ'.D = σ.D ∧ ∀ {σ2}, Post (bs ++ r) H' M' F σ'.D s2 H2 σ2 → Post bs Hp M F σ.D s2 H2 σ2) lf ⟨[], s, Hp, M, hc, by simpa using hcov, rfl, fun h => by simpa using h⟩ ?_
    rintro m σ1 ⟨r, s', H', M', h1, hcov1, hD, hcomp⟩
    cases m with
    | zero => cases h1
    | succ m =>
      simp only [loopX] at h1
      split at h1
      · rename_i s3 H3 h3
        refine (ih hok hcov1 h3).mono fun e' σ3 hd => ?_
        obtain ⟨rfl, hp3⟩ := hd
        obtain ⟨r3, M3, hcov3, hD3, _, _, hcomp3⟩ := hp3.split
        exact ⟨m, Nat.lt_succ_self m, r ++ r3, s3, H3, M3, h1, by rw [← List.append_assoc]; exact hcov3, hD3.trans hD, fun hq => hcomp (hcomp3 (by rw [List.append_assoc]; exact hq))⟩
      · rename_i hne
        refine (ih hok hcov1 h1).mono fun e' σ3 hd => ?_
        obtain ⟨rfl, hp3⟩ := hd
        cases e with
        | normal => exact absurd h1 (hne _ _)
        | ret => exact ⟨rfl, hcomp hp3⟩
        | exit id => exact ⟨rfl, hcomp hp3⟩
  | region id ops draw =>
    intro bs s Hp M F σ e s2 H2 hok hcov hc
    exact regionX_ok hcall hmix hok hcov hc
  | _ => intro bs s Hp M F σ e s2 H2 _ _ hc; cases hc
end

theorem opsX_log {P : Program} {call : CallF} (hcall : CallOk P call) {ops : List Oper} : ∀ {l : List Oper} {s : T V} {Hp : H} {s2 : T V} {H2 : H}, opsX P call ops l s Hp = some (s2, H2) → ∀ k ∈ Hp.log, k ∈ H2.log
  | [], s, Hp, s2, H2, h => by cases h; exact fun _ h => h
  | o :: r, s, Hp, s2, H2, h => by
    simp only [opsX] at h
    split at h
    · split at h
      · rename_i h1
        exact fun k hk => opsX_log hcall h k (opX_log hcall h1 k hk)
      · cases h
    · exact opsX_log hcall h
    · cases h
theorem codeX_log {P : Program} {call : CallF} {pt : T (Nat × Plan)} {lf : Nat} (hcall : CallOk P call) : ∀ (code : Code) {s : T V} {Hp : H} {e : EX} {s2 : T V} {H2 : H}, codeX P call pt lf code s Hp = some (e, s2, H2) → ∀ k ∈ Hp.log, k ∈ H2.log := by
  intro code
  induction code with
  | skip => intro s Hp e s2 H2 h; cases h; exact fun _ h => h
  | ret => intro s Hp e s2 H2 h; cases h; exact fun _ h => h
  | exit id => intro s Hp e s2 H2 h; cases h; exact fun _ h => h
  | seq a b iha ihb =>
    intro s Hp e s2 H2 h
    simp only [codeX] at h
    split at h
    · rename_i h1
      exact fun k hk => ihb h k (iha h1 k hk)
    · exact iha h
  | cond x a b iha ihb =>
    intro s Hp e s2 H2 h
    simp only [codeX] at h
    split at h
    · exact iha h
    · exact ihb h
    · cases h
  | block id a ih =>
    intro s Hp e s2 H2 h
    simp only [codeX] at h
    split at h
    · rename_i h1
      split at h
      · cases h; exact ih h1
      · cases h; exact ih h1
    · exact ih h
  | loop a ih =>
    intro s Hp e s2 H2 h
    simp only [codeX] at h
    have key : ∀ (n : Nat) {s : T V} {Hp : H}, loopX (codeX P call pt lf a) n s Hp = some (e, s2, H2) → ∀ k ∈ Hp.log, k ∈ H2.log := by
      intro n
      induction n with
      | zero => intro s Hp h; cases h
      | succ n ihn =>
        intro s Hp h
        simp only [loopX] at h
        split at h
        · rename_i h1
          exact fun k hk => ihn h k (ih h1 k hk)
        · exact ih h
    exact key lf h
  | region id ops draw =>
    intro s Hp e s2 H2 h
    simp only [codeX] at h
    unfold regionX at h
    split at h
    · split at h
      · rename_i h1; cases h; exact opsX_log hcall h1
      · cases h
    · split at h
      · split at h
        · split at h
          · cases h; exact fun k hk => List.mem_append_right _ hk
          · cases h
        · cases h
      · cases h
  | _ => intro s Hp e s2 H2 h; cases h

/-! ### functions -/
structure XF where
  fn : Func
  code : Code
  pt : T (Nat × Plan)

def resX (P : Program) (s : T V) (h : T O) : List ResultVar → Option (List V)
  | [] => some []
  | .tmp t :: r => match s.get t, resX P s h r with
    | some v, some l => some (v :: l)
    | _, _ => none
  | .cell a t :: r => match loadX P h t (s.get a), resX P s h r with
    | some (v, _), some l => some (v :: l)
    | _, _ => none
def funX (P : Program) (tab : T XF) (lf : Nat) : Nat → CallF
  | 0, _, _, _ => none
  | n + 1, f, vs, Hp => match tab.get f with
    | some x => match Nat.ble vs.length x.fn.ntmps with
      | true => match codeX P (funX P tab lf n) x.pt lf x.code (T.row .e vs 0) Hp with
        | some (.exit _, _, _) => none
        | some (_, s2, H2) => match resX P s2 H2.h x.fn.results.toList with
          | some [v] => some (v, H2)
          | some l => some (.tup l, H2)
          | none => none
        | none => none
      | false => none
    | none => none

/-- A table of a program's functions. -/
structure GoodF (P : Program) (f : FuncId) (x : XF) : Prop where
  fn : P.funcs[f]? = some x.fn
  body : x.fn.body = some x.code
  call : FCall P f
  ok : codeOk x.fn.ntmps x.pt x.code = true

def GoodL (P : Program) : List (Nat × XF) → Prop
  | [] => True
  | p :: r => GoodF P p.1 p.2 ∧ GoodL P r
theorem GoodL.mem {P : Program} : ∀ {l : List (Nat × XF)}, GoodL P l → ∀ p ∈ l, GoodF P p.1 p.2
  | [], _, _, h => by cases h
  | _ :: _, ⟨h1, h2⟩, p, hp => by
    rcases List.mem_cons.1 hp with rfl | hp
    · exact h1
    · exact GoodL.mem h2 p hp

theorem loadX_run {c : Cx} {bs : Bs} {s : T V} {Hp : H} {M F : List (Nat × Obj)} {σ : St} {a t : Nat} {v : V} {rd : Option Nat} (hcov : Cov bs s Hp M F σ) (h : loadX c.P Hp.h t (s.get a) = some (v, rd)) : ∃ v', RV bs v v' ∧ resV c σ v' (.cell a t) := by
  generalize hx : s.get a = e at h
  unfold loadX at h
  split at h
  · rename_i k off
    obtain ⟨p, hp, hr⟩ := hcov.slots a _ hx
    obtain ⟨b, base, av, rfl, hk⟩ := hr.ptr_inv
    split at h
    · rename_i cc E hb
      obtain ⟨b', base', av', i, o', a1, a2, cs, rfl, a3, a4⟩ := hcov.mem.at_ k _ hb
      rw [hk] at a1; cases a1
      have hi : σ.L[i]? = some (b, .cells cs E (0, 0)) := by
        rw [hcov.L, List.getElem?_append_left (List.getElem?_eq_some_iff.1 a2).1]; exact a2
      split at h
      · rename_i ha
        split at h
        · rename_i u hu
          cases h
          obtain ⟨_, v', a5, a6⟩ := a4 off _ hu
          refine ⟨v', a6, fun ac w hH => ?_⟩
          have hp' := hH.slots a _ hp
          have hcell : w.cell? ⟨b, base + off, none⟩ = some v' := by rw [cell_of_row w b (base + off) cs E (0, 0) (hH.mem.at_ hi)]; exact a5
          rw [Array.getD_eq_getD_getElem?] at hp'
          simp [resSem, hp', asAddr, loadVar, (aggX_ok ha).h, hcell]
        · cases h
      · rename_i ha
        split at h
        · rename_i n hn
          split at h
          · rename_i l hl
            cases h
            obtain ⟨l', e1, e2, e3, e4⟩ := cellsX_ok a4 (n + 1) off l hl
            refine ⟨_, .agg e1, fun ac w hH => ?_⟩
            have hp' := hH.slots a _ hp
            have hload := run_loadCells_list (P := c.P) w ⟨b, base + off, none⟩ l' (fun j v hv => by
              have hj := (List.getElem?_eq_some_iff.1 hv).1
              rw [Addr.add_mid, cell_of_row w b (base + off + j) cs E (0, 0) (hH.mem.at_ hi), e3 j (by omega)]; exact hv)
            rw [e2] at hload
            rw [Array.getD_eq_getD_getElem?] at hp'
            simp [resSem, hp', asAddr, loadVar, (aggX_ok ha).h, (sizeX_ok hn).h, hload]
          · cases h
        · cases h
      · cases h
    · cases h
  · cases h

theorem resX_ok {c : Cx} {bs : Bs} {s : T V} {Hp : H} {M F : List (Nat × Obj)} {σ : St} (hcov : Cov bs s Hp M F σ) : ∀ {rs : List ResultVar} {l : List V}, resX c.P s Hp.h rs = some l → ∃ l', RVs bs l l' ∧ ∀ a w, Holds c.g c.N σ a w → (rs.mapM (resSem a.tmps)).run c.P w = .ok l' w
  | [], l, h => by cases h; exact ⟨[], .nil, fun a w _ => by simp⟩
  | .tmp t :: r, l, h => by
    simp only [resX] at h
    split at h
    · rename_i v l h1 h2
      cases h
      obtain ⟨v', h3, h4⟩ := hcov.slots t v h1
      obtain ⟨l', h5, h6⟩ := resX_ok hcov h2
      refine ⟨v' :: l', .cons h4 h5, fun a w ha => ?_⟩
      have := resV_tmp (c := c) h3 a w ha
      simp [List.mapM_cons, this, h6 a w ha]
    · cases h
  | .cell p t :: r, l, h => by
    simp only [resX] at h
    split at h
    · rename_i v rd l h1 h2
      cases h
      obtain ⟨v', h4, h3⟩ := loadX_run (c := c) hcov h1
      obtain ⟨l', h5, h6⟩ := resX_ok hcov h2
      refine ⟨v' :: l', .cons h4 h5, fun a w ha => ?_⟩
      have := h3 a w ha
      simp [List.mapM_cons, this, h6 a w ha]
    · cases h

theorem covS_row {bs : Bs} {vs : List V} {vs' : List Value} (h : RVs bs vs vs') : CovS bs (T.row .e vs 0) (initS 0 vs') := by
  have look_init : ∀ (l : List Value) (k t : Nat) (v : Value), k ≤ t → l[t - k]? = some v → look (initS k l) t = some v := by
    intro l
    induction l with
    | nil => intro k t v _ h; simp at h
    | cons u r ih =>
      intro k t v hk h
      rw [initS, look_cons]
      by_cases e : k = t
      · subst e; simp at h; rw [if_pos rfl, h]
      · rw [if_neg e]
        refine ih (k + 1) t v (by omega) ?_
        rw [show t - k = (t - (k + 1)) + 1 by omega] at h
        simpa using h
  intro t v hv
  rcases T.get_row hv with ⟨_, h2⟩ | ⟨_, h2⟩
  · obtain ⟨v', h3, h4⟩ := h.get h2
    exact ⟨v', look_init vs' 0 t v' (Nat.zero_le _) h3, h4⟩
  · cases h2

theorem funX_ok {P : Program} {tab : T XF} {lf : Nat} (hmix : P.follows .mixedOrders = true) (htab : ∀ f x, tab.get f = some x → GoodF P f x) : ∀ n, CallOk P (funX P tab lf n)
  | 0 => ⟨fun _ _ _ _ _ h => (by cases h), fun _ _ _ _ _ h => (by cases h), fun _ _ _ _ _ h => (by cases h)⟩
  | n + 1 => by
    have ih := funX_ok (lf := lf) hmix htab n
    have key : ∀ f vs Hp v H2, funX P tab lf (n + 1) f vs Hp = some (v, H2) → ∃ x e s2, tab.get f = some x ∧ vs.length ≤ x.fn.ntmps ∧ codeX P (funX P tab lf n) x.pt lf x.code (T.row .e vs 0) Hp = some (e, s2, H2) ∧ (e = .normal ∨ e = .ret) ∧ ∃ l, resX P s2 H2.h x.fn.results.toList = some l ∧ v = (match l with | [v] => v | l => .tup l) := by
      intro f vs Hp v H2 h
      simp only [funX] at h
      split at h
      · rename_i x hx
        split at h
        · rename_i hle
          split at h
          · cases h
          · rename_i e s2 H3 hne hcode
            have he : e = .normal ∨ e = .ret := by
              cases e with
              | normal => exact .inl rfl
              | ret => exact .inr rfl
              | exit id => exact (hne id rfl).elim
            split at h
            · rename_i v hr
              cases h
              exact ⟨x, e, s2, hx, Nat.le_of_ble_eq_true hle, hcode, he, _, hr, rfl⟩
            · rename_i l hnl hr
              cases h
              refine ⟨x, e, s2, hx, Nat.le_of_ble_eq_true hle, hcode, he, l, hr, ?_⟩
              match l, hnl with
              | [], _ => rfl
              | [u], h => exact absurd rfl (h u)
              | _ :: _ :: _, _ => rfl
            · cases h
          · cases h
        · cases h
      · cases h
    have hfn : ∀ f vs Hp v H2, funX P tab lf (n + 1) f vs Hp = some (v, H2) → ∀ bs M F vs', HCov bs Hp M → RVs bs vs vs' → Fn P f vs' (M ++ F) (FPost bs Hp M F v H2) := by
      intro f vs Hp v H2 h bs M F vs' hm hvs
      obtain ⟨x, e, s2, hx, hle, hcode, he, l, hr, hv⟩ := key f vs Hp v H2 h
      have hg := htab f x hx
      have hlen := hvs.length
      refine Fn_enter hg.fn hg.body rfl (Nat.ble_eq_true_of_le (by omega)) fun g => ?_
      have hcov : Cov bs (T.row .e vs 0) Hp M F ⟨initS 0 vs', [], M ++ F⟩ := ⟨covS_row hvs, hm, rfl⟩
      refine (codeX_ok (c := ⟨P, g, x.fn.ntmps, 0, none⟩) ih hmix x.code hg.ok hcov hcode).mono fun e' σ' hd => ?_
      obtain ⟨rfl, r, M', f1, f2, f3, f4, f5, f6⟩ := hd
      have hcov2 : Cov (bs ++ r) s2 H2 M' F σ' := ⟨f3, f4, f2⟩
      obtain ⟨l', h1, h2⟩ := resX_ok (c := ⟨P, g, x.fn.ntmps, 0, none⟩) hcov2 hr
      have hll := h1.length
      have hres : ∃ v', Res ⟨P, g, x.fn.ntmps, 0, none⟩ x.fn σ' v' ∧ RV (bs ++ r) v v' := by
        refine ⟨(if h : l'.toArray.size = 1 then l'.toArray[0] else .tuple l'.toArray), fun a w ha => ?_, ?_⟩
        · have h3 := h2 a w ha
          rw [results_eq, Array.mapM_eq_mapM_toList]
          simp [h3]
        · subst hv
          match l, l', h1 with
          | [], [], h1 => simpa using RV.tup h1
          | [u], [u'], .cons h1 _ => simpa using h1
          | a :: b :: l, a' :: b' :: l', h1 => simpa using RV.tup h1
      obtain ⟨v', hv1, hv2⟩ := hres
      have fin : postK ⟨P, g, x.fn.ntmps, 0, none⟩ x.fn (FPost bs Hp M F v H2) .normal σ' := ⟨f1, v', σ'.L, hv1, .refl _, r, M', f2, hv2, f4, f5, f6⟩
      rcases he with rfl | rfl
      · exact fin
      · exact fin
    refine ⟨fun f vs Hp v H2 h => ?_, fun f vs Hp v H2 h => ?_, hfn⟩
    · obtain ⟨x, e, s2, _, _, hcode, _⟩ := key f vs Hp v H2 h
      exact codeX_log ih x.code hcode
    · obtain ⟨x, e, s2, hx, _⟩ := key f vs Hp v H2 h
      exact (htab f x hx).call

/-- A function without arguments that comes to true: so it does, whatever memory holds, and leaves that as it is. -/
theorem runX {P : Program} {tab : T XF} {lf n : Nat} {f : FuncId} {H2 : H} (hmix : P.follows .mixedOrders = true) (htab : ∀ f x, tab.get f = some x → GoodF P f x) (h : funX P tab lf n f [] ⟨.e, 0, []⟩ = some (.bool true, H2)) (L : List (Nat × Obj)) : Fn P f [] L (fun v L' => v = .bool true ∧ L' = L) := fun g w hm => by
  have h1 := (funX_ok hmix htab n).fn _ _ _ _ _ h [] [] L [] ⟨rfl, fun k o hk => (by cases hk), fun j k o o' b x y x' y' hj => (by cases hj)⟩ .nil
  refine (h1 g w hm).mono fun e w' ⟨v, L', e1, e2, r, M', e3, e4, _⟩ => ?_
  cases e4
  subst e3
  exact ⟨.bool true, L, e1, e2.sublist (List.sublist_append_right _ _), rfl, rfl⟩
/-- What is to be computed. -/
def trueX (P : Program) (tab : T XF) (lf n : Nat) (f : FuncId) : Bool := match funX P tab lf n f [] ⟨.e, 0, []⟩ with
  | some (.bool true, _) => true
  | _ => false
theorem runX' {P : Program} {tab : T XF} {lf n : Nat} {f : FuncId} (hmix : P.follows .mixedOrders = true) (htab : ∀ f x, tab.get f = some x → GoodF P f x) (h : trueX P tab lf n f = true) (L : List (Nat × Obj)) : Fn P f [] L (fun v L' => v = .bool true ∧ L' = L) := by
  unfold trueX at h
  split at h
  · rename_i h1; exact runX hmix htab h1 L
  · cases h
end Go.Proofs.Ytcnbecdpfildnaa
