/-
  A part of what the last of these texts needs; by itself it proves no statement.
-/
import Derived.Test.YtgimodceldoniaaGreatDoorRows
import Derived.WalkKit
import Derived.LaidEql
import Derived.Stop.Asserts
import Derived.RowKitTokens
import Derived.Test.YtgimodceldoniaaGreatDoorKN5
namespace Go.Proofs.YtgimodceldoniaaGreatDoor
open Go.RowKit
noncomputable section
attribute [local irreducible] T.put T.set opX opP calmX effX callX appendX
structure XF where
  fn : Func
  code : Code
  pt : T (Nat × Plan)
  mask : Nat
def resX (P : Program) (s : S) (h : T O) : List ResultVar → Option (List V)
  | [] => some []
  | .tmp t :: r => match s.get t, resX P s h r with
    | some v, some l => some (v :: l)
    | _, _ => none
  | .cell a t :: r => match loadX P h t (s.get a), resX P s h r with
    | some (v, _), some l => some (v :: l)
    | _, _ => none
def leaveX (call : CallF) : List DI → Option V → H → Option (Option V × H)
  | [], m, Hp => some (m, Hp)
  | .mark k :: r, m, Hp => match Hp.h.get k with
    | some .defer => leaveX call r m (Hp.upd k .gone)
    | _ => none
  | .call f A B :: r, m, Hp => match call.d f (A ++ B) m Hp with
    | some (m2, H2) => leaveX call r m2 H2
    | none => none
inductive FR where
  | ret (v : V)
  | pan (v : V)
def retX (P : Program) (x : XF) (ds0 : List DI) (s2 : S) (H3 : H) : Option V → Option (FR × H)
  | none => match resX P s2 H3.h x.fn.results.toList with
    | some [v] => some (.ret v, ⟨H3.h, H3.n, H3.log, ds0⟩)
    | some l => some (.ret (.tup l), ⟨H3.h, H3.n, H3.log, ds0⟩)
    | none => none
  | some v => some (.pan v, ⟨H3.h, H3.n, H3.log, ds0⟩)
def goneX (P : Program) (call : CallF) (x : XF) (ds0 : List DI) (s2 : S) (H2 : H) (m : Option V) : Option (FR × H) := match leaveX call H2.ds m H2 with
  | some (m2, H3) => retX P x ds0 s2 H3 m2
  | none => none
def endF (P : Program) (call : CallF) (x : XF) (ds0 : List DI) : CX → Option (FR × H)
  | some (.normal, s2, H2) => goneX P call x ds0 s2 H2 none
  | some (.ret, s2, H2) => goneX P call x ds0 s2 H2 none
  | some (.panic v, s2, H2) => goneX P call x ds0 s2 H2 (some v)
  | _ => none
def runF (P : Program) (tab : T XF) (lf : Nat) (call : CallF) (f : FuncId) (vs : List V) (Hp : H) : Option (FR × H) := match tab.get f with
  | some x => match Nat.ble vs.length x.fn.ntmps with
    | true => endF P call x Hp.ds (codeX P call x.pt lf true x.fn.ntmps x.code (S.ofArgs vs x.mask) ⟨Hp.h, Hp.n, Hp.log, []⟩)
    | false => none
  | none => none
def recOf : Code → Option (Option Nat × List Oper × Code)
  | .seq (.region _ ops false) rest => match ops.toList with
    | o :: more => match o.op, o.guard with
      | .call cl, none => match cl.callee with
        | .builtin .recover => some (o.dst, more, rest)
        | _ => none
      | _, _ => none
    | _ => none
  | _ => none
def calmL (P : Program) (h : T O) : List Oper → S → Option S
  | [], s => some s
  | o :: r, s => match o.guard, calmX P s h o.op with
    | none, some (v, _) => calmL P h r (putD s o.dst v)
    | _, _ => none
def recV : Option V → V
  | none => .nili
  | some v => v
def doneD (P : Program) (x : XF) (ds0 : List DI) (m : Option V) (s2 : S) (H2 : H) : Option (Option V × H) := match H2.ds, resX P s2 H2.h x.fn.results.toList with
  | [], some _ => some (m, ⟨H2.h, H2.n, H2.log, ds0⟩)
  | _, _ => none
def endD (P : Program) (x : XF) (ds0 : List DI) (m : Option V) : CX → Option (Option V × H)
  | some (.normal, s2, H2) => doneD P x ds0 m s2 H2
  | some (.ret, s2, H2) => doneD P x ds0 m s2 H2
  | _ => none
def defF (P : Program) (tab : T XF) (lf : Nat) (call : CallF) (f : FuncId) (vs : List V) (m : Option V) (Hp : H) : Option (Option V × H) := match tab.get f with
  | some x => match Nat.ble vs.length x.fn.ntmps with
    | true => match recOf x.code with
      | some (d, more, rest) => match calmL P Hp.h more (putD (S.ofArgs vs x.mask) d (recV m)) with
        | some s => endD P x Hp.ds none (codeX P call x.pt lf true x.fn.ntmps rest s ⟨Hp.h, Hp.n, Hp.log, []⟩)
        | none => none
      | none => endD P x Hp.ds m (codeX P call x.pt lf true x.fn.ntmps x.code (S.ofArgs vs x.mask) ⟨Hp.h, Hp.n, Hp.log, []⟩)
    | false => none
  | none => none
def zipX : List Nat → List V → S → S
  | p :: ps, v :: vs, s => zipX ps vs (s.set p v)
  | _, _, s => s
def roundX (k : Nat) (ds0 : List DI) (e : EX) (H4 : H) : Option (V × H) := match H4.h.get k with
  | some (.loop cl .busy) => match e with
    | .normal => some (.bool true, ⟨H4.h.set k (.loop cl .ready), H4.n, k :: H4.log, ds0⟩)
    | .ret => some (.bool false, ⟨H4.h.set k (.loop cl (.done .ret)), H4.n, k :: H4.log, ds0⟩)
    | .exit id => some (.bool false, ⟨H4.h.set k (.loop cl (.done (.exit id))), H4.n, k :: H4.log, ds0⟩)
    | .panic _ => none
  | _ => none
def yieldX (P : Program) (call : CallF) (lf : Nat) (k : Nat) (vs : List V) (Hp : H) : Option (V × H) := match Hp.h.get k with
  | some (.loop cl .ready) => match Nat.beq vs.length cl.ps.length, psOk cl.N cl.ps, codeOk cl.N cl.pt cl.assign, codeOk cl.N cl.pt cl.body with
    | true, true, true, true => match codeX P call cl.pt lf false cl.N cl.assign (zipX cl.ps vs cl.s) ⟨Hp.h, Hp.n, Hp.log, []⟩ with
      | some (.normal, s2, H2) => match H2.h.get k with
        | some (.loop cl2 .ready) => match codeX P call cl.pt lf false cl.N cl.body s2 (H2.upd k (.loop cl2 .busy)) with
          | some (e, _, H4) => roundX k Hp.ds e H4
          | none => none
        | _ => none
      | _ => none
    | _, _, _, _ => none
  | _ => none
def retO : Option (FR × H) → Option (V × H)
  | some (.ret v, H2) => some (v, H2)
  | _ => none
def panO : Option (FR × H) → Option (V × H)
  | some (.pan v, H2) => some (v, H2)
  | _ => none
abbrev PrimF := FuncId → List V → H → Option (V × H)
def primO (a : Option (V × H)) (b : Option (V × H)) : Option (V × H) := match a with
  | some r => some r
  | none => b
structure PrimOk (P : Program) (pr : PrimF) : Prop where
  x : ∀ f vs Hp v H2, pr f vs Hp = some (v, H2) → Ext Hp H2
  c : ∀ f vs Hp v H2, pr f vs Hp = some (v, H2) → FCall P f
  n : ∀ f vs Hp v H2, pr f vs Hp = some (v, H2) → ∀ bs M F vs', HCov bs Hp M → RVs bs vs vs' → Fn P f vs' (M ++ F) (FPost bs Hp M F v H2)
def funX (P : Program) (tab : T XF) (lf : Nat) (pr : PrimF) : Nat → CallF
  | 0 => ⟨fun _ _ _ => none, fun _ _ _ => none, fun _ _ _ => none, fun _ _ _ _ => none⟩
  | n + 1 => ⟨fun f vs Hp => primO (pr f vs Hp) (retO (runF P tab lf (funX P tab lf pr n) f vs Hp)), fun k vs Hp => yieldX P (funX P tab lf pr n) lf k vs Hp,
    fun f vs Hp => panO (runF P tab lf (funX P tab lf pr n) f vs Hp), fun f vs m Hp => defF P tab lf (funX P tab lf pr n) f vs m Hp⟩
structure GoodF (P : Program) (f : FuncId) (x : XF) : Prop where
  fn : P.funcs[f]? = some x.fn
  body : x.fn.body = some x.code
  call : FCall P f
  ok : codeOk x.fn.ntmps x.pt x.code = true
def GoodL (P : Program) : List (Nat × XF) → Prop
  | [] => True
  | p :: r => GoodF P p.1 p.2 ∧ GoodL P r
theorem GoodL.mem {P : Program} : ∀ {l : List (Nat × XF)}, GoodL P l → ∀ p ∈ l, GoodF P p.1 p.2
  | [], _, _, h => by cases h
  | _ :: _, ⟨h1, h2⟩, p, hp => by
    rcases List.mem_cons.1 hp with rfl | hp
    · exact h1
    · exact GoodL.mem h2 p hp
theorem loadX_run {c : Cx} {bs : Bs} {s : S} {Hp : H} {M F : List (Nat × Obj)} {σ : St} {a t : Nat} {v : V} {rd : Option Nat} (hcov : Cov bs s Hp M F σ) (h : loadX c.P Hp.h t (s.get a) = some (v, rd)) : ∃ v', RV bs v v' ∧ resV c σ v' (.cell a t) := by
  generalize hx : s.get a = e at h
  unfold loadX at h
  split at h
  · rename_i k off
    obtain ⟨p, hp, hr⟩ := hcov.slots a _ hx
    obtain ⟨b, base, av, rfl, hk⟩ := hr.ptr_inv
    split at h
    · rename_i cc hb
      obtain ⟨ob, hob, hrd⟩ := rdX_ok (bs := bs) (base := base) (av := av) hb
      obtain ⟨b', base', av', i, o', a1, a2, aRO⟩ := hcov.mem.at_ k _ hob
      rw [hk] at a1; cases a1
      obtain ⟨cs, E, fr, rfl, a3, a4⟩ := hrd aRO
      have hi : σ.L[i]? = some (b, .cells cs E fr) := by
        rw [hcov.L, List.getElem?_append_left (List.getElem?_eq_some_iff.1 a2).1]; exact a2
      split at h
      · rename_i ha
        split at h
        · rename_i u hu
          cases h
          obtain ⟨_, v', a5, a6⟩ := a4 off _ hu
          refine ⟨v', a6, fun ac w hH => ?_⟩
          have hp' := hH.slots a _ hp
          have hcell : w.cell? ⟨b, base + off, none⟩ = some v' := by rw [cell_of_row w b (base + off) cs E fr (hH.mem.at_ hi)]; exact a5
          rw [Array.getD_eq_getD_getElem?] at hp'
          simp [resSem, hp', asAddr, loadVar, (aggX_ok ha).h, hcell]
        · cases h
      · rename_i ha
        split at h
        · rename_i n hn
          split at h
          · rename_i l hl
            cases h
            obtain ⟨l', e1, e2, e3, e4⟩ := cellsX_ok a4 (n + 1) off l hl
            refine ⟨_, .agg e1, fun ac w hH => ?_⟩
            have hp' := hH.slots a _ hp
            have hload := run_loadCells_list (P := c.P) w ⟨b, base + off, none⟩ l' (fun j v hv => by
              have hj := (List.getElem?_eq_some_iff.1 hv).1
              rw [Addr.add_mid, cell_of_row w b (base + off + j) cs E fr (hH.mem.at_ hi), e3 j (by omega)]; exact hv)
            rw [e2] at hload
            rw [Array.getD_eq_getD_getElem?] at hp'
            simp [resSem, hp', asAddr, loadVar, (aggX_ok ha).h, (sizeX_ok hn).h, hload]
          · cases h
        · cases h
      · cases h
    · cases h
  · cases h
theorem resX_ok {c : Cx} {bs : Bs} {s : S} {Hp : H} {M F : List (Nat × Obj)} {σ : St} (hcov : Cov bs s Hp M F σ) : ∀ {rs : List ResultVar} {l : List V}, resX c.P s Hp.h rs = some l → ∃ l', RVs bs l l' ∧ ∀ a w, Holds c.g c.N σ a w → (rs.mapM (resSem a.tmps)).run c.P w = .ok l' w
  | [], l, h => by cases h; exact ⟨[], .nil, fun a w _ => by simp⟩
  | .tmp t :: r, l, h => by
    simp only [resX] at h
    split at h
    · rename_i v l h1 h2
      cases h
      obtain ⟨v', h3, h4⟩ := hcov.slots t v h1
      obtain ⟨l', h5, h6⟩ := resX_ok hcov h2
      refine ⟨v' :: l', .cons h4 h5, fun a w ha => ?_⟩
      have := resV_tmp (c := c) h3 a w ha
      simp [List.mapM_cons, this, h6 a w ha]
    · cases h
  | .cell p t :: r, l, h => by
    simp only [resX] at h
    split at h
    · rename_i v rd l h1 h2
      cases h
      obtain ⟨v', h4, h3⟩ := loadX_run (c := c) hcov h1
      obtain ⟨l', h5, h6⟩ := resX_ok hcov h2
      refine ⟨v' :: l', .cons h4 h5, fun a w ha => ?_⟩
      have := h3 a w ha
      simp [List.mapM_cons, this, h6 a w ha]
    · cases h
theorem covS_row {bs : Bs} {vs : List V} {vs' : List Value} {m : Nat} (h : RVs bs vs vs') : CovS bs (S.ofArgs vs m) (initS 0 vs') := by
  have look_init : ∀ (l : List Value) (k t : Nat) (v : Value), k ≤ t → l[t - k]? = some v → look (initS k l) t = some v := by
    intro l
    induction l with
    | nil => intro k t v _ h; simp at h
    | cons u r ih =>
      intro k t v hk h
      rw [initS, look_cons]
      by_cases e : k = t
      · subst e; simp at h; rw [if_pos rfl, h]
      · rw [if_neg e]
        refine ih (k + 1) t v (by omega) ?_
        rw [show t - k = (t - (k + 1)) + 1 by omega] at h
        simpa using h
  intro t v hv
  obtain ⟨v', h3, h4⟩ := h.get (S.get_args hv)
  exact ⟨v', look_init vs' 0 t v' (Nat.zero_le _) (by simpa using h3), h4⟩
theorem setL_some : ∀ {L : List (Nat × Obj)} {i : Nat} {q : Nat × Obj} (p : Nat × Obj), L[i]? = some q → setL L i p = some (L.set i p)
  | [], i, q, p, h => by simp at h
  | x :: r, 0, q, p, h => rfl
  | x :: r, i + 1, q, p, h => by
    simp only [List.getElem?_cons_succ] at h
    simp [setL, setL_some p h]
theorem WC_nodup {c : Cx} {code : Code} {K : Exit → St → Prop} {σ : St} (h : WC c code (fun e σ' => (σ'.L.map Prod.fst).Nodup → K e σ') σ) : WC c code K σ := fun a w ha =>
  Go.wpIn_mono (h a w ha) fun e a' w' hl => by
    obtain ⟨σ', h1, h2⟩ := hl; exact ⟨σ', h1, h2 h1.mem.nodup⟩
theorem FnD_nodup {P : Program} {f : FuncId} {args : List Value} {L : List (Nat × Obj)} {u : FrameMode} {R : FrameMode → List (Nat × Obj) → Prop} (h : FnD P f args L u fun u' L' => (L'.map Prod.fst).Nodup → R u' L') : FnD P f args L u R := fun g w n hm =>
  (h g w n hm).mono fun _ _ _ ⟨v, L', h1, h2, h3⟩ => ⟨v, L', h1, h2, h3 h2.nodup⟩
theorem FnD.mono {P : Program} {f : FuncId} {args : List Value} {L : List (Nat × Obj)} {u : FrameMode} {R R' : FrameMode → List (Nat × Obj) → Prop} (h : FnD P f args L u R) (hr : ∀ u' L', R u' L' → R' u' L') : FnD P f args L u R' := fun g w n hm =>
  (CallsDIn.mono (h g w n hm) fun _ u' _ ⟨v, L', h1, h2, h3⟩ => ⟨v, L', h1, h2, hr u' L' h3⟩)
theorem RM.mono {bs : Bs} (r : Bs) {m : Option V} {u : FrameMode} (h : RM bs m u) : RM (bs ++ r) m u := by
  cases m with
  | none => exact h
  | some v => obtain ⟨v', h1, h2⟩ := h; exact ⟨v', h1, h2.mono r⟩
theorem RM.ne {bs : Bs} {m : Option V} {u : FrameMode} (h : RM bs m u) : u ≠ .run := by
  cases m with
  | none => rw [show u = .returning from h]; simp
  | some v => obtain ⟨v', h1, h2⟩ := h; rw [h1]; simp
theorem leaveX_ok {c : Cx} {call : CallF} (hcall : CallOk c.P call) {fn : Func} {Rr Rp : Value → List (Nat × Obj) → Prop} : ∀ (ks : List DI) {bs : Bs} {s : S} {Hp H3 : H} {M F : List (Nat × Obj)} {σs : List (Nat × Value)} {D : List Deferred} {m m2 : Option V} {u : FrameMode}, CovS bs s σs → HCov bs Hp M → ((M ++ F).map Prod.fst).Nodup → RD bs ks D → RM bs m u → leaveX call ks m Hp = some (m2, H3) →
    (∀ r M' u', CovS (bs ++ r) s σs → HCov (bs ++ r) H3 M' → RM (bs ++ r) m2 u' → (∀ k ∈ Hp.log, k ∈ H3.log) → (∀ W B, (∀ k ∈ H3.log, k ∈ W) → Prot bs Hp M W B → Prot (bs ++ r) H3 M' W B) → LeavS c fn σs Rr Rp [] u' (M' ++ F)) → LeavS c fn σs Rr Rp D u (M ++ F)
  | [], bs, s, Hp, H3, M, F, σs, D, m, m2, u, hs, hm, hn, hD, hu, h, hk => by
    cases h; cases hD
    exact hk [] M u (by simpa using hs) (by simpa using hm) (by simpa using hu) (fun _ h => h) (fun _ _ _ h => by simpa using h)
  | .mark k :: ks, bs, s, Hp, H3, M, F, σs, D, m, m2, u, hs, hm, hn, ⟨b, x, y, D', e1, e2, e3⟩, hu, h, hk => by
    subst e2
    simp only [leaveX] at h
    split at h
    · rename_i hg
      obtain ⟨b', base, av, i, o', a1, a2, a3⟩ := hm.at_ k _ hg
      rw [e1] at a1; cases a1
      cases a3
      have hi : (M ++ F)[i]? = some (b, .deferred (some [])) := by
        rw [List.getElem?_append_left (List.getElem?_eq_some_iff.1 a2).1]; exact a2
      have hcov : Cov bs s ⟨Hp.h, Hp.n, Hp.log, []⟩ M F ⟨σs, [], M ++ F⟩ := ⟨hs, rfl, ⟨hm.n, hm.at_, hm.inj⟩, rfl⟩
      have hu2 := Post_upd (s2 := s) (σ' := ⟨σs, [], (M ++ F).set i (b, .deferred none)⟩) (ob2 := .gone) hcov hn hg e1 a2 trivial hs rfl rfl
      obtain ⟨r, M1, f1, f2, f3, f4, f5, f6⟩ := hu2
      have f4' : HCov (bs ++ r) (Hp.upd k .gone) M1 := ⟨f4.n, f4.at_, f4.inj⟩
      have f2' : (M ++ F).set i (b, .deferred none) = M1 ++ F := f2
      have hn2 : ((M1 ++ F).map Prod.fst).Nodup := by rw [← f2']; exact nodup_set hn hi _
      refine ⟨hu.ne, .inl ⟨b, i, M1 ++ F, rfl, hi, by rw [← f2']; exact setL_some _ hi, ?_⟩⟩
      refine leaveX_ok hcall ks f3 f4' hn2 (e3.mono r) (hu.mono r) h fun r2 M2 u2 g1 g2 g3 g4 g5 => ?_
      rw [List.append_assoc] at g1 g2 g3 g5
      refine hk (r ++ r2) M2 u2 g1 g2 g3 (fun k hk => g4 k (List.mem_cons_of_mem _ hk)) fun W B hW hB => ?_
      refine g5 W B hW ?_
      have := f6 W B (fun k hk => hW k (g4 k hk)) (by simpa [Prot] using hB)
      exact fun q hq => this q hq
    · cases h
  | .call f A B :: ks, bs, s, Hp, H3, M, F, σs, D, m, m2, u, hs, hm, hn, ⟨A', B', D', e1, e2, e3, e4⟩, hu, h, hk => by
    subst e3
    simp only [leaveX] at h
    split at h
    · rename_i m3 H4 hd
      have hfc := hcall.dc _ _ _ _ _ _ hd
      have hD := hcall.dn _ _ _ _ _ _ hd bs M F (A' ++ B') u hm (e1.append e2) hu
      refine ⟨hu.ne, .inr ⟨f, A'.toArray, B'.toArray, rfl, hfc, FnD_nodup (FnD.mono (by simpa using hD) ?_)⟩⟩
      rintro u' L' ⟨r, M1, rfl, f2, f3, f4, f5, f6⟩ hn2
      refine leaveX_ok hcall ks (hs.mono r) f3 hn2 (e4.mono r) f2 h fun r2 M2 u2 g1 g2 g3 g4 g5 => ?_
      rw [List.append_assoc] at g1 g2 g3 g5
      exact hk (r ++ r2) M2 u2 g1 g2 g3 (fun k hk => g4 k (f5 k hk)) fun W B hW hB => g5 W B hW (f6 W B (fun k hk => hW k (g4 k hk)) hB)
    · cases h
theorem covS_zip {bs : Bs} : ∀ {ps : List Nat} {vs : List V} {vs' : List Value} {s : S} {σs : List (Nat × Value)}, CovS bs s σs → RVs bs vs vs' → CovS bs (zipX ps vs s) (zipS ps vs' σs)
  | [], _, _, _, _, h, _ => by simpa [zipX, zipS] using h
  | _ :: _, [], _, _, _, h, hv => by cases hv; simpa [zipX, zipS] using h
  | p :: ps, v :: vs, _, s, σs, h, .cons h1 h2 => by
    simp only [zipX, zipS]
    exact covS_zip (h.put h1) h2
theorem roundX_ok {bs : Bs} {k : Nat} {ds0 : List DI} {e : EX} {H4 H5 : H} {v : V} {M F : List (Nat × Obj)} {g w : World} {l x y : Nat} {P : Program} (hk : bs[k]? = some (l, x, y)) (hm : HCov bs H4 M) (hmem : Mem g (M ++ F) w) (h : roundX k ds0 e H4 = some (v, H5)) :
    ∃ jump, (e = .normal ∧ jump = none ∨ e = .ret ∧ jump = some .ret ∨ ∃ id, e = .exit id ∧ jump = some (.exit id)) ∧ ∃ w6, (Instr.endRound l jump).run P w = .ok (.bool jump.isNone) w6 ∧ ∃ L', Mem g L' w6 ∧ FPost bs ⟨H4.h, H4.n, H4.log, ds0⟩ M F v H5 (.bool jump.isNone) L' := by
  unfold roundX at h
  split at h
  · rename_i cl hg
    obtain ⟨l', x1, x2, i, o', a1, a2, rec, σs, rfl, a3, a4, a5, a6, a7, a8, a9⟩ := hm.at_ _ _ hg
    rw [hk] at a1; cases a1
    have hi : (M ++ F)[i]? = some (l, .loop rec) := by rw [List.getElem?_append_left (List.getElem?_eq_some_iff.1 a2).1]; exact a2
    have main : ∀ (jump : Option Code) (st : LSt), (∀ r : Loop, r.state = (if jump.isNone then .ready else .done) → r.pending = jump → st.fits r) →
        ∃ w6, (Instr.endRound l jump).run P w = .ok (.bool jump.isNone) w6 ∧ ∃ L', Mem g L' w6 ∧ FPost bs ⟨H4.h, H4.n, H4.log, ds0⟩ M F (.bool jump.isNone) ⟨H4.h.set k (.loop cl st), H4.n, k :: H4.log, ds0⟩ (.bool jump.isNone) L' := by
      intro jump st hst
      have h1 := run_endRound (P := P) jump (hmem.at_ hi)
      have h2 := hmem.putObj hi (.loop { rec with state := if jump.isNone then .ready else .done, pending := jump })
      refine ⟨_, h1, _, h2, ?_⟩
      have hcov : Cov bs ⟨[], [], 0⟩ ⟨H4.h, H4.n, H4.log, []⟩ M F ⟨[], [], M ++ F⟩ := ⟨covS_none, rfl, ⟨hm.n, hm.at_, hm.inj⟩, rfl⟩
      have hu := Post_upd (s2 := ⟨[], [], 0⟩) (σ' := ⟨[], [], (M ++ F).set i (l, .loop { rec with state := if jump.isNone then .ready else .done, pending := jump })⟩) (ob2 := .loop cl st) hcov hmem.nodup hg hk a2 ⟨{ rec with state := if jump.isNone then .ready else .done, pending := jump }, σs, rfl, a3, a4, a5, a6, a7, a8, hst _ rfl rfl⟩ covS_none rfl rfl
      obtain ⟨r, M1, f1, f2, f3, f4, f5, f6⟩ := hu
      refine ⟨r, M1, f2, .bool _, ⟨f4.n, f4.at_, f4.inj⟩, rfl, f5, fun W B hW hB => ?_⟩
      have := f6 W B hW (by simpa [Prot] using hB)
      exact fun q hq => this q hq
    split at h
    · cases h
      obtain ⟨w6, h1, h2⟩ := main none .ready (fun r h1 h2 => ⟨h1, h2⟩)
      exact ⟨none, .inl ⟨rfl, rfl⟩, w6, h1, h2⟩
    · cases h
      obtain ⟨w6, h1, h2⟩ := main (some .ret) (.done .ret) (fun r h1 h2 => ⟨h1, h2⟩)
      exact ⟨some .ret, .inr (.inl ⟨rfl, rfl⟩), w6, h1, h2⟩
    · rename_i id
      cases h
      obtain ⟨w6, h1, h2⟩ := main (some (.exit id)) (.done (.exit id)) (fun r h1 h2 => ⟨h1, h2⟩)
      exact ⟨some (.exit id), .inr (.inr ⟨id, rfl, rfl⟩), w6, h1, h2⟩
    · cases h
  · cases h
theorem FPost.comp {bs r : Bs} {Hp H1 : H} {M M1 F : List (Nat × Obj)} {v : V} {H2 : H} {v' : Value} {L' : List (Nat × Obj)} (hl : ∀ k ∈ Hp.log, k ∈ H1.log) (hp : ∀ W B, (∀ k ∈ H1.log, k ∈ W) → Prot bs Hp M W B → Prot (bs ++ r) H1 M1 W B) (hd : H1.ds = Hp.ds) (h : FPost (bs ++ r) H1 M1 F v H2 v' L') : FPost bs Hp M F v H2 v' L' := by
  obtain ⟨r2, M2, f1, f2, f3, fd, f5, f6⟩ := h
  exact ⟨r ++ r2, M2, f1, by rw [← List.append_assoc]; exact f2, by rw [← List.append_assoc]; exact f3, fd.trans hd, fun k hk => f5 k (hl k hk), fun W B hW hB => by
    rw [← List.append_assoc]; exact f6 W B hW (hp W B (fun k hk => hW k (f5 k hk)) hB)⟩
theorem yieldX_ok {P : Program} {call : CallF} {lf : Nat} (hcall : CallOk P call) (hmix : P.follows .mixedOrders = true) {k : Nat} {vs : List V} {Hp : H} {v : V} {H2 : H} (h : yieldX P call lf k vs Hp = some (v, H2)) {bs : Bs} {M F : List (Nat × Obj)} {vs' : List Value} {l x y : Nat} (hm : HCov bs Hp M) (hk : bs[k]? = some (l, x, y)) (hvs : RVs bs vs vs') : YieldFn P l vs' (M ++ F) (FPost bs Hp M F v H2) := by
  unfold yieldX at h
  split at h
  · rename_i cl hg
    split at h
    · rename_i c1 c2 c3 c4
      split at h
      · rename_i s2 H3 hcode
        split at h
        · rename_i cl2 hg2
          split at h
          · rename_i e s4 H4 hcode2
            intro g w n hmem
            obtain ⟨l', x1, x2, i, o', a1, a2, rec, σs, rfl, a3, a4, a5, a6, a7, a8, a9⟩ := hm.at_ _ _ hg
            rw [hk] at a1; cases a1
            have hi : (M ++ F)[i]? = some (l, .loop rec) := by rw [List.getElem?_append_left (List.getElem?_eq_some_iff.1 a2).1]; exact a2
            have hlen := Nat.eq_of_beq_eq_true c1
            have hvl := hvs.length
            have hy := run_yield (P := P) (w := w) (args := vs'.toArray) (hmem.at_ hi) (by rw [a3]; simp; omega)
            refine ⟨rec.fn, _, rec.assign, rec.body, hy, roundIn_of_wpIn trivial ?_⟩
            have hz := holds_zip (g := g) (w := w) (N := cl.N) (D := []) (L := M ++ F) cl.ps vs' σs { tmps := rec.tmps, defers := [] } (psOk_ok c2) ⟨a6, a8, rfl, hmem⟩
            have e2 : (cl.ps.zip vs').foldl (fun t (q : Nat × Value) => t.setIfInBounds q.1 q.2) rec.tmps = (rec.params.zip vs'.toArray).foldl (fun tmps (q : Nat × Value) => tmps.setIfInBounds q.1 q.2) rec.tmps := by
              rw [a3, ← Array.foldl_toList, Array.toList_zip]
            simp only [e2] at hz
            rw [a4, a5]
            have hcov0 : Cov bs (zipX cl.ps vs cl.s) ⟨Hp.h, Hp.n, Hp.log, []⟩ M F ⟨zipS cl.ps vs' σs, [], M ++ F⟩ := ⟨covS_zip a7 hvs, rfl, ⟨hm.n, hm.at_, hm.inj⟩, rfl⟩
            have hwp := codeX_ok (c := ⟨P, g, cl.N, n, some l⟩) hcall hmix (fun h => by cases h) cl.assign c3 hcov0 hcode
            refine Go.wpIn_mono (hwp _ w hz) (fun e' a10 w3 hl3 => ?_)
            cases e' with
            | panic ch => obtain ⟨_, _, h, _⟩ := hl3; cases h
            | ret => obtain ⟨_, _, h, _⟩ := hl3; cases h
            | exit id => obtain ⟨_, _, h, _⟩ := hl3; cases h
            | goto t => obtain ⟨_, _, h, _⟩ := hl3; cases h
            | outgrown => obtain ⟨_, _, h, _⟩ := hl3; cases h
            | normal =>
              obtain ⟨σ', hH, _, hpost⟩ := hl3
              obtain ⟨r1, M1, hcov1, hlog1, hprot1, _⟩ := hpost.split
              obtain ⟨l2, y1, y2, i2, o2, b1, b2, rec2, σs2, rfl, b3, b4, b5, b6, b7, b8, b9⟩ := hcov1.mem.at_ _ _ hg2
              rw [bs_mono hk] at b1; cases b1
              have hi2 : σ'.L[i2]? = some (l, .loop rec2) := by rw [hcov1.L, List.getElem?_append_left (List.getElem?_eq_some_iff.1 b2).1]; exact b2
              have hb := run_beginRound (P := P) (hH.mem.at_ hi2) b9.1
              refine ⟨_, hb, ?_⟩
              have hm4 := hH.mem.putObj hi2 (.loop { rec2 with state := .busy })
              have hu := Post_upd (s2 := s2) (σ' := ⟨σ'.s, σ'.D, σ'.L.set i2 (l, .loop { rec2 with state := .busy })⟩) (ob2 := .loop cl2 .busy) hcov1 hH.mem.nodup hg2 (bs_mono hk) b2 ⟨{ rec2 with state := .busy }, σs2, rfl, b3, b4, b5, b6, b7, b8, rfl⟩ hcov1.slots rfl rfl
              obtain ⟨r2, M2, hcov2, hlog2, hprot2, _⟩ := hu.split
              have hH4 : Holds g cl.N ⟨σ'.s, σ'.D, σ'.L.set i2 (l, .loop { rec2 with state := .busy })⟩ a10 (w3.putObj l (.loop { rec2 with state := .busy })) := ⟨hH.size, hH.slots, hH.defers, hm4⟩
              have hwp2 := codeX_ok (c := ⟨P, g, cl.N, n, some l⟩) hcall hmix (fun h => by cases h) cl.body c4 hcov2 hcode2
              refine Go.wpIn_mono (hwp2 _ _ hH4) (fun e5 a5' w5 hl5 => ?_)
              have last : ∀ (σ5 : St), Holds g cl.N σ5 a5' w5 → Post (bs ++ r1 ++ r2) (H3.upd k (.loop cl2 .busy)) M2 F s4 H4 σ5 → ∃ jump, (e = .normal ∧ jump = none ∨ e = .ret ∧ jump = some .ret ∨ ∃ id, e = .exit id ∧ jump = some (.exit id)) ∧ ∃ w6, (Instr.endRound l jump).run P w5 = .ok (.bool jump.isNone) w6 ∧ ∃ L', Mem g L' w6 ∧ FPost bs Hp M F v H2 (.bool jump.isNone) L' := by
                intro σ5 hH5 hp5
                obtain ⟨r3, M3, hcov3, hlog3, hprot3, _⟩ := hp5.split
                have hmem5 := hH5.mem
                rw [hcov3.L] at hmem5
                obtain ⟨jump, k1, w6, k2, L', k3, k4⟩ := roundX_ok (bs_mono (bs_mono (bs_mono hk))) hcov3.mem hmem5 h
                refine ⟨jump, k1, w6, k2, L', k3, ?_⟩
                refine FPost.comp (r := r1) (H1 := ⟨H3.h, H3.n, H3.log, Hp.ds⟩) (M1 := M1) hlog1 (fun W B hW hB => ?_) rfl ?_
                · exact fun q hq => hprot1 W B hW (by simpa [Prot] using hB) q hq
                refine FPost.comp (r := r2) (H1 := ⟨(H3.upd k (.loop cl2 .busy)).h, H3.n, k :: H3.log, Hp.ds⟩) (M1 := M2) hlog2 (fun W B hW hB => ?_) rfl ?_
                · exact fun q hq => hprot2 W B hW (by simpa [Prot] using hB) q hq
                refine FPost.comp (r := r3) (H1 := ⟨H4.h, H4.n, H4.log, Hp.ds⟩) (M1 := M3) hlog3 (fun W B hW hB => ?_) rfl k4
                exact fun q hq => hprot3 W B hW (by simpa [Prot] using hB) q hq
              have hl5 : ∃ σ5, Holds g cl.N σ5 a5' w5 ∧ e5 = e.to ∧ Post (bs ++ r1 ++ r2) (H3.upd k (.loop cl2 .busy)) M2 F s4 H4 σ5 := by
                obtain ⟨σ5, h1, h2⟩ := hl5
                cases e with
                | panic v => exfalso; unfold roundX at h; split at h <;> cases h
                | normal => exact ⟨σ5, h1, h2⟩
                | ret => exact ⟨σ5, h1, h2⟩
                | exit id => exact ⟨σ5, h1, h2⟩
              cases e5 with
              | panic ch => obtain ⟨_, _, h, _⟩ := hl5; cases e <;> cases h
              | goto t => obtain ⟨_, _, h, _⟩ := hl5; cases e <;> cases h
              | outgrown => obtain ⟨_, _, h, _⟩ := hl5; cases e <;> cases h
              | normal =>
                obtain ⟨σ5, hH5, he, hp5⟩ := hl5
                obtain ⟨jump, ⟨_, rfl⟩ | ⟨rfl, _⟩ | ⟨id, rfl, _⟩, w6, k2, L', k3, k4⟩ := last σ5 hH5 hp5
                · exact ⟨_, w6, k2, _, L', rfl, k3, k4⟩
                · cases he
                · cases he
              | ret =>
                obtain ⟨σ5, hH5, he, hp5⟩ := hl5
                obtain ⟨jump, ⟨rfl, _⟩ | ⟨_, rfl⟩ | ⟨id, rfl, _⟩, w6, k2, L', k3, k4⟩ := last σ5 hH5 hp5
                · cases he
                · exact ⟨_, w6, k2, _, L', rfl, k3, k4⟩
                · cases he
              | exit id' =>
                obtain ⟨σ5, hH5, he, hp5⟩ := hl5
                obtain ⟨jump, ⟨rfl, _⟩ | ⟨rfl, _⟩ | ⟨id, rfl, rfl⟩, w6, k2, L', k3, k4⟩ := last σ5 hH5 hp5
                · cases he
                · cases he
                · cases he
                  exact ⟨_, w6, k2, _, L', rfl, k3, k4⟩
          · cases h
        · cases h
      · cases h
    · cases h
  · cases h
def tupV : List V → V
  | [v] => v
  | l => .tup l
theorem RM.ret {bs : Bs} : RM bs none .returning := rfl
theorem RM.pan {bs : Bs} {v : V} {v' : Value} (h : RV bs v v') : RM bs (some v) (.panicking (Go.Proofs.YtgimodceldoniaaGreatDoor.pan v')) := ⟨v', rfl, h⟩
theorem resX_res {P : Program} {g : World} {N n : Nat} {fn : Func} {bs : Bs} {s : S} {Hp : H} {M F : List (Nat × Obj)} {σs : List (Nat × Value)} {l : List V} (hs : CovS bs s σs) (hm : HCov bs Hp M) (hr : resX P s Hp.h fn.results.toList = some l) : ∃ v', Res ⟨P, g, N, n, none⟩ fn ⟨σs, [], M ++ F⟩ v' ∧ RV bs (tupV l) v' := by
  have hcov : Cov bs s ⟨Hp.h, Hp.n, Hp.log, []⟩ M F ⟨σs, [], M ++ F⟩ := ⟨hs, rfl, ⟨hm.n, hm.at_, hm.inj⟩, rfl⟩
  obtain ⟨l', h1, h2⟩ := resX_ok (c := ⟨P, g, N, n, none⟩) hcov hr
  refine ⟨(if h : l'.toArray.size = 1 then l'.toArray[0] else .tuple l'.toArray), fun a w ha => ?_, ?_⟩
  · have h3 := h2 a w ha
    rw [results_eq, Array.mapM_eq_mapM_toList]
    simp [h3]
  · match l, l', h1 with
    | [], [], h1 => simpa [tupV] using RV.tup h1
    | [u], [u'], .cons h1 _ => simpa [tupV] using h1
    | a :: b :: l, a' :: b' :: l', h1 => simpa [tupV] using RV.tup h1
theorem goneX_ok {P : Program} {g : World} {N : Nat} {call : CallF} (hcall : CallOk P call) {x : XF} {bs : Bs} {s2 : S} {Hp H1 H2 : H} {M F : List (Nat × Obj)} {σ' : St} {m : Option V} {u : FrameMode} {o : FR} (hnod : (σ'.L.map Prod.fst).Nodup)
    (hp : ∃ (r : Bs) (M' : List (Nat × Obj)), RD (bs ++ r) H1.ds σ'.D ∧ σ'.L = M' ++ F ∧ CovS (bs ++ r) s2 σ'.s ∧ HCov (bs ++ r) H1 M' ∧ (∀ k ∈ Hp.log, k ∈ H1.log) ∧ (∀ W B, (∀ k ∈ H1.log, k ∈ W) → Prot bs ⟨Hp.h, Hp.n, Hp.log, []⟩ M W B → Prot (bs ++ r) H1 M' W B) ∧ RM (bs ++ r) m u)
    (h : goneX P call x Hp.ds s2 H1 m = some (o, H2)) : LeavS ⟨P, g, N, 0, none⟩ x.fn σ'.s (fun v' L' => ∃ v, o = .ret v ∧ FPost bs Hp M F v H2 v' L') (fun v' L' => ∃ v, o = .pan v ∧ FPost bs Hp M F v H2 v' L') σ'.D u σ'.L := by
  obtain ⟨r, M', f1, f2, f3, f4, f5, f6, f7⟩ := hp
  unfold goneX at h
  split at h
  · rename_i m2 H3 hl
    rw [f2] at hnod ⊢
    refine leaveX_ok (c := ⟨P, g, N, 0, none⟩) hcall H1.ds f3 f4 hnod f1 f7 hl fun r2 M2 u2 g1 g2 g3 g4 g5 => ?_
    have fp : ∀ {v : V} {v' : Value}, RV (bs ++ r ++ r2) v v' → FPost bs Hp M F v ⟨H3.h, H3.n, H3.log, Hp.ds⟩ v' (M2 ++ F) := fun {v v'} hv => by
      rw [List.append_assoc] at hv g2 g5
      refine ⟨r ++ r2, M2, rfl, hv, ⟨g2.n, g2.at_, g2.inj⟩, rfl, fun k hk => g4 k (f5 k hk), fun W B hW hB => ?_⟩
      have h5 := g5 W B hW (f6 W B (fun k hk => hW k (g4 k hk)) (by simpa [Prot] using hB))
      exact fun q hq => h5 q hq
    cases m2 with
    | none =>
      rw [show u2 = .returning from g3]
      simp only [retX] at h
      split at h
      · rename_i v hr
        cases h
        obtain ⟨v', h1, h2⟩ := resX_res (F := F) g1 g2 hr
        exact ⟨v', M2 ++ F, h1, .refl _, v, rfl, fp h2⟩
      · rename_i l hnl hr
        cases h
        obtain ⟨v', h1, h2⟩ := resX_res (F := F) g1 g2 hr
        refine ⟨v', M2 ++ F, h1, .refl _, _, rfl, fp ?_⟩
        match l, hnl, h2 with
        | [], _, h2 => exact h2
        | [u], h, _ => exact absurd rfl (h u)
        | _ :: _ :: _, _, h2 => exact h2
      · cases h
    | some v =>
      obtain ⟨v', h1, h2⟩ := g3
      rw [h1]
      simp only [retX] at h
      cases h
      exact ⟨v', rfl, v, rfl, fp h2⟩
  · cases h
theorem runF_ok {P : Program} {tab : T XF} {lf : Nat} {call : CallF} (hcall : CallOk P call) (hmix : P.follows .mixedOrders = true) (htab : ∀ f x, tab.get f = some x → GoodF P f x) {f : FuncId} {vs : List V} {Hp : H} {o : FR} {H2 : H} (h : runF P tab lf call f vs Hp = some (o, H2)) :
    FCall P f ∧ ∀ bs M F vs', HCov bs Hp M → RVs bs vs vs' → ∀ g w, Mem g (M ++ F) w → Calls P f vs'.toArray w (EndR g (fun v' L' => ∃ v, o = .ret v ∧ FPost bs Hp M F v H2 v' L') fun v' L' => ∃ v, o = .pan v ∧ FPost bs Hp M F v H2 v' L') := by
  unfold runF at h
  split at h
  · rename_i x hx
    have hg := htab f x hx
    split at h
    · rename_i hle
      refine ⟨hg.call, fun bs M F vs' hm hvs => ?_⟩
      have hlen := hvs.length
      have hle := Nat.le_of_ble_eq_true hle
      refine enterL hg.fn hg.body rfl (Nat.ble_eq_true_of_le (by omega)) fun g => WC_nodup ?_
      have hcov : Cov bs (S.ofArgs vs x.mask) ⟨Hp.h, Hp.n, Hp.log, []⟩ M F ⟨initS 0 vs', [], M ++ F⟩ := ⟨covS_row hvs, rfl, ⟨hm.n, hm.at_, hm.inj⟩, rfl⟩
      generalize hcode : codeX P call x.pt lf true x.fn.ntmps x.code (S.ofArgs vs x.mask) ⟨Hp.h, Hp.n, Hp.log, []⟩ = res at h
      cases res with
      | none => cases h
      | some q =>
        obtain ⟨e, s2, H1⟩ := q
        refine (codeX_ok (c := ⟨P, g, x.fn.ntmps, 0, none⟩) hcall hmix (fun _ => rfl) x.code hg.ok hcov hcode).mono fun e' σ' hd hnod => ?_
        cases e with
        | exit id => cases h
        | normal =>
          obtain ⟨rfl, r, M', f1, f2, f3, f4, f5, f6⟩ := hd
          exact goneX_ok hcall hnod ⟨r, M', f1, f2, f3, f4, f5, f6, RM.ret⟩ h
        | ret =>
          obtain ⟨rfl, r, M', f1, f2, f3, f4, f5, f6⟩ := hd
          exact goneX_ok hcall hnod ⟨r, M', f1, f2, f3, f4, f5, f6, RM.ret⟩ h
        | panic v =>
          obtain ⟨v', rfl, r, M', f1, f2, f3, f4, f5, f6, f7⟩ := hd
          exact goneX_ok hcall hnod ⟨r, M', f1, f2, f3, f4, f5, f6, RM.pan f7⟩ h
    · cases h
  · cases h
theorem endD_ok {P : Program} {g : World} {N n : Nat} {x : XF} {bs : Bs} {e : EX} {s2 : S} {Hp H1 H2 : H} {M F : List (Nat × Obj)} {e' : Exit} {σ' : St} {m m2 : Option V} {u' : FrameMode} (hu : ∀ r, RM (bs ++ r) m (settle u'))
    (hd : DoneK bs ⟨Hp.h, Hp.n, Hp.log, []⟩ M F e s2 H1 e' σ') (h : endD P x Hp.ds m (some (e, s2, H1)) = some (m2, H2)) : postK ⟨P, g, N, n, none⟩ x.fn (fun _ L' => DPost bs Hp M F m2 H2 u' L') e' σ' := by
  have done : Post bs ⟨Hp.h, Hp.n, Hp.log, []⟩ M F s2 H1 σ' → doneD P x Hp.ds m s2 H1 = some (m2, H2) → σ'.D = [] ∧ ∃ v Lx, Res ⟨P, g, N, n, none⟩ x.fn σ' v ∧ Lx.Sublist σ'.L ∧ DPost bs Hp M F m2 H2 u' Lx := by
    rintro ⟨r, M', f1, f2, f3, f4, f5, f6⟩ h
    unfold doneD at h
    split at h
    · rename_i l hds hr
      cases h
      rw [hds] at f1
      obtain ⟨v', h1, _⟩ := resX_res (P := P) (g := g) (N := N) (n := n) (F := F) f3 f4 hr
      have hD : σ'.D = [] := f1
      obtain ⟨σs, D, L⟩ := σ'
      cases hD
      have f2' : L = M' ++ F := f2
      subst f2'
      refine ⟨rfl, v', M' ++ F, h1, .refl _, r, M', rfl, hu r, ⟨f4.n, f4.at_, f4.inj⟩, rfl, f5, fun W B hW hB => ?_⟩
      have h5 := f6 W B hW (by simpa [Prot] using hB)
      exact fun q hq => h5 q hq
    · cases h
  cases e with
  | normal => obtain ⟨rfl, hp⟩ := hd; exact done hp h
  | ret => obtain ⟨rfl, hp⟩ := hd; exact done hp h
  | exit id => cases h
  | panic v => cases h
theorem recOf_ok {c : Code} {d : Option Nat} {more : List Oper} {rest : Code} (h : recOf c = some (d, more, rest)) : ∃ id o args tys, c = .seq (.region id (o :: more).toArray false) rest ∧ o.op = .call { callee := .builtin .recover, args := args, argTypes := tys } ∧ o.guard = none ∧ o.dst = d := by
  unfold recOf at h
  split at h
  · rename_i id ops rest'
    split at h
    · rename_i o more' hl
      split at h
      · rename_i cl ho hg
        obtain ⟨cal, args, tys⟩ := cl
        split at h
        · rename_i hc
          simp only at hc
          subst hc
          cases h
          obtain rfl : ops = (o :: more).toArray := by apply Array.ext'; simpa using hl
          exact ⟨id, o, args, tys, rfl, ho, hg, rfl⟩
        · cases h
      · cases h
    · cases h
  · cases h
theorem calmL_ok {c : Cx} {bs : Bs} {Hp : H} {M F : List (Nat × Obj)} (hm : HCov bs Hp M) : ∀ {l : List Oper} {s s2 : S} {σs : List (Nat × Value)}, (∀ o ∈ l, dok c.N o.dst = true) → CovS bs s σs → calmL c.P Hp.h l s = some s2 → ∃ σs2, QS c (M ++ F) l σs σs2 ∧ CovS bs s2 σs2
  | [], s, s2, σs, _, hs, h => by cases h; exact ⟨σs, rfl, hs⟩
  | o :: r, s, s2, σs, hd, hs, h => by
    simp only [calmL] at h
    split at h
    · rename_i v rd hg hc
      obtain ⟨v', h1, h2⟩ := calmX_ok (c := c) (Ls := M ++ F) (o := o) hc hs (fun k ob _ hk => by
        obtain ⟨b, base, av, i, o', a1, a2, a3⟩ := hm.at_ k ob hk
        exact ⟨b, base, av, i, o', a1, by rw [List.getElem?_append_left (List.getElem?_eq_some_iff.1 a2).1]; exact a2, a3⟩)
      obtain ⟨σs2, h3, h4⟩ := calmL_ok hm (fun o ho => hd o (List.mem_cons_of_mem _ ho)) (CovS.putD (σ := ⟨σs, [], []⟩) (d := o.dst) hs h2) h
      exact ⟨σs2, ⟨v', hg, hd o List.mem_cons_self, h1, h3⟩, h4⟩
    · cases h
theorem defF_ok {P : Program} {tab : T XF} {lf : Nat} {call : CallF} (hcall : CallOk P call) (hmix : P.follows .mixedOrders = true) (htab : ∀ f x, tab.get f = some x → GoodF P f x) {f : FuncId} {vs : List V} {m m2 : Option V} {Hp : H} {H2 : H} (h : defF P tab lf call f vs m Hp = some (m2, H2)) :
    FCall P f ∧ ∀ bs M F vs' u, HCov bs Hp M → RVs bs vs vs' → RM bs m u → FnD P f vs' (M ++ F) u (DPost bs Hp M F m2 H2) := by
  unfold defF at h
  split at h
  · rename_i x hx
    have hg := htab f x hx
    split at h
    · rename_i hle
      refine ⟨hg.call, fun bs M F vs' u hm hvs hu => ?_⟩
      have hlen := hvs.length
      have hle := Nat.le_of_ble_eq_true hle
      have hle' : Nat.ble vs'.length x.fn.ntmps = true := Nat.ble_eq_true_of_le (by omega)
      have hcov : Cov bs (S.ofArgs vs x.mask) ⟨Hp.h, Hp.n, Hp.log, []⟩ M F ⟨initS 0 vs', [], M ++ F⟩ := ⟨covS_row hvs, rfl, ⟨hm.n, hm.at_, hm.inj⟩, rfl⟩
      split at h
      · rename_i d more rest hrec
        split at h
        rotate_left
        · cases h
        rename_i sm hsm
        obtain ⟨id, o, args, tys, hcode, ho, hgu, hd⟩ := recOf_ok hrec
        have hok := hg.ok
        rw [hcode] at hok
        simp only [codeOk] at hok
        split at hok
        · rename_i hok1
          have hdall : ∀ o' ∈ o :: more, dok x.fn.ntmps o'.dst = true := by
            split at hok1
            · rename_i h1 _; exact fun o' ho' => dstOk_mem h1 o' (by simpa using ho')
            · rename_i hf; cases hf
            · cases hok1
          have hdok : dok x.fn.ntmps o.dst = true := hdall o List.mem_cons_self
          subst hd
          have hrv : ∃ rv u', Recov u rv u' ∧ RV bs (recV m) rv ∧ settle u' = .returning := by
            cases m with
            | none => rw [show u = .returning from hu]; exact ⟨.nilIface, .returning, ⟨rfl, rfl⟩, .nili, rfl⟩
            | some v => obtain ⟨v', h1, h2⟩ := hu; rw [h1]; exact ⟨v', _, ⟨rfl, rfl⟩, h2, rfl⟩
          obtain ⟨rv, u', h1, h2, h3⟩ := hrv
          generalize hrun : codeX P call x.pt lf true x.fn.ntmps rest sm ⟨Hp.h, Hp.n, Hp.log, []⟩ = res at h
          cases res with
          | none => cases h
          | some q =>
            obtain ⟨e, s2, H1⟩ := q
            refine FnD_recover hg.fn (hg.body.trans (by rw [hcode])) rfl hle' ho hgu hdok h1 fun g n => ?_
            obtain ⟨σs2, hqs, hcs⟩ := calmL_ok (c := ⟨P, g, x.fn.ntmps, n, none⟩) (F := F) hm (fun o' ho' => hdall o' (List.mem_cons_of_mem _ ho')) (CovS.putD (σ := ⟨initS 0 vs', [], M ++ F⟩) (d := o.dst) hcov.slots h2) hsm
            refine ⟨σs2, hqs, ?_⟩
            have hcov2 : Cov bs sm ⟨Hp.h, Hp.n, Hp.log, []⟩ M F ⟨σs2, [], M ++ F⟩ := ⟨hcs, rfl, hcov.mem, rfl⟩
            exact (codeX_ok (c := ⟨P, g, x.fn.ntmps, n, none⟩) hcall hmix (fun _ => rfl) rest hok hcov2 hrun).mono fun e' σ' hd => endD_ok (m := none) (fun r => h3) hd h
        · cases hok
      · generalize hrun : codeX P call x.pt lf true x.fn.ntmps x.code (S.ofArgs vs x.mask) ⟨Hp.h, Hp.n, Hp.log, []⟩ = res at h
        cases res with
        | none => cases h
        | some q =>
          obtain ⟨e, s2, H1⟩ := q
          refine FnD_enter hg.fn hg.body rfl hle' fun g n => ?_
          have hset : settle u = u := by
            cases m with
            | none => rw [show u = .returning from hu]; rfl
            | some v => obtain ⟨v', h1, h2⟩ := hu; rw [h1]; rfl
          exact (codeX_ok (c := ⟨P, g, x.fn.ntmps, n, none⟩) hcall hmix (fun _ => rfl) x.code hg.ok hcov hrun).mono fun e' σ' hd => endD_ok (fun r => by rw [hset]; exact hu.mono r) hd h
    · cases h
  · cases h
theorem leaveX_ext {P : Program} {call : CallF} (hcall : CallOk P call) : ∀ {l : List DI} {m : Option V} {Hp : H} {m2 : Option V} {H2 : H}, leaveX call l m Hp = some (m2, H2) → Ext Hp H2
  | [], _, _, _, _, h => by cases h; exact .refl _
  | .mark k :: r, m, Hp, m2, H2, h => by
    simp only [leaveX] at h
    split at h
    · exact (Ext.upd _ _ _).trans (leaveX_ext hcall h)
    · cases h
  | .call f A B :: r, m, Hp, m2, H2, h => by
    simp only [leaveX] at h
    split at h
    · rename_i h1; exact (hcall.dx _ _ _ _ _ _ h1).trans (leaveX_ext hcall h)
    · cases h
theorem goneX_ext {P : Program} {call : CallF} (hcall : CallOk P call) {x : XF} {ds0 : List DI} {s2 : S} {H1 H2 : H} {m : Option V} {o : FR} (h : goneX P call x ds0 s2 H1 m = some (o, H2)) : Ext H1 H2 := by
  unfold goneX at h
  split at h
  · rename_i m2 H3 hl
    have h1 := leaveX_ext hcall hl
    cases m2 with
    | none =>
      simp only [retX] at h
      split at h
      · cases h; exact h1.ds
      · cases h; exact h1.ds
      · cases h
    | some v => simp only [retX] at h; cases h; exact h1.ds
  · cases h
theorem runF_ext {P : Program} {tab : T XF} {lf : Nat} {call : CallF} (hcall : CallOk P call) {f : FuncId} {vs : List V} {Hp : H} {o : FR} {H2 : H} (h : runF P tab lf call f vs Hp = some (o, H2)) : Ext Hp H2 := by
  unfold runF at h
  split at h
  · rename_i x hx
    split at h
    · generalize hcode : codeX P call x.pt lf true x.fn.ntmps x.code (S.ofArgs vs x.mask) ⟨Hp.h, Hp.n, Hp.log, []⟩ = res at h
      unfold endF at h
      have start : ∀ {e s2 H1}, res = some (e, s2, H1) → Ext Hp H1 := fun {e s2 H1} he => by
        have h1 := codeX_ext hcall x.code (hcode.trans he)
        exact ⟨h1.log, h1.n, h1.h⟩
      split at h
      · exact (start rfl).trans (goneX_ext hcall h)
      · exact (start rfl).trans (goneX_ext hcall h)
      · exact (start rfl).trans (goneX_ext hcall h)
      · cases h
    · cases h
  · cases h
theorem defF_ext {P : Program} {tab : T XF} {lf : Nat} {call : CallF} (hcall : CallOk P call) {f : FuncId} {vs : List V} {m m2 : Option V} {Hp : H} {H2 : H} (h : defF P tab lf call f vs m Hp = some (m2, H2)) : Ext Hp H2 := by
  have fin : ∀ {x : XF} {code : Code} {s : S} {m' : Option V}, endD P x Hp.ds m' (codeX P call x.pt lf true x.fn.ntmps code s ⟨Hp.h, Hp.n, Hp.log, []⟩) = some (m2, H2) → Ext Hp H2 := fun {x code s m'} h => by
    generalize hcode : codeX P call x.pt lf true x.fn.ntmps code s ⟨Hp.h, Hp.n, Hp.log, []⟩ = res at h
    have start : ∀ {e s2 H1}, res = some (e, s2, H1) → Ext Hp ⟨H1.h, H1.n, H1.log, Hp.ds⟩ := fun {e s2 H1} he => by
      have h1 := codeX_ext hcall code (hcode.trans he)
      exact ⟨h1.log, h1.n, h1.h⟩
    unfold endD at h
    split at h
    · unfold doneD at h
      split at h
      · cases h; exact start rfl
      · cases h
    · unfold doneD at h
      split at h
      · cases h; exact start rfl
      · cases h
    · cases h
  unfold defF at h
  split at h
  · split at h
    · split at h
      · split at h
        · exact fin h
        · cases h
      · exact fin h
    · cases h
  · cases h
theorem roundX_ext {k : Nat} {ds0 : List DI} {e : EX} {H4 H5 : H} {v : V} (h : roundX k ds0 e H4 = some (v, H5)) : Ext H4 H5 := by
  unfold roundX at h
  split at h
  · split at h
    · cases h; exact (Ext.upd H4 k _).ds
    · cases h; exact (Ext.upd H4 k _).ds
    · cases h; exact (Ext.upd H4 k _).ds
    · cases h
  · cases h
theorem yieldX_ext {P : Program} {call : CallF} {lf : Nat} (hcall : CallOk P call) {k : Nat} {vs : List V} {Hp : H} {v : V} {H2 : H} (h : yieldX P call lf k vs Hp = some (v, H2)) : Ext Hp H2 := by
  unfold yieldX at h
  split at h
  · rename_i cl hg
    split at h
    · split at h
      · rename_i s2 H3 hcode
        split at h
        · rename_i cl2 hg2
          split at h
          · rename_i e s4 H4 hcode2
            have h1 := codeX_ext hcall cl.assign hcode
            have h1' : Ext Hp H3 := ⟨h1.log, h1.n, h1.h⟩
            exact ((h1'.trans (Ext.upd _ _ _)).trans (codeX_ext hcall cl.body hcode2)).trans (roundX_ext h)
          · cases h
        · cases h
      · cases h
    · cases h
  · cases h
theorem retO_some {x : Option (FR × H)} {v : V} {H2 : H} (h : retO x = some (v, H2)) : x = some (.ret v, H2) := by
  unfold retO at h
  split at h
  · cases h; rfl
  · cases h
theorem panO_some {x : Option (FR × H)} {v : V} {H2 : H} (h : panO x = some (v, H2)) : x = some (.pan v, H2) := by
  unfold panO at h
  split at h
  · cases h; rfl
  · cases h
theorem funX_ok {P : Program} {tab : T XF} {lf : Nat} {pr : PrimF} (hpr : PrimOk P pr) (hmix : P.follows .mixedOrders = true) (htab : ∀ f x, tab.get f = some x → GoodF P f x) : ∀ n, CallOk P (funX P tab lf pr n)
  | 0 => ⟨fun _ _ _ _ _ h => (by cases h), fun _ _ _ _ _ h => (by cases h), fun _ _ _ _ _ h => (by cases h), fun _ _ _ _ _ _ h => (by cases h), fun _ _ _ _ _ h => (by cases h), fun _ _ _ _ _ h => (by cases h), fun _ _ _ _ _ _ h => (by cases h), fun _ _ _ _ _ _ h => (by cases h), fun _ _ _ _ _ h => (by cases h), fun _ _ _ _ _ h => (by cases h), fun _ _ _ _ _ h => (by cases h)⟩
  | n + 1 => by
    have ih := funX_ok (lf := lf) hpr hmix htab n
    have pick : ∀ {a b : Option (V × H)} {v : V} {H2 : H}, primO a b = some (v, H2) → a = some (v, H2) ∨ b = some (v, H2) := fun {a b v H2} h => by
      cases a with
      | none => exact .inr h
      | some r => exact .inl h
    refine ⟨fun f vs Hp v H2 h => (pick h).elim (hpr.x _ _ _ _ _) (fun h => runF_ext ih (retO_some h)), fun k vs Hp v H2 h => yieldX_ext ih h, fun f vs Hp v H2 h => runF_ext ih (panO_some h), fun f vs m Hp m2 H2 h => defF_ext ih h, fun f vs Hp v H2 h => (runF_ok ih hmix htab (panO_some h)).1, fun f vs Hp v H2 h bs M F vs' hm hvs g w hmem => ?_, fun f vs m Hp m2 H2 h => (defF_ok ih hmix htab h).1, fun f vs m Hp m2 H2 h bs M F vs' u hm hvs hu => (defF_ok ih hmix htab h).2 bs M F vs' u hm hvs hu,
      fun f vs Hp v H2 h => (pick h).elim (hpr.c _ _ _ _ _) (fun h => (runF_ok ih hmix htab (retO_some h)).1), fun f vs Hp v H2 h bs M F vs' hm hvs g w hmem => ?_, fun k vs Hp v H2 h bs M F vs' l x y hm hk hvs => yieldX_ok ih hmix h hm hk hvs⟩
    · refine ((runF_ok ih hmix htab (panO_some h)).2 bs M F vs' hm hvs g w hmem).mono fun e w' hend => ?_
      rcases hend with ⟨v', L', h1, h2, v2, h3, h4⟩ | ⟨v', L', h1, h2, v2, h3, h4⟩
      · cases h3
      · cases h3; exact ⟨v', L', h1, h2, h4⟩
    · rcases pick h with h | h
      · exact hpr.n _ _ _ _ _ h bs M F vs' hm hvs g w hmem
      · refine ((runF_ok ih hmix htab (retO_some h)).2 bs M F vs' hm hvs g w hmem).mono fun e w' hend => ?_
        rcases hend with ⟨v', L', h1, h2, v2, h3, h4⟩ | ⟨v', L', h1, h2, v2, h3, h4⟩
        · cases h3; exact ⟨v', L', h1, h2, h4⟩
        · cases h3
def trueG (P : Program) (tab : T XF) (lf : Nat) (pr : PrimF) (H0 : H) (n : Nat) (f : FuncId) : Bool := match (funX P tab lf pr n).f f [] H0 with
  | some (.bool true, H2) => match memB 0 H2.log with
    | true => false
    | false => true
  | _ => false
theorem runG {P : Program} {tab : T XF} {lf n : Nat} {pr : PrimF} {f : FuncId} {bs0 : Bs} {H0 : H} {M0 : List (Nat × Obj)} (hpr : PrimOk P pr) (hmix : P.follows .mixedOrders = true) (htab : ∀ f x, tab.get f = some x → GoodF P f x) (hm0 : HCov bs0 H0 M0) (hk0 : ∀ k o, H0.h.get k = some o → k = 0) (h : trueG P tab lf pr H0 n f = true) (F : List (Nat × Obj)) : Fn P f [] (M0 ++ F) (fun v L' => v = .bool true ∧ L' = M0 ++ F) := fun g w hm => by
  unfold trueG at h
  split at h
  · rename_i H2 h1
    split at h
    · cases h
    · rename_i hlog
      have h2 := (funX_ok hpr hmix htab n).fn _ _ _ _ _ h1 bs0 M0 F [] hm0 .nil
      refine (h2 g w hm).mono fun e w' ⟨v, L', e1, e2, r, M', e3, e4, e5, e6, e7, e8⟩ => ?_
      cases e4
      subst e3
      have hp := e8 H2.log M0 (fun _ h => h) (fun q hq => ⟨hq, fun j o x y hj _ hw => by
        rw [hk0 j o hj] at hw
        exact memB_no hlog hw⟩)
      refine ⟨.bool true, M0 ++ F, e1, e2.sub hm.nodup (fun q hq => ?_), rfl, rfl⟩
      rcases List.mem_append.1 hq with hq | hq
      · exact List.mem_append_left _ (hp q hq).1
      · exact List.mem_append_right _ hq
  · cases h
theorem runD {P : Program} {tab : T XF} {lf n : Nat} {pr : PrimF} {f : FuncId} {bs0 : Bs} {H0 : H} {q : Nat × Obj} {L : List (Nat × Obj)} (hpr : PrimOk P pr) (hmix : P.follows .mixedOrders = true) (htab : ∀ f x, tab.get f = some x → GoodF P f x) (hm0 : HCov bs0 H0 [q]) (hk0 : ∀ k o, H0.h.get k = some o → k = 0) (h : trueG P tab lf pr H0 n f = true) (hq : q ∈ L) : Fn P f [] L (fun v L' => v = .bool true ∧ L' = L) := fun g w hm => by
  obtain ⟨A, B, rfl⟩ := List.append_of_mem hq
  have hm2 : Mem g ([q] ++ (A ++ B)) w := hm.sub (by
    have h1 := hm.nodup
    rw [List.map_append, List.map_cons] at h1
    have h2 := (List.perm_middle (a := q.1) (l₁ := A.map Prod.fst) (l₂ := B.map Prod.fst)).nodup_iff.1 h1
    simpa using h2) (fun p hp => by
    simp only [List.mem_append, List.mem_cons] at hp ⊢
    rcases hp with (rfl | h) | h | h
    · exact .inr (.inl rfl)
    · cases h
    · exact .inl h
    · exact .inr (.inr h))
  refine (runG hpr hmix htab hm0 hk0 h (A ++ B) g w hm2).mono fun e w' ⟨v, L', e1, e2, e3, e4⟩ => ?_
  subst e4
  refine ⟨v, A ++ q :: B, e1, e2.sub hm.nodup (fun p hp => ?_), e3, rfl⟩
  simp only [List.mem_append, List.mem_cons] at hp ⊢
  rcases hp with h | rfl | h
  · exact .inr (.inl h)
  · exact .inl (.inl rfl)
  · exact .inr (.inr h)
end
end Go.Proofs.YtgimodceldoniaaGreatDoor
namespace Go.Proofs.YtgimodceldoniaaGreatDoor
open Go.RowKit
section
variable {c : Cx} {s : List (Nat × Value)} {L : List (Nat × Obj)} {o : Oper}
theorem Qt_eql_ifN {t t' : TypeId} {ms : Array (String × TypeId)} [hu : TUnd c.P t (.interface ms)] {x : Operand} {cv : Value} (ho : o.op = .binOp .eql t x (.const cv) t') (hx : ev s x = some .nilIface := by exact rfl) (hy : cv = .nilIface := by exact rfl) : Qt c s L o (.bool true) :=
  Qt_of_run (by simp [ho]) (fun ρ hρ w _ => by
    subst hy
    obtain ⟨h1, h2⟩ := run_equalIn_iface (P := c.P) w 9999 t hu.h
    have e : (binOp .eql t .nilIface .nilIface).run c.P w = .ok (.bool true) w := by simp only [binOp]; simp [Op.equal, Op.maxDepth, h1]
    simp [execOp, ho, hρ x _ hx, hρ (.const .nilIface) _ rfl, eqGuard, e])
theorem Qt_eql_ifS {t t' u : TypeId} {ms : Array (String × TypeId)} [hu : TUnd c.P t (.interface ms)] {x : Operand} {cv v : Value} (ho : o.op = .binOp .eql t x (.const cv) t') (hx : ev s x = some (.iface u v) := by exact rfl) (hy : cv = .nilIface := by exact rfl) : Qt c s L o (.bool false) :=
  Qt_of_run (by simp [ho]) (fun ρ hρ w _ => by
    subst hy
    obtain ⟨h1, h2⟩ := run_equalIn_iface (P := c.P) w 9999 t hu.h
    have e : (binOp .eql t (.iface u v) .nilIface).run c.P w = .ok (.bool false) w := by simp only [binOp]; simp [Op.equal, Op.maxDepth, (h2 _ _).1]
    simp [execOp, ho, hρ x _ hx, hρ (.const .nilIface) _ rfl, eqGuard, e])
theorem Qt_makeInterface {t : TypeId} {d : TypeDesc} [hu : TUnd c.P t d] {x : Operand} {v : Value} (ho : o.op = .makeInterface t x) (hx : ev s x = some v := by exact rfl) (hd : ∀ ms, d ≠ .interface ms := by intro ms h; cases h) : Qt c s L o (.iface t v) :=
  Qt_of_run (by simp [ho]) (fun ρ hρ w _ => by
    simp only [execOp, ho, hρ x _ hx, Instr.makeInterface, Sem.run_bind, run_underlying hu.h]
    cases d <;> first | rfl | exact absurd rfl (hd _))
theorem Qt_typeAssert {t u : TypeId} {d : TypeDesc} [hu : TUnd c.P t d] {x : Operand} {v : Value} (ho : o.op = .typeAssert x u t true) (hx : ev s x = some (.iface t v) := by exact rfl) (hd : ∀ ms, d ≠ .interface ms := by intro ms h; cases h) : Qt c s L o (.tuple #[v, .bool true]) :=
  Qt_of_run (by simp [ho]) (fun ρ hρ w _ => by
    simp only [execOp, ho, hρ x _ hx, Instr.typeAssert, Sem.run_bind, run_underlying hu.h]
    cases d <;> first | exact absurd rfl (hd _) | simp)
theorem Qt_eql_struct' {t t' : TypeId} {x y : Operand} {xs : Array Value} (ho : o.op = .binOp .eql t x y t') (hx : ev s x = some (.agg xs)) (hy : ev s y = some (.agg xs)) (hg : c.P.eqGuardType c.P.depth t = false) (he : ∀ w, (Op.equalIn 10000 t (.agg xs) (.agg xs)).run c.P w = .ok true w) : Qt c s L o (.bool true) :=
  Qt_of_run (by simp [ho]) (fun ρ hρ w _ => by
    have h1 := run_eqGuard_agg (P := c.P) w .eql t x y xs xs hg
    have h2 := run_eql_struct (P := c.P) w t xs xs
    rw [he w] at h2
    simp [execOp, ho, hρ x _ hx, hρ y _ hy, h1, h2, Result.andThen])
end
theorem Fn_enterD {P : Program} {f : FuncId} {fn : Func} {code : Code} {args : List Value} {L : List (Nat × Obj)} {R : Value → List (Nat × Obj) → Prop} {N : Nat} (hf : P.funcs[f]? = some fn) (hb : fn.body = some code) (hN : fn.ntmps = N) (hl : Nat.ble args.length N = true)
    (h : ∀ g, WC ⟨P, g, N, 0, none⟩ code (postL ⟨P, g, N, 0, none⟩ fn R (fun _ _ => False)) ⟨initS 0 args, [], L⟩) : Fn P f args L R := fun g w hm =>
  (enterL hf hb hN hl h g w hm).mono fun _ _ hE => by
    rcases hE with ⟨v, L', h1, h2, h3⟩ | ⟨v, L', _, _, h3⟩
    · exact ⟨v, L', h1, h2, h3⟩
    · exact h3.elim
theorem FnP_enter {P : Program} {f : FuncId} {fn : Func} {code : Code} {args : List Value} {L : List (Nat × Obj)} {R : Value → List (Nat × Obj) → Prop} {N : Nat} (hf : P.funcs[f]? = some fn) (hb : fn.body = some code) (hN : fn.ntmps = N) (hl : Nat.ble args.length N = true)
    (h : ∀ g, WC ⟨P, g, N, 0, none⟩ code (postL ⟨P, g, N, 0, none⟩ fn (fun _ _ => False) R) ⟨initS 0 args, [], L⟩) : FnP P f args L R := fun g w hm =>
  (enterL hf hb hN hl h g w hm).mono fun _ _ hE => by
    rcases hE with ⟨v, L', _, _, h3⟩ | ⟨v, L', h1, h2, h3⟩
    · exact h3.elim
    · exact ⟨v, L', h1, h2, h3⟩
section
variable {c : Cx} {o : Oper} {Kn : St → Prop} {K : Exit → St → Prop}
theorem OW_pan {s : List (Nat × Value)} {D : List Deferred} {L : List (Nat × Obj)} {f : FuncId} {args : Array Operand} {tys : Array TypeId} [hf : FCall c.P f] {vs : List Value} {R : Value → List (Nat × Obj) → Prop}
    (ho : o.op = .call { callee := .value (.func f), args := args, argTypes := tys }) (hF : FnP c.P f vs L R) (hk : ∀ v L', R v L' → K (.panic (pan v)) ⟨[], D, L'⟩) (ha : evs s args.toList = some vs := by exact rfl) : OW c o Kn K ⟨s, D, L⟩ :=
  OW_callvP (σ := ⟨s, D, L⟩) (x := .func f) (A := #[]) (B := #[]) ho rfl ha (by simpa using hF) hk
def pK (ops : Array Oper) (s : List (Nat × Value)) (K : Exit → St → Prop) : Exit → St → Prop
  | .panic ch, σ => K (.panic ch) ⟨keepS ops s, σ.D, σ.L⟩
  | e, σ => K e σ
theorem WC_regP {id : Nat} {l : List Oper} {s : List (Nat × Value)} {D : List Deferred} {L : List (Nat × Obj)} (h : WL c l.toArray l (pK l.toArray s K) ⟨s, D, L⟩) : WC c (.region id l.toArray false) K ⟨s, D, L⟩ :=
  WC_regionP (σ := ⟨s, D, L⟩) (fun e σ' he h => by cases e <;> first | exact h | exact absurd rfl (he _)) (fun ch D L h => h) h
theorem WC_drP {ops : Array Oper} {s : List (Nat × Value)} {D : List Deferred} {L : List (Nat × Obj)} {id : Nat} (m : Nat) (p : Plan) (hm : c.P.follows .mixedOrders = true)
    (hok : (Region.noSelect ops && lateOk ops m && planOk ops m p ops.size (Array.replicate ops.size false)) = true) (h : WR c ops (pK ops s K) L m p ⟨s, D, L⟩) : WC c (.region id ops true) K ⟨s, D, L⟩ := fun a w ha => by
  simp only [Bool.and_eq_true] at hok
  have ha' : Holds c.g c.N ⟨s, D, L⟩ a { w with drawn := w.drawn + 1 } := ha.mem' ha.mem.drew
  exact Go.wpIn_mono (wpIn_region_any hm (wpAnyIn_keepS _ _ _ _ (fun _ _ => rfl) (AnyH.any _ _ _ _ (WR_any hok.1.1 hok.1.2 p L ha.mem.nodup _ _ ⟨s, D, L⟩ hok.2 h a _ ha' (fun _ => ha'.mem))))) fun _ _ _ hl =>
    lift_of_panI ha (fun e σ' he h => by cases e <;> first | exact h | exact absurd rfl (he _)) (fun ch D L h => h) hl
theorem OW_def {s : List (Nat × Value)} {D : List Deferred} {L : List (Nat × Obj)} {f : FuncId} {args : Array Operand} {tys : Array TypeId} {vs : List Value} (ho : o.op = .defer { callee := .value (.func f), args := args, argTypes := tys }) (hr : c.r = none := by exact rfl) (hdst : o.dst = none := by exact rfl) (ha : evs s args.toList = some vs := by exact rfl)
    (hk : Kn ⟨s, { target := .fn (.func f) #[], args := vs.toArray } :: D, L⟩) : OW c o Kn K ⟨s, D, L⟩ := by
  refine OW_defer (σ := ⟨s, D, L⟩) (x := .func f) (A := #[]) (B := #[]) hr ho rfl ha (by rw [hdst]; rfl) ?_
  rw [hdst]
  simpa [St.put] using hk
end
theorem LeavS_one {c : Cx} {fn : Func} {s : List (Nat × Value)} {Rr Rp : Value → List (Nat × Obj) → Prop} {f : FuncId} {A : Array Value} {u : FrameMode} {L : List (Nat × Obj)} [hf : FCall c.P f] (hu : u ≠ .run) {Q : FrameMode → List (Nat × Obj) → Prop} (hD : FnD c.P f A.toList L u Q) (hk : ∀ u' L', Q u' L' → LeavS c fn s Rr Rp [] (settle u') L') : LeavS c fn s Rr Rp [{ target := .fn (.func f) #[], args := A }] u L :=
  ⟨hu, .inr ⟨f, A, #[], rfl, hf, fun g w n hm => by
    have h1 := hD g w n hm
    have e : A.toList ++ (#[] : Array Value).toList = A.toList := by simp
    rw [e]
    exact h1.mono fun _ _ _ ⟨v, L', e1, e2, e3⟩ => ⟨v, L', e1, e2, hk _ _ e3⟩⟩⟩
theorem OW_text {c : Cx} {o : Oper} {Kn : St → Prop} {K : Exit → St → Prop} {s : List (Nat × Value)} {D : List Deferred} {L : List (Nat × Obj)} {t t' e d : TypeId} [hu : TUnd c.P t .string] [hu' : TUnd c.P t' (.slice e)] [he : TUnd c.P e (.int .u8)] {x : Operand} {l : List UInt8} (ho : o.op = .convert t t' x) (hlen : l.length ≤ 1000000000)
    (hk : ∀ (b cap : Nat) (cs : Array Value) (fr : Nat × Nat), l.length ≤ cap → cap ≤ maxLen → (∀ (j : Nat) (u : UInt8), l[j]? = some u → cs[j]? = some (bV u)) → Kn ⟨(d, .slice (some ⟨b, 0, none⟩) l.length cap) :: s, D, (b, .cells cs e fr) :: L⟩) (hdst : o.dst = some d := by exact rfl) (hx : ev s x = some (.string (bstr l)) := by exact rfl) (hd : Nat.blt d c.N = true := by exact rfl) : OW c o Kn K ⟨s, D, L⟩ := fun a w ha => by
  refine ⟨fun _ _ => trivial, ?_⟩
  have hr := run_bytes_of_string (P := c.P) w t t' e (bstr l) hu.h hu'.h he.h
  have hge := grownCap_ge w (bstr l).size 0 e
  have hcm := grownCap_le_maxLen w (bstr l).size 0 e (by rw [bstr_size]; simp only [maxLen]; omega)
  obtain ⟨cap', hcap'⟩ : ∃ q, grownCap w (bstr l).size 0 e = q := ⟨_, rfl⟩
  rw [hcap'] at hr hge hcm
  rw [bstr_size] at hr hge
  have hr' : (execOp a.eval o).run c.P w = .ok (.value (.slice (some ⟨w.heap.size, 0, none⟩) l.length cap')) (w.drew.alloc (.cells (bytesRow (bstr l) cap') e ((bytesRow (bstr l) cap').size, (bytesRow (bstr l) cap').size + 1))) := by
    simp [execOp, ho, ha.ev hx, hr]
  rw [Oper.semAt_eq _ _ _ (by rw [ho]; intro cc h; cases h), hr']
  refine ⟨_, ?_, hk w.heap.size cap' (bytesRow (bstr l) cap') ((bytesRow (bstr l) cap').size, (bytesRow (bstr l) cap').size + 1) hge hcm fun j u hu => ?_⟩
  · rw [hdst]
    exact (ha.mem' ((ha.mem.drew).alloc _)).put (d := some d) hd _
  · have hj := (List.getElem?_eq_some_iff.1 hu).1
    unfold bytesRow
    rw [Array.getElem?_append_left (by simpa [bstr] using hj)]
    simp [bstr, hu, bV]
def meetQ (Q : St → Prop) (σ : St) : Prop := ∃ σ', Q σ' ∧ SubS σ'.s σ.s ∧ σ'.D = σ.D ∧ σ'.L.Sublist σ.L
theorem meet_next {c : Cx} {Q : St → Prop} {z : Code} {K : Exit → St → Prop} (hB : ∀ σ, Q σ → WC c z K σ) (e : Exit) (σ : St) (h : thenK (meetQ Q) K e σ) : thenK (WC c z K) K e σ := by
  cases e with
  | normal =>
    obtain ⟨σ', hQ, hs, hD, hL⟩ := h
    exact WC_lessen hs hD hL (hB σ' hQ)
  | _ => exact h
theorem WC_meet {c : Cx} {x z : Code} {K : Exit → St → Prop} {σ : St} (Q : St → Prop) (hA : WC c x (thenK (meetQ Q) K) σ) (hB : ∀ σ, Q σ → WC c z K σ) : WC c x (thenK (WC c z K) K) σ :=
  WC_mono hA (meet_next hB)
end Go.Proofs.YtgimodceldoniaaGreatDoor
namespace Go.Proofs.YtgimodceldoniaaGreatDoor
open Go.RowKit
def Buf (E sz : Nat) (v : Value) (T : List (Nat × Obj)) (n : Nat) (xs : List Value) : Prop :=
  (xs = [] ∧ n = 0 ∧ v = .slice none 0 0 ∧ T = []) ∨ ∃ (g off cap : Nat) (cur : Array Value), v = .slice (some ⟨g, off, none⟩) n cap ∧ T = [(g, .cells cur E (0, 0))] ∧ Own sz cur off cap n xs
theorem Buf.nil (E sz : Nat) : Buf E sz (.slice none 0 0) [] 0 [] := .inl ⟨rfl, rfl, rfl, rfl⟩
theorem Buf.len {E sz : Nat} {v : Value} {T : List (Nat × Obj)} {n : Nat} {xs : List Value} (h : Buf E sz v T n xs) : xs.length = n * sz := by
  rcases h with ⟨rfl, rfl, _, _⟩ | ⟨g, off, cap, cur, _, _, h⟩
  · simp
  · exact h.len
theorem Buf.val {E sz : Nat} {v : Value} {T : List (Nat × Obj)} {n : Nat} {xs : List Value} (h : Buf E sz v T n xs) : ∃ a cap, v = .slice a n cap ∧ n ≤ cap ∧ cap ≤ maxLen := by
  rcases h with ⟨rfl, rfl, rfl, _⟩ | ⟨g, off, cap, cur, rfl, _, h⟩
  · exact ⟨_, _, rfl, Nat.le_refl _, by simp [maxLen]⟩
  · exact ⟨_, _, rfl, h.le, h.max⟩
theorem OW.permL {c : Cx} {o : Oper} {Kn : St → Prop} {K : Exit → St → Prop} {σ : St} (h : OW c o (fun σ' => ∃ L2 : List (Nat × Obj), L2.Perm σ'.L ∧ Kn ⟨σ'.s, σ'.D, L2⟩) K σ) : OW c o Kn K σ := fun a w ha =>
  Oper.wpIn_mono (fun _ _ ⟨_, h1, _, h2, h3⟩ => ⟨_, h1.mem' (h1.mem.perm h2), h3⟩) (h a w ha)
theorem OW_append_buf {c : Cx} {o : Oper} {Kn : St → Prop} {K : Exit → St → Prop} {s : List (Nat × Value)} {D : List Deferred} {A T B : List (Nat × Obj)} {t t2 E size by_ d : Nat} {z : Array Value} {x y : Operand} [hu : TUnd c.P t (.slice E)] [hrow : TRow c.P E z size by_]
    (ho : o.op = .call { callee := .builtin .append, args := #[x, y], argTypes := #[t, t2] }) (hdst : o.dst = some d) {v y' : Value} (hx : ev s x = some v) (hy : ev s y = some y') (hd : Nat.blt d c.N = true) {n m : Nat} {xs news : List Value} (hv : Buf E size v T n xs)
    (hs : SrcL c (A ++ (T ++ B)) size t2 y' m news) (hm : 0 < m) (hmax : n + m ≤ maxLen) (hby : (n + m) * by_ ≤ 140737488355328)
    (hk : ∀ v' T', Buf E size v' T' (n + m) (xs ++ news) → Kn ⟨(d, v') :: s, D, A ++ (T' ++ B)⟩) : OW c o Kn K ⟨s, D, A ++ (T ++ B)⟩ := by
  refine OW.permL ?_
  rcases hv with ⟨rfl, rfl, rfl, rfl⟩ | ⟨g, off, cap, cur, rfl, rfl, h⟩
  · refine OW_append_new ho hdst hx hy hd (Vec.nil size _) hs (by omega) hmax hby fun b cap' cur' h' => ?_
    refine ⟨A ++ ([(b, .cells cur' E (0, 0))] ++ B), ?_, hk _ _ (.inr ⟨b, 0, cap', cur', rfl, rfl, h'⟩)⟩
    simp only [List.nil_append, List.singleton_append]
    exact List.perm_middle
  · have hi : (A ++ ([(g, Obj.cells cur E (0, 0))] ++ B))[A.length]? = some (g, .cells cur E (0, 0)) := by simp
    refine OW_append_own ho hdst hx hy hd A.length hi h hs hmax hby fun b off' cap' cur' h' => ?_
    refine ⟨_, .refl _, ?_⟩
    have e : (A ++ ([(g, Obj.cells cur E (0, 0))] ++ B)).set A.length (b, .cells cur' E (0, 0)) = A ++ ([(b, .cells cur' E (0, 0))] ++ B) := by simp
    simp only [e]
    exact hk _ _ (.inr ⟨b, off', cap', cur', rfl, rfl, h'⟩)
theorem src1 {c : Cx} {L : List (Nat × Obj)} {t2 e b E : Nat} {u : Value} [hu : TUnd c.P t2 (.slice e)] (i : Nat) (hi : L[i]? = some (b, .cells #[u] E (0, 0))) (h1 : u.oneCell' = true := by rfl) : SrcL c L 1 t2 (.slice (some ⟨b, 0, none⟩) 1 1) 1 [u] :=
  srcVec ⟨rfl, _, _, rfl, Nat.le_refl _, by decide, .inr ⟨_, _, _, _, _, i, rfl, hi, fun j x hx => by
    cases j with
    | zero => simpa using hx
    | succ j => simp at hx⟩⟩ (by intro v hv; simp at hv; subst hv; exact h1)
theorem WC_dropL {c : Cx} {code : Code} {K : Exit → St → Prop} {s : List (Nat × Value)} {D : List Deferred} {L : List (Nat × Obj)} (L' : List (Nat × Obj)) (hs : L'.Sublist L) (h : WC c code K ⟨s, D, L'⟩) : WC c code K ⟨s, D, L⟩ := WC_drop (σ := ⟨s, D, L⟩) hs h
end Go.Proofs.YtgimodceldoniaaGreatDoor
namespace Go.Proofs.YtgimodceldoniaaGreatDoor
open Go.RowKit
theorem QW_a {c : Cx} {s : List (Nat × Value)} {L : List (Nat × Obj)} {o : Oper} {κ : Value → Prop} {v : Value} (hk : κ v) (h : Qt c s L o v := by first
    | exact Qt_move rfl | exact Qt_assign rfl | exact Qt_nilCheck rfl | exact Qt_fieldAddr0 rfl | exact Qt_fieldAddr rfl | exact Qt_ld1B rfl | exact Qt_extract rfl
    | exact Qt_lenB rfl | exact Qt_lenSl rfl | exact Qt_eqlStr rfl | exact Qt_neqStr rfl | exact Qt_geqStr rfl | exact Qt_cat rfl | exact Qt_bin rfl | exact Qt_pick_true rfl | exact Qt_pick_false rfl | exact Qt_not rfl
    | exact Qt_indexArr0 rfl | exact Qt_indexSl0 rfl | exact Qt_indexArr rfl | exact Qt_indexSl rfl | exact Qt_convInt rfl | exact Qt_ldA rfl | exact Qt_ldN rfl
    | exact Qt_eql_nilS rfl | exact Qt_eql_nilN rfl | exact Qt_neq_nilS rfl | exact Qt_neq_nilN rfl | exact Qt_eql_ifN rfl | exact Qt_eql_ifS rfl | exact Qt_neq_ifN rfl | exact Qt_neq_ifS rfl | exact Qt_eql_bool rfl | exact Qt_neq_bool rfl
    | exact Qt_rem rfl | exact Qt_quo rfl | exact Qt_shl rfl | exact Qt_shr rfl | exact Qt_and rfl | exact Qt_or rfl | exact Qt_xor rfl | exact Qt_neg rfl | exact Qt_min rfl | exact Qt_max rfl
    | exact Qt_cutB rfl | exact Qt_cutToB rfl | exact Qt_cutFromB rfl | exact Qt_indexB rfl | exact Qt_arrFrom rfl | exact Qt_sliceL rfl | exact Qt_slTo rfl | exact Qt_slLHM rfl
    | exact Qt_str1 rfl | exact Qt_str rfl (hv := own_by0 (by with_reducible assumption)) | exact Qt_str rfl | exact Qt_buildB rfl | exact Qt_makeFunc rfl | exact Qt_makeInterface rfl | exact Qt_typeAssert rfl | exact Qt_nilCheck_fn rfl) : QW c s L o κ := ⟨v, h, hk⟩
theorem sub_mem {A B : List (Nat × Obj)} (h : A.Sublist B) : ∀ q ∈ A, q ∈ B := fun _ hq => h.subset hq
theorem RQ {P G : Prop} (h : G) (s : G → P := by first | exact fun h => WL_Q (QW_a h) | exact fun h => WL_Y (QW_a h)) : P := s h
theorem OE {P G : Prop} (h : G) (s : G → P := by first | exact fun h => OW_alloc rfl (hk := h) | exact fun h => OW_box rfl (hk := h) | exact fun h => OW_st1 rfl h | exact fun h => OW_stA rfl h | exact fun h => OW_stN rfl h | exact fun h => OW_build0 rfl (hk := h) | exact fun h => OW_build1 rfl (hk := h)) : P := s h
theorem RE {P G : Prop} (h : G) (s : G → P := by first | exact fun h => WL_op rfl (OE h) | exact fun h => WL_yes (h := OE h)) : P := s h
theorem RC {P G : Prop} (h : G) (s : G → P := by first | exact WL_nil | exact fun h => WL_un (h := h) | exact fun h => WL_N h | exact fun h => WL_M h | exact WC_seq | exact WC_block | exact fun h => WC_cond_t (ht := h) | exact fun h => WC_cond_f (he := h) | exact WC_skip | exact WC_ret | exact WC_exit) : P := s h
theorem RC0 {P G : Prop} (h : G) (s : G → P := by first | exact WL_nil | exact fun h => WL_un (h := h) | exact fun h => WL_N h | exact fun h => WL_M h | exact WC_seq | exact fun h => WC_cond_t (ht := h) | exact fun h => WC_cond_f (he := h) | exact WC_skip | exact WC_ret | exact WC_exit) : P := s h
theorem RQr {P G : Prop} (h : G) (s : G → P := by first | exact fun h => WL_Q (QW_a h) | exact fun h => WL_Y (QW_a h) | exact fun h => WR_Q rfl (QW_a h) | exact fun h => WR_late rfl rfl rfl (OW_Q (QW_a h)) | exact fun h => WR_Y rfl (QW_a h)) : P := s h
theorem RX {P G : Prop} (h : G) (s : G → P := by first | exact WL_Q | exact fun h => WR_Q rfl h | exact fun h => WR_late rfl rfl rfl (OW_Q h)) : P := s h
theorem OX {P G : Prop} (h : G) (s : G → P := by first | exact fun h => WL_op rfl h | exact fun h => WR_late rfl rfl rfl h | exact fun h => WR_opG rfl rfl h) : P := s h
theorem WG (id : Nat) {c : Cx} {l : List Oper} {K : Exit → St → Prop} {σ : St} (h : WL c l.toArray l K σ) : WC c (.region id l.toArray false) K σ := WC_region h
theorem RU {P G : Prop} (h : G) (s : G → P := by first | exact WR_nil | exact fun h => WR_un rfl (hk := h) | exact fun h => WR_N rfl h | exact fun h => WR_M rfl h | exact fun h => WR_skN rfl (h := h) | exact fun h => WR_skM rfl (h := h) | exact fun h => WR_skU rfl (h := h)) : P := s h
theorem SD {A B : List (Nat × Obj)} {G : Prop} (h : G) (s : ∀ q ∈ A, q ∈ B := by first | exact fun _ h => h | exact sub_mem (by repeat (first | exact .refl _ | exact List.nil_sublist _ | exact List.sublist_append_right _ _ | exact List.Sublist.append (.refl _) (List.sublist_append_right _ _) | apply List.Sublist.cons_cons | apply List.Sublist.cons))) : (∀ q ∈ A, q ∈ B) ∧ G := ⟨s, h⟩
theorem WC_regB {c : Cx} (n : Nat) {id : Nat} {l : List Oper} {K : Exit → St → Prop} {σ : St} (h : WL c l.toArray l K σ) (_hb : Nat.blt id n = true := by exact rfl) : WC c (.region id l.toArray false) K σ := WC_region h
end Go.Proofs.YtgimodceldoniaaGreatDoor
namespace Go.Proofs.YtgimodceldoniaaGreatDoor
open Go.RowKit
attribute [local irreducible] Fn WC WL WR OW Qt YieldFn QW FnP FnD
def cont (l : List UInt8) (at_ : Nat) : Nat := ((l.drop at_).takeWhile fun u => 128 ≤ u.toNat).length
theorem cont_lt {l : List UInt8} {a j : Nat} (h : j < cont l a) : ∃ u, l[a + j]? = some u ∧ 128 ≤ u.toNat := by
  unfold cont at h
  rw [← List.getElem?_drop]
  generalize l.drop a = m at h
  induction m generalizing j with
  | nil => simp at h
  | cons x r ih =>
    by_cases hx : 128 ≤ x.toNat
    · rw [List.takeWhile_cons_of_pos (by simpa using hx)] at h
      cases j with
      | zero => exact ⟨x, rfl, hx⟩
      | succ j => exact ih (by simpa using h)
    · rw [List.takeWhile_cons_of_neg (by simpa using hx)] at h
      simp at h
theorem cont_end {l : List UInt8} {a : Nat} {u : UInt8} (h : l[a + cont l a]? = some u) : u.toNat < 128 := by
  unfold cont at h
  rw [← List.getElem?_drop] at h
  generalize l.drop a = m at h
  induction m with
  | nil => simp at h
  | cons x r ih =>
    by_cases hx : 128 ≤ x.toNat
    · rw [List.takeWhile_cons_of_pos (by simpa using hx)] at h
      simp only [List.length_cons, List.getElem?_cons_succ] at h
      exact ih h
    · rw [List.takeWhile_cons_of_neg (by simpa using hx)] at h
      simp at h; subst h; omega
theorem cont_le {l : List UInt8} {a : Nat} (h : a ≤ l.length) : a + cont l a ≤ l.length := by
  have := (List.takeWhile_prefix (fun u : UInt8 => decide (128 ≤ u.toNat)) (l := l.drop a)).length_le
  unfold cont
  rw [List.length_drop] at this
  omega
def val (xs : List UInt8) : Nat := xs.foldl (fun n u => (n * 128 + u.toNat % 128) % 18446744073709551616) 0
theorem val_lt (xs : List UInt8) : val xs < 18446744073709551616 := by
  unfold val
  rcases List.eq_nil_or_concat xs with rfl | ⟨ys, u, rfl⟩
  · decide
  · rw [List.concat_eq_append, List.foldl_append]; simp only [List.foldl_cons, List.foldl_nil]; omega
theorem val_snoc (xs : List UInt8) (u : UInt8) : val (xs ++ [u]) = (val xs * 128 + u.toNat % 128) % 18446744073709551616 := by
  unfold val; rw [List.foldl_append]; rfl
def uCode (l : List UInt8) (a : Nat) : Nat :=
  if l.length ≤ a + cont l a then 3 else if l[a]? = some 128 then 5 else if cont l a + 1 < 10 ∨ (cont l a + 1 = 10 ∧ l[a]? = some 129) then 0 else 4
def uVal (l : List UInt8) (a : Nat) : Nat := val ((l.drop a).take (cont l a + 1))
def uNext (l : List UInt8) (a : Nat) : Nat := a + cont l a + 1
abbrev rdO (l : List UInt8) (a : Nat) : Obj := .cells #[.string (bstr l), .int .i64 a] 82 (0, 0)
abbrev fltO (code : Nat) (a : Nat) : Obj := .cells #[.int .i64 code, .int .i64 a] 51 (0, 0)
abbrev flt (p : Nat) : Value := .iface 72 (.pointer (some ⟨p, 0, none⟩))
theorem new_rd {l : List UInt8} {L : List (Nat × Obj)} : Fn Tryz.prog 15 [.string (bstr l)] L (fun v L' => ∃ r, v = .pointer (some ⟨r, 0, none⟩) ∧ L' = (r, rdO l 0) :: L) := by
  refine Fn_enter Tryz.func15 rfl Tryz.ntmps15 rfl fun g => ?_
  repeat (first | refine RQ ?_ | (refine RE ?_; try intro _) | refine RC ?_ | refine WC_region ?_)
  exact ⟨rfl, _, _, Res1 rfl (resV_tmp rfl), .refl _, _, rfl, rfl⟩
theorem place_rd {l : List UInt8} {a r : Nat} (F : List (Nat × Obj)) : Fn Tryz.prog 30 [.pointer (some ⟨r, 0, none⟩)] ((r, rdO l a) :: F) (fun v L' => v = .int .i64 a ∧ L' = (r, rdO l a) :: F) := by
  refine Fn_enter Tryz.func30 rfl Tryz.ntmps30 rfl fun g => ?_
  repeat (first | refine RQ ?_ | refine RC ?_ | refine WC_region ?_)
  exact ⟨rfl, _, _, Res1 rfl (resV_tmp rfl), .refl _, rfl, rfl⟩
theorem begin_rd {r : Nat} {L : List (Nat × Obj)} : Fn Tryz.prog 33 [.pointer (some ⟨r, 0, none⟩)] L (fun v L' => v = .pointer (some ⟨r, 0, none⟩) ∧ L' = L) := by
  refine Fn_enter Tryz.func33 rfl Tryz.ntmps33 rfl fun g => ?_
  repeat (first | refine RQ ?_ | (refine RE ?_; try intro _) | refine RC ?_ | refine WC_region ?_)
  exact ⟨rfl, _, _, Res1 rfl (resV_tmp rfl), .refl _, rfl, rfl⟩
theorem must_ok {v : Value} {code : Int} {b : Bool} (hb : b = true) {L : List (Nat × Obj)} : Fn Tryz.prog 34 [v, .bool b, .int .i64 code] L (fun v L' => v = .tuple #[] ∧ L' = L) := by
  subst hb
  refine Fn_enter Tryz.func34 rfl Tryz.ntmps34 rfl fun g => ?_
  repeat (first | refine RQ ?_ | (refine RE ?_; try intro _) | refine RC ?_ | refine WC_region ?_)
  exact ⟨rfl, _, _, Res0 rfl, .refl _, rfl, rfl⟩
def Flt (code a : Nat) (L : List (Nat × Obj)) (v : Value) (L' : List (Nat × Obj)) : Prop := ∃ p, v = flt p ∧ L' = (p, fltO code a) :: L
theorem must_no {l : List UInt8} {a r : Nat} {code : Nat} {b : Bool} (hb : b = false) (F : List (Nat × Obj)) : FnP Tryz.prog 34 [.pointer (some ⟨r, 0, none⟩), .bool b, .int .i64 code] ((r, rdO l a) :: F) (Flt code a ((r, rdO l a) :: F)) := by
  subst hb
  refine FnP_enter Tryz.func34 rfl Tryz.ntmps34 rfl fun g => ?_
  repeat (first | refine RQ ?_ | (refine RE ?_; try intro _) | refine RC ?_ | refine WC_region ?_)
  refine WL_op rfl (OW_panic (σ := ⟨_, _, _⟩) rfl rfl ?_)
  exact ⟨_, rfl, _, rfl, rfl⟩
theorem told_ret {cb : Nat} {L : List (Nat × Obj)} : FnD Tryz.prog 32 [.pointer (some ⟨cb, 0, none⟩)] L .returning (fun u' L' => u' = .returning ∧ L' = L) := by
  refine FnD_recover (rv := .nilIface) (u' := .returning) Tryz.func32 rfl Tryz.ntmps32 rfl rfl rfl rfl ⟨rfl, rfl⟩ fun g n => ⟨_, ⟨_, rfl, rfl, Qt_assign rfl, rfl⟩, ?_⟩
  show WC _ _ _ ⟨[(2, .nilIface), (5, .nilIface), (0, .pointer (some ⟨cb, 0, none⟩))], [], L⟩
  repeat (first | refine RQ ?_ | (refine RE ?_; try intro _) | refine RC ?_ | refine WC_region ?_)
  exact ⟨rfl, _, _, Res0 rfl, .refl _, rfl, rfl⟩
theorem or_val (n d : Nat) (hd : d < 128) : IntKind.u64.wrap (((BitVec.ofInt IntKind.u64.bits (IntKind.u64.wrap ((n : Int) * 2 ^ min (Int.toNat 7) IntKind.u64.bits)) ||| BitVec.ofInt IntKind.u64.bits (d : Int)).toNat : Nat) : Int) = (((n * 128 + d) % 18446744073709551616 : Nat) : Int) := by
  rw [show min (Int.toNat 7) IntKind.u64.bits = 7 from rfl, show IntKind.u64.bits = 64 from rfl, wU64_mod, wU64_mod]
  have e1 : ((n : Int) * (2 : Int) ^ 7) % (18446744073709551616 : Int) = (((n % 144115188075855872) <<< 7 : Nat) : Int) := by rw [Nat.shiftLeft_eq]; omega
  have e2 : (BitVec.ofInt 64 ((((n % 144115188075855872) <<< 7 : Nat) : Int)) ||| BitVec.ofInt 64 (d : Int)).toNat = (n % 144115188075855872) <<< 7 + d := by
    rw [BitVec.toNat_or, BitVec.toNat_ofInt, BitVec.toNat_ofInt, Nat.shiftLeft_add_eq_or_of_lt (show d < 2 ^ 7 by omega)]
    have h1 : ((((n % 144115188075855872) <<< 7 : Nat) : Int) % ((2 ^ 64 : Nat) : Int)).toNat = (n % 144115188075855872) <<< 7 := by rw [Nat.shiftLeft_eq]; omega
    have h2 : ((d : Int) % ((2 ^ 64 : Nat) : Int)).toNat = d := by omega
    rw [h1, h2]
  rw [e1, e2, Nat.shiftLeft_eq]
  omega
theorem dig_u64 (u : UInt8) : IntKind.u64.wrap ((u.toNat : Int).tmod 128) = ((u.toNat % 128 : Nat) : Int) := by
  have := u.toNat_lt
  rw [Int.tmod_eq_emod_of_nonneg (by omega), wU64 (by omega) (by omega)]; omega
set_option maxHeartbeats 4000000 in
theorem number_all {l : List UInt8} {a r : Nat} (ha : a ≤ l.length) (hl : l.length ≤ 1000000000) (F : List (Nat × Obj)) : ∀ g w, Mem g ((r, rdO l a) :: F) w → Calls Tryz.prog 35 [.pointer (some ⟨r, 0, none⟩)].toArray w
    (EndR g (fun v L' => uCode l a = 0 ∧ v = .tuple #[.int .u64 (uVal l a), .int .i64 (uNext l a)] ∧ L' = (r, rdO l a) :: F) (fun v L' => uCode l a ≠ 0 ∧ Flt (uCode l a) a ((r, rdO l a) :: F) v L')) := by
  refine enterL Tryz.func35 rfl Tryz.ntmps35 rfl fun g => ?_
  repeat (first | refine RQr ?_ | ((first | refine WL_op rfl ?_ | refine WL_yes (h := ?_) | refine WR_late rfl rfl rfl ?_ | refine WR_opG rfl rfl ?_ | refine WR_opYG rfl (h := ?_)); (first | refine OW_callP rfl (hF := must_ok (by first | with_reducible assumption | rfl)) (hk := ?_)); try refine SD ?_) | refine RC ?_ | refine RU ?_ | refine WC_draw_all (id := 5) 12 (Cs [0,1,2,3,4,5,6,7,8,9,10] <| .must 11 <| .done) mixed (by kernel_rfl) ?_ | refine WC_draw_all (id := 8) 20 (Cs [0,1,2,3,4,5,6,7,8,9,10,11,12,13,14,15,16,17,18] <| .must 19 <| .done) mixed (by kernel_rfl) ?_ | refine WC_draw_all (id := 9) 13 (Cs [0,1,2,3,4,5,6,7,8,9,12] <| .must 10 <| .calm 11 <| .done) mixed (by kernel_rfl) ?_ | refine WC_region ?_)
  refine WC_wk [(3, .int .i64 a), (2, .int .u64 0), (0, .pointer (some ⟨r, 0, none⟩))] ⟨rfl, rfl, rfl, trivial⟩ ?_
  have hcl := cont_le ha
  refine WC_loop (fun m σ => ∃ j : Nat, m = cont l a - j ∧ j ≤ cont l a ∧ σ = ⟨[(3, .int .i64 ((a + j : Nat) : Int)), (2, .int .u64 0), (0, .pointer (some ⟨r, 0, none⟩))], [], (r, rdO l a) :: F⟩) (cont l a) ⟨0, by omega, by omega, rfl⟩ ?_
  rintro m σ ⟨j, rfl, hj, rfl⟩
  by_cases hjc : j < cont l a
  · obtain ⟨u, hu, hu128⟩ := cont_lt hjc
    have hlt := (List.getElem?_eq_some_iff.1 hu).1
    have d1 : decide (((a + j : Nat) : Int) < (l.length : Int)) = true := decide_eq_true (by omega)
    have d2 : decide ((u.toNat : Int) ≥ 128) = true := decide_eq_true (by omega)
    have hu' : l[((a + j : Nat) : Int).toNat]? = some u := by rw [Int.toNat_natCast]; exact hu
    have hw : IntKind.i64.wrap (((a + j : Nat) : Int) + 1) = ((a + (j + 1) : Nat) : Int) := by rw [wI64 (by omega) (by omega)]; omega
    repeat (first | refine RQr ?_ | ((first | refine WL_op rfl ?_ | refine WL_yes (h := ?_) | refine WR_late rfl rfl rfl ?_ | refine WR_opG rfl rfl ?_ | refine WR_opYG rfl (h := ?_)); (first | refine OW_callP rfl (hF := must_ok (by first | with_reducible assumption | rfl)) (hk := ?_)); try refine SD ?_) | refine RC ?_ | refine RU ?_ | refine WC_draw_all (id := 5) 12 (Cs [0,1,2,3,4,5,6,7,8,9,10] <| .must 11 <| .done) mixed (by kernel_rfl) ?_ | refine WC_draw_all (id := 8) 20 (Cs [0,1,2,3,4,5,6,7,8,9,10,11,12,13,14,15,16,17,18] <| .must 19 <| .done) mixed (by kernel_rfl) ?_ | refine WC_draw_all (id := 9) 13 (Cs [0,1,2,3,4,5,6,7,8,9,12] <| .must 10 <| .calm 11 <| .done) mixed (by kernel_rfl) ?_ | refine WC_region ?_)
    rw [hw]
    exact ⟨_, _, by omega, ⟨j + 1, rfl, by omega, rfl⟩, ⟨rfl, rfl, rfl, trivial⟩, rfl, .refl _⟩
  · obtain rfl : j = cont l a := by omega
    by_cases hend : a + cont l a < l.length
    · obtain ⟨u, hu⟩ : ∃ u, l[a + cont l a]? = some u := ⟨_, List.getElem?_eq_getElem hend⟩
      have hu128 := cont_end hu
      have d1 : decide (((a + cont l a : Nat) : Int) < (l.length : Int)) = true := decide_eq_true (by omega)
      have d2 : decide ((u.toNat : Int) ≥ 128) = false := decide_eq_false (by omega)
      have hu' : l[((a + cont l a : Nat) : Int).toNat]? = some u := by rw [Int.toNat_natCast]; exact hu
      obtain ⟨x, hx⟩ : ∃ x, l[a]? = some x := ⟨_, List.getElem?_eq_getElem (show a < l.length by omega)⟩
      have hx' : l[((a : Nat) : Int).toNat]? = some x := by rw [Int.toNat_natCast]; exact hx
      by_cases h5 : x = 128
      · subst h5
        have d3 : (((128 : UInt8).toNat : Int) != 128) = false := by decide
        have hcode : uCode l a = 5 := by unfold uCode; rw [if_neg (by omega), if_pos hx]
        repeat (first | refine RQr ?_ | ((first | refine WL_op rfl ?_ | refine WL_yes (h := ?_) | refine WR_late rfl rfl rfl ?_ | refine WR_opG rfl rfl ?_ | refine WR_opYG rfl (h := ?_)); (first | refine OW_callP rfl (hF := must_ok (by first | with_reducible assumption | rfl)) (hk := ?_)); try refine SD ?_) | refine RC ?_ | refine RU ?_ | refine WC_draw_all (id := 5) 12 (Cs [0,1,2,3,4,5,6,7,8,9,10] <| .must 11 <| .done) mixed (by kernel_rfl) ?_ | refine WC_draw_all (id := 8) 20 (Cs [0,1,2,3,4,5,6,7,8,9,10,11,12,13,14,15,16,17,18] <| .must 19 <| .done) mixed (by kernel_rfl) ?_ | refine WC_draw_all (id := 9) 13 (Cs [0,1,2,3,4,5,6,7,8,9,12] <| .must 10 <| .calm 11 <| .done) mixed (by kernel_rfl) ?_ | refine WC_region ?_)
        refine WR_op rfl rfl (OW_pan rfl (must_no (l := l) (code := 5) d3 F) fun v L' h => ?_)
        exact ⟨v, rfl, by rw [hcode]; decide, by rw [hcode]; exact h⟩
      · have d3 : ((x.toNat : Int) != 128) = true := by
          simp only [bne_iff_ne, ne_eq]
          intro e
          exact h5 (UInt8.toNat_inj.1 (by simpa using (show x.toNat = 128 by omega)))
        have hw1 : IntKind.i64.wrap (((a + cont l a : Nat) : Int) + 1) = ((uNext l a : Nat) : Int) := by rw [wI64 (by omega) (by omega)]; unfold uNext; omega
        have hw2 : IntKind.i64.wrap (((uNext l a : Nat) : Int) - a) = ((cont l a + 1 : Nat) : Int) := by unfold uNext; rw [wI64 (by omega) (by omega)]; omega
        have hx5 : ¬ l[a]? = some 128 := by rw [hx]; simpa using h5
        repeat (first | refine RQr ?_ | ((first | refine WL_op rfl ?_ | refine WL_yes (h := ?_) | refine WR_late rfl rfl rfl ?_ | refine WR_opG rfl rfl ?_ | refine WR_opYG rfl (h := ?_)); (first | refine OW_callP rfl (hF := must_ok (by first | with_reducible assumption | rfl)) (hk := ?_)); try refine SD ?_) | refine RC ?_ | refine RU ?_ | refine WC_draw_all (id := 5) 12 (Cs [0,1,2,3,4,5,6,7,8,9,10] <| .must 11 <| .done) mixed (by kernel_rfl) ?_ | refine WC_draw_all (id := 9) 13 (Cs [0,1,2,3,4,5,6,7,8,9,12] <| .must 10 <| .calm 11 <| .done) mixed (by kernel_rfl) ?_ | refine WG 0 ?_ | refine WG 1 ?_ | refine WG 2 ?_ | refine WG 3 ?_ | refine WG 4 ?_ | refine WG 6 ?_ | refine WG 7 ?_ | refine WG 10 ?_ | refine WG 11 ?_ | refine WG 12 ?_ | refine WG 13 ?_ | refine WG 14 ?_)
        rw [hw1, hw2]
        refine WC_meet (fun σ => uCode l a = 0 ∧ σ = ⟨[(3, .int .i64 (uNext l a)), (2, .int .u64 0), (0, .pointer (some ⟨r, 0, none⟩))], [], (r, rdO l a) :: F⟩) ?_ ?_
        rotate_left
        · rintro σ ⟨hc, rfl⟩
          have hnx : uNext l a ≤ l.length := by unfold uNext; omega
          have hnx1 : (a : Int) ≤ (uNext l a : Nat) := by unfold uNext; omega
          have hnx2 : ((uNext l a : Nat) : Int) ≤ (l.length : Int) := by omega
          repeat (first | refine RQr ?_ | ((first | refine WL_op rfl ?_ | refine WL_yes (h := ?_) | refine WR_late rfl rfl rfl ?_ | refine WR_opG rfl rfl ?_ | refine WR_opYG rfl (h := ?_)); (first | refine OW_callP rfl (hF := must_ok (by first | with_reducible assumption | rfl)) (hk := ?_)); try refine SD ?_) | refine RC ?_ | refine RU ?_ | refine WC_draw_all (id := 5) 12 (Cs [0,1,2,3,4,5,6,7,8,9,10] <| .must 11 <| .done) mixed (by kernel_rfl) ?_ | refine WC_draw_all (id := 8) 20 (Cs [0,1,2,3,4,5,6,7,8,9,10,11,12,13,14,15,16,17,18] <| .must 19 <| .done) mixed (by kernel_rfl) ?_ | refine WC_draw_all (id := 9) 13 (Cs [0,1,2,3,4,5,6,7,8,9,12] <| .must 10 <| .calm 11 <| .done) mixed (by kernel_rfl) ?_ | refine WC_region ?_)
          simp only [Int.toNat_natCast]
          obtain ⟨xs, hxs⟩ : ∃ xs, xs = (l.take (uNext l a)).drop a := ⟨_, rfl⟩
          have hxs' : val xs = uVal l a := by
            unfold uVal; rw [hxs, List.drop_take]; unfold uNext; congr 2; omega
          have hxl : xs.length ≤ 1000000000 := by rw [hxs]; simp; omega
          rw [← hxs]
          refine WR_opG rfl rfl (OW_text rfl hxl fun b cap cs fr g1 g2 g3 => ?_)
          refine ⟨(by first | exact fun _ h => h | exact fun _ h => List.Sublist.subset (by repeat (first | exact .refl _ | exact List.nil_sublist _ | exact List.sublist_append_right _ _ | exact List.Sublist.append (.refl _) (List.sublist_append_right _ _) | apply List.Sublist.cons_cons | apply List.Sublist.cons)) h), ?_⟩
          repeat (first | refine RQr ?_ | ((first | refine WL_op rfl ?_ | refine WL_yes (h := ?_) | refine WR_late rfl rfl rfl ?_ | refine WR_opG rfl rfl ?_ | refine WR_opYG rfl (h := ?_)); (first | refine OW_callP rfl (hF := must_ok (by first | with_reducible assumption | rfl)) (hk := ?_)); try refine SD ?_) | refine RC ?_ | refine RU ?_ | refine WC_draw_all (id := 5) 12 (Cs [0,1,2,3,4,5,6,7,8,9,10] <| .must 11 <| .done) mixed (by kernel_rfl) ?_ | refine WC_draw_all (id := 8) 20 (Cs [0,1,2,3,4,5,6,7,8,9,10,11,12,13,14,15,16,17,18] <| .must 19 <| .done) mixed (by kernel_rfl) ?_ | refine WC_draw_all (id := 9) 13 (Cs [0,1,2,3,4,5,6,7,8,9,12] <| .must 10 <| .calm 11 <| .done) mixed (by kernel_rfl) ?_ | refine WC_region ?_)
          refine WC_wk [(90, .int .i64 0), (89, .int .i64 xs.length), (88, .slice (some ⟨b, 0, none⟩) xs.length cap), (2, .int .u64 0), (3, .int .i64 (uNext l a)), (0, .pointer (some ⟨r, 0, none⟩))] ⟨rfl, rfl, rfl, rfl, rfl, rfl, trivial⟩ ?_
          refine WC_loop (fun m σ => ∃ i : Nat, m = xs.length - i ∧ i ≤ xs.length ∧ σ = ⟨[(90, .int .i64 i), (89, .int .i64 xs.length), (88, .slice (some ⟨b, 0, none⟩) xs.length cap), (2, .int .u64 (val (xs.take i))), (3, .int .i64 (uNext l a)), (0, .pointer (some ⟨r, 0, none⟩))], [], (b, .cells cs 5 fr) :: (r, rdO l a) :: F⟩) xs.length ⟨0, by omega, by omega, rfl⟩ ?_
          rintro m σ ⟨i, rfl, hi, rfl⟩
          by_cases hlt : i < xs.length
          · have e1 : decide ((i : Int) < (xs.length : Int)) = true := decide_eq_true (by omega)
            obtain ⟨y, hy⟩ : ∃ y, xs[i]? = some y := ⟨_, List.getElem?_eq_getElem hlt⟩
            have hcell : cs[((i : Nat) : Int).toNat * 1]? = some (bV y) := by rw [Int.toNat_natCast, Nat.mul_one]; exact g3 i y hy
            have hw : IntKind.i64.wrap ((i : Int) + 1) = ((i + 1 : Nat) : Int) := by rw [wI64 (by omega) (by omega)]; omega
            repeat (first | refine RQr ?_ | ((first | refine WL_op rfl ?_ | refine WL_yes (h := ?_) | refine WR_late rfl rfl rfl ?_ | refine WR_opG rfl rfl ?_ | refine WR_opYG rfl (h := ?_)); (first | refine OW_callP rfl (hF := must_ok (by first | with_reducible assumption | rfl)) (hk := ?_)); try refine SD ?_) | refine RC ?_ | refine RU ?_ | refine WC_draw_all (id := 5) 12 (Cs [0,1,2,3,4,5,6,7,8,9,10] <| .must 11 <| .done) mixed (by kernel_rfl) ?_ | refine WC_draw_all (id := 8) 20 (Cs [0,1,2,3,4,5,6,7,8,9,10,11,12,13,14,15,16,17,18] <| .must 19 <| .done) mixed (by kernel_rfl) ?_ | refine WC_draw_all (id := 9) 13 (Cs [0,1,2,3,4,5,6,7,8,9,12] <| .must 10 <| .calm 11 <| .done) mixed (by kernel_rfl) ?_ | refine WC_region ?_)
            rw [hw, dig_u64, or_val _ _ (by omega)]
            refine ⟨_, _, by omega, ⟨i + 1, rfl, by omega, rfl⟩, ⟨rfl, rfl, rfl, ?_, rfl, rfl, trivial⟩, rfl, .refl _⟩
            show some _ = some _
            rw [List.take_add_one, hy]
            show _ = some (Value.int .u64 ((val (xs.take i ++ [y]) : Nat) : Int))
            rw [val_snoc]
          · have e1 : decide ((i : Int) < (xs.length : Int)) = false := decide_eq_false (by omega)
            obtain rfl : i = xs.length := by omega
            repeat (first | refine RQr ?_ | ((first | refine WL_op rfl ?_ | refine WL_yes (h := ?_) | refine WR_late rfl rfl rfl ?_ | refine WR_opG rfl rfl ?_ | refine WR_opYG rfl (h := ?_)); (first | refine OW_callP rfl (hF := must_ok (by first | with_reducible assumption | rfl)) (hk := ?_)); try refine SD ?_) | refine RC ?_ | refine RU ?_ | refine WC_draw_all (id := 5) 12 (Cs [0,1,2,3,4,5,6,7,8,9,10] <| .must 11 <| .done) mixed (by kernel_rfl) ?_ | refine WC_draw_all (id := 8) 20 (Cs [0,1,2,3,4,5,6,7,8,9,10,11,12,13,14,15,16,17,18] <| .must 19 <| .done) mixed (by kernel_rfl) ?_ | refine WC_draw_all (id := 9) 13 (Cs [0,1,2,3,4,5,6,7,8,9,12] <| .must 10 <| .calm 11 <| .done) mixed (by kernel_rfl) ?_ | refine WC_region ?_)
            refine ⟨_, _, Res2 rfl (resV_tmp rfl) (resV_tmp rfl), .cons _ (.refl _), hc, ?_, rfl⟩
            rw [List.take_length, hxs']
        by_cases hm10 : cont l a + 1 < 10
        · have d4 : decide (((cont l a + 1 : Nat) : Int) < 10) = true := decide_eq_true (by omega)
          have hcode : uCode l a = 0 := by unfold uCode; rw [if_neg (by omega), if_neg hx5, if_pos (.inl hm10)]
          repeat (first | refine RQr ?_ | ((first | refine WL_op rfl ?_ | refine WL_yes (h := ?_) | refine WR_late rfl rfl rfl ?_ | refine WR_opG rfl rfl ?_ | refine WR_opYG rfl (h := ?_)); (first | refine OW_callP rfl (hF := must_ok (by first | with_reducible assumption | rfl)) (hk := ?_)); try refine SD ?_) | refine RC ?_ | refine RU ?_ | refine WC_draw_all (id := 5) 12 (Cs [0,1,2,3,4,5,6,7,8,9,10] <| .must 11 <| .done) mixed (by kernel_rfl) ?_ | refine WC_draw_all (id := 8) 20 (Cs [0,1,2,3,4,5,6,7,8,9,10,11,12,13,14,15,16,17,18] <| .must 19 <| .done) mixed (by kernel_rfl) ?_ | refine WC_draw_all (id := 9) 13 (Cs [0,1,2,3,4,5,6,7,8,9,12] <| .must 10 <| .calm 11 <| .done) mixed (by kernel_rfl) ?_ | refine WC_region ?_)
          exact ⟨_, ⟨hcode, rfl⟩, ⟨rfl, rfl, rfl, trivial⟩, rfl, .refl _⟩
        · have d4 : decide (((cont l a + 1 : Nat) : Int) < 10) = false := decide_eq_false (by omega)
          by_cases hm : cont l a + 1 = 10
          · have d5 : (((cont l a + 1 : Nat) : Int) == 10) = true := by simp; omega
            by_cases h129 : x = 129
            · subst h129
              have d6 : (((129 : UInt8).toNat : Int) == 129) = true := by decide
              have hcode : uCode l a = 0 := by unfold uCode; rw [if_neg (by omega), if_neg hx5, if_pos (.inr ⟨hm, hx⟩)]
              repeat (first | refine RQr ?_ | ((first | refine WL_op rfl ?_ | refine WL_yes (h := ?_) | refine WR_late rfl rfl rfl ?_ | refine WR_opG rfl rfl ?_ | refine WR_opYG rfl (h := ?_)); (first | refine OW_callP rfl (hF := must_ok (by first | with_reducible assumption | rfl)) (hk := ?_)); try refine SD ?_) | refine RC ?_ | refine RU ?_ | refine WC_draw_all (id := 5) 12 (Cs [0,1,2,3,4,5,6,7,8,9,10] <| .must 11 <| .done) mixed (by kernel_rfl) ?_ | refine WC_draw_all (id := 8) 20 (Cs [0,1,2,3,4,5,6,7,8,9,10,11,12,13,14,15,16,17,18] <| .must 19 <| .done) mixed (by kernel_rfl) ?_ | refine WC_draw_all (id := 9) 13 (Cs [0,1,2,3,4,5,6,7,8,9,12] <| .must 10 <| .calm 11 <| .done) mixed (by kernel_rfl) ?_ | refine WC_region ?_)
              exact ⟨_, ⟨hcode, rfl⟩, ⟨rfl, rfl, rfl, trivial⟩, rfl, .refl _⟩
            · have d6 : ((x.toNat : Int) == 129) = false := by
                simp only [beq_eq_false_iff_ne, ne_eq]
                intro e
                exact h129 (UInt8.toNat_inj.1 (by simpa using (show x.toNat = 129 by omega)))
              have hcode : uCode l a = 4 := by
                unfold uCode
                rw [if_neg (by omega), if_neg hx5, if_neg]
                rintro (h | ⟨_, h⟩)
                · omega
                · rw [hx] at h; exact h129 (Option.some.inj h)
              repeat (first | refine RQr ?_ | ((first | refine WL_op rfl ?_ | refine WL_yes (h := ?_) | refine WR_late rfl rfl rfl ?_ | refine WR_opG rfl rfl ?_ | refine WR_opYG rfl (h := ?_)); (first | refine OW_callP rfl (hF := must_ok (by first | with_reducible assumption | rfl)) (hk := ?_)); try refine SD ?_) | refine RC ?_ | refine RU ?_ | refine WC_draw_all (id := 5) 12 (Cs [0,1,2,3,4,5,6,7,8,9,10] <| .must 11 <| .done) mixed (by kernel_rfl) ?_ | refine WC_draw_all (id := 8) 20 (Cs [0,1,2,3,4,5,6,7,8,9,10,11,12,13,14,15,16,17,18] <| .must 19 <| .done) mixed (by kernel_rfl) ?_ | refine WC_draw_all (id := 9) 13 (Cs [0,1,2,3,4,5,6,7,8,9,12] <| .must 10 <| .calm 11 <| .done) mixed (by kernel_rfl) ?_ | refine WC_region ?_)
              refine WR_op rfl rfl (OW_pan rfl (must_no (l := l) (code := 4) d6 F) fun v L' h => ?_)
              exact ⟨v, rfl, by rw [hcode]; decide, by rw [hcode]; exact h⟩
          · have d5 : (((cont l a + 1 : Nat) : Int) == 10) = false := by simp; omega
            have hcode : uCode l a = 4 := by
              unfold uCode
              rw [if_neg (by omega), if_neg hx5, if_neg]
              rintro (h | ⟨h, _⟩) <;> omega
            repeat (first | refine RQr ?_ | ((first | refine WL_op rfl ?_ | refine WL_yes (h := ?_) | refine WR_late rfl rfl rfl ?_ | refine WR_opG rfl rfl ?_ | refine WR_opYG rfl (h := ?_)); (first | refine OW_callP rfl (hF := must_ok (by first | with_reducible assumption | rfl)) (hk := ?_)); try refine SD ?_) | refine RC ?_ | refine RU ?_ | refine WC_draw_all (id := 5) 12 (Cs [0,1,2,3,4,5,6,7,8,9,10] <| .must 11 <| .done) mixed (by kernel_rfl) ?_ | refine WC_draw_all (id := 8) 20 (Cs [0,1,2,3,4,5,6,7,8,9,10,11,12,13,14,15,16,17,18] <| .must 19 <| .done) mixed (by kernel_rfl) ?_ | refine WC_draw_all (id := 9) 13 (Cs [0,1,2,3,4,5,6,7,8,9,12] <| .must 10 <| .calm 11 <| .done) mixed (by kernel_rfl) ?_ | refine WC_region ?_)
            refine WR_op rfl rfl (OW_pan rfl (must_no (l := l) (code := 4) rfl F) fun v L' h => ?_)
            exact ⟨v, rfl, by rw [hcode]; decide, by rw [hcode]; exact h⟩
    · have d1 : decide (((a + cont l a : Nat) : Int) < (l.length : Int)) = false := decide_eq_false (by omega)
      have hcode : uCode l a = 3 := by unfold uCode; rw [if_pos (by omega)]
      repeat (first | refine RQr ?_ | ((first | refine WL_op rfl ?_ | refine WL_yes (h := ?_) | refine WR_late rfl rfl rfl ?_ | refine WR_opG rfl rfl ?_ | refine WR_opYG rfl (h := ?_)); (first | refine OW_callP rfl (hF := must_ok (by first | with_reducible assumption | rfl)) (hk := ?_)); try refine SD ?_) | refine RC ?_ | refine RU ?_ | refine WC_draw_all (id := 5) 12 (Cs [0,1,2,3,4,5,6,7,8,9,10] <| .must 11 <| .done) mixed (by kernel_rfl) ?_ | refine WC_draw_all (id := 8) 20 (Cs [0,1,2,3,4,5,6,7,8,9,10,11,12,13,14,15,16,17,18] <| .must 19 <| .done) mixed (by kernel_rfl) ?_ | refine WC_draw_all (id := 9) 13 (Cs [0,1,2,3,4,5,6,7,8,9,12] <| .must 10 <| .calm 11 <| .done) mixed (by kernel_rfl) ?_ | refine WC_region ?_)
      refine WL_op rfl (OW_pan rfl (must_no (l := l) (code := 3) d1 F) fun v L' h => ?_)
      exact ⟨v, rfl, by rw [hcode]; decide, by rw [hcode]; exact h⟩
end Go.Proofs.YtgimodceldoniaaGreatDoor
namespace Go.Proofs.YtgimodceldoniaaGreatDoor
open Go.RowKit
attribute [local irreducible] Fn WC WL WR OW Qt YieldFn QW FnP FnD
theorem number_ok {l : List UInt8} {a r : Nat} (ha : a ≤ l.length) (hl : l.length ≤ 1000000000) (hc : uCode l a = 0) (F : List (Nat × Obj)) : Fn Tryz.prog 35 [.pointer (some ⟨r, 0, none⟩)] ((r, rdO l a) :: F) (fun v L' => v = .tuple #[.int .u64 (uVal l a), .int .i64 (uNext l a)] ∧ L' = (r, rdO l a) :: F) := by
  unfold Fn
  intro g w hm
  refine (number_all ha hl F g w hm).mono fun _ _ hE => ?_
  rcases hE with ⟨v, L', h1, h2, _, h3, h4⟩ | ⟨v, L', _, _, h3, _⟩
  · exact ⟨v, L', h1, h2, h3, h4⟩
  · exact absurd hc h3
theorem number_no {l : List UInt8} {a r : Nat} (ha : a ≤ l.length) (hl : l.length ≤ 1000000000) (hc : uCode l a ≠ 0) (F : List (Nat × Obj)) : FnP Tryz.prog 35 [.pointer (some ⟨r, 0, none⟩)] ((r, rdO l a) :: F) (Flt (uCode l a) a ((r, rdO l a) :: F)) := by
  unfold FnP
  intro g w hm
  refine (number_all ha hl F g w hm).mono fun _ _ hE => ?_
  rcases hE with ⟨v, L', h1, h2, h3, _⟩ | ⟨v, L', h1, h2, _, h3⟩
  · exact absurd h3 hc
  · exact ⟨v, L', h1, h2, h3⟩
theorem told_pan2 {x y : Nat × Obj} {cb p : Nat} {old : Value} {F : List (Nat × Obj)} : FnD Tryz.prog 32 [.pointer (some ⟨cb, 0, none⟩)] (x :: y :: (cb, .cells #[old] 46 (0, 0)) :: F) (.panicking (pan (flt p))) (fun u' L' => settle u' = .returning ∧ L' = x :: y :: (cb, .cells #[flt p] 46 (0, 0)) :: F) := by
  refine FnD_recover (rv := flt p) Tryz.func32 rfl Tryz.ntmps32 rfl rfl rfl rfl ⟨rfl, rfl⟩ fun g n => ⟨_, ⟨_, rfl, rfl, Qt_assign rfl, rfl⟩, ?_⟩
  show WC _ _ _ ⟨[(2, flt p), (5, flt p), (0, .pointer (some ⟨cb, 0, none⟩))], [], _⟩
  repeat (first | refine RQ ?_ | (refine RE ?_; try intro _) | refine RC ?_ | refine WC_region ?_)
  exact ⟨rfl, _, _, Res0 rfl, .refl _, rfl, rfl⟩
def Read (l : List UInt8) (a r : Nat) (F : List (Nat × Obj)) (code : Nat) (x z : Value) (next : Nat) (v : Value) (L' : List (Nat × Obj)) : Prop :=
  (code = 0 ∧ v = .tuple #[x, .nilIface] ∧ L' = (r, rdO l next) :: F) ∨ (code ≠ 0 ∧ ∃ p, v = .tuple #[z, flt p] ∧ L' = (p, fltO code a) :: (r, rdO l a) :: F)
set_option maxHeartbeats 1000000 in
theorem U_fn {l : List UInt8} {a r : Nat} (ha : a ≤ l.length) (hl : l.length ≤ 1000000000) (F : List (Nat × Obj)) : Fn Tryz.prog 22 [.pointer (some ⟨r, 0, none⟩)] ((r, rdO l a) :: F) (Read l a r F (uCode l a) (.int .u64 (uVal l a)) (.int .u64 0) (uNext l a)) := by
  refine Fn_enterD Tryz.func22 rfl Tryz.ntmps22 rfl fun g => ?_
  repeat (first | refine RQ ?_ | (refine RE ?_; try intro _) | (refine WL_op rfl ?_; (first | refine OW_callP rfl (hF := begin_rd) (hk := ?_) | (refine OW_call rfl (hF := number_ok ha hl hc _) (hk := ?_); rintro _ _ ⟨rfl, rfl⟩))) | refine RC ?_ | refine WG 0 ?_ | refine WG 2 ?_ | refine WG 3 ?_ | refine WG 4 ?_)
  refine WC_region (WL_op rfl (OW_def rfl (hk := WL_nil ?_)))
  refine WC_front 1 rfl ?_
  by_cases hc : uCode l a = 0
  · repeat (first | refine RQ ?_ | (refine RE ?_; try intro _) | (refine WL_op rfl ?_; (first | refine OW_callP rfl (hF := begin_rd) (hk := ?_) | (refine OW_call rfl (hF := number_ok ha hl hc _) (hk := ?_); rintro _ _ ⟨rfl, rfl⟩))) | refine RC ?_ | refine WC_region ?_)
    refine LeavS_one (by simp) told_ret ?_
    rintro u' L' ⟨rfl, rfl⟩
    exact ⟨_, _, Res2 rfl (resV_tmp rfl) (resV_cell1 rfl 1 rfl), .cons_cons _ (.cons _ (.refl _)), .inl ⟨hc, rfl, rfl⟩⟩
  · repeat (first | refine RQ ?_ | (refine RE ?_; try intro _) | (refine WL_op rfl ?_; (first | refine OW_callP rfl (hF := begin_rd) (hk := ?_) | (refine OW_call rfl (hF := number_ok ha hl hc _) (hk := ?_); rintro _ _ ⟨rfl, rfl⟩))) | refine RC ?_ | refine WG 0 ?_ | refine WG 1 ?_ | refine WG 3 ?_ | refine WG 4 ?_)
    refine WC_regP ?_
    repeat (first | refine RQ ?_ | (refine RE ?_; try intro _) | (refine WL_op rfl ?_; (first | refine OW_callP rfl (hF := begin_rd) (hk := ?_) | (refine OW_call rfl (hF := number_ok ha hl hc _) (hk := ?_); rintro _ _ ⟨rfl, rfl⟩))) | refine RC ?_ | refine WC_region ?_)
    refine WL_op rfl (OW_pan rfl (number_no ha hl hc _) fun v L' h => ?_)
    obtain ⟨p, rfl, rfl⟩ := h
    refine LeavS_one (by simp) told_pan2 ?_
    rintro u' L' ⟨hu, rfl⟩
    rw [hu]
    exact ⟨_, _, Res2 rfl (resV_tmp rfl) (resV_cell1 rfl 2 rfl), .cons_cons _ (.cons_cons _ (.cons _ (.refl _))), .inr ⟨hc, p, rfl, rfl⟩⟩
def whole (n : Nat) : Int := if n % 2 = 0 then ((n / 2 : Nat) : Int) else -((n / 2 : Nat) : Int) - 1
theorem whole_bits {n : Nat} (h : n < 18446744073709551616) :
    IntKind.i64.wrap (((BitVec.ofInt IntKind.i64.bits (IntKind.i64.wrap ((n : Int).fdiv (2 ^ min (Int.toNat 1) IntKind.u64.bits))) ^^^ BitVec.ofInt IntKind.i64.bits (IntKind.i64.wrap (0 - IntKind.i64.wrap (IntKind.u64.wrap ((BitVec.ofInt IntKind.u64.bits (n : Int) &&& BitVec.ofInt IntKind.u64.bits 1).toNat : Int))))).toNat : Nat) : Int) = whole n := by
  rw [show min (Int.toNat 1) IntKind.u64.bits = 1 from rfl, show IntKind.u64.bits = 64 from rfl, show IntKind.i64.bits = 64 from rfl, Int.fdiv_eq_ediv_of_nonneg _ (by decide)]
  have e1 : (BitVec.ofInt 64 (n : Int) &&& BitVec.ofInt 64 1).toNat = n % 2 := by
    rw [BitVec.toNat_and, BitVec.toNat_ofInt, show (BitVec.ofInt 64 1).toNat = 1 from rfl, Nat.and_one_is_mod]
    omega
  rw [e1, wU64 (by omega) (by omega), wI64 (x := ((n % 2 : Nat) : Int)) (by omega) (by omega), wI64 (x := 0 - _) (by omega) (by omega), wI64 (x := (n : Int) / 2 ^ 1) (by omega) (by omega)]
  unfold whole
  by_cases hx : n % 2 = 0
  · rw [if_pos hx, hx, show BitVec.ofInt 64 (0 - ((0 : Nat) : Int)) = 0#64 from rfl, BitVec.xor_zero, BitVec.toNat_ofInt, IntKind.wrap_i64]
    omega
  · rw [if_neg hx, show n % 2 = 1 by omega, show BitVec.ofInt 64 (0 - ((1 : Nat) : Int)) = BitVec.allOnes 64 by decide, BitVec.xor_allOnes, BitVec.toNat_not, BitVec.toNat_ofInt, IntKind.wrap_i64]
    omega
set_option maxHeartbeats 1000000 in
theorem I_fn {l : List UInt8} {a r : Nat} (ha : a ≤ l.length) (hl : l.length ≤ 1000000000) (F : List (Nat × Obj)) : Fn Tryz.prog 108 [.pointer (some ⟨r, 0, none⟩)] ((r, rdO l a) :: F) (Read l a r F (uCode l a) (.int .i64 (whole (uVal l a))) (.int .i64 0) (uNext l a)) := by
  have hv : uVal l a < 18446744073709551616 := val_lt _
  refine Fn_enter Tryz.func108 rfl Tryz.ntmps108 rfl fun g => ?_
  repeat (first | refine RQ ?_ | refine RC ?_ | refine WC_region ?_)
  refine WL_op rfl (OW_call rfl (hF := U_fn ha hl _) (hk := ?_))
  rintro _ _ (⟨hc, rfl, rfl⟩ | ⟨hc, p, rfl, rfl⟩)
  · repeat (first | refine RQ ?_ | refine RC ?_ | refine WC_region ?_)
    rw [whole_bits hv]
    exact ⟨rfl, _, _, Res2 rfl (resV_tmp rfl) (resV_tmp rfl), .refl _, .inl ⟨hc, rfl, rfl⟩⟩
  · repeat (first | refine RQ ?_ | refine RC ?_ | refine WC_region ?_)
    exact ⟨rfl, _, _, Res2 rfl (resV_tmp rfl) (resV_tmp rfl), .refl _, .inr ⟨hc, p, rfl, rfl⟩⟩
def bCode (l : List UInt8) (a : Nat) : Nat := if a < l.length then 0 else 3
def bVal (l : List UInt8) (a : Nat) : UInt8 := (l[a]?).getD 0
set_option maxHeartbeats 1000000 in
theorem Byte_fn {l : List UInt8} {a r : Nat} (ha : a ≤ l.length) (hl : l.length ≤ 1000000000) (F : List (Nat × Obj)) : Fn Tryz.prog 105 [.pointer (some ⟨r, 0, none⟩)] ((r, rdO l a) :: F) (Read l a r F (bCode l a) (bV (bVal l a)) (.int .u8 0) (a + 1)) := by
  refine Fn_enterD Tryz.func105 rfl Tryz.ntmps105 rfl fun g => ?_
  repeat (first | refine RQr ?_ | (refine OX ?_; (first | (refine OE ?_; try intro _) | refine OW_callP rfl (hF := must_ok (by first | with_reducible assumption | rfl)) (hk := ?_) | refine OW_callP rfl (hF := begin_rd) (hk := ?_)); try refine SD ?_) | refine RC ?_ | refine RU ?_ | refine WC_draw_all (id := 2) 13 (Cs [0,2,3,4,5,6,7,8,9,10,11] <| .must 1 <| .must 12 <| .done) mixed (by kernel_rfl) ?_ | refine WC_draw_all (id := 4) 11 (Cs [0,1,2,3,4,5,6,7,8,9,10] <| .must 11 <| .done) mixed (by kernel_rfl) ?_ | refine WG 0 ?_ | refine WG 3 ?_)
  refine WC_region (WL_op rfl (OW_def rfl (hk := WL_nil ?_)))
  refine WC_front 1 rfl ?_
  by_cases h0 : a < l.length
  · have hcode : bCode l a = 0 := if_pos h0
    have d1 : decide ((a : Int) < (l.length : Int)) = true := decide_eq_true (by omega)
    obtain ⟨x, hx⟩ : ∃ x, l[a]? = some x := ⟨_, List.getElem?_eq_getElem h0⟩
    have hw : IntKind.i64.wrap ((a : Int) + 1) = ((a + 1 : Nat) : Int) := by rw [wI64 (by omega) (by omega)]; omega
    have hw2 : IntKind.i64.wrap (((a + 1 : Nat) : Int) - 1) = (a : Int) := by rw [wI64 (by omega) (by omega)]; omega
    have hx' : l[(IntKind.i64.wrap (((a + 1 : Nat) : Int) - 1)).toNat]? = some x := by rw [hw2, Int.toNat_natCast]; exact hx
    have hp : 0 ≤ IntKind.i64.wrap (((a + 1 : Nat) : Int) - 1) := by omega
    repeat (first | refine RQr ?_ | (refine OX ?_; (first | (refine OE ?_; try intro _) | refine OW_callP rfl (hF := must_ok (by first | with_reducible assumption | rfl)) (hk := ?_) | refine OW_callP rfl (hF := begin_rd) (hk := ?_)); try refine SD ?_) | refine RC ?_ | refine RU ?_ | refine WC_draw_all (id := 2) 13 (Cs [0,2,3,4,5,6,7,8,9,10,11] <| .must 1 <| .must 12 <| .done) mixed (by kernel_rfl) ?_ | refine WC_regB 4 ?_)
    rw [hw]
    repeat (first | refine RQr ?_ | (refine OX ?_; (first | (refine OE ?_; try intro _) | refine OW_callP rfl (hF := must_ok (by first | with_reducible assumption | rfl)) (hk := ?_) | refine OW_callP rfl (hF := begin_rd) (hk := ?_)); try refine SD ?_) | refine RC ?_ | refine RU ?_ | refine WC_draw_all (id := 2) 13 (Cs [0,2,3,4,5,6,7,8,9,10,11] <| .must 1 <| .must 12 <| .done) mixed (by kernel_rfl) ?_ | refine WC_draw_all (id := 4) 11 (Cs [0,1,2,3,4,5,6,7,8,9,10] <| .must 11 <| .done) mixed (by kernel_rfl) ?_ | refine WC_region ?_)
    refine LeavS_one (by simp) told_ret ?_
    rintro u' L' ⟨rfl, rfl⟩
    refine ⟨_, _, Res2 rfl (resV_tmp rfl) (resV_cell1 rfl 1 rfl), .cons_cons _ (.cons _ (.refl _)), .inl ⟨hcode, ?_, rfl⟩⟩
    unfold bVal; rw [hx]; rfl
  · have hcode : bCode l a ≠ 0 := by unfold bCode; rw [if_neg h0]; decide
    have hc3 : bCode l a = 3 := if_neg h0
    have d1 : decide ((a : Int) < (l.length : Int)) = false := decide_eq_false (by omega)
    repeat (first | refine RQr ?_ | (refine OX ?_; (first | (refine OE ?_; try intro _) | refine OW_callP rfl (hF := must_ok (by first | with_reducible assumption | rfl)) (hk := ?_) | refine OW_callP rfl (hF := begin_rd) (hk := ?_)); try refine SD ?_) | refine RC ?_ | refine RU ?_ | refine WC_draw_all (id := 4) 11 (Cs [0,1,2,3,4,5,6,7,8,9,10] <| .must 11 <| .done) mixed (by kernel_rfl) ?_ | refine WG 0 ?_ | refine WG 1 ?_ | refine WG 3 ?_)
    refine WC_drP (id := 2) 13 (Cs [0,2,3,4,5,6,7,8,9,10,11] <| .must 1 <| .must 12 <| .done) mixed (by kernel_rfl) ?_
    repeat (first | refine RQr ?_ | (refine OX ?_; (first | (refine OE ?_; try intro _) | refine OW_callP rfl (hF := must_ok (by first | with_reducible assumption | rfl)) (hk := ?_) | refine OW_callP rfl (hF := begin_rd) (hk := ?_)); try refine SD ?_) | refine RC ?_ | refine RU ?_ | refine WC_draw_all (id := 2) 13 (Cs [0,2,3,4,5,6,7,8,9,10,11] <| .must 1 <| .must 12 <| .done) mixed (by kernel_rfl) ?_ | refine WC_draw_all (id := 4) 11 (Cs [0,1,2,3,4,5,6,7,8,9,10] <| .must 11 <| .done) mixed (by kernel_rfl) ?_ | refine WC_region ?_)
    refine WR_op rfl rfl (OW_pan rfl (must_no (l := l) (code := 3) d1 _) fun v L' h => ?_)
    rw [← hc3] at h
    obtain ⟨p, rfl, rfl⟩ := h
    refine LeavS_one (by simp) told_pan2 ?_
    rintro u' L' ⟨hu, rfl⟩
    rw [hu]
    exact ⟨_, _, Res2 rfl (resV_tmp rfl) (resV_cell1 rfl 2 rfl), .cons_cons _ (.cons_cons _ (.cons _ (.refl _))), .inr ⟨hcode, p, rfl, rfl⟩⟩
def tCode (l : List UInt8) (a : Nat) : Nat := if a < l.length then (if (bVal l a).toNat ≤ 1 then 0 else 5) else 3
set_option maxHeartbeats 1000000 in
theorem Bool_fn {l : List UInt8} {a r : Nat} (ha : a ≤ l.length) (hl : l.length ≤ 1000000000) (F : List (Nat × Obj)) : Fn Tryz.prog 20 [.pointer (some ⟨r, 0, none⟩)] ((r, rdO l a) :: F) (Read l a r F (tCode l a) (.bool ((bVal l a).toNat == 1)) (.bool false) (a + 1)) := by
  refine Fn_enterD Tryz.func20 rfl Tryz.ntmps20 rfl fun g => ?_
  repeat (first | refine RQr ?_ | (refine OX ?_; (first | (refine OE ?_; try intro _) | refine OW_callP rfl (hF := must_ok (by first | with_reducible assumption | rfl)) (hk := ?_) | refine OW_callP rfl (hF := begin_rd) (hk := ?_)); try refine SD ?_) | refine RC ?_ | refine RU ?_ | refine WC_draw_all (id := 2) 13 (Cs [0,2,3,4,5,6,7,8,9,10,11] <| .must 1 <| .must 12 <| .done) mixed (by kernel_rfl) ?_ | refine WC_draw_all (id := 3) 12 (Cs [0,1,2,3,4,5,6,7,8,9,10] <| .must 11 <| .done) mixed (by kernel_rfl) ?_ | refine WC_draw_all (id := 5) 12 (Cs [0,1,2,3,4,5,6,7,8,9,10,11] <| .must 12 <| .done) mixed (by kernel_rfl) ?_ | refine WG 0 ?_ | refine WG 4 ?_)
  refine WC_region (WL_op rfl (OW_def rfl (hk := WL_nil ?_)))
  refine WC_front 1 rfl ?_
  by_cases h0 : a < l.length
  · have d1 : decide ((a : Int) < (l.length : Int)) = true := decide_eq_true (by omega)
    obtain ⟨x, hx⟩ : ∃ x, l[a]? = some x := ⟨_, List.getElem?_eq_getElem h0⟩
    have hbv : bVal l a = x := by unfold bVal; rw [hx]; rfl
    have hx0 : l[((a : Nat) : Int).toNat]? = some x := by rw [Int.toNat_natCast]; exact hx
    have hw : IntKind.i64.wrap ((a : Int) + 1) = ((a + 1 : Nat) : Int) := by rw [wI64 (by omega) (by omega)]; omega
    have hw2 : IntKind.i64.wrap (((a + 1 : Nat) : Int) - 1) = (a : Int) := by rw [wI64 (by omega) (by omega)]; omega
    have hx' : l[(IntKind.i64.wrap (((a + 1 : Nat) : Int) - 1)).toNat]? = some x := by rw [hw2, Int.toNat_natCast]; exact hx
    have hp : 0 ≤ IntKind.i64.wrap (((a + 1 : Nat) : Int) - 1) := by omega
    by_cases h1 : x.toNat ≤ 1
    · have d2 : decide ((x.toNat : Int) ≤ 1) = true := decide_eq_true (by omega)
      have hcode : tCode l a = 0 := by unfold tCode; rw [if_pos h0, hbv, if_pos h1]
      repeat (first | refine RQr ?_ | (refine OX ?_; (first | (refine OE ?_; try intro _) | refine OW_callP rfl (hF := must_ok (by first | with_reducible assumption | rfl)) (hk := ?_) | refine OW_callP rfl (hF := begin_rd) (hk := ?_)); try refine SD ?_) | refine RC ?_ | refine RU ?_ | refine WC_draw_all (id := 2) 13 (Cs [0,2,3,4,5,6,7,8,9,10,11] <| .must 1 <| .must 12 <| .done) mixed (by kernel_rfl) ?_ | refine WC_draw_all (id := 3) 12 (Cs [0,1,2,3,4,5,6,7,8,9,10] <| .must 11 <| .done) mixed (by kernel_rfl) ?_ | refine WC_regB 5 ?_)
      rw [hw]
      repeat (first | refine RQr ?_ | (refine OX ?_; (first | (refine OE ?_; try intro _) | refine OW_callP rfl (hF := must_ok (by first | with_reducible assumption | rfl)) (hk := ?_) | refine OW_callP rfl (hF := begin_rd) (hk := ?_)); try refine SD ?_) | refine RC ?_ | refine RU ?_ | refine WC_draw_all (id := 2) 13 (Cs [0,2,3,4,5,6,7,8,9,10,11] <| .must 1 <| .must 12 <| .done) mixed (by kernel_rfl) ?_ | refine WC_draw_all (id := 3) 12 (Cs [0,1,2,3,4,5,6,7,8,9,10] <| .must 11 <| .done) mixed (by kernel_rfl) ?_ | refine WC_draw_all (id := 5) 12 (Cs [0,1,2,3,4,5,6,7,8,9,10,11] <| .must 12 <| .done) mixed (by kernel_rfl) ?_ | refine WC_region ?_)
      refine LeavS_one (by simp) told_ret ?_
      rintro u' L' ⟨rfl, rfl⟩
      refine ⟨_, _, Res2 rfl (resV_tmp rfl) (resV_cell1 rfl 1 rfl), .cons_cons _ (.cons _ (.refl _)), .inl ⟨hcode, ?_, rfl⟩⟩
      rw [hbv, show (x.toNat == 1) = ((x.toNat : Int) == 1) by rw [Bool.eq_iff_iff]; simp; omega]
    · have d2 : decide ((x.toNat : Int) ≤ 1) = false := decide_eq_false (by omega)
      have hc5 : tCode l a = 5 := by unfold tCode; rw [if_pos h0, hbv, if_neg h1]
      have hcode : tCode l a ≠ 0 := by rw [hc5]; decide
      repeat (first | refine RQr ?_ | (refine OX ?_; (first | (refine OE ?_; try intro _) | refine OW_callP rfl (hF := must_ok (by first | with_reducible assumption | rfl)) (hk := ?_) | refine OW_callP rfl (hF := begin_rd) (hk := ?_)); try refine SD ?_) | refine RC ?_ | refine RU ?_ | refine WC_draw_all (id := 2) 13 (Cs [0,2,3,4,5,6,7,8,9,10,11] <| .must 1 <| .must 12 <| .done) mixed (by kernel_rfl) ?_ | refine WC_draw_all (id := 5) 12 (Cs [0,1,2,3,4,5,6,7,8,9,10,11] <| .must 12 <| .done) mixed (by kernel_rfl) ?_ | refine WG 0 ?_ | refine WG 1 ?_ | refine WG 4 ?_)
      refine WC_drP (id := 3) 12 (Cs [0,1,2,3,4,5,6,7,8,9,10] <| .must 11 <| .done) mixed (by kernel_rfl) ?_
      repeat (first | refine RQr ?_ | (refine OX ?_; (first | (refine OE ?_; try intro _) | refine OW_callP rfl (hF := must_ok (by first | with_reducible assumption | rfl)) (hk := ?_) | refine OW_callP rfl (hF := begin_rd) (hk := ?_)); try refine SD ?_) | refine RC ?_ | refine RU ?_ | refine WC_draw_all (id := 2) 13 (Cs [0,2,3,4,5,6,7,8,9,10,11] <| .must 1 <| .must 12 <| .done) mixed (by kernel_rfl) ?_ | refine WC_draw_all (id := 3) 12 (Cs [0,1,2,3,4,5,6,7,8,9,10] <| .must 11 <| .done) mixed (by kernel_rfl) ?_ | refine WC_draw_all (id := 5) 12 (Cs [0,1,2,3,4,5,6,7,8,9,10,11] <| .must 12 <| .done) mixed (by kernel_rfl) ?_ | refine WC_region ?_)
      refine WR_op rfl rfl (OW_pan rfl (must_no (l := l) (code := 5) d2 _) fun v L' h => ?_)
      rw [← hc5] at h
      obtain ⟨p, rfl, rfl⟩ := h
      refine LeavS_one (by simp) told_pan2 ?_
      rintro u' L' ⟨hu, rfl⟩
      rw [hu]
      exact ⟨_, _, Res2 rfl (resV_tmp rfl) (resV_cell1 rfl 2 rfl), .cons_cons _ (.cons_cons _ (.cons _ (.refl _))), .inr ⟨hcode, p, rfl, rfl⟩⟩
  · have hc3 : tCode l a = 3 := if_neg h0
    have hcode : tCode l a ≠ 0 := by rw [hc3]; decide
    have d1 : decide ((a : Int) < (l.length : Int)) = false := decide_eq_false (by omega)
    repeat (first | refine RQr ?_ | (refine OX ?_; (first | (refine OE ?_; try intro _) | refine OW_callP rfl (hF := must_ok (by first | with_reducible assumption | rfl)) (hk := ?_) | refine OW_callP rfl (hF := begin_rd) (hk := ?_)); try refine SD ?_) | refine RC ?_ | refine RU ?_ | refine WC_draw_all (id := 3) 12 (Cs [0,1,2,3,4,5,6,7,8,9,10] <| .must 11 <| .done) mixed (by kernel_rfl) ?_ | refine WC_draw_all (id := 5) 12 (Cs [0,1,2,3,4,5,6,7,8,9,10,11] <| .must 12 <| .done) mixed (by kernel_rfl) ?_ | refine WG 0 ?_ | refine WG 1 ?_ | refine WG 4 ?_)
    refine WC_drP (id := 2) 13 (Cs [0,2,3,4,5,6,7,8,9,10,11] <| .must 1 <| .must 12 <| .done) mixed (by kernel_rfl) ?_
    repeat (first | refine RQr ?_ | (refine OX ?_; (first | (refine OE ?_; try intro _) | refine OW_callP rfl (hF := must_ok (by first | with_reducible assumption | rfl)) (hk := ?_) | refine OW_callP rfl (hF := begin_rd) (hk := ?_)); try refine SD ?_) | refine RC ?_ | refine RU ?_ | refine WC_draw_all (id := 2) 13 (Cs [0,2,3,4,5,6,7,8,9,10,11] <| .must 1 <| .must 12 <| .done) mixed (by kernel_rfl) ?_ | refine WC_draw_all (id := 3) 12 (Cs [0,1,2,3,4,5,6,7,8,9,10] <| .must 11 <| .done) mixed (by kernel_rfl) ?_ | refine WC_draw_all (id := 5) 12 (Cs [0,1,2,3,4,5,6,7,8,9,10,11] <| .must 12 <| .done) mixed (by kernel_rfl) ?_ | refine WC_region ?_)
    refine WR_op rfl rfl (OW_pan rfl (must_no (l := l) (code := 3) d1 _) fun v L' h => ?_)
    rw [← hc3] at h
    obtain ⟨p, rfl, rfl⟩ := h
    refine LeavS_one (by simp) told_pan2 ?_
    rintro u' L' ⟨hu, rfl⟩
    rw [hu]
    exact ⟨_, _, Res2 rfl (resV_tmp rfl) (resV_cell1 rfl 2 rfl), .cons_cons _ (.cons_cons _ (.cons _ (.refl _))), .inr ⟨hcode, p, rfl, rfl⟩⟩
theorem uNext_le {l : List UInt8} {a : Nat} (h : uCode l a = 0) : uNext l a ≤ l.length := by
  unfold uCode at h
  split at h
  · cases h
  · unfold uNext; omega
def eCode (l : List UInt8) (a : Nat) : Nat := if a < l.length then 4 else 0
set_option maxHeartbeats 1000000 in
theorem End_fn {l : List UInt8} {a r : Nat} (ha : a ≤ l.length) (F : List (Nat × Obj)) : Fn Tryz.prog 23 [.pointer (some ⟨r, 0, none⟩)] ((r, rdO l a) :: F) (fun v L' => (eCode l a = 0 ∧ v = .nilIface ∧ L' = (r, rdO l a) :: F) ∨ (eCode l a ≠ 0 ∧ ∃ p, v = flt p ∧ L' = (p, fltO (eCode l a) a) :: (r, rdO l a) :: F)) := by
  refine Fn_enterD Tryz.func23 rfl Tryz.ntmps23 rfl fun g => ?_
  repeat (first | refine RQr ?_ | (refine OX ?_; (first | (refine OE ?_; try intro _) | refine OW_callP rfl (hF := must_ok (by first | with_reducible assumption | rfl)) (hk := ?_) | refine OW_callP rfl (hF := begin_rd) (hk := ?_)); try refine SD ?_) | refine RC ?_ | refine RU ?_ | refine WC_draw_all (id := 2) 13 (Cs [0,2,3,4,5,6,7,8,9,10,11] <| .must 1 <| .must 12 <| .done) mixed (by kernel_rfl) ?_ | refine WG 0 ?_ | refine WG 3 ?_)
  refine WC_region (WL_op rfl (OW_def rfl (hk := WL_nil ?_)))
  refine WC_front 1 rfl ?_
  by_cases h0 : a < l.length
  · have hc4 : eCode l a = 4 := if_pos h0
    have hcode : eCode l a ≠ 0 := by rw [hc4]; decide
    have d1 : ((a : Int) == (l.length : Int)) = false := by simp; omega
    repeat (first | refine RQ ?_ | (refine RE ?_; try intro _) | (refine WL_op rfl ?_; (first | refine OW_callP rfl (hF := must_ok (by first | with_reducible assumption | rfl)) (hk := ?_) | refine OW_callP rfl (hF := begin_rd) (hk := ?_))) | refine RC ?_ | refine WG 0 ?_ | refine WG 1 ?_ | refine WG 3 ?_)
    refine WC_drP (id := 2) 13 (Cs [0,2,3,4,5,6,7,8,9,10,11] <| .must 1 <| .must 12 <| .done) mixed (by kernel_rfl) ?_
    repeat (first | refine RQr ?_ | (refine OX ?_; (first | (refine OE ?_; try intro _) | refine OW_callP rfl (hF := must_ok (by first | with_reducible assumption | rfl)) (hk := ?_) | refine OW_callP rfl (hF := begin_rd) (hk := ?_)); try refine SD ?_) | refine RC ?_ | refine RU ?_ | refine WC_draw_all (id := 2) 13 (Cs [0,2,3,4,5,6,7,8,9,10,11] <| .must 1 <| .must 12 <| .done) mixed (by kernel_rfl) ?_ | refine WC_region ?_)
    refine WR_op rfl rfl (OW_pan rfl (must_no (l := l) (code := 4) d1 _) fun v L' h => ?_)
    rw [← hc4] at h
    obtain ⟨p, rfl, rfl⟩ := h
    refine LeavS_one (by simp) told_pan2 ?_
    rintro u' L' ⟨hu, rfl⟩
    rw [hu]
    exact ⟨_, _, Res1 rfl (resV_cell1 rfl 2 rfl), .cons_cons _ (.cons_cons _ (.cons _ (.refl _))), .inr ⟨hcode, p, rfl, rfl⟩⟩
  · have hcode : eCode l a = 0 := if_neg h0
    have d1 : ((a : Int) == (l.length : Int)) = true := by simp; omega
    repeat (first | refine RQr ?_ | (refine OX ?_; (first | (refine OE ?_; try intro _) | refine OW_callP rfl (hF := must_ok (by first | with_reducible assumption | rfl)) (hk := ?_) | refine OW_callP rfl (hF := begin_rd) (hk := ?_)); try refine SD ?_) | refine RC ?_ | refine RU ?_ | refine WC_draw_all (id := 2) 13 (Cs [0,2,3,4,5,6,7,8,9,10,11] <| .must 1 <| .must 12 <| .done) mixed (by kernel_rfl) ?_ | refine WC_region ?_)
    refine LeavS_one (by simp) told_ret ?_
    rintro u' L' ⟨rfl, rfl⟩
    exact ⟨_, _, Res1 rfl (resV_cell1 rfl 1 rfl), .cons_cons _ (.cons _ (.refl _)), .inl ⟨hcode, rfl, rfl⟩⟩
end Go.Proofs.YtgimodceldoniaaGreatDoor
namespace Go.Proofs.YtgimodceldoniaaGreatDoor
open Go.RowKit
attribute [local irreducible] Fn WC WL WR OW Qt YieldFn QW FnP FnD
abbrev fltA (code a : Nat) : Value := .agg #[.int .i64 code, .int .i64 a]
end Go.Proofs.YtgimodceldoniaaGreatDoor
namespace Go.Proofs.YtgimodceldoniaaGreatDoor
open Go.RowKit Go.Extern.Stop Go.Stop Go.Extern
theorem as_nil (t : Value) (w : World) :
    Calls Tryz.prog 24 #[.nilIface, t] w fun e w' => e = .returned (.bool false) ∧ w' = w := by
  go_enter Tryz.func24, Tryz.ntmps24
  go_wp2
  go_ret
  exact ⟨rfl, rfl⟩
theorem e_valueOf27 (t : Addr) (w : World) : (ReflectliteValue.unpack (.iface 74 (.pointer (some t)))).run Tryz.prog w
    = .ok (.agg #[.pointer (some ⟨1, 74, none⟩), .pointer (some ⟨w.heap.size, 0, none⟩), .int .u64 150]) (w.alloc (.cells #[.pointer (some t)] 74)) := by kernel_rfl
theorem e_type27 (a : Addr) (w : World) : (ReflectliteValue.methodAny (ReflectliteValue.valueError "reflectlite.Value.Type" 0) (fun t _ _ _ => ReflectliteType.toType t) #[.agg #[.pointer (some ⟨1, 74, none⟩), .pointer (some a), .int .u64 150]]).run Tryz.prog w
    = .ok (.iface 127 (.agg #[.pointer (some ⟨1, 74, none⟩)])) w := by kernel_rfl
theorem e_methodKind (h : Value) (w : World) : (Go.method 307 127 (.agg #[h]) "Kind").run Tryz.prog w = .ok (80, h) w := by kernel_rfl
theorem e_kind27 (w : World) : ((ReflectliteType.abiMethod fun t => (fun a : Nat => Value.int IntKind.u8 (a : Int)) <$> Rtype.kind t) #[.pointer (some ⟨1, 74, none⟩)]).run Tryz.prog w = .ok (.int .u8 22) w := by kernel_rfl
theorem e_kind25 (w : World) : ((ReflectliteType.abiMethod fun t => (fun a : Nat => Value.int IntKind.u8 (a : Int)) <$> Rtype.kind t) #[.pointer (some ⟨1, 72, none⟩)]).run Tryz.prog w = .ok (.int .u8 22) w := by kernel_rfl
theorem rlm (z : Sem Value) (f : TypeId → Addr → Nat → Nat → Sem Value) (v : Value) :
    ReflectliteValue.method z f #[v] = (do match ← ReflectliteValue.parts v with | none => z | some (t, a, fl) => f t a fl (fl % 32)) := rfl
theorem e_parts27 (a : Addr) (w : World) : (ReflectliteValue.parts (.agg #[.pointer (some ⟨1, 74, none⟩), .pointer (some a), .int .u64 150])).run Tryz.prog w = .ok (some (74, a, 150)) w := by kernel_rfl
theorem e_isNil27 (a p : Addr) (W : World) (ha : W.cell? a = some (.pointer (some p))) :
    (ReflectliteValue.method (ReflectliteValue.valueError "reflectlite.Value.IsNil" 0) ReflectliteValue.isNil #[.agg #[.pointer (some ⟨1, 74, none⟩), .pointer (some a), .int .u64 150]]).run Tryz.prog W = .ok (.bool false) W := by
  rw [rlm]
  simp only [Sem.run_bind, e_parts27, Result.andThen]
  simp [ReflectliteValue.isNil, loadVar, isAgg, underlying, Tryz.underlying74, ha, Result.andThen]
theorem e_methodElem (h : Value) (w : World) : (Go.method 307 127 (.agg #[h]) "Elem").run Tryz.prog w = .ok (112, .agg #[h]) w := by kernel_rfl
theorem e_methodImplements (h : Value) (w : World) : (Go.method 307 127 (.agg #[h]) "Implements").run Tryz.prog w = .ok (113, .agg #[h]) w := by kernel_rfl
theorem e_methodAssignableTo (h : Value) (w : World) : (Go.method 307 127 (.agg #[h]) "AssignableTo").run Tryz.prog w = .ok (110, .agg #[h]) w := by kernel_rfl
theorem e_elem27 (w : World) : (ReflectliteType.method ReflectliteType.elem #[.agg #[.pointer (some ⟨1, 74, none⟩)]]).run Tryz.prog w = .ok (.iface 127 (.agg #[.pointer (some ⟨1, 72, none⟩)])) w := by kernel_rfl
theorem e_implements25 (w : World) : (ReflectliteType.relation "Implements" ReflectliteType.implements_ #[.agg #[.pointer (some ⟨1, 72, none⟩)], .iface 127 (.agg #[.pointer (some ⟨1, 46, none⟩)])]).run Tryz.prog w = .ok (.bool true) w := by kernel_rfl
theorem e_typeOf25 (v : Value) (w : World) : (ReflectliteType.typeOf #[.iface 72 v]).run Tryz.prog w = .ok (.iface 127 (.agg #[.pointer (some ⟨1, 72, none⟩)])) w := by kernel_rfl
theorem e_assignable25 (w : World) : (ReflectliteType.relation "AssignableTo" ReflectliteType.assignableTo #[.agg #[.pointer (some ⟨1, 72, none⟩)], .iface 127 (.agg #[.pointer (some ⟨1, 72, none⟩)])]).run Tryz.prog w = .ok (.bool true) w := by kernel_rfl
theorem e_valueOf25 (e : Addr) (w : World) : (ReflectliteValue.unpack (.iface 72 (.pointer (some e)))).run Tryz.prog w
    = .ok (.agg #[.pointer (some ⟨1, 72, none⟩), .pointer (some ⟨w.heap.size, 0, none⟩), .int .u64 150]) (w.alloc (.cells #[.pointer (some e)] 72)) := by kernel_rfl
theorem e_elemOf27 (w : World) : (Rtype.elem? 74).run Tryz.prog w = .ok (some 72) w := by kernel_rfl
theorem e_mk25 (p : Addr) (w : World) : (ReflectliteValue.mk 72 p ReflectliteValue.flagAddr).run Tryz.prog w = .ok (.agg #[.pointer (some ⟨1, 72, none⟩), .pointer (some p), .int .u64 406]) w := by kernel_rfl
theorem e_elemV27 (a p : Addr) (W : World) (ha : W.cell? a = some (.pointer (some p))) :
    (ReflectliteValue.method (ReflectliteValue.valueError "reflectlite.Value.Elem" 0) ReflectliteValue.elem #[.agg #[.pointer (some ⟨1, 74, none⟩), .pointer (some a), .int .u64 150]]).run Tryz.prog W
      = .ok (.agg #[.pointer (some ⟨1, 72, none⟩), .pointer (some p), .int .u64 406]) W := by
  rw [rlm]
  simp only [Sem.run_bind, e_parts27, Result.andThen]
  simp [ReflectliteValue.elem, loadVar, isAgg, underlying, Tryz.underlying74, ha, Result.andThen, e_elemOf27, e_mk25]
theorem rls (v x : Value) : ReflectliteValue.set #[v, x] = (do
    let (some (dst, a, fl), some (src, b, _)) := (← ReflectliteValue.parts v, ← ReflectliteValue.parts x)
      | unsupported (.noEntry "extern/(internal/reflectlite.Value).Set.zeroValue")
    if fl / ReflectliteValue.flagAddr % 2 == 0 then unsupported (.noEntry "extern/(internal/reflectlite.Value).Set.unaddressable")
    let val ← loadVar src b
    if ← Rtype.directlyAssignable dst src then storeVar dst a val
    else if ← Rtype.implements dst src then
      if (← Rtype.kind src) == 20 then
        match val with
        | .nilIface => unsupported (.noEntry "extern/reflectlite: a nil value of one interface type handed on as a value of another")
        | _ => storeVar dst a val
      else storeVar dst a (.iface src val)
    else panicString ("reflectlite.Set: value of type " ++ (← Rtype.spelt src) ++ " is not assignable to type " ++ (← Rtype.spelt dst))
    pure (.tuple #[])) := rfl
theorem e_parts25a (a : Addr) (w : World) : (ReflectliteValue.parts (.agg #[.pointer (some ⟨1, 72, none⟩), .pointer (some a), .int .u64 406])).run Tryz.prog w = .ok (some (72, a, 406)) w := by kernel_rfl
theorem e_parts25 (a : Addr) (w : World) : (ReflectliteValue.parts (.agg #[.pointer (some ⟨1, 72, none⟩), .pointer (some a), .int .u64 150])).run Tryz.prog w = .ok (some (72, a, 150)) w := by kernel_rfl
theorem e_direct25 (w : World) : (Rtype.directlyAssignable 72 72).run Tryz.prog w = .ok true w := by kernel_rfl
theorem e_set25 (ta b e : Addr) (old : Value) (W : World) (hb : W.cell? b = some (.pointer (some e))) (ht : W.cell? ta = some old) (hf : W.frozen? ta = false) :
    (ReflectliteValue.set #[.agg #[.pointer (some ⟨1, 72, none⟩), .pointer (some ta), .int .u64 406], .agg #[.pointer (some ⟨1, 72, none⟩), .pointer (some b), .int .u64 150]]).run Tryz.prog W
      = .ok (.tuple #[]) (W.setCell ta (.pointer (some e))) := by
  rw [rls]
  simp only [Sem.run_bind, e_parts25a, e_parts25, Result.andThen]
  simp [ReflectliteValue.flagAddr, loadVar, isAgg, underlying, Tryz.underlying72, hb, Result.andThen, e_direct25, storeVar, Value.cells, storeCells, Addr.add]
  rw [run_store Tryz.prog W ta _ _ (by rfl)]
  simp [ht, hf]
set_option maxHeartbeats 4000000 in
theorem as_hit (e t : Addr) (old : Value) (w : World) (hg : w.cell? ⟨0, 0, none⟩ = some (.iface 127 (.agg #[.pointer (some ⟨1, 46, none⟩)]))) (ht0 : w.cell? t = some old) (hf0 : w.frozen? t = false) :
    Calls Tryz.prog 24 #[.iface 72 (.pointer (some e)), .iface 74 (.pointer (some t))] w fun ev w' => ev = .returned (.bool true) ∧ w' = ((((w.alloc (.cells #[.pointer (some t)] 74)).alloc (.cells #[.pointer (some ⟨1, 74, none⟩), .pointer (some ⟨w.heap.size, 0, none⟩), .int .u64 150] 94)).alloc (.cells #[.pointer (some ⟨1, 74, none⟩), .pointer (some ⟨w.heap.size, 0, none⟩), .int .u64 150] 94)).alloc (.cells #[.pointer (some e)] 72)).setCell t (.pointer (some e)) := by
  have h6 := @run_callFunc_extern Tryz.prog 36 _ (fun args => ReflectliteValue.unpack (args.getD 0 (.tuple #[]))) Tryz.func36 (by kernel_rfl) (by kernel_rfl) (by kernel_rfl) (by kernel_rfl)
  have h7 := @run_callFunc_extern Tryz.prog 37 _ (ReflectliteValue.methodAny (ReflectliteValue.valueError "reflectlite.Value.Type" 0) (fun t _ _ _ => ReflectliteType.toType t)) Tryz.func37 (by kernel_rfl) (by kernel_rfl) (by kernel_rfl) (by kernel_rfl)
  have h8 := @run_callFunc_extern Tryz.prog 38 _ (ReflectliteValue.method (ReflectliteValue.valueError "reflectlite.Value.IsNil" 0) ReflectliteValue.isNil) Tryz.func38 (by kernel_rfl) (by kernel_rfl) (by kernel_rfl) (by kernel_rfl)
  have h27 := @run_callFunc_extern Tryz.prog 80 _ (ReflectliteType.abiMethod fun t => do pure (.int .u8 (← Rtype.kind t))) Tryz.func80 (by kernel_rfl) (by kernel_rfl) (by kernel_rfl) (by kernel_rfl)
  have h37 := @run_callFunc_extern Tryz.prog 112 _ (ReflectliteType.method ReflectliteType.elem) Tryz.func112 (by kernel_rfl) (by kernel_rfl) (by kernel_rfl) (by kernel_rfl)
  have h38 := @run_callFunc_extern Tryz.prog 113 _ (ReflectliteType.relation "Implements" ReflectliteType.implements_) Tryz.func113 (by kernel_rfl) (by kernel_rfl) (by kernel_rfl) (by kernel_rfl)
  have h10 := @run_callFunc_extern Tryz.prog 40 _ ReflectliteType.typeOf Tryz.func40 (by kernel_rfl) (by kernel_rfl) (by kernel_rfl) (by kernel_rfl)
  have h35 := @run_callFunc_extern Tryz.prog 110 _ (ReflectliteType.relation "AssignableTo" ReflectliteType.assignableTo) Tryz.func110 (by kernel_rfl) (by kernel_rfl) (by kernel_rfl) (by kernel_rfl)
  have h11 := @run_callFunc_extern Tryz.prog 49 _ (ReflectliteValue.method (ReflectliteValue.valueError "reflectlite.Value.Elem" 0) ReflectliteValue.elem) Tryz.func49 (by kernel_rfl) (by kernel_rfl) (by kernel_rfl) (by kernel_rfl)
  have h12 := @run_callFunc_extern Tryz.prog 50 _ ReflectliteValue.set Tryz.func50 (by kernel_rfl) (by kernel_rfl) (by kernel_rfl) (by kernel_rfl)
  have tO := e_typeOf25
  have mA := e_methodAssignableTo
  have a25 := e_assignable25
  have v25 := e_valueOf25
  have f6 := e_valueOf27
  have f7 := e_type27
  have mK := e_methodKind
  have mE := e_methodElem
  have mI := e_methodImplements
  have k27 := e_kind27
  have k25 := e_kind25
  have e27 := e_elem27
  have i25 := e_implements25
  have n8 := e_isNil27 ⟨w.heap.size, 0, none⟩ t ((w.alloc (.cells #[.pointer (some t)] 74)).alloc (.cells #[.pointer (some ⟨1, 74, none⟩), .pointer (some ⟨w.heap.size, 0, none⟩), .int .u64 150] 94)) (by simp)
  have hlt : 0 < w.heap.size := by
    rcases Nat.eq_zero_or_pos w.heap.size with h0 | h
    · simp [World.cell?, h0] at hg
    · exact h
  have hg2 : ((w.alloc (.cells #[.pointer (some t)] 74)).alloc (.cells #[.pointer (some ⟨1, 74, none⟩), .pointer (some ⟨w.heap.size, 0, none⟩), .int .u64 150] 94)).cell? ⟨0, 0, none⟩ = some (.iface 127 (.agg #[.pointer (some ⟨1, 46, none⟩)])) := by
    rw [World.cell?_alloc_lt _ _ ⟨0, 0, none⟩ (by simp), World.cell?_alloc_lt _ _ ⟨0, 0, none⟩ hlt]; exact hg
  have htl : t.block < w.heap.size := by
    rcases Nat.lt_or_ge t.block w.heap.size with h | h
    · exact h
    · simp [World.cell?, Array.getElem?_eq_none h] at ht0
  have el := e_elemV27 ⟨w.heap.size, 0, none⟩ t (((w.alloc (.cells #[.pointer (some t)] 74)).alloc (.cells #[.pointer (some ⟨1, 74, none⟩), .pointer (some ⟨w.heap.size, 0, none⟩), .int .u64 150] 94)).alloc (.cells #[.pointer (some ⟨1, 74, none⟩), .pointer (some ⟨w.heap.size, 0, none⟩), .int .u64 150] 94)) (by rw [World.cell?_alloc_lt _ _ ⟨w.heap.size, 0, none⟩ (by simp; omega)]; simp)
  have st := e_set25 t ⟨w.heap.size + 1 + 1 + 1, 0, none⟩ e old ((((w.alloc (.cells #[.pointer (some t)] 74)).alloc (.cells #[.pointer (some ⟨1, 74, none⟩), .pointer (some ⟨w.heap.size, 0, none⟩), .int .u64 150] 94)).alloc (.cells #[.pointer (some ⟨1, 74, none⟩), .pointer (some ⟨w.heap.size, 0, none⟩), .int .u64 150] 94)).alloc (.cells #[.pointer (some e)] 72))
    (by rw [World.cell?_alloc_at _ _ _ _ (by simp)]; rfl)
    (by rw [World.cell?_alloc_lt _ _ t (by simp; omega), World.cell?_alloc_lt _ _ t (by simp; omega), World.cell?_alloc_lt _ _ t (by simp; omega), World.cell?_alloc_lt _ _ t htl]; exact ht0)
    (by rw [World.frozen?_alloc_old _ _ t (by simp; omega), World.frozen?_alloc_old _ _ t (by simp; omega), World.frozen?_alloc_old _ _ t (by simp; omega), World.frozen?_alloc_old _ _ t (Nat.ne_of_lt htl)]; exact hf0)
  go_enter Tryz.func24, Tryz.ntmps24
  go_wp2
  refine wp_loop_rounds 1 ?_
  rw [rounds_succ]
  go_wp2
  go_ret
  exact ⟨rfl, rfl⟩
end Go.Proofs.YtgimodceldoniaaGreatDoor
namespace Go.Proofs.YtgimodceldoniaaGreatDoor
open Go.RowKit Go.Extern.Stop Go.Stop Go.Extern
theorem i_typeOf (v : Value) (w : World) : (ReflectliteType.typeOf #[.iface 40 v]).run Tryz.prog w = .ok (.iface 127 (.agg #[.pointer (some ⟨1, 40, none⟩)])) w := by kernel_rfl
theorem i_methodComparable (h : Value) (w : World) : (Go.method 307 127 (.agg #[h]) "Comparable").run Tryz.prog w = .ok (111, .agg #[h]) w := by kernel_rfl
theorem i_comparable (w : World) : ((ReflectliteType.method fun t => do Rtype.noPackHeld "Comparable" t; pure (.bool (← typeInfo t).comparable)) #[.agg #[.pointer (some ⟨1, 40, none⟩)]]).run Tryz.prog w = .ok (.bool true) w := by kernel_rfl
theorem i_methodUnwrap (b o : Nat) (w : World) : (Go.method 307 72 (.pointer (some ⟨b, o, none⟩)) "Unwrap").run Tryz.prog w = .ok (86, .pointer (some ⟨b, o, none⟩)) w := by kernel_rfl
theorem i_noIs1 (v : Value) (xT : TypeId) (w : World) : (Instr.typeAssert (.iface 72 v) xT 138 true).run Tryz.prog w = .ok (.tuple #[.nilIface, .bool false]) w := run_typeAssert_lacksB Tryz.underlying138 (by kernel_rfl) (by kernel_rfl) v xT w
theorem i_noIs2 (v : Value) (xT : TypeId) (w : World) : (Instr.typeAssert (.iface 40 v) xT 138 true).run Tryz.prog w = .ok (.tuple #[.nilIface, .bool false]) w := run_typeAssert_lacksB Tryz.underlying138 (by kernel_rfl) (by kernel_rfl) v xT w
theorem i_un1 (v : Value) (xT : TypeId) (w : World) : (Instr.typeAssert (.iface 72 v) xT 134 true).run Tryz.prog w = .ok (.tuple #[.iface 72 v, .bool true]) w := run_typeAssert_hasB Tryz.underlying134 (by kernel_rfl) v xT w
theorem i_un2 (v : Value) (xT : TypeId) (w : World) : (Instr.typeAssert (.iface 40 v) xT 134 true).run Tryz.prog w = .ok (.tuple #[.nilIface, .bool false]) w := run_typeAssert_lacksB Tryz.underlying134 (by kernel_rfl) (by kernel_rfl) v xT w
theorem i_uns2 (v : Value) (xT : TypeId) (w : World) : (Instr.typeAssert (.iface 40 v) xT 135 true).run Tryz.prog w = .ok (.tuple #[.nilIface, .bool false]) w := run_typeAssert_lacksB Tryz.underlying135 (by kernel_rfl) (by kernel_rfl) v xT w
theorem i_ne (x y : Value) (w : World) : (binOp .eql 46 (.iface 72 x) (.iface 40 y)).run Tryz.prog w = .ok (.bool false) w := run_eql_iface_types _ _ x y Tryz.underlying46 (by decide) w
theorem i_info : ∃ i, Tryz.prog.info? 40 = some i ∧ i.comparable = true := by
  have h : (Tryz.prog.info? 40).map (·.comparable) = some true := by kernel_rfl
  exact Option.map_eq_some_iff.1 h
theorem i_eq (n m : Int) (w : World) : (binOp .eql 46 (.iface 40 (.int .i64 n)) (.iface 40 (.int .i64 m))).run Tryz.prog w = .ok (.bool (n == m)) w := by
  obtain ⟨i, hi, hc⟩ := i_info
  have h : ∀ d : Nat, (Op.equalIn (d + 2) 46 (.iface 40 (.int .i64 n)) (.iface 40 (.int .i64 m))).run Tryz.prog w = .ok (n == m) w := fun d => by
    rw [Op.equalIn]
    simp [run_underlying Tryz.underlying46, typeInfo, hi, hc, Op.equalIn, run_underlying Tryz.underlying40]
  simp only [binOp]
  simp [Op.equal, Op.maxDepth, h 9998]
theorem unwrap_hit (b o : Nat) (n : Int) (w : World) (h : w.cell? ⟨b, o, none⟩ = some (.int .i64 n)) : Calls Tryz.prog 86 #[.pointer (some ⟨b, o, none⟩)] w fun e w' => e = .returned (.iface 40 (.int .i64 n)) ∧ w' = w := by
  go_enter Tryz.func86, Tryz.ntmps86
  go_wp2
  go_ret
  exact ⟨rfl, rfl⟩
set_option maxHeartbeats 4000000 in
theorem is_hit (b o : Nat) (n m : Int) (w : World) (h : w.cell? ⟨b, o, none⟩ = some (.int .i64 n)) : Calls Tryz.prog 41 #[.iface 72 (.pointer (some ⟨b, o, none⟩)), .iface 40 (.int .i64 m), .bool true] w fun e w' => e = .returned (.bool (n == m)) ∧ w' = w := by
  have a1 := i_noIs1
  have a2 := i_noIs2
  have a3 := i_un1
  have a4 := i_un2
  have a5 := i_uns2
  have a6 := i_ne
  have a7 := i_eq
  have a8 := i_methodUnwrap
  cases hnm : (n == m) with
  | true =>
    go_enter Tryz.func41, Tryz.ntmps41
    go_wp2
    refine wp_loop_rounds 2 ?_
    rw [rounds_succ]
    go_wp2_with (go_at_call 86; refine (unwrap_hit b o n _ h).mono ?_; rintro e w' ⟨rfl, rfl⟩)
    rw [rounds_succ]
    go_wp2
    go_ret
    exact ⟨rfl, rfl⟩
  | false =>
    go_enter Tryz.func41, Tryz.ntmps41
    go_wp2
    refine wp_loop_rounds 2 ?_
    rw [rounds_succ]
    go_wp2_with (go_at_call 86; refine (unwrap_hit b o n _ h).mono ?_; rintro e w' ⟨rfl, rfl⟩)
    rw [rounds_succ]
    go_wp2
    go_ret
    exact ⟨rfl, rfl⟩
theorem i_callComparable (w : World) : (callFunc 111 #[.agg #[.pointer (some ⟨1, 40, none⟩)]]).run Tryz.prog w = .ok (.value (.bool true)) w := by
  have h := @run_callFunc_extern Tryz.prog 111 _ (ReflectliteType.method fun t => do Rtype.noPackHeld "Comparable" t; pure (.bool (← typeInfo t).comparable)) Tryz.func111 (by kernel_rfl) (by kernel_rfl) (by kernel_rfl) (by kernel_rfl)
  rw [h]
  have h2 := i_comparable w
  rw [h2]
  rfl
set_option maxHeartbeats 4000000 in
theorem Is_hit (b o : Nat) (n m : Int) (w : World) (h : w.cell? ⟨b, o, none⟩ = some (.int .i64 n)) : Calls Tryz.prog 25 #[.iface 72 (.pointer (some ⟨b, o, none⟩)), .iface 40 (.int .i64 m)] w fun e w' => e = .returned (.bool (n == m)) ∧ w' = w := by
  have h10 := @run_callFunc_extern Tryz.prog 40 _ ReflectliteType.typeOf Tryz.func40 (by kernel_rfl) (by kernel_rfl) (by kernel_rfl) (by kernel_rfl)
  have b1 := i_typeOf
  have b2 := i_methodComparable
  have b3 := i_callComparable
  go_enter Tryz.func25, Tryz.ntmps25
  go_wp2_with (go_at_call 41; refine (is_hit b o n m _ h).mono ?_; rintro e w' ⟨rfl, rfl⟩)
  go_ret
  exact ⟨rfl, rfl⟩
end Go.Proofs.YtgimodceldoniaaGreatDoor
