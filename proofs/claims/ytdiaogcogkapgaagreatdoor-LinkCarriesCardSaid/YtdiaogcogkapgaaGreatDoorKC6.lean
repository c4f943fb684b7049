/-
  A part of what the last of these texts needs; by itself it proves no statement.
-/
import Derived.Deep.Upon
import Derived.LoopNIn
import Derived.Test.YtdiaogcogkapgaaGreatDoorRows
import Derived.Test.YtdiaogcogkapgaaGreatDoorKC5
namespace Go.Proofs.YtdiaogcogkapgaaGreatDoor
open Go.RowKit
noncomputable section
attribute [local irreducible] T.put T.set opX opP calmX effX callX appendX
structure XF where
  fn : Func
  code : Code
  pt : T (Nat × Plan)
  mask : Nat
def resX (P : Program) (s : S) (h : T O) : List ResultVar → Option (List V)
  | [] => some []
  | .tmp t :: r => match s.get t, resX P s h r with
    | some v, some l => some (v :: l)
    | _, _ => none
  | .cell a t :: r => match loadX P h t (s.get a), resX P s h r with
    | some (v, _), some l => some (v :: l)
    | _, _ => none
def leaveX (call : CallF) : List DI → Option V → H → Option (Option V × H)
  | [], m, Hp => some (m, Hp)
  | .mark k :: r, m, Hp => match Hp.h.get k with
    | some .defer => leaveX call r m (Hp.upd k .gone)
    | _ => none
  | .call f A B :: r, m, Hp => match call.d f (A ++ B) m Hp with
    | some (m2, H2) => leaveX call r m2 H2
    | none => none
inductive FR where
  | ret (v : V)
  | pan (v : V)
def retX (P : Program) (x : XF) (ds0 : List DI) (s2 : S) (H3 : H) : Option V → Option (FR × H)
  | none => match resX P s2 H3.h x.fn.results.toList with
    | some [v] => some (.ret v, ⟨H3.h, H3.n, H3.log, ds0⟩)
    | some l => some (.ret (.tup l), ⟨H3.h, H3.n, H3.log, ds0⟩)
    | none => none
  | some v => some (.pan v, ⟨H3.h, H3.n, H3.log, ds0⟩)
def goneX (P : Program) (call : CallF) (x : XF) (ds0 : List DI) (s2 : S) (H2 : H) (m : Option V) : Option (FR × H) := match leaveX call H2.ds m H2 with
  | some (m2, H3) => retX P x ds0 s2 H3 m2
  | none => none
def endF (P : Program) (call : CallF) (x : XF) (ds0 : List DI) : CX → Option (FR × H)
  | some (.normal, s2, H2) => goneX P call x ds0 s2 H2 none
  | some (.ret, s2, H2) => goneX P call x ds0 s2 H2 none
  | some (.panic v, s2, H2) => goneX P call x ds0 s2 H2 (some v)
  | _ => none
def runF (P : Program) (tab : T XF) (lf : Nat) (call : CallF) (f : FuncId) (vs : List V) (Hp : H) : Option (FR × H) := match tab.get f with
  | some x => match Nat.ble vs.length x.fn.ntmps with
    | true => endF P call x Hp.ds (codeX P call x.pt lf true x.fn.ntmps x.code (S.ofArgs vs x.mask) ⟨Hp.h, Hp.n, Hp.log, []⟩)
    | false => none
  | none => none
def recOf : Code → Option (Option Nat × List Oper × Code)
  | .seq (.region _ ops false) rest => match ops.toList with
    | o :: more => match o.op, o.guard with
      | .call cl, none => match cl.callee with
        | .builtin .recover => some (o.dst, more, rest)
        | _ => none
      | _, _ => none
    | _ => none
  | _ => none
def calmL (P : Program) (h : T O) : List Oper → S → Option S
  | [], s => some s
  | o :: r, s => match o.guard, calmX P s h o.op with
    | none, some (v, _) => calmL P h r (putD s o.dst v)
    | _, _ => none
def recV : Option V → V
  | none => .nili
  | some v => v
def doneD (P : Program) (x : XF) (ds0 : List DI) (m : Option V) (s2 : S) (H2 : H) : Option (Option V × H) := match H2.ds, resX P s2 H2.h x.fn.results.toList with
  | [], some _ => some (m, ⟨H2.h, H2.n, H2.log, ds0⟩)
  | _, _ => none
def endD (P : Program) (x : XF) (ds0 : List DI) (m : Option V) : CX → Option (Option V × H)
  | some (.normal, s2, H2) => doneD P x ds0 m s2 H2
  | some (.ret, s2, H2) => doneD P x ds0 m s2 H2
  | _ => none
def defF (P : Program) (tab : T XF) (lf : Nat) (call : CallF) (f : FuncId) (vs : List V) (m : Option V) (Hp : H) : Option (Option V × H) := match tab.get f with
  | some x => match Nat.ble vs.length x.fn.ntmps with
    | true => match recOf x.code with
      | some (d, more, rest) => match calmL P Hp.h more (putD (S.ofArgs vs x.mask) d (recV m)) with
        | some s => endD P x Hp.ds none (codeX P call x.pt lf true x.fn.ntmps rest s ⟨Hp.h, Hp.n, Hp.log, []⟩)
        | none => none
      | none => endD P x Hp.ds m (codeX P call x.pt lf true x.fn.ntmps x.code (S.ofArgs vs x.mask) ⟨Hp.h, Hp.n, Hp.log, []⟩)
    | false => none
  | none => none
def zipX : List Nat → List V → S → S
  | p :: ps, v :: vs, s => zipX ps vs (s.set p v)
  | _, _, s => s
def roundX (k : Nat) (ds0 : List DI) (e : EX) (H4 : H) : Option (V × H) := match H4.h.get k with
  | some (.loop cl .busy) => match e with
    | .normal => some (.bool true, ⟨H4.h.set k (.loop cl .ready), H4.n, k :: H4.log, ds0⟩)
    | .ret => some (.bool false, ⟨H4.h.set k (.loop cl (.done .ret)), H4.n, k :: H4.log, ds0⟩)
    | .exit id => some (.bool false, ⟨H4.h.set k (.loop cl (.done (.exit id))), H4.n, k :: H4.log, ds0⟩)
    | .panic _ => none
  | _ => none
def yieldX (P : Program) (call : CallF) (lf : Nat) (k : Nat) (vs : List V) (Hp : H) : Option (V × H) := match Hp.h.get k with
  | some (.loop cl .ready) => match Nat.beq vs.length cl.ps.length, psOk cl.N cl.ps, codeOk cl.N cl.pt cl.assign, codeOk cl.N cl.pt cl.body with
    | true, true, true, true => match codeX P call cl.pt lf false cl.N cl.assign (zipX cl.ps vs cl.s) ⟨Hp.h, Hp.n, Hp.log, []⟩ with
      | some (.normal, s2, H2) => match H2.h.get k with
        | some (.loop cl2 .ready) => match codeX P call cl.pt lf false cl.N cl.body s2 (H2.upd k (.loop cl2 .busy)) with
          | some (e, _, H4) => roundX k Hp.ds e H4
          | none => none
        | _ => none
      | _ => none
    | _, _, _, _ => none
  | _ => none
def retO : Option (FR × H) → Option (V × H)
  | some (.ret v, H2) => some (v, H2)
  | _ => none
def panO : Option (FR × H) → Option (V × H)
  | some (.pan v, H2) => some (v, H2)
  | _ => none
abbrev PrimF := FuncId → List V → H → Option (V × H)
def primO (a : Option (V × H)) (b : Option (V × H)) : Option (V × H) := match a with
  | some r => some r
  | none => b
structure PrimOk (P : Program) (pr : PrimF) : Prop where
  x : ∀ f vs Hp v H2, pr f vs Hp = some (v, H2) → Ext Hp H2
  c : ∀ f vs Hp v H2, pr f vs Hp = some (v, H2) → FCall P f
  n : ∀ f vs Hp v H2, pr f vs Hp = some (v, H2) → ∀ bs M F vs', HCov bs Hp M → RVs bs vs vs' → Fn P f vs' (M ++ F) (FPost bs Hp M F v H2)
def funX (P : Program) (tab : T XF) (lf : Nat) (pr : PrimF) : Nat → CallF
  | 0 => ⟨fun _ _ _ => none, fun _ _ _ => none, fun _ _ _ => none, fun _ _ _ _ => none⟩
  | n + 1 => ⟨fun f vs Hp => primO (pr f vs Hp) (retO (runF P tab lf (funX P tab lf pr n) f vs Hp)), fun k vs Hp => yieldX P (funX P tab lf pr n) lf k vs Hp,
    fun f vs Hp => panO (runF P tab lf (funX P tab lf pr n) f vs Hp), fun f vs m Hp => defF P tab lf (funX P tab lf pr n) f vs m Hp⟩
structure GoodF (P : Program) (f : FuncId) (x : XF) : Prop where
  fn : P.funcs[f]? = some x.fn
  body : x.fn.body = some x.code
  call : FCall P f
  ok : codeOk x.fn.ntmps x.pt x.code = true
def GoodL (P : Program) : List (Nat × XF) → Prop
  | [] => True
  | p :: r => GoodF P p.1 p.2 ∧ GoodL P r
theorem GoodL.mem {P : Program} : ∀ {l : List (Nat × XF)}, GoodL P l → ∀ p ∈ l, GoodF P p.1 p.2
  | [], _, _, h => by cases h
  | _ :: _, ⟨h1, h2⟩, p, hp => by
    rcases List.mem_cons.1 hp with rfl | hp
    · exact h1
    · exact GoodL.mem h2 p hp
theorem loadX_run {c : Cx} {bs : Bs} {s : S} {Hp : H} {M F : List (Nat × Obj)} {σ : St} {a t : Nat} {v : V} {rd : Option Nat} (hcov : Cov bs s Hp M F σ) (h : loadX c.P Hp.h t (s.get a) = some (v, rd)) : ∃ v', RV bs v v' ∧ resV c σ v' (.cell a t) := by
  generalize hx : s.get a = e at h
  unfold loadX at h
  split at h
  · rename_i k off
    obtain ⟨p, hp, hr⟩ := hcov.slots a _ hx
    obtain ⟨b, base, av, rfl, hk⟩ := hr.ptr_inv
    split at h
    · rename_i cc hb
      obtain ⟨ob, hob, hrd⟩ := rdX_ok (bs := bs) (base := base) (av := av) hb
      obtain ⟨b', base', av', i, o', a1, a2, aRO⟩ := hcov.mem.at_ k _ hob
      rw [hk] at a1; cases a1
      obtain ⟨cs, E, fr, rfl, a3, a4⟩ := hrd aRO
      have hi : σ.L[i]? = some (b, .cells cs E fr) := by
        rw [hcov.L, List.getElem?_append_left (List.getElem?_eq_some_iff.1 a2).1]; exact a2
      split at h
      · rename_i ha
        split at h
        · rename_i u hu
          cases h
          obtain ⟨_, v', a5, a6⟩ := a4 off _ hu
          refine ⟨v', a6, fun ac w hH => ?_⟩
          have hp' := hH.slots a _ hp
          have hcell : w.cell? ⟨b, base + off, none⟩ = some v' := by rw [cell_of_row w b (base + off) cs E fr (hH.mem.at_ hi)]; exact a5
          rw [Array.getD_eq_getD_getElem?] at hp'
          simp [resSem, hp', asAddr, loadVar, (aggX_ok ha).h, hcell]
        · cases h
      · rename_i ha
        split at h
        · rename_i n hn
          split at h
          · rename_i l hl
            cases h
            obtain ⟨l', e1, e2, e3, e4⟩ := cellsX_ok a4 (n + 1) off l hl
            refine ⟨_, .agg e1, fun ac w hH => ?_⟩
            have hp' := hH.slots a _ hp
            have hload := run_loadCells_list (P := c.P) w ⟨b, base + off, none⟩ l' (fun j v hv => by
              have hj := (List.getElem?_eq_some_iff.1 hv).1
              rw [Addr.add_mid, cell_of_row w b (base + off + j) cs E fr (hH.mem.at_ hi), e3 j (by omega)]; exact hv)
            rw [e2] at hload
            rw [Array.getD_eq_getD_getElem?] at hp'
            simp [resSem, hp', asAddr, loadVar, (aggX_ok ha).h, (sizeX_ok hn).h, hload]
          · cases h
        · cases h
      · cases h
    · cases h
  · cases h
theorem resX_ok {c : Cx} {bs : Bs} {s : S} {Hp : H} {M F : List (Nat × Obj)} {σ : St} (hcov : Cov bs s Hp M F σ) : ∀ {rs : List ResultVar} {l : List V}, resX c.P s Hp.h rs = some l → ∃ l', RVs bs l l' ∧ ∀ a w, Holds c.g c.N σ a w → (rs.mapM (resSem a.tmps)).run c.P w = .ok l' w
  | [], l, h => by cases h; exact ⟨[], .nil, fun a w _ => by simp⟩
  | .tmp t :: r, l, h => by
    simp only [resX] at h
    split at h
    · rename_i v l h1 h2
      cases h
      obtain ⟨v', h3, h4⟩ := hcov.slots t v h1
      obtain ⟨l', h5, h6⟩ := resX_ok hcov h2
      refine ⟨v' :: l', .cons h4 h5, fun a w ha => ?_⟩
      have := resV_tmp (c := c) h3 a w ha
      simp [List.mapM_cons, this, h6 a w ha]
    · cases h
  | .cell p t :: r, l, h => by
    simp only [resX] at h
    split at h
    · rename_i v rd l h1 h2
      cases h
      obtain ⟨v', h4, h3⟩ := loadX_run (c := c) hcov h1
      obtain ⟨l', h5, h6⟩ := resX_ok hcov h2
      refine ⟨v' :: l', .cons h4 h5, fun a w ha => ?_⟩
      have := h3 a w ha
      simp [List.mapM_cons, this, h6 a w ha]
    · cases h
theorem covS_row {bs : Bs} {vs : List V} {vs' : List Value} {m : Nat} (h : RVs bs vs vs') : CovS bs (S.ofArgs vs m) (initS 0 vs') := by
  have look_init : ∀ (l : List Value) (k t : Nat) (v : Value), k ≤ t → l[t - k]? = some v → look (initS k l) t = some v := by
    intro l
    induction l with
    | nil => intro k t v _ h; simp at h
    | cons u r ih =>
      intro k t v hk h
      rw [initS, look_cons]
      by_cases e : k = t
      · subst e; simp at h; rw [if_pos rfl, h]
      · rw [if_neg e]
        refine ih (k + 1) t v (by omega) ?_
        rw [show t - k = (t - (k + 1)) + 1 by omega] at h
        simpa using h
  intro t v hv
  obtain ⟨v', h3, h4⟩ := h.get (S.get_args hv)
  exact ⟨v', look_init vs' 0 t v' (Nat.zero_le _) (by simpa using h3), h4⟩
theorem setL_some : ∀ {L : List (Nat × Obj)} {i : Nat} {q : Nat × Obj} (p : Nat × Obj), L[i]? = some q → setL L i p = some (L.set i p)
  | [], i, q, p, h => by simp at h
  | x :: r, 0, q, p, h => rfl
  | x :: r, i + 1, q, p, h => by
    simp only [List.getElem?_cons_succ] at h
    simp [setL, setL_some p h]
theorem WC_nodup {c : Cx} {code : Code} {K : Exit → St → Prop} {σ : St} (h : WC c code (fun e σ' => (σ'.L.map Prod.fst).Nodup → K e σ') σ) : WC c code K σ := fun a w ha =>
  Go.wpIn_mono (h a w ha) fun e a' w' hl => by
    obtain ⟨σ', h1, h2⟩ := hl; exact ⟨σ', h1, h2 h1.mem.nodup⟩
theorem FnD_nodup {P : Program} {f : FuncId} {args : List Value} {L : List (Nat × Obj)} {u : FrameMode} {R : FrameMode → List (Nat × Obj) → Prop} (h : FnD P f args L u fun u' L' => (L'.map Prod.fst).Nodup → R u' L') : FnD P f args L u R := fun g w n hm =>
  (h g w n hm).mono fun _ _ _ ⟨v, L', h1, h2, h3⟩ => ⟨v, L', h1, h2, h3 h2.nodup⟩
theorem FnD.mono {P : Program} {f : FuncId} {args : List Value} {L : List (Nat × Obj)} {u : FrameMode} {R R' : FrameMode → List (Nat × Obj) → Prop} (h : FnD P f args L u R) (hr : ∀ u' L', R u' L' → R' u' L') : FnD P f args L u R' := fun g w n hm =>
  (CallsDIn.mono (h g w n hm) fun _ u' _ ⟨v, L', h1, h2, h3⟩ => ⟨v, L', h1, h2, hr u' L' h3⟩)
theorem RM.mono {bs : Bs} (r : Bs) {m : Option V} {u : FrameMode} (h : RM bs m u) : RM (bs ++ r) m u := by
  cases m with
  | none => exact h
  | some v => obtain ⟨v', h1, h2⟩ := h; exact ⟨v', h1, h2.mono r⟩
theorem RM.ne {bs : Bs} {m : Option V} {u : FrameMode} (h : RM bs m u) : u ≠ .run := by
  cases m with
  | none => rw [show u = .returning from h]; simp
  | some v => obtain ⟨v', h1, h2⟩ := h; rw [h1]; simp
theorem leaveX_ok {c : Cx} {call : CallF} (hcall : CallOk c.P call) {fn : Func} {Rr Rp : Value → List (Nat × Obj) → Prop} : ∀ (ks : List DI) {bs : Bs} {s : S} {Hp H3 : H} {M F : List (Nat × Obj)} {σs : List (Nat × Value)} {D : List Deferred} {m m2 : Option V} {u : FrameMode}, CovS bs s σs → HCov bs Hp M → ((M ++ F).map Prod.fst).Nodup → RD bs ks D → RM bs m u → leaveX call ks m Hp = some (m2, H3) →
    (∀ r M' u', CovS (bs ++ r) s σs → HCov (bs ++ r) H3 M' → RM (bs ++ r) m2 u' → (∀ k ∈ Hp.log, k ∈ H3.log) → (∀ W B, (∀ k ∈ H3.log, k ∈ W) → Prot bs Hp M W B → Prot (bs ++ r) H3 M' W B) → LeavS c fn σs Rr Rp [] u' (M' ++ F)) → LeavS c fn σs Rr Rp D u (M ++ F)
  | [], bs, s, Hp, H3, M, F, σs, D, m, m2, u, hs, hm, hn, hD, hu, h, hk => by
    cases h; cases hD
    exact hk [] M u (by simpa using hs) (by simpa using hm) (by simpa using hu) (fun _ h => h) (fun _ _ _ h => by simpa using h)
  | .mark k :: ks, bs, s, Hp, H3, M, F, σs, D, m, m2, u, hs, hm, hn, ⟨b, x, y, D', e1, e2, e3⟩, hu, h, hk => by
    subst e2
    simp only [leaveX] at h
    split at h
    · rename_i hg
      obtain ⟨b', base, av, i, o', a1, a2, a3⟩ := hm.at_ k _ hg
      rw [e1] at a1; cases a1
      cases a3
      have hi : (M ++ F)[i]? = some (b, .deferred (some [])) := by
        rw [List.getElem?_append_left (List.getElem?_eq_some_iff.1 a2).1]; exact a2
      have hcov : Cov bs s ⟨Hp.h, Hp.n, Hp.log, []⟩ M F ⟨σs, [], M ++ F⟩ := ⟨hs, rfl, ⟨hm.n, hm.at_, hm.inj⟩, rfl⟩
      have hu2 := Post_upd (s2 := s) (σ' := ⟨σs, [], (M ++ F).set i (b, .deferred none)⟩) (ob2 := .gone) hcov hn hg e1 a2 trivial hs rfl rfl
      obtain ⟨r, M1, f1, f2, f3, f4, f5, f6⟩ := hu2
      have f4' : HCov (bs ++ r) (Hp.upd k .gone) M1 := ⟨f4.n, f4.at_, f4.inj⟩
      have f2' : (M ++ F).set i (b, .deferred none) = M1 ++ F := f2
      have hn2 : ((M1 ++ F).map Prod.fst).Nodup := by rw [← f2']; exact nodup_set hn hi _
      refine ⟨hu.ne, .inl ⟨b, i, M1 ++ F, rfl, hi, by rw [← f2']; exact setL_some _ hi, ?_⟩⟩
      refine leaveX_ok hcall ks f3 f4' hn2 (e3.mono r) (hu.mono r) h fun r2 M2 u2 g1 g2 g3 g4 g5 => ?_
      rw [List.append_assoc] at g1 g2 g3 g5
      refine hk (r ++ r2) M2 u2 g1 g2 g3 (fun k hk => g4 k (List.mem_cons_of_mem _ hk)) fun W B hW hB => ?_
      refine g5 W B hW ?_
      have := f6 W B (fun k hk => hW k (g4 k hk)) (by simpa [Prot] using hB)
      exact fun q hq => this q hq
    · cases h
  | .call f A B :: ks, bs, s, Hp, H3, M, F, σs, D, m, m2, u, hs, hm, hn, ⟨A', B', D', e1, e2, e3, e4⟩, hu, h, hk => by
    subst e3
    simp only [leaveX] at h
    split at h
    · rename_i m3 H4 hd
      have hfc := hcall.dc _ _ _ _ _ _ hd
      have hD := hcall.dn _ _ _ _ _ _ hd bs M F (A' ++ B') u hm (e1.append e2) hu
      refine ⟨hu.ne, .inr ⟨f, A'.toArray, B'.toArray, rfl, hfc, FnD_nodup (FnD.mono (by simpa using hD) ?_)⟩⟩
      rintro u' L' ⟨r, M1, rfl, f2, f3, f4, f5, f6⟩ hn2
      refine leaveX_ok hcall ks (hs.mono r) f3 hn2 (e4.mono r) f2 h fun r2 M2 u2 g1 g2 g3 g4 g5 => ?_
      rw [List.append_assoc] at g1 g2 g3 g5
      exact hk (r ++ r2) M2 u2 g1 g2 g3 (fun k hk => g4 k (f5 k hk)) fun W B hW hB => g5 W B hW (f6 W B (fun k hk => hW k (g4 k hk)) hB)
    · cases h
theorem covS_zip {bs : Bs} : ∀ {ps : List Nat} {vs : List V} {vs' : List Value} {s : S} {σs : List (Nat × Value)}, CovS bs s σs → RVs bs vs vs' → CovS bs (zipX ps vs s) (zipS ps vs' σs)
  | [], _, _, _, _, h, _ => by simpa [zipX, zipS] using h
  | _ :: _, [], _, _, _, h, hv => by cases hv; simpa [zipX, zipS] using h
  | p :: ps, v :: vs, _, s, σs, h, .cons h1 h2 => by
    simp only [zipX, zipS]
    exact covS_zip (h.put h1) h2
theorem roundX_ok {bs : Bs} {k : Nat} {ds0 : List DI} {e : EX} {H4 H5 : H} {v : V} {M F : List (Nat × Obj)} {g w : World} {l x y : Nat} {P : Program} (hk : bs[k]? = some (l, x, y)) (hm : HCov bs H4 M) (hmem : Mem g (M ++ F) w) (h : roundX k ds0 e H4 = some (v, H5)) :
    ∃ jump, (e = .normal ∧ jump = none ∨ e = .ret ∧ jump = some .ret ∨ ∃ id, e = .exit id ∧ jump = some (.exit id)) ∧ ∃ w6, (Instr.endRound l jump).run P w = .ok (.bool jump.isNone) w6 ∧ ∃ L', Mem g L' w6 ∧ FPost bs ⟨H4.h, H4.n, H4.log, ds0⟩ M F v H5 (.bool jump.isNone) L' := by
  unfold roundX at h
  split at h
  · rename_i cl hg
    obtain ⟨l', x1, x2, i, o', a1, a2, rec, σs, rfl, a3, a4, a5, a6, a7, a8, a9⟩ := hm.at_ _ _ hg
    rw [hk] at a1; cases a1
    have hi : (M ++ F)[i]? = some (l, .loop rec) := by rw [List.getElem?_append_left (List.getElem?_eq_some_iff.1 a2).1]; exact a2
    have main : ∀ (jump : Option Code) (st : LSt), (∀ r : Loop, r.state = (if jump.isNone then .ready else .done) → r.pending = jump → st.fits r) →
        ∃ w6, (Instr.endRound l jump).run P w = .ok (.bool jump.isNone) w6 ∧ ∃ L', Mem g L' w6 ∧ FPost bs ⟨H4.h, H4.n, H4.log, ds0⟩ M F (.bool jump.isNone) ⟨H4.h.set k (.loop cl st), H4.n, k :: H4.log, ds0⟩ (.bool jump.isNone) L' := by
      intro jump st hst
      have h1 := run_endRound (P := P) jump (hmem.at_ hi)
      have h2 := hmem.putObj hi (.loop { rec with state := if jump.isNone then .ready else .done, pending := jump })
      refine ⟨_, h1, _, h2, ?_⟩
      have hcov : Cov bs ⟨[], [], 0⟩ ⟨H4.h, H4.n, H4.log, []⟩ M F ⟨[], [], M ++ F⟩ := ⟨covS_none, rfl, ⟨hm.n, hm.at_, hm.inj⟩, rfl⟩
      have hu := Post_upd (s2 := ⟨[], [], 0⟩) (σ' := ⟨[], [], (M ++ F).set i (l, .loop { rec with state := if jump.isNone then .ready else .done, pending := jump })⟩) (ob2 := .loop cl st) hcov hmem.nodup hg hk a2 ⟨{ rec with state := if jump.isNone then .ready else .done, pending := jump }, σs, rfl, a3, a4, a5, a6, a7, a8, hst _ rfl rfl⟩ covS_none rfl rfl
      obtain ⟨r, M1, f1, f2, f3, f4, f5, f6⟩ := hu
      refine ⟨r, M1, f2, .bool _, ⟨f4.n, f4.at_, f4.inj⟩, rfl, f5, fun W B hW hB => ?_⟩
      have := f6 W B hW (by simpa [Prot] using hB)
      exact fun q hq => this q hq
    split at h
    · cases h
      obtain ⟨w6, h1, h2⟩ := main none .ready (fun r h1 h2 => ⟨h1, h2⟩)
      exact ⟨none, .inl ⟨rfl, rfl⟩, w6, h1, h2⟩
    · cases h
      obtain ⟨w6, h1, h2⟩ := main (some .ret) (.done .ret) (fun r h1 h2 => ⟨h1, h2⟩)
      exact ⟨some .ret, .inr (.inl ⟨rfl, rfl⟩), w6, h1, h2⟩
    · rename_i id
      cases h
      obtain ⟨w6, h1, h2⟩ := main (some (.exit id)) (.done (.exit id)) (fun r h1 h2 => ⟨h1, h2⟩)
      exact ⟨some (.exit id), .inr (.inr ⟨id, rfl, rfl⟩), w6, h1, h2⟩
    · cases h
  · cases h
theorem FPost.comp {bs r : Bs} {Hp H1 : H} {M M1 F : List (Nat × Obj)} {v : V} {H2 : H} {v' : Value} {L' : List (Nat × Obj)} (hl : ∀ k ∈ Hp.log, k ∈ H1.log) (hp : ∀ W B, (∀ k ∈ H1.log, k ∈ W) → Prot bs Hp M W B → Prot (bs ++ r) H1 M1 W B) (hd : H1.ds = Hp.ds) (h : FPost (bs ++ r) H1 M1 F v H2 v' L') : FPost bs Hp M F v H2 v' L' := by
  obtain ⟨r2, M2, f1, f2, f3, fd, f5, f6⟩ := h
  exact ⟨r ++ r2, M2, f1, by rw [← List.append_assoc]; exact f2, by rw [← List.append_assoc]; exact f3, fd.trans hd, fun k hk => f5 k (hl k hk), fun W B hW hB => by
    rw [← List.append_assoc]; exact f6 W B hW (hp W B (fun k hk => hW k (f5 k hk)) hB)⟩
theorem yieldX_ok {P : Program} {call : CallF} {lf : Nat} (hcall : CallOk P call) (hmix : P.follows .mixedOrders = true) {k : Nat} {vs : List V} {Hp : H} {v : V} {H2 : H} (h : yieldX P call lf k vs Hp = some (v, H2)) {bs : Bs} {M F : List (Nat × Obj)} {vs' : List Value} {l x y : Nat} (hm : HCov bs Hp M) (hk : bs[k]? = some (l, x, y)) (hvs : RVs bs vs vs') : YieldFn P l vs' (M ++ F) (FPost bs Hp M F v H2) := by
  unfold yieldX at h
  split at h
  · rename_i cl hg
    split at h
    · rename_i c1 c2 c3 c4
      split at h
      · rename_i s2 H3 hcode
        split at h
        · rename_i cl2 hg2
          split at h
          · rename_i e s4 H4 hcode2
            intro g w n hmem
            obtain ⟨l', x1, x2, i, o', a1, a2, rec, σs, rfl, a3, a4, a5, a6, a7, a8, a9⟩ := hm.at_ _ _ hg
            rw [hk] at a1; cases a1
            have hi : (M ++ F)[i]? = some (l, .loop rec) := by rw [List.getElem?_append_left (List.getElem?_eq_some_iff.1 a2).1]; exact a2
            have hlen := Nat.eq_of_beq_eq_true c1
            have hvl := hvs.length
            have hy := run_yield (P := P) (w := w) (args := vs'.toArray) (hmem.at_ hi) (by rw [a3]; simp; omega)
            refine ⟨rec.fn, _, rec.assign, rec.body, hy, roundIn_of_wpIn trivial ?_⟩
            have hz := holds_zip (g := g) (w := w) (N := cl.N) (D := []) (L := M ++ F) cl.ps vs' σs { tmps := rec.tmps, defers := [] } (psOk_ok c2) ⟨a6, a8, rfl, hmem⟩
            have e2 : (cl.ps.zip vs').foldl (fun t (q : Nat × Value) => t.setIfInBounds q.1 q.2) rec.tmps = (rec.params.zip vs'.toArray).foldl (fun tmps (q : Nat × Value) => tmps.setIfInBounds q.1 q.2) rec.tmps := by
              rw [a3, ← Array.foldl_toList, Array.toList_zip]
            simp only [e2] at hz
            rw [a4, a5]
            have hcov0 : Cov bs (zipX cl.ps vs cl.s) ⟨Hp.h, Hp.n, Hp.log, []⟩ M F ⟨zipS cl.ps vs' σs, [], M ++ F⟩ := ⟨covS_zip a7 hvs, rfl, ⟨hm.n, hm.at_, hm.inj⟩, rfl⟩
            have hwp := codeX_ok (c := ⟨P, g, cl.N, n, some l⟩) hcall hmix (fun h => by cases h) cl.assign c3 hcov0 hcode
            refine Go.wpIn_mono (hwp _ w hz) (fun e' a10 w3 hl3 => ?_)
            cases e' with
            | panic ch => obtain ⟨_, _, h, _⟩ := hl3; cases h
            | ret => obtain ⟨_, _, h, _⟩ := hl3; cases h
            | exit id => obtain ⟨_, _, h, _⟩ := hl3; cases h
            | goto t => obtain ⟨_, _, h, _⟩ := hl3; cases h
            | outgrown => obtain ⟨_, _, h, _⟩ := hl3; cases h
            | normal =>
              obtain ⟨σ', hH, _, hpost⟩ := hl3
              obtain ⟨r1, M1, hcov1, hlog1, hprot1, _⟩ := hpost.split
              obtain ⟨l2, y1, y2, i2, o2, b1, b2, rec2, σs2, rfl, b3, b4, b5, b6, b7, b8, b9⟩ := hcov1.mem.at_ _ _ hg2
              rw [bs_mono hk] at b1; cases b1
              have hi2 : σ'.L[i2]? = some (l, .loop rec2) := by rw [hcov1.L, List.getElem?_append_left (List.getElem?_eq_some_iff.1 b2).1]; exact b2
              have hb := run_beginRound (P := P) (hH.mem.at_ hi2) b9.1
              refine ⟨_, hb, ?_⟩
              have hm4 := hH.mem.putObj hi2 (.loop { rec2 with state := .busy })
              have hu := Post_upd (s2 := s2) (σ' := ⟨σ'.s, σ'.D, σ'.L.set i2 (l, .loop { rec2 with state := .busy })⟩) (ob2 := .loop cl2 .busy) hcov1 hH.mem.nodup hg2 (bs_mono hk) b2 ⟨{ rec2 with state := .busy }, σs2, rfl, b3, b4, b5, b6, b7, b8, rfl⟩ hcov1.slots rfl rfl
              obtain ⟨r2, M2, hcov2, hlog2, hprot2, _⟩ := hu.split
              have hH4 : Holds g cl.N ⟨σ'.s, σ'.D, σ'.L.set i2 (l, .loop { rec2 with state := .busy })⟩ a10 (w3.putObj l (.loop { rec2 with state := .busy })) := ⟨hH.size, hH.slots, hH.defers, hm4⟩
              have hwp2 := codeX_ok (c := ⟨P, g, cl.N, n, some l⟩) hcall hmix (fun h => by cases h) cl.body c4 hcov2 hcode2
              refine Go.wpIn_mono (hwp2 _ _ hH4) (fun e5 a5' w5 hl5 => ?_)
              have last : ∀ (σ5 : St), Holds g cl.N σ5 a5' w5 → Post (bs ++ r1 ++ r2) (H3.upd k (.loop cl2 .busy)) M2 F s4 H4 σ5 → ∃ jump, (e = .normal ∧ jump = none ∨ e = .ret ∧ jump = some .ret ∨ ∃ id, e = .exit id ∧ jump = some (.exit id)) ∧ ∃ w6, (Instr.endRound l jump).run P w5 = .ok (.bool jump.isNone) w6 ∧ ∃ L', Mem g L' w6 ∧ FPost bs Hp M F v H2 (.bool jump.isNone) L' := by
                intro σ5 hH5 hp5
                obtain ⟨r3, M3, hcov3, hlog3, hprot3, _⟩ := hp5.split
                have hmem5 := hH5.mem
                rw [hcov3.L] at hmem5
                obtain ⟨jump, k1, w6, k2, L', k3, k4⟩ := roundX_ok (bs_mono (bs_mono (bs_mono hk))) hcov3.mem hmem5 h
                refine ⟨jump, k1, w6, k2, L', k3, ?_⟩
                refine FPost.comp (r := r1) (H1 := ⟨H3.h, H3.n, H3.log, Hp.ds⟩) (M1 := M1) hlog1 (fun W B hW hB => ?_) rfl ?_
                · exact fun q hq => hprot1 W B hW (by simpa [Prot] using hB) q hq
                refine FPost.comp (r := r2) (H1 := ⟨(H3.upd k (.loop cl2 .busy)).h, H3.n, k :: H3.log, Hp.ds⟩) (M1 := M2) hlog2 (fun W B hW hB => ?_) rfl ?_
                · exact fun q hq => hprot2 W B hW (by simpa [Prot] using hB) q hq
                refine FPost.comp (r := r3) (H1 := ⟨H4.h, H4.n, H4.log, Hp.ds⟩) (M1 := M3) hlog3 (fun W B hW hB => ?_) rfl k4
                exact fun q hq => hprot3 W B hW (by simpa [Prot] using hB) q hq
              have hl5 : ∃ σ5, Holds g cl.N σ5 a5' w5 ∧ e5 = e.to ∧ Post (bs ++ r1 ++ r2) (H3.upd k (.loop cl2 .busy)) M2 F s4 H4 σ5 := by
                obtain ⟨σ5, h1, h2⟩ := hl5
                cases e with
                | panic v => exfalso; unfold roundX at h; split at h <;> cases h
                | normal => exact ⟨σ5, h1, h2⟩
                | ret => exact ⟨σ5, h1, h2⟩
                | exit id => exact ⟨σ5, h1, h2⟩
              cases e5 with
              | panic ch => obtain ⟨_, _, h, _⟩ := hl5; cases e <;> cases h
              | goto t => obtain ⟨_, _, h, _⟩ := hl5; cases e <;> cases h
              | outgrown => obtain ⟨_, _, h, _⟩ := hl5; cases e <;> cases h
              | normal =>
                obtain ⟨σ5, hH5, he, hp5⟩ := hl5
                obtain ⟨jump, ⟨_, rfl⟩ | ⟨rfl, _⟩ | ⟨id, rfl, _⟩, w6, k2, L', k3, k4⟩ := last σ5 hH5 hp5
                · exact ⟨_, w6, k2, _, L', rfl, k3, k4⟩
                · cases he
                · cases he
              | ret =>
                obtain ⟨σ5, hH5, he, hp5⟩ := hl5
                obtain ⟨jump, ⟨rfl, _⟩ | ⟨_, rfl⟩ | ⟨id, rfl, _⟩, w6, k2, L', k3, k4⟩ := last σ5 hH5 hp5
                · cases he
                · exact ⟨_, w6, k2, _, L', rfl, k3, k4⟩
                · cases he
              | exit id' =>
                obtain ⟨σ5, hH5, he, hp5⟩ := hl5
                obtain ⟨jump, ⟨rfl, _⟩ | ⟨rfl, _⟩ | ⟨id, rfl, rfl⟩, w6, k2, L', k3, k4⟩ := last σ5 hH5 hp5
                · cases he
                · cases he
                · cases he
                  exact ⟨_, w6, k2, _, L', rfl, k3, k4⟩
          · cases h
        · cases h
      · cases h
    · cases h
  · cases h
def tupV : List V → V
  | [v] => v
  | l => .tup l
theorem RM.ret {bs : Bs} : RM bs none .returning := rfl
theorem RM.pan {bs : Bs} {v : V} {v' : Value} (h : RV bs v v') : RM bs (some v) (.panicking (Go.Proofs.YtdiaogcogkapgaaGreatDoor.pan v')) := ⟨v', rfl, h⟩
theorem resX_res {P : Program} {g : World} {N n : Nat} {fn : Func} {bs : Bs} {s : S} {Hp : H} {M F : List (Nat × Obj)} {σs : List (Nat × Value)} {l : List V} (hs : CovS bs s σs) (hm : HCov bs Hp M) (hr : resX P s Hp.h fn.results.toList = some l) : ∃ v', Res ⟨P, g, N, n, none⟩ fn ⟨σs, [], M ++ F⟩ v' ∧ RV bs (tupV l) v' := by
  have hcov : Cov bs s ⟨Hp.h, Hp.n, Hp.log, []⟩ M F ⟨σs, [], M ++ F⟩ := ⟨hs, rfl, ⟨hm.n, hm.at_, hm.inj⟩, rfl⟩
  obtain ⟨l', h1, h2⟩ := resX_ok (c := ⟨P, g, N, n, none⟩) hcov hr
  refine ⟨(if h : l'.toArray.size = 1 then l'.toArray[0] else .tuple l'.toArray), fun a w ha => ?_, ?_⟩
  · have h3 := h2 a w ha
    rw [results_eq, Array.mapM_eq_mapM_toList]
    simp [h3]
  · match l, l', h1 with
    | [], [], h1 => simpa [tupV] using RV.tup h1
    | [u], [u'], .cons h1 _ => simpa [tupV] using h1
    | a :: b :: l, a' :: b' :: l', h1 => simpa [tupV] using RV.tup h1
theorem goneX_ok {P : Program} {g : World} {N : Nat} {call : CallF} (hcall : CallOk P call) {x : XF} {bs : Bs} {s2 : S} {Hp H1 H2 : H} {M F : List (Nat × Obj)} {σ' : St} {m : Option V} {u : FrameMode} {o : FR} (hnod : (σ'.L.map Prod.fst).Nodup)
    (hp : ∃ (r : Bs) (M' : List (Nat × Obj)), RD (bs ++ r) H1.ds σ'.D ∧ σ'.L = M' ++ F ∧ CovS (bs ++ r) s2 σ'.s ∧ HCov (bs ++ r) H1 M' ∧ (∀ k ∈ Hp.log, k ∈ H1.log) ∧ (∀ W B, (∀ k ∈ H1.log, k ∈ W) → Prot bs ⟨Hp.h, Hp.n, Hp.log, []⟩ M W B → Prot (bs ++ r) H1 M' W B) ∧ RM (bs ++ r) m u)
    (h : goneX P call x Hp.ds s2 H1 m = some (o, H2)) : LeavS ⟨P, g, N, 0, none⟩ x.fn σ'.s (fun v' L' => ∃ v, o = .ret v ∧ FPost bs Hp M F v H2 v' L') (fun v' L' => ∃ v, o = .pan v ∧ FPost bs Hp M F v H2 v' L') σ'.D u σ'.L := by
  obtain ⟨r, M', f1, f2, f3, f4, f5, f6, f7⟩ := hp
  unfold goneX at h
  split at h
  · rename_i m2 H3 hl
    rw [f2] at hnod ⊢
    refine leaveX_ok (c := ⟨P, g, N, 0, none⟩) hcall H1.ds f3 f4 hnod f1 f7 hl fun r2 M2 u2 g1 g2 g3 g4 g5 => ?_
    have fp : ∀ {v : V} {v' : Value}, RV (bs ++ r ++ r2) v v' → FPost bs Hp M F v ⟨H3.h, H3.n, H3.log, Hp.ds⟩ v' (M2 ++ F) := fun {v v'} hv => by
      rw [List.append_assoc] at hv g2 g5
      refine ⟨r ++ r2, M2, rfl, hv, ⟨g2.n, g2.at_, g2.inj⟩, rfl, fun k hk => g4 k (f5 k hk), fun W B hW hB => ?_⟩
      have h5 := g5 W B hW (f6 W B (fun k hk => hW k (g4 k hk)) (by simpa [Prot] using hB))
      exact fun q hq => h5 q hq
    cases m2 with
    | none =>
      rw [show u2 = .returning from g3]
      simp only [retX] at h
      split at h
      · rename_i v hr
        cases h
        obtain ⟨v', h1, h2⟩ := resX_res (F := F) g1 g2 hr
        exact ⟨v', M2 ++ F, h1, .refl _, v, rfl, fp h2⟩
      · rename_i l hnl hr
        cases h
        obtain ⟨v', h1, h2⟩ := resX_res (F := F) g1 g2 hr
        refine ⟨v', M2 ++ F, h1, .refl _, _, rfl, fp ?_⟩
        match l, hnl, h2 with
        | [], _, h2 => exact h2
        | [u], h, _ => exact absurd rfl (h u)
        | _ :: _ :: _, _, h2 => exact h2
      · cases h
    | some v =>
      obtain ⟨v', h1, h2⟩ := g3
      rw [h1]
      simp only [retX] at h
      cases h
      exact ⟨v', rfl, v, rfl, fp h2⟩
  · cases h
theorem runF_ok {P : Program} {tab : T XF} {lf : Nat} {call : CallF} (hcall : CallOk P call) (hmix : P.follows .mixedOrders = true) (htab : ∀ f x, tab.get f = some x → GoodF P f x) {f : FuncId} {vs : List V} {Hp : H} {o : FR} {H2 : H} (h : runF P tab lf call f vs Hp = some (o, H2)) :
    FCall P f ∧ ∀ bs M F vs', HCov bs Hp M → RVs bs vs vs' → ∀ g w, Mem g (M ++ F) w → Calls P f vs'.toArray w (EndR g (fun v' L' => ∃ v, o = .ret v ∧ FPost bs Hp M F v H2 v' L') fun v' L' => ∃ v, o = .pan v ∧ FPost bs Hp M F v H2 v' L') := by
  unfold runF at h
  split at h
  · rename_i x hx
    have hg := htab f x hx
    split at h
    · rename_i hle
      refine ⟨hg.call, fun bs M F vs' hm hvs => ?_⟩
      have hlen := hvs.length
      have hle := Nat.le_of_ble_eq_true hle
      refine enterL hg.fn hg.body rfl (Nat.ble_eq_true_of_le (by omega)) fun g => WC_nodup ?_
      have hcov : Cov bs (S.ofArgs vs x.mask) ⟨Hp.h, Hp.n, Hp.log, []⟩ M F ⟨initS 0 vs', [], M ++ F⟩ := ⟨covS_row hvs, rfl, ⟨hm.n, hm.at_, hm.inj⟩, rfl⟩
      generalize hcode : codeX P call x.pt lf true x.fn.ntmps x.code (S.ofArgs vs x.mask) ⟨Hp.h, Hp.n, Hp.log, []⟩ = res at h
      cases res with
      | none => cases h
      | some q =>
        obtain ⟨e, s2, H1⟩ := q
        refine (codeX_ok (c := ⟨P, g, x.fn.ntmps, 0, none⟩) hcall hmix (fun _ => rfl) x.code hg.ok hcov hcode).mono fun e' σ' hd hnod => ?_
        cases e with
        | exit id => cases h
        | normal =>
          obtain ⟨rfl, r, M', f1, f2, f3, f4, f5, f6⟩ := hd
          exact goneX_ok hcall hnod ⟨r, M', f1, f2, f3, f4, f5, f6, RM.ret⟩ h
        | ret =>
          obtain ⟨rfl, r, M', f1, f2, f3, f4, f5, f6⟩ := hd
          exact goneX_ok hcall hnod ⟨r, M', f1, f2, f3, f4, f5, f6, RM.ret⟩ h
        | panic v =>
          obtain ⟨v', rfl, r, M', f1, f2, f3, f4, f5, f6, f7⟩ := hd
          exact goneX_ok hcall hnod ⟨r, M', f1, f2, f3, f4, f5, f6, RM.pan f7⟩ h
    · cases h
  · cases h
theorem endD_ok {P : Program} {g : World} {N n : Nat} {x : XF} {bs : Bs} {e : EX} {s2 : S} {Hp H1 H2 : H} {M F : List (Nat × Obj)} {e' : Exit} {σ' : St} {m m2 : Option V} {u' : FrameMode} (hu : ∀ r, RM (bs ++ r) m (settle u'))
    (hd : DoneK bs ⟨Hp.h, Hp.n, Hp.log, []⟩ M F e s2 H1 e' σ') (h : endD P x Hp.ds m (some (e, s2, H1)) = some (m2, H2)) : postK ⟨P, g, N, n, none⟩ x.fn (fun _ L' => DPost bs Hp M F m2 H2 u' L') e' σ' := by
  have done : Post bs ⟨Hp.h, Hp.n, Hp.log, []⟩ M F s2 H1 σ' → doneD P x Hp.ds m s2 H1 = some (m2, H2) → σ'.D = [] ∧ ∃ v Lx, Res ⟨P, g, N, n, none⟩ x.fn σ' v ∧ Lx.Sublist σ'.L ∧ DPost bs Hp M F m2 H2 u' Lx := by
    rintro ⟨r, M', f1, f2, f3, f4, f5, f6⟩ h
    unfold doneD at h
    split at h
    · rename_i l hds hr
      cases h
      rw [hds] at f1
      obtain ⟨v', h1, _⟩ := resX_res (P := P) (g := g) (N := N) (n := n) (F := F) f3 f4 hr
      have hD : σ'.D = [] := f1
      obtain ⟨σs, D, L⟩ := σ'
      cases hD
      have f2' : L = M' ++ F := f2
      subst f2'
      refine ⟨rfl, v', M' ++ F, h1, .refl _, r, M', rfl, hu r, ⟨f4.n, f4.at_, f4.inj⟩, rfl, f5, fun W B hW hB => ?_⟩
      have h5 := f6 W B hW (by simpa [Prot] using hB)
      exact fun q hq => h5 q hq
    · cases h
  cases e with
  | normal => obtain ⟨rfl, hp⟩ := hd; exact done hp h
  | ret => obtain ⟨rfl, hp⟩ := hd; exact done hp h
  | exit id => cases h
  | panic v => cases h
theorem recOf_ok {c : Code} {d : Option Nat} {more : List Oper} {rest : Code} (h : recOf c = some (d, more, rest)) : ∃ id o args tys, c = .seq (.region id (o :: more).toArray false) rest ∧ o.op = .call { callee := .builtin .recover, args := args, argTypes := tys } ∧ o.guard = none ∧ o.dst = d := by
  unfold recOf at h
  split at h
  · rename_i id ops rest'
    split at h
    · rename_i o more' hl
      split at h
      · rename_i cl ho hg
        obtain ⟨cal, args, tys⟩ := cl
        split at h
        · rename_i hc
          simp only at hc
          subst hc
          cases h
          obtain rfl : ops = (o :: more).toArray := by apply Array.ext'; simpa using hl
          exact ⟨id, o, args, tys, rfl, ho, hg, rfl⟩
        · cases h
      · cases h
    · cases h
  · cases h
theorem calmL_ok {c : Cx} {bs : Bs} {Hp : H} {M F : List (Nat × Obj)} (hm : HCov bs Hp M) : ∀ {l : List Oper} {s s2 : S} {σs : List (Nat × Value)}, (∀ o ∈ l, dok c.N o.dst = true) → CovS bs s σs → calmL c.P Hp.h l s = some s2 → ∃ σs2, QS c (M ++ F) l σs σs2 ∧ CovS bs s2 σs2
  | [], s, s2, σs, _, hs, h => by cases h; exact ⟨σs, rfl, hs⟩
  | o :: r, s, s2, σs, hd, hs, h => by
    simp only [calmL] at h
    split at h
    · rename_i v rd hg hc
      obtain ⟨v', h1, h2⟩ := calmX_ok (c := c) (Ls := M ++ F) (o := o) hc hs (fun k ob _ hk => by
        obtain ⟨b, base, av, i, o', a1, a2, a3⟩ := hm.at_ k ob hk
        exact ⟨b, base, av, i, o', a1, by rw [List.getElem?_append_left (List.getElem?_eq_some_iff.1 a2).1]; exact a2, a3⟩)
      obtain ⟨σs2, h3, h4⟩ := calmL_ok hm (fun o ho => hd o (List.mem_cons_of_mem _ ho)) (CovS.putD (σ := ⟨σs, [], []⟩) (d := o.dst) hs h2) h
      exact ⟨σs2, ⟨v', hg, hd o List.mem_cons_self, h1, h3⟩, h4⟩
    · cases h
theorem defF_ok {P : Program} {tab : T XF} {lf : Nat} {call : CallF} (hcall : CallOk P call) (hmix : P.follows .mixedOrders = true) (htab : ∀ f x, tab.get f = some x → GoodF P f x) {f : FuncId} {vs : List V} {m m2 : Option V} {Hp : H} {H2 : H} (h : defF P tab lf call f vs m Hp = some (m2, H2)) :
    FCall P f ∧ ∀ bs M F vs' u, HCov bs Hp M → RVs bs vs vs' → RM bs m u → FnD P f vs' (M ++ F) u (DPost bs Hp M F m2 H2) := by
  unfold defF at h
  split at h
  · rename_i x hx
    have hg := htab f x hx
    split at h
    · rename_i hle
      refine ⟨hg.call, fun bs M F vs' u hm hvs hu => ?_⟩
      have hlen := hvs.length
      have hle := Nat.le_of_ble_eq_true hle
      have hle' : Nat.ble vs'.length x.fn.ntmps = true := Nat.ble_eq_true_of_le (by omega)
      have hcov : Cov bs (S.ofArgs vs x.mask) ⟨Hp.h, Hp.n, Hp.log, []⟩ M F ⟨initS 0 vs', [], M ++ F⟩ := ⟨covS_row hvs, rfl, ⟨hm.n, hm.at_, hm.inj⟩, rfl⟩
      split at h
      · rename_i d more rest hrec
        split at h
        rotate_left
        · cases h
        rename_i sm hsm
        obtain ⟨id, o, args, tys, hcode, ho, hgu, hd⟩ := recOf_ok hrec
        have hok := hg.ok
        rw [hcode] at hok
        simp only [codeOk] at hok
        split at hok
        · rename_i hok1
          have hdall : ∀ o' ∈ o :: more, dok x.fn.ntmps o'.dst = true := by
            split at hok1
            · rename_i h1 _; exact fun o' ho' => dstOk_mem h1 o' (by simpa using ho')
            · rename_i hf; cases hf
            · cases hok1
          have hdok : dok x.fn.ntmps o.dst = true := hdall o List.mem_cons_self
          subst hd
          have hrv : ∃ rv u', Recov u rv u' ∧ RV bs (recV m) rv ∧ settle u' = .returning := by
            cases m with
            | none => rw [show u = .returning from hu]; exact ⟨.nilIface, .returning, ⟨rfl, rfl⟩, .nili, rfl⟩
            | some v => obtain ⟨v', h1, h2⟩ := hu; rw [h1]; exact ⟨v', _, ⟨rfl, rfl⟩, h2, rfl⟩
          obtain ⟨rv, u', h1, h2, h3⟩ := hrv
          generalize hrun : codeX P call x.pt lf true x.fn.ntmps rest sm ⟨Hp.h, Hp.n, Hp.log, []⟩ = res at h
          cases res with
          | none => cases h
          | some q =>
            obtain ⟨e, s2, H1⟩ := q
            refine FnD_recover hg.fn (hg.body.trans (by rw [hcode])) rfl hle' ho hgu hdok h1 fun g n => ?_
            obtain ⟨σs2, hqs, hcs⟩ := calmL_ok (c := ⟨P, g, x.fn.ntmps, n, none⟩) (F := F) hm (fun o' ho' => hdall o' (List.mem_cons_of_mem _ ho')) (CovS.putD (σ := ⟨initS 0 vs', [], M ++ F⟩) (d := o.dst) hcov.slots h2) hsm
            refine ⟨σs2, hqs, ?_⟩
            have hcov2 : Cov bs sm ⟨Hp.h, Hp.n, Hp.log, []⟩ M F ⟨σs2, [], M ++ F⟩ := ⟨hcs, rfl, hcov.mem, rfl⟩
            exact (codeX_ok (c := ⟨P, g, x.fn.ntmps, n, none⟩) hcall hmix (fun _ => rfl) rest hok hcov2 hrun).mono fun e' σ' hd => endD_ok (m := none) (fun r => h3) hd h
        · cases hok
      · generalize hrun : codeX P call x.pt lf true x.fn.ntmps x.code (S.ofArgs vs x.mask) ⟨Hp.h, Hp.n, Hp.log, []⟩ = res at h
        cases res with
        | none => cases h
        | some q =>
          obtain ⟨e, s2, H1⟩ := q
          refine FnD_enter hg.fn hg.body rfl hle' fun g n => ?_
          have hset : settle u = u := by
            cases m with
            | none => rw [show u = .returning from hu]; rfl
            | some v => obtain ⟨v', h1, h2⟩ := hu; rw [h1]; rfl
          exact (codeX_ok (c := ⟨P, g, x.fn.ntmps, n, none⟩) hcall hmix (fun _ => rfl) x.code hg.ok hcov hrun).mono fun e' σ' hd => endD_ok (fun r => by rw [hset]; exact hu.mono r) hd h
    · cases h
  · cases h
theorem leaveX_ext {P : Program} {call : CallF} (hcall : CallOk P call) : ∀ {l : List DI} {m : Option V} {Hp : H} {m2 : Option V} {H2 : H}, leaveX call l m Hp = some (m2, H2) → Ext Hp H2
  | [], _, _, _, _, h => by cases h; exact .refl _
  | .mark k :: r, m, Hp, m2, H2, h => by
    simp only [leaveX] at h
    split at h
    · exact (Ext.upd _ _ _).trans (leaveX_ext hcall h)
    · cases h
  | .call f A B :: r, m, Hp, m2, H2, h => by
    simp only [leaveX] at h
    split at h
    · rename_i h1; exact (hcall.dx _ _ _ _ _ _ h1).trans (leaveX_ext hcall h)
    · cases h
theorem goneX_ext {P : Program} {call : CallF} (hcall : CallOk P call) {x : XF} {ds0 : List DI} {s2 : S} {H1 H2 : H} {m : Option V} {o : FR} (h : goneX P call x ds0 s2 H1 m = some (o, H2)) : Ext H1 H2 := by
  unfold goneX at h
  split at h
  · rename_i m2 H3 hl
    have h1 := leaveX_ext hcall hl
    cases m2 with
    | none =>
      simp only [retX] at h
      split at h
      · cases h; exact h1.ds
      · cases h; exact h1.ds
      · cases h
    | some v => simp only [retX] at h; cases h; exact h1.ds
  · cases h
theorem runF_ext {P : Program} {tab : T XF} {lf : Nat} {call : CallF} (hcall : CallOk P call) {f : FuncId} {vs : List V} {Hp : H} {o : FR} {H2 : H} (h : runF P tab lf call f vs Hp = some (o, H2)) : Ext Hp H2 := by
  unfold runF at h
  split at h
  · rename_i x hx
    split at h
    · generalize hcode : codeX P call x.pt lf true x.fn.ntmps x.code (S.ofArgs vs x.mask) ⟨Hp.h, Hp.n, Hp.log, []⟩ = res at h
      unfold endF at h
      have start : ∀ {e s2 H1}, res = some (e, s2, H1) → Ext Hp H1 := fun {e s2 H1} he => by
        have h1 := codeX_ext hcall x.code (hcode.trans he)
        exact ⟨h1.log, h1.n, h1.h⟩
      split at h
      · exact (start rfl).trans (goneX_ext hcall h)
      · exact (start rfl).trans (goneX_ext hcall h)
      · exact (start rfl).trans (goneX_ext hcall h)
      · cases h
    · cases h
  · cases h
theorem defF_ext {P : Program} {tab : T XF} {lf : Nat} {call : CallF} (hcall : CallOk P call) {f : FuncId} {vs : List V} {m m2 : Option V} {Hp : H} {H2 : H} (h : defF P tab lf call f vs m Hp = some (m2, H2)) : Ext Hp H2 := by
  have fin : ∀ {x : XF} {code : Code} {s : S} {m' : Option V}, endD P x Hp.ds m' (codeX P call x.pt lf true x.fn.ntmps code s ⟨Hp.h, Hp.n, Hp.log, []⟩) = some (m2, H2) → Ext Hp H2 := fun {x code s m'} h => by
    generalize hcode : codeX P call x.pt lf true x.fn.ntmps code s ⟨Hp.h, Hp.n, Hp.log, []⟩ = res at h
    have start : ∀ {e s2 H1}, res = some (e, s2, H1) → Ext Hp ⟨H1.h, H1.n, H1.log, Hp.ds⟩ := fun {e s2 H1} he => by
      have h1 := codeX_ext hcall code (hcode.trans he)
      exact ⟨h1.log, h1.n, h1.h⟩
    unfold endD at h
    split at h
    · unfold doneD at h
      split at h
      · cases h; exact start rfl
      · cases h
    · unfold doneD at h
      split at h
      · cases h; exact start rfl
      · cases h
    · cases h
  unfold defF at h
  split at h
  · split at h
    · split at h
      · split at h
        · exact fin h
        · cases h
      · exact fin h
    · cases h
  · cases h
theorem roundX_ext {k : Nat} {ds0 : List DI} {e : EX} {H4 H5 : H} {v : V} (h : roundX k ds0 e H4 = some (v, H5)) : Ext H4 H5 := by
  unfold roundX at h
  split at h
  · split at h
    · cases h; exact (Ext.upd H4 k _).ds
    · cases h; exact (Ext.upd H4 k _).ds
    · cases h; exact (Ext.upd H4 k _).ds
    · cases h
  · cases h
theorem yieldX_ext {P : Program} {call : CallF} {lf : Nat} (hcall : CallOk P call) {k : Nat} {vs : List V} {Hp : H} {v : V} {H2 : H} (h : yieldX P call lf k vs Hp = some (v, H2)) : Ext Hp H2 := by
  unfold yieldX at h
  split at h
  · rename_i cl hg
    split at h
    · split at h
      · rename_i s2 H3 hcode
        split at h
        · rename_i cl2 hg2
          split at h
          · rename_i e s4 H4 hcode2
            have h1 := codeX_ext hcall cl.assign hcode
            have h1' : Ext Hp H3 := ⟨h1.log, h1.n, h1.h⟩
            exact ((h1'.trans (Ext.upd _ _ _)).trans (codeX_ext hcall cl.body hcode2)).trans (roundX_ext h)
          · cases h
        · cases h
      · cases h
    · cases h
  · cases h
theorem retO_some {x : Option (FR × H)} {v : V} {H2 : H} (h : retO x = some (v, H2)) : x = some (.ret v, H2) := by
  unfold retO at h
  split at h
  · cases h; rfl
  · cases h
theorem panO_some {x : Option (FR × H)} {v : V} {H2 : H} (h : panO x = some (v, H2)) : x = some (.pan v, H2) := by
  unfold panO at h
  split at h
  · cases h; rfl
  · cases h
theorem funX_ok {P : Program} {tab : T XF} {lf : Nat} {pr : PrimF} (hpr : PrimOk P pr) (hmix : P.follows .mixedOrders = true) (htab : ∀ f x, tab.get f = some x → GoodF P f x) : ∀ n, CallOk P (funX P tab lf pr n)
  | 0 => ⟨fun _ _ _ _ _ h => (by cases h), fun _ _ _ _ _ h => (by cases h), fun _ _ _ _ _ h => (by cases h), fun _ _ _ _ _ _ h => (by cases h), fun _ _ _ _ _ h => (by cases h), fun _ _ _ _ _ h => (by cases h), fun _ _ _ _ _ _ h => (by cases h), fun _ _ _ _ _ _ h => (by cases h), fun _ _ _ _ _ h => (by cases h), fun _ _ _ _ _ h => (by cases h), fun _ _ _ _ _ h => (by cases h)⟩
  | n + 1 => by
    have ih := funX_ok (lf := lf) hpr hmix htab n
    have pick : ∀ {a b : Option (V × H)} {v : V} {H2 : H}, primO a b = some (v, H2) → a = some (v, H2) ∨ b = some (v, H2) := fun {a b v H2} h => by
      cases a with
      | none => exact .inr h
      | some r => exact .inl h
    refine ⟨fun f vs Hp v H2 h => (pick h).elim (hpr.x _ _ _ _ _) (fun h => runF_ext ih (retO_some h)), fun k vs Hp v H2 h => yieldX_ext ih h, fun f vs Hp v H2 h => runF_ext ih (panO_some h), fun f vs m Hp m2 H2 h => defF_ext ih h, fun f vs Hp v H2 h => (runF_ok ih hmix htab (panO_some h)).1, fun f vs Hp v H2 h bs M F vs' hm hvs g w hmem => ?_, fun f vs m Hp m2 H2 h => (defF_ok ih hmix htab h).1, fun f vs m Hp m2 H2 h bs M F vs' u hm hvs hu => (defF_ok ih hmix htab h).2 bs M F vs' u hm hvs hu,
      fun f vs Hp v H2 h => (pick h).elim (hpr.c _ _ _ _ _) (fun h => (runF_ok ih hmix htab (retO_some h)).1), fun f vs Hp v H2 h bs M F vs' hm hvs g w hmem => ?_, fun k vs Hp v H2 h bs M F vs' l x y hm hk hvs => yieldX_ok ih hmix h hm hk hvs⟩
    · refine ((runF_ok ih hmix htab (panO_some h)).2 bs M F vs' hm hvs g w hmem).mono fun e w' hend => ?_
      rcases hend with ⟨v', L', h1, h2, v2, h3, h4⟩ | ⟨v', L', h1, h2, v2, h3, h4⟩
      · cases h3
      · cases h3; exact ⟨v', L', h1, h2, h4⟩
    · rcases pick h with h | h
      · exact hpr.n _ _ _ _ _ h bs M F vs' hm hvs g w hmem
      · refine ((runF_ok ih hmix htab (retO_some h)).2 bs M F vs' hm hvs g w hmem).mono fun e w' hend => ?_
        rcases hend with ⟨v', L', h1, h2, v2, h3, h4⟩ | ⟨v', L', h1, h2, v2, h3, h4⟩
        · cases h3; exact ⟨v', L', h1, h2, h4⟩
        · cases h3
def trueG (P : Program) (tab : T XF) (lf : Nat) (pr : PrimF) (H0 : H) (n : Nat) (f : FuncId) : Bool := match (funX P tab lf pr n).f f [] H0 with
  | some (.bool true, H2) => match memB 0 H2.log with
    | true => false
    | false => true
  | _ => false
theorem runG {P : Program} {tab : T XF} {lf n : Nat} {pr : PrimF} {f : FuncId} {bs0 : Bs} {H0 : H} {M0 : List (Nat × Obj)} (hpr : PrimOk P pr) (hmix : P.follows .mixedOrders = true) (htab : ∀ f x, tab.get f = some x → GoodF P f x) (hm0 : HCov bs0 H0 M0) (hk0 : ∀ k o, H0.h.get k = some o → k = 0) (h : trueG P tab lf pr H0 n f = true) (F : List (Nat × Obj)) : Fn P f [] (M0 ++ F) (fun v L' => v = .bool true ∧ L' = M0 ++ F) := fun g w hm => by
  unfold trueG at h
  split at h
  · rename_i H2 h1
    split at h
    · cases h
    · rename_i hlog
      have h2 := (funX_ok hpr hmix htab n).fn _ _ _ _ _ h1 bs0 M0 F [] hm0 .nil
      refine (h2 g w hm).mono fun e w' ⟨v, L', e1, e2, r, M', e3, e4, e5, e6, e7, e8⟩ => ?_
      cases e4
      subst e3
      have hp := e8 H2.log M0 (fun _ h => h) (fun q hq => ⟨hq, fun j o x y hj _ hw => by
        rw [hk0 j o hj] at hw
        exact memB_no hlog hw⟩)
      refine ⟨.bool true, M0 ++ F, e1, e2.sub hm.nodup (fun q hq => ?_), rfl, rfl⟩
      rcases List.mem_append.1 hq with hq | hq
      · exact List.mem_append_left _ (hp q hq).1
      · exact List.mem_append_right _ hq
  · cases h
theorem runD {P : Program} {tab : T XF} {lf n : Nat} {pr : PrimF} {f : FuncId} {bs0 : Bs} {H0 : H} {q : Nat × Obj} {L : List (Nat × Obj)} (hpr : PrimOk P pr) (hmix : P.follows .mixedOrders = true) (htab : ∀ f x, tab.get f = some x → GoodF P f x) (hm0 : HCov bs0 H0 [q]) (hk0 : ∀ k o, H0.h.get k = some o → k = 0) (h : trueG P tab lf pr H0 n f = true) (hq : q ∈ L) : Fn P f [] L (fun v L' => v = .bool true ∧ L' = L) := fun g w hm => by
  obtain ⟨A, B, rfl⟩ := List.append_of_mem hq
  have hm2 : Mem g ([q] ++ (A ++ B)) w := hm.sub (by
    have h1 := hm.nodup
    rw [List.map_append, List.map_cons] at h1
    have h2 := (List.perm_middle (a := q.1) (l₁ := A.map Prod.fst) (l₂ := B.map Prod.fst)).nodup_iff.1 h1
    simpa using h2) (fun p hp => by
    simp only [List.mem_append, List.mem_cons] at hp ⊢
    rcases hp with (rfl | h) | h | h
    · exact .inr (.inl rfl)
    · cases h
    · exact .inl h
    · exact .inr (.inr h))
  refine (runG hpr hmix htab hm0 hk0 h (A ++ B) g w hm2).mono fun e w' ⟨v, L', e1, e2, e3, e4⟩ => ?_
  subst e4
  refine ⟨v, A ++ q :: B, e1, e2.sub hm.nodup (fun p hp => ?_), e3, rfl⟩
  simp only [List.mem_append, List.mem_cons] at hp ⊢
  rcases hp with h | rfl | h
  · exact .inr (.inl h)
  · exact .inl (.inl rfl)
  · exact .inr (.inr h)
end
end Go.Proofs.YtdiaogcogkapgaaGreatDoor
namespace Go.Proofs.YtdiaogcogkapgaaGreatDoor
open Go.RowKit
section
variable {c : Cx} {s : List (Nat × Value)} {L : List (Nat × Obj)} {o : Oper}
theorem Qt_eql_ifN {t t' : TypeId} {ms : Array (String × TypeId)} [hu : TUnd c.P t (.interface ms)] {x : Operand} {cv : Value} (ho : o.op = .binOp .eql t x (.const cv) t') (hx : ev s x = some .nilIface := by exact rfl) (hy : cv = .nilIface := by exact rfl) : Qt c s L o (.bool true) :=
  Qt_of_run (by simp [ho]) (fun ρ hρ w _ => by
    subst hy
    obtain ⟨h1, h2⟩ := run_equalIn_iface (P := c.P) w 9999 t hu.h
    have e : (binOp .eql t .nilIface .nilIface).run c.P w = .ok (.bool true) w := by simp only [binOp]; simp [Op.equal, Op.maxDepth, h1]
    simp [execOp, ho, hρ x _ hx, hρ (.const .nilIface) _ rfl, eqGuard, e])
theorem Qt_eql_ifS {t t' u : TypeId} {ms : Array (String × TypeId)} [hu : TUnd c.P t (.interface ms)] {x : Operand} {cv v : Value} (ho : o.op = .binOp .eql t x (.const cv) t') (hx : ev s x = some (.iface u v) := by exact rfl) (hy : cv = .nilIface := by exact rfl) : Qt c s L o (.bool false) :=
  Qt_of_run (by simp [ho]) (fun ρ hρ w _ => by
    subst hy
    obtain ⟨h1, h2⟩ := run_equalIn_iface (P := c.P) w 9999 t hu.h
    have e : (binOp .eql t (.iface u v) .nilIface).run c.P w = .ok (.bool false) w := by simp only [binOp]; simp [Op.equal, Op.maxDepth, (h2 _ _).1]
    simp [execOp, ho, hρ x _ hx, hρ (.const .nilIface) _ rfl, eqGuard, e])
theorem Qt_makeInterface {t : TypeId} {d : TypeDesc} [hu : TUnd c.P t d] {x : Operand} {v : Value} (ho : o.op = .makeInterface t x) (hx : ev s x = some v := by exact rfl) (hd : ∀ ms, d ≠ .interface ms := by intro ms h; cases h) : Qt c s L o (.iface t v) :=
  Qt_of_run (by simp [ho]) (fun ρ hρ w _ => by
    simp only [execOp, ho, hρ x _ hx, Instr.makeInterface, Sem.run_bind, run_underlying hu.h]
    cases d <;> first | rfl | exact absurd rfl (hd _))
theorem Qt_typeAssert {t u : TypeId} {d : TypeDesc} [hu : TUnd c.P t d] {x : Operand} {v : Value} (ho : o.op = .typeAssert x u t true) (hx : ev s x = some (.iface t v) := by exact rfl) (hd : ∀ ms, d ≠ .interface ms := by intro ms h; cases h) : Qt c s L o (.tuple #[v, .bool true]) :=
  Qt_of_run (by simp [ho]) (fun ρ hρ w _ => by
    simp only [execOp, ho, hρ x _ hx, Instr.typeAssert, Sem.run_bind, run_underlying hu.h]
    cases d <;> first | exact absurd rfl (hd _) | simp)
end
theorem Fn_enterD {P : Program} {f : FuncId} {fn : Func} {code : Code} {args : List Value} {L : List (Nat × Obj)} {R : Value → List (Nat × Obj) → Prop} {N : Nat} (hf : P.funcs[f]? = some fn) (hb : fn.body = some code) (hN : fn.ntmps = N) (hl : Nat.ble args.length N = true)
    (h : ∀ g, WC ⟨P, g, N, 0, none⟩ code (postL ⟨P, g, N, 0, none⟩ fn R (fun _ _ => False)) ⟨initS 0 args, [], L⟩) : Fn P f args L R := fun g w hm =>
  (enterL hf hb hN hl h g w hm).mono fun _ _ hE => by
    rcases hE with ⟨v, L', h1, h2, h3⟩ | ⟨v, L', _, _, h3⟩
    · exact ⟨v, L', h1, h2, h3⟩
    · exact h3.elim
theorem FnP_enter {P : Program} {f : FuncId} {fn : Func} {code : Code} {args : List Value} {L : List (Nat × Obj)} {R : Value → List (Nat × Obj) → Prop} {N : Nat} (hf : P.funcs[f]? = some fn) (hb : fn.body = some code) (hN : fn.ntmps = N) (hl : Nat.ble args.length N = true)
    (h : ∀ g, WC ⟨P, g, N, 0, none⟩ code (postL ⟨P, g, N, 0, none⟩ fn (fun _ _ => False) R) ⟨initS 0 args, [], L⟩) : FnP P f args L R := fun g w hm =>
  (enterL hf hb hN hl h g w hm).mono fun _ _ hE => by
    rcases hE with ⟨v, L', _, _, h3⟩ | ⟨v, L', h1, h2, h3⟩
    · exact h3.elim
    · exact ⟨v, L', h1, h2, h3⟩
section
variable {c : Cx} {o : Oper} {Kn : St → Prop} {K : Exit → St → Prop}
theorem OW_pan {s : List (Nat × Value)} {D : List Deferred} {L : List (Nat × Obj)} {f : FuncId} {args : Array Operand} {tys : Array TypeId} [hf : FCall c.P f] {vs : List Value} {R : Value → List (Nat × Obj) → Prop}
    (ho : o.op = .call { callee := .value (.func f), args := args, argTypes := tys }) (hF : FnP c.P f vs L R) (hk : ∀ v L', R v L' → K (.panic (pan v)) ⟨[], D, L'⟩) (ha : evs s args.toList = some vs := by exact rfl) : OW c o Kn K ⟨s, D, L⟩ :=
  OW_callvP (σ := ⟨s, D, L⟩) (x := .func f) (A := #[]) (B := #[]) ho rfl ha (by simpa using hF) hk
def pK (ops : Array Oper) (s : List (Nat × Value)) (K : Exit → St → Prop) : Exit → St → Prop
  | .panic ch, σ => K (.panic ch) ⟨keepS ops s, σ.D, σ.L⟩
  | e, σ => K e σ
theorem WC_regP {id : Nat} {l : List Oper} {s : List (Nat × Value)} {D : List Deferred} {L : List (Nat × Obj)} (h : WL c l.toArray l (pK l.toArray s K) ⟨s, D, L⟩) : WC c (.region id l.toArray false) K ⟨s, D, L⟩ :=
  WC_regionP (σ := ⟨s, D, L⟩) (fun e σ' he h => by cases e <;> first | exact h | exact absurd rfl (he _)) (fun ch D L h => h) h
theorem WC_drP {ops : Array Oper} {s : List (Nat × Value)} {D : List Deferred} {L : List (Nat × Obj)} {id : Nat} (m : Nat) (p : Plan) (hm : c.P.follows .mixedOrders = true)
    (hok : (Region.noSelect ops && lateOk ops m && planOk ops m p ops.size (Array.replicate ops.size false)) = true) (h : WR c ops (pK ops s K) L m p ⟨s, D, L⟩) : WC c (.region id ops true) K ⟨s, D, L⟩ := fun a w ha => by
  simp only [Bool.and_eq_true] at hok
  have ha' : Holds c.g c.N ⟨s, D, L⟩ a { w with drawn := w.drawn + 1 } := ha.mem' ha.mem.drew
  exact Go.wpIn_mono (wpIn_region_any hm (wpAnyIn_keepS _ _ _ _ (fun _ _ => rfl) (AnyH.any _ _ _ _ (WR_any hok.1.1 hok.1.2 p L ha.mem.nodup _ _ ⟨s, D, L⟩ hok.2 h a _ ha' (fun _ => ha'.mem))))) fun _ _ _ hl =>
    lift_of_panI ha (fun e σ' he h => by cases e <;> first | exact h | exact absurd rfl (he _)) (fun ch D L h => h) hl
theorem OW_def {s : List (Nat × Value)} {D : List Deferred} {L : List (Nat × Obj)} {f : FuncId} {args : Array Operand} {tys : Array TypeId} {vs : List Value} (ho : o.op = .defer { callee := .value (.func f), args := args, argTypes := tys }) (hr : c.r = none := by exact rfl) (hdst : o.dst = none := by exact rfl) (ha : evs s args.toList = some vs := by exact rfl)
    (hk : Kn ⟨s, { target := .fn (.func f) #[], args := vs.toArray } :: D, L⟩) : OW c o Kn K ⟨s, D, L⟩ := by
  refine OW_defer (σ := ⟨s, D, L⟩) (x := .func f) (A := #[]) (B := #[]) hr ho rfl ha (by rw [hdst]; rfl) ?_
  rw [hdst]
  simpa [St.put] using hk
end
theorem LeavS_one {c : Cx} {fn : Func} {s : List (Nat × Value)} {Rr Rp : Value → List (Nat × Obj) → Prop} {f : FuncId} {A : Array Value} {u : FrameMode} {L : List (Nat × Obj)} [hf : FCall c.P f] (hu : u ≠ .run) {Q : FrameMode → List (Nat × Obj) → Prop} (hD : FnD c.P f A.toList L u Q) (hk : ∀ u' L', Q u' L' → LeavS c fn s Rr Rp [] (settle u') L') : LeavS c fn s Rr Rp [{ target := .fn (.func f) #[], args := A }] u L :=
  ⟨hu, .inr ⟨f, A, #[], rfl, hf, fun g w n hm => by
    have h1 := hD g w n hm
    have e : A.toList ++ (#[] : Array Value).toList = A.toList := by simp
    rw [e]
    exact h1.mono fun _ _ _ ⟨v, L', e1, e2, e3⟩ => ⟨v, L', e1, e2, hk _ _ e3⟩⟩⟩
theorem OW_text {c : Cx} {o : Oper} {Kn : St → Prop} {K : Exit → St → Prop} {s : List (Nat × Value)} {D : List Deferred} {L : List (Nat × Obj)} {t t' e d : TypeId} [hu : TUnd c.P t .string] [hu' : TUnd c.P t' (.slice e)] [he : TUnd c.P e (.int .u8)] {x : Operand} {l : List UInt8} (ho : o.op = .convert t t' x) (hlen : l.length ≤ 1000000000)
    (hk : ∀ (b cap : Nat) (cs : Array Value) (fr : Nat × Nat), l.length ≤ cap → cap ≤ maxLen → (∀ (j : Nat) (u : UInt8), l[j]? = some u → cs[j]? = some (bV u)) → Kn ⟨(d, .slice (some ⟨b, 0, none⟩) l.length cap) :: s, D, (b, .cells cs e fr) :: L⟩) (hdst : o.dst = some d := by exact rfl) (hx : ev s x = some (.string (bstr l)) := by exact rfl) (hd : Nat.blt d c.N = true := by exact rfl) : OW c o Kn K ⟨s, D, L⟩ := fun a w ha => by
  refine ⟨fun _ _ => trivial, ?_⟩
  have hr := run_bytes_of_string (P := c.P) w t t' e (bstr l) hu.h hu'.h he.h
  have hge := grownCap_ge w (bstr l).size 0 e
  have hcm := grownCap_le_maxLen w (bstr l).size 0 e (by rw [bstr_size]; simp only [maxLen]; omega)
  obtain ⟨cap', hcap'⟩ : ∃ q, grownCap w (bstr l).size 0 e = q := ⟨_, rfl⟩
  rw [hcap'] at hr hge hcm
  rw [bstr_size] at hr hge
  have hr' : (execOp a.eval o).run c.P w = .ok (.value (.slice (some ⟨w.heap.size, 0, none⟩) l.length cap')) (w.drew.alloc (.cells (bytesRow (bstr l) cap') e ((bytesRow (bstr l) cap').size, (bytesRow (bstr l) cap').size + 1))) := by
    simp [execOp, ho, ha.ev hx, hr]
  rw [Oper.semAt_eq _ _ _ (by rw [ho]; intro cc h; cases h), hr']
  refine ⟨_, ?_, hk w.heap.size cap' (bytesRow (bstr l) cap') ((bytesRow (bstr l) cap').size, (bytesRow (bstr l) cap').size + 1) hge hcm fun j u hu => ?_⟩
  · rw [hdst]
    exact (ha.mem' ((ha.mem.drew).alloc _)).put (d := some d) hd _
  · have hj := (List.getElem?_eq_some_iff.1 hu).1
    unfold bytesRow
    rw [Array.getElem?_append_left (by simpa [bstr] using hj)]
    simp [bstr, hu, bV]
def meetQ (Q : St → Prop) (σ : St) : Prop := ∃ σ', Q σ' ∧ SubS σ'.s σ.s ∧ σ'.D = σ.D ∧ σ'.L.Sublist σ.L
theorem meet_next {c : Cx} {Q : St → Prop} {z : Code} {K : Exit → St → Prop} (hB : ∀ σ, Q σ → WC c z K σ) (e : Exit) (σ : St) (h : thenK (meetQ Q) K e σ) : thenK (WC c z K) K e σ := by
  cases e with
  | normal =>
    obtain ⟨σ', hQ, hs, hD, hL⟩ := h
    exact WC_lessen hs hD hL (hB σ' hQ)
  | _ => exact h
theorem WC_meet {c : Cx} {x z : Code} {K : Exit → St → Prop} {σ : St} (Q : St → Prop) (hA : WC c x (thenK (meetQ Q) K) σ) (hB : ∀ σ, Q σ → WC c z K σ) : WC c x (thenK (WC c z K) K) σ :=
  WC_mono hA (meet_next hB)
end Go.Proofs.YtdiaogcogkapgaaGreatDoor
namespace Go.Proofs.YtdiaogcogkapgaaGreatDoor
open Go.RowKit
def Buf (E sz : Nat) (v : Value) (T : List (Nat × Obj)) (n : Nat) (xs : List Value) : Prop :=
  (xs = [] ∧ n = 0 ∧ v = .slice none 0 0 ∧ T = []) ∨ ∃ (g off cap : Nat) (cur : Array Value), v = .slice (some ⟨g, off, none⟩) n cap ∧ T = [(g, .cells cur E (0, 0))] ∧ Own sz cur off cap n xs
theorem Buf.nil (E sz : Nat) : Buf E sz (.slice none 0 0) [] 0 [] := .inl ⟨rfl, rfl, rfl, rfl⟩
theorem Buf.vec {E sz : Nat} {v : Value} {T : List (Nat × Obj)} {n : Nat} {xs : List Value} (h : Buf E sz v T n xs) (A B : List (Nat × Obj)) : Vec sz (A ++ (T ++ B)) v n xs := by
  rcases h with ⟨rfl, rfl, rfl, rfl⟩ | ⟨g, off, cap, cur, rfl, rfl, h⟩
  · exact Vec.nil sz _
  · exact h.vec (E := E) (fr := (0, 0)) A.length (by simp)
theorem Buf.vec0 {E sz : Nat} {v : Value} {T : List (Nat × Obj)} {n : Nat} {xs : List Value} (h : Buf E sz v T n xs) (B : List (Nat × Obj)) : Vec sz (T ++ B) v n xs := h.vec [] B
theorem Buf.len {E sz : Nat} {v : Value} {T : List (Nat × Obj)} {n : Nat} {xs : List Value} (h : Buf E sz v T n xs) : xs.length = n * sz := by
  rcases h with ⟨rfl, rfl, _, _⟩ | ⟨g, off, cap, cur, _, _, h⟩
  · simp
  · exact h.len
theorem Buf.val {E sz : Nat} {v : Value} {T : List (Nat × Obj)} {n : Nat} {xs : List Value} (h : Buf E sz v T n xs) : ∃ a cap, v = .slice a n cap ∧ n ≤ cap ∧ cap ≤ maxLen := by
  rcases h with ⟨rfl, rfl, rfl, _⟩ | ⟨g, off, cap, cur, rfl, _, h⟩
  · exact ⟨_, _, rfl, Nat.le_refl _, by simp [maxLen]⟩
  · exact ⟨_, _, rfl, h.le, h.max⟩
theorem OW.permL {c : Cx} {o : Oper} {Kn : St → Prop} {K : Exit → St → Prop} {σ : St} (h : OW c o (fun σ' => ∃ L2 : List (Nat × Obj), L2.Perm σ'.L ∧ Kn ⟨σ'.s, σ'.D, L2⟩) K σ) : OW c o Kn K σ := fun a w ha =>
  Oper.wpIn_mono (fun _ _ ⟨_, h1, _, h2, h3⟩ => ⟨_, h1.mem' (h1.mem.perm h2), h3⟩) (h a w ha)
theorem OW_append_buf {c : Cx} {o : Oper} {Kn : St → Prop} {K : Exit → St → Prop} {s : List (Nat × Value)} {D : List Deferred} {A T B : List (Nat × Obj)} {t t2 E size by_ d : Nat} {z : Array Value} {x y : Operand} [hu : TUnd c.P t (.slice E)] [hrow : TRow c.P E z size by_]
    (ho : o.op = .call { callee := .builtin .append, args := #[x, y], argTypes := #[t, t2] }) (hdst : o.dst = some d) {v y' : Value} (hx : ev s x = some v) (hy : ev s y = some y') (hd : Nat.blt d c.N = true) {n m : Nat} {xs news : List Value} (hv : Buf E size v T n xs)
    (hs : SrcL c (A ++ (T ++ B)) size t2 y' m news) (hm : 0 < m) (hmax : n + m ≤ maxLen) (hby : (n + m) * by_ ≤ 140737488355328)
    (hk : ∀ v' T', Buf E size v' T' (n + m) (xs ++ news) → Kn ⟨(d, v') :: s, D, A ++ (T' ++ B)⟩) : OW c o Kn K ⟨s, D, A ++ (T ++ B)⟩ := by
  refine OW.permL ?_
  rcases hv with ⟨rfl, rfl, rfl, rfl⟩ | ⟨g, off, cap, cur, rfl, rfl, h⟩
  · refine OW_append_new ho hdst hx hy hd (Vec.nil size _) hs (by omega) hmax hby fun b cap' cur' h' => ?_
    refine ⟨A ++ ([(b, .cells cur' E (0, 0))] ++ B), ?_, hk _ _ (.inr ⟨b, 0, cap', cur', rfl, rfl, h'⟩)⟩
    simp only [List.nil_append, List.singleton_append]
    exact List.perm_middle
  · have hi : (A ++ ([(g, Obj.cells cur E (0, 0))] ++ B))[A.length]? = some (g, .cells cur E (0, 0)) := by simp
    refine OW_append_own ho hdst hx hy hd A.length hi h hs hmax hby fun b off' cap' cur' h' => ?_
    refine ⟨_, .refl _, ?_⟩
    have e : (A ++ ([(g, Obj.cells cur E (0, 0))] ++ B)).set A.length (b, .cells cur' E (0, 0)) = A ++ ([(b, .cells cur' E (0, 0))] ++ B) := by simp
    simp only [e]
    exact hk _ _ (.inr ⟨b, off', cap', cur', rfl, rfl, h'⟩)
theorem src1 {c : Cx} {L : List (Nat × Obj)} {t2 e b E : Nat} {u : Value} [hu : TUnd c.P t2 (.slice e)] (i : Nat) (hi : L[i]? = some (b, .cells #[u] E (0, 0))) (h1 : u.oneCell' = true := by rfl) : SrcL c L 1 t2 (.slice (some ⟨b, 0, none⟩) 1 1) 1 [u] :=
  srcVec ⟨rfl, _, _, rfl, Nat.le_refl _, by decide, .inr ⟨_, _, _, _, _, i, rfl, hi, fun j x hx => by
    cases j with
    | zero => simpa using hx
    | succ j => simp at hx⟩⟩ (by intro v hv; simp at hv; subst hv; exact h1)
theorem WC_dropL {c : Cx} {code : Code} {K : Exit → St → Prop} {s : List (Nat × Value)} {D : List Deferred} {L : List (Nat × Obj)} (L' : List (Nat × Obj)) (hs : L'.Sublist L) (h : WC c code K ⟨s, D, L'⟩) : WC c code K ⟨s, D, L⟩ := WC_drop (σ := ⟨s, D, L⟩) hs h
end Go.Proofs.YtdiaogcogkapgaaGreatDoor
namespace Go.Proofs.YtdiaogcogkapgaaGreatDoor
open Go.RowKit
theorem OW_append_nothing {c : Cx} {o : Oper} {Kn : St → Prop} {K : Exit → St → Prop} {s : List (Nat × Value)} {D : List Deferred} {L : List (Nat × Obj)} {t t2 E size by_ d : Nat} {z : Array Value} {x y : Operand} [hu : TUnd c.P t (.slice E)] [hrow : TRow c.P E z size by_]
    (ho : o.op = .call { callee := .builtin .append, args := #[x, y], argTypes := #[t, t2] }) (hdst : o.dst = some d) {a : Option Addr} {n cap : Nat} (hx : ev s x = some (.slice a n cap)) {y' : Value} (hy : ev s y = some y') (hd : Nat.blt d c.N = true) (hle : n ≤ cap)
    (hs : SrcL c L size t2 y' 0 []) (hk : Kn ⟨(d, .slice a n cap) :: s, D, L⟩) : OW c o Kn K ⟨s, D, L⟩ := fun ac w ha => by
  refine ⟨fun _ _ => trivial, ?_⟩
  obtain ⟨ii, zz, r1, r2, r3, r4, r5, r6⟩ := hrow.h
  have hsr := hs w ha.mem
  have hr := run_append_nothing (P := c.P) w t t2 o.type E ii hu.h r1 a n cap hle y' (by rw [r4]; exact hsr)
  have hr' : (execOp ac.eval o).run c.P w = .ok (.value (.slice a n cap)) w := by
    simp [execOp, ho, resolve, invoke, builtin, ha.ev hx, ha.ev hy, hr]
  rw [Oper.semAt_eq _ _ _ (by rw [ho]; intro cc h; cases h), hr']
  refine ⟨_, ?_, hk⟩
  rw [hdst]
  exact ha.put (d := some d) hd _
theorem OW_append_bufM {c : Cx} {o : Oper} {Kn : St → Prop} {K : Exit → St → Prop} {s : List (Nat × Value)} {D : List Deferred} {A T B : List (Nat × Obj)} {t t2 E size by_ d : Nat} {z : Array Value} {x y : Operand} [hu : TUnd c.P t (.slice E)] [hrow : TRow c.P E z size by_]
    (ho : o.op = .call { callee := .builtin .append, args := #[x, y], argTypes := #[t, t2] }) (hdst : o.dst = some d) {v y' : Value} (hx : ev s x = some v) (hy : ev s y = some y') (hd : Nat.blt d c.N = true) {n m : Nat} {xs news : List Value} (hv : Buf E size v T n xs)
    (hs : SrcL c (A ++ (T ++ B)) size t2 y' m news) (hl : news.length = m * size) (hmax : n + m ≤ maxLen) (hby : (n + m) * by_ ≤ 140737488355328)
    (hk : ∀ v' T', Buf E size v' T' (n + m) (xs ++ news) → Kn ⟨(d, v') :: s, D, A ++ (T' ++ B)⟩) : OW c o Kn K ⟨s, D, A ++ (T ++ B)⟩ := by
  rcases Nat.eq_zero_or_pos m with rfl | hm
  · obtain rfl : news = [] := List.eq_nil_of_length_eq_zero (by omega)
    obtain ⟨a, cap, rfl, hle, _⟩ := hv.val
    refine OW_append_nothing ho hdst hx hy hd hle hs (hk _ _ ?_)
    simpa using hv
  · exact OW_append_buf ho hdst hx hy hd hv hs hm hmax hby hk
theorem Own.take {sz : Nat} {cur : Array Value} {off cap n : Nat} {xs : List Value} (h : Own sz cur off cap n xs) {k cap' : Nat} (hk : k ≤ n) (hc : k ≤ cap') (hc' : cap' ≤ cap) : Own sz cur off cap' k (xs.take (k * sz)) where
  len := by have := h.len; have := Nat.mul_le_mul_right sz hk; rw [List.length_take]; omega
  le := hc
  max := Nat.le_trans hc' h.max
  fit := Nat.le_trans (Nat.add_le_add_left (Nat.mul_le_mul_right sz hc') _) h.fit
  at_ j x hj := by
    rw [List.getElem?_take] at hj
    split at hj
    · exact h.at_ j x hj
    · cases hj
end Go.Proofs.YtdiaogcogkapgaaGreatDoor
namespace Go.Proofs.YtdiaogcogkapgaaGreatDoor
open Go.RowKit
theorem QW_a {c : Cx} {s : List (Nat × Value)} {L : List (Nat × Obj)} {o : Oper} {κ : Value → Prop} {v : Value} (hk : κ v) (h : Qt c s L o v := by first
    | exact Qt_move rfl | exact Qt_assign rfl | exact Qt_nilCheck rfl | exact Qt_fieldAddr0 rfl | exact Qt_fieldAddr rfl | exact Qt_ld1B rfl | exact Qt_extract rfl
    | exact Qt_lenB rfl | exact Qt_lenSl rfl | exact Qt_eqlStr rfl | exact Qt_neqStr rfl | exact Qt_geqStr rfl | exact Qt_cat rfl | exact Qt_bin rfl | exact Qt_pick_true rfl | exact Qt_pick_false rfl | exact Qt_not rfl
    | exact Qt_indexArr0 rfl | exact Qt_indexSl0 rfl | exact Qt_indexArr rfl | exact Qt_indexSl rfl | exact Qt_convInt rfl | exact Qt_ldA rfl | exact Qt_ldN rfl
    | exact Qt_eql_nilS rfl | exact Qt_eql_nilN rfl | exact Qt_neq_nilS rfl | exact Qt_neq_nilN rfl | exact Qt_eql_ifN rfl | exact Qt_eql_ifS rfl | exact Qt_neq_ifN rfl | exact Qt_neq_ifS rfl | exact Qt_eql_bool rfl | exact Qt_neq_bool rfl
    | exact Qt_rem rfl | exact Qt_quo rfl | exact Qt_shl rfl | exact Qt_shr rfl | exact Qt_and rfl | exact Qt_or rfl | exact Qt_xor rfl | exact Qt_neg rfl | exact Qt_min rfl | exact Qt_max rfl
    | exact Qt_cutB rfl | exact Qt_cutToB rfl | exact Qt_cutFromB rfl | exact Qt_indexB rfl | exact Qt_arrFrom rfl | exact Qt_sliceL rfl | exact Qt_slTo rfl | exact Qt_slLHM rfl
    | exact Qt_str1 rfl | exact Qt_str rfl (hv := own_by0 (by with_reducible assumption)) | exact Qt_str rfl | exact Qt_buildB rfl | exact Qt_makeFunc rfl | exact Qt_makeInterface rfl | exact Qt_typeAssert rfl | exact Qt_nilCheck_fn rfl) : QW c s L o κ := ⟨v, h, hk⟩
theorem sub_mem {A B : List (Nat × Obj)} (h : A.Sublist B) : ∀ q ∈ A, q ∈ B := fun _ hq => h.subset hq
theorem RQ {P G : Prop} (h : G) (s : G → P := by first | exact fun h => WL_Q (QW_a h) | exact fun h => WL_Y (QW_a h)) : P := s h
theorem OE {P G : Prop} (h : G) (s : G → P := by first | exact fun h => OW_alloc rfl (hk := h) | exact fun h => OW_box rfl (hk := h) | exact fun h => OW_st1 rfl h | exact fun h => OW_stA rfl h | exact fun h => OW_stN rfl h | exact fun h => OW_build0 rfl (hk := h) | exact fun h => OW_build1 rfl (hk := h)) : P := s h
theorem RE {P G : Prop} (h : G) (s : G → P := by first | exact fun h => WL_op rfl (OE h) | exact fun h => WL_yes (h := OE h)) : P := s h
theorem RC {P G : Prop} (h : G) (s : G → P := by first | exact WL_nil | exact fun h => WL_un (h := h) | exact fun h => WL_N h | exact fun h => WL_M h | exact WC_seq | exact WC_block | exact fun h => WC_cond_t (ht := h) | exact fun h => WC_cond_f (he := h) | exact WC_skip | exact WC_ret | exact WC_exit) : P := s h
theorem RC0 {P G : Prop} (h : G) (s : G → P := by first | exact WL_nil | exact fun h => WL_un (h := h) | exact fun h => WL_N h | exact fun h => WL_M h | exact WC_seq | exact fun h => WC_cond_t (ht := h) | exact fun h => WC_cond_f (he := h) | exact WC_skip | exact WC_ret | exact WC_exit) : P := s h
theorem RQr {P G : Prop} (h : G) (s : G → P := by first | exact fun h => WL_Q (QW_a h) | exact fun h => WL_Y (QW_a h) | exact fun h => WR_Q rfl (QW_a h) | exact fun h => WR_late rfl rfl rfl (OW_Q (QW_a h)) | exact fun h => WR_Y rfl (QW_a h)) : P := s h
theorem RX {P G : Prop} (h : G) (s : G → P := by first | exact WL_Q | exact fun h => WR_Q rfl h | exact fun h => WR_late rfl rfl rfl (OW_Q h)) : P := s h
theorem OX {P G : Prop} (h : G) (s : G → P := by first | exact fun h => WL_op rfl h | exact fun h => WR_late rfl rfl rfl h | exact fun h => WR_opG rfl rfl h) : P := s h
theorem WG (id : Nat) {c : Cx} {l : List Oper} {K : Exit → St → Prop} {σ : St} (h : WL c l.toArray l K σ) : WC c (.region id l.toArray false) K σ := WC_region h
theorem RU {P G : Prop} (h : G) (s : G → P := by first | exact WR_nil | exact fun h => WR_un rfl (hk := h) | exact fun h => WR_N rfl h | exact fun h => WR_M rfl h | exact fun h => WR_skN rfl (h := h) | exact fun h => WR_skM rfl (h := h) | exact fun h => WR_skU rfl (h := h)) : P := s h
theorem SD {A B : List (Nat × Obj)} {G : Prop} (h : G) (s : ∀ q ∈ A, q ∈ B := by first | exact fun _ h => h | exact sub_mem (by repeat (first | exact .refl _ | exact List.nil_sublist _ | exact List.sublist_append_right _ _ | exact List.Sublist.append (.refl _) (List.sublist_append_right _ _) | apply List.Sublist.cons_cons | apply List.Sublist.cons))) : (∀ q ∈ A, q ∈ B) ∧ G := ⟨s, h⟩
theorem WC_regB {c : Cx} (n : Nat) {id : Nat} {l : List Oper} {K : Exit → St → Prop} {σ : St} (h : WL c l.toArray l K σ) (_hb : Nat.blt id n = true := by exact rfl) : WC c (.region id l.toArray false) K σ := WC_region h
end Go.Proofs.YtdiaogcogkapgaaGreatDoor
namespace Go.Proofs.YtdiaogcogkapgaaGreatDoor
open Go.RowKit
theorem partN {P : Program} {t n : Nat} [ha : TAgg P t true] [hs : TSize P t n] {xs : Array Value} {off : Nat} (w : World) : (part t xs off).run P w = .ok (.agg (xs.extract off (off + n))) w := by
  simp [part, ha.h, hs.h]
end Go.Proofs.YtdiaogcogkapgaaGreatDoor
namespace Go.Proofs.YtdiaogcogkapgaaGreatDoor
open Go.RowKit
def WCn (c : Cx) (x : Code) (K : Exit → St → Prop) : Nat → St → Prop
  | 0, _ => False
  | m + 1, σ => WC c x (thenK (WCn c x K m) K) σ
theorem WCn.rounds {c : Cx} {x : Code} {K : Exit → St → Prop} : ∀ {m : Nat} {σ : St}, WCn c x K m σ → ∀ a w, Holds c.g c.N σ a w → Code.roundsIn (Fw c.r) c.n c.P x (lift c K) m a w
  | 0, _, h, _, _, _ => h.elim
  | m + 1, σ, h, a, w, ha => by
    rw [roundsIn_succ]
    refine Go.wpIn_mono ((show WC c x (thenK (WCn c x K m) K) σ from h) a w ha) fun e a' w' hl => ?_
    obtain ⟨σ', h1, h2⟩ := hl
    cases e with
    | normal => exact WCn.rounds (m := m) h2 a' w' h1
    | _ => exact ⟨σ', h1, h2⟩
theorem WC_unroll {c : Cx} {x : Code} {K : Exit → St → Prop} {σ : St} (m : Nat) (h : WCn c x K m σ) : WC c (.loop x) K σ := fun a w ha => wpIn_loop_rounds m (h.rounds a w ha)
theorem WCn_s {c : Cx} {x : Code} {K : Exit → St → Prop} {m : Nat} {σ : St} (h : WC c x (thenK (WCn c x K m) K) σ) : WCn c x K (m + 1) σ := h
def FilledA (n : Nat) : Array Value → List (Nat × Value) → Array Value → Prop
  | z, [], cs => cs = z
  | z, (i, v) :: r, cs => v.cells.size = n ∧ i * n + n ≤ z.size ∧ FilledA n (putR z (i * n) v.cells) r cs
theorem fill_of_FilledA {n : Nat} : ∀ {parts : List (Nat × Value)} {z cs : Array Value}, FilledA n z parts cs → Instr.fill (fun i => some (i * n, n)) z parts = some cs
  | [], z, cs, h => by cases h; rfl
  | (i, v) :: r, z, cs, ⟨h2, h3, h4⟩ => by
    simp only [Instr.fill]
    rw [if_neg (by simp [h2]; omega)]
    have hf := fold_put v.cells.toList 0 (i * n) z (by simp; omega)
    have he : (v.cells.zipIdx.foldl (fun (cs : Array Value) (p : Value × Nat) => cs.setIfInBounds (i * n + p.2) p.1) z) = putR z (i * n) v.cells := by
      rw [← Array.foldl_toList, Array.toList_zipIdx, hf]
      simp
    have hh := fill_of_FilledA h4
    rw [← he] at hh
    exact hh
class TBuildA (P : Program) (t : TypeId) (z : outParam (Array Value)) (n : outParam Nat) : Prop where
  h : ∀ parts, P.built t parts = Instr.fill (fun i => some (i * n, n)) z parts
theorem Qt_buildA {c : Cx} {s : List (Nat × Value)} {L : List (Nat × Obj)} {o : Oper} {t : TypeId} {z : Array Value} {n : Nat} [hb : TBuildA c.P t z n] {parts : Array (Nat × Operand)} {vs : List (Nat × Value)} {cs : Array Value} (ho : o.op = .build t parts) (hx : evp s parts.toList = some vs := by exact rfl) (hf : FilledA n z vs cs := by repeat (first | exact rfl | refine ⟨(by first | with_reducible assumption | rfl | assumption), (by first | exact Nat.le_of_ble_eq_true rfl | omega), ?_⟩)) : Qt c s L o (.agg cs) :=
  ⟨(fun cc => by simp [ho]), fun ρ hρ w _ => by
    have h1 := evp_map hρ hx
    have h2 := run_build (P := c.P) w t (parts.map fun (i, x) => (i, ρ x)) cs (by
      rw [hb.h, Array.toList_map, h1]
      have := fill_of_FilledA hf
      simpa using this)
    simp [execOp, ho, h2]⟩
section
variable {c : Cx} {s : List (Nat × Value)} {L : List (Nat × Obj)} {o : Oper}
theorem Qt_indexA {t len E n : Nat} [hu : TUnd c.P t (.array len E)] [hs : TSize c.P E n] [ha : TAgg c.P E true] {x y : Operand} {k : IntKind} {i : Int} {vs : Array Value} (ho : o.op = .index t x y) (hx : ev s x = some (.agg vs) := by exact rfl) (hy : ev s y = some (.int k i) := by exact rfl) (h0 : 0 ≤ i := by first | decide | with_reducible assumption | omega) (h1 : i < len := by first | decide | with_reducible assumption | omega) : Qt c s L o (.agg (vs.extract (i.toNat * n) (i.toNat * n + n))) :=
  Qt_of_run (by simp [ho]) (fun ρ hρ w _ => by
    have h := partN (P := c.P) (t := E) (n := n) (xs := vs) (off := i.toNat * n) w
    simp [execOp, ho, hρ x _ hx, hρ y _ hy, Instr.index, asIntOf, run_underlying hu.h, hs.h, h0, h1, h])
theorem Qt_ldX {t b off n : Nat} [TAgg c.P t true] [TSize c.P t n] {x : Operand} {cs vs : Array Value} {E : TypeId} {fr : Nat × Nat} (ho : o.op = .load t x) (hx : ev s x = some (.pointer (some ⟨b, off, none⟩)) := by exact rfl) (hi : ∃ i : Nat, L[i]? = some (b, .cells cs E fr) := by first | exact ⟨0, rfl⟩ | exact ⟨1, rfl⟩ | exact ⟨2, rfl⟩ | exact ⟨3, rfl⟩ | exact ⟨4, rfl⟩ | exact ⟨5, rfl⟩ | exact ⟨6, rfl⟩ | exact ⟨7, rfl⟩ | exact ⟨8, rfl⟩) (hv : cs.extract off (off + n) = vs := by with_reducible assumption) (hn : off + n ≤ cs.size := by exact Nat.le_of_ble_eq_true rfl) : Qt c s L o (.agg vs) := by
  obtain ⟨i, h⟩ := hi
  subst hv
  exact Qt_loadN ho hx i h hn
end
end Go.Proofs.YtdiaogcogkapgaaGreatDoor
namespace Go.Proofs.YtdiaogcogkapgaaGreatDoor
instance : TSize Tryz.prog 2 1 := ⟨Tryz.sizeOf2⟩
instance : TAgg Tryz.prog 2 false := ⟨Tryz.isAgg2⟩
instance : TZero Tryz.prog 2 (Go.Value.int Go.IntKind.i64 0) := ⟨Tryz.zeroValue2⟩
instance : TUnd Tryz.prog 2 (.int Go.IntKind.i64) := ⟨Tryz.underlying2⟩
instance : TSize Tryz.prog 3 1 := ⟨Tryz.sizeOf3⟩
instance : TAgg Tryz.prog 3 false := ⟨Tryz.isAgg3⟩
theorem row3 : (Tryz.prog.info? 3).map (fun i => (i.size, i.bytes)) = some (1, 8) := by kernel_rfl
instance : TUnd Tryz.prog 3 (.int Go.IntKind.i64) := ⟨Tryz.underlying3⟩
instance : TSize Tryz.prog 4 1 := ⟨Tryz.sizeOf4⟩
instance : TAgg Tryz.prog 4 false := ⟨Tryz.isAgg4⟩
instance : TZero Tryz.prog 4 (Go.Value.bool Bool.false) := ⟨Tryz.zeroValue4⟩
instance : TUnd Tryz.prog 4 .bool := ⟨Tryz.underlying4⟩
instance : TSize Tryz.prog 5 1 := ⟨Tryz.sizeOf5⟩
instance : TAgg Tryz.prog 5 false := ⟨Tryz.isAgg5⟩
theorem row5 : (Tryz.prog.info? 5).map (fun i => (i.size, i.bytes)) = some (1, 1) := by kernel_rfl
instance : TUnd Tryz.prog 5 (.int Go.IntKind.u8) := ⟨Tryz.underlying5⟩
instance : TAgg Tryz.prog 9 false := ⟨Tryz.isAgg9⟩
instance : TUnd Tryz.prog 9 .string := ⟨Tryz.underlying9⟩
instance : TUnd Tryz.prog 20 (Go.TypeDesc.interface #[]) := ⟨Tryz.underlying20⟩
instance : TUnd Tryz.prog 22 (.slice 48) := ⟨Tryz.underlying22⟩
instance : TAgg Tryz.prog 24 false := ⟨Tryz.isAgg24⟩
instance : TUnd Tryz.prog 24 (.pointer 81) := ⟨Tryz.underlying24⟩
instance : TUnd Tryz.prog 26 (.pointer 88) := ⟨Tryz.underlying26⟩
instance : TUnd Tryz.prog 28 (.slice 50) := ⟨Tryz.underlying28⟩
instance : TSize Tryz.prog 31 1 := ⟨Tryz.sizeOf31⟩
instance : TAgg Tryz.prog 31 false := ⟨Tryz.isAgg31⟩
instance : TUnd Tryz.prog 31 (.int Go.IntKind.u32) := ⟨Tryz.underlying31⟩
instance : TFld Tryz.prog 33 0 0 31 1 := ⟨⟨_, _, Tryz.underlying33, rfl, rfl, rfl, Tryz.sizeOf31, by decide⟩⟩
instance : TFld Tryz.prog 33 1 1 2 1 := ⟨⟨_, _, Tryz.underlying33, rfl, rfl, rfl, Tryz.sizeOf2, by decide⟩⟩
instance : TFld Tryz.prog 33 2 2 2 1 := ⟨⟨_, _, Tryz.underlying33, rfl, rfl, rfl, Tryz.sizeOf2, by decide⟩⟩
instance : TFld Tryz.prog 33 3 3 5 1 := ⟨⟨_, _, Tryz.underlying33, rfl, rfl, rfl, Tryz.sizeOf5, by decide⟩⟩
instance : TFld Tryz.prog 33 4 4 4 1 := ⟨⟨_, _, Tryz.underlying33, rfl, rfl, rfl, Tryz.sizeOf4, by decide⟩⟩
instance : TFld Tryz.prog 33 5 5 4 1 := ⟨⟨_, _, Tryz.underlying33, rfl, rfl, rfl, Tryz.sizeOf4, by decide⟩⟩
instance : TSize Tryz.prog 34 1 := ⟨Tryz.sizeOf34⟩
instance : TAgg Tryz.prog 34 false := ⟨Tryz.isAgg34⟩
instance : TUnd Tryz.prog 34 (.slice 3) := ⟨Tryz.underlying34⟩
instance : TFld Tryz.prog 36 0 0 3 1 := ⟨⟨_, _, Tryz.underlying36, rfl, rfl, rfl, Tryz.sizeOf3, by decide⟩⟩
instance : TFld Tryz.prog 36 1 1 2 1 := ⟨⟨_, _, Tryz.underlying36, rfl, rfl, rfl, Tryz.sizeOf2, by decide⟩⟩
instance : TFld Tryz.prog 36 2 2 2 1 := ⟨⟨_, _, Tryz.underlying36, rfl, rfl, rfl, Tryz.sizeOf2, by decide⟩⟩
instance : TFld Tryz.prog 36 3 3 3 1 := ⟨⟨_, _, Tryz.underlying36, rfl, rfl, rfl, Tryz.sizeOf3, by decide⟩⟩
instance : TFld Tryz.prog 38 0 0 3 1 := ⟨⟨_, _, Tryz.underlying38, rfl, rfl, rfl, Tryz.sizeOf3, by decide⟩⟩
instance : TFld Tryz.prog 38 1 1 2 1 := ⟨⟨_, _, Tryz.underlying38, rfl, rfl, rfl, Tryz.sizeOf2, by decide⟩⟩
instance : TFld Tryz.prog 38 2 2 34 1 := ⟨⟨_, _, Tryz.underlying38, rfl, rfl, rfl, Tryz.sizeOf34, by decide⟩⟩
instance : TFld Tryz.prog 38 3 3 3 1 := ⟨⟨_, _, Tryz.underlying38, rfl, rfl, rfl, Tryz.sizeOf3, by decide⟩⟩
instance : TFld Tryz.prog 38 4 4 3 1 := ⟨⟨_, _, Tryz.underlying38, rfl, rfl, rfl, Tryz.sizeOf3, by decide⟩⟩
instance : TFld Tryz.prog 38 5 5 36 4 := ⟨⟨_, _, Tryz.underlying38, rfl, rfl, rfl, Tryz.sizeOf36, by decide⟩⟩
instance : TFld Tryz.prog 38 6 9 3 1 := ⟨⟨_, _, Tryz.underlying38, rfl, rfl, rfl, Tryz.sizeOf3, by decide⟩⟩
instance : TSize Tryz.prog 39 1 := ⟨Tryz.sizeOf39⟩
instance : TAgg Tryz.prog 39 false := ⟨Tryz.isAgg39⟩
instance : TUnd Tryz.prog 39 (.slice 214) := ⟨Tryz.underlying39⟩
instance : TFld Tryz.prog 41 0 0 3 1 := ⟨⟨_, _, Tryz.underlying41, rfl, rfl, rfl, Tryz.sizeOf3, by decide⟩⟩
instance : TFld Tryz.prog 41 1 1 3 1 := ⟨⟨_, _, Tryz.underlying41, rfl, rfl, rfl, Tryz.sizeOf3, by decide⟩⟩
instance : TFld Tryz.prog 41 2 2 4 1 := ⟨⟨_, _, Tryz.underlying41, rfl, rfl, rfl, Tryz.sizeOf4, by decide⟩⟩
instance : TFld Tryz.prog 41 3 3 39 1 := ⟨⟨_, _, Tryz.underlying41, rfl, rfl, rfl, Tryz.sizeOf39, by decide⟩⟩
instance : TSize Tryz.prog 43 24 := ⟨Tryz.sizeOf43⟩
instance : TAgg Tryz.prog 43 true := ⟨Tryz.isAgg43⟩
def zc43 : Array Value :=  #[Go.Value.int Go.IntKind.i64 0, Go.Value.int Go.IntKind.i64 0, Go.Value.int Go.IntKind.u32 0, Go.Value.int Go.IntKind.i64 0, Go.Value.int Go.IntKind.i64 0, Go.Value.int Go.IntKind.u8 0, Go.Value.bool Bool.false, Go.Value.bool Bool.false, Go.Value.int Go.IntKind.i64 0, Go.Value.int Go.IntKind.i64 0, Go.Value.int Go.IntKind.i64 0, Go.Value.int Go.IntKind.i64 0, Go.Value.slice Option.none 0 0, Go.Value.int Go.IntKind.i64 0, Go.Value.int Go.IntKind.i64 0, Go.Value.int Go.IntKind.i64 0, Go.Value.int Go.IntKind.i64 0, Go.Value.int Go.IntKind.i64 0, Go.Value.int Go.IntKind.i64 0, Go.Value.int Go.IntKind.i64 0, Go.Value.int Go.IntKind.i64 0, Go.Value.int Go.IntKind.i64 0, Go.Value.bool Bool.false, Go.Value.slice Option.none 0 0]
instance : TZero Tryz.prog 43 (.agg zc43) := ⟨Tryz.zeroValue43⟩
theorem row43 : (Tryz.prog.info? 43).map (fun i => (i.size, i.bytes)) = some (24, 208) := by kernel_rfl
instance : TFld Tryz.prog 43 0 0 3 1 := ⟨⟨_, _, Tryz.underlying43, rfl, rfl, rfl, Tryz.sizeOf3, by decide⟩⟩
instance : TFld Tryz.prog 43 1 1 3 1 := ⟨⟨_, _, Tryz.underlying43, rfl, rfl, rfl, Tryz.sizeOf3, by decide⟩⟩
instance : TFld Tryz.prog 43 2 2 33 6 := ⟨⟨_, _, Tryz.underlying43, rfl, rfl, rfl, Tryz.sizeOf33, by decide⟩⟩
instance : TFld Tryz.prog 43 3 8 2 1 := ⟨⟨_, _, Tryz.underlying43, rfl, rfl, rfl, Tryz.sizeOf2, by decide⟩⟩
instance : TFld Tryz.prog 43 4 9 3 1 := ⟨⟨_, _, Tryz.underlying43, rfl, rfl, rfl, Tryz.sizeOf3, by decide⟩⟩
instance : TFld Tryz.prog 43 5 10 38 10 := ⟨⟨_, _, Tryz.underlying43, rfl, rfl, rfl, Tryz.sizeOf38, by decide⟩⟩
instance : TFld Tryz.prog 43 6 20 41 4 := ⟨⟨_, _, Tryz.underlying43, rfl, rfl, rfl, Tryz.sizeOf41, by decide⟩⟩
instance : TBuild Tryz.prog 43 zc43 [(0, 1), (1, 1), (2, 6), (8, 1), (9, 1), (10, 10), (20, 4)] := ⟨fun _ => by kernel_rfl⟩
instance : TSize Tryz.prog 48 2 := ⟨Tryz.sizeOf48⟩
instance : TFld Tryz.prog 48 0 0 5 1 := ⟨⟨_, _, Tryz.underlying48, rfl, rfl, rfl, Tryz.sizeOf5, by decide⟩⟩
instance : TFld Tryz.prog 48 1 1 5 1 := ⟨⟨_, _, Tryz.underlying48, rfl, rfl, rfl, Tryz.sizeOf5, by decide⟩⟩
instance : TSize Tryz.prog 50 2 := ⟨Tryz.sizeOf50⟩
instance : TAgg Tryz.prog 50 true := ⟨Tryz.isAgg50⟩
def zc50 : Array Value :=  #[Go.Value.string { data := #[] }, Go.Value.bool Bool.false]
instance : TZero Tryz.prog 50 (.agg zc50) := ⟨Tryz.zeroValue50⟩
theorem row50 : (Tryz.prog.info? 50).map (fun i => (i.size, i.bytes)) = some (2, 24) := by kernel_rfl
instance : TFld Tryz.prog 50 0 0 9 1 := ⟨⟨_, _, Tryz.underlying50, rfl, rfl, rfl, Tryz.sizeOf9, by decide⟩⟩
instance : TFld Tryz.prog 50 1 1 4 1 := ⟨⟨_, _, Tryz.underlying50, rfl, rfl, rfl, Tryz.sizeOf4, by decide⟩⟩
instance : TBuild Tryz.prog 50 zc50 [(0, 1), (1, 1)] := ⟨fun _ => by kernel_rfl⟩
instance : TSize Tryz.prog 54 1 := ⟨Tryz.sizeOf54⟩
instance : TAgg Tryz.prog 54 false := ⟨Tryz.isAgg54⟩
theorem row54 : (Tryz.prog.info? 54).map (fun i => (i.size, i.bytes)) = some (1, 8) := by kernel_rfl
instance : TAgg Tryz.prog 72 false := ⟨Tryz.isAgg72⟩
instance : TUnd Tryz.prog 72 (.pointer 123) := ⟨Tryz.underlying72⟩
instance : TSize Tryz.prog 76 2 := ⟨Tryz.sizeOf76⟩
instance : TAgg Tryz.prog 76 true := ⟨Tryz.isAgg76⟩
def zc76 : Array Value :=  #[Go.Value.int Go.IntKind.i64 0, Go.Value.int Go.IntKind.i64 0]
instance : TFld Tryz.prog 76 0 0 3 1 := ⟨⟨_, _, Tryz.underlying76, rfl, rfl, rfl, Tryz.sizeOf3, by decide⟩⟩
instance : TFld Tryz.prog 76 1 1 3 1 := ⟨⟨_, _, Tryz.underlying76, rfl, rfl, rfl, Tryz.sizeOf3, by decide⟩⟩
instance : TBuild Tryz.prog 76 zc76 [(0, 1), (1, 1)] := ⟨fun _ => by kernel_rfl⟩
instance : TAgg Tryz.prog 77 false := ⟨Tryz.isAgg77⟩
def zc79 : Array Value :=  #[Go.Value.pointer Option.none]
instance : TFld Tryz.prog 79 0 0 72 1 := ⟨⟨_, _, Tryz.underlying79, rfl, rfl, rfl, Tryz.sizeOf72, by decide⟩⟩
instance : TBuild Tryz.prog 79 zc79 [(0, 1)] := ⟨fun _ => by kernel_rfl⟩
def zc81 : Array Value :=  #[Go.Value.int Go.IntKind.i64 0, Go.Value.int Go.IntKind.i64 0, Go.Value.pointer Option.none]
instance : TFld Tryz.prog 81 0 0 76 2 := ⟨⟨_, _, Tryz.underlying81, rfl, rfl, rfl, Tryz.sizeOf76, by decide⟩⟩
instance : TFld Tryz.prog 81 1 2 77 1 := ⟨⟨_, _, Tryz.underlying81, rfl, rfl, rfl, Tryz.sizeOf77, by decide⟩⟩
instance : TBuild Tryz.prog 81 zc81 [(0, 2), (2, 1)] := ⟨fun _ => by kernel_rfl⟩
instance : TAgg Tryz.prog 82 false := ⟨Tryz.isAgg82⟩
instance : TUnd Tryz.prog 82 (.pointer 126) := ⟨Tryz.underlying82⟩
instance : TAgg Tryz.prog 84 false := ⟨Tryz.isAgg84⟩
def zc86 : Array Value :=  #[Go.Value.pointer Option.none]
instance : TFld Tryz.prog 86 0 0 82 1 := ⟨⟨_, _, Tryz.underlying86, rfl, rfl, rfl, Tryz.sizeOf82, by decide⟩⟩
instance : TBuild Tryz.prog 86 zc86 [(0, 1)] := ⟨fun _ => by kernel_rfl⟩
def zc88 : Array Value :=  #[Go.Value.int Go.IntKind.i64 0, Go.Value.int Go.IntKind.i64 0, Go.Value.pointer Option.none]
instance : TFld Tryz.prog 88 0 0 76 2 := ⟨⟨_, _, Tryz.underlying88, rfl, rfl, rfl, Tryz.sizeOf76, by decide⟩⟩
instance : TFld Tryz.prog 88 1 2 84 1 := ⟨⟨_, _, Tryz.underlying88, rfl, rfl, rfl, Tryz.sizeOf84, by decide⟩⟩
instance : TBuild Tryz.prog 88 zc88 [(0, 2), (2, 1)] := ⟨fun _ => by kernel_rfl⟩
instance : TSize Tryz.prog 91 1 := ⟨Tryz.sizeOf91⟩
instance : TAgg Tryz.prog 91 false := ⟨Tryz.isAgg91⟩
instance : TZero Tryz.prog 91 (Go.Value.int Go.IntKind.u64 0) := ⟨Tryz.zeroValue91⟩
instance : TUnd Tryz.prog 91 (.int Go.IntKind.u64) := ⟨Tryz.underlying91⟩
instance : TSize Tryz.prog 93 29 := ⟨Tryz.sizeOf93⟩
instance : TAgg Tryz.prog 93 true := ⟨Tryz.isAgg93⟩
def zc93 : Array Value :=  #[Go.Value.int Go.IntKind.i64 0, Go.Value.int Go.IntKind.i64 0, Go.Value.bool Bool.false, Go.Value.int Go.IntKind.u64 0, Go.Value.int Go.IntKind.i64 0, Go.Value.int Go.IntKind.i64 0, Go.Value.int Go.IntKind.i64 0, Go.Value.int Go.IntKind.u32 0, Go.Value.int Go.IntKind.i64 0, Go.Value.int Go.IntKind.i64 0, Go.Value.int Go.IntKind.u8 0, Go.Value.bool Bool.false, Go.Value.bool Bool.false, Go.Value.int Go.IntKind.i64 0, Go.Value.int Go.IntKind.i64 0, Go.Value.int Go.IntKind.i64 0, Go.Value.int Go.IntKind.i64 0, Go.Value.slice Option.none 0 0, Go.Value.int Go.IntKind.i64 0, Go.Value.int Go.IntKind.i64 0, Go.Value.int Go.IntKind.i64 0, Go.Value.int Go.IntKind.i64 0, Go.Value.int Go.IntKind.i64 0, Go.Value.int Go.IntKind.i64 0, Go.Value.int Go.IntKind.i64 0, Go.Value.int Go.IntKind.i64 0, Go.Value.int Go.IntKind.i64 0, Go.Value.bool Bool.false, Go.Value.slice Option.none 0 0]
instance : TZero Tryz.prog 93 (.agg zc93) := ⟨Tryz.zeroValue93⟩
instance : TFld Tryz.prog 93 0 0 3 1 := ⟨⟨_, _, Tryz.underlying93, rfl, rfl, rfl, Tryz.sizeOf3, by decide⟩⟩
instance : TFld Tryz.prog 93 1 1 3 1 := ⟨⟨_, _, Tryz.underlying93, rfl, rfl, rfl, Tryz.sizeOf3, by decide⟩⟩
instance : TFld Tryz.prog 93 2 2 4 1 := ⟨⟨_, _, Tryz.underlying93, rfl, rfl, rfl, Tryz.sizeOf4, by decide⟩⟩
instance : TFld Tryz.prog 93 3 3 91 1 := ⟨⟨_, _, Tryz.underlying93, rfl, rfl, rfl, Tryz.sizeOf91, by decide⟩⟩
instance : TFld Tryz.prog 93 4 4 3 1 := ⟨⟨_, _, Tryz.underlying93, rfl, rfl, rfl, Tryz.sizeOf3, by decide⟩⟩
instance : TFld Tryz.prog 93 5 5 43 24 := ⟨⟨_, _, Tryz.underlying93, rfl, rfl, rfl, Tryz.sizeOf43, by decide⟩⟩
instance : TBuild Tryz.prog 93 zc93 [(0, 1), (1, 1), (2, 1), (3, 1), (4, 1), (5, 24)] := ⟨fun _ => by kernel_rfl⟩
instance : TSize Tryz.prog 111 1 := ⟨Tryz.sizeOf111⟩
instance : TAgg Tryz.prog 111 false := ⟨Tryz.isAgg111⟩
instance : TUnd Tryz.prog 111 (.slice 43) := ⟨Tryz.underlying111⟩
def zc123 : Array Value :=  #[Go.Value.slice Option.none 0 0, Go.Value.int Go.IntKind.i64 0, Go.Value.int Go.IntKind.u64 0, Go.Value.int Go.IntKind.u64 0]
instance : TFld Tryz.prog 123 0 0 111 1 := ⟨⟨_, _, Tryz.underlying123, rfl, rfl, rfl, Tryz.sizeOf111, by decide⟩⟩
instance : TFld Tryz.prog 123 1 1 3 1 := ⟨⟨_, _, Tryz.underlying123, rfl, rfl, rfl, Tryz.sizeOf3, by decide⟩⟩
instance : TFld Tryz.prog 123 2 2 91 1 := ⟨⟨_, _, Tryz.underlying123, rfl, rfl, rfl, Tryz.sizeOf91, by decide⟩⟩
instance : TFld Tryz.prog 123 3 3 91 1 := ⟨⟨_, _, Tryz.underlying123, rfl, rfl, rfl, Tryz.sizeOf91, by decide⟩⟩
instance : TBuild Tryz.prog 123 zc123 [(0, 1), (1, 1), (2, 1), (3, 1)] := ⟨fun _ => by kernel_rfl⟩
instance : TUnd Tryz.prog 124 (.array 16 43) := ⟨Tryz.underlying124⟩
instance : TFld Tryz.prog 126 0 0 124 384 := ⟨⟨_, _, Tryz.underlying126, rfl, rfl, rfl, Tryz.sizeOf124, by decide⟩⟩
instance : TFld Tryz.prog 126 1 384 3 1 := ⟨⟨_, _, Tryz.underlying126, rfl, rfl, rfl, Tryz.sizeOf3, by decide⟩⟩
instance : TFld Tryz.prog 126 2 385 3 1 := ⟨⟨_, _, Tryz.underlying126, rfl, rfl, rfl, Tryz.sizeOf3, by decide⟩⟩
instance : TFld Tryz.prog 126 3 386 3 1 := ⟨⟨_, _, Tryz.underlying126, rfl, rfl, rfl, Tryz.sizeOf3, by decide⟩⟩
instance : TFld Tryz.prog 126 4 387 91 1 := ⟨⟨_, _, Tryz.underlying126, rfl, rfl, rfl, Tryz.sizeOf91, by decide⟩⟩
instance : TFld Tryz.prog 126 5 388 3 1 := ⟨⟨_, _, Tryz.underlying126, rfl, rfl, rfl, Tryz.sizeOf3, by decide⟩⟩
instance : TBuild Tryz.prog 126 Tryz.zeroCells126 [(0, 384), (384, 1), (385, 1), (386, 1), (387, 1), (388, 1)] := ⟨fun _ => by kernel_rfl⟩
instance : TUnd Tryz.prog 127 (.slice 54) := ⟨Tryz.underlying127⟩
instance : TSize Tryz.prog 129 3 := ⟨Tryz.sizeOf129⟩
instance : TAgg Tryz.prog 129 true := ⟨Tryz.isAgg129⟩
def zc129 : Array Value :=  #[Go.Value.int Go.IntKind.i64 0, Go.Value.int Go.IntKind.i64 0, Go.Value.bool Bool.false]
instance : TZero Tryz.prog 129 (.agg zc129) := ⟨Tryz.zeroValue129⟩
instance : TFld Tryz.prog 129 0 0 3 1 := ⟨⟨_, _, Tryz.underlying129, rfl, rfl, rfl, Tryz.sizeOf3, by decide⟩⟩
instance : TFld Tryz.prog 129 1 1 3 1 := ⟨⟨_, _, Tryz.underlying129, rfl, rfl, rfl, Tryz.sizeOf3, by decide⟩⟩
instance : TFld Tryz.prog 129 2 2 4 1 := ⟨⟨_, _, Tryz.underlying129, rfl, rfl, rfl, Tryz.sizeOf4, by decide⟩⟩
instance : TBuild Tryz.prog 129 zc129 [(0, 1), (1, 1), (2, 1)] := ⟨fun _ => by kernel_rfl⟩
def zc130 : Array Value :=  #[Go.Value.int Go.IntKind.i64 0, Go.Value.int Go.IntKind.i64 0, Go.Value.bool Bool.false, Go.Value.int Go.IntKind.i64 0, Go.Value.int Go.IntKind.i64 0, Go.Value.bool Bool.false, Go.Value.int Go.IntKind.i64 0, Go.Value.int Go.IntKind.i64 0, Go.Value.bool Bool.false]
instance : TUnd Tryz.prog 130 (.array 3 129) := ⟨Tryz.underlying130⟩
instance : TSize Tryz.prog 131 1 := ⟨Tryz.sizeOf131⟩
instance : TAgg Tryz.prog 131 false := ⟨Tryz.isAgg131⟩
instance : TUnd Tryz.prog 131 (.slice 5) := ⟨Tryz.underlying131⟩
instance : TSize Tryz.prog 144 1 := ⟨Tryz.sizeOf144⟩
instance : TAgg Tryz.prog 144 false := ⟨Tryz.isAgg144⟩
instance : TZero Tryz.prog 144 (Go.Value.nilIface) := ⟨Tryz.zeroValue144⟩
instance : TUnd Tryz.prog 144 (Go.TypeDesc.interface #[("Error", 286)]) := ⟨Tryz.underlying144⟩
def zc148 : Array Value :=  #[Go.Value.int Go.IntKind.u8 0, Go.Value.int Go.IntKind.u8 0, Go.Value.int Go.IntKind.u8 0, Go.Value.int Go.IntKind.u8 0, Go.Value.int Go.IntKind.u8 0, Go.Value.int Go.IntKind.u8 0, Go.Value.int Go.IntKind.u8 0, Go.Value.int Go.IntKind.u8 0, Go.Value.int Go.IntKind.u8 0, Go.Value.int Go.IntKind.u8 0]
instance : TZero Tryz.prog 148 (.agg zc148) := ⟨Tryz.zeroValue148⟩
instance : TUnd Tryz.prog 148 (.array 10 5) := ⟨Tryz.underlying148⟩
def zc157 : Array Value :=  #[Go.Value.int Go.IntKind.i64 0, Go.Value.int Go.IntKind.i64 0]
instance : TBuild Tryz.prog 157 zc157 [(0, 1), (1, 1)] := ⟨fun _ => by kernel_rfl⟩
instance : TSize Tryz.prog 162 1 := ⟨Tryz.sizeOf162⟩
instance : TAgg Tryz.prog 162 false := ⟨Tryz.isAgg162⟩
instance : TZero Tryz.prog 162 (Go.Value.pointer Option.none) := ⟨Tryz.zeroValue162⟩
instance : TUnd Tryz.prog 162 (.pointer 216) := ⟨Tryz.underlying162⟩
instance : TSize Tryz.prog 164 1 := ⟨Tryz.sizeOf164⟩
instance : TAgg Tryz.prog 164 false := ⟨Tryz.isAgg164⟩
theorem row164 : (Tryz.prog.info? 164).map (fun i => (i.size, i.bytes)) = some (1, 8) := by kernel_rfl
instance : TAgg Tryz.prog 166 false := ⟨Tryz.isAgg166⟩
instance : TUnd Tryz.prog 173 (.slice 164) := ⟨Tryz.underlying173⟩
instance : TAgg Tryz.prog 174 false := ⟨Tryz.isAgg174⟩
instance : TZero Tryz.prog 174 (Go.Value.pointer Option.none) := ⟨Tryz.zeroValue174⟩
instance : TUnd Tryz.prog 174 (.pointer 157) := ⟨Tryz.underlying174⟩
instance : TUnd Tryz.prog 176 (.pointer 174) := ⟨Tryz.underlying176⟩
instance : TUnd Tryz.prog 177 (.pointer 179) := ⟨Tryz.underlying177⟩
def zc179 : Array Value :=  #[Go.Value.slice Option.none 0 0]
instance : TFld Tryz.prog 179 0 0 131 1 := ⟨⟨_, _, Tryz.underlying179, rfl, rfl, rfl, Tryz.sizeOf131, by decide⟩⟩
instance : TBuild Tryz.prog 179 zc179 [(0, 1)] := ⟨fun _ => by kernel_rfl⟩
instance : TFld Tryz.prog 212 0 0 2 1 := ⟨⟨_, _, Tryz.underlying212, rfl, rfl, rfl, Tryz.sizeOf2, by decide⟩⟩
instance : TFld Tryz.prog 212 1 1 2 1 := ⟨⟨_, _, Tryz.underlying212, rfl, rfl, rfl, Tryz.sizeOf2, by decide⟩⟩
instance : TFld Tryz.prog 212 2 2 91 1 := ⟨⟨_, _, Tryz.underlying212, rfl, rfl, rfl, Tryz.sizeOf91, by decide⟩⟩
instance : TFld Tryz.prog 212 3 3 2 1 := ⟨⟨_, _, Tryz.underlying212, rfl, rfl, rfl, Tryz.sizeOf2, by decide⟩⟩
instance : TFld Tryz.prog 212 4 4 2 1 := ⟨⟨_, _, Tryz.underlying212, rfl, rfl, rfl, Tryz.sizeOf2, by decide⟩⟩
instance : TSize Tryz.prog 214 10 := ⟨Tryz.sizeOf214⟩
instance : TAgg Tryz.prog 214 true := ⟨Tryz.isAgg214⟩
def zc214 : Array Value :=  #[Go.Value.int Go.IntKind.i64 0, Go.Value.int Go.IntKind.u32 0, Go.Value.int Go.IntKind.i64 0, Go.Value.int Go.IntKind.i64 0, Go.Value.int Go.IntKind.u8 0, Go.Value.int Go.IntKind.i64 0, Go.Value.int Go.IntKind.i64 0, Go.Value.int Go.IntKind.u64 0, Go.Value.int Go.IntKind.i64 0, Go.Value.int Go.IntKind.i64 0]
instance : TZero Tryz.prog 214 (.agg zc214) := ⟨Tryz.zeroValue214⟩
theorem row214 : (Tryz.prog.info? 214).map (fun i => (i.size, i.bytes)) = some (10, 80) := by kernel_rfl
instance : TFld Tryz.prog 214 0 0 3 1 := ⟨⟨_, _, Tryz.underlying214, rfl, rfl, rfl, Tryz.sizeOf3, by decide⟩⟩
instance : TFld Tryz.prog 214 1 1 31 1 := ⟨⟨_, _, Tryz.underlying214, rfl, rfl, rfl, Tryz.sizeOf31, by decide⟩⟩
instance : TFld Tryz.prog 214 2 2 2 1 := ⟨⟨_, _, Tryz.underlying214, rfl, rfl, rfl, Tryz.sizeOf2, by decide⟩⟩
instance : TFld Tryz.prog 214 3 3 2 1 := ⟨⟨_, _, Tryz.underlying214, rfl, rfl, rfl, Tryz.sizeOf2, by decide⟩⟩
instance : TFld Tryz.prog 214 4 4 5 1 := ⟨⟨_, _, Tryz.underlying214, rfl, rfl, rfl, Tryz.sizeOf5, by decide⟩⟩
instance : TFld Tryz.prog 214 5 5 212 5 := ⟨⟨_, _, Tryz.underlying214, rfl, rfl, rfl, Tryz.sizeOf212, by decide⟩⟩
def zc216 : Array Value :=  #[Go.Value.string { data := #[] }, Go.Value.int Go.IntKind.i64 0]
instance : TFld Tryz.prog 216 0 0 9 1 := ⟨⟨_, _, Tryz.underlying216, rfl, rfl, rfl, Tryz.sizeOf9, by decide⟩⟩
instance : TFld Tryz.prog 216 1 1 3 1 := ⟨⟨_, _, Tryz.underlying216, rfl, rfl, rfl, Tryz.sizeOf3, by decide⟩⟩
instance : TBuild Tryz.prog 216 zc216 [(0, 1), (1, 1)] := ⟨fun _ => by kernel_rfl⟩
instance : TUnd Tryz.prog 252 (.pointer 254) := ⟨Tryz.underlying252⟩
def zc254 : Array Value :=  #[Go.Value.pointer Option.none, Go.Value.int Go.IntKind.i64 0]
instance : TFld Tryz.prog 254 0 0 162 1 := ⟨⟨_, _, Tryz.underlying254, rfl, rfl, rfl, Tryz.sizeOf162, by decide⟩⟩
instance : TFld Tryz.prog 254 1 1 3 1 := ⟨⟨_, _, Tryz.underlying254, rfl, rfl, rfl, Tryz.sizeOf3, by decide⟩⟩
instance : TBuild Tryz.prog 254 zc254 [(0, 1), (1, 1)] := ⟨fun _ => by kernel_rfl⟩
instance : TRow Tryz.prog 3 #[Go.Value.int Go.IntKind.i64 0] 1 8 := TRow.of Tryz.zeroValue3 rfl row3 rfl
instance : TRow Tryz.prog 5 #[Go.Value.int Go.IntKind.u8 0] 1 1 := TRow.of Tryz.zeroValue5 rfl row5 rfl
instance : TRow Tryz.prog 43 zc43 24 208 := TRow.of Tryz.zeroValue43 rfl row43 rfl
instance : TRow Tryz.prog 50 zc50 2 24 := TRow.of Tryz.zeroValue50 rfl row50 rfl
instance : TRow Tryz.prog 54 #[Go.Value.nilFunc] 1 8 := TRow.of Tryz.zeroValue54 rfl row54 rfl
instance : TRow Tryz.prog 164 #[Go.Value.nilFunc] 1 8 := TRow.of Tryz.zeroValue164 rfl row164 rfl
instance : TRow Tryz.prog 214 zc214 10 80 := TRow.of Tryz.zeroValue214 rfl row214 rfl
instance : FCall Tryz.prog 71 := ⟨Tryz.call71⟩
instance : FCall Tryz.prog 135 := ⟨Tryz.call135⟩
instance : FCall Tryz.prog 74 := ⟨Tryz.call74⟩
instance : FCall Tryz.prog 168 := ⟨Tryz.call168⟩
instance : FCall Tryz.prog 28 := ⟨Tryz.call28⟩
instance : FCall Tryz.prog 173 := ⟨Tryz.call173⟩
instance : FCall Tryz.prog 185 := ⟨Tryz.call185⟩
instance : FCall Tryz.prog 88 := ⟨Tryz.call88⟩
instance : FCall Tryz.prog 15 := ⟨Tryz.call15⟩
instance : FCall Tryz.prog 24 := ⟨Tryz.call24⟩
instance : FCall Tryz.prog 112 := ⟨Tryz.call112⟩
instance : FCall Tryz.prog 51 := ⟨Tryz.call51⟩
instance : FCall Tryz.prog 23 := ⟨Tryz.call23⟩
instance : FCall Tryz.prog 186 := ⟨Tryz.call186⟩
instance : FCall Tryz.prog 33 := ⟨Tryz.call33⟩
instance : FCall Tryz.prog 54 := ⟨Tryz.call54⟩
instance : FCall Tryz.prog 172 := ⟨Tryz.call172⟩
instance : FCall Tryz.prog 16 := ⟨Tryz.call16⟩
instance : FCall Tryz.prog 26 := ⟨Tryz.call26⟩
instance : FCall Tryz.prog 182 := ⟨Tryz.call182⟩
instance : FCall Tryz.prog 175 := ⟨Tryz.call175⟩
instance : FCall Tryz.prog 131 := ⟨Tryz.call131⟩
instance : FCall Tryz.prog 8 := ⟨Tryz.call8⟩
instance : FCall Tryz.prog 6 := ⟨Tryz.call6⟩
instance : FCall Tryz.prog 10 := ⟨Tryz.call10⟩
instance : FCall Tryz.prog 25 := ⟨Tryz.call25⟩
instance : FCall Tryz.prog 187 := ⟨Tryz.call187⟩
instance : FCall Tryz.prog 31 := ⟨Tryz.call31⟩
instance : FCall Tryz.prog 32 := ⟨Tryz.call32⟩
instance : FCall Tryz.prog 57 := ⟨Tryz.call57⟩
instance : FCall Tryz.prog 34 := ⟨Tryz.call34⟩
instance : FCall Tryz.prog 7 := ⟨Tryz.call7⟩
instance : FCall Tryz.prog 50 := ⟨Tryz.call50⟩
instance : FCall Tryz.prog 190 := ⟨Tryz.call190⟩
instance : FCall Tryz.prog 35 := ⟨Tryz.call35⟩
instance : FCall Tryz.prog 121 := ⟨Tryz.call121⟩
instance : FCall Tryz.prog 188 := ⟨Tryz.call188⟩
instance : FCall Tryz.prog 11 := ⟨Tryz.call11⟩
instance : FCall Tryz.prog 113 := ⟨Tryz.call113⟩
instance : FCall Tryz.prog 73 := ⟨Tryz.call73⟩
instance : FCall Tryz.prog 169 := ⟨Tryz.call169⟩
instance : FCall Tryz.prog 14 := ⟨Tryz.call14⟩
instance : FCall Tryz.prog 55 := ⟨Tryz.call55⟩
instance : FCall Tryz.prog 95 := ⟨Tryz.call95⟩
instance : FCall Tryz.prog 49 := ⟨Tryz.call49⟩
instance : FCall Tryz.prog 181 := ⟨Tryz.call181⟩
instance : FCall Tryz.prog 68 := ⟨Tryz.call68⟩
instance : FCall Tryz.prog 122 := ⟨Tryz.call122⟩
instance : FCall Tryz.prog 120 := ⟨Tryz.call120⟩
instance : FCall Tryz.prog 109 := ⟨Tryz.call109⟩
instance : FCall Tryz.prog 58 := ⟨Tryz.call58⟩
instance : FCall Tryz.prog 20 := ⟨Tryz.call20⟩
instance : FCall Tryz.prog 86 := ⟨Tryz.call86⟩
instance : FCall Tryz.prog 29 := ⟨Tryz.call29⟩
instance : FCall Tryz.prog 21 := ⟨Tryz.call21⟩
instance : FCall Tryz.prog 89 := ⟨Tryz.call89⟩
instance : FCall Tryz.prog 183 := ⟨Tryz.call183⟩
instance : FCall Tryz.prog 69 := ⟨Tryz.call69⟩
instance : FCall Tryz.prog 9 := ⟨Tryz.call9⟩
instance : FCall Tryz.prog 97 := ⟨Tryz.call97⟩
instance : FCall Tryz.prog 90 := ⟨Tryz.call90⟩
instance : FCall Tryz.prog 111 := ⟨Tryz.call111⟩
instance : FCall Tryz.prog 108 := ⟨Tryz.call108⟩
instance : FCall Tryz.prog 179 := ⟨Tryz.call179⟩
instance : FCall Tryz.prog 119 := ⟨Tryz.call119⟩
instance : FCall Tryz.prog 75 := ⟨Tryz.call75⟩
instance : FCall Tryz.prog 118 := ⟨Tryz.call118⟩
instance : FCall Tryz.prog 13 := ⟨Tryz.call13⟩
instance : FCall Tryz.prog 180 := ⟨Tryz.call180⟩
instance : FCall Tryz.prog 52 := ⟨Tryz.call52⟩
instance : FCall Tryz.prog 92 := ⟨Tryz.call92⟩
instance : FCall Tryz.prog 91 := ⟨Tryz.call91⟩
instance : FCall Tryz.prog 22 := ⟨Tryz.call22⟩
instance : FCall Tryz.prog 27 := ⟨Tryz.call27⟩
instance : FCall Tryz.prog 5 := ⟨Tryz.call5⟩
instance : FCall Tryz.prog 72 := ⟨Tryz.call72⟩
instance : FCall Tryz.prog 174 := ⟨Tryz.call174⟩
instance : FCall Tryz.prog 171 := ⟨Tryz.call171⟩
instance : FCall Tryz.prog 189 := ⟨Tryz.call189⟩
instance : FCall Tryz.prog 70 := ⟨Tryz.call70⟩
instance : FCall Tryz.prog 30 := ⟨Tryz.call30⟩
instance : FCall Tryz.prog 85 := ⟨Tryz.call85⟩
instance : FCall Tryz.prog 184 := ⟨Tryz.call184⟩
instance : FCall Tryz.prog 170 := ⟨Tryz.call170⟩
instance : FCall Tryz.prog 87 := ⟨Tryz.call87⟩
instance : FCall Tryz.prog 12 := ⟨Tryz.call12⟩
instance : FCall Tryz.prog 53 := ⟨Tryz.call53⟩
instance : FCall Tryz.prog 48 := ⟨Tryz.call48⟩
instance : FCall Tryz.prog 110 := ⟨Tryz.call110⟩
instance : FCall Tryz.prog 93 := ⟨Tryz.call93⟩
instance : FCall Tryz.prog 114 := ⟨Tryz.call114⟩
instance : FCall Tryz.prog 96 := ⟨Tryz.call96⟩
instance : FCall Tryz.prog 84 := ⟨Tryz.call84⟩
instance : FCall Tryz.prog 56 := ⟨Tryz.call56⟩
instance : FCall Tryz.prog 94 := ⟨Tryz.call94⟩
instance : FCall Tryz.prog 123 := ⟨Tryz.call123⟩
theorem mixed : Tryz.prog.follows .mixedOrders = true := by kernel_rfl
end Go.Proofs.YtdiaogcogkapgaaGreatDoor
namespace Go.Proofs.YtdiaogcogkapgaaGreatDoor
open Go.RowKit
def Ms24 (ms : List (List Value)) : Prop := ∀ m ∈ ms, m.length = 24 ∧ (m.all fun v => v.oneCell') = true
theorem Ms24.flat {ms : List (List Value)} (h : Ms24 ms) : ms.flatten.length = ms.length * 24 := by
  induction ms with
  | nil => rfl
  | cons m ms ih =>
    rw [List.flatten_cons, List.length_append, (h m (List.mem_cons_self ..)).1, ih (fun x hx => h x (List.mem_cons_of_mem _ hx)), List.length_cons]
    omega
theorem Ms24.get : ∀ {ms : List (List Value)} {k : Nat} {m : List Value}, Ms24 ms → ms[k]? = some m → ∀ j, j < 24 → ms.flatten[k * 24 + j]? = m[j]?
  | [], _, _, _, hk, _, _ => by simp at hk
  | x :: ms, 0, m, h, hk, j, hj => by
    obtain rfl : x = m := by simpa using hk
    rw [List.flatten_cons, Nat.zero_mul, Nat.zero_add, List.getElem?_append_left (by rw [(h x (List.mem_cons_self ..)).1]; exact hj)]
  | x :: ms, k + 1, m, h, hk, j, hj => by
    have hx := (h x (List.mem_cons_self ..)).1
    rw [List.flatten_cons, List.getElem?_append_right (by omega), hx, show (k + 1) * 24 + j - 24 = k * 24 + j by omega]
    exact Ms24.get (fun y hy => h y (List.mem_cons_of_mem _ hy)) (by simpa using hk) j hj
theorem Ms24.app {ms : List (List Value)} {m : List Value} (h : Ms24 ms) (h1 : m.length = 24) (h2 : (m.all fun v => v.oneCell') = true) : Ms24 (ms ++ [m]) := fun x hx => by
  rcases List.mem_append.1 hx with hx | hx
  · exact h x hx
  · obtain rfl : x = m := by simpa using hx
    exact ⟨h1, h2⟩
abbrev BufM (v : Value) (T : List (Nat × Obj)) (ms : List (List Value)) : Prop := Buf 43 24 v T ms.length ms.flatten
abbrev sdO (b : Nat) (v : Value) (cap base limit : Nat) : Nat × Obj := (b, .cells #[v, .int .i64 (cap : Nat), .int .u64 (base : Nat), .int .u64 (limit : Nat)] 123 (0, 0))
theorem BufM.at_ {T : List (Nat × Obj)} {ms : List (List Value)} {v : Value} (h : BufM v T ms) (hm : Ms24 ms) {k : Nat} {m : List Value} (hk : ms[k]? = some m) : ∃ g off cap cur, v = .slice (some ⟨g, off, none⟩) ms.length cap ∧ T = [(g, .cells cur 43 (0, 0))] ∧ off + k * 24 + 24 ≤ cur.size ∧ cur.extract (off + k * 24) (off + k * 24 + 24) = m.toArray := by
  have hlt := (List.getElem?_eq_some_iff.1 hk).1
  rcases h with ⟨_, h2, _⟩ | ⟨g, off, cap, cur, rfl, rfl, ho⟩
  · omega
  · have hf := ho.fit
    have hle := ho.le
    refine ⟨g, off, cap, cur, rfl, rfl, ?_, ?_⟩
    · have : (k + 1) * 24 ≤ cap * 24 := Nat.mul_le_mul_right _ (by omega)
      omega
    · have hml := (hm m (List.mem_of_getElem? hk)).1
      apply Array.ext_getElem?
      intro j
      rw [Array.getElem?_extract]
      have hsz : off + k * 24 + 24 ≤ cur.size := by
        have : (k + 1) * 24 ≤ cap * 24 := Nat.mul_le_mul_right _ (by omega)
        omega
      by_cases hj : j < 24
      · rw [if_pos (by omega)]
        obtain ⟨x, hx⟩ : ∃ x, m[j]? = some x := ⟨_, List.getElem?_eq_getElem (by omega)⟩
        have := ho.at_ (k * 24 + j) x (by rw [hm.get hk j hj]; exact hx)
        rw [Nat.add_assoc off, this]
        simp [hx]
      · rw [if_neg (by omega)]
        simp; omega
attribute [local irreducible] Fn WC WL WR OW Qt YieldFn QW FnP FnD
theorem snew_fn {cap : Nat} (h1 : 1 ≤ cap) (h2 : cap ≤ 16) {L : List (Nat × Obj)} : Fn Tryz.prog 22 [.int .i64 (cap : Nat)] L (fun v L' => ∃ b, v = .pointer (some ⟨b, 0, none⟩) ∧ L' = sdO b (.slice none 0 0) cap 0 cap :: L) := by
  refine Fn_enter Tryz.func22 rfl Tryz.ntmps22 rfl fun gw => ?_
  have d1 : decide ((cap : Int) < 1) = false := decide_eq_false (by omega)
  have d2 : decide ((cap : Int) > 16) = false := decide_eq_false (by omega)
  have w : IntKind.u64.wrap (cap : Int) = (cap : Int) := wU64 (by omega) (by omega)
  repeat (first | refine RQ ?_ | ((first | refine WL_Q ?_ | refine WL_Y ?_); (first | refine QW_of (Qt_sl3m rfl) ?_)) | (refine RE ?_; try intro _) | refine RC ?_ | refine WC_region ?_)
  rename_i b
  exact ⟨rfl, _, _, Res1 rfl (resV_tmp rfl), .refl _, b, rfl, by rw [w]; rfl⟩
section
variable {b cap base limit : Nat} {v : Value} {T F : List (Nat × Obj)} {ms : List (List Value)}
theorem slen_fn (hb : BufM v T ms) {M : List (Nat × Obj)} {i : Nat} (hi : M[i]? = some (sdO b v cap base limit)) : Fn Tryz.prog 32 [.pointer (some ⟨b, 0, none⟩)] M (fun r L' => r = .int .i64 (ms.length : Nat) ∧ L' = M) := by
  obtain ⟨a, c, rfl, _, _⟩ := hb.val
  refine Fn_enter Tryz.func32 rfl Tryz.ntmps32 rfl fun gw => ?_
  repeat (first | refine RQ ?_ | (refine WL_Q ?_; (first | refine QW_of (Qt_sl3m rfl) ?_)) | refine RC ?_ | refine WC_region ?_)
  exact ⟨rfl, _, _, Res1 rfl (resV_tmp rfl), .refl _, rfl, rfl⟩
theorem sleft_fn (hb : BufM v T ms) (hl : ms.length ≤ cap) (hc : cap ≤ 16) {M : List (Nat × Obj)} {i : Nat} (hi : M[i]? = some (sdO b v cap base limit)) : Fn Tryz.prog 31 [.pointer (some ⟨b, 0, none⟩)] M (fun r L' => r = .int .i64 ((cap - ms.length : Nat) : Int) ∧ L' = M) := by
  obtain ⟨a, c, rfl, _, _⟩ := hb.val
  have w : IntKind.i64.wrap ((cap : Int) - (ms.length : Int)) = ((cap - ms.length : Nat) : Int) := by rw [wI64 (by omega) (by omega)]; omega
  refine Fn_enter Tryz.func31 rfl Tryz.ntmps31 rfl fun gw => ?_
  repeat (first | refine RQr ?_ | (refine RX ?_; (first | refine QW_of (Qt_sl3m rfl) ?_)) | refine RC ?_ | refine RU ?_ | refine WC_draw_all (id := 3) 11 (.calm 0 <| .calm 1 <| .calm 2 <| .calm 3 <| .calm 4 <| .calm 5 <| .calm 6 <| .calm 7 <| .calm 8 <| .calm 9 <| .calm 10 <| .done) mixed (by kernel_rfl) ?_ | refine WC_region ?_)
  exact ⟨rfl, _, _, Res1 rfl (resV_tmp rfl), .refl _, by rw [← w], rfl⟩
theorem spush_full {m : Array Value} (hb : BufM v T ms) (hl : ms.length = cap) (hc : cap ≤ 16) : Fn Tryz.prog 29 [.pointer (some ⟨b, 0, none⟩), .agg m] (sdO b v cap base limit :: (T ++ F)) (fun r L' => r = .int .i64 8 ∧ L' = sdO b v cap base limit :: (T ++ F)) := by
  refine Fn_enter Tryz.func29 rfl Tryz.ntmps29 rfl fun gw => ?_
  have d : (((cap - ms.length : Nat) : Int) == 0) = true := by simp; omega
  repeat (first | refine RQr ?_ | (refine RX ?_; (first | refine QW_of (Qt_sl3m rfl) ?_)) | (refine OX ?_; (first | (refine OE ?_; try intro _) | refine OW_callP rfl (hF := sleft_fn hb (by omega) hc (i := 1) rfl) (hk := ?_)); try refine SD ?_) | refine RC ?_ | refine RU ?_ | refine WC_draw_all (id := 5) 8 (.calm 0 <| .calm 1 <| .calm 2 <| .calm 3 <| .calm 4 <| .calm 5 <| .must 6 <| .must 7 <| .must 8 <| .must 9 <| .must 10 <| .done) mixed (by kernel_rfl) ?_ | refine WC_region ?_)
  exact ⟨rfl, _, _, Res1 rfl (resV_tmp rfl), .cons _ (.refl _), rfl, rfl⟩
set_option maxHeartbeats 1000000 in
theorem spush_ok {m : List Value} (hm : m.length = 24) (hm1 : (m.all fun v => v.oneCell') = true) (hb : BufM v T ms) (hl : ms.length < cap) (hc : cap ≤ 16) : Fn Tryz.prog 29 [.pointer (some ⟨b, 0, none⟩), .agg m.toArray] (sdO b v cap base limit :: (T ++ F)) (fun r L' => r = .int .i64 0 ∧ ∃ v' T', BufM v' T' (ms ++ [m]) ∧ L' = sdO b v' cap base limit :: (T' ++ F)) := by
  refine Fn_enter Tryz.func29 rfl Tryz.ntmps29 rfl fun gw => ?_
  have d : (((cap - ms.length : Nat) : Int) == 0) = false := by simp; omega
  have hmz : m.toArray.size = 24 := hm
  have hone : ∀ u ∈ m, u.oneCell' = true := by simpa [List.all_eq_true] using hm1
  repeat (first | refine RQ ?_ | (refine WL_Q ?_; (first | refine QW_of (Qt_sl3m rfl) ?_)) | (refine RE ?_; try intro _) | (refine WL_op rfl ?_; (first | refine OW_callP rfl (hF := sleft_fn hb (by omega) hc (i := 1) rfl) (hk := ?_) | refine OW_callP rfl (hF := sleft_fn hb (by omega) hc (i := 1) rfl) (hk := ?_))) | refine RC ?_ | refine WG 0 ?_ | refine WG 1 ?_ | refine WG 3 ?_)
  rename_i x3
  have hsub : [(x3, Obj.cells m.toArray 43 (0, 0)), sdO b v cap base limit].Sublist ((x3, .cells m.toArray 43 (0, 0)) :: sdO b v cap base limit :: (T ++ F)) := .cons_cons _ (.cons_cons _ (List.nil_sublist _))
  repeat (first | refine RQ ?_ | (refine WL_Q ?_; (first | refine QW_of (Qt_sl3m rfl) ?_)) | refine RC ?_ | refine WG 6 ?_)
  refine WC_draw_sub (id := 5) 8 (.calm 0 <| .calm 1 <| .calm 2 <| .calm 3 <| .calm 4 <| .calm 5 <| .must 6 <| .must 7 <| .must 8 <| .must 9 <| .must 10 <| .done) mixed (by kernel_rfl) (hsub) ?_
  repeat (first | refine RQr ?_ | (refine RX ?_; (first | refine QW_of (Qt_sl3m rfl) ?_)) | ((first | refine WL_op rfl ?_ | refine WR_late rfl rfl rfl ?_ | refine WR_op rfl rfl ?_); (first | (refine OE ?_; try intro _)); try refine SD ?_) | refine RC ?_ | refine RU ?_ | refine WC_draw_all (id := 5) 8 (.calm 0 <| .calm 1 <| .calm 2 <| .calm 3 <| .calm 4 <| .calm 5 <| .must 6 <| .must 7 <| .must 8 <| .must 9 <| .must 10 <| .done) mixed (by kernel_rfl) ?_)
  rename_i eb
  refine WR_op rfl rfl (OW_append_bufM (A := [(eb, Obj.cells m.toArray 43 (0, 0)), (x3, .cells m.toArray 43 (0, 0)), sdO b v cap base limit]) (T := T) (B := F) rfl rfl rfl rfl rfl hb (srcVec ⟨by rw [hm], _, 1, rfl, Nat.le_refl _, by decide, .inr ⟨eb, 0, _, _, _, 0, rfl, rfl, fun j x hx => by rw [Nat.zero_add]; simpa using hx⟩⟩ hone) (by rw [hm]) (by simp only [maxLen]; omega) (by omega) ?_)
  intro v' T' hb'
  have hb' : BufM v' T' (ms ++ [m]) := by
    unfold BufM
    rw [List.length_append, List.flatten_append, List.flatten_cons, List.flatten_nil, List.append_nil]
    exact hb'
  obtain ⟨av, ac, rfl, _, _⟩ := id hb'.val
  refine ⟨sub_mem (.cons _ (.cons_cons _ (.cons_cons _ (List.nil_sublist _)))), ?_⟩
  repeat (first | refine RQr ?_ | (refine RX ?_; (first | refine QW_of (Qt_sl3m rfl) ?_)) | (refine OX ?_; (first | (refine OE ?_; try intro _)); try refine SD ?_) | refine RC ?_ | refine RU ?_ | refine WC_draw_all (id := 5) 8 (.calm 0 <| .calm 1 <| .calm 2 <| .calm 3 <| .calm 4 <| .calm 5 <| .must 6 <| .must 7 <| .must 8 <| .must 9 <| .must 10 <| .done) mixed (by kernel_rfl) ?_)
  repeat (first | refine RQ ?_ | (refine WL_Q ?_; (first | refine QW_of (Qt_sl3m rfl) ?_)) | refine RC ?_ | refine WG 6 ?_)
  exact ⟨rfl, _, _, Res1 rfl (resV_tmp rfl), .cons _ (.cons _ (.refl _)), rfl, _, T', hb', rfl⟩
def mayN (len base limit : Nat) : Nat := if limit ≤ base then 1 else min len (limit - base)
theorem mayN_pos {len : Nat} (h : 0 < len) : 0 < mayN len base limit ∧ mayN len base limit ≤ len := by
  unfold mayN
  split <;> omega
set_option maxHeartbeats 1000000 in
theorem snext1_fn {q i j : Nat} {M : List (Nat × Obj)} (hb : BufM v T ms) (hi : M[i]? = some (q, .cells #[.pointer (some ⟨b, 0, none⟩)] 72 (0, 0))) (hj : M[j]? = some (sdO b v cap base limit)) (hlen : ms.length ≤ 1000) (h1 : base ≤ 1000000000000) (h2 : limit ≤ 1000000000000) : Fn Tryz.prog 56 [.pointer (some ⟨q, 0, none⟩)] M (fun r L' => r = .int .i64 (mayN ms.length base limit : Nat) ∧ L' = M) := by
  obtain ⟨a, c, rfl, _, _⟩ := hb.val
  refine Fn_enter Tryz.func56 rfl Tryz.ntmps56 rfl fun gw => ?_
  by_cases h : limit ≤ base
  · have d : decide ((limit : Int) ≤ (base : Int)) = true := decide_eq_true (by omega)
    repeat (first | refine RQr ?_ | (refine RX ?_; (first | refine QW_of (Qt_sl3m rfl) ?_)) | refine RC ?_ | refine RU ?_ | refine WC_draw_all (id := 1) 9 (.calm 0 <| .calm 1 <| .calm 2 <| .calm 3 <| .calm 4 <| .calm 5 <| .calm 6 <| .calm 7 <| .calm 8 <| .done) mixed (by kernel_rfl) ?_ | refine WC_draw_all (id := 3) 18 (.calm 0 <| .calm 1 <| .calm 2 <| .calm 3 <| .calm 4 <| .calm 5 <| .calm 6 <| .calm 7 <| .calm 8 <| .calm 9 <| .calm 10 <| .calm 11 <| .calm 12 <| .calm 13 <| .calm 14 <| .calm 15 <| .calm 16 <| .calm 17 <| .done) mixed (by kernel_rfl) ?_ | refine WC_region ?_)
    exact ⟨rfl, _, _, Res1 rfl (resV_tmp rfl), .refl _, by unfold mayN; rw [if_pos h]; rfl, rfl⟩
  · have d : decide ((limit : Int) ≤ (base : Int)) = false := decide_eq_false (by omega)
    repeat (first | refine RQr ?_ | (refine RX ?_; (first | refine QW_of (Qt_sl3m rfl) ?_)) | refine RC ?_ | refine RU ?_ | refine WC_draw_all (id := 1) 9 (.calm 0 <| .calm 1 <| .calm 2 <| .calm 3 <| .calm 4 <| .calm 5 <| .calm 6 <| .calm 7 <| .calm 8 <| .done) mixed (by kernel_rfl) ?_ | refine WC_draw_all (id := 3) 18 (.calm 0 <| .calm 1 <| .calm 2 <| .calm 3 <| .calm 4 <| .calm 5 <| .calm 6 <| .calm 7 <| .calm 8 <| .calm 9 <| .calm 10 <| .calm 11 <| .calm 12 <| .calm 13 <| .calm 14 <| .calm 15 <| .calm 16 <| .calm 17 <| .done) mixed (by kernel_rfl) ?_ | refine WC_region ?_)
    refine ⟨rfl, _, _, Res1 rfl (resV_tmp rfl), .refl _, ?_, rfl⟩
    have w1 : IntKind.u64.wrap (ms.length : Int) = (ms.length : Int) := wU64 (by omega) (by omega)
    have w2 : IntKind.u64.wrap ((limit : Int) - (base : Int)) = ((limit - base : Nat) : Int) := by rw [wU64 (by omega) (by omega)]; omega
    rw [w1, w2]
    have w3 : (if ((limit - base : Nat) : Int) < (ms.length : Int) then ((limit - base : Nat) : Int) else (ms.length : Int)) = ((mayN ms.length base limit : Nat) : Int) := by
      unfold mayN
      rw [if_neg h]
      split <;> omega
    rw [w3, wI64 (by omega) (by unfold mayN; split <;> omega)]
set_option maxHeartbeats 1000000 in
theorem snext_none {k : Int} (hb : BufM v T []) : Fn Tryz.prog 30 [.pointer (some ⟨b, 0, none⟩), .int .i64 k] (sdO b v cap base limit :: (T ++ F)) (fun r L' => r = .tuple #[.int .u64 0, .agg zc43, .bool false] ∧ L' = sdO b v cap base limit :: (T ++ F)) := by
  obtain ⟨a, c, rfl, _, _⟩ := hb.val
  refine Fn_enter Tryz.func30 rfl Tryz.ntmps30 rfl fun gw => ?_
  have d : ((((([] : List (List Value)).length : Nat)) : Int) == 0) = true := rfl
  repeat (first | refine RQr ?_ | ((first | refine WL_Q ?_ | refine WL_Y ?_ | refine WR_Q rfl ?_ | refine WR_late rfl rfl rfl (OW_Q ?_) | refine WR_Y rfl ?_); (first | refine QW_of (Qt_sl3m rfl) ?_)) | ((first | refine WL_op rfl ?_ | refine WL_yes (h := ?_) | refine WR_late rfl rfl rfl ?_ | refine WR_opG rfl rfl ?_ | refine WR_opYG rfl (h := ?_)); (first | (refine OE ?_; try intro _)); try refine SD ?_) | refine RC ?_ | refine RU ?_ | refine WC_draw_all (id := 2) 2 (.calm 0 <| .calm 1 <| .must 2 <| .must 3 <| .done) mixed (by kernel_rfl) ?_ | refine WC_draw_all (id := 5) 15 (.calm 0 <| .calm 1 <| .calm 2 <| .calm 3 <| .calm 4 <| .calm 5 <| .calm 6 <| .calm 7 <| .calm 8 <| .calm 9 <| .calm 10 <| .calm 11 <| .calm 12 <| .calm 13 <| .calm 14 <| .must 15 <| .must 16 <| .done) mixed (by kernel_rfl) ?_ | refine WC_region ?_)
  exact ⟨rfl, _, _, Res3 rfl (resV_tmp rfl) (resV_cellN rfl 0 rfl rfl) (resV_tmp rfl), .cons _ (.cons _ (.refl _)), rfl, rfl⟩
set_option maxHeartbeats 1000000 in
theorem snext_ok {k : Nat} {m : List Value} (hb : BufM v T ms) (hms : Ms24 ms) (hk : ms[k % mayN ms.length base limit]? = some m) (hlen : ms.length ≤ 1000) (h1 : base ≤ 1000000000000) (h2 : limit ≤ 1000000000000) (hk2 : k ≤ 1000000) : Fn Tryz.prog 30 [.pointer (some ⟨b, 0, none⟩), .int .i64 (k : Nat)] (sdO b v cap base limit :: (T ++ F)) (fun r L' => r = .tuple #[.int .u64 (base + k % mayN ms.length base limit : Nat), .agg m.toArray, .bool true] ∧ L' = sdO b v cap base limit :: (T ++ F)) := by
  obtain ⟨g, off, c, cur, rfl, rfl, hsz, hx⟩ := hb.at_ hms hk
  have hlt := (List.getElem?_eq_some_iff.1 hk).1
  have hml := (hms m (List.mem_of_getElem? hk)).1
  have hone := (hms m (List.mem_of_getElem? hk)).2
  obtain ⟨mp, ml⟩ := mayN_pos (len := ms.length) (base := base) (limit := limit) (Nat.lt_of_le_of_lt (Nat.zero_le _) hlt)
  refine Fn_enter Tryz.func30 rfl Tryz.ntmps30 rfl fun gw => ?_
  have hp : 0 < ms.length := Nat.lt_of_le_of_lt (Nat.zero_le _) hlt
  have d : (((ms.length : Nat) : Int) == 0) = false := by
    have : ((ms.length : Nat) : Int) ≠ 0 := by omega
    simpa using this
  repeat (first | refine RQ ?_ | ((first | refine WL_Q ?_ | refine WL_Y ?_); (first | refine QW_of (Qt_sl3m rfl) ?_)) | (refine RE ?_; try intro _) | refine RC ?_ | refine WG 0 ?_ | refine WG 1 ?_ | refine WG 3 ?_ | refine WG 4 ?_)
  rename_i q x5
  refine WL_op rfl (OW_callv rfl rfl rfl rfl rfl (snext1_fn (i := 1) (j := 2) hb rfl rfl hlen h1 h2) ?_)
  rintro _ _ ⟨rfl, rfl⟩
  have e0 : (if ((k : Nat) : Int) > 0 then ((k : Nat) : Int) else 0) = ((k : Nat) : Int) := by split <;> omega
  have hne : ((mayN ms.length base limit : Nat) : Int) ≠ 0 := by omega
  have e1 : ((k : Nat) : Int).tmod ((mayN ms.length base limit : Nat) : Int) = ((k % mayN ms.length base limit : Nat) : Int) := rfl
  rw [e0]
  repeat (first | refine RQ ?_ | (refine WL_Q ?_; (first | refine QW_of (Qt_sl3m rfl) ?_)) | refine RC ?_ | refine WG 4 ?_)
  rw [e1]
  generalize k % mayN ms.length base limit = at_ at hsz hx hlt ⊢
  have p0 : (0 : Int) ≤ (at_ : Int) := by omega
  have p1 : (at_ : Int) < ((ms.length : Nat) : Int) := by omega
  have w1 : IntKind.u64.wrap ((at_ : Nat) : Int) = ((at_ : Nat) : Int) := wU64 (by omega) (by omega)
  have w2 : IntKind.u64.wrap (((base : Nat) : Int) + ((at_ : Nat) : Int)) = ((base + at_ : Nat) : Int) := by rw [wU64 (by omega) (by omega)]; omega
  have hx' : cur.extract (off + ((at_ : Nat) : Int).toNat * 24) (off + ((at_ : Nat) : Int).toNat * 24 + 24) = m.toArray := by rw [Int.toNat_natCast]; exact hx
  have hsz' : off + ((at_ : Nat) : Int).toNat * 24 + 24 ≤ cur.size := by rw [Int.toNat_natCast]; exact hsz
  repeat (first | refine RQr ?_ | (refine RX ?_; (first | refine QW_of (Qt_sl3m rfl) ?_)) | (refine OX ?_; (first | (refine OE ?_; try intro _)); try refine SD ?_) | refine RC ?_ | refine RU ?_ | refine WC_draw_all (id := 5) 15 (.calm 0 <| .calm 1 <| .calm 2 <| .calm 3 <| .calm 4 <| .calm 5 <| .calm 6 <| .calm 7 <| .calm 8 <| .calm 9 <| .calm 10 <| .calm 11 <| .calm 12 <| .calm 13 <| .calm 14 <| .must 15 <| .must 16 <| .done) mixed (by kernel_rfl) ?_)
  rw [hx', w1, w2]
  have hmz : m.toArray.size = 24 := hml
  have hm1 : (m.toArray.toList.all fun v => v.oneCell') = true := hone
  repeat (first | refine RQr ?_ | (refine RX ?_; (first | refine QW_of (Qt_sl3m rfl) ?_)) | (refine OX ?_; (first | (refine OE ?_; try intro _)); try refine SD ?_) | refine RC ?_ | refine RU ?_ | refine WC_draw_all (id := 5) 15 (.calm 0 <| .calm 1 <| .calm 2 <| .calm 3 <| .calm 4 <| .calm 5 <| .calm 6 <| .calm 7 <| .calm 8 <| .calm 9 <| .calm 10 <| .calm 11 <| .calm 12 <| .calm 13 <| .calm 14 <| .must 15 <| .must 16 <| .done) mixed (by kernel_rfl) ?_)
  exact ⟨rfl, _, _, Res3 rfl (resV_tmp rfl) (resV_cellN rfl 0 rfl hmz) (resV_tmp rfl), .cons _ (.cons _ (.refl _)), rfl, rfl⟩
theorem Ms24.drop (h : Ms24 ms) (n : Nat) : Ms24 (ms.drop n) := fun m hm => h m (List.mem_of_mem_drop hm)
theorem Ms24.take (h : Ms24 ms) (n : Nat) : Ms24 (ms.take n) := fun m hm => h m (List.mem_of_mem_take hm)
theorem Ms24.flat_drop (h : Ms24 ms) {n : Nat} (hn : n ≤ ms.length) : ms.flatten.drop (n * 24) = (ms.drop n).flatten := by
  have e : ms.flatten = (ms.take n).flatten ++ (ms.drop n).flatten := by rw [← List.flatten_append, List.take_append_drop]
  have hl : (ms.take n).flatten.length = n * 24 := by rw [(h.take n).flat, List.length_take]; congr 1; omega
  rw [e, ← hl, List.drop_left]
theorem BufM.drop (hb : BufM v T ms) (hms : Ms24 ms) {n : Nat} (hn : n ≤ ms.length) : ∃ a c, v = .slice a ms.length c ∧ ms.length ≤ c ∧ BufM (sliced a n ms.length ms.length 24) T (ms.drop n) := by
  obtain ⟨a, c, hv, hle, hmx⟩ := hb.val
  refine ⟨a, c, hv, hle, ?_⟩
  rcases hb with ⟨h1, h2, h3, h4⟩ | ⟨g, off, cap', cur, h3, rfl, ho⟩
  · obtain rfl : ms = [] := List.eq_nil_of_length_eq_zero h2
    rw [hv] at h3
    simp only [Value.slice.injEq] at h3
    obtain ⟨rfl, _, rfl⟩ := h3
    obtain rfl : n = 0 := by simpa using hn
    exact .inl ⟨rfl, rfl, rfl, h4⟩
  · rw [hv] at h3
    simp only [Value.slice.injEq] at h3
    obtain ⟨rfl, _, rfl⟩ := h3
    have hdl : (ms.drop n).length = ms.length - n := List.length_drop
    have hf := ho.fit
    have hfl := (hms.drop n).flat
    by_cases hfull : ms.length = n
    · have e : sliced (some ⟨g, off, none⟩) n ms.length ms.length 24 = .slice (some ⟨g, off, none⟩) (ms.drop n).length 0 := by
        unfold sliced
        rw [if_pos hfull, hdl]
        congr 1; omega
      rw [e]
      have h0 : (ms.drop n).length = 0 := by omega
      have hnil : ms.drop n = [] := List.eq_nil_of_length_eq_zero h0
      refine .inr ⟨g, off, 0, cur, rfl, rfl, ?_⟩
      rw [hnil]
      exact ⟨rfl, Nat.le_refl _, by simp [maxLen], by omega, fun j x hj => by simp at hj⟩
    · have e : sliced (some ⟨g, off, none⟩) n ms.length ms.length 24 = .slice (some ⟨g, off + n * 24, none⟩) (ms.drop n).length (ms.length - n) := by
        unfold sliced
        rw [if_neg hfull, hdl]
        simp [Addr.add_mid]
      rw [e]
      refine .inr ⟨g, off + n * 24, ms.length - n, cur, rfl, rfl, ?_⟩
      refine ⟨hfl, by omega, by omega, ?_, fun j x hj => ?_⟩
      · have h1 : n * 24 + (ms.length - n) * 24 = ms.length * 24 := by rw [← Nat.add_mul]; congr 1; omega
        have h2 : ms.length * 24 ≤ c * 24 := Nat.mul_le_mul_right _ hle
        omega
      · rw [← hms.flat_drop hn, List.getElem?_drop] at hj
        rw [Nat.add_assoc]
        exact ho.at_ _ _ hj
end
section
variable {c : Cx} {s : List (Nat × Value)} {L : List (Nat × Obj)} {o : Oper}
theorem Qt_sl3m {t E n : Nat} [hu : TUnd c.P t (.slice E)] [hs : TSize c.P E n] {x lo hi mx : Operand} {a : Option Addr} {len cap : Nat} {k k' k'' : IntKind} {l h m : Int} (ho : o.op = .slice t x (some lo) (some hi) (some mx)) (hx : ev s x = some (.slice a len cap) := by exact rfl) (hl : ev s lo = some (.int k'' l) := by exact rfl) (hh : ev s hi = some (.int k h) := by exact rfl) (hm : ev s mx = some (.int k' m) := by exact rfl)
    (hl0 : 0 ≤ l := by first | with_reducible assumption | decide | omega) (hl1 : l ≤ h := by first | with_reducible assumption | exact Int.le_refl _ | omega) (h1 : h ≤ m := by first | with_reducible assumption | exact Int.le_refl _ | omega) (h2 : m ≤ cap := by first | with_reducible assumption | omega) : Qt c s L o (sliced a l.toNat h.toNat m.toNat n) :=
  Qt_of_run (by simp [ho]) (fun ρ hρ w _ => by
    have hut : c.P.underlying t = some (.slice (c.P.elem t)) := by rw [elem_of hu.h]; exact hu.h
    have h3 := run_slice_lhm (P := c.P) w t a len cap hut k'' k k' l h m hl0 hl1 h1 h2
    rw [elem_of hu.h, hs.h] at h3
    have h4 := run_sliceAt_slice (P := c.P) w t (.slice a len cap) (some (.int k'' l)) (some (.int k h)) (some (.int k' m)) hut
    simp only [Result.andThen] at h3
    simp [execOp, ho, hρ x _ hx, hρ lo _ hl, hρ hi _ hh, hρ mx _ hm, h4, h3])
end
section
variable {b cap base limit : Nat} {v : Value} {T F : List (Nat × Obj)} {ms : List (List Value)}
set_option maxHeartbeats 2000000 in
theorem sack_ok {next room : Nat} (hb : BufM v T ms) (hms : Ms24 ms) (hlen : ms.length ≤ 1000) (hbb : base ≤ 1000000000000) (h : next ≤ base + ms.length) (hr : room ≤ cap) (hc : cap ≤ 16) : Fn Tryz.prog 51 [.pointer (some ⟨b, 0, none⟩), .int .u64 (next : Nat), .int .i64 (room : Nat)] (sdO b v cap base limit :: (T ++ F)) (fun r L' => r = .int .i64 0 ∧ ∃ v', BufM v' T (ms.drop (next - base)) ∧ L' = sdO b v' cap (max base next) (max limit (next + room)) :: (T ++ F)) := by
  obtain ⟨a, c, rfl, hle, hdr⟩ := hb.drop hms (n := next - base) (by omega)
  have w1 : IntKind.u64.wrap ((ms.length : Nat) : Int) = ((ms.length : Nat) : Int) := wU64 (by omega) (by omega)
  have d3 : decide (((room : Nat) : Int) < 0) = false := decide_eq_false (by omega)
  have d4 : decide (((room : Nat) : Int) > (cap : Int)) = false := decide_eq_false (by omega)
  have w5 : IntKind.u64.wrap ((room : Nat) : Int) = ((room : Nat) : Int) := wU64 (by omega) (by omega)
  have w6 : IntKind.u64.wrap (((next : Nat) : Int) + ((room : Nat) : Int)) = ((next + room : Nat) : Int) := by rw [wU64 (by omega) (by omega)]; omega
  have w7 : (if ((next + room : Nat) : Int) > ((limit : Nat) : Int) then ((next + room : Nat) : Int) else ((limit : Nat) : Int)) = ((max limit (next + room) : Nat) : Int) := by split <;> omega
  refine Fn_enter Tryz.func51 rfl Tryz.ntmps51 rfl fun gw => ?_
  by_cases hgt : base < next
  · have d1 : decide (((next : Nat) : Int) > (base : Int)) = true := decide_eq_true (by omega)
    have w2 : IntKind.u64.wrap (((next : Nat) : Int) - (base : Int)) = ((next - base : Nat) : Int) := by rw [wU64 (by omega) (by omega)]; omega
    have d2 : decide (IntKind.u64.wrap (((next : Nat) : Int) - (base : Int)) > IntKind.u64.wrap ((ms.length : Nat) : Int)) = false := by rw [w1, w2]; exact decide_eq_false (by omega)
    have w3 : IntKind.i64.wrap ((next - base : Nat) : Int) = ((next - base : Nat) : Int) := wI64 (by omega) (by omega)
    repeat (first | refine RQr ?_ | ((first | refine WL_Q ?_ | refine WL_Y ?_ | refine WR_Q rfl ?_ | refine WR_late rfl rfl rfl (OW_Q ?_) | refine WR_Y rfl ?_); (first | refine QW_of (Qt_sl3m rfl) ?_)) | refine RC ?_ | refine RU ?_ | refine WC_draw_all (id := 2) 22 (.calm 0 <| .calm 1 <| .calm 2 <| .calm 3 <| .calm 4 <| .calm 5 <| .calm 6 <| .calm 7 <| .calm 8 <| .calm 9 <| .calm 10 <| .calm 11 <| .calm 12 <| .calm 13 <| .calm 14 <| .calm 15 <| .calm 16 <| .calm 17 <| .calm 18 <| .calm 19 <| .calm 20 <| .calm 21 <| .done) mixed (by kernel_rfl) ?_ | refine WG 0 ?_ | refine WG 1 ?_ | refine WG 3 ?_ | refine WG 4 ?_ | refine WG 7 ?_ | refine WG 8 ?_)
    rw [w2, w3]
    have q0 : (0 : Int) ≤ ((next - base : Nat) : Int) := by omega
    have q1 : ((next - base : Nat) : Int) ≤ ((ms.length : Nat) : Int) := by omega
    have q2 : ((ms.length : Nat) : Int) ≤ ((c : Nat) : Int) := by omega
    repeat (first | refine RQr ?_ | (refine RX ?_; (first | refine QW_of (Qt_sl3m rfl) ?_)) | (refine OX ?_; (first | (refine OE ?_; try intro _)); try refine SD ?_) | refine RC ?_ | refine RU ?_ | refine WC_draw_all (id := 9) 17 (.calm 0 <| .calm 1 <| .calm 2 <| .calm 3 <| .calm 4 <| .calm 5 <| .calm 6 <| .calm 7 <| .calm 8 <| .calm 9 <| .calm 10 <| .calm 11 <| .calm 12 <| .calm 13 <| .calm 14 <| .calm 15 <| .calm 16 <| .must 17 <| .must 18 <| .must 19 <| .done) mixed (by kernel_rfl) ?_)
    repeat (first | refine RQ ?_ | (refine WL_Q ?_; (first | refine QW_of (Qt_sl3m rfl) ?_)) | (refine RE ?_; try intro _) | refine RC ?_ | refine WG 10 ?_ | refine WG 11 ?_)
    rw [w5, w6, w7]
    repeat (first | refine RQ ?_ | (refine WL_Q ?_; (first | refine QW_of (Qt_sl3m rfl) ?_)) | (refine RE ?_; try intro _) | refine RC ?_ | refine WG 11 ?_ | refine WG 12 ?_)
    have hmax : max base next = next := by omega
    rw [hmax]
    exact ⟨rfl, _, _, Res1 rfl (resV_tmp rfl), .refl _, rfl, _, hdr, rfl⟩
  · have d1 : decide (((next : Nat) : Int) > (base : Int)) = false := decide_eq_false (by omega)
    repeat (first | refine RQr ?_ | ((first | refine WL_Q ?_ | refine WL_Y ?_ | refine WR_Q rfl ?_ | refine WR_late rfl rfl rfl (OW_Q ?_) | refine WR_Y rfl ?_); (first | refine QW_of (Qt_sl3m rfl) ?_)) | ((first | refine WL_op rfl ?_ | refine WL_yes (h := ?_) | refine WR_late rfl rfl rfl ?_ | refine WR_opG rfl rfl ?_ | refine WR_opYG rfl (h := ?_)); (first | (refine OE ?_; try intro _)); try refine SD ?_) | refine RC ?_ | refine RU ?_ | refine WC_draw_all (id := 2) 22 (.calm 0 <| .calm 1 <| .calm 2 <| .calm 3 <| .calm 4 <| .calm 5 <| .calm 6 <| .calm 7 <| .calm 8 <| .calm 9 <| .calm 10 <| .calm 11 <| .calm 12 <| .calm 13 <| .calm 14 <| .calm 15 <| .calm 16 <| .calm 17 <| .calm 18 <| .calm 19 <| .calm 20 <| .calm 21 <| .done) mixed (by kernel_rfl) ?_ | refine WG 0 ?_ | refine WG 1 ?_ | refine WG 3 ?_ | refine WG 4 ?_ | refine WG 7 ?_ | refine WG 11 ?_)
    rw [w5, w6, w7]
    repeat (first | refine RQ ?_ | (refine WL_Q ?_; (first | refine QW_of (Qt_sl3m rfl) ?_)) | (refine RE ?_; try intro _) | refine RC ?_ | refine WG 11 ?_ | refine WG 12 ?_)
    have hmax : max base next = base := by omega
    have h0 : next - base = 0 := by omega
    rw [hmax, h0, List.drop_zero]
    exact ⟨rfl, _, _, Res1 rfl (resV_tmp rfl), .refl _, rfl, _, hb, rfl⟩
end
end Go.Proofs.YtdiaogcogkapgaaGreatDoor
