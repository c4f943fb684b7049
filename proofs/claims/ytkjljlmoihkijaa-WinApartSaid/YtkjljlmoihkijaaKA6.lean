/-
  A part of what the last of these texts needs; by itself it proves no statement.
-/
import Derived.LoopNIn
import Derived.Test.YtkjljlmoihkijaaRows
import Derived.ChangeKeysEq
import Derived.Deep.Upon
import Derived.Shelf.SlSortCmp.WholeK
import Derived.Test.YtkjljlmoihkijaaChecked
import Derived.Handy
import Derived.Deep.QuietTactic
import Derived.Test.YtkjljlmoihkijaaKA5
namespace Go.Proofs.Ytkjljlmoihkijaa
open Go.RowKit
noncomputable section
attribute [local irreducible] T.put T.set opX opP calmX effX callX appendX
structure XF where
  fn : Func
  code : Code
  pt : T (Nat × Plan)
  mask : Nat
def resX (P : Program) (s : S) (h : T O) : List ResultVar → Option (List V)
  | [] => some []
  | .tmp t :: r => match s.get t, resX P s h r with
    | some v, some l => some (v :: l)
    | _, _ => none
  | .cell a t :: r => match loadX P h t (s.get a), resX P s h r with
    | some (v, _), some l => some (v :: l)
    | _, _ => none
def leaveX (call : CallF) : List DI → Option V → H → Option (Option V × H)
  | [], m, Hp => some (m, Hp)
  | .mark k :: r, m, Hp => match Hp.h.get k with
    | some .defer => leaveX call r m (Hp.upd k .gone)
    | _ => none
  | .call f A B :: r, m, Hp => match call.d f (A ++ B) m Hp with
    | some (m2, H2) => leaveX call r m2 H2
    | none => none
inductive FR where
  | ret (v : V)
  | pan (v : V)
def retX (P : Program) (x : XF) (ds0 : List DI) (s2 : S) (H3 : H) : Option V → Option (FR × H)
  | none => match resX P s2 H3.h x.fn.results.toList with
    | some [v] => some (.ret v, ⟨H3.h, H3.n, H3.log, ds0⟩)
    | some l => some (.ret (.tup l), ⟨H3.h, H3.n, H3.log, ds0⟩)
    | none => none
  | some v => some (.pan v, ⟨H3.h, H3.n, H3.log, ds0⟩)
def goneX (P : Program) (call : CallF) (x : XF) (ds0 : List DI) (s2 : S) (H2 : H) (m : Option V) : Option (FR × H) := match leaveX call H2.ds m H2 with
  | some (m2, H3) => retX P x ds0 s2 H3 m2
  | none => none
def endF (P : Program) (call : CallF) (x : XF) (ds0 : List DI) : CX → Option (FR × H)
  | some (.normal, s2, H2) => goneX P call x ds0 s2 H2 none
  | some (.ret, s2, H2) => goneX P call x ds0 s2 H2 none
  | some (.panic v, s2, H2) => goneX P call x ds0 s2 H2 (some v)
  | _ => none
def runF (P : Program) (tab : T XF) (lf : Nat) (call : CallF) (f : FuncId) (vs : List V) (Hp : H) : Option (FR × H) := match tab.get f with
  | some x => match Nat.ble vs.length x.fn.ntmps with
    | true => endF P call x Hp.ds (codeX P call x.pt lf true x.fn.ntmps x.code (S.ofArgs vs x.mask) ⟨Hp.h, Hp.n, Hp.log, []⟩)
    | false => none
  | none => none
def recOf : Code → Option (Option Nat × List Oper × Code)
  | .seq (.region _ ops false) rest => match ops.toList with
    | o :: more => match o.op, o.guard with
      | .call cl, none => match cl.callee with
        | .builtin .recover => some (o.dst, more, rest)
        | _ => none
      | _, _ => none
    | _ => none
  | _ => none
def calmL (P : Program) (h : T O) : List Oper → S → Option S
  | [], s => some s
  | o :: r, s => match o.guard, calmX P s h o.op with
    | none, some (v, _) => calmL P h r (putD s o.dst v)
    | _, _ => none
def recV : Option V → V
  | none => .nili
  | some v => v
def doneD (P : Program) (x : XF) (ds0 : List DI) (m : Option V) (s2 : S) (H2 : H) : Option (Option V × H) := match H2.ds, resX P s2 H2.h x.fn.results.toList with
  | [], some _ => some (m, ⟨H2.h, H2.n, H2.log, ds0⟩)
  | _, _ => none
def endD (P : Program) (x : XF) (ds0 : List DI) (m : Option V) : CX → Option (Option V × H)
  | some (.normal, s2, H2) => doneD P x ds0 m s2 H2
  | some (.ret, s2, H2) => doneD P x ds0 m s2 H2
  | _ => none
def defF (P : Program) (tab : T XF) (lf : Nat) (call : CallF) (f : FuncId) (vs : List V) (m : Option V) (Hp : H) : Option (Option V × H) := match tab.get f with
  | some x => match Nat.ble vs.length x.fn.ntmps with
    | true => match recOf x.code with
      | some (d, more, rest) => match calmL P Hp.h more (putD (S.ofArgs vs x.mask) d (recV m)) with
        | some s => endD P x Hp.ds none (codeX P call x.pt lf true x.fn.ntmps rest s ⟨Hp.h, Hp.n, Hp.log, []⟩)
        | none => none
      | none => endD P x Hp.ds m (codeX P call x.pt lf true x.fn.ntmps x.code (S.ofArgs vs x.mask) ⟨Hp.h, Hp.n, Hp.log, []⟩)
    | false => none
  | none => none
def zipX : List Nat → List V → S → S
  | p :: ps, v :: vs, s => zipX ps vs (s.set p v)
  | _, _, s => s
def roundX (k : Nat) (ds0 : List DI) (e : EX) (H4 : H) : Option (V × H) := match H4.h.get k with
  | some (.loop cl .busy) => match e with
    | .normal => some (.bool true, ⟨H4.h.set k (.loop cl .ready), H4.n, k :: H4.log, ds0⟩)
    | .ret => some (.bool false, ⟨H4.h.set k (.loop cl (.done .ret)), H4.n, k :: H4.log, ds0⟩)
    | .exit id => some (.bool false, ⟨H4.h.set k (.loop cl (.done (.exit id))), H4.n, k :: H4.log, ds0⟩)
    | .panic _ => none
  | _ => none
def yieldX (P : Program) (call : CallF) (lf : Nat) (k : Nat) (vs : List V) (Hp : H) : Option (V × H) := match Hp.h.get k with
  | some (.loop cl .ready) => match Nat.beq vs.length cl.ps.length, psOk cl.N cl.ps, codeOk cl.N cl.pt cl.assign, codeOk cl.N cl.pt cl.body with
    | true, true, true, true => match codeX P call cl.pt lf false cl.N cl.assign (zipX cl.ps vs cl.s) ⟨Hp.h, Hp.n, Hp.log, []⟩ with
      | some (.normal, s2, H2) => match H2.h.get k with
        | some (.loop cl2 .ready) => match codeX P call cl.pt lf false cl.N cl.body s2 (H2.upd k (.loop cl2 .busy)) with
          | some (e, _, H4) => roundX k Hp.ds e H4
          | none => none
        | _ => none
      | _ => none
    | _, _, _, _ => none
  | _ => none
def retO : Option (FR × H) → Option (V × H)
  | some (.ret v, H2) => some (v, H2)
  | _ => none
def panO : Option (FR × H) → Option (V × H)
  | some (.pan v, H2) => some (v, H2)
  | _ => none
abbrev PrimF := FuncId → List V → H → Option (V × H)
def noPr : PrimF := fun _ _ _ => none
def primO (a : Option (V × H)) (b : Option (V × H)) : Option (V × H) := match a with
  | some r => some r
  | none => b
structure PrimOk (P : Program) (pr : PrimF) : Prop where
  x : ∀ f vs Hp v H2, pr f vs Hp = some (v, H2) → Ext Hp H2
  c : ∀ f vs Hp v H2, pr f vs Hp = some (v, H2) → FCall P f
  n : ∀ f vs Hp v H2, pr f vs Hp = some (v, H2) → ∀ bs M F vs', HCov bs Hp M → RVs bs vs vs' → Fn P f vs' (M ++ F) (FPost bs Hp M F v H2)
theorem noPr_ok {P : Program} : PrimOk P noPr := ⟨fun _ _ _ _ _ h => (by cases h), fun _ _ _ _ _ h => (by cases h), fun _ _ _ _ _ h => (by cases h)⟩
def funX (P : Program) (tab : T XF) (lf : Nat) (pr : PrimF) : Nat → CallF
  | 0 => ⟨fun _ _ _ => none, fun _ _ _ => none, fun _ _ _ => none, fun _ _ _ _ => none⟩
  | n + 1 => ⟨fun f vs Hp => primO (pr f vs Hp) (retO (runF P tab lf (funX P tab lf pr n) f vs Hp)), fun k vs Hp => yieldX P (funX P tab lf pr n) lf k vs Hp,
    fun f vs Hp => panO (runF P tab lf (funX P tab lf pr n) f vs Hp), fun f vs m Hp => defF P tab lf (funX P tab lf pr n) f vs m Hp⟩
structure GoodF (P : Program) (f : FuncId) (x : XF) : Prop where
  fn : P.funcs[f]? = some x.fn
  body : x.fn.body = some x.code
  call : FCall P f
  ok : codeOk x.fn.ntmps x.pt x.code = true
def GoodL (P : Program) : List (Nat × XF) → Prop
  | [] => True
  | p :: r => GoodF P p.1 p.2 ∧ GoodL P r
theorem GoodL.mem {P : Program} : ∀ {l : List (Nat × XF)}, GoodL P l → ∀ p ∈ l, GoodF P p.1 p.2
  | [], _, _, h => by cases h
  | _ :: _, ⟨h1, h2⟩, p, hp => by
    rcases List.mem_cons.1 hp with rfl | hp
    · exact h1
    · exact GoodL.mem h2 p hp
theorem loadX_run {c : Cx} {bs : Bs} {s : S} {Hp : H} {M F : List (Nat × Obj)} {σ : St} {a t : Nat} {v : V} {rd : Option Nat} (hcov : Cov bs s Hp M F σ) (h : loadX c.P Hp.h t (s.get a) = some (v, rd)) : ∃ v', RV bs v v' ∧ resV c σ v' (.cell a t) := by
  generalize hx : s.get a = e at h
  unfold loadX at h
  split at h
  · rename_i k off
    obtain ⟨p, hp, hr⟩ := hcov.slots a _ hx
    obtain ⟨b, base, av, rfl, hk⟩ := hr.ptr_inv
    split at h
    · rename_i cc hb
      obtain ⟨ob, hob, hrd⟩ := rdX_ok (bs := bs) (base := base) (av := av) hb
      obtain ⟨b', base', av', i, o', a1, a2, aRO⟩ := hcov.mem.at_ k _ hob
      rw [hk] at a1; cases a1
      obtain ⟨cs, E, fr, rfl, a3, a4⟩ := hrd aRO
      have hi : σ.L[i]? = some (b, .cells cs E fr) := by
        rw [hcov.L, List.getElem?_append_left (List.getElem?_eq_some_iff.1 a2).1]; exact a2
      split at h
      · rename_i ha
        split at h
        · rename_i u hu
          cases h
          obtain ⟨_, v', a5, a6⟩ := a4 off _ hu
          refine ⟨v', a6, fun ac w hH => ?_⟩
          have hp' := hH.slots a _ hp
          have hcell : w.cell? ⟨b, base + off, none⟩ = some v' := by rw [cell_of_row w b (base + off) cs E fr (hH.mem.at_ hi)]; exact a5
          rw [Array.getD_eq_getD_getElem?] at hp'
          simp [resSem, hp', asAddr, loadVar, (aggX_ok ha).h, hcell]
        · cases h
      · rename_i ha
        split at h
        · rename_i n hn
          split at h
          · rename_i l hl
            cases h
            obtain ⟨l', e1, e2, e3, e4⟩ := cellsX_ok a4 (n + 1) off l hl
            refine ⟨_, .agg e1, fun ac w hH => ?_⟩
            have hp' := hH.slots a _ hp
            have hload := run_loadCells_list (P := c.P) w ⟨b, base + off, none⟩ l' (fun j v hv => by
              have hj := (List.getElem?_eq_some_iff.1 hv).1
              rw [Addr.add_mid, cell_of_row w b (base + off + j) cs E fr (hH.mem.at_ hi), e3 j (by omega)]; exact hv)
            rw [e2] at hload
            rw [Array.getD_eq_getD_getElem?] at hp'
            simp [resSem, hp', asAddr, loadVar, (aggX_ok ha).h, (sizeX_ok hn).h, hload]
          · cases h
        · cases h
      · cases h
    · cases h
  · cases h
theorem resX_ok {c : Cx} {bs : Bs} {s : S} {Hp : H} {M F : List (Nat × Obj)} {σ : St} (hcov : Cov bs s Hp M F σ) : ∀ {rs : List ResultVar} {l : List V}, resX c.P s Hp.h rs = some l → ∃ l', RVs bs l l' ∧ ∀ a w, Holds c.g c.N σ a w → (rs.mapM (resSem a.tmps)).run c.P w = .ok l' w
  | [], l, h => by cases h; exact ⟨[], .nil, fun a w _ => by simp⟩
  | .tmp t :: r, l, h => by
    simp only [resX] at h
    split at h
    · rename_i v l h1 h2
      cases h
      obtain ⟨v', h3, h4⟩ := hcov.slots t v h1
      obtain ⟨l', h5, h6⟩ := resX_ok hcov h2
      refine ⟨v' :: l', .cons h4 h5, fun a w ha => ?_⟩
      have := resV_tmp (c := c) h3 a w ha
      simp [List.mapM_cons, this, h6 a w ha]
    · cases h
  | .cell p t :: r, l, h => by
    simp only [resX] at h
    split at h
    · rename_i v rd l h1 h2
      cases h
      obtain ⟨v', h4, h3⟩ := loadX_run (c := c) hcov h1
      obtain ⟨l', h5, h6⟩ := resX_ok hcov h2
      refine ⟨v' :: l', .cons h4 h5, fun a w ha => ?_⟩
      have := h3 a w ha
      simp [List.mapM_cons, this, h6 a w ha]
    · cases h
theorem covS_row {bs : Bs} {vs : List V} {vs' : List Value} {m : Nat} (h : RVs bs vs vs') : CovS bs (S.ofArgs vs m) (initS 0 vs') := by
  have look_init : ∀ (l : List Value) (k t : Nat) (v : Value), k ≤ t → l[t - k]? = some v → look (initS k l) t = some v := by
    intro l
    induction l with
    | nil => intro k t v _ h; simp at h
    | cons u r ih =>
      intro k t v hk h
      rw [initS, look_cons]
      by_cases e : k = t
      · subst e; simp at h; rw [if_pos rfl, h]
      · rw [if_neg e]
        refine ih (k + 1) t v (by omega) ?_
        rw [show t - k = (t - (k + 1)) + 1 by omega] at h
        simpa using h
  intro t v hv
  obtain ⟨v', h3, h4⟩ := h.get (S.get_args hv)
  exact ⟨v', look_init vs' 0 t v' (Nat.zero_le _) (by simpa using h3), h4⟩
theorem setL_some : ∀ {L : List (Nat × Obj)} {i : Nat} {q : Nat × Obj} (p : Nat × Obj), L[i]? = some q → setL L i p = some (L.set i p)
  | [], i, q, p, h => by simp at h
  | x :: r, 0, q, p, h => rfl
  | x :: r, i + 1, q, p, h => by
    simp only [List.getElem?_cons_succ] at h
    simp [setL, setL_some p h]
theorem WC_nodup {c : Cx} {code : Code} {K : Exit → St → Prop} {σ : St} (h : WC c code (fun e σ' => (σ'.L.map Prod.fst).Nodup → K e σ') σ) : WC c code K σ := fun a w ha =>
  Go.wpIn_mono (h a w ha) fun e a' w' hl => by
    obtain ⟨σ', h1, h2⟩ := hl; exact ⟨σ', h1, h2 h1.mem.nodup⟩
theorem FnD_nodup {P : Program} {f : FuncId} {args : List Value} {L : List (Nat × Obj)} {u : FrameMode} {R : FrameMode → List (Nat × Obj) → Prop} (h : FnD P f args L u fun u' L' => (L'.map Prod.fst).Nodup → R u' L') : FnD P f args L u R := fun g w n hm =>
  (h g w n hm).mono fun _ _ _ ⟨v, L', h1, h2, h3⟩ => ⟨v, L', h1, h2, h3 h2.nodup⟩
theorem FnD.mono {P : Program} {f : FuncId} {args : List Value} {L : List (Nat × Obj)} {u : FrameMode} {R R' : FrameMode → List (Nat × Obj) → Prop} (h : FnD P f args L u R) (hr : ∀ u' L', R u' L' → R' u' L') : FnD P f args L u R' := fun g w n hm =>
  (CallsDIn.mono (h g w n hm) fun _ u' _ ⟨v, L', h1, h2, h3⟩ => ⟨v, L', h1, h2, hr u' L' h3⟩)
theorem RM.mono {bs : Bs} (r : Bs) {m : Option V} {u : FrameMode} (h : RM bs m u) : RM (bs ++ r) m u := by
  cases m with
  | none => exact h
  | some v => obtain ⟨v', h1, h2⟩ := h; exact ⟨v', h1, h2.mono r⟩
theorem RM.ne {bs : Bs} {m : Option V} {u : FrameMode} (h : RM bs m u) : u ≠ .run := by
  cases m with
  | none => rw [show u = .returning from h]; simp
  | some v => obtain ⟨v', h1, h2⟩ := h; rw [h1]; simp
theorem leaveX_ok {c : Cx} {call : CallF} (hcall : CallOk c.P call) {fn : Func} {Rr Rp : Value → List (Nat × Obj) → Prop} : ∀ (ks : List DI) {bs : Bs} {s : S} {Hp H3 : H} {M F : List (Nat × Obj)} {σs : List (Nat × Value)} {D : List Deferred} {m m2 : Option V} {u : FrameMode}, CovS bs s σs → HCov bs Hp M → ((M ++ F).map Prod.fst).Nodup → RD bs ks D → RM bs m u → leaveX call ks m Hp = some (m2, H3) →
    (∀ r M' u', CovS (bs ++ r) s σs → HCov (bs ++ r) H3 M' → RM (bs ++ r) m2 u' → (∀ k ∈ Hp.log, k ∈ H3.log) → (∀ W B, (∀ k ∈ H3.log, k ∈ W) → Prot bs Hp M W B → Prot (bs ++ r) H3 M' W B) → LeavS c fn σs Rr Rp [] u' (M' ++ F)) → LeavS c fn σs Rr Rp D u (M ++ F)
  | [], bs, s, Hp, H3, M, F, σs, D, m, m2, u, hs, hm, hn, hD, hu, h, hk => by
    cases h; cases hD
    exact hk [] M u (by simpa using hs) (by simpa using hm) (by simpa using hu) (fun _ h => h) (fun _ _ _ h => by simpa using h)
  | .mark k :: ks, bs, s, Hp, H3, M, F, σs, D, m, m2, u, hs, hm, hn, ⟨b, x, y, D', e1, e2, e3⟩, hu, h, hk => by
    subst e2
    simp only [leaveX] at h
    split at h
    · rename_i hg
      obtain ⟨b', base, av, i, o', a1, a2, a3⟩ := hm.at_ k _ hg
      rw [e1] at a1; cases a1
      cases a3
      have hi : (M ++ F)[i]? = some (b, .deferred (some [])) := by
        rw [List.getElem?_append_left (List.getElem?_eq_some_iff.1 a2).1]; exact a2
      have hcov : Cov bs s ⟨Hp.h, Hp.n, Hp.log, []⟩ M F ⟨σs, [], M ++ F⟩ := ⟨hs, rfl, ⟨hm.n, hm.at_, hm.inj⟩, rfl⟩
      have hu2 := Post_upd (s2 := s) (σ' := ⟨σs, [], (M ++ F).set i (b, .deferred none)⟩) (ob2 := .gone) hcov hn hg e1 a2 trivial hs rfl rfl
      obtain ⟨r, M1, f1, f2, f3, f4, f5, f6⟩ := hu2
      have f4' : HCov (bs ++ r) (Hp.upd k .gone) M1 := ⟨f4.n, f4.at_, f4.inj⟩
      have f2' : (M ++ F).set i (b, .deferred none) = M1 ++ F := f2
      have hn2 : ((M1 ++ F).map Prod.fst).Nodup := by rw [← f2']; exact nodup_set hn hi _
      refine ⟨hu.ne, .inl ⟨b, i, M1 ++ F, rfl, hi, by rw [← f2']; exact setL_some _ hi, ?_⟩⟩
      refine leaveX_ok hcall ks f3 f4' hn2 (e3.mono r) (hu.mono r) h fun r2 M2 u2 g1 g2 g3 g4 g5 => ?_
      rw [List.append_assoc] at g1 g2 g3 g5
      refine hk (r ++ r2) M2 u2 g1 g2 g3 (fun k hk => g4 k (List.mem_cons_of_mem _ hk)) fun W B hW hB => ?_
      refine g5 W B hW ?_
      have := f6 W B (fun k hk => hW k (g4 k hk)) (by simpa [Prot] using hB)
      exact fun q hq => this q hq
    · cases h
  | .call f A B :: ks, bs, s, Hp, H3, M, F, σs, D, m, m2, u, hs, hm, hn, ⟨A', B', D', e1, e2, e3, e4⟩, hu, h, hk => by
    subst e3
    simp only [leaveX] at h
    split at h
    · rename_i m3 H4 hd
      have hfc := hcall.dc _ _ _ _ _ _ hd
      have hD := hcall.dn _ _ _ _ _ _ hd bs M F (A' ++ B') u hm (e1.append e2) hu
      refine ⟨hu.ne, .inr ⟨f, A'.toArray, B'.toArray, rfl, hfc, FnD_nodup (FnD.mono (by simpa using hD) ?_)⟩⟩
      rintro u' L' ⟨r, M1, rfl, f2, f3, f4, f5, f6⟩ hn2
      refine leaveX_ok hcall ks (hs.mono r) f3 hn2 (e4.mono r) f2 h fun r2 M2 u2 g1 g2 g3 g4 g5 => ?_
      rw [List.append_assoc] at g1 g2 g3 g5
      exact hk (r ++ r2) M2 u2 g1 g2 g3 (fun k hk => g4 k (f5 k hk)) fun W B hW hB => g5 W B hW (f6 W B (fun k hk => hW k (g4 k hk)) hB)
    · cases h
theorem covS_zip {bs : Bs} : ∀ {ps : List Nat} {vs : List V} {vs' : List Value} {s : S} {σs : List (Nat × Value)}, CovS bs s σs → RVs bs vs vs' → CovS bs (zipX ps vs s) (zipS ps vs' σs)
  | [], _, _, _, _, h, _ => by simpa [zipX, zipS] using h
  | _ :: _, [], _, _, _, h, hv => by cases hv; simpa [zipX, zipS] using h
  | p :: ps, v :: vs, _, s, σs, h, .cons h1 h2 => by
    simp only [zipX, zipS]
    exact covS_zip (h.put h1) h2
theorem roundX_ok {bs : Bs} {k : Nat} {ds0 : List DI} {e : EX} {H4 H5 : H} {v : V} {M F : List (Nat × Obj)} {g w : World} {l x y : Nat} {P : Program} (hk : bs[k]? = some (l, x, y)) (hm : HCov bs H4 M) (hmem : Mem g (M ++ F) w) (h : roundX k ds0 e H4 = some (v, H5)) :
    ∃ jump, (e = .normal ∧ jump = none ∨ e = .ret ∧ jump = some .ret ∨ ∃ id, e = .exit id ∧ jump = some (.exit id)) ∧ ∃ w6, (Instr.endRound l jump).run P w = .ok (.bool jump.isNone) w6 ∧ ∃ L', Mem g L' w6 ∧ FPost bs ⟨H4.h, H4.n, H4.log, ds0⟩ M F v H5 (.bool jump.isNone) L' := by
  unfold roundX at h
  split at h
  · rename_i cl hg
    obtain ⟨l', x1, x2, i, o', a1, a2, rec, σs, rfl, a3, a4, a5, a6, a7, a8, a9⟩ := hm.at_ _ _ hg
    rw [hk] at a1; cases a1
    have hi : (M ++ F)[i]? = some (l, .loop rec) := by rw [List.getElem?_append_left (List.getElem?_eq_some_iff.1 a2).1]; exact a2
    have main : ∀ (jump : Option Code) (st : LSt), (∀ r : Loop, r.state = (if jump.isNone then .ready else .done) → r.pending = jump → st.fits r) →
        ∃ w6, (Instr.endRound l jump).run P w = .ok (.bool jump.isNone) w6 ∧ ∃ L', Mem g L' w6 ∧ FPost bs ⟨H4.h, H4.n, H4.log, ds0⟩ M F (.bool jump.isNone) ⟨H4.h.set k (.loop cl st), H4.n, k :: H4.log, ds0⟩ (.bool jump.isNone) L' := by
      intro jump st hst
      have h1 := run_endRound (P := P) jump (hmem.at_ hi)
      have h2 := hmem.putObj hi (.loop { rec with state := if jump.isNone then .ready else .done, pending := jump })
      refine ⟨_, h1, _, h2, ?_⟩
      have hcov : Cov bs ⟨[], [], 0⟩ ⟨H4.h, H4.n, H4.log, []⟩ M F ⟨[], [], M ++ F⟩ := ⟨covS_none, rfl, ⟨hm.n, hm.at_, hm.inj⟩, rfl⟩
      have hu := Post_upd (s2 := ⟨[], [], 0⟩) (σ' := ⟨[], [], (M ++ F).set i (l, .loop { rec with state := if jump.isNone then .ready else .done, pending := jump })⟩) (ob2 := .loop cl st) hcov hmem.nodup hg hk a2 ⟨{ rec with state := if jump.isNone then .ready else .done, pending := jump }, σs, rfl, a3, a4, a5, a6, a7, a8, hst _ rfl rfl⟩ covS_none rfl rfl
      obtain ⟨r, M1, f1, f2, f3, f4, f5, f6⟩ := hu
      refine ⟨r, M1, f2, .bool _, ⟨f4.n, f4.at_, f4.inj⟩, rfl, f5, fun W B hW hB => ?_⟩
      have := f6 W B hW (by simpa [Prot] using hB)
      exact fun q hq => this q hq
    split at h
    · cases h
      obtain ⟨w6, h1, h2⟩ := main none .ready (fun r h1 h2 => ⟨h1, h2⟩)
      exact ⟨none, .inl ⟨rfl, rfl⟩, w6, h1, h2⟩
    · cases h
      obtain ⟨w6, h1, h2⟩ := main (some .ret) (.done .ret) (fun r h1 h2 => ⟨h1, h2⟩)
      exact ⟨some .ret, .inr (.inl ⟨rfl, rfl⟩), w6, h1, h2⟩
    · rename_i id
      cases h
      obtain ⟨w6, h1, h2⟩ := main (some (.exit id)) (.done (.exit id)) (fun r h1 h2 => ⟨h1, h2⟩)
      exact ⟨some (.exit id), .inr (.inr ⟨id, rfl, rfl⟩), w6, h1, h2⟩
    · cases h
  · cases h
theorem FPost.comp {bs r : Bs} {Hp H1 : H} {M M1 F : List (Nat × Obj)} {v : V} {H2 : H} {v' : Value} {L' : List (Nat × Obj)} (hl : ∀ k ∈ Hp.log, k ∈ H1.log) (hp : ∀ W B, (∀ k ∈ H1.log, k ∈ W) → Prot bs Hp M W B → Prot (bs ++ r) H1 M1 W B) (hd : H1.ds = Hp.ds) (h : FPost (bs ++ r) H1 M1 F v H2 v' L') : FPost bs Hp M F v H2 v' L' := by
  obtain ⟨r2, M2, f1, f2, f3, fd, f5, f6⟩ := h
  exact ⟨r ++ r2, M2, f1, by rw [← List.append_assoc]; exact f2, by rw [← List.append_assoc]; exact f3, fd.trans hd, fun k hk => f5 k (hl k hk), fun W B hW hB => by
    rw [← List.append_assoc]; exact f6 W B hW (hp W B (fun k hk => hW k (f5 k hk)) hB)⟩
theorem yieldX_ok {P : Program} {call : CallF} {lf : Nat} (hcall : CallOk P call) (hmix : P.follows .mixedOrders = true) {k : Nat} {vs : List V} {Hp : H} {v : V} {H2 : H} (h : yieldX P call lf k vs Hp = some (v, H2)) {bs : Bs} {M F : List (Nat × Obj)} {vs' : List Value} {l x y : Nat} (hm : HCov bs Hp M) (hk : bs[k]? = some (l, x, y)) (hvs : RVs bs vs vs') : YieldFn P l vs' (M ++ F) (FPost bs Hp M F v H2) := by
  unfold yieldX at h
  split at h
  · rename_i cl hg
    split at h
    · rename_i c1 c2 c3 c4
      split at h
      · rename_i s2 H3 hcode
        split at h
        · rename_i cl2 hg2
          split at h
          · rename_i e s4 H4 hcode2
            intro g w n hmem
            obtain ⟨l', x1, x2, i, o', a1, a2, rec, σs, rfl, a3, a4, a5, a6, a7, a8, a9⟩ := hm.at_ _ _ hg
            rw [hk] at a1; cases a1
            have hi : (M ++ F)[i]? = some (l, .loop rec) := by rw [List.getElem?_append_left (List.getElem?_eq_some_iff.1 a2).1]; exact a2
            have hlen := Nat.eq_of_beq_eq_true c1
            have hvl := hvs.length
            have hy := run_yield (P := P) (w := w) (args := vs'.toArray) (hmem.at_ hi) (by rw [a3]; simp; omega)
            refine ⟨rec.fn, _, rec.assign, rec.body, hy, roundIn_of_wpIn trivial ?_⟩
            have hz := holds_zip (g := g) (w := w) (N := cl.N) (D := []) (L := M ++ F) cl.ps vs' σs { tmps := rec.tmps, defers := [] } (psOk_ok c2) ⟨a6, a8, rfl, hmem⟩
            have e2 : (cl.ps.zip vs').foldl (fun t (q : Nat × Value) => t.setIfInBounds q.1 q.2) rec.tmps = (rec.params.zip vs'.toArray).foldl (fun tmps (q : Nat × Value) => tmps.setIfInBounds q.1 q.2) rec.tmps := by
              rw [a3, ← Array.foldl_toList, Array.toList_zip]
            simp only [e2] at hz
            rw [a4, a5]
            have hcov0 : Cov bs (zipX cl.ps vs cl.s) ⟨Hp.h, Hp.n, Hp.log, []⟩ M F ⟨zipS cl.ps vs' σs, [], M ++ F⟩ := ⟨covS_zip a7 hvs, rfl, ⟨hm.n, hm.at_, hm.inj⟩, rfl⟩
            have hwp := codeX_ok (c := ⟨P, g, cl.N, n, some l⟩) hcall hmix (fun h => by cases h) cl.assign c3 hcov0 hcode
            refine Go.wpIn_mono (hwp _ w hz) (fun e' a10 w3 hl3 => ?_)
            cases e' with
            | panic ch => obtain ⟨_, _, h, _⟩ := hl3; cases h
            | ret => obtain ⟨_, _, h, _⟩ := hl3; cases h
            | exit id => obtain ⟨_, _, h, _⟩ := hl3; cases h
            | goto t => obtain ⟨_, _, h, _⟩ := hl3; cases h
            | outgrown => obtain ⟨_, _, h, _⟩ := hl3; cases h
            | normal =>
              obtain ⟨σ', hH, _, hpost⟩ := hl3
              obtain ⟨r1, M1, hcov1, hlog1, hprot1, _⟩ := hpost.split
              obtain ⟨l2, y1, y2, i2, o2, b1, b2, rec2, σs2, rfl, b3, b4, b5, b6, b7, b8, b9⟩ := hcov1.mem.at_ _ _ hg2
              rw [bs_mono hk] at b1; cases b1
              have hi2 : σ'.L[i2]? = some (l, .loop rec2) := by rw [hcov1.L, List.getElem?_append_left (List.getElem?_eq_some_iff.1 b2).1]; exact b2
              have hb := run_beginRound (P := P) (hH.mem.at_ hi2) b9.1
              refine ⟨_, hb, ?_⟩
              have hm4 := hH.mem.putObj hi2 (.loop { rec2 with state := .busy })
              have hu := Post_upd (s2 := s2) (σ' := ⟨σ'.s, σ'.D, σ'.L.set i2 (l, .loop { rec2 with state := .busy })⟩) (ob2 := .loop cl2 .busy) hcov1 hH.mem.nodup hg2 (bs_mono hk) b2 ⟨{ rec2 with state := .busy }, σs2, rfl, b3, b4, b5, b6, b7, b8, rfl⟩ hcov1.slots rfl rfl
              obtain ⟨r2, M2, hcov2, hlog2, hprot2, _⟩ := hu.split
              have hH4 : Holds g cl.N ⟨σ'.s, σ'.D, σ'.L.set i2 (l, .loop { rec2 with state := .busy })⟩ a10 (w3.putObj l (.loop { rec2 with state := .busy })) := ⟨hH.size, hH.slots, hH.defers, hm4⟩
              have hwp2 := codeX_ok (c := ⟨P, g, cl.N, n, some l⟩) hcall hmix (fun h => by cases h) cl.body c4 hcov2 hcode2
              refine Go.wpIn_mono (hwp2 _ _ hH4) (fun e5 a5' w5 hl5 => ?_)
              have last : ∀ (σ5 : St), Holds g cl.N σ5 a5' w5 → Post (bs ++ r1 ++ r2) (H3.upd k (.loop cl2 .busy)) M2 F s4 H4 σ5 → ∃ jump, (e = .normal ∧ jump = none ∨ e = .ret ∧ jump = some .ret ∨ ∃ id, e = .exit id ∧ jump = some (.exit id)) ∧ ∃ w6, (Instr.endRound l jump).run P w5 = .ok (.bool jump.isNone) w6 ∧ ∃ L', Mem g L' w6 ∧ FPost bs Hp M F v H2 (.bool jump.isNone) L' := by
                intro σ5 hH5 hp5
                obtain ⟨r3, M3, hcov3, hlog3, hprot3, _⟩ := hp5.split
                have hmem5 := hH5.mem
                rw [hcov3.L] at hmem5
                obtain ⟨jump, k1, w6, k2, L', k3, k4⟩ := roundX_ok (bs_mono (bs_mono (bs_mono hk))) hcov3.mem hmem5 h
                refine ⟨jump, k1, w6, k2, L', k3, ?_⟩
                refine FPost.comp (r := r1) (H1 := ⟨H3.h, H3.n, H3.log, Hp.ds⟩) (M1 := M1) hlog1 (fun W B hW hB => ?_) rfl ?_
                · exact fun q hq => hprot1 W B hW (by simpa [Prot] using hB) q hq
                refine FPost.comp (r := r2) (H1 := ⟨(H3.upd k (.loop cl2 .busy)).h, H3.n, k :: H3.log, Hp.ds⟩) (M1 := M2) hlog2 (fun W B hW hB => ?_) rfl ?_
                · exact fun q hq => hprot2 W B hW (by simpa [Prot] using hB) q hq
                refine FPost.comp (r := r3) (H1 := ⟨H4.h, H4.n, H4.log, Hp.ds⟩) (M1 := M3) hlog3 (fun W B hW hB => ?_) rfl k4
                exact fun q hq => hprot3 W B hW (by simpa [Prot] using hB) q hq
              have hl5 : ∃ σ5, Holds g cl.N σ5 a5' w5 ∧ e5 = e.to ∧ Post (bs ++ r1 ++ r2) (H3.upd k (.loop cl2 .busy)) M2 F s4 H4 σ5 := by
                obtain ⟨σ5, h1, h2⟩ := hl5
                cases e with
                | panic v => exfalso; unfold roundX at h; split at h <;> cases h
                | normal => exact ⟨σ5, h1, h2⟩
                | ret => exact ⟨σ5, h1, h2⟩
                | exit id => exact ⟨σ5, h1, h2⟩
              cases e5 with
              | panic ch => obtain ⟨_, _, h, _⟩ := hl5; cases e <;> cases h
              | goto t => obtain ⟨_, _, h, _⟩ := hl5; cases e <;> cases h
              | outgrown => obtain ⟨_, _, h, _⟩ := hl5; cases e <;> cases h
              | normal =>
                obtain ⟨σ5, hH5, he, hp5⟩ := hl5
                obtain ⟨jump, ⟨_, rfl⟩ | ⟨rfl, _⟩ | ⟨id, rfl, _⟩, w6, k2, L', k3, k4⟩ := last σ5 hH5 hp5
                · exact ⟨_, w6, k2, _, L', rfl, k3, k4⟩
                · cases he
                · cases he
              | ret =>
                obtain ⟨σ5, hH5, he, hp5⟩ := hl5
                obtain ⟨jump, ⟨rfl, _⟩ | ⟨_, rfl⟩ | ⟨id, rfl, _⟩, w6, k2, L', k3, k4⟩ := last σ5 hH5 hp5
                · cases he
                · exact ⟨_, w6, k2, _, L', rfl, k3, k4⟩
                · cases he
              | exit id' =>
                obtain ⟨σ5, hH5, he, hp5⟩ := hl5
                obtain ⟨jump, ⟨rfl, _⟩ | ⟨rfl, _⟩ | ⟨id, rfl, rfl⟩, w6, k2, L', k3, k4⟩ := last σ5 hH5 hp5
                · cases he
                · cases he
                · cases he
                  exact ⟨_, w6, k2, _, L', rfl, k3, k4⟩
          · cases h
        · cases h
      · cases h
    · cases h
  · cases h
def tupV : List V → V
  | [v] => v
  | l => .tup l
theorem RM.ret {bs : Bs} : RM bs none .returning := rfl
theorem RM.pan {bs : Bs} {v : V} {v' : Value} (h : RV bs v v') : RM bs (some v) (.panicking (Go.Proofs.Ytkjljlmoihkijaa.pan v')) := ⟨v', rfl, h⟩
theorem resX_res {P : Program} {g : World} {N n : Nat} {fn : Func} {bs : Bs} {s : S} {Hp : H} {M F : List (Nat × Obj)} {σs : List (Nat × Value)} {l : List V} (hs : CovS bs s σs) (hm : HCov bs Hp M) (hr : resX P s Hp.h fn.results.toList = some l) : ∃ v', Res ⟨P, g, N, n, none⟩ fn ⟨σs, [], M ++ F⟩ v' ∧ RV bs (tupV l) v' := by
  have hcov : Cov bs s ⟨Hp.h, Hp.n, Hp.log, []⟩ M F ⟨σs, [], M ++ F⟩ := ⟨hs, rfl, ⟨hm.n, hm.at_, hm.inj⟩, rfl⟩
  obtain ⟨l', h1, h2⟩ := resX_ok (c := ⟨P, g, N, n, none⟩) hcov hr
  refine ⟨(if h : l'.toArray.size = 1 then l'.toArray[0] else .tuple l'.toArray), fun a w ha => ?_, ?_⟩
  · have h3 := h2 a w ha
    rw [results_eq, Array.mapM_eq_mapM_toList]
    simp [h3]
  · match l, l', h1 with
    | [], [], h1 => simpa [tupV] using RV.tup h1
    | [u], [u'], .cons h1 _ => simpa [tupV] using h1
    | a :: b :: l, a' :: b' :: l', h1 => simpa [tupV] using RV.tup h1
theorem goneX_ok {P : Program} {g : World} {N : Nat} {call : CallF} (hcall : CallOk P call) {x : XF} {bs : Bs} {s2 : S} {Hp H1 H2 : H} {M F : List (Nat × Obj)} {σ' : St} {m : Option V} {u : FrameMode} {o : FR} (hnod : (σ'.L.map Prod.fst).Nodup)
    (hp : ∃ (r : Bs) (M' : List (Nat × Obj)), RD (bs ++ r) H1.ds σ'.D ∧ σ'.L = M' ++ F ∧ CovS (bs ++ r) s2 σ'.s ∧ HCov (bs ++ r) H1 M' ∧ (∀ k ∈ Hp.log, k ∈ H1.log) ∧ (∀ W B, (∀ k ∈ H1.log, k ∈ W) → Prot bs ⟨Hp.h, Hp.n, Hp.log, []⟩ M W B → Prot (bs ++ r) H1 M' W B) ∧ RM (bs ++ r) m u)
    (h : goneX P call x Hp.ds s2 H1 m = some (o, H2)) : LeavS ⟨P, g, N, 0, none⟩ x.fn σ'.s (fun v' L' => ∃ v, o = .ret v ∧ FPost bs Hp M F v H2 v' L') (fun v' L' => ∃ v, o = .pan v ∧ FPost bs Hp M F v H2 v' L') σ'.D u σ'.L := by
  obtain ⟨r, M', f1, f2, f3, f4, f5, f6, f7⟩ := hp
  unfold goneX at h
  split at h
  · rename_i m2 H3 hl
    rw [f2] at hnod ⊢
    refine leaveX_ok (c := ⟨P, g, N, 0, none⟩) hcall H1.ds f3 f4 hnod f1 f7 hl fun r2 M2 u2 g1 g2 g3 g4 g5 => ?_
    have fp : ∀ {v : V} {v' : Value}, RV (bs ++ r ++ r2) v v' → FPost bs Hp M F v ⟨H3.h, H3.n, H3.log, Hp.ds⟩ v' (M2 ++ F) := fun {v v'} hv => by
      rw [List.append_assoc] at hv g2 g5
      refine ⟨r ++ r2, M2, rfl, hv, ⟨g2.n, g2.at_, g2.inj⟩, rfl, fun k hk => g4 k (f5 k hk), fun W B hW hB => ?_⟩
      have h5 := g5 W B hW (f6 W B (fun k hk => hW k (g4 k hk)) (by simpa [Prot] using hB))
      exact fun q hq => h5 q hq
    cases m2 with
    | none =>
      rw [show u2 = .returning from g3]
      simp only [retX] at h
      split at h
      · rename_i v hr
        cases h
        obtain ⟨v', h1, h2⟩ := resX_res (F := F) g1 g2 hr
        exact ⟨v', M2 ++ F, h1, .refl _, v, rfl, fp h2⟩
      · rename_i l hnl hr
        cases h
        obtain ⟨v', h1, h2⟩ := resX_res (F := F) g1 g2 hr
        refine ⟨v', M2 ++ F, h1, .refl _, _, rfl, fp ?_⟩
        match l, hnl, h2 with
        | [], _, h2 => exact h2
        | [u], h, _ => exact absurd rfl (h u)
        | _ :: _ :: _, _, h2 => exact h2
      · cases h
    | some v =>
      obtain ⟨v', h1, h2⟩ := g3
      rw [h1]
      simp only [retX] at h
      cases h
      exact ⟨v', rfl, v, rfl, fp h2⟩
  · cases h
theorem runF_ok {P : Program} {tab : T XF} {lf : Nat} {call : CallF} (hcall : CallOk P call) (hmix : P.follows .mixedOrders = true) (htab : ∀ f x, tab.get f = some x → GoodF P f x) {f : FuncId} {vs : List V} {Hp : H} {o : FR} {H2 : H} (h : runF P tab lf call f vs Hp = some (o, H2)) :
    FCall P f ∧ ∀ bs M F vs', HCov bs Hp M → RVs bs vs vs' → ∀ g w, Mem g (M ++ F) w → Calls P f vs'.toArray w (EndR g (fun v' L' => ∃ v, o = .ret v ∧ FPost bs Hp M F v H2 v' L') fun v' L' => ∃ v, o = .pan v ∧ FPost bs Hp M F v H2 v' L') := by
  unfold runF at h
  split at h
  · rename_i x hx
    have hg := htab f x hx
    split at h
    · rename_i hle
      refine ⟨hg.call, fun bs M F vs' hm hvs => ?_⟩
      have hlen := hvs.length
      have hle := Nat.le_of_ble_eq_true hle
      refine enterL hg.fn hg.body rfl (Nat.ble_eq_true_of_le (by omega)) fun g => WC_nodup ?_
      have hcov : Cov bs (S.ofArgs vs x.mask) ⟨Hp.h, Hp.n, Hp.log, []⟩ M F ⟨initS 0 vs', [], M ++ F⟩ := ⟨covS_row hvs, rfl, ⟨hm.n, hm.at_, hm.inj⟩, rfl⟩
      generalize hcode : codeX P call x.pt lf true x.fn.ntmps x.code (S.ofArgs vs x.mask) ⟨Hp.h, Hp.n, Hp.log, []⟩ = res at h
      cases res with
      | none => cases h
      | some q =>
        obtain ⟨e, s2, H1⟩ := q
        refine (codeX_ok (c := ⟨P, g, x.fn.ntmps, 0, none⟩) hcall hmix (fun _ => rfl) x.code hg.ok hcov hcode).mono fun e' σ' hd hnod => ?_
        cases e with
        | exit id => cases h
        | normal =>
          obtain ⟨rfl, r, M', f1, f2, f3, f4, f5, f6⟩ := hd
          exact goneX_ok hcall hnod ⟨r, M', f1, f2, f3, f4, f5, f6, RM.ret⟩ h
        | ret =>
          obtain ⟨rfl, r, M', f1, f2, f3, f4, f5, f6⟩ := hd
          exact goneX_ok hcall hnod ⟨r, M', f1, f2, f3, f4, f5, f6, RM.ret⟩ h
        | panic v =>
          obtain ⟨v', rfl, r, M', f1, f2, f3, f4, f5, f6, f7⟩ := hd
          exact goneX_ok hcall hnod ⟨r, M', f1, f2, f3, f4, f5, f6, RM.pan f7⟩ h
    · cases h
  · cases h
theorem endD_ok {P : Program} {g : World} {N n : Nat} {x : XF} {bs : Bs} {e : EX} {s2 : S} {Hp H1 H2 : H} {M F : List (Nat × Obj)} {e' : Exit} {σ' : St} {m m2 : Option V} {u' : FrameMode} (hu : ∀ r, RM (bs ++ r) m (settle u'))
    (hd : DoneK bs ⟨Hp.h, Hp.n, Hp.log, []⟩ M F e s2 H1 e' σ') (h : endD P x Hp.ds m (some (e, s2, H1)) = some (m2, H2)) : postK ⟨P, g, N, n, none⟩ x.fn (fun _ L' => DPost bs Hp M F m2 H2 u' L') e' σ' := by
  have done : Post bs ⟨Hp.h, Hp.n, Hp.log, []⟩ M F s2 H1 σ' → doneD P x Hp.ds m s2 H1 = some (m2, H2) → σ'.D = [] ∧ ∃ v Lx, Res ⟨P, g, N, n, none⟩ x.fn σ' v ∧ Lx.Sublist σ'.L ∧ DPost bs Hp M F m2 H2 u' Lx := by
    rintro ⟨r, M', f1, f2, f3, f4, f5, f6⟩ h
    unfold doneD at h
    split at h
    · rename_i l hds hr
      cases h
      rw [hds] at f1
      obtain ⟨v', h1, _⟩ := resX_res (P := P) (g := g) (N := N) (n := n) (F := F) f3 f4 hr
      have hD : σ'.D = [] := f1
      obtain ⟨σs, D, L⟩ := σ'
      cases hD
      have f2' : L = M' ++ F := f2
      subst f2'
      refine ⟨rfl, v', M' ++ F, h1, .refl _, r, M', rfl, hu r, ⟨f4.n, f4.at_, f4.inj⟩, rfl, f5, fun W B hW hB => ?_⟩
      have h5 := f6 W B hW (by simpa [Prot] using hB)
      exact fun q hq => h5 q hq
    · cases h
  cases e with
  | normal => obtain ⟨rfl, hp⟩ := hd; exact done hp h
  | ret => obtain ⟨rfl, hp⟩ := hd; exact done hp h
  | exit id => cases h
  | panic v => cases h
theorem recOf_ok {c : Code} {d : Option Nat} {more : List Oper} {rest : Code} (h : recOf c = some (d, more, rest)) : ∃ id o args tys, c = .seq (.region id (o :: more).toArray false) rest ∧ o.op = .call { callee := .builtin .recover, args := args, argTypes := tys } ∧ o.guard = none ∧ o.dst = d := by
  unfold recOf at h
  split at h
  · rename_i id ops rest'
    split at h
    · rename_i o more' hl
      split at h
      · rename_i cl ho hg
        obtain ⟨cal, args, tys⟩ := cl
        split at h
        · rename_i hc
          simp only at hc
          subst hc
          cases h
          obtain rfl : ops = (o :: more).toArray := by apply Array.ext'; simpa using hl
          exact ⟨id, o, args, tys, rfl, ho, hg, rfl⟩
        · cases h
      · cases h
    · cases h
  · cases h
theorem calmL_ok {c : Cx} {bs : Bs} {Hp : H} {M F : List (Nat × Obj)} (hm : HCov bs Hp M) : ∀ {l : List Oper} {s s2 : S} {σs : List (Nat × Value)}, (∀ o ∈ l, dok c.N o.dst = true) → CovS bs s σs → calmL c.P Hp.h l s = some s2 → ∃ σs2, QS c (M ++ F) l σs σs2 ∧ CovS bs s2 σs2
  | [], s, s2, σs, _, hs, h => by cases h; exact ⟨σs, rfl, hs⟩
  | o :: r, s, s2, σs, hd, hs, h => by
    simp only [calmL] at h
    split at h
    · rename_i v rd hg hc
      obtain ⟨v', h1, h2⟩ := calmX_ok (c := c) (Ls := M ++ F) (o := o) hc hs (fun k ob _ hk => by
        obtain ⟨b, base, av, i, o', a1, a2, a3⟩ := hm.at_ k ob hk
        exact ⟨b, base, av, i, o', a1, by rw [List.getElem?_append_left (List.getElem?_eq_some_iff.1 a2).1]; exact a2, a3⟩)
      obtain ⟨σs2, h3, h4⟩ := calmL_ok hm (fun o ho => hd o (List.mem_cons_of_mem _ ho)) (CovS.putD (σ := ⟨σs, [], []⟩) (d := o.dst) hs h2) h
      exact ⟨σs2, ⟨v', hg, hd o List.mem_cons_self, h1, h3⟩, h4⟩
    · cases h
theorem defF_ok {P : Program} {tab : T XF} {lf : Nat} {call : CallF} (hcall : CallOk P call) (hmix : P.follows .mixedOrders = true) (htab : ∀ f x, tab.get f = some x → GoodF P f x) {f : FuncId} {vs : List V} {m m2 : Option V} {Hp : H} {H2 : H} (h : defF P tab lf call f vs m Hp = some (m2, H2)) :
    FCall P f ∧ ∀ bs M F vs' u, HCov bs Hp M → RVs bs vs vs' → RM bs m u → FnD P f vs' (M ++ F) u (DPost bs Hp M F m2 H2) := by
  unfold defF at h
  split at h
  · rename_i x hx
    have hg := htab f x hx
    split at h
    · rename_i hle
      refine ⟨hg.call, fun bs M F vs' u hm hvs hu => ?_⟩
      have hlen := hvs.length
      have hle := Nat.le_of_ble_eq_true hle
      have hle' : Nat.ble vs'.length x.fn.ntmps = true := Nat.ble_eq_true_of_le (by omega)
      have hcov : Cov bs (S.ofArgs vs x.mask) ⟨Hp.h, Hp.n, Hp.log, []⟩ M F ⟨initS 0 vs', [], M ++ F⟩ := ⟨covS_row hvs, rfl, ⟨hm.n, hm.at_, hm.inj⟩, rfl⟩
      split at h
      · rename_i d more rest hrec
        split at h
        rotate_left
        · cases h
        rename_i sm hsm
        obtain ⟨id, o, args, tys, hcode, ho, hgu, hd⟩ := recOf_ok hrec
        have hok := hg.ok
        rw [hcode] at hok
        simp only [codeOk] at hok
        split at hok
        · rename_i hok1
          have hdall : ∀ o' ∈ o :: more, dok x.fn.ntmps o'.dst = true := by
            split at hok1
            · rename_i h1 _; exact fun o' ho' => dstOk_mem h1 o' (by simpa using ho')
            · rename_i hf; cases hf
            · cases hok1
          have hdok : dok x.fn.ntmps o.dst = true := hdall o List.mem_cons_self
          subst hd
          have hrv : ∃ rv u', Recov u rv u' ∧ RV bs (recV m) rv ∧ settle u' = .returning := by
            cases m with
            | none => rw [show u = .returning from hu]; exact ⟨.nilIface, .returning, ⟨rfl, rfl⟩, .nili, rfl⟩
            | some v => obtain ⟨v', h1, h2⟩ := hu; rw [h1]; exact ⟨v', _, ⟨rfl, rfl⟩, h2, rfl⟩
          obtain ⟨rv, u', h1, h2, h3⟩ := hrv
          generalize hrun : codeX P call x.pt lf true x.fn.ntmps rest sm ⟨Hp.h, Hp.n, Hp.log, []⟩ = res at h
          cases res with
          | none => cases h
          | some q =>
            obtain ⟨e, s2, H1⟩ := q
            refine FnD_recover hg.fn (hg.body.trans (by rw [hcode])) rfl hle' ho hgu hdok h1 fun g n => ?_
            obtain ⟨σs2, hqs, hcs⟩ := calmL_ok (c := ⟨P, g, x.fn.ntmps, n, none⟩) (F := F) hm (fun o' ho' => hdall o' (List.mem_cons_of_mem _ ho')) (CovS.putD (σ := ⟨initS 0 vs', [], M ++ F⟩) (d := o.dst) hcov.slots h2) hsm
            refine ⟨σs2, hqs, ?_⟩
            have hcov2 : Cov bs sm ⟨Hp.h, Hp.n, Hp.log, []⟩ M F ⟨σs2, [], M ++ F⟩ := ⟨hcs, rfl, hcov.mem, rfl⟩
            exact (codeX_ok (c := ⟨P, g, x.fn.ntmps, n, none⟩) hcall hmix (fun _ => rfl) rest hok hcov2 hrun).mono fun e' σ' hd => endD_ok (m := none) (fun r => h3) hd h
        · cases hok
      · generalize hrun : codeX P call x.pt lf true x.fn.ntmps x.code (S.ofArgs vs x.mask) ⟨Hp.h, Hp.n, Hp.log, []⟩ = res at h
        cases res with
        | none => cases h
        | some q =>
          obtain ⟨e, s2, H1⟩ := q
          refine FnD_enter hg.fn hg.body rfl hle' fun g n => ?_
          have hset : settle u = u := by
            cases m with
            | none => rw [show u = .returning from hu]; rfl
            | some v => obtain ⟨v', h1, h2⟩ := hu; rw [h1]; rfl
          exact (codeX_ok (c := ⟨P, g, x.fn.ntmps, n, none⟩) hcall hmix (fun _ => rfl) x.code hg.ok hcov hrun).mono fun e' σ' hd => endD_ok (fun r => by rw [hset]; exact hu.mono r) hd h
    · cases h
  · cases h
theorem leaveX_ext {P : Program} {call : CallF} (hcall : CallOk P call) : ∀ {l : List DI} {m : Option V} {Hp : H} {m2 : Option V} {H2 : H}, leaveX call l m Hp = some (m2, H2) → Ext Hp H2
  | [], _, _, _, _, h => by cases h; exact .refl _
  | .mark k :: r, m, Hp, m2, H2, h => by
    simp only [leaveX] at h
    split at h
    · exact (Ext.upd _ _ _).trans (leaveX_ext hcall h)
    · cases h
  | .call f A B :: r, m, Hp, m2, H2, h => by
    simp only [leaveX] at h
    split at h
    · rename_i h1; exact (hcall.dx _ _ _ _ _ _ h1).trans (leaveX_ext hcall h)
    · cases h
theorem goneX_ext {P : Program} {call : CallF} (hcall : CallOk P call) {x : XF} {ds0 : List DI} {s2 : S} {H1 H2 : H} {m : Option V} {o : FR} (h : goneX P call x ds0 s2 H1 m = some (o, H2)) : Ext H1 H2 := by
  unfold goneX at h
  split at h
  · rename_i m2 H3 hl
    have h1 := leaveX_ext hcall hl
    cases m2 with
    | none =>
      simp only [retX] at h
      split at h
      · cases h; exact h1.ds
      · cases h; exact h1.ds
      · cases h
    | some v => simp only [retX] at h; cases h; exact h1.ds
  · cases h
theorem runF_ext {P : Program} {tab : T XF} {lf : Nat} {call : CallF} (hcall : CallOk P call) {f : FuncId} {vs : List V} {Hp : H} {o : FR} {H2 : H} (h : runF P tab lf call f vs Hp = some (o, H2)) : Ext Hp H2 := by
  unfold runF at h
  split at h
  · rename_i x hx
    split at h
    · generalize hcode : codeX P call x.pt lf true x.fn.ntmps x.code (S.ofArgs vs x.mask) ⟨Hp.h, Hp.n, Hp.log, []⟩ = res at h
      unfold endF at h
      have start : ∀ {e s2 H1}, res = some (e, s2, H1) → Ext Hp H1 := fun {e s2 H1} he => by
        have h1 := codeX_ext hcall x.code (hcode.trans he)
        exact ⟨h1.log, h1.n, h1.h⟩
      split at h
      · exact (start rfl).trans (goneX_ext hcall h)
      · exact (start rfl).trans (goneX_ext hcall h)
      · exact (start rfl).trans (goneX_ext hcall h)
      · cases h
    · cases h
  · cases h
theorem defF_ext {P : Program} {tab : T XF} {lf : Nat} {call : CallF} (hcall : CallOk P call) {f : FuncId} {vs : List V} {m m2 : Option V} {Hp : H} {H2 : H} (h : defF P tab lf call f vs m Hp = some (m2, H2)) : Ext Hp H2 := by
  have fin : ∀ {x : XF} {code : Code} {s : S} {m' : Option V}, endD P x Hp.ds m' (codeX P call x.pt lf true x.fn.ntmps code s ⟨Hp.h, Hp.n, Hp.log, []⟩) = some (m2, H2) → Ext Hp H2 := fun {x code s m'} h => by
    generalize hcode : codeX P call x.pt lf true x.fn.ntmps code s ⟨Hp.h, Hp.n, Hp.log, []⟩ = res at h
    have start : ∀ {e s2 H1}, res = some (e, s2, H1) → Ext Hp ⟨H1.h, H1.n, H1.log, Hp.ds⟩ := fun {e s2 H1} he => by
      have h1 := codeX_ext hcall code (hcode.trans he)
      exact ⟨h1.log, h1.n, h1.h⟩
    unfold endD at h
    split at h
    · unfold doneD at h
      split at h
      · cases h; exact start rfl
      · cases h
    · unfold doneD at h
      split at h
      · cases h; exact start rfl
      · cases h
    · cases h
  unfold defF at h
  split at h
  · split at h
    · split at h
      · split at h
        · exact fin h
        · cases h
      · exact fin h
    · cases h
  · cases h
theorem roundX_ext {k : Nat} {ds0 : List DI} {e : EX} {H4 H5 : H} {v : V} (h : roundX k ds0 e H4 = some (v, H5)) : Ext H4 H5 := by
  unfold roundX at h
  split at h
  · split at h
    · cases h; exact (Ext.upd H4 k _).ds
    · cases h; exact (Ext.upd H4 k _).ds
    · cases h; exact (Ext.upd H4 k _).ds
    · cases h
  · cases h
theorem yieldX_ext {P : Program} {call : CallF} {lf : Nat} (hcall : CallOk P call) {k : Nat} {vs : List V} {Hp : H} {v : V} {H2 : H} (h : yieldX P call lf k vs Hp = some (v, H2)) : Ext Hp H2 := by
  unfold yieldX at h
  split at h
  · rename_i cl hg
    split at h
    · split at h
      · rename_i s2 H3 hcode
        split at h
        · rename_i cl2 hg2
          split at h
          · rename_i e s4 H4 hcode2
            have h1 := codeX_ext hcall cl.assign hcode
            have h1' : Ext Hp H3 := ⟨h1.log, h1.n, h1.h⟩
            exact ((h1'.trans (Ext.upd _ _ _)).trans (codeX_ext hcall cl.body hcode2)).trans (roundX_ext h)
          · cases h
        · cases h
      · cases h
    · cases h
  · cases h
theorem retO_some {x : Option (FR × H)} {v : V} {H2 : H} (h : retO x = some (v, H2)) : x = some (.ret v, H2) := by
  unfold retO at h
  split at h
  · cases h; rfl
  · cases h
theorem panO_some {x : Option (FR × H)} {v : V} {H2 : H} (h : panO x = some (v, H2)) : x = some (.pan v, H2) := by
  unfold panO at h
  split at h
  · cases h; rfl
  · cases h
theorem funX_ok {P : Program} {tab : T XF} {lf : Nat} {pr : PrimF} (hpr : PrimOk P pr) (hmix : P.follows .mixedOrders = true) (htab : ∀ f x, tab.get f = some x → GoodF P f x) : ∀ n, CallOk P (funX P tab lf pr n)
  | 0 => ⟨fun _ _ _ _ _ h => (by cases h), fun _ _ _ _ _ h => (by cases h), fun _ _ _ _ _ h => (by cases h), fun _ _ _ _ _ _ h => (by cases h), fun _ _ _ _ _ h => (by cases h), fun _ _ _ _ _ h => (by cases h), fun _ _ _ _ _ _ h => (by cases h), fun _ _ _ _ _ _ h => (by cases h), fun _ _ _ _ _ h => (by cases h), fun _ _ _ _ _ h => (by cases h), fun _ _ _ _ _ h => (by cases h)⟩
  | n + 1 => by
    have ih := funX_ok (lf := lf) hpr hmix htab n
    have pick : ∀ {a b : Option (V × H)} {v : V} {H2 : H}, primO a b = some (v, H2) → a = some (v, H2) ∨ b = some (v, H2) := fun {a b v H2} h => by
      cases a with
      | none => exact .inr h
      | some r => exact .inl h
    refine ⟨fun f vs Hp v H2 h => (pick h).elim (hpr.x _ _ _ _ _) (fun h => runF_ext ih (retO_some h)), fun k vs Hp v H2 h => yieldX_ext ih h, fun f vs Hp v H2 h => runF_ext ih (panO_some h), fun f vs m Hp m2 H2 h => defF_ext ih h, fun f vs Hp v H2 h => (runF_ok ih hmix htab (panO_some h)).1, fun f vs Hp v H2 h bs M F vs' hm hvs g w hmem => ?_, fun f vs m Hp m2 H2 h => (defF_ok ih hmix htab h).1, fun f vs m Hp m2 H2 h bs M F vs' u hm hvs hu => (defF_ok ih hmix htab h).2 bs M F vs' u hm hvs hu,
      fun f vs Hp v H2 h => (pick h).elim (hpr.c _ _ _ _ _) (fun h => (runF_ok ih hmix htab (retO_some h)).1), fun f vs Hp v H2 h bs M F vs' hm hvs g w hmem => ?_, fun k vs Hp v H2 h bs M F vs' l x y hm hk hvs => yieldX_ok ih hmix h hm hk hvs⟩
    · refine ((runF_ok ih hmix htab (panO_some h)).2 bs M F vs' hm hvs g w hmem).mono fun e w' hend => ?_
      rcases hend with ⟨v', L', h1, h2, v2, h3, h4⟩ | ⟨v', L', h1, h2, v2, h3, h4⟩
      · cases h3
      · cases h3; exact ⟨v', L', h1, h2, h4⟩
    · rcases pick h with h | h
      · exact hpr.n _ _ _ _ _ h bs M F vs' hm hvs g w hmem
      · refine ((runF_ok ih hmix htab (retO_some h)).2 bs M F vs' hm hvs g w hmem).mono fun e w' hend => ?_
        rcases hend with ⟨v', L', h1, h2, v2, h3, h4⟩ | ⟨v', L', h1, h2, v2, h3, h4⟩
        · cases h3; exact ⟨v', L', h1, h2, h4⟩
        · cases h3
def trueG (P : Program) (tab : T XF) (lf : Nat) (pr : PrimF) (H0 : H) (n : Nat) (f : FuncId) : Bool := match (funX P tab lf pr n).f f [] H0 with
  | some (.bool true, H2) => match memB 0 H2.log with
    | true => false
    | false => true
  | _ => false
theorem runG {P : Program} {tab : T XF} {lf n : Nat} {pr : PrimF} {f : FuncId} {bs0 : Bs} {H0 : H} {M0 : List (Nat × Obj)} (hpr : PrimOk P pr) (hmix : P.follows .mixedOrders = true) (htab : ∀ f x, tab.get f = some x → GoodF P f x) (hm0 : HCov bs0 H0 M0) (hk0 : ∀ k o, H0.h.get k = some o → k = 0) (h : trueG P tab lf pr H0 n f = true) (F : List (Nat × Obj)) : Fn P f [] (M0 ++ F) (fun v L' => v = .bool true ∧ L' = M0 ++ F) := fun g w hm => by
  unfold trueG at h
  split at h
  · rename_i H2 h1
    split at h
    · cases h
    · rename_i hlog
      have h2 := (funX_ok hpr hmix htab n).fn _ _ _ _ _ h1 bs0 M0 F [] hm0 .nil
      refine (h2 g w hm).mono fun e w' ⟨v, L', e1, e2, r, M', e3, e4, e5, e6, e7, e8⟩ => ?_
      cases e4
      subst e3
      have hp := e8 H2.log M0 (fun _ h => h) (fun q hq => ⟨hq, fun j o x y hj _ hw => by
        rw [hk0 j o hj] at hw
        exact memB_no hlog hw⟩)
      refine ⟨.bool true, M0 ++ F, e1, e2.sub hm.nodup (fun q hq => ?_), rfl, rfl⟩
      rcases List.mem_append.1 hq with hq | hq
      · exact List.mem_append_left _ (hp q hq).1
      · exact List.mem_append_right _ hq
  · cases h
end
end Go.Proofs.Ytkjljlmoihkijaa
namespace Go.Proofs.Ytkjljlmoihkijaa
open Go.RowKit
section
variable {c : Cx} {s : List (Nat × Value)} {L : List (Nat × Obj)} {o : Oper}
end
section
variable {c : Cx} {o : Oper} {Kn : St → Prop} {K : Exit → St → Prop}
end
def meetQ (Q : St → Prop) (σ : St) : Prop := ∃ σ', Q σ' ∧ SubS σ'.s σ.s ∧ σ'.D = σ.D ∧ σ'.L.Sublist σ.L
theorem meet_next {c : Cx} {Q : St → Prop} {z : Code} {K : Exit → St → Prop} (hB : ∀ σ, Q σ → WC c z K σ) (e : Exit) (σ : St) (h : thenK (meetQ Q) K e σ) : thenK (WC c z K) K e σ := by
  cases e with
  | normal =>
    obtain ⟨σ', hQ, hs, hD, hL⟩ := h
    exact WC_lessen hs hD hL (hB σ' hQ)
  | _ => exact h
theorem WC_meet {c : Cx} {x z : Code} {K : Exit → St → Prop} {σ : St} (Q : St → Prop) (hA : WC c x (thenK (meetQ Q) K) σ) (hB : ∀ σ, Q σ → WC c z K σ) : WC c x (thenK (WC c z K) K) σ :=
  WC_mono hA (meet_next hB)
end Go.Proofs.Ytkjljlmoihkijaa
namespace Go.Proofs.Ytkjljlmoihkijaa
open Go.RowKit
def Buf (E sz : Nat) (v : Value) (T : List (Nat × Obj)) (n : Nat) (xs : List Value) : Prop :=
  (xs = [] ∧ n = 0 ∧ v = .slice none 0 0 ∧ T = []) ∨ ∃ (g off cap : Nat) (cur : Array Value), v = .slice (some ⟨g, off, none⟩) n cap ∧ T = [(g, .cells cur E (0, 0))] ∧ Own sz cur off cap n xs
theorem Buf.nil (E sz : Nat) : Buf E sz (.slice none 0 0) [] 0 [] := .inl ⟨rfl, rfl, rfl, rfl⟩
theorem Buf.vec {E sz : Nat} {v : Value} {T : List (Nat × Obj)} {n : Nat} {xs : List Value} (h : Buf E sz v T n xs) (A B : List (Nat × Obj)) : Vec sz (A ++ (T ++ B)) v n xs := by
  rcases h with ⟨rfl, rfl, rfl, rfl⟩ | ⟨g, off, cap, cur, rfl, rfl, h⟩
  · exact Vec.nil sz _
  · exact h.vec (E := E) (fr := (0, 0)) A.length (by simp)
theorem Buf.vec0 {E sz : Nat} {v : Value} {T : List (Nat × Obj)} {n : Nat} {xs : List Value} (h : Buf E sz v T n xs) (B : List (Nat × Obj)) : Vec sz (T ++ B) v n xs := h.vec [] B
theorem Buf.val {E sz : Nat} {v : Value} {T : List (Nat × Obj)} {n : Nat} {xs : List Value} (h : Buf E sz v T n xs) : ∃ a cap, v = .slice a n cap ∧ n ≤ cap ∧ cap ≤ maxLen := by
  rcases h with ⟨rfl, rfl, rfl, _⟩ | ⟨g, off, cap, cur, rfl, _, h⟩
  · exact ⟨_, _, rfl, Nat.le_refl _, by simp [maxLen]⟩
  · exact ⟨_, _, rfl, h.le, h.max⟩
theorem OW.permL {c : Cx} {o : Oper} {Kn : St → Prop} {K : Exit → St → Prop} {σ : St} (h : OW c o (fun σ' => ∃ L2 : List (Nat × Obj), L2.Perm σ'.L ∧ Kn ⟨σ'.s, σ'.D, L2⟩) K σ) : OW c o Kn K σ := fun a w ha =>
  Oper.wpIn_mono (fun _ _ ⟨_, h1, _, h2, h3⟩ => ⟨_, h1.mem' (h1.mem.perm h2), h3⟩) (h a w ha)
theorem OW_append_buf {c : Cx} {o : Oper} {Kn : St → Prop} {K : Exit → St → Prop} {s : List (Nat × Value)} {D : List Deferred} {A T B : List (Nat × Obj)} {t t2 E size by_ d : Nat} {z : Array Value} {x y : Operand} [hu : TUnd c.P t (.slice E)] [hrow : TRow c.P E z size by_]
    (ho : o.op = .call { callee := .builtin .append, args := #[x, y], argTypes := #[t, t2] }) (hdst : o.dst = some d) {v y' : Value} (hx : ev s x = some v) (hy : ev s y = some y') (hd : Nat.blt d c.N = true) {n m : Nat} {xs news : List Value} (hv : Buf E size v T n xs)
    (hs : SrcL c (A ++ (T ++ B)) size t2 y' m news) (hm : 0 < m) (hmax : n + m ≤ maxLen) (hby : (n + m) * by_ ≤ 140737488355328)
    (hk : ∀ v' T', Buf E size v' T' (n + m) (xs ++ news) → Kn ⟨(d, v') :: s, D, A ++ (T' ++ B)⟩) : OW c o Kn K ⟨s, D, A ++ (T ++ B)⟩ := by
  refine OW.permL ?_
  rcases hv with ⟨rfl, rfl, rfl, rfl⟩ | ⟨g, off, cap, cur, rfl, rfl, h⟩
  · refine OW_append_new ho hdst hx hy hd (Vec.nil size _) hs (by omega) hmax hby fun b cap' cur' h' => ?_
    refine ⟨A ++ ([(b, .cells cur' E (0, 0))] ++ B), ?_, hk _ _ (.inr ⟨b, 0, cap', cur', rfl, rfl, h'⟩)⟩
    simp only [List.nil_append, List.singleton_append]
    exact List.perm_middle
  · have hi : (A ++ ([(g, Obj.cells cur E (0, 0))] ++ B))[A.length]? = some (g, .cells cur E (0, 0)) := by simp
    refine OW_append_own ho hdst hx hy hd A.length hi h hs hmax hby fun b off' cap' cur' h' => ?_
    refine ⟨_, .refl _, ?_⟩
    have e : (A ++ ([(g, Obj.cells cur E (0, 0))] ++ B)).set A.length (b, .cells cur' E (0, 0)) = A ++ ([(b, .cells cur' E (0, 0))] ++ B) := by simp
    simp only [e]
    exact hk _ _ (.inr ⟨b, off', cap', cur', rfl, rfl, h'⟩)
theorem WC_meetK {c : Cx} {x : Code} {K : Exit → St → Prop} {σ : St} (Q : St → Prop) (hA : WC c x (thenK (meetQ Q) K) σ) (hB : ∀ σ, meetQ Q σ → K .normal σ) : WC c x K σ :=
  WC_mono hA fun e σ h => by
    cases e with
    | normal => exact hB σ h
    | _ => exact h
end Go.Proofs.Ytkjljlmoihkijaa
namespace Go.Proofs.Ytkjljlmoihkijaa
open Go.RowKit
theorem QW_a {c : Cx} {s : List (Nat × Value)} {L : List (Nat × Obj)} {o : Oper} {κ : Value → Prop} {v : Value} (hk : κ v) (h : Qt c s L o v := by first
    | exact Qt_move rfl | exact Qt_assign rfl | exact Qt_nilCheck rfl | exact Qt_fieldAddr0 rfl | exact Qt_fieldAddr rfl | exact Qt_ld1B rfl | exact Qt_extract rfl
    | exact Qt_lenB rfl | exact Qt_lenSl rfl | exact Qt_eqlStr rfl | exact Qt_neqStr rfl | exact Qt_geqStr rfl | exact Qt_cat rfl | exact Qt_bin rfl | exact Qt_pick_true rfl | exact Qt_pick_false rfl | exact Qt_not rfl
    | exact Qt_indexArr0 rfl | exact Qt_indexSl0 rfl | exact Qt_indexArr rfl | exact Qt_indexSl rfl | exact Qt_convInt rfl | exact Qt_ldA rfl | exact Qt_ldN rfl
    | exact Qt_eql_nilS rfl | exact Qt_eql_nilN rfl | exact Qt_neq_nilS rfl | exact Qt_neq_nilN rfl | exact Qt_eql_ifN rfl | exact Qt_eql_ifS rfl | exact Qt_neq_ifN rfl | exact Qt_neq_ifS rfl | exact Qt_eql_bool rfl | exact Qt_neq_bool rfl
    | exact Qt_rem rfl | exact Qt_quo rfl | exact Qt_shl rfl | exact Qt_shr rfl | exact Qt_and rfl | exact Qt_or rfl | exact Qt_xor rfl | exact Qt_neg rfl | exact Qt_min rfl | exact Qt_max rfl
    | exact Qt_cutB rfl | exact Qt_cutToB rfl | exact Qt_cutFromB rfl | exact Qt_indexB rfl | exact Qt_arrFrom rfl | exact Qt_sliceL rfl | exact Qt_slTo rfl | exact Qt_slLHM rfl
    | exact Qt_str1 rfl | exact Qt_str rfl (hv := own_by0 (by with_reducible assumption)) | exact Qt_str rfl | exact Qt_buildB rfl | exact Qt_makeFunc rfl | exact Qt_makeInterface rfl | exact Qt_typeAssert rfl | exact Qt_nilCheck_fn rfl) : QW c s L o κ := ⟨v, h, hk⟩
theorem RQ {P G : Prop} (h : G) (s : G → P := by first | exact fun h => WL_Q (QW_a h) | exact fun h => WL_Y (QW_a h)) : P := s h
theorem OE {P G : Prop} (h : G) (s : G → P := by first | exact fun h => OW_alloc rfl (hk := h) | exact fun h => OW_box rfl (hk := h) | exact fun h => OW_st1 rfl h | exact fun h => OW_stA rfl h | exact fun h => OW_stN rfl h | exact fun h => OW_build0 rfl (hk := h) | exact fun h => OW_build1 rfl (hk := h)) : P := s h
theorem RE {P G : Prop} (h : G) (s : G → P := by first | exact fun h => WL_op rfl (OE h) | exact fun h => WL_yes (h := OE h)) : P := s h
theorem RC {P G : Prop} (h : G) (s : G → P := by first | exact WL_nil | exact fun h => WL_un (h := h) | exact fun h => WL_N h | exact fun h => WL_M h | exact WC_seq | exact WC_block | exact fun h => WC_cond_t (ht := h) | exact fun h => WC_cond_f (he := h) | exact WC_skip | exact WC_ret | exact WC_exit) : P := s h
theorem RQr {P G : Prop} (h : G) (s : G → P := by first | exact fun h => WL_Q (QW_a h) | exact fun h => WL_Y (QW_a h) | exact fun h => WR_Q rfl (QW_a h) | exact fun h => WR_late rfl rfl rfl (OW_Q (QW_a h)) | exact fun h => WR_Y rfl (QW_a h)) : P := s h
theorem RU {P G : Prop} (h : G) (s : G → P := by first | exact WR_nil | exact fun h => WR_un rfl (hk := h) | exact fun h => WR_N rfl h | exact fun h => WR_M rfl h | exact fun h => WR_skN rfl (h := h) | exact fun h => WR_skM rfl (h := h) | exact fun h => WR_skU rfl (h := h)) : P := s h
theorem SD {A B : List (Nat × Obj)} {G : Prop} (h : G) (s : ∀ q ∈ A, q ∈ B := by first | exact fun _ h => h | exact sub_mem (by repeat (first | exact .refl _ | exact List.nil_sublist _ | exact List.sublist_append_right _ _ | exact List.Sublist.append (.refl _) (List.sublist_append_right _ _) | apply List.Sublist.cons_cons | apply List.Sublist.cons))) : (∀ q ∈ A, q ∈ B) ∧ G := ⟨s, h⟩
end Go.Proofs.Ytkjljlmoihkijaa
namespace Go.Proofs.Ytkjljlmoihkijaa
open Go.RowKit
theorem part1 {P : Program} {t : TypeId} [ha : TAgg P t false] {xs : Array Value} {off : Nat} {v : Value} (h : xs[off]? = some v) (w : World) : (part t xs off).run P w = .ok v w := by
  simp [part, ha.h, h]
section
variable {c : Cx} {s : List (Nat × Value)} {L : List (Nat × Obj)} {o : Oper}
end
end Go.Proofs.Ytkjljlmoihkijaa
namespace Go.Proofs.Ytkjljlmoihkijaa
open Go.RowKit
def WCn (c : Cx) (x : Code) (K : Exit → St → Prop) : Nat → St → Prop
  | 0, _ => False
  | m + 1, σ => WC c x (thenK (WCn c x K m) K) σ
theorem WCn.rounds {c : Cx} {x : Code} {K : Exit → St → Prop} : ∀ {m : Nat} {σ : St}, WCn c x K m σ → ∀ a w, Holds c.g c.N σ a w → Code.roundsIn (Fw c.r) c.n c.P x (lift c K) m a w
  | 0, _, h, _, _, _ => h.elim
  | m + 1, σ, h, a, w, ha => by
    rw [roundsIn_succ]
    refine Go.wpIn_mono ((show WC c x (thenK (WCn c x K m) K) σ from h) a w ha) fun e a' w' hl => ?_
    obtain ⟨σ', h1, h2⟩ := hl
    cases e with
    | normal => exact WCn.rounds (m := m) h2 a' w' h1
    | _ => exact ⟨σ', h1, h2⟩
theorem WC_unroll {c : Cx} {x : Code} {K : Exit → St → Prop} {σ : St} (m : Nat) (h : WCn c x K m σ) : WC c (.loop x) K σ := fun a w ha => wpIn_loop_rounds m (h.rounds a w ha)
theorem WCn_s {c : Cx} {x : Code} {K : Exit → St → Prop} {m : Nat} {σ : St} (h : WC c x (thenK (WCn c x K m) K) σ) : WCn c x K (m + 1) σ := h
def FilledA (n : Nat) : Array Value → List (Nat × Value) → Array Value → Prop
  | z, [], cs => cs = z
  | z, (i, v) :: r, cs => v.cells.size = n ∧ i * n + n ≤ z.size ∧ FilledA n (putR z (i * n) v.cells) r cs
theorem fill_of_FilledA {n : Nat} : ∀ {parts : List (Nat × Value)} {z cs : Array Value}, FilledA n z parts cs → Instr.fill (fun i => some (i * n, n)) z parts = some cs
  | [], z, cs, h => by cases h; rfl
  | (i, v) :: r, z, cs, ⟨h2, h3, h4⟩ => by
    simp only [Instr.fill]
    rw [if_neg (by simp [h2]; omega)]
    have hf := fold_put v.cells.toList 0 (i * n) z (by simp; omega)
    have he : (v.cells.zipIdx.foldl (fun (cs : Array Value) (p : Value × Nat) => cs.setIfInBounds (i * n + p.2) p.1) z) = putR z (i * n) v.cells := by
      rw [← Array.foldl_toList, Array.toList_zipIdx, hf]
      simp
    have hh := fill_of_FilledA h4
    rw [← he] at hh
    exact hh
class TBuildA (P : Program) (t : TypeId) (z : outParam (Array Value)) (n : outParam Nat) : Prop where
  h : ∀ parts, P.built t parts = Instr.fill (fun i => some (i * n, n)) z parts
theorem Qt_buildA {c : Cx} {s : List (Nat × Value)} {L : List (Nat × Obj)} {o : Oper} {t : TypeId} {z : Array Value} {n : Nat} [hb : TBuildA c.P t z n] {parts : Array (Nat × Operand)} {vs : List (Nat × Value)} {cs : Array Value} (ho : o.op = .build t parts) (hx : evp s parts.toList = some vs := by exact rfl) (hf : FilledA n z vs cs := by repeat (first | exact rfl | refine ⟨(by first | with_reducible assumption | rfl | assumption), (by first | exact Nat.le_of_ble_eq_true rfl | omega), ?_⟩)) : Qt c s L o (.agg cs) :=
  ⟨(fun cc => by simp [ho]), fun ρ hρ w _ => by
    have h1 := evp_map hρ hx
    have h2 := run_build (P := c.P) w t (parts.map fun (i, x) => (i, ρ x)) cs (by
      rw [hb.h, Array.toList_map, h1]
      have := fill_of_FilledA hf
      simpa using this)
    simp [execOp, ho, h2]⟩
section
variable {c : Cx} {s : List (Nat × Value)} {L : List (Nat × Obj)} {o : Oper}
end
end Go.Proofs.Ytkjljlmoihkijaa
namespace Go.Proofs.Ytkjljlmoihkijaa
instance : TSize Try.prog 2 1 := ⟨Try.sizeOf2⟩
instance : TAgg Try.prog 2 false := ⟨Try.isAgg2⟩
theorem row2 : (Try.prog.info? 2).map (fun i => (i.size, i.bytes)) = some (1, 8) := by kernel_rfl
instance : TUnd Try.prog 2 (.int Go.IntKind.i64) := ⟨Try.underlying2⟩
instance : TUnd Try.prog 3 (.int Go.IntKind.i64) := ⟨Try.underlying3⟩
instance : TUnd Try.prog 4 .bool := ⟨Try.underlying4⟩
instance : TUnd Try.prog 5 (.int Go.IntKind.u8) := ⟨Try.underlying5⟩
instance : TUnd Try.prog 9 .string := ⟨Try.underlying9⟩
instance : TUnd Try.prog 22 (.slice 30) := ⟨Try.underlying22⟩
instance : TSize Try.prog 30 2 := ⟨Try.sizeOf30⟩
instance : TAgg Try.prog 30 true := ⟨Try.isAgg30⟩
def zc30 : Array Value :=  #[Go.Value.int Go.IntKind.i64 0, Go.Value.int Go.IntKind.i64 0]
instance : TZero Try.prog 30 (.agg zc30) := ⟨Try.zeroValue30⟩
theorem row30 : (Try.prog.info? 30).map (fun i => (i.size, i.bytes)) = some (2, 16) := by kernel_rfl
instance : TUnd Try.prog 30 (.array 2 2) := ⟨Try.underlying30⟩
instance : TUnd Try.prog 49 (.int Go.IntKind.u64) := ⟨Try.underlying49⟩
instance : TUnd Try.prog 72 (.int Go.IntKind.u64) := ⟨Try.underlying72⟩
instance : TRow Try.prog 2 #[Go.Value.int Go.IntKind.i64 0] 1 8 := TRow.of Try.zeroValue2 rfl row2 rfl
instance : TRow Try.prog 30 zc30 2 16 := TRow.of Try.zeroValue30 rfl row30 rfl
instance : FCall Try.prog 71 := ⟨Try.call71⟩
instance : FCall Try.prog 46 := ⟨Try.call46⟩
instance : FCall Try.prog 13 := ⟨Try.call13⟩
instance : FCall Try.prog 57 := ⟨Try.call57⟩
instance : FCall Try.prog 65 := ⟨Try.call65⟩
instance : FCall Try.prog 42 := ⟨Try.call42⟩
instance : FCall Try.prog 27 := ⟨Try.call27⟩
instance : FCall Try.prog 52 := ⟨Try.call52⟩
instance : FCall Try.prog 33 := ⟨Try.call33⟩
instance : FCall Try.prog 17 := ⟨Try.call17⟩
instance : FCall Try.prog 66 := ⟨Try.call66⟩
instance : FCall Try.prog 20 := ⟨Try.call20⟩
instance : FCall Try.prog 49 := ⟨Try.call49⟩
instance : FCall Try.prog 35 := ⟨Try.call35⟩
instance : FCall Try.prog 18 := ⟨Try.call18⟩
instance : FCall Try.prog 55 := ⟨Try.call55⟩
instance : FCall Try.prog 60 := ⟨Try.call60⟩
instance : FCall Try.prog 6 := ⟨Try.call6⟩
instance : FCall Try.prog 16 := ⟨Try.call16⟩
instance : FCall Try.prog 38 := ⟨Try.call38⟩
instance : FCall Try.prog 14 := ⟨Try.call14⟩
instance : FCall Try.prog 40 := ⟨Try.call40⟩
instance : FCall Try.prog 30 := ⟨Try.call30⟩
instance : FCall Try.prog 9 := ⟨Try.call9⟩
instance : FCall Try.prog 15 := ⟨Try.call15⟩
instance : FCall Try.prog 68 := ⟨Try.call68⟩
instance : FCall Try.prog 48 := ⟨Try.call48⟩
instance : FCall Try.prog 39 := ⟨Try.call39⟩
instance : FCall Try.prog 19 := ⟨Try.call19⟩
instance : FCall Try.prog 59 := ⟨Try.call59⟩
instance : FCall Try.prog 12 := ⟨Try.call12⟩
instance : FCall Try.prog 72 := ⟨Try.call72⟩
instance : FCall Try.prog 63 := ⟨Try.call63⟩
instance : FCall Try.prog 62 := ⟨Try.call62⟩
instance : FCall Try.prog 10 := ⟨Try.call10⟩
instance : FCall Try.prog 70 := ⟨Try.call70⟩
instance : FCall Try.prog 69 := ⟨Try.call69⟩
instance : FCall Try.prog 47 := ⟨Try.call47⟩
instance : FCall Try.prog 7 := ⟨Try.call7⟩
instance : FCall Try.prog 11 := ⟨Try.call11⟩
instance : FCall Try.prog 5 := ⟨Try.call5⟩
instance : FCall Try.prog 41 := ⟨Try.call41⟩
instance : FCall Try.prog 56 := ⟨Try.call56⟩
instance : FCall Try.prog 43 := ⟨Try.call43⟩
instance : FCall Try.prog 51 := ⟨Try.call51⟩
instance : FCall Try.prog 32 := ⟨Try.call32⟩
instance : FCall Try.prog 31 := ⟨Try.call31⟩
instance : FCall Try.prog 58 := ⟨Try.call58⟩
instance : FCall Try.prog 23 := ⟨Try.call23⟩
instance : FCall Try.prog 29 := ⟨Try.call29⟩
instance : FCall Try.prog 61 := ⟨Try.call61⟩
instance : FCall Try.prog 44 := ⟨Try.call44⟩
instance : FCall Try.prog 67 := ⟨Try.call67⟩
instance : FCall Try.prog 50 := ⟨Try.call50⟩
instance : FCall Try.prog 25 := ⟨Try.call25⟩
instance : FCall Try.prog 53 := ⟨Try.call53⟩
instance : FCall Try.prog 45 := ⟨Try.call45⟩
instance : FCall Try.prog 36 := ⟨Try.call36⟩
instance : FCall Try.prog 24 := ⟨Try.call24⟩
instance : FCall Try.prog 37 := ⟨Try.call37⟩
instance : FCall Try.prog 34 := ⟨Try.call34⟩
instance : FCall Try.prog 64 := ⟨Try.call64⟩
instance : FCall Try.prog 26 := ⟨Try.call26⟩
instance : FCall Try.prog 54 := ⟨Try.call54⟩
instance : FCall Try.prog 73 := ⟨Try.call73⟩
theorem mixed : Try.prog.follows .mixedOrders = true := by kernel_rfl
end Go.Proofs.Ytkjljlmoihkijaa
namespace Go.Proofs.Ytkjljlmoihkijaa
open Go.RowKit
abbrev wC (p : Int × Int) : Array Value := #[.int .i64 p.1, .int .i64 p.2]
instance : TBuildA Try.prog 30 zc30 1 := ⟨fun _ => by kernel_rfl⟩
theorem pair_fill {a b : Int} : FilledA 1 zc30 [(0, .int .i64 a), (1, .int .i64 b)] (wC (a, b)) := ⟨rfl, Nat.le_of_ble_eq_true rfl, rfl, Nat.le_of_ble_eq_true rfl, rfl⟩
attribute [local irreducible] Fn WC WL WR OW Qt YieldFn QW FnP FnD
theorem srcW {c : Cx} {L : List (Nat × Obj)} {b i : Nat} {w : Array Value} {E : TypeId} {fr : Nat × Nat} (hw : w.size = 2) (h1 : (w.toList.all fun v => v.oneCell') = true) (hi : L[i]? = some (b, .cells w E fr)) [TUnd c.P 22 (.slice 30)] : SrcL c L 2 22 (.slice (some ⟨b, 0, none⟩) 1 1) 1 w.toList :=
  srcVec ⟨by simpa using hw, _, _, rfl, Nat.le_refl _, by decide, .inr ⟨_, _, _, _, _, i, rfl, hi, fun j x hx => by simpa using hx⟩⟩ (by intro v hv; exact List.all_eq_true.1 h1 v hv)
end Go.Proofs.Ytkjljlmoihkijaa
namespace Go.Proofs.Ytkjljlmoihkijaa
open Go.RowKit
theorem pair_eql {P : Program} {t e : TypeId} [hu : TUnd P t (.array 2 e)] [he : TUnd P e (.int .i64)] [ha : TAgg P e false] (hi : ∃ i, P.info? e = some i) (hc : P.cellsOf e = 1) (a b c d : Int) (w : World) : (Op.equalIn 10000 t (.agg #[.int .i64 a, .int .i64 b]) (.agg #[.int .i64 c, .int .i64 d])).run P w = .ok (a == c && b == d) w := by
  obtain ⟨i, hi⟩ := hi
  have h1 := run_equalIn_array (P := P) (w := w) 9999 (t := t) (e := e) (n := 2) (i := i) #[.int .i64 a, .int .i64 b] #[.int .i64 c, .int .i64 d] hu.h hi
  rw [h1, hc, show List.range 2 = [0, 1] from rfl]
  have p0 : ∀ w, (part e #[.int .i64 a, .int .i64 b] (0 * 1)).run P w = .ok (.int .i64 a) w := fun w => part1 rfl w
  have p1 : ∀ w, (part e #[.int .i64 a, .int .i64 b] (1 * 1)).run P w = .ok (.int .i64 b) w := fun w => part1 rfl w
  have q0 : ∀ w, (part e #[.int .i64 c, .int .i64 d] (0 * 1)).run P w = .ok (.int .i64 c) w := fun w => part1 rfl w
  have q1 : ∀ w, (part e #[.int .i64 c, .int .i64 d] (1 * 1)).run P w = .ok (.int .i64 d) w := fun w => part1 rfl w
  have r0 := run_equalIn_int (P := P) w 9998 e .i64 .i64 a c he.h
  have r1 := run_equalIn_int (P := P) w 9998 e .i64 .i64 b d he.h
  simp only [Op.eqItems, Sem.run_bind, p0, q0, r0, Result.andThen_ok]
  cases h : (a == c)
  · simp
  · simp only [Bool.not_true, Bool.false_eq_true, if_false, Sem.run_bind, p1, q1, r1, Result.andThen_ok]
    cases h2 : (b == d) <;> simp
section
variable {c : Cx} {s : List (Nat × Value)} {L : List (Nat × Obj)} {o : Oper}
class EqPair (P : Program) (t : TypeId) : Prop where
  guard : P.eqGuardType P.depth t = false
  run : ∀ a b c d w, (Op.equalIn 10000 t (.agg #[.int .i64 a, .int .i64 b]) (.agg #[.int .i64 c, .int .i64 d])).run P w = .ok (a == c && b == d) w
theorem Qt_eqlP {t t' : TypeId} [hp : EqPair c.P t] {x y : Operand} {p q : Int × Int} (ho : o.op = .binOp .eql t x y t') (hx : ev s x = some (.agg (wC p)) := by exact rfl) (hy : ev s y = some (.agg (wC q)) := by exact rfl) : Qt c s L o (.bool (p.1 == q.1 && p.2 == q.2)) :=
  Qt_of_run (by simp [ho]) (fun ρ hρ w _ => by
    have h1 := run_eqGuard_agg (P := c.P) w .eql t x y (wC p) (wC q) hp.guard
    have h2 := run_eql_struct (P := c.P) w t (wC p) (wC q)
    rw [show (Op.equalIn 10000 t (.agg (wC p)) (.agg (wC q))).run c.P w = _ from hp.run _ _ _ _ w] at h2
    simp [execOp, ho, hρ x _ hx, hρ y _ hy, h1, h2, Result.andThen])
theorem Qt_neqP {t t' : TypeId} [hp : EqPair c.P t] {x y : Operand} {p q : Int × Int} (ho : o.op = .binOp .neq t x y t') (hx : ev s x = some (.agg (wC p)) := by exact rfl) (hy : ev s y = some (.agg (wC q)) := by exact rfl) : Qt c s L o (.bool (!(p.1 == q.1 && p.2 == q.2))) :=
  Qt_of_run (by simp [ho]) (fun ρ hρ w _ => by
    have h1 := run_eqGuard_agg (P := c.P) w .neq t x y (wC p) (wC q) hp.guard
    have h2 : (binOp .neq t (.agg (wC p)) (.agg (wC q))).run c.P w = .ok (.bool (!(p.1 == q.1 && p.2 == q.2))) w := by
      have h3 := hp.run p.1 p.2 q.1 q.2 w
      simp only [binOp, Op.equal, Op.maxDepth, Sem.run_bind]
      rw [show (Op.equalIn 10000 t (.agg (wC p)) (.agg (wC q))).run c.P w = _ from h3]
      simp
    simp [execOp, ho, hρ x _ hx, hρ y _ hy, h1, h2, Result.andThen])
end
attribute [local irreducible] Fn WC WL WR OW Qt YieldFn QW FnP FnD
instance : EqPair Try.prog 30 := ⟨by kernel_rfl, fun a b c d w => pair_eql (by obtain ⟨i, _, h, _⟩ := (inferInstance : TRow Try.prog 2 _ _ _).h; exact ⟨i, h⟩) (by kernel_rfl) a b c d w⟩
def PairsAt (L : List (Nat × Obj)) (v : Value) (ws : List (Int × Int)) : Prop := ∃ a cap, v = .slice a ws.length cap ∧ (ws = [] ∨ ∃ (g off : Nat) (cur : Array Value) (E : TypeId) (fr : Nat × Nat) (i : Nat), a = some ⟨g, off, none⟩ ∧ L[i]? = some (g, .cells cur E fr) ∧ ∀ (j : Nat) (p : Int × Int), ws[j]? = some p → cur.extract (off + j * 2) (off + j * 2 + 2) = wC p ∧ off + j * 2 + 2 ≤ cur.size)
theorem flat_pairs : ∀ {ws : List (Int × Int)} {j : Nat} {p : Int × Int}, ws[j]? = some p → ((ws.map wC).flatMap fun w => w.toList)[j * 2]? = some (.int .i64 p.1) ∧ ((ws.map wC).flatMap fun w => w.toList)[j * 2 + 1]? = some (.int .i64 p.2)
  | [], j, p, h => by simp at h
  | q :: ws, 0, p, h => by cases h; exact ⟨rfl, rfl⟩
  | q :: ws, j + 1, p, h => by
    have ih := flat_pairs (ws := ws) (j := j) (p := p) h
    rw [Nat.succ_mul]
    exact ih
set_option maxHeartbeats 2000000 in
theorem sameW_fn {u v : Value} {ws : List (Int × Int)} (hn : ws.length ≤ 1000000) {L : List (Nat × Obj)} (hu : PairsAt L u ws) (hv : PairsAt L v ws) : Fn Try.prog 6 [u, v] L (fun r L' => r = .bool true ∧ L' = L) := by
  obtain ⟨a1, cap1, rfl, h1⟩ := hu
  obtain ⟨a2, cap2, rfl, h2⟩ := hv
  refine Fn_enter Try.func6 rfl Try.ntmps6 rfl fun gw => ?_
  have d1 : (((ws.length : Nat) : Int) != ((ws.length : Nat) : Int)) = false := by simp
  repeat (first | refine RQ ?_ | ((first | refine WL_Q ?_); (first | refine QW_of (Qt_buildA rfl (hf := pair_fill)) ?_ | refine QW_of (Qt_eqlP rfl) ?_ | refine QW_of (Qt_neqP rfl) ?_ | refine QW_of (Qt_ldX rfl (hn := by with_reducible assumption)) ?_)) | refine RC ?_ | refine WC_region (id := 0) ?_ | refine WC_region (id := 1) ?_ | refine WC_region (id := 3) ?_)
  refine WC_wk [(5, .int .i64 0), (0, .slice a1 ws.length cap1), (1, .slice a2 ws.length cap2)] ⟨rfl, rfl, rfl, trivial⟩ ?_
  refine WC_loop (fun m σ => ∃ i : Nat, m = ws.length - i ∧ i ≤ ws.length ∧ σ = ⟨[(5, .int .i64 i), (0, .slice a1 ws.length cap1), (1, .slice a2 ws.length cap2)], [], L⟩) ws.length ⟨0, by omega, by omega, rfl⟩ ?_
  rintro m σ ⟨i, rfl, hi, rfl⟩
  by_cases hlt : i < ws.length
  · have d2 : decide ((i : Int) < ((ws.length : Nat) : Int)) = true := decide_eq_true (by omega)
    obtain ⟨p, hp⟩ : ∃ p, ws[i]? = some p := ⟨_, List.getElem?_eq_getElem hlt⟩
    have hne : ws ≠ [] := by intro e; rw [e] at hlt; simp at hlt
    obtain ⟨g1, o1, cu1, E1, fr1, i1, rfl, hi1, hc1⟩ := h1.resolve_left hne
    obtain ⟨g2, o2, cu2, E2, fr2, i2, rfl, hi2, hc2⟩ := h2.resolve_left hne
    obtain ⟨x1, z1⟩ := hc1 i p hp
    obtain ⟨x2, z2⟩ := hc2 i p hp
    have p0 : (0 : Int) ≤ (i : Int) := by omega
    have p1 : ((i : Nat) : Int) < ((ws.length : Nat) : Int) := by omega
    have y1 : o1 + ((i : Nat) : Int).toNat * 2 + 2 ≤ cu1.size := by rw [Int.toNat_natCast]; exact z1
    have y2 : o2 + ((i : Nat) : Int).toNat * 2 + 2 ≤ cu2.size := by rw [Int.toNat_natCast]; exact z2
    have v1 : cu1.extract (o1 + ((i : Nat) : Int).toNat * 2) (o1 + ((i : Nat) : Int).toNat * 2 + 2) = wC p := by rw [Int.toNat_natCast]; exact x1
    have v2 : cu2.extract (o2 + ((i : Nat) : Int).toNat * 2) (o2 + ((i : Nat) : Int).toNat * 2 + 2) = wC p := by rw [Int.toNat_natCast]; exact x2
    have dn : (!(p.1 == p.1 && p.2 == p.2)) = false := by simp
    have w : IntKind.i64.wrap ((i : Int) + 1) = ((i + 1 : Nat) : Int) := by rw [wI64 (by omega) (by omega)]; omega
    repeat (first | refine RQr ?_ | ((first | refine WL_Q ?_ | refine WR_Q rfl ?_ | refine WR_late rfl rfl rfl (OW_Q ?_)); (first | refine QW_of (Qt_buildA rfl (hf := pair_fill)) ?_ | refine QW_of (Qt_eqlP rfl) ?_ | refine QW_of (Qt_neqP rfl) ?_ | refine QW_of (Qt_ldX rfl (hn := by with_reducible assumption)) ?_)) | refine RC ?_ | refine RU ?_ | refine WC_draw_all (id := 6) 9 (.calm 0 <| .calm 1 <| .calm 2 <| .calm 3 <| .calm 4 <| .calm 5 <| .calm 6 <| .calm 7 <| .calm 8 <| .done) mixed (by kernel_rfl) ?_ | refine WC_region (id := 4) ?_)
    rw [v1, v2]
    repeat (first | refine RQr ?_ | ((first | refine WL_Q ?_ | refine WR_Q rfl ?_ | refine WR_late rfl rfl rfl (OW_Q ?_)); (first | refine QW_of (Qt_buildA rfl (hf := pair_fill)) ?_ | refine QW_of (Qt_eqlP rfl) ?_ | refine QW_of (Qt_neqP rfl) ?_ | refine QW_of (Qt_ldX rfl (hn := by with_reducible assumption)) ?_)) | refine RC ?_ | refine RU ?_ | refine WC_draw_all (id := 6) 9 (.calm 0 <| .calm 1 <| .calm 2 <| .calm 3 <| .calm 4 <| .calm 5 <| .calm 6 <| .calm 7 <| .calm 8 <| .done) mixed (by kernel_rfl) ?_ | refine WC_region (id := 5) ?_)
    rw [w]
    exact ⟨_, _, by omega, ⟨i + 1, rfl, by omega, rfl⟩, ⟨rfl, rfl, rfl, trivial⟩, rfl, .refl _⟩
  · have d2 : decide ((i : Int) < ((ws.length : Nat) : Int)) = false := decide_eq_false (by omega)
    repeat (first | refine RQ ?_ | ((first | refine WL_Q ?_); (first | refine QW_of (Qt_buildA rfl (hf := pair_fill)) ?_ | refine QW_of (Qt_eqlP rfl) ?_ | refine QW_of (Qt_neqP rfl) ?_ | refine QW_of (Qt_ldX rfl (hn := by with_reducible assumption)) ?_)) | refine RC ?_ | refine WC_region (id := 4) ?_ | refine WC_region (id := 8) ?_)
    exact ⟨rfl, _, _, Res1 rfl (resV_tmp rfl), .refl _, rfl, rfl⟩
end Go.Proofs.Ytkjljlmoihkijaa
namespace Go.Proofs.Ytkjljlmoihkijaa
open Go.RowKit
attribute [local irreducible] Fn WC WL WR OW Qt YieldFn QW FnP FnD
def meetW (p q : Int × Int) : Bool := decide (p.1 < q.2) && decide (q.1 < p.2)
def joinW (p q : Int × Int) : Int × Int := (if q.1 < p.1 then q.1 else p.1, if q.2 > p.2 then q.2 else p.2)
theorem meetP_fn {p q : Int × Int} {L : List (Nat × Obj)} : Fn Try.prog 10 [.agg (wC p), .agg (wC q)] L (fun v L' => v = .bool (meetW p q) ∧ L' = L) := by
  refine Fn_enter Try.func10 rfl Try.ntmps10 rfl fun gw => ?_
  cases h : decide (p.1 < q.2)
  · repeat (first | refine RQ ?_ | ((first | refine WL_Q ?_ | refine WL_Y ?_); (first | refine QW_of (Qt_buildA rfl (hf := pair_fill)) ?_)) | (refine RE ?_; try intro _) | refine RC ?_ | refine WC_region ?_)
    exact ⟨rfl, _, _, Res1 rfl (resV_tmp rfl), .cons _ (.cons _ (.refl _)), by unfold meetW; rw [h]; rfl, rfl⟩
  · repeat (first | refine RQ ?_ | ((first | refine WL_Q ?_ | refine WL_Y ?_); (first | refine QW_of (Qt_buildA rfl (hf := pair_fill)) ?_)) | (refine RE ?_; try intro _) | refine RC ?_ | refine WC_region ?_)
    exact ⟨rfl, _, _, Res1 rfl (resV_tmp rfl), .cons _ (.cons _ (.refl _)), by unfold meetW; rw [h]; rfl, rfl⟩
theorem joinP_fn {p q : Int × Int} {L : List (Nat × Obj)} : Fn Try.prog 20 [.agg (wC p), .agg (wC q)] L (fun v L' => v = .agg (wC (joinW p q)) ∧ L' = L) := by
  refine Fn_enter Try.func20 rfl Try.ntmps20 rfl fun gw => ?_
  repeat (first | refine RQ ?_ | ((first | refine WL_Q ?_); (first | refine QW_of (Qt_buildA rfl (hf := pair_fill)) ?_)) | (refine RE ?_; try intro _) | refine RC ?_ | refine WC_region ?_)
  exact ⟨rfl, _, _, Res1 rfl (resV_cellN rfl 0 rfl rfl), .cons _ (.cons _ (.cons _ (.refl _))), rfl, rfl⟩
end Go.Proofs.Ytkjljlmoihkijaa
namespace Go.Proofs.Ytkjljlmoihkijaa
def covW (p : Int × Int) (x : Int) : Prop := 2 * p.1 < x ∧ x < 2 * p.2
def covL (l : List (Int × Int)) (x : Int) : Prop := ∃ p ∈ l, covW p x
structure Gath (l out : List (Int × Int)) : Prop where
  cov : ∀ x, covL out x ↔ covL l x
  full : ∀ p ∈ out, p.1 < p.2
  rise : out.Pairwise fun p q => p.2 ≤ q.1
  ends : ∀ p ∈ out, (∃ q ∈ l, q.1 < q.2 ∧ q.1 = p.1) ∧ (∃ q ∈ l, q.1 < q.2 ∧ q.2 = p.2)
theorem covL_cons (p : Int × Int) (l : List (Int × Int)) (x : Int) : covL (p :: l) x ↔ covW p x ∨ covL l x := by simp [covL]
theorem covL_append (a b : List (Int × Int)) (x : Int) : covL (a ++ b) x ↔ covL a x ∨ covL b x := by
  simp only [covL, List.mem_append]
  constructor
  · rintro ⟨p, h | h, hx⟩
    · exact .inl ⟨p, h, hx⟩
    · exact .inr ⟨p, h, hx⟩
  · rintro (⟨p, h, hx⟩ | ⟨p, h, hx⟩)
    · exact ⟨p, .inl h, hx⟩
    · exact ⟨p, .inr h, hx⟩
theorem covL_nil (x : Int) : ¬ covL [] x := by simp [covL]
theorem rise_cov_tail {p : Int × Int} {l : List (Int × Int)} (h : (p :: l).Pairwise fun p q => p.2 ≤ q.1) (x : Int) (hx : covL l x) : 2 * p.2 < x := by
  obtain ⟨q, hq, hc⟩ := hx
  have := (List.pairwise_cons.1 h).1 q hq
  unfold covW at hc
  omega
theorem rise_unique : ∀ (a b : List (Int × Int)), (∀ p ∈ a, p.1 < p.2) → (∀ p ∈ b, p.1 < p.2) → a.Pairwise (fun p q => p.2 ≤ q.1) → b.Pairwise (fun p q => p.2 ≤ q.1) → (∀ x, covL a x ↔ covL b x) → a = b
  | [], [], _, _, _, _, _ => rfl
  | [], q :: b, _, fb, _, _, h => by
    have := fb q (List.mem_cons_self ..)
    exact absurd ((h (2 * q.1 + 1)).2 ((covL_cons ..).2 (.inl ⟨by omega, by omega⟩))) (covL_nil _)
  | p :: a, [], fa, _, _, _, h => by
    have := fa p (List.mem_cons_self ..)
    exact absurd ((h (2 * p.1 + 1)).1 ((covL_cons ..).2 (.inl ⟨by omega, by omega⟩))) (covL_nil _)
  | p :: a, q :: b, fa, fb, ra, rb, h => by
    have f1 := fa p (List.mem_cons_self ..)
    have f2 := fb q (List.mem_cons_self ..)
    have low : p.1 = q.1 := by
      have h1 := (h (2 * p.1 + 1)).1 ((covL_cons ..).2 (.inl ⟨by omega, by omega⟩))
      have h2 := (h (2 * q.1 + 1)).2 ((covL_cons ..).2 (.inl ⟨by omega, by omega⟩))
      have g1 : q.1 ≤ p.1 := by
        rcases (covL_cons ..).1 h1 with g | g
        · unfold covW at g; omega
        · have := rise_cov_tail rb _ g; omega
      have g2 : p.1 ≤ q.1 := by
        rcases (covL_cons ..).1 h2 with g | g
        · unfold covW at g; omega
        · have := rise_cov_tail ra _ g; omega
      omega
    have hi : p.2 = q.2 := by
      rcases Int.lt_trichotomy p.2 q.2 with g | g | g
      · exfalso
        have h1 := (h (2 * p.2)).2 ((covL_cons ..).2 (.inl ⟨by omega, by omega⟩))
        rcases (covL_cons ..).1 h1 with g | g
        · unfold covW at g; omega
        · have := rise_cov_tail ra _ g; omega
      · exact g
      · exfalso
        have h1 := (h (2 * q.2)).1 ((covL_cons ..).2 (.inl ⟨by omega, by omega⟩))
        rcases (covL_cons ..).1 h1 with g | g
        · unfold covW at g; omega
        · have := rise_cov_tail rb _ g; omega
    have e : p = q := Prod.ext low hi
    subst e
    rw [rise_unique a b (fun r hr => fa r (List.mem_cons_of_mem _ hr)) (fun r hr => fb r (List.mem_cons_of_mem _ hr)) (List.pairwise_cons.1 ra).2 (List.pairwise_cons.1 rb).2 ?_]
    intro x
    constructor
    · intro hx
      have := rise_cov_tail ra x hx
      rcases (covL_cons ..).1 ((h x).1 ((covL_cons ..).2 (.inr hx))) with g | g
      · unfold covW at g; omega
      · exact g
    · intro hx
      have := rise_cov_tail rb x hx
      rcases (covL_cons ..).1 ((h x).2 ((covL_cons ..).2 (.inr hx))) with g | g
      · unfold covW at g; omega
      · exact g
theorem Gath.unique {l a b : List (Int × Int)} (ha : Gath l a) (hb : Gath l b) : a = b :=
  rise_unique a b ha.full hb.full ha.rise hb.rise fun x => (ha.cov x).trans (hb.cov x).symm
theorem Gath.congr {l l' out : List (Int × Int)} (h : ∀ p : Int × Int, p.1 < p.2 → (p ∈ l ↔ p ∈ l')) (hg : Gath l out) : Gath l' out where
  cov x := by
    rw [hg.cov x]
    constructor
    · rintro ⟨p, hp, hx⟩
      exact ⟨p, (h p (by unfold covW at hx; omega)).1 hp, hx⟩
    · rintro ⟨p, hp, hx⟩
      exact ⟨p, (h p (by unfold covW at hx; omega)).2 hp, hx⟩
  full := hg.full
  rise := hg.rise
  ends p hp := by
    obtain ⟨⟨q, hq, hf, e⟩, r, hr, hf', e'⟩ := hg.ends p hp
    exact ⟨⟨q, (h q hf).1 hq, hf, e⟩, r, (h r hf').1 hr, hf', e'⟩
theorem Gath.nil : Gath [] [] := ⟨fun _ => .rfl, nofun, .nil, nofun⟩
theorem Gath.self {l out : List (Int × Int)} (h : Gath l out) : Gath out out :=
  ⟨fun _ => .rfl, h.full, h.rise, fun p hp => ⟨⟨p, hp, h.full p hp, rfl⟩, p, hp, h.full p hp, rfl⟩⟩
theorem joinW_cov {p q : Int × Int} (h : meetW p q = true) (_ : p.1 < p.2) (_ : q.1 < q.2) (x : Int) : covW (joinW p q) x ↔ covW p x ∨ covW q x := by
  simp only [meetW, Bool.and_eq_true, decide_eq_true_eq] at h
  unfold covW joinW
  dsimp only
  split <;> split <;> omega
theorem joinW_full {p q : Int × Int} (hp : p.1 < p.2) : (joinW p q).1 < (joinW p q).2 := by
  unfold joinW
  dsimp only
  split <;> split <;> omega
theorem joinW_ends (p q : Int × Int) : ((joinW p q).1 = p.1 ∨ (joinW p q).1 = q.1) ∧ ((joinW p q).2 = p.2 ∨ (joinW p q).2 = q.2) := by
  unfold joinW
  dsimp only
  constructor
  · split
    · exact .inr rfl
    · exact .inl rfl
  · split
    · exact .inr rfl
    · exact .inl rfl
def sweep1 (out : List (Int × Int)) (w : Int × Int) : List (Int × Int) := match out.getLast? with
  | some p => if w.1 < p.2 then out.dropLast ++ [joinW p w] else out ++ [w]
  | none => out ++ [w]
def sweepW (l : List (Int × Int)) : List (Int × Int) := l.foldl sweep1 []
theorem sweep1_ok {l out : List (Int × Int)} {w : Int × Int} (h : Gath l out) (hw : w.1 < w.2) (hs : ∀ q ∈ l, q.1 ≤ w.1) : Gath (l ++ [w]) (sweep1 out w) := by
  have lows : ∀ p ∈ out, p.1 ≤ w.1 := fun p hp => by
    obtain ⟨⟨q, hq, _, e⟩, _⟩ := h.ends p hp
    have := hs q hq
    omega
  unfold sweep1
  rcases List.eq_nil_or_concat out with rfl | ⟨o, p, rfl⟩
  · refine ⟨fun x => ?_, ?_, ?_, ?_⟩
    · rw [List.getLast?_nil, covL_append, covL_append, h.cov x]
    · rw [List.getLast?_nil]; simpa using hw
    · rw [List.getLast?_nil]; simp
    · rw [List.getLast?_nil]
      intro p hp
      have : p = w := by simpa using hp
      subst this
      exact ⟨⟨p, by simp, hw, rfl⟩, p, by simp, hw, rfl⟩
  · rw [List.concat_eq_append] at *
    rw [List.getLast?_concat, List.dropLast_concat]
    dsimp only
    have fp := h.full p (by simp)
    have lp := lows p (by simp)
    have hr := List.pairwise_append.1 h.rise
    have old : ∀ r ∈ o ++ [p], (∃ q ∈ l ++ [w], q.1 < q.2 ∧ q.1 = r.1) ∧ (∃ q ∈ l ++ [w], q.1 < q.2 ∧ q.2 = r.2) := fun r hm => by
      obtain ⟨⟨q, hq, hf, e⟩, s, hs', hf', e'⟩ := h.ends r hm
      exact ⟨⟨q, List.mem_append_left _ hq, hf, e⟩, s, List.mem_append_left _ hs', hf', e'⟩
    have new : (∃ q ∈ l ++ [w], q.1 < q.2 ∧ q.1 = w.1) ∧ (∃ q ∈ l ++ [w], q.1 < q.2 ∧ q.2 = w.2) := ⟨⟨w, by simp, hw, rfl⟩, w, by simp, hw, rfl⟩
    by_cases hlt : w.1 < p.2
    · rw [if_pos hlt]
      have hm : meetW p w = true := by simp only [meetW, Bool.and_eq_true, decide_eq_true_eq]; omega
      refine ⟨fun x => ?_, ?_, ?_, ?_⟩
      · rw [covL_append, covL_append, ← h.cov x, covL_append]
        have := joinW_cov hm fp hw x
        simp only [covL_cons, covL_nil, or_false, this]
        rw [or_assoc]
      · intro r hr'
        rcases List.mem_append.1 hr' with g | g
        · exact h.full r (List.mem_append_left _ g)
        · have : r = joinW p w := by simpa using g
          subst this
          exact joinW_full fp
      · refine List.pairwise_append.2 ⟨hr.1, by simp, fun a ha b hb => ?_⟩
        have : b = joinW p w := by simpa using hb
        subst this
        have := hr.2.2 a ha p (by simp)
        unfold joinW
        dsimp only
        split <;> omega
      · intro r hr'
        rcases List.mem_append.1 hr' with g | g
        · exact old r (List.mem_append_left _ g)
        · have : r = joinW p w := by simpa using g
          subst this
          have e := joinW_ends p w
          have op := old p (by simp)
          constructor
          · rcases e.1 with e | e <;> rw [e]
            · exact op.1
            · exact new.1
          · rcases e.2 with e | e <;> rw [e]
            · exact op.2
            · exact new.2
    · rw [if_neg hlt]
      refine ⟨fun x => ?_, ?_, ?_, ?_⟩
      · rw [covL_append (o ++ [p]), covL_append l, h.cov x]
      · intro r hr'
        rcases List.mem_append.1 hr' with g | g
        · exact h.full r g
        · have : r = w := by simpa using g
          subst this
          exact hw
      · refine List.pairwise_append.2 ⟨h.rise, by simp, fun a ha b hb => ?_⟩
        have : b = w := by simpa using hb
        subst this
        rcases List.mem_append.1 ha with g | g
        · have := hr.2.2 a g p (by simp); omega
        · have : a = p := by simpa using g
          subst this; omega
      · intro r hr'
        rcases List.mem_append.1 hr' with g | g
        · exact old r g
        · have : r = w := by simpa using g
          subst this
          exact new
theorem sweep_from : ∀ (r l out : List (Int × Int)), Gath l out → (∀ p ∈ r, p.1 < p.2) → (l ++ r).Pairwise (fun p q => p.1 ≤ q.1) → Gath (l ++ r) (r.foldl sweep1 out)
  | [], l, out, h, _, _ => by simpa using h
  | w :: r, l, out, h, hf, hs => by
    have hs' := List.pairwise_append.1 hs
    have h1 := sweep1_ok h (hf w (List.mem_cons_self ..)) (fun q hq => hs'.2.2 q hq w (List.mem_cons_self ..))
    have e : l ++ w :: r = (l ++ [w]) ++ r := by simp
    rw [e] at hs ⊢
    exact sweep_from r (l ++ [w]) _ h1 (fun p hp => hf p (List.mem_cons_of_mem _ hp)) hs
theorem sweep_gath {l : List (Int × Int)} (hf : ∀ p ∈ l, p.1 < p.2) (hs : l.Pairwise fun p q => p.1 ≤ q.1) : Gath l (sweepW l) := by
  have := sweep_from l [] [] Gath.nil hf (by simpa using hs)
  simpa [sweepW] using this
end Go.Proofs.Ytkjljlmoihkijaa
namespace Go.Proofs.Ytkjljlmoihkijaa
open Go.RowKit
theorem WC_meetB {c : Cx} {x z : Code} {K K' : Exit → St → Prop} {σ : St} (Q : St → Prop) (hA : WC c x (thenK (meetQ Q) K) σ) (hB : ∀ σ, Q σ → WC c z K' σ) (hz : ∀ σ, WC c z K' σ → K .normal σ := by exact fun _ h => h) : WC c x K σ :=
  WC_meetK Q hA fun σ ⟨_, hQ, hs, hD, hL⟩ => hz σ (WC_lessen hs hD hL (hB _ hQ))
theorem Own.take {sz : Nat} {cur : Array Value} {off cap n : Nat} {xs : List Value} (h : Own sz cur off cap n xs) {k cap' : Nat} (hk : k ≤ n) (hc : k ≤ cap') (hc' : cap' ≤ cap) : Own sz cur off cap' k (xs.take (k * sz)) where
  len := by have := h.len; have := Nat.mul_le_mul_right sz hk; rw [List.length_take]; omega
  le := hc
  max := Nat.le_trans hc' h.max
  fit := Nat.le_trans (Nat.add_le_add_left (Nat.mul_le_mul_right sz hc') _) h.fit
  at_ j x hj := by
    rw [List.getElem?_take] at hj
    split at hj
    · exact h.at_ j x hj
    · cases hj
end Go.Proofs.Ytkjljlmoihkijaa
namespace Go.Proofs.Ytkjljlmoihkijaa
open Go.RowKit
def flatW (ws : List (Int × Int)) : List Value := (ws.map wC).flatMap fun w => w.toList
theorem flatW_len : ∀ ws : List (Int × Int), (flatW ws).length = ws.length * 2
  | [] => rfl
  | p :: ws => by
    have := flatW_len ws
    unfold flatW at this ⊢
    rw [List.map_cons, List.flatMap_cons, List.length_append, this]
    show 2 + ws.length * 2 = (ws.length + 1) * 2
    omega
theorem flatW_snoc (a : List (Int × Int)) (p : Int × Int) : flatW (a ++ [p]) = flatW a ++ (wC p).toList := by simp [flatW]
theorem flatW_take : ∀ (ws : List (Int × Int)) (k : Nat), flatW (ws.take k) = (flatW ws).take (k * 2)
  | [], k => by simp [flatW]
  | p :: ws, 0 => by simp [flatW]
  | p :: ws, k + 1 => by
    have := flatW_take ws k
    unfold flatW at this ⊢
    rw [List.take_succ_cons, List.map_cons, List.flatMap_cons, this, Nat.succ_mul]
    rfl
theorem flatW_one {ws : List (Int × Int)} : ∀ u ∈ flatW ws, u.oneCell' = true := by
  intro u hu
  simp only [flatW, List.mem_flatMap, List.mem_map] at hu
  obtain ⟨w, ⟨p, _, rfl⟩, hu⟩ := hu
  simp only [List.mem_cons, List.not_mem_nil, or_false] at hu
  rcases hu with rfl | rfl <;> rfl
def OwnW (cur : Array Value) (off cap : Nat) (ws : List (Int × Int)) : Prop := Own 2 cur off cap ws.length (flatW ws)
theorem OwnW.at_ {cur : Array Value} {off cap : Nat} {ws : List (Int × Int)} (h : OwnW cur off cap ws) {j : Nat} {p : Int × Int} (hj : ws[j]? = some p) : cur[off + j * 2]? = some (.int .i64 p.1) ∧ cur[off + j * 2 + 1]? = some (.int .i64 p.2) := by
  obtain ⟨h0, h1⟩ := flat_pairs hj
  exact ⟨Own.at_ h _ _ h0, Own.at_ h _ _ h1⟩
theorem OwnW.of {cur : Array Value} {off cap : Nat} {ws : List (Int × Int)} (hle : ws.length ≤ cap) (hm : cap ≤ maxLen) (hf : off + cap * 2 ≤ cur.size) (h : ∀ (j : Nat) (p : Int × Int), ws[j]? = some p → cur[off + j * 2]? = some (.int .i64 p.1) ∧ cur[off + j * 2 + 1]? = some (.int .i64 p.2)) : OwnW cur off cap ws := by
  refine ⟨flatW_len ws, hle, hm, hf, fun j x hj => ?_⟩
  have hlt : j < ws.length * 2 := by rw [← flatW_len]; exact (List.getElem?_eq_some_iff.1 hj).1
  have hp : ws[j / 2]? = some (ws[j / 2]'(by omega)) := List.getElem?_eq_getElem _
  obtain ⟨a0, a1⟩ := h _ _ hp
  obtain ⟨b0, b1⟩ := flat_pairs hp
  have hx : (flatW ws)[j]? = some x := hj
  unfold flatW at hx
  rcases Nat.mod_two_eq_zero_or_one j with e | e
  · have ej : j = j / 2 * 2 := by omega
    rw [ej] at hx ⊢
    rw [b0] at hx
    cases hx
    have e2 : j / 2 * 2 / 2 = j / 2 := by omega
    exact a0
  · have ej : j = j / 2 * 2 + 1 := by omega
    rw [ej] at hx ⊢
    rw [b1] at hx
    cases hx
    rw [← Nat.add_assoc]
    exact a1
theorem OwnW.lt {cur : Array Value} {off cap : Nat} {ws : List (Int × Int)} (h : OwnW cur off cap ws) {j : Nat} (hj : j < ws.length) : off + j * 2 + 2 ≤ cur.size := by
  have h1 := Own.fit h
  have h2 := Own.le h
  have : (j + 1) * 2 ≤ cap * 2 := Nat.mul_le_mul_right 2 (by omega)
  omega
theorem OwnW.cell {cur : Array Value} {off cap : Nat} {ws : List (Int × Int)} (h : OwnW cur off cap ws) {j : Nat} {p : Int × Int} (hj : ws[j]? = some p) : cur.extract (off + j * 2) (off + j * 2 + 2) = wC p := by
  obtain ⟨c0, c1⟩ := h.at_ hj
  have hs := h.lt (List.getElem?_eq_some_iff.1 hj).1
  apply Array.ext_getElem?
  intro q
  rw [Array.getElem?_extract]
  match q with
  | 0 => rw [if_pos (by omega)]; exact c0
  | 1 => rw [if_pos (by omega), Nat.add_assoc]; exact c1
  | q + 2 => rw [if_neg (by omega)]; rfl
theorem OwnW.put {cur : Array Value} {off cap : Nat} {ws : List (Int × Int)} (h : OwnW cur off cap ws) {i : Nat} (hi : i < ws.length) (p : Int × Int) : OwnW (putR cur (off + i * 2) (wC p)) off cap (ws.set i p) := by
  have hs := h.lt hi
  have hf : off + i * 2 + (wC p).size ≤ cur.size := hs
  refine OwnW.of (by rw [List.length_set]; exact Own.le h) (Own.max h) (by rw [putR_size _ _ _ hf]; exact Own.fit h) fun j q hj => ?_
  rw [List.getElem?_set] at hj
  by_cases e : i = j
  · subst e
    rw [if_pos rfl, if_pos hi] at hj
    cases hj
    exact ⟨putR_get_in cur (wC p) (off + i * 2) 0 hf (show 0 < 2 by decide), putR_get_in cur (wC p) (off + i * 2) 1 hf (show 1 < 2 by decide)⟩
  · rw [if_neg e] at hj
    obtain ⟨c0, c1⟩ := h.at_ hj
    rw [putR_get_out cur (wC p) (off + i * 2) (off + j * 2) hf (by show _ ∨ off + i * 2 + 2 ≤ _; omega), putR_get_out cur (wC p) (off + i * 2) (off + j * 2 + 1) hf (by show _ ∨ off + i * 2 + 2 ≤ _; omega)]
    exact ⟨c0, c1⟩
theorem OwnW.drop {cur : Array Value} {off cap : Nat} {ws : List (Int × Int)} (h : OwnW cur off cap ws) {k : Nat} (hk : k ≤ ws.length) : OwnW cur (off + k * 2) (cap - k) (ws.drop k) := by
  have h1 := Own.fit h
  have h2 := Own.le h
  have h3 := Own.max h
  have : (cap - k) * 2 + k * 2 = cap * 2 := by rw [← Nat.add_mul]; congr 1; omega
  refine OwnW.of (by rw [List.length_drop]; omega) (by omega) (by omega) fun j p hj => ?_
  rw [List.getElem?_drop] at hj
  obtain ⟨c0, c1⟩ := h.at_ hj
  rw [Nat.add_mul, ← Nat.add_assoc] at c0 c1
  exact ⟨c0, c1⟩
theorem OwnW.take {cur : Array Value} {off cap : Nat} {ws : List (Int × Int)} (h : OwnW cur off cap ws) {k cap' : Nat} (hk : k ≤ ws.length) (hc : k ≤ cap') (hc' : cap' ≤ cap) : OwnW cur off cap' (ws.take k) := by
  have := Own.take h hk hc hc'
  unfold OwnW
  rw [flatW_take, List.length_take, Nat.min_eq_left hk]
  exact this
abbrev VecW (L : List (Nat × Obj)) (v : Value) (ws : List (Int × Int)) : Prop := Vec 2 L v ws.length (flatW ws)
theorem VecW.pairs {L : List (Nat × Obj)} {v : Value} {ws : List (Int × Int)} (h : VecW L v ws) : PairsAt L v ws := by
  obtain ⟨_, a, cap, rfl, _, _, h⟩ := h
  refine ⟨a, cap, rfl, h.imp (fun h => List.eq_nil_of_length_eq_zero h) ?_⟩
  rintro ⟨g, off, cur, E, fr, i, rfl, hi, hc⟩
  refine ⟨g, off, cur, E, fr, i, rfl, hi, fun j p hj => ?_⟩
  obtain ⟨h0, h1⟩ := flat_pairs hj
  have c0 := hc _ _ h0
  have c1 := hc _ _ h1
  have hsz : off + j * 2 + 1 < cur.size := by
    have := (Array.getElem?_eq_some_iff.1 c1).1
    omega
  refine ⟨?_, by omega⟩
  apply Array.ext_getElem?
  intro q
  rw [Array.getElem?_extract]
  match q with
  | 0 => rw [if_pos (by omega)]; exact c0
  | 1 => rw [if_pos (by omega), Nat.add_assoc]; exact c1
  | q + 2 => rw [if_neg (by omega)]; rfl
abbrev BufW (v : Value) (T : List (Nat × Obj)) (ws : List (Int × Int)) : Prop := Buf 30 2 v T ws.length (flatW ws)
theorem BufW.cases_ {v : Value} {T : List (Nat × Obj)} {ws : List (Int × Int)} (h : BufW v T ws) : (ws = [] ∧ v = .slice none 0 0 ∧ T = []) ∨ ∃ g off cap cur, v = .slice (some ⟨g, off, none⟩) ws.length cap ∧ T = [(g, .cells cur 30 (0, 0))] ∧ OwnW cur off cap ws := by
  rcases h with ⟨h1, h2, h3, h4⟩ | ⟨g, off, cap, cur, rfl, rfl, ho⟩
  · exact .inl ⟨List.eq_nil_of_length_eq_zero h2, h3, h4⟩
  · exact .inr ⟨g, off, cap, cur, rfl, rfl, ho⟩
end Go.Proofs.Ytkjljlmoihkijaa
namespace Go.Proofs.Ytkjljlmoihkijaa
open Go.RowKit
theorem Qt_eqlNilS {c : Cx} {s : List (Nat × Value)} {L : List (Nat × Obj)} {o : Oper} {t t' e : TypeId} [hu : TUnd c.P t (.slice e)] {x : Operand} {a : Option Addr} {n cap : Nat} (ho : o.op = .binOp .eql t x (.const (.slice none 0 0)) t') (hx : ev s x = some (.slice a n cap) := by exact rfl) : Qt c s L o (.bool a.isNone) :=
  Qt_of_run (by simp [ho]) (fun ρ hρ w _ => by
    have h2 := Lib.run_eql_slice_nil (P := c.P) w t e a n cap 0 0 hu.h
    have h3 := hρ (.const (.slice none 0 0)) _ rfl
    simp [execOp, ho, hρ x _ hx, h3, eqGuard, h2, Result.andThen])
attribute [local irreducible] Fn WC WL WR OW Qt YieldFn QW FnP FnD
theorem empty_fn {p : Int × Int} {L : List (Nat × Obj)} : Fn Try.prog 14 [.agg (wC p)] L (fun v L' => v = .bool (decide (p.1 ≥ p.2)) ∧ L' = L) := by
  refine Fn_enter Try.func14 rfl Try.ntmps14 rfl fun gw => ?_
  repeat (first | refine RQ ?_ | ((first | refine WL_Q ?_); (first | refine QW_of (Qt_eqlP rfl) ?_ | refine QW_of (Qt_eqlNilS rfl) ?_)) | (refine RE ?_; try intro _) | refine RC ?_ | refine WC_region ?_)
  exact ⟨rfl, _, _, Res1 rfl (resV_tmp rfl), .cons _ (.refl _), rfl, rfl⟩
theorem alikeW_fn {p q : Int × Int} {L : List (Nat × Obj)} : Fn Try.prog 19 [.agg (wC p), .agg (wC q)] L (fun v L' => v = .bool (p.1 == q.1 && p.2 == q.2) ∧ L' = L) := by
  refine Fn_enter Try.func19 rfl Try.ntmps19 rfl fun gw => ?_
  repeat (first | refine RQ ?_ | ((first | refine WL_Q ?_); (first | refine QW_of (Qt_eqlP rfl) ?_ | refine QW_of (Qt_eqlNilS rfl) ?_)) | (refine RE ?_; try intro _) | refine RC ?_ | refine WC_region ?_)
  exact ⟨rfl, _, _, Res1 rfl (resV_tmp rfl), .cons _ (.cons _ (.refl _)), rfl, rfl⟩
set_option maxHeartbeats 2000000 in
theorem cloneW_fn {v : Value} {ws : List (Int × Int)} (hn : ws.length ≤ 100000) {L : List (Nat × Obj)} (hv : VecW L v ws) : Fn Try.prog 13 [v] L (fun r L' => ∃ T, BufW r T ws ∧ L' = T ++ L) := by
  obtain ⟨_, a1, cap1, rfl, hle, hm, hor⟩ := id hv
  refine Fn_enter Try.func13 rfl Try.ntmps13 rfl fun gw => ?_
  cases a1 with
  | none =>
    have hnil : ws = [] := by
      rcases hor with h | ⟨_, _, _, _, _, _, h, _⟩
      · exact List.eq_nil_of_length_eq_zero h
      · cases h
    repeat (first | refine RQ ?_ | ((first | refine WL_Q ?_); (first | refine QW_of (Qt_eqlP rfl) ?_ | refine QW_of (Qt_eqlNilS rfl) ?_)) | refine RC ?_ | refine WC_region (id := 0) ?_ | refine WC_region (id := 1) ?_ | refine WC_region (id := 2) ?_)
    exact ⟨rfl, _, _, Res1 rfl (resV_tmp rfl), .refl _, [], .inl ⟨by rw [hnil]; rfl, by rw [hnil]; rfl, rfl, rfl⟩, rfl⟩
  | some a =>
    have dS : (some a).isNone = false := rfl
    repeat (first | refine RQ ?_ | ((first | refine WL_Q ?_); (first | refine QW_of (Qt_eqlP rfl) ?_ | refine QW_of (Qt_eqlNilS rfl) ?_)) | (refine RE ?_; try intro _) | refine RC ?_ | refine WC_region (id := 0) ?_ | refine WC_region (id := 1) ?_ | refine WC_region (id := 3) ?_)
    refine WL_op rfl (OW_append_own rfl rfl rfl rfl rfl 0 rfl (xs := []) (n := 0) (cap := 0) ⟨rfl, Nat.le_refl _, by decide, Nat.le_refl _, fun j x hj => by simp at hj⟩ (srcVec (Vec.cons _ hv) flatW_one) (by simp only [maxLen]; omega) (by omega) ?_)
    intro b1 off1 cap2 cur1 hown
    simp only [List.set_cons_zero]
    repeat (first | refine RQ ?_ | ((first | refine WL_Q ?_); (first | refine QW_of (Qt_eqlP rfl) ?_ | refine QW_of (Qt_eqlNilS rfl) ?_)) | (refine RE ?_; try intro _) | refine RC ?_ | refine WC_region (id := 3) ?_)
    have h0 : 0 + ws.length = ws.length := Nat.zero_add _
    rw [h0]
    rw [h0, List.nil_append] at hown
    exact ⟨rfl, _, _, Res1 rfl (resV_tmp rfl), .refl _, _, .inr ⟨b1, off1, cap2, cur1, rfl, rfl, hown⟩, rfl⟩
end Go.Proofs.Ytkjljlmoihkijaa
namespace Go.Proofs.Ytkjljlmoihkijaa
open Go.RowKit
theorem OW_clear {c : Cx} {o : Oper} {Kn : St → Prop} {K : Exit → St → Prop} {s : List (Nat × Value)} {D : List Deferred} {L : List (Nat × Obj)} {t E : TypeId} {zv : Value} {x : Operand} {g off n cap : Nat} {cs : Array Value} {E' : TypeId} [hu : TUnd c.P t (.slice E)] [hz : TZero c.P E zv]
    (ho : o.op = .call { callee := .builtin .clear, args := #[x], argTypes := #[t] }) (hdst : o.dst = none) (hx : ev s x = some (.slice (some ⟨g, off, none⟩) n cap)) (i : Nat) (hi : L[i]? = some (g, .cells cs E' (0, 0))) {sz : Nat} (hzs : zv.cells.size = sz) (h1 : ∀ u ∈ zv.cells, u.oneCell' = true) (hfit : n = 0 ∨ off + n * sz ≤ cs.size)
    (hk : ∀ cs' : Array Value, cs'.size = cs.size → (∀ k, k < off ∨ n = 0 → cs'[k]? = cs[k]?) → Kn ⟨s, D, L.set i (g, .cells cs' E' (0, 0))⟩) : OW c o Kn K ⟨s, D, L⟩ := fun a w ha => by
  refine ⟨fun _ _ => trivial, ?_⟩
  rcases Nat.eq_zero_or_pos n with rfl | hn
  · have hr : (execOp a.eval o).run c.P w = .ok (.value (.tuple #[])) w := by
      simp [execOp, ho, resolve, invoke, builtin, Builtin.clear_, ha.ev hx, run_underlying hu.h]
    rw [Oper.semAt_eq _ _ _ (by rw [ho]; intro cc h; cases h), hr]
    have hself : L.set i (g, .cells cs E' (0, 0)) = L := by
      apply List.ext_getElem?
      intro j
      rw [List.getElem?_set]
      by_cases e : i = j
      · subst e
        rw [if_pos rfl, if_pos (List.getElem?_eq_some_iff.1 hi).1, hi]
      · rw [if_neg e]
    have hk' := hk cs rfl (fun _ _ => rfl)
    rw [hself] at hk'
    exact ⟨_, by rw [hdst]; exact ha, hk'⟩
  · have hf : off + n * sz ≤ cs.size := hfit.resolve_left (by omega)
    have hsz : (Builtin.zeroCells zv.cells n).size = n * sz := by rw [size_zeroCells, hzs]
    have hones : ∀ u ∈ (Builtin.zeroCells zv.cells n).toList, u.oneCell' = true := fun u hu => by
      simp only [Builtin.zeroCells, Array.toList_map, List.mem_map] at hu
      obtain ⟨k, hk, rfl⟩ := hu
      have hk' : k < n * zv.cells.size := by simpa using hk
      have hpos : 0 < zv.cells.size := by
        rcases Nat.eq_zero_or_pos zv.cells.size with e | e
        · rw [e] at hk'; simp at hk'
        · exact e
      have hlt : k % zv.cells.size < zv.cells.size := Nat.mod_lt _ hpos
      rw [getElem!_pos zv.cells (k % zv.cells.size) hlt]
      exact h1 _ (Array.getElem_mem hlt)
    have hst := run_storeCells_at (P := c.P) g off E' (Builtin.zeroCells zv.cells n).toList 0 cs w (ha.mem.at_ hi) (by rw [Array.length_toList, hsz]; omega) hones
    simp only [Nat.add_zero, Array.length_toList] at hst
    have hr : (execOp a.eval o).run c.P w = .ok (.value (.tuple #[])) (w.setRow g (putR cs off (Builtin.zeroCells zv.cells n))) := by
      obtain ⟨m, rfl⟩ : ∃ m, n = m + 1 := ⟨n - 1, by omega⟩
      simp [execOp, ho, resolve, invoke, builtin, Builtin.clear_, ha.ev hx, run_underlying hu.h, hz.h, hst, putR]
    rw [Oper.semAt_eq _ _ _ (by rw [ho]; intro cc h; cases h), hr]
    refine ⟨_, ?_, hk (putR cs off (Builtin.zeroCells zv.cells n)) (putR_size _ _ _ (by rw [hsz]; exact hf)) (fun k hk => putR_get_out _ _ _ _ (by rw [hsz]; exact hf) (.inl (hk.resolve_right (by omega))))⟩
    rw [hdst]
    exact ha.mem' (ha.mem.setRow hi _)
end Go.Proofs.Ytkjljlmoihkijaa
namespace Go.Proofs.Ytkjljlmoihkijaa
open Go.RowKit
def FirstE (ws : List (Int × Int)) (i : Int) : Prop := (i = -1 ∧ ∀ p ∈ ws, p.1 < p.2) ∨ ∃ k : Nat, i = k ∧ k < ws.length ∧ (∀ (a : Nat) q, a < k → ws[a]? = some q → q.1 < q.2) ∧ ∃ q, ws[k]? = some q ∧ ¬ q.1 < q.2
attribute [local irreducible] Fn WC WL WR OW Qt YieldFn QW FnP FnD
set_option maxHeartbeats 2000000 in
theorem indexF_fn {v : Value} {ws : List (Int × Int)} (hn : ws.length ≤ 100000) {L : List (Nat × Obj)} (hv : VecW L v ws) : Fn Try.prog 24 [v, .func (.func 14) #[] #[]] L (fun r L' => (∃ i, FirstE ws i ∧ r = .int .i64 i) ∧ L' = L) := by
  obtain ⟨a1, cap1, rfl, h1⟩ := hv.pairs
  refine Fn_enter Try.func24 rfl Try.ntmps24 rfl fun gw => ?_
  repeat (first | refine RQ ?_ | ((first | refine WL_Q ?_); (first | refine QW_of (Qt_ldX rfl (hn := by with_reducible assumption)) ?_)) | refine RC ?_ | refine WC_region (id := 0) ?_ | refine WC_region (id := 1) ?_)
  refine WC_wk [(8, .int .i64 0), (7, .int .i64 (ws.length : Nat)), (0, .slice a1 ws.length cap1), (1, .func (.func 14) #[] #[])] ⟨rfl, rfl, rfl, rfl, trivial⟩ ?_
  refine WC_loop (fun m σ => ∃ i : Nat, m = ws.length - i ∧ i ≤ ws.length ∧ (∀ (a : Nat) q, a < i → ws[a]? = some q → q.1 < q.2) ∧ σ = ⟨[(8, .int .i64 i), (7, .int .i64 (ws.length : Nat)), (0, .slice a1 ws.length cap1), (1, .func (.func 14) #[] #[])], [], L⟩) ws.length ⟨0, by omega, by omega, fun a q h => by omega, rfl⟩ ?_
  rintro m σ ⟨i, rfl, hi, hB, rfl⟩
  by_cases hlt : i < ws.length
  · have d2 : decide ((i : Int) < ((ws.length : Nat) : Int)) = true := decide_eq_true (by omega)
    obtain ⟨p, hp⟩ : ∃ p, ws[i]? = some p := ⟨_, List.getElem?_eq_getElem hlt⟩
    have hne : ws ≠ [] := by intro e; rw [e] at hlt; simp at hlt
    obtain ⟨g1, o1, cu1, E1, fr1, i1, rfl, hi1, hc1⟩ := h1.resolve_left hne
    obtain ⟨x1, z1⟩ := hc1 i p hp
    have p0 : (0 : Int) ≤ (i : Int) := by omega
    have p1 : ((i : Nat) : Int) < ((ws.length : Nat) : Int) := by omega
    have y1 : o1 + ((i : Nat) : Int).toNat * 2 + 2 ≤ cu1.size := by rw [Int.toNat_natCast]; exact z1
    have v1 : cu1.extract (o1 + ((i : Nat) : Int).toNat * 2) (o1 + ((i : Nat) : Int).toNat * 2 + 2) = wC p := by rw [Int.toNat_natCast]; exact x1
    have w : IntKind.i64.wrap ((i : Int) + 1) = ((i + 1 : Nat) : Int) := by rw [wI64 (by omega) (by omega)]; omega
    repeat (first | refine RQ ?_ | ((first | refine WL_Q ?_); (first | refine QW_of (Qt_ldX rfl (hn := by with_reducible assumption)) ?_)) | refine RC ?_ | refine WC_region (id := 2) ?_ | refine WC_region (id := 3) ?_ | refine WC_region (id := 4) ?_)
    rw [v1]
    refine WL_op rfl (OW_callv rfl rfl rfl rfl rfl (empty_fn (p := p)) ?_)
    rintro _ _ ⟨rfl, rfl⟩
    by_cases hpe : p.1 ≥ p.2
    · have d3 : decide (p.1 ≥ p.2) = true := decide_eq_true hpe
      repeat (first | refine RQ ?_ | ((first | refine WL_Q ?_); (first | refine QW_of (Qt_ldX rfl (hn := by with_reducible assumption)) ?_)) | refine RC ?_ | refine WC_region (id := 4) ?_ | refine WC_region (id := 5) ?_)
      exact ⟨rfl, _, _, Res1 rfl (resV_tmp rfl), .refl _, ⟨_, .inr ⟨i, rfl, hlt, hB, p, hp, by omega⟩, rfl⟩, rfl⟩
    · have d3 : decide (p.1 ≥ p.2) = false := decide_eq_false hpe
      repeat (first | refine RQ ?_ | ((first | refine WL_Q ?_); (first | refine QW_of (Qt_ldX rfl (hn := by with_reducible assumption)) ?_)) | refine RC ?_ | refine WC_region (id := 4) ?_ | refine WC_region (id := 6) ?_)
      rw [w]
      refine ⟨_, _, by omega, ⟨i + 1, rfl, by omega, fun a q ha hq => ?_, rfl⟩, ⟨rfl, rfl, rfl, rfl, trivial⟩, rfl, .refl _⟩
      rcases Nat.lt_or_ge a i with g | g
      · exact hB a q g hq
      · obtain rfl : a = i := by omega
        rw [hp] at hq
        cases hq
        omega
  · have d2 : decide ((i : Int) < ((ws.length : Nat) : Int)) = false := decide_eq_false (by omega)
    repeat (first | refine RQ ?_ | ((first | refine WL_Q ?_); (first | refine QW_of (Qt_ldX rfl (hn := by with_reducible assumption)) ?_)) | refine RC ?_ | refine WC_region (id := 2) ?_ | refine WC_region (id := 7) ?_)
    refine ⟨rfl, _, _, Res1 rfl (resV_tmp rfl), .refl _, ⟨_, .inl ⟨rfl, fun p hp => ?_⟩, rfl⟩, rfl⟩
    obtain ⟨a, ha⟩ := List.mem_iff_getElem?.1 hp
    exact hB a p (Nat.lt_of_lt_of_le (List.getElem?_eq_some_iff.1 ha).1 (by omega)) ha
abbrev fullW (p : Int × Int) : Bool := decide (p.1 < p.2)
set_option maxHeartbeats 4000000 in
theorem deleteF_fn {v : Value} {T : List (Nat × Obj)} {ws : List (Int × Int)} (hn : ws.length ≤ 100000) (hb : BufW v T ws) {L : List (Nat × Obj)} : Fn Try.prog 12 [v, .func (.func 14) #[] #[]] (T ++ L) (fun r L' => ∃ T', BufW r T' (ws.filter fullW) ∧ L' = T' ++ L) := by
  refine Fn_enter Try.func12 rfl Try.ntmps12 rfl fun gw => ?_
  repeat (first | refine RQ ?_ | ((first | refine WL_Q ?_); (first | refine QW_of (Qt_ldX rfl (hn := by with_reducible assumption)) ?_)) | ((first | refine WL_op rfl ?_); (first | (refine OW_call rfl (hF := indexF_fn hn (hb.vec0 L)) (hk := ?_); rintro _ _ ⟨⟨i0, hF, rfl⟩, rfl⟩))) | refine RC ?_ | refine WC_region (id := 0) ?_ | refine WC_region (id := 1) ?_ | refine WC_region (id := 2) ?_)
  rcases hF with ⟨rfl, hall⟩ | ⟨k, rfl, hk, hB, q, hq, hqe⟩
  · have dI : ((-1 : Int) == -1) = true := rfl
    repeat (first | refine RQ ?_ | ((first | refine WL_Q ?_); (first | refine QW_of (Qt_ldX rfl (hn := by with_reducible assumption)) ?_)) | refine RC ?_ | refine WC_region (id := 2) ?_ | refine WC_region (id := 3) ?_)
    refine ⟨rfl, _, T ++ L, Res1 rfl (resV_tmp rfl), .refl _, T, ?_, rfl⟩
    rw [List.filter_eq_self.2 (fun p hp => by simpa [fullW] using hall p hp)]
    exact hb
  obtain ⟨g, off, cap, cur, rfl, rfl, ho⟩ := (BufW.cases_ hb).resolve_left (fun h => by rw [h.1] at hk; simp at hk)
  have dI : (((k : Nat) : Int) == -1) = false := by simp
  have wk : IntKind.i64.wrap ((k : Int) + 1) = ((k + 1 : Nat) : Int) := by rw [wI64 (by omega) (by omega)]; omega
  repeat (first | refine RQ ?_ | ((first | refine WL_Q ?_); (first | refine QW_of (Qt_ldX rfl (hn := by with_reducible assumption)) ?_)) | refine RC ?_ | refine WC_region (id := 2) ?_ | refine WC_region (id := 4) ?_)
  rw [wk]
  have hinit : ws.take k = (ws.take (k + 1)).filter fullW := by
    rw [List.take_add_one, hq, List.filter_append]
    simp only [Option.toList_some]
    rw [List.filter_cons_of_neg (by simpa [fullW] using hqe), List.filter_nil, List.append_nil, List.filter_eq_self.2]
    intro p hp
    obtain ⟨a, ha⟩ := List.mem_iff_getElem?.1 hp
    rw [List.getElem?_take] at ha
    split at ha
    · rename_i hak
      simpa [fullW] using hB a p hak ha
    · cases ha
  refine WC_wk [(6, .int .i64 ((k + 1 : Nat) : Int)), (5, .int .i64 k), (0, .slice (some ⟨g, off, none⟩) ws.length cap), (1, .func (.func 14) #[] #[])] ⟨rfl, rfl, rfl, rfl, trivial⟩ ?_
  refine WC_loop (fun m σ => ∃ (i j : Nat) (row : List (Int × Int)) (cur' : Array Value), m = ws.length - j ∧ i < j ∧ j ≤ ws.length ∧ row.length = ws.length ∧ row.take i = (ws.take j).filter fullW ∧ (∀ a, j ≤ a → row[a]? = ws[a]?) ∧ OwnW cur' off cap row ∧ σ = ⟨[(6, .int .i64 j), (5, .int .i64 i), (0, .slice (some ⟨g, off, none⟩) ws.length cap), (1, .func (.func 14) #[] #[])], [], (g, .cells cur' 30 (0, 0)) :: L⟩) (ws.length - (k + 1)) ⟨k, k + 1, ws, cur, rfl, by omega, by omega, rfl, hinit, fun _ _ => rfl, ho, rfl⟩ ?_
  rintro m σ ⟨i, j, row, cur', rfl, hij, hj, hrl, hpre, hrest, hown, rfl⟩
  by_cases hlt : j < ws.length
  · have d2 : decide ((j : Int) < ((ws.length : Nat) : Int)) = true := decide_eq_true (by omega)
    obtain ⟨p, hp⟩ : ∃ p, ws[j]? = some p := ⟨_, List.getElem?_eq_getElem hlt⟩
    have hpr : row[j]? = some p := (hrest j (Nat.le_refl _)).trans hp
    have p0 : (0 : Int) ≤ (j : Int) := by omega
    have p1 : ((j : Nat) : Int) < ((ws.length : Nat) : Int) := by omega
    have y1 : off + ((j : Nat) : Int).toNat * 2 + 2 ≤ cur'.size := by rw [Int.toNat_natCast]; exact hown.lt (by omega)
    have v1 : cur'.extract (off + ((j : Nat) : Int).toNat * 2) (off + ((j : Nat) : Int).toNat * 2 + 2) = wC p := by rw [Int.toNat_natCast]; exact hown.cell hpr
    have q0 : (0 : Int) ≤ (i : Int) := by omega
    have q1 : ((i : Nat) : Int) < ((ws.length : Nat) : Int) := by omega
    have y2 : off + ((i : Nat) : Int).toNat * 2 + 2 ≤ cur'.size := by rw [Int.toNat_natCast]; exact hown.lt (by omega)
    have wj : IntKind.i64.wrap ((j : Int) + 1) = ((j + 1 : Nat) : Int) := by rw [wI64 (by omega) (by omega)]; omega
    have wi : IntKind.i64.wrap ((i : Int) + 1) = ((i + 1 : Nat) : Int) := by rw [wI64 (by omega) (by omega)]; omega
    have htk : ws.take (j + 1) = ws.take j ++ [p] := by rw [List.take_add_one, hp]; rfl
    repeat (first | refine RQ ?_ | ((first | refine WL_Q ?_); (first | refine QW_of (Qt_ldX rfl (hn := by with_reducible assumption)) ?_)) | (refine RE ?_; try intro _) | refine RC ?_ | refine WC_region (id := 5) ?_ | refine WC_region (id := 7) ?_)
    rw [v1]
    repeat (first | refine RQ ?_ | ((first | refine WL_Q ?_); (first | refine QW_of (Qt_ldX rfl (hn := by with_reducible assumption)) ?_)) | (refine RE ?_; try intro _) | refine RC ?_ | refine WC_region (id := 7) ?_ | refine WC_region (id := 8) ?_)
    refine WL_op rfl (OW_callv rfl rfl rfl rfl rfl (empty_fn (p := p)) ?_)
    rintro _ _ ⟨rfl, rfl⟩
    by_cases hpe : p.1 < p.2
    · have d3 : (!decide (p.1 ≥ p.2)) = true := by simp; omega
      repeat (first | refine RQ ?_ | ((first | refine WL_Q ?_); (first | refine QW_of (Qt_ldX rfl (hn := by with_reducible assumption)) ?_)) | (refine RE ?_; try intro _) | refine RC ?_ | refine WC_region (id := 8) ?_ | refine WC_region (id := 9) ?_ | refine WC_region (id := 10) ?_ | refine WC_region (id := 6) ?_)
      rw [wi, wj]
      have hil : i < row.length := by omega
      have hput : OwnW (putR cur' (off + ((i : Nat) : Int).toNat * 2) (wC p)) off cap (row.set i p) := hown.put hil p
      refine ⟨_, _, by omega, ⟨i + 1, j + 1, row.set i p, _, rfl, by omega, by omega, by rw [List.length_set]; exact hrl, ?_, fun a ha => ?_, hput, rfl⟩, ⟨rfl, rfl, rfl, rfl, trivial⟩, rfl, .cons _ (.refl _)⟩
      · rw [htk, List.filter_append, List.filter_cons_of_pos (by simpa [fullW] using hpe), List.filter_nil, ← hpre, List.take_add_one, List.getElem?_set_self hil, List.take_set_of_le (Nat.le_refl _)]
        rfl
      · rw [List.getElem?_set_ne (by omega)]
        exact hrest a (by omega)
    · have d3 : (!decide (p.1 ≥ p.2)) = false := by simp; omega
      repeat (first | refine RQ ?_ | ((first | refine WL_Q ?_); (first | refine QW_of (Qt_ldX rfl (hn := by with_reducible assumption)) ?_)) | refine RC ?_ | refine WC_region (id := 8) ?_ | refine WC_region (id := 6) ?_)
      rw [wj]
      refine ⟨_, _, by omega, ⟨i, j + 1, row, cur', rfl, by omega, by omega, hrl, ?_, fun a ha => hrest a (by omega), hown, rfl⟩, ⟨rfl, rfl, rfl, rfl, trivial⟩, rfl, .cons _ (.refl _)⟩
      rw [htk, List.filter_append, List.filter_cons_of_neg (by simpa [fullW] using hpe), List.filter_nil, List.append_nil]
      exact hpre
  · have d2 : decide ((j : Int) < ((ws.length : Nat) : Int)) = false := decide_eq_false (by omega)
    have hcap := Own.le ho
    have i0 : (0 : Int) ≤ ((i : Nat) : Int) := by omega
    have i1 : ((i : Nat) : Int) ≤ ((cap : Nat) : Int) := by omega
    obtain rfl : j = ws.length := by omega
    have hfl : (ws.filter fullW) = row.take i := by rw [hpre, List.take_of_length_le (Nat.le_refl _)]
    have hfz := hown.drop (k := i) (by omega)
    repeat (first | refine RQ ?_ | ((first | refine WL_Q ?_); (first | refine QW_of (Qt_ldX rfl (hn := by with_reducible assumption)) ?_)) | refine RC ?_ | refine WC_region (id := 5) ?_ | refine WC_region (id := 11) ?_)
    refine WL_op rfl (OW_clear (sz := 2) rfl rfl rfl 0 rfl rfl (Array.all_eq_true_iff_forall_mem.1 (by kernel_rfl)) ?_ ?_)
    · rcases Nat.lt_or_ge i ws.length with g1 | g1
      · right
        have := Own.fit hown
        have e : slOff cap ((i : Nat) : Int).toNat off 2 = off + i * 2 := by rw [Int.toNat_natCast]; unfold slOff; rw [if_neg (by omega)]
        rw [e, Int.toNat_natCast]
        have : (ws.length - i) * 2 + i * 2 = ws.length * 2 := by omega
        have : ws.length * 2 ≤ cap * 2 := Nat.mul_le_mul_right 2 hcap
        omega
      · left
        rw [Int.toNat_natCast]; omega
    intro cs' hcs hkeep
    simp only [List.set_cons_zero]
    repeat (first | refine RQ ?_ | ((first | refine WL_Q ?_); (first | refine QW_of (Qt_ldX rfl (hn := by with_reducible assumption)) ?_)) | refine RC ?_ | refine WC_region (id := 12) ?_)
    have hti : (row.take i).length = i := by rw [List.length_take]; omega
    have hfin : OwnW cs' off cap (row.take i) := by
      have ht := hown.take (k := i) (cap' := cap) (by omega) (by omega) (Nat.le_refl _)
      refine OwnW.of (by rw [hti]; omega) (Own.max ht) (by rw [hcs]; exact Own.fit ht) fun a p hp => ?_
      obtain ⟨c0, c1⟩ := ht.at_ hp
      have ha : a < i := by rw [← hti]; exact (List.getElem?_eq_some_iff.1 hp).1
      have hside : ∀ x, x < off + i * 2 → x < slOff cap ((i : Nat) : Int).toNat off 2 ∨ ws.length - ((i : Nat) : Int).toNat = 0 := fun x hx => by
        rw [Int.toNat_natCast]
        rcases Nat.lt_or_ge i ws.length with g1 | g1
        · left; unfold slOff; rw [if_neg (by omega)]; exact hx
        · right; omega
      rw [hkeep _ (hside _ (by omega)), hkeep _ (hside _ (by omega))]
      exact ⟨c0, c1⟩
    rw [hfl]
    exact ⟨rfl, _, _, Res1 rfl (resV_tmp rfl), .refl _, _, .inr ⟨g, off, cap, cs', congrArg (fun n => Value.slice (some ⟨g, off, none⟩) n cap) hti.symm, rfl, hfin⟩, rfl⟩
end Go.Proofs.Ytkjljlmoihkijaa
namespace Go.Proofs.Ytkjljlmoihkijaa
open Go.RowKit
def Same' (a b : List (Int × Int)) : Prop := a.Sublist b ∧ ∀ p, p ∈ b → p ∈ a
theorem Same'.same {a b : List (Int × Int)} {p : Int × Int} (h : Same' a b) (hp : p ∈ b) : Same' a (b ++ [p]) :=
  ⟨h.1.trans (List.sublist_append_left _ _), fun q hq => by
    rcases List.mem_append.1 hq with g | g
    · exact h.2 q g
    · obtain rfl : q = p := by simpa using g
      exact h.2 q hp⟩
theorem Same'.more {a b : List (Int × Int)} {p : Int × Int} (h : Same' a b) : Same' (a ++ [p]) (b ++ [p]) :=
  ⟨h.1.append (.refl _), fun q hq => by
    rcases List.mem_append.1 hq with g | g
    · exact List.mem_append_left _ (h.2 q g)
    · exact List.mem_append_right _ g⟩
attribute [local irreducible] Fn WC WL WR OW Qt YieldFn QW FnP FnD
set_option maxHeartbeats 4000000 in
theorem compactF_fn {v : Value} {T : List (Nat × Obj)} {ws : List (Int × Int)} (hn : ws.length ≤ 100000) (hb : BufW v T ws) {L : List (Nat × Obj)} : Fn Try.prog 18 [v, .func (.func 19) #[] #[]] (T ++ L) (fun r L' => ∃ T' ws', Same' ws' ws ∧ BufW r T' ws' ∧ L' = T' ++ L) := by
  refine Fn_enter Try.func18 rfl Try.ntmps18 rfl fun gw => ?_
  by_cases h2 : ws.length < 2
  · obtain ⟨av, capv, rfl, hle, hm⟩ := Buf.val hb
    have d0 : decide (((ws.length : Nat) : Int) < 2) = true := decide_eq_true (by omega)
    repeat (first | refine RQ ?_ | ((first | refine WL_Q ?_); (first | refine QW_of (Qt_ldX rfl (hn := by with_reducible assumption)) ?_)) | refine RC ?_ | refine WC_region (id := 0) ?_ | refine WC_region (id := 1) ?_ | refine WC_region (id := 2) ?_)
    exact ⟨rfl, _, T ++ L, Res1 rfl (resV_tmp rfl), .refl _, T, ws, ⟨.refl _, fun _ h => h⟩, hb, rfl⟩
  obtain ⟨g, off, cap, cur, rfl, rfl, ho⟩ := (BufW.cases_ hb).resolve_left (fun h => by rw [h.1] at h2; simp at h2)
  have d0 : decide (((ws.length : Nat) : Int) < 2) = false := decide_eq_false (by omega)
  repeat (first | refine RQ ?_ | ((first | refine WL_Q ?_); (first | refine QW_of (Qt_ldX rfl (hn := by with_reducible assumption)) ?_)) | refine RC ?_ | refine WC_region (id := 0) ?_ | refine WC_region (id := 1) ?_ | refine WC_region (id := 3) ?_)
  refine WC_wk [(5, .int .i64 1), (0, .slice (some ⟨g, off, none⟩) ws.length cap), (1, .func (.func 19) #[] #[])] ⟨rfl, rfl, rfl, trivial⟩ ?_
  refine WC_loop (fun m σ => ∃ k : Nat, m = ws.length - k ∧ 1 ≤ k ∧ k ≤ ws.length ∧ σ = ⟨[(5, .int .i64 k), (0, .slice (some ⟨g, off, none⟩) ws.length cap), (1, .func (.func 19) #[] #[])], [], (g, .cells cur 30 (0, 0)) :: L⟩) (ws.length - 1) ⟨1, rfl, by omega, by omega, rfl⟩ ?_
  rintro m σ ⟨k, rfl, hk1, hkn, rfl⟩
  by_cases hlt : k < ws.length
  · have d2 : decide ((k : Int) < ((ws.length : Nat) : Int)) = true := decide_eq_true (by omega)
    obtain ⟨p, hp⟩ : ∃ p, ws[k]? = some p := ⟨_, List.getElem?_eq_getElem hlt⟩
    obtain ⟨q, hq⟩ : ∃ q, ws[k - 1]? = some q := ⟨_, List.getElem?_eq_getElem (by omega)⟩
    have w1 : IntKind.i64.wrap ((k : Int) - 1) = ((k - 1 : Nat) : Int) := by rw [wI64 (by omega) (by omega)]; omega
    have p0 : (0 : Int) ≤ (k : Int) := by omega
    have p1 : ((k : Nat) : Int) < ((ws.length : Nat) : Int) := by omega
    have y1 : off + ((k : Nat) : Int).toNat * 2 + 2 ≤ cur.size := by rw [Int.toNat_natCast]; exact ho.lt hlt
    have v1 : cur.extract (off + ((k : Nat) : Int).toNat * 2) (off + ((k : Nat) : Int).toNat * 2 + 2) = wC p := by rw [Int.toNat_natCast]; exact ho.cell hp
    have q0 : (0 : Int) ≤ IntKind.i64.wrap ((k : Int) - 1) := by rw [w1]; omega
    have q1 : IntKind.i64.wrap ((k : Int) - 1) < ((ws.length : Nat) : Int) := by rw [w1]; omega
    have y2 : off + (IntKind.i64.wrap ((k : Int) - 1)).toNat * 2 + 2 ≤ cur.size := by rw [w1, Int.toNat_natCast]; exact ho.lt (by omega)
    have v2 : cur.extract (off + (IntKind.i64.wrap ((k : Int) - 1)).toNat * 2) (off + (IntKind.i64.wrap ((k : Int) - 1)).toNat * 2 + 2) = wC q := by rw [w1, Int.toNat_natCast]; exact ho.cell hq
    have wk : IntKind.i64.wrap ((k : Int) + 1) = ((k + 1 : Nat) : Int) := by rw [wI64 (by omega) (by omega)]; omega
    repeat (first | refine RQr ?_ | ((first | refine WL_Q ?_ | refine WR_Q rfl ?_ | refine WR_late rfl rfl rfl (OW_Q ?_)); (first | refine QW_of (Qt_ldX rfl (hn := by with_reducible assumption)) ?_)) | refine RC ?_ | refine RU ?_ | refine WC_draw_all (id := 6) 11 (.calm 0 <| .calm 1 <| .calm 2 <| .calm 3 <| .calm 4 <| .calm 5 <| .calm 6 <| .calm 7 <| .calm 8 <| .calm 9 <| .must 10 <| .done) mixed (by kernel_rfl) ?_ | refine WC_region (id := 4) ?_)
    rw [v1, v2]
    refine WR_op rfl rfl (OW_callv rfl rfl rfl rfl rfl (alikeW_fn (p := p) (q := q)) ?_)
    rintro _ _ ⟨rfl, rfl⟩
    refine ⟨fun _ h => h, ?_⟩
    by_cases hpq : p = q
    · have d3 : (p.1 == q.1 && p.2 == q.2) = true := by rw [hpq]; simp
      have hcap := Own.le ho
      have hke : ((k : Nat) : Int) ≤ ((ws.length : Nat) : Int) := by omega
      repeat (first | refine RQr ?_ | ((first | refine WL_Q ?_ | refine WR_Q rfl ?_ | refine WR_late rfl rfl rfl (OW_Q ?_)); (first | refine QW_of (Qt_ldX rfl (hn := by with_reducible assumption)) ?_)) | refine RC ?_ | refine RU ?_ | refine WC_draw_all (id := 6) 11 (.calm 0 <| .calm 1 <| .calm 2 <| .calm 3 <| .calm 4 <| .calm 5 <| .calm 6 <| .calm 7 <| .calm 8 <| .calm 9 <| .must 10 <| .done) mixed (by kernel_rfl) ?_ | refine WC_region (id := 7) ?_ | refine WC_region (id := 8) ?_)
      have hsl : slOff cap ((k : Nat) : Int).toNat off 2 = off + k * 2 := by rw [Int.toNat_natCast]; unfold slOff; rw [if_neg (by omega)]
      rw [hsl]
      refine WC_wk [(7, .int .i64 1), (6, .slice (some ⟨g, off + k * 2, none⟩) (ws.length - k) (cap - k)), (5, .int .i64 k), (0, .slice (some ⟨g, off, none⟩) ws.length cap), (1, .func (.func 19) #[] #[])] ⟨rfl, rfl, rfl, rfl, rfl, trivial⟩ ?_
      have hini : Same' (ws.take k) (ws.take (k + 1)) := by
        rw [List.take_add_one, hp]
        refine Same'.same (p := p) ⟨.refl _, fun _ h => h⟩ ?_
        rw [hpq]
        exact List.mem_iff_getElem?.2 ⟨k - 1, by rw [List.getElem?_take, if_pos (by omega)]; exact hq⟩
      refine WC_loop (fun m σ => ∃ (j i : Nat) (row : List (Int × Int)) (cur' : Array Value), m = (ws.length - k) - j ∧ 1 ≤ j ∧ j ≤ ws.length - k ∧ i < k + j ∧ row.length = ws.length ∧ Same' (row.take i) (ws.take (k + j)) ∧ (∀ a, k + j - 1 ≤ a → row[a]? = ws[a]?) ∧ OwnW cur' off cap row ∧ σ = ⟨[(7, .int .i64 j), (6, .slice (some ⟨g, off + k * 2, none⟩) (ws.length - k) (cap - k)), (5, .int .i64 i), (0, .slice (some ⟨g, off, none⟩) ws.length cap), (1, .func (.func 19) #[] #[])], [], (g, .cells cur' 30 (0, 0)) :: L⟩) ((ws.length - k) - 1) ⟨1, k, ws, cur, rfl, by omega, by omega, by omega, rfl, hini, fun _ _ => rfl, ho, rfl⟩ ?_
      clear v1 v2 q0 q1 y1 y2 p0 p1 w1 hp hq
      rintro m σ ⟨j, i, row, cur', rfl, hj1, hjn, hij, hrl, hpre, hrest, hown, rfl⟩
      by_cases hjt : j < ws.length - k
      · have d4 : decide ((j : Int) < ((ws.length - k : Nat) : Int)) = true := decide_eq_true (by omega)
        obtain ⟨a, ha⟩ : ∃ a, ws[k + j]? = some a := ⟨_, List.getElem?_eq_getElem (by omega)⟩
        obtain ⟨b, hb'⟩ : ∃ b, ws[k + j - 1]? = some b := ⟨_, List.getElem?_eq_getElem (by omega)⟩
        have har : row[k + j]? = some a := (hrest _ (by omega)).trans ha
        have hbr : row[k + j - 1]? = some b := (hrest _ (by omega)).trans hb'
        have w1 : IntKind.i64.wrap ((j : Int) - 1) = ((j - 1 : Nat) : Int) := by rw [wI64 (by omega) (by omega)]; omega
        have wj : IntKind.i64.wrap ((j : Int) + 1) = ((j + 1 : Nat) : Int) := by rw [wI64 (by omega) (by omega)]; omega
        have wi : IntKind.i64.wrap ((i : Int) + 1) = ((i + 1 : Nat) : Int) := by rw [wI64 (by omega) (by omega)]; omega
        have p0 : (0 : Int) ≤ (j : Int) := by omega
        have p1 : ((j : Nat) : Int) < ((ws.length - k : Nat) : Int) := by omega
        have y1 : off + k * 2 + ((j : Nat) : Int).toNat * 2 + 2 ≤ cur'.size := by have := hown.lt (j := k + j) (by omega); rw [Int.toNat_natCast]; omega
        have v1 : cur'.extract (off + k * 2 + ((j : Nat) : Int).toNat * 2) (off + k * 2 + ((j : Nat) : Int).toNat * 2 + 2) = wC a := by
          have := hown.cell har
          rw [Nat.add_mul, ← Nat.add_assoc] at this
          rw [Int.toNat_natCast]; exact this
        have q0 : (0 : Int) ≤ IntKind.i64.wrap ((j : Int) - 1) := by rw [w1]; omega
        have q1 : IntKind.i64.wrap ((j : Int) - 1) < ((ws.length - k : Nat) : Int) := by rw [w1]; omega
        have y2 : off + k * 2 + (IntKind.i64.wrap ((j : Int) - 1)).toNat * 2 + 2 ≤ cur'.size := by have := hown.lt (j := k + j) (by omega); rw [w1, Int.toNat_natCast]; omega
        have v2 : cur'.extract (off + k * 2 + (IntKind.i64.wrap ((j : Int) - 1)).toNat * 2) (off + k * 2 + (IntKind.i64.wrap ((j : Int) - 1)).toNat * 2 + 2) = wC b := by
          have := hown.cell hbr
          rw [show off + (k + j - 1) * 2 = off + k * 2 + (j - 1) * 2 by omega] at this
          rw [w1, Int.toNat_natCast]; exact this
        have i0 : (0 : Int) ≤ (i : Int) := by omega
        have i1 : ((i : Nat) : Int) < ((ws.length : Nat) : Int) := by omega
        have y3 : off + ((i : Nat) : Int).toNat * 2 + 2 ≤ cur'.size := by rw [Int.toNat_natCast]; exact hown.lt (by omega)
        have htk : ws.take (k + (j + 1)) = ws.take (k + j) ++ [a] := by rw [← Nat.add_assoc, List.take_add_one, ha]; rfl
        repeat (first | refine RQr ?_ | ((first | refine WL_Q ?_ | refine WR_Q rfl ?_ | refine WR_late rfl rfl rfl (OW_Q ?_)); (first | refine QW_of (Qt_ldX rfl (hn := by with_reducible assumption)) ?_)) | refine RC ?_ | refine RU ?_ | refine WC_draw_all (id := 11) 12 (.calm 0 <| .calm 1 <| .calm 2 <| .calm 3 <| .calm 4 <| .calm 5 <| .calm 6 <| .calm 7 <| .calm 8 <| .calm 9 <| .must 10 <| .calm 11 <| .done) mixed (by kernel_rfl) ?_ | refine WC_region (id := 9) ?_)
        rw [v1, v2]
        refine WR_op rfl rfl (OW_callv rfl rfl rfl rfl rfl (alikeW_fn (p := a) (q := b)) ?_)
        rintro _ _ ⟨rfl, rfl⟩
        refine ⟨fun _ h => h, ?_⟩
        by_cases hab : a = b
        · have d5 : (!(a.1 == b.1 && a.2 == b.2)) = false := by rw [hab]; simp
          repeat (first | refine RQr ?_ | ((first | refine WL_Q ?_ | refine WR_Q rfl ?_ | refine WR_late rfl rfl rfl (OW_Q ?_)); (first | refine QW_of (Qt_ldX rfl (hn := by with_reducible assumption)) ?_)) | refine RC ?_ | refine RU ?_ | refine WC_draw_all (id := 11) 12 (.calm 0 <| .calm 1 <| .calm 2 <| .calm 3 <| .calm 4 <| .calm 5 <| .calm 6 <| .calm 7 <| .calm 8 <| .calm 9 <| .must 10 <| .calm 11 <| .done) mixed (by kernel_rfl) ?_ | refine WC_region (id := 10) ?_)
          rw [wj]
          refine ⟨_, _, by omega, ⟨j + 1, i, row, cur', rfl, by omega, by omega, by omega, hrl, ?_, fun x hx => hrest x (by omega), hown, rfl⟩, ⟨rfl, rfl, rfl, rfl, rfl, trivial⟩, rfl, .refl _⟩
          rw [htk]
          refine hpre.same ?_
          rw [hab]
          exact List.mem_iff_getElem?.2 ⟨k + j - 1, by rw [List.getElem?_take, if_pos (by omega)]; exact hb'⟩
        · have d5 : (!(a.1 == b.1 && a.2 == b.2)) = true := by
            cases e : (a.1 == b.1 && a.2 == b.2) with
            | false => rfl
            | true => simp at e; exact absurd (Prod.ext e.1 e.2) hab
          repeat (first | refine RQr ?_ | ((first | refine WL_Q ?_ | refine WR_Q rfl ?_ | refine WR_late rfl rfl rfl (OW_Q ?_)); (first | refine QW_of (Qt_ldX rfl (hn := by with_reducible assumption)) ?_)) | ((first | refine WL_op rfl ?_ | refine WR_late rfl rfl rfl ?_ | refine WR_opG rfl rfl ?_); (first | (refine OE ?_; try intro _)); try refine SD ?_) | refine RC ?_ | refine RU ?_ | refine WC_draw_all (id := 11) 12 (.calm 0 <| .calm 1 <| .calm 2 <| .calm 3 <| .calm 4 <| .calm 5 <| .calm 6 <| .calm 7 <| .calm 8 <| .calm 9 <| .must 10 <| .calm 11 <| .done) mixed (by kernel_rfl) ?_ | refine WC_region (id := 12) ?_)
          rw [v1]
          repeat (first | refine RQ ?_ | ((first | refine WL_Q ?_); (first | refine QW_of (Qt_ldX rfl (hn := by with_reducible assumption)) ?_)) | (refine RE ?_; try intro _) | refine RC ?_ | refine WC_region (id := 12) ?_ | refine WC_region (id := 13) ?_ | refine WC_region (id := 10) ?_)
          rw [wi, wj]
          have hil : i < row.length := by omega
          have hput : OwnW (putR cur' (off + ((i : Nat) : Int).toNat * 2) (wC a)) off cap (row.set i a) := hown.put hil a
          refine ⟨_, _, by omega, ⟨j + 1, i + 1, row.set i a, _, rfl, by omega, by omega, by omega, by rw [List.length_set]; exact hrl, ?_, fun x hx => ?_, hput, rfl⟩, ⟨rfl, rfl, rfl, rfl, rfl, trivial⟩, rfl, .refl _⟩
          · rw [htk, List.take_add_one, List.getElem?_set_self hil, List.take_set_of_le (Nat.le_refl _)]
            exact hpre.more
          · rw [List.getElem?_set_ne (by omega)]
            exact hrest x (by omega)
      · have d4 : decide ((j : Int) < ((ws.length - k : Nat) : Int)) = false := decide_eq_false (by omega)
        have i0 : (0 : Int) ≤ ((i : Nat) : Int) := by omega
        have i1 : ((i : Nat) : Int) ≤ ((cap : Nat) : Int) := by omega
        have i2 : ((i : Nat) : Int) ≤ ((ws.length : Nat) : Int) := by omega
        repeat (first | refine RQ ?_ | ((first | refine WL_Q ?_); (first | refine QW_of (Qt_ldX rfl (hn := by with_reducible assumption)) ?_)) | refine RC ?_ | refine WC_region (id := 9) ?_ | refine WC_region (id := 14) ?_)
        refine WL_op rfl (OW_clear (sz := 2) rfl rfl rfl 0 rfl rfl (Array.all_eq_true_iff_forall_mem.1 (by kernel_rfl)) ?_ ?_)
        · rcases Nat.lt_or_ge i ws.length with g1 | g1
          · right
            have := Own.fit hown
            have e : slOff cap ((i : Nat) : Int).toNat off 2 = off + i * 2 := by rw [Int.toNat_natCast]; unfold slOff; rw [if_neg (by omega)]
            rw [e, Int.toNat_natCast]
            have : (ws.length - i) * 2 + i * 2 = ws.length * 2 := by omega
            have : ws.length * 2 ≤ cap * 2 := Nat.mul_le_mul_right 2 hcap
            omega
          · left
            rw [Int.toNat_natCast]; omega
        intro cs' hcs hkeep
        simp only [List.set_cons_zero]
        repeat (first | refine RQ ?_ | ((first | refine WL_Q ?_); (first | refine QW_of (Qt_ldX rfl (hn := by with_reducible assumption)) ?_)) | refine RC ?_ | refine WC_region (id := 15) ?_)
        have hti : (row.take i).length = i := by rw [List.length_take]; omega
        have hfin : OwnW cs' off cap (row.take i) := by
          have ht := hown.take (k := i) (cap' := cap) (by omega) (by omega) (Nat.le_refl _)
          refine OwnW.of (by rw [hti]; omega) (Own.max ht) (by rw [hcs]; exact Own.fit ht) fun x p' hp' => ?_
          obtain ⟨c0, c1⟩ := ht.at_ hp'
          have hx : x < i := by rw [← hti]; exact (List.getElem?_eq_some_iff.1 hp').1
          have hside : ∀ z, z < off + i * 2 → z < slOff cap ((i : Nat) : Int).toNat off 2 ∨ ws.length - ((i : Nat) : Int).toNat = 0 := fun z hz => by
            rw [Int.toNat_natCast]
            rcases Nat.lt_or_ge i ws.length with g1 | g1
            · left; unfold slOff; rw [if_neg (by omega)]; exact hz
            · right; omega
          rw [hkeep _ (hside _ (by omega)), hkeep _ (hside _ (by omega))]
          exact ⟨c0, c1⟩
        have hall : ws.take (k + j) = ws := List.take_of_length_le (by omega)
        rw [hall] at hpre
        exact ⟨rfl, _, _, Res1 rfl (resV_tmp rfl), .refl _, _, row.take i, hpre, .inr ⟨g, off, cap, cs', congrArg (fun n => Value.slice (some ⟨g, off, none⟩) n cap) hti.symm, rfl, hfin⟩, rfl⟩
    · have d3 : (p.1 == q.1 && p.2 == q.2) = false := by
        cases e : (p.1 == q.1 && p.2 == q.2) with
        | false => rfl
        | true => simp at e; exact absurd (Prod.ext e.1 e.2) hpq
      repeat (first | refine RQr ?_ | ((first | refine WL_Q ?_ | refine WR_Q rfl ?_ | refine WR_late rfl rfl rfl (OW_Q ?_)); (first | refine QW_of (Qt_ldX rfl (hn := by with_reducible assumption)) ?_)) | refine RC ?_ | refine RU ?_ | refine WC_draw_all (id := 6) 11 (.calm 0 <| .calm 1 <| .calm 2 <| .calm 3 <| .calm 4 <| .calm 5 <| .calm 6 <| .calm 7 <| .calm 8 <| .calm 9 <| .must 10 <| .done) mixed (by kernel_rfl) ?_ | refine WC_region (id := 5) ?_)
      rw [wk]
      exact ⟨_, _, by omega, ⟨k + 1, rfl, by omega, by omega, rfl⟩, ⟨rfl, rfl, rfl, trivial⟩, rfl, .refl _⟩
  · have d2 : decide ((k : Int) < ((ws.length : Nat) : Int)) = false := decide_eq_false (by omega)
    repeat (first | refine RQ ?_ | ((first | refine WL_Q ?_); (first | refine QW_of (Qt_ldX rfl (hn := by with_reducible assumption)) ?_)) | refine RC ?_ | refine WC_region (id := 4) ?_ | refine WC_region (id := 16) ?_)
    exact ⟨rfl, _, (g, .cells cur 30 (0, 0)) :: L, Res1 rfl (resV_tmp rfl), .refl _, [(g, .cells cur 30 (0, 0))], ws, ⟨.refl _, fun _ h => h⟩, hb, rfl⟩
end Go.Proofs.Ytkjljlmoihkijaa
namespace Go.Proofs.Ytkjljlmoihkijaa
open Go.Shelf
def sortRen : Ren where
  f := fun x => match x with
    | 6 => 15
    | 15 => 26
    | 14 => 25
    | 28 => 45
    | 29 => 46
    | 20 => 37
    | 21 => 38
    | 22 => 39
    | 23 => 40
    | 24 => 41
    | 25 => 42
    | 26 => 43
    | 27 => 44
    | 46 => 52
    | 47 => 53
    | 48 => 54
    | 49 => 55
    | 50 => 56
    | 57 => 69
    | n => n
  t := fun x => match x with
    | 22 => 22
    | 24 => 30
    | 25 => 38
    | 3 => 3
    | 39 => 49
    | 0 => 0
    | 53 => 70
    | 55 => 72
    | 4 => 4
    | 46 => 63
    | 45 => 62
    | 50 => 67
    | 5 => 5
    | 9 => 9
    | 66 => 81
    | 70 => 85
    | 76 => 88
    | 77 => 89
    | n => n
  g := fun n => n
set_option maxRecDepth 100000 in
theorem sortLaid : SlLaysF0.n6 Try.prog sortRen where
  mixed := by kernel_rfl
  f6 := ⟨(Try.f15).name, by kernel_rfl, by kernel_rfl⟩
  f14 := ⟨(Try.f25).name, by kernel_rfl, by kernel_rfl⟩
  f15 := by kernel_rfl
  f20 := ⟨(Try.f37).name, by kernel_rfl, by kernel_rfl⟩
  f21 := ⟨(Try.f38).name, by kernel_rfl, by kernel_rfl⟩
  f22 := ⟨(Try.f39).name, by kernel_rfl, by kernel_rfl⟩
  f23 := ⟨(Try.f40).name, by kernel_rfl, by kernel_rfl⟩
  f24 := ⟨(Try.f41).name, by kernel_rfl, by kernel_rfl⟩
  f25 := ⟨(Try.f42).name, by kernel_rfl, by kernel_rfl⟩
  f26 := ⟨(Try.f43).name, by kernel_rfl, by kernel_rfl⟩
  f27 := ⟨(Try.f44).name, by kernel_rfl, by kernel_rfl⟩
  f28 := by kernel_rfl
  f29 := by kernel_rfl
  f46 := ⟨(Try.f52).name, by kernel_rfl, by kernel_rfl⟩
  f47 := by kernel_rfl
  f48 := by kernel_rfl
  f49 := ⟨(Try.f55).name, by kernel_rfl, by kernel_rfl⟩
  f50 := ⟨(Try.f56).name, by kernel_rfl, by kernel_rfl⟩
  f57 := ⟨(Try.f69).name, by kernel_rfl, by kernel_rfl⟩
  t0 := by kernel_rfl
  a0 := fun _ => by kernel_rfl
  z0 := fun _ => by kernel_rfl
  v0 := fun _ => by kernel_rfl
  t3 := by kernel_rfl
  a3 := fun _ => by kernel_rfl
  z3 := fun _ => by kernel_rfl
  v3 := fun _ => by kernel_rfl
  t4 := by kernel_rfl
  a4 := fun _ => by kernel_rfl
  z4 := fun _ => by kernel_rfl
  v4 := fun _ => by kernel_rfl
  t5 := by kernel_rfl
  a5 := fun _ => by kernel_rfl
  z5 := fun _ => by kernel_rfl
  v5 := fun _ => by kernel_rfl
  t9 := by kernel_rfl
  a9 := fun _ => by kernel_rfl
  z9 := fun _ => by kernel_rfl
  v9 := fun _ => by kernel_rfl
  t22 := by kernel_rfl
  a22 := fun _ => by kernel_rfl
  z22 := fun _ => by kernel_rfl
  v22 := fun _ => by kernel_rfl
  t25 := by kernel_rfl
  a25 := fun _ => by kernel_rfl
  z25 := fun _ => by kernel_rfl
  v25 := fun _ => by kernel_rfl
  t39 := by kernel_rfl
  a39 := fun _ => by kernel_rfl
  z39 := fun _ => by kernel_rfl
  v39 := fun _ => by kernel_rfl
  t45 := by kernel_rfl
  a45 := fun _ => by kernel_rfl
  z45 := fun _ => by kernel_rfl
  v45 := fun _ => by kernel_rfl
  t46 := by kernel_rfl
  a46 := fun _ => by kernel_rfl
  z46 := fun _ => by kernel_rfl
  v46 := fun _ => by kernel_rfl
  t50 := by kernel_rfl
  a50 := fun _ => by kernel_rfl
  z50 := fun _ => by kernel_rfl
  v50 := fun _ => by kernel_rfl
  t53 := by kernel_rfl
  a53 := fun _ => by kernel_rfl
  z53 := fun _ => by kernel_rfl
  v53 := fun _ => by kernel_rfl
  t55 := by kernel_rfl
  a55 := fun _ => by kernel_rfl
  z55 := fun _ => by kernel_rfl
  v55 := fun _ => by kernel_rfl
  t66 := by kernel_rfl
  a66 := fun _ => by kernel_rfl
  z66 := fun _ => by kernel_rfl
  v66 := fun _ => by kernel_rfl
  t70 := by kernel_rfl
  a70 := fun _ => by kernel_rfl
  z70 := fun _ => by kernel_rfl
  v70 := fun _ => by kernel_rfl
  t76 := by kernel_rfl
  a76 := fun _ => by kernel_rfl
  z76 := fun _ => by kernel_rfl
  v76 := fun _ => by kernel_rfl
  t77 := by kernel_rfl
  a77 := fun _ => by kernel_rfl
  z77 := fun _ => by kernel_rfl
  v77 := fun _ => by kernel_rfl
end Go.Proofs.Ytkjljlmoihkijaa
namespace Go.Proofs.Ytkjljlmoihkijaa
open Go.Shelf Go.RowKit Go.Sort
def cmp1 (a b : Int) : Int := if a < b then -1 else if a > b then 1 else 0
def cmpF (x y : Int × Int) : Int := if cmp1 x.1 y.1 ≠ 0 then cmp1 x.1 y.1 else cmp1 x.2 y.2
theorem cmpI_calls (a b : Int) (w : World) : Calls Try.prog 27 #[.int .i64 a, .int .i64 b] w fun e w' => e = .returned (.int .i64 (cmp1 a b)) ∧ w' = w := by
  go_enter Try.func27, Try.ntmps27
  go_wp2
  all_goals (go_ret; refine ⟨?_, rfl⟩; unfold cmp1; (try simp_all); (try (split <;> (try split) <;> omega)))
set_option maxHeartbeats 2000000 in
theorem cmpS_calls (x y : Int × Int) (b1 b2 : Nat) (w : World) (h0 : w.cell? ⟨b1, 0, none⟩ = some (.int .i64 x.1)) (h1 : w.cell? ⟨b1, 1, none⟩ = some (.int .i64 x.2)) (k0 : w.cell? ⟨b2, 0, none⟩ = some (.int .i64 y.1)) (k1 : w.cell? ⟨b2, 1, none⟩ = some (.int .i64 y.2)) :
    Calls Try.prog 17 #[.slice (some ⟨b1, 0, none⟩) 2 2, .slice (some ⟨b2, 0, none⟩) 2 2] w fun e w' => e = .returned (.int .i64 (cmpF x y)) ∧ w' = w := by
  have hc := fun a b w => cmpI_calls a b w
  go_enter Try.func17, Try.ntmps17
  go_wp2
  refine wp_loop_rounds 3 ?_
  rw [rounds_succ]
  go_wp2_with (go_at_call 27; refine (hc _ _ _).mono ?_; rintro e w' ⟨rfl, rfl⟩)
  · go_ret
    refine ⟨?_, rfl⟩
    unfold cmpF
    simp_all
  · rw [rounds_succ]
    go_wp2_with (go_at_call 27; refine (hc _ _ _).mono ?_; rintro e w' ⟨rfl, rfl⟩)
    · go_ret
      refine ⟨?_, rfl⟩
      unfold cmpF
      simp_all
    · rw [rounds_succ]
      go_wp2
      go_ret
      refine ⟨?_, rfl⟩
      unfold cmpF
      simp_all
set_option maxHeartbeats 2000000 in
theorem cmpW_calls (x y : Int × Int) (W : World) : Calls Try.prog 16 #[.agg #[.int .i64 x.1, .int .i64 x.2], .agg #[.int .i64 y.1, .int .i64 y.2]] W fun e w' => e = .returned (.int .i64 (cmpF x y)) ∧ ∃ q os', w' = grow (W.drewN q) os' := by
  have hc := fun b1 b2 w => cmpS_calls x y b1 b2 w
  go_enter Try.func16, Try.ntmps16
  go_wp2
  have hcc := fun n => hc W.heap.size (W.heap.size + 1) (((W.alloc (.cells #[.int .i64 x.1, .int .i64 x.2] 30)).alloc (.cells #[.int .i64 y.1, .int .i64 y.2] 30)).drewN n) (by simp) (by simp) (by simp) (by simp)
  go_quiet (first | (go_at_call 17; refine Calls.quiet_of_same (hcc _)))
  go_wp2
  go_ret
  exact ⟨rfl, nq, _, by rw [alloc_eq_grow, alloc_eq_grow, grow_grow]; rfl⟩
end Go.Proofs.Ytkjljlmoihkijaa
namespace Go.Proofs.Ytkjljlmoihkijaa
open Go.Shelf Go.RowKit Go.Sort
def encW (p : Int × Int) : List Value := [.int .i64 p.1, .int .i64 p.2]
theorem ltOf_cmpF (x y : Int × Int) : ltOf cmpF x y = decide (x.1 < y.1 ∨ (x.1 = y.1 ∧ x.2 < y.2)) := by
  unfold ltOf cmpF cmp1
  apply decide_eq_decide.2
  by_cases h1 : x.1 < y.1 <;> by_cases h2 : x.1 > y.1 <;> by_cases g1 : x.2 < y.2 <;> by_cases g2 : x.2 > y.2 <;> simp [h1, h2, g1, g2] <;> omega
theorem swoW : SWO (ltOf cmpF) where
  irrefl x := by rw [ltOf_cmpF]; simp
  trans x y z h1 h2 := by rw [ltOf_cmpF] at *; simp at *; omega
  ntrans x y z h1 h2 := by rw [ltOf_cmpF] at *; simp at *; omega
theorem cmpLaysW (blk off size : Nat) (w : World) : CmpLays Try.prog 16 #[] encW 2 cmpF blk off size w :=
  fun _ _ _ _ x y => cmpW_calls x y _
theorem flat_get {d : Array (Int × Int)} {j : Nat} (hj : j < d.size) : (flatK encW 2 d)[j * 2]! = .int .i64 d[j]!.1 ∧ (flatK encW 2 d)[j * 2 + 1]! = .int .i64 d[j]!.2 := by
  rw [get_flatK _ _ _ _ (by omega), get_flatK _ _ _ _ (by omega), show j * 2 / 2 = j by omega, show j * 2 % 2 = 0 by omega, show (j * 2 + 1) / 2 = j by omega, show (j * 2 + 1) % 2 = 1 by omega]
  exact ⟨rfl, rfl⟩
theorem toArray_get {ws : List (Int × Int)} {j : Nat} {p : Int × Int} (h : ws[j]? = some p) : ws.toArray[j]! = p := by
  obtain ⟨h1, h2⟩ := List.getElem?_eq_some_iff.1 h
  rw [getElem!_pos _ _ (by simpa using h1)]
  simpa using h2
theorem OwnW.holds {cur : Array Value} {off cap : Nat} {ws : List (Int × Int)} (h : OwnW cur off cap ws) {g : World} {w : World} {L : List (Nat × Obj)} {b E : Nat} (hm : Mem g ((b, .cells cur E (0, 0)) :: L) w) : HoldsK encW 2 w b off ws.toArray := fun j hj => by
  have hb := hm.at_ (i := 0) rfl
  have hj' : j < ws.length * 2 := by simpa using hj
  have hp : ws[j / 2]? = some (ws[j / 2]'(by omega)) := List.getElem?_eq_getElem _
  obtain ⟨c0, c1⟩ := h.at_ hp
  obtain ⟨f0, f1⟩ := flat_get (d := ws.toArray) (j := j / 2) (by simp; omega)
  rw [toArray_get hp] at f0 f1
  refine ⟨?_, frozen_of_row w b (off + j) cur E hb⟩
  rw [cell_of_row w b (off + j) cur E (0, 0) hb]
  rcases Nat.mod_two_eq_zero_or_one j with e | e
  · have ej : j = j / 2 * 2 := by omega
    rw [ej, c0, f0]; rfl
  · have ej : j = j / 2 * 2 + 1 := by omega
    rw [ej, ← Nat.add_assoc, c1, f1]; rfl
theorem putCells_own {cur : Array Value} {off cap : Nat} {ws : List (Int × Int)} (h : OwnW cur off cap ws) {d : Array (Int × Int)} (hd : d.size = ws.length) : OwnW (putCells id off (flatK encW 2 d) cur) off cap d.toList := by
  have hl : d.toList.length = ws.length := by simpa using hd
  have hs : (putCells id off (flatK encW 2 d) cur).size = cur.size := by simp [putCells]
  refine OwnW.of (by rw [hl]; exact Own.le h) (Own.max h) (by rw [hs]; exact Own.fit h) fun j p hj => ?_
  obtain ⟨h1, h2⟩ := List.getElem?_eq_some_iff.1 hj
  have hjs : j < d.size := by simpa using h1
  have hlt := h.lt (j := j) (by omega)
  obtain ⟨f0, f1⟩ := flat_get hjs
  have hp : d[j]! = p := by rw [getElem!_pos d j hjs]; simpa using h2
  rw [hp] at f0 f1
  have get : ∀ k, k < cur.size → off ≤ k → k < off + d.size * 2 → (putCells id off (flatK encW 2 d) cur)[k]? = some ((flatK encW 2 d)[k - off]!) := fun k hk h1 h2 => by
    unfold putCells
    rw [Array.getElem?_mapIdx, Array.getElem?_eq_getElem hk]
    simp only [Option.map_some]
    rw [if_pos ⟨h1, by rw [size_flatK]; exact h2⟩]
    rfl
  constructor
  · rw [get _ (by omega) (by omega) (by omega), show off + j * 2 - off = j * 2 by omega, f0]
  · rw [get _ (by omega) (by omega) (by omega), show off + j * 2 + 1 - off = j * 2 + 1 by omega, f1]
theorem sortWorld_mem {cur : Array Value} {off : Nat} {g w : World} {L : List (Nat × Obj)} {b E n : Nat} {d : Array (Int × Int)} {os : Array Obj} (hm : Mem g ((b, .cells cur E (0, 0)) :: L) w) : Mem g ((b, .cells (putCells id off (flatK encW 2 d) cur) E (0, 0)) :: L) (sortWorldK encW 2 w b off n d os) := by
  have hb := hm.at_ (i := 0) rfl
  have hlt := hm.lt (b, .cells cur E (0, 0)) (List.mem_cons_self ..)
  have heap : ∀ k, k < w.heap.size → (sortWorldK encW 2 w b off n d os).heap[k]? = (w.heap.modify b (onCells (putCells id off (flatK encW 2 d))))[k]? := fun k hk => by
    show (w.heap.modify b (onCells (putCells id off (flatK encW 2 d))) ++ os)[k]? = _
    rw [Array.getElem?_append_left (by simpa using hk)]
  refine hm.set (i := 0) (o' := .cells (putCells id off (flatK encW 2 d) cur) E (0, 0)) rfl rfl rfl rfl ?_ ?_ fun k hk hne => ?_
  · show w.heap.size ≤ (w.heap.modify b (onCells (putCells id off (flatK encW 2 d))) ++ os).size
    simp
  · rw [heap b hlt, Array.getElem?_modify, if_pos rfl, hb]
    rfl
  · rw [heap k hk, Array.getElem?_modify, if_neg (Ne.symm hne)]
theorem sortW_fn {b E off cap : Nat} {cur : Array Value} {ws : List (Int × Int)} (h : OwnW cur off cap ws) (hn : ws.length ≤ 1000000) {L : List (Nat × Obj)} :
    Fn Try.prog 15 [.slice (some ⟨b, off, none⟩) ws.length cap, .func (.func 16) #[] #[]] ((b, .cells cur E (0, 0)) :: L)
      (fun v L' => v = .tuple #[] ∧ ∃ cur' ws', ws'.Perm ws ∧ ws'.Pairwise (fun p q => p.1 ≤ q.1) ∧ OwnW cur' off cap ws' ∧ L' = (b, .cells cur' E (0, 0)) :: L) := fun g w hm => by
  have hlt := hm.lt (b, .cells cur E (0, 0)) (List.mem_cons_self ..)
  have hc := AnyQ.slices_SortFunc sortLaid 2 Try.isAgg30 Try.sizeOf30 encW (fun _ => rfl) (fun x v hv => by simp [encW] at hv; rcases hv with rfl | rfl <;> rfl) cmpF swoW 16 #[] b off cap ws.toArray w (enters_of Try.func16 (by kernel_rfl) rfl) (cmpLaysW b off ws.toArray.size w) (h.holds hm) hlt (by simp; omega)
  refine Calls.mono (P := Try.prog) hc fun e w' ⟨he, d', n, os, hp, hs, hw⟩ => ?_
  have hsz : d'.size = ws.length := by simpa using hp.1
  refine ⟨.tuple #[], _, he, hw ▸ sortWorld_mem hm, rfl, _, d'.toList, ?_, ?_, putCells_own h hsz, rfl⟩
  · have := hp.2.2
    have e : d'.toList.take ws.length = d'.toList := List.take_of_length_le (by simp [hsz])
    simp at this
    rwa [e] at this
  · rw [List.pairwise_iff_getElem]
    intro i j hi hj hij
    have hi' : i < d'.size := by simpa using hi
    have hj' : j < d'.size := by simpa using hj
    have := hs i j (Nat.zero_le _) hij (by simp; omega)
    rw [ltOf_cmpF, getElem!_pos d' i hi', getElem!_pos d' j hj'] at this
    simp at this ⊢
    omega
end Go.Proofs.Ytkjljlmoihkijaa
