/-
  Running a program's function by computing: functions. It proves no statement by itself. It holds for every program.
-/
import Derived.Test.YtnpiiphiiaiodaaEx8
namespace Go.Proofs.Ytnpiiphiiaiodaa
open Go.RowKit
attribute [local irreducible] T.put T.set opX calmX effX callX appendX

/-! ### functions -/
structure XF where
  fn : Func
  code : Code
  pt : T (Nat × Plan)

def resX (P : Program) (s : T V) (h : T O) : List ResultVar → Option (List V)
  | [] => some []
  | .tmp t :: r => match s.get t, resX P s h r with
    | some v, some l => some (v :: l)
    | _, _ => none
  | .cell a t :: r => match loadX P h t (s.get a), resX P s h r with
    | some (v, _), some l => some (v :: l)
    | _, _ => none
/-- The marks of a function's ranges are taken. -/
def takeX : List Nat → H → Option H
  | [], Hp => some Hp
  | k :: r, Hp => match Hp.h.get k with
    | some .defer => takeX r (Hp.upd k .gone)
    | _ => none
def retX (P : Program) (x : XF) (ds0 : List Nat) (s2 : T V) (H2 : H) : Option (V × H) := match takeX H2.ds H2 with
  | some H3 => match resX P s2 H3.h x.fn.results.toList with
    | some [v] => some (v, ⟨H3.h, H3.n, H3.log, ds0⟩)
    | some l => some (.tup l, ⟨H3.h, H3.n, H3.log, ds0⟩)
    | none => none
  | none => none
def zipX : List Nat → List V → T V → T V
  | p :: ps, v :: vs, s => zipX ps vs (s.set p v)
  | _, _, s => s
/-- The end of a round. -/
def roundX (k : Nat) (ds0 : List Nat) (e : EX) (H4 : H) : Option (V × H) := match H4.h.get k with
  | some (.loop cl .busy) => match e with
    | .normal => some (.bool true, ⟨H4.h.set k (.loop cl .ready), H4.n, k :: H4.log, ds0⟩)
    | .ret => some (.bool false, ⟨H4.h.set k (.loop cl (.done .ret)), H4.n, k :: H4.log, ds0⟩)
    | .exit id => some (.bool false, ⟨H4.h.set k (.loop cl (.done (.exit id))), H4.n, k :: H4.log, ds0⟩)
  | _ => none
def yieldX (P : Program) (call : CallF) (lf : Nat) (k : Nat) (vs : List V) (Hp : H) : Option (V × H) := match Hp.h.get k with
  | some (.loop cl .ready) => match Nat.beq vs.length cl.ps.length, psOk cl.N cl.ps, codeOk cl.N cl.pt cl.assign, codeOk cl.N cl.pt cl.body with
    | true, true, true, true => match codeX P call cl.pt lf false cl.N cl.assign (zipX cl.ps vs cl.s) ⟨Hp.h, Hp.n, Hp.log, []⟩ with
      | some (.normal, s2, H2) => match H2.h.get k with
        | some (.loop cl2 .ready) => match codeX P call cl.pt lf false cl.N cl.body s2 (H2.upd k (.loop cl2 .busy)) with
          | some (e, _, H4) => roundX k Hp.ds e H4
          | none => none
        | _ => none
      | _ => none
    | _, _, _, _ => none
  | _ => none
def funX (P : Program) (tab : T XF) (lf : Nat) : Nat → CallF
  | 0 => ⟨fun _ _ _ => none, fun _ _ _ => none⟩
  | n + 1 => ⟨fun f vs Hp => match tab.get f with
      | some x => match Nat.ble vs.length x.fn.ntmps with
        | true => match codeX P (funX P tab lf n) x.pt lf true x.fn.ntmps x.code (T.row .e vs 0) ⟨Hp.h, Hp.n, Hp.log, []⟩ with
          | some (.exit _, _, _) => none
          | some (_, s2, H2) => retX P x Hp.ds s2 H2
          | none => none
        | false => none
      | none => none,
    fun k vs Hp => yieldX P (funX P tab lf n) lf k vs Hp⟩

/-- A table of a program's functions. -/
structure GoodF (P : Program) (f : FuncId) (x : XF) : Prop where
  fn : P.funcs[f]? = some x.fn
  body : x.fn.body = some x.code
  call : FCall P f
  ok : codeOk x.fn.ntmps x.pt x.code = true

def GoodL (P : Program) : List (Nat × XF) → Prop
  | [] => True
  | p :: r => GoodF P p.1 p.2 ∧ GoodL P r
theorem GoodL.mem {P : Program} : ∀ {l : List (Nat × XF)}, GoodL P l → ∀ p ∈ l, GoodF P p.1 p.2
  | [], _, _, h => by cases h
  | _ :: _, ⟨h1, h2⟩, p, hp => by
    rcases List.mem_cons.1 hp with rfl | hp
    · exact h1
    · exact GoodL.mem h2 p hp

theorem loadX_run {c : Cx} {bs : Bs} {s : T V} {Hp : H} {M F : List (Nat × Obj)} {σ : St} {a t : Nat} {v : V} {rd : Option Nat} (hcov : Cov bs s Hp M F σ) (h : loadX c.P Hp.h t (s.get a) = some (v, rd)) : ∃ v', RV bs v v' ∧ resV c σ v' (.cell a t) := by
  generalize hx : s.get a = e at h
  unfold loadX at h
  split at h
  · rename_i k off
    obtain ⟨p, hp, hr⟩ := hcov.slots a _ hx
    obtain ⟨b, base, av, rfl, hk⟩ := hr.ptr_inv
    split at h
    · rename_i cc E hb
      obtain ⟨b', base', av', i, o', a1, a2, cs, rfl, a3, a4⟩ := hcov.mem.at_ k _ hb
      rw [hk] at a1; cases a1
      have hi : σ.L[i]? = some (b, .cells cs E (0, 0)) := by
        rw [hcov.L, List.getElem?_append_left (List.getElem?_eq_some_iff.1 a2).1]; exact a2
      split at h
      · rename_i ha
        split at h
        · rename_i u hu
          cases h
          obtain ⟨_, v', a5, a6⟩ := a4 off _ hu
          refine ⟨v', a6, fun ac w hH => ?_⟩
          have hp' := hH.slots a _ hp
          have hcell : w.cell? ⟨b, base + off, none⟩ = some v' := by rw [cell_of_row w b (base + off) cs E (0, 0) (hH.mem.at_ hi)]; exact a5
          rw [Array.getD_eq_getD_getElem?] at hp'
          simp [resSem, hp', asAddr, loadVar, (aggX_ok ha).h, hcell]
        · cases h
      · rename_i ha
        split at h
        · rename_i n hn
          split at h
          · rename_i l hl
            cases h
            obtain ⟨l', e1, e2, e3, e4⟩ := cellsX_ok a4 (n + 1) off l hl
            refine ⟨_, .agg e1, fun ac w hH => ?_⟩
            have hp' := hH.slots a _ hp
            have hload := run_loadCells_list (P := c.P) w ⟨b, base + off, none⟩ l' (fun j v hv => by
              have hj := (List.getElem?_eq_some_iff.1 hv).1
              rw [Addr.add_mid, cell_of_row w b (base + off + j) cs E (0, 0) (hH.mem.at_ hi), e3 j (by omega)]; exact hv)
            rw [e2] at hload
            rw [Array.getD_eq_getD_getElem?] at hp'
            simp [resSem, hp', asAddr, loadVar, (aggX_ok ha).h, (sizeX_ok hn).h, hload]
          · cases h
        · cases h
      · cases h
    · cases h
  · cases h

theorem resX_ok {c : Cx} {bs : Bs} {s : T V} {Hp : H} {M F : List (Nat × Obj)} {σ : St} (hcov : Cov bs s Hp M F σ) : ∀ {rs : List ResultVar} {l : List V}, resX c.P s Hp.h rs = some l → ∃ l', RVs bs l l' ∧ ∀ a w, Holds c.g c.N σ a w → (rs.mapM (resSem a.tmps)).run c.P w = .ok l' w
  | [], l, h => by cases h; exact ⟨[], .nil, fun a w _ => by simp⟩
  | .tmp t :: r, l, h => by
    simp only [resX] at h
    split at h
    · rename_i v l h1 h2
      cases h
      obtain ⟨v', h3, h4⟩ := hcov.slots t v h1
      obtain ⟨l', h5, h6⟩ := resX_ok hcov h2
      refine ⟨v' :: l', .cons h4 h5, fun a w ha => ?_⟩
      have := resV_tmp (c := c) h3 a w ha
      simp [List.mapM_cons, this, h6 a w ha]
    · cases h
  | .cell p t :: r, l, h => by
    simp only [resX] at h
    split at h
    · rename_i v rd l h1 h2
      cases h
      obtain ⟨v', h4, h3⟩ := loadX_run (c := c) hcov h1
      obtain ⟨l', h5, h6⟩ := resX_ok hcov h2
      refine ⟨v' :: l', .cons h4 h5, fun a w ha => ?_⟩
      have := h3 a w ha
      simp [List.mapM_cons, this, h6 a w ha]
    · cases h

theorem covS_row {bs : Bs} {vs : List V} {vs' : List Value} (h : RVs bs vs vs') : CovS bs (T.row .e vs 0) (initS 0 vs') := by
  have look_init : ∀ (l : List Value) (k t : Nat) (v : Value), k ≤ t → l[t - k]? = some v → look (initS k l) t = some v := by
    intro l
    induction l with
    | nil => intro k t v _ h; simp at h
    | cons u r ih =>
      intro k t v hk h
      rw [initS, look_cons]
      by_cases e : k = t
      · subst e; simp at h; rw [if_pos rfl, h]
      · rw [if_neg e]
        refine ih (k + 1) t v (by omega) ?_
        rw [show t - k = (t - (k + 1)) + 1 by omega] at h
        simpa using h
  intro t v hv
  rcases T.get_row hv with ⟨_, h2⟩ | ⟨_, h2⟩
  · obtain ⟨v', h3, h4⟩ := h.get h2
    exact ⟨v', look_init vs' 0 t v' (Nat.zero_le _) h3, h4⟩
  · cases h2

theorem setL_some : ∀ {L : List (Nat × Obj)} {i : Nat} {q : Nat × Obj} (p : Nat × Obj), L[i]? = some q → setL L i p = some (L.set i p)
  | [], i, q, p, h => by simp at h
  | x :: r, 0, q, p, h => rfl
  | x :: r, i + 1, q, p, h => by
    simp only [List.getElem?_cons_succ] at h
    simp [setL, setL_some p h]

theorem WC_nodup {c : Cx} {code : Code} {K : Exit → St → Prop} {σ : St} (h : WC c code (fun e σ' => (σ'.L.map Prod.fst).Nodup → K e σ') σ) : WC c code K σ := fun a w ha =>
  Go.wpIn_mono (h a w ha) fun e a' w' hl => by
    cases e with
    | panic ch => obtain ⟨D, L, h1, h2⟩ := hl; exact ⟨D, L, h1, h2 h1.mem.nodup⟩
    | _ => obtain ⟨σ', h1, h2⟩ := hl; exact ⟨σ', h1, h2 h1.mem.nodup⟩

theorem takeX_ok : ∀ (ks : List Nat) {bs : Bs} {s : T V} {Hp H3 : H} {M F : List (Nat × Obj)} {σ : St} {D : List Deferred}, CovS bs s σ.s → HCov bs Hp M → σ.L = M ++ F → (σ.L.map Prod.fst).Nodup → RD bs ks D → takeX ks Hp = some H3 →
    ∃ r M', MarksOk D σ.L (M' ++ F) ∧ CovS (bs ++ r) s σ.s ∧ HCov (bs ++ r) H3 M' ∧ (∀ k ∈ Hp.log, k ∈ H3.log) ∧ ∀ W B, (∀ k ∈ H3.log, k ∈ W) → Prot bs Hp M W B → Prot (bs ++ r) H3 M' W B
  | [], bs, s, Hp, H3, M, F, σ, D, hs, hm, hL, _, hD, h => by
    cases h; cases hD
    exact ⟨[], M, hL.symm, by simpa using hs, by simpa using hm, fun _ h => h, fun _ _ _ h => by simpa using h⟩
  | k :: ks, bs, s, Hp, H3, M, F, σ, D, hs, hm, hL, hn, ⟨b, x, y, D', e1, e2, e3⟩, h => by
    subst e2
    simp only [takeX] at h
    split at h
    · rename_i hk
      obtain ⟨b', base, av, i, o', a1, a2, a3⟩ := hm.at_ k _ hk
      rw [e1] at a1; cases a1
      cases a3
      have hi : σ.L[i]? = some (b, .deferred (some [])) := by
        rw [hL, List.getElem?_append_left (List.getElem?_eq_some_iff.1 a2).1]; exact a2
      have hcov : Cov bs s ⟨Hp.h, Hp.n, Hp.log, []⟩ M F ⟨σ.s, [], σ.L⟩ := ⟨hs, rfl, ⟨hm.n, hm.at_, hm.inj⟩, hL⟩
      have hu := Post_upd (s2 := s) (σ' := ⟨σ.s, [], σ.L.set i (b, .deferred none)⟩) (ob2 := .gone) hcov hn hk e1 a2 trivial hs rfl rfl
      obtain ⟨r, M1, f1, f2, f3, f4, f5, f6⟩ := hu
      have f4' : HCov (bs ++ r) (Hp.upd k .gone) M1 := ⟨f4.n, f4.at_, f4.inj⟩
      obtain ⟨r2, M2, g1, g2, g3, g4, g5⟩ := takeX_ok ks (σ := ⟨σ.s, [], σ.L.set i (b, .deferred none)⟩) f3 f4' f2 (nodup_set hn hi _) (e3.mono r) h
      refine ⟨r ++ r2, M2, ⟨b, i, _, rfl, hi, setL_some _ hi, g1⟩, by rw [← List.append_assoc]; exact g2, by rw [← List.append_assoc]; exact g3, fun k hk => g4 k (List.mem_cons_of_mem _ hk), fun W B hW hB => ?_⟩
      rw [← List.append_assoc]
      refine g5 W B hW ?_
      have := f6 W B (fun k hk => hW k (g4 k hk)) (by simpa [Prot] using hB)
      exact fun q hq => this q hq
    · cases h

theorem covS_zip {bs : Bs} : ∀ {ps : List Nat} {vs : List V} {vs' : List Value} {s : T V} {σs : List (Nat × Value)}, CovS bs s σs → RVs bs vs vs' → CovS bs (zipX ps vs s) (zipS ps vs' σs)
  | [], _, _, _, _, h, _ => by simpa [zipX, zipS] using h
  | _ :: _, [], _, _, _, h, hv => by cases hv; simpa [zipX, zipS] using h
  | p :: ps, v :: vs, _, s, σs, h, .cons h1 h2 => by
    simp only [zipX, zipS]
    exact covS_zip (h.put h1) h2

theorem roundX_ok {bs : Bs} {k : Nat} {ds0 : List Nat} {e : EX} {H4 H5 : H} {v : V} {M F : List (Nat × Obj)} {g w : World} {l x y : Nat} {P : Program} (hk : bs[k]? = some (l, x, y)) (hm : HCov bs H4 M) (hmem : Mem g (M ++ F) w) (h : roundX k ds0 e H4 = some (v, H5)) :
    ∃ jump, (e = .normal ∧ jump = none ∨ e = .ret ∧ jump = some .ret ∨ ∃ id, e = .exit id ∧ jump = some (.exit id)) ∧ ∃ w6, (Instr.endRound l jump).run P w = .ok (.bool jump.isNone) w6 ∧ ∃ L', Mem g L' w6 ∧ FPost bs ⟨H4.h, H4.n, H4.log, ds0⟩ M F v H5 (.bool jump.isNone) L' := by
  unfold roundX at h
  split at h
  · rename_i cl hg
    obtain ⟨l', x1, x2, i, o', a1, a2, rec, σs, rfl, a3, a4, a5, a6, a7, a8, a9⟩ := hm.at_ _ _ hg
    rw [hk] at a1; cases a1
    have hi : (M ++ F)[i]? = some (l, .loop rec) := by rw [List.getElem?_append_left (List.getElem?_eq_some_iff.1 a2).1]; exact a2
    have main : ∀ (jump : Option Code) (st : LSt), (∀ r : Loop, r.state = (if jump.isNone then .ready else .done) → r.pending = jump → st.fits r) →
        ∃ w6, (Instr.endRound l jump).run P w = .ok (.bool jump.isNone) w6 ∧ ∃ L', Mem g L' w6 ∧ FPost bs ⟨H4.h, H4.n, H4.log, ds0⟩ M F (.bool jump.isNone) ⟨H4.h.set k (.loop cl st), H4.n, k :: H4.log, ds0⟩ (.bool jump.isNone) L' := by
      intro jump st hst
      have h1 := run_endRound (P := P) jump (hmem.at_ hi)
      have h2 := hmem.putObj hi (.loop { rec with state := if jump.isNone then .ready else .done, pending := jump })
      refine ⟨_, h1, _, h2, ?_⟩
      have hcov : Cov bs .e ⟨H4.h, H4.n, H4.log, []⟩ M F ⟨[], [], M ++ F⟩ := ⟨fun t v hv => (by cases hv), rfl, ⟨hm.n, hm.at_, hm.inj⟩, rfl⟩
      have hu := Post_upd (s2 := .e) (σ' := ⟨[], [], (M ++ F).set i (l, .loop { rec with state := if jump.isNone then .ready else .done, pending := jump })⟩) (ob2 := .loop cl st) hcov hmem.nodup hg hk a2 ⟨{ rec with state := if jump.isNone then .ready else .done, pending := jump }, σs, rfl, a3, a4, a5, a6, a7, a8, hst _ rfl rfl⟩ (fun t v hv => by cases hv) rfl rfl
      obtain ⟨r, M1, f1, f2, f3, f4, f5, f6⟩ := hu
      refine ⟨r, M1, f2, .bool _, ⟨f4.n, f4.at_, f4.inj⟩, rfl, f5, fun W B hW hB => ?_⟩
      have := f6 W B hW (by simpa [Prot] using hB)
      exact fun q hq => this q hq
    split at h
    · cases h
      obtain ⟨w6, h1, h2⟩ := main none .ready (fun r h1 h2 => ⟨h1, h2⟩)
      exact ⟨none, .inl ⟨rfl, rfl⟩, w6, h1, h2⟩
    · cases h
      obtain ⟨w6, h1, h2⟩ := main (some .ret) (.done .ret) (fun r h1 h2 => ⟨h1, h2⟩)
      exact ⟨some .ret, .inr (.inl ⟨rfl, rfl⟩), w6, h1, h2⟩
    · rename_i id
      cases h
      obtain ⟨w6, h1, h2⟩ := main (some (.exit id)) (.done (.exit id)) (fun r h1 h2 => ⟨h1, h2⟩)
      exact ⟨some (.exit id), .inr (.inr ⟨id, rfl, rfl⟩), w6, h1, h2⟩
  · cases h

theorem FPost.comp {bs r : Bs} {Hp H1 : H} {M M1 F : List (Nat × Obj)} {v : V} {H2 : H} {v' : Value} {L' : List (Nat × Obj)} (hl : ∀ k ∈ Hp.log, k ∈ H1.log) (hp : ∀ W B, (∀ k ∈ H1.log, k ∈ W) → Prot bs Hp M W B → Prot (bs ++ r) H1 M1 W B) (hd : H1.ds = Hp.ds) (h : FPost (bs ++ r) H1 M1 F v H2 v' L') : FPost bs Hp M F v H2 v' L' := by
  obtain ⟨r2, M2, f1, f2, f3, fd, f5, f6⟩ := h
  exact ⟨r ++ r2, M2, f1, by rw [← List.append_assoc]; exact f2, by rw [← List.append_assoc]; exact f3, fd.trans hd, fun k hk => f5 k (hl k hk), fun W B hW hB => by
    rw [← List.append_assoc]; exact f6 W B hW (hp W B (fun k hk => hW k (f5 k hk)) hB)⟩

theorem yieldX_ok {P : Program} {call : CallF} {lf : Nat} (hcall : CallOk P call) (hmix : P.follows .mixedOrders = true) {k : Nat} {vs : List V} {Hp : H} {v : V} {H2 : H} (h : yieldX P call lf k vs Hp = some (v, H2)) {bs : Bs} {M F : List (Nat × Obj)} {vs' : List Value} {l x y : Nat} (hm : HCov bs Hp M) (hk : bs[k]? = some (l, x, y)) (hvs : RVs bs vs vs') : YieldFn P l vs' (M ++ F) (FPost bs Hp M F v H2) := by
  unfold yieldX at h
  split at h
  · rename_i cl hg
    split at h
    · rename_i c1 c2 c3 c4
      split at h
      · rename_i s2 H3 hcode
        split at h
        · rename_i cl2 hg2
          split at h
          · rename_i e s4 H4 hcode2
            intro g w n hmem
            obtain ⟨l', x1, x2, i, o', a1, a2, rec, σs, rfl, a3, a4, a5, a6, a7, a8, a9⟩ := hm.at_ _ _ hg
            rw [hk] at a1; cases a1
            have hi : (M ++ F)[i]? = some (l, .loop rec) := by rw [List.getElem?_append_left (List.getElem?_eq_some_iff.1 a2).1]; exact a2
            have hlen := Nat.eq_of_beq_eq_true c1
            have hvl := hvs.length
            have hy := run_yield (P := P) (w := w) (args := vs'.toArray) (hmem.at_ hi) (by rw [a3]; simp; omega)
            refine ⟨rec.fn, _, rec.assign, rec.body, hy, roundIn_of_wpIn trivial ?_⟩
            have hz := holds_zip (g := g) (w := w) (N := cl.N) (D := []) (L := M ++ F) cl.ps vs' σs { tmps := rec.tmps, defers := [] } (psOk_ok c2) ⟨a6, a8, rfl, hmem⟩
            have e2 : (cl.ps.zip vs').foldl (fun t (q : Nat × Value) => t.setIfInBounds q.1 q.2) rec.tmps = (rec.params.zip vs'.toArray).foldl (fun tmps (q : Nat × Value) => tmps.setIfInBounds q.1 q.2) rec.tmps := by
              rw [a3, ← Array.foldl_toList, Array.toList_zip]
            simp only [e2] at hz
            rw [a4, a5]
            have hcov0 : Cov bs (zipX cl.ps vs cl.s) ⟨Hp.h, Hp.n, Hp.log, []⟩ M F ⟨zipS cl.ps vs' σs, [], M ++ F⟩ := ⟨covS_zip a7 hvs, rfl, ⟨hm.n, hm.at_, hm.inj⟩, rfl⟩
            have hwp := codeX_ok (c := ⟨P, g, cl.N, n, some l⟩) hcall hmix (fun h => by cases h) cl.assign c3 hcov0 hcode
            refine Go.wpIn_mono (hwp _ w hz) (fun e' a10 w3 hl3 => ?_)
            cases e' with
            | panic ch => obtain ⟨_, _, _, h, _⟩ := hl3; cases h
            | ret => obtain ⟨_, _, h, _⟩ := hl3; cases h
            | exit id => obtain ⟨_, _, h, _⟩ := hl3; cases h
            | goto t => obtain ⟨_, _, h, _⟩ := hl3; cases h
            | outgrown => obtain ⟨_, _, h, _⟩ := hl3; cases h
            | normal =>
              obtain ⟨σ', hH, _, hpost⟩ := hl3
              obtain ⟨r1, M1, hcov1, hlog1, hprot1, _⟩ := hpost.split
              obtain ⟨l2, y1, y2, i2, o2, b1, b2, rec2, σs2, rfl, b3, b4, b5, b6, b7, b8, b9⟩ := hcov1.mem.at_ _ _ hg2
              rw [bs_mono hk] at b1; cases b1
              have hi2 : σ'.L[i2]? = some (l, .loop rec2) := by rw [hcov1.L, List.getElem?_append_left (List.getElem?_eq_some_iff.1 b2).1]; exact b2
              have hb := run_beginRound (P := P) (hH.mem.at_ hi2) b9.1
              refine ⟨_, hb, ?_⟩
              have hm4 := hH.mem.putObj hi2 (.loop { rec2 with state := .busy })
              have hu := Post_upd (s2 := s2) (σ' := ⟨σ'.s, σ'.D, σ'.L.set i2 (l, .loop { rec2 with state := .busy })⟩) (ob2 := .loop cl2 .busy) hcov1 hH.mem.nodup hg2 (bs_mono hk) b2 ⟨{ rec2 with state := .busy }, σs2, rfl, b3, b4, b5, b6, b7, b8, rfl⟩ hcov1.slots rfl rfl
              obtain ⟨r2, M2, hcov2, hlog2, hprot2, _⟩ := hu.split
              have hH4 : Holds g cl.N ⟨σ'.s, σ'.D, σ'.L.set i2 (l, .loop { rec2 with state := .busy })⟩ a10 (w3.putObj l (.loop { rec2 with state := .busy })) := ⟨hH.size, hH.slots, hH.defers, hm4⟩
              have hwp2 := codeX_ok (c := ⟨P, g, cl.N, n, some l⟩) hcall hmix (fun h => by cases h) cl.body c4 hcov2 hcode2
              refine Go.wpIn_mono (hwp2 _ _ hH4) (fun e5 a5' w5 hl5 => ?_)
              have last : ∀ (σ5 : St), Holds g cl.N σ5 a5' w5 → Post (bs ++ r1 ++ r2) (H3.upd k (.loop cl2 .busy)) M2 F s4 H4 σ5 → ∃ jump, (e = .normal ∧ jump = none ∨ e = .ret ∧ jump = some .ret ∨ ∃ id, e = .exit id ∧ jump = some (.exit id)) ∧ ∃ w6, (Instr.endRound l jump).run P w5 = .ok (.bool jump.isNone) w6 ∧ ∃ L', Mem g L' w6 ∧ FPost bs Hp M F v H2 (.bool jump.isNone) L' := by
                intro σ5 hH5 hp5
                obtain ⟨r3, M3, hcov3, hlog3, hprot3, _⟩ := hp5.split
                have hmem5 := hH5.mem
                rw [hcov3.L] at hmem5
                obtain ⟨jump, k1, w6, k2, L', k3, k4⟩ := roundX_ok (bs_mono (bs_mono (bs_mono hk))) hcov3.mem hmem5 h
                refine ⟨jump, k1, w6, k2, L', k3, ?_⟩
                refine FPost.comp (r := r1) (H1 := ⟨H3.h, H3.n, H3.log, Hp.ds⟩) (M1 := M1) hlog1 (fun W B hW hB => ?_) rfl ?_
                · exact fun q hq => hprot1 W B hW (by simpa [Prot] using hB) q hq
                refine FPost.comp (r := r2) (H1 := ⟨(H3.upd k (.loop cl2 .busy)).h, H3.n, k :: H3.log, Hp.ds⟩) (M1 := M2) hlog2 (fun W B hW hB => ?_) rfl ?_
                · exact fun q hq => hprot2 W B hW (by simpa [Prot] using hB) q hq
                refine FPost.comp (r := r3) (H1 := ⟨H4.h, H4.n, H4.log, Hp.ds⟩) (M1 := M3) hlog3 (fun W B hW hB => ?_) rfl k4
                exact fun q hq => hprot3 W B hW (by simpa [Prot] using hB) q hq
              cases e5 with
              | panic ch => obtain ⟨_, _, _, h, _⟩ := hl5; cases e <;> cases h
              | goto t => obtain ⟨_, _, h, _⟩ := hl5; cases e <;> cases h
              | outgrown => obtain ⟨_, _, h, _⟩ := hl5; cases e <;> cases h
              | normal =>
                obtain ⟨σ5, hH5, he, hp5⟩ := hl5
                obtain ⟨jump, ⟨_, rfl⟩ | ⟨rfl, _⟩ | ⟨id, rfl, _⟩, w6, k2, L', k3, k4⟩ := last σ5 hH5 hp5
                · exact ⟨_, w6, k2, _, L', rfl, k3, k4⟩
                · cases he
                · cases he
              | ret =>
                obtain ⟨σ5, hH5, he, hp5⟩ := hl5
                obtain ⟨jump, ⟨rfl, _⟩ | ⟨_, rfl⟩ | ⟨id, rfl, _⟩, w6, k2, L', k3, k4⟩ := last σ5 hH5 hp5
                · cases he
                · exact ⟨_, w6, k2, _, L', rfl, k3, k4⟩
                · cases he
              | exit id' =>
                obtain ⟨σ5, hH5, he, hp5⟩ := hl5
                obtain ⟨jump, ⟨rfl, _⟩ | ⟨rfl, _⟩ | ⟨id, rfl, rfl⟩, w6, k2, L', k3, k4⟩ := last σ5 hH5 hp5
                · cases he
                · cases he
                · cases he
                  exact ⟨_, w6, k2, _, L', rfl, k3, k4⟩
          · cases h
        · cases h
      · cases h
    · cases h
  · cases h

theorem Cov.noD {bs : Bs} {s : T V} {Hp : H} {M F : List (Nat × Obj)} {σ : St} {L' : List (Nat × Obj)} {ds : List Nat} (hs : CovS bs s σ.s) (hm : HCov bs Hp M) (hL : L' = M ++ F) (hds : ds = []) : Cov bs s ⟨Hp.h, Hp.n, Hp.log, ds⟩ M F ⟨σ.s, [], L'⟩ := ⟨hs, by subst hds; rfl, ⟨hm.n, hm.at_, hm.inj⟩, hL⟩

theorem funX_ok {P : Program} {tab : T XF} {lf : Nat} (hmix : P.follows .mixedOrders = true) (htab : ∀ f x, tab.get f = some x → GoodF P f x) : ∀ n, CallOk P (funX P tab lf n)
  | 0 => ⟨fun _ _ _ _ _ h => (by cases h), fun _ _ _ _ _ h => (by cases h), fun _ _ _ _ _ h => (by cases h)⟩
  | n + 1 => by
    have ih := funX_ok (lf := lf) hmix htab n
    have key : ∀ f vs Hp v H2, (funX P tab lf (n + 1)).f f vs Hp = some (v, H2) → ∃ x e s2 H1, tab.get f = some x ∧ vs.length ≤ x.fn.ntmps ∧ codeX P (funX P tab lf n) x.pt lf true x.fn.ntmps x.code (T.row .e vs 0) ⟨Hp.h, Hp.n, Hp.log, []⟩ = some (e, s2, H1) ∧ (e = .normal ∨ e = .ret) ∧ retX P x Hp.ds s2 H1 = some (v, H2) := by
      intro f vs Hp v H2 h
      simp only [funX] at h
      split at h
      · rename_i x hx
        split at h
        · rename_i hle
          split at h
          · cases h
          · rename_i e s2 H3 hne hcode
            have he : e = .normal ∨ e = .ret := by
              cases e with
              | normal => exact .inl rfl
              | ret => exact .inr rfl
              | exit id => exact (hne id rfl).elim
            exact ⟨x, e, s2, H3, hx, Nat.le_of_ble_eq_true hle, hcode, he, h⟩
          · cases h
        · cases h
      · cases h
    refine ⟨fun f vs Hp v H2 h => ?_, ?_, fun k vs Hp v H2 h bs M F vs' l x y hm hk hvs => yieldX_ok ih hmix h hm hk hvs⟩
    · obtain ⟨x, e, s2, H1, hx, _⟩ := key f vs Hp v H2 h
      exact (htab f x hx).call
    · intro f vs Hp v H2 h bs M F vs' hm hvs
      obtain ⟨x, e, s2, H1, hx, hle, hcode, he, hret⟩ := key f vs Hp v H2 h
      have hg := htab f x hx
      have hlen := hvs.length
      refine Fn_enterM hg.fn hg.body rfl (Nat.ble_eq_true_of_le (by omega)) fun g => WC_nodup ?_
      have hcov : Cov bs (T.row .e vs 0) ⟨Hp.h, Hp.n, Hp.log, []⟩ M F ⟨initS 0 vs', [], M ++ F⟩ := ⟨covS_row hvs, rfl, ⟨hm.n, hm.at_, hm.inj⟩, rfl⟩
      refine (codeX_ok (c := ⟨P, g, x.fn.ntmps, 0, none⟩) ih hmix (fun _ => rfl) x.code hg.ok hcov hcode).mono fun e' σ' hd hnod => ?_
      obtain ⟨rfl, hpost⟩ := hd
      obtain ⟨r, M', hcov1, hlog1, hprot1, _⟩ := hpost.split
      unfold retX at hret
      split at hret
      · rename_i H3 htake
        obtain ⟨r2, M2, t1, t2, t3, t4, t5⟩ := takeX_ok H1.ds hcov1.slots hcov1.mem hcov1.L hnod hcov1.D htake
        have hcov2 : Cov (bs ++ r ++ r2) s2 ⟨H3.h, H3.n, H3.log, []⟩ M2 F ⟨σ'.s, [], M2 ++ F⟩ := Cov.noD t2 t3 rfl rfl
        have res : ∃ l, resX P s2 H3.h x.fn.results.toList = some l ∧ v = (match l with | [v] => v | l => .tup l) ∧ H2 = ⟨H3.h, H3.n, H3.log, Hp.ds⟩ := by
          split at hret
          · rename_i u hr; cases hret; exact ⟨_, hr, rfl, rfl⟩
          · rename_i l hnl hr
            cases hret
            refine ⟨l, hr, ?_, rfl⟩
            match l, hnl with
            | [], _ => rfl
            | [u], h => exact absurd rfl (h u)
            | _ :: _ :: _, _ => rfl
          · cases hret
        obtain ⟨l, hr, hv, hH⟩ := res
        obtain ⟨l', h1, h2⟩ := resX_ok (c := ⟨P, g, x.fn.ntmps, 0, none⟩) hcov2 hr
        have hres : ∃ v', Res ⟨P, g, x.fn.ntmps, 0, none⟩ x.fn ⟨σ'.s, [], M2 ++ F⟩ v' ∧ RV (bs ++ r ++ r2) v v' := by
          refine ⟨(if h : l'.toArray.size = 1 then l'.toArray[0] else .tuple l'.toArray), fun a w ha => ?_, ?_⟩
          · have h3 := h2 a w ha
            rw [results_eq, Array.mapM_eq_mapM_toList]
            simp [h3]
          · subst hv
            match l, l', h1 with
            | [], [], h1 => simpa using RV.tup h1
            | [u], [u'], .cons h1 _ => simpa using h1
            | a :: b :: l, a' :: b' :: l', h1 => simpa using RV.tup h1
        obtain ⟨v', hv1, hv2⟩ := hres
        have hfp : FPost bs Hp M F v H2 v' (M2 ++ F) := by
          subst hH
          refine ⟨r ++ r2, M2, rfl, by rw [← List.append_assoc]; exact hv2, by rw [← List.append_assoc]; exact ⟨t3.n, t3.at_, t3.inj⟩, rfl, fun k hk => t4 k (hlog1 k hk), fun W B hW hB => ?_⟩
          rw [← List.append_assoc]
          have h5 := t5 W B hW (hprot1 W B (fun k hk => hW k (t4 k hk)) (by simpa [Prot] using hB))
          exact fun q hq => h5 q hq
        have fin : postM ⟨P, g, x.fn.ntmps, 0, none⟩ x.fn (FPost bs Hp M F v H2) .normal σ' := ⟨M2 ++ F, t1, v', M2 ++ F, hv1, .refl _, hfp⟩
        rcases he with rfl | rfl
        · exact fin
        · exact fin
      · cases hret

/-- A function without arguments that comes to true: so it does, whatever memory holds, and leaves that as it is. -/
theorem runX {P : Program} {tab : T XF} {lf n : Nat} {f : FuncId} {H2 : H} (hmix : P.follows .mixedOrders = true) (htab : ∀ f x, tab.get f = some x → GoodF P f x) (h : (funX P tab lf n).f f [] ⟨.e, 0, [], []⟩ = some (.bool true, H2)) (L : List (Nat × Obj)) : Fn P f [] L (fun v L' => v = .bool true ∧ L' = L) := fun g w hm => by
  have h1 := (funX_ok hmix htab n).fn _ _ _ _ _ h [] [] L [] ⟨rfl, fun k o hk => (by cases hk), fun j k o o' b x y x' y' hj => (by cases hj)⟩ .nil
  refine (h1 g w hm).mono fun e w' ⟨v, L', e1, e2, r, M', e3, e4, _⟩ => ?_
  cases e4
  subst e3
  exact ⟨.bool true, L, e1, e2.sublist (List.sublist_append_right _ _), rfl, rfl⟩
/-- What is to be computed. -/
def trueX (P : Program) (tab : T XF) (lf n : Nat) (f : FuncId) : Bool := match (funX P tab lf n).f f [] ⟨.e, 0, [], []⟩ with
  | some (.bool true, _) => true
  | _ => false
theorem runX' {P : Program} {tab : T XF} {lf n : Nat} {f : FuncId} (hmix : P.follows .mixedOrders = true) (htab : ∀ f x, tab.get f = some x → GoodF P f x) (h : trueX P tab lf n f = true) (L : List (Nat × Obj)) : Fn P f [] L (fun v L' => v = .bool true ∧ L' = L) := by
  unfold trueX at h
  split at h
  · rename_i h1; exact runX hmix htab h1 L
  · cases h
end Go.Proofs.Ytnpiiphiiaiodaa
