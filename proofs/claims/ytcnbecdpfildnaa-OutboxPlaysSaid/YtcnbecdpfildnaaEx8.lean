/-
  Running a program's function by computing: code, with ranges over functions. It proves no statement by itself. It holds for every program.
-/
import Derived.Test.YtcnbecdpfildnaaEx7
namespace Go.Proofs.Ytcnbecdpfildnaa
open Go.RowKit
noncomputable section
attribute [local irreducible] T.put T.set opX opP calmX effX callX appendX

/-! ### code -/
def memX (k : Nat) : List Nat → Bool
  | [] => false
  | j :: r => match Nat.beq j k with
    | true => true
    | false => memX k r
def apartX (W : List Nat) : List Nat → Bool
  | [] => true
  | k :: r => match memX k W with
    | true => false
    | false => apartX W r
theorem memX_ok {k : Nat} : ∀ {l : List Nat}, memX k l = false → k ∉ l
  | [], _ => by simp
  | j :: r, h => by
    simp only [memX] at h
    split at h
    · cases h
    · rename_i hj
      simp only [List.mem_cons, not_or]
      exact ⟨fun e => Nat.ne_of_beq_eq_false hj e.symm, memX_ok h⟩
theorem apartX_ok {W : List Nat} : ∀ {l : List Nat}, apartX W l = true → ∀ k ∈ l, k ∉ W
  | [], _, k, hk => by cases hk
  | j :: r, h, k, hk => by
    simp only [apartX] at h
    split at h
    · cases h
    · rename_i hj
      rcases List.mem_cons.1 hk with rfl | hk
      · exact memX_ok hj
      · exact apartX_ok h k hk

/-- A deferred call is laid by. -/
def deferX (top : Bool) (s : S) (Hp : H) : List Oper → CX
  | [o] => match top, o.op, o.guard, o.dst with
    | true, .defer cl, none, none => match cl.callee with
      | .value x => match evX s x, evsX s cl.args.toList with
        | some (.fn (.func f) A B), some vs => some (.normal, s, ⟨Hp.h, Hp.n, Hp.log, .call f (A ++ vs) B :: Hp.ds⟩)
        | _, _ => none
      | _ => none
    | _, _, _, _ => none
  | _ => none
/-- The same, other operations ahead of it. -/
def deferL (P : Program) (call : CallF) (ops : List Oper) (top : Bool) : List Oper → S → H → CX
  | [], _, _ => none
  | o :: r, s, Hp => match deferX top s Hp (o :: r) with
    | some x => some x
    | none => match guardX ops s o with
      | some true => match opX P call s Hp o with
        | some (s2, H2) => deferL P call ops top r s2 H2
        | none => none
      | some false => deferL P call ops top r (putD s o.dst (.tup [])) Hp
      | none => none
def regionX (P : Program) (call : CallF) (pt : T (Nat × Plan)) (top : Bool) (id : Nat) (ops : List Oper) (draw : Bool) (s : S) (Hp : H) : CX := match draw with
  | false => match opsX P call ops ops s Hp with
    | some (.normal, s2, H2) => some (.normal, s2.flush, H2)
    | some (.panic v, _, H2) => some (.panic v, s.cut ops, H2)
    | some _ => none
    | none => deferL P call ops top ops s Hp
  | true => match pt.get id with
    | some (m, p) => match drawX P call ops Hp.h m p.musts true p s ⟨Hp.h, Hp.n, [], Hp.ds⟩ [] with
      | some (.normal, s2, H2, W, rd) => match apartX W rd with
        | true => some (.normal, s2.flush, ⟨H2.h, H2.n, H2.log ++ Hp.log, H2.ds⟩)
        | false => none
      | some (.panic v, _, H2, W, rd) => match apartX W rd with
        | true => some (.panic v, s.cut ops, ⟨H2.h, H2.n, H2.log ++ Hp.log, H2.ds⟩)
        | false => none
      | _ => none
    | none => none

def loopX (f : S → H → CX) : Nat → S → H → CX
  | 0, _, _ => none
  | n + 1, s, Hp => match f s Hp with
    | some (.normal, s2, H2) => loopX f n s2 H2
    | r => r
/-- What a range over a function comes to. -/
def endX (s : S) (n : Nat) (H2 : H) : CX := match H2.h.get (Nat.succ n) with
  | some (.loop _ .ready) => some (.normal, s, ⟨H2.h.set (Nat.succ n) .gone, H2.n, Nat.succ n :: H2.log, .mark n :: H2.ds⟩)
  | some (.loop _ (.done .ret)) => some (.ret, s, ⟨H2.h.set (Nat.succ n) .gone, H2.n, Nat.succ n :: H2.log, .mark n :: H2.ds⟩)
  | some (.loop _ (.done (.exit id))) => some (.exit id, s, ⟨H2.h.set (Nat.succ n) .gone, H2.n, Nat.succ n :: H2.log, .mark n :: H2.ds⟩)
  | _ => none
def rangeX (call : CallF) (pt : T (Nat × Plan)) (N : Nat) (ps : List Nat) (assign body : Code) (s : S) (Hp : H) : Option V → CX
  | some (.fn (.func gf) A B) => match call.f gf (A ++ (.yld (Nat.succ Hp.n) :: B)) ((Hp.new .defer).new (.loop ⟨s, ps, assign, body, pt, N⟩ .ready)) with
    | some (_, H2) => endX s Hp.n H2
    | none => none
  | _ => none
def codeX (P : Program) (call : CallF) (pt : T (Nat × Plan)) (lf : Nat) (top : Bool) (N : Nat) : Code → S → H → CX
  | .skip, s, Hp => some (.normal, s, Hp)
  | .ret, s, Hp => some (.ret, s, Hp)
  | .exit id, s, Hp => some (.exit id, s, Hp)
  | .seq a b, s, Hp => match codeX P call pt lf top N a s Hp with
    | some (.normal, s2, H2) => codeX P call pt lf top N b s2 H2
    | r => r
  | .cond x a b, s, Hp => match evX s x with
    | some (.bool true) => codeX P call pt lf top N a s Hp
    | some (.bool false) => codeX P call pt lf top N b s Hp
    | _ => none
  | .block id a, s, Hp => match codeX P call pt lf top N a s Hp with
    | some (.exit id', s2, H2) => match Nat.beq id' id with
      | true => some (.normal, s2, H2)
      | false => some (.exit id', s2, H2)
    | r => r
  | .loop a, s, Hp => loopX (codeX P call pt lf top N a) lf s Hp
  | .region id ops draw, s, Hp => regionX P call pt top id ops.toList draw s Hp
  | .rangeFunc x ps assign body, s, Hp => match top with
    | true => rangeX call pt N ps.toList assign body s Hp (evX s x)
    | false => none
  | _, _, _ => none

def psOk (N : Nat) : List Nat → Bool
  | [] => true
  | p :: r => match Nat.blt p N with
    | true => psOk N r
    | false => false
theorem psOk_ok {N : Nat} : ∀ {ps : List Nat}, psOk N ps = true → (ps.all fun p => Nat.blt p N) = true
  | [], _ => rfl
  | p :: r, h => by
    simp only [psOk] at h
    split at h
    · rename_i h1; simp only [List.all_cons, h1, Bool.true_and]; exact psOk_ok h
    · cases h
def codeOk (N : Nat) (pt : T (Nat × Plan)) : Code → Bool
  | .seq a b => match codeOk N pt a with
    | true => codeOk N pt b
    | false => false
  | .cond _ a b => match codeOk N pt a with
    | true => codeOk N pt b
    | false => false
  | .block _ a => codeOk N pt a
  | .loop a => codeOk N pt a
  | .region id ops draw => match dstOk N ops.toList, draw with
    | true, false => true
    | true, true => match pt.get id with
      | some (m, p) => (Region.noSelect ops && lateT ops.toList m && (fastOk ops m p || planOk ops m p ops.size (Array.replicate ops.size false))) && calmsOk p.musts p
      | none => true
    | false, _ => false
  | _ => true

theorem covS_cut {bs : Bs} {s : S} {σs : List (Nat × Value)} {ops : Array Oper} (h : CovS bs s σs) : CovS bs (s.cut ops.toList) (keepS ops σs) := fun t v hv => by
  obtain ⟨h1, h2⟩ := S.get_cut hv
  obtain ⟨v', h3, h4⟩ := h t v h1
  exact ⟨v', look_keepS.2 ⟨h3, h2⟩, h4⟩

section
variable {c : Cx} {call : CallF} {pt : T (Nat × Plan)} {lf : Nat} {top : Bool}
theorem deferX_ok (htop : top = true → c.r = none) {ops : Array Oper} {l : List Oper} {bs : Bs} {s : S} {Hp : H} {M F : List (Nat × Obj)} {σ : St} {e : EX} {s2 : S} {H2 : H} (hcov : Cov bs s Hp M F σ) {K : Exit → St → Prop} (hc : deferX top s Hp l = some (e, s2, H2)) (hk : ∀ e' σ', DoneK bs Hp M F e s2 H2 e' σ' → K e' σ') : WL c ops l K σ := by
  unfold deferX at hc
  split at hc
  · rename_i o
    split at hc
    · rename_i cl ho hg hd
      obtain ⟨cal, args, tys⟩ := cl
      split at hc
      · rename_i x hx
        simp only at hx hc
        subst hx
        split at hc
        · rename_i f A B vs h1 h2
          cases hc
          obtain ⟨x', h3, h4⟩ := evX_ok hcov.slots h1
          obtain ⟨vs', h5, h6⟩ := evsX_ok hcov.slots h2
          cases h4
          rename_i A' B' hA hB
          refine WL_op hg (OW_defer (htop rfl) ho h3 h5 (by rw [hd]; rfl) ?_)
          rw [hd]
          refine WL_nil (hk _ _ ⟨rfl, [], M, ⟨A' ++ vs', B', σ.D, by simpa using hA.append h6, by simpa using hB, by simp [St.put], by simpa using hcov.D⟩, hcov.L, by rw [List.append_nil]; exact hcov.slots, by simpa using ⟨hcov.mem.n, hcov.mem.at_, hcov.mem.inj⟩, fun _ h => h, fun W B _ hB => by
            simp only [List.append_nil]; exact fun q hq => hB q hq⟩)
        · cases hc
      · cases hc
    · cases hc
  · cases hc
theorem deferL_ok (hcall : CallOk c.P call) (htop : top = true → c.r = none) {ops : Array Oper} : ∀ (l : List Oper) {bs : Bs} {s : S} {Hp : H} {M F : List (Nat × Obj)} {e : EX} {s2 : S} {H2 : H} {σ : St} {K : Exit → St → Prop}, (∀ o ∈ l, dok c.N o.dst = true) → Cov bs s Hp M F σ → deferL c.P call ops.toList top l s Hp = some (e, s2, H2) → (∀ e' σ', DoneK bs Hp M F e s2 H2 e' σ' → K e' σ') → WL c ops l K σ
  | [], _, _, _, _, _, _, _, _, _, _, _, _, hc, _ => by cases hc
  | o :: r, bs, s, Hp, M, F, e, s2, H2, σ, K, hd, hcov, hc, hk => by
    have hd1 := hd o List.mem_cons_self
    have hd2 := fun p hp => hd p (List.mem_cons_of_mem _ hp)
    simp only [deferL] at hc
    split at hc
    · rename_i x hx
      cases hc
      exact deferX_ok htop hcov hx hk
    · skip
      split at hc
      · rename_i hg
        have go : OW c o (WL c ops r K) K σ → WL c ops (o :: r) K σ := fun hW => by
          rcases guardX_ok hcov.slots hg with ⟨_, hgn⟩ | ⟨j, want, og, dg, hg1, hj, hdg, ⟨_, hb⟩ | ⟨hb, _⟩⟩
          · exact WL_op hgn hW
          · exact WL_guard hg1 hj hdg hb (fun _ => hW) hd1 (fun e => by cases want <;> cases e)
          · cases hb
        split at hc
        · rename_i s1 H1 h1
          exact go ((opX_ok hcall hd1 hcov h1).mono fun σ1 hp1 => by
            obtain ⟨r1, M1, hcov1, hl1, hp1, _⟩ := hp1.split
            exact deferL_ok hcall htop r hd2 hcov1 hc fun e' σ' hp2 => hk e' σ' (DoneK.comp hl1 hp1 hp2))
        · cases hc
      · rename_i hg
        have hrest : WL c ops r K (σ.put o.dst undef) := deferL_ok hcall htop r hd2 (hcov.undef o.dst) hc hk
        rcases guardX_ok hcov.slots hg with ⟨hb, _⟩ | ⟨j, want, og, dg, hg1, hj, hdg, ⟨hb, _⟩ | ⟨_, u, hu, rfl | rfl⟩⟩
        · cases hb
        · cases hb
        · exact WL_guard hg1 hj hdg hu (fun e => by cases want <;> cases e) hd1 (fun _ => hrest)
        · exact WL_guard_undef hg1 hj hdg hu hd1 hrest
      · cases hc

theorem regionX_ok (hcall : CallOk c.P call) (hmix : c.P.follows .mixedOrders = true) (htop : top = true → c.r = none) {id : Nat} {ops : Array Oper} {draw : Bool} {bs : Bs} {s : S} {Hp : H} {M F : List (Nat × Obj)} {σ : St} {e : EX} {s2 : S} {H2 : H} (hok : codeOk c.N pt (.region id ops draw) = true) (hcov : Cov bs s Hp M F σ) (hc : regionX c.P call pt top id ops.toList draw s Hp = some (e, s2, H2)) : WC c (.region id ops draw) (DoneK bs Hp M F e s2 H2) σ := by
  have norm : ∀ {s3 : S} {Hx : H} (e' : Exit) (σ' : St), (∀ ch, e' ≠ .panic ch) → DoneK bs Hp M F .normal s3 Hx e' σ' → DoneK bs Hp M F .normal s3.flush Hx e' σ' := fun e' σ' _ h => ⟨h.1, Post.sub h.2 fun t v => S.get_flush⟩
  have nopan : ∀ {v : V} {s3 s4 : S} {Hx : H} (e' : Exit) (σ' : St), (∀ ch, e' ≠ .panic ch) → DoneK bs Hp M F (.panic v) s3 Hx e' σ' → DoneK bs Hp M F (.panic v) s4 Hx e' σ' := fun e' σ' h1 h => by
    obtain ⟨v', h2, _⟩ := h; exact absurd h2 (h1 _)
  have pank : ∀ {v : V} {s3 : S} {Hx : H} (ch : List PanicEntry) (D : List Deferred) (L : List (Nat × Obj)), DoneK bs Hp M F (.panic v) s3 Hx (.panic ch) ⟨[], D, L⟩ → DoneK bs Hp M F (.panic v) (s.cut ops.toList) Hx (.panic ch) ⟨keepS ops σ.s, D, L⟩ := fun ch D L h => by
    obtain ⟨v', h1, r, M', f1, f2, f3, f4⟩ := h
    exact ⟨v', h1, r, M', f1, f2, covS_cut (hcov.slots.mono r), f4⟩
  have nopan2 : ∀ {s3 s4 : S} {Hx : H} (ch : List PanicEntry) (D : List Deferred) (L : List (Nat × Obj)), DoneK bs Hp M F .normal s3 Hx (.panic ch) ⟨[], D, L⟩ → DoneK bs Hp M F .normal s4 Hx (.panic ch) ⟨keepS ops σ.s, D, L⟩ := fun ch D L h => by
    obtain ⟨h1, _⟩ := h; cases h1
  unfold regionX at hc
  unfold codeOk at hok
  split at hc
  · split at hok
    · rename_i hd _
      split at hc
      · rename_i h1
        cases hc
        refine WC_app (ops' := ops.toList.toArray) (by simp) (WC_regionP norm (by simpa using nopan2) ?_)
        simp only [Array.toArray_toList]
        exact opsX_ok hcall ops.toList (dstOk_mem hd) hcov h1 fun e' σ' hp => hp
      · rename_i v s3 H3 h1
        cases hc
        refine WC_app (ops' := ops.toList.toArray) (by simp) (WC_regionP (K0 := DoneK bs Hp M F (.panic v) s3 H2) nopan (by simpa using pank (v := v) (s3 := s3) (Hx := H2)) ?_)
        simp only [Array.toArray_toList]
        exact opsX_ok hcall ops.toList (dstOk_mem hd) hcov h1 fun e' σ' hp => hp
      · cases hc
      · exact WC_app (ops' := ops.toList.toArray) (by simp) (WC_region (deferL_ok hcall htop _ (fun o ho => dstOk_mem hd o (by simpa using ho)) hcov (by simpa using hc) fun _ _ h => h))
    · rename_i h; cases h
    · cases hok
  · split at hc
    · rename_i m p hpt
      have main : ∀ {e : EX} {s3 : S} {H3 : H} {W0 rd : List Nat} {K : Exit → St → Prop}, drawX c.P call ops.toList Hp.h m p.musts true p s ⟨Hp.h, Hp.n, [], Hp.ds⟩ [] = some (e, s3, H3, W0, rd) → apartX W0 rd = true →
          (∀ e' σ', (∀ ch, e' ≠ .panic ch) → DoneK bs Hp M F e s3 ⟨H3.h, H3.n, H3.log ++ Hp.log, H3.ds⟩ e' σ' → K e' σ') → (∀ ch D L, DoneK bs Hp M F e s3 ⟨H3.h, H3.n, H3.log ++ Hp.log, H3.ds⟩ (.panic ch) ⟨[], D, L⟩ → K (.panic ch) ⟨keepS ops σ.s, D, L⟩) → WC c (.region id ops true) K σ := by
        intro e s3 H3 W0 rd K h1 hap hk1 hk2
        split at hok
        · rename_i h; cases h
        · rename_i hd _
          rw [hpt] at hok
          classical
          let Ls : List (Nat × Obj) := σ.L.filter fun q => decide (q ∈ M ∧ ∀ j o x y, Hp.h.get j = some o → bs[j]? = some (q.1, x, y) → j ∉ W0)
          have hLs : ∀ q, q ∈ Ls ↔ q ∈ σ.L ∧ q ∈ M ∧ ∀ j o x y, Hp.h.get j = some o → bs[j]? = some (q.1, x, y) → j ∉ W0 := fun q => by
            simp only [Ls, List.mem_filter, decide_eq_true_eq]
          rw [Bool.and_eq_true] at hok
          have hok1 : (Region.noSelect ops && lateT ops.toList m && planOk ops m p ops.size (Array.replicate ops.size false)) = true := by
            have h1 := hok.1
            rw [Bool.and_eq_true, Bool.or_eq_true] at h1
            rw [Bool.and_eq_true]
            exact ⟨h1.1, h1.2.elim fastOk_ok fun h => h⟩
          refine WC_drawP (K0 := DoneK bs Hp M F e s3 ⟨H3.h, H3.n, H3.log ++ Hp.log, H3.ds⟩) Ls m p hmix hok1 hok.2 List.filter_sublist hk1 hk2 ?_
          have hcov0 : Cov (bs ++ []) s ⟨Hp.h, Hp.n, [], Hp.ds⟩ M F σ := ⟨by simpa using hcov.slots, by simpa using hcov.D, by simpa using ⟨hcov.mem.n, hcov.mem.at_, hcov.mem.inj⟩, hcov.L⟩
          refine drawX_ok (bs0 := bs) (W := W0) (R := rd) (h0 := Hp.h) (Ls := Ls) hcall (dstOk_mem hd) (apartX_ok hap) ?_ ?_ p (r := []) h1 (fun _ h => h) (fun _ h => h) hcov0 ?_ ?_
          · intro k o hk hkW
            obtain ⟨b, base, av, i, o', a1, a2, a3⟩ := hcov.mem.at_ k o hk
            have hmem : (b, o') ∈ Ls := (hLs _).2 ⟨by rw [hcov.L]; exact List.mem_append_left _ (List.mem_of_getElem? a2), List.mem_of_getElem? a2, fun j u x y hj hb => by
              rw [hcov.mem.inj j k u o b x y base av hj hk hb a1]; exact hkW⟩
            obtain ⟨i2, hi2⟩ := List.mem_iff_getElem?.1 hmem
            exact ⟨b, base, av, i2, o', a1, hi2, a3⟩
          · intro k o hk
            obtain ⟨b, base, av, i, o', a1, a2, a3⟩ := hcov.mem.at_ k o hk
            exact ⟨b, base, av, i, o', a1, by rw [hcov.L, List.getElem?_append_left (List.getElem?_eq_some_iff.1 a2).1]; exact a2, a3⟩
          · intro q hq
            obtain ⟨_, h2, h3⟩ := (hLs q).1 hq
            exact ⟨h2, fun j o x y hj hb => h3 j o x y hj (by simpa using hb)⟩
          · intro e' σ' hd
            have turn : ∀ {A : Bs → Prop}, (∃ (r : Bs) (M' : List (Nat × Obj)), RD (bs ++ [] ++ r) H3.ds σ'.D ∧ σ'.L = M' ++ F ∧ CovS (bs ++ [] ++ r) s3 σ'.s ∧ HCov (bs ++ [] ++ r) H3 M' ∧ (∀ k ∈ ([] : List Nat), k ∈ H3.log) ∧ (∀ W B, (∀ k ∈ H3.log, k ∈ W) → Prot (bs ++ []) ⟨Hp.h, Hp.n, [], Hp.ds⟩ M W B → Prot (bs ++ [] ++ r) H3 M' W B) ∧ A (bs ++ [] ++ r)) →
                ∃ (r : Bs) (M' : List (Nat × Obj)), RD (bs ++ r) H3.ds σ'.D ∧ σ'.L = M' ++ F ∧ CovS (bs ++ r) s3 σ'.s ∧ HCov (bs ++ r) ⟨H3.h, H3.n, H3.log ++ Hp.log, H3.ds⟩ M' ∧ (∀ k ∈ Hp.log, k ∈ H3.log ++ Hp.log) ∧ (∀ W B, (∀ k ∈ H3.log ++ Hp.log, k ∈ W) → Prot bs Hp M W B → Prot (bs ++ r) ⟨H3.h, H3.n, H3.log ++ Hp.log, H3.ds⟩ M' W B) ∧ A (bs ++ r) := by
              rintro A ⟨r, M', f1, f2, f3, f4, f5, f6, f7⟩
              rw [List.append_nil] at f1 f3 f4 f6 f7
              refine ⟨r, M', f1, f2, f3, ⟨f4.n, f4.at_, f4.inj⟩, fun k hk => List.mem_append_right _ hk, fun W B hW hB => ?_, f7⟩
              have := f6 W B (fun k hk => hW k (List.mem_append_left _ hk)) (by simpa [Prot] using hB)
              exact fun q hq => this q hq
            have turn2 : Post (bs ++ []) ⟨Hp.h, Hp.n, [], Hp.ds⟩ M F s3 H3 σ' → Post bs Hp M F s3 ⟨H3.h, H3.n, H3.log ++ Hp.log, H3.ds⟩ σ' := fun ⟨r, M', f1, f2, f3, f4, f5, f6⟩ => by
              obtain ⟨r, M', g1, g2, g3, g4, g5, g6, _⟩ := turn (A := fun _ => True) ⟨r, M', f1, f2, f3, f4, f5, f6, trivial⟩
              exact ⟨r, M', g1, g2, g3, g4, g5, g6⟩
            cases e with
            | panic v => obtain ⟨v', h1, h2⟩ := hd; exact ⟨v', h1, turn (A := fun bs => RV bs v v') h2⟩
            | normal => exact ⟨hd.1, turn2 hd.2⟩
            | ret => exact ⟨hd.1, turn2 hd.2⟩
            | exit id => exact ⟨hd.1, turn2 hd.2⟩
        · cases hok
      split at hc
      · rename_i s3 H3 W0 rd h1
        split at hc
        · rename_i hap
          cases hc
          exact main h1 hap norm nopan2
        · cases hc
      · rename_i v s3 H3 W0 rd h1
        split at hc
        · rename_i hap
          cases hc
          exact main h1 hap nopan pank
        · cases hc
      · cases hc
    · cases hc

theorem WC_loopX {x : Code} {K : Exit → St → Prop} {σ : St} (I : Nat → St → Prop) (m : Nat) (h0 : I m σ)
    (round : ∀ m σ, I m σ → WC c x (thenK (fun σ' => ∃ m', m' < m ∧ I m' σ') K) σ) : WC c (.loop x) K σ := fun a w ha => by
  let p : Act → World → Nat → Prop := fun a w m => ∃ σ, Holds c.g c.N σ a w ∧ I m σ
  refine wpIn_loop (fun a w => ∃ m, p a w m) (fun a w => leastOf (p a w)) ⟨m, σ, ha, h0⟩ ?_
  intro a w hp
  obtain ⟨⟨σ1, hs1, hi1⟩, hmin⟩ := leastOf_spec hp
  refine Go.wpIn_mono (round _ σ1 hi1 a w hs1) (fun e a' w' hl => ?_)
  cases e with
  | normal =>
    obtain ⟨σ', h1, m', hlt, hI⟩ := hl
    have hp' : ∃ m, p a' w' m := ⟨m', σ', h1, hI⟩
    exact ⟨hp', Nat.lt_of_le_of_lt ((leastOf_spec hp').2 m' ⟨σ', h1, hI⟩) hlt⟩
  | _ => exact hl

theorem memNot {M F : List (Nat × Obj)} {g w : World} (hm : Mem g (M ++ F) w) : w.heap.size ∉ M.map Prod.fst := fun hx => by
  obtain ⟨p, hp, e⟩ := List.mem_map.1 hx
  have := hm.lt p (List.mem_append_left _ hp)
  omega

theorem Post_mark {bs : Bs} {Hp : H} {M F : List (Nat × Obj)} {s2 : S} {H2 : H} {σ : St} {k b x y : Nat} (h : Post bs Hp M F s2 H2 σ) (hk : bs[k]? = some (b, x, y)) : Post bs Hp M F s2 ⟨H2.h, H2.n, H2.log, .mark k :: H2.ds⟩ ⟨σ.s, markD b :: σ.D, σ.L⟩ := by
  obtain ⟨r, M', f1, f2, f3, f4, f5, f6⟩ := h
  exact ⟨r, M', ⟨b, x, y, σ.D, bs_mono hk, rfl, f1⟩, f2, f3, ⟨f4.n, f4.at_, f4.inj⟩, f5, fun W B hW hB => by
    have := f6 W B hW hB
    exact fun q hq => this q hq⟩

theorem rangeX_ok (hcall : CallOk c.P call) (hr : c.r = none) {x : Operand} {ps : Array Nat} {assign body : Code} {bs : Bs} {s : S} {Hp : H} {M F : List (Nat × Obj)} {σ : St} {e : EX} {s2 : S} {H2 : H} (hcov : Cov bs s Hp M F σ) (hc : rangeX call pt c.N ps.toList assign body s Hp (evX s x) = some (e, s2, H2)) : WC c (.rangeFunc x ps assign body) (DoneK bs Hp M F e s2 H2) σ := by
  obtain ⟨P, g, N, n, rr⟩ := c
  cases hr
  generalize hx : evX s x = ex at hc
  unfold rangeX at hc
  split at hc
  · rename_i gf A B
    split at hc
    · rename_i v H3 hcl
      obtain ⟨x', h1, h2⟩ := evX_ok hcov.slots hx
      cases h2
      rename_i A' B' hA hB
      have hfc := hcall.fc _ _ _ _ _ hcl
      haveI := hfc
      intro a w ha
      refine wpIn_rangeFunc ?_
      intro fn _
      obtain ⟨rec, hrec⟩ : ∃ rec : Loop, rec = { state := .ready, pending := none, fn, tmps := a.tmps, params := ps, assign, body, defers := w.heap.size } := ⟨_, rfl⟩
      obtain ⟨W1, hW1⟩ : ∃ W1, (w.alloc (.deferred (some []))).alloc (.loop rec) = W1 := ⟨_, rfl⟩
      have hmw := ha.mem
      rw [hcov.L] at hmw
      have hm1 : Mem g ((w.heap.size + 1, .loop rec) :: (w.heap.size, .deferred (some [])) :: (M ++ F)) W1 := by
        have := (hmw.alloc (.deferred (some []))).alloc (.loop rec)
        rw [World.size_alloc] at this
        rw [← hW1]; exact this
      have hd0 : w.heap.size ∉ M.map Prod.fst := memNot hmw
      have hl0 : w.heap.size + 1 ∉ ((w.heap.size, Obj.deferred (some [])) :: M).map Prod.fst := fun hx => by
        have := hm1.nodup
        simp only [List.map_cons, List.nodup_cons, List.map_append, List.mem_cons, List.mem_append] at this hx
        rcases hx with hx | hx
        · exact this.1 (.inl hx)
        · exact this.1 (.inr (.inl hx))
      refine ⟨w.heap.size + 1, [markD w.heap.size], W1, { target := .fn (.func gf) B'.toArray, args := A'.toArray ++ #[.func (.yield (w.heap.size + 1)) #[] #[]] }, W1, gf, A'.toArray ++ #[.func (.yield (w.heap.size + 1)) #[] #[]] ++ B'.toArray, W1, ?_, ?_, fun _ _ => trivial, ?_, fun h => by simp at h, ?_⟩
      · rw [← hW1, hrec]; exact run_enterLoop_outer _ _ _ _ _
      · have := ha.ev h1
        simp [resolve, this, Deferred.ofValue, show ∀ v, a.eval (.const v) = v from fun _ => rfl]
      · simp [invoke, hfc.h]
      · generalize hl : w.heap.size + 1 = l at hm1 hl0 ⊢
        generalize hd : w.heap.size = d at hm1 hd0 hl0 ⊢
        have hc1 : HCov (bs ++ [(d, 0, 0)]) (Hp.new .defer) ((d, .deferred (some [])) :: M) := hcov.mem.new hd0 rfl
        have hp1 := fun W B (h : Prot bs Hp M W B) => Prot.new (o := .defer) (o' := .deferred (some [])) (av := 0) hcov.mem hd0 h
        have hlen : (Hp.new .defer).n = (bs ++ [(d, 0, 0)]).length := hc1.n
        have hro : RO ((bs ++ [(d, 0, 0)]) ++ [(l, 0, 0)]) l 0 0 (.loop ⟨s, ps.toList, assign, body, pt, N⟩ .ready) (.loop rec) := by
          refine ⟨rec, σ.s, rfl, by rw [hrec], by rw [hrec], by rw [hrec], by rw [hrec]; exact ha.size, (hcov.slots.mono _).mono _, fun t v hv => by rw [hrec]; exact ha.slots t v hv, by rw [hrec]; exact ⟨rfl, rfl⟩⟩
        have hc2 := hc1.new hl0 hro
        have hp2 := fun W B (h : Prot (bs ++ [(d, 0, 0)]) (Hp.new .defer) ((d, .deferred (some [])) :: M) W B) => Prot.new (o := .loop ⟨s, ps.toList, assign, body, pt, N⟩ .ready) (o' := .loop rec) (av := 0) hc1 hl0 h
        have hkl : ((bs ++ [(d, 0, 0)]) ++ [(l, 0, 0)])[Nat.succ Hp.n]? = some (l, 0, 0) := by
          have := bs_last (bs := bs ++ [(d, 0, 0)]) (l, 0, 0)
          rw [← hlen] at this; exact this
        have hkd : ((bs ++ [(d, 0, 0)]) ++ [(l, 0, 0)])[Hp.n]? = some (d, 0, 0) := bs_mono (by rw [hcov.mem.n]; exact bs_last _)
        have hF := hcall.fn _ _ _ _ _ hcl _ _ F (A' ++ (.func (.yield l) #[] #[] :: B')) hc2 (((hA.mono _).mono _).append (.cons (.yld hkl) ((hB.mono _).mono _)))
        have hcc := callsIn_fw none (n - 1) (hF g W1 hm1)
        have e : (A' ++ (Value.func (.yield l) #[] #[] :: B')).toArray = A'.toArray ++ #[.func (.yield l) #[] #[]] ++ B'.toArray := by apply Array.ext'; simp
        rw [e] at hcc
        refine hcc.mono fun e w' ⟨v', L2, g1, g2, r, M', g3, g4, g5, g6, g7, g8⟩ => ?_
        subst g1 g3
        -- where the loop's block is
        have fin : ∀ (st : LSt) (cl : Clo) (ex : EX) (pe : Option Code), H3.h.get (Nat.succ Hp.n) = some (.loop cl st) → (∀ r : Loop, st.fits r → r.pending = pe ∧ r.state ≠ .busy) → s2 = s → H2 = ⟨H3.h.set (Nat.succ Hp.n) .gone, H3.n, Nat.succ Hp.n :: H3.log, .mark Hp.n :: H3.ds⟩ →
            ∃ w4, (Instr.endLoop l).run P w' = .ok pe w4 ∧ ∃ σ3, Holds g N σ3 { a with defers := markD d :: a.defers } w4 ∧ Post bs Hp M F s2 H2 σ3 := by
          intro st cl ex pe hg hst hs hH
          obtain ⟨l', x1, x2, i, o', a1, a2, rec', σs, rfl, a3, a4, a5, a6, a7, a8, a9⟩ := g5.at_ _ _ hg
          rw [bs_mono hkl] at a1; cases a1
          obtain ⟨b1, b2⟩ := hst rec' a9
          have hi2 : (M' ++ F)[i]? = some (l, .loop rec') := by rw [List.getElem?_append_left (List.getElem?_eq_some_iff.1 a2).1]; exact a2
          have hend := run_endLoop (P := P) (g2.at_ hi2) b2
          have hm4 := g2.putObj hi2 (.loop { rec' with state := .exhausted })
          refine ⟨w'.putObj l (.loop { rec' with state := .exhausted }), by rw [hend, b1], ⟨σ.s, markD d :: σ.D, (M' ++ F).set i (l, .loop { rec' with state := .exhausted })⟩, ⟨ha.size, ha.slots, by show markD d :: a.defers = _; rw [ha.defers], hm4⟩, ?_⟩
          subst hs hH
          have hcov3 : Cov ((bs ++ [(d, 0, 0)] ++ [(l, 0, 0)]) ++ r) s2 H3 M' F ⟨σ.s, σ.D, M' ++ F⟩ := ⟨((hcov.slots.mono _).mono _).mono r, by rw [g6]; exact ((hcov.D.mono _).mono _).mono r, g5, rfl⟩
          have hupd := Post_upd (σ' := ⟨σ.s, σ.D, (M' ++ F).set i (l, .loop { rec' with state := .exhausted })⟩) (s2 := s2) (ob2 := .gone) hcov3 g2.nodup hg (bs_mono hkl) a2 trivial hcov3.slots rfl rfl
          have hmark := Post_mark hupd (bs_mono hkd)
          have hcomp := Post.comp (r := r) g7 (fun W B hW hB => g8 W B hW hB) hmark
          have hcomp2 := Post.comp (r := [(l, 0, 0)]) (Hp := Hp.new .defer) (H1 := (Hp.new .defer).new (.loop ⟨s2, ps.toList, assign, body, pt, N⟩ .ready)) (M1 := (l, .loop rec) :: (d, .deferred (some [])) :: M) (fun _ h => h) (fun W B _ hB => hp2 W B hB) hcomp
          exact Post.comp (r := [(d, 0, 0)]) (Hp := Hp) (H1 := Hp.new .defer) (M1 := (d, .deferred (some [])) :: M) (fun _ h => h) (fun W B _ hB => hp1 W B hB) hcomp2
        unfold endX at hc
        split at hc
        · rename_i cl hg
          cases hc
          obtain ⟨w4, k1, σ3, k2, k3⟩ := fin .ready cl .normal none hg (fun r h => ⟨h.2, by rw [h.1]; simp⟩) rfl rfl
          exact ⟨none, w4, k1, σ3, k2, rfl, k3⟩
        · rename_i cl hg
          cases hc
          obtain ⟨w4, k1, σ3, k2, k3⟩ := fin (.done .ret) cl .ret (some .ret) hg (fun r h => ⟨h.2, by rw [h.1]; simp⟩) rfl rfl
          exact ⟨some .ret, w4, k1, WC_ret ⟨rfl, k3⟩ _ _ k2⟩
        · rename_i cl id hg
          cases hc
          obtain ⟨w4, k1, σ3, k2, k3⟩ := fin (.done (.exit id)) cl (.exit id) (some (.exit id)) hg (fun r h => ⟨h.2, by rw [h.1]; simp⟩) rfl rfl
          exact ⟨some (.exit id), w4, k1, WC_exit ⟨rfl, k3⟩ _ _ k2⟩
        · cases hc
    · cases hc
  · cases hc

theorem deferX_ext {s : S} {Hp : H} {l : List Oper} {e : EX} {s2 : S} {H2 : H} (h : deferX top s Hp l = some (e, s2, H2)) : Ext Hp H2 := by
  unfold deferX at h
  split at h
  · split at h
    · split at h
      · split at h
        · cases h; exact (Ext.refl Hp).ds
        · cases h
      · cases h
    · cases h
  · cases h
theorem deferL_ext {P : Program} {call : CallF} (hcall : CallOk P call) {ops : List Oper} {top : Bool} : ∀ {l : List Oper} {s : S} {Hp : H} {e : EX} {s2 : S} {H2 : H}, deferL P call ops top l s Hp = some (e, s2, H2) → Ext Hp H2
  | [], _, _, _, _, _, h => by cases h
  | o :: r, s, Hp, e, s2, H2, h => by
    simp only [deferL] at h
    split at h
    · rename_i x hx; cases h; exact deferX_ext hx
    · split at h
      · split at h
        · rename_i h1; exact (opX_ext hcall h1).trans (deferL_ext hcall h)
        · cases h
      · exact deferL_ext hcall h
      · cases h
theorem regionX_ext {P : Program} (hcall : CallOk P call) {id : Nat} {ops : List Oper} {draw : Bool} {s : S} {Hp : H} {e : EX} {s2 : S} {H2 : H} (h : regionX P call pt top id ops draw s Hp = some (e, s2, H2)) : Ext Hp H2 := by
  unfold regionX at h
  split at h
  · split at h
    · rename_i h1; cases h; exact opsX_ext hcall h1
    · rename_i h1; cases h; exact opsX_ext hcall h1
    · cases h
    · exact deferL_ext hcall h
  · split at h
    · split at h
      · rename_i h1
        split at h
        · cases h; exact (drawX_ext hcall h1).1.app
        · cases h
      · rename_i h1
        split at h
        · cases h; exact (drawX_ext hcall h1).1.app
        · cases h
      · cases h
    · cases h
theorem loopX_ext {f : S → H → CX} (hf : ∀ {s Hp e s2 H2}, f s Hp = some (e, s2, H2) → Ext Hp H2) : ∀ {n : Nat} {s : S} {Hp : H} {e : EX} {s2 : S} {H2 : H}, loopX f n s Hp = some (e, s2, H2) → Ext Hp H2
  | 0, _, _, _, _, _, h => by cases h
  | n + 1, s, Hp, e, s2, H2, h => by
    simp only [loopX] at h
    split at h
    · rename_i h1; exact (hf h1).trans (loopX_ext hf h)
    · exact hf h
theorem rangeX_ext {P : Program} (hcall : CallOk P call) {N : Nat} {ps : List Nat} {assign body : Code} {s : S} {Hp : H} {v : Option V} {e : EX} {s2 : S} {H2 : H} (h : rangeX call pt N ps assign body s Hp v = some (e, s2, H2)) : Ext Hp H2 := by
  unfold rangeX at h
  split at h
  · split at h
    · rename_i h1
      have h2 := ((Ext.new Hp .defer).trans (Ext.new _ _)).trans (hcall.fx _ _ _ _ _ h1)
      unfold endX at h
      split at h
      · cases h; exact (h2.trans (Ext.upd _ (Nat.succ Hp.n) .gone)).ds
      · cases h; exact (h2.trans (Ext.upd _ (Nat.succ Hp.n) .gone)).ds
      · cases h; exact (h2.trans (Ext.upd _ (Nat.succ Hp.n) .gone)).ds
      · cases h
    · cases h
  · cases h
theorem codeX_ext {P : Program} (hcall : CallOk P call) {N : Nat} : ∀ (code : Code) {s : S} {Hp : H} {e : EX} {s2 : S} {H2 : H}, codeX P call pt lf top N code s Hp = some (e, s2, H2) → Ext Hp H2 := by
  intro code
  induction code with
  | skip => intro s Hp e s2 H2 h; cases h; exact .refl _
  | ret => intro s Hp e s2 H2 h; cases h; exact .refl _
  | exit id => intro s Hp e s2 H2 h; cases h; exact .refl _
  | seq a b iha ihb =>
    intro s Hp e s2 H2 h
    simp only [codeX] at h
    split at h
    · rename_i h1; exact (iha h1).trans (ihb h)
    · exact iha h
  | cond x a b iha ihb =>
    intro s Hp e s2 H2 h
    simp only [codeX] at h
    split at h
    · exact iha h
    · exact ihb h
    · cases h
  | block id a ih =>
    intro s Hp e s2 H2 h
    simp only [codeX] at h
    split at h
    · rename_i h1
      split at h
      · cases h; exact ih h1
      · cases h; exact ih h1
    · exact ih h
  | loop a ih =>
    intro s Hp e s2 H2 h
    simp only [codeX] at h
    exact loopX_ext ih h
  | rangeFunc x ps assign body =>
    intro s Hp e s2 H2 h
    simp only [codeX] at h
    split at h
    · exact rangeX_ext hcall h
    · cases h
  | region id ops draw =>
    intro s Hp e s2 H2 h
    exact regionX_ext hcall h
  | _ => intro s Hp e s2 H2 h; cases h

theorem codeX_ok (hcall : CallOk c.P call) (hmix : c.P.follows .mixedOrders = true) (htop : top = true → c.r = none) : ∀ (code : Code) {bs : Bs} {s : S} {Hp : H} {M F : List (Nat × Obj)} {σ : St} {e : EX} {s2 : S} {H2 : H}, codeOk c.N pt code = true → Cov bs s Hp M F σ → codeX c.P call pt lf top c.N code s Hp = some (e, s2, H2) → WC c code (DoneK bs Hp M F e s2 H2) σ := by
  intro code
  induction code with
  | skip =>
    intro bs s Hp M F σ e s2 H2 _ hcov hc
    cases hc
    exact WC_skip ⟨rfl, Post.self hcov.D hcov.L hcov.slots hcov.mem⟩
  | ret =>
    intro bs s Hp M F σ e s2 H2 _ hcov hc
    cases hc
    exact WC_ret ⟨rfl, Post.self hcov.D hcov.L hcov.slots hcov.mem⟩
  | exit id =>
    intro bs s Hp M F σ e s2 H2 _ hcov hc
    cases hc
    exact WC_exit ⟨rfl, Post.self hcov.D hcov.L hcov.slots hcov.mem⟩
  | seq a b iha ihb =>
    intro bs s Hp M F σ e s2 H2 hok hcov hc
    simp only [codeOk] at hok
    split at hok
    · rename_i hok1
      simp only [codeX] at hc
      split at hc
      · rename_i s1 H1 h1
        refine WC_seq ((iha hok1 hcov h1).mono fun e' σ1 hd => ?_)
        obtain ⟨rfl, hp1⟩ := hd
        obtain ⟨r1, M1, hcov1, hl1, hp1, _⟩ := hp1.split
        exact (ihb hok hcov1 hc).mono fun e2 σ2 h2 => DoneK.comp hl1 hp1 h2
      · rename_i hne
        refine WC_seq ((iha hok1 hcov hc).mono fun e' σ1 hd => ?_)
        cases e with
        | normal => exact absurd hc (hne _ _)
        | ret => obtain ⟨rfl, hp1⟩ := hd; exact ⟨rfl, hp1⟩
        | exit id => obtain ⟨rfl, hp1⟩ := hd; exact ⟨rfl, hp1⟩
        | panic v => obtain ⟨v', rfl, hp1⟩ := hd; exact ⟨v', rfl, hp1⟩
    · cases hok
  | cond x a b iha ihb =>
    intro bs s Hp M F σ e s2 H2 hok hcov hc
    simp only [codeOk] at hok
    split at hok
    · rename_i hok1
      simp only [codeX] at hc
      split at hc
      · rename_i hx
        obtain ⟨_, h1, h2⟩ := evX_ok hcov.slots hx; cases h2
        exact WC_cond_true h1 (iha hok1 hcov hc)
      · rename_i hx
        obtain ⟨_, h1, h2⟩ := evX_ok hcov.slots hx; cases h2
        exact WC_cond_false h1 (ihb hok hcov hc)
      · cases hc
    · cases hok
  | block id a ih =>
    intro bs s Hp M F σ e s2 H2 hok hcov hc
    simp only [codeX] at hc
    split at hc
    · rename_i id' s1 H1 h1
      refine WC_block ((ih hok hcov h1).mono fun e' σ1 hd => ?_)
      obtain ⟨rfl, hp1⟩ := hd
      split at hc
      · rename_i hb
        cases hc
        show blockK id _ (.exit id') σ1
        simp only [blockK, hb]
        exact ⟨rfl, hp1⟩
      · rename_i hb
        cases hc
        show blockK id _ (.exit id') σ1
        simp only [blockK, hb]
        exact ⟨rfl, hp1⟩
    · rename_i hne
      refine WC_block ((ih hok hcov hc).mono fun e' σ1 hd => ?_)
      cases e with
      | normal => obtain ⟨rfl, hp1⟩ := hd; exact ⟨rfl, hp1⟩
      | ret => obtain ⟨rfl, hp1⟩ := hd; exact ⟨rfl, hp1⟩
      | exit id => exact absurd hc (hne _ _ _)
      | panic v => obtain ⟨v', rfl, hp1⟩ := hd; exact ⟨v', rfl, hp1⟩
  | loop a ih =>
    intro bs s Hp M F σ e s2 H2 hok hcov hc
    simp only [codeX] at hc
    refine WC_loopX (fun m σ' => ∃ r s' H' M', loopX (codeX c.P call pt lf top c.N a) m s' H' = some (e, s2, H2) ∧ Cov (bs ++ r) s' H' M' F σ' ∧ ∀ {e' σ2}, DoneK (bs ++ r) H' M' F e s2 H2 e' σ2 → DoneK bs Hp M F e s2 H2 e' σ2) lf ⟨[], s, Hp, M, hc, by simpa using hcov, fun h => by simpa using h⟩ ?_
    rintro m σ1 ⟨r, s', H', M', h1, hcov1, hcomp⟩
    cases m with
    | zero => cases h1
    | succ m =>
      simp only [loopX] at h1
      split at h1
      · rename_i s3 H3 h3
        refine (ih hok hcov1 h3).mono fun e' σ3 hd => ?_
        obtain ⟨rfl, hp3⟩ := hd
        obtain ⟨r3, M3, hcov3, hl3, hq3, _⟩ := hp3.split
        exact ⟨m, Nat.lt_succ_self m, r ++ r3, s3, H3, M3, h1, by rw [← List.append_assoc]; exact hcov3, fun hq => hcomp (DoneK.comp hl3 hq3 (by rw [List.append_assoc]; exact hq))⟩
      · rename_i hne
        refine (ih hok hcov1 h1).mono fun e' σ3 hd => ?_
        have hd' := hcomp hd
        cases e with
        | normal => exact absurd h1 (hne _ _)
        | ret => obtain ⟨rfl, hp3⟩ := hd'; exact ⟨rfl, hp3⟩
        | exit id => obtain ⟨rfl, hp3⟩ := hd'; exact ⟨rfl, hp3⟩
        | panic v => obtain ⟨v', rfl, hp3⟩ := hd'; exact ⟨v', rfl, hp3⟩
  | rangeFunc x ps assign body =>
    intro bs s Hp M F σ e s2 H2 _ hcov hc
    simp only [codeX] at hc
    split at hc
    · exact rangeX_ok hcall (htop rfl) hcov hc
    · cases hc
  | region id ops draw =>
    intro bs s Hp M F σ e s2 H2 hok hcov hc
    exact regionX_ok hcall hmix htop hok hcov hc
  | _ => intro bs s Hp M F σ e s2 H2 _ _ hc; cases hc
end

end
end Go.Proofs.Ytcnbecdpfildnaa
