/-
  A part of what the last of these texts needs; by itself it proves no statement.
-/
import Derived.LoopNIn
import Derived.Test.YtgimodceldoniaaRows
import Derived.Test.YtgimodceldoniaaKO5
namespace Go.Proofs.Ytgimodceldoniaa
open Go.RowKit
noncomputable section
attribute [local irreducible] T.put T.set opX opP calmX effX callX appendX
def memX (k : Nat) : List Nat → Bool
  | [] => false
  | j :: r => match Nat.beq j k with
    | true => true
    | false => memX k r
def apartX (W : List Nat) : List Nat → Bool
  | [] => true
  | k :: r => match memX k W with
    | true => false
    | false => apartX W r
theorem memX_ok {k : Nat} : ∀ {l : List Nat}, memX k l = false → k ∉ l
  | [], _ => by simp
  | j :: r, h => by
    simp only [memX] at h
    split at h
    · cases h
    · rename_i hj
      simp only [List.mem_cons, not_or]
      exact ⟨fun e => Nat.ne_of_beq_eq_false hj e.symm, memX_ok h⟩
theorem apartX_ok {W : List Nat} : ∀ {l : List Nat}, apartX W l = true → ∀ k ∈ l, k ∉ W
  | [], _, k, hk => by cases hk
  | j :: r, h, k, hk => by
    simp only [apartX] at h
    split at h
    · cases h
    · rename_i hj
      rcases List.mem_cons.1 hk with rfl | hk
      · exact memX_ok hj
      · exact apartX_ok h k hk
def deferX (top : Bool) (s : S) (Hp : H) : List Oper → CX
  | [o] => match top, o.op, o.guard, o.dst with
    | true, .defer cl, none, none => match cl.callee with
      | .value x => match evX s x, evsX s cl.args.toList with
        | some (.fn (.func f) A B), some vs => some (.normal, s, ⟨Hp.h, Hp.n, Hp.log, .call f (A ++ vs) B :: Hp.ds⟩)
        | _, _ => none
      | _ => none
    | _, _, _, _ => none
  | _ => none
def deferL (P : Program) (call : CallF) (ops : List Oper) (top : Bool) : List Oper → S → H → CX
  | [], _, _ => none
  | o :: r, s, Hp => match deferX top s Hp (o :: r) with
    | some x => some x
    | none => match guardX ops s o with
      | some true => match opX P call s Hp o with
        | some (s2, H2) => deferL P call ops top r s2 H2
        | none => none
      | some false => deferL P call ops top r (putD s o.dst (.tup [])) Hp
      | none => none
def regionX (P : Program) (call : CallF) (pt : T (Nat × Plan)) (top : Bool) (id : Nat) (ops : List Oper) (draw : Bool) (s : S) (Hp : H) : CX := match draw with
  | false => match opsX P call ops ops s Hp with
    | some (.normal, s2, H2) => some (.normal, s2.flush, H2)
    | some (.panic v, _, H2) => some (.panic v, s.cut ops, H2)
    | some _ => none
    | none => deferL P call ops top ops s Hp
  | true => match pt.get id with
    | some (m, p) => match drawX P call ops Hp.h m p.musts true p s ⟨Hp.h, Hp.n, [], Hp.ds⟩ [] with
      | some (.normal, s2, H2, W, rd) => match apartX W rd with
        | true => some (.normal, s2.flush, ⟨H2.h, H2.n, H2.log ++ Hp.log, H2.ds⟩)
        | false => none
      | some (.panic v, _, H2, W, rd) => match apartX W rd with
        | true => some (.panic v, s.cut ops, ⟨H2.h, H2.n, H2.log ++ Hp.log, H2.ds⟩)
        | false => none
      | _ => none
    | none => none
def loopX (f : S → H → CX) : Nat → S → H → CX
  | 0, _, _ => none
  | n + 1, s, Hp => match f s Hp with
    | some (.normal, s2, H2) => loopX f n s2 H2
    | r => r
def endX (s : S) (n : Nat) (H2 : H) : CX := match H2.h.get (Nat.succ n) with
  | some (.loop _ .ready) => some (.normal, s, ⟨H2.h.set (Nat.succ n) .gone, H2.n, Nat.succ n :: H2.log, .mark n :: H2.ds⟩)
  | some (.loop _ (.done .ret)) => some (.ret, s, ⟨H2.h.set (Nat.succ n) .gone, H2.n, Nat.succ n :: H2.log, .mark n :: H2.ds⟩)
  | some (.loop _ (.done (.exit id))) => some (.exit id, s, ⟨H2.h.set (Nat.succ n) .gone, H2.n, Nat.succ n :: H2.log, .mark n :: H2.ds⟩)
  | _ => none
def rangeX (call : CallF) (pt : T (Nat × Plan)) (N : Nat) (ps : List Nat) (assign body : Code) (s : S) (Hp : H) : Option V → CX
  | some (.fn (.func gf) A B) => match call.f gf (A ++ (.yld (Nat.succ Hp.n) :: B)) ((Hp.new .defer).new (.loop ⟨s, ps, assign, body, pt, N⟩ .ready)) with
    | some (_, H2) => endX s Hp.n H2
    | none => none
  | _ => none
def codeX (P : Program) (call : CallF) (pt : T (Nat × Plan)) (lf : Nat) (top : Bool) (N : Nat) : Code → S → H → CX
  | .skip, s, Hp => some (.normal, s, Hp)
  | .ret, s, Hp => some (.ret, s, Hp)
  | .exit id, s, Hp => some (.exit id, s, Hp)
  | .seq a b, s, Hp => match codeX P call pt lf top N a s Hp with
    | some (.normal, s2, H2) => codeX P call pt lf top N b s2 H2
    | r => r
  | .cond x a b, s, Hp => match evX s x with
    | some (.bool true) => codeX P call pt lf top N a s Hp
    | some (.bool false) => codeX P call pt lf top N b s Hp
    | _ => none
  | .block id a, s, Hp => match codeX P call pt lf top N a s Hp with
    | some (.exit id', s2, H2) => match Nat.beq id' id with
      | true => some (.normal, s2, H2)
      | false => some (.exit id', s2, H2)
    | r => r
  | .loop a, s, Hp => loopX (codeX P call pt lf top N a) lf s Hp
  | .region id ops draw, s, Hp => regionX P call pt top id ops.toList draw s Hp
  | .rangeFunc x ps assign body, s, Hp => match top with
    | true => rangeX call pt N ps.toList assign body s Hp (evX s x)
    | false => none
  | _, _, _ => none
def psOk (N : Nat) : List Nat → Bool
  | [] => true
  | p :: r => match Nat.blt p N with
    | true => psOk N r
    | false => false
theorem psOk_ok {N : Nat} : ∀ {ps : List Nat}, psOk N ps = true → (ps.all fun p => Nat.blt p N) = true
  | [], _ => rfl
  | p :: r, h => by
    simp only [psOk] at h
    split at h
    · rename_i h1; simp only [List.all_cons, h1, Bool.true_and]; exact psOk_ok h
    · cases h
def codeOk (N : Nat) (pt : T (Nat × Plan)) : Code → Bool
  | .seq a b => match codeOk N pt a with
    | true => codeOk N pt b
    | false => false
  | .cond _ a b => match codeOk N pt a with
    | true => codeOk N pt b
    | false => false
  | .block _ a => codeOk N pt a
  | .loop a => codeOk N pt a
  | .region id ops draw => match dstOk N ops.toList, draw with
    | true, false => true
    | true, true => match pt.get id with
      | some (m, p) => (Region.noSelect ops && lateT ops.toList m && (fastOk ops m p || planOk ops m p ops.size (Array.replicate ops.size false))) && calmsOk p.musts p
      | none => true
    | false, _ => false
  | _ => true
theorem covS_cut {bs : Bs} {s : S} {σs : List (Nat × Value)} {ops : Array Oper} (h : CovS bs s σs) : CovS bs (s.cut ops.toList) (keepS ops σs) := fun t v hv => by
  obtain ⟨h1, h2⟩ := S.get_cut hv
  obtain ⟨v', h3, h4⟩ := h t v h1
  exact ⟨v', look_keepS.2 ⟨h3, h2⟩, h4⟩
section
variable {c : Cx} {call : CallF} {pt : T (Nat × Plan)} {lf : Nat} {top : Bool}
theorem deferX_ok (htop : top = true → c.r = none) {ops : Array Oper} {l : List Oper} {bs : Bs} {s : S} {Hp : H} {M F : List (Nat × Obj)} {σ : St} {e : EX} {s2 : S} {H2 : H} (hcov : Cov bs s Hp M F σ) {K : Exit → St → Prop} (hc : deferX top s Hp l = some (e, s2, H2)) (hk : ∀ e' σ', DoneK bs Hp M F e s2 H2 e' σ' → K e' σ') : WL c ops l K σ := by
  unfold deferX at hc
  split at hc
  · rename_i o
    split at hc
    · rename_i cl ho hg hd
      obtain ⟨cal, args, tys⟩ := cl
      split at hc
      · rename_i x hx
        simp only at hx hc
        subst hx
        split at hc
        · rename_i f A B vs h1 h2
          cases hc
          obtain ⟨x', h3, h4⟩ := evX_ok hcov.slots h1
          obtain ⟨vs', h5, h6⟩ := evsX_ok hcov.slots h2
          cases h4
          rename_i A' B' hA hB
          refine WL_op hg (OW_defer (htop rfl) ho h3 h5 (by rw [hd]; rfl) ?_)
          rw [hd]
          refine WL_nil (hk _ _ ⟨rfl, [], M, ⟨A' ++ vs', B', σ.D, by simpa using hA.append h6, by simpa using hB, by simp [St.put], by simpa using hcov.D⟩, hcov.L, by rw [List.append_nil]; exact hcov.slots, by simpa using ⟨hcov.mem.n, hcov.mem.at_, hcov.mem.inj⟩, fun _ h => h, fun W B _ hB => by
            simp only [List.append_nil]; exact fun q hq => hB q hq⟩)
        · cases hc
      · cases hc
    · cases hc
  · cases hc
theorem deferL_ok (hcall : CallOk c.P call) (htop : top = true → c.r = none) {ops : Array Oper} : ∀ (l : List Oper) {bs : Bs} {s : S} {Hp : H} {M F : List (Nat × Obj)} {e : EX} {s2 : S} {H2 : H} {σ : St} {K : Exit → St → Prop}, (∀ o ∈ l, dok c.N o.dst = true) → Cov bs s Hp M F σ → deferL c.P call ops.toList top l s Hp = some (e, s2, H2) → (∀ e' σ', DoneK bs Hp M F e s2 H2 e' σ' → K e' σ') → WL c ops l K σ
  | [], _, _, _, _, _, _, _, _, _, _, _, _, hc, _ => by cases hc
  | o :: r, bs, s, Hp, M, F, e, s2, H2, σ, K, hd, hcov, hc, hk => by
    have hd1 := hd o List.mem_cons_self
    have hd2 := fun p hp => hd p (List.mem_cons_of_mem _ hp)
    simp only [deferL] at hc
    split at hc
    · rename_i x hx
      cases hc
      exact deferX_ok htop hcov hx hk
    · skip
      split at hc
      · rename_i hg
        have go : OW c o (WL c ops r K) K σ → WL c ops (o :: r) K σ := fun hW => by
          rcases guardX_ok hcov.slots hg with ⟨_, hgn⟩ | ⟨j, want, og, dg, hg1, hj, hdg, ⟨_, hb⟩ | ⟨hb, _⟩⟩
          · exact WL_op hgn hW
          · exact WL_guard hg1 hj hdg hb (fun _ => hW) hd1 (fun e => by cases want <;> cases e)
          · cases hb
        split at hc
        · rename_i s1 H1 h1
          exact go ((opX_ok hcall hd1 hcov h1).mono fun σ1 hp1 => by
            obtain ⟨r1, M1, hcov1, hl1, hp1, _⟩ := hp1.split
            exact deferL_ok hcall htop r hd2 hcov1 hc fun e' σ' hp2 => hk e' σ' (DoneK.comp hl1 hp1 hp2))
        · cases hc
      · rename_i hg
        have hrest : WL c ops r K (σ.put o.dst undef) := deferL_ok hcall htop r hd2 (hcov.undef o.dst) hc hk
        rcases guardX_ok hcov.slots hg with ⟨hb, _⟩ | ⟨j, want, og, dg, hg1, hj, hdg, ⟨hb, _⟩ | ⟨_, u, hu, rfl | rfl⟩⟩
        · cases hb
        · cases hb
        · exact WL_guard hg1 hj hdg hu (fun e => by cases want <;> cases e) hd1 (fun _ => hrest)
        · exact WL_guard_undef hg1 hj hdg hu hd1 hrest
      · cases hc
set_option maxHeartbeats 4000000 in
theorem regionX_ok (hcall : CallOk c.P call) (hmix : c.P.follows .mixedOrders = true) (htop : top = true → c.r = none) {id : Nat} {ops : Array Oper} {draw : Bool} {bs : Bs} {s : S} {Hp : H} {M F : List (Nat × Obj)} {σ : St} {e : EX} {s2 : S} {H2 : H} (hok : codeOk c.N pt (.region id ops draw) = true) (hcov : Cov bs s Hp M F σ) (hc : regionX c.P call pt top id ops.toList draw s Hp = some (e, s2, H2)) : WC c (.region id ops draw) (DoneK bs Hp M F e s2 H2) σ := by
  have norm : ∀ {s3 : S} {Hx : H} (e' : Exit) (σ' : St), (∀ ch, e' ≠ .panic ch) → DoneK bs Hp M F .normal s3 Hx e' σ' → DoneK bs Hp M F .normal s3.flush Hx e' σ' := fun e' σ' _ h => ⟨h.1, Post.sub h.2 fun t v => S.get_flush⟩
  have nopan : ∀ {v : V} {s3 s4 : S} {Hx : H} (e' : Exit) (σ' : St), (∀ ch, e' ≠ .panic ch) → DoneK bs Hp M F (.panic v) s3 Hx e' σ' → DoneK bs Hp M F (.panic v) s4 Hx e' σ' := fun e' σ' h1 h => by
    obtain ⟨v', h2, _⟩ := h; exact absurd h2 (h1 _)
  have pank : ∀ {v : V} {s3 : S} {Hx : H} (ch : List PanicEntry) (D : List Deferred) (L : List (Nat × Obj)), DoneK bs Hp M F (.panic v) s3 Hx (.panic ch) ⟨[], D, L⟩ → DoneK bs Hp M F (.panic v) (s.cut ops.toList) Hx (.panic ch) ⟨keepS ops σ.s, D, L⟩ := fun ch D L h => by
    obtain ⟨v', h1, r, M', f1, f2, f3, f4⟩ := h
    exact ⟨v', h1, r, M', f1, f2, covS_cut (hcov.slots.mono r), f4⟩
  have nopan2 : ∀ {s3 s4 : S} {Hx : H} (ch : List PanicEntry) (D : List Deferred) (L : List (Nat × Obj)), DoneK bs Hp M F .normal s3 Hx (.panic ch) ⟨[], D, L⟩ → DoneK bs Hp M F .normal s4 Hx (.panic ch) ⟨keepS ops σ.s, D, L⟩ := fun ch D L h => by
    obtain ⟨h1, _⟩ := h; cases h1
  unfold regionX at hc
  unfold codeOk at hok
  split at hc
  · split at hok
    · rename_i hd _
      split at hc
      · rename_i h1
        cases hc
        refine WC_app (ops' := ops.toList.toArray) (by simp) (WC_regionP norm (by simpa using nopan2) ?_)
        simp only [Array.toArray_toList]
        exact opsX_ok hcall ops.toList (dstOk_mem hd) hcov h1 fun e' σ' hp => hp
      · rename_i v s3 H3 h1
        cases hc
        refine WC_app (ops' := ops.toList.toArray) (by simp) (WC_regionP (K0 := DoneK bs Hp M F (.panic v) s3 H2) nopan (by simpa using pank (v := v) (s3 := s3) (Hx := H2)) ?_)
        simp only [Array.toArray_toList]
        exact opsX_ok hcall ops.toList (dstOk_mem hd) hcov h1 fun e' σ' hp => hp
      · cases hc
      · exact WC_app (ops' := ops.toList.toArray) (by simp) (WC_region (deferL_ok hcall htop _ (fun o ho => dstOk_mem hd o (by simpa using ho)) hcov (by simpa using hc) fun _ _ h => h))
    · rename_i h; cases h
    · cases hok
  · split at hc
    · rename_i m p hpt
      have main : ∀ {e : EX} {s3 : S} {H3 : H} {W0 rd : List Nat} {K : Exit → St → Prop}, drawX c.P call ops.toList Hp.h m p.musts true p s ⟨Hp.h, Hp.n, [], Hp.ds⟩ [] = some (e, s3, H3, W0, rd) → apartX W0 rd = true →
          (∀ e' σ', (∀ ch, e' ≠ .panic ch) → DoneK bs Hp M F e s3 ⟨H3.h, H3.n, H3.log ++ Hp.log, H3.ds⟩ e' σ' → K e' σ') → (∀ ch D L, DoneK bs Hp M F e s3 ⟨H3.h, H3.n, H3.log ++ Hp.log, H3.ds⟩ (.panic ch) ⟨[], D, L⟩ → K (.panic ch) ⟨keepS ops σ.s, D, L⟩) → WC c (.region id ops true) K σ := by
        intro e s3 H3 W0 rd K h1 hap hk1 hk2
        split at hok
        · rename_i h; cases h
        · rename_i hd _
          rw [hpt] at hok
          classical
          let Ls : List (Nat × Obj) := σ.L.filter fun q => decide (q ∈ M ∧ ∀ j o x y, Hp.h.get j = some o → bs[j]? = some (q.1, x, y) → j ∉ W0)
          have hLs : ∀ q, q ∈ Ls ↔ q ∈ σ.L ∧ q ∈ M ∧ ∀ j o x y, Hp.h.get j = some o → bs[j]? = some (q.1, x, y) → j ∉ W0 := fun q => by
            simp only [Ls, List.mem_filter, decide_eq_true_eq]
          rw [Bool.and_eq_true] at hok
          have hok1 : (Region.noSelect ops && lateT ops.toList m && planOk ops m p ops.size (Array.replicate ops.size false)) = true := by
            have h1 := hok.1
            rw [Bool.and_eq_true, Bool.or_eq_true] at h1
            rw [Bool.and_eq_true]
            exact ⟨h1.1, h1.2.elim fastOk_ok fun h => h⟩
          refine WC_drawP (K0 := DoneK bs Hp M F e s3 ⟨H3.h, H3.n, H3.log ++ Hp.log, H3.ds⟩) Ls m p hmix hok1 hok.2 List.filter_sublist hk1 hk2 ?_
          have hcov0 : Cov (bs ++ []) s ⟨Hp.h, Hp.n, [], Hp.ds⟩ M F σ := ⟨by simpa using hcov.slots, by simpa using hcov.D, by simpa using ⟨hcov.mem.n, hcov.mem.at_, hcov.mem.inj⟩, hcov.L⟩
          refine drawX_ok (bs0 := bs) (W := W0) (R := rd) (h0 := Hp.h) (Ls := Ls) hcall (dstOk_mem hd) (apartX_ok hap) ?_ ?_ p (r := []) h1 (fun _ h => h) (fun _ h => h) hcov0 ?_ ?_
          · intro k o hk hkW
            obtain ⟨b, base, av, i, o', a1, a2, a3⟩ := hcov.mem.at_ k o hk
            have hmem : (b, o') ∈ Ls := (hLs _).2 ⟨by rw [hcov.L]; exact List.mem_append_left _ (List.mem_of_getElem? a2), List.mem_of_getElem? a2, fun j u x y hj hb => by
              rw [hcov.mem.inj j k u o b x y base av hj hk hb a1]; exact hkW⟩
            obtain ⟨i2, hi2⟩ := List.mem_iff_getElem?.1 hmem
            exact ⟨b, base, av, i2, o', a1, hi2, a3⟩
          · intro k o hk
            obtain ⟨b, base, av, i, o', a1, a2, a3⟩ := hcov.mem.at_ k o hk
            exact ⟨b, base, av, i, o', a1, by rw [hcov.L, List.getElem?_append_left (List.getElem?_eq_some_iff.1 a2).1]; exact a2, a3⟩
          · intro q hq
            obtain ⟨_, h2, h3⟩ := (hLs q).1 hq
            exact ⟨h2, fun j o x y hj hb => h3 j o x y hj (by simpa using hb)⟩
          · intro e' σ' hd
            have turn : ∀ {A : Bs → Prop}, (∃ (r : Bs) (M' : List (Nat × Obj)), RD (bs ++ [] ++ r) H3.ds σ'.D ∧ σ'.L = M' ++ F ∧ CovS (bs ++ [] ++ r) s3 σ'.s ∧ HCov (bs ++ [] ++ r) H3 M' ∧ (∀ k ∈ ([] : List Nat), k ∈ H3.log) ∧ (∀ W B, (∀ k ∈ H3.log, k ∈ W) → Prot (bs ++ []) ⟨Hp.h, Hp.n, [], Hp.ds⟩ M W B → Prot (bs ++ [] ++ r) H3 M' W B) ∧ A (bs ++ [] ++ r)) →
                ∃ (r : Bs) (M' : List (Nat × Obj)), RD (bs ++ r) H3.ds σ'.D ∧ σ'.L = M' ++ F ∧ CovS (bs ++ r) s3 σ'.s ∧ HCov (bs ++ r) ⟨H3.h, H3.n, H3.log ++ Hp.log, H3.ds⟩ M' ∧ (∀ k ∈ Hp.log, k ∈ H3.log ++ Hp.log) ∧ (∀ W B, (∀ k ∈ H3.log ++ Hp.log, k ∈ W) → Prot bs Hp M W B → Prot (bs ++ r) ⟨H3.h, H3.n, H3.log ++ Hp.log, H3.ds⟩ M' W B) ∧ A (bs ++ r) := by
              rintro A ⟨r, M', f1, f2, f3, f4, f5, f6, f7⟩
              rw [List.append_nil] at f1 f3 f4 f6 f7
              refine ⟨r, M', f1, f2, f3, ⟨f4.n, f4.at_, f4.inj⟩, fun k hk => List.mem_append_right _ hk, fun W B hW hB => ?_, f7⟩
              have := f6 W B (fun k hk => hW k (List.mem_append_left _ hk)) (by simpa [Prot] using hB)
              exact fun q hq => this q hq
            have turn2 : Post (bs ++ []) ⟨Hp.h, Hp.n, [], Hp.ds⟩ M F s3 H3 σ' → Post bs Hp M F s3 ⟨H3.h, H3.n, H3.log ++ Hp.log, H3.ds⟩ σ' := fun ⟨r, M', f1, f2, f3, f4, f5, f6⟩ => by
              obtain ⟨r, M', g1, g2, g3, g4, g5, g6, _⟩ := turn (A := fun _ => True) ⟨r, M', f1, f2, f3, f4, f5, f6, trivial⟩
              exact ⟨r, M', g1, g2, g3, g4, g5, g6⟩
            cases e with
            | panic v => obtain ⟨v', h1, h2⟩ := hd; exact ⟨v', h1, turn (A := fun bs => RV bs v v') h2⟩
            | normal => exact ⟨hd.1, turn2 hd.2⟩
            | ret => exact ⟨hd.1, turn2 hd.2⟩
            | exit id => exact ⟨hd.1, turn2 hd.2⟩
        · cases hok
      split at hc
      · rename_i s3 H3 W0 rd h1
        split at hc
        · rename_i hap
          cases hc
          exact main h1 hap norm nopan2
        · cases hc
      · rename_i v s3 H3 W0 rd h1
        split at hc
        · rename_i hap
          cases hc
          exact main h1 hap nopan pank
        · cases hc
      · cases hc
    · cases hc
theorem WC_loopX {x : Code} {K : Exit → St → Prop} {σ : St} (I : Nat → St → Prop) (m : Nat) (h0 : I m σ)
    (round : ∀ m σ, I m σ → WC c x (thenK (fun σ' => ∃ m', m' < m ∧ I m' σ') K) σ) : WC c (.loop x) K σ := fun a w ha => by
  let p : Act → World → Nat → Prop := fun a w m => ∃ σ, Holds c.g c.N σ a w ∧ I m σ
  refine wpIn_loop (fun a w => ∃ m, p a w m) (fun a w => leastOf (p a w)) ⟨m, σ, ha, h0⟩ ?_
  intro a w hp
  obtain ⟨⟨σ1, hs1, hi1⟩, hmin⟩ := leastOf_spec hp
  refine Go.wpIn_mono (round _ σ1 hi1 a w hs1) (fun e a' w' hl => ?_)
  cases e with
  | normal =>
    obtain ⟨σ', h1, m', hlt, hI⟩ := hl
    have hp' : ∃ m, p a' w' m := ⟨m', σ', h1, hI⟩
    exact ⟨hp', Nat.lt_of_le_of_lt ((leastOf_spec hp').2 m' ⟨σ', h1, hI⟩) hlt⟩
  | _ => exact hl
theorem memNot {M F : List (Nat × Obj)} {g w : World} (hm : Mem g (M ++ F) w) : w.heap.size ∉ M.map Prod.fst := fun hx => by
  obtain ⟨p, hp, e⟩ := List.mem_map.1 hx
  have := hm.lt p (List.mem_append_left _ hp)
  omega
theorem Post_mark {bs : Bs} {Hp : H} {M F : List (Nat × Obj)} {s2 : S} {H2 : H} {σ : St} {k b x y : Nat} (h : Post bs Hp M F s2 H2 σ) (hk : bs[k]? = some (b, x, y)) : Post bs Hp M F s2 ⟨H2.h, H2.n, H2.log, .mark k :: H2.ds⟩ ⟨σ.s, markD b :: σ.D, σ.L⟩ := by
  obtain ⟨r, M', f1, f2, f3, f4, f5, f6⟩ := h
  exact ⟨r, M', ⟨b, x, y, σ.D, bs_mono hk, rfl, f1⟩, f2, f3, ⟨f4.n, f4.at_, f4.inj⟩, f5, fun W B hW hB => by
    have := f6 W B hW hB
    exact fun q hq => this q hq⟩
set_option maxHeartbeats 4000000 in
theorem rangeX_ok (hcall : CallOk c.P call) (hr : c.r = none) {x : Operand} {ps : Array Nat} {assign body : Code} {bs : Bs} {s : S} {Hp : H} {M F : List (Nat × Obj)} {σ : St} {e : EX} {s2 : S} {H2 : H} (hcov : Cov bs s Hp M F σ) (hc : rangeX call pt c.N ps.toList assign body s Hp (evX s x) = some (e, s2, H2)) : WC c (.rangeFunc x ps assign body) (DoneK bs Hp M F e s2 H2) σ := by
  obtain ⟨P, g, N, n, rr⟩ := c
  cases hr
  generalize hx : evX s x = ex at hc
  unfold rangeX at hc
  split at hc
  · rename_i gf A B
    split at hc
    · rename_i v H3 hcl
      obtain ⟨x', h1, h2⟩ := evX_ok hcov.slots hx
      cases h2
      rename_i A' B' hA hB
      have hfc := hcall.fc _ _ _ _ _ hcl
      haveI := hfc
      intro a w ha
      refine wpIn_rangeFunc ?_
      intro fn _
      obtain ⟨rec, hrec⟩ : ∃ rec : Loop, rec = { state := .ready, pending := none, fn, tmps := a.tmps, params := ps, assign, body, defers := w.heap.size } := ⟨_, rfl⟩
      obtain ⟨W1, hW1⟩ : ∃ W1, (w.alloc (.deferred (some []))).alloc (.loop rec) = W1 := ⟨_, rfl⟩
      have hmw := ha.mem
      rw [hcov.L] at hmw
      have hm1 : Mem g ((w.heap.size + 1, .loop rec) :: (w.heap.size, .deferred (some [])) :: (M ++ F)) W1 := by
        have := (hmw.alloc (.deferred (some []))).alloc (.loop rec)
        rw [World.size_alloc] at this
        rw [← hW1]; exact this
      have hd0 : w.heap.size ∉ M.map Prod.fst := memNot hmw
      have hl0 : w.heap.size + 1 ∉ ((w.heap.size, Obj.deferred (some [])) :: M).map Prod.fst := fun hx => by
        have := hm1.nodup
        simp only [List.map_cons, List.nodup_cons, List.map_append, List.mem_cons, List.mem_append] at this hx
        rcases hx with hx | hx
        · exact this.1 (.inl hx)
        · exact this.1 (.inr (.inl hx))
      refine ⟨w.heap.size + 1, [markD w.heap.size], W1, { target := .fn (.func gf) B'.toArray, args := A'.toArray ++ #[.func (.yield (w.heap.size + 1)) #[] #[]] }, W1, gf, A'.toArray ++ #[.func (.yield (w.heap.size + 1)) #[] #[]] ++ B'.toArray, W1, ?_, ?_, fun _ _ => trivial, ?_, fun h => by simp at h, ?_⟩
      · rw [← hW1, hrec]; exact run_enterLoop_outer _ _ _ _ _
      · have := ha.ev h1
        simp [resolve, this, Deferred.ofValue, show ∀ v, a.eval (.const v) = v from fun _ => rfl]
      · simp [invoke, hfc.h]
      · generalize hl : w.heap.size + 1 = l at hm1 hl0 ⊢
        generalize hd : w.heap.size = d at hm1 hd0 hl0 ⊢
        have hc1 : HCov (bs ++ [(d, 0, 0)]) (Hp.new .defer) ((d, .deferred (some [])) :: M) := hcov.mem.new hd0 rfl
        have hp1 := fun W B (h : Prot bs Hp M W B) => Prot.new (o := .defer) (o' := .deferred (some [])) (av := 0) hcov.mem hd0 h
        have hlen : (Hp.new .defer).n = (bs ++ [(d, 0, 0)]).length := hc1.n
        have hro : RO ((bs ++ [(d, 0, 0)]) ++ [(l, 0, 0)]) l 0 0 (.loop ⟨s, ps.toList, assign, body, pt, N⟩ .ready) (.loop rec) := by
          refine ⟨rec, σ.s, rfl, by rw [hrec], by rw [hrec], by rw [hrec], by rw [hrec]; exact ha.size, (hcov.slots.mono _).mono _, fun t v hv => by rw [hrec]; exact ha.slots t v hv, by rw [hrec]; exact ⟨rfl, rfl⟩⟩
        have hc2 := hc1.new hl0 hro
        have hp2 := fun W B (h : Prot (bs ++ [(d, 0, 0)]) (Hp.new .defer) ((d, .deferred (some [])) :: M) W B) => Prot.new (o := .loop ⟨s, ps.toList, assign, body, pt, N⟩ .ready) (o' := .loop rec) (av := 0) hc1 hl0 h
        have hkl : ((bs ++ [(d, 0, 0)]) ++ [(l, 0, 0)])[Nat.succ Hp.n]? = some (l, 0, 0) := by
          have := bs_last (bs := bs ++ [(d, 0, 0)]) (l, 0, 0)
          rw [← hlen] at this; exact this
        have hkd : ((bs ++ [(d, 0, 0)]) ++ [(l, 0, 0)])[Hp.n]? = some (d, 0, 0) := bs_mono (by rw [hcov.mem.n]; exact bs_last _)
        have hF := hcall.fn _ _ _ _ _ hcl _ _ F (A' ++ (.func (.yield l) #[] #[] :: B')) hc2 (((hA.mono _).mono _).append (.cons (.yld hkl) ((hB.mono _).mono _)))
        have hcc := callsIn_fw none (n - 1) (hF g W1 hm1)
        have e : (A' ++ (Value.func (.yield l) #[] #[] :: B')).toArray = A'.toArray ++ #[.func (.yield l) #[] #[]] ++ B'.toArray := by apply Array.ext'; simp
        rw [e] at hcc
        refine hcc.mono fun e w' ⟨v', L2, g1, g2, r, M', g3, g4, g5, g6, g7, g8⟩ => ?_
        subst g1 g3
        -- where the loop's block is
        have fin : ∀ (st : LSt) (cl : Clo) (ex : EX) (pe : Option Code), H3.h.get (Nat.succ Hp.n) = some (.loop cl st) → (∀ r : Loop, st.fits r → r.pending = pe ∧ r.state ≠ .busy) → s2 = s → H2 = ⟨H3.h.set (Nat.succ Hp.n) .gone, H3.n, Nat.succ Hp.n :: H3.log, .mark Hp.n :: H3.ds⟩ →
            ∃ w4, (Instr.endLoop l).run P w' = .ok pe w4 ∧ ∃ σ3, Holds g N σ3 { a with defers := markD d :: a.defers } w4 ∧ Post bs Hp M F s2 H2 σ3 := by
          intro st cl ex pe hg hst hs hH
          obtain ⟨l', x1, x2, i, o', a1, a2, rec', σs, rfl, a3, a4, a5, a6, a7, a8, a9⟩ := g5.at_ _ _ hg
          rw [bs_mono hkl] at a1; cases a1
          obtain ⟨b1, b2⟩ := hst rec' a9
          have hi2 : (M' ++ F)[i]? = some (l, .loop rec') := by rw [List.getElem?_append_left (List.getElem?_eq_some_iff.1 a2).1]; exact a2
          have hend := run_endLoop (P := P) (g2.at_ hi2) b2
          have hm4 := g2.putObj hi2 (.loop { rec' with state := .exhausted })
          refine ⟨w'.putObj l (.loop { rec' with state := .exhausted }), by rw [hend, b1], ⟨σ.s, markD d :: σ.D, (M' ++ F).set i (l, .loop { rec' with state := .exhausted })⟩, ⟨ha.size, ha.slots, by show markD d :: a.defers = _; rw [ha.defers], hm4⟩, ?_⟩
          subst hs hH
          have hcov3 : Cov ((bs ++ [(d, 0, 0)] ++ [(l, 0, 0)]) ++ r) s2 H3 M' F ⟨σ.s, σ.D, M' ++ F⟩ := ⟨((hcov.slots.mono _).mono _).mono r, by rw [g6]; exact ((hcov.D.mono _).mono _).mono r, g5, rfl⟩
          have hupd := Post_upd (σ' := ⟨σ.s, σ.D, (M' ++ F).set i (l, .loop { rec' with state := .exhausted })⟩) (s2 := s2) (ob2 := .gone) hcov3 g2.nodup hg (bs_mono hkl) a2 trivial hcov3.slots rfl rfl
          have hmark := Post_mark hupd (bs_mono hkd)
          have hcomp := Post.comp (r := r) g7 (fun W B hW hB => g8 W B hW hB) hmark
          have hcomp2 := Post.comp (r := [(l, 0, 0)]) (Hp := Hp.new .defer) (H1 := (Hp.new .defer).new (.loop ⟨s2, ps.toList, assign, body, pt, N⟩ .ready)) (M1 := (l, .loop rec) :: (d, .deferred (some [])) :: M) (fun _ h => h) (fun W B _ hB => hp2 W B hB) hcomp
          exact Post.comp (r := [(d, 0, 0)]) (Hp := Hp) (H1 := Hp.new .defer) (M1 := (d, .deferred (some [])) :: M) (fun _ h => h) (fun W B _ hB => hp1 W B hB) hcomp2
        unfold endX at hc
        split at hc
        · rename_i cl hg
          cases hc
          obtain ⟨w4, k1, σ3, k2, k3⟩ := fin .ready cl .normal none hg (fun r h => ⟨h.2, by rw [h.1]; simp⟩) rfl rfl
          exact ⟨none, w4, k1, σ3, k2, rfl, k3⟩
        · rename_i cl hg
          cases hc
          obtain ⟨w4, k1, σ3, k2, k3⟩ := fin (.done .ret) cl .ret (some .ret) hg (fun r h => ⟨h.2, by rw [h.1]; simp⟩) rfl rfl
          exact ⟨some .ret, w4, k1, WC_ret ⟨rfl, k3⟩ _ _ k2⟩
        · rename_i cl id hg
          cases hc
          obtain ⟨w4, k1, σ3, k2, k3⟩ := fin (.done (.exit id)) cl (.exit id) (some (.exit id)) hg (fun r h => ⟨h.2, by rw [h.1]; simp⟩) rfl rfl
          exact ⟨some (.exit id), w4, k1, WC_exit ⟨rfl, k3⟩ _ _ k2⟩
        · cases hc
    · cases hc
  · cases hc
theorem deferX_ext {s : S} {Hp : H} {l : List Oper} {e : EX} {s2 : S} {H2 : H} (h : deferX top s Hp l = some (e, s2, H2)) : Ext Hp H2 := by
  unfold deferX at h
  split at h
  · split at h
    · split at h
      · split at h
        · cases h; exact (Ext.refl Hp).ds
        · cases h
      · cases h
    · cases h
  · cases h
theorem deferL_ext {P : Program} {call : CallF} (hcall : CallOk P call) {ops : List Oper} {top : Bool} : ∀ {l : List Oper} {s : S} {Hp : H} {e : EX} {s2 : S} {H2 : H}, deferL P call ops top l s Hp = some (e, s2, H2) → Ext Hp H2
  | [], _, _, _, _, _, h => by cases h
  | o :: r, s, Hp, e, s2, H2, h => by
    simp only [deferL] at h
    split at h
    · rename_i x hx; cases h; exact deferX_ext hx
    · split at h
      · split at h
        · rename_i h1; exact (opX_ext hcall h1).trans (deferL_ext hcall h)
        · cases h
      · exact deferL_ext hcall h
      · cases h
theorem regionX_ext {P : Program} (hcall : CallOk P call) {id : Nat} {ops : List Oper} {draw : Bool} {s : S} {Hp : H} {e : EX} {s2 : S} {H2 : H} (h : regionX P call pt top id ops draw s Hp = some (e, s2, H2)) : Ext Hp H2 := by
  unfold regionX at h
  split at h
  · split at h
    · rename_i h1; cases h; exact opsX_ext hcall h1
    · rename_i h1; cases h; exact opsX_ext hcall h1
    · cases h
    · exact deferL_ext hcall h
  · split at h
    · split at h
      · rename_i h1
        split at h
        · cases h; exact (drawX_ext hcall h1).1.app
        · cases h
      · rename_i h1
        split at h
        · cases h; exact (drawX_ext hcall h1).1.app
        · cases h
      · cases h
    · cases h
theorem loopX_ext {f : S → H → CX} (hf : ∀ {s Hp e s2 H2}, f s Hp = some (e, s2, H2) → Ext Hp H2) : ∀ {n : Nat} {s : S} {Hp : H} {e : EX} {s2 : S} {H2 : H}, loopX f n s Hp = some (e, s2, H2) → Ext Hp H2
  | 0, _, _, _, _, _, h => by cases h
  | n + 1, s, Hp, e, s2, H2, h => by
    simp only [loopX] at h
    split at h
    · rename_i h1; exact (hf h1).trans (loopX_ext hf h)
    · exact hf h
theorem rangeX_ext {P : Program} (hcall : CallOk P call) {N : Nat} {ps : List Nat} {assign body : Code} {s : S} {Hp : H} {v : Option V} {e : EX} {s2 : S} {H2 : H} (h : rangeX call pt N ps assign body s Hp v = some (e, s2, H2)) : Ext Hp H2 := by
  unfold rangeX at h
  split at h
  · split at h
    · rename_i h1
      have h2 := ((Ext.new Hp .defer).trans (Ext.new _ _)).trans (hcall.fx _ _ _ _ _ h1)
      unfold endX at h
      split at h
      · cases h; exact (h2.trans (Ext.upd _ (Nat.succ Hp.n) .gone)).ds
      · cases h; exact (h2.trans (Ext.upd _ (Nat.succ Hp.n) .gone)).ds
      · cases h; exact (h2.trans (Ext.upd _ (Nat.succ Hp.n) .gone)).ds
      · cases h
    · cases h
  · cases h
theorem codeX_ext {P : Program} (hcall : CallOk P call) {N : Nat} : ∀ (code : Code) {s : S} {Hp : H} {e : EX} {s2 : S} {H2 : H}, codeX P call pt lf top N code s Hp = some (e, s2, H2) → Ext Hp H2 := by
  intro code
  induction code with
  | skip => intro s Hp e s2 H2 h; cases h; exact .refl _
  | ret => intro s Hp e s2 H2 h; cases h; exact .refl _
  | exit id => intro s Hp e s2 H2 h; cases h; exact .refl _
  | seq a b iha ihb =>
    intro s Hp e s2 H2 h
    simp only [codeX] at h
    split at h
    · rename_i h1; exact (iha h1).trans (ihb h)
    · exact iha h
  | cond x a b iha ihb =>
    intro s Hp e s2 H2 h
    simp only [codeX] at h
    split at h
    · exact iha h
    · exact ihb h
    · cases h
  | block id a ih =>
    intro s Hp e s2 H2 h
    simp only [codeX] at h
    split at h
    · rename_i h1
      split at h
      · cases h; exact ih h1
      · cases h; exact ih h1
    · exact ih h
  | loop a ih =>
    intro s Hp e s2 H2 h
    simp only [codeX] at h
    exact loopX_ext ih h
  | rangeFunc x ps assign body =>
    intro s Hp e s2 H2 h
    simp only [codeX] at h
    split at h
    · exact rangeX_ext hcall h
    · cases h
  | region id ops draw =>
    intro s Hp e s2 H2 h
    exact regionX_ext hcall h
  | _ => intro s Hp e s2 H2 h; cases h
set_option maxHeartbeats 4000000 in
theorem codeX_ok (hcall : CallOk c.P call) (hmix : c.P.follows .mixedOrders = true) (htop : top = true → c.r = none) : ∀ (code : Code) {bs : Bs} {s : S} {Hp : H} {M F : List (Nat × Obj)} {σ : St} {e : EX} {s2 : S} {H2 : H}, codeOk c.N pt code = true → Cov bs s Hp M F σ → codeX c.P call pt lf top c.N code s Hp = some (e, s2, H2) → WC c code (DoneK bs Hp M F e s2 H2) σ := by
  intro code
  induction code with
  | skip =>
    intro bs s Hp M F σ e s2 H2 _ hcov hc
    cases hc
    exact WC_skip ⟨rfl, Post.self hcov.D hcov.L hcov.slots hcov.mem⟩
  | ret =>
    intro bs s Hp M F σ e s2 H2 _ hcov hc
    cases hc
    exact WC_ret ⟨rfl, Post.self hcov.D hcov.L hcov.slots hcov.mem⟩
  | exit id =>
    intro bs s Hp M F σ e s2 H2 _ hcov hc
    cases hc
    exact WC_exit ⟨rfl, Post.self hcov.D hcov.L hcov.slots hcov.mem⟩
  | seq a b iha ihb =>
    intro bs s Hp M F σ e s2 H2 hok hcov hc
    simp only [codeOk] at hok
    split at hok
    · rename_i hok1
      simp only [codeX] at hc
      split at hc
      · rename_i s1 H1 h1
        refine WC_seq ((iha hok1 hcov h1).mono fun e' σ1 hd => ?_)
        obtain ⟨rfl, hp1⟩ := hd
        obtain ⟨r1, M1, hcov1, hl1, hp1, _⟩ := hp1.split
        exact (ihb hok hcov1 hc).mono fun e2 σ2 h2 => DoneK.comp hl1 hp1 h2
      · rename_i hne
        refine WC_seq ((iha hok1 hcov hc).mono fun e' σ1 hd => ?_)
        cases e with
        | normal => exact absurd hc (hne _ _)
        | ret => obtain ⟨rfl, hp1⟩ := hd; exact ⟨rfl, hp1⟩
        | exit id => obtain ⟨rfl, hp1⟩ := hd; exact ⟨rfl, hp1⟩
        | panic v => obtain ⟨v', rfl, hp1⟩ := hd; exact ⟨v', rfl, hp1⟩
    · cases hok
  | cond x a b iha ihb =>
    intro bs s Hp M F σ e s2 H2 hok hcov hc
    simp only [codeOk] at hok
    split at hok
    · rename_i hok1
      simp only [codeX] at hc
      split at hc
      · rename_i hx
        obtain ⟨_, h1, h2⟩ := evX_ok hcov.slots hx; cases h2
        exact WC_cond_true h1 (iha hok1 hcov hc)
      · rename_i hx
        obtain ⟨_, h1, h2⟩ := evX_ok hcov.slots hx; cases h2
        exact WC_cond_false h1 (ihb hok hcov hc)
      · cases hc
    · cases hok
  | block id a ih =>
    intro bs s Hp M F σ e s2 H2 hok hcov hc
    simp only [codeX] at hc
    split at hc
    · rename_i id' s1 H1 h1
      refine WC_block ((ih hok hcov h1).mono fun e' σ1 hd => ?_)
      obtain ⟨rfl, hp1⟩ := hd
      split at hc
      · rename_i hb
        cases hc
        show blockK id _ (.exit id') σ1
        simp only [blockK, hb]
        exact ⟨rfl, hp1⟩
      · rename_i hb
        cases hc
        show blockK id _ (.exit id') σ1
        simp only [blockK, hb]
        exact ⟨rfl, hp1⟩
    · rename_i hne
      refine WC_block ((ih hok hcov hc).mono fun e' σ1 hd => ?_)
      cases e with
      | normal => obtain ⟨rfl, hp1⟩ := hd; exact ⟨rfl, hp1⟩
      | ret => obtain ⟨rfl, hp1⟩ := hd; exact ⟨rfl, hp1⟩
      | exit id => exact absurd hc (hne _ _ _)
      | panic v => obtain ⟨v', rfl, hp1⟩ := hd; exact ⟨v', rfl, hp1⟩
  | loop a ih =>
    intro bs s Hp M F σ e s2 H2 hok hcov hc
    simp only [codeX] at hc
    refine WC_loopX (fun m σ' => ∃ r s' H' M', loopX (codeX c.P call pt lf top c.N a) m s' H' = some (e, s2, H2) ∧ Cov (bs ++ r) s' H' M' F σ' ∧ ∀ {e' σ2}, DoneK (bs ++ r) H' M' F e s2 H2 e' σ2 → DoneK bs Hp M F e s2 H2 e' σ2) lf ⟨[], s, Hp, M, hc, by simpa using hcov, fun h => by simpa using h⟩ ?_
    rintro m σ1 ⟨r, s', H', M', h1, hcov1, hcomp⟩
    cases m with
    | zero => cases h1
    | succ m =>
      simp only [loopX] at h1
      split at h1
      · rename_i s3 H3 h3
        refine (ih hok hcov1 h3).mono fun e' σ3 hd => ?_
        obtain ⟨rfl, hp3⟩ := hd
        obtain ⟨r3, M3, hcov3, hl3, hq3, _⟩ := hp3.split
        exact ⟨m, Nat.lt_succ_self m, r ++ r3, s3, H3, M3, h1, by rw [← List.append_assoc]; exact hcov3, fun hq => hcomp (DoneK.comp hl3 hq3 (by rw [List.append_assoc]; exact hq))⟩
      · rename_i hne
        refine (ih hok hcov1 h1).mono fun e' σ3 hd => ?_
        have hd' := hcomp hd
        cases e with
        | normal => exact absurd h1 (hne _ _)
        | ret => obtain ⟨rfl, hp3⟩ := hd'; exact ⟨rfl, hp3⟩
        | exit id => obtain ⟨rfl, hp3⟩ := hd'; exact ⟨rfl, hp3⟩
        | panic v => obtain ⟨v', rfl, hp3⟩ := hd'; exact ⟨v', rfl, hp3⟩
  | rangeFunc x ps assign body =>
    intro bs s Hp M F σ e s2 H2 _ hcov hc
    simp only [codeX] at hc
    split at hc
    · exact rangeX_ok hcall (htop rfl) hcov hc
    · cases hc
  | region id ops draw =>
    intro bs s Hp M F σ e s2 H2 hok hcov hc
    exact regionX_ok hcall hmix htop hok hcov hc
  | _ => intro bs s Hp M F σ e s2 H2 _ _ hc; cases hc
end
end
end Go.Proofs.Ytgimodceldoniaa
namespace Go.Proofs.Ytgimodceldoniaa
open Go.RowKit
noncomputable section
attribute [local irreducible] T.put T.set opX opP calmX effX callX appendX
structure XF where
  fn : Func
  code : Code
  pt : T (Nat × Plan)
  mask : Nat
def resX (P : Program) (s : S) (h : T O) : List ResultVar → Option (List V)
  | [] => some []
  | .tmp t :: r => match s.get t, resX P s h r with
    | some v, some l => some (v :: l)
    | _, _ => none
  | .cell a t :: r => match loadX P h t (s.get a), resX P s h r with
    | some (v, _), some l => some (v :: l)
    | _, _ => none
def leaveX (call : CallF) : List DI → Option V → H → Option (Option V × H)
  | [], m, Hp => some (m, Hp)
  | .mark k :: r, m, Hp => match Hp.h.get k with
    | some .defer => leaveX call r m (Hp.upd k .gone)
    | _ => none
  | .call f A B :: r, m, Hp => match call.d f (A ++ B) m Hp with
    | some (m2, H2) => leaveX call r m2 H2
    | none => none
inductive FR where
  | ret (v : V)
  | pan (v : V)
def retX (P : Program) (x : XF) (ds0 : List DI) (s2 : S) (H3 : H) : Option V → Option (FR × H)
  | none => match resX P s2 H3.h x.fn.results.toList with
    | some [v] => some (.ret v, ⟨H3.h, H3.n, H3.log, ds0⟩)
    | some l => some (.ret (.tup l), ⟨H3.h, H3.n, H3.log, ds0⟩)
    | none => none
  | some v => some (.pan v, ⟨H3.h, H3.n, H3.log, ds0⟩)
def goneX (P : Program) (call : CallF) (x : XF) (ds0 : List DI) (s2 : S) (H2 : H) (m : Option V) : Option (FR × H) := match leaveX call H2.ds m H2 with
  | some (m2, H3) => retX P x ds0 s2 H3 m2
  | none => none
def endF (P : Program) (call : CallF) (x : XF) (ds0 : List DI) : CX → Option (FR × H)
  | some (.normal, s2, H2) => goneX P call x ds0 s2 H2 none
  | some (.ret, s2, H2) => goneX P call x ds0 s2 H2 none
  | some (.panic v, s2, H2) => goneX P call x ds0 s2 H2 (some v)
  | _ => none
def runF (P : Program) (tab : T XF) (lf : Nat) (call : CallF) (f : FuncId) (vs : List V) (Hp : H) : Option (FR × H) := match tab.get f with
  | some x => match Nat.ble vs.length x.fn.ntmps with
    | true => endF P call x Hp.ds (codeX P call x.pt lf true x.fn.ntmps x.code (S.ofArgs vs x.mask) ⟨Hp.h, Hp.n, Hp.log, []⟩)
    | false => none
  | none => none
def recOf : Code → Option (Option Nat × List Oper × Code)
  | .seq (.region _ ops false) rest => match ops.toList with
    | o :: more => match o.op, o.guard with
      | .call cl, none => match cl.callee with
        | .builtin .recover => some (o.dst, more, rest)
        | _ => none
      | _, _ => none
    | _ => none
  | _ => none
def calmL (P : Program) (h : T O) : List Oper → S → Option S
  | [], s => some s
  | o :: r, s => match o.guard, calmX P s h o.op with
    | none, some (v, _) => calmL P h r (putD s o.dst v)
    | _, _ => none
def recV : Option V → V
  | none => .nili
  | some v => v
def doneD (P : Program) (x : XF) (ds0 : List DI) (m : Option V) (s2 : S) (H2 : H) : Option (Option V × H) := match H2.ds, resX P s2 H2.h x.fn.results.toList with
  | [], some _ => some (m, ⟨H2.h, H2.n, H2.log, ds0⟩)
  | _, _ => none
def endD (P : Program) (x : XF) (ds0 : List DI) (m : Option V) : CX → Option (Option V × H)
  | some (.normal, s2, H2) => doneD P x ds0 m s2 H2
  | some (.ret, s2, H2) => doneD P x ds0 m s2 H2
  | _ => none
def defF (P : Program) (tab : T XF) (lf : Nat) (call : CallF) (f : FuncId) (vs : List V) (m : Option V) (Hp : H) : Option (Option V × H) := match tab.get f with
  | some x => match Nat.ble vs.length x.fn.ntmps with
    | true => match recOf x.code with
      | some (d, more, rest) => match calmL P Hp.h more (putD (S.ofArgs vs x.mask) d (recV m)) with
        | some s => endD P x Hp.ds none (codeX P call x.pt lf true x.fn.ntmps rest s ⟨Hp.h, Hp.n, Hp.log, []⟩)
        | none => none
      | none => endD P x Hp.ds m (codeX P call x.pt lf true x.fn.ntmps x.code (S.ofArgs vs x.mask) ⟨Hp.h, Hp.n, Hp.log, []⟩)
    | false => none
  | none => none
def zipX : List Nat → List V → S → S
  | p :: ps, v :: vs, s => zipX ps vs (s.set p v)
  | _, _, s => s
def roundX (k : Nat) (ds0 : List DI) (e : EX) (H4 : H) : Option (V × H) := match H4.h.get k with
  | some (.loop cl .busy) => match e with
    | .normal => some (.bool true, ⟨H4.h.set k (.loop cl .ready), H4.n, k :: H4.log, ds0⟩)
    | .ret => some (.bool false, ⟨H4.h.set k (.loop cl (.done .ret)), H4.n, k :: H4.log, ds0⟩)
    | .exit id => some (.bool false, ⟨H4.h.set k (.loop cl (.done (.exit id))), H4.n, k :: H4.log, ds0⟩)
    | .panic _ => none
  | _ => none
def yieldX (P : Program) (call : CallF) (lf : Nat) (k : Nat) (vs : List V) (Hp : H) : Option (V × H) := match Hp.h.get k with
  | some (.loop cl .ready) => match Nat.beq vs.length cl.ps.length, psOk cl.N cl.ps, codeOk cl.N cl.pt cl.assign, codeOk cl.N cl.pt cl.body with
    | true, true, true, true => match codeX P call cl.pt lf false cl.N cl.assign (zipX cl.ps vs cl.s) ⟨Hp.h, Hp.n, Hp.log, []⟩ with
      | some (.normal, s2, H2) => match H2.h.get k with
        | some (.loop cl2 .ready) => match codeX P call cl.pt lf false cl.N cl.body s2 (H2.upd k (.loop cl2 .busy)) with
          | some (e, _, H4) => roundX k Hp.ds e H4
          | none => none
        | _ => none
      | _ => none
    | _, _, _, _ => none
  | _ => none
def retO : Option (FR × H) → Option (V × H)
  | some (.ret v, H2) => some (v, H2)
  | _ => none
def panO : Option (FR × H) → Option (V × H)
  | some (.pan v, H2) => some (v, H2)
  | _ => none
abbrev PrimF := FuncId → List V → H → Option (V × H)
def noPr : PrimF := fun _ _ _ => none
def primO (a : Option (V × H)) (b : Option (V × H)) : Option (V × H) := match a with
  | some r => some r
  | none => b
structure PrimOk (P : Program) (pr : PrimF) : Prop where
  x : ∀ f vs Hp v H2, pr f vs Hp = some (v, H2) → Ext Hp H2
  c : ∀ f vs Hp v H2, pr f vs Hp = some (v, H2) → FCall P f
  n : ∀ f vs Hp v H2, pr f vs Hp = some (v, H2) → ∀ bs M F vs', HCov bs Hp M → RVs bs vs vs' → Fn P f vs' (M ++ F) (FPost bs Hp M F v H2)
theorem noPr_ok {P : Program} : PrimOk P noPr := ⟨fun _ _ _ _ _ h => (by cases h), fun _ _ _ _ _ h => (by cases h), fun _ _ _ _ _ h => (by cases h)⟩
def funX (P : Program) (tab : T XF) (lf : Nat) (pr : PrimF) : Nat → CallF
  | 0 => ⟨fun _ _ _ => none, fun _ _ _ => none, fun _ _ _ => none, fun _ _ _ _ => none⟩
  | n + 1 => ⟨fun f vs Hp => primO (pr f vs Hp) (retO (runF P tab lf (funX P tab lf pr n) f vs Hp)), fun k vs Hp => yieldX P (funX P tab lf pr n) lf k vs Hp,
    fun f vs Hp => panO (runF P tab lf (funX P tab lf pr n) f vs Hp), fun f vs m Hp => defF P tab lf (funX P tab lf pr n) f vs m Hp⟩
structure GoodF (P : Program) (f : FuncId) (x : XF) : Prop where
  fn : P.funcs[f]? = some x.fn
  body : x.fn.body = some x.code
  call : FCall P f
  ok : codeOk x.fn.ntmps x.pt x.code = true
def GoodL (P : Program) : List (Nat × XF) → Prop
  | [] => True
  | p :: r => GoodF P p.1 p.2 ∧ GoodL P r
theorem GoodL.mem {P : Program} : ∀ {l : List (Nat × XF)}, GoodL P l → ∀ p ∈ l, GoodF P p.1 p.2
  | [], _, _, h => by cases h
  | _ :: _, ⟨h1, h2⟩, p, hp => by
    rcases List.mem_cons.1 hp with rfl | hp
    · exact h1
    · exact GoodL.mem h2 p hp
theorem loadX_run {c : Cx} {bs : Bs} {s : S} {Hp : H} {M F : List (Nat × Obj)} {σ : St} {a t : Nat} {v : V} {rd : Option Nat} (hcov : Cov bs s Hp M F σ) (h : loadX c.P Hp.h t (s.get a) = some (v, rd)) : ∃ v', RV bs v v' ∧ resV c σ v' (.cell a t) := by
  generalize hx : s.get a = e at h
  unfold loadX at h
  split at h
  · rename_i k off
    obtain ⟨p, hp, hr⟩ := hcov.slots a _ hx
    obtain ⟨b, base, av, rfl, hk⟩ := hr.ptr_inv
    split at h
    · rename_i cc hb
      obtain ⟨ob, hob, hrd⟩ := rdX_ok (bs := bs) (base := base) (av := av) hb
      obtain ⟨b', base', av', i, o', a1, a2, aRO⟩ := hcov.mem.at_ k _ hob
      rw [hk] at a1; cases a1
      obtain ⟨cs, E, fr, rfl, a3, a4⟩ := hrd aRO
      have hi : σ.L[i]? = some (b, .cells cs E fr) := by
        rw [hcov.L, List.getElem?_append_left (List.getElem?_eq_some_iff.1 a2).1]; exact a2
      split at h
      · rename_i ha
        split at h
        · rename_i u hu
          cases h
          obtain ⟨_, v', a5, a6⟩ := a4 off _ hu
          refine ⟨v', a6, fun ac w hH => ?_⟩
          have hp' := hH.slots a _ hp
          have hcell : w.cell? ⟨b, base + off, none⟩ = some v' := by rw [cell_of_row w b (base + off) cs E fr (hH.mem.at_ hi)]; exact a5
          rw [Array.getD_eq_getD_getElem?] at hp'
          simp [resSem, hp', asAddr, loadVar, (aggX_ok ha).h, hcell]
        · cases h
      · rename_i ha
        split at h
        · rename_i n hn
          split at h
          · rename_i l hl
            cases h
            obtain ⟨l', e1, e2, e3, e4⟩ := cellsX_ok a4 (n + 1) off l hl
            refine ⟨_, .agg e1, fun ac w hH => ?_⟩
            have hp' := hH.slots a _ hp
            have hload := run_loadCells_list (P := c.P) w ⟨b, base + off, none⟩ l' (fun j v hv => by
              have hj := (List.getElem?_eq_some_iff.1 hv).1
              rw [Addr.add_mid, cell_of_row w b (base + off + j) cs E fr (hH.mem.at_ hi), e3 j (by omega)]; exact hv)
            rw [e2] at hload
            rw [Array.getD_eq_getD_getElem?] at hp'
            simp [resSem, hp', asAddr, loadVar, (aggX_ok ha).h, (sizeX_ok hn).h, hload]
          · cases h
        · cases h
      · cases h
    · cases h
  · cases h
theorem resX_ok {c : Cx} {bs : Bs} {s : S} {Hp : H} {M F : List (Nat × Obj)} {σ : St} (hcov : Cov bs s Hp M F σ) : ∀ {rs : List ResultVar} {l : List V}, resX c.P s Hp.h rs = some l → ∃ l', RVs bs l l' ∧ ∀ a w, Holds c.g c.N σ a w → (rs.mapM (resSem a.tmps)).run c.P w = .ok l' w
  | [], l, h => by cases h; exact ⟨[], .nil, fun a w _ => by simp⟩
  | .tmp t :: r, l, h => by
    simp only [resX] at h
    split at h
    · rename_i v l h1 h2
      cases h
      obtain ⟨v', h3, h4⟩ := hcov.slots t v h1
      obtain ⟨l', h5, h6⟩ := resX_ok hcov h2
      refine ⟨v' :: l', .cons h4 h5, fun a w ha => ?_⟩
      have := resV_tmp (c := c) h3 a w ha
      simp [List.mapM_cons, this, h6 a w ha]
    · cases h
  | .cell p t :: r, l, h => by
    simp only [resX] at h
    split at h
    · rename_i v rd l h1 h2
      cases h
      obtain ⟨v', h4, h3⟩ := loadX_run (c := c) hcov h1
      obtain ⟨l', h5, h6⟩ := resX_ok hcov h2
      refine ⟨v' :: l', .cons h4 h5, fun a w ha => ?_⟩
      have := h3 a w ha
      simp [List.mapM_cons, this, h6 a w ha]
    · cases h
theorem covS_row {bs : Bs} {vs : List V} {vs' : List Value} {m : Nat} (h : RVs bs vs vs') : CovS bs (S.ofArgs vs m) (initS 0 vs') := by
  have look_init : ∀ (l : List Value) (k t : Nat) (v : Value), k ≤ t → l[t - k]? = some v → look (initS k l) t = some v := by
    intro l
    induction l with
    | nil => intro k t v _ h; simp at h
    | cons u r ih =>
      intro k t v hk h
      rw [initS, look_cons]
      by_cases e : k = t
      · subst e; simp at h; rw [if_pos rfl, h]
      · rw [if_neg e]
        refine ih (k + 1) t v (by omega) ?_
        rw [show t - k = (t - (k + 1)) + 1 by omega] at h
        simpa using h
  intro t v hv
  obtain ⟨v', h3, h4⟩ := h.get (S.get_args hv)
  exact ⟨v', look_init vs' 0 t v' (Nat.zero_le _) (by simpa using h3), h4⟩
theorem setL_some : ∀ {L : List (Nat × Obj)} {i : Nat} {q : Nat × Obj} (p : Nat × Obj), L[i]? = some q → setL L i p = some (L.set i p)
  | [], i, q, p, h => by simp at h
  | x :: r, 0, q, p, h => rfl
  | x :: r, i + 1, q, p, h => by
    simp only [List.getElem?_cons_succ] at h
    simp [setL, setL_some p h]
theorem WC_nodup {c : Cx} {code : Code} {K : Exit → St → Prop} {σ : St} (h : WC c code (fun e σ' => (σ'.L.map Prod.fst).Nodup → K e σ') σ) : WC c code K σ := fun a w ha =>
  Go.wpIn_mono (h a w ha) fun e a' w' hl => by
    obtain ⟨σ', h1, h2⟩ := hl; exact ⟨σ', h1, h2 h1.mem.nodup⟩
theorem FnD_nodup {P : Program} {f : FuncId} {args : List Value} {L : List (Nat × Obj)} {u : FrameMode} {R : FrameMode → List (Nat × Obj) → Prop} (h : FnD P f args L u fun u' L' => (L'.map Prod.fst).Nodup → R u' L') : FnD P f args L u R := fun g w n hm =>
  (h g w n hm).mono fun _ _ _ ⟨v, L', h1, h2, h3⟩ => ⟨v, L', h1, h2, h3 h2.nodup⟩
theorem FnD.mono {P : Program} {f : FuncId} {args : List Value} {L : List (Nat × Obj)} {u : FrameMode} {R R' : FrameMode → List (Nat × Obj) → Prop} (h : FnD P f args L u R) (hr : ∀ u' L', R u' L' → R' u' L') : FnD P f args L u R' := fun g w n hm =>
  (CallsDIn.mono (h g w n hm) fun _ u' _ ⟨v, L', h1, h2, h3⟩ => ⟨v, L', h1, h2, hr u' L' h3⟩)
theorem RM.mono {bs : Bs} (r : Bs) {m : Option V} {u : FrameMode} (h : RM bs m u) : RM (bs ++ r) m u := by
  cases m with
  | none => exact h
  | some v => obtain ⟨v', h1, h2⟩ := h; exact ⟨v', h1, h2.mono r⟩
theorem RM.ne {bs : Bs} {m : Option V} {u : FrameMode} (h : RM bs m u) : u ≠ .run := by
  cases m with
  | none => rw [show u = .returning from h]; simp
  | some v => obtain ⟨v', h1, h2⟩ := h; rw [h1]; simp
set_option maxHeartbeats 4000000 in
theorem leaveX_ok {c : Cx} {call : CallF} (hcall : CallOk c.P call) {fn : Func} {Rr Rp : Value → List (Nat × Obj) → Prop} : ∀ (ks : List DI) {bs : Bs} {s : S} {Hp H3 : H} {M F : List (Nat × Obj)} {σs : List (Nat × Value)} {D : List Deferred} {m m2 : Option V} {u : FrameMode}, CovS bs s σs → HCov bs Hp M → ((M ++ F).map Prod.fst).Nodup → RD bs ks D → RM bs m u → leaveX call ks m Hp = some (m2, H3) →
    (∀ r M' u', CovS (bs ++ r) s σs → HCov (bs ++ r) H3 M' → RM (bs ++ r) m2 u' → (∀ k ∈ Hp.log, k ∈ H3.log) → (∀ W B, (∀ k ∈ H3.log, k ∈ W) → Prot bs Hp M W B → Prot (bs ++ r) H3 M' W B) → LeavS c fn σs Rr Rp [] u' (M' ++ F)) → LeavS c fn σs Rr Rp D u (M ++ F)
  | [], bs, s, Hp, H3, M, F, σs, D, m, m2, u, hs, hm, hn, hD, hu, h, hk => by
    cases h; cases hD
    exact hk [] M u (by simpa using hs) (by simpa using hm) (by simpa using hu) (fun _ h => h) (fun _ _ _ h => by simpa using h)
  | .mark k :: ks, bs, s, Hp, H3, M, F, σs, D, m, m2, u, hs, hm, hn, ⟨b, x, y, D', e1, e2, e3⟩, hu, h, hk => by
    subst e2
    simp only [leaveX] at h
    split at h
    · rename_i hg
      obtain ⟨b', base, av, i, o', a1, a2, a3⟩ := hm.at_ k _ hg
      rw [e1] at a1; cases a1
      cases a3
      have hi : (M ++ F)[i]? = some (b, .deferred (some [])) := by
        rw [List.getElem?_append_left (List.getElem?_eq_some_iff.1 a2).1]; exact a2
      have hcov : Cov bs s ⟨Hp.h, Hp.n, Hp.log, []⟩ M F ⟨σs, [], M ++ F⟩ := ⟨hs, rfl, ⟨hm.n, hm.at_, hm.inj⟩, rfl⟩
      have hu2 := Post_upd (s2 := s) (σ' := ⟨σs, [], (M ++ F).set i (b, .deferred none)⟩) (ob2 := .gone) hcov hn hg e1 a2 trivial hs rfl rfl
      obtain ⟨r, M1, f1, f2, f3, f4, f5, f6⟩ := hu2
      have f4' : HCov (bs ++ r) (Hp.upd k .gone) M1 := ⟨f4.n, f4.at_, f4.inj⟩
      have f2' : (M ++ F).set i (b, .deferred none) = M1 ++ F := f2
      have hn2 : ((M1 ++ F).map Prod.fst).Nodup := by rw [← f2']; exact nodup_set hn hi _
      refine ⟨hu.ne, .inl ⟨b, i, M1 ++ F, rfl, hi, by rw [← f2']; exact setL_some _ hi, ?_⟩⟩
      refine leaveX_ok hcall ks f3 f4' hn2 (e3.mono r) (hu.mono r) h fun r2 M2 u2 g1 g2 g3 g4 g5 => ?_
      rw [List.append_assoc] at g1 g2 g3 g5
      refine hk (r ++ r2) M2 u2 g1 g2 g3 (fun k hk => g4 k (List.mem_cons_of_mem _ hk)) fun W B hW hB => ?_
      refine g5 W B hW ?_
      have := f6 W B (fun k hk => hW k (g4 k hk)) (by simpa [Prot] using hB)
      exact fun q hq => this q hq
    · cases h
  | .call f A B :: ks, bs, s, Hp, H3, M, F, σs, D, m, m2, u, hs, hm, hn, ⟨A', B', D', e1, e2, e3, e4⟩, hu, h, hk => by
    subst e3
    simp only [leaveX] at h
    split at h
    · rename_i m3 H4 hd
      have hfc := hcall.dc _ _ _ _ _ _ hd
      have hD := hcall.dn _ _ _ _ _ _ hd bs M F (A' ++ B') u hm (e1.append e2) hu
      refine ⟨hu.ne, .inr ⟨f, A'.toArray, B'.toArray, rfl, hfc, FnD_nodup (FnD.mono (by simpa using hD) ?_)⟩⟩
      rintro u' L' ⟨r, M1, rfl, f2, f3, f4, f5, f6⟩ hn2
      refine leaveX_ok hcall ks (hs.mono r) f3 hn2 (e4.mono r) f2 h fun r2 M2 u2 g1 g2 g3 g4 g5 => ?_
      rw [List.append_assoc] at g1 g2 g3 g5
      exact hk (r ++ r2) M2 u2 g1 g2 g3 (fun k hk => g4 k (f5 k hk)) fun W B hW hB => g5 W B hW (f6 W B (fun k hk => hW k (g4 k hk)) hB)
    · cases h
theorem covS_zip {bs : Bs} : ∀ {ps : List Nat} {vs : List V} {vs' : List Value} {s : S} {σs : List (Nat × Value)}, CovS bs s σs → RVs bs vs vs' → CovS bs (zipX ps vs s) (zipS ps vs' σs)
  | [], _, _, _, _, h, _ => by simpa [zipX, zipS] using h
  | _ :: _, [], _, _, _, h, hv => by cases hv; simpa [zipX, zipS] using h
  | p :: ps, v :: vs, _, s, σs, h, .cons h1 h2 => by
    simp only [zipX, zipS]
    exact covS_zip (h.put h1) h2
set_option maxHeartbeats 4000000 in
theorem roundX_ok {bs : Bs} {k : Nat} {ds0 : List DI} {e : EX} {H4 H5 : H} {v : V} {M F : List (Nat × Obj)} {g w : World} {l x y : Nat} {P : Program} (hk : bs[k]? = some (l, x, y)) (hm : HCov bs H4 M) (hmem : Mem g (M ++ F) w) (h : roundX k ds0 e H4 = some (v, H5)) :
    ∃ jump, (e = .normal ∧ jump = none ∨ e = .ret ∧ jump = some .ret ∨ ∃ id, e = .exit id ∧ jump = some (.exit id)) ∧ ∃ w6, (Instr.endRound l jump).run P w = .ok (.bool jump.isNone) w6 ∧ ∃ L', Mem g L' w6 ∧ FPost bs ⟨H4.h, H4.n, H4.log, ds0⟩ M F v H5 (.bool jump.isNone) L' := by
  unfold roundX at h
  split at h
  · rename_i cl hg
    obtain ⟨l', x1, x2, i, o', a1, a2, rec, σs, rfl, a3, a4, a5, a6, a7, a8, a9⟩ := hm.at_ _ _ hg
    rw [hk] at a1; cases a1
    have hi : (M ++ F)[i]? = some (l, .loop rec) := by rw [List.getElem?_append_left (List.getElem?_eq_some_iff.1 a2).1]; exact a2
    have main : ∀ (jump : Option Code) (st : LSt), (∀ r : Loop, r.state = (if jump.isNone then .ready else .done) → r.pending = jump → st.fits r) →
        ∃ w6, (Instr.endRound l jump).run P w = .ok (.bool jump.isNone) w6 ∧ ∃ L', Mem g L' w6 ∧ FPost bs ⟨H4.h, H4.n, H4.log, ds0⟩ M F (.bool jump.isNone) ⟨H4.h.set k (.loop cl st), H4.n, k :: H4.log, ds0⟩ (.bool jump.isNone) L' := by
      intro jump st hst
      have h1 := run_endRound (P := P) jump (hmem.at_ hi)
      have h2 := hmem.putObj hi (.loop { rec with state := if jump.isNone then .ready else .done, pending := jump })
      refine ⟨_, h1, _, h2, ?_⟩
      have hcov : Cov bs ⟨[], [], 0⟩ ⟨H4.h, H4.n, H4.log, []⟩ M F ⟨[], [], M ++ F⟩ := ⟨covS_none, rfl, ⟨hm.n, hm.at_, hm.inj⟩, rfl⟩
      have hu := Post_upd (s2 := ⟨[], [], 0⟩) (σ' := ⟨[], [], (M ++ F).set i (l, .loop { rec with state := if jump.isNone then .ready else .done, pending := jump })⟩) (ob2 := .loop cl st) hcov hmem.nodup hg hk a2 ⟨{ rec with state := if jump.isNone then .ready else .done, pending := jump }, σs, rfl, a3, a4, a5, a6, a7, a8, hst _ rfl rfl⟩ covS_none rfl rfl
      obtain ⟨r, M1, f1, f2, f3, f4, f5, f6⟩ := hu
      refine ⟨r, M1, f2, .bool _, ⟨f4.n, f4.at_, f4.inj⟩, rfl, f5, fun W B hW hB => ?_⟩
      have := f6 W B hW (by simpa [Prot] using hB)
      exact fun q hq => this q hq
    split at h
    · cases h
      obtain ⟨w6, h1, h2⟩ := main none .ready (fun r h1 h2 => ⟨h1, h2⟩)
      exact ⟨none, .inl ⟨rfl, rfl⟩, w6, h1, h2⟩
    · cases h
      obtain ⟨w6, h1, h2⟩ := main (some .ret) (.done .ret) (fun r h1 h2 => ⟨h1, h2⟩)
      exact ⟨some .ret, .inr (.inl ⟨rfl, rfl⟩), w6, h1, h2⟩
    · rename_i id
      cases h
      obtain ⟨w6, h1, h2⟩ := main (some (.exit id)) (.done (.exit id)) (fun r h1 h2 => ⟨h1, h2⟩)
      exact ⟨some (.exit id), .inr (.inr ⟨id, rfl, rfl⟩), w6, h1, h2⟩
    · cases h
  · cases h
theorem FPost.comp {bs r : Bs} {Hp H1 : H} {M M1 F : List (Nat × Obj)} {v : V} {H2 : H} {v' : Value} {L' : List (Nat × Obj)} (hl : ∀ k ∈ Hp.log, k ∈ H1.log) (hp : ∀ W B, (∀ k ∈ H1.log, k ∈ W) → Prot bs Hp M W B → Prot (bs ++ r) H1 M1 W B) (hd : H1.ds = Hp.ds) (h : FPost (bs ++ r) H1 M1 F v H2 v' L') : FPost bs Hp M F v H2 v' L' := by
  obtain ⟨r2, M2, f1, f2, f3, fd, f5, f6⟩ := h
  exact ⟨r ++ r2, M2, f1, by rw [← List.append_assoc]; exact f2, by rw [← List.append_assoc]; exact f3, fd.trans hd, fun k hk => f5 k (hl k hk), fun W B hW hB => by
    rw [← List.append_assoc]; exact f6 W B hW (hp W B (fun k hk => hW k (f5 k hk)) hB)⟩
set_option maxHeartbeats 4000000 in
theorem yieldX_ok {P : Program} {call : CallF} {lf : Nat} (hcall : CallOk P call) (hmix : P.follows .mixedOrders = true) {k : Nat} {vs : List V} {Hp : H} {v : V} {H2 : H} (h : yieldX P call lf k vs Hp = some (v, H2)) {bs : Bs} {M F : List (Nat × Obj)} {vs' : List Value} {l x y : Nat} (hm : HCov bs Hp M) (hk : bs[k]? = some (l, x, y)) (hvs : RVs bs vs vs') : YieldFn P l vs' (M ++ F) (FPost bs Hp M F v H2) := by
  unfold yieldX at h
  split at h
  · rename_i cl hg
    split at h
    · rename_i c1 c2 c3 c4
      split at h
      · rename_i s2 H3 hcode
        split at h
        · rename_i cl2 hg2
          split at h
          · rename_i e s4 H4 hcode2
            intro g w n hmem
            obtain ⟨l', x1, x2, i, o', a1, a2, rec, σs, rfl, a3, a4, a5, a6, a7, a8, a9⟩ := hm.at_ _ _ hg
            rw [hk] at a1; cases a1
            have hi : (M ++ F)[i]? = some (l, .loop rec) := by rw [List.getElem?_append_left (List.getElem?_eq_some_iff.1 a2).1]; exact a2
            have hlen := Nat.eq_of_beq_eq_true c1
            have hvl := hvs.length
            have hy := run_yield (P := P) (w := w) (args := vs'.toArray) (hmem.at_ hi) (by rw [a3]; simp; omega)
            refine ⟨rec.fn, _, rec.assign, rec.body, hy, roundIn_of_wpIn trivial ?_⟩
            have hz := holds_zip (g := g) (w := w) (N := cl.N) (D := []) (L := M ++ F) cl.ps vs' σs { tmps := rec.tmps, defers := [] } (psOk_ok c2) ⟨a6, a8, rfl, hmem⟩
            have e2 : (cl.ps.zip vs').foldl (fun t (q : Nat × Value) => t.setIfInBounds q.1 q.2) rec.tmps = (rec.params.zip vs'.toArray).foldl (fun tmps (q : Nat × Value) => tmps.setIfInBounds q.1 q.2) rec.tmps := by
              rw [a3, ← Array.foldl_toList, Array.toList_zip]
            simp only [e2] at hz
            rw [a4, a5]
            have hcov0 : Cov bs (zipX cl.ps vs cl.s) ⟨Hp.h, Hp.n, Hp.log, []⟩ M F ⟨zipS cl.ps vs' σs, [], M ++ F⟩ := ⟨covS_zip a7 hvs, rfl, ⟨hm.n, hm.at_, hm.inj⟩, rfl⟩
            have hwp := codeX_ok (c := ⟨P, g, cl.N, n, some l⟩) hcall hmix (fun h => by cases h) cl.assign c3 hcov0 hcode
            refine Go.wpIn_mono (hwp _ w hz) (fun e' a10 w3 hl3 => ?_)
            cases e' with
            | panic ch => obtain ⟨_, _, h, _⟩ := hl3; cases h
            | ret => obtain ⟨_, _, h, _⟩ := hl3; cases h
            | exit id => obtain ⟨_, _, h, _⟩ := hl3; cases h
            | goto t => obtain ⟨_, _, h, _⟩ := hl3; cases h
            | outgrown => obtain ⟨_, _, h, _⟩ := hl3; cases h
            | normal =>
              obtain ⟨σ', hH, _, hpost⟩ := hl3
              obtain ⟨r1, M1, hcov1, hlog1, hprot1, _⟩ := hpost.split
              obtain ⟨l2, y1, y2, i2, o2, b1, b2, rec2, σs2, rfl, b3, b4, b5, b6, b7, b8, b9⟩ := hcov1.mem.at_ _ _ hg2
              rw [bs_mono hk] at b1; cases b1
              have hi2 : σ'.L[i2]? = some (l, .loop rec2) := by rw [hcov1.L, List.getElem?_append_left (List.getElem?_eq_some_iff.1 b2).1]; exact b2
              have hb := run_beginRound (P := P) (hH.mem.at_ hi2) b9.1
              refine ⟨_, hb, ?_⟩
              have hm4 := hH.mem.putObj hi2 (.loop { rec2 with state := .busy })
              have hu := Post_upd (s2 := s2) (σ' := ⟨σ'.s, σ'.D, σ'.L.set i2 (l, .loop { rec2 with state := .busy })⟩) (ob2 := .loop cl2 .busy) hcov1 hH.mem.nodup hg2 (bs_mono hk) b2 ⟨{ rec2 with state := .busy }, σs2, rfl, b3, b4, b5, b6, b7, b8, rfl⟩ hcov1.slots rfl rfl
              obtain ⟨r2, M2, hcov2, hlog2, hprot2, _⟩ := hu.split
              have hH4 : Holds g cl.N ⟨σ'.s, σ'.D, σ'.L.set i2 (l, .loop { rec2 with state := .busy })⟩ a10 (w3.putObj l (.loop { rec2 with state := .busy })) := ⟨hH.size, hH.slots, hH.defers, hm4⟩
              have hwp2 := codeX_ok (c := ⟨P, g, cl.N, n, some l⟩) hcall hmix (fun h => by cases h) cl.body c4 hcov2 hcode2
              refine Go.wpIn_mono (hwp2 _ _ hH4) (fun e5 a5' w5 hl5 => ?_)
              have last : ∀ (σ5 : St), Holds g cl.N σ5 a5' w5 → Post (bs ++ r1 ++ r2) (H3.upd k (.loop cl2 .busy)) M2 F s4 H4 σ5 → ∃ jump, (e = .normal ∧ jump = none ∨ e = .ret ∧ jump = some .ret ∨ ∃ id, e = .exit id ∧ jump = some (.exit id)) ∧ ∃ w6, (Instr.endRound l jump).run P w5 = .ok (.bool jump.isNone) w6 ∧ ∃ L', Mem g L' w6 ∧ FPost bs Hp M F v H2 (.bool jump.isNone) L' := by
                intro σ5 hH5 hp5
                obtain ⟨r3, M3, hcov3, hlog3, hprot3, _⟩ := hp5.split
                have hmem5 := hH5.mem
                rw [hcov3.L] at hmem5
                obtain ⟨jump, k1, w6, k2, L', k3, k4⟩ := roundX_ok (bs_mono (bs_mono (bs_mono hk))) hcov3.mem hmem5 h
                refine ⟨jump, k1, w6, k2, L', k3, ?_⟩
                refine FPost.comp (r := r1) (H1 := ⟨H3.h, H3.n, H3.log, Hp.ds⟩) (M1 := M1) hlog1 (fun W B hW hB => ?_) rfl ?_
                · exact fun q hq => hprot1 W B hW (by simpa [Prot] using hB) q hq
                refine FPost.comp (r := r2) (H1 := ⟨(H3.upd k (.loop cl2 .busy)).h, H3.n, k :: H3.log, Hp.ds⟩) (M1 := M2) hlog2 (fun W B hW hB => ?_) rfl ?_
                · exact fun q hq => hprot2 W B hW (by simpa [Prot] using hB) q hq
                refine FPost.comp (r := r3) (H1 := ⟨H4.h, H4.n, H4.log, Hp.ds⟩) (M1 := M3) hlog3 (fun W B hW hB => ?_) rfl k4
                exact fun q hq => hprot3 W B hW (by simpa [Prot] using hB) q hq
              have hl5 : ∃ σ5, Holds g cl.N σ5 a5' w5 ∧ e5 = e.to ∧ Post (bs ++ r1 ++ r2) (H3.upd k (.loop cl2 .busy)) M2 F s4 H4 σ5 := by
                obtain ⟨σ5, h1, h2⟩ := hl5
                cases e with
                | panic v => exfalso; unfold roundX at h; split at h <;> cases h
                | normal => exact ⟨σ5, h1, h2⟩
                | ret => exact ⟨σ5, h1, h2⟩
                | exit id => exact ⟨σ5, h1, h2⟩
              cases e5 with
              | panic ch => obtain ⟨_, _, h, _⟩ := hl5; cases e <;> cases h
              | goto t => obtain ⟨_, _, h, _⟩ := hl5; cases e <;> cases h
              | outgrown => obtain ⟨_, _, h, _⟩ := hl5; cases e <;> cases h
              | normal =>
                obtain ⟨σ5, hH5, he, hp5⟩ := hl5
                obtain ⟨jump, ⟨_, rfl⟩ | ⟨rfl, _⟩ | ⟨id, rfl, _⟩, w6, k2, L', k3, k4⟩ := last σ5 hH5 hp5
                · exact ⟨_, w6, k2, _, L', rfl, k3, k4⟩
                · cases he
                · cases he
              | ret =>
                obtain ⟨σ5, hH5, he, hp5⟩ := hl5
                obtain ⟨jump, ⟨rfl, _⟩ | ⟨_, rfl⟩ | ⟨id, rfl, _⟩, w6, k2, L', k3, k4⟩ := last σ5 hH5 hp5
                · cases he
                · exact ⟨_, w6, k2, _, L', rfl, k3, k4⟩
                · cases he
              | exit id' =>
                obtain ⟨σ5, hH5, he, hp5⟩ := hl5
                obtain ⟨jump, ⟨rfl, _⟩ | ⟨rfl, _⟩ | ⟨id, rfl, rfl⟩, w6, k2, L', k3, k4⟩ := last σ5 hH5 hp5
                · cases he
                · cases he
                · cases he
                  exact ⟨_, w6, k2, _, L', rfl, k3, k4⟩
          · cases h
        · cases h
      · cases h
    · cases h
  · cases h
def tupV : List V → V
  | [v] => v
  | l => .tup l
theorem RM.ret {bs : Bs} : RM bs none .returning := rfl
theorem RM.pan {bs : Bs} {v : V} {v' : Value} (h : RV bs v v') : RM bs (some v) (.panicking (Go.Proofs.Ytgimodceldoniaa.pan v')) := ⟨v', rfl, h⟩
theorem resX_res {P : Program} {g : World} {N n : Nat} {fn : Func} {bs : Bs} {s : S} {Hp : H} {M F : List (Nat × Obj)} {σs : List (Nat × Value)} {l : List V} (hs : CovS bs s σs) (hm : HCov bs Hp M) (hr : resX P s Hp.h fn.results.toList = some l) : ∃ v', Res ⟨P, g, N, n, none⟩ fn ⟨σs, [], M ++ F⟩ v' ∧ RV bs (tupV l) v' := by
  have hcov : Cov bs s ⟨Hp.h, Hp.n, Hp.log, []⟩ M F ⟨σs, [], M ++ F⟩ := ⟨hs, rfl, ⟨hm.n, hm.at_, hm.inj⟩, rfl⟩
  obtain ⟨l', h1, h2⟩ := resX_ok (c := ⟨P, g, N, n, none⟩) hcov hr
  refine ⟨(if h : l'.toArray.size = 1 then l'.toArray[0] else .tuple l'.toArray), fun a w ha => ?_, ?_⟩
  · have h3 := h2 a w ha
    rw [results_eq, Array.mapM_eq_mapM_toList]
    simp [h3]
  · match l, l', h1 with
    | [], [], h1 => simpa [tupV] using RV.tup h1
    | [u], [u'], .cons h1 _ => simpa [tupV] using h1
    | a :: b :: l, a' :: b' :: l', h1 => simpa [tupV] using RV.tup h1
theorem goneX_ok {P : Program} {g : World} {N : Nat} {call : CallF} (hcall : CallOk P call) {x : XF} {bs : Bs} {s2 : S} {Hp H1 H2 : H} {M F : List (Nat × Obj)} {σ' : St} {m : Option V} {u : FrameMode} {o : FR} (hnod : (σ'.L.map Prod.fst).Nodup)
    (hp : ∃ (r : Bs) (M' : List (Nat × Obj)), RD (bs ++ r) H1.ds σ'.D ∧ σ'.L = M' ++ F ∧ CovS (bs ++ r) s2 σ'.s ∧ HCov (bs ++ r) H1 M' ∧ (∀ k ∈ Hp.log, k ∈ H1.log) ∧ (∀ W B, (∀ k ∈ H1.log, k ∈ W) → Prot bs ⟨Hp.h, Hp.n, Hp.log, []⟩ M W B → Prot (bs ++ r) H1 M' W B) ∧ RM (bs ++ r) m u)
    (h : goneX P call x Hp.ds s2 H1 m = some (o, H2)) : LeavS ⟨P, g, N, 0, none⟩ x.fn σ'.s (fun v' L' => ∃ v, o = .ret v ∧ FPost bs Hp M F v H2 v' L') (fun v' L' => ∃ v, o = .pan v ∧ FPost bs Hp M F v H2 v' L') σ'.D u σ'.L := by
  obtain ⟨r, M', f1, f2, f3, f4, f5, f6, f7⟩ := hp
  unfold goneX at h
  split at h
  · rename_i m2 H3 hl
    rw [f2] at hnod ⊢
    refine leaveX_ok (c := ⟨P, g, N, 0, none⟩) hcall H1.ds f3 f4 hnod f1 f7 hl fun r2 M2 u2 g1 g2 g3 g4 g5 => ?_
    have fp : ∀ {v : V} {v' : Value}, RV (bs ++ r ++ r2) v v' → FPost bs Hp M F v ⟨H3.h, H3.n, H3.log, Hp.ds⟩ v' (M2 ++ F) := fun {v v'} hv => by
      rw [List.append_assoc] at hv g2 g5
      refine ⟨r ++ r2, M2, rfl, hv, ⟨g2.n, g2.at_, g2.inj⟩, rfl, fun k hk => g4 k (f5 k hk), fun W B hW hB => ?_⟩
      have h5 := g5 W B hW (f6 W B (fun k hk => hW k (g4 k hk)) (by simpa [Prot] using hB))
      exact fun q hq => h5 q hq
    cases m2 with
    | none =>
      rw [show u2 = .returning from g3]
      simp only [retX] at h
      split at h
      · rename_i v hr
        cases h
        obtain ⟨v', h1, h2⟩ := resX_res (F := F) g1 g2 hr
        exact ⟨v', M2 ++ F, h1, .refl _, v, rfl, fp h2⟩
      · rename_i l hnl hr
        cases h
        obtain ⟨v', h1, h2⟩ := resX_res (F := F) g1 g2 hr
        refine ⟨v', M2 ++ F, h1, .refl _, _, rfl, fp ?_⟩
        match l, hnl, h2 with
        | [], _, h2 => exact h2
        | [u], h, _ => exact absurd rfl (h u)
        | _ :: _ :: _, _, h2 => exact h2
      · cases h
    | some v =>
      obtain ⟨v', h1, h2⟩ := g3
      rw [h1]
      simp only [retX] at h
      cases h
      exact ⟨v', rfl, v, rfl, fp h2⟩
  · cases h
theorem runF_ok {P : Program} {tab : T XF} {lf : Nat} {call : CallF} (hcall : CallOk P call) (hmix : P.follows .mixedOrders = true) (htab : ∀ f x, tab.get f = some x → GoodF P f x) {f : FuncId} {vs : List V} {Hp : H} {o : FR} {H2 : H} (h : runF P tab lf call f vs Hp = some (o, H2)) :
    FCall P f ∧ ∀ bs M F vs', HCov bs Hp M → RVs bs vs vs' → ∀ g w, Mem g (M ++ F) w → Calls P f vs'.toArray w (EndR g (fun v' L' => ∃ v, o = .ret v ∧ FPost bs Hp M F v H2 v' L') fun v' L' => ∃ v, o = .pan v ∧ FPost bs Hp M F v H2 v' L') := by
  unfold runF at h
  split at h
  · rename_i x hx
    have hg := htab f x hx
    split at h
    · rename_i hle
      refine ⟨hg.call, fun bs M F vs' hm hvs => ?_⟩
      have hlen := hvs.length
      have hle := Nat.le_of_ble_eq_true hle
      refine enterL hg.fn hg.body rfl (Nat.ble_eq_true_of_le (by omega)) fun g => WC_nodup ?_
      have hcov : Cov bs (S.ofArgs vs x.mask) ⟨Hp.h, Hp.n, Hp.log, []⟩ M F ⟨initS 0 vs', [], M ++ F⟩ := ⟨covS_row hvs, rfl, ⟨hm.n, hm.at_, hm.inj⟩, rfl⟩
      generalize hcode : codeX P call x.pt lf true x.fn.ntmps x.code (S.ofArgs vs x.mask) ⟨Hp.h, Hp.n, Hp.log, []⟩ = res at h
      cases res with
      | none => cases h
      | some q =>
        obtain ⟨e, s2, H1⟩ := q
        refine (codeX_ok (c := ⟨P, g, x.fn.ntmps, 0, none⟩) hcall hmix (fun _ => rfl) x.code hg.ok hcov hcode).mono fun e' σ' hd hnod => ?_
        cases e with
        | exit id => cases h
        | normal =>
          obtain ⟨rfl, r, M', f1, f2, f3, f4, f5, f6⟩ := hd
          exact goneX_ok hcall hnod ⟨r, M', f1, f2, f3, f4, f5, f6, RM.ret⟩ h
        | ret =>
          obtain ⟨rfl, r, M', f1, f2, f3, f4, f5, f6⟩ := hd
          exact goneX_ok hcall hnod ⟨r, M', f1, f2, f3, f4, f5, f6, RM.ret⟩ h
        | panic v =>
          obtain ⟨v', rfl, r, M', f1, f2, f3, f4, f5, f6, f7⟩ := hd
          exact goneX_ok hcall hnod ⟨r, M', f1, f2, f3, f4, f5, f6, RM.pan f7⟩ h
    · cases h
  · cases h
theorem endD_ok {P : Program} {g : World} {N n : Nat} {x : XF} {bs : Bs} {e : EX} {s2 : S} {Hp H1 H2 : H} {M F : List (Nat × Obj)} {e' : Exit} {σ' : St} {m m2 : Option V} {u' : FrameMode} (hu : ∀ r, RM (bs ++ r) m (settle u'))
    (hd : DoneK bs ⟨Hp.h, Hp.n, Hp.log, []⟩ M F e s2 H1 e' σ') (h : endD P x Hp.ds m (some (e, s2, H1)) = some (m2, H2)) : postK ⟨P, g, N, n, none⟩ x.fn (fun _ L' => DPost bs Hp M F m2 H2 u' L') e' σ' := by
  have done : Post bs ⟨Hp.h, Hp.n, Hp.log, []⟩ M F s2 H1 σ' → doneD P x Hp.ds m s2 H1 = some (m2, H2) → σ'.D = [] ∧ ∃ v Lx, Res ⟨P, g, N, n, none⟩ x.fn σ' v ∧ Lx.Sublist σ'.L ∧ DPost bs Hp M F m2 H2 u' Lx := by
    rintro ⟨r, M', f1, f2, f3, f4, f5, f6⟩ h
    unfold doneD at h
    split at h
    · rename_i l hds hr
      cases h
      rw [hds] at f1
      obtain ⟨v', h1, _⟩ := resX_res (P := P) (g := g) (N := N) (n := n) (F := F) f3 f4 hr
      have hD : σ'.D = [] := f1
      obtain ⟨σs, D, L⟩ := σ'
      cases hD
      have f2' : L = M' ++ F := f2
      subst f2'
      refine ⟨rfl, v', M' ++ F, h1, .refl _, r, M', rfl, hu r, ⟨f4.n, f4.at_, f4.inj⟩, rfl, f5, fun W B hW hB => ?_⟩
      have h5 := f6 W B hW (by simpa [Prot] using hB)
      exact fun q hq => h5 q hq
    · cases h
  cases e with
  | normal => obtain ⟨rfl, hp⟩ := hd; exact done hp h
  | ret => obtain ⟨rfl, hp⟩ := hd; exact done hp h
  | exit id => cases h
  | panic v => cases h
theorem recOf_ok {c : Code} {d : Option Nat} {more : List Oper} {rest : Code} (h : recOf c = some (d, more, rest)) : ∃ id o args tys, c = .seq (.region id (o :: more).toArray false) rest ∧ o.op = .call { callee := .builtin .recover, args := args, argTypes := tys } ∧ o.guard = none ∧ o.dst = d := by
  unfold recOf at h
  split at h
  · rename_i id ops rest'
    split at h
    · rename_i o more' hl
      split at h
      · rename_i cl ho hg
        obtain ⟨cal, args, tys⟩ := cl
        split at h
        · rename_i hc
          simp only at hc
          subst hc
          cases h
          obtain rfl : ops = (o :: more).toArray := by apply Array.ext'; simpa using hl
          exact ⟨id, o, args, tys, rfl, ho, hg, rfl⟩
        · cases h
      · cases h
    · cases h
  · cases h
theorem calmL_ok {c : Cx} {bs : Bs} {Hp : H} {M F : List (Nat × Obj)} (hm : HCov bs Hp M) : ∀ {l : List Oper} {s s2 : S} {σs : List (Nat × Value)}, (∀ o ∈ l, dok c.N o.dst = true) → CovS bs s σs → calmL c.P Hp.h l s = some s2 → ∃ σs2, QS c (M ++ F) l σs σs2 ∧ CovS bs s2 σs2
  | [], s, s2, σs, _, hs, h => by cases h; exact ⟨σs, rfl, hs⟩
  | o :: r, s, s2, σs, hd, hs, h => by
    simp only [calmL] at h
    split at h
    · rename_i v rd hg hc
      obtain ⟨v', h1, h2⟩ := calmX_ok (c := c) (Ls := M ++ F) (o := o) hc hs (fun k ob _ hk => by
        obtain ⟨b, base, av, i, o', a1, a2, a3⟩ := hm.at_ k ob hk
        exact ⟨b, base, av, i, o', a1, by rw [List.getElem?_append_left (List.getElem?_eq_some_iff.1 a2).1]; exact a2, a3⟩)
      obtain ⟨σs2, h3, h4⟩ := calmL_ok hm (fun o ho => hd o (List.mem_cons_of_mem _ ho)) (CovS.putD (σ := ⟨σs, [], []⟩) (d := o.dst) hs h2) h
      exact ⟨σs2, ⟨v', hg, hd o List.mem_cons_self, h1, h3⟩, h4⟩
    · cases h
set_option maxHeartbeats 4000000 in
theorem defF_ok {P : Program} {tab : T XF} {lf : Nat} {call : CallF} (hcall : CallOk P call) (hmix : P.follows .mixedOrders = true) (htab : ∀ f x, tab.get f = some x → GoodF P f x) {f : FuncId} {vs : List V} {m m2 : Option V} {Hp : H} {H2 : H} (h : defF P tab lf call f vs m Hp = some (m2, H2)) :
    FCall P f ∧ ∀ bs M F vs' u, HCov bs Hp M → RVs bs vs vs' → RM bs m u → FnD P f vs' (M ++ F) u (DPost bs Hp M F m2 H2) := by
  unfold defF at h
  split at h
  · rename_i x hx
    have hg := htab f x hx
    split at h
    · rename_i hle
      refine ⟨hg.call, fun bs M F vs' u hm hvs hu => ?_⟩
      have hlen := hvs.length
      have hle := Nat.le_of_ble_eq_true hle
      have hle' : Nat.ble vs'.length x.fn.ntmps = true := Nat.ble_eq_true_of_le (by omega)
      have hcov : Cov bs (S.ofArgs vs x.mask) ⟨Hp.h, Hp.n, Hp.log, []⟩ M F ⟨initS 0 vs', [], M ++ F⟩ := ⟨covS_row hvs, rfl, ⟨hm.n, hm.at_, hm.inj⟩, rfl⟩
      split at h
      · rename_i d more rest hrec
        split at h
        rotate_left
        · cases h
        rename_i sm hsm
        obtain ⟨id, o, args, tys, hcode, ho, hgu, hd⟩ := recOf_ok hrec
        have hok := hg.ok
        rw [hcode] at hok
        simp only [codeOk] at hok
        split at hok
        · rename_i hok1
          have hdall : ∀ o' ∈ o :: more, dok x.fn.ntmps o'.dst = true := by
            split at hok1
            · rename_i h1 _; exact fun o' ho' => dstOk_mem h1 o' (by simpa using ho')
            · rename_i hf; cases hf
            · cases hok1
          have hdok : dok x.fn.ntmps o.dst = true := hdall o List.mem_cons_self
          subst hd
          have hrv : ∃ rv u', Recov u rv u' ∧ RV bs (recV m) rv ∧ settle u' = .returning := by
            cases m with
            | none => rw [show u = .returning from hu]; exact ⟨.nilIface, .returning, ⟨rfl, rfl⟩, .nili, rfl⟩
            | some v => obtain ⟨v', h1, h2⟩ := hu; rw [h1]; exact ⟨v', _, ⟨rfl, rfl⟩, h2, rfl⟩
          obtain ⟨rv, u', h1, h2, h3⟩ := hrv
          generalize hrun : codeX P call x.pt lf true x.fn.ntmps rest sm ⟨Hp.h, Hp.n, Hp.log, []⟩ = res at h
          cases res with
          | none => cases h
          | some q =>
            obtain ⟨e, s2, H1⟩ := q
            refine FnD_recover hg.fn (hg.body.trans (by rw [hcode])) rfl hle' ho hgu hdok h1 fun g n => ?_
            obtain ⟨σs2, hqs, hcs⟩ := calmL_ok (c := ⟨P, g, x.fn.ntmps, n, none⟩) (F := F) hm (fun o' ho' => hdall o' (List.mem_cons_of_mem _ ho')) (CovS.putD (σ := ⟨initS 0 vs', [], M ++ F⟩) (d := o.dst) hcov.slots h2) hsm
            refine ⟨σs2, hqs, ?_⟩
            have hcov2 : Cov bs sm ⟨Hp.h, Hp.n, Hp.log, []⟩ M F ⟨σs2, [], M ++ F⟩ := ⟨hcs, rfl, hcov.mem, rfl⟩
            exact (codeX_ok (c := ⟨P, g, x.fn.ntmps, n, none⟩) hcall hmix (fun _ => rfl) rest hok hcov2 hrun).mono fun e' σ' hd => endD_ok (m := none) (fun r => h3) hd h
        · cases hok
      · generalize hrun : codeX P call x.pt lf true x.fn.ntmps x.code (S.ofArgs vs x.mask) ⟨Hp.h, Hp.n, Hp.log, []⟩ = res at h
        cases res with
        | none => cases h
        | some q =>
          obtain ⟨e, s2, H1⟩ := q
          refine FnD_enter hg.fn hg.body rfl hle' fun g n => ?_
          have hset : settle u = u := by
            cases m with
            | none => rw [show u = .returning from hu]; rfl
            | some v => obtain ⟨v', h1, h2⟩ := hu; rw [h1]; rfl
          exact (codeX_ok (c := ⟨P, g, x.fn.ntmps, n, none⟩) hcall hmix (fun _ => rfl) x.code hg.ok hcov hrun).mono fun e' σ' hd => endD_ok (fun r => by rw [hset]; exact hu.mono r) hd h
    · cases h
  · cases h
theorem leaveX_ext {P : Program} {call : CallF} (hcall : CallOk P call) : ∀ {l : List DI} {m : Option V} {Hp : H} {m2 : Option V} {H2 : H}, leaveX call l m Hp = some (m2, H2) → Ext Hp H2
  | [], _, _, _, _, h => by cases h; exact .refl _
  | .mark k :: r, m, Hp, m2, H2, h => by
    simp only [leaveX] at h
    split at h
    · exact (Ext.upd _ _ _).trans (leaveX_ext hcall h)
    · cases h
  | .call f A B :: r, m, Hp, m2, H2, h => by
    simp only [leaveX] at h
    split at h
    · rename_i h1; exact (hcall.dx _ _ _ _ _ _ h1).trans (leaveX_ext hcall h)
    · cases h
theorem goneX_ext {P : Program} {call : CallF} (hcall : CallOk P call) {x : XF} {ds0 : List DI} {s2 : S} {H1 H2 : H} {m : Option V} {o : FR} (h : goneX P call x ds0 s2 H1 m = some (o, H2)) : Ext H1 H2 := by
  unfold goneX at h
  split at h
  · rename_i m2 H3 hl
    have h1 := leaveX_ext hcall hl
    cases m2 with
    | none =>
      simp only [retX] at h
      split at h
      · cases h; exact h1.ds
      · cases h; exact h1.ds
      · cases h
    | some v => simp only [retX] at h; cases h; exact h1.ds
  · cases h
theorem runF_ext {P : Program} {tab : T XF} {lf : Nat} {call : CallF} (hcall : CallOk P call) {f : FuncId} {vs : List V} {Hp : H} {o : FR} {H2 : H} (h : runF P tab lf call f vs Hp = some (o, H2)) : Ext Hp H2 := by
  unfold runF at h
  split at h
  · rename_i x hx
    split at h
    · generalize hcode : codeX P call x.pt lf true x.fn.ntmps x.code (S.ofArgs vs x.mask) ⟨Hp.h, Hp.n, Hp.log, []⟩ = res at h
      unfold endF at h
      have start : ∀ {e s2 H1}, res = some (e, s2, H1) → Ext Hp H1 := fun {e s2 H1} he => by
        have h1 := codeX_ext hcall x.code (hcode.trans he)
        exact ⟨h1.log, h1.n, h1.h⟩
      split at h
      · exact (start rfl).trans (goneX_ext hcall h)
      · exact (start rfl).trans (goneX_ext hcall h)
      · exact (start rfl).trans (goneX_ext hcall h)
      · cases h
    · cases h
  · cases h
theorem defF_ext {P : Program} {tab : T XF} {lf : Nat} {call : CallF} (hcall : CallOk P call) {f : FuncId} {vs : List V} {m m2 : Option V} {Hp : H} {H2 : H} (h : defF P tab lf call f vs m Hp = some (m2, H2)) : Ext Hp H2 := by
  have fin : ∀ {x : XF} {code : Code} {s : S} {m' : Option V}, endD P x Hp.ds m' (codeX P call x.pt lf true x.fn.ntmps code s ⟨Hp.h, Hp.n, Hp.log, []⟩) = some (m2, H2) → Ext Hp H2 := fun {x code s m'} h => by
    generalize hcode : codeX P call x.pt lf true x.fn.ntmps code s ⟨Hp.h, Hp.n, Hp.log, []⟩ = res at h
    have start : ∀ {e s2 H1}, res = some (e, s2, H1) → Ext Hp ⟨H1.h, H1.n, H1.log, Hp.ds⟩ := fun {e s2 H1} he => by
      have h1 := codeX_ext hcall code (hcode.trans he)
      exact ⟨h1.log, h1.n, h1.h⟩
    unfold endD at h
    split at h
    · unfold doneD at h
      split at h
      · cases h; exact start rfl
      · cases h
    · unfold doneD at h
      split at h
      · cases h; exact start rfl
      · cases h
    · cases h
  unfold defF at h
  split at h
  · split at h
    · split at h
      · split at h
        · exact fin h
        · cases h
      · exact fin h
    · cases h
  · cases h
theorem roundX_ext {k : Nat} {ds0 : List DI} {e : EX} {H4 H5 : H} {v : V} (h : roundX k ds0 e H4 = some (v, H5)) : Ext H4 H5 := by
  unfold roundX at h
  split at h
  · split at h
    · cases h; exact (Ext.upd H4 k _).ds
    · cases h; exact (Ext.upd H4 k _).ds
    · cases h; exact (Ext.upd H4 k _).ds
    · cases h
  · cases h
theorem yieldX_ext {P : Program} {call : CallF} {lf : Nat} (hcall : CallOk P call) {k : Nat} {vs : List V} {Hp : H} {v : V} {H2 : H} (h : yieldX P call lf k vs Hp = some (v, H2)) : Ext Hp H2 := by
  unfold yieldX at h
  split at h
  · rename_i cl hg
    split at h
    · split at h
      · rename_i s2 H3 hcode
        split at h
        · rename_i cl2 hg2
          split at h
          · rename_i e s4 H4 hcode2
            have h1 := codeX_ext hcall cl.assign hcode
            have h1' : Ext Hp H3 := ⟨h1.log, h1.n, h1.h⟩
            exact ((h1'.trans (Ext.upd _ _ _)).trans (codeX_ext hcall cl.body hcode2)).trans (roundX_ext h)
          · cases h
        · cases h
      · cases h
    · cases h
  · cases h
theorem retO_some {x : Option (FR × H)} {v : V} {H2 : H} (h : retO x = some (v, H2)) : x = some (.ret v, H2) := by
  unfold retO at h
  split at h
  · cases h; rfl
  · cases h
theorem panO_some {x : Option (FR × H)} {v : V} {H2 : H} (h : panO x = some (v, H2)) : x = some (.pan v, H2) := by
  unfold panO at h
  split at h
  · cases h; rfl
  · cases h
theorem funX_ok {P : Program} {tab : T XF} {lf : Nat} {pr : PrimF} (hpr : PrimOk P pr) (hmix : P.follows .mixedOrders = true) (htab : ∀ f x, tab.get f = some x → GoodF P f x) : ∀ n, CallOk P (funX P tab lf pr n)
  | 0 => ⟨fun _ _ _ _ _ h => (by cases h), fun _ _ _ _ _ h => (by cases h), fun _ _ _ _ _ h => (by cases h), fun _ _ _ _ _ _ h => (by cases h), fun _ _ _ _ _ h => (by cases h), fun _ _ _ _ _ h => (by cases h), fun _ _ _ _ _ _ h => (by cases h), fun _ _ _ _ _ _ h => (by cases h), fun _ _ _ _ _ h => (by cases h), fun _ _ _ _ _ h => (by cases h), fun _ _ _ _ _ h => (by cases h)⟩
  | n + 1 => by
    have ih := funX_ok (lf := lf) hpr hmix htab n
    have pick : ∀ {a b : Option (V × H)} {v : V} {H2 : H}, primO a b = some (v, H2) → a = some (v, H2) ∨ b = some (v, H2) := fun {a b v H2} h => by
      cases a with
      | none => exact .inr h
      | some r => exact .inl h
    refine ⟨fun f vs Hp v H2 h => (pick h).elim (hpr.x _ _ _ _ _) (fun h => runF_ext ih (retO_some h)), fun k vs Hp v H2 h => yieldX_ext ih h, fun f vs Hp v H2 h => runF_ext ih (panO_some h), fun f vs m Hp m2 H2 h => defF_ext ih h, fun f vs Hp v H2 h => (runF_ok ih hmix htab (panO_some h)).1, fun f vs Hp v H2 h bs M F vs' hm hvs g w hmem => ?_, fun f vs m Hp m2 H2 h => (defF_ok ih hmix htab h).1, fun f vs m Hp m2 H2 h bs M F vs' u hm hvs hu => (defF_ok ih hmix htab h).2 bs M F vs' u hm hvs hu,
      fun f vs Hp v H2 h => (pick h).elim (hpr.c _ _ _ _ _) (fun h => (runF_ok ih hmix htab (retO_some h)).1), fun f vs Hp v H2 h bs M F vs' hm hvs g w hmem => ?_, fun k vs Hp v H2 h bs M F vs' l x y hm hk hvs => yieldX_ok ih hmix h hm hk hvs⟩
    · refine ((runF_ok ih hmix htab (panO_some h)).2 bs M F vs' hm hvs g w hmem).mono fun e w' hend => ?_
      rcases hend with ⟨v', L', h1, h2, v2, h3, h4⟩ | ⟨v', L', h1, h2, v2, h3, h4⟩
      · cases h3
      · cases h3; exact ⟨v', L', h1, h2, h4⟩
    · rcases pick h with h | h
      · exact hpr.n _ _ _ _ _ h bs M F vs' hm hvs g w hmem
      · refine ((runF_ok ih hmix htab (retO_some h)).2 bs M F vs' hm hvs g w hmem).mono fun e w' hend => ?_
        rcases hend with ⟨v', L', h1, h2, v2, h3, h4⟩ | ⟨v', L', h1, h2, v2, h3, h4⟩
        · cases h3; exact ⟨v', L', h1, h2, h4⟩
        · cases h3
def trueG (P : Program) (tab : T XF) (lf : Nat) (pr : PrimF) (H0 : H) (n : Nat) (f : FuncId) : Bool := match (funX P tab lf pr n).f f [] H0 with
  | some (.bool true, H2) => match memB 0 H2.log with
    | true => false
    | false => true
  | _ => false
theorem runG {P : Program} {tab : T XF} {lf n : Nat} {pr : PrimF} {f : FuncId} {bs0 : Bs} {H0 : H} {M0 : List (Nat × Obj)} (hpr : PrimOk P pr) (hmix : P.follows .mixedOrders = true) (htab : ∀ f x, tab.get f = some x → GoodF P f x) (hm0 : HCov bs0 H0 M0) (hk0 : ∀ k o, H0.h.get k = some o → k = 0) (h : trueG P tab lf pr H0 n f = true) (F : List (Nat × Obj)) : Fn P f [] (M0 ++ F) (fun v L' => v = .bool true ∧ L' = M0 ++ F) := fun g w hm => by
  unfold trueG at h
  split at h
  · rename_i H2 h1
    split at h
    · cases h
    · rename_i hlog
      have h2 := (funX_ok hpr hmix htab n).fn _ _ _ _ _ h1 bs0 M0 F [] hm0 .nil
      refine (h2 g w hm).mono fun e w' ⟨v, L', e1, e2, r, M', e3, e4, e5, e6, e7, e8⟩ => ?_
      cases e4
      subst e3
      have hp := e8 H2.log M0 (fun _ h => h) (fun q hq => ⟨hq, fun j o x y hj _ hw => by
        rw [hk0 j o hj] at hw
        exact memB_no hlog hw⟩)
      refine ⟨.bool true, M0 ++ F, e1, e2.sub hm.nodup (fun q hq => ?_), rfl, rfl⟩
      rcases List.mem_append.1 hq with hq | hq
      · exact List.mem_append_left _ (hp q hq).1
      · exact List.mem_append_right _ hq
  · cases h
end
end Go.Proofs.Ytgimodceldoniaa
namespace Go.Proofs.Ytgimodceldoniaa
open Go.RowKit
section
variable {c : Cx} {s : List (Nat × Value)} {L : List (Nat × Obj)} {o : Oper}
theorem Qt_eql_ifN {t t' : TypeId} {ms : Array (String × TypeId)} [hu : TUnd c.P t (.interface ms)] {x : Operand} {cv : Value} (ho : o.op = .binOp .eql t x (.const cv) t') (hx : ev s x = some .nilIface := by exact rfl) (hy : cv = .nilIface := by exact rfl) : Qt c s L o (.bool true) :=
  Qt_of_run (by simp [ho]) (fun ρ hρ w _ => by
    subst hy
    obtain ⟨h1, h2⟩ := run_equalIn_iface (P := c.P) w 9999 t hu.h
    have e : (binOp .eql t .nilIface .nilIface).run c.P w = .ok (.bool true) w := by simp only [binOp]; simp [Op.equal, Op.maxDepth, h1]
    simp [execOp, ho, hρ x _ hx, hρ (.const .nilIface) _ rfl, eqGuard, e])
theorem Qt_eql_ifS {t t' u : TypeId} {ms : Array (String × TypeId)} [hu : TUnd c.P t (.interface ms)] {x : Operand} {cv v : Value} (ho : o.op = .binOp .eql t x (.const cv) t') (hx : ev s x = some (.iface u v) := by exact rfl) (hy : cv = .nilIface := by exact rfl) : Qt c s L o (.bool false) :=
  Qt_of_run (by simp [ho]) (fun ρ hρ w _ => by
    subst hy
    obtain ⟨h1, h2⟩ := run_equalIn_iface (P := c.P) w 9999 t hu.h
    have e : (binOp .eql t (.iface u v) .nilIface).run c.P w = .ok (.bool false) w := by simp only [binOp]; simp [Op.equal, Op.maxDepth, (h2 _ _).1]
    simp [execOp, ho, hρ x _ hx, hρ (.const .nilIface) _ rfl, eqGuard, e])
theorem Qt_makeInterface {t : TypeId} {d : TypeDesc} [hu : TUnd c.P t d] {x : Operand} {v : Value} (ho : o.op = .makeInterface t x) (hx : ev s x = some v := by exact rfl) (hd : ∀ ms, d ≠ .interface ms := by intro ms h; cases h) : Qt c s L o (.iface t v) :=
  Qt_of_run (by simp [ho]) (fun ρ hρ w _ => by
    simp only [execOp, ho, hρ x _ hx, Instr.makeInterface, Sem.run_bind, run_underlying hu.h]
    cases d <;> first | rfl | exact absurd rfl (hd _))
theorem Qt_typeAssert {t u : TypeId} {d : TypeDesc} [hu : TUnd c.P t d] {x : Operand} {v : Value} (ho : o.op = .typeAssert x u t true) (hx : ev s x = some (.iface t v) := by exact rfl) (hd : ∀ ms, d ≠ .interface ms := by intro ms h; cases h) : Qt c s L o (.tuple #[v, .bool true]) :=
  Qt_of_run (by simp [ho]) (fun ρ hρ w _ => by
    simp only [execOp, ho, hρ x _ hx, Instr.typeAssert, Sem.run_bind, run_underlying hu.h]
    cases d <;> first | exact absurd rfl (hd _) | simp)
end
theorem Fn_enterD {P : Program} {f : FuncId} {fn : Func} {code : Code} {args : List Value} {L : List (Nat × Obj)} {R : Value → List (Nat × Obj) → Prop} {N : Nat} (hf : P.funcs[f]? = some fn) (hb : fn.body = some code) (hN : fn.ntmps = N) (hl : Nat.ble args.length N = true)
    (h : ∀ g, WC ⟨P, g, N, 0, none⟩ code (postL ⟨P, g, N, 0, none⟩ fn R (fun _ _ => False)) ⟨initS 0 args, [], L⟩) : Fn P f args L R := fun g w hm =>
  (enterL hf hb hN hl h g w hm).mono fun _ _ hE => by
    rcases hE with ⟨v, L', h1, h2, h3⟩ | ⟨v, L', _, _, h3⟩
    · exact ⟨v, L', h1, h2, h3⟩
    · exact h3.elim
section
variable {c : Cx} {o : Oper} {Kn : St → Prop} {K : Exit → St → Prop}
theorem OW_pan {s : List (Nat × Value)} {D : List Deferred} {L : List (Nat × Obj)} {f : FuncId} {args : Array Operand} {tys : Array TypeId} [hf : FCall c.P f] {vs : List Value} {R : Value → List (Nat × Obj) → Prop}
    (ho : o.op = .call { callee := .value (.func f), args := args, argTypes := tys }) (hF : FnP c.P f vs L R) (hk : ∀ v L', R v L' → K (.panic (pan v)) ⟨[], D, L'⟩) (ha : evs s args.toList = some vs := by exact rfl) : OW c o Kn K ⟨s, D, L⟩ :=
  OW_callvP (σ := ⟨s, D, L⟩) (x := .func f) (A := #[]) (B := #[]) ho rfl ha (by simpa using hF) hk
def pK (ops : Array Oper) (s : List (Nat × Value)) (K : Exit → St → Prop) : Exit → St → Prop
  | .panic ch, σ => K (.panic ch) ⟨keepS ops s, σ.D, σ.L⟩
  | e, σ => K e σ
theorem WC_regP {id : Nat} {l : List Oper} {s : List (Nat × Value)} {D : List Deferred} {L : List (Nat × Obj)} (h : WL c l.toArray l (pK l.toArray s K) ⟨s, D, L⟩) : WC c (.region id l.toArray false) K ⟨s, D, L⟩ :=
  WC_regionP (σ := ⟨s, D, L⟩) (fun e σ' he h => by cases e <;> first | exact h | exact absurd rfl (he _)) (fun ch D L h => h) h
theorem WC_drP {ops : Array Oper} {s : List (Nat × Value)} {D : List Deferred} {L : List (Nat × Obj)} {id : Nat} (m : Nat) (p : Plan) (hm : c.P.follows .mixedOrders = true)
    (hok : (Region.noSelect ops && lateOk ops m && planOk ops m p ops.size (Array.replicate ops.size false)) = true) (h : WR c ops (pK ops s K) L m p ⟨s, D, L⟩) : WC c (.region id ops true) K ⟨s, D, L⟩ := fun a w ha => by
  simp only [Bool.and_eq_true] at hok
  have ha' : Holds c.g c.N ⟨s, D, L⟩ a { w with drawn := w.drawn + 1 } := ha.mem' ha.mem.drew
  exact Go.wpIn_mono (wpIn_region_any hm (wpAnyIn_keepS _ _ _ _ (fun _ _ => rfl) (AnyH.any _ _ _ _ (WR_any hok.1.1 hok.1.2 p L ha.mem.nodup _ _ ⟨s, D, L⟩ hok.2 h a _ ha' (fun _ => ha'.mem))))) fun _ _ _ hl =>
    lift_of_panI ha (fun e σ' he h => by cases e <;> first | exact h | exact absurd rfl (he _)) (fun ch D L h => h) hl
theorem OW_def {s : List (Nat × Value)} {D : List Deferred} {L : List (Nat × Obj)} {f : FuncId} {args : Array Operand} {tys : Array TypeId} {vs : List Value} (ho : o.op = .defer { callee := .value (.func f), args := args, argTypes := tys }) (hr : c.r = none := by exact rfl) (hdst : o.dst = none := by exact rfl) (ha : evs s args.toList = some vs := by exact rfl)
    (hk : Kn ⟨s, { target := .fn (.func f) #[], args := vs.toArray } :: D, L⟩) : OW c o Kn K ⟨s, D, L⟩ := by
  refine OW_defer (σ := ⟨s, D, L⟩) (x := .func f) (A := #[]) (B := #[]) hr ho rfl ha (by rw [hdst]; rfl) ?_
  rw [hdst]
  simpa [St.put] using hk
end
theorem LeavS_one {c : Cx} {fn : Func} {s : List (Nat × Value)} {Rr Rp : Value → List (Nat × Obj) → Prop} {f : FuncId} {A : Array Value} {u : FrameMode} {L : List (Nat × Obj)} [hf : FCall c.P f] (hu : u ≠ .run) {Q : FrameMode → List (Nat × Obj) → Prop} (hD : FnD c.P f A.toList L u Q) (hk : ∀ u' L', Q u' L' → LeavS c fn s Rr Rp [] (settle u') L') : LeavS c fn s Rr Rp [{ target := .fn (.func f) #[], args := A }] u L :=
  ⟨hu, .inr ⟨f, A, #[], rfl, hf, fun g w n hm => by
    have h1 := hD g w n hm
    have e : A.toList ++ (#[] : Array Value).toList = A.toList := by simp
    rw [e]
    exact h1.mono fun _ _ _ ⟨v, L', e1, e2, e3⟩ => ⟨v, L', e1, e2, hk _ _ e3⟩⟩⟩
def meetQ (Q : St → Prop) (σ : St) : Prop := ∃ σ', Q σ' ∧ SubS σ'.s σ.s ∧ σ'.D = σ.D ∧ σ'.L.Sublist σ.L
theorem meet_next {c : Cx} {Q : St → Prop} {z : Code} {K : Exit → St → Prop} (hB : ∀ σ, Q σ → WC c z K σ) (e : Exit) (σ : St) (h : thenK (meetQ Q) K e σ) : thenK (WC c z K) K e σ := by
  cases e with
  | normal =>
    obtain ⟨σ', hQ, hs, hD, hL⟩ := h
    exact WC_lessen hs hD hL (hB σ' hQ)
  | _ => exact h
theorem WC_meet {c : Cx} {x z : Code} {K : Exit → St → Prop} {σ : St} (Q : St → Prop) (hA : WC c x (thenK (meetQ Q) K) σ) (hB : ∀ σ, Q σ → WC c z K σ) : WC c x (thenK (WC c z K) K) σ :=
  WC_mono hA (meet_next hB)
theorem WC_meet2 {c : Cx} {x y z : Code} {K : Exit → St → Prop} {σ : St} (Q : St → Prop) (hA : WC c x (thenK (WC c y (thenK (meetQ Q) K)) (thenK (meetQ Q) K)) σ) (hB : ∀ σ, Q σ → WC c z K σ) : WC c x (thenK (WC c y (thenK (WC c z K) K)) (thenK (WC c z K) K)) σ :=
  WC_mono hA fun e σ h => by
    cases e with
    | normal => exact WC_mono h (meet_next hB)
    | _ => exact h
end Go.Proofs.Ytgimodceldoniaa
namespace Go.Proofs.Ytgimodceldoniaa
open Go.RowKit
def Buf (E sz : Nat) (v : Value) (T : List (Nat × Obj)) (n : Nat) (xs : List Value) : Prop :=
  (xs = [] ∧ n = 0 ∧ v = .slice none 0 0 ∧ T = []) ∨ ∃ (g off cap : Nat) (cur : Array Value), v = .slice (some ⟨g, off, none⟩) n cap ∧ T = [(g, .cells cur E (0, 0))] ∧ Own sz cur off cap n xs
theorem Buf.nil (E sz : Nat) : Buf E sz (.slice none 0 0) [] 0 [] := .inl ⟨rfl, rfl, rfl, rfl⟩
theorem Buf.vec {E sz : Nat} {v : Value} {T : List (Nat × Obj)} {n : Nat} {xs : List Value} (h : Buf E sz v T n xs) (A B : List (Nat × Obj)) : Vec sz (A ++ (T ++ B)) v n xs := by
  rcases h with ⟨rfl, rfl, rfl, rfl⟩ | ⟨g, off, cap, cur, rfl, rfl, h⟩
  · exact Vec.nil sz _
  · exact h.vec (E := E) (fr := (0, 0)) A.length (by simp)
theorem Buf.vec0 {E sz : Nat} {v : Value} {T : List (Nat × Obj)} {n : Nat} {xs : List Value} (h : Buf E sz v T n xs) (B : List (Nat × Obj)) : Vec sz (T ++ B) v n xs := h.vec [] B
theorem Buf.len {E sz : Nat} {v : Value} {T : List (Nat × Obj)} {n : Nat} {xs : List Value} (h : Buf E sz v T n xs) : xs.length = n * sz := by
  rcases h with ⟨rfl, rfl, _, _⟩ | ⟨g, off, cap, cur, _, _, h⟩
  · simp
  · exact h.len
theorem Buf.val {E sz : Nat} {v : Value} {T : List (Nat × Obj)} {n : Nat} {xs : List Value} (h : Buf E sz v T n xs) : ∃ a cap, v = .slice a n cap ∧ n ≤ cap ∧ cap ≤ maxLen := by
  rcases h with ⟨rfl, rfl, rfl, _⟩ | ⟨g, off, cap, cur, rfl, _, h⟩
  · exact ⟨_, _, rfl, Nat.le_refl _, by simp [maxLen]⟩
  · exact ⟨_, _, rfl, h.le, h.max⟩
theorem OW.permL {c : Cx} {o : Oper} {Kn : St → Prop} {K : Exit → St → Prop} {σ : St} (h : OW c o (fun σ' => ∃ L2 : List (Nat × Obj), L2.Perm σ'.L ∧ Kn ⟨σ'.s, σ'.D, L2⟩) K σ) : OW c o Kn K σ := fun a w ha =>
  Oper.wpIn_mono (fun _ _ ⟨_, h1, _, h2, h3⟩ => ⟨_, h1.mem' (h1.mem.perm h2), h3⟩) (h a w ha)
theorem OW_append_buf {c : Cx} {o : Oper} {Kn : St → Prop} {K : Exit → St → Prop} {s : List (Nat × Value)} {D : List Deferred} {A T B : List (Nat × Obj)} {t t2 E size by_ d : Nat} {z : Array Value} {x y : Operand} [hu : TUnd c.P t (.slice E)] [hrow : TRow c.P E z size by_]
    (ho : o.op = .call { callee := .builtin .append, args := #[x, y], argTypes := #[t, t2] }) (hdst : o.dst = some d) {v y' : Value} (hx : ev s x = some v) (hy : ev s y = some y') (hd : Nat.blt d c.N = true) {n m : Nat} {xs news : List Value} (hv : Buf E size v T n xs)
    (hs : SrcL c (A ++ (T ++ B)) size t2 y' m news) (hm : 0 < m) (hmax : n + m ≤ maxLen) (hby : (n + m) * by_ ≤ 140737488355328)
    (hk : ∀ v' T', Buf E size v' T' (n + m) (xs ++ news) → Kn ⟨(d, v') :: s, D, A ++ (T' ++ B)⟩) : OW c o Kn K ⟨s, D, A ++ (T ++ B)⟩ := by
  refine OW.permL ?_
  rcases hv with ⟨rfl, rfl, rfl, rfl⟩ | ⟨g, off, cap, cur, rfl, rfl, h⟩
  · refine OW_append_new ho hdst hx hy hd (Vec.nil size _) hs (by omega) hmax hby fun b cap' cur' h' => ?_
    refine ⟨A ++ ([(b, .cells cur' E (0, 0))] ++ B), ?_, hk _ _ (.inr ⟨b, 0, cap', cur', rfl, rfl, h'⟩)⟩
    simp only [List.nil_append, List.singleton_append]
    exact List.perm_middle
  · have hi : (A ++ ([(g, Obj.cells cur E (0, 0))] ++ B))[A.length]? = some (g, .cells cur E (0, 0)) := by simp
    refine OW_append_own ho hdst hx hy hd A.length hi h hs hmax hby fun b off' cap' cur' h' => ?_
    refine ⟨_, .refl _, ?_⟩
    have e : (A ++ ([(g, Obj.cells cur E (0, 0))] ++ B)).set A.length (b, .cells cur' E (0, 0)) = A ++ ([(b, .cells cur' E (0, 0))] ++ B) := by simp
    simp only [e]
    exact hk _ _ (.inr ⟨b, off', cap', cur', rfl, rfl, h'⟩)
theorem src1 {c : Cx} {L : List (Nat × Obj)} {t2 e b E : Nat} {u : Value} [hu : TUnd c.P t2 (.slice e)] (i : Nat) (hi : L[i]? = some (b, .cells #[u] E (0, 0))) (h1 : u.oneCell' = true := by rfl) : SrcL c L 1 t2 (.slice (some ⟨b, 0, none⟩) 1 1) 1 [u] :=
  srcVec ⟨rfl, _, _, rfl, Nat.le_refl _, by decide, .inr ⟨_, _, _, _, _, i, rfl, hi, fun j x hx => by
    cases j with
    | zero => simpa using hx
    | succ j => simp at hx⟩⟩ (by intro v hv; simp at hv; subst hv; exact h1)
theorem WC_dropL {c : Cx} {code : Code} {K : Exit → St → Prop} {s : List (Nat × Value)} {D : List Deferred} {L : List (Nat × Obj)} (L' : List (Nat × Obj)) (hs : L'.Sublist L) (h : WC c code K ⟨s, D, L'⟩) : WC c code K ⟨s, D, L⟩ := WC_drop (σ := ⟨s, D, L⟩) hs h
end Go.Proofs.Ytgimodceldoniaa
namespace Go.Proofs.Ytgimodceldoniaa
open Go.RowKit
theorem QW_a {c : Cx} {s : List (Nat × Value)} {L : List (Nat × Obj)} {o : Oper} {κ : Value → Prop} {v : Value} (hk : κ v) (h : Qt c s L o v := by first
    | exact Qt_move rfl | exact Qt_assign rfl | exact Qt_nilCheck rfl | exact Qt_fieldAddr0 rfl | exact Qt_fieldAddr rfl | exact Qt_ld1B rfl | exact Qt_extract rfl
    | exact Qt_lenB rfl | exact Qt_lenSl rfl | exact Qt_eqlStr rfl | exact Qt_neqStr rfl | exact Qt_geqStr rfl | exact Qt_cat rfl | exact Qt_bin rfl | exact Qt_pick_true rfl | exact Qt_pick_false rfl | exact Qt_not rfl
    | exact Qt_indexArr0 rfl | exact Qt_indexSl0 rfl | exact Qt_indexArr rfl | exact Qt_indexSl rfl | exact Qt_convInt rfl | exact Qt_ldA rfl | exact Qt_ldN rfl
    | exact Qt_eql_nilS rfl | exact Qt_eql_nilN rfl | exact Qt_neq_nilS rfl | exact Qt_neq_nilN rfl | exact Qt_eql_ifN rfl | exact Qt_eql_ifS rfl | exact Qt_neq_ifN rfl | exact Qt_neq_ifS rfl | exact Qt_eql_bool rfl | exact Qt_neq_bool rfl
    | exact Qt_rem rfl | exact Qt_quo rfl | exact Qt_shl rfl | exact Qt_shr rfl | exact Qt_and rfl | exact Qt_or rfl | exact Qt_xor rfl | exact Qt_neg rfl | exact Qt_min rfl | exact Qt_max rfl
    | exact Qt_cutB rfl | exact Qt_cutToB rfl | exact Qt_cutFromB rfl | exact Qt_indexB rfl | exact Qt_arrFrom rfl | exact Qt_sliceL rfl | exact Qt_slTo rfl | exact Qt_slLHM rfl
    | exact Qt_str1 rfl | exact Qt_str rfl (hv := own_by0 (by with_reducible assumption)) | exact Qt_str rfl | exact Qt_buildB rfl | exact Qt_makeFunc rfl | exact Qt_makeInterface rfl | exact Qt_typeAssert rfl | exact Qt_nilCheck_fn rfl) : QW c s L o κ := ⟨v, h, hk⟩
theorem sub_mem {A B : List (Nat × Obj)} (h : A.Sublist B) : ∀ q ∈ A, q ∈ B := fun _ hq => h.subset hq
theorem RQ {P G : Prop} (h : G) (s : G → P := by first | exact fun h => WL_Q (QW_a h) | exact fun h => WL_Y (QW_a h)) : P := s h
theorem OE {P G : Prop} (h : G) (s : G → P := by first | exact fun h => OW_alloc rfl (hk := h) | exact fun h => OW_box rfl (hk := h) | exact fun h => OW_st1 rfl h | exact fun h => OW_stA rfl h | exact fun h => OW_stN rfl h | exact fun h => OW_build0 rfl (hk := h) | exact fun h => OW_build1 rfl (hk := h)) : P := s h
theorem RE {P G : Prop} (h : G) (s : G → P := by first | exact fun h => WL_op rfl (OE h) | exact fun h => WL_yes (h := OE h)) : P := s h
theorem RC {P G : Prop} (h : G) (s : G → P := by first | exact WL_nil | exact fun h => WL_un (h := h) | exact fun h => WL_N h | exact fun h => WL_M h | exact WC_seq | exact WC_block | exact fun h => WC_cond_t (ht := h) | exact fun h => WC_cond_f (he := h) | exact WC_skip | exact WC_ret | exact WC_exit) : P := s h
theorem RC0 {P G : Prop} (h : G) (s : G → P := by first | exact WL_nil | exact fun h => WL_un (h := h) | exact fun h => WL_N h | exact fun h => WL_M h | exact WC_seq | exact fun h => WC_cond_t (ht := h) | exact fun h => WC_cond_f (he := h) | exact WC_skip | exact WC_ret | exact WC_exit) : P := s h
theorem RQr {P G : Prop} (h : G) (s : G → P := by first | exact fun h => WL_Q (QW_a h) | exact fun h => WL_Y (QW_a h) | exact fun h => WR_Q rfl (QW_a h) | exact fun h => WR_late rfl rfl rfl (OW_Q (QW_a h)) | exact fun h => WR_Y rfl (QW_a h)) : P := s h
theorem RX {P G : Prop} (h : G) (s : G → P := by first | exact WL_Q | exact fun h => WR_Q rfl h | exact fun h => WR_late rfl rfl rfl (OW_Q h)) : P := s h
theorem OX {P G : Prop} (h : G) (s : G → P := by first | exact fun h => WL_op rfl h | exact fun h => WR_late rfl rfl rfl h | exact fun h => WR_opG rfl rfl h) : P := s h
theorem WG (id : Nat) {c : Cx} {l : List Oper} {K : Exit → St → Prop} {σ : St} (h : WL c l.toArray l K σ) : WC c (.region id l.toArray false) K σ := WC_region h
theorem RU {P G : Prop} (h : G) (s : G → P := by first | exact WR_nil | exact fun h => WR_un rfl (hk := h) | exact fun h => WR_N rfl h | exact fun h => WR_M rfl h | exact fun h => WR_skN rfl (h := h) | exact fun h => WR_skM rfl (h := h) | exact fun h => WR_skU rfl (h := h)) : P := s h
theorem SD {A B : List (Nat × Obj)} {G : Prop} (h : G) (s : ∀ q ∈ A, q ∈ B := by first | exact fun _ h => h | exact sub_mem (by repeat (first | exact .refl _ | exact List.nil_sublist _ | exact List.sublist_append_right _ _ | exact List.Sublist.append (.refl _) (List.sublist_append_right _ _) | apply List.Sublist.cons_cons | apply List.Sublist.cons))) : (∀ q ∈ A, q ∈ B) ∧ G := ⟨s, h⟩
theorem WC_regB {c : Cx} (n : Nat) {id : Nat} {l : List Oper} {K : Exit → St → Prop} {σ : St} (h : WL c l.toArray l K σ) (_hb : Nat.blt id n = true := by exact rfl) : WC c (.region id l.toArray false) K σ := WC_region h
end Go.Proofs.Ytgimodceldoniaa
namespace Go.Proofs.Ytgimodceldoniaa
open Go.RowKit
def FnE (P : Program) (f : FuncId) (args : List Value) (L : List (Nat × Obj)) (Rr Rp : Value → List (Nat × Obj) → Prop) : Prop := ∀ g w, Mem g L w → Calls P f args.toArray w (EndR g Rr Rp)
theorem EndR.mono {g : World} {Rr Rp Rr' Rp' : Value → List (Nat × Obj) → Prop} (h1 : ∀ v L, Rr v L → Rr' v L) (h2 : ∀ v L, Rp v L → Rp' v L) {e : Ending} {w : World} (h : EndR g Rr Rp e w) : EndR g Rr' Rp' e w := by
  rcases h with ⟨v, L, a, b, c⟩ | ⟨v, L, a, b, c⟩
  · exact .inl ⟨v, L, a, b, h1 v L c⟩
  · exact .inr ⟨v, L, a, b, h2 v L c⟩
theorem FnE.mono {P : Program} {f : FuncId} {args : List Value} {L : List (Nat × Obj)} {Rr Rp Rr' Rp' : Value → List (Nat × Obj) → Prop} (h : FnE P f args L Rr Rp) (h1 : ∀ v L, Rr v L → Rr' v L) (h2 : ∀ v L, Rp v L → Rp' v L) : FnE P f args L Rr' Rp' :=
  fun g w hm => (h g w hm).mono fun _ _ hE => hE.mono h1 h2
theorem FnE.toFnP {P : Program} {f : FuncId} {args : List Value} {L : List (Nat × Obj)} {Rr Rp : Value → List (Nat × Obj) → Prop} (h : FnE P f args L Rr Rp) (hn : ∀ v L', ¬ Rr v L') : FnP P f args L Rp :=
  fun g w hm => (h g w hm).mono fun _ _ hE => by
    rcases hE with ⟨v, L', _, _, c⟩ | ⟨v, L', a, b, c⟩
    · exact (hn v L' c).elim
    · exact ⟨v, L', a, b, c⟩
theorem FnE_enter {P : Program} {f : FuncId} {fn : Func} {code : Code} {args : List Value} {L : List (Nat × Obj)} {Rr Rp : Value → List (Nat × Obj) → Prop} {N : Nat} (hf : P.funcs[f]? = some fn) (hb : fn.body = some code) (hN : fn.ntmps = N) (hl : Nat.ble args.length N = true)
    (h : ∀ g, WC ⟨P, g, N, 0, none⟩ code (postL ⟨P, g, N, 0, none⟩ fn Rr Rp) ⟨initS 0 args, [], L⟩) : FnE P f args L Rr Rp := enterL hf hb hN hl h
section
variable {c : Cx} {o : Oper} {Kn : St → Prop} {K : Exit → St → Prop} {σ : St}
theorem OW_enterE {f : FuncId} {vs : List Value} {Rr Rp : Value → List (Nat × Obj) → Prop} (hnd : ∀ cc, o.op ≠ .defer cc) (hr : ∀ a w, Holds c.g c.N σ a w → (execOp a.eval o).run c.P w = .ok (.enter f vs.toArray) w) (hd : dok c.N o.dst = true)
    (hF : FnE c.P f vs σ.L Rr Rp) (hk : ∀ v L', Rr v L' → Kn (St.put ⟨σ.s, σ.D, L'⟩ o.dst v)) (hp : ∀ v L', Rp v L' → K (.panic (pan v)) ⟨[], σ.D, L'⟩) : OW c o Kn K σ := fun a w hH => by
  refine ⟨fun _ _ => trivial, ?_⟩
  rw [Oper.semAt_eq _ _ _ hnd, hr a w hH]
  refine ⟨fun h => by simp at h, (callsIn_fw c.r _ (hF c.g w hH.mem)).mono fun e w' hE => ?_⟩
  rcases hE with ⟨v, L', h1, h2, h3⟩ | ⟨v, L', h1, h2, h3⟩
  · subst h1
    exact ⟨_, (hH.mem' h2).put hd v, hk v L' h3⟩
  · subst h1
    exact ⟨σ.D, L', ⟨hH.size, (fun t u hu => by cases hu), hH.defers, h2⟩, hp v L' h3⟩
theorem call_run {f : FuncId} {x : Operand} {A B : Array Value} {args : Array Operand} {tys : Array TypeId} [hf : FCall c.P f] {vs : List Value} (ho : o.op = .call { callee := .value x, args := args, argTypes := tys }) (hx : ev σ.s x = some (.func (.func f) A B)) (ha : evs σ.s args.toList = some vs) (a : Act) (w : World) (hH : Holds c.g c.N σ a w) :
    (execOp a.eval o).run c.P w = .ok (.enter f (A.toList ++ vs ++ B.toList).toArray) w := by
  have hargs : args.map a.eval = vs.toArray := by
    apply Array.ext'
    simpa using hH.evs ha
  have e : (A.toList ++ vs ++ B.toList).toArray = A ++ vs.toArray ++ B := by apply Array.ext'; simp
  rw [e]
  simp [execOp, ho, resolve, Deferred.ofValue, hH.ev hx, hargs, invoke, hf.h]
end
end Go.Proofs.Ytgimodceldoniaa
namespace Go.Proofs.Ytgimodceldoniaa
open Go.RowKit
theorem part1 {P : Program} {t : TypeId} [ha : TAgg P t false] {xs : Array Value} {off : Nat} {v : Value} (h : xs[off]? = some v) (w : World) : (part t xs off).run P w = .ok v w := by
  simp [part, ha.h, h]
theorem partN {P : Program} {t n : Nat} [ha : TAgg P t true] [hs : TSize P t n] {xs : Array Value} {off : Nat} (w : World) : (part t xs off).run P w = .ok (.agg (xs.extract off (off + n))) w := by
  simp [part, ha.h, hs.h]
section
variable {c : Cx} {s : List (Nat × Value)} {L : List (Nat × Obj)} {o : Oper}
theorem Qt_fieldV {t i off ft n : Nat} [hf : TFld c.P t i off ft n] [ha : TAgg c.P ft false] {x : Operand} {cs : Array Value} {v : Value} (ho : o.op = .field t x i) (hx : ev s x = some (.agg cs) := by exact rfl) (hv : cs[off]? = some v := by first | with_reducible assumption | rfl | assumption) : Qt c s L o v :=
  Qt_of_run (by simp [ho]) (fun ρ hρ w _ => by
    obtain ⟨fs, f, h1, h2, h3, h4, h5, h6⟩ := hf.h
    subst h3 h4
    have h := part1 (P := c.P) (t := f.type) (xs := cs) (off := f.offset) hv w
    simp [execOp, ho, hρ x _ hx, Instr.field, run_underlying h1, h2, asAgg, h])
end
end Go.Proofs.Ytgimodceldoniaa
namespace Go.Proofs.Ytgimodceldoniaa
open Go.RowKit
def WCn (c : Cx) (x : Code) (K : Exit → St → Prop) : Nat → St → Prop
  | 0, _ => False
  | m + 1, σ => WC c x (thenK (WCn c x K m) K) σ
theorem WCn.rounds {c : Cx} {x : Code} {K : Exit → St → Prop} : ∀ {m : Nat} {σ : St}, WCn c x K m σ → ∀ a w, Holds c.g c.N σ a w → Code.roundsIn (Fw c.r) c.n c.P x (lift c K) m a w
  | 0, _, h, _, _, _ => h.elim
  | m + 1, σ, h, a, w, ha => by
    rw [roundsIn_succ]
    refine Go.wpIn_mono ((show WC c x (thenK (WCn c x K m) K) σ from h) a w ha) fun e a' w' hl => ?_
    obtain ⟨σ', h1, h2⟩ := hl
    cases e with
    | normal => exact WCn.rounds (m := m) h2 a' w' h1
    | _ => exact ⟨σ', h1, h2⟩
theorem WC_unroll {c : Cx} {x : Code} {K : Exit → St → Prop} {σ : St} (m : Nat) (h : WCn c x K m σ) : WC c (.loop x) K σ := fun a w ha => wpIn_loop_rounds m (h.rounds a w ha)
theorem WCn_s {c : Cx} {x : Code} {K : Exit → St → Prop} {m : Nat} {σ : St} (h : WC c x (thenK (WCn c x K m) K) σ) : WCn c x K (m + 1) σ := h
def FilledA (n : Nat) : Array Value → List (Nat × Value) → Array Value → Prop
  | z, [], cs => cs = z
  | z, (i, v) :: r, cs => v.cells.size = n ∧ i * n + n ≤ z.size ∧ FilledA n (putR z (i * n) v.cells) r cs
theorem fill_of_FilledA {n : Nat} : ∀ {parts : List (Nat × Value)} {z cs : Array Value}, FilledA n z parts cs → Instr.fill (fun i => some (i * n, n)) z parts = some cs
  | [], z, cs, h => by cases h; rfl
  | (i, v) :: r, z, cs, ⟨h2, h3, h4⟩ => by
    simp only [Instr.fill]
    rw [if_neg (by simp [h2]; omega)]
    have hf := fold_put v.cells.toList 0 (i * n) z (by simp; omega)
    have he : (v.cells.zipIdx.foldl (fun (cs : Array Value) (p : Value × Nat) => cs.setIfInBounds (i * n + p.2) p.1) z) = putR z (i * n) v.cells := by
      rw [← Array.foldl_toList, Array.toList_zipIdx, hf]
      simp
    have hh := fill_of_FilledA h4
    rw [← he] at hh
    exact hh
class TBuildA (P : Program) (t : TypeId) (z : outParam (Array Value)) (n : outParam Nat) : Prop where
  h : ∀ parts, P.built t parts = Instr.fill (fun i => some (i * n, n)) z parts
theorem Qt_buildA {c : Cx} {s : List (Nat × Value)} {L : List (Nat × Obj)} {o : Oper} {t : TypeId} {z : Array Value} {n : Nat} [hb : TBuildA c.P t z n] {parts : Array (Nat × Operand)} {vs : List (Nat × Value)} {cs : Array Value} (ho : o.op = .build t parts) (hx : evp s parts.toList = some vs := by exact rfl) (hf : FilledA n z vs cs := by repeat (first | exact rfl | refine ⟨(by first | with_reducible assumption | rfl | assumption), (by first | exact Nat.le_of_ble_eq_true rfl | omega), ?_⟩)) : Qt c s L o (.agg cs) :=
  ⟨(fun cc => by simp [ho]), fun ρ hρ w _ => by
    have h1 := evp_map hρ hx
    have h2 := run_build (P := c.P) w t (parts.map fun (i, x) => (i, ρ x)) cs (by
      rw [hb.h, Array.toList_map, h1]
      have := fill_of_FilledA hf
      simpa using this)
    simp [execOp, ho, h2]⟩
section
variable {c : Cx} {s : List (Nat × Value)} {L : List (Nat × Obj)} {o : Oper}
theorem Qt_indexA {t len E n : Nat} [hu : TUnd c.P t (.array len E)] [hs : TSize c.P E n] [ha : TAgg c.P E true] {x y : Operand} {k : IntKind} {i : Int} {vs : Array Value} (ho : o.op = .index t x y) (hx : ev s x = some (.agg vs) := by exact rfl) (hy : ev s y = some (.int k i) := by exact rfl) (h0 : 0 ≤ i := by first | decide | with_reducible assumption | omega) (h1 : i < len := by first | decide | with_reducible assumption | omega) : Qt c s L o (.agg (vs.extract (i.toNat * n) (i.toNat * n + n))) :=
  Qt_of_run (by simp [ho]) (fun ρ hρ w _ => by
    have h := partN (P := c.P) (t := E) (n := n) (xs := vs) (off := i.toNat * n) w
    simp [execOp, ho, hρ x _ hx, hρ y _ hy, Instr.index, asIntOf, run_underlying hu.h, hs.h, h0, h1, h])
theorem Qt_indexV {t len E n : Nat} [hu : TUnd c.P t (.array len E)] [hs : TSize c.P E n] [ha : TAgg c.P E false] {x y : Operand} {k : IntKind} {i : Int} {vs : Array Value} {v : Value} (ho : o.op = .index t x y) (hx : ev s x = some (.agg vs) := by exact rfl) (hy : ev s y = some (.int k i) := by exact rfl) (h0 : 0 ≤ i := by first | decide | with_reducible assumption | omega) (h1 : i < len := by first | decide | with_reducible assumption | omega) (hv : vs[i.toNat * n]? = some v := by first | with_reducible assumption | rfl) : Qt c s L o v :=
  Qt_of_run (by simp [ho]) (fun ρ hρ w _ => by
    have h := part1 (P := c.P) (t := E) (xs := vs) (off := i.toNat * n) hv w
    simp [execOp, ho, hρ x _ hx, hρ y _ hy, Instr.index, asIntOf, run_underlying hu.h, hs.h, h0, h1, h])
end
end Go.Proofs.Ytgimodceldoniaa
namespace Go.Proofs.Ytgimodceldoniaa
instance : TSize Try.prog 2 1 := ⟨Try.sizeOf2⟩
instance : TAgg Try.prog 2 false := ⟨Try.isAgg2⟩
instance : TUnd Try.prog 2 (.int Go.IntKind.i64) := ⟨Try.underlying2⟩
instance : TSize Try.prog 3 1 := ⟨Try.sizeOf3⟩
instance : TAgg Try.prog 3 false := ⟨Try.isAgg3⟩
instance : TZero Try.prog 3 (Go.Value.int Go.IntKind.i64 0) := ⟨Try.zeroValue3⟩
theorem row3 : (Try.prog.info? 3).map (fun i => (i.size, i.bytes)) = some (1, 8) := by kernel_rfl
instance : TUnd Try.prog 3 (.int Go.IntKind.i64) := ⟨Try.underlying3⟩
instance : TUnd Try.prog 4 .bool := ⟨Try.underlying4⟩
instance : TAgg Try.prog 5 false := ⟨Try.isAgg5⟩
instance : TUnd Try.prog 5 (.int Go.IntKind.u8) := ⟨Try.underlying5⟩
instance : TUnd Try.prog 9 .string := ⟨Try.underlying9⟩
instance : TUnd Try.prog 20 (Go.TypeDesc.interface #[]) := ⟨Try.underlying20⟩
instance : TSize Try.prog 23 6 := ⟨Try.sizeOf23⟩
instance : TAgg Try.prog 23 true := ⟨Try.isAgg23⟩
def zc23 : Array Value :=  #[Go.Value.int Go.IntKind.u8 0, Go.Value.int Go.IntKind.u8 0, Go.Value.int Go.IntKind.u8 0, Go.Value.int Go.IntKind.u8 0, Go.Value.int Go.IntKind.u8 0, Go.Value.int Go.IntKind.u8 0]
instance : TFld Try.prog 23 0 0 5 1 := ⟨⟨_, _, Try.underlying23, rfl, rfl, rfl, Try.sizeOf5, by decide⟩⟩
instance : TFld Try.prog 23 1 1 5 1 := ⟨⟨_, _, Try.underlying23, rfl, rfl, rfl, Try.sizeOf5, by decide⟩⟩
instance : TFld Try.prog 23 2 2 5 1 := ⟨⟨_, _, Try.underlying23, rfl, rfl, rfl, Try.sizeOf5, by decide⟩⟩
instance : TFld Try.prog 23 3 3 5 1 := ⟨⟨_, _, Try.underlying23, rfl, rfl, rfl, Try.sizeOf5, by decide⟩⟩
instance : TFld Try.prog 23 4 4 5 1 := ⟨⟨_, _, Try.underlying23, rfl, rfl, rfl, Try.sizeOf5, by decide⟩⟩
instance : TFld Try.prog 23 5 5 5 1 := ⟨⟨_, _, Try.underlying23, rfl, rfl, rfl, Try.sizeOf5, by decide⟩⟩
instance : TUnd Try.prog 24 (.slice 37) := ⟨Try.underlying24⟩
instance : TUnd Try.prog 26 (.pointer 77) := ⟨Try.underlying26⟩
instance : TSize Try.prog 29 1 := ⟨Try.sizeOf29⟩
instance : TAgg Try.prog 29 false := ⟨Try.isAgg29⟩
instance : TZero Try.prog 29 (Go.Value.slice Option.none 0 0) := ⟨Try.zeroValue29⟩
instance : TUnd Try.prog 29 (.slice 3) := ⟨Try.underlying29⟩
instance : TSize Try.prog 31 4 := ⟨Try.sizeOf31⟩
instance : TAgg Try.prog 31 true := ⟨Try.isAgg31⟩
def zc31 : Array Value :=  #[Go.Value.int Go.IntKind.i64 0, Go.Value.int Go.IntKind.i64 0, Go.Value.int Go.IntKind.i64 0, Go.Value.int Go.IntKind.i64 0]
instance : TZero Try.prog 31 (.agg zc31) := ⟨Try.zeroValue31⟩
theorem row31 : (Try.prog.info? 31).map (fun i => (i.size, i.bytes)) = some (4, 32) := by kernel_rfl
instance : TFld Try.prog 31 0 0 3 1 := ⟨⟨_, _, Try.underlying31, rfl, rfl, rfl, Try.sizeOf3, by decide⟩⟩
instance : TFld Try.prog 31 1 1 2 1 := ⟨⟨_, _, Try.underlying31, rfl, rfl, rfl, Try.sizeOf2, by decide⟩⟩
instance : TFld Try.prog 31 2 2 2 1 := ⟨⟨_, _, Try.underlying31, rfl, rfl, rfl, Try.sizeOf2, by decide⟩⟩
instance : TFld Try.prog 31 3 3 3 1 := ⟨⟨_, _, Try.underlying31, rfl, rfl, rfl, Try.sizeOf3, by decide⟩⟩
instance : TBuild Try.prog 31 zc31 [(0, 1), (1, 1), (2, 1), (3, 1)] := ⟨fun _ => by kernel_rfl⟩
instance : TSize Try.prog 33 10 := ⟨Try.sizeOf33⟩
instance : TAgg Try.prog 33 true := ⟨Try.isAgg33⟩
def zc33 : Array Value :=  #[Go.Value.int Go.IntKind.i64 0, Go.Value.int Go.IntKind.i64 0, Go.Value.slice Option.none 0 0, Go.Value.int Go.IntKind.i64 0, Go.Value.int Go.IntKind.i64 0, Go.Value.int Go.IntKind.i64 0, Go.Value.int Go.IntKind.i64 0, Go.Value.int Go.IntKind.i64 0, Go.Value.int Go.IntKind.i64 0, Go.Value.int Go.IntKind.i64 0]
instance : TZero Try.prog 33 (.agg zc33) := ⟨Try.zeroValue33⟩
theorem row33 : (Try.prog.info? 33).map (fun i => (i.size, i.bytes)) = some (10, 96) := by kernel_rfl
instance : TFld Try.prog 33 0 0 3 1 := ⟨⟨_, _, Try.underlying33, rfl, rfl, rfl, Try.sizeOf3, by decide⟩⟩
instance : TFld Try.prog 33 1 1 2 1 := ⟨⟨_, _, Try.underlying33, rfl, rfl, rfl, Try.sizeOf2, by decide⟩⟩
instance : TFld Try.prog 33 2 2 29 1 := ⟨⟨_, _, Try.underlying33, rfl, rfl, rfl, Try.sizeOf29, by decide⟩⟩
instance : TFld Try.prog 33 3 3 3 1 := ⟨⟨_, _, Try.underlying33, rfl, rfl, rfl, Try.sizeOf3, by decide⟩⟩
instance : TFld Try.prog 33 4 4 3 1 := ⟨⟨_, _, Try.underlying33, rfl, rfl, rfl, Try.sizeOf3, by decide⟩⟩
instance : TFld Try.prog 33 5 5 31 4 := ⟨⟨_, _, Try.underlying33, rfl, rfl, rfl, Try.sizeOf31, by decide⟩⟩
instance : TFld Try.prog 33 6 9 3 1 := ⟨⟨_, _, Try.underlying33, rfl, rfl, rfl, Try.sizeOf3, by decide⟩⟩
instance : TAgg Try.prog 35 false := ⟨Try.isAgg35⟩
instance : TUnd Try.prog 35 (.int Go.IntKind.i8) := ⟨Try.underlying35⟩
instance : TSize Try.prog 37 12 := ⟨Try.sizeOf37⟩
instance : TAgg Try.prog 37 true := ⟨Try.isAgg37⟩
instance : TFld Try.prog 37 0 0 33 10 := ⟨⟨_, _, Try.underlying37, rfl, rfl, rfl, Try.sizeOf33, by decide⟩⟩
instance : TFld Try.prog 37 1 10 35 1 := ⟨⟨_, _, Try.underlying37, rfl, rfl, rfl, Try.sizeOf35, by decide⟩⟩
instance : TFld Try.prog 37 2 11 35 1 := ⟨⟨_, _, Try.underlying37, rfl, rfl, rfl, Try.sizeOf35, by decide⟩⟩
instance : TSize Try.prog 39 1 := ⟨Try.sizeOf39⟩
instance : TAgg Try.prog 39 false := ⟨Try.isAgg39⟩
instance : TZero Try.prog 39 (Go.Value.int Go.IntKind.i64 0) := ⟨Try.zeroValue39⟩
instance : TSize Try.prog 52 1 := ⟨Try.sizeOf52⟩
instance : TAgg Try.prog 52 false := ⟨Try.isAgg52⟩
instance : TUnd Try.prog 52 (.slice 55) := ⟨Try.underlying52⟩
instance : TSize Try.prog 55 2 := ⟨Try.sizeOf55⟩
instance : TAgg Try.prog 55 true := ⟨Try.isAgg55⟩
def zc55 : Array Value :=  #[Go.Value.int Go.IntKind.i64 0, Go.Value.int Go.IntKind.i64 0]
theorem row55 : (Try.prog.info? 55).map (fun i => (i.size, i.bytes)) = some (2, 16) := by kernel_rfl
instance : TFld Try.prog 55 0 0 2 1 := ⟨⟨_, _, Try.underlying55, rfl, rfl, rfl, Try.sizeOf2, by decide⟩⟩
instance : TFld Try.prog 55 1 1 3 1 := ⟨⟨_, _, Try.underlying55, rfl, rfl, rfl, Try.sizeOf3, by decide⟩⟩
instance : TBuild Try.prog 55 zc55 [(0, 1), (1, 1)] := ⟨fun _ => by kernel_rfl⟩
instance : TSize Try.prog 59 1 := ⟨Try.sizeOf59⟩
instance : TAgg Try.prog 59 false := ⟨Try.isAgg59⟩
instance : TZero Try.prog 59 (Go.Value.slice Option.none 0 0) := ⟨Try.zeroValue59⟩
instance : TUnd Try.prog 59 (.slice 31) := ⟨Try.underlying59⟩
instance : TSize Try.prog 60 1 := ⟨Try.sizeOf60⟩
instance : TAgg Try.prog 60 false := ⟨Try.isAgg60⟩
instance : TUnd Try.prog 60 (.slice 69) := ⟨Try.underlying60⟩
instance : TSize Try.prog 62 4 := ⟨Try.sizeOf62⟩
instance : TAgg Try.prog 62 true := ⟨Try.isAgg62⟩
def zc62 : Array Value :=  #[Go.Value.slice Option.none 0 0, Go.Value.slice Option.none 0 0, Go.Value.int Go.IntKind.i64 0, Go.Value.int Go.IntKind.i64 0]
instance : TZero Try.prog 62 (.agg zc62) := ⟨Try.zeroValue62⟩
instance : TFld Try.prog 62 0 0 59 1 := ⟨⟨_, _, Try.underlying62, rfl, rfl, rfl, Try.sizeOf59, by decide⟩⟩
instance : TFld Try.prog 62 1 1 60 1 := ⟨⟨_, _, Try.underlying62, rfl, rfl, rfl, Try.sizeOf60, by decide⟩⟩
instance : TFld Try.prog 62 2 2 2 1 := ⟨⟨_, _, Try.underlying62, rfl, rfl, rfl, Try.sizeOf2, by decide⟩⟩
instance : TFld Try.prog 62 3 3 2 1 := ⟨⟨_, _, Try.underlying62, rfl, rfl, rfl, Try.sizeOf2, by decide⟩⟩
instance : TBuild Try.prog 62 zc62 [(0, 1), (1, 1), (2, 1), (3, 1)] := ⟨fun _ => by kernel_rfl⟩
instance : TSize Try.prog 64 5 := ⟨Try.sizeOf64⟩
instance : TAgg Try.prog 64 true := ⟨Try.isAgg64⟩
def zc64 : Array Value :=  #[Go.Value.int Go.IntKind.i64 0, Go.Value.int Go.IntKind.i64 0, Go.Value.int Go.IntKind.i64 0, Go.Value.int Go.IntKind.i64 0, Go.Value.int Go.IntKind.i64 0]
instance : TZero Try.prog 64 (.agg zc64) := ⟨Try.zeroValue64⟩
instance : TFld Try.prog 64 0 0 3 1 := ⟨⟨_, _, Try.underlying64, rfl, rfl, rfl, Try.sizeOf3, by decide⟩⟩
instance : TFld Try.prog 64 1 1 3 1 := ⟨⟨_, _, Try.underlying64, rfl, rfl, rfl, Try.sizeOf3, by decide⟩⟩
instance : TFld Try.prog 64 2 2 3 1 := ⟨⟨_, _, Try.underlying64, rfl, rfl, rfl, Try.sizeOf3, by decide⟩⟩
instance : TFld Try.prog 64 3 3 3 1 := ⟨⟨_, _, Try.underlying64, rfl, rfl, rfl, Try.sizeOf3, by decide⟩⟩
instance : TFld Try.prog 64 4 4 3 1 := ⟨⟨_, _, Try.underlying64, rfl, rfl, rfl, Try.sizeOf3, by decide⟩⟩
instance : TBuild Try.prog 64 zc64 [(0, 1), (1, 1), (2, 1), (3, 1), (4, 1)] := ⟨fun _ => by kernel_rfl⟩
instance : TSize Try.prog 69 5 := ⟨Try.sizeOf69⟩
instance : TAgg Try.prog 69 true := ⟨Try.isAgg69⟩
def zc69 : Array Value :=  #[Go.Value.int Go.IntKind.i64 0, Go.Value.int Go.IntKind.i64 0, Go.Value.int Go.IntKind.i64 0, Go.Value.int Go.IntKind.i64 0, Go.Value.slice Option.none 0 0]
instance : TZero Try.prog 69 (.agg zc69) := ⟨Try.zeroValue69⟩
theorem row69 : (Try.prog.info? 69).map (fun i => (i.size, i.bytes)) = some (5, 56) := by kernel_rfl
instance : TFld Try.prog 69 0 0 31 4 := ⟨⟨_, _, Try.underlying69, rfl, rfl, rfl, Try.sizeOf31, by decide⟩⟩
instance : TFld Try.prog 69 1 4 59 1 := ⟨⟨_, _, Try.underlying69, rfl, rfl, rfl, Try.sizeOf59, by decide⟩⟩
instance : TBuild Try.prog 69 zc69 [(0, 4), (4, 1)] := ⟨fun _ => by kernel_rfl⟩
instance : TSize Try.prog 71 1 := ⟨Try.sizeOf71⟩
instance : TAgg Try.prog 71 false := ⟨Try.isAgg71⟩
theorem row71 : (Try.prog.info? 71).map (fun i => (i.size, i.bytes)) = some (1, 24) := by kernel_rfl
instance : TUnd Try.prog 71 (.slice 33) := ⟨Try.underlying71⟩
def zc73 : Array Value :=  #[Go.Value.slice Option.none 0 0, Go.Value.slice Option.none 0 0, Go.Value.int Go.IntKind.i64 0, Go.Value.int Go.IntKind.i64 0, Go.Value.int Go.IntKind.i64 0, Go.Value.int Go.IntKind.i64 0, Go.Value.int Go.IntKind.i64 0, Go.Value.int Go.IntKind.i64 0, Go.Value.int Go.IntKind.i64 0]
instance : TFld Try.prog 73 1 4 64 5 := ⟨⟨_, _, Try.underlying73, rfl, rfl, rfl, Try.sizeOf64, by decide⟩⟩
instance : TBuild Try.prog 73 zc73 [(0, 4), (4, 5)] := ⟨fun _ => by kernel_rfl⟩
instance : TUnd Try.prog 74 (.array 8 52) := ⟨Try.underlying74⟩
instance : TSize Try.prog 75 1 := ⟨Try.sizeOf75⟩
instance : TAgg Try.prog 75 false := ⟨Try.isAgg75⟩
instance : TUnd Try.prog 75 (.slice 71) := ⟨Try.underlying75⟩
instance : TSize Try.prog 77 21 := ⟨Try.sizeOf77⟩
instance : TAgg Try.prog 77 true := ⟨Try.isAgg77⟩
def zc77 : Array Value :=  #[Go.Value.slice Option.none 0 0, Go.Value.slice Option.none 0 0, Go.Value.int Go.IntKind.i64 0, Go.Value.int Go.IntKind.i64 0, Go.Value.int Go.IntKind.i64 0, Go.Value.int Go.IntKind.i64 0, Go.Value.int Go.IntKind.i64 0, Go.Value.int Go.IntKind.i64 0, Go.Value.int Go.IntKind.i64 0, Go.Value.slice Option.none 0 0, Go.Value.slice Option.none 0 0, Go.Value.slice Option.none 0 0, Go.Value.slice Option.none 0 0, Go.Value.slice Option.none 0 0, Go.Value.slice Option.none 0 0, Go.Value.slice Option.none 0 0, Go.Value.slice Option.none 0 0, Go.Value.slice Option.none 0 0, Go.Value.slice Option.none 0 0, Go.Value.slice Option.none 0 0, Go.Value.slice Option.none 0 0]
instance : TZero Try.prog 77 (.agg zc77) := ⟨Try.zeroValue77⟩
instance : TFld Try.prog 77 0 0 73 9 := ⟨⟨_, _, Try.underlying77, rfl, rfl, rfl, Try.sizeOf73, by decide⟩⟩
instance : TFld Try.prog 77 1 9 71 1 := ⟨⟨_, _, Try.underlying77, rfl, rfl, rfl, Try.sizeOf71, by decide⟩⟩
instance : TFld Try.prog 77 2 10 74 8 := ⟨⟨_, _, Try.underlying77, rfl, rfl, rfl, Try.sizeOf74, by decide⟩⟩
instance : TFld Try.prog 77 3 18 29 1 := ⟨⟨_, _, Try.underlying77, rfl, rfl, rfl, Try.sizeOf29, by decide⟩⟩
instance : TFld Try.prog 77 4 19 59 1 := ⟨⟨_, _, Try.underlying77, rfl, rfl, rfl, Try.sizeOf59, by decide⟩⟩
instance : TFld Try.prog 77 5 20 75 1 := ⟨⟨_, _, Try.underlying77, rfl, rfl, rfl, Try.sizeOf75, by decide⟩⟩
instance : TBuild Try.prog 77 zc77 [(0, 9), (9, 1), (10, 8), (18, 1), (19, 1), (20, 1)] := ⟨fun _ => by kernel_rfl⟩
instance : TAgg Try.prog 85 false := ⟨Try.isAgg85⟩
instance : TSize Try.prog 88 3 := ⟨Try.sizeOf88⟩
instance : TAgg Try.prog 88 true := ⟨Try.isAgg88⟩
def zc88 : Array Value :=  #[Go.Value.int Go.IntKind.i64 0, Go.Value.nilFunc, Go.Value.nilFunc]
instance : TZero Try.prog 88 (.agg zc88) := ⟨Try.zeroValue88⟩
instance : TFld Try.prog 88 0 0 3 1 := ⟨⟨_, _, Try.underlying88, rfl, rfl, rfl, Try.sizeOf3, by decide⟩⟩
instance : TFld Try.prog 88 1 1 85 1 := ⟨⟨_, _, Try.underlying88, rfl, rfl, rfl, Try.sizeOf85, by decide⟩⟩
instance : TBuild Try.prog 88 zc88 [(0, 1), (1, 1), (2, 1)] := ⟨fun _ => by kernel_rfl⟩
instance : TSize Try.prog 89 24 := ⟨Try.sizeOf89⟩
instance : TAgg Try.prog 89 true := ⟨Try.isAgg89⟩
def zc89 : Array Value :=  #[Go.Value.int Go.IntKind.i64 0, Go.Value.nilFunc, Go.Value.nilFunc, Go.Value.int Go.IntKind.i64 0, Go.Value.nilFunc, Go.Value.nilFunc, Go.Value.int Go.IntKind.i64 0, Go.Value.nilFunc, Go.Value.nilFunc, Go.Value.int Go.IntKind.i64 0, Go.Value.nilFunc, Go.Value.nilFunc, Go.Value.int Go.IntKind.i64 0, Go.Value.nilFunc, Go.Value.nilFunc, Go.Value.int Go.IntKind.i64 0, Go.Value.nilFunc, Go.Value.nilFunc, Go.Value.int Go.IntKind.i64 0, Go.Value.nilFunc, Go.Value.nilFunc, Go.Value.int Go.IntKind.i64 0, Go.Value.nilFunc, Go.Value.nilFunc]
instance : TZero Try.prog 89 (.agg zc89) := ⟨Try.zeroValue89⟩
instance : TUnd Try.prog 89 (.array 8 88) := ⟨Try.underlying89⟩
instance : TSize Try.prog 100 8 := ⟨Try.sizeOf100⟩
instance : TAgg Try.prog 100 true := ⟨Try.isAgg100⟩
def zc100 : Array Value :=  #[Go.Value.int Go.IntKind.i64 0, Go.Value.int Go.IntKind.i64 0, Go.Value.int Go.IntKind.i64 0, Go.Value.int Go.IntKind.i64 0, Go.Value.int Go.IntKind.i64 0, Go.Value.int Go.IntKind.i64 0, Go.Value.int Go.IntKind.i64 0, Go.Value.int Go.IntKind.i64 0]
instance : TZero Try.prog 100 (.agg zc100) := ⟨Try.zeroValue100⟩
instance : TUnd Try.prog 100 (.array 8 3) := ⟨Try.underlying100⟩
instance : TSize Try.prog 106 1 := ⟨Try.sizeOf106⟩
instance : TAgg Try.prog 106 false := ⟨Try.isAgg106⟩
instance : TSize Try.prog 107 4 := ⟨Try.sizeOf107⟩
instance : TAgg Try.prog 107 true := ⟨Try.isAgg107⟩
def zc107 : Array Value :=  #[Go.Value.nilFunc, Go.Value.nilFunc, Go.Value.nilFunc, Go.Value.nilFunc]
instance : TZero Try.prog 107 (.agg zc107) := ⟨Try.zeroValue107⟩
instance : TUnd Try.prog 107 (.array 4 106) := ⟨Try.underlying107⟩
instance : TUnd Try.prog 111 (.int Go.IntKind.u64) := ⟨Try.underlying111⟩
instance : TSize Try.prog 119 2 := ⟨Try.sizeOf119⟩
instance : TAgg Try.prog 119 true := ⟨Try.isAgg119⟩
def zc119 : Array Value :=  #[Go.Value.int Go.IntKind.i64 0, Go.Value.int Go.IntKind.i64 0]
instance : TZero Try.prog 119 (.agg zc119) := ⟨Try.zeroValue119⟩
instance : TFld Try.prog 119 0 0 3 1 := ⟨⟨_, _, Try.underlying119, rfl, rfl, rfl, Try.sizeOf3, by decide⟩⟩
instance : TFld Try.prog 119 1 1 3 1 := ⟨⟨_, _, Try.underlying119, rfl, rfl, rfl, Try.sizeOf3, by decide⟩⟩
instance : TBuild Try.prog 119 zc119 [(0, 1), (1, 1)] := ⟨fun _ => by kernel_rfl⟩
instance : TSize Try.prog 122 3 := ⟨Try.sizeOf122⟩
instance : TAgg Try.prog 122 true := ⟨Try.isAgg122⟩
def zc122 : Array Value :=  #[Go.Value.int Go.IntKind.i64 0, Go.Value.int Go.IntKind.i64 0, Go.Value.int Go.IntKind.i64 0]
instance : TZero Try.prog 122 (.agg zc122) := ⟨Try.zeroValue122⟩
instance : TUnd Try.prog 122 (.array 3 3) := ⟨Try.underlying122⟩
instance : TSize Try.prog 127 1 := ⟨Try.sizeOf127⟩
instance : TAgg Try.prog 127 true := ⟨Try.isAgg127⟩
def zc127 : Array Value :=  #[Go.Value.int Go.IntKind.i64 0]
instance : TZero Try.prog 127 (.agg zc127) := ⟨Try.zeroValue127⟩
instance : TFld Try.prog 127 0 0 39 1 := ⟨⟨_, _, Try.underlying127, rfl, rfl, rfl, Try.sizeOf39, by decide⟩⟩
instance : TBuild Try.prog 127 zc127 [(0, 1)] := ⟨fun _ => by kernel_rfl⟩
instance : TUnd Try.prog 141 (.int Go.IntKind.u64) := ⟨Try.underlying141⟩
instance : TRow Try.prog 3 #[Go.Value.int Go.IntKind.i64 0] 1 8 := TRow.of Try.zeroValue3 rfl row3 rfl
instance : TRow Try.prog 31 zc31 4 32 := TRow.of Try.zeroValue31 rfl row31 rfl
instance : TRow Try.prog 33 zc33 10 96 := TRow.of Try.zeroValue33 rfl row33 rfl
instance : TRow Try.prog 55 zc55 2 16 := TRow.of Try.zeroValue55 rfl row55 rfl
instance : TRow Try.prog 69 zc69 5 56 := TRow.of Try.zeroValue69 rfl row69 rfl
instance : TRow Try.prog 71 #[Go.Value.slice Option.none 0 0] 1 24 := TRow.of Try.zeroValue71 rfl row71 rfl
instance : FCall Try.prog 75 := ⟨Try.call75⟩
instance : FCall Try.prog 76 := ⟨Try.call76⟩
instance : FCall Try.prog 71 := ⟨Try.call71⟩
instance : FCall Try.prog 46 := ⟨Try.call46⟩
instance : FCall Try.prog 13 := ⟨Try.call13⟩
instance : FCall Try.prog 83 := ⟨Try.call83⟩
instance : FCall Try.prog 57 := ⟨Try.call57⟩
instance : FCall Try.prog 65 := ⟨Try.call65⟩
instance : FCall Try.prog 42 := ⟨Try.call42⟩
instance : FCall Try.prog 27 := ⟨Try.call27⟩
instance : FCall Try.prog 77 := ⟨Try.call77⟩
instance : FCall Try.prog 88 := ⟨Try.call88⟩
instance : FCall Try.prog 52 := ⟨Try.call52⟩
instance : FCall Try.prog 33 := ⟨Try.call33⟩
instance : FCall Try.prog 81 := ⟨Try.call81⟩
instance : FCall Try.prog 17 := ⟨Try.call17⟩
instance : FCall Try.prog 66 := ⟨Try.call66⟩
instance : FCall Try.prog 20 := ⟨Try.call20⟩
instance : FCall Try.prog 49 := ⟨Try.call49⟩
instance : FCall Try.prog 93 := ⟨Try.call93⟩
instance : FCall Try.prog 35 := ⟨Try.call35⟩
instance : FCall Try.prog 86 := ⟨Try.call86⟩
instance : FCall Try.prog 82 := ⟨Try.call82⟩
instance : FCall Try.prog 18 := ⟨Try.call18⟩
instance : FCall Try.prog 55 := ⟨Try.call55⟩
instance : FCall Try.prog 60 := ⟨Try.call60⟩
instance : FCall Try.prog 6 := ⟨Try.call6⟩
instance : FCall Try.prog 16 := ⟨Try.call16⟩
instance : FCall Try.prog 91 := ⟨Try.call91⟩
instance : FCall Try.prog 38 := ⟨Try.call38⟩
instance : FCall Try.prog 94 := ⟨Try.call94⟩
instance : FCall Try.prog 14 := ⟨Try.call14⟩
instance : FCall Try.prog 40 := ⟨Try.call40⟩
instance : FCall Try.prog 30 := ⟨Try.call30⟩
instance : FCall Try.prog 90 := ⟨Try.call90⟩
instance : FCall Try.prog 28 := ⟨Try.call28⟩
instance : FCall Try.prog 15 := ⟨Try.call15⟩
instance : FCall Try.prog 68 := ⟨Try.call68⟩
instance : FCall Try.prog 48 := ⟨Try.call48⟩
instance : FCall Try.prog 39 := ⟨Try.call39⟩
instance : FCall Try.prog 21 := ⟨Try.call21⟩
instance : FCall Try.prog 19 := ⟨Try.call19⟩
instance : FCall Try.prog 59 := ⟨Try.call59⟩
instance : FCall Try.prog 84 := ⟨Try.call84⟩
instance : FCall Try.prog 12 := ⟨Try.call12⟩
instance : FCall Try.prog 72 := ⟨Try.call72⟩
instance : FCall Try.prog 63 := ⟨Try.call63⟩
instance : FCall Try.prog 62 := ⟨Try.call62⟩
instance : FCall Try.prog 70 := ⟨Try.call70⟩
instance : FCall Try.prog 8 := ⟨Try.call8⟩
instance : FCall Try.prog 69 := ⟨Try.call69⟩
instance : FCall Try.prog 47 := ⟨Try.call47⟩
instance : FCall Try.prog 7 := ⟨Try.call7⟩
instance : FCall Try.prog 11 := ⟨Try.call11⟩
instance : FCall Try.prog 5 := ⟨Try.call5⟩
instance : FCall Try.prog 41 := ⟨Try.call41⟩
instance : FCall Try.prog 87 := ⟨Try.call87⟩
instance : FCall Try.prog 92 := ⟨Try.call92⟩
instance : FCall Try.prog 56 := ⟨Try.call56⟩
instance : FCall Try.prog 43 := ⟨Try.call43⟩
instance : FCall Try.prog 79 := ⟨Try.call79⟩
instance : FCall Try.prog 51 := ⟨Try.call51⟩
instance : FCall Try.prog 32 := ⟨Try.call32⟩
instance : FCall Try.prog 31 := ⟨Try.call31⟩
instance : FCall Try.prog 80 := ⟨Try.call80⟩
instance : FCall Try.prog 58 := ⟨Try.call58⟩
instance : FCall Try.prog 23 := ⟨Try.call23⟩
instance : FCall Try.prog 22 := ⟨Try.call22⟩
instance : FCall Try.prog 29 := ⟨Try.call29⟩
instance : FCall Try.prog 61 := ⟨Try.call61⟩
instance : FCall Try.prog 95 := ⟨Try.call95⟩
instance : FCall Try.prog 97 := ⟨Try.call97⟩
instance : FCall Try.prog 85 := ⟨Try.call85⟩
instance : FCall Try.prog 44 := ⟨Try.call44⟩
instance : FCall Try.prog 67 := ⟨Try.call67⟩
instance : FCall Try.prog 50 := ⟨Try.call50⟩
instance : FCall Try.prog 89 := ⟨Try.call89⟩
instance : FCall Try.prog 99 := ⟨Try.call99⟩
instance : FCall Try.prog 25 := ⟨Try.call25⟩
instance : FCall Try.prog 53 := ⟨Try.call53⟩
instance : FCall Try.prog 45 := ⟨Try.call45⟩
instance : FCall Try.prog 36 := ⟨Try.call36⟩
instance : FCall Try.prog 24 := ⟨Try.call24⟩
instance : FCall Try.prog 74 := ⟨Try.call74⟩
instance : FCall Try.prog 37 := ⟨Try.call37⟩
instance : FCall Try.prog 34 := ⟨Try.call34⟩
instance : FCall Try.prog 96 := ⟨Try.call96⟩
instance : FCall Try.prog 64 := ⟨Try.call64⟩
instance : FCall Try.prog 98 := ⟨Try.call98⟩
instance : FCall Try.prog 78 := ⟨Try.call78⟩
instance : FCall Try.prog 26 := ⟨Try.call26⟩
instance : FCall Try.prog 54 := ⟨Try.call54⟩
instance : FCall Try.prog 73 := ⟨Try.call73⟩
theorem mixed : Try.prog.follows .mixedOrders = true := by kernel_rfl
end Go.Proofs.Ytgimodceldoniaa
