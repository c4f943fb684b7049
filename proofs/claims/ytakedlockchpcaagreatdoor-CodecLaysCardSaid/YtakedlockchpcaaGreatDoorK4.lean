/-
  A part of what the last of these texts needs; by itself it proves no statement.
-/
import Derived.Test.YtakedlockchpcaaGreatDoorRows
import Derived.WalkKit
import Derived.LaidEql
import Derived.Stop.Asserts
import Derived.RowKitTokens
import Derived.Test.YtakedlockchpcaaGreatDoorK3
namespace Go.Proofs.YtakedlockchpcaaGreatDoor
open Go.RowKit
noncomputable section
attribute [local irreducible] T.put T.set opX opP calmX effX callX appendX
def memX (k : Nat) : List Nat → Bool
  | [] => false
  | j :: r => match Nat.beq j k with
    | true => true
    | false => memX k r
def apartX (W : List Nat) : List Nat → Bool
  | [] => true
  | k :: r => match memX k W with
    | true => false
    | false => apartX W r
theorem memX_ok {k : Nat} : ∀ {l : List Nat}, memX k l = false → k ∉ l
  | [], _ => by simp
  | j :: r, h => by
    simp only [memX] at h
    split at h
    · cases h
    · rename_i hj
      simp only [List.mem_cons, not_or]
      exact ⟨fun e => Nat.ne_of_beq_eq_false hj e.symm, memX_ok h⟩
theorem apartX_ok {W : List Nat} : ∀ {l : List Nat}, apartX W l = true → ∀ k ∈ l, k ∉ W
  | [], _, k, hk => by cases hk
  | j :: r, h, k, hk => by
    simp only [apartX] at h
    split at h
    · cases h
    · rename_i hj
      rcases List.mem_cons.1 hk with rfl | hk
      · exact memX_ok hj
      · exact apartX_ok h k hk
def deferX (top : Bool) (s : S) (Hp : H) : List Oper → CX
  | [o] => match top, o.op, o.guard, o.dst with
    | true, .defer cl, none, none => match cl.callee with
      | .value x => match evX s x, evsX s cl.args.toList with
        | some (.fn (.func f) A B), some vs => some (.normal, s, ⟨Hp.h, Hp.n, Hp.log, .call f (A ++ vs) B :: Hp.ds⟩)
        | _, _ => none
      | _ => none
    | _, _, _, _ => none
  | _ => none
def deferL (P : Program) (call : CallF) (ops : List Oper) (top : Bool) : List Oper → S → H → CX
  | [], _, _ => none
  | o :: r, s, Hp => match deferX top s Hp (o :: r) with
    | some x => some x
    | none => match guardX ops s o with
      | some true => match opX P call s Hp o with
        | some (s2, H2) => deferL P call ops top r s2 H2
        | none => none
      | some false => deferL P call ops top r (putD s o.dst (.tup [])) Hp
      | none => none
def regionX (P : Program) (call : CallF) (pt : T (Nat × Plan)) (top : Bool) (id : Nat) (ops : List Oper) (draw : Bool) (s : S) (Hp : H) : CX := match draw with
  | false => match opsX P call ops ops s Hp with
    | some (.normal, s2, H2) => some (.normal, s2.flush, H2)
    | some (.panic v, _, H2) => some (.panic v, s.cut ops, H2)
    | some _ => none
    | none => deferL P call ops top ops s Hp
  | true => match pt.get id with
    | some (m, p) => match drawX P call ops Hp.h m p.musts true p s ⟨Hp.h, Hp.n, [], Hp.ds⟩ [] with
      | some (.normal, s2, H2, W, rd) => match apartX W rd with
        | true => some (.normal, s2.flush, ⟨H2.h, H2.n, H2.log ++ Hp.log, H2.ds⟩)
        | false => none
      | some (.panic v, _, H2, W, rd) => match apartX W rd with
        | true => some (.panic v, s.cut ops, ⟨H2.h, H2.n, H2.log ++ Hp.log, H2.ds⟩)
        | false => none
      | _ => none
    | none => none
def loopX (f : S → H → CX) : Nat → S → H → CX
  | 0, _, _ => none
  | n + 1, s, Hp => match f s Hp with
    | some (.normal, s2, H2) => loopX f n s2 H2
    | r => r
def endX (s : S) (n : Nat) (H2 : H) : CX := match H2.h.get (Nat.succ n) with
  | some (.loop _ .ready) => some (.normal, s, ⟨H2.h.set (Nat.succ n) .gone, H2.n, Nat.succ n :: H2.log, .mark n :: H2.ds⟩)
  | some (.loop _ (.done .ret)) => some (.ret, s, ⟨H2.h.set (Nat.succ n) .gone, H2.n, Nat.succ n :: H2.log, .mark n :: H2.ds⟩)
  | some (.loop _ (.done (.exit id))) => some (.exit id, s, ⟨H2.h.set (Nat.succ n) .gone, H2.n, Nat.succ n :: H2.log, .mark n :: H2.ds⟩)
  | _ => none
def rangeX (call : CallF) (pt : T (Nat × Plan)) (N : Nat) (ps : List Nat) (assign body : Code) (s : S) (Hp : H) : Option V → CX
  | some (.fn (.func gf) A B) => match call.f gf (A ++ (.yld (Nat.succ Hp.n) :: B)) ((Hp.new .defer).new (.loop ⟨s, ps, assign, body, pt, N⟩ .ready)) with
    | some (_, H2) => endX s Hp.n H2
    | none => none
  | _ => none
def codeX (P : Program) (call : CallF) (pt : T (Nat × Plan)) (lf : Nat) (top : Bool) (N : Nat) : Code → S → H → CX
  | .skip, s, Hp => some (.normal, s, Hp)
  | .ret, s, Hp => some (.ret, s, Hp)
  | .exit id, s, Hp => some (.exit id, s, Hp)
  | .seq a b, s, Hp => match codeX P call pt lf top N a s Hp with
    | some (.normal, s2, H2) => codeX P call pt lf top N b s2 H2
    | r => r
  | .cond x a b, s, Hp => match evX s x with
    | some (.bool true) => codeX P call pt lf top N a s Hp
    | some (.bool false) => codeX P call pt lf top N b s Hp
    | _ => none
  | .block id a, s, Hp => match codeX P call pt lf top N a s Hp with
    | some (.exit id', s2, H2) => match Nat.beq id' id with
      | true => some (.normal, s2, H2)
      | false => some (.exit id', s2, H2)
    | r => r
  | .loop a, s, Hp => loopX (codeX P call pt lf top N a) lf s Hp
  | .region id ops draw, s, Hp => regionX P call pt top id ops.toList draw s Hp
  | .rangeFunc x ps assign body, s, Hp => match top with
    | true => rangeX call pt N ps.toList assign body s Hp (evX s x)
    | false => none
  | _, _, _ => none
def psOk (N : Nat) : List Nat → Bool
  | [] => true
  | p :: r => match Nat.blt p N with
    | true => psOk N r
    | false => false
theorem psOk_ok {N : Nat} : ∀ {ps : List Nat}, psOk N ps = true → (ps.all fun p => Nat.blt p N) = true
  | [], _ => rfl
  | p :: r, h => by
    simp only [psOk] at h
    split at h
    · rename_i h1; simp only [List.all_cons, h1, Bool.true_and]; exact psOk_ok h
    · cases h
def codeOk (N : Nat) (pt : T (Nat × Plan)) : Code → Bool
  | .seq a b => match codeOk N pt a with
    | true => codeOk N pt b
    | false => false
  | .cond _ a b => match codeOk N pt a with
    | true => codeOk N pt b
    | false => false
  | .block _ a => codeOk N pt a
  | .loop a => codeOk N pt a
  | .region id ops draw => match dstOk N ops.toList, draw with
    | true, false => true
    | true, true => match pt.get id with
      | some (m, p) => (Region.noSelect ops && lateT ops.toList m && (fastOk ops m p || planOk ops m p ops.size (Array.replicate ops.size false))) && calmsOk p.musts p
      | none => true
    | false, _ => false
  | _ => true
theorem covS_cut {bs : Bs} {s : S} {σs : List (Nat × Value)} {ops : Array Oper} (h : CovS bs s σs) : CovS bs (s.cut ops.toList) (keepS ops σs) := fun t v hv => by
  obtain ⟨h1, h2⟩ := S.get_cut hv
  obtain ⟨v', h3, h4⟩ := h t v h1
  exact ⟨v', look_keepS.2 ⟨h3, h2⟩, h4⟩
section
variable {c : Cx} {call : CallF} {pt : T (Nat × Plan)} {lf : Nat} {top : Bool}
theorem deferX_ok (htop : top = true → c.r = none) {ops : Array Oper} {l : List Oper} {bs : Bs} {s : S} {Hp : H} {M F : List (Nat × Obj)} {σ : St} {e : EX} {s2 : S} {H2 : H} (hcov : Cov bs s Hp M F σ) {K : Exit → St → Prop} (hc : deferX top s Hp l = some (e, s2, H2)) (hk : ∀ e' σ', DoneK bs Hp M F e s2 H2 e' σ' → K e' σ') : WL c ops l K σ := by
  unfold deferX at hc
  split at hc
  · rename_i o
    split at hc
    · rename_i cl ho hg hd
      obtain ⟨cal, args, tys⟩ := cl
      split at hc
      · rename_i x hx
        simp only at hx hc
        subst hx
        split at hc
        · rename_i f A B vs h1 h2
          cases hc
          obtain ⟨x', h3, h4⟩ := evX_ok hcov.slots h1
          obtain ⟨vs', h5, h6⟩ := evsX_ok hcov.slots h2
          cases h4
          rename_i A' B' hA hB
          refine WL_op hg (OW_defer (htop rfl) ho h3 h5 (by rw [hd]; rfl) ?_)
          rw [hd]
          refine WL_nil (hk _ _ ⟨rfl, [], M, ⟨A' ++ vs', B', σ.D, by simpa using hA.append h6, by simpa using hB, by simp [St.put], by simpa using hcov.D⟩, hcov.L, by rw [List.append_nil]; exact hcov.slots, by simpa using ⟨hcov.mem.n, hcov.mem.at_, hcov.mem.inj⟩, fun _ h => h, fun W B _ hB => by
            simp only [List.append_nil]; exact fun q hq => hB q hq⟩)
        · cases hc
      · cases hc
    · cases hc
  · cases hc
theorem deferL_ok (hcall : CallOk c.P call) (htop : top = true → c.r = none) {ops : Array Oper} : ∀ (l : List Oper) {bs : Bs} {s : S} {Hp : H} {M F : List (Nat × Obj)} {e : EX} {s2 : S} {H2 : H} {σ : St} {K : Exit → St → Prop}, (∀ o ∈ l, dok c.N o.dst = true) → Cov bs s Hp M F σ → deferL c.P call ops.toList top l s Hp = some (e, s2, H2) → (∀ e' σ', DoneK bs Hp M F e s2 H2 e' σ' → K e' σ') → WL c ops l K σ
  | [], _, _, _, _, _, _, _, _, _, _, _, _, hc, _ => by cases hc
  | o :: r, bs, s, Hp, M, F, e, s2, H2, σ, K, hd, hcov, hc, hk => by
    have hd1 := hd o List.mem_cons_self
    have hd2 := fun p hp => hd p (List.mem_cons_of_mem _ hp)
    simp only [deferL] at hc
    split at hc
    · rename_i x hx
      cases hc
      exact deferX_ok htop hcov hx hk
    · skip
      split at hc
      · rename_i hg
        have go : OW c o (WL c ops r K) K σ → WL c ops (o :: r) K σ := fun hW => by
          rcases guardX_ok hcov.slots hg with ⟨_, hgn⟩ | ⟨j, want, og, dg, hg1, hj, hdg, ⟨_, hb⟩ | ⟨hb, _⟩⟩
          · exact WL_op hgn hW
          · exact WL_guard hg1 hj hdg hb (fun _ => hW) hd1 (fun e => by cases want <;> cases e)
          · cases hb
        split at hc
        · rename_i s1 H1 h1
          exact go ((opX_ok hcall hd1 hcov h1).mono fun σ1 hp1 => by
            obtain ⟨r1, M1, hcov1, hl1, hp1, _⟩ := hp1.split
            exact deferL_ok hcall htop r hd2 hcov1 hc fun e' σ' hp2 => hk e' σ' (DoneK.comp hl1 hp1 hp2))
        · cases hc
      · rename_i hg
        have hrest : WL c ops r K (σ.put o.dst undef) := deferL_ok hcall htop r hd2 (hcov.undef o.dst) hc hk
        rcases guardX_ok hcov.slots hg with ⟨hb, _⟩ | ⟨j, want, og, dg, hg1, hj, hdg, ⟨hb, _⟩ | ⟨_, u, hu, rfl | rfl⟩⟩
        · cases hb
        · cases hb
        · exact WL_guard hg1 hj hdg hu (fun e => by cases want <;> cases e) hd1 (fun _ => hrest)
        · exact WL_guard_undef hg1 hj hdg hu hd1 hrest
      · cases hc
theorem regionX_ok (hcall : CallOk c.P call) (hmix : c.P.follows .mixedOrders = true) (htop : top = true → c.r = none) {id : Nat} {ops : Array Oper} {draw : Bool} {bs : Bs} {s : S} {Hp : H} {M F : List (Nat × Obj)} {σ : St} {e : EX} {s2 : S} {H2 : H} (hok : codeOk c.N pt (.region id ops draw) = true) (hcov : Cov bs s Hp M F σ) (hc : regionX c.P call pt top id ops.toList draw s Hp = some (e, s2, H2)) : WC c (.region id ops draw) (DoneK bs Hp M F e s2 H2) σ := by
  have norm : ∀ {s3 : S} {Hx : H} (e' : Exit) (σ' : St), (∀ ch, e' ≠ .panic ch) → DoneK bs Hp M F .normal s3 Hx e' σ' → DoneK bs Hp M F .normal s3.flush Hx e' σ' := fun e' σ' _ h => ⟨h.1, Post.sub h.2 fun t v => S.get_flush⟩
  have nopan : ∀ {v : V} {s3 s4 : S} {Hx : H} (e' : Exit) (σ' : St), (∀ ch, e' ≠ .panic ch) → DoneK bs Hp M F (.panic v) s3 Hx e' σ' → DoneK bs Hp M F (.panic v) s4 Hx e' σ' := fun e' σ' h1 h => by
    obtain ⟨v', h2, _⟩ := h; exact absurd h2 (h1 _)
  have pank : ∀ {v : V} {s3 : S} {Hx : H} (ch : List PanicEntry) (D : List Deferred) (L : List (Nat × Obj)), DoneK bs Hp M F (.panic v) s3 Hx (.panic ch) ⟨[], D, L⟩ → DoneK bs Hp M F (.panic v) (s.cut ops.toList) Hx (.panic ch) ⟨keepS ops σ.s, D, L⟩ := fun ch D L h => by
    obtain ⟨v', h1, r, M', f1, f2, f3, f4⟩ := h
    exact ⟨v', h1, r, M', f1, f2, covS_cut (hcov.slots.mono r), f4⟩
  have nopan2 : ∀ {s3 s4 : S} {Hx : H} (ch : List PanicEntry) (D : List Deferred) (L : List (Nat × Obj)), DoneK bs Hp M F .normal s3 Hx (.panic ch) ⟨[], D, L⟩ → DoneK bs Hp M F .normal s4 Hx (.panic ch) ⟨keepS ops σ.s, D, L⟩ := fun ch D L h => by
    obtain ⟨h1, _⟩ := h; cases h1
  unfold regionX at hc
  unfold codeOk at hok
  split at hc
  · split at hok
    · rename_i hd _
      split at hc
      · rename_i h1
        cases hc
        refine WC_app (ops' := ops.toList.toArray) (by simp) (WC_regionP norm (by simpa using nopan2) ?_)
        simp only [Array.toArray_toList]
        exact opsX_ok hcall ops.toList (dstOk_mem hd) hcov h1 fun e' σ' hp => hp
      · rename_i v s3 H3 h1
        cases hc
        refine WC_app (ops' := ops.toList.toArray) (by simp) (WC_regionP (K0 := DoneK bs Hp M F (.panic v) s3 H2) nopan (by simpa using pank (v := v) (s3 := s3) (Hx := H2)) ?_)
        simp only [Array.toArray_toList]
        exact opsX_ok hcall ops.toList (dstOk_mem hd) hcov h1 fun e' σ' hp => hp
      · cases hc
      · exact WC_app (ops' := ops.toList.toArray) (by simp) (WC_region (deferL_ok hcall htop _ (fun o ho => dstOk_mem hd o (by simpa using ho)) hcov (by simpa using hc) fun _ _ h => h))
    · rename_i h; cases h
    · cases hok
  · split at hc
    · rename_i m p hpt
      have main : ∀ {e : EX} {s3 : S} {H3 : H} {W0 rd : List Nat} {K : Exit → St → Prop}, drawX c.P call ops.toList Hp.h m p.musts true p s ⟨Hp.h, Hp.n, [], Hp.ds⟩ [] = some (e, s3, H3, W0, rd) → apartX W0 rd = true →
          (∀ e' σ', (∀ ch, e' ≠ .panic ch) → DoneK bs Hp M F e s3 ⟨H3.h, H3.n, H3.log ++ Hp.log, H3.ds⟩ e' σ' → K e' σ') → (∀ ch D L, DoneK bs Hp M F e s3 ⟨H3.h, H3.n, H3.log ++ Hp.log, H3.ds⟩ (.panic ch) ⟨[], D, L⟩ → K (.panic ch) ⟨keepS ops σ.s, D, L⟩) → WC c (.region id ops true) K σ := by
        intro e s3 H3 W0 rd K h1 hap hk1 hk2
        split at hok
        · rename_i h; cases h
        · rename_i hd _
          rw [hpt] at hok
          classical
          let Ls : List (Nat × Obj) := σ.L.filter fun q => decide (q ∈ M ∧ ∀ j o x y, Hp.h.get j = some o → bs[j]? = some (q.1, x, y) → j ∉ W0)
          have hLs : ∀ q, q ∈ Ls ↔ q ∈ σ.L ∧ q ∈ M ∧ ∀ j o x y, Hp.h.get j = some o → bs[j]? = some (q.1, x, y) → j ∉ W0 := fun q => by
            simp only [Ls, List.mem_filter, decide_eq_true_eq]
          rw [Bool.and_eq_true] at hok
          have hok1 : (Region.noSelect ops && lateT ops.toList m && planOk ops m p ops.size (Array.replicate ops.size false)) = true := by
            have h1 := hok.1
            rw [Bool.and_eq_true, Bool.or_eq_true] at h1
            rw [Bool.and_eq_true]
            exact ⟨h1.1, h1.2.elim fastOk_ok fun h => h⟩
          refine WC_drawP (K0 := DoneK bs Hp M F e s3 ⟨H3.h, H3.n, H3.log ++ Hp.log, H3.ds⟩) Ls m p hmix hok1 hok.2 List.filter_sublist hk1 hk2 ?_
          have hcov0 : Cov (bs ++ []) s ⟨Hp.h, Hp.n, [], Hp.ds⟩ M F σ := ⟨by simpa using hcov.slots, by simpa using hcov.D, by simpa using ⟨hcov.mem.n, hcov.mem.at_, hcov.mem.inj⟩, hcov.L⟩
          refine drawX_ok (bs0 := bs) (W := W0) (R := rd) (h0 := Hp.h) (Ls := Ls) hcall (dstOk_mem hd) (apartX_ok hap) ?_ ?_ p (r := []) h1 (fun _ h => h) (fun _ h => h) hcov0 ?_ ?_
          · intro k o hk hkW
            obtain ⟨b, base, av, i, o', a1, a2, a3⟩ := hcov.mem.at_ k o hk
            have hmem : (b, o') ∈ Ls := (hLs _).2 ⟨by rw [hcov.L]; exact List.mem_append_left _ (List.mem_of_getElem? a2), List.mem_of_getElem? a2, fun j u x y hj hb => by
              rw [hcov.mem.inj j k u o b x y base av hj hk hb a1]; exact hkW⟩
            obtain ⟨i2, hi2⟩ := List.mem_iff_getElem?.1 hmem
            exact ⟨b, base, av, i2, o', a1, hi2, a3⟩
          · intro k o hk
            obtain ⟨b, base, av, i, o', a1, a2, a3⟩ := hcov.mem.at_ k o hk
            exact ⟨b, base, av, i, o', a1, by rw [hcov.L, List.getElem?_append_left (List.getElem?_eq_some_iff.1 a2).1]; exact a2, a3⟩
          · intro q hq
            obtain ⟨_, h2, h3⟩ := (hLs q).1 hq
            exact ⟨h2, fun j o x y hj hb => h3 j o x y hj (by simpa using hb)⟩
          · intro e' σ' hd
            have turn : ∀ {A : Bs → Prop}, (∃ (r : Bs) (M' : List (Nat × Obj)), RD (bs ++ [] ++ r) H3.ds σ'.D ∧ σ'.L = M' ++ F ∧ CovS (bs ++ [] ++ r) s3 σ'.s ∧ HCov (bs ++ [] ++ r) H3 M' ∧ (∀ k ∈ ([] : List Nat), k ∈ H3.log) ∧ (∀ W B, (∀ k ∈ H3.log, k ∈ W) → Prot (bs ++ []) ⟨Hp.h, Hp.n, [], Hp.ds⟩ M W B → Prot (bs ++ [] ++ r) H3 M' W B) ∧ A (bs ++ [] ++ r)) →
                ∃ (r : Bs) (M' : List (Nat × Obj)), RD (bs ++ r) H3.ds σ'.D ∧ σ'.L = M' ++ F ∧ CovS (bs ++ r) s3 σ'.s ∧ HCov (bs ++ r) ⟨H3.h, H3.n, H3.log ++ Hp.log, H3.ds⟩ M' ∧ (∀ k ∈ Hp.log, k ∈ H3.log ++ Hp.log) ∧ (∀ W B, (∀ k ∈ H3.log ++ Hp.log, k ∈ W) → Prot bs Hp M W B → Prot (bs ++ r) ⟨H3.h, H3.n, H3.log ++ Hp.log, H3.ds⟩ M' W B) ∧ A (bs ++ r) := by
              rintro A ⟨r, M', f1, f2, f3, f4, f5, f6, f7⟩
              rw [List.append_nil] at f1 f3 f4 f6 f7
              refine ⟨r, M', f1, f2, f3, ⟨f4.n, f4.at_, f4.inj⟩, fun k hk => List.mem_append_right _ hk, fun W B hW hB => ?_, f7⟩
              have := f6 W B (fun k hk => hW k (List.mem_append_left _ hk)) (by simpa [Prot] using hB)
              exact fun q hq => this q hq
            have turn2 : Post (bs ++ []) ⟨Hp.h, Hp.n, [], Hp.ds⟩ M F s3 H3 σ' → Post bs Hp M F s3 ⟨H3.h, H3.n, H3.log ++ Hp.log, H3.ds⟩ σ' := fun ⟨r, M', f1, f2, f3, f4, f5, f6⟩ => by
              obtain ⟨r, M', g1, g2, g3, g4, g5, g6, _⟩ := turn (A := fun _ => True) ⟨r, M', f1, f2, f3, f4, f5, f6, trivial⟩
              exact ⟨r, M', g1, g2, g3, g4, g5, g6⟩
            cases e with
            | panic v => obtain ⟨v', h1, h2⟩ := hd; exact ⟨v', h1, turn (A := fun bs => RV bs v v') h2⟩
            | normal => exact ⟨hd.1, turn2 hd.2⟩
            | ret => exact ⟨hd.1, turn2 hd.2⟩
            | exit id => exact ⟨hd.1, turn2 hd.2⟩
        · cases hok
      split at hc
      · rename_i s3 H3 W0 rd h1
        split at hc
        · rename_i hap
          cases hc
          exact main h1 hap norm nopan2
        · cases hc
      · rename_i v s3 H3 W0 rd h1
        split at hc
        · rename_i hap
          cases hc
          exact main h1 hap nopan pank
        · cases hc
      · cases hc
    · cases hc
theorem WC_loopX {x : Code} {K : Exit → St → Prop} {σ : St} (I : Nat → St → Prop) (m : Nat) (h0 : I m σ)
    (round : ∀ m σ, I m σ → WC c x (thenK (fun σ' => ∃ m', m' < m ∧ I m' σ') K) σ) : WC c (.loop x) K σ := fun a w ha => by
  let p : Act → World → Nat → Prop := fun a w m => ∃ σ, Holds c.g c.N σ a w ∧ I m σ
  refine wpIn_loop (fun a w => ∃ m, p a w m) (fun a w => leastOf (p a w)) ⟨m, σ, ha, h0⟩ ?_
  intro a w hp
  obtain ⟨⟨σ1, hs1, hi1⟩, hmin⟩ := leastOf_spec hp
  refine Go.wpIn_mono (round _ σ1 hi1 a w hs1) (fun e a' w' hl => ?_)
  cases e with
  | normal =>
    obtain ⟨σ', h1, m', hlt, hI⟩ := hl
    have hp' : ∃ m, p a' w' m := ⟨m', σ', h1, hI⟩
    exact ⟨hp', Nat.lt_of_le_of_lt ((leastOf_spec hp').2 m' ⟨σ', h1, hI⟩) hlt⟩
  | _ => exact hl
theorem memNot {M F : List (Nat × Obj)} {g w : World} (hm : Mem g (M ++ F) w) : w.heap.size ∉ M.map Prod.fst := fun hx => by
  obtain ⟨p, hp, e⟩ := List.mem_map.1 hx
  have := hm.lt p (List.mem_append_left _ hp)
  omega
theorem Post_mark {bs : Bs} {Hp : H} {M F : List (Nat × Obj)} {s2 : S} {H2 : H} {σ : St} {k b x y : Nat} (h : Post bs Hp M F s2 H2 σ) (hk : bs[k]? = some (b, x, y)) : Post bs Hp M F s2 ⟨H2.h, H2.n, H2.log, .mark k :: H2.ds⟩ ⟨σ.s, markD b :: σ.D, σ.L⟩ := by
  obtain ⟨r, M', f1, f2, f3, f4, f5, f6⟩ := h
  exact ⟨r, M', ⟨b, x, y, σ.D, bs_mono hk, rfl, f1⟩, f2, f3, ⟨f4.n, f4.at_, f4.inj⟩, f5, fun W B hW hB => by
    have := f6 W B hW hB
    exact fun q hq => this q hq⟩
theorem rangeX_ok (hcall : CallOk c.P call) (hr : c.r = none) {x : Operand} {ps : Array Nat} {assign body : Code} {bs : Bs} {s : S} {Hp : H} {M F : List (Nat × Obj)} {σ : St} {e : EX} {s2 : S} {H2 : H} (hcov : Cov bs s Hp M F σ) (hc : rangeX call pt c.N ps.toList assign body s Hp (evX s x) = some (e, s2, H2)) : WC c (.rangeFunc x ps assign body) (DoneK bs Hp M F e s2 H2) σ := by
  obtain ⟨P, g, N, n, rr⟩ := c
  cases hr
  generalize hx : evX s x = ex at hc
  unfold rangeX at hc
  split at hc
  · rename_i gf A B
    split at hc
    · rename_i v H3 hcl
      obtain ⟨x', h1, h2⟩ := evX_ok hcov.slots hx
      cases h2
      rename_i A' B' hA hB
      have hfc := hcall.fc _ _ _ _ _ hcl
      haveI := hfc
      intro a w ha
      refine wpIn_rangeFunc ?_
      intro fn _
      obtain ⟨rec, hrec⟩ : ∃ rec : Loop, rec = { state := .ready, pending := none, fn, tmps := a.tmps, params := ps, assign, body, defers := w.heap.size } := ⟨_, rfl⟩
      obtain ⟨W1, hW1⟩ : ∃ W1, (w.alloc (.deferred (some []))).alloc (.loop rec) = W1 := ⟨_, rfl⟩
      have hmw := ha.mem
      rw [hcov.L] at hmw
      have hm1 : Mem g ((w.heap.size + 1, .loop rec) :: (w.heap.size, .deferred (some [])) :: (M ++ F)) W1 := by
        have := (hmw.alloc (.deferred (some []))).alloc (.loop rec)
        rw [World.size_alloc] at this
        rw [← hW1]; exact this
      have hd0 : w.heap.size ∉ M.map Prod.fst := memNot hmw
      have hl0 : w.heap.size + 1 ∉ ((w.heap.size, Obj.deferred (some [])) :: M).map Prod.fst := fun hx => by
        have := hm1.nodup
        simp only [List.map_cons, List.nodup_cons, List.map_append, List.mem_cons, List.mem_append] at this hx
        rcases hx with hx | hx
        · exact this.1 (.inl hx)
        · exact this.1 (.inr (.inl hx))
      refine ⟨w.heap.size + 1, [markD w.heap.size], W1, { target := .fn (.func gf) B'.toArray, args := A'.toArray ++ #[.func (.yield (w.heap.size + 1)) #[] #[]] }, W1, gf, A'.toArray ++ #[.func (.yield (w.heap.size + 1)) #[] #[]] ++ B'.toArray, W1, ?_, ?_, fun _ _ => trivial, ?_, fun h => by simp at h, ?_⟩
      · rw [← hW1, hrec]; exact run_enterLoop_outer _ _ _ _ _
      · have := ha.ev h1
        simp [resolve, this, Deferred.ofValue, show ∀ v, a.eval (.const v) = v from fun _ => rfl]
      · simp [invoke, hfc.h]
      · generalize hl : w.heap.size + 1 = l at hm1 hl0 ⊢
        generalize hd : w.heap.size = d at hm1 hd0 hl0 ⊢
        have hc1 : HCov (bs ++ [(d, 0, 0)]) (Hp.new .defer) ((d, .deferred (some [])) :: M) := hcov.mem.new hd0 rfl
        have hp1 := fun W B (h : Prot bs Hp M W B) => Prot.new (o := .defer) (o' := .deferred (some [])) (av := 0) hcov.mem hd0 h
        have hlen : (Hp.new .defer).n = (bs ++ [(d, 0, 0)]).length := hc1.n
        have hro : RO ((bs ++ [(d, 0, 0)]) ++ [(l, 0, 0)]) l 0 0 (.loop ⟨s, ps.toList, assign, body, pt, N⟩ .ready) (.loop rec) := by
          refine ⟨rec, σ.s, rfl, by rw [hrec], by rw [hrec], by rw [hrec], by rw [hrec]; exact ha.size, (hcov.slots.mono _).mono _, fun t v hv => by rw [hrec]; exact ha.slots t v hv, by rw [hrec]; exact ⟨rfl, rfl⟩⟩
        have hc2 := hc1.new hl0 hro
        have hp2 := fun W B (h : Prot (bs ++ [(d, 0, 0)]) (Hp.new .defer) ((d, .deferred (some [])) :: M) W B) => Prot.new (o := .loop ⟨s, ps.toList, assign, body, pt, N⟩ .ready) (o' := .loop rec) (av := 0) hc1 hl0 h
        have hkl : ((bs ++ [(d, 0, 0)]) ++ [(l, 0, 0)])[Nat.succ Hp.n]? = some (l, 0, 0) := by
          have := bs_last (bs := bs ++ [(d, 0, 0)]) (l, 0, 0)
          rw [← hlen] at this; exact this
        have hkd : ((bs ++ [(d, 0, 0)]) ++ [(l, 0, 0)])[Hp.n]? = some (d, 0, 0) := bs_mono (by rw [hcov.mem.n]; exact bs_last _)
        have hF := hcall.fn _ _ _ _ _ hcl _ _ F (A' ++ (.func (.yield l) #[] #[] :: B')) hc2 (((hA.mono _).mono _).append (.cons (.yld hkl) ((hB.mono _).mono _)))
        have hcc := callsIn_fw none (n - 1) (hF g W1 hm1)
        have e : (A' ++ (Value.func (.yield l) #[] #[] :: B')).toArray = A'.toArray ++ #[.func (.yield l) #[] #[]] ++ B'.toArray := by apply Array.ext'; simp
        rw [e] at hcc
        refine hcc.mono fun e w' ⟨v', L2, g1, g2, r, M', g3, g4, g5, g6, g7, g8⟩ => ?_
        subst g1 g3
        -- where the loop's block is
        have fin : ∀ (st : LSt) (cl : Clo) (ex : EX) (pe : Option Code), H3.h.get (Nat.succ Hp.n) = some (.loop cl st) → (∀ r : Loop, st.fits r → r.pending = pe ∧ r.state ≠ .busy) → s2 = s → H2 = ⟨H3.h.set (Nat.succ Hp.n) .gone, H3.n, Nat.succ Hp.n :: H3.log, .mark Hp.n :: H3.ds⟩ →
            ∃ w4, (Instr.endLoop l).run P w' = .ok pe w4 ∧ ∃ σ3, Holds g N σ3 { a with defers := markD d :: a.defers } w4 ∧ Post bs Hp M F s2 H2 σ3 := by
          intro st cl ex pe hg hst hs hH
          obtain ⟨l', x1, x2, i, o', a1, a2, rec', σs, rfl, a3, a4, a5, a6, a7, a8, a9⟩ := g5.at_ _ _ hg
          rw [bs_mono hkl] at a1; cases a1
          obtain ⟨b1, b2⟩ := hst rec' a9
          have hi2 : (M' ++ F)[i]? = some (l, .loop rec') := by rw [List.getElem?_append_left (List.getElem?_eq_some_iff.1 a2).1]; exact a2
          have hend := run_endLoop (P := P) (g2.at_ hi2) b2
          have hm4 := g2.putObj hi2 (.loop { rec' with state := .exhausted })
          refine ⟨w'.putObj l (.loop { rec' with state := .exhausted }), by rw [hend, b1], ⟨σ.s, markD d :: σ.D, (M' ++ F).set i (l, .loop { rec' with state := .exhausted })⟩, ⟨ha.size, ha.slots, by show markD d :: a.defers = _; rw [ha.defers], hm4⟩, ?_⟩
          subst hs hH
          have hcov3 : Cov ((bs ++ [(d, 0, 0)] ++ [(l, 0, 0)]) ++ r) s2 H3 M' F ⟨σ.s, σ.D, M' ++ F⟩ := ⟨((hcov.slots.mono _).mono _).mono r, by rw [g6]; exact ((hcov.D.mono _).mono _).mono r, g5, rfl⟩
          have hupd := Post_upd (σ' := ⟨σ.s, σ.D, (M' ++ F).set i (l, .loop { rec' with state := .exhausted })⟩) (s2 := s2) (ob2 := .gone) hcov3 g2.nodup hg (bs_mono hkl) a2 trivial hcov3.slots rfl rfl
          have hmark := Post_mark hupd (bs_mono hkd)
          have hcomp := Post.comp (r := r) g7 (fun W B hW hB => g8 W B hW hB) hmark
          have hcomp2 := Post.comp (r := [(l, 0, 0)]) (Hp := Hp.new .defer) (H1 := (Hp.new .defer).new (.loop ⟨s2, ps.toList, assign, body, pt, N⟩ .ready)) (M1 := (l, .loop rec) :: (d, .deferred (some [])) :: M) (fun _ h => h) (fun W B _ hB => hp2 W B hB) hcomp
          exact Post.comp (r := [(d, 0, 0)]) (Hp := Hp) (H1 := Hp.new .defer) (M1 := (d, .deferred (some [])) :: M) (fun _ h => h) (fun W B _ hB => hp1 W B hB) hcomp2
        unfold endX at hc
        split at hc
        · rename_i cl hg
          cases hc
          obtain ⟨w4, k1, σ3, k2, k3⟩ := fin .ready cl .normal none hg (fun r h => ⟨h.2, by rw [h.1]; simp⟩) rfl rfl
          exact ⟨none, w4, k1, σ3, k2, rfl, k3⟩
        · rename_i cl hg
          cases hc
          obtain ⟨w4, k1, σ3, k2, k3⟩ := fin (.done .ret) cl .ret (some .ret) hg (fun r h => ⟨h.2, by rw [h.1]; simp⟩) rfl rfl
          exact ⟨some .ret, w4, k1, WC_ret ⟨rfl, k3⟩ _ _ k2⟩
        · rename_i cl id hg
          cases hc
          obtain ⟨w4, k1, σ3, k2, k3⟩ := fin (.done (.exit id)) cl (.exit id) (some (.exit id)) hg (fun r h => ⟨h.2, by rw [h.1]; simp⟩) rfl rfl
          exact ⟨some (.exit id), w4, k1, WC_exit ⟨rfl, k3⟩ _ _ k2⟩
        · cases hc
    · cases hc
  · cases hc
theorem deferX_ext {s : S} {Hp : H} {l : List Oper} {e : EX} {s2 : S} {H2 : H} (h : deferX top s Hp l = some (e, s2, H2)) : Ext Hp H2 := by
  unfold deferX at h
  split at h
  · split at h
    · split at h
      · split at h
        · cases h; exact (Ext.refl Hp).ds
        · cases h
      · cases h
    · cases h
  · cases h
theorem deferL_ext {P : Program} {call : CallF} (hcall : CallOk P call) {ops : List Oper} {top : Bool} : ∀ {l : List Oper} {s : S} {Hp : H} {e : EX} {s2 : S} {H2 : H}, deferL P call ops top l s Hp = some (e, s2, H2) → Ext Hp H2
  | [], _, _, _, _, _, h => by cases h
  | o :: r, s, Hp, e, s2, H2, h => by
    simp only [deferL] at h
    split at h
    · rename_i x hx; cases h; exact deferX_ext hx
    · split at h
      · split at h
        · rename_i h1; exact (opX_ext hcall h1).trans (deferL_ext hcall h)
        · cases h
      · exact deferL_ext hcall h
      · cases h
theorem regionX_ext {P : Program} (hcall : CallOk P call) {id : Nat} {ops : List Oper} {draw : Bool} {s : S} {Hp : H} {e : EX} {s2 : S} {H2 : H} (h : regionX P call pt top id ops draw s Hp = some (e, s2, H2)) : Ext Hp H2 := by
  unfold regionX at h
  split at h
  · split at h
    · rename_i h1; cases h; exact opsX_ext hcall h1
    · rename_i h1; cases h; exact opsX_ext hcall h1
    · cases h
    · exact deferL_ext hcall h
  · split at h
    · split at h
      · rename_i h1
        split at h
        · cases h; exact (drawX_ext hcall h1).1.app
        · cases h
      · rename_i h1
        split at h
        · cases h; exact (drawX_ext hcall h1).1.app
        · cases h
      · cases h
    · cases h
theorem loopX_ext {f : S → H → CX} (hf : ∀ {s Hp e s2 H2}, f s Hp = some (e, s2, H2) → Ext Hp H2) : ∀ {n : Nat} {s : S} {Hp : H} {e : EX} {s2 : S} {H2 : H}, loopX f n s Hp = some (e, s2, H2) → Ext Hp H2
  | 0, _, _, _, _, _, h => by cases h
  | n + 1, s, Hp, e, s2, H2, h => by
    simp only [loopX] at h
    split at h
    · rename_i h1; exact (hf h1).trans (loopX_ext hf h)
    · exact hf h
theorem rangeX_ext {P : Program} (hcall : CallOk P call) {N : Nat} {ps : List Nat} {assign body : Code} {s : S} {Hp : H} {v : Option V} {e : EX} {s2 : S} {H2 : H} (h : rangeX call pt N ps assign body s Hp v = some (e, s2, H2)) : Ext Hp H2 := by
  unfold rangeX at h
  split at h
  · split at h
    · rename_i h1
      have h2 := ((Ext.new Hp .defer).trans (Ext.new _ _)).trans (hcall.fx _ _ _ _ _ h1)
      unfold endX at h
      split at h
      · cases h; exact (h2.trans (Ext.upd _ (Nat.succ Hp.n) .gone)).ds
      · cases h; exact (h2.trans (Ext.upd _ (Nat.succ Hp.n) .gone)).ds
      · cases h; exact (h2.trans (Ext.upd _ (Nat.succ Hp.n) .gone)).ds
      · cases h
    · cases h
  · cases h
theorem codeX_ext {P : Program} (hcall : CallOk P call) {N : Nat} : ∀ (code : Code) {s : S} {Hp : H} {e : EX} {s2 : S} {H2 : H}, codeX P call pt lf top N code s Hp = some (e, s2, H2) → Ext Hp H2 := by
  intro code
  induction code with
  | skip => intro s Hp e s2 H2 h; cases h; exact .refl _
  | ret => intro s Hp e s2 H2 h; cases h; exact .refl _
  | exit id => intro s Hp e s2 H2 h; cases h; exact .refl _
  | seq a b iha ihb =>
    intro s Hp e s2 H2 h
    simp only [codeX] at h
    split at h
    · rename_i h1; exact (iha h1).trans (ihb h)
    · exact iha h
  | cond x a b iha ihb =>
    intro s Hp e s2 H2 h
    simp only [codeX] at h
    split at h
    · exact iha h
    · exact ihb h
    · cases h
  | block id a ih =>
    intro s Hp e s2 H2 h
    simp only [codeX] at h
    split at h
    · rename_i h1
      split at h
      · cases h; exact ih h1
      · cases h; exact ih h1
    · exact ih h
  | loop a ih =>
    intro s Hp e s2 H2 h
    simp only [codeX] at h
    exact loopX_ext ih h
  | rangeFunc x ps assign body =>
    intro s Hp e s2 H2 h
    simp only [codeX] at h
    split at h
    · exact rangeX_ext hcall h
    · cases h
  | region id ops draw =>
    intro s Hp e s2 H2 h
    exact regionX_ext hcall h
  | _ => intro s Hp e s2 H2 h; cases h
theorem codeX_ok (hcall : CallOk c.P call) (hmix : c.P.follows .mixedOrders = true) (htop : top = true → c.r = none) : ∀ (code : Code) {bs : Bs} {s : S} {Hp : H} {M F : List (Nat × Obj)} {σ : St} {e : EX} {s2 : S} {H2 : H}, codeOk c.N pt code = true → Cov bs s Hp M F σ → codeX c.P call pt lf top c.N code s Hp = some (e, s2, H2) → WC c code (DoneK bs Hp M F e s2 H2) σ := by
  intro code
  induction code with
  | skip =>
    intro bs s Hp M F σ e s2 H2 _ hcov hc
    cases hc
    exact WC_skip ⟨rfl, Post.self hcov.D hcov.L hcov.slots hcov.mem⟩
  | ret =>
    intro bs s Hp M F σ e s2 H2 _ hcov hc
    cases hc
    exact WC_ret ⟨rfl, Post.self hcov.D hcov.L hcov.slots hcov.mem⟩
  | exit id =>
    intro bs s Hp M F σ e s2 H2 _ hcov hc
    cases hc
    exact WC_exit ⟨rfl, Post.self hcov.D hcov.L hcov.slots hcov.mem⟩
  | seq a b iha ihb =>
    intro bs s Hp M F σ e s2 H2 hok hcov hc
    simp only [codeOk] at hok
    split at hok
    · rename_i hok1
      simp only [codeX] at hc
      split at hc
      · rename_i s1 H1 h1
        refine WC_seq ((iha hok1 hcov h1).mono fun e' σ1 hd => ?_)
        obtain ⟨rfl, hp1⟩ := hd
        obtain ⟨r1, M1, hcov1, hl1, hp1, _⟩ := hp1.split
        exact (ihb hok hcov1 hc).mono fun e2 σ2 h2 => DoneK.comp hl1 hp1 h2
      · rename_i hne
        refine WC_seq ((iha hok1 hcov hc).mono fun e' σ1 hd => ?_)
        cases e with
        | normal => exact absurd hc (hne _ _)
        | ret => obtain ⟨rfl, hp1⟩ := hd; exact ⟨rfl, hp1⟩
        | exit id => obtain ⟨rfl, hp1⟩ := hd; exact ⟨rfl, hp1⟩
        | panic v => obtain ⟨v', rfl, hp1⟩ := hd; exact ⟨v', rfl, hp1⟩
    · cases hok
  | cond x a b iha ihb =>
    intro bs s Hp M F σ e s2 H2 hok hcov hc
    simp only [codeOk] at hok
    split at hok
    · rename_i hok1
      simp only [codeX] at hc
      split at hc
      · rename_i hx
        obtain ⟨_, h1, h2⟩ := evX_ok hcov.slots hx; cases h2
        exact WC_cond_true h1 (iha hok1 hcov hc)
      · rename_i hx
        obtain ⟨_, h1, h2⟩ := evX_ok hcov.slots hx; cases h2
        exact WC_cond_false h1 (ihb hok hcov hc)
      · cases hc
    · cases hok
  | block id a ih =>
    intro bs s Hp M F σ e s2 H2 hok hcov hc
    simp only [codeX] at hc
    split at hc
    · rename_i id' s1 H1 h1
      refine WC_block ((ih hok hcov h1).mono fun e' σ1 hd => ?_)
      obtain ⟨rfl, hp1⟩ := hd
      split at hc
      · rename_i hb
        cases hc
        show blockK id _ (.exit id') σ1
        simp only [blockK, hb]
        exact ⟨rfl, hp1⟩
      · rename_i hb
        cases hc
        show blockK id _ (.exit id') σ1
        simp only [blockK, hb]
        exact ⟨rfl, hp1⟩
    · rename_i hne
      refine WC_block ((ih hok hcov hc).mono fun e' σ1 hd => ?_)
      cases e with
      | normal => obtain ⟨rfl, hp1⟩ := hd; exact ⟨rfl, hp1⟩
      | ret => obtain ⟨rfl, hp1⟩ := hd; exact ⟨rfl, hp1⟩
      | exit id => exact absurd hc (hne _ _ _)
      | panic v => obtain ⟨v', rfl, hp1⟩ := hd; exact ⟨v', rfl, hp1⟩
  | loop a ih =>
    intro bs s Hp M F σ e s2 H2 hok hcov hc
    simp only [codeX] at hc
    refine WC_loopX (fun m σ' => ∃ r s' H' M', loopX (codeX c.P call pt lf top c.N a) m s' H' = some (e, s2, H2) ∧ Cov (bs ++ r) s' H' M' F σ' ∧ ∀ {e' σ2}, DoneK (bs ++ r) H' M' F e s2 H2 e' σ2 → DoneK bs Hp M F e s2 H2 e' σ2) lf ⟨[], s, Hp, M, hc, by simpa using hcov, fun h => by simpa using h⟩ ?_
    rintro m σ1 ⟨r, s', H', M', h1, hcov1, hcomp⟩
    cases m with
    | zero => cases h1
    | succ m =>
      simp only [loopX] at h1
      split at h1
      · rename_i s3 H3 h3
        refine (ih hok hcov1 h3).mono fun e' σ3 hd => ?_
        obtain ⟨rfl, hp3⟩ := hd
        obtain ⟨r3, M3, hcov3, hl3, hq3, _⟩ := hp3.split
        exact ⟨m, Nat.lt_succ_self m, r ++ r3, s3, H3, M3, h1, by rw [← List.append_assoc]; exact hcov3, fun hq => hcomp (DoneK.comp hl3 hq3 (by rw [List.append_assoc]; exact hq))⟩
      · rename_i hne
        refine (ih hok hcov1 h1).mono fun e' σ3 hd => ?_
        have hd' := hcomp hd
        cases e with
        | normal => exact absurd h1 (hne _ _)
        | ret => obtain ⟨rfl, hp3⟩ := hd'; exact ⟨rfl, hp3⟩
        | exit id => obtain ⟨rfl, hp3⟩ := hd'; exact ⟨rfl, hp3⟩
        | panic v => obtain ⟨v', rfl, hp3⟩ := hd'; exact ⟨v', rfl, hp3⟩
  | rangeFunc x ps assign body =>
    intro bs s Hp M F σ e s2 H2 _ hcov hc
    simp only [codeX] at hc
    split at hc
    · exact rangeX_ok hcall (htop rfl) hcov hc
    · cases hc
  | region id ops draw =>
    intro bs s Hp M F σ e s2 H2 hok hcov hc
    exact regionX_ok hcall hmix htop hok hcov hc
  | _ => intro bs s Hp M F σ e s2 H2 _ _ hc; cases hc
end
end
end Go.Proofs.YtakedlockchpcaaGreatDoor
namespace Go.Proofs.YtakedlockchpcaaGreatDoor
open Go.RowKit
noncomputable section
attribute [local irreducible] T.put T.set opX opP calmX effX callX appendX
structure XF where
  fn : Func
  code : Code
  pt : T (Nat × Plan)
  mask : Nat
def resX (P : Program) (s : S) (h : T O) : List ResultVar → Option (List V)
  | [] => some []
  | .tmp t :: r => match s.get t, resX P s h r with
    | some v, some l => some (v :: l)
    | _, _ => none
  | .cell a t :: r => match loadX P h t (s.get a), resX P s h r with
    | some (v, _), some l => some (v :: l)
    | _, _ => none
def leaveX (call : CallF) : List DI → Option V → H → Option (Option V × H)
  | [], m, Hp => some (m, Hp)
  | .mark k :: r, m, Hp => match Hp.h.get k with
    | some .defer => leaveX call r m (Hp.upd k .gone)
    | _ => none
  | .call f A B :: r, m, Hp => match call.d f (A ++ B) m Hp with
    | some (m2, H2) => leaveX call r m2 H2
    | none => none
inductive FR where
  | ret (v : V)
  | pan (v : V)
def retX (P : Program) (x : XF) (ds0 : List DI) (s2 : S) (H3 : H) : Option V → Option (FR × H)
  | none => match resX P s2 H3.h x.fn.results.toList with
    | some [v] => some (.ret v, ⟨H3.h, H3.n, H3.log, ds0⟩)
    | some l => some (.ret (.tup l), ⟨H3.h, H3.n, H3.log, ds0⟩)
    | none => none
  | some v => some (.pan v, ⟨H3.h, H3.n, H3.log, ds0⟩)
def goneX (P : Program) (call : CallF) (x : XF) (ds0 : List DI) (s2 : S) (H2 : H) (m : Option V) : Option (FR × H) := match leaveX call H2.ds m H2 with
  | some (m2, H3) => retX P x ds0 s2 H3 m2
  | none => none
def endF (P : Program) (call : CallF) (x : XF) (ds0 : List DI) : CX → Option (FR × H)
  | some (.normal, s2, H2) => goneX P call x ds0 s2 H2 none
  | some (.ret, s2, H2) => goneX P call x ds0 s2 H2 none
  | some (.panic v, s2, H2) => goneX P call x ds0 s2 H2 (some v)
  | _ => none
def runF (P : Program) (tab : T XF) (lf : Nat) (call : CallF) (f : FuncId) (vs : List V) (Hp : H) : Option (FR × H) := match tab.get f with
  | some x => match Nat.ble vs.length x.fn.ntmps with
    | true => endF P call x Hp.ds (codeX P call x.pt lf true x.fn.ntmps x.code (S.ofArgs vs x.mask) ⟨Hp.h, Hp.n, Hp.log, []⟩)
    | false => none
  | none => none
def recOf : Code → Option (Option Nat × List Oper × Code)
  | .seq (.region _ ops false) rest => match ops.toList with
    | o :: more => match o.op, o.guard with
      | .call cl, none => match cl.callee with
        | .builtin .recover => some (o.dst, more, rest)
        | _ => none
      | _, _ => none
    | _ => none
  | _ => none
def calmL (P : Program) (h : T O) : List Oper → S → Option S
  | [], s => some s
  | o :: r, s => match o.guard, calmX P s h o.op with
    | none, some (v, _) => calmL P h r (putD s o.dst v)
    | _, _ => none
def recV : Option V → V
  | none => .nili
  | some v => v
def doneD (P : Program) (x : XF) (ds0 : List DI) (m : Option V) (s2 : S) (H2 : H) : Option (Option V × H) := match H2.ds, resX P s2 H2.h x.fn.results.toList with
  | [], some _ => some (m, ⟨H2.h, H2.n, H2.log, ds0⟩)
  | _, _ => none
def endD (P : Program) (x : XF) (ds0 : List DI) (m : Option V) : CX → Option (Option V × H)
  | some (.normal, s2, H2) => doneD P x ds0 m s2 H2
  | some (.ret, s2, H2) => doneD P x ds0 m s2 H2
  | _ => none
def defF (P : Program) (tab : T XF) (lf : Nat) (call : CallF) (f : FuncId) (vs : List V) (m : Option V) (Hp : H) : Option (Option V × H) := match tab.get f with
  | some x => match Nat.ble vs.length x.fn.ntmps with
    | true => match recOf x.code with
      | some (d, more, rest) => match calmL P Hp.h more (putD (S.ofArgs vs x.mask) d (recV m)) with
        | some s => endD P x Hp.ds none (codeX P call x.pt lf true x.fn.ntmps rest s ⟨Hp.h, Hp.n, Hp.log, []⟩)
        | none => none
      | none => endD P x Hp.ds m (codeX P call x.pt lf true x.fn.ntmps x.code (S.ofArgs vs x.mask) ⟨Hp.h, Hp.n, Hp.log, []⟩)
    | false => none
  | none => none
def zipX : List Nat → List V → S → S
  | p :: ps, v :: vs, s => zipX ps vs (s.set p v)
  | _, _, s => s
def roundX (k : Nat) (ds0 : List DI) (e : EX) (H4 : H) : Option (V × H) := match H4.h.get k with
  | some (.loop cl .busy) => match e with
    | .normal => some (.bool true, ⟨H4.h.set k (.loop cl .ready), H4.n, k :: H4.log, ds0⟩)
    | .ret => some (.bool false, ⟨H4.h.set k (.loop cl (.done .ret)), H4.n, k :: H4.log, ds0⟩)
    | .exit id => some (.bool false, ⟨H4.h.set k (.loop cl (.done (.exit id))), H4.n, k :: H4.log, ds0⟩)
    | .panic _ => none
  | _ => none
def yieldX (P : Program) (call : CallF) (lf : Nat) (k : Nat) (vs : List V) (Hp : H) : Option (V × H) := match Hp.h.get k with
  | some (.loop cl .ready) => match Nat.beq vs.length cl.ps.length, psOk cl.N cl.ps, codeOk cl.N cl.pt cl.assign, codeOk cl.N cl.pt cl.body with
    | true, true, true, true => match codeX P call cl.pt lf false cl.N cl.assign (zipX cl.ps vs cl.s) ⟨Hp.h, Hp.n, Hp.log, []⟩ with
      | some (.normal, s2, H2) => match H2.h.get k with
        | some (.loop cl2 .ready) => match codeX P call cl.pt lf false cl.N cl.body s2 (H2.upd k (.loop cl2 .busy)) with
          | some (e, _, H4) => roundX k Hp.ds e H4
          | none => none
        | _ => none
      | _ => none
    | _, _, _, _ => none
  | _ => none
def retO : Option (FR × H) → Option (V × H)
  | some (.ret v, H2) => some (v, H2)
  | _ => none
def panO : Option (FR × H) → Option (V × H)
  | some (.pan v, H2) => some (v, H2)
  | _ => none
abbrev PrimF := FuncId → List V → H → Option (V × H)
def primO (a : Option (V × H)) (b : Option (V × H)) : Option (V × H) := match a with
  | some r => some r
  | none => b
structure PrimOk (P : Program) (pr : PrimF) : Prop where
  x : ∀ f vs Hp v H2, pr f vs Hp = some (v, H2) → Ext Hp H2
  c : ∀ f vs Hp v H2, pr f vs Hp = some (v, H2) → FCall P f
  n : ∀ f vs Hp v H2, pr f vs Hp = some (v, H2) → ∀ bs M F vs', HCov bs Hp M → RVs bs vs vs' → Fn P f vs' (M ++ F) (FPost bs Hp M F v H2)
def funX (P : Program) (tab : T XF) (lf : Nat) (pr : PrimF) : Nat → CallF
  | 0 => ⟨fun _ _ _ => none, fun _ _ _ => none, fun _ _ _ => none, fun _ _ _ _ => none⟩
  | n + 1 => ⟨fun f vs Hp => primO (pr f vs Hp) (retO (runF P tab lf (funX P tab lf pr n) f vs Hp)), fun k vs Hp => yieldX P (funX P tab lf pr n) lf k vs Hp,
    fun f vs Hp => panO (runF P tab lf (funX P tab lf pr n) f vs Hp), fun f vs m Hp => defF P tab lf (funX P tab lf pr n) f vs m Hp⟩
structure GoodF (P : Program) (f : FuncId) (x : XF) : Prop where
  fn : P.funcs[f]? = some x.fn
  body : x.fn.body = some x.code
  call : FCall P f
  ok : codeOk x.fn.ntmps x.pt x.code = true
def GoodL (P : Program) : List (Nat × XF) → Prop
  | [] => True
  | p :: r => GoodF P p.1 p.2 ∧ GoodL P r
theorem GoodL.mem {P : Program} : ∀ {l : List (Nat × XF)}, GoodL P l → ∀ p ∈ l, GoodF P p.1 p.2
  | [], _, _, h => by cases h
  | _ :: _, ⟨h1, h2⟩, p, hp => by
    rcases List.mem_cons.1 hp with rfl | hp
    · exact h1
    · exact GoodL.mem h2 p hp
theorem loadX_run {c : Cx} {bs : Bs} {s : S} {Hp : H} {M F : List (Nat × Obj)} {σ : St} {a t : Nat} {v : V} {rd : Option Nat} (hcov : Cov bs s Hp M F σ) (h : loadX c.P Hp.h t (s.get a) = some (v, rd)) : ∃ v', RV bs v v' ∧ resV c σ v' (.cell a t) := by
  generalize hx : s.get a = e at h
  unfold loadX at h
  split at h
  · rename_i k off
    obtain ⟨p, hp, hr⟩ := hcov.slots a _ hx
    obtain ⟨b, base, av, rfl, hk⟩ := hr.ptr_inv
    split at h
    · rename_i cc hb
      obtain ⟨ob, hob, hrd⟩ := rdX_ok (bs := bs) (base := base) (av := av) hb
      obtain ⟨b', base', av', i, o', a1, a2, aRO⟩ := hcov.mem.at_ k _ hob
      rw [hk] at a1; cases a1
      obtain ⟨cs, E, fr, rfl, a3, a4⟩ := hrd aRO
      have hi : σ.L[i]? = some (b, .cells cs E fr) := by
        rw [hcov.L, List.getElem?_append_left (List.getElem?_eq_some_iff.1 a2).1]; exact a2
      split at h
      · rename_i ha
        split at h
        · rename_i u hu
          cases h
          obtain ⟨_, v', a5, a6⟩ := a4 off _ hu
          refine ⟨v', a6, fun ac w hH => ?_⟩
          have hp' := hH.slots a _ hp
          have hcell : w.cell? ⟨b, base + off, none⟩ = some v' := by rw [cell_of_row w b (base + off) cs E fr (hH.mem.at_ hi)]; exact a5
          rw [Array.getD_eq_getD_getElem?] at hp'
          simp [resSem, hp', asAddr, loadVar, (aggX_ok ha).h, hcell]
        · cases h
      · rename_i ha
        split at h
        · rename_i n hn
          split at h
          · rename_i l hl
            cases h
            obtain ⟨l', e1, e2, e3, e4⟩ := cellsX_ok a4 (n + 1) off l hl
            refine ⟨_, .agg e1, fun ac w hH => ?_⟩
            have hp' := hH.slots a _ hp
            have hload := run_loadCells_list (P := c.P) w ⟨b, base + off, none⟩ l' (fun j v hv => by
              have hj := (List.getElem?_eq_some_iff.1 hv).1
              rw [Addr.add_mid, cell_of_row w b (base + off + j) cs E fr (hH.mem.at_ hi), e3 j (by omega)]; exact hv)
            rw [e2] at hload
            rw [Array.getD_eq_getD_getElem?] at hp'
            simp [resSem, hp', asAddr, loadVar, (aggX_ok ha).h, (sizeX_ok hn).h, hload]
          · cases h
        · cases h
      · cases h
    · cases h
  · cases h
theorem resX_ok {c : Cx} {bs : Bs} {s : S} {Hp : H} {M F : List (Nat × Obj)} {σ : St} (hcov : Cov bs s Hp M F σ) : ∀ {rs : List ResultVar} {l : List V}, resX c.P s Hp.h rs = some l → ∃ l', RVs bs l l' ∧ ∀ a w, Holds c.g c.N σ a w → (rs.mapM (resSem a.tmps)).run c.P w = .ok l' w
  | [], l, h => by cases h; exact ⟨[], .nil, fun a w _ => by simp⟩
  | .tmp t :: r, l, h => by
    simp only [resX] at h
    split at h
    · rename_i v l h1 h2
      cases h
      obtain ⟨v', h3, h4⟩ := hcov.slots t v h1
      obtain ⟨l', h5, h6⟩ := resX_ok hcov h2
      refine ⟨v' :: l', .cons h4 h5, fun a w ha => ?_⟩
      have := resV_tmp (c := c) h3 a w ha
      simp [List.mapM_cons, this, h6 a w ha]
    · cases h
  | .cell p t :: r, l, h => by
    simp only [resX] at h
    split at h
    · rename_i v rd l h1 h2
      cases h
      obtain ⟨v', h4, h3⟩ := loadX_run (c := c) hcov h1
      obtain ⟨l', h5, h6⟩ := resX_ok hcov h2
      refine ⟨v' :: l', .cons h4 h5, fun a w ha => ?_⟩
      have := h3 a w ha
      simp [List.mapM_cons, this, h6 a w ha]
    · cases h
theorem covS_row {bs : Bs} {vs : List V} {vs' : List Value} {m : Nat} (h : RVs bs vs vs') : CovS bs (S.ofArgs vs m) (initS 0 vs') := by
  have look_init : ∀ (l : List Value) (k t : Nat) (v : Value), k ≤ t → l[t - k]? = some v → look (initS k l) t = some v := by
    intro l
    induction l with
    | nil => intro k t v _ h; simp at h
    | cons u r ih =>
      intro k t v hk h
      rw [initS, look_cons]
      by_cases e : k = t
      · subst e; simp at h; rw [if_pos rfl, h]
      · rw [if_neg e]
        refine ih (k + 1) t v (by omega) ?_
        rw [show t - k = (t - (k + 1)) + 1 by omega] at h
        simpa using h
  intro t v hv
  obtain ⟨v', h3, h4⟩ := h.get (S.get_args hv)
  exact ⟨v', look_init vs' 0 t v' (Nat.zero_le _) (by simpa using h3), h4⟩
theorem setL_some : ∀ {L : List (Nat × Obj)} {i : Nat} {q : Nat × Obj} (p : Nat × Obj), L[i]? = some q → setL L i p = some (L.set i p)
  | [], i, q, p, h => by simp at h
  | x :: r, 0, q, p, h => rfl
  | x :: r, i + 1, q, p, h => by
    simp only [List.getElem?_cons_succ] at h
    simp [setL, setL_some p h]
theorem WC_nodup {c : Cx} {code : Code} {K : Exit → St → Prop} {σ : St} (h : WC c code (fun e σ' => (σ'.L.map Prod.fst).Nodup → K e σ') σ) : WC c code K σ := fun a w ha =>
  Go.wpIn_mono (h a w ha) fun e a' w' hl => by
    obtain ⟨σ', h1, h2⟩ := hl; exact ⟨σ', h1, h2 h1.mem.nodup⟩
theorem FnD_nodup {P : Program} {f : FuncId} {args : List Value} {L : List (Nat × Obj)} {u : FrameMode} {R : FrameMode → List (Nat × Obj) → Prop} (h : FnD P f args L u fun u' L' => (L'.map Prod.fst).Nodup → R u' L') : FnD P f args L u R := fun g w n hm =>
  (h g w n hm).mono fun _ _ _ ⟨v, L', h1, h2, h3⟩ => ⟨v, L', h1, h2, h3 h2.nodup⟩
theorem FnD.mono {P : Program} {f : FuncId} {args : List Value} {L : List (Nat × Obj)} {u : FrameMode} {R R' : FrameMode → List (Nat × Obj) → Prop} (h : FnD P f args L u R) (hr : ∀ u' L', R u' L' → R' u' L') : FnD P f args L u R' := fun g w n hm =>
  (CallsDIn.mono (h g w n hm) fun _ u' _ ⟨v, L', h1, h2, h3⟩ => ⟨v, L', h1, h2, hr u' L' h3⟩)
theorem RM.mono {bs : Bs} (r : Bs) {m : Option V} {u : FrameMode} (h : RM bs m u) : RM (bs ++ r) m u := by
  cases m with
  | none => exact h
  | some v => obtain ⟨v', h1, h2⟩ := h; exact ⟨v', h1, h2.mono r⟩
theorem RM.ne {bs : Bs} {m : Option V} {u : FrameMode} (h : RM bs m u) : u ≠ .run := by
  cases m with
  | none => rw [show u = .returning from h]; simp
  | some v => obtain ⟨v', h1, h2⟩ := h; rw [h1]; simp
theorem leaveX_ok {c : Cx} {call : CallF} (hcall : CallOk c.P call) {fn : Func} {Rr Rp : Value → List (Nat × Obj) → Prop} : ∀ (ks : List DI) {bs : Bs} {s : S} {Hp H3 : H} {M F : List (Nat × Obj)} {σs : List (Nat × Value)} {D : List Deferred} {m m2 : Option V} {u : FrameMode}, CovS bs s σs → HCov bs Hp M → ((M ++ F).map Prod.fst).Nodup → RD bs ks D → RM bs m u → leaveX call ks m Hp = some (m2, H3) →
    (∀ r M' u', CovS (bs ++ r) s σs → HCov (bs ++ r) H3 M' → RM (bs ++ r) m2 u' → (∀ k ∈ Hp.log, k ∈ H3.log) → (∀ W B, (∀ k ∈ H3.log, k ∈ W) → Prot bs Hp M W B → Prot (bs ++ r) H3 M' W B) → LeavS c fn σs Rr Rp [] u' (M' ++ F)) → LeavS c fn σs Rr Rp D u (M ++ F)
  | [], bs, s, Hp, H3, M, F, σs, D, m, m2, u, hs, hm, hn, hD, hu, h, hk => by
    cases h; cases hD
    exact hk [] M u (by simpa using hs) (by simpa using hm) (by simpa using hu) (fun _ h => h) (fun _ _ _ h => by simpa using h)
  | .mark k :: ks, bs, s, Hp, H3, M, F, σs, D, m, m2, u, hs, hm, hn, ⟨b, x, y, D', e1, e2, e3⟩, hu, h, hk => by
    subst e2
    simp only [leaveX] at h
    split at h
    · rename_i hg
      obtain ⟨b', base, av, i, o', a1, a2, a3⟩ := hm.at_ k _ hg
      rw [e1] at a1; cases a1
      cases a3
      have hi : (M ++ F)[i]? = some (b, .deferred (some [])) := by
        rw [List.getElem?_append_left (List.getElem?_eq_some_iff.1 a2).1]; exact a2
      have hcov : Cov bs s ⟨Hp.h, Hp.n, Hp.log, []⟩ M F ⟨σs, [], M ++ F⟩ := ⟨hs, rfl, ⟨hm.n, hm.at_, hm.inj⟩, rfl⟩
      have hu2 := Post_upd (s2 := s) (σ' := ⟨σs, [], (M ++ F).set i (b, .deferred none)⟩) (ob2 := .gone) hcov hn hg e1 a2 trivial hs rfl rfl
      obtain ⟨r, M1, f1, f2, f3, f4, f5, f6⟩ := hu2
      have f4' : HCov (bs ++ r) (Hp.upd k .gone) M1 := ⟨f4.n, f4.at_, f4.inj⟩
      have f2' : (M ++ F).set i (b, .deferred none) = M1 ++ F := f2
      have hn2 : ((M1 ++ F).map Prod.fst).Nodup := by rw [← f2']; exact nodup_set hn hi _
      refine ⟨hu.ne, .inl ⟨b, i, M1 ++ F, rfl, hi, by rw [← f2']; exact setL_some _ hi, ?_⟩⟩
      refine leaveX_ok hcall ks f3 f4' hn2 (e3.mono r) (hu.mono r) h fun r2 M2 u2 g1 g2 g3 g4 g5 => ?_
      rw [List.append_assoc] at g1 g2 g3 g5
      refine hk (r ++ r2) M2 u2 g1 g2 g3 (fun k hk => g4 k (List.mem_cons_of_mem _ hk)) fun W B hW hB => ?_
      refine g5 W B hW ?_
      have := f6 W B (fun k hk => hW k (g4 k hk)) (by simpa [Prot] using hB)
      exact fun q hq => this q hq
    · cases h
  | .call f A B :: ks, bs, s, Hp, H3, M, F, σs, D, m, m2, u, hs, hm, hn, ⟨A', B', D', e1, e2, e3, e4⟩, hu, h, hk => by
    subst e3
    simp only [leaveX] at h
    split at h
    · rename_i m3 H4 hd
      have hfc := hcall.dc _ _ _ _ _ _ hd
      have hD := hcall.dn _ _ _ _ _ _ hd bs M F (A' ++ B') u hm (e1.append e2) hu
      refine ⟨hu.ne, .inr ⟨f, A'.toArray, B'.toArray, rfl, hfc, FnD_nodup (FnD.mono (by simpa using hD) ?_)⟩⟩
      rintro u' L' ⟨r, M1, rfl, f2, f3, f4, f5, f6⟩ hn2
      refine leaveX_ok hcall ks (hs.mono r) f3 hn2 (e4.mono r) f2 h fun r2 M2 u2 g1 g2 g3 g4 g5 => ?_
      rw [List.append_assoc] at g1 g2 g3 g5
      exact hk (r ++ r2) M2 u2 g1 g2 g3 (fun k hk => g4 k (f5 k hk)) fun W B hW hB => g5 W B hW (f6 W B (fun k hk => hW k (g4 k hk)) hB)
    · cases h
theorem covS_zip {bs : Bs} : ∀ {ps : List Nat} {vs : List V} {vs' : List Value} {s : S} {σs : List (Nat × Value)}, CovS bs s σs → RVs bs vs vs' → CovS bs (zipX ps vs s) (zipS ps vs' σs)
  | [], _, _, _, _, h, _ => by simpa [zipX, zipS] using h
  | _ :: _, [], _, _, _, h, hv => by cases hv; simpa [zipX, zipS] using h
  | p :: ps, v :: vs, _, s, σs, h, .cons h1 h2 => by
    simp only [zipX, zipS]
    exact covS_zip (h.put h1) h2
theorem roundX_ok {bs : Bs} {k : Nat} {ds0 : List DI} {e : EX} {H4 H5 : H} {v : V} {M F : List (Nat × Obj)} {g w : World} {l x y : Nat} {P : Program} (hk : bs[k]? = some (l, x, y)) (hm : HCov bs H4 M) (hmem : Mem g (M ++ F) w) (h : roundX k ds0 e H4 = some (v, H5)) :
    ∃ jump, (e = .normal ∧ jump = none ∨ e = .ret ∧ jump = some .ret ∨ ∃ id, e = .exit id ∧ jump = some (.exit id)) ∧ ∃ w6, (Instr.endRound l jump).run P w = .ok (.bool jump.isNone) w6 ∧ ∃ L', Mem g L' w6 ∧ FPost bs ⟨H4.h, H4.n, H4.log, ds0⟩ M F v H5 (.bool jump.isNone) L' := by
  unfold roundX at h
  split at h
  · rename_i cl hg
    obtain ⟨l', x1, x2, i, o', a1, a2, rec, σs, rfl, a3, a4, a5, a6, a7, a8, a9⟩ := hm.at_ _ _ hg
    rw [hk] at a1; cases a1
    have hi : (M ++ F)[i]? = some (l, .loop rec) := by rw [List.getElem?_append_left (List.getElem?_eq_some_iff.1 a2).1]; exact a2
    have main : ∀ (jump : Option Code) (st : LSt), (∀ r : Loop, r.state = (if jump.isNone then .ready else .done) → r.pending = jump → st.fits r) →
        ∃ w6, (Instr.endRound l jump).run P w = .ok (.bool jump.isNone) w6 ∧ ∃ L', Mem g L' w6 ∧ FPost bs ⟨H4.h, H4.n, H4.log, ds0⟩ M F (.bool jump.isNone) ⟨H4.h.set k (.loop cl st), H4.n, k :: H4.log, ds0⟩ (.bool jump.isNone) L' := by
      intro jump st hst
      have h1 := run_endRound (P := P) jump (hmem.at_ hi)
      have h2 := hmem.putObj hi (.loop { rec with state := if jump.isNone then .ready else .done, pending := jump })
      refine ⟨_, h1, _, h2, ?_⟩
      have hcov : Cov bs ⟨[], [], 0⟩ ⟨H4.h, H4.n, H4.log, []⟩ M F ⟨[], [], M ++ F⟩ := ⟨covS_none, rfl, ⟨hm.n, hm.at_, hm.inj⟩, rfl⟩
      have hu := Post_upd (s2 := ⟨[], [], 0⟩) (σ' := ⟨[], [], (M ++ F).set i (l, .loop { rec with state := if jump.isNone then .ready else .done, pending := jump })⟩) (ob2 := .loop cl st) hcov hmem.nodup hg hk a2 ⟨{ rec with state := if jump.isNone then .ready else .done, pending := jump }, σs, rfl, a3, a4, a5, a6, a7, a8, hst _ rfl rfl⟩ covS_none rfl rfl
      obtain ⟨r, M1, f1, f2, f3, f4, f5, f6⟩ := hu
      refine ⟨r, M1, f2, .bool _, ⟨f4.n, f4.at_, f4.inj⟩, rfl, f5, fun W B hW hB => ?_⟩
      have := f6 W B hW (by simpa [Prot] using hB)
      exact fun q hq => this q hq
    split at h
    · cases h
      obtain ⟨w6, h1, h2⟩ := main none .ready (fun r h1 h2 => ⟨h1, h2⟩)
      exact ⟨none, .inl ⟨rfl, rfl⟩, w6, h1, h2⟩
    · cases h
      obtain ⟨w6, h1, h2⟩ := main (some .ret) (.done .ret) (fun r h1 h2 => ⟨h1, h2⟩)
      exact ⟨some .ret, .inr (.inl ⟨rfl, rfl⟩), w6, h1, h2⟩
    · rename_i id
      cases h
      obtain ⟨w6, h1, h2⟩ := main (some (.exit id)) (.done (.exit id)) (fun r h1 h2 => ⟨h1, h2⟩)
      exact ⟨some (.exit id), .inr (.inr ⟨id, rfl, rfl⟩), w6, h1, h2⟩
    · cases h
  · cases h
theorem FPost.comp {bs r : Bs} {Hp H1 : H} {M M1 F : List (Nat × Obj)} {v : V} {H2 : H} {v' : Value} {L' : List (Nat × Obj)} (hl : ∀ k ∈ Hp.log, k ∈ H1.log) (hp : ∀ W B, (∀ k ∈ H1.log, k ∈ W) → Prot bs Hp M W B → Prot (bs ++ r) H1 M1 W B) (hd : H1.ds = Hp.ds) (h : FPost (bs ++ r) H1 M1 F v H2 v' L') : FPost bs Hp M F v H2 v' L' := by
  obtain ⟨r2, M2, f1, f2, f3, fd, f5, f6⟩ := h
  exact ⟨r ++ r2, M2, f1, by rw [← List.append_assoc]; exact f2, by rw [← List.append_assoc]; exact f3, fd.trans hd, fun k hk => f5 k (hl k hk), fun W B hW hB => by
    rw [← List.append_assoc]; exact f6 W B hW (hp W B (fun k hk => hW k (f5 k hk)) hB)⟩
theorem yieldX_ok {P : Program} {call : CallF} {lf : Nat} (hcall : CallOk P call) (hmix : P.follows .mixedOrders = true) {k : Nat} {vs : List V} {Hp : H} {v : V} {H2 : H} (h : yieldX P call lf k vs Hp = some (v, H2)) {bs : Bs} {M F : List (Nat × Obj)} {vs' : List Value} {l x y : Nat} (hm : HCov bs Hp M) (hk : bs[k]? = some (l, x, y)) (hvs : RVs bs vs vs') : YieldFn P l vs' (M ++ F) (FPost bs Hp M F v H2) := by
  unfold yieldX at h
  split at h
  · rename_i cl hg
    split at h
    · rename_i c1 c2 c3 c4
      split at h
      · rename_i s2 H3 hcode
        split at h
        · rename_i cl2 hg2
          split at h
          · rename_i e s4 H4 hcode2
            intro g w n hmem
            obtain ⟨l', x1, x2, i, o', a1, a2, rec, σs, rfl, a3, a4, a5, a6, a7, a8, a9⟩ := hm.at_ _ _ hg
            rw [hk] at a1; cases a1
            have hi : (M ++ F)[i]? = some (l, .loop rec) := by rw [List.getElem?_append_left (List.getElem?_eq_some_iff.1 a2).1]; exact a2
            have hlen := Nat.eq_of_beq_eq_true c1
            have hvl := hvs.length
            have hy := run_yield (P := P) (w := w) (args := vs'.toArray) (hmem.at_ hi) (by rw [a3]; simp; omega)
            refine ⟨rec.fn, _, rec.assign, rec.body, hy, roundIn_of_wpIn trivial ?_⟩
            have hz := holds_zip (g := g) (w := w) (N := cl.N) (D := []) (L := M ++ F) cl.ps vs' σs { tmps := rec.tmps, defers := [] } (psOk_ok c2) ⟨a6, a8, rfl, hmem⟩
            have e2 : (cl.ps.zip vs').foldl (fun t (q : Nat × Value) => t.setIfInBounds q.1 q.2) rec.tmps = (rec.params.zip vs'.toArray).foldl (fun tmps (q : Nat × Value) => tmps.setIfInBounds q.1 q.2) rec.tmps := by
              rw [a3, ← Array.foldl_toList, Array.toList_zip]
            simp only [e2] at hz
            rw [a4, a5]
            have hcov0 : Cov bs (zipX cl.ps vs cl.s) ⟨Hp.h, Hp.n, Hp.log, []⟩ M F ⟨zipS cl.ps vs' σs, [], M ++ F⟩ := ⟨covS_zip a7 hvs, rfl, ⟨hm.n, hm.at_, hm.inj⟩, rfl⟩
            have hwp := codeX_ok (c := ⟨P, g, cl.N, n, some l⟩) hcall hmix (fun h => by cases h) cl.assign c3 hcov0 hcode
            refine Go.wpIn_mono (hwp _ w hz) (fun e' a10 w3 hl3 => ?_)
            cases e' with
            | panic ch => obtain ⟨_, _, h, _⟩ := hl3; cases h
            | ret => obtain ⟨_, _, h, _⟩ := hl3; cases h
            | exit id => obtain ⟨_, _, h, _⟩ := hl3; cases h
            | goto t => obtain ⟨_, _, h, _⟩ := hl3; cases h
            | outgrown => obtain ⟨_, _, h, _⟩ := hl3; cases h
            | normal =>
              obtain ⟨σ', hH, _, hpost⟩ := hl3
              obtain ⟨r1, M1, hcov1, hlog1, hprot1, _⟩ := hpost.split
              obtain ⟨l2, y1, y2, i2, o2, b1, b2, rec2, σs2, rfl, b3, b4, b5, b6, b7, b8, b9⟩ := hcov1.mem.at_ _ _ hg2
              rw [bs_mono hk] at b1; cases b1
              have hi2 : σ'.L[i2]? = some (l, .loop rec2) := by rw [hcov1.L, List.getElem?_append_left (List.getElem?_eq_some_iff.1 b2).1]; exact b2
              have hb := run_beginRound (P := P) (hH.mem.at_ hi2) b9.1
              refine ⟨_, hb, ?_⟩
              have hm4 := hH.mem.putObj hi2 (.loop { rec2 with state := .busy })
              have hu := Post_upd (s2 := s2) (σ' := ⟨σ'.s, σ'.D, σ'.L.set i2 (l, .loop { rec2 with state := .busy })⟩) (ob2 := .loop cl2 .busy) hcov1 hH.mem.nodup hg2 (bs_mono hk) b2 ⟨{ rec2 with state := .busy }, σs2, rfl, b3, b4, b5, b6, b7, b8, rfl⟩ hcov1.slots rfl rfl
              obtain ⟨r2, M2, hcov2, hlog2, hprot2, _⟩ := hu.split
              have hH4 : Holds g cl.N ⟨σ'.s, σ'.D, σ'.L.set i2 (l, .loop { rec2 with state := .busy })⟩ a10 (w3.putObj l (.loop { rec2 with state := .busy })) := ⟨hH.size, hH.slots, hH.defers, hm4⟩
              have hwp2 := codeX_ok (c := ⟨P, g, cl.N, n, some l⟩) hcall hmix (fun h => by cases h) cl.body c4 hcov2 hcode2
              refine Go.wpIn_mono (hwp2 _ _ hH4) (fun e5 a5' w5 hl5 => ?_)
              have last : ∀ (σ5 : St), Holds g cl.N σ5 a5' w5 → Post (bs ++ r1 ++ r2) (H3.upd k (.loop cl2 .busy)) M2 F s4 H4 σ5 → ∃ jump, (e = .normal ∧ jump = none ∨ e = .ret ∧ jump = some .ret ∨ ∃ id, e = .exit id ∧ jump = some (.exit id)) ∧ ∃ w6, (Instr.endRound l jump).run P w5 = .ok (.bool jump.isNone) w6 ∧ ∃ L', Mem g L' w6 ∧ FPost bs Hp M F v H2 (.bool jump.isNone) L' := by
                intro σ5 hH5 hp5
                obtain ⟨r3, M3, hcov3, hlog3, hprot3, _⟩ := hp5.split
                have hmem5 := hH5.mem
                rw [hcov3.L] at hmem5
                obtain ⟨jump, k1, w6, k2, L', k3, k4⟩ := roundX_ok (bs_mono (bs_mono (bs_mono hk))) hcov3.mem hmem5 h
                refine ⟨jump, k1, w6, k2, L', k3, ?_⟩
                refine FPost.comp (r := r1) (H1 := ⟨H3.h, H3.n, H3.log, Hp.ds⟩) (M1 := M1) hlog1 (fun W B hW hB => ?_) rfl ?_
                · exact fun q hq => hprot1 W B hW (by simpa [Prot] using hB) q hq
                refine FPost.comp (r := r2) (H1 := ⟨(H3.upd k (.loop cl2 .busy)).h, H3.n, k :: H3.log, Hp.ds⟩) (M1 := M2) hlog2 (fun W B hW hB => ?_) rfl ?_
                · exact fun q hq => hprot2 W B hW (by simpa [Prot] using hB) q hq
                refine FPost.comp (r := r3) (H1 := ⟨H4.h, H4.n, H4.log, Hp.ds⟩) (M1 := M3) hlog3 (fun W B hW hB => ?_) rfl k4
                exact fun q hq => hprot3 W B hW (by simpa [Prot] using hB) q hq
              have hl5 : ∃ σ5, Holds g cl.N σ5 a5' w5 ∧ e5 = e.to ∧ Post (bs ++ r1 ++ r2) (H3.upd k (.loop cl2 .busy)) M2 F s4 H4 σ5 := by
                obtain ⟨σ5, h1, h2⟩ := hl5
                cases e with
                | panic v => exfalso; unfold roundX at h; split at h <;> cases h
                | normal => exact ⟨σ5, h1, h2⟩
                | ret => exact ⟨σ5, h1, h2⟩
                | exit id => exact ⟨σ5, h1, h2⟩
              cases e5 with
              | panic ch => obtain ⟨_, _, h, _⟩ := hl5; cases e <;> cases h
              | goto t => obtain ⟨_, _, h, _⟩ := hl5; cases e <;> cases h
              | outgrown => obtain ⟨_, _, h, _⟩ := hl5; cases e <;> cases h
              | normal =>
                obtain ⟨σ5, hH5, he, hp5⟩ := hl5
                obtain ⟨jump, ⟨_, rfl⟩ | ⟨rfl, _⟩ | ⟨id, rfl, _⟩, w6, k2, L', k3, k4⟩ := last σ5 hH5 hp5
                · exact ⟨_, w6, k2, _, L', rfl, k3, k4⟩
                · cases he
                · cases he
              | ret =>
                obtain ⟨σ5, hH5, he, hp5⟩ := hl5
                obtain ⟨jump, ⟨rfl, _⟩ | ⟨_, rfl⟩ | ⟨id, rfl, _⟩, w6, k2, L', k3, k4⟩ := last σ5 hH5 hp5
                · cases he
                · exact ⟨_, w6, k2, _, L', rfl, k3, k4⟩
                · cases he
              | exit id' =>
                obtain ⟨σ5, hH5, he, hp5⟩ := hl5
                obtain ⟨jump, ⟨rfl, _⟩ | ⟨rfl, _⟩ | ⟨id, rfl, rfl⟩, w6, k2, L', k3, k4⟩ := last σ5 hH5 hp5
                · cases he
                · cases he
                · cases he
                  exact ⟨_, w6, k2, _, L', rfl, k3, k4⟩
          · cases h
        · cases h
      · cases h
    · cases h
  · cases h
def tupV : List V → V
  | [v] => v
  | l => .tup l
theorem RM.ret {bs : Bs} : RM bs none .returning := rfl
theorem RM.pan {bs : Bs} {v : V} {v' : Value} (h : RV bs v v') : RM bs (some v) (.panicking (Go.Proofs.YtakedlockchpcaaGreatDoor.pan v')) := ⟨v', rfl, h⟩
theorem resX_res {P : Program} {g : World} {N n : Nat} {fn : Func} {bs : Bs} {s : S} {Hp : H} {M F : List (Nat × Obj)} {σs : List (Nat × Value)} {l : List V} (hs : CovS bs s σs) (hm : HCov bs Hp M) (hr : resX P s Hp.h fn.results.toList = some l) : ∃ v', Res ⟨P, g, N, n, none⟩ fn ⟨σs, [], M ++ F⟩ v' ∧ RV bs (tupV l) v' := by
  have hcov : Cov bs s ⟨Hp.h, Hp.n, Hp.log, []⟩ M F ⟨σs, [], M ++ F⟩ := ⟨hs, rfl, ⟨hm.n, hm.at_, hm.inj⟩, rfl⟩
  obtain ⟨l', h1, h2⟩ := resX_ok (c := ⟨P, g, N, n, none⟩) hcov hr
  refine ⟨(if h : l'.toArray.size = 1 then l'.toArray[0] else .tuple l'.toArray), fun a w ha => ?_, ?_⟩
  · have h3 := h2 a w ha
    rw [results_eq, Array.mapM_eq_mapM_toList]
    simp [h3]
  · match l, l', h1 with
    | [], [], h1 => simpa [tupV] using RV.tup h1
    | [u], [u'], .cons h1 _ => simpa [tupV] using h1
    | a :: b :: l, a' :: b' :: l', h1 => simpa [tupV] using RV.tup h1
theorem goneX_ok {P : Program} {g : World} {N : Nat} {call : CallF} (hcall : CallOk P call) {x : XF} {bs : Bs} {s2 : S} {Hp H1 H2 : H} {M F : List (Nat × Obj)} {σ' : St} {m : Option V} {u : FrameMode} {o : FR} (hnod : (σ'.L.map Prod.fst).Nodup)
    (hp : ∃ (r : Bs) (M' : List (Nat × Obj)), RD (bs ++ r) H1.ds σ'.D ∧ σ'.L = M' ++ F ∧ CovS (bs ++ r) s2 σ'.s ∧ HCov (bs ++ r) H1 M' ∧ (∀ k ∈ Hp.log, k ∈ H1.log) ∧ (∀ W B, (∀ k ∈ H1.log, k ∈ W) → Prot bs ⟨Hp.h, Hp.n, Hp.log, []⟩ M W B → Prot (bs ++ r) H1 M' W B) ∧ RM (bs ++ r) m u)
    (h : goneX P call x Hp.ds s2 H1 m = some (o, H2)) : LeavS ⟨P, g, N, 0, none⟩ x.fn σ'.s (fun v' L' => ∃ v, o = .ret v ∧ FPost bs Hp M F v H2 v' L') (fun v' L' => ∃ v, o = .pan v ∧ FPost bs Hp M F v H2 v' L') σ'.D u σ'.L := by
  obtain ⟨r, M', f1, f2, f3, f4, f5, f6, f7⟩ := hp
  unfold goneX at h
  split at h
  · rename_i m2 H3 hl
    rw [f2] at hnod ⊢
    refine leaveX_ok (c := ⟨P, g, N, 0, none⟩) hcall H1.ds f3 f4 hnod f1 f7 hl fun r2 M2 u2 g1 g2 g3 g4 g5 => ?_
    have fp : ∀ {v : V} {v' : Value}, RV (bs ++ r ++ r2) v v' → FPost bs Hp M F v ⟨H3.h, H3.n, H3.log, Hp.ds⟩ v' (M2 ++ F) := fun {v v'} hv => by
      rw [List.append_assoc] at hv g2 g5
      refine ⟨r ++ r2, M2, rfl, hv, ⟨g2.n, g2.at_, g2.inj⟩, rfl, fun k hk => g4 k (f5 k hk), fun W B hW hB => ?_⟩
      have h5 := g5 W B hW (f6 W B (fun k hk => hW k (g4 k hk)) (by simpa [Prot] using hB))
      exact fun q hq => h5 q hq
    cases m2 with
    | none =>
      rw [show u2 = .returning from g3]
      simp only [retX] at h
      split at h
      · rename_i v hr
        cases h
        obtain ⟨v', h1, h2⟩ := resX_res (F := F) g1 g2 hr
        exact ⟨v', M2 ++ F, h1, .refl _, v, rfl, fp h2⟩
      · rename_i l hnl hr
        cases h
        obtain ⟨v', h1, h2⟩ := resX_res (F := F) g1 g2 hr
        refine ⟨v', M2 ++ F, h1, .refl _, _, rfl, fp ?_⟩
        match l, hnl, h2 with
        | [], _, h2 => exact h2
        | [u], h, _ => exact absurd rfl (h u)
        | _ :: _ :: _, _, h2 => exact h2
      · cases h
    | some v =>
      obtain ⟨v', h1, h2⟩ := g3
      rw [h1]
      simp only [retX] at h
      cases h
      exact ⟨v', rfl, v, rfl, fp h2⟩
  · cases h
theorem runF_ok {P : Program} {tab : T XF} {lf : Nat} {call : CallF} (hcall : CallOk P call) (hmix : P.follows .mixedOrders = true) (htab : ∀ f x, tab.get f = some x → GoodF P f x) {f : FuncId} {vs : List V} {Hp : H} {o : FR} {H2 : H} (h : runF P tab lf call f vs Hp = some (o, H2)) :
    FCall P f ∧ ∀ bs M F vs', HCov bs Hp M → RVs bs vs vs' → ∀ g w, Mem g (M ++ F) w → Calls P f vs'.toArray w (EndR g (fun v' L' => ∃ v, o = .ret v ∧ FPost bs Hp M F v H2 v' L') fun v' L' => ∃ v, o = .pan v ∧ FPost bs Hp M F v H2 v' L') := by
  unfold runF at h
  split at h
  · rename_i x hx
    have hg := htab f x hx
    split at h
    · rename_i hle
      refine ⟨hg.call, fun bs M F vs' hm hvs => ?_⟩
      have hlen := hvs.length
      have hle := Nat.le_of_ble_eq_true hle
      refine enterL hg.fn hg.body rfl (Nat.ble_eq_true_of_le (by omega)) fun g => WC_nodup ?_
      have hcov : Cov bs (S.ofArgs vs x.mask) ⟨Hp.h, Hp.n, Hp.log, []⟩ M F ⟨initS 0 vs', [], M ++ F⟩ := ⟨covS_row hvs, rfl, ⟨hm.n, hm.at_, hm.inj⟩, rfl⟩
      generalize hcode : codeX P call x.pt lf true x.fn.ntmps x.code (S.ofArgs vs x.mask) ⟨Hp.h, Hp.n, Hp.log, []⟩ = res at h
      cases res with
      | none => cases h
      | some q =>
        obtain ⟨e, s2, H1⟩ := q
        refine (codeX_ok (c := ⟨P, g, x.fn.ntmps, 0, none⟩) hcall hmix (fun _ => rfl) x.code hg.ok hcov hcode).mono fun e' σ' hd hnod => ?_
        cases e with
        | exit id => cases h
        | normal =>
          obtain ⟨rfl, r, M', f1, f2, f3, f4, f5, f6⟩ := hd
          exact goneX_ok hcall hnod ⟨r, M', f1, f2, f3, f4, f5, f6, RM.ret⟩ h
        | ret =>
          obtain ⟨rfl, r, M', f1, f2, f3, f4, f5, f6⟩ := hd
          exact goneX_ok hcall hnod ⟨r, M', f1, f2, f3, f4, f5, f6, RM.ret⟩ h
        | panic v =>
          obtain ⟨v', rfl, r, M', f1, f2, f3, f4, f5, f6, f7⟩ := hd
          exact goneX_ok hcall hnod ⟨r, M', f1, f2, f3, f4, f5, f6, RM.pan f7⟩ h
    · cases h
  · cases h
theorem endD_ok {P : Program} {g : World} {N n : Nat} {x : XF} {bs : Bs} {e : EX} {s2 : S} {Hp H1 H2 : H} {M F : List (Nat × Obj)} {e' : Exit} {σ' : St} {m m2 : Option V} {u' : FrameMode} (hu : ∀ r, RM (bs ++ r) m (settle u'))
    (hd : DoneK bs ⟨Hp.h, Hp.n, Hp.log, []⟩ M F e s2 H1 e' σ') (h : endD P x Hp.ds m (some (e, s2, H1)) = some (m2, H2)) : postK ⟨P, g, N, n, none⟩ x.fn (fun _ L' => DPost bs Hp M F m2 H2 u' L') e' σ' := by
  have done : Post bs ⟨Hp.h, Hp.n, Hp.log, []⟩ M F s2 H1 σ' → doneD P x Hp.ds m s2 H1 = some (m2, H2) → σ'.D = [] ∧ ∃ v Lx, Res ⟨P, g, N, n, none⟩ x.fn σ' v ∧ Lx.Sublist σ'.L ∧ DPost bs Hp M F m2 H2 u' Lx := by
    rintro ⟨r, M', f1, f2, f3, f4, f5, f6⟩ h
    unfold doneD at h
    split at h
    · rename_i l hds hr
      cases h
      rw [hds] at f1
      obtain ⟨v', h1, _⟩ := resX_res (P := P) (g := g) (N := N) (n := n) (F := F) f3 f4 hr
      have hD : σ'.D = [] := f1
      obtain ⟨σs, D, L⟩ := σ'
      cases hD
      have f2' : L = M' ++ F := f2
      subst f2'
      refine ⟨rfl, v', M' ++ F, h1, .refl _, r, M', rfl, hu r, ⟨f4.n, f4.at_, f4.inj⟩, rfl, f5, fun W B hW hB => ?_⟩
      have h5 := f6 W B hW (by simpa [Prot] using hB)
      exact fun q hq => h5 q hq
    · cases h
  cases e with
  | normal => obtain ⟨rfl, hp⟩ := hd; exact done hp h
  | ret => obtain ⟨rfl, hp⟩ := hd; exact done hp h
  | exit id => cases h
  | panic v => cases h
theorem recOf_ok {c : Code} {d : Option Nat} {more : List Oper} {rest : Code} (h : recOf c = some (d, more, rest)) : ∃ id o args tys, c = .seq (.region id (o :: more).toArray false) rest ∧ o.op = .call { callee := .builtin .recover, args := args, argTypes := tys } ∧ o.guard = none ∧ o.dst = d := by
  unfold recOf at h
  split at h
  · rename_i id ops rest'
    split at h
    · rename_i o more' hl
      split at h
      · rename_i cl ho hg
        obtain ⟨cal, args, tys⟩ := cl
        split at h
        · rename_i hc
          simp only at hc
          subst hc
          cases h
          obtain rfl : ops = (o :: more).toArray := by apply Array.ext'; simpa using hl
          exact ⟨id, o, args, tys, rfl, ho, hg, rfl⟩
        · cases h
      · cases h
    · cases h
  · cases h
theorem calmL_ok {c : Cx} {bs : Bs} {Hp : H} {M F : List (Nat × Obj)} (hm : HCov bs Hp M) : ∀ {l : List Oper} {s s2 : S} {σs : List (Nat × Value)}, (∀ o ∈ l, dok c.N o.dst = true) → CovS bs s σs → calmL c.P Hp.h l s = some s2 → ∃ σs2, QS c (M ++ F) l σs σs2 ∧ CovS bs s2 σs2
  | [], s, s2, σs, _, hs, h => by cases h; exact ⟨σs, rfl, hs⟩
  | o :: r, s, s2, σs, hd, hs, h => by
    simp only [calmL] at h
    split at h
    · rename_i v rd hg hc
      obtain ⟨v', h1, h2⟩ := calmX_ok (c := c) (Ls := M ++ F) (o := o) hc hs (fun k ob _ hk => by
        obtain ⟨b, base, av, i, o', a1, a2, a3⟩ := hm.at_ k ob hk
        exact ⟨b, base, av, i, o', a1, by rw [List.getElem?_append_left (List.getElem?_eq_some_iff.1 a2).1]; exact a2, a3⟩)
      obtain ⟨σs2, h3, h4⟩ := calmL_ok hm (fun o ho => hd o (List.mem_cons_of_mem _ ho)) (CovS.putD (σ := ⟨σs, [], []⟩) (d := o.dst) hs h2) h
      exact ⟨σs2, ⟨v', hg, hd o List.mem_cons_self, h1, h3⟩, h4⟩
    · cases h
theorem defF_ok {P : Program} {tab : T XF} {lf : Nat} {call : CallF} (hcall : CallOk P call) (hmix : P.follows .mixedOrders = true) (htab : ∀ f x, tab.get f = some x → GoodF P f x) {f : FuncId} {vs : List V} {m m2 : Option V} {Hp : H} {H2 : H} (h : defF P tab lf call f vs m Hp = some (m2, H2)) :
    FCall P f ∧ ∀ bs M F vs' u, HCov bs Hp M → RVs bs vs vs' → RM bs m u → FnD P f vs' (M ++ F) u (DPost bs Hp M F m2 H2) := by
  unfold defF at h
  split at h
  · rename_i x hx
    have hg := htab f x hx
    split at h
    · rename_i hle
      refine ⟨hg.call, fun bs M F vs' u hm hvs hu => ?_⟩
      have hlen := hvs.length
      have hle := Nat.le_of_ble_eq_true hle
      have hle' : Nat.ble vs'.length x.fn.ntmps = true := Nat.ble_eq_true_of_le (by omega)
      have hcov : Cov bs (S.ofArgs vs x.mask) ⟨Hp.h, Hp.n, Hp.log, []⟩ M F ⟨initS 0 vs', [], M ++ F⟩ := ⟨covS_row hvs, rfl, ⟨hm.n, hm.at_, hm.inj⟩, rfl⟩
      split at h
      · rename_i d more rest hrec
        split at h
        rotate_left
        · cases h
        rename_i sm hsm
        obtain ⟨id, o, args, tys, hcode, ho, hgu, hd⟩ := recOf_ok hrec
        have hok := hg.ok
        rw [hcode] at hok
        simp only [codeOk] at hok
        split at hok
        · rename_i hok1
          have hdall : ∀ o' ∈ o :: more, dok x.fn.ntmps o'.dst = true := by
            split at hok1
            · rename_i h1 _; exact fun o' ho' => dstOk_mem h1 o' (by simpa using ho')
            · rename_i hf; cases hf
            · cases hok1
          have hdok : dok x.fn.ntmps o.dst = true := hdall o List.mem_cons_self
          subst hd
          have hrv : ∃ rv u', Recov u rv u' ∧ RV bs (recV m) rv ∧ settle u' = .returning := by
            cases m with
            | none => rw [show u = .returning from hu]; exact ⟨.nilIface, .returning, ⟨rfl, rfl⟩, .nili, rfl⟩
            | some v => obtain ⟨v', h1, h2⟩ := hu; rw [h1]; exact ⟨v', _, ⟨rfl, rfl⟩, h2, rfl⟩
          obtain ⟨rv, u', h1, h2, h3⟩ := hrv
          generalize hrun : codeX P call x.pt lf true x.fn.ntmps rest sm ⟨Hp.h, Hp.n, Hp.log, []⟩ = res at h
          cases res with
          | none => cases h
          | some q =>
            obtain ⟨e, s2, H1⟩ := q
            refine FnD_recover hg.fn (hg.body.trans (by rw [hcode])) rfl hle' ho hgu hdok h1 fun g n => ?_
            obtain ⟨σs2, hqs, hcs⟩ := calmL_ok (c := ⟨P, g, x.fn.ntmps, n, none⟩) (F := F) hm (fun o' ho' => hdall o' (List.mem_cons_of_mem _ ho')) (CovS.putD (σ := ⟨initS 0 vs', [], M ++ F⟩) (d := o.dst) hcov.slots h2) hsm
            refine ⟨σs2, hqs, ?_⟩
            have hcov2 : Cov bs sm ⟨Hp.h, Hp.n, Hp.log, []⟩ M F ⟨σs2, [], M ++ F⟩ := ⟨hcs, rfl, hcov.mem, rfl⟩
            exact (codeX_ok (c := ⟨P, g, x.fn.ntmps, n, none⟩) hcall hmix (fun _ => rfl) rest hok hcov2 hrun).mono fun e' σ' hd => endD_ok (m := none) (fun r => h3) hd h
        · cases hok
      · generalize hrun : codeX P call x.pt lf true x.fn.ntmps x.code (S.ofArgs vs x.mask) ⟨Hp.h, Hp.n, Hp.log, []⟩ = res at h
        cases res with
        | none => cases h
        | some q =>
          obtain ⟨e, s2, H1⟩ := q
          refine FnD_enter hg.fn hg.body rfl hle' fun g n => ?_
          have hset : settle u = u := by
            cases m with
            | none => rw [show u = .returning from hu]; rfl
            | some v => obtain ⟨v', h1, h2⟩ := hu; rw [h1]; rfl
          exact (codeX_ok (c := ⟨P, g, x.fn.ntmps, n, none⟩) hcall hmix (fun _ => rfl) x.code hg.ok hcov hrun).mono fun e' σ' hd => endD_ok (fun r => by rw [hset]; exact hu.mono r) hd h
    · cases h
  · cases h
theorem leaveX_ext {P : Program} {call : CallF} (hcall : CallOk P call) : ∀ {l : List DI} {m : Option V} {Hp : H} {m2 : Option V} {H2 : H}, leaveX call l m Hp = some (m2, H2) → Ext Hp H2
  | [], _, _, _, _, h => by cases h; exact .refl _
  | .mark k :: r, m, Hp, m2, H2, h => by
    simp only [leaveX] at h
    split at h
    · exact (Ext.upd _ _ _).trans (leaveX_ext hcall h)
    · cases h
  | .call f A B :: r, m, Hp, m2, H2, h => by
    simp only [leaveX] at h
    split at h
    · rename_i h1; exact (hcall.dx _ _ _ _ _ _ h1).trans (leaveX_ext hcall h)
    · cases h
theorem goneX_ext {P : Program} {call : CallF} (hcall : CallOk P call) {x : XF} {ds0 : List DI} {s2 : S} {H1 H2 : H} {m : Option V} {o : FR} (h : goneX P call x ds0 s2 H1 m = some (o, H2)) : Ext H1 H2 := by
  unfold goneX at h
  split at h
  · rename_i m2 H3 hl
    have h1 := leaveX_ext hcall hl
    cases m2 with
    | none =>
      simp only [retX] at h
      split at h
      · cases h; exact h1.ds
      · cases h; exact h1.ds
      · cases h
    | some v => simp only [retX] at h; cases h; exact h1.ds
  · cases h
theorem runF_ext {P : Program} {tab : T XF} {lf : Nat} {call : CallF} (hcall : CallOk P call) {f : FuncId} {vs : List V} {Hp : H} {o : FR} {H2 : H} (h : runF P tab lf call f vs Hp = some (o, H2)) : Ext Hp H2 := by
  unfold runF at h
  split at h
  · rename_i x hx
    split at h
    · generalize hcode : codeX P call x.pt lf true x.fn.ntmps x.code (S.ofArgs vs x.mask) ⟨Hp.h, Hp.n, Hp.log, []⟩ = res at h
      unfold endF at h
      have start : ∀ {e s2 H1}, res = some (e, s2, H1) → Ext Hp H1 := fun {e s2 H1} he => by
        have h1 := codeX_ext hcall x.code (hcode.trans he)
        exact ⟨h1.log, h1.n, h1.h⟩
      split at h
      · exact (start rfl).trans (goneX_ext hcall h)
      · exact (start rfl).trans (goneX_ext hcall h)
      · exact (start rfl).trans (goneX_ext hcall h)
      · cases h
    · cases h
  · cases h
theorem defF_ext {P : Program} {tab : T XF} {lf : Nat} {call : CallF} (hcall : CallOk P call) {f : FuncId} {vs : List V} {m m2 : Option V} {Hp : H} {H2 : H} (h : defF P tab lf call f vs m Hp = some (m2, H2)) : Ext Hp H2 := by
  have fin : ∀ {x : XF} {code : Code} {s : S} {m' : Option V}, endD P x Hp.ds m' (codeX P call x.pt lf true x.fn.ntmps code s ⟨Hp.h, Hp.n, Hp.log, []⟩) = some (m2, H2) → Ext Hp H2 := fun {x code s m'} h => by
    generalize hcode : codeX P call x.pt lf true x.fn.ntmps code s ⟨Hp.h, Hp.n, Hp.log, []⟩ = res at h
    have start : ∀ {e s2 H1}, res = some (e, s2, H1) → Ext Hp ⟨H1.h, H1.n, H1.log, Hp.ds⟩ := fun {e s2 H1} he => by
      have h1 := codeX_ext hcall code (hcode.trans he)
      exact ⟨h1.log, h1.n, h1.h⟩
    unfold endD at h
    split at h
    · unfold doneD at h
      split at h
      · cases h; exact start rfl
      · cases h
    · unfold doneD at h
      split at h
      · cases h; exact start rfl
      · cases h
    · cases h
  unfold defF at h
  split at h
  · split at h
    · split at h
      · split at h
        · exact fin h
        · cases h
      · exact fin h
    · cases h
  · cases h
theorem roundX_ext {k : Nat} {ds0 : List DI} {e : EX} {H4 H5 : H} {v : V} (h : roundX k ds0 e H4 = some (v, H5)) : Ext H4 H5 := by
  unfold roundX at h
  split at h
  · split at h
    · cases h; exact (Ext.upd H4 k _).ds
    · cases h; exact (Ext.upd H4 k _).ds
    · cases h; exact (Ext.upd H4 k _).ds
    · cases h
  · cases h
theorem yieldX_ext {P : Program} {call : CallF} {lf : Nat} (hcall : CallOk P call) {k : Nat} {vs : List V} {Hp : H} {v : V} {H2 : H} (h : yieldX P call lf k vs Hp = some (v, H2)) : Ext Hp H2 := by
  unfold yieldX at h
  split at h
  · rename_i cl hg
    split at h
    · split at h
      · rename_i s2 H3 hcode
        split at h
        · rename_i cl2 hg2
          split at h
          · rename_i e s4 H4 hcode2
            have h1 := codeX_ext hcall cl.assign hcode
            have h1' : Ext Hp H3 := ⟨h1.log, h1.n, h1.h⟩
            exact ((h1'.trans (Ext.upd _ _ _)).trans (codeX_ext hcall cl.body hcode2)).trans (roundX_ext h)
          · cases h
        · cases h
      · cases h
    · cases h
  · cases h
theorem retO_some {x : Option (FR × H)} {v : V} {H2 : H} (h : retO x = some (v, H2)) : x = some (.ret v, H2) := by
  unfold retO at h
  split at h
  · cases h; rfl
  · cases h
theorem panO_some {x : Option (FR × H)} {v : V} {H2 : H} (h : panO x = some (v, H2)) : x = some (.pan v, H2) := by
  unfold panO at h
  split at h
  · cases h; rfl
  · cases h
theorem funX_ok {P : Program} {tab : T XF} {lf : Nat} {pr : PrimF} (hpr : PrimOk P pr) (hmix : P.follows .mixedOrders = true) (htab : ∀ f x, tab.get f = some x → GoodF P f x) : ∀ n, CallOk P (funX P tab lf pr n)
  | 0 => ⟨fun _ _ _ _ _ h => (by cases h), fun _ _ _ _ _ h => (by cases h), fun _ _ _ _ _ h => (by cases h), fun _ _ _ _ _ _ h => (by cases h), fun _ _ _ _ _ h => (by cases h), fun _ _ _ _ _ h => (by cases h), fun _ _ _ _ _ _ h => (by cases h), fun _ _ _ _ _ _ h => (by cases h), fun _ _ _ _ _ h => (by cases h), fun _ _ _ _ _ h => (by cases h), fun _ _ _ _ _ h => (by cases h)⟩
  | n + 1 => by
    have ih := funX_ok (lf := lf) hpr hmix htab n
    have pick : ∀ {a b : Option (V × H)} {v : V} {H2 : H}, primO a b = some (v, H2) → a = some (v, H2) ∨ b = some (v, H2) := fun {a b v H2} h => by
      cases a with
      | none => exact .inr h
      | some r => exact .inl h
    refine ⟨fun f vs Hp v H2 h => (pick h).elim (hpr.x _ _ _ _ _) (fun h => runF_ext ih (retO_some h)), fun k vs Hp v H2 h => yieldX_ext ih h, fun f vs Hp v H2 h => runF_ext ih (panO_some h), fun f vs m Hp m2 H2 h => defF_ext ih h, fun f vs Hp v H2 h => (runF_ok ih hmix htab (panO_some h)).1, fun f vs Hp v H2 h bs M F vs' hm hvs g w hmem => ?_, fun f vs m Hp m2 H2 h => (defF_ok ih hmix htab h).1, fun f vs m Hp m2 H2 h bs M F vs' u hm hvs hu => (defF_ok ih hmix htab h).2 bs M F vs' u hm hvs hu,
      fun f vs Hp v H2 h => (pick h).elim (hpr.c _ _ _ _ _) (fun h => (runF_ok ih hmix htab (retO_some h)).1), fun f vs Hp v H2 h bs M F vs' hm hvs g w hmem => ?_, fun k vs Hp v H2 h bs M F vs' l x y hm hk hvs => yieldX_ok ih hmix h hm hk hvs⟩
    · refine ((runF_ok ih hmix htab (panO_some h)).2 bs M F vs' hm hvs g w hmem).mono fun e w' hend => ?_
      rcases hend with ⟨v', L', h1, h2, v2, h3, h4⟩ | ⟨v', L', h1, h2, v2, h3, h4⟩
      · cases h3
      · cases h3; exact ⟨v', L', h1, h2, h4⟩
    · rcases pick h with h | h
      · exact hpr.n _ _ _ _ _ h bs M F vs' hm hvs g w hmem
      · refine ((runF_ok ih hmix htab (retO_some h)).2 bs M F vs' hm hvs g w hmem).mono fun e w' hend => ?_
        rcases hend with ⟨v', L', h1, h2, v2, h3, h4⟩ | ⟨v', L', h1, h2, v2, h3, h4⟩
        · cases h3; exact ⟨v', L', h1, h2, h4⟩
        · cases h3
def trueG (P : Program) (tab : T XF) (lf : Nat) (pr : PrimF) (H0 : H) (n : Nat) (f : FuncId) : Bool := match (funX P tab lf pr n).f f [] H0 with
  | some (.bool true, H2) => match memB 0 H2.log with
    | true => false
    | false => true
  | _ => false
theorem runG {P : Program} {tab : T XF} {lf n : Nat} {pr : PrimF} {f : FuncId} {bs0 : Bs} {H0 : H} {M0 : List (Nat × Obj)} (hpr : PrimOk P pr) (hmix : P.follows .mixedOrders = true) (htab : ∀ f x, tab.get f = some x → GoodF P f x) (hm0 : HCov bs0 H0 M0) (hk0 : ∀ k o, H0.h.get k = some o → k = 0) (h : trueG P tab lf pr H0 n f = true) (F : List (Nat × Obj)) : Fn P f [] (M0 ++ F) (fun v L' => v = .bool true ∧ L' = M0 ++ F) := fun g w hm => by
  unfold trueG at h
  split at h
  · rename_i H2 h1
    split at h
    · cases h
    · rename_i hlog
      have h2 := (funX_ok hpr hmix htab n).fn _ _ _ _ _ h1 bs0 M0 F [] hm0 .nil
      refine (h2 g w hm).mono fun e w' ⟨v, L', e1, e2, r, M', e3, e4, e5, e6, e7, e8⟩ => ?_
      cases e4
      subst e3
      have hp := e8 H2.log M0 (fun _ h => h) (fun q hq => ⟨hq, fun j o x y hj _ hw => by
        rw [hk0 j o hj] at hw
        exact memB_no hlog hw⟩)
      refine ⟨.bool true, M0 ++ F, e1, e2.sub hm.nodup (fun q hq => ?_), rfl, rfl⟩
      rcases List.mem_append.1 hq with hq | hq
      · exact List.mem_append_left _ (hp q hq).1
      · exact List.mem_append_right _ hq
  · cases h
theorem runD {P : Program} {tab : T XF} {lf n : Nat} {pr : PrimF} {f : FuncId} {bs0 : Bs} {H0 : H} {q : Nat × Obj} {L : List (Nat × Obj)} (hpr : PrimOk P pr) (hmix : P.follows .mixedOrders = true) (htab : ∀ f x, tab.get f = some x → GoodF P f x) (hm0 : HCov bs0 H0 [q]) (hk0 : ∀ k o, H0.h.get k = some o → k = 0) (h : trueG P tab lf pr H0 n f = true) (hq : q ∈ L) : Fn P f [] L (fun v L' => v = .bool true ∧ L' = L) := fun g w hm => by
  obtain ⟨A, B, rfl⟩ := List.append_of_mem hq
  have hm2 : Mem g ([q] ++ (A ++ B)) w := hm.sub (by
    have h1 := hm.nodup
    rw [List.map_append, List.map_cons] at h1
    have h2 := (List.perm_middle (a := q.1) (l₁ := A.map Prod.fst) (l₂ := B.map Prod.fst)).nodup_iff.1 h1
    simpa using h2) (fun p hp => by
    simp only [List.mem_append, List.mem_cons] at hp ⊢
    rcases hp with (rfl | h) | h | h
    · exact .inr (.inl rfl)
    · cases h
    · exact .inl h
    · exact .inr (.inr h))
  refine (runG hpr hmix htab hm0 hk0 h (A ++ B) g w hm2).mono fun e w' ⟨v, L', e1, e2, e3, e4⟩ => ?_
  subst e4
  refine ⟨v, A ++ q :: B, e1, e2.sub hm.nodup (fun p hp => ?_), e3, rfl⟩
  simp only [List.mem_append, List.mem_cons] at hp ⊢
  rcases hp with h | rfl | h
  · exact .inr (.inl h)
  · exact .inl (.inl rfl)
  · exact .inr (.inr h)
end
end Go.Proofs.YtakedlockchpcaaGreatDoor
namespace Go.Proofs.YtakedlockchpcaaGreatDoor
open Go.RowKit
section
variable {c : Cx} {s : List (Nat × Value)} {L : List (Nat × Obj)} {o : Oper}
theorem Qt_makeInterface {t : TypeId} {d : TypeDesc} [hu : TUnd c.P t d] {x : Operand} {v : Value} (ho : o.op = .makeInterface t x) (hx : ev s x = some v := by exact rfl) (hd : ∀ ms, d ≠ .interface ms := by intro ms h; cases h) : Qt c s L o (.iface t v) :=
  Qt_of_run (by simp [ho]) (fun ρ hρ w _ => by
    simp only [execOp, ho, hρ x _ hx, Instr.makeInterface, Sem.run_bind, run_underlying hu.h]
    cases d <;> first | rfl | exact absurd rfl (hd _))
end
section
variable {c : Cx} {o : Oper} {Kn : St → Prop} {K : Exit → St → Prop}
end
def meetQ (Q : St → Prop) (σ : St) : Prop := ∃ σ', Q σ' ∧ SubS σ'.s σ.s ∧ σ'.D = σ.D ∧ σ'.L.Sublist σ.L
theorem meet_next {c : Cx} {Q : St → Prop} {z : Code} {K : Exit → St → Prop} (hB : ∀ σ, Q σ → WC c z K σ) (e : Exit) (σ : St) (h : thenK (meetQ Q) K e σ) : thenK (WC c z K) K e σ := by
  cases e with
  | normal =>
    obtain ⟨σ', hQ, hs, hD, hL⟩ := h
    exact WC_lessen hs hD hL (hB σ' hQ)
  | _ => exact h
theorem WC_meet {c : Cx} {x z : Code} {K : Exit → St → Prop} {σ : St} (Q : St → Prop) (hA : WC c x (thenK (meetQ Q) K) σ) (hB : ∀ σ, Q σ → WC c z K σ) : WC c x (thenK (WC c z K) K) σ :=
  WC_mono hA (meet_next hB)
theorem WC_meet2 {c : Cx} {x y z : Code} {K : Exit → St → Prop} {σ : St} (Q : St → Prop) (hA : WC c x (thenK (WC c y (thenK (meetQ Q) K)) (thenK (meetQ Q) K)) σ) (hB : ∀ σ, Q σ → WC c z K σ) : WC c x (thenK (WC c y (thenK (WC c z K) K)) (thenK (WC c z K) K)) σ :=
  WC_mono hA fun e σ h => by
    cases e with
    | normal => exact WC_mono h (meet_next hB)
    | _ => exact h
end Go.Proofs.YtakedlockchpcaaGreatDoor
namespace Go.Proofs.YtakedlockchpcaaGreatDoor
open Go.RowKit
theorem src1 {c : Cx} {L : List (Nat × Obj)} {t2 e b E : Nat} {u : Value} [hu : TUnd c.P t2 (.slice e)] (i : Nat) (hi : L[i]? = some (b, .cells #[u] E (0, 0))) (h1 : u.oneCell' = true := by rfl) : SrcL c L 1 t2 (.slice (some ⟨b, 0, none⟩) 1 1) 1 [u] :=
  srcVec ⟨rfl, _, _, rfl, Nat.le_refl _, by decide, .inr ⟨_, _, _, _, _, i, rfl, hi, fun j x hx => by
    cases j with
    | zero => simpa using hx
    | succ j => simp at hx⟩⟩ (by intro v hv; simp at hv; subst hv; exact h1)
theorem WC_dropL {c : Cx} {code : Code} {K : Exit → St → Prop} {s : List (Nat × Value)} {D : List Deferred} {L : List (Nat × Obj)} (L' : List (Nat × Obj)) (hs : L'.Sublist L) (h : WC c code K ⟨s, D, L'⟩) : WC c code K ⟨s, D, L⟩ := WC_drop (σ := ⟨s, D, L⟩) hs h
end Go.Proofs.YtakedlockchpcaaGreatDoor
namespace Go.Proofs.YtakedlockchpcaaGreatDoor
open Go.RowKit
theorem QW_a {c : Cx} {s : List (Nat × Value)} {L : List (Nat × Obj)} {o : Oper} {κ : Value → Prop} {v : Value} (hk : κ v) (h : Qt c s L o v := by first
    | exact Qt_move rfl | exact Qt_assign rfl | exact Qt_nilCheck rfl | exact Qt_fieldAddr0 rfl | exact Qt_fieldAddr rfl | exact Qt_ld1B rfl | exact Qt_extract rfl
    | exact Qt_lenB rfl | exact Qt_lenSl rfl | exact Qt_eqlStr rfl | exact Qt_neqStr rfl | exact Qt_geqStr rfl | exact Qt_cat rfl | exact Qt_bin rfl | exact Qt_pick_true rfl | exact Qt_pick_false rfl | exact Qt_not rfl
    | exact Qt_indexArr0 rfl | exact Qt_indexSl0 rfl | exact Qt_indexArr rfl | exact Qt_indexSl rfl | exact Qt_convInt rfl | exact Qt_ldA rfl | exact Qt_ldN rfl
    | exact Qt_eql_nilS rfl | exact Qt_eql_nilN rfl | exact Qt_neq_nilS rfl | exact Qt_neq_nilN rfl | exact Qt_eql_ifN rfl | exact Qt_eql_ifS rfl | exact Qt_neq_ifN rfl | exact Qt_neq_ifS rfl | exact Qt_eql_bool rfl | exact Qt_neq_bool rfl
    | exact Qt_rem rfl | exact Qt_quo rfl | exact Qt_shl rfl | exact Qt_shr rfl | exact Qt_and rfl | exact Qt_or rfl | exact Qt_xor rfl | exact Qt_neg rfl | exact Qt_min rfl | exact Qt_max rfl
    | exact Qt_cutB rfl | exact Qt_cutToB rfl | exact Qt_cutFromB rfl | exact Qt_indexB rfl | exact Qt_arrFrom rfl | exact Qt_sliceL rfl | exact Qt_slTo rfl | exact Qt_slLHM rfl
    | exact Qt_str1 rfl | exact Qt_str rfl (hv := own_by0 (by with_reducible assumption)) | exact Qt_str rfl | exact Qt_buildB rfl | exact Qt_makeFunc rfl | exact Qt_makeInterface rfl | exact Qt_typeAssert rfl | exact Qt_nilCheck_fn rfl) : QW c s L o κ := ⟨v, h, hk⟩
theorem sub_mem {A B : List (Nat × Obj)} (h : A.Sublist B) : ∀ q ∈ A, q ∈ B := fun _ hq => h.subset hq
end Go.Proofs.YtakedlockchpcaaGreatDoor
namespace Go.Proofs.YtakedlockchpcaaGreatDoor
open Go.RowKit
attribute [local irreducible] Fn WC WL WR OW Qt YieldFn QW FnP FnD
abbrev fltO (code : Nat) (a : Nat) : Obj := .cells #[.int .i64 code, .int .i64 a] 103 (0, 0)
abbrev flt (p : Nat) : Value := .iface 171 (.pointer (some ⟨p, 0, none⟩))
end Go.Proofs.YtakedlockchpcaaGreatDoor
namespace Go.Proofs.YtakedlockchpcaaGreatDoor
open Go.RowKit Go.Extern.Stop Go.Stop Go.Extern
theorem e_valueOf27 (t : Addr) (w : World) : (ReflectliteValue.unpack (.iface 173 (.pointer (some t)))).run Tryz.prog w
    = .ok (.agg #[.pointer (some ⟨1, 173, none⟩), .pointer (some ⟨w.heap.size, 0, none⟩), .int .u64 150]) (w.alloc (.cells #[.pointer (some t)] 173)) := by kernel_rfl
theorem e_type27 (a : Addr) (w : World) : (ReflectliteValue.methodAny (ReflectliteValue.valueError "reflectlite.Value.Type" 0) (fun t _ _ _ => ReflectliteType.toType t) #[.agg #[.pointer (some ⟨1, 173, none⟩), .pointer (some a), .int .u64 150]]).run Tryz.prog w
    = .ok (.iface 254 (.agg #[.pointer (some ⟨1, 173, none⟩)])) w := by kernel_rfl
theorem e_methodKind (h : Value) (w : World) : (Go.method 403 254 (.agg #[h]) "Kind").run Tryz.prog w = .ok (160, h) w := by kernel_rfl
theorem e_kind27 (w : World) : ((ReflectliteType.abiMethod fun t => (fun a : Nat => Value.int IntKind.u8 (a : Int)) <$> Rtype.kind t) #[.pointer (some ⟨1, 173, none⟩)]).run Tryz.prog w = .ok (.int .u8 22) w := by kernel_rfl
theorem e_kind25 (w : World) : ((ReflectliteType.abiMethod fun t => (fun a : Nat => Value.int IntKind.u8 (a : Int)) <$> Rtype.kind t) #[.pointer (some ⟨1, 171, none⟩)]).run Tryz.prog w = .ok (.int .u8 22) w := by kernel_rfl
theorem rlm (z : Sem Value) (f : TypeId → Addr → Nat → Nat → Sem Value) (v : Value) :
    ReflectliteValue.method z f #[v] = (do match ← ReflectliteValue.parts v with | none => z | some (t, a, fl) => f t a fl (fl % 32)) := rfl
theorem e_parts27 (a : Addr) (w : World) : (ReflectliteValue.parts (.agg #[.pointer (some ⟨1, 173, none⟩), .pointer (some a), .int .u64 150])).run Tryz.prog w = .ok (some (173, a, 150)) w := by kernel_rfl
theorem e_isNil27 (a p : Addr) (W : World) (ha : W.cell? a = some (.pointer (some p))) :
    (ReflectliteValue.method (ReflectliteValue.valueError "reflectlite.Value.IsNil" 0) ReflectliteValue.isNil #[.agg #[.pointer (some ⟨1, 173, none⟩), .pointer (some a), .int .u64 150]]).run Tryz.prog W = .ok (.bool false) W := by
  rw [rlm]
  simp only [Sem.run_bind, e_parts27, Result.andThen]
  simp [ReflectliteValue.isNil, loadVar, isAgg, underlying, Tryz.underlying173, ha, Result.andThen]
theorem e_methodElem (h : Value) (w : World) : (Go.method 403 254 (.agg #[h]) "Elem").run Tryz.prog w = .ok (192, .agg #[h]) w := by kernel_rfl
theorem e_methodImplements (h : Value) (w : World) : (Go.method 403 254 (.agg #[h]) "Implements").run Tryz.prog w = .ok (193, .agg #[h]) w := by kernel_rfl
theorem e_methodAssignableTo (h : Value) (w : World) : (Go.method 403 254 (.agg #[h]) "AssignableTo").run Tryz.prog w = .ok (190, .agg #[h]) w := by kernel_rfl
theorem e_elem27 (w : World) : (ReflectliteType.method ReflectliteType.elem #[.agg #[.pointer (some ⟨1, 173, none⟩)]]).run Tryz.prog w = .ok (.iface 254 (.agg #[.pointer (some ⟨1, 171, none⟩)])) w := by kernel_rfl
theorem e_implements25 (w : World) : (ReflectliteType.relation "Implements" ReflectliteType.implements_ #[.agg #[.pointer (some ⟨1, 171, none⟩)], .iface 254 (.agg #[.pointer (some ⟨1, 70, none⟩)])]).run Tryz.prog w = .ok (.bool true) w := by kernel_rfl
theorem e_typeOf25 (v : Value) (w : World) : (ReflectliteType.typeOf #[.iface 171 v]).run Tryz.prog w = .ok (.iface 254 (.agg #[.pointer (some ⟨1, 171, none⟩)])) w := by kernel_rfl
theorem e_assignable25 (w : World) : (ReflectliteType.relation "AssignableTo" ReflectliteType.assignableTo #[.agg #[.pointer (some ⟨1, 171, none⟩)], .iface 254 (.agg #[.pointer (some ⟨1, 171, none⟩)])]).run Tryz.prog w = .ok (.bool true) w := by kernel_rfl
theorem e_valueOf25 (e : Addr) (w : World) : (ReflectliteValue.unpack (.iface 171 (.pointer (some e)))).run Tryz.prog w
    = .ok (.agg #[.pointer (some ⟨1, 171, none⟩), .pointer (some ⟨w.heap.size, 0, none⟩), .int .u64 150]) (w.alloc (.cells #[.pointer (some e)] 171)) := by kernel_rfl
theorem e_elemOf27 (w : World) : (Rtype.elem? 173).run Tryz.prog w = .ok (some 171) w := by kernel_rfl
theorem e_mk25 (p : Addr) (w : World) : (ReflectliteValue.mk 171 p ReflectliteValue.flagAddr).run Tryz.prog w = .ok (.agg #[.pointer (some ⟨1, 171, none⟩), .pointer (some p), .int .u64 406]) w := by kernel_rfl
theorem e_elemV27 (a p : Addr) (W : World) (ha : W.cell? a = some (.pointer (some p))) :
    (ReflectliteValue.method (ReflectliteValue.valueError "reflectlite.Value.Elem" 0) ReflectliteValue.elem #[.agg #[.pointer (some ⟨1, 173, none⟩), .pointer (some a), .int .u64 150]]).run Tryz.prog W
      = .ok (.agg #[.pointer (some ⟨1, 171, none⟩), .pointer (some p), .int .u64 406]) W := by
  rw [rlm]
  simp only [Sem.run_bind, e_parts27, Result.andThen]
  simp [ReflectliteValue.elem, loadVar, isAgg, underlying, Tryz.underlying173, ha, Result.andThen, e_elemOf27, e_mk25]
theorem rls (v x : Value) : ReflectliteValue.set #[v, x] = (do
    let (some (dst, a, fl), some (src, b, _)) := (← ReflectliteValue.parts v, ← ReflectliteValue.parts x)
      | unsupported (.noEntry "extern/(internal/reflectlite.Value).Set.zeroValue")
    if fl / ReflectliteValue.flagAddr % 2 == 0 then unsupported (.noEntry "extern/(internal/reflectlite.Value).Set.unaddressable")
    let val ← loadVar src b
    if ← Rtype.directlyAssignable dst src then storeVar dst a val
    else if ← Rtype.implements dst src then
      if (← Rtype.kind src) == 20 then
        match val with
        | .nilIface => unsupported (.noEntry "extern/reflectlite: a nil value of one interface type handed on as a value of another")
        | _ => storeVar dst a val
      else storeVar dst a (.iface src val)
    else panicString ("reflectlite.Set: value of type " ++ (← Rtype.spelt src) ++ " is not assignable to type " ++ (← Rtype.spelt dst))
    pure (.tuple #[])) := rfl
theorem e_parts25a (a : Addr) (w : World) : (ReflectliteValue.parts (.agg #[.pointer (some ⟨1, 171, none⟩), .pointer (some a), .int .u64 406])).run Tryz.prog w = .ok (some (171, a, 406)) w := by kernel_rfl
theorem e_parts25 (a : Addr) (w : World) : (ReflectliteValue.parts (.agg #[.pointer (some ⟨1, 171, none⟩), .pointer (some a), .int .u64 150])).run Tryz.prog w = .ok (some (171, a, 150)) w := by kernel_rfl
theorem e_direct25 (w : World) : (Rtype.directlyAssignable 171 171).run Tryz.prog w = .ok true w := by kernel_rfl
theorem e_set25 (ta b e : Addr) (old : Value) (W : World) (hb : W.cell? b = some (.pointer (some e))) (ht : W.cell? ta = some old) (hf : W.frozen? ta = false) :
    (ReflectliteValue.set #[.agg #[.pointer (some ⟨1, 171, none⟩), .pointer (some ta), .int .u64 406], .agg #[.pointer (some ⟨1, 171, none⟩), .pointer (some b), .int .u64 150]]).run Tryz.prog W
      = .ok (.tuple #[]) (W.setCell ta (.pointer (some e))) := by
  rw [rls]
  simp only [Sem.run_bind, e_parts25a, e_parts25, Result.andThen]
  simp [ReflectliteValue.flagAddr, loadVar, isAgg, underlying, Tryz.underlying171, hb, Result.andThen, e_direct25, storeVar, Value.cells, storeCells, Addr.add]
  rw [run_store Tryz.prog W ta _ _ (by rfl)]
  simp [ht, hf]
set_option maxHeartbeats 4000000 in
theorem as_hit (e t : Addr) (old : Value) (w : World) (hg : w.cell? ⟨0, 0, none⟩ = some (.iface 254 (.agg #[.pointer (some ⟨1, 70, none⟩)]))) (ht0 : w.cell? t = some old) (hf0 : w.frozen? t = false) :
    Calls Tryz.prog 99 #[.iface 171 (.pointer (some e)), .iface 173 (.pointer (some t))] w fun ev w' => ev = .returned (.bool true) ∧ w' = ((((w.alloc (.cells #[.pointer (some t)] 173)).alloc (.cells #[.pointer (some ⟨1, 173, none⟩), .pointer (some ⟨w.heap.size, 0, none⟩), .int .u64 150] 236)).alloc (.cells #[.pointer (some ⟨1, 173, none⟩), .pointer (some ⟨w.heap.size, 0, none⟩), .int .u64 150] 236)).alloc (.cells #[.pointer (some e)] 171)).setCell t (.pointer (some e)) := by
  have h6 := @run_callFunc_extern Tryz.prog 129 _ (fun args => ReflectliteValue.unpack (args.getD 0 (.tuple #[]))) Tryz.func129 (by kernel_rfl) (by kernel_rfl) (by kernel_rfl) (by kernel_rfl)
  have h7 := @run_callFunc_extern Tryz.prog 130 _ (ReflectliteValue.methodAny (ReflectliteValue.valueError "reflectlite.Value.Type" 0) (fun t _ _ _ => ReflectliteType.toType t)) Tryz.func130 (by kernel_rfl) (by kernel_rfl) (by kernel_rfl) (by kernel_rfl)
  have h8 := @run_callFunc_extern Tryz.prog 131 _ (ReflectliteValue.method (ReflectliteValue.valueError "reflectlite.Value.IsNil" 0) ReflectliteValue.isNil) Tryz.func131 (by kernel_rfl) (by kernel_rfl) (by kernel_rfl) (by kernel_rfl)
  have h27 := @run_callFunc_extern Tryz.prog 160 _ (ReflectliteType.abiMethod fun t => do pure (.int .u8 (← Rtype.kind t))) Tryz.func160 (by kernel_rfl) (by kernel_rfl) (by kernel_rfl) (by kernel_rfl)
  have h37 := @run_callFunc_extern Tryz.prog 192 _ (ReflectliteType.method ReflectliteType.elem) Tryz.func192 (by kernel_rfl) (by kernel_rfl) (by kernel_rfl) (by kernel_rfl)
  have h38 := @run_callFunc_extern Tryz.prog 193 _ (ReflectliteType.relation "Implements" ReflectliteType.implements_) Tryz.func193 (by kernel_rfl) (by kernel_rfl) (by kernel_rfl) (by kernel_rfl)
  have h10 := @run_callFunc_extern Tryz.prog 133 _ ReflectliteType.typeOf Tryz.func133 (by kernel_rfl) (by kernel_rfl) (by kernel_rfl) (by kernel_rfl)
  have h35 := @run_callFunc_extern Tryz.prog 190 _ (ReflectliteType.relation "AssignableTo" ReflectliteType.assignableTo) Tryz.func190 (by kernel_rfl) (by kernel_rfl) (by kernel_rfl) (by kernel_rfl)
  have h11 := @run_callFunc_extern Tryz.prog 143 _ (ReflectliteValue.method (ReflectliteValue.valueError "reflectlite.Value.Elem" 0) ReflectliteValue.elem) Tryz.func143 (by kernel_rfl) (by kernel_rfl) (by kernel_rfl) (by kernel_rfl)
  have h12 := @run_callFunc_extern Tryz.prog 144 _ ReflectliteValue.set Tryz.func144 (by kernel_rfl) (by kernel_rfl) (by kernel_rfl) (by kernel_rfl)
  have tO := e_typeOf25
  have mA := e_methodAssignableTo
  have a25 := e_assignable25
  have v25 := e_valueOf25
  have f6 := e_valueOf27
  have f7 := e_type27
  have mK := e_methodKind
  have mE := e_methodElem
  have mI := e_methodImplements
  have k27 := e_kind27
  have k25 := e_kind25
  have e27 := e_elem27
  have i25 := e_implements25
  have n8 := e_isNil27 ⟨w.heap.size, 0, none⟩ t ((w.alloc (.cells #[.pointer (some t)] 173)).alloc (.cells #[.pointer (some ⟨1, 173, none⟩), .pointer (some ⟨w.heap.size, 0, none⟩), .int .u64 150] 236)) (by simp)
  have hlt : 0 < w.heap.size := by
    rcases Nat.eq_zero_or_pos w.heap.size with h0 | h
    · simp [World.cell?, h0] at hg
    · exact h
  have hg2 : ((w.alloc (.cells #[.pointer (some t)] 173)).alloc (.cells #[.pointer (some ⟨1, 173, none⟩), .pointer (some ⟨w.heap.size, 0, none⟩), .int .u64 150] 236)).cell? ⟨0, 0, none⟩ = some (.iface 254 (.agg #[.pointer (some ⟨1, 70, none⟩)])) := by
    rw [World.cell?_alloc_lt _ _ ⟨0, 0, none⟩ (by simp), World.cell?_alloc_lt _ _ ⟨0, 0, none⟩ hlt]; exact hg
  have htl : t.block < w.heap.size := by
    rcases Nat.lt_or_ge t.block w.heap.size with h | h
    · exact h
    · simp [World.cell?, Array.getElem?_eq_none h] at ht0
  have el := e_elemV27 ⟨w.heap.size, 0, none⟩ t (((w.alloc (.cells #[.pointer (some t)] 173)).alloc (.cells #[.pointer (some ⟨1, 173, none⟩), .pointer (some ⟨w.heap.size, 0, none⟩), .int .u64 150] 236)).alloc (.cells #[.pointer (some ⟨1, 173, none⟩), .pointer (some ⟨w.heap.size, 0, none⟩), .int .u64 150] 236)) (by rw [World.cell?_alloc_lt _ _ ⟨w.heap.size, 0, none⟩ (by simp; omega)]; simp)
  have st := e_set25 t ⟨w.heap.size + 1 + 1 + 1, 0, none⟩ e old ((((w.alloc (.cells #[.pointer (some t)] 173)).alloc (.cells #[.pointer (some ⟨1, 173, none⟩), .pointer (some ⟨w.heap.size, 0, none⟩), .int .u64 150] 236)).alloc (.cells #[.pointer (some ⟨1, 173, none⟩), .pointer (some ⟨w.heap.size, 0, none⟩), .int .u64 150] 236)).alloc (.cells #[.pointer (some e)] 171))
    (by rw [World.cell?_alloc_at _ _ _ _ (by simp)]; rfl)
    (by rw [World.cell?_alloc_lt _ _ t (by simp; omega), World.cell?_alloc_lt _ _ t (by simp; omega), World.cell?_alloc_lt _ _ t (by simp; omega), World.cell?_alloc_lt _ _ t htl]; exact ht0)
    (by rw [World.frozen?_alloc_old _ _ t (by simp; omega), World.frozen?_alloc_old _ _ t (by simp; omega), World.frozen?_alloc_old _ _ t (by simp; omega), World.frozen?_alloc_old _ _ t (Nat.ne_of_lt htl)]; exact hf0)
  go_enter Tryz.func99, Tryz.ntmps99
  go_wp2
  refine wp_loop_rounds 1 ?_
  rw [rounds_succ]
  go_wp2
  go_ret
  exact ⟨rfl, rfl⟩
end Go.Proofs.YtakedlockchpcaaGreatDoor
namespace Go.Proofs.YtakedlockchpcaaGreatDoor
open Go.RowKit Go.Extern.Stop Go.Stop Go.Extern
theorem i_typeOf (v : Value) (w : World) : (ReflectliteType.typeOf #[.iface 86 v]).run Tryz.prog w = .ok (.iface 254 (.agg #[.pointer (some ⟨1, 86, none⟩)])) w := by kernel_rfl
theorem i_methodComparable (h : Value) (w : World) : (Go.method 403 254 (.agg #[h]) "Comparable").run Tryz.prog w = .ok (191, .agg #[h]) w := by kernel_rfl
theorem i_comparable (w : World) : ((ReflectliteType.method fun t => do Rtype.noPackHeld "Comparable" t; pure (.bool (← typeInfo t).comparable)) #[.agg #[.pointer (some ⟨1, 86, none⟩)]]).run Tryz.prog w = .ok (.bool true) w := by kernel_rfl
theorem i_methodUnwrap (b o : Nat) (w : World) : (Go.method 403 171 (.pointer (some ⟨b, o, none⟩)) "Unwrap").run Tryz.prog w = .ok (166, .pointer (some ⟨b, o, none⟩)) w := by kernel_rfl
theorem i_noIs1 (v : Value) (xT : TypeId) (w : World) : (Instr.typeAssert (.iface 171 v) xT 265 true).run Tryz.prog w = .ok (.tuple #[.nilIface, .bool false]) w := run_typeAssert_lacksB Tryz.underlying265 (by kernel_rfl) (by kernel_rfl) v xT w
theorem i_noIs2 (v : Value) (xT : TypeId) (w : World) : (Instr.typeAssert (.iface 86 v) xT 265 true).run Tryz.prog w = .ok (.tuple #[.nilIface, .bool false]) w := run_typeAssert_lacksB Tryz.underlying265 (by kernel_rfl) (by kernel_rfl) v xT w
theorem i_un1 (v : Value) (xT : TypeId) (w : World) : (Instr.typeAssert (.iface 171 v) xT 261 true).run Tryz.prog w = .ok (.tuple #[.iface 171 v, .bool true]) w := run_typeAssert_hasB Tryz.underlying261 (by kernel_rfl) v xT w
theorem i_un2 (v : Value) (xT : TypeId) (w : World) : (Instr.typeAssert (.iface 86 v) xT 261 true).run Tryz.prog w = .ok (.tuple #[.nilIface, .bool false]) w := run_typeAssert_lacksB Tryz.underlying261 (by kernel_rfl) (by kernel_rfl) v xT w
theorem i_uns2 (v : Value) (xT : TypeId) (w : World) : (Instr.typeAssert (.iface 86 v) xT 262 true).run Tryz.prog w = .ok (.tuple #[.nilIface, .bool false]) w := run_typeAssert_lacksB Tryz.underlying262 (by kernel_rfl) (by kernel_rfl) v xT w
theorem i_ne (x y : Value) (w : World) : (binOp .eql 70 (.iface 171 x) (.iface 86 y)).run Tryz.prog w = .ok (.bool false) w := run_eql_iface_types _ _ x y Tryz.underlying70 (by decide) w
theorem i_info : ∃ i, Tryz.prog.info? 86 = some i ∧ i.comparable = true := by
  have h : (Tryz.prog.info? 86).map (·.comparable) = some true := by kernel_rfl
  exact Option.map_eq_some_iff.1 h
theorem i_eq (n m : Int) (w : World) : (binOp .eql 70 (.iface 86 (.int .i64 n)) (.iface 86 (.int .i64 m))).run Tryz.prog w = .ok (.bool (n == m)) w := by
  obtain ⟨i, hi, hc⟩ := i_info
  have h : ∀ d : Nat, (Op.equalIn (d + 2) 70 (.iface 86 (.int .i64 n)) (.iface 86 (.int .i64 m))).run Tryz.prog w = .ok (n == m) w := fun d => by
    rw [Op.equalIn]
    simp [run_underlying Tryz.underlying70, typeInfo, hi, hc, Op.equalIn, run_underlying Tryz.underlying86]
  simp only [binOp]
  simp [Op.equal, Op.maxDepth, h 9998]
theorem unwrap_hit (b o : Nat) (n : Int) (w : World) (h : w.cell? ⟨b, o, none⟩ = some (.int .i64 n)) : Calls Tryz.prog 166 #[.pointer (some ⟨b, o, none⟩)] w fun e w' => e = .returned (.iface 86 (.int .i64 n)) ∧ w' = w := by
  go_enter Tryz.func166, Tryz.ntmps166
  go_wp2
  go_ret
  exact ⟨rfl, rfl⟩
set_option maxHeartbeats 4000000 in
theorem is_hit (b o : Nat) (n m : Int) (w : World) (h : w.cell? ⟨b, o, none⟩ = some (.int .i64 n)) : Calls Tryz.prog 134 #[.iface 171 (.pointer (some ⟨b, o, none⟩)), .iface 86 (.int .i64 m), .bool true] w fun e w' => e = .returned (.bool (n == m)) ∧ w' = w := by
  have a1 := i_noIs1
  have a2 := i_noIs2
  have a3 := i_un1
  have a4 := i_un2
  have a5 := i_uns2
  have a6 := i_ne
  have a7 := i_eq
  have a8 := i_methodUnwrap
  cases hnm : (n == m) with
  | true =>
    go_enter Tryz.func134, Tryz.ntmps134
    go_wp2
    refine wp_loop_rounds 2 ?_
    rw [rounds_succ]
    go_wp2_with (go_at_call 166; refine (unwrap_hit b o n _ h).mono ?_; rintro e w' ⟨rfl, rfl⟩)
    rw [rounds_succ]
    go_wp2
    go_ret
    exact ⟨rfl, rfl⟩
  | false =>
    go_enter Tryz.func134, Tryz.ntmps134
    go_wp2
    refine wp_loop_rounds 2 ?_
    rw [rounds_succ]
    go_wp2_with (go_at_call 166; refine (unwrap_hit b o n _ h).mono ?_; rintro e w' ⟨rfl, rfl⟩)
    rw [rounds_succ]
    go_wp2
    go_ret
    exact ⟨rfl, rfl⟩
theorem i_callComparable (w : World) : (callFunc 191 #[.agg #[.pointer (some ⟨1, 86, none⟩)]]).run Tryz.prog w = .ok (.value (.bool true)) w := by
  have h := @run_callFunc_extern Tryz.prog 191 _ (ReflectliteType.method fun t => do Rtype.noPackHeld "Comparable" t; pure (.bool (← typeInfo t).comparable)) Tryz.func191 (by kernel_rfl) (by kernel_rfl) (by kernel_rfl) (by kernel_rfl)
  rw [h]
  have h2 := i_comparable w
  rw [h2]
  rfl
set_option maxHeartbeats 4000000 in
theorem Is_hit (b o : Nat) (n m : Int) (w : World) (h : w.cell? ⟨b, o, none⟩ = some (.int .i64 n)) : Calls Tryz.prog 100 #[.iface 171 (.pointer (some ⟨b, o, none⟩)), .iface 86 (.int .i64 m)] w fun e w' => e = .returned (.bool (n == m)) ∧ w' = w := by
  have h10 := @run_callFunc_extern Tryz.prog 133 _ ReflectliteType.typeOf Tryz.func133 (by kernel_rfl) (by kernel_rfl) (by kernel_rfl) (by kernel_rfl)
  have b1 := i_typeOf
  have b2 := i_methodComparable
  have b3 := i_callComparable
  go_enter Tryz.func100, Tryz.ntmps100
  go_wp2_with (go_at_call 134; refine (is_hit b o n m _ h).mono ?_; rintro e w' ⟨rfl, rfl⟩)
  go_ret
  exact ⟨rfl, rfl⟩
end Go.Proofs.YtakedlockchpcaaGreatDoor
namespace Go.Proofs.YtakedlockchpcaaGreatDoor
open Go.RowKit
noncomputable section
attribute [local irreducible] T.put T.set
def handle : Value := .iface 254 (.agg #[.pointer (some ⟨1, 70, none⟩)])
def hOk (Hp : H) : Bool := match Hp.h.get 0 with
  | some (.glob b0 v) => match v with
    | .iface r (.agg a) => match a.toList with
      | [.pointer (some ⟨B, o, none⟩)] => Nat.beq b0 0 && Nat.beq r 254 && Nat.beq B 1 && Nat.beq o 70
      | _ => false
    | _ => false
  | _ => false
theorem hOk_ok {Hp : H} (h : hOk Hp = true) : Hp.h.get 0 = some (.glob 0 handle) := by
  unfold hOk at h
  split at h
  · rename_i b0 v hg
    split at h
    · rename_i r a
      split at h
      · rename_i B o ha
        simp only [Bool.and_eq_true] at h
        obtain ⟨⟨⟨h1, h2⟩, h3⟩, h4⟩ := h
        rw [hg, Nat.eq_of_beq_eq_true h1, Nat.eq_of_beq_eq_true h2]
        have : a = #[.pointer (some ⟨B, o, none⟩)] := by apply Array.ext'; simpa using ha
        rw [this, Nat.eq_of_beq_eq_true h3, Nat.eq_of_beq_eq_true h4]
        rfl
      · cases h
    · cases h
  · cases h
def asX (vs : List V) (Hp : H) : Option (V × H) := match vs with
  | [.ifc t (.ptr k off), .ifc t2 (.ptr k2 off2)] => match Nat.beq t 171, Nat.beq t2 173, hOk Hp, Hp.h.get k2 with
    | true, true, true, some (.cells c E) => match c.get off2 with
      | some _ => some (.bool true, Hp.upd k2 (.cells (c.set off2 (.ptr k off)) E))
      | none => none
    | _, _, _, _ => none
  | _ => none
def isX (vs : List V) (Hp : H) : Option (V × H) := match vs with
  | [.ifc t (.ptr k off), .ifc t2 (.int .i64 m)] => match Nat.beq t 171, Nat.beq t2 86, rdX (Hp.h.get k) with
    | true, true, some c => match c.get off with
      | some (.int .i64 n) => some (.bool (n == m), Hp)
      | _ => none
    | _, _, _ => none
  | _ => none
def doorPr : PrimF := fun f vs Hp => match Nat.beq f 99 with
  | true => asX vs Hp
  | false => match Nat.beq f 100 with
    | true => isX vs Hp
    | false => none
theorem FPost_self {bs : Bs} {Hp : H} {M F : List (Nat × Obj)} {v : V} {v' : Value} (hm : HCov bs Hp M) (hv : RV bs v v') : FPost bs Hp M F v Hp v' (M ++ F) :=
  ⟨[], M, rfl, by simpa using hv, by simpa using hm, rfl, fun _ h => h, fun W B _ h => by simpa using h⟩
theorem setCell_row {W : World} {b off : Nat} {v : Value} {cs : Array Value} {E : TypeId} {fr : Nat × Nat} (h : W.heap[b]? = some (.cells cs E fr)) : W.setCell ⟨b, off, none⟩ v = W.setRow b (cs.setIfInBounds off v) := by
  unfold World.setCell World.setRow
  congr 1
  apply Array.ext_getElem?
  intro i
  rw [Array.getElem?_modify, Array.getElem?_modify]
  by_cases e : b = i
  · subst e; rw [if_pos rfl, if_pos rfl, h]; simp
  · rw [if_neg e, if_neg e]
theorem as_ok {Hp : H} {vs : List V} {v : V} {H2 : H} (h : asX vs Hp = some (v, H2)) : Ext Hp H2 ∧ ∀ bs M F vs', HCov bs Hp M → RVs bs vs vs' → Fn Tryz.prog 99 vs' (M ++ F) (FPost bs Hp M F v H2) := by
  unfold asX at h
  split at h
  · rename_i t k off t2 k2 off2
    split at h
    · rename_i c E g1 g2 g3 g4
      split at h
      · rename_i old g5
        cases h
        refine ⟨.upd _ _ _, fun bs M F vs' hm hvs g w hmem => ?_⟩
        obtain rfl := Nat.eq_of_beq_eq_true g1
        obtain rfl := Nat.eq_of_beq_eq_true g2
        cases hvs with
        | cons h1 hvs => cases hvs with
          | cons h2 hvs => cases hvs with
            | nil =>
              cases h1 with
              | ifc _ h1 => cases h2 with
                | ifc _ h2 =>
                  obtain ⟨b, base, av, rfl, hk⟩ := h1.ptr_inv
                  obtain ⟨b2, base2, av2, rfl, hk2⟩ := h2.ptr_inv
                  obtain ⟨b', base', av', i, o', a1, a2, a3⟩ := hm.at_ k2 _ g4
                  rw [hk2] at a1; cases a1
                  have a4 := a3
                  obtain ⟨cs, rfl, a5, a6⟩ := a4
                  obtain ⟨a7, old', a8, _⟩ := a6 off2 _ g5
                  obtain ⟨b0, base0, av0, i0, o0, c1, c2, rfl, cs0, E0, fr0, rfl, c3⟩ := hm.at_ 0 _ (hOk_ok g3)
                  have hi2 : (M ++ F)[i]? = some (b2, .cells cs E (0, 0)) := by rw [List.getElem?_append_left (List.getElem?_eq_some_iff.1 a2).1]; exact a2
                  have hi0 : (M ++ F)[i0]? = some (0, .cells cs0 E0 fr0) := by rw [List.getElem?_append_left (List.getElem?_eq_some_iff.1 c2).1]; exact c2
                  have hw2 := hmem.at_ hi2
                  have hw0 := hmem.at_ hi0
                  have hg : w.cell? ⟨0, 0, none⟩ = some handle := by rw [cell_of_row w _ 0 cs0 E0 fr0 hw0]; exact c3
                  have ht : w.cell? ⟨b2, base2 + off2, none⟩ = some old' := by rw [cell_of_row w b2 (base2 + off2) cs E (0, 0) hw2]; exact a8
                  have hf : w.frozen? ⟨b2, base2 + off2, none⟩ = false := by
                    simp [World.frozen?, hw2]
                  have hlt : b2 < w.heap.size := hmem.lt _ (List.mem_of_getElem? hi2)
                  refine (as_hit ⟨b, base + off, none⟩ ⟨b2, base2 + off2, none⟩ old' w hg ht hf).mono fun e w' ⟨he, hw'⟩ => ?_
                  have hm4 := (((hmem.alloc (.cells #[.pointer (some ⟨b2, base2 + off2, none⟩)] 173)).alloc (.cells #[.pointer (some ⟨1, 173, none⟩), .pointer (some ⟨w.heap.size, 0, none⟩), .int .u64 150] 236)).alloc (.cells #[.pointer (some ⟨1, 173, none⟩), .pointer (some ⟨w.heap.size, 0, none⟩), .int .u64 150] 236)).alloc (.cells #[.pointer (some ⟨b, base + off, none⟩)] 171)
                  have hm5 : Mem g (M ++ F) _ := hm4.sublist ((((List.sublist_cons_self _ _).trans (List.sublist_cons_self _ _)).trans (List.sublist_cons_self _ _)).trans (List.sublist_cons_self _ _))
                  have hset := hm5.setRow hi2 (cs.setIfInBounds (base2 + off2) (.pointer (some ⟨b, base + off, none⟩)))
                  have hL : (M ++ F).set i (b2, .cells (cs.setIfInBounds (base2 + off2) (.pointer (some ⟨b, base + off, none⟩))) E (0, 0)) = M.set i (b2, .cells (cs.setIfInBounds (base2 + off2) (.pointer (some ⟨b, base + off, none⟩))) E (0, 0)) ++ F := List.set_append_left _ _ (List.getElem?_eq_some_iff.1 a2).1
                  have hRO : RO bs b2 base2 av2 (.cells (c.set off2 (.ptr k off)) E) (.cells (cs.setIfInBounds (base2 + off2) (.pointer (some ⟨b, base + off, none⟩))) E (0, 0)) := by
                    refine ⟨_, rfl, by rw [Array.size_setIfInBounds]; exact a5, fun j u hj => ?_⟩
                    rcases T.get_set hj with ⟨rfl, rfl⟩ | ⟨hne, hj⟩
                    · refine ⟨a7, .pointer (some ⟨b, base + off, none⟩), ?_, .ptr hk⟩
                      have : base2 + j < cs.size := by omega
                      simp [this]
                    · obtain ⟨q1, q2, q3, q4⟩ := a6 j u hj
                      refine ⟨q1, q2, ?_, q4⟩
                      rw [Array.getElem?_setIfInBounds_ne (by omega)]; exact q3
                  have hnod : ((M ++ F).map Prod.fst).Nodup := hmem.nodup
                  have hpost := Post_upd (bs := bs) (s := noS) (Hp := ⟨Hp.h, Hp.n, Hp.log, []⟩) (M := M) (F := F) (σ := ⟨[], [], M ++ F⟩) (s2 := noS) (k := k2) (ob := .cells c E) (σ' := ⟨[], [], (M ++ F).set i (b2, .cells (cs.setIfInBounds (base2 + off2) (.pointer (some ⟨b, base + off, none⟩))) E (0, 0))⟩) ⟨covS_none, rfl, ⟨hm.n, hm.at_, hm.inj⟩, rfl⟩ hnod g4 hk2 a2 hRO covS_none rfl rfl
                  obtain ⟨r, M', f1, f2, f3, f4, f5, f6⟩ := hpost
                  refine ⟨.bool true, _, he, ?_, r, M', f2, .bool true, ⟨f4.n, f4.at_, f4.inj⟩, rfl, f5, f6⟩
                  rw [hw']
                  rw [setCell_row (hm5.at_ hi2)]
                  exact hset
      · cases h
    · cases h
  · cases h
theorem is_ok {Hp : H} {vs : List V} {v : V} {H2 : H} (h : isX vs Hp = some (v, H2)) : Ext Hp H2 ∧ ∀ bs M F vs', HCov bs Hp M → RVs bs vs vs' → Fn Tryz.prog 100 vs' (M ++ F) (FPost bs Hp M F v H2) := by
  unfold isX at h
  split at h
  · rename_i t k off t2 m
    split at h
    · rename_i c g1 g2 g3
      split at h
      · rename_i n g5
        cases h
        refine ⟨.refl _, fun bs M F vs' hm hvs g w hmem => ?_⟩
        obtain rfl := Nat.eq_of_beq_eq_true g1
        obtain rfl := Nat.eq_of_beq_eq_true g2
        cases hvs with
        | cons h1 hvs => cases hvs with
          | cons h2 hvs => cases hvs with
            | nil =>
              cases h1 with
              | ifc _ h1 => cases h2 with
                | ifc _ h2 =>
                  cases h2
                  obtain ⟨b, base, av, rfl, hk⟩ := h1.ptr_inv
                  obtain ⟨ob, hob, hrd⟩ := rdX_ok (bs := bs) (b := b) (base := base) (av := av) g3
                  obtain ⟨b', base', av', i, o', a1, a2, a3⟩ := hm.at_ k _ hob
                  rw [hk] at a1; cases a1
                  obtain ⟨cs, E, fr, rfl, a5, a6⟩ := hrd a3
                  obtain ⟨a7, n', a8, a9⟩ := a6 off _ g5
                  cases a9
                  have hi2 : (M ++ F)[i]? = some (b, .cells cs E fr) := by rw [List.getElem?_append_left (List.getElem?_eq_some_iff.1 a2).1]; exact a2
                  have ht : w.cell? ⟨b, base + off, none⟩ = some (.int .i64 n) := by rw [cell_of_row w b (base + off) cs E fr (hmem.at_ hi2)]; exact a8
                  refine (Is_hit b (base + off) n m w ht).mono fun e w' ⟨he, hw'⟩ => ?_
                  subst hw'
                  exact ⟨_, _, he, hmem, FPost_self hm (.bool _)⟩
      · cases h
    · cases h
  · cases h
theorem doorPr_ok : PrimOk Tryz.prog doorPr := by
  refine ⟨fun f vs Hp v H2 h => ?_, fun f vs Hp v H2 h => ?_, fun f vs Hp v H2 h bs M F vs' hm hvs => ?_⟩
  · unfold doorPr at h
    split at h
    · exact (as_ok h).1
    · split at h
      · exact (is_ok h).1
      · cases h
  · unfold doorPr at h
    split at h
    · rename_i e; rw [Nat.eq_of_beq_eq_true e]; infer_instance
    · split at h
      · rename_i e; rw [Nat.eq_of_beq_eq_true e]; infer_instance
      · cases h
  · unfold doorPr at h
    split at h
    · rename_i e; rw [Nat.eq_of_beq_eq_true e]; exact (as_ok h).2 bs M F vs' hm hvs
    · split at h
      · rename_i e; rw [Nat.eq_of_beq_eq_true e]; exact (is_ok h).2 bs M F vs' hm hvs
      · cases h
def doorH : H := ⟨(T.e).set 0 (.glob 0 handle), 1, [], []⟩
theorem doorH_cov {cs : Array Value} {E : TypeId} {fr : Nat × Nat} (h : cs[0]? = some handle) : HCov [(0, 0, 0)] doorH [(0, .cells cs E fr)] := by
  have key : ∀ {k : Nat} {o : O}, doorH.h.get k = some o → k = 0 ∧ o = .glob 0 handle := fun {k o} hk => by
    rcases T.get_set hk with ⟨h1, h2⟩ | ⟨_, h2⟩
    · exact ⟨h1, h2.symm⟩
    · cases h2
  refine ⟨rfl, fun k o hk => ?_, fun j k o o' b x y x' y' hj hk _ _ => ?_⟩
  · obtain ⟨rfl, rfl⟩ := key hk
    exact ⟨_, 0, 0, 0, _, rfl, rfl, rfl, cs, E, fr, rfl, h⟩
  · rw [(key hj).1, (key hk).1]
theorem doorH_zero : ∀ k o, doorH.h.get k = some o → k = 0 := fun k o hk => by
  rcases T.get_set hk with ⟨h1, _⟩ | ⟨_, h2⟩
  · exact h1
  · cases h2
end
end Go.Proofs.YtakedlockchpcaaGreatDoor
namespace Go.Proofs.YtakedlockchpcaaGreatDoor
open Go.RowKit
def HandleIn (L : List (Nat × Obj)) : Prop := ∃ cs E fr, (0, Obj.cells cs E fr) ∈ L ∧ cs[0]? = some handle
theorem HandleIn.cons {L : List (Nat × Obj)} (p : Nat × Obj) (h : HandleIn L) : HandleIn (p :: L) := by
  obtain ⟨cs, E, fr, h1, h2⟩ := h
  exact ⟨cs, E, fr, List.mem_cons_of_mem _ h1, h2⟩
end Go.Proofs.YtakedlockchpcaaGreatDoor
namespace Go.Proofs.YtakedlockchpcaaGreatDoor
open Go.RowKit
inductive Fk where
  | ww | nn | kk | tt | bb
def Fk.enc : Fk → Value → List UInt8
  | .ww, .int _ x => Go.Proofs.YtakedlockchpcaaGreatDoor.enc (zz x)
  | .nn, .int _ x => Go.Proofs.YtakedlockchpcaaGreatDoor.enc x.toNat
  | .kk, .int _ x => Go.Proofs.YtakedlockchpcaaGreatDoor.enc x.toNat
  | .tt, .bool x => encB x
  | .bb, .int _ x => [UInt8.ofNat x.toNat]
  | _, _ => []
def Fk.ok : Fk → Value → Prop
  | .ww, v => ∃ x : Int, v = .int .i64 x ∧ -9223372036854775808 ≤ x ∧ x < 9223372036854775808
  | .nn, v => ∃ x : Int, v = .int .u64 x ∧ 0 ≤ x ∧ x < 18446744073709551616
  | .kk, v => ∃ x : Int, v = .int .u32 x ∧ 0 ≤ x ∧ x < 4294967296
  | .tt, v => ∃ x : Bool, v = .bool x
  | .bb, v => ∃ x : UInt8, v = bV x
def encs : List Fk → List Value → List UInt8
  | f :: fs, v :: vs => f.enc v ++ encs fs vs
  | _, _ => []
def Oks : List Fk → List Value → Prop
  | [], [] => True
  | f :: fs, v :: vs => f.ok v ∧ Oks fs vs
  | _, _ => False
def encl (es : List Fk) (vss : List (List Value)) : List UInt8 := enc vss.length ++ vss.flatMap (encs es)
theorem Oks.len : ∀ {fs : List Fk} {vs : List Value}, Oks fs vs → vs.length = fs.length
  | [], [], _ => rfl
  | _ :: _, _ :: _, h => by simp [Oks.len h.2]
  | [], _ :: _, h => h.elim
  | _ :: _, [], h => h.elim
theorem Oks.app : ∀ {fs gs : List Fk} {vs us : List Value}, Oks fs vs → Oks gs us → Oks (fs ++ gs) (vs ++ us)
  | [], _, [], _, _, h => h
  | _ :: _, _, _ :: _, _, h1, h2 => ⟨h1.1, Oks.app h1.2 h2⟩
  | [], _, _ :: _, _, h, _ => h.elim
  | _ :: _, _, [], _, h, _ => h.elim
end Go.Proofs.YtakedlockchpcaaGreatDoor
namespace Go.Proofs.YtakedlockchpcaaGreatDoor
open Go.RowKit
def FnE (P : Program) (f : FuncId) (args : List Value) (L : List (Nat × Obj)) (Rr Rp : Value → List (Nat × Obj) → Prop) : Prop := ∀ g w, Mem g L w → Calls P f args.toArray w (EndR g Rr Rp)
theorem EndR.mono {g : World} {Rr Rp Rr' Rp' : Value → List (Nat × Obj) → Prop} (h1 : ∀ v L, Rr v L → Rr' v L) (h2 : ∀ v L, Rp v L → Rp' v L) {e : Ending} {w : World} (h : EndR g Rr Rp e w) : EndR g Rr' Rp' e w := by
  rcases h with ⟨v, L, a, b, c⟩ | ⟨v, L, a, b, c⟩
  · exact .inl ⟨v, L, a, b, h1 v L c⟩
  · exact .inr ⟨v, L, a, b, h2 v L c⟩
theorem FnE.mono {P : Program} {f : FuncId} {args : List Value} {L : List (Nat × Obj)} {Rr Rp Rr' Rp' : Value → List (Nat × Obj) → Prop} (h : FnE P f args L Rr Rp) (h1 : ∀ v L, Rr v L → Rr' v L) (h2 : ∀ v L, Rp v L → Rp' v L) : FnE P f args L Rr' Rp' :=
  fun g w hm => (h g w hm).mono fun _ _ hE => hE.mono h1 h2
theorem FnE.perm {P : Program} {f : FuncId} {args : List Value} {L L1 : List (Nat × Obj)} {Rr Rp Rr1 Rp1 : Value → List (Nat × Obj) → Prop} (h : FnE P f args L1 Rr1 Rp1) (hp : L1.Perm L) (h1 : ∀ v L', Rr1 v L' → ∃ L2, L2.Perm L' ∧ Rr v L2) (h2 : ∀ v L', Rp1 v L' → ∃ L2, L2.Perm L' ∧ Rp v L2) : FnE P f args L Rr Rp :=
  fun g w hm => (h g w (hm.perm hp)).mono fun _ _ hE => by
    rcases hE with ⟨v, L', a, b, c⟩ | ⟨v, L', a, b, c⟩
    · obtain ⟨L2, p, q⟩ := h1 v L' c; exact .inl ⟨v, L2, a, b.perm p, q⟩
    · obtain ⟨L2, p, q⟩ := h2 v L' c; exact .inr ⟨v, L2, a, b.perm p, q⟩
theorem FnE.ofFn {P : Program} {f : FuncId} {args : List Value} {L : List (Nat × Obj)} {Rr Rp : Value → List (Nat × Obj) → Prop} (h : Fn P f args L Rr) : FnE P f args L Rr Rp :=
  fun g w hm => (h g w hm).mono fun _ _ ⟨v, L', h1, h2, h3⟩ => .inl ⟨v, L', h1, h2, h3⟩
theorem FnE.toFn {P : Program} {f : FuncId} {args : List Value} {L : List (Nat × Obj)} {Rr Rp : Value → List (Nat × Obj) → Prop} (h : FnE P f args L Rr Rp) (hn : ∀ v L', ¬ Rp v L') : Fn P f args L Rr :=
  fun g w hm => (h g w hm).mono fun _ _ hE => by
    rcases hE with ⟨v, L', a, b, c⟩ | ⟨v, L', _, _, c⟩
    · exact ⟨v, L', a, b, c⟩
    · exact (hn v L' c).elim
theorem FnE_enter {P : Program} {f : FuncId} {fn : Func} {code : Code} {args : List Value} {L : List (Nat × Obj)} {Rr Rp : Value → List (Nat × Obj) → Prop} {N : Nat} (hf : P.funcs[f]? = some fn) (hb : fn.body = some code) (hN : fn.ntmps = N) (hl : Nat.ble args.length N = true)
    (h : ∀ g, WC ⟨P, g, N, 0, none⟩ code (postL ⟨P, g, N, 0, none⟩ fn Rr Rp) ⟨initS 0 args, [], L⟩) : FnE P f args L Rr Rp := enterL hf hb hN hl h
section
variable {c : Cx} {o : Oper} {Kn : St → Prop} {K : Exit → St → Prop} {σ : St}
theorem OW_enterE {f : FuncId} {vs : List Value} {Rr Rp : Value → List (Nat × Obj) → Prop} (hnd : ∀ cc, o.op ≠ .defer cc) (hr : ∀ a w, Holds c.g c.N σ a w → (execOp a.eval o).run c.P w = .ok (.enter f vs.toArray) w) (hd : dok c.N o.dst = true)
    (hF : FnE c.P f vs σ.L Rr Rp) (hk : ∀ v L', Rr v L' → Kn (St.put ⟨σ.s, σ.D, L'⟩ o.dst v)) (hp : ∀ v L', Rp v L' → K (.panic (pan v)) ⟨[], σ.D, L'⟩) : OW c o Kn K σ := fun a w hH => by
  refine ⟨fun _ _ => trivial, ?_⟩
  rw [Oper.semAt_eq _ _ _ hnd, hr a w hH]
  refine ⟨fun h => by simp at h, (callsIn_fw c.r _ (hF c.g w hH.mem)).mono fun e w' hE => ?_⟩
  rcases hE with ⟨v, L', h1, h2, h3⟩ | ⟨v, L', h1, h2, h3⟩
  · subst h1
    exact ⟨_, (hH.mem' h2).put hd v, hk v L' h3⟩
  · subst h1
    exact ⟨σ.D, L', ⟨hH.size, (fun t u hu => by cases hu), hH.defers, h2⟩, hp v L' h3⟩
theorem call_run {f : FuncId} {x : Operand} {A B : Array Value} {args : Array Operand} {tys : Array TypeId} [hf : FCall c.P f] {vs : List Value} (ho : o.op = .call { callee := .value x, args := args, argTypes := tys }) (hx : ev σ.s x = some (.func (.func f) A B)) (ha : evs σ.s args.toList = some vs) (a : Act) (w : World) (hH : Holds c.g c.N σ a w) :
    (execOp a.eval o).run c.P w = .ok (.enter f (A.toList ++ vs ++ B.toList).toArray) w := by
  have hargs : args.map a.eval = vs.toArray := by
    apply Array.ext'
    simpa using hH.evs ha
  have e : (A.toList ++ vs ++ B.toList).toArray = A ++ vs.toArray ++ B := by apply Array.ext'; simp
  rw [e]
  simp [execOp, ho, resolve, Deferred.ofValue, hH.ev hx, hargs, invoke, hf.h]
end
theorem OW_callE {c : Cx} {o : Oper} {Kn : St → Prop} {K : Exit → St → Prop} {s : List (Nat × Value)} {D : List Deferred} {L : List (Nat × Obj)} {f d : FuncId} {x : Operand} {args : Array Operand} {tys : Array TypeId} [hf : FCall c.P f] {vs : List Value} {Rr Rp : Value → List (Nat × Obj) → Prop}
    (ho : o.op = .call { callee := .value x, args := args, argTypes := tys }) (hF : FnE c.P f vs L Rr Rp) (hk : ∀ v L', Rr v L' → Kn ⟨(d, v) :: s, D, L'⟩) (hp : ∀ v L', Rp v L' → K (.panic (pan v)) ⟨[], D, L'⟩)
    (hdst : o.dst = some d := by exact rfl) (hd : Nat.blt d c.N = true := by exact rfl) (hx : ev s x = some (.func (.func f) #[] #[]) := by exact rfl) (ha : evs s args.toList = some vs := by exact rfl) : OW c o Kn K ⟨s, D, L⟩ :=
  OW_enterE (σ := ⟨s, D, L⟩) (by rw [ho]; intro cc h; cases h) (call_run ho hx ha) (by rw [hdst]; exact hd) (by simpa using hF) (by rw [hdst]; exact hk) hp
theorem OW_invE {c : Cx} {o : Oper} {Kn : St → Prop} {K : Exit → St → Prop} {s : List (Nat × Value)} {D : List Deferred} {L : List (Nat × Obj)} {f d : FuncId} {x : Operand} {name : String} {args : Array Operand} {tys : Array TypeId} {t : TypeId} {r : Value} (hm : methX c.P t name = some f) [hf : FCall c.P f] {vs : List Value} {Rr Rp : Value → List (Nat × Obj) → Prop}
    (ho : o.op = .call { callee := .invoke x name, args := args, argTypes := tys }) (hF : FnE c.P f (r :: vs) L Rr Rp) (hk : ∀ v L', Rr v L' → Kn ⟨(d, v) :: s, D, L'⟩) (hp : ∀ v L', Rp v L' → K (.panic (pan v)) ⟨[], D, L'⟩)
    (hdst : o.dst = some d := by exact rfl) (hd : Nat.blt d c.N = true := by exact rfl) (hx : ev s x = some (.iface t r) := by exact rfl) (ha : evs s args.toList = some vs := by exact rfl) : OW c o Kn K ⟨s, D, L⟩ :=
  OW_enterE (σ := ⟨s, D, L⟩) (by rw [ho]; intro cc h; cases h) (fun a w hH => invoke_run ho hx ha hm a w hH) (by rw [hdst]; exact hd) hF (by rw [hdst]; exact hk) hp
def Free (fr : Nat × Nat) (off n : Nat) : Prop := ∀ k, k < n → ¬ (fr.1 ≤ off + k ∧ off + k < fr.2)
theorem Free.sub {fr : Nat × Nat} {off n : Nat} (h : Free fr off n) (j m : Nat) (hm : j + m ≤ n) : Free fr (off + j) m := fun k hk => by
  have := h (j + k) (by omega)
  rwa [← Nat.add_assoc] at this
theorem Free.zero (off n : Nat) : Free (0, 0) off n := fun k _ => by simp
theorem OW_store1F {c : Cx} {o : Oper} {Kn : St → Prop} {K : Exit → St → Prop} {s : List (Nat × Value)} {D : List Deferred} {L : List (Nat × Obj)} {t : TypeId} [hs : TSize c.P t 1] {x y : Operand} {b off : Nat} {cs : Array Value} {v : Value} {E : TypeId} {fr : Nat × Nat} (ho : o.op = .store t x y) (i : Nat) (hi : L[i]? = some (b, .cells cs E fr)) (hl : off < cs.size) (hfr : Free fr off 1)
    (hk : Kn ⟨s, D, L.set i (b, .cells (cs.setIfInBounds off v) E fr)⟩) (hdst : o.dst = none := by exact rfl) (hx : ev s x = some (.pointer (some ⟨b, off, none⟩)) := by exact rfl) (hy : ev s y = some v := by exact rfl) (h1 : v.oneCell' = true := by exact rfl) : OW c o Kn K ⟨s, D, L⟩ := fun a w ha => by
  refine ⟨fun _ _ => trivial, ?_⟩
  have hcell : w.cell? ⟨b, off, none⟩ = some cs[off] := by rw [cell_of_row w b off cs E fr (ha.mem.at_ hi)]; simp [hl]
  have hfro : w.frozen? ⟨b, off, none⟩ = false := by
    obtain ⟨lo, hi'⟩ := fr
    have h2 := hfr 0 (by omega)
    simp only [Nat.add_zero] at h2
    unfold World.frozen?
    simp only [ha.mem.at_ hi, Bool.and_eq_false_iff, decide_eq_false_iff_not]
    omega
  have hc1 : v.cells = #[v] := by cases v <;> first | rfl | cases h1
  have hr : (execOp a.eval o).run c.P w = .ok .skip (w.setRow b (cs.setIfInBounds off v)) := by
    have hst : (store (⟨b, off, none⟩ : Addr) v).run c.P w = .ok () (w.setRow b (cs.setIfInBounds off v)) := by
      rw [run_store c.P w _ v _ h1, hcell]
      simp [hfro, setCell_eq_setRow w b off cs E fr v (ha.mem.at_ hi)]
    simp [execOp, ho, ha.ev hx, ha.ev hy, Instr.storeAt, Instr.sureAddr, storeVar, hs.h, hc1, storeCells, Addr.add, hst]
  rw [Oper.semAt_eq _ _ _ (by rw [ho]; intro cc h; cases h), hr]
  refine ⟨_, ?_, hk⟩
  rw [hdst]
  exact ha.mem' (ha.mem.setRow hi _)
theorem set_app {A R : List (Nat × Obj)} {i : Nat} {q : Nat × Obj} : (A ++ R).set (A.length + i) q = A ++ R.set i q := by
  rw [List.set_append_right _ _ (by omega)]
  congr 2
  omega
theorem get_app {A R : List (Nat × Obj)} {i : Nat} {q : Nat × Obj} (h : R[i]? = some q) : (A ++ R)[A.length + i]? = some q := by
  rw [List.getElem?_append_right (by omega), show A.length + i - A.length = i by omega]; exact h
def Lies (cs : Array Value) (off : Nat) (vs : List Value) : Prop := ∀ j v, vs[j]? = some v → cs[off + j]? = some v
structure Upd (cs cs' : Array Value) (off : Nat) (vs : List Value) : Prop where
  size : cs'.size = cs.size
  lies : Lies cs' off vs
  rest : ∀ q, q < off ∨ off + vs.length ≤ q → cs'[q]? = cs[q]?
theorem Lies.cons {cs : Array Value} {off : Nat} {v : Value} {vs : List Value} (h : Lies cs off (v :: vs)) : cs[off]? = some v ∧ Lies cs (off + 1) vs :=
  ⟨h 0 v rfl, fun j u hj => by rw [Nat.add_assoc, Nat.add_comm 1 j]; exact h (j + 1) u hj⟩
theorem Lies.app {cs : Array Value} {off : Nat} {vs us : List Value} (h : Lies cs off (vs ++ us)) : Lies cs off vs ∧ Lies cs (off + vs.length) us :=
  ⟨fun j v hj => h j v (by rw [List.getElem?_append_left (List.getElem?_eq_some_iff.1 hj).1]; exact hj), fun j v hj => by
    rw [Nat.add_assoc]; exact h _ v (by rw [List.getElem?_append_right (by omega), show vs.length + j - vs.length = j by omega]; exact hj)⟩
theorem Lies.cut {cs : Array Value} {off : Nat} {vs : List Value} (h : Lies cs off vs) (at_ m : Nat) : Lies cs (off + at_) ((vs.drop at_).take m) := fun j v hj => by
  rw [Nat.add_assoc]
  refine h _ v ?_
  rw [List.getElem?_take] at hj
  split at hj
  · rwa [List.getElem?_drop] at hj
  · cases hj
theorem Upd.app {cs cs1 cs2 : Array Value} {off off' : Nat} {vs us : List Value} (h1 : Upd cs cs1 off vs) (h2 : Upd cs1 cs2 off' us) (ho : off' = off + vs.length) : Upd cs cs2 off (vs ++ us) := by
  subst ho
  refine ⟨h2.size.trans h1.size, fun j v hj => ?_, fun q hq => ?_⟩
  · by_cases hlt : j < vs.length
    · rw [List.getElem?_append_left hlt] at hj
      rw [h2.rest _ (.inl (by omega))]; exact h1.lies j v hj
    · rw [List.getElem?_append_right (by omega)] at hj
      have := h2.lies _ v hj
      rwa [show off + vs.length + (j - vs.length) = off + j by omega] at this
  · rw [List.length_append] at hq
    rw [h2.rest q (by omega), h1.rest q (by omega)]
theorem Upd.refl_of {cs : Array Value} {off : Nat} {vs : List Value} (h : Lies cs off vs) : Upd cs cs off vs := ⟨rfl, h, fun _ _ => rfl⟩
theorem Upd.same {cs cs' : Array Value} {off : Nat} {vs : List Value} (h : Upd cs cs' off vs) (hl : Lies cs off vs) : cs' = cs := by
  apply Array.ext_getElem?
  intro q
  by_cases hq : q < off ∨ off + vs.length ≤ q
  · exact h.rest q hq
  · obtain ⟨v, hv⟩ : ∃ v, vs[q - off]? = some v := ⟨_, List.getElem?_eq_getElem (by omega)⟩
    have h1 := h.lies _ v hv
    have h2 := hl _ v hv
    rw [show off + (q - off) = q by omega] at h1 h2
    rw [h1, h2]
theorem Upd.one {cs : Array Value} {off : Nat} (v : Value) (h : off < cs.size) : Upd cs (cs.setIfInBounds off v) off [v] := by
  refine ⟨by simp, fun j u hj => ?_, fun q hq => ?_⟩
  · cases j with
    | zero => simp at hj; subst hj; simp [h]
    | succ j => simp at hj
  · rw [Array.getElem?_setIfInBounds_ne (by simp at hq; omega)]
inductive RW (S : Type) where
  | ok (s : S) (v : Value)
  | bad (code at_ : Nat)
inductive RWs (S : Type) where
  | ok (s : S) (vs : List Value)
  | bad (code at_ : Nat)
structure Wy (P : Program) where
  S : Type
  t : TypeId
  v : Value
  T0 : List (Nat × Obj)
  mem : S → List (Nat × Obj) → Prop
  room : S → Nat → Prop
  stp : Fk → S → Value → RW S
  hr : S → S
  mst : Bool → Nat → S → Option (Nat × Nat)
  hr_room : ∀ {s n}, room s n → room (hr s) n
  key_ok : ∀ {s x s' y}, 0 ≤ x → x < 4294967296 → stp .nn (hr s) (.int .u64 x) = .ok s' (.int .u64 y) → mst (decide (y ≤ 4294967295)) 4 s' = none → stp .kk s (.int .u32 x) = .ok s' (.int .u32 y) ∧ y < 4294967296
  key_bad : ∀ {s x c a}, stp .nn (hr s) (.int .u64 x) = .bad c a → stp .kk s (.int .u32 x) = .bad c a
  key_must : ∀ {s x s' y c a}, stp .nn (hr s) (.int .u64 x) = .ok s' (.int .u64 y) → mst (decide (y ≤ 4294967295)) 4 s' = some (c, a) → stp .kk s (.int .u32 x) = .bad c a
  keeps : T0 = [] ∨ ∀ k s x s' y, stp k s x = .ok s' y → y = x
  stp_ok : ∀ {k s x s' y}, stp k s x = .ok s' y → Fk.ok k x → Fk.ok k y
  stp_room : ∀ {k s x s' y n}, stp k s x = .ok s' y → Fk.ok k x → room s (n + 1) → room s' n
  room_le : ∀ {s n m}, room s n → m ≤ n → room s m
variable {P : Program}
def Wy.recv (W : Wy P) : Value := .iface W.t W.v
def Wy.stps (W : Wy P) : List Fk → W.S → List Value → RWs W.S
  | [], s, _ => .ok s []
  | _ :: _, s, [] => .ok s []
  | k :: ks, s, v :: vs => match W.stp k s v with
    | .bad c a => .bad c a
    | .ok s' v' => match W.stps ks s' vs with
      | .bad c a => .bad c a
      | .ok s'' vs' => .ok s'' (v' :: vs')
theorem Wy.stps_app (W : Wy P) : ∀ {ks : List Fk} {ls : List Fk} {s : W.S} {vs us : List Value}, Oks ks vs → W.stps (ks ++ ls) s (vs ++ us) = match W.stps ks s vs with
    | .bad c a => .bad c a
    | .ok s' vs' => match W.stps ls s' us with
      | .bad c a => .bad c a
      | .ok s'' us' => .ok s'' (vs' ++ us')
  | [], ls, s, [], us, _ => by
    simp only [List.nil_append, Wy.stps]
    cases W.stps ls s us <;> rfl
  | k :: ks, ls, s, v :: vs, us, h => by
    simp only [List.cons_append, Wy.stps]
    cases W.stp k s v with
    | bad c a => rfl
    | ok s' v' =>
      simp only
      rw [Wy.stps_app W h.2]
      cases W.stps ks s' vs with
      | bad c a => rfl
      | ok s'' vs' =>
        simp only
        cases W.stps ls s'' us <;> rfl
  | [], _, _, _ :: _, _, h => h.elim
  | _ :: _, _, _, [], _, h => h.elim
theorem Wy.stps_ok (W : Wy P) : ∀ {ks : List Fk} {s s' : W.S} {vs us : List Value}, W.stps ks s vs = .ok s' us → Oks ks vs → Oks ks us
  | [], _, _, [], us, h, _ => by simp only [Wy.stps] at h; cases h; trivial
  | k :: ks, s, s', v :: vs, us, h, ho => by
    simp only [Wy.stps] at h
    cases h1 : W.stp k s v with
    | bad c a => rw [h1] at h; cases h
    | ok s1 v1 =>
      rw [h1] at h
      cases h2 : W.stps ks s1 vs with
      | bad c a => simp only [h2] at h; cases h
      | ok s2 vs2 =>
        simp only [h2] at h
        cases h
        exact ⟨W.stp_ok h1 ho.1, Wy.stps_ok W h2 ho.2⟩
  | [], _, _, _ :: _, _, _, h => h.elim
  | _ :: _, _, _, [], _, _, h => h.elim
theorem Wy.stps_room (W : Wy P) : ∀ {ks : List Fk} {s s' : W.S} {vs us : List Value} {n : Nat}, W.stps ks s vs = .ok s' us → Oks ks vs → W.room s (n + ks.length) → W.room s' n
  | [], _, _, [], us, n, h, _, hr => by simp only [Wy.stps] at h; cases h; exact hr
  | k :: ks, s, s', v :: vs, us, n, h, ho, hr => by
    simp only [Wy.stps] at h
    cases h1 : W.stp k s v with
    | bad c a => rw [h1] at h; cases h
    | ok s1 v1 =>
      rw [h1] at h
      cases h2 : W.stps ks s1 vs with
      | bad c a => simp only [h2] at h; cases h
      | ok s2 vs2 =>
        simp only [h2] at h
        cases h
        exact Wy.stps_room W h2 ho.2 (W.stp_room h1 ho.1 hr)
  | [], _, _, _ :: _, _, _, _, h, _ => h.elim
  | _ :: _, _, _, [], _, _, _, h, _ => h.elim
theorem Wy.cat_ok (W : Wy P) {fs gs : List Fk} {s s1 s2 : W.S} {vs us vs1 us2 : List Value} (h1 : W.stps fs s vs = .ok s1 vs1) (ho : Oks fs vs) (h2 : W.stps gs s1 us = .ok s2 us2) : W.stps (fs ++ gs) s (vs ++ us) = .ok s2 (vs1 ++ us2) := by
  rw [W.stps_app ho, h1]
  simp only [h2]
theorem Wy.cat_bad (W : Wy P) {fs gs : List Fk} {s s1 : W.S} {vs us vs1 : List Value} {c a : Nat} (h1 : W.stps fs s vs = .ok s1 vs1) (ho : Oks fs vs) (h2 : W.stps gs s1 us = .bad c a) : W.stps (fs ++ gs) s (vs ++ us) = .bad c a := by
  rw [W.stps_app ho, h1]
  simp only [h2]
theorem Wy.bad_cat (W : Wy P) {fs : List Fk} (gs : List Fk) {s : W.S} {vs : List Value} (us : List Value) {c a : Nat} (h1 : W.stps fs s vs = .bad c a) (ho : Oks fs vs) : W.stps (fs ++ gs) s (vs ++ us) = .bad c a := by
  rw [W.stps_app ho, h1]
theorem Wy.stps_len (W : Wy P) {fs : List Fk} {s s' : W.S} {vs us : List Value} (h : W.stps fs s vs = .ok s' us) (ho : Oks fs vs) : us.length = fs.length := (W.stps_ok h ho).len
theorem Wy.stps1_ok (W : Wy P) {k : Fk} {s s' : W.S} {v v' : Value} (h : W.stp k s v = .ok s' v') : W.stps [k] s [v] = .ok s' [v'] := by simp only [Wy.stps, h]
theorem Wy.stps1_bad (W : Wy P) {k : Fk} {s : W.S} {v : Value} {c a : Nat} (h : W.stp k s v = .bad c a) : W.stps [k] s [v] = .bad c a := by simp only [Wy.stps, h]
theorem Oks.split {k : Fk} {ks : List Fk} {vs : List Value} (h : Oks (k :: ks) vs) : ∃ v us, vs = v :: us ∧ k.ok v ∧ Oks ks us := by
  cases vs with
  | nil => exact h.elim
  | cons v us => exact ⟨v, us, rfl, h.1, h.2⟩
theorem Oks.nil {vs : List Value} (h : Oks [] vs) : vs = [] := by
  cases vs with
  | nil => rfl
  | cons v us => exact h.elim
def FRet (W : Wy P) (r : RWs W.S) (R : List (Nat × Obj)) (i b : Nat) (cs : Array Value) (E : TypeId) (fr : Nat × Nat) (off : Nat) (L' : List (Nat × Obj)) : Prop :=
  ∃ s' vs' Lp' cs', r = .ok s' vs' ∧ L' = Lp' ++ R.set i (b, .cells cs' E fr) ∧ W.mem s' Lp' ∧ Upd cs cs' off vs' ∧ ∀ q ∈ W.T0, q ∈ R.set i (b, .cells cs' E fr)
def FPan (W : Wy P) (r : RWs W.S) (R : List (Nat × Obj)) (i b : Nat) (cs : Array Value) (E : TypeId) (fr : Nat × Nat) (u : Value) (L' : List (Nat × Obj)) : Prop :=
  ∃ c a p s' Lp' cs', r = .bad c a ∧ u = flt p ∧ L' = (p, fltO c a) :: (Lp' ++ R.set i (b, .cells cs' E fr)) ∧ W.mem s' Lp' ∧ cs'.size = cs.size
def Flat (W : Wy P) (f : FuncId) (a0 : Value) (fs : List Fk) : Prop :=
  ∀ (s : W.S) (Lp R : List (Nat × Obj)) (i b : Nat) (cs : Array Value) (E : TypeId) (fr : Nat × Nat) (off : Nat) (vs : List Value), W.mem s Lp → (∀ q ∈ W.T0, q ∈ R) → W.room s fs.length → R[i]? = some (b, .cells cs E fr) → Oks fs vs → Lies cs off vs → Free fr off fs.length →
    FnE P f [a0, .pointer (some ⟨b, off, none⟩)] (Lp ++ R) (fun v L' => v = .tuple #[] ∧ FRet W (W.stps fs s vs) R i b cs E fr off L') (FPan W (W.stps fs s vs) R i b cs E fr)
theorem FnE.dropP {P : Program} {f : FuncId} {args : List Value} {L : List (Nat × Obj)} {Rr Rp Rp' : Value → List (Nat × Obj) → Prop} (h : FnE P f args L Rr Rp) (h2 : ∀ v L', Rp v L' → ∃ Lx, Lx.Sublist L' ∧ Rp' v Lx) : FnE P f args L Rr Rp' :=
  fun g w hm => (h g w hm).mono fun _ _ hE => by
    rcases hE with ⟨v, L', a, b, c⟩ | ⟨v, L', a, b, c⟩
    · exact .inl ⟨v, L', a, b, c⟩
    · obtain ⟨Lx, p, q⟩ := h2 v L' c; exact .inr ⟨v, Lx, a, b.sublist p, q⟩
theorem set_same {α : Type} {l : List α} {i : Nat} {x : α} (h : l[i]? = some x) : l.set i x = l := by
  apply List.ext_getElem?
  intro j
  rw [List.getElem?_set]
  obtain ⟨hl, he⟩ := List.getElem?_eq_some_iff.1 h
  by_cases e : i = j
  · subst e; simp [hl, he]
  · rw [if_neg e]
theorem get_set_self {α : Type} {l : List α} {i : Nat} {x : α} (h : l[i]? = some x) (y : α) : (l.set i y)[i]? = some y := by
  have := (List.getElem?_eq_some_iff.1 h).1
  simp [this]
section
variable {c : Cx} {o : Oper} {Kn : St → Prop} {K : Exit → St → Prop} {sl : List (Nat × Value)} {D : List Deferred}
structure After (W : Wy c.P) (fs : List Fk) (s : W.S) (vs : List Value) (R : List (Nat × Obj)) (i b : Nat) (cs : Array Value) (E : TypeId) (fr : Nat × Nat) (off : Nat) (Kn : List (Nat × Obj) → Prop) (Kp : List PanicEntry → List (Nat × Obj) → Prop) : Prop where
  ret : ∀ s' vs' Lp' cs', W.stps fs s vs = .ok s' vs' → W.mem s' Lp' → Upd cs cs' off vs' → (∀ q ∈ W.T0, q ∈ R.set i (b, .cells cs' E fr)) → Kn (Lp' ++ R.set i (b, .cells cs' E fr))
  pan : ∀ q a p s' Lp' cs', W.stps fs s vs = .bad q a → W.mem s' Lp' → cs'.size = cs.size → Kp (pan (flt p)) ((p, fltO q a) :: (Lp' ++ R.set i (b, .cells cs' E fr)))
variable {W : Wy c.P} {s : W.S} {Lp R : List (Nat × Obj)} {i b : Nat} {cs : Array Value} {E : TypeId} {fr : Nat × Nat} {off : Nat}
theorem OW_flatF {fs : List Fk} {vs : List Value} {f d : FuncId} {x : Operand} {args : Array Operand} {tys : Array TypeId} [hf : FCall c.P f] (hC : Flat W f W.recv fs) (hM : W.mem s Lp) (hT : ∀ q ∈ W.T0, q ∈ R) (hr : W.room s fs.length) (hR : R[i]? = some (b, .cells cs E fr)) (hv : Oks fs vs) (hl : Lies cs off vs) (hfr : Free fr off fs.length)
    (ho : o.op = .call { callee := .value x, args := args, argTypes := tys }) (hk : After W fs s vs R i b cs E fr off (fun L => Kn ⟨(d, .tuple #[]) :: sl, D, L⟩) (fun ch L => K (.panic ch) ⟨[], D, L⟩))
    (hdst : o.dst = some d := by exact rfl) (hd : Nat.blt d c.N = true := by exact rfl) (hx : ev sl x = some (.func (.func f) #[] #[]) := by exact rfl) (ha : evs sl args.toList = some [W.recv, .pointer (some ⟨b, off, none⟩)] := by exact rfl) : OW c o Kn K ⟨sl, D, Lp ++ R⟩ :=
  OW_callE ho (hC s Lp R i b cs E fr off vs hM hT hr hR hv hl hfr) (fun v L' ⟨h0, s', vs', Lp', cs', h1, h2, h3, h4, h5⟩ => by
    rw [h2, h0]; exact hk.ret s' vs' Lp' cs' h1 h3 h4 h5) (fun v L' ⟨q, a, p, s', Lp', cs', h1, h2, h3, h4, h5⟩ => by
    rw [h2, h3]; exact hk.pan q a p s' Lp' cs' h1 h4 h5) hdst hd hx ha
theorem OW_flatI {k : Fk} {x0 : Value} {f d : FuncId} {x : Operand} {name : String} {args : Array Operand} {tys : Array TypeId} (hm : methX c.P W.t name = some f) [hf : FCall c.P f] (hC : Flat W f W.v [k]) (hM : W.mem s Lp) (hT : ∀ q ∈ W.T0, q ∈ R) (hr : W.room s 1) (hR : R[i]? = some (b, .cells cs E fr)) (hv : k.ok x0) (hl : cs[off]? = some x0) (hfr : Free fr off 1)
    (ho : o.op = .call { callee := .invoke x name, args := args, argTypes := tys }) (hk : After W [k] s [x0] R i b cs E fr off (fun L => Kn ⟨(d, .tuple #[]) :: sl, D, L⟩) (fun ch L => K (.panic ch) ⟨[], D, L⟩))
    (hdst : o.dst = some d := by exact rfl) (hd : Nat.blt d c.N = true := by exact rfl) (hx : ev sl x = some (.iface W.t W.v) := by exact rfl) (ha : evs sl args.toList = some [.pointer (some ⟨b, off, none⟩)] := by exact rfl) : OW c o Kn K ⟨sl, D, Lp ++ R⟩ :=
  OW_enterE (σ := ⟨sl, D, Lp ++ R⟩) (by rw [ho]; intro cc h; cases h) (fun a w hH => invoke_run ho hx ha hm a w hH) (by rw [hdst]; exact hd) (hC s Lp R i b cs E fr off [x0] hM hT hr hR ⟨hv, trivial⟩ (fun j v hj => by
    cases j with
    | zero => simp at hj; subst hj; exact hl
    | succ j => simp at hj) hfr) (fun v L' ⟨h0, s', vs', Lp', cs', h1, h2, h3, h4, h5⟩ => by
    rw [hdst, h2, h0]; exact hk.ret s' vs' Lp' cs' h1 h3 h4 h5) (fun v L' ⟨q, a, p, s', Lp', cs', h1, h2, h3, h4, h5⟩ => by
    rw [h2, h3]; exact hk.pan q a p s' Lp' cs' h1 h4 h5)
theorem OW_locI {k : Fk} {x0 : Value} {f d m : FuncId} {x : Operand} {name : String} {args : Array Operand} {tys : Array TypeId} (hm : methX c.P W.t name = some f) [hf : FCall c.P f] (hC : Flat W f W.v [k]) (hM : W.mem s Lp) (hT : ∀ q ∈ W.T0, q ∈ R) (hr : W.room s 1) (hv : k.ok x0)
    (ho : o.op = .call { callee := .invoke x name, args := args, argTypes := tys })
    (hk : ∀ s' x' Lp', W.stp k s x0 = .ok s' x' → W.mem s' Lp' → Kn ⟨(d, .tuple #[]) :: sl, D, (m, .cells #[x'] E (0, 0)) :: (Lp' ++ R)⟩)
    (hp : ∀ q a p s' Lp', W.stp k s x0 = .bad q a → W.mem s' Lp' → K (.panic (pan (flt p))) ⟨[], D, (p, fltO q a) :: (Lp' ++ R)⟩)
    (hdst : o.dst = some d := by exact rfl) (hd : Nat.blt d c.N = true := by exact rfl) (hx : ev sl x = some (.iface W.t W.v) := by exact rfl) (ha : evs sl args.toList = some [.pointer (some ⟨m, 0, none⟩)] := by exact rfl) : OW c o Kn K ⟨sl, D, (m, .cells #[x0] E (0, 0)) :: (Lp ++ R)⟩ := by
  have hF := hC s Lp ((m, .cells #[x0] E (0, 0)) :: R) 0 m #[x0] E (0, 0) 0 [x0] hM (fun q hq => List.mem_cons_of_mem _ (hT q hq)) hr rfl ⟨hv, trivial⟩ (fun j v hj => by
    cases j with
    | zero => simp at hj; subst hj; rfl
    | succ j => simp at hj) (Free.zero _ _)
  have hF2 : FnE c.P f [W.v, .pointer (some ⟨m, 0, none⟩)] ((m, .cells #[x0] E (0, 0)) :: (Lp ++ R)) (fun v L' => v = .tuple #[] ∧ ∃ s' x' Lp', W.stp k s x0 = .ok s' x' ∧ L' = (m, .cells #[x'] E (0, 0)) :: (Lp' ++ R) ∧ W.mem s' Lp') (fun u L' => ∃ q a p s' Lp', W.stp k s x0 = .bad q a ∧ u = flt p ∧ L' = (p, fltO q a) :: (Lp' ++ R) ∧ W.mem s' Lp') := by
    refine FnE.perm (Rr1 := fun v L' => v = .tuple #[] ∧ FRet W (W.stps [k] s [x0]) ((m, .cells #[x0] E (0, 0)) :: R) 0 m #[x0] E (0, 0) 0 L') (Rp1 := fun u L' => ∃ q a p s' Lp', W.stp k s x0 = .bad q a ∧ u = flt p ∧ L' = (p, fltO q a) :: (Lp' ++ R) ∧ W.mem s' Lp') (hF.dropP ?_) List.perm_middle ?_ ?_
    · rintro u L' ⟨q, a, p, s', Lp', cs', h1, h2, rfl, h4, _⟩
      refine ⟨(p, fltO q a) :: (Lp' ++ R), .cons_cons _ (List.Sublist.append (.refl _) (.cons _ (.refl _))), q, a, p, s', Lp', ?_, h2, rfl, h4⟩
      simp only [Wy.stps] at h1
      cases e : W.stp k s x0 with
      | ok s1 v1 => rw [e] at h1; cases h1
      | bad c1 a1 => rw [e] at h1; cases h1; rfl
    · rintro v L' ⟨h0, s', vs', Lp', cs', h1, rfl, h3, h4, _⟩
      simp only [Wy.stps] at h1
      cases e : W.stp k s x0 with
      | bad c1 a1 => rw [e] at h1; cases h1
      | ok s1 v1 =>
        rw [e] at h1
        cases h1
        have hc : cs' = #[v1] := by
          apply Array.ext_getElem?
          intro q
          have hz := h4.size
          cases q with
          | zero => have := h4.lies 0 v1 rfl; simpa using this
          | succ q => rw [Array.getElem?_eq_none (by simp at hz; omega), Array.getElem?_eq_none (by simp)]
        subst hc
        exact ⟨_, List.perm_middle.symm, h0, _, _, Lp', rfl, rfl, h3⟩
    · rintro u L' h
      exact ⟨L', .refl _, h⟩
  refine OW_enterE (σ := ⟨sl, D, (m, .cells #[x0] E (0, 0)) :: (Lp ++ R)⟩) (by rw [ho]; intro cc h; cases h) (fun a w hH => invoke_run ho hx ha hm a w hH) (by rw [hdst]; exact hd) hF2 (fun v L' ⟨h0, s', x', Lp', h1, h2, h3⟩ => ?_) (fun u L' ⟨q, a, p, s', Lp', h1, h2, h3, h4⟩ => ?_)
  · rw [hdst, h0, h2]; exact hk s' x' Lp' h1 h3
  · rw [h2, h3]; exact hp q a p s' Lp' h1 h4
theorem Qt_nilCheck_m {L : List (Nat × Obj)} {x : Operand} {t f : Nat} {name : String} {v : Value} (ho : o.op = .nilCheck x) (hx : ev sl x = some (.func (.method name) #[.iface t v] #[]) := by exact rfl) (hm : methX c.P t name = some f := by with_reducible assumption) : Qt c sl L o (.func (.method name) #[.iface t v] #[]) :=
  Qt_of_run (by simp [ho]) (fun ρ hρ w _ => by
    have hpos : 0 < Made.depth := by decide
    obtain ⟨q, hq⟩ : ∃ q, c.P.types.size + Made.depth = q + 1 := ⟨c.P.types.size + Made.depth - 1, by omega⟩
    have hnr := nilAhead_run hm q v w
    simp [execOp, ho, hρ x _ hx, hq, hnr])
end
theorem Wy.keepT {P : Program} (W : Wy P) {R : List (Nat × Obj)} {i b : Nat} {cs : Array Value} {E : TypeId} {fr : Nat × Nat} {off : Nat} {k : Fk} {s s' : W.S} {x y : Value} (hT : ∀ q ∈ W.T0, q ∈ R) (hR : R[i]? = some (b, .cells cs E fr)) (hc : cs[off]? = some x) (hs : W.stp k s x = .ok s' y) : ∀ q ∈ W.T0, q ∈ R.set i (b, .cells (cs.setIfInBounds off y) E fr) := by
  rcases W.keeps with h | h
  · rw [h]; intro q hq; cases hq
  · rw [h _ _ _ _ _ hs]
    have e : cs.setIfInBounds off x = cs := by
      apply Array.ext_getElem?
      intro j
      by_cases ej : off = j
      · subst ej
        rw [Array.getElem?_setIfInBounds_self_of_lt (Array.getElem?_eq_some_iff.1 hc).1, hc]
      · rw [Array.getElem?_setIfInBounds_ne ej]
    rw [e, set_same hR]; exact hT
structure Meth (W : Wy Tryz.prog) where
  fw : FuncId
  fn : FuncId
  ft : FuncId
  fo : FuncId
  fh : FuncId
  fm : FuncId
  mw : methX Tryz.prog W.t "anabranch/codec.whole" = some fw
  mn : methX Tryz.prog W.t "anabranch/codec.number" = some fn
  mt : methX Tryz.prog W.t "anabranch/codec.truth" = some ft
  mo : methX Tryz.prog W.t "anabranch/codec.one" = some fo
  mh : methX Tryz.prog W.t "anabranch/codec.here" = some fh
  mm : methX Tryz.prog W.t "anabranch/codec.must" = some fm
  iw : FCall Tryz.prog fw
  jn : FCall Tryz.prog fn
  it : FCall Tryz.prog ft
  io : FCall Tryz.prog fo
  ih : FCall Tryz.prog fh
  im : FCall Tryz.prog fm
  cw : Flat W fw W.v [.ww]
  cn : Flat W fn W.v [.nn]
  ct : Flat W ft W.v [.tt]
  co : Flat W fo W.v [.bb]
  ch : ∀ (s : W.S) (Lp R : List (Nat × Obj)), W.mem s Lp → FnE Tryz.prog fh [W.v] (Lp ++ R) (fun v L' => v = .tuple #[] ∧ ∃ Lp', L' = Lp' ++ R ∧ W.mem (W.hr s) Lp') (fun _ _ => False)
  cm : ∀ (s : W.S) (Lp R : List (Nat × Obj)) (b : Bool) (code : Nat), W.mem s Lp → FnE Tryz.prog fm [W.v, .bool b, .int .i64 code] (Lp ++ R) (fun v L' => v = .tuple #[] ∧ L' = Lp ++ R ∧ W.mst b code s = none) (fun u L' => ∃ c a p, W.mst b code s = some (c, a) ∧ u = flt p ∧ L' = (p, fltO c a) :: (Lp ++ R))
end Go.Proofs.YtakedlockchpcaaGreatDoor
namespace Go.Proofs.YtakedlockchpcaaGreatDoor
abbrev recF : List Fk := [.kk, .ww, .ww, .bb, .tt, .tt]
abbrev opF : List Fk := [.ww, .ww, .ww, .ww]
abbrev accF : List Fk := [.ww, .ww, .nn, .ww, .ww]
abbrev itemF : List Fk := [.tt, .ww, .kk, .ww, .ww, .bb, .tt, .tt]
abbrev entryF : List Fk := [.ww, .kk, .ww, .ww, .bb, .ww, .ww, .nn, .ww, .ww]
abbrev binF : List Fk := [.ww]
abbrev chF : List Fk := [.ww, .ww]
abbrev ctF : List Fk := [.ww, .ww, .ww, .ww, .ww, .ww, .ww]
abbrev khF : List Fk := [.ww, .ww, .tt]
structure MV where
  kind : Int
  ver : Int
  rc : List Value
  time : Int
  num : Int
  ch : List Value
  bins : List (List Value)
  ct : List Value
  kh : List Value
  ents : List (List Value)
def encCmd (ch : List Value) (bins : List (List Value)) (ct : List Value) : List UInt8 := encs chF ch ++ (encl binF bins ++ encs ctF ct)
def encChunk (kh : List Value) (ents : List (List Value)) : List UInt8 := encs khF kh ++ encl entryF ents
def MV.body (m : MV) : List UInt8 :=
  if m.kind = 0 then encs recF m.rc else if m.kind = 1 then enc (zz m.time) else if m.kind = 2 then enc (zz m.num) else if m.kind = 3 then encCmd m.ch m.bins m.ct else if m.kind = 4 then encChunk m.kh m.ents else []
def MV.enc (m : MV) : List UInt8 := Go.Proofs.YtakedlockchpcaaGreatDoor.enc (zz m.kind) ++ (Go.Proofs.YtakedlockchpcaaGreatDoor.enc (zz m.ver) ++ m.body)
def i64r (x : Int) : Prop := -9223372036854775808 ≤ x ∧ x < 9223372036854775808
structure MV.Ok (m : MV) : Prop where
  kind : i64r m.kind
  ver : i64r m.ver
  rc : Oks recF m.rc
  time : i64r m.time
  num : i64r m.num
  ch : Oks chF m.ch
  bins : ∀ vs ∈ m.bins, Oks binF vs
  ct : Oks ctF m.ct
  kh : Oks khF m.kh
  ents : ∀ vs ∈ m.ents, Oks entryF vs
abbrev zI : Value := .int .i64 0
theorem i64r0 : i64r 0 := ⟨by omega, by omega⟩
theorem oks_zI : Fk.ok .ww zI := ⟨0, rfl, by omega, by omega⟩
end Go.Proofs.YtakedlockchpcaaGreatDoor
namespace Go.Proofs.YtakedlockchpcaaGreatDoor
open Go.RowKit
attribute [local irreducible] Fn WC WL WR OW Qt YieldFn QW FnP FnD FnE
section
variable {W : Wy Tryz.prog} (M : Meth W)
include M
theorem small_flat : Flat W 101 W.recv [.ww] := by
  intro s Lp R i b cs E fr off vs hM hT hr hR hv hl hfr
  obtain ⟨x0, vs, rfl, hx, hv⟩ := hv.split
  obtain rfl := hv.nil
  have hc := hl.cons.1
  have hX := get_app (A := Lp) hR
  have iw := M.iw
  have m1 := M.mw
  have hz : off < cs.size := (Array.getElem?_eq_some_iff.1 hc).1
  have hx2 := hx
  obtain ⟨q, rfl, q0, q1⟩ := hx2
  refine FnE_enter Tryz.func101 rfl Tryz.ntmps101 rfl fun g => ?_
  unfold Wy.recv
  repeat (first | ((first | refine WL_Q ?_); (first | refine QW_a ?_ | refine QW_of (Qt_nilCheck_m rfl) ?_)) | ((first | refine WL_op rfl ?_); (first | refine OW_st1 rfl ?_ | refine OW_alloc rfl (hk := fun _ => ?_))) | refine WL_nil ?_ | refine WC_seq ?_ | refine WC_block ?_ | refine WC_cond_t (ht := ?_) | refine WC_cond_f (he := ?_) | refine WC_skip ?_ | refine WC_ret ?_ | refine WC_exit ?_ | refine WC_region ?_)
  rename_i mb
  refine WL_op rfl (OW_locI M.mw M.cw hM hT (W.room_le hr (Nat.le_refl _)) hx rfl ?_ ?_)
  · intro s' x' Lp' hs hM'
    obtain ⟨y, rfl, _⟩ := W.stp_ok hs hx
    have hX' : ((mb, Obj.cells #[Value.int .i64 y] 2 (0, 0)) :: (Lp' ++ R))[(Lp'.length + i) + 1]? = some _ := get_app (A := Lp') hR
    repeat (first | ((first | refine WL_Q ?_); (first | refine QW_a ?_ | refine QW_of (Qt_nilCheck_m rfl) ?_)) | ((first | refine WL_op rfl ?_); (first | refine OW_st1 rfl ?_ | refine OW_alloc rfl (hk := fun _ => ?_))) | refine WL_nil ?_ | refine WC_seq ?_ | refine WC_block ?_ | refine WC_cond_t (ht := ?_) | refine WC_cond_f (he := ?_) | refine WC_skip ?_ | refine WC_ret ?_ | refine WC_exit ?_ | refine WC_region ?_)
    refine WL_op rfl (OW_store1F (v := .int .i64 y) rfl _ hX' hz (hfr.sub 0 1 (Nat.le_refl _)) (WL_nil ?_))
    refine ⟨.tuple #[], _, Res0 rfl, .cons _ (.refl _), rfl, s', [.int .i64 y], Lp', cs.setIfInBounds off (.int .i64 y), W.stps1_ok hs, ?_, hM', Upd.one _ hz, W.keepT hT hR hc hs⟩
    exact set_app
  · intro c a p s' Lp' hs hM'
    exact ⟨_, rfl, c, a, p, s', Lp', cs, W.stps1_bad hs, rfl, by rw [set_same hR], hM', rfl⟩
theorem key_flat : Flat W 102 W.recv [.kk] := by
  intro s Lp R i b cs E fr off vs hM hT hr hR hv hl hfr
  obtain ⟨x0, vs, rfl, hx, hv⟩ := hv.split
  obtain rfl := hv.nil
  have hc := hl.cons.1
  have hz : off < cs.size := (Array.getElem?_eq_some_iff.1 hc).1
  obtain ⟨q, rfl, q0, q1⟩ := hx
  have hw : IntKind.u64.wrap q = q := wU64 q0 (by omega)
  refine FnE_enter Tryz.func102 rfl Tryz.ntmps102 rfl fun g => ?_
  unfold Wy.recv
  repeat (first | ((first | refine WL_Q ?_); (first | refine QW_a ?_ | refine QW_of (Qt_nilCheck_m rfl) ?_)) | ((first | refine WL_op rfl ?_); (first | refine OW_st1 rfl ?_ | refine OW_alloc rfl (hk := fun _ => ?_))) | refine WL_nil ?_ | refine WC_seq ?_ | refine WC_block ?_ | refine WC_cond_t (ht := ?_) | refine WC_cond_f (he := ?_) | refine WC_skip ?_ | refine WC_ret ?_ | refine WC_exit ?_ | refine WC_region ?_)
  have ih := M.ih
  refine WL_op rfl (OW_invE M.mh rfl (M.ch s Lp R hM) ?_ (fun _ _ h => h.elim))
  rintro _ _ ⟨rfl, Lp1, rfl, hM1⟩
  have hX := get_app (A := Lp1) hR
  repeat (first | ((first | refine WL_Q ?_); (first | refine QW_a ?_ | refine QW_of (Qt_nilCheck_m rfl) ?_)) | ((first | refine WL_op rfl ?_); (first | refine OW_st1 rfl ?_ | refine OW_alloc rfl (hk := fun _ => ?_))) | refine WL_nil ?_ | refine WC_seq ?_ | refine WC_block ?_ | refine WC_cond_t (ht := ?_) | refine WC_cond_f (he := ?_) | refine WC_skip ?_ | refine WC_ret ?_ | refine WC_exit ?_ | refine WC_region (id := 0) ?_ | refine WC_region (id := 1) ?_ | refine WC_region (id := 3) ?_ | refine WC_region (id := 4) ?_)
  rw [hw]
  repeat (first | ((first | refine WL_Q ?_); (first | refine QW_a ?_ | refine QW_of (Qt_nilCheck_m rfl) ?_)) | ((first | refine WL_op rfl ?_); (first | refine OW_st1 rfl ?_ | refine OW_alloc rfl (hk := fun _ => ?_))) | refine WL_nil ?_ | refine WC_seq ?_ | refine WC_block ?_ | refine WC_cond_t (ht := ?_) | refine WC_cond_f (he := ?_) | refine WC_skip ?_ | refine WC_ret ?_ | refine WC_exit ?_ | refine WC_region ?_)
  rename_i mb
  have jn := M.jn
  refine WL_op rfl (OW_locI M.mn M.cn hM1 hT (W.hr_room hr) ⟨q, rfl, q0, by omega⟩ rfl ?_ ?_)
  · intro s' x' Lp' hs hM'
    obtain ⟨y, rfl, y0, y1⟩ := W.stp_ok hs ⟨q, rfl, q0, by omega⟩
    repeat (first | ((first | refine WL_Q ?_); (first | refine QW_a ?_ | refine QW_of (Qt_nilCheck_m rfl) ?_)) | ((first | refine WL_op rfl ?_); (first | refine OW_st1 rfl ?_ | refine OW_alloc rfl (hk := fun _ => ?_))) | refine WL_nil ?_ | refine WC_seq ?_ | refine WC_block ?_ | refine WC_cond_t (ht := ?_) | refine WC_cond_f (he := ?_) | refine WC_skip ?_ | refine WC_ret ?_ | refine WC_exit ?_ | refine WC_region ?_)
    have im := M.im
    have hF := (M.cm s' Lp' ((mb, Obj.cells #[Value.int .u64 y] 41 (0, 0)) :: R) (decide (y ≤ 4294967295)) 4 hM')
    refine WL_op rfl (OW_invE M.mm rfl ((hF.dropP (Rp' := fun u L' => ∃ c a p, W.mst (decide (y ≤ 4294967295)) 4 s' = some (c, a) ∧ u = flt p ∧ L' = (p, fltO c a) :: (Lp' ++ R)) (fun u L' ⟨c, a, p, h1, h2, h3⟩ => ⟨(p, fltO c a) :: (Lp' ++ R), by rw [h3]; exact .cons_cons _ (.append (.refl _) (.cons _ (.refl _))), c, a, p, h1, h2, rfl⟩)).perm List.perm_middle (fun v L' h => ⟨_, .refl _, h⟩) (fun v L' h => ⟨_, .refl _, h⟩)) ?_ ?_)
    · rintro _ _ ⟨rfl, rfl, hm⟩
      obtain ⟨hk, y2⟩ := W.key_ok q0 q1 hs hm
      have hX0 : (Lp' ++ ((mb, Obj.cells #[Value.int .u64 y] 41 (0, 0)) :: R))[Lp'.length]? = some _ := get_app (A := Lp') (i := 0) rfl
      have hX' := get_app (A := Lp') (R := (mb, Obj.cells #[Value.int .u64 y] 41 (0, 0)) :: R) (i := i + 1) hR
      have hw2 : IntKind.u32.wrap y = y := by
        simp only [IntKind.wrap, IntKind.bits, IntKind.signed]
        simp; omega
      repeat (first | ((first | refine WL_Q ?_); (first | refine QW_a ?_ | refine QW_of (Qt_nilCheck_m rfl) ?_)) | ((first | refine WL_op rfl ?_); (first | refine OW_st1 rfl ?_ | refine OW_alloc rfl (hk := fun _ => ?_))) | refine WL_nil ?_ | refine WC_seq ?_ | refine WC_block ?_ | refine WC_cond_t (ht := ?_) | refine WC_cond_f (he := ?_) | refine WC_skip ?_ | refine WC_ret ?_ | refine WC_exit ?_ | refine WC_region ?_)
      rw [hw2]
      refine WL_op rfl (OW_store1F (v := .int .u32 y) rfl _ hX' hz (hfr.sub 0 1 (Nat.le_refl _)) (WL_nil ?_))
      refine ⟨.tuple #[], Lp' ++ R.set i (b, .cells (cs.setIfInBounds off (.int .u32 y)) E fr), Res0 rfl, ?_, rfl, s', [.int .u32 y], Lp', cs.setIfInBounds off (.int .u32 y), W.stps1_ok hk, rfl, hM', Upd.one _ hz, W.keepT hT hR hc hk⟩
      rw [set_app]
      exact .append (.refl _) (.cons _ (.refl _))
    · rintro _ _ ⟨c, a, p, hm, rfl, rfl⟩
      exact ⟨_, rfl, c, a, p, s', Lp', cs, W.stps1_bad (W.key_must hs hm), rfl, by rw [set_same hR], hM', rfl⟩
  · intro c a p s' Lp' hs hM'
    exact ⟨_, rfl, c, a, p, s', Lp', cs, W.stps1_bad (W.key_bad hs), rfl, by rw [set_same hR], hM', rfl⟩
set_option maxHeartbeats 4000000 in
theorem rec_flat : Flat W 54 W.recv recF := by
  intro s Lp R i b cs E fr off vs hM0 hT0 hr0 hR hv hl hfr
  obtain ⟨x0, vs, rfl, hx0, hv⟩ := hv.split
  obtain ⟨x1, vs, rfl, hx1, hv⟩ := hv.split
  obtain ⟨x2, vs, rfl, hx2, hv⟩ := hv.split
  obtain ⟨x3, vs, rfl, hx3, hv⟩ := hv.split
  obtain ⟨x4, vs, rfl, hx4, hv⟩ := hv.split
  obtain ⟨x5, vs, rfl, hx5, hv⟩ := hv.split
  obtain rfl := hv.nil
  have ho0 : Oks [.kk] [x0] := ⟨hx0, trivial⟩
  have g0 : Lies cs (off + 0) [x0] := hl.cut 0 1
  have ho1 : Oks [.ww] [x1] := ⟨hx1, trivial⟩
  have g1 : Lies cs (off + 1) [x1] := hl.cut 1 1
  have ho2 : Oks [.ww] [x2] := ⟨hx2, trivial⟩
  have g2 : Lies cs (off + 2) [x2] := hl.cut 2 1
  have ho3 : Oks [.bb] [x3] := ⟨hx3, trivial⟩
  have g3 : Lies cs (off + 3) [x3] := hl.cut 3 1
  have ho4 : Oks [.tt] [x4] := ⟨hx4, trivial⟩
  have g4 : Lies cs (off + 4) [x4] := hl.cut 4 1
  have ho5 : Oks [.tt] [x5] := ⟨hx5, trivial⟩
  have g5 : Lies cs (off + 5) [x5] := hl.cut 5 1
  have qw := M.mw
  have pw := M.iw
  have qt := M.mt
  have pt := M.it
  have qb := M.mo
  have pb := M.io
  refine FnE_enter Tryz.func54 rfl Tryz.ntmps54 rfl fun g => ?_
  unfold Wy.recv
  have U0 : Upd cs cs off [] := Upd.refl_of (fun j v h => by simp at h)
  have A0 : W.stps [] s [] = .ok s [] := rfl
  have O0 : Oks [] [] := trivial
  have L0 : ([] : List Value).length = 0 := rfl
  repeat (first | ((first | refine WL_Q ?_); (first | refine QW_a ?_ | refine QW_of (Qt_nilCheck_m rfl) ?_)) | refine WL_nil ?_ | refine WC_seq ?_ | refine WC_block ?_ | refine WC_cond_t (ht := ?_) | refine WC_cond_f (he := ?_) | refine WC_skip ?_ | refine WC_ret ?_ | refine WC_exit ?_ | refine WC_region (id := 0) ?_)
  have l0 : Lies cs (off + 0) [x0] := fun q v h => by
    rw [U0.rest _ (.inr (by rw [L0]; omega))]
    exact g0 q v h
  refine WL_op rfl ?_
  refine (OW_flatF (key_flat M) hM0 hT0 (W.room_le hr0 (by decide)) hR ho0 l0 (hfr.sub 0 1 (by decide)) rfl ⟨?_, ?_⟩)
  rotate_left
  · intro c a p s' Lp' cs' hs hM' hz
    exact ⟨_, rfl, c, a, p, s', Lp', cs', W.bad_cat [.ww, .ww, .bb, .tt, .tt] [x1, x2, x3, x4, x5] (W.cat_bad A0 O0 hs) (Oks.app O0 ho0), rfl, rfl, hM', hz.trans U0.size⟩
  intro s1 us0 Lp1 cs1 hs0 hM1 hu0 hT1
  have n0 : us0.length = 1 := W.stps_len hs0 ho0
  have U1 := U0.app hu0 (by rw [L0])
  have L1 := (show ([] ++ us0).length = 1 by rw [List.length_append, L0, n0])
  have A1 := W.cat_ok A0 O0 hs0
  have O1 := Oks.app O0 ho0
  have hr1 := W.stps_room (n := 5) hs0 ho0 (W.room_le hr0 (by decide))
  have R1 := get_set_self hR (b, Obj.cells cs1 E fr)
  repeat (first | ((first | refine WL_Q ?_); (first | refine QW_a ?_ | refine QW_of (Qt_nilCheck_m rfl) ?_)) | refine WL_nil ?_ | refine WC_seq ?_ | refine WC_block ?_ | refine WC_cond_t (ht := ?_) | refine WC_cond_f (he := ?_) | refine WC_skip ?_ | refine WC_ret ?_ | refine WC_exit ?_ | refine WC_region (id := 0) ?_)
  refine WC_draw_sub (id := 1) 8 (.calm 0 <| .calm 1 <| .calm 2 <| .calm 3 <| .calm 4 <| .calm 5 <| .calm 6 <| .must 7 <| .done) mixed (by kernel_rfl) (List.nil_sublist _) ?_
  repeat (first | ((first | refine WL_Q ?_ | refine WR_Q rfl ?_ | refine WR_late rfl rfl rfl (OW_Q ?_)); (first | refine QW_a ?_ | refine QW_of (Qt_nilCheck_m rfl) ?_)) | refine WL_nil ?_ | refine WR_nil ?_ | refine WC_seq ?_ | refine WC_block ?_ | refine WC_cond_t (ht := ?_) | refine WC_cond_f (he := ?_) | refine WC_skip ?_ | refine WC_ret ?_ | refine WC_exit ?_ | refine WC_draw_all (id := 1) 8 (.calm 0 <| .calm 1 <| .calm 2 <| .calm 3 <| .calm 4 <| .calm 5 <| .calm 6 <| .must 7 <| .done) mixed (by kernel_rfl) ?_)
  have l1 : Lies cs1 (off + 1) [x1] := fun q v h => by
    rw [U1.rest _ (.inr (by rw [L1]; omega))]
    exact g1 q v h
  refine WR_op rfl rfl ?_
  refine (OW_flatI M.mw M.cw hM1 hT1 (W.room_le hr1 (by decide)) R1 hx1 (l1 0 _ rfl) (hfr.sub 1 1 (by decide)) rfl ⟨?_, ?_⟩)
  rotate_left
  · intro c a p s' Lp' cs' hs hM' hz
    exact ⟨_, rfl, c, a, p, s', Lp', cs', W.bad_cat [.ww, .bb, .tt, .tt] [x2, x3, x4, x5] (W.cat_bad A1 O1 hs) (Oks.app O1 ho1), rfl, by rw [List.set_set], hM', hz.trans U1.size⟩
  intro s2 us1 Lp2 cs2 hs1 hM2 hu1 hT2
  have n1 : us1.length = 1 := W.stps_len hs1 ho1
  have U2 := U1.app hu1 (by rw [L1])
  have L2 := (show (([] ++ us0) ++ us1).length = 2 by rw [List.length_append, L1, n1])
  have A2 := W.cat_ok A1 O1 hs1
  have O2 := Oks.app O1 ho1
  have hr2 := W.stps_room (n := 4) hs1 ho1 (W.room_le hr1 (by decide))
  rw [List.set_set] at hT2
  rw [List.set_set]
  have R2 := get_set_self hR (b, Obj.cells cs2 E fr)
  refine ⟨(fun q hq => (by cases hq)), ?_⟩
  repeat (first | ((first | refine WL_Q ?_ | refine WR_Q rfl ?_ | refine WR_late rfl rfl rfl (OW_Q ?_)); (first | refine QW_a ?_ | refine QW_of (Qt_nilCheck_m rfl) ?_)) | refine WL_nil ?_ | refine WR_nil ?_ | refine WC_seq ?_ | refine WC_block ?_ | refine WC_cond_t (ht := ?_) | refine WC_cond_f (he := ?_) | refine WC_skip ?_ | refine WC_ret ?_ | refine WC_exit ?_ | refine WC_draw_all (id := 1) 8 (.calm 0 <| .calm 1 <| .calm 2 <| .calm 3 <| .calm 4 <| .calm 5 <| .calm 6 <| .must 7 <| .done) mixed (by kernel_rfl) ?_)
  refine WC_draw_sub (id := 2) 8 (.calm 0 <| .calm 1 <| .calm 2 <| .calm 3 <| .calm 4 <| .calm 5 <| .calm 6 <| .must 7 <| .done) mixed (by kernel_rfl) (List.nil_sublist _) ?_
  repeat (first | ((first | refine WL_Q ?_ | refine WR_Q rfl ?_ | refine WR_late rfl rfl rfl (OW_Q ?_)); (first | refine QW_a ?_ | refine QW_of (Qt_nilCheck_m rfl) ?_)) | refine WL_nil ?_ | refine WR_nil ?_ | refine WC_seq ?_ | refine WC_block ?_ | refine WC_cond_t (ht := ?_) | refine WC_cond_f (he := ?_) | refine WC_skip ?_ | refine WC_ret ?_ | refine WC_exit ?_ | refine WC_draw_all (id := 2) 8 (.calm 0 <| .calm 1 <| .calm 2 <| .calm 3 <| .calm 4 <| .calm 5 <| .calm 6 <| .must 7 <| .done) mixed (by kernel_rfl) ?_)
  have l2 : Lies cs2 (off + 2) [x2] := fun q v h => by
    rw [U2.rest _ (.inr (by rw [L2]; omega))]
    exact g2 q v h
  refine WR_op rfl rfl ?_
  refine (OW_flatI M.mw M.cw hM2 hT2 (W.room_le hr2 (by decide)) R2 hx2 (l2 0 _ rfl) (hfr.sub 2 1 (by decide)) rfl ⟨?_, ?_⟩)
  rotate_left
  · intro c a p s' Lp' cs' hs hM' hz
    exact ⟨_, rfl, c, a, p, s', Lp', cs', W.bad_cat [.bb, .tt, .tt] [x3, x4, x5] (W.cat_bad A2 O2 hs) (Oks.app O2 ho2), rfl, by rw [List.set_set], hM', hz.trans U2.size⟩
  intro s3 us2 Lp3 cs3 hs2 hM3 hu2 hT3
  have n2 : us2.length = 1 := W.stps_len hs2 ho2
  have U3 := U2.app hu2 (by rw [L2])
  have L3 := (show ((([] ++ us0) ++ us1) ++ us2).length = 3 by rw [List.length_append, L2, n2])
  have A3 := W.cat_ok A2 O2 hs2
  have O3 := Oks.app O2 ho2
  have hr3 := W.stps_room (n := 3) hs2 ho2 (W.room_le hr2 (by decide))
  rw [List.set_set] at hT3
  rw [List.set_set]
  have R3 := get_set_self hR (b, Obj.cells cs3 E fr)
  refine ⟨(fun q hq => (by cases hq)), ?_⟩
  repeat (first | ((first | refine WL_Q ?_ | refine WR_Q rfl ?_ | refine WR_late rfl rfl rfl (OW_Q ?_)); (first | refine QW_a ?_ | refine QW_of (Qt_nilCheck_m rfl) ?_)) | refine WL_nil ?_ | refine WR_nil ?_ | refine WC_seq ?_ | refine WC_block ?_ | refine WC_cond_t (ht := ?_) | refine WC_cond_f (he := ?_) | refine WC_skip ?_ | refine WC_ret ?_ | refine WC_exit ?_ | refine WC_draw_all (id := 2) 8 (.calm 0 <| .calm 1 <| .calm 2 <| .calm 3 <| .calm 4 <| .calm 5 <| .calm 6 <| .must 7 <| .done) mixed (by kernel_rfl) ?_)
  refine WC_draw_sub (id := 3) 8 (.calm 0 <| .calm 1 <| .calm 2 <| .calm 3 <| .calm 4 <| .calm 5 <| .calm 6 <| .must 7 <| .done) mixed (by kernel_rfl) (List.nil_sublist _) ?_
  repeat (first | ((first | refine WL_Q ?_ | refine WR_Q rfl ?_ | refine WR_late rfl rfl rfl (OW_Q ?_)); (first | refine QW_a ?_ | refine QW_of (Qt_nilCheck_m rfl) ?_)) | refine WL_nil ?_ | refine WR_nil ?_ | refine WC_seq ?_ | refine WC_block ?_ | refine WC_cond_t (ht := ?_) | refine WC_cond_f (he := ?_) | refine WC_skip ?_ | refine WC_ret ?_ | refine WC_exit ?_ | refine WC_draw_all (id := 3) 8 (.calm 0 <| .calm 1 <| .calm 2 <| .calm 3 <| .calm 4 <| .calm 5 <| .calm 6 <| .must 7 <| .done) mixed (by kernel_rfl) ?_)
  have l3 : Lies cs3 (off + 3) [x3] := fun q v h => by
    rw [U3.rest _ (.inr (by rw [L3]; omega))]
    exact g3 q v h
  refine WR_op rfl rfl ?_
  refine (OW_flatI M.mo M.co hM3 hT3 (W.room_le hr3 (by decide)) R3 hx3 (l3 0 _ rfl) (hfr.sub 3 1 (by decide)) rfl ⟨?_, ?_⟩)
  rotate_left
  · intro c a p s' Lp' cs' hs hM' hz
    exact ⟨_, rfl, c, a, p, s', Lp', cs', W.bad_cat [.tt, .tt] [x4, x5] (W.cat_bad A3 O3 hs) (Oks.app O3 ho3), rfl, by rw [List.set_set], hM', hz.trans U3.size⟩
  intro s4 us3 Lp4 cs4 hs3 hM4 hu3 hT4
  have n3 : us3.length = 1 := W.stps_len hs3 ho3
  have U4 := U3.app hu3 (by rw [L3])
  have L4 := (show (((([] ++ us0) ++ us1) ++ us2) ++ us3).length = 4 by rw [List.length_append, L3, n3])
  have A4 := W.cat_ok A3 O3 hs3
  have O4 := Oks.app O3 ho3
  have hr4 := W.stps_room (n := 2) hs3 ho3 (W.room_le hr3 (by decide))
  rw [List.set_set] at hT4
  rw [List.set_set]
  have R4 := get_set_self hR (b, Obj.cells cs4 E fr)
  refine ⟨(fun q hq => (by cases hq)), ?_⟩
  repeat (first | ((first | refine WL_Q ?_ | refine WR_Q rfl ?_ | refine WR_late rfl rfl rfl (OW_Q ?_)); (first | refine QW_a ?_ | refine QW_of (Qt_nilCheck_m rfl) ?_)) | refine WL_nil ?_ | refine WR_nil ?_ | refine WC_seq ?_ | refine WC_block ?_ | refine WC_cond_t (ht := ?_) | refine WC_cond_f (he := ?_) | refine WC_skip ?_ | refine WC_ret ?_ | refine WC_exit ?_ | refine WC_draw_all (id := 3) 8 (.calm 0 <| .calm 1 <| .calm 2 <| .calm 3 <| .calm 4 <| .calm 5 <| .calm 6 <| .must 7 <| .done) mixed (by kernel_rfl) ?_)
  refine WC_draw_sub (id := 4) 8 (.calm 0 <| .calm 1 <| .calm 2 <| .calm 3 <| .calm 4 <| .calm 5 <| .calm 6 <| .must 7 <| .done) mixed (by kernel_rfl) (List.nil_sublist _) ?_
  repeat (first | ((first | refine WL_Q ?_ | refine WR_Q rfl ?_ | refine WR_late rfl rfl rfl (OW_Q ?_)); (first | refine QW_a ?_ | refine QW_of (Qt_nilCheck_m rfl) ?_)) | refine WL_nil ?_ | refine WR_nil ?_ | refine WC_seq ?_ | refine WC_block ?_ | refine WC_cond_t (ht := ?_) | refine WC_cond_f (he := ?_) | refine WC_skip ?_ | refine WC_ret ?_ | refine WC_exit ?_ | refine WC_draw_all (id := 4) 8 (.calm 0 <| .calm 1 <| .calm 2 <| .calm 3 <| .calm 4 <| .calm 5 <| .calm 6 <| .must 7 <| .done) mixed (by kernel_rfl) ?_)
  have l4 : Lies cs4 (off + 4) [x4] := fun q v h => by
    rw [U4.rest _ (.inr (by rw [L4]; omega))]
    exact g4 q v h
  refine WR_op rfl rfl ?_
  refine (OW_flatI M.mt M.ct hM4 hT4 (W.room_le hr4 (by decide)) R4 hx4 (l4 0 _ rfl) (hfr.sub 4 1 (by decide)) rfl ⟨?_, ?_⟩)
  rotate_left
  · intro c a p s' Lp' cs' hs hM' hz
    exact ⟨_, rfl, c, a, p, s', Lp', cs', W.bad_cat [.tt] [x5] (W.cat_bad A4 O4 hs) (Oks.app O4 ho4), rfl, by rw [List.set_set], hM', hz.trans U4.size⟩
  intro s5 us4 Lp5 cs5 hs4 hM5 hu4 hT5
  have n4 : us4.length = 1 := W.stps_len hs4 ho4
  have U5 := U4.app hu4 (by rw [L4])
  have L5 := (show ((((([] ++ us0) ++ us1) ++ us2) ++ us3) ++ us4).length = 5 by rw [List.length_append, L4, n4])
  have A5 := W.cat_ok A4 O4 hs4
  have O5 := Oks.app O4 ho4
  have hr5 := W.stps_room (n := 1) hs4 ho4 (W.room_le hr4 (by decide))
  rw [List.set_set] at hT5
  rw [List.set_set]
  have R5 := get_set_self hR (b, Obj.cells cs5 E fr)
  refine ⟨(fun q hq => (by cases hq)), ?_⟩
  repeat (first | ((first | refine WL_Q ?_ | refine WR_Q rfl ?_ | refine WR_late rfl rfl rfl (OW_Q ?_)); (first | refine QW_a ?_ | refine QW_of (Qt_nilCheck_m rfl) ?_)) | refine WL_nil ?_ | refine WR_nil ?_ | refine WC_seq ?_ | refine WC_block ?_ | refine WC_cond_t (ht := ?_) | refine WC_cond_f (he := ?_) | refine WC_skip ?_ | refine WC_ret ?_ | refine WC_exit ?_ | refine WC_draw_all (id := 4) 8 (.calm 0 <| .calm 1 <| .calm 2 <| .calm 3 <| .calm 4 <| .calm 5 <| .calm 6 <| .must 7 <| .done) mixed (by kernel_rfl) ?_)
  refine WC_draw_sub (id := 5) 8 (.calm 0 <| .calm 1 <| .calm 2 <| .calm 3 <| .calm 4 <| .calm 5 <| .calm 6 <| .must 7 <| .done) mixed (by kernel_rfl) (List.nil_sublist _) ?_
  repeat (first | ((first | refine WL_Q ?_ | refine WR_Q rfl ?_ | refine WR_late rfl rfl rfl (OW_Q ?_)); (first | refine QW_a ?_ | refine QW_of (Qt_nilCheck_m rfl) ?_)) | refine WL_nil ?_ | refine WR_nil ?_ | refine WC_seq ?_ | refine WC_block ?_ | refine WC_cond_t (ht := ?_) | refine WC_cond_f (he := ?_) | refine WC_skip ?_ | refine WC_ret ?_ | refine WC_exit ?_ | refine WC_draw_all (id := 5) 8 (.calm 0 <| .calm 1 <| .calm 2 <| .calm 3 <| .calm 4 <| .calm 5 <| .calm 6 <| .must 7 <| .done) mixed (by kernel_rfl) ?_)
  have l5 : Lies cs5 (off + 5) [x5] := fun q v h => by
    rw [U5.rest _ (.inr (by rw [L5]; omega))]
    exact g5 q v h
  refine WR_op rfl rfl ?_
  refine (OW_flatI M.mt M.ct hM5 hT5 (W.room_le hr5 (by decide)) R5 hx5 (l5 0 _ rfl) (hfr.sub 5 1 (by decide)) rfl ⟨?_, ?_⟩)
  rotate_left
  · intro c a p s' Lp' cs' hs hM' hz
    exact ⟨_, rfl, c, a, p, s', Lp', cs', W.bad_cat [] [] (W.cat_bad A5 O5 hs) (Oks.app O5 ho5), rfl, by rw [List.set_set], hM', hz.trans U5.size⟩
  intro s6 us5 Lp6 cs6 hs5 hM6 hu5 hT6
  have n5 : us5.length = 1 := W.stps_len hs5 ho5
  have U6 := U5.app hu5 (by rw [L5])
  have L6 := (show (((((([] ++ us0) ++ us1) ++ us2) ++ us3) ++ us4) ++ us5).length = 6 by rw [List.length_append, L5, n5])
  have A6 := W.cat_ok A5 O5 hs5
  have O6 := Oks.app O5 ho5
  have hr6 := W.stps_room (n := 0) hs5 ho5 (W.room_le hr5 (by decide))
  rw [List.set_set] at hT6
  rw [List.set_set]
  have R6 := get_set_self hR (b, Obj.cells cs6 E fr)
  refine ⟨(fun q hq => (by cases hq)), ?_⟩
  repeat (first | ((first | refine WL_Q ?_ | refine WR_Q rfl ?_ | refine WR_late rfl rfl rfl (OW_Q ?_)); (first | refine QW_a ?_ | refine QW_of (Qt_nilCheck_m rfl) ?_)) | refine WL_nil ?_ | refine WR_nil ?_ | refine WC_seq ?_ | refine WC_block ?_ | refine WC_cond_t (ht := ?_) | refine WC_cond_f (he := ?_) | refine WC_skip ?_ | refine WC_ret ?_ | refine WC_exit ?_ | refine WC_draw_all (id := 5) 8 (.calm 0 <| .calm 1 <| .calm 2 <| .calm 3 <| .calm 4 <| .calm 5 <| .calm 6 <| .must 7 <| .done) mixed (by kernel_rfl) ?_)
  exact ⟨.tuple #[], _, Res0 rfl, .refl _, rfl, s6, _, Lp6, cs6, A6, rfl, hM6, U6, hT6⟩
set_option maxHeartbeats 4000000 in
theorem op_flat : Flat W 59 W.recv opF := by
  intro s Lp R i b cs E fr off vs hM0 hT0 hr0 hR hv hl hfr
  obtain ⟨x0, vs, rfl, hx0, hv⟩ := hv.split
  obtain ⟨x1, vs, rfl, hx1, hv⟩ := hv.split
  obtain ⟨x2, vs, rfl, hx2, hv⟩ := hv.split
  obtain ⟨x3, vs, rfl, hx3, hv⟩ := hv.split
  obtain rfl := hv.nil
  have ho0 : Oks [.ww] [x0] := ⟨hx0, trivial⟩
  have g0 : Lies cs (off + 0) [x0] := hl.cut 0 1
  have ho1 : Oks [.ww] [x1] := ⟨hx1, trivial⟩
  have g1 : Lies cs (off + 1) [x1] := hl.cut 1 1
  have ho2 : Oks [.ww] [x2] := ⟨hx2, trivial⟩
  have g2 : Lies cs (off + 2) [x2] := hl.cut 2 1
  have ho3 : Oks [.ww] [x3] := ⟨hx3, trivial⟩
  have g3 : Lies cs (off + 3) [x3] := hl.cut 3 1
  have qw := M.mw
  have pw := M.iw
  refine FnE_enter Tryz.func59 rfl Tryz.ntmps59 rfl fun g => ?_
  unfold Wy.recv
  have U0 : Upd cs cs off [] := Upd.refl_of (fun j v h => by simp at h)
  have A0 : W.stps [] s [] = .ok s [] := rfl
  have O0 : Oks [] [] := trivial
  have L0 : ([] : List Value).length = 0 := rfl
  repeat (first | ((first | refine WL_Q ?_); (first | refine QW_a ?_ | refine QW_of (Qt_nilCheck_m rfl) ?_)) | refine WL_nil ?_ | refine WC_seq ?_ | refine WC_block ?_ | refine WC_cond_t (ht := ?_) | refine WC_cond_f (he := ?_) | refine WC_skip ?_ | refine WC_ret ?_ | refine WC_exit ?_ | refine WC_region (id := 0) ?_)
  have l0 : Lies cs (off + 0) [x0] := fun q v h => by
    rw [U0.rest _ (.inr (by rw [L0]; omega))]
    exact g0 q v h
  refine WL_op rfl ?_
  refine (OW_flatF (small_flat M) hM0 hT0 (W.room_le hr0 (by decide)) hR ho0 l0 (hfr.sub 0 1 (by decide)) rfl ⟨?_, ?_⟩)
  rotate_left
  · intro c a p s' Lp' cs' hs hM' hz
    exact ⟨_, rfl, c, a, p, s', Lp', cs', W.bad_cat [.ww, .ww, .ww] [x1, x2, x3] (W.cat_bad A0 O0 hs) (Oks.app O0 ho0), rfl, rfl, hM', hz.trans U0.size⟩
  intro s1 us0 Lp1 cs1 hs0 hM1 hu0 hT1
  have n0 : us0.length = 1 := W.stps_len hs0 ho0
  have U1 := U0.app hu0 (by rw [L0])
  have L1 := (show ([] ++ us0).length = 1 by rw [List.length_append, L0, n0])
  have A1 := W.cat_ok A0 O0 hs0
  have O1 := Oks.app O0 ho0
  have hr1 := W.stps_room (n := 3) hs0 ho0 (W.room_le hr0 (by decide))
  have R1 := get_set_self hR (b, Obj.cells cs1 E fr)
  repeat (first | ((first | refine WL_Q ?_); (first | refine QW_a ?_ | refine QW_of (Qt_nilCheck_m rfl) ?_)) | refine WL_nil ?_ | refine WC_seq ?_ | refine WC_block ?_ | refine WC_cond_t (ht := ?_) | refine WC_cond_f (he := ?_) | refine WC_skip ?_ | refine WC_ret ?_ | refine WC_exit ?_ | refine WC_region (id := 0) ?_)
  refine WC_draw_sub (id := 1) 8 (.calm 0 <| .calm 1 <| .calm 2 <| .calm 3 <| .calm 4 <| .calm 5 <| .calm 6 <| .must 7 <| .done) mixed (by kernel_rfl) (List.nil_sublist _) ?_
  repeat (first | ((first | refine WL_Q ?_ | refine WR_Q rfl ?_ | refine WR_late rfl rfl rfl (OW_Q ?_)); (first | refine QW_a ?_ | refine QW_of (Qt_nilCheck_m rfl) ?_)) | refine WL_nil ?_ | refine WR_nil ?_ | refine WC_seq ?_ | refine WC_block ?_ | refine WC_cond_t (ht := ?_) | refine WC_cond_f (he := ?_) | refine WC_skip ?_ | refine WC_ret ?_ | refine WC_exit ?_ | refine WC_draw_all (id := 1) 8 (.calm 0 <| .calm 1 <| .calm 2 <| .calm 3 <| .calm 4 <| .calm 5 <| .calm 6 <| .must 7 <| .done) mixed (by kernel_rfl) ?_)
  have l1 : Lies cs1 (off + 1) [x1] := fun q v h => by
    rw [U1.rest _ (.inr (by rw [L1]; omega))]
    exact g1 q v h
  refine WR_op rfl rfl ?_
  refine (OW_flatI M.mw M.cw hM1 hT1 (W.room_le hr1 (by decide)) R1 hx1 (l1 0 _ rfl) (hfr.sub 1 1 (by decide)) rfl ⟨?_, ?_⟩)
  rotate_left
  · intro c a p s' Lp' cs' hs hM' hz
    exact ⟨_, rfl, c, a, p, s', Lp', cs', W.bad_cat [.ww, .ww] [x2, x3] (W.cat_bad A1 O1 hs) (Oks.app O1 ho1), rfl, by rw [List.set_set], hM', hz.trans U1.size⟩
  intro s2 us1 Lp2 cs2 hs1 hM2 hu1 hT2
  have n1 : us1.length = 1 := W.stps_len hs1 ho1
  have U2 := U1.app hu1 (by rw [L1])
  have L2 := (show (([] ++ us0) ++ us1).length = 2 by rw [List.length_append, L1, n1])
  have A2 := W.cat_ok A1 O1 hs1
  have O2 := Oks.app O1 ho1
  have hr2 := W.stps_room (n := 2) hs1 ho1 (W.room_le hr1 (by decide))
  rw [List.set_set] at hT2
  rw [List.set_set]
  have R2 := get_set_self hR (b, Obj.cells cs2 E fr)
  refine ⟨(fun q hq => (by cases hq)), ?_⟩
  repeat (first | ((first | refine WL_Q ?_ | refine WR_Q rfl ?_ | refine WR_late rfl rfl rfl (OW_Q ?_)); (first | refine QW_a ?_ | refine QW_of (Qt_nilCheck_m rfl) ?_)) | refine WL_nil ?_ | refine WR_nil ?_ | refine WC_seq ?_ | refine WC_block ?_ | refine WC_cond_t (ht := ?_) | refine WC_cond_f (he := ?_) | refine WC_skip ?_ | refine WC_ret ?_ | refine WC_exit ?_ | refine WC_draw_all (id := 1) 8 (.calm 0 <| .calm 1 <| .calm 2 <| .calm 3 <| .calm 4 <| .calm 5 <| .calm 6 <| .must 7 <| .done) mixed (by kernel_rfl) ?_)
  refine WC_draw_sub (id := 2) 8 (.calm 0 <| .calm 1 <| .calm 2 <| .calm 3 <| .calm 4 <| .calm 5 <| .calm 6 <| .must 7 <| .done) mixed (by kernel_rfl) (List.nil_sublist _) ?_
  repeat (first | ((first | refine WL_Q ?_ | refine WR_Q rfl ?_ | refine WR_late rfl rfl rfl (OW_Q ?_)); (first | refine QW_a ?_ | refine QW_of (Qt_nilCheck_m rfl) ?_)) | refine WL_nil ?_ | refine WR_nil ?_ | refine WC_seq ?_ | refine WC_block ?_ | refine WC_cond_t (ht := ?_) | refine WC_cond_f (he := ?_) | refine WC_skip ?_ | refine WC_ret ?_ | refine WC_exit ?_ | refine WC_draw_all (id := 2) 8 (.calm 0 <| .calm 1 <| .calm 2 <| .calm 3 <| .calm 4 <| .calm 5 <| .calm 6 <| .must 7 <| .done) mixed (by kernel_rfl) ?_)
  have l2 : Lies cs2 (off + 2) [x2] := fun q v h => by
    rw [U2.rest _ (.inr (by rw [L2]; omega))]
    exact g2 q v h
  refine WR_op rfl rfl ?_
  refine (OW_flatI M.mw M.cw hM2 hT2 (W.room_le hr2 (by decide)) R2 hx2 (l2 0 _ rfl) (hfr.sub 2 1 (by decide)) rfl ⟨?_, ?_⟩)
  rotate_left
  · intro c a p s' Lp' cs' hs hM' hz
    exact ⟨_, rfl, c, a, p, s', Lp', cs', W.bad_cat [.ww] [x3] (W.cat_bad A2 O2 hs) (Oks.app O2 ho2), rfl, by rw [List.set_set], hM', hz.trans U2.size⟩
  intro s3 us2 Lp3 cs3 hs2 hM3 hu2 hT3
  have n2 : us2.length = 1 := W.stps_len hs2 ho2
  have U3 := U2.app hu2 (by rw [L2])
  have L3 := (show ((([] ++ us0) ++ us1) ++ us2).length = 3 by rw [List.length_append, L2, n2])
  have A3 := W.cat_ok A2 O2 hs2
  have O3 := Oks.app O2 ho2
  have hr3 := W.stps_room (n := 1) hs2 ho2 (W.room_le hr2 (by decide))
  rw [List.set_set] at hT3
  rw [List.set_set]
  have R3 := get_set_self hR (b, Obj.cells cs3 E fr)
  refine ⟨(fun q hq => (by cases hq)), ?_⟩
  repeat (first | ((first | refine WL_Q ?_ | refine WR_Q rfl ?_ | refine WR_late rfl rfl rfl (OW_Q ?_)); (first | refine QW_a ?_ | refine QW_of (Qt_nilCheck_m rfl) ?_)) | refine WL_nil ?_ | refine WR_nil ?_ | refine WC_seq ?_ | refine WC_block ?_ | refine WC_cond_t (ht := ?_) | refine WC_cond_f (he := ?_) | refine WC_skip ?_ | refine WC_ret ?_ | refine WC_exit ?_ | refine WC_draw_all (id := 2) 8 (.calm 0 <| .calm 1 <| .calm 2 <| .calm 3 <| .calm 4 <| .calm 5 <| .calm 6 <| .must 7 <| .done) mixed (by kernel_rfl) ?_)
  repeat (first | ((first | refine WL_Q ?_); (first | refine QW_a ?_ | refine QW_of (Qt_nilCheck_m rfl) ?_)) | refine WL_nil ?_ | refine WC_seq ?_ | refine WC_block ?_ | refine WC_cond_t (ht := ?_) | refine WC_cond_f (he := ?_) | refine WC_skip ?_ | refine WC_ret ?_ | refine WC_exit ?_ | refine WC_region (id := 3) ?_)
  have l3 : Lies cs3 (off + 3) [x3] := fun q v h => by
    rw [U3.rest _ (.inr (by rw [L3]; omega))]
    exact g3 q v h
  refine WL_op rfl ?_
  refine (OW_flatF (small_flat M) hM3 hT3 (W.room_le hr3 (by decide)) R3 ho3 l3 (hfr.sub 3 1 (by decide)) rfl ⟨?_, ?_⟩)
  rotate_left
  · intro c a p s' Lp' cs' hs hM' hz
    exact ⟨_, rfl, c, a, p, s', Lp', cs', W.bad_cat [] [] (W.cat_bad A3 O3 hs) (Oks.app O3 ho3), rfl, by rw [List.set_set], hM', hz.trans U3.size⟩
  intro s4 us3 Lp4 cs4 hs3 hM4 hu3 hT4
  have n3 : us3.length = 1 := W.stps_len hs3 ho3
  have U4 := U3.app hu3 (by rw [L3])
  have L4 := (show (((([] ++ us0) ++ us1) ++ us2) ++ us3).length = 4 by rw [List.length_append, L3, n3])
  have A4 := W.cat_ok A3 O3 hs3
  have O4 := Oks.app O3 ho3
  have hr4 := W.stps_room (n := 0) hs3 ho3 (W.room_le hr3 (by decide))
  rw [List.set_set] at hT4
  rw [List.set_set]
  have R4 := get_set_self hR (b, Obj.cells cs4 E fr)
  repeat (first | ((first | refine WL_Q ?_); (first | refine QW_a ?_ | refine QW_of (Qt_nilCheck_m rfl) ?_)) | refine WL_nil ?_ | refine WC_seq ?_ | refine WC_block ?_ | refine WC_cond_t (ht := ?_) | refine WC_cond_f (he := ?_) | refine WC_skip ?_ | refine WC_ret ?_ | refine WC_exit ?_ | refine WC_region (id := 3) ?_)
  exact ⟨.tuple #[], _, Res0 rfl, .refl _, rfl, s4, _, Lp4, cs4, A4, rfl, hM4, U4, hT4⟩
set_option maxHeartbeats 4000000 in
theorem acc_flat : Flat W 63 W.recv accF := by
  intro s Lp R i b cs E fr off vs hM0 hT0 hr0 hR hv hl hfr
  obtain ⟨x0, vs, rfl, hx0, hv⟩ := hv.split
  obtain ⟨x1, vs, rfl, hx1, hv⟩ := hv.split
  obtain ⟨x2, vs, rfl, hx2, hv⟩ := hv.split
  obtain ⟨x3, vs, rfl, hx3, hv⟩ := hv.split
  obtain ⟨x4, vs, rfl, hx4, hv⟩ := hv.split
  obtain rfl := hv.nil
  have ho0 : Oks [.ww] [x0] := ⟨hx0, trivial⟩
  have g0 : Lies cs (off + 0) [x0] := hl.cut 0 1
  have ho1 : Oks [.ww] [x1] := ⟨hx1, trivial⟩
  have g1 : Lies cs (off + 1) [x1] := hl.cut 1 1
  have ho2 : Oks [.nn] [x2] := ⟨hx2, trivial⟩
  have g2 : Lies cs (off + 2) [x2] := hl.cut 2 1
  have ho3 : Oks [.ww] [x3] := ⟨hx3, trivial⟩
  have g3 : Lies cs (off + 3) [x3] := hl.cut 3 1
  have ho4 : Oks [.ww] [x4] := ⟨hx4, trivial⟩
  have g4 : Lies cs (off + 4) [x4] := hl.cut 4 1
  have qw := M.mw
  have pw := M.iw
  have qn := M.mn
  have pn := M.jn
  refine FnE_enter Tryz.func63 rfl Tryz.ntmps63 rfl fun g => ?_
  unfold Wy.recv
  have U0 : Upd cs cs off [] := Upd.refl_of (fun j v h => by simp at h)
  have A0 : W.stps [] s [] = .ok s [] := rfl
  have O0 : Oks [] [] := trivial
  have L0 : ([] : List Value).length = 0 := rfl
  repeat (first | ((first | refine WL_Q ?_); (first | refine QW_a ?_ | refine QW_of (Qt_nilCheck_m rfl) ?_)) | refine WL_nil ?_ | refine WC_seq ?_ | refine WC_block ?_ | refine WC_cond_t (ht := ?_) | refine WC_cond_f (he := ?_) | refine WC_skip ?_ | refine WC_ret ?_ | refine WC_exit ?_)
  refine WC_draw_sub (id := 0) 8 (.calm 0 <| .calm 1 <| .calm 2 <| .calm 3 <| .calm 4 <| .calm 5 <| .calm 6 <| .must 7 <| .done) mixed (by kernel_rfl) (List.nil_sublist _) ?_
  repeat (first | ((first | refine WL_Q ?_ | refine WR_Q rfl ?_ | refine WR_late rfl rfl rfl (OW_Q ?_)); (first | refine QW_a ?_ | refine QW_of (Qt_nilCheck_m rfl) ?_)) | refine WL_nil ?_ | refine WR_nil ?_ | refine WC_seq ?_ | refine WC_block ?_ | refine WC_cond_t (ht := ?_) | refine WC_cond_f (he := ?_) | refine WC_skip ?_ | refine WC_ret ?_ | refine WC_exit ?_ | refine WC_draw_all (id := 0) 8 (.calm 0 <| .calm 1 <| .calm 2 <| .calm 3 <| .calm 4 <| .calm 5 <| .calm 6 <| .must 7 <| .done) mixed (by kernel_rfl) ?_)
  have l0 : Lies cs (off + 0) [x0] := fun q v h => by
    rw [U0.rest _ (.inr (by rw [L0]; omega))]
    exact g0 q v h
  refine WR_op rfl rfl ?_
  refine (OW_flatI M.mw M.cw hM0 hT0 (W.room_le hr0 (by decide)) hR hx0 (l0 0 _ rfl) (hfr.sub 0 1 (by decide)) rfl ⟨?_, ?_⟩)
  rotate_left
  · intro c a p s' Lp' cs' hs hM' hz
    exact ⟨_, rfl, c, a, p, s', Lp', cs', W.bad_cat [.ww, .nn, .ww, .ww] [x1, x2, x3, x4] (W.cat_bad A0 O0 hs) (Oks.app O0 ho0), rfl, rfl, hM', hz.trans U0.size⟩
  intro s1 us0 Lp1 cs1 hs0 hM1 hu0 hT1
  have n0 : us0.length = 1 := W.stps_len hs0 ho0
  have U1 := U0.app hu0 (by rw [L0])
  have L1 := (show ([] ++ us0).length = 1 by rw [List.length_append, L0, n0])
  have A1 := W.cat_ok A0 O0 hs0
  have O1 := Oks.app O0 ho0
  have hr1 := W.stps_room (n := 4) hs0 ho0 (W.room_le hr0 (by decide))
  have R1 := get_set_self hR (b, Obj.cells cs1 E fr)
  refine ⟨(fun q hq => (by cases hq)), ?_⟩
  repeat (first | ((first | refine WL_Q ?_ | refine WR_Q rfl ?_ | refine WR_late rfl rfl rfl (OW_Q ?_)); (first | refine QW_a ?_ | refine QW_of (Qt_nilCheck_m rfl) ?_)) | refine WL_nil ?_ | refine WR_nil ?_ | refine WC_seq ?_ | refine WC_block ?_ | refine WC_cond_t (ht := ?_) | refine WC_cond_f (he := ?_) | refine WC_skip ?_ | refine WC_ret ?_ | refine WC_exit ?_ | refine WC_draw_all (id := 0) 8 (.calm 0 <| .calm 1 <| .calm 2 <| .calm 3 <| .calm 4 <| .calm 5 <| .calm 6 <| .must 7 <| .done) mixed (by kernel_rfl) ?_)
  refine WC_draw_sub (id := 1) 8 (.calm 0 <| .calm 1 <| .calm 2 <| .calm 3 <| .calm 4 <| .calm 5 <| .calm 6 <| .must 7 <| .done) mixed (by kernel_rfl) (List.nil_sublist _) ?_
  repeat (first | ((first | refine WL_Q ?_ | refine WR_Q rfl ?_ | refine WR_late rfl rfl rfl (OW_Q ?_)); (first | refine QW_a ?_ | refine QW_of (Qt_nilCheck_m rfl) ?_)) | refine WL_nil ?_ | refine WR_nil ?_ | refine WC_seq ?_ | refine WC_block ?_ | refine WC_cond_t (ht := ?_) | refine WC_cond_f (he := ?_) | refine WC_skip ?_ | refine WC_ret ?_ | refine WC_exit ?_ | refine WC_draw_all (id := 1) 8 (.calm 0 <| .calm 1 <| .calm 2 <| .calm 3 <| .calm 4 <| .calm 5 <| .calm 6 <| .must 7 <| .done) mixed (by kernel_rfl) ?_)
  have l1 : Lies cs1 (off + 1) [x1] := fun q v h => by
    rw [U1.rest _ (.inr (by rw [L1]; omega))]
    exact g1 q v h
  refine WR_op rfl rfl ?_
  refine (OW_flatI M.mw M.cw hM1 hT1 (W.room_le hr1 (by decide)) R1 hx1 (l1 0 _ rfl) (hfr.sub 1 1 (by decide)) rfl ⟨?_, ?_⟩)
  rotate_left
  · intro c a p s' Lp' cs' hs hM' hz
    exact ⟨_, rfl, c, a, p, s', Lp', cs', W.bad_cat [.nn, .ww, .ww] [x2, x3, x4] (W.cat_bad A1 O1 hs) (Oks.app O1 ho1), rfl, by rw [List.set_set], hM', hz.trans U1.size⟩
  intro s2 us1 Lp2 cs2 hs1 hM2 hu1 hT2
  have n1 : us1.length = 1 := W.stps_len hs1 ho1
  have U2 := U1.app hu1 (by rw [L1])
  have L2 := (show (([] ++ us0) ++ us1).length = 2 by rw [List.length_append, L1, n1])
  have A2 := W.cat_ok A1 O1 hs1
  have O2 := Oks.app O1 ho1
  have hr2 := W.stps_room (n := 3) hs1 ho1 (W.room_le hr1 (by decide))
  rw [List.set_set] at hT2
  rw [List.set_set]
  have R2 := get_set_self hR (b, Obj.cells cs2 E fr)
  refine ⟨(fun q hq => (by cases hq)), ?_⟩
  repeat (first | ((first | refine WL_Q ?_ | refine WR_Q rfl ?_ | refine WR_late rfl rfl rfl (OW_Q ?_)); (first | refine QW_a ?_ | refine QW_of (Qt_nilCheck_m rfl) ?_)) | refine WL_nil ?_ | refine WR_nil ?_ | refine WC_seq ?_ | refine WC_block ?_ | refine WC_cond_t (ht := ?_) | refine WC_cond_f (he := ?_) | refine WC_skip ?_ | refine WC_ret ?_ | refine WC_exit ?_ | refine WC_draw_all (id := 1) 8 (.calm 0 <| .calm 1 <| .calm 2 <| .calm 3 <| .calm 4 <| .calm 5 <| .calm 6 <| .must 7 <| .done) mixed (by kernel_rfl) ?_)
  refine WC_draw_sub (id := 2) 8 (.calm 0 <| .calm 1 <| .calm 2 <| .calm 3 <| .calm 4 <| .calm 5 <| .calm 6 <| .must 7 <| .done) mixed (by kernel_rfl) (List.nil_sublist _) ?_
  repeat (first | ((first | refine WL_Q ?_ | refine WR_Q rfl ?_ | refine WR_late rfl rfl rfl (OW_Q ?_)); (first | refine QW_a ?_ | refine QW_of (Qt_nilCheck_m rfl) ?_)) | refine WL_nil ?_ | refine WR_nil ?_ | refine WC_seq ?_ | refine WC_block ?_ | refine WC_cond_t (ht := ?_) | refine WC_cond_f (he := ?_) | refine WC_skip ?_ | refine WC_ret ?_ | refine WC_exit ?_ | refine WC_draw_all (id := 2) 8 (.calm 0 <| .calm 1 <| .calm 2 <| .calm 3 <| .calm 4 <| .calm 5 <| .calm 6 <| .must 7 <| .done) mixed (by kernel_rfl) ?_)
  have l2 : Lies cs2 (off + 2) [x2] := fun q v h => by
    rw [U2.rest _ (.inr (by rw [L2]; omega))]
    exact g2 q v h
  refine WR_op rfl rfl ?_
  refine (OW_flatI M.mn M.cn hM2 hT2 (W.room_le hr2 (by decide)) R2 hx2 (l2 0 _ rfl) (hfr.sub 2 1 (by decide)) rfl ⟨?_, ?_⟩)
  rotate_left
  · intro c a p s' Lp' cs' hs hM' hz
    exact ⟨_, rfl, c, a, p, s', Lp', cs', W.bad_cat [.ww, .ww] [x3, x4] (W.cat_bad A2 O2 hs) (Oks.app O2 ho2), rfl, by rw [List.set_set], hM', hz.trans U2.size⟩
  intro s3 us2 Lp3 cs3 hs2 hM3 hu2 hT3
  have n2 : us2.length = 1 := W.stps_len hs2 ho2
  have U3 := U2.app hu2 (by rw [L2])
  have L3 := (show ((([] ++ us0) ++ us1) ++ us2).length = 3 by rw [List.length_append, L2, n2])
  have A3 := W.cat_ok A2 O2 hs2
  have O3 := Oks.app O2 ho2
  have hr3 := W.stps_room (n := 2) hs2 ho2 (W.room_le hr2 (by decide))
  rw [List.set_set] at hT3
  rw [List.set_set]
  have R3 := get_set_self hR (b, Obj.cells cs3 E fr)
  refine ⟨(fun q hq => (by cases hq)), ?_⟩
  repeat (first | ((first | refine WL_Q ?_ | refine WR_Q rfl ?_ | refine WR_late rfl rfl rfl (OW_Q ?_)); (first | refine QW_a ?_ | refine QW_of (Qt_nilCheck_m rfl) ?_)) | refine WL_nil ?_ | refine WR_nil ?_ | refine WC_seq ?_ | refine WC_block ?_ | refine WC_cond_t (ht := ?_) | refine WC_cond_f (he := ?_) | refine WC_skip ?_ | refine WC_ret ?_ | refine WC_exit ?_ | refine WC_draw_all (id := 2) 8 (.calm 0 <| .calm 1 <| .calm 2 <| .calm 3 <| .calm 4 <| .calm 5 <| .calm 6 <| .must 7 <| .done) mixed (by kernel_rfl) ?_)
  refine WC_draw_sub (id := 3) 8 (.calm 0 <| .calm 1 <| .calm 2 <| .calm 3 <| .calm 4 <| .calm 5 <| .calm 6 <| .must 7 <| .done) mixed (by kernel_rfl) (List.nil_sublist _) ?_
  repeat (first | ((first | refine WL_Q ?_ | refine WR_Q rfl ?_ | refine WR_late rfl rfl rfl (OW_Q ?_)); (first | refine QW_a ?_ | refine QW_of (Qt_nilCheck_m rfl) ?_)) | refine WL_nil ?_ | refine WR_nil ?_ | refine WC_seq ?_ | refine WC_block ?_ | refine WC_cond_t (ht := ?_) | refine WC_cond_f (he := ?_) | refine WC_skip ?_ | refine WC_ret ?_ | refine WC_exit ?_ | refine WC_draw_all (id := 3) 8 (.calm 0 <| .calm 1 <| .calm 2 <| .calm 3 <| .calm 4 <| .calm 5 <| .calm 6 <| .must 7 <| .done) mixed (by kernel_rfl) ?_)
  have l3 : Lies cs3 (off + 3) [x3] := fun q v h => by
    rw [U3.rest _ (.inr (by rw [L3]; omega))]
    exact g3 q v h
  refine WR_op rfl rfl ?_
  refine (OW_flatI M.mw M.cw hM3 hT3 (W.room_le hr3 (by decide)) R3 hx3 (l3 0 _ rfl) (hfr.sub 3 1 (by decide)) rfl ⟨?_, ?_⟩)
  rotate_left
  · intro c a p s' Lp' cs' hs hM' hz
    exact ⟨_, rfl, c, a, p, s', Lp', cs', W.bad_cat [.ww] [x4] (W.cat_bad A3 O3 hs) (Oks.app O3 ho3), rfl, by rw [List.set_set], hM', hz.trans U3.size⟩
  intro s4 us3 Lp4 cs4 hs3 hM4 hu3 hT4
  have n3 : us3.length = 1 := W.stps_len hs3 ho3
  have U4 := U3.app hu3 (by rw [L3])
  have L4 := (show (((([] ++ us0) ++ us1) ++ us2) ++ us3).length = 4 by rw [List.length_append, L3, n3])
  have A4 := W.cat_ok A3 O3 hs3
  have O4 := Oks.app O3 ho3
  have hr4 := W.stps_room (n := 1) hs3 ho3 (W.room_le hr3 (by decide))
  rw [List.set_set] at hT4
  rw [List.set_set]
  have R4 := get_set_self hR (b, Obj.cells cs4 E fr)
  refine ⟨(fun q hq => (by cases hq)), ?_⟩
  repeat (first | ((first | refine WL_Q ?_ | refine WR_Q rfl ?_ | refine WR_late rfl rfl rfl (OW_Q ?_)); (first | refine QW_a ?_ | refine QW_of (Qt_nilCheck_m rfl) ?_)) | refine WL_nil ?_ | refine WR_nil ?_ | refine WC_seq ?_ | refine WC_block ?_ | refine WC_cond_t (ht := ?_) | refine WC_cond_f (he := ?_) | refine WC_skip ?_ | refine WC_ret ?_ | refine WC_exit ?_ | refine WC_draw_all (id := 3) 8 (.calm 0 <| .calm 1 <| .calm 2 <| .calm 3 <| .calm 4 <| .calm 5 <| .calm 6 <| .must 7 <| .done) mixed (by kernel_rfl) ?_)
  refine WC_draw_sub (id := 4) 8 (.calm 0 <| .calm 1 <| .calm 2 <| .calm 3 <| .calm 4 <| .calm 5 <| .calm 6 <| .must 7 <| .done) mixed (by kernel_rfl) (List.nil_sublist _) ?_
  repeat (first | ((first | refine WL_Q ?_ | refine WR_Q rfl ?_ | refine WR_late rfl rfl rfl (OW_Q ?_)); (first | refine QW_a ?_ | refine QW_of (Qt_nilCheck_m rfl) ?_)) | refine WL_nil ?_ | refine WR_nil ?_ | refine WC_seq ?_ | refine WC_block ?_ | refine WC_cond_t (ht := ?_) | refine WC_cond_f (he := ?_) | refine WC_skip ?_ | refine WC_ret ?_ | refine WC_exit ?_ | refine WC_draw_all (id := 4) 8 (.calm 0 <| .calm 1 <| .calm 2 <| .calm 3 <| .calm 4 <| .calm 5 <| .calm 6 <| .must 7 <| .done) mixed (by kernel_rfl) ?_)
  have l4 : Lies cs4 (off + 4) [x4] := fun q v h => by
    rw [U4.rest _ (.inr (by rw [L4]; omega))]
    exact g4 q v h
  refine WR_op rfl rfl ?_
  refine (OW_flatI M.mw M.cw hM4 hT4 (W.room_le hr4 (by decide)) R4 hx4 (l4 0 _ rfl) (hfr.sub 4 1 (by decide)) rfl ⟨?_, ?_⟩)
  rotate_left
  · intro c a p s' Lp' cs' hs hM' hz
    exact ⟨_, rfl, c, a, p, s', Lp', cs', W.bad_cat [] [] (W.cat_bad A4 O4 hs) (Oks.app O4 ho4), rfl, by rw [List.set_set], hM', hz.trans U4.size⟩
  intro s5 us4 Lp5 cs5 hs4 hM5 hu4 hT5
  have n4 : us4.length = 1 := W.stps_len hs4 ho4
  have U5 := U4.app hu4 (by rw [L4])
  have L5 := (show ((((([] ++ us0) ++ us1) ++ us2) ++ us3) ++ us4).length = 5 by rw [List.length_append, L4, n4])
  have A5 := W.cat_ok A4 O4 hs4
  have O5 := Oks.app O4 ho4
  have hr5 := W.stps_room (n := 0) hs4 ho4 (W.room_le hr4 (by decide))
  rw [List.set_set] at hT5
  rw [List.set_set]
  have R5 := get_set_self hR (b, Obj.cells cs5 E fr)
  refine ⟨(fun q hq => (by cases hq)), ?_⟩
  repeat (first | ((first | refine WL_Q ?_ | refine WR_Q rfl ?_ | refine WR_late rfl rfl rfl (OW_Q ?_)); (first | refine QW_a ?_ | refine QW_of (Qt_nilCheck_m rfl) ?_)) | refine WL_nil ?_ | refine WR_nil ?_ | refine WC_seq ?_ | refine WC_block ?_ | refine WC_cond_t (ht := ?_) | refine WC_cond_f (he := ?_) | refine WC_skip ?_ | refine WC_ret ?_ | refine WC_exit ?_ | refine WC_draw_all (id := 4) 8 (.calm 0 <| .calm 1 <| .calm 2 <| .calm 3 <| .calm 4 <| .calm 5 <| .calm 6 <| .must 7 <| .done) mixed (by kernel_rfl) ?_)
  exact ⟨.tuple #[], _, Res0 rfl, .refl _, rfl, s5, _, Lp5, cs5, A5, rfl, hM5, U5, hT5⟩
set_option maxHeartbeats 4000000 in
theorem item_flat : Flat W 51 W.recv itemF := by
  intro s Lp R i b cs E fr off vs hM0 hT0 hr0 hR hv hl hfr
  obtain ⟨x0, vs, rfl, hx0, hv⟩ := hv.split
  obtain ⟨x1, vs, rfl, hx1, hv⟩ := hv.split
  obtain ⟨x2, vs, rfl, hx2, hv⟩ := hv.split
  obtain ⟨x3, vs, rfl, hx3, hv⟩ := hv.split
  obtain ⟨x4, vs, rfl, hx4, hv⟩ := hv.split
  obtain ⟨x5, vs, rfl, hx5, hv⟩ := hv.split
  obtain ⟨x6, vs, rfl, hx6, hv⟩ := hv.split
  obtain ⟨x7, vs, rfl, hx7, hv⟩ := hv.split
  obtain rfl := hv.nil
  have ho0 : Oks [.tt] [x0] := ⟨hx0, trivial⟩
  have g0 : Lies cs (off + 0) [x0] := hl.cut 0 1
  have ho1 : Oks [.ww] [x1] := ⟨hx1, trivial⟩
  have g1 : Lies cs (off + 1) [x1] := hl.cut 1 1
  have ho2 : Oks [.kk, .ww, .ww, .bb, .tt, .tt] [x2, x3, x4, x5, x6, x7] := ⟨hx2, hx3, hx4, hx5, hx6, hx7, trivial⟩
  have g2 : Lies cs (off + 2) [x2, x3, x4, x5, x6, x7] := hl.cut 2 6
  have qw := M.mw
  have pw := M.iw
  have qt := M.mt
  have pt := M.it
  refine FnE_enter Tryz.func51 rfl Tryz.ntmps51 rfl fun g => ?_
  unfold Wy.recv
  have U0 : Upd cs cs off [] := Upd.refl_of (fun j v h => by simp at h)
  have A0 : W.stps [] s [] = .ok s [] := rfl
  have O0 : Oks [] [] := trivial
  have L0 : ([] : List Value).length = 0 := rfl
  repeat (first | ((first | refine WL_Q ?_); (first | refine QW_a ?_ | refine QW_of (Qt_nilCheck_m rfl) ?_)) | refine WL_nil ?_ | refine WC_seq ?_ | refine WC_block ?_ | refine WC_cond_t (ht := ?_) | refine WC_cond_f (he := ?_) | refine WC_skip ?_ | refine WC_ret ?_ | refine WC_exit ?_)
  refine WC_draw_sub (id := 0) 8 (.calm 0 <| .calm 1 <| .calm 2 <| .calm 3 <| .calm 4 <| .calm 5 <| .calm 6 <| .must 7 <| .done) mixed (by kernel_rfl) (List.nil_sublist _) ?_
  repeat (first | ((first | refine WL_Q ?_ | refine WR_Q rfl ?_ | refine WR_late rfl rfl rfl (OW_Q ?_)); (first | refine QW_a ?_ | refine QW_of (Qt_nilCheck_m rfl) ?_)) | refine WL_nil ?_ | refine WR_nil ?_ | refine WC_seq ?_ | refine WC_block ?_ | refine WC_cond_t (ht := ?_) | refine WC_cond_f (he := ?_) | refine WC_skip ?_ | refine WC_ret ?_ | refine WC_exit ?_ | refine WC_draw_all (id := 0) 8 (.calm 0 <| .calm 1 <| .calm 2 <| .calm 3 <| .calm 4 <| .calm 5 <| .calm 6 <| .must 7 <| .done) mixed (by kernel_rfl) ?_)
  have l0 : Lies cs (off + 0) [x0] := fun q v h => by
    rw [U0.rest _ (.inr (by rw [L0]; omega))]
    exact g0 q v h
  refine WR_op rfl rfl ?_
  refine (OW_flatI M.mt M.ct hM0 hT0 (W.room_le hr0 (by decide)) hR hx0 (l0 0 _ rfl) (hfr.sub 0 1 (by decide)) rfl ⟨?_, ?_⟩)
  rotate_left
  · intro c a p s' Lp' cs' hs hM' hz
    exact ⟨_, rfl, c, a, p, s', Lp', cs', W.bad_cat [.ww, .kk, .ww, .ww, .bb, .tt, .tt] [x1, x2, x3, x4, x5, x6, x7] (W.cat_bad A0 O0 hs) (Oks.app O0 ho0), rfl, rfl, hM', hz.trans U0.size⟩
  intro s1 us0 Lp1 cs1 hs0 hM1 hu0 hT1
  have n0 : us0.length = 1 := W.stps_len hs0 ho0
  have U1 := U0.app hu0 (by rw [L0])
  have L1 := (show ([] ++ us0).length = 1 by rw [List.length_append, L0, n0])
  have A1 := W.cat_ok A0 O0 hs0
  have O1 := Oks.app O0 ho0
  have hr1 := W.stps_room (n := 7) hs0 ho0 (W.room_le hr0 (by decide))
  have R1 := get_set_self hR (b, Obj.cells cs1 E fr)
  refine ⟨(fun q hq => (by cases hq)), ?_⟩
  repeat (first | ((first | refine WL_Q ?_ | refine WR_Q rfl ?_ | refine WR_late rfl rfl rfl (OW_Q ?_)); (first | refine QW_a ?_ | refine QW_of (Qt_nilCheck_m rfl) ?_)) | refine WL_nil ?_ | refine WR_nil ?_ | refine WC_seq ?_ | refine WC_block ?_ | refine WC_cond_t (ht := ?_) | refine WC_cond_f (he := ?_) | refine WC_skip ?_ | refine WC_ret ?_ | refine WC_exit ?_ | refine WC_draw_all (id := 0) 8 (.calm 0 <| .calm 1 <| .calm 2 <| .calm 3 <| .calm 4 <| .calm 5 <| .calm 6 <| .must 7 <| .done) mixed (by kernel_rfl) ?_)
  refine WC_draw_sub (id := 1) 8 (.calm 0 <| .calm 1 <| .calm 2 <| .calm 3 <| .calm 4 <| .calm 5 <| .calm 6 <| .must 7 <| .done) mixed (by kernel_rfl) (List.nil_sublist _) ?_
  repeat (first | ((first | refine WL_Q ?_ | refine WR_Q rfl ?_ | refine WR_late rfl rfl rfl (OW_Q ?_)); (first | refine QW_a ?_ | refine QW_of (Qt_nilCheck_m rfl) ?_)) | refine WL_nil ?_ | refine WR_nil ?_ | refine WC_seq ?_ | refine WC_block ?_ | refine WC_cond_t (ht := ?_) | refine WC_cond_f (he := ?_) | refine WC_skip ?_ | refine WC_ret ?_ | refine WC_exit ?_ | refine WC_draw_all (id := 1) 8 (.calm 0 <| .calm 1 <| .calm 2 <| .calm 3 <| .calm 4 <| .calm 5 <| .calm 6 <| .must 7 <| .done) mixed (by kernel_rfl) ?_)
  have l1 : Lies cs1 (off + 1) [x1] := fun q v h => by
    rw [U1.rest _ (.inr (by rw [L1]; omega))]
    exact g1 q v h
  refine WR_op rfl rfl ?_
  refine (OW_flatI M.mw M.cw hM1 hT1 (W.room_le hr1 (by decide)) R1 hx1 (l1 0 _ rfl) (hfr.sub 1 1 (by decide)) rfl ⟨?_, ?_⟩)
  rotate_left
  · intro c a p s' Lp' cs' hs hM' hz
    exact ⟨_, rfl, c, a, p, s', Lp', cs', W.bad_cat [.kk, .ww, .ww, .bb, .tt, .tt] [x2, x3, x4, x5, x6, x7] (W.cat_bad A1 O1 hs) (Oks.app O1 ho1), rfl, by rw [List.set_set], hM', hz.trans U1.size⟩
  intro s2 us1 Lp2 cs2 hs1 hM2 hu1 hT2
  have n1 : us1.length = 1 := W.stps_len hs1 ho1
  have U2 := U1.app hu1 (by rw [L1])
  have L2 := (show (([] ++ us0) ++ us1).length = 2 by rw [List.length_append, L1, n1])
  have A2 := W.cat_ok A1 O1 hs1
  have O2 := Oks.app O1 ho1
  have hr2 := W.stps_room (n := 6) hs1 ho1 (W.room_le hr1 (by decide))
  rw [List.set_set] at hT2
  rw [List.set_set]
  have R2 := get_set_self hR (b, Obj.cells cs2 E fr)
  refine ⟨(fun q hq => (by cases hq)), ?_⟩
  repeat (first | ((first | refine WL_Q ?_ | refine WR_Q rfl ?_ | refine WR_late rfl rfl rfl (OW_Q ?_)); (first | refine QW_a ?_ | refine QW_of (Qt_nilCheck_m rfl) ?_)) | refine WL_nil ?_ | refine WR_nil ?_ | refine WC_seq ?_ | refine WC_block ?_ | refine WC_cond_t (ht := ?_) | refine WC_cond_f (he := ?_) | refine WC_skip ?_ | refine WC_ret ?_ | refine WC_exit ?_ | refine WC_draw_all (id := 1) 8 (.calm 0 <| .calm 1 <| .calm 2 <| .calm 3 <| .calm 4 <| .calm 5 <| .calm 6 <| .must 7 <| .done) mixed (by kernel_rfl) ?_)
  repeat (first | ((first | refine WL_Q ?_); (first | refine QW_a ?_ | refine QW_of (Qt_nilCheck_m rfl) ?_)) | refine WL_nil ?_ | refine WC_seq ?_ | refine WC_block ?_ | refine WC_cond_t (ht := ?_) | refine WC_cond_f (he := ?_) | refine WC_skip ?_ | refine WC_ret ?_ | refine WC_exit ?_ | refine WC_region (id := 2) ?_)
  have l2 : Lies cs2 (off + 2) [x2, x3, x4, x5, x6, x7] := fun q v h => by
    rw [U2.rest _ (.inr (by rw [L2]; omega))]
    exact g2 q v h
  refine WL_op rfl ?_
  refine (OW_flatF (rec_flat M) hM2 hT2 (W.room_le hr2 (by decide)) R2 ho2 l2 (hfr.sub 2 6 (by decide)) rfl ⟨?_, ?_⟩)
  rotate_left
  · intro c a p s' Lp' cs' hs hM' hz
    exact ⟨_, rfl, c, a, p, s', Lp', cs', W.bad_cat [] [] (W.cat_bad A2 O2 hs) (Oks.app O2 ho2), rfl, by rw [List.set_set], hM', hz.trans U2.size⟩
  intro s3 us2 Lp3 cs3 hs2 hM3 hu2 hT3
  have n2 : us2.length = 6 := W.stps_len hs2 ho2
  have U3 := U2.app hu2 (by rw [L2])
  have L3 := (show ((([] ++ us0) ++ us1) ++ us2).length = 8 by rw [List.length_append, L2, n2])
  have A3 := W.cat_ok A2 O2 hs2
  have O3 := Oks.app O2 ho2
  have hr3 := W.stps_room (n := 0) hs2 ho2 (W.room_le hr2 (by decide))
  rw [List.set_set] at hT3
  rw [List.set_set]
  have R3 := get_set_self hR (b, Obj.cells cs3 E fr)
  repeat (first | ((first | refine WL_Q ?_); (first | refine QW_a ?_ | refine QW_of (Qt_nilCheck_m rfl) ?_)) | refine WL_nil ?_ | refine WC_seq ?_ | refine WC_block ?_ | refine WC_cond_t (ht := ?_) | refine WC_cond_f (he := ?_) | refine WC_skip ?_ | refine WC_ret ?_ | refine WC_exit ?_ | refine WC_region (id := 2) ?_)
  exact ⟨.tuple #[], _, Res0 rfl, .refl _, rfl, s3, _, Lp3, cs3, A3, rfl, hM3, U3, hT3⟩
set_option maxHeartbeats 4000000 in
theorem entry_flat : Flat W 61 W.recv entryF := by
  intro s Lp R i b cs E fr off vs hM0 hT0 hr0 hR hv hl hfr
  obtain ⟨x0, vs, rfl, hx0, hv⟩ := hv.split
  obtain ⟨x1, vs, rfl, hx1, hv⟩ := hv.split
  obtain ⟨x2, vs, rfl, hx2, hv⟩ := hv.split
  obtain ⟨x3, vs, rfl, hx3, hv⟩ := hv.split
  obtain ⟨x4, vs, rfl, hx4, hv⟩ := hv.split
  obtain ⟨x5, vs, rfl, hx5, hv⟩ := hv.split
  obtain ⟨x6, vs, rfl, hx6, hv⟩ := hv.split
  obtain ⟨x7, vs, rfl, hx7, hv⟩ := hv.split
  obtain ⟨x8, vs, rfl, hx8, hv⟩ := hv.split
  obtain ⟨x9, vs, rfl, hx9, hv⟩ := hv.split
  obtain rfl := hv.nil
  have ho0 : Oks [.ww] [x0] := ⟨hx0, trivial⟩
  have g0 : Lies cs (off + 0) [x0] := hl.cut 0 1
  have ho1 : Oks [.kk] [x1] := ⟨hx1, trivial⟩
  have g1 : Lies cs (off + 1) [x1] := hl.cut 1 1
  have ho2 : Oks [.ww] [x2] := ⟨hx2, trivial⟩
  have g2 : Lies cs (off + 2) [x2] := hl.cut 2 1
  have ho3 : Oks [.ww] [x3] := ⟨hx3, trivial⟩
  have g3 : Lies cs (off + 3) [x3] := hl.cut 3 1
  have ho4 : Oks [.bb] [x4] := ⟨hx4, trivial⟩
  have g4 : Lies cs (off + 4) [x4] := hl.cut 4 1
  have ho5 : Oks [.ww, .ww, .nn, .ww, .ww] [x5, x6, x7, x8, x9] := ⟨hx5, hx6, hx7, hx8, hx9, trivial⟩
  have g5 : Lies cs (off + 5) [x5, x6, x7, x8, x9] := hl.cut 5 5
  have qw := M.mw
  have pw := M.iw
  have qb := M.mo
  have pb := M.io
  refine FnE_enter Tryz.func61 rfl Tryz.ntmps61 rfl fun g => ?_
  unfold Wy.recv
  have U0 : Upd cs cs off [] := Upd.refl_of (fun j v h => by simp at h)
  have A0 : W.stps [] s [] = .ok s [] := rfl
  have O0 : Oks [] [] := trivial
  have L0 : ([] : List Value).length = 0 := rfl
  repeat (first | ((first | refine WL_Q ?_); (first | refine QW_a ?_ | refine QW_of (Qt_nilCheck_m rfl) ?_)) | refine WL_nil ?_ | refine WC_seq ?_ | refine WC_block ?_ | refine WC_cond_t (ht := ?_) | refine WC_cond_f (he := ?_) | refine WC_skip ?_ | refine WC_ret ?_ | refine WC_exit ?_ | refine WC_region (id := 0) ?_)
  have l0 : Lies cs (off + 0) [x0] := fun q v h => by
    rw [U0.rest _ (.inr (by rw [L0]; omega))]
    exact g0 q v h
  refine WL_op rfl ?_
  refine (OW_flatF (small_flat M) hM0 hT0 (W.room_le hr0 (by decide)) hR ho0 l0 (hfr.sub 0 1 (by decide)) rfl ⟨?_, ?_⟩)
  rotate_left
  · intro c a p s' Lp' cs' hs hM' hz
    exact ⟨_, rfl, c, a, p, s', Lp', cs', W.bad_cat [.kk, .ww, .ww, .bb, .ww, .ww, .nn, .ww, .ww] [x1, x2, x3, x4, x5, x6, x7, x8, x9] (W.cat_bad A0 O0 hs) (Oks.app O0 ho0), rfl, rfl, hM', hz.trans U0.size⟩
  intro s1 us0 Lp1 cs1 hs0 hM1 hu0 hT1
  have n0 : us0.length = 1 := W.stps_len hs0 ho0
  have U1 := U0.app hu0 (by rw [L0])
  have L1 := (show ([] ++ us0).length = 1 by rw [List.length_append, L0, n0])
  have A1 := W.cat_ok A0 O0 hs0
  have O1 := Oks.app O0 ho0
  have hr1 := W.stps_room (n := 9) hs0 ho0 (W.room_le hr0 (by decide))
  have R1 := get_set_self hR (b, Obj.cells cs1 E fr)
  repeat (first | ((first | refine WL_Q ?_); (first | refine QW_a ?_ | refine QW_of (Qt_nilCheck_m rfl) ?_)) | refine WL_nil ?_ | refine WC_seq ?_ | refine WC_block ?_ | refine WC_cond_t (ht := ?_) | refine WC_cond_f (he := ?_) | refine WC_skip ?_ | refine WC_ret ?_ | refine WC_exit ?_ | refine WC_region (id := 0) ?_)
  repeat (first | ((first | refine WL_Q ?_); (first | refine QW_a ?_ | refine QW_of (Qt_nilCheck_m rfl) ?_)) | refine WL_nil ?_ | refine WC_seq ?_ | refine WC_block ?_ | refine WC_cond_t (ht := ?_) | refine WC_cond_f (he := ?_) | refine WC_skip ?_ | refine WC_ret ?_ | refine WC_exit ?_ | refine WC_region (id := 1) ?_)
  have l1 : Lies cs1 (off + 1) [x1] := fun q v h => by
    rw [U1.rest _ (.inr (by rw [L1]; omega))]
    exact g1 q v h
  refine WL_op rfl ?_
  refine (OW_flatF (key_flat M) hM1 hT1 (W.room_le hr1 (by decide)) R1 ho1 l1 (hfr.sub 1 1 (by decide)) rfl ⟨?_, ?_⟩)
  rotate_left
  · intro c a p s' Lp' cs' hs hM' hz
    exact ⟨_, rfl, c, a, p, s', Lp', cs', W.bad_cat [.ww, .ww, .bb, .ww, .ww, .nn, .ww, .ww] [x2, x3, x4, x5, x6, x7, x8, x9] (W.cat_bad A1 O1 hs) (Oks.app O1 ho1), rfl, by rw [List.set_set], hM', hz.trans U1.size⟩
  intro s2 us1 Lp2 cs2 hs1 hM2 hu1 hT2
  have n1 : us1.length = 1 := W.stps_len hs1 ho1
  have U2 := U1.app hu1 (by rw [L1])
  have L2 := (show (([] ++ us0) ++ us1).length = 2 by rw [List.length_append, L1, n1])
  have A2 := W.cat_ok A1 O1 hs1
  have O2 := Oks.app O1 ho1
  have hr2 := W.stps_room (n := 8) hs1 ho1 (W.room_le hr1 (by decide))
  rw [List.set_set] at hT2
  rw [List.set_set]
  have R2 := get_set_self hR (b, Obj.cells cs2 E fr)
  repeat (first | ((first | refine WL_Q ?_); (first | refine QW_a ?_ | refine QW_of (Qt_nilCheck_m rfl) ?_)) | refine WL_nil ?_ | refine WC_seq ?_ | refine WC_block ?_ | refine WC_cond_t (ht := ?_) | refine WC_cond_f (he := ?_) | refine WC_skip ?_ | refine WC_ret ?_ | refine WC_exit ?_ | refine WC_region (id := 1) ?_)
  refine WC_draw_sub (id := 2) 8 (.calm 0 <| .calm 1 <| .calm 2 <| .calm 3 <| .calm 4 <| .calm 5 <| .calm 6 <| .must 7 <| .done) mixed (by kernel_rfl) (List.nil_sublist _) ?_
  repeat (first | ((first | refine WL_Q ?_ | refine WR_Q rfl ?_ | refine WR_late rfl rfl rfl (OW_Q ?_)); (first | refine QW_a ?_ | refine QW_of (Qt_nilCheck_m rfl) ?_)) | refine WL_nil ?_ | refine WR_nil ?_ | refine WC_seq ?_ | refine WC_block ?_ | refine WC_cond_t (ht := ?_) | refine WC_cond_f (he := ?_) | refine WC_skip ?_ | refine WC_ret ?_ | refine WC_exit ?_ | refine WC_draw_all (id := 2) 8 (.calm 0 <| .calm 1 <| .calm 2 <| .calm 3 <| .calm 4 <| .calm 5 <| .calm 6 <| .must 7 <| .done) mixed (by kernel_rfl) ?_)
  have l2 : Lies cs2 (off + 2) [x2] := fun q v h => by
    rw [U2.rest _ (.inr (by rw [L2]; omega))]
    exact g2 q v h
  refine WR_op rfl rfl ?_
  refine (OW_flatI M.mw M.cw hM2 hT2 (W.room_le hr2 (by decide)) R2 hx2 (l2 0 _ rfl) (hfr.sub 2 1 (by decide)) rfl ⟨?_, ?_⟩)
  rotate_left
  · intro c a p s' Lp' cs' hs hM' hz
    exact ⟨_, rfl, c, a, p, s', Lp', cs', W.bad_cat [.ww, .bb, .ww, .ww, .nn, .ww, .ww] [x3, x4, x5, x6, x7, x8, x9] (W.cat_bad A2 O2 hs) (Oks.app O2 ho2), rfl, by rw [List.set_set], hM', hz.trans U2.size⟩
  intro s3 us2 Lp3 cs3 hs2 hM3 hu2 hT3
  have n2 : us2.length = 1 := W.stps_len hs2 ho2
  have U3 := U2.app hu2 (by rw [L2])
  have L3 := (show ((([] ++ us0) ++ us1) ++ us2).length = 3 by rw [List.length_append, L2, n2])
  have A3 := W.cat_ok A2 O2 hs2
  have O3 := Oks.app O2 ho2
  have hr3 := W.stps_room (n := 7) hs2 ho2 (W.room_le hr2 (by decide))
  rw [List.set_set] at hT3
  rw [List.set_set]
  have R3 := get_set_self hR (b, Obj.cells cs3 E fr)
  refine ⟨(fun q hq => (by cases hq)), ?_⟩
  repeat (first | ((first | refine WL_Q ?_ | refine WR_Q rfl ?_ | refine WR_late rfl rfl rfl (OW_Q ?_)); (first | refine QW_a ?_ | refine QW_of (Qt_nilCheck_m rfl) ?_)) | refine WL_nil ?_ | refine WR_nil ?_ | refine WC_seq ?_ | refine WC_block ?_ | refine WC_cond_t (ht := ?_) | refine WC_cond_f (he := ?_) | refine WC_skip ?_ | refine WC_ret ?_ | refine WC_exit ?_ | refine WC_draw_all (id := 2) 8 (.calm 0 <| .calm 1 <| .calm 2 <| .calm 3 <| .calm 4 <| .calm 5 <| .calm 6 <| .must 7 <| .done) mixed (by kernel_rfl) ?_)
  refine WC_draw_sub (id := 3) 8 (.calm 0 <| .calm 1 <| .calm 2 <| .calm 3 <| .calm 4 <| .calm 5 <| .calm 6 <| .must 7 <| .done) mixed (by kernel_rfl) (List.nil_sublist _) ?_
  repeat (first | ((first | refine WL_Q ?_ | refine WR_Q rfl ?_ | refine WR_late rfl rfl rfl (OW_Q ?_)); (first | refine QW_a ?_ | refine QW_of (Qt_nilCheck_m rfl) ?_)) | refine WL_nil ?_ | refine WR_nil ?_ | refine WC_seq ?_ | refine WC_block ?_ | refine WC_cond_t (ht := ?_) | refine WC_cond_f (he := ?_) | refine WC_skip ?_ | refine WC_ret ?_ | refine WC_exit ?_ | refine WC_draw_all (id := 3) 8 (.calm 0 <| .calm 1 <| .calm 2 <| .calm 3 <| .calm 4 <| .calm 5 <| .calm 6 <| .must 7 <| .done) mixed (by kernel_rfl) ?_)
  have l3 : Lies cs3 (off + 3) [x3] := fun q v h => by
    rw [U3.rest _ (.inr (by rw [L3]; omega))]
    exact g3 q v h
  refine WR_op rfl rfl ?_
  refine (OW_flatI M.mw M.cw hM3 hT3 (W.room_le hr3 (by decide)) R3 hx3 (l3 0 _ rfl) (hfr.sub 3 1 (by decide)) rfl ⟨?_, ?_⟩)
  rotate_left
  · intro c a p s' Lp' cs' hs hM' hz
    exact ⟨_, rfl, c, a, p, s', Lp', cs', W.bad_cat [.bb, .ww, .ww, .nn, .ww, .ww] [x4, x5, x6, x7, x8, x9] (W.cat_bad A3 O3 hs) (Oks.app O3 ho3), rfl, by rw [List.set_set], hM', hz.trans U3.size⟩
  intro s4 us3 Lp4 cs4 hs3 hM4 hu3 hT4
  have n3 : us3.length = 1 := W.stps_len hs3 ho3
  have U4 := U3.app hu3 (by rw [L3])
  have L4 := (show (((([] ++ us0) ++ us1) ++ us2) ++ us3).length = 4 by rw [List.length_append, L3, n3])
  have A4 := W.cat_ok A3 O3 hs3
  have O4 := Oks.app O3 ho3
  have hr4 := W.stps_room (n := 6) hs3 ho3 (W.room_le hr3 (by decide))
  rw [List.set_set] at hT4
  rw [List.set_set]
  have R4 := get_set_self hR (b, Obj.cells cs4 E fr)
  refine ⟨(fun q hq => (by cases hq)), ?_⟩
  repeat (first | ((first | refine WL_Q ?_ | refine WR_Q rfl ?_ | refine WR_late rfl rfl rfl (OW_Q ?_)); (first | refine QW_a ?_ | refine QW_of (Qt_nilCheck_m rfl) ?_)) | refine WL_nil ?_ | refine WR_nil ?_ | refine WC_seq ?_ | refine WC_block ?_ | refine WC_cond_t (ht := ?_) | refine WC_cond_f (he := ?_) | refine WC_skip ?_ | refine WC_ret ?_ | refine WC_exit ?_ | refine WC_draw_all (id := 3) 8 (.calm 0 <| .calm 1 <| .calm 2 <| .calm 3 <| .calm 4 <| .calm 5 <| .calm 6 <| .must 7 <| .done) mixed (by kernel_rfl) ?_)
  refine WC_draw_sub (id := 4) 8 (.calm 0 <| .calm 1 <| .calm 2 <| .calm 3 <| .calm 4 <| .calm 5 <| .calm 6 <| .must 7 <| .done) mixed (by kernel_rfl) (List.nil_sublist _) ?_
  repeat (first | ((first | refine WL_Q ?_ | refine WR_Q rfl ?_ | refine WR_late rfl rfl rfl (OW_Q ?_)); (first | refine QW_a ?_ | refine QW_of (Qt_nilCheck_m rfl) ?_)) | refine WL_nil ?_ | refine WR_nil ?_ | refine WC_seq ?_ | refine WC_block ?_ | refine WC_cond_t (ht := ?_) | refine WC_cond_f (he := ?_) | refine WC_skip ?_ | refine WC_ret ?_ | refine WC_exit ?_ | refine WC_draw_all (id := 4) 8 (.calm 0 <| .calm 1 <| .calm 2 <| .calm 3 <| .calm 4 <| .calm 5 <| .calm 6 <| .must 7 <| .done) mixed (by kernel_rfl) ?_)
  have l4 : Lies cs4 (off + 4) [x4] := fun q v h => by
    rw [U4.rest _ (.inr (by rw [L4]; omega))]
    exact g4 q v h
  refine WR_op rfl rfl ?_
  refine (OW_flatI M.mo M.co hM4 hT4 (W.room_le hr4 (by decide)) R4 hx4 (l4 0 _ rfl) (hfr.sub 4 1 (by decide)) rfl ⟨?_, ?_⟩)
  rotate_left
  · intro c a p s' Lp' cs' hs hM' hz
    exact ⟨_, rfl, c, a, p, s', Lp', cs', W.bad_cat [.ww, .ww, .nn, .ww, .ww] [x5, x6, x7, x8, x9] (W.cat_bad A4 O4 hs) (Oks.app O4 ho4), rfl, by rw [List.set_set], hM', hz.trans U4.size⟩
  intro s5 us4 Lp5 cs5 hs4 hM5 hu4 hT5
  have n4 : us4.length = 1 := W.stps_len hs4 ho4
  have U5 := U4.app hu4 (by rw [L4])
  have L5 := (show ((((([] ++ us0) ++ us1) ++ us2) ++ us3) ++ us4).length = 5 by rw [List.length_append, L4, n4])
  have A5 := W.cat_ok A4 O4 hs4
  have O5 := Oks.app O4 ho4
  have hr5 := W.stps_room (n := 5) hs4 ho4 (W.room_le hr4 (by decide))
  rw [List.set_set] at hT5
  rw [List.set_set]
  have R5 := get_set_self hR (b, Obj.cells cs5 E fr)
  refine ⟨(fun q hq => (by cases hq)), ?_⟩
  repeat (first | ((first | refine WL_Q ?_ | refine WR_Q rfl ?_ | refine WR_late rfl rfl rfl (OW_Q ?_)); (first | refine QW_a ?_ | refine QW_of (Qt_nilCheck_m rfl) ?_)) | refine WL_nil ?_ | refine WR_nil ?_ | refine WC_seq ?_ | refine WC_block ?_ | refine WC_cond_t (ht := ?_) | refine WC_cond_f (he := ?_) | refine WC_skip ?_ | refine WC_ret ?_ | refine WC_exit ?_ | refine WC_draw_all (id := 4) 8 (.calm 0 <| .calm 1 <| .calm 2 <| .calm 3 <| .calm 4 <| .calm 5 <| .calm 6 <| .must 7 <| .done) mixed (by kernel_rfl) ?_)
  repeat (first | ((first | refine WL_Q ?_); (first | refine QW_a ?_ | refine QW_of (Qt_nilCheck_m rfl) ?_)) | refine WL_nil ?_ | refine WC_seq ?_ | refine WC_block ?_ | refine WC_cond_t (ht := ?_) | refine WC_cond_f (he := ?_) | refine WC_skip ?_ | refine WC_ret ?_ | refine WC_exit ?_ | refine WC_region (id := 5) ?_)
  have l5 : Lies cs5 (off + 5) [x5, x6, x7, x8, x9] := fun q v h => by
    rw [U5.rest _ (.inr (by rw [L5]; omega))]
    exact g5 q v h
  refine WL_op rfl ?_
  refine (OW_flatF (acc_flat M) hM5 hT5 (W.room_le hr5 (by decide)) R5 ho5 l5 (hfr.sub 5 5 (by decide)) rfl ⟨?_, ?_⟩)
  rotate_left
  · intro c a p s' Lp' cs' hs hM' hz
    exact ⟨_, rfl, c, a, p, s', Lp', cs', W.bad_cat [] [] (W.cat_bad A5 O5 hs) (Oks.app O5 ho5), rfl, by rw [List.set_set], hM', hz.trans U5.size⟩
  intro s6 us5 Lp6 cs6 hs5 hM6 hu5 hT6
  have n5 : us5.length = 5 := W.stps_len hs5 ho5
  have U6 := U5.app hu5 (by rw [L5])
  have L6 := (show (((((([] ++ us0) ++ us1) ++ us2) ++ us3) ++ us4) ++ us5).length = 10 by rw [List.length_append, L5, n5])
  have A6 := W.cat_ok A5 O5 hs5
  have O6 := Oks.app O5 ho5
  have hr6 := W.stps_room (n := 0) hs5 ho5 (W.room_le hr5 (by decide))
  rw [List.set_set] at hT6
  rw [List.set_set]
  have R6 := get_set_self hR (b, Obj.cells cs6 E fr)
  repeat (first | ((first | refine WL_Q ?_); (first | refine QW_a ?_ | refine QW_of (Qt_nilCheck_m rfl) ?_)) | refine WL_nil ?_ | refine WC_seq ?_ | refine WC_block ?_ | refine WC_cond_t (ht := ?_) | refine WC_cond_f (he := ?_) | refine WC_skip ?_ | refine WC_ret ?_ | refine WC_exit ?_ | refine WC_region (id := 5) ?_)
  exact ⟨.tuple #[], _, Res0 rfl, .refl _, rfl, s6, _, Lp6, cs6, A6, rfl, hM6, U6, hT6⟩
end
end Go.Proofs.YtakedlockchpcaaGreatDoor
