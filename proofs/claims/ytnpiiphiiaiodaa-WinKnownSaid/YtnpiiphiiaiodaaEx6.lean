/-
  Running a program's function by computing: append. It proves no statement by itself. It holds for every program.
-/
import Derived.Test.YtnpiiphiiaiodaaEx5
namespace Go.Proofs.Ytnpiiphiiaiodaa
open Go.RowKit
attribute [local irreducible] T.put T.set

section
variable {c : Cx} {o : Oper} {K : Exit → St → Prop} {σ : St} {bs : Bs} {s : T V} {Hp : H} {M F : List (Nat × Obj)} {d : Nat} {s2 : T V} {H2 : H}

theorem OW_newE {ob : O} {v : V} (hcov : Cov bs s Hp M F σ) (hdst : o.dst = some d) (hd : Nat.blt d c.N = true) (hnd : ∀ cc, o.op ≠ .defer cc)
    (hr : ∀ a w, Holds c.g c.N σ a w → ∃ w1 av o' v', Mem c.g σ.L w1 ∧ (execOp a.eval o).run c.P w = .ok (.value v') (w1.alloc o') ∧ RO (bs ++ [(w1.heap.size, 0, av)]) 0 av ob o' ∧ RV (bs ++ [(w1.heap.size, 0, av)]) v v') :
    OW c o (Post bs Hp M F (s.set d v) (Hp.new ob)) K σ := fun a w ha => by
  refine ⟨fun _ _ => trivial, ?_⟩
  obtain ⟨w1, av, o', v', hw1, hr, ho, hv⟩ := hr a w ha
  rw [Oper.semAt_eq _ _ _ hnd, hr]
  have hm := hw1.alloc o'
  have hnew : w1.heap.size ∉ M.map Prod.fst := fun hx => by
    have := hm.nodup
    rw [hcov.L] at this
    simp only [List.map_cons, List.nodup_cons, List.map_append, List.mem_append] at this
    exact this.1 (.inl hx)
  refine ⟨⟨(d, v') :: σ.s, σ.D, (w1.heap.size, o') :: σ.L⟩, ?_, ?_⟩
  · rw [hdst]
    exact (ha.mem' hm).put (d := some d) hd _
  · exact ⟨[(w1.heap.size, 0, av)], (w1.heap.size, o') :: M, hcov.D.mono _, by simp [hcov.L], (hcov.slots.mono _).put hv, hcov.mem.new hnew ho, fun _ h => h, fun W B _ hp => Prot.new hcov.mem hnew hp⟩

theorem OW_nodup {Kn : St → Prop} (h : OW c o (fun σ' => (σ'.L.map Prod.fst).Nodup → Kn σ') K σ) : OW c o Kn K σ := fun a w ha =>
  Oper.wpIn_mono (fun _ _ ⟨σ', h1, h2⟩ => ⟨σ', h1, h2 h1.mem.nodup⟩) (h a w ha)

/-- A block goes: another number leads to what is in its place now. -/
def H.swap (Hp : H) (k : Nat) (o : O) : H := ⟨(T.put 40 Hp.h k none).set Hp.n o, Nat.succ Hp.n, k :: Hp.log, Hp.ds⟩

theorem get_put_none {t : T O} {k j : Nat} {u : O} (h : (T.put 40 t k none).get j = some u) : j ≠ k ∧ t.get j = some u := by
  rcases T.get_put 40 t k j none u h with ⟨_, h2⟩ | h1
  · cases h2
  · exact h1

theorem Post_swap {k : Nat} {ob ob2 : O} {b base av i g av2 base2 : Nat} {o' o2 : Obj} {σ' : St} {v : V} {v' : Value} (hcov : Cov bs s Hp M F σ) (hk : Hp.h.get k = some ob) (hb : bs[k]? = some (b, base, av)) (hi : M[i]? = some (b, o')) (hn : (σ'.L.map Prod.fst).Nodup) (ho : RO (bs ++ [(g, base2, av2)]) base2 av2 ob2 o2) (hv : RV (bs ++ [(g, base2, av2)]) v v') (hs : σ'.s = (d, v') :: σ.s) (hD : σ'.D = σ.D) (hL : σ'.L = σ.L.set i (g, o2)) : Post bs Hp M F (s.set d v) (Hp.swap k ob2) σ' := by
  have hlt := (List.getElem?_eq_some_iff.1 hi).1
  have hL2 : σ'.L = M.set i (g, o2) ++ F := by rw [hL, hcov.L, List.set_append_left _ _ hlt]
  have hnM : ((M.set i (g, o2)).map Prod.fst).Nodup := by
    rw [hL2, List.map_append] at hn
    exact (List.nodup_append.1 hn).1
  have hgi : (M.set i (g, o2))[i]? = some (g, o2) := by simp [hlt]
  have old : ∀ {j u}, j ≠ Hp.n → (Hp.swap k ob2).h.get j = some u → j ≠ k ∧ Hp.h.get j = some u := fun {j u} hne hj => by
    rcases T.get_set hj with ⟨e, _⟩ | ⟨_, e⟩
    · exact absurd e hne
    · exact get_put_none e
  have place : ∀ {j u c x y}, j ≠ k → Hp.h.get j = some u → bs[j]? = some (c, x, y) → ∃ i3 o3, (M.set i (g, o2))[i3]? = some (c, o3) ∧ i3 ≠ i ∧ RO bs x y u o3 := fun {j u c x y} hne hj hb2 => by
    obtain ⟨b3, base3, av3, i3, o3, a1, a2, a3⟩ := hcov.mem.at_ j u hj
    rw [hb2] at a1; cases a1
    have hne2 : i3 ≠ i := fun e => by
      subst e
      rw [hi] at a2; cases a2
      exact hne (hcov.mem.inj j k u ob _ _ _ base av hj hk hb2 hb)
    exact ⟨i3, o3, by rw [List.getElem?_set, if_neg (Ne.symm hne2)]; exact a2, hne2, a3⟩
  have other : ∀ {j u c x y}, j ≠ k → Hp.h.get j = some u → bs[j]? = some (c, x, y) → c ≠ g := fun {j u c x y} hne hj hb2 e => by
    obtain ⟨i3, o3, h1, h2, _⟩ := place hne hj hb2
    exact key_ne hnM hgi h1 (Ne.symm h2) e
  refine ⟨[(g, base2, av2)], M.set i (g, o2), by rw [hD]; exact hcov.D.mono _, hL2, ?_, ?_, fun _ h => List.mem_cons_of_mem _ h, fun W B hW hp => ?_⟩
  · rw [hs]; exact (hcov.slots.mono _).put hv
  · refine ⟨by simp [H.swap, hcov.mem.n], fun j u hj => ?_, fun j j' u u' c x y x' y' hj hj' h1 h2 => ?_⟩
    · by_cases e : j = Hp.n
      · subst e
        rcases T.get_set hj with ⟨_, rfl⟩ | ⟨e, _⟩
        · exact ⟨g, base2, av2, i, o2, by rw [hcov.mem.n]; exact bs_last _, hgi, ho⟩
        · exact absurd rfl e
      · obtain ⟨e1, e2⟩ := old e hj
        have hlt2 := hcov.mem.lt e2
        obtain ⟨i3, o3, h1, _, h3⟩ := place e1 e2 (List.getElem?_eq_getElem hlt2)
        exact ⟨_, _, _, i3, o3, bs_mono (List.getElem?_eq_getElem hlt2), h1, h3.mono _⟩
    · have get : ∀ {j u c x y}, j ≠ Hp.n → (Hp.swap k ob2).h.get j = some u → (bs ++ [(g, base2, av2)])[j]? = some (c, x, y) → j ≠ k ∧ Hp.h.get j = some u ∧ bs[j]? = some (c, x, y) := fun {j u c x y} hne hj hb2 => by
        obtain ⟨e1, e2⟩ := old hne hj
        exact ⟨e1, e2, bs_old hb2 (by rw [← hcov.mem.n]; exact hne)⟩
      have new : ∀ {c x y}, (bs ++ [(g, base2, av2)])[Hp.n]? = some (c, x, y) → c = g := fun {c x y} hb => by
        rw [hcov.mem.n, bs_last] at hb; cases hb; rfl
      by_cases e1 : j = Hp.n
      · by_cases e2 : j' = Hp.n
        · rw [e1, e2]
        · subst e1
          obtain rfl := new h1
          obtain ⟨f1, f2, f3⟩ := get e2 hj' h2
          exact absurd rfl (other f1 f2 f3)
      · by_cases e2 : j' = Hp.n
        · subst e2
          obtain rfl := new h2
          obtain ⟨f1, f2, f3⟩ := get e1 hj h1
          exact absurd rfl (other f1 f2 f3)
        · obtain ⟨_, f2, f3⟩ := get e1 hj h1
          obtain ⟨_, f5, f6⟩ := get e2 hj' h2
          exact hcov.mem.inj j j' u u' c x y x' y' f2 f5 f3 f6
  · intro q hq
    obtain ⟨h1, h2⟩ := hp q hq
    have hkW : k ∈ W := hW k List.mem_cons_self
    have hqb : q.1 ≠ b := fun e => h2 k ob base av hk (by rw [e]; exact hb) hkW
    obtain ⟨i4, hi4⟩ := List.mem_iff_getElem?.1 h1
    have hne4 : i4 ≠ i := fun e => by subst e; rw [hi] at hi4; cases hi4; exact hqb rfl
    have hq4 : (M.set i (g, o2))[i4]? = some q := by rw [List.getElem?_set, if_neg (Ne.symm hne4)]; exact hi4
    refine ⟨List.mem_of_getElem? hq4, fun j u x y hj hb' => ?_⟩
    by_cases e : j = Hp.n
    · subst e
      rw [hcov.mem.n, bs_last] at hb'
      cases hb'
      exact absurd rfl (key_ne hnM (o' := q.2) hgi hq4 (Ne.symm hne4))
    · obtain ⟨e1, e2⟩ := old e hj
      exact h2 j u x y e2 (bs_old hb' (by rw [← hcov.mem.n]; exact e))

/-! ### append -/
def bytesX (P : Program) (t : TypeId) : Option Nat := match P.info? t with
  | some i => some i.bytes
  | none => none
def blockX (Hp : H) (k n off : Nat) : Option (List V) := match Hp.h.get k with
  | some (.cells c _) => cellsX c n off
  | _ => none
def typeOfX (Hp : H) (k : Nat) : Option TypeId := match Hp.h.get k with
  | some (.cells _ E) => some E
  | _ => none
def appendX (P : Program) (s : T V) (Hp : H) (t : TypeId) (x y : Operand) (d : Nat) : SX := match P.underlying t with
  | some (.slice E) => match zeroX P E, sizeX P E, bytesX P E with
    | some z, some (sz + 1), some by_ => match Nat.beq z.length (sz + 1) with
      | true => match evX s x, evX s y with
        | some .slN, some .slN => some (s.set d .slN, Hp)
        | some (.sl k off len q), some .slN => some (s.set d (.sl k off len q), Hp)
        | some .slN, some (.sl _ _ 0 _) => some (s.set d .slN, Hp)
        | some (.sl k off len q), some (.sl _ _ 0 _) => some (s.set d (.sl k off len q), Hp)
        | some .slN, some (.sl k2 off2 (m + 1) q2) => match Nat.ble (m + 1) 100000, Nat.ble by_ 100000, blockX Hp k2 (Nat.mul (m + 1) (sz + 1)) off2, Nat.beq q2 (sz + 1) with
          | true, true, some l, true => match V.ones l with
            | true => some (s.set d (.sl Hp.n 0 (m + 1) (sz + 1)), Hp.new (.cells (T.row .e l 0) E))
            | false => none
          | _, _, _, _ => none
        | some (.sl k off len q), some (.sl k2 off2 (m + 1) q2) => match Nat.ble (Nat.add len (m + 1)) 100000, Nat.ble by_ 100000, blockX Hp k (Nat.mul len (sz + 1)) off, blockX Hp k2 (Nat.mul (m + 1) (sz + 1)) off2, typeOfX Hp k with
          | true, true, some l, some l2, some E' => match V.ones l2, Nat.beq E E', Nat.beq q (sz + 1), Nat.beq q2 (sz + 1) with
            | true, true, true, true => some (s.set d (.sl Hp.n 0 (Nat.add len (m + 1)) (sz + 1)), Hp.swap k (.cells (T.row .e (l ++ l2) 0) E))
            | _, _, _, _ => none
          | _, _, _, _, _ => none
        | _, _ => none
      | false => none
    | _, _, _ => none
  | _ => none

theorem blockX_ok (hcov : Cov bs s Hp M F σ) {k n off : Nat} {l : List V} (h : blockX Hp k n off = some l) : ∃ (b base av i : Nat) (cs : Array Value) (E : TypeId) (cc : T V) (l' : List Value), Hp.h.get k = some (.cells cc E) ∧ bs[k]? = some (b, base, av) ∧ M[i]? = some (b, .cells cs E (0, 0)) ∧ σ.L[i]? = some (b, .cells cs E (0, 0)) ∧ base + av ≤ cs.size ∧ RVs bs l l' ∧ l'.length = n ∧ (∀ j, j < n → cs[base + off + j]? = l'[j]?) ∧ (n = 0 ∨ off + n ≤ av) := by
  unfold blockX at h
  split at h
  · rename_i cc E hk
    obtain ⟨b, base, av, i, o', a1, a2, cs, rfl, a3, a4⟩ := hcov.mem.at_ k _ hk
    obtain ⟨l', e1, e2, e3, e4⟩ := cellsX_ok a4 n off l h
    exact ⟨b, base, av, i, cs, E, cc, l', hk, a1, a2, by rw [hcov.L, List.getElem?_append_left (List.getElem?_eq_some_iff.1 a2).1]; exact a2, a3, e1, e2, e3, e4⟩
  · cases h
theorem Post_same {v : V} {v' : Value} (hcov : Cov bs s Hp M F σ) (hv : RV bs v v') : Post bs Hp M F (s.set d v) Hp ⟨(d, v') :: σ.s, σ.D, σ.L⟩ :=
  Post.self hcov.D hcov.L (hcov.slots.put hv) hcov.mem

/-- 'append(x, y...)' where y is empty. -/
theorem append_zero_run {P : Program} {t E size : Nat} (hu : P.underlying t = some (.slice E)) (hsz : ∀ w, (sizeOf E).run P w = .ok size w) {ty : TypeId} {a : Option Addr} {n cap k : Nat} (hn : n ≤ cap) (a2 : Addr) (w : World) :
    (Builtin.append_ #[t, t] ty #[.slice a n cap, .slice (some a2) 0 k]).run P w = .ok (.slice a n cap) w := by
  cases a with
  | none => simp [Builtin.append_, run_underlying hu, hsz, Builtin.lenOf, Builtin.firstCells, hn, loadCells, loadCellsFrom]
  | some a => simp [Builtin.append_, run_underlying hu, hsz, Builtin.lenOf, Builtin.firstCells, hn, loadCells, loadCellsFrom, storeCells]

theorem appendX_ok {t : TypeId} {x y : Operand} (ho : o.op = .call { callee := .builtin .append, args := #[x, y], argTypes := #[t, t] }) (hdst : o.dst = some d) (hd : Nat.blt d c.N = true) (hcov : Cov bs s Hp M F σ) (hc : appendX c.P s Hp t x y d = some (s2, H2)) : OW c o (Post bs Hp M F s2 H2) K σ := by
  generalize hx : evX s x = e1 at hc
  generalize hy : evX s y = e2 at hc
  unfold appendX at hc
  rw [hx, hy] at hc
  have zero : ∀ {a : Option Addr} {n cap k : Nat} {a2 : Addr} {E size : Nat} {v : V}, c.P.underlying t = some (.slice E) → (∀ w, (sizeOf E).run c.P w = .ok size w) → ev σ.s x = some (.slice a n cap) → n ≤ cap → ev σ.s y = some (.slice (some a2) 0 k) → RV bs v (.slice a n cap) → OW c o (Post bs Hp M F (s.set d v) Hp) K σ := by
    intro a n cap k a2 E size v hu hsz h1 hn h2 hv ac w ha
    refine ⟨fun _ _ => trivial, ?_⟩
    have hr : (execOp ac.eval o).run c.P w = .ok (.value (.slice a n cap)) w := by
      simp [execOp, ho, resolve, invoke, builtin, ha.ev h1, ha.ev h2, append_zero_run hu hsz hn]
    rw [Oper.semAt_eq _ _ _ (by rw [ho]; intro cc h; cases h), hr]
    refine ⟨⟨(d, .slice a n cap) :: σ.s, σ.D, σ.L⟩, ?_, Post_same hcov hv⟩
    rw [hdst]
    exact ha.put (d := some d) hd _
  split at hc
  · rename_i E hu
    haveI : TUnd c.P t (.slice E) := ⟨hu⟩
    split at hc
    · rename_i z sz by_ hz hsz hby
      haveI := sizeX_ok hsz
      obtain ⟨zv, i, i1, i2, i3, i4⟩ := zeroX_ok hz
      have j1 : i.size = sz + 1 := by unfold sizeX at hsz; rw [i1] at hsz; simpa using hsz
      have j2 : i.bytes = by_ := by unfold bytesX at hby; rw [i1] at hby; simpa using hby
      split at hc
      · rename_i cz
        have hz1 := Nat.eq_of_beq_eq_true cz
        have hz2 : zv.cells.size = sz + 1 := by
          have := (i4 []).length
          simp only [Array.length_toList] at this; omega
        split at hc
        · cases hc
          obtain ⟨_, h1, h2⟩ := evX_ok hcov.slots hx; cases h2
          obtain ⟨_, h3, h4⟩ := evX_ok hcov.slots hy; cases h4
          exact OW_append_nil (s := σ.s) (D := σ.D) (L := σ.L) (size := sz + 1) ho hdst hd h1 (Nat.le_refl _) h3 (Post_same hcov .slN)
        · cases hc
          obtain ⟨_, h1, h2⟩ := evX_ok hcov.slots hx
          obtain ⟨_, h3, h4⟩ := evX_ok hcov.slots hy; cases h4
          have h5 := h2
          obtain ⟨b, base, av, off', cap, rfl, hk, q1, q2, q3, q4⟩ := h5.sl_inv
          exact OW_append_nil (s := σ.s) (D := σ.D) (L := σ.L) (size := sz + 1) ho hdst hd h1 q1 h3 (Post_same hcov h2)
        · cases hc
          obtain ⟨_, h1, h2⟩ := evX_ok hcov.slots hx; cases h2
          obtain ⟨_, h3, h4⟩ := evX_ok hcov.slots hy
          obtain ⟨b, base, av, off', cap, rfl, hk, q1, q2, q3, q4⟩ := h4.sl_inv
          exact zero hu (sizeX_ok hsz).h h1 (Nat.le_refl _) h3 .slN
        · cases hc
          obtain ⟨_, h1, h2⟩ := evX_ok hcov.slots hx
          obtain ⟨_, h3, h4⟩ := evX_ok hcov.slots hy
          have h5 := h2
          obtain ⟨b, base, av, off', cap, rfl, hk, q1, q2, q3, q4⟩ := h4.sl_inv
          obtain ⟨b', base', av', off'', cap', rfl, hk', r1, r2, r3, r4⟩ := h5.sl_inv
          exact zero hu (sizeX_ok hsz).h h1 r1 h3 h2
        · rename_i k2 off2 m q2'
          split at hc
          · rename_i l c1 c2 hl cq
            split at hc
            · rename_i c3
              cases hc
              have e1 : m + 1 ≤ 100000 := Nat.le_of_ble_eq_true c1
              have e2 : by_ ≤ 100000 := Nat.le_of_ble_eq_true c2
              have e3 := Nat.eq_of_beq_eq_true cq
              subst e3
              obtain ⟨_, h1, h2⟩ := evX_ok hcov.slots hx; cases h2
              obtain ⟨_, h3, h4⟩ := evX_ok hcov.slots hy
              obtain ⟨b, base, av, off', cap, rfl, hk, q1, q2, q3, q4⟩ := h4.sl_inv
              obtain ⟨b', base', av', i', cs, E', cc, l', f1, f2, f3, f4, f5, f6, f7, f8, f9⟩ := blockX_ok hcov hl
              rw [hk] at f2; cases f2
              obtain rfl : off' = base + off2 := by omega
              have f7' : l'.length = (m + 1) * (sz + 1) := f7
              have hoff : off2 + (m + 1) * (sz + 1) ≤ av := by
                have : (m + 1) * (sz + 1) ≤ cap * (sz + 1) := Nat.mul_le_mul_right _ q1
                omega
              refine OW_newE hcov hdst hd (by simp [ho]) fun a w ha => ?_
              have hnews : ∀ (j : Nat) (v : Value), l'[j]? = some v → w.cell? ((⟨b, base + off2, none⟩ : Addr).add j) = some v := fun j v hv => by
                have hj := (List.getElem?_eq_some_iff.1 hv).1
                rw [Addr.add_mid, cell_of_row w b (base + off2 + j) cs E' (0, 0) (ha.mem.at_ f4), f8 j (by rw [show Nat.mul (m + 1) (sz + 1) = (m + 1) * (sz + 1) from rfl]; omega)]
                exact hv
              have hby2 : (m + 1) * i.bytes ≤ 281474976710656 := by
                have : (m + 1) * i.bytes ≤ 100000 * 100000 := Nat.mul_le_mul e1 (by omega)
                omega
              have hr := run_append_nil (P := c.P) w t o.type E i zv hu i1 i2 ⟨b, base + off2, none⟩ (m + 1) cap l' (by rw [j1]; exact f7') hnews (by omega) (by omega) hby2
              have hge := grownCap_ge w (m + 1) 0 E
              have hcm := grownCap_le_maxLen w (m + 1) 0 E (by simp only [maxLen]; omega)
              obtain ⟨cap', hcap'⟩ : ∃ q, grownCap w (m + 1) 0 E = q := ⟨_, rfl⟩
              rw [hcap'] at hr hge hcm
              have hlen := f6.length
              have hmul : (m + 1) * (sz + 1) + (cap' - (m + 1)) * (sz + 1) = cap' * (sz + 1) := by rw [← Nat.add_mul]; congr 1; omega
              refine ⟨w.drew, cap' * (sz + 1), .cells (l'.toArray ++ Builtin.zeroCells zv.cells (cap' - (m + 1))) E (0, 0), .slice (some ⟨w.heap.size, 0, none⟩) (m + 1) cap', ha.mem.drew, by simp [execOp, ho, resolve, invoke, builtin, ha.ev h1, ha.ev h3, hr], ?_, ?_⟩
              · have := RO_row (E := E) (extra := (Builtin.zeroCells zv.cells (cap' - (m + 1))).toList) (n := cap' * (sz + 1)) (f6.mono [(w.drew.heap.size, 0, cap' * (sz + 1))]) (by omega) (by
                  simp only [List.length_append, Array.length_toList, size_zeroCells, hz2]; omega)
                have e : (l' ++ (Builtin.zeroCells zv.cells (cap' - (m + 1))).toList).toArray = l'.toArray ++ Builtin.zeroCells zv.cells (cap' - (m + 1)) := by apply Array.ext'; simp
                rw [e] at this
                exact this
              · rw [hcov.mem.n]
                exact .sl (bs_last (bs := bs) (w.drew.heap.size, 0, cap' * (sz + 1))) hge hcm (.inl (by simp)) (by simp)
            · cases hc
          · cases hc
        · rename_i k off len q k2 off2 m q2'
          split at hc
          · rename_i l l2 E' c1 c2 hl hl2 hE'
            split at hc
            · rename_i c3 c4 c5 c6
              cases hc
              have e1 : len + (m + 1) ≤ 100000 := Nat.le_of_ble_eq_true c1
              have e2 : by_ ≤ 100000 := Nat.le_of_ble_eq_true c2
              obtain rfl := Nat.eq_of_beq_eq_true c4
              obtain rfl := Nat.eq_of_beq_eq_true c5
              have e6 := Nat.eq_of_beq_eq_true c6
              subst e6
              obtain ⟨_, h1, h2⟩ := evX_ok hcov.slots hx
              obtain ⟨_, h3, h4⟩ := evX_ok hcov.slots hy
              obtain ⟨b, base, av, off', cap, rfl, hk, q1, q2, q3, q4⟩ := h2.sl_inv
              obtain ⟨b2, base2, av2, off2', cap2, rfl, hk2, r1, r2, r3, r4⟩ := h4.sl_inv
              obtain ⟨b', base', av', i', cs, E1, cc, l', f1, f2, f3, f4, f5, f6, f7, f8, f9⟩ := blockX_ok hcov hl
              obtain ⟨b2', base2', av2', i2', cs2, E2, cc2, l2', g1, g2, g3, g4, g5, g6, g7, g8, g9⟩ := blockX_ok hcov hl2
              rw [hk] at f2; cases f2
              rw [hk2] at g2; cases g2
              have hE : E1 = E := by
                unfold typeOfX at hE'; rw [f1] at hE'; simpa using hE'
              subst hE
              obtain rfl : off2' = base2 + off2 := by omega
              have f7' : l'.length = len * (sz + 1) := f7
              have g7' : l2'.length = (m + 1) * (sz + 1) := g7
              have hb2 : base2 + off2 + (m + 1) * (sz + 1) ≤ cs2.size := by
                have : (m + 1) * (sz + 1) ≤ cap2 * (sz + 1) := Nat.mul_le_mul_right _ r1
                omega
              have hex2 : cs2.extract (base2 + off2) (base2 + off2 + (m + 1) * (sz + 1)) = l2'.toArray := extract_of_get g7' hb2 g8
              have hfit : off' + cap * (sz + 1) ≤ cs.size := by
                rcases q3 with q3 | ⟨q3, q5⟩
                · omega
                · rw [q3]; simp; omega
              have hex1 : cs.extract off' (off' + len * (sz + 1)) = l'.toArray := by
                rcases q3 with q3 | ⟨q3, q5⟩
                · subst q3
                  have : len * (sz + 1) ≤ cap * (sz + 1) := Nat.mul_le_mul_right _ q1
                  exact extract_of_get f7' (by omega) f8
                · have : len = 0 := by omega
                  subst this
                  have : l' = [] := by cases l' with
                    | nil => rfl
                    | cons _ _ => simp at f7'
                  subst this
                  have e0 : off' + 0 * (sz + 1) = off' := by omega
                  rw [e0]
                  apply Array.eq_empty_of_size_eq_zero
                  simp only [Array.size_extract]; omega
              haveI : TRow c.P E1 zv.cells (sz + 1) by_ := ⟨⟨i, zv, i1, i2, rfl, j1, j2, hz2⟩⟩
              refine OW_nodup ?_
              refine OW_append (s := σ.s) (D := σ.D) (L := σ.L) (size := sz + 1) (by_ := by_) (z := zv.cells) ho hdst hd h1 i' ⟨f4, q1, q2, hfit⟩ h3 i2' g4 hb2 (by rw [hex2]; simpa using g6.ones c3) (by simp only [maxLen]; omega) (Nat.le_trans (Nat.mul_le_mul (show len + (m + 1) ≤ 100000 from e1) e2) (by decide)) ?_
              intro g' off3 cap' cur' L' hset hsl hcur hnod
              have hsetL := setL_eq hset
              rw [hex1, hex2] at hcur
              have hll := f6.length
              have hll2 := g6.length
              have hmul2 : (len + (m + 1)) * (sz + 1) = len * (sz + 1) + (m + 1) * (sz + 1) := Nat.add_mul ..
              have hmul : (len + (m + 1)) * (sz + 1) ≤ cap' * (sz + 1) := Nat.mul_le_mul_right _ hsl.le
              refine Post_swap (i := i') (av2 := cap' * (sz + 1)) (base2 := off3) (g := g') (o2 := .cells cur' E1 (0, 0)) hcov f1 hk f3 hnod ⟨cur', rfl, hsl.fit, fun j v hj => ?_⟩ ?_ rfl rfl hsetL.symm
              · rcases T.get_row hj with ⟨_, e⟩ | ⟨_, e⟩
                · simp only [Nat.sub_zero] at e
                  have hr := (f6.append g6).mono [(g', off3, cap' * (sz + 1))]
                  obtain ⟨v', k1, k2⟩ := hr.get e
                  have hlt := (List.getElem?_eq_some_iff.1 e).1
                  simp only [List.length_append] at hlt
                  have hA : l.length + l2.length = (len + (m + 1)) * (sz + 1) := by rw [hmul2, hll, hll2, f7', g7']
                  have hj2 : j < (len + (m + 1)) * (sz + 1) := by rw [← hA]; exact hlt
                  refine ⟨Nat.lt_of_lt_of_le hj2 hmul, v', ?_, k2⟩
                  have hc2 := congrArg (fun (A : Array Value) => A[j]?) hcur
                  simp only [Array.getElem?_extract] at hc2
                  have hle : off3 + (len + (m + 1)) * (sz + 1) ≤ cur'.size := Nat.le_trans (Nat.add_le_add_left hmul _) hsl.fit
                  rw [if_pos (by show j < min (off3 + (len + (m + 1)) * (sz + 1)) cur'.size - off3; omega)] at hc2
                  rw [hc2]
                  simpa using k1
                · cases e
              · rw [hcov.mem.n]
                exact .sl (bs_last (bs := bs) (g', off3, cap' * (sz + 1))) hsl.le hsl.max (.inl (by simp)) (by simp)
            · cases hc
          · cases hc
        · cases hc
      · cases hc
    · cases hc
  · cases hc
end
end Go.Proofs.Ytnpiiphiiaiodaa
