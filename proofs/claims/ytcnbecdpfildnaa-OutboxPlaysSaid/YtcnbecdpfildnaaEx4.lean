/-
  Running a program's function by computing: what is known of memory, and the operations that turn it. It proves no statement by itself. It holds for every program.
-/
import Derived.Test.YtcnbecdpfildnaaEx3
namespace Go.Proofs.Ytcnbecdpfildnaa
open Go.RowKit
noncomputable section
attribute [local irreducible] T.put T.set

/-- What stands among the deferred calls: marks of loops, and calls. -/
inductive DI where
  | mark (k : Nat)
  | call (f : FuncId) (A B : List V)
/-- Memory, as the executor has it: the blocks by its own numbers; the next number; which blocks were written. -/
structure H where
  h : T O
  n : Nat
  log : List Nat
  ds : List DI

structure HCov (bs : Bs) (H : H) (M : List (Nat × Obj)) : Prop where
  n : H.n = bs.length
  at_ : ∀ k o, H.h.get k = some o → At bs M k o
  inj : ∀ j k o o' b x y x' y', H.h.get j = some o → H.h.get k = some o' → bs[j]? = some (b, x, y) → bs[k]? = some (b, x', y') → j = k

/-- Blocks that are there, and that no number of W leads to. -/
def Prot (bs : Bs) (H : H) (M : List (Nat × Obj)) (W : List Nat) (B : List (Nat × Obj)) : Prop :=
  ∀ q ∈ B, q ∈ M ∧ ∀ j o x y, H.h.get j = some o → bs[j]? = some (q.1, x, y) → j ∉ W

/-- The deferred calls. -/
def RD (bs : Bs) : List DI → List Deferred → Prop
  | [], D => D = []
  | .mark k :: ks, D => ∃ b x y D', bs[k]? = some (b, x, y) ∧ D = markD b :: D' ∧ RD bs ks D'
  | .call f A B :: ks, D => ∃ A' B' D', RVs bs A A' ∧ RVs bs B B' ∧ D = { target := .fn (.func f) B'.toArray, args := A'.toArray } :: D' ∧ RD bs ks D'
theorem RD.mono {bs : Bs} (r : Bs) : ∀ {ks : List DI} {D : List Deferred}, RD bs ks D → RD (bs ++ r) ks D
  | [], _, h => h
  | .mark _ :: _, _, ⟨b, x, y, D', h1, h2, h3⟩ => ⟨b, x, y, D', bs_mono h1, h2, RD.mono r h3⟩
  | .call _ _ _ :: _, _, ⟨A', B', D', h1, h2, h3, h4⟩ => ⟨A', B', D', h1.mono r, h2.mono r, h3, RD.mono r h4⟩

/-- What holds behind a step, of what held ahead of it. -/
def Post (bs : Bs) (Hp : H) (M F : List (Nat × Obj)) (s2 : S) (H2 : H) (σ' : St) : Prop :=
  ∃ (r : Bs) (M' : List (Nat × Obj)), RD (bs ++ r) H2.ds σ'.D ∧ σ'.L = M' ++ F ∧ CovS (bs ++ r) s2 σ'.s ∧ HCov (bs ++ r) H2 M' ∧ (∀ k ∈ Hp.log, k ∈ H2.log) ∧ ∀ W B, (∀ k ∈ H2.log, k ∈ W) → Prot bs Hp M W B → Prot (bs ++ r) H2 M' W B

structure Cov (bs : Bs) (s : S) (Hp : H) (M F : List (Nat × Obj)) (σ : St) : Prop where
  slots : CovS bs s σ.s
  D : RD bs Hp.ds σ.D
  mem : HCov bs Hp M
  L : σ.L = M ++ F

theorem Post.self {bs : Bs} {Hp : H} {M F : List (Nat × Obj)} {s2 : S} {σ' : St} (hD : RD bs Hp.ds σ'.D) (hL : σ'.L = M ++ F) (hs : CovS bs s2 σ'.s) (hm : HCov bs Hp M) : Post bs Hp M F s2 Hp σ' :=
  ⟨[], M, by simpa using hD, hL, by simpa using hs, by simpa using hm, fun _ h => h, fun W B _ h => by simpa using h⟩

theorem At.mono {bs : Bs} (r : Bs) {M : List (Nat × Obj)} {k : Nat} {o : O} (h : At bs M k o) : At (bs ++ r) M k o :=
  let ⟨b, base, av, i, o', h1, h2, h3⟩ := h; ⟨b, base, av, i, o', bs_mono h1, h2, h3.mono r⟩
theorem At.cons {bs : Bs} {M : List (Nat × Obj)} {k : Nat} {o : O} (x : Nat × Obj) (h : At bs M k o) : At bs (x :: M) k o :=
  let ⟨b, base, av, i, o', h1, h2, h3⟩ := h; ⟨b, base, av, i + 1, o', h1, by simpa using h2, h3⟩

/-! ### a new block -/
def H.new (Hp : H) (o : O) : H := ⟨Hp.h.set Hp.n o, Nat.succ Hp.n, Hp.log, Hp.ds⟩

theorem bs_last {bs : Bs} (x : Nat × Nat × Nat) : (bs ++ [x])[bs.length]? = some x := by simp
theorem bs_old {bs : Bs} {x y : Nat × Nat × Nat} {k : Nat} (h : (bs ++ [x])[k]? = some y) (hk : k ≠ bs.length) : bs[k]? = some y := by
  rw [List.getElem?_append] at h
  split at h
  · exact h
  · rename_i hlt
    have := (List.getElem?_eq_some_iff.1 h).1
    simp at this; omega

theorem HCov.lt {bs : Bs} {Hp : H} {M : List (Nat × Obj)} (h : HCov bs Hp M) {k : Nat} {o : O} (hk : Hp.h.get k = some o) : k < bs.length := by
  obtain ⟨b, base, av, i, o', h1, _⟩ := h.at_ k o hk
  exact (List.getElem?_eq_some_iff.1 h1).1

theorem HCov.new {bs : Bs} {Hp : H} {M : List (Nat × Obj)} (h : HCov bs Hp M) {b av : Nat} {o : O} {o' : Obj} (hb : b ∉ M.map Prod.fst) (ho : RO (bs ++ [(b, 0, av)]) b 0 av o o') : HCov (bs ++ [(b, 0, av)]) (Hp.new o) ((b, o') :: M) where
  n := by simp [H.new, h.n]
  at_ := fun k u hk => by
    rcases T.get_set hk with ⟨rfl, rfl⟩ | ⟨h1, h2⟩
    · exact ⟨b, 0, av, 0, o', by rw [h.n]; exact bs_last _, rfl, ho⟩
    · exact ((h.at_ k u h2).mono _).cons _
  inj := fun j k u u' c x y x' y' hj hk h1 h2 => by
    have old : ∀ {k u c x y}, k ≠ Hp.n → (Hp.new o).h.get k = some u → (bs ++ [(b, 0, av)])[k]? = some (c, x, y) → Hp.h.get k = some u ∧ bs[k]? = some (c, x, y) ∧ c ∈ M.map Prod.fst := fun {k u c x y} hn hk hb => by
      rcases T.get_set hk with ⟨e, _⟩ | ⟨_, e⟩
      · exact absurd e hn
      · have hb' := bs_old hb (by rw [← h.n]; exact hn)
        refine ⟨e, hb', ?_⟩
        obtain ⟨b2, base, av2, i, o2, a1, a2, _⟩ := h.at_ k u e
        rw [hb'] at a1; cases a1
        exact List.mem_map.2 ⟨_, List.mem_of_getElem? a2, rfl⟩
    have new : ∀ {c x y}, (bs ++ [(b, 0, av)])[Hp.n]? = some (c, x, y) → c = b := fun {c x y} hb => by
      rw [h.n, bs_last] at hb; cases hb; rfl
    by_cases e1 : j = Hp.n
    · by_cases e2 : k = Hp.n
      · rw [e1, e2]
      · subst e1
        obtain rfl := new h1
        exact absurd (old e2 hk h2).2.2 hb
    · by_cases e2 : k = Hp.n
      · subst e2
        obtain rfl := new h2
        exact absurd (old e1 hj h1).2.2 hb
      · exact h.inj j k u u' c x y x' y' (old e1 hj h1).1 (old e2 hk h2).1 (old e1 hj h1).2.1 (old e2 hk h2).2.1

theorem Prot.new {bs : Bs} {Hp : H} {M : List (Nat × Obj)} (h : HCov bs Hp M) {b av : Nat} {o : O} {o' : Obj} (hb : b ∉ M.map Prod.fst) {W : List Nat} {B : List (Nat × Obj)} (hp : Prot bs Hp M W B) : Prot (bs ++ [(b, 0, av)]) (Hp.new o) ((b, o') :: M) W B := fun q hq => by
  obtain ⟨h1, h2⟩ := hp q hq
  refine ⟨List.mem_cons_of_mem _ h1, fun j u x y hj hb' => ?_⟩
  rcases T.get_set hj with ⟨rfl, rfl⟩ | ⟨e1, e2⟩
  · rw [h.n, bs_last] at hb'
    cases hb'
    exact absurd (List.mem_map.2 ⟨q, h1, rfl⟩) hb
  · exact h2 j u x y e2 (bs_old hb' (by rw [← h.n]; exact e1))

theorem nodup_wlog {c : Cx} {o : Oper} {Kn : St → Prop} {K : Exit → St → Prop} {σ : St} (h : (σ.L.map Prod.fst).Nodup → OW c o Kn K σ) : OW c o Kn K σ := fun a w ha => h ha.mem.nodup a w ha

/-- An operation that makes a block, and lays its address (or a slice of it) into a slot. -/
theorem OW_new {c : Cx} {o : Oper} {K : Exit → St → Prop} {σ : St} {bs : Bs} {s : S} {Hp : H} {M F : List (Nat × Obj)} {d av : Nat} {ob : O} {o' : Obj} {v : V} {v' : Nat → Value} (hcov : Cov bs s Hp M F σ) (hdst : o.dst = some d) (hd : Nat.blt d c.N = true) (hnd : ∀ cc, o.op ≠ .defer cc)
    (hr : ∀ a w, Holds c.g c.N σ a w → ∃ w1, Mem c.g σ.L w1 ∧ (execOp a.eval o).run c.P w = .ok (.value (v' w1.heap.size)) (w1.alloc o'))
    (ho : ∀ b, RO (bs ++ [(b, 0, av)]) b 0 av ob o') (hv : ∀ b, RV (bs ++ [(b, 0, av)]) v (v' b)) :
    OW c o (Post bs Hp M F (s.set d v) (Hp.new ob)) K σ := fun a w ha => by
  refine ⟨fun _ _ => trivial, ?_⟩
  obtain ⟨w1, hw1, hr⟩ := hr a w ha
  rw [Oper.semAt_eq _ _ _ hnd, hr]
  have hm := hw1.alloc o'
  have hnew : w1.heap.size ∉ M.map Prod.fst := fun hx => by
    have := hm.nodup
    rw [hcov.L] at this
    simp only [List.map_cons, List.nodup_cons, List.map_append, List.mem_append] at this
    exact this.1 (.inl hx)
  refine ⟨⟨(d, v' w1.heap.size) :: σ.s, σ.D, (w1.heap.size, o') :: σ.L⟩, ?_, ?_⟩
  · rw [hdst]
    exact (ha.mem' hm).put (d := some d) hd _
  · refine ⟨[(w1.heap.size, 0, av)], (w1.heap.size, o') :: M, hcov.D.mono _, by simp [hcov.L], (hcov.slots.mono _).put (hv _), hcov.mem.new hnew (ho _), fun _ h => h, fun W B _ hp => Prot.new hcov.mem hnew hp⟩

/-- The cells of a new block. -/
theorem RO_row {bs : Bs} {b : Nat} {l : List V} {l' : List Value} {E : TypeId} {extra : List Value} {n : Nat} (h : RVs bs l l') (hn : l.length ≤ n) (hx : n ≤ (l' ++ extra).length) : RO bs b 0 n (.cells (T.row .e l 0) E) (.cells (l' ++ extra).toArray E (0, 0)) :=
  ⟨_, rfl, by simpa using hx, fun i v hi => by
    rcases T.get_row hi with ⟨_, h2⟩ | ⟨_, h2⟩
    · obtain ⟨v', h3, h4⟩ := h.get h2
      have hlt := (List.getElem?_eq_some_iff.1 h2).1
      refine ⟨by omega, v', ?_, h4⟩
      have hl := h.length
      simp only [Nat.zero_add, Nat.sub_zero] at h3 ⊢
      rw [List.getElem?_toArray, List.getElem?_append_left (by omega)]; exact h3
    · cases h2⟩

/-! ### the operations -/
abbrev SX := Option (S × H)

def allocX (P : Program) (s : S) (Hp : H) (t : TypeId) (d : Nat) : SX := match zeroX P t with
  | some z => some (s.set d (.ptr Hp.n 0), Hp.new (.cells (T.row .e z 0) t))
  | none => none
theorem zeroX_ok {P : Program} {t : TypeId} {z : List V} (h : zeroX P t = some z) : ∃ zv i, P.info? t = some i ∧ i.zero = some zv ∧ (∀ w, (zeroValue t).run P w = .ok zv w) ∧ ∀ bs, RVs bs z zv.cells.toList := by
  unfold zeroX at h
  split at h
  · rename_i i hi
    split at h
    · rename_i zv hz
      exact ⟨zv, i, hi, hz, fun w => by simp [zeroValue, typeInfo, hi, hz], fun bs => V.ofConsts_ok h⟩
    · cases h
  · cases h

section
variable {c : Cx} {o : Oper} {K : Exit → St → Prop} {σ : St} {bs : Bs} {s : S} {Hp : H} {M F : List (Nat × Obj)} {d : Nat} {s2 : S} {H2 : H}
theorem allocX_ok {t : TypeId} (ho : o.op = .alloc t) (hdst : o.dst = some d) (hd : Nat.blt d c.N = true) (hcov : Cov bs s Hp M F σ) (hc : allocX c.P s Hp t d = some (s2, H2)) : OW c o (Post bs Hp M F s2 H2) K σ := by
  unfold allocX at hc
  split at hc
  · rename_i z hz
    cases hc
    obtain ⟨zv, i, _, _, h1, h2⟩ := zeroX_ok hz
    refine OW_new (av := z.length) (o' := .cells zv.cells t (0, 0)) (v' := fun b => .pointer (some ⟨b, 0, none⟩)) hcov hdst hd (by simp [ho]) (fun a w ha => ⟨w, ha.mem, ?_⟩) (fun b => ?_) (fun b => ?_)
    · simp [execOp, ho, Instr.alloc, h1, newVar, newRow]
    · have := RO_row (b := b) (E := t) (extra := []) (h2 (bs ++ [(b, 0, z.length)])) (Nat.le_refl _) (by rw [List.append_nil, (h2 []).length]; exact Nat.le_refl _)
      simpa using this
    · rw [hcov.mem.n]
      have := RV.ptr (bs := bs ++ [(b, 0, z.length)]) (off := 0) (bs_last (bs := bs) (b, 0, z.length))
      simpa using this
  · cases hc

def boxX (s : S) (Hp : H) (t : TypeId) (x : Operand) (d : Nat) : SX := match evX s x with
  | some (.tup _) => none
  | some v => some (s.set d (.ptr Hp.n 0), Hp.new (.cells (T.row .e v.cells 0) t))
  | none => none
theorem boxX_ok {t : TypeId} {x : Operand} (ho : o.op = .box t x) (hdst : o.dst = some d) (hd : Nat.blt d c.N = true) (hcov : Cov bs s Hp M F σ) (hc : boxX s Hp t x d = some (s2, H2)) : OW c o (Post bs Hp M F s2 H2) K σ := by
  unfold boxX at hc
  split at hc
  · cases hc
  · rename_i v _ hx
    cases hc
    obtain ⟨v', h1, h2⟩ := evX_ok hcov.slots hx
    have h3 := h2.cells
    refine OW_new (av := v.cells.length) (o' := .cells v'.cells t (0, 0)) (v' := fun b => .pointer (some ⟨b, 0, none⟩)) hcov hdst hd (by simp [ho]) (fun a w ha => ⟨w, ha.mem, ?_⟩) (fun b => ?_) (fun b => ?_)
    · simp [execOp, ho, ha.ev h1, Instr.box, newVar, newRow]
    · have := RO_row (b := b) (E := t) (extra := []) (h3.mono [(b, 0, v.cells.length)]) (Nat.le_refl _) (by rw [List.append_nil, h3.length]; exact Nat.le_refl _)
      simpa using this
    · rw [hcov.mem.n]
      have := RV.ptr (bs := bs ++ [(b, 0, v.cells.length)]) (off := 0) (bs_last (bs := bs) (b, 0, v.cells.length))
      simpa using this
  · cases hc

/-- A block's cells are turned. -/
def H.upd (Hp : H) (k : Nat) (o : O) : H := ⟨Hp.h.set k o, Hp.n, k :: Hp.log, Hp.ds⟩

theorem Post_upd {k : Nat} {ob ob2 : O} {b base av i : Nat} {o' o2 : Obj} {σ' : St} (hcov : Cov bs s Hp M F σ) (hn : (σ.L.map Prod.fst).Nodup) (hk : Hp.h.get k = some ob) (hb : bs[k]? = some (b, base, av)) (hi : M[i]? = some (b, o')) (ho : RO bs b base av ob2 o2) (hs2 : CovS bs s2 σ'.s) (hD : σ'.D = σ.D) (hL : σ'.L = σ.L.set i (b, o2)) : Post bs Hp M F s2 (Hp.upd k ob2) σ' := by
  have hlt := (List.getElem?_eq_some_iff.1 hi).1
  have hnM : (M.map Prod.fst).Nodup := by
    rw [hcov.L, List.map_append] at hn
    exact (List.nodup_append.1 hn).1
  refine ⟨[], M.set i (b, o2), by rw [hD, List.append_nil]; exact hcov.D, by rw [hL, hcov.L, List.set_append_left _ _ hlt], by simpa using hs2, ?_, fun _ h => List.mem_cons_of_mem _ h, fun W B hW hp => ?_⟩
  · rw [List.append_nil]
    refine ⟨hcov.mem.n, fun j u hj => ?_, fun j j' u u' c x y x' y' hj hj' h1 h2 => ?_⟩
    · rcases T.get_set hj with ⟨rfl, rfl⟩ | ⟨h1, h2⟩
      · exact ⟨b, base, av, i, o2, hb, by simp [hlt], ho⟩
      · obtain ⟨b3, base3, av3, i3, o3, a1, a2, a3⟩ := hcov.mem.at_ j u h2
        have hne : i3 ≠ i := fun e => by
          subst e
          rw [hi] at a2
          cases a2
          exact h1 (hcov.mem.inj j k u ob b base3 av3 base av h2 hk a1 hb)
        exact ⟨b3, base3, av3, i3, o3, a1, by rw [List.getElem?_set, if_neg (Ne.symm hne)]; exact a2, a3⟩
    · have old : ∀ {j u}, (Hp.upd k ob2).h.get j = some u → ∃ u0, Hp.h.get j = some u0 := fun {j u} hj => by
        rcases T.get_set hj with ⟨rfl, _⟩ | ⟨_, h⟩
        · exact ⟨_, hk⟩
        · exact ⟨_, h⟩
      obtain ⟨u0, e0⟩ := old hj
      obtain ⟨u1, e1⟩ := old hj'
      exact hcov.mem.inj j j' u0 u1 c x y x' y' e0 e1 h1 h2
  · rw [List.append_nil]
    intro q hq
    obtain ⟨h1, h2⟩ := hp q hq
    have hkW : k ∈ W := hW k List.mem_cons_self
    have hqb : q.1 ≠ b := fun e => h2 k ob base av hk (by rw [e]; exact hb) hkW
    refine ⟨?_, fun j u x y hj hb' => ?_⟩
    · obtain ⟨j, hj⟩ := List.mem_iff_getElem?.1 h1
      refine List.mem_of_getElem? (i := j) ?_
      rw [List.getElem?_set, if_neg]
      · exact hj
      · intro e; subst e; rw [hi] at hj; cases hj; exact hqb rfl
    · rcases T.get_set hj with ⟨rfl, rfl⟩ | ⟨e1, e2⟩
      · exact h2 j ob x y hk hb'
      · exact h2 j u x y e2 hb'

/-- Values are laid into cells that are known. -/
def lastX (t : T V) (off n : Nat) : Bool := match t.get (Nat.sub (Nat.add off n) 1) with
  | some _ => true
  | none => false
def storeX (P : Program) (s : S) (Hp : H) (t : TypeId) (x y : Operand) : SX := match evX s x, evX s y with
  | some (.ptr k off), some v => match Hp.h.get k with
    | some (.cells c E) => match sizeX P t with
      | some (n + 1) => match Nat.beq v.cells.length (n + 1), V.ones v.cells, lastX c off (n + 1) with
        | true, true, true => some (s, Hp.upd k (.cells (c.row v.cells off) E))
        | _, _, _ => none
      | _ => none
    | _ => none
  | _, _ => none

theorem RO_putR {b base av off : Nat} {cc : T V} {E : TypeId} {cs : Array Value} {l : List V} {l' : Array Value} (h : RO bs b base av (.cells cc E) (.cells cs E (0, 0))) (hl : RVs bs l l'.toList) (hfit : off + l.length ≤ av) : RO bs b base av (.cells (cc.row l off) E) (.cells (putR cs (base + off) l') E (0, 0)) := by
  obtain ⟨cs', e, h2, h3⟩ := h
  cases e
  have hlen := hl.length
  simp only [Array.length_toList] at hlen
  have hf : base + off + l'.size ≤ cs.size := by omega
  refine ⟨_, rfl, by rw [putR_size _ _ _ hf]; exact h2, fun i v hi => ?_⟩
  rcases T.get_row hi with ⟨h4, h5⟩ | ⟨h4, h5⟩
  · obtain ⟨v', h6, h7⟩ := hl.get h5
    have hlt := (List.getElem?_eq_some_iff.1 h5).1
    refine ⟨by omega, v', ?_, h7⟩
    have := putR_get_in cs l' (base + off) (i - off) hf (by omega)
    rw [show base + off + (i - off) = base + i by omega] at this
    rw [this]; simpa using h6
  · obtain ⟨h6, v', h7, h8⟩ := h3 i v h5
    refine ⟨h6, v', ?_, h8⟩
    rw [putR_get_out cs l' (base + off) (base + i) hf (by omega)]; exact h7

theorem storeX_ok {t : TypeId} {x y : Operand} (ho : o.op = .store t x y) (hdst : o.dst = none) (hcov : Cov bs s Hp M F σ) (hc : storeX c.P s Hp t x y = some (s2, H2)) : OW c o (Post bs Hp M F s2 H2) K σ := by
  refine nodup_wlog fun hn => ?_
  generalize hx : evX s x = e1 at hc
  generalize hy : evX s y = e2 at hc
  unfold storeX at hc
  rw [hx, hy] at hc
  split at hc
  · rename_i k off v
    split at hc
    · rename_i cc E hk
      split at hc
      · rename_i n hsz
        split at hc
        · rename_i c1 c2 c3
          cases hc
          obtain ⟨_, h1, h2⟩ := evX_ok hcov.slots hx
          obtain ⟨v', h3, h4⟩ := evX_ok hcov.slots hy
          obtain ⟨b, base, av, rfl, hb⟩ := h2.ptr_inv
          obtain ⟨b', base', av', i, o', a1, a2, a3⟩ := hcov.mem.at_ k _ hk
          rw [hb] at a1; cases a1
          have a4 := a3
          obtain ⟨cs, rfl, a5, a6⟩ := a4
          have hlen := Nat.eq_of_beq_eq_true c1
          have hcells := h4.cells
          have hl2 := hcells.length
          simp only [Array.length_toList] at hl2
          have hav : off + (n + 1) ≤ av := by
            unfold lastX at c3
            split at c3
            · rename_i u hu
              have h5 := (a6 _ _ hu).1
              have e : Nat.sub (Nat.add off (n + 1)) 1 = off + n := by show off + (n + 1) - 1 = off + n; omega
              rw [e] at h5; omega
            · cases c3
          have hi : σ.L[i]? = some (b, .cells cs E (0, 0)) := by
            rw [hcov.L, List.getElem?_append_left (List.getElem?_eq_some_iff.1 a2).1]; exact a2
          intro a w ha
          refine ⟨fun _ _ => trivial, ?_⟩
          have hst := run_storeCells_at (P := c.P) b (base + off) E v'.cells.toList 0 cs w (ha.mem.at_ hi) (by simp; omega) (List.all_eq_true.1 (hcells.ones c2))
          have hr : (execOp a.eval o).run c.P w = .ok .skip (w.setRow b (putR cs (base + off) v'.cells)) := by
            simp only [Nat.add_zero, Array.length_toList] at hst
            simp [execOp, ho, ha.ev h1, ha.ev h3, Instr.storeAt, Instr.sureAddr, storeVar, (sizeX_ok hsz).h, show v'.cells.size = n + 1 by omega, hst, putR]
          rw [Oper.semAt_eq _ _ _ (by rw [ho]; intro cc h; cases h), hr]
          refine ⟨⟨σ.s, σ.D, σ.L.set i (b, .cells (putR cs (base + off) v'.cells) E (0, 0))⟩, ?_, ?_⟩
          · rw [hdst]; exact ha.mem' (ha.mem.setRow hi _)
          · exact Post_upd hcov hn hk hb a2 (RO_putR a3 hcells (by omega)) hcov.slots rfl rfl
        · cases hc
      · cases hc
    · cases hc
  · cases hc
end
end
end Go.Proofs.Ytcnbecdpfildnaa
