/-
  Running a program's function by computing: append. It proves no statement by itself. It holds for every program.
-/
import Derived.Test.YtcnbecdpfildnaaEx5
import Derived.Deep.Upon
namespace Go.Proofs.Ytcnbecdpfildnaa
open Go.RowKit
noncomputable section
attribute [local irreducible] T.put T.set

section
variable {c : Cx} {o : Oper} {K : Exit → St → Prop} {σ : St} {bs : Bs} {s : S} {Hp : H} {M F : List (Nat × Obj)} {d : Nat} {s2 : S} {H2 : H}

theorem OW_newE {ob : O} {v : V} (hcov : Cov bs s Hp M F σ) (hdst : o.dst = some d) (hd : Nat.blt d c.N = true) (hnd : ∀ cc, o.op ≠ .defer cc)
    (hr : ∀ a w, Holds c.g c.N σ a w → ∃ w1 av o' v', Mem c.g σ.L w1 ∧ (execOp a.eval o).run c.P w = .ok (.value v') (w1.alloc o') ∧ RO (bs ++ [(w1.heap.size, 0, av)]) w1.heap.size 0 av ob o' ∧ RV (bs ++ [(w1.heap.size, 0, av)]) v v') :
    OW c o (Post bs Hp M F (s.set d v) (Hp.new ob)) K σ := fun a w ha => by
  refine ⟨fun _ _ => trivial, ?_⟩
  obtain ⟨w1, av, o', v', hw1, hr, ho, hv⟩ := hr a w ha
  rw [Oper.semAt_eq _ _ _ hnd, hr]
  have hm := hw1.alloc o'
  have hnew : w1.heap.size ∉ M.map Prod.fst := fun hx => by
    have := hm.nodup
    rw [hcov.L] at this
    simp only [List.map_cons, List.nodup_cons, List.map_append, List.mem_append] at this
    exact this.1 (.inl hx)
  refine ⟨⟨(d, v') :: σ.s, σ.D, (w1.heap.size, o') :: σ.L⟩, ?_, ?_⟩
  · rw [hdst]
    exact (ha.mem' hm).put (d := some d) hd _
  · exact ⟨[(w1.heap.size, 0, av)], (w1.heap.size, o') :: M, hcov.D.mono _, by simp [hcov.L], (hcov.slots.mono _).put hv, hcov.mem.new hnew ho, fun _ h => h, fun W B _ hp => Prot.new hcov.mem hnew hp⟩

theorem OW_nodup {Kn : St → Prop} (h : OW c o (fun σ' => (σ'.L.map Prod.fst).Nodup → Kn σ') K σ) : OW c o Kn K σ := fun a w ha =>
  Oper.wpIn_mono (fun _ _ ⟨σ', h1, h2⟩ => ⟨σ', h1, h2 h1.mem.nodup⟩) (h a w ha)

/-- A block goes: another number leads to what is in its place now. -/
def H.swap (Hp : H) (k : Nat) (o : O) : H := ⟨(T.put 40 Hp.h k none).set Hp.n o, Nat.succ Hp.n, k :: Hp.log, Hp.ds⟩

theorem get_put_none {t : T O} {k j : Nat} {u : O} (h : (T.put 40 t k none).get j = some u) : j ≠ k ∧ t.get j = some u := by
  rcases T.get_put 40 t k j none u h with ⟨_, h2⟩ | h1
  · cases h2
  · exact h1

theorem Post_swap {k : Nat} {ob ob2 : O} {b base av i g av2 base2 : Nat} {o' o2 : Obj} {σ' : St} {v : V} {v' : Value} (hcov : Cov bs s Hp M F σ) (hk : Hp.h.get k = some ob) (hb : bs[k]? = some (b, base, av)) (hi : M[i]? = some (b, o')) (hn : (σ'.L.map Prod.fst).Nodup) (ho : RO (bs ++ [(g, base2, av2)]) g base2 av2 ob2 o2) (hv : RV (bs ++ [(g, base2, av2)]) v v') (hs : σ'.s = (d, v') :: σ.s) (hD : σ'.D = σ.D) (hL : σ'.L = σ.L.set i (g, o2)) : Post bs Hp M F (s.set d v) (Hp.swap k ob2) σ' := by
  have hlt := (List.getElem?_eq_some_iff.1 hi).1
  have hL2 : σ'.L = M.set i (g, o2) ++ F := by rw [hL, hcov.L, List.set_append_left _ _ hlt]
  have hnM : ((M.set i (g, o2)).map Prod.fst).Nodup := by
    rw [hL2, List.map_append] at hn
    exact (List.nodup_append.1 hn).1
  have hgi : (M.set i (g, o2))[i]? = some (g, o2) := by simp [hlt]
  have old : ∀ {j u}, j ≠ Hp.n → (Hp.swap k ob2).h.get j = some u → j ≠ k ∧ Hp.h.get j = some u := fun {j u} hne hj => by
    rcases T.get_set hj with ⟨e, _⟩ | ⟨_, e⟩
    · exact absurd e hne
    · exact get_put_none e
  have place : ∀ {j u c x y}, j ≠ k → Hp.h.get j = some u → bs[j]? = some (c, x, y) → ∃ i3 o3, (M.set i (g, o2))[i3]? = some (c, o3) ∧ i3 ≠ i ∧ RO bs c x y u o3 := fun {j u c x y} hne hj hb2 => by
    obtain ⟨b3, base3, av3, i3, o3, a1, a2, a3⟩ := hcov.mem.at_ j u hj
    rw [hb2] at a1; cases a1
    have hne2 : i3 ≠ i := fun e => by
      subst e
      rw [hi] at a2; cases a2
      exact hne (hcov.mem.inj j k u ob _ _ _ base av hj hk hb2 hb)
    exact ⟨i3, o3, by rw [List.getElem?_set, if_neg (Ne.symm hne2)]; exact a2, hne2, a3⟩
  have other : ∀ {j u c x y}, j ≠ k → Hp.h.get j = some u → bs[j]? = some (c, x, y) → c ≠ g := fun {j u c x y} hne hj hb2 e => by
    obtain ⟨i3, o3, h1, h2, _⟩ := place hne hj hb2
    exact key_ne hnM hgi h1 (Ne.symm h2) e
  refine ⟨[(g, base2, av2)], M.set i (g, o2), by rw [hD]; exact hcov.D.mono _, hL2, ?_, ?_, fun _ h => List.mem_cons_of_mem _ h, fun W B hW hp => ?_⟩
  · rw [hs]; exact (hcov.slots.mono _).put hv
  · refine ⟨by simp [H.swap, hcov.mem.n], fun j u hj => ?_, fun j j' u u' c x y x' y' hj hj' h1 h2 => ?_⟩
    · by_cases e : j = Hp.n
      · subst e
        rcases T.get_set hj with ⟨_, rfl⟩ | ⟨e, _⟩
        · exact ⟨g, base2, av2, i, o2, by rw [hcov.mem.n]; exact bs_last _, hgi, ho⟩
        · exact absurd rfl e
      · obtain ⟨e1, e2⟩ := old e hj
        have hlt2 := hcov.mem.lt e2
        obtain ⟨i3, o3, h1, _, h3⟩ := place e1 e2 (List.getElem?_eq_getElem hlt2)
        exact ⟨_, _, _, i3, o3, bs_mono (List.getElem?_eq_getElem hlt2), h1, h3.mono _⟩
    · have get : ∀ {j u c x y}, j ≠ Hp.n → (Hp.swap k ob2).h.get j = some u → (bs ++ [(g, base2, av2)])[j]? = some (c, x, y) → j ≠ k ∧ Hp.h.get j = some u ∧ bs[j]? = some (c, x, y) := fun {j u c x y} hne hj hb2 => by
        obtain ⟨e1, e2⟩ := old hne hj
        exact ⟨e1, e2, bs_old hb2 (by rw [← hcov.mem.n]; exact hne)⟩
      have new : ∀ {c x y}, (bs ++ [(g, base2, av2)])[Hp.n]? = some (c, x, y) → c = g := fun {c x y} hb => by
        rw [hcov.mem.n, bs_last] at hb; cases hb; rfl
      by_cases e1 : j = Hp.n
      · by_cases e2 : j' = Hp.n
        · rw [e1, e2]
        · subst e1
          obtain rfl := new h1
          obtain ⟨f1, f2, f3⟩ := get e2 hj' h2
          exact absurd rfl (other f1 f2 f3)
      · by_cases e2 : j' = Hp.n
        · subst e2
          obtain rfl := new h2
          obtain ⟨f1, f2, f3⟩ := get e1 hj h1
          exact absurd rfl (other f1 f2 f3)
        · obtain ⟨_, f2, f3⟩ := get e1 hj h1
          obtain ⟨_, f5, f6⟩ := get e2 hj' h2
          exact hcov.mem.inj j j' u u' c x y x' y' f2 f5 f3 f6
  · intro q hq
    obtain ⟨h1, h2⟩ := hp q hq
    have hkW : k ∈ W := hW k List.mem_cons_self
    have hqb : q.1 ≠ b := fun e => h2 k ob base av hk (by rw [e]; exact hb) hkW
    obtain ⟨i4, hi4⟩ := List.mem_iff_getElem?.1 h1
    have hne4 : i4 ≠ i := fun e => by subst e; rw [hi] at hi4; cases hi4; exact hqb rfl
    have hq4 : (M.set i (g, o2))[i4]? = some q := by rw [List.getElem?_set, if_neg (Ne.symm hne4)]; exact hi4
    refine ⟨List.mem_of_getElem? hq4, fun j u x y hj hb' => ?_⟩
    by_cases e : j = Hp.n
    · subst e
      rw [hcov.mem.n, bs_last] at hb'
      cases hb'
      exact absurd rfl (key_ne hnM (o' := q.2) hgi hq4 (Ne.symm hne4))
    · obtain ⟨e1, e2⟩ := old e hj
      exact h2 j u x y e2 (bs_old hb' (by rw [← hcov.mem.n]; exact e))

/-! ### append -/
def bytesX (P : Program) (t : TypeId) : Option Nat := match P.info? t with
  | some i => some i.bytes
  | none => none
def blockX (Hp : H) (k n off : Nat) : Option (List V) := match Hp.h.get k with
  | some (.cells c _) => cellsX c n off
  | _ => none
def typeOfX (Hp : H) (k : Nat) : Option TypeId := match Hp.h.get k with
  | some (.cells _ E) => some E
  | _ => none
/-- What an append's second argument yields: how many elements, their cells. -/
def bytesV (b : ByteArray) : List V := b.data.toList.map fun u => V.int .u8 u.toNat
def srcX (P : Program) (Hp : H) (t2 : TypeId) (sz : Nat) : Option V → Option (Nat × List V)
  | some .slN => match P.underlying t2 with
    | some (.slice _) => some (0, [])
    | _ => none
  | some (.sl k off m q _) => match P.underlying t2, Nat.beq q sz with
    | some (.slice _), true => match m with
      | 0 => some (0, [])
      | m + 1 => match blockX Hp k (Nat.mul (m + 1) sz) off with
        | some l => match V.ones l with
          | true => some (m + 1, l)
          | false => none
        | none => none
    | _, _ => none
  | some (.str b) => match P.underlying t2, Nat.beq sz 1 with
    | some .string, true => some (b.size, bytesV b)
    | _, _ => none
  | _ => none
def appendX (P : Program) (s : S) (Hp : H) (t t2 : TypeId) (x y : Operand) (d : Nat) : SX := match P.underlying t with
  | some (.slice E) => match zeroX P E, sizeX P E, bytesX P E with
    | some z, some (sz + 1), some by_ => match Nat.beq z.length (sz + 1), srcX P Hp t2 (sz + 1) (evX s y) with
      | true, some (0, _) => match evX s x with
        | some .slN => some (s.set d .slN, Hp)
        | some (.sl k off len q ex) => some (s.set d (.sl k off len q ex), Hp)
        | _ => none
      | true, some (m + 1, l2) => match evX s x with
        | some .slN => match Nat.ble (m + 1) 100000, Nat.ble by_ 100000 with
          | true, true => some (s.set d (.sl Hp.n 0 (m + 1) (sz + 1) false), Hp.new (.cells (T.row .e l2 0) E))
          | _, _ => none
        | some (.sl k off len q ex) => match Nat.ble (Nat.add len (m + 1)) 100000, Nat.ble by_ 100000, blockX Hp k (Nat.mul len (sz + 1)) off, typeOfX Hp k with
          | true, true, some l, some E' => match Nat.beq E E', Nat.beq q (sz + 1), ex with
            | true, true, true => some (s.set d (.sl Hp.n 0 (Nat.add len (m + 1)) (sz + 1) false), Hp.new (.cells (T.row .e (l ++ l2) 0) E))
            | true, true, false => some (s.set d (.sl Hp.n 0 (Nat.add len (m + 1)) (sz + 1) false), Hp.swap k (.cells (T.row .e (l ++ l2) 0) E))
            | _, _, _ => none
          | _, _, _, _ => none
        | _ => none
      | _, _ => none
    | _, _, _ => none
  | _ => none
theorem blockX_ok (hcov : Cov bs s Hp M F σ) {k n off : Nat} {l : List V} (h : blockX Hp k n off = some l) : ∃ (b base av i : Nat) (cs : Array Value) (E : TypeId) (cc : T V) (l' : List Value), Hp.h.get k = some (.cells cc E) ∧ bs[k]? = some (b, base, av) ∧ M[i]? = some (b, .cells cs E (0, 0)) ∧ σ.L[i]? = some (b, .cells cs E (0, 0)) ∧ base + av ≤ cs.size ∧ RVs bs l l' ∧ l'.length = n ∧ (∀ j, j < n → cs[base + off + j]? = l'[j]?) ∧ (n = 0 ∨ off + n ≤ av) := by
  unfold blockX at h
  split at h
  · rename_i cc E hk
    obtain ⟨b, base, av, i, o', a1, a2, cs, rfl, a3, a4⟩ := hcov.mem.at_ k _ hk
    obtain ⟨l', e1, e2, e3, e4⟩ := cellsX_ok a4 n off l h
    exact ⟨b, base, av, i, cs, E, cc, l', hk, a1, a2, by rw [hcov.L, List.getElem?_append_left (List.getElem?_eq_some_iff.1 a2).1]; exact a2, a3, e1, e2, e3, e4⟩
  · cases h
theorem Post_same {v : V} {v' : Value} (hcov : Cov bs s Hp M F σ) (hv : RV bs v v') : Post bs Hp M F (s.set d v) Hp ⟨(d, v') :: σ.s, σ.D, σ.L⟩ :=
  Post.self hcov.D hcov.L (hcov.slots.put hv) hcov.mem

theorem srcX_ok (hcov : Cov bs s Hp M F σ) {t2 sz n : Nat} {l : List V} {y : Operand} (h : srcX c.P Hp t2 sz (evX s y) = some (n, l)) : ∃ y' news, ev σ.s y = some y' ∧ RVs bs l news ∧ ∀ a w, Holds c.g c.N σ a w → Src c.P sz t2 y' n news w := by
  generalize hy : evX s y = e at h
  unfold srcX at h
  split at h
  · split at h
    · rename_i e' hk
      cases h
      obtain ⟨_, h1, h2⟩ := evX_ok hcov.slots hy; cases h2
      exact ⟨_, [], h1, .nil, fun a w _ => Src.ofNil w hk 0⟩
    · cases h
  · rename_i k off m q ex
    split at h
    · rename_i e' hk hq
      obtain ⟨_, h1, h2⟩ := evX_ok hcov.slots hy
      obtain ⟨b, base, av, off', cap, rfl, hb, q1, q2, q3, q4⟩ := h2.sl_inv
      have hq := Nat.eq_of_beq_eq_true hq
      split at h
      · cases h
        exact ⟨_, [], h1, .nil, fun a w _ => Src.ofSlice w hk _ 0 cap [] (by simp) (fun j u hu => by simp at hu) (fun u hu => by cases hu)⟩
      · rename_i m
        split at h
        · rename_i l1 hl
          split at h
          · rename_i hone
            cases h
            obtain ⟨b', base', av', i', cs, E1, cc, l', f1, f2, f3, f4, f5, f6, f7, f8, f9⟩ := blockX_ok hcov hl
            rw [hb] at f2; cases f2
            obtain rfl : off' = base + off := by omega
            refine ⟨_, l', h1, f6, fun a w ha => Src.ofSlice w hk _ (m + 1) cap l' f7 (fun j v hv => ?_) ?_⟩
            · have hj := (List.getElem?_eq_some_iff.1 hv).1
              rw [Addr.add_mid, cell_of_row w b (base + off + j) cs E1 (0, 0) (ha.mem.at_ f4), f8 j (by omega)]
              exact hv
            · have := f6.ones hone
              exact List.all_eq_true.1 this
          · cases h
        · cases h
    · cases h
  · rename_i b
    split at h
    · rename_i hk hz
      cases h
      obtain ⟨_, h1, h2⟩ := evX_ok hcov.slots hy; cases h2
      obtain rfl := Nat.eq_of_beq_eq_true hz
      refine ⟨_, byteCells b, h1, ?_, fun a w _ => Src.ofString w hk b⟩
      unfold bytesV byteCells
      generalize b.data.toList = l
      induction l with
      | nil => exact .nil
      | cons u r ih => exact .cons (.int .u8 _) ih
    · cases h
  · cases h

theorem run_append_in_src {P : Program} (w : World) (t tx ty e : TypeId) (i : TypeInfo) (ht : P.underlying t = some (.slice e)) (hi : P.info? e = some i)
    (g off sLen sCap : Nat) (cur : Array Value) (hg : w.heap[g]? = some (.cells cur e (0, 0)))
    (x : Value) (m : Nat) (news : List Value) (hs : Src P i.size tx x m news w)
    (hroom : sLen + m ≤ sCap) (hfit : off + sLen * i.size + news.length ≤ cur.size) :
    (Builtin.append_ #[t, tx] ty #[.slice (some ⟨g, off, none⟩) sLen sCap, x]).run P w =
      .ok (.slice (some ⟨g, off, none⟩) (sLen + m) sCap) (w.setRow g (putR cur (off + sLen * i.size) news.toArray)) := by
  have hst := run_storeCells_at P g (off + sLen * i.size) e news 0 cur w hg (by simpa using hfit) hs.one
  simp only [Nat.add_zero] at hst
  rcases hs.kind with ⟨e', hk⟩ | hk <;> simp [Builtin.append_, run_underlying ht, run_underlying hk, sizeOf, typeInfo, hi, hs.len, hroom, hs.cells, Addr.add_mid, hst, putR]

/-- 'append(x, y...)', x a slice whose block is known: in its own block, or in a new one that takes its place. -/
theorem OW_append_src {c : Cx} {o : Oper} {Kn : St → Prop} {K : Exit → St → Prop} {s : List (Nat × Value)} {D : List Deferred} {L : List (Nat × Obj)} {t t2 E size by_ d : Nat} {z : Array Value} [hu : TUnd c.P t (.slice E)] [hrow : TRow c.P E z size by_] {x y : Operand}
    (ho : o.op = .call { callee := .builtin .append, args := #[x, y], argTypes := #[t, t2] }) (hdst : o.dst = some d) (hd : Nat.blt d c.N = true) {g off n cap : Nat} {cur : Array Value} (hx : ev s x = some (.slice (some ⟨g, off, none⟩) n cap)) (i : Nat) (hs : SlAt L i g off n cap E size cur)
    {m : Nat} {y' : Value} {news : List Value} (hy : ev s y = some y') (hsrc : ∀ a w, Holds c.g c.N ⟨s, D, L⟩ a w → Src c.P size t2 y' m news w)
    (hmax : n + m ≤ maxLen) (hby : (n + m) * by_ ≤ 140737488355328)
    (hk : ∀ g' off' cap' cur' L', setL L i (g', .cells cur' E (0, 0)) = some L' → SlAt L' i g' off' (n + m) cap' E size cur' → cur'.extract off' (off' + (n + m) * size) = cur.extract off (off + n * size) ++ news.toArray → Kn ⟨(d, .slice (some ⟨g', off', none⟩) (n + m) cap') :: s, D, L'⟩) : OW c o Kn K ⟨s, D, L⟩ := fun a w ha => by
  refine ⟨fun _ _ => trivial, ?_⟩
  obtain ⟨ii, zz, r1, r2, r3, r4, r5, r6⟩ := hrow.h
  have hsr := hsrc a w ha
  have hlen := hsr.newsLen
  have hset : ∀ (L : List (Nat × Obj)) (i : Nat) (p q : Nat × Obj), L[i]? = some q → setL L i p = some (L.set i p) := by
    intro L
    induction L with
    | nil => intro i p q h; simp at h
    | cons x r ih =>
      intro i p q h
      cases i with
      | zero => rfl
      | succ i => simp only [List.getElem?_cons_succ] at h; simp [setL, ih i p q h]
  have hat : ∀ (L : List (Nat × Obj)) (i : Nat) (p q : Nat × Obj), L[i]? = some q → (L.set i p)[i]? = some p := by
    intro L i p q h
    obtain ⟨hlt, _⟩ := List.getElem?_eq_some_iff.1 h
    simp [hlt]
  have hz : news.toArray.size = m * size := by simpa using hlen
  by_cases hroom : n + m ≤ cap
  · have hfit1 : off + n * size + news.toArray.size ≤ cur.size := by
      have h2 := hs.fit
      have h3 : (n + m) * size ≤ cap * size := Nat.mul_le_mul_right _ hroom
      rw [Nat.add_mul] at h3
      omega
    have hr := run_append_in_src (P := c.P) w t t2 o.type E ii hu.h r1 g off n cap cur (ha.mem.at_ hs.at_) y' m news (by rw [r4]; exact hsr) hroom (by rw [r4]; simpa using hfit1)
    have hr' : (execOp a.eval o).run c.P w = .ok (.value (.slice (some ⟨g, off, none⟩) (n + m) cap)) (w.setRow g (putR cur (off + n * size) news.toArray)) := by
      rw [r4] at hr
      simp [execOp, ho, resolve, invoke, builtin, ha.ev hx, ha.ev hy, hr]
    rw [Oper.semAt_eq _ _ _ (by rw [ho]; intro cc h; cases h), hr']
    have hps := putR_size cur news.toArray (off + n * size) hfit1
    refine ⟨_, ?_, hk g off cap (putR cur (off + n * size) news.toArray) _ (hset _ _ _ _ hs.at_) ⟨hat _ _ _ _ hs.at_, hroom, hs.max, by rw [hps]; exact hs.fit⟩ ?_⟩
    · rw [hdst]
      exact (ha.mem' (ha.mem.setRow hs.at_ _)).put (d := some d) hd _
    · apply Array.ext_getElem?
      intro q
      rw [Array.getElem?_extract, Array.getElem?_append, Array.getElem?_extract, hps]
      have hsz : (cur.extract off (off + n * size)).size = n * size := by simp; omega
      rw [hsz]
      rw [Nat.add_mul]
      by_cases hq : q < n * size
      · rw [if_pos (by omega), if_pos hq, if_pos (by omega), putR_get_out _ _ _ _ hfit1 (by omega)]
      · rw [if_neg hq]
        by_cases hq2 : q < n * size + m * size
        · rw [if_pos (by omega)]
          have := putR_get_in cur news.toArray (off + n * size) (q - n * size) hfit1 (by omega)
          rw [show off + n * size + (q - n * size) = off + q by omega] at this
          exact this
        · rw [if_neg (by omega), Array.getElem?_eq_none (by omega)]
  · have hold := cells_at ha.mem hs.at_ off (n * size)
    have h3 : n * size ≤ cap * size := Nat.mul_le_mul_right _ hs.le
    have hfit0 := hs.fit
    have hsz : (cur.extract off (off + n * size)).size = n * size := by simp; omega
    have hr := run_append_grow_src (P := c.P) w t t2 o.type E ii zz hu.h r1 r2 (some ⟨g, off, none⟩) n cap (cur.extract off (off + n * size)).toList (run_firstCells_some w.drew ii.size n ⟨g, off, none⟩ n cap _ (by rw [Array.length_toList, hsz, r4]) (by simpa using hold)) y' m news (by rw [r4]; exact hsr) (by omega) (by simp only [maxLen] at hmax; omega) (growslice_fits (by omega) (by rw [r5]; exact hby))
    rw [r3] at hr
    obtain ⟨cap', hcap'⟩ : ∃ q, grownCap w (n + m) cap E = q := ⟨_, rfl⟩
    have hge := grownCap_ge w (n + m) cap E
    have hcm := grownCap_le_maxLen w (n + m) cap E hmax
    rw [hcap'] at hr hge hcm
    have e0 : ((cur.extract off (off + n * size)).toList ++ news).toArray = cur.extract off (off + n * size) ++ news.toArray := by apply Array.ext'; simp
    rw [e0] at hr
    have hr' : (execOp a.eval o).run c.P w = .ok (.value (.slice (some ⟨w.heap.size, 0, none⟩) (n + m) cap')) (w.drew.alloc (.cells (cur.extract off (off + n * size) ++ news.toArray ++ Builtin.zeroCells z (cap' - (n + m))) E)) := by
      simp [execOp, ho, resolve, invoke, builtin, ha.ev hx, ha.ev hy, hr]
    rw [Oper.semAt_eq _ _ _ (by rw [ho]; intro cc h; cases h), hr']
    have hN : (cur.extract off (off + n * size) ++ news.toArray).size = (n + m) * size := by rw [Array.size_append, hsz, hz, Nat.add_mul]
    refine ⟨_, ?_, hk w.heap.size 0 cap' (cur.extract off (off + n * size) ++ news.toArray ++ Builtin.zeroCells z (cap' - (n + m))) _ (hset _ _ _ _ hs.at_) ⟨hat _ _ _ _ hs.at_, hge, hcm, ?_⟩ ?_⟩
    · rw [hdst]
      have hm1 := (ha.mem.drew).alloc (.cells (cur.extract off (off + n * size) ++ news.toArray ++ Builtin.zeroCells z (cap' - (n + m))) E)
      have hm2 : Mem c.g (L.set i (w.heap.size, .cells (cur.extract off (off + n * size) ++ news.toArray ++ Builtin.zeroCells z (cap' - (n + m))) E)) _ :=
        (hm1.perm (L' := (w.heap.size, .cells (cur.extract off (off + n * size) ++ news.toArray ++ Builtin.zeroCells z (cap' - (n + m))) E) :: L) (.refl _)).sublist ((List.eraseIdx_sublist L i).cons_cons _) |>.perm (set_perm hs.at_ _)
      exact (ha.mem' hm2).put (d := some d) hd _
    · rw [Array.size_append, hN, size_zeroCells, r6, ← Nat.add_mul]
      have : n + m + (cap' - (n + m)) = cap' := by omega
      rw [this]; omega
    · rw [Nat.zero_add, ← hN]
      exact extract_left _ _
theorem appendX_ok {t t2 : TypeId} {x y : Operand} (ho : o.op = .call { callee := .builtin .append, args := #[x, y], argTypes := #[t, t2] }) (hdst : o.dst = some d) (hd : Nat.blt d c.N = true) (hcov : Cov bs s Hp M F σ) (hc : appendX c.P s Hp t t2 x y d = some (s2, H2)) : OW c o (Post bs Hp M F s2 H2) K σ := by
  generalize hx : evX s x = e1 at hc
  generalize hy : evX s y = e2 at hc
  unfold appendX at hc
  rw [hx, hy] at hc
  split at hc
  · rename_i E hu
    haveI : TUnd c.P t (.slice E) := ⟨hu⟩
    split at hc
    · rename_i z sz by_ hz hsz hby
      haveI := sizeX_ok hsz
      obtain ⟨zv, i, i1, i2, i3, i4⟩ := zeroX_ok hz
      have j1 : i.size = sz + 1 := by unfold sizeX at hsz; rw [i1] at hsz; simpa using hsz
      have j2 : i.bytes = by_ := by unfold bytesX at hby; rw [i1] at hby; simpa using hby
      have nothing : ∀ {a : Option Addr} {n cap : Nat} {v : V} {l : List V}, srcX c.P Hp t2 (sz + 1) e2 = some (0, l) → ev σ.s x = some (.slice a n cap) → n ≤ cap → RV bs v (.slice a n cap) → OW c o (Post bs Hp M F (s.set d v) Hp) K σ := by
        intro a n cap v l hsrc h1 hn hv ac w ha
        rw [← hy] at hsrc
        obtain ⟨y', news, g1, g2, g3⟩ := srcX_ok hcov hsrc
        have hsr := g3 ac w ha
        have : news = [] := by have := hsr.newsLen; simpa using this
        subst this
        refine ⟨fun _ _ => trivial, ?_⟩
        have hr : (execOp ac.eval o).run c.P w = .ok (.value (.slice a n cap)) w := by
          simp [execOp, ho, resolve, invoke, builtin, ha.ev h1, ha.ev g1, run_append_nothing w t t2 o.type E i hu i1 a n cap hn y' (by rw [j1]; exact hsr)]
        rw [Oper.semAt_eq _ _ _ (by rw [ho]; intro cc h; cases h), hr]
        refine ⟨⟨(d, .slice a n cap) :: σ.s, σ.D, σ.L⟩, ?_, Post_same hcov hv⟩
        rw [hdst]
        exact ha.put (d := some d) hd _
      split at hc
      · rename_i l0 cz hsrc
        split at hc
        · cases hc
          obtain ⟨_, h1, h2⟩ := evX_ok hcov.slots hx; cases h2
          exact nothing hsrc h1 (Nat.le_refl _) .slN
        · cases hc
          obtain ⟨_, h1, h2⟩ := evX_ok hcov.slots hx
          have h5 := h2
          obtain ⟨b, base, av, off', cap, rfl, hk, q1, q2, q3, q4⟩ := h5.sl_inv
          exact nothing hsrc h1 q1 h2
        · cases hc
      · rename_i m l2 cz hsrc
        have hz1 := Nat.eq_of_beq_eq_true cz
        have hz2 : zv.cells.size = sz + 1 := by
          have := (i4 []).length
          simp only [Array.length_toList] at this; omega
        rw [← hy] at hsrc
        obtain ⟨y', news, g1, g2, g3⟩ := srcX_ok hcov hsrc
        /- a new block -/
        have fresh : ∀ {a : Option Addr} {n cap : Nat} {l : List V} {l' : List Value}, ev σ.s x = some (.slice a n cap) → RVs bs l l' → l'.length = n * (sz + 1) → (∀ ac w, Holds c.g c.N σ ac w → (Builtin.firstCells i.size n (.slice a n cap)).run c.P w.drew = .ok l'.toArray w.drew) → cap < n + (m + 1) → n + (m + 1) ≤ 100000 → by_ ≤ 100000 →
            OW c o (Post bs Hp M F (s.set d (.sl Hp.n 0 (n + (m + 1)) (sz + 1) false)) (Hp.new (.cells (T.row .e (l ++ l2) 0) E))) K σ := by
          intro a n cap l l' h1 hl hl' hold hg e1 e2
          refine OW_newE hcov hdst hd (by simp [ho]) fun ac w ha => ?_
          have hsr := g3 ac w ha
          have hnl : news.length = (m + 1) * (sz + 1) := hsr.newsLen
          have hby2 : (n + (m + 1)) * i.bytes ≤ 140737488355328 := by
            have : (n + (m + 1)) * i.bytes ≤ 100000 * 100000 := Nat.mul_le_mul e1 (by omega)
            omega
          have hr := run_append_grow_src (P := c.P) w t t2 o.type E i zv hu i1 i2 a n cap l' (hold ac w ha) y' (m + 1) news (by rw [j1]; exact hsr) hg (by omega) (growslice_fits (by omega) hby2)
          have hge := grownCap_ge w (n + (m + 1)) cap E
          have hcm := grownCap_le_maxLen w (n + (m + 1)) cap E (by simp only [maxLen]; omega)
          obtain ⟨cap', hcap'⟩ : ∃ q, grownCap w (n + (m + 1)) cap E = q := ⟨_, rfl⟩
          rw [hcap'] at hr hge hcm
          have hmul : (n + (m + 1)) * (sz + 1) + (cap' - (n + (m + 1))) * (sz + 1) = cap' * (sz + 1) := by rw [← Nat.add_mul]; congr 1; omega
          have hmul2 : (n + (m + 1)) * (sz + 1) = n * (sz + 1) + (m + 1) * (sz + 1) := Nat.add_mul ..
          have hA : l.length = n * (sz + 1) := hl.length.trans hl'
          have hB : l2.length = (m + 1) * (sz + 1) := g2.length.trans hnl
          refine ⟨w.drew, cap' * (sz + 1), .cells ((l' ++ news).toArray ++ Builtin.zeroCells zv.cells (cap' - (n + (m + 1)))) E (0, 0), .slice (some ⟨w.heap.size, 0, none⟩) (n + (m + 1)) cap', ha.mem.drew, by simp [execOp, ho, resolve, invoke, builtin, ha.ev h1, ha.ev g1, hr], ?_, ?_⟩
          · have := RO_row (b := w.drew.heap.size) (E := E) (extra := (Builtin.zeroCells zv.cells (cap' - (n + (m + 1)))).toList) (n := cap' * (sz + 1)) ((hl.append g2).mono [(w.drew.heap.size, 0, cap' * (sz + 1))]) (by rw [List.length_append]; omega) (by
              simp only [List.length_append, Array.length_toList, size_zeroCells, hz2]; omega)
            have e : (l' ++ news ++ (Builtin.zeroCells zv.cells (cap' - (n + (m + 1)))).toList).toArray = (l' ++ news).toArray ++ Builtin.zeroCells zv.cells (cap' - (n + (m + 1))) := by apply Array.ext'; simp
            rw [e] at this
            exact this
          · rw [hcov.mem.n]
            exact .sl (fun e => nomatch e) (bs_last (bs := bs) (w.drew.heap.size, 0, cap' * (sz + 1))) hge hcm (.inl (by simp)) (by simp)
        split at hc
        · split at hc
          · rename_i c1 c2
            cases hc
            obtain ⟨_, h1, h2⟩ := evX_ok hcov.slots hx; cases h2
            have := fresh (l := []) (l' := []) h1 .nil (by simp) (fun ac w _ => by simpa using run_firstCells_none w.drew i.size 0 0 0) (by omega) (by simpa using Nat.le_of_ble_eq_true c1) (Nat.le_of_ble_eq_true c2)
            simpa using this
          · cases hc
        · rename_i k off len q ex
          split at hc
          · rename_i l E' c1 c2 hl hE'
            have e1 : len + (m + 1) ≤ 100000 := Nat.le_of_ble_eq_true c1
            have e2 : by_ ≤ 100000 := Nat.le_of_ble_eq_true c2
            obtain ⟨_, h1, h2⟩ := evX_ok hcov.slots hx
            obtain ⟨b, base, av, off', cap, rfl, hk, q1, q2, q3, q4⟩ := h2.sl_inv
            obtain ⟨b', base', av', i', cs, E1, cc, l', f1, f2, f3, f4, f5, f6, f7, f8, f9⟩ := blockX_ok hcov hl
            rw [hk] at f2; cases f2
            have hE : E1 = E' := by unfold typeOfX at hE'; rw [f1] at hE'; simpa using hE'
            subst hE
            have f7' : l'.length = len * (sz + 1) := f7
            have parts : Nat.beq q (sz + 1) = true → off' + cap * (sz + 1) ≤ cs.size ∧ cs.extract off' (off' + len * (sz + 1)) = l'.toArray := by
              intro hq
              obtain rfl := Nat.eq_of_beq_eq_true hq
              have hfit : off' + cap * (sz + 1) ≤ cs.size := by
                rcases q3 with q3 | ⟨q3, q5⟩
                · omega
                · rw [q3]; simp; omega
              refine ⟨hfit, ?_⟩
              rcases q3 with q3 | ⟨q3, q5⟩
              · subst q3
                have : len * (sz + 1) ≤ cap * (sz + 1) := Nat.mul_le_mul_right _ q1
                exact extract_of_get f7' (by omega) f8
              · have : len = 0 := by omega
                subst this
                have : l' = [] := by cases l' with
                  | nil => rfl
                  | cons _ _ => simp at f7'
                subst this
                have e0 : off' + 0 * (sz + 1) = off' := by omega
                rw [e0]
                apply Array.eq_empty_of_size_eq_zero
                simp only [Array.size_extract]; omega
            split at hc
            · rename_i c4 c5
              cases hc
              obtain rfl := Nat.eq_of_beq_eq_true c4
              obtain ⟨hfit, hex1⟩ := parts c5
              have hcap := h2.sl_ex
              have := fresh h1 f6 f7' (fun ac w ha => by
                have hold := cells_at ha.mem f4 off' (len * (sz + 1))
                rw [hex1] at hold
                exact run_firstCells_some w.drew i.size len ⟨b, off', none⟩ len cap l' (by rw [j1]; exact f7') (by simpa using hold)) (by omega) e1 e2
              exact this
            · rename_i c4 c5
              cases hc
              obtain rfl := Nat.eq_of_beq_eq_true c4
              obtain ⟨hfit, hex1⟩ := parts c5
              haveI : TRow c.P E zv.cells (sz + 1) by_ := ⟨⟨i, zv, i1, i2, rfl, j1, j2, hz2⟩⟩
              refine OW_nodup ?_
              refine OW_append_src (s := σ.s) (D := σ.D) (L := σ.L) (size := sz + 1) (by_ := by_) (z := zv.cells) ho hdst hd h1 i' ⟨f4, q1, q2, hfit⟩ (m := m + 1) g1 g3 (by simp only [maxLen]; omega) (Nat.le_trans (Nat.mul_le_mul (show len + (m + 1) ≤ 100000 from e1) e2) (by decide)) ?_
              intro g' off3 cap' cur' L' hset hsl hcur hnod
              have hsetL := setL_eq hset
              rw [hex1] at hcur
              have hll := f6.length
              have hll2 := g2.length
              have hmul2 : (len + (m + 1)) * (sz + 1) = len * (sz + 1) + (m + 1) * (sz + 1) := Nat.add_mul ..
              have hmul : (len + (m + 1)) * (sz + 1) ≤ cap' * (sz + 1) := Nat.mul_le_mul_right _ hsl.le
              refine Post_swap (i := i') (av2 := cap' * (sz + 1)) (base2 := off3) (g := g') (o2 := .cells cur' E (0, 0)) hcov f1 hk f3 hnod ⟨cur', rfl, hsl.fit, fun j v hj => ?_⟩ ?_ rfl rfl hsetL.symm
              · rcases T.get_row hj with ⟨_, e⟩ | ⟨_, e⟩
                · simp only [Nat.sub_zero] at e
                  have hr := (f6.append g2).mono [(g', off3, cap' * (sz + 1))]
                  obtain ⟨v', k1, k2⟩ := hr.get e
                  have hlt := (List.getElem?_eq_some_iff.1 k1).1
                  simp only [List.length_append] at hlt
                  have hext := congrArg Array.size hcur
                  have hsz2 : (cur'.extract off3 (off3 + (len + (m + 1)) * (sz + 1))).size = (len + (m + 1)) * (sz + 1) := by
                    have := hsl.fit
                    simp only [Array.size_extract]; omega
                  rw [hsz2] at hext
                  simp only [Array.size_append, List.size_toArray] at hext
                  have hj2 : j < (len + (m + 1)) * (sz + 1) := by omega
                  refine ⟨Nat.lt_of_lt_of_le hj2 hmul, v', ?_, k2⟩
                  have hc2 := congrArg (fun (A : Array Value) => A[j]?) hcur
                  simp only [Array.getElem?_extract] at hc2
                  have hle : off3 + (len + (m + 1)) * (sz + 1) ≤ cur'.size := Nat.le_trans (Nat.add_le_add_left hmul _) hsl.fit
                  rw [if_pos (by show j < min (off3 + (len + (m + 1)) * (sz + 1)) cur'.size - off3; omega)] at hc2
                  rw [hc2]
                  simpa using k1
                · cases e
              · rw [hcov.mem.n]
                exact .sl (fun e => nomatch e) (bs_last (bs := bs) (g', off3, cap' * (sz + 1))) hsl.le hsl.max (.inl (by simp)) (by simp)
            · cases hc
          · cases hc
        · cases hc
      · cases hc
    · cases hc
  · cases hc
end
end
end Go.Proofs.Ytcnbecdpfildnaa
