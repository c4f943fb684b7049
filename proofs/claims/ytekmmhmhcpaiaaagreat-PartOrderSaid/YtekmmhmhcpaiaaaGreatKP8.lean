/-
  A part of what the last of these texts needs; by itself it proves no statement.
-/
import Derived.Test.YtekmmhmhcpaiaaaGreatKP7
namespace Go.Proofs.YtekmmhmhcpaiaaaGreat
open Go.RowKit
theorem wI64 {x : Int} (h1 : -9223372036854775808 ≤ x) (h2 : x < 9223372036854775808) : IntKind.i64.wrap x = x := by
  rw [IntKind.wrap_i64]; omega
theorem wU8 {x : Int} (h1 : 0 ≤ x) (h2 : x < 256) : IntKind.u8.wrap x = x := by
  simp only [IntKind.wrap, IntKind.bits, IntKind.signed]
  simp; omega
section
variable {c : Cx} {s : List (Nat × Value)} {L : List (Nat × Obj)} {o : Oper}
theorem Qt_shr {t t' : TypeId} {x y : Operand} {k k' : IntKind} {a b : Int} (ho : o.op = .binOp .shr t x y t') (hx : ev s x = some (.int k a) := by exact rfl) (hy : ev s y = some (.int k' b) := by exact rfl) (hb : 0 ≤ b := by decide) : Qt c s L o (.int k (a.fdiv (2 ^ (min b.toNat k.bits)))) :=
  Qt_binW ho hx hy (by simp [binW, hb])
theorem Qt_and {t t' : TypeId} {x y : Operand} {k : IntKind} {a b : Int} (ho : o.op = .binOp .and t x y t') (hx : ev s x = some (.int k a) := by exact rfl) (hy : ev s y = some (.int k b) := by exact rfl) : Qt c s L o (.int k (k.wrap (BitVec.ofInt k.bits a &&& BitVec.ofInt k.bits b).toNat)) :=
  Qt_binW ho hx hy (by simp [binW])
theorem Qt_xor {t t' : TypeId} {x y : Operand} {k : IntKind} {a b : Int} (ho : o.op = .binOp .xor t x y t') (hx : ev s x = some (.int k a) := by exact rfl) (hy : ev s y = some (.int k b) := by exact rfl) : Qt c s L o (.int k (k.wrap (BitVec.ofInt k.bits a ^^^ BitVec.ofInt k.bits b).toNat)) :=
  Qt_binW ho hx hy (by simp [binW])
end
def bV (u : UInt8) : Value := .int .u8 (u.toNat : Int)
def bstr (l : List UInt8) : ByteArray := ⟨l.toArray⟩
theorem bstr_size (l : List UInt8) : (bstr l).size = l.length := by simp [bstr, ByteArray.size]
theorem bstr_get (l : List UInt8) (i : Nat) (h : i < l.length) : (bstr l)[i]'(by rw [bstr_size]; exact h) = l[i] := by
  simp [bstr, ByteArray.getElem_eq_getElem_data]
section
variable {c : Cx} {s : List (Nat × Value)} {L : List (Nat × Obj)} {o : Oper}
theorem Qt_indexB {t : TypeId} [hu : TUnd c.P t .string] {x y : Operand} {l : List UInt8} {k : IntKind} {i : Int} {u : UInt8} (ho : o.op = .index t x y) (hx : ev s x = some (.string (bstr l)) := by exact rfl) (hy : ev s y = some (.int k i) := by exact rfl)
    (h0 : 0 ≤ i := by first | with_reducible assumption | decide | omega) (h1 : l[i.toNat]? = some u := by first | with_reducible assumption | rfl | (simp; done)) : Qt c s L o (bV u) :=
  Qt_of_run (by simp [ho]) (fun ρ hρ w _ => by
    obtain ⟨hlt, he⟩ := List.getElem?_eq_some_iff.1 h1
    have h3 : 0 ≤ i ∧ i < (bstr l).size := ⟨h0, by rw [bstr_size]; omega⟩
    have h2 := run_index_string (P := c.P) w t (bstr l) k i hu.h
    rw [dif_pos h3, bstr_get l _ hlt, he] at h2
    simp only [execOp, ho, hρ x _ hx, hρ y _ hy, Sem.run_bind, h2, Result.andThen]
    rfl)
end
def Vec (sz : Nat) (L : List (Nat × Obj)) (v : Value) (n : Nat) (xs : List Value) : Prop :=
  xs.length = n * sz ∧ ∃ a cap, v = .slice a n cap ∧ n ≤ cap ∧ cap ≤ maxLen ∧ (n = 0 ∨ ∃ (b off : Nat) (cs : Array Value) (E : TypeId) (fr : Nat × Nat) (i : Nat), a = some ⟨b, off, none⟩ ∧ L[i]? = some (b, Obj.cells cs E fr) ∧ ∀ j x, xs[j]? = some x → cs[off + j]? = some x)
theorem Vec.mono {sz : Nat} {L L' : List (Nat × Obj)} {v : Value} {n : Nat} {xs : List Value} (h : Vec sz L v n xs) (hs : ∀ (i : Nat) (p : Nat × Obj), L[i]? = some p → ∃ j : Nat, L'[j]? = some p) : Vec sz L' v n xs := by
  obtain ⟨h1, a, cap, h2, h3, h4, h5⟩ := h
  refine ⟨h1, a, cap, h2, h3, h4, ?_⟩
  rcases h5 with h5 | ⟨b, off, cs, E, fr, i, e1, e2, e3⟩
  · exact .inl h5
  · obtain ⟨j, hj⟩ := hs i _ e2
    exact .inr ⟨b, off, cs, E, fr, j, e1, hj, e3⟩
theorem Vec.cons {sz : Nat} {L : List (Nat × Obj)} {v : Value} {n : Nat} {xs : List Value} (p : Nat × Obj) (h : Vec sz L v n xs) : Vec sz (p :: L) v n xs := h.mono fun i _ hi => ⟨i + 1, hi⟩
theorem Vec.nil (sz : Nat) (L : List (Nat × Obj)) : Vec sz L (.slice none 0 0) 0 [] := ⟨by simp, none, 0, rfl, by omega, by simp [maxLen], .inl rfl⟩
theorem Vec.shrink {sz : Nat} {L : List (Nat × Obj)} {a : Option Addr} {n cap : Nat} {xs : List Value} (h : Vec sz L (.slice a n cap) n xs) {cap' : Nat} (hc : n ≤ cap') (hm : cap' ≤ cap := by omega) : Vec sz L (.slice a n cap') n xs := by
  obtain ⟨h1, a', c', h2, h3, h4, h5⟩ := h
  simp only [Value.slice.injEq] at h2
  obtain ⟨rfl, _, rfl⟩ := h2
  exact ⟨h1, a, cap', rfl, hc, by omega, h5⟩
theorem Vec.cells {sz : Nat} {L : List (Nat × Obj)} {a : Option Addr} {n n' cap : Nat} {xs : List Value} (h : Vec sz L (.slice a n' cap) n xs) {g w : World} (hm : Mem g L w) : (∃ a', a = some a' ∧ ∀ j x, xs[j]? = some x → w.cell? (a'.add j) = some x) ∨ (n = 0 ∧ xs = []) := by
  obtain ⟨h1, a', cap', h2, h3, h4, h5⟩ := h
  simp only [Value.slice.injEq] at h2
  obtain ⟨rfl, rfl, rfl⟩ := h2
  rcases h5 with h5 | ⟨b, off, cs, E, fr, i, e1, e2, e3⟩
  · right
    subst h5
    exact ⟨rfl, List.eq_nil_of_length_eq_zero (by omega)⟩
  · left
    refine ⟨_, e1, fun j x hj => ?_⟩
    rw [Addr.add_mid, cell_of_row w b (off + j) cs E fr (hm.at_ e2)]
    exact e3 j x hj
theorem Vec.first {P : Program} {sz : Nat} {L : List (Nat × Obj)} {a : Option Addr} {n cap : Nat} {xs : List Value} (h : Vec sz L (.slice a n cap) n xs) {g w : World} (hm : Mem g L w) (cap' : Nat) : (Builtin.firstCells sz n (.slice a n cap')).run P w = .ok xs.toArray w := by
  have hl := h.1
  rcases h.cells hm with ⟨a', rfl, h2⟩ | ⟨rfl, rfl⟩
  · exact run_firstCells_some w sz n a' n cap' xs hl h2
  · cases a with
    | none => exact run_firstCells_none w sz 0 0 cap'
    | some a => exact run_firstCells_some w sz 0 a 0 cap' [] (by simp) (fun j x hj => by simp at hj)
section
variable {c : Cx} {s : List (Nat × Value)} {L : List (Nat × Obj)} {o : Oper}
theorem Qt_slLHM {t E n : Nat} [hu : TUnd c.P t (.slice E)] [hs : TSize c.P E n] {x hi mx : Operand} {a : Option Addr} {len cap : Nat} {k k' : IntKind} {h m : Int} (ho : o.op = .slice t x none (some hi) (some mx)) (hx : ev s x = some (.slice a len cap) := by exact rfl) (hh : ev s hi = some (.int k h) := by exact rfl) (hm : ev s mx = some (.int k' m) := by exact rfl)
    (h0 : 0 ≤ h := by first | with_reducible assumption | decide | omega) (h1 : h ≤ m := by first | with_reducible assumption | exact Int.le_refl _ | omega) (h2 : m ≤ cap := by first | with_reducible assumption | omega) : Qt c s L o (.slice a h.toNat m.toNat) :=
  Qt_of_run (by simp [ho]) (fun ρ hρ w _ => by
    have hut : c.P.underlying t = some (.slice (c.P.elem t)) := by rw [elem_of hu.h]; exact hu.h
    have h3 := run_slice_hm (P := c.P) w t a len cap hut k k' h m h0 h1 h2
    rw [elem_of hu.h, hs.h] at h3
    have h4 := run_sliceAt_slice (P := c.P) w t (.slice a len cap) none (some (.int k h)) (some (.int k' m)) hut
    have h5 : sliced a 0 h.toNat m.toNat n = .slice a h.toNat m.toNat := by
      unfold sliced
      cases a <;> simp [Addr.add]
    simp only [Result.andThen, h5] at h3
    simp [execOp, ho, hρ x _ hx, hρ hi _ hh, hρ mx _ hm, h4, h3])
theorem Qt_slTo {t E n : Nat} [hu : TUnd c.P t (.slice E)] [hs : TSize c.P E n] {x hi : Operand} {a : Option Addr} {len cap : Nat} {k : IntKind} {h : Int} (ho : o.op = .slice t x none (some hi) none) (hx : ev s x = some (.slice a len cap) := by exact rfl) (hh : ev s hi = some (.int k h) := by exact rfl)
    (h0 : 0 ≤ h := by first | with_reducible assumption | decide | omega) (h2 : h ≤ cap := by first | with_reducible assumption | omega) : Qt c s L o (.slice a h.toNat cap) :=
  Qt_of_run (by simp [ho]) (fun ρ hρ w _ => by
    have hut : c.P.underlying t = some (.slice (c.P.elem t)) := by rw [elem_of hu.h]; exact hu.h
    have h3 := run_slice_h (P := c.P) w t a len cap hut k h h0 h2
    rw [elem_of hu.h, hs.h] at h3
    have h4 := run_sliceAt_slice (P := c.P) w t (.slice a len cap) none (some (.int k h)) none hut
    have h5 : sliced a 0 h.toNat cap n = .slice a h.toNat cap := by
      unfold sliced
      cases a <;> simp [Addr.add]
    simp only [Result.andThen, h5] at h3
    simp [execOp, ho, hρ x _ hx, hρ hi _ hh, h4, h3])
theorem Qt_min {t t2 : TypeId} {x y : Operand} {k : IntKind} {a b : Int} (ho : o.op = .call { callee := .builtin .min, args := #[x, y], argTypes := #[t, t2] }) (hx : ev s x = some (.int k a) := by exact rfl) (hy : ev s y = some (.int k b) := by exact rfl) : Qt c s L o (.int k (if b < a then b else a)) :=
  Qt_of_run (by simp [ho]) (fun ρ hρ w _ => by
    simp [execOp, ho, resolve, invoke, builtin, hρ x _ hx, hρ y _ hy, Builtin.min_, Builtin.min2])
theorem Qt_max {t t2 : TypeId} {x y : Operand} {k : IntKind} {a b : Int} (ho : o.op = .call { callee := .builtin .max, args := #[x, y], argTypes := #[t, t2] }) (hx : ev s x = some (.int k a) := by exact rfl) (hy : ev s y = some (.int k b) := by exact rfl) : Qt c s L o (.int k (if b > a then b else a)) :=
  Qt_of_run (by simp [ho]) (fun ρ hρ w _ => by
    simp [execOp, ho, resolve, invoke, builtin, hρ x _ hx, hρ y _ hy, Builtin.max_, Builtin.max2])
end
structure Own (sz : Nat) (cur : Array Value) (off cap n : Nat) (xs : List Value) : Prop where
  len : xs.length = n * sz
  le : n ≤ cap
  max : cap ≤ maxLen
  fit : off + cap * sz ≤ cur.size
  at_ : ∀ j x, xs[j]? = some x → cur[off + j]? = some x
theorem Own.vec {sz : Nat} {cur : Array Value} {off cap n : Nat} {xs : List Value} (h : Own sz cur off cap n xs) {L : List (Nat × Obj)} {b E : Nat} {fr : Nat × Nat} (i : Nat) (hi : L[i]? = some (b, .cells cur E fr)) : Vec sz L (.slice (some ⟨b, off, none⟩) n cap) n xs :=
  ⟨h.len, _, _, rfl, h.le, h.max, .inr ⟨b, off, cur, E, fr, i, rfl, hi, h.at_⟩⟩
theorem Own.extract {sz : Nat} {cur : Array Value} {off cap n : Nat} {xs : List Value} (h : Own sz cur off cap n xs) : cur.extract off (off + n * sz) = xs.toArray := by
  have hl := h.len
  have hf := h.fit
  have hle : n * sz ≤ cap * sz := Nat.mul_le_mul_right _ h.le
  apply Array.ext_getElem?
  intro j
  rw [Array.getElem?_extract]
  by_cases hj : j < n * sz
  · rw [if_pos (by omega)]
    have := h.at_ j (xs[j]'(by omega)) (List.getElem?_eq_getElem (by omega))
    rw [this]; simp [hl, hj]
  · rw [if_neg (by omega)]; simp; omega
theorem Own.of_extract {sz : Nat} {cur : Array Value} {off cap n : Nat} {xs : List Value} (hl : xs.length = n * sz) (hle : n ≤ cap) (hm : cap ≤ maxLen) (hf : off + cap * sz ≤ cur.size) (he : cur.extract off (off + n * sz) = xs.toArray) : Own sz cur off cap n xs := by
  refine ⟨hl, hle, hm, hf, fun j x hx => ?_⟩
  have hj := (List.getElem?_eq_some_iff.1 hx).1
  have hle' : n * sz ≤ cap * sz := Nat.mul_le_mul_right _ hle
  have h1 : (cur.extract off (off + n * sz))[j]? = some x := by rw [he]; simpa using hx
  rw [Array.getElem?_extract, if_pos (by omega)] at h1
  exact h1
def SrcL (c : Cx) (L : List (Nat × Obj)) (sz : Nat) (t2 : TypeId) (y : Value) (m : Nat) (news : List Value) : Prop := ∀ w, Mem c.g L w → Src c.P sz t2 y m news w
theorem srcVec {c : Cx} {L : List (Nat × Obj)} {sz t2 e m : Nat} {y : Value} {news : List Value} [hu : TUnd c.P t2 (.slice e)] (h : Vec sz L y m news) (h1 : ∀ u ∈ news, u.oneCell' = true) : SrcL c L sz t2 y m news := fun w hm => by
  have h' := h
  obtain ⟨hl, a, cap, rfl, _⟩ := h
  rcases Vec.cells h' hm with ⟨a', rfl, h2⟩ | ⟨rfl, rfl⟩
  · exact Src.ofSlice w hu.h a' m cap news hl h2 h1
  · cases a with
    | none => exact Src.ofNil w hu.h cap
    | some a => exact Src.ofSlice w hu.h a 0 cap [] (by simp) (fun j u hj => by simp at hj) (fun u hu => by cases hu)
set_option maxHeartbeats 4000000 in
theorem OW_append_new {c : Cx} {o : Oper} {Kn : St → Prop} {K : Exit → St → Prop} {s : List (Nat × Value)} {D : List Deferred} {L : List (Nat × Obj)} {t t2 E size by_ d : Nat} {z : Array Value} {x y : Operand} [hu : TUnd c.P t (.slice E)] [hrow : TRow c.P E z size by_]
    (ho : o.op = .call { callee := .builtin .append, args := #[x, y], argTypes := #[t, t2] }) (hdst : o.dst = some d) {a : Option Addr} {n cap m : Nat} (hx : ev s x = some (.slice a n cap)) {y' : Value} (hy : ev s y = some y') (hd : Nat.blt d c.N = true) {olds news : List Value} (hv : Vec size L (.slice a n cap) n olds)
    (hs : SrcL c L size t2 y' m news) (hm : cap < n + m) (hmax : n + m ≤ maxLen) (hby : (n + m) * by_ ≤ 140737488355328)
    (hk : ∀ b cap' cur, Own size cur 0 cap' (n + m) (olds ++ news) → Kn ⟨(d, .slice (some ⟨b, 0, none⟩) (n + m) cap') :: s, D, (b, .cells cur E (0, 0)) :: L⟩) : OW c o Kn K ⟨s, D, L⟩ := fun ac w ha => by
  refine ⟨fun _ _ => trivial, ?_⟩
  obtain ⟨ii, zz, r1, r2, r3, r4, r5, r6⟩ := hrow.h
  have hsr := hs w ha.mem
  have hlen := hsr.newsLen
  have hold := hv.first (P := c.P) ha.mem.drew cap
  have hle : n ≤ cap := by obtain ⟨_, a', c', e, h1, _⟩ := hv; cases e; exact h1
  have hr := run_append_grow_src (P := c.P) w t t2 o.type E ii zz hu.h r1 r2 a n cap olds (by rw [r4]; exact hold) y' m news (by rw [r4]; exact hsr) hm (by simp only [maxLen] at hmax; omega) (growslice_fits (by omega) (by rw [r5]; exact hby))
  rw [r3] at hr
  obtain ⟨cap', hcap'⟩ : ∃ q, grownCap w (n + m) cap E = q := ⟨_, rfl⟩
  have hge := grownCap_ge w (n + m) cap E
  have hcm := grownCap_le_maxLen w (n + m) cap E hmax
  rw [hcap'] at hr hge hcm
  have hr' : (execOp ac.eval o).run c.P w = .ok (.value (.slice (some ⟨w.heap.size, 0, none⟩) (n + m) cap')) (w.drew.alloc (.cells ((olds ++ news).toArray ++ Builtin.zeroCells z (cap' - (n + m))) E)) := by
    simp [execOp, ho, resolve, invoke, builtin, ha.ev hx, ha.ev hy, hr]
  rw [Oper.semAt_eq _ _ _ (by rw [ho]; intro cc h; cases h), hr']
  have hol : (olds ++ news).length = (n + m) * size := by rw [List.length_append, hv.1, hlen, Nat.add_mul]
  refine ⟨_, ?_, hk w.heap.size cap' ((olds ++ news).toArray ++ Builtin.zeroCells z (cap' - (n + m))) ⟨hol, hge, hcm, ?_, fun j u hu => ?_⟩⟩
  · rw [hdst]
    exact (ha.mem' ((ha.mem.drew).alloc _)).put (d := some d) hd _
  · rw [Array.size_append, List.size_toArray, hol, size_zeroCells, r6, ← Nat.add_mul]
    have : n + m + (cap' - (n + m)) = cap' := by omega
    rw [this]; omega
  · have hj := (List.getElem?_eq_some_iff.1 hu).1
    rw [Nat.zero_add, Array.getElem?_append_left (by simpa using hj)]
    simpa using hu
theorem OW_append_own {c : Cx} {o : Oper} {Kn : St → Prop} {K : Exit → St → Prop} {s : List (Nat × Value)} {D : List Deferred} {L : List (Nat × Obj)} {t t2 E size by_ d : Nat} {z : Array Value} {x y : Operand} [hu : TUnd c.P t (.slice E)] [hrow : TRow c.P E z size by_]
    (ho : o.op = .call { callee := .builtin .append, args := #[x, y], argTypes := #[t, t2] }) (hdst : o.dst = some d) {g off n cap m : Nat} (hx : ev s x = some (.slice (some ⟨g, off, none⟩) n cap)) {y' : Value} (hy : ev s y = some y') (hd : Nat.blt d c.N = true) {cur : Array Value} {xs news : List Value} (i : Nat) (hi : L[i]? = some (g, .cells cur E (0, 0))) (hv : Own size cur off cap n xs)
    (hs : SrcL c L size t2 y' m news) (hmax : n + m ≤ maxLen) (hby : (n + m) * by_ ≤ 140737488355328)
    (hk : ∀ b off' cap' cur', Own size cur' off' cap' (n + m) (xs ++ news) → Kn ⟨(d, .slice (some ⟨b, off', none⟩) (n + m) cap') :: s, D, L.set i (b, .cells cur' E (0, 0))⟩) : OW c o Kn K ⟨s, D, L⟩ := by
  refine nodup_wlog fun hnd => ?_
  refine OW_append_src (c := c) ho hdst hd hx i ⟨hi, hv.le, hv.max, hv.fit⟩ (m := m) (y' := y') (news := news) hy (fun a w ha => hs w ha.mem) hmax hby fun g' off' cap' cur' L' h1 h2 h3 => ?_
  have h4 := setL_eq h1
  subst h4
  refine hk g' off' cap' cur' (Own.of_extract ?_ h2.le h2.max h2.fit ?_)
  · have : (cur'.extract off' (off' + (n + m) * size)).size = (n + m) * size := by
      have := h2.fit
      have h5 : (n + m) * size ≤ cap' * size := Nat.mul_le_mul_right _ h2.le
      simp; omega
    rw [h3, hv.extract] at this
    simpa using this
  · rw [h3, hv.extract]; simp
section
variable {c : Cx} {ops : Array Oper}
theorem WR_skN {K : Exit → St → Prop} {Ls : List (Nat × Obj)} {m i j dg : Nat} {b : Bool} {og : Oper} {p : Plan} {o : Oper} {s : List (Nat × Value)} {D : List Deferred} {L : List (Nat × Obj)} {d : Nat} (ho : ops[i]? = some o) (h : WR c ops K Ls m p ⟨(d, undef) :: s, D, L⟩) (hg : o.guard = some (j, true) := by exact rfl) (hj : ops[j]? = some og := by exact rfl) (hdg : og.dst = some dg := by exact rfl) (hb : look s dg = some (.bool b) := by exact rfl) (he : b = false := by first | with_reducible assumption | with_reducible rfl | decide)
    (hdst : o.dst = some d := by exact rfl) (hd : Nat.blt d c.N = true := by exact rfl) (hL : ∀ q ∈ Ls, q ∈ L := by first | exact fun _ h => h | exact fun _ h => List.Sublist.subset (by repeat (first | exact .refl _ | exact List.nil_sublist _ | exact List.sublist_append_right _ _ | apply List.Sublist.cons_cons | apply List.Sublist.cons)) h) : WR c ops K Ls m (.must i p) ⟨s, D, L⟩ :=
  WR_opN (σ := ⟨s, D, L⟩) ho hg hj hdg hb (by rw [he]; rfl) (by rw [hdst]; exact hd) hL (by rw [hdst]; exact h)
theorem WR_skM {K : Exit → St → Prop} {Ls : List (Nat × Obj)} {m i j dg : Nat} {b : Bool} {og : Oper} {p : Plan} {o : Oper} {s : List (Nat × Value)} {D : List Deferred} {L : List (Nat × Obj)} {d : Nat} (ho : ops[i]? = some o) (h : WR c ops K Ls m p ⟨(d, undef) :: s, D, L⟩) (hg : o.guard = some (j, false) := by exact rfl) (hj : ops[j]? = some og := by exact rfl) (hdg : og.dst = some dg := by exact rfl) (hb : look s dg = some (.bool b) := by exact rfl) (he : b = true := by first | with_reducible assumption | with_reducible rfl | decide)
    (hdst : o.dst = some d := by exact rfl) (hd : Nat.blt d c.N = true := by exact rfl) (hL : ∀ q ∈ Ls, q ∈ L := by first | exact fun _ h => h | exact fun _ h => List.Sublist.subset (by repeat (first | exact .refl _ | exact List.nil_sublist _ | exact List.sublist_append_right _ _ | apply List.Sublist.cons_cons | apply List.Sublist.cons)) h) : WR c ops K Ls m (.must i p) ⟨s, D, L⟩ :=
  WR_opN (σ := ⟨s, D, L⟩) ho hg hj hdg hb (by rw [he]; rfl) (by rw [hdst]; exact hd) hL (by rw [hdst]; exact h)
theorem WR_skU {K : Exit → St → Prop} {Ls : List (Nat × Obj)} {m i j dg : Nat} {want : Bool} {og : Oper} {p : Plan} {o : Oper} {s : List (Nat × Value)} {D : List Deferred} {L : List (Nat × Obj)} {d : Nat} (ho : ops[i]? = some o) (h : WR c ops K Ls m p ⟨(d, undef) :: s, D, L⟩) (hg : o.guard = some (j, want) := by exact rfl) (hj : ops[j]? = some og := by exact rfl) (hdg : og.dst = some dg := by exact rfl) (hb : look s dg = some undef := by exact rfl)
    (hdst : o.dst = some d := by exact rfl) (hd : Nat.blt d c.N = true := by exact rfl) (hL : ∀ q ∈ Ls, q ∈ L := by first | exact fun _ h => h | exact fun _ h => List.Sublist.subset (by repeat (first | exact .refl _ | exact List.nil_sublist _ | exact List.sublist_append_right _ _ | apply List.Sublist.cons_cons | apply List.Sublist.cons)) h) : WR c ops K Ls m (.must i p) ⟨s, D, L⟩ :=
  WR_opU (σ := ⟨s, D, L⟩) ho hg hj hdg hb (by rw [hdst]; exact hd) hL (by rw [hdst]; exact h)
end
theorem WC_wk {c : Cx} {code : Code} {K : Exit → St → Prop} {s0 : List (Nat × Value)} {D : List Deferred} {L : List (Nat × Obj)} (s : List (Nat × Value)) (hs : SubS s s0) (h : WC c code K ⟨s, D, L⟩) : WC c code K ⟨s0, D, L⟩ := WC_weaken (σ := ⟨s0, D, L⟩) s hs h
theorem arr_get {α : Type} {cs : Array α} {i : Nat} {v : α} (h : cs.toList[i]? = some v) : cs[i]? = some v := by simpa using h
theorem Qt_ld1B {c : Cx} {s : List (Nat × Value)} {L : List (Nat × Obj)} {o : Oper} {t b off : Nat} [TAgg c.P t false] {x : Operand} {cs : Array Value} {E : TypeId} {fr : Nat × Nat} {v : Value} (ho : o.op = .load t x) (hx : ev s x = some (.pointer (some ⟨b, off, none⟩)) := by exact rfl) (hi : ∃ i : Nat, L[i]? = some (b, .cells cs E fr) := by first | exact ⟨0, rfl⟩ | exact ⟨1, rfl⟩ | exact ⟨2, rfl⟩ | exact ⟨3, rfl⟩ | exact ⟨4, rfl⟩ | exact ⟨5, rfl⟩ | exact ⟨6, rfl⟩ | exact ⟨7, rfl⟩ | exact ⟨8, rfl⟩ | exact ⟨9, rfl⟩ | exact ⟨10, rfl⟩ | exact ⟨11, rfl⟩ | exact ⟨12, rfl⟩ | exact ⟨13, rfl⟩ | exact ⟨_, by with_reducible assumption⟩) (hv : cs[off]? = some v := by first | with_reducible assumption | exact arr_get rfl | rfl | assumption) : Qt c s L o v :=
  let ⟨i, h⟩ := hi; Qt_load1 ho hx i h hv
theorem Qt_buildB {c : Cx} {s : List (Nat × Value)} {L : List (Nat × Obj)} {o : Oper} {t : TypeId} {z : Array Value} {pl : List (Nat × Nat)} [hb : TBuild c.P t z pl] {parts : Array (Nat × Operand)} {vs : List (Nat × Value)} {cs : Array Value} (ho : o.op = .build t parts) (hx : evp s parts.toList = some vs := by exact rfl) (hf : Filled pl z vs cs := by repeat (first | exact rfl | refine ⟨_, _, rfl, (by first | with_reducible assumption | rfl | assumption), (by first | exact Nat.le_of_ble_eq_true rfl | omega), ?_⟩)) : Qt c s L o (.agg cs) :=
  Qt_build ho hx hf
end Go.Proofs.YtekmmhmhcpaiaaaGreat
namespace Go.Proofs.YtekmmhmhcpaiaaaGreat
open Go.RowKit
section
variable {c : Cx} {s : List (Nat × Value)} {L : List (Nat × Obj)} {o : Oper}
theorem Qt_eql_ifN {t t' : TypeId} {ms : Array (String × TypeId)} [hu : TUnd c.P t (.interface ms)] {x : Operand} {cv : Value} (ho : o.op = .binOp .eql t x (.const cv) t') (hx : ev s x = some .nilIface := by exact rfl) (hy : cv = .nilIface := by exact rfl) : Qt c s L o (.bool true) :=
  Qt_of_run (by simp [ho]) (fun ρ hρ w _ => by
    subst hy
    obtain ⟨h1, h2⟩ := run_equalIn_iface (P := c.P) w 9999 t hu.h
    have e : (binOp .eql t .nilIface .nilIface).run c.P w = .ok (.bool true) w := by simp only [binOp]; simp [Op.equal, Op.maxDepth, h1]
    simp [execOp, ho, hρ x _ hx, hρ (.const .nilIface) _ rfl, eqGuard, e])
theorem Qt_eql_ifS {t t' u : TypeId} {ms : Array (String × TypeId)} [hu : TUnd c.P t (.interface ms)] {x : Operand} {cv v : Value} (ho : o.op = .binOp .eql t x (.const cv) t') (hx : ev s x = some (.iface u v) := by exact rfl) (hy : cv = .nilIface := by exact rfl) : Qt c s L o (.bool false) :=
  Qt_of_run (by simp [ho]) (fun ρ hρ w _ => by
    subst hy
    obtain ⟨h1, h2⟩ := run_equalIn_iface (P := c.P) w 9999 t hu.h
    have e : (binOp .eql t (.iface u v) .nilIface).run c.P w = .ok (.bool false) w := by simp only [binOp]; simp [Op.equal, Op.maxDepth, (h2 _ _).1]
    simp [execOp, ho, hρ x _ hx, hρ (.const .nilIface) _ rfl, eqGuard, e])
theorem Qt_makeInterface {t : TypeId} {d : TypeDesc} [hu : TUnd c.P t d] {x : Operand} {v : Value} (ho : o.op = .makeInterface t x) (hx : ev s x = some v := by exact rfl) (hd : ∀ ms, d ≠ .interface ms := by intro ms h; cases h) : Qt c s L o (.iface t v) :=
  Qt_of_run (by simp [ho]) (fun ρ hρ w _ => by
    simp only [execOp, ho, hρ x _ hx, Instr.makeInterface, Sem.run_bind, run_underlying hu.h]
    cases d <;> first | rfl | exact absurd rfl (hd _))
theorem Qt_typeAssert {t u : TypeId} {d : TypeDesc} [hu : TUnd c.P t d] {x : Operand} {v : Value} (ho : o.op = .typeAssert x u t true) (hx : ev s x = some (.iface t v) := by exact rfl) (hd : ∀ ms, d ≠ .interface ms := by intro ms h; cases h) : Qt c s L o (.tuple #[v, .bool true]) :=
  Qt_of_run (by simp [ho]) (fun ρ hρ w _ => by
    simp only [execOp, ho, hρ x _ hx, Instr.typeAssert, Sem.run_bind, run_underlying hu.h]
    cases d <;> first | exact absurd rfl (hd _) | simp)
end
theorem Fn_enterD {P : Program} {f : FuncId} {fn : Func} {code : Code} {args : List Value} {L : List (Nat × Obj)} {R : Value → List (Nat × Obj) → Prop} {N : Nat} (hf : P.funcs[f]? = some fn) (hb : fn.body = some code) (hN : fn.ntmps = N) (hl : Nat.ble args.length N = true)
    (h : ∀ g, WC ⟨P, g, N, 0, none⟩ code (postL ⟨P, g, N, 0, none⟩ fn R (fun _ _ => False)) ⟨initS 0 args, [], L⟩) : Fn P f args L R := fun g w hm =>
  (enterL hf hb hN hl h g w hm).mono fun _ _ hE => by
    rcases hE with ⟨v, L', h1, h2, h3⟩ | ⟨v, L', _, _, h3⟩
    · exact ⟨v, L', h1, h2, h3⟩
    · exact h3.elim
section
variable {c : Cx} {o : Oper} {Kn : St → Prop} {K : Exit → St → Prop}
theorem OW_pan {s : List (Nat × Value)} {D : List Deferred} {L : List (Nat × Obj)} {f : FuncId} {args : Array Operand} {tys : Array TypeId} [hf : FCall c.P f] {vs : List Value} {R : Value → List (Nat × Obj) → Prop}
    (ho : o.op = .call { callee := .value (.func f), args := args, argTypes := tys }) (hF : FnP c.P f vs L R) (hk : ∀ v L', R v L' → K (.panic (pan v)) ⟨[], D, L'⟩) (ha : evs s args.toList = some vs := by exact rfl) : OW c o Kn K ⟨s, D, L⟩ :=
  OW_callvP (σ := ⟨s, D, L⟩) (x := .func f) (A := #[]) (B := #[]) ho rfl ha (by simpa using hF) hk
def pK (ops : Array Oper) (s : List (Nat × Value)) (K : Exit → St → Prop) : Exit → St → Prop
  | .panic ch, σ => K (.panic ch) ⟨keepS ops s, σ.D, σ.L⟩
  | e, σ => K e σ
theorem WC_regP {id : Nat} {l : List Oper} {s : List (Nat × Value)} {D : List Deferred} {L : List (Nat × Obj)} (h : WL c l.toArray l (pK l.toArray s K) ⟨s, D, L⟩) : WC c (.region id l.toArray false) K ⟨s, D, L⟩ :=
  WC_regionP (σ := ⟨s, D, L⟩) (fun e σ' he h => by cases e <;> first | exact h | exact absurd rfl (he _)) (fun ch D L h => h) h
theorem WC_drP {ops : Array Oper} {s : List (Nat × Value)} {D : List Deferred} {L : List (Nat × Obj)} {id : Nat} (m : Nat) (p : Plan) (hm : c.P.follows .mixedOrders = true)
    (hok : (Region.noSelect ops && lateOk ops m && planOk ops m p ops.size (Array.replicate ops.size false)) = true) (h : WR c ops (pK ops s K) L m p ⟨s, D, L⟩) : WC c (.region id ops true) K ⟨s, D, L⟩ := fun a w ha => by
  simp only [Bool.and_eq_true] at hok
  have ha' : Holds c.g c.N ⟨s, D, L⟩ a { w with drawn := w.drawn + 1 } := ha.mem' ha.mem.drew
  exact Go.wpIn_mono (wpIn_region_any hm (wpAnyIn_keepS _ _ _ _ (fun _ _ => rfl) (AnyH.any _ _ _ _ (WR_any hok.1.1 hok.1.2 p L ha.mem.nodup _ _ ⟨s, D, L⟩ hok.2 h a _ ha' (fun _ => ha'.mem))))) fun _ _ _ hl =>
    lift_of_panI ha (fun e σ' he h => by cases e <;> first | exact h | exact absurd rfl (he _)) (fun ch D L h => h) hl
theorem OW_def {s : List (Nat × Value)} {D : List Deferred} {L : List (Nat × Obj)} {f : FuncId} {args : Array Operand} {tys : Array TypeId} {vs : List Value} (ho : o.op = .defer { callee := .value (.func f), args := args, argTypes := tys }) (hr : c.r = none := by exact rfl) (hdst : o.dst = none := by exact rfl) (ha : evs s args.toList = some vs := by exact rfl)
    (hk : Kn ⟨s, { target := .fn (.func f) #[], args := vs.toArray } :: D, L⟩) : OW c o Kn K ⟨s, D, L⟩ := by
  refine OW_defer (σ := ⟨s, D, L⟩) (x := .func f) (A := #[]) (B := #[]) hr ho rfl ha (by rw [hdst]; rfl) ?_
  rw [hdst]
  simpa [St.put] using hk
end
theorem LeavS_one {c : Cx} {fn : Func} {s : List (Nat × Value)} {Rr Rp : Value → List (Nat × Obj) → Prop} {f : FuncId} {A : Array Value} {u : FrameMode} {L : List (Nat × Obj)} [hf : FCall c.P f] (hu : u ≠ .run) {Q : FrameMode → List (Nat × Obj) → Prop} (hD : FnD c.P f A.toList L u Q) (hk : ∀ u' L', Q u' L' → LeavS c fn s Rr Rp [] (settle u') L') : LeavS c fn s Rr Rp [{ target := .fn (.func f) #[], args := A }] u L :=
  ⟨hu, .inr ⟨f, A, #[], rfl, hf, fun g w n hm => by
    have h1 := hD g w n hm
    have e : A.toList ++ (#[] : Array Value).toList = A.toList := by simp
    rw [e]
    exact h1.mono fun _ _ _ ⟨v, L', e1, e2, e3⟩ => ⟨v, L', e1, e2, hk _ _ e3⟩⟩⟩
def meetQ (Q : St → Prop) (σ : St) : Prop := ∃ σ', Q σ' ∧ SubS σ'.s σ.s ∧ σ'.D = σ.D ∧ σ'.L.Sublist σ.L
theorem meet_next {c : Cx} {Q : St → Prop} {z : Code} {K : Exit → St → Prop} (hB : ∀ σ, Q σ → WC c z K σ) (e : Exit) (σ : St) (h : thenK (meetQ Q) K e σ) : thenK (WC c z K) K e σ := by
  cases e with
  | normal =>
    obtain ⟨σ', hQ, hs, hD, hL⟩ := h
    exact WC_lessen hs hD hL (hB σ' hQ)
  | _ => exact h
theorem WC_meet {c : Cx} {x z : Code} {K : Exit → St → Prop} {σ : St} (Q : St → Prop) (hA : WC c x (thenK (meetQ Q) K) σ) (hB : ∀ σ, Q σ → WC c z K σ) : WC c x (thenK (WC c z K) K) σ :=
  WC_mono hA (meet_next hB)
theorem WC_meet2 {c : Cx} {x y z : Code} {K : Exit → St → Prop} {σ : St} (Q : St → Prop) (hA : WC c x (thenK (WC c y (thenK (meetQ Q) K)) (thenK (meetQ Q) K)) σ) (hB : ∀ σ, Q σ → WC c z K σ) : WC c x (thenK (WC c y (thenK (WC c z K) K)) (thenK (WC c z K) K)) σ :=
  WC_mono hA fun e σ h => by
    cases e with
    | normal => exact WC_mono h (meet_next hB)
    | _ => exact h
end Go.Proofs.YtekmmhmhcpaiaaaGreat
namespace Go.Proofs.YtekmmhmhcpaiaaaGreat
open Go.RowKit
def Buf (E sz : Nat) (v : Value) (T : List (Nat × Obj)) (n : Nat) (xs : List Value) : Prop :=
  (xs = [] ∧ n = 0 ∧ v = .slice none 0 0 ∧ T = []) ∨ ∃ (g off cap : Nat) (cur : Array Value), v = .slice (some ⟨g, off, none⟩) n cap ∧ T = [(g, .cells cur E (0, 0))] ∧ Own sz cur off cap n xs
theorem Buf.nil (E sz : Nat) : Buf E sz (.slice none 0 0) [] 0 [] := .inl ⟨rfl, rfl, rfl, rfl⟩
theorem Buf.vec {E sz : Nat} {v : Value} {T : List (Nat × Obj)} {n : Nat} {xs : List Value} (h : Buf E sz v T n xs) (A B : List (Nat × Obj)) : Vec sz (A ++ (T ++ B)) v n xs := by
  rcases h with ⟨rfl, rfl, rfl, rfl⟩ | ⟨g, off, cap, cur, rfl, rfl, h⟩
  · exact Vec.nil sz _
  · exact h.vec (E := E) (fr := (0, 0)) A.length (by simp)
theorem Buf.vec0 {E sz : Nat} {v : Value} {T : List (Nat × Obj)} {n : Nat} {xs : List Value} (h : Buf E sz v T n xs) (B : List (Nat × Obj)) : Vec sz (T ++ B) v n xs := h.vec [] B
theorem Buf.len {E sz : Nat} {v : Value} {T : List (Nat × Obj)} {n : Nat} {xs : List Value} (h : Buf E sz v T n xs) : xs.length = n * sz := by
  rcases h with ⟨rfl, rfl, _, _⟩ | ⟨g, off, cap, cur, _, _, h⟩
  · simp
  · exact h.len
theorem Buf.val {E sz : Nat} {v : Value} {T : List (Nat × Obj)} {n : Nat} {xs : List Value} (h : Buf E sz v T n xs) : ∃ a cap, v = .slice a n cap ∧ n ≤ cap ∧ cap ≤ maxLen := by
  rcases h with ⟨rfl, rfl, rfl, _⟩ | ⟨g, off, cap, cur, rfl, _, h⟩
  · exact ⟨_, _, rfl, Nat.le_refl _, by simp [maxLen]⟩
  · exact ⟨_, _, rfl, h.le, h.max⟩
theorem OW.permL {c : Cx} {o : Oper} {Kn : St → Prop} {K : Exit → St → Prop} {σ : St} (h : OW c o (fun σ' => ∃ L2 : List (Nat × Obj), L2.Perm σ'.L ∧ Kn ⟨σ'.s, σ'.D, L2⟩) K σ) : OW c o Kn K σ := fun a w ha =>
  Oper.wpIn_mono (fun _ _ ⟨_, h1, _, h2, h3⟩ => ⟨_, h1.mem' (h1.mem.perm h2), h3⟩) (h a w ha)
theorem OW_append_buf {c : Cx} {o : Oper} {Kn : St → Prop} {K : Exit → St → Prop} {s : List (Nat × Value)} {D : List Deferred} {A T B : List (Nat × Obj)} {t t2 E size by_ d : Nat} {z : Array Value} {x y : Operand} [hu : TUnd c.P t (.slice E)] [hrow : TRow c.P E z size by_]
    (ho : o.op = .call { callee := .builtin .append, args := #[x, y], argTypes := #[t, t2] }) (hdst : o.dst = some d) {v y' : Value} (hx : ev s x = some v) (hy : ev s y = some y') (hd : Nat.blt d c.N = true) {n m : Nat} {xs news : List Value} (hv : Buf E size v T n xs)
    (hs : SrcL c (A ++ (T ++ B)) size t2 y' m news) (hm : 0 < m) (hmax : n + m ≤ maxLen) (hby : (n + m) * by_ ≤ 140737488355328)
    (hk : ∀ v' T', Buf E size v' T' (n + m) (xs ++ news) → Kn ⟨(d, v') :: s, D, A ++ (T' ++ B)⟩) : OW c o Kn K ⟨s, D, A ++ (T ++ B)⟩ := by
  refine OW.permL ?_
  rcases hv with ⟨rfl, rfl, rfl, rfl⟩ | ⟨g, off, cap, cur, rfl, rfl, h⟩
  · refine OW_append_new ho hdst hx hy hd (Vec.nil size _) hs (by omega) hmax hby fun b cap' cur' h' => ?_
    refine ⟨A ++ ([(b, .cells cur' E (0, 0))] ++ B), ?_, hk _ _ (.inr ⟨b, 0, cap', cur', rfl, rfl, h'⟩)⟩
    simp only [List.nil_append, List.singleton_append]
    exact List.perm_middle
  · have hi : (A ++ ([(g, Obj.cells cur E (0, 0))] ++ B))[A.length]? = some (g, .cells cur E (0, 0)) := by simp
    refine OW_append_own ho hdst hx hy hd A.length hi h hs hmax hby fun b off' cap' cur' h' => ?_
    refine ⟨_, .refl _, ?_⟩
    have e : (A ++ ([(g, Obj.cells cur E (0, 0))] ++ B)).set A.length (b, .cells cur' E (0, 0)) = A ++ ([(b, .cells cur' E (0, 0))] ++ B) := by simp
    simp only [e]
    exact hk _ _ (.inr ⟨b, off', cap', cur', rfl, rfl, h'⟩)
theorem src1 {c : Cx} {L : List (Nat × Obj)} {t2 e b E : Nat} {u : Value} [hu : TUnd c.P t2 (.slice e)] (i : Nat) (hi : L[i]? = some (b, .cells #[u] E (0, 0))) (h1 : u.oneCell' = true := by rfl) : SrcL c L 1 t2 (.slice (some ⟨b, 0, none⟩) 1 1) 1 [u] :=
  srcVec ⟨rfl, _, _, rfl, Nat.le_refl _, by decide, .inr ⟨_, _, _, _, _, i, rfl, hi, fun j x hx => by
    cases j with
    | zero => simpa using hx
    | succ j => simp at hx⟩⟩ (by intro v hv; simp at hv; subst hv; exact h1)
theorem WC_dropL {c : Cx} {code : Code} {K : Exit → St → Prop} {s : List (Nat × Value)} {D : List Deferred} {L : List (Nat × Obj)} (L' : List (Nat × Obj)) (hs : L'.Sublist L) (h : WC c code K ⟨s, D, L'⟩) : WC c code K ⟨s, D, L⟩ := WC_drop (σ := ⟨s, D, L⟩) hs h
end Go.Proofs.YtekmmhmhcpaiaaaGreat
namespace Go.Proofs.YtekmmhmhcpaiaaaGreat
open Go.RowKit
theorem QW_a {c : Cx} {s : List (Nat × Value)} {L : List (Nat × Obj)} {o : Oper} {κ : Value → Prop} {v : Value} (hk : κ v) (h : Qt c s L o v := by first
    | exact Qt_move rfl | exact Qt_assign rfl | exact Qt_nilCheck rfl | exact Qt_fieldAddr0 rfl | exact Qt_fieldAddr rfl | exact Qt_ld1B rfl | exact Qt_extract rfl
    | exact Qt_lenB rfl | exact Qt_lenSl rfl | exact Qt_eqlStr rfl | exact Qt_neqStr rfl | exact Qt_geqStr rfl | exact Qt_cat rfl | exact Qt_bin rfl | exact Qt_pick_true rfl | exact Qt_pick_false rfl | exact Qt_not rfl
    | exact Qt_indexArr0 rfl | exact Qt_indexSl0 rfl | exact Qt_indexArr rfl | exact Qt_indexSl rfl | exact Qt_convInt rfl | exact Qt_ldA rfl | exact Qt_ldN rfl
    | exact Qt_eql_nilS rfl | exact Qt_eql_nilN rfl | exact Qt_neq_nilS rfl | exact Qt_neq_nilN rfl | exact Qt_eql_ifN rfl | exact Qt_eql_ifS rfl | exact Qt_neq_ifN rfl | exact Qt_neq_ifS rfl | exact Qt_eql_bool rfl | exact Qt_neq_bool rfl
    | exact Qt_rem rfl | exact Qt_quo rfl | exact Qt_shl rfl | exact Qt_shr rfl | exact Qt_and rfl | exact Qt_or rfl | exact Qt_xor rfl | exact Qt_neg rfl | exact Qt_min rfl | exact Qt_max rfl
    | exact Qt_cutB rfl | exact Qt_cutToB rfl | exact Qt_cutFromB rfl | exact Qt_indexB rfl | exact Qt_arrFrom rfl | exact Qt_sliceL rfl | exact Qt_slTo rfl | exact Qt_slLHM rfl
    | exact Qt_str1 rfl | exact Qt_str rfl (hv := own_by0 (by with_reducible assumption)) | exact Qt_str rfl | exact Qt_buildB rfl | exact Qt_makeFunc rfl | exact Qt_makeInterface rfl | exact Qt_typeAssert rfl | exact Qt_nilCheck_fn rfl) : QW c s L o κ := ⟨v, h, hk⟩
theorem sub_mem {A B : List (Nat × Obj)} (h : A.Sublist B) : ∀ q ∈ A, q ∈ B := fun _ hq => h.subset hq
theorem RQ {P G : Prop} (h : G) (s : G → P := by first | exact fun h => WL_Q (QW_a h) | exact fun h => WL_Y (QW_a h)) : P := s h
theorem OE {P G : Prop} (h : G) (s : G → P := by first | exact fun h => OW_alloc rfl (hk := h) | exact fun h => OW_box rfl (hk := h) | exact fun h => OW_st1 rfl h | exact fun h => OW_stA rfl h | exact fun h => OW_stN rfl h | exact fun h => OW_build0 rfl (hk := h) | exact fun h => OW_build1 rfl (hk := h)) : P := s h
theorem RE {P G : Prop} (h : G) (s : G → P := by first | exact fun h => WL_op rfl (OE h) | exact fun h => WL_yes (h := OE h)) : P := s h
theorem RC {P G : Prop} (h : G) (s : G → P := by first | exact WL_nil | exact fun h => WL_un (h := h) | exact fun h => WL_N h | exact fun h => WL_M h | exact WC_seq | exact WC_block | exact fun h => WC_cond_t (ht := h) | exact fun h => WC_cond_f (he := h) | exact WC_skip | exact WC_ret | exact WC_exit) : P := s h
theorem RC0 {P G : Prop} (h : G) (s : G → P := by first | exact WL_nil | exact fun h => WL_un (h := h) | exact fun h => WL_N h | exact fun h => WL_M h | exact WC_seq | exact fun h => WC_cond_t (ht := h) | exact fun h => WC_cond_f (he := h) | exact WC_skip | exact WC_ret | exact WC_exit) : P := s h
theorem RQr {P G : Prop} (h : G) (s : G → P := by first | exact fun h => WL_Q (QW_a h) | exact fun h => WL_Y (QW_a h) | exact fun h => WR_Q rfl (QW_a h) | exact fun h => WR_late rfl rfl rfl (OW_Q (QW_a h)) | exact fun h => WR_Y rfl (QW_a h)) : P := s h
theorem RX {P G : Prop} (h : G) (s : G → P := by first | exact WL_Q | exact fun h => WR_Q rfl h | exact fun h => WR_late rfl rfl rfl (OW_Q h)) : P := s h
theorem OX {P G : Prop} (h : G) (s : G → P := by first | exact fun h => WL_op rfl h | exact fun h => WR_late rfl rfl rfl h | exact fun h => WR_opG rfl rfl h) : P := s h
theorem WG (id : Nat) {c : Cx} {l : List Oper} {K : Exit → St → Prop} {σ : St} (h : WL c l.toArray l K σ) : WC c (.region id l.toArray false) K σ := WC_region h
theorem RU {P G : Prop} (h : G) (s : G → P := by first | exact WR_nil | exact fun h => WR_un rfl (hk := h) | exact fun h => WR_N rfl h | exact fun h => WR_M rfl h | exact fun h => WR_skN rfl (h := h) | exact fun h => WR_skM rfl (h := h) | exact fun h => WR_skU rfl (h := h)) : P := s h
theorem SD {A B : List (Nat × Obj)} {G : Prop} (h : G) (s : ∀ q ∈ A, q ∈ B := by first | exact fun _ h => h | exact sub_mem (by repeat (first | exact .refl _ | exact List.nil_sublist _ | exact List.sublist_append_right _ _ | exact List.Sublist.append (.refl _) (List.sublist_append_right _ _) | apply List.Sublist.cons_cons | apply List.Sublist.cons))) : (∀ q ∈ A, q ∈ B) ∧ G := ⟨s, h⟩
theorem WC_regB {c : Cx} (n : Nat) {id : Nat} {l : List Oper} {K : Exit → St → Prop} {σ : St} (h : WL c l.toArray l K σ) (_hb : Nat.blt id n = true := by exact rfl) : WC c (.region id l.toArray false) K σ := WC_region h
end Go.Proofs.YtekmmhmhcpaiaaaGreat
namespace Go.Proofs.YtekmmhmhcpaiaaaGreat
open Go.RowKit
theorem part1 {P : Program} {t : TypeId} [ha : TAgg P t false] {xs : Array Value} {off : Nat} {v : Value} (h : xs[off]? = some v) (w : World) : (part t xs off).run P w = .ok v w := by
  simp [part, ha.h, h]
theorem partN {P : Program} {t n : Nat} [ha : TAgg P t true] [hs : TSize P t n] {xs : Array Value} {off : Nat} (w : World) : (part t xs off).run P w = .ok (.agg (xs.extract off (off + n))) w := by
  simp [part, ha.h, hs.h]
section
variable {c : Cx} {s : List (Nat × Value)} {L : List (Nat × Obj)} {o : Oper}
theorem Qt_fieldV {t i off ft n : Nat} [hf : TFld c.P t i off ft n] [ha : TAgg c.P ft false] {x : Operand} {cs : Array Value} {v : Value} (ho : o.op = .field t x i) (hx : ev s x = some (.agg cs) := by exact rfl) (hv : cs[off]? = some v := by first | with_reducible assumption | rfl | assumption) : Qt c s L o v :=
  Qt_of_run (by simp [ho]) (fun ρ hρ w _ => by
    obtain ⟨fs, f, h1, h2, h3, h4, h5, h6⟩ := hf.h
    subst h3 h4
    have h := part1 (P := c.P) (t := f.type) (xs := cs) (off := f.offset) hv w
    simp [execOp, ho, hρ x _ hx, Instr.field, run_underlying h1, h2, asAgg, h])
end
end Go.Proofs.YtekmmhmhcpaiaaaGreat
