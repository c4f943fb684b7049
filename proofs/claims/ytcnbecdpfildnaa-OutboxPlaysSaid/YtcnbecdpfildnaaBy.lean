/-
  Slices and texts in general forms, as steps of the symbolic execution. It proves no statement by itself. It holds for every program.
-/
import Derived.Test.YtcnbecdpfildnaaEm
namespace Go.Proofs.Ytcnbecdpfildnaa
open Go.RowKit

/-! ### whole numbers -/
theorem wI64 {x : Int} (h1 : -9223372036854775808 ≤ x) (h2 : x < 9223372036854775808) : IntKind.i64.wrap x = x := by
  rw [IntKind.wrap_i64]; omega
theorem wU64 {x : Int} (h1 : 0 ≤ x) (h2 : x < 18446744073709551616) : IntKind.u64.wrap x = x := by
  simp only [IntKind.wrap, IntKind.bits, IntKind.signed]
  simp; omega
theorem wU8 {x : Int} (h1 : 0 ≤ x) (h2 : x < 256) : IntKind.u8.wrap x = x := by
  simp only [IntKind.wrap, IntKind.bits, IntKind.signed]
  simp; omega
theorem wU8_mod (x : Int) : IntKind.u8.wrap x = x % 256 := by
  simp [IntKind.wrap, IntKind.bits, IntKind.signed]
theorem wU64_mod (x : Int) : IntKind.u64.wrap x = x % 18446744073709551616 := by
  simp [IntKind.wrap, IntKind.bits, IntKind.signed]

theorem u64_lo (x : Int) : 0 ≤ IntKind.u64.wrap x := by rw [wU64_mod]; omega
theorem u64_hi (x : Int) : IntKind.u64.wrap x < 18446744073709551616 := by rw [wU64_mod]; omega
theorem i64_lo (x : Int) : -9223372036854775808 ≤ IntKind.i64.wrap x := by rw [IntKind.wrap_i64]; omega
theorem i64_hi (x : Int) : IntKind.i64.wrap x < 9223372036854775808 := by rw [IntKind.wrap_i64]; omega
theorem u8_lo (x : Int) : 0 ≤ IntKind.u8.wrap x := by rw [wU8_mod]; omega
theorem u8_hi (x : Int) : IntKind.u8.wrap x < 256 := by rw [wU8_mod]; omega
section
variable {c : Cx} {s : List (Nat × Value)} {L : List (Nat × Obj)} {o : Oper}
theorem Qt_shl {t t' : TypeId} {x y : Operand} {k k' : IntKind} {a b : Int} (ho : o.op = .binOp .shl t x y t') (hx : ev s x = some (.int k a) := by exact rfl) (hy : ev s y = some (.int k' b) := by exact rfl) (hb : 0 ≤ b := by decide) : Qt c s L o (.int k (k.wrap (a * 2 ^ (min b.toNat k.bits)))) :=
  Qt_binW ho hx hy (by simp [binW, hb])
theorem Qt_shr {t t' : TypeId} {x y : Operand} {k k' : IntKind} {a b : Int} (ho : o.op = .binOp .shr t x y t') (hx : ev s x = some (.int k a) := by exact rfl) (hy : ev s y = some (.int k' b) := by exact rfl) (hb : 0 ≤ b := by decide) : Qt c s L o (.int k (a.fdiv (2 ^ (min b.toNat k.bits)))) :=
  Qt_binW ho hx hy (by simp [binW, hb])
theorem Qt_and {t t' : TypeId} {x y : Operand} {k : IntKind} {a b : Int} (ho : o.op = .binOp .and t x y t') (hx : ev s x = some (.int k a) := by exact rfl) (hy : ev s y = some (.int k b) := by exact rfl) : Qt c s L o (.int k (k.wrap (BitVec.ofInt k.bits a &&& BitVec.ofInt k.bits b).toNat)) :=
  Qt_binW ho hx hy (by simp [binW])
theorem Qt_or {t t' : TypeId} {x y : Operand} {k : IntKind} {a b : Int} (ho : o.op = .binOp .or t x y t') (hx : ev s x = some (.int k a) := by exact rfl) (hy : ev s y = some (.int k b) := by exact rfl) : Qt c s L o (.int k (k.wrap (BitVec.ofInt k.bits a ||| BitVec.ofInt k.bits b).toNat)) :=
  Qt_binW ho hx hy (by simp [binW])
theorem Qt_xor {t t' : TypeId} {x y : Operand} {k : IntKind} {a b : Int} (ho : o.op = .binOp .xor t x y t') (hx : ev s x = some (.int k a) := by exact rfl) (hy : ev s y = some (.int k b) := by exact rfl) : Qt c s L o (.int k (k.wrap (BitVec.ofInt k.bits a ^^^ BitVec.ofInt k.bits b).toNat)) :=
  Qt_binW ho hx hy (by simp [binW])
end

/-! ### texts as lists of bytes -/
/-- A byte's cell. -/
def bV (u : UInt8) : Value := .int .u8 (u.toNat : Int)
/-- A text of a list. -/
def bstr (l : List UInt8) : ByteArray := ⟨l.toArray⟩
theorem bstr_size (l : List UInt8) : (bstr l).size = l.length := by simp [bstr, ByteArray.size]
theorem bstr_append (a b : List UInt8) : bstr a ++ bstr b = bstr (a ++ b) := by
  apply ByteArray.ext
  simp [bstr, ByteArray.data_append]
theorem bstr_of (s : ByteArray) : s = bstr s.data.toList := by
  apply ByteArray.ext
  simp [bstr]
theorem toList_bstr (l : List UInt8) : (bstr l).toList = l := by
  rw [ByteArray.toList_eq]; simp [bstr]
theorem bstr_get (l : List UInt8) (i : Nat) (h : i < l.length) : (bstr l)[i]'(by rw [bstr_size]; exact h) = l[i] := by
  simp [bstr, ByteArray.getElem_eq_getElem_data]
theorem bstr_extract (l : List UInt8) (a b : Nat) : (bstr l).extract a b = bstr ((l.take b).drop a) := by
  apply ByteArray.ext
  rw [ByteArray.data_extract]
  apply Array.ext'
  simp [bstr, List.drop_take, List.extract_eq_take_drop]

section
variable {c : Cx} {s : List (Nat × Value)} {L : List (Nat × Obj)} {o : Oper}
theorem Qt_cat {t t' : TypeId} {x y : Operand} {a b : List UInt8} (ho : o.op = .binOp .add t x y t') (hx : ev s x = some (.string (bstr a)) := by exact rfl) (hy : ev s y = some (.string (bstr b)) := by exact rfl) (hs : a.length + b.length ≤ 4611686018427387904 := by first | with_reducible assumption | omega | (simp; omega)) : Qt c s L o (.string (bstr (a ++ b))) :=
  Qt_binW ho hx hy (by
    rw [← bstr_append]
    simp only [binW, bstr_size]
    rw [if_neg (by rw [show IntKind.i64.max = 9223372036854775807 from rfl]; omega)])
theorem Qt_eqlStr {t t' : TypeId} {x y : Operand} {a b : List UInt8} (ho : o.op = .binOp .eql t x y t') (hx : ev s x = some (.string (bstr a)) := by exact rfl) (hy : ev s y = some (.string (bstr b)) := by exact rfl) : Qt c s L o (.bool (a == b)) :=
  Qt_binW ho hx hy (by simp [binW, toList_bstr])
theorem Qt_neqStr {t t' : TypeId} {x y : Operand} {a b : List UInt8} (ho : o.op = .binOp .neq t x y t') (hx : ev s x = some (.string (bstr a)) := by exact rfl) (hy : ev s y = some (.string (bstr b)) := by exact rfl) : Qt c s L o (.bool (!(a == b))) :=
  Qt_binW ho hx hy (by simp [binW, toList_bstr])
theorem Qt_geqStr {t t' : TypeId} {x y : Operand} {a b : List UInt8} (ho : o.op = .binOp .geq t x y t') (hx : ev s x = some (.string (bstr a)) := by exact rfl) (hy : ev s y = some (.string (bstr b)) := by exact rfl) : Qt c s L o (.bool (!(Op.bytesLess a b))) :=
  Qt_binW ho hx hy (by simp [binW, toList_bstr])
theorem Qt_lenB {t : TypeId} [hu : TUnd c.P t .string] {x : Operand} {l : List UInt8} (ho : o.op = .call { callee := .builtin .len, args := #[x], argTypes := #[t] }) (hx : ev s x = some (.string (bstr l)) := by exact rfl) : Qt c s L o (.int .i64 l.length) := by
  have := Qt_lenStr (c := c) (s := s) (L := L) (o := o) ho hx
  rwa [bstr_size] at this
theorem Qt_indexB {t : TypeId} [hu : TUnd c.P t .string] {x y : Operand} {l : List UInt8} {k : IntKind} {i : Int} {u : UInt8} (ho : o.op = .index t x y) (hx : ev s x = some (.string (bstr l)) := by exact rfl) (hy : ev s y = some (.int k i) := by exact rfl)
    (h0 : 0 ≤ i := by first | with_reducible assumption | decide | omega) (h1 : l[i.toNat]? = some u := by first | with_reducible assumption | rfl | (simp; done)) : Qt c s L o (bV u) :=
  Qt_of_run (by simp [ho]) (fun ρ hρ w _ => by
    obtain ⟨hlt, he⟩ := List.getElem?_eq_some_iff.1 h1
    have h3 : 0 ≤ i ∧ i < (bstr l).size := ⟨h0, by rw [bstr_size]; omega⟩
    have h2 := run_index_string (P := c.P) w t (bstr l) k i hu.h
    rw [dif_pos h3, bstr_get l _ hlt, he] at h2
    simp only [execOp, ho, hρ x _ hx, hρ y _ hy, Sem.run_bind, h2, Result.andThen]
    rfl)
theorem Qt_cutB {t : TypeId} [hu : TUnd c.P t .string] {x lo hi : Operand} {l : List UInt8} {k k' : IntKind} {i j : Int} (ho : o.op = .slice t x (some lo) (some hi) none) (hx : ev s x = some (.string (bstr l)) := by exact rfl) (hl : ev s lo = some (.int k i) := by exact rfl) (hh : ev s hi = some (.int k' j) := by exact rfl)
    (h0 : 0 ≤ i := by first | with_reducible assumption | decide | omega) (h1 : i ≤ j := by first | with_reducible assumption | decide | omega) (h2 : j ≤ l.length := by first | with_reducible assumption | decide | omega) : Qt c s L o (.string (bstr ((l.take j.toNat).drop i.toNat))) :=
  Qt_of_run (by simp [ho]) (fun ρ hρ w _ => by
    rw [← bstr_extract]
    have h2' : j ≤ ((bstr l).size : Int) := by rw [bstr_size]; exact h2
    have ej : (j.toNat : Int) = j := Int.toNat_of_nonneg (by omega)
    simp [execOp, ho, hρ x _ hx, hρ lo _ hl, hρ hi _ hh, Instr.sliceAt, run_underlying hu.h, Instr.slice, Instr.sliceBounds, Instr.sliceBound, asIntOf, h0, h1, h2', ej, show 0 ≤ j by omega])
theorem Qt_cutToB {t : TypeId} [hu : TUnd c.P t .string] {x hi : Operand} {l : List UInt8} {k' : IntKind} {j : Int} (ho : o.op = .slice t x none (some hi) none) (hx : ev s x = some (.string (bstr l)) := by exact rfl) (hh : ev s hi = some (.int k' j) := by exact rfl)
    (h1 : 0 ≤ j := by first | with_reducible assumption | decide | omega) (h2 : j ≤ l.length := by first | with_reducible assumption | decide | omega) : Qt c s L o (.string (bstr (l.take j.toNat))) :=
  Qt_of_run (by simp [ho]) (fun ρ hρ w _ => by
    have e := bstr_extract l 0 j.toNat
    rw [List.drop_zero] at e
    rw [← e]
    have h2' : j ≤ ((bstr l).size : Int) := by rw [bstr_size]; exact h2
    have ej : (j.toNat : Int) = j := Int.toNat_of_nonneg (by omega)
    simp [execOp, ho, hρ x _ hx, hρ hi _ hh, Instr.sliceAt, run_underlying hu.h, Instr.slice, Instr.sliceBounds, Instr.sliceBound, asIntOf, h1, h2'])
theorem Qt_cutFromB {t : TypeId} [hu : TUnd c.P t .string] {x lo : Operand} {l : List UInt8} {k : IntKind} {i : Int} (ho : o.op = .slice t x (some lo) none none) (hx : ev s x = some (.string (bstr l)) := by exact rfl) (hl : ev s lo = some (.int k i) := by exact rfl)
    (h0 : 0 ≤ i := by first | with_reducible assumption | decide | omega) (h1 : i ≤ l.length := by first | with_reducible assumption | decide | omega) : Qt c s L o (.string (bstr (l.drop i.toNat))) :=
  Qt_of_run (by simp [ho]) (fun ρ hρ w _ => by
    have e := bstr_extract l i.toNat l.length
    rw [List.take_length] at e
    rw [← e]
    simp [execOp, ho, hρ x _ hx, hρ lo _ hl, Instr.sliceAt, run_underlying hu.h, Instr.slice, Instr.sliceBounds, Instr.sliceBound, asIntOf, h0, h1, bstr_size])
end

/-! ### slices that are read -/
/-- v is a slice of n elements, of sz cells each; xs are its cells. -/
def Vec (sz : Nat) (L : List (Nat × Obj)) (v : Value) (n : Nat) (xs : List Value) : Prop :=
  xs.length = n * sz ∧ ∃ a cap, v = .slice a n cap ∧ n ≤ cap ∧ cap ≤ maxLen ∧ (n = 0 ∨ ∃ (b off : Nat) (cs : Array Value) (E : TypeId) (fr : Nat × Nat) (i : Nat), a = some ⟨b, off, none⟩ ∧ L[i]? = some (b, Obj.cells cs E fr) ∧ ∀ j x, xs[j]? = some x → cs[off + j]? = some x)

theorem Vec.mono {sz : Nat} {L L' : List (Nat × Obj)} {v : Value} {n : Nat} {xs : List Value} (h : Vec sz L v n xs) (hs : ∀ (i : Nat) (p : Nat × Obj), L[i]? = some p → ∃ j : Nat, L'[j]? = some p) : Vec sz L' v n xs := by
  obtain ⟨h1, a, cap, h2, h3, h4, h5⟩ := h
  refine ⟨h1, a, cap, h2, h3, h4, ?_⟩
  rcases h5 with h5 | ⟨b, off, cs, E, fr, i, e1, e2, e3⟩
  · exact .inl h5
  · obtain ⟨j, hj⟩ := hs i _ e2
    exact .inr ⟨b, off, cs, E, fr, j, e1, hj, e3⟩
theorem Vec.cons {sz : Nat} {L : List (Nat × Obj)} {v : Value} {n : Nat} {xs : List Value} (p : Nat × Obj) (h : Vec sz L v n xs) : Vec sz (p :: L) v n xs := h.mono fun i _ hi => ⟨i + 1, hi⟩
theorem Vec.app {sz : Nat} {L : List (Nat × Obj)} {v : Value} {n : Nat} {xs : List Value} (A : List (Nat × Obj)) (h : Vec sz L v n xs) : Vec sz (A ++ L) v n xs := h.mono fun i _ hi => ⟨A.length + i, by rw [List.getElem?_append_right (by omega), show A.length + i - A.length = i by omega]; exact hi⟩
theorem Vec.left {sz : Nat} {L : List (Nat × Obj)} {v : Value} {n : Nat} {xs : List Value} (A : List (Nat × Obj)) (h : Vec sz L v n xs) : Vec sz (L ++ A) v n xs := h.mono fun i _ hi => ⟨i, by rw [List.getElem?_append_left (List.getElem?_eq_some_iff.1 hi).1]; exact hi⟩
theorem Vec.nil (sz : Nat) (L : List (Nat × Obj)) : Vec sz L (.slice none 0 0) 0 [] := ⟨by simp, none, 0, rfl, by omega, by simp [maxLen], .inl rfl⟩

theorem Vec.shrink {sz : Nat} {L : List (Nat × Obj)} {a : Option Addr} {n cap : Nat} {xs : List Value} (h : Vec sz L (.slice a n cap) n xs) {cap' : Nat} (hc : n ≤ cap') (hm : cap' ≤ cap := by omega) : Vec sz L (.slice a n cap') n xs := by
  obtain ⟨h1, a', c', h2, h3, h4, h5⟩ := h
  simp only [Value.slice.injEq] at h2
  obtain ⟨rfl, _, rfl⟩ := h2
  exact ⟨h1, a, cap', rfl, hc, by omega, h5⟩
/-- A slice of bytes that is read. -/
def ByAt (L : List (Nat × Obj)) (v : Value) (l : List UInt8) : Prop := Vec 1 L v l.length (l.map bV)
theorem ByAt.cons {L : List (Nat × Obj)} {v : Value} {l : List UInt8} (p : Nat × Obj) (h : ByAt L v l) : ByAt (p :: L) v l := Vec.cons p h
theorem ByAt.app {L : List (Nat × Obj)} {v : Value} {l : List UInt8} (A : List (Nat × Obj)) (h : ByAt L v l) : ByAt (A ++ L) v l := Vec.app A h
theorem ByAt.nil (L : List (Nat × Obj)) : ByAt L (.slice none 0 0) [] := Vec.nil 1 L

theorem ByAt.take {L : List (Nat × Obj)} {a : Option Addr} {cap : Nat} {l : List UInt8} (h : ByAt L (.slice a l.length cap) l) (n : Nat) : ByAt L (.slice a (l.take n).length cap) (l.take n) := by
  obtain ⟨h1, a', cap', h2, h3, h4, h5⟩ := h
  simp only [Value.slice.injEq] at h2
  obtain ⟨rfl, _, rfl⟩ := h2
  refine ⟨by simp, a, cap, rfl, by rw [List.length_take]; omega, h4, ?_⟩
  rcases h5 with h5 | ⟨b, off, cs, E, fr, i, e1, e2, e3⟩
  · left; rw [List.length_take]; omega
  · refine .inr ⟨b, off, cs, E, fr, i, e1, e2, fun j x hx => e3 j x ?_⟩
    rw [List.map_take, List.getElem?_take] at hx
    split at hx
    · exact hx
    · cases hx
/-- The cells behind a slice's address. -/
theorem Vec.cells {sz : Nat} {L : List (Nat × Obj)} {a : Option Addr} {n n' cap : Nat} {xs : List Value} (h : Vec sz L (.slice a n' cap) n xs) {g w : World} (hm : Mem g L w) : (∃ a', a = some a' ∧ ∀ j x, xs[j]? = some x → w.cell? (a'.add j) = some x) ∨ (n = 0 ∧ xs = []) := by
  obtain ⟨h1, a', cap', h2, h3, h4, h5⟩ := h
  simp only [Value.slice.injEq] at h2
  obtain ⟨rfl, rfl, rfl⟩ := h2
  rcases h5 with h5 | ⟨b, off, cs, E, fr, i, e1, e2, e3⟩
  · right
    subst h5
    exact ⟨rfl, List.eq_nil_of_length_eq_zero (by omega)⟩
  · left
    refine ⟨_, e1, fun j x hj => ?_⟩
    rw [Addr.add_mid, cell_of_row w b (off + j) cs E fr (hm.at_ e2)]
    exact e3 j x hj

theorem Vec.first {P : Program} {sz : Nat} {L : List (Nat × Obj)} {a : Option Addr} {n cap : Nat} {xs : List Value} (h : Vec sz L (.slice a n cap) n xs) {g w : World} (hm : Mem g L w) (cap' : Nat) : (Builtin.firstCells sz n (.slice a n cap')).run P w = .ok xs.toArray w := by
  have hl := h.1
  rcases h.cells hm with ⟨a', rfl, h2⟩ | ⟨rfl, rfl⟩
  · exact run_firstCells_some w sz n a' n cap' xs hl h2
  · cases a with
    | none => exact run_firstCells_none w sz 0 0 cap'
    | some a => exact run_firstCells_some w sz 0 a 0 cap' [] (by simp) (fun j x hj => by simp at hj)

section
variable {c : Cx} {s : List (Nat × Value)} {L : List (Nat × Obj)} {o : Oper}
theorem Qt_str {t t' e : TypeId} [hu : TUnd c.P t (.slice e)] [hu' : TUnd c.P t' .string] [he : TUnd c.P e (.int .u8)] {x : Operand} {v : Value} {l : List UInt8} (ho : o.op = .convert t t' x) (hx : ev s x = some v := by exact rfl)
    (hv : ByAt L v l := by repeat (first | with_reducible assumption | apply ByAt.cons)) : Qt c s L o (.string (bstr l)) :=
  Qt_of_run (by simp [ho]) (fun ρ hρ w hm => by
    have hv' := hv
    obtain ⟨h1, a, cap, rfl, h3, h4, _⟩ := hv
    have hb := run_convert_bytes_string (P := c.P) w t t' e a l.length cap hu.h he.h hu'.h
    rcases Vec.cells hv' hm with ⟨a', rfl, h2⟩ | ⟨h5, h6⟩
    · have hl := run_loadCells_list (P := c.P) w a' ((l.map fun u => (u.toNat : Int)).map (Value.int .u8)) (fun j v hv => h2 j v (by simpa [bV, List.map_map, Function.comp_def] using hv))
      have hs := run_bytesToString (P := c.P) w a' l.length cap (l.map fun u => (u.toNat : Int)) (by simpa using hl)
      rw [foldl_push_byteCells] at hs
      simp [execOp, ho, hρ x _ hx, hb, hs, bstr]
    · have hl : l = [] := List.eq_nil_of_length_eq_zero h5
      subst hl
      simp only [List.length_nil] at hb
      cases a with
      | none => simp [execOp, ho, hρ x _ hx, hb, Conv.bytesToString, bstr]; rfl
      | some a =>
        have hl := run_loadCells_list (P := c.P) w a [] (by simp)
        have hs := run_bytesToString (P := c.P) w a 0 cap [] (by simpa using hl)
        simp [execOp, ho, hρ x _ hx, hb, hs, bstr]; rfl)
/-- A text of one byte. -/
theorem Qt_str1 {t t' e : TypeId} [hu : TUnd c.P t (.slice e)] [hu' : TUnd c.P t' .string] [he : TUnd c.P e (.int .u8)] {x : Operand} {b E cap : Nat} {fr : Nat × Nat} {n : Int} (ho : o.op = .convert t t' x) (hx : ev s x = some (.slice (some ⟨b, 0, none⟩) 1 cap) := by exact rfl)
    (hi : ∃ i : Nat, L[i]? = some (b, .cells #[.int .u8 n] E fr) := by first | exact ⟨0, rfl⟩ | exact ⟨1, rfl⟩ | exact ⟨2, rfl⟩ | exact ⟨3, rfl⟩) : Qt c s L o (.string (bstr [UInt8.ofNat n.toNat])) :=
  Qt_of_run (by simp [ho]) (fun ρ hρ w hm => by
    obtain ⟨i, hi⟩ := hi
    have hb := run_convert_bytes_string (P := c.P) w t t' e (some ⟨b, 0, none⟩) 1 cap hu.h he.h hu'.h
    have hl := run_loadCells_list (P := c.P) w ⟨b, 0, none⟩ ([n].map (Value.int .u8)) (fun j v hv => by
      rw [Addr.add_mid, cell_of_row w b (0 + j) _ E fr (hm.at_ hi)]
      cases j with
      | zero => simpa using hv
      | succ j => simp at hv)
    have hs := run_bytesToString (P := c.P) w ⟨b, 0, none⟩ 1 cap [n] (by simpa using hl)
    simp [execOp, ho, hρ x _ hx, hb, hs, bstr]
    rfl)
theorem Qt_slLHM {t E n : Nat} [hu : TUnd c.P t (.slice E)] [hs : TSize c.P E n] {x hi mx : Operand} {a : Option Addr} {len cap : Nat} {k k' : IntKind} {h m : Int} (ho : o.op = .slice t x none (some hi) (some mx)) (hx : ev s x = some (.slice a len cap) := by exact rfl) (hh : ev s hi = some (.int k h) := by exact rfl) (hm : ev s mx = some (.int k' m) := by exact rfl)
    (h0 : 0 ≤ h := by first | with_reducible assumption | decide | omega) (h1 : h ≤ m := by first | with_reducible assumption | exact Int.le_refl _ | omega) (h2 : m ≤ cap := by first | with_reducible assumption | omega) : Qt c s L o (.slice a h.toNat m.toNat) :=
  Qt_of_run (by simp [ho]) (fun ρ hρ w _ => by
    have hut : c.P.underlying t = some (.slice (c.P.elem t)) := by rw [elem_of hu.h]; exact hu.h
    have h3 := run_slice_hm (P := c.P) w t a len cap hut k k' h m h0 h1 h2
    rw [elem_of hu.h, hs.h] at h3
    have h4 := run_sliceAt_slice (P := c.P) w t (.slice a len cap) none (some (.int k h)) (some (.int k' m)) hut
    have h5 : sliced a 0 h.toNat m.toNat n = .slice a h.toNat m.toNat := by
      unfold sliced
      cases a <;> simp [Addr.add]
    simp only [Result.andThen, h5] at h3
    simp [execOp, ho, hρ x _ hx, hρ hi _ hh, hρ mx _ hm, h4, h3])
theorem Qt_slTo {t E n : Nat} [hu : TUnd c.P t (.slice E)] [hs : TSize c.P E n] {x hi : Operand} {a : Option Addr} {len cap : Nat} {k : IntKind} {h : Int} (ho : o.op = .slice t x none (some hi) none) (hx : ev s x = some (.slice a len cap) := by exact rfl) (hh : ev s hi = some (.int k h) := by exact rfl)
    (h0 : 0 ≤ h := by first | with_reducible assumption | decide | omega) (h2 : h ≤ cap := by first | with_reducible assumption | omega) : Qt c s L o (.slice a h.toNat cap) :=
  Qt_of_run (by simp [ho]) (fun ρ hρ w _ => by
    have hut : c.P.underlying t = some (.slice (c.P.elem t)) := by rw [elem_of hu.h]; exact hu.h
    have h3 := run_slice_h (P := c.P) w t a len cap hut k h h0 h2
    rw [elem_of hu.h, hs.h] at h3
    have h4 := run_sliceAt_slice (P := c.P) w t (.slice a len cap) none (some (.int k h)) none hut
    have h5 : sliced a 0 h.toNat cap n = .slice a h.toNat cap := by
      unfold sliced
      cases a <;> simp [Addr.add]
    simp only [Result.andThen, h5] at h3
    simp [execOp, ho, hρ x _ hx, hρ hi _ hh, h4, h3])
theorem Qt_arrFrom {t E n len : Nat} [hu : TUnd c.P t (.array len E)] [hs : TSize c.P E n] {x lo : Operand} {b off : Nat} {k : IntKind} {l : Int} (ho : o.op = .slice t x (some lo) none none) (hx : ev s x = some (.pointer (some ⟨b, off, none⟩)) := by exact rfl) (hl : ev s lo = some (.int k l) := by exact rfl)
    (h0 : 0 ≤ l := by first | with_reducible assumption | decide | omega) (h1 : l ≤ len := by first | with_reducible assumption | decide | omega) : Qt c s L o (.slice (some ⟨b, slOff len l.toNat off n, none⟩) (len - l.toNat) (len - l.toNat)) :=
  Qt_of_run (by simp [ho]) (fun ρ hρ w _ => by
    have el : (l.toNat : Int) = l := Int.toNat_of_nonneg h0
    have : l.toNat ≤ len := by omega
    simp [execOp, ho, hρ x _ hx, hρ lo _ hl, Instr.sliceAt, Instr.sureAddr, run_underlying hu.h, Instr.sliceBounds, Instr.sliceBound, asIntOf, h0, h1, hs.h, slOff, Addr.add_mid]
    split <;> simp)

theorem Qt_min {t t2 : TypeId} {x y : Operand} {k : IntKind} {a b : Int} (ho : o.op = .call { callee := .builtin .min, args := #[x, y], argTypes := #[t, t2] }) (hx : ev s x = some (.int k a) := by exact rfl) (hy : ev s y = some (.int k b) := by exact rfl) : Qt c s L o (.int k (if b < a then b else a)) :=
  Qt_of_run (by simp [ho]) (fun ρ hρ w _ => by
    simp [execOp, ho, resolve, invoke, builtin, hρ x _ hx, hρ y _ hy, Builtin.min_, Builtin.min2])
theorem Qt_max {t t2 : TypeId} {x y : Operand} {k : IntKind} {a b : Int} (ho : o.op = .call { callee := .builtin .max, args := #[x, y], argTypes := #[t, t2] }) (hx : ev s x = some (.int k a) := by exact rfl) (hy : ev s y = some (.int k b) := by exact rfl) : Qt c s L o (.int k (if b > a then b else a)) :=
  Qt_of_run (by simp [ho]) (fun ρ hρ w _ => by
    simp [execOp, ho, resolve, invoke, builtin, hρ x _ hx, hρ y _ hy, Builtin.max_, Builtin.max2])
end

/-! ### slices of one's own -/
/-- The cells cur hold, from off on, n elements of sz cells each (xs), in a room of cap. -/
structure Own (sz : Nat) (cur : Array Value) (off cap n : Nat) (xs : List Value) : Prop where
  len : xs.length = n * sz
  le : n ≤ cap
  max : cap ≤ maxLen
  fit : off + cap * sz ≤ cur.size
  at_ : ∀ j x, xs[j]? = some x → cur[off + j]? = some x

theorem Own.vec {sz : Nat} {cur : Array Value} {off cap n : Nat} {xs : List Value} (h : Own sz cur off cap n xs) {L : List (Nat × Obj)} {b E : Nat} {fr : Nat × Nat} (i : Nat) (hi : L[i]? = some (b, .cells cur E fr)) : Vec sz L (.slice (some ⟨b, off, none⟩) n cap) n xs :=
  ⟨h.len, _, _, rfl, h.le, h.max, .inr ⟨b, off, cur, E, fr, i, rfl, hi, h.at_⟩⟩

theorem Own.extract {sz : Nat} {cur : Array Value} {off cap n : Nat} {xs : List Value} (h : Own sz cur off cap n xs) : cur.extract off (off + n * sz) = xs.toArray := by
  have hl := h.len
  have hf := h.fit
  have hle : n * sz ≤ cap * sz := Nat.mul_le_mul_right _ h.le
  apply Array.ext_getElem?
  intro j
  rw [Array.getElem?_extract]
  by_cases hj : j < n * sz
  · rw [if_pos (by omega)]
    have := h.at_ j (xs[j]'(by omega)) (List.getElem?_eq_getElem (by omega))
    rw [this]; simp [hl, hj]
  · rw [if_neg (by omega)]; simp; omega

theorem Own.of_extract {sz : Nat} {cur : Array Value} {off cap n : Nat} {xs : List Value} (hl : xs.length = n * sz) (hle : n ≤ cap) (hm : cap ≤ maxLen) (hf : off + cap * sz ≤ cur.size) (he : cur.extract off (off + n * sz) = xs.toArray) : Own sz cur off cap n xs := by
  refine ⟨hl, hle, hm, hf, fun j x hx => ?_⟩
  have hj := (List.getElem?_eq_some_iff.1 hx).1
  have hle' : n * sz ≤ cap * sz := Nat.mul_le_mul_right _ hle
  have h1 : (cur.extract off (off + n * sz))[j]? = some x := by rw [he]; simpa using hx
  rw [Array.getElem?_extract, if_pos (by omega)] at h1
  exact h1

theorem own_by0 {L : List (Nat × Obj)} {cur : Array Value} {off cap b E : Nat} {fr : Nat × Nat} {l : List UInt8} (h : Own 1 cur off cap l.length (l.map bV)) : ByAt ((b, .cells cur E fr) :: L) (.slice (some ⟨b, off, none⟩) l.length cap) l := h.vec 0 rfl
/-- What an append's second argument yields, wherever memory holds L. -/
def SrcL (c : Cx) (L : List (Nat × Obj)) (sz : Nat) (t2 : TypeId) (y : Value) (m : Nat) (news : List Value) : Prop := ∀ w, Mem c.g L w → Src c.P sz t2 y m news w

theorem srcVec {c : Cx} {L : List (Nat × Obj)} {sz t2 e m : Nat} {y : Value} {news : List Value} [hu : TUnd c.P t2 (.slice e)] (h : Vec sz L y m news) (h1 : ∀ u ∈ news, u.oneCell' = true) : SrcL c L sz t2 y m news := fun w hm => by
  have h' := h
  obtain ⟨hl, a, cap, rfl, _⟩ := h
  rcases Vec.cells h' hm with ⟨a', rfl, h2⟩ | ⟨rfl, rfl⟩
  · exact Src.ofSlice w hu.h a' m cap news hl h2 h1
  · cases a with
    | none => exact Src.ofNil w hu.h cap
    | some a => exact Src.ofSlice w hu.h a 0 cap [] (by simp) (fun j u hj => by simp at hj) (fun u hu => by cases hu)
theorem srcStr {c : Cx} {L : List (Nat × Obj)} {t2 : Nat} {l : List UInt8} [hu : TUnd c.P t2 .string] : SrcL c L 1 t2 (.string (bstr l)) l.length (l.map bV) := fun w _ => by
  have := Src.ofString (P := c.P) w (tx := t2) hu.h (bstr l)
  rw [bstr_size] at this
  have e : byteCells (bstr l) = l.map bV := by simp [byteCells, bstr, bV]
  rwa [e] at this

/-- 'append(x, y...)', x a slice without room, y not empty: a new block. -/
theorem OW_append_new {c : Cx} {o : Oper} {Kn : St → Prop} {K : Exit → St → Prop} {s : List (Nat × Value)} {D : List Deferred} {L : List (Nat × Obj)} {t t2 E size by_ d : Nat} {z : Array Value} {x y : Operand} [hu : TUnd c.P t (.slice E)] [hrow : TRow c.P E z size by_]
    (ho : o.op = .call { callee := .builtin .append, args := #[x, y], argTypes := #[t, t2] }) (hdst : o.dst = some d) {a : Option Addr} {n cap m : Nat} (hx : ev s x = some (.slice a n cap)) {y' : Value} (hy : ev s y = some y') (hd : Nat.blt d c.N = true) {olds news : List Value} (hv : Vec size L (.slice a n cap) n olds)
    (hs : SrcL c L size t2 y' m news) (hm : cap < n + m) (hmax : n + m ≤ maxLen) (hby : (n + m) * by_ ≤ 140737488355328)
    (hk : ∀ b cap' cur, Own size cur 0 cap' (n + m) (olds ++ news) → Kn ⟨(d, .slice (some ⟨b, 0, none⟩) (n + m) cap') :: s, D, (b, .cells cur E (0, 0)) :: L⟩) : OW c o Kn K ⟨s, D, L⟩ := fun ac w ha => by
  refine ⟨fun _ _ => trivial, ?_⟩
  obtain ⟨ii, zz, r1, r2, r3, r4, r5, r6⟩ := hrow.h
  have hsr := hs w ha.mem
  have hlen := hsr.newsLen
  have hold := hv.first (P := c.P) ha.mem.drew cap
  have hle : n ≤ cap := by obtain ⟨_, a', c', e, h1, _⟩ := hv; cases e; exact h1
  have hr := run_append_grow_src (P := c.P) w t t2 o.type E ii zz hu.h r1 r2 a n cap olds (by rw [r4]; exact hold) y' m news (by rw [r4]; exact hsr) hm (by simp only [maxLen] at hmax; omega) (growslice_fits (by omega) (by rw [r5]; exact hby))
  rw [r3] at hr
  obtain ⟨cap', hcap'⟩ : ∃ q, grownCap w (n + m) cap E = q := ⟨_, rfl⟩
  have hge := grownCap_ge w (n + m) cap E
  have hcm := grownCap_le_maxLen w (n + m) cap E hmax
  rw [hcap'] at hr hge hcm
  have hr' : (execOp ac.eval o).run c.P w = .ok (.value (.slice (some ⟨w.heap.size, 0, none⟩) (n + m) cap')) (w.drew.alloc (.cells ((olds ++ news).toArray ++ Builtin.zeroCells z (cap' - (n + m))) E)) := by
    simp [execOp, ho, resolve, invoke, builtin, ha.ev hx, ha.ev hy, hr]
  rw [Oper.semAt_eq _ _ _ (by rw [ho]; intro cc h; cases h), hr']
  have hol : (olds ++ news).length = (n + m) * size := by rw [List.length_append, hv.1, hlen, Nat.add_mul]
  refine ⟨_, ?_, hk w.heap.size cap' ((olds ++ news).toArray ++ Builtin.zeroCells z (cap' - (n + m))) ⟨hol, hge, hcm, ?_, fun j u hu => ?_⟩⟩
  · rw [hdst]
    exact (ha.mem' ((ha.mem.drew).alloc _)).put (d := some d) hd _
  · rw [Array.size_append, List.size_toArray, hol, size_zeroCells, r6, ← Nat.add_mul]
    have : n + m + (cap' - (n + m)) = cap' := by omega
    rw [this]; omega
  · have hj := (List.getElem?_eq_some_iff.1 hu).1
    rw [Nat.zero_add, Array.getElem?_append_left (by simpa using hj)]
    simpa using hu

theorem setL_at {L : List (Nat × Obj)} {i : Nat} {q : Nat × Obj} (p : Nat × Obj) (h : L[i]? = some q) : setL L i p = some (L.set i p) := by
  induction L generalizing i with
  | nil => simp at h
  | cons x r ih =>
    cases i with
    | zero => rfl
    | succ i => simp only [List.getElem?_cons_succ] at h; simp [setL, ih h]

/-- 'append(x, y...)', x a slice in a block of one's own: in its own block, or in a new one that takes its place. -/
theorem OW_append_own {c : Cx} {o : Oper} {Kn : St → Prop} {K : Exit → St → Prop} {s : List (Nat × Value)} {D : List Deferred} {L : List (Nat × Obj)} {t t2 E size by_ d : Nat} {z : Array Value} {x y : Operand} [hu : TUnd c.P t (.slice E)] [hrow : TRow c.P E z size by_]
    (ho : o.op = .call { callee := .builtin .append, args := #[x, y], argTypes := #[t, t2] }) (hdst : o.dst = some d) {g off n cap m : Nat} (hx : ev s x = some (.slice (some ⟨g, off, none⟩) n cap)) {y' : Value} (hy : ev s y = some y') (hd : Nat.blt d c.N = true) {cur : Array Value} {xs news : List Value} (i : Nat) (hi : L[i]? = some (g, .cells cur E (0, 0))) (hv : Own size cur off cap n xs)
    (hs : SrcL c L size t2 y' m news) (hmax : n + m ≤ maxLen) (hby : (n + m) * by_ ≤ 140737488355328)
    (hk : ∀ b off' cap' cur', Own size cur' off' cap' (n + m) (xs ++ news) → Kn ⟨(d, .slice (some ⟨b, off', none⟩) (n + m) cap') :: s, D, L.set i (b, .cells cur' E (0, 0))⟩) : OW c o Kn K ⟨s, D, L⟩ := by
  refine nodup_wlog fun hnd => ?_
  refine OW_append_src (c := c) ho hdst hd hx i ⟨hi, hv.le, hv.max, hv.fit⟩ (m := m) (y' := y') (news := news) hy (fun a w ha => hs w ha.mem) hmax hby fun g' off' cap' cur' L' h1 h2 h3 => ?_
  have h4 := setL_eq h1
  subst h4
  refine hk g' off' cap' cur' (Own.of_extract ?_ h2.le h2.max h2.fit ?_)
  · have : (cur'.extract off' (off' + (n + m) * size)).size = (n + m) * size := by
      have := h2.fit
      have h5 : (n + m) * size ≤ cap' * size := Nat.mul_le_mul_right _ h2.le
      simp; omega
    rw [h3, hv.extract] at this
    simpa using this
  · rw [h3, hv.extract]; simp

/-! ### calls that are passed over -/
section
variable {c : Cx} {ops : Array Oper}
theorem WR_skN {K : Exit → St → Prop} {Ls : List (Nat × Obj)} {m i j dg : Nat} {b : Bool} {og : Oper} {p : Plan} {o : Oper} {s : List (Nat × Value)} {D : List Deferred} {L : List (Nat × Obj)} {d : Nat} (ho : ops[i]? = some o) (h : WR c ops K Ls m p ⟨(d, undef) :: s, D, L⟩) (hg : o.guard = some (j, true) := by exact rfl) (hj : ops[j]? = some og := by exact rfl) (hdg : og.dst = some dg := by exact rfl) (hb : look s dg = some (.bool b) := by exact rfl) (he : b = false := by first | with_reducible assumption | with_reducible rfl | decide)
    (hdst : o.dst = some d := by exact rfl) (hd : Nat.blt d c.N = true := by exact rfl) (hL : ∀ q ∈ Ls, q ∈ L := by first | exact fun _ h => h | exact fun _ h => List.Sublist.subset (by repeat (first | exact .refl _ | exact List.nil_sublist _ | exact List.sublist_append_right _ _ | apply List.Sublist.cons_cons | apply List.Sublist.cons)) h) : WR c ops K Ls m (.must i p) ⟨s, D, L⟩ :=
  WR_opN (σ := ⟨s, D, L⟩) ho hg hj hdg hb (by rw [he]; rfl) (by rw [hdst]; exact hd) hL (by rw [hdst]; exact h)
theorem WR_skM {K : Exit → St → Prop} {Ls : List (Nat × Obj)} {m i j dg : Nat} {b : Bool} {og : Oper} {p : Plan} {o : Oper} {s : List (Nat × Value)} {D : List Deferred} {L : List (Nat × Obj)} {d : Nat} (ho : ops[i]? = some o) (h : WR c ops K Ls m p ⟨(d, undef) :: s, D, L⟩) (hg : o.guard = some (j, false) := by exact rfl) (hj : ops[j]? = some og := by exact rfl) (hdg : og.dst = some dg := by exact rfl) (hb : look s dg = some (.bool b) := by exact rfl) (he : b = true := by first | with_reducible assumption | with_reducible rfl | decide)
    (hdst : o.dst = some d := by exact rfl) (hd : Nat.blt d c.N = true := by exact rfl) (hL : ∀ q ∈ Ls, q ∈ L := by first | exact fun _ h => h | exact fun _ h => List.Sublist.subset (by repeat (first | exact .refl _ | exact List.nil_sublist _ | exact List.sublist_append_right _ _ | apply List.Sublist.cons_cons | apply List.Sublist.cons)) h) : WR c ops K Ls m (.must i p) ⟨s, D, L⟩ :=
  WR_opN (σ := ⟨s, D, L⟩) ho hg hj hdg hb (by rw [he]; rfl) (by rw [hdst]; exact hd) hL (by rw [hdst]; exact h)
theorem WR_skU {K : Exit → St → Prop} {Ls : List (Nat × Obj)} {m i j dg : Nat} {want : Bool} {og : Oper} {p : Plan} {o : Oper} {s : List (Nat × Value)} {D : List Deferred} {L : List (Nat × Obj)} {d : Nat} (ho : ops[i]? = some o) (h : WR c ops K Ls m p ⟨(d, undef) :: s, D, L⟩) (hg : o.guard = some (j, want) := by exact rfl) (hj : ops[j]? = some og := by exact rfl) (hdg : og.dst = some dg := by exact rfl) (hb : look s dg = some undef := by exact rfl)
    (hdst : o.dst = some d := by exact rfl) (hd : Nat.blt d c.N = true := by exact rfl) (hL : ∀ q ∈ Ls, q ∈ L := by first | exact fun _ h => h | exact fun _ h => List.Sublist.subset (by repeat (first | exact .refl _ | exact List.nil_sublist _ | exact List.sublist_append_right _ _ | apply List.Sublist.cons_cons | apply List.Sublist.cons)) h) : WR c ops K Ls m (.must i p) ⟨s, D, L⟩ :=
  WR_opU (σ := ⟨s, D, L⟩) ho hg hj hdg hb (by rw [hdst]; exact hd) hL (by rw [hdst]; exact h)
end
theorem WC_wk {c : Cx} {code : Code} {K : Exit → St → Prop} {s0 : List (Nat × Value)} {D : List Deferred} {L : List (Nat × Obj)} (s : List (Nat × Value)) (hs : SubS s s0) (h : WC c code K ⟨s, D, L⟩) : WC c code K ⟨s0, D, L⟩ := WC_weaken (σ := ⟨s0, D, L⟩) s hs h
theorem arr_get {α : Type} {cs : Array α} {i : Nat} {v : α} (h : cs.toList[i]? = some v) : cs[i]? = some v := by simpa using h
theorem Qt_ld1B {c : Cx} {s : List (Nat × Value)} {L : List (Nat × Obj)} {o : Oper} {t b off : Nat} [TAgg c.P t false] {x : Operand} {cs : Array Value} {E : TypeId} {fr : Nat × Nat} {v : Value} (ho : o.op = .load t x) (hx : ev s x = some (.pointer (some ⟨b, off, none⟩)) := by exact rfl) (hi : ∃ i : Nat, L[i]? = some (b, .cells cs E fr) := by first | exact ⟨0, rfl⟩ | exact ⟨1, rfl⟩ | exact ⟨2, rfl⟩ | exact ⟨3, rfl⟩ | exact ⟨4, rfl⟩ | exact ⟨5, rfl⟩ | exact ⟨6, rfl⟩ | exact ⟨7, rfl⟩ | exact ⟨8, rfl⟩ | exact ⟨9, rfl⟩ | exact ⟨_, by with_reducible assumption⟩) (hv : cs[off]? = some v := by first | with_reducible assumption | exact arr_get rfl | rfl | assumption) : Qt c s L o v :=
  let ⟨i, h⟩ := hi; Qt_load1 ho hx i h hv
theorem Qt_buildB {c : Cx} {s : List (Nat × Value)} {L : List (Nat × Obj)} {o : Oper} {t : TypeId} {z : Array Value} {pl : List (Nat × Nat)} [hb : TBuild c.P t z pl] {parts : Array (Nat × Operand)} {vs : List (Nat × Value)} {cs : Array Value} (ho : o.op = .build t parts) (hx : evp s parts.toList = some vs := by exact rfl) (hf : Filled pl z vs cs := by repeat (first | exact rfl | refine ⟨_, _, rfl, (by first | with_reducible assumption | rfl | assumption), (by first | exact Nat.le_of_ble_eq_true rfl | omega), ?_⟩)) : Qt c s L o (.agg cs) :=
  Qt_build ho hx hf
end Go.Proofs.Ytcnbecdpfildnaa
