/-
  A part of what the last of these texts needs; by itself it proves no statement.
-/
import Derived.Test.YtekmmhmhcpaiaaaGreatKP1
namespace Go.Proofs.YtekmmhmhcpaiaaaGreat
open Go.RowKit
class TUnd (P : Program) (t : TypeId) (d : outParam TypeDesc) : Prop where
  h : P.underlying t = some d
class TSize (P : Program) (t : TypeId) (n : outParam Nat) : Prop where
  h : ∀ w, (sizeOf t).run P w = .ok n w
class TAgg (P : Program) (t : TypeId) (b : outParam Bool) : Prop where
  h : ∀ w, (isAgg t).run P w = .ok b w
class TZero (P : Program) (t : TypeId) (v : outParam Value) : Prop where
  h : ∀ w, (zeroValue t).run P w = .ok v w
class FCall (P : Program) (f : FuncId) : Prop where
  h : ∀ args w, (callFunc f args).run P w = .ok (.enter f args) w
class TFld (P : Program) (t : TypeId) (i : Nat) (off : outParam Nat) (ft : outParam TypeId) (n : outParam Nat) : Prop where
  h : ∃ fs f, P.underlying t = some (.struct fs) ∧ fs[i]? = some f ∧ f.offset = off ∧ f.type = ft ∧ (∀ w, (sizeOf ft).run P w = .ok n w) ∧ n ≠ 0
def Qt (c : Cx) (s : List (Nat × Value)) (L : List (Nat × Obj)) (o : Oper) (v : Value) : Prop :=
  (∀ cc, o.op ≠ .defer cc) ∧ ∀ ρ : Operand → Value, (∀ x u, ev s x = some u → ρ x = u) → ∀ w, Mem c.g L w → (execOp ρ o).run c.P w = .ok (.value v) w
theorem OW_qt {c : Cx} {o : Oper} {Kn : St → Prop} {K : Exit → St → Prop} {σ : St} {v : Value} (h : Qt c σ.s σ.L o v) (hd : dok c.N o.dst = true) (hk : Kn (σ.put o.dst v)) : OW c o Kn K σ := fun a w ha => by
  refine ⟨fun _ _ => trivial, ?_⟩
  rw [Oper.semAt_eq _ _ _ h.1, h.2 a.eval (fun x u hu => ha.ev hu) w ha.mem]
  exact ⟨_, ha.put hd v, hk⟩
theorem WL_qt {c : Cx} {ops : Array Oper} {o : Oper} {rest : List Oper} {K : Exit → St → Prop} {σ : St} {v : Value} (h : Qt c σ.s σ.L o v) (hg : o.guard = none) (hd : dok c.N o.dst = true) (hk : WL c ops rest K (σ.put o.dst v)) : WL c ops (o :: rest) K σ :=
  WL_op hg (OW_qt h hd hk)
theorem WL_q {c : Cx} {ops : Array Oper} {op : Op} {d ty : Nat} {pos : String} {aft : Array Edge} {rest : List Oper} {K : Exit → St → Prop} {s : List (Nat × Value)} {D : List Deferred} {L : List (Nat × Obj)} {v : Value}
    (h : Qt c s L ⟨some d, op, ty, pos, aft, none⟩ v) (hd : Nat.blt d c.N = true) (hk : WL c ops rest K ⟨(d, v) :: s, D, L⟩) : WL c ops (⟨some d, op, ty, pos, aft, none⟩ :: rest) K ⟨s, D, L⟩ :=
  WL_qt (σ := ⟨s, D, L⟩) h rfl hd hk
theorem OW_q {c : Cx} {op : Op} {d ty : Nat} {pos : String} {aft : Array Edge} {gd : Option (Nat × Bool)} {Kn : St → Prop} {K : Exit → St → Prop} {s : List (Nat × Value)} {D : List Deferred} {L : List (Nat × Obj)} {v : Value}
    (h : Qt c s L ⟨some d, op, ty, pos, aft, gd⟩ v) (hd : Nat.blt d c.N = true) (hk : Kn ⟨(d, v) :: s, D, L⟩) : OW c ⟨some d, op, ty, pos, aft, gd⟩ Kn K ⟨s, D, L⟩ :=
  OW_qt (σ := ⟨s, D, L⟩) h hd hk
def setL : List (Nat × Obj) → Nat → Nat × Obj → Option (List (Nat × Obj))
  | [], _, _ => none
  | _ :: r, 0, p => some (p :: r)
  | x :: r, n + 1, p => match setL r n p with
    | some r' => some (x :: r')
    | none => none
theorem setL_eq : ∀ {L : List (Nat × Obj)} {i : Nat} {p : Nat × Obj} {L' : List (Nat × Obj)}, setL L i p = some L' → L.set i p = L'
  | [], _, _, _, h => by cases h
  | _ :: _, 0, _, _, h => by simpa [setL] using h
  | x :: r, n + 1, p, L', h => by
    simp only [setL] at h
    split at h
    · rename_i r' hr
      obtain rfl := Option.some.inj h
      simp [setL_eq hr]
    · cases h
section
variable {c : Cx} {s : List (Nat × Value)} {L : List (Nat × Obj)} {o : Oper}
theorem Qt_move {x : Operand} {v : Value} (ho : o.op = .move x) (hx : ev s x = some v := by exact rfl) : Qt c s L o v :=
  ⟨(fun cc => by simp [ho]), fun ρ hρ w _ => by simp [execOp, ho, hρ x v hx]⟩
theorem Qt_assign {x : Operand} {v : Value} (ho : o.op = .assign x) (hx : ev s x = some v := by exact rfl) : Qt c s L o v :=
  ⟨(fun cc => by simp [ho]), fun ρ hρ w _ => by simp [execOp, ho, hρ x v hx]⟩
theorem Qt_pick {x y z : Operand} {b : Bool} {u v : Value} (ho : o.op = .pick x y z) (hx : ev s x = some (.bool b)) (hy : ev s y = some u) (hz : ev s z = some v) : Qt c s L o (if b then u else v) :=
  ⟨(fun cc => by simp [ho]), fun ρ hρ w _ => by simp [execOp, ho, hρ x _ hx, hρ y _ hy, hρ z _ hz, asBool]⟩
theorem Qt_pick_true {x y z : Operand} {b : Bool} {u v : Value} (ho : o.op = .pick x y z) (hx : ev s x = some (.bool b) := by exact rfl) (hy : ev s y = some u := by exact rfl) (hz : ev s z = some v := by exact rfl) (hb : b = true := by first | with_reducible assumption | with_reducible rfl | decide) : Qt c s L o u := by
  subst hb; exact Qt_pick ho hx hy hz
theorem Qt_pick_false {x y z : Operand} {b : Bool} {u v : Value} (ho : o.op = .pick x y z) (hx : ev s x = some (.bool b) := by exact rfl) (hy : ev s y = some u := by exact rfl) (hz : ev s z = some v := by exact rfl) (hb : b = false := by first | with_reducible assumption | with_reducible rfl | decide) : Qt c s L o v := by
  subst hb; exact Qt_pick ho hx hy hz
theorem Qt_nilCheck {x : Operand} {a : Addr} (ho : o.op = .nilCheck x) (hx : ev s x = some (.pointer (some a)) := by exact rfl) : Qt c s L o (.pointer (some a)) :=
  ⟨(fun cc => by simp [ho]), fun ρ hρ w _ => by simp [execOp, ho, hρ x _ hx]⟩
theorem fieldAddr_run {P : Program} {t i off ft n : Nat} [h : TFld P t i off ft n] (b o0 : Nat) (w : World) : (Instr.fieldAt t (.pointer (some ⟨b, o0, none⟩)) i).run P w = .ok (.pointer (some ⟨b, o0 + off, none⟩)) w := by
  obtain ⟨fs, f, h1, h2, h3, h4, h5, h6⟩ := h.h
  subst h3 h4
  simp [Instr.fieldAt, run_underlying h1, h2, Instr.sureAddr, fieldPlace, h5, h6, Addr.add_mid]
theorem Qt_fieldAddr {t i off ft n : Nat} [TFld c.P t i off ft n] {x : Operand} {b o0 : Nat} (ho : o.op = .fieldAddr t x i) (hx : ev s x = some (.pointer (some ⟨b, o0, none⟩)) := by exact rfl) : Qt c s L o (.pointer (some ⟨b, o0 + off, none⟩)) :=
  ⟨(fun cc => by simp [ho]), fun ρ hρ w _ => by simp [execOp, ho, hρ x _ hx, fieldAddr_run (P := c.P) (t := t) (i := i) (off := off) (ft := ft) (n := n) b o0 w]⟩
theorem Qt_fieldAddr0 {t i off ft n : Nat} [TFld c.P t i off ft n] {x : Operand} {b : Nat} (ho : o.op = .fieldAddr t x i) (hx : ev s x = some (.pointer (some ⟨b, 0, none⟩)) := by exact rfl) : Qt c s L o (.pointer (some ⟨b, off, none⟩)) := by
  have := Qt_fieldAddr (c := c) (s := s) (L := L) (o := o) (n := n) ho hx
  rwa [Nat.zero_add] at this
theorem Qt_load1 {t : TypeId} [ha : TAgg c.P t false] {x : Operand} {b off : Nat} {cs : Array Value} {E : TypeId} {fr : Nat × Nat} {v : Value} (ho : o.op = .load t x) (hx : ev s x = some (.pointer (some ⟨b, off, none⟩)) := by exact rfl)
    (i : Nat) (hi : L[i]? = some (b, .cells cs E fr) := by exact rfl) (hv : cs[off]? = some v := by first | with_reducible assumption | rfl | assumption) : Qt c s L o v :=
  ⟨(fun cc => by simp [ho]), fun ρ hρ w hm => by
    have hc : w.cell? ⟨b, off, none⟩ = some v := by rw [cell_of_row w b off cs E fr (hm.at_ hi)]; exact hv
    simp [execOp, ho, hρ x _ hx, Instr.loadAt, Instr.sureAddr, loadVar, ha.h, hc]⟩
theorem extract_list (cs : Array Value) (off n : Nat) : ((cs.toList.drop off).take n).toArray = cs.extract off (off + n) := by
  apply Array.ext'
  simp
theorem Qt_loadN {t n : Nat} [ha : TAgg c.P t true] [hs : TSize c.P t n] {x : Operand} {b off : Nat} {cs : Array Value} {E : TypeId} {fr : Nat × Nat} (ho : o.op = .load t x) (hx : ev s x = some (.pointer (some ⟨b, off, none⟩)) := by exact rfl)
    (i : Nat) (hi : L[i]? = some (b, .cells cs E fr) := by exact rfl) (hn : off + n ≤ cs.size := by first | assumption | omega) : Qt c s L o (.agg (cs.extract off (off + n))) :=
  ⟨(fun cc => by simp [ho]), fun ρ hρ w hm => by
    have hl := run_loadCells_list (P := c.P) w ⟨b, off, none⟩ ((cs.toList.drop off).take n) (fun j v hv => by
      rw [Addr.add_mid, cell_of_row w b (off + j) cs E fr (hm.at_ hi)]
      have hj : j < n := by have := (List.getElem?_eq_some_iff.1 hv).1; simp at this; omega
      rw [List.getElem?_take_of_lt hj, List.getElem?_drop] at hv
      simpa using hv)
    have hlen : ((cs.toList.drop off).take n).length = n := by simp; omega
    rw [hlen, extract_list cs off n] at hl
    simp [execOp, ho, hρ x _ hx, Instr.loadAt, Instr.sureAddr, loadVar, ha.h, hs.h, hl]⟩
theorem Qt_loadAll {t n : Nat} [TAgg c.P t true] [TSize c.P t n] {x : Operand} {b : Nat} {cs : Array Value} {E : TypeId} {fr : Nat × Nat} (ho : o.op = .load t x) (hx : ev s x = some (.pointer (some ⟨b, 0, none⟩)) := by exact rfl)
    (i : Nat) (hi : L[i]? = some (b, .cells cs E fr) := by exact rfl) (hn : cs.size = n := by first | with_reducible assumption | rfl | assumption) : Qt c s L o (.agg cs) := by
  have h := Qt_loadN (c := c) (s := s) (L := L) (o := o) (t := t) (n := n) ho hx i hi (by omega)
  rw [Nat.zero_add, ← hn] at h
  rwa [Array.extract_size] at h
def binV (op : BinOp) (x y : Value) : Option Value :=
  match op, x, y with
  | .add, .int k a, .int k' b => if k = k' then some (.int k (k.wrap (a + b))) else none
  | .sub, .int k a, .int k' b => if k = k' then some (.int k (k.wrap (a - b))) else none
  | .mul, .int k a, .int k' b => if k = k' then some (.int k (k.wrap (a * b))) else none
  | .eql, .int k a, .int k' b => if k = k' then some (.bool (a == b)) else none
  | .neq, .int k a, .int k' b => if k = k' then some (.bool (a != b)) else none
  | .lss, .int k a, .int k' b => if k = k' then some (.bool (decide (a < b))) else none
  | .leq, .int k a, .int k' b => if k = k' then some (.bool (decide (a ≤ b))) else none
  | .gtr, .int k a, .int k' b => if k = k' then some (.bool (decide (a > b))) else none
  | .geq, .int k a, .int k' b => if k = k' then some (.bool (decide (a ≥ b))) else none
  | .eql, .string a, .string b => some (.bool (a.toList == b.toList))
  | .neq, .string a, .string b => some (.bool !(a.toList == b.toList))
  | .lss, .string a, .string b => some (.bool (Op.bytesLess a.toList b.toList))
  | .geq, .string a, .string b => some (.bool !(Op.bytesLess a.toList b.toList))
  | _, _, _ => none
theorem binV_run {P : Program} {op : BinOp} {t : TypeId} {x y v : Value} (X Y : Operand) (h : binV op x y = some v) (w : World) : (eqGuard op t X Y x y).run P w = .ok () w ∧ (binOp op t x y).run P w = .ok v w := by
  unfold binV at h
  split at h
  all_goals first
    | (cases h; done)
    | (split at h
       · rename_i hk; subst hk; obtain rfl := Option.some.inj h; simp [eqGuard, binOp, Op.intArith, Op.intCmp]
       · cases h)
    | (obtain rfl := Option.some.inj h; simp [eqGuard, binOp, Op.stringOp])
theorem Qt_bin {op : BinOp} {t t' : TypeId} {x y : Operand} {a b v : Value} (ho : o.op = .binOp op t x y t') (hx : ev s x = some a := by exact rfl) (hy : ev s y = some b := by exact rfl) (hv : binV op a b = some v := by exact rfl) : Qt c s L o v :=
  ⟨(fun cc => by simp [ho]), fun ρ hρ w _ => by
    obtain ⟨h1, h2⟩ := binV_run (P := c.P) (t := t) x y hv w
    simp [execOp, ho, hρ x _ hx, hρ y _ hy, h1, h2]⟩
theorem Qt_rem {t t' : TypeId} {x y : Operand} {k : IntKind} {a b : Int} (ho : o.op = .binOp .rem t x y t') (hx : ev s x = some (.int k a) := by exact rfl) (hy : ev s y = some (.int k b) := by exact rfl) (hb : b ≠ 0 := by first | decide | assumption) : Qt c s L o (.int k (a.tmod b)) :=
  ⟨(fun cc => by simp [ho]), fun ρ hρ w _ => by simp [execOp, ho, hρ x _ hx, hρ y _ hy, eqGuard, binOp, Op.intDiv, hb]⟩
theorem Qt_quo {t t' : TypeId} {x y : Operand} {k : IntKind} {a b : Int} (ho : o.op = .binOp .quo t x y t') (hx : ev s x = some (.int k a) := by exact rfl) (hy : ev s y = some (.int k b) := by exact rfl) (hb : b ≠ 0 := by first | decide | assumption) : Qt c s L o (.int k (k.wrap (a.tdiv b))) :=
  ⟨(fun cc => by simp [ho]), fun ρ hρ w _ => by simp [execOp, ho, hρ x _ hx, hρ y _ hy, eqGuard, binOp, Op.intDiv, hb]⟩
theorem Qt_eql_bool {t t' : TypeId} [hu : TUnd c.P t .bool] {x y : Operand} {a b : Bool} (ho : o.op = .binOp .eql t x y t') (hx : ev s x = some (.bool a) := by exact rfl) (hy : ev s y = some (.bool b) := by exact rfl) : Qt c s L o (.bool (a == b)) :=
  ⟨(fun cc => by simp [ho]), fun ρ hρ w _ => by simp [execOp, ho, hρ x _ hx, hρ y _ hy, eqGuard, run_eql_bool w t a b hu.h]⟩
theorem pointee_eq {P : Program} {t e : TypeId} (h : P.underlying t = some (.pointer e)) : P.underlying t = some (.pointer (P.pointee t)) := by
  simp [Program.pointee, h]
theorem Qt_eql_nil {t t' e : TypeId} [hu : TUnd c.P t (.pointer e)] {x y : Operand} {p : Option Addr} (ho : o.op = .binOp .eql t x y t') (hx : ev s x = some (.pointer p) := by exact rfl) (hy : ev s y = some (.pointer none) := by exact rfl) : Qt c s L o (.bool p.isNone) :=
  ⟨(fun cc => by simp [ho]), fun ρ hρ w _ => by simp [execOp, ho, hρ x _ hx, hρ y _ hy, eqGuard, run_eql_pointer_nil w t p (pointee_eq hu.h)]⟩
theorem Qt_neq_nil {t t' e : TypeId} [hu : TUnd c.P t (.pointer e)] {x y : Operand} {p : Option Addr} (ho : o.op = .binOp .neq t x y t') (hx : ev s x = some (.pointer p) := by exact rfl) (hy : ev s y = some (.pointer none) := by exact rfl) : Qt c s L o (.bool !p.isNone) :=
  ⟨(fun cc => by simp [ho]), fun ρ hρ w _ => by simp [execOp, ho, hρ x _ hx, hρ y _ hy, eqGuard, run_neq_pointer_nil w t p (pointee_eq hu.h)]⟩
theorem Qt_eql_nilS {t t' : TypeId} {d : TypeId} [hu : TUnd c.P t (.pointer d)] {x y : Operand} {a : Addr} (ho : o.op = .binOp .eql t x y t') (hx : ev s x = some (.pointer (some a)) := by exact rfl) (hy : ev s y = some (.pointer none) := by exact rfl) : Qt c s L o (.bool false) := Qt_eql_nil ho hx hy
theorem Qt_neq_nilS {t t' : TypeId} {d : TypeId} [hu : TUnd c.P t (.pointer d)] {x y : Operand} {a : Addr} (ho : o.op = .binOp .neq t x y t') (hx : ev s x = some (.pointer (some a)) := by exact rfl) (hy : ev s y = some (.pointer none) := by exact rfl) : Qt c s L o (.bool true) := Qt_neq_nil ho hx hy
theorem Qt_neq_nilN {t t' : TypeId} {d : TypeId} [hu : TUnd c.P t (.pointer d)] {x y : Operand} (ho : o.op = .binOp .neq t x y t') (hx : ev s x = some (.pointer none) := by exact rfl) (hy : ev s y = some (.pointer none) := by exact rfl) : Qt c s L o (.bool false) := Qt_neq_nil ho hx hy
theorem Qt_not {t : TypeId} {x : Operand} {a : Bool} (ho : o.op = .unOp .not t x) (hx : ev s x = some (.bool a) := by exact rfl) : Qt c s L o (.bool !a) :=
  ⟨(fun cc => by simp [ho]), fun ρ hρ w _ => by simp [execOp, ho, hρ x _ hx, Op.unary]⟩
theorem Qt_convInt {t t' : TypeId} {k : IntKind} {d : TypeDesc} [hs : TUnd c.P t d] [hu : TUnd c.P t' (.int k)] {x : Operand} {k' : IntKind} {a : Int} (ho : o.op = .convert t t' x) (hx : ev s x = some (.int k' a) := by exact rfl) : Qt c s L o (.int k (k.wrap a)) :=
  ⟨(fun cc => by simp [ho]), fun ρ hρ w _ => by simp [execOp, ho, hρ x _ hx, convert, run_underlying hs.h, run_underlying hu.h, Conv.intToInt]⟩
theorem Qt_indexArr {t len E n : Nat} [hu : TUnd c.P t (.array len E)] [hs : TSize c.P E n] {x y : Operand} {b o0 : Nat} {k : IntKind} {i : Int} (ho : o.op = .indexAddr t x y) (hx : ev s x = some (.pointer (some ⟨b, o0, none⟩)) := by exact rfl) (hy : ev s y = some (.int k i) := by exact rfl) (h0 : 0 ≤ i := by first | with_reducible assumption | decide | assumption | (simp; done) | (simp; omega) | omega) (h1 : i < len := by first | with_reducible assumption | decide | assumption | (simp; done) | (simp; omega) | omega) :
    Qt c s L o (.pointer (some ⟨b, o0 + i.toNat * n, none⟩)) :=
  ⟨(fun cc => by simp [ho]), fun ρ hρ w _ => by simp [execOp, ho, hρ x _ hx, hρ y _ hy, Instr.indexAt, asIntOf, run_underlying hu.h, Instr.sureAddr, hs.h, h0, h1, Addr.add_mid]⟩
theorem Qt_indexArr0 {t len E n : Nat} [TUnd c.P t (.array len E)] [TSize c.P E n] {x y : Operand} {b : Nat} {k : IntKind} {i : Int} (ho : o.op = .indexAddr t x y) (hx : ev s x = some (.pointer (some ⟨b, 0, none⟩)) := by exact rfl) (hy : ev s y = some (.int k i) := by exact rfl) (h0 : 0 ≤ i := by first | with_reducible assumption | decide | assumption | (simp; done) | (simp; omega) | omega) (h1 : i < len := by first | with_reducible assumption | decide | assumption | (simp; done) | (simp; omega) | omega) :
    Qt c s L o (.pointer (some ⟨b, i.toNat * n, none⟩)) := by
  have := Qt_indexArr (c := c) (s := s) (L := L) (o := o) ho hx hy h0 h1
  rwa [Nat.zero_add] at this
theorem Qt_indexSl {t E n : Nat} [hu : TUnd c.P t (.slice E)] [hs : TSize c.P E n] {x y : Operand} {b o0 len cap : Nat} {k : IntKind} {i : Int} (ho : o.op = .indexAddr t x y) (hx : ev s x = some (.slice (some ⟨b, o0, none⟩) len cap) := by exact rfl) (hy : ev s y = some (.int k i) := by exact rfl) (h0 : 0 ≤ i := by first | with_reducible assumption | decide | assumption | (simp; done) | (simp; omega) | omega) (h1 : i < len := by first | with_reducible assumption | decide | assumption | (simp; done) | (simp; omega) | omega) :
    Qt c s L o (.pointer (some ⟨b, o0 + i.toNat * n, none⟩)) :=
  ⟨(fun cc => by simp [ho]), fun ρ hρ w _ => by simp [execOp, ho, hρ x _ hx, hρ y _ hy, Instr.indexAt, asIntOf, run_underlying hu.h, hs.h, h0, h1, Addr.add_mid]⟩
theorem Qt_indexSl0 {t E n : Nat} [TUnd c.P t (.slice E)] [TSize c.P E n] {x y : Operand} {b len cap : Nat} {k : IntKind} {i : Int} (ho : o.op = .indexAddr t x y) (hx : ev s x = some (.slice (some ⟨b, 0, none⟩) len cap) := by exact rfl) (hy : ev s y = some (.int k i) := by exact rfl) (h0 : 0 ≤ i := by first | with_reducible assumption | decide | assumption | (simp; done) | (simp; omega) | omega) (h1 : i < len := by first | with_reducible assumption | decide | assumption | (simp; done) | (simp; omega) | omega) :
    Qt c s L o (.pointer (some ⟨b, i.toNat * n, none⟩)) := by
  have := Qt_indexSl (c := c) (s := s) (L := L) (o := o) ho hx hy h0 h1
  rwa [Nat.zero_add] at this
end
section
variable {c : Cx} {s : List (Nat × Value)} {L : List (Nat × Obj)} {o : Oper}
theorem evs_map {ρ : Operand → Value} (hρ : ∀ x u, ev s x = some u → ρ x = u) : ∀ {xs : List Operand} {vs : List Value}, evs s xs = some vs → xs.map ρ = vs
  | [], vs, hx => by simpa [evs] using hx
  | x :: r, vs, hx => by
    simp only [evs] at hx
    split at hx
    · rename_i v vs' h1 h2
      obtain rfl := Option.some.inj hx
      rw [List.map_cons, hρ x v h1, evs_map hρ h2]
    · cases hx
theorem evs_mapA {ρ : Operand → Value} (hρ : ∀ x u, ev s x = some u → ρ x = u) {xs : Array Operand} {vs : List Value} (h : evs s xs.toList = some vs) : xs.map ρ = vs.toArray := by
  apply Array.ext'
  simpa using evs_map hρ h
theorem Qt_makeFunc {f : Fn} {A B : Array Operand} {va bs : List Value} (ho : o.op = .makeFunc f A B) (ha : evs s A.toList = some va := by exact rfl) (hb : evs s B.toList = some bs := by exact rfl) : Qt c s L o (.func f va.toArray bs.toArray) :=
  ⟨(fun cc => by simp [ho]), fun ρ hρ w _ => by simp [execOp, ho, evs_mapA hρ ha, evs_mapA hρ hb, Instr.makeFunc]⟩
theorem Qt_lenSl {t E : TypeId} [hu : TUnd c.P t (.slice E)] {x : Operand} {a : Option Addr} {n k : Nat} (ho : o.op = .call { callee := .builtin .len, args := #[x], argTypes := #[t] }) (hx : ev s x = some (.slice a n k) := by exact rfl) : Qt c s L o (.int .i64 n) :=
  ⟨(fun cc => by simp [ho]), fun ρ hρ w _ => by simp [execOp, ho, resolve, invoke, builtin, Builtin.len_, hρ x _ hx, run_underlying hu.h, goInt]⟩
end
def putR (cs : Array Value) (off : Nat) (vs : Array Value) : Array Value := (cs.toList.take off ++ vs.toList ++ cs.toList.drop (off + vs.size)).toArray
theorem putR_all (cs vs : Array Value) (h : cs.size = vs.size) : putR cs 0 vs = vs := by
  apply Array.ext'
  simp [putR, ← h]
theorem putR_size (cs vs : Array Value) (off : Nat) (h : off + vs.size ≤ cs.size) : (putR cs off vs).size = cs.size := by
  simp [putR]; omega
theorem putR_get_out (cs vs : Array Value) (off j : Nat) (h : off + vs.size ≤ cs.size) (hj : j < off ∨ off + vs.size ≤ j) : (putR cs off vs)[j]? = cs[j]? := by
  simp only [putR, ← Array.getElem?_toList]
  rw [List.append_assoc, List.getElem?_append]
  have hl : (cs.toList.take off).length = off := by simp; omega
  rw [hl]
  rcases hj with hj | hj
  · rw [if_pos hj, List.getElem?_take_of_lt hj]
  · rw [if_neg (by omega), List.getElem?_append, Array.length_toList, if_neg (by omega), List.getElem?_drop]
    congr 1; omega
theorem putR_get_in (cs vs : Array Value) (off j : Nat) (h : off + vs.size ≤ cs.size) (hj : j < vs.size) : (putR cs off vs)[off + j]? = vs[j]? := by
  simp only [putR, ← Array.getElem?_toList]
  rw [List.append_assoc, List.getElem?_append]
  have hl : (cs.toList.take off).length = off := by simp; omega
  rw [hl, if_neg (by omega), List.getElem?_append, Array.length_toList, if_pos (by omega)]
  congr 1; omega
def Filled (pl : List (Nat × Nat)) : Array Value → List (Nat × Value) → Array Value → Prop
  | z, [], cs => cs = z
  | z, (i, v) :: r, cs => ∃ off n, pl[i]? = some (off, n) ∧ v.cells.size = n ∧ off + n ≤ z.size ∧ Filled pl (putR z off v.cells) r cs
theorem fold_put (vs : List Value) : ∀ (k off : Nat) (z : Array Value), off + k + vs.length ≤ z.size →
    (vs.zipIdx k).foldl (fun (cs : Array Value) (p : Value × Nat) => cs.setIfInBounds (off + p.2) p.1) z = putR z (off + k) vs.toArray := by
  induction vs with
  | nil => intro k off z _; simp [putR]
  | cons v r ih =>
    intro k off z h
    simp only [List.length_cons] at h
    rw [List.zipIdx_cons, List.foldl_cons, ih (k + 1) off _ (by simp; omega)]
    apply Array.ext'
    simp only [putR, Array.toList_setIfInBounds, List.size_toArray, List.length_cons]
    have e1 : (z.toList.set (off + k) v).take (off + (k + 1)) = z.toList.take (off + k) ++ [v] := by
      rw [← Nat.add_assoc, List.take_succ_eq_append_getElem (by simp; omega)]
      simp [List.take_set_of_le]
    have e2 : (z.toList.set (off + k) v).drop (off + (k + 1) + r.length) = z.toList.drop (off + k + (r.length + 1)) := by
      rw [List.drop_set, if_pos (by omega)]
      congr 1; omega
    rw [e1, e2]
    simp
theorem fill_of_Filled {pl : List (Nat × Nat)} : ∀ {parts : List (Nat × Value)} {z cs : Array Value}, Filled pl z parts cs → Instr.fill (pl[·]?) z parts = some cs
  | [], z, cs, h => by cases h; rfl
  | (i, v) :: r, z, cs, ⟨off, n, h1, h2, h3, h4⟩ => by
    simp only [Instr.fill, h1]
    rw [if_neg (by simp [h2]; omega)]
    have hf := fold_put v.cells.toList 0 off z (by simp; omega)
    have he : (v.cells.zipIdx.foldl (fun (cs : Array Value) (p : Value × Nat) => cs.setIfInBounds (off + p.2) p.1) z) = putR z off v.cells := by
      rw [← Array.foldl_toList, Array.toList_zipIdx, hf]
      simp
    have hh := fill_of_Filled h4
    rw [← he] at hh
    exact hh
class TBuild (P : Program) (t : TypeId) (z : outParam (Array Value)) (pl : outParam (List (Nat × Nat))) : Prop where
  h : ∀ parts, P.built t parts = Instr.fill (fun x => pl.toArray[x]?) z parts
def evp (s : List (Nat × Value)) : List (Nat × Operand) → Option (List (Nat × Value))
  | [] => some []
  | (i, x) :: r => match ev s x, evp s r with
    | some v, some vs => some ((i, v) :: vs)
    | _, _ => none
theorem evp_map {s : List (Nat × Value)} {ρ : Operand → Value} (hρ : ∀ x u, ev s x = some u → ρ x = u) : ∀ {xs : List (Nat × Operand)} {vs : List (Nat × Value)}, evp s xs = some vs → xs.map (fun (i, x) => (i, ρ x)) = vs
  | [], vs, hx => by simpa [evp] using hx
  | (i, x) :: r, vs, hx => by
    simp only [evp] at hx
    split at hx
    · rename_i v vs' h1 h2
      obtain rfl := Option.some.inj hx
      rw [List.map_cons, evp_map hρ h2]
      simp only [hρ x v h1]
    · cases hx
theorem Qt_build {c : Cx} {s : List (Nat × Value)} {L : List (Nat × Obj)} {o : Oper} {t : TypeId} {z : Array Value} {pl : List (Nat × Nat)} [hb : TBuild c.P t z pl] {parts : Array (Nat × Operand)} {vs : List (Nat × Value)} {cs : Array Value} (ho : o.op = .build t parts) (hx : evp s parts.toList = some vs := by exact rfl) (hf : Filled pl z vs cs := by repeat (first | exact rfl | refine ⟨_, _, rfl, (by first | with_reducible assumption | rfl | assumption), (by first | omega | decide), ?_⟩)) : Qt c s L o (.agg cs) :=
  ⟨(fun cc => by simp [ho]), fun ρ hρ w _ => by
    have h1 := evp_map hρ hx
    have h2 := run_build (P := c.P) w t (parts.map fun (i, x) => (i, ρ x)) cs (by
      rw [hb.h, Array.toList_map, h1]
      have := fill_of_Filled hf
      simpa using this)
    simp [execOp, ho, h2]⟩
def cellsV : Value → Option (Array Value)
  | .agg cs => some cs
  | .bool b => some #[.bool b]
  | .int k n => some #[.int k n]
  | .string b => some #[.string b]
  | .pointer a => some #[.pointer a]
  | .slice a n k => some #[.slice a n k]
  | .map r => some #[.map r]
  | .func f a b => some #[.func f a b]
  | .nilFunc => some #[.nilFunc]
  | .iface t v => some #[.iface t v]
  | .nilIface => some #[.nilIface]
  | _ => none
theorem cellsV_eq {v : Value} {cs : Array Value} (h : cellsV v = some cs) : v.cells = cs := by
  cases v <;> first | (obtain rfl := Option.some.inj h; rfl) | cases h
theorem OW_alloc {c : Cx} {o : Oper} {Kn : St → Prop} {K : Exit → St → Prop} {s : List (Nat × Value)} {D : List Deferred} {L : List (Nat × Obj)} {t d : TypeId} {z : Value} [hz : TZero c.P t z] (ho : o.op = .alloc t) (hdst : o.dst = some d := by exact rfl) (hd : Nat.blt d c.N = true := by exact rfl)
    {zs : Array Value} (hzs : cellsV z = some zs := by exact rfl) (hk : ∀ b, Kn ⟨(d, .pointer (some ⟨b, 0, none⟩)) :: s, D, (b, .cells zs t) :: L⟩) : OW c o Kn K ⟨s, D, L⟩ := fun a w ha => by
  refine ⟨fun _ _ => trivial, ?_⟩
  have hr : (execOp a.eval o).run c.P w = .ok (.value (.pointer (some ⟨w.heap.size, 0, none⟩))) (w.alloc (.cells z.cells t)) := by
    simp [execOp, ho, Instr.alloc, hz.h, newVar, newRow]
  rw [Oper.semAt_eq _ _ _ (by rw [ho]; intro cc h; cases h), hr]
  obtain rfl := cellsV_eq hzs
  refine ⟨_, ?_, hk w.heap.size⟩
  rw [hdst]
  exact (ha.mem' (ha.mem.alloc _)).put (d := some d) hd _
theorem OW_box {c : Cx} {o : Oper} {Kn : St → Prop} {K : Exit → St → Prop} {s : List (Nat × Value)} {D : List Deferred} {L : List (Nat × Obj)} {t d : TypeId} {x : Operand} {v : Value} (ho : o.op = .box t x) (hdst : o.dst = some d := by exact rfl) (hx : ev s x = some v := by exact rfl) (hd : Nat.blt d c.N = true := by exact rfl)
    {vs : Array Value} (hvs : cellsV v = some vs := by exact rfl) (hk : ∀ b, Kn ⟨(d, .pointer (some ⟨b, 0, none⟩)) :: s, D, (b, .cells vs t) :: L⟩) : OW c o Kn K ⟨s, D, L⟩ := fun a w ha => by
  refine ⟨fun _ _ => trivial, ?_⟩
  have hr : (execOp a.eval o).run c.P w = .ok (.value (.pointer (some ⟨w.heap.size, 0, none⟩))) (w.alloc (.cells v.cells t)) := by
    simp [execOp, ho, ha.ev hx, Instr.box, newVar, newRow]
  rw [Oper.semAt_eq _ _ _ (by rw [ho]; intro cc h; cases h), hr]
  obtain rfl := cellsV_eq hvs
  refine ⟨_, ?_, hk w.heap.size⟩
  rw [hdst]
  exact (ha.mem' (ha.mem.alloc _)).put (d := some d) hd _
theorem OW_storeN {c : Cx} {o : Oper} {Kn : St → Prop} {K : Exit → St → Prop} {s : List (Nat × Value)} {D : List Deferred} {L L' : List (Nat × Obj)} {t n : Nat} [hs : TSize c.P t n] {x y : Operand} {b off : Nat} {cs vs : Array Value} {E : TypeId} (ho : o.op = .store t x y) (hdst : o.dst = none := by exact rfl) (hx : ev s x = some (.pointer (some ⟨b, off, none⟩)) := by exact rfl)
    (hy : ev s y = some (.agg vs) := by exact rfl) (hn : vs.size = n := by first | rfl | decide | assumption | (simp; done) | (simp; omega) | omega) (h1 : (vs.toList.all fun v => v.oneCell') = true := by first | with_reducible assumption | rfl | assumption) (i : Nat) (hi : L[i]? = some (b, .cells cs E (0, 0)) := by exact rfl) (hl : off + n ≤ cs.size := by first | assumption | omega)
    (hL : setL L i (b, .cells (putR cs off vs) E (0, 0)) = some L' := by exact rfl) (hk : Kn ⟨s, D, L'⟩) : OW c o Kn K ⟨s, D, L⟩ := fun a w ha => by
  refine ⟨fun _ _ => trivial, ?_⟩
  have hst := run_storeCells_at (P := c.P) b off E vs.toList 0 cs w (ha.mem.at_ hi) (by simp; omega) (List.all_eq_true.1 h1)
  have hr : (execOp a.eval o).run c.P w = .ok .skip (w.setRow b (putR cs off vs)) := by
    simp only [Nat.add_zero, Array.length_toList] at hst
    simp [execOp, ho, ha.ev hx, ha.ev hy, Instr.storeAt, Instr.sureAddr, storeVar, hs.h, Value.cells, hn, hst, putR]
  rw [Oper.semAt_eq _ _ _ (by rw [ho]; intro cc h; cases h), hr]
  refine ⟨_, ?_, hk⟩
  rw [hdst, ← setL_eq hL]
  exact ha.mem' (ha.mem.setRow hi _)
theorem OW_storeAll {c : Cx} {o : Oper} {Kn : St → Prop} {K : Exit → St → Prop} {s : List (Nat × Value)} {D : List Deferred} {L L' : List (Nat × Obj)} {t n : Nat} [TSize c.P t n] {x y : Operand} {b : Nat} {cs vs : Array Value} {E : TypeId} (ho : o.op = .store t x y) (hdst : o.dst = none := by exact rfl) (hx : ev s x = some (.pointer (some ⟨b, 0, none⟩)) := by exact rfl)
    (hy : ev s y = some (.agg vs) := by exact rfl) (hn : vs.size = n := by first | rfl | decide | assumption | (simp; done) | (simp; omega) | omega) (h1 : (vs.toList.all fun v => v.oneCell') = true := by first | with_reducible assumption | rfl | assumption) (i : Nat) (hi : L[i]? = some (b, .cells cs E (0, 0)) := by exact rfl) (hl : cs.size = n := by first | rfl | decide | assumption | (simp; done) | (simp; omega) | omega)
    (hL : setL L i (b, .cells vs E (0, 0)) = some L' := by exact rfl) (hk : Kn ⟨s, D, L'⟩) : OW c o Kn K ⟨s, D, L⟩ :=
  OW_storeN ho hdst hx hy hn h1 i hi (by omega) (by rw [putR_all cs vs (by omega)]; exact hL) hk
theorem OW_store1 {c : Cx} {o : Oper} {Kn : St → Prop} {K : Exit → St → Prop} {s : List (Nat × Value)} {D : List Deferred} {L L' : List (Nat × Obj)} {t : TypeId} [hs : TSize c.P t 1] {x y : Operand} {b off : Nat} {cs : Array Value} {v : Value} {E : TypeId} (ho : o.op = .store t x y) (hdst : o.dst = none := by exact rfl) (hx : ev s x = some (.pointer (some ⟨b, off, none⟩)) := by exact rfl)
    (hy : ev s y = some v := by exact rfl) (h1 : v.oneCell' = true := by exact rfl) (i : Nat) (hi : L[i]? = some (b, .cells cs E (0, 0)) := by exact rfl) (hl : off < cs.size := by first | with_reducible assumption | decide | assumption | (simp; done) | (simp; omega) | omega)
    (hL : setL L i (b, .cells (cs.setIfInBounds off v) E (0, 0)) = some L' := by exact rfl) (hk : Kn ⟨s, D, L'⟩) : OW c o Kn K ⟨s, D, L⟩ := fun a w ha => by
  refine ⟨fun _ _ => trivial, ?_⟩
  have hcell : w.cell? ⟨b, off, none⟩ = some cs[off] := by rw [cell_of_row w b off cs E (0, 0) (ha.mem.at_ hi)]; simp [hl]
  have hfro : w.frozen? ⟨b, off, none⟩ = false := frozen_of_row w b off cs E (ha.mem.at_ hi)
  have hc1 : v.cells = #[v] := by cases v <;> first | rfl | cases h1
  have hr : (execOp a.eval o).run c.P w = .ok .skip (w.setRow b (cs.setIfInBounds off v)) := by
    have hstore : (store (⟨b, off, none⟩ : Addr) v).run c.P w = .ok () (w.setRow b (cs.setIfInBounds off v)) := by
      rw [run_store c.P w _ v _ h1, hcell]
      simp [hfro, setCell_eq_setRow w b off cs E (0, 0) v (ha.mem.at_ hi)]
    simp [execOp, ho, ha.ev hx, ha.ev hy, Instr.storeAt, Instr.sureAddr, storeVar, hs.h, hc1, storeCells, Addr.add, hstore]
  rw [Oper.semAt_eq _ _ _ (by rw [ho]; intro cc h; cases h), hr]
  refine ⟨_, ?_, hk⟩
  rw [hdst, ← setL_eq hL]
  exact ha.mem' (ha.mem.setRow hi _)
def Fn (P : Program) (f : FuncId) (args : List Value) (L : List (Nat × Obj)) (R : Value → List (Nat × Obj) → Prop) : Prop :=
  ∀ g w, Mem g L w → Calls P f args.toArray w fun e w' => ∃ v L', e = .returned v ∧ Mem g L' w' ∧ R v L'
theorem Fn.mono {P : Program} {f : FuncId} {args : List Value} {L : List (Nat × Obj)} {R R' : Value → List (Nat × Obj) → Prop} (h : Fn P f args L R) (hr : ∀ v L', R v L' → R' v L') : Fn P f args L R' :=
  fun g w hm => (h g w hm).mono fun _ _ ⟨v, L', h1, h2, h3⟩ => ⟨v, L', h1, h2, hr v L' h3⟩
theorem callsIn_fw {P : Program} {f : FuncId} {args : Array Value} {w : World} {R : Ending → World → Prop} (r : Option Nat) (n : Nat) (h : Calls P f args w R) : CallsIn (Fw r) n P f args w R :=
  (callsIn_wide (n := n)).2 h
theorem OW_call' {c : Cx} {o : Oper} {Kn : St → Prop} {K : Exit → St → Prop} {σ : St} {f : FuncId} {args : Array Operand} {tys : Array TypeId} [hf : FCall c.P f] {vs : List Value} {R : Value → List (Nat × Obj) → Prop}
    (ho : o.op = .call { callee := .value (.func f), args := args, argTypes := tys }) (ha : evs σ.s args.toList = some vs) (hF : Fn c.P f vs σ.L R) (hd : dok c.N o.dst = true) (hk : ∀ v L', R v L' → Kn (St.put ⟨σ.s, σ.D, L'⟩ o.dst v)) : OW c o Kn K σ := fun a w hH => by
  refine ⟨fun _ _ => trivial, ?_⟩
  have hargs : args.map a.eval = vs.toArray := by
    apply Array.ext'
    simpa using hH.evs ha
  have hr : (execOp a.eval o).run c.P w = .ok (.enter f vs.toArray) w := by
    simp [execOp, ho, resolve, Deferred.ofValue, Act.eval, hargs, invoke, hf.h]
  rw [Oper.semAt_eq _ _ _ (by rw [ho]; intro cc h; cases h), hr]
  refine ⟨fun h => by simp at h, (callsIn_fw c.r _ (hF c.g w hH.mem)).mono fun e w' ⟨v, L', h1, h2, h3⟩ => ?_⟩
  subst h1
  exact ⟨_, (hH.mem' h2).put hd v, hk v L' h3⟩
theorem OW_call {c : Cx} {o : Oper} {Kn : St → Prop} {K : Exit → St → Prop} {s : List (Nat × Value)} {D : List Deferred} {L : List (Nat × Obj)} {f d : FuncId} {args : Array Operand} {tys : Array TypeId} [hf : FCall c.P f] {vs : List Value} {R : Value → List (Nat × Obj) → Prop}
    (ho : o.op = .call { callee := .value (.func f), args := args, argTypes := tys }) (hdst : o.dst = some d := by exact rfl) (ha : evs s args.toList = some vs := by exact rfl) (hd : Nat.blt d c.N = true := by exact rfl) (hF : Fn c.P f vs L R) (hk : ∀ v L', R v L' → Kn ⟨(d, v) :: s, D, L'⟩) : OW c o Kn K ⟨s, D, L⟩ :=
  OW_call' (σ := ⟨s, D, L⟩) ho ha hF (by rw [hdst]; exact hd) (by rw [hdst]; exact hk)
theorem Mem.perm {g w : World} {L L' : List (Nat × Obj)} (h : Mem g L w) (hp : L'.Perm L) : Mem g L' w :=
  h.sub ((hp.map _).nodup_iff.2 h.nodup) (fun _ hm => hp.mem_iff.1 hm)
theorem Fn.perm {P : Program} {f : FuncId} {args : List Value} {L L1 : List (Nat × Obj)} {R R1 : Value → List (Nat × Obj) → Prop} (h : Fn P f args L1 R1) (hp : L1.Perm L) (hr : ∀ v L', R1 v L' → ∃ L2, L2.Perm L' ∧ R v L2) : Fn P f args L R :=
  fun g w hm => (h g w (hm.perm hp)).mono fun _ _ ⟨v, L', h1, h2, h3⟩ => let ⟨L2, h4, h5⟩ := hr v L' h3; ⟨v, L2, h1, h2.perm h4, h5⟩
theorem front_perm : ∀ {L : List (Nat × Obj)} {i : Nat} {x : Nat × Obj}, L[i]? = some x → (x :: L.eraseIdx i).Perm L
  | [], _, _, h => by simp at h
  | y :: r, 0, x, h => by simp at h; subst h; simp
  | y :: r, i + 1, x, h => by
    simp only [List.getElem?_cons_succ] at h
    exact (List.Perm.swap y x _).trans ((front_perm h).cons y)
theorem set_perm {L : List (Nat × Obj)} {i : Nat} {x : Nat × Obj} (hi : L[i]? = some x) (y : Nat × Obj) : (L.set i y).Perm (y :: L.eraseIdx i) := by
  obtain ⟨hlt, _⟩ := List.getElem?_eq_some_iff.1 hi
  have h := front_perm (L := L.set i y) (i := i) (x := y) (by simp [hlt])
  rw [List.eraseIdx_set_eq] at h
  exact h.symm
theorem OW_callP {c : Cx} {o : Oper} {Kn : St → Prop} {K : Exit → St → Prop} {s : List (Nat × Value)} {D : List Deferred} {L : List (Nat × Obj)} {f d : FuncId} {args : Array Operand} {tys : Array TypeId} [hf : FCall c.P f] {vs : List Value} {x : Value}
    (ho : o.op = .call { callee := .value (.func f), args := args, argTypes := tys }) (hdst : o.dst = some d := by exact rfl) (ha : evs s args.toList = some vs := by exact rfl) (hd : Nat.blt d c.N = true := by exact rfl) (hF : Fn c.P f vs L (fun v L' => v = x ∧ L' = L)) (hk : Kn ⟨(d, x) :: s, D, L⟩) : OW c o Kn K ⟨s, D, L⟩ :=
  OW_call ho hdst ha hd hF fun _ _ ⟨h1, h2⟩ => by rw [h1, h2]; exact hk
def initS : Nat → List Value → List (Nat × Value)
  | _, [] => []
  | k, v :: r => (k, v) :: initS (k + 1) r
theorem look_initS : ∀ (vs : List Value) (k t : Nat) (v : Value), look (initS k vs) t = some v → k ≤ t ∧ vs[t - k]? = some v
  | [], _, _, _, h => by cases h
  | u :: r, k, t, v, h => by
    rw [initS, look_cons] at h
    by_cases e : k = t
    · rw [if_pos e] at h; subst e; simpa using h
    · rw [if_neg e] at h
      obtain ⟨h1, h2⟩ := look_initS r (k + 1) t v h
      refine ⟨by omega, ?_⟩
      rw [show t - k = (t - (k + 1)) + 1 by omega]
      simpa using h2
def Res (c : Cx) (fn : Func) (σ : St) (v : Value) : Prop := ∀ a w, Holds c.g c.N σ a w → (results fn a.tmps).run c.P w = .ok v w
def postK (c : Cx) (fn : Func) (R : Value → List (Nat × Obj) → Prop) : Exit → St → Prop
  | .normal, σ | .ret, σ => σ.D = [] ∧ ∃ v Lx, Res c fn σ v ∧ Lx.Sublist σ.L ∧ R v Lx
  | _, _ => False
theorem Fn_enter {P : Program} {f : FuncId} {fn : Func} {code : Code} {args : List Value} {L : List (Nat × Obj)} {R : Value → List (Nat × Obj) → Prop} {N : Nat} (hf : P.funcs[f]? = some fn) (hb : fn.body = some code) (hN : fn.ntmps = N) (hl : Nat.ble args.length N = true)
    (h : ∀ g, WC ⟨P, g, N, 0, none⟩ code (postK ⟨P, g, N, 0, none⟩ fn R) ⟨initS 0 args, [], L⟩) : Fn P f args L R := fun g w hm => by
  refine (callsIn_wide (n := 0)).1 (callsIn_of_wp hf hb trivial (Go.wpIn_mono (h g _ w ?_) fun e a' w' hl => ?_) rfl)
  · have hle : args.length ≤ N := Nat.le_of_ble_eq_true hl
    refine ⟨?_, ?_, rfl, hm⟩
    · simp only [hN, Array.size_append, List.size_toArray, Array.size_replicate]; omega
    · intro t v hv
      obtain ⟨_, h2⟩ := look_initS args 0 t v hv
      simp only [Nat.sub_zero] at h2
      have hlt : t < args.length := (List.getElem?_eq_some_iff.1 h2).1
      simp [Array.getElem?_append, hlt] at h2 ⊢
      simp [h2]
  · cases e with
    | normal => obtain ⟨σ, h1, h2, v, Lx, h3, hs, h4⟩ := hl; exact ⟨by rw [h1.defers, h2], v, h3 a' w' h1, v, Lx, rfl, h1.mem.sublist hs, h4⟩
    | ret => obtain ⟨σ, h1, h2, v, Lx, h3, hs, h4⟩ := hl; exact ⟨by rw [h1.defers, h2], v, h3 a' w' h1, v, Lx, rfl, h1.mem.sublist hs, h4⟩
    | panic ch => obtain ⟨σ, _, h2⟩ := hl; exact h2.elim
    | exit id => obtain ⟨σ, _, h2⟩ := hl; exact h2.elim
    | goto l => obtain ⟨σ, _, h2⟩ := hl; exact h2.elim
    | outgrown => obtain ⟨σ, _, h2⟩ := hl; exact h2.elim
def resSem (tmps : Array Value) : ResultVar → Sem Value
  | .tmp t => pure (tmps.getD t undef)
  | .cell a t => do loadVar t (← asAddr (tmps.getD a undef))
def resV (c : Cx) (σ : St) (v : Value) (r : ResultVar) : Prop := ∀ a w, Holds c.g c.N σ a w → (resSem a.tmps r).run c.P w = .ok v w
theorem resV_tmp {c : Cx} {σ : St} {v : Value} {t : Nat} (h : look σ.s t = some v) : resV c σ v (.tmp t) := fun a w ha => by
  have := ha.slots t v h
  simp only [resSem, this]; rfl
theorem resV_cellN {c : Cx} {σ : St} {p t n : Nat} [ha : TAgg c.P t true] [hs : TSize c.P t n] {b : Nat} {cs : Array Value} {E : TypeId} {fr : Nat × Nat} (h1 : look σ.s p = some (.pointer (some ⟨b, 0, none⟩))) (i : Nat) (h2 : σ.L[i]? = some (b, .cells cs E fr)) (h3 : cs.size = n) : resV c σ (.agg cs) (.cell p t) := fun a w hH => by
  have hp := hH.slots p _ h1
  have hl := run_loadCells_list (P := c.P) w ⟨b, 0, none⟩ cs.toList (fun j v hv => by
    rw [Addr.add_mid, cell_of_row w b (0 + j) cs E fr (hH.mem.at_ h2)]
    simpa using hv)
  rw [Array.length_toList, h3] at hl
  rw [Array.getD_eq_getD_getElem?] at hp
  simp [resSem, hp, asAddr, loadVar, ha.h, hs.h, hl]
theorem resV_cell1 {c : Cx} {σ : St} {p t : Nat} [ha : TAgg c.P t false] {b : Nat} {v : Value} {E : TypeId} {fr : Nat × Nat} (h1 : look σ.s p = some (.pointer (some ⟨b, 0, none⟩))) (i : Nat) (h2 : σ.L[i]? = some (b, .cells #[v] E fr)) : resV c σ v (.cell p t) := fun a w hH => by
  have hp := hH.slots p _ h1
  have hc : w.cell? ⟨b, 0, none⟩ = some v := by rw [cell_of_row w b 0 #[v] E fr (hH.mem.at_ h2)]; rfl
  rw [Array.getD_eq_getD_getElem?] at hp
  simp [resSem, hp, asAddr, loadVar, ha.h, hc]
theorem results_eq (fn : Func) (tmps : Array Value) : results fn tmps = (do
    let vs ← fn.results.mapM (resSem tmps)
    pure (if h : vs.size = 1 then vs[0] else .tuple vs)) := by
  unfold results
  congr 1
theorem Res0 {c : Cx} {fn : Func} {σ : St} (h : fn.results = #[]) : Res c fn σ (.tuple #[]) := fun a w _ => by simp [results, h]
theorem Res1 {c : Cx} {fn : Func} {σ : St} {r : ResultVar} {v : Value} (h : fn.results = #[r]) (hr : resV c σ v r) : Res c fn σ v := fun a w ha => by
  have h1 := hr a w ha
  rw [results_eq, h]
  simp [h1]
theorem Res2 {c : Cx} {fn : Func} {σ : St} {r q : ResultVar} {v u : Value} (h : fn.results = #[r, q]) (hr : resV c σ v r) (hq : resV c σ u q) : Res c fn σ (.tuple #[v, u]) := fun a w ha => by
  have h1 := hr a w ha
  have h2 := hq a w ha
  rw [results_eq, h]
  simp [h1, h2]
theorem Res3 {c : Cx} {fn : Func} {σ : St} {r q p : ResultVar} {v u x : Value} (h : fn.results = #[r, q, p]) (hr : resV c σ v r) (hq : resV c σ u q) (hp : resV c σ x p) : Res c fn σ (.tuple #[v, u, x]) := fun a w ha => by
  have h1 := hr a w ha
  have h2 := hq a w ha
  have h3 := hp a w ha
  rw [results_eq, h]
  simp [h1, h2, h3]
end Go.Proofs.YtekmmhmhcpaiaaaGreat
