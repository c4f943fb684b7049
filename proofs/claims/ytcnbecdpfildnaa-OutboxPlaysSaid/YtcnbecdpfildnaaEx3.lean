/-
  Running a program's function by computing: the operations that leave memory as it is, the rest of them. It proves no statement by itself. It holds for every program.
-/
import Derived.Test.YtcnbecdpfildnaaEx2
import Derived.WalkSpells
import Derived.MapKept
import Derived.Laws.StructEq
import Derived.Laws.IdiomStrings
namespace Go.Proofs.Ytcnbecdpfildnaa
open Go.RowKit
noncomputable section

section
variable {c : Cx} {bs : Bs} {σs : List (Nat × Value)} {Ls : List (Nat × Obj)} {o : Oper}

/-- Is this nil? -/
def V.isNil : V → Option Bool
  | .ptrN => some true
  | .ptr _ _ => some false
  | .slN => some true
  | .sl _ _ _ _ _ => some false
  | .mapN => some true
  | .map _ => some false
  | .nilf => some true
  | .fn _ _ _ => some false
  | _ => none
def nilT (P : Program) (t : TypeId) (x y : V) : Option Bool :=
  match x, y with
  | .ptrN, .ptrN => (match P.underlying t with | some (.pointer _) => some true | _ => none)
  | .ptr _ _, .ptrN => (match P.underlying t with | some (.pointer _) => some false | _ => none)
  | .slN, .slN => (match P.underlying t with | some (.slice _) => some true | _ => none)
  | .sl _ _ _ _ _, .slN => (match P.underlying t with | some (.slice _) => some false | _ => none)
  | .nilf, .nilf => (match P.underlying t with | some (.func _ _ _) => some true | _ => none)
  | .fn _ _ _, .nilf => (match P.underlying t with | some (.func _ _ _) => some false | _ => none)
  | .mapN, .mapN => (match P.underlying t with | some (.map _ _) => some true | _ => none)
  | .map _, .mapN => (match P.underlying t with | some (.map _ _) => some false | _ => none)
  | _, _ => none
theorem run_equalIn_func_nil {P : Program} (w : World) (d : Nat) (t : TypeId) {a b : Array TypeId} {q : Bool} (h : P.underlying t = some (.func a b q)) :
    (Op.equalIn (d + 1) t .nilFunc .nilFunc).run P w = .ok true w ∧ ∀ (f : Go.Fn) (A B : Array Value), (Op.equalIn (d + 1) t (.func f A B) .nilFunc).run P w = .ok false w := by
  constructor
  · simp [Op.equalIn, run_underlying h]
  · intro f A B
    simp [Op.equalIn, run_underlying h]
theorem run_func_nil {P : Program} (w : World) (t : TypeId) {a b : Array TypeId} {q : Bool} (h : P.underlying t = some (.func a b q)) :
    ((binOp .eql t .nilFunc .nilFunc).run P w = .ok (.bool true) w ∧ (binOp .neq t .nilFunc .nilFunc).run P w = .ok (.bool false) w) ∧ ∀ (f : Go.Fn) (A B : Array Value), (binOp .eql t (.func f A B) .nilFunc).run P w = .ok (.bool false) w ∧ (binOp .neq t (.func f A B) .nilFunc).run P w = .ok (.bool true) w := by
  obtain ⟨h1, h2⟩ := run_equalIn_func_nil w 9999 t h
  refine ⟨⟨?_, ?_⟩, fun f A B => ⟨?_, ?_⟩⟩
  all_goals simp only [binOp]
  · simp [Op.equal, Op.maxDepth, h1]
  · simp [Op.equal, Op.maxDepth, h1]
  · simp [Op.equal, Op.maxDepth, h2 f A B]
  · simp [Op.equal, Op.maxDepth, h2 f A B]
/-- Structs and arrays, compared. -/
def eqFs (rec : TypeId → V → V → Option Bool) (P : Program) (xs ys : List V) : List Field → Option Bool
  | [] => some true
  | f :: r => match decide (f.name = "_") with
    | true => eqFs rec P xs ys r
    | false => match sizeX P f.type with
      | some n => match partX P f.type f.offset n xs, partX P f.type f.offset n ys with
        | some a, some b => match rec f.type a b with
          | some true => eqFs rec P xs ys r
          | some false => some false
          | none => none
        | _, _ => none
      | none => none
def eqEs (rec : TypeId → V → V → Option Bool) (P : Program) (e n : Nat) (xs ys : List V) : List Nat → Option Bool
  | [] => some true
  | i :: r => match partX P e (Nat.mul i n) n xs, partX P e (Nat.mul i n) n ys with
    | some a, some b => match rec e a b with
      | some true => eqEs rec P e n xs ys r
      | some false => some false
      | none => none
    | _, _ => none
def eqX (P : Program) : Nat → TypeId → V → V → Option Bool
  | 0, _, _, _ => none
  | d + 1, t, x, y => match x, y with
    | .int k a, .int k' b => match P.underlying t, decide (k = k') with
      | some (.int _), true => some (a == b)
      | _, _ => none
    | .bool a, .bool b => match P.underlying t with
      | some .bool => some (a == b)
      | _ => none
    | .str a, .str b => match P.underlying t with
      | some .string => some (a.toList == b.toList)
      | _ => none
    | .agg xs, .agg ys => match P.underlying t with
      | some (.struct fs) => match P.stoodInHeld t with
        | false => eqFs (eqX P d) P xs ys fs.toList
        | true => none
      | some (.array n e) => match sizeX P e with
        | some sz => eqEs (eqX P d) P e sz xs ys (List.range' 0 n 1)
        | none => none
      | _ => none
    | _, _ => none

theorem eqX_ok {P : Program} : ∀ (d : Nat) {t : TypeId} {x y : V} {x' y' : Value} {b : Bool}, eqX P d t x y = some b → RV bs x x' → RV bs y y' → ∀ (q : Nat) (w : World), (Op.equalIn (d + q) t x' y').run P w = .ok b w
  | 0, _, _, _, _, _, _, h, _, _ => by cases h
  | d + 1, t, x, y, x', y', b, h, hx, hy => fun q w => by
    have ih := fun {t x y x' y' b} (h : eqX P d t x y = some b) (hx : RV bs x x') (hy : RV bs y y') (w : World) => eqX_ok d h hx hy q w
    rw [show d + 1 + q = (d + q) + 1 by omega]
    simp only [eqX] at h
    split at h
    · split at h
      · rename_i hu hk
        cases h; cases hx; cases hy
        obtain rfl := of_decide_eq_true hk
        exact run_equalIn_int w _ t _ _ _ _ hu
      · cases h
    · split at h
      · rename_i hu
        cases h; cases hx; cases hy
        exact run_equalIn_bool' w _ t _ _ hu
      · cases h
    · split at h
      · rename_i hu
        cases h; cases hx; cases hy
        exact run_equalIn_string w _ t _ _ hu
      · cases h
    · rename_i xs ys
      cases hx; cases hy
      rename_i xs' hxs ys' hys
      split at h
      · rename_i fs hu
        split at h
        · rename_i hst
          have hfo : P.fieldsOf t = fs := by simp [Program.fieldsOf, hu]
          rw [run_equalIn_struct w (d + q) t _ _ (by rw [hfo]; exact hu) hst, hfo]
          generalize fs.toList = l at h
          clear hu hfo
          induction l generalizing w with
          | nil => cases h; simp [Op.eqFields]
          | cons f r ihl =>
            simp only [eqFs] at h
            simp only [Op.eqFields]
            split at h
            · rename_i hn
              have hn := of_decide_eq_true hn
              rw [if_neg (by simp [hn])]
              exact ihl w h
            · rename_i hn
              have hn := of_decide_eq_false hn
              rw [if_pos hn]
              split at h
              · rename_i n hsz
                split at h
                · rename_i a b ha hb
                  obtain ⟨a', a1, a2⟩ := part_run ha (sizeX_ok hsz).h hxs
                  obtain ⟨b', b1, b2⟩ := part_run hb (sizeX_ok hsz).h hys
                  split at h
                  · rename_i he
                    have := ih he a2 b2 w
                    simp only [Sem.run_bind, a1, b1, Result.andThen_ok, this, Bool.not_true, Bool.false_eq_true, if_false]
                    exact ihl w h
                  · rename_i he
                    cases h
                    have := ih he a2 b2 w
                    simp [a1, b1, this]
                  · cases h
                · cases h
              · cases h
        · cases h
      · rename_i n e hu
        split at h
        · rename_i sz hsz
          rw [Op.equalIn]
          simp only [Sem.run_bind, run_underlying hu, Result.andThen_ok, (sizeX_ok hsz).h, Std.Legacy.Range.forIn_eq_forIn_range', Std.Legacy.Range.size, Nat.sub_zero, Nat.add_sub_cancel, Nat.div_one]
          generalize List.range' 0 n 1 = l at h ⊢
          clear hu
          induction l generalizing w with
          | nil => cases h; simp
          | cons i r ihl =>
            simp only [eqEs] at h
            split at h
            · rename_i a b ha hb
              obtain ⟨a', a1, a2⟩ := part_run ha (sizeX_ok hsz).h hxs
              obtain ⟨b', b1, b2⟩ := part_run hb (sizeX_ok hsz).h hys
              have a1' : ∀ w, (part e xs'.toArray (i * sz)).run P w = .ok a' w := a1
              have b1' : ∀ w, (part e ys'.toArray (i * sz)).run P w = .ok b' w := b1
              split at h
              · rename_i he
                have := ih he a2 b2 w
                simp only [List.forIn_cons, Sem.run_bind, a1', b1', Result.andThen_ok, this, Bool.not_true, Bool.false_eq_true, if_false, Sem.run_pure]
                exact ihl w h
              · rename_i he
                cases h
                have := ih he a2 b2 w
                simp [List.forIn_cons, a1', b1', this]
              · cases h
            · cases h
        · cases h
      · cases h
    · cases h
/-- Two structs, or two arrays. -/
def aggEq (P : Program) (t : TypeId) (x y : V) : Option Bool := match x, y with
  | .agg _, .agg _ => match P.eqGuardType P.depth t with
    | false => eqX P 8 t x y
    | true => none
  | _, _ => none
theorem aggEq_run {P : Program} {t : TypeId} {x y : V} {x' y' : Value} {b : Bool} (h : aggEq P t x y = some b) (hx : RV bs x x') (hy : RV bs y y') (X Y : Operand) (w : World) : ((eqGuard .eql t X Y x' y').run P w = .ok () w ∧ (binOp .eql t x' y').run P w = .ok (.bool b) w) ∧ (eqGuard .neq t X Y x' y').run P w = .ok () w ∧ (binOp .neq t x' y').run P w = .ok (.bool !b) w := by
  unfold aggEq at h
  split at h
  · split at h
    · rename_i hg
      have h1 := eqX_ok 8 h hx hy 9992 w
      cases hx; cases hy
      refine ⟨⟨run_eqGuard_agg w .eql t X Y _ _ hg, ?_⟩, run_eqGuard_agg w .neq t X Y _ _ hg, ?_⟩
      · rw [run_eql_struct]; rw [show (10000 : Nat) = 8 + 9992 from rfl, h1]; rfl
      · rw [run_neq_struct]; rw [show (10000 : Nat) = 8 + 9992 from rfl, h1]; rfl
    · cases h
  · cases h
/-- An interface's value, compared with nil. -/
def isC : Operand → Bool
  | .const _ => true
  | _ => false
def nilI (P : Program) (t : TypeId) (Y : Operand) (x y : V) : Option Bool := match x, y with
  | .nili, .nili => match isC Y, P.underlying t with
    | true, some (.interface _) => some true
    | _, _ => none
  | .ifc _ _, .nili => match P.underlying t with
    | some (.interface _) => some false
    | _ => none
  | .nili, .ifc _ _ => match P.underlying t with
    | some (.interface _) => some false
    | _ => none
  | _, _ => none
theorem run_equalIn_iface {P : Program} (w : World) (d : Nat) (t : TypeId) {ms : Array (String × TypeId)} (h : P.underlying t = some (.interface ms)) :
    (Op.equalIn (d + 1) t .nilIface .nilIface).run P w = .ok true w ∧ ∀ (u : TypeId) (v : Value), (Op.equalIn (d + 1) t (.iface u v) .nilIface).run P w = .ok false w ∧ (Op.equalIn (d + 1) t .nilIface (.iface u v)).run P w = .ok false w := by
  refine ⟨?_, fun u v => ⟨?_, ?_⟩⟩
  · simp [Op.equalIn, run_underlying h]
  · simp [Op.equalIn, run_underlying h]
  · simp [Op.equalIn, run_underlying h]
theorem nilI_run {P : Program} {t : TypeId} {X Y : Operand} {x y : V} {x' y' : Value} {b : Bool} (h : nilI P t Y x y = some b) (hx : RV bs x x') (hy : RV bs y y') (w : World) : ((eqGuard .eql t X Y x' y').run P w = .ok () w ∧ (binOp .eql t x' y').run P w = .ok (.bool b) w) ∧ (eqGuard .neq t X Y x' y').run P w = .ok () w ∧ (binOp .neq t x' y').run P w = .ok (.bool !b) w := by
  unfold nilI at h
  split at h
  · split at h
    · rename_i ms hc hu
      cases h; cases hx; cases hy
      have hg : ∃ v, Y = .const v := by
        unfold isC at hc
        split at hc
        · exact ⟨_, rfl⟩
        · cases hc
      obtain ⟨v, rfl⟩ := hg
      obtain ⟨h1, h2⟩ := run_equalIn_iface w 9999 t hu
      refine ⟨⟨by simp [eqGuard], ?_⟩, by simp [eqGuard], ?_⟩
      all_goals simp only [binOp]
      · simp [Op.equal, Op.maxDepth, h1]
      · simp [Op.equal, Op.maxDepth, h1]
    · cases h
  · split at h
    · rename_i hu
      cases h; cases hx; cases hy
      obtain ⟨h1, h2⟩ := run_equalIn_iface w 9999 t hu
      refine ⟨⟨by simp [eqGuard], ?_⟩, by simp [eqGuard], ?_⟩
      all_goals simp only [binOp]
      · simp [Op.equal, Op.maxDepth, (h2 _ _).1]
      · simp [Op.equal, Op.maxDepth, (h2 _ _).1]
    · cases h
  · split at h
    · rename_i hu
      cases h; cases hx; cases hy
      obtain ⟨h1, h2⟩ := run_equalIn_iface w 9999 t hu
      refine ⟨⟨by simp [eqGuard], ?_⟩, by simp [eqGuard], ?_⟩
      all_goals simp only [binOp]
      · simp [Op.equal, Op.maxDepth, (h2 _ _).2]
      · simp [Op.equal, Op.maxDepth, (h2 _ _).2]
    · cases h
  · cases h
def sameT (P : Program) (t : TypeId) (Y : Operand) (x y : V) : Option Bool := match nilT P t x y with
  | some b => some b
  | none => match aggEq P t x y with
    | some b => some b
    | none => nilI P t Y x y

def binX (P : Program) (op : BinOp) (t : TypeId) (Y : Operand) : Option V → Option V → Option V
  | some x, some y => match x.scal, y.scal with
    | some a, some b => match binW P op t a b with
      | some v => V.ofConst1 v
      | none => none
    | _, _ => match sameT P t Y x y with
      | some b => match op with
        | .eql => some (.bool b)
        | .neq => some (.bool !b)
        | _ => none
      | none => none
  | _, _ => none

theorem nilT_run {P : Program} {t : TypeId} {x y : V} {x' y' : Value} {b : Bool} (h : nilT P t x y = some b) (hx : RV bs x x') (hy : RV bs y y') (X Y : Operand) (w : World) : ((eqGuard .eql t X Y x' y').run P w = .ok () w ∧ (binOp .eql t x' y').run P w = .ok (.bool b) w) ∧ (eqGuard .neq t X Y x' y').run P w = .ok () w ∧ (binOp .neq t x' y').run P w = .ok (.bool !b) w := by
  unfold nilT at h
  split at h
  · split at h
    · rename_i hu; cases h; cases hx; cases hy
      exact ⟨⟨by simp [eqGuard], run_eql_pointer_nil w t none (pointee_eq hu)⟩, by simp [eqGuard], run_neq_pointer_nil w t none (pointee_eq hu)⟩
    · cases h
  · split at h
    · rename_i hu; cases h; obtain ⟨_, _, _, rfl, _⟩ := hx.ptr_inv; cases hy
      exact ⟨⟨by simp [eqGuard], run_eql_pointer_nil w t (some _) (pointee_eq hu)⟩, by simp [eqGuard], run_neq_pointer_nil w t (some _) (pointee_eq hu)⟩
    · cases h
  · split at h
    · rename_i hu; cases h; cases hx; cases hy
      exact ⟨⟨by simp [eqGuard], Lib.run_eql_slice_nil w t _ none 0 0 0 0 hu⟩, by simp [eqGuard], run_neq_slice_nil_any w t _ none 0 0 0 0 hu⟩
    · cases h
  · split at h
    · rename_i hu; cases h; obtain ⟨_, _, _, _, _, rfl, _⟩ := hx.sl_inv; cases hy
      exact ⟨⟨by simp [eqGuard], Lib.run_eql_slice_nil w t _ (some _) _ _ 0 0 hu⟩, by simp [eqGuard], run_neq_slice_nil_any w t _ (some _) _ _ 0 0 hu⟩
    · cases h
  · split at h
    · rename_i hu; cases h; cases hx; cases hy
      exact ⟨⟨by simp [eqGuard], (run_func_nil w t hu).1.1⟩, by simp [eqGuard], (run_func_nil w t hu).1.2⟩
    · cases h
  · split at h
    · rename_i hu; cases h; cases hx; cases hy
      exact ⟨⟨by simp [eqGuard], ((run_func_nil w t hu).2 _ _ _).1⟩, by simp [eqGuard], ((run_func_nil w t hu).2 _ _ _).2⟩
    · cases h
  · split at h
    · rename_i hu; cases h; cases hx; cases hy
      exact ⟨⟨by simp [eqGuard], run_eql_map_nil w t _ _ none hu⟩, by simp [eqGuard], run_neq_map_nil w t _ _ none hu⟩
    · cases h
  · split at h
    · rename_i hu; cases h; cases hx; cases hy
      exact ⟨⟨by simp [eqGuard], run_eql_map_nil w t _ _ (some _) hu⟩, by simp [eqGuard], run_neq_map_nil w t _ _ (some _) hu⟩
    · cases h
  · cases h

theorem sameT_run {P : Program} {t : TypeId} {x y : V} {x' y' : Value} {b : Bool} {X Y : Operand} (h : sameT P t Y x y = some b) (hx : RV bs x x') (hy : RV bs y y') (w : World) : ((eqGuard .eql t X Y x' y').run P w = .ok () w ∧ (binOp .eql t x' y').run P w = .ok (.bool b) w) ∧ (eqGuard .neq t X Y x' y').run P w = .ok () w ∧ (binOp .neq t x' y').run P w = .ok (.bool !b) w := by
  unfold sameT at h
  split at h
  · rename_i h1; cases h; exact nilT_run h1 hx hy X Y w
  · split at h
    · rename_i h1; cases h; exact aggEq_run h1 hx hy X Y w
    · exact nilI_run h hx hy w

theorem binX_ok {s : S} {op : BinOp} {t t' : TypeId} {x y : Operand} {v : V} (ho : o.op = .binOp op t x y t') (hc : binX c.P op t y (evX s x) (evX s y) = some v) (hs : CovS bs s σs) : ∃ v', Qt c σs Ls o v' ∧ RV bs v v' := by
  generalize hx : evX s x = e1 at hc
  generalize hy : evX s y = e2 at hc
  unfold binX at hc
  split at hc
  · rename_i u u2
    obtain ⟨a', h1, h2⟩ := evX_ok hs hx
    obtain ⟨b', h3, h4⟩ := evX_ok hs hy
    split at hc
    · rename_i a b ha hb
      split at hc
      · rename_i r hr
        obtain rfl := V.scal_ok h2 ha
        obtain rfl := V.scal_ok h4 hb
        exact ⟨r, Qt_binW ho h1 h3 hr, V.ofConst1_ok hc⟩
      · cases hc
    · split at hc
      · rename_i b hb
        split at hc
        · cases hc
          refine ⟨_, Qt_of_run (by simp [ho]) (fun ρ hρ w _ => ?_), .bool b⟩
          simp [execOp, ho, hρ x _ h1, hρ y _ h3, (sameT_run (X := x) hb h2 h4 w).1.1, (sameT_run (X := x) hb h2 h4 w).1.2]
        · cases hc
          refine ⟨_, Qt_of_run (by simp [ho]) (fun ρ hρ w _ => ?_), .bool !b⟩
          simp [execOp, ho, hρ x _ h1, hρ y _ h3, (sameT_run (X := x) hb h2 h4 w).2.1, (sameT_run (X := x) hb h2 h4 w).2.2]
        · cases hc
      · cases hc
  · cases hc

def unX (op : UnOp) : Option V → Option V
  | some (.bool b) => match op with
    | .not => some (.bool !b)
    | _ => none
  | some (.int k n) => match op with
    | .neg => some (.int k (k.wrap (0 - n)))
    | .xor => some (.int k (k.wrap (BitVec.ofInt k.bits (if k.signed then -1 else k.max) ^^^ BitVec.ofInt k.bits n).toNat))
    | _ => none
  | _ => none
theorem unX_ok {s : S} {op : UnOp} {t : TypeId} {x : Operand} {v : V} (ho : o.op = .unOp op t x) (hc : unX op (evX s x) = some v) (hs : CovS bs s σs) : ∃ v', Qt c σs Ls o v' ∧ RV bs v v' := by
  generalize hx : evX s x = e1 at hc
  unfold unX at hc
  split at hc
  · split at hc
    · cases hc
      obtain ⟨_, h1, h2⟩ := evX_ok hs hx; cases h2
      exact ⟨_, Qt_not ho h1, .bool _⟩
    · cases hc
  · obtain ⟨_, h1, h2⟩ := evX_ok hs hx; cases h2
    split at hc
    · cases hc
      exact ⟨_, Qt_neg ho h1, .int _ _⟩
    · cases hc
      refine ⟨_, Qt_of_run (by simp [ho]) (fun ρ hρ w _ => ?_), .int _ _⟩
      simp [execOp, ho, hρ x _ h1, Op.unary, Op.intBits]
    · cases hc
  · cases hc

def convX (P : Program) (a b : TypeId) : Option V → Option V
  | some (.int _ n) => match P.underlying a, P.underlying b with
    | some _, some (.int k) => some (.int k (k.wrap n))
    | _, _ => none
  | some (.str s) => match P.underlying a, P.underlying b with
    | some _, some .string => some (.str s)
    | _, _ => none
  | _ => none
theorem convX_ok {s : S} {t t' : TypeId} {x : Operand} {v : V} (ho : o.op = .convert t t' x) (hc : convX c.P t t' (evX s x) = some v) (hs : CovS bs s σs) : ∃ v', Qt c σs Ls o v' ∧ RV bs v v' := by
  generalize hx : evX s x = e1 at hc
  unfold convX at hc
  split at hc
  · obtain ⟨_, h1, h2⟩ := evX_ok hs hx; cases h2
    split at hc
    · rename_i d k e1 e2
      cases hc
      haveI : TUnd c.P t d := ⟨e1⟩
      haveI : TUnd c.P t' (.int k) := ⟨e2⟩
      exact ⟨_, Qt_convInt ho h1, .int _ _⟩
    · cases hc
  · obtain ⟨_, h1, h2⟩ := evX_ok hs hx; cases h2
    split at hc
    · rename_i d e1 e2
      cases hc
      refine ⟨_, Qt_of_run (by simp [ho]) (fun ρ hρ w _ => ?_), .str _⟩
      cases d <;> simp [execOp, ho, hρ x _ h1, convert, run_underlying e1, run_underlying e2]
    · cases hc
  · cases hc

def extractX (k : Nat) : Option V → Option V
  | some (.tup l) => l[k]?
  | _ => none
theorem extractX_ok {s : S} {k : Nat} {x : Operand} {v : V} (ho : o.op = .extract x k) (hc : extractX k (evX s x) = some v) (hs : CovS bs s σs) : ∃ v', Qt c σs Ls o v' ∧ RV bs v v' := by
  generalize hx : evX s x = e1 at hc
  unfold extractX at hc
  split at hc
  · obtain ⟨_, h1, h2⟩ := evX_ok hs hx; cases h2
    rename_i l' hl
    obtain ⟨v', h3, h4⟩ := hl.get hc
    exact ⟨v', Qt_extract ho h1 (by simpa using h3), h4⟩
  · cases hc

def makeFuncX (f : Go.Fn) : Option (List V) → Option (List V) → Option V
  | some A, some B => some (.fn f A B)
  | _, _ => none
theorem makeFuncX_ok {s : S} {f : Go.Fn} {A B : Array Operand} {v : V} (ho : o.op = .makeFunc f A B) (hc : makeFuncX f (evsX s A.toList) (evsX s B.toList) = some v) (hs : CovS bs s σs) : ∃ v', Qt c σs Ls o v' ∧ RV bs v v' := by
  generalize hx : evsX s A.toList = e1 at hc
  generalize hy : evsX s B.toList = e2 at hc
  unfold makeFuncX at hc
  split at hc
  · cases hc
    obtain ⟨_, h1, h2⟩ := evsX_ok hs hx
    obtain ⟨_, h3, h4⟩ := evsX_ok hs hy
    exact ⟨_, Qt_makeFunc ho h1 h3, .fn f h2 h4⟩
  · cases hc

def lenX (P : Program) (t : TypeId) : Option V → Option V
  | some (.sl _ _ n _ _) => match P.underlying t with
    | some (.slice _) => some (.int .i64 n)
    | _ => none
  | some .slN => match P.underlying t with
    | some (.slice _) => some (.int .i64 0)
    | _ => none
  | some (.str s) => match P.underlying t with
    | some .string => some (.int .i64 s.size)
    | _ => none
  | some _ => match P.underlying t with
    | some (.array n _) => some (.int .i64 n)
    | some (.pointer e) => match P.underlying e with
      | some (.array n _) => some (.int .i64 n)
      | _ => none
    | _ => none
  | none => none
theorem lenX_ok {s : S} {t : TypeId} {x : Operand} {v : V} (ho : o.op = .call { callee := .builtin .len, args := #[x], argTypes := #[t] }) (hc : lenX c.P t (evX s x) = some v) (hs : CovS bs s σs) : ∃ v', Qt c σs Ls o v' ∧ RV bs v v' := by
  generalize hx : evX s x = e1 at hc
  unfold lenX at hc
  split at hc
  · split at hc
    · rename_i E hu
      cases hc
      obtain ⟨_, h1, h2⟩ := evX_ok hs hx; cases h2
      haveI : TUnd c.P t (.slice E) := ⟨hu⟩
      exact ⟨_, Qt_lenSl ho h1, .int _ _⟩
    · cases hc
  · split at hc
    · rename_i E hu
      cases hc
      obtain ⟨_, h1, h2⟩ := evX_ok hs hx; cases h2
      haveI : TUnd c.P t (.slice E) := ⟨hu⟩
      exact ⟨_, Qt_lenSl ho h1, .int _ _⟩
    · cases hc
  · split at hc
    · rename_i hu
      cases hc
      obtain ⟨_, h1, h2⟩ := evX_ok hs hx; cases h2
      haveI : TUnd c.P t .string := ⟨hu⟩
      exact ⟨_, Qt_lenStr ho h1, .int _ _⟩
    · cases hc
  · obtain ⟨x', h1, h2⟩ := evX_ok hs hx
    split at hc
    · rename_i n E hu
      cases hc
      refine ⟨_, Qt_of_run (by simp [ho]) (fun ρ hρ w _ => ?_), .int _ _⟩
      simp [execOp, ho, resolve, invoke, builtin, Builtin.len_, hρ x _ h1, run_underlying hu, goInt]
    · rename_i e hu
      split at hc
      · rename_i n E hu2
        cases hc
        refine ⟨_, Qt_of_run (by simp [ho]) (fun ρ hρ w _ => ?_), .int _ _⟩
        simp [execOp, ho, resolve, invoke, builtin, Builtin.len_, hρ x _ h1, run_underlying hu, run_underlying hu2, goInt]
      · cases hc
    · cases hc
  · cases hc

/-- The least, the greatest of whole numbers. -/
def minX (gt : Bool) : Option (List V) → Option V
  | some [.int k a, .int k' b] => match decide (k = k') with
    | true => match gt with
      | false => some (.int k (if b < a then b else a))
      | true => some (.int k (if b > a then b else a))
    | false => none
  | _ => none
theorem minX_ok {s : S} {gt : Bool} {args : Array Operand} {tys : Array TypeId} {v : V} (ho : o.op = .call { callee := .builtin (if gt then .max else .min), args := args, argTypes := tys }) (hc : minX gt (evsX s args.toList) = some v) (hs : CovS bs s σs) : ∃ v', Qt c σs Ls o v' ∧ RV bs v v' := by
  generalize hx : evsX s args.toList = e1 at hc
  unfold minX at hc
  split at hc
  · rename_i k a k' b
    split at hc
    · rename_i hk
      obtain rfl := of_decide_eq_true hk
      obtain ⟨l', h1, h2⟩ := evsX_ok hs hx
      cases h2; rename_i h3 h2; cases h3
      cases h2; rename_i h3 h2; cases h3
      cases h2
      split at hc
      · cases hc
        refine ⟨_, Qt_of_run (by simp [ho]) (fun ρ hρ w _ => ?_), .int _ _⟩
        have := evs_mapA hρ h1
        simp [execOp, ho, resolve, invoke, builtin, this, Builtin.min_, Builtin.min2]
      · cases hc
        refine ⟨_, Qt_of_run (by simp [ho]) (fun ρ hρ w _ => ?_), .int _ _⟩
        have := evs_mapA hρ h1
        simp [execOp, ho, resolve, invoke, builtin, this, Builtin.max_, Builtin.max2]
    · cases hc
  · cases hc

/-- A struct or an array, built of parts. -/
def fillX (pl : Nat → Option (Nat × Nat)) (N : Nat) (z : List V) : List (Nat × V) → Option (List V)
  | [] => some z
  | (i, v) :: r => match pl i with
    | some (off, n) => match Nat.beq v.cells.length n, Nat.ble (Nat.add off n) N with
      | true, true => fillX pl N (z.take off ++ v.cells ++ z.drop (Nat.add off n)) r
      | _, _ => none
    | none => none
def RVp (bs : Bs) : List (Nat × V) → List (Nat × Value) → Prop
  | [], l => l = []
  | (i, v) :: r, l => ∃ v' r', l = (i, v') :: r' ∧ RV bs v v' ∧ RVp bs r r'
theorem fillX_ok {pl : Nat → Option (Nat × Nat)} {N : Nat} : ∀ {parts : List (Nat × V)} {parts' : List (Nat × Value)} {z l : List V} {z' : List Value}, fillX pl N z parts = some l → RVp bs parts parts' → RVs bs z z' → z.length = N → ∃ l', Instr.fill pl z'.toArray parts' = some l' ∧ RVs bs l l'.toList
  | [], _, z, l, z', h, hp, hz, _ => by cases h; cases hp; exact ⟨_, rfl, by simpa using hz⟩
  | (i, v) :: r, _, z, l, z', h, ⟨v', r', e, hv, hr⟩, hz, hN => by
    subst e
    simp only [fillX] at h
    split at h
    · rename_i off n hpl
      split at h
      · rename_i h1 h2
        have h3 := Nat.eq_of_beq_eq_true h1
        have h4 : off + n ≤ N := Nat.le_of_ble_eq_true h2
        have hc := hv.cells
        have hl := hc.length
        have hzl := hz.length
        simp only [Array.length_toList] at hl
        have e1 : (v'.cells.zipIdx.foldl (fun (cs : Array Value) (p : Value × Nat) => cs.setIfInBounds (off + p.2) p.1) z'.toArray) = putR z'.toArray off v'.cells := by
          have hf := fold_put v'.cells.toList 0 off z'.toArray (by simp; omega)
          rw [← Array.foldl_toList, Array.toList_zipIdx, hf]
          simp
        have hput : RVs bs (z.take off ++ v.cells ++ z.drop (off + n)) (putR z'.toArray off v'.cells).toList := by
          simp only [putR]
          rw [← hl, h3]
          exact ((hz.take off).append hc).append (hz.drop (off + n))
        obtain ⟨l', h5, h6⟩ := fillX_ok (z' := (putR z'.toArray off v'.cells).toList) h hr hput (by simp; omega)
        refine ⟨l', ?_, h6⟩
        simp only [Instr.fill, hpl]
        rw [if_neg (by simp; omega)]
        have e2 : (putR z'.toArray off v'.cells).toList.toArray = putR z'.toArray off v'.cells := by simp
        rw [e2, ← e1] at h5
        exact h5
      · cases h
    · cases h

def evpX (s : S) : List (Nat × Operand) → Option (List (Nat × V))
  | [] => some []
  | (i, x) :: r => match evX s x, evpX s r with
    | some v, some l => some ((i, v) :: l)
    | _, _ => none
theorem evpX_ok {s : S} (hs : CovS bs s σs) : ∀ {xs : List (Nat × Operand)} {l : List (Nat × V)}, evpX s xs = some l → ∃ l', evp σs xs = some l' ∧ RVp bs l l'
  | [], _, h => by cases h; exact ⟨[], rfl, rfl⟩
  | (i, x) :: r, l, h => by
    simp only [evpX] at h
    split at h
    · rename_i v l h1 h2
      cases h
      obtain ⟨v', h3, h4⟩ := evX_ok hs h1
      obtain ⟨l', h5, h6⟩ := evpX_ok hs h2
      exact ⟨(i, v') :: l', by simp [evp, h3, h5], v', l', rfl, h4, h6⟩
    · cases h

def zeroX (P : Program) (t : TypeId) : Option (List V) := match P.info? t with
  | some i => match i.zero with
    | some z => V.ofConsts z.cells.toList
    | none => none
  | none => none
def placesX (P : Program) : List Field → Option (List (Nat × Nat))
  | [] => some []
  | f :: r => match sizeX P f.type, placesX P r with
    | some n, some l => some ((f.offset, n) :: l)
    | _, _ => none
theorem placesX_ok {P : Program} : ∀ {fs : List Field} {l : List (Nat × Nat)}, placesX P fs = some l → fs.mapM (fun f => (P.info? f.type).map fun i => (f.offset, i.size)) = some l
  | [], _, h => by cases h; rfl
  | f :: r, l, h => by
    simp only [placesX] at h
    split at h
    · rename_i n l h1 h2
      cases h
      unfold sizeX at h1
      split at h1
      · rename_i i hi
        cases h1
        simp [List.mapM_cons, hi, placesX_ok h2]
      · cases h1
    · cases h
def buildX (P : Program) (t : TypeId) : Option (List (Nat × V)) → Option V
  | some parts => match zeroX P t with
    | some z => match P.underlying t with
      | some (.struct fs) => match placesX P fs.toList with
        | some pl => match fillX (fun i => pl[i]?) z.length z parts with
          | some l => some (.agg l)
          | none => none
        | none => none
      | some (.array _ e) => match sizeX P e with
        | some n => match fillX (fun i => some (Nat.mul i n, n)) z.length z parts with
          | some l => some (.agg l)
          | none => none
        | none => none
      | _ => none
    | none => none
  | none => none
theorem buildX_ok {s : S} {t : TypeId} {parts : Array (Nat × Operand)} {v : V} (ho : o.op = .build t parts) (hc : buildX c.P t (evpX s parts.toList) = some v) (hs : CovS bs s σs) : ∃ v', Qt c σs Ls o v' ∧ RV bs v v' := by
  generalize hx : evpX s parts.toList = e1 at hc
  unfold buildX at hc
  split at hc
  · rename_i ps
    obtain ⟨ps', h1, h2⟩ := evpX_ok hs hx
    split at hc
    · rename_i z hz
      unfold zeroX at hz
      split at hz
      · rename_i it hi
        split at hz
        · rename_i zv hzv
          have hzr := V.ofConsts_ok (bs := bs) hz
          have fin : ∀ l', c.P.built t ps' = some l' → RVs bs (match v with | .agg l => l | _ => []) l'.toList → (∃ l, v = .agg l) → ∃ v', Qt c σs Ls o v' ∧ RV bs v v' := fun l' hb hr ⟨l, hl⟩ => by
            subst hl
            refine ⟨.agg l', Qt_of_run (by simp [ho]) (fun ρ hρ w _ => ?_), by simpa using RV.agg hr⟩
            have h3 := evp_map hρ h1
            have h4 := run_build (P := c.P) w t (parts.map fun (i, x) => (i, ρ x)) l' (by rw [Array.toList_map, h3]; exact hb)
            simp [execOp, ho, h4]
          split at hc
          · rename_i fs hu
            split at hc
            · rename_i pl hpl
              split at hc
              · rename_i l hl
                cases hc
                obtain ⟨l', h5, h6⟩ := fillX_ok hl h2 hzr rfl
                refine fin l' ?_ h6 ⟨_, rfl⟩
                have h7 := placesX_ok hpl
                simp only [Program.built, hi, hu, hzv, h7]
                simpa using h5
              · cases hc
            · cases hc
          · rename_i q e hu
            split at hc
            · rename_i n hn
              split at hc
              · rename_i l hl
                cases hc
                obtain ⟨l', h5, h6⟩ := fillX_ok hl h2 hzr rfl
                refine fin l' ?_ h6 ⟨_, rfl⟩
                unfold sizeX at hn
                split at hn
                · rename_i ie hie
                  cases hn
                  simp only [Program.built, hi, hu, hzv, hie]
                  simpa using h5
                · cases hn
              · cases hc
            · cases hc
          · cases hc
        · cases hz
      · cases hz
    · cases hc
  · cases hc

/-- A cut of a slice or a text. -/
def boundX (d : Nat) : Option (Option V) → Option Nat
  | none => some d
  | some (some (.int _ (.ofNat i))) => some i
  | _ => none
def sliceX (P : Program) (t : TypeId) (x : Option V) (lo hi mx : Option (Option V)) : Option V :=
  match mx with
  | some _ => none
  | none => match x with
    | some (.sl k off len sz ex) => match P.underlying t with
      | some (.slice E) => match sizeX P E, boundX 0 lo, boundX len hi with
        | some n, some l, some h => match Nat.ble l h, Nat.ble h len, Nat.beq n sz with
          | true, true, true => some (.sl k (Nat.add off (Nat.mul l n)) (Nat.sub h l) sz (ex && Nat.beq h len))
          | _, _, _ => none
        | _, _, _ => none
      | _ => none
    | some .slN => match P.underlying t with
      | some (.slice E) => match sizeX P E, boundX 0 lo, boundX 0 hi with
        | some _, some 0, some 0 => some .slN
        | _, _, _ => none
      | _ => none
    | some (.str s) => match P.underlying t with
      | some .string => match boundX 0 lo, boundX s.size hi with
        | some l, some h => match Nat.ble l h, Nat.ble h s.size with
          | true, true => some (.str (s.extract l h))
          | _, _ => none
        | _, _ => none
      | _ => none
    | _ => none

theorem boundX_run {P : Program} {s : S} (hs : CovS bs s σs) {ρ : Operand → Value} (hρ : ∀ x u, ev σs x = some u → ρ x = u) {d y : Nat} {lo : Option Operand} {l : Nat} {code : BoundsCode} (h : boundX d (lo.map (evX s)) = some l) (hy : l ≤ y) (w : World) :
    (match lo.map ρ with | some v => Instr.sliceBound v y code | none => pure d).run P w = .ok l w := by
  cases lo with
  | none => simp [boundX] at h; subst h; rfl
  | some x =>
    simp only [Option.map_some] at h ⊢
    generalize hx : evX s x = e at h
    unfold boundX at h
    split at h
    · rename_i h0; cases h0
    · rename_i k i h0
      cases h
      cases h0
      obtain ⟨_, h1, h2⟩ := evX_ok hs hx; cases h2
      simp [hρ x _ h1, Instr.sliceBound, asIntOf, hy]
    · cases h

theorem boundX_val {s : S} (hs : CovS bs s σs) {d : Nat} {x : Operand} {l : Nat} (h : boundX d (some (evX s x)) = some l) : ∃ k, ev σs x = some (.int k (l : Int)) := by
  generalize hx : evX s x = e at h
  unfold boundX at h
  split at h
  · rename_i h0; cases h0
  · rename_i k i h0
    cases h
    cases h0
    obtain ⟨_, h1, h2⟩ := evX_ok hs hx; cases h2
    exact ⟨k, h1⟩
  · cases h

theorem sliceX_ok {s : S} {t : TypeId} {x : Operand} {lo hi mx : Option Operand} {v : V} (ho : o.op = .slice t x lo hi mx) (hc : sliceX c.P t (evX s x) (lo.map (evX s)) (hi.map (evX s)) (mx.map (evX s)) = some v) (hs : CovS bs s σs) : ∃ v', Qt c σs Ls o v' ∧ RV bs v v' := by
  generalize hx : evX s x = e1 at hc
  unfold sliceX at hc
  split at hc
  · cases hc
  · rename_i hmx
    obtain rfl : mx = none := by cases mx with
      | none => rfl
      | some _ => cases hmx
    split at hc
    · rename_i k off len sz ex
      obtain ⟨_, h1, h2⟩ := evX_ok hs hx
      obtain ⟨b, base, av, off', cap, rfl, hk, q1, q2, q3, q4⟩ := h2.sl_inv
      split at hc
      · rename_i E hu
        split at hc
        · rename_i n l h hn hl hh
          split at hc
          · rename_i c1 c2 c3
            cases hc
            have d1 : l ≤ h := Nat.le_of_ble_eq_true c1
            have d2 : h ≤ len := Nat.le_of_ble_eq_true c2
            obtain rfl := Nat.eq_of_beq_eq_true c3
            have hut : c.P.underlying t = some (.slice (c.P.elem t)) := by rw [elem_of hu]; exact hu
            have hsz := (sizeX_ok hn).h
            refine ⟨sliced (some ⟨b, off', none⟩) l h cap n, Qt_of_run (by simp [ho]) (fun ρ hρ w _ => ?_), ?_⟩
            · have e1 : ∀ (lo hi : Option Value), (Instr.sliceAt t (.slice (some ⟨b, off', none⟩) len cap) lo hi none).run c.P w = (Instr.slice t (.slice (some ⟨b, off', none⟩) len cap) lo hi none).run c.P w := fun lo hi => run_sliceAt_slice (P := c.P) w t _ lo hi none hut
              cases lo with
              | none =>
                simp only [Option.map_none, boundX, Option.some.injEq] at hl
                subst hl
                cases hi with
                | none =>
                  simp only [Option.map_none, boundX, Option.some.injEq] at hh
                  subst hh
                  have h3 := run_slice_all (P := c.P) w t (some ⟨b, off', none⟩) len cap hut
                  rw [elem_of hu, hsz] at h3
                  simp [execOp, ho, hρ x _ h1, e1, h3, Result.andThen]
                | some y =>
                  obtain ⟨kk, h5⟩ := boundX_val hs hh
                  have h3 := run_slice_h (P := c.P) w t (some ⟨b, off', none⟩) len cap hut kk h (by omega) (by omega)
                  rw [elem_of hu, hsz] at h3
                  simp [execOp, ho, hρ x _ h1, hρ y _ h5, e1, h3, Result.andThen]
              | some z =>
                obtain ⟨kz, h6⟩ := boundX_val hs hl
                cases hi with
                | none =>
                  simp only [Option.map_none, boundX, Option.some.injEq] at hh
                  subst hh
                  have h3 := run_slice_l (P := c.P) w t (some ⟨b, off', none⟩) len cap hut kz l (by omega) (by omega)
                  rw [elem_of hu, hsz] at h3
                  simp [execOp, ho, hρ x _ h1, hρ z _ h6, e1, h3, Result.andThen]
                | some y =>
                  obtain ⟨kk, h5⟩ := boundX_val hs hh
                  have h3 := run_slice_lh (P := c.P) w t (some ⟨b, off', none⟩) len cap hut kz kk l h (by omega) (by omega) (by omega)
                  rw [elem_of hu, hsz] at h3
                  simp [execOp, ho, hρ x _ h1, hρ y _ h5, hρ z _ h6, e1, h3, Result.andThen]
            · rw [sliced_eq]
              have hm1 : (cap - l) * n + l * n = cap * n := by rw [← Nat.add_mul]; congr 1; omega
              refine .sl (fun e => by
                  simp only [Bool.and_eq_true] at e
                  obtain ⟨rfl, e2⟩ := e
                  have := h2.sl_ex
                  have := Nat.eq_of_beq_eq_true e2
                  show cap - l = h - l
                  omega) hk (by show h - l ≤ cap - l; omega) (by omega) ?_ (by show off + l * n + (cap - l) * n ≤ av; omega)
              unfold slOff
              by_cases e : cap = l
              · right
                rw [if_pos e]
                refine ⟨by omega, ?_⟩
                rcases q3 with q3 | q3 <;> omega
              · left
                rw [if_neg e]
                show off' + l * n = base + (off + l * n)
                omega
          · cases hc
        · cases hc
      · cases hc
    · obtain ⟨_, h1, h2⟩ := evX_ok hs hx; cases h2
      split at hc
      · rename_i E hu
        split at hc
        · rename_i n0 hsz hl hh
          cases hc
          have hut : c.P.underlying t = some (.slice (c.P.elem t)) := by rw [elem_of hu]; exact hu
          refine ⟨.slice none 0 0, Qt_of_run (by simp [ho]) (fun ρ hρ w _ => ?_), .slN⟩
          obtain ⟨n, hn⟩ : ∃ n, sizeX c.P E = some n := ⟨n0, hsz⟩
          have hsz2 := (sizeX_ok hn).h
          have e1 : ∀ (lo hi : Option Value), (Instr.sliceAt t (.slice none 0 0) lo hi none).run c.P w = (Instr.slice t (.slice none 0 0) lo hi none).run c.P w := fun lo hi => run_sliceAt_slice (P := c.P) w t _ lo hi none hut
          cases lo with
          | none =>
            cases hi with
            | none =>
              have h3 := run_slice_all (P := c.P) w t none 0 0 hut
              rw [elem_of hu, hsz2] at h3
              simp [execOp, ho, hρ x _ h1, e1, h3, Result.andThen, sliced]
            | some y =>
              obtain ⟨kk, h5⟩ := boundX_val hs hh
              have h3 := run_slice_h (P := c.P) w t none 0 0 hut kk 0 (by omega) (by omega)
              rw [elem_of hu, hsz2] at h3
              have h7 := hρ y _ h5
              rw [show ((0 : Nat) : Int) = 0 from rfl] at h7
              simp [execOp, ho, hρ x _ h1, h7, e1, h3, Result.andThen, sliced]
          | some z =>
            obtain ⟨kz, h6⟩ := boundX_val hs hl
            have h8 := hρ z _ h6
            rw [show ((0 : Nat) : Int) = 0 from rfl] at h8
            cases hi with
            | none =>
              have h3 := run_slice_l (P := c.P) w t none 0 0 hut kz 0 (by omega) (by omega)
              rw [elem_of hu, hsz2] at h3
              simp [execOp, ho, hρ x _ h1, h8, e1, h3, Result.andThen, sliced]
            | some y =>
              obtain ⟨kk, h5⟩ := boundX_val hs hh
              have h3 := run_slice_lh (P := c.P) w t none 0 0 hut kz kk 0 0 (by omega) (by omega) (by omega)
              rw [elem_of hu, hsz2] at h3
              have h7 := hρ y _ h5
              rw [show ((0 : Nat) : Int) = 0 from rfl] at h7
              simp [execOp, ho, hρ x _ h1, h7, h8, e1, h3, Result.andThen, sliced]
        · cases hc
      · cases hc
    · obtain ⟨_, h1, h2⟩ := evX_ok hs hx; cases h2
      split at hc
      · rename_i hu
        split at hc
        · rename_i l h hl hh
          split at hc
          · rename_i c1 c2
            cases hc
            have d1 : l ≤ h := Nat.le_of_ble_eq_true c1
            have d2 := Nat.le_of_ble_eq_true c2
            refine ⟨_, Qt_of_run (by simp [ho]) (fun ρ hρ w _ => ?_), .str _⟩
            cases lo with
            | none =>
              simp only [Option.map_none, boundX, Option.some.injEq] at hl
              subst hl
              cases hi with
              | none =>
                simp only [Option.map_none, boundX, Option.some.injEq] at hh
                subst hh
                simp [execOp, ho, hρ x _ h1, Instr.sliceAt, run_underlying hu, Instr.slice, Instr.sliceBounds]
              | some y =>
                obtain ⟨kk, h5⟩ := boundX_val hs hh
                simp [execOp, ho, hρ x _ h1, hρ y _ h5, Instr.sliceAt, run_underlying hu, Instr.slice, Instr.sliceBounds, Instr.sliceBound, asIntOf, d2]
            | some z =>
              obtain ⟨kz, h6⟩ := boundX_val hs hl
              cases hi with
              | none =>
                simp only [Option.map_none, boundX, Option.some.injEq] at hh
                subst hh
                simp [execOp, ho, hρ x _ h1, hρ z _ h6, Instr.sliceAt, run_underlying hu, Instr.slice, Instr.sliceBounds, Instr.sliceBound, asIntOf, d1]
              | some y =>
                obtain ⟨kk, h5⟩ := boundX_val hs hh
                simp [execOp, ho, hρ x _ h1, hρ y _ h5, hρ z _ h6, Instr.sliceAt, run_underlying hu, Instr.slice, Instr.sliceBounds, Instr.sliceBound, asIntOf, d1, d2]
          · cases hc
        · cases hc
      · cases hc
    · cases hc

/-- A cut with a capacity of its own. -/
def slice3X (P : Program) (t : TypeId) (x : Option V) (lo hi mx : Option (Option V)) : Option V :=
  match x, hi, mx with
  | some (.sl k off len sz _), some hi, some mx => match P.underlying t with
    | some (.slice E) => match sizeX P E, boundX 0 lo, boundX 0 (some hi), boundX 0 (some mx) with
      | some n, some l, some h, some m => match Nat.ble l h, Nat.ble h m, Nat.ble m len, Nat.beq n sz with
        | true, true, true, true => some (.sl k (Nat.add off (Nat.mul l n)) (Nat.sub h l) sz (Nat.beq h m))
        | _, _, _, _ => none
      | _, _, _, _ => none
    | _ => none
  | some .slN, some hi, some mx => match P.underlying t with
    | some (.slice E) => match sizeX P E, boundX 0 lo, boundX 0 (some hi), boundX 0 (some mx) with
      | some _, some 0, some 0, some 0 => some .slN
      | _, _, _, _ => none
    | _ => none
  | _, _, _ => none
theorem slice3X_ok {s : S} {t : TypeId} {x : Operand} {lo hi mx : Option Operand} {v : V} (ho : o.op = .slice t x lo hi mx) (hc : slice3X c.P t (evX s x) (lo.map (evX s)) (hi.map (evX s)) (mx.map (evX s)) = some v) (hs : CovS bs s σs) : ∃ v', Qt c σs Ls o v' ∧ RV bs v v' := by
  generalize hx : evX s x = e1 at hc
  cases hi with
  | none => unfold slice3X at hc; split at hc <;> first | (cases hc; done) | (rename_i h1 h2; cases h1)
  | some y =>
    cases mx with
    | none => unfold slice3X at hc; split at hc <;> first | (cases hc; done) | (rename_i h1 h2; cases h2)
    | some z =>
      simp only [Option.map_some] at hc
      unfold slice3X at hc
      split at hc
      · rename_i k off len sz ex hi' mx' g1 g2
        cases g1; cases g2
        obtain ⟨_, h1, h2⟩ := evX_ok hs hx
        obtain ⟨b, base, av, off', cap, rfl, hk, q1, q2, q3, q4⟩ := h2.sl_inv
        split at hc
        · rename_i E hu
          split at hc
          · rename_i n l h m hn hl hh hm
            split at hc
            · rename_i c1 c2 c3 c4
              cases hc
              have d1 : l ≤ h := Nat.le_of_ble_eq_true c1
              have d2 : h ≤ m := Nat.le_of_ble_eq_true c2
              have d3 : m ≤ len := Nat.le_of_ble_eq_true c3
              have d4 : m ≤ cap := Nat.le_trans d3 q1
              obtain rfl := Nat.eq_of_beq_eq_true c4
              have hut : c.P.underlying t = some (.slice (c.P.elem t)) := by rw [elem_of hu]; exact hu
              have hsz := (sizeX_ok hn).h
              obtain ⟨k1, h5⟩ := boundX_val hs hh
              obtain ⟨k2, h6⟩ := boundX_val hs hm
              refine ⟨.slice (some (if m = l then ⟨b, off', none⟩ else (⟨b, off', none⟩ : Addr).add (l * n))) (h - l) (m - l), Qt_of_run (by simp [ho]) (fun ρ hρ w _ => ?_), ?_⟩
              · have e1 : ∀ (lo hi mx : Option Value), (Instr.sliceAt t (.slice (some ⟨b, off', none⟩) len cap) lo hi mx).run c.P w = (Instr.slice t (.slice (some ⟨b, off', none⟩) len cap) lo hi mx).run c.P w := fun lo hi mx => run_sliceAt_slice (P := c.P) w t _ lo hi mx hut
                cases lo with
                | none =>
                  simp only [Option.map_none, boundX, Option.some.injEq] at hl
                  subst hl
                  by_cases e : m = 0
                  · subst e
                    obtain rfl : h = 0 := by omega
                    have h5' := hρ y _ h5
                    have h6' := hρ z _ h6
                    rw [show ((0 : Nat) : Int) = 0 from rfl] at h5' h6'
                    simp [execOp, ho, hρ x _ h1, h5', h6', e1, Instr.slice, run_underlying hu, Instr.sliceBounds, Instr.sliceBound, asIntOf, hsz]
                  · simp [execOp, ho, hρ x _ h1, hρ y _ h5, hρ z _ h6, e1, Instr.slice, run_underlying hu, Instr.sliceBounds, Instr.sliceBound, asIntOf, d2, d4, hsz, e]
                | some u =>
                  obtain ⟨k3, h7⟩ := boundX_val hs hl
                  by_cases e : m = l
                  · subst e
                    obtain rfl : h = m := by omega
                    simp [execOp, ho, hρ x _ h1, hρ y _ h5, hρ z _ h6, hρ u _ h7, e1, Instr.slice, run_underlying hu, Instr.sliceBounds, Instr.sliceBound, asIntOf, d4, hsz]
                  · simp [execOp, ho, hρ x _ h1, hρ y _ h5, hρ z _ h6, hρ u _ h7, e1, Instr.slice, run_underlying hu, Instr.sliceBounds, Instr.sliceBound, asIntOf, d1, d2, d4, hsz, e]
              · have hm1 : (m - l) * n + l * n = m * n := by rw [← Nat.add_mul]; congr 1; omega
                have hm2 : m * n ≤ cap * n := Nat.mul_le_mul_right _ d4
                have hex : Nat.beq h m = true → m - l = h - l := fun e => by have := Nat.eq_of_beq_eq_true e; omega
                by_cases e : m = l
                · rw [if_pos e]
                  refine .sl hex hk (by show h - l ≤ m - l; omega) (by omega) (.inr ⟨by omega, ?_⟩) (by show off + l * n + (m - l) * n ≤ av; omega)
                  rcases q3 with q3 | q3 <;> omega
                · rw [if_neg e, addr_add]
                  exact .sl hex hk (by show h - l ≤ m - l; omega) (by omega) (.inl (by show off' + l * n = base + (off + l * n); omega)) (by show off + l * n + (m - l) * n ≤ av; omega)
            · cases hc
          · cases hc
        · cases hc
      · rename_i hi' mx' g1 g2
        cases g1; cases g2
        obtain ⟨_, h1, h2⟩ := evX_ok hs hx; cases h2
        split at hc
        · rename_i E hu
          split at hc
          · rename_i n hn hl hh hm
            cases hc
            have hut : c.P.underlying t = some (.slice (c.P.elem t)) := by rw [elem_of hu]; exact hu
            have hsz := (sizeX_ok hn).h
            obtain ⟨k1, h5⟩ := boundX_val hs hh
            obtain ⟨k2, h6⟩ := boundX_val hs hm
            refine ⟨.slice none 0 0, Qt_of_run (by simp [ho]) (fun ρ hρ w _ => ?_), .slN⟩
            have e1 : ∀ (lo hi mx : Option Value), (Instr.sliceAt t (.slice none 0 0) lo hi mx).run c.P w = (Instr.slice t (.slice none 0 0) lo hi mx).run c.P w := fun lo hi mx => run_sliceAt_slice (P := c.P) w t _ lo hi mx hut
            have h5' := hρ y _ h5
            have h6' := hρ z _ h6
            rw [show ((0 : Nat) : Int) = 0 from rfl] at h5' h6'
            cases lo with
            | none => simp [execOp, ho, hρ x _ h1, h5', h6', e1, Instr.slice, run_underlying hu, Instr.sliceBounds, Instr.sliceBound, asIntOf, hsz]
            | some u =>
              obtain ⟨k3, h7⟩ := boundX_val hs hl
              have h7' := hρ u _ h7
              rw [show ((0 : Nat) : Int) = 0 from rfl] at h7'
              simp [execOp, ho, hρ x _ h1, h5', h6', h7', e1, Instr.slice, run_underlying hu, Instr.sliceBounds, Instr.sliceBound, asIntOf, hsz]
          · cases hc
        · cases hc
      · cases hc

/-- A cut of an array, by its address. -/
def lastB (c : T V) (i : Nat) : Bool := match c.get i with
  | some _ => true
  | none => false
def sliceArrX (P : Program) (h : T O) (t : TypeId) (x : Option V) (lo hi mx : Option (Option V)) : Option (V × Option Nat) :=
  match mx with
  | some _ => none
  | none => match x with
    | some (.ptr k off) => match P.underlying t with
      | some (.array n E) => match sizeX P E, boundX 0 lo, boundX n hi, h.get k with
        | some sz, some l, some r, some (.cells c _) => match Nat.ble l r, Nat.ble r n, Nat.ble n 1000000, Nat.ble 1 (Nat.mul n sz), lastB c (Nat.sub (Nat.add off (Nat.mul n sz)) 1) with
          | true, true, true, true, true => some (.sl k (Nat.add off (Nat.mul l sz)) (Nat.sub r l) sz (Nat.beq r n), some k)
          | _, _, _, _, _ => none
        | _, _, _, _ => none
      | _ => none
    | _ => none
theorem sliceArrX_ok {s : S} {h : T O} {t : TypeId} {x : Operand} {lo hi mx : Option Operand} {v : V} {rd : Option Nat} (ho : o.op = .slice t x lo hi mx) (hc : sliceArrX c.P h t (evX s x) (lo.map (evX s)) (hi.map (evX s)) (mx.map (evX s)) = some (v, rd)) (hs : CovS bs s σs) (hm : ∀ k ob, rd = some k → h.get k = some ob → At bs Ls k ob) : ∃ v', Qt c σs Ls o v' ∧ RV bs v v' := by
  generalize hx : evX s x = e1 at hc
  unfold sliceArrX at hc
  split at hc
  · cases hc
  · rename_i hmx
    obtain rfl : mx = none := by cases mx with
      | none => rfl
      | some _ => cases hmx
    split at hc
    · rename_i k off
      obtain ⟨_, h1, h2⟩ := evX_ok hs hx
      obtain ⟨b, base, av, rfl, hk⟩ := h2.ptr_inv
      split at hc
      · rename_i n E hu
        split at hc
        · rename_i sz l r cc E' hsz hl hh hg
          split at hc
          · rename_i c1 c2 c3 c4 c5
            cases hc
            have d1 : l ≤ r := Nat.le_of_ble_eq_true c1
            have d2 : r ≤ n := Nat.le_of_ble_eq_true c2
            have d3 : n ≤ 1000000 := Nat.le_of_ble_eq_true c3
            have d4 : 1 ≤ n * sz := Nat.le_of_ble_eq_true c4
            have hav : off + n * sz ≤ av := by
              obtain ⟨b', base', av', i, o', a1, a2, cs, rfl, a3, a4⟩ := hm k _ rfl hg
              rw [hk] at a1; cases a1
              unfold lastB at c5
              split at c5
              · rename_i u hu'
                have h5 := (a4 _ _ hu').1
                have e : Nat.sub (Nat.add off (Nat.mul n sz)) 1 = off + n * sz - 1 := rfl
                rw [e] at h5; omega
              · cases c5
            have hsz' := (sizeX_ok hsz).h
            refine ⟨.slice (some (if n = l then ⟨b, base + off, none⟩ else (⟨b, base + off, none⟩ : Addr).add (l * sz))) (r - l) (n - l), Qt_of_run (by simp [ho]) (fun ρ hρ w _ => ?_), ?_⟩
            · cases lo with
              | none =>
                simp only [Option.map_none, boundX, Option.some.injEq] at hl
                subst hl
                cases hi with
                | none =>
                  simp only [Option.map_none, boundX, Option.some.injEq] at hh
                  subst hh
                  simp [execOp, ho, hρ x _ h1, Instr.sliceAt, run_underlying hu, Instr.sureAddr, Instr.sliceBounds, hsz']
                | some y =>
                  obtain ⟨kk, h5⟩ := boundX_val hs hh
                  simp [execOp, ho, hρ x _ h1, hρ y _ h5, Instr.sliceAt, run_underlying hu, Instr.sureAddr, Instr.sliceBounds, Instr.sliceBound, asIntOf, d2, hsz']
              | some z =>
                obtain ⟨kz, h6⟩ := boundX_val hs hl
                cases hi with
                | none =>
                  simp only [Option.map_none, boundX, Option.some.injEq] at hh
                  subst hh
                  simp [execOp, ho, hρ x _ h1, hρ z _ h6, Instr.sliceAt, run_underlying hu, Instr.sureAddr, Instr.sliceBounds, Instr.sliceBound, asIntOf, d1, hsz']
                | some y =>
                  obtain ⟨kk, h5⟩ := boundX_val hs hh
                  simp [execOp, ho, hρ x _ h1, hρ y _ h5, hρ z _ h6, Instr.sliceAt, run_underlying hu, Instr.sureAddr, Instr.sliceBounds, Instr.sliceBound, asIntOf, d1, d2, hsz']
            · have hm1 : (n - l) * sz + l * sz = n * sz := by rw [← Nat.add_mul]; congr 1; omega
              have hmax : n - l ≤ maxLen := by simp only [maxLen]; omega
              by_cases e : n = l
              · rw [if_pos e]
                exact .sl (fun e => by have := Nat.eq_of_beq_eq_true e; show n - l = r - l; omega) hk (by show r - l ≤ n - l; omega) hmax (.inr ⟨by omega, by omega⟩) (by show off + l * sz + (n - l) * sz ≤ av; omega)
              · rw [if_neg e, addr_add]
                exact .sl (fun e => by have := Nat.eq_of_beq_eq_true e; show n - l = r - l; omega) hk (by show r - l ≤ n - l; omega) hmax (.inl (by show base + off + l * sz = base + (off + l * sz); omega)) (by show off + l * sz + (n - l) * sz ≤ av; omega)
          · cases hc
        · cases hc
      · cases hc
    · cases hc

/-! ### bytes as a text -/
def bytesOf : List V → Option (List Int)
  | [] => some []
  | v :: r => match v with
    | .int .u8 n => match bytesOf r with
      | some l => some (n :: l)
      | none => none
    | _ => none
theorem bytesOf_ok : ∀ {l : List V} {ns : List Int} {l' : List Value}, bytesOf l = some ns → RVs bs l l' → l' = ns.map (Value.int .u8)
  | [], _, _, h, hl => by cases h; cases hl; rfl
  | v :: r, ns, _, h, .cons hv hl => by
    simp only [bytesOf] at h
    split at h
    · split at h
      · rename_i n l hl2
        cases h
        cases hv
        rw [bytesOf_ok hl2 hl]; rfl
      · cases h
    · cases h
theorem foldl_push : ∀ (ns : List Int) (r : ByteArray), ns.foldl (fun r n => r.push (UInt8.ofNat n.toNat)) r = ⟨r.data ++ (ns.map fun n => UInt8.ofNat n.toNat).toArray⟩
  | [], r => by simp
  | n :: ns, r => by
    simp only [List.foldl_cons, List.map_cons]
    rw [foldl_push ns]
    simp [ByteArray.push]
def textOfX (P : Program) (h : T O) (t t' : TypeId) : Option V → Option (V × Option Nat)
  | some .slN => match P.underlying t, P.underlying t' with
    | some (.slice e), some .string => match P.underlying e with
      | some (.int .u8) => some (.str .empty, none)
      | _ => none
    | _, _ => none
  | some (.sl k off len sz _) => match P.underlying t, P.underlying t', Nat.beq sz 1 with
    | some (.slice e), some .string, true => match P.underlying e, len with
      | some (.int .u8), 0 => some (.str .empty, none)
      | some (.int .u8), m + 1 => match rdX (h.get k) with
        | some c => match cellsX c (m + 1) off with
          | some l => match bytesOf l with
            | some ns => some (.str ⟨(ns.map fun n => UInt8.ofNat n.toNat).toArray⟩, some k)
            | none => none
          | none => none
        | none => none
      | _, _ => none
    | _, _, _ => none
  | _ => none
theorem textOfX_ok {s : S} {h : T O} {t t' : TypeId} {x : Operand} {v : V} {rd : Option Nat} (ho : o.op = .convert t t' x) (hc : textOfX c.P h t t' (evX s x) = some (v, rd)) (hs : CovS bs s σs) (hm : ∀ k ob, rd = some k → h.get k = some ob → At bs Ls k ob) : ∃ v', Qt c σs Ls o v' ∧ RV bs v v' := by
  generalize hx : evX s x = e1 at hc
  unfold textOfX at hc
  split at hc
  · obtain ⟨_, h1, h2⟩ := evX_ok hs hx; cases h2
    split at hc
    · rename_i e hu hu'
      split at hc
      · rename_i he
        cases hc
        refine ⟨.string .empty, Qt_of_run (by simp [ho]) (fun ρ hρ w _ => ?_), .str _⟩
        have := run_convert_bytes_string (P := c.P) w t t' e none 0 0 hu he hu'
        simp [execOp, ho, hρ x _ h1, this, Conv.bytesToString]
      · cases hc
    · cases hc
  · rename_i k off len sz ex
    obtain ⟨_, h1, h2⟩ := evX_ok hs hx
    obtain ⟨b, base, av, off', cap, rfl, hk, q1, q2, q3, q4⟩ := h2.sl_inv
    split at hc
    · rename_i e hu hu' hz
      obtain rfl := Nat.eq_of_beq_eq_true hz
      split at hc
      · rename_i he
        cases hc
        refine ⟨.string .empty, Qt_of_run (by simp [ho]) (fun ρ hρ w _ => ?_), .str _⟩
        have h3 := run_convert_bytes_string (P := c.P) w t t' e (some ⟨b, off', none⟩) 0 cap hu he hu'
        have h4 := run_bytesToString (P := c.P) w ⟨b, off', none⟩ 0 cap [] (by simpa using run_loadCells_list (P := c.P) w ⟨b, off', none⟩ [] (by simp))
        simp [execOp, ho, hρ x _ h1, h3, h4]
      · rename_i m he
        split at hc
        · rename_i cc hb
          split at hc
          · rename_i l hl
            split at hc
            · rename_i ns hns
              cases hc
              obtain ⟨ob, hob, hrd⟩ := rdX_ok (bs := bs) (base := base) (av := av) hb
              obtain ⟨b', base', av', i, o', a1, a2, aRO⟩ := hm k ob rfl hob
              rw [hk] at a1; cases a1
              obtain ⟨cs, E, fr, rfl, a3, a4⟩ := hrd aRO
              obtain ⟨l', e1, e2, e3, e4⟩ := cellsX_ok a4 (m + 1) off l hl
              obtain rfl := bytesOf_ok hns e1
              obtain rfl : off' = base + off := by omega
              rw [List.length_map] at e2
              refine ⟨_, Qt_of_run (by simp [ho]) (fun ρ hρ w hmem => ?_), .str _⟩
              have h3 := run_convert_bytes_string (P := c.P) w t t' e (some ⟨b, base + off, none⟩) (m + 1) cap hu he hu'
              have hl2 := run_loadCells_list (P := c.P) w ⟨b, base + off, none⟩ (ns.map (Value.int .u8)) (fun j v hj => by
                have hlt := (List.getElem?_eq_some_iff.1 hj).1
                rw [List.length_map] at hlt
                rw [Addr.add_mid, cell_of_row w b (base + off + j) cs E fr (hmem.at_ a2), e3 j (by omega)]
                exact hj)
              rw [List.length_map, e2] at hl2
              have h4 := run_bytesToString (P := c.P) w ⟨b, base + off, none⟩ (m + 1) cap ns hl2
              rw [foldl_push] at h4
              have h5 := hρ x _ h1
              simp only [Nat.succ_eq_add_one] at h5
              simp [execOp, ho, h5, h3, h4]
            · cases hc
          · cases hc
        · cases hc
      · cases hc
    · cases hc
  · cases hc

/-! ### maps that are read -/
end
mutual
/-- A value that holds no address, as the model has it. -/
def V.val : V → Option Value
  | .int k n => some (.int k n)
  | .bool b => some (.bool b)
  | .str s => some (.string s)
  | .agg l => match V.valL l with
    | some l' => some (.agg l'.toArray)
    | none => none
  | _ => none
def V.valL : List V → Option (List Value)
  | [] => some []
  | v :: r => match V.val v, V.valL r with
    | some u, some l => some (u :: l)
    | _, _ => none
end
mutual
theorem V.val_ok {bs : Bs} : ∀ {v : V} {v' u : Value}, RV bs v v' → V.val v = some u → v' = u
  | _, _, _, .int _ _, h => by simp only [V.val, Option.some.injEq] at h; exact h
  | _, _, _, .bool _, h => by simp only [V.val, Option.some.injEq] at h; exact h
  | _, _, _, .str _, h => by simp only [V.val, Option.some.injEq] at h; exact h
  | _, _, _, .agg hl, h => by
    simp only [V.val] at h
    split at h
    · rename_i l' hl'
      cases h
      rw [V.valL_ok hl hl']
    · cases h
  | _, _, _, .ptrN, h => by simp [V.val] at h
  | _, _, _, .ptr _, h => by simp [V.val] at h
  | _, _, _, .slN, h => by simp [V.val] at h
  | _, _, _, .sl _ _ _ _ _ _, h => by simp [V.val] at h
  | _, _, _, .fn _ _ _, h => by simp [V.val] at h
  | _, _, _, .nilf, h => by simp [V.val] at h
  | _, _, _, .ifc _ _, h => by simp [V.val] at h
  | _, _, _, .nili, h => by simp [V.val] at h
  | _, _, _, .mapN, h => by simp [V.val] at h
  | _, _, _, .map _, h => by simp [V.val] at h
  | _, _, _, .tup _, h => by simp [V.val] at h
  | _, _, _, .yld _, h => by simp [V.val] at h
theorem V.valL_ok {bs : Bs} : ∀ {l : List V} {l' u : List Value}, RVs bs l l' → V.valL l = some u → l' = u
  | _, _, _, .nil, h => by simp only [V.valL, Option.some.injEq] at h; exact h
  | _, _, _, .cons hv hl, h => by
    simp only [V.valL] at h
    split at h
    · rename_i h1 h2
      cases h
      rw [V.val_ok hv h1, V.valL_ok hl h2]
    · cases h
end
section
variable {c : Cx} {bs : Bs} {σs : List (Nat × Value)} {Ls : List (Nat × Obj)} {o : Oper}
/-- May this be a key? -/
def keyFs (rec : TypeId → V → Bool) (P : Program) (xs : List V) : List Field → Bool
  | [] => true
  | f :: r => match decide (f.name = "_") with
    | true => keyFs rec P xs r
    | false => match sizeX P f.type with
      | some n => match partX P f.type f.offset n xs with
        | some a => match rec f.type a with
          | true => keyFs rec P xs r
          | false => false
        | none => false
      | none => false
def keyEs (rec : TypeId → V → Bool) (P : Program) (e n : Nat) (xs : List V) : List Nat → Bool
  | [] => true
  | i :: r => match partX P e (Nat.mul i n) n xs with
    | some a => match rec e a with
      | true => keyEs rec P e n xs r
      | false => false
    | none => false
def keyK (P : Program) : Nat → TypeId → V → Bool
  | 0, _, _ => false
  | d + 1, t, x => match x, P.underlying t with
    | .int _ _, some (.int _) => true
    | .str _, some .string => true
    | .bool _, some .bool => true
    | .agg xs, some (.struct fs) => keyFs (keyK P d) P xs fs.toList
    | .agg xs, some (.array n e) => match sizeX P e with
      | some sz => keyEs (keyK P d) P e sz xs (List.range' 0 n 1)
      | none => false
    | _, _ => false
theorem keyK_run {P : Program} (em : Bool) : ∀ (d : Nat) {t : TypeId} {x : V} {x' : Value}, keyK P d t x = true → RV bs x x' → ∀ (q : Nat) (w : World), (Instr.checkKey em (d + q) t x').run P w = .ok () w
  | 0, _, _, _, h, _, _, _ => by cases h
  | d + 1, t, x, x', h, hx, q, w => by
    have ih := fun {t x x'} (h : keyK P d t x = true) (hx : RV bs x x') (w : World) => keyK_run em d h hx q w
    rw [show d + 1 + q = (d + q) + 1 by omega]
    simp only [keyK] at h
    split at h
    · rename_i hu; cases hx; rw [Instr.checkKey]; simp [run_underlying hu]
    · rename_i hu; cases hx; rw [Instr.checkKey]; simp [run_underlying hu]
    · rename_i hu; cases hx; rw [Instr.checkKey]; simp [run_underlying hu]
    · rename_i xs fs hu
      cases hx
      rename_i xs' hxs
      rw [Instr.checkKey]
      simp only [Sem.run_bind, run_underlying hu, Result.andThen_ok]
      rw [← Array.forIn_toList]
      generalize fs.toList = l at h
      clear hu
      induction l generalizing w with
      | nil => simp
      | cons f r ihl =>
        simp only [keyFs] at h
        split at h
        · rename_i hn
          have hn := of_decide_eq_true hn
          simp only [List.forIn_cons, Sem.run_bind, hn, ne_eq, not_true_eq_false, if_false, Sem.run_pure, Result.andThen_ok]
          exact ihl w h
        · rename_i hn
          have hn := of_decide_eq_false hn
          split at h
          · rename_i n hsz
            split at h
            · rename_i a ha
              obtain ⟨a', a1, a2⟩ := part_run ha (sizeX_ok hsz).h hxs
              split at h
              · rename_i hk
                have := ih hk a2 w
                simp only [List.forIn_cons, Sem.run_bind, ne_eq, hn, not_false_eq_true, if_true, a1, Result.andThen_ok, this, Sem.run_pure]
                exact ihl w h
              · cases h
            · cases h
          · cases h
    · rename_i xs n e hu
      split at h
      · rename_i sz hsz
        cases hx
        rename_i xs' hxs
        rw [Instr.checkKey]
        simp only [Sem.run_bind, run_underlying hu, Result.andThen_ok, Std.Legacy.Range.forIn_eq_forIn_range', Std.Legacy.Range.size, Nat.sub_zero, Nat.add_sub_cancel, Nat.div_one]
        generalize List.range' 0 n 1 = l at h ⊢
        clear hu
        induction l generalizing w with
        | nil => simp
        | cons i r ihl =>
          simp only [keyEs] at h
          split at h
          · rename_i a ha
            obtain ⟨a', a1, a2⟩ := part_run ha (sizeX_ok hsz).h hxs
            have a1' : ∀ w, (part e xs'.toArray (i * sz)).run P w = .ok a' w := a1
            split at h
            · rename_i hk
              have := ih hk a2 w
              simp only [List.forIn_cons, Sem.run_bind, (sizeX_ok hsz).h, a1', Result.andThen_ok, this, Sem.run_pure]
              exact ihl w h
            · cases h
          · cases h
      · cases h
    · cases h
def keyX (P : Program) (kt : TypeId) (d : TypeDesc) (k : V) : Bool := match d, k with
  | .int _, .int _ _ => true
  | .string, .str _ => true
  | .bool, .bool _ => true
  | .struct _, .agg _ => keyK P 8 kt k
  | .array _ _, .agg _ => keyK P 8 kt k
  | _, _ => false
theorem keyX_run {P : Program} {kt : TypeId} {d : TypeDesc} {k : V} {k' : Value} (hd : P.underlying kt = some d) (h : keyX P kt d k = true) (hk : RV bs k k') (e : Bool) (w : World) : (Instr.checkKey e 10000 kt k').run P w = .ok () w := by
  unfold keyX at h
  split at h <;> first | (cases h; done) | skip
  · cases hk; rw [Instr.checkKey]; simp [run_underlying hd]
  · cases hk; rw [Instr.checkKey]; simp [run_underlying hd]
  · cases hk; rw [Instr.checkKey]; simp [run_underlying hd]
  · exact keyK_run e 8 h hk 9992 w
  · exact keyK_run e 8 h hk 9992 w
/-- Are these keys the same? -/
def sameX (P : Program) (kt : TypeId) (d : TypeDesc) (a b : V) : Option Bool := match d, a, b with
  | .struct _, .agg _, .agg _ => sameG a b
  | .array _ _, .agg _, .agg _ => sameG a b
  | _, _, _ => match a.scal, b.scal with
    | some x, some y => Instr.sameNow d x y
    | _, _ => none
where sameG (a b : V) : Option Bool := match eqX P 8 kt a b with
  | some true => match a.val, b.val with
    | some x, some y => match Instr.sameBits 10000 y x with
      | true => some true
      | false => none
    | _, _ => none
  | r => r
/-- Keys that are compared at once, or by the comparing of two values. -/
def nowK : TypeDesc → Bool
  | .struct _ => false
  | .array _ _ => false
  | _ => true
def findX (P : Program) (kt : TypeId) (d : TypeDesc) (k : V) : List (V × V) → Option (Option V)
  | [] => some none
  | p :: r => match sameX P kt d k p.1 with
    | some true => some (some p.2)
    | some false => findX P kt d k r
    | none => none
theorem sameX_now {P : Program} {kt : TypeId} {d : TypeDesc} {a b : V} {a' b' : Value} {r : Bool} (hn : nowK d = true) (h : sameX P kt d a b = some r) (ha : RV bs a a') (hb : RV bs b b') : Instr.sameNow d a' b' = some r := by
  unfold sameX at h
  split at h
  · cases hn
  · cases hn
  · split at h
    · rename_i x y hx hy
      rw [V.scal_ok ha hx, V.scal_ok hb hy]; exact h
    · cases h
theorem sameNow_ask {d : TypeDesc} (hn : nowK d = false) (a b : Value) : Instr.sameNow d a b = none := by
  cases d <;> first | (cases hn; done) | (cases a <;> rfl)
theorem sameX_ask {P : Program} {kt : TypeId} {d : TypeDesc} {a b : V} {a' b' : Value} {r : Bool} (hn : nowK d = false) (h : sameX P kt d a b = some r) (ha : RV bs a a') (hb : RV bs b b') : (∀ w, (Op.equal kt a' b').run P w = .ok r w) ∧ (r = true → Instr.sameBits 10000 b' a' = true) := by
  have g : sameX.sameG P kt a b = some r := by
    unfold sameX at h
    split at h
    · exact h
    · exact h
    · split at h
      · rw [sameNow_ask hn] at h; cases h
      · cases h
  unfold sameX.sameG at g
  split at g
  · rename_i he
    split at g
    · rename_i x y hx hy
      split at g
      · rename_i hsb
        cases g
        refine ⟨fun w => eqX_ok 8 he ha hb (Op.maxDepth - 8) w, fun _ => ?_⟩
        rw [V.val_ok ha hx, V.val_ok hb hy]; exact hsb
      · cases g
    · cases g
  · rename_i hne
    cases r with
    | true => exact absurd g hne
    | false => exact ⟨fun w => eqX_ok 8 g ha hb (Op.maxDepth - 8) w, fun e => by cases e⟩

theorem keyThatStays_now {P : Program} {kt : TypeId} {d : TypeDesc} {k p : V} {k' p' : Value} (hn : nowK d = true) (hs : sameX P kt d k p = some true) (hk : RV bs k k') (hp : RV bs p p') (w : World) : (Instr.keyThatStays p' k').run P w = .ok k' w := by
  have hs := sameX_now hn hs hk hp
  unfold Instr.sameNow at hs
  split at hs
  · split at hs
    · rename_i hkk
      subst hkk
      simp at hs
      subst hs
      simp [Instr.keyThatStays, Instr.sameBits]
    · cases hs
  · simp only [Option.some.injEq] at hs
    have hs2 := (Go.MapKept.bytes_beq _ _).1 hs
    subst hs2
    simp [Instr.keyThatStays, Instr.sameBits, hs]
  · simp at hs
    subst hs
    simp [Instr.keyThatStays, Instr.sameBits]
  · cases hs
theorem keyThatStays_run {P : Program} {kt : TypeId} {d : TypeDesc} {k p : V} {k' p' : Value} (hs : sameX P kt d k p = some true) (hk : RV bs k k') (hp : RV bs p p') (w : World) : (Instr.keyThatStays p' k').run P w = .ok k' w := by
  cases hn : nowK d with
  | true => exact keyThatStays_now hn hs hk hp w
  | false => simp [Instr.keyThatStays, (sameX_ask hn hs hk hp).2 rfl]
/-- Where a key is found. -/
def Fnd (P : Program) (kt : TypeId) (d : TypeDesc) (k' : Value) (es : List MapEntry) (i : Nat) (a : Option (Nat × Value)) : Prop :=
  (nowK d = true ∧ Instr.findNow d k' es i = some a) ∨ (nowK d = false ∧ ∀ w, (Instr.findAsking kt k' es i).run P w = .ok a w)
theorem Fnd_nil {P : Program} {kt : TypeId} (d : TypeDesc) (k' : Value) (i : Nat) : Fnd P kt d k' [] i none := by
  cases hn : nowK d with
  | true => exact .inl ⟨hn, rfl⟩
  | false => exact .inr ⟨hn, fun w => rfl⟩
theorem Fnd_hit {P : Program} {kt : TypeId} {d : TypeDesc} {k p : V} {k' : Value} {e : MapEntry} (hs : sameX P kt d k p = some true) (hk : RV bs k k') (hp : RV bs p e.key) (es : List MapEntry) (i : Nat) : Fnd P kt d k' (e :: es) i (some (i, e.val)) := by
  cases hn : nowK d with
  | true => exact .inl ⟨hn, by simp [Instr.findNow, sameX_now hn hs hk hp]⟩
  | false => exact .inr ⟨hn, fun w => by simp [Instr.findAsking, (sameX_ask hn hs hk hp).1 w]⟩
theorem Fnd_skip {P : Program} {kt : TypeId} {d : TypeDesc} {k p : V} {k' : Value} {e : MapEntry} (hs : sameX P kt d k p = some false) (hk : RV bs k k') (hp : RV bs p e.key) {es : List MapEntry} {i : Nat} {a : Option (Nat × Value)} (h : Fnd P kt d k' es (i + 1) a) : Fnd P kt d k' (e :: es) i a := by
  rcases h with ⟨hn, h⟩ | ⟨hn, h⟩
  · exact .inl ⟨hn, by simp [Instr.findNow, sameX_now hn hs hk hp, h]⟩
  · exact .inr ⟨hn, fun w => by simp [Instr.findAsking, (sameX_ask hn hs hk hp).1 w, h w]⟩
theorem Fnd_run {P : Program} {kt : TypeId} {d : TypeDesc} {k' : Value} (hd : P.underlying kt = some d) {es : List MapEntry} {a : Option (Nat × Value)} (h : Fnd P kt d k' es 0 a) (w : World) : (Instr.findKey kt k' es).run P w = .ok a w := by
  rcases h with ⟨hn, h⟩ | ⟨hn, h⟩
  · exact Go.MapKept.run_findKey hd h
  · cases es with
    | nil =>
      have := h w
      simp [Instr.findAsking] at this
      subst this
      exact Go.MapKept.run_findKey hd rfl
    | cons e es =>
      have : Instr.findNow d k' (e :: es) 0 = none := by simp [Instr.findNow, sameNow_ask hn]
      simp only [Instr.findKey, Sem.run_bind, run_underlying hd, Result.andThen_ok, this]
      exact h w
theorem findX_ok {P : Program} {kt : TypeId} {d : TypeDesc} {k : V} {k' : Value} (hk : RV bs k k') : ∀ {l : List (V × V)} {es : List MapEntry} {i : Nat} {a : Option V}, RMap bs l es → findX P kt d k l = some a → (a = none ∧ Fnd P kt d k' es i none) ∨ ∃ v j e, a = some v ∧ Fnd P kt d k' es i (some (i + j, e.val)) ∧ es[j]? = some e ∧ RV bs v e.val ∧ (∃ q, l[j]? = some q ∧ q.2 = v ∧ sameX P kt d k q.1 = some true)
  | [], _, i, a, rfl, h => by cases h; exact .inl ⟨rfl, Fnd_nil d k' i⟩
  | p :: r, _, i, a, ⟨e, es', rfl, h1, h2, h3⟩, h => by
    simp only [findX] at h
    split at h
    · rename_i hs
      cases h
      exact .inr ⟨p.2, 0, e, rfl, Fnd_hit hs hk h1 _ _, rfl, h2, p, rfl, rfl, hs⟩
    · rename_i hs
      rcases findX_ok hk (i := i + 1) h3 h with ⟨e1, e2⟩ | ⟨v, j, e', e1, e2, e3, e4, e5⟩
      · exact .inl ⟨e1, Fnd_skip hs hk h1 e2⟩
      · refine .inr ⟨v, j + 1, e', e1, ?_, by simpa using e3, e4, by simpa using e5⟩
        have := Fnd_skip hs hk h1 e2
        rwa [show i + 1 + j = i + (j + 1) by omega] at this
    · cases h

def zeroVX (P : Program) (t : TypeId) : Option V := match P.info? t with
  | some i => match i.zero with
    | some z => V.ofConst z
    | none => none
  | none => none
theorem zeroVX_ok {P : Program} {t : TypeId} {z : V} (h : zeroVX P t = some z) : ∃ z', (∀ w, (zeroValue t).run P w = .ok z' w) ∧ RV bs z z' := by
  unfold zeroVX at h
  split at h
  · rename_i i hi
    split at h
    · rename_i zv hz
      exact ⟨zv, fun w => by simp [zeroValue, typeInfo, hi, hz], V.ofConst_ok h⟩
    · cases h
  · cases h
def okX (ok : Bool) (v : V) (b : Bool) : V := match ok with
  | true => .tup [v, .bool b]
  | false => v
def lookupX (P : Program) (h : T O) (t : TypeId) (ok : Bool) : Option V → Option V → Option (V × Option Nat)
  | some .mapN, some k => match P.underlying t with
    | some (.map kt et) => match P.underlying kt, zeroVX P et with
      | some d, some z => match keyX P kt d k with
        | true => some (okX ok z false, none)
        | false => none
      | _, _ => none
    | _ => none
  | some (.map m), some k => match P.underlying t with
    | some (.map kt et) => match P.underlying kt, zeroVX P et with
      | some d, some z => match keyX P kt d k, h.get m with
        | true, some (.map l) => match findX P kt d k l with
          | some none => some (okX ok z false, some m)
          | some (some v) => some (okX ok v true, some m)
          | none => none
        | _, _ => none
      | _, _ => none
    | _ => none
  | _, _ => none
theorem okX_ok {ok : Bool} {v : V} {v' : Value} (h : RV bs v v') (b : Bool) : RV bs (okX ok v b) (if ok then .tuple #[v', .bool b] else v') := by
  cases ok
  · exact h
  · exact .tup (.cons h (.cons (.bool b) .nil))
theorem lookupX_ok {s : S} {h : T O} {t : TypeId} {x y : Operand} {ok : Bool} {v : V} {rd : Option Nat} (ho : o.op = .lookup t x y ok) (hc : lookupX c.P h t ok (evX s x) (evX s y) = some (v, rd)) (hs : CovS bs s σs) (hm : ∀ k ob, rd = some k → h.get k = some ob → At bs Ls k ob) : ∃ v', Qt c σs Ls o v' ∧ RV bs v v' := by
  generalize hx : evX s x = e1 at hc
  generalize hy : evX s y = e2 at hc
  unfold lookupX at hc
  split at hc
  · rename_i k
    obtain ⟨_, h1, h2⟩ := evX_ok hs hx; cases h2
    obtain ⟨k', h3, h4⟩ := evX_ok hs hy
    split at hc
    · rename_i kt et hu
      split at hc
      · rename_i d z hd hz
        split at hc
        · rename_i hkey
          cases hc
          obtain ⟨z', g1, g2⟩ := zeroVX_ok (bs := bs) hz
          refine ⟨_, Qt_of_run (by simp [ho]) (fun ρ hρ w _ => ?_), okX_ok g2 false⟩
          have hf : (Instr.findKey kt k' []).run c.P w = .ok none w := Go.MapKept.run_findKey hd rfl
          simp [execOp, ho, hρ x _ h1, hρ y _ h3, Instr.lookup, run_underlying hu, keyX_run hd hkey h4, hf, g1]
        · cases hc
      · cases hc
    · cases hc
  · rename_i m k
    obtain ⟨_, h1, h2⟩ := evX_ok hs hx
    cases h2
    rename_i b base av hb
    obtain ⟨k', h3, h4⟩ := evX_ok hs hy
    split at hc
    · rename_i kt et hu
      split at hc
      · rename_i d z hd hz
        split at hc
        · rename_i l hkey hg
          obtain ⟨z', g1, g2⟩ := zeroVX_ok (bs := bs) hz
          have body : ∀ {a : Option V}, findX c.P kt d k l = some a → rd = some m → v = (match a with | some u => okX ok u true | none => okX ok z false) → ∃ v', Qt c σs Ls o v' ∧ RV bs v v' := by
            intro a hf hrd hv
            obtain ⟨b', base', av', i, o', a1, a2, es, cl, rfl, a3⟩ := hm m _ hrd hg
            rw [hb] at a1; cases a1
            subst hv
            rcases findX_ok h4 (i := 0) a3 hf with ⟨rfl, e2⟩ | ⟨u, j, e, rfl, e2, e3, e4, _⟩
            · refine ⟨_, Qt_of_run (by simp [ho]) (fun ρ hρ w hmem => ?_), okX_ok g2 false⟩
              have hfk := Fnd_run hd e2 w
              simp [execOp, ho, hρ x _ h1, hρ y _ h3, Instr.lookup, run_underlying hu, Go.MapKept.run_getObj_map (hmem.at_ a2), keyX_run hd hkey h4, hfk, g1]
            · refine ⟨_, Qt_of_run (by simp [ho]) (fun ρ hρ w hmem => ?_), okX_ok e4 true⟩
              have hfk := Fnd_run hd e2 w
              simp [execOp, ho, hρ x _ h1, hρ y _ h3, Instr.lookup, run_underlying hu, Go.MapKept.run_getObj_map (hmem.at_ a2), keyX_run hd hkey h4, hfk]
          split at hc
          · rename_i hf; cases hc; exact body hf rfl rfl
          · rename_i u hf; cases hc; exact body hf rfl rfl
          · cases hc
        · cases hc
      · cases hc
    · cases hc
  · cases hc

/-! ### interfaces -/
def concX (P : Program) (t : TypeId) : Bool := match P.underlying t with
  | some (.interface _) => false
  | some _ => true
  | none => false
theorem concX_ok {P : Program} {t : TypeId} (h : concX P t = true) : ∃ d, P.underlying t = some d ∧ ∀ ms, d ≠ .interface ms := by
  unfold concX at h
  split at h
  · cases h
  · rename_i d hn hu; exact ⟨d, hu, fun ms e => hn ms (by rw [e])⟩
  · cases h
def makeIfaceX (P : Program) (t : TypeId) : Option V → Option V
  | some v => match concX P t with
    | true => some (.ifc t v)
    | false => none
  | none => none
theorem makeIfaceX_ok {s : S} {t : TypeId} {x : Operand} {v : V} (ho : o.op = .makeInterface t x) (hc : makeIfaceX c.P t (evX s x) = some v) (hs : CovS bs s σs) : ∃ v', Qt c σs Ls o v' ∧ RV bs v v' := by
  generalize hx : evX s x = e1 at hc
  unfold makeIfaceX at hc
  split at hc
  · split at hc
    · rename_i ht
      cases hc
      obtain ⟨x', h1, h2⟩ := evX_ok hs hx
      obtain ⟨d, hu, hd⟩ := concX_ok ht
      refine ⟨_, Qt_of_run (by simp [ho]) (fun ρ hρ w _ => ?_), .ifc t h2⟩
      simp only [execOp, ho, hρ x _ h1, Instr.makeInterface, Sem.run_bind, run_underlying hu]
      cases d <;> first | rfl | exact absurd rfl (hd _)
    · cases hc
  · cases hc
def assertX (P : Program) (t : TypeId) (ok : Bool) : Option V → Option V
  | some (.ifc u v) => match concX P t, Nat.beq u t with
    | true, true => some (okX ok v true)
    | true, false => match ok, zeroVX P t with
      | true, some z => some (.tup [z, .bool false])
      | _, _ => none
    | false, _ => none
  | some .nili => match concX P t, ok, zeroVX P t with
    | true, true, some z => some (.tup [z, .bool false])
    | _, _, _ => none
  | _ => none
theorem assertX_ok {s : S} {t u : TypeId} {ok : Bool} {x : Operand} {v : V} (ho : o.op = .typeAssert x u t ok) (hc : assertX c.P t ok (evX s x) = some v) (hs : CovS bs s σs) : ∃ v', Qt c σs Ls o v' ∧ RV bs v v' := by
  generalize hx : evX s x = e1 at hc
  unfold assertX at hc
  split at hc
  · rename_i q r
    obtain ⟨_, h1, h2⟩ := evX_ok hs hx
    cases h2
    rename_i r' hr
    split at hc
    · rename_i ht hq
      cases hc
      have hq := Nat.eq_of_beq_eq_true hq
      subst hq
      obtain ⟨d, hu, hd⟩ := concX_ok ht
      refine ⟨_, Qt_of_run (by simp [ho]) (fun ρ hρ w _ => ?_), okX_ok hr true⟩
      simp only [execOp, ho, hρ x _ h1, Instr.typeAssert, Sem.run_bind, run_underlying hu]
      cases d <;> first | exact absurd rfl (hd _) | (cases ok <;> simp)
    · rename_i ht hq
      have hq : q ≠ t := Nat.ne_of_beq_eq_false hq
      obtain ⟨d, hu, hd⟩ := concX_ok ht
      split at hc
      · rename_i z hz
        cases hc
        obtain ⟨z', g1, g2⟩ := zeroVX_ok (bs := bs) hz
        refine ⟨.tuple #[z', .bool false], Qt_of_run (by simp [ho]) (fun ρ hρ w _ => ?_), .tup (.cons g2 (.cons (.bool false) .nil))⟩
        simp only [execOp, ho, hρ x _ h1, Instr.typeAssert, Sem.run_bind, run_underlying hu]
        cases d <;> first | exact absurd rfl (hd _) | simp [hq, g1]
      · cases hc
    · cases hc
  · obtain ⟨_, h1, h2⟩ := evX_ok hs hx
    cases h2
    split at hc
    · rename_i z ht hz
      cases hc
      obtain ⟨d, hu, hd⟩ := concX_ok ht
      obtain ⟨z', g1, g2⟩ := zeroVX_ok (bs := bs) hz
      refine ⟨.tuple #[z', .bool false], Qt_of_run (by simp [ho]) (fun ρ hρ w _ => ?_), .tup (.cons g2 (.cons (.bool false) .nil))⟩
      simp only [execOp, ho, hρ x _ h1, Instr.typeAssert, Sem.run_bind, run_underlying hu]
      cases d <;> first | exact absurd rfl (hd _) | simp [g1]
    · cases hc
  · cases hc

/-- The function that a method's name stands for, at a dynamic type; the receiver is the value itself. -/
def methX (P : Program) (t : TypeId) (name : String) : Option FuncId := match P.info? t with
  | some i => match i.methods.find? (fun m => m.name == name) with
    | some m => match m.path.toList, m.func with
      | [], some (f, pr) => match P.underlying t, pr with
        | some (.pointer _), true => some f
        | some (.pointer _), false => none
        | some _, false => some f
        | _, _ => none
      | _, _ => none
    | none => none
  | none => none
theorem methX_run {P : Program} {t : TypeId} {name : String} {f : FuncId} (h : methX P t name = some f) (n : Nat) (v : Value) (w : World) : (Go.method (n + 1) t v name).run P w = .ok (f, v) w := by
  unfold methX at h
  split at h
  · rename_i i hi
    split at h
    · rename_i m hm
      split at h
      · rename_i f' pr hp hf
        have hfol : (follow m.path.toList t (.val v)).run P w = .ok (t, .val v) w := by rw [hp]; rfl
        have hti : (typeInfo t).run P w = .ok i w := by simp [typeInfo, hi]
        have base : (receiverAt t (.val v) pr (if m.path.isEmpty then some ((name.splitOn ".").getLastD name) else none)).run P w = .ok v w → (Go.method (n + 1) t v name).run P w = .ok (f', v) w := fun hr => by
          rw [Go.method]
          simp only [Sem.run_bind, hti, Result.andThen_ok, hm, hfol, hf, hr, Sem.run_pure]
        split at h
        · rename_i e hu
          cases h
          exact base (by simp [receiverAt, run_underlying hu, Place.get])
        · cases h
        · rename_i d hne hu
          cases h
          refine base ?_
          unfold receiverAt
          simp only [Sem.run_bind, run_underlying hu, Result.andThen_ok]
          cases d <;> first | (simp [Place.get]; done) | exact absurd rfl (hne _)
        · cases h
      · cases h
    · cases h
  · cases h
theorem nilAhead_run {P : Program} {t : TypeId} {name : String} {f : FuncId} (h : methX P t name = some f) (n : Nat) (v : Value) (w : World) : (nilAhead (n + 1) t v name).run P w = .ok (some false) w := by
  unfold methX at h
  split at h
  · rename_i i hi
    split at h
    · rename_i m hm
      split at h
      · rename_i f' pr hp hf
        have hfol : (followBlind m.path.toList t (some v)).run P w = .ok (.ok (t, some v)) w := by rw [hp]; rfl
        have hti : (typeInfo t).run P w = .ok i w := by simp [typeInfo, hi]
        split at h
        · rw [nilAhead]
          simp only [Sem.run_bind, hti, Result.andThen_ok, hm, hfol, hf, Sem.run_pure]
        · cases h
        · rename_i d hne hu
          rw [nilAhead]
          simp only [Sem.run_bind, hti, Result.andThen_ok, hm, hfol, hf, run_underlying hu]
          cases d <;> first | rfl | exact absurd rfl (hne _)
        · cases h
      · cases h
    · cases h
  · cases h
/-- A method's value, of what an interface holds. -/
def nilMX (P : Program) : Option V → Option V
  | some (.fn (.method name) [.ifc t v] B) => match methX P t name with
    | some _ => some (.fn (.method name) [.ifc t v] B)
    | none => none
  | _ => none
theorem nilMX_ok {s : S} {x : Operand} {v : V} (ho : o.op = .nilCheck x) (hc : nilMX c.P (evX s x) = some v) (hs : CovS bs s σs) : ∃ v', Qt c σs Ls o v' ∧ RV bs v v' := by
  generalize hx : evX s x = e1 at hc
  unfold nilMX at hc
  split at hc
  · rename_i name t u B
    split at hc
    · rename_i f hm
      cases hc
      obtain ⟨_, h1, h2⟩ := evX_ok hs hx
      have h3 := h2
      cases h2 with
      | fn _ hA hB =>
        cases hA with
        | cons hv hl =>
          cases hl
          cases hv with
          | ifc _ hv =>
            rename_i B' u'
            refine ⟨_, Qt_of_run (by simp [ho]) (fun ρ hρ w _ => ?_), h3⟩
            have hpos : 0 < Made.depth := by decide
            obtain ⟨n, hn⟩ : ∃ n, c.P.types.size + Made.depth = n + 1 := ⟨c.P.types.size + Made.depth - 1, by omega⟩
            have hnr := nilAhead_run hm n u' w
            simp [execOp, ho, hρ x _ h1, hn, hnr]
    · cases hc
  · cases hc
/-- An operation that leaves memory as it is: what it gives, and the block that it read. -/
def ret1 : Option V → Option (V × Option Nat)
  | some v => some (v, none)
  | none => none
def callQ (P : Program) (s : S) (cl : Call) : Option (V × Option Nat) :=
  match cl.callee with
  | .builtin .len => match cl.args.toList, cl.argTypes.toList with
    | [x], [t] => ret1 (lenX P t (evX s x))
    | _, _ => none
  | .builtin .min => ret1 (minX false (evsX s cl.args.toList))
  | .builtin .max => ret1 (minX true (evsX s cl.args.toList))
  | _ => none
def calmX (P : Program) (s : S) (h : T O) : Op → Option (V × Option Nat)
  | .move x => ret1 (evX s x)
  | .assign x => ret1 (evX s x)
  | .pick x y z => ret1 (pickX (evX s x) (evX s y) (evX s z))
  | .nilCheck x => match nilX (evX s x) with
    | some v => some (v, none)
    | none => ret1 (nilMX P (evX s x))
  | .fieldAddr t x i => ret1 (fieldAddrX P t i (evX s x))
  | .load t x => loadX P h t (evX s x)
  | .field t x i => ret1 (fieldVX P t i (evX s x))
  | .indexAddr t x y => ret1 (indexAddrX P t (evX s x) (evX s y))
  | .index t x y => ret1 (indexX P t (evX s x) (evX s y))
  | .binOp op t x y _ => ret1 (binX P op t y (evX s x) (evX s y))
  | .unOp op _ x => ret1 (unX op (evX s x))
  | .convert t t' x => match convX P t t' (evX s x) with
    | some v => some (v, none)
    | none => textOfX P h t t' (evX s x)
  | .extract x k => ret1 (extractX k (evX s x))
  | .makeFunc f A B => ret1 (makeFuncX f (evsX s A.toList) (evsX s B.toList))
  | .build t parts => ret1 (buildX P t (evpX s parts.toList))
  | .slice t x lo hi mx => match sliceX P t (evX s x) (lo.map (evX s)) (hi.map (evX s)) (mx.map (evX s)) with
    | some v => some (v, none)
    | none => match slice3X P t (evX s x) (lo.map (evX s)) (hi.map (evX s)) (mx.map (evX s)) with
      | some v => some (v, none)
      | none => sliceArrX P h t (evX s x) (lo.map (evX s)) (hi.map (evX s)) (mx.map (evX s))
  | .call cl => callQ P s cl
  | .lookup t x y ok => lookupX P h t ok (evX s x) (evX s y)
  | .makeInterface t x => ret1 (makeIfaceX P t (evX s x))
  | .typeAssert x _ t ok => ret1 (assertX P t ok (evX s x))
  | _ => none
theorem ret1_eq {x : Option V} {v : V} {rd : Option Nat} (h : ret1 x = some (v, rd)) : x = some v ∧ rd = none := by
  cases x with
  | none => cases h
  | some u => cases h; exact ⟨rfl, rfl⟩
theorem calmX_ok {s : S} {h : T O} {v : V} {rd : Option Nat} (hc : calmX c.P s h o.op = some (v, rd)) (hs : CovS bs s σs) (hm : ∀ k ob, rd = some k → h.get k = some ob → At bs Ls k ob) : ∃ v', Qt c σs Ls o v' ∧ RV bs v v' := by
  generalize ho : o.op = op at hc
  unfold calmX at hc
  split at hc
  case h_6 => exact loadX_ok ho hc hs hm
  case h_18 => exact lookupX_ok ho hc hs hm
  case h_4 =>
    split at hc
    · rename_i h1; cases hc; exact nilX_ok ho h1 hs
    · exact nilMX_ok ho (ret1_eq hc).1 hs
  case h_12 =>
    split at hc
    · rename_i h1; cases hc; exact convX_ok ho h1 hs
    · exact textOfX_ok ho hc hs hm
  case h_16 =>
    split at hc
    · rename_i h1; cases hc; exact sliceX_ok ho h1 hs
    · split at hc
      · rename_i h1; cases hc; exact slice3X_ok ho h1 hs
      · exact sliceArrX_ok ho hc hs hm
  case h_17 =>
    rename_i cl
    obtain ⟨cal, args, tys⟩ := cl
    unfold callQ at hc
    split at hc
    · rename_i hcal
      simp only at hcal
      subst hcal
      split at hc
      · rename_i x t h1 h2
        obtain ⟨hc, _⟩ := ret1_eq hc
        simp only at h1 h2
        obtain rfl : args = #[x] := by apply Array.ext'; simpa using h1
        obtain rfl : tys = #[t] := by apply Array.ext'; simpa using h2
        exact lenX_ok ho hc hs
      · cases hc
    · rename_i hcal
      simp only at hcal
      subst hcal
      exact minX_ok (gt := false) ho (ret1_eq hc).1 hs
    · rename_i hcal
      simp only at hcal
      subst hcal
      exact minX_ok (gt := true) ho (ret1_eq hc).1 hs
    · cases hc
  all_goals (first | (cases hc; done) | obtain ⟨hc, _⟩ := ret1_eq hc)
  · obtain ⟨v', h1, h2⟩ := evX_ok hs hc; exact ⟨v', Qt_move ho h1, h2⟩
  · obtain ⟨v', h1, h2⟩ := evX_ok hs hc; exact ⟨v', Qt_assign ho h1, h2⟩
  · exact pickX_ok ho hc hs
  · exact fieldAddrX_ok ho hc hs
  · exact fieldVX_ok ho hc hs
  · exact indexAddrX_ok ho hc hs
  · exact indexX_ok ho hc hs
  · exact binX_ok ho hc hs
  · exact unX_ok ho hc hs
  · exact extractX_ok ho hc hs
  · exact makeFuncX_ok ho hc hs
  · exact buildX_ok ho hc hs
  · exact makeIfaceX_ok ho hc hs
  · exact assertX_ok ho hc hs
end
end
end Go.Proofs.Ytcnbecdpfildnaa
