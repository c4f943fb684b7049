/-
  A part of what the last of these texts needs; by itself it proves no statement.
-/
import Derived.WalkSpells
import Derived.MapKept
import Derived.Laws.StructEq
import Derived.Laws.IdiomStrings
import Derived.Great.BuildSlice
import Derived.Laws.MakeOwn
import Derived.Deep.Upon
import Derived.Test.YtgimodceldoniaaKO2
namespace Go.Proofs.Ytgimodceldoniaa
open Go.RowKit
noncomputable section
section
variable {c : Cx} {bs : Bs} {σs : List (Nat × Value)} {Ls : List (Nat × Obj)} {o : Oper}
def nilT (P : Program) (t : TypeId) (x y : V) : Option Bool :=
  match x, y with
  | .ptrN, .ptrN => (match P.underlying t with | some (.pointer _) => some true | _ => none)
  | .ptr _ _, .ptrN => (match P.underlying t with | some (.pointer _) => some false | _ => none)
  | .slN, .slN => (match P.underlying t with | some (.slice _) => some true | _ => none)
  | .sl _ _ _ _ _, .slN => (match P.underlying t with | some (.slice _) => some false | _ => none)
  | .nilf, .nilf => (match P.underlying t with | some (.func _ _ _) => some true | _ => none)
  | .fn _ _ _, .nilf => (match P.underlying t with | some (.func _ _ _) => some false | _ => none)
  | .mapN, .mapN => (match P.underlying t with | some (.map _ _) => some true | _ => none)
  | .map _, .mapN => (match P.underlying t with | some (.map _ _) => some false | _ => none)
  | _, _ => none
theorem run_equalIn_func_nil {P : Program} (w : World) (d : Nat) (t : TypeId) {a b : Array TypeId} {q : Bool} (h : P.underlying t = some (.func a b q)) :
    (Op.equalIn (d + 1) t .nilFunc .nilFunc).run P w = .ok true w ∧ ∀ (f : Go.Fn) (A B : Array Value), (Op.equalIn (d + 1) t (.func f A B) .nilFunc).run P w = .ok false w := by
  constructor
  · simp [Op.equalIn, run_underlying h]
  · intro f A B
    simp [Op.equalIn, run_underlying h]
theorem run_func_nil {P : Program} (w : World) (t : TypeId) {a b : Array TypeId} {q : Bool} (h : P.underlying t = some (.func a b q)) :
    ((binOp .eql t .nilFunc .nilFunc).run P w = .ok (.bool true) w ∧ (binOp .neq t .nilFunc .nilFunc).run P w = .ok (.bool false) w) ∧ ∀ (f : Go.Fn) (A B : Array Value), (binOp .eql t (.func f A B) .nilFunc).run P w = .ok (.bool false) w ∧ (binOp .neq t (.func f A B) .nilFunc).run P w = .ok (.bool true) w := by
  obtain ⟨h1, h2⟩ := run_equalIn_func_nil w 9999 t h
  refine ⟨⟨?_, ?_⟩, fun f A B => ⟨?_, ?_⟩⟩
  all_goals simp only [binOp]
  · simp [Op.equal, Op.maxDepth, h1]
  · simp [Op.equal, Op.maxDepth, h1]
  · simp [Op.equal, Op.maxDepth, h2 f A B]
  · simp [Op.equal, Op.maxDepth, h2 f A B]
def eqFs (rec : TypeId → V → V → Option Bool) (P : Program) (xs ys : List V) : List Field → Option Bool
  | [] => some true
  | f :: r => match decide (f.name = "_") with
    | true => eqFs rec P xs ys r
    | false => match sizeX P f.type with
      | some n => match partX P f.type f.offset n xs, partX P f.type f.offset n ys with
        | some a, some b => match rec f.type a b with
          | some true => eqFs rec P xs ys r
          | some false => some false
          | none => none
        | _, _ => none
      | none => none
def eqEs (rec : TypeId → V → V → Option Bool) (P : Program) (e n : Nat) (xs ys : List V) : List Nat → Option Bool
  | [] => some true
  | i :: r => match partX P e (Nat.mul i n) n xs, partX P e (Nat.mul i n) n ys with
    | some a, some b => match rec e a b with
      | some true => eqEs rec P e n xs ys r
      | some false => some false
      | none => none
    | _, _ => none
def eqX (P : Program) : Nat → TypeId → V → V → Option Bool
  | 0, _, _, _ => none
  | d + 1, t, x, y => match x, y with
    | .int k a, .int k' b => match P.underlying t, decide (k = k') with
      | some (.int _), true => some (a == b)
      | _, _ => none
    | .bool a, .bool b => match P.underlying t with
      | some .bool => some (a == b)
      | _ => none
    | .str a, .str b => match P.underlying t with
      | some .string => some (a.toList == b.toList)
      | _ => none
    | .agg xs, .agg ys => match P.underlying t with
      | some (.struct fs) => match P.stoodInHeld t with
        | false => eqFs (eqX P d) P xs ys fs.toList
        | true => none
      | some (.array n e) => match sizeX P e with
        | some sz => eqEs (eqX P d) P e sz xs ys (List.range' 0 n 1)
        | none => none
      | _ => none
    | _, _ => none
set_option maxHeartbeats 4000000 in
theorem eqX_ok {P : Program} : ∀ (d : Nat) {t : TypeId} {x y : V} {x' y' : Value} {b : Bool}, eqX P d t x y = some b → RV bs x x' → RV bs y y' → ∀ (q : Nat) (w : World), (Op.equalIn (d + q) t x' y').run P w = .ok b w
  | 0, _, _, _, _, _, _, h, _, _ => by cases h
  | d + 1, t, x, y, x', y', b, h, hx, hy => fun q w => by
    have ih := fun {t x y x' y' b} (h : eqX P d t x y = some b) (hx : RV bs x x') (hy : RV bs y y') (w : World) => eqX_ok d h hx hy q w
    rw [show d + 1 + q = (d + q) + 1 by omega]
    simp only [eqX] at h
    split at h
    · split at h
      · rename_i hu hk
        cases h; cases hx; cases hy
        obtain rfl := of_decide_eq_true hk
        exact run_equalIn_int w _ t _ _ _ _ hu
      · cases h
    · split at h
      · rename_i hu
        cases h; cases hx; cases hy
        exact run_equalIn_bool' w _ t _ _ hu
      · cases h
    · split at h
      · rename_i hu
        cases h; cases hx; cases hy
        exact run_equalIn_string w _ t _ _ hu
      · cases h
    · rename_i xs ys
      cases hx; cases hy
      rename_i xs' hxs ys' hys
      split at h
      · rename_i fs hu
        split at h
        · rename_i hst
          have hfo : P.fieldsOf t = fs := by simp [Program.fieldsOf, hu]
          rw [run_equalIn_struct w (d + q) t _ _ (by rw [hfo]; exact hu) hst, hfo]
          generalize fs.toList = l at h
          clear hu hfo
          induction l generalizing w with
          | nil => cases h; simp [Op.eqFields]
          | cons f r ihl =>
            simp only [eqFs] at h
            simp only [Op.eqFields]
            split at h
            · rename_i hn
              have hn := of_decide_eq_true hn
              rw [if_neg (by simp [hn])]
              exact ihl w h
            · rename_i hn
              have hn := of_decide_eq_false hn
              rw [if_pos hn]
              split at h
              · rename_i n hsz
                split at h
                · rename_i a b ha hb
                  obtain ⟨a', a1, a2⟩ := part_run ha (sizeX_ok hsz).h hxs
                  obtain ⟨b', b1, b2⟩ := part_run hb (sizeX_ok hsz).h hys
                  split at h
                  · rename_i he
                    have := ih he a2 b2 w
                    simp only [Sem.run_bind, a1, b1, Result.andThen_ok, this, Bool.not_true, Bool.false_eq_true, if_false]
                    exact ihl w h
                  · rename_i he
                    cases h
                    have := ih he a2 b2 w
                    simp [a1, b1, this]
                  · cases h
                · cases h
              · cases h
        · cases h
      · rename_i n e hu
        split at h
        · rename_i sz hsz
          rw [Op.equalIn]
          simp only [Sem.run_bind, run_underlying hu, Result.andThen_ok, (sizeX_ok hsz).h, Std.Legacy.Range.forIn_eq_forIn_range', Std.Legacy.Range.size, Nat.sub_zero, Nat.add_sub_cancel, Nat.div_one]
          generalize List.range' 0 n 1 = l at h ⊢
          clear hu
          induction l generalizing w with
          | nil => cases h; simp
          | cons i r ihl =>
            simp only [eqEs] at h
            split at h
            · rename_i a b ha hb
              obtain ⟨a', a1, a2⟩ := part_run ha (sizeX_ok hsz).h hxs
              obtain ⟨b', b1, b2⟩ := part_run hb (sizeX_ok hsz).h hys
              have a1' : ∀ w, (part e xs'.toArray (i * sz)).run P w = .ok a' w := a1
              have b1' : ∀ w, (part e ys'.toArray (i * sz)).run P w = .ok b' w := b1
              split at h
              · rename_i he
                have := ih he a2 b2 w
                simp only [List.forIn_cons, Sem.run_bind, a1', b1', Result.andThen_ok, this, Bool.not_true, Bool.false_eq_true, if_false, Sem.run_pure]
                exact ihl w h
              · rename_i he
                cases h
                have := ih he a2 b2 w
                simp [List.forIn_cons, a1', b1', this]
              · cases h
            · cases h
        · cases h
      · cases h
    · cases h
def aggEq (P : Program) (t : TypeId) (x y : V) : Option Bool := match x, y with
  | .agg _, .agg _ => match P.eqGuardType P.depth t with
    | false => eqX P 8 t x y
    | true => none
  | _, _ => none
theorem aggEq_run {P : Program} {t : TypeId} {x y : V} {x' y' : Value} {b : Bool} (h : aggEq P t x y = some b) (hx : RV bs x x') (hy : RV bs y y') (X Y : Operand) (w : World) : ((eqGuard .eql t X Y x' y').run P w = .ok () w ∧ (binOp .eql t x' y').run P w = .ok (.bool b) w) ∧ (eqGuard .neq t X Y x' y').run P w = .ok () w ∧ (binOp .neq t x' y').run P w = .ok (.bool !b) w := by
  unfold aggEq at h
  split at h
  · split at h
    · rename_i hg
      have h1 := eqX_ok 8 h hx hy 9992 w
      cases hx; cases hy
      refine ⟨⟨run_eqGuard_agg w .eql t X Y _ _ hg, ?_⟩, run_eqGuard_agg w .neq t X Y _ _ hg, ?_⟩
      · rw [run_eql_struct]; rw [show (10000 : Nat) = 8 + 9992 from rfl, h1]; rfl
      · rw [run_neq_struct]; rw [show (10000 : Nat) = 8 + 9992 from rfl, h1]; rfl
    · cases h
  · cases h
def isC : Operand → Bool
  | .const _ => true
  | _ => false
def nilI (P : Program) (t : TypeId) (Y : Operand) (x y : V) : Option Bool := match x, y with
  | .nili, .nili => match isC Y, P.underlying t with
    | true, some (.interface _) => some true
    | _, _ => none
  | .ifc _ _, .nili => match P.underlying t with
    | some (.interface _) => some false
    | _ => none
  | .nili, .ifc _ _ => match P.underlying t with
    | some (.interface _) => some false
    | _ => none
  | _, _ => none
theorem run_equalIn_iface {P : Program} (w : World) (d : Nat) (t : TypeId) {ms : Array (String × TypeId)} (h : P.underlying t = some (.interface ms)) :
    (Op.equalIn (d + 1) t .nilIface .nilIface).run P w = .ok true w ∧ ∀ (u : TypeId) (v : Value), (Op.equalIn (d + 1) t (.iface u v) .nilIface).run P w = .ok false w ∧ (Op.equalIn (d + 1) t .nilIface (.iface u v)).run P w = .ok false w := by
  refine ⟨?_, fun u v => ⟨?_, ?_⟩⟩
  · simp [Op.equalIn, run_underlying h]
  · simp [Op.equalIn, run_underlying h]
  · simp [Op.equalIn, run_underlying h]
theorem nilI_run {P : Program} {t : TypeId} {X Y : Operand} {x y : V} {x' y' : Value} {b : Bool} (h : nilI P t Y x y = some b) (hx : RV bs x x') (hy : RV bs y y') (w : World) : ((eqGuard .eql t X Y x' y').run P w = .ok () w ∧ (binOp .eql t x' y').run P w = .ok (.bool b) w) ∧ (eqGuard .neq t X Y x' y').run P w = .ok () w ∧ (binOp .neq t x' y').run P w = .ok (.bool !b) w := by
  unfold nilI at h
  split at h
  · split at h
    · rename_i ms hc hu
      cases h; cases hx; cases hy
      have hg : ∃ v, Y = .const v := by
        unfold isC at hc
        split at hc
        · exact ⟨_, rfl⟩
        · cases hc
      obtain ⟨v, rfl⟩ := hg
      obtain ⟨h1, h2⟩ := run_equalIn_iface w 9999 t hu
      refine ⟨⟨by simp [eqGuard], ?_⟩, by simp [eqGuard], ?_⟩
      all_goals simp only [binOp]
      · simp [Op.equal, Op.maxDepth, h1]
      · simp [Op.equal, Op.maxDepth, h1]
    · cases h
  · split at h
    · rename_i hu
      cases h; cases hx; cases hy
      obtain ⟨h1, h2⟩ := run_equalIn_iface w 9999 t hu
      refine ⟨⟨by simp [eqGuard], ?_⟩, by simp [eqGuard], ?_⟩
      all_goals simp only [binOp]
      · simp [Op.equal, Op.maxDepth, (h2 _ _).1]
      · simp [Op.equal, Op.maxDepth, (h2 _ _).1]
    · cases h
  · split at h
    · rename_i hu
      cases h; cases hx; cases hy
      obtain ⟨h1, h2⟩ := run_equalIn_iface w 9999 t hu
      refine ⟨⟨by simp [eqGuard], ?_⟩, by simp [eqGuard], ?_⟩
      all_goals simp only [binOp]
      · simp [Op.equal, Op.maxDepth, (h2 _ _).2]
      · simp [Op.equal, Op.maxDepth, (h2 _ _).2]
    · cases h
  · cases h
def sameT (P : Program) (t : TypeId) (Y : Operand) (x y : V) : Option Bool := match nilT P t x y with
  | some b => some b
  | none => match aggEq P t x y with
    | some b => some b
    | none => nilI P t Y x y
def binX (P : Program) (op : BinOp) (t : TypeId) (Y : Operand) : Option V → Option V → Option V
  | some x, some y => match x.scal, y.scal with
    | some a, some b => match binW P op t a b with
      | some v => V.ofConst1 v
      | none => none
    | _, _ => match sameT P t Y x y with
      | some b => match op with
        | .eql => some (.bool b)
        | .neq => some (.bool !b)
        | _ => none
      | none => none
  | _, _ => none
theorem nilT_run {P : Program} {t : TypeId} {x y : V} {x' y' : Value} {b : Bool} (h : nilT P t x y = some b) (hx : RV bs x x') (hy : RV bs y y') (X Y : Operand) (w : World) : ((eqGuard .eql t X Y x' y').run P w = .ok () w ∧ (binOp .eql t x' y').run P w = .ok (.bool b) w) ∧ (eqGuard .neq t X Y x' y').run P w = .ok () w ∧ (binOp .neq t x' y').run P w = .ok (.bool !b) w := by
  unfold nilT at h
  split at h
  · split at h
    · rename_i hu; cases h; cases hx; cases hy
      exact ⟨⟨by simp [eqGuard], run_eql_pointer_nil w t none (pointee_eq hu)⟩, by simp [eqGuard], run_neq_pointer_nil w t none (pointee_eq hu)⟩
    · cases h
  · split at h
    · rename_i hu; cases h; obtain ⟨_, _, _, rfl, _⟩ := hx.ptr_inv; cases hy
      exact ⟨⟨by simp [eqGuard], run_eql_pointer_nil w t (some _) (pointee_eq hu)⟩, by simp [eqGuard], run_neq_pointer_nil w t (some _) (pointee_eq hu)⟩
    · cases h
  · split at h
    · rename_i hu; cases h; cases hx; cases hy
      exact ⟨⟨by simp [eqGuard], Lib.run_eql_slice_nil w t _ none 0 0 0 0 hu⟩, by simp [eqGuard], run_neq_slice_nil_any w t _ none 0 0 0 0 hu⟩
    · cases h
  · split at h
    · rename_i hu; cases h; obtain ⟨_, _, _, _, _, rfl, _⟩ := hx.sl_inv; cases hy
      exact ⟨⟨by simp [eqGuard], Lib.run_eql_slice_nil w t _ (some _) _ _ 0 0 hu⟩, by simp [eqGuard], run_neq_slice_nil_any w t _ (some _) _ _ 0 0 hu⟩
    · cases h
  · split at h
    · rename_i hu; cases h; cases hx; cases hy
      exact ⟨⟨by simp [eqGuard], (run_func_nil w t hu).1.1⟩, by simp [eqGuard], (run_func_nil w t hu).1.2⟩
    · cases h
  · split at h
    · rename_i hu; cases h; cases hx; cases hy
      exact ⟨⟨by simp [eqGuard], ((run_func_nil w t hu).2 _ _ _).1⟩, by simp [eqGuard], ((run_func_nil w t hu).2 _ _ _).2⟩
    · cases h
  · split at h
    · rename_i hu; cases h; cases hx; cases hy
      exact ⟨⟨by simp [eqGuard], run_eql_map_nil w t _ _ none hu⟩, by simp [eqGuard], run_neq_map_nil w t _ _ none hu⟩
    · cases h
  · split at h
    · rename_i hu; cases h; cases hx; cases hy
      exact ⟨⟨by simp [eqGuard], run_eql_map_nil w t _ _ (some _) hu⟩, by simp [eqGuard], run_neq_map_nil w t _ _ (some _) hu⟩
    · cases h
  · cases h
theorem sameT_run {P : Program} {t : TypeId} {x y : V} {x' y' : Value} {b : Bool} {X Y : Operand} (h : sameT P t Y x y = some b) (hx : RV bs x x') (hy : RV bs y y') (w : World) : ((eqGuard .eql t X Y x' y').run P w = .ok () w ∧ (binOp .eql t x' y').run P w = .ok (.bool b) w) ∧ (eqGuard .neq t X Y x' y').run P w = .ok () w ∧ (binOp .neq t x' y').run P w = .ok (.bool !b) w := by
  unfold sameT at h
  split at h
  · rename_i h1; cases h; exact nilT_run h1 hx hy X Y w
  · split at h
    · rename_i h1; cases h; exact aggEq_run h1 hx hy X Y w
    · exact nilI_run h hx hy w
theorem binX_ok {s : S} {op : BinOp} {t t' : TypeId} {x y : Operand} {v : V} (ho : o.op = .binOp op t x y t') (hc : binX c.P op t y (evX s x) (evX s y) = some v) (hs : CovS bs s σs) : ∃ v', Qt c σs Ls o v' ∧ RV bs v v' := by
  generalize hx : evX s x = e1 at hc
  generalize hy : evX s y = e2 at hc
  unfold binX at hc
  split at hc
  · rename_i u u2
    obtain ⟨a', h1, h2⟩ := evX_ok hs hx
    obtain ⟨b', h3, h4⟩ := evX_ok hs hy
    split at hc
    · rename_i a b ha hb
      split at hc
      · rename_i r hr
        obtain rfl := V.scal_ok h2 ha
        obtain rfl := V.scal_ok h4 hb
        exact ⟨r, Qt_binW ho h1 h3 hr, V.ofConst1_ok hc⟩
      · cases hc
    · split at hc
      · rename_i b hb
        split at hc
        · cases hc
          refine ⟨_, Qt_of_run (by simp [ho]) (fun ρ hρ w _ => ?_), .bool b⟩
          simp [execOp, ho, hρ x _ h1, hρ y _ h3, (sameT_run (X := x) hb h2 h4 w).1.1, (sameT_run (X := x) hb h2 h4 w).1.2]
        · cases hc
          refine ⟨_, Qt_of_run (by simp [ho]) (fun ρ hρ w _ => ?_), .bool !b⟩
          simp [execOp, ho, hρ x _ h1, hρ y _ h3, (sameT_run (X := x) hb h2 h4 w).2.1, (sameT_run (X := x) hb h2 h4 w).2.2]
        · cases hc
      · cases hc
  · cases hc
def unX (op : UnOp) : Option V → Option V
  | some (.bool b) => match op with
    | .not => some (.bool !b)
    | _ => none
  | some (.int k n) => match op with
    | .neg => some (.int k (k.wrap (0 - n)))
    | .xor => some (.int k (k.wrap (BitVec.ofInt k.bits (if k.signed then -1 else k.max) ^^^ BitVec.ofInt k.bits n).toNat))
    | _ => none
  | _ => none
theorem unX_ok {s : S} {op : UnOp} {t : TypeId} {x : Operand} {v : V} (ho : o.op = .unOp op t x) (hc : unX op (evX s x) = some v) (hs : CovS bs s σs) : ∃ v', Qt c σs Ls o v' ∧ RV bs v v' := by
  generalize hx : evX s x = e1 at hc
  unfold unX at hc
  split at hc
  · split at hc
    · cases hc
      obtain ⟨_, h1, h2⟩ := evX_ok hs hx; cases h2
      exact ⟨_, Qt_not ho h1, .bool _⟩
    · cases hc
  · obtain ⟨_, h1, h2⟩ := evX_ok hs hx; cases h2
    split at hc
    · cases hc
      exact ⟨_, Qt_neg ho h1, .int _ _⟩
    · cases hc
      refine ⟨_, Qt_of_run (by simp [ho]) (fun ρ hρ w _ => ?_), .int _ _⟩
      simp [execOp, ho, hρ x _ h1, Op.unary, Op.intBits]
    · cases hc
  · cases hc
def convX (P : Program) (a b : TypeId) : Option V → Option V
  | some (.int _ n) => match P.underlying a, P.underlying b with
    | some _, some (.int k) => some (.int k (k.wrap n))
    | _, _ => none
  | some (.str s) => match P.underlying a, P.underlying b with
    | some _, some .string => some (.str s)
    | _, _ => none
  | _ => none
theorem convX_ok {s : S} {t t' : TypeId} {x : Operand} {v : V} (ho : o.op = .convert t t' x) (hc : convX c.P t t' (evX s x) = some v) (hs : CovS bs s σs) : ∃ v', Qt c σs Ls o v' ∧ RV bs v v' := by
  generalize hx : evX s x = e1 at hc
  unfold convX at hc
  split at hc
  · obtain ⟨_, h1, h2⟩ := evX_ok hs hx; cases h2
    split at hc
    · rename_i d k e1 e2
      cases hc
      haveI : TUnd c.P t d := ⟨e1⟩
      haveI : TUnd c.P t' (.int k) := ⟨e2⟩
      exact ⟨_, Qt_convInt ho h1, .int _ _⟩
    · cases hc
  · obtain ⟨_, h1, h2⟩ := evX_ok hs hx; cases h2
    split at hc
    · rename_i d e1 e2
      cases hc
      refine ⟨_, Qt_of_run (by simp [ho]) (fun ρ hρ w _ => ?_), .str _⟩
      cases d <;> simp [execOp, ho, hρ x _ h1, convert, run_underlying e1, run_underlying e2]
    · cases hc
  · cases hc
def extractX (k : Nat) : Option V → Option V
  | some (.tup l) => l[k]?
  | _ => none
theorem extractX_ok {s : S} {k : Nat} {x : Operand} {v : V} (ho : o.op = .extract x k) (hc : extractX k (evX s x) = some v) (hs : CovS bs s σs) : ∃ v', Qt c σs Ls o v' ∧ RV bs v v' := by
  generalize hx : evX s x = e1 at hc
  unfold extractX at hc
  split at hc
  · obtain ⟨_, h1, h2⟩ := evX_ok hs hx; cases h2
    rename_i l' hl
    obtain ⟨v', h3, h4⟩ := hl.get hc
    exact ⟨v', Qt_extract ho h1 (by simpa using h3), h4⟩
  · cases hc
def makeFuncX (f : Go.Fn) : Option (List V) → Option (List V) → Option V
  | some A, some B => some (.fn f A B)
  | _, _ => none
theorem makeFuncX_ok {s : S} {f : Go.Fn} {A B : Array Operand} {v : V} (ho : o.op = .makeFunc f A B) (hc : makeFuncX f (evsX s A.toList) (evsX s B.toList) = some v) (hs : CovS bs s σs) : ∃ v', Qt c σs Ls o v' ∧ RV bs v v' := by
  generalize hx : evsX s A.toList = e1 at hc
  generalize hy : evsX s B.toList = e2 at hc
  unfold makeFuncX at hc
  split at hc
  · cases hc
    obtain ⟨_, h1, h2⟩ := evsX_ok hs hx
    obtain ⟨_, h3, h4⟩ := evsX_ok hs hy
    exact ⟨_, Qt_makeFunc ho h1 h3, .fn f h2 h4⟩
  · cases hc
def lenX (P : Program) (t : TypeId) : Option V → Option V
  | some (.sl _ _ n _ _) => match P.underlying t with
    | some (.slice _) => some (.int .i64 n)
    | _ => none
  | some .slN => match P.underlying t with
    | some (.slice _) => some (.int .i64 0)
    | _ => none
  | some (.str s) => match P.underlying t with
    | some .string => some (.int .i64 s.size)
    | _ => none
  | some _ => match P.underlying t with
    | some (.array n _) => some (.int .i64 n)
    | some (.pointer e) => match P.underlying e with
      | some (.array n _) => some (.int .i64 n)
      | _ => none
    | _ => none
  | none => none
theorem lenX_ok {s : S} {t : TypeId} {x : Operand} {v : V} (ho : o.op = .call { callee := .builtin .len, args := #[x], argTypes := #[t] }) (hc : lenX c.P t (evX s x) = some v) (hs : CovS bs s σs) : ∃ v', Qt c σs Ls o v' ∧ RV bs v v' := by
  generalize hx : evX s x = e1 at hc
  unfold lenX at hc
  split at hc
  · split at hc
    · rename_i E hu
      cases hc
      obtain ⟨_, h1, h2⟩ := evX_ok hs hx; cases h2
      haveI : TUnd c.P t (.slice E) := ⟨hu⟩
      exact ⟨_, Qt_lenSl ho h1, .int _ _⟩
    · cases hc
  · split at hc
    · rename_i E hu
      cases hc
      obtain ⟨_, h1, h2⟩ := evX_ok hs hx; cases h2
      haveI : TUnd c.P t (.slice E) := ⟨hu⟩
      exact ⟨_, Qt_lenSl ho h1, .int _ _⟩
    · cases hc
  · split at hc
    · rename_i hu
      cases hc
      obtain ⟨_, h1, h2⟩ := evX_ok hs hx; cases h2
      haveI : TUnd c.P t .string := ⟨hu⟩
      exact ⟨_, Qt_lenStr ho h1, .int _ _⟩
    · cases hc
  · obtain ⟨x', h1, h2⟩ := evX_ok hs hx
    split at hc
    · rename_i n E hu
      cases hc
      refine ⟨_, Qt_of_run (by simp [ho]) (fun ρ hρ w _ => ?_), .int _ _⟩
      simp [execOp, ho, resolve, invoke, builtin, Builtin.len_, hρ x _ h1, run_underlying hu, goInt]
    · rename_i e hu
      split at hc
      · rename_i n E hu2
        cases hc
        refine ⟨_, Qt_of_run (by simp [ho]) (fun ρ hρ w _ => ?_), .int _ _⟩
        simp [execOp, ho, resolve, invoke, builtin, Builtin.len_, hρ x _ h1, run_underlying hu, run_underlying hu2, goInt]
      · cases hc
    · cases hc
  · cases hc
def minX (gt : Bool) : Option (List V) → Option V
  | some [.int k a, .int k' b] => match decide (k = k') with
    | true => match gt with
      | false => some (.int k (if b < a then b else a))
      | true => some (.int k (if b > a then b else a))
    | false => none
  | _ => none
theorem minX_ok {s : S} {gt : Bool} {args : Array Operand} {tys : Array TypeId} {v : V} (ho : o.op = .call { callee := .builtin (if gt then .max else .min), args := args, argTypes := tys }) (hc : minX gt (evsX s args.toList) = some v) (hs : CovS bs s σs) : ∃ v', Qt c σs Ls o v' ∧ RV bs v v' := by
  generalize hx : evsX s args.toList = e1 at hc
  unfold minX at hc
  split at hc
  · rename_i k a k' b
    split at hc
    · rename_i hk
      obtain rfl := of_decide_eq_true hk
      obtain ⟨l', h1, h2⟩ := evsX_ok hs hx
      cases h2; rename_i h3 h2; cases h3
      cases h2; rename_i h3 h2; cases h3
      cases h2
      split at hc
      · cases hc
        refine ⟨_, Qt_of_run (by simp [ho]) (fun ρ hρ w _ => ?_), .int _ _⟩
        have := evs_mapA hρ h1
        simp [execOp, ho, resolve, invoke, builtin, this, Builtin.min_, Builtin.min2]
      · cases hc
        refine ⟨_, Qt_of_run (by simp [ho]) (fun ρ hρ w _ => ?_), .int _ _⟩
        have := evs_mapA hρ h1
        simp [execOp, ho, resolve, invoke, builtin, this, Builtin.max_, Builtin.max2]
    · cases hc
  · cases hc
def fillX (pl : Nat → Option (Nat × Nat)) (N : Nat) (z : List V) : List (Nat × V) → Option (List V)
  | [] => some z
  | (i, v) :: r => match pl i with
    | some (off, n) => match Nat.beq v.cells.length n, Nat.ble (Nat.add off n) N with
      | true, true => fillX pl N (z.take off ++ v.cells ++ z.drop (Nat.add off n)) r
      | _, _ => none
    | none => none
def RVp (bs : Bs) : List (Nat × V) → List (Nat × Value) → Prop
  | [], l => l = []
  | (i, v) :: r, l => ∃ v' r', l = (i, v') :: r' ∧ RV bs v v' ∧ RVp bs r r'
theorem fillX_ok {pl : Nat → Option (Nat × Nat)} {N : Nat} : ∀ {parts : List (Nat × V)} {parts' : List (Nat × Value)} {z l : List V} {z' : List Value}, fillX pl N z parts = some l → RVp bs parts parts' → RVs bs z z' → z.length = N → ∃ l', Instr.fill pl z'.toArray parts' = some l' ∧ RVs bs l l'.toList
  | [], _, z, l, z', h, hp, hz, _ => by cases h; cases hp; exact ⟨_, rfl, by simpa using hz⟩
  | (i, v) :: r, _, z, l, z', h, ⟨v', r', e, hv, hr⟩, hz, hN => by
    subst e
    simp only [fillX] at h
    split at h
    · rename_i off n hpl
      split at h
      · rename_i h1 h2
        have h3 := Nat.eq_of_beq_eq_true h1
        have h4 : off + n ≤ N := Nat.le_of_ble_eq_true h2
        have hc := hv.cells
        have hl := hc.length
        have hzl := hz.length
        simp only [Array.length_toList] at hl
        have e1 : (v'.cells.zipIdx.foldl (fun (cs : Array Value) (p : Value × Nat) => cs.setIfInBounds (off + p.2) p.1) z'.toArray) = putR z'.toArray off v'.cells := by
          have hf := fold_put v'.cells.toList 0 off z'.toArray (by simp; omega)
          rw [← Array.foldl_toList, Array.toList_zipIdx, hf]
          simp
        have hput : RVs bs (z.take off ++ v.cells ++ z.drop (off + n)) (putR z'.toArray off v'.cells).toList := by
          simp only [putR]
          rw [← hl, h3]
          exact ((hz.take off).append hc).append (hz.drop (off + n))
        obtain ⟨l', h5, h6⟩ := fillX_ok (z' := (putR z'.toArray off v'.cells).toList) h hr hput (by simp; omega)
        refine ⟨l', ?_, h6⟩
        simp only [Instr.fill, hpl]
        rw [if_neg (by simp; omega)]
        have e2 : (putR z'.toArray off v'.cells).toList.toArray = putR z'.toArray off v'.cells := by simp
        rw [e2, ← e1] at h5
        exact h5
      · cases h
    · cases h
def evpX (s : S) : List (Nat × Operand) → Option (List (Nat × V))
  | [] => some []
  | (i, x) :: r => match evX s x, evpX s r with
    | some v, some l => some ((i, v) :: l)
    | _, _ => none
theorem evpX_ok {s : S} (hs : CovS bs s σs) : ∀ {xs : List (Nat × Operand)} {l : List (Nat × V)}, evpX s xs = some l → ∃ l', evp σs xs = some l' ∧ RVp bs l l'
  | [], _, h => by cases h; exact ⟨[], rfl, rfl⟩
  | (i, x) :: r, l, h => by
    simp only [evpX] at h
    split at h
    · rename_i v l h1 h2
      cases h
      obtain ⟨v', h3, h4⟩ := evX_ok hs h1
      obtain ⟨l', h5, h6⟩ := evpX_ok hs h2
      exact ⟨(i, v') :: l', by simp [evp, h3, h5], v', l', rfl, h4, h6⟩
    · cases h
def zeroX (P : Program) (t : TypeId) : Option (List V) := match P.info? t with
  | some i => match i.zero with
    | some z => V.ofConsts z.cells.toList
    | none => none
  | none => none
def placesX (P : Program) : List Field → Option (List (Nat × Nat))
  | [] => some []
  | f :: r => match sizeX P f.type, placesX P r with
    | some n, some l => some ((f.offset, n) :: l)
    | _, _ => none
theorem placesX_ok {P : Program} : ∀ {fs : List Field} {l : List (Nat × Nat)}, placesX P fs = some l → fs.mapM (fun f => (P.info? f.type).map fun i => (f.offset, i.size)) = some l
  | [], _, h => by cases h; rfl
  | f :: r, l, h => by
    simp only [placesX] at h
    split at h
    · rename_i n l h1 h2
      cases h
      unfold sizeX at h1
      split at h1
      · rename_i i hi
        cases h1
        simp [List.mapM_cons, hi, placesX_ok h2]
      · cases h1
    · cases h
def buildX (P : Program) (t : TypeId) : Option (List (Nat × V)) → Option V
  | some parts => match zeroX P t with
    | some z => match P.underlying t with
      | some (.struct fs) => match placesX P fs.toList with
        | some pl => match fillX (fun i => pl[i]?) z.length z parts with
          | some l => some (.agg l)
          | none => none
        | none => none
      | some (.array _ e) => match sizeX P e with
        | some n => match fillX (fun i => some (Nat.mul i n, n)) z.length z parts with
          | some l => some (.agg l)
          | none => none
        | none => none
      | _ => none
    | none => none
  | none => none
theorem buildX_ok {s : S} {t : TypeId} {parts : Array (Nat × Operand)} {v : V} (ho : o.op = .build t parts) (hc : buildX c.P t (evpX s parts.toList) = some v) (hs : CovS bs s σs) : ∃ v', Qt c σs Ls o v' ∧ RV bs v v' := by
  generalize hx : evpX s parts.toList = e1 at hc
  unfold buildX at hc
  split at hc
  · rename_i ps
    obtain ⟨ps', h1, h2⟩ := evpX_ok hs hx
    split at hc
    · rename_i z hz
      unfold zeroX at hz
      split at hz
      · rename_i it hi
        split at hz
        · rename_i zv hzv
          have hzr := V.ofConsts_ok (bs := bs) hz
          have fin : ∀ l', c.P.built t ps' = some l' → RVs bs (match v with | .agg l => l | _ => []) l'.toList → (∃ l, v = .agg l) → ∃ v', Qt c σs Ls o v' ∧ RV bs v v' := fun l' hb hr ⟨l, hl⟩ => by
            subst hl
            refine ⟨.agg l', Qt_of_run (by simp [ho]) (fun ρ hρ w _ => ?_), by simpa using RV.agg hr⟩
            have h3 := evp_map hρ h1
            have h4 := run_build (P := c.P) w t (parts.map fun (i, x) => (i, ρ x)) l' (by rw [Array.toList_map, h3]; exact hb)
            simp [execOp, ho, h4]
          split at hc
          · rename_i fs hu
            split at hc
            · rename_i pl hpl
              split at hc
              · rename_i l hl
                cases hc
                obtain ⟨l', h5, h6⟩ := fillX_ok hl h2 hzr rfl
                refine fin l' ?_ h6 ⟨_, rfl⟩
                have h7 := placesX_ok hpl
                simp only [Program.built, hi, hu, hzv, h7]
                simpa using h5
              · cases hc
            · cases hc
          · rename_i q e hu
            split at hc
            · rename_i n hn
              split at hc
              · rename_i l hl
                cases hc
                obtain ⟨l', h5, h6⟩ := fillX_ok hl h2 hzr rfl
                refine fin l' ?_ h6 ⟨_, rfl⟩
                unfold sizeX at hn
                split at hn
                · rename_i ie hie
                  cases hn
                  simp only [Program.built, hi, hu, hzv, hie]
                  simpa using h5
                · cases hn
              · cases hc
            · cases hc
          · cases hc
        · cases hz
      · cases hz
    · cases hc
  · cases hc
def boundX (d : Nat) : Option (Option V) → Option Nat
  | none => some d
  | some (some (.int _ (.ofNat i))) => some i
  | _ => none
def sliceX (P : Program) (t : TypeId) (x : Option V) (lo hi mx : Option (Option V)) : Option V :=
  match mx with
  | some _ => none
  | none => match x with
    | some (.sl k off len sz ex) => match P.underlying t with
      | some (.slice E) => match sizeX P E, boundX 0 lo, boundX len hi with
        | some n, some l, some h => match Nat.ble l h, Nat.ble h len, Nat.beq n sz with
          | true, true, true => some (.sl k (Nat.add off (Nat.mul l n)) (Nat.sub h l) sz (ex && Nat.beq h len))
          | _, _, _ => none
        | _, _, _ => none
      | _ => none
    | some .slN => match P.underlying t with
      | some (.slice E) => match sizeX P E, boundX 0 lo, boundX 0 hi with
        | some _, some 0, some 0 => some .slN
        | _, _, _ => none
      | _ => none
    | some (.str s) => match P.underlying t with
      | some .string => match boundX 0 lo, boundX s.size hi with
        | some l, some h => match Nat.ble l h, Nat.ble h s.size with
          | true, true => some (.str (s.extract l h))
          | _, _ => none
        | _, _ => none
      | _ => none
    | _ => none
theorem boundX_val {s : S} (hs : CovS bs s σs) {d : Nat} {x : Operand} {l : Nat} (h : boundX d (some (evX s x)) = some l) : ∃ k, ev σs x = some (.int k (l : Int)) := by
  generalize hx : evX s x = e at h
  unfold boundX at h
  split at h
  · rename_i h0; cases h0
  · rename_i k i h0
    cases h
    cases h0
    obtain ⟨_, h1, h2⟩ := evX_ok hs hx; cases h2
    exact ⟨k, h1⟩
  · cases h
set_option maxHeartbeats 4000000 in
theorem sliceX_ok {s : S} {t : TypeId} {x : Operand} {lo hi mx : Option Operand} {v : V} (ho : o.op = .slice t x lo hi mx) (hc : sliceX c.P t (evX s x) (lo.map (evX s)) (hi.map (evX s)) (mx.map (evX s)) = some v) (hs : CovS bs s σs) : ∃ v', Qt c σs Ls o v' ∧ RV bs v v' := by
  generalize hx : evX s x = e1 at hc
  unfold sliceX at hc
  split at hc
  · cases hc
  · rename_i hmx
    obtain rfl : mx = none := by cases mx with
      | none => rfl
      | some _ => cases hmx
    split at hc
    · rename_i k off len sz ex
      obtain ⟨_, h1, h2⟩ := evX_ok hs hx
      obtain ⟨b, base, av, off', cap, rfl, hk, q1, q2, q3, q4⟩ := h2.sl_inv
      split at hc
      · rename_i E hu
        split at hc
        · rename_i n l h hn hl hh
          split at hc
          · rename_i c1 c2 c3
            cases hc
            have d1 : l ≤ h := Nat.le_of_ble_eq_true c1
            have d2 : h ≤ len := Nat.le_of_ble_eq_true c2
            obtain rfl := Nat.eq_of_beq_eq_true c3
            have hut : c.P.underlying t = some (.slice (c.P.elem t)) := by rw [elem_of hu]; exact hu
            have hsz := (sizeX_ok hn).h
            refine ⟨sliced (some ⟨b, off', none⟩) l h cap n, Qt_of_run (by simp [ho]) (fun ρ hρ w _ => ?_), ?_⟩
            · have e1 : ∀ (lo hi : Option Value), (Instr.sliceAt t (.slice (some ⟨b, off', none⟩) len cap) lo hi none).run c.P w = (Instr.slice t (.slice (some ⟨b, off', none⟩) len cap) lo hi none).run c.P w := fun lo hi => run_sliceAt_slice (P := c.P) w t _ lo hi none hut
              cases lo with
              | none =>
                simp only [Option.map_none, boundX, Option.some.injEq] at hl
                subst hl
                cases hi with
                | none =>
                  simp only [Option.map_none, boundX, Option.some.injEq] at hh
                  subst hh
                  have h3 := run_slice_all (P := c.P) w t (some ⟨b, off', none⟩) len cap hut
                  rw [elem_of hu, hsz] at h3
                  simp [execOp, ho, hρ x _ h1, e1, h3, Result.andThen]
                | some y =>
                  obtain ⟨kk, h5⟩ := boundX_val hs hh
                  have h3 := run_slice_h (P := c.P) w t (some ⟨b, off', none⟩) len cap hut kk h (by omega) (by omega)
                  rw [elem_of hu, hsz] at h3
                  simp [execOp, ho, hρ x _ h1, hρ y _ h5, e1, h3, Result.andThen]
              | some z =>
                obtain ⟨kz, h6⟩ := boundX_val hs hl
                cases hi with
                | none =>
                  simp only [Option.map_none, boundX, Option.some.injEq] at hh
                  subst hh
                  have h3 := run_slice_l (P := c.P) w t (some ⟨b, off', none⟩) len cap hut kz l (by omega) (by omega)
                  rw [elem_of hu, hsz] at h3
                  simp [execOp, ho, hρ x _ h1, hρ z _ h6, e1, h3, Result.andThen]
                | some y =>
                  obtain ⟨kk, h5⟩ := boundX_val hs hh
                  have h3 := run_slice_lh (P := c.P) w t (some ⟨b, off', none⟩) len cap hut kz kk l h (by omega) (by omega) (by omega)
                  rw [elem_of hu, hsz] at h3
                  simp [execOp, ho, hρ x _ h1, hρ y _ h5, hρ z _ h6, e1, h3, Result.andThen]
            · rw [sliced_eq]
              have hm1 : (cap - l) * n + l * n = cap * n := by rw [← Nat.add_mul]; congr 1; omega
              refine .sl (fun e => by
                  simp only [Bool.and_eq_true] at e
                  obtain ⟨rfl, e2⟩ := e
                  have := h2.sl_ex
                  have := Nat.eq_of_beq_eq_true e2
                  show cap - l = h - l
                  omega) hk (by show h - l ≤ cap - l; omega) (by omega) ?_ (by show off + l * n + (cap - l) * n ≤ av; omega)
              unfold slOff
              by_cases e : cap = l
              · right
                rw [if_pos e]
                refine ⟨by omega, ?_⟩
                rcases q3 with q3 | q3 <;> omega
              · left
                rw [if_neg e]
                show off' + l * n = base + (off + l * n)
                omega
          · cases hc
        · cases hc
      · cases hc
    · obtain ⟨_, h1, h2⟩ := evX_ok hs hx; cases h2
      split at hc
      · rename_i E hu
        split at hc
        · rename_i n0 hsz hl hh
          cases hc
          have hut : c.P.underlying t = some (.slice (c.P.elem t)) := by rw [elem_of hu]; exact hu
          refine ⟨.slice none 0 0, Qt_of_run (by simp [ho]) (fun ρ hρ w _ => ?_), .slN⟩
          obtain ⟨n, hn⟩ : ∃ n, sizeX c.P E = some n := ⟨n0, hsz⟩
          have hsz2 := (sizeX_ok hn).h
          have e1 : ∀ (lo hi : Option Value), (Instr.sliceAt t (.slice none 0 0) lo hi none).run c.P w = (Instr.slice t (.slice none 0 0) lo hi none).run c.P w := fun lo hi => run_sliceAt_slice (P := c.P) w t _ lo hi none hut
          cases lo with
          | none =>
            cases hi with
            | none =>
              have h3 := run_slice_all (P := c.P) w t none 0 0 hut
              rw [elem_of hu, hsz2] at h3
              simp [execOp, ho, hρ x _ h1, e1, h3, Result.andThen, sliced]
            | some y =>
              obtain ⟨kk, h5⟩ := boundX_val hs hh
              have h3 := run_slice_h (P := c.P) w t none 0 0 hut kk 0 (by omega) (by omega)
              rw [elem_of hu, hsz2] at h3
              have h7 := hρ y _ h5
              rw [show ((0 : Nat) : Int) = 0 from rfl] at h7
              simp [execOp, ho, hρ x _ h1, h7, e1, h3, Result.andThen, sliced]
          | some z =>
            obtain ⟨kz, h6⟩ := boundX_val hs hl
            have h8 := hρ z _ h6
            rw [show ((0 : Nat) : Int) = 0 from rfl] at h8
            cases hi with
            | none =>
              have h3 := run_slice_l (P := c.P) w t none 0 0 hut kz 0 (by omega) (by omega)
              rw [elem_of hu, hsz2] at h3
              simp [execOp, ho, hρ x _ h1, h8, e1, h3, Result.andThen, sliced]
            | some y =>
              obtain ⟨kk, h5⟩ := boundX_val hs hh
              have h3 := run_slice_lh (P := c.P) w t none 0 0 hut kz kk 0 0 (by omega) (by omega) (by omega)
              rw [elem_of hu, hsz2] at h3
              have h7 := hρ y _ h5
              rw [show ((0 : Nat) : Int) = 0 from rfl] at h7
              simp [execOp, ho, hρ x _ h1, h7, h8, e1, h3, Result.andThen, sliced]
        · cases hc
      · cases hc
    · obtain ⟨_, h1, h2⟩ := evX_ok hs hx; cases h2
      split at hc
      · rename_i hu
        split at hc
        · rename_i l h hl hh
          split at hc
          · rename_i c1 c2
            cases hc
            have d1 : l ≤ h := Nat.le_of_ble_eq_true c1
            have d2 := Nat.le_of_ble_eq_true c2
            refine ⟨_, Qt_of_run (by simp [ho]) (fun ρ hρ w _ => ?_), .str _⟩
            cases lo with
            | none =>
              simp only [Option.map_none, boundX, Option.some.injEq] at hl
              subst hl
              cases hi with
              | none =>
                simp only [Option.map_none, boundX, Option.some.injEq] at hh
                subst hh
                simp [execOp, ho, hρ x _ h1, Instr.sliceAt, run_underlying hu, Instr.slice, Instr.sliceBounds]
              | some y =>
                obtain ⟨kk, h5⟩ := boundX_val hs hh
                simp [execOp, ho, hρ x _ h1, hρ y _ h5, Instr.sliceAt, run_underlying hu, Instr.slice, Instr.sliceBounds, Instr.sliceBound, asIntOf, d2]
            | some z =>
              obtain ⟨kz, h6⟩ := boundX_val hs hl
              cases hi with
              | none =>
                simp only [Option.map_none, boundX, Option.some.injEq] at hh
                subst hh
                simp [execOp, ho, hρ x _ h1, hρ z _ h6, Instr.sliceAt, run_underlying hu, Instr.slice, Instr.sliceBounds, Instr.sliceBound, asIntOf, d1]
              | some y =>
                obtain ⟨kk, h5⟩ := boundX_val hs hh
                simp [execOp, ho, hρ x _ h1, hρ y _ h5, hρ z _ h6, Instr.sliceAt, run_underlying hu, Instr.slice, Instr.sliceBounds, Instr.sliceBound, asIntOf, d1, d2]
          · cases hc
        · cases hc
      · cases hc
    · cases hc
def slice3X (P : Program) (t : TypeId) (x : Option V) (lo hi mx : Option (Option V)) : Option V :=
  match x, hi, mx with
  | some (.sl k off len sz _), some hi, some mx => match P.underlying t with
    | some (.slice E) => match sizeX P E, boundX 0 lo, boundX 0 (some hi), boundX 0 (some mx) with
      | some n, some l, some h, some m => match Nat.ble l h, Nat.ble h m, Nat.ble m len, Nat.beq n sz with
        | true, true, true, true => some (.sl k (Nat.add off (Nat.mul l n)) (Nat.sub h l) sz (Nat.beq h m))
        | _, _, _, _ => none
      | _, _, _, _ => none
    | _ => none
  | some .slN, some hi, some mx => match P.underlying t with
    | some (.slice E) => match sizeX P E, boundX 0 lo, boundX 0 (some hi), boundX 0 (some mx) with
      | some _, some 0, some 0, some 0 => some .slN
      | _, _, _, _ => none
    | _ => none
  | _, _, _ => none
set_option maxHeartbeats 4000000 in
theorem slice3X_ok {s : S} {t : TypeId} {x : Operand} {lo hi mx : Option Operand} {v : V} (ho : o.op = .slice t x lo hi mx) (hc : slice3X c.P t (evX s x) (lo.map (evX s)) (hi.map (evX s)) (mx.map (evX s)) = some v) (hs : CovS bs s σs) : ∃ v', Qt c σs Ls o v' ∧ RV bs v v' := by
  generalize hx : evX s x = e1 at hc
  cases hi with
  | none => unfold slice3X at hc; split at hc <;> first | (cases hc; done) | (rename_i h1 h2; cases h1)
  | some y =>
    cases mx with
    | none => unfold slice3X at hc; split at hc <;> first | (cases hc; done) | (rename_i h1 h2; cases h2)
    | some z =>
      simp only [Option.map_some] at hc
      unfold slice3X at hc
      split at hc
      · rename_i k off len sz ex hi' mx' g1 g2
        cases g1; cases g2
        obtain ⟨_, h1, h2⟩ := evX_ok hs hx
        obtain ⟨b, base, av, off', cap, rfl, hk, q1, q2, q3, q4⟩ := h2.sl_inv
        split at hc
        · rename_i E hu
          split at hc
          · rename_i n l h m hn hl hh hm
            split at hc
            · rename_i c1 c2 c3 c4
              cases hc
              have d1 : l ≤ h := Nat.le_of_ble_eq_true c1
              have d2 : h ≤ m := Nat.le_of_ble_eq_true c2
              have d3 : m ≤ len := Nat.le_of_ble_eq_true c3
              have d4 : m ≤ cap := Nat.le_trans d3 q1
              obtain rfl := Nat.eq_of_beq_eq_true c4
              have hut : c.P.underlying t = some (.slice (c.P.elem t)) := by rw [elem_of hu]; exact hu
              have hsz := (sizeX_ok hn).h
              obtain ⟨k1, h5⟩ := boundX_val hs hh
              obtain ⟨k2, h6⟩ := boundX_val hs hm
              refine ⟨.slice (some (if m = l then ⟨b, off', none⟩ else (⟨b, off', none⟩ : Addr).add (l * n))) (h - l) (m - l), Qt_of_run (by simp [ho]) (fun ρ hρ w _ => ?_), ?_⟩
              · have e1 : ∀ (lo hi mx : Option Value), (Instr.sliceAt t (.slice (some ⟨b, off', none⟩) len cap) lo hi mx).run c.P w = (Instr.slice t (.slice (some ⟨b, off', none⟩) len cap) lo hi mx).run c.P w := fun lo hi mx => run_sliceAt_slice (P := c.P) w t _ lo hi mx hut
                cases lo with
                | none =>
                  simp only [Option.map_none, boundX, Option.some.injEq] at hl
                  subst hl
                  by_cases e : m = 0
                  · subst e
                    obtain rfl : h = 0 := by omega
                    have h5' := hρ y _ h5
                    have h6' := hρ z _ h6
                    rw [show ((0 : Nat) : Int) = 0 from rfl] at h5' h6'
                    simp [execOp, ho, hρ x _ h1, h5', h6', e1, Instr.slice, run_underlying hu, Instr.sliceBounds, Instr.sliceBound, asIntOf, hsz]
                  · simp [execOp, ho, hρ x _ h1, hρ y _ h5, hρ z _ h6, e1, Instr.slice, run_underlying hu, Instr.sliceBounds, Instr.sliceBound, asIntOf, d2, d4, hsz, e]
                | some u =>
                  obtain ⟨k3, h7⟩ := boundX_val hs hl
                  by_cases e : m = l
                  · subst e
                    obtain rfl : h = m := by omega
                    simp [execOp, ho, hρ x _ h1, hρ y _ h5, hρ z _ h6, hρ u _ h7, e1, Instr.slice, run_underlying hu, Instr.sliceBounds, Instr.sliceBound, asIntOf, d4, hsz]
                  · simp [execOp, ho, hρ x _ h1, hρ y _ h5, hρ z _ h6, hρ u _ h7, e1, Instr.slice, run_underlying hu, Instr.sliceBounds, Instr.sliceBound, asIntOf, d1, d2, d4, hsz, e]
              · have hm1 : (m - l) * n + l * n = m * n := by rw [← Nat.add_mul]; congr 1; omega
                have hm2 : m * n ≤ cap * n := Nat.mul_le_mul_right _ d4
                have hex : Nat.beq h m = true → m - l = h - l := fun e => by have := Nat.eq_of_beq_eq_true e; omega
                by_cases e : m = l
                · rw [if_pos e]
                  refine .sl hex hk (by show h - l ≤ m - l; omega) (by omega) (.inr ⟨by omega, ?_⟩) (by show off + l * n + (m - l) * n ≤ av; omega)
                  rcases q3 with q3 | q3 <;> omega
                · rw [if_neg e, addr_add]
                  exact .sl hex hk (by show h - l ≤ m - l; omega) (by omega) (.inl (by show off' + l * n = base + (off + l * n); omega)) (by show off + l * n + (m - l) * n ≤ av; omega)
            · cases hc
          · cases hc
        · cases hc
      · rename_i hi' mx' g1 g2
        cases g1; cases g2
        obtain ⟨_, h1, h2⟩ := evX_ok hs hx; cases h2
        split at hc
        · rename_i E hu
          split at hc
          · rename_i n hn hl hh hm
            cases hc
            have hut : c.P.underlying t = some (.slice (c.P.elem t)) := by rw [elem_of hu]; exact hu
            have hsz := (sizeX_ok hn).h
            obtain ⟨k1, h5⟩ := boundX_val hs hh
            obtain ⟨k2, h6⟩ := boundX_val hs hm
            refine ⟨.slice none 0 0, Qt_of_run (by simp [ho]) (fun ρ hρ w _ => ?_), .slN⟩
            have e1 : ∀ (lo hi mx : Option Value), (Instr.sliceAt t (.slice none 0 0) lo hi mx).run c.P w = (Instr.slice t (.slice none 0 0) lo hi mx).run c.P w := fun lo hi mx => run_sliceAt_slice (P := c.P) w t _ lo hi mx hut
            have h5' := hρ y _ h5
            have h6' := hρ z _ h6
            rw [show ((0 : Nat) : Int) = 0 from rfl] at h5' h6'
            cases lo with
            | none => simp [execOp, ho, hρ x _ h1, h5', h6', e1, Instr.slice, run_underlying hu, Instr.sliceBounds, Instr.sliceBound, asIntOf, hsz]
            | some u =>
              obtain ⟨k3, h7⟩ := boundX_val hs hl
              have h7' := hρ u _ h7
              rw [show ((0 : Nat) : Int) = 0 from rfl] at h7'
              simp [execOp, ho, hρ x _ h1, h5', h6', h7', e1, Instr.slice, run_underlying hu, Instr.sliceBounds, Instr.sliceBound, asIntOf, hsz]
          · cases hc
        · cases hc
      · cases hc
def lastB (c : T V) (i : Nat) : Bool := match c.get i with
  | some _ => true
  | none => false
def sliceArrX (P : Program) (h : T O) (t : TypeId) (x : Option V) (lo hi mx : Option (Option V)) : Option (V × Option Nat) :=
  match mx with
  | some _ => none
  | none => match x with
    | some (.ptr k off) => match P.underlying t with
      | some (.array n E) => match sizeX P E, boundX 0 lo, boundX n hi, h.get k with
        | some sz, some l, some r, some (.cells c _) => match Nat.ble l r, Nat.ble r n, Nat.ble n 1000000, Nat.ble 1 (Nat.mul n sz), lastB c (Nat.sub (Nat.add off (Nat.mul n sz)) 1) with
          | true, true, true, true, true => some (.sl k (Nat.add off (Nat.mul l sz)) (Nat.sub r l) sz (Nat.beq r n), some k)
          | _, _, _, _, _ => none
        | _, _, _, _ => none
      | _ => none
    | _ => none
set_option maxHeartbeats 4000000 in
theorem sliceArrX_ok {s : S} {h : T O} {t : TypeId} {x : Operand} {lo hi mx : Option Operand} {v : V} {rd : Option Nat} (ho : o.op = .slice t x lo hi mx) (hc : sliceArrX c.P h t (evX s x) (lo.map (evX s)) (hi.map (evX s)) (mx.map (evX s)) = some (v, rd)) (hs : CovS bs s σs) (hm : ∀ k ob, rd = some k → h.get k = some ob → At bs Ls k ob) : ∃ v', Qt c σs Ls o v' ∧ RV bs v v' := by
  generalize hx : evX s x = e1 at hc
  unfold sliceArrX at hc
  split at hc
  · cases hc
  · rename_i hmx
    obtain rfl : mx = none := by cases mx with
      | none => rfl
      | some _ => cases hmx
    split at hc
    · rename_i k off
      obtain ⟨_, h1, h2⟩ := evX_ok hs hx
      obtain ⟨b, base, av, rfl, hk⟩ := h2.ptr_inv
      split at hc
      · rename_i n E hu
        split at hc
        · rename_i sz l r cc E' hsz hl hh hg
          split at hc
          · rename_i c1 c2 c3 c4 c5
            cases hc
            have d1 : l ≤ r := Nat.le_of_ble_eq_true c1
            have d2 : r ≤ n := Nat.le_of_ble_eq_true c2
            have d3 : n ≤ 1000000 := Nat.le_of_ble_eq_true c3
            have d4 : 1 ≤ n * sz := Nat.le_of_ble_eq_true c4
            have hav : off + n * sz ≤ av := by
              obtain ⟨b', base', av', i, o', a1, a2, cs, rfl, a3, a4⟩ := hm k _ rfl hg
              rw [hk] at a1; cases a1
              unfold lastB at c5
              split at c5
              · rename_i u hu'
                have h5 := (a4 _ _ hu').1
                have e : Nat.sub (Nat.add off (Nat.mul n sz)) 1 = off + n * sz - 1 := rfl
                rw [e] at h5; omega
              · cases c5
            have hsz' := (sizeX_ok hsz).h
            refine ⟨.slice (some (if n = l then ⟨b, base + off, none⟩ else (⟨b, base + off, none⟩ : Addr).add (l * sz))) (r - l) (n - l), Qt_of_run (by simp [ho]) (fun ρ hρ w _ => ?_), ?_⟩
            · cases lo with
              | none =>
                simp only [Option.map_none, boundX, Option.some.injEq] at hl
                subst hl
                cases hi with
                | none =>
                  simp only [Option.map_none, boundX, Option.some.injEq] at hh
                  subst hh
                  simp [execOp, ho, hρ x _ h1, Instr.sliceAt, run_underlying hu, Instr.sureAddr, Instr.sliceBounds, hsz']
                | some y =>
                  obtain ⟨kk, h5⟩ := boundX_val hs hh
                  simp [execOp, ho, hρ x _ h1, hρ y _ h5, Instr.sliceAt, run_underlying hu, Instr.sureAddr, Instr.sliceBounds, Instr.sliceBound, asIntOf, d2, hsz']
              | some z =>
                obtain ⟨kz, h6⟩ := boundX_val hs hl
                cases hi with
                | none =>
                  simp only [Option.map_none, boundX, Option.some.injEq] at hh
                  subst hh
                  simp [execOp, ho, hρ x _ h1, hρ z _ h6, Instr.sliceAt, run_underlying hu, Instr.sureAddr, Instr.sliceBounds, Instr.sliceBound, asIntOf, d1, hsz']
                | some y =>
                  obtain ⟨kk, h5⟩ := boundX_val hs hh
                  simp [execOp, ho, hρ x _ h1, hρ y _ h5, hρ z _ h6, Instr.sliceAt, run_underlying hu, Instr.sureAddr, Instr.sliceBounds, Instr.sliceBound, asIntOf, d1, d2, hsz']
            · have hm1 : (n - l) * sz + l * sz = n * sz := by rw [← Nat.add_mul]; congr 1; omega
              have hmax : n - l ≤ maxLen := by simp only [maxLen]; omega
              by_cases e : n = l
              · rw [if_pos e]
                exact .sl (fun e => by have := Nat.eq_of_beq_eq_true e; show n - l = r - l; omega) hk (by show r - l ≤ n - l; omega) hmax (.inr ⟨by omega, by omega⟩) (by show off + l * sz + (n - l) * sz ≤ av; omega)
              · rw [if_neg e, addr_add]
                exact .sl (fun e => by have := Nat.eq_of_beq_eq_true e; show n - l = r - l; omega) hk (by show r - l ≤ n - l; omega) hmax (.inl (by show base + off + l * sz = base + (off + l * sz); omega)) (by show off + l * sz + (n - l) * sz ≤ av; omega)
          · cases hc
        · cases hc
      · cases hc
    · cases hc
def bytesOf : List V → Option (List Int)
  | [] => some []
  | v :: r => match v with
    | .int .u8 n => match bytesOf r with
      | some l => some (n :: l)
      | none => none
    | _ => none
theorem bytesOf_ok : ∀ {l : List V} {ns : List Int} {l' : List Value}, bytesOf l = some ns → RVs bs l l' → l' = ns.map (Value.int .u8)
  | [], _, _, h, hl => by cases h; cases hl; rfl
  | v :: r, ns, _, h, .cons hv hl => by
    simp only [bytesOf] at h
    split at h
    · split at h
      · rename_i n l hl2
        cases h
        cases hv
        rw [bytesOf_ok hl2 hl]; rfl
      · cases h
    · cases h
theorem foldl_push : ∀ (ns : List Int) (r : ByteArray), ns.foldl (fun r n => r.push (UInt8.ofNat n.toNat)) r = ⟨r.data ++ (ns.map fun n => UInt8.ofNat n.toNat).toArray⟩
  | [], r => by simp
  | n :: ns, r => by
    simp only [List.foldl_cons, List.map_cons]
    rw [foldl_push ns]
    simp [ByteArray.push]
def textOfX (P : Program) (h : T O) (t t' : TypeId) : Option V → Option (V × Option Nat)
  | some .slN => match P.underlying t, P.underlying t' with
    | some (.slice e), some .string => match P.underlying e with
      | some (.int .u8) => some (.str .empty, none)
      | _ => none
    | _, _ => none
  | some (.sl k off len sz _) => match P.underlying t, P.underlying t', Nat.beq sz 1 with
    | some (.slice e), some .string, true => match P.underlying e, len with
      | some (.int .u8), 0 => some (.str .empty, none)
      | some (.int .u8), m + 1 => match rdX (h.get k) with
        | some c => match cellsX c (m + 1) off with
          | some l => match bytesOf l with
            | some ns => some (.str ⟨(ns.map fun n => UInt8.ofNat n.toNat).toArray⟩, some k)
            | none => none
          | none => none
        | none => none
      | _, _ => none
    | _, _, _ => none
  | _ => none
set_option maxHeartbeats 4000000 in
theorem textOfX_ok {s : S} {h : T O} {t t' : TypeId} {x : Operand} {v : V} {rd : Option Nat} (ho : o.op = .convert t t' x) (hc : textOfX c.P h t t' (evX s x) = some (v, rd)) (hs : CovS bs s σs) (hm : ∀ k ob, rd = some k → h.get k = some ob → At bs Ls k ob) : ∃ v', Qt c σs Ls o v' ∧ RV bs v v' := by
  generalize hx : evX s x = e1 at hc
  unfold textOfX at hc
  split at hc
  · obtain ⟨_, h1, h2⟩ := evX_ok hs hx; cases h2
    split at hc
    · rename_i e hu hu'
      split at hc
      · rename_i he
        cases hc
        refine ⟨.string .empty, Qt_of_run (by simp [ho]) (fun ρ hρ w _ => ?_), .str _⟩
        have := run_convert_bytes_string (P := c.P) w t t' e none 0 0 hu he hu'
        simp [execOp, ho, hρ x _ h1, this, Conv.bytesToString]
      · cases hc
    · cases hc
  · rename_i k off len sz ex
    obtain ⟨_, h1, h2⟩ := evX_ok hs hx
    obtain ⟨b, base, av, off', cap, rfl, hk, q1, q2, q3, q4⟩ := h2.sl_inv
    split at hc
    · rename_i e hu hu' hz
      obtain rfl := Nat.eq_of_beq_eq_true hz
      split at hc
      · rename_i he
        cases hc
        refine ⟨.string .empty, Qt_of_run (by simp [ho]) (fun ρ hρ w _ => ?_), .str _⟩
        have h3 := run_convert_bytes_string (P := c.P) w t t' e (some ⟨b, off', none⟩) 0 cap hu he hu'
        have h4 := run_bytesToString (P := c.P) w ⟨b, off', none⟩ 0 cap [] (by simpa using run_loadCells_list (P := c.P) w ⟨b, off', none⟩ [] (by simp))
        simp [execOp, ho, hρ x _ h1, h3, h4]
      · rename_i m he
        split at hc
        · rename_i cc hb
          split at hc
          · rename_i l hl
            split at hc
            · rename_i ns hns
              cases hc
              obtain ⟨ob, hob, hrd⟩ := rdX_ok (bs := bs) (base := base) (av := av) hb
              obtain ⟨b', base', av', i, o', a1, a2, aRO⟩ := hm k ob rfl hob
              rw [hk] at a1; cases a1
              obtain ⟨cs, E, fr, rfl, a3, a4⟩ := hrd aRO
              obtain ⟨l', e1, e2, e3, e4⟩ := cellsX_ok a4 (m + 1) off l hl
              obtain rfl := bytesOf_ok hns e1
              obtain rfl : off' = base + off := by omega
              rw [List.length_map] at e2
              refine ⟨_, Qt_of_run (by simp [ho]) (fun ρ hρ w hmem => ?_), .str _⟩
              have h3 := run_convert_bytes_string (P := c.P) w t t' e (some ⟨b, base + off, none⟩) (m + 1) cap hu he hu'
              have hl2 := run_loadCells_list (P := c.P) w ⟨b, base + off, none⟩ (ns.map (Value.int .u8)) (fun j v hj => by
                have hlt := (List.getElem?_eq_some_iff.1 hj).1
                rw [List.length_map] at hlt
                rw [Addr.add_mid, cell_of_row w b (base + off + j) cs E fr (hmem.at_ a2), e3 j (by omega)]
                exact hj)
              rw [List.length_map, e2] at hl2
              have h4 := run_bytesToString (P := c.P) w ⟨b, base + off, none⟩ (m + 1) cap ns hl2
              rw [foldl_push] at h4
              have h5 := hρ x _ h1
              simp only [Nat.succ_eq_add_one] at h5
              simp [execOp, ho, h5, h3, h4]
            · cases hc
          · cases hc
        · cases hc
      · cases hc
    · cases hc
  · cases hc
end
mutual
def V.val : V → Option Value
  | .int k n => some (.int k n)
  | .bool b => some (.bool b)
  | .str s => some (.string s)
  | .agg l => match V.valL l with
    | some l' => some (.agg l'.toArray)
    | none => none
  | _ => none
def V.valL : List V → Option (List Value)
  | [] => some []
  | v :: r => match V.val v, V.valL r with
    | some u, some l => some (u :: l)
    | _, _ => none
end
mutual
theorem V.val_ok {bs : Bs} : ∀ {v : V} {v' u : Value}, RV bs v v' → V.val v = some u → v' = u
  | _, _, _, .int _ _, h => by simp only [V.val, Option.some.injEq] at h; exact h
  | _, _, _, .bool _, h => by simp only [V.val, Option.some.injEq] at h; exact h
  | _, _, _, .str _, h => by simp only [V.val, Option.some.injEq] at h; exact h
  | _, _, _, .agg hl, h => by
    simp only [V.val] at h
    split at h
    · rename_i l' hl'
      cases h
      rw [V.valL_ok hl hl']
    · cases h
  | _, _, _, .ptrN, h => by simp [V.val] at h
  | _, _, _, .ptr _, h => by simp [V.val] at h
  | _, _, _, .slN, h => by simp [V.val] at h
  | _, _, _, .sl _ _ _ _ _ _, h => by simp [V.val] at h
  | _, _, _, .fn _ _ _, h => by simp [V.val] at h
  | _, _, _, .nilf, h => by simp [V.val] at h
  | _, _, _, .ifc _ _, h => by simp [V.val] at h
  | _, _, _, .nili, h => by simp [V.val] at h
  | _, _, _, .mapN, h => by simp [V.val] at h
  | _, _, _, .map _, h => by simp [V.val] at h
  | _, _, _, .tup _, h => by simp [V.val] at h
  | _, _, _, .yld _, h => by simp [V.val] at h
theorem V.valL_ok {bs : Bs} : ∀ {l : List V} {l' u : List Value}, RVs bs l l' → V.valL l = some u → l' = u
  | _, _, _, .nil, h => by simp only [V.valL, Option.some.injEq] at h; exact h
  | _, _, _, .cons hv hl, h => by
    simp only [V.valL] at h
    split at h
    · rename_i h1 h2
      cases h
      rw [V.val_ok hv h1, V.valL_ok hl h2]
    · cases h
end
section
variable {c : Cx} {bs : Bs} {σs : List (Nat × Value)} {Ls : List (Nat × Obj)} {o : Oper}
def keyFs (rec : TypeId → V → Bool) (P : Program) (xs : List V) : List Field → Bool
  | [] => true
  | f :: r => match decide (f.name = "_") with
    | true => keyFs rec P xs r
    | false => match sizeX P f.type with
      | some n => match partX P f.type f.offset n xs with
        | some a => match rec f.type a with
          | true => keyFs rec P xs r
          | false => false
        | none => false
      | none => false
def keyEs (rec : TypeId → V → Bool) (P : Program) (e n : Nat) (xs : List V) : List Nat → Bool
  | [] => true
  | i :: r => match partX P e (Nat.mul i n) n xs with
    | some a => match rec e a with
      | true => keyEs rec P e n xs r
      | false => false
    | none => false
def keyK (P : Program) : Nat → TypeId → V → Bool
  | 0, _, _ => false
  | d + 1, t, x => match x, P.underlying t with
    | .int _ _, some (.int _) => true
    | .str _, some .string => true
    | .bool _, some .bool => true
    | .agg xs, some (.struct fs) => keyFs (keyK P d) P xs fs.toList
    | .agg xs, some (.array n e) => match sizeX P e with
      | some sz => keyEs (keyK P d) P e sz xs (List.range' 0 n 1)
      | none => false
    | _, _ => false
set_option maxHeartbeats 4000000 in
theorem keyK_run {P : Program} (em : Bool) : ∀ (d : Nat) {t : TypeId} {x : V} {x' : Value}, keyK P d t x = true → RV bs x x' → ∀ (q : Nat) (w : World), (Instr.checkKey em (d + q) t x').run P w = .ok () w
  | 0, _, _, _, h, _, _, _ => by cases h
  | d + 1, t, x, x', h, hx, q, w => by
    have ih := fun {t x x'} (h : keyK P d t x = true) (hx : RV bs x x') (w : World) => keyK_run em d h hx q w
    rw [show d + 1 + q = (d + q) + 1 by omega]
    simp only [keyK] at h
    split at h
    · rename_i hu; cases hx; rw [Instr.checkKey]; simp [run_underlying hu]
    · rename_i hu; cases hx; rw [Instr.checkKey]; simp [run_underlying hu]
    · rename_i hu; cases hx; rw [Instr.checkKey]; simp [run_underlying hu]
    · rename_i xs fs hu
      cases hx
      rename_i xs' hxs
      rw [Instr.checkKey]
      simp only [Sem.run_bind, run_underlying hu, Result.andThen_ok]
      rw [← Array.forIn_toList]
      generalize fs.toList = l at h
      clear hu
      induction l generalizing w with
      | nil => simp
      | cons f r ihl =>
        simp only [keyFs] at h
        split at h
        · rename_i hn
          have hn := of_decide_eq_true hn
          simp only [List.forIn_cons, Sem.run_bind, hn, ne_eq, not_true_eq_false, if_false, Sem.run_pure, Result.andThen_ok]
          exact ihl w h
        · rename_i hn
          have hn := of_decide_eq_false hn
          split at h
          · rename_i n hsz
            split at h
            · rename_i a ha
              obtain ⟨a', a1, a2⟩ := part_run ha (sizeX_ok hsz).h hxs
              split at h
              · rename_i hk
                have := ih hk a2 w
                simp only [List.forIn_cons, Sem.run_bind, ne_eq, hn, not_false_eq_true, if_true, a1, Result.andThen_ok, this, Sem.run_pure]
                exact ihl w h
              · cases h
            · cases h
          · cases h
    · rename_i xs n e hu
      split at h
      · rename_i sz hsz
        cases hx
        rename_i xs' hxs
        rw [Instr.checkKey]
        simp only [Sem.run_bind, run_underlying hu, Result.andThen_ok, Std.Legacy.Range.forIn_eq_forIn_range', Std.Legacy.Range.size, Nat.sub_zero, Nat.add_sub_cancel, Nat.div_one]
        generalize List.range' 0 n 1 = l at h ⊢
        clear hu
        induction l generalizing w with
        | nil => simp
        | cons i r ihl =>
          simp only [keyEs] at h
          split at h
          · rename_i a ha
            obtain ⟨a', a1, a2⟩ := part_run ha (sizeX_ok hsz).h hxs
            have a1' : ∀ w, (part e xs'.toArray (i * sz)).run P w = .ok a' w := a1
            split at h
            · rename_i hk
              have := ih hk a2 w
              simp only [List.forIn_cons, Sem.run_bind, (sizeX_ok hsz).h, a1', Result.andThen_ok, this, Sem.run_pure]
              exact ihl w h
            · cases h
          · cases h
      · cases h
    · cases h
def keyX (P : Program) (kt : TypeId) (d : TypeDesc) (k : V) : Bool := match d, k with
  | .int _, .int _ _ => true
  | .string, .str _ => true
  | .bool, .bool _ => true
  | .struct _, .agg _ => keyK P 8 kt k
  | .array _ _, .agg _ => keyK P 8 kt k
  | _, _ => false
theorem keyX_run {P : Program} {kt : TypeId} {d : TypeDesc} {k : V} {k' : Value} (hd : P.underlying kt = some d) (h : keyX P kt d k = true) (hk : RV bs k k') (e : Bool) (w : World) : (Instr.checkKey e 10000 kt k').run P w = .ok () w := by
  unfold keyX at h
  split at h <;> first | (cases h; done) | skip
  · cases hk; rw [Instr.checkKey]; simp [run_underlying hd]
  · cases hk; rw [Instr.checkKey]; simp [run_underlying hd]
  · cases hk; rw [Instr.checkKey]; simp [run_underlying hd]
  · exact keyK_run e 8 h hk 9992 w
  · exact keyK_run e 8 h hk 9992 w
def sameX (P : Program) (kt : TypeId) (d : TypeDesc) (a b : V) : Option Bool := match d, a, b with
  | .struct _, .agg _, .agg _ => sameG a b
  | .array _ _, .agg _, .agg _ => sameG a b
  | _, _, _ => match a.scal, b.scal with
    | some x, some y => Instr.sameNow d x y
    | _, _ => none
where sameG (a b : V) : Option Bool := match eqX P 8 kt a b with
  | some true => match a.val, b.val with
    | some x, some y => match Instr.sameBits 10000 y x with
      | true => some true
      | false => none
    | _, _ => none
  | r => r
def nowK : TypeDesc → Bool
  | .struct _ => false
  | .array _ _ => false
  | _ => true
def findX (P : Program) (kt : TypeId) (d : TypeDesc) (k : V) : List (V × V) → Option (Option V)
  | [] => some none
  | p :: r => match sameX P kt d k p.1 with
    | some true => some (some p.2)
    | some false => findX P kt d k r
    | none => none
theorem sameX_now {P : Program} {kt : TypeId} {d : TypeDesc} {a b : V} {a' b' : Value} {r : Bool} (hn : nowK d = true) (h : sameX P kt d a b = some r) (ha : RV bs a a') (hb : RV bs b b') : Instr.sameNow d a' b' = some r := by
  unfold sameX at h
  split at h
  · cases hn
  · cases hn
  · split at h
    · rename_i x y hx hy
      rw [V.scal_ok ha hx, V.scal_ok hb hy]; exact h
    · cases h
theorem sameNow_ask {d : TypeDesc} (hn : nowK d = false) (a b : Value) : Instr.sameNow d a b = none := by
  cases d <;> first | (cases hn; done) | (cases a <;> rfl)
theorem sameX_ask {P : Program} {kt : TypeId} {d : TypeDesc} {a b : V} {a' b' : Value} {r : Bool} (hn : nowK d = false) (h : sameX P kt d a b = some r) (ha : RV bs a a') (hb : RV bs b b') : (∀ w, (Op.equal kt a' b').run P w = .ok r w) ∧ (r = true → Instr.sameBits 10000 b' a' = true) := by
  have g : sameX.sameG P kt a b = some r := by
    unfold sameX at h
    split at h
    · exact h
    · exact h
    · split at h
      · rw [sameNow_ask hn] at h; cases h
      · cases h
  unfold sameX.sameG at g
  split at g
  · rename_i he
    split at g
    · rename_i x y hx hy
      split at g
      · rename_i hsb
        cases g
        refine ⟨fun w => eqX_ok 8 he ha hb (Op.maxDepth - 8) w, fun _ => ?_⟩
        rw [V.val_ok ha hx, V.val_ok hb hy]; exact hsb
      · cases g
    · cases g
  · rename_i hne
    cases r with
    | true => exact absurd g hne
    | false => exact ⟨fun w => eqX_ok 8 g ha hb (Op.maxDepth - 8) w, fun e => by cases e⟩
theorem keyThatStays_now {P : Program} {kt : TypeId} {d : TypeDesc} {k p : V} {k' p' : Value} (hn : nowK d = true) (hs : sameX P kt d k p = some true) (hk : RV bs k k') (hp : RV bs p p') (w : World) : (Instr.keyThatStays p' k').run P w = .ok k' w := by
  have hs := sameX_now hn hs hk hp
  unfold Instr.sameNow at hs
  split at hs
  · split at hs
    · rename_i hkk
      subst hkk
      simp at hs
      subst hs
      simp [Instr.keyThatStays, Instr.sameBits]
    · cases hs
  · simp only [Option.some.injEq] at hs
    have hs2 := (Go.MapKept.bytes_beq _ _).1 hs
    subst hs2
    simp [Instr.keyThatStays, Instr.sameBits, hs]
  · simp at hs
    subst hs
    simp [Instr.keyThatStays, Instr.sameBits]
  · cases hs
theorem keyThatStays_run {P : Program} {kt : TypeId} {d : TypeDesc} {k p : V} {k' p' : Value} (hs : sameX P kt d k p = some true) (hk : RV bs k k') (hp : RV bs p p') (w : World) : (Instr.keyThatStays p' k').run P w = .ok k' w := by
  cases hn : nowK d with
  | true => exact keyThatStays_now hn hs hk hp w
  | false => simp [Instr.keyThatStays, (sameX_ask hn hs hk hp).2 rfl]
def Fnd (P : Program) (kt : TypeId) (d : TypeDesc) (k' : Value) (es : List MapEntry) (i : Nat) (a : Option (Nat × Value)) : Prop :=
  (nowK d = true ∧ Instr.findNow d k' es i = some a) ∨ (nowK d = false ∧ ∀ w, (Instr.findAsking kt k' es i).run P w = .ok a w)
theorem Fnd_nil {P : Program} {kt : TypeId} (d : TypeDesc) (k' : Value) (i : Nat) : Fnd P kt d k' [] i none := by
  cases hn : nowK d with
  | true => exact .inl ⟨hn, rfl⟩
  | false => exact .inr ⟨hn, fun w => rfl⟩
theorem Fnd_hit {P : Program} {kt : TypeId} {d : TypeDesc} {k p : V} {k' : Value} {e : MapEntry} (hs : sameX P kt d k p = some true) (hk : RV bs k k') (hp : RV bs p e.key) (es : List MapEntry) (i : Nat) : Fnd P kt d k' (e :: es) i (some (i, e.val)) := by
  cases hn : nowK d with
  | true => exact .inl ⟨hn, by simp [Instr.findNow, sameX_now hn hs hk hp]⟩
  | false => exact .inr ⟨hn, fun w => by simp [Instr.findAsking, (sameX_ask hn hs hk hp).1 w]⟩
theorem Fnd_skip {P : Program} {kt : TypeId} {d : TypeDesc} {k p : V} {k' : Value} {e : MapEntry} (hs : sameX P kt d k p = some false) (hk : RV bs k k') (hp : RV bs p e.key) {es : List MapEntry} {i : Nat} {a : Option (Nat × Value)} (h : Fnd P kt d k' es (i + 1) a) : Fnd P kt d k' (e :: es) i a := by
  rcases h with ⟨hn, h⟩ | ⟨hn, h⟩
  · exact .inl ⟨hn, by simp [Instr.findNow, sameX_now hn hs hk hp, h]⟩
  · exact .inr ⟨hn, fun w => by simp [Instr.findAsking, (sameX_ask hn hs hk hp).1 w, h w]⟩
theorem Fnd_run {P : Program} {kt : TypeId} {d : TypeDesc} {k' : Value} (hd : P.underlying kt = some d) {es : List MapEntry} {a : Option (Nat × Value)} (h : Fnd P kt d k' es 0 a) (w : World) : (Instr.findKey kt k' es).run P w = .ok a w := by
  rcases h with ⟨hn, h⟩ | ⟨hn, h⟩
  · exact Go.MapKept.run_findKey hd h
  · cases es with
    | nil =>
      have := h w
      simp [Instr.findAsking] at this
      subst this
      exact Go.MapKept.run_findKey hd rfl
    | cons e es =>
      have : Instr.findNow d k' (e :: es) 0 = none := by simp [Instr.findNow, sameNow_ask hn]
      simp only [Instr.findKey, Sem.run_bind, run_underlying hd, Result.andThen_ok, this]
      exact h w
theorem findX_ok {P : Program} {kt : TypeId} {d : TypeDesc} {k : V} {k' : Value} (hk : RV bs k k') : ∀ {l : List (V × V)} {es : List MapEntry} {i : Nat} {a : Option V}, RMap bs l es → findX P kt d k l = some a → (a = none ∧ Fnd P kt d k' es i none) ∨ ∃ v j e, a = some v ∧ Fnd P kt d k' es i (some (i + j, e.val)) ∧ es[j]? = some e ∧ RV bs v e.val ∧ (∃ q, l[j]? = some q ∧ q.2 = v ∧ sameX P kt d k q.1 = some true)
  | [], _, i, a, rfl, h => by cases h; exact .inl ⟨rfl, Fnd_nil d k' i⟩
  | p :: r, _, i, a, ⟨e, es', rfl, h1, h2, h3⟩, h => by
    simp only [findX] at h
    split at h
    · rename_i hs
      cases h
      exact .inr ⟨p.2, 0, e, rfl, Fnd_hit hs hk h1 _ _, rfl, h2, p, rfl, rfl, hs⟩
    · rename_i hs
      rcases findX_ok hk (i := i + 1) h3 h with ⟨e1, e2⟩ | ⟨v, j, e', e1, e2, e3, e4, e5⟩
      · exact .inl ⟨e1, Fnd_skip hs hk h1 e2⟩
      · refine .inr ⟨v, j + 1, e', e1, ?_, by simpa using e3, e4, by simpa using e5⟩
        have := Fnd_skip hs hk h1 e2
        rwa [show i + 1 + j = i + (j + 1) by omega] at this
    · cases h
def zeroVX (P : Program) (t : TypeId) : Option V := match P.info? t with
  | some i => match i.zero with
    | some z => V.ofConst z
    | none => none
  | none => none
theorem zeroVX_ok {P : Program} {t : TypeId} {z : V} (h : zeroVX P t = some z) : ∃ z', (∀ w, (zeroValue t).run P w = .ok z' w) ∧ RV bs z z' := by
  unfold zeroVX at h
  split at h
  · rename_i i hi
    split at h
    · rename_i zv hz
      exact ⟨zv, fun w => by simp [zeroValue, typeInfo, hi, hz], V.ofConst_ok h⟩
    · cases h
  · cases h
def okX (ok : Bool) (v : V) (b : Bool) : V := match ok with
  | true => .tup [v, .bool b]
  | false => v
def lookupX (P : Program) (h : T O) (t : TypeId) (ok : Bool) : Option V → Option V → Option (V × Option Nat)
  | some .mapN, some k => match P.underlying t with
    | some (.map kt et) => match P.underlying kt, zeroVX P et with
      | some d, some z => match keyX P kt d k with
        | true => some (okX ok z false, none)
        | false => none
      | _, _ => none
    | _ => none
  | some (.map m), some k => match P.underlying t with
    | some (.map kt et) => match P.underlying kt, zeroVX P et with
      | some d, some z => match keyX P kt d k, h.get m with
        | true, some (.map l) => match findX P kt d k l with
          | some none => some (okX ok z false, some m)
          | some (some v) => some (okX ok v true, some m)
          | none => none
        | _, _ => none
      | _, _ => none
    | _ => none
  | _, _ => none
theorem okX_ok {ok : Bool} {v : V} {v' : Value} (h : RV bs v v') (b : Bool) : RV bs (okX ok v b) (if ok then .tuple #[v', .bool b] else v') := by
  cases ok
  · exact h
  · exact .tup (.cons h (.cons (.bool b) .nil))
set_option maxHeartbeats 4000000 in
theorem lookupX_ok {s : S} {h : T O} {t : TypeId} {x y : Operand} {ok : Bool} {v : V} {rd : Option Nat} (ho : o.op = .lookup t x y ok) (hc : lookupX c.P h t ok (evX s x) (evX s y) = some (v, rd)) (hs : CovS bs s σs) (hm : ∀ k ob, rd = some k → h.get k = some ob → At bs Ls k ob) : ∃ v', Qt c σs Ls o v' ∧ RV bs v v' := by
  generalize hx : evX s x = e1 at hc
  generalize hy : evX s y = e2 at hc
  unfold lookupX at hc
  split at hc
  · rename_i k
    obtain ⟨_, h1, h2⟩ := evX_ok hs hx; cases h2
    obtain ⟨k', h3, h4⟩ := evX_ok hs hy
    split at hc
    · rename_i kt et hu
      split at hc
      · rename_i d z hd hz
        split at hc
        · rename_i hkey
          cases hc
          obtain ⟨z', g1, g2⟩ := zeroVX_ok (bs := bs) hz
          refine ⟨_, Qt_of_run (by simp [ho]) (fun ρ hρ w _ => ?_), okX_ok g2 false⟩
          have hf : (Instr.findKey kt k' []).run c.P w = .ok none w := Go.MapKept.run_findKey hd rfl
          simp [execOp, ho, hρ x _ h1, hρ y _ h3, Instr.lookup, run_underlying hu, keyX_run hd hkey h4, hf, g1]
        · cases hc
      · cases hc
    · cases hc
  · rename_i m k
    obtain ⟨_, h1, h2⟩ := evX_ok hs hx
    cases h2
    rename_i b base av hb
    obtain ⟨k', h3, h4⟩ := evX_ok hs hy
    split at hc
    · rename_i kt et hu
      split at hc
      · rename_i d z hd hz
        split at hc
        · rename_i l hkey hg
          obtain ⟨z', g1, g2⟩ := zeroVX_ok (bs := bs) hz
          have body : ∀ {a : Option V}, findX c.P kt d k l = some a → rd = some m → v = (match a with | some u => okX ok u true | none => okX ok z false) → ∃ v', Qt c σs Ls o v' ∧ RV bs v v' := by
            intro a hf hrd hv
            obtain ⟨b', base', av', i, o', a1, a2, es, cl, rfl, a3⟩ := hm m _ hrd hg
            rw [hb] at a1; cases a1
            subst hv
            rcases findX_ok h4 (i := 0) a3 hf with ⟨rfl, e2⟩ | ⟨u, j, e, rfl, e2, e3, e4, _⟩
            · refine ⟨_, Qt_of_run (by simp [ho]) (fun ρ hρ w hmem => ?_), okX_ok g2 false⟩
              have hfk := Fnd_run hd e2 w
              simp [execOp, ho, hρ x _ h1, hρ y _ h3, Instr.lookup, run_underlying hu, Go.MapKept.run_getObj_map (hmem.at_ a2), keyX_run hd hkey h4, hfk, g1]
            · refine ⟨_, Qt_of_run (by simp [ho]) (fun ρ hρ w hmem => ?_), okX_ok e4 true⟩
              have hfk := Fnd_run hd e2 w
              simp [execOp, ho, hρ x _ h1, hρ y _ h3, Instr.lookup, run_underlying hu, Go.MapKept.run_getObj_map (hmem.at_ a2), keyX_run hd hkey h4, hfk]
          split at hc
          · rename_i hf; cases hc; exact body hf rfl rfl
          · rename_i u hf; cases hc; exact body hf rfl rfl
          · cases hc
        · cases hc
      · cases hc
    · cases hc
  · cases hc
def concX (P : Program) (t : TypeId) : Bool := match P.underlying t with
  | some (.interface _) => false
  | some _ => true
  | none => false
theorem concX_ok {P : Program} {t : TypeId} (h : concX P t = true) : ∃ d, P.underlying t = some d ∧ ∀ ms, d ≠ .interface ms := by
  unfold concX at h
  split at h
  · cases h
  · rename_i d hn hu; exact ⟨d, hu, fun ms e => hn ms (by rw [e])⟩
  · cases h
def makeIfaceX (P : Program) (t : TypeId) : Option V → Option V
  | some v => match concX P t with
    | true => some (.ifc t v)
    | false => none
  | none => none
theorem makeIfaceX_ok {s : S} {t : TypeId} {x : Operand} {v : V} (ho : o.op = .makeInterface t x) (hc : makeIfaceX c.P t (evX s x) = some v) (hs : CovS bs s σs) : ∃ v', Qt c σs Ls o v' ∧ RV bs v v' := by
  generalize hx : evX s x = e1 at hc
  unfold makeIfaceX at hc
  split at hc
  · split at hc
    · rename_i ht
      cases hc
      obtain ⟨x', h1, h2⟩ := evX_ok hs hx
      obtain ⟨d, hu, hd⟩ := concX_ok ht
      refine ⟨_, Qt_of_run (by simp [ho]) (fun ρ hρ w _ => ?_), .ifc t h2⟩
      simp only [execOp, ho, hρ x _ h1, Instr.makeInterface, Sem.run_bind, run_underlying hu]
      cases d <;> first | rfl | exact absurd rfl (hd _)
    · cases hc
  · cases hc
def assertX (P : Program) (t : TypeId) (ok : Bool) : Option V → Option V
  | some (.ifc u v) => match concX P t, Nat.beq u t with
    | true, true => some (okX ok v true)
    | true, false => match ok, zeroVX P t with
      | true, some z => some (.tup [z, .bool false])
      | _, _ => none
    | false, _ => none
  | some .nili => match concX P t, ok, zeroVX P t with
    | true, true, some z => some (.tup [z, .bool false])
    | _, _, _ => none
  | _ => none
theorem assertX_ok {s : S} {t u : TypeId} {ok : Bool} {x : Operand} {v : V} (ho : o.op = .typeAssert x u t ok) (hc : assertX c.P t ok (evX s x) = some v) (hs : CovS bs s σs) : ∃ v', Qt c σs Ls o v' ∧ RV bs v v' := by
  generalize hx : evX s x = e1 at hc
  unfold assertX at hc
  split at hc
  · rename_i q r
    obtain ⟨_, h1, h2⟩ := evX_ok hs hx
    cases h2
    rename_i r' hr
    split at hc
    · rename_i ht hq
      cases hc
      have hq := Nat.eq_of_beq_eq_true hq
      subst hq
      obtain ⟨d, hu, hd⟩ := concX_ok ht
      refine ⟨_, Qt_of_run (by simp [ho]) (fun ρ hρ w _ => ?_), okX_ok hr true⟩
      simp only [execOp, ho, hρ x _ h1, Instr.typeAssert, Sem.run_bind, run_underlying hu]
      cases d <;> first | exact absurd rfl (hd _) | (cases ok <;> simp)
    · rename_i ht hq
      have hq : q ≠ t := Nat.ne_of_beq_eq_false hq
      obtain ⟨d, hu, hd⟩ := concX_ok ht
      split at hc
      · rename_i z hz
        cases hc
        obtain ⟨z', g1, g2⟩ := zeroVX_ok (bs := bs) hz
        refine ⟨.tuple #[z', .bool false], Qt_of_run (by simp [ho]) (fun ρ hρ w _ => ?_), .tup (.cons g2 (.cons (.bool false) .nil))⟩
        simp only [execOp, ho, hρ x _ h1, Instr.typeAssert, Sem.run_bind, run_underlying hu]
        cases d <;> first | exact absurd rfl (hd _) | simp [hq, g1]
      · cases hc
    · cases hc
  · obtain ⟨_, h1, h2⟩ := evX_ok hs hx
    cases h2
    split at hc
    · rename_i z ht hz
      cases hc
      obtain ⟨d, hu, hd⟩ := concX_ok ht
      obtain ⟨z', g1, g2⟩ := zeroVX_ok (bs := bs) hz
      refine ⟨.tuple #[z', .bool false], Qt_of_run (by simp [ho]) (fun ρ hρ w _ => ?_), .tup (.cons g2 (.cons (.bool false) .nil))⟩
      simp only [execOp, ho, hρ x _ h1, Instr.typeAssert, Sem.run_bind, run_underlying hu]
      cases d <;> first | exact absurd rfl (hd _) | simp [g1]
    · cases hc
  · cases hc
def methX (P : Program) (t : TypeId) (name : String) : Option FuncId := match P.info? t with
  | some i => match i.methods.find? (fun m => m.name == name) with
    | some m => match m.path.toList, m.func with
      | [], some (f, pr) => match P.underlying t, pr with
        | some (.pointer _), true => some f
        | some (.pointer _), false => none
        | some _, false => some f
        | _, _ => none
      | _, _ => none
    | none => none
  | none => none
theorem methX_run {P : Program} {t : TypeId} {name : String} {f : FuncId} (h : methX P t name = some f) (n : Nat) (v : Value) (w : World) : (Go.method (n + 1) t v name).run P w = .ok (f, v) w := by
  unfold methX at h
  split at h
  · rename_i i hi
    split at h
    · rename_i m hm
      split at h
      · rename_i f' pr hp hf
        have hfol : (follow m.path.toList t (.val v)).run P w = .ok (t, .val v) w := by rw [hp]; rfl
        have hti : (typeInfo t).run P w = .ok i w := by simp [typeInfo, hi]
        have base : (receiverAt t (.val v) pr (if m.path.isEmpty then some ((name.splitOn ".").getLastD name) else none)).run P w = .ok v w → (Go.method (n + 1) t v name).run P w = .ok (f', v) w := fun hr => by
          rw [Go.method]
          simp only [Sem.run_bind, hti, Result.andThen_ok, hm, hfol, hf, hr, Sem.run_pure]
        split at h
        · rename_i e hu
          cases h
          exact base (by simp [receiverAt, run_underlying hu, Place.get])
        · cases h
        · rename_i d hne hu
          cases h
          refine base ?_
          unfold receiverAt
          simp only [Sem.run_bind, run_underlying hu, Result.andThen_ok]
          cases d <;> first | (simp [Place.get]; done) | exact absurd rfl (hne _)
        · cases h
      · cases h
    · cases h
  · cases h
theorem nilAhead_run {P : Program} {t : TypeId} {name : String} {f : FuncId} (h : methX P t name = some f) (n : Nat) (v : Value) (w : World) : (nilAhead (n + 1) t v name).run P w = .ok (some false) w := by
  unfold methX at h
  split at h
  · rename_i i hi
    split at h
    · rename_i m hm
      split at h
      · rename_i f' pr hp hf
        have hfol : (followBlind m.path.toList t (some v)).run P w = .ok (.ok (t, some v)) w := by rw [hp]; rfl
        have hti : (typeInfo t).run P w = .ok i w := by simp [typeInfo, hi]
        split at h
        · rw [nilAhead]
          simp only [Sem.run_bind, hti, Result.andThen_ok, hm, hfol, hf, Sem.run_pure]
        · cases h
        · rename_i d hne hu
          rw [nilAhead]
          simp only [Sem.run_bind, hti, Result.andThen_ok, hm, hfol, hf, run_underlying hu]
          cases d <;> first | rfl | exact absurd rfl (hne _)
        · cases h
      · cases h
    · cases h
  · cases h
def nilMX (P : Program) : Option V → Option V
  | some (.fn (.method name) [.ifc t v] B) => match methX P t name with
    | some _ => some (.fn (.method name) [.ifc t v] B)
    | none => none
  | _ => none
theorem nilMX_ok {s : S} {x : Operand} {v : V} (ho : o.op = .nilCheck x) (hc : nilMX c.P (evX s x) = some v) (hs : CovS bs s σs) : ∃ v', Qt c σs Ls o v' ∧ RV bs v v' := by
  generalize hx : evX s x = e1 at hc
  unfold nilMX at hc
  split at hc
  · rename_i name t u B
    split at hc
    · rename_i f hm
      cases hc
      obtain ⟨_, h1, h2⟩ := evX_ok hs hx
      have h3 := h2
      cases h2 with
      | fn _ hA hB =>
        cases hA with
        | cons hv hl =>
          cases hl
          cases hv with
          | ifc _ hv =>
            rename_i B' u'
            refine ⟨_, Qt_of_run (by simp [ho]) (fun ρ hρ w _ => ?_), h3⟩
            have hpos : 0 < Made.depth := by decide
            obtain ⟨n, hn⟩ : ∃ n, c.P.types.size + Made.depth = n + 1 := ⟨c.P.types.size + Made.depth - 1, by omega⟩
            have hnr := nilAhead_run hm n u' w
            simp [execOp, ho, hρ x _ h1, hn, hnr]
    · cases hc
  · cases hc
def ret1 : Option V → Option (V × Option Nat)
  | some v => some (v, none)
  | none => none
def callQ (P : Program) (s : S) (cl : Call) : Option (V × Option Nat) :=
  match cl.callee with
  | .builtin .len => match cl.args.toList, cl.argTypes.toList with
    | [x], [t] => ret1 (lenX P t (evX s x))
    | _, _ => none
  | .builtin .min => ret1 (minX false (evsX s cl.args.toList))
  | .builtin .max => ret1 (minX true (evsX s cl.args.toList))
  | _ => none
def calmX (P : Program) (s : S) (h : T O) : Op → Option (V × Option Nat)
  | .move x => ret1 (evX s x)
  | .assign x => ret1 (evX s x)
  | .pick x y z => ret1 (pickX (evX s x) (evX s y) (evX s z))
  | .nilCheck x => match nilX (evX s x) with
    | some v => some (v, none)
    | none => ret1 (nilMX P (evX s x))
  | .fieldAddr t x i => ret1 (fieldAddrX P t i (evX s x))
  | .load t x => loadX P h t (evX s x)
  | .field t x i => ret1 (fieldVX P t i (evX s x))
  | .indexAddr t x y => ret1 (indexAddrX P t (evX s x) (evX s y))
  | .index t x y => ret1 (indexX P t (evX s x) (evX s y))
  | .binOp op t x y _ => ret1 (binX P op t y (evX s x) (evX s y))
  | .unOp op _ x => ret1 (unX op (evX s x))
  | .convert t t' x => match convX P t t' (evX s x) with
    | some v => some (v, none)
    | none => textOfX P h t t' (evX s x)
  | .extract x k => ret1 (extractX k (evX s x))
  | .makeFunc f A B => ret1 (makeFuncX f (evsX s A.toList) (evsX s B.toList))
  | .build t parts => ret1 (buildX P t (evpX s parts.toList))
  | .slice t x lo hi mx => match sliceX P t (evX s x) (lo.map (evX s)) (hi.map (evX s)) (mx.map (evX s)) with
    | some v => some (v, none)
    | none => match slice3X P t (evX s x) (lo.map (evX s)) (hi.map (evX s)) (mx.map (evX s)) with
      | some v => some (v, none)
      | none => sliceArrX P h t (evX s x) (lo.map (evX s)) (hi.map (evX s)) (mx.map (evX s))
  | .call cl => callQ P s cl
  | .lookup t x y ok => lookupX P h t ok (evX s x) (evX s y)
  | .makeInterface t x => ret1 (makeIfaceX P t (evX s x))
  | .typeAssert x _ t ok => ret1 (assertX P t ok (evX s x))
  | _ => none
theorem ret1_eq {x : Option V} {v : V} {rd : Option Nat} (h : ret1 x = some (v, rd)) : x = some v ∧ rd = none := by
  cases x with
  | none => cases h
  | some u => cases h; exact ⟨rfl, rfl⟩
theorem calmX_ok {s : S} {h : T O} {v : V} {rd : Option Nat} (hc : calmX c.P s h o.op = some (v, rd)) (hs : CovS bs s σs) (hm : ∀ k ob, rd = some k → h.get k = some ob → At bs Ls k ob) : ∃ v', Qt c σs Ls o v' ∧ RV bs v v' := by
  generalize ho : o.op = op at hc
  unfold calmX at hc
  split at hc
  case h_6 => exact loadX_ok ho hc hs hm
  case h_18 => exact lookupX_ok ho hc hs hm
  case h_4 =>
    split at hc
    · rename_i h1; cases hc; exact nilX_ok ho h1 hs
    · exact nilMX_ok ho (ret1_eq hc).1 hs
  case h_12 =>
    split at hc
    · rename_i h1; cases hc; exact convX_ok ho h1 hs
    · exact textOfX_ok ho hc hs hm
  case h_16 =>
    split at hc
    · rename_i h1; cases hc; exact sliceX_ok ho h1 hs
    · split at hc
      · rename_i h1; cases hc; exact slice3X_ok ho h1 hs
      · exact sliceArrX_ok ho hc hs hm
  case h_17 =>
    rename_i cl
    obtain ⟨cal, args, tys⟩ := cl
    unfold callQ at hc
    split at hc
    · rename_i hcal
      simp only at hcal
      subst hcal
      split at hc
      · rename_i x t h1 h2
        obtain ⟨hc, _⟩ := ret1_eq hc
        simp only at h1 h2
        obtain rfl : args = #[x] := by apply Array.ext'; simpa using h1
        obtain rfl : tys = #[t] := by apply Array.ext'; simpa using h2
        exact lenX_ok ho hc hs
      · cases hc
    · rename_i hcal
      simp only at hcal
      subst hcal
      exact minX_ok (gt := false) ho (ret1_eq hc).1 hs
    · rename_i hcal
      simp only at hcal
      subst hcal
      exact minX_ok (gt := true) ho (ret1_eq hc).1 hs
    · cases hc
  all_goals (first | (cases hc; done) | obtain ⟨hc, _⟩ := ret1_eq hc)
  · obtain ⟨v', h1, h2⟩ := evX_ok hs hc; exact ⟨v', Qt_move ho h1, h2⟩
  · obtain ⟨v', h1, h2⟩ := evX_ok hs hc; exact ⟨v', Qt_assign ho h1, h2⟩
  · exact pickX_ok ho hc hs
  · exact fieldAddrX_ok ho hc hs
  · exact fieldVX_ok ho hc hs
  · exact indexAddrX_ok ho hc hs
  · exact indexX_ok ho hc hs
  · exact binX_ok ho hc hs
  · exact unX_ok ho hc hs
  · exact extractX_ok ho hc hs
  · exact makeFuncX_ok ho hc hs
  · exact buildX_ok ho hc hs
  · exact makeIfaceX_ok ho hc hs
  · exact assertX_ok ho hc hs
end
end
end Go.Proofs.Ytgimodceldoniaa
namespace Go.Proofs.Ytgimodceldoniaa
open Go.RowKit
noncomputable section
attribute [local irreducible] T.put T.set
inductive DI where
  | mark (k : Nat)
  | call (f : FuncId) (A B : List V)
structure H where
  h : T O
  n : Nat
  log : List Nat
  ds : List DI
structure HCov (bs : Bs) (H : H) (M : List (Nat × Obj)) : Prop where
  n : H.n = bs.length
  at_ : ∀ k o, H.h.get k = some o → At bs M k o
  inj : ∀ j k o o' b x y x' y', H.h.get j = some o → H.h.get k = some o' → bs[j]? = some (b, x, y) → bs[k]? = some (b, x', y') → j = k
def Prot (bs : Bs) (H : H) (M : List (Nat × Obj)) (W : List Nat) (B : List (Nat × Obj)) : Prop :=
  ∀ q ∈ B, q ∈ M ∧ ∀ j o x y, H.h.get j = some o → bs[j]? = some (q.1, x, y) → j ∉ W
def RD (bs : Bs) : List DI → List Deferred → Prop
  | [], D => D = []
  | .mark k :: ks, D => ∃ b x y D', bs[k]? = some (b, x, y) ∧ D = markD b :: D' ∧ RD bs ks D'
  | .call f A B :: ks, D => ∃ A' B' D', RVs bs A A' ∧ RVs bs B B' ∧ D = { target := .fn (.func f) B'.toArray, args := A'.toArray } :: D' ∧ RD bs ks D'
theorem RD.mono {bs : Bs} (r : Bs) : ∀ {ks : List DI} {D : List Deferred}, RD bs ks D → RD (bs ++ r) ks D
  | [], _, h => h
  | .mark _ :: _, _, ⟨b, x, y, D', h1, h2, h3⟩ => ⟨b, x, y, D', bs_mono h1, h2, RD.mono r h3⟩
  | .call _ _ _ :: _, _, ⟨A', B', D', h1, h2, h3, h4⟩ => ⟨A', B', D', h1.mono r, h2.mono r, h3, RD.mono r h4⟩
def Post (bs : Bs) (Hp : H) (M F : List (Nat × Obj)) (s2 : S) (H2 : H) (σ' : St) : Prop :=
  ∃ (r : Bs) (M' : List (Nat × Obj)), RD (bs ++ r) H2.ds σ'.D ∧ σ'.L = M' ++ F ∧ CovS (bs ++ r) s2 σ'.s ∧ HCov (bs ++ r) H2 M' ∧ (∀ k ∈ Hp.log, k ∈ H2.log) ∧ ∀ W B, (∀ k ∈ H2.log, k ∈ W) → Prot bs Hp M W B → Prot (bs ++ r) H2 M' W B
structure Cov (bs : Bs) (s : S) (Hp : H) (M F : List (Nat × Obj)) (σ : St) : Prop where
  slots : CovS bs s σ.s
  D : RD bs Hp.ds σ.D
  mem : HCov bs Hp M
  L : σ.L = M ++ F
theorem Post.self {bs : Bs} {Hp : H} {M F : List (Nat × Obj)} {s2 : S} {σ' : St} (hD : RD bs Hp.ds σ'.D) (hL : σ'.L = M ++ F) (hs : CovS bs s2 σ'.s) (hm : HCov bs Hp M) : Post bs Hp M F s2 Hp σ' :=
  ⟨[], M, by simpa using hD, hL, by simpa using hs, by simpa using hm, fun _ h => h, fun W B _ h => by simpa using h⟩
theorem At.mono {bs : Bs} (r : Bs) {M : List (Nat × Obj)} {k : Nat} {o : O} (h : At bs M k o) : At (bs ++ r) M k o :=
  let ⟨b, base, av, i, o', h1, h2, h3⟩ := h; ⟨b, base, av, i, o', bs_mono h1, h2, h3.mono r⟩
theorem At.cons {bs : Bs} {M : List (Nat × Obj)} {k : Nat} {o : O} (x : Nat × Obj) (h : At bs M k o) : At bs (x :: M) k o :=
  let ⟨b, base, av, i, o', h1, h2, h3⟩ := h; ⟨b, base, av, i + 1, o', h1, by simpa using h2, h3⟩
def H.new (Hp : H) (o : O) : H := ⟨Hp.h.set Hp.n o, Nat.succ Hp.n, Hp.log, Hp.ds⟩
theorem bs_last {bs : Bs} (x : Nat × Nat × Nat) : (bs ++ [x])[bs.length]? = some x := by simp
theorem bs_old {bs : Bs} {x y : Nat × Nat × Nat} {k : Nat} (h : (bs ++ [x])[k]? = some y) (hk : k ≠ bs.length) : bs[k]? = some y := by
  rw [List.getElem?_append] at h
  split at h
  · exact h
  · rename_i hlt
    have := (List.getElem?_eq_some_iff.1 h).1
    simp at this; omega
theorem HCov.lt {bs : Bs} {Hp : H} {M : List (Nat × Obj)} (h : HCov bs Hp M) {k : Nat} {o : O} (hk : Hp.h.get k = some o) : k < bs.length := by
  obtain ⟨b, base, av, i, o', h1, _⟩ := h.at_ k o hk
  exact (List.getElem?_eq_some_iff.1 h1).1
theorem HCov.new {bs : Bs} {Hp : H} {M : List (Nat × Obj)} (h : HCov bs Hp M) {b av : Nat} {o : O} {o' : Obj} (hb : b ∉ M.map Prod.fst) (ho : RO (bs ++ [(b, 0, av)]) b 0 av o o') : HCov (bs ++ [(b, 0, av)]) (Hp.new o) ((b, o') :: M) where
  n := by simp [H.new, h.n]
  at_ := fun k u hk => by
    rcases T.get_set hk with ⟨rfl, rfl⟩ | ⟨h1, h2⟩
    · exact ⟨b, 0, av, 0, o', by rw [h.n]; exact bs_last _, rfl, ho⟩
    · exact ((h.at_ k u h2).mono _).cons _
  inj := fun j k u u' c x y x' y' hj hk h1 h2 => by
    have old : ∀ {k u c x y}, k ≠ Hp.n → (Hp.new o).h.get k = some u → (bs ++ [(b, 0, av)])[k]? = some (c, x, y) → Hp.h.get k = some u ∧ bs[k]? = some (c, x, y) ∧ c ∈ M.map Prod.fst := fun {k u c x y} hn hk hb => by
      rcases T.get_set hk with ⟨e, _⟩ | ⟨_, e⟩
      · exact absurd e hn
      · have hb' := bs_old hb (by rw [← h.n]; exact hn)
        refine ⟨e, hb', ?_⟩
        obtain ⟨b2, base, av2, i, o2, a1, a2, _⟩ := h.at_ k u e
        rw [hb'] at a1; cases a1
        exact List.mem_map.2 ⟨_, List.mem_of_getElem? a2, rfl⟩
    have new : ∀ {c x y}, (bs ++ [(b, 0, av)])[Hp.n]? = some (c, x, y) → c = b := fun {c x y} hb => by
      rw [h.n, bs_last] at hb; cases hb; rfl
    by_cases e1 : j = Hp.n
    · by_cases e2 : k = Hp.n
      · rw [e1, e2]
      · subst e1
        obtain rfl := new h1
        exact absurd (old e2 hk h2).2.2 hb
    · by_cases e2 : k = Hp.n
      · subst e2
        obtain rfl := new h2
        exact absurd (old e1 hj h1).2.2 hb
      · exact h.inj j k u u' c x y x' y' (old e1 hj h1).1 (old e2 hk h2).1 (old e1 hj h1).2.1 (old e2 hk h2).2.1
theorem Prot.new {bs : Bs} {Hp : H} {M : List (Nat × Obj)} (h : HCov bs Hp M) {b av : Nat} {o : O} {o' : Obj} (hb : b ∉ M.map Prod.fst) {W : List Nat} {B : List (Nat × Obj)} (hp : Prot bs Hp M W B) : Prot (bs ++ [(b, 0, av)]) (Hp.new o) ((b, o') :: M) W B := fun q hq => by
  obtain ⟨h1, h2⟩ := hp q hq
  refine ⟨List.mem_cons_of_mem _ h1, fun j u x y hj hb' => ?_⟩
  rcases T.get_set hj with ⟨rfl, rfl⟩ | ⟨e1, e2⟩
  · rw [h.n, bs_last] at hb'
    cases hb'
    exact absurd (List.mem_map.2 ⟨q, h1, rfl⟩) hb
  · exact h2 j u x y e2 (bs_old hb' (by rw [← h.n]; exact e1))
theorem nodup_wlog {c : Cx} {o : Oper} {Kn : St → Prop} {K : Exit → St → Prop} {σ : St} (h : (σ.L.map Prod.fst).Nodup → OW c o Kn K σ) : OW c o Kn K σ := fun a w ha => h ha.mem.nodup a w ha
theorem OW_new {c : Cx} {o : Oper} {K : Exit → St → Prop} {σ : St} {bs : Bs} {s : S} {Hp : H} {M F : List (Nat × Obj)} {d av : Nat} {ob : O} {o' : Obj} {v : V} {v' : Nat → Value} (hcov : Cov bs s Hp M F σ) (hdst : o.dst = some d) (hd : Nat.blt d c.N = true) (hnd : ∀ cc, o.op ≠ .defer cc)
    (hr : ∀ a w, Holds c.g c.N σ a w → ∃ w1, Mem c.g σ.L w1 ∧ (execOp a.eval o).run c.P w = .ok (.value (v' w1.heap.size)) (w1.alloc o'))
    (ho : ∀ b, RO (bs ++ [(b, 0, av)]) b 0 av ob o') (hv : ∀ b, RV (bs ++ [(b, 0, av)]) v (v' b)) :
    OW c o (Post bs Hp M F (s.set d v) (Hp.new ob)) K σ := fun a w ha => by
  refine ⟨fun _ _ => trivial, ?_⟩
  obtain ⟨w1, hw1, hr⟩ := hr a w ha
  rw [Oper.semAt_eq _ _ _ hnd, hr]
  have hm := hw1.alloc o'
  have hnew : w1.heap.size ∉ M.map Prod.fst := fun hx => by
    have := hm.nodup
    rw [hcov.L] at this
    simp only [List.map_cons, List.nodup_cons, List.map_append, List.mem_append] at this
    exact this.1 (.inl hx)
  refine ⟨⟨(d, v' w1.heap.size) :: σ.s, σ.D, (w1.heap.size, o') :: σ.L⟩, ?_, ?_⟩
  · rw [hdst]
    exact (ha.mem' hm).put (d := some d) hd _
  · refine ⟨[(w1.heap.size, 0, av)], (w1.heap.size, o') :: M, hcov.D.mono _, by simp [hcov.L], (hcov.slots.mono _).put (hv _), hcov.mem.new hnew (ho _), fun _ h => h, fun W B _ hp => Prot.new hcov.mem hnew hp⟩
theorem RO_row {bs : Bs} {b : Nat} {l : List V} {l' : List Value} {E : TypeId} {extra : List Value} {n : Nat} (h : RVs bs l l') (hn : l.length ≤ n) (hx : n ≤ (l' ++ extra).length) : RO bs b 0 n (.cells (T.row .e l 0) E) (.cells (l' ++ extra).toArray E (0, 0)) :=
  ⟨_, rfl, by simpa using hx, fun i v hi => by
    rcases T.get_row hi with ⟨_, h2⟩ | ⟨_, h2⟩
    · obtain ⟨v', h3, h4⟩ := h.get h2
      have hlt := (List.getElem?_eq_some_iff.1 h2).1
      refine ⟨by omega, v', ?_, h4⟩
      have hl := h.length
      simp only [Nat.zero_add, Nat.sub_zero] at h3 ⊢
      rw [List.getElem?_toArray, List.getElem?_append_left (by omega)]; exact h3
    · cases h2⟩
abbrev SX := Option (S × H)
def allocX (P : Program) (s : S) (Hp : H) (t : TypeId) (d : Nat) : SX := match zeroX P t with
  | some z => some (s.set d (.ptr Hp.n 0), Hp.new (.cells (T.row .e z 0) t))
  | none => none
theorem zeroX_ok {P : Program} {t : TypeId} {z : List V} (h : zeroX P t = some z) : ∃ zv i, P.info? t = some i ∧ i.zero = some zv ∧ (∀ w, (zeroValue t).run P w = .ok zv w) ∧ ∀ bs, RVs bs z zv.cells.toList := by
  unfold zeroX at h
  split at h
  · rename_i i hi
    split at h
    · rename_i zv hz
      exact ⟨zv, i, hi, hz, fun w => by simp [zeroValue, typeInfo, hi, hz], fun bs => V.ofConsts_ok h⟩
    · cases h
  · cases h
section
variable {c : Cx} {o : Oper} {K : Exit → St → Prop} {σ : St} {bs : Bs} {s : S} {Hp : H} {M F : List (Nat × Obj)} {d : Nat} {s2 : S} {H2 : H}
theorem allocX_ok {t : TypeId} (ho : o.op = .alloc t) (hdst : o.dst = some d) (hd : Nat.blt d c.N = true) (hcov : Cov bs s Hp M F σ) (hc : allocX c.P s Hp t d = some (s2, H2)) : OW c o (Post bs Hp M F s2 H2) K σ := by
  unfold allocX at hc
  split at hc
  · rename_i z hz
    cases hc
    obtain ⟨zv, i, _, _, h1, h2⟩ := zeroX_ok hz
    refine OW_new (av := z.length) (o' := .cells zv.cells t (0, 0)) (v' := fun b => .pointer (some ⟨b, 0, none⟩)) hcov hdst hd (by simp [ho]) (fun a w ha => ⟨w, ha.mem, ?_⟩) (fun b => ?_) (fun b => ?_)
    · simp [execOp, ho, Instr.alloc, h1, newVar, newRow]
    · have := RO_row (b := b) (E := t) (extra := []) (h2 (bs ++ [(b, 0, z.length)])) (Nat.le_refl _) (by rw [List.append_nil, (h2 []).length]; exact Nat.le_refl _)
      simpa using this
    · rw [hcov.mem.n]
      have := RV.ptr (bs := bs ++ [(b, 0, z.length)]) (off := 0) (bs_last (bs := bs) (b, 0, z.length))
      simpa using this
  · cases hc
def boxX (s : S) (Hp : H) (t : TypeId) (x : Operand) (d : Nat) : SX := match evX s x with
  | some (.tup _) => none
  | some v => some (s.set d (.ptr Hp.n 0), Hp.new (.cells (T.row .e v.cells 0) t))
  | none => none
theorem boxX_ok {t : TypeId} {x : Operand} (ho : o.op = .box t x) (hdst : o.dst = some d) (hd : Nat.blt d c.N = true) (hcov : Cov bs s Hp M F σ) (hc : boxX s Hp t x d = some (s2, H2)) : OW c o (Post bs Hp M F s2 H2) K σ := by
  unfold boxX at hc
  split at hc
  · cases hc
  · rename_i v _ hx
    cases hc
    obtain ⟨v', h1, h2⟩ := evX_ok hcov.slots hx
    have h3 := h2.cells
    refine OW_new (av := v.cells.length) (o' := .cells v'.cells t (0, 0)) (v' := fun b => .pointer (some ⟨b, 0, none⟩)) hcov hdst hd (by simp [ho]) (fun a w ha => ⟨w, ha.mem, ?_⟩) (fun b => ?_) (fun b => ?_)
    · simp [execOp, ho, ha.ev h1, Instr.box, newVar, newRow]
    · have := RO_row (b := b) (E := t) (extra := []) (h3.mono [(b, 0, v.cells.length)]) (Nat.le_refl _) (by rw [List.append_nil, h3.length]; exact Nat.le_refl _)
      simpa using this
    · rw [hcov.mem.n]
      have := RV.ptr (bs := bs ++ [(b, 0, v.cells.length)]) (off := 0) (bs_last (bs := bs) (b, 0, v.cells.length))
      simpa using this
  · cases hc
def H.upd (Hp : H) (k : Nat) (o : O) : H := ⟨Hp.h.set k o, Hp.n, k :: Hp.log, Hp.ds⟩
theorem Post_upd {k : Nat} {ob ob2 : O} {b base av i : Nat} {o' o2 : Obj} {σ' : St} (hcov : Cov bs s Hp M F σ) (hn : (σ.L.map Prod.fst).Nodup) (hk : Hp.h.get k = some ob) (hb : bs[k]? = some (b, base, av)) (hi : M[i]? = some (b, o')) (ho : RO bs b base av ob2 o2) (hs2 : CovS bs s2 σ'.s) (hD : σ'.D = σ.D) (hL : σ'.L = σ.L.set i (b, o2)) : Post bs Hp M F s2 (Hp.upd k ob2) σ' := by
  have hlt := (List.getElem?_eq_some_iff.1 hi).1
  have hnM : (M.map Prod.fst).Nodup := by
    rw [hcov.L, List.map_append] at hn
    exact (List.nodup_append.1 hn).1
  refine ⟨[], M.set i (b, o2), by rw [hD, List.append_nil]; exact hcov.D, by rw [hL, hcov.L, List.set_append_left _ _ hlt], by simpa using hs2, ?_, fun _ h => List.mem_cons_of_mem _ h, fun W B hW hp => ?_⟩
  · rw [List.append_nil]
    refine ⟨hcov.mem.n, fun j u hj => ?_, fun j j' u u' c x y x' y' hj hj' h1 h2 => ?_⟩
    · rcases T.get_set hj with ⟨rfl, rfl⟩ | ⟨h1, h2⟩
      · exact ⟨b, base, av, i, o2, hb, by simp [hlt], ho⟩
      · obtain ⟨b3, base3, av3, i3, o3, a1, a2, a3⟩ := hcov.mem.at_ j u h2
        have hne : i3 ≠ i := fun e => by
          subst e
          rw [hi] at a2
          cases a2
          exact h1 (hcov.mem.inj j k u ob b base3 av3 base av h2 hk a1 hb)
        exact ⟨b3, base3, av3, i3, o3, a1, by rw [List.getElem?_set, if_neg (Ne.symm hne)]; exact a2, a3⟩
    · have old : ∀ {j u}, (Hp.upd k ob2).h.get j = some u → ∃ u0, Hp.h.get j = some u0 := fun {j u} hj => by
        rcases T.get_set hj with ⟨rfl, _⟩ | ⟨_, h⟩
        · exact ⟨_, hk⟩
        · exact ⟨_, h⟩
      obtain ⟨u0, e0⟩ := old hj
      obtain ⟨u1, e1⟩ := old hj'
      exact hcov.mem.inj j j' u0 u1 c x y x' y' e0 e1 h1 h2
  · rw [List.append_nil]
    intro q hq
    obtain ⟨h1, h2⟩ := hp q hq
    have hkW : k ∈ W := hW k List.mem_cons_self
    have hqb : q.1 ≠ b := fun e => h2 k ob base av hk (by rw [e]; exact hb) hkW
    refine ⟨?_, fun j u x y hj hb' => ?_⟩
    · obtain ⟨j, hj⟩ := List.mem_iff_getElem?.1 h1
      refine List.mem_of_getElem? (i := j) ?_
      rw [List.getElem?_set, if_neg]
      · exact hj
      · intro e; subst e; rw [hi] at hj; cases hj; exact hqb rfl
    · rcases T.get_set hj with ⟨rfl, rfl⟩ | ⟨e1, e2⟩
      · exact h2 j ob x y hk hb'
      · exact h2 j u x y e2 hb'
def lastX (t : T V) (off n : Nat) : Bool := match t.get (Nat.sub (Nat.add off n) 1) with
  | some _ => true
  | none => false
def storeX (P : Program) (s : S) (Hp : H) (t : TypeId) (x y : Operand) : SX := match evX s x, evX s y with
  | some (.ptr k off), some v => match Hp.h.get k with
    | some (.cells c E) => match sizeX P t with
      | some (n + 1) => match Nat.beq v.cells.length (n + 1), V.ones v.cells, lastX c off (n + 1) with
        | true, true, true => some (s, Hp.upd k (.cells (c.row v.cells off) E))
        | _, _, _ => none
      | _ => none
    | _ => none
  | _, _ => none
theorem RO_putR {b base av off : Nat} {cc : T V} {E : TypeId} {cs : Array Value} {l : List V} {l' : Array Value} (h : RO bs b base av (.cells cc E) (.cells cs E (0, 0))) (hl : RVs bs l l'.toList) (hfit : off + l.length ≤ av) : RO bs b base av (.cells (cc.row l off) E) (.cells (putR cs (base + off) l') E (0, 0)) := by
  obtain ⟨cs', e, h2, h3⟩ := h
  cases e
  have hlen := hl.length
  simp only [Array.length_toList] at hlen
  have hf : base + off + l'.size ≤ cs.size := by omega
  refine ⟨_, rfl, by rw [putR_size _ _ _ hf]; exact h2, fun i v hi => ?_⟩
  rcases T.get_row hi with ⟨h4, h5⟩ | ⟨h4, h5⟩
  · obtain ⟨v', h6, h7⟩ := hl.get h5
    have hlt := (List.getElem?_eq_some_iff.1 h5).1
    refine ⟨by omega, v', ?_, h7⟩
    have := putR_get_in cs l' (base + off) (i - off) hf (by omega)
    rw [show base + off + (i - off) = base + i by omega] at this
    rw [this]; simpa using h6
  · obtain ⟨h6, v', h7, h8⟩ := h3 i v h5
    refine ⟨h6, v', ?_, h8⟩
    rw [putR_get_out cs l' (base + off) (base + i) hf (by omega)]; exact h7
theorem storeX_ok {t : TypeId} {x y : Operand} (ho : o.op = .store t x y) (hdst : o.dst = none) (hcov : Cov bs s Hp M F σ) (hc : storeX c.P s Hp t x y = some (s2, H2)) : OW c o (Post bs Hp M F s2 H2) K σ := by
  refine nodup_wlog fun hn => ?_
  generalize hx : evX s x = e1 at hc
  generalize hy : evX s y = e2 at hc
  unfold storeX at hc
  rw [hx, hy] at hc
  split at hc
  · rename_i k off v
    split at hc
    · rename_i cc E hk
      split at hc
      · rename_i n hsz
        split at hc
        · rename_i c1 c2 c3
          cases hc
          obtain ⟨_, h1, h2⟩ := evX_ok hcov.slots hx
          obtain ⟨v', h3, h4⟩ := evX_ok hcov.slots hy
          obtain ⟨b, base, av, rfl, hb⟩ := h2.ptr_inv
          obtain ⟨b', base', av', i, o', a1, a2, a3⟩ := hcov.mem.at_ k _ hk
          rw [hb] at a1; cases a1
          have a4 := a3
          obtain ⟨cs, rfl, a5, a6⟩ := a4
          have hlen := Nat.eq_of_beq_eq_true c1
          have hcells := h4.cells
          have hl2 := hcells.length
          simp only [Array.length_toList] at hl2
          have hav : off + (n + 1) ≤ av := by
            unfold lastX at c3
            split at c3
            · rename_i u hu
              have h5 := (a6 _ _ hu).1
              have e : Nat.sub (Nat.add off (n + 1)) 1 = off + n := by show off + (n + 1) - 1 = off + n; omega
              rw [e] at h5; omega
            · cases c3
          have hi : σ.L[i]? = some (b, .cells cs E (0, 0)) := by
            rw [hcov.L, List.getElem?_append_left (List.getElem?_eq_some_iff.1 a2).1]; exact a2
          intro a w ha
          refine ⟨fun _ _ => trivial, ?_⟩
          have hst := run_storeCells_at (P := c.P) b (base + off) E v'.cells.toList 0 cs w (ha.mem.at_ hi) (by simp; omega) (List.all_eq_true.1 (hcells.ones c2))
          have hr : (execOp a.eval o).run c.P w = .ok .skip (w.setRow b (putR cs (base + off) v'.cells)) := by
            simp only [Nat.add_zero, Array.length_toList] at hst
            simp [execOp, ho, ha.ev h1, ha.ev h3, Instr.storeAt, Instr.sureAddr, storeVar, (sizeX_ok hsz).h, show v'.cells.size = n + 1 by omega, hst, putR]
          rw [Oper.semAt_eq _ _ _ (by rw [ho]; intro cc h; cases h), hr]
          refine ⟨⟨σ.s, σ.D, σ.L.set i (b, .cells (putR cs (base + off) v'.cells) E (0, 0))⟩, ?_, ?_⟩
          · rw [hdst]; exact ha.mem' (ha.mem.setRow hi _)
          · exact Post_upd hcov hn hk hb a2 (RO_putR a3 hcells (by omega)) hcov.slots rfl rfl
        · cases hc
      · cases hc
    · cases hc
  · cases hc
end
end
end Go.Proofs.Ytgimodceldoniaa
namespace Go.Proofs.Ytgimodceldoniaa
open Go.RowKit
noncomputable section
attribute [local irreducible] T.put T.set
def repX (z : List V) : Nat → List V
  | 0 => []
  | n + 1 => z ++ repX z n
theorem repX_length (z : List V) : ∀ n, (repX z n).length = n * z.length
  | 0 => by simp [repX]
  | n + 1 => by simp [repX, repX_length z n, Nat.add_mul]; omega
theorem repX_get {z : List V} : ∀ {n i : Nat} {v : V}, (repX z n)[i]? = some v → z[i % z.length]? = some v
  | 0, i, v, h => by simp [repX] at h
  | n + 1, i, v, h => by
    simp only [repX] at h
    rw [List.getElem?_append] at h
    split at h
    · rename_i hlt; rwa [Nat.mod_eq_of_lt hlt]
    · rename_i hlt
      have := repX_get h
      rwa [← Nat.mod_eq_sub_mod (by omega)] at this
section
variable {c : Cx} {o : Oper} {K : Exit → St → Prop} {σ : St} {bs : Bs} {s : S} {Hp : H} {M F : List (Nat × Obj)} {d : Nat} {s2 : S} {H2 : H}
def makeSliceX (P : Program) (s : S) (Hp : H) (t : TypeId) (x y : Operand) (d : Nat) : SX := match evX s x, evX s y with
  | some (.int _ (.ofNat l)), some (.int _ (.ofNat cp)) => match P.underlying t with
    | some (.slice E) => match zeroX P E, P.info? E with
      | some z, some i => match Nat.beq z.length i.size, Nat.ble l cp, Nat.ble cp 100000, Nat.ble i.bytes 100000 with
        | true, true, true, true => some (s.set d (.sl Hp.n 0 l i.size (Nat.beq l cp)), Hp.new (.cells (T.row .e (repX z cp) 0) E))
        | _, _, _, _ => none
      | _, _ => none
    | _ => none
  | _, _ => none
set_option maxHeartbeats 4000000 in
theorem makeSliceX_ok {t : TypeId} {x y : Operand} (ho : o.op = .makeSlice t x y) (hdst : o.dst = some d) (hd : Nat.blt d c.N = true) (hcov : Cov bs s Hp M F σ) (hc : makeSliceX c.P s Hp t x y d = some (s2, H2)) : OW c o (Post bs Hp M F s2 H2) K σ := by
  generalize hx : evX s x = e1 at hc
  generalize hy : evX s y = e2 at hc
  unfold makeSliceX at hc
  rw [hx, hy] at hc
  split at hc
  · rename_i kl l kc cp
    split at hc
    · rename_i E hu
      split at hc
      · rename_i z i hz hi
        split at hc
        · rename_i c1 c2 c3 c4
          cases hc
          have d1 := Nat.eq_of_beq_eq_true c1
          have d2 : l ≤ cp := Nat.le_of_ble_eq_true c2
          have d3 : cp ≤ 100000 := Nat.le_of_ble_eq_true c3
          have d4 : i.bytes ≤ 100000 := Nat.le_of_ble_eq_true c4
          obtain ⟨zv, i', h1, h2, h3, h4⟩ := zeroX_ok hz
          rw [hi] at h1; cases h1
          obtain ⟨_, h5, h6⟩ := evX_ok hcov.slots hx; cases h6
          obtain ⟨_, h7, h8⟩ := evX_ok hcov.slots hy; cases h8
          have hb : (i.bytes : Int) * (cp : Int) ≤ 281474976710656 := by
            have : i.bytes * cp ≤ 100000 * 100000 := Nat.mul_le_mul d4 d3
            omega
          refine OW_new (av := cp * i.size) (o' := .cells (madeCells zv.cells (cp * i.size)) E (0, 0)) (v' := fun b => .slice (some ⟨b, 0, none⟩) l cp) hcov hdst hd (by simp [ho]) (fun a w ha => ⟨w, ha.mem, ?_⟩) (fun b => ?_) (fun b => ?_)
          · have hr := run_make (P := c.P) w t E i zv hu hi h2 kl kc l cp (by omega) (by omega) hb (by omega)
            simp only [Int.toNat_natCast] at hr
            simp [execOp, ho, ha.ev h5, ha.ev h7, hr]
          · have hzr := h4 (bs ++ [(b, 0, cp * i.size)])
            have hzl := hzr.length
            simp only [Array.length_toList] at hzl
            refine ⟨_, rfl, by simp [size_madeCells], fun j v hj => ?_⟩
            rcases T.get_row hj with ⟨_, e⟩ | ⟨_, e⟩
            · simp only [Nat.sub_zero] at e
              have hlt := (List.getElem?_eq_some_iff.1 e).1
              rw [repX_length, d1] at hlt
              obtain ⟨v', f1, f2⟩ := hzr.get (repX_get e)
              refine ⟨hlt, v', ?_, f2⟩
              have hpos : 0 < zv.cells.size := by
                rw [← hzl, d1]
                rcases Nat.eq_zero_or_pos i.size with e0 | e0
                · rw [e0] at hlt; simp at hlt
                · exact e0
              have hm : j % zv.cells.size < zv.cells.size := Nat.mod_lt _ hpos
              rw [hzl] at f1
              simp only [Array.getElem?_toList] at f1
              simp only [Nat.zero_add, madeCells]
              rw [Array.getElem?_map, Array.getElem?_range, if_pos hlt]
              simp only [Option.map_some]
              rw [getElem!_pos zv.cells (j % zv.cells.size) hm]
              rw [Array.getElem?_eq_getElem hm] at f1
              exact f1
            · cases e
          · rw [hcov.mem.n]
            have hmax : cp ≤ maxLen := by simp only [maxLen]; omega
            exact .sl (fun e => (Nat.eq_of_beq_eq_true e).symm) (bs_last (bs := bs) (b, 0, cp * i.size)) d2 hmax (.inl (by simp)) (by simp)
        · cases hc
      · cases hc
    · cases hc
  · cases hc
def buildSliceX (P : Program) (s : S) (Hp : H) (t : TypeId) (n : Nat) (parts : List (Nat × Operand)) (d : Nat) : SX := match P.underlying t with
  | some (.slice E) => match zeroX P E, sizeX P E, evpX s parts with
    | some z, some sz, some ps => match Nat.beq z.length sz, Nat.ble (Nat.mul n sz) 16777216, Nat.ble 1 (Nat.mul n sz) with
      | true, true, true => match fillX (fun i => some (Nat.mul i sz, sz)) (Nat.mul n sz) (repX z n) ps with
        | some l => some (s.set d (.sl Hp.n 0 n sz true), Hp.new (.cells (T.row .e l 0) E))
        | none => none
      | true, _, false => match n, ps with
        | 0, [] => some (s.set d (.sl Hp.n 0 0 sz true), Hp.new (.cells .e E))
        | _, _ => none
      | _, _, _ => none
    | _, _, _ => none
  | _ => none
theorem rep_rel {z : List V} {zv : Array Value} (h : RVs bs z zv.toList) (n : Nat) (hz : n * z.length = 0 ∨ 0 < z.length) : RVs bs (repX z n) ((Array.range (n * z.length)).map (zv[· % zv.size]!)).toList := by
  have hl := h.length
  simp only [Array.length_toList] at hl
  have key : ∀ (l : List V) (l' : List Value), l.length = l'.length → (∀ (i : Nat) (v : V), l[i]? = some v → ∃ v', l'[i]? = some v' ∧ RV bs v v') → RVs bs l l' := by
    intro l
    induction l with
    | nil => intro l' h1 _; cases l' with
      | nil => exact .nil
      | cons _ _ => cases h1
    | cons v l ih =>
      intro l' h1 h2
      cases l' with
      | nil => cases h1
      | cons v' l' =>
        obtain ⟨u, e1, e2⟩ := h2 0 v rfl
        simp at e1; subst e1
        exact .cons e2 (ih l' (by simpa using h1) (fun i u hi => h2 (i + 1) u hi))
  refine key _ _ (by simp [repX_length]) (fun i v hi => ?_)
  have hlt := (List.getElem?_eq_some_iff.1 hi).1
  rw [repX_length] at hlt
  have hpos : 0 < z.length := by omega
  obtain ⟨v', f1, f2⟩ := h.get (repX_get hi)
  refine ⟨v', ?_, f2⟩
  have hm : i % zv.size < zv.size := Nat.mod_lt _ (by omega)
  rw [hl] at f1
  simp only [Array.getElem?_toList] at f1 ⊢
  rw [Array.getElem?_map, Array.getElem?_range, if_pos hlt]
  simp only [Option.map_some]
  rw [getElem!_pos zv (i % zv.size) hm]
  rw [Array.getElem?_eq_getElem hm] at f1
  exact f1
theorem fillX_length {pl : Nat → Option (Nat × Nat)} {N : Nat} : ∀ {parts : List (Nat × V)} {z l : List V}, fillX pl N z parts = some l → z.length = N → l.length = N
  | [], z, l, h, hz => by cases h; exact hz
  | (i, v) :: r, z, l, h, hz => by
    simp only [fillX] at h
    split at h
    · rename_i off n hpl
      split at h
      · rename_i h1 h2
        have h3 := Nat.eq_of_beq_eq_true h1
        have h4 : off + n ≤ N := Nat.le_of_ble_eq_true h2
        exact fillX_length h (by simp; omega)
      · cases h
    · cases h
set_option maxHeartbeats 4000000 in
theorem buildSliceX_ok {t n : Nat} {parts : Array (Nat × Operand)} (ho : o.op = .buildSlice t n parts) (hdst : o.dst = some d) (hd : Nat.blt d c.N = true) (hcov : Cov bs s Hp M F σ) (hc : buildSliceX c.P s Hp t n parts.toList d = some (s2, H2)) : OW c o (Post bs Hp M F s2 H2) K σ := by
  generalize hx : evpX s parts.toList = e1 at hc
  unfold buildSliceX at hc
  rw [hx] at hc
  split at hc
  · rename_i E hu
    split at hc
    · rename_i z sz ps hz hsz
      obtain ⟨zv, i, h1, h2, h3, h4⟩ := zeroX_ok hz
      have hszi : i.size = sz := by
        unfold sizeX at hsz; rw [h1] at hsz; simpa using hsz
      obtain ⟨ps', h5, h6⟩ := evpX_ok hcov.slots hx
      split at hc
      · rename_i c1 c2 c3
        split at hc
        · rename_i l hl
          cases hc
          have d1 := Nat.eq_of_beq_eq_true c1
          have d2 : n * sz ≤ 16777216 := Nat.le_of_ble_eq_true c2
          have d3 : 1 ≤ n * sz := Nat.le_of_ble_eq_true c3
          have hpos : 0 < sz := by
            rcases Nat.eq_zero_or_pos sz with e | e
            · rw [e] at d3; simp at d3
            · exact e
          have hrl : (repX z n).length = n * sz := by rw [repX_length, d1]
          have hcap : n ≤ maxLen := by
            have : n * 1 ≤ n * sz := Nat.mul_le_mul_left _ hpos
            simp only [maxLen]; omega
          have hrun : ∃ l', Instr.fill (fun i => some (i * sz, sz)) ((Array.range (n * sz)).map (zv.cells[· % zv.cells.size]!)) ps' = some l' ∧ RVs bs l l'.toList := by
            have hr := rep_rel (h4 bs) n (.inr (by omega))
            rw [d1] at hr
            obtain ⟨l', e1, e2⟩ := fillX_ok hl h6 hr hrl
            rw [Array.toArray_toList] at e1
            exact ⟨l', e1, e2⟩
          obtain ⟨l', e1, e2⟩ := hrun
          have hfl := fillX_length hl hrl
          have hll := e2.length
          simp only [Array.length_toList] at hll
          have hlen : l'.size = n * sz := by rw [← hll]; exact hfl
          refine OW_new (av := n * sz) (o' := .cells l' E (0, 0)) (v' := fun b => .slice (some ⟨b, 0, none⟩) n n) hcov hdst hd (by simp [ho]) (fun a w ha => ⟨w, ha.mem, ?_⟩) (fun b => ?_) (fun b => ?_)
          · have hb := run_buildSlice (P := c.P) w t E n (parts.map fun (i, x) => (i, a.eval x)) l' i zv hu h1 h2 (by rw [hszi]; omega) (by rw [hszi]; omega) (by
              rw [hszi, Array.toList_map, evp_map (fun x u hu => ha.ev hu) h5]; exact e1)
            simp [execOp, ho, hb]
          · have := RO_row (b := b) (E := E) (extra := []) (n := n * sz) (e2.mono [(b, 0, n * sz)]) (by omega) (by simp; omega)
            simpa using this
          · rw [hcov.mem.n]
            exact .sl (fun _ => rfl) (bs_last (bs := bs) (b, 0, n * sz)) (Nat.le_refl _) hcap (.inl (by simp)) (by simp)
        · cases hc
      · rename_i c1 _ c3
        split at hc
        · rename_i hps
          cases hc
          have h6' : ps' = [] := h6
          subst h6'
          have hparts : parts = #[] := by
            apply Array.ext'
            cases hq : parts.toList with
            | nil => rfl
            | cons q r =>
              rw [hq] at h5
              obtain ⟨q1, q2⟩ := q
              simp only [evp] at h5
              split at h5 <;> cases h5
          subst hparts
          refine OW_new (av := 0) (o' := .cells #[] E (0, 0)) (v' := fun b => .slice (some ⟨b, 0, none⟩) 0 0) hcov hdst hd (by simp [ho]) (fun a w ha => ⟨w, ha.mem, ?_⟩) (fun b => ?_) (fun b => ?_)
          · have hsz2 := (sizeX_ok hsz).h
            simp [execOp, ho, Instr.buildSlice, run_underlying hu, hsz2, Instr.fill, newRow]
            rw [Array.eq_empty_of_size_eq_zero (xs := Array.map (fun _ => (default : Value)) (Array.range 0)) (by simp)]
          · exact ⟨_, rfl, by simp, fun j v hj => by cases hj⟩
          · rw [hcov.mem.n]
            exact .sl (fun _ => rfl) (bs_last (bs := bs) (b, 0, 0)) (Nat.le_refl _) (by simp [maxLen]) (.inl (by simp)) (by simp)
        · cases hc
      · cases hc
    · cases hc
  · cases hc
end
end
end Go.Proofs.Ytgimodceldoniaa
namespace Go.Proofs.Ytgimodceldoniaa
open Go.RowKit
noncomputable section
attribute [local irreducible] T.put T.set
section
variable {c : Cx} {o : Oper} {K : Exit → St → Prop} {σ : St} {bs : Bs} {s : S} {Hp : H} {M F : List (Nat × Obj)} {d : Nat} {s2 : S} {H2 : H}
theorem OW_newE {ob : O} {v : V} (hcov : Cov bs s Hp M F σ) (hdst : o.dst = some d) (hd : Nat.blt d c.N = true) (hnd : ∀ cc, o.op ≠ .defer cc)
    (hr : ∀ a w, Holds c.g c.N σ a w → ∃ w1 av o' v', Mem c.g σ.L w1 ∧ (execOp a.eval o).run c.P w = .ok (.value v') (w1.alloc o') ∧ RO (bs ++ [(w1.heap.size, 0, av)]) w1.heap.size 0 av ob o' ∧ RV (bs ++ [(w1.heap.size, 0, av)]) v v') :
    OW c o (Post bs Hp M F (s.set d v) (Hp.new ob)) K σ := fun a w ha => by
  refine ⟨fun _ _ => trivial, ?_⟩
  obtain ⟨w1, av, o', v', hw1, hr, ho, hv⟩ := hr a w ha
  rw [Oper.semAt_eq _ _ _ hnd, hr]
  have hm := hw1.alloc o'
  have hnew : w1.heap.size ∉ M.map Prod.fst := fun hx => by
    have := hm.nodup
    rw [hcov.L] at this
    simp only [List.map_cons, List.nodup_cons, List.map_append, List.mem_append] at this
    exact this.1 (.inl hx)
  refine ⟨⟨(d, v') :: σ.s, σ.D, (w1.heap.size, o') :: σ.L⟩, ?_, ?_⟩
  · rw [hdst]
    exact (ha.mem' hm).put (d := some d) hd _
  · exact ⟨[(w1.heap.size, 0, av)], (w1.heap.size, o') :: M, hcov.D.mono _, by simp [hcov.L], (hcov.slots.mono _).put hv, hcov.mem.new hnew ho, fun _ h => h, fun W B _ hp => Prot.new hcov.mem hnew hp⟩
theorem OW_nodup {Kn : St → Prop} (h : OW c o (fun σ' => (σ'.L.map Prod.fst).Nodup → Kn σ') K σ) : OW c o Kn K σ := fun a w ha =>
  Oper.wpIn_mono (fun _ _ ⟨σ', h1, h2⟩ => ⟨σ', h1, h2 h1.mem.nodup⟩) (h a w ha)
def H.swap (Hp : H) (k : Nat) (o : O) : H := ⟨(T.put 40 Hp.h k none).set Hp.n o, Nat.succ Hp.n, k :: Hp.log, Hp.ds⟩
theorem get_put_none {t : T O} {k j : Nat} {u : O} (h : (T.put 40 t k none).get j = some u) : j ≠ k ∧ t.get j = some u := by
  rcases T.get_put 40 t k j none u h with ⟨_, h2⟩ | h1
  · cases h2
  · exact h1
set_option maxHeartbeats 4000000 in
theorem Post_swap {k : Nat} {ob ob2 : O} {b base av i g av2 base2 : Nat} {o' o2 : Obj} {σ' : St} {v : V} {v' : Value} (hcov : Cov bs s Hp M F σ) (hk : Hp.h.get k = some ob) (hb : bs[k]? = some (b, base, av)) (hi : M[i]? = some (b, o')) (hn : (σ'.L.map Prod.fst).Nodup) (ho : RO (bs ++ [(g, base2, av2)]) g base2 av2 ob2 o2) (hv : RV (bs ++ [(g, base2, av2)]) v v') (hs : σ'.s = (d, v') :: σ.s) (hD : σ'.D = σ.D) (hL : σ'.L = σ.L.set i (g, o2)) : Post bs Hp M F (s.set d v) (Hp.swap k ob2) σ' := by
  have hlt := (List.getElem?_eq_some_iff.1 hi).1
  have hL2 : σ'.L = M.set i (g, o2) ++ F := by rw [hL, hcov.L, List.set_append_left _ _ hlt]
  have hnM : ((M.set i (g, o2)).map Prod.fst).Nodup := by
    rw [hL2, List.map_append] at hn
    exact (List.nodup_append.1 hn).1
  have hgi : (M.set i (g, o2))[i]? = some (g, o2) := by simp [hlt]
  have old : ∀ {j u}, j ≠ Hp.n → (Hp.swap k ob2).h.get j = some u → j ≠ k ∧ Hp.h.get j = some u := fun {j u} hne hj => by
    rcases T.get_set hj with ⟨e, _⟩ | ⟨_, e⟩
    · exact absurd e hne
    · exact get_put_none e
  have place : ∀ {j u c x y}, j ≠ k → Hp.h.get j = some u → bs[j]? = some (c, x, y) → ∃ i3 o3, (M.set i (g, o2))[i3]? = some (c, o3) ∧ i3 ≠ i ∧ RO bs c x y u o3 := fun {j u c x y} hne hj hb2 => by
    obtain ⟨b3, base3, av3, i3, o3, a1, a2, a3⟩ := hcov.mem.at_ j u hj
    rw [hb2] at a1; cases a1
    have hne2 : i3 ≠ i := fun e => by
      subst e
      rw [hi] at a2; cases a2
      exact hne (hcov.mem.inj j k u ob _ _ _ base av hj hk hb2 hb)
    exact ⟨i3, o3, by rw [List.getElem?_set, if_neg (Ne.symm hne2)]; exact a2, hne2, a3⟩
  have other : ∀ {j u c x y}, j ≠ k → Hp.h.get j = some u → bs[j]? = some (c, x, y) → c ≠ g := fun {j u c x y} hne hj hb2 e => by
    obtain ⟨i3, o3, h1, h2, _⟩ := place hne hj hb2
    exact key_ne hnM hgi h1 (Ne.symm h2) e
  refine ⟨[(g, base2, av2)], M.set i (g, o2), by rw [hD]; exact hcov.D.mono _, hL2, ?_, ?_, fun _ h => List.mem_cons_of_mem _ h, fun W B hW hp => ?_⟩
  · rw [hs]; exact (hcov.slots.mono _).put hv
  · refine ⟨by simp [H.swap, hcov.mem.n], fun j u hj => ?_, fun j j' u u' c x y x' y' hj hj' h1 h2 => ?_⟩
    · by_cases e : j = Hp.n
      · subst e
        rcases T.get_set hj with ⟨_, rfl⟩ | ⟨e, _⟩
        · exact ⟨g, base2, av2, i, o2, by rw [hcov.mem.n]; exact bs_last _, hgi, ho⟩
        · exact absurd rfl e
      · obtain ⟨e1, e2⟩ := old e hj
        have hlt2 := hcov.mem.lt e2
        obtain ⟨i3, o3, h1, _, h3⟩ := place e1 e2 (List.getElem?_eq_getElem hlt2)
        exact ⟨_, _, _, i3, o3, bs_mono (List.getElem?_eq_getElem hlt2), h1, h3.mono _⟩
    · have get : ∀ {j u c x y}, j ≠ Hp.n → (Hp.swap k ob2).h.get j = some u → (bs ++ [(g, base2, av2)])[j]? = some (c, x, y) → j ≠ k ∧ Hp.h.get j = some u ∧ bs[j]? = some (c, x, y) := fun {j u c x y} hne hj hb2 => by
        obtain ⟨e1, e2⟩ := old hne hj
        exact ⟨e1, e2, bs_old hb2 (by rw [← hcov.mem.n]; exact hne)⟩
      have new : ∀ {c x y}, (bs ++ [(g, base2, av2)])[Hp.n]? = some (c, x, y) → c = g := fun {c x y} hb => by
        rw [hcov.mem.n, bs_last] at hb; cases hb; rfl
      by_cases e1 : j = Hp.n
      · by_cases e2 : j' = Hp.n
        · rw [e1, e2]
        · subst e1
          obtain rfl := new h1
          obtain ⟨f1, f2, f3⟩ := get e2 hj' h2
          exact absurd rfl (other f1 f2 f3)
      · by_cases e2 : j' = Hp.n
        · subst e2
          obtain rfl := new h2
          obtain ⟨f1, f2, f3⟩ := get e1 hj h1
          exact absurd rfl (other f1 f2 f3)
        · obtain ⟨_, f2, f3⟩ := get e1 hj h1
          obtain ⟨_, f5, f6⟩ := get e2 hj' h2
          exact hcov.mem.inj j j' u u' c x y x' y' f2 f5 f3 f6
  · intro q hq
    obtain ⟨h1, h2⟩ := hp q hq
    have hkW : k ∈ W := hW k List.mem_cons_self
    have hqb : q.1 ≠ b := fun e => h2 k ob base av hk (by rw [e]; exact hb) hkW
    obtain ⟨i4, hi4⟩ := List.mem_iff_getElem?.1 h1
    have hne4 : i4 ≠ i := fun e => by subst e; rw [hi] at hi4; cases hi4; exact hqb rfl
    have hq4 : (M.set i (g, o2))[i4]? = some q := by rw [List.getElem?_set, if_neg (Ne.symm hne4)]; exact hi4
    refine ⟨List.mem_of_getElem? hq4, fun j u x y hj hb' => ?_⟩
    by_cases e : j = Hp.n
    · subst e
      rw [hcov.mem.n, bs_last] at hb'
      cases hb'
      exact absurd rfl (key_ne hnM (o' := q.2) hgi hq4 (Ne.symm hne4))
    · obtain ⟨e1, e2⟩ := old e hj
      exact h2 j u x y e2 (bs_old hb' (by rw [← hcov.mem.n]; exact e))
def bytesX (P : Program) (t : TypeId) : Option Nat := match P.info? t with
  | some i => some i.bytes
  | none => none
def blockX (Hp : H) (k n off : Nat) : Option (List V) := match Hp.h.get k with
  | some (.cells c _) => cellsX c n off
  | _ => none
def typeOfX (Hp : H) (k : Nat) : Option TypeId := match Hp.h.get k with
  | some (.cells _ E) => some E
  | _ => none
def bytesV (b : ByteArray) : List V := b.data.toList.map fun u => V.int .u8 u.toNat
def srcX (P : Program) (Hp : H) (t2 : TypeId) (sz : Nat) : Option V → Option (Nat × List V)
  | some .slN => match P.underlying t2 with
    | some (.slice _) => some (0, [])
    | _ => none
  | some (.sl k off m q _) => match P.underlying t2, Nat.beq q sz with
    | some (.slice _), true => match m with
      | 0 => some (0, [])
      | m + 1 => match blockX Hp k (Nat.mul (m + 1) sz) off with
        | some l => match V.ones l with
          | true => some (m + 1, l)
          | false => none
        | none => none
    | _, _ => none
  | some (.str b) => match P.underlying t2, Nat.beq sz 1 with
    | some .string, true => some (b.size, bytesV b)
    | _, _ => none
  | _ => none
def appendX (P : Program) (s : S) (Hp : H) (t t2 : TypeId) (x y : Operand) (d : Nat) : SX := match P.underlying t with
  | some (.slice E) => match zeroX P E, sizeX P E, bytesX P E with
    | some z, some (sz + 1), some by_ => match Nat.beq z.length (sz + 1), srcX P Hp t2 (sz + 1) (evX s y) with
      | true, some (0, _) => match evX s x with
        | some .slN => some (s.set d .slN, Hp)
        | some (.sl k off len q ex) => some (s.set d (.sl k off len q ex), Hp)
        | _ => none
      | true, some (m + 1, l2) => match evX s x with
        | some .slN => match Nat.ble (m + 1) 100000, Nat.ble by_ 100000 with
          | true, true => some (s.set d (.sl Hp.n 0 (m + 1) (sz + 1) false), Hp.new (.cells (T.row .e l2 0) E))
          | _, _ => none
        | some (.sl k off len q ex) => match Nat.ble (Nat.add len (m + 1)) 100000, Nat.ble by_ 100000, blockX Hp k (Nat.mul len (sz + 1)) off, typeOfX Hp k with
          | true, true, some l, some E' => match Nat.beq E E', Nat.beq q (sz + 1), ex with
            | true, true, true => some (s.set d (.sl Hp.n 0 (Nat.add len (m + 1)) (sz + 1) false), Hp.new (.cells (T.row .e (l ++ l2) 0) E))
            | true, true, false => some (s.set d (.sl Hp.n 0 (Nat.add len (m + 1)) (sz + 1) false), Hp.swap k (.cells (T.row .e (l ++ l2) 0) E))
            | _, _, _ => none
          | _, _, _, _ => none
        | _ => none
      | _, _ => none
    | _, _, _ => none
  | _ => none
theorem blockX_ok (hcov : Cov bs s Hp M F σ) {k n off : Nat} {l : List V} (h : blockX Hp k n off = some l) : ∃ (b base av i : Nat) (cs : Array Value) (E : TypeId) (cc : T V) (l' : List Value), Hp.h.get k = some (.cells cc E) ∧ bs[k]? = some (b, base, av) ∧ M[i]? = some (b, .cells cs E (0, 0)) ∧ σ.L[i]? = some (b, .cells cs E (0, 0)) ∧ base + av ≤ cs.size ∧ RVs bs l l' ∧ l'.length = n ∧ (∀ j, j < n → cs[base + off + j]? = l'[j]?) ∧ (n = 0 ∨ off + n ≤ av) := by
  unfold blockX at h
  split at h
  · rename_i cc E hk
    obtain ⟨b, base, av, i, o', a1, a2, cs, rfl, a3, a4⟩ := hcov.mem.at_ k _ hk
    obtain ⟨l', e1, e2, e3, e4⟩ := cellsX_ok a4 n off l h
    exact ⟨b, base, av, i, cs, E, cc, l', hk, a1, a2, by rw [hcov.L, List.getElem?_append_left (List.getElem?_eq_some_iff.1 a2).1]; exact a2, a3, e1, e2, e3, e4⟩
  · cases h
theorem Post_same {v : V} {v' : Value} (hcov : Cov bs s Hp M F σ) (hv : RV bs v v') : Post bs Hp M F (s.set d v) Hp ⟨(d, v') :: σ.s, σ.D, σ.L⟩ :=
  Post.self hcov.D hcov.L (hcov.slots.put hv) hcov.mem
theorem srcX_ok (hcov : Cov bs s Hp M F σ) {t2 sz n : Nat} {l : List V} {y : Operand} (h : srcX c.P Hp t2 sz (evX s y) = some (n, l)) : ∃ y' news, ev σ.s y = some y' ∧ RVs bs l news ∧ ∀ a w, Holds c.g c.N σ a w → Src c.P sz t2 y' n news w := by
  generalize hy : evX s y = e at h
  unfold srcX at h
  split at h
  · split at h
    · rename_i e' hk
      cases h
      obtain ⟨_, h1, h2⟩ := evX_ok hcov.slots hy; cases h2
      exact ⟨_, [], h1, .nil, fun a w _ => Src.ofNil w hk 0⟩
    · cases h
  · rename_i k off m q ex
    split at h
    · rename_i e' hk hq
      obtain ⟨_, h1, h2⟩ := evX_ok hcov.slots hy
      obtain ⟨b, base, av, off', cap, rfl, hb, q1, q2, q3, q4⟩ := h2.sl_inv
      have hq := Nat.eq_of_beq_eq_true hq
      split at h
      · cases h
        exact ⟨_, [], h1, .nil, fun a w _ => Src.ofSlice w hk _ 0 cap [] (by simp) (fun j u hu => by simp at hu) (fun u hu => by cases hu)⟩
      · rename_i m
        split at h
        · rename_i l1 hl
          split at h
          · rename_i hone
            cases h
            obtain ⟨b', base', av', i', cs, E1, cc, l', f1, f2, f3, f4, f5, f6, f7, f8, f9⟩ := blockX_ok hcov hl
            rw [hb] at f2; cases f2
            obtain rfl : off' = base + off := by omega
            refine ⟨_, l', h1, f6, fun a w ha => Src.ofSlice w hk _ (m + 1) cap l' f7 (fun j v hv => ?_) ?_⟩
            · have hj := (List.getElem?_eq_some_iff.1 hv).1
              rw [Addr.add_mid, cell_of_row w b (base + off + j) cs E1 (0, 0) (ha.mem.at_ f4), f8 j (by omega)]
              exact hv
            · have := f6.ones hone
              exact List.all_eq_true.1 this
          · cases h
        · cases h
    · cases h
  · rename_i b
    split at h
    · rename_i hk hz
      cases h
      obtain ⟨_, h1, h2⟩ := evX_ok hcov.slots hy; cases h2
      obtain rfl := Nat.eq_of_beq_eq_true hz
      refine ⟨_, byteCells b, h1, ?_, fun a w _ => Src.ofString w hk b⟩
      unfold bytesV byteCells
      generalize b.data.toList = l
      induction l with
      | nil => exact .nil
      | cons u r ih => exact .cons (.int .u8 _) ih
    · cases h
  · cases h
theorem run_append_in_src {P : Program} (w : World) (t tx ty e : TypeId) (i : TypeInfo) (ht : P.underlying t = some (.slice e)) (hi : P.info? e = some i)
    (g off sLen sCap : Nat) (cur : Array Value) (hg : w.heap[g]? = some (.cells cur e (0, 0)))
    (x : Value) (m : Nat) (news : List Value) (hs : Src P i.size tx x m news w)
    (hroom : sLen + m ≤ sCap) (hfit : off + sLen * i.size + news.length ≤ cur.size) :
    (Builtin.append_ #[t, tx] ty #[.slice (some ⟨g, off, none⟩) sLen sCap, x]).run P w =
      .ok (.slice (some ⟨g, off, none⟩) (sLen + m) sCap) (w.setRow g (putR cur (off + sLen * i.size) news.toArray)) := by
  have hst := run_storeCells_at P g (off + sLen * i.size) e news 0 cur w hg (by simpa using hfit) hs.one
  simp only [Nat.add_zero] at hst
  rcases hs.kind with ⟨e', hk⟩ | hk <;> simp [Builtin.append_, run_underlying ht, run_underlying hk, sizeOf, typeInfo, hi, hs.len, hroom, hs.cells, Addr.add_mid, hst, putR]
set_option maxHeartbeats 4000000 in
theorem OW_append_src {c : Cx} {o : Oper} {Kn : St → Prop} {K : Exit → St → Prop} {s : List (Nat × Value)} {D : List Deferred} {L : List (Nat × Obj)} {t t2 E size by_ d : Nat} {z : Array Value} [hu : TUnd c.P t (.slice E)] [hrow : TRow c.P E z size by_] {x y : Operand}
    (ho : o.op = .call { callee := .builtin .append, args := #[x, y], argTypes := #[t, t2] }) (hdst : o.dst = some d) (hd : Nat.blt d c.N = true) {g off n cap : Nat} {cur : Array Value} (hx : ev s x = some (.slice (some ⟨g, off, none⟩) n cap)) (i : Nat) (hs : SlAt L i g off n cap E size cur)
    {m : Nat} {y' : Value} {news : List Value} (hy : ev s y = some y') (hsrc : ∀ a w, Holds c.g c.N ⟨s, D, L⟩ a w → Src c.P size t2 y' m news w)
    (hmax : n + m ≤ maxLen) (hby : (n + m) * by_ ≤ 140737488355328)
    (hk : ∀ g' off' cap' cur' L', setL L i (g', .cells cur' E (0, 0)) = some L' → SlAt L' i g' off' (n + m) cap' E size cur' → cur'.extract off' (off' + (n + m) * size) = cur.extract off (off + n * size) ++ news.toArray → Kn ⟨(d, .slice (some ⟨g', off', none⟩) (n + m) cap') :: s, D, L'⟩) : OW c o Kn K ⟨s, D, L⟩ := fun a w ha => by
  refine ⟨fun _ _ => trivial, ?_⟩
  obtain ⟨ii, zz, r1, r2, r3, r4, r5, r6⟩ := hrow.h
  have hsr := hsrc a w ha
  have hlen := hsr.newsLen
  have hset : ∀ (L : List (Nat × Obj)) (i : Nat) (p q : Nat × Obj), L[i]? = some q → setL L i p = some (L.set i p) := by
    intro L
    induction L with
    | nil => intro i p q h; simp at h
    | cons x r ih =>
      intro i p q h
      cases i with
      | zero => rfl
      | succ i => simp only [List.getElem?_cons_succ] at h; simp [setL, ih i p q h]
  have hat : ∀ (L : List (Nat × Obj)) (i : Nat) (p q : Nat × Obj), L[i]? = some q → (L.set i p)[i]? = some p := by
    intro L i p q h
    obtain ⟨hlt, _⟩ := List.getElem?_eq_some_iff.1 h
    simp [hlt]
  have hz : news.toArray.size = m * size := by simpa using hlen
  by_cases hroom : n + m ≤ cap
  · have hfit1 : off + n * size + news.toArray.size ≤ cur.size := by
      have h2 := hs.fit
      have h3 : (n + m) * size ≤ cap * size := Nat.mul_le_mul_right _ hroom
      rw [Nat.add_mul] at h3
      omega
    have hr := run_append_in_src (P := c.P) w t t2 o.type E ii hu.h r1 g off n cap cur (ha.mem.at_ hs.at_) y' m news (by rw [r4]; exact hsr) hroom (by rw [r4]; simpa using hfit1)
    have hr' : (execOp a.eval o).run c.P w = .ok (.value (.slice (some ⟨g, off, none⟩) (n + m) cap)) (w.setRow g (putR cur (off + n * size) news.toArray)) := by
      rw [r4] at hr
      simp [execOp, ho, resolve, invoke, builtin, ha.ev hx, ha.ev hy, hr]
    rw [Oper.semAt_eq _ _ _ (by rw [ho]; intro cc h; cases h), hr']
    have hps := putR_size cur news.toArray (off + n * size) hfit1
    refine ⟨_, ?_, hk g off cap (putR cur (off + n * size) news.toArray) _ (hset _ _ _ _ hs.at_) ⟨hat _ _ _ _ hs.at_, hroom, hs.max, by rw [hps]; exact hs.fit⟩ ?_⟩
    · rw [hdst]
      exact (ha.mem' (ha.mem.setRow hs.at_ _)).put (d := some d) hd _
    · apply Array.ext_getElem?
      intro q
      rw [Array.getElem?_extract, Array.getElem?_append, Array.getElem?_extract, hps]
      have hsz : (cur.extract off (off + n * size)).size = n * size := by simp; omega
      rw [hsz]
      rw [Nat.add_mul]
      by_cases hq : q < n * size
      · rw [if_pos (by omega), if_pos hq, if_pos (by omega), putR_get_out _ _ _ _ hfit1 (by omega)]
      · rw [if_neg hq]
        by_cases hq2 : q < n * size + m * size
        · rw [if_pos (by omega)]
          have := putR_get_in cur news.toArray (off + n * size) (q - n * size) hfit1 (by omega)
          rw [show off + n * size + (q - n * size) = off + q by omega] at this
          exact this
        · rw [if_neg (by omega), Array.getElem?_eq_none (by omega)]
  · have hold := cells_at ha.mem hs.at_ off (n * size)
    have h3 : n * size ≤ cap * size := Nat.mul_le_mul_right _ hs.le
    have hfit0 := hs.fit
    have hsz : (cur.extract off (off + n * size)).size = n * size := by simp; omega
    have hr := run_append_grow_src (P := c.P) w t t2 o.type E ii zz hu.h r1 r2 (some ⟨g, off, none⟩) n cap (cur.extract off (off + n * size)).toList (run_firstCells_some w.drew ii.size n ⟨g, off, none⟩ n cap _ (by rw [Array.length_toList, hsz, r4]) (by simpa using hold)) y' m news (by rw [r4]; exact hsr) (by omega) (by simp only [maxLen] at hmax; omega) (growslice_fits (by omega) (by rw [r5]; exact hby))
    rw [r3] at hr
    obtain ⟨cap', hcap'⟩ : ∃ q, grownCap w (n + m) cap E = q := ⟨_, rfl⟩
    have hge := grownCap_ge w (n + m) cap E
    have hcm := grownCap_le_maxLen w (n + m) cap E hmax
    rw [hcap'] at hr hge hcm
    have e0 : ((cur.extract off (off + n * size)).toList ++ news).toArray = cur.extract off (off + n * size) ++ news.toArray := by apply Array.ext'; simp
    rw [e0] at hr
    have hr' : (execOp a.eval o).run c.P w = .ok (.value (.slice (some ⟨w.heap.size, 0, none⟩) (n + m) cap')) (w.drew.alloc (.cells (cur.extract off (off + n * size) ++ news.toArray ++ Builtin.zeroCells z (cap' - (n + m))) E)) := by
      simp [execOp, ho, resolve, invoke, builtin, ha.ev hx, ha.ev hy, hr]
    rw [Oper.semAt_eq _ _ _ (by rw [ho]; intro cc h; cases h), hr']
    have hN : (cur.extract off (off + n * size) ++ news.toArray).size = (n + m) * size := by rw [Array.size_append, hsz, hz, Nat.add_mul]
    refine ⟨_, ?_, hk w.heap.size 0 cap' (cur.extract off (off + n * size) ++ news.toArray ++ Builtin.zeroCells z (cap' - (n + m))) _ (hset _ _ _ _ hs.at_) ⟨hat _ _ _ _ hs.at_, hge, hcm, ?_⟩ ?_⟩
    · rw [hdst]
      have hm1 := (ha.mem.drew).alloc (.cells (cur.extract off (off + n * size) ++ news.toArray ++ Builtin.zeroCells z (cap' - (n + m))) E)
      have hm2 : Mem c.g (L.set i (w.heap.size, .cells (cur.extract off (off + n * size) ++ news.toArray ++ Builtin.zeroCells z (cap' - (n + m))) E)) _ :=
        (hm1.perm (L' := (w.heap.size, .cells (cur.extract off (off + n * size) ++ news.toArray ++ Builtin.zeroCells z (cap' - (n + m))) E) :: L) (.refl _)).sublist ((List.eraseIdx_sublist L i).cons_cons _) |>.perm (set_perm hs.at_ _)
      exact (ha.mem' hm2).put (d := some d) hd _
    · rw [Array.size_append, hN, size_zeroCells, r6, ← Nat.add_mul]
      have : n + m + (cap' - (n + m)) = cap' := by omega
      rw [this]; omega
    · rw [Nat.zero_add, ← hN]
      exact extract_left _ _
set_option maxHeartbeats 4000000 in
theorem appendX_ok {t t2 : TypeId} {x y : Operand} (ho : o.op = .call { callee := .builtin .append, args := #[x, y], argTypes := #[t, t2] }) (hdst : o.dst = some d) (hd : Nat.blt d c.N = true) (hcov : Cov bs s Hp M F σ) (hc : appendX c.P s Hp t t2 x y d = some (s2, H2)) : OW c o (Post bs Hp M F s2 H2) K σ := by
  generalize hx : evX s x = e1 at hc
  generalize hy : evX s y = e2 at hc
  unfold appendX at hc
  rw [hx, hy] at hc
  split at hc
  · rename_i E hu
    haveI : TUnd c.P t (.slice E) := ⟨hu⟩
    split at hc
    · rename_i z sz by_ hz hsz hby
      haveI := sizeX_ok hsz
      obtain ⟨zv, i, i1, i2, i3, i4⟩ := zeroX_ok hz
      have j1 : i.size = sz + 1 := by unfold sizeX at hsz; rw [i1] at hsz; simpa using hsz
      have j2 : i.bytes = by_ := by unfold bytesX at hby; rw [i1] at hby; simpa using hby
      have nothing : ∀ {a : Option Addr} {n cap : Nat} {v : V} {l : List V}, srcX c.P Hp t2 (sz + 1) e2 = some (0, l) → ev σ.s x = some (.slice a n cap) → n ≤ cap → RV bs v (.slice a n cap) → OW c o (Post bs Hp M F (s.set d v) Hp) K σ := by
        intro a n cap v l hsrc h1 hn hv ac w ha
        rw [← hy] at hsrc
        obtain ⟨y', news, g1, g2, g3⟩ := srcX_ok hcov hsrc
        have hsr := g3 ac w ha
        have : news = [] := by have := hsr.newsLen; simpa using this
        subst this
        refine ⟨fun _ _ => trivial, ?_⟩
        have hr : (execOp ac.eval o).run c.P w = .ok (.value (.slice a n cap)) w := by
          simp [execOp, ho, resolve, invoke, builtin, ha.ev h1, ha.ev g1, run_append_nothing w t t2 o.type E i hu i1 a n cap hn y' (by rw [j1]; exact hsr)]
        rw [Oper.semAt_eq _ _ _ (by rw [ho]; intro cc h; cases h), hr]
        refine ⟨⟨(d, .slice a n cap) :: σ.s, σ.D, σ.L⟩, ?_, Post_same hcov hv⟩
        rw [hdst]
        exact ha.put (d := some d) hd _
      split at hc
      · rename_i l0 cz hsrc
        split at hc
        · cases hc
          obtain ⟨_, h1, h2⟩ := evX_ok hcov.slots hx; cases h2
          exact nothing hsrc h1 (Nat.le_refl _) .slN
        · cases hc
          obtain ⟨_, h1, h2⟩ := evX_ok hcov.slots hx
          have h5 := h2
          obtain ⟨b, base, av, off', cap, rfl, hk, q1, q2, q3, q4⟩ := h5.sl_inv
          exact nothing hsrc h1 q1 h2
        · cases hc
      · rename_i m l2 cz hsrc
        have hz1 := Nat.eq_of_beq_eq_true cz
        have hz2 : zv.cells.size = sz + 1 := by
          have := (i4 []).length
          simp only [Array.length_toList] at this; omega
        rw [← hy] at hsrc
        obtain ⟨y', news, g1, g2, g3⟩ := srcX_ok hcov hsrc
        /- a new block -/
        have fresh : ∀ {a : Option Addr} {n cap : Nat} {l : List V} {l' : List Value}, ev σ.s x = some (.slice a n cap) → RVs bs l l' → l'.length = n * (sz + 1) → (∀ ac w, Holds c.g c.N σ ac w → (Builtin.firstCells i.size n (.slice a n cap)).run c.P w.drew = .ok l'.toArray w.drew) → cap < n + (m + 1) → n + (m + 1) ≤ 100000 → by_ ≤ 100000 →
            OW c o (Post bs Hp M F (s.set d (.sl Hp.n 0 (n + (m + 1)) (sz + 1) false)) (Hp.new (.cells (T.row .e (l ++ l2) 0) E))) K σ := by
          intro a n cap l l' h1 hl hl' hold hg e1 e2
          refine OW_newE hcov hdst hd (by simp [ho]) fun ac w ha => ?_
          have hsr := g3 ac w ha
          have hnl : news.length = (m + 1) * (sz + 1) := hsr.newsLen
          have hby2 : (n + (m + 1)) * i.bytes ≤ 140737488355328 := by
            have : (n + (m + 1)) * i.bytes ≤ 100000 * 100000 := Nat.mul_le_mul e1 (by omega)
            omega
          have hr := run_append_grow_src (P := c.P) w t t2 o.type E i zv hu i1 i2 a n cap l' (hold ac w ha) y' (m + 1) news (by rw [j1]; exact hsr) hg (by omega) (growslice_fits (by omega) hby2)
          have hge := grownCap_ge w (n + (m + 1)) cap E
          have hcm := grownCap_le_maxLen w (n + (m + 1)) cap E (by simp only [maxLen]; omega)
          obtain ⟨cap', hcap'⟩ : ∃ q, grownCap w (n + (m + 1)) cap E = q := ⟨_, rfl⟩
          rw [hcap'] at hr hge hcm
          have hmul : (n + (m + 1)) * (sz + 1) + (cap' - (n + (m + 1))) * (sz + 1) = cap' * (sz + 1) := by rw [← Nat.add_mul]; congr 1; omega
          have hmul2 : (n + (m + 1)) * (sz + 1) = n * (sz + 1) + (m + 1) * (sz + 1) := Nat.add_mul ..
          have hA : l.length = n * (sz + 1) := hl.length.trans hl'
          have hB : l2.length = (m + 1) * (sz + 1) := g2.length.trans hnl
          refine ⟨w.drew, cap' * (sz + 1), .cells ((l' ++ news).toArray ++ Builtin.zeroCells zv.cells (cap' - (n + (m + 1)))) E (0, 0), .slice (some ⟨w.heap.size, 0, none⟩) (n + (m + 1)) cap', ha.mem.drew, by simp [execOp, ho, resolve, invoke, builtin, ha.ev h1, ha.ev g1, hr], ?_, ?_⟩
          · have := RO_row (b := w.drew.heap.size) (E := E) (extra := (Builtin.zeroCells zv.cells (cap' - (n + (m + 1)))).toList) (n := cap' * (sz + 1)) ((hl.append g2).mono [(w.drew.heap.size, 0, cap' * (sz + 1))]) (by rw [List.length_append]; omega) (by
              simp only [List.length_append, Array.length_toList, size_zeroCells, hz2]; omega)
            have e : (l' ++ news ++ (Builtin.zeroCells zv.cells (cap' - (n + (m + 1)))).toList).toArray = (l' ++ news).toArray ++ Builtin.zeroCells zv.cells (cap' - (n + (m + 1))) := by apply Array.ext'; simp
            rw [e] at this
            exact this
          · rw [hcov.mem.n]
            exact .sl (fun e => nomatch e) (bs_last (bs := bs) (w.drew.heap.size, 0, cap' * (sz + 1))) hge hcm (.inl (by simp)) (by simp)
        split at hc
        · split at hc
          · rename_i c1 c2
            cases hc
            obtain ⟨_, h1, h2⟩ := evX_ok hcov.slots hx; cases h2
            have := fresh (l := []) (l' := []) h1 .nil (by simp) (fun ac w _ => by simpa using run_firstCells_none w.drew i.size 0 0 0) (by omega) (by simpa using Nat.le_of_ble_eq_true c1) (Nat.le_of_ble_eq_true c2)
            simpa using this
          · cases hc
        · rename_i k off len q ex
          split at hc
          · rename_i l E' c1 c2 hl hE'
            have e1 : len + (m + 1) ≤ 100000 := Nat.le_of_ble_eq_true c1
            have e2 : by_ ≤ 100000 := Nat.le_of_ble_eq_true c2
            obtain ⟨_, h1, h2⟩ := evX_ok hcov.slots hx
            obtain ⟨b, base, av, off', cap, rfl, hk, q1, q2, q3, q4⟩ := h2.sl_inv
            obtain ⟨b', base', av', i', cs, E1, cc, l', f1, f2, f3, f4, f5, f6, f7, f8, f9⟩ := blockX_ok hcov hl
            rw [hk] at f2; cases f2
            have hE : E1 = E' := by unfold typeOfX at hE'; rw [f1] at hE'; simpa using hE'
            subst hE
            have f7' : l'.length = len * (sz + 1) := f7
            have parts : Nat.beq q (sz + 1) = true → off' + cap * (sz + 1) ≤ cs.size ∧ cs.extract off' (off' + len * (sz + 1)) = l'.toArray := by
              intro hq
              obtain rfl := Nat.eq_of_beq_eq_true hq
              have hfit : off' + cap * (sz + 1) ≤ cs.size := by
                rcases q3 with q3 | ⟨q3, q5⟩
                · omega
                · rw [q3]; simp; omega
              refine ⟨hfit, ?_⟩
              rcases q3 with q3 | ⟨q3, q5⟩
              · subst q3
                have : len * (sz + 1) ≤ cap * (sz + 1) := Nat.mul_le_mul_right _ q1
                exact extract_of_get f7' (by omega) f8
              · have : len = 0 := by omega
                subst this
                have : l' = [] := by cases l' with
                  | nil => rfl
                  | cons _ _ => simp at f7'
                subst this
                have e0 : off' + 0 * (sz + 1) = off' := by omega
                rw [e0]
                apply Array.eq_empty_of_size_eq_zero
                simp only [Array.size_extract]; omega
            split at hc
            · rename_i c4 c5
              cases hc
              obtain rfl := Nat.eq_of_beq_eq_true c4
              obtain ⟨hfit, hex1⟩ := parts c5
              have hcap := h2.sl_ex
              have := fresh h1 f6 f7' (fun ac w ha => by
                have hold := cells_at ha.mem f4 off' (len * (sz + 1))
                rw [hex1] at hold
                exact run_firstCells_some w.drew i.size len ⟨b, off', none⟩ len cap l' (by rw [j1]; exact f7') (by simpa using hold)) (by omega) e1 e2
              exact this
            · rename_i c4 c5
              cases hc
              obtain rfl := Nat.eq_of_beq_eq_true c4
              obtain ⟨hfit, hex1⟩ := parts c5
              haveI : TRow c.P E zv.cells (sz + 1) by_ := ⟨⟨i, zv, i1, i2, rfl, j1, j2, hz2⟩⟩
              refine OW_nodup ?_
              refine OW_append_src (s := σ.s) (D := σ.D) (L := σ.L) (size := sz + 1) (by_ := by_) (z := zv.cells) ho hdst hd h1 i' ⟨f4, q1, q2, hfit⟩ (m := m + 1) g1 g3 (by simp only [maxLen]; omega) (Nat.le_trans (Nat.mul_le_mul (show len + (m + 1) ≤ 100000 from e1) e2) (by decide)) ?_
              intro g' off3 cap' cur' L' hset hsl hcur hnod
              have hsetL := setL_eq hset
              rw [hex1] at hcur
              have hll := f6.length
              have hll2 := g2.length
              have hmul2 : (len + (m + 1)) * (sz + 1) = len * (sz + 1) + (m + 1) * (sz + 1) := Nat.add_mul ..
              have hmul : (len + (m + 1)) * (sz + 1) ≤ cap' * (sz + 1) := Nat.mul_le_mul_right _ hsl.le
              refine Post_swap (i := i') (av2 := cap' * (sz + 1)) (base2 := off3) (g := g') (o2 := .cells cur' E (0, 0)) hcov f1 hk f3 hnod ⟨cur', rfl, hsl.fit, fun j v hj => ?_⟩ ?_ rfl rfl hsetL.symm
              · rcases T.get_row hj with ⟨_, e⟩ | ⟨_, e⟩
                · simp only [Nat.sub_zero] at e
                  have hr := (f6.append g2).mono [(g', off3, cap' * (sz + 1))]
                  obtain ⟨v', k1, k2⟩ := hr.get e
                  have hlt := (List.getElem?_eq_some_iff.1 k1).1
                  simp only [List.length_append] at hlt
                  have hext := congrArg Array.size hcur
                  have hsz2 : (cur'.extract off3 (off3 + (len + (m + 1)) * (sz + 1))).size = (len + (m + 1)) * (sz + 1) := by
                    have := hsl.fit
                    simp only [Array.size_extract]; omega
                  rw [hsz2] at hext
                  simp only [Array.size_append, List.size_toArray] at hext
                  have hj2 : j < (len + (m + 1)) * (sz + 1) := by omega
                  refine ⟨Nat.lt_of_lt_of_le hj2 hmul, v', ?_, k2⟩
                  have hc2 := congrArg (fun (A : Array Value) => A[j]?) hcur
                  simp only [Array.getElem?_extract] at hc2
                  have hle : off3 + (len + (m + 1)) * (sz + 1) ≤ cur'.size := Nat.le_trans (Nat.add_le_add_left hmul _) hsl.fit
                  rw [if_pos (by show j < min (off3 + (len + (m + 1)) * (sz + 1)) cur'.size - off3; omega)] at hc2
                  rw [hc2]
                  simpa using k1
                · cases e
              · rw [hcov.mem.n]
                exact .sl (fun e => nomatch e) (bs_last (bs := bs) (g', off3, cap' * (sz + 1))) hsl.le hsl.max (.inl (by simp)) (by simp)
            · cases hc
          · cases hc
        · cases hc
      · cases hc
    · cases hc
  · cases hc
end
end
end Go.Proofs.Ytgimodceldoniaa
