/-
  A part of what the last of these texts needs; by itself it proves no statement.
-/
import Derived.WalkSpells
import Derived.MapKept
import Derived.Laws.StructEq
import Derived.Laws.IdiomStrings
import Derived.Great.BuildSlice
import Derived.Laws.MakeOwn
import Derived.Deep.Upon
import Derived.Test.YtncgndcepoicbaaGreatKL3
namespace Go.Proofs.YtncgndcepoicbaaGreat
open Go.RowKit
noncomputable section
section
variable {P : Program}
def sizeX (P : Program) (t : TypeId) : Option Nat := match P.info? t with
  | some i => some i.size
  | none => none
theorem sizeX_ok {t n : Nat} (h : sizeX P t = some n) : TSize P t n := ⟨fun w => by
  unfold sizeX at h
  split at h
  · rename_i i hi; cases h; simp [sizeOf, typeInfo, hi]
  · cases h⟩
def aggX (P : Program) (t : TypeId) : Option Bool := match P.underlying t with
  | some (.struct _) => some true
  | some (.array _ _) => some true
  | some _ => some false
  | none => none
theorem aggX_ok {t : Nat} {b : Bool} (h : aggX P t = some b) : TAgg P t b := ⟨fun w => by
  unfold aggX at h
  split at h
  · rename_i hu; cases h; simp [isAgg, run_underlying hu]
  · rename_i hu; cases h; simp [isAgg, run_underlying hu]
  · rename_i d h1 h2 hu
    cases h
    simp only [isAgg, Sem.run_bind, run_underlying hu]
    cases d <;> first | rfl | exact absurd rfl (h1 _) | exact absurd rfl (h2 _ _)
  · cases h⟩
def V.scal : V → Option Value
  | .int k n => some (.int k n)
  | .bool b => some (.bool b)
  | .str s => some (.string s)
  | _ => none
theorem V.scal_ok {bs : Bs} {v : V} {v' u : Value} (h : RV bs v v') (hs : v.scal = some u) : v' = u := by
  cases h <;> cases hs <;> rfl
def binW (P : Program) (op : BinOp) (t : TypeId) (x y : Value) : Option Value :=
  match x, y with
  | .int k a, .int k' b =>
    match op with
    | .shl => if 0 ≤ b then some (.int k (k.wrap (a * 2 ^ (min b.toNat k.bits)))) else none
    | .shr => if 0 ≤ b then some (.int k (a.fdiv (2 ^ (min b.toNat k.bits)))) else none
    | _ => if k = k' then
      match op with
      | .add => some (.int k (k.wrap (a + b)))
      | .sub => some (.int k (k.wrap (a - b)))
      | .mul => some (.int k (k.wrap (a * b)))
      | .quo => if b = 0 then none else some (.int k (k.wrap (a.tdiv b)))
      | .rem => if b = 0 then none else some (.int k (a.tmod b))
      | .and => some (.int k (k.wrap (BitVec.ofInt k.bits a &&& BitVec.ofInt k.bits b).toNat))
      | .or => some (.int k (k.wrap (BitVec.ofInt k.bits a ||| BitVec.ofInt k.bits b).toNat))
      | .xor => some (.int k (k.wrap (BitVec.ofInt k.bits a ^^^ BitVec.ofInt k.bits b).toNat))
      | .andNot => some (.int k (k.wrap (BitVec.ofInt k.bits a &&& ~~~(BitVec.ofInt k.bits b)).toNat))
      | .eql => some (.bool (a == b))
      | .neq => some (.bool (a != b))
      | .lss => some (.bool (decide (a < b)))
      | .leq => some (.bool (decide (a ≤ b)))
      | .gtr => some (.bool (decide (a > b)))
      | .geq => some (.bool (decide (a ≥ b)))
      | _ => none
      else none
  | .bool a, .bool b => match P.underlying t with
    | some .bool => match op with
      | .eql => some (.bool (a == b))
      | .neq => some (.bool (a != b))
      | _ => none
    | _ => none
  | .string a, .string b => match op with
    | .add => if ((a.size + b.size : Nat) : Int) > IntKind.i64.max then none else some (.string (a ++ b))
    | .eql => some (.bool (a.toList == b.toList))
    | .neq => some (.bool !(a.toList == b.toList))
    | .lss => some (.bool (Op.bytesLess a.toList b.toList))
    | .geq => some (.bool !(Op.bytesLess a.toList b.toList))
    | .leq => some (.bool (Op.bytesLess a.toList b.toList || a.toList == b.toList))
    | .gtr => some (.bool !(Op.bytesLess a.toList b.toList || a.toList == b.toList))
    | _ => none
  | _, _ => none
theorem binW_run {op : BinOp} {t : TypeId} {x y v : Value} (X Y : Operand) (h : binW P op t x y = some v) (w : World) : (eqGuard op t X Y x y).run P w = .ok () w ∧ (binOp op t x y).run P w = .ok v w := by
  unfold binW at h
  split at h
  · rename_i k a k' b
    split at h
    · split at h
      · rename_i hb; cases h
        simp [eqGuard, binOp, Op.shift, show ¬ b < 0 by omega]
      · cases h
    · split at h
      · rename_i hb; cases h
        simp [eqGuard, binOp, Op.shift, show ¬ b < 0 by omega]
      · cases h
    · split at h
      · rename_i h1 h2 hk
        subst hk
        split at h
        all_goals first
          | (cases h; done)
          | (cases h; simp [eqGuard, binOp, Op.intArith, Op.intCmp, Op.intBits]; done)
          | (split at h
             · cases h
             · rename_i hb; cases h; simp [eqGuard, binOp, Op.intDiv, hb])
      · cases h
  · rename_i a b
    split at h
    · rename_i hu
      split at h
      · cases h; simp [eqGuard, run_eql_bool w t a b hu]
      · cases h; simp [eqGuard, run_neq_bool w t a b hu, bne]
      · cases h
    · cases h
  · split at h
    all_goals first
      | (cases h; done)
      | (cases h; simp [eqGuard, binOp, Op.stringOp]; done)
      | (split at h
         · cases h
         · rename_i hb; cases h; rw [show IntKind.i64.max = 9223372036854775807 from rfl] at hb; simp [eqGuard, binOp, Op.stringOp]; omega)
  · cases h
end
section
variable {c : Cx} {s : List (Nat × Value)} {L : List (Nat × Obj)} {o : Oper}
theorem Qt_binW {op : BinOp} {t t' : TypeId} {x y : Operand} {a b v : Value} (ho : o.op = .binOp op t x y t') (hx : ev s x = some a) (hy : ev s y = some b) (hv : binW c.P op t a b = some v) : Qt c s L o v :=
  ⟨(fun cc => by simp [ho]), fun ρ hρ w _ => by
    obtain ⟨h1, h2⟩ := binW_run (P := c.P) (t := t) x y hv w
    simp [execOp, ho, hρ x _ hx, hρ y _ hy, h1, h2]⟩
theorem Qt_of_run {v : Value} (hd : ∀ cc, o.op ≠ .defer cc) (h : ∀ ρ : Operand → Value, (∀ x u, ev s x = some u → ρ x = u) → ∀ w, Mem c.g L w → (execOp ρ o).run c.P w = .ok (.value v) w) : Qt c s L o v := ⟨hd, h⟩
end
section
variable {c : Cx} {bs : Bs} {σs : List (Nat × Value)} {Ls : List (Nat × Obj)} {o : Oper}
def partX (P : Program) (ft off n : Nat) (l : List V) : Option V := match aggX P ft with
  | some true => some (.agg ((l.drop off).take n))
  | some false => l[off]?
  | none => none
theorem part_run {P : Program} {ft off n : Nat} {l : List V} {l' : List Value} {v : V} (h : partX P ft off n l = some v) (hn : ∀ w, (sizeOf ft).run P w = .ok n w) (hl : RVs bs l l') : ∃ v', (∀ w, (part ft l'.toArray off).run P w = .ok v' w) ∧ RV bs v v' := by
  unfold partX at h
  split at h
  · rename_i ha
    cases h
    refine ⟨.agg ((l'.drop off).take n).toArray, fun w => ?_, .agg ((hl.drop off).take n)⟩
    have := (aggX_ok ha).h w
    simp [part, this, hn]
  · rename_i ha
    obtain ⟨v', h1, h2⟩ := hl.get h
    refine ⟨v', fun w => ?_, h2⟩
    have := (aggX_ok ha).h w
    simp [part, this, h1]
  · cases h
end
end
end Go.Proofs.YtncgndcepoicbaaGreat
namespace Go.Proofs.YtncgndcepoicbaaGreat
open Go.RowKit
noncomputable section
section
variable {c : Cx} {bs : Bs} {σs : List (Nat × Value)} {Ls : List (Nat × Obj)} {o : Oper}
def eqFs (rec : TypeId → V → V → Option Bool) (P : Program) (xs ys : List V) : List Field → Option Bool
  | [] => some true
  | f :: r => match decide (f.name = "_") with
    | true => eqFs rec P xs ys r
    | false => match sizeX P f.type with
      | some n => match partX P f.type f.offset n xs, partX P f.type f.offset n ys with
        | some a, some b => match rec f.type a b with
          | some true => eqFs rec P xs ys r
          | some false => some false
          | none => none
        | _, _ => none
      | none => none
def eqEs (rec : TypeId → V → V → Option Bool) (P : Program) (e n : Nat) (xs ys : List V) : List Nat → Option Bool
  | [] => some true
  | i :: r => match partX P e (Nat.mul i n) n xs, partX P e (Nat.mul i n) n ys with
    | some a, some b => match rec e a b with
      | some true => eqEs rec P e n xs ys r
      | some false => some false
      | none => none
    | _, _ => none
def eqX (P : Program) : Nat → TypeId → V → V → Option Bool
  | 0, _, _, _ => none
  | d + 1, t, x, y => match x, y with
    | .int k a, .int k' b => match P.underlying t, decide (k = k') with
      | some (.int _), true => some (a == b)
      | _, _ => none
    | .bool a, .bool b => match P.underlying t with
      | some .bool => some (a == b)
      | _ => none
    | .str a, .str b => match P.underlying t with
      | some .string => some (a.toList == b.toList)
      | _ => none
    | .agg xs, .agg ys => match P.underlying t with
      | some (.struct fs) => match P.stoodInHeld t with
        | false => eqFs (eqX P d) P xs ys fs.toList
        | true => none
      | some (.array n e) => match sizeX P e with
        | some sz => eqEs (eqX P d) P e sz xs ys (List.range' 0 n 1)
        | none => none
      | _ => none
    | _, _ => none
set_option maxHeartbeats 4000000 in
theorem eqX_ok {P : Program} : ∀ (d : Nat) {t : TypeId} {x y : V} {x' y' : Value} {b : Bool}, eqX P d t x y = some b → RV bs x x' → RV bs y y' → ∀ (q : Nat) (w : World), (Op.equalIn (d + q) t x' y').run P w = .ok b w
  | 0, _, _, _, _, _, _, h, _, _ => by cases h
  | d + 1, t, x, y, x', y', b, h, hx, hy => fun q w => by
    have ih := fun {t x y x' y' b} (h : eqX P d t x y = some b) (hx : RV bs x x') (hy : RV bs y y') (w : World) => eqX_ok d h hx hy q w
    rw [show d + 1 + q = (d + q) + 1 by omega]
    simp only [eqX] at h
    split at h
    · split at h
      · rename_i hu hk
        cases h; cases hx; cases hy
        obtain rfl := of_decide_eq_true hk
        exact run_equalIn_int w _ t _ _ _ _ hu
      · cases h
    · split at h
      · rename_i hu
        cases h; cases hx; cases hy
        exact run_equalIn_bool' w _ t _ _ hu
      · cases h
    · split at h
      · rename_i hu
        cases h; cases hx; cases hy
        exact run_equalIn_string w _ t _ _ hu
      · cases h
    · rename_i xs ys
      cases hx; cases hy
      rename_i xs' hxs ys' hys
      split at h
      · rename_i fs hu
        split at h
        · rename_i hst
          have hfo : P.fieldsOf t = fs := by simp [Program.fieldsOf, hu]
          rw [run_equalIn_struct w (d + q) t _ _ (by rw [hfo]; exact hu) hst, hfo]
          generalize fs.toList = l at h
          clear hu hfo
          induction l generalizing w with
          | nil => cases h; simp [Op.eqFields]
          | cons f r ihl =>
            simp only [eqFs] at h
            simp only [Op.eqFields]
            split at h
            · rename_i hn
              have hn := of_decide_eq_true hn
              rw [if_neg (by simp [hn])]
              exact ihl w h
            · rename_i hn
              have hn := of_decide_eq_false hn
              rw [if_pos hn]
              split at h
              · rename_i n hsz
                split at h
                · rename_i a b ha hb
                  obtain ⟨a', a1, a2⟩ := part_run ha (sizeX_ok hsz).h hxs
                  obtain ⟨b', b1, b2⟩ := part_run hb (sizeX_ok hsz).h hys
                  split at h
                  · rename_i he
                    have := ih he a2 b2 w
                    simp only [Sem.run_bind, a1, b1, Result.andThen_ok, this, Bool.not_true, Bool.false_eq_true, if_false]
                    exact ihl w h
                  · rename_i he
                    cases h
                    have := ih he a2 b2 w
                    simp [a1, b1, this]
                  · cases h
                · cases h
              · cases h
        · cases h
      · rename_i n e hu
        split at h
        · rename_i sz hsz
          rw [Op.equalIn]
          simp only [Sem.run_bind, run_underlying hu, Result.andThen_ok, (sizeX_ok hsz).h, Std.Legacy.Range.forIn_eq_forIn_range', Std.Legacy.Range.size, Nat.sub_zero, Nat.add_sub_cancel, Nat.div_one]
          generalize List.range' 0 n 1 = l at h ⊢
          clear hu
          induction l generalizing w with
          | nil => cases h; simp
          | cons i r ihl =>
            simp only [eqEs] at h
            split at h
            · rename_i a b ha hb
              obtain ⟨a', a1, a2⟩ := part_run ha (sizeX_ok hsz).h hxs
              obtain ⟨b', b1, b2⟩ := part_run hb (sizeX_ok hsz).h hys
              have a1' : ∀ w, (part e xs'.toArray (i * sz)).run P w = .ok a' w := a1
              have b1' : ∀ w, (part e ys'.toArray (i * sz)).run P w = .ok b' w := b1
              split at h
              · rename_i he
                have := ih he a2 b2 w
                simp only [List.forIn_cons, Sem.run_bind, a1', b1', Result.andThen_ok, this, Bool.not_true, Bool.false_eq_true, if_false, Sem.run_pure]
                exact ihl w h
              · rename_i he
                cases h
                have := ih he a2 b2 w
                simp [List.forIn_cons, a1', b1', this]
              · cases h
            · cases h
        · cases h
      · cases h
    · cases h
theorem run_equalIn_iface {P : Program} (w : World) (d : Nat) (t : TypeId) {ms : Array (String × TypeId)} (h : P.underlying t = some (.interface ms)) :
    (Op.equalIn (d + 1) t .nilIface .nilIface).run P w = .ok true w ∧ ∀ (u : TypeId) (v : Value), (Op.equalIn (d + 1) t (.iface u v) .nilIface).run P w = .ok false w ∧ (Op.equalIn (d + 1) t .nilIface (.iface u v)).run P w = .ok false w := by
  refine ⟨?_, fun u v => ⟨?_, ?_⟩⟩
  · simp [Op.equalIn, run_underlying h]
  · simp [Op.equalIn, run_underlying h]
  · simp [Op.equalIn, run_underlying h]
end
mutual
def V.val : V → Option Value
  | .int k n => some (.int k n)
  | .bool b => some (.bool b)
  | .str s => some (.string s)
  | .agg l => match V.valL l with
    | some l' => some (.agg l'.toArray)
    | none => none
  | _ => none
def V.valL : List V → Option (List Value)
  | [] => some []
  | v :: r => match V.val v, V.valL r with
    | some u, some l => some (u :: l)
    | _, _ => none
end
mutual
theorem V.val_ok {bs : Bs} : ∀ {v : V} {v' u : Value}, RV bs v v' → V.val v = some u → v' = u
  | _, _, _, .int _ _, h => by simp only [V.val, Option.some.injEq] at h; exact h
  | _, _, _, .bool _, h => by simp only [V.val, Option.some.injEq] at h; exact h
  | _, _, _, .str _, h => by simp only [V.val, Option.some.injEq] at h; exact h
  | _, _, _, .agg hl, h => by
    simp only [V.val] at h
    split at h
    · rename_i l' hl'
      cases h
      rw [V.valL_ok hl hl']
    · cases h
  | _, _, _, .ptrN, h => by simp [V.val] at h
  | _, _, _, .ptr _, h => by simp [V.val] at h
  | _, _, _, .slN, h => by simp [V.val] at h
  | _, _, _, .sl _ _ _ _ _ _, h => by simp [V.val] at h
  | _, _, _, .fn _ _ _, h => by simp [V.val] at h
  | _, _, _, .nilf, h => by simp [V.val] at h
  | _, _, _, .ifc _ _, h => by simp [V.val] at h
  | _, _, _, .nili, h => by simp [V.val] at h
  | _, _, _, .mapN, h => by simp [V.val] at h
  | _, _, _, .map _, h => by simp [V.val] at h
  | _, _, _, .tup _, h => by simp [V.val] at h
  | _, _, _, .yld _, h => by simp [V.val] at h
theorem V.valL_ok {bs : Bs} : ∀ {l : List V} {l' u : List Value}, RVs bs l l' → V.valL l = some u → l' = u
  | _, _, _, .nil, h => by simp only [V.valL, Option.some.injEq] at h; exact h
  | _, _, _, .cons hv hl, h => by
    simp only [V.valL] at h
    split at h
    · rename_i h1 h2
      cases h
      rw [V.val_ok hv h1, V.valL_ok hl h2]
    · cases h
end
section
variable {c : Cx} {bs : Bs} {σs : List (Nat × Value)} {Ls : List (Nat × Obj)} {o : Oper}
def keyFs (rec : TypeId → V → Bool) (P : Program) (xs : List V) : List Field → Bool
  | [] => true
  | f :: r => match decide (f.name = "_") with
    | true => keyFs rec P xs r
    | false => match sizeX P f.type with
      | some n => match partX P f.type f.offset n xs with
        | some a => match rec f.type a with
          | true => keyFs rec P xs r
          | false => false
        | none => false
      | none => false
def keyEs (rec : TypeId → V → Bool) (P : Program) (e n : Nat) (xs : List V) : List Nat → Bool
  | [] => true
  | i :: r => match partX P e (Nat.mul i n) n xs with
    | some a => match rec e a with
      | true => keyEs rec P e n xs r
      | false => false
    | none => false
def keyK (P : Program) : Nat → TypeId → V → Bool
  | 0, _, _ => false
  | d + 1, t, x => match x, P.underlying t with
    | .int _ _, some (.int _) => true
    | .str _, some .string => true
    | .bool _, some .bool => true
    | .agg xs, some (.struct fs) => keyFs (keyK P d) P xs fs.toList
    | .agg xs, some (.array n e) => match sizeX P e with
      | some sz => keyEs (keyK P d) P e sz xs (List.range' 0 n 1)
      | none => false
    | _, _ => false
set_option maxHeartbeats 4000000 in
theorem keyK_run {P : Program} (em : Bool) : ∀ (d : Nat) {t : TypeId} {x : V} {x' : Value}, keyK P d t x = true → RV bs x x' → ∀ (q : Nat) (w : World), (Instr.checkKey em (d + q) t x').run P w = .ok () w
  | 0, _, _, _, h, _, _, _ => by cases h
  | d + 1, t, x, x', h, hx, q, w => by
    have ih := fun {t x x'} (h : keyK P d t x = true) (hx : RV bs x x') (w : World) => keyK_run em d h hx q w
    rw [show d + 1 + q = (d + q) + 1 by omega]
    simp only [keyK] at h
    split at h
    · rename_i hu; cases hx; rw [Instr.checkKey]; simp [run_underlying hu]
    · rename_i hu; cases hx; rw [Instr.checkKey]; simp [run_underlying hu]
    · rename_i hu; cases hx; rw [Instr.checkKey]; simp [run_underlying hu]
    · rename_i xs fs hu
      cases hx
      rename_i xs' hxs
      rw [Instr.checkKey]
      simp only [Sem.run_bind, run_underlying hu, Result.andThen_ok]
      rw [← Array.forIn_toList]
      generalize fs.toList = l at h
      clear hu
      induction l generalizing w with
      | nil => simp
      | cons f r ihl =>
        simp only [keyFs] at h
        split at h
        · rename_i hn
          have hn := of_decide_eq_true hn
          simp only [List.forIn_cons, Sem.run_bind, hn, ne_eq, not_true_eq_false, if_false, Sem.run_pure, Result.andThen_ok]
          exact ihl w h
        · rename_i hn
          have hn := of_decide_eq_false hn
          split at h
          · rename_i n hsz
            split at h
            · rename_i a ha
              obtain ⟨a', a1, a2⟩ := part_run ha (sizeX_ok hsz).h hxs
              split at h
              · rename_i hk
                have := ih hk a2 w
                simp only [List.forIn_cons, Sem.run_bind, ne_eq, hn, not_false_eq_true, if_true, a1, Result.andThen_ok, this, Sem.run_pure]
                exact ihl w h
              · cases h
            · cases h
          · cases h
    · rename_i xs n e hu
      split at h
      · rename_i sz hsz
        cases hx
        rename_i xs' hxs
        rw [Instr.checkKey]
        simp only [Sem.run_bind, run_underlying hu, Result.andThen_ok, Std.Legacy.Range.forIn_eq_forIn_range', Std.Legacy.Range.size, Nat.sub_zero, Nat.add_sub_cancel, Nat.div_one]
        generalize List.range' 0 n 1 = l at h ⊢
        clear hu
        induction l generalizing w with
        | nil => simp
        | cons i r ihl =>
          simp only [keyEs] at h
          split at h
          · rename_i a ha
            obtain ⟨a', a1, a2⟩ := part_run ha (sizeX_ok hsz).h hxs
            have a1' : ∀ w, (part e xs'.toArray (i * sz)).run P w = .ok a' w := a1
            split at h
            · rename_i hk
              have := ih hk a2 w
              simp only [List.forIn_cons, Sem.run_bind, (sizeX_ok hsz).h, a1', Result.andThen_ok, this, Sem.run_pure]
              exact ihl w h
            · cases h
          · cases h
      · cases h
    · cases h
def keyX (P : Program) (kt : TypeId) (d : TypeDesc) (k : V) : Bool := match d, k with
  | .int _, .int _ _ => true
  | .string, .str _ => true
  | .bool, .bool _ => true
  | .struct _, .agg _ => keyK P 8 kt k
  | .array _ _, .agg _ => keyK P 8 kt k
  | _, _ => false
theorem keyX_run {P : Program} {kt : TypeId} {d : TypeDesc} {k : V} {k' : Value} (hd : P.underlying kt = some d) (h : keyX P kt d k = true) (hk : RV bs k k') (e : Bool) (w : World) : (Instr.checkKey e 10000 kt k').run P w = .ok () w := by
  unfold keyX at h
  split at h <;> first | (cases h; done) | skip
  · cases hk; rw [Instr.checkKey]; simp [run_underlying hd]
  · cases hk; rw [Instr.checkKey]; simp [run_underlying hd]
  · cases hk; rw [Instr.checkKey]; simp [run_underlying hd]
  · exact keyK_run e 8 h hk 9992 w
  · exact keyK_run e 8 h hk 9992 w
def sameX (P : Program) (kt : TypeId) (d : TypeDesc) (a b : V) : Option Bool := match d, a, b with
  | .struct _, .agg _, .agg _ => sameG a b
  | .array _ _, .agg _, .agg _ => sameG a b
  | _, _, _ => match a.scal, b.scal with
    | some x, some y => Instr.sameNow d x y
    | _, _ => none
where sameG (a b : V) : Option Bool := match eqX P 8 kt a b with
  | some true => match a.val, b.val with
    | some x, some y => match Instr.sameBits 10000 y x with
      | true => some true
      | false => none
    | _, _ => none
  | r => r
def nowK : TypeDesc → Bool
  | .struct _ => false
  | .array _ _ => false
  | _ => true
theorem sameX_now {P : Program} {kt : TypeId} {d : TypeDesc} {a b : V} {a' b' : Value} {r : Bool} (hn : nowK d = true) (h : sameX P kt d a b = some r) (ha : RV bs a a') (hb : RV bs b b') : Instr.sameNow d a' b' = some r := by
  unfold sameX at h
  split at h
  · cases hn
  · cases hn
  · split at h
    · rename_i x y hx hy
      rw [V.scal_ok ha hx, V.scal_ok hb hy]; exact h
    · cases h
theorem sameNow_ask {d : TypeDesc} (hn : nowK d = false) (a b : Value) : Instr.sameNow d a b = none := by
  cases d <;> first | (cases hn; done) | (cases a <;> rfl)
theorem sameX_ask {P : Program} {kt : TypeId} {d : TypeDesc} {a b : V} {a' b' : Value} {r : Bool} (hn : nowK d = false) (h : sameX P kt d a b = some r) (ha : RV bs a a') (hb : RV bs b b') : (∀ w, (Op.equal kt a' b').run P w = .ok r w) ∧ (r = true → Instr.sameBits 10000 b' a' = true) := by
  have g : sameX.sameG P kt a b = some r := by
    unfold sameX at h
    split at h
    · exact h
    · exact h
    · split at h
      · rw [sameNow_ask hn] at h; cases h
      · cases h
  unfold sameX.sameG at g
  split at g
  · rename_i he
    split at g
    · rename_i x y hx hy
      split at g
      · rename_i hsb
        cases g
        refine ⟨fun w => eqX_ok 8 he ha hb (Op.maxDepth - 8) w, fun _ => ?_⟩
        rw [V.val_ok ha hx, V.val_ok hb hy]; exact hsb
      · cases g
    · cases g
  · rename_i hne
    cases r with
    | true => exact absurd g hne
    | false => exact ⟨fun w => eqX_ok 8 g ha hb (Op.maxDepth - 8) w, fun e => by cases e⟩
theorem keyThatStays_now {P : Program} {kt : TypeId} {d : TypeDesc} {k p : V} {k' p' : Value} (hn : nowK d = true) (hs : sameX P kt d k p = some true) (hk : RV bs k k') (hp : RV bs p p') (w : World) : (Instr.keyThatStays p' k').run P w = .ok k' w := by
  have hs := sameX_now hn hs hk hp
  unfold Instr.sameNow at hs
  split at hs
  · split at hs
    · rename_i hkk
      subst hkk
      simp at hs
      subst hs
      simp [Instr.keyThatStays, Instr.sameBits]
    · cases hs
  · simp only [Option.some.injEq] at hs
    have hs2 := (Go.MapKept.bytes_beq _ _).1 hs
    subst hs2
    simp [Instr.keyThatStays, Instr.sameBits, hs]
  · simp at hs
    subst hs
    simp [Instr.keyThatStays, Instr.sameBits]
  · cases hs
theorem keyThatStays_run {P : Program} {kt : TypeId} {d : TypeDesc} {k p : V} {k' p' : Value} (hs : sameX P kt d k p = some true) (hk : RV bs k k') (hp : RV bs p p') (w : World) : (Instr.keyThatStays p' k').run P w = .ok k' w := by
  cases hn : nowK d with
  | true => exact keyThatStays_now hn hs hk hp w
  | false => simp [Instr.keyThatStays, (sameX_ask hn hs hk hp).2 rfl]
def Fnd (P : Program) (kt : TypeId) (d : TypeDesc) (k' : Value) (es : List MapEntry) (i : Nat) (a : Option (Nat × Value)) : Prop :=
  (nowK d = true ∧ Instr.findNow d k' es i = some a) ∨ (nowK d = false ∧ ∀ w, (Instr.findAsking kt k' es i).run P w = .ok a w)
theorem Fnd_nil {P : Program} {kt : TypeId} (d : TypeDesc) (k' : Value) (i : Nat) : Fnd P kt d k' [] i none := by
  cases hn : nowK d with
  | true => exact .inl ⟨hn, rfl⟩
  | false => exact .inr ⟨hn, fun w => rfl⟩
theorem Fnd_hit {P : Program} {kt : TypeId} {d : TypeDesc} {k p : V} {k' : Value} {e : MapEntry} (hs : sameX P kt d k p = some true) (hk : RV bs k k') (hp : RV bs p e.key) (es : List MapEntry) (i : Nat) : Fnd P kt d k' (e :: es) i (some (i, e.val)) := by
  cases hn : nowK d with
  | true => exact .inl ⟨hn, by simp [Instr.findNow, sameX_now hn hs hk hp]⟩
  | false => exact .inr ⟨hn, fun w => by simp [Instr.findAsking, (sameX_ask hn hs hk hp).1 w]⟩
theorem Fnd_skip {P : Program} {kt : TypeId} {d : TypeDesc} {k p : V} {k' : Value} {e : MapEntry} (hs : sameX P kt d k p = some false) (hk : RV bs k k') (hp : RV bs p e.key) {es : List MapEntry} {i : Nat} {a : Option (Nat × Value)} (h : Fnd P kt d k' es (i + 1) a) : Fnd P kt d k' (e :: es) i a := by
  rcases h with ⟨hn, h⟩ | ⟨hn, h⟩
  · exact .inl ⟨hn, by simp [Instr.findNow, sameX_now hn hs hk hp, h]⟩
  · exact .inr ⟨hn, fun w => by simp [Instr.findAsking, (sameX_ask hn hs hk hp).1 w, h w]⟩
theorem Fnd_run {P : Program} {kt : TypeId} {d : TypeDesc} {k' : Value} (hd : P.underlying kt = some d) {es : List MapEntry} {a : Option (Nat × Value)} (h : Fnd P kt d k' es 0 a) (w : World) : (Instr.findKey kt k' es).run P w = .ok a w := by
  rcases h with ⟨hn, h⟩ | ⟨hn, h⟩
  · exact Go.MapKept.run_findKey hd h
  · cases es with
    | nil =>
      have := h w
      simp [Instr.findAsking] at this
      subst this
      exact Go.MapKept.run_findKey hd rfl
    | cons e es =>
      have : Instr.findNow d k' (e :: es) 0 = none := by simp [Instr.findNow, sameNow_ask hn]
      simp only [Instr.findKey, Sem.run_bind, run_underlying hd, Result.andThen_ok, this]
      exact h w
end
end
end Go.Proofs.YtncgndcepoicbaaGreat
namespace Go.Proofs.YtncgndcepoicbaaGreat
open Go.RowKit
noncomputable section
attribute [local irreducible] T.put T.set
theorem nodup_wlog {c : Cx} {o : Oper} {Kn : St → Prop} {K : Exit → St → Prop} {σ : St} (h : (σ.L.map Prod.fst).Nodup → OW c o Kn K σ) : OW c o Kn K σ := fun a w ha => h ha.mem.nodup a w ha
end
end Go.Proofs.YtncgndcepoicbaaGreat
namespace Go.Proofs.YtncgndcepoicbaaGreat
open Go.RowKit
noncomputable section
attribute [local irreducible] T.put T.set
section
variable {c : Cx} {o : Oper} {K : Exit → St → Prop} {σ : St} {bs : Bs} {M F : List (Nat × Obj)} {d : Nat} 
theorem run_append_in_src {P : Program} (w : World) (t tx ty e : TypeId) (i : TypeInfo) (ht : P.underlying t = some (.slice e)) (hi : P.info? e = some i)
    (g off sLen sCap : Nat) (cur : Array Value) (hg : w.heap[g]? = some (.cells cur e (0, 0)))
    (x : Value) (m : Nat) (news : List Value) (hs : Src P i.size tx x m news w)
    (hroom : sLen + m ≤ sCap) (hfit : off + sLen * i.size + news.length ≤ cur.size) :
    (Builtin.append_ #[t, tx] ty #[.slice (some ⟨g, off, none⟩) sLen sCap, x]).run P w =
      .ok (.slice (some ⟨g, off, none⟩) (sLen + m) sCap) (w.setRow g (putR cur (off + sLen * i.size) news.toArray)) := by
  have hst := run_storeCells_at P g (off + sLen * i.size) e news 0 cur w hg (by simpa using hfit) hs.one
  simp only [Nat.add_zero] at hst
  rcases hs.kind with ⟨e', hk⟩ | hk <;> simp [Builtin.append_, run_underlying ht, run_underlying hk, sizeOf, typeInfo, hi, hs.len, hroom, hs.cells, Addr.add_mid, hst, putR]
set_option maxHeartbeats 4000000 in
theorem OW_append_src {c : Cx} {o : Oper} {Kn : St → Prop} {K : Exit → St → Prop} {s : List (Nat × Value)} {D : List Deferred} {L : List (Nat × Obj)} {t t2 E size by_ d : Nat} {z : Array Value} [hu : TUnd c.P t (.slice E)] [hrow : TRow c.P E z size by_] {x y : Operand}
    (ho : o.op = .call { callee := .builtin .append, args := #[x, y], argTypes := #[t, t2] }) (hdst : o.dst = some d) (hd : Nat.blt d c.N = true) {g off n cap : Nat} {cur : Array Value} (hx : ev s x = some (.slice (some ⟨g, off, none⟩) n cap)) (i : Nat) (hs : SlAt L i g off n cap E size cur)
    {m : Nat} {y' : Value} {news : List Value} (hy : ev s y = some y') (hsrc : ∀ a w, Holds c.g c.N ⟨s, D, L⟩ a w → Src c.P size t2 y' m news w)
    (hmax : n + m ≤ maxLen) (hby : (n + m) * by_ ≤ 140737488355328)
    (hk : ∀ g' off' cap' cur' L', setL L i (g', .cells cur' E (0, 0)) = some L' → SlAt L' i g' off' (n + m) cap' E size cur' → cur'.extract off' (off' + (n + m) * size) = cur.extract off (off + n * size) ++ news.toArray → Kn ⟨(d, .slice (some ⟨g', off', none⟩) (n + m) cap') :: s, D, L'⟩) : OW c o Kn K ⟨s, D, L⟩ := fun a w ha => by
  refine ⟨fun _ _ => trivial, ?_⟩
  obtain ⟨ii, zz, r1, r2, r3, r4, r5, r6⟩ := hrow.h
  have hsr := hsrc a w ha
  have hlen := hsr.newsLen
  have hset : ∀ (L : List (Nat × Obj)) (i : Nat) (p q : Nat × Obj), L[i]? = some q → setL L i p = some (L.set i p) := by
    intro L
    induction L with
    | nil => intro i p q h; simp at h
    | cons x r ih =>
      intro i p q h
      cases i with
      | zero => rfl
      | succ i => simp only [List.getElem?_cons_succ] at h; simp [setL, ih i p q h]
  have hat : ∀ (L : List (Nat × Obj)) (i : Nat) (p q : Nat × Obj), L[i]? = some q → (L.set i p)[i]? = some p := by
    intro L i p q h
    obtain ⟨hlt, _⟩ := List.getElem?_eq_some_iff.1 h
    simp [hlt]
  have hz : news.toArray.size = m * size := by simpa using hlen
  by_cases hroom : n + m ≤ cap
  · have hfit1 : off + n * size + news.toArray.size ≤ cur.size := by
      have h2 := hs.fit
      have h3 : (n + m) * size ≤ cap * size := Nat.mul_le_mul_right _ hroom
      rw [Nat.add_mul] at h3
      omega
    have hr := run_append_in_src (P := c.P) w t t2 o.type E ii hu.h r1 g off n cap cur (ha.mem.at_ hs.at_) y' m news (by rw [r4]; exact hsr) hroom (by rw [r4]; simpa using hfit1)
    have hr' : (execOp a.eval o).run c.P w = .ok (.value (.slice (some ⟨g, off, none⟩) (n + m) cap)) (w.setRow g (putR cur (off + n * size) news.toArray)) := by
      rw [r4] at hr
      simp [execOp, ho, resolve, invoke, builtin, ha.ev hx, ha.ev hy, hr]
    rw [Oper.semAt_eq _ _ _ (by rw [ho]; intro cc h; cases h), hr']
    have hps := putR_size cur news.toArray (off + n * size) hfit1
    refine ⟨_, ?_, hk g off cap (putR cur (off + n * size) news.toArray) _ (hset _ _ _ _ hs.at_) ⟨hat _ _ _ _ hs.at_, hroom, hs.max, by rw [hps]; exact hs.fit⟩ ?_⟩
    · rw [hdst]
      exact (ha.mem' (ha.mem.setRow hs.at_ _)).put (d := some d) hd _
    · apply Array.ext_getElem?
      intro q
      rw [Array.getElem?_extract, Array.getElem?_append, Array.getElem?_extract, hps]
      have hsz : (cur.extract off (off + n * size)).size = n * size := by simp; omega
      rw [hsz]
      rw [Nat.add_mul]
      by_cases hq : q < n * size
      · rw [if_pos (by omega), if_pos hq, if_pos (by omega), putR_get_out _ _ _ _ hfit1 (by omega)]
      · rw [if_neg hq]
        by_cases hq2 : q < n * size + m * size
        · rw [if_pos (by omega)]
          have := putR_get_in cur news.toArray (off + n * size) (q - n * size) hfit1 (by omega)
          rw [show off + n * size + (q - n * size) = off + q by omega] at this
          exact this
        · rw [if_neg (by omega), Array.getElem?_eq_none (by omega)]
  · have hold := cells_at ha.mem hs.at_ off (n * size)
    have h3 : n * size ≤ cap * size := Nat.mul_le_mul_right _ hs.le
    have hfit0 := hs.fit
    have hsz : (cur.extract off (off + n * size)).size = n * size := by simp; omega
    have hr := run_append_grow_src (P := c.P) w t t2 o.type E ii zz hu.h r1 r2 (some ⟨g, off, none⟩) n cap (cur.extract off (off + n * size)).toList (run_firstCells_some w.drew ii.size n ⟨g, off, none⟩ n cap _ (by rw [Array.length_toList, hsz, r4]) (by simpa using hold)) y' m news (by rw [r4]; exact hsr) (by omega) (by simp only [maxLen] at hmax; omega) (growslice_fits (by omega) (by rw [r5]; exact hby))
    rw [r3] at hr
    obtain ⟨cap', hcap'⟩ : ∃ q, grownCap w (n + m) cap E = q := ⟨_, rfl⟩
    have hge := grownCap_ge w (n + m) cap E
    have hcm := grownCap_le_maxLen w (n + m) cap E hmax
    rw [hcap'] at hr hge hcm
    have e0 : ((cur.extract off (off + n * size)).toList ++ news).toArray = cur.extract off (off + n * size) ++ news.toArray := by apply Array.ext'; simp
    rw [e0] at hr
    have hr' : (execOp a.eval o).run c.P w = .ok (.value (.slice (some ⟨w.heap.size, 0, none⟩) (n + m) cap')) (w.drew.alloc (.cells (cur.extract off (off + n * size) ++ news.toArray ++ Builtin.zeroCells z (cap' - (n + m))) E)) := by
      simp [execOp, ho, resolve, invoke, builtin, ha.ev hx, ha.ev hy, hr]
    rw [Oper.semAt_eq _ _ _ (by rw [ho]; intro cc h; cases h), hr']
    have hN : (cur.extract off (off + n * size) ++ news.toArray).size = (n + m) * size := by rw [Array.size_append, hsz, hz, Nat.add_mul]
    refine ⟨_, ?_, hk w.heap.size 0 cap' (cur.extract off (off + n * size) ++ news.toArray ++ Builtin.zeroCells z (cap' - (n + m))) _ (hset _ _ _ _ hs.at_) ⟨hat _ _ _ _ hs.at_, hge, hcm, ?_⟩ ?_⟩
    · rw [hdst]
      have hm1 := (ha.mem.drew).alloc (.cells (cur.extract off (off + n * size) ++ news.toArray ++ Builtin.zeroCells z (cap' - (n + m))) E)
      have hm2 : Mem c.g (L.set i (w.heap.size, .cells (cur.extract off (off + n * size) ++ news.toArray ++ Builtin.zeroCells z (cap' - (n + m))) E)) _ :=
        (hm1.perm (L' := (w.heap.size, .cells (cur.extract off (off + n * size) ++ news.toArray ++ Builtin.zeroCells z (cap' - (n + m))) E) :: L) (.refl _)).sublist ((List.eraseIdx_sublist L i).cons_cons _) |>.perm (set_perm hs.at_ _)
      exact (ha.mem' hm2).put (d := some d) hd _
    · rw [Array.size_append, hN, size_zeroCells, r6, ← Nat.add_mul]
      have : n + m + (cap' - (n + m)) = cap' := by omega
      rw [this]; omega
    · rw [Nat.zero_add, ← hN]
      exact extract_left _ _
end
end
end Go.Proofs.YtncgndcepoicbaaGreat
namespace Go.Proofs.YtncgndcepoicbaaGreat
open Go.RowKit
theorem wI64 {x : Int} (h1 : -9223372036854775808 ≤ x) (h2 : x < 9223372036854775808) : IntKind.i64.wrap x = x := by
  rw [IntKind.wrap_i64]; omega
section
variable {c : Cx} {s : List (Nat × Value)} {L : List (Nat × Obj)} {o : Oper}
theorem Qt_shr {t t' : TypeId} {x y : Operand} {k k' : IntKind} {a b : Int} (ho : o.op = .binOp .shr t x y t') (hx : ev s x = some (.int k a) := by exact rfl) (hy : ev s y = some (.int k' b) := by exact rfl) (hb : 0 ≤ b := by decide) : Qt c s L o (.int k (a.fdiv (2 ^ (min b.toNat k.bits)))) :=
  Qt_binW ho hx hy (by simp [binW, hb])
theorem Qt_and {t t' : TypeId} {x y : Operand} {k : IntKind} {a b : Int} (ho : o.op = .binOp .and t x y t') (hx : ev s x = some (.int k a) := by exact rfl) (hy : ev s y = some (.int k b) := by exact rfl) : Qt c s L o (.int k (k.wrap (BitVec.ofInt k.bits a &&& BitVec.ofInt k.bits b).toNat)) :=
  Qt_binW ho hx hy (by simp [binW])
end
def bV (u : UInt8) : Value := .int .u8 (u.toNat : Int)
def bstr (l : List UInt8) : ByteArray := ⟨l.toArray⟩
theorem bstr_size (l : List UInt8) : (bstr l).size = l.length := by simp [bstr, ByteArray.size]
theorem bstr_get (l : List UInt8) (i : Nat) (h : i < l.length) : (bstr l)[i]'(by rw [bstr_size]; exact h) = l[i] := by
  simp [bstr, ByteArray.getElem_eq_getElem_data]
section
variable {c : Cx} {s : List (Nat × Value)} {L : List (Nat × Obj)} {o : Oper}
theorem Qt_indexB {t : TypeId} [hu : TUnd c.P t .string] {x y : Operand} {l : List UInt8} {k : IntKind} {i : Int} {u : UInt8} (ho : o.op = .index t x y) (hx : ev s x = some (.string (bstr l)) := by exact rfl) (hy : ev s y = some (.int k i) := by exact rfl)
    (h0 : 0 ≤ i := by first | with_reducible assumption | decide | omega) (h1 : l[i.toNat]? = some u := by first | with_reducible assumption | rfl | (simp; done)) : Qt c s L o (bV u) :=
  Qt_of_run (by simp [ho]) (fun ρ hρ w _ => by
    obtain ⟨hlt, he⟩ := List.getElem?_eq_some_iff.1 h1
    have h3 : 0 ≤ i ∧ i < (bstr l).size := ⟨h0, by rw [bstr_size]; omega⟩
    have h2 := run_index_string (P := c.P) w t (bstr l) k i hu.h
    rw [dif_pos h3, bstr_get l _ hlt, he] at h2
    simp only [execOp, ho, hρ x _ hx, hρ y _ hy, Sem.run_bind, h2, Result.andThen]
    rfl)
end
def Vec (sz : Nat) (L : List (Nat × Obj)) (v : Value) (n : Nat) (xs : List Value) : Prop :=
  xs.length = n * sz ∧ ∃ a cap, v = .slice a n cap ∧ n ≤ cap ∧ cap ≤ maxLen ∧ (n = 0 ∨ ∃ (b off : Nat) (cs : Array Value) (E : TypeId) (fr : Nat × Nat) (i : Nat), a = some ⟨b, off, none⟩ ∧ L[i]? = some (b, Obj.cells cs E fr) ∧ ∀ j x, xs[j]? = some x → cs[off + j]? = some x)
theorem Vec.mono {sz : Nat} {L L' : List (Nat × Obj)} {v : Value} {n : Nat} {xs : List Value} (h : Vec sz L v n xs) (hs : ∀ (i : Nat) (p : Nat × Obj), L[i]? = some p → ∃ j : Nat, L'[j]? = some p) : Vec sz L' v n xs := by
  obtain ⟨h1, a, cap, h2, h3, h4, h5⟩ := h
  refine ⟨h1, a, cap, h2, h3, h4, ?_⟩
  rcases h5 with h5 | ⟨b, off, cs, E, fr, i, e1, e2, e3⟩
  · exact .inl h5
  · obtain ⟨j, hj⟩ := hs i _ e2
    exact .inr ⟨b, off, cs, E, fr, j, e1, hj, e3⟩
theorem Vec.cons {sz : Nat} {L : List (Nat × Obj)} {v : Value} {n : Nat} {xs : List Value} (p : Nat × Obj) (h : Vec sz L v n xs) : Vec sz (p :: L) v n xs := h.mono fun i _ hi => ⟨i + 1, hi⟩
theorem Vec.nil (sz : Nat) (L : List (Nat × Obj)) : Vec sz L (.slice none 0 0) 0 [] := ⟨by simp, none, 0, rfl, by omega, by simp [maxLen], .inl rfl⟩
theorem Vec.shrink {sz : Nat} {L : List (Nat × Obj)} {a : Option Addr} {n cap : Nat} {xs : List Value} (h : Vec sz L (.slice a n cap) n xs) {cap' : Nat} (hc : n ≤ cap') (hm : cap' ≤ cap := by omega) : Vec sz L (.slice a n cap') n xs := by
  obtain ⟨h1, a', c', h2, h3, h4, h5⟩ := h
  simp only [Value.slice.injEq] at h2
  obtain ⟨rfl, _, rfl⟩ := h2
  exact ⟨h1, a, cap', rfl, hc, by omega, h5⟩
theorem Vec.cells {sz : Nat} {L : List (Nat × Obj)} {a : Option Addr} {n n' cap : Nat} {xs : List Value} (h : Vec sz L (.slice a n' cap) n xs) {g w : World} (hm : Mem g L w) : (∃ a', a = some a' ∧ ∀ j x, xs[j]? = some x → w.cell? (a'.add j) = some x) ∨ (n = 0 ∧ xs = []) := by
  obtain ⟨h1, a', cap', h2, h3, h4, h5⟩ := h
  simp only [Value.slice.injEq] at h2
  obtain ⟨rfl, rfl, rfl⟩ := h2
  rcases h5 with h5 | ⟨b, off, cs, E, fr, i, e1, e2, e3⟩
  · right
    subst h5
    exact ⟨rfl, List.eq_nil_of_length_eq_zero (by omega)⟩
  · left
    refine ⟨_, e1, fun j x hj => ?_⟩
    rw [Addr.add_mid, cell_of_row w b (off + j) cs E fr (hm.at_ e2)]
    exact e3 j x hj
theorem Vec.first {P : Program} {sz : Nat} {L : List (Nat × Obj)} {a : Option Addr} {n cap : Nat} {xs : List Value} (h : Vec sz L (.slice a n cap) n xs) {g w : World} (hm : Mem g L w) (cap' : Nat) : (Builtin.firstCells sz n (.slice a n cap')).run P w = .ok xs.toArray w := by
  have hl := h.1
  rcases h.cells hm with ⟨a', rfl, h2⟩ | ⟨rfl, rfl⟩
  · exact run_firstCells_some w sz n a' n cap' xs hl h2
  · cases a with
    | none => exact run_firstCells_none w sz 0 0 cap'
    | some a => exact run_firstCells_some w sz 0 a 0 cap' [] (by simp) (fun j x hj => by simp at hj)
section
variable {c : Cx} {s : List (Nat × Value)} {L : List (Nat × Obj)} {o : Oper}
theorem Qt_slLHM {t E n : Nat} [hu : TUnd c.P t (.slice E)] [hs : TSize c.P E n] {x hi mx : Operand} {a : Option Addr} {len cap : Nat} {k k' : IntKind} {h m : Int} (ho : o.op = .slice t x none (some hi) (some mx)) (hx : ev s x = some (.slice a len cap) := by exact rfl) (hh : ev s hi = some (.int k h) := by exact rfl) (hm : ev s mx = some (.int k' m) := by exact rfl)
    (h0 : 0 ≤ h := by first | with_reducible assumption | decide | omega) (h1 : h ≤ m := by first | with_reducible assumption | exact Int.le_refl _ | omega) (h2 : m ≤ cap := by first | with_reducible assumption | omega) : Qt c s L o (.slice a h.toNat m.toNat) :=
  Qt_of_run (by simp [ho]) (fun ρ hρ w _ => by
    have hut : c.P.underlying t = some (.slice (c.P.elem t)) := by rw [elem_of hu.h]; exact hu.h
    have h3 := run_slice_hm (P := c.P) w t a len cap hut k k' h m h0 h1 h2
    rw [elem_of hu.h, hs.h] at h3
    have h4 := run_sliceAt_slice (P := c.P) w t (.slice a len cap) none (some (.int k h)) (some (.int k' m)) hut
    have h5 : sliced a 0 h.toNat m.toNat n = .slice a h.toNat m.toNat := by
      unfold sliced
      cases a <;> simp [Addr.add]
    simp only [Result.andThen, h5] at h3
    simp [execOp, ho, hρ x _ hx, hρ hi _ hh, hρ mx _ hm, h4, h3])
theorem Qt_slTo {t E n : Nat} [hu : TUnd c.P t (.slice E)] [hs : TSize c.P E n] {x hi : Operand} {a : Option Addr} {len cap : Nat} {k : IntKind} {h : Int} (ho : o.op = .slice t x none (some hi) none) (hx : ev s x = some (.slice a len cap) := by exact rfl) (hh : ev s hi = some (.int k h) := by exact rfl)
    (h0 : 0 ≤ h := by first | with_reducible assumption | decide | omega) (h2 : h ≤ cap := by first | with_reducible assumption | omega) : Qt c s L o (.slice a h.toNat cap) :=
  Qt_of_run (by simp [ho]) (fun ρ hρ w _ => by
    have hut : c.P.underlying t = some (.slice (c.P.elem t)) := by rw [elem_of hu.h]; exact hu.h
    have h3 := run_slice_h (P := c.P) w t a len cap hut k h h0 h2
    rw [elem_of hu.h, hs.h] at h3
    have h4 := run_sliceAt_slice (P := c.P) w t (.slice a len cap) none (some (.int k h)) none hut
    have h5 : sliced a 0 h.toNat cap n = .slice a h.toNat cap := by
      unfold sliced
      cases a <;> simp [Addr.add]
    simp only [Result.andThen, h5] at h3
    simp [execOp, ho, hρ x _ hx, hρ hi _ hh, h4, h3])
theorem Qt_min {t t2 : TypeId} {x y : Operand} {k : IntKind} {a b : Int} (ho : o.op = .call { callee := .builtin .min, args := #[x, y], argTypes := #[t, t2] }) (hx : ev s x = some (.int k a) := by exact rfl) (hy : ev s y = some (.int k b) := by exact rfl) : Qt c s L o (.int k (if b < a then b else a)) :=
  Qt_of_run (by simp [ho]) (fun ρ hρ w _ => by
    simp [execOp, ho, resolve, invoke, builtin, hρ x _ hx, hρ y _ hy, Builtin.min_, Builtin.min2])
theorem Qt_max {t t2 : TypeId} {x y : Operand} {k : IntKind} {a b : Int} (ho : o.op = .call { callee := .builtin .max, args := #[x, y], argTypes := #[t, t2] }) (hx : ev s x = some (.int k a) := by exact rfl) (hy : ev s y = some (.int k b) := by exact rfl) : Qt c s L o (.int k (if b > a then b else a)) :=
  Qt_of_run (by simp [ho]) (fun ρ hρ w _ => by
    simp [execOp, ho, resolve, invoke, builtin, hρ x _ hx, hρ y _ hy, Builtin.max_, Builtin.max2])
end
structure Own (sz : Nat) (cur : Array Value) (off cap n : Nat) (xs : List Value) : Prop where
  len : xs.length = n * sz
  le : n ≤ cap
  max : cap ≤ maxLen
  fit : off + cap * sz ≤ cur.size
  at_ : ∀ j x, xs[j]? = some x → cur[off + j]? = some x
theorem Own.vec {sz : Nat} {cur : Array Value} {off cap n : Nat} {xs : List Value} (h : Own sz cur off cap n xs) {L : List (Nat × Obj)} {b E : Nat} {fr : Nat × Nat} (i : Nat) (hi : L[i]? = some (b, .cells cur E fr)) : Vec sz L (.slice (some ⟨b, off, none⟩) n cap) n xs :=
  ⟨h.len, _, _, rfl, h.le, h.max, .inr ⟨b, off, cur, E, fr, i, rfl, hi, h.at_⟩⟩
theorem Own.extract {sz : Nat} {cur : Array Value} {off cap n : Nat} {xs : List Value} (h : Own sz cur off cap n xs) : cur.extract off (off + n * sz) = xs.toArray := by
  have hl := h.len
  have hf := h.fit
  have hle : n * sz ≤ cap * sz := Nat.mul_le_mul_right _ h.le
  apply Array.ext_getElem?
  intro j
  rw [Array.getElem?_extract]
  by_cases hj : j < n * sz
  · rw [if_pos (by omega)]
    have := h.at_ j (xs[j]'(by omega)) (List.getElem?_eq_getElem (by omega))
    rw [this]; simp [hl, hj]
  · rw [if_neg (by omega)]; simp; omega
theorem Own.of_extract {sz : Nat} {cur : Array Value} {off cap n : Nat} {xs : List Value} (hl : xs.length = n * sz) (hle : n ≤ cap) (hm : cap ≤ maxLen) (hf : off + cap * sz ≤ cur.size) (he : cur.extract off (off + n * sz) = xs.toArray) : Own sz cur off cap n xs := by
  refine ⟨hl, hle, hm, hf, fun j x hx => ?_⟩
  have hj := (List.getElem?_eq_some_iff.1 hx).1
  have hle' : n * sz ≤ cap * sz := Nat.mul_le_mul_right _ hle
  have h1 : (cur.extract off (off + n * sz))[j]? = some x := by rw [he]; simpa using hx
  rw [Array.getElem?_extract, if_pos (by omega)] at h1
  exact h1
def SrcL (c : Cx) (L : List (Nat × Obj)) (sz : Nat) (t2 : TypeId) (y : Value) (m : Nat) (news : List Value) : Prop := ∀ w, Mem c.g L w → Src c.P sz t2 y m news w
theorem srcVec {c : Cx} {L : List (Nat × Obj)} {sz t2 e m : Nat} {y : Value} {news : List Value} [hu : TUnd c.P t2 (.slice e)] (h : Vec sz L y m news) (h1 : ∀ u ∈ news, u.oneCell' = true) : SrcL c L sz t2 y m news := fun w hm => by
  have h' := h
  obtain ⟨hl, a, cap, rfl, _⟩ := h
  rcases Vec.cells h' hm with ⟨a', rfl, h2⟩ | ⟨rfl, rfl⟩
  · exact Src.ofSlice w hu.h a' m cap news hl h2 h1
  · cases a with
    | none => exact Src.ofNil w hu.h cap
    | some a => exact Src.ofSlice w hu.h a 0 cap [] (by simp) (fun j u hj => by simp at hj) (fun u hu => by cases hu)
set_option maxHeartbeats 4000000 in
theorem OW_append_new {c : Cx} {o : Oper} {Kn : St → Prop} {K : Exit → St → Prop} {s : List (Nat × Value)} {D : List Deferred} {L : List (Nat × Obj)} {t t2 E size by_ d : Nat} {z : Array Value} {x y : Operand} [hu : TUnd c.P t (.slice E)] [hrow : TRow c.P E z size by_]
    (ho : o.op = .call { callee := .builtin .append, args := #[x, y], argTypes := #[t, t2] }) (hdst : o.dst = some d) {a : Option Addr} {n cap m : Nat} (hx : ev s x = some (.slice a n cap)) {y' : Value} (hy : ev s y = some y') (hd : Nat.blt d c.N = true) {olds news : List Value} (hv : Vec size L (.slice a n cap) n olds)
    (hs : SrcL c L size t2 y' m news) (hm : cap < n + m) (hmax : n + m ≤ maxLen) (hby : (n + m) * by_ ≤ 140737488355328)
    (hk : ∀ b cap' cur, Own size cur 0 cap' (n + m) (olds ++ news) → Kn ⟨(d, .slice (some ⟨b, 0, none⟩) (n + m) cap') :: s, D, (b, .cells cur E (0, 0)) :: L⟩) : OW c o Kn K ⟨s, D, L⟩ := fun ac w ha => by
  refine ⟨fun _ _ => trivial, ?_⟩
  obtain ⟨ii, zz, r1, r2, r3, r4, r5, r6⟩ := hrow.h
  have hsr := hs w ha.mem
  have hlen := hsr.newsLen
  have hold := hv.first (P := c.P) ha.mem.drew cap
  have hle : n ≤ cap := by obtain ⟨_, a', c', e, h1, _⟩ := hv; cases e; exact h1
  have hr := run_append_grow_src (P := c.P) w t t2 o.type E ii zz hu.h r1 r2 a n cap olds (by rw [r4]; exact hold) y' m news (by rw [r4]; exact hsr) hm (by simp only [maxLen] at hmax; omega) (growslice_fits (by omega) (by rw [r5]; exact hby))
  rw [r3] at hr
  obtain ⟨cap', hcap'⟩ : ∃ q, grownCap w (n + m) cap E = q := ⟨_, rfl⟩
  have hge := grownCap_ge w (n + m) cap E
  have hcm := grownCap_le_maxLen w (n + m) cap E hmax
  rw [hcap'] at hr hge hcm
  have hr' : (execOp ac.eval o).run c.P w = .ok (.value (.slice (some ⟨w.heap.size, 0, none⟩) (n + m) cap')) (w.drew.alloc (.cells ((olds ++ news).toArray ++ Builtin.zeroCells z (cap' - (n + m))) E)) := by
    simp [execOp, ho, resolve, invoke, builtin, ha.ev hx, ha.ev hy, hr]
  rw [Oper.semAt_eq _ _ _ (by rw [ho]; intro cc h; cases h), hr']
  have hol : (olds ++ news).length = (n + m) * size := by rw [List.length_append, hv.1, hlen, Nat.add_mul]
  refine ⟨_, ?_, hk w.heap.size cap' ((olds ++ news).toArray ++ Builtin.zeroCells z (cap' - (n + m))) ⟨hol, hge, hcm, ?_, fun j u hu => ?_⟩⟩
  · rw [hdst]
    exact (ha.mem' ((ha.mem.drew).alloc _)).put (d := some d) hd _
  · rw [Array.size_append, List.size_toArray, hol, size_zeroCells, r6, ← Nat.add_mul]
    have : n + m + (cap' - (n + m)) = cap' := by omega
    rw [this]; omega
  · have hj := (List.getElem?_eq_some_iff.1 hu).1
    rw [Nat.zero_add, Array.getElem?_append_left (by simpa using hj)]
    simpa using hu
theorem OW_append_own {c : Cx} {o : Oper} {Kn : St → Prop} {K : Exit → St → Prop} {s : List (Nat × Value)} {D : List Deferred} {L : List (Nat × Obj)} {t t2 E size by_ d : Nat} {z : Array Value} {x y : Operand} [hu : TUnd c.P t (.slice E)] [hrow : TRow c.P E z size by_]
    (ho : o.op = .call { callee := .builtin .append, args := #[x, y], argTypes := #[t, t2] }) (hdst : o.dst = some d) {g off n cap m : Nat} (hx : ev s x = some (.slice (some ⟨g, off, none⟩) n cap)) {y' : Value} (hy : ev s y = some y') (hd : Nat.blt d c.N = true) {cur : Array Value} {xs news : List Value} (i : Nat) (hi : L[i]? = some (g, .cells cur E (0, 0))) (hv : Own size cur off cap n xs)
    (hs : SrcL c L size t2 y' m news) (hmax : n + m ≤ maxLen) (hby : (n + m) * by_ ≤ 140737488355328)
    (hk : ∀ b off' cap' cur', Own size cur' off' cap' (n + m) (xs ++ news) → Kn ⟨(d, .slice (some ⟨b, off', none⟩) (n + m) cap') :: s, D, L.set i (b, .cells cur' E (0, 0))⟩) : OW c o Kn K ⟨s, D, L⟩ := by
  refine nodup_wlog fun hnd => ?_
  refine OW_append_src (c := c) ho hdst hd hx i ⟨hi, hv.le, hv.max, hv.fit⟩ (m := m) (y' := y') (news := news) hy (fun a w ha => hs w ha.mem) hmax hby fun g' off' cap' cur' L' h1 h2 h3 => ?_
  have h4 := setL_eq h1
  subst h4
  refine hk g' off' cap' cur' (Own.of_extract ?_ h2.le h2.max h2.fit ?_)
  · have : (cur'.extract off' (off' + (n + m) * size)).size = (n + m) * size := by
      have := h2.fit
      have h5 : (n + m) * size ≤ cap' * size := Nat.mul_le_mul_right _ h2.le
      simp; omega
    rw [h3, hv.extract] at this
    simpa using this
  · rw [h3, hv.extract]; simp
section
variable {c : Cx} {ops : Array Oper}
theorem WR_skN {K : Exit → St → Prop} {Ls : List (Nat × Obj)} {m i j dg : Nat} {b : Bool} {og : Oper} {p : Plan} {o : Oper} {s : List (Nat × Value)} {D : List Deferred} {L : List (Nat × Obj)} {d : Nat} (ho : ops[i]? = some o) (h : WR c ops K Ls m p ⟨(d, undef) :: s, D, L⟩) (hg : o.guard = some (j, true) := by exact rfl) (hj : ops[j]? = some og := by exact rfl) (hdg : og.dst = some dg := by exact rfl) (hb : look s dg = some (.bool b) := by exact rfl) (he : b = false := by first | with_reducible assumption | with_reducible rfl | decide)
    (hdst : o.dst = some d := by exact rfl) (hd : Nat.blt d c.N = true := by exact rfl) (hL : ∀ q ∈ Ls, q ∈ L := by first | exact fun _ h => h | exact fun _ h => List.Sublist.subset (by repeat (first | exact .refl _ | exact List.nil_sublist _ | exact List.sublist_append_right _ _ | apply List.Sublist.cons_cons | apply List.Sublist.cons)) h) : WR c ops K Ls m (.must i p) ⟨s, D, L⟩ :=
  WR_opN (σ := ⟨s, D, L⟩) ho hg hj hdg hb (by rw [he]; rfl) (by rw [hdst]; exact hd) hL (by rw [hdst]; exact h)
end
theorem WC_wk {c : Cx} {code : Code} {K : Exit → St → Prop} {s0 : List (Nat × Value)} {D : List Deferred} {L : List (Nat × Obj)} (s : List (Nat × Value)) (hs : SubS s s0) (h : WC c code K ⟨s, D, L⟩) : WC c code K ⟨s0, D, L⟩ := WC_weaken (σ := ⟨s0, D, L⟩) s hs h
theorem arr_get {α : Type} {cs : Array α} {i : Nat} {v : α} (h : cs.toList[i]? = some v) : cs[i]? = some v := by simpa using h
theorem Qt_ld1B {c : Cx} {s : List (Nat × Value)} {L : List (Nat × Obj)} {o : Oper} {t b off : Nat} [TAgg c.P t false] {x : Operand} {cs : Array Value} {E : TypeId} {fr : Nat × Nat} {v : Value} (ho : o.op = .load t x) (hx : ev s x = some (.pointer (some ⟨b, off, none⟩)) := by exact rfl) (hi : ∃ i : Nat, L[i]? = some (b, .cells cs E fr) := by first | exact ⟨0, rfl⟩ | exact ⟨1, rfl⟩ | exact ⟨2, rfl⟩ | exact ⟨3, rfl⟩ | exact ⟨4, rfl⟩ | exact ⟨5, rfl⟩ | exact ⟨6, rfl⟩ | exact ⟨7, rfl⟩ | exact ⟨8, rfl⟩ | exact ⟨9, rfl⟩ | exact ⟨10, rfl⟩ | exact ⟨11, rfl⟩ | exact ⟨12, rfl⟩ | exact ⟨13, rfl⟩ | exact ⟨_, by with_reducible assumption⟩) (hv : cs[off]? = some v := by first | with_reducible assumption | exact arr_get rfl | rfl | assumption) : Qt c s L o v :=
  let ⟨i, h⟩ := hi; Qt_load1 ho hx i h hv
theorem Qt_buildB {c : Cx} {s : List (Nat × Value)} {L : List (Nat × Obj)} {o : Oper} {t : TypeId} {z : Array Value} {pl : List (Nat × Nat)} [hb : TBuild c.P t z pl] {parts : Array (Nat × Operand)} {vs : List (Nat × Value)} {cs : Array Value} (ho : o.op = .build t parts) (hx : evp s parts.toList = some vs := by exact rfl) (hf : Filled pl z vs cs := by repeat (first | exact rfl | refine ⟨_, _, rfl, (by first | with_reducible assumption | rfl | assumption), (by first | exact Nat.le_of_ble_eq_true rfl | omega), ?_⟩)) : Qt c s L o (.agg cs) :=
  Qt_build ho hx hf
end Go.Proofs.YtncgndcepoicbaaGreat
namespace Go.Proofs.YtncgndcepoicbaaGreat
open Go.RowKit
section
variable {c : Cx} {s : List (Nat × Value)} {L : List (Nat × Obj)} {o : Oper}
theorem Qt_eql_ifN {t t' : TypeId} {ms : Array (String × TypeId)} [hu : TUnd c.P t (.interface ms)] {x : Operand} {cv : Value} (ho : o.op = .binOp .eql t x (.const cv) t') (hx : ev s x = some .nilIface := by exact rfl) (hy : cv = .nilIface := by exact rfl) : Qt c s L o (.bool true) :=
  Qt_of_run (by simp [ho]) (fun ρ hρ w _ => by
    subst hy
    obtain ⟨h1, h2⟩ := run_equalIn_iface (P := c.P) w 9999 t hu.h
    have e : (binOp .eql t .nilIface .nilIface).run c.P w = .ok (.bool true) w := by simp only [binOp]; simp [Op.equal, Op.maxDepth, h1]
    simp [execOp, ho, hρ x _ hx, hρ (.const .nilIface) _ rfl, eqGuard, e])
theorem Qt_eql_ifS {t t' u : TypeId} {ms : Array (String × TypeId)} [hu : TUnd c.P t (.interface ms)] {x : Operand} {cv v : Value} (ho : o.op = .binOp .eql t x (.const cv) t') (hx : ev s x = some (.iface u v) := by exact rfl) (hy : cv = .nilIface := by exact rfl) : Qt c s L o (.bool false) :=
  Qt_of_run (by simp [ho]) (fun ρ hρ w _ => by
    subst hy
    obtain ⟨h1, h2⟩ := run_equalIn_iface (P := c.P) w 9999 t hu.h
    have e : (binOp .eql t (.iface u v) .nilIface).run c.P w = .ok (.bool false) w := by simp only [binOp]; simp [Op.equal, Op.maxDepth, (h2 _ _).1]
    simp [execOp, ho, hρ x _ hx, hρ (.const .nilIface) _ rfl, eqGuard, e])
theorem Qt_makeInterface {t : TypeId} {d : TypeDesc} [hu : TUnd c.P t d] {x : Operand} {v : Value} (ho : o.op = .makeInterface t x) (hx : ev s x = some v := by exact rfl) (hd : ∀ ms, d ≠ .interface ms := by intro ms h; cases h) : Qt c s L o (.iface t v) :=
  Qt_of_run (by simp [ho]) (fun ρ hρ w _ => by
    simp only [execOp, ho, hρ x _ hx, Instr.makeInterface, Sem.run_bind, run_underlying hu.h]
    cases d <;> first | rfl | exact absurd rfl (hd _))
theorem Qt_typeAssert {t u : TypeId} {d : TypeDesc} [hu : TUnd c.P t d] {x : Operand} {v : Value} (ho : o.op = .typeAssert x u t true) (hx : ev s x = some (.iface t v) := by exact rfl) (hd : ∀ ms, d ≠ .interface ms := by intro ms h; cases h) : Qt c s L o (.tuple #[v, .bool true]) :=
  Qt_of_run (by simp [ho]) (fun ρ hρ w _ => by
    simp only [execOp, ho, hρ x _ hx, Instr.typeAssert, Sem.run_bind, run_underlying hu.h]
    cases d <;> first | exact absurd rfl (hd _) | simp)
end
theorem Fn_enterD {P : Program} {f : FuncId} {fn : Func} {code : Code} {args : List Value} {L : List (Nat × Obj)} {R : Value → List (Nat × Obj) → Prop} {N : Nat} (hf : P.funcs[f]? = some fn) (hb : fn.body = some code) (hN : fn.ntmps = N) (hl : Nat.ble args.length N = true)
    (h : ∀ g, WC ⟨P, g, N, 0, none⟩ code (postL ⟨P, g, N, 0, none⟩ fn R (fun _ _ => False)) ⟨initS 0 args, [], L⟩) : Fn P f args L R := fun g w hm =>
  (enterL hf hb hN hl h g w hm).mono fun _ _ hE => by
    rcases hE with ⟨v, L', h1, h2, h3⟩ | ⟨v, L', _, _, h3⟩
    · exact ⟨v, L', h1, h2, h3⟩
    · exact h3.elim
section
variable {c : Cx} {o : Oper} {Kn : St → Prop} {K : Exit → St → Prop}
theorem OW_pan {s : List (Nat × Value)} {D : List Deferred} {L : List (Nat × Obj)} {f : FuncId} {args : Array Operand} {tys : Array TypeId} [hf : FCall c.P f] {vs : List Value} {R : Value → List (Nat × Obj) → Prop}
    (ho : o.op = .call { callee := .value (.func f), args := args, argTypes := tys }) (hF : FnP c.P f vs L R) (hk : ∀ v L', R v L' → K (.panic (pan v)) ⟨[], D, L'⟩) (ha : evs s args.toList = some vs := by exact rfl) : OW c o Kn K ⟨s, D, L⟩ :=
  OW_callvP (σ := ⟨s, D, L⟩) (x := .func f) (A := #[]) (B := #[]) ho rfl ha (by simpa using hF) hk
def pK (ops : Array Oper) (s : List (Nat × Value)) (K : Exit → St → Prop) : Exit → St → Prop
  | .panic ch, σ => K (.panic ch) ⟨keepS ops s, σ.D, σ.L⟩
  | e, σ => K e σ
theorem WC_regP {id : Nat} {l : List Oper} {s : List (Nat × Value)} {D : List Deferred} {L : List (Nat × Obj)} (h : WL c l.toArray l (pK l.toArray s K) ⟨s, D, L⟩) : WC c (.region id l.toArray false) K ⟨s, D, L⟩ :=
  WC_regionP (σ := ⟨s, D, L⟩) (fun e σ' he h => by cases e <;> first | exact h | exact absurd rfl (he _)) (fun ch D L h => h) h
theorem WC_drP {ops : Array Oper} {s : List (Nat × Value)} {D : List Deferred} {L : List (Nat × Obj)} {id : Nat} (m : Nat) (p : Plan) (hm : c.P.follows .mixedOrders = true)
    (hok : (Region.noSelect ops && lateOk ops m && planOk ops m p ops.size (Array.replicate ops.size false)) = true) (h : WR c ops (pK ops s K) L m p ⟨s, D, L⟩) : WC c (.region id ops true) K ⟨s, D, L⟩ := fun a w ha => by
  simp only [Bool.and_eq_true] at hok
  have ha' : Holds c.g c.N ⟨s, D, L⟩ a { w with drawn := w.drawn + 1 } := ha.mem' ha.mem.drew
  exact Go.wpIn_mono (wpIn_region_any hm (wpAnyIn_keepS _ _ _ _ (fun _ _ => rfl) (AnyH.any _ _ _ _ (WR_any hok.1.1 hok.1.2 p L ha.mem.nodup _ _ ⟨s, D, L⟩ hok.2 h a _ ha' (fun _ => ha'.mem))))) fun _ _ _ hl =>
    lift_of_panI ha (fun e σ' he h => by cases e <;> first | exact h | exact absurd rfl (he _)) (fun ch D L h => h) hl
theorem OW_def {s : List (Nat × Value)} {D : List Deferred} {L : List (Nat × Obj)} {f : FuncId} {args : Array Operand} {tys : Array TypeId} {vs : List Value} (ho : o.op = .defer { callee := .value (.func f), args := args, argTypes := tys }) (hr : c.r = none := by exact rfl) (hdst : o.dst = none := by exact rfl) (ha : evs s args.toList = some vs := by exact rfl)
    (hk : Kn ⟨s, { target := .fn (.func f) #[], args := vs.toArray } :: D, L⟩) : OW c o Kn K ⟨s, D, L⟩ := by
  refine OW_defer (σ := ⟨s, D, L⟩) (x := .func f) (A := #[]) (B := #[]) hr ho rfl ha (by rw [hdst]; rfl) ?_
  rw [hdst]
  simpa [St.put] using hk
end
theorem LeavS_one {c : Cx} {fn : Func} {s : List (Nat × Value)} {Rr Rp : Value → List (Nat × Obj) → Prop} {f : FuncId} {A : Array Value} {u : FrameMode} {L : List (Nat × Obj)} [hf : FCall c.P f] (hu : u ≠ .run) {Q : FrameMode → List (Nat × Obj) → Prop} (hD : FnD c.P f A.toList L u Q) (hk : ∀ u' L', Q u' L' → LeavS c fn s Rr Rp [] (settle u') L') : LeavS c fn s Rr Rp [{ target := .fn (.func f) #[], args := A }] u L :=
  ⟨hu, .inr ⟨f, A, #[], rfl, hf, fun g w n hm => by
    have h1 := hD g w n hm
    have e : A.toList ++ (#[] : Array Value).toList = A.toList := by simp
    rw [e]
    exact h1.mono fun _ _ _ ⟨v, L', e1, e2, e3⟩ => ⟨v, L', e1, e2, hk _ _ e3⟩⟩⟩
def meetQ (Q : St → Prop) (σ : St) : Prop := ∃ σ', Q σ' ∧ SubS σ'.s σ.s ∧ σ'.D = σ.D ∧ σ'.L.Sublist σ.L
theorem meet_next {c : Cx} {Q : St → Prop} {z : Code} {K : Exit → St → Prop} (hB : ∀ σ, Q σ → WC c z K σ) (e : Exit) (σ : St) (h : thenK (meetQ Q) K e σ) : thenK (WC c z K) K e σ := by
  cases e with
  | normal =>
    obtain ⟨σ', hQ, hs, hD, hL⟩ := h
    exact WC_lessen hs hD hL (hB σ' hQ)
  | _ => exact h
theorem WC_meet {c : Cx} {x z : Code} {K : Exit → St → Prop} {σ : St} (Q : St → Prop) (hA : WC c x (thenK (meetQ Q) K) σ) (hB : ∀ σ, Q σ → WC c z K σ) : WC c x (thenK (WC c z K) K) σ :=
  WC_mono hA (meet_next hB)
theorem WC_meet2 {c : Cx} {x y z : Code} {K : Exit → St → Prop} {σ : St} (Q : St → Prop) (hA : WC c x (thenK (WC c y (thenK (meetQ Q) K)) (thenK (meetQ Q) K)) σ) (hB : ∀ σ, Q σ → WC c z K σ) : WC c x (thenK (WC c y (thenK (WC c z K) K)) (thenK (WC c z K) K)) σ :=
  WC_mono hA fun e σ h => by
    cases e with
    | normal => exact WC_mono h (meet_next hB)
    | _ => exact h
end Go.Proofs.YtncgndcepoicbaaGreat
namespace Go.Proofs.YtncgndcepoicbaaGreat
open Go.RowKit
def Buf (E sz : Nat) (v : Value) (T : List (Nat × Obj)) (n : Nat) (xs : List Value) : Prop :=
  (xs = [] ∧ n = 0 ∧ v = .slice none 0 0 ∧ T = []) ∨ ∃ (g off cap : Nat) (cur : Array Value), v = .slice (some ⟨g, off, none⟩) n cap ∧ T = [(g, .cells cur E (0, 0))] ∧ Own sz cur off cap n xs
theorem Buf.nil (E sz : Nat) : Buf E sz (.slice none 0 0) [] 0 [] := .inl ⟨rfl, rfl, rfl, rfl⟩
theorem Buf.vec {E sz : Nat} {v : Value} {T : List (Nat × Obj)} {n : Nat} {xs : List Value} (h : Buf E sz v T n xs) (A B : List (Nat × Obj)) : Vec sz (A ++ (T ++ B)) v n xs := by
  rcases h with ⟨rfl, rfl, rfl, rfl⟩ | ⟨g, off, cap, cur, rfl, rfl, h⟩
  · exact Vec.nil sz _
  · exact h.vec (E := E) (fr := (0, 0)) A.length (by simp)
theorem Buf.vec0 {E sz : Nat} {v : Value} {T : List (Nat × Obj)} {n : Nat} {xs : List Value} (h : Buf E sz v T n xs) (B : List (Nat × Obj)) : Vec sz (T ++ B) v n xs := h.vec [] B
theorem Buf.len {E sz : Nat} {v : Value} {T : List (Nat × Obj)} {n : Nat} {xs : List Value} (h : Buf E sz v T n xs) : xs.length = n * sz := by
  rcases h with ⟨rfl, rfl, _, _⟩ | ⟨g, off, cap, cur, _, _, h⟩
  · simp
  · exact h.len
theorem Buf.val {E sz : Nat} {v : Value} {T : List (Nat × Obj)} {n : Nat} {xs : List Value} (h : Buf E sz v T n xs) : ∃ a cap, v = .slice a n cap ∧ n ≤ cap ∧ cap ≤ maxLen := by
  rcases h with ⟨rfl, rfl, rfl, _⟩ | ⟨g, off, cap, cur, rfl, _, h⟩
  · exact ⟨_, _, rfl, Nat.le_refl _, by simp [maxLen]⟩
  · exact ⟨_, _, rfl, h.le, h.max⟩
theorem OW.permL {c : Cx} {o : Oper} {Kn : St → Prop} {K : Exit → St → Prop} {σ : St} (h : OW c o (fun σ' => ∃ L2 : List (Nat × Obj), L2.Perm σ'.L ∧ Kn ⟨σ'.s, σ'.D, L2⟩) K σ) : OW c o Kn K σ := fun a w ha =>
  Oper.wpIn_mono (fun _ _ ⟨_, h1, _, h2, h3⟩ => ⟨_, h1.mem' (h1.mem.perm h2), h3⟩) (h a w ha)
theorem OW_append_buf {c : Cx} {o : Oper} {Kn : St → Prop} {K : Exit → St → Prop} {s : List (Nat × Value)} {D : List Deferred} {A T B : List (Nat × Obj)} {t t2 E size by_ d : Nat} {z : Array Value} {x y : Operand} [hu : TUnd c.P t (.slice E)] [hrow : TRow c.P E z size by_]
    (ho : o.op = .call { callee := .builtin .append, args := #[x, y], argTypes := #[t, t2] }) (hdst : o.dst = some d) {v y' : Value} (hx : ev s x = some v) (hy : ev s y = some y') (hd : Nat.blt d c.N = true) {n m : Nat} {xs news : List Value} (hv : Buf E size v T n xs)
    (hs : SrcL c (A ++ (T ++ B)) size t2 y' m news) (hm : 0 < m) (hmax : n + m ≤ maxLen) (hby : (n + m) * by_ ≤ 140737488355328)
    (hk : ∀ v' T', Buf E size v' T' (n + m) (xs ++ news) → Kn ⟨(d, v') :: s, D, A ++ (T' ++ B)⟩) : OW c o Kn K ⟨s, D, A ++ (T ++ B)⟩ := by
  refine OW.permL ?_
  rcases hv with ⟨rfl, rfl, rfl, rfl⟩ | ⟨g, off, cap, cur, rfl, rfl, h⟩
  · refine OW_append_new ho hdst hx hy hd (Vec.nil size _) hs (by omega) hmax hby fun b cap' cur' h' => ?_
    refine ⟨A ++ ([(b, .cells cur' E (0, 0))] ++ B), ?_, hk _ _ (.inr ⟨b, 0, cap', cur', rfl, rfl, h'⟩)⟩
    simp only [List.nil_append, List.singleton_append]
    exact List.perm_middle
  · have hi : (A ++ ([(g, Obj.cells cur E (0, 0))] ++ B))[A.length]? = some (g, .cells cur E (0, 0)) := by simp
    refine OW_append_own ho hdst hx hy hd A.length hi h hs hmax hby fun b off' cap' cur' h' => ?_
    refine ⟨_, .refl _, ?_⟩
    have e : (A ++ ([(g, Obj.cells cur E (0, 0))] ++ B)).set A.length (b, .cells cur' E (0, 0)) = A ++ ([(b, .cells cur' E (0, 0))] ++ B) := by simp
    simp only [e]
    exact hk _ _ (.inr ⟨b, off', cap', cur', rfl, rfl, h'⟩)
theorem src1 {c : Cx} {L : List (Nat × Obj)} {t2 e b E : Nat} {u : Value} [hu : TUnd c.P t2 (.slice e)] (i : Nat) (hi : L[i]? = some (b, .cells #[u] E (0, 0))) (h1 : u.oneCell' = true := by rfl) : SrcL c L 1 t2 (.slice (some ⟨b, 0, none⟩) 1 1) 1 [u] :=
  srcVec ⟨rfl, _, _, rfl, Nat.le_refl _, by decide, .inr ⟨_, _, _, _, _, i, rfl, hi, fun j x hx => by
    cases j with
    | zero => simpa using hx
    | succ j => simp at hx⟩⟩ (by intro v hv; simp at hv; subst hv; exact h1)
theorem WC_dropL {c : Cx} {code : Code} {K : Exit → St → Prop} {s : List (Nat × Value)} {D : List Deferred} {L : List (Nat × Obj)} (L' : List (Nat × Obj)) (hs : L'.Sublist L) (h : WC c code K ⟨s, D, L'⟩) : WC c code K ⟨s, D, L⟩ := WC_drop (σ := ⟨s, D, L⟩) hs h
end Go.Proofs.YtncgndcepoicbaaGreat
namespace Go.Proofs.YtncgndcepoicbaaGreat
open Go.RowKit
theorem QW_a {c : Cx} {s : List (Nat × Value)} {L : List (Nat × Obj)} {o : Oper} {κ : Value → Prop} {v : Value} (hk : κ v) (h : Qt c s L o v := by first
    | exact Qt_move rfl | exact Qt_assign rfl | exact Qt_nilCheck rfl | exact Qt_fieldAddr0 rfl | exact Qt_fieldAddr rfl | exact Qt_ld1B rfl | exact Qt_extract rfl
    | exact Qt_lenB rfl | exact Qt_lenSl rfl | exact Qt_eqlStr rfl | exact Qt_neqStr rfl | exact Qt_geqStr rfl | exact Qt_cat rfl | exact Qt_bin rfl | exact Qt_pick_true rfl | exact Qt_pick_false rfl | exact Qt_not rfl
    | exact Qt_indexArr0 rfl | exact Qt_indexSl0 rfl | exact Qt_indexArr rfl | exact Qt_indexSl rfl | exact Qt_convInt rfl | exact Qt_ldA rfl | exact Qt_ldN rfl
    | exact Qt_eql_nilS rfl | exact Qt_eql_nilN rfl | exact Qt_neq_nilS rfl | exact Qt_neq_nilN rfl | exact Qt_eql_ifN rfl | exact Qt_eql_ifS rfl | exact Qt_neq_ifN rfl | exact Qt_neq_ifS rfl | exact Qt_eql_bool rfl | exact Qt_neq_bool rfl
    | exact Qt_rem rfl | exact Qt_quo rfl | exact Qt_shl rfl | exact Qt_shr rfl | exact Qt_and rfl | exact Qt_or rfl | exact Qt_xor rfl | exact Qt_neg rfl | exact Qt_min rfl | exact Qt_max rfl
    | exact Qt_cutB rfl | exact Qt_cutToB rfl | exact Qt_cutFromB rfl | exact Qt_indexB rfl | exact Qt_arrFrom rfl | exact Qt_sliceL rfl | exact Qt_slTo rfl | exact Qt_slLHM rfl
    | exact Qt_str1 rfl | exact Qt_str rfl (hv := own_by0 (by with_reducible assumption)) | exact Qt_str rfl | exact Qt_buildB rfl | exact Qt_makeFunc rfl | exact Qt_makeInterface rfl | exact Qt_typeAssert rfl | exact Qt_nilCheck_fn rfl) : QW c s L o κ := ⟨v, h, hk⟩
theorem sub_mem {A B : List (Nat × Obj)} (h : A.Sublist B) : ∀ q ∈ A, q ∈ B := fun _ hq => h.subset hq
theorem RQ {P G : Prop} (h : G) (s : G → P := by first | exact fun h => WL_Q (QW_a h) | exact fun h => WL_Y (QW_a h)) : P := s h
theorem OE {P G : Prop} (h : G) (s : G → P := by first | exact fun h => OW_alloc rfl (hk := h) | exact fun h => OW_box rfl (hk := h) | exact fun h => OW_st1 rfl h | exact fun h => OW_stA rfl h | exact fun h => OW_stN rfl h | exact fun h => OW_build0 rfl (hk := h) | exact fun h => OW_build1 rfl (hk := h)) : P := s h
theorem RE {P G : Prop} (h : G) (s : G → P := by first | exact fun h => WL_op rfl (OE h) | exact fun h => WL_yes (h := OE h)) : P := s h
theorem RC {P G : Prop} (h : G) (s : G → P := by first | exact WL_nil | exact fun h => WL_un (h := h) | exact fun h => WL_N h | exact fun h => WL_M h | exact WC_seq | exact WC_block | exact fun h => WC_cond_t (ht := h) | exact fun h => WC_cond_f (he := h) | exact WC_skip | exact WC_ret | exact WC_exit) : P := s h
theorem RC0 {P G : Prop} (h : G) (s : G → P := by first | exact WL_nil | exact fun h => WL_un (h := h) | exact fun h => WL_N h | exact fun h => WL_M h | exact WC_seq | exact fun h => WC_cond_t (ht := h) | exact fun h => WC_cond_f (he := h) | exact WC_skip | exact WC_ret | exact WC_exit) : P := s h
theorem RQr {P G : Prop} (h : G) (s : G → P := by first | exact fun h => WL_Q (QW_a h) | exact fun h => WL_Y (QW_a h) | exact fun h => WR_Q rfl (QW_a h) | exact fun h => WR_late rfl rfl rfl (OW_Q (QW_a h)) | exact fun h => WR_Y rfl (QW_a h)) : P := s h
theorem RX {P G : Prop} (h : G) (s : G → P := by first | exact WL_Q | exact fun h => WR_Q rfl h | exact fun h => WR_late rfl rfl rfl (OW_Q h)) : P := s h
theorem OX {P G : Prop} (h : G) (s : G → P := by first | exact fun h => WL_op rfl h | exact fun h => WR_late rfl rfl rfl h | exact fun h => WR_opG rfl rfl h) : P := s h
theorem WG (id : Nat) {c : Cx} {l : List Oper} {K : Exit → St → Prop} {σ : St} (h : WL c l.toArray l K σ) : WC c (.region id l.toArray false) K σ := WC_region h
theorem RU {P G : Prop} (h : G) (s : G → P := by first | exact WR_nil | exact fun h => WR_un rfl (hk := h) | exact fun h => WR_N rfl h | exact fun h => WR_M rfl h | exact fun h => WR_skN rfl (h := h) | exact fun h => WR_skM rfl (h := h) | exact fun h => WR_skU rfl (h := h)) : P := s h
theorem SD {A B : List (Nat × Obj)} {G : Prop} (h : G) (s : ∀ q ∈ A, q ∈ B := by first | exact fun _ h => h | exact sub_mem (by repeat (first | exact .refl _ | exact List.nil_sublist _ | exact List.sublist_append_right _ _ | exact List.Sublist.append (.refl _) (List.sublist_append_right _ _) | apply List.Sublist.cons_cons | apply List.Sublist.cons))) : (∀ q ∈ A, q ∈ B) ∧ G := ⟨s, h⟩
theorem WC_regB {c : Cx} (n : Nat) {id : Nat} {l : List Oper} {K : Exit → St → Prop} {σ : St} (h : WL c l.toArray l K σ) (_hb : Nat.blt id n = true := by exact rfl) : WC c (.region id l.toArray false) K σ := WC_region h
end Go.Proofs.YtncgndcepoicbaaGreat
namespace Go.Proofs.YtncgndcepoicbaaGreat
open Go.RowKit
def FnE (P : Program) (f : FuncId) (args : List Value) (L : List (Nat × Obj)) (Rr Rp : Value → List (Nat × Obj) → Prop) : Prop := ∀ g w, Mem g L w → Calls P f args.toArray w (EndR g Rr Rp)
theorem EndR.mono {g : World} {Rr Rp Rr' Rp' : Value → List (Nat × Obj) → Prop} (h1 : ∀ v L, Rr v L → Rr' v L) (h2 : ∀ v L, Rp v L → Rp' v L) {e : Ending} {w : World} (h : EndR g Rr Rp e w) : EndR g Rr' Rp' e w := by
  rcases h with ⟨v, L, a, b, c⟩ | ⟨v, L, a, b, c⟩
  · exact .inl ⟨v, L, a, b, h1 v L c⟩
  · exact .inr ⟨v, L, a, b, h2 v L c⟩
theorem FnE.mono {P : Program} {f : FuncId} {args : List Value} {L : List (Nat × Obj)} {Rr Rp Rr' Rp' : Value → List (Nat × Obj) → Prop} (h : FnE P f args L Rr Rp) (h1 : ∀ v L, Rr v L → Rr' v L) (h2 : ∀ v L, Rp v L → Rp' v L) : FnE P f args L Rr' Rp' :=
  fun g w hm => (h g w hm).mono fun _ _ hE => hE.mono h1 h2
theorem FnE.toFnP {P : Program} {f : FuncId} {args : List Value} {L : List (Nat × Obj)} {Rr Rp : Value → List (Nat × Obj) → Prop} (h : FnE P f args L Rr Rp) (hn : ∀ v L', ¬ Rr v L') : FnP P f args L Rp :=
  fun g w hm => (h g w hm).mono fun _ _ hE => by
    rcases hE with ⟨v, L', _, _, c⟩ | ⟨v, L', a, b, c⟩
    · exact (hn v L' c).elim
    · exact ⟨v, L', a, b, c⟩
theorem FnE_enter {P : Program} {f : FuncId} {fn : Func} {code : Code} {args : List Value} {L : List (Nat × Obj)} {Rr Rp : Value → List (Nat × Obj) → Prop} {N : Nat} (hf : P.funcs[f]? = some fn) (hb : fn.body = some code) (hN : fn.ntmps = N) (hl : Nat.ble args.length N = true)
    (h : ∀ g, WC ⟨P, g, N, 0, none⟩ code (postL ⟨P, g, N, 0, none⟩ fn Rr Rp) ⟨initS 0 args, [], L⟩) : FnE P f args L Rr Rp := enterL hf hb hN hl h
section
variable {c : Cx} {o : Oper} {Kn : St → Prop} {K : Exit → St → Prop} {σ : St}
theorem OW_enterE {f : FuncId} {vs : List Value} {Rr Rp : Value → List (Nat × Obj) → Prop} (hnd : ∀ cc, o.op ≠ .defer cc) (hr : ∀ a w, Holds c.g c.N σ a w → (execOp a.eval o).run c.P w = .ok (.enter f vs.toArray) w) (hd : dok c.N o.dst = true)
    (hF : FnE c.P f vs σ.L Rr Rp) (hk : ∀ v L', Rr v L' → Kn (St.put ⟨σ.s, σ.D, L'⟩ o.dst v)) (hp : ∀ v L', Rp v L' → K (.panic (pan v)) ⟨[], σ.D, L'⟩) : OW c o Kn K σ := fun a w hH => by
  refine ⟨fun _ _ => trivial, ?_⟩
  rw [Oper.semAt_eq _ _ _ hnd, hr a w hH]
  refine ⟨fun h => by simp at h, (callsIn_fw c.r _ (hF c.g w hH.mem)).mono fun e w' hE => ?_⟩
  rcases hE with ⟨v, L', h1, h2, h3⟩ | ⟨v, L', h1, h2, h3⟩
  · subst h1
    exact ⟨_, (hH.mem' h2).put hd v, hk v L' h3⟩
  · subst h1
    exact ⟨σ.D, L', ⟨hH.size, (fun t u hu => by cases hu), hH.defers, h2⟩, hp v L' h3⟩
theorem call_run {f : FuncId} {x : Operand} {A B : Array Value} {args : Array Operand} {tys : Array TypeId} [hf : FCall c.P f] {vs : List Value} (ho : o.op = .call { callee := .value x, args := args, argTypes := tys }) (hx : ev σ.s x = some (.func (.func f) A B)) (ha : evs σ.s args.toList = some vs) (a : Act) (w : World) (hH : Holds c.g c.N σ a w) :
    (execOp a.eval o).run c.P w = .ok (.enter f (A.toList ++ vs ++ B.toList).toArray) w := by
  have hargs : args.map a.eval = vs.toArray := by
    apply Array.ext'
    simpa using hH.evs ha
  have e : (A.toList ++ vs ++ B.toList).toArray = A ++ vs.toArray ++ B := by apply Array.ext'; simp
  rw [e]
  simp [execOp, ho, resolve, Deferred.ofValue, hH.ev hx, hargs, invoke, hf.h]
end
end Go.Proofs.YtncgndcepoicbaaGreat
namespace Go.Proofs.YtncgndcepoicbaaGreat
open Go.RowKit
theorem part1 {P : Program} {t : TypeId} [ha : TAgg P t false] {xs : Array Value} {off : Nat} {v : Value} (h : xs[off]? = some v) (w : World) : (part t xs off).run P w = .ok v w := by
  simp [part, ha.h, h]
theorem partN {P : Program} {t n : Nat} [ha : TAgg P t true] [hs : TSize P t n] {xs : Array Value} {off : Nat} (w : World) : (part t xs off).run P w = .ok (.agg (xs.extract off (off + n))) w := by
  simp [part, ha.h, hs.h]
section
variable {c : Cx} {s : List (Nat × Value)} {L : List (Nat × Obj)} {o : Oper}
theorem Qt_fieldV {t i off ft n : Nat} [hf : TFld c.P t i off ft n] [ha : TAgg c.P ft false] {x : Operand} {cs : Array Value} {v : Value} (ho : o.op = .field t x i) (hx : ev s x = some (.agg cs) := by exact rfl) (hv : cs[off]? = some v := by first | with_reducible assumption | rfl | assumption) : Qt c s L o v :=
  Qt_of_run (by simp [ho]) (fun ρ hρ w _ => by
    obtain ⟨fs, f, h1, h2, h3, h4, h5, h6⟩ := hf.h
    subst h3 h4
    have h := part1 (P := c.P) (t := f.type) (xs := cs) (off := f.offset) hv w
    simp [execOp, ho, hρ x _ hx, Instr.field, run_underlying h1, h2, asAgg, h])
end
end Go.Proofs.YtncgndcepoicbaaGreat
