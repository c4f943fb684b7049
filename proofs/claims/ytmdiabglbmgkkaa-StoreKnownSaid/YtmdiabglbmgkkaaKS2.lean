/-
  A part of what the last of these texts needs; by itself it proves no statement.
-/
import Derived.WalkSpells
import Derived.MapKept
import Derived.Laws.StructEq
import Derived.Laws.IdiomStrings
import Derived.Great.BuildSlice
import Derived.Laws.MakeOwn
import Derived.Deep.Upon
import Derived.LoopNIn
import Derived.Maps.RangeRun
import Derived.Test.YtmdiabglbmgkkaaRows
import Derived.Test.YtmdiabglbmgkkaaKS1
namespace Go.Proofs.Ytmdiabglbmgkkaa
open Go.RowKit
noncomputable section
section
variable {P : Program}
def sizeX (P : Program) (t : TypeId) : Option Nat := match P.info? t with
  | some i => some i.size
  | none => none
theorem sizeX_ok {t n : Nat} (h : sizeX P t = some n) : TSize P t n := ⟨fun w => by
  unfold sizeX at h
  split at h
  · rename_i i hi; cases h; simp [sizeOf, typeInfo, hi]
  · cases h⟩
def aggX (P : Program) (t : TypeId) : Option Bool := match P.underlying t with
  | some (.struct _) => some true
  | some (.array _ _) => some true
  | some _ => some false
  | none => none
theorem aggX_ok {t : Nat} {b : Bool} (h : aggX P t = some b) : TAgg P t b := ⟨fun w => by
  unfold aggX at h
  split at h
  · rename_i hu; cases h; simp [isAgg, run_underlying hu]
  · rename_i hu; cases h; simp [isAgg, run_underlying hu]
  · rename_i d h1 h2 hu
    cases h
    simp only [isAgg, Sem.run_bind, run_underlying hu]
    cases d <;> first | rfl | exact absurd rfl (h1 _) | exact absurd rfl (h2 _ _)
  · cases h⟩
def fieldX (P : Program) (t i : Nat) : Option (Nat × TypeId × Nat) := match P.underlying t with
  | some (.struct fs) => match fs.toList[i]? with
    | some f => match sizeX P f.type with
      | some n => some (f.offset, f.type, n)
      | none => none
    | none => none
  | _ => none
def V.scal : V → Option Value
  | .int k n => some (.int k n)
  | .bool b => some (.bool b)
  | .str s => some (.string s)
  | _ => none
theorem V.scal_ok {bs : Bs} {v : V} {v' u : Value} (h : RV bs v v') (hs : v.scal = some u) : v' = u := by
  cases h <;> cases hs <;> rfl
def binW (P : Program) (op : BinOp) (t : TypeId) (x y : Value) : Option Value :=
  match x, y with
  | .int k a, .int k' b =>
    match op with
    | .shl => if 0 ≤ b then some (.int k (k.wrap (a * 2 ^ (min b.toNat k.bits)))) else none
    | .shr => if 0 ≤ b then some (.int k (a.fdiv (2 ^ (min b.toNat k.bits)))) else none
    | _ => if k = k' then
      match op with
      | .add => some (.int k (k.wrap (a + b)))
      | .sub => some (.int k (k.wrap (a - b)))
      | .mul => some (.int k (k.wrap (a * b)))
      | .quo => if b = 0 then none else some (.int k (k.wrap (a.tdiv b)))
      | .rem => if b = 0 then none else some (.int k (a.tmod b))
      | .and => some (.int k (k.wrap (BitVec.ofInt k.bits a &&& BitVec.ofInt k.bits b).toNat))
      | .or => some (.int k (k.wrap (BitVec.ofInt k.bits a ||| BitVec.ofInt k.bits b).toNat))
      | .xor => some (.int k (k.wrap (BitVec.ofInt k.bits a ^^^ BitVec.ofInt k.bits b).toNat))
      | .andNot => some (.int k (k.wrap (BitVec.ofInt k.bits a &&& ~~~(BitVec.ofInt k.bits b)).toNat))
      | .eql => some (.bool (a == b))
      | .neq => some (.bool (a != b))
      | .lss => some (.bool (decide (a < b)))
      | .leq => some (.bool (decide (a ≤ b)))
      | .gtr => some (.bool (decide (a > b)))
      | .geq => some (.bool (decide (a ≥ b)))
      | _ => none
      else none
  | .bool a, .bool b => match P.underlying t with
    | some .bool => match op with
      | .eql => some (.bool (a == b))
      | .neq => some (.bool (a != b))
      | _ => none
    | _ => none
  | .string a, .string b => match op with
    | .add => if ((a.size + b.size : Nat) : Int) > IntKind.i64.max then none else some (.string (a ++ b))
    | .eql => some (.bool (a.toList == b.toList))
    | .neq => some (.bool !(a.toList == b.toList))
    | .lss => some (.bool (Op.bytesLess a.toList b.toList))
    | .geq => some (.bool !(Op.bytesLess a.toList b.toList))
    | .leq => some (.bool (Op.bytesLess a.toList b.toList || a.toList == b.toList))
    | .gtr => some (.bool !(Op.bytesLess a.toList b.toList || a.toList == b.toList))
    | _ => none
  | _, _ => none
theorem binW_run {op : BinOp} {t : TypeId} {x y v : Value} (X Y : Operand) (h : binW P op t x y = some v) (w : World) : (eqGuard op t X Y x y).run P w = .ok () w ∧ (binOp op t x y).run P w = .ok v w := by
  unfold binW at h
  split at h
  · rename_i k a k' b
    split at h
    · split at h
      · rename_i hb; cases h
        simp [eqGuard, binOp, Op.shift, show ¬ b < 0 by omega]
      · cases h
    · split at h
      · rename_i hb; cases h
        simp [eqGuard, binOp, Op.shift, show ¬ b < 0 by omega]
      · cases h
    · split at h
      · rename_i h1 h2 hk
        subst hk
        split at h
        all_goals first
          | (cases h; done)
          | (cases h; simp [eqGuard, binOp, Op.intArith, Op.intCmp, Op.intBits]; done)
          | (split at h
             · cases h
             · rename_i hb; cases h; simp [eqGuard, binOp, Op.intDiv, hb])
      · cases h
  · rename_i a b
    split at h
    · rename_i hu
      split at h
      · cases h; simp [eqGuard, run_eql_bool w t a b hu]
      · cases h; simp [eqGuard, run_neq_bool w t a b hu, bne]
      · cases h
    · cases h
  · split at h
    all_goals first
      | (cases h; done)
      | (cases h; simp [eqGuard, binOp, Op.stringOp]; done)
      | (split at h
         · cases h
         · rename_i hb; cases h; rw [show IntKind.i64.max = 9223372036854775807 from rfl] at hb; simp [eqGuard, binOp, Op.stringOp]; omega)
  · cases h
end
section
variable {c : Cx} {s : List (Nat × Value)} {L : List (Nat × Obj)} {o : Oper}
theorem Qt_binW {op : BinOp} {t t' : TypeId} {x y : Operand} {a b v : Value} (ho : o.op = .binOp op t x y t') (hx : ev s x = some a) (hy : ev s y = some b) (hv : binW c.P op t a b = some v) : Qt c s L o v :=
  ⟨(fun cc => by simp [ho]), fun ρ hρ w _ => by
    obtain ⟨h1, h2⟩ := binW_run (P := c.P) (t := t) x y hv w
    simp [execOp, ho, hρ x _ hx, hρ y _ hy, h1, h2]⟩
theorem Qt_of_run {v : Value} (hd : ∀ cc, o.op ≠ .defer cc) (h : ∀ ρ : Operand → Value, (∀ x u, ev s x = some u → ρ x = u) → ∀ w, Mem c.g L w → (execOp ρ o).run c.P w = .ok (.value v) w) : Qt c s L o v := ⟨hd, h⟩
end
section
variable {c : Cx} {bs : Bs} {σs : List (Nat × Value)} {Ls : List (Nat × Obj)} {o : Oper}
def partX (P : Program) (ft off n : Nat) (l : List V) : Option V := match aggX P ft with
  | some true => some (.agg ((l.drop off).take n))
  | some false => l[off]?
  | none => none
theorem part_run {P : Program} {ft off n : Nat} {l : List V} {l' : List Value} {v : V} (h : partX P ft off n l = some v) (hn : ∀ w, (sizeOf ft).run P w = .ok n w) (hl : RVs bs l l') : ∃ v', (∀ w, (part ft l'.toArray off).run P w = .ok v' w) ∧ RV bs v v' := by
  unfold partX at h
  split at h
  · rename_i ha
    cases h
    refine ⟨.agg ((l'.drop off).take n).toArray, fun w => ?_, .agg ((hl.drop off).take n)⟩
    have := (aggX_ok ha).h w
    simp [part, this, hn]
  · rename_i ha
    obtain ⟨v', h1, h2⟩ := hl.get h
    refine ⟨v', fun w => ?_, h2⟩
    have := (aggX_ok ha).h w
    simp [part, this, h1]
  · cases h
end
end
end Go.Proofs.Ytmdiabglbmgkkaa
namespace Go.Proofs.Ytmdiabglbmgkkaa
open Go.RowKit
noncomputable section
section
variable {c : Cx} {bs : Bs} {σs : List (Nat × Value)} {Ls : List (Nat × Obj)} {o : Oper}
def nilT (P : Program) (t : TypeId) (x y : V) : Option Bool :=
  match x, y with
  | .ptrN, .ptrN => (match P.underlying t with | some (.pointer _) => some true | _ => none)
  | .ptr _ _, .ptrN => (match P.underlying t with | some (.pointer _) => some false | _ => none)
  | .slN, .slN => (match P.underlying t with | some (.slice _) => some true | _ => none)
  | .sl _ _ _ _ _, .slN => (match P.underlying t with | some (.slice _) => some false | _ => none)
  | .nilf, .nilf => (match P.underlying t with | some (.func _ _ _) => some true | _ => none)
  | .fn _ _ _, .nilf => (match P.underlying t with | some (.func _ _ _) => some false | _ => none)
  | .mapN, .mapN => (match P.underlying t with | some (.map _ _) => some true | _ => none)
  | .map _, .mapN => (match P.underlying t with | some (.map _ _) => some false | _ => none)
  | _, _ => none
def eqFs (rec : TypeId → V → V → Option Bool) (P : Program) (xs ys : List V) : List Field → Option Bool
  | [] => some true
  | f :: r => match decide (f.name = "_") with
    | true => eqFs rec P xs ys r
    | false => match sizeX P f.type with
      | some n => match partX P f.type f.offset n xs, partX P f.type f.offset n ys with
        | some a, some b => match rec f.type a b with
          | some true => eqFs rec P xs ys r
          | some false => some false
          | none => none
        | _, _ => none
      | none => none
def eqEs (rec : TypeId → V → V → Option Bool) (P : Program) (e n : Nat) (xs ys : List V) : List Nat → Option Bool
  | [] => some true
  | i :: r => match partX P e (Nat.mul i n) n xs, partX P e (Nat.mul i n) n ys with
    | some a, some b => match rec e a b with
      | some true => eqEs rec P e n xs ys r
      | some false => some false
      | none => none
    | _, _ => none
def eqX (P : Program) : Nat → TypeId → V → V → Option Bool
  | 0, _, _, _ => none
  | d + 1, t, x, y => match x, y with
    | .int k a, .int k' b => match P.underlying t, decide (k = k') with
      | some (.int _), true => some (a == b)
      | _, _ => none
    | .bool a, .bool b => match P.underlying t with
      | some .bool => some (a == b)
      | _ => none
    | .str a, .str b => match P.underlying t with
      | some .string => some (a.toList == b.toList)
      | _ => none
    | .agg xs, .agg ys => match P.underlying t with
      | some (.struct fs) => match P.stoodInHeld t with
        | false => eqFs (eqX P d) P xs ys fs.toList
        | true => none
      | some (.array n e) => match sizeX P e with
        | some sz => eqEs (eqX P d) P e sz xs ys (List.range' 0 n 1)
        | none => none
      | _ => none
    | _, _ => none
theorem eqX_ok {P : Program} : ∀ (d : Nat) {t : TypeId} {x y : V} {x' y' : Value} {b : Bool}, eqX P d t x y = some b → RV bs x x' → RV bs y y' → ∀ (q : Nat) (w : World), (Op.equalIn (d + q) t x' y').run P w = .ok b w
  | 0, _, _, _, _, _, _, h, _, _ => by cases h
  | d + 1, t, x, y, x', y', b, h, hx, hy => fun q w => by
    have ih := fun {t x y x' y' b} (h : eqX P d t x y = some b) (hx : RV bs x x') (hy : RV bs y y') (w : World) => eqX_ok d h hx hy q w
    rw [show d + 1 + q = (d + q) + 1 by omega]
    simp only [eqX] at h
    split at h
    · split at h
      · rename_i hu hk
        cases h; cases hx; cases hy
        obtain rfl := of_decide_eq_true hk
        exact run_equalIn_int w _ t _ _ _ _ hu
      · cases h
    · split at h
      · rename_i hu
        cases h; cases hx; cases hy
        exact run_equalIn_bool' w _ t _ _ hu
      · cases h
    · split at h
      · rename_i hu
        cases h; cases hx; cases hy
        exact run_equalIn_string w _ t _ _ hu
      · cases h
    · rename_i xs ys
      cases hx; cases hy
      rename_i xs' hxs ys' hys
      split at h
      · rename_i fs hu
        split at h
        · rename_i hst
          have hfo : P.fieldsOf t = fs := by simp [Program.fieldsOf, hu]
          rw [run_equalIn_struct w (d + q) t _ _ (by rw [hfo]; exact hu) hst, hfo]
          generalize fs.toList = l at h
          clear hu hfo
          induction l generalizing w with
          | nil => cases h; simp [Op.eqFields]
          | cons f r ihl =>
            simp only [eqFs] at h
            simp only [Op.eqFields]
            split at h
            · rename_i hn
              have hn := of_decide_eq_true hn
              rw [if_neg (by simp [hn])]
              exact ihl w h
            · rename_i hn
              have hn := of_decide_eq_false hn
              rw [if_pos hn]
              split at h
              · rename_i n hsz
                split at h
                · rename_i a b ha hb
                  obtain ⟨a', a1, a2⟩ := part_run ha (sizeX_ok hsz).h hxs
                  obtain ⟨b', b1, b2⟩ := part_run hb (sizeX_ok hsz).h hys
                  split at h
                  · rename_i he
                    have := ih he a2 b2 w
                    simp only [Sem.run_bind, a1, b1, Result.andThen_ok, this, Bool.not_true, Bool.false_eq_true, if_false]
                    exact ihl w h
                  · rename_i he
                    cases h
                    have := ih he a2 b2 w
                    simp [a1, b1, this]
                  · cases h
                · cases h
              · cases h
        · cases h
      · rename_i n e hu
        split at h
        · rename_i sz hsz
          rw [Op.equalIn]
          simp only [Sem.run_bind, run_underlying hu, Result.andThen_ok, (sizeX_ok hsz).h, Std.Legacy.Range.forIn_eq_forIn_range', Std.Legacy.Range.size, Nat.sub_zero, Nat.add_sub_cancel, Nat.div_one]
          generalize List.range' 0 n 1 = l at h ⊢
          clear hu
          induction l generalizing w with
          | nil => cases h; simp
          | cons i r ihl =>
            simp only [eqEs] at h
            split at h
            · rename_i a b ha hb
              obtain ⟨a', a1, a2⟩ := part_run ha (sizeX_ok hsz).h hxs
              obtain ⟨b', b1, b2⟩ := part_run hb (sizeX_ok hsz).h hys
              have a1' : ∀ w, (part e xs'.toArray (i * sz)).run P w = .ok a' w := a1
              have b1' : ∀ w, (part e ys'.toArray (i * sz)).run P w = .ok b' w := b1
              split at h
              · rename_i he
                have := ih he a2 b2 w
                simp only [List.forIn_cons, Sem.run_bind, a1', b1', Result.andThen_ok, this, Bool.not_true, Bool.false_eq_true, if_false, Sem.run_pure]
                exact ihl w h
              · rename_i he
                cases h
                have := ih he a2 b2 w
                simp [List.forIn_cons, a1', b1', this]
              · cases h
            · cases h
        · cases h
      · cases h
    · cases h
end
mutual
def V.val : V → Option Value
  | .int k n => some (.int k n)
  | .bool b => some (.bool b)
  | .str s => some (.string s)
  | .agg l => match V.valL l with
    | some l' => some (.agg l'.toArray)
    | none => none
  | _ => none
def V.valL : List V → Option (List Value)
  | [] => some []
  | v :: r => match V.val v, V.valL r with
    | some u, some l => some (u :: l)
    | _, _ => none
end
mutual
theorem V.val_ok {bs : Bs} : ∀ {v : V} {v' u : Value}, RV bs v v' → V.val v = some u → v' = u
  | _, _, _, .int _ _, h => by simp only [V.val, Option.some.injEq] at h; exact h
  | _, _, _, .bool _, h => by simp only [V.val, Option.some.injEq] at h; exact h
  | _, _, _, .str _, h => by simp only [V.val, Option.some.injEq] at h; exact h
  | _, _, _, .agg hl, h => by
    simp only [V.val] at h
    split at h
    · rename_i l' hl'
      cases h
      rw [V.valL_ok hl hl']
    · cases h
  | _, _, _, .ptrN, h => by simp [V.val] at h
  | _, _, _, .ptr _, h => by simp [V.val] at h
  | _, _, _, .slN, h => by simp [V.val] at h
  | _, _, _, .sl _ _ _ _ _ _, h => by simp [V.val] at h
  | _, _, _, .fn _ _ _, h => by simp [V.val] at h
  | _, _, _, .nilf, h => by simp [V.val] at h
  | _, _, _, .ifc _ _, h => by simp [V.val] at h
  | _, _, _, .nili, h => by simp [V.val] at h
  | _, _, _, .mapN, h => by simp [V.val] at h
  | _, _, _, .map _, h => by simp [V.val] at h
  | _, _, _, .tup _, h => by simp [V.val] at h
  | _, _, _, .yld _, h => by simp [V.val] at h
theorem V.valL_ok {bs : Bs} : ∀ {l : List V} {l' u : List Value}, RVs bs l l' → V.valL l = some u → l' = u
  | _, _, _, .nil, h => by simp only [V.valL, Option.some.injEq] at h; exact h
  | _, _, _, .cons hv hl, h => by
    simp only [V.valL] at h
    split at h
    · rename_i h1 h2
      cases h
      rw [V.val_ok hv h1, V.valL_ok hl h2]
    · cases h
end
section
variable {c : Cx} {bs : Bs} {σs : List (Nat × Value)} {Ls : List (Nat × Obj)} {o : Oper}
def keyFs (rec : TypeId → V → Bool) (P : Program) (xs : List V) : List Field → Bool
  | [] => true
  | f :: r => match decide (f.name = "_") with
    | true => keyFs rec P xs r
    | false => match sizeX P f.type with
      | some n => match partX P f.type f.offset n xs with
        | some a => match rec f.type a with
          | true => keyFs rec P xs r
          | false => false
        | none => false
      | none => false
def keyEs (rec : TypeId → V → Bool) (P : Program) (e n : Nat) (xs : List V) : List Nat → Bool
  | [] => true
  | i :: r => match partX P e (Nat.mul i n) n xs with
    | some a => match rec e a with
      | true => keyEs rec P e n xs r
      | false => false
    | none => false
def keyK (P : Program) : Nat → TypeId → V → Bool
  | 0, _, _ => false
  | d + 1, t, x => match x, P.underlying t with
    | .int _ _, some (.int _) => true
    | .str _, some .string => true
    | .bool _, some .bool => true
    | .agg xs, some (.struct fs) => keyFs (keyK P d) P xs fs.toList
    | .agg xs, some (.array n e) => match sizeX P e with
      | some sz => keyEs (keyK P d) P e sz xs (List.range' 0 n 1)
      | none => false
    | _, _ => false
theorem keyK_run {P : Program} (em : Bool) : ∀ (d : Nat) {t : TypeId} {x : V} {x' : Value}, keyK P d t x = true → RV bs x x' → ∀ (q : Nat) (w : World), (Instr.checkKey em (d + q) t x').run P w = .ok () w
  | 0, _, _, _, h, _, _, _ => by cases h
  | d + 1, t, x, x', h, hx, q, w => by
    have ih := fun {t x x'} (h : keyK P d t x = true) (hx : RV bs x x') (w : World) => keyK_run em d h hx q w
    rw [show d + 1 + q = (d + q) + 1 by omega]
    simp only [keyK] at h
    split at h
    · rename_i hu; cases hx; rw [Instr.checkKey]; simp [run_underlying hu]
    · rename_i hu; cases hx; rw [Instr.checkKey]; simp [run_underlying hu]
    · rename_i hu; cases hx; rw [Instr.checkKey]; simp [run_underlying hu]
    · rename_i xs fs hu
      cases hx
      rename_i xs' hxs
      rw [Instr.checkKey]
      simp only [Sem.run_bind, run_underlying hu, Result.andThen_ok]
      rw [← Array.forIn_toList]
      generalize fs.toList = l at h
      clear hu
      induction l generalizing w with
      | nil => simp
      | cons f r ihl =>
        simp only [keyFs] at h
        split at h
        · rename_i hn
          have hn := of_decide_eq_true hn
          simp only [List.forIn_cons, Sem.run_bind, hn, ne_eq, not_true_eq_false, if_false, Sem.run_pure, Result.andThen_ok]
          exact ihl w h
        · rename_i hn
          have hn := of_decide_eq_false hn
          split at h
          · rename_i n hsz
            split at h
            · rename_i a ha
              obtain ⟨a', a1, a2⟩ := part_run ha (sizeX_ok hsz).h hxs
              split at h
              · rename_i hk
                have := ih hk a2 w
                simp only [List.forIn_cons, Sem.run_bind, ne_eq, hn, not_false_eq_true, if_true, a1, Result.andThen_ok, this, Sem.run_pure]
                exact ihl w h
              · cases h
            · cases h
          · cases h
    · rename_i xs n e hu
      split at h
      · rename_i sz hsz
        cases hx
        rename_i xs' hxs
        rw [Instr.checkKey]
        simp only [Sem.run_bind, run_underlying hu, Result.andThen_ok, Std.Legacy.Range.forIn_eq_forIn_range', Std.Legacy.Range.size, Nat.sub_zero, Nat.add_sub_cancel, Nat.div_one]
        generalize List.range' 0 n 1 = l at h ⊢
        clear hu
        induction l generalizing w with
        | nil => simp
        | cons i r ihl =>
          simp only [keyEs] at h
          split at h
          · rename_i a ha
            obtain ⟨a', a1, a2⟩ := part_run ha (sizeX_ok hsz).h hxs
            have a1' : ∀ w, (part e xs'.toArray (i * sz)).run P w = .ok a' w := a1
            split at h
            · rename_i hk
              have := ih hk a2 w
              simp only [List.forIn_cons, Sem.run_bind, (sizeX_ok hsz).h, a1', Result.andThen_ok, this, Sem.run_pure]
              exact ihl w h
            · cases h
          · cases h
      · cases h
    · cases h
def keyX (P : Program) (kt : TypeId) (d : TypeDesc) (k : V) : Bool := match d, k with
  | .int _, .int _ _ => true
  | .string, .str _ => true
  | .bool, .bool _ => true
  | .struct _, .agg _ => keyK P 8 kt k
  | .array _ _, .agg _ => keyK P 8 kt k
  | _, _ => false
theorem keyX_run {P : Program} {kt : TypeId} {d : TypeDesc} {k : V} {k' : Value} (hd : P.underlying kt = some d) (h : keyX P kt d k = true) (hk : RV bs k k') (e : Bool) (w : World) : (Instr.checkKey e 10000 kt k').run P w = .ok () w := by
  unfold keyX at h
  split at h <;> first | (cases h; done) | skip
  · cases hk; rw [Instr.checkKey]; simp [run_underlying hd]
  · cases hk; rw [Instr.checkKey]; simp [run_underlying hd]
  · cases hk; rw [Instr.checkKey]; simp [run_underlying hd]
  · exact keyK_run e 8 h hk 9992 w
  · exact keyK_run e 8 h hk 9992 w
def sameX (P : Program) (kt : TypeId) (d : TypeDesc) (a b : V) : Option Bool := match d, a, b with
  | .struct _, .agg _, .agg _ => sameG a b
  | .array _ _, .agg _, .agg _ => sameG a b
  | _, _, _ => match a.scal, b.scal with
    | some x, some y => Instr.sameNow d x y
    | _, _ => none
where sameG (a b : V) : Option Bool := match eqX P 8 kt a b with
  | some true => match a.val, b.val with
    | some x, some y => match Instr.sameBits 10000 y x with
      | true => some true
      | false => none
    | _, _ => none
  | r => r
def nowK : TypeDesc → Bool
  | .struct _ => false
  | .array _ _ => false
  | _ => true
theorem sameX_now {P : Program} {kt : TypeId} {d : TypeDesc} {a b : V} {a' b' : Value} {r : Bool} (hn : nowK d = true) (h : sameX P kt d a b = some r) (ha : RV bs a a') (hb : RV bs b b') : Instr.sameNow d a' b' = some r := by
  unfold sameX at h
  split at h
  · cases hn
  · cases hn
  · split at h
    · rename_i x y hx hy
      rw [V.scal_ok ha hx, V.scal_ok hb hy]; exact h
    · cases h
theorem sameNow_ask {d : TypeDesc} (hn : nowK d = false) (a b : Value) : Instr.sameNow d a b = none := by
  cases d <;> first | (cases hn; done) | (cases a <;> rfl)
theorem sameX_ask {P : Program} {kt : TypeId} {d : TypeDesc} {a b : V} {a' b' : Value} {r : Bool} (hn : nowK d = false) (h : sameX P kt d a b = some r) (ha : RV bs a a') (hb : RV bs b b') : (∀ w, (Op.equal kt a' b').run P w = .ok r w) ∧ (r = true → Instr.sameBits 10000 b' a' = true) := by
  have g : sameX.sameG P kt a b = some r := by
    unfold sameX at h
    split at h
    · exact h
    · exact h
    · split at h
      · rw [sameNow_ask hn] at h; cases h
      · cases h
  unfold sameX.sameG at g
  split at g
  · rename_i he
    split at g
    · rename_i x y hx hy
      split at g
      · rename_i hsb
        cases g
        refine ⟨fun w => eqX_ok 8 he ha hb (Op.maxDepth - 8) w, fun _ => ?_⟩
        rw [V.val_ok ha hx, V.val_ok hb hy]; exact hsb
      · cases g
    · cases g
  · rename_i hne
    cases r with
    | true => exact absurd g hne
    | false => exact ⟨fun w => eqX_ok 8 g ha hb (Op.maxDepth - 8) w, fun e => by cases e⟩
theorem keyThatStays_now {P : Program} {kt : TypeId} {d : TypeDesc} {k p : V} {k' p' : Value} (hn : nowK d = true) (hs : sameX P kt d k p = some true) (hk : RV bs k k') (hp : RV bs p p') (w : World) : (Instr.keyThatStays p' k').run P w = .ok k' w := by
  have hs := sameX_now hn hs hk hp
  unfold Instr.sameNow at hs
  split at hs
  · split at hs
    · rename_i hkk
      subst hkk
      simp at hs
      subst hs
      simp [Instr.keyThatStays, Instr.sameBits]
    · cases hs
  · simp only [Option.some.injEq] at hs
    have hs2 := (Go.MapKept.bytes_beq _ _).1 hs
    subst hs2
    simp [Instr.keyThatStays, Instr.sameBits, hs]
  · simp at hs
    subst hs
    simp [Instr.keyThatStays, Instr.sameBits]
  · cases hs
theorem keyThatStays_run {P : Program} {kt : TypeId} {d : TypeDesc} {k p : V} {k' p' : Value} (hs : sameX P kt d k p = some true) (hk : RV bs k k') (hp : RV bs p p') (w : World) : (Instr.keyThatStays p' k').run P w = .ok k' w := by
  cases hn : nowK d with
  | true => exact keyThatStays_now hn hs hk hp w
  | false => simp [Instr.keyThatStays, (sameX_ask hn hs hk hp).2 rfl]
def Fnd (P : Program) (kt : TypeId) (d : TypeDesc) (k' : Value) (es : List MapEntry) (i : Nat) (a : Option (Nat × Value)) : Prop :=
  (nowK d = true ∧ Instr.findNow d k' es i = some a) ∨ (nowK d = false ∧ ∀ w, (Instr.findAsking kt k' es i).run P w = .ok a w)
theorem Fnd_nil {P : Program} {kt : TypeId} (d : TypeDesc) (k' : Value) (i : Nat) : Fnd P kt d k' [] i none := by
  cases hn : nowK d with
  | true => exact .inl ⟨hn, rfl⟩
  | false => exact .inr ⟨hn, fun w => rfl⟩
theorem Fnd_hit {P : Program} {kt : TypeId} {d : TypeDesc} {k p : V} {k' : Value} {e : MapEntry} (hs : sameX P kt d k p = some true) (hk : RV bs k k') (hp : RV bs p e.key) (es : List MapEntry) (i : Nat) : Fnd P kt d k' (e :: es) i (some (i, e.val)) := by
  cases hn : nowK d with
  | true => exact .inl ⟨hn, by simp [Instr.findNow, sameX_now hn hs hk hp]⟩
  | false => exact .inr ⟨hn, fun w => by simp [Instr.findAsking, (sameX_ask hn hs hk hp).1 w]⟩
theorem Fnd_skip {P : Program} {kt : TypeId} {d : TypeDesc} {k p : V} {k' : Value} {e : MapEntry} (hs : sameX P kt d k p = some false) (hk : RV bs k k') (hp : RV bs p e.key) {es : List MapEntry} {i : Nat} {a : Option (Nat × Value)} (h : Fnd P kt d k' es (i + 1) a) : Fnd P kt d k' (e :: es) i a := by
  rcases h with ⟨hn, h⟩ | ⟨hn, h⟩
  · exact .inl ⟨hn, by simp [Instr.findNow, sameX_now hn hs hk hp, h]⟩
  · exact .inr ⟨hn, fun w => by simp [Instr.findAsking, (sameX_ask hn hs hk hp).1 w, h w]⟩
theorem Fnd_run {P : Program} {kt : TypeId} {d : TypeDesc} {k' : Value} (hd : P.underlying kt = some d) {es : List MapEntry} {a : Option (Nat × Value)} (h : Fnd P kt d k' es 0 a) (w : World) : (Instr.findKey kt k' es).run P w = .ok a w := by
  rcases h with ⟨hn, h⟩ | ⟨hn, h⟩
  · exact Go.MapKept.run_findKey hd h
  · cases es with
    | nil =>
      have := h w
      simp [Instr.findAsking] at this
      subst this
      exact Go.MapKept.run_findKey hd rfl
    | cons e es =>
      have : Instr.findNow d k' (e :: es) 0 = none := by simp [Instr.findNow, sameNow_ask hn]
      simp only [Instr.findKey, Sem.run_bind, run_underlying hd, Result.andThen_ok, this]
      exact h w
end
end
end Go.Proofs.Ytmdiabglbmgkkaa
namespace Go.Proofs.Ytmdiabglbmgkkaa
open Go.RowKit
noncomputable section
attribute [local irreducible] T.put T.set
theorem nodup_wlog {c : Cx} {o : Oper} {Kn : St → Prop} {K : Exit → St → Prop} {σ : St} (h : (σ.L.map Prod.fst).Nodup → OW c o Kn K σ) : OW c o Kn K σ := fun a w ha => h ha.mem.nodup a w ha
end
end Go.Proofs.Ytmdiabglbmgkkaa
namespace Go.Proofs.Ytmdiabglbmgkkaa
open Go.RowKit
noncomputable section
attribute [local irreducible] T.put T.set
section
variable {c : Cx} {o : Oper} {K : Exit → St → Prop} {σ : St} {bs : Bs} {M F : List (Nat × Obj)} {d : Nat} 
theorem run_append_in_src {P : Program} (w : World) (t tx ty e : TypeId) (i : TypeInfo) (ht : P.underlying t = some (.slice e)) (hi : P.info? e = some i)
    (g off sLen sCap : Nat) (cur : Array Value) (hg : w.heap[g]? = some (.cells cur e (0, 0)))
    (x : Value) (m : Nat) (news : List Value) (hs : Src P i.size tx x m news w)
    (hroom : sLen + m ≤ sCap) (hfit : off + sLen * i.size + news.length ≤ cur.size) :
    (Builtin.append_ #[t, tx] ty #[.slice (some ⟨g, off, none⟩) sLen sCap, x]).run P w =
      .ok (.slice (some ⟨g, off, none⟩) (sLen + m) sCap) (w.setRow g (putR cur (off + sLen * i.size) news.toArray)) := by
  have hst := run_storeCells_at P g (off + sLen * i.size) e news 0 cur w hg (by simpa using hfit) hs.one
  simp only [Nat.add_zero] at hst
  rcases hs.kind with ⟨e', hk⟩ | hk <;> simp [Builtin.append_, run_underlying ht, run_underlying hk, sizeOf, typeInfo, hi, hs.len, hroom, hs.cells, Addr.add_mid, hst, putR]
theorem OW_append_src {c : Cx} {o : Oper} {Kn : St → Prop} {K : Exit → St → Prop} {s : List (Nat × Value)} {D : List Deferred} {L : List (Nat × Obj)} {t t2 E size by_ d : Nat} {z : Array Value} [hu : TUnd c.P t (.slice E)] [hrow : TRow c.P E z size by_] {x y : Operand}
    (ho : o.op = .call { callee := .builtin .append, args := #[x, y], argTypes := #[t, t2] }) (hdst : o.dst = some d) (hd : Nat.blt d c.N = true) {g off n cap : Nat} {cur : Array Value} (hx : ev s x = some (.slice (some ⟨g, off, none⟩) n cap)) (i : Nat) (hs : SlAt L i g off n cap E size cur)
    {m : Nat} {y' : Value} {news : List Value} (hy : ev s y = some y') (hsrc : ∀ a w, Holds c.g c.N ⟨s, D, L⟩ a w → Src c.P size t2 y' m news w)
    (hmax : n + m ≤ maxLen) (hby : (n + m) * by_ ≤ 140737488355328)
    (hk : ∀ g' off' cap' cur' L', setL L i (g', .cells cur' E (0, 0)) = some L' → SlAt L' i g' off' (n + m) cap' E size cur' → cur'.extract off' (off' + (n + m) * size) = cur.extract off (off + n * size) ++ news.toArray → Kn ⟨(d, .slice (some ⟨g', off', none⟩) (n + m) cap') :: s, D, L'⟩) : OW c o Kn K ⟨s, D, L⟩ := fun a w ha => by
  refine ⟨fun _ _ => trivial, ?_⟩
  obtain ⟨ii, zz, r1, r2, r3, r4, r5, r6⟩ := hrow.h
  have hsr := hsrc a w ha
  have hlen := hsr.newsLen
  have hset : ∀ (L : List (Nat × Obj)) (i : Nat) (p q : Nat × Obj), L[i]? = some q → setL L i p = some (L.set i p) := by
    intro L
    induction L with
    | nil => intro i p q h; simp at h
    | cons x r ih =>
      intro i p q h
      cases i with
      | zero => rfl
      | succ i => simp only [List.getElem?_cons_succ] at h; simp [setL, ih i p q h]
  have hat : ∀ (L : List (Nat × Obj)) (i : Nat) (p q : Nat × Obj), L[i]? = some q → (L.set i p)[i]? = some p := by
    intro L i p q h
    obtain ⟨hlt, _⟩ := List.getElem?_eq_some_iff.1 h
    simp [hlt]
  have hz : news.toArray.size = m * size := by simpa using hlen
  by_cases hroom : n + m ≤ cap
  · have hfit1 : off + n * size + news.toArray.size ≤ cur.size := by
      have h2 := hs.fit
      have h3 : (n + m) * size ≤ cap * size := Nat.mul_le_mul_right _ hroom
      rw [Nat.add_mul] at h3
      omega
    have hr := run_append_in_src (P := c.P) w t t2 o.type E ii hu.h r1 g off n cap cur (ha.mem.at_ hs.at_) y' m news (by rw [r4]; exact hsr) hroom (by rw [r4]; simpa using hfit1)
    have hr' : (execOp a.eval o).run c.P w = .ok (.value (.slice (some ⟨g, off, none⟩) (n + m) cap)) (w.setRow g (putR cur (off + n * size) news.toArray)) := by
      rw [r4] at hr
      simp [execOp, ho, resolve, invoke, builtin, ha.ev hx, ha.ev hy, hr]
    rw [Oper.semAt_eq _ _ _ (by rw [ho]; intro cc h; cases h), hr']
    have hps := putR_size cur news.toArray (off + n * size) hfit1
    refine ⟨_, ?_, hk g off cap (putR cur (off + n * size) news.toArray) _ (hset _ _ _ _ hs.at_) ⟨hat _ _ _ _ hs.at_, hroom, hs.max, by rw [hps]; exact hs.fit⟩ ?_⟩
    · rw [hdst]
      exact (ha.mem' (ha.mem.setRow hs.at_ _)).put (d := some d) hd _
    · apply Array.ext_getElem?
      intro q
      rw [Array.getElem?_extract, Array.getElem?_append, Array.getElem?_extract, hps]
      have hsz : (cur.extract off (off + n * size)).size = n * size := by simp; omega
      rw [hsz]
      rw [Nat.add_mul]
      by_cases hq : q < n * size
      · rw [if_pos (by omega), if_pos hq, if_pos (by omega), putR_get_out _ _ _ _ hfit1 (by omega)]
      · rw [if_neg hq]
        by_cases hq2 : q < n * size + m * size
        · rw [if_pos (by omega)]
          have := putR_get_in cur news.toArray (off + n * size) (q - n * size) hfit1 (by omega)
          rw [show off + n * size + (q - n * size) = off + q by omega] at this
          exact this
        · rw [if_neg (by omega), Array.getElem?_eq_none (by omega)]
  · have hold := cells_at ha.mem hs.at_ off (n * size)
    have h3 : n * size ≤ cap * size := Nat.mul_le_mul_right _ hs.le
    have hfit0 := hs.fit
    have hsz : (cur.extract off (off + n * size)).size = n * size := by simp; omega
    have hr := run_append_grow_src (P := c.P) w t t2 o.type E ii zz hu.h r1 r2 (some ⟨g, off, none⟩) n cap (cur.extract off (off + n * size)).toList (run_firstCells_some w.drew ii.size n ⟨g, off, none⟩ n cap _ (by rw [Array.length_toList, hsz, r4]) (by simpa using hold)) y' m news (by rw [r4]; exact hsr) (by omega) (by simp only [maxLen] at hmax; omega) (growslice_fits (by omega) (by rw [r5]; exact hby))
    rw [r3] at hr
    obtain ⟨cap', hcap'⟩ : ∃ q, grownCap w (n + m) cap E = q := ⟨_, rfl⟩
    have hge := grownCap_ge w (n + m) cap E
    have hcm := grownCap_le_maxLen w (n + m) cap E hmax
    rw [hcap'] at hr hge hcm
    have e0 : ((cur.extract off (off + n * size)).toList ++ news).toArray = cur.extract off (off + n * size) ++ news.toArray := by apply Array.ext'; simp
    rw [e0] at hr
    have hr' : (execOp a.eval o).run c.P w = .ok (.value (.slice (some ⟨w.heap.size, 0, none⟩) (n + m) cap')) (w.drew.alloc (.cells (cur.extract off (off + n * size) ++ news.toArray ++ Builtin.zeroCells z (cap' - (n + m))) E)) := by
      simp [execOp, ho, resolve, invoke, builtin, ha.ev hx, ha.ev hy, hr]
    rw [Oper.semAt_eq _ _ _ (by rw [ho]; intro cc h; cases h), hr']
    have hN : (cur.extract off (off + n * size) ++ news.toArray).size = (n + m) * size := by rw [Array.size_append, hsz, hz, Nat.add_mul]
    refine ⟨_, ?_, hk w.heap.size 0 cap' (cur.extract off (off + n * size) ++ news.toArray ++ Builtin.zeroCells z (cap' - (n + m))) _ (hset _ _ _ _ hs.at_) ⟨hat _ _ _ _ hs.at_, hge, hcm, ?_⟩ ?_⟩
    · rw [hdst]
      have hm1 := (ha.mem.drew).alloc (.cells (cur.extract off (off + n * size) ++ news.toArray ++ Builtin.zeroCells z (cap' - (n + m))) E)
      have hm2 : Mem c.g (L.set i (w.heap.size, .cells (cur.extract off (off + n * size) ++ news.toArray ++ Builtin.zeroCells z (cap' - (n + m))) E)) _ :=
        (hm1.perm (L' := (w.heap.size, .cells (cur.extract off (off + n * size) ++ news.toArray ++ Builtin.zeroCells z (cap' - (n + m))) E) :: L) (.refl _)).sublist ((List.eraseIdx_sublist L i).cons_cons _) |>.perm (set_perm hs.at_ _)
      exact (ha.mem' hm2).put (d := some d) hd _
    · rw [Array.size_append, hN, size_zeroCells, r6, ← Nat.add_mul]
      have : n + m + (cap' - (n + m)) = cap' := by omega
      rw [this]; omega
    · rw [Nat.zero_add, ← hN]
      exact extract_left _ _
end
end
end Go.Proofs.Ytmdiabglbmgkkaa
namespace Go.Proofs.Ytmdiabglbmgkkaa
open Go.RowKit
theorem wI64 {x : Int} (h1 : -9223372036854775808 ≤ x) (h2 : x < 9223372036854775808) : IntKind.i64.wrap x = x := by
  rw [IntKind.wrap_i64]; omega
def bV (u : UInt8) : Value := .int .u8 (u.toNat : Int)
def bstr (l : List UInt8) : ByteArray := ⟨l.toArray⟩
theorem bstr_size (l : List UInt8) : (bstr l).size = l.length := by simp [bstr, ByteArray.size]
theorem toList_bstr (l : List UInt8) : (bstr l).toList = l := by
  rw [ByteArray.toList_eq]; simp [bstr]
theorem bstr_get (l : List UInt8) (i : Nat) (h : i < l.length) : (bstr l)[i]'(by rw [bstr_size]; exact h) = l[i] := by
  simp [bstr, ByteArray.getElem_eq_getElem_data]
section
variable {c : Cx} {s : List (Nat × Value)} {L : List (Nat × Obj)} {o : Oper}
theorem Qt_eqlStr {t t' : TypeId} {x y : Operand} {a b : List UInt8} (ho : o.op = .binOp .eql t x y t') (hx : ev s x = some (.string (bstr a)) := by exact rfl) (hy : ev s y = some (.string (bstr b)) := by exact rfl) : Qt c s L o (.bool (a == b)) :=
  Qt_binW ho hx hy (by simp [binW, toList_bstr])
theorem Qt_neqStr {t t' : TypeId} {x y : Operand} {a b : List UInt8} (ho : o.op = .binOp .neq t x y t') (hx : ev s x = some (.string (bstr a)) := by exact rfl) (hy : ev s y = some (.string (bstr b)) := by exact rfl) : Qt c s L o (.bool (!(a == b))) :=
  Qt_binW ho hx hy (by simp [binW, toList_bstr])
theorem Qt_lenB {t : TypeId} [hu : TUnd c.P t .string] {x : Operand} {l : List UInt8} (ho : o.op = .call { callee := .builtin .len, args := #[x], argTypes := #[t] }) (hx : ev s x = some (.string (bstr l)) := by exact rfl) : Qt c s L o (.int .i64 l.length) := by
  have := Qt_lenStr (c := c) (s := s) (L := L) (o := o) ho hx
  rwa [bstr_size] at this
theorem Qt_indexB {t : TypeId} [hu : TUnd c.P t .string] {x y : Operand} {l : List UInt8} {k : IntKind} {i : Int} {u : UInt8} (ho : o.op = .index t x y) (hx : ev s x = some (.string (bstr l)) := by exact rfl) (hy : ev s y = some (.int k i) := by exact rfl)
    (h0 : 0 ≤ i := by first | with_reducible assumption | decide | omega) (h1 : l[i.toNat]? = some u := by first | with_reducible assumption | rfl | (simp; done)) : Qt c s L o (bV u) :=
  Qt_of_run (by simp [ho]) (fun ρ hρ w _ => by
    obtain ⟨hlt, he⟩ := List.getElem?_eq_some_iff.1 h1
    have h3 : 0 ≤ i ∧ i < (bstr l).size := ⟨h0, by rw [bstr_size]; omega⟩
    have h2 := run_index_string (P := c.P) w t (bstr l) k i hu.h
    rw [dif_pos h3, bstr_get l _ hlt, he] at h2
    simp only [execOp, ho, hρ x _ hx, hρ y _ hy, Sem.run_bind, h2, Result.andThen]
    rfl)
end
def Vec (sz : Nat) (L : List (Nat × Obj)) (v : Value) (n : Nat) (xs : List Value) : Prop :=
  xs.length = n * sz ∧ ∃ a cap, v = .slice a n cap ∧ n ≤ cap ∧ cap ≤ maxLen ∧ (n = 0 ∨ ∃ (b off : Nat) (cs : Array Value) (E : TypeId) (fr : Nat × Nat) (i : Nat), a = some ⟨b, off, none⟩ ∧ L[i]? = some (b, Obj.cells cs E fr) ∧ ∀ j x, xs[j]? = some x → cs[off + j]? = some x)
theorem Vec.mono {sz : Nat} {L L' : List (Nat × Obj)} {v : Value} {n : Nat} {xs : List Value} (h : Vec sz L v n xs) (hs : ∀ (i : Nat) (p : Nat × Obj), L[i]? = some p → ∃ j : Nat, L'[j]? = some p) : Vec sz L' v n xs := by
  obtain ⟨h1, a, cap, h2, h3, h4, h5⟩ := h
  refine ⟨h1, a, cap, h2, h3, h4, ?_⟩
  rcases h5 with h5 | ⟨b, off, cs, E, fr, i, e1, e2, e3⟩
  · exact .inl h5
  · obtain ⟨j, hj⟩ := hs i _ e2
    exact .inr ⟨b, off, cs, E, fr, j, e1, hj, e3⟩
theorem Vec.cons {sz : Nat} {L : List (Nat × Obj)} {v : Value} {n : Nat} {xs : List Value} (p : Nat × Obj) (h : Vec sz L v n xs) : Vec sz (p :: L) v n xs := h.mono fun i _ hi => ⟨i + 1, hi⟩
theorem Vec.nil (sz : Nat) (L : List (Nat × Obj)) : Vec sz L (.slice none 0 0) 0 [] := ⟨by simp, none, 0, rfl, by omega, by simp [maxLen], .inl rfl⟩
def ByAt (L : List (Nat × Obj)) (v : Value) (l : List UInt8) : Prop := Vec 1 L v l.length (l.map bV)
theorem ByAt.nil (L : List (Nat × Obj)) : ByAt L (.slice none 0 0) [] := Vec.nil 1 L
theorem Vec.cells {sz : Nat} {L : List (Nat × Obj)} {a : Option Addr} {n n' cap : Nat} {xs : List Value} (h : Vec sz L (.slice a n' cap) n xs) {g w : World} (hm : Mem g L w) : (∃ a', a = some a' ∧ ∀ j x, xs[j]? = some x → w.cell? (a'.add j) = some x) ∨ (n = 0 ∧ xs = []) := by
  obtain ⟨h1, a', cap', h2, h3, h4, h5⟩ := h
  simp only [Value.slice.injEq] at h2
  obtain ⟨rfl, rfl, rfl⟩ := h2
  rcases h5 with h5 | ⟨b, off, cs, E, fr, i, e1, e2, e3⟩
  · right
    subst h5
    exact ⟨rfl, List.eq_nil_of_length_eq_zero (by omega)⟩
  · left
    refine ⟨_, e1, fun j x hj => ?_⟩
    rw [Addr.add_mid, cell_of_row w b (off + j) cs E fr (hm.at_ e2)]
    exact e3 j x hj
theorem Vec.first {P : Program} {sz : Nat} {L : List (Nat × Obj)} {a : Option Addr} {n cap : Nat} {xs : List Value} (h : Vec sz L (.slice a n cap) n xs) {g w : World} (hm : Mem g L w) (cap' : Nat) : (Builtin.firstCells sz n (.slice a n cap')).run P w = .ok xs.toArray w := by
  have hl := h.1
  rcases h.cells hm with ⟨a', rfl, h2⟩ | ⟨rfl, rfl⟩
  · exact run_firstCells_some w sz n a' n cap' xs hl h2
  · cases a with
    | none => exact run_firstCells_none w sz 0 0 cap'
    | some a => exact run_firstCells_some w sz 0 a 0 cap' [] (by simp) (fun j x hj => by simp at hj)
section
variable {c : Cx} {s : List (Nat × Value)} {L : List (Nat × Obj)} {o : Oper}
theorem Qt_str {t t' e : TypeId} [hu : TUnd c.P t (.slice e)] [hu' : TUnd c.P t' .string] [he : TUnd c.P e (.int .u8)] {x : Operand} {v : Value} {l : List UInt8} (ho : o.op = .convert t t' x) (hx : ev s x = some v := by exact rfl)
    (hv : ByAt L v l := by repeat (first | with_reducible assumption | apply ByAt.cons)) : Qt c s L o (.string (bstr l)) :=
  Qt_of_run (by simp [ho]) (fun ρ hρ w hm => by
    have hv' := hv
    obtain ⟨h1, a, cap, rfl, h3, h4, _⟩ := hv
    have hb := run_convert_bytes_string (P := c.P) w t t' e a l.length cap hu.h he.h hu'.h
    rcases Vec.cells hv' hm with ⟨a', rfl, h2⟩ | ⟨h5, h6⟩
    · have hl := run_loadCells_list (P := c.P) w a' ((l.map fun u => (u.toNat : Int)).map (Value.int .u8)) (fun j v hv => h2 j v (by simpa [bV, List.map_map, Function.comp_def] using hv))
      have hs := run_bytesToString (P := c.P) w a' l.length cap (l.map fun u => (u.toNat : Int)) (by simpa using hl)
      rw [foldl_push_byteCells] at hs
      simp [execOp, ho, hρ x _ hx, hb, hs, bstr]
    · have hl : l = [] := List.eq_nil_of_length_eq_zero h5
      subst hl
      simp only [List.length_nil] at hb
      cases a with
      | none => simp [execOp, ho, hρ x _ hx, hb, Conv.bytesToString, bstr]; rfl
      | some a =>
        have hl := run_loadCells_list (P := c.P) w a [] (by simp)
        have hs := run_bytesToString (P := c.P) w a 0 cap [] (by simpa using hl)
        simp [execOp, ho, hρ x _ hx, hb, hs, bstr]; rfl)
theorem Qt_slLHM {t E n : Nat} [hu : TUnd c.P t (.slice E)] [hs : TSize c.P E n] {x hi mx : Operand} {a : Option Addr} {len cap : Nat} {k k' : IntKind} {h m : Int} (ho : o.op = .slice t x none (some hi) (some mx)) (hx : ev s x = some (.slice a len cap) := by exact rfl) (hh : ev s hi = some (.int k h) := by exact rfl) (hm : ev s mx = some (.int k' m) := by exact rfl)
    (h0 : 0 ≤ h := by first | with_reducible assumption | decide | omega) (h1 : h ≤ m := by first | with_reducible assumption | exact Int.le_refl _ | omega) (h2 : m ≤ cap := by first | with_reducible assumption | omega) : Qt c s L o (.slice a h.toNat m.toNat) :=
  Qt_of_run (by simp [ho]) (fun ρ hρ w _ => by
    have hut : c.P.underlying t = some (.slice (c.P.elem t)) := by rw [elem_of hu.h]; exact hu.h
    have h3 := run_slice_hm (P := c.P) w t a len cap hut k k' h m h0 h1 h2
    rw [elem_of hu.h, hs.h] at h3
    have h4 := run_sliceAt_slice (P := c.P) w t (.slice a len cap) none (some (.int k h)) (some (.int k' m)) hut
    have h5 : sliced a 0 h.toNat m.toNat n = .slice a h.toNat m.toNat := by
      unfold sliced
      cases a <;> simp [Addr.add]
    simp only [Result.andThen, h5] at h3
    simp [execOp, ho, hρ x _ hx, hρ hi _ hh, hρ mx _ hm, h4, h3])
end
structure Own (sz : Nat) (cur : Array Value) (off cap n : Nat) (xs : List Value) : Prop where
  len : xs.length = n * sz
  le : n ≤ cap
  max : cap ≤ maxLen
  fit : off + cap * sz ≤ cur.size
  at_ : ∀ j x, xs[j]? = some x → cur[off + j]? = some x
theorem Own.vec {sz : Nat} {cur : Array Value} {off cap n : Nat} {xs : List Value} (h : Own sz cur off cap n xs) {L : List (Nat × Obj)} {b E : Nat} {fr : Nat × Nat} (i : Nat) (hi : L[i]? = some (b, .cells cur E fr)) : Vec sz L (.slice (some ⟨b, off, none⟩) n cap) n xs :=
  ⟨h.len, _, _, rfl, h.le, h.max, .inr ⟨b, off, cur, E, fr, i, rfl, hi, h.at_⟩⟩
theorem Own.extract {sz : Nat} {cur : Array Value} {off cap n : Nat} {xs : List Value} (h : Own sz cur off cap n xs) : cur.extract off (off + n * sz) = xs.toArray := by
  have hl := h.len
  have hf := h.fit
  have hle : n * sz ≤ cap * sz := Nat.mul_le_mul_right _ h.le
  apply Array.ext_getElem?
  intro j
  rw [Array.getElem?_extract]
  by_cases hj : j < n * sz
  · rw [if_pos (by omega)]
    have := h.at_ j (xs[j]'(by omega)) (List.getElem?_eq_getElem (by omega))
    rw [this]; simp [hl, hj]
  · rw [if_neg (by omega)]; simp; omega
theorem Own.of_extract {sz : Nat} {cur : Array Value} {off cap n : Nat} {xs : List Value} (hl : xs.length = n * sz) (hle : n ≤ cap) (hm : cap ≤ maxLen) (hf : off + cap * sz ≤ cur.size) (he : cur.extract off (off + n * sz) = xs.toArray) : Own sz cur off cap n xs := by
  refine ⟨hl, hle, hm, hf, fun j x hx => ?_⟩
  have hj := (List.getElem?_eq_some_iff.1 hx).1
  have hle' : n * sz ≤ cap * sz := Nat.mul_le_mul_right _ hle
  have h1 : (cur.extract off (off + n * sz))[j]? = some x := by rw [he]; simpa using hx
  rw [Array.getElem?_extract, if_pos (by omega)] at h1
  exact h1
def SrcL (c : Cx) (L : List (Nat × Obj)) (sz : Nat) (t2 : TypeId) (y : Value) (m : Nat) (news : List Value) : Prop := ∀ w, Mem c.g L w → Src c.P sz t2 y m news w
theorem srcVec {c : Cx} {L : List (Nat × Obj)} {sz t2 e m : Nat} {y : Value} {news : List Value} [hu : TUnd c.P t2 (.slice e)] (h : Vec sz L y m news) (h1 : ∀ u ∈ news, u.oneCell' = true) : SrcL c L sz t2 y m news := fun w hm => by
  have h' := h
  obtain ⟨hl, a, cap, rfl, _⟩ := h
  rcases Vec.cells h' hm with ⟨a', rfl, h2⟩ | ⟨rfl, rfl⟩
  · exact Src.ofSlice w hu.h a' m cap news hl h2 h1
  · cases a with
    | none => exact Src.ofNil w hu.h cap
    | some a => exact Src.ofSlice w hu.h a 0 cap [] (by simp) (fun j u hj => by simp at hj) (fun u hu => by cases hu)
theorem srcStr {c : Cx} {L : List (Nat × Obj)} {t2 : Nat} {l : List UInt8} [hu : TUnd c.P t2 .string] : SrcL c L 1 t2 (.string (bstr l)) l.length (l.map bV) := fun w _ => by
  have := Src.ofString (P := c.P) w (tx := t2) hu.h (bstr l)
  rw [bstr_size] at this
  have e : byteCells (bstr l) = l.map bV := by simp [byteCells, bstr, bV]
  rwa [e] at this
theorem OW_append_new {c : Cx} {o : Oper} {Kn : St → Prop} {K : Exit → St → Prop} {s : List (Nat × Value)} {D : List Deferred} {L : List (Nat × Obj)} {t t2 E size by_ d : Nat} {z : Array Value} {x y : Operand} [hu : TUnd c.P t (.slice E)] [hrow : TRow c.P E z size by_]
    (ho : o.op = .call { callee := .builtin .append, args := #[x, y], argTypes := #[t, t2] }) (hdst : o.dst = some d) {a : Option Addr} {n cap m : Nat} (hx : ev s x = some (.slice a n cap)) {y' : Value} (hy : ev s y = some y') (hd : Nat.blt d c.N = true) {olds news : List Value} (hv : Vec size L (.slice a n cap) n olds)
    (hs : SrcL c L size t2 y' m news) (hm : cap < n + m) (hmax : n + m ≤ maxLen) (hby : (n + m) * by_ ≤ 140737488355328)
    (hk : ∀ b cap' cur, Own size cur 0 cap' (n + m) (olds ++ news) → Kn ⟨(d, .slice (some ⟨b, 0, none⟩) (n + m) cap') :: s, D, (b, .cells cur E (0, 0)) :: L⟩) : OW c o Kn K ⟨s, D, L⟩ := fun ac w ha => by
  refine ⟨fun _ _ => trivial, ?_⟩
  obtain ⟨ii, zz, r1, r2, r3, r4, r5, r6⟩ := hrow.h
  have hsr := hs w ha.mem
  have hlen := hsr.newsLen
  have hold := hv.first (P := c.P) ha.mem.drew cap
  have hle : n ≤ cap := by obtain ⟨_, a', c', e, h1, _⟩ := hv; cases e; exact h1
  have hr := run_append_grow_src (P := c.P) w t t2 o.type E ii zz hu.h r1 r2 a n cap olds (by rw [r4]; exact hold) y' m news (by rw [r4]; exact hsr) hm (by simp only [maxLen] at hmax; omega) (growslice_fits (by omega) (by rw [r5]; exact hby))
  rw [r3] at hr
  obtain ⟨cap', hcap'⟩ : ∃ q, grownCap w (n + m) cap E = q := ⟨_, rfl⟩
  have hge := grownCap_ge w (n + m) cap E
  have hcm := grownCap_le_maxLen w (n + m) cap E hmax
  rw [hcap'] at hr hge hcm
  have hr' : (execOp ac.eval o).run c.P w = .ok (.value (.slice (some ⟨w.heap.size, 0, none⟩) (n + m) cap')) (w.drew.alloc (.cells ((olds ++ news).toArray ++ Builtin.zeroCells z (cap' - (n + m))) E)) := by
    simp [execOp, ho, resolve, invoke, builtin, ha.ev hx, ha.ev hy, hr]
  rw [Oper.semAt_eq _ _ _ (by rw [ho]; intro cc h; cases h), hr']
  have hol : (olds ++ news).length = (n + m) * size := by rw [List.length_append, hv.1, hlen, Nat.add_mul]
  refine ⟨_, ?_, hk w.heap.size cap' ((olds ++ news).toArray ++ Builtin.zeroCells z (cap' - (n + m))) ⟨hol, hge, hcm, ?_, fun j u hu => ?_⟩⟩
  · rw [hdst]
    exact (ha.mem' ((ha.mem.drew).alloc _)).put (d := some d) hd _
  · rw [Array.size_append, List.size_toArray, hol, size_zeroCells, r6, ← Nat.add_mul]
    have : n + m + (cap' - (n + m)) = cap' := by omega
    rw [this]; omega
  · have hj := (List.getElem?_eq_some_iff.1 hu).1
    rw [Nat.zero_add, Array.getElem?_append_left (by simpa using hj)]
    simpa using hu
theorem OW_append_own {c : Cx} {o : Oper} {Kn : St → Prop} {K : Exit → St → Prop} {s : List (Nat × Value)} {D : List Deferred} {L : List (Nat × Obj)} {t t2 E size by_ d : Nat} {z : Array Value} {x y : Operand} [hu : TUnd c.P t (.slice E)] [hrow : TRow c.P E z size by_]
    (ho : o.op = .call { callee := .builtin .append, args := #[x, y], argTypes := #[t, t2] }) (hdst : o.dst = some d) {g off n cap m : Nat} (hx : ev s x = some (.slice (some ⟨g, off, none⟩) n cap)) {y' : Value} (hy : ev s y = some y') (hd : Nat.blt d c.N = true) {cur : Array Value} {xs news : List Value} (i : Nat) (hi : L[i]? = some (g, .cells cur E (0, 0))) (hv : Own size cur off cap n xs)
    (hs : SrcL c L size t2 y' m news) (hmax : n + m ≤ maxLen) (hby : (n + m) * by_ ≤ 140737488355328)
    (hk : ∀ b off' cap' cur', Own size cur' off' cap' (n + m) (xs ++ news) → Kn ⟨(d, .slice (some ⟨b, off', none⟩) (n + m) cap') :: s, D, L.set i (b, .cells cur' E (0, 0))⟩) : OW c o Kn K ⟨s, D, L⟩ := by
  refine nodup_wlog fun hnd => ?_
  refine OW_append_src (c := c) ho hdst hd hx i ⟨hi, hv.le, hv.max, hv.fit⟩ (m := m) (y' := y') (news := news) hy (fun a w ha => hs w ha.mem) hmax hby fun g' off' cap' cur' L' h1 h2 h3 => ?_
  have h4 := setL_eq h1
  subst h4
  refine hk g' off' cap' cur' (Own.of_extract ?_ h2.le h2.max h2.fit ?_)
  · have : (cur'.extract off' (off' + (n + m) * size)).size = (n + m) * size := by
      have := h2.fit
      have h5 : (n + m) * size ≤ cap' * size := Nat.mul_le_mul_right _ h2.le
      simp; omega
    rw [h3, hv.extract] at this
    simpa using this
  · rw [h3, hv.extract]; simp
section
variable {c : Cx} {ops : Array Oper}
theorem WR_skN {K : Exit → St → Prop} {Ls : List (Nat × Obj)} {m i j dg : Nat} {b : Bool} {og : Oper} {p : Plan} {o : Oper} {s : List (Nat × Value)} {D : List Deferred} {L : List (Nat × Obj)} {d : Nat} (ho : ops[i]? = some o) (h : WR c ops K Ls m p ⟨(d, undef) :: s, D, L⟩) (hg : o.guard = some (j, true) := by exact rfl) (hj : ops[j]? = some og := by exact rfl) (hdg : og.dst = some dg := by exact rfl) (hb : look s dg = some (.bool b) := by exact rfl) (he : b = false := by first | with_reducible assumption | with_reducible rfl | decide)
    (hdst : o.dst = some d := by exact rfl) (hd : Nat.blt d c.N = true := by exact rfl) (hL : ∀ q ∈ Ls, q ∈ L := by first | exact fun _ h => h | exact fun _ h => List.Sublist.subset (by repeat (first | exact .refl _ | exact List.nil_sublist _ | exact List.sublist_append_right _ _ | apply List.Sublist.cons_cons | apply List.Sublist.cons)) h) : WR c ops K Ls m (.must i p) ⟨s, D, L⟩ :=
  WR_opN (σ := ⟨s, D, L⟩) ho hg hj hdg hb (by rw [he]; rfl) (by rw [hdst]; exact hd) hL (by rw [hdst]; exact h)
end
theorem WC_wk {c : Cx} {code : Code} {K : Exit → St → Prop} {s0 : List (Nat × Value)} {D : List Deferred} {L : List (Nat × Obj)} (s : List (Nat × Value)) (hs : SubS s s0) (h : WC c code K ⟨s, D, L⟩) : WC c code K ⟨s0, D, L⟩ := WC_weaken (σ := ⟨s0, D, L⟩) s hs h
theorem arr_get {α : Type} {cs : Array α} {i : Nat} {v : α} (h : cs.toList[i]? = some v) : cs[i]? = some v := by simpa using h
theorem Qt_ld1B {c : Cx} {s : List (Nat × Value)} {L : List (Nat × Obj)} {o : Oper} {t b off : Nat} [TAgg c.P t false] {x : Operand} {cs : Array Value} {E : TypeId} {fr : Nat × Nat} {v : Value} (ho : o.op = .load t x) (hx : ev s x = some (.pointer (some ⟨b, off, none⟩)) := by exact rfl) (hi : ∃ i : Nat, L[i]? = some (b, .cells cs E fr) := by first | exact ⟨0, rfl⟩ | exact ⟨1, rfl⟩ | exact ⟨2, rfl⟩ | exact ⟨3, rfl⟩ | exact ⟨4, rfl⟩ | exact ⟨5, rfl⟩ | exact ⟨6, rfl⟩ | exact ⟨7, rfl⟩ | exact ⟨8, rfl⟩ | exact ⟨9, rfl⟩ | exact ⟨10, rfl⟩ | exact ⟨11, rfl⟩ | exact ⟨12, rfl⟩ | exact ⟨13, rfl⟩ | exact ⟨_, by with_reducible assumption⟩) (hv : cs[off]? = some v := by first | with_reducible assumption | exact arr_get rfl | rfl | assumption) : Qt c s L o v :=
  let ⟨i, h⟩ := hi; Qt_load1 ho hx i h hv
theorem Qt_buildB {c : Cx} {s : List (Nat × Value)} {L : List (Nat × Obj)} {o : Oper} {t : TypeId} {z : Array Value} {pl : List (Nat × Nat)} [hb : TBuild c.P t z pl] {parts : Array (Nat × Operand)} {vs : List (Nat × Value)} {cs : Array Value} (ho : o.op = .build t parts) (hx : evp s parts.toList = some vs := by exact rfl) (hf : Filled pl z vs cs := by repeat (first | exact rfl | refine ⟨_, _, rfl, (by first | with_reducible assumption | rfl | assumption), (by first | exact Nat.le_of_ble_eq_true rfl | omega), ?_⟩)) : Qt c s L o (.agg cs) :=
  Qt_build ho hx hf
end Go.Proofs.Ytmdiabglbmgkkaa
namespace Go.Proofs.Ytmdiabglbmgkkaa
open Go.RowKit
def meetQ (Q : St → Prop) (σ : St) : Prop := ∃ σ', Q σ' ∧ SubS σ'.s σ.s ∧ σ'.D = σ.D ∧ σ'.L.Sublist σ.L
theorem meet_next {c : Cx} {Q : St → Prop} {z : Code} {K : Exit → St → Prop} (hB : ∀ σ, Q σ → WC c z K σ) (e : Exit) (σ : St) (h : thenK (meetQ Q) K e σ) : thenK (WC c z K) K e σ := by
  cases e with
  | normal =>
    obtain ⟨σ', hQ, hs, hD, hL⟩ := h
    exact WC_lessen hs hD hL (hB σ' hQ)
  | _ => exact h
theorem WC_meet2 {c : Cx} {x y z : Code} {K : Exit → St → Prop} {σ : St} (Q : St → Prop) (hA : WC c x (thenK (WC c y (thenK (meetQ Q) K)) (thenK (meetQ Q) K)) σ) (hB : ∀ σ, Q σ → WC c z K σ) : WC c x (thenK (WC c y (thenK (WC c z K) K)) (thenK (WC c z K) K)) σ :=
  WC_mono hA fun e σ h => by
    cases e with
    | normal => exact WC_mono h (meet_next hB)
    | _ => exact h
end Go.Proofs.Ytmdiabglbmgkkaa
namespace Go.Proofs.Ytmdiabglbmgkkaa
open Go.RowKit
def Buf (E sz : Nat) (v : Value) (T : List (Nat × Obj)) (n : Nat) (xs : List Value) : Prop :=
  (xs = [] ∧ n = 0 ∧ v = .slice none 0 0 ∧ T = []) ∨ ∃ (g off cap : Nat) (cur : Array Value), v = .slice (some ⟨g, off, none⟩) n cap ∧ T = [(g, .cells cur E (0, 0))] ∧ Own sz cur off cap n xs
theorem Buf.nil (E sz : Nat) : Buf E sz (.slice none 0 0) [] 0 [] := .inl ⟨rfl, rfl, rfl, rfl⟩
theorem Buf.vec {E sz : Nat} {v : Value} {T : List (Nat × Obj)} {n : Nat} {xs : List Value} (h : Buf E sz v T n xs) (A B : List (Nat × Obj)) : Vec sz (A ++ (T ++ B)) v n xs := by
  rcases h with ⟨rfl, rfl, rfl, rfl⟩ | ⟨g, off, cap, cur, rfl, rfl, h⟩
  · exact Vec.nil sz _
  · exact h.vec (E := E) (fr := (0, 0)) A.length (by simp)
theorem Buf.vec0 {E sz : Nat} {v : Value} {T : List (Nat × Obj)} {n : Nat} {xs : List Value} (h : Buf E sz v T n xs) (B : List (Nat × Obj)) : Vec sz (T ++ B) v n xs := h.vec [] B
theorem Buf.val {E sz : Nat} {v : Value} {T : List (Nat × Obj)} {n : Nat} {xs : List Value} (h : Buf E sz v T n xs) : ∃ a cap, v = .slice a n cap ∧ n ≤ cap ∧ cap ≤ maxLen := by
  rcases h with ⟨rfl, rfl, rfl, _⟩ | ⟨g, off, cap, cur, rfl, _, h⟩
  · exact ⟨_, _, rfl, Nat.le_refl _, by simp [maxLen]⟩
  · exact ⟨_, _, rfl, h.le, h.max⟩
theorem OW.permL {c : Cx} {o : Oper} {Kn : St → Prop} {K : Exit → St → Prop} {σ : St} (h : OW c o (fun σ' => ∃ L2 : List (Nat × Obj), L2.Perm σ'.L ∧ Kn ⟨σ'.s, σ'.D, L2⟩) K σ) : OW c o Kn K σ := fun a w ha =>
  Oper.wpIn_mono (fun _ _ ⟨_, h1, _, h2, h3⟩ => ⟨_, h1.mem' (h1.mem.perm h2), h3⟩) (h a w ha)
theorem OW_append_buf {c : Cx} {o : Oper} {Kn : St → Prop} {K : Exit → St → Prop} {s : List (Nat × Value)} {D : List Deferred} {A T B : List (Nat × Obj)} {t t2 E size by_ d : Nat} {z : Array Value} {x y : Operand} [hu : TUnd c.P t (.slice E)] [hrow : TRow c.P E z size by_]
    (ho : o.op = .call { callee := .builtin .append, args := #[x, y], argTypes := #[t, t2] }) (hdst : o.dst = some d) {v y' : Value} (hx : ev s x = some v) (hy : ev s y = some y') (hd : Nat.blt d c.N = true) {n m : Nat} {xs news : List Value} (hv : Buf E size v T n xs)
    (hs : SrcL c (A ++ (T ++ B)) size t2 y' m news) (hm : 0 < m) (hmax : n + m ≤ maxLen) (hby : (n + m) * by_ ≤ 140737488355328)
    (hk : ∀ v' T', Buf E size v' T' (n + m) (xs ++ news) → Kn ⟨(d, v') :: s, D, A ++ (T' ++ B)⟩) : OW c o Kn K ⟨s, D, A ++ (T ++ B)⟩ := by
  refine OW.permL ?_
  rcases hv with ⟨rfl, rfl, rfl, rfl⟩ | ⟨g, off, cap, cur, rfl, rfl, h⟩
  · refine OW_append_new ho hdst hx hy hd (Vec.nil size _) hs (by omega) hmax hby fun b cap' cur' h' => ?_
    refine ⟨A ++ ([(b, .cells cur' E (0, 0))] ++ B), ?_, hk _ _ (.inr ⟨b, 0, cap', cur', rfl, rfl, h'⟩)⟩
    simp only [List.nil_append, List.singleton_append]
    exact List.perm_middle
  · have hi : (A ++ ([(g, Obj.cells cur E (0, 0))] ++ B))[A.length]? = some (g, .cells cur E (0, 0)) := by simp
    refine OW_append_own ho hdst hx hy hd A.length hi h hs hmax hby fun b off' cap' cur' h' => ?_
    refine ⟨_, .refl _, ?_⟩
    have e : (A ++ ([(g, Obj.cells cur E (0, 0))] ++ B)).set A.length (b, .cells cur' E (0, 0)) = A ++ ([(b, .cells cur' E (0, 0))] ++ B) := by simp
    simp only [e]
    exact hk _ _ (.inr ⟨b, off', cap', cur', rfl, rfl, h'⟩)
theorem src1 {c : Cx} {L : List (Nat × Obj)} {t2 e b E : Nat} {u : Value} [hu : TUnd c.P t2 (.slice e)] (i : Nat) (hi : L[i]? = some (b, .cells #[u] E (0, 0))) (h1 : u.oneCell' = true := by rfl) : SrcL c L 1 t2 (.slice (some ⟨b, 0, none⟩) 1 1) 1 [u] :=
  srcVec ⟨rfl, _, _, rfl, Nat.le_refl _, by decide, .inr ⟨_, _, _, _, _, i, rfl, hi, fun j x hx => by
    cases j with
    | zero => simpa using hx
    | succ j => simp at hx⟩⟩ (by intro v hv; simp at hv; subst hv; exact h1)
theorem WC_dropL {c : Cx} {code : Code} {K : Exit → St → Prop} {s : List (Nat × Value)} {D : List Deferred} {L : List (Nat × Obj)} (L' : List (Nat × Obj)) (hs : L'.Sublist L) (h : WC c code K ⟨s, D, L'⟩) : WC c code K ⟨s, D, L⟩ := WC_drop (σ := ⟨s, D, L⟩) hs h
end Go.Proofs.Ytmdiabglbmgkkaa
namespace Go.Proofs.Ytmdiabglbmgkkaa
open Go.RowKit
theorem OW_append_nothing {c : Cx} {o : Oper} {Kn : St → Prop} {K : Exit → St → Prop} {s : List (Nat × Value)} {D : List Deferred} {L : List (Nat × Obj)} {t t2 E size by_ d : Nat} {z : Array Value} {x y : Operand} [hu : TUnd c.P t (.slice E)] [hrow : TRow c.P E z size by_]
    (ho : o.op = .call { callee := .builtin .append, args := #[x, y], argTypes := #[t, t2] }) (hdst : o.dst = some d) {a : Option Addr} {n cap : Nat} (hx : ev s x = some (.slice a n cap)) {y' : Value} (hy : ev s y = some y') (hd : Nat.blt d c.N = true) (hle : n ≤ cap)
    (hs : SrcL c L size t2 y' 0 []) (hk : Kn ⟨(d, .slice a n cap) :: s, D, L⟩) : OW c o Kn K ⟨s, D, L⟩ := fun ac w ha => by
  refine ⟨fun _ _ => trivial, ?_⟩
  obtain ⟨ii, zz, r1, r2, r3, r4, r5, r6⟩ := hrow.h
  have hsr := hs w ha.mem
  have hr := run_append_nothing (P := c.P) w t t2 o.type E ii hu.h r1 a n cap hle y' (by rw [r4]; exact hsr)
  have hr' : (execOp ac.eval o).run c.P w = .ok (.value (.slice a n cap)) w := by
    simp [execOp, ho, resolve, invoke, builtin, ha.ev hx, ha.ev hy, hr]
  rw [Oper.semAt_eq _ _ _ (by rw [ho]; intro cc h; cases h), hr']
  refine ⟨_, ?_, hk⟩
  rw [hdst]
  exact ha.put (d := some d) hd _
theorem OW_append_bufM {c : Cx} {o : Oper} {Kn : St → Prop} {K : Exit → St → Prop} {s : List (Nat × Value)} {D : List Deferred} {A T B : List (Nat × Obj)} {t t2 E size by_ d : Nat} {z : Array Value} {x y : Operand} [hu : TUnd c.P t (.slice E)] [hrow : TRow c.P E z size by_]
    (ho : o.op = .call { callee := .builtin .append, args := #[x, y], argTypes := #[t, t2] }) (hdst : o.dst = some d) {v y' : Value} (hx : ev s x = some v) (hy : ev s y = some y') (hd : Nat.blt d c.N = true) {n m : Nat} {xs news : List Value} (hv : Buf E size v T n xs)
    (hs : SrcL c (A ++ (T ++ B)) size t2 y' m news) (hl : news.length = m * size) (hmax : n + m ≤ maxLen) (hby : (n + m) * by_ ≤ 140737488355328)
    (hk : ∀ v' T', Buf E size v' T' (n + m) (xs ++ news) → Kn ⟨(d, v') :: s, D, A ++ (T' ++ B)⟩) : OW c o Kn K ⟨s, D, A ++ (T ++ B)⟩ := by
  rcases Nat.eq_zero_or_pos m with rfl | hm
  · obtain rfl : news = [] := List.eq_nil_of_length_eq_zero (by omega)
    obtain ⟨a, cap, rfl, hle, _⟩ := hv.val
    refine OW_append_nothing ho hdst hx hy hd hle hs (hk _ _ ?_)
    simpa using hv
  · exact OW_append_buf ho hdst hx hy hd hv hs hm hmax hby hk
theorem Own.take {sz : Nat} {cur : Array Value} {off cap n : Nat} {xs : List Value} (h : Own sz cur off cap n xs) {k cap' : Nat} (hk : k ≤ n) (hc : k ≤ cap') (hc' : cap' ≤ cap) : Own sz cur off cap' k (xs.take (k * sz)) where
  len := by have := h.len; have := Nat.mul_le_mul_right sz hk; rw [List.length_take]; omega
  le := hc
  max := Nat.le_trans hc' h.max
  fit := Nat.le_trans (Nat.add_le_add_left (Nat.mul_le_mul_right sz hc') _) h.fit
  at_ j x hj := by
    rw [List.getElem?_take] at hj
    split at hj
    · exact h.at_ j x hj
    · cases hj
end Go.Proofs.Ytmdiabglbmgkkaa
namespace Go.Proofs.Ytmdiabglbmgkkaa
open Go.RowKit
theorem QW_a {c : Cx} {s : List (Nat × Value)} {L : List (Nat × Obj)} {o : Oper} {κ : Value → Prop} {v : Value} (hk : κ v) (h : Qt c s L o v := by first
    | exact Qt_move rfl | exact Qt_assign rfl | exact Qt_nilCheck rfl | exact Qt_fieldAddr0 rfl | exact Qt_fieldAddr rfl | exact Qt_ld1B rfl | exact Qt_extract rfl
    | exact Qt_lenB rfl | exact Qt_lenSl rfl | exact Qt_eqlStr rfl | exact Qt_neqStr rfl | exact Qt_geqStr rfl | exact Qt_cat rfl | exact Qt_bin rfl | exact Qt_pick_true rfl | exact Qt_pick_false rfl | exact Qt_not rfl
    | exact Qt_indexArr0 rfl | exact Qt_indexSl0 rfl | exact Qt_indexArr rfl | exact Qt_indexSl rfl | exact Qt_convInt rfl | exact Qt_ldA rfl | exact Qt_ldN rfl
    | exact Qt_eql_nilS rfl | exact Qt_eql_nilN rfl | exact Qt_neq_nilS rfl | exact Qt_neq_nilN rfl | exact Qt_eql_ifN rfl | exact Qt_eql_ifS rfl | exact Qt_neq_ifN rfl | exact Qt_neq_ifS rfl | exact Qt_eql_bool rfl | exact Qt_neq_bool rfl
    | exact Qt_rem rfl | exact Qt_quo rfl | exact Qt_shl rfl | exact Qt_shr rfl | exact Qt_and rfl | exact Qt_or rfl | exact Qt_xor rfl | exact Qt_neg rfl | exact Qt_min rfl | exact Qt_max rfl
    | exact Qt_cutB rfl | exact Qt_cutToB rfl | exact Qt_cutFromB rfl | exact Qt_indexB rfl | exact Qt_arrFrom rfl | exact Qt_sliceL rfl | exact Qt_slTo rfl | exact Qt_slLHM rfl
    | exact Qt_str1 rfl | exact Qt_str rfl (hv := own_by0 (by with_reducible assumption)) | exact Qt_str rfl | exact Qt_buildB rfl | exact Qt_makeFunc rfl | exact Qt_makeInterface rfl | exact Qt_typeAssert rfl | exact Qt_nilCheck_fn rfl) : QW c s L o κ := ⟨v, h, hk⟩
theorem OE {P G : Prop} (h : G) (s : G → P := by first | exact fun h => OW_alloc rfl (hk := h) | exact fun h => OW_box rfl (hk := h) | exact fun h => OW_st1 rfl h | exact fun h => OW_stA rfl h | exact fun h => OW_stN rfl h | exact fun h => OW_build0 rfl (hk := h) | exact fun h => OW_build1 rfl (hk := h)) : P := s h
end Go.Proofs.Ytmdiabglbmgkkaa
namespace Go.Proofs.Ytmdiabglbmgkkaa
open Go.RowKit
def WCn (c : Cx) (x : Code) (K : Exit → St → Prop) : Nat → St → Prop
  | 0, _ => False
  | m + 1, σ => WC c x (thenK (WCn c x K m) K) σ
theorem WCn.rounds {c : Cx} {x : Code} {K : Exit → St → Prop} : ∀ {m : Nat} {σ : St}, WCn c x K m σ → ∀ a w, Holds c.g c.N σ a w → Code.roundsIn (Fw c.r) c.n c.P x (lift c K) m a w
  | 0, _, h, _, _, _ => h.elim
  | m + 1, σ, h, a, w, ha => by
    rw [roundsIn_succ]
    refine Go.wpIn_mono ((show WC c x (thenK (WCn c x K m) K) σ from h) a w ha) fun e a' w' hl => ?_
    obtain ⟨σ', h1, h2⟩ := hl
    cases e with
    | normal => exact WCn.rounds (m := m) h2 a' w' h1
    | _ => exact ⟨σ', h1, h2⟩
theorem WC_unroll {c : Cx} {x : Code} {K : Exit → St → Prop} {σ : St} (m : Nat) (h : WCn c x K m σ) : WC c (.loop x) K σ := fun a w ha => wpIn_loop_rounds m (h.rounds a w ha)
theorem WCn_s {c : Cx} {x : Code} {K : Exit → St → Prop} {m : Nat} {σ : St} (h : WC c x (thenK (WCn c x K m) K) σ) : WCn c x K (m + 1) σ := h
def FilledA (n : Nat) : Array Value → List (Nat × Value) → Array Value → Prop
  | z, [], cs => cs = z
  | z, (i, v) :: r, cs => v.cells.size = n ∧ i * n + n ≤ z.size ∧ FilledA n (putR z (i * n) v.cells) r cs
theorem fill_of_FilledA {n : Nat} : ∀ {parts : List (Nat × Value)} {z cs : Array Value}, FilledA n z parts cs → Instr.fill (fun i => some (i * n, n)) z parts = some cs
  | [], z, cs, h => by cases h; rfl
  | (i, v) :: r, z, cs, ⟨h2, h3, h4⟩ => by
    simp only [Instr.fill]
    rw [if_neg (by simp [h2]; omega)]
    have hf := fold_put v.cells.toList 0 (i * n) z (by simp; omega)
    have he : (v.cells.zipIdx.foldl (fun (cs : Array Value) (p : Value × Nat) => cs.setIfInBounds (i * n + p.2) p.1) z) = putR z (i * n) v.cells := by
      rw [← Array.foldl_toList, Array.toList_zipIdx, hf]
      simp
    have hh := fill_of_FilledA h4
    rw [← he] at hh
    exact hh
end Go.Proofs.Ytmdiabglbmgkkaa
namespace Go.Proofs.Ytmdiabglbmgkkaa
open Go.RowKit
def aGet (m : List (Int × Value)) (x : Int) : Option Value := match m with
  | [] => none
  | p :: r => if x = p.1 then some p.2 else aGet r x
def aPut (m : List (Int × Value)) (x : Int) (v : Value) : List (Int × Value) := match m with
  | [] => [(x, v)]
  | p :: r => if x = p.1 then (x, v) :: r else p :: aPut r x v
theorem aGet_put (m : List (Int × Value)) (x y : Int) (v : Value) : aGet (aPut m x v) y = if y = x then some v else aGet m y := by
  induction m with
  | nil => simp [aPut, aGet]
  | cons p r ih =>
    simp only [aPut]
    by_cases h : x = p.1
    · rw [if_pos h]; simp only [aGet]
      by_cases hy : y = x
      · simp [hy]
      · rw [if_neg hy, if_neg hy, if_neg (by omega)]
    · rw [if_neg h]; simp only [aGet]
      by_cases hy : y = p.1
      · rw [if_pos hy, if_pos hy, if_neg (by omega)]
      · rw [if_neg hy, if_neg hy, ih]
theorem aPut_none {m : List (Int × Value)} {x : Int} {v : Value} (h : aGet m x = none) : aPut m x v = m ++ [(x, v)] := by
  induction m with
  | nil => rfl
  | cons p r ih =>
    simp only [aGet] at h
    split at h
    · cases h
    · rename_i hp; simp only [aPut, if_neg hp, ih h, List.cons_append]
def Ents (k : IntKind) (es : List MapEntry) (m : List (Int × Value)) : Prop := es.map (fun e => (e.key, e.val)) = m.map fun p => (.int k p.1, p.2)
theorem Ents_find {P : Program} {kt : TypeId} {k k' : IntKind} : ∀ {es : List MapEntry} {m : List (Int × Value)} {x : Int} (i : Nat), Ents k es m →
    (aGet m x = none ∧ Fnd P kt (.int k') (.int k x) es i none) ∨ ∃ v j e, aGet m x = some v ∧ Fnd P kt (.int k') (.int k x) es i (some (i + j, v)) ∧ es[j]? = some e ∧ e.val = v ∧ e.key = .int k x ∧ ∀ v', Ents k (es.set j { e with key := .int k x, val := v' }) (aPut m x v')
  | [], m, x, i, h => by
    have : m = [] := by cases m with | nil => rfl | cons p r => simp [Ents] at h
    subst this
    exact .inl ⟨rfl, Fnd_nil _ _ _⟩
  | e :: es, m, x, i, h => by
    cases m with
    | nil => simp [Ents] at h
    | cons p r =>
      simp only [Ents, List.map_cons, List.cons.injEq, Prod.mk.injEq] at h
      obtain ⟨⟨hk, hv⟩, hr⟩ := h
      by_cases hx : x = p.1
      · right
        subst hx
        refine ⟨p.2, 0, e, by simp [aGet], ?_, rfl, hv, hk, fun v' => ?_⟩
        · have hs : sameX P kt (.int k') (.int k p.1) (.int k p.1) = some true := by simp [sameX, V.scal, Instr.sameNow]
          have := Fnd_hit (P := P) (kt := kt) (bs := []) hs (.int k p.1) (by rw [hk]; exact .int k p.1) es i
          rw [hv] at this; exact this
        · simp only [aPut, if_true, List.set_cons_zero, Ents, List.map_cons]
          rw [show es.map (fun e => (e.key, e.val)) = r.map (fun p => (Value.int k p.1, p.2)) from hr]
      · have hs : sameX P kt (.int k') (.int k x) (.int k p.1) = some false := by simp [sameX, V.scal, Instr.sameNow, hx]
        rcases Ents_find (P := P) (kt := kt) (k' := k') (x := x) (i + 1) (show Ents k es r from hr) with ⟨h1, h2⟩ | ⟨v, j, e', h1, h2, h3, h4, h5, h6⟩
        · exact .inl ⟨by simp [aGet, hx, h1], Fnd_skip hs (bs := []) (.int k x) (by rw [hk]; exact .int k p.1) h2⟩
        · refine .inr ⟨v, j + 1, e', by simp [aGet, hx, h1], ?_, by simpa using h3, h4, h5, fun v' => ?_⟩
          · have := Fnd_skip hs (bs := []) (.int k x) (by rw [hk]; exact .int k p.1) h2
            rwa [show i + 1 + j = i + (j + 1) by omega] at this
          · have := h6 v'
            simp only [aPut, if_neg hx, List.set_cons_succ, Ents, List.map_cons, hk, hv]
            rw [show _ = _ from this]
section
variable {c : Cx} {o : Oper} {Kn : St → Prop} {K : Exit → St → Prop} {s : List (Nat × Value)} {D : List Deferred} {L : List (Nat × Obj)}
theorem OW_makeMap {t d : TypeId} (ho : o.op = .makeMap t none) (hk : ∀ b, Kn ⟨(d, .map (some b)) :: s, D, (b, .map #[] 0) :: L⟩) (hdst : o.dst = some d := by exact rfl) (hd : Nat.blt d c.N = true := by exact rfl) : OW c o Kn K ⟨s, D, L⟩ := fun a w ha => by
  refine ⟨fun _ _ => trivial, ?_⟩
  have hr : (execOp a.eval o).run c.P w = .ok (.value (.map (some w.heap.size))) (w.alloc (.map #[] 0)) := by
    have := run_makeMap (P := c.P) t w
    simp [execOp, ho, this]
  rw [Oper.semAt_eq _ _ _ (by rw [ho]; intro cc h; cases h), hr]
  refine ⟨_, ?_, hk w.heap.size⟩
  rw [hdst]
  exact (ha.mem' (ha.mem.alloc _)).put (d := some d) hd _
theorem Qt_lookup {t kt vt : TypeId} {k k' : IntKind} {z : Value} [hu : TUnd c.P t (.map kt vt)] [hk' : TUnd c.P kt (.int k')] [hz : TZero c.P vt z] {m x : Operand} {b cl i : Nat} {es : Array MapEntry} {ps : List (Int × Value)} {n : Int} (ho : o.op = .lookup t m x false) (hi : L[i]? = some (b, .map es cl)) (he : Ents k es.toList ps) (hm : ev s m = some (.map (some b)) := by exact rfl) (hx : ev s x = some (.int k n) := by exact rfl) : Qt c s L o ((aGet ps n).getD z) :=
  Qt_of_run (by simp [ho]) (fun ρ hρ w hmem => by
    have hkey : keyX c.P kt (.int k') (.int k n) = true := rfl
    rcases Ents_find (P := c.P) (kt := kt) (k' := k') (x := n) 0 he with ⟨h1, h2⟩ | ⟨v0, j, e, h1, h2, h3, h4, h5, h6⟩
    · have hfk := Fnd_run hk'.h h2 w
      rw [h1]
      simp [execOp, ho, hρ m _ hm, hρ x _ hx, Instr.lookup, run_underlying hu.h, Go.MapKept.run_getObj_map (hmem.at_ hi), keyX_run (bs := []) hk'.h hkey (.int k n), hfk, hz.h]
    · have hfk := Fnd_run hk'.h h2 w
      rw [h1]
      simp [execOp, ho, hρ m _ hm, hρ x _ hx, Instr.lookup, run_underlying hu.h, Go.MapKept.run_getObj_map (hmem.at_ hi), keyX_run (bs := []) hk'.h hkey (.int k n), hfk])
end
end Go.Proofs.Ytmdiabglbmgkkaa
namespace Go.Proofs.Ytmdiabglbmgkkaa
open Go.RowKit
structure MapI (k : IntKind) (es : Array MapEntry) (cl : Nat) (ps : List (Int × Value)) : Prop where
  ents : Ents k es.toList ps
  keys : (ps.map Prod.fst).Nodup
  born : (es.toList.map (·.born)).Nodup
  below : ∀ e ∈ es.toList, e.born < cl
theorem MapI.empty (k : IntKind) : MapI k #[] 0 [] := ⟨rfl, .nil, .nil, nofun⟩
def aDel (m : List (Int × Value)) (x : Int) : List (Int × Value) := m.filter fun p => decide (p.1 ≠ x)
theorem aGet_none {m : List (Int × Value)} {x : Int} : aGet m x = none ↔ x ∉ m.map Prod.fst := by
  induction m with
  | nil => simp [aGet]
  | cons p r ih =>
    simp only [aGet, List.map_cons, List.mem_cons]
    by_cases h : x = p.1
    · rw [if_pos h]; simp [h]
    · rw [if_neg h, ih]; simp [h]
theorem aPut_keys {m : List (Int × Value)} {x : Int} {v : Value} (hn : (m.map Prod.fst).Nodup) : ((aPut m x v).map Prod.fst).Nodup := by
  induction m with
  | nil => simp [aPut]
  | cons p r ih =>
    obtain ⟨h1, h2⟩ := List.nodup_cons.1 hn
    simp only [aPut]
    by_cases h : x = p.1
    · rw [if_pos h]
      exact List.nodup_cons.2 ⟨by rw [h]; exact h1, h2⟩
    · rw [if_neg h]
      refine List.nodup_cons.2 ⟨fun hm => ?_, ih h2⟩
      obtain ⟨q, hq, e⟩ := List.mem_map.1 hm
      have : aGet (aPut r x v) p.1 ≠ none := fun hz => aGet_none.1 hz (List.mem_map.2 ⟨q, hq, e⟩)
      rw [aGet_put, if_neg (by omega)] at this
      exact this (aGet_none.2 h1)
theorem aDel_keys {m : List (Int × Value)} {x : Int} (hn : (m.map Prod.fst).Nodup) : ((aDel m x).map Prod.fst).Nodup := hn.sublist ((List.filter_sublist).map _)
theorem Ents_erase {k : IntKind} : ∀ {es : List MapEntry} {m : List (Int × Value)} {x : Int} {j : Nat} {e : MapEntry}, Ents k es m → (m.map Prod.fst).Nodup → es[j]? = some e → e.key = .int k x → Ents k (es.eraseIdx j) (aDel m x)
  | [], _, _, _, _, _, _, hj, _ => by simp at hj
  | e :: es, [], _, _, _, h, _, _, _ => by simp [Ents] at h
  | e :: es, p :: r, x, j, e', h, hn, hj, hk => by
    obtain ⟨h1, h2⟩ := List.nodup_cons.1 hn
    simp only [Ents, List.map_cons, List.cons.injEq, Prod.mk.injEq] at h
    obtain ⟨⟨hkk, hv⟩, hr⟩ := h
    cases j with
    | zero =>
      obtain rfl : e = e' := by simpa using hj
      rw [hkk] at hk
      have hx : p.1 = x := by simpa using hk
      have hno : r.filter (fun p => decide (p.1 ≠ x)) = r := List.filter_eq_self.2 fun q hq => by
        have : q.1 ≠ x := fun e => h1 (List.mem_map.2 ⟨q, hq, by rw [e, hx]⟩)
        simpa using this
      unfold aDel
      rw [List.filter_cons_of_neg (by simp [hx]), hno]
      exact hr
    | succ j =>
      have ih := Ents_erase (k := k) (x := x) (j := j) (e := e') (show Ents k es r from hr) h2 (by simpa using hj) hk
      have hx : p.1 ≠ x := fun ex => h1 (by
        have hj' : es[j]? = some e' := by simpa using hj
        have hm : (e'.key, e'.val) ∈ r.map fun p => (Value.int k p.1, p.2) := by
          rw [← hr]
          exact List.mem_map.2 ⟨e', List.mem_of_getElem? hj', rfl⟩
        obtain ⟨q, hq, hqe⟩ := List.mem_map.1 hm
        have : Value.int k q.1 = .int k x := (congrArg Prod.fst hqe).trans hk
        have : q.1 = x := by simpa using this
        exact List.mem_map.2 ⟨q, hq, by rw [this, ex]⟩)
      unfold aDel at ih ⊢
      rw [List.filter_cons_of_pos (by simp [hx]), List.eraseIdx_cons_succ]
      simp only [Ents, List.map_cons, hkk, hv]
      rw [show _ = _ from ih]
theorem modify_born {es : Array MapEntry} {j : Nat} {n : Value} {v : Value} : ((es.modify j fun e => { e with key := n, val := v }).toList.map (·.born)) = es.toList.map (·.born) := by
  apply List.ext_getElem?
  intro q
  simp only [List.getElem?_map, Array.getElem?_toList, Array.getElem?_modify]
  by_cases h : j = q
  · subst h
    rw [if_pos rfl]
    cases es[j]? <;> rfl
  · rw [if_neg h]
section
variable {c : Cx} {o : Oper} {Kn : St → Prop} {K : Exit → St → Prop} {s : List (Nat × Value)} {D : List Deferred} {L : List (Nat × Obj)}
theorem OW_mapPut {t kt vt : TypeId} {k k' : IntKind} [hu : TUnd c.P t (.map kt vt)] [hk' : TUnd c.P kt (.int k')] {m x y : Operand} {b cl i : Nat} {es : Array MapEntry} {ps : List (Int × Value)} {n : Int} {v : Value} (ho : o.op = .mapUpdate t m x y) (hm : ev s m = some (.map (some b))) (hx : ev s x = some (.int k n)) (hy : ev s y = some v) (hi : L[i]? = some (b, .map es cl)) (he : MapI k es cl ps)
    (hK : ∀ es' cl', MapI k es' cl' (aPut ps n v) → Kn ⟨s, D, L.set i (b, .map es' cl')⟩) (hdst : o.dst = none := by exact rfl) : OW c o Kn K ⟨s, D, L⟩ := by
  have fin : ∀ (es2 : Array MapEntry) (cl2 : Nat), MapI k es2 cl2 (aPut ps n v) → (∀ a w, Holds c.g c.N ⟨s, D, L⟩ a w → (execOp a.eval o).run c.P w = .ok .skip (w.putObj b (.map es2 cl2))) → OW c o Kn K ⟨s, D, L⟩ := by
    intro es2 cl2 hm hrun a w ha
    refine ⟨fun _ _ => trivial, ?_⟩
    rw [Oper.semAt_eq _ _ _ (by rw [ho]; intro cc h; cases h), hrun a w ha]
    refine ⟨_, ?_, hK es2 cl2 hm⟩
    rw [hdst]; exact ha.mem' (ha.mem.putObj hi _)
  have hkey : keyX c.P kt (.int k') (.int k n) = true := rfl
  rcases Ents_find (P := c.P) (kt := kt) (k' := k') (x := n) 0 he.ents with ⟨h1, h2⟩ | ⟨v0, j, e, h1, h2, h3, h4, h5, h6⟩
  · refine fin (es.push { key := .int k n, val := v, born := cl }) (cl + 1) ⟨?_, aPut_keys he.keys, ?_, ?_⟩ fun a w ha => ?_
    · have e := aPut_none (v := v) h1
      rw [e]
      simp only [Ents, Array.toList_push, List.map_append, List.map_cons, List.map_nil]
      rw [show _ = _ from he.ents]
    · rw [Array.toList_push, List.map_append, List.nodup_append]
      refine ⟨he.born, by simp, fun a ha b hb => ?_⟩
      obtain ⟨e, hem, rfl⟩ := List.mem_map.1 ha
      have := he.below e hem
      simp at hb
      omega
    · intro e hem
      rw [Array.toList_push] at hem
      rcases List.mem_append.1 hem with h | h
      · have := he.below e h; omega
      · obtain rfl : e = _ := by simpa using h
        exact Nat.lt_succ_self _
    · have hfk := Fnd_run hk'.h h2 w
      simp [execOp, ho, ha.ev hm, ha.ev hx, ha.ev hy, Instr.mapUpdate, run_underlying hu.h, Go.MapKept.run_getObj_map (ha.mem.at_ hi), keyX_run (bs := []) hk'.h hkey (.int k n), hfk, Go.MapKept.run_setObj_map _ (ha.mem.at_ hi), World.putObj]
  · have hj : es[j]? = some e := by simpa using h3
    have hlist : (es.modify j fun e => { e with key := .int k n, val := v }).toList = es.toList.set j { e with key := .int k n, val := v } := by
      apply List.ext_getElem?
      intro q
      rw [Array.getElem?_toList, Array.getElem?_modify, List.getElem?_set, Array.getElem?_toList]
      by_cases hq : j = q
      · subst hq
        have hlt := (Array.getElem?_eq_some_iff.1 hj).1
        rw [if_pos rfl, if_pos rfl, if_pos (by simpa using hlt), hj]; rfl
      · rw [if_neg hq, if_neg hq]
    refine fin (es.modify j fun e => { e with key := .int k n, val := v }) cl ⟨?_, aPut_keys he.keys, ?_, ?_⟩ fun a w ha => ?_
    · rw [hlist]; exact h6 v
    · rw [modify_born]; exact he.born
    · intro e' hem
      have : e'.born ∈ (es.modify j fun e => { e with key := .int k n, val := v }).toList.map (·.born) := List.mem_map.2 ⟨e', hem, rfl⟩
      rw [modify_born] at this
      obtain ⟨e2, h2', h3'⟩ := List.mem_map.1 this
      rw [← h3']
      exact he.below e2 h2'
    · have hfk := Fnd_run hk'.h h2 w
      have hs : sameX c.P kt (.int k') (.int k n) (.int k n) = some true := by simp [sameX, V.scal, Instr.sameNow]
      have hks := keyThatStays_run (P := c.P) (bs := []) hs (.int k n) (p' := e.key) (by rw [h5]; exact .int k n) w
      simp only [Nat.zero_add] at hfk
      simp [execOp, ho, ha.ev hm, ha.ev hx, ha.ev hy, Instr.mapUpdate, run_underlying hu.h, Go.MapKept.run_getObj_map (ha.mem.at_ hi), keyX_run (bs := []) hk'.h hkey (.int k n), hfk, hj, hks, Go.MapKept.run_setObj_map _ (ha.mem.at_ hi), World.putObj]
theorem OW_mapDel {t kt kt' vt : TypeId} {k k' : IntKind} [hu : TUnd c.P t (.map kt vt)] [hk' : TUnd c.P kt (.int k')] {m x : Operand} {b cl i : Nat} {es : Array MapEntry} {ps : List (Int × Value)} {n : Int} (ho : o.op = .call { callee := .builtin .delete, args := #[m, x], argTypes := #[t, kt'] }) (hm : ev s m = some (.map (some b))) (hx : ev s x = some (.int k n)) (hi : L[i]? = some (b, .map es cl)) (he : MapI k es cl ps)
    (hK : ∀ es', MapI k es' cl (aDel ps n) → Kn ⟨s, D, L.set i (b, .map es' cl)⟩) (hdst : o.dst = none := by exact rfl) : OW c o Kn K ⟨s, D, L⟩ := by
  have fin : ∀ (es2 : Array MapEntry), MapI k es2 cl (aDel ps n) → (∀ a w, Holds c.g c.N ⟨s, D, L⟩ a w → (execOp a.eval o).run c.P w = .ok (.value (.tuple #[])) (w.putObj b (.map es2 cl))) → OW c o Kn K ⟨s, D, L⟩ := by
    intro es2 hm hrun a w ha
    refine ⟨fun _ _ => trivial, ?_⟩
    rw [Oper.semAt_eq _ _ _ (by rw [ho]; intro cc h; cases h), hrun a w ha]
    refine ⟨_, ?_, hK es2 hm⟩
    rw [hdst]; exact ha.mem' (ha.mem.putObj hi _)
  have hkey : keyX c.P kt (.int k') (.int k n) = true := rfl
  rcases Ents_find (P := c.P) (kt := kt) (k' := k') (x := n) 0 he.ents with ⟨h1, h2⟩ | ⟨v0, j, e, h1, h2, h3, h4, h5, h6⟩
  · have hsame : aDel ps n = ps := List.filter_eq_self.2 fun q hq => by
      have : q.1 ≠ n := fun e => aGet_none.1 h1 (List.mem_map.2 ⟨q, hq, e⟩)
      simpa using this
    refine fin es (by rw [hsame]; exact he) fun a w ha => ?_
    have hfk := Fnd_run hk'.h h2 w
    simp [execOp, ho, resolve, invoke, builtin, ha.ev hm, ha.ev hx, Builtin.delete_, run_underlying hu.h, Go.MapKept.run_getObj_map (ha.mem.at_ hi), keyX_run (bs := []) hk'.h hkey (.int k n), hfk, Go.MapKept.run_setObj_map _ (ha.mem.at_ hi), World.putObj]
  · have hj : es[j]? = some e := by simpa using h3
    have hjl : j < es.size := (Array.getElem?_eq_some_iff.1 hj).1
    have hlist : (es.eraseIdxIfInBounds j).toList = es.toList.eraseIdx j := by
      unfold Array.eraseIdxIfInBounds
      rw [dif_pos hjl]
      simp
    refine fin (es.eraseIdxIfInBounds j) ⟨by rw [hlist]; exact Ents_erase he.ents he.keys h3 h5, aDel_keys he.keys, ?_, ?_⟩ fun a w ha => ?_
    · rw [hlist]
      exact he.born.sublist ((List.eraseIdx_sublist ..).map _)
    · intro e' hem
      rw [hlist] at hem
      exact he.below e' ((List.eraseIdx_sublist ..).subset hem)
    · have hfk := Fnd_run hk'.h h2 w
      simp only [Nat.zero_add] at hfk
      simp [execOp, ho, resolve, invoke, builtin, ha.ev hm, ha.ev hx, Builtin.delete_, run_underlying hu.h, Go.MapKept.run_getObj_map (ha.mem.at_ hi), keyX_run (bs := []) hk'.h hkey (.int k n), hfk, Go.MapKept.run_setObj_map _ (ha.mem.at_ hi), World.putObj]
theorem Qt_lookC {t kt vt : TypeId} {k k' : IntKind} {z : Value} [hu : TUnd c.P t (.map kt vt)] [hk' : TUnd c.P kt (.int k')] [hz : TZero c.P vt z] {m x : Operand} {b cl i : Nat} {es : Array MapEntry} {ps : List (Int × Value)} {n : Int} (ho : o.op = .lookup t m x true) (hi : L[i]? = some (b, .map es cl)) (he : MapI k es cl ps) (hm : ev s m = some (.map (some b)) := by exact rfl) (hx : ev s x = some (.int k n) := by exact rfl) : Qt c s L o (.tuple #[(aGet ps n).getD z, .bool (aGet ps n).isSome]) :=
  Qt_of_run (by simp [ho]) (fun ρ hρ w hmem => by
    have hkey : keyX c.P kt (.int k') (.int k n) = true := rfl
    rcases Ents_find (P := c.P) (kt := kt) (k' := k') (x := n) 0 he.ents with ⟨h1, h2⟩ | ⟨v0, j, e, h1, h2, h3, h4, h5, h6⟩
    · have hfk := Fnd_run hk'.h h2 w
      rw [h1]
      simp [execOp, ho, hρ m _ hm, hρ x _ hx, Instr.lookup, run_underlying hu.h, Go.MapKept.run_getObj_map (hmem.at_ hi), keyX_run (bs := []) hk'.h hkey (.int k n), hfk, hz.h]
    · have hfk := Fnd_run hk'.h h2 w
      rw [h1]
      simp [execOp, ho, hρ m _ hm, hρ x _ hx, Instr.lookup, run_underlying hu.h, Go.MapKept.run_getObj_map (hmem.at_ hi), keyX_run (bs := []) hk'.h hkey (.int k n), hfk])
def IterI (k : IntKind) (es : Array MapEntry) (seen : Array Nat) (todo : List (Int × Value)) : Prop := Ents k (leftOf es seen).toList todo
theorem OW_rangeMap {t kt vt d : TypeId} {k : IntKind} [hu : TUnd c.P t (.map kt vt)] {m : Operand} {b cl i : Nat} {es : Array MapEntry} {ps : List (Int × Value)} (ho : o.op = .range t m) (hm : ev s m = some (.map (some b))) (hi : L[i]? = some (b, .map es cl)) (he : MapI k es cl ps)
    (hK : ∀ r, IterI k es #[] ps → Kn ⟨(d, .pointer (some ⟨r, 0, none⟩)) :: s, D, (r, .mapIter (some b) cl #[] cl) :: L⟩) (hdst : o.dst = some d := by exact rfl) (hd : Nat.blt d c.N = true := by exact rfl) : OW c o Kn K ⟨s, D, L⟩ := fun a w ha => by
  refine ⟨fun _ _ => trivial, ?_⟩
  have hr : (execOp a.eval o).run c.P w = .ok (.value (.pointer (some ⟨w.heap.size, 0, none⟩))) (w.alloc (.mapIter (some b) cl #[] cl)) := by
    have := run_range_map (P := c.P) w t kt vt b es cl hu.h (ha.mem.at_ hi)
    simp [execOp, ho, ha.ev hm, this]
  rw [Oper.semAt_eq _ _ _ (by rw [ho]; intro cc h; cases h), hr]
  refine ⟨_, ?_, hK w.heap.size ?_⟩
  · rw [hdst]
    exact (ha.mem' (ha.mem.alloc _)).put (d := some d) hd _
  · have : leftOf es #[] = es := Array.filter_eq_self.2 fun x _ => by simp
    unfold IterI
    rw [this]
    exact he.ents
theorem leftOf_push {es : Array MapEntry} {seen : Array Nat} {x : Nat} : (leftOf es (seen.push x)).toList = (leftOf es seen).toList.filter fun e => decide (e.born ≠ x) := by
  unfold leftOf
  rw [Array.toList_filter, Array.toList_filter, List.filter_filter]
  congr 1
  funext e
  simp [Bool.and_comm]
theorem Ents_split {k : IntKind} : ∀ {l : List MapEntry} {m : List (Int × Value)} {e : MapEntry}, Ents k l m → (l.map (·.born)).Nodup → e ∈ l → ∃ A x v B, m = A ++ (x, v) :: B ∧ e.key = .int k x ∧ e.val = v ∧ Ents k (l.filter fun e' => decide (e'.born ≠ e.born)) (A ++ B)
  | [], _, _, _, _, h => by simp at h
  | e :: l, [], _, h, _, _ => by simp [Ents] at h
  | e :: l, p :: r, e', h, hn, hm => by
    obtain ⟨h1, h2⟩ := List.nodup_cons.1 hn
    simp only [Ents, List.map_cons, List.cons.injEq, Prod.mk.injEq] at h
    obtain ⟨⟨hk, hv⟩, hr⟩ := h
    rcases List.mem_cons.1 hm with rfl | hm'
    · refine ⟨[], p.1, p.2, r, rfl, hk, hv, ?_⟩
      rw [List.filter_cons_of_neg (by simp)]
      have : l.filter (fun e => decide (e.born ≠ e'.born)) = l := List.filter_eq_self.2 fun q hq => by
        have : q.born ≠ e'.born := fun ex => h1 (List.mem_map.2 ⟨q, hq, ex⟩)
        simpa using this
      rw [this]
      exact hr
    · obtain ⟨A, x, v, B, hAB, h3, h4, h5⟩ := Ents_split (k := k) (show Ents k l r from hr) h2 hm'
      have hne : e.born ≠ e'.born := fun ex => h1 (List.mem_map.2 ⟨e', hm', ex.symm⟩)
      refine ⟨p :: A, x, v, B, by rw [hAB]; rfl, h3, h4, ?_⟩
      rw [List.filter_cons_of_pos (by simpa using hne)]
      simp only [Ents, List.cons_append, List.map_cons, hk, hv]
      rw [show _ = _ from h5]
def LastI (k : IntKind) (es : Array MapEntry) (seen : Array Nat) (n : Int) (v : Value) : Prop := ∃ e ∈ es.toList, ∃ s0 : Array Nat, seen = s0.push e.born ∧ e.key = .int k n ∧ e.val = v
theorem OW_nextMap {d : Nat} {k : IntKind} {x : Operand} {b r cl i j : Nat} {es : Array MapEntry} {seen : Array Nat} {ps todo : List (Int × Value)} (ho : o.op = .next x false) (hx : ev s x = some (.pointer (some ⟨r, 0, none⟩))) (hi : L[i]? = some (r, .mapIter (some b) cl seen cl)) (hj : L[j]? = some (b, .map es cl)) (he : MapI k es cl ps) (ht : IterI k es seen todo)
    (hEnd : todo = [] → Kn ⟨(d, .tuple #[.bool false]) :: s, D, L⟩)
    (hOne : ∀ A n v B seen', todo = A ++ (n, v) :: B → IterI k es seen' (A ++ B) → LastI k es seen' n v → Kn ⟨(d, .tuple #[.bool true, .int k n, v]) :: s, D, L.set i (r, .mapIter (some b) cl seen' cl)⟩) (hdst : o.dst = some d := by exact rfl) (hd : Nat.blt d c.N = true := by exact rfl) : OW c o Kn K ⟨s, D, L⟩ := fun a w ha => by
  refine ⟨fun _ _ => trivial, ?_⟩
  have hr := run_next_at (P := c.P) w o.type r b cl cl seen es cl (ha.mem.at_ hi) (ha.mem.at_ hj) he.below (Nat.le_refl _)
  rcases hr with ⟨h0, hr⟩ | ⟨e, hem, w1, hw1, hr⟩
  · have hr' : (execOp a.eval o).run c.P w = .ok (.value (.tuple #[.bool false])) w := by simp [execOp, ho, ha.ev hx, hr]
    rw [Oper.semAt_eq _ _ _ (by rw [ho]; intro cc h; cases h), hr']
    refine ⟨_, ?_, hEnd ?_⟩
    · rw [hdst]
      exact ha.put (d := some d) hd _
    · have hl : (leftOf es seen).toList = [] := by
        apply List.eq_nil_of_length_eq_zero
        simpa using h0
      have : Ents k [] todo := by have := ht; unfold IterI at this; rwa [hl] at this
      cases todo with
      | nil => rfl
      | cons p q => simp [Ents] at this
  · have hr' : (execOp a.eval o).run c.P w = .ok (.value (.tuple #[.bool true, e.key, e.val])) (Go.ChangeMaps.setBlock w1 r (.mapIter (some b) cl (seen.push e.born) cl)) := by simp [execOp, ho, ha.ev hx, hr]
    rw [Oper.semAt_eq _ _ _ (by rw [ho]; intro cc h; cases h), hr']
    have hnd : ((leftOf es seen).toList.map (·.born)).Nodup := by
      unfold leftOf
      rw [Array.toList_filter]
      exact he.born.sublist ((List.filter_sublist).map _)
    obtain ⟨A, n, v, B, hAB, h3, h4, h5⟩ := Ents_split ht hnd hem
    rw [← leftOf_push] at h5
    have hes : e ∈ es.toList := by
      unfold leftOf at hem
      rw [Array.toList_filter] at hem
      exact (List.mem_filter.1 hem).1
    refine ⟨_, ?_, hOne A n v B _ hAB h5 ⟨e, hes, seen, rfl, h3, h4⟩⟩
    rw [hdst, h3, h4]
    have hm1 : Mem c.g L w1 := by
      rcases hw1 with rfl | rfl
      · exact ha.mem
      · exact ha.mem.drew
    have hm2 : Mem c.g (L.set i (r, .mapIter (some b) cl (seen.push e.born) cl)) (Go.ChangeMaps.setBlock w1 r (.mapIter (some b) cl (seen.push e.born) cl)) := hm1.putObj hi _
    exact (ha.mem' hm2).put (d := some d) hd _
theorem Qt_entry {k : IntKind} {x : Operand} {b r cl i j : Nat} {es : Array MapEntry} {seen : Array Nat} {ps : List (Int × Value)} {n : Int} {v : Value} (ho : o.op = .entry x) (hi : L[i]? = some (r, .mapIter (some b) cl seen cl)) (hj : L[j]? = some (b, .map es cl)) (he : MapI k es cl ps) (hl : LastI k es seen n v) (hx : ev s x = some (.pointer (some ⟨r, 0, none⟩)) := by exact rfl) : Qt c s L o (.tuple #[.int k n, v]) :=
  Qt_of_run (by simp [ho]) (fun ρ hρ w hmem => by
    obtain ⟨e, he1, s0, rfl, h3, h4⟩ := hl
    have hr := run_entry_at (P := c.P) w r b cl s0 es cl e (hmem.at_ hi) (hmem.at_ hj) he1 he.born
    rw [h3, h4] at hr
    simp [execOp, ho, hρ x _ hx, hr])
end
end Go.Proofs.Ytmdiabglbmgkkaa
namespace Go.Proofs.Ytmdiabglbmgkkaa
open Go.RowKit
theorem WC_rangeX {α : Type} {P : Program} {g : World} {N n : Nat} {x : Operand} {ps : Array Nat} {assign body : Code} {K : Exit → St → Prop} {s : List (Nat × Value)} {D : List Deferred} {L : List (Nat × Obj)} {gf : Nat} {fs lb : Array Value} [hf : FCall P gf]
    (hx : ev s x = some (.func (.func gf) fs lb)) (enc : α → List Value) (hps : ∀ y, (enc y).length = ps.size) (hpn : (ps.toList.all fun p => Nat.blt p N) = true)
    (Dom : List α → α → Prop) (Fin : List α → Prop) (I : List α → List (Nat × Obj) → Prop) (Ix : Code → List (Nat × Obj) → Prop)
    (hit : ∀ (l d : Nat) (o1 o2 : Obj) (Jx : List (Nat × Obj) → Prop),
      (∀ X pre y L', Dom pre y → I pre L' → YieldFn P l (enc y) ((l, o1) :: (d, o2) :: (L' ++ X)) (fun v L2 => (v = .bool true ∧ ∃ L'', L2 = (l, o1) :: (d, o2) :: (L'' ++ X) ∧ I (pre ++ [y]) L'') ∨ (v = .bool false ∧ Jx L2))) →
      Fn P gf (fs.toList ++ [.func (.yield l) #[] #[]] ++ lb.toList) ((l, o1) :: (d, o2) :: L) (fun _ L2 => (∃ xs L', Fin xs ∧ L2 = (l, o1) :: (d, o2) :: L' ∧ I xs L') ∨ Jx L2))
    (hbody : ∀ X g' n' l d pre y L', Dom pre y → I pre L' → RoundOk ⟨P, g', N, n', none⟩ l d assign body ⟨zipS ps.toList (enc y) s, [], L' ++ X⟩ (L' ++ X) (fun L3 => ∃ L'', L3 = L'' ++ X ∧ I (pre ++ [y]) L'') Ix)
    (hdone : ∀ d xs L', Fin xs → I xs L' → K .normal ⟨s, markD d :: D, (d, .deferred (some [])) :: L'⟩)
    (hstop : ∀ d cj L', Ix cj L' → WC ⟨P, g, N, n, none⟩ cj K ⟨s, markD d :: D, (d, .deferred (some [])) :: L'⟩) :
    WC ⟨P, g, N, n, none⟩ (.rangeFunc x ps assign body) K ⟨s, D, L⟩ := fun a w ha => by
  refine wpIn_rangeFunc ?_
  intro fn _
  obtain ⟨rec, hrec⟩ : ∃ rec : LoopState → Option Code → Loop, rec = fun st pe => { state := st, pending := pe, fn, tmps := a.tmps, params := ps, assign, body, defers := w.heap.size } := ⟨_, rfl⟩
  obtain ⟨W1, hW1⟩ : ∃ W1, (w.alloc (.deferred (some []))).alloc (.loop (rec .ready none)) = W1 := ⟨_, rfl⟩
  have hm1 : Mem g ((w.heap.size + 1, .loop (rec .ready none)) :: (w.heap.size, .deferred (some [])) :: L) W1 := by
    have := (ha.mem.alloc (.deferred (some []))).alloc (.loop (rec .ready none))
    rw [World.size_alloc] at this
    rw [← hW1]; exact this
  refine ⟨w.heap.size + 1, [markD w.heap.size], W1, { target := .fn (.func gf) lb, args := fs ++ #[.func (.yield (w.heap.size + 1)) #[] #[]] }, W1, gf, fs ++ #[.func (.yield (w.heap.size + 1)) #[] #[]] ++ lb, W1, ?_, ?_, fun _ _ => trivial, ?_, fun h => by simp at h, ?_⟩
  · rw [← hW1, hrec]; exact run_enterLoop_outer _ _ _ _ _
  · have := ha.ev hx
    simp [resolve, this, Deferred.ofValue, show ∀ v, a.eval (.const v) = v from fun _ => rfl]
  · simp [invoke, hf.h]
  · generalize hl : w.heap.size + 1 = l at hm1 ⊢
    generalize hd : w.heap.size = d at hm1 ⊢
    let Jx : List (Nat × Obj) → Prop := fun L2 => ∃ cj L', L2 = (l, .loop (rec .done (some cj))) :: (d, .deferred (some [])) :: L' ∧ Ix cj L'
    have hcall := hit l d (.loop (rec .ready none)) (.deferred (some [])) Jx ?_
    · have e : (fs.toList ++ [Value.func (.yield l) #[] #[]] ++ lb.toList).toArray = fs ++ #[.func (.yield l) #[] #[]] ++ lb := by apply Array.ext'; simp
      have hc := callsIn_fw none (n - 1) (hcall g W1 hm1)
      rw [e] at hc
      refine hc.mono fun e w' ⟨v, L2, h1, h2, h3⟩ => ?_
      subst h1
      rcases h3 with ⟨xs, L', hfin, rfl, hI⟩ | ⟨cj, L', rfl, hI⟩
      · have hlp := h2.at_ (i := 0) rfl
        have hpd : (rec .ready none).pending = none := by rw [hrec]
        obtain ⟨w4, hen, hm4⟩ : ∃ w4, (Instr.endLoop l).run P w' = .ok (rec .ready none).pending w4 ∧ Mem g ((d, .deferred (some [])) :: L') w4 :=
          ⟨_, run_endLoop (P := P) hlp (by rw [hrec]; simp), (h2.putObj (i := 0) rfl (.loop { rec .ready none with state := .exhausted })).sublist (.cons _ (.refl _))⟩
        rw [hpd] at hen
        exact ⟨none, w4, hen, ⟨s, markD d :: D, (d, .deferred (some [])) :: L'⟩, ⟨ha.size, ha.slots, by show markD d :: a.defers = _; rw [ha.defers], hm4⟩, hdone d xs L' hfin hI⟩
      · have hlp := h2.at_ (i := 0) rfl
        have hpd : (rec .done (some cj)).pending = some cj := by rw [hrec]
        obtain ⟨w4, hen, hm4⟩ : ∃ w4, (Instr.endLoop l).run P w' = .ok (rec .done (some cj)).pending w4 ∧ Mem g ((d, .deferred (some [])) :: L') w4 :=
          ⟨_, run_endLoop (P := P) hlp (by rw [hrec]; simp), (h2.putObj (i := 0) rfl (.loop { rec .done (some cj) with state := .exhausted })).sublist (.cons _ (.refl _))⟩
        rw [hpd] at hen
        exact ⟨some cj, w4, hen, hstop d cj L' hI _ _ ⟨ha.size, ha.slots, by show markD d :: a.defers = _; rw [ha.defers], hm4⟩⟩
    · -- one round
      rintro X pre y L' hdom hI g2 w2 m hm
      have hy := run_yield (P := P) (w := w2) (args := (enc y).toArray) (hm.at_ (i := 0) rfl) (by rw [hrec]; simpa using hps y)
      have e1 : (rec .ready none).fn = fn ∧ (rec .ready none).assign = assign ∧ (rec .ready none).body = body ∧ (rec .ready none).params = ps ∧ (rec .ready none).tmps = a.tmps := by rw [hrec]; exact ⟨rfl, rfl, rfl, rfl, rfl⟩
      rw [e1.1, e1.2.1, e1.2.2.1, e1.2.2.2.1, e1.2.2.2.2] at hy
      refine ⟨fn, _, assign, body, hy, roundIn_of_wpIn trivial ?_⟩
      have hz := holds_zip (g := g2) (w := w2) (N := N) (D := []) (L := (l, .loop (rec .ready none)) :: (d, .deferred (some [])) :: (L' ++ X)) ps.toList (enc y) s { tmps := a.tmps, defers := [] } hpn ⟨ha.size, ha.slots, rfl, hm⟩
      have e2 : (ps.toList.zip (enc y)).foldl (fun t (q : Nat × Value) => t.setIfInBounds q.1 q.2) a.tmps = (ps.zip (enc y).toArray).foldl (fun tmps (q : Nat × Value) => tmps.setIfInBounds q.1 q.2) a.tmps := by
        rw [← Array.foldl_toList, Array.toList_zip]
      simp only [e2] at hz
      refine Go.wpIn_mono (hbody X g2 m l d pre y L' hdom hI (.loop (rec .ready none)) (.deferred (some [])) ⟨_, rfl⟩ _ w2 hz) (fun e a3 w3 hl3 => ?_)
      cases e with
      | normal =>
        obtain ⟨σ', hH, _, s', A, B, rfl, hnext⟩ := hl3
        have hat : (A ++ (l, Obj.loop (rec .ready none)) :: B)[A.length]? = some (l, .loop (rec .ready none)) := by simp
        have hlp := hH.mem.at_ hat
        have hb := run_beginRound (P := P) hlp (by rw [hrec])
        refine ⟨_, hb, ?_⟩
        have hm4 := hH.mem.putObj hat (.loop { rec .ready none with state := .busy })
        have e3 : (A ++ (l, Obj.loop (rec .ready none)) :: B).set A.length (l, .loop { rec .ready none with state := .busy }) = A ++ (l, .loop { rec .ready none with state := .busy }) :: B := by simp
        simp only [e3] at hm4
        have hH4 : Holds g2 N ⟨s', [], A ++ (l, .loop { rec .ready none with state := .busy }) :: B⟩ a3 _ := ⟨hH.size, hH.slots, hH.defers, hm4⟩
        refine Go.wpIn_mono (hnext _ ⟨_, rfl⟩ _ _ hH4) (fun e a5 w5 hl5 => ?_)
        have fin : ∀ (jump : Option Code) (L'' : List (Nat × Obj)), Mem g2 ((l, .loop { rec .ready none with state := .busy }) :: (d, .deferred (some [])) :: L'') w5 →
            ∃ w6, (Instr.endRound l jump).run P w5 = .ok (.bool jump.isNone) w6 ∧ Mem g2 ((l, .loop (rec (if jump.isNone then .ready else .done) jump)) :: (d, .deferred (some [])) :: L'') w6 := fun jump L'' hm5 => by
          have h1 := run_endRound (P := P) jump (hm5.at_ (i := 0) rfl)
          have h2 := hm5.putObj (i := 0) rfl (.loop { ({ rec .ready none with state := .busy } : Loop) with state := if jump.isNone then .ready else .done, pending := jump })
          refine ⟨_, h1, ?_⟩
          have e4 : ({ ({ rec .ready none with state := .busy } : Loop) with state := if jump.isNone then .ready else .done, pending := jump } : Loop) = rec (if jump.isNone then .ready else .done) jump := by rw [hrec]
          rw [e4] at h2 ⊢
          exact h2
        cases e with
        | normal =>
          obtain ⟨σ'', h1, _, h2, L3, rfl, h3⟩ := hl5
          obtain ⟨w6, h4, h5⟩ := fin none (L3 ++ X) (h1.mem.sublist h2)
          exact ⟨_, w6, h4, _, _, rfl, h5, .inl ⟨rfl, L3, rfl, h3⟩⟩
        | ret =>
          obtain ⟨σ'', h1, L'', h2, h3⟩ := hl5
          obtain ⟨w6, h4, h5⟩ := fin (some .ret) L'' (h1.mem.sublist h2)
          exact ⟨_, w6, h4, _, _, rfl, h5, .inr ⟨rfl, .ret, L'', rfl, h3⟩⟩
        | exit id =>
          obtain ⟨σ'', h1, L'', h2, h3⟩ := hl5
          obtain ⟨w6, h4, h5⟩ := fin (some (.exit id)) L'' (h1.mem.sublist h2)
          exact ⟨_, w6, h4, _, _, rfl, h5, .inr ⟨rfl, .exit id, L'', rfl, h3⟩⟩
        | goto t =>
          obtain ⟨σ'', h1, L'', h2, h3⟩ := hl5
          obtain ⟨w6, h4, h5⟩ := fin (some (.goto t)) L'' (h1.mem.sublist h2)
          exact ⟨_, w6, h4, _, _, rfl, h5, .inr ⟨rfl, .goto t, L'', rfl, h3⟩⟩
        | panic ch => obtain ⟨_, _, h⟩ := hl5; exact h.elim
        | outgrown => obtain ⟨_, _, h⟩ := hl5; exact h.elim
      | panic ch => obtain ⟨_, _, h, _⟩ := hl3; cases h
      | ret => obtain ⟨_, _, h, _⟩ := hl3; cases h
      | exit id => obtain ⟨_, _, h, _⟩ := hl3; cases h
      | goto t => obtain ⟨_, _, h, _⟩ := hl3; cases h
      | outgrown => obtain ⟨_, _, h, _⟩ := hl3; cases h
end Go.Proofs.Ytmdiabglbmgkkaa
namespace Go.Proofs.Ytmdiabglbmgkkaa
instance : TSize Try.prog 3 1 := ⟨Try.sizeOf3⟩
instance : TAgg Try.prog 3 false := ⟨Try.isAgg3⟩
theorem row3 : (Try.prog.info? 3).map (fun i => (i.size, i.bytes)) = some (1, 8) := by kernel_rfl
instance : TUnd Try.prog 3 (.int Go.IntKind.i64) := ⟨Try.underlying3⟩
instance : TUnd Try.prog 4 .bool := ⟨Try.underlying4⟩
instance : TSize Try.prog 5 1 := ⟨Try.sizeOf5⟩
instance : TAgg Try.prog 5 false := ⟨Try.isAgg5⟩
theorem row5 : (Try.prog.info? 5).map (fun i => (i.size, i.bytes)) = some (1, 1) := by kernel_rfl
instance : TUnd Try.prog 5 (.int Go.IntKind.u8) := ⟨Try.underlying5⟩
instance : TUnd Try.prog 9 .string := ⟨Try.underlying9⟩
instance : TAgg Try.prog 24 false := ⟨Try.isAgg24⟩
instance : TUnd Try.prog 24 (.pointer 68) := ⟨Try.underlying24⟩
instance : TSize Try.prog 34 1 := ⟨Try.sizeOf34⟩
instance : TAgg Try.prog 34 false := ⟨Try.isAgg34⟩
instance : TUnd Try.prog 34 (.slice 3) := ⟨Try.underlying34⟩
instance : TSize Try.prog 44 1 := ⟨Try.sizeOf44⟩
instance : TAgg Try.prog 44 false := ⟨Try.isAgg44⟩
instance : TUnd Try.prog 44 (.slice 5) := ⟨Try.underlying44⟩
instance : TAgg Try.prog 66 false := ⟨Try.isAgg66⟩
instance : TUnd Try.prog 66 (.map 3 69) := ⟨Try.underlying66⟩
def zc68 : Array Value :=  #[Go.Value.map Option.none]
instance : TFld Try.prog 68 0 0 66 1 := ⟨⟨_, _, Try.underlying68, rfl, rfl, rfl, Try.sizeOf66, by decide⟩⟩
instance : TBuild Try.prog 68 zc68 [(0, 1)] := ⟨fun _ => by kernel_rfl⟩
instance : TZero Try.prog 69 (Go.Value.pointer Option.none) := ⟨Try.zeroValue69⟩
def zc73 : Array Value :=  #[Go.Value.slice Option.none 0 0, Go.Value.int Go.IntKind.i64 0]
instance : TFld Try.prog 73 0 0 44 1 := ⟨⟨_, _, Try.underlying73, rfl, rfl, rfl, Try.sizeOf44, by decide⟩⟩
instance : TFld Try.prog 73 1 1 3 1 := ⟨⟨_, _, Try.underlying73, rfl, rfl, rfl, Try.sizeOf3, by decide⟩⟩
instance : TBuild Try.prog 73 zc73 [(0, 1), (1, 1)] := ⟨fun _ => by kernel_rfl⟩
instance : TUnd Try.prog 83 (.int Go.IntKind.u64) := ⟨Try.underlying83⟩
instance : TUnd Try.prog 112 (.int Go.IntKind.u64) := ⟨Try.underlying112⟩
instance : TRow Try.prog 3 #[Go.Value.int Go.IntKind.i64 0] 1 8 := TRow.of Try.zeroValue3 rfl row3 rfl
instance : TRow Try.prog 5 #[Go.Value.int Go.IntKind.u8 0] 1 1 := TRow.of Try.zeroValue5 rfl row5 rfl
instance : FCall Try.prog 71 := ⟨Try.call71⟩
instance : FCall Try.prog 13 := ⟨Try.call13⟩
instance : FCall Try.prog 57 := ⟨Try.call57⟩
instance : FCall Try.prog 42 := ⟨Try.call42⟩
instance : FCall Try.prog 33 := ⟨Try.call33⟩
instance : FCall Try.prog 17 := ⟨Try.call17⟩
instance : FCall Try.prog 20 := ⟨Try.call20⟩
instance : FCall Try.prog 35 := ⟨Try.call35⟩
instance : FCall Try.prog 86 := ⟨Try.call86⟩
instance : FCall Try.prog 18 := ⟨Try.call18⟩
instance : FCall Try.prog 60 := ⟨Try.call60⟩
instance : FCall Try.prog 9 := ⟨Try.call9⟩
instance : FCall Try.prog 21 := ⟨Try.call21⟩
instance : FCall Try.prog 19 := ⟨Try.call19⟩
instance : FCall Try.prog 59 := ⟨Try.call59⟩
instance : FCall Try.prog 84 := ⟨Try.call84⟩
instance : FCall Try.prog 12 := ⟨Try.call12⟩
instance : FCall Try.prog 72 := ⟨Try.call72⟩
instance : FCall Try.prog 8 := ⟨Try.call8⟩
instance : FCall Try.prog 11 := ⟨Try.call11⟩
instance : FCall Try.prog 92 := ⟨Try.call92⟩
instance : FCall Try.prog 58 := ⟨Try.call58⟩
instance : FCall Try.prog 23 := ⟨Try.call23⟩
instance : FCall Try.prog 22 := ⟨Try.call22⟩
instance : FCall Try.prog 102 := ⟨Try.call102⟩
instance : FCall Try.prog 85 := ⟨Try.call85⟩
instance : FCall Try.prog 44 := ⟨Try.call44⟩
instance : FCall Try.prog 25 := ⟨Try.call25⟩
instance : FCall Try.prog 34 := ⟨Try.call34⟩
instance : FCall Try.prog 96 := ⟨Try.call96⟩
theorem mixed : Try.prog.follows .mixedOrders = true := by kernel_rfl
end Go.Proofs.Ytmdiabglbmgkkaa
namespace Go.Proofs.Ytmdiabglbmgkkaa
open Go.RowKit
structure FiR where
  n : Int
  fb : Nat
  v : Value
  T : List (Nat × Obj)
  l : List UInt8
  mark : Nat
structure FiR.Ok (r : FiR) : Prop where
  buf : Buf 5 1 r.v r.T r.l.length (r.l.map bV)
  mark : r.mark ≤ r.l.length
  size : r.l.length ≤ 1048576
  ne : r.l ≠ []
abbrev fC (v : Value) (mark : Nat) : Array Value := #[v, .int .i64 (mark : Nat)]
def FiR.own (r : FiR) : List (Nat × Obj) := (r.fb, .cells (fC r.v r.mark) 73 (0, 0)) :: r.T
abbrev fP (b : Nat) : Value := .pointer (some ⟨b, 0, none⟩)
def fps (rs : List FiR) : List (Int × Value) := rs.map fun r => (r.n, fP r.fb)
def ownL (rs : List FiR) : List (Nat × Obj) := rs.flatMap FiR.own
theorem ownL_app (a b : List FiR) : ownL (a ++ b) = ownL a ++ ownL b := by simp [ownL]
theorem ownL_cons (r : FiR) (b : List FiR) : ownL (r :: b) = r.own ++ ownL b := by simp [ownL]
abbrev FG := Int → List UInt8 × Nat
def gOf : List FiR → FG
  | [], _ => ([], 0)
  | r :: rs, n => if n = r.n then (r.l, r.mark) else gOf rs n
abbrev sO (sb mb : Nat) : Nat × Obj := (sb, .cells #[.map (some mb)] 68 (0, 0))
structure StOk (es : Array MapEntry) (cl : Nat) (rs : List FiR) : Prop where
  map : MapI .i64 es cl (fps rs)
  ok : ∀ r ∈ rs, r.Ok
def StAt (sb : Nat) (S : List (Nat × Obj)) (g : FG) : Prop := ∃ mb es cl rs, S = sO sb mb :: (mb, .map es cl) :: ownL rs ∧ StOk es cl rs ∧ gOf rs = g
theorem fps_keys (rs : List FiR) : (fps rs).map Prod.fst = rs.map FiR.n := by simp [fps]
theorem aGet_fps : ∀ (rs : List FiR) (n : Int), (aGet (fps rs) n = none ∧ gOf rs n = ([], 0) ∧ n ∉ rs.map FiR.n) ∨ ∃ A r B, rs = A ++ r :: B ∧ r.n = n ∧ aGet (fps rs) n = some (fP r.fb) ∧ gOf rs n = (r.l, r.mark) ∧ n ∉ A.map FiR.n
  | [], n => .inl ⟨rfl, rfl, by simp⟩
  | r :: rs, n => by
    by_cases h : n = r.n
    · exact .inr ⟨[], r, rs, rfl, h.symm, by simp [fps, aGet, h], by simp [gOf, h], by simp⟩
    · rcases aGet_fps rs n with ⟨h1, h2, h3⟩ | ⟨A, r', B, rfl, h1, h2, h3, h4⟩
      · refine .inl ⟨?_, by simp [gOf, h, h2], by simp [h, h3]⟩
        unfold fps at h1 ⊢
        simp [aGet, h, h1]
      · refine .inr ⟨r :: A, r', B, rfl, h1, ?_, ?_, by simp [h, h4]⟩
        · unfold fps at h2 ⊢
          simp only [List.map_cons, aGet]
          rw [if_neg h]
          exact h2
        · simp only [gOf]
          rw [if_neg h]
          exact h3
theorem gOf_app : ∀ (A B : List FiR) (n : Int), n ∉ A.map FiR.n → gOf (A ++ B) n = gOf B n
  | [], _, _, _ => rfl
  | r :: A, B, n, h => by
    simp only [List.map_cons, List.mem_cons, not_or] at h
    simp only [List.cons_append, gOf]
    rw [if_neg h.1]
    exact gOf_app A B n h.2
theorem gOf_mem : ∀ {rs : List FiR} {n : Int}, n ∈ rs.map FiR.n → ∃ r ∈ rs, r.n = n ∧ gOf rs n = (r.l, r.mark)
  | [], _, h => by simp at h
  | r :: rs, n, h => by
    by_cases e : n = r.n
    · exact ⟨r, List.mem_cons_self .., e.symm, by simp [gOf, e]⟩
    · have hm : n ∈ rs.map FiR.n := by
        rcases List.mem_cons.1 h with h | h
        · exact absurd h e
        · exact h
      obtain ⟨r', h1, h2, h3⟩ := gOf_mem hm
      exact ⟨r', List.mem_cons_of_mem _ h1, h2, by simp [gOf, e, h3]⟩
theorem gOf_none : ∀ {rs : List FiR} {n : Int}, n ∉ rs.map FiR.n → gOf rs n = ([], 0)
  | [], _, _ => rfl
  | r :: rs, n, h => by
    simp only [List.map_cons, List.mem_cons, not_or] at h
    simp only [gOf]
    rw [if_neg h.1]
    exact gOf_none h.2
theorem gOf_set {A B : List FiR} {r r' : FiR} (hr : r'.n = r.n) (hA : r.n ∉ A.map FiR.n) : gOf (A ++ r' :: B) = fun n => if n = r.n then (r'.l, r'.mark) else gOf (A ++ r :: B) n := by
  funext n
  by_cases h : n = r.n
  · subst h
    rw [gOf_app _ _ _ hA, if_pos rfl]
    simp [gOf, hr]
  · rw [if_neg h]
    by_cases hm : n ∈ A.map FiR.n
    · have : ∀ X, gOf (A ++ X) n = gOf A n := fun X => by
        clear hA
        induction A with
        | nil => simp at hm
        | cons q A ih =>
          simp only [List.cons_append, gOf]
          by_cases hq : n = q.n
          · rw [if_pos hq, if_pos hq]
          · rw [if_neg hq, if_neg hq]
            exact ih (by rcases List.mem_cons.1 hm with h | h; exact absurd h hq; exact h)
      rw [this, this]
    · rw [gOf_app _ _ _ hm, gOf_app _ _ _ hm]
      simp only [gOf]
      rw [hr, if_neg h, if_neg h]
theorem gOf_del {A B : List FiR} {r : FiR} (hn : ((A ++ r :: B).map FiR.n).Nodup) : gOf (A ++ B) = fun n => if n = r.n then ([], 0) else gOf (A ++ r :: B) n := by
  have hn' := hn
  rw [List.map_append, List.map_cons] at hn'
  have h1 : r.n ∉ (A ++ B).map FiR.n := by
    rw [List.map_append]
    exact (List.nodup_cons.1 (List.perm_middle.nodup_iff.1 hn')).1
  have hA : r.n ∉ A.map FiR.n := fun h => h1 (by rw [List.map_append]; exact List.mem_append_left _ h)
  funext n
  by_cases h : n = r.n
  · subst h
    rw [if_pos rfl]
    exact gOf_none h1
  · rw [if_neg h]
    by_cases hm : n ∈ A.map FiR.n
    · have : ∀ X, gOf (A ++ X) n = gOf A n := fun X => by
        clear hA h1 hn hn'
        induction A with
        | nil => simp at hm
        | cons q A ih =>
          simp only [List.cons_append, gOf]
          by_cases hq : n = q.n
          · rw [if_pos hq, if_pos hq]
          · rw [if_neg hq, if_neg hq]
            exact ih (by rcases List.mem_cons.1 hm with h | h; exact absurd h hq; exact h)
      rw [this, this]
    · rw [gOf_app _ _ _ hm, gOf_app _ _ _ hm]
      simp only [gOf]
      rw [if_neg h]
theorem gOf_new {A : List FiR} {r : FiR} (hA : r.n ∉ A.map FiR.n) : gOf (A ++ [r]) = fun n => if n = r.n then (r.l, r.mark) else gOf A n := by
  funext n
  by_cases h : n = r.n
  · subst h
    rw [gOf_app _ _ _ hA, if_pos rfl]
    simp [gOf]
  · rw [if_neg h]
    by_cases hm : n ∈ A.map FiR.n
    · induction A with
      | nil => simp at hm
      | cons q A ih =>
        simp only [List.map_cons, List.mem_cons, not_or] at hA
        simp only [List.cons_append, gOf]
        by_cases hq : n = q.n
        · rw [if_pos hq, if_pos hq]
        · rw [if_neg hq, if_neg hq]
          exact ih hA.2 (by rcases List.mem_cons.1 hm with h | h; exact absurd h hq; exact h)
    · rw [gOf_app _ _ _ hm, gOf_none hm]
      simp [gOf, h]
theorem fps_app (A B : List FiR) : fps (A ++ B) = fps A ++ fps B := by simp [fps]
theorem aPut_fps {A B : List FiR} {r : FiR} {v : Value} (hA : r.n ∉ A.map FiR.n) : aPut (fps (A ++ r :: B)) r.n v = fps A ++ (r.n, v) :: fps B := by
  induction A with
  | nil => simp [fps, aPut]
  | cons q A ih =>
    simp only [List.map_cons, List.mem_cons, not_or] at hA
    have := ih hA.2
    unfold fps at this ⊢
    simp only [List.cons_append, List.map_cons, aPut]
    rw [if_neg hA.1, this]
theorem aDel_fps {A B : List FiR} {r : FiR} (hn : ((A ++ r :: B).map FiR.n).Nodup) : aDel (fps (A ++ r :: B)) r.n = fps (A ++ B) := by
  rw [List.map_append, List.map_cons] at hn
  have h := List.perm_middle.nodup_iff.1 hn
  obtain ⟨h1, _⟩ := List.nodup_cons.1 h
  have keep : ∀ X : List FiR, r.n ∉ X.map FiR.n → (fps X).filter (fun p => decide (p.1 ≠ r.n)) = fps X := fun X hX => List.filter_eq_self.2 fun q hq => by
    obtain ⟨x, hx, rfl⟩ := List.mem_map.1 hq
    have : x.n ≠ r.n := fun e => hX (List.mem_map.2 ⟨x, hx, e⟩)
    simpa using this
  unfold aDel
  rw [fps_app, List.filter_append, keep A (fun h => h1 (List.mem_append_left _ h))]
  have e : fps (r :: B) = (r.n, fP r.fb) :: fps B := rfl
  rw [e, List.filter_cons_of_neg (by simp), keep B (fun h => h1 (List.mem_append_right _ h)), fps_app]
section
variable {c : Cx} {s : List (Nat × Value)} {L : List (Nat × Obj)} {o : Oper}
theorem Qt_sl3 {t E n : Nat} [hu : TUnd c.P t (.slice E)] [hs : TSize c.P E n] {x lo hi mx : Operand} {a : Option Addr} {len cap : Nat} {k k' k'' : IntKind} {l h m : Int} (ho : o.op = .slice t x (some lo) (some hi) (some mx)) (hx : ev s x = some (.slice a len cap) := by exact rfl) (hl : ev s lo = some (.int k'' l) := by exact rfl) (hh : ev s hi = some (.int k h) := by exact rfl) (hm : ev s mx = some (.int k' m) := by exact rfl)
    (hl0 : 0 ≤ l := by first | with_reducible assumption | decide | omega) (hl1 : l ≤ h := by first | with_reducible assumption | exact Int.le_refl _ | omega) (h1 : h ≤ m := by first | with_reducible assumption | exact Int.le_refl _ | omega) (h2 : m ≤ cap := by first | with_reducible assumption | omega) : Qt c s L o (sliced a l.toNat h.toNat m.toNat n) :=
  Qt_of_run (by simp [ho]) (fun ρ hρ w _ => by
    have hut : c.P.underlying t = some (.slice (c.P.elem t)) := by rw [elem_of hu.h]; exact hu.h
    have h3 := run_slice_lhm (P := c.P) w t a len cap hut k'' k k' l h m hl0 hl1 h1 h2
    rw [elem_of hu.h, hs.h] at h3
    have h4 := run_sliceAt_slice (P := c.P) w t (.slice a len cap) (some (.int k'' l)) (some (.int k h)) (some (.int k' m)) hut
    simp only [Result.andThen] at h3
    simp [execOp, ho, hρ x _ hx, hρ lo _ hl, hρ hi _ hh, hρ mx _ hm, h4, h3])
end
attribute [local irreducible] Fn WC WL WR OW Qt YieldFn QW
theorem there_none {sb mb cl i j : Nat} {es : Array MapEntry} {ps : List (Int × Value)} {n : Int} {L : List (Nat × Obj)} (hsb : L[i]? = some (sO sb mb)) (hmb : L[j]? = some (mb, .map es cl)) (hmap : MapI .i64 es cl ps) (hg : aGet ps n = none) :
    Fn Try.prog 33 [fP sb, .int .i64 n] L (fun v L' => v = .tuple #[.pointer none, .int .i64 10] ∧ L' = L) := by
  refine Fn_enter Try.func33 rfl Try.ntmps33 rfl fun gw => ?_
  repeat (first | ((first | refine WL_Q ?_); (first | refine QW_a ?_ | refine QW_of (Qt_lookC rfl hmb hmap) ?_)) | refine WL_nil ?_ | refine WC_seq ?_ | refine WC_cond_t (ht := ?_) | refine WC_cond_f (he := ?_) | refine WC_skip ?_ | refine WC_ret ?_ | refine WC_region (id := 0) ?_ | refine WC_region (id := 1) ?_ | refine WC_region (id := 3) ?_)
  rw [hg]
  have d : (!(none : Option Value).isSome) = true := rfl
  repeat (first | ((first | refine WL_Q ?_); (first | refine QW_a ?_ | refine QW_of (Qt_lookC rfl hmb hmap) ?_)) | refine WL_nil ?_ | refine WC_seq ?_ | refine WC_cond_t (ht := ?_) | refine WC_cond_f (he := ?_) | refine WC_skip ?_ | refine WC_ret ?_ | refine WC_region (id := 3) ?_ | refine WC_region (id := 4) ?_ | refine WC_region (id := 5) ?_)
  exact ⟨rfl, _, _, Res2 rfl (resV_tmp rfl) (resV_tmp rfl), .refl _, rfl, rfl⟩
theorem there_some {sb mb cl i j fb : Nat} {es : Array MapEntry} {ps : List (Int × Value)} {n : Int} {L : List (Nat × Obj)} (hsb : L[i]? = some (sO sb mb)) (hmb : L[j]? = some (mb, .map es cl)) (hmap : MapI .i64 es cl ps) (hg : aGet ps n = some (fP fb)) :
    Fn Try.prog 33 [fP sb, .int .i64 n] L (fun v L' => v = .tuple #[fP fb, .int .i64 0] ∧ L' = L) := by
  refine Fn_enter Try.func33 rfl Try.ntmps33 rfl fun gw => ?_
  repeat (first | ((first | refine WL_Q ?_); (first | refine QW_a ?_ | refine QW_of (Qt_lookC rfl hmb hmap) ?_)) | refine WL_nil ?_ | refine WC_seq ?_ | refine WC_cond_t (ht := ?_) | refine WC_cond_f (he := ?_) | refine WC_skip ?_ | refine WC_ret ?_ | refine WC_region (id := 0) ?_ | refine WC_region (id := 1) ?_ | refine WC_region (id := 3) ?_)
  rw [hg]
  have d : (!(some (fP fb)).isSome) = false := rfl
  repeat (first | ((first | refine WL_Q ?_); (first | refine QW_a ?_ | refine QW_of (Qt_lookC rfl hmb hmap) ?_)) | refine WL_nil ?_ | refine WC_seq ?_ | refine WC_cond_t (ht := ?_) | refine WC_cond_f (he := ?_) | refine WC_skip ?_ | refine WC_ret ?_ | refine WC_region (id := 3) ?_ | refine WC_region (id := 4) ?_ | refine WC_region (id := 6) ?_)
  exact ⟨rfl, _, _, Res2 rfl (resV_tmp rfl) (resV_tmp rfl), .refl _, rfl, rfl⟩
theorem new_fn {L : List (Nat × Obj)} : Fn Try.prog 9 [] L (fun v L' => ∃ sb S, v = fP sb ∧ L' = S ++ L ∧ StAt sb S (fun _ => ([], 0))) := by
  refine Fn_enter Try.func9 rfl Try.ntmps9 rfl fun gw => ?_
  repeat (first | ((first | refine WL_Q ?_); (first | refine QW_a ?_ | refine QW_of (Qt_lookC rfl hmb hmap) ?_)) | ((first | refine WL_op rfl ?_); (first | refine OW_box rfl (hk := fun _ => ?_))) | refine WL_nil ?_ | refine WC_seq ?_ | refine WC_ret ?_ | refine WC_region ?_)
  refine WL_op rfl (OW_makeMap rfl ?_)
  intro mb
  repeat (first | ((first | refine WL_Q ?_); (first | refine QW_a ?_ | refine QW_of (Qt_lookC rfl hmb hmap) ?_)) | ((first | refine WL_op rfl ?_); (first | refine OW_box rfl (hk := fun _ => ?_))) | refine WL_nil ?_ | refine WC_seq ?_ | refine WC_ret ?_ | refine WC_region (id := 1) ?_)
  rename_i sb
  exact ⟨rfl, _, _, Res1 rfl (resV_tmp rfl), .refl _, sb, [sO sb mb, (mb, .map #[] 0)], rfl, rfl, mb, #[], 0, [], rfl, ⟨.empty _, nofun⟩, rfl⟩
end Go.Proofs.Ytmdiabglbmgkkaa
namespace Go.Proofs.Ytmdiabglbmgkkaa
open Go.RowKit
abbrev fO (fb : Nat) (v : Value) (mark : Nat) : Nat × Obj := (fb, .cells (fC v mark) 73 (0, 0))
abbrev BufB (v : Value) (T : List (Nat × Obj)) (l : List UInt8) : Prop := Buf 5 1 v T l.length (l.map bV)
theorem BufB.cut {a : Option Addr} {cap : Nat} {T : List (Nat × Obj)} {l : List UInt8} (h : BufB (.slice a l.length cap) T l) {many : Nat} (hm : many ≤ l.length) : BufB (.slice a many many) T (l.take many) := by
  rcases h with ⟨h1, h2, h3, h4⟩ | ⟨g, off, cap', cur, h1, rfl, ho⟩
  · obtain rfl : many = 0 := by omega
    simp only [Value.slice.injEq] at h3
    obtain ⟨rfl, _, rfl⟩ := h3
    exact .inl ⟨by simp, by simp, rfl, h4⟩
  · simp only [Value.slice.injEq] at h1
    obtain ⟨rfl, _, rfl⟩ := h1
    have ht := Own.take ho hm (Nat.le_refl many) (Nat.le_trans hm ho.le)
    have hl : (l.take many).length = many := by rw [List.length_take]; omega
    refine .inr ⟨g, off, many, cur, by rw [hl], rfl, ?_⟩
    rw [Nat.mul_one, ← List.map_take] at ht
    rw [hl]
    exact ht
theorem BufB.one {v : Value} {T : List (Nat × Obj)} {l : List UInt8} (h : BufB v T l) : v.oneCell' = true := by
  obtain ⟨ag, cap, rfl, _⟩ := h.val
  rfl
attribute [local irreducible] Fn WC WL WR OW Qt YieldFn QW
theorem stay_raw {sb mb fb cl mark many : Nat} {es : Array MapEntry} {ps : List (Int × Value)} {n : Int} {v : Value} {T R : List (Nat × Obj)} {l : List UInt8} (hmap : MapI .i64 es cl ps) (hb : BufB v T l) (hm : many ≤ l.length) :
    Fn Try.prog 42 [fP sb, .int .i64 n, fP fb, .int .i64 (many : Nat)] (sO sb mb :: (mb, .map es cl) :: fO fb v mark :: (T ++ R))
      (fun r L' => r = .tuple #[] ∧ ∃ es' v', BufB v' T (l.take many) ∧ MapI .i64 es' cl (if many = 0 then aDel ps n else ps) ∧ L' = sO sb mb :: (mb, .map es' cl) :: fO fb v' many :: (T ++ R)) := by
  obtain ⟨a, cap, rfl, hle, hmx⟩ := hb.val
  have hc := hb.cut hm
  refine Fn_enter Try.func42 rfl Try.ntmps42 rfl fun gw => ?_
  have h2 : ((many : Nat) : Int) ≤ ((cap : Nat) : Int) := by omega
  repeat (first | ((first | refine WL_Q ?_); (first | refine QW_a ?_)) | ((first | refine WL_op rfl ?_); (first | refine OW_st1 rfl ?_)) | refine WL_nil ?_ | refine WC_seq ?_ | refine WC_cond_t (ht := ?_) | refine WC_cond_f (he := ?_) | refine WC_skip ?_ | refine WC_region (id := 0) ?_)
  simp only [Int.toNat_natCast]
  repeat (first | ((first | refine WL_Q ?_); (first | refine QW_a ?_)) | ((first | refine WL_op rfl ?_); (first | refine OW_st1 rfl ?_)) | refine WL_nil ?_ | refine WC_seq ?_ | refine WC_cond_t (ht := ?_) | refine WC_cond_f (he := ?_) | refine WC_skip ?_ | refine WC_region (id := 0) ?_)
  by_cases h0 : many = 0
  · have d : (((many : Nat) : Int) == 0) = true := by simp [h0]
    repeat (first | ((first | refine WL_Q ?_); (first | refine QW_a ?_)) | refine WL_nil ?_ | refine WC_seq ?_ | refine WC_cond_t (ht := ?_) | refine WC_cond_f (he := ?_) | refine WC_skip ?_ | refine WC_region (id := 1) ?_ | refine WC_region (id := 2) ?_)
    refine WL_op rfl (OW_mapDel rfl rfl rfl (i := 1) rfl hmap ?_)
    intro es' hmap'
    simp only [List.set_cons_succ, List.set_cons_zero]
    repeat (first | ((first | refine WL_Q ?_); (first | refine QW_a ?_)) | refine WL_nil ?_ | refine WC_seq ?_ | refine WC_cond_t (ht := ?_) | refine WC_cond_f (he := ?_) | refine WC_skip ?_ | refine WC_region (id := 2) ?_)
    exact ⟨rfl, _, _, Res0 rfl, .refl _, rfl, es', _, hc, by rw [if_pos h0]; exact hmap', rfl⟩
  · have d : (((many : Nat) : Int) == 0) = false := by simp; omega
    repeat (first | ((first | refine WL_Q ?_); (first | refine QW_a ?_)) | refine WL_nil ?_ | refine WC_seq ?_ | refine WC_cond_t (ht := ?_) | refine WC_cond_f (he := ?_) | refine WC_skip ?_ | refine WC_region (id := 1) ?_ | refine WC_region (id := 2) ?_)
    exact ⟨rfl, _, _, Res0 rfl, .refl _, rfl, es, _, hc, by rw [if_neg h0]; exact hmap, rfl⟩
theorem append_old {sb mb fb cl mark : Nat} {es : Array MapEntry} {ps : List (Int × Value)} {n : Int} {v : Value} {T R : List (Nat × Obj)} {l b : List UInt8} (hmap : MapI .i64 es cl ps) (hg : aGet ps n = some (fP fb)) (hb : BufB v T l) (hne : l ≠ []) (hn : 0 ≤ n) (hl : l.length ≤ 1048576) (hbl : b.length ≤ 1048576) :
    Fn Try.prog 20 [fP sb, .int .i64 n, .string (bstr b)] (sO sb mb :: (mb, .map es cl) :: fO fb v mark :: (T ++ R))
      (fun r L' => (1048576 < l.length + b.length ∧ r = .int .i64 8 ∧ L' = sO sb mb :: (mb, .map es cl) :: fO fb v mark :: (T ++ R)) ∨ (l.length + b.length ≤ 1048576 ∧ r = .int .i64 0 ∧ ∃ es' cl' v' T', BufB v' T' (l ++ b) ∧ MapI .i64 es' cl' (aPut ps n (fP fb)) ∧ L' = sO sb mb :: (mb, .map es' cl') :: fO fb v' mark :: (T' ++ R))) := by
  have hone := hb.one
  obtain ⟨a, cap, rfl, hle, hmx⟩ := id hb.val
  refine Fn_enter Try.func20 rfl Try.ntmps20 rfl fun gw => ?_
  have d0 : decide (n < 0) = false := decide_eq_false (by omega)
  have w : IntKind.i64.wrap (((l.length : Nat) : Int) + ((b.length : Nat) : Int)) = ((l.length : Nat) : Int) + ((b.length : Nat) : Int) := wI64 (by omega) (by omega)
  repeat (first | ((first | refine WL_Q ?_); (first | refine QW_a ?_)) | ((first | refine WL_op rfl ?_); (first | refine OW_callP rfl (hF := there_some (i := 0) (j := 1) rfl rfl hmap hg) (hk := ?_))) | refine WL_nil ?_ | refine WC_seq ?_ | refine WC_block ?_ | refine WC_cond_t (ht := ?_) | refine WC_cond_f (he := ?_) | refine WC_skip ?_ | refine WC_ret ?_ | refine WC_region (id := 0) ?_ | refine WC_region (id := 1) ?_ | refine WC_region (id := 2) ?_ | refine WC_region (id := 4) ?_ | refine WC_region (id := 6) ?_ | refine WC_region (id := 8) ?_)
  rw [w]
  by_cases hbig : 1048576 < l.length + b.length
  · have d1 : decide (((l.length : Nat) : Int) + ((b.length : Nat) : Int) > 1048576) = true := decide_eq_true (by omega)
    repeat (first | ((first | refine WL_Q ?_); (first | refine QW_a ?_)) | refine WL_nil ?_ | refine WC_seq ?_ | refine WC_block ?_ | refine WC_cond_t (ht := ?_) | refine WC_cond_f (he := ?_) | refine WC_skip ?_ | refine WC_ret ?_ | refine WC_region (id := 8) ?_ | refine WC_region (id := 9) ?_)
    exact ⟨rfl, _, _, Res1 rfl (resV_tmp rfl), .refl _, .inl ⟨hbig, rfl, rfl⟩⟩
  have d1 : decide (((l.length : Nat) : Int) + ((b.length : Nat) : Int) > 1048576) = false := decide_eq_false (by omega)
  repeat (first | ((first | refine WL_Q ?_); (first | refine QW_a ?_)) | ((first | refine WL_op rfl ?_); (first | refine OW_st1 rfl ?_)) | refine WL_nil ?_ | refine WC_seq ?_ | refine WC_block ?_ | refine WC_cond_t (ht := ?_) | refine WC_cond_f (he := ?_) | refine WC_skip ?_ | refine WC_ret ?_ | refine WC_region (id := 8) ?_ | refine WC_region (id := 10) ?_)
  refine WL_op rfl (OW_append_bufM (A := [_, _, _]) (T := T) (B := R) rfl rfl rfl rfl rfl hb srcStr (by simp) (by simp only [maxLen]; omega) (by omega) ?_)
  intro v' T' hb'
  simp only [List.cons_append, List.nil_append]
  rw [← List.map_append, ← List.length_append] at hb'
  have hone' := BufB.one hb'
  repeat (first | ((first | refine WL_Q ?_); (first | refine QW_a ?_)) | ((first | refine WL_op rfl ?_); (first | refine OW_st1 rfl ?_)) | refine WL_nil ?_ | refine WC_seq ?_ | refine WC_block ?_ | refine WC_cond_t (ht := ?_) | refine WC_cond_f (he := ?_) | refine WC_skip ?_ | refine WC_ret ?_ | refine WC_region (id := 10) ?_)
  obtain ⟨a', cap', rfl, _, _⟩ := id hb'.val
  have d2 : decide ((((l ++ b).length : Nat) : Int) > 0) = true := decide_eq_true (by
    have := List.length_pos_iff.2 hne
    rw [List.length_append]; omega)
  repeat (first | ((first | refine WL_Q ?_); (first | refine QW_a ?_)) | ((first | refine WL_op rfl ?_); (first | refine OW_st1 rfl ?_)) | refine WL_nil ?_ | refine WC_seq ?_ | refine WC_block ?_ | refine WC_cond_t (ht := ?_) | refine WC_cond_f (he := ?_) | refine WC_skip ?_ | refine WC_ret ?_ | refine WC_region (id := 10) ?_ | refine WC_region (id := 11) ?_ | refine WC_region (id := 12) ?_)
  refine WL_op rfl (OW_mapPut rfl rfl rfl rfl (i := 1) rfl hmap ?_)
  intro es' cl' hmap'
  simp only [List.set_cons_succ, List.set_cons_zero]
  repeat (first | ((first | refine WL_Q ?_); (first | refine QW_a ?_)) | refine WL_nil ?_ | refine WC_seq ?_ | refine WC_block ?_ | refine WC_cond_t (ht := ?_) | refine WC_cond_f (he := ?_) | refine WC_skip ?_ | refine WC_ret ?_ | refine WC_region (id := 12) ?_ | refine WC_region (id := 13) ?_)
  exact ⟨rfl, _, _, Res1 rfl (resV_tmp rfl), .refl _, .inr ⟨by omega, rfl, es', cl', _, T', hb', hmap', rfl⟩⟩
theorem append_new {sb mb cl : Nat} {es : Array MapEntry} {ps : List (Int × Value)} {n : Int} {R : List (Nat × Obj)} {b : List UInt8} (hmap : MapI .i64 es cl ps) (hg : aGet ps n = none) (hn : 0 ≤ n) (hbl : b.length ≤ 1048576) :
    Fn Try.prog 20 [fP sb, .int .i64 n, .string (bstr b)] (sO sb mb :: (mb, .map es cl) :: R)
      (fun r L' => r = .int .i64 0 ∧ ((b = [] ∧ L' = sO sb mb :: (mb, .map es cl) :: R) ∨ (b ≠ [] ∧ ∃ es' cl' fb v' T', BufB v' T' b ∧ MapI .i64 es' cl' (aPut ps n (fP fb)) ∧ L' = sO sb mb :: (mb, .map es' cl') :: fO fb v' 0 :: (T' ++ R)))) := by
  refine Fn_enter Try.func20 rfl Try.ntmps20 rfl fun gw => ?_
  have d0 : decide (n < 0) = false := decide_eq_false (by omega)
  repeat (first | ((first | refine WL_Q ?_); (first | refine QW_a ?_)) | ((first | refine WL_op rfl ?_); (first | refine OW_box rfl (hk := fun _ => ?_) | refine OW_callP rfl (hF := there_none (i := 0) (j := 1) rfl rfl hmap hg) (hk := ?_))) | refine WL_nil ?_ | refine WC_seq ?_ | refine WC_block ?_ | refine WC_cond_t (ht := ?_) | refine WC_cond_f (he := ?_) | refine WC_skip ?_ | refine WC_ret ?_ | refine WC_region (id := 0) ?_ | refine WC_region (id := 1) ?_ | refine WC_region (id := 2) ?_ | refine WC_region (id := 4) ?_ | refine WC_region (id := 6) ?_ | refine WC_region (id := 7) ?_)
  rename_i fb
  have w : IntKind.i64.wrap (((0 : Nat) : Int) + ((b.length : Nat) : Int)) = ((b.length : Nat) : Int) := by rw [wI64 (by omega) (by omega)]; omega
  repeat (first | ((first | refine WL_Q ?_); (first | refine QW_a ?_)) | refine WL_nil ?_ | refine WC_seq ?_ | refine WC_block ?_ | refine WC_cond_t (ht := ?_) | refine WC_cond_f (he := ?_) | refine WC_skip ?_ | refine WC_ret ?_ | refine WC_region (id := 8) ?_)
  rw [w]
  have d1 : decide (((b.length : Nat) : Int) > 1048576) = false := decide_eq_false (by omega)
  repeat (first | ((first | refine WL_Q ?_); (first | refine QW_a ?_)) | ((first | refine WL_op rfl ?_); (first | refine OW_st1 rfl ?_)) | refine WL_nil ?_ | refine WC_seq ?_ | refine WC_block ?_ | refine WC_cond_t (ht := ?_) | refine WC_cond_f (he := ?_) | refine WC_skip ?_ | refine WC_ret ?_ | refine WC_region (id := 8) ?_ | refine WC_region (id := 10) ?_)
  refine WL_op rfl (OW_append_bufM (A := [_, _, _]) (T := []) (B := R) rfl rfl rfl rfl rfl (Buf.nil _ _) srcStr (by simp) (by simp only [maxLen]; omega) (by omega) ?_)
  intro v' T' hb'
  simp only [List.cons_append, List.nil_append]
  rw [Nat.zero_add, List.nil_append] at hb'
  have hone' := BufB.one hb'
  repeat (first | ((first | refine WL_Q ?_); (first | refine QW_a ?_)) | ((first | refine WL_op rfl ?_); (first | refine OW_st1 rfl ?_)) | refine WL_nil ?_ | refine WC_seq ?_ | refine WC_block ?_ | refine WC_cond_t (ht := ?_) | refine WC_cond_f (he := ?_) | refine WC_skip ?_ | refine WC_ret ?_ | refine WC_region (id := 10) ?_)
  obtain ⟨a', cap', rfl, _, _⟩ := id hb'.val
  by_cases he : b = []
  · have d2 : decide (((b.length : Nat) : Int) > 0) = false := by rw [he]; rfl
    repeat (first | ((first | refine WL_Q ?_); (first | refine QW_a ?_)) | ((first | refine WL_op rfl ?_); (first | refine OW_st1 rfl ?_)) | refine WL_nil ?_ | refine WC_seq ?_ | refine WC_block ?_ | refine WC_cond_t (ht := ?_) | refine WC_cond_f (he := ?_) | refine WC_skip ?_ | refine WC_ret ?_ | refine WC_region (id := 10) ?_ | refine WC_region (id := 11) ?_ | refine WC_region (id := 13) ?_)
    exact ⟨rfl, _, sO sb mb :: (mb, .map es cl) :: R, Res1 rfl (resV_tmp rfl), .cons _ (.cons_cons _ (.cons_cons _ (List.sublist_append_right _ _))), rfl, .inl ⟨he, rfl⟩⟩
  · have d2 : decide (((b.length : Nat) : Int) > 0) = true := decide_eq_true (by have := List.length_pos_iff.2 he; omega)
    repeat (first | ((first | refine WL_Q ?_); (first | refine QW_a ?_)) | ((first | refine WL_op rfl ?_); (first | refine OW_st1 rfl ?_)) | refine WL_nil ?_ | refine WC_seq ?_ | refine WC_block ?_ | refine WC_cond_t (ht := ?_) | refine WC_cond_f (he := ?_) | refine WC_skip ?_ | refine WC_ret ?_ | refine WC_region (id := 10) ?_ | refine WC_region (id := 11) ?_ | refine WC_region (id := 12) ?_)
    refine WL_op rfl (OW_mapPut rfl rfl rfl rfl (i := 2) rfl hmap ?_)
    intro es' cl' hmap'
    simp only [List.set_cons_succ, List.set_cons_zero]
    refine WL_front 2 rfl ?_
    refine WL_front 2 rfl ?_
    repeat (first | ((first | refine WL_Q ?_); (first | refine QW_a ?_)) | refine WL_nil ?_ | refine WC_seq ?_ | refine WC_block ?_ | refine WC_cond_t (ht := ?_) | refine WC_cond_f (he := ?_) | refine WC_skip ?_ | refine WC_ret ?_ | refine WC_region (id := 12) ?_ | refine WC_region (id := 13) ?_)
    exact ⟨rfl, _, _, Res1 rfl (resV_tmp rfl), .refl _, rfl, .inr ⟨he, es', cl', fb, _, T', hb', hmap', rfl⟩⟩
theorem append_neg {sb mb cl : Nat} {es : Array MapEntry} {ps : List (Int × Value)} {n : Int} {R : List (Nat × Obj)} {b : List UInt8} (hmap : MapI .i64 es cl ps) (hg : aGet ps n = none ∨ ∃ fb, aGet ps n = some (fP fb)) (hn : n < 0) :
    Fn Try.prog 20 [fP sb, .int .i64 n, .string (bstr b)] (sO sb mb :: (mb, .map es cl) :: R) (fun r L' => r = .int .i64 2 ∧ L' = sO sb mb :: (mb, .map es cl) :: R) := by
  have d0 : decide (n < 0) = true := decide_eq_true hn
  refine Fn_enter Try.func20 rfl Try.ntmps20 rfl fun gw => ?_
  rcases hg with hg | ⟨fb, hg⟩
  · 
    repeat (first | ((first | refine WL_Q ?_); (first | refine QW_a ?_)) | ((first | refine WL_op rfl ?_); (first | refine OW_callP rfl (hF := there_none (i := 0) (j := 1) rfl rfl hmap hg) (hk := ?_))) | refine WL_nil ?_ | refine WC_seq ?_ | refine WC_block ?_ | refine WC_cond_t (ht := ?_) | refine WC_cond_f (he := ?_) | refine WC_skip ?_ | refine WC_ret ?_ | refine WC_region (id := 0) ?_ | refine WC_region (id := 1) ?_ | refine WC_region (id := 2) ?_ | refine WC_region (id := 4) ?_ | refine WC_region (id := 5) ?_)
    exact ⟨rfl, _, _, Res1 rfl (resV_tmp rfl), .refl _, rfl, rfl⟩
  · 
    repeat (first | ((first | refine WL_Q ?_); (first | refine QW_a ?_)) | ((first | refine WL_op rfl ?_); (first | refine OW_callP rfl (hF := there_some (i := 0) (j := 1) rfl rfl hmap hg) (hk := ?_))) | refine WL_nil ?_ | refine WC_seq ?_ | refine WC_block ?_ | refine WC_cond_t (ht := ?_) | refine WC_cond_f (he := ?_) | refine WC_skip ?_ | refine WC_ret ?_ | refine WC_region (id := 0) ?_ | refine WC_region (id := 1) ?_ | refine WC_region (id := 2) ?_ | refine WC_region (id := 4) ?_ | refine WC_region (id := 5) ?_)
    exact ⟨rfl, _, _, Res1 rfl (resV_tmp rfl), .refl _, rfl, rfl⟩
theorem cut_none {sb mb cl : Nat} {es : Array MapEntry} {ps : List (Int × Value)} {n many : Int} {R : List (Nat × Obj)} (hmap : MapI .i64 es cl ps) (hg : aGet ps n = none) :
    Fn Try.prog 18 [fP sb, .int .i64 n, .int .i64 many] (sO sb mb :: (mb, .map es cl) :: R) (fun r L' => r = .int .i64 10 ∧ L' = sO sb mb :: (mb, .map es cl) :: R) := by
  refine Fn_enter Try.func18 rfl Try.ntmps18 rfl fun gw => ?_
  repeat (first | ((first | refine WL_Q ?_); (first | refine QW_a ?_)) | ((first | refine WL_op rfl ?_); (first | refine OW_callP rfl (hF := there_none (i := 0) (j := 1) rfl rfl hmap hg) (hk := ?_))) | refine WL_nil ?_ | refine WC_seq ?_ | refine WC_block ?_ | refine WC_cond_t (ht := ?_) | refine WC_cond_f (he := ?_) | refine WC_skip ?_ | refine WC_ret ?_ | refine WC_region (id := 0) ?_ | refine WC_region (id := 1) ?_ | refine WC_region (id := 2) ?_ | refine WC_region (id := 3) ?_)
  exact ⟨rfl, _, _, Res1 rfl (resV_tmp rfl), .refl _, rfl, rfl⟩
theorem sync_none {sb mb cl : Nat} {es : Array MapEntry} {ps : List (Int × Value)} {n : Int} {R : List (Nat × Obj)} (hmap : MapI .i64 es cl ps) (hg : aGet ps n = none) :
    Fn Try.prog 17 [fP sb, .int .i64 n] (sO sb mb :: (mb, .map es cl) :: R) (fun r L' => r = .int .i64 10 ∧ L' = sO sb mb :: (mb, .map es cl) :: R) := by
  refine Fn_enter Try.func17 rfl Try.ntmps17 rfl fun gw => ?_
  repeat (first | ((first | refine WL_Q ?_); (first | refine QW_a ?_)) | ((first | refine WL_op rfl ?_); (first | refine OW_callP rfl (hF := there_none (i := 0) (j := 1) rfl rfl hmap hg) (hk := ?_))) | refine WL_nil ?_ | refine WC_seq ?_ | refine WC_cond_t (ht := ?_) | refine WC_cond_f (he := ?_) | refine WC_skip ?_ | refine WC_ret ?_ | refine WC_region (id := 0) ?_ | refine WC_region (id := 1) ?_ | refine WC_region (id := 2) ?_ | refine WC_region (id := 4) ?_)
  exact ⟨rfl, _, _, Res1 rfl (resV_tmp rfl), .refl _, rfl, rfl⟩
theorem read_none {sb mb cl : Nat} {es : Array MapEntry} {ps : List (Int × Value)} {n : Int} {R : List (Nat × Obj)} (hmap : MapI .i64 es cl ps) (hg : aGet ps n = none) :
    Fn Try.prog 11 [fP sb, .int .i64 n] (sO sb mb :: (mb, .map es cl) :: R) (fun r L' => r = .tuple #[.string (bstr []), .int .i64 10] ∧ L' = sO sb mb :: (mb, .map es cl) :: R) := by
  refine Fn_enter Try.func11 rfl Try.ntmps11 rfl fun gw => ?_
  repeat (first | ((first | refine WL_Q ?_); (first | refine QW_a ?_)) | ((first | refine WL_op rfl ?_); (first | refine OW_callP rfl (hF := there_none (i := 0) (j := 1) rfl rfl hmap hg) (hk := ?_))) | refine WL_nil ?_ | refine WC_seq ?_ | refine WC_cond_t (ht := ?_) | refine WC_cond_f (he := ?_) | refine WC_skip ?_ | refine WC_ret ?_ | refine WC_region (id := 0) ?_ | refine WC_region (id := 1) ?_ | refine WC_region (id := 2) ?_ | refine WC_region (id := 3) ?_)
  exact ⟨rfl, _, _, Res2 rfl (resV_tmp rfl) (resV_tmp rfl), .refl _, rfl, rfl⟩
theorem synced_none {sb mb cl : Nat} {es : Array MapEntry} {ps : List (Int × Value)} {n : Int} {R : List (Nat × Obj)} (hmap : MapI .i64 es cl ps) (hg : aGet ps n = none) :
    Fn Try.prog 12 [fP sb, .int .i64 n] (sO sb mb :: (mb, .map es cl) :: R) (fun r L' => r = .int .i64 0 ∧ L' = sO sb mb :: (mb, .map es cl) :: R) := by
  refine Fn_enter Try.func12 rfl Try.ntmps12 rfl fun gw => ?_
  repeat (first | ((first | refine WL_Q ?_); (first | refine QW_a ?_)) | ((first | refine WL_op rfl ?_); (first | refine OW_callP rfl (hF := there_none (i := 0) (j := 1) rfl rfl hmap hg) (hk := ?_))) | refine WL_nil ?_ | refine WC_seq ?_ | refine WC_cond_t (ht := ?_) | refine WC_cond_f (he := ?_) | refine WC_skip ?_ | refine WC_ret ?_ | refine WC_region (id := 0) ?_ | refine WC_region (id := 1) ?_ | refine WC_region (id := 2) ?_ | refine WC_region (id := 3) ?_)
  exact ⟨rfl, _, _, Res1 rfl (resV_tmp rfl), .refl _, rfl, rfl⟩
theorem read_some {sb mb fb cl mark : Nat} {es : Array MapEntry} {ps : List (Int × Value)} {n : Int} {v : Value} {T R : List (Nat × Obj)} {l : List UInt8} (hmap : MapI .i64 es cl ps) (hg : aGet ps n = some (fP fb)) (hb : BufB v T l) :
    Fn Try.prog 11 [fP sb, .int .i64 n] (sO sb mb :: (mb, .map es cl) :: fO fb v mark :: (T ++ R)) (fun r L' => r = .tuple #[.string (bstr l), .int .i64 0] ∧ L' = sO sb mb :: (mb, .map es cl) :: fO fb v mark :: (T ++ R)) := by
  have hv : ByAt (sO sb mb :: (mb, .map es cl) :: fO fb v mark :: (T ++ R)) v l := (((hb.vec0 R).cons _).cons _).cons _
  refine Fn_enter Try.func11 rfl Try.ntmps11 rfl fun gw => ?_
  repeat (first | ((first | refine WL_Q ?_); (first | refine QW_a ?_)) | ((first | refine WL_op rfl ?_); (first | refine OW_callP rfl (hF := there_some (i := 0) (j := 1) rfl rfl hmap hg) (hk := ?_))) | refine WL_nil ?_ | refine WC_seq ?_ | refine WC_cond_t (ht := ?_) | refine WC_cond_f (he := ?_) | refine WC_skip ?_ | refine WC_ret ?_ | refine WC_region (id := 0) ?_ | refine WC_region (id := 1) ?_ | refine WC_region (id := 2) ?_ | refine WC_region (id := 4) ?_)
  exact ⟨rfl, _, _, Res2 rfl (resV_tmp rfl) (resV_tmp rfl), .refl _, rfl, rfl⟩
theorem synced_some {sb mb fb cl mark : Nat} {es : Array MapEntry} {ps : List (Int × Value)} {n : Int} {v : Value} {R : List (Nat × Obj)} (hmap : MapI .i64 es cl ps) (hg : aGet ps n = some (fP fb)) :
    Fn Try.prog 12 [fP sb, .int .i64 n] (sO sb mb :: (mb, .map es cl) :: fO fb v mark :: R) (fun r L' => r = .int .i64 mark ∧ L' = sO sb mb :: (mb, .map es cl) :: fO fb v mark :: R) := by
  refine Fn_enter Try.func12 rfl Try.ntmps12 rfl fun gw => ?_
  repeat (first | ((first | refine WL_Q ?_); (first | refine QW_a ?_)) | ((first | refine WL_op rfl ?_); (first | refine OW_callP rfl (hF := there_some (i := 0) (j := 1) rfl rfl hmap hg) (hk := ?_))) | refine WL_nil ?_ | refine WC_seq ?_ | refine WC_cond_t (ht := ?_) | refine WC_cond_f (he := ?_) | refine WC_skip ?_ | refine WC_ret ?_ | refine WC_region (id := 0) ?_ | refine WC_region (id := 1) ?_ | refine WC_region (id := 2) ?_ | refine WC_region (id := 4) ?_)
  exact ⟨rfl, _, _, Res1 rfl (resV_tmp rfl), .refl _, rfl, rfl⟩
theorem cut_some {sb mb fb cl mark : Nat} {es : Array MapEntry} {ps : List (Int × Value)} {n many : Int} {v : Value} {T R : List (Nat × Obj)} {l : List UInt8} (hmap : MapI .i64 es cl ps) (hg : aGet ps n = some (fP fb)) (hb : BufB v T l) :
    Fn Try.prog 18 [fP sb, .int .i64 n, .int .i64 many] (sO sb mb :: (mb, .map es cl) :: fO fb v mark :: (T ++ R))
      (fun r L' => ((many < 0 ∨ (l.length : Int) < many) ∧ r = .int .i64 2 ∧ L' = sO sb mb :: (mb, .map es cl) :: fO fb v mark :: (T ++ R)) ∨ ∃ k : Nat, many = k ∧ k ≤ l.length ∧ r = .int .i64 0 ∧ ∃ es' v', BufB v' T (l.take k) ∧ MapI .i64 es' cl (if k = 0 then aDel ps n else ps) ∧ L' = sO sb mb :: (mb, .map es' cl) :: fO fb v' k :: (T ++ R)) := by
  obtain ⟨a, cap, rfl, hle, hmx⟩ := id hb.val
  refine Fn_enter Try.func18 rfl Try.ntmps18 rfl fun gw => ?_
  by_cases h0 : many < 0
  · have d0 : decide (many < 0) = true := decide_eq_true h0
    repeat (first | ((first | refine WL_Q ?_ | refine WL_Y ?_); (first | refine QW_a ?_)) | ((first | refine WL_op rfl ?_ | refine WL_yes (h := ?_)); (first | refine OW_callP rfl (hF := there_some (i := 0) (j := 1) rfl rfl hmap hg) (hk := ?_))) | refine WL_nil ?_ | refine WL_un (h := ?_) | refine WL_N ?_ | refine WL_M ?_ | refine WC_seq ?_ | refine WC_block ?_ | refine WC_cond_t (ht := ?_) | refine WC_cond_f (he := ?_) | refine WC_skip ?_ | refine WC_ret ?_ | refine WC_region (id := 0) ?_ | refine WC_region (id := 1) ?_ | refine WC_region (id := 2) ?_ | refine WC_region (id := 4) ?_ | refine WC_region (id := 5) ?_)
    exact ⟨rfl, _, _, Res1 rfl (resV_tmp rfl), .refl _, .inl ⟨.inl h0, rfl, rfl⟩⟩
  have d0 : decide (many < 0) = false := decide_eq_false h0
  by_cases h1 : many > (l.length : Int)
  · have d1 : decide (many > ((l.length : Nat) : Int)) = true := decide_eq_true h1
    repeat (first | ((first | refine WL_Q ?_ | refine WL_Y ?_); (first | refine QW_a ?_)) | ((first | refine WL_op rfl ?_ | refine WL_yes (h := ?_)); (first | refine OW_callP rfl (hF := there_some (i := 0) (j := 1) rfl rfl hmap hg) (hk := ?_))) | refine WL_nil ?_ | refine WL_un (h := ?_) | refine WL_N ?_ | refine WL_M ?_ | refine WC_seq ?_ | refine WC_block ?_ | refine WC_cond_t (ht := ?_) | refine WC_cond_f (he := ?_) | refine WC_skip ?_ | refine WC_ret ?_ | refine WC_region (id := 0) ?_ | refine WC_region (id := 1) ?_ | refine WC_region (id := 2) ?_ | refine WC_region (id := 4) ?_ | refine WC_region (id := 5) ?_)
    exact ⟨rfl, _, _, Res1 rfl (resV_tmp rfl), .refl _, .inl ⟨.inr h1, rfl, rfl⟩⟩
  have d1 : decide (many > ((l.length : Nat) : Int)) = false := decide_eq_false h1
  obtain ⟨k, rfl⟩ : ∃ k : Nat, many = k := ⟨many.toNat, by omega⟩
  have hm : k ≤ l.length := by omega
  repeat (first | ((first | refine WL_Q ?_ | refine WL_Y ?_); (first | refine QW_a ?_)) | ((first | refine WL_op rfl ?_ | refine WL_yes (h := ?_)); (first | refine OW_callP rfl (hF := there_some (i := 0) (j := 1) rfl rfl hmap hg) (hk := ?_) | (refine OW_call rfl (hF := stay_raw hmap hb hm) (hk := ?_); rintro _ _ ⟨rfl, es', v', hb', hmap', rfl⟩))) | refine WL_nil ?_ | refine WL_un (h := ?_) | refine WL_N ?_ | refine WL_M ?_ | refine WC_seq ?_ | refine WC_block ?_ | refine WC_cond_t (ht := ?_) | refine WC_cond_f (he := ?_) | refine WC_skip ?_ | refine WC_ret ?_ | refine WC_region (id := 0) ?_ | refine WC_region (id := 1) ?_ | refine WC_region (id := 2) ?_ | refine WC_region (id := 4) ?_ | refine WC_region (id := 6) ?_ | refine WC_region (id := 7) ?_)
  exact ⟨rfl, _, _, Res1 rfl (resV_tmp rfl), .refl _, .inr ⟨k, rfl, hm, rfl, es', v', hb', hmap', rfl⟩⟩
theorem sync_some {sb mb fb cl mark : Nat} {es : Array MapEntry} {ps : List (Int × Value)} {n : Int} {v : Value} {T R : List (Nat × Obj)} {l : List UInt8} (hmap : MapI .i64 es cl ps) (hg : aGet ps n = some (fP fb)) (hb : BufB v T l) (hne : l ≠ []) :
    Fn Try.prog 17 [fP sb, .int .i64 n] (sO sb mb :: (mb, .map es cl) :: fO fb v mark :: (T ++ R))
      (fun r L' => r = .int .i64 0 ∧ ∃ es' v', BufB v' T l ∧ MapI .i64 es' cl ps ∧ L' = sO sb mb :: (mb, .map es' cl) :: fO fb v' l.length :: (T ++ R)) := by
  obtain ⟨a, cap, rfl, hle, hmx⟩ := id hb.val
  refine Fn_enter Try.func17 rfl Try.ntmps17 rfl fun gw => ?_
  have hm : l.length ≤ l.length := Nat.le_refl _
  repeat (first | ((first | refine WL_Q ?_); (first | refine QW_a ?_)) | ((first | refine WL_op rfl ?_); (first | refine OW_callP rfl (hF := there_some (i := 0) (j := 1) rfl rfl hmap hg) (hk := ?_) | (refine OW_call rfl (hF := stay_raw hmap hb hm) (hk := ?_); rintro _ _ ⟨rfl, es', v', hb', hmap', rfl⟩))) | refine WL_nil ?_ | refine WC_seq ?_ | refine WC_cond_t (ht := ?_) | refine WC_cond_f (he := ?_) | refine WC_skip ?_ | refine WC_ret ?_ | refine WC_region ?_)
  rw [if_neg (by have := List.length_pos_iff.2 hne; omega)] at hmap'
  rw [List.take_length] at hb'
  exact ⟨rfl, _, _, Res1 rfl (resV_tmp rfl), .refl _, rfl, es', v', hb', hmap', rfl⟩
end Go.Proofs.Ytmdiabglbmgkkaa
