/-
  A part of what the last of these texts needs; by itself it proves no statement.
-/
import Derived.WalkSpells
import Derived.MapKept
import Derived.Laws.StructEq
import Derived.Laws.IdiomStrings
import Derived.Great.BuildSlice
import Derived.Laws.MakeOwn
import Derived.Deep.Upon
import Derived.Test.YtekmmhmhcpaiaaaGreatKP6
namespace Go.Proofs.YtekmmhmhcpaiaaaGreat
open Go.RowKit
noncomputable section
section
variable {c : Cx} {bs : Bs} {σs : List (Nat × Value)} {Ls : List (Nat × Obj)} {o : Oper}
def eqFs (rec : TypeId → V → V → Option Bool) (P : Program) (xs ys : List V) : List Field → Option Bool
  | [] => some true
  | f :: r => match decide (f.name = "_") with
    | true => eqFs rec P xs ys r
    | false => match sizeX P f.type with
      | some n => match partX P f.type f.offset n xs, partX P f.type f.offset n ys with
        | some a, some b => match rec f.type a b with
          | some true => eqFs rec P xs ys r
          | some false => some false
          | none => none
        | _, _ => none
      | none => none
def eqEs (rec : TypeId → V → V → Option Bool) (P : Program) (e n : Nat) (xs ys : List V) : List Nat → Option Bool
  | [] => some true
  | i :: r => match partX P e (Nat.mul i n) n xs, partX P e (Nat.mul i n) n ys with
    | some a, some b => match rec e a b with
      | some true => eqEs rec P e n xs ys r
      | some false => some false
      | none => none
    | _, _ => none
def eqX (P : Program) : Nat → TypeId → V → V → Option Bool
  | 0, _, _, _ => none
  | d + 1, t, x, y => match x, y with
    | .int k a, .int k' b => match P.underlying t, decide (k = k') with
      | some (.int _), true => some (a == b)
      | _, _ => none
    | .bool a, .bool b => match P.underlying t with
      | some .bool => some (a == b)
      | _ => none
    | .str a, .str b => match P.underlying t with
      | some .string => some (a.toList == b.toList)
      | _ => none
    | .agg xs, .agg ys => match P.underlying t with
      | some (.struct fs) => match P.stoodInHeld t with
        | false => eqFs (eqX P d) P xs ys fs.toList
        | true => none
      | some (.array n e) => match sizeX P e with
        | some sz => eqEs (eqX P d) P e sz xs ys (List.range' 0 n 1)
        | none => none
      | _ => none
    | _, _ => none
set_option maxHeartbeats 4000000 in
theorem eqX_ok {P : Program} : ∀ (d : Nat) {t : TypeId} {x y : V} {x' y' : Value} {b : Bool}, eqX P d t x y = some b → RV bs x x' → RV bs y y' → ∀ (q : Nat) (w : World), (Op.equalIn (d + q) t x' y').run P w = .ok b w
  | 0, _, _, _, _, _, _, h, _, _ => by cases h
  | d + 1, t, x, y, x', y', b, h, hx, hy => fun q w => by
    have ih := fun {t x y x' y' b} (h : eqX P d t x y = some b) (hx : RV bs x x') (hy : RV bs y y') (w : World) => eqX_ok d h hx hy q w
    rw [show d + 1 + q = (d + q) + 1 by omega]
    simp only [eqX] at h
    split at h
    · split at h
      · rename_i hu hk
        cases h; cases hx; cases hy
        obtain rfl := of_decide_eq_true hk
        exact run_equalIn_int w _ t _ _ _ _ hu
      · cases h
    · split at h
      · rename_i hu
        cases h; cases hx; cases hy
        exact run_equalIn_bool' w _ t _ _ hu
      · cases h
    · split at h
      · rename_i hu
        cases h; cases hx; cases hy
        exact run_equalIn_string w _ t _ _ hu
      · cases h
    · rename_i xs ys
      cases hx; cases hy
      rename_i xs' hxs ys' hys
      split at h
      · rename_i fs hu
        split at h
        · rename_i hst
          have hfo : P.fieldsOf t = fs := by simp [Program.fieldsOf, hu]
          rw [run_equalIn_struct w (d + q) t _ _ (by rw [hfo]; exact hu) hst, hfo]
          generalize fs.toList = l at h
          clear hu hfo
          induction l generalizing w with
          | nil => cases h; simp [Op.eqFields]
          | cons f r ihl =>
            simp only [eqFs] at h
            simp only [Op.eqFields]
            split at h
            · rename_i hn
              have hn := of_decide_eq_true hn
              rw [if_neg (by simp [hn])]
              exact ihl w h
            · rename_i hn
              have hn := of_decide_eq_false hn
              rw [if_pos hn]
              split at h
              · rename_i n hsz
                split at h
                · rename_i a b ha hb
                  obtain ⟨a', a1, a2⟩ := part_run ha (sizeX_ok hsz).h hxs
                  obtain ⟨b', b1, b2⟩ := part_run hb (sizeX_ok hsz).h hys
                  split at h
                  · rename_i he
                    have := ih he a2 b2 w
                    simp only [Sem.run_bind, a1, b1, Result.andThen_ok, this, Bool.not_true, Bool.false_eq_true, if_false]
                    exact ihl w h
                  · rename_i he
                    cases h
                    have := ih he a2 b2 w
                    simp [a1, b1, this]
                  · cases h
                · cases h
              · cases h
        · cases h
      · rename_i n e hu
        split at h
        · rename_i sz hsz
          rw [Op.equalIn]
          simp only [Sem.run_bind, run_underlying hu, Result.andThen_ok, (sizeX_ok hsz).h, Std.Legacy.Range.forIn_eq_forIn_range', Std.Legacy.Range.size, Nat.sub_zero, Nat.add_sub_cancel, Nat.div_one]
          generalize List.range' 0 n 1 = l at h ⊢
          clear hu
          induction l generalizing w with
          | nil => cases h; simp
          | cons i r ihl =>
            simp only [eqEs] at h
            split at h
            · rename_i a b ha hb
              obtain ⟨a', a1, a2⟩ := part_run ha (sizeX_ok hsz).h hxs
              obtain ⟨b', b1, b2⟩ := part_run hb (sizeX_ok hsz).h hys
              have a1' : ∀ w, (part e xs'.toArray (i * sz)).run P w = .ok a' w := a1
              have b1' : ∀ w, (part e ys'.toArray (i * sz)).run P w = .ok b' w := b1
              split at h
              · rename_i he
                have := ih he a2 b2 w
                simp only [List.forIn_cons, Sem.run_bind, a1', b1', Result.andThen_ok, this, Bool.not_true, Bool.false_eq_true, if_false, Sem.run_pure]
                exact ihl w h
              · rename_i he
                cases h
                have := ih he a2 b2 w
                simp [List.forIn_cons, a1', b1', this]
              · cases h
            · cases h
        · cases h
      · cases h
    · cases h
def aggEq (P : Program) (t : TypeId) (x y : V) : Option Bool := match x, y with
  | .agg _, .agg _ => match P.eqGuardType P.depth t with
    | false => eqX P 8 t x y
    | true => none
  | _, _ => none
theorem aggEq_run {P : Program} {t : TypeId} {x y : V} {x' y' : Value} {b : Bool} (h : aggEq P t x y = some b) (hx : RV bs x x') (hy : RV bs y y') (X Y : Operand) (w : World) : ((eqGuard .eql t X Y x' y').run P w = .ok () w ∧ (binOp .eql t x' y').run P w = .ok (.bool b) w) ∧ (eqGuard .neq t X Y x' y').run P w = .ok () w ∧ (binOp .neq t x' y').run P w = .ok (.bool !b) w := by
  unfold aggEq at h
  split at h
  · split at h
    · rename_i hg
      have h1 := eqX_ok 8 h hx hy 9992 w
      cases hx; cases hy
      refine ⟨⟨run_eqGuard_agg w .eql t X Y _ _ hg, ?_⟩, run_eqGuard_agg w .neq t X Y _ _ hg, ?_⟩
      · rw [run_eql_struct]; rw [show (10000 : Nat) = 8 + 9992 from rfl, h1]; rfl
      · rw [run_neq_struct]; rw [show (10000 : Nat) = 8 + 9992 from rfl, h1]; rfl
    · cases h
  · cases h
theorem run_equalIn_iface {P : Program} (w : World) (d : Nat) (t : TypeId) {ms : Array (String × TypeId)} (h : P.underlying t = some (.interface ms)) :
    (Op.equalIn (d + 1) t .nilIface .nilIface).run P w = .ok true w ∧ ∀ (u : TypeId) (v : Value), (Op.equalIn (d + 1) t (.iface u v) .nilIface).run P w = .ok false w ∧ (Op.equalIn (d + 1) t .nilIface (.iface u v)).run P w = .ok false w := by
  refine ⟨?_, fun u v => ⟨?_, ?_⟩⟩
  · simp [Op.equalIn, run_underlying h]
  · simp [Op.equalIn, run_underlying h]
  · simp [Op.equalIn, run_underlying h]
end
mutual
def V.val : V → Option Value
  | .int k n => some (.int k n)
  | .bool b => some (.bool b)
  | .str s => some (.string s)
  | .agg l => match V.valL l with
    | some l' => some (.agg l'.toArray)
    | none => none
  | _ => none
def V.valL : List V → Option (List Value)
  | [] => some []
  | v :: r => match V.val v, V.valL r with
    | some u, some l => some (u :: l)
    | _, _ => none
end
mutual
theorem V.val_ok {bs : Bs} : ∀ {v : V} {v' u : Value}, RV bs v v' → V.val v = some u → v' = u
  | _, _, _, .int _ _, h => by simp only [V.val, Option.some.injEq] at h; exact h
  | _, _, _, .bool _, h => by simp only [V.val, Option.some.injEq] at h; exact h
  | _, _, _, .str _, h => by simp only [V.val, Option.some.injEq] at h; exact h
  | _, _, _, .agg hl, h => by
    simp only [V.val] at h
    split at h
    · rename_i l' hl'
      cases h
      rw [V.valL_ok hl hl']
    · cases h
  | _, _, _, .ptrN, h => by simp [V.val] at h
  | _, _, _, .ptr _, h => by simp [V.val] at h
  | _, _, _, .slN, h => by simp [V.val] at h
  | _, _, _, .sl _ _ _ _ _ _, h => by simp [V.val] at h
  | _, _, _, .fn _ _ _, h => by simp [V.val] at h
  | _, _, _, .nilf, h => by simp [V.val] at h
  | _, _, _, .ifc _ _, h => by simp [V.val] at h
  | _, _, _, .nili, h => by simp [V.val] at h
  | _, _, _, .mapN, h => by simp [V.val] at h
  | _, _, _, .map _, h => by simp [V.val] at h
  | _, _, _, .tup _, h => by simp [V.val] at h
  | _, _, _, .yld _, h => by simp [V.val] at h
theorem V.valL_ok {bs : Bs} : ∀ {l : List V} {l' u : List Value}, RVs bs l l' → V.valL l = some u → l' = u
  | _, _, _, .nil, h => by simp only [V.valL, Option.some.injEq] at h; exact h
  | _, _, _, .cons hv hl, h => by
    simp only [V.valL] at h
    split at h
    · rename_i h1 h2
      cases h
      rw [V.val_ok hv h1, V.valL_ok hl h2]
    · cases h
end
section
variable {c : Cx} {bs : Bs} {σs : List (Nat × Value)} {Ls : List (Nat × Obj)} {o : Oper}
def keyFs (rec : TypeId → V → Bool) (P : Program) (xs : List V) : List Field → Bool
  | [] => true
  | f :: r => match decide (f.name = "_") with
    | true => keyFs rec P xs r
    | false => match sizeX P f.type with
      | some n => match partX P f.type f.offset n xs with
        | some a => match rec f.type a with
          | true => keyFs rec P xs r
          | false => false
        | none => false
      | none => false
def keyEs (rec : TypeId → V → Bool) (P : Program) (e n : Nat) (xs : List V) : List Nat → Bool
  | [] => true
  | i :: r => match partX P e (Nat.mul i n) n xs with
    | some a => match rec e a with
      | true => keyEs rec P e n xs r
      | false => false
    | none => false
def keyK (P : Program) : Nat → TypeId → V → Bool
  | 0, _, _ => false
  | d + 1, t, x => match x, P.underlying t with
    | .int _ _, some (.int _) => true
    | .str _, some .string => true
    | .bool _, some .bool => true
    | .agg xs, some (.struct fs) => keyFs (keyK P d) P xs fs.toList
    | .agg xs, some (.array n e) => match sizeX P e with
      | some sz => keyEs (keyK P d) P e sz xs (List.range' 0 n 1)
      | none => false
    | _, _ => false
set_option maxHeartbeats 4000000 in
theorem keyK_run {P : Program} (em : Bool) : ∀ (d : Nat) {t : TypeId} {x : V} {x' : Value}, keyK P d t x = true → RV bs x x' → ∀ (q : Nat) (w : World), (Instr.checkKey em (d + q) t x').run P w = .ok () w
  | 0, _, _, _, h, _, _, _ => by cases h
  | d + 1, t, x, x', h, hx, q, w => by
    have ih := fun {t x x'} (h : keyK P d t x = true) (hx : RV bs x x') (w : World) => keyK_run em d h hx q w
    rw [show d + 1 + q = (d + q) + 1 by omega]
    simp only [keyK] at h
    split at h
    · rename_i hu; cases hx; rw [Instr.checkKey]; simp [run_underlying hu]
    · rename_i hu; cases hx; rw [Instr.checkKey]; simp [run_underlying hu]
    · rename_i hu; cases hx; rw [Instr.checkKey]; simp [run_underlying hu]
    · rename_i xs fs hu
      cases hx
      rename_i xs' hxs
      rw [Instr.checkKey]
      simp only [Sem.run_bind, run_underlying hu, Result.andThen_ok]
      rw [← Array.forIn_toList]
      generalize fs.toList = l at h
      clear hu
      induction l generalizing w with
      | nil => simp
      | cons f r ihl =>
        simp only [keyFs] at h
        split at h
        · rename_i hn
          have hn := of_decide_eq_true hn
          simp only [List.forIn_cons, Sem.run_bind, hn, ne_eq, not_true_eq_false, if_false, Sem.run_pure, Result.andThen_ok]
          exact ihl w h
        · rename_i hn
          have hn := of_decide_eq_false hn
          split at h
          · rename_i n hsz
            split at h
            · rename_i a ha
              obtain ⟨a', a1, a2⟩ := part_run ha (sizeX_ok hsz).h hxs
              split at h
              · rename_i hk
                have := ih hk a2 w
                simp only [List.forIn_cons, Sem.run_bind, ne_eq, hn, not_false_eq_true, if_true, a1, Result.andThen_ok, this, Sem.run_pure]
                exact ihl w h
              · cases h
            · cases h
          · cases h
    · rename_i xs n e hu
      split at h
      · rename_i sz hsz
        cases hx
        rename_i xs' hxs
        rw [Instr.checkKey]
        simp only [Sem.run_bind, run_underlying hu, Result.andThen_ok, Std.Legacy.Range.forIn_eq_forIn_range', Std.Legacy.Range.size, Nat.sub_zero, Nat.add_sub_cancel, Nat.div_one]
        generalize List.range' 0 n 1 = l at h ⊢
        clear hu
        induction l generalizing w with
        | nil => simp
        | cons i r ihl =>
          simp only [keyEs] at h
          split at h
          · rename_i a ha
            obtain ⟨a', a1, a2⟩ := part_run ha (sizeX_ok hsz).h hxs
            have a1' : ∀ w, (part e xs'.toArray (i * sz)).run P w = .ok a' w := a1
            split at h
            · rename_i hk
              have := ih hk a2 w
              simp only [List.forIn_cons, Sem.run_bind, (sizeX_ok hsz).h, a1', Result.andThen_ok, this, Sem.run_pure]
              exact ihl w h
            · cases h
          · cases h
      · cases h
    · cases h
def keyX (P : Program) (kt : TypeId) (d : TypeDesc) (k : V) : Bool := match d, k with
  | .int _, .int _ _ => true
  | .string, .str _ => true
  | .bool, .bool _ => true
  | .struct _, .agg _ => keyK P 8 kt k
  | .array _ _, .agg _ => keyK P 8 kt k
  | _, _ => false
theorem keyX_run {P : Program} {kt : TypeId} {d : TypeDesc} {k : V} {k' : Value} (hd : P.underlying kt = some d) (h : keyX P kt d k = true) (hk : RV bs k k') (e : Bool) (w : World) : (Instr.checkKey e 10000 kt k').run P w = .ok () w := by
  unfold keyX at h
  split at h <;> first | (cases h; done) | skip
  · cases hk; rw [Instr.checkKey]; simp [run_underlying hd]
  · cases hk; rw [Instr.checkKey]; simp [run_underlying hd]
  · cases hk; rw [Instr.checkKey]; simp [run_underlying hd]
  · exact keyK_run e 8 h hk 9992 w
  · exact keyK_run e 8 h hk 9992 w
def sameX (P : Program) (kt : TypeId) (d : TypeDesc) (a b : V) : Option Bool := match d, a, b with
  | .struct _, .agg _, .agg _ => sameG a b
  | .array _ _, .agg _, .agg _ => sameG a b
  | _, _, _ => match a.scal, b.scal with
    | some x, some y => Instr.sameNow d x y
    | _, _ => none
where sameG (a b : V) : Option Bool := match eqX P 8 kt a b with
  | some true => match a.val, b.val with
    | some x, some y => match Instr.sameBits 10000 y x with
      | true => some true
      | false => none
    | _, _ => none
  | r => r
def nowK : TypeDesc → Bool
  | .struct _ => false
  | .array _ _ => false
  | _ => true
theorem sameX_now {P : Program} {kt : TypeId} {d : TypeDesc} {a b : V} {a' b' : Value} {r : Bool} (hn : nowK d = true) (h : sameX P kt d a b = some r) (ha : RV bs a a') (hb : RV bs b b') : Instr.sameNow d a' b' = some r := by
  unfold sameX at h
  split at h
  · cases hn
  · cases hn
  · split at h
    · rename_i x y hx hy
      rw [V.scal_ok ha hx, V.scal_ok hb hy]; exact h
    · cases h
theorem sameNow_ask {d : TypeDesc} (hn : nowK d = false) (a b : Value) : Instr.sameNow d a b = none := by
  cases d <;> first | (cases hn; done) | (cases a <;> rfl)
theorem sameX_ask {P : Program} {kt : TypeId} {d : TypeDesc} {a b : V} {a' b' : Value} {r : Bool} (hn : nowK d = false) (h : sameX P kt d a b = some r) (ha : RV bs a a') (hb : RV bs b b') : (∀ w, (Op.equal kt a' b').run P w = .ok r w) ∧ (r = true → Instr.sameBits 10000 b' a' = true) := by
  have g : sameX.sameG P kt a b = some r := by
    unfold sameX at h
    split at h
    · exact h
    · exact h
    · split at h
      · rw [sameNow_ask hn] at h; cases h
      · cases h
  unfold sameX.sameG at g
  split at g
  · rename_i he
    split at g
    · rename_i x y hx hy
      split at g
      · rename_i hsb
        cases g
        refine ⟨fun w => eqX_ok 8 he ha hb (Op.maxDepth - 8) w, fun _ => ?_⟩
        rw [V.val_ok ha hx, V.val_ok hb hy]; exact hsb
      · cases g
    · cases g
  · rename_i hne
    cases r with
    | true => exact absurd g hne
    | false => exact ⟨fun w => eqX_ok 8 g ha hb (Op.maxDepth - 8) w, fun e => by cases e⟩
theorem keyThatStays_now {P : Program} {kt : TypeId} {d : TypeDesc} {k p : V} {k' p' : Value} (hn : nowK d = true) (hs : sameX P kt d k p = some true) (hk : RV bs k k') (hp : RV bs p p') (w : World) : (Instr.keyThatStays p' k').run P w = .ok k' w := by
  have hs := sameX_now hn hs hk hp
  unfold Instr.sameNow at hs
  split at hs
  · split at hs
    · rename_i hkk
      subst hkk
      simp at hs
      subst hs
      simp [Instr.keyThatStays, Instr.sameBits]
    · cases hs
  · simp only [Option.some.injEq] at hs
    have hs2 := (Go.MapKept.bytes_beq _ _).1 hs
    subst hs2
    simp [Instr.keyThatStays, Instr.sameBits, hs]
  · simp at hs
    subst hs
    simp [Instr.keyThatStays, Instr.sameBits]
  · cases hs
theorem keyThatStays_run {P : Program} {kt : TypeId} {d : TypeDesc} {k p : V} {k' p' : Value} (hs : sameX P kt d k p = some true) (hk : RV bs k k') (hp : RV bs p p') (w : World) : (Instr.keyThatStays p' k').run P w = .ok k' w := by
  cases hn : nowK d with
  | true => exact keyThatStays_now hn hs hk hp w
  | false => simp [Instr.keyThatStays, (sameX_ask hn hs hk hp).2 rfl]
def Fnd (P : Program) (kt : TypeId) (d : TypeDesc) (k' : Value) (es : List MapEntry) (i : Nat) (a : Option (Nat × Value)) : Prop :=
  (nowK d = true ∧ Instr.findNow d k' es i = some a) ∨ (nowK d = false ∧ ∀ w, (Instr.findAsking kt k' es i).run P w = .ok a w)
theorem Fnd_nil {P : Program} {kt : TypeId} (d : TypeDesc) (k' : Value) (i : Nat) : Fnd P kt d k' [] i none := by
  cases hn : nowK d with
  | true => exact .inl ⟨hn, rfl⟩
  | false => exact .inr ⟨hn, fun w => rfl⟩
theorem Fnd_hit {P : Program} {kt : TypeId} {d : TypeDesc} {k p : V} {k' : Value} {e : MapEntry} (hs : sameX P kt d k p = some true) (hk : RV bs k k') (hp : RV bs p e.key) (es : List MapEntry) (i : Nat) : Fnd P kt d k' (e :: es) i (some (i, e.val)) := by
  cases hn : nowK d with
  | true => exact .inl ⟨hn, by simp [Instr.findNow, sameX_now hn hs hk hp]⟩
  | false => exact .inr ⟨hn, fun w => by simp [Instr.findAsking, (sameX_ask hn hs hk hp).1 w]⟩
theorem Fnd_skip {P : Program} {kt : TypeId} {d : TypeDesc} {k p : V} {k' : Value} {e : MapEntry} (hs : sameX P kt d k p = some false) (hk : RV bs k k') (hp : RV bs p e.key) {es : List MapEntry} {i : Nat} {a : Option (Nat × Value)} (h : Fnd P kt d k' es (i + 1) a) : Fnd P kt d k' (e :: es) i a := by
  rcases h with ⟨hn, h⟩ | ⟨hn, h⟩
  · exact .inl ⟨hn, by simp [Instr.findNow, sameX_now hn hs hk hp, h]⟩
  · exact .inr ⟨hn, fun w => by simp [Instr.findAsking, (sameX_ask hn hs hk hp).1 w, h w]⟩
theorem Fnd_run {P : Program} {kt : TypeId} {d : TypeDesc} {k' : Value} (hd : P.underlying kt = some d) {es : List MapEntry} {a : Option (Nat × Value)} (h : Fnd P kt d k' es 0 a) (w : World) : (Instr.findKey kt k' es).run P w = .ok a w := by
  rcases h with ⟨hn, h⟩ | ⟨hn, h⟩
  · exact Go.MapKept.run_findKey hd h
  · cases es with
    | nil =>
      have := h w
      simp [Instr.findAsking] at this
      subst this
      exact Go.MapKept.run_findKey hd rfl
    | cons e es =>
      have : Instr.findNow d k' (e :: es) 0 = none := by simp [Instr.findNow, sameNow_ask hn]
      simp only [Instr.findKey, Sem.run_bind, run_underlying hd, Result.andThen_ok, this]
      exact h w
end
end
end Go.Proofs.YtekmmhmhcpaiaaaGreat
namespace Go.Proofs.YtekmmhmhcpaiaaaGreat
open Go.RowKit
noncomputable section
attribute [local irreducible] T.put T.set
theorem nodup_wlog {c : Cx} {o : Oper} {Kn : St → Prop} {K : Exit → St → Prop} {σ : St} (h : (σ.L.map Prod.fst).Nodup → OW c o Kn K σ) : OW c o Kn K σ := fun a w ha => h ha.mem.nodup a w ha
end
end Go.Proofs.YtekmmhmhcpaiaaaGreat
namespace Go.Proofs.YtekmmhmhcpaiaaaGreat
open Go.RowKit
noncomputable section
attribute [local irreducible] T.put T.set
section
variable {c : Cx} {o : Oper} {K : Exit → St → Prop} {σ : St} {bs : Bs} {M F : List (Nat × Obj)} {d : Nat} 
theorem run_append_in_src {P : Program} (w : World) (t tx ty e : TypeId) (i : TypeInfo) (ht : P.underlying t = some (.slice e)) (hi : P.info? e = some i)
    (g off sLen sCap : Nat) (cur : Array Value) (hg : w.heap[g]? = some (.cells cur e (0, 0)))
    (x : Value) (m : Nat) (news : List Value) (hs : Src P i.size tx x m news w)
    (hroom : sLen + m ≤ sCap) (hfit : off + sLen * i.size + news.length ≤ cur.size) :
    (Builtin.append_ #[t, tx] ty #[.slice (some ⟨g, off, none⟩) sLen sCap, x]).run P w =
      .ok (.slice (some ⟨g, off, none⟩) (sLen + m) sCap) (w.setRow g (putR cur (off + sLen * i.size) news.toArray)) := by
  have hst := run_storeCells_at P g (off + sLen * i.size) e news 0 cur w hg (by simpa using hfit) hs.one
  simp only [Nat.add_zero] at hst
  rcases hs.kind with ⟨e', hk⟩ | hk <;> simp [Builtin.append_, run_underlying ht, run_underlying hk, sizeOf, typeInfo, hi, hs.len, hroom, hs.cells, Addr.add_mid, hst, putR]
set_option maxHeartbeats 4000000 in
theorem OW_append_src {c : Cx} {o : Oper} {Kn : St → Prop} {K : Exit → St → Prop} {s : List (Nat × Value)} {D : List Deferred} {L : List (Nat × Obj)} {t t2 E size by_ d : Nat} {z : Array Value} [hu : TUnd c.P t (.slice E)] [hrow : TRow c.P E z size by_] {x y : Operand}
    (ho : o.op = .call { callee := .builtin .append, args := #[x, y], argTypes := #[t, t2] }) (hdst : o.dst = some d) (hd : Nat.blt d c.N = true) {g off n cap : Nat} {cur : Array Value} (hx : ev s x = some (.slice (some ⟨g, off, none⟩) n cap)) (i : Nat) (hs : SlAt L i g off n cap E size cur)
    {m : Nat} {y' : Value} {news : List Value} (hy : ev s y = some y') (hsrc : ∀ a w, Holds c.g c.N ⟨s, D, L⟩ a w → Src c.P size t2 y' m news w)
    (hmax : n + m ≤ maxLen) (hby : (n + m) * by_ ≤ 140737488355328)
    (hk : ∀ g' off' cap' cur' L', setL L i (g', .cells cur' E (0, 0)) = some L' → SlAt L' i g' off' (n + m) cap' E size cur' → cur'.extract off' (off' + (n + m) * size) = cur.extract off (off + n * size) ++ news.toArray → Kn ⟨(d, .slice (some ⟨g', off', none⟩) (n + m) cap') :: s, D, L'⟩) : OW c o Kn K ⟨s, D, L⟩ := fun a w ha => by
  refine ⟨fun _ _ => trivial, ?_⟩
  obtain ⟨ii, zz, r1, r2, r3, r4, r5, r6⟩ := hrow.h
  have hsr := hsrc a w ha
  have hlen := hsr.newsLen
  have hset : ∀ (L : List (Nat × Obj)) (i : Nat) (p q : Nat × Obj), L[i]? = some q → setL L i p = some (L.set i p) := by
    intro L
    induction L with
    | nil => intro i p q h; simp at h
    | cons x r ih =>
      intro i p q h
      cases i with
      | zero => rfl
      | succ i => simp only [List.getElem?_cons_succ] at h; simp [setL, ih i p q h]
  have hat : ∀ (L : List (Nat × Obj)) (i : Nat) (p q : Nat × Obj), L[i]? = some q → (L.set i p)[i]? = some p := by
    intro L i p q h
    obtain ⟨hlt, _⟩ := List.getElem?_eq_some_iff.1 h
    simp [hlt]
  have hz : news.toArray.size = m * size := by simpa using hlen
  by_cases hroom : n + m ≤ cap
  · have hfit1 : off + n * size + news.toArray.size ≤ cur.size := by
      have h2 := hs.fit
      have h3 : (n + m) * size ≤ cap * size := Nat.mul_le_mul_right _ hroom
      rw [Nat.add_mul] at h3
      omega
    have hr := run_append_in_src (P := c.P) w t t2 o.type E ii hu.h r1 g off n cap cur (ha.mem.at_ hs.at_) y' m news (by rw [r4]; exact hsr) hroom (by rw [r4]; simpa using hfit1)
    have hr' : (execOp a.eval o).run c.P w = .ok (.value (.slice (some ⟨g, off, none⟩) (n + m) cap)) (w.setRow g (putR cur (off + n * size) news.toArray)) := by
      rw [r4] at hr
      simp [execOp, ho, resolve, invoke, builtin, ha.ev hx, ha.ev hy, hr]
    rw [Oper.semAt_eq _ _ _ (by rw [ho]; intro cc h; cases h), hr']
    have hps := putR_size cur news.toArray (off + n * size) hfit1
    refine ⟨_, ?_, hk g off cap (putR cur (off + n * size) news.toArray) _ (hset _ _ _ _ hs.at_) ⟨hat _ _ _ _ hs.at_, hroom, hs.max, by rw [hps]; exact hs.fit⟩ ?_⟩
    · rw [hdst]
      exact (ha.mem' (ha.mem.setRow hs.at_ _)).put (d := some d) hd _
    · apply Array.ext_getElem?
      intro q
      rw [Array.getElem?_extract, Array.getElem?_append, Array.getElem?_extract, hps]
      have hsz : (cur.extract off (off + n * size)).size = n * size := by simp; omega
      rw [hsz]
      rw [Nat.add_mul]
      by_cases hq : q < n * size
      · rw [if_pos (by omega), if_pos hq, if_pos (by omega), putR_get_out _ _ _ _ hfit1 (by omega)]
      · rw [if_neg hq]
        by_cases hq2 : q < n * size + m * size
        · rw [if_pos (by omega)]
          have := putR_get_in cur news.toArray (off + n * size) (q - n * size) hfit1 (by omega)
          rw [show off + n * size + (q - n * size) = off + q by omega] at this
          exact this
        · rw [if_neg (by omega), Array.getElem?_eq_none (by omega)]
  · have hold := cells_at ha.mem hs.at_ off (n * size)
    have h3 : n * size ≤ cap * size := Nat.mul_le_mul_right _ hs.le
    have hfit0 := hs.fit
    have hsz : (cur.extract off (off + n * size)).size = n * size := by simp; omega
    have hr := run_append_grow_src (P := c.P) w t t2 o.type E ii zz hu.h r1 r2 (some ⟨g, off, none⟩) n cap (cur.extract off (off + n * size)).toList (run_firstCells_some w.drew ii.size n ⟨g, off, none⟩ n cap _ (by rw [Array.length_toList, hsz, r4]) (by simpa using hold)) y' m news (by rw [r4]; exact hsr) (by omega) (by simp only [maxLen] at hmax; omega) (growslice_fits (by omega) (by rw [r5]; exact hby))
    rw [r3] at hr
    obtain ⟨cap', hcap'⟩ : ∃ q, grownCap w (n + m) cap E = q := ⟨_, rfl⟩
    have hge := grownCap_ge w (n + m) cap E
    have hcm := grownCap_le_maxLen w (n + m) cap E hmax
    rw [hcap'] at hr hge hcm
    have e0 : ((cur.extract off (off + n * size)).toList ++ news).toArray = cur.extract off (off + n * size) ++ news.toArray := by apply Array.ext'; simp
    rw [e0] at hr
    have hr' : (execOp a.eval o).run c.P w = .ok (.value (.slice (some ⟨w.heap.size, 0, none⟩) (n + m) cap')) (w.drew.alloc (.cells (cur.extract off (off + n * size) ++ news.toArray ++ Builtin.zeroCells z (cap' - (n + m))) E)) := by
      simp [execOp, ho, resolve, invoke, builtin, ha.ev hx, ha.ev hy, hr]
    rw [Oper.semAt_eq _ _ _ (by rw [ho]; intro cc h; cases h), hr']
    have hN : (cur.extract off (off + n * size) ++ news.toArray).size = (n + m) * size := by rw [Array.size_append, hsz, hz, Nat.add_mul]
    refine ⟨_, ?_, hk w.heap.size 0 cap' (cur.extract off (off + n * size) ++ news.toArray ++ Builtin.zeroCells z (cap' - (n + m))) _ (hset _ _ _ _ hs.at_) ⟨hat _ _ _ _ hs.at_, hge, hcm, ?_⟩ ?_⟩
    · rw [hdst]
      have hm1 := (ha.mem.drew).alloc (.cells (cur.extract off (off + n * size) ++ news.toArray ++ Builtin.zeroCells z (cap' - (n + m))) E)
      have hm2 : Mem c.g (L.set i (w.heap.size, .cells (cur.extract off (off + n * size) ++ news.toArray ++ Builtin.zeroCells z (cap' - (n + m))) E)) _ :=
        (hm1.perm (L' := (w.heap.size, .cells (cur.extract off (off + n * size) ++ news.toArray ++ Builtin.zeroCells z (cap' - (n + m))) E) :: L) (.refl _)).sublist ((List.eraseIdx_sublist L i).cons_cons _) |>.perm (set_perm hs.at_ _)
      exact (ha.mem' hm2).put (d := some d) hd _
    · rw [Array.size_append, hN, size_zeroCells, r6, ← Nat.add_mul]
      have : n + m + (cap' - (n + m)) = cap' := by omega
      rw [this]; omega
    · rw [Nat.zero_add, ← hN]
      exact extract_left _ _
end
end
end Go.Proofs.YtekmmhmhcpaiaaaGreat
