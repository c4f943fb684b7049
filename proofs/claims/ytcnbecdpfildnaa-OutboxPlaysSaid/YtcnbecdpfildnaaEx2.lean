/-
  Running a program's function by computing: the operations that leave memory as it is. It proves no statement by itself. It holds for every program.
-/
import Derived.Test.YtcnbecdpfildnaaEx
namespace Go.Proofs.Ytcnbecdpfildnaa
open Go.RowKit
noncomputable section

/-! ### what types are -/
section
variable {P : Program}
def sizeX (P : Program) (t : TypeId) : Option Nat := match P.info? t with
  | some i => some i.size
  | none => none
theorem sizeX_ok {t n : Nat} (h : sizeX P t = some n) : TSize P t n := ⟨fun w => by
  unfold sizeX at h
  split at h
  · rename_i i hi; cases h; simp [sizeOf, typeInfo, hi]
  · cases h⟩
def aggX (P : Program) (t : TypeId) : Option Bool := match P.underlying t with
  | some (.struct _) => some true
  | some (.array _ _) => some true
  | some _ => some false
  | none => none
theorem aggX_ok {t : Nat} {b : Bool} (h : aggX P t = some b) : TAgg P t b := ⟨fun w => by
  unfold aggX at h
  split at h
  · rename_i hu; cases h; simp [isAgg, run_underlying hu]
  · rename_i hu; cases h; simp [isAgg, run_underlying hu]
  · rename_i d h1 h2 hu
    cases h
    simp only [isAgg, Sem.run_bind, run_underlying hu]
    cases d <;> first | rfl | exact absurd rfl (h1 _) | exact absurd rfl (h2 _ _)
  · cases h⟩
def fieldX (P : Program) (t i : Nat) : Option (Nat × TypeId × Nat) := match P.underlying t with
  | some (.struct fs) => match fs.toList[i]? with
    | some f => match sizeX P f.type with
      | some n => some (f.offset, f.type, n)
      | none => none
    | none => none
  | _ => none
theorem fieldX_ok {t i off ft n : Nat} (h : fieldX P t i = some (off, ft, n)) : ∃ fs f, P.underlying t = some (.struct fs) ∧ fs[i]? = some f ∧ f.offset = off ∧ f.type = ft ∧ (∀ w, (sizeOf ft).run P w = .ok n w) := by
  unfold fieldX at h
  split at h
  · rename_i fs hu
    split at h
    · rename_i f hf
      split at h
      · rename_i m hm
        cases h
        exact ⟨fs, f, hu, by simpa using hf, rfl, rfl, (sizeX_ok hm).h⟩
      · cases h
    · cases h
  · cases h

/-! ### values of one cell that hold no address -/
def V.scal : V → Option Value
  | .int k n => some (.int k n)
  | .bool b => some (.bool b)
  | .str s => some (.string s)
  | _ => none
theorem V.scal_ok {bs : Bs} {v : V} {v' u : Value} (h : RV bs v v') (hs : v.scal = some u) : v' = u := by
  cases h <;> cases hs <;> rfl

def binW (P : Program) (op : BinOp) (t : TypeId) (x y : Value) : Option Value :=
  match x, y with
  | .int k a, .int k' b =>
    match op with
    | .shl => if 0 ≤ b then some (.int k (k.wrap (a * 2 ^ (min b.toNat k.bits)))) else none
    | .shr => if 0 ≤ b then some (.int k (a.fdiv (2 ^ (min b.toNat k.bits)))) else none
    | _ => if k = k' then
      match op with
      | .add => some (.int k (k.wrap (a + b)))
      | .sub => some (.int k (k.wrap (a - b)))
      | .mul => some (.int k (k.wrap (a * b)))
      | .quo => if b = 0 then none else some (.int k (k.wrap (a.tdiv b)))
      | .rem => if b = 0 then none else some (.int k (a.tmod b))
      | .and => some (.int k (k.wrap (BitVec.ofInt k.bits a &&& BitVec.ofInt k.bits b).toNat))
      | .or => some (.int k (k.wrap (BitVec.ofInt k.bits a ||| BitVec.ofInt k.bits b).toNat))
      | .xor => some (.int k (k.wrap (BitVec.ofInt k.bits a ^^^ BitVec.ofInt k.bits b).toNat))
      | .andNot => some (.int k (k.wrap (BitVec.ofInt k.bits a &&& ~~~(BitVec.ofInt k.bits b)).toNat))
      | .eql => some (.bool (a == b))
      | .neq => some (.bool (a != b))
      | .lss => some (.bool (decide (a < b)))
      | .leq => some (.bool (decide (a ≤ b)))
      | .gtr => some (.bool (decide (a > b)))
      | .geq => some (.bool (decide (a ≥ b)))
      | _ => none
      else none
  | .bool a, .bool b => match P.underlying t with
    | some .bool => match op with
      | .eql => some (.bool (a == b))
      | .neq => some (.bool (a != b))
      | _ => none
    | _ => none
  | .string a, .string b => match op with
    | .add => if ((a.size + b.size : Nat) : Int) > IntKind.i64.max then none else some (.string (a ++ b))
    | .eql => some (.bool (a.toList == b.toList))
    | .neq => some (.bool !(a.toList == b.toList))
    | .lss => some (.bool (Op.bytesLess a.toList b.toList))
    | .geq => some (.bool !(Op.bytesLess a.toList b.toList))
    | .leq => some (.bool (Op.bytesLess a.toList b.toList || a.toList == b.toList))
    | .gtr => some (.bool !(Op.bytesLess a.toList b.toList || a.toList == b.toList))
    | _ => none
  | _, _ => none

theorem binW_run {op : BinOp} {t : TypeId} {x y v : Value} (X Y : Operand) (h : binW P op t x y = some v) (w : World) : (eqGuard op t X Y x y).run P w = .ok () w ∧ (binOp op t x y).run P w = .ok v w := by
  unfold binW at h
  split at h
  · rename_i k a k' b
    split at h
    · split at h
      · rename_i hb; cases h
        simp [eqGuard, binOp, Op.shift, show ¬ b < 0 by omega]
      · cases h
    · split at h
      · rename_i hb; cases h
        simp [eqGuard, binOp, Op.shift, show ¬ b < 0 by omega]
      · cases h
    · split at h
      · rename_i h1 h2 hk
        subst hk
        split at h
        all_goals first
          | (cases h; done)
          | (cases h; simp [eqGuard, binOp, Op.intArith, Op.intCmp, Op.intBits]; done)
          | (split at h
             · cases h
             · rename_i hb; cases h; simp [eqGuard, binOp, Op.intDiv, hb])
      · cases h
  · rename_i a b
    split at h
    · rename_i hu
      split at h
      · cases h; simp [eqGuard, run_eql_bool w t a b hu]
      · cases h; simp [eqGuard, run_neq_bool w t a b hu, bne]
      · cases h
    · cases h
  · split at h
    all_goals first
      | (cases h; done)
      | (cases h; simp [eqGuard, binOp, Op.stringOp]; done)
      | (split at h
         · cases h
         · rename_i hb; cases h; rw [show IntKind.i64.max = 9223372036854775807 from rfl] at hb; simp [eqGuard, binOp, Op.stringOp]; omega)
  · cases h
end

section
variable {c : Cx} {s : List (Nat × Value)} {L : List (Nat × Obj)} {o : Oper}
theorem Qt_binW {op : BinOp} {t t' : TypeId} {x y : Operand} {a b v : Value} (ho : o.op = .binOp op t x y t') (hx : ev s x = some a) (hy : ev s y = some b) (hv : binW c.P op t a b = some v) : Qt c s L o v :=
  ⟨(fun cc => by simp [ho]), fun ρ hρ w _ => by
    obtain ⟨h1, h2⟩ := binW_run (P := c.P) (t := t) x y hv w
    simp [execOp, ho, hρ x _ hx, hρ y _ hy, h1, h2]⟩
theorem Qt_of_run {v : Value} (hd : ∀ cc, o.op ≠ .defer cc) (h : ∀ ρ : Operand → Value, (∀ x u, ev s x = some u → ρ x = u) → ∀ w, Mem c.g L w → (execOp ρ o).run c.P w = .ok (.value v) w) : Qt c s L o v := ⟨hd, h⟩
end

/-! ### cells -/
def cellsX (t : T V) : Nat → Nat → Option (List V)
  | 0, _ => some []
  | n + 1, off => match t.get off, cellsX t n (Nat.succ off) with
    | some v, some l => some (v :: l)
    | _, _ => none
theorem cellsX_ok {bs : Bs} {base av : Nat} {cs : Array Value} {t : T V} (h3 : ∀ i v, t.get i = some v → i < av ∧ ∃ v', cs[base + i]? = some v' ∧ RV bs v v') : ∀ (n off : Nat) (l : List V), cellsX t n off = some l → ∃ l', RVs bs l l' ∧ l'.length = n ∧ (∀ j, j < n → cs[base + off + j]? = l'[j]?) ∧ (n = 0 ∨ off + n ≤ av)
  | 0, off, l, h => by cases h; exact ⟨[], .nil, rfl, (fun j hj => by omega), .inl rfl⟩
  | n + 1, off, l, h => by
    simp only [cellsX] at h
    split at h
    · rename_i v l1 h1 h2
      cases h
      obtain ⟨l', e1, e2, e3, e4⟩ := cellsX_ok h3 n (Nat.succ off) l1 h2
      obtain ⟨f1, v', f2, f3⟩ := h3 off v h1
      refine ⟨v' :: l', .cons f3 e1, by simp [e2], fun j hj => ?_, .inr ?_⟩
      · cases j with
        | zero => simpa using f2
        | succ j =>
          rw [List.getElem?_cons_succ, ← e3 j (by omega)]
          congr 1; omega
      · omega
    · cases h
theorem extract_of_get {cs : Array Value} {a n : Nat} {l' : List Value} (hl : l'.length = n) (hb : a + n ≤ cs.size) (h : ∀ j, j < n → cs[a + j]? = l'[j]?) : cs.extract a (a + n) = l'.toArray := by
  apply Array.ext_getElem?
  intro j
  rw [Array.getElem?_extract]
  by_cases hj : j < n
  · rw [if_pos (by omega), h j hj]; simp
  · rw [if_neg (by omega)]
    simp; omega

/-! ### operations that leave memory as it is -/
def loadX (P : Program) (h : T O) (t : TypeId) : Option V → Option (V × Option Nat)
  | some (.ptr k off) => match rdX (h.get k) with
    | some c => match aggX P t with
      | some false => match c.get off with
        | some v => some (v, some k)
        | none => none
      | some true => match sizeX P t with
        | some (n + 1) => match cellsX c (n + 1) off with
          | some l => some (.agg l, some k)
          | none => none
        | _ => none
      | none => none
    | none => none
  | _ => none

section
variable {c : Cx} {bs : Bs} {σs : List (Nat × Value)} {Ls : List (Nat × Obj)} {o : Oper}

theorem loadX_ok {s : S} {h : T O} {t : TypeId} {x : Operand} {v : V} {rd : Option Nat} (ho : o.op = .load t x) (hc : loadX c.P h t (evX s x) = some (v, rd)) (hs : CovS bs s σs) (hm : ∀ k ob, rd = some k → h.get k = some ob → At bs Ls k ob) : ∃ v', Qt c σs Ls o v' ∧ RV bs v v' := by
  generalize hx : evX s x = e at hc
  unfold loadX at hc
  split at hc
  · rename_i k off
    obtain ⟨p, hp, hr⟩ := evX_ok hs hx
    cases hr
    rename_i b base av hk
    split at hc
    · rename_i cc hb
      obtain ⟨ob, hob, hrd⟩ := rdX_ok (bs := bs) (base := base) (av := av) hb
      have hk2 : ∀ rd' : Option Nat, rd' = some k → rd = rd' → At bs Ls k ob := fun rd' e1 e2 => hm k _ (by rw [e2, e1]) hob
      split at hc
      · rename_i ha
        split at hc
        · rename_i u hu
          cases hc
          obtain ⟨b', base', av', i, o', a1, a2, aRO⟩ := hk2 _ rfl rfl
          rw [hk] at a1; cases a1
          obtain ⟨cs, E, fr, rfl, a3, a4⟩ := hrd aRO
          obtain ⟨_, v', a5, a6⟩ := a4 off _ hu
          haveI := aggX_ok ha
          exact ⟨v', Qt_load1 ho hp i a2 a5, a6⟩
        · cases hc
      · rename_i ha
        split at hc
        · rename_i n hn
          split at hc
          · rename_i l hl
            cases hc
            obtain ⟨b', base', av', i, o', a1, a2, aRO⟩ := hk2 _ rfl rfl
            rw [hk] at a1; cases a1
            obtain ⟨cs, E, fr, rfl, a3, a4⟩ := hrd aRO
            obtain ⟨l', e1, e2, e3, e4⟩ := cellsX_ok a4 (n + 1) off l hl
            haveI := aggX_ok ha
            haveI := sizeX_ok hn
            have hb2 : base + off + (n + 1) ≤ cs.size := by omega
            have hq := Qt_loadN (c := c) (s := σs) (L := Ls) (o := o) (t := t) (n := n + 1) ho hp i a2 hb2
            rw [extract_of_get e2 hb2 e3] at hq
            exact ⟨_, hq, .agg e1⟩
          · cases hc
        · cases hc
      · cases hc
    · cases hc
  · cases hc

def pickX : Option V → Option V → Option V → Option V
  | some (.bool true), some u, some _ => some u
  | some (.bool false), some _, some v => some v
  | _, _, _ => none
theorem pickX_ok {s : S} {x y z : Operand} {v : V} (ho : o.op = .pick x y z) (hc : pickX (evX s x) (evX s y) (evX s z) = some v) (hs : CovS bs s σs) : ∃ v', Qt c σs Ls o v' ∧ RV bs v v' := by
  generalize hx : evX s x = e1 at hc
  generalize hy : evX s y = e2 at hc
  generalize hz : evX s z = e3 at hc
  unfold pickX at hc
  split at hc
  · cases hc
    obtain ⟨_, h1, h2⟩ := evX_ok hs hx; cases h2
    obtain ⟨u, h3, h4⟩ := evX_ok hs hy
    obtain ⟨_, h5, _⟩ := evX_ok hs hz
    exact ⟨u, Qt_pick_true ho h1 h3 h5 rfl, h4⟩
  · cases hc
    obtain ⟨_, h1, h2⟩ := evX_ok hs hx; cases h2
    obtain ⟨_, h3, _⟩ := evX_ok hs hy
    obtain ⟨u, h5, h4⟩ := evX_ok hs hz
    exact ⟨u, Qt_pick_false ho h1 h3 h5 rfl, h4⟩
  · cases hc

def nilX : Option V → Option V
  | some (.ptr k off) => some (.ptr k off)
  | some (.fn (.func f) A B) => some (.fn (.func f) A B)
  | _ => none
theorem nilX_ok {s : S} {x : Operand} {v : V} (ho : o.op = .nilCheck x) (hc : nilX (evX s x) = some v) (hs : CovS bs s σs) : ∃ v', Qt c σs Ls o v' ∧ RV bs v v' := by
  generalize hx : evX s x = e1 at hc
  unfold nilX at hc
  split at hc
  · cases hc
    obtain ⟨_, h1, h2⟩ := evX_ok hs hx
    have h3 := h2
    cases h2
    exact ⟨_, Qt_nilCheck ho h1, h3⟩
  · cases hc
    obtain ⟨_, h1, h2⟩ := evX_ok hs hx
    have h3 := h2
    cases h2
    exact ⟨_, Qt_nilCheck_fn ho h1, h3⟩
  · cases hc

def fieldAddrX (P : Program) (t i : Nat) : Option V → Option V
  | some (.ptr k off) => match fieldX P t i with
    | some (o, _, _ + 1) => some (.ptr k (Nat.add off o))
    | _ => none
  | _ => none
theorem fieldAddrX_ok {s : S} {t i : Nat} {x : Operand} {v : V} (ho : o.op = .fieldAddr t x i) (hc : fieldAddrX c.P t i (evX s x) = some v) (hs : CovS bs s σs) : ∃ v', Qt c σs Ls o v' ∧ RV bs v v' := by
  generalize hx : evX s x = e1 at hc
  unfold fieldAddrX at hc
  split at hc
  · rename_i k off
    split at hc
    · rename_i o1 ft n hf
      cases hc
      obtain ⟨_, h1, h2⟩ := evX_ok hs hx
      cases h2
      rename_i b base av hk
      obtain ⟨fs, f, e1, e2, e3, e4, e5⟩ := fieldX_ok hf
      haveI : TFld c.P t i o1 ft (n + 1) := ⟨⟨fs, f, e1, e2, e3, e4, e5, by simp⟩⟩
      refine ⟨_, Qt_fieldAddr (n := n + 1) ho h1, ?_⟩
      rw [Nat.add_assoc]
      exact .ptr hk
    · cases hc
  · cases hc

def partX (P : Program) (ft off n : Nat) (l : List V) : Option V := match aggX P ft with
  | some true => some (.agg ((l.drop off).take n))
  | some false => l[off]?
  | none => none
theorem part_run {P : Program} {ft off n : Nat} {l : List V} {l' : List Value} {v : V} (h : partX P ft off n l = some v) (hn : ∀ w, (sizeOf ft).run P w = .ok n w) (hl : RVs bs l l') : ∃ v', (∀ w, (part ft l'.toArray off).run P w = .ok v' w) ∧ RV bs v v' := by
  unfold partX at h
  split at h
  · rename_i ha
    cases h
    refine ⟨.agg ((l'.drop off).take n).toArray, fun w => ?_, .agg ((hl.drop off).take n)⟩
    have := (aggX_ok ha).h w
    simp [part, this, hn]
  · rename_i ha
    obtain ⟨v', h1, h2⟩ := hl.get h
    refine ⟨v', fun w => ?_, h2⟩
    have := (aggX_ok ha).h w
    simp [part, this, h1]
  · cases h

def fieldVX (P : Program) (t i : Nat) : Option V → Option V
  | some (.agg l) => match fieldX P t i with
    | some (off, ft, n) => partX P ft off n l
    | none => none
  | _ => none
theorem fieldVX_ok {s : S} {t i : Nat} {x : Operand} {v : V} (ho : o.op = .field t x i) (hc : fieldVX c.P t i (evX s x) = some v) (hs : CovS bs s σs) : ∃ v', Qt c σs Ls o v' ∧ RV bs v v' := by
  generalize hx : evX s x = e1 at hc
  unfold fieldVX at hc
  split at hc
  · split at hc
    · rename_i l o1 ft n hf
      obtain ⟨_, h1, h2⟩ := evX_ok hs hx
      cases h2
      rename_i l' hl
      obtain ⟨fs, f, e1, e2, e3, e4, e5⟩ := fieldX_ok hf
      subst e3 e4
      obtain ⟨v', h3, h4⟩ := part_run hc e5 hl
      refine ⟨v', Qt_of_run (by simp [ho]) (fun ρ hρ w _ => ?_), h4⟩
      simp [execOp, ho, hρ x _ h1, Instr.field, run_underlying e1, e2, asAgg, h3]
    · cases hc
  · cases hc

def indexAddrX (P : Program) (t : Nat) : Option V → Option V → Option V
  | some (.ptr k off), some (.int _ i) => match P.underlying t with
    | some (.array len E) => match sizeX P E with
      | some n => match i with
        | .ofNat j => match Nat.blt j len with
          | true => some (.ptr k (Nat.add off (Nat.mul j n)))
          | false => none
        | _ => none
      | none => none
    | _ => none
  | some (.sl k off len _ _), some (.int _ i) => match P.underlying t with
    | some (.slice E) => match sizeX P E with
      | some n => match i with
        | .ofNat j => match Nat.blt j len with
          | true => some (.ptr k (Nat.add off (Nat.mul j n)))
          | false => none
        | _ => none
      | none => none
    | _ => none
  | _, _ => none
theorem indexAddrX_ok {s : S} {t : Nat} {x y : Operand} {v : V} (ho : o.op = .indexAddr t x y) (hc : indexAddrX c.P t (evX s x) (evX s y) = some v) (hs : CovS bs s σs) : ∃ v', Qt c σs Ls o v' ∧ RV bs v v' := by
  generalize hx : evX s x = e1 at hc
  generalize hy : evX s y = e2 at hc
  unfold indexAddrX at hc
  split at hc
  · rename_i k off kk i
    split at hc
    · rename_i len E hu
      split at hc
      · rename_i n hn
        split at hc
        · rename_i j
          split at hc
          · rename_i hj
            cases hc
            obtain ⟨_, h1, h2⟩ := evX_ok hs hx; cases h2
            obtain ⟨_, h3, h4⟩ := evX_ok hs hy; cases h4
            rename_i b base av hk
            haveI : TUnd c.P t (.array len E) := ⟨hu⟩
            haveI := sizeX_ok hn
            have hlt : j < len := by rwa [Nat.blt_eq] at hj
            refine ⟨_, Qt_indexArr (n := n) ho h1 h3 (by simp) (by simp; omega), ?_⟩
            rw [Nat.add_assoc]
            exact .ptr hk
          · cases hc
        · cases hc
      · cases hc
    · cases hc
  · rename_i k off len sz ex kk i
    split at hc
    · rename_i E hu
      split at hc
      · rename_i n hn
        split at hc
        · rename_i j
          split at hc
          · rename_i hj
            cases hc
            obtain ⟨_, h1, h2⟩ := evX_ok hs hx
            obtain ⟨_, h3, h4⟩ := evX_ok hs hy; cases h4
            obtain ⟨b, base, av, off', cap, rfl, hk, q1, q2, q3, q4⟩ := h2.sl_inv
            haveI : TUnd c.P t (.slice E) := ⟨hu⟩
            haveI := sizeX_ok hn
            have hlt : j < len := by rwa [Nat.blt_eq] at hj
            obtain rfl : off' = base + off := by omega
            refine ⟨_, Qt_indexSl (n := n) ho h1 h3 (by simp) (by simp; omega), ?_⟩
            rw [Nat.add_assoc]
            exact .ptr hk
          · cases hc
        · cases hc
      · cases hc
    · cases hc
  · cases hc

def indexX (P : Program) (t : Nat) : Option V → Option V → Option V
  | some (.agg l), some (.int _ (.ofNat j)) => match P.underlying t with
    | some (.array len E) => match sizeX P E with
      | some n => match Nat.blt j len with
        | true => partX P E (Nat.mul j n) n l
        | false => none
      | none => none
    | _ => none
  | some (.str b), some (.int _ (.ofNat j)) => match P.underlying t with
    | some .string => match b[j]? with
      | some u => some (.int .u8 u.toNat)
      | none => none
    | _ => none
  | _, _ => none
theorem indexX_ok {s : S} {t : Nat} {x y : Operand} {v : V} (ho : o.op = .index t x y) (hc : indexX c.P t (evX s x) (evX s y) = some v) (hs : CovS bs s σs) : ∃ v', Qt c σs Ls o v' ∧ RV bs v v' := by
  generalize hx : evX s x = e1 at hc
  generalize hy : evX s y = e2 at hc
  unfold indexX at hc
  split at hc
  · rename_i l kk j
    split at hc
    · rename_i len E hu
      split at hc
      · rename_i n hn
        split at hc
        · rename_i hj
          have hlt : j < len := by rwa [Nat.blt_eq] at hj
          obtain ⟨_, h1, h2⟩ := evX_ok hs hx; cases h2
          obtain ⟨_, h3, h4⟩ := evX_ok hs hy; cases h4
          rename_i l' hl
          obtain ⟨v', h5, h6⟩ := part_run hc (sizeX_ok hn).h hl
          refine ⟨v', Qt_of_run (by simp [ho]) (fun ρ hρ w _ => ?_), h6⟩
          have h7 := h5 w
          rw [show Nat.mul j n = j * n from rfl] at h7
          simp [execOp, ho, hρ x _ h1, hρ y _ h3, Instr.index, asIntOf, run_underlying hu, (sizeX_ok hn).h, hlt, h7]
        · cases hc
      · cases hc
    · cases hc
  · rename_i b kk j
    split at hc
    · rename_i hu
      split at hc
      · rename_i u hb
        cases hc
        obtain ⟨_, h1, h2⟩ := evX_ok hs hx; cases h2
        obtain ⟨_, h3, h4⟩ := evX_ok hs hy; cases h4
        refine ⟨_, Qt_of_run (by simp [ho]) (fun ρ hρ w _ => ?_), .int .u8 u.toNat⟩
        simp [execOp, ho, hρ x _ h1, hρ y _ h3, Instr.index, asIntOf, run_underlying hu, hb]
      · cases hc
    · cases hc
  · cases hc
end
end
end Go.Proofs.Ytcnbecdpfildnaa
