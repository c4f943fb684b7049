/-
  A part of what the last of these texts needs; by itself it proves no statement.
-/
import Derived.Test.YtncgndcepoicbaaGreatKH4
namespace Go.Proofs.YtncgndcepoicbaaGreat
open Go.RowKit
def afterM : List Edge → Nat
  | [] => 0
  | e :: r => match Region.binds .any e with
    | true => Nat.lor (Nat.shiftLeft 1 e.on) (afterM r)
    | false => afterM r
def afterL : List Oper → Nat → T Nat → T Nat
  | [], _, M => M
  | o :: r, j, M => afterL r (Nat.succ j) (M.set j (afterM o.after.toList))
theorem testBit_one {a k : Nat} : (Nat.shiftLeft 1 a).testBit k = true ↔ k = a := by
  show (1 <<< a).testBit k = true ↔ k = a
  rw [Nat.testBit_shiftLeft]
  simp only [Bool.and_eq_true, decide_eq_true_eq]
  constructor
  · rintro ⟨h1, h2⟩
    rcases Nat.lt_or_ge a k with hl | hl
    · obtain ⟨q, hq⟩ : ∃ q, k - a = q + 1 := ⟨k - a - 1, by omega⟩
      rw [hq] at h2
      simp [Nat.testBit_succ] at h2
    · omega
  · rintro rfl; simp
theorem afterM_spec {k : Nat} : ∀ {l : List Edge}, (afterM l).testBit k = true ↔ ∃ e ∈ l, Region.binds .any e = true ∧ e.on = k
  | [] => by simp [afterM]
  | e :: r => by
    have ih := afterM_spec (k := k) (l := r)
    simp only [afterM]
    split
    · rename_i hb
      rw [show Nat.lor (Nat.shiftLeft 1 e.on) (afterM r) = (Nat.shiftLeft 1 e.on ||| afterM r) from rfl, Nat.testBit_or, Bool.or_eq_true, testBit_one, ih]
      constructor
      · rintro (rfl | ⟨e', h1, h2⟩)
        · exact ⟨e, List.mem_cons_self, hb, rfl⟩
        · exact ⟨e', List.mem_cons_of_mem _ h1, h2⟩
      · rintro ⟨e', h1, h2, h3⟩
        rcases List.mem_cons.1 h1 with rfl | h1
        · exact .inl h3.symm
        · exact .inr ⟨e', h1, h2, h3⟩
    · rename_i hb
      rw [ih]
      constructor
      · rintro ⟨e', h1, h2⟩; exact ⟨e', List.mem_cons_of_mem _ h1, h2⟩
      · rintro ⟨e', h1, h2, h3⟩
        rcases List.mem_cons.1 h1 with rfl | h1
        · rw [h2] at hb; cases hb
        · exact ⟨e', h1, h2, h3⟩
theorem afterL_spec {ops : List Oper} : ∀ (l : List Oper) (j : Nat) (M : T Nat), (∀ i o, l[i]? = some o → ops[j + i]? = some o) → (∀ q n, M.get q = some n → ∃ o, ops[q]? = some o ∧ n = afterM o.after.toList) → ∀ q n, (afterL l j M).get q = some n → ∃ o, ops[q]? = some o ∧ n = afterM o.after.toList
  | [], _, _, _, hM, q, n, h => hM q n h
  | o :: r, j, M, hl, hM, q, n, h => by
    refine afterL_spec r (Nat.succ j) _ (fun i o' h' => ?_) (fun q' n' h' => ?_) q n h
    · have := hl (i + 1) o' (by simpa using h')
      rwa [show Nat.succ j + i = j + (i + 1) by omega]
    · rcases T.get_set h' with ⟨rfl, rfl⟩ | ⟨_, h''⟩
      · exact ⟨o, hl 0 o rfl, rfl⟩
      · exact hM _ _ h''
def dstT : List Oper → Nat → T Nat → T Nat
  | [], _, M => M
  | o :: r, j, M => match o.dst with
    | some d => dstT r (Nat.succ j) (M.set d j)
    | none => dstT r (Nat.succ j) M
def ssaL (ops : Array Oper) (D A : T Nat) : List Oper → Nat → Bool
  | [], _ => true
  | o :: r, j => (match o.dst with
      | some d => (match D.get d with
        | some k => Nat.beq k j
        | none => false)
      | none => true) && ((o.looksAt ops).all fun t => match D.get t with
      | some k => bitOf A j k
      | none => true) && ssaL ops D A r (Nat.succ j)
theorem ssaL_spec {ops : Array Oper} {D A : T Nat} : ∀ {l : List Oper} {j : Nat}, ssaL ops D A l j = true → ∀ {i : Nat} {o : Oper}, l[i]? = some o → (∀ d, o.dst = some d → D.get d = some (j + i)) ∧ ∀ t ∈ o.looksAt ops, ∀ k, D.get t = some k → bitOf A (j + i) k = true
  | [], _, _, i, o, h => by simp at h
  | o :: r, j, h, i, o', hi => by
    simp only [ssaL, Bool.and_eq_true, List.all_eq_true] at h
    obtain ⟨⟨h1, h2⟩, h3⟩ := h
    cases i with
    | zero =>
      simp only [List.getElem?_cons_zero, Option.some.injEq] at hi
      subst hi
      refine ⟨fun d hd => ?_, fun t ht k hk => ?_⟩
      · rw [hd] at h1
        simp only at h1
        split at h1
        · rename_i k hk; rw [hk, Nat.eq_of_beq_eq_true h1]; rfl
        · cases h1
      · have := h2 t ht
        rw [hk] at this
        exact this
    | succ i =>
      rw [List.getElem?_cons_succ] at hi
      obtain ⟨g1, g2⟩ := ssaL_spec h3 hi
      rw [show Nat.succ j + i = j + (i + 1) by omega] at g1 g2
      exact ⟨g1, g2⟩
def subM (a b : Nat) : Bool := Nat.beq (Nat.land a b) a
theorem subM_spec {a b : Nat} (h : subM a b = true) {k : Nat} (hk : a.testBit k = true) : b.testBit k = true := by
  have h : (a &&& b) = a := Nat.eq_of_beq_eq_true h
  have := congrArg (fun x => Nat.testBit x k) h
  simp only [Nat.testBit_and, hk, Bool.true_and] at this
  exact this
theorem subM_no {a b : Nat} (h : subM a b = false) : ∃ k, a.testBit k = true ∧ b.testBit k = false := by
  by_cases hx : ∃ k, a.testBit k = true ∧ b.testBit k = false
  · exact hx
  · exfalso
    have : (a &&& b) = a := by
      apply Nat.eq_of_testBit_eq
      intro k
      rw [Nat.testBit_and]
      cases ha : a.testBit k with
      | false => rfl
      | true =>
        cases hb : b.testBit k with
        | true => rfl
        | false => exact absurd ⟨k, ha, hb⟩ hx
    have h2 : subM a b = true := by
      show Nat.beq (a &&& b) a = true
      rw [this]; simp
    rw [h] at h2; cases h2
def goB (A : T Nat) (ls i : Nat) : Bool := match A.get i with
  | some a => !(Nat.testBit ls i) && subM a ls
  | none => false
def stayB (A : T Nat) (ls j : Nat) : Bool := match A.get j with
  | some a => Nat.testBit ls j || !(subM a ls)
  | none => false
def othersB (A : T Nat) (ls i k : Nat) : Nat → Nat → Bool
  | _, 0 => true
  | j, n + 1 => match Nat.beq j i || Nat.beq j k || stayB A ls j with
    | true => othersB A ls i k (Nat.succ j) n
    | false => false
theorem othersB_spec {A : T Nat} {ls i k : Nat} : ∀ {n j : Nat}, othersB A ls i k j n = true → ∀ {q : Nat}, j ≤ q → q < j + n → q = i ∨ q = k ∨ stayB A ls q = true
  | 0, j, _, q, h1, h2 => by omega
  | n + 1, j, h, q, h1, h2 => by
    simp only [othersB] at h
    split at h
    · rename_i hb
      by_cases e : j = q
      · subst e
        simp only [Bool.or_eq_true] at hb
        rcases hb with (hb | hb) | hb
        · exact .inl (Nat.eq_of_beq_eq_true hb)
        · exact .inr (.inl (Nat.eq_of_beq_eq_true hb))
        · exact .inr (.inr hb)
      · exact othersB_spec h (by show j + 1 ≤ q; omega) (by show q < j + 1 + n; omega)
    · cases h
def eachB (A R : T Nat) (m n ls : Nat) : List Nat → List (Nat × List Nat) → Bool
  | _, [] => true
  | E, (x, ds) :: r => match A.get x with
    | some a => Nat.blt x m && Nat.blt x n && !(Nat.testBit ls x) && !(memB x E) && (ds.all fun y => memB y E && bitOf R x y) && subM a (Nat.lor ls (slotsM E)) && eachB A R m n ls (x :: E) r
    | none => false
where slotsM : List Nat → Nat
  | [] => 0
  | k :: r => Nat.lor (Nat.shiftLeft 1 k) (slotsM r)
def restB (R : T Nat) (ls g : Nat) (l : List Nat) : Nat → Nat → Bool
  | _, 0 => true
  | z, n + 1 => match Nat.testBit ls z || memB z l || (match R.get z with
      | some q => subM g q
      | none => false) with
    | true => restB R ls g l (Nat.succ z) n
    | false => false
theorem restB_spec {R : T Nat} {ls g : Nat} {l : List Nat} : ∀ {n z : Nat}, restB R ls g l z n = true → ∀ {q : Nat}, z ≤ q → q < z + n → ls.testBit q = true ∨ memB q l = true ∨ ∃ a, R.get q = some a ∧ subM g a = true
  | 0, z, _, q, h1, h2 => by omega
  | n + 1, z, h, q, h1, h2 => by
    simp only [restB] at h
    split at h
    · rename_i hb
      by_cases e : z = q
      · subst e
        simp only [Bool.or_eq_true] at hb
        rcases hb with (hb | hb) | hb
        · exact .inl hb
        · exact .inr (.inl hb)
        · split at hb
          · rename_i a ha; exact .inr (.inr ⟨a, ha, hb⟩)
          · cases hb
      · exact restB_spec h (by show z + 1 ≤ q; omega) (by show q < z + 1 + n; omega)
    · cases h
def orAll (l : List (Nat × List Nat)) (ls : Nat) : Nat := match l with
  | [] => ls
  | x :: r => orAll r (Nat.lor ls (Nat.shiftLeft 1 x.1))
def fastGo (A R : T Nat) (m n : Nat) : Plan → Nat → Nat → Bool
  | .done, fuel, ls => Nat.beq fuel 0 && Nat.beq ls (Nat.sub (Nat.pow 2 n) 1)
  | .calm i p, fuel, ls => match fuel with
    | 0 => false
    | fuel + 1 => Nat.blt i m && goB A ls i && fastGo A R m n p fuel (Nat.lor ls (Nat.shiftLeft 1 i))
  | .must i p, fuel, ls => match fuel with
    | 0 => false
    | fuel + 1 => goB A ls i && othersB A ls i i 0 n && fastGo A R m n p fuel (Nat.lor ls (Nat.shiftLeft 1 i))
  | .either i p j q, fuel, ls => match fuel with
    | 0 => false
    | fuel + 1 => Nat.blt i j && goB A ls i && goB A ls j && othersB A ls i j 0 n && fastGo A R m n p fuel (Nat.lor ls (Nat.shiftLeft 1 i)) && fastGo A R m n q fuel (Nat.lor ls (Nat.shiftLeft 1 j))
  | .par l p, fuel, ls => !l.isEmpty && eachB A R m n ls [] l && restB R ls (eachB.slotsM (l.map Prod.fst)) (l.map Prod.fst) 0 n && Nat.ble l.length fuel && fastGo A R m n p (Nat.sub fuel l.length) (orAll l ls)
def fastOk (ops : Array Oper) (m : Nat) (p : Plan) : Bool := ssaL ops (dstT ops.toList 0 .e) (afterL ops.toList 0 .e) ops.toList 0 && fastGo (afterL ops.toList 0 .e) (maskL ops.toList 0 .e) m ops.size p ops.size 0
structure RelM (ops : Array Oper) (ls : Nat) (listed : Array Bool) : Prop where
  size : listed.size = ops.size
  get : ∀ z, z < ops.size → listed.getD z false = ls.testBit z
  lt : ∀ z, ls.testBit z = true → z < ops.size
theorem RelM.getF {ops : Array Oper} {ls : Nat} {listed : Array Bool} (h : RelM ops ls listed) (z : Nat) : listed.getD z false = ls.testBit z := by
  rcases Nat.lt_or_ge z ops.size with h' | h'
  · exact h.get z h'
  · cases hb : ls.testBit z with
    | true => have := h.lt z hb; omega
    | false => simp [Array.getElem?_eq_none (show listed.size ≤ z by rw [h.size]; exact h')]
theorem RelM.getT {ops : Array Oper} {ls : Nat} {listed : Array Bool} (h : RelM ops ls listed) {z : Nat} (hz : z < ops.size) (d : Bool) : listed.getD z d = ls.testBit z := by
  rw [← h.get z hz]
  have : z < listed.size := by rw [h.size]; exact hz
  simp [this]
theorem RelM.set {ops : Array Oper} {ls : Nat} {listed : Array Bool} (h : RelM ops ls listed) {i : Nat} (hi : i < ops.size) : RelM ops (Nat.lor ls (Nat.shiftLeft 1 i)) (listed.setIfInBounds i true) := by
  refine ⟨by rw [Array.size_setIfInBounds]; exact h.size, fun z hz => ?_, fun z hz => ?_⟩
  · rw [show Nat.lor ls (Nat.shiftLeft 1 i) = (ls ||| Nat.shiftLeft 1 i) from rfl, Nat.testBit_or, ← h.get z hz]
    by_cases e : i = z
    · subst e
      have : i < listed.size := by rw [h.size]; exact hi
      simp [this]
    · have : (Nat.shiftLeft 1 i).testBit z = false := Bool.eq_false_iff.2 fun hh => e (testBit_one.1 hh).symm
      rw [this, Bool.or_false]
      simp [Array.getElem?_setIfInBounds_ne e]
  · rw [show Nat.lor ls (Nat.shiftLeft 1 i) = (ls ||| Nat.shiftLeft 1 i) from rfl, Nat.testBit_or, Bool.or_eq_true] at hz
    rcases hz with hz | hz
    · exact h.lt z hz
    · rw [testBit_one.1 hz]; exact hi
theorem afterA {ops : Array Oper} {j a : Nat} (h : (afterL ops.toList 0 .e).get j = some a) : ∃ o, ops[j]? = some o ∧ a = afterM o.after.toList := by
  obtain ⟨o, h1, h2⟩ := afterL_spec (ops := ops.toList) ops.toList 0 .e (fun i o h => by simpa using h) (fun q n h => by cases h) j a h
  exact ⟨o, by simpa using h1, h2⟩
theorem goB_ready {ops : Array Oper} {ls : Nat} {listed : Array Bool} (hr : RelM ops ls listed) {i : Nat} (h : goB (afterL ops.toList 0 .e) ls i = true) : i ∈ Region.ready .any ops listed ∧ i < ops.size := by
  unfold goB at h
  split at h
  · rename_i a ha
    simp only [Bool.and_eq_true, Bool.not_eq_true'] at h
    obtain ⟨o, h1, rfl⟩ := afterA ha
    have hlt := (Array.getElem?_eq_some_iff.1 h1).1
    refine ⟨mem_ready.2 ⟨by rw [hr.getT hlt]; exact h.1, o, h1, fun e he hb => ?_⟩, hlt⟩
    rw [hr.getF]
    exact subM_spec h.2 (afterM_spec.2 ⟨e, by simpa using he, hb, rfl⟩)
  · cases h
theorem stayB_ready {ops : Array Oper} {ls : Nat} {listed : Array Bool} (hr : RelM ops ls listed) {j : Nat} (h : stayB (afterL ops.toList 0 .e) ls j = true) : j ∉ Region.ready .any ops listed := fun hj => by
  unfold stayB at h
  split at h
  · rename_i a ha
    obtain ⟨o, h1, rfl⟩ := afterA ha
    obtain ⟨g1, o', g2, g3⟩ := mem_ready.1 hj
    rw [h1] at g2; cases g2
    have hlt := (Array.getElem?_eq_some_iff.1 h1).1
    rw [hr.getT hlt] at g1
    rw [g1] at h
    simp only [Bool.false_or, Bool.not_eq_true'] at h
    obtain ⟨k, h2, h3⟩ := subM_no h
    obtain ⟨e, he, hb, rfl⟩ := afterM_spec.1 h2
    have := g3 e (by simpa using he) hb
    rw [hr.getF, h3] at this; cases this
  · cases h
theorem ready_pw {ops : Array Oper} {listed : Array Bool} : (Region.ready .any ops listed).Pairwise (· < ·) := by
  unfold Region.ready
  exact List.Pairwise.filter _ List.pairwise_lt_range
theorem list_one {l : List Nat} {i : Nat} (hp : l.Pairwise (· < ·)) (hi : i ∈ l) (h : ∀ x ∈ l, x = i) : l = [i] := by
  cases l with
  | nil => cases hi
  | cons a r =>
    have := h a List.mem_cons_self
    subst this
    cases r with
    | nil => rfl
    | cons b r =>
      have h1 := h b (by simp)
      rw [List.pairwise_cons] at hp
      have := hp.1 b List.mem_cons_self
      omega
theorem list_two {l : List Nat} {i j : Nat} (hij : i < j) (hp : l.Pairwise (· < ·)) (hi : i ∈ l) (hj : j ∈ l) (h : ∀ x ∈ l, x = i ∨ x = j) : l = [i, j] := by
  cases l with
  | nil => cases hi
  | cons a r =>
    rw [List.pairwise_cons] at hp
    have ha : a = i := by
      rcases h a List.mem_cons_self with e | e
      · exact e
      · subst e
        rcases List.mem_cons.1 hi with e | hi
        · omega
        · have := hp.1 i hi; omega
    subst ha
    congr 1
    refine list_one hp.2 ?_ fun x hx => ?_
    · rcases List.mem_cons.1 hj with e | hj
      · omega
      · exact hj
    · rcases h x (List.mem_cons_of_mem _ hx) with e | e
      · have := hp.1 x hx; omega
      · exact e
set_option maxHeartbeats 4000000 in
theorem ssa_free {ops : Array Oper} {listed : Array Bool} (hs : ssaL ops (dstT ops.toList 0 .e) (afterL ops.toList 0 .e) ops.toList 0 = true) {i : Nat} (hi : i ∈ Region.ready .any ops listed) : Region.free .any ops listed i = true := by
  have spec : ∀ {j : Nat} {o : Oper}, ops[j]? = some o → (∀ d, o.dst = some d → (dstT ops.toList 0 .e).get d = some j) ∧ ∀ t ∈ o.looksAt ops, ∀ k, (dstT ops.toList 0 .e).get t = some k → ∃ e ∈ o.after, Region.binds .any e = true ∧ e.on = k := fun {j o} hj => by
    obtain ⟨h1, h2⟩ := ssaL_spec hs (i := j) (o := o) (by simpa using hj)
    refine ⟨fun d hd => by have := h1 d hd; rwa [Nat.zero_add] at this, fun t ht k hk => ?_⟩
    have := h2 t ht k hk
    rw [Nat.zero_add] at this
    unfold bitOf at this
    split at this
    · rename_i n hn
      obtain ⟨o', g1, rfl⟩ := afterA hn
      rw [hj] at g1; cases g1
      obtain ⟨e, he, hb, hk⟩ := afterM_spec.1 this
      exact ⟨e, by simpa using he, hb, hk⟩
    · cases this
  obtain ⟨hun, oi, hoi, hall⟩ := mem_ready.1 hi
  unfold Region.free
  simp only [hoi, List.all_eq_true, List.mem_range]
  intro j hj
  have hoj : ops[j]? = some ops[j] := Array.getElem?_eq_getElem hj
  simp only [hoj, Bool.or_eq_true, beq_iff_eq]
  by_cases hji : j = i
  · exact .inl (.inl hji)
  · cases hl : listed.getD j true with
    | true => exact .inl (.inr rfl)
    | false =>
      right
      cases hb : (ops[j].after.any fun e => Region.binds .any e && e.on == i) with
      | true => exact .inl rfl
      | false =>
        right
        have hno : ∀ e ∈ ops[j].after, Region.binds .any e = true → e.on ≠ i := fun e he hbi heq => by
          rw [← Array.any_toList, List.any_eq_false] at hb
          exact hb e (by simpa using he) (by simp [hbi, heq])
        have hjl : listed.getD j false = false := by
          rcases Nat.lt_or_ge j listed.size with h' | h'
          · simp [h'] at hl ⊢; exact hl
          · simp [Array.getElem?_eq_none h']
        have A1 : ∀ d, oi.dst = some d → d ∉ ops[j].looksAt ops := fun d hd hmem => by
          obtain ⟨e, he, hbi, heq⟩ := (spec hoj).2 d hmem i ((spec hoi).1 d hd)
          exact hno e he hbi heq
        have A2 : ∀ d, oi.dst = some d → ops[j].dst ≠ some d := fun d hd hd2 => by
          have h1 := (spec hoi).1 d hd
          have h2 := (spec hoj).1 d hd2
          rw [h1] at h2; cases h2; exact hji rfl
        have A3 : ∀ d, ops[j].dst = some d → d ∉ oi.looksAt ops := fun d hd hmem => by
          obtain ⟨e, he, hbi, heq⟩ := (spec hoi).2 d hmem j ((spec hoj).1 d hd)
          have := hall e he hbi
          rw [heq, hjl] at this; cases this
        unfold Oper.apart
        simp only [Bool.and_eq_true]
        refine ⟨?_, ?_⟩
        · split
          · rename_i d hd
            simp only [Bool.and_eq_true, Bool.not_eq_true', bne_iff_ne]
            exact ⟨Bool.eq_false_iff.2 fun h => A1 d hd (List.contains_iff_mem.1 h), A2 d hd⟩
          · rfl
        · split
          · rename_i d hd
            simp only [Bool.not_eq_true']
            exact Bool.eq_false_iff.2 fun h => A3 d hd (List.contains_iff_mem.1 h)
          · rfl
theorem slotsM_spec {k : Nat} : ∀ {E : List Nat}, (eachB.slotsM E).testBit k = true ↔ k ∈ E
  | [] => by simp [eachB.slotsM]
  | x :: r => by
    simp only [eachB.slotsM]
    rw [show Nat.lor (Nat.shiftLeft 1 x) (eachB.slotsM r) = (Nat.shiftLeft 1 x ||| eachB.slotsM r) from rfl, Nat.testBit_or, Bool.or_eq_true, testBit_one, slotsM_spec, List.mem_cons]
theorem memB_yes {k : Nat} : ∀ {l : List Nat}, k ∈ l → memB k l = true
  | [], h => by cases h
  | j :: r, h => by
    simp only [memB]
    split
    · rfl
    · rename_i hne
      rcases List.mem_cons.1 h with rfl | h
      · simp at hne
      · exact memB_yes h
theorem eachB_ok {ops : Array Oper} {m ls : Nat} {listed : Array Bool} (hr : RelM ops ls listed) : ∀ {l : List (Nat × List Nat)} {E : List Nat}, eachB (afterL ops.toList 0 .e) (maskL ops.toList 0 .e) m ops.size ls E l = true → parEach ops (maskL ops.toList 0 .e) m listed E l = true
  | [], _, _ => rfl
  | (x, ds) :: r, E, h => by
    simp only [eachB] at h
    split at h
    · rename_i a ha
      obtain ⟨o, ho, rfl⟩ := afterA ha
      simp only [Bool.and_eq_true, Bool.not_eq_true', Nat.blt_eq] at h
      obtain ⟨⟨⟨⟨⟨⟨h1, h2⟩, h3⟩, h4⟩, h5⟩, h6⟩, h7⟩ := h
      have ih := eachB_ok hr h7
      simp only [parEach, ho, Bool.and_eq_true, Bool.not_eq_true', Nat.blt_eq]
      refine ⟨⟨⟨⟨⟨h1, by rw [hr.getT h2]; exact h3⟩, h4⟩, h5⟩, ?_⟩, ih⟩
      rw [← Array.all_toList, List.all_eq_true]
      intro e he
      cases hb : Region.binds .any e with
      | false => simp
      | true =>
        have := subM_spec h6 (afterM_spec.2 ⟨e, he, hb, rfl⟩)
        rw [show Nat.lor ls (eachB.slotsM E) = (ls ||| eachB.slotsM E) from rfl, Nat.testBit_or, Bool.or_eq_true, slotsM_spec] at this
        simp only [Bool.not_true, Bool.false_or, Bool.or_eq_true]
        rcases this with h | h
        · exact .inl (by rw [hr.getF]; exact h)
        · exact .inr (memB_yes h)
    · cases h
theorem RelM.all {ops : Array Oper} : ∀ {l : List (Nat × List Nat)} {ls : Nat} {listed : Array Bool}, RelM ops ls listed → (∀ x ∈ l, x.1 < ops.size) → RelM ops (orAll l ls) (listAll l listed)
  | [], _, _, h, _ => h
  | x :: r, _, _, h, hl => RelM.all (l := r) (h.set (hl x List.mem_cons_self)) fun y hy => hl y (List.mem_cons_of_mem _ hy)
set_option maxHeartbeats 4000000 in
theorem fastGo_ok {ops : Array Oper} {m : Nat} (hs : ssaL ops (dstT ops.toList 0 .e) (afterL ops.toList 0 .e) ops.toList 0 = true) : ∀ (p : Plan) (fuel ls : Nat) (listed : Array Bool), RelM ops ls listed → fastGo (afterL ops.toList 0 .e) (maskL ops.toList 0 .e) m ops.size p fuel ls = true → planOk ops m p fuel listed = true := by
  intro p
  induction p with
  | done =>
    intro fuel ls listed hr h
    simp only [fastGo, Bool.and_eq_true] at h
    simp only [planOk, Bool.and_eq_true, List.isEmpty_iff]
    refine ⟨?_, h.1⟩
    have h2 : ls = 2 ^ ops.size - 1 := Nat.eq_of_beq_eq_true h.2
    rw [List.eq_nil_iff_forall_not_mem]
    intro j hj
    obtain ⟨g1, o, g2, _⟩ := mem_ready.1 hj
    have hlt := (Array.getElem?_eq_some_iff.1 g2).1
    rw [hr.getT hlt, h2, Nat.testBit_two_pow_sub_one] at g1
    simp [hlt] at g1
  | calm i p ih =>
    intro fuel ls listed hr h
    cases fuel with
    | zero => cases h
    | succ fuel =>
      simp only [fastGo, Bool.and_eq_true] at h
      obtain ⟨⟨h1, h2⟩, h3⟩ := h
      obtain ⟨g1, g2⟩ := goB_ready hr h2
      simp only [planOk, Bool.and_eq_true]
      exact ⟨⟨⟨h1, ssa_free hs g1⟩, List.contains_iff_mem.2 g1⟩, ih _ _ _ (hr.set g2) h3⟩
  | must i p ih =>
    intro fuel ls listed hr h
    cases fuel with
    | zero => cases h
    | succ fuel =>
      simp only [fastGo, Bool.and_eq_true] at h
      obtain ⟨⟨h1, h2⟩, h3⟩ := h
      obtain ⟨g1, g2⟩ := goB_ready hr h1
      simp only [planOk, Bool.and_eq_true, beq_iff_eq]
      refine ⟨list_one ready_pw g1 fun x hx => ?_, ih _ _ _ (hr.set g2) h3⟩
      obtain ⟨_, o, g3, _⟩ := mem_ready.1 hx
      rcases othersB_spec h2 (Nat.zero_le x) (by rw [Nat.zero_add]; exact (Array.getElem?_eq_some_iff.1 g3).1) with e | e | e
      · exact e
      · exact e
      · exact absurd hx (stayB_ready hr e)
  | either i p j q ihp ihq =>
    intro fuel ls listed hr h
    cases fuel with
    | zero => cases h
    | succ fuel =>
      simp only [fastGo, Bool.and_eq_true, Nat.blt_eq] at h
      obtain ⟨⟨⟨⟨⟨h0, h1⟩, h1'⟩, h2⟩, h3⟩, h4⟩ := h
      obtain ⟨g1, g2⟩ := goB_ready hr h1
      obtain ⟨g1', g2'⟩ := goB_ready hr h1'
      simp only [planOk, Bool.and_eq_true, beq_iff_eq]
      refine ⟨⟨list_two h0 ready_pw g1 g1' fun x hx => ?_, ihp _ _ _ (hr.set g2) h3⟩, ihq _ _ _ (hr.set g2') h4⟩
      obtain ⟨_, o, g3, _⟩ := mem_ready.1 hx
      rcases othersB_spec h2 (Nat.zero_le x) (by rw [Nat.zero_add]; exact (Array.getElem?_eq_some_iff.1 g3).1) with e | e | e
      · exact .inl e
      · exact .inr e
      · exact absurd hx (stayB_ready hr e)
  | par l p ih =>
    intro fuel ls listed hr h
    simp only [fastGo, Bool.and_eq_true] at h
    obtain ⟨⟨⟨⟨h1, h2⟩, h3⟩, h4⟩, h5⟩ := h
    have hlt : ∀ x ∈ l, x.1 < ops.size := by
      have gen : ∀ (l : List (Nat × List Nat)) (E : List Nat), eachB (afterL ops.toList 0 .e) (maskL ops.toList 0 .e) m ops.size ls E l = true → ∀ x ∈ l, x.1 < ops.size := by
        intro l
        induction l with
        | nil => intro E _ x hx; cases hx
        | cons y r ihr =>
          intro E h x hx
          obtain ⟨y0, d0⟩ := y
          simp only [eachB] at h
          split at h
          · simp only [Bool.and_eq_true, Nat.blt_eq] at h
            rcases List.mem_cons.1 hx with e | hx
            · rw [e]; exact h.1.1.1.1.1.2
            · exact ihr _ h.2 x hx
          · cases h
      exact gen l [] h2
    simp only [planOk, parOk, Bool.and_eq_true]
    refine ⟨⟨⟨⟨h1, eachB_ok hr h2⟩, ?_⟩, h4⟩, ih _ _ _ (hr.all hlt) h5⟩
    simp only [List.all_eq_true, List.mem_range]
    intro z hz
    simp only [Bool.or_eq_true, List.all_eq_true]
    rcases restB_spec h3 (Nat.zero_le z) (by rw [Nat.zero_add]; exact hz) with h | h | ⟨a, ha, hsub⟩
    · exact .inl (.inl (by rw [hr.getT hz]; exact h))
    · exact .inl (.inr h)
    · refine .inr fun x hx => ?_
      unfold bitOf
      rw [ha]
      exact subM_spec hsub (slotsM_spec.2 (List.mem_map.2 ⟨x, hx, rfl⟩))
theorem fastOk_ok {ops : Array Oper} {m : Nat} {p : Plan} (h : fastOk ops m p = true) : planOk ops m p ops.size (Array.replicate ops.size false) = true := by
  unfold fastOk at h
  rw [Bool.and_eq_true] at h
  refine fastGo_ok h.1 p ops.size 0 _ ⟨by simp, fun z hz => by simp [hz], fun z hz => by simp at hz⟩ h.2
def lateT (ops : List Oper) (m : Nat) : Bool := lateL (maskL ops 0 .e) (Nat.pow 2 m) m (Nat.sub ops.length m)
where lateL (M : T Nat) (p : Nat) : Nat → Nat → Bool
  | _, 0 => true
  | j, n + 1 => match M.get j with
    | some q => match Nat.beq (Nat.mod q p) (Nat.sub p 1) with
      | true => lateL M p (Nat.succ j) n
      | false => false
    | none => false
theorem lateT_ok {ops : List Oper} {m : Nat} (h : lateT ops m = true) {j k : Nat} (hj : j < ops.length) (hm : m ≤ j) (hk : k < m) : WaitsOn ops j k := by
  have hM := maskL_ok (ops := ops) ops 0 .e (fun i o h => by simpa using h) (fun j n h => by cases h)
  have gen : ∀ (n i : Nat), lateT.lateL (maskL ops 0 .e) (Nat.pow 2 m) i n = true → i ≤ j → j < i + n → WaitsOn ops j k := by
    intro n
    induction n with
    | zero => intro i _ h1 h2; omega
    | succ n ih =>
      intro i h h1 h2
      simp only [lateT.lateL] at h
      split at h
      · rename_i q hq
        split at h
        · rename_i hb
          by_cases e : i = j
          · subst e
            refine hM i q hq k ?_
            have hb := Nat.eq_of_beq_eq_true hb
            have hb : q % 2 ^ m = 2 ^ m - 1 := hb
            have h3 : (q % 2 ^ m).testBit k = true := by rw [hb, Nat.testBit_two_pow_sub_one]; simpa using hk
            rw [Nat.testBit_mod_two_pow] at h3
            simp only [Bool.and_eq_true] at h3
            exact h3.2
          · exact ih (i + 1) h (by omega) (by omega)
        · cases h
      · cases h
  exact gen _ m h hm (by have : Nat.sub ops.length m = ops.length - m := rfl; omega)
section
variable {c : Cx} {ops : Array Oper}
def Closed (ops : Array Oper) (listed : Array Bool) : Prop := ∀ j o, ops[j]? = some o → listed.getD j false = true → ∀ e ∈ o.after, Region.binds .any e = true → listed.getD e.on false = true
theorem Closed.reach {listed : Array Bool} (hc : Closed ops listed) {j k : Nat} (h : WaitsOn ops.toList j k) : (∀ o, ops[j]? = some o → ∀ e ∈ o.after, Region.binds .any e = true → listed.getD e.on false = true) → listed.getD k false = true := by
  induction h with
  | one hj he hb => intro hall; exact hall _ (by simpa using hj) _ he hb
  | more hj he hb h ih =>
    intro hall
    have h1 := hall _ (by simpa using hj) _ he hb
    exact ih fun o ho => hc _ o ho h1
theorem Closed.set {listed : Array Bool} (hc : Closed ops listed) {j : Nat} (hj : j ∈ Region.ready .any ops listed) : Closed ops (listed.setIfInBounds j true) := by
  obtain ⟨hun, oj, hoj, hall⟩ := mem_ready.1 hj
  have mono : ∀ k, listed.getD k false = true → (listed.setIfInBounds j true).getD k false = true := fun k hk => by
    by_cases e : j = k
    · subst e
      rcases Nat.lt_or_ge j listed.size with h' | h'
      · simp [h']
      · simp [Array.getElem?_eq_none h'] at hk
    · simpa [Array.getElem?_setIfInBounds_ne e] using hk
  intro k o ho hk e he hb
  by_cases hjk : j = k
  · subst hjk
    rw [hoj] at ho; cases ho
    exact mono _ (hall e he hb)
  · refine mono _ (hc k o ho ?_ e he hb)
    simpa [Array.getElem?_setIfInBounds_ne hjk] using hk
theorem ready_reach {listed : Array Bool} (hc : Closed ops listed) {i j : Nat} (hi : i ∈ Region.ready .any ops listed) (hj : j ∈ Region.ready .any ops listed) (h : WaitsOn ops.toList j i) : False := by
  obtain ⟨_, oj, hoj, hall⟩ := mem_ready.1 hj
  have h1 := hc.reach h fun o ho e he hb => by rw [hoj] at ho; cases ho; exact hall e he hb
  have h0 := (mem_ready.1 hi).1
  rcases Nat.lt_or_ge i listed.size with h' | h'
  · simp [h'] at h0 h1; rw [h0] at h1; cases h1
  · simp [Array.getElem?_eq_none h'] at h1
def Clean (ms : List Nat) (listed : Array Bool) : Prop := ∀ j ∈ ms, listed.getD j false = false
theorem Clean.back {ms : List Nat} {listed : Array Bool} {i : Nat} (h : Clean ms (listed.setIfInBounds i true)) : Clean ms listed := fun j hj => by
  have := h j hj
  by_cases e : i = j
  · subst e
    rcases Nat.lt_or_ge i listed.size with h' | h'
    · simp [h'] at this
    · simp [Array.getElem?_eq_none h']
  · simpa [Array.getElem?_setIfInBounds_ne e] using this
theorem Clean.set {ms : List Nat} {listed : Array Bool} {i : Nat} (h : Clean ms listed) (hi : i ∉ ms) : Clean ms (listed.setIfInBounds i true) := fun j hj => by
  have hne : i ≠ j := fun e => hi (e ▸ hj)
  have := h j hj
  simpa [Array.getElem?_setIfInBounds_ne hne] using this
def AnyK (c : Cx) (ops : Array Oper) (K : Exit → St → Prop) (Ls L0 : List (Nat × Obj)) (m : Nat) (ms : List Nat) : Nat → Array Bool → Act → World → Prop
  | 0, listed, a, w => Region.ready .any ops listed = [] ∧ liftO c K .normal a w
  | fuel + 1, listed, a, w =>
    (Region.ready .any ops listed = [] → liftO c K .normal a w) ∧
    ∀ i ∈ Region.ready .any ops listed, wpOpIn (Fw c.r) c.n c.P ops (liftO c K) i (fun a' w' => ((i < m → Mem c.g Ls w') ∧ (Clean ms (listed.setIfInBounds i true) → Mem c.g L0 w')) ∧ AnyK c ops K Ls L0 m ms fuel (listed.setIfInBounds i true) a' w') a w
theorem AnyK.any {K : Exit → St → Prop} {Ls L0 : List (Nat × Obj)} {m : Nat} {ms : List Nat} : ∀ (fuel : Nat) (listed : Array Bool) (a : Act) (w : World), AnyK c ops K Ls L0 m ms fuel listed a w → wpAnyIn (Fw c.r) c.n c.P .any ops (liftO c K) fuel listed a w
  | 0, _, _, _, h => h
  | fuel + 1, _, _, _, h => ⟨h.1, fun i hi => wpOpIn_mono (fun a' w' h' => AnyK.any fuel _ a' w' h'.2) (h.2 i hi)⟩
def aheadOk (ops : Array Oper) (ms : List Nat) (m i : Nat) : Bool := ms.all fun j => match Nat.ble m j with
  | true => true
  | false => match ops[j]? with
    | some o => o.after.any fun e => Region.binds .any e && e.on == i
    | none => true
theorem aheadOk_spec {ms : List Nat} {m i : Nat} (h : aheadOk ops ms m i = true) {j : Nat} {o : Oper} (hj : ops[j]? = some o) (hm : j ∈ ms) (hjm : j < m) : ∃ e ∈ o.after, Region.binds .any e = true ∧ e.on = i := by
  have h1 := List.all_eq_true.1 h j hm
  have hb : Nat.ble m j = false := Bool.eq_false_iff.2 fun h => by have := Nat.le_of_ble_eq_true h; omega
  simp only [hb, hj] at h1
  rw [← Array.any_toList, List.any_eq_true] at h1
  obtain ⟨e, he, h2⟩ := h1
  simp only [Bool.and_eq_true, beq_iff_eq] at h2
  exact ⟨e, by simpa using he, h2.1, h2.2⟩
theorem ready_un {listed : Array Bool} {i : Nat} (hr : i ∈ Region.ready .any ops listed) {o : Oper} {e : Edge} (he : e ∈ o.after) (hb : Region.binds .any e = true) (heq : e.on = i) (hall : ∀ e ∈ o.after, Region.binds .any e = true → listed.getD e.on false = true) : False := by
  have h1 := hall e he hb
  have h0 := (mem_ready.1 hr).1
  rw [heq] at h1
  rcases Nat.lt_or_ge i listed.size with h' | h'
  · simp [h'] at h0 h1; rw [h0] at h1; cases h1
  · simp [Array.getElem?_eq_none h'] at h1
set_option maxHeartbeats 4000000 in
theorem AnyK.first {K : Exit → St → Prop} {Ls L0 X : List (Nat × Obj)} {m : Nat} {ms : List Nat} {i : Nat} {oi : Oper} {v : Value} (hi : ops[i]? = some oi) (hsel : ∀ (j : Nat) (o : Oper) cs b, ops[j]? = some o → o.op ≠ .select cs b) (him : i < m) (hlate : lateT ops.toList m = true) (hims : i ∉ ms)
    (hX : X = Ls ∨ X = L0 ∧ aheadOk ops ms m i = true) (hsub : ∀ w, Mem c.g L0 w → Mem c.g Ls w) :
    ∀ (fuel : Nat) (listed : Array Bool) (a : Act) (w : World),
      (∀ j oj, ops[j]? = some oj → j ≠ i → listed.getD j true = false → (∀ e ∈ oj.after, Region.binds .any e = true → e.on ≠ i) → oi.apart ops oj = true) →
      Closed ops listed → i ∈ Region.ready .any ops listed → Calm c ops X oi v a → Mem c.g Ls w → (X = Ls ∨ Clean ms listed) → (Clean ms listed → Mem c.g L0 w) →
      AnyK c ops K Ls L0 m ms fuel (listed.setIfInBounds i true) (a.put oi.dst v) w → AnyK c ops K Ls L0 m ms (fuel + 1) listed a w := by
  intro fuel
  have memX : ∀ {listed : Array Bool} {w : World}, Mem c.g Ls w → (X = Ls ∨ Clean ms listed) → (Clean ms listed → Mem c.g L0 w) → Mem c.g X w := fun {listed w} hS hcl hC => by
    rcases hX with rfl | ⟨rfl, _⟩
    · exact hS
    · rcases hcl with rfl | hcl
      · exact hS
      · exact hC hcl
  induction fuel with
  | zero =>
    intro listed a w _ hclo hr hy hS hcl hC H
    refine ⟨fun h => (by rw [h] at hr; cases hr), fun j hj => ?_⟩
    by_cases hji : j = i
    · subst hji; exact hy.op hi (memX hS hcl hC) ⟨⟨fun _ => hS, fun h => hC h.back⟩, H⟩
    · have := ready_mono hj hji
      rw [H.1] at this
      cases this
  | succ fuel ih =>
    intro listed a w hfree hclo hr hy hS hcl hC H
    refine ⟨fun h => (by rw [h] at hr; cases hr), fun j hj => ?_⟩
    by_cases hji : j = i
    · subst hji; exact hy.op hi (memX hS hcl hC) ⟨⟨fun _ => hS, fun h => hC h.back⟩, H⟩
    · have h1 := H.2 j (ready_mono hj hji)
      obtain ⟨hjun, oj, hoj, hall⟩ := mem_ready.1 hj
      have hnot : ∀ e ∈ oj.after, Region.binds .any e = true → e.on ≠ i := fun e he hb heq => ready_un hr he hb heq hall
      have hjm : j < m := by
        rcases Nat.lt_or_ge j m with h' | h'
        · exact h'
        · exact (ready_reach hclo hr hj (lateT_ok hlate (by simpa using (Array.getElem?_eq_some_iff.1 hoj).1) h' him)).elim
      have hcl' : X = Ls ∨ Clean ms (listed.setIfInBounds j true) := by
        rcases hX with h | ⟨_, hah⟩
        · exact .inl h
        · rcases hcl with h | hcl
          · exact .inl h
          · refine .inr (hcl.set fun hjms => ?_)
            obtain ⟨e, he, hb, heq⟩ := aheadOk_spec hah hoj hjms hjm
            exact hnot e he hb heq
      have h2 := wpOpIn_calm hoj (hfree j oj hoj hji hjun hnot) (fun cs b => hsel i oi cs b hi) (fun cs b => hsel j oj cs b hoj) hy h1
      have hfree' : ∀ k ok, ops[k]? = some ok → k ≠ i → (listed.setIfInBounds j true).getD k true = false →
          (∀ e ∈ ok.after, Region.binds .any e = true → e.on ≠ i) → oi.apart ops ok = true := fun k ok hk hki hun hno => by
        refine hfree k ok hk hki ?_ hno
        by_cases hjk : j = k
        · subst hjk; exact hjun
        · rw [getD_set_ne true hjk] at hun; exact hun
      refine wpOpIn_mono (fun a' w' h3 => ?_) h2
      have hC' : Clean ms (listed.setIfInBounds j true) → Mem c.g L0 w' := fun h => h3.2.1.2 (by
        rw [Array.setIfInBounds_comm _ _ (Ne.symm hji)]; exact h.set hims)
      refine ⟨⟨h3.2.1.1, hC'⟩, ih (listed.setIfInBounds j true) a' w' hfree' (hclo.set hj) (ready_mono hr (Ne.symm hji)) h3.1 (h3.2.1.1 hjm) hcl' hC' ?_⟩
      rw [Array.setIfInBounds_comm _ _ hji]
      exact h3.2.2
def Plan.musts : Plan → List Nat
  | .done => []
  | .calm _ p => p.musts
  | .must i p => i :: p.musts
  | .either i p j q => i :: j :: (p.musts ++ q.musts)
  | .par l p => l.map Prod.fst ++ p.musts
def calmsOk (ms : List Nat) : Plan → Bool
  | .done => true
  | .calm i p => !ms.contains i && calmsOk ms p
  | .must _ p => calmsOk ms p
  | .either _ p _ q => calmsOk ms p && calmsOk ms q
  | .par _ p => calmsOk ms p
def WS (c : Cx) (ops : Array Oper) (K : Exit → St → Prop) (Ls L0 : List (Nat × Obj)) (m : Nat) (ms : List Nat) : Bool → Plan → St → Prop
  | _, .done, σ => K .normal σ
  | fresh, .calm i p, σ => ∃ o v X, ops[i]? = some o ∧ dok c.N o.dst = true ∧ (X = Ls ∨ X = L0 ∧ aheadOk ops ms m i = true ∧ fresh = true) ∧ (Qt c σ.s X o v ∧ o.guard = none ∨ ∃ j want og dg b, o.guard = some (j, want) ∧ ops[j]? = some og ∧ og.dst = some dg ∧ look σ.s dg = some b ∧
      ((b = .bool want ∧ Qt c σ.s X o v) ∨ ((b = .bool (!want) ∨ b = undef) ∧ v = undef ∧ ∀ cc, o.op ≠ .defer cc))) ∧ WS c ops K Ls L0 m ms fresh p (σ.put o.dst v)
  | _, .must i p, σ => Must c ops K Ls m i (fun σ' => WS c ops K Ls L0 m ms false p σ') σ
  | _, .par l p, σ => ∃ I : (Nat → Bool) → St → Prop, I (fun _ => false) σ ∧
      (∀ A σ', I A σ' → ∀ x ds, (x, ds) ∈ l → A x = false → (∀ y ∈ ds, A y = true) → Must c ops K Ls m x (fun σ'' => I (fun z => z == x || A z) σ'') σ') ∧
      ∀ A σ', I A σ' → (∀ x ∈ l.map Prod.fst, A x = true) → WS c ops K Ls L0 m ms false p σ'
  | _, .either i p j q, σ => Must c ops K Ls m i (fun σ' => WS c ops K Ls L0 m ms false p σ') σ ∧ Must c ops K Ls m j (fun σ' => WS c ops K Ls L0 m ms false q σ') σ
set_option maxHeartbeats 4000000 in
theorem Must.stepK {K : Exit → St → Prop} {Ls L0 : List (Nat × Obj)} {m : Nat} {ms : List Nat} (hlate : lateT ops.toList m = true) (hn : (Ls.map Prod.fst).Nodup) {p : Plan} {fuel : Nat} {listed : Array Bool} {σ : St} {j : Nat} (hclo : Closed ops listed) (hj : j ∈ Region.ready .any ops listed) (hjms : j ∈ ms)
    (ih : ∀ (σ : St), WS c ops K Ls L0 m ms false p σ → ∀ a w, Holds c.g c.N σ a w → (p.calms = true → Mem c.g Ls w) → (Clean ms (listed.setIfInBounds j true) → Mem c.g L0 w) → AnyK c ops K Ls L0 m ms fuel (listed.setIfInBounds j true) a w)
    (hp : planOk ops m p fuel (listed.setIfInBounds j true) = true) (h : Must c ops K Ls m j (fun σ' => WS c ops K Ls L0 m ms false p σ') σ) (a : Act) (w : World) (ha : Holds c.g c.N σ a w) :
    wpOpIn (Fw c.r) c.n c.P ops (liftO c K) j (fun a' w' => ((j < m → Mem c.g Ls w') ∧ (Clean ms (listed.setIfInBounds j true) → Mem c.g L0 w')) ∧ AnyK c ops K Ls L0 m ms fuel (listed.setIfInBounds j true) a' w') a w := by
  have hnc : ¬ Clean ms (listed.setIfInBounds j true) := fun h => by
    have h1 := h j hjms
    obtain ⟨hun, o, ho, _⟩ := mem_ready.1 hj
    rcases Nat.lt_or_ge j listed.size with h' | h'
    · simp [h'] at h1
    · simp [Array.getElem?_eq_none h'] at hun
  obtain ⟨o, ho, hW⟩ := h
  have hgo : ∀ a' w' σ', Holds c.g c.N σ' a' w' → (j < m → ∀ q ∈ Ls, q ∈ σ'.L) → WS c ops K Ls L0 m ms false p σ' → ((j < m → Mem c.g Ls w') ∧ (Clean ms (listed.setIfInBounds j true) → Mem c.g L0 w')) ∧ AnyK c ops K Ls L0 m ms fuel (listed.setIfInBounds j true) a' w' := by
    intro a' w' σ' h1 h2 h3
    have hmem : j < m → Mem c.g Ls w' := fun hjm => h1.mem.sub hn (h2 hjm)
    refine ⟨⟨hmem, fun h => absurd h hnc⟩, ih σ' h3 a' w' h1 (fun hx => ?_) (fun h => absurd h hnc)⟩
    rcases Nat.lt_or_ge j m with hjm | hjm
    · exact hmem hjm
    · exfalso
      have hall : ∀ k, k < m → (listed.setIfInBounds j true).getD k false = true := fun k hk => by
        obtain ⟨_, oj, hoj, hall⟩ := mem_ready.1 hj
        exact getD_set_true (hclo.reach (lateT_ok hlate (by simpa using (Array.getElem?_eq_some_iff.1 hoj).1) hjm hk) fun o ho e he hb => by rw [hoj] at ho; cases ho; exact hall e he hb)
      exact planOk_late p fuel _ hp hall hx
  unfold wpOpIn
  simp only [ho]
  rcases hW with ⟨hg, hW⟩ | ⟨⟨jj, want, og, dg, b, hg, hj, hdg, hb, hcase⟩, hd, h2, h3⟩
  · have hw : Region.wanted o (yielded ops a.tmps) = true := by
      rcases hg with hg | ⟨jj, want, og, dg, hg, hj, hdg, hb⟩
      · simp [Region.wanted, hg]
      · rw [wanted_yes ha hg hj hdg hb]; simp
    simp only [hw, if_true]
    exact Oper.wpIn_mono (fun a' w' ⟨σ', h1, h2, h3⟩ => hgo a' w' σ' h1 h2 h3) (hW a w ha)
  · have hw : Region.wanted o (yielded ops a.tmps) = false := by
      rcases hcase with rfl | rfl
      · rw [wanted_yes ha hg hj hdg hb]; cases want <;> rfl
      · exact wanted_undef ha hg hj hdg hb
    simp only [hw, Bool.false_eq_true, if_false]
    exact ⟨fun _ _ => trivial, hgo _ _ _ (ha.put hd undef) (by cases o.dst <;> exact h2) h3⟩
theorem Must.stepG {K : Exit → St → Prop} {Ls : List (Nat × Obj)} {m : Nat} {σ : St} {j : Nat} {W : St → Prop} {Nx : Act → World → Prop} (h : Must c ops K Ls m j W σ) (a : Act) (w : World) (ha : Holds c.g c.N σ a w)
    (hgo : ∀ a' w' σ', Holds c.g c.N σ' a' w' → (j < m → ∀ q ∈ Ls, q ∈ σ'.L) → W σ' → Nx a' w') : wpOpIn (Fw c.r) c.n c.P ops (liftO c K) j Nx a w := by
  obtain ⟨o, ho, hW⟩ := h
  unfold wpOpIn
  simp only [ho]
  rcases hW with ⟨hg, hW⟩ | ⟨⟨jj, want, og, dg, b, hg, hj, hdg, hb, hcase⟩, hd, h2, h3⟩
  · have hw : Region.wanted o (yielded ops a.tmps) = true := by
      rcases hg with hg | ⟨jj, want, og, dg, hg, hj, hdg, hb⟩
      · simp [Region.wanted, hg]
      · rw [wanted_yes ha hg hj hdg hb]; simp
    simp only [hw, if_true]
    exact Oper.wpIn_mono (fun a' w' ⟨σ', h1, h2, h3⟩ => hgo a' w' σ' h1 h2 h3) (hW a w ha)
  · have hw : Region.wanted o (yielded ops a.tmps) = false := by
      rcases hcase with rfl | rfl
      · rw [wanted_yes ha hg hj hdg hb]; cases want <;> rfl
      · exact wanted_undef ha hg hj hdg hb
    simp only [hw, Bool.false_eq_true, if_false]
    exact ⟨fun _ _ => trivial, hgo _ _ _ (ha.put hd undef) (by cases o.dst <;> exact h2) h3⟩
theorem parEach_spec {M : T Nat} {m : Nat} {listed : Array Bool} : ∀ {l : List (Nat × List Nat)} {E : List Nat}, parEach ops M m listed E l = true → ∀ {x : Nat} {ds : List Nat}, (x, ds) ∈ l → x < m ∧ listed.getD x true = false ∧ x ∉ E ∧ (∀ y ∈ ds, y ∈ E ∨ y ∈ l.map Prod.fst) ∧ (∀ y ∈ ds, bitOf M x y = true)
  | [], _, _, _, _, h => by cases h
  | (x0, d0) :: r, E, h, x, ds, hm => by
    simp only [parEach] at h
    split at h
    · rename_i o ho
      simp only [Bool.and_eq_true, Nat.blt_eq, Bool.not_eq_true', List.all_eq_true] at h
      obtain ⟨⟨⟨⟨⟨h1, h2⟩, h3⟩, h4⟩, h5⟩, h6⟩ := h
      rcases List.mem_cons.1 hm with e | hm
      · cases e
        exact ⟨h1, h2, memB_no h3, fun y hy => .inl (memB_ok (h4 y hy).1), fun y hy => (h4 y hy).2⟩
      · obtain ⟨g1, g2, g3, g4, g5⟩ := parEach_spec h6 hm
        simp only [List.mem_cons, not_or] at g3
        refine ⟨g1, g2, g3.2, fun y hy => ?_, g5⟩
        rcases g4 y hy with hy | hy
        · rcases List.mem_cons.1 hy with rfl | hy
          · exact .inr (by simp)
          · exact .inl hy
        · exact .inr (by simp only [List.map_cons, List.mem_cons]; exact .inr hy)
    · cases h
theorem parEach_next {M : T Nat} {m : Nat} {listed : Array Bool} {A : Nat → Bool} : ∀ {l : List (Nat × List Nat)} {E : List Nat}, parEach ops M m listed E l = true → (∀ x ∈ E, A x = true) → (∃ x ∈ l.map Prod.fst, A x = false) → ∃ x o, x ∈ l.map Prod.fst ∧ A x = false ∧ ops[x]? = some o ∧ ∀ e ∈ o.after, Region.binds .any e = true → listed.getD e.on false = true ∨ A e.on = true
  | [], _, _, _, ⟨x, h, _⟩ => by cases h
  | (x0, d0) :: r, E, h, hE, hx => by
    simp only [parEach] at h
    split at h
    · rename_i o ho
      simp only [Bool.and_eq_true, Nat.blt_eq, Bool.not_eq_true', List.all_eq_true] at h
      obtain ⟨⟨⟨⟨⟨h1, h2⟩, h3⟩, h4⟩, h5⟩, h6⟩ := h
      cases hA : A x0 with
      | false =>
        refine ⟨x0, o, by simp, hA, ho, fun e he hb => ?_⟩
        rw [← Array.all_toList, List.all_eq_true] at h5
        have := h5 e (by simpa using he)
        simp only [hb, Bool.not_true, Bool.false_or, Bool.or_eq_true] at this
        rcases this with h | h
        · exact .inl h
        · exact .inr (hE _ (memB_ok h))
      | true =>
        obtain ⟨x, o', g1, g2, g3, g4⟩ := parEach_next h6 (A := A) (fun x hx => by
          rcases List.mem_cons.1 hx with rfl | hx
          · exact hA
          · exact hE x hx) (by
          obtain ⟨x, hx, hAx⟩ := hx
          simp only [List.map_cons, List.mem_cons] at hx
          rcases hx with rfl | hx
          · rw [hA] at hAx; cases hAx
          · exact ⟨x, hx, hAx⟩)
        exact ⟨x, o', by simp only [List.map_cons, List.mem_cons]; exact .inr g1, g2, g3, g4⟩
    · cases h
theorem bitOf_reach {x y : Nat} (h : bitOf (maskL ops.toList 0 .e) x y = true) : WaitsOn ops.toList x y := by
  unfold bitOf at h
  split at h
  · rename_i n hn
    exact maskL_ok (ops := ops.toList) ops.toList 0 .e (fun i o h => by simpa using h) (fun j n h => by cases h) x n hn y h
  · cases h
theorem getD_of_size {listed : Array Bool} {z : Nat} (h : z < listed.size) (d : Bool) : listed.getD z d = listed[z]'h := by simp [h]
def ListedA (listed listed' : Array Bool) (A : Nat → Bool) : Prop := listed'.size = listed.size ∧ ∀ z, z < listed.size → listed'.getD z false = (listed.getD z false || A z)
theorem listAll_spec : ∀ (l : List (Nat × List Nat)) (listed : Array Bool), (listAll l listed).size = listed.size ∧ ∀ z, z < listed.size → (listAll l listed).getD z false = (listed.getD z false || memB z (l.map Prod.fst))
  | [], listed => ⟨rfl, fun z _ => by simp [listAll, memB]⟩
  | x :: r, listed => by
    obtain ⟨h1, h2⟩ := listAll_spec r (listed.setIfInBounds x.1 true)
    simp only [Array.size_setIfInBounds] at h1 h2
    refine ⟨h1, fun z hz => ?_⟩
    show (listAll r (listed.setIfInBounds x.1 true)).getD z false = _
    rw [h2 z hz]
    simp only [List.map_cons, memB]
    by_cases e : x.1 = z
    · subst e
      simp [hz]
    · have : Nat.beq x.1 z = false := Bool.eq_false_iff.2 fun h => e (Nat.eq_of_beq_eq_true h)
      simp [this, Array.getElem?_setIfInBounds_ne e]
theorem array_ext_getD {a b : Array Bool} (hs : a.size = b.size) (h : ∀ z, z < b.size → a.getD z false = b.getD z false) : a = b := by
  apply Array.ext hs
  intro i h1 h2
  have := h i h2
  rwa [getD_of_size h1, getD_of_size h2] at this
set_option maxHeartbeats 4000000 in
theorem par_any {K : Exit → St → Prop} {Ls L0 : List (Nat × Obj)} {m : Nat} {ms : List Nat} (hn : (Ls.map Prod.fst).Nodup) {l : List (Nat × List Nat)} {listed : Array Bool} (hl : parOk ops m listed l = true) (hsz : listed.size = ops.size) (hms : ∀ x ∈ l.map Prod.fst, x ∈ ms) {I : (Nat → Bool) → St → Prop}
    (hstep : ∀ A σ', I A σ' → ∀ x ds, (x, ds) ∈ l → A x = false → (∀ y ∈ ds, A y = true) → Must c ops K Ls m x (fun σ'' => I (fun z => z == x || A z) σ'') σ') {fuel : Nat}
    (hend : ∀ A σ', I A σ' → (∀ x ∈ l.map Prod.fst, A x = true) → ∀ a w, Holds c.g c.N σ' a w → Mem c.g Ls w → Closed ops (listAll l listed) → AnyK c ops K Ls L0 m ms fuel (listAll l listed) a w) :
    ∀ (k : Nat) (A : Nat → Bool) (listed' : Array Bool) (σ' : St), (∀ x, A x = true → x ∈ l.map Prod.fst) → ((l.map Prod.fst).filter fun x => !A x).length = k → ListedA listed listed' A → Closed ops listed' → I A σ' → ∀ a w, Holds c.g c.N σ' a w → Mem c.g Ls w → AnyK c ops K Ls L0 m ms (k + fuel) listed' a w := by
  simp only [parOk, Bool.and_eq_true, List.all_eq_true, List.mem_range] at hl
  obtain ⟨⟨_, hEach⟩, hRest⟩ := hl
  intro k
  induction k with
  | zero =>
    intro A listed' σ' hA hk hL hC hI a w ha hm
    have hall : ∀ x ∈ l.map Prod.fst, A x = true := fun x hx => by
      cases hAx : A x with
      | true => rfl
      | false =>
        have : x ∈ (l.map Prod.fst).filter fun x => !A x := List.mem_filter.2 ⟨hx, by simp [hAx]⟩
        rw [List.length_eq_zero_iff.1 hk] at this; cases this
    have e : listed' = listAll l listed := by
      obtain ⟨g1, g2⟩ := listAll_spec l listed
      apply array_ext_getD (hL.1.trans g1.symm)
      intro z hz
      rw [g1] at hz
      rw [hL.2 z hz, g2 z hz]
      congr 1
      cases hAz : A z with
      | true =>
        cases hb : memB z (l.map Prod.fst) with
        | true => rfl
        | false => exact absurd (hA z hAz) (memB_no hb)
      | false =>
        cases hb : memB z (l.map Prod.fst) with
        | false => rfl
        | true => rw [hall z (memB_ok hb)] at hAz; cases hAz
    subst e
    rw [Nat.zero_add]
    exact hend A σ' hI hall a w ha hm hC
  | succ k ih =>
    intro A listed' σ' hA hk hL hC hI a w ha hm
    have un : ∀ {z : Nat}, listed.getD z true = false → z < listed.size ∧ listed.getD z false = false := fun {z} h => by
      rcases Nat.lt_or_ge z listed.size with h' | h'
      · refine ⟨h', ?_⟩
        rw [getD_of_size h'] at h ⊢; exact h
      · simp [Array.getElem?_eq_none h'] at h
    rw [show k + 1 + fuel = (k + fuel) + 1 by omega]
    refine ⟨fun h0 => ?_, fun i hi => ?_⟩
    · exfalso
      have hex : ∃ x ∈ l.map Prod.fst, A x = false := by
        obtain ⟨x, hx⟩ := List.exists_mem_of_length_pos (l := (l.map Prod.fst).filter fun x => !A x) (by omega)
        obtain ⟨h1, h2⟩ := List.mem_filter.1 hx
        exact ⟨x, h1, by simpa using h2⟩
      obtain ⟨x, o, g1, g2, g3, g4⟩ := parEach_next (A := A) hEach (fun x hx => by cases hx) hex
      obtain ⟨⟨x', ds⟩, hq, rfl⟩ := List.mem_map.1 g1
      obtain ⟨q1, q2, _, _, _⟩ := parEach_spec hEach hq
      obtain ⟨u1, u2⟩ := un q2
      have : x' ∈ Region.ready .any ops listed' := mem_ready.2 ⟨by
        rw [getD_of_size (by rw [hL.1]; exact u1)]
        have := hL.2 x' u1
        rw [u2, g2] at this
        rw [getD_of_size (by rw [hL.1]; exact u1)] at this
        exact this, o, g3, fun e he hb => by
        rcases g4 e he hb with h | h
        · rcases Nat.lt_or_ge e.on listed.size with h' | h'
          · rw [hL.2 _ h', h]; rfl
          · simp [Array.getElem?_eq_none h'] at h
        · obtain ⟨⟨y, ds'⟩, hy, rfl⟩ := List.mem_map.1 (hA _ h)
          rename_i hye
          obtain ⟨_, w2, _, _, _⟩ := parEach_spec hEach hy
          rw [hL.2 _ (un w2).1, h]; simp⟩
      rw [h0] at this; cases this
    · obtain ⟨hun, oi, hoi, hall⟩ := mem_ready.1 hi
      have hisz : i < ops.size := (Array.getElem?_eq_some_iff.1 hoi).1
      have hil : i < listed.size := by rw [hsz]; exact hisz
      have hun' : listed'.getD i false = false := by
        rw [getD_of_size (by rw [hL.1]; exact hil)] at hun ⊢; exact hun
      have h2 := hL.2 i hil
      rw [hun'] at h2
      have h2 := h2.symm
      simp only [Bool.or_eq_false_iff] at h2
      obtain ⟨h3, hAi⟩ := h2
      have done : ∀ {y : Nat}, WaitsOn ops.toList i y → listed'.getD y false = true := fun {y} hr => hC.reach hr fun o ho e he hb => by rw [hoi] at ho; cases ho; exact hall e he hb
      have doneA : ∀ {y : Nat}, y ∈ l.map Prod.fst → WaitsOn ops.toList i y → A y = true := fun {y} hy hr => by
        obtain ⟨⟨y', ds'⟩, hq, rfl⟩ := List.mem_map.1 hy
        obtain ⟨_, w2, _, _, _⟩ := parEach_spec hEach hq
        have := done hr
        rw [hL.2 _ (un w2).1, (un w2).2] at this
        simpa using this
      have him : i ∈ l.map Prod.fst := by
        have := hRest i hisz
        simp only [Bool.or_eq_true, List.all_eq_true] at this
        rcases this with (h | h) | h
        · rw [getD_of_size hil] at h h3; rw [h3] at h; cases h
        · exact memB_ok h
        · exfalso
          have : ((l.map Prod.fst).filter fun x => !A x) = [] := by
            rw [List.filter_eq_nil_iff]
            intro y hy
            obtain ⟨q, hq, rfl⟩ := List.mem_map.1 hy
            have := doneA hy (bitOf_reach (h q hq))
            simp [this]
          rw [this] at hk; cases hk
      obtain ⟨⟨i', ds⟩, hq, rfl⟩ := List.mem_map.1 him
      obtain ⟨q1, q2, _, q4, q5⟩ := parEach_spec hEach hq
      have hds : ∀ y ∈ ds, A y = true := fun y hy => doneA (by
        rcases q4 y hy with h | h
        · cases h
        · exact h) (bitOf_reach (q5 y hy))
      refine Must.stepG (hstep A σ' hI i' ds hq hAi hds) a w ha fun a' w' σ'' h1 h2 h3 => ?_
      have hmem : Mem c.g Ls w' := h1.mem.sub hn (h2 q1)
      have hnc : ¬ Clean ms (listed'.setIfInBounds i' true) := fun h => by
        have h1 := h i' (hms _ him)
        rw [getD_of_size (by rw [Array.size_setIfInBounds, hL.1]; exact hil)] at h1
        simp at h1
      refine ⟨⟨fun _ => hmem, fun h => absurd h hnc⟩, ih (fun z => z == i' || A z) _ σ'' (fun x hx => ?_) ?_ ⟨by rw [Array.size_setIfInBounds]; exact hL.1, fun z hz => ?_⟩ (hC.set hi) h3 a' w' h1 hmem⟩
      · simp only [Bool.or_eq_true, beq_iff_eq] at hx
        rcases hx with rfl | hx
        · exact him
        · exact hA x hx
      · have nd : (l.map Prod.fst).Nodup := by
          have gen : ∀ (l : List (Nat × List Nat)) (E : List Nat), parEach ops (maskL ops.toList 0 .e) m listed E l = true → (l.map Prod.fst).Nodup := by
            intro l
            induction l with
            | nil => intro E _; simp
            | cons x r ihl =>
              intro E h
              have h' := h
              obtain ⟨x0, d0⟩ := x
              simp only [parEach] at h
              split at h
              · simp only [Bool.and_eq_true] at h
                simp only [List.map_cons, List.nodup_cons]
                refine ⟨fun hx => ?_, ihl _ h.2⟩
                obtain ⟨⟨y, ds'⟩, hy, e⟩ := List.mem_map.1 hx
                obtain ⟨_, _, w3, _, _⟩ := parEach_spec h.2 hy
                have e : y = x0 := e
                exact w3 (by rw [e]; exact List.mem_cons_self)
              · cases h
          exact gen l [] hEach
        have cnt : ∀ (L : List Nat), L.Nodup → i' ∈ L → (L.filter fun x => !A x).length = (L.filter fun x => !(x == i' || A x)).length + 1 := by
          intro L
          induction L with
          | nil => intro _ h; cases h
          | cons x r ihL =>
            intro hn hmem
            simp only [List.nodup_cons] at hn
            by_cases e : x = i'
            · subst e
              have hr : ∀ y ∈ r, (!(y == x || A y)) = !A y := fun y hy => by
                have : y ≠ x := fun e => hn.1 (e ▸ hy)
                simp [this]
              rw [List.filter_cons_of_pos (by simp [hAi]), List.filter_cons_of_neg (by simp), List.length_cons, List.filter_congr hr]
            · have hm' : i' ∈ r := by
                rcases List.mem_cons.1 hmem with h | h
                · exact absurd h.symm e
                · exact h
              have := ihL hn.2 hm'
              cases hAx : A x with
              | true => rw [List.filter_cons_of_neg (by simp [hAx]), List.filter_cons_of_neg (by simp [hAx])]; exact this
              | false => rw [List.filter_cons_of_pos (by simp [hAx]), List.filter_cons_of_pos (by simp [hAx, e]), List.length_cons, List.length_cons, this]
        have := cnt _ nd him
        omega
      · by_cases e : i' = z
        · subst e
          rw [getD_of_size (by rw [Array.size_setIfInBounds, hL.1]; exact hz)]
          simp
        · have := hL.2 z hz
          have e2 : (z == i') = false := by simpa using Ne.symm e
          simp only [e2, Bool.false_or]
          rw [← this]
          simp [Array.getElem?_setIfInBounds_ne e]
set_option maxHeartbeats 4000000 in
theorem WS_any {K : Exit → St → Prop} {Ls L0 : List (Nat × Obj)} {m : Nat} {ms : List Nat} (hs : Region.noSelect ops = true) (hlate : lateT ops.toList m = true) (hn : (Ls.map Prod.fst).Nodup) (hsub : ∀ w, Mem c.g L0 w → Mem c.g Ls w) :
    ∀ (p : Plan) (fresh : Bool) (fuel : Nat) (listed : Array Bool) (σ : St), (∀ j ∈ p.musts, j ∈ ms) → calmsOk ms p = true → (fresh = true → Clean ms listed) → Closed ops listed → listed.size = ops.size → planOk ops m p fuel listed = true → WS c ops K Ls L0 m ms fresh p σ → ∀ a w, Holds c.g c.N σ a w → (p.calms = true → Mem c.g Ls w) → (Clean ms listed → Mem c.g L0 w) → AnyK c ops K Ls L0 m ms fuel listed a w := by
  intro p
  induction p with
  | done =>
    intro fresh fuel listed σ _ _ _ _ _ hp h a w ha _ _
    simp only [planOk, Bool.and_eq_true, List.isEmpty_iff] at hp
    obtain ⟨hp, hf⟩ := hp
    obtain rfl := Nat.eq_of_beq_eq_true hf
    exact ⟨hp, σ, ha, h⟩
  | calm i p ih =>
    intro fresh fuel listed σ hms hcm hfr hclo hsz hp h a w ha hm hC
    cases fuel with
    | zero => cases hp
    | succ fuel =>
      simp only [planOk, Bool.and_eq_true, Nat.blt_eq] at hp
      obtain ⟨⟨⟨him, hf⟩, hr⟩, hp⟩ := hp
      simp only [calmsOk, Bool.and_eq_true, Bool.not_eq_true'] at hcm
      have hims : i ∉ ms := fun hx => by
        have := List.contains_iff_mem.2 hx
        rw [hcm.1] at this; cases this
      obtain ⟨o, v, X, ho, hd, hX, hq, hrest⟩ := h
      have hmem : Mem c.g Ls w := hm rfl
      have hcalm : Calm c ops X o v a := by
        rcases hq with ⟨hq, hg⟩ | ⟨j, want, og, dg, b, hg, hj, hdg, hb, hcase⟩
        · exact ⟨hq.1, .inl ⟨by simp [Region.wanted, hg], fun w hw => hq.2 a.eval (fun x u hu => ha.ev hu) w hw⟩⟩
        · have hy : ∀ b', b = .bool b' → Region.wanted o (yielded ops a.tmps) = (b' == want) := fun b' e => by
            subst e; exact wanted_yes ha hg hj hdg hb
          rcases hcase with ⟨hb', hq⟩ | ⟨hb', rfl, hnd⟩
          · exact ⟨hq.1, .inl ⟨by rw [hy _ hb']; simp, fun w hw => hq.2 a.eval (fun x u hu => ha.ev hu) w hw⟩⟩
          · refine ⟨hnd, .inr ⟨?_, rfl⟩⟩
            rcases hb' with hb' | hb'
            · rw [hy _ hb']; cases want <;> rfl
            · subst hb'; exact wanted_undef ha hg hj hdg hb
      refine AnyK.first (X := X) ho (Region.noSelect_spec hs) him hlate hims (hX.imp id fun h => ⟨h.1, h.2.1⟩) hsub fuel listed a w (Region.free_spec ho hf) hclo (by simpa using hr) hcalm hmem (hX.imp id fun h => hfr h.2.2) hC
        (ih fresh fuel _ _ hms hcm.2 (fun h => (hfr h).set hims) (hclo.set (by simpa using hr)) (by rw [Array.size_setIfInBounds]; exact hsz) hp hrest _ w (ha.put hd v) (fun _ => hmem) (fun h => hC h.back))
  | must i p ih =>
    intro fresh fuel listed σ hms hcm hfr hclo hsz hp h a w ha hm hC
    cases fuel with
    | zero => cases hp
    | succ fuel =>
      simp only [planOk, Bool.and_eq_true, beq_iff_eq] at hp
      obtain ⟨hr, hp⟩ := hp
      refine ⟨fun h0 => (by rw [hr] at h0; cases h0), fun j hj => ?_⟩
      have hj' := hj
      rw [hr] at hj
      obtain rfl := List.mem_singleton.1 hj
      exact Must.stepK hlate hn hclo hj' (hms j List.mem_cons_self) (fun σ' h' a' w' ha' hm' hC' => ih false fuel _ σ' (fun k hk => hms k (List.mem_cons_of_mem _ hk)) hcm (fun h => by cases h) (hclo.set hj') (by rw [Array.size_setIfInBounds]; exact hsz) hp h' a' w' ha' hm' hC') hp h a w ha
  | either i p j q ihp ihq =>
    intro fresh fuel listed σ hms hcm hfr hclo hsz hp h a w ha hm hC
    cases fuel with
    | zero => cases hp
    | succ fuel =>
      simp only [planOk, Bool.and_eq_true, beq_iff_eq] at hp
      obtain ⟨⟨hr, hp⟩, hq⟩ := hp
      simp only [calmsOk, Bool.and_eq_true] at hcm
      refine ⟨fun h0 => (by rw [hr] at h0; cases h0), fun k hk => ?_⟩
      have hk' := hk
      rw [hr] at hk
      rcases List.mem_cons.1 hk with rfl | hk
      · exact Must.stepK hlate hn hclo hk' (hms k List.mem_cons_self) (fun σ' h' a' w' ha' hm' hC' => ihp false fuel _ σ' (fun x hx => hms x (by simp [Plan.musts, hx])) hcm.1 (fun h => by cases h) (hclo.set hk') (by rw [Array.size_setIfInBounds]; exact hsz) hp h' a' w' ha' hm' hC') hp h.1 a w ha
      · obtain rfl := List.mem_singleton.1 hk
        exact Must.stepK hlate hn hclo hk' (hms k (by simp [Plan.musts])) (fun σ' h' a' w' ha' hm' hC' => ihq false fuel _ σ' (fun x hx => hms x (by simp [Plan.musts, hx])) hcm.2 (fun h => by cases h) (hclo.set hk') (by rw [Array.size_setIfInBounds]; exact hsz) hq h' a' w' ha' hm' hC') hq h.2 a w ha
  | par l p ih =>
    intro fresh fuel listed σ hms hcm hfr hclo hsz hp h a w ha hm hC
    simp only [planOk, Bool.and_eq_true] at hp
    obtain ⟨⟨hl, hle⟩, hp⟩ := hp
    have hle : l.length ≤ fuel := Nat.le_of_ble_eq_true hle
    obtain ⟨I, h0, hstep, hend⟩ := h
    have h1 := par_any (L0 := L0) (fuel := Nat.sub fuel l.length) hn hl hsz (fun x hx => hms x (List.mem_append_left _ hx)) hstep (fun A σ' hI hall a w ha hm hC => ih false _ _ σ' (fun x hx => hms x (List.mem_append_right _ hx)) hcm (fun h => by cases h) hC (by rw [(listAll_spec l listed).1]; exact hsz) hp (hend A σ' hI hall) a w ha (fun _ => hm) (fun h => ?_)) l.length (fun _ => false) listed σ (fun x hx => by cases hx) (by rw [List.filter_eq_self.2 (by simp)]; simp) ⟨rfl, fun z _ => by simp⟩ hclo h0 a w ha (hm rfl)
    · have e : l.length + Nat.sub fuel l.length = fuel := by
        show l.length + (fuel - l.length) = fuel
        omega
      rwa [e] at h1
    · exfalso
      simp only [parOk, Bool.and_eq_true] at hl
      obtain ⟨⟨g1, g2⟩, _⟩ := hl
      cases l with
      | nil => cases g1
      | cons q r =>
        obtain ⟨x, ds⟩ := q
        obtain ⟨_, w2, _, _, _⟩ := parEach_spec g2 (x := x) (ds := ds) (by simp)
        have hx := h x (hms x (List.mem_append_left _ (by simp)))
        have hlt : x < listed.size := by
          rcases Nat.lt_or_ge x listed.size with h' | h'
          · exact h'
          · simp [Array.getElem?_eq_none h'] at w2
        rw [(listAll_spec ((x, ds) :: r) listed).2 x hlt] at hx
        simp [memB] at hx
theorem WC_drawK {K : Exit → St → Prop} {σ : St} {id : Nat} (Ls : List (Nat × Obj)) (m : Nat) (p : Plan) (hm : c.P.follows .mixedOrders = true)
    (hok : (Region.noSelect ops && lateT ops.toList m && planOk ops m p ops.size (Array.replicate ops.size false)) = true) (hcm : calmsOk p.musts p = true) (hsub : Ls.Sublist σ.L) (h : WS c ops K Ls σ.L m p.musts true p σ) : WC c (.region id ops true) K σ := fun a w ha => by
  simp only [Bool.and_eq_true] at hok
  have ha' : Holds c.g c.N σ a { w with drawn := w.drawn + 1 } := ha.mem' ha.mem.drew
  exact Go.wpIn_mono (wpIn_region_any hm (AnyK.any _ _ _ _ (WS_any hok.1.1 hok.1.2 (ha.mem.nodup.sublist (hsub.map _)) (fun w hw => hw.sublist hsub) p true _ _ σ (fun _ h => h) hcm (fun _ j _ => by
    simp [Array.getElem?_replicate]; split <;> rfl) (fun j o _ hj => by
    rw [Array.getD_eq_getD_getElem?, Array.getElem?_replicate] at hj
    split at hj <;> cases hj) (by simp) hok.2 h a _ ha' (fun _ => ha'.mem.sublist hsub) (fun _ => ha'.mem)))) fun _ _ _ hl => hl.lift
end
end Go.Proofs.YtncgndcepoicbaaGreat
