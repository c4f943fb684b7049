/-
  A part of what the last of these texts needs; by itself it proves no statement.
-/
import Derived.RecoverIn
import Derived.Test.YtgimodceldoniaaKO1
namespace Go.Proofs.Ytgimodceldoniaa
open Go.RowKit
def afterM : List Edge → Nat
  | [] => 0
  | e :: r => match Region.binds .any e with
    | true => Nat.lor (Nat.shiftLeft 1 e.on) (afterM r)
    | false => afterM r
def afterL : List Oper → Nat → T Nat → T Nat
  | [], _, M => M
  | o :: r, j, M => afterL r (Nat.succ j) (M.set j (afterM o.after.toList))
theorem testBit_one {a k : Nat} : (Nat.shiftLeft 1 a).testBit k = true ↔ k = a := by
  show (1 <<< a).testBit k = true ↔ k = a
  rw [Nat.testBit_shiftLeft]
  simp only [Bool.and_eq_true, decide_eq_true_eq]
  constructor
  · rintro ⟨h1, h2⟩
    rcases Nat.lt_or_ge a k with hl | hl
    · obtain ⟨q, hq⟩ : ∃ q, k - a = q + 1 := ⟨k - a - 1, by omega⟩
      rw [hq] at h2
      simp [Nat.testBit_succ] at h2
    · omega
  · rintro rfl; simp
theorem afterM_spec {k : Nat} : ∀ {l : List Edge}, (afterM l).testBit k = true ↔ ∃ e ∈ l, Region.binds .any e = true ∧ e.on = k
  | [] => by simp [afterM]
  | e :: r => by
    have ih := afterM_spec (k := k) (l := r)
    simp only [afterM]
    split
    · rename_i hb
      rw [show Nat.lor (Nat.shiftLeft 1 e.on) (afterM r) = (Nat.shiftLeft 1 e.on ||| afterM r) from rfl, Nat.testBit_or, Bool.or_eq_true, testBit_one, ih]
      constructor
      · rintro (rfl | ⟨e', h1, h2⟩)
        · exact ⟨e, List.mem_cons_self, hb, rfl⟩
        · exact ⟨e', List.mem_cons_of_mem _ h1, h2⟩
      · rintro ⟨e', h1, h2, h3⟩
        rcases List.mem_cons.1 h1 with rfl | h1
        · exact .inl h3.symm
        · exact .inr ⟨e', h1, h2, h3⟩
    · rename_i hb
      rw [ih]
      constructor
      · rintro ⟨e', h1, h2⟩; exact ⟨e', List.mem_cons_of_mem _ h1, h2⟩
      · rintro ⟨e', h1, h2, h3⟩
        rcases List.mem_cons.1 h1 with rfl | h1
        · rw [h2] at hb; cases hb
        · exact ⟨e', h1, h2, h3⟩
theorem afterL_spec {ops : List Oper} : ∀ (l : List Oper) (j : Nat) (M : T Nat), (∀ i o, l[i]? = some o → ops[j + i]? = some o) → (∀ q n, M.get q = some n → ∃ o, ops[q]? = some o ∧ n = afterM o.after.toList) → ∀ q n, (afterL l j M).get q = some n → ∃ o, ops[q]? = some o ∧ n = afterM o.after.toList
  | [], _, _, _, hM, q, n, h => hM q n h
  | o :: r, j, M, hl, hM, q, n, h => by
    refine afterL_spec r (Nat.succ j) _ (fun i o' h' => ?_) (fun q' n' h' => ?_) q n h
    · have := hl (i + 1) o' (by simpa using h')
      rwa [show Nat.succ j + i = j + (i + 1) by omega]
    · rcases T.get_set h' with ⟨rfl, rfl⟩ | ⟨_, h''⟩
      · exact ⟨o, hl 0 o rfl, rfl⟩
      · exact hM _ _ h''
def dstT : List Oper → Nat → T Nat → T Nat
  | [], _, M => M
  | o :: r, j, M => match o.dst with
    | some d => dstT r (Nat.succ j) (M.set d j)
    | none => dstT r (Nat.succ j) M
def ssaL (ops : Array Oper) (D A : T Nat) : List Oper → Nat → Bool
  | [], _ => true
  | o :: r, j => (match o.dst with
      | some d => (match D.get d with
        | some k => Nat.beq k j
        | none => false)
      | none => true) && ((o.looksAt ops).all fun t => match D.get t with
      | some k => bitOf A j k
      | none => true) && ssaL ops D A r (Nat.succ j)
theorem ssaL_spec {ops : Array Oper} {D A : T Nat} : ∀ {l : List Oper} {j : Nat}, ssaL ops D A l j = true → ∀ {i : Nat} {o : Oper}, l[i]? = some o → (∀ d, o.dst = some d → D.get d = some (j + i)) ∧ ∀ t ∈ o.looksAt ops, ∀ k, D.get t = some k → bitOf A (j + i) k = true
  | [], _, _, i, o, h => by simp at h
  | o :: r, j, h, i, o', hi => by
    simp only [ssaL, Bool.and_eq_true, List.all_eq_true] at h
    obtain ⟨⟨h1, h2⟩, h3⟩ := h
    cases i with
    | zero =>
      simp only [List.getElem?_cons_zero, Option.some.injEq] at hi
      subst hi
      refine ⟨fun d hd => ?_, fun t ht k hk => ?_⟩
      · rw [hd] at h1
        simp only at h1
        split at h1
        · rename_i k hk; rw [hk, Nat.eq_of_beq_eq_true h1]; rfl
        · cases h1
      · have := h2 t ht
        rw [hk] at this
        exact this
    | succ i =>
      rw [List.getElem?_cons_succ] at hi
      obtain ⟨g1, g2⟩ := ssaL_spec h3 hi
      rw [show Nat.succ j + i = j + (i + 1) by omega] at g1 g2
      exact ⟨g1, g2⟩
def subM (a b : Nat) : Bool := Nat.beq (Nat.land a b) a
theorem subM_spec {a b : Nat} (h : subM a b = true) {k : Nat} (hk : a.testBit k = true) : b.testBit k = true := by
  have h : (a &&& b) = a := Nat.eq_of_beq_eq_true h
  have := congrArg (fun x => Nat.testBit x k) h
  simp only [Nat.testBit_and, hk, Bool.true_and] at this
  exact this
theorem subM_no {a b : Nat} (h : subM a b = false) : ∃ k, a.testBit k = true ∧ b.testBit k = false := by
  by_cases hx : ∃ k, a.testBit k = true ∧ b.testBit k = false
  · exact hx
  · exfalso
    have : (a &&& b) = a := by
      apply Nat.eq_of_testBit_eq
      intro k
      rw [Nat.testBit_and]
      cases ha : a.testBit k with
      | false => rfl
      | true =>
        cases hb : b.testBit k with
        | true => rfl
        | false => exact absurd ⟨k, ha, hb⟩ hx
    have h2 : subM a b = true := by
      show Nat.beq (a &&& b) a = true
      rw [this]; simp
    rw [h] at h2; cases h2
def goB (A : T Nat) (ls i : Nat) : Bool := match A.get i with
  | some a => !(Nat.testBit ls i) && subM a ls
  | none => false
def stayB (A : T Nat) (ls j : Nat) : Bool := match A.get j with
  | some a => Nat.testBit ls j || !(subM a ls)
  | none => false
def othersB (A : T Nat) (ls i k : Nat) : Nat → Nat → Bool
  | _, 0 => true
  | j, n + 1 => match Nat.beq j i || Nat.beq j k || stayB A ls j with
    | true => othersB A ls i k (Nat.succ j) n
    | false => false
theorem othersB_spec {A : T Nat} {ls i k : Nat} : ∀ {n j : Nat}, othersB A ls i k j n = true → ∀ {q : Nat}, j ≤ q → q < j + n → q = i ∨ q = k ∨ stayB A ls q = true
  | 0, j, _, q, h1, h2 => by omega
  | n + 1, j, h, q, h1, h2 => by
    simp only [othersB] at h
    split at h
    · rename_i hb
      by_cases e : j = q
      · subst e
        simp only [Bool.or_eq_true] at hb
        rcases hb with (hb | hb) | hb
        · exact .inl (Nat.eq_of_beq_eq_true hb)
        · exact .inr (.inl (Nat.eq_of_beq_eq_true hb))
        · exact .inr (.inr hb)
      · exact othersB_spec h (by show j + 1 ≤ q; omega) (by show q < j + 1 + n; omega)
    · cases h
def eachB (A R : T Nat) (m n ls : Nat) : List Nat → List (Nat × List Nat) → Bool
  | _, [] => true
  | E, (x, ds) :: r => match A.get x with
    | some a => Nat.blt x m && Nat.blt x n && !(Nat.testBit ls x) && !(memB x E) && (ds.all fun y => memB y E && bitOf R x y) && subM a (Nat.lor ls (slotsM E)) && eachB A R m n ls (x :: E) r
    | none => false
where slotsM : List Nat → Nat
  | [] => 0
  | k :: r => Nat.lor (Nat.shiftLeft 1 k) (slotsM r)
def restB (R : T Nat) (ls g : Nat) (l : List Nat) : Nat → Nat → Bool
  | _, 0 => true
  | z, n + 1 => match Nat.testBit ls z || memB z l || (match R.get z with
      | some q => subM g q
      | none => false) with
    | true => restB R ls g l (Nat.succ z) n
    | false => false
theorem restB_spec {R : T Nat} {ls g : Nat} {l : List Nat} : ∀ {n z : Nat}, restB R ls g l z n = true → ∀ {q : Nat}, z ≤ q → q < z + n → ls.testBit q = true ∨ memB q l = true ∨ ∃ a, R.get q = some a ∧ subM g a = true
  | 0, z, _, q, h1, h2 => by omega
  | n + 1, z, h, q, h1, h2 => by
    simp only [restB] at h
    split at h
    · rename_i hb
      by_cases e : z = q
      · subst e
        simp only [Bool.or_eq_true] at hb
        rcases hb with (hb | hb) | hb
        · exact .inl hb
        · exact .inr (.inl hb)
        · split at hb
          · rename_i a ha; exact .inr (.inr ⟨a, ha, hb⟩)
          · cases hb
      · exact restB_spec h (by show z + 1 ≤ q; omega) (by show q < z + 1 + n; omega)
    · cases h
def orAll (l : List (Nat × List Nat)) (ls : Nat) : Nat := match l with
  | [] => ls
  | x :: r => orAll r (Nat.lor ls (Nat.shiftLeft 1 x.1))
def fastGo (A R : T Nat) (m n : Nat) : Plan → Nat → Nat → Bool
  | .done, fuel, ls => Nat.beq fuel 0 && Nat.beq ls (Nat.sub (Nat.pow 2 n) 1)
  | .calm i p, fuel, ls => match fuel with
    | 0 => false
    | fuel + 1 => Nat.blt i m && goB A ls i && fastGo A R m n p fuel (Nat.lor ls (Nat.shiftLeft 1 i))
  | .must i p, fuel, ls => match fuel with
    | 0 => false
    | fuel + 1 => goB A ls i && othersB A ls i i 0 n && fastGo A R m n p fuel (Nat.lor ls (Nat.shiftLeft 1 i))
  | .either i p j q, fuel, ls => match fuel with
    | 0 => false
    | fuel + 1 => Nat.blt i j && goB A ls i && goB A ls j && othersB A ls i j 0 n && fastGo A R m n p fuel (Nat.lor ls (Nat.shiftLeft 1 i)) && fastGo A R m n q fuel (Nat.lor ls (Nat.shiftLeft 1 j))
  | .par l p, fuel, ls => !l.isEmpty && eachB A R m n ls [] l && restB R ls (eachB.slotsM (l.map Prod.fst)) (l.map Prod.fst) 0 n && Nat.ble l.length fuel && fastGo A R m n p (Nat.sub fuel l.length) (orAll l ls)
def fastOk (ops : Array Oper) (m : Nat) (p : Plan) : Bool := ssaL ops (dstT ops.toList 0 .e) (afterL ops.toList 0 .e) ops.toList 0 && fastGo (afterL ops.toList 0 .e) (maskL ops.toList 0 .e) m ops.size p ops.size 0
structure RelM (ops : Array Oper) (ls : Nat) (listed : Array Bool) : Prop where
  size : listed.size = ops.size
  get : ∀ z, z < ops.size → listed.getD z false = ls.testBit z
  lt : ∀ z, ls.testBit z = true → z < ops.size
theorem RelM.getF {ops : Array Oper} {ls : Nat} {listed : Array Bool} (h : RelM ops ls listed) (z : Nat) : listed.getD z false = ls.testBit z := by
  rcases Nat.lt_or_ge z ops.size with h' | h'
  · exact h.get z h'
  · cases hb : ls.testBit z with
    | true => have := h.lt z hb; omega
    | false => simp [Array.getElem?_eq_none (show listed.size ≤ z by rw [h.size]; exact h')]
theorem RelM.getT {ops : Array Oper} {ls : Nat} {listed : Array Bool} (h : RelM ops ls listed) {z : Nat} (hz : z < ops.size) (d : Bool) : listed.getD z d = ls.testBit z := by
  rw [← h.get z hz]
  have : z < listed.size := by rw [h.size]; exact hz
  simp [this]
theorem RelM.set {ops : Array Oper} {ls : Nat} {listed : Array Bool} (h : RelM ops ls listed) {i : Nat} (hi : i < ops.size) : RelM ops (Nat.lor ls (Nat.shiftLeft 1 i)) (listed.setIfInBounds i true) := by
  refine ⟨by rw [Array.size_setIfInBounds]; exact h.size, fun z hz => ?_, fun z hz => ?_⟩
  · rw [show Nat.lor ls (Nat.shiftLeft 1 i) = (ls ||| Nat.shiftLeft 1 i) from rfl, Nat.testBit_or, ← h.get z hz]
    by_cases e : i = z
    · subst e
      have : i < listed.size := by rw [h.size]; exact hi
      simp [this]
    · have : (Nat.shiftLeft 1 i).testBit z = false := Bool.eq_false_iff.2 fun hh => e (testBit_one.1 hh).symm
      rw [this, Bool.or_false]
      simp [Array.getElem?_setIfInBounds_ne e]
  · rw [show Nat.lor ls (Nat.shiftLeft 1 i) = (ls ||| Nat.shiftLeft 1 i) from rfl, Nat.testBit_or, Bool.or_eq_true] at hz
    rcases hz with hz | hz
    · exact h.lt z hz
    · rw [testBit_one.1 hz]; exact hi
theorem afterA {ops : Array Oper} {j a : Nat} (h : (afterL ops.toList 0 .e).get j = some a) : ∃ o, ops[j]? = some o ∧ a = afterM o.after.toList := by
  obtain ⟨o, h1, h2⟩ := afterL_spec (ops := ops.toList) ops.toList 0 .e (fun i o h => by simpa using h) (fun q n h => by cases h) j a h
  exact ⟨o, by simpa using h1, h2⟩
theorem goB_ready {ops : Array Oper} {ls : Nat} {listed : Array Bool} (hr : RelM ops ls listed) {i : Nat} (h : goB (afterL ops.toList 0 .e) ls i = true) : i ∈ Region.ready .any ops listed ∧ i < ops.size := by
  unfold goB at h
  split at h
  · rename_i a ha
    simp only [Bool.and_eq_true, Bool.not_eq_true'] at h
    obtain ⟨o, h1, rfl⟩ := afterA ha
    have hlt := (Array.getElem?_eq_some_iff.1 h1).1
    refine ⟨mem_ready.2 ⟨by rw [hr.getT hlt]; exact h.1, o, h1, fun e he hb => ?_⟩, hlt⟩
    rw [hr.getF]
    exact subM_spec h.2 (afterM_spec.2 ⟨e, by simpa using he, hb, rfl⟩)
  · cases h
theorem stayB_ready {ops : Array Oper} {ls : Nat} {listed : Array Bool} (hr : RelM ops ls listed) {j : Nat} (h : stayB (afterL ops.toList 0 .e) ls j = true) : j ∉ Region.ready .any ops listed := fun hj => by
  unfold stayB at h
  split at h
  · rename_i a ha
    obtain ⟨o, h1, rfl⟩ := afterA ha
    obtain ⟨g1, o', g2, g3⟩ := mem_ready.1 hj
    rw [h1] at g2; cases g2
    have hlt := (Array.getElem?_eq_some_iff.1 h1).1
    rw [hr.getT hlt] at g1
    rw [g1] at h
    simp only [Bool.false_or, Bool.not_eq_true'] at h
    obtain ⟨k, h2, h3⟩ := subM_no h
    obtain ⟨e, he, hb, rfl⟩ := afterM_spec.1 h2
    have := g3 e (by simpa using he) hb
    rw [hr.getF, h3] at this; cases this
  · cases h
theorem ready_pw {ops : Array Oper} {listed : Array Bool} : (Region.ready .any ops listed).Pairwise (· < ·) := by
  unfold Region.ready
  exact List.Pairwise.filter _ List.pairwise_lt_range
theorem list_one {l : List Nat} {i : Nat} (hp : l.Pairwise (· < ·)) (hi : i ∈ l) (h : ∀ x ∈ l, x = i) : l = [i] := by
  cases l with
  | nil => cases hi
  | cons a r =>
    have := h a List.mem_cons_self
    subst this
    cases r with
    | nil => rfl
    | cons b r =>
      have h1 := h b (by simp)
      rw [List.pairwise_cons] at hp
      have := hp.1 b List.mem_cons_self
      omega
theorem list_two {l : List Nat} {i j : Nat} (hij : i < j) (hp : l.Pairwise (· < ·)) (hi : i ∈ l) (hj : j ∈ l) (h : ∀ x ∈ l, x = i ∨ x = j) : l = [i, j] := by
  cases l with
  | nil => cases hi
  | cons a r =>
    rw [List.pairwise_cons] at hp
    have ha : a = i := by
      rcases h a List.mem_cons_self with e | e
      · exact e
      · subst e
        rcases List.mem_cons.1 hi with e | hi
        · omega
        · have := hp.1 i hi; omega
    subst ha
    congr 1
    refine list_one hp.2 ?_ fun x hx => ?_
    · rcases List.mem_cons.1 hj with e | hj
      · omega
      · exact hj
    · rcases h x (List.mem_cons_of_mem _ hx) with e | e
      · have := hp.1 x hx; omega
      · exact e
set_option maxHeartbeats 4000000 in
theorem ssa_free {ops : Array Oper} {listed : Array Bool} (hs : ssaL ops (dstT ops.toList 0 .e) (afterL ops.toList 0 .e) ops.toList 0 = true) {i : Nat} (hi : i ∈ Region.ready .any ops listed) : Region.free .any ops listed i = true := by
  have spec : ∀ {j : Nat} {o : Oper}, ops[j]? = some o → (∀ d, o.dst = some d → (dstT ops.toList 0 .e).get d = some j) ∧ ∀ t ∈ o.looksAt ops, ∀ k, (dstT ops.toList 0 .e).get t = some k → ∃ e ∈ o.after, Region.binds .any e = true ∧ e.on = k := fun {j o} hj => by
    obtain ⟨h1, h2⟩ := ssaL_spec hs (i := j) (o := o) (by simpa using hj)
    refine ⟨fun d hd => by have := h1 d hd; rwa [Nat.zero_add] at this, fun t ht k hk => ?_⟩
    have := h2 t ht k hk
    rw [Nat.zero_add] at this
    unfold bitOf at this
    split at this
    · rename_i n hn
      obtain ⟨o', g1, rfl⟩ := afterA hn
      rw [hj] at g1; cases g1
      obtain ⟨e, he, hb, hk⟩ := afterM_spec.1 this
      exact ⟨e, by simpa using he, hb, hk⟩
    · cases this
  obtain ⟨hun, oi, hoi, hall⟩ := mem_ready.1 hi
  unfold Region.free
  simp only [hoi, List.all_eq_true, List.mem_range]
  intro j hj
  have hoj : ops[j]? = some ops[j] := Array.getElem?_eq_getElem hj
  simp only [hoj, Bool.or_eq_true, beq_iff_eq]
  by_cases hji : j = i
  · exact .inl (.inl hji)
  · cases hl : listed.getD j true with
    | true => exact .inl (.inr rfl)
    | false =>
      right
      cases hb : (ops[j].after.any fun e => Region.binds .any e && e.on == i) with
      | true => exact .inl rfl
      | false =>
        right
        have hno : ∀ e ∈ ops[j].after, Region.binds .any e = true → e.on ≠ i := fun e he hbi heq => by
          rw [← Array.any_toList, List.any_eq_false] at hb
          exact hb e (by simpa using he) (by simp [hbi, heq])
        have hjl : listed.getD j false = false := by
          rcases Nat.lt_or_ge j listed.size with h' | h'
          · simp [h'] at hl ⊢; exact hl
          · simp [Array.getElem?_eq_none h']
        have A1 : ∀ d, oi.dst = some d → d ∉ ops[j].looksAt ops := fun d hd hmem => by
          obtain ⟨e, he, hbi, heq⟩ := (spec hoj).2 d hmem i ((spec hoi).1 d hd)
          exact hno e he hbi heq
        have A2 : ∀ d, oi.dst = some d → ops[j].dst ≠ some d := fun d hd hd2 => by
          have h1 := (spec hoi).1 d hd
          have h2 := (spec hoj).1 d hd2
          rw [h1] at h2; cases h2; exact hji rfl
        have A3 : ∀ d, ops[j].dst = some d → d ∉ oi.looksAt ops := fun d hd hmem => by
          obtain ⟨e, he, hbi, heq⟩ := (spec hoi).2 d hmem j ((spec hoj).1 d hd)
          have := hall e he hbi
          rw [heq, hjl] at this; cases this
        unfold Oper.apart
        simp only [Bool.and_eq_true]
        refine ⟨?_, ?_⟩
        · split
          · rename_i d hd
            simp only [Bool.and_eq_true, Bool.not_eq_true', bne_iff_ne]
            exact ⟨Bool.eq_false_iff.2 fun h => A1 d hd (List.contains_iff_mem.1 h), A2 d hd⟩
          · rfl
        · split
          · rename_i d hd
            simp only [Bool.not_eq_true']
            exact Bool.eq_false_iff.2 fun h => A3 d hd (List.contains_iff_mem.1 h)
          · rfl
theorem slotsM_spec {k : Nat} : ∀ {E : List Nat}, (eachB.slotsM E).testBit k = true ↔ k ∈ E
  | [] => by simp [eachB.slotsM]
  | x :: r => by
    simp only [eachB.slotsM]
    rw [show Nat.lor (Nat.shiftLeft 1 x) (eachB.slotsM r) = (Nat.shiftLeft 1 x ||| eachB.slotsM r) from rfl, Nat.testBit_or, Bool.or_eq_true, testBit_one, slotsM_spec, List.mem_cons]
theorem memB_yes {k : Nat} : ∀ {l : List Nat}, k ∈ l → memB k l = true
  | [], h => by cases h
  | j :: r, h => by
    simp only [memB]
    split
    · rfl
    · rename_i hne
      rcases List.mem_cons.1 h with rfl | h
      · simp at hne
      · exact memB_yes h
theorem eachB_ok {ops : Array Oper} {m ls : Nat} {listed : Array Bool} (hr : RelM ops ls listed) : ∀ {l : List (Nat × List Nat)} {E : List Nat}, eachB (afterL ops.toList 0 .e) (maskL ops.toList 0 .e) m ops.size ls E l = true → parEach ops (maskL ops.toList 0 .e) m listed E l = true
  | [], _, _ => rfl
  | (x, ds) :: r, E, h => by
    simp only [eachB] at h
    split at h
    · rename_i a ha
      obtain ⟨o, ho, rfl⟩ := afterA ha
      simp only [Bool.and_eq_true, Bool.not_eq_true', Nat.blt_eq] at h
      obtain ⟨⟨⟨⟨⟨⟨h1, h2⟩, h3⟩, h4⟩, h5⟩, h6⟩, h7⟩ := h
      have ih := eachB_ok hr h7
      simp only [parEach, ho, Bool.and_eq_true, Bool.not_eq_true', Nat.blt_eq]
      refine ⟨⟨⟨⟨⟨h1, by rw [hr.getT h2]; exact h3⟩, h4⟩, h5⟩, ?_⟩, ih⟩
      rw [← Array.all_toList, List.all_eq_true]
      intro e he
      cases hb : Region.binds .any e with
      | false => simp
      | true =>
        have := subM_spec h6 (afterM_spec.2 ⟨e, he, hb, rfl⟩)
        rw [show Nat.lor ls (eachB.slotsM E) = (ls ||| eachB.slotsM E) from rfl, Nat.testBit_or, Bool.or_eq_true, slotsM_spec] at this
        simp only [Bool.not_true, Bool.false_or, Bool.or_eq_true]
        rcases this with h | h
        · exact .inl (by rw [hr.getF]; exact h)
        · exact .inr (memB_yes h)
    · cases h
theorem RelM.all {ops : Array Oper} : ∀ {l : List (Nat × List Nat)} {ls : Nat} {listed : Array Bool}, RelM ops ls listed → (∀ x ∈ l, x.1 < ops.size) → RelM ops (orAll l ls) (listAll l listed)
  | [], _, _, h, _ => h
  | x :: r, _, _, h, hl => RelM.all (l := r) (h.set (hl x List.mem_cons_self)) fun y hy => hl y (List.mem_cons_of_mem _ hy)
set_option maxHeartbeats 4000000 in
theorem fastGo_ok {ops : Array Oper} {m : Nat} (hs : ssaL ops (dstT ops.toList 0 .e) (afterL ops.toList 0 .e) ops.toList 0 = true) : ∀ (p : Plan) (fuel ls : Nat) (listed : Array Bool), RelM ops ls listed → fastGo (afterL ops.toList 0 .e) (maskL ops.toList 0 .e) m ops.size p fuel ls = true → planOk ops m p fuel listed = true := by
  intro p
  induction p with
  | done =>
    intro fuel ls listed hr h
    simp only [fastGo, Bool.and_eq_true] at h
    simp only [planOk, Bool.and_eq_true, List.isEmpty_iff]
    refine ⟨?_, h.1⟩
    have h2 : ls = 2 ^ ops.size - 1 := Nat.eq_of_beq_eq_true h.2
    rw [List.eq_nil_iff_forall_not_mem]
    intro j hj
    obtain ⟨g1, o, g2, _⟩ := mem_ready.1 hj
    have hlt := (Array.getElem?_eq_some_iff.1 g2).1
    rw [hr.getT hlt, h2, Nat.testBit_two_pow_sub_one] at g1
    simp [hlt] at g1
  | calm i p ih =>
    intro fuel ls listed hr h
    cases fuel with
    | zero => cases h
    | succ fuel =>
      simp only [fastGo, Bool.and_eq_true] at h
      obtain ⟨⟨h1, h2⟩, h3⟩ := h
      obtain ⟨g1, g2⟩ := goB_ready hr h2
      simp only [planOk, Bool.and_eq_true]
      exact ⟨⟨⟨h1, ssa_free hs g1⟩, List.contains_iff_mem.2 g1⟩, ih _ _ _ (hr.set g2) h3⟩
  | must i p ih =>
    intro fuel ls listed hr h
    cases fuel with
    | zero => cases h
    | succ fuel =>
      simp only [fastGo, Bool.and_eq_true] at h
      obtain ⟨⟨h1, h2⟩, h3⟩ := h
      obtain ⟨g1, g2⟩ := goB_ready hr h1
      simp only [planOk, Bool.and_eq_true, beq_iff_eq]
      refine ⟨list_one ready_pw g1 fun x hx => ?_, ih _ _ _ (hr.set g2) h3⟩
      obtain ⟨_, o, g3, _⟩ := mem_ready.1 hx
      rcases othersB_spec h2 (Nat.zero_le x) (by rw [Nat.zero_add]; exact (Array.getElem?_eq_some_iff.1 g3).1) with e | e | e
      · exact e
      · exact e
      · exact absurd hx (stayB_ready hr e)
  | either i p j q ihp ihq =>
    intro fuel ls listed hr h
    cases fuel with
    | zero => cases h
    | succ fuel =>
      simp only [fastGo, Bool.and_eq_true, Nat.blt_eq] at h
      obtain ⟨⟨⟨⟨⟨h0, h1⟩, h1'⟩, h2⟩, h3⟩, h4⟩ := h
      obtain ⟨g1, g2⟩ := goB_ready hr h1
      obtain ⟨g1', g2'⟩ := goB_ready hr h1'
      simp only [planOk, Bool.and_eq_true, beq_iff_eq]
      refine ⟨⟨list_two h0 ready_pw g1 g1' fun x hx => ?_, ihp _ _ _ (hr.set g2) h3⟩, ihq _ _ _ (hr.set g2') h4⟩
      obtain ⟨_, o, g3, _⟩ := mem_ready.1 hx
      rcases othersB_spec h2 (Nat.zero_le x) (by rw [Nat.zero_add]; exact (Array.getElem?_eq_some_iff.1 g3).1) with e | e | e
      · exact .inl e
      · exact .inr e
      · exact absurd hx (stayB_ready hr e)
  | par l p ih =>
    intro fuel ls listed hr h
    simp only [fastGo, Bool.and_eq_true] at h
    obtain ⟨⟨⟨⟨h1, h2⟩, h3⟩, h4⟩, h5⟩ := h
    have hlt : ∀ x ∈ l, x.1 < ops.size := by
      have gen : ∀ (l : List (Nat × List Nat)) (E : List Nat), eachB (afterL ops.toList 0 .e) (maskL ops.toList 0 .e) m ops.size ls E l = true → ∀ x ∈ l, x.1 < ops.size := by
        intro l
        induction l with
        | nil => intro E _ x hx; cases hx
        | cons y r ihr =>
          intro E h x hx
          obtain ⟨y0, d0⟩ := y
          simp only [eachB] at h
          split at h
          · simp only [Bool.and_eq_true, Nat.blt_eq] at h
            rcases List.mem_cons.1 hx with e | hx
            · rw [e]; exact h.1.1.1.1.1.2
            · exact ihr _ h.2 x hx
          · cases h
      exact gen l [] h2
    simp only [planOk, parOk, Bool.and_eq_true]
    refine ⟨⟨⟨⟨h1, eachB_ok hr h2⟩, ?_⟩, h4⟩, ih _ _ _ (hr.all hlt) h5⟩
    simp only [List.all_eq_true, List.mem_range]
    intro z hz
    simp only [Bool.or_eq_true, List.all_eq_true]
    rcases restB_spec h3 (Nat.zero_le z) (by rw [Nat.zero_add]; exact hz) with h | h | ⟨a, ha, hsub⟩
    · exact .inl (.inl (by rw [hr.getT hz]; exact h))
    · exact .inl (.inr h)
    · refine .inr fun x hx => ?_
      unfold bitOf
      rw [ha]
      exact subM_spec hsub (slotsM_spec.2 (List.mem_map.2 ⟨x, hx, rfl⟩))
theorem fastOk_ok {ops : Array Oper} {m : Nat} {p : Plan} (h : fastOk ops m p = true) : planOk ops m p ops.size (Array.replicate ops.size false) = true := by
  unfold fastOk at h
  rw [Bool.and_eq_true] at h
  refine fastGo_ok h.1 p ops.size 0 _ ⟨by simp, fun z hz => by simp [hz], fun z hz => by simp at hz⟩ h.2
def lateT (ops : List Oper) (m : Nat) : Bool := lateL (maskL ops 0 .e) (Nat.pow 2 m) m (Nat.sub ops.length m)
where lateL (M : T Nat) (p : Nat) : Nat → Nat → Bool
  | _, 0 => true
  | j, n + 1 => match M.get j with
    | some q => match Nat.beq (Nat.mod q p) (Nat.sub p 1) with
      | true => lateL M p (Nat.succ j) n
      | false => false
    | none => false
theorem lateT_ok {ops : List Oper} {m : Nat} (h : lateT ops m = true) {j k : Nat} (hj : j < ops.length) (hm : m ≤ j) (hk : k < m) : WaitsOn ops j k := by
  have hM := maskL_ok (ops := ops) ops 0 .e (fun i o h => by simpa using h) (fun j n h => by cases h)
  have gen : ∀ (n i : Nat), lateT.lateL (maskL ops 0 .e) (Nat.pow 2 m) i n = true → i ≤ j → j < i + n → WaitsOn ops j k := by
    intro n
    induction n with
    | zero => intro i _ h1 h2; omega
    | succ n ih =>
      intro i h h1 h2
      simp only [lateT.lateL] at h
      split at h
      · rename_i q hq
        split at h
        · rename_i hb
          by_cases e : i = j
          · subst e
            refine hM i q hq k ?_
            have hb := Nat.eq_of_beq_eq_true hb
            have hb : q % 2 ^ m = 2 ^ m - 1 := hb
            have h3 : (q % 2 ^ m).testBit k = true := by rw [hb, Nat.testBit_two_pow_sub_one]; simpa using hk
            rw [Nat.testBit_mod_two_pow] at h3
            simp only [Bool.and_eq_true] at h3
            exact h3.2
          · exact ih (i + 1) h (by omega) (by omega)
        · cases h
      · cases h
  exact gen _ m h hm (by have : Nat.sub ops.length m = ops.length - m := rfl; omega)
section
variable {c : Cx} {ops : Array Oper}
def Closed (ops : Array Oper) (listed : Array Bool) : Prop := ∀ j o, ops[j]? = some o → listed.getD j false = true → ∀ e ∈ o.after, Region.binds .any e = true → listed.getD e.on false = true
theorem Closed.reach {listed : Array Bool} (hc : Closed ops listed) {j k : Nat} (h : WaitsOn ops.toList j k) : (∀ o, ops[j]? = some o → ∀ e ∈ o.after, Region.binds .any e = true → listed.getD e.on false = true) → listed.getD k false = true := by
  induction h with
  | one hj he hb => intro hall; exact hall _ (by simpa using hj) _ he hb
  | more hj he hb h ih =>
    intro hall
    have h1 := hall _ (by simpa using hj) _ he hb
    exact ih fun o ho => hc _ o ho h1
theorem Closed.set {listed : Array Bool} (hc : Closed ops listed) {j : Nat} (hj : j ∈ Region.ready .any ops listed) : Closed ops (listed.setIfInBounds j true) := by
  obtain ⟨hun, oj, hoj, hall⟩ := mem_ready.1 hj
  have mono : ∀ k, listed.getD k false = true → (listed.setIfInBounds j true).getD k false = true := fun k hk => by
    by_cases e : j = k
    · subst e
      rcases Nat.lt_or_ge j listed.size with h' | h'
      · simp [h']
      · simp [Array.getElem?_eq_none h'] at hk
    · simpa [Array.getElem?_setIfInBounds_ne e] using hk
  intro k o ho hk e he hb
  by_cases hjk : j = k
  · subst hjk
    rw [hoj] at ho; cases ho
    exact mono _ (hall e he hb)
  · refine mono _ (hc k o ho ?_ e he hb)
    simpa [Array.getElem?_setIfInBounds_ne hjk] using hk
theorem ready_reach {listed : Array Bool} (hc : Closed ops listed) {i j : Nat} (hi : i ∈ Region.ready .any ops listed) (hj : j ∈ Region.ready .any ops listed) (h : WaitsOn ops.toList j i) : False := by
  obtain ⟨_, oj, hoj, hall⟩ := mem_ready.1 hj
  have h1 := hc.reach h fun o ho e he hb => by rw [hoj] at ho; cases ho; exact hall e he hb
  have h0 := (mem_ready.1 hi).1
  rcases Nat.lt_or_ge i listed.size with h' | h'
  · simp [h'] at h0 h1; rw [h0] at h1; cases h1
  · simp [Array.getElem?_eq_none h'] at h1
def Clean (ms : List Nat) (listed : Array Bool) : Prop := ∀ j ∈ ms, listed.getD j false = false
theorem Clean.back {ms : List Nat} {listed : Array Bool} {i : Nat} (h : Clean ms (listed.setIfInBounds i true)) : Clean ms listed := fun j hj => by
  have := h j hj
  by_cases e : i = j
  · subst e
    rcases Nat.lt_or_ge i listed.size with h' | h'
    · simp [h'] at this
    · simp [Array.getElem?_eq_none h']
  · simpa [Array.getElem?_setIfInBounds_ne e] using this
theorem Clean.set {ms : List Nat} {listed : Array Bool} {i : Nat} (h : Clean ms listed) (hi : i ∉ ms) : Clean ms (listed.setIfInBounds i true) := fun j hj => by
  have hne : i ≠ j := fun e => hi (e ▸ hj)
  have := h j hj
  simpa [Array.getElem?_setIfInBounds_ne hne] using this
def AnyK (c : Cx) (ops : Array Oper) (K : Exit → St → Prop) (Ls L0 : List (Nat × Obj)) (m : Nat) (ms : List Nat) : Nat → Array Bool → Act → World → Prop
  | 0, listed, a, w => Region.ready .any ops listed = [] ∧ liftO c K .normal a w
  | fuel + 1, listed, a, w =>
    (Region.ready .any ops listed = [] → liftO c K .normal a w) ∧
    ∀ i ∈ Region.ready .any ops listed, wpOpIn (Fw c.r) c.n c.P ops (liftO c K) i (fun a' w' => ((i < m → Mem c.g Ls w') ∧ (Clean ms (listed.setIfInBounds i true) → Mem c.g L0 w')) ∧ AnyK c ops K Ls L0 m ms fuel (listed.setIfInBounds i true) a' w') a w
theorem AnyK.any {K : Exit → St → Prop} {Ls L0 : List (Nat × Obj)} {m : Nat} {ms : List Nat} : ∀ (fuel : Nat) (listed : Array Bool) (a : Act) (w : World), AnyK c ops K Ls L0 m ms fuel listed a w → wpAnyIn (Fw c.r) c.n c.P .any ops (liftO c K) fuel listed a w
  | 0, _, _, _, h => h
  | fuel + 1, _, _, _, h => ⟨h.1, fun i hi => wpOpIn_mono (fun a' w' h' => AnyK.any fuel _ a' w' h'.2) (h.2 i hi)⟩
def aheadOk (ops : Array Oper) (ms : List Nat) (m i : Nat) : Bool := ms.all fun j => match Nat.ble m j with
  | true => true
  | false => match ops[j]? with
    | some o => o.after.any fun e => Region.binds .any e && e.on == i
    | none => true
theorem aheadOk_spec {ms : List Nat} {m i : Nat} (h : aheadOk ops ms m i = true) {j : Nat} {o : Oper} (hj : ops[j]? = some o) (hm : j ∈ ms) (hjm : j < m) : ∃ e ∈ o.after, Region.binds .any e = true ∧ e.on = i := by
  have h1 := List.all_eq_true.1 h j hm
  have hb : Nat.ble m j = false := Bool.eq_false_iff.2 fun h => by have := Nat.le_of_ble_eq_true h; omega
  simp only [hb, hj] at h1
  rw [← Array.any_toList, List.any_eq_true] at h1
  obtain ⟨e, he, h2⟩ := h1
  simp only [Bool.and_eq_true, beq_iff_eq] at h2
  exact ⟨e, by simpa using he, h2.1, h2.2⟩
theorem ready_un {listed : Array Bool} {i : Nat} (hr : i ∈ Region.ready .any ops listed) {o : Oper} {e : Edge} (he : e ∈ o.after) (hb : Region.binds .any e = true) (heq : e.on = i) (hall : ∀ e ∈ o.after, Region.binds .any e = true → listed.getD e.on false = true) : False := by
  have h1 := hall e he hb
  have h0 := (mem_ready.1 hr).1
  rw [heq] at h1
  rcases Nat.lt_or_ge i listed.size with h' | h'
  · simp [h'] at h0 h1; rw [h0] at h1; cases h1
  · simp [Array.getElem?_eq_none h'] at h1
set_option maxHeartbeats 4000000 in
theorem AnyK.first {K : Exit → St → Prop} {Ls L0 X : List (Nat × Obj)} {m : Nat} {ms : List Nat} {i : Nat} {oi : Oper} {v : Value} (hi : ops[i]? = some oi) (hsel : ∀ (j : Nat) (o : Oper) cs b, ops[j]? = some o → o.op ≠ .select cs b) (him : i < m) (hlate : lateT ops.toList m = true) (hims : i ∉ ms)
    (hX : X = Ls ∨ X = L0 ∧ aheadOk ops ms m i = true) (hsub : ∀ w, Mem c.g L0 w → Mem c.g Ls w) :
    ∀ (fuel : Nat) (listed : Array Bool) (a : Act) (w : World),
      (∀ j oj, ops[j]? = some oj → j ≠ i → listed.getD j true = false → (∀ e ∈ oj.after, Region.binds .any e = true → e.on ≠ i) → oi.apart ops oj = true) →
      Closed ops listed → i ∈ Region.ready .any ops listed → Calm c ops X oi v a → Mem c.g Ls w → (X = Ls ∨ Clean ms listed) → (Clean ms listed → Mem c.g L0 w) →
      AnyK c ops K Ls L0 m ms fuel (listed.setIfInBounds i true) (a.put oi.dst v) w → AnyK c ops K Ls L0 m ms (fuel + 1) listed a w := by
  intro fuel
  have memX : ∀ {listed : Array Bool} {w : World}, Mem c.g Ls w → (X = Ls ∨ Clean ms listed) → (Clean ms listed → Mem c.g L0 w) → Mem c.g X w := fun {listed w} hS hcl hC => by
    rcases hX with rfl | ⟨rfl, _⟩
    · exact hS
    · rcases hcl with rfl | hcl
      · exact hS
      · exact hC hcl
  induction fuel with
  | zero =>
    intro listed a w _ hclo hr hy hS hcl hC H
    refine ⟨fun h => (by rw [h] at hr; cases hr), fun j hj => ?_⟩
    by_cases hji : j = i
    · subst hji; exact hy.op hi (memX hS hcl hC) ⟨⟨fun _ => hS, fun h => hC h.back⟩, H⟩
    · have := ready_mono hj hji
      rw [H.1] at this
      cases this
  | succ fuel ih =>
    intro listed a w hfree hclo hr hy hS hcl hC H
    refine ⟨fun h => (by rw [h] at hr; cases hr), fun j hj => ?_⟩
    by_cases hji : j = i
    · subst hji; exact hy.op hi (memX hS hcl hC) ⟨⟨fun _ => hS, fun h => hC h.back⟩, H⟩
    · have h1 := H.2 j (ready_mono hj hji)
      obtain ⟨hjun, oj, hoj, hall⟩ := mem_ready.1 hj
      have hnot : ∀ e ∈ oj.after, Region.binds .any e = true → e.on ≠ i := fun e he hb heq => ready_un hr he hb heq hall
      have hjm : j < m := by
        rcases Nat.lt_or_ge j m with h' | h'
        · exact h'
        · exact (ready_reach hclo hr hj (lateT_ok hlate (by simpa using (Array.getElem?_eq_some_iff.1 hoj).1) h' him)).elim
      have hcl' : X = Ls ∨ Clean ms (listed.setIfInBounds j true) := by
        rcases hX with h | ⟨_, hah⟩
        · exact .inl h
        · rcases hcl with h | hcl
          · exact .inl h
          · refine .inr (hcl.set fun hjms => ?_)
            obtain ⟨e, he, hb, heq⟩ := aheadOk_spec hah hoj hjms hjm
            exact hnot e he hb heq
      have h2 := wpOpIn_calm hoj (hfree j oj hoj hji hjun hnot) (fun cs b => hsel i oi cs b hi) (fun cs b => hsel j oj cs b hoj) hy h1
      have hfree' : ∀ k ok, ops[k]? = some ok → k ≠ i → (listed.setIfInBounds j true).getD k true = false →
          (∀ e ∈ ok.after, Region.binds .any e = true → e.on ≠ i) → oi.apart ops ok = true := fun k ok hk hki hun hno => by
        refine hfree k ok hk hki ?_ hno
        by_cases hjk : j = k
        · subst hjk; exact hjun
        · rw [getD_set_ne true hjk] at hun; exact hun
      refine wpOpIn_mono (fun a' w' h3 => ?_) h2
      have hC' : Clean ms (listed.setIfInBounds j true) → Mem c.g L0 w' := fun h => h3.2.1.2 (by
        rw [Array.setIfInBounds_comm _ _ (Ne.symm hji)]; exact h.set hims)
      refine ⟨⟨h3.2.1.1, hC'⟩, ih (listed.setIfInBounds j true) a' w' hfree' (hclo.set hj) (ready_mono hr (Ne.symm hji)) h3.1 (h3.2.1.1 hjm) hcl' hC' ?_⟩
      rw [Array.setIfInBounds_comm _ _ hji]
      exact h3.2.2
def Plan.musts : Plan → List Nat
  | .done => []
  | .calm _ p => p.musts
  | .must i p => i :: p.musts
  | .either i p j q => i :: j :: (p.musts ++ q.musts)
  | .par l p => l.map Prod.fst ++ p.musts
def calmsOk (ms : List Nat) : Plan → Bool
  | .done => true
  | .calm i p => !ms.contains i && calmsOk ms p
  | .must _ p => calmsOk ms p
  | .either _ p _ q => calmsOk ms p && calmsOk ms q
  | .par _ p => calmsOk ms p
def WS (c : Cx) (ops : Array Oper) (K : Exit → St → Prop) (Ls L0 : List (Nat × Obj)) (m : Nat) (ms : List Nat) : Bool → Plan → St → Prop
  | _, .done, σ => K .normal σ
  | fresh, .calm i p, σ => ∃ o v X, ops[i]? = some o ∧ dok c.N o.dst = true ∧ (X = Ls ∨ X = L0 ∧ aheadOk ops ms m i = true ∧ fresh = true) ∧ (Qt c σ.s X o v ∧ o.guard = none ∨ ∃ j want og dg b, o.guard = some (j, want) ∧ ops[j]? = some og ∧ og.dst = some dg ∧ look σ.s dg = some b ∧
      ((b = .bool want ∧ Qt c σ.s X o v) ∨ ((b = .bool (!want) ∨ b = undef) ∧ v = undef ∧ ∀ cc, o.op ≠ .defer cc))) ∧ WS c ops K Ls L0 m ms fresh p (σ.put o.dst v)
  | _, .must i p, σ => Must c ops K Ls m i (fun σ' => WS c ops K Ls L0 m ms false p σ') σ
  | _, .par l p, σ => ∃ I : (Nat → Bool) → St → Prop, I (fun _ => false) σ ∧
      (∀ A σ', I A σ' → ∀ x ds, (x, ds) ∈ l → A x = false → (∀ y ∈ ds, A y = true) → Must c ops K Ls m x (fun σ'' => I (fun z => z == x || A z) σ'') σ') ∧
      ∀ A σ', I A σ' → (∀ x ∈ l.map Prod.fst, A x = true) → WS c ops K Ls L0 m ms false p σ'
  | _, .either i p j q, σ => Must c ops K Ls m i (fun σ' => WS c ops K Ls L0 m ms false p σ') σ ∧ Must c ops K Ls m j (fun σ' => WS c ops K Ls L0 m ms false q σ') σ
set_option maxHeartbeats 4000000 in
theorem Must.stepK {K : Exit → St → Prop} {Ls L0 : List (Nat × Obj)} {m : Nat} {ms : List Nat} (hlate : lateT ops.toList m = true) (hn : (Ls.map Prod.fst).Nodup) {p : Plan} {fuel : Nat} {listed : Array Bool} {σ : St} {j : Nat} (hclo : Closed ops listed) (hj : j ∈ Region.ready .any ops listed) (hjms : j ∈ ms)
    (ih : ∀ (σ : St), WS c ops K Ls L0 m ms false p σ → ∀ a w, Holds c.g c.N σ a w → (p.calms = true → Mem c.g Ls w) → (Clean ms (listed.setIfInBounds j true) → Mem c.g L0 w) → AnyK c ops K Ls L0 m ms fuel (listed.setIfInBounds j true) a w)
    (hp : planOk ops m p fuel (listed.setIfInBounds j true) = true) (h : Must c ops K Ls m j (fun σ' => WS c ops K Ls L0 m ms false p σ') σ) (a : Act) (w : World) (ha : Holds c.g c.N σ a w) :
    wpOpIn (Fw c.r) c.n c.P ops (liftO c K) j (fun a' w' => ((j < m → Mem c.g Ls w') ∧ (Clean ms (listed.setIfInBounds j true) → Mem c.g L0 w')) ∧ AnyK c ops K Ls L0 m ms fuel (listed.setIfInBounds j true) a' w') a w := by
  have hnc : ¬ Clean ms (listed.setIfInBounds j true) := fun h => by
    have h1 := h j hjms
    obtain ⟨hun, o, ho, _⟩ := mem_ready.1 hj
    rcases Nat.lt_or_ge j listed.size with h' | h'
    · simp [h'] at h1
    · simp [Array.getElem?_eq_none h'] at hun
  obtain ⟨o, ho, hW⟩ := h
  have hgo : ∀ a' w' σ', Holds c.g c.N σ' a' w' → (j < m → ∀ q ∈ Ls, q ∈ σ'.L) → WS c ops K Ls L0 m ms false p σ' → ((j < m → Mem c.g Ls w') ∧ (Clean ms (listed.setIfInBounds j true) → Mem c.g L0 w')) ∧ AnyK c ops K Ls L0 m ms fuel (listed.setIfInBounds j true) a' w' := by
    intro a' w' σ' h1 h2 h3
    have hmem : j < m → Mem c.g Ls w' := fun hjm => h1.mem.sub hn (h2 hjm)
    refine ⟨⟨hmem, fun h => absurd h hnc⟩, ih σ' h3 a' w' h1 (fun hx => ?_) (fun h => absurd h hnc)⟩
    rcases Nat.lt_or_ge j m with hjm | hjm
    · exact hmem hjm
    · exfalso
      have hall : ∀ k, k < m → (listed.setIfInBounds j true).getD k false = true := fun k hk => by
        obtain ⟨_, oj, hoj, hall⟩ := mem_ready.1 hj
        exact getD_set_true (hclo.reach (lateT_ok hlate (by simpa using (Array.getElem?_eq_some_iff.1 hoj).1) hjm hk) fun o ho e he hb => by rw [hoj] at ho; cases ho; exact hall e he hb)
      exact planOk_late p fuel _ hp hall hx
  unfold wpOpIn
  simp only [ho]
  rcases hW with ⟨hg, hW⟩ | ⟨⟨jj, want, og, dg, b, hg, hj, hdg, hb, hcase⟩, hd, h2, h3⟩
  · have hw : Region.wanted o (yielded ops a.tmps) = true := by
      rcases hg with hg | ⟨jj, want, og, dg, hg, hj, hdg, hb⟩
      · simp [Region.wanted, hg]
      · rw [wanted_yes ha hg hj hdg hb]; simp
    simp only [hw, if_true]
    exact Oper.wpIn_mono (fun a' w' ⟨σ', h1, h2, h3⟩ => hgo a' w' σ' h1 h2 h3) (hW a w ha)
  · have hw : Region.wanted o (yielded ops a.tmps) = false := by
      rcases hcase with rfl | rfl
      · rw [wanted_yes ha hg hj hdg hb]; cases want <;> rfl
      · exact wanted_undef ha hg hj hdg hb
    simp only [hw, Bool.false_eq_true, if_false]
    exact ⟨fun _ _ => trivial, hgo _ _ _ (ha.put hd undef) (by cases o.dst <;> exact h2) h3⟩
theorem Must.stepG {K : Exit → St → Prop} {Ls : List (Nat × Obj)} {m : Nat} {σ : St} {j : Nat} {W : St → Prop} {Nx : Act → World → Prop} (h : Must c ops K Ls m j W σ) (a : Act) (w : World) (ha : Holds c.g c.N σ a w)
    (hgo : ∀ a' w' σ', Holds c.g c.N σ' a' w' → (j < m → ∀ q ∈ Ls, q ∈ σ'.L) → W σ' → Nx a' w') : wpOpIn (Fw c.r) c.n c.P ops (liftO c K) j Nx a w := by
  obtain ⟨o, ho, hW⟩ := h
  unfold wpOpIn
  simp only [ho]
  rcases hW with ⟨hg, hW⟩ | ⟨⟨jj, want, og, dg, b, hg, hj, hdg, hb, hcase⟩, hd, h2, h3⟩
  · have hw : Region.wanted o (yielded ops a.tmps) = true := by
      rcases hg with hg | ⟨jj, want, og, dg, hg, hj, hdg, hb⟩
      · simp [Region.wanted, hg]
      · rw [wanted_yes ha hg hj hdg hb]; simp
    simp only [hw, if_true]
    exact Oper.wpIn_mono (fun a' w' ⟨σ', h1, h2, h3⟩ => hgo a' w' σ' h1 h2 h3) (hW a w ha)
  · have hw : Region.wanted o (yielded ops a.tmps) = false := by
      rcases hcase with rfl | rfl
      · rw [wanted_yes ha hg hj hdg hb]; cases want <;> rfl
      · exact wanted_undef ha hg hj hdg hb
    simp only [hw, Bool.false_eq_true, if_false]
    exact ⟨fun _ _ => trivial, hgo _ _ _ (ha.put hd undef) (by cases o.dst <;> exact h2) h3⟩
theorem parEach_spec {M : T Nat} {m : Nat} {listed : Array Bool} : ∀ {l : List (Nat × List Nat)} {E : List Nat}, parEach ops M m listed E l = true → ∀ {x : Nat} {ds : List Nat}, (x, ds) ∈ l → x < m ∧ listed.getD x true = false ∧ x ∉ E ∧ (∀ y ∈ ds, y ∈ E ∨ y ∈ l.map Prod.fst) ∧ (∀ y ∈ ds, bitOf M x y = true)
  | [], _, _, _, _, h => by cases h
  | (x0, d0) :: r, E, h, x, ds, hm => by
    simp only [parEach] at h
    split at h
    · rename_i o ho
      simp only [Bool.and_eq_true, Nat.blt_eq, Bool.not_eq_true', List.all_eq_true] at h
      obtain ⟨⟨⟨⟨⟨h1, h2⟩, h3⟩, h4⟩, h5⟩, h6⟩ := h
      rcases List.mem_cons.1 hm with e | hm
      · cases e
        exact ⟨h1, h2, memB_no h3, fun y hy => .inl (memB_ok (h4 y hy).1), fun y hy => (h4 y hy).2⟩
      · obtain ⟨g1, g2, g3, g4, g5⟩ := parEach_spec h6 hm
        simp only [List.mem_cons, not_or] at g3
        refine ⟨g1, g2, g3.2, fun y hy => ?_, g5⟩
        rcases g4 y hy with hy | hy
        · rcases List.mem_cons.1 hy with rfl | hy
          · exact .inr (by simp)
          · exact .inl hy
        · exact .inr (by simp only [List.map_cons, List.mem_cons]; exact .inr hy)
    · cases h
theorem parEach_next {M : T Nat} {m : Nat} {listed : Array Bool} {A : Nat → Bool} : ∀ {l : List (Nat × List Nat)} {E : List Nat}, parEach ops M m listed E l = true → (∀ x ∈ E, A x = true) → (∃ x ∈ l.map Prod.fst, A x = false) → ∃ x o, x ∈ l.map Prod.fst ∧ A x = false ∧ ops[x]? = some o ∧ ∀ e ∈ o.after, Region.binds .any e = true → listed.getD e.on false = true ∨ A e.on = true
  | [], _, _, _, ⟨x, h, _⟩ => by cases h
  | (x0, d0) :: r, E, h, hE, hx => by
    simp only [parEach] at h
    split at h
    · rename_i o ho
      simp only [Bool.and_eq_true, Nat.blt_eq, Bool.not_eq_true', List.all_eq_true] at h
      obtain ⟨⟨⟨⟨⟨h1, h2⟩, h3⟩, h4⟩, h5⟩, h6⟩ := h
      cases hA : A x0 with
      | false =>
        refine ⟨x0, o, by simp, hA, ho, fun e he hb => ?_⟩
        rw [← Array.all_toList, List.all_eq_true] at h5
        have := h5 e (by simpa using he)
        simp only [hb, Bool.not_true, Bool.false_or, Bool.or_eq_true] at this
        rcases this with h | h
        · exact .inl h
        · exact .inr (hE _ (memB_ok h))
      | true =>
        obtain ⟨x, o', g1, g2, g3, g4⟩ := parEach_next h6 (A := A) (fun x hx => by
          rcases List.mem_cons.1 hx with rfl | hx
          · exact hA
          · exact hE x hx) (by
          obtain ⟨x, hx, hAx⟩ := hx
          simp only [List.map_cons, List.mem_cons] at hx
          rcases hx with rfl | hx
          · rw [hA] at hAx; cases hAx
          · exact ⟨x, hx, hAx⟩)
        exact ⟨x, o', by simp only [List.map_cons, List.mem_cons]; exact .inr g1, g2, g3, g4⟩
    · cases h
theorem bitOf_reach {x y : Nat} (h : bitOf (maskL ops.toList 0 .e) x y = true) : WaitsOn ops.toList x y := by
  unfold bitOf at h
  split at h
  · rename_i n hn
    exact maskL_ok (ops := ops.toList) ops.toList 0 .e (fun i o h => by simpa using h) (fun j n h => by cases h) x n hn y h
  · cases h
theorem getD_of_size {listed : Array Bool} {z : Nat} (h : z < listed.size) (d : Bool) : listed.getD z d = listed[z]'h := by simp [h]
def ListedA (listed listed' : Array Bool) (A : Nat → Bool) : Prop := listed'.size = listed.size ∧ ∀ z, z < listed.size → listed'.getD z false = (listed.getD z false || A z)
theorem listAll_spec : ∀ (l : List (Nat × List Nat)) (listed : Array Bool), (listAll l listed).size = listed.size ∧ ∀ z, z < listed.size → (listAll l listed).getD z false = (listed.getD z false || memB z (l.map Prod.fst))
  | [], listed => ⟨rfl, fun z _ => by simp [listAll, memB]⟩
  | x :: r, listed => by
    obtain ⟨h1, h2⟩ := listAll_spec r (listed.setIfInBounds x.1 true)
    simp only [Array.size_setIfInBounds] at h1 h2
    refine ⟨h1, fun z hz => ?_⟩
    show (listAll r (listed.setIfInBounds x.1 true)).getD z false = _
    rw [h2 z hz]
    simp only [List.map_cons, memB]
    by_cases e : x.1 = z
    · subst e
      simp [hz]
    · have : Nat.beq x.1 z = false := Bool.eq_false_iff.2 fun h => e (Nat.eq_of_beq_eq_true h)
      simp [this, Array.getElem?_setIfInBounds_ne e]
theorem array_ext_getD {a b : Array Bool} (hs : a.size = b.size) (h : ∀ z, z < b.size → a.getD z false = b.getD z false) : a = b := by
  apply Array.ext hs
  intro i h1 h2
  have := h i h2
  rwa [getD_of_size h1, getD_of_size h2] at this
set_option maxHeartbeats 4000000 in
theorem par_any {K : Exit → St → Prop} {Ls L0 : List (Nat × Obj)} {m : Nat} {ms : List Nat} (hn : (Ls.map Prod.fst).Nodup) {l : List (Nat × List Nat)} {listed : Array Bool} (hl : parOk ops m listed l = true) (hsz : listed.size = ops.size) (hms : ∀ x ∈ l.map Prod.fst, x ∈ ms) {I : (Nat → Bool) → St → Prop}
    (hstep : ∀ A σ', I A σ' → ∀ x ds, (x, ds) ∈ l → A x = false → (∀ y ∈ ds, A y = true) → Must c ops K Ls m x (fun σ'' => I (fun z => z == x || A z) σ'') σ') {fuel : Nat}
    (hend : ∀ A σ', I A σ' → (∀ x ∈ l.map Prod.fst, A x = true) → ∀ a w, Holds c.g c.N σ' a w → Mem c.g Ls w → Closed ops (listAll l listed) → AnyK c ops K Ls L0 m ms fuel (listAll l listed) a w) :
    ∀ (k : Nat) (A : Nat → Bool) (listed' : Array Bool) (σ' : St), (∀ x, A x = true → x ∈ l.map Prod.fst) → ((l.map Prod.fst).filter fun x => !A x).length = k → ListedA listed listed' A → Closed ops listed' → I A σ' → ∀ a w, Holds c.g c.N σ' a w → Mem c.g Ls w → AnyK c ops K Ls L0 m ms (k + fuel) listed' a w := by
  simp only [parOk, Bool.and_eq_true, List.all_eq_true, List.mem_range] at hl
  obtain ⟨⟨_, hEach⟩, hRest⟩ := hl
  intro k
  induction k with
  | zero =>
    intro A listed' σ' hA hk hL hC hI a w ha hm
    have hall : ∀ x ∈ l.map Prod.fst, A x = true := fun x hx => by
      cases hAx : A x with
      | true => rfl
      | false =>
        have : x ∈ (l.map Prod.fst).filter fun x => !A x := List.mem_filter.2 ⟨hx, by simp [hAx]⟩
        rw [List.length_eq_zero_iff.1 hk] at this; cases this
    have e : listed' = listAll l listed := by
      obtain ⟨g1, g2⟩ := listAll_spec l listed
      apply array_ext_getD (hL.1.trans g1.symm)
      intro z hz
      rw [g1] at hz
      rw [hL.2 z hz, g2 z hz]
      congr 1
      cases hAz : A z with
      | true =>
        cases hb : memB z (l.map Prod.fst) with
        | true => rfl
        | false => exact absurd (hA z hAz) (memB_no hb)
      | false =>
        cases hb : memB z (l.map Prod.fst) with
        | false => rfl
        | true => rw [hall z (memB_ok hb)] at hAz; cases hAz
    subst e
    rw [Nat.zero_add]
    exact hend A σ' hI hall a w ha hm hC
  | succ k ih =>
    intro A listed' σ' hA hk hL hC hI a w ha hm
    have un : ∀ {z : Nat}, listed.getD z true = false → z < listed.size ∧ listed.getD z false = false := fun {z} h => by
      rcases Nat.lt_or_ge z listed.size with h' | h'
      · refine ⟨h', ?_⟩
        rw [getD_of_size h'] at h ⊢; exact h
      · simp [Array.getElem?_eq_none h'] at h
    rw [show k + 1 + fuel = (k + fuel) + 1 by omega]
    refine ⟨fun h0 => ?_, fun i hi => ?_⟩
    · exfalso
      have hex : ∃ x ∈ l.map Prod.fst, A x = false := by
        obtain ⟨x, hx⟩ := List.exists_mem_of_length_pos (l := (l.map Prod.fst).filter fun x => !A x) (by omega)
        obtain ⟨h1, h2⟩ := List.mem_filter.1 hx
        exact ⟨x, h1, by simpa using h2⟩
      obtain ⟨x, o, g1, g2, g3, g4⟩ := parEach_next (A := A) hEach (fun x hx => by cases hx) hex
      obtain ⟨⟨x', ds⟩, hq, rfl⟩ := List.mem_map.1 g1
      obtain ⟨q1, q2, _, _, _⟩ := parEach_spec hEach hq
      obtain ⟨u1, u2⟩ := un q2
      have : x' ∈ Region.ready .any ops listed' := mem_ready.2 ⟨by
        rw [getD_of_size (by rw [hL.1]; exact u1)]
        have := hL.2 x' u1
        rw [u2, g2] at this
        rw [getD_of_size (by rw [hL.1]; exact u1)] at this
        exact this, o, g3, fun e he hb => by
        rcases g4 e he hb with h | h
        · rcases Nat.lt_or_ge e.on listed.size with h' | h'
          · rw [hL.2 _ h', h]; rfl
          · simp [Array.getElem?_eq_none h'] at h
        · obtain ⟨⟨y, ds'⟩, hy, rfl⟩ := List.mem_map.1 (hA _ h)
          rename_i hye
          obtain ⟨_, w2, _, _, _⟩ := parEach_spec hEach hy
          rw [hL.2 _ (un w2).1, h]; simp⟩
      rw [h0] at this; cases this
    · obtain ⟨hun, oi, hoi, hall⟩ := mem_ready.1 hi
      have hisz : i < ops.size := (Array.getElem?_eq_some_iff.1 hoi).1
      have hil : i < listed.size := by rw [hsz]; exact hisz
      have hun' : listed'.getD i false = false := by
        rw [getD_of_size (by rw [hL.1]; exact hil)] at hun ⊢; exact hun
      have h2 := hL.2 i hil
      rw [hun'] at h2
      have h2 := h2.symm
      simp only [Bool.or_eq_false_iff] at h2
      obtain ⟨h3, hAi⟩ := h2
      have done : ∀ {y : Nat}, WaitsOn ops.toList i y → listed'.getD y false = true := fun {y} hr => hC.reach hr fun o ho e he hb => by rw [hoi] at ho; cases ho; exact hall e he hb
      have doneA : ∀ {y : Nat}, y ∈ l.map Prod.fst → WaitsOn ops.toList i y → A y = true := fun {y} hy hr => by
        obtain ⟨⟨y', ds'⟩, hq, rfl⟩ := List.mem_map.1 hy
        obtain ⟨_, w2, _, _, _⟩ := parEach_spec hEach hq
        have := done hr
        rw [hL.2 _ (un w2).1, (un w2).2] at this
        simpa using this
      have him : i ∈ l.map Prod.fst := by
        have := hRest i hisz
        simp only [Bool.or_eq_true, List.all_eq_true] at this
        rcases this with (h | h) | h
        · rw [getD_of_size hil] at h h3; rw [h3] at h; cases h
        · exact memB_ok h
        · exfalso
          have : ((l.map Prod.fst).filter fun x => !A x) = [] := by
            rw [List.filter_eq_nil_iff]
            intro y hy
            obtain ⟨q, hq, rfl⟩ := List.mem_map.1 hy
            have := doneA hy (bitOf_reach (h q hq))
            simp [this]
          rw [this] at hk; cases hk
      obtain ⟨⟨i', ds⟩, hq, rfl⟩ := List.mem_map.1 him
      obtain ⟨q1, q2, _, q4, q5⟩ := parEach_spec hEach hq
      have hds : ∀ y ∈ ds, A y = true := fun y hy => doneA (by
        rcases q4 y hy with h | h
        · cases h
        · exact h) (bitOf_reach (q5 y hy))
      refine Must.stepG (hstep A σ' hI i' ds hq hAi hds) a w ha fun a' w' σ'' h1 h2 h3 => ?_
      have hmem : Mem c.g Ls w' := h1.mem.sub hn (h2 q1)
      have hnc : ¬ Clean ms (listed'.setIfInBounds i' true) := fun h => by
        have h1 := h i' (hms _ him)
        rw [getD_of_size (by rw [Array.size_setIfInBounds, hL.1]; exact hil)] at h1
        simp at h1
      refine ⟨⟨fun _ => hmem, fun h => absurd h hnc⟩, ih (fun z => z == i' || A z) _ σ'' (fun x hx => ?_) ?_ ⟨by rw [Array.size_setIfInBounds]; exact hL.1, fun z hz => ?_⟩ (hC.set hi) h3 a' w' h1 hmem⟩
      · simp only [Bool.or_eq_true, beq_iff_eq] at hx
        rcases hx with rfl | hx
        · exact him
        · exact hA x hx
      · have nd : (l.map Prod.fst).Nodup := by
          have gen : ∀ (l : List (Nat × List Nat)) (E : List Nat), parEach ops (maskL ops.toList 0 .e) m listed E l = true → (l.map Prod.fst).Nodup := by
            intro l
            induction l with
            | nil => intro E _; simp
            | cons x r ihl =>
              intro E h
              have h' := h
              obtain ⟨x0, d0⟩ := x
              simp only [parEach] at h
              split at h
              · simp only [Bool.and_eq_true] at h
                simp only [List.map_cons, List.nodup_cons]
                refine ⟨fun hx => ?_, ihl _ h.2⟩
                obtain ⟨⟨y, ds'⟩, hy, e⟩ := List.mem_map.1 hx
                obtain ⟨_, _, w3, _, _⟩ := parEach_spec h.2 hy
                have e : y = x0 := e
                exact w3 (by rw [e]; exact List.mem_cons_self)
              · cases h
          exact gen l [] hEach
        have cnt : ∀ (L : List Nat), L.Nodup → i' ∈ L → (L.filter fun x => !A x).length = (L.filter fun x => !(x == i' || A x)).length + 1 := by
          intro L
          induction L with
          | nil => intro _ h; cases h
          | cons x r ihL =>
            intro hn hmem
            simp only [List.nodup_cons] at hn
            by_cases e : x = i'
            · subst e
              have hr : ∀ y ∈ r, (!(y == x || A y)) = !A y := fun y hy => by
                have : y ≠ x := fun e => hn.1 (e ▸ hy)
                simp [this]
              rw [List.filter_cons_of_pos (by simp [hAi]), List.filter_cons_of_neg (by simp), List.length_cons, List.filter_congr hr]
            · have hm' : i' ∈ r := by
                rcases List.mem_cons.1 hmem with h | h
                · exact absurd h.symm e
                · exact h
              have := ihL hn.2 hm'
              cases hAx : A x with
              | true => rw [List.filter_cons_of_neg (by simp [hAx]), List.filter_cons_of_neg (by simp [hAx])]; exact this
              | false => rw [List.filter_cons_of_pos (by simp [hAx]), List.filter_cons_of_pos (by simp [hAx, e]), List.length_cons, List.length_cons, this]
        have := cnt _ nd him
        omega
      · by_cases e : i' = z
        · subst e
          rw [getD_of_size (by rw [Array.size_setIfInBounds, hL.1]; exact hz)]
          simp
        · have := hL.2 z hz
          have e2 : (z == i') = false := by simpa using Ne.symm e
          simp only [e2, Bool.false_or]
          rw [← this]
          simp [Array.getElem?_setIfInBounds_ne e]
set_option maxHeartbeats 4000000 in
theorem WS_any {K : Exit → St → Prop} {Ls L0 : List (Nat × Obj)} {m : Nat} {ms : List Nat} (hs : Region.noSelect ops = true) (hlate : lateT ops.toList m = true) (hn : (Ls.map Prod.fst).Nodup) (hsub : ∀ w, Mem c.g L0 w → Mem c.g Ls w) :
    ∀ (p : Plan) (fresh : Bool) (fuel : Nat) (listed : Array Bool) (σ : St), (∀ j ∈ p.musts, j ∈ ms) → calmsOk ms p = true → (fresh = true → Clean ms listed) → Closed ops listed → listed.size = ops.size → planOk ops m p fuel listed = true → WS c ops K Ls L0 m ms fresh p σ → ∀ a w, Holds c.g c.N σ a w → (p.calms = true → Mem c.g Ls w) → (Clean ms listed → Mem c.g L0 w) → AnyK c ops K Ls L0 m ms fuel listed a w := by
  intro p
  induction p with
  | done =>
    intro fresh fuel listed σ _ _ _ _ _ hp h a w ha _ _
    simp only [planOk, Bool.and_eq_true, List.isEmpty_iff] at hp
    obtain ⟨hp, hf⟩ := hp
    obtain rfl := Nat.eq_of_beq_eq_true hf
    exact ⟨hp, σ, ha, h⟩
  | calm i p ih =>
    intro fresh fuel listed σ hms hcm hfr hclo hsz hp h a w ha hm hC
    cases fuel with
    | zero => cases hp
    | succ fuel =>
      simp only [planOk, Bool.and_eq_true, Nat.blt_eq] at hp
      obtain ⟨⟨⟨him, hf⟩, hr⟩, hp⟩ := hp
      simp only [calmsOk, Bool.and_eq_true, Bool.not_eq_true'] at hcm
      have hims : i ∉ ms := fun hx => by
        have := List.contains_iff_mem.2 hx
        rw [hcm.1] at this; cases this
      obtain ⟨o, v, X, ho, hd, hX, hq, hrest⟩ := h
      have hmem : Mem c.g Ls w := hm rfl
      have hcalm : Calm c ops X o v a := by
        rcases hq with ⟨hq, hg⟩ | ⟨j, want, og, dg, b, hg, hj, hdg, hb, hcase⟩
        · exact ⟨hq.1, .inl ⟨by simp [Region.wanted, hg], fun w hw => hq.2 a.eval (fun x u hu => ha.ev hu) w hw⟩⟩
        · have hy : ∀ b', b = .bool b' → Region.wanted o (yielded ops a.tmps) = (b' == want) := fun b' e => by
            subst e; exact wanted_yes ha hg hj hdg hb
          rcases hcase with ⟨hb', hq⟩ | ⟨hb', rfl, hnd⟩
          · exact ⟨hq.1, .inl ⟨by rw [hy _ hb']; simp, fun w hw => hq.2 a.eval (fun x u hu => ha.ev hu) w hw⟩⟩
          · refine ⟨hnd, .inr ⟨?_, rfl⟩⟩
            rcases hb' with hb' | hb'
            · rw [hy _ hb']; cases want <;> rfl
            · subst hb'; exact wanted_undef ha hg hj hdg hb
      refine AnyK.first (X := X) ho (Region.noSelect_spec hs) him hlate hims (hX.imp id fun h => ⟨h.1, h.2.1⟩) hsub fuel listed a w (Region.free_spec ho hf) hclo (by simpa using hr) hcalm hmem (hX.imp id fun h => hfr h.2.2) hC
        (ih fresh fuel _ _ hms hcm.2 (fun h => (hfr h).set hims) (hclo.set (by simpa using hr)) (by rw [Array.size_setIfInBounds]; exact hsz) hp hrest _ w (ha.put hd v) (fun _ => hmem) (fun h => hC h.back))
  | must i p ih =>
    intro fresh fuel listed σ hms hcm hfr hclo hsz hp h a w ha hm hC
    cases fuel with
    | zero => cases hp
    | succ fuel =>
      simp only [planOk, Bool.and_eq_true, beq_iff_eq] at hp
      obtain ⟨hr, hp⟩ := hp
      refine ⟨fun h0 => (by rw [hr] at h0; cases h0), fun j hj => ?_⟩
      have hj' := hj
      rw [hr] at hj
      obtain rfl := List.mem_singleton.1 hj
      exact Must.stepK hlate hn hclo hj' (hms j List.mem_cons_self) (fun σ' h' a' w' ha' hm' hC' => ih false fuel _ σ' (fun k hk => hms k (List.mem_cons_of_mem _ hk)) hcm (fun h => by cases h) (hclo.set hj') (by rw [Array.size_setIfInBounds]; exact hsz) hp h' a' w' ha' hm' hC') hp h a w ha
  | either i p j q ihp ihq =>
    intro fresh fuel listed σ hms hcm hfr hclo hsz hp h a w ha hm hC
    cases fuel with
    | zero => cases hp
    | succ fuel =>
      simp only [planOk, Bool.and_eq_true, beq_iff_eq] at hp
      obtain ⟨⟨hr, hp⟩, hq⟩ := hp
      simp only [calmsOk, Bool.and_eq_true] at hcm
      refine ⟨fun h0 => (by rw [hr] at h0; cases h0), fun k hk => ?_⟩
      have hk' := hk
      rw [hr] at hk
      rcases List.mem_cons.1 hk with rfl | hk
      · exact Must.stepK hlate hn hclo hk' (hms k List.mem_cons_self) (fun σ' h' a' w' ha' hm' hC' => ihp false fuel _ σ' (fun x hx => hms x (by simp [Plan.musts, hx])) hcm.1 (fun h => by cases h) (hclo.set hk') (by rw [Array.size_setIfInBounds]; exact hsz) hp h' a' w' ha' hm' hC') hp h.1 a w ha
      · obtain rfl := List.mem_singleton.1 hk
        exact Must.stepK hlate hn hclo hk' (hms k (by simp [Plan.musts])) (fun σ' h' a' w' ha' hm' hC' => ihq false fuel _ σ' (fun x hx => hms x (by simp [Plan.musts, hx])) hcm.2 (fun h => by cases h) (hclo.set hk') (by rw [Array.size_setIfInBounds]; exact hsz) hq h' a' w' ha' hm' hC') hq h.2 a w ha
  | par l p ih =>
    intro fresh fuel listed σ hms hcm hfr hclo hsz hp h a w ha hm hC
    simp only [planOk, Bool.and_eq_true] at hp
    obtain ⟨⟨hl, hle⟩, hp⟩ := hp
    have hle : l.length ≤ fuel := Nat.le_of_ble_eq_true hle
    obtain ⟨I, h0, hstep, hend⟩ := h
    have h1 := par_any (L0 := L0) (fuel := Nat.sub fuel l.length) hn hl hsz (fun x hx => hms x (List.mem_append_left _ hx)) hstep (fun A σ' hI hall a w ha hm hC => ih false _ _ σ' (fun x hx => hms x (List.mem_append_right _ hx)) hcm (fun h => by cases h) hC (by rw [(listAll_spec l listed).1]; exact hsz) hp (hend A σ' hI hall) a w ha (fun _ => hm) (fun h => ?_)) l.length (fun _ => false) listed σ (fun x hx => by cases hx) (by rw [List.filter_eq_self.2 (by simp)]; simp) ⟨rfl, fun z _ => by simp⟩ hclo h0 a w ha (hm rfl)
    · have e : l.length + Nat.sub fuel l.length = fuel := by
        show l.length + (fuel - l.length) = fuel
        omega
      rwa [e] at h1
    · exfalso
      simp only [parOk, Bool.and_eq_true] at hl
      obtain ⟨⟨g1, g2⟩, _⟩ := hl
      cases l with
      | nil => cases g1
      | cons q r =>
        obtain ⟨x, ds⟩ := q
        obtain ⟨_, w2, _, _, _⟩ := parEach_spec g2 (x := x) (ds := ds) (by simp)
        have hx := h x (hms x (List.mem_append_left _ (by simp)))
        have hlt : x < listed.size := by
          rcases Nat.lt_or_ge x listed.size with h' | h'
          · exact h'
          · simp [Array.getElem?_eq_none h'] at w2
        rw [(listAll_spec ((x, ds) :: r) listed).2 x hlt] at hx
        simp [memB] at hx
theorem WC_drawK {K : Exit → St → Prop} {σ : St} {id : Nat} (Ls : List (Nat × Obj)) (m : Nat) (p : Plan) (hm : c.P.follows .mixedOrders = true)
    (hok : (Region.noSelect ops && lateT ops.toList m && planOk ops m p ops.size (Array.replicate ops.size false)) = true) (hcm : calmsOk p.musts p = true) (hsub : Ls.Sublist σ.L) (h : WS c ops K Ls σ.L m p.musts true p σ) : WC c (.region id ops true) K σ := fun a w ha => by
  simp only [Bool.and_eq_true] at hok
  have ha' : Holds c.g c.N σ a { w with drawn := w.drawn + 1 } := ha.mem' ha.mem.drew
  exact Go.wpIn_mono (wpIn_region_any hm (AnyK.any _ _ _ _ (WS_any hok.1.1 hok.1.2 (ha.mem.nodup.sublist (hsub.map _)) (fun w hw => hw.sublist hsub) p true _ _ σ (fun _ h => h) hcm (fun _ j _ => by
    simp [Array.getElem?_replicate]; split <;> rfl) (fun j o _ hj => by
    rw [Array.getD_eq_getD_getElem?, Array.getElem?_replicate] at hj
    split at hj <;> cases hj) (by simp) hok.2 h a _ ha' (fun _ => ha'.mem.sublist hsub) (fun _ => ha'.mem)))) fun _ _ _ hl => hl.lift
end
end Go.Proofs.Ytgimodceldoniaa
namespace Go.Proofs.Ytgimodceldoniaa
open Go.RowKit
def RegS (ops : Array Oper) (a0 a : Act) : Prop := ∀ t, (∀ o ∈ ops.toList, o.dst ≠ some t) → a.tmps.getD t undef = a0.tmps.getD t undef
def PanI (I : Act → Prop) (Q : Exit → Act → World → Prop) : Exit → Act → World → Prop
  | .panic ch, a, w => Q (.panic ch) a w ∧ I a
  | e, a, w => Q e a w
theorem RegS.put {ops : Array Oper} {a0 a : Act} {o : Oper} (h : RegS ops a0 a) (ho : o ∈ ops.toList) (v : Value) : RegS ops a0 (a.put o.dst v) := fun t ht => by
  have hne := ht o ho
  rw [← h t ht]
  cases hd : o.dst with
  | none => rfl
  | some d =>
    have hdt : d ≠ t := fun e => hne (by rw [hd, e])
    simp [Act.put, Array.getElem?_setIfInBounds_ne hdt]
section
variable {F : Fence} {n : Nat} {P : Program} {Q : Exit → Act → World → Prop} {ops : Array Oper} {a0 : Act}
theorem wpIn_keepS {o : Oper} {a : Act} {w : World} {next : Act → World → Prop} (ho : o ∈ ops.toList) (hI : RegS ops a0 a) (h : o.wpIn F n P a w next Q) : o.wpIn F n P a w (fun a' w' => next a' w' ∧ RegS ops a0 a') (PanI (RegS ops a0) Q) := by
  unfold Oper.wpIn at *
  refine ⟨h.1, ?_⟩
  have hh := h.2
  generalize (o.semAt F.round a.eval).run P w = r at *
  cases r with
  | ok x w' =>
    cases x <;> simp only [Oper.uponIn] at hh ⊢
    case value u => exact ⟨hh, hI.put ho u⟩
    case skip => exact ⟨hh, hI.put ho undef⟩
    case defer d => exact ⟨hh, RegS.put (a := { a with defers := d :: a.defers }) hI ho undef⟩
    case enter f args =>
      refine ⟨hh.1, CallsIn.mono hh.2 fun e w'' he => ?_⟩
      cases e with
      | returned u => exact ⟨he, hI.put ho u⟩
      | panicked ch => exact ⟨he, hI⟩
      | outgrown => exact he
    case row row args => exact ⟨hh.1, RowsIn.mono hh.2 fun u w'' he => ⟨he, hI.put ho u⟩⟩
    case round l f tmps assign body =>
      refine ⟨hh.1, RoundIn.mono hh.2 fun e w'' he => ?_⟩
      cases e with
      | returned u => exact ⟨he, hI.put ho u⟩
      | panicked ch => exact ⟨he, hI⟩
      | outgrown => exact he
  | halt x w' =>
    cases x <;> simp only [Oper.uponIn] at hh ⊢
    case panic u => exact ⟨hh, hI⟩
theorem wpListIn_keepS : ∀ (l : List Oper) (a : Act) (w : World), (∀ o ∈ l, o ∈ ops.toList) → RegS ops a0 a → wpListIn F n P ops Q l a w → wpListIn F n P ops (PanI (RegS ops a0) Q) l a w
  | [], _, _, _, _, h => h
  | o :: r, a, w, hl, hI, h => by
    have ho := hl o List.mem_cons_self
    have hr := fun p hp => hl p (List.mem_cons_of_mem _ hp)
    simp only [wpListIn] at h ⊢
    split
    · rename_i hw
      rw [if_pos hw] at h
      exact Oper.wpIn_mono (fun a' w' h' => wpListIn_keepS r a' w' hr h'.2 h'.1) (wpIn_keepS ho hI h)
    · rename_i hw
      rw [if_neg hw] at h
      exact ⟨h.1, wpListIn_keepS r _ w hr (hI.put ho undef) h.2⟩
theorem wpOpIn_keepS {i : Nat} {Kn : Act → World → Prop} {a : Act} {w : World} (hI : RegS ops a0 a) (h : wpOpIn F n P ops Q i Kn a w) : wpOpIn F n P ops (PanI (RegS ops a0) Q) i (fun a' w' => Kn a' w' ∧ RegS ops a0 a') a w := by
  unfold wpOpIn at *
  cases ho : ops[i]? with
  | none => rw [ho] at h; exact ⟨h, hI⟩
  | some o =>
    rw [ho] at h
    have hm : o ∈ ops.toList := by
      obtain ⟨h1, h2⟩ := Array.getElem?_eq_some_iff.1 ho
      rw [← h2]; simp
    simp only at h ⊢
    split
    · rename_i hw
      rw [if_pos hw] at h
      exact wpIn_keepS hm hI h
    · rename_i hw
      rw [if_neg hw] at h
      exact ⟨h.1, h.2, hI.put hm undef⟩
theorem wpAnyIn_keepS {md : Region.Mode} : ∀ (fuel : Nat) (listed : Array Bool) (a : Act) (w : World), RegS ops a0 a → wpAnyIn F n P md ops Q fuel listed a w → wpAnyIn F n P md ops (PanI (RegS ops a0) Q) fuel listed a w
  | 0, _, _, _, _, h => h
  | fuel + 1, _, _, _, hI, h => ⟨h.1, fun i hi => wpOpIn_mono (fun a' w' h' => wpAnyIn_keepS fuel _ a' w' h'.2 h'.1) (wpOpIn_keepS hI (h.2 i hi))⟩
end
def keepS (ops : Array Oper) (s : List (Nat × Value)) : List (Nat × Value) := s.filter fun p => ops.toList.all fun o => decide (o.dst ≠ some p.1)
theorem look_keepS {ops : Array Oper} {t : Nat} {v : Value} : ∀ {s : List (Nat × Value)}, look (keepS ops s) t = some v ↔ look s t = some v ∧ ∀ o ∈ ops.toList, o.dst ≠ some t
  | [] => by simp [keepS, look]
  | (k, u) :: r => by
    have ih := look_keepS (ops := ops) (t := t) (v := v) (s := r)
    unfold keepS at ih ⊢
    rw [List.filter_cons, look_cons]
    by_cases hk : (ops.toList.all fun o => decide (o.dst ≠ some k)) = true
    · simp only [hk, if_true]
      rw [look_cons]
      by_cases e : k = t
      · subst e
        rw [if_pos rfl, if_pos rfl]
        simp only [List.all_eq_true, decide_eq_true_eq] at hk
        exact ⟨fun h => ⟨h, hk⟩, fun h => h.1⟩
      · rw [if_neg e, if_neg e]; exact ih
    · simp only [hk, Bool.false_eq_true, if_false]
      by_cases e : k = t
      · subst e
        rw [if_pos rfl, ih]
        simp only [List.all_eq_true, decide_eq_true_eq] at hk
        exact ⟨fun h => absurd h.2 hk, fun h => absurd h.2 hk⟩
      · rw [if_neg e]; exact ih
theorem wpIn_slots {F : Fence} {n : Nat} {P : Program} {Q : Exit → Act → World → Prop} {o : Oper} {a : Act} {w : World} {next : Act → World → Prop} (h : o.wpIn F n P a w next Q) : o.wpIn F n P a w (fun a' w' => next a' w' ∧ RegS #[o] a a') Q := by
  have ho : o ∈ #[o].toList := by simp
  have hI : RegS #[o] a a := fun _ _ => rfl
  unfold Oper.wpIn at *
  refine ⟨h.1, ?_⟩
  have hh := h.2
  generalize (o.semAt F.round a.eval).run P w = r at *
  cases r with
  | ok x w' =>
    cases x <;> simp only [Oper.uponIn] at hh ⊢
    case value u => exact ⟨hh, hI.put ho u⟩
    case skip => exact ⟨hh, hI.put ho undef⟩
    case defer d => exact ⟨hh, RegS.put (a := { a with defers := d :: a.defers }) hI ho undef⟩
    case enter f args =>
      refine ⟨hh.1, CallsIn.mono hh.2 fun e w'' he => ?_⟩
      cases e with
      | returned u => exact ⟨he, hI.put ho u⟩
      | panicked ch => exact he
      | outgrown => exact he
    case row row args => exact ⟨hh.1, RowsIn.mono hh.2 fun u w'' he => ⟨he, hI.put ho u⟩⟩
    case round l f tmps assign body =>
      refine ⟨hh.1, RoundIn.mono hh.2 fun e w'' he => ?_⟩
      cases e with
      | returned u => exact ⟨he, hI.put ho u⟩
      | panicked ch => exact he
      | outgrown => exact he
  | halt x w' =>
    cases x <;> simp only [Oper.uponIn] at hh ⊢
    case panic u => exact hh
theorem look_append : ∀ {s1 s2 : List (Nat × Value)} {t : Nat}, look (s1 ++ s2) t = match look s1 t with
    | some v => some v
    | none => look s2 t
  | [], s2, t => by simp [look]
  | (k, v) :: r, s2, t => by
    rw [List.cons_append, look_cons, look_cons]
    by_cases e : k = t
    · simp [e]
    · simp only [if_neg e]; exact look_append
theorem OW.frame {c : Cx} {o : Oper} {Kn : St → Prop} {K : Exit → St → Prop} {σ : St} (h : OW c o Kn K σ) : OW c o (fun σ' => ∃ s1, Kn ⟨s1, σ'.D, σ'.L⟩ ∧ σ'.s = keepS #[o] σ.s ++ s1) K σ := fun a w ha => by
  refine Oper.wpIn_mono (fun a' w' h' => ?_) (wpIn_slots (h a w ha))
  obtain ⟨⟨σ1, h1, h2⟩, hR⟩ := h'
  refine ⟨⟨keepS #[o] σ.s ++ σ1.s, σ1.D, σ1.L⟩, ⟨h1.size, fun t v hv => ?_, h1.defers, h1.mem⟩, σ1.s, h2, rfl⟩
  rw [look_append] at hv
  split at hv
  · rename_i u hu
    cases hv
    obtain ⟨g1, g2⟩ := look_keepS.1 hu
    rw [hR t g2]
    exact ha.slots t _ g1
  · exact h1.slots t v hv
section
variable {c : Cx}
theorem lift_of_panI {ops : Array Oper} {K0 K : Exit → St → Prop} {σ : St} {a0 : Act} {w0 : World} (ha : Holds c.g c.N σ a0 w0) (hk : ∀ e σ', (∀ ch, e ≠ .panic ch) → K0 e σ' → K e σ') (hp : ∀ ch D L, K0 (.panic ch) ⟨[], D, L⟩ → K (.panic ch) ⟨keepS ops σ.s, D, L⟩) {e : Exit} {a : Act} {w : World} (h : PanI (RegS ops a0) (liftO c K0) e a w) : lift c K e a w := by
  cases e with
  | panic ch =>
    obtain ⟨⟨D, L, h1, h2⟩, h3⟩ := h
    refine ⟨⟨keepS ops σ.s, D, L⟩, ⟨h1.size, fun t v hv => ?_, h1.defers, h1.mem⟩, hp ch D L h2⟩
    obtain ⟨h4, h5⟩ := look_keepS.1 hv
    rw [h3 t h5]; exact ha.slots t v h4
  | normal => obtain ⟨σ', h1, h2⟩ := h; exact ⟨σ', h1, hk _ _ (by simp) h2⟩
  | ret => obtain ⟨σ', h1, h2⟩ := h; exact ⟨σ', h1, hk _ _ (by simp) h2⟩
  | exit id => obtain ⟨σ', h1, h2⟩ := h; exact ⟨σ', h1, hk _ _ (by simp) h2⟩
  | goto l => obtain ⟨σ', h1, h2⟩ := h; exact ⟨σ', h1, hk _ _ (by simp) h2⟩
  | outgrown => obtain ⟨σ', h1, h2⟩ := h; exact ⟨σ', h1, hk _ _ (by simp) h2⟩
theorem WC_regionP {id : Nat} {l : List Oper} {K0 K : Exit → St → Prop} {σ : St} (hk : ∀ e σ', (∀ ch, e ≠ .panic ch) → K0 e σ' → K e σ') (hp : ∀ ch D L, K0 (.panic ch) ⟨[], D, L⟩ → K (.panic ch) ⟨keepS l.toArray σ.s, D, L⟩) (h : WL c l.toArray l K0 σ) : WC c (.region id l.toArray false) K σ := fun a w ha =>
  Go.wpIn_mono (wpIn_region_lit (wpListIn_keepS l a w (fun _ h => by simpa using h) (fun _ _ => rfl) (h a w ha))) fun _ _ _ hl => lift_of_panI ha hk hp hl
theorem WC_drawP {ops : Array Oper} {K0 K : Exit → St → Prop} {σ : St} {id : Nat} (Ls : List (Nat × Obj)) (m : Nat) (p : Plan) (hm : c.P.follows .mixedOrders = true)
    (hok : (Region.noSelect ops && lateT ops.toList m && planOk ops m p ops.size (Array.replicate ops.size false)) = true) (hcm : calmsOk p.musts p = true) (hsub : Ls.Sublist σ.L) (hk : ∀ e σ', (∀ ch, e ≠ .panic ch) → K0 e σ' → K e σ') (hp : ∀ ch D L, K0 (.panic ch) ⟨[], D, L⟩ → K (.panic ch) ⟨keepS ops σ.s, D, L⟩) (h : WS c ops K0 Ls σ.L m p.musts true p σ) : WC c (.region id ops true) K σ := fun a w ha => by
  simp only [Bool.and_eq_true] at hok
  have ha' : Holds c.g c.N σ a { w with drawn := w.drawn + 1 } := ha.mem' ha.mem.drew
  exact Go.wpIn_mono (wpIn_region_any hm (wpAnyIn_keepS _ _ _ _ (fun _ _ => rfl) (AnyK.any _ _ _ _ (WS_any hok.1.1 hok.1.2 (ha.mem.nodup.sublist (hsub.map _)) (fun w hw => hw.sublist hsub) p true _ _ σ (fun _ h => h) hcm (fun _ j _ => by
    simp [Array.getElem?_replicate]; split <;> rfl) (fun j o _ hj => by
    rw [Array.getD_eq_getD_getElem?, Array.getElem?_replicate] at hj
    split at hj <;> cases hj) (by simp) hok.2 h a _ ha' (fun _ => ha'.mem.sublist hsub) (fun _ => ha'.mem))))) fun _ _ _ hl => lift_of_panI ha hk hp hl
end
abbrev pan (v : Value) : List PanicEntry := [{ v, recovered := false }]
def FnP (P : Program) (f : FuncId) (args : List Value) (L : List (Nat × Obj)) (R : Value → List (Nat × Obj) → Prop) : Prop :=
  ∀ g w, Mem g L w → Calls P f args.toArray w fun e w' => ∃ v L', e = .panicked (pan v) ∧ Mem g L' w' ∧ R v L'
def FnD (P : Program) (f : FuncId) (args : List Value) (L : List (Nat × Obj)) (u : FrameMode) (R : FrameMode → List (Nat × Obj) → Prop) : Prop :=
  ∀ g w n, Mem g L w → CallsDIn Fence.wide n P f args.toArray u w fun e u' w' => ∃ v L', e = .returned v ∧ Mem g L' w' ∧ R u' L'
section
variable {c : Cx} {o : Oper} {Kn : St → Prop} {K : Exit → St → Prop} {σ : St}
theorem OW_callvP {f : FuncId} {x : Operand} {A B : Array Value} {args : Array Operand} {tys : Array TypeId} [hf : FCall c.P f] {vs : List Value} {R : Value → List (Nat × Obj) → Prop}
    (ho : o.op = .call { callee := .value x, args := args, argTypes := tys }) (hx : ev σ.s x = some (.func (.func f) A B)) (ha : evs σ.s args.toList = some vs) (hF : FnP c.P f (A.toList ++ vs ++ B.toList) σ.L R) (hk : ∀ v L', R v L' → K (.panic (pan v)) ⟨[], σ.D, L'⟩) : OW c o Kn K σ := fun a w hH => by
  refine ⟨fun _ _ => trivial, ?_⟩
  have hargs : args.map a.eval = vs.toArray := by
    apply Array.ext'
    simpa using hH.evs ha
  have hr : (execOp a.eval o).run c.P w = .ok (.enter f (A.toList ++ vs ++ B.toList).toArray) w := by
    have e : (A.toList ++ vs ++ B.toList).toArray = A ++ vs.toArray ++ B := by apply Array.ext'; simp
    rw [e]
    simp [execOp, ho, resolve, Deferred.ofValue, hH.ev hx, hargs, invoke, hf.h]
  rw [Oper.semAt_eq _ _ _ (by rw [ho]; intro cc h; cases h), hr]
  refine ⟨fun h => by simp at h, (callsIn_fw c.r _ (hF c.g w hH.mem)).mono fun e w' ⟨v, L', h1, h2, h3⟩ => ?_⟩
  subst h1
  exact ⟨σ.D, L', ⟨hH.size, (fun t u hu => by cases hu), hH.defers, h2⟩, hk v L' h3⟩
theorem OW_panic {x : Operand} {t : TypeId} {v : Value} (ho : o.op = .panic x) (hx : ev σ.s x = some (.iface t v)) (hk : K (.panic (pan (.iface t v))) ⟨[], σ.D, σ.L⟩) : OW c o Kn K σ := fun a w hH => by
  refine ⟨fun _ _ => trivial, ?_⟩
  have hr : (execOp a.eval o).run c.P w = .halt (.panic (.iface t v)) w := by
    simp [execOp, ho, Instr.panic, hH.ev hx, goPanic]
  rw [Oper.semAt_eq _ _ _ (by rw [ho]; intro cc h; cases h), hr]
  exact ⟨σ.D, σ.L, ⟨hH.size, (fun t u hu => by cases hu), hH.defers, hH.mem⟩, hk⟩
theorem OW_defer {f : FuncId} {x : Operand} {A B : Array Value} {args : Array Operand} {tys : Array TypeId} {vs : List Value} (hr : c.r = none)
    (ho : o.op = .defer { callee := .value x, args := args, argTypes := tys }) (hx : ev σ.s x = some (.func (.func f) A B)) (ha : evs σ.s args.toList = some vs) (hd : dok c.N o.dst = true) (hk : Kn (St.put ⟨σ.s, { target := .fn (.func f) B, args := (A.toList ++ vs).toArray } :: σ.D, σ.L⟩ o.dst undef)) : OW c o Kn K σ := fun a w hH => by
  refine ⟨fun _ _ => trivial, ?_⟩
  have hargs : args.map a.eval = vs.toArray := by
    apply Array.ext'
    simpa using hH.evs ha
  have hrun : (o.semAt (Fw c.r).round a.eval).run c.P w = .ok (.defer { target := .fn (.func f) B, args := (A.toList ++ vs).toArray }) w := by
    have e : (A.toList ++ vs).toArray = A ++ vs.toArray := by apply Array.ext'; simp
    rw [e, hr]
    show (execOp a.eval o).run c.P w = _
    simp [execOp, ho, resolve, Deferred.ofValue, hH.ev hx, hargs]
  rw [hrun]
  refine ⟨_, ?_, hk⟩
  refine Holds.put (σ := ⟨σ.s, { target := .fn (.func f) B, args := (A.toList ++ vs).toArray } :: σ.D, σ.L⟩) (a := { a with defers := { target := .fn (.func f) B, args := (A.toList ++ vs).toArray } :: a.defers }) ⟨hH.size, hH.slots, ?_, hH.mem⟩ hd undef
  show _ :: a.defers = _
  rw [hH.defers]
end
def LeavS (c : Cx) (fn : Func) (s : List (Nat × Value)) (Rr Rp : Value → List (Nat × Obj) → Prop) : List Deferred → FrameMode → List (Nat × Obj) → Prop
  | [], .returning, L => ∃ v Lx, Res c fn ⟨s, [], L⟩ v ∧ Lx.Sublist L ∧ Rr v Lx
  | [], .panicking ch, L => ∃ v, ch = pan v ∧ Rp v L
  | [], .run, _ => False
  | d :: ds, u, L => u ≠ .run ∧ ((∃ r i L1, d = markD r ∧ L[i]? = some (r, .deferred (some [])) ∧ setL L i (r, .deferred none) = some L1 ∧ LeavS c fn s Rr Rp ds u L1) ∨
      (∃ f A B, d = { target := .fn (.func f) B, args := A } ∧ FCall c.P f ∧ FnD c.P f (A.toList ++ B.toList) L u fun u' L' => LeavS c fn s Rr Rp ds (settle u') L'))
def EndR (g : World) (Rr Rp : Value → List (Nat × Obj) → Prop) (e : Ending) (w' : World) : Prop := (∃ v L', e = .returned v ∧ Mem g L' w' ∧ Rr v L') ∨ ∃ v L', e = .panicked (pan v) ∧ Mem g L' w' ∧ Rp v L'
theorem LeavS.leaves {P : Program} {g : World} {N : Nat} {fn : Func} {Rr Rp : Value → List (Nat × Obj) → Prop} : ∀ (ds : List Deferred) (u : FrameMode) (s : List (Nat × Value)) (L : List (Nat × Obj)) (a : Act) (w : World), Holds g N ⟨s, [], L⟩ { a with defers := [] } w → LeavS ⟨P, g, N, 0, none⟩ fn s Rr Rp ds u L → LeavesInM Fence.wide 0 P fn a.tmps (EndR g Rr Rp) ds u w
  | [], .returning, s, L, a, w, hH, ⟨v, Lx, h1, h2, h3⟩ => ⟨v, h1 { a with defers := [] } w hH, .inl ⟨v, Lx, rfl, hH.mem.sublist h2, h3⟩⟩
  | [], .panicking ch, s, L, a, w, hH, ⟨v, h1, h2⟩ => .inr ⟨v, L, by rw [h1], hH.mem, h2⟩
  | [], .run, _, _, _, _, _, h => h.elim
  | d :: ds, u, s, L, a, w, hH, ⟨hu, .inl ⟨r, i, L1, hd, hi, hs, hM⟩⟩ => by
    subst hd
    have hm' := hH.mem.putObj hi (.deferred none)
    rw [setL_eq hs] at hm'
    exact ⟨hu, .inl ⟨r, w.putObj r (.deferred none), rfl, run_takeDeferred (hH.mem.at_ hi), LeavS.leaves ds u s L1 a _ (hH.mem' hm') hM⟩⟩
  | d :: ds, u, s, L, a, w, hH, ⟨hu, .inr ⟨f, A, B, hd, hf, hD⟩⟩ => by
    subst hd
    refine ⟨hu, .inr ⟨fun h => by simp [Fence.wide] at h, .func f, B, f, A ++ B, rfl, by simp [invoke, hf.h], fun _ _ => trivial, ?_⟩⟩
    have h1 := hD g w (0 - 1) hH.mem
    have e : (A.toList ++ B.toList).toArray = A ++ B := by apply Array.ext'; simp
    rw [e] at h1
    refine h1.mono fun e u' w' ⟨v, L', h2, h3, h4⟩ => ?_
    subst h2
    exact LeavS.leaves ds (settle u') s L' a w' (hH.mem' h3) h4
def postL (c : Cx) (fn : Func) (Rr Rp : Value → List (Nat × Obj) → Prop) : Exit → St → Prop
  | .normal, σ | .ret, σ => LeavS c fn σ.s Rr Rp σ.D .returning σ.L
  | .panic ch, σ => LeavS c fn σ.s Rr Rp σ.D (.panicking ch) σ.L
  | _, _ => False
theorem holds_init {g w : World} {N n : Nat} {args : List Value} {L : List (Nat × Obj)} (hN : n = N) (hl : Nat.ble args.length N = true) (hm : Mem g L w) : Holds g N ⟨initS 0 args, [], L⟩ { tmps := args.toArray ++ Array.replicate (n - args.toArray.size) undef, defers := [] } w := by
  have hle : args.length ≤ N := Nat.le_of_ble_eq_true hl
  refine ⟨?_, ?_, rfl, hm⟩
  · simp only [hN, Array.size_append, List.size_toArray, Array.size_replicate]; omega
  · intro t v hv
    obtain ⟨_, h2⟩ := look_initS args 0 t v hv
    simp only [Nat.sub_zero] at h2
    have hlt : t < args.length := (List.getElem?_eq_some_iff.1 h2).1
    simp [Array.getElem?_append, hlt] at h2 ⊢
    simp [h2]
section
variable {P : Program} {f : FuncId} {fn : Func} {code : Code} {args : List Value} {L : List (Nat × Obj)} {N : Nat}
theorem enterL {Rr Rp : Value → List (Nat × Obj) → Prop} (hf : P.funcs[f]? = some fn) (hb : fn.body = some code) (hN : fn.ntmps = N) (hl : Nat.ble args.length N = true)
    (h : ∀ g, WC ⟨P, g, N, 0, none⟩ code (postL ⟨P, g, N, 0, none⟩ fn Rr Rp) ⟨initS 0 args, [], L⟩) : ∀ g w, Mem g L w → Calls P f args.toArray w (EndR g Rr Rp) := fun g w hm => by
  refine (callsIn_wide (n := 0)).1 (callsIn_of_wp_marks hf hb trivial (Go.wpIn_mono (h g _ w (holds_init hN hl hm)) fun e a' w' hl => ?_) rfl)
  obtain ⟨σ, h1, h2⟩ := hl
  have key : ∀ u, LeavS ⟨P, g, N, 0, none⟩ fn σ.s Rr Rp σ.D u σ.L → LeavesInM Fence.wide 0 P fn a'.tmps (EndR g Rr Rp) a'.defers u w' := fun u hu => by
    rw [h1.defers]; exact LeavS.leaves σ.D u σ.s σ.L a' w' ⟨h1.size, h1.slots, rfl, h1.mem⟩ hu
  cases e with
  | normal => exact key _ h2
  | ret => exact key _ h2
  | panic ch => exact key _ h2
  | exit id => exact h2.elim
  | goto l => exact h2.elim
  | outgrown => exact h2.elim
theorem FnD_enter {u : FrameMode} {R : FrameMode → List (Nat × Obj) → Prop} (hf : P.funcs[f]? = some fn) (hb : fn.body = some code) (hN : fn.ntmps = N) (hl : Nat.ble args.length N = true)
    (h : ∀ g n, WC ⟨P, g, N, n, none⟩ code (postK ⟨P, g, N, n, none⟩ fn fun _ L' => R u L') ⟨initS 0 args, [], L⟩) : FnD P f args L u R := fun g w n hm => by
  refine CallsDIn.mono (callsDIn_of_wp (R := fun e w' => ∃ v L', e = .returned v ∧ Mem g L' w' ∧ R u L') hf hb trivial (Go.wpIn_mono (h g n _ w (holds_init hN hl hm)) fun e a' w' hl => ?_) rfl) fun e u' w' ⟨h1, v, L', h2, h3, h4⟩ => ⟨v, L', h2, h3, by rw [h1]; exact h4⟩
  obtain ⟨σ, h1, h2⟩ := hl
  cases e with
  | normal => obtain ⟨h2, v, Lx, h3, hs, h4⟩ := h2; exact ⟨by rw [h1.defers, h2], v, h3 a' w' h1, v, Lx, rfl, h1.mem.sublist hs, h4⟩
  | ret => obtain ⟨h2, v, Lx, h3, hs, h4⟩ := h2; exact ⟨by rw [h1.defers, h2], v, h3 a' w' h1, v, Lx, rfl, h1.mem.sublist hs, h4⟩
  | panic ch => exact h2.elim
  | exit id => exact h2.elim
  | goto l => exact h2.elim
  | outgrown => exact h2.elim
def Recov : FrameMode → Value → FrameMode → Prop
  | .returning, rv, u' => rv = .nilIface ∧ u' = .returning
  | .panicking [{ v, recovered := false, goexit := false }], rv, u' => rv = v ∧ u' = .panicking [{ v, recovered := true }]
  | _, _, _ => False
def QS (c : Cx) (L : List (Nat × Obj)) : List Oper → List (Nat × Value) → List (Nat × Value) → Prop
  | [], s, s' => s' = s
  | o :: r, s, s' => ∃ v, o.guard = none ∧ dok c.N o.dst = true ∧ Qt c s L o v ∧ QS c L r (St.put ⟨s, [], []⟩ o.dst v).s s'
theorem wpOpsSIn_calm {F : Fence} {n : Nat} {P : Program} {g : World} {N m : Nat} {ops : Array Oper} {Q : Exit → Act → List Frame → World → Prop} {cs : List Frame} {w : World} {D : List Deferred} {L : List (Nat × Obj)} (hF : ∀ f, F.fn f) {s' : List (Nat × Value)} :
    ∀ (r : List Oper) (k : Nat) (a : Act) (s : List (Nat × Value)), (∀ i o, r[i]? = some o → ops[k + i]? = some o) → Holds g N ⟨s, D, L⟩ a w → QS ⟨P, g, N, m, none⟩ L r s s' → (∀ a', Holds g N ⟨s', D, L⟩ a' w → Q .normal a' cs w) → wpOpsSIn F n P ops Q (List.range' k r.length) a cs w
  | [], k, a, s, _, ha, hq, hk => by
    have hq : s' = s := hq
    subst hq
    exact hk a ha
  | o :: r, k, a, s, hops, ha, ⟨v, hg, hd, hq, hrest⟩, hk => by
    rw [List.length_cons, List.range'_succ]
    have ho : ops[k]? = some o := hops 0 o rfl
    have hrun : (execOp a.eval o).run P w = .ok (.value v) w := hq.2 a.eval (fun x u hu => ha.ev hu) w ha.mem
    simp only [wpOpsSIn, ho, Region.wanted, hg, if_true, hrun]
    refine ⟨fun f _ => hF f, ?_⟩
    refine wpOpsSIn_calm hF r (k + 1) _ _ (fun i o' h => ?_) ?_ hrest hk
    · have := hops (i + 1) o' (by simpa using h)
      rwa [show k + 1 + i = k + (i + 1) by omega]
    · have := ha.put hd v
      have e : St.put ⟨s, D, L⟩ o.dst v = ⟨(St.put ⟨s, [], []⟩ o.dst v).s, D, L⟩ := by cases o.dst <;> rfl
      rwa [e] at this
set_option maxHeartbeats 4000000 in
theorem FnD_recover {u u' : FrameMode} {rv : Value} {id : Nat} {o : Oper} {more : List Oper} {rest : Code} {args' : Array Operand} {tys : Array TypeId} {R : FrameMode → List (Nat × Obj) → Prop} (hf : P.funcs[f]? = some fn) (hb : fn.body = some (.seq (.region id (o :: more).toArray false) rest)) (hN : fn.ntmps = N) (hl : Nat.ble args.length N = true)
    (ho : o.op = .call { callee := .builtin .recover, args := args', argTypes := tys }) (hg : o.guard = none) (hd : dok N o.dst = true) (hu : Recov u rv u')
    (h : ∀ g n, ∃ s', QS ⟨P, g, N, n, none⟩ L more (St.put ⟨initS 0 args, [], L⟩ o.dst rv).s s' ∧ WC ⟨P, g, N, n, none⟩ rest (postK ⟨P, g, N, n, none⟩ fn fun _ L' => R u' L') ⟨s', [], L⟩) : FnD P f args L u R := fun g w n hm => by
  refine callsDIn_of_wpSIn hf hb trivial fun c₀ cs hc => wpSIn_seq (wpSIn_region ?_)
  have hH := holds_init (n := fn.ntmps) hN hl hm
  generalize ({ tmps := args.toArray ++ Array.replicate (fn.ntmps - args.toArray.size) undef, defers := [] } : Act) = a at hH ⊢
  have hsem : (execOp a.eval o).run P w = .ok .recover w := by
    simp [execOp, ho, resolve, invoke, Go.builtin]
  obtain ⟨s', hqs, hW⟩ := h g n
  have hput : St.put ⟨initS 0 args, [], L⟩ o.dst rv = ⟨(St.put ⟨initS 0 args, [], L⟩ o.dst rv).s, [], L⟩ := by cases o.dst <;> rfl
  have hrest : ∀ cs', cs' = { c₀ with mode := u' } :: cs → wpOpsSIn Fence.wide n P (o :: more).toArray (Exit.thenS (rest.wpSIn Fence.wide n P (bodyPostS P fn c₀ cs fun e u' w' => ∃ v L', e = .returned v ∧ Mem g L' w' ∧ R u' L')) (bodyPostS P fn c₀ cs fun e u' w' => ∃ v L', e = .returned v ∧ Mem g L' w' ∧ R u' L')) (List.range' 1 more.length) (a.put o.dst rv) cs' w := fun cs' hcs' => by
    have h1 := hH.put hd rv
    rw [hput] at h1
    refine wpOpsSIn_calm (fun _ => trivial) more 1 _ _ (fun i o' h => by simpa [Nat.add_comm] using h) h1 hqs fun a' ha' => ?_
    refine wpSIn_of_wpIn rfl (Go.wpIn_mono (hW a' w ha') fun e a' w' hl => ?_)
    obtain ⟨σ, h1, h2⟩ := hl
    cases e with
    | normal => obtain ⟨h2, v, Lx, h3, hs, h4⟩ := h2; exact ⟨by rw [h1.defers, h2], u', hcs', v, h3 a' w' h1, v, Lx, rfl, h1.mem.sublist hs, h4⟩
    | ret => obtain ⟨h2, v, Lx, h3, hs, h4⟩ := h2; exact ⟨by rw [h1.defers, h2], u', hcs', v, h3 a' w' h1, v, Lx, rfl, h1.mem.sublist hs, h4⟩
    | panic ch => exact h2.elim
    | exit id => exact h2.elim
    | goto l => exact h2.elim
    | outgrown => exact h2.elim
  have hrange : List.range (o :: more).toArray.size = 0 :: List.range' 1 more.length := by
    rw [List.range_eq_range', List.size_toArray, List.length_cons, List.range'_succ]
  rw [hrange]
  simp only [wpOpsSIn, List.getElem?_toArray, List.getElem?_cons_zero, Region.wanted, hg, if_true, hsem]
  refine ⟨fun _ _ => trivial, ?_⟩
  unfold Recov at hu
  split at hu
  · obtain ⟨rfl, rfl⟩ := hu
    have hrec : recoverD (c₀ :: cs) = none := by simp [recoverD, hc]
    rw [hrec]
    exact hrest _ (by rw [← hc])
  · obtain ⟨rfl, rfl⟩ := hu
    have hrec : recoverD (c₀ :: cs) = some (rv, { c₀ with mode := .panicking [{ v := rv, recovered := true }] } :: cs) := by simp [recoverD, hc]
    rw [hrec]
    exact hrest _ rfl
  · exact hu.elim
end
end Go.Proofs.Ytgimodceldoniaa
namespace Go.Proofs.Ytgimodceldoniaa
open Go.RowKit
inductive V where
  | int (k : IntKind) (n : Int)
  | bool (b : Bool)
  | str (s : ByteArray)
  | ptrN
  | ptr (k off : Nat)
  | slN
  | sl (k off len sz : Nat) (ex : Bool)
  | fn (f : Go.Fn) (A B : List V)
  | nilf
  | ifc (t : TypeId) (v : V)
  | nili
  | mapN
  | map (k : Nat)
  | agg (l : List V)
  | tup (l : List V)
  | yld (k : Nat)
abbrev Bs := List (Nat × Nat × Nat)
mutual
inductive RV (bs : Bs) : V → Value → Prop
  | int (k : IntKind) (n : Int) : RV bs (.int k n) (.int k n)
  | bool (b : Bool) : RV bs (.bool b) (.bool b)
  | str (s : ByteArray) : RV bs (.str s) (.string s)
  | ptrN : RV bs .ptrN (.pointer none)
  | ptr {k off b base av : Nat} (h : bs[k]? = some (b, base, av)) : RV bs (.ptr k off) (.pointer (some ⟨b, base + off, none⟩))
  | slN : RV bs .slN (.slice none 0 0)
  | sl {k off len sz b base av off' cap : Nat} {ex : Bool} (hex : ex = true → cap = len) (h : bs[k]? = some (b, base, av)) (h1 : len ≤ cap) (h2 : cap ≤ maxLen) (h3 : off' = base + off ∨ (cap = 0 ∧ off' ≤ base + av)) (h4 : off + cap * sz ≤ av) : RV bs (.sl k off len sz ex) (.slice (some ⟨b, off', none⟩) len cap)
  | fn (f : Go.Fn) {A B : List V} {A' B' : List Value} (hA : RVs bs A A') (hB : RVs bs B B') : RV bs (.fn f A B) (.func f A'.toArray B'.toArray)
  | nilf : RV bs .nilf .nilFunc
  | ifc (t : TypeId) {v : V} {v' : Value} (h : RV bs v v') : RV bs (.ifc t v) (.iface t v')
  | nili : RV bs .nili .nilIface
  | mapN : RV bs .mapN (.map none)
  | map {k b base av : Nat} (h : bs[k]? = some (b, base, av)) : RV bs (.map k) (.map (some b))
  | agg {l : List V} {l' : List Value} (h : RVs bs l l') : RV bs (.agg l) (.agg l'.toArray)
  | tup {l : List V} {l' : List Value} (h : RVs bs l l') : RV bs (.tup l) (.tuple l'.toArray)
  | yld {k b base av : Nat} (h : bs[k]? = some (b, base, av)) : RV bs (.yld k) (.func (.yield b) #[] #[])
inductive RVs (bs : Bs) : List V → List Value → Prop
  | nil : RVs bs [] []
  | cons {v : V} {v' : Value} {l : List V} {l' : List Value} (h : RV bs v v') (hl : RVs bs l l') : RVs bs (v :: l) (v' :: l')
end
theorem RV.sl_inv {bs : Bs} {k off len sz : Nat} {ex : Bool} {v : Value} (h : RV bs (.sl k off len sz ex) v) : ∃ (b base av off' cap : Nat), v = .slice (some ⟨b, off', none⟩) len cap ∧ bs[k]? = some (b, base, av) ∧ len ≤ cap ∧ cap ≤ maxLen ∧ (off' = base + off ∨ (cap = 0 ∧ off' ≤ base + av)) ∧ off + cap * sz ≤ av := by
  cases h with
  | sl hex h h1 h2 h3 h4 => exact ⟨_, _, _, _, _, rfl, h, h1, h2, h3, h4⟩
theorem RV.sl_ex {bs : Bs} {k off len sz : Nat} {b : Option Addr} {n cap : Nat} (h : RV bs (.sl k off len sz true) (.slice b n cap)) : cap = len := by
  cases h with
  | sl hex h h1 h2 h3 h4 => exact hex rfl
theorem RV.ptr_inv {bs : Bs} {k off : Nat} {v : Value} (h : RV bs (.ptr k off) v) : ∃ (b base av : Nat), v = .pointer (some ⟨b, base + off, none⟩) ∧ bs[k]? = some (b, base, av) := by
  cases h with
  | ptr h => exact ⟨_, _, _, rfl, h⟩
theorem bs_mono {bs r : Bs} {k : Nat} {x : Nat × Nat × Nat} (h : bs[k]? = some x) : (bs ++ r)[k]? = some x := by
  rw [List.getElem?_append_left (List.getElem?_eq_some_iff.1 h).1]; exact h
mutual
theorem RV.mono {bs : Bs} (r : Bs) : ∀ {v : V} {v' : Value}, RV bs v v' → RV (bs ++ r) v v'
  | _, _, .int k n => .int k n
  | _, _, .bool b => .bool b
  | _, _, .str s => .str s
  | _, _, .ptrN => .ptrN
  | _, _, .ptr h => .ptr (bs_mono h)
  | _, _, .slN => .slN
  | _, _, .sl hex h h1 h2 h3 h4 => .sl hex (bs_mono h) h1 h2 h3 h4
  | _, _, .fn f hA hB => .fn f (RVs.mono r hA) (RVs.mono r hB)
  | _, _, .nilf => .nilf
  | _, _, .ifc t h => .ifc t (RV.mono r h)
  | _, _, .nili => .nili
  | _, _, .mapN => .mapN
  | _, _, .map h => .map (bs_mono h)
  | _, _, .agg h => .agg (RVs.mono r h)
  | _, _, .tup h => .tup (RVs.mono r h)
  | _, _, .yld h => .yld (bs_mono h)
theorem RVs.mono {bs : Bs} (r : Bs) : ∀ {l : List V} {l' : List Value}, RVs bs l l' → RVs (bs ++ r) l l'
  | _, _, .nil => .nil
  | _, _, .cons h hl => .cons (RV.mono r h) (RVs.mono r hl)
end
theorem RVs.length {bs : Bs} : ∀ {l : List V} {l' : List Value}, RVs bs l l' → l.length = l'.length
  | _, _, .nil => rfl
  | _, _, .cons _ hl => by simp [hl.length]
theorem RVs.get {bs : Bs} : ∀ {l : List V} {l' : List Value}, RVs bs l l' → ∀ {i : Nat} {v : V}, l[i]? = some v → ∃ v', l'[i]? = some v' ∧ RV bs v v'
  | _, _, .nil, _, _, h => by simp at h
  | _, _, .cons h hl, i, v, hi => by
    cases i with
    | zero => simp at hi; subst hi; exact ⟨_, rfl, h⟩
    | succ i => simp only [List.getElem?_cons_succ] at hi ⊢; exact hl.get hi
theorem RVs.take {bs : Bs} : ∀ {l : List V} {l' : List Value}, RVs bs l l' → ∀ n, RVs bs (l.take n) (l'.take n)
  | _, _, .nil, n => by simp; exact .nil
  | _, _, .cons h hl, n => by
    cases n with
    | zero => exact .nil
    | succ n => exact .cons h (hl.take n)
theorem RVs.drop {bs : Bs} : ∀ {l : List V} {l' : List Value}, RVs bs l l' → ∀ n, RVs bs (l.drop n) (l'.drop n)
  | _, _, .nil, n => by simp; exact .nil
  | _, _, .cons h hl, n => by
    cases n with
    | zero => exact .cons h hl
    | succ n => exact hl.drop n
theorem RVs.append {bs : Bs} : ∀ {l : List V} {l' : List Value}, RVs bs l l' → ∀ {m : List V} {m' : List Value}, RVs bs m m' → RVs bs (l ++ m) (l' ++ m')
  | _, _, .nil, _, _, h => h
  | _, _, .cons h hl, _, _, hm => .cons h (hl.append hm)
def V.one : V → Bool
  | .agg _ => false
  | .tup _ => false
  | _ => true
theorem RV.one {bs : Bs} {v : V} {v' : Value} (h : RV bs v v') (h1 : v.one = true) : v'.oneCell' = true := by
  cases h <;> first | rfl | cases h1
def V.ones : List V → Bool
  | [] => true
  | v :: r => match v.one with
    | true => V.ones r
    | false => false
theorem RVs.ones {bs : Bs} : ∀ {l : List V} {l' : List Value}, RVs bs l l' → V.ones l = true → (l'.all fun v => v.oneCell') = true
  | _, _, .nil, _ => rfl
  | _, _, .cons (v := v) h hl, h1 => by
    simp only [V.ones] at h1
    split at h1
    · rename_i h2
      simp only [List.all_cons, Bool.and_eq_true]
      exact ⟨h.one h2, hl.ones h1⟩
    · cases h1
def V.cells : V → List V
  | .agg l => l
  | v => [v]
theorem RV.cells {bs : Bs} {v : V} {v' : Value} (h : RV bs v v') : RVs bs v.cells v'.cells.toList := by
  cases h
  case agg h => simpa [V.cells, Value.cells] using h
  all_goals (simp only [V.cells, Value.cells]; refine .cons ?_ .nil)
  case int => exact .int _ _
  case bool => exact .bool _
  case str => exact .str _
  case ptrN => exact .ptrN
  case ptr h => exact .ptr h
  case slN => exact .slN
  case sl hex h h1 h2 h3 h4 => exact .sl hex h h1 h2 h3 h4
  case fn hA hB => exact .fn _ hA hB
  case nilf => exact .nilf
  case ifc h => exact .ifc _ h
  case nili => exact .nili
  case mapN => exact .mapN
  case map h => exact .map h
  case tup h => exact .tup h
  case yld h => exact .yld h
def V.ofConst1 : Value → Option V
  | .int k n => some (.int k n)
  | .bool b => some (.bool b)
  | .string s => some (.str s)
  | .pointer none => some .ptrN
  | .slice none 0 0 => some .slN
  | .map none => some .mapN
  | .nilFunc => some .nilf
  | .nilIface => some .nili
  | _ => none
def V.ofConsts : List Value → Option (List V)
  | [] => some []
  | v :: r => match V.ofConst1 v, V.ofConsts r with
    | some x, some l => some (x :: l)
    | _, _ => none
def V.ofConst : Value → Option V
  | .agg cs => match V.ofConsts cs.toList with
    | some l => some (.agg l)
    | none => none
  | v => V.ofConst1 v
theorem V.ofConst1_ok {bs : Bs} {v : Value} {x : V} (h : V.ofConst1 v = some x) : RV bs x v := by
  unfold V.ofConst1 at h
  split at h <;> cases h <;> constructor
theorem V.ofConsts_ok {bs : Bs} : ∀ {l : List Value} {x : List V}, V.ofConsts l = some x → RVs bs x l
  | [], _, h => by cases h; exact .nil
  | v :: r, x, h => by
    simp only [V.ofConsts] at h
    split at h
    · rename_i y l h1 h2
      cases h
      exact .cons (V.ofConst1_ok h1) (V.ofConsts_ok h2)
    · cases h
theorem V.ofConst_ok {bs : Bs} {v : Value} {x : V} (h : V.ofConst v = some x) : RV bs x v := by
  unfold V.ofConst at h
  split at h
  · split at h
    · rename_i h1
      cases h
      have := RV.agg (V.ofConsts_ok (bs := bs) h1)
      simpa using this
    · cases h
  · exact V.ofConst1_ok h
structure S where
  new : List (Nat × V)
  old : List (Nat × V)
  mask : Nat
noncomputable def lookL (l : List (Nat × V)) (k : Nat) : Option V := List.rec (motive := fun _ => Option V) none (fun p _ ih => Bool.rec (motive := fun _ => Option V) ih (some p.2) (Nat.beq p.1 k)) l
def bitX (mask k : Nat) : Bool := Nat.beq (Nat.land (Nat.shiftRight mask k) 1) 1
noncomputable def S.get (s : S) (k : Nat) : Option V := S.rec (motive := fun _ => Option V) (fun n o m => Option.rec (motive := fun _ => Option V) (Bool.rec (motive := fun _ => Option V) none (lookL o k) (bitX m k)) some (lookL n k)) s
noncomputable def S.set (s : S) (k : Nat) (v : V) : S := S.rec (motive := fun _ => S) (fun n o m => ⟨(k, v) :: n, o, m⟩) s
noncomputable def updL (l : List (Nat × V)) (k : Nat) (v : V) : List (Nat × V) := List.rec (motive := fun _ => List (Nat × V)) [(k, v)] (fun p r ih => Bool.rec (motive := fun _ => List (Nat × V)) (p :: ih) ((k, v) :: r) (Nat.beq p.1 k)) l
noncomputable def flushL (mask : Nat) (old new : List (Nat × V)) : List (Nat × V) := List.rec (motive := fun _ => List (Nat × V)) old (fun p _ ih => Bool.rec (motive := fun _ => List (Nat × V)) ih (updL ih p.1 p.2) (bitX mask p.1)) new
noncomputable def S.flush (s : S) : S := S.rec (motive := fun _ => S) (fun n o m => ⟨[], flushL m o n, m⟩) s
def argsL : Nat → List V → List (Nat × V)
  | _, [] => []
  | k, v :: r => (k, v) :: argsL (Nat.succ k) r
def S.ofArgs (vs : List V) (mask : Nat) : S := ⟨[], argsL 0 vs, mask⟩
theorem lookL_cons (p : Nat × V) (r : List (Nat × V)) (k : Nat) : lookL (p :: r) k = if p.1 = k then some p.2 else lookL r k := by
  have e : lookL (p :: r) k = Bool.rec (motive := fun _ => Option V) (lookL r k) (some p.2) (Nat.beq p.1 k) := rfl
  rw [e]
  cases h : Nat.beq p.1 k
  · rw [if_neg (Nat.ne_of_beq_eq_false h)]
  · rw [if_pos (Nat.eq_of_beq_eq_true h)]
theorem S.get_def (s : S) (k : Nat) : s.get k = Option.rec (motive := fun _ => Option V) (Bool.rec (motive := fun _ => Option V) none (lookL s.old k) (bitX s.mask k)) some (lookL s.new k) := by cases s; rfl
theorem S.get_eq (s : S) (k : Nat) : s.get k = match lookL s.new k with
    | some v => some v
    | none => if bitX s.mask k = true then lookL s.old k else none := by
  rw [S.get_def]
  cases lookL s.new k with
  | some v => rfl
  | none => cases bitX s.mask k <;> rfl
theorem S.get_set {s : S} {k j : Nat} {v u : V} (h : (s.set k v).get j = some u) : (j = k ∧ v = u) ∨ (j ≠ k ∧ s.get j = some u) := by
  obtain ⟨n, o, m⟩ := s
  rw [S.get_eq] at h
  simp only [S.set, lookL_cons] at h
  by_cases e : k = j
  · rw [if_pos e] at h
    exact .inl ⟨e.symm, Option.some.inj h⟩
  · rw [if_neg e] at h
    exact .inr ⟨Ne.symm e, by rw [S.get_eq]; exact h⟩
theorem lookL_upd (l : List (Nat × V)) (k : Nat) (v : V) (j : Nat) : lookL (updL l k v) j = if k = j then some v else lookL l j := by
  induction l with
  | nil =>
    have e : updL [] k v = [(k, v)] := rfl
    rw [e, lookL_cons]
  | cons p r ih =>
    have e : updL (p :: r) k v = Bool.rec (motive := fun _ => List (Nat × V)) (p :: updL r k v) ((k, v) :: r) (Nat.beq p.1 k) := rfl
    rw [e]
    cases h : Nat.beq p.1 k
    · have hne := Nat.ne_of_beq_eq_false h
      show lookL (p :: updL r k v) j = _
      rw [lookL_cons, ih, lookL_cons]
      by_cases e1 : k = j
      · subst e1; rw [if_neg hne, if_pos rfl, if_pos rfl]
      · rw [if_neg e1, if_neg e1]
    · have heq := Nat.eq_of_beq_eq_true h
      show lookL ((k, v) :: r) j = _
      rw [lookL_cons, lookL_cons, heq]
      by_cases e1 : k = j
      · rw [if_pos e1, if_pos e1]
      · rw [if_neg e1, if_neg e1, if_neg e1]
theorem look_flush (mask : Nat) (old : List (Nat × V)) (k : Nat) (hk : bitX mask k = true) : ∀ new : List (Nat × V), lookL (flushL mask old new) k = match lookL new k with
    | some v => some v
    | none => lookL old k
  | [] => rfl
  | p :: r => by
    have e : flushL mask old (p :: r) = Bool.rec (motive := fun _ => List (Nat × V)) (flushL mask old r) (updL (flushL mask old r) p.1 p.2) (bitX mask p.1) := rfl
    have ih := look_flush mask old k hk r
    rw [e, lookL_cons]
    cases hb : bitX mask p.1
    · have hne : p.1 ≠ k := fun h => by rw [h, hk] at hb; cases hb
      rw [if_neg hne]; exact ih
    · show lookL (updL (flushL mask old r) p.1 p.2) k = _
      rw [lookL_upd]
      by_cases h : p.1 = k
      · rw [if_pos h, if_pos h]
      · rw [if_neg h, if_neg h]; exact ih
theorem S.get_old {s : S} {k : Nat} (h : lookL s.new k = none) (hb : bitX s.mask k = true) : s.get k = lookL s.old k := by
  rw [S.get_def]; rw [h, hb]
theorem S.get_no {s : S} {k : Nat} (h : lookL s.new k = none) (hb : bitX s.mask k = false) : s.get k = none := by
  rw [S.get_def]; rw [h, hb]
theorem S.get_new {s : S} {k : Nat} {v : V} (h : lookL s.new k = some v) : s.get k = some v := by
  rw [S.get_def]; rw [h]
theorem S.get_flush {s : S} {k : Nat} {v : V} (h : s.flush.get k = some v) : s.get k = some v := by
  obtain ⟨n, o, m⟩ := s
  cases hb : bitX m k with
  | false => rw [S.get_no (s := S.flush ⟨n, o, m⟩) rfl hb] at h; cases h
  | true =>
    rw [S.get_old (s := S.flush ⟨n, o, m⟩) rfl hb] at h
    have h1 : lookL (flushL m o n) k = some v := h
    rw [look_flush _ _ _ hb] at h1
    cases hn : lookL n k with
    | some u => rw [hn] at h1; rw [S.get_new (s := ⟨n, o, m⟩) hn]; exact h1
    | none => rw [hn] at h1; rw [S.get_old (s := ⟨n, o, m⟩) hn hb]; exact h1
theorem look_args : ∀ {vs : List V} {k t : Nat} {v : V}, lookL (argsL k vs) t = some v → k ≤ t ∧ vs[t - k]? = some v
  | [], _, _, _, h => by cases h
  | u :: r, k, t, v, h => by
    rw [argsL, lookL_cons] at h
    by_cases e : k = t
    · rw [if_pos e] at h; subst e; simpa using h
    · rw [if_neg e] at h
      obtain ⟨h1, h2⟩ := look_args h
      have h1' : k + 1 ≤ t := h1
      refine ⟨by omega, ?_⟩
      rw [show t - k = (t - (k + 1)) + 1 by omega]
      simpa using h2
theorem S.get_args {vs : List V} {m t : Nat} {v : V} (h : (S.ofArgs vs m).get t = some v) : vs[t]? = some v := by
  cases hb : bitX m t with
  | false => rw [S.get_no (s := S.ofArgs vs m) rfl hb] at h; cases h
  | true =>
    rw [S.get_old (s := S.ofArgs vs m) rfl hb] at h
    have h1 : lookL (argsL 0 vs) t = some v := h
    have := (look_args h1).2; simpa using this
noncomputable section
def CovS (bs : Bs) (s : S) (σs : List (Nat × Value)) : Prop := ∀ t v, s.get t = some v → ∃ v', look σs t = some v' ∧ RV bs v v'
theorem CovS.put {bs : Bs} {s : S} {σs : List (Nat × Value)} (h : CovS bs s σs) {d : Nat} {v : V} {v' : Value} (hv : RV bs v v') : CovS bs (s.set d v) ((d, v') :: σs) := fun t u hu => by
  rw [look_cons]
  rcases S.get_set hu with ⟨rfl, rfl⟩ | ⟨h1, h2⟩
  · rw [if_pos rfl]; exact ⟨_, rfl, hv⟩
  · rw [if_neg (Ne.symm h1)]; exact h t u h2
theorem CovS.mono {bs : Bs} (r : Bs) {s : S} {σs : List (Nat × Value)} (h : CovS bs s σs) : CovS (bs ++ r) s σs := fun t v hv =>
  let ⟨v', h1, h2⟩ := h t v hv; ⟨v', h1, h2.mono r⟩
structure Clo where
  s : S
  ps : List Nat
  assign : Code
  body : Code
  pt : T (Nat × Plan)
  N : Nat
inductive LSt where
  | ready
  | busy
  | done (c : Code)
def LSt.fits : LSt → Loop → Prop
  | .ready, r => r.state = .ready ∧ r.pending = none
  | .busy, r => r.state = .busy
  | .done c, r => r.state = .done ∧ r.pending = some c
inductive O where
  | cells (t : T V) (E : TypeId)
  | text (t : T V)
  | glob (b0 : Nat) (v : Value)
  | map (l : List (V × V))
  | loop (c : Clo) (st : LSt)
  | defer
  | gone
def RMap (bs : Bs) : List (V × V) → List MapEntry → Prop
  | [], es => es = []
  | p :: r, es => ∃ e es', es = e :: es' ∧ RV bs p.1 e.key ∧ RV bs p.2 e.val ∧ RMap bs r es'
theorem RMap.mono {bs : Bs} (r : Bs) : ∀ {l : List (V × V)} {es : List MapEntry}, RMap bs l es → RMap (bs ++ r) l es
  | [], _, h => h
  | _ :: _, _, ⟨e, es', h1, h2, h3, h4⟩ => ⟨e, es', h1, h2.mono r, h3.mono r, RMap.mono r h4⟩
def RO (bs : Bs) (b base av : Nat) : O → Obj → Prop
  | .cells t E, o => ∃ cs, o = .cells cs E (0, 0) ∧ base + av ≤ cs.size ∧ ∀ i v, t.get i = some v → i < av ∧ ∃ v', cs[base + i]? = some v' ∧ RV bs v v'
  | .text t, o => ∃ cs E fr, o = .cells cs E fr ∧ base + av ≤ cs.size ∧ ∀ i v, t.get i = some v → i < av ∧ ∃ v', cs[base + i]? = some v' ∧ RV bs v v'
  | .map l, o => ∃ es cl, o = .map es cl ∧ RMap bs l es.toList
  | .loop c st, o => ∃ rec σs, o = .loop rec ∧ rec.params = c.ps.toArray ∧ rec.assign = c.assign ∧ rec.body = c.body ∧ c.N ≤ rec.tmps.size ∧ CovS bs c.s σs ∧ (∀ t v, look σs t = some v → rec.tmps.getD t undef = v) ∧ st.fits rec
  | .defer, o => o = .deferred (some [])
  | .glob b0 v, o => b = b0 ∧ ∃ cs E fr, o = .cells cs E fr ∧ cs[0]? = some v
  | .gone, _ => True
theorem RO.mono {bs : Bs} (r : Bs) {b base av : Nat} {o : O} {o' : Obj} (h : RO bs b base av o o') : RO (bs ++ r) b base av o o' := by
  cases o with
  | cells t E =>
    obtain ⟨cs, h1, h2, h3⟩ := h
    exact ⟨cs, h1, h2, fun i v hv => let ⟨h4, v', h5, h6⟩ := h3 i v hv; ⟨h4, v', h5, h6.mono r⟩⟩
  | text t =>
    obtain ⟨cs, E, fr, h1, h2, h3⟩ := h
    exact ⟨cs, E, fr, h1, h2, fun i v hv => let ⟨h4, v', h5, h6⟩ := h3 i v hv; ⟨h4, v', h5, h6.mono r⟩⟩
  | map l =>
    obtain ⟨es, cl, h1, h2⟩ := h
    exact ⟨es, cl, h1, h2.mono r⟩
  | loop c st =>
    obtain ⟨rec, σs, h1, h2, h3, h4, h5, h6, h7⟩ := h
    exact ⟨rec, σs, h1, h2, h3, h4, h5, h6.mono r, h7⟩
  | defer => exact h
  | glob b0 v => exact h
  | gone => trivial
def rdX : Option O → Option (T V)
  | some (.cells t _) => some t
  | some (.text t) => some t
  | _ => none
theorem rdX_ok {bs : Bs} {b base av : Nat} {x : Option O} {t : T V} (h : rdX x = some t) : ∃ o, x = some o ∧ ∀ {o' : Obj}, RO bs b base av o o' → ∃ cs E fr, o' = .cells cs E fr ∧ base + av ≤ cs.size ∧ ∀ i v, t.get i = some v → i < av ∧ ∃ v', cs[base + i]? = some v' ∧ RV bs v v' := by
  unfold rdX at h
  split at h
  · cases h; exact ⟨_, rfl, fun ⟨cs, h1, h2, h3⟩ => ⟨cs, _, _, h1, h2, h3⟩⟩
  · cases h; exact ⟨_, rfl, fun h => h⟩
  · cases h
def At (bs : Bs) (M : List (Nat × Obj)) (k : Nat) (o : O) : Prop := ∃ (b base av i : Nat) (o' : Obj), bs[k]? = some (b, base, av) ∧ M[i]? = some (b, o') ∧ RO bs b base av o o'
def evX (s : S) : Operand → Option V
  | .tmp t => s.get t
  | .const v => V.ofConst v
  | .func f => some (.fn (.func f) [] [])
  | .global _ => none
theorem evX_ok {bs : Bs} {s : S} {σs : List (Nat × Value)} (hs : CovS bs s σs) {x : Operand} {v : V} (h : evX s x = some v) : ∃ v', ev σs x = some v' ∧ RV bs v v' := by
  cases x with
  | tmp t => exact hs t v h
  | const u => exact ⟨u, rfl, V.ofConst_ok h⟩
  | func f => cases h; exact ⟨_, rfl, .fn _ .nil .nil⟩
  | global g => cases h
def evsX (s : S) : List Operand → Option (List V)
  | [] => some []
  | x :: r => match evX s x, evsX s r with
    | some v, some l => some (v :: l)
    | _, _ => none
theorem evsX_ok {bs : Bs} {s : S} {σs : List (Nat × Value)} (hs : CovS bs s σs) : ∀ {xs : List Operand} {l : List V}, evsX s xs = some l → ∃ l', evs σs xs = some l' ∧ RVs bs l l'
  | [], _, h => by cases h; exact ⟨[], rfl, .nil⟩
  | x :: r, l, h => by
    simp only [evsX] at h
    split at h
    · rename_i v l h1 h2
      cases h
      obtain ⟨v', h3, h4⟩ := evX_ok hs h1
      obtain ⟨l', h5, h6⟩ := evsX_ok hs h2
      exact ⟨v' :: l', by simp [evs, h3, h5], .cons h4 h6⟩
    · cases h
end
end Go.Proofs.Ytgimodceldoniaa
namespace Go.Proofs.Ytgimodceldoniaa
open Go.RowKit
noncomputable section
section
variable {P : Program}
def sizeX (P : Program) (t : TypeId) : Option Nat := match P.info? t with
  | some i => some i.size
  | none => none
theorem sizeX_ok {t n : Nat} (h : sizeX P t = some n) : TSize P t n := ⟨fun w => by
  unfold sizeX at h
  split at h
  · rename_i i hi; cases h; simp [sizeOf, typeInfo, hi]
  · cases h⟩
def aggX (P : Program) (t : TypeId) : Option Bool := match P.underlying t with
  | some (.struct _) => some true
  | some (.array _ _) => some true
  | some _ => some false
  | none => none
theorem aggX_ok {t : Nat} {b : Bool} (h : aggX P t = some b) : TAgg P t b := ⟨fun w => by
  unfold aggX at h
  split at h
  · rename_i hu; cases h; simp [isAgg, run_underlying hu]
  · rename_i hu; cases h; simp [isAgg, run_underlying hu]
  · rename_i d h1 h2 hu
    cases h
    simp only [isAgg, Sem.run_bind, run_underlying hu]
    cases d <;> first | rfl | exact absurd rfl (h1 _) | exact absurd rfl (h2 _ _)
  · cases h⟩
def fieldX (P : Program) (t i : Nat) : Option (Nat × TypeId × Nat) := match P.underlying t with
  | some (.struct fs) => match fs.toList[i]? with
    | some f => match sizeX P f.type with
      | some n => some (f.offset, f.type, n)
      | none => none
    | none => none
  | _ => none
theorem fieldX_ok {t i off ft n : Nat} (h : fieldX P t i = some (off, ft, n)) : ∃ fs f, P.underlying t = some (.struct fs) ∧ fs[i]? = some f ∧ f.offset = off ∧ f.type = ft ∧ (∀ w, (sizeOf ft).run P w = .ok n w) := by
  unfold fieldX at h
  split at h
  · rename_i fs hu
    split at h
    · rename_i f hf
      split at h
      · rename_i m hm
        cases h
        exact ⟨fs, f, hu, by simpa using hf, rfl, rfl, (sizeX_ok hm).h⟩
      · cases h
    · cases h
  · cases h
def V.scal : V → Option Value
  | .int k n => some (.int k n)
  | .bool b => some (.bool b)
  | .str s => some (.string s)
  | _ => none
theorem V.scal_ok {bs : Bs} {v : V} {v' u : Value} (h : RV bs v v') (hs : v.scal = some u) : v' = u := by
  cases h <;> cases hs <;> rfl
def binW (P : Program) (op : BinOp) (t : TypeId) (x y : Value) : Option Value :=
  match x, y with
  | .int k a, .int k' b =>
    match op with
    | .shl => if 0 ≤ b then some (.int k (k.wrap (a * 2 ^ (min b.toNat k.bits)))) else none
    | .shr => if 0 ≤ b then some (.int k (a.fdiv (2 ^ (min b.toNat k.bits)))) else none
    | _ => if k = k' then
      match op with
      | .add => some (.int k (k.wrap (a + b)))
      | .sub => some (.int k (k.wrap (a - b)))
      | .mul => some (.int k (k.wrap (a * b)))
      | .quo => if b = 0 then none else some (.int k (k.wrap (a.tdiv b)))
      | .rem => if b = 0 then none else some (.int k (a.tmod b))
      | .and => some (.int k (k.wrap (BitVec.ofInt k.bits a &&& BitVec.ofInt k.bits b).toNat))
      | .or => some (.int k (k.wrap (BitVec.ofInt k.bits a ||| BitVec.ofInt k.bits b).toNat))
      | .xor => some (.int k (k.wrap (BitVec.ofInt k.bits a ^^^ BitVec.ofInt k.bits b).toNat))
      | .andNot => some (.int k (k.wrap (BitVec.ofInt k.bits a &&& ~~~(BitVec.ofInt k.bits b)).toNat))
      | .eql => some (.bool (a == b))
      | .neq => some (.bool (a != b))
      | .lss => some (.bool (decide (a < b)))
      | .leq => some (.bool (decide (a ≤ b)))
      | .gtr => some (.bool (decide (a > b)))
      | .geq => some (.bool (decide (a ≥ b)))
      | _ => none
      else none
  | .bool a, .bool b => match P.underlying t with
    | some .bool => match op with
      | .eql => some (.bool (a == b))
      | .neq => some (.bool (a != b))
      | _ => none
    | _ => none
  | .string a, .string b => match op with
    | .add => if ((a.size + b.size : Nat) : Int) > IntKind.i64.max then none else some (.string (a ++ b))
    | .eql => some (.bool (a.toList == b.toList))
    | .neq => some (.bool !(a.toList == b.toList))
    | .lss => some (.bool (Op.bytesLess a.toList b.toList))
    | .geq => some (.bool !(Op.bytesLess a.toList b.toList))
    | .leq => some (.bool (Op.bytesLess a.toList b.toList || a.toList == b.toList))
    | .gtr => some (.bool !(Op.bytesLess a.toList b.toList || a.toList == b.toList))
    | _ => none
  | _, _ => none
theorem binW_run {op : BinOp} {t : TypeId} {x y v : Value} (X Y : Operand) (h : binW P op t x y = some v) (w : World) : (eqGuard op t X Y x y).run P w = .ok () w ∧ (binOp op t x y).run P w = .ok v w := by
  unfold binW at h
  split at h
  · rename_i k a k' b
    split at h
    · split at h
      · rename_i hb; cases h
        simp [eqGuard, binOp, Op.shift, show ¬ b < 0 by omega]
      · cases h
    · split at h
      · rename_i hb; cases h
        simp [eqGuard, binOp, Op.shift, show ¬ b < 0 by omega]
      · cases h
    · split at h
      · rename_i h1 h2 hk
        subst hk
        split at h
        all_goals first
          | (cases h; done)
          | (cases h; simp [eqGuard, binOp, Op.intArith, Op.intCmp, Op.intBits]; done)
          | (split at h
             · cases h
             · rename_i hb; cases h; simp [eqGuard, binOp, Op.intDiv, hb])
      · cases h
  · rename_i a b
    split at h
    · rename_i hu
      split at h
      · cases h; simp [eqGuard, run_eql_bool w t a b hu]
      · cases h; simp [eqGuard, run_neq_bool w t a b hu, bne]
      · cases h
    · cases h
  · split at h
    all_goals first
      | (cases h; done)
      | (cases h; simp [eqGuard, binOp, Op.stringOp]; done)
      | (split at h
         · cases h
         · rename_i hb; cases h; rw [show IntKind.i64.max = 9223372036854775807 from rfl] at hb; simp [eqGuard, binOp, Op.stringOp]; omega)
  · cases h
end
section
variable {c : Cx} {s : List (Nat × Value)} {L : List (Nat × Obj)} {o : Oper}
theorem Qt_binW {op : BinOp} {t t' : TypeId} {x y : Operand} {a b v : Value} (ho : o.op = .binOp op t x y t') (hx : ev s x = some a) (hy : ev s y = some b) (hv : binW c.P op t a b = some v) : Qt c s L o v :=
  ⟨(fun cc => by simp [ho]), fun ρ hρ w _ => by
    obtain ⟨h1, h2⟩ := binW_run (P := c.P) (t := t) x y hv w
    simp [execOp, ho, hρ x _ hx, hρ y _ hy, h1, h2]⟩
theorem Qt_of_run {v : Value} (hd : ∀ cc, o.op ≠ .defer cc) (h : ∀ ρ : Operand → Value, (∀ x u, ev s x = some u → ρ x = u) → ∀ w, Mem c.g L w → (execOp ρ o).run c.P w = .ok (.value v) w) : Qt c s L o v := ⟨hd, h⟩
end
def cellsX (t : T V) : Nat → Nat → Option (List V)
  | 0, _ => some []
  | n + 1, off => match t.get off, cellsX t n (Nat.succ off) with
    | some v, some l => some (v :: l)
    | _, _ => none
theorem cellsX_ok {bs : Bs} {base av : Nat} {cs : Array Value} {t : T V} (h3 : ∀ i v, t.get i = some v → i < av ∧ ∃ v', cs[base + i]? = some v' ∧ RV bs v v') : ∀ (n off : Nat) (l : List V), cellsX t n off = some l → ∃ l', RVs bs l l' ∧ l'.length = n ∧ (∀ j, j < n → cs[base + off + j]? = l'[j]?) ∧ (n = 0 ∨ off + n ≤ av)
  | 0, off, l, h => by cases h; exact ⟨[], .nil, rfl, (fun j hj => by omega), .inl rfl⟩
  | n + 1, off, l, h => by
    simp only [cellsX] at h
    split at h
    · rename_i v l1 h1 h2
      cases h
      obtain ⟨l', e1, e2, e3, e4⟩ := cellsX_ok h3 n (Nat.succ off) l1 h2
      obtain ⟨f1, v', f2, f3⟩ := h3 off v h1
      refine ⟨v' :: l', .cons f3 e1, by simp [e2], fun j hj => ?_, .inr ?_⟩
      · cases j with
        | zero => simpa using f2
        | succ j =>
          rw [List.getElem?_cons_succ, ← e3 j (by omega)]
          congr 1; omega
      · omega
    · cases h
theorem extract_of_get {cs : Array Value} {a n : Nat} {l' : List Value} (hl : l'.length = n) (hb : a + n ≤ cs.size) (h : ∀ j, j < n → cs[a + j]? = l'[j]?) : cs.extract a (a + n) = l'.toArray := by
  apply Array.ext_getElem?
  intro j
  rw [Array.getElem?_extract]
  by_cases hj : j < n
  · rw [if_pos (by omega), h j hj]; simp
  · rw [if_neg (by omega)]
    simp; omega
def loadX (P : Program) (h : T O) (t : TypeId) : Option V → Option (V × Option Nat)
  | some (.ptr k off) => match rdX (h.get k) with
    | some c => match aggX P t with
      | some false => match c.get off with
        | some v => some (v, some k)
        | none => none
      | some true => match sizeX P t with
        | some (n + 1) => match cellsX c (n + 1) off with
          | some l => some (.agg l, some k)
          | none => none
        | _ => none
      | none => none
    | none => none
  | _ => none
section
variable {c : Cx} {bs : Bs} {σs : List (Nat × Value)} {Ls : List (Nat × Obj)} {o : Oper}
theorem loadX_ok {s : S} {h : T O} {t : TypeId} {x : Operand} {v : V} {rd : Option Nat} (ho : o.op = .load t x) (hc : loadX c.P h t (evX s x) = some (v, rd)) (hs : CovS bs s σs) (hm : ∀ k ob, rd = some k → h.get k = some ob → At bs Ls k ob) : ∃ v', Qt c σs Ls o v' ∧ RV bs v v' := by
  generalize hx : evX s x = e at hc
  unfold loadX at hc
  split at hc
  · rename_i k off
    obtain ⟨p, hp, hr⟩ := evX_ok hs hx
    cases hr
    rename_i b base av hk
    split at hc
    · rename_i cc hb
      obtain ⟨ob, hob, hrd⟩ := rdX_ok (bs := bs) (base := base) (av := av) hb
      have hk2 : ∀ rd' : Option Nat, rd' = some k → rd = rd' → At bs Ls k ob := fun rd' e1 e2 => hm k _ (by rw [e2, e1]) hob
      split at hc
      · rename_i ha
        split at hc
        · rename_i u hu
          cases hc
          obtain ⟨b', base', av', i, o', a1, a2, aRO⟩ := hk2 _ rfl rfl
          rw [hk] at a1; cases a1
          obtain ⟨cs, E, fr, rfl, a3, a4⟩ := hrd aRO
          obtain ⟨_, v', a5, a6⟩ := a4 off _ hu
          haveI := aggX_ok ha
          exact ⟨v', Qt_load1 ho hp i a2 a5, a6⟩
        · cases hc
      · rename_i ha
        split at hc
        · rename_i n hn
          split at hc
          · rename_i l hl
            cases hc
            obtain ⟨b', base', av', i, o', a1, a2, aRO⟩ := hk2 _ rfl rfl
            rw [hk] at a1; cases a1
            obtain ⟨cs, E, fr, rfl, a3, a4⟩ := hrd aRO
            obtain ⟨l', e1, e2, e3, e4⟩ := cellsX_ok a4 (n + 1) off l hl
            haveI := aggX_ok ha
            haveI := sizeX_ok hn
            have hb2 : base + off + (n + 1) ≤ cs.size := by omega
            have hq := Qt_loadN (c := c) (s := σs) (L := Ls) (o := o) (t := t) (n := n + 1) ho hp i a2 hb2
            rw [extract_of_get e2 hb2 e3] at hq
            exact ⟨_, hq, .agg e1⟩
          · cases hc
        · cases hc
      · cases hc
    · cases hc
  · cases hc
def pickX : Option V → Option V → Option V → Option V
  | some (.bool true), some u, some _ => some u
  | some (.bool false), some _, some v => some v
  | _, _, _ => none
theorem pickX_ok {s : S} {x y z : Operand} {v : V} (ho : o.op = .pick x y z) (hc : pickX (evX s x) (evX s y) (evX s z) = some v) (hs : CovS bs s σs) : ∃ v', Qt c σs Ls o v' ∧ RV bs v v' := by
  generalize hx : evX s x = e1 at hc
  generalize hy : evX s y = e2 at hc
  generalize hz : evX s z = e3 at hc
  unfold pickX at hc
  split at hc
  · cases hc
    obtain ⟨_, h1, h2⟩ := evX_ok hs hx; cases h2
    obtain ⟨u, h3, h4⟩ := evX_ok hs hy
    obtain ⟨_, h5, _⟩ := evX_ok hs hz
    exact ⟨u, Qt_pick_true ho h1 h3 h5 rfl, h4⟩
  · cases hc
    obtain ⟨_, h1, h2⟩ := evX_ok hs hx; cases h2
    obtain ⟨_, h3, _⟩ := evX_ok hs hy
    obtain ⟨u, h5, h4⟩ := evX_ok hs hz
    exact ⟨u, Qt_pick_false ho h1 h3 h5 rfl, h4⟩
  · cases hc
def nilX : Option V → Option V
  | some (.ptr k off) => some (.ptr k off)
  | some (.fn (.func f) A B) => some (.fn (.func f) A B)
  | _ => none
theorem nilX_ok {s : S} {x : Operand} {v : V} (ho : o.op = .nilCheck x) (hc : nilX (evX s x) = some v) (hs : CovS bs s σs) : ∃ v', Qt c σs Ls o v' ∧ RV bs v v' := by
  generalize hx : evX s x = e1 at hc
  unfold nilX at hc
  split at hc
  · cases hc
    obtain ⟨_, h1, h2⟩ := evX_ok hs hx
    have h3 := h2
    cases h2
    exact ⟨_, Qt_nilCheck ho h1, h3⟩
  · cases hc
    obtain ⟨_, h1, h2⟩ := evX_ok hs hx
    have h3 := h2
    cases h2
    exact ⟨_, Qt_nilCheck_fn ho h1, h3⟩
  · cases hc
def fieldAddrX (P : Program) (t i : Nat) : Option V → Option V
  | some (.ptr k off) => match fieldX P t i with
    | some (o, _, _ + 1) => some (.ptr k (Nat.add off o))
    | _ => none
  | _ => none
theorem fieldAddrX_ok {s : S} {t i : Nat} {x : Operand} {v : V} (ho : o.op = .fieldAddr t x i) (hc : fieldAddrX c.P t i (evX s x) = some v) (hs : CovS bs s σs) : ∃ v', Qt c σs Ls o v' ∧ RV bs v v' := by
  generalize hx : evX s x = e1 at hc
  unfold fieldAddrX at hc
  split at hc
  · rename_i k off
    split at hc
    · rename_i o1 ft n hf
      cases hc
      obtain ⟨_, h1, h2⟩ := evX_ok hs hx
      cases h2
      rename_i b base av hk
      obtain ⟨fs, f, e1, e2, e3, e4, e5⟩ := fieldX_ok hf
      haveI : TFld c.P t i o1 ft (n + 1) := ⟨⟨fs, f, e1, e2, e3, e4, e5, by simp⟩⟩
      refine ⟨_, Qt_fieldAddr (n := n + 1) ho h1, ?_⟩
      rw [Nat.add_assoc]
      exact .ptr hk
    · cases hc
  · cases hc
def partX (P : Program) (ft off n : Nat) (l : List V) : Option V := match aggX P ft with
  | some true => some (.agg ((l.drop off).take n))
  | some false => l[off]?
  | none => none
theorem part_run {P : Program} {ft off n : Nat} {l : List V} {l' : List Value} {v : V} (h : partX P ft off n l = some v) (hn : ∀ w, (sizeOf ft).run P w = .ok n w) (hl : RVs bs l l') : ∃ v', (∀ w, (part ft l'.toArray off).run P w = .ok v' w) ∧ RV bs v v' := by
  unfold partX at h
  split at h
  · rename_i ha
    cases h
    refine ⟨.agg ((l'.drop off).take n).toArray, fun w => ?_, .agg ((hl.drop off).take n)⟩
    have := (aggX_ok ha).h w
    simp [part, this, hn]
  · rename_i ha
    obtain ⟨v', h1, h2⟩ := hl.get h
    refine ⟨v', fun w => ?_, h2⟩
    have := (aggX_ok ha).h w
    simp [part, this, h1]
  · cases h
def fieldVX (P : Program) (t i : Nat) : Option V → Option V
  | some (.agg l) => match fieldX P t i with
    | some (off, ft, n) => partX P ft off n l
    | none => none
  | _ => none
theorem fieldVX_ok {s : S} {t i : Nat} {x : Operand} {v : V} (ho : o.op = .field t x i) (hc : fieldVX c.P t i (evX s x) = some v) (hs : CovS bs s σs) : ∃ v', Qt c σs Ls o v' ∧ RV bs v v' := by
  generalize hx : evX s x = e1 at hc
  unfold fieldVX at hc
  split at hc
  · split at hc
    · rename_i l o1 ft n hf
      obtain ⟨_, h1, h2⟩ := evX_ok hs hx
      cases h2
      rename_i l' hl
      obtain ⟨fs, f, e1, e2, e3, e4, e5⟩ := fieldX_ok hf
      subst e3 e4
      obtain ⟨v', h3, h4⟩ := part_run hc e5 hl
      refine ⟨v', Qt_of_run (by simp [ho]) (fun ρ hρ w _ => ?_), h4⟩
      simp [execOp, ho, hρ x _ h1, Instr.field, run_underlying e1, e2, asAgg, h3]
    · cases hc
  · cases hc
def indexAddrX (P : Program) (t : Nat) : Option V → Option V → Option V
  | some (.ptr k off), some (.int _ i) => match P.underlying t with
    | some (.array len E) => match sizeX P E with
      | some n => match i with
        | .ofNat j => match Nat.blt j len with
          | true => some (.ptr k (Nat.add off (Nat.mul j n)))
          | false => none
        | _ => none
      | none => none
    | _ => none
  | some (.sl k off len _ _), some (.int _ i) => match P.underlying t with
    | some (.slice E) => match sizeX P E with
      | some n => match i with
        | .ofNat j => match Nat.blt j len with
          | true => some (.ptr k (Nat.add off (Nat.mul j n)))
          | false => none
        | _ => none
      | none => none
    | _ => none
  | _, _ => none
theorem indexAddrX_ok {s : S} {t : Nat} {x y : Operand} {v : V} (ho : o.op = .indexAddr t x y) (hc : indexAddrX c.P t (evX s x) (evX s y) = some v) (hs : CovS bs s σs) : ∃ v', Qt c σs Ls o v' ∧ RV bs v v' := by
  generalize hx : evX s x = e1 at hc
  generalize hy : evX s y = e2 at hc
  unfold indexAddrX at hc
  split at hc
  · rename_i k off kk i
    split at hc
    · rename_i len E hu
      split at hc
      · rename_i n hn
        split at hc
        · rename_i j
          split at hc
          · rename_i hj
            cases hc
            obtain ⟨_, h1, h2⟩ := evX_ok hs hx; cases h2
            obtain ⟨_, h3, h4⟩ := evX_ok hs hy; cases h4
            rename_i b base av hk
            haveI : TUnd c.P t (.array len E) := ⟨hu⟩
            haveI := sizeX_ok hn
            have hlt : j < len := by rwa [Nat.blt_eq] at hj
            refine ⟨_, Qt_indexArr (n := n) ho h1 h3 (by simp) (by simp; omega), ?_⟩
            rw [Nat.add_assoc]
            exact .ptr hk
          · cases hc
        · cases hc
      · cases hc
    · cases hc
  · rename_i k off len sz ex kk i
    split at hc
    · rename_i E hu
      split at hc
      · rename_i n hn
        split at hc
        · rename_i j
          split at hc
          · rename_i hj
            cases hc
            obtain ⟨_, h1, h2⟩ := evX_ok hs hx
            obtain ⟨_, h3, h4⟩ := evX_ok hs hy; cases h4
            obtain ⟨b, base, av, off', cap, rfl, hk, q1, q2, q3, q4⟩ := h2.sl_inv
            haveI : TUnd c.P t (.slice E) := ⟨hu⟩
            haveI := sizeX_ok hn
            have hlt : j < len := by rwa [Nat.blt_eq] at hj
            obtain rfl : off' = base + off := by omega
            refine ⟨_, Qt_indexSl (n := n) ho h1 h3 (by simp) (by simp; omega), ?_⟩
            rw [Nat.add_assoc]
            exact .ptr hk
          · cases hc
        · cases hc
      · cases hc
    · cases hc
  · cases hc
def indexX (P : Program) (t : Nat) : Option V → Option V → Option V
  | some (.agg l), some (.int _ (.ofNat j)) => match P.underlying t with
    | some (.array len E) => match sizeX P E with
      | some n => match Nat.blt j len with
        | true => partX P E (Nat.mul j n) n l
        | false => none
      | none => none
    | _ => none
  | some (.str b), some (.int _ (.ofNat j)) => match P.underlying t with
    | some .string => match b[j]? with
      | some u => some (.int .u8 u.toNat)
      | none => none
    | _ => none
  | _, _ => none
theorem indexX_ok {s : S} {t : Nat} {x y : Operand} {v : V} (ho : o.op = .index t x y) (hc : indexX c.P t (evX s x) (evX s y) = some v) (hs : CovS bs s σs) : ∃ v', Qt c σs Ls o v' ∧ RV bs v v' := by
  generalize hx : evX s x = e1 at hc
  generalize hy : evX s y = e2 at hc
  unfold indexX at hc
  split at hc
  · rename_i l kk j
    split at hc
    · rename_i len E hu
      split at hc
      · rename_i n hn
        split at hc
        · rename_i hj
          have hlt : j < len := by rwa [Nat.blt_eq] at hj
          obtain ⟨_, h1, h2⟩ := evX_ok hs hx; cases h2
          obtain ⟨_, h3, h4⟩ := evX_ok hs hy; cases h4
          rename_i l' hl
          obtain ⟨v', h5, h6⟩ := part_run hc (sizeX_ok hn).h hl
          refine ⟨v', Qt_of_run (by simp [ho]) (fun ρ hρ w _ => ?_), h6⟩
          have h7 := h5 w
          rw [show Nat.mul j n = j * n from rfl] at h7
          simp [execOp, ho, hρ x _ h1, hρ y _ h3, Instr.index, asIntOf, run_underlying hu, (sizeX_ok hn).h, hlt, h7]
        · cases hc
      · cases hc
    · cases hc
  · rename_i b kk j
    split at hc
    · rename_i hu
      split at hc
      · rename_i u hb
        cases hc
        obtain ⟨_, h1, h2⟩ := evX_ok hs hx; cases h2
        obtain ⟨_, h3, h4⟩ := evX_ok hs hy; cases h4
        refine ⟨_, Qt_of_run (by simp [ho]) (fun ρ hρ w _ => ?_), .int .u8 u.toNat⟩
        simp [execOp, ho, hρ x _ h1, hρ y _ h3, Instr.index, asIntOf, run_underlying hu, hb]
      · cases hc
    · cases hc
  · cases hc
end
end
end Go.Proofs.Ytgimodceldoniaa
