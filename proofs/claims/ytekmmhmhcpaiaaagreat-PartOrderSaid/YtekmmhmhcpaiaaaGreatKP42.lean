/-
  A part of what the last of these texts needs; by itself it proves no statement.
-/
import Derived.Test.YtekmmhmhcpaiaaaGreatKP41
namespace Go.Proofs.YtekmmhmhcpaiaaaGreat
theorem massW_nil (M : Nat) : massW M [] = 0 := rfl
theorem fallsC_mass {c : PtV} {d : Int} {S S' : List EnV} {o : List OutV} (h : FallsC c d S S' o) : massW c.rs.length S' ≤ massW c.rs.length S := by
  induction h with
  | done _ p => rw [massW_perm p]; exact Nat.le_refl _
  | @step S S1 S' e o p _ _ _ ih =>
    have h1 := massW_lays c.rs.length (rC c) (caC c e) S1
    have h2 := mass_ca c e
    rw [massW_perm p, massW_cons]
    omega
theorem outC_mass {c : PtV} {e : EnV} (hn : 0 < e.ac.n) : (outC c e).length + massW c.rs.length (caC c e) ≤ wtW c.rs.length e := by
  by_cases hc : c.cls = 1
  · rw [outC_win hc, caC_win hc]
    cases hg : goesW c e
    · have h1 : outW c e = [⟨e.key, dueW c e - 1, (resA e.ac (c.op e.ver).2.2.2).1, !(resA e.ac (c.op e.ver).2.2.2).2⟩] := by unfold outW; rw [hg, if_neg Bool.false_ne_true]
      have h2 : caW c e = [] := by unfold caW; rw [hg, if_neg Bool.false_ne_true]
      rw [h1, h2, massW_nil]
      have : 1 ≤ e.ac.n.toNat * 4 ^ (c.rs.length - e.ver) := Nat.mul_pos (by omega) (Nat.pow_pos (by decide))
      unfold wtW
      simp only [List.length_cons, List.length_nil]
      omega
    · have h1 : outW c e = [] := by unfold outW; rw [hg, if_pos rfl]
      rw [h1]
      have := massW_ca c e
      simp only [List.length_nil]
      omega
  · rw [outC_join hc, caC_join hc, massW_nil]
    exact Nat.zero_le _
theorem fallsC_olen {c : PtV} (hk : PtOk c) {d : Int} {S S' : List EnV} {o : List OutV} (h : FallsC c d S S' o) : LsOk c S → o.length + massW c.rs.length S' ≤ massW c.rs.length S := by
  induction h with
  | done _ p => intro _; rw [massW_perm p]; simp
  | @step S S1 S' e o p _ _ _ ih =>
    intro hl
    have hl2 := hl.perm p
    have h0 := ih (LsOk.fall hk hl2)
    have h1 := massW_lays c.rs.length (rC c) (caC c e) S1
    have h2 := outC_mass (c := c) (hl2.en e (.head _)).n0
    rw [massW_perm p, massW_cons, List.length_append]
    omega
theorem putE_mass {c : PtV} (hM : c.rs.length ≤ 4) (r : RcV) : massW c.rs.length (putE c r) ≤ 1024 := by
  have h4 : ∀ v : Nat, 4 ^ (c.rs.length - v) ≤ 256 := fun v => Nat.le_trans (Nat.pow_le_pow_right (by decide) (show c.rs.length - v ≤ 4 by omega)) (by decide)
  unfold putE
  split
  · have := massW_its c.rs.length c (c.ver r.t) r.key r.t (oneA r.val)
    have h := h4 (c.ver r.t)
    have e : (oneA r.val).n.toNat = 1 := rfl
    rw [e, Nat.one_mul] at this
    omega
  · have h := h4 (c.ver r.t)
    rw [massW_cons, massW_nil]
    show 1 * 4 ^ (c.rs.length - c.ver r.t) + 0 ≤ 1024
    omega
theorem puts_mass {c : PtV} (hM : c.rs.length ≤ 4) : ∀ (P : List RcV) (S : List EnV), massW c.rs.length (putsS c P S) ≤ 1024 * P.length + massW c.rs.length S
  | [], S => by simp [putsS]
  | r :: P, S => by
    have h1 := puts_mass hM P (putS c r S)
    have h2 := massW_lays c.rs.length (rC c) (putE c r) S
    have h3 := putE_mass hM r
    rw [putsS, List.length_cons]
    have h4 : massW c.rs.length (putS c r S) ≤ massW c.rs.length (putE c r) + massW c.rs.length S := h2
    omega
theorem puts_ok {c : PtV} (hM : c.rs.length ≤ 4) : ∀ (P : List RcV) {S : List EnV}, (∀ r ∈ P, RcOk r) → LsOk c S → 1024 * P.length + massW c.rs.length S ≤ 99999 → LsOk c (putsS c P S)
  | [], _, _, h, _ => h
  | r :: P, S, hr, h, hm => by
    have h2 := massW_lays c.rs.length (rC c) (putE c r) S
    have h3 := putE_mass hM r
    have h4 : massW c.rs.length (putS c r S) ≤ massW c.rs.length (putE c r) + massW c.rs.length S := h2
    rw [List.length_cons] at hm
    exact puts_ok hM P (fun x hx => hr x (.tail _ hx)) (h.put (hr r (.head _)) (by omega)) (by omega)
theorem putsO_len {c : PtV} (N : Nat) : ∀ (P : List RcV) (S : List EnV), P.length + S.length ≤ N → (putsO c P S).length ≤ P.length * N
  | [], _, _ => Nat.zero_le _
  | r :: P, S, h => by
    rw [List.length_cons] at h
    rw [putsO, List.length_append, List.length_cons, Nat.succ_mul]
    by_cases hc : c.cls = 1
    · have h0 : ∀ (l : List RcV) (S : List EnV), putsO c l S = [] := by
        intro l
        induction l with
        | nil => exact fun _ => rfl
        | cons r l ih => exact fun S => by rw [putsO, ih, putO, if_pos hc]; rfl
      rw [h0]
      unfold putO
      rw [if_pos hc]
      exact Nat.zero_le _
    · have h1 := putsO_len (c := c) N P (putS c r S) (by rw [putS_join hc, List.length_cons]; omega)
      have h2 : (putO c r S).length ≤ S.length := by
        unfold putO jX
        rw [if_neg hc, List.length_map]
        exact List.length_filter_le _ _
      omega
theorem Runs.few {c : PtV} (hk : PtOk c) (hM : c.rs.length ≤ 4) {d : Int} {P : List RcV} {S : List EnV} {z : List OutV} (h : Runs c d P S z) (hP : P.length ≤ 60) (hr : ∀ r ∈ P, RcOk r) : LsOk c S ∧ massW c.rs.length S ≤ 1024 * P.length ∧ z.length ≤ 100000 := by
  obtain ⟨o, h1, h2⟩ := h
  have h3 := puts_mass hM P []
  rw [massW_nil] at h3
  have h4 := puts_ok hM P hr LsOk.nil (by rw [massW_nil]; omega)
  have h5 := fallsC_mass h2
  have h6 := fallsC_olen hk h2 h4
  have h7 := putsO_len (c := c) 60 P [] (by simpa using hP)
  have h8 : P.length * 60 ≤ 60 * 60 := Nat.mul_le_mul_right _ hP
  refine ⟨LsOk.falls hk h2 h4, by omega, ?_⟩
  rw [h1.length_eq, List.length_append]
  omega
theorem falls_all {c : PtV} (hk : PtOk c) {S S' : List EnV} {o : List OutV} (h : FallsC c 1152921504606846976 S S' o) (hS : LsOk c S') : S' = [] := by
  cases S' with
  | nil => rfl
  | cons e l =>
    have h1 := h.left e (.head _)
    have h2 := dueC_lo hk (hS.en e (.head _))
    omega
theorem cnt5_le (M : Nat) : ∀ l : List EnV, cnt5 M l ≤ l.length * 5 ^ M
  | [] => Nat.zero_le _
  | e :: l => by
    have h1 := cnt5_le M l
    have h2 : w5 M e ≤ 5 ^ M := Nat.pow_le_pow_right (by decide) (Nat.sub_le _ _)
    rw [cnt5_cons, List.length_cons, Nat.succ_mul]
    omega
theorem cnt5_few {c : PtV} (hM : c.rs.length ≤ 4) {l : List EnV} (hl : LsOk c l) : cnt5 c.rs.length l ≤ 1000000000 := by
  have h1 := cnt5_le c.rs.length l
  have h2 := hl.len
  have h3 : 5 ^ c.rs.length ≤ 5 ^ 4 := Nat.pow_le_pow_right (by decide) hM
  have h4 : l.length * 5 ^ c.rs.length ≤ 99999 * 5 ^ 4 := Nat.mul_le_mul h2 h3
  exact Nat.le_trans h1 (Nat.le_trans h4 (by decide))
structure PuV where
  k : Int
  s : Int
  t : Int
  v : Int
structure PuR (x : PuV) : Prop where
  k : 0 ≤ x.k ∧ x.k < 256
  s : 0 ≤ x.s ∧ x.s < 256
  t : 0 ≤ x.t ∧ x.t < 65536
  v : -9223372036854775808 ≤ x.v ∧ x.v < 9223372036854775808
def PuV.rcv (x : PuV) : RcV := ⟨x.k % 3, x.t % 300, x.v, x.s % 2⟩
theorem PuR.ok {x : PuV} (h : PuR x) : RcOk x.rcv := by
  have h1 := Int.emod_nonneg x.k (b := 3) (by decide)
  have h2 := Int.emod_lt_of_pos x.k (b := 3) (by decide)
  have h3 := Int.emod_nonneg x.t (b := 300) (by decide)
  have h4 := Int.emod_lt_of_pos x.t (b := 300) (by decide)
  have h5 := Int.emod_nonneg x.s (b := 2) (by decide)
  have h6 := Int.emod_lt_of_pos x.s (b := 2) (by decide)
  have h7 := h.v
  exact ⟨h1, by show x.k % 3 < _; omega, h3, by show x.t % 300 ≤ _; omega, h7.1, h7.2, by show x.s % 2 = 0 ∨ x.s % 2 = 1; omega⟩
def puC (x : PuV) : List Value := [.int .u8 x.k, .int .u8 x.s, .int .u16 x.t, .int .i64 x.v]
def puL (l : List PuV) : List Value := l.flatMap puC
theorem puL_get : ∀ (l : List PuV) (k : Nat), (puL l)[k]? = (l[k / 4]?).bind fun x => (puC x)[k % 4]?
  | [], k => by simp [puL]
  | x :: l, k => by
    have hx : (puC x).length = 4 := rfl
    rw [show puL (x :: l) = puC x ++ puL l from rfl]
    by_cases h : k < 4
    · rw [List.getElem?_append_left (by omega), Nat.div_eq_of_lt h, Nat.mod_eq_of_lt h]
      rfl
    · rw [List.getElem?_append_right (by omega), hx, puL_get l (k - 4)]
      have e1 : k / 4 = (k - 4) / 4 + 1 := by omega
      have e2 : k % 4 = (k - 4) % 4 := by omega
      rw [e1, e2, List.getElem?_cons_succ]
theorem puL_ext {l : List PuV} {off k : Nat} {cs : Array Value} {x : PuV} (hx : ∀ (j : Nat) (v : Value), (puL l)[j]? = some v → cs[off + j]? = some v) (hk : l[k]? = some x) : cs.extract (off + k * 4) (off + k * 4 + 4) = (puC x).toArray ∧ off + k * 4 + 4 ≤ cs.size := by
  refine ext_of (l := puC x) rfl (by decide) fun j hj => ?_
  have h3 : (puC x)[j]? = some ((puC x)[j]'hj) := List.getElem?_eq_getElem _
  rw [Nat.add_assoc]
  rw [h3]
  refine hx _ _ ?_
  rw [puL_get, show (k * 4 + j) / 4 = k by omega, show (k * 4 + j) % 4 = j by omega, hk]
  exact h3
theorem puL_len (l : List PuV) : (puL l).length = l.length * 4 := by
  induction l with
  | nil => rfl
  | cons x l ih => show (puC x ++ puL l).length = _; rw [List.length_append, ih, List.length_cons]; show 4 + _ = _; omega
theorem below_next (rs : List RcV) (t : Int) : (rs.filter (fun r => decide (r.t < t)) ++ rs.filter fun r => decide (t ≤ r.t ∧ r.t < t + 50)).Perm (rs.filter fun r => decide (r.t < t + 50)) := by
  have h1 := filter_either (fun r : RcV => decide (r.t < t)) (fun r => decide (t ≤ r.t ∧ r.t < t + 50)) rs
  have h2 : (rs.filter fun x => !decide (x.t < t)).filter (fun r => decide (t ≤ r.t ∧ r.t < t + 50)) = rs.filter fun r => decide (t ≤ r.t ∧ r.t < t + 50) := by
    rw [List.filter_filter]
    refine List.filter_congr fun x _ => ?_
    rw [Bool.eq_iff_iff]
    simp only [Bool.and_eq_true, Bool.not_eq_true', decide_eq_true_eq, decide_eq_false_iff_not]
    omega
  rw [h2] at h1
  refine h1.trans (List.Perm.of_eq (List.filter_congr fun x _ => ?_))
  rw [Bool.eq_iff_iff]
  simp only [Bool.or_eq_true, decide_eq_true_eq]
  omega
end Go.Proofs.YtekmmhmhcpaiaaaGreat
