/-
  The outbox: what came, what left, what is owed; appending to a row.
-/
import Derived.Test.YtcnbecdpfildnaaOb6
namespace Go.Proofs.Ytcnbecdpfildnaa
open Go.RowKit
attribute [local irreducible] Fn WC WL WR OW Qt YieldFn QW FnP FnD

/-- A function that turns an outbox, with more in memory ahead of it. -/
theorem ob_frame {P : Program} {f : FuncId} {args : List Value} {o w : Nat} {rs : List (Value × List (Nat × Obj))} {Q : Value → List (Value × List (Nat × Obj)) → Prop} (h : ∀ R, Fn P f args (obL o w rs R) (fun v L' => ∃ rs', L' = obL o w rs' R ∧ Q v rs')) (A R : List (Nat × Obj)) :
    Fn P f args (A ++ obL o w rs R) (fun v L' => ∃ rs', L' = A ++ obL o w rs' R ∧ Q v rs') :=
  (h (A ++ R)).perm (perm_S _ _ _ _ _).symm fun _ _ ⟨rs', h1, h2⟩ => ⟨_, h1 ▸ perm_S _ _ _ _ _, rs', rfl, h2⟩
section
variable {o w k : Nat} {rs : List (Value × List (Nat × Obj))} {nss : List (List Nat)}
theorem Push_at (hr : RowsM rs nss) {ns : List Nat} (hx : nss[k]? = some ns) (hm : ns.length ≤ 1000000) (x : Nat) (A R : List (Nat × Obj)) :
    Fn Try.prog 26 [.pointer (some ⟨o, 0, none⟩), .int .i64 (k : Nat), .agg (mC (x : Nat))] (A ++ obL o w rs R) (fun v L' => ∃ rs', L' = A ++ obL o w rs' R ∧ v = .int .i64 0 ∧ RowsM rs' (nss.set k (ns ++ [x]))) :=
  ob_frame (fun R => (Push_ob (xs := msgs ns) hr (by simp [hx]) (by rw [msgs_len]; omega) x R).mono fun _ _ ⟨h1, rs', h2, h3⟩ => ⟨rs', h2, h1, RowsM.snoc h3⟩) A R
theorem All_at (hr : RowsM rs nss) (hn : nss.length ≤ 16) (hm : ∀ l ∈ nss, l.length ≤ 1000000) (x : Nat) (A R : List (Nat × Obj)) :
    Fn Try.prog 29 [.pointer (some ⟨o, 0, none⟩), .agg (mC (x : Nat))] (A ++ obL o w rs R) (fun v L' => ∃ rs', L' = A ++ obL o w rs' R ∧ v = .int .i64 0 ∧ RowsM rs' (nss.map (· ++ [x]))) :=
  ob_frame (fun R => (All_ob hr hn hm x R).mono fun _ _ ⟨h1, rs', h2, h3⟩ => ⟨rs', h2, h1, h3⟩) A R
theorem Owes_at (hr : RowsM rs nss) (hn : nss.length ≤ 16) (hm : ∀ l ∈ nss, l.length ≤ 1000000) {L : List (Nat × Obj)} (hs : (obL o w rs []).Sublist L) :
    Fn Try.prog 37 [.pointer (some ⟨o, 0, none⟩)] L (fun v L' => v = .int .i64 ((nss.map List.length).sum : Nat) ∧ L' = L) := by
  have e : ∀ R, obL o w rs [] ++ R = obL o w rs R := fun R => by simp [obL]
  exact Fn.sub (S := obL o w rs []) (fun F => by rw [e]; exact Owes_ob hr hn hm F) hs
theorem Len_at (hr : RowsM rs nss) {ns : List Nat} (hx : nss[k]? = some ns) {L : List (Nat × Obj)} (hs : (obL o w rs []).Sublist L) : Fn Try.prog 43 [.pointer (some ⟨o, 0, none⟩), .int .i64 (k : Nat)] L (fun v L' => v = .int .i64 (ns.length : Nat) ∧ L' = L) :=
  Len_ob hr hx ((show [(o, oO w rs.length), (w, wO (rs.map Prod.fst).toArray)].Sublist (obL o w rs []) from .cons_cons _ (.cons_cons _ (List.nil_sublist _))).trans hs)
theorem Flush_at {p r : Nat} {S : List (Nat × Obj)} (hr : RowsM rs nss) (hn : nss.length ≤ 16) (hm : ∀ l ∈ nss, l.length ≤ 20000) (hP : PostP p r [] [] S) (A R : List (Nat × Obj)) :
    Fn Try.prog 34 [.pointer (some ⟨o, 0, none⟩), .func (.func 35) #[.pointer (some ⟨p, 0, none⟩)] #[]] (S ++ (A ++ obL o w rs R))
      (fun v L' => ∃ S' rs', L' = S' ++ (A ++ obL o w rs' R) ∧ v = .int .i64 ((sM r nss nss.length).length : Nat) ∧ PostP p r (sW r nss nss.length) (sM r nss nss.length) S' ∧ RowsM rs' (nss.map (·.drop r))) := by
  have hp : ∀ S rs, (obL o w rs (S ++ (A ++ R))).Perm (S ++ (A ++ obL o w rs R)) := fun S rs => (perm_S _ _ _ _ _).symm.trans (.append_left _ (perm_S _ _ _ _ _).symm)
  exact (Flush_ob hr hn hm hP (A ++ R)).perm (hp _ _) fun _ _ ⟨S', rs', h0, h1, h2, h3⟩ => ⟨_, h1 ▸ (hp _ _).symm, S', rs', rfl, h0, h2, h3⟩
end

/-! ### a row of one's own -/
theorem OW_append_row {c : Cx} {o : Oper} {Kn : St → Prop} {K : Exit → St → Prop} {s : List (Nat × Value)} {D : List Deferred} (X Y : List (Nat × Obj)) {rs : List (Value × List (Nat × Obj))} {k : Nat} {T : List (Nat × Obj)} {t t2 E size by_ d : Nat} {z : Array Value} {x y : Operand} [hu : TUnd c.P t (.slice E)] [hrow : TRow c.P E z size by_] {v y' : Value} (hk : rs[k]? = some (v, T))
    (ho : o.op = .call { callee := .builtin .append, args := #[x, y], argTypes := #[t, t2] }) (hdst : o.dst = some d) (hx : ev s x = some v) (hy : ev s y = some y') (hd : Nat.blt d c.N = true) {n m : Nat} {xs news : List Value} (hv : Buf E size v T n xs)
    (hs : SrcL c (X ++ (rowsL rs ++ Y)) size t2 y' m news) (hm : 0 < m) (hmax : n + m ≤ maxLen) (hby : (n + m) * by_ ≤ 140737488355328)
    (hK : ∀ v' T', Buf E size v' T' (n + m) (xs ++ news) → Kn ⟨(d, v') :: s, D, X ++ (rowsL (rs.set k (v', T')) ++ Y)⟩) : OW c o Kn K ⟨s, D, X ++ (rowsL rs ++ Y)⟩ := by
  have e : ∀ T' v', rs.set k (v', T') = rs.set k (v', T') → X ++ (rowsL (rs.set k (v', T')) ++ Y) = (X ++ rowsL (rs.take k)) ++ (T' ++ (rowsL (rs.drop (k + 1)) ++ Y)) := fun T' v' _ => by rw [rowsL_set (v', T') hk]; simp
  have e0 : X ++ (rowsL rs ++ Y) = (X ++ rowsL (rs.take k)) ++ (T ++ (rowsL (rs.drop (k + 1)) ++ Y)) := by rw [rowsL_split hk]; simp
  rw [e0] at hs ⊢
  exact OW_append_buf ho hdst hx hy hd hv hs hm hmax hby fun v' T' hb => by rw [← e T' v' rfl]; exact hK v' T' hb

/-! ### what came, what left, what is owed -/
structure Ord (came : List (List Nat)) (left : List Nat) (nss : List (List Nat)) : Prop where
  llen : left.length = came.length
  nlen : nss.length = came.length
  at_ : ∀ (k : Nat) (ck : List Nat) (lk : Nat), came[k]? = some ck → left[k]? = some lk → lk ≤ ck.length ∧ nss[k]? = some (ck.drop lk)
section
variable {came nss : List (List Nat)} {left : List Nat} {k : Nat}
theorem Ord.row (h : Ord came left nss) (hk : k < came.length) : ∃ ck lk, came[k]? = some ck ∧ left[k]? = some lk ∧ lk ≤ ck.length ∧ nss[k]? = some (ck.drop lk) := by
  have h1 := List.getElem?_eq_getElem hk
  have h2 := List.getElem?_eq_getElem (show k < left.length by rw [h.llen]; exact hk)
  obtain ⟨h3, h4⟩ := h.at_ k _ _ h1 h2
  exact ⟨_, _, h1, h2, h3, h4⟩
theorem Ord.push (h : Ord came left nss) {ck : List Nat} {lk : Nat} (h1 : came[k]? = some ck) (h2 : left[k]? = some lk) (x : Nat) : Ord (came.set k (ck ++ [x])) left (nss.set k (ck.drop lk ++ [x])) := by
  obtain ⟨hle, _⟩ := h.at_ k ck lk h1 h2
  refine ⟨by simp [h.llen], by simp [h.nlen], fun j cj lj hj hl => ?_⟩
  rw [List.getElem?_set] at hj ⊢
  by_cases e : k = j
  · subst e
    obtain ⟨hk, _⟩ := List.getElem?_eq_some_iff.1 h1
    rw [if_pos rfl, if_pos hk] at hj
    cases hj
    rw [h2] at hl; cases hl
    rw [if_pos rfl, if_pos (by rw [h.nlen]; exact hk)]
    refine ⟨by simp; omega, ?_⟩
    rw [List.drop_append_of_le_length hle]
  · rw [if_neg e] at hj ⊢
    exact h.at_ j cj lj hj hl
theorem Ord.all (h : Ord came left nss) (x : Nat) : Ord (came.map (· ++ [x])) left (nss.map (· ++ [x])) := by
  refine ⟨by simp [h.llen], by simp [h.nlen], fun j cj lj hj hl => ?_⟩
  rw [List.getElem?_map] at hj ⊢
  obtain ⟨ck, hc, rfl⟩ := Option.map_eq_some_iff.1 hj
  obtain ⟨h1, h2⟩ := h.at_ j ck lj hc hl
  refine ⟨by simp; omega, ?_⟩
  rw [h2, List.drop_append_of_le_length h1]; rfl
theorem Ord.pop (h : Ord came left nss) {ck : List Nat} {lk x : Nat} {ns : List Nat} (h1 : came[k]? = some ck) (hd : ck.drop lk = x :: ns) : Ord came (left.set k (lk + 1)) (nss.set k ns) := by
  refine ⟨by simp [h.llen], by simp [h.nlen], fun j cj lj hj hl => ?_⟩
  rw [List.getElem?_set] at hl ⊢
  by_cases e : k = j
  · subst e
    obtain ⟨hk, _⟩ := List.getElem?_eq_some_iff.1 h1
    rw [if_pos rfl, if_pos (by rw [h.llen]; exact hk)] at hl
    cases hl
    rw [h1] at hj; cases hj
    rw [if_pos rfl, if_pos (by rw [h.nlen]; exact hk)]
    have hlen := congrArg List.length hd
    simp only [List.length_drop, List.length_cons] at hlen
    refine ⟨by omega, ?_⟩
    rw [← List.drop_drop, hd]; rfl
  · rw [if_neg e] at hl ⊢
    exact h.at_ j cj lj hj hl
/-- What has left, while a Flush's messages are told. -/
def leftAt (left : List Nat) (ws : List Nat) (j : Nat) : List Nat := left.mapIdx fun k a => a + (ws.take j).count k
theorem leftAt_zero (left ws : List Nat) : leftAt left ws 0 = left := by apply List.ext_getElem?; intro j; simp [leftAt]
theorem leftAt_at {ws : List Nat} {j k lk : Nat} (h : left[k]? = some lk) : (leftAt left ws j)[k]? = some (lk + (ws.take j).count k) := by simp [leftAt, h]
theorem leftAt_succ {ws : List Nat} {j k : Nat} (hw : ws[j]? = some k) {a : Nat} (h : (leftAt left ws j)[k]? = some a) : (leftAt left ws j).set k (a + 1) = leftAt left ws (j + 1) := by
  apply List.ext_getElem?; intro q
  rw [List.getElem?_set]
  obtain ⟨hk, hv⟩ := List.getElem?_eq_some_iff.1 h
  have hk' : k < left.length := by simpa [leftAt] using hk
  by_cases e : k = q
  · subst e
    rw [if_pos rfl, if_pos hk, ← hv]
    simp [leftAt, List.take_add_one, hw, hk', List.count_append, Nat.add_assoc]
  · rw [if_neg e]
    simp [leftAt, List.take_add_one, hw, List.count_append, List.count_singleton, e]
theorem sW_at {r : Nat} : ∀ (i : Nat), i ≤ nss.length → ∀ j, j < (sW r nss i).length → ∃ k ns x, (sW r nss i)[j]? = some k ∧ k < i ∧ nss[k]? = some ns ∧ ns[((sW r nss i).take j).count k]? = some x ∧ (sM r nss i)[j]? = some x
  | 0, _, j, h => by simp [sW] at h
  | i + 1, hi, j, h => by
    obtain ⟨ns, hns⟩ : ∃ ns, nss[i]? = some ns := ⟨_, List.getElem?_eq_getElem (by omega)⟩
    have hl := sM_len (r := r) (nss := nss) (i := i) (by omega)
    rw [sW_succ hns, sM_succ hns] at *
    by_cases hj : j < (sW r nss i).length
    · obtain ⟨k, ns', x, h1, h2, h3, h4, h5⟩ := sW_at i (by omega) j hj
      refine ⟨k, ns', x, by rw [List.getElem?_append_left hj]; exact h1, by omega, h3, ?_, by rw [List.getElem?_append_left (by omega)]; exact h5⟩
      rw [List.take_append_of_le_length (by omega)]; exact h4
    · simp only [List.length_append, List.length_replicate] at h
      have hq : j - (sW r nss i).length < min r ns.length := by omega
      obtain ⟨x, hx⟩ : ∃ x, ns[j - (sW r nss i).length]? = some x := ⟨_, List.getElem?_eq_getElem (by omega)⟩
      refine ⟨i, ns, x, ?_, by omega, hns, ?_, ?_⟩
      · rw [List.getElem?_append_right (by omega), List.getElem?_replicate, if_pos hq]
      · rw [List.take_append, List.take_of_length_le (by omega), List.count_append, sW_count, List.take_replicate, List.count_replicate_self, Nat.zero_add, Nat.min_eq_left (by omega)]
        exact hx
      · rw [List.getElem?_append_right (by omega), hl, List.getElem?_take, if_pos (by omega)]; exact hx
theorem sW_counts {r : Nat} {k : Nat} : ∀ (i : Nat), i ≤ nss.length → (sW r nss i).count k = if k < i then min r ((nss[k]?).getD []).length else 0
  | 0, _ => by simp [sW]
  | i + 1, hi => by
    obtain ⟨ns, hns⟩ : ∃ ns, nss[i]? = some ns := ⟨_, List.getElem?_eq_getElem (by omega)⟩
    rw [sW_succ hns, List.count_append, sW_counts i (by omega), List.count_replicate]
    by_cases e : i = k
    · subst e; simp [hns]
    · have : (i == k) = false := by simp; omega
      simp only [this, Bool.false_eq_true, if_false, Nat.add_zero]
      have : k < i ↔ k < i + 1 := by omega
      simp only [this]
theorem Ord.flush (h : Ord came left nss) (r : Nat) : Ord came (leftAt left (sW r nss nss.length) (sW r nss nss.length).length) (nss.map (·.drop r)) := by
  refine ⟨by simp [leftAt, h.llen], by simp [h.nlen], fun j cj lj hj hl => ?_⟩
  have hk : j < came.length := (List.getElem?_eq_some_iff.1 hj).1
  obtain ⟨lk, hlk⟩ : ∃ lk, left[j]? = some lk := ⟨_, List.getElem?_eq_getElem (by rw [h.llen]; exact hk)⟩
  rw [leftAt_at hlk, List.take_length, sW_counts _ (Nat.le_refl _), if_pos (by rw [h.nlen]; exact hk)] at hl
  obtain ⟨h1, h2⟩ := h.at_ j cj lk hj hlk
  simp only [h2, Option.getD_some, List.length_drop, Option.some.injEq] at hl
  subst hl
  refine ⟨by omega, ?_⟩
  rw [List.getElem?_map, h2, Option.map_some, List.drop_drop]
  by_cases e : r ≤ cj.length - lk
  · rw [Nat.min_eq_left e]
  · rw [List.drop_eq_nil_of_le (by omega), List.drop_eq_nil_of_le (by omega)]
end

abbrev RowsI (crs : List (Value × List (Nat × Obj))) (came : List (List Nat)) : Prop := Rows 3 1 crs (came.map intV)
theorem intV_len (l : List Nat) : (intV l).length = l.length := by simp [intV]
theorem RowsI.row {crs : List (Value × List (Nat × Obj))} {came : List (List Nat)} (h : RowsI crs came) {k : Nat} {ck : List Nat} (hx : came[k]? = some ck) : ∃ a cap T, crs[k]? = some (.slice a ck.length cap, T) ∧ Buf 3 1 (.slice a ck.length cap) T ck.length (intV ck) := by
  obtain ⟨v, T, m, h1, h2⟩ := h.at (k := k) (xs := intV ck) (by simp [hx])
  have h3 := h2.len
  rw [intV_len] at h3
  obtain rfl : m = ck.length := by omega
  obtain ⟨a, cap, rfl, _⟩ := h2.val
  exact ⟨a, cap, T, h1, h2⟩
theorem RowsI.snoc {crs : List (Value × List (Nat × Obj))} {came : List (List Nat)} {k x : Nat} {ck : List Nat} {v : Value} {T : List (Nat × Obj)} {n : Nat} (h : RowsI crs came) (hb : Buf 3 1 v T n (intV ck ++ [.int .i64 (x : Nat)])) : RowsI (crs.set k (v, T)) (came.set k (ck ++ [x])) := by
  have := Rows.set h hb k
  rw [RowsI, List.map_set]
  simpa [intV] using this
theorem sum_set {nss : List (List Nat)} {k : Nat} {nk : List Nat} (h : nss[k]? = some nk) (l : List Nat) : ((nss.set k l).map List.length).sum + nk.length = (nss.map List.length).sum + l.length := by
  induction nss generalizing k with
  | nil => simp at h
  | cons a r ih =>
    cases k with
    | zero => simp at h; subst h; simp; omega
    | succ k =>
      have := ih (k := k) (by simpa using h)
      simp only [List.set_cons_succ, List.map_cons, List.sum_cons]; omega
theorem sum_snoc (nss : List (List Nat)) (x : Nat) : ((nss.map (· ++ [x])).map List.length).sum = (nss.map List.length).sum + nss.length := by
  induction nss with
  | nil => rfl
  | cons a r ih => simp only [List.map_cons, List.sum_cons, List.length_cons, List.length_append, List.length_nil] at ih ⊢; omega
theorem sum_drop (nss : List (List Nat)) (r : Nat) : ((nss.map (·.drop r)).map List.length).sum + (sM r nss nss.length).length = (nss.map List.length).sum := by
  unfold sM
  rw [List.take_length]
  induction nss with
  | nil => rfl
  | cons a q ih => simp only [List.map_cons, List.sum_cons, List.flatMap_cons, List.length_append, List.length_drop, List.length_take] at ih ⊢; omega
theorem Ord.le {came nss : List (List Nat)} {left : List Nat} (h : Ord came left nss) {b : Nat} (hb : ∀ c ∈ came, c.length ≤ b) : ∀ l ∈ nss, l.length ≤ b := by
  intro l hl
  obtain ⟨k, hk⟩ := List.mem_iff_getElem?.1 hl
  obtain ⟨ck, lk, h1, h2, h3, h4⟩ := h.row (k := k) (by rw [← h.nlen]; exact (List.getElem?_eq_some_iff.1 hk).1)
  rw [hk] at h4; cases h4
  have := hb ck (List.mem_of_getElem? h1)
  rw [List.length_drop]; omega
theorem mem_set_le {came : List (List Nat)} {b k x : Nat} {ck : List Nat} (hb : ∀ c ∈ came, c.length ≤ b) (h : came[k]? = some ck) : ∀ c ∈ came.set k (ck ++ [x]), c.length ≤ b + 1 := by
  intro c hc
  rcases List.mem_or_eq_of_mem_set hc with h1 | rfl
  · have := hb c h1; omega
  · have := hb ck (List.mem_of_getElem? h); simp; omega
/-- A way out of any whole number. -/
theorem way_of {y : Int} {n : Nat} (hy : -128 ≤ y ∧ y < 128) (h1 : 1 ≤ n) (h2 : n ≤ 16) : ∃ k : Nat, k < n ∧ (IntKind.i64.wrap ((IntKind.i64.wrap y).tmod n + n)).tmod n = (k : Int) := by
  have hn : (0 : Int) < n := by omega
  have e1 := Int.tmod_lt_of_pos y hn
  have e2 : -(n : Int) < y.tmod n := Int.lt_tmod_of_pos y hn
  rw [wI64 (x := y) (by omega) (by omega), wI64 (by omega) (by omega)]
  have e3 := Int.tmod_nonneg n (show 0 ≤ y.tmod n + n by omega)
  have e4 := Int.tmod_lt_of_pos (y.tmod n + n) hn
  exact ⟨((y.tmod n + n).tmod n).toNat, by omega, by omega⟩

theorem msgs_at : ∀ {l : List Nat} {q y : Nat}, l[q]? = some y → ∀ j, j < 24 → (msgs l)[q * 24 + j]? = (mC (y : Nat))[j]?
  | [], _, _, h, _, _ => by simp at h
  | a :: l, 0, y, h, j, hj => by
    simp at h; subst h
    rw [msgs_cons, Nat.zero_mul, Nat.zero_add, List.getElem?_append_left (by rw [Array.length_toList, mC_size]; exact hj), Array.getElem?_toList]
  | a :: l, q + 1, y, h, j, hj => by
    have := msgs_at (l := l) (q := q) (y := y) (by simpa using h) j hj
    rw [msgs_cons, List.getElem?_append_right (by rw [Array.length_toList, mC_size]; omega), Array.length_toList, mC_size, ← this]
    congr 1; omega
/-- A slice that is not empty, its block, and where it stands among the rows. -/
theorem Buf.full {E sz : Nat} {a : Option Addr} {cap : Nat} {T : List (Nat × Obj)} {n : Nat} {xs : List Value} (h : Buf E sz (.slice a n cap) T n xs) (hn : n ≠ 0) : ∃ g off cur, a = some ⟨g, off, none⟩ ∧ T = [(g, .cells cur E (0, 0))] ∧ Own sz cur off cap n xs := by
  rcases h with ⟨_, h, _⟩ | ⟨g, off, cap', cur, e1, rfl, ho⟩
  · exact absurd h hn
  · simp only [Value.slice.injEq] at e1
    obtain ⟨rfl, _, rfl⟩ := e1
    exact ⟨g, off, cur, rfl, rfl, ho⟩
theorem rows_sub {rs : List (Value × List (Nat × Obj))} {k : Nat} {v : Value} {q : Nat × Obj} (h : rs[k]? = some (v, [q])) (o w : Nat) (rs' : List (Value × List (Nat × Obj))) (L : List (Nat × Obj)) : [q].Sublist (obL o w rs' (rowsL rs ++ L)) := by
  unfold obL
  rw [rowsL_split h]
  exact .cons _ (.cons _ ((((List.sublist_append_left _ _).trans (List.sublist_append_right _ _)).trans (List.sublist_append_left _ _)).trans (List.sublist_append_right _ _)))
theorem intV_set (left : List Nat) (k a : Nat) : (intV left).toArray.setIfInBounds (((k : Nat) : Int).toNat * 1) (.int .i64 (a : Nat)) = (intV (left.set k a)).toArray := by simp [intV]
end Go.Proofs.Ytcnbecdpfildnaa
