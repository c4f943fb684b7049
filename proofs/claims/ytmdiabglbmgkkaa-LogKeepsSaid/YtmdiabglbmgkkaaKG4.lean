/-
  A part of what the last of these texts needs; by itself it proves no statement.
-/
import Derived.ChangeMaps5
import Derived.Test.YtmdiabglbmgkkaaKG3
namespace Go.Proofs.Ytmdiabglbmgkkaa
open Go.RowKit
def idxL : Nat → List Value → List (Nat × Value)
  | _, [] => []
  | k, x :: r => (k, x) :: idxL (k + 1) r
theorem fill_idx {n : Nat} : ∀ (xs : List Value) (k : Nat) (pre z : List Value), pre.length = k * n → z.length = xs.length * n → (∀ x ∈ xs, x.cells.size = n) →
    FilledA n (pre ++ z).toArray (idxL k xs) (pre ++ xs.flatMap fun x => x.cells.toList).toArray
  | [], k, pre, z, _, hz, _ => by
    have : z = [] := List.length_eq_zero_iff.1 (by simpa using hz)
    subst this
    show _ = _
    simp
  | x :: r, k, pre, z, hp, hz, hx => by
    have h1 := hx x (by simp)
    have h2 : z.length = r.length * n + n := by rw [hz, List.length_cons, Nat.succ_mul]
    refine ⟨h1, by rw [List.size_toArray, List.length_append]; omega, ?_⟩
    have ih := fill_idx (n := n) r (k + 1) (pre ++ x.cells.toList) (z.drop n) (by rw [List.length_append, hp, Nat.succ_mul, Array.length_toList, h1]) (by rw [List.length_drop]; omega) (fun y hy => hx y (by simp [hy]))
    have e : putR (pre ++ z).toArray (k * n) x.cells = ((pre ++ x.cells.toList) ++ z.drop n).toArray := by
      unfold putR
      rw [← hp, h1]
      simp only [List.take_left, List.drop_append, List.append_assoc]
      rw [List.drop_eq_nil_of_le (by omega), List.nil_append]
      congr 4
      omega
    rw [e]
    simpa using ih
theorem OW_buildS {c : Cx} {o : Oper} {Kn : St → Prop} {K : Exit → St → Prop} {s : List (Nat × Value)} {D : List Deferred} {L : List (Nat × Obj)} {t E n m by_ d : Nat} {z : Array Value} {parts : Array (Nat × Operand)} {xs : List Value} [hu : TUnd c.P t (.slice E)] [hrow : TRow c.P E z n by_] (ho : o.op = .buildSlice t m parts) (_hv : evs s (parts.toList.map fun q => q.2) = some xs := by exact rfl) (hx : evp s parts.toList = some (idxL 0 xs) := by exact rfl) (hm : xs.length = m := by exact rfl)
    (hk : ∀ b, Kn ⟨(d, .slice (some ⟨b, 0, none⟩) m m) :: s, D, (b, .cells (xs.flatMap fun x => x.cells.toList).toArray E) :: L⟩) (hc0 : (xs.all fun x => x.cells.size == n) = true := by exact rfl) (hn0 : Nat.ble 1 (m * n) = true := by exact rfl) (hn1 : Nat.ble (m * n) 16777216 = true := by exact rfl) (hdst : o.dst = some d := by exact rfl) (hd : Nat.blt d c.N = true := by exact rfl) : OW c o Kn K ⟨s, D, L⟩ := fun a w ha => by
  have hc : ∀ x ∈ xs, x.cells.size = n := fun x hx => by simpa using List.all_eq_true.1 hc0 x hx
  refine ⟨fun _ _ => trivial, ?_⟩
  obtain ⟨i, zz, h1, h2, h3, h4, h5, h6⟩ := hrow.h
  have hn0 := Nat.le_of_ble_eq_true hn0
  have hn1 := Nat.le_of_ble_eq_true hn1
  have hb := run_buildSlice (P := c.P) w t E m (parts.map fun (i, x) => (i, a.eval x)) (xs.flatMap fun x => x.cells.toList).toArray i zz hu.h h1 h2 (by rw [h4]; omega) (by rw [h4]; omega) (by
    rw [h4, Array.toList_map, evp_map (fun x u hu => ha.ev hu) hx]
    generalize hAe : (Array.range (m * n)).map (zz.cells[· % zz.cells.size]!) = A
    have hA : A.size = m * n := by rw [← hAe]; simp
    have hf := fill_of_FilledA (fill_idx (n := n) xs 0 [] A.toList (by simp) (by rw [Array.length_toList, hA, hm]) hc)
    rw [List.nil_append, List.nil_append, Array.toArray_toList] at hf
    exact hf)
  have hr : (execOp a.eval o).run c.P w = .ok (.value (.slice (some ⟨w.heap.size, 0, none⟩) m m)) (w.alloc (.cells (xs.flatMap fun x => x.cells.toList).toArray E)) := by
    simp [execOp, ho, hb]
  rw [Oper.semAt_eq _ _ _ (by rw [ho]; intro cc h; cases h), hr]
  refine ⟨_, ?_, hk w.heap.size⟩
  rw [hdst]
  exact (ha.mem' (ha.mem.alloc _)).put (d := some d) hd _
end Go.Proofs.Ytmdiabglbmgkkaa
namespace Go.Proofs.Ytmdiabglbmgkkaa
open Go.RowKit
abbrev sV (l : List UInt8) : Value := .string (bstr l)
theorem Fn.under {P : Program} {f : FuncId} {args : List Value} {Pf S L : List (Nat × Obj)} {Q : Value → Prop} {Z : List (Nat × Obj) → Prop} (h : Fn P f args (S ++ (Pf ++ L)) (fun r L' => Q r ∧ ∃ S', L' = S' ++ (Pf ++ L) ∧ Z S')) : Fn P f args (Pf ++ (S ++ L)) (fun r L' => Q r ∧ ∃ S', L' = Pf ++ (S' ++ L) ∧ Z S') :=
  h.perm (List.perm_append_comm_assoc ..) fun v L' ⟨h1, S', h2, h3⟩ => ⟨_, by rw [h2]; exact List.perm_append_comm_assoc .., h1, S', rfl, h3⟩
attribute [local irreducible] Fn WC WL WR OW Qt YieldFn QW
end Go.Proofs.Ytmdiabglbmgkkaa
namespace Go.Proofs.Ytmdiabglbmgkkaa
open Go.RowKit
abbrev tV (l : List UInt8) : Value := sV l
abbrev BufT (v : Value) (T : List (Nat × Obj)) (ps : List (List UInt8)) : Prop := Buf 9 1 v T ps.length (ps.map tV)
abbrev VecT (L : List (Nat × Obj)) (v : Value) (ps : List (List UInt8)) : Prop := Vec 1 L v ps.length (ps.map tV)
def szL (n : Nat) : List UInt8 := [UInt8.ofNat (n / 256 / 256), UInt8.ofNat (n / 256), UInt8.ofNat n]
def frm (b : List UInt8) : List UInt8 := (0xa5 :: szL b.length) ++ (b ++ [0x5a])
theorem frm_len (b : List UInt8) : (frm b).length = b.length + 5 := by simp [frm, szL]
theorem u8nat (n : Nat) : IntKind.u8.wrap ((n : Nat) : Int) = ((UInt8.ofNat n).toNat : Int) := by
  rw [wU8_mod, UInt8.toNat_ofNat']; omega
theorem tdiv256 (n : Nat) (h : n ≤ 4611686018427387904) : IntKind.i64.wrap (((n : Nat) : Int).tdiv 256) = ((n / 256 : Nat) : Int) := by
  have e : ((n : Nat) : Int).tdiv 256 = ((n / 256 : Nat) : Int) := rfl
  rw [e, wI64 (by omega) (by omega)]
theorem flat_take {ps : List (List UInt8)} {k : Nat} {p : List UInt8} (h : ps[k]? = some p) : (ps.take k).flatten ++ p = (ps.take (k + 1)).flatten := by
  rw [List.take_add_one, h]; simp
theorem flat_take_le (ps : List (List UInt8)) (k : Nat) : (ps.take k).flatten.length ≤ ps.flatten.length := by
  have h : ps.flatten = (ps.take k).flatten ++ (ps.drop k).flatten := by rw [← List.flatten_append, List.take_append_drop]
  rw [h, List.length_append]; omega
theorem vec_lit {L : List (Nat × Obj)} {b E n : Nat} {fr : Nat × Nat} {xs : List Value} (hn : xs.length = n) (hm : n ≤ maxLen) : Vec 1 ((b, .cells xs.toArray E fr) :: L) (.slice (some ⟨b, 0, none⟩) n n) n xs :=
  ⟨by omega, _, n, rfl, Nat.le_refl _, hm, .inr ⟨b, 0, _, E, fr, 0, rfl, rfl, fun j x hx => by rw [Nat.zero_add]; simpa using hx⟩⟩
attribute [local irreducible] Fn WC WL WR OW Qt YieldFn QW
theorem bytes_fn {v : Value} {ps : List (List UInt8)} {L : List (Nat × Obj)} (hv : VecT L v ps) (hl : ps.flatten.length ≤ 2000000) (hp : ps.length ≤ 1000) : Fn Try.prog 70 [v] L (fun r L' => r = .string (bstr ps.flatten) ∧ L' = L) := by
  obtain ⟨_, a, cap, rfl, hle, hmx, hx⟩ := id hv
  refine Fn_enter Try.func70 rfl Try.ntmps70 rfl fun gw => ?_
  repeat (first | ((first | refine WL_Q ?_); (first | refine QW_a ?_)) | refine WL_nil ?_ | refine WC_seq ?_ | refine WC_block ?_ | refine WC_cond_t (ht := ?_) | refine WC_cond_f (he := ?_) | refine WC_skip ?_ | refine WC_ret ?_ | refine WC_exit ?_ | refine WC_region (id := 0) ?_ | refine WC_region (id := 1) ?_ | refine WC_region (id := 2) ?_)
  refine WC_wk [(8, .int .i64 ((0 : Nat) : Int)), (7, .int .i64 ((ps.length : Nat) : Int)), (6, .slice a ps.length cap), (3, .slice none 0 0)] ⟨rfl, rfl, rfl, rfl, trivial⟩ ?_
  refine WC_loop (fun m σ => ∃ (k : Nat) (v : Value) (T : List (Nat × Obj)), m = ps.length - k ∧ k ≤ ps.length ∧ BufB v T (ps.take k).flatten ∧ σ = ⟨[(8, .int .i64 k), (7, .int .i64 ((ps.length : Nat) : Int)), (6, .slice a ps.length cap), (3, v)], [], T ++ L⟩) ps.length ⟨0, .slice none 0 0, [], by omega, by omega, Buf.nil _ _, rfl⟩ ?_
  rintro m σ ⟨k, v, T, rfl, hk, hb, rfl⟩
  by_cases hlt : k < ps.length
  · have d : decide ((k : Int) < ((ps.length : Nat) : Int)) = true := decide_eq_true (by omega)
    obtain ⟨p, hp⟩ : ∃ p, ps[k]? = some p := ⟨_, List.getElem?_eq_getElem hlt⟩
    rcases hx with hx | ⟨b, off, cs, E, fr, i, rfl, hi, hc⟩
    · omega
    have hck : cs[off + ((k : Nat) : Int).toNat * 1]? = some (tV p) := by rw [Int.toNat_natCast, Nat.mul_one]; exact hc k _ (by rw [List.getElem?_map, hp]; rfl)
    have hiT : (T ++ L)[T.length + i]? = some (b, .cells cs E fr) := by rw [List.getElem?_append_right (by omega), Nat.add_sub_cancel_left]; exact hi
    have p0 : (0 : Int) ≤ (k : Int) := by omega
    have p1 : (k : Int) < ((ps.length : Nat) : Int) := by omega
    have w : IntKind.i64.wrap ((k : Int) + 1) = ((k + 1 : Nat) : Int) := by rw [wI64 (by omega) (by omega)]; omega
    have hlen : (ps.take k).flatten.length + p.length ≤ 2000000 := by
      rw [← List.length_append, flat_take hp]
      exact Nat.le_trans (flat_take_le _ _) hl
    repeat (first | ((first | refine WL_Q ?_); (first | refine QW_a ?_)) | refine WL_nil ?_ | refine WC_seq ?_ | refine WC_block ?_ | refine WC_cond_t (ht := ?_) | refine WC_cond_f (he := ?_) | refine WC_skip ?_ | refine WC_ret ?_ | refine WC_exit ?_ | refine WC_region (id := 3) ?_ | refine WC_region (id := 4) ?_ | refine WC_region (id := 5) ?_)
    refine WL_op rfl (OW_append_bufM (A := []) (T := T) (B := L) rfl rfl rfl rfl rfl hb srcStr (by simp) (by simp only [maxLen]; omega) (by omega) ?_)
    intro v' T' hb'
    rw [← List.map_append, ← List.length_append, flat_take hp] at hb'
    repeat (first | ((first | refine WL_Q ?_); (first | refine QW_a ?_)) | refine WL_nil ?_ | refine WC_seq ?_ | refine WC_block ?_ | refine WC_cond_t (ht := ?_) | refine WC_cond_f (he := ?_) | refine WC_skip ?_ | refine WC_ret ?_ | refine WC_exit ?_ | refine WC_region (id := 5) ?_ | refine WC_region (id := 6) ?_)
    rw [w]
    exact ⟨_, _, by omega, ⟨k + 1, v', T', rfl, by omega, hb', rfl⟩, ⟨rfl, rfl, rfl, rfl, trivial⟩, rfl, .refl _⟩
  · have d : decide ((k : Int) < ((ps.length : Nat) : Int)) = false := decide_eq_false (by omega)
    obtain rfl : k = ps.length := by omega
    rw [List.take_length] at hb
    have hby : ByAt (T ++ L) v ps.flatten := hb.vec0 L
    repeat (first | ((first | refine WL_Q ?_); (first | refine QW_a ?_)) | refine WL_nil ?_ | refine WC_seq ?_ | refine WC_block ?_ | refine WC_cond_t (ht := ?_) | refine WC_cond_f (he := ?_) | refine WC_skip ?_ | refine WC_ret ?_ | refine WC_exit ?_ | refine WC_region (id := 3) ?_ | refine WC_region (id := 7) ?_)
    exact ⟨rfl, _, L, Res1 rfl (resV_tmp rfl), List.sublist_append_right _ _, rfl, rfl⟩
theorem put_fn {b : List UInt8} {L : List (Nat × Obj)} (hb : b.length ≤ 1048576) : Fn Try.prog 55 [tV b] L (fun r L' => r = .tuple #[.string (bstr (frm b)), .int .i64 0] ∧ L' = L) := by
  refine Fn_enter Try.func55 rfl Try.ntmps55 rfl fun gw => ?_
  have d : decide (((b.length : Nat) : Int) > 1048576) = false := decide_eq_false (by omega)
  repeat (first | ((first | refine WL_Q ?_); (first | refine QW_a ?_)) | ((first | refine WL_op rfl ?_); (first | refine OW_build1 rfl (hk := fun _ => ?_))) | refine WL_nil ?_ | refine WC_seq ?_ | refine WC_cond_t (ht := ?_) | refine WC_cond_f (he := ?_) | refine WC_skip ?_ | refine WC_ret ?_ | refine WC_region ?_)
  rw [tdiv256 b.length (by omega), tdiv256 (b.length / 256) (by omega), u8nat, u8nat, u8nat]
  refine WL_op rfl (OW_buildS rfl (hk := ?_))
  intro sb
  have hby : ByAt ((sb, .cells (List.flatMap (fun x : Value => x.cells.toList) [.int .u8 165, .int .u8 ((UInt8.ofNat (b.length / 256 / 256)).toNat : Int), .int .u8 ((UInt8.ofNat (b.length / 256)).toNat : Int), .int .u8 ((UInt8.ofNat b.length).toNat : Int)]).toArray 5 (0, 0)) :: L) (.slice (some ⟨sb, 0, none⟩) 4 4) (0xa5 :: szL b.length) := vec_lit (xs := ((0xa5 : UInt8) :: szL b.length).map bV) rfl (by decide)
  refine WL_Q (QW_a ?_ (Qt_str rfl (hv := hby)))
  repeat (first | ((first | refine WL_Q ?_); (first | refine QW_a ?_)) | ((first | refine WL_op rfl ?_); (first | refine OW_build1 rfl (hk := fun _ => ?_))) | refine WL_nil ?_ | refine WC_seq ?_ | refine WC_cond_t (ht := ?_) | refine WC_cond_f (he := ?_) | refine WC_skip ?_ | refine WC_ret ?_ | refine WC_region (id := 4) ?_)
  rename_i eb
  refine WL_op rfl (OW_buildS rfl (hk := ?_))
  intro pb
  have hlen : ([0xa5 :: szL b.length, b, [UInt8.ofNat (90 : Int).toNat]] : List (List UInt8)).flatten.length ≤ 2000000 := by
    simp [szL]; omega
  refine WL_op rfl (OW_call rfl (hF := bytes_fn (ps := [0xa5 :: szL b.length, b, [UInt8.ofNat (90 : Int).toNat]]) (vec_lit (xs := [tV (0xa5 :: szL b.length), tV b, tV [UInt8.ofNat (90 : Int).toNat]]) rfl (by simp [maxLen])) hlen (by simp)) (hk := ?_))
  rintro _ _ ⟨rfl, rfl⟩
  repeat (first | ((first | refine WL_Q ?_); (first | refine QW_a ?_)) | ((first | refine WL_op rfl ?_); (first | refine OW_build1 rfl (hk := fun _ => ?_))) | refine WL_nil ?_ | refine WC_seq ?_ | refine WC_cond_t (ht := ?_) | refine WC_cond_f (he := ?_) | refine WC_skip ?_ | refine WC_ret ?_ | refine WC_region (id := 4) ?_)
  refine ⟨rfl, _, L, Res2 rfl (resV_tmp rfl) (resV_tmp rfl), .cons _ (.cons _ (.cons _ (.refl _))), ?_, rfl⟩
  have e : ([0xa5 :: szL b.length, b, [UInt8.ofNat (90 : Int).toNat]] : List (List UInt8)).flatten = frm b := by
    simp [frm, szL]
  rw [e]
end Go.Proofs.Ytmdiabglbmgkkaa
namespace Go.Proofs.Ytmdiabglbmgkkaa
open Go.RowKit
abbrev bxS (b : Nat) (s : List UInt8) : Nat × Obj := (b, .cells #[.string (bstr s)] 9 (0, 0))
abbrev bxI (b : Nat) (x : Int) : Nat × Obj := (b, .cells #[.int .i64 x] 3 (0, 0))
def sz3 (u v w : UInt8) : Nat := (u.toNat * 256 + v.toNat) * 256 + w.toNat
theorem sz3_lt (u v w : UInt8) : sz3 u v w < 16777216 := by
  have := u.toNat_lt; have := v.toNat_lt; have := w.toNat_lt
  unfold sz3; omega
def nxt (r : List UInt8) (a : Nat) : List UInt8 × Nat × Int :=
  match r with
  | [] => ([], a, 9)
  | h :: t => if h ≠ 0xa5 then ([], a, 5) else
    match t with
    | u :: v :: w :: q => if 1048576 < sz3 u v w then ([], a, 5) else if q.length ≤ sz3 u v w then ([], a, 20) else if q[sz3 u v w]? ≠ some 0x5a then ([], a, 5) else (q.take (sz3 u v w), a + 4 + sz3 u v w + 1, 0)
    | _ => ([], a, 20)
attribute [local irreducible] Fn WC WL WR OW Qt YieldFn QW
section
variable {L : List (Nat × Obj)} {i j k sb ab lb nb : Nat} {s : List UInt8} {a n : Nat} {l : Int}
theorem nx2_fn (ha : L[i]? = some (bxI ab a)) (hl : L[j]? = some (bxI lb l)) (h0 : 0 ≤ l) : Fn Try.prog 76 [fP ab, fP lb] L (fun r L' => r = .bool true ∧ L' = L) := by
  refine Fn_enter Try.func76 rfl Try.ntmps76 rfl fun gw => ?_
  have d0 : decide ((a : Int) ≥ 0) = true := decide_eq_true (by omega)
  have d1 : decide (l ≥ 0) = true := decide_eq_true h0
  repeat (first | ((first | refine WL_Q ?_ | refine WL_Y ?_); (first | refine QW_a ?_)) | refine WL_nil ?_ | refine WL_un (h := ?_) | refine WL_N ?_ | refine WL_M ?_ | refine WC_seq ?_ | refine WC_ret ?_ | refine WC_region ?_)
  exact ⟨rfl, _, _, Res1 rfl (resV_tmp rfl), .refl _, by rw [d1], rfl⟩
theorem nx3_fn (hl : L[j]? = some (bxI lb l)) : Fn Try.prog 77 [fP lb] L (fun r L' => r = .bool (decide (l > 0)) ∧ L' = L) := by
  refine Fn_enter Try.func77 rfl Try.ntmps77 rfl fun gw => ?_
  repeat (first | ((first | refine WL_Q ?_); (first | refine QW_a ?_)) | refine WL_nil ?_ | refine WC_seq ?_ | refine WC_ret ?_ | refine WC_region ?_)
  exact ⟨rfl, _, _, Res1 rfl (resV_tmp rfl), .refl _, rfl, rfl⟩
theorem nx4_fn {u : UInt8} (hs : L[i]? = some (bxS sb s)) (ha : L[j]? = some (bxI ab a)) (hu : s[a]? = some u) : Fn Try.prog 78 [fP sb, fP ab] L (fun r L' => r = .bool ((u.toNat : Int) == 165) ∧ L' = L) := by
  refine Fn_enter Try.func78 rfl Try.ntmps78 rfl fun gw => ?_
  have h0 : (0 : Int) ≤ (a : Int) := by omega
  have h1 : s[((a : Nat) : Int).toNat]? = some u := by rw [Int.toNat_natCast]; exact hu
  repeat (first | ((first | refine WL_Q ?_); (first | refine QW_a ?_)) | refine WL_nil ?_ | refine WC_seq ?_ | refine WC_ret ?_ | refine WC_region ?_)
  exact ⟨rfl, _, _, Res1 rfl (resV_tmp rfl), .refl _, rfl, rfl⟩
theorem nx5_fn (hl : L[j]? = some (bxI lb l)) : Fn Try.prog 79 [fP lb] L (fun r L' => r = .bool (decide (l ≥ 4)) ∧ L' = L) := by
  refine Fn_enter Try.func79 rfl Try.ntmps79 rfl fun gw => ?_
  repeat (first | ((first | refine WL_Q ?_); (first | refine QW_a ?_)) | refine WL_nil ?_ | refine WC_seq ?_ | refine WC_ret ?_ | refine WC_region ?_)
  exact ⟨rfl, _, _, Res1 rfl (resV_tmp rfl), .refl _, rfl, rfl⟩
theorem nx6_fn (hl : L[i]? = some (bxI lb l)) (hn : L[j]? = some (bxI nb n)) (hb : n ≤ 1000000000) : Fn Try.prog 80 [fP lb, fP nb] L (fun r L' => r = .bool (decide (l > 4 + (n : Int))) ∧ L' = L) := by
  refine Fn_enter Try.func80 rfl Try.ntmps80 rfl fun gw => ?_
  have w : IntKind.i64.wrap (4 + (n : Int)) = 4 + (n : Int) := wI64 (by omega) (by omega)
  repeat (first | ((first | refine WL_Q ?_); (first | refine QW_a ?_)) | refine WL_nil ?_ | refine WC_seq ?_ | refine WC_ret ?_ | refine WC_region ?_)
  exact ⟨rfl, _, _, Res1 rfl (resV_tmp rfl), .refl _, by rw [w], rfl⟩
theorem nx7_fn {u : UInt8} (hs : L[i]? = some (bxS sb s)) (ha : L[j]? = some (bxI ab a)) (hn : L[k]? = some (bxI nb n)) (ha0 : a ≤ 1000000000) (hb : n ≤ 1000000000) (hu : s[a + 4 + n]? = some u) : Fn Try.prog 81 [fP sb, fP ab, fP nb] L (fun r L' => r = .bool ((u.toNat : Int) == 90) ∧ L' = L) := by
  refine Fn_enter Try.func81 rfl Try.ntmps81 rfl fun gw => ?_
  have w1 : IntKind.i64.wrap ((a : Int) + 4) = ((a + 4 : Nat) : Int) := by rw [wI64 (by omega) (by omega)]; omega
  have w2 : IntKind.i64.wrap (((a + 4 : Nat) : Int) + (n : Int)) = ((a + 4 + n : Nat) : Int) := by rw [wI64 (by omega) (by omega)]; omega
  have e : IntKind.i64.wrap (IntKind.i64.wrap ((a : Int) + 4) + (n : Int)) = ((a + 4 + n : Nat) : Int) := by rw [w1, w2]
  have h0 : (0 : Int) ≤ IntKind.i64.wrap (IntKind.i64.wrap ((a : Int) + 4) + (n : Int)) := by rw [e]; omega
  have h1 : s[(IntKind.i64.wrap (IntKind.i64.wrap ((a : Int) + 4) + (n : Int))).toNat]? = some u := by rw [e, Int.toNat_natCast]; exact hu
  repeat (first | ((first | refine WL_Q ?_); (first | refine QW_a ?_)) | refine WL_nil ?_ | refine WC_seq ?_ | refine WC_ret ?_ | refine WC_region ?_)
  exact ⟨rfl, _, _, Res1 rfl (resV_tmp rfl), .refl _, rfl, rfl⟩
theorem nx1_fn {u v w : UInt8} (hs : L[i]? = some (bxS sb s)) (ha : L[j]? = some (bxI ab a)) (ha0 : a ≤ 1000000000) (hl : a + 4 ≤ s.length) (hc : (s.take (a + 4)).drop (a + 1) = [u, v, w]) : Fn Try.prog 75 [fP sb, fP ab, fP nb] (bxI nb 0 :: L) (fun r L' => r = .bool (decide ((sz3 u v w : Int) ≤ 1048576)) ∧ L' = bxI nb (sz3 u v w) :: L) := by
  refine Fn_enter Try.func75 rfl Try.ntmps75 rfl fun gw => ?_
  have hs1 : (bxI nb 0 :: L)[i + 1]? = some (bxS sb s) := hs
  have ha1 : (bxI nb 0 :: L)[j + 1]? = some (bxI ab a) := ha
  have w1 : IntKind.i64.wrap ((a : Int) + 1) = ((a + 1 : Nat) : Int) := by rw [wI64 (by omega) (by omega)]; omega
  have w4 : IntKind.i64.wrap ((a : Int) + 4) = ((a + 4 : Nat) : Int) := by rw [wI64 (by omega) (by omega)]; omega
  have c0 : (0 : Int) ≤ IntKind.i64.wrap ((a : Int) + 1) := by rw [w1]; omega
  have c1 : IntKind.i64.wrap ((a : Int) + 1) ≤ IntKind.i64.wrap ((a : Int) + 4) := by rw [w1, w4]; omega
  have c2 : IntKind.i64.wrap ((a : Int) + 4) ≤ ((s.length : Nat) : Int) := by rw [w4]; omega
  repeat (first | ((first | refine WL_Q ?_); (first | refine QW_a ?_)) | refine WL_nil ?_ | refine WC_seq ?_ | refine WC_block ?_ | refine WC_cond_t (ht := ?_) | refine WC_cond_f (he := ?_) | refine WC_skip ?_ | refine WC_ret ?_ | refine WC_exit ?_ | refine WC_region (id := 0) ?_ | refine WC_region (id := 1) ?_)
  rw [w1, w4, Int.toNat_natCast, Int.toNat_natCast, hc]
  refine WL_op rfl (OW_text (l := [u, v, w]) rfl (by simp) (fun tb cap cs fr h1 h2 h3 => ?_))
  have g0 : cs[0 + (0 : Int).toNat * 1]? = some (bV u) := h3 0 u rfl
  have g1 : cs[0 + (1 : Int).toNat * 1]? = some (bV v) := h3 1 v rfl
  have g2 : cs[0 + (2 : Int).toNat * 1]? = some (bV w) := h3 2 w rfl
  have := u.toNat_lt; have := v.toNat_lt; have := w.toNat_lt
  have x0 : IntKind.i64.wrap (IntKind.i64.wrap (0 * 256) + IntKind.i64.wrap ((u.toNat : Nat) : Int)) = ((u.toNat : Nat) : Int) := by
    rw [wI64 (x := (u.toNat : Int)) (by omega) (by omega), show IntKind.i64.wrap (0 * 256) = 0 from rfl, wI64 (by omega) (by omega)]; omega
  have x1 : IntKind.i64.wrap (IntKind.i64.wrap (((u.toNat : Nat) : Int) * 256) + IntKind.i64.wrap ((v.toNat : Nat) : Int)) = ((u.toNat * 256 + v.toNat : Nat) : Int) := by
    rw [wI64 (x := (v.toNat : Int)) (by omega) (by omega), wI64 (x := (u.toNat : Int) * 256) (by omega) (by omega), wI64 (by omega) (by omega)]; omega
  have x2 : IntKind.i64.wrap (IntKind.i64.wrap (((u.toNat * 256 + v.toNat : Nat) : Int) * 256) + IntKind.i64.wrap ((w.toNat : Nat) : Int)) = ((sz3 u v w : Nat) : Int) := by
    unfold sz3
    rw [wI64 (x := (w.toNat : Int)) (by omega) (by omega), wI64 (x := ((u.toNat * 256 + v.toNat : Nat) : Int) * 256) (by omega) (by omega), wI64 (by omega) (by omega)]; omega
  repeat (first | ((first | refine WL_Q ?_); (first | refine QW_a ?_)) | refine WL_nil ?_ | refine WC_seq ?_ | refine WC_block ?_ | refine WC_cond_t (ht := ?_) | refine WC_cond_f (he := ?_) | refine WC_skip ?_ | refine WC_ret ?_ | refine WC_exit ?_ | refine WC_region (id := 1) ?_)
  refine WC_wk [(14, .int .i64 0), (13, .int .i64 3), (12, .slice (some ⟨tb, 0, none⟩) 3 cap), (2, fP nb)] ⟨rfl, rfl, rfl, rfl, trivial⟩ ?_
  refine WC_unroll 4 (WCn_s ?_)
  repeat (first | ((first | refine WL_Q ?_); (first | refine QW_a ?_)) | ((first | refine WL_op rfl ?_); (first | refine OW_st1 rfl ?_)) | refine WL_nil ?_ | refine WC_seq ?_ | refine WC_block ?_ | refine WC_cond_t (ht := ?_) | refine WC_cond_f (he := ?_) | refine WC_skip ?_ | refine WC_ret ?_ | refine WC_exit ?_ | refine WC_region (id := 2) ?_ | refine WC_region (id := 3) ?_ | refine WC_region (id := 4) ?_)
  rw [x0]
  repeat (first | ((first | refine WL_Q ?_); (first | refine QW_a ?_)) | refine WL_nil ?_ | refine WC_seq ?_ | refine WC_block ?_ | refine WC_cond_t (ht := ?_) | refine WC_cond_f (he := ?_) | refine WC_skip ?_ | refine WC_ret ?_ | refine WC_exit ?_ | refine WC_region (id := 5) ?_)
  refine WC_wk [(14, .int .i64 1), (13, .int .i64 3), (12, .slice (some ⟨tb, 0, none⟩) 3 cap), (2, fP nb)] ⟨rfl, rfl, rfl, rfl, trivial⟩ ?_
  repeat (first | ((first | refine WL_Q ?_); (first | refine QW_a ?_)) | ((first | refine WL_op rfl ?_); (first | refine OW_st1 rfl ?_)) | refine WL_nil ?_ | refine WC_seq ?_ | refine WC_block ?_ | refine WC_cond_t (ht := ?_) | refine WC_cond_f (he := ?_) | refine WC_skip ?_ | refine WC_ret ?_ | refine WC_exit ?_ | refine WC_region (id := 2) ?_ | refine WC_region (id := 3) ?_ | refine WC_region (id := 4) ?_)
  rw [x1]
  repeat (first | ((first | refine WL_Q ?_); (first | refine QW_a ?_)) | refine WL_nil ?_ | refine WC_seq ?_ | refine WC_block ?_ | refine WC_cond_t (ht := ?_) | refine WC_cond_f (he := ?_) | refine WC_skip ?_ | refine WC_ret ?_ | refine WC_exit ?_ | refine WC_region (id := 5) ?_)
  refine WC_wk [(14, .int .i64 2), (13, .int .i64 3), (12, .slice (some ⟨tb, 0, none⟩) 3 cap), (2, fP nb)] ⟨rfl, rfl, rfl, rfl, trivial⟩ ?_
  repeat (first | ((first | refine WL_Q ?_); (first | refine QW_a ?_)) | ((first | refine WL_op rfl ?_); (first | refine OW_st1 rfl ?_)) | refine WL_nil ?_ | refine WC_seq ?_ | refine WC_block ?_ | refine WC_cond_t (ht := ?_) | refine WC_cond_f (he := ?_) | refine WC_skip ?_ | refine WC_ret ?_ | refine WC_exit ?_ | refine WC_region (id := 2) ?_ | refine WC_region (id := 3) ?_ | refine WC_region (id := 4) ?_)
  rw [x2]
  repeat (first | ((first | refine WL_Q ?_); (first | refine QW_a ?_)) | refine WL_nil ?_ | refine WC_seq ?_ | refine WC_block ?_ | refine WC_cond_t (ht := ?_) | refine WC_cond_f (he := ?_) | refine WC_skip ?_ | refine WC_ret ?_ | refine WC_exit ?_ | refine WC_region (id := 5) ?_)
  refine WC_wk [(14, .int .i64 3), (13, .int .i64 3), (12, .slice (some ⟨tb, 0, none⟩) 3 cap), (2, fP nb)] ⟨rfl, rfl, rfl, rfl, trivial⟩ ?_
  repeat (first | ((first | refine WL_Q ?_); (first | refine QW_a ?_)) | refine WL_nil ?_ | refine WC_seq ?_ | refine WC_block ?_ | refine WC_cond_t (ht := ?_) | refine WC_cond_f (he := ?_) | refine WC_skip ?_ | refine WC_ret ?_ | refine WC_exit ?_ | refine WC_region (id := 2) ?_ | refine WC_region (id := 6) ?_)
  exact ⟨rfl, _, _, Res1 rfl (resV_tmp rfl), .cons _ (.refl _), rfl, rfl⟩
end
end Go.Proofs.Ytmdiabglbmgkkaa
namespace Go.Proofs.Ytmdiabglbmgkkaa
open Go.RowKit
attribute [local irreducible] Fn WC WL WR OW Qt YieldFn QW
theorem nxt_out {l : List UInt8} {a : Nat} {e : Int} {l' : List UInt8} {a' : Nat} {e' : Int} (h1 : l = l') (h2 : a = a') (h3 : e = e') : (Value.tuple #[.string (bstr l), .int .i64 (a : Nat), .int .i64 e]) = .tuple #[.string (bstr l'), .int .i64 (a' : Nat), .int .i64 e'] := by rw [h1, h2, h3]
theorem u8eq {u c : UInt8} {n : Int} (hc : (c.toNat : Int) = n) : ((u.toNat : Int) == n) = decide (u = c) := by
  subst hc
  rw [Bool.eq_iff_iff, beq_iff_eq, decide_eq_true_iff, Int.ofNat_inj, UInt8.toNat_inj]
set_option maxHeartbeats 4000000 in
theorem next_fn {s : List UInt8} {a : Nat} {L : List (Nat × Obj)} (hs : s.length ≤ 100000000) (ha : a ≤ s.length) : Fn Try.prog 68 [.string (bstr s), .int .i64 a] L (fun r L' => r = .tuple #[.string (bstr (nxt (s.drop a) a).1), .int .i64 (nxt (s.drop a) a).2.1, .int .i64 (nxt (s.drop a) a).2.2] ∧ L' = L) := by
  refine Fn_enter Try.func68 rfl Try.ntmps68 rfl fun gw => ?_
  repeat (first | ((first | refine WL_Q ?_); (first | refine QW_a ?_)) | ((first | refine WL_op rfl ?_); (first | refine OW_box rfl (hk := fun _ => ?_) | refine OW_alloc rfl (hk := fun _ => ?_) | refine OW_st1 rfl ?_)) | refine WL_nil ?_ | refine WC_seq ?_ | refine WC_block ?_ | refine WC_cond_t (ht := ?_) | refine WC_cond_f (he := ?_) | refine WC_skip ?_ | refine WC_ret ?_ | refine WC_exit ?_ | refine WC_region (id := 0) ?_ | refine WC_region (id := 1) ?_ | refine WC_region (id := 2) ?_ | refine WC_region (id := 3) ?_)
  rename_i sb ab lb nb
  have wl : IntKind.i64.wrap (((s.length : Nat) : Int) - (a : Int)) = ((s.length - a : Nat) : Int) := by rw [wI64 (by omega) (by omega)]; omega
  rw [wl]
  refine WL_op rfl (OW_buildS rfl (hk := ?_))
  intro xb
  repeat (first | ((first | refine WL_Q ?_); (first | refine QW_a ?_)) | refine WL_nil ?_ | refine WC_seq ?_ | refine WC_block ?_ | refine WC_cond_t (ht := ?_) | refine WC_cond_f (he := ?_) | refine WC_skip ?_ | refine WC_ret ?_ | refine WC_exit ?_ | refine WC_region (id := 3) ?_)
  obtain ⟨cs, hcs⟩ : ∃ cs : Array Value, cs = (List.flatMap (fun x : Value => x.cells.toList) [.agg #[.func (.func 76) #[] #[fP ab, fP lb], .int .i64 2], .agg #[.func (.func 77) #[] #[fP lb], .int .i64 9], .agg #[.func (.func 78) #[] #[fP sb, fP ab], .int .i64 5], .agg #[.func (.func 79) #[] #[fP lb], .int .i64 20], .agg #[.func (.func 75) #[] #[fP sb, fP ab, fP nb], .int .i64 5], .agg #[.func (.func 80) #[] #[fP lb, fP nb], .int .i64 20], .agg #[.func (.func 81) #[] #[fP sb, fP ab, fP nb], .int .i64 5]]).toArray := ⟨_, rfl⟩
  have x0 : cs.extract ((0 : Int).toNat * 2) ((0 : Int).toNat * 2 + 2) = #[.func (.func 76) #[] #[fP ab, fP lb], .int .i64 2] := by rw [hcs]; rfl
  have z0 : (0 : Int).toNat * 2 + 2 ≤ 14 := by decide
  have x1 : cs.extract ((1 : Int).toNat * 2) ((1 : Int).toNat * 2 + 2) = #[.func (.func 77) #[] #[fP lb], .int .i64 9] := by rw [hcs]; rfl
  have z1 : (1 : Int).toNat * 2 + 2 ≤ 14 := by decide
  have x2 : cs.extract ((2 : Int).toNat * 2) ((2 : Int).toNat * 2 + 2) = #[.func (.func 78) #[] #[fP sb, fP ab], .int .i64 5] := by rw [hcs]; rfl
  have z2 : (2 : Int).toNat * 2 + 2 ≤ 14 := by decide
  have x3 : cs.extract ((3 : Int).toNat * 2) ((3 : Int).toNat * 2 + 2) = #[.func (.func 79) #[] #[fP lb], .int .i64 20] := by rw [hcs]; rfl
  have z3 : (3 : Int).toNat * 2 + 2 ≤ 14 := by decide
  have x4 : cs.extract ((4 : Int).toNat * 2) ((4 : Int).toNat * 2 + 2) = #[.func (.func 75) #[] #[fP sb, fP ab, fP nb], .int .i64 5] := by rw [hcs]; rfl
  have z4 : (4 : Int).toNat * 2 + 2 ≤ 14 := by decide
  have x5 : cs.extract ((5 : Int).toNat * 2) ((5 : Int).toNat * 2 + 2) = #[.func (.func 80) #[] #[fP lb, fP nb], .int .i64 20] := by rw [hcs]; rfl
  have z5 : (5 : Int).toNat * 2 + 2 ≤ 14 := by decide
  have x6 : cs.extract ((6 : Int).toNat * 2) ((6 : Int).toNat * 2 + 2) = #[.func (.func 81) #[] #[fP sb, fP ab, fP nb], .int .i64 5] := by rw [hcs]; rfl
  have z6 : (6 : Int).toNat * 2 + 2 ≤ 14 := by decide
  have sz : cs.size = 14 := by rw [hcs]; rfl
  have hs14 : ∀ n : Nat, n ≤ 14 → n ≤ cs.size := fun n h => by rw [sz]; exact h
  refine WC_dropL ((xb, .cells cs 128 (0, 0)) :: bxI nb 0 :: bxI lb ((s.length - a : Nat) : Int) :: bxI ab (a : Int) :: bxS sb s :: L) (by rw [hcs]; exact .refl _) ?_
  clear hcs
  refine WC_wk [(33, .int .i64 0), (32, .int .i64 7), (31, .slice (some ⟨xb, 0, none⟩) 7 7), (8, fP nb), (3, fP ab), (2, fP sb)] ⟨rfl, rfl, rfl, rfl, rfl, rfl, trivial⟩ ?_
  refine WC_unroll 8 (WCn_s ?_)
  have y0 := hs14 _ z0
  repeat (first | ((first | refine WL_Q ?_); (first | refine QW_a ?_)) | ((first | refine WL_op rfl ?_); (first | refine OW_alloc rfl (hk := fun _ => ?_) | refine OW_stA rfl ?_ | refine OW_stN rfl ?_)) | refine WL_nil ?_ | refine WC_seq ?_ | refine WC_block ?_ | refine WC_cond_t (ht := ?_) | refine WC_cond_f (he := ?_) | refine WC_skip ?_ | refine WC_ret ?_ | refine WC_exit ?_ | refine WC_region (id := 4) ?_ | refine WC_region (id := 5) ?_)
  rw [x0]
  repeat (first | ((first | refine WL_Q ?_); (first | refine QW_a ?_)) | ((first | refine WL_op rfl ?_); (first | refine OW_alloc rfl (hk := fun _ => ?_) | refine OW_stA rfl ?_ | refine OW_stN rfl ?_)) | refine WL_nil ?_ | refine WC_seq ?_ | refine WC_block ?_ | refine WC_cond_t (ht := ?_) | refine WC_cond_f (he := ?_) | refine WC_skip ?_ | refine WC_ret ?_ | refine WC_exit ?_ | refine WC_region (id := 5) ?_ | refine WC_region (id := 6) ?_)
  refine WL_op rfl (OW_callv rfl rfl rfl rfl rfl (nx2_fn (i := 4) (j := 3) (a := a) (l := ((s.length - a : Nat) : Int)) rfl rfl (by omega)) ?_)
  rintro _ _ ⟨rfl, rfl⟩
  repeat (first | ((first | refine WL_Q ?_); (first | refine QW_a ?_)) | refine WL_nil ?_ | refine WC_seq ?_ | refine WC_block ?_ | refine WC_cond_t (ht := ?_) | refine WC_cond_f (he := ?_) | refine WC_skip ?_ | refine WC_ret ?_ | refine WC_exit ?_ | refine WC_region (id := 6) ?_ | refine WC_region (id := 8) ?_)
  refine WC_dropL ((xb, .cells cs 128 (0, 0)) :: bxI nb 0 :: bxI lb ((s.length - a : Nat) : Int) :: bxI ab (a : Int) :: bxS sb s :: L) (.cons _ (.refl _)) ?_
  refine WC_wk [(33, .int .i64 1), (32, .int .i64 7), (31, .slice (some ⟨xb, 0, none⟩) 7 7), (8, fP nb), (3, fP ab), (2, fP sb)] ⟨rfl, rfl, rfl, rfl, rfl, rfl, trivial⟩ ?_
  have y1 := hs14 _ z1
  repeat (first | ((first | refine WL_Q ?_); (first | refine QW_a ?_)) | ((first | refine WL_op rfl ?_); (first | refine OW_alloc rfl (hk := fun _ => ?_) | refine OW_stA rfl ?_ | refine OW_stN rfl ?_)) | refine WL_nil ?_ | refine WC_seq ?_ | refine WC_block ?_ | refine WC_cond_t (ht := ?_) | refine WC_cond_f (he := ?_) | refine WC_skip ?_ | refine WC_ret ?_ | refine WC_exit ?_ | refine WC_region (id := 4) ?_ | refine WC_region (id := 5) ?_)
  rw [x1]
  repeat (first | ((first | refine WL_Q ?_); (first | refine QW_a ?_)) | ((first | refine WL_op rfl ?_); (first | refine OW_alloc rfl (hk := fun _ => ?_) | refine OW_stA rfl ?_ | refine OW_stN rfl ?_)) | refine WL_nil ?_ | refine WC_seq ?_ | refine WC_block ?_ | refine WC_cond_t (ht := ?_) | refine WC_cond_f (he := ?_) | refine WC_skip ?_ | refine WC_ret ?_ | refine WC_exit ?_ | refine WC_region (id := 5) ?_ | refine WC_region (id := 6) ?_)
  refine WL_op rfl (OW_callv rfl rfl rfl rfl rfl (nx3_fn (j := 3) rfl) ?_)
  rintro _ _ ⟨rfl, rfl⟩
  have hdl : (s.drop a).length = s.length - a := List.length_drop
  cases hr : s.drop a with
  | nil =>
    rw [hr] at hdl
    have d : (!decide ((((s.length - a : Nat)) : Int) > 0)) = true := by rw [← hdl]; rfl
    repeat (first | ((first | refine WL_Q ?_ | refine WR_Q rfl ?_ | refine WR_late rfl rfl rfl (OW_Q ?_)); (first | refine QW_a ?_)) | refine WL_nil ?_ | refine WR_nil ?_ | refine WC_seq ?_ | refine WC_block ?_ | refine WC_cond_t (ht := ?_) | refine WC_cond_f (he := ?_) | refine WC_skip ?_ | refine WC_ret ?_ | refine WC_exit ?_ | refine WC_draw_all (id := 7) 6 (.calm 0 <| .calm 1 <| .calm 2 <| .calm 3 <| .calm 4 <| .calm 5 <| .done) mixed (by kernel_rfl) ?_ | refine WC_region (id := 6) ?_)
    exact ⟨rfl, _, L, Res3 rfl (resV_tmp rfl) (resV_tmp rfl) (resV_tmp rfl), (by repeat (first | exact List.Sublist.refl _ | apply List.Sublist.cons)), nxt_out rfl rfl rfl, rfl⟩
  | cons h t =>
    rw [hr] at hdl
    have gh : s[a]? = some h := by have := List.getElem?_drop (xs := s) (i := a) (j := 0); rw [hr] at this; simpa using this.symm
    have d : (!decide ((((s.length - a : Nat)) : Int) > 0)) = false := by rw [← hdl, decide_eq_true (by simp)]; rfl
    repeat (first | ((first | refine WL_Q ?_); (first | refine QW_a ?_)) | refine WL_nil ?_ | refine WC_seq ?_ | refine WC_block ?_ | refine WC_cond_t (ht := ?_) | refine WC_cond_f (he := ?_) | refine WC_skip ?_ | refine WC_ret ?_ | refine WC_exit ?_ | refine WC_region (id := 6) ?_ | refine WC_region (id := 8) ?_)
    refine WC_dropL ((xb, .cells cs 128 (0, 0)) :: bxI nb 0 :: bxI lb ((s.length - a : Nat) : Int) :: bxI ab (a : Int) :: bxS sb s :: L) (.cons _ (.refl _)) ?_
    refine WC_wk [(33, .int .i64 2), (32, .int .i64 7), (31, .slice (some ⟨xb, 0, none⟩) 7 7), (8, fP nb), (3, fP ab), (2, fP sb)] ⟨rfl, rfl, rfl, rfl, rfl, rfl, trivial⟩ ?_
    have y2 := hs14 _ z2
    repeat (first | ((first | refine WL_Q ?_); (first | refine QW_a ?_)) | ((first | refine WL_op rfl ?_); (first | refine OW_alloc rfl (hk := fun _ => ?_) | refine OW_stA rfl ?_ | refine OW_stN rfl ?_)) | refine WL_nil ?_ | refine WC_seq ?_ | refine WC_block ?_ | refine WC_cond_t (ht := ?_) | refine WC_cond_f (he := ?_) | refine WC_skip ?_ | refine WC_ret ?_ | refine WC_exit ?_ | refine WC_region (id := 4) ?_ | refine WC_region (id := 5) ?_)
    rw [x2]
    repeat (first | ((first | refine WL_Q ?_); (first | refine QW_a ?_)) | ((first | refine WL_op rfl ?_); (first | refine OW_alloc rfl (hk := fun _ => ?_) | refine OW_stA rfl ?_ | refine OW_stN rfl ?_)) | refine WL_nil ?_ | refine WC_seq ?_ | refine WC_block ?_ | refine WC_cond_t (ht := ?_) | refine WC_cond_f (he := ?_) | refine WC_skip ?_ | refine WC_ret ?_ | refine WC_exit ?_ | refine WC_region (id := 5) ?_ | refine WC_region (id := 6) ?_)
    refine WL_op rfl (OW_callv rfl rfl rfl rfl rfl (nx4_fn (i := 5) (j := 4) rfl rfl gh) ?_)
    rintro _ _ ⟨rfl, rfl⟩
    rw [u8eq (c := 0xa5) (n := 165) rfl]
    by_cases hh : h = 0xa5
    rotate_left
    · have d : (!decide (h = 0xa5)) = true := by rw [decide_eq_false hh]; rfl
      repeat (first | ((first | refine WL_Q ?_ | refine WR_Q rfl ?_ | refine WR_late rfl rfl rfl (OW_Q ?_)); (first | refine QW_a ?_)) | refine WL_nil ?_ | refine WR_nil ?_ | refine WC_seq ?_ | refine WC_block ?_ | refine WC_cond_t (ht := ?_) | refine WC_cond_f (he := ?_) | refine WC_skip ?_ | refine WC_ret ?_ | refine WC_exit ?_ | refine WC_draw_all (id := 7) 6 (.calm 0 <| .calm 1 <| .calm 2 <| .calm 3 <| .calm 4 <| .calm 5 <| .done) mixed (by kernel_rfl) ?_ | refine WC_region (id := 6) ?_)
      exact ⟨rfl, _, L, Res3 rfl (resV_tmp rfl) (resV_tmp rfl) (resV_tmp rfl), (by repeat (first | exact List.Sublist.refl _ | apply List.Sublist.cons)), nxt_out (by simp only [nxt]; rw [if_pos hh]) (by simp only [nxt]; rw [if_pos hh]) (by simp only [nxt]; rw [if_pos hh]) , rfl⟩
    have d : (!decide (h = 0xa5)) = false := by rw [decide_eq_true hh]; rfl
    repeat (first | ((first | refine WL_Q ?_); (first | refine QW_a ?_)) | refine WL_nil ?_ | refine WC_seq ?_ | refine WC_block ?_ | refine WC_cond_t (ht := ?_) | refine WC_cond_f (he := ?_) | refine WC_skip ?_ | refine WC_ret ?_ | refine WC_exit ?_ | refine WC_region (id := 6) ?_ | refine WC_region (id := 8) ?_)
    refine WC_dropL ((xb, .cells cs 128 (0, 0)) :: bxI nb 0 :: bxI lb ((s.length - a : Nat) : Int) :: bxI ab (a : Int) :: bxS sb s :: L) (.cons _ (.refl _)) ?_
    refine WC_wk [(33, .int .i64 3), (32, .int .i64 7), (31, .slice (some ⟨xb, 0, none⟩) 7 7), (8, fP nb), (3, fP ab), (2, fP sb)] ⟨rfl, rfl, rfl, rfl, rfl, rfl, trivial⟩ ?_
    have y3 := hs14 _ z3
    repeat (first | ((first | refine WL_Q ?_); (first | refine QW_a ?_)) | ((first | refine WL_op rfl ?_); (first | refine OW_alloc rfl (hk := fun _ => ?_) | refine OW_stA rfl ?_ | refine OW_stN rfl ?_)) | refine WL_nil ?_ | refine WC_seq ?_ | refine WC_block ?_ | refine WC_cond_t (ht := ?_) | refine WC_cond_f (he := ?_) | refine WC_skip ?_ | refine WC_ret ?_ | refine WC_exit ?_ | refine WC_region (id := 4) ?_ | refine WC_region (id := 5) ?_)
    rw [x3]
    repeat (first | ((first | refine WL_Q ?_); (first | refine QW_a ?_)) | ((first | refine WL_op rfl ?_); (first | refine OW_alloc rfl (hk := fun _ => ?_) | refine OW_stA rfl ?_ | refine OW_stN rfl ?_)) | refine WL_nil ?_ | refine WC_seq ?_ | refine WC_block ?_ | refine WC_cond_t (ht := ?_) | refine WC_cond_f (he := ?_) | refine WC_skip ?_ | refine WC_ret ?_ | refine WC_exit ?_ | refine WC_region (id := 5) ?_ | refine WC_region (id := 6) ?_)
    refine WL_op rfl (OW_callv rfl rfl rfl rfl rfl (nx5_fn (j := 3) rfl) ?_)
    rintro _ _ ⟨rfl, rfl⟩
    by_cases h4 : s.length - a < 4
    · have d : (!decide ((((s.length - a : Nat)) : Int) ≥ 4)) = true := by rw [decide_eq_false (by omega)]; rfl
      have ht : t.length < 3 := by simp at hdl; omega
      have e : nxt (h :: t) a = ([], a, 20) := by
        simp only [nxt]
        rw [if_neg (not_not_intro hh)]
        match t, ht with
        | [], _ => rfl
        | [_], _ => rfl
        | [_, _], _ => rfl
      repeat (first | ((first | refine WL_Q ?_ | refine WR_Q rfl ?_ | refine WR_late rfl rfl rfl (OW_Q ?_)); (first | refine QW_a ?_)) | refine WL_nil ?_ | refine WR_nil ?_ | refine WC_seq ?_ | refine WC_block ?_ | refine WC_cond_t (ht := ?_) | refine WC_cond_f (he := ?_) | refine WC_skip ?_ | refine WC_ret ?_ | refine WC_exit ?_ | refine WC_draw_all (id := 7) 6 (.calm 0 <| .calm 1 <| .calm 2 <| .calm 3 <| .calm 4 <| .calm 5 <| .done) mixed (by kernel_rfl) ?_ | refine WC_region (id := 6) ?_)
      exact ⟨rfl, _, L, Res3 rfl (resV_tmp rfl) (resV_tmp rfl) (resV_tmp rfl), (by repeat (first | exact List.Sublist.refl _ | apply List.Sublist.cons)), nxt_out (by rw [e]) (by rw [e]) (by rw [e]), rfl⟩
    have d : (!decide ((((s.length - a : Nat)) : Int) ≥ 4)) = false := by rw [decide_eq_true (by omega)]; rfl
    obtain ⟨u, v, w, q, rfl⟩ : ∃ u v w q, t = u :: v :: w :: q := by
      match t, (show 3 ≤ t.length by simp at hdl; omega) with
      | u :: v :: w :: q, _ => exact ⟨u, v, w, q, rfl⟩
    have hq : q.length + 4 = s.length - a := by simpa using hdl
    have hcut : (s.take (a + 4)).drop (a + 1) = [u, v, w] := by
      rw [List.drop_take, show a + 4 - (a + 1) = 3 by omega, ← List.drop_drop, hr]
      rfl
    have hq2 : q = s.drop (a + 4) := by rw [← List.drop_drop, hr]; rfl
    have hlt := sz3_lt u v w
    repeat (first | ((first | refine WL_Q ?_); (first | refine QW_a ?_)) | refine WL_nil ?_ | refine WC_seq ?_ | refine WC_block ?_ | refine WC_cond_t (ht := ?_) | refine WC_cond_f (he := ?_) | refine WC_skip ?_ | refine WC_ret ?_ | refine WC_exit ?_ | refine WC_region (id := 6) ?_ | refine WC_region (id := 8) ?_)
    refine WC_dropL ((xb, .cells cs 128 (0, 0)) :: bxI nb 0 :: bxI lb ((s.length - a : Nat) : Int) :: bxI ab (a : Int) :: bxS sb s :: L) (.cons _ (.refl _)) ?_
    refine WC_wk [(33, .int .i64 4), (32, .int .i64 7), (31, .slice (some ⟨xb, 0, none⟩) 7 7), (8, fP nb), (3, fP ab), (2, fP sb)] ⟨rfl, rfl, rfl, rfl, rfl, rfl, trivial⟩ ?_
    have y4 := hs14 _ z4
    repeat (first | ((first | refine WL_Q ?_); (first | refine QW_a ?_)) | ((first | refine WL_op rfl ?_); (first | refine OW_alloc rfl (hk := fun _ => ?_) | refine OW_stA rfl ?_ | refine OW_stN rfl ?_)) | refine WL_nil ?_ | refine WC_seq ?_ | refine WC_block ?_ | refine WC_cond_t (ht := ?_) | refine WC_cond_f (he := ?_) | refine WC_skip ?_ | refine WC_ret ?_ | refine WC_exit ?_ | refine WC_region (id := 4) ?_ | refine WC_region (id := 5) ?_)
    rw [x4]
    repeat (first | ((first | refine WL_Q ?_); (first | refine QW_a ?_)) | ((first | refine WL_op rfl ?_); (first | refine OW_alloc rfl (hk := fun _ => ?_) | refine OW_stA rfl ?_ | refine OW_stN rfl ?_)) | refine WL_nil ?_ | refine WC_seq ?_ | refine WC_block ?_ | refine WC_cond_t (ht := ?_) | refine WC_cond_f (he := ?_) | refine WC_skip ?_ | refine WC_ret ?_ | refine WC_exit ?_ | refine WC_region (id := 5) ?_ | refine WC_region (id := 6) ?_)
    rename_i tb
    refine WL_front 2 rfl ?_
    refine WL_op rfl (OW_callv rfl rfl rfl rfl rfl (nx1_fn (i := 4) (j := 3) (a := a) (L := _ :: _ :: _ :: _ :: _ :: L) rfl rfl (by omega) (by omega) hcut) ?_)
    rintro _ _ ⟨rfl, rfl⟩
    have nx : nxt (h :: u :: v :: w :: q) a = if 1048576 < sz3 u v w then ([], a, 5) else if q.length ≤ sz3 u v w then ([], a, 20) else if q[sz3 u v w]? ≠ some 0x5a then ([], a, 5) else (q.take (sz3 u v w), a + 4 + sz3 u v w + 1, 0) := by
      simp only [nxt]
      rw [if_neg (not_not_intro hh)]
    by_cases h5 : 1048576 < sz3 u v w
    · have d : (!decide (((sz3 u v w : Nat) : Int) ≤ 1048576)) = true := by rw [decide_eq_false (by omega)]; rfl
      rw [if_pos h5] at nx
      repeat (first | ((first | refine WL_Q ?_ | refine WR_Q rfl ?_ | refine WR_late rfl rfl rfl (OW_Q ?_)); (first | refine QW_a ?_)) | refine WL_nil ?_ | refine WR_nil ?_ | refine WC_seq ?_ | refine WC_block ?_ | refine WC_cond_t (ht := ?_) | refine WC_cond_f (he := ?_) | refine WC_skip ?_ | refine WC_ret ?_ | refine WC_exit ?_ | refine WC_draw_all (id := 7) 6 (.calm 0 <| .calm 1 <| .calm 2 <| .calm 3 <| .calm 4 <| .calm 5 <| .done) mixed (by kernel_rfl) ?_ | refine WC_region (id := 6) ?_)
      exact ⟨rfl, _, L, Res3 rfl (resV_tmp rfl) (resV_tmp rfl) (resV_tmp rfl), (by repeat (first | exact List.Sublist.refl _ | apply List.Sublist.cons)), nxt_out (by rw [nx]) (by rw [nx]) (by rw [nx]), rfl⟩
    rw [if_neg h5] at nx
    have d : (!decide (((sz3 u v w : Nat) : Int) ≤ 1048576)) = false := by rw [decide_eq_true (by omega)]; rfl
    repeat (first | ((first | refine WL_Q ?_); (first | refine QW_a ?_)) | refine WL_nil ?_ | refine WC_seq ?_ | refine WC_block ?_ | refine WC_cond_t (ht := ?_) | refine WC_cond_f (he := ?_) | refine WC_skip ?_ | refine WC_ret ?_ | refine WC_exit ?_ | refine WC_region (id := 6) ?_ | refine WC_region (id := 8) ?_)
    refine WC_dropL (bxI nb (sz3 u v w) :: (xb, .cells cs 128 (0, 0)) :: bxI lb ((s.length - a : Nat) : Int) :: bxI ab (a : Int) :: bxS sb s :: L) (.cons_cons _ (.cons _ (.refl _))) ?_
    refine WC_front 1 rfl ?_
    refine WC_wk [(33, .int .i64 5), (32, .int .i64 7), (31, .slice (some ⟨xb, 0, none⟩) 7 7), (8, fP nb), (3, fP ab), (2, fP sb)] ⟨rfl, rfl, rfl, rfl, rfl, rfl, trivial⟩ ?_
    have y5 := hs14 _ z5
    repeat (first | ((first | refine WL_Q ?_); (first | refine QW_a ?_)) | ((first | refine WL_op rfl ?_); (first | refine OW_alloc rfl (hk := fun _ => ?_) | refine OW_stA rfl ?_ | refine OW_stN rfl ?_)) | refine WL_nil ?_ | refine WC_seq ?_ | refine WC_block ?_ | refine WC_cond_t (ht := ?_) | refine WC_cond_f (he := ?_) | refine WC_skip ?_ | refine WC_ret ?_ | refine WC_exit ?_ | refine WC_region (id := 4) ?_ | refine WC_region (id := 5) ?_)
    rw [x5]
    repeat (first | ((first | refine WL_Q ?_); (first | refine QW_a ?_)) | ((first | refine WL_op rfl ?_); (first | refine OW_alloc rfl (hk := fun _ => ?_) | refine OW_stA rfl ?_ | refine OW_stN rfl ?_)) | refine WL_nil ?_ | refine WC_seq ?_ | refine WC_block ?_ | refine WC_cond_t (ht := ?_) | refine WC_cond_f (he := ?_) | refine WC_skip ?_ | refine WC_ret ?_ | refine WC_exit ?_ | refine WC_region (id := 5) ?_ | refine WC_region (id := 6) ?_)
    refine WL_op rfl (OW_callv rfl rfl rfl rfl rfl (nx6_fn (i := 3) (j := 2) (n := sz3 u v w) rfl rfl (by omega)) ?_)
    rintro _ _ ⟨rfl, rfl⟩
    by_cases h6 : q.length ≤ sz3 u v w
    · have d : (!decide ((((s.length - a : Nat)) : Int) > 4 + ((sz3 u v w : Nat) : Int))) = true := by rw [decide_eq_false (by omega)]; rfl
      rw [if_pos h6] at nx
      repeat (first | ((first | refine WL_Q ?_ | refine WR_Q rfl ?_ | refine WR_late rfl rfl rfl (OW_Q ?_)); (first | refine QW_a ?_)) | refine WL_nil ?_ | refine WR_nil ?_ | refine WC_seq ?_ | refine WC_block ?_ | refine WC_cond_t (ht := ?_) | refine WC_cond_f (he := ?_) | refine WC_skip ?_ | refine WC_ret ?_ | refine WC_exit ?_ | refine WC_draw_all (id := 7) 6 (.calm 0 <| .calm 1 <| .calm 2 <| .calm 3 <| .calm 4 <| .calm 5 <| .done) mixed (by kernel_rfl) ?_ | refine WC_region (id := 6) ?_)
      exact ⟨rfl, _, L, Res3 rfl (resV_tmp rfl) (resV_tmp rfl) (resV_tmp rfl), (by repeat (first | exact List.Sublist.refl _ | apply List.Sublist.cons)), nxt_out (by rw [nx]) (by rw [nx]) (by rw [nx]), rfl⟩
    rw [if_neg h6] at nx
    have d : (!decide ((((s.length - a : Nat)) : Int) > 4 + ((sz3 u v w : Nat) : Int))) = false := by rw [decide_eq_true (by omega)]; rfl
    obtain ⟨x, hx⟩ : ∃ x, q[sz3 u v w]? = some x := ⟨_, List.getElem?_eq_getElem (by omega)⟩
    have hx2 : s[a + 4 + sz3 u v w]? = some x := by rw [hq2, List.getElem?_drop] at hx; exact hx
    repeat (first | ((first | refine WL_Q ?_); (first | refine QW_a ?_)) | refine WL_nil ?_ | refine WC_seq ?_ | refine WC_block ?_ | refine WC_cond_t (ht := ?_) | refine WC_cond_f (he := ?_) | refine WC_skip ?_ | refine WC_ret ?_ | refine WC_exit ?_ | refine WC_region (id := 6) ?_ | refine WC_region (id := 8) ?_)
    refine WC_dropL ((xb, .cells cs 128 (0, 0)) :: bxI nb (sz3 u v w) :: bxI lb ((s.length - a : Nat) : Int) :: bxI ab (a : Int) :: bxS sb s :: L) (.cons _ (.refl _)) ?_
    refine WC_wk [(33, .int .i64 6), (32, .int .i64 7), (31, .slice (some ⟨xb, 0, none⟩) 7 7), (8, fP nb), (3, fP ab), (2, fP sb)] ⟨rfl, rfl, rfl, rfl, rfl, rfl, trivial⟩ ?_
    have y6 := hs14 _ z6
    repeat (first | ((first | refine WL_Q ?_); (first | refine QW_a ?_)) | ((first | refine WL_op rfl ?_); (first | refine OW_alloc rfl (hk := fun _ => ?_) | refine OW_stA rfl ?_ | refine OW_stN rfl ?_)) | refine WL_nil ?_ | refine WC_seq ?_ | refine WC_block ?_ | refine WC_cond_t (ht := ?_) | refine WC_cond_f (he := ?_) | refine WC_skip ?_ | refine WC_ret ?_ | refine WC_exit ?_ | refine WC_region (id := 4) ?_ | refine WC_region (id := 5) ?_)
    rw [x6]
    repeat (first | ((first | refine WL_Q ?_); (first | refine QW_a ?_)) | ((first | refine WL_op rfl ?_); (first | refine OW_alloc rfl (hk := fun _ => ?_) | refine OW_stA rfl ?_ | refine OW_stN rfl ?_)) | refine WL_nil ?_ | refine WC_seq ?_ | refine WC_block ?_ | refine WC_cond_t (ht := ?_) | refine WC_cond_f (he := ?_) | refine WC_skip ?_ | refine WC_ret ?_ | refine WC_exit ?_ | refine WC_region (id := 5) ?_ | refine WC_region (id := 6) ?_)
    refine WL_op rfl (OW_callv rfl rfl rfl rfl rfl (nx7_fn (i := 5) (j := 4) (k := 2) (a := a) (n := sz3 u v w) rfl rfl rfl (by omega) (by omega) hx2) ?_)
    rintro _ _ ⟨rfl, rfl⟩
    rw [u8eq (c := 0x5a) (n := 90) rfl]
    rw [hx] at nx
    by_cases h7 : x = 0x5a
    rotate_left
    · have d : (!decide (x = 0x5a)) = true := by rw [decide_eq_false h7]; rfl
      rw [if_pos (fun h => h7 (Option.some.inj h))] at nx
      repeat (first | ((first | refine WL_Q ?_ | refine WR_Q rfl ?_ | refine WR_late rfl rfl rfl (OW_Q ?_)); (first | refine QW_a ?_)) | refine WL_nil ?_ | refine WR_nil ?_ | refine WC_seq ?_ | refine WC_block ?_ | refine WC_cond_t (ht := ?_) | refine WC_cond_f (he := ?_) | refine WC_skip ?_ | refine WC_ret ?_ | refine WC_exit ?_ | refine WC_draw_all (id := 7) 6 (.calm 0 <| .calm 1 <| .calm 2 <| .calm 3 <| .calm 4 <| .calm 5 <| .done) mixed (by kernel_rfl) ?_ | refine WC_region (id := 6) ?_)
      exact ⟨rfl, _, L, Res3 rfl (resV_tmp rfl) (resV_tmp rfl) (resV_tmp rfl), (by repeat (first | exact List.Sublist.refl _ | apply List.Sublist.cons)), nxt_out (by rw [nx]) (by rw [nx]) (by rw [nx]), rfl⟩
    have d : (!decide (x = 0x5a)) = false := by rw [decide_eq_true h7]; rfl
    rw [if_neg (by rw [h7]; exact not_not_intro rfl)] at nx
    repeat (first | ((first | refine WL_Q ?_); (first | refine QW_a ?_)) | refine WL_nil ?_ | refine WC_seq ?_ | refine WC_block ?_ | refine WC_cond_t (ht := ?_) | refine WC_cond_f (he := ?_) | refine WC_skip ?_ | refine WC_ret ?_ | refine WC_exit ?_ | refine WC_region (id := 6) ?_ | refine WC_region (id := 8) ?_)
    refine WC_dropL ((xb, .cells cs 128 (0, 0)) :: bxI nb (sz3 u v w) :: bxI lb ((s.length - a : Nat) : Int) :: bxI ab (a : Int) :: bxS sb s :: L) (.cons _ (.refl _)) ?_
    refine WC_wk [(33, .int .i64 7), (32, .int .i64 7), (31, .slice (some ⟨xb, 0, none⟩) 7 7), (8, fP nb), (3, fP ab), (2, fP sb)] ⟨rfl, rfl, rfl, rfl, rfl, rfl, trivial⟩ ?_
    have w1 : IntKind.i64.wrap ((a : Int) + 4) = ((a + 4 : Nat) : Int) := by rw [wI64 (by omega) (by omega)]; omega
    have w2 : IntKind.i64.wrap (((a + 4 : Nat) : Int) + ((sz3 u v w : Nat) : Int)) = ((a + 4 + sz3 u v w : Nat) : Int) := by rw [wI64 (by omega) (by omega)]; omega
    have w3 : IntKind.i64.wrap (((a + 4 + sz3 u v w : Nat) : Int) + 1) = ((a + 4 + sz3 u v w + 1 : Nat) : Int) := by rw [wI64 (by omega) (by omega)]; omega
    have c0 : (0 : Int) ≤ IntKind.i64.wrap ((a : Int) + 4) := by rw [w1]; omega
    have c1 : IntKind.i64.wrap ((a : Int) + 4) ≤ IntKind.i64.wrap (IntKind.i64.wrap ((a : Int) + 4) + ((sz3 u v w : Nat) : Int)) := by rw [w1, w2]; omega
    have c2 : IntKind.i64.wrap (IntKind.i64.wrap ((a : Int) + 4) + ((sz3 u v w : Nat) : Int)) ≤ ((s.length : Nat) : Int) := by rw [w1, w2]; omega
    repeat (first | ((first | refine WL_Q ?_ | refine WR_Q rfl ?_ | refine WR_late rfl rfl rfl (OW_Q ?_)); (first | refine QW_a ?_)) | refine WL_nil ?_ | refine WR_nil ?_ | refine WC_seq ?_ | refine WC_block ?_ | refine WC_cond_t (ht := ?_) | refine WC_cond_f (he := ?_) | refine WC_skip ?_ | refine WC_ret ?_ | refine WC_exit ?_ | refine WC_draw_all (id := 9) 16 (.calm 0 <| .calm 1 <| .calm 2 <| .calm 3 <| .calm 4 <| .calm 5 <| .calm 6 <| .calm 7 <| .calm 8 <| .calm 9 <| .calm 10 <| .calm 11 <| .calm 12 <| .calm 13 <| .calm 14 <| .calm 15 <| .done) mixed (by kernel_rfl) ?_ | refine WC_region (id := 4) ?_)
    refine ⟨rfl, _, L, Res3 rfl (resV_tmp rfl) (resV_tmp rfl) (resV_tmp rfl), (by repeat (first | exact List.Sublist.refl _ | apply List.Sublist.cons)), ?_, rfl⟩
    rw [w1, w2, w3, nx]
    refine nxt_out ?_ rfl rfl
    rw [Int.toNat_natCast, Int.toNat_natCast, hq2, List.drop_take, show a + 4 + sz3 u v w - (a + 4) = sz3 u v w by omega]
end Go.Proofs.Ytmdiabglbmgkkaa
namespace Go.Proofs.Ytmdiabglbmgkkaa
open Go.RowKit
section
variable {P : Program} {b : Frame} {a : Act} {k : List Item} {cs : List Frame} {w : World}
theorem stepR_scope' {x : Code} : step P (lone (b.atR a (.code (.scope x) :: k)) cs w) = .next (lone (b.atR a (.code x :: .inScope x :: k)) cs w) :=
  step_lone_go (by simp [stepG, stepG.exec, Frame.atR])
theorem stepR_inScope' {x : Code} : step P (lone (b.atR a (.inScope x :: k)) cs w) = .next (lone (b.atR a k) cs w) :=
  step_lone_go (by simp [stepG, stepG.exec, Frame.atR])
end
theorem wpIn_scope' {F : Fence} {n : Nat} {P : Program} {Q : Exit → Act → World → Prop} {a : Act} {w : World} {x : Code} (hg : ∀ l a w, ¬ Q (.goto l) a w) (h : x.wpIn F n P Q a w) : (Code.scope x).wpIn F n P Q a w := by
  intro b k cs hro hb hr
  have h0 : (lone (b.atR a (.code (.scope x) :: k)) cs w).fenced P F := fenced_calm hb hr rfl
  obtain ⟨e, a₁, w₁, hq, harr⟩ := h b (.inScope x :: k) cs hro hb hr
  cases e with
  | normal => exact ⟨.normal, a₁, w₁, hq, .head h0 stepR_scope' (StepsIn.trans harr (.one (fenced_calm hb hr rfl) stepR_inScope'))⟩
  | exit id =>
    have hx : exitTo id (.inScope x :: k) = exitTo id k := by simp [exitTo]
    exact ⟨.exit id, a₁, w₁, hq, fun k' hk => .head h0 stepR_scope' (harr.1 k' (by rw [hx]; exact hk)),
      fun hr' hk => let ⟨k₁, h1, h2⟩ := harr.2 hr' (by rw [hx]; exact hk); ⟨k₁, h1, .head h0 stepR_scope' h2⟩⟩
  | goto l => exact absurd hq (hg _ _ _)
  | ret => exact ⟨_, a₁, w₁, hq, .of_steps (.one h0 stepR_scope') harr⟩
  | panic ch => exact ⟨_, a₁, w₁, hq, .of_steps (.one h0 stepR_scope') harr⟩
  | outgrown => exact ⟨_, a₁, w₁, hq, .of_steps (.one h0 stepR_scope') harr⟩
theorem WC_scope {c : Cx} {x : Code} {K : Exit → St → Prop} {σ : St} (h : WC c x K σ) (hg : ∀ l σ, ¬ K (.goto l) σ := by exact fun _ _ h => h) : WC c (.scope x) K σ := fun a w ha =>
  wpIn_scope' (fun l _ _ ⟨_, _, h2⟩ => hg l _ h2) (h a w ha)
end Go.Proofs.Ytmdiabglbmgkkaa
namespace Go.Proofs.Ytmdiabglbmgkkaa
open Go.RowKit
def frms (bs : List (List UInt8)) : List UInt8 := bs.flatMap frm
theorem frms_app (a b : List (List UInt8)) : frms (a ++ b) = frms a ++ frms b := by simp [frms]
theorem frms_one (b : List UInt8) : frms [b] = frm b := by simp [frms]
theorem frms_cons (b : List UInt8) (bs : List (List UInt8)) : frms (b :: bs) = frm b ++ frms bs := by simp [frms]
theorem frms_le {bs : List (List UInt8)} : bs.length ≤ (frms bs).length := by
  induction bs with
  | nil => simp
  | cons b bs ih => rw [frms_cons, List.length_append, frm_len, List.length_cons]; omega
theorem frms_nil {bs : List (List UInt8)} (h : frms bs = []) : bs = [] := by
  have := frms_le (bs := bs)
  rw [h] at this
  exact List.eq_nil_of_length_eq_zero (by simpa using this)
theorem sz3_of (n : Nat) (h : n ≤ 1048576) : sz3 (UInt8.ofNat (n / 256 / 256)) (UInt8.ofNat (n / 256)) (UInt8.ofNat n) = n := by
  unfold sz3
  rw [UInt8.toNat_ofNat', UInt8.toNat_ofNat', UInt8.toNat_ofNat']
  omega
theorem nxt_frm {b q : List UInt8} {a : Nat} (h : b.length ≤ 1048576) : nxt (frm b ++ q) a = (b, a + (frm b).length, 0) := by
  have e : frm b ++ q = 0xa5 :: UInt8.ofNat (b.length / 256 / 256) :: UInt8.ofNat (b.length / 256) :: UInt8.ofNat b.length :: (b ++ (0x5a :: q)) := by simp [frm, szL]
  rw [e, frm_len]
  simp only [nxt]
  rw [sz3_of _ h, if_neg (by simp), if_neg (by omega), if_neg (by simp), if_neg (by simp), List.take_left]
  congr 2
  omega
theorem nxt_torn {b : List UInt8} {a j : Nat} (h : b.length ≤ 1048576) (h0 : 0 < j) (h1 : j < (frm b).length) : nxt ((frm b).take j) a = ([], a, 20) := by
  rw [frm_len] at h1
  have e : frm b = 0xa5 :: UInt8.ofNat (b.length / 256 / 256) :: UInt8.ofNat (b.length / 256) :: UInt8.ofNat b.length :: (b ++ [0x5a]) := by simp [frm, szL]
  rw [e]
  match j, h0 with
  | 1, _ => rfl
  | 2, _ => rfl
  | 3, _ => rfl
  | j + 4, _ =>
    simp only [List.take_succ_cons]
    simp only [nxt]
    rw [sz3_of _ h, if_neg (by simp), if_neg (by omega), if_pos (by rw [List.length_take]; omega)]
theorem frms_cut : ∀ (bs : List (List UInt8)) (m : Nat), m ≤ (frms bs).length → ∃ k rest, k ≤ bs.length ∧ (frms bs).take m = frms (bs.take k) ++ rest ∧ (rest = [] ∨ ∃ b j, bs[k]? = some b ∧ rest = (frm b).take j ∧ 0 < j ∧ j < (frm b).length) ∧ ∀ d, d ≤ bs.length → (frms (bs.take d)).length ≤ m → d ≤ k
  | [], m, h => ⟨0, [], by simp, by simp [frms], .inl rfl, fun d hd _ => by simpa using hd⟩
  | b :: bs, m, h => by
    rw [frms_cons, List.length_append] at h
    by_cases hm : m < (frm b).length
    · refine ⟨0, (frm b).take m, by simp, ?_, ?_, ?_⟩
      · rw [frms_cons, List.take_append_of_le_length (by omega)]; simp [frms]
      · rcases Nat.eq_zero_or_pos m with h0 | h0
        · left; rw [h0]; rfl
        · exact .inr ⟨b, m, rfl, rfl, h0, hm⟩
      · intro d hd hl
        rcases d with _ | d
        · omega
        · rw [List.take_succ_cons, frms_cons, List.length_append] at hl; omega
    · obtain ⟨k, rest, h1, h2, h3, h4⟩ := frms_cut bs (m - (frm b).length) (by omega)
      refine ⟨k + 1, rest, by simp; omega, ?_, ?_, ?_⟩
      · rw [frms_cons, List.take_append, List.take_of_length_le (by omega), h2, List.take_succ_cons, frms_cons, List.append_assoc]
      · simpa using h3
      · intro d hd hl
        rcases d with _ | d
        · omega
        · rw [List.take_succ_cons, frms_cons, List.length_append] at hl
          have := h4 d (by simpa using hd) (by omega)
          omega
attribute [local irreducible] Fn WC WL WR OW Qt YieldFn QW
def endE (e : Int) : Int := if e = 9 then 0 else e
set_option maxHeartbeats 2000000 in
theorem all_fn {bs : List (List UInt8)} {rest : List UInt8} {e : Int} {L : List (Nat × Obj)} (hb : ∀ b ∈ bs, b.length ≤ 1048576) (he : (nxt rest (frms bs).length).2.2 = e) (h0 : e ≠ 0) (hs : (frms bs ++ rest).length ≤ 10000000) : Fn Try.prog 52 [tV (frms bs ++ rest)] L (fun r L' => ∃ v T, BufT v T bs ∧ r = .tuple #[v, .int .i64 ((frms bs).length : Nat), .int .i64 (endE e)] ∧ L' = T ++ L) := by
  have hle := frms_le (bs := bs)
  rw [List.length_append] at hs
  refine Fn_enter Try.func52 rfl Try.ntmps52 rfl fun gw => ?_
  repeat (first | ((first | refine WL_Q ?_); (first | refine QW_a ?_)) | refine WL_nil ?_ | refine WC_seq ?_ | refine WC_block ?_ | refine WC_cond_t (ht := ?_) | refine WC_cond_f (he := ?_) | refine WC_skip ?_ | refine WC_ret ?_ | refine WC_exit ?_ | refine WC_region (id := 0) ?_)
  refine WC_scope ?_ (fun _ _ h => h)
  refine WC_seq (WC_label ?_)
  repeat (first | ((first | refine WL_Q ?_); (first | refine QW_a ?_)) | refine WL_nil ?_ | refine WC_seq ?_ | refine WC_block ?_ | refine WC_cond_t (ht := ?_) | refine WC_cond_f (he := ?_) | refine WC_skip ?_ | refine WC_ret ?_ | refine WC_exit ?_ | refine WC_region (id := 0) ?_)
  refine WC_wk [(4, .int .i64 0), (3, .int .i64 ((0 : Nat) : Int)), (2, .slice none 0 0), (0, tV (frms bs ++ rest))] ⟨rfl, rfl, rfl, rfl, trivial⟩ ?_
  refine WC_loop (fun m σ => ∃ (k : Nat) (v : Value) (T : List (Nat × Obj)), m = bs.length - k ∧ k ≤ bs.length ∧ BufT v T (bs.take k) ∧ σ = ⟨[(4, .int .i64 0), (3, .int .i64 ((frms (bs.take k)).length : Nat)), (2, v), (0, tV (frms bs ++ rest))], [], T ++ L⟩) bs.length ⟨0, .slice none 0 0, [], by omega, by omega, Buf.nil _ _, rfl⟩ ?_
  rintro m σ ⟨k, v, T, rfl, hk, hbf, rfl⟩
  have hsplit : frms bs = frms (bs.take k) ++ frms (bs.drop k) := by rw [← frms_app, List.take_append_drop]
  have hka : (frms (bs.take k)).length ≤ (frms bs ++ rest).length := by rw [hsplit, List.append_assoc, List.length_append]; omega
  have hdr : (frms bs ++ rest).drop (frms (bs.take k)).length = frms (bs.drop k) ++ rest := by rw [hsplit, List.append_assoc, List.drop_left]
  repeat (first | ((first | refine WL_Q ?_); (first | refine QW_a ?_)) | refine WL_nil ?_ | refine WC_seq ?_ | refine WC_block ?_ | refine WC_cond_t (ht := ?_) | refine WC_cond_f (he := ?_) | refine WC_skip ?_ | refine WC_ret ?_ | refine WC_exit ?_ | refine WC_region (id := 1) ?_)
  refine WL_op rfl (OW_call rfl (hF := next_fn (a := (frms (bs.take k)).length) (by rw [List.length_append]; omega) hka) (hk := ?_))
  rintro _ _ ⟨rfl, rfl⟩
  rw [hdr]
  by_cases hlt : k < bs.length
  · obtain ⟨b, hbk⟩ : ∃ b, bs[k]? = some b := ⟨_, List.getElem?_eq_getElem hlt⟩
    have hdk : bs.drop k = b :: bs.drop (k + 1) := by
      obtain ⟨h1, h2⟩ := List.getElem?_eq_some_iff.1 hbk
      rw [List.drop_eq_getElem_cons h1, h2]
    have hbl : b.length ≤ 1048576 := hb b (List.mem_of_getElem? hbk)
    have htk : bs.take (k + 1) = bs.take k ++ [b] := by rw [List.take_add_one, hbk]; rfl
    rw [hdk, frms_cons, List.append_assoc, nxt_frm hbl]
    dsimp only
    have d0 : ((0 : Int) == 0) = true := rfl
    repeat (first | ((first | refine WL_Q ?_); (first | refine QW_a ?_)) | ((first | refine WL_op rfl ?_); (first | refine OW_build1 rfl (hk := fun _ => ?_))) | refine WL_nil ?_ | refine WC_seq ?_ | refine WC_block ?_ | refine WC_cond_t (ht := ?_) | refine WC_cond_f (he := ?_) | refine WC_skip ?_ | refine WC_ret ?_ | refine WC_exit ?_ | refine WC_region (id := 1) ?_ | refine WC_region (id := 2) ?_ | refine WC_region (id := 4) ?_ | refine WC_region (id := 5) ?_)
    refine WL_op rfl (OW_append_bufM (A := [_]) (T := T) (B := L) rfl rfl rfl rfl rfl hbf (src1 0 rfl) (by simp) (by simp only [maxLen]; rw [List.length_take]; omega) (by rw [List.length_take]; omega) ?_)
    intro v' T' hb'
    have hb' : BufT v' T' (bs.take (k + 1)) := by
      have e1 : (bs.take (k + 1)).map tV = (bs.take k).map tV ++ [tV b] := by rw [htk, List.map_append]; rfl
      have e2 : (bs.take (k + 1)).length = (bs.take k).length + 1 := by rw [htk, List.length_append]; rfl
      unfold BufT
      rw [e1, e2]
      exact hb'
    repeat (first | ((first | refine WL_Q ?_); (first | refine QW_a ?_)) | ((first | refine WL_op rfl ?_); (first | refine OW_build1 rfl (hk := fun _ => ?_))) | refine WL_nil ?_ | refine WC_seq ?_ | refine WC_block ?_ | refine WC_cond_t (ht := ?_) | refine WC_cond_f (he := ?_) | refine WC_skip ?_ | refine WC_ret ?_ | refine WC_exit ?_ | refine WC_region (id := 5) ?_)
    refine ⟨_, _, by omega, ⟨k + 1, v', T', rfl, by omega, hb', rfl⟩, ⟨rfl, ?_, rfl, rfl, trivial⟩, rfl, .cons _ (.refl _)⟩
    show some _ = some _
    rw [htk, frms_app, frms_one, List.length_append]
    rfl
  · obtain rfl : k = bs.length := by omega
    rw [List.take_length] at hbf ⊢
    rw [List.drop_length]
    have he : (nxt (frms [] ++ rest) (frms bs).length).2.2 = e := he
    generalize hr : nxt (frms [] ++ rest) (frms bs).length = r at he ⊢
    obtain ⟨n1, n2, n3⟩ := r
    obtain rfl : n3 = e := he
    have d0 : (n3 == 0) = false := by simpa using h0
    by_cases h9 : n3 = 9
    · subst h9
      have d9 : ((9 : Int) == 9) = true := rfl
      repeat (first | ((first | refine WL_Q ?_); (first | refine QW_a ?_)) | ((first | refine WL_op rfl ?_); (first | refine OW_build1 rfl (hk := fun _ => ?_))) | refine WL_nil ?_ | refine WC_seq ?_ | refine WC_block ?_ | refine WC_cond_t (ht := ?_) | refine WC_cond_f (he := ?_) | refine WC_skip ?_ | refine WC_ret ?_ | refine WC_exit ?_ | refine WC_region ?_)
      exact ⟨rfl, _, _, Res3 rfl (resV_tmp rfl) (resV_tmp rfl) (resV_tmp rfl), .refl _, v, T, hbf, rfl, rfl⟩
    · have d9 : (n3 == 9) = false := by simpa using h9
      repeat (first | ((first | refine WL_Q ?_); (first | refine QW_a ?_)) | ((first | refine WL_op rfl ?_); (first | refine OW_build1 rfl (hk := fun _ => ?_))) | refine WL_nil ?_ | refine WC_seq ?_ | refine WC_block ?_ | refine WC_cond_t (ht := ?_) | refine WC_cond_f (he := ?_) | refine WC_skip ?_ | refine WC_ret ?_ | refine WC_exit ?_ | refine WC_region ?_)
      exact ⟨rfl, _, _, Res3 rfl (resV_tmp rfl) (resV_tmp rfl) (resV_tmp rfl), .refl _, v, T, hbf, by rw [show endE n3 = n3 from if_neg h9]; rfl, rfl⟩
end Go.Proofs.Ytmdiabglbmgkkaa
namespace Go.Proofs.Ytmdiabglbmgkkaa
open Go.RowKit
abbrev logO (lb sb : Nat) (n : Int) (cnt done : Nat) : Nat × Obj := (lb, .cells #[fP sb, .int .i64 n, .int .i64 (cnt : Nat), .int .i64 (done : Nat), .nilIface] 100 (0, 0))
def opG (g : FG) (n : Int) (bs : List (List UInt8)) : FG := upG g n (frms bs, (frms bs).length)
theorem upG_upG (g : FG) (n : Int) (x y : List UInt8 × Nat) : upG (upG g n x) n y = upG g n y := by
  funext m; unfold upG
  by_cases h : m = n
  · rw [if_pos h, if_pos h]
  · rw [if_neg h, if_neg h, if_neg h]
theorem upG_at (g : FG) (n : Int) (x : List UInt8 × Nat) : upG g n x n = x := by simp [upG]
theorem open_whole {g : FG} {n : Int} {bs : List (List UInt8)} (hg : (g n).1 = frms bs) (hz : (g n).1 = [] → g n = ([], 0)) : (bs = [] ∧ opG g n bs = g) ∨ (bs ≠ [] ∧ syncE g n = 0 ∧ syncG g n = opG g n bs) := by
  by_cases h : bs = []
  · subst h
    refine .inl ⟨rfl, ?_⟩
    have := hz hg
    unfold opG
    rw [show (frms [], (frms []).length) = (([], 0) : List UInt8 × Nat) from rfl, ← this]
    exact upG_self g n
  · have hne : (g n).1 ≠ [] := by rw [hg]; exact fun e => h (frms_nil e)
    refine .inr ⟨h, by unfold syncE; rw [if_neg hne], ?_⟩
    unfold syncG opG
    rw [if_neg hne, hg]
theorem open_torn {g : FG} {n : Int} {bs : List (List UInt8)} {rest : List UInt8} (hg : (g n).1 = frms bs ++ rest) (hr : rest ≠ []) : cutE g n ((frms bs).length : Nat) = 0 ∧ cutG g n ((frms bs).length : Nat) = opG g n bs := by
  have hne : (g n).1 ≠ [] := by rw [hg]; simp [hr]
  have e : cutE g n ((frms bs).length : Nat) = 0 := by
    unfold cutE
    rw [if_neg hne, if_neg]
    rw [hg, List.length_append]; omega
  refine ⟨e, ?_⟩
  unfold cutG opG
  rw [if_pos e, hg, Int.toNat_natCast, List.take_left]
theorem sync_op {g : FG} {n : Int} {bs : List (List UInt8)} (h : bs ≠ []) : syncE (opG g n bs) n = 0 ∧ syncG (opG g n bs) n = opG g n bs := by
  have hne : (opG g n bs n).1 ≠ [] := by unfold opG; rw [upG_at]; exact fun e => h (frms_nil e)
  refine ⟨by unfold syncE; rw [if_neg hne], ?_⟩
  unfold syncG
  rw [if_neg hne]
  unfold opG
  rw [upG_at, upG_upG]
attribute [local irreducible] Fn WC WL WR OW Qt YieldFn QW
set_option maxHeartbeats 4000000 in
theorem open_fn {sb : Nat} {S F : List (Nat × Obj)} {g : FG} {n : Int} {bs : List (List UInt8)} {rest : List UInt8} {e : Int} (h : StAt sb S g) (hn : 0 ≤ n) (hg : (g n).1 = frms bs ++ rest) (hb : ∀ b ∈ bs, b.length ≤ 1048576) (he : (nxt rest (frms bs).length).2.2 = e) (h0 : (e = 9 ∧ rest = []) ∨ (e = 20 ∧ rest ≠ [])) :
    Fn Try.prog 27 [fP sb, .int .i64 n] (S ++ F) (fun r L' => ∃ lb v T S', BufT v T bs ∧ StAt sb S' (opG g n bs) ∧ r = .tuple #[fP lb, v, .int .i64 0] ∧ L' = logO lb sb n bs.length bs.length :: (T ++ (S' ++ F))) := by
  obtain ⟨l1, l2, l3⟩ := h.lim n
  have hlen : (frms bs ++ rest).length ≤ 10000000 := by rw [← hg]; omega
  have dn : decide (n < 0) = false := decide_eq_false (by omega)
  refine Fn_enter Try.func27 rfl Try.ntmps27 rfl fun gw => ?_
  repeat (first | ((first | refine WL_Q ?_); (first | refine QW_a ?_)) | ((first | refine WL_op rfl ?_); (first | refine OW_callP rfl (hF := read_st h) (hk := ?_))) | refine WL_nil ?_ | refine WC_seq ?_ | refine WC_block ?_ | refine WC_cond_t (ht := ?_) | refine WC_cond_f (he := ?_) | refine WC_skip ?_ | refine WC_ret ?_ | refine WC_region (id := 0) ?_ | refine WC_region (id := 1) ?_ | refine WC_region (id := 3) ?_ | refine WC_region (id := 5) ?_ | refine WC_region (id := 6) ?_)
  rw [hg]
  repeat (first | ((first | refine WL_Q ?_); (first | refine QW_a ?_)) | refine WL_nil ?_ | refine WC_seq ?_ | refine WC_block ?_ | refine WC_cond_t (ht := ?_) | refine WC_cond_f (he := ?_) | refine WC_skip ?_ | refine WC_ret ?_ | refine WC_region (id := 6) ?_)
  refine WL_op rfl (OW_call rfl (hF := all_fn hb he (by omega) hlen) (hk := ?_))
  rintro _ _ ⟨v, T, hbf, rfl, rfl⟩
  obtain ⟨av, cv, rfl, _, _⟩ := id hbf.val
  rcases h0 with ⟨rfl, rfl⟩ | ⟨rfl, hr⟩
  · rw [List.append_nil] at hg
    repeat (first | ((first | refine WL_Q ?_); (first | refine QW_a ?_)) | refine WL_nil ?_ | refine WC_seq ?_ | refine WC_block ?_ | refine WC_cond_t (ht := ?_) | refine WC_cond_f (he := ?_) | refine WC_skip ?_ | refine WC_ret ?_ | refine WC_region (id := 6) ?_ | refine WC_region (id := 7) ?_ | refine WC_region (id := 9) ?_ | refine WC_region (id := 14) ?_)
    rcases open_whole hg l3 with ⟨rfl, ho⟩ | ⟨hne, hs, ho⟩
    · have d : decide ((((([] : List (List UInt8)).length : Nat)) : Int) > 0) = false := rfl
      repeat (first | ((first | refine WL_Q ?_); (first | refine QW_a ?_)) | ((first | refine WL_op rfl ?_); (first | refine OW_box rfl (hk := fun _ => ?_))) | refine WL_nil ?_ | refine WC_seq ?_ | refine WC_block ?_ | refine WC_cond_t (ht := ?_) | refine WC_cond_f (he := ?_) | refine WC_skip ?_ | refine WC_ret ?_ | refine WC_region (id := 14) ?_ | refine WC_region (id := 18) ?_)
      rename_i lb
      exact ⟨rfl, _, _, Res3 rfl (resV_tmp rfl) (resV_tmp rfl) (resV_tmp rfl), .refl _, lb, _, T, S, hbf, by rw [ho]; exact h, rfl, rfl⟩
    · have d : decide (((bs.length : Nat) : Int) > 0) = true := decide_eq_true (by have := List.length_pos_iff.2 hne; omega)
      repeat (first | ((first | refine WL_Q ?_); (first | refine QW_a ?_)) | refine WL_nil ?_ | refine WC_seq ?_ | refine WC_block ?_ | refine WC_cond_t (ht := ?_) | refine WC_cond_f (he := ?_) | refine WC_skip ?_ | refine WC_ret ?_ | refine WC_region (id := 14) ?_ | refine WC_region (id := 15) ?_)
      refine WL_op rfl (OW_call rfl (hF := Fn.under (Pf := T) (sync_st h)) (hk := ?_))
      rintro _ _ ⟨rfl, S', rfl, h'⟩
      rw [hs]
      rw [ho] at h'
      repeat (first | ((first | refine WL_Q ?_); (first | refine QW_a ?_)) | ((first | refine WL_op rfl ?_); (first | refine OW_box rfl (hk := fun _ => ?_))) | refine WL_nil ?_ | refine WC_seq ?_ | refine WC_block ?_ | refine WC_cond_t (ht := ?_) | refine WC_cond_f (he := ?_) | refine WC_skip ?_ | refine WC_ret ?_ | refine WC_region (id := 15) ?_ | refine WC_region (id := 16) ?_ | refine WC_region (id := 18) ?_)
      rename_i lb
      exact ⟨rfl, _, _, Res3 rfl (resV_tmp rfl) (resV_tmp rfl) (resV_tmp rfl), .refl _, lb, _, T, S', hbf, h', rfl, rfl⟩
  · obtain ⟨c1, c2⟩ := open_torn hg hr
    repeat (first | ((first | refine WL_Q ?_); (first | refine QW_a ?_)) | refine WL_nil ?_ | refine WC_seq ?_ | refine WC_block ?_ | refine WC_cond_t (ht := ?_) | refine WC_cond_f (he := ?_) | refine WC_skip ?_ | refine WC_ret ?_ | refine WC_region (id := 6) ?_ | refine WC_region (id := 7) ?_ | refine WC_region (id := 9) ?_ | refine WC_region (id := 10) ?_ | refine WC_region (id := 11) ?_)
    refine WL_op rfl (OW_call rfl (hF := Fn.under (Pf := T) (cut_st h)) (hk := ?_))
    rintro _ _ ⟨rfl, S', rfl, h'⟩
    rw [c1]
    rw [c2] at h'
    repeat (first | ((first | refine WL_Q ?_); (first | refine QW_a ?_)) | refine WL_nil ?_ | refine WC_seq ?_ | refine WC_block ?_ | refine WC_cond_t (ht := ?_) | refine WC_cond_f (he := ?_) | refine WC_skip ?_ | refine WC_ret ?_ | refine WC_region (id := 11) ?_ | refine WC_region (id := 12) ?_ | refine WC_region (id := 14) ?_)
    by_cases hne : bs = []
    · subst hne
      have d : decide ((((([] : List (List UInt8)).length : Nat)) : Int) > 0) = false := rfl
      repeat (first | ((first | refine WL_Q ?_); (first | refine QW_a ?_)) | ((first | refine WL_op rfl ?_); (first | refine OW_box rfl (hk := fun _ => ?_))) | refine WL_nil ?_ | refine WC_seq ?_ | refine WC_block ?_ | refine WC_cond_t (ht := ?_) | refine WC_cond_f (he := ?_) | refine WC_skip ?_ | refine WC_ret ?_ | refine WC_region (id := 14) ?_ | refine WC_region (id := 18) ?_)
      rename_i lb
      exact ⟨rfl, _, _, Res3 rfl (resV_tmp rfl) (resV_tmp rfl) (resV_tmp rfl), .refl _, lb, _, T, S', hbf, h', rfl, rfl⟩
    · have d : decide (((bs.length : Nat) : Int) > 0) = true := decide_eq_true (by have := List.length_pos_iff.2 hne; omega)
      obtain ⟨s1, s2⟩ := sync_op (g := g) (n := n) hne
      repeat (first | ((first | refine WL_Q ?_); (first | refine QW_a ?_)) | refine WL_nil ?_ | refine WC_seq ?_ | refine WC_block ?_ | refine WC_cond_t (ht := ?_) | refine WC_cond_f (he := ?_) | refine WC_skip ?_ | refine WC_ret ?_ | refine WC_region (id := 14) ?_ | refine WC_region (id := 15) ?_)
      refine WL_op rfl (OW_call rfl (hF := Fn.under (Pf := T) (sync_st h')) (hk := ?_))
      rintro _ _ ⟨rfl, S2, rfl, h2⟩
      rw [s1]
      rw [s2] at h2
      repeat (first | ((first | refine WL_Q ?_); (first | refine QW_a ?_)) | ((first | refine WL_op rfl ?_); (first | refine OW_box rfl (hk := fun _ => ?_))) | refine WL_nil ?_ | refine WC_seq ?_ | refine WC_block ?_ | refine WC_cond_t (ht := ?_) | refine WC_cond_f (he := ?_) | refine WC_skip ?_ | refine WC_ret ?_ | refine WC_region (id := 15) ?_ | refine WC_region (id := 16) ?_ | refine WC_region (id := 18) ?_)
      rename_i lb
      exact ⟨rfl, _, _, Res3 rfl (resV_tmp rfl) (resV_tmp rfl) (resV_tmp rfl), .refl _, lb, _, T, S2, hbf, h2, rfl, rfl⟩
theorem open_bad {sb : Nat} {S F : List (Nat × Obj)} {g : FG} {n : Int} {rest : List UInt8} (h : StAt sb S g) (hn : 0 ≤ n) (hg : (g n).1 = rest) (he : (nxt rest 0).2.2 = 5) :
    Fn Try.prog 27 [fP sb, .int .i64 n] (S ++ F) (fun r L' => r = .tuple #[.pointer none, .slice none 0 0, .int .i64 21] ∧ L' = S ++ F) := by
  obtain ⟨l1, l2, l3⟩ := h.lim n
  have hlen : (frms [] ++ rest).length ≤ 10000000 := by
    show rest.length ≤ _
    rw [← hg]; omega
  have dn : decide (n < 0) = false := decide_eq_false (by omega)
  refine Fn_enter Try.func27 rfl Try.ntmps27 rfl fun gw => ?_
  repeat (first | ((first | refine WL_Q ?_); (first | refine QW_a ?_)) | ((first | refine WL_op rfl ?_); (first | refine OW_callP rfl (hF := read_st h) (hk := ?_) | refine OW_callP rfl (hF := read_st h) (hk := ?_))) | refine WL_nil ?_ | refine WC_seq ?_ | refine WC_block ?_ | refine WC_cond_t (ht := ?_) | refine WC_cond_f (he := ?_) | refine WC_skip ?_ | refine WC_ret ?_ | refine WC_region (id := 0) ?_ | refine WC_region (id := 1) ?_ | refine WC_region (id := 3) ?_ | refine WC_region (id := 5) ?_ | refine WC_region (id := 6) ?_)
  rw [hg]
  repeat (first | ((first | refine WL_Q ?_); (first | refine QW_a ?_)) | refine WL_nil ?_ | refine WC_seq ?_ | refine WC_block ?_ | refine WC_cond_t (ht := ?_) | refine WC_cond_f (he := ?_) | refine WC_skip ?_ | refine WC_ret ?_ | refine WC_region (id := 6) ?_)
  refine WL_op rfl (OW_call rfl (hF := all_fn (bs := []) (rest := rest) (e := 5) (by simp) he (by omega) hlen) (hk := ?_))
  rintro _ _ ⟨v, T, hbf, rfl, rfl⟩
  repeat (first | ((first | refine WL_Q ?_); (first | refine QW_a ?_)) | ((first | refine WL_op rfl ?_); (first | refine OW_box rfl (hk := fun _ => ?_) | refine OW_callP rfl (hF := read_st h) (hk := ?_) | refine OW_callP rfl (hF := read_st h) (hk := ?_))) | refine WL_nil ?_ | refine WC_seq ?_ | refine WC_block ?_ | refine WC_cond_t (ht := ?_) | refine WC_cond_f (he := ?_) | refine WC_skip ?_ | refine WC_ret ?_ | refine WC_region ?_)
  exact ⟨rfl, _, _, Res3 rfl (resV_tmp rfl) (resV_tmp rfl) (resV_tmp rfl), List.sublist_append_right _ _, rfl, rfl⟩
end Go.Proofs.Ytmdiabglbmgkkaa
namespace Go.Proofs.Ytmdiabglbmgkkaa
open Go.RowKit
abbrev bxL (b lb : Nat) : Nat × Obj := (b, .cells #[fP lb] 56 (0, 0))
attribute [local irreducible] Fn WC WL WR OW Qt YieldFn QW
theorem with_fn {lb sb cnt done : Nat} {n : Int} {f : FuncId} [FCall Try.prog f] {B : Array Value} {M : List (Nat × Obj)} {R : List (Nat × Obj) → Prop} {i : Nat} (hi : M[i]? = some (logO lb sb n cnt done)) (hF : Fn Try.prog f (#[].toList ++ [] ++ B.toList) M (fun r L' => r = .int .i64 0 ∧ R L')) :
    Fn Try.prog 53 [fP lb, .func (.func f) #[] B] M (fun r L' => r = .int .i64 0 ∧ R L') := by
  refine Fn_enter Try.func53 rfl Try.ntmps53 rfl fun gw => ?_
  repeat (first | ((first | refine WL_Q ?_); (first | refine QW_a ?_)) | refine WL_nil ?_ | refine WC_seq ?_ | refine WC_block ?_ | refine WC_cond_t (ht := ?_) | refine WC_cond_f (he := ?_) | refine WC_skip ?_ | refine WC_ret ?_ | refine WC_region (id := 0) ?_ | refine WC_region (id := 1) ?_ | refine WC_region (id := 3) ?_ | refine WC_region (id := 5) ?_)
  refine WL_op rfl (OW_callv rfl rfl rfl rfl rfl hF ?_)
  rintro _ L' ⟨rfl, hR⟩
  repeat (first | ((first | refine WL_Q ?_ | refine WL_Y ?_); (first | refine QW_a ?_)) | ((first | refine WL_op rfl ?_ | refine WL_yes (h := ?_)); (first | refine OW_box rfl (hk := fun _ => ?_) | refine OW_st1 rfl ?_)) | refine WL_nil ?_ | refine WL_un (h := ?_) | refine WL_N ?_ | refine WL_M ?_ | refine WC_seq ?_ | refine WC_block ?_ | refine WC_cond_t (ht := ?_) | refine WC_cond_f (he := ?_) | refine WC_skip ?_ | refine WC_ret ?_ | refine WC_region ?_)
  exact ⟨rfl, _, L', Res1 rfl (resV_tmp rfl), .cons _ (.refl _), rfl, hR⟩
theorem app1_fn {b2 b3 lb sb cnt done : Nat} {n : Int} {b : List UInt8} {S F : List (Nat × Obj)} {g : FG} (h : StAt sb S g) (hb : b.length ≤ 1000000) (he : appE g n (frm b) = 0) (hc : cnt ≤ 1000000) :
    Fn Try.prog 54 [fP b3, fP b2] (bxS b3 b :: bxL b2 lb :: logO lb sb n cnt done :: (S ++ F)) (fun r L' => r = .int .i64 0 ∧ ∃ S', StAt sb S' (appG g n (frm b)) ∧ L' = bxS b3 b :: bxL b2 lb :: logO lb sb n (cnt + 1) done :: (S' ++ F)) := by
  have w : IntKind.i64.wrap ((cnt : Int) + 1) = ((cnt + 1 : Nat) : Int) := by rw [wI64 (by omega) (by omega)]; omega
  refine Fn_enter Try.func54 rfl Try.ntmps54 rfl fun gw => ?_
  have hsub : [bxS b3 b, bxL b2 lb, logO lb sb n cnt done].Sublist (bxS b3 b :: bxL b2 lb :: logO lb sb n cnt done :: (S ++ F)) := .cons_cons _ (.cons_cons _ (.cons_cons _ (List.nil_sublist _)))
  repeat (first | ((first | refine WL_Q ?_); (first | refine QW_a ?_)) | ((first | refine WL_op rfl ?_); (first | refine OW_callP rfl (hF := put_fn (b := b) (by omega)) (hk := ?_))) | refine WL_nil ?_ | refine WC_seq ?_ | refine WC_cond_t (ht := ?_) | refine WC_cond_f (he := ?_) | refine WC_skip ?_ | refine WC_ret ?_ | refine WC_region (id := 0) ?_ | refine WC_region (id := 1) ?_ | refine WC_region (id := 2) ?_)
  refine WC_draw_sub (id := 3) 11 (.calm 0 <| .calm 1 <| .calm 2 <| .calm 3 <| .calm 4 <| .calm 5 <| .calm 6 <| .calm 7 <| .calm 8 <| .must 9 <| .calm 10 <| .done) mixed (by kernel_rfl) (hsub) ?_
  repeat (first | ((first | refine WL_Q ?_ | refine WR_Q rfl ?_ | refine WR_late rfl rfl rfl (OW_Q ?_)); (first | refine QW_a ?_)) | ((first | refine WL_op rfl ?_ | refine WR_late rfl rfl rfl ?_ | refine WR_op rfl rfl ?_); (first | (refine OW_call rfl (hF := Fn.under (Pf := [_, _, _]) (append_st h (by rw [frm_len]; omega))) (hk := ?_); rintro _ _ ⟨rfl, S', rfl, h'⟩)); try refine ⟨(by first | exact fun _ h => h | exact sub_mem (by repeat (first | exact .refl _ | exact List.nil_sublist _ | exact List.sublist_append_right _ _ | exact List.Sublist.append (.refl _) (List.sublist_append_right _ _) | apply List.Sublist.cons_cons | apply List.Sublist.cons))), ?_⟩) | refine WL_nil ?_ | refine WR_nil ?_ | refine WC_seq ?_ | refine WC_cond_t (ht := ?_) | refine WC_cond_f (he := ?_) | refine WC_skip ?_ | refine WC_ret ?_ | refine WC_draw_all (id := 3) 11 (.calm 0 <| .calm 1 <| .calm 2 <| .calm 3 <| .calm 4 <| .calm 5 <| .calm 6 <| .calm 7 <| .calm 8 <| .must 9 <| .calm 10 <| .done) mixed (by kernel_rfl) ?_)
  rw [he]
  repeat (first | ((first | refine WL_Q ?_ | refine WR_Q rfl ?_ | refine WR_late rfl rfl rfl (OW_Q ?_)); (first | refine QW_a ?_)) | ((first | refine WL_op rfl ?_ | refine WR_late rfl rfl rfl ?_ | refine WR_opG rfl rfl ?_); (first | refine OW_st1 rfl ?_ | refine OW_callP rfl (hF := put_fn (b := b) (by omega)) (hk := ?_) | (refine OW_call rfl (hF := Fn.under (Pf := [_, _, _]) (append_st h (by rw [frm_len]; omega))) (hk := ?_); rintro _ _ ⟨rfl, S', rfl, h'⟩)); try refine ⟨(by first | exact fun _ h => h | exact sub_mem (by repeat (first | exact .refl _ | exact List.nil_sublist _ | exact List.sublist_append_right _ _ | exact List.Sublist.append (.refl _) (List.sublist_append_right _ _) | apply List.Sublist.cons_cons | apply List.Sublist.cons))), ?_⟩) | refine WL_nil ?_ | refine WR_nil ?_ | refine WC_seq ?_ | refine WC_cond_t (ht := ?_) | refine WC_cond_f (he := ?_) | refine WC_skip ?_ | refine WC_ret ?_ | refine WC_draw_all (id := 3) 11 (.calm 0 <| .calm 1 <| .calm 2 <| .calm 3 <| .calm 4 <| .calm 5 <| .calm 6 <| .calm 7 <| .calm 8 <| .must 9 <| .calm 10 <| .done) mixed (by kernel_rfl) ?_ | refine WC_region ?_)
  rw [w]
  exact ⟨rfl, _, _, Res1 rfl (resV_tmp rfl), .refl _, rfl, S', h', rfl⟩
theorem append_log {lb sb cnt done : Nat} {n : Int} {b : List UInt8} {S F : List (Nat × Obj)} {g : FG} (h : StAt sb S g) (hb : b.length ≤ 1000000) (he : appE g n (frm b) = 0) (hc : cnt ≤ 1000000) :
    Fn Try.prog 28 [fP lb, tV b] (logO lb sb n cnt done :: (S ++ F)) (fun r L' => r = .int .i64 0 ∧ ∃ S', StAt sb S' (appG g n (frm b)) ∧ L' = logO lb sb n (cnt + 1) done :: (S' ++ F)) := by
  refine Fn_enter Try.func28 rfl Try.ntmps28 rfl fun gw => ?_
  repeat (first | ((first | refine WL_Q ?_); (first | refine QW_a ?_)) | ((first | refine WL_op rfl ?_); (first | refine OW_box rfl (hk := fun _ => ?_))) | refine WL_nil ?_ | refine WC_seq ?_ | refine WC_ret ?_ | refine WC_region ?_)
  rename_i b2 b3
  refine WL_op rfl (OW_call rfl (hF := with_fn (i := 2) rfl (app1_fn h hb he hc)) (hk := ?_))
  rintro _ _ ⟨rfl, S', h', rfl⟩
  repeat (first | ((first | refine WL_Q ?_); (first | refine QW_a ?_)) | ((first | refine WL_op rfl ?_); (first | refine OW_box rfl (hk := fun _ => ?_))) | refine WL_nil ?_ | refine WC_seq ?_ | refine WC_ret ?_ | refine WC_region ?_)
  exact ⟨rfl, _, _, Res1 rfl (resV_tmp rfl), .cons _ (.cons _ (.refl _)), rfl, S', h', rfl⟩
theorem sync1_fn {b1 lb sb cnt done : Nat} {n : Int} {S F : List (Nat × Obj)} {g : FG} (h : StAt sb S g) (he : 0 < cnt → syncE g n = 0) :
    Fn Try.prog 56 [fP b1] (bxL b1 lb :: logO lb sb n cnt done :: (S ++ F)) (fun r L' => r = .int .i64 0 ∧ ∃ S', StAt sb S' (if cnt = 0 then g else syncG g n) ∧ L' = bxL b1 lb :: logO lb sb n cnt (if cnt = 0 then done else cnt) :: (S' ++ F)) := by
  refine Fn_enter Try.func56 rfl Try.ntmps56 rfl fun gw => ?_
  by_cases hc : cnt = 0
  · subst hc
    have d : (((0 : Nat) : Int) == 0) = true := rfl
    repeat (first | ((first | refine WL_Q ?_ | refine WR_Q rfl ?_ | refine WR_late rfl rfl rfl (OW_Q ?_)); (first | refine QW_a ?_)) | ((first | refine WL_op rfl ?_ | refine WR_late rfl rfl rfl ?_ | refine WR_opG rfl rfl ?_); (first | refine OW_st1 rfl ?_); try refine ⟨(by first | exact fun _ h => h | exact sub_mem (by repeat (first | exact .refl _ | exact List.nil_sublist _ | exact List.sublist_append_right _ _ | exact List.Sublist.append (.refl _) (List.sublist_append_right _ _) | apply List.Sublist.cons_cons | apply List.Sublist.cons))), ?_⟩) | refine WL_nil ?_ | refine WR_nil ?_ | refine WC_seq ?_ | refine WC_cond_t (ht := ?_) | refine WC_cond_f (he := ?_) | refine WC_skip ?_ | refine WC_ret ?_ | refine WC_draw_all (id := 3) 10 (.calm 0 <| .calm 1 <| .calm 2 <| .calm 3 <| .calm 4 <| .calm 5 <| .calm 6 <| .calm 7 <| .must 8 <| .calm 9 <| .done) mixed (by kernel_rfl) ?_ | refine WC_draw_all (id := 5) 5 (.calm 0 <| .calm 1 <| .calm 2 <| .calm 3 <| .calm 4 <| .must 5 <| .must 6 <| .must 7 <| .done) mixed (by kernel_rfl) ?_ | refine WC_region ?_)
    exact ⟨rfl, _, _, Res1 rfl (resV_tmp rfl), .refl _, rfl, S, h, rfl⟩
  · have d : ((cnt : Int) == 0) = false := by simp; omega
    have hsub : [bxL b1 lb, logO lb sb n cnt done].Sublist (bxL b1 lb :: logO lb sb n cnt done :: (S ++ F)) := .cons_cons _ (.cons_cons _ (List.nil_sublist _))
    repeat (first | ((first | refine WL_Q ?_); (first | refine QW_a ?_)) | refine WL_nil ?_ | refine WC_seq ?_ | refine WC_cond_t (ht := ?_) | refine WC_cond_f (he := ?_) | refine WC_skip ?_ | refine WC_ret ?_ | refine WC_region (id := 0) ?_ | refine WC_region (id := 1) ?_)
    refine WC_draw_sub (id := 3) 10 (.calm 0 <| .calm 1 <| .calm 2 <| .calm 3 <| .calm 4 <| .calm 5 <| .calm 6 <| .calm 7 <| .must 8 <| .calm 9 <| .done) mixed (by kernel_rfl) (hsub) ?_
    repeat (first | ((first | refine WL_Q ?_ | refine WR_Q rfl ?_ | refine WR_late rfl rfl rfl (OW_Q ?_)); (first | refine QW_a ?_)) | ((first | refine WL_op rfl ?_ | refine WR_late rfl rfl rfl ?_ | refine WR_op rfl rfl ?_); (first | (refine OW_call rfl (hF := Fn.under (Pf := [_, _]) (sync_st h)) (hk := ?_); rintro _ _ ⟨rfl, S', rfl, h'⟩)); try refine ⟨(by first | exact fun _ h => h | exact sub_mem (by repeat (first | exact .refl _ | exact List.nil_sublist _ | exact List.sublist_append_right _ _ | exact List.Sublist.append (.refl _) (List.sublist_append_right _ _) | apply List.Sublist.cons_cons | apply List.Sublist.cons))), ?_⟩) | refine WL_nil ?_ | refine WR_nil ?_ | refine WC_seq ?_ | refine WC_cond_t (ht := ?_) | refine WC_cond_f (he := ?_) | refine WC_skip ?_ | refine WC_ret ?_ | refine WC_draw_all (id := 3) 10 (.calm 0 <| .calm 1 <| .calm 2 <| .calm 3 <| .calm 4 <| .calm 5 <| .calm 6 <| .calm 7 <| .must 8 <| .calm 9 <| .done) mixed (by kernel_rfl) ?_)
    rw [he (by omega)]
    repeat (first | ((first | refine WL_Q ?_ | refine WR_Q rfl ?_ | refine WR_late rfl rfl rfl (OW_Q ?_)); (first | refine QW_a ?_)) | ((first | refine WL_op rfl ?_ | refine WR_late rfl rfl rfl ?_ | refine WR_opG rfl rfl ?_); (first | refine OW_st1 rfl ?_ | (refine OW_call rfl (hF := Fn.under (Pf := [_, _]) (sync_st h)) (hk := ?_); rintro _ _ ⟨rfl, S', rfl, h'⟩)); try refine ⟨(by first | exact fun _ h => h | exact sub_mem (by repeat (first | exact .refl _ | exact List.nil_sublist _ | exact List.sublist_append_right _ _ | exact List.Sublist.append (.refl _) (List.sublist_append_right _ _) | apply List.Sublist.cons_cons | apply List.Sublist.cons))), ?_⟩) | refine WL_nil ?_ | refine WR_nil ?_ | refine WC_seq ?_ | refine WC_cond_t (ht := ?_) | refine WC_cond_f (he := ?_) | refine WC_skip ?_ | refine WC_ret ?_ | refine WC_draw_all (id := 3) 10 (.calm 0 <| .calm 1 <| .calm 2 <| .calm 3 <| .calm 4 <| .calm 5 <| .calm 6 <| .calm 7 <| .must 8 <| .calm 9 <| .done) mixed (by kernel_rfl) ?_ | refine WC_draw_all (id := 5) 5 (.calm 0 <| .calm 1 <| .calm 2 <| .calm 3 <| .calm 4 <| .must 5 <| .must 6 <| .must 7 <| .done) mixed (by kernel_rfl) ?_ | refine WC_region ?_)
    exact ⟨rfl, _, _, Res1 rfl (resV_tmp rfl), .refl _, rfl, S', by rw [if_neg hc]; exact h', by rw [if_neg hc]; rfl⟩
theorem sync_log {lb sb cnt done : Nat} {n : Int} {S F : List (Nat × Obj)} {g : FG} (h : StAt sb S g) (he : 0 < cnt → syncE g n = 0) :
    Fn Try.prog 29 [fP lb] (logO lb sb n cnt done :: (S ++ F)) (fun r L' => r = .int .i64 0 ∧ ∃ S', StAt sb S' (if cnt = 0 then g else syncG g n) ∧ L' = logO lb sb n cnt (if cnt = 0 then done else cnt) :: (S' ++ F)) := by
  refine Fn_enter Try.func29 rfl Try.ntmps29 rfl fun gw => ?_
  repeat (first | ((first | refine WL_Q ?_); (first | refine QW_a ?_)) | ((first | refine WL_op rfl ?_); (first | refine OW_box rfl (hk := fun _ => ?_))) | refine WL_nil ?_ | refine WC_seq ?_ | refine WC_ret ?_ | refine WC_region ?_)
  refine WL_op rfl (OW_call rfl (hF := with_fn (i := 1) rfl (sync1_fn h he)) (hk := ?_))
  rintro _ _ ⟨rfl, S', h', rfl⟩
  repeat (first | ((first | refine WL_Q ?_); (first | refine QW_a ?_)) | ((first | refine WL_op rfl ?_); (first | refine OW_box rfl (hk := fun _ => ?_))) | refine WL_nil ?_ | refine WC_seq ?_ | refine WC_ret ?_ | refine WC_region ?_)
  exact ⟨rfl, _, _, Res1 rfl (resV_tmp rfl), .cons _ (.refl _), rfl, S', h', rfl⟩
theorem count_log {lb sb cnt done i : Nat} {n : Int} {M : List (Nat × Obj)} (hi : M[i]? = some (logO lb sb n cnt done)) : Fn Try.prog 31 [fP lb] M (fun r L' => r = .int .i64 cnt ∧ L' = M) := by
  refine Fn_enter Try.func31 rfl Try.ntmps31 rfl fun gw => ?_
  repeat (first | ((first | refine WL_Q ?_); (first | refine QW_a ?_)) | refine WL_nil ?_ | refine WC_seq ?_ | refine WC_cond_t (ht := ?_) | refine WC_cond_f (he := ?_) | refine WC_skip ?_ | refine WC_ret ?_ | refine WC_region ?_)
  exact ⟨rfl, _, _, Res1 rfl (resV_tmp rfl), .refl _, rfl, rfl⟩
theorem synced_log {lb sb cnt done i : Nat} {n : Int} {M : List (Nat × Obj)} (hi : M[i]? = some (logO lb sb n cnt done)) : Fn Try.prog 32 [fP lb] M (fun r L' => r = .int .i64 done ∧ L' = M) := by
  refine Fn_enter Try.func32 rfl Try.ntmps32 rfl fun gw => ?_
  repeat (first | ((first | refine WL_Q ?_); (first | refine QW_a ?_)) | refine WL_nil ?_ | refine WC_seq ?_ | refine WC_cond_t (ht := ?_) | refine WC_cond_f (he := ?_) | refine WC_skip ?_ | refine WC_ret ?_ | refine WC_region ?_)
  exact ⟨rfl, _, _, Res1 rfl (resV_tmp rfl), .refl _, rfl, rfl⟩
theorem VecT.get {L : List (Nat × Obj)} {v : Value} {ps : List (List UInt8)} (h : VecT L v ps) {k : Nat} {p : List UInt8} (hp : ps[k]? = some p) : ∃ (b off cap : Nat) (cs : Array Value) (E : TypeId) (fr : Nat × Nat) (i : Nat), v = .slice (some ⟨b, off, none⟩) ps.length cap ∧ L[i]? = some (b, Obj.cells cs E fr) ∧ cs[off + ((k : Nat) : Int).toNat * 1]? = some (tV p) := by
  obtain ⟨_, a, cap, rfl, _, _, hx⟩ := h
  have hk := (List.getElem?_eq_some_iff.1 hp).1
  rcases hx with hx | ⟨b, off, cs, E, fr, i, rfl, hi, hc⟩
  · omega
  · exact ⟨b, off, cap, cs, E, fr, i, rfl, hi, by rw [Int.toNat_natCast, Nat.mul_one]; exact hc k _ (by rw [List.getElem?_map, hp]; rfl)⟩
set_option maxHeartbeats 1000000 in
theorem texts_fn {v v' : Value} {ps : List (List UInt8)} {M : List (Nat × Obj)} (h : VecT M v ps) (h' : VecT M v' ps) (hl : ps.length ≤ 1000000) : Fn Try.prog 30 [v, v'] M (fun r L' => r = .bool true ∧ L' = M) := by
  obtain ⟨_, a, cap, rfl, _⟩ := id h
  obtain ⟨_, a', cap', rfl, _⟩ := id h'
  refine Fn_enter Try.func30 rfl Try.ntmps30 rfl fun gw => ?_
  have d0 : ((((ps.length : Nat)) : Int) != ((ps.length : Nat) : Int)) = false := by simp
  repeat (first | ((first | refine WL_Q ?_); (first | refine QW_a ?_)) | refine WL_nil ?_ | refine WC_seq ?_ | refine WC_block ?_ | refine WC_cond_t (ht := ?_) | refine WC_cond_f (he := ?_) | refine WC_skip ?_ | refine WC_ret ?_ | refine WC_exit ?_ | refine WC_region (id := 0) ?_ | refine WC_region (id := 1) ?_ | refine WC_region (id := 3) ?_)
  refine WC_wk [(5, .int .i64 ((0 : Nat) : Int)), (0, .slice a ps.length cap), (1, .slice a' ps.length cap')] ⟨rfl, rfl, rfl, trivial⟩ ?_
  refine WC_loop (fun m σ => ∃ k : Nat, m = ps.length - k ∧ k ≤ ps.length ∧ σ = ⟨[(5, .int .i64 k), (0, .slice a ps.length cap), (1, .slice a' ps.length cap')], [], M⟩) ps.length ⟨0, by omega, by omega, rfl⟩ ?_
  rintro m σ ⟨k, rfl, hk, rfl⟩
  by_cases hlt : k < ps.length
  · have d : decide ((k : Int) < ((ps.length : Nat) : Int)) = true := decide_eq_true (by omega)
    obtain ⟨p, hp⟩ : ∃ p, ps[k]? = some p := ⟨_, List.getElem?_eq_getElem hlt⟩
    obtain ⟨b, off, c1, cs, E, fr, i, e1, hi, hc⟩ := h.get hp
    obtain ⟨b', off', c1', cs', E', fr', i', e1', hi', hc'⟩ := h'.get hp
    cases e1; cases e1'
    have p0 : (0 : Int) ≤ (k : Int) := by omega
    have p1 : (k : Int) < ((ps.length : Nat) : Int) := by omega
    have w : IntKind.i64.wrap ((k : Int) + 1) = ((k + 1 : Nat) : Int) := by rw [wI64 (by omega) (by omega)]; omega
    have dn : (!(p == p)) = false := by simp
    repeat (first | ((first | refine WL_Q ?_ | refine WR_Q rfl ?_ | refine WR_late rfl rfl rfl (OW_Q ?_)); (first | refine QW_a ?_)) | refine WL_nil ?_ | refine WR_nil ?_ | refine WC_seq ?_ | refine WC_block ?_ | refine WC_cond_t (ht := ?_) | refine WC_cond_f (he := ?_) | refine WC_skip ?_ | refine WC_ret ?_ | refine WC_exit ?_ | refine WC_draw_all (id := 6) 9 (.calm 0 <| .calm 1 <| .calm 2 <| .calm 3 <| .calm 4 <| .calm 5 <| .calm 6 <| .calm 7 <| .calm 8 <| .done) mixed (by kernel_rfl) ?_ | refine WC_region (id := 4) ?_ | refine WC_region (id := 5) ?_)
    rw [w]
    exact ⟨_, _, by omega, ⟨k + 1, rfl, by omega, rfl⟩, ⟨rfl, rfl, rfl, trivial⟩, rfl, .refl _⟩
  · have d : decide ((k : Int) < ((ps.length : Nat) : Int)) = false := decide_eq_false (by omega)
    repeat (first | ((first | refine WL_Q ?_); (first | refine QW_a ?_)) | refine WL_nil ?_ | refine WC_seq ?_ | refine WC_block ?_ | refine WC_cond_t (ht := ?_) | refine WC_cond_f (he := ?_) | refine WC_skip ?_ | refine WC_ret ?_ | refine WC_exit ?_ | refine WC_region (id := 4) ?_ | refine WC_region (id := 8) ?_)
    exact ⟨rfl, _, _, Res1 rfl (resV_tmp rfl), .refl _, rfl, rfl⟩
end Go.Proofs.Ytmdiabglbmgkkaa
namespace Go.Proofs.Ytmdiabglbmgkkaa
open Go.RowKit
abbrev q0 : FG := opG (fun _ => ([], 0)) 5 []
abbrev q1 : FG := appG q0 5 (frm [97, 98])
abbrev q2 : FG := appG q1 5 (frm [99])
abbrev q3 : FG := syncG q2 5
abbrev q4 : FG := appG q3 5 (frm [100])
abbrev qa : FG := crashG q4 []
abbrev qb : FG := crashG q4 [3]
abbrev ab2 : List (List UInt8) := [[97, 98], [99]]
abbrev qc : FG := opG qb 5 ab2
abbrev qd : FG := appG qc 6 [120]
theorem ef1 : appE q0 5 (frm [97, 98]) = 0 := by decide
theorem ef2 : appE q1 5 (frm [99]) = 0 := by decide
theorem ef3 : syncE q2 5 = 0 := by decide
theorem ef4 : appE q3 5 (frm [100]) = 0 := by decide
theorem ef5 : (qa 5).1 = frms ab2 ++ [] ∧ (qb 5).1 = frms ab2 ++ [0xa5, 0, 0] ∧ (qd 6).1 = [120] := by decide
theorem fewq : Few q4 := by
  refine (((Few.app ?_ (by decide) _).app (by decide) _).sync _).app (by decide) _
  exact Few.zero.up (fun h => absurd rfl h)
attribute [local irreducible] Fn WC WL WR OW Qt YieldFn QW
set_option maxHeartbeats 8000000 in
theorem example_fn {L : List (Nat × Obj)} : Fn Try.prog 51 [] L (fun r L' => ∃ sb lb S, r = .tuple #[fP sb, fP lb] ∧ StAt sb S q4 ∧ L' = logO lb sb 5 3 2 :: (S ++ L)) := by
  refine Fn_enter Try.func51 rfl Try.ntmps51 rfl fun gw => ?_
  repeat (first | ((first | refine WL_Q ?_); (first | refine QW_a ?_)) | ((first | refine WL_op rfl ?_); (first | (refine OW_call rfl (hF := new_fn) (hk := ?_); rintro _ _ ⟨sb, S', rfl, rfl, h'⟩))) | refine WL_nil ?_ | refine WC_seq ?_ | refine WC_cond_t (ht := ?_) | refine WC_cond_f (he := ?_) | refine WC_skip ?_ | refine WC_ret ?_ | refine WC_region (id := 0) ?_ | refine WC_region (id := 1) ?_ | refine WC_region (id := 2) ?_)
  refine WL_op rfl (OW_call rfl (hF := open_fn (bs := []) (rest := []) h' (by decide) rfl (by simp) rfl (.inl ⟨rfl, rfl⟩)) (hk := ?_))
  rintro _ _ ⟨lb, v, T, S, hb, h0, rfl, rfl⟩
  obtain ⟨av, cv, rfl, _, _⟩ := id hb.val
  repeat (first | ((first | refine WL_Q ?_); (first | refine QW_a ?_)) | refine WL_nil ?_ | refine WC_seq ?_ | refine WC_cond_t (ht := ?_) | refine WC_cond_f (he := ?_) | refine WC_skip ?_ | refine WC_ret ?_ | refine WC_region (id := 2) ?_)
  refine WC_dropL (logO lb sb 5 0 0 :: (S ++ L)) (.cons_cons _ (List.sublist_append_right _ _)) ?_
  clear hb h'
  repeat (first | ((first | refine WL_Q ?_ | refine WL_Y ?_); (first | refine QW_a ?_)) | refine WL_nil ?_ | refine WL_un (h := ?_) | refine WL_N ?_ | refine WL_M ?_ | refine WC_seq ?_ | refine WC_cond_t (ht := ?_) | refine WC_cond_f (he := ?_) | refine WC_skip ?_ | refine WC_ret ?_ | refine WC_region (id := 3) ?_)
  refine WL_yes rfl rfl rfl rfl rfl (OW_call rfl (hF := append_log (b := [97, 98]) h0 (by decide) ef1 (by decide)) (hk := ?_))
  rintro _ _ ⟨rfl, S1, h1, rfl⟩
  repeat (first | ((first | refine WL_Q ?_ | refine WL_Y ?_); (first | refine QW_a ?_)) | refine WL_nil ?_ | refine WL_un (h := ?_) | refine WL_N ?_ | refine WL_M ?_ | refine WC_seq ?_ | refine WC_cond_t (ht := ?_) | refine WC_cond_f (he := ?_) | refine WC_skip ?_ | refine WC_ret ?_ | refine WC_region (id := 3) ?_)
  refine WL_yes rfl rfl rfl rfl rfl (OW_call rfl (hF := append_log (b := [99]) h1 (by decide) ef2 (by decide)) (hk := ?_))
  rintro _ _ ⟨rfl, S2, h2, rfl⟩
  repeat (first | ((first | refine WL_Q ?_ | refine WL_Y ?_); (first | refine QW_a ?_)) | refine WL_nil ?_ | refine WL_un (h := ?_) | refine WL_N ?_ | refine WL_M ?_ | refine WC_seq ?_ | refine WC_cond_t (ht := ?_) | refine WC_cond_f (he := ?_) | refine WC_skip ?_ | refine WC_ret ?_ | refine WC_region (id := 3) ?_)
  refine WL_yes rfl rfl rfl rfl rfl (OW_call rfl (hF := sync_log h2 (fun _ => ef3)) (hk := ?_))
  rintro _ _ ⟨rfl, S3, h3, rfl⟩
  rw [if_neg (by decide)] at h3
  rw [if_neg (by decide)]
  repeat (first | ((first | refine WL_Q ?_ | refine WL_Y ?_); (first | refine QW_a ?_)) | refine WL_nil ?_ | refine WL_un (h := ?_) | refine WL_N ?_ | refine WL_M ?_ | refine WC_seq ?_ | refine WC_cond_t (ht := ?_) | refine WC_cond_f (he := ?_) | refine WC_skip ?_ | refine WC_ret ?_ | refine WC_region (id := 3) ?_)
  refine WL_yes rfl rfl rfl rfl rfl (OW_call rfl (hF := append_log (b := [100]) h3 (by decide) ef4 (by decide)) (hk := ?_))
  rintro _ _ ⟨rfl, S4, h4, rfl⟩
  repeat (first | ((first | refine WL_Q ?_ | refine WL_Y ?_); (first | refine QW_a ?_)) | refine WL_nil ?_ | refine WL_un (h := ?_) | refine WL_N ?_ | refine WL_M ?_ | refine WC_seq ?_ | refine WC_cond_t (ht := ?_) | refine WC_cond_f (he := ?_) | refine WC_skip ?_ | refine WC_ret ?_ | refine WC_region (id := 3) ?_ | refine WC_region (id := 5) ?_)
  exact ⟨rfl, _, _, Res2 rfl (resV_tmp rfl) (resV_tmp rfl), .refl _, sb, lb, S4, rfl, h4, rfl⟩
theorem vec2 {L : List (Nat × Obj)} {b E : Nat} {fr : Nat × Nat} : VecT ((b, .cells (List.flatMap (fun x : Value => x.cells.toList) [tV [97, 98], tV [99]]).toArray E fr) :: L) (.slice (some ⟨b, 0, none⟩) 2 2) ab2 := vec_lit (xs := ab2.map tV) rfl (by decide)
set_option maxHeartbeats 8000000 in
theorem works16_fn {L : List (Nat × Obj)} : Fn Try.prog 26 [] L (fun r L' => r = .bool true ∧ L' = L) := by
  refine Fn_enter Try.func26 rfl Try.ntmps26 rfl fun gw => ?_
  repeat (first | ((first | refine WL_Q ?_); (first | refine QW_a ?_)) | ((first | refine WL_op rfl ?_); (first | (refine OW_call rfl (hF := example_fn) (hk := ?_); rintro _ _ ⟨s1, l1, S1, rfl, h1, rfl⟩))) | refine WL_nil ?_ | refine WC_seq ?_ | refine WC_cond_t (ht := ?_) | refine WC_cond_f (he := ?_) | refine WC_skip ?_ | refine WC_ret ?_ | refine WC_region (id := 0) ?_ | refine WC_region (id := 1) ?_)
  repeat (first | ((first | refine WL_Q ?_ | refine WL_Y ?_); (first | refine QW_a ?_)) | ((first | refine WL_op rfl ?_ | refine WL_yes (h := ?_)); (first | (refine OW_call rfl (hF := example_fn) (hk := ?_); rintro _ _ ⟨s2, l2, S2, rfl, h2, rfl⟩))) | refine WL_nil ?_ | refine WL_un (h := ?_) | refine WL_N ?_ | refine WL_M ?_ | refine WC_seq ?_ | refine WC_cond_t (ht := ?_) | refine WC_cond_f (he := ?_) | refine WC_skip ?_ | refine WC_ret ?_ | refine WC_region (id := 2) ?_ | refine WC_region (id := 3) ?_)
  have hi : (logO l2 s2 5 3 2 :: (S2 ++ (logO l1 s1 5 3 2 :: (S1 ++ L))))[S2.length + 1]? = some (logO l1 s1 5 3 2) := by
    show (S2 ++ _)[S2.length]? = _
    rw [List.getElem?_append_right (Nat.le_refl _), Nat.sub_self]; rfl
  repeat (first | ((first | refine WL_Q ?_); (first | refine QW_a ?_)) | ((first | refine WL_op rfl ?_); (first | refine OW_callP rfl (hF := count_log hi) (hk := ?_) | refine OW_callP rfl (hF := synced_log hi) (hk := ?_))) | refine WL_nil ?_ | refine WC_seq ?_ | refine WC_cond_t (ht := ?_) | refine WC_cond_f (he := ?_) | refine WC_skip ?_ | refine WC_ret ?_ | refine WC_region (id := 5) ?_)
  refine WC_dropL (S2 ++ (S1 ++ L)) (.cons _ (.append (.refl _) (.cons _ (.refl _)))) ?_
  refine WC_permA (L' := S1 ++ (S2 ++ L)) (List.perm_append_comm_assoc ..) ?_
  obtain ⟨x1, x2, x3⟩ := ef5
  clear hi
  repeat (first | ((first | refine WL_Q ?_); (first | refine QW_a ?_)) | refine WL_nil ?_ | refine WC_seq ?_ | refine WC_cond_t (ht := ?_) | refine WC_cond_f (he := ?_) | refine WC_skip ?_ | refine WC_ret ?_ | refine WC_region (id := 6) ?_)
  refine WL_op rfl (OW_call rfl (hF := crash7_st h1 fewq (ByAt.nil _)) (hk := ?_))
  rintro _ _ ⟨rfl, Sa, rfl, ha⟩
  repeat (first | ((first | refine WL_Q ?_); (first | refine QW_a ?_)) | refine WL_nil ?_ | refine WC_seq ?_ | refine WC_cond_t (ht := ?_) | refine WC_cond_f (he := ?_) | refine WC_skip ?_ | refine WC_ret ?_ | refine WC_region (id := 6) ?_ | refine WC_region (id := 7) ?_)
  refine WL_op rfl (OW_call rfl (hF := open_fn (bs := ab2) (rest := []) ha (by decide) x1 (by decide) rfl (.inl ⟨rfl, rfl⟩)) (hk := ?_))
  rintro _ _ ⟨la, va, Ta, Sb, hba, hb, rfl, rfl⟩
  repeat (first | ((first | refine WL_Q ?_); (first | refine QW_a ?_)) | refine WL_nil ?_ | refine WC_seq ?_ | refine WC_cond_t (ht := ?_) | refine WC_cond_f (he := ?_) | refine WC_skip ?_ | refine WC_ret ?_ | refine WC_region (id := 7) ?_)
  refine WC_dropL (Ta ++ (S2 ++ L)) (.cons _ (.append (.refl _) (List.sublist_append_right _ _))) ?_
  refine WC_permA (L' := S2 ++ (Ta ++ L)) (List.perm_append_comm_assoc ..) ?_
  repeat (first | ((first | refine WL_Q ?_); (first | refine QW_a ?_)) | ((first | refine WL_op rfl ?_); (first | refine OW_build1 rfl (hk := fun _ => ?_))) | refine WL_nil ?_ | refine WC_seq ?_ | refine WC_cond_t (ht := ?_) | refine WC_cond_f (he := ?_) | refine WC_skip ?_ | refine WC_ret ?_ | refine WC_region (id := 8) ?_)
  rename_i bx
  refine WL_permA (L' := S2 ++ ((bx, .cells #[bV 3] 5 (0, 0)) :: (Ta ++ L))) List.perm_middle ?_
  refine WL_op rfl (OW_call rfl (hF := crash7_st h2 fewq (ByAt.one bx 5 (0, 0) 3 _)) (hk := ?_))
  rintro _ _ ⟨rfl, Sc, rfl, hc⟩
  refine WL_dropS (L' := Sc ++ (Ta ++ L)) (.append (.refl _) (.cons _ (.refl _))) ?_
  repeat (first | ((first | refine WL_Q ?_); (first | refine QW_a ?_)) | ((first | refine WL_op rfl ?_); (first | refine OW_build1 rfl (hk := fun _ => ?_) | refine OW_callP rfl (hF := read_st hc) (hk := ?_))) | refine WL_nil ?_ | refine WC_seq ?_ | refine WC_cond_t (ht := ?_) | refine WC_cond_f (he := ?_) | refine WC_skip ?_ | refine WC_ret ?_ | refine WC_region (id := 8) ?_ | refine WC_region (id := 9) ?_ | refine WC_region (id := 10) ?_)
  refine WL_op rfl (OW_call rfl (hF := open_fn (bs := ab2) (rest := [0xa5, 0, 0]) hc (by decide) x2 (by decide) rfl (.inr ⟨rfl, by decide⟩)) (hk := ?_))
  rintro _ _ ⟨lc, vc, Tc, Sd, hbc, hd, rfl, rfl⟩
  repeat (first | ((first | refine WL_Q ?_); (first | refine QW_a ?_)) | refine WL_nil ?_ | refine WC_seq ?_ | refine WC_cond_t (ht := ?_) | refine WC_cond_f (he := ?_) | refine WC_skip ?_ | refine WC_ret ?_ | refine WC_region (id := 10) ?_)
  refine WC_dropL (Tc ++ (Sd ++ (Ta ++ L))) (.cons _ (.refl _)) ?_
  refine WC_permA (L' := Sd ++ (Tc ++ (Ta ++ L))) (List.perm_append_comm_assoc ..) ?_
  repeat (first | ((first | refine WL_Q ?_); (first | refine QW_a ?_)) | ((first | refine WL_op rfl ?_); (first | refine OW_callP rfl (hF := read_st hd) (hk := ?_) | (refine OW_call rfl (hF := append_st (b := [120]) hd (by decide)) (hk := ?_); rintro _ _ ⟨rfl, Se, rfl, he⟩))) | refine WL_nil ?_ | refine WC_seq ?_ | refine WC_cond_t (ht := ?_) | refine WC_cond_f (he := ?_) | refine WC_skip ?_ | refine WC_ret ?_ | refine WC_region (id := 11) ?_ | refine WC_region (id := 12) ?_ | refine WC_region (id := 13) ?_)
  refine WL_op rfl (OW_call rfl (hF := open_bad (rest := [120]) he (by decide) x3 rfl) (hk := ?_))
  rintro _ _ ⟨rfl, rfl⟩
  repeat (first | ((first | refine WL_Q ?_); (first | refine QW_a ?_)) | refine WL_nil ?_ | refine WC_seq ?_ | refine WC_cond_t (ht := ?_) | refine WC_cond_f (he := ?_) | refine WC_skip ?_ | refine WC_ret ?_ | refine WC_region (id := 13) ?_)
  refine WC_dropL (Tc ++ (Ta ++ L)) (List.sublist_append_right _ _) ?_
  have f1 : ((((qb 5).1.length : Nat) : Int) == 16) = true := by rw [x2]; rfl
  have f2 : ((((qc 5).1.length : Nat) : Int) == 13) = true := by
    show ((((opG qb 5 ab2 5).1.length : Nat) : Int) == 13) = true
    unfold opG
    rw [upG_at]; rfl
  refine WC_wk [(5, .int .i64 3), (6, .int .i64 2), (9, .int .i64 0), (14, .int .i64 0), (8, va), (13, vc), (10, tV (qb 5).1), (15, tV (qc 5).1), (19, .int .i64 21)] ⟨rfl, rfl, rfl, rfl, rfl, rfl, rfl, rfl, rfl, trivial⟩ ?_
  generalize (qb 5).1 = xb at f1
  generalize (qc 5).1 = xc at f2
  repeat (first | ((first | refine WL_Q ?_ | refine WL_Y ?_); (first | refine QW_a ?_)) | refine WL_nil ?_ | refine WL_un (h := ?_) | refine WL_N ?_ | refine WL_M ?_ | refine WC_seq ?_ | refine WC_cond_t (ht := ?_) | refine WC_cond_f (he := ?_) | refine WC_skip ?_ | refine WC_ret ?_ | refine WC_region (id := 14) ?_)
  refine WL_yes rfl rfl rfl rfl rfl (OW_buildS rfl (hk := ?_))
  intro t1
  refine WL_yes rfl rfl rfl rfl rfl (OW_call rfl (hF := texts_fn (ps := ab2) (hba.vec (_ :: Tc) L) vec2 (by decide)) (hk := ?_))
  rintro _ _ ⟨rfl, rfl⟩
  refine WL_dropS (L' := Tc ++ (Ta ++ L)) (.cons _ (.refl _)) ?_
  repeat (first | ((first | refine WL_Q ?_ | refine WL_Y ?_); (first | refine QW_a ?_)) | refine WL_nil ?_ | refine WL_un (h := ?_) | refine WL_N ?_ | refine WL_M ?_ | refine WC_seq ?_ | refine WC_cond_t (ht := ?_) | refine WC_cond_f (he := ?_) | refine WC_skip ?_ | refine WC_ret ?_ | refine WC_region (id := 14) ?_)
  refine WL_yes rfl rfl rfl rfl rfl (OW_buildS rfl (hk := ?_))
  intro t2
  refine WL_yes rfl rfl rfl rfl rfl (OW_call rfl (hF := texts_fn (ps := ab2) (hbc.vec [_] (Ta ++ L)) vec2 (by decide)) (hk := ?_))
  rintro _ _ ⟨rfl, rfl⟩
  repeat (first | ((first | refine WL_Q ?_ | refine WL_Y ?_); (first | refine QW_a ?_)) | refine WL_nil ?_ | refine WL_un (h := ?_) | refine WL_N ?_ | refine WL_M ?_ | refine WC_seq ?_ | refine WC_cond_t (ht := ?_) | refine WC_cond_f (he := ?_) | refine WC_skip ?_ | refine WC_ret ?_ | refine WC_region (id := 14) ?_)
  exact ⟨rfl, _, L, Res1 rfl (resV_tmp rfl), .cons _ (.trans (List.sublist_append_right _ _) (List.sublist_append_right _ _)), rfl, rfl⟩
end Go.Proofs.Ytmdiabglbmgkkaa
namespace Go.Proofs.Ytmdiabglbmgkkaa
open Go.ChangeShapes Go.WideShapes Go.ChangeAt Go.RowKit
theorem by_of {L : List (Nat × Obj)} {a : Option Addr} {cap : Nat} {xs : List Int} (h : xs.length ≤ cap) (hm : cap ≤ maxLen) (hx : SlLie (intR .u8) L a xs) : ∃ l : List UInt8, l.length = xs.length ∧ ByAt L (.slice a xs.length cap) l := by
  refine ⟨xs.map fun x => UInt8.ofNat x.toNat, by simp, ?_⟩
  unfold ByAt
  rw [List.length_map]
  refine ⟨by simp, a, cap, rfl, h, hm, ?_⟩
  rcases hx with rfl | ⟨b, off, cs, E, fr, i, h1, h2, h3⟩
  · exact .inl rfl
  · refine .inr ⟨b, off, cs, E, fr, i, h1, h2, fun j x hj => ?_⟩
    simp only [List.map_map, List.getElem?_map] at hj
    obtain ⟨y, hy, rfl⟩ := Option.map_eq_some_iff.1 hj
    obtain ⟨h4, h5⟩ := h3 j y hy
    have hb := u8_bounds h5
    have h6 : cs[off + j]? = some (.int .u8 y) := by simpa [intR] using h4
    rw [h6]
    simp only [Function.comp, bV, UInt8.toNat_ofNat', Option.some.injEq, Value.int.injEq, true_and]
    omega
end Go.Proofs.Ytmdiabglbmgkkaa
namespace Go.Proofs.Ytmdiabglbmgkkaa
open Go.RowKit
def ChAt (L : List (Nat × Obj)) (v : Value) (n : Nat) : Prop := ∃ a cap, v = .slice a n cap ∧ n ≤ cap ∧ cap ≤ maxLen ∧ ∀ j, j < n → ∃ (g off : Nat) (cur : Array Value) (E : TypeId) (fr : Nat × Nat) (i : Nat) (what : Int) (b : List UInt8) (cv : Value) (ch : List UInt8), a = some ⟨g, off, none⟩ ∧ L[i]? = some (g, .cells cur E fr) ∧ 0 ≤ what ∧ what < 256 ∧ b.length ≤ maxLen ∧ ByAt L cv ch ∧ cur[off + j * 3]? = some (.int .u8 what) ∧ cur[off + j * 3 + 1]? = some (tV b) ∧ cur[off + j * 3 + 2]? = some cv
theorem chs_of {L : List (Nat × Obj)} {a : Option Addr} {cap : Nat} {xs : List (Int × ByteArray × List Int)} (h : xs.length ≤ cap) (hm : cap ≤ maxLen) (hx : SlLie (pairR (intR .u8) (pairR strR (sliceR (intR .u8)))) L a xs) : ChAt L (.slice a xs.length cap) xs.length := by
  refine ⟨a, cap, rfl, h, hm, fun j hj => ?_⟩
  rcases hx with rfl | ⟨b, off, cs, E, fr, i, rfl, hi, hc⟩
  · simp at hj
  · obtain ⟨⟨c0, w⟩, ⟨c1, hl⟩, a2, cap2, c2, l1, l2, hsl⟩ := hc j _ (List.getElem?_eq_getElem hj)
    have u := u8_bounds w
    obtain ⟨ch, e, hby⟩ := by_of l1 l2 hsl
    refine ⟨b, off, cs, E, fr, i, _, (xs[j]'hj).2.1.data.toList, _, ch, rfl, hi, u.1, u.2, ?_, (e ▸ hby), c0, ?_, c2⟩
    · simpa using hl
    · rw [show tV (xs[j]'hj).2.1.data.toList = Value.string (xs[j]'hj).2.1 from congrArg Value.string (bstr_of _).symm]; exact c1
theorem VecT.take {L : List (Nat × Obj)} {a : Option Addr} {cap : Nat} {ps : List (List UInt8)} (h : VecT L (.slice a ps.length cap) ps) {k : Nat} (hk : k ≤ ps.length) : VecT L (.slice a k cap) (ps.take k) := by
  obtain ⟨h1, a', cap', e, h2, h3, h4⟩ := h
  simp only [Value.slice.injEq] at e
  obtain ⟨rfl, _, rfl⟩ := e
  have hl : (ps.take k).length = k := by rw [List.length_take]; omega
  unfold VecT
  rw [hl]
  refine ⟨by rw [List.length_map, hl]; omega, a, cap, rfl, by omega, h3, ?_⟩
  rcases h4 with h4 | ⟨b, off, cs, E, fr, i, e1, e2, e3⟩
  · left; omega
  · refine .inr ⟨b, off, cs, E, fr, i, e1, e2, fun j x hx => e3 j x ?_⟩
    rw [List.map_take, List.getElem?_take] at hx
    split at hx
    · exact hx
    · cases hx
theorem BufT.cut {a : Option Addr} {cap : Nat} {T : List (Nat × Obj)} {l : List (List UInt8)} (h : BufT (.slice a l.length cap) T l) {many : Nat} (hm : many ≤ l.length) : BufT (.slice a many many) T (l.take many) := by
  rcases h with ⟨h1, h2, h3, h4⟩ | ⟨g, off, cap', cur, h1, rfl, ho⟩
  · obtain rfl : many = 0 := by omega
    simp only [Value.slice.injEq] at h3
    obtain ⟨rfl, _, rfl⟩ := h3
    exact .inl ⟨by simp, by simp, rfl, h4⟩
  · simp only [Value.slice.injEq] at h1
    obtain ⟨rfl, _, rfl⟩ := h1
    have ht := Own.take ho hm (Nat.le_refl many) (Nat.le_trans hm ho.le)
    have hl : (l.take many).length = many := by rw [List.length_take]; omega
    refine .inr ⟨g, off, many, cur, by rw [hl], rfl, ?_⟩
    rw [Nat.mul_one, ← List.map_take] at ht
    rw [hl]
    exact ht
structure Inv (i : Nat) (all : List (List UInt8)) (d : Nat) (g : FG) : Prop where
  file : (g 0).1 = frms all
  mark : (g 0).2 = (frms (all.take d)).length
  le : d ≤ all.length
  few : all.length ≤ i
  size : (frms all).length ≤ 105 * i
  short : ∀ b ∈ all, b.length ≤ 100
  other : ∀ n, n ≠ 0 → g n = ([], 0)
structure Mid (i : Nat) (all : List (List UInt8)) (d : Nat) (m : Nat) (g : FG) : Prop where
  file : (g 0).1 = (frms all).take m
  le : m ≤ (frms all).length
  mark : (frms (all.take d)).length ≤ m
  other : ∀ n, n ≠ 0 → g n = ([], 0)
theorem Inv.few7 {i : Nat} {all : List (List UInt8)} {d : Nat} {g : FG} (h : Inv i all d g) : Few g := fun n hn => by
  by_cases e : n = 0
  · omega
  · rw [h.other n e] at hn; exact absurd rfl hn
theorem frms_take_le (all : List (List UInt8)) (k : Nat) : (frms (all.take k)).length ≤ (frms all).length := by
  have h : frms all = frms (all.take k) ++ frms (all.drop k) := by rw [← frms_app, List.take_append_drop]
  rw [h, List.length_append]; omega
theorem Inv.mid {i : Nat} {all : List (List UInt8)} {d : Nat} {g : FG} (h : Inv i all d g) : Mid i all d (frms all).length g :=
  ⟨by rw [h.file, List.take_length], Nat.le_refl _, frms_take_le _ _, h.other⟩
theorem Inv.crash {i : Nat} {all : List (List UInt8)} {d : Nat} {g : FG} (h : Inv i all d g) (ch : List UInt8) : ∃ m, Mid i all d m (crashG g ch) := by
  have hm : ∀ n, (g n).2 ≤ (g n).1.length := fun n => by
    by_cases e : n = 0
    · subst e; rw [h.mark, h.file]; exact frms_take_le _ _
    · rw [h.other n e]; exact Nat.le_refl _
  have hz : ∀ n, (g n).1 = [] → g n = ([], 0) := fun n hn => by
    by_cases e : n = 0
    · subst e
      have h1 := frms_nil (h.file ▸ hn)
      have h2 := h.mark
      rw [h1, List.take_nil] at h2
      exact Prod.ext hn h2
    · exact h.other n e
  obtain ⟨m, q1, q2, q3⟩ := crashG_left h.few7 hm hz ch 0
  refine ⟨m, by rw [q3, h.file], by rw [← h.file]; exact q2, by rw [← h.mark]; exact q1, fun n hn => ?_⟩
  obtain ⟨m', r1, r2, r3⟩ := crashG_left h.few7 hm hz ch n
  rw [r3, h.other n hn] at *
  simp at r2
  rw [r2]; rfl
theorem Inv.app {i : Nat} {all : List (List UInt8)} {d : Nat} {g : FG} (h : Inv i all d g) {b : List UInt8} (hb : b.length ≤ 100) (hi : i < 100) : appE g 0 (frm b) = 0 ∧ Inv (i + 1) (all ++ [b]) d (appG g 0 (frm b)) := by
  have hs := h.size
  have hf := h.few
  have hle := h.le
  have e1 : ¬ 1048576 < (g 0).1.length + (frm b).length := by rw [h.file, frm_len]; omega
  refine ⟨by unfold appE; rw [if_neg (by decide), if_neg e1], ?_⟩
  have e2 : appG g 0 (frm b) = upG g 0 ((g 0).1 ++ frm b, (g 0).2) := by unfold appG; rw [if_neg (by decide), if_neg e1]
  rw [e2]
  refine ⟨by rw [upG_at, frms_app, frms_one, h.file], ?_, by rw [List.length_append]; omega, by rw [List.length_append]; simp; omega, ?_, ?_, fun n hn => by unfold upG; rw [if_neg hn]; exact h.other n hn⟩
  · rw [upG_at, List.take_append_of_le_length h.le]; exact h.mark
  · rw [frms_app, frms_one, List.length_append, frm_len]; omega
  · intro x hx
    rcases List.mem_append.1 hx with hx | hx
    · exact h.short x hx
    · obtain rfl : x = b := by simpa using hx
      exact hb
theorem Inv.sync {i : Nat} {all : List (List UInt8)} {d : Nat} {g : FG} (h : Inv i all d g) : (0 < all.length → syncE g 0 = 0) ∧ Inv (i + 1) all all.length (if all.length = 0 then g else syncG g 0) ∧ (if all.length = 0 then d else all.length) = all.length := by
  have hle := h.le
  have hf := h.few
  have hs := h.size
  have hne : all.length ≠ 0 → (g 0).1 ≠ [] := fun hn e => by rw [h.file] at e; rw [frms_nil e] at hn; exact hn rfl
  refine ⟨fun hp => by unfold syncE; rw [if_neg (hne (by omega))], ?_, by split <;> omega⟩
  by_cases h0 : all.length = 0
  · rw [if_pos h0]
    have hd : d = all.length := by omega
    subst hd
    exact ⟨h.file, h.mark, Nat.le_refl _, by omega, by omega, h.short, h.other⟩
  · rw [if_neg h0]
    have e2 : syncG g 0 = upG g 0 ((g 0).1, (g 0).1.length) := by unfold syncG; rw [if_neg (hne h0)]
    rw [e2]
    exact ⟨by rw [upG_at]; exact h.file, by rw [upG_at, List.take_length, h.file], Nat.le_refl _, by omega, by omega, h.short, fun n hn => by unfold upG; rw [if_neg hn]; exact h.other n hn⟩
theorem Mid.cut {i : Nat} {all : List (List UInt8)} {d m : Nat} {g : FG} (h : Mid i all d m g) (hb : ∀ b ∈ all, b.length ≤ 100) (hd : d ≤ all.length) : ∃ k rest e, d ≤ k ∧ k ≤ all.length ∧ (g 0).1 = frms (all.take k) ++ rest ∧ (nxt rest (frms (all.take k)).length).2.2 = e ∧ ((e = 9 ∧ rest = []) ∨ (e = 20 ∧ rest ≠ [])) ∧ (m = (frms all).length → k = all.length) := by
  obtain ⟨k, rest, h1, h2, h3, h4⟩ := frms_cut all m h.le
  rcases h3 with rfl | ⟨b, j, hbk, rfl, hj0, hj1⟩
  · exact ⟨k, [], 9, h4 d hd h.mark, h1, by rw [h.file, h2], rfl, .inl ⟨rfl, rfl⟩, fun hm => by have := h4 all.length (Nat.le_refl _) (by rw [List.take_length]; omega); omega⟩
  · refine ⟨k, _, 20, h4 d hd h.mark, h1, by rw [h.file, h2], ?_, .inr ⟨rfl, ?_⟩, fun hm => by have := h4 all.length (Nat.le_refl _) (by rw [List.take_length]; omega); omega⟩
    · rw [nxt_torn (by have := hb b (List.mem_of_getElem? hbk); omega) hj0 hj1]
    · intro e
      have := congrArg List.length e
      rw [List.length_take, List.length_nil] at this
      omega
theorem Mid.inv {i : Nat} {all : List (List UInt8)} {d m k : Nat} {g : FG} (h : Mid i all d m g) (hb : ∀ b ∈ all, b.length ≤ 100) (hk : k ≤ all.length) (hf : all.length ≤ i) (hs : (frms all).length ≤ 105 * i) : Inv (i + 1) (all.take k) k (opG g 0 (all.take k)) := by
  have hl : (all.take k).length = k := by rw [List.length_take]; omega
  have := frms_take_le all k
  refine ⟨by unfold opG; rw [upG_at], by unfold opG; rw [upG_at, List.take_of_length_le (l := all.take k) (by omega)], by omega, by omega, by omega, fun b hm => hb b (List.mem_of_mem_take hm), fun n hn => by unfold opG upG; rw [if_neg hn]; exact h.other n hn⟩
attribute [local irreducible] Fn WC WL WR OW Qt YieldFn QW
set_option maxHeartbeats 16000000 in
theorem keeps_fn {v : Value} {n : Nat} {L : List (Nat × Obj)} (hv : ChAt L v n) : Fn Try.prog 7 [v] L (fun r L' => r = .bool true ∧ L' = L) := by
  obtain ⟨va, vc, rfl, hvl, hvm, hch⟩ := hv
  refine Fn_enter Try.func7 rfl Try.ntmps7 rfl fun gw => ?_
  repeat (first | ((first | refine WL_Q ?_); (first | refine QW_a ?_)) | ((first | refine WL_op rfl ?_); (first | refine OW_callP rfl (hF := works16_fn) (hk := ?_) | (refine OW_call rfl (hF := new_fn) (hk := ?_); rintro _ _ ⟨sb, S, rfl, rfl, hS⟩))) | refine WL_nil ?_ | refine WC_seq ?_ | refine WC_block ?_ | refine WC_cond_t (ht := ?_) | refine WC_cond_f (he := ?_) | refine WC_skip ?_ | refine WC_ret ?_ | refine WC_exit ?_ | refine WC_region (id := 0) ?_ | refine WC_region (id := 1) ?_ | refine WC_region (id := 3) ?_ | refine WC_region (id := 4) ?_)
  refine WL_op rfl (OW_call rfl (hF := open_fn (bs := []) (rest := []) hS (by decide) rfl (by simp) rfl (.inl ⟨rfl, rfl⟩)) (hk := ?_))
  rintro _ _ ⟨lb, v0, T0, S0, hb0, h0, rfl, rfl⟩
  repeat (first | ((first | refine WL_Q ?_ | refine WL_Y ?_); (first | refine QW_a ?_)) | refine WL_nil ?_ | refine WL_un (h := ?_) | refine WL_N ?_ | refine WL_M ?_ | refine WC_seq ?_ | refine WC_block ?_ | refine WC_cond_t (ht := ?_) | refine WC_cond_f (he := ?_) | refine WC_skip ?_ | refine WC_ret ?_ | refine WC_exit ?_ | refine WC_region (id := 4) ?_ | refine WC_region (id := 5) ?_ | refine WC_region (id := 7) ?_ | refine WC_region (id := 8) ?_ | refine WC_region (id := 9) ?_)
  refine WC_dropL (logO lb sb 0 0 0 :: (S0 ++ L)) (.cons_cons _ (List.sublist_append_right _ _)) ?_
  refine WC_wk [(9, .int .i64 ((0 : Nat) : Int)), (8, .int .i64 ((0 : Nat) : Int)), (7, .slice none 0 0), (4, fP lb), (3, fP sb), (0, .slice va n vc)] ⟨rfl, rfl, rfl, rfl, rfl, rfl, trivial⟩ ?_
  refine WC_loop (fun m σ => ∃ (i d : Nat) (all : List (List UInt8)) (g : FG) (S T : List (Nat × Obj)) (v : Value) (lb : Nat), m = n - i ∧ i ≤ n ∧ i ≤ 100 ∧ Inv i all d g ∧ StAt sb S g ∧ BufT v T all ∧ σ = ⟨[(9, .int .i64 i), (8, .int .i64 d), (7, v), (4, fP lb), (3, fP sb), (0, .slice va n vc)], [], logO lb sb 0 all.length d :: (S ++ (T ++ L))⟩) n ⟨0, 0, [], _, S0, [], _, lb, by omega, by omega, by omega, ⟨rfl, rfl, by simp, by simp, by simp [frms], by simp, fun m hm => by unfold opG upG; rw [if_neg hm]⟩, h0, Buf.nil _ _, rfl⟩ ?_
  clear hb0 h0 hS
  rintro m σ ⟨i, d, all, g, S, T, v, lb, rfl, hi, hi100, hI, hS, hbf, rfl⟩
  by_cases hgo : i < n ∧ i < 100
  rotate_left
  · by_cases hlt : i < n
    · have d2 : decide ((i : Int) < ((n : Nat) : Int)) = true := decide_eq_true (by omega)
      have d3 : decide ((i : Int) < 100) = false := decide_eq_false (by omega)
      repeat (first | ((first | refine WL_Q ?_ | refine WL_Y ?_); (first | refine QW_a ?_)) | refine WL_nil ?_ | refine WL_un (h := ?_) | refine WL_N ?_ | refine WL_M ?_ | refine WC_seq ?_ | refine WC_block ?_ | refine WC_cond_t (ht := ?_) | refine WC_cond_f (he := ?_) | refine WC_skip ?_ | refine WC_ret ?_ | refine WC_exit ?_ | refine WC_region (id := 10) ?_ | refine WC_region (id := 38) ?_)
      exact ⟨rfl, _, L, Res1 rfl (resV_tmp rfl), .cons _ (.trans (List.sublist_append_right _ _) (List.sublist_append_right _ _)), rfl, rfl⟩
    · have d2 : decide ((i : Int) < ((n : Nat) : Int)) = false := decide_eq_false (by omega)
      repeat (first | ((first | refine WL_Q ?_ | refine WL_Y ?_); (first | refine QW_a ?_)) | refine WL_nil ?_ | refine WL_un (h := ?_) | refine WL_N ?_ | refine WL_M ?_ | refine WC_seq ?_ | refine WC_block ?_ | refine WC_cond_t (ht := ?_) | refine WC_cond_f (he := ?_) | refine WC_skip ?_ | refine WC_ret ?_ | refine WC_exit ?_ | refine WC_region (id := 10) ?_ | refine WC_region (id := 38) ?_)
      exact ⟨rfl, _, L, Res1 rfl (resV_tmp rfl), .cons _ (.trans (List.sublist_append_right _ _) (List.sublist_append_right _ _)), rfl, rfl⟩
  obtain ⟨hlt, h100⟩ := hgo
  have d2 : decide ((i : Int) < ((n : Nat) : Int)) = true := decide_eq_true (by omega)
  have d3 : decide ((i : Int) < 100) = true := decide_eq_true (by omega)
  obtain ⟨g1, o1, cu1, E1, fr1, i1, what, b0, cv, ch, rfl, hi1, w0, w1, bl, hcv, x0, x1, x2⟩ := hch i hlt
  have p0 : (0 : Int) ≤ (i : Int) := by omega
  have p1 : ((i : Nat) : Int) < ((n : Nat) : Int) := by omega
  have y0 : cu1[o1 + ((i : Nat) : Int).toNat * 3]? = some (.int .u8 what) := by rw [Int.toNat_natCast]; exact x0
  have y1 : cu1[o1 + ((i : Nat) : Int).toNat * 3 + 1]? = some (tV b0) := by rw [Int.toNat_natCast]; exact x1
  have y2 : cu1[o1 + ((i : Nat) : Int).toNat * 3 + 2]? = some cv := by rw [Int.toNat_natCast]; exact x2
  have hm1 : (logO lb sb 0 all.length d :: (S ++ (T ++ L)))[S.length + (T.length + i1) + 1]? = some (g1, .cells cu1 E1 fr1) := by
    show (S ++ (T ++ L))[S.length + (T.length + i1)]? = _
    rw [List.getElem?_append_right (by omega), Nat.add_sub_cancel_left, List.getElem?_append_right (by omega), Nat.add_sub_cancel_left]; exact hi1
  have w : IntKind.i64.wrap ((i : Int) + 1) = ((i + 1 : Nat) : Int) := by rw [wI64 (by omega) (by omega)]; omega
  have m0 : (0 : Int) ≤ (if (100 : Int) < ((b0.length : Nat) : Int) then (100 : Int) else ((b0.length : Nat) : Int)) := by split <;> omega
  have m1 : (if (100 : Int) < ((b0.length : Nat) : Int) then (100 : Int) else ((b0.length : Nat) : Int)) ≤ ((b0.length : Nat) : Int) := by split <;> omega
  repeat (first | ((first | refine WL_Q ?_ | refine WL_Y ?_ | refine WR_Q rfl ?_ | refine WR_late rfl rfl rfl (OW_Q ?_) | refine WR_Y rfl ?_); (first | refine QW_a ?_)) | refine WL_nil ?_ | refine WL_un (h := ?_) | refine WL_N ?_ | refine WL_M ?_ | refine WR_nil ?_ | refine WR_un rfl (hk := ?_) | refine WR_N rfl ?_ | refine WR_M rfl ?_ | refine WC_seq ?_ | refine WC_block ?_ | refine WC_cond_t (ht := ?_) | refine WC_cond_f (he := ?_) | refine WC_skip ?_ | refine WC_ret ?_ | refine WC_exit ?_ | refine WC_draw_all (id := 12) 14 (.calm 0 <| .calm 1 <| .calm 2 <| .calm 3 <| .calm 4 <| .calm 5 <| .calm 6 <| .calm 7 <| .calm 8 <| .calm 9 <| .calm 10 <| .calm 11 <| .calm 12 <| .calm 13 <| .done) mixed (by kernel_rfl) ?_ | refine WC_region (id := 10) ?_ | (refine WR_skN rfl (h := ?_)) | (refine WR_skM rfl (h := ?_)) | (refine WR_skU rfl (h := ?_)))
  rw [take_min b0 100 100 rfl]
  repeat (first | ((first | refine WL_Q ?_ | refine WR_Q rfl ?_ | refine WR_late rfl rfl rfl (OW_Q ?_)); (first | refine QW_a ?_)) | refine WL_nil ?_ | refine WR_nil ?_ | refine WC_seq ?_ | refine WC_block ?_ | refine WC_cond_t (ht := ?_) | refine WC_cond_f (he := ?_) | refine WC_skip ?_ | refine WC_ret ?_ | refine WC_exit ?_ | refine WC_draw_all (id := 12) 14 (.calm 0 <| .calm 1 <| .calm 2 <| .calm 3 <| .calm 4 <| .calm 5 <| .calm 6 <| .calm 7 <| .calm 8 <| .calm 9 <| .calm 10 <| .calm 11 <| .calm 12 <| .calm 13 <| .done) mixed (by kernel_rfl) ?_ | refine WC_region (id := 13) ?_)
  have hbl : (b0.take 100).length ≤ 100 := by rw [List.length_take]; omega
  generalize b0.take 100 = b at hbl
  clear m0 m1 x0 x1 x2 d2 d3
  have q0 := Int.tmod_nonneg 7 w0
  have q1 := Int.tmod_lt_of_pos what (b := 7) (by decide)
  repeat (first | ((first | refine WL_Q ?_); (first | refine QW_a ?_)) | refine WL_nil ?_ | refine WC_seq ?_ | refine WC_block ?_ | refine WC_cond_t (ht := ?_) | refine WC_cond_f (he := ?_) | refine WC_skip ?_ | refine WC_ret ?_ | refine WC_exit ?_ | refine WC_region (id := 25) ?_)
  refine WC_meet (fun σ => σ = ⟨[(160, .bool (decide (what.tmod 7 ≤ 3))), (64, .int .u8 (what.tmod 7)), (10, tV b), (9, .int .i64 i), (8, .int .i64 d), (7, v), (4, fP lb), (3, fP sb), (0, .slice (some ⟨g1, o1, none⟩) n vc)], [], logO lb sb 0 all.length d :: (S ++ (T ++ L))⟩) ?_ ?_
  · by_cases c0 : what.tmod 7 = 0
    · have d0 : (what.tmod 7 == 0) = true := by simpa using c0
      have q : decide (what.tmod 7 ≤ 3) = true := decide_eq_true (by omega)
      repeat (first | ((first | refine WL_Q ?_); (first | refine QW_a ?_)) | refine WL_nil ?_ | refine WC_seq ?_ | refine WC_block ?_ | refine WC_cond_t (ht := ?_) | refine WC_cond_f (he := ?_) | refine WC_skip ?_ | refine WC_ret ?_ | refine WC_exit ?_ | refine WC_region (id := 26) ?_)
      exact ⟨_, rfl, ⟨(show some (Value.bool (what.tmod 7 == 0)) = some (Value.bool (decide (what.tmod 7 ≤ 3))) by rw [d0, q]), rfl, rfl, rfl, rfl, rfl, rfl, rfl, rfl, trivial⟩, rfl, .refl _⟩
    have d0 : (what.tmod 7 == 0) = false := by simpa using c0
    by_cases c1 : what.tmod 7 = 1
    · have d1 : (what.tmod 7 == 1) = true := by simpa using c1
      have q : decide (what.tmod 7 ≤ 3) = true := decide_eq_true (by omega)
      repeat (first | ((first | refine WL_Q ?_); (first | refine QW_a ?_)) | refine WL_nil ?_ | refine WC_seq ?_ | refine WC_block ?_ | refine WC_cond_t (ht := ?_) | refine WC_cond_f (he := ?_) | refine WC_skip ?_ | refine WC_ret ?_ | refine WC_exit ?_ | refine WC_region (id := 26) ?_)
      exact ⟨_, rfl, ⟨(show some (Value.bool (what.tmod 7 == 1)) = some (Value.bool (decide (what.tmod 7 ≤ 3))) by rw [d1, q]), rfl, rfl, rfl, rfl, rfl, rfl, rfl, rfl, trivial⟩, rfl, .refl _⟩
    have d1 : (what.tmod 7 == 1) = false := by simpa using c1
    by_cases c2 : what.tmod 7 = 2
    · have d2 : (what.tmod 7 == 2) = true := by simpa using c2
      have q : decide (what.tmod 7 ≤ 3) = true := decide_eq_true (by omega)
      repeat (first | ((first | refine WL_Q ?_); (first | refine QW_a ?_)) | refine WL_nil ?_ | refine WC_seq ?_ | refine WC_block ?_ | refine WC_cond_t (ht := ?_) | refine WC_cond_f (he := ?_) | refine WC_skip ?_ | refine WC_ret ?_ | refine WC_exit ?_ | refine WC_region (id := 26) ?_ | refine WC_region (id := 27) ?_)
      exact ⟨_, rfl, ⟨(show some (Value.bool (what.tmod 7 == 2)) = some (Value.bool (decide (what.tmod 7 ≤ 3))) by rw [d2, q]), rfl, rfl, rfl, rfl, rfl, rfl, rfl, rfl, trivial⟩, rfl, .refl _⟩
    have d2 : (what.tmod 7 == 2) = false := by simpa using c2
    have q : (what.tmod 7 == 3) = decide (what.tmod 7 ≤ 3) := by
      by_cases c3 : what.tmod 7 = 3
      · rw [decide_eq_true (show what.tmod 7 ≤ 3 by omega)]; simpa using c3
      · rw [decide_eq_false (show ¬ what.tmod 7 ≤ 3 by omega)]; simpa using c3
    repeat (first | ((first | refine WL_Q ?_); (first | refine QW_a ?_)) | refine WL_nil ?_ | refine WC_seq ?_ | refine WC_block ?_ | refine WC_cond_t (ht := ?_) | refine WC_cond_f (he := ?_) | refine WC_skip ?_ | refine WC_ret ?_ | refine WC_exit ?_ | refine WC_region (id := 26) ?_ | refine WC_region (id := 27) ?_ | refine WC_region (id := 28) ?_)
    exact ⟨_, rfl, ⟨(show some (Value.bool (what.tmod 7 == 3)) = some (Value.bool (decide (what.tmod 7 ≤ 3))) by rw [q]), rfl, rfl, rfl, rfl, rfl, rfl, rfl, rfl, trivial⟩, rfl, .refl _⟩
  rintro _ rfl
  by_cases c3 : what.tmod 7 ≤ 3
  · have d3 : decide (what.tmod 7 ≤ 3) = true := decide_eq_true c3
    obtain ⟨a1, a2⟩ := hI.app hbl h100
    repeat (first | ((first | refine WL_Q ?_); (first | refine QW_a ?_)) | ((first | refine WL_op rfl ?_); (first | refine OW_build1 rfl (hk := fun _ => ?_) | (refine OW_call rfl (hF := append_log hS (by omega) a1 (by have := hI.few; omega)) (hk := ?_); rintro _ _ ⟨rfl, S', hS', rfl⟩))) | refine WL_nil ?_ | refine WC_seq ?_ | refine WC_block ?_ | refine WC_cond_t (ht := ?_) | refine WC_cond_f (he := ?_) | refine WC_skip ?_ | refine WC_ret ?_ | refine WC_exit ?_ | refine WC_region (id := 29) ?_ | refine WC_region (id := 31) ?_)
    rename_i eb
    refine WL_op rfl (OW_append_bufM (A := (eb, .cells #[tV b] 9 (0, 0)) :: logO lb sb 0 (all.length + 1) d :: S') (T := T) (B := L) rfl rfl rfl rfl rfl hbf (src1 0 rfl) (by simp) (by have := hI.few; simp only [maxLen]; omega) (by have := hI.few; omega) ?_)
    intro v' T' hb'
    have hb' : BufT v' T' (all ++ [b]) := by
      have e1 : (all ++ [b]).map tV = all.map tV ++ [tV b] := by rw [List.map_append]; rfl
      have e2 : (all ++ [b]).length = all.length + 1 := by rw [List.length_append]; rfl
      unfold BufT
      rw [e1, e2]
      exact hb'
    obtain ⟨av', cv', rfl, _, _⟩ := id hb'.val
    have hlen : (all ++ [b]).length = all.length + 1 := by rw [List.length_append]; rfl
    rw [← hlen]
    have hle2 := a2.le
    have t1 : ((((all ++ [b]).length : Nat) : Int) != (((all ++ [b]).length : Nat) : Int)) = false := by simp
    have t2 : decide (((d : Nat) : Int) > (((all ++ [b]).length : Nat) : Int)) = false := decide_eq_false (by omega)
    have t3 : decide (((d : Nat) : Int) < ((d : Nat) : Int)) = false := decide_eq_false (by omega)
    repeat (first | ((first | refine WL_Q ?_ | refine WL_Y ?_); (first | refine QW_a ?_)) | ((first | refine WL_op rfl ?_ | refine WL_yes (h := ?_)); (first | refine OW_build1 rfl (hk := fun _ => ?_) | refine OW_callP rfl (hF := count_log (i := 1) rfl) (hk := ?_) | refine OW_callP rfl (hF := synced_log (i := 1) rfl) (hk := ?_))) | refine WL_nil ?_ | refine WL_un (h := ?_) | refine WL_N ?_ | refine WL_M ?_ | refine WC_seq ?_ | refine WC_block ?_ | refine WC_cond_t (ht := ?_) | refine WC_cond_f (he := ?_) | refine WC_skip ?_ | refine WC_ret ?_ | refine WC_exit ?_ | refine WC_region (id := 31) ?_ | refine WC_region (id := 36) ?_ | refine WC_region (id := 11) ?_)
    rw [w]
    exact ⟨_, _, by omega, ⟨i + 1, d, _, _, S', T', _, lb, rfl, by omega, by omega, a2, hS', hb', rfl⟩, ⟨rfl, rfl, rfl, rfl, rfl, rfl, trivial⟩, rfl, by simp only [List.cons_append]; exact .cons _ (.refl _)⟩
  have d3 : decide (what.tmod 7 ≤ 3) = false := decide_eq_false c3
  by_cases c4 : what.tmod 7 = 4
  · have d4 : (what.tmod 7 == 4) = true := by simpa using c4
    obtain ⟨a1, a2, a3⟩ := hI.sync
    obtain ⟨av, cv', rfl, _, _⟩ := id hbf.val
    repeat (first | ((first | refine WL_Q ?_); (first | refine QW_a ?_)) | ((first | refine WL_op rfl ?_); (first | (refine OW_call rfl (hF := sync_log hS a1) (hk := ?_); rintro _ _ ⟨rfl, S', hS', rfl⟩))) | refine WL_nil ?_ | refine WC_seq ?_ | refine WC_block ?_ | refine WC_cond_t (ht := ?_) | refine WC_cond_f (he := ?_) | refine WC_skip ?_ | refine WC_ret ?_ | refine WC_exit ?_ | refine WC_region (id := 32) ?_ | refine WC_region (id := 33) ?_ | refine WC_region (id := 35) ?_)
    rw [a3]
    have t1 : ((((all).length : Nat) : Int) != (((all).length : Nat) : Int)) = false := by simp
    have t2 : decide (((all.length : Nat) : Int) > ((all.length : Nat) : Int)) = false := decide_eq_false (by omega)
    have t3 : decide (((all.length : Nat) : Int) < ((all.length : Nat) : Int)) = false := decide_eq_false (by omega)
    repeat (first | ((first | refine WL_Q ?_ | refine WL_Y ?_); (first | refine QW_a ?_)) | ((first | refine WL_op rfl ?_ | refine WL_yes (h := ?_)); (first | refine OW_callP rfl (hF := count_log (i := 0) rfl) (hk := ?_) | refine OW_callP rfl (hF := synced_log (i := 0) rfl) (hk := ?_))) | refine WL_nil ?_ | refine WL_un (h := ?_) | refine WL_N ?_ | refine WL_M ?_ | refine WC_seq ?_ | refine WC_block ?_ | refine WC_cond_t (ht := ?_) | refine WC_cond_f (he := ?_) | refine WC_skip ?_ | refine WC_ret ?_ | refine WC_exit ?_ | refine WC_region (id := 36) ?_ | refine WC_region (id := 11) ?_)
    rw [w]
    exact ⟨_, _, by omega, ⟨i + 1, all.length, all, _, S', T, _, lb, rfl, by omega, by omega, a2, hS', hbf, rfl⟩, ⟨rfl, rfl, rfl, rfl, rfl, rfl, trivial⟩, rfl, .refl _⟩
  have d4 : (what.tmod 7 == 4) = false := by simpa using c4
  repeat (first | ((first | refine WL_Q ?_); (first | refine QW_a ?_)) | refine WL_nil ?_ | refine WC_seq ?_ | refine WC_block ?_ | refine WC_cond_t (ht := ?_) | refine WC_cond_f (he := ?_) | refine WC_skip ?_ | refine WC_ret ?_ | refine WC_exit ?_ | refine WC_region (id := 32) ?_ | refine WC_region (id := 14) ?_)
  refine WC_dropL (S ++ (T ++ L)) (.cons _ (.refl _)) ?_
  clear hm1
  have hm2 : ∀ S' : List (Nat × Obj), (S' ++ (T ++ L))[S'.length + (T.length + i1)]? = some (g1, .cells cu1 E1 fr1) := fun S' => by
    rw [List.getElem?_append_right (by omega), Nat.add_sub_cancel_left, List.getElem?_append_right (by omega), Nat.add_sub_cancel_left]; exact hi1
  refine WC_meet (fun σ => ∃ (S' : List (Nat × Obj)) (g' : FG) (m : Nat), StAt sb S' g' ∧ Mid i all d m g' ∧ (what.tmod 7 = 6 → m = (frms all).length) ∧ σ = ⟨[(9, .int .i64 i), (8, .int .i64 d), (7, v), (4, fP lb), (3, fP sb), (0, .slice (some ⟨g1, o1, none⟩) n vc)], [], S' ++ (T ++ L)⟩) ?_ ?_
  · by_cases c5 : what.tmod 7 = 5
    · have d5 : (what.tmod 7 == 5) = true := by simpa using c5
      have hmm : (T ++ L)[T.length + i1]? = some (g1, .cells cu1 E1 fr1) := by rw [List.getElem?_append_right (by omega), Nat.add_sub_cancel_left]; exact hi1
      have m0 : (0 : Int) ≤ (if (10 : Int) < ((ch.length : Nat) : Int) then (10 : Int) else ((ch.length : Nat) : Int)) := by split <;> omega
      obtain ⟨_, ac, cc, rfl, hcl, _, _⟩ := id hcv
      have m1 : (if (10 : Int) < ((ch.length : Nat) : Int) then (10 : Int) else ((ch.length : Nat) : Int)) ≤ ((cc : Nat) : Int) := by split <;> omega
      have em : (if (10 : Int) < ((ch.length : Nat) : Int) then (10 : Int) else ((ch.length : Nat) : Int)).toNat = (ch.take 10).length := by
        rw [List.length_take]; split <;> omega
      have hsub : (T ++ L).Sublist (S ++ (T ++ L)) := List.sublist_append_right _ _
      repeat (first | ((first | refine WL_Q ?_); (first | refine QW_a ?_)) | refine WL_nil ?_ | refine WC_seq ?_ | refine WC_block ?_ | refine WC_cond_t (ht := ?_) | refine WC_cond_f (he := ?_) | refine WC_skip ?_ | refine WC_ret ?_ | refine WC_exit ?_ | refine WC_region (id := 16) ?_)
      refine WC_draw_sub (id := 15) 15 (.calm 0 <| .calm 1 <| .calm 2 <| .calm 3 <| .calm 4 <| .calm 5 <| .calm 6 <| .calm 7 <| .calm 8 <| .calm 9 <| .calm 10 <| .calm 11 <| .calm 12 <| .calm 13 <| .must 14 <| .done) mixed (by kernel_rfl) (hsub) ?_
      repeat (first | ((first | refine WL_Q ?_ | refine WR_Q rfl ?_ | refine WR_late rfl rfl rfl (OW_Q ?_)); (first | refine QW_a ?_)) | refine WL_nil ?_ | refine WR_nil ?_ | refine WC_seq ?_ | refine WC_block ?_ | refine WC_cond_t (ht := ?_) | refine WC_cond_f (he := ?_) | refine WC_skip ?_ | refine WC_ret ?_ | refine WC_exit ?_ | refine WC_draw_all (id := 15) 15 (.calm 0 <| .calm 1 <| .calm 2 <| .calm 3 <| .calm 4 <| .calm 5 <| .calm 6 <| .calm 7 <| .calm 8 <| .calm 9 <| .calm 10 <| .calm 11 <| .calm 12 <| .calm 13 <| .must 14 <| .done) mixed (by kernel_rfl) ?_)
      rw [em]
      refine WR_op rfl rfl (OW_call rfl (hF := crash7_st hS hI.few7 ((hcv.take 10).app T)) (hk := ?_))
      rintro _ _ ⟨rfl, S', rfl, hS'⟩
      refine ⟨sub_mem (List.sublist_append_right _ _), ?_⟩
      obtain ⟨m, hM⟩ := hI.crash (ch.take 10)
      repeat (first | ((first | refine WL_Q ?_ | refine WR_Q rfl ?_ | refine WR_late rfl rfl rfl (OW_Q ?_)); (first | refine QW_a ?_)) | refine WL_nil ?_ | refine WR_nil ?_ | refine WC_seq ?_ | refine WC_block ?_ | refine WC_cond_t (ht := ?_) | refine WC_cond_f (he := ?_) | refine WC_skip ?_ | refine WC_ret ?_ | refine WC_exit ?_ | refine WC_draw_all (id := 15) 15 (.calm 0 <| .calm 1 <| .calm 2 <| .calm 3 <| .calm 4 <| .calm 5 <| .calm 6 <| .calm 7 <| .calm 8 <| .calm 9 <| .calm 10 <| .calm 11 <| .calm 12 <| .calm 13 <| .must 14 <| .done) mixed (by kernel_rfl) ?_)
      exact ⟨_, ⟨S', _, m, hS', hM, fun h => by omega, rfl⟩, ⟨rfl, rfl, rfl, rfl, rfl, rfl, trivial⟩, rfl, .refl _⟩
    · have d5 : (what.tmod 7 == 5) = false := by simpa using c5
      repeat (first | ((first | refine WL_Q ?_ | refine WR_Q rfl ?_ | refine WR_late rfl rfl rfl (OW_Q ?_)); (first | refine QW_a ?_)) | refine WL_nil ?_ | refine WR_nil ?_ | refine WC_seq ?_ | refine WC_block ?_ | refine WC_cond_t (ht := ?_) | refine WC_cond_f (he := ?_) | refine WC_skip ?_ | refine WC_ret ?_ | refine WC_exit ?_ | refine WC_draw_all (id := 15) 15 (.calm 0 <| .calm 1 <| .calm 2 <| .calm 3 <| .calm 4 <| .calm 5 <| .calm 6 <| .calm 7 <| .calm 8 <| .calm 9 <| .calm 10 <| .calm 11 <| .calm 12 <| .calm 13 <| .must 14 <| .done) mixed (by kernel_rfl) ?_)
      exact ⟨_, ⟨S, g, _, hS, hI.mid, fun _ => rfl, rfl⟩, ⟨rfl, rfl, rfl, rfl, rfl, rfl, trivial⟩, rfl, .refl _⟩
  rintro _ ⟨S1, g', m, hS1, hM, h6, rfl⟩
  repeat (first | ((first | refine WL_Q ?_); (first | refine QW_a ?_)) | refine WL_nil ?_ | refine WC_seq ?_ | refine WC_block ?_ | refine WC_cond_t (ht := ?_) | refine WC_cond_f (he := ?_) | refine WC_skip ?_ | refine WC_ret ?_ | refine WC_exit ?_ | refine WC_region (id := 16) ?_)
  obtain ⟨k, rest, e, hdk, hka, hfl, hne, hr, hfull⟩ := hM.cut hI.short hI.le
  have hI2 := hM.inv hI.short hka hI.few hI.size
  have hkl : (all.take k).length = k := by rw [List.length_take]; omega
  have hbs : ∀ b ∈ all.take k, b.length ≤ 1048576 := fun b hb => by have := hI.short b (List.mem_of_mem_take hb); omega
  obtain ⟨a7, cap7, rfl, hc7, _⟩ := id hbf.val
  have hcut := hbf.cut hka
  have hfew := hI.few
  have hIle := hI.le
  have hv7 : ∀ A : List (Nat × Obj), VecT (A ++ (T ++ L)) (.slice a7 k cap7) (all.take k) := fun A => VecT.take (Vec.app A (hbf.vec0 L)) hka
  generalize all.take k = bs at hfl hne hI2 hkl hcut hv7 hbs
  subst hkl
  refine WL_op rfl (OW_call rfl (hF := open_fn (n := 0) hS1 (by decide) hfl hbs hne hr) (hk := ?_))
  rintro _ _ ⟨lb1, v1, T1, S2, hb1, hS2, rfl, rfl⟩
  obtain ⟨a1, cap1, rfl, _, _⟩ := id hb1.val
  have hvx : VecT (logO lb1 sb 0 bs.length bs.length :: (T1 ++ (S2 ++ (T ++ L)))) (.slice a7 ((bs.length : Nat) : Int).toNat cap7) bs := by
    rw [Int.toNat_natCast]
    have := hv7 (logO lb1 sb 0 bs.length bs.length :: (T1 ++ S2))
    simpa only [List.cons_append, List.append_assoc] using this
  have hv1 : VecT (logO lb1 sb 0 bs.length bs.length :: (T1 ++ (S2 ++ (T ++ L)))) (.slice a1 bs.length cap1) bs := hb1.vec [_] (S2 ++ (T ++ L))
  have hm3 : (logO lb1 sb 0 bs.length bs.length :: (T1 ++ (S2 ++ (T ++ L))))[T1.length + (S2.length + (T.length + i1)) + 1]? = some (g1, .cells cu1 E1 fr1) := by
    show (T1 ++ (S2 ++ (T ++ L)))[T1.length + (S2.length + (T.length + i1))]? = _
    rw [List.getElem?_append_right (by omega), Nat.add_sub_cancel_left]; exact hm2 S2
  have t1 : decide (((bs.length : Nat) : Int) < ((d : Nat) : Int)) = false := decide_eq_false (by omega)
  have t2 : decide (((bs.length : Nat) : Int) > ((all.length : Nat) : Int)) = false := decide_eq_false (by omega)
  have t3 : ((bs.length : Nat) : Int) ≤ ((cap7 : Nat) : Int) := by omega
  have t4 : ((0 : Int) != 0) = false := rfl
  have t5 : (what.tmod 7 == 6) = true → (((bs.length : Nat) : Int) != ((all.length : Nat) : Int)) = false := fun h => by
    have := hfull (h6 (by simpa using h))
    rw [this]; simp
  repeat (first | ((first | refine WL_Q ?_); (first | refine QW_a ?_)) | refine WL_nil ?_ | refine WC_seq ?_ | refine WC_block ?_ | refine WC_cond_t (ht := ?_) | refine WC_cond_f (he := ?_) | refine WC_skip ?_ | refine WC_ret ?_ | refine WC_exit ?_ | refine WC_region (id := 16) ?_)
  refine WC_meet (fun σ => σ = ⟨[(136, .bool false), (12, .slice a1 bs.length cap1), (11, fP lb1), (9, .int .i64 i), (7, .slice a7 all.length cap7), (3, fP sb), (0, .slice (some ⟨g1, o1, none⟩) n vc)], [], logO lb1 sb 0 bs.length bs.length :: (T1 ++ (S2 ++ (T ++ L)))⟩) ?_ ?_
  · repeat (first | ((first | refine WL_Q ?_ | refine WL_Y ?_); (first | refine QW_a ?_)) | ((first | refine WL_op rfl ?_ | refine WL_yes (h := ?_)); (first | refine OW_callP rfl (hF := texts_fn hv1 hvx (by omega)) (hk := ?_))) | refine WL_nil ?_ | refine WL_un (h := ?_) | refine WL_N ?_ | refine WL_M ?_ | refine WC_seq ?_ | refine WC_block ?_ | refine WC_cond_t (ht := ?_) | refine WC_cond_f (he := ?_) | refine WC_skip ?_ | refine WC_ret ?_ | refine WC_exit ?_ | refine WC_region (id := 17) ?_)
    cases c6 : (what.tmod 7 == 6)
    · repeat (first | ((first | refine WL_Q ?_ | refine WL_Y ?_); (first | refine QW_a ?_)) | ((first | refine WL_op rfl ?_ | refine WL_yes (h := ?_)); (first | refine OW_callP rfl (hF := texts_fn hv1 hvx (by omega)) (hk := ?_))) | refine WL_nil ?_ | refine WL_un (h := ?_) | refine WL_N ?_ | refine WL_M ?_ | refine WC_seq ?_ | refine WC_block ?_ | refine WC_cond_t (ht := ?_) | refine WC_cond_f (he := ?_) | refine WC_skip ?_ | refine WC_ret ?_ | refine WC_exit ?_ | refine WC_region (id := 17) ?_)
      exact ⟨_, rfl, ⟨rfl, rfl, rfl, rfl, rfl, rfl, rfl, trivial⟩, rfl, .refl _⟩
    · have t6 := t5 c6
      repeat (first | ((first | refine WL_Q ?_ | refine WL_Y ?_); (first | refine QW_a ?_)) | ((first | refine WL_op rfl ?_ | refine WL_yes (h := ?_)); (first | refine OW_callP rfl (hF := texts_fn hv1 hvx (by omega)) (hk := ?_))) | refine WL_nil ?_ | refine WL_un (h := ?_) | refine WL_N ?_ | refine WL_M ?_ | refine WC_seq ?_ | refine WC_block ?_ | refine WC_cond_t (ht := ?_) | refine WC_cond_f (he := ?_) | refine WC_skip ?_ | refine WC_ret ?_ | refine WC_exit ?_ | refine WC_region (id := 17) ?_)
      exact ⟨_, rfl, ⟨(show some (Value.bool (((bs.length : Nat) : Int) != ((all.length : Nat) : Int))) = some (Value.bool false) by rw [t6]), rfl, rfl, rfl, rfl, rfl, rfl, trivial⟩, rfl, .refl _⟩
  rintro _ rfl
  clear t1 t2 t4 t5 hvx hv1 hm3 hm2
  repeat (first | ((first | refine WL_Q ?_); (first | refine QW_a ?_)) | refine WL_nil ?_ | refine WC_seq ?_ | refine WC_block ?_ | refine WC_cond_t (ht := ?_) | refine WC_cond_f (he := ?_) | refine WC_skip ?_ | refine WC_ret ?_ | refine WC_exit ?_ | refine WC_region (id := 19) ?_)
  refine WL_permA (L' := S2 ++ (logO lb1 sb 0 bs.length bs.length :: (T1 ++ (T ++ L)))) (List.perm_append_comm_assoc (logO lb1 sb 0 bs.length bs.length :: T1) S2 (T ++ L)).symm ?_
  refine WL_op rfl (OW_call rfl (hF := open_fn (n := 0) (bs := bs) (rest := []) hS2 (by decide) (by unfold opG; rw [upG_at, List.append_nil]) hbs rfl (.inl ⟨rfl, rfl⟩)) (hk := ?_))
  rintro _ _ ⟨lb2, v2, T2, S3, hb2, hS3, rfl, rfl⟩
  rw [show opG (opG g' 0 bs) 0 bs = opG g' 0 bs from upG_upG _ _ _ _] at hS3
  obtain ⟨a2, cap2, rfl, _, _⟩ := id hb2.val
  have hv1 : VecT (logO lb2 sb 0 bs.length bs.length :: (T2 ++ (S3 ++ (logO lb1 sb 0 bs.length bs.length :: (T1 ++ (T ++ L)))))) (.slice a1 bs.length cap1) bs := Vec.cons _ (Vec.app T2 (Vec.app S3 (hb1.vec [_] (T ++ L))))
  have hv2 : VecT (logO lb2 sb 0 bs.length bs.length :: (T2 ++ (S3 ++ (logO lb1 sb 0 bs.length bs.length :: (T1 ++ (T ++ L)))))) (.slice a2 bs.length cap2) bs := hb2.vec [_] _
  repeat (first | ((first | refine WL_Q ?_ | refine WL_Y ?_); (first | refine QW_a ?_)) | ((first | refine WL_op rfl ?_ | refine WL_yes (h := ?_)); (first | refine OW_callP rfl (hF := texts_fn hv1 hv2 (by omega)) (hk := ?_))) | refine WL_nil ?_ | refine WL_un (h := ?_) | refine WL_N ?_ | refine WL_M ?_ | refine WC_seq ?_ | refine WC_block ?_ | refine WC_cond_t (ht := ?_) | refine WC_cond_f (he := ?_) | refine WC_skip ?_ | refine WC_ret ?_ | refine WC_exit ?_ | refine WC_region (id := 19) ?_ | refine WC_region (id := 20) ?_ | refine WC_region (id := 22) ?_)
  refine WC_dropL (S3 ++ (logO lb1 sb 0 bs.length bs.length :: (T ++ L))) (.cons _ (List.Sublist.trans (l₂ := S3 ++ (logO lb1 sb 0 bs.length bs.length :: (T1 ++ (T ++ L)))) (.append (.refl _) (.cons_cons _ (List.sublist_append_right _ _))) (List.sublist_append_right _ _))) ?_
  refine WC_permA (L' := logO lb1 sb 0 bs.length bs.length :: (S3 ++ (T ++ L))) List.perm_middle.symm ?_
  have u1 : (((bs.length : Nat) : Int) != (((((bs.length : Nat) : Int).toNat : Nat)) : Int)) = false := by simp
  have u2 : decide (((bs.length : Nat) : Int) > (((((bs.length : Nat) : Int).toNat : Nat)) : Int)) = false := by simp
  have u3 : decide (((bs.length : Nat) : Int) < (((((bs.length : Nat) : Int).toNat : Nat)) : Int)) = false := by simp
  repeat (first | ((first | refine WL_Q ?_ | refine WL_Y ?_); (first | refine QW_a ?_)) | ((first | refine WL_op rfl ?_ | refine WL_yes (h := ?_)); (first | refine OW_callP rfl (hF := count_log (i := 0) rfl) (hk := ?_) | refine OW_callP rfl (hF := synced_log (i := 0) rfl) (hk := ?_))) | refine WL_nil ?_ | refine WL_un (h := ?_) | refine WL_N ?_ | refine WL_M ?_ | refine WC_seq ?_ | refine WC_block ?_ | refine WC_cond_t (ht := ?_) | refine WC_cond_f (he := ?_) | refine WC_skip ?_ | refine WC_ret ?_ | refine WC_exit ?_ | refine WC_region (id := 23) ?_ | refine WC_region (id := 24) ?_ | refine WC_region (id := 36) ?_ | refine WC_region (id := 11) ?_)
  rw [w, Int.toNat_natCast]
  exact ⟨_, _, by omega, ⟨i + 1, bs.length, bs, _, S3, T, _, lb1, rfl, by omega, by omega, hI2, hS3, hcut, rfl⟩, ⟨rfl, rfl, rfl, rfl, rfl, rfl, trivial⟩, rfl, .refl _⟩
end Go.Proofs.Ytmdiabglbmgkkaa
