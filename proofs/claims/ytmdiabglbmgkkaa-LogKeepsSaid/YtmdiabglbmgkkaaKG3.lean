/-
  A part of what the last of these texts needs; by itself it proves no statement.
-/
import Derived.Test.YtmdiabglbmgkkaaRows
import Derived.ProofKit
import Derived.Deep.Slices
import Derived.OpenShut
import Derived.Test.YtmdiabglbmgkkaaKG2
namespace Go.Proofs.Ytmdiabglbmgkkaa
instance : TSize Try.prog 3 1 := ⟨Try.sizeOf3⟩
instance : TAgg Try.prog 3 false := ⟨Try.isAgg3⟩
instance : TZero Try.prog 3 (Go.Value.int Go.IntKind.i64 0) := ⟨Try.zeroValue3⟩
theorem row3 : (Try.prog.info? 3).map (fun i => (i.size, i.bytes)) = some (1, 8) := by kernel_rfl
instance : TUnd Try.prog 3 (.int Go.IntKind.i64) := ⟨Try.underlying3⟩
instance : TSize Try.prog 5 1 := ⟨Try.sizeOf5⟩
instance : TAgg Try.prog 5 false := ⟨Try.isAgg5⟩
theorem row5 : (Try.prog.info? 5).map (fun i => (i.size, i.bytes)) = some (1, 1) := by kernel_rfl
instance : TUnd Try.prog 5 (.int Go.IntKind.u8) := ⟨Try.underlying5⟩
instance : TSize Try.prog 9 1 := ⟨Try.sizeOf9⟩
instance : TAgg Try.prog 9 false := ⟨Try.isAgg9⟩
theorem row9 : (Try.prog.info? 9).map (fun i => (i.size, i.bytes)) = some (1, 16) := by kernel_rfl
instance : TUnd Try.prog 9 .string := ⟨Try.underlying9⟩
instance : TAgg Try.prog 23 false := ⟨Try.isAgg23⟩
instance : TAgg Try.prog 24 false := ⟨Try.isAgg24⟩
instance : TUnd Try.prog 24 (.pointer 68) := ⟨Try.underlying24⟩
instance : TAgg Try.prog 30 false := ⟨Try.isAgg30⟩
instance : TSize Try.prog 34 1 := ⟨Try.sizeOf34⟩
instance : TAgg Try.prog 34 false := ⟨Try.isAgg34⟩
instance : TUnd Try.prog 34 (.slice 3) := ⟨Try.underlying34⟩
instance : TSize Try.prog 44 1 := ⟨Try.sizeOf44⟩
instance : TAgg Try.prog 44 false := ⟨Try.isAgg44⟩
instance : TUnd Try.prog 44 (.slice 5) := ⟨Try.underlying44⟩
instance : TUnd Try.prog 55 (.slice 61) := ⟨Try.underlying55⟩
instance : TAgg Try.prog 56 false := ⟨Try.isAgg56⟩
instance : TUnd Try.prog 56 (.pointer 100) := ⟨Try.underlying56⟩
instance : TUnd Try.prog 57 (.slice 9) := ⟨Try.underlying57⟩
instance : TSize Try.prog 61 3 := ⟨Try.sizeOf61⟩
instance : TFld Try.prog 61 0 0 5 1 := ⟨⟨_, _, Try.underlying61, rfl, rfl, rfl, Try.sizeOf5, by decide⟩⟩
instance : TFld Try.prog 61 1 1 9 1 := ⟨⟨_, _, Try.underlying61, rfl, rfl, rfl, Try.sizeOf9, by decide⟩⟩
instance : TFld Try.prog 61 2 2 44 1 := ⟨⟨_, _, Try.underlying61, rfl, rfl, rfl, Try.sizeOf44, by decide⟩⟩
instance : TAgg Try.prog 66 false := ⟨Try.isAgg66⟩
instance : TUnd Try.prog 66 (.map 3 69) := ⟨Try.underlying66⟩
def zc68 : Array Value :=  #[Go.Value.map Option.none]
instance : TFld Try.prog 68 0 0 66 1 := ⟨⟨_, _, Try.underlying68, rfl, rfl, rfl, Try.sizeOf66, by decide⟩⟩
instance : TBuild Try.prog 68 zc68 [(0, 1)] := ⟨fun _ => by kernel_rfl⟩
instance : TZero Try.prog 69 (Go.Value.pointer Option.none) := ⟨Try.zeroValue69⟩
def zc73 : Array Value :=  #[Go.Value.slice Option.none 0 0, Go.Value.int Go.IntKind.i64 0]
instance : TFld Try.prog 73 0 0 44 1 := ⟨⟨_, _, Try.underlying73, rfl, rfl, rfl, Try.sizeOf44, by decide⟩⟩
instance : TFld Try.prog 73 1 1 3 1 := ⟨⟨_, _, Try.underlying73, rfl, rfl, rfl, Try.sizeOf3, by decide⟩⟩
instance : TBuild Try.prog 73 zc73 [(0, 1), (1, 1)] := ⟨fun _ => by kernel_rfl⟩
instance : TUnd Try.prog 83 (.int Go.IntKind.u64) := ⟨Try.underlying83⟩
instance : TAgg Try.prog 91 false := ⟨Try.isAgg91⟩
instance : TUnd Try.prog 91 (Go.TypeDesc.interface #[("Error", 94)]) := ⟨Try.underlying91⟩
def zc100 : Array Value :=  #[Go.Value.pointer Option.none, Go.Value.int Go.IntKind.i64 0, Go.Value.int Go.IntKind.i64 0, Go.Value.int Go.IntKind.i64 0, Go.Value.nilIface]
instance : TFld Try.prog 100 0 0 24 1 := ⟨⟨_, _, Try.underlying100, rfl, rfl, rfl, Try.sizeOf24, by decide⟩⟩
instance : TFld Try.prog 100 1 1 3 1 := ⟨⟨_, _, Try.underlying100, rfl, rfl, rfl, Try.sizeOf3, by decide⟩⟩
instance : TFld Try.prog 100 2 2 3 1 := ⟨⟨_, _, Try.underlying100, rfl, rfl, rfl, Try.sizeOf3, by decide⟩⟩
instance : TFld Try.prog 100 3 3 3 1 := ⟨⟨_, _, Try.underlying100, rfl, rfl, rfl, Try.sizeOf3, by decide⟩⟩
instance : TFld Try.prog 100 4 4 91 1 := ⟨⟨_, _, Try.underlying100, rfl, rfl, rfl, Try.sizeOf91, by decide⟩⟩
instance : TBuild Try.prog 100 zc100 [(0, 1), (1, 1), (2, 1), (3, 1), (4, 1)] := ⟨fun _ => by kernel_rfl⟩
instance : TUnd Try.prog 112 (.int Go.IntKind.u64) := ⟨Try.underlying112⟩
def zc120 : Array Value :=  #[Go.Value.int Go.IntKind.i64 0]
instance : TBuild Try.prog 120 zc120 [(0, 1)] := ⟨fun _ => by kernel_rfl⟩
instance : TSize Try.prog 128 2 := ⟨Try.sizeOf128⟩
instance : TAgg Try.prog 128 true := ⟨Try.isAgg128⟩
def zc128 : Array Value :=  #[Go.Value.nilFunc, Go.Value.int Go.IntKind.i64 0]
instance : TZero Try.prog 128 (.agg zc128) := ⟨Try.zeroValue128⟩
theorem row128 : (Try.prog.info? 128).map (fun i => (i.size, i.bytes)) = some (2, 16) := by kernel_rfl
instance : TFld Try.prog 128 0 0 23 1 := ⟨⟨_, _, Try.underlying128, rfl, rfl, rfl, Try.sizeOf23, by decide⟩⟩
instance : TFld Try.prog 128 1 1 30 1 := ⟨⟨_, _, Try.underlying128, rfl, rfl, rfl, Try.sizeOf30, by decide⟩⟩
instance : TBuild Try.prog 128 zc128 [(0, 1), (1, 1)] := ⟨fun _ => by kernel_rfl⟩
instance : TUnd Try.prog 129 (.slice 128) := ⟨Try.underlying129⟩
instance : TRow Try.prog 3 #[Go.Value.int Go.IntKind.i64 0] 1 8 := TRow.of Try.zeroValue3 rfl row3 rfl
instance : TRow Try.prog 5 #[Go.Value.int Go.IntKind.u8 0] 1 1 := TRow.of Try.zeroValue5 rfl row5 rfl
instance : TRow Try.prog 9 #[Go.Value.string { data := #[] }] 1 16 := TRow.of Try.zeroValue9 rfl row9 rfl
instance : TRow Try.prog 128 zc128 2 16 := TRow.of Try.zeroValue128 rfl row128 rfl
instance : FCall Try.prog 75 := ⟨Try.call75⟩
instance : FCall Try.prog 76 := ⟨Try.call76⟩
instance : FCall Try.prog 71 := ⟨Try.call71⟩
instance : FCall Try.prog 57 := ⟨Try.call57⟩
instance : FCall Try.prog 42 := ⟨Try.call42⟩
instance : FCall Try.prog 27 := ⟨Try.call27⟩
instance : FCall Try.prog 77 := ⟨Try.call77⟩
instance : FCall Try.prog 52 := ⟨Try.call52⟩
instance : FCall Try.prog 33 := ⟨Try.call33⟩
instance : FCall Try.prog 81 := ⟨Try.call81⟩
instance : FCall Try.prog 17 := ⟨Try.call17⟩
instance : FCall Try.prog 20 := ⟨Try.call20⟩
instance : FCall Try.prog 35 := ⟨Try.call35⟩
instance : FCall Try.prog 86 := ⟨Try.call86⟩
instance : FCall Try.prog 18 := ⟨Try.call18⟩
instance : FCall Try.prog 55 := ⟨Try.call55⟩
instance : FCall Try.prog 60 := ⟨Try.call60⟩
instance : FCall Try.prog 30 := ⟨Try.call30⟩
instance : FCall Try.prog 9 := ⟨Try.call9⟩
instance : FCall Try.prog 28 := ⟨Try.call28⟩
instance : FCall Try.prog 68 := ⟨Try.call68⟩
instance : FCall Try.prog 59 := ⟨Try.call59⟩
instance : FCall Try.prog 84 := ⟨Try.call84⟩
instance : FCall Try.prog 72 := ⟨Try.call72⟩
instance : FCall Try.prog 70 := ⟨Try.call70⟩
instance : FCall Try.prog 11 := ⟨Try.call11⟩
instance : FCall Try.prog 92 := ⟨Try.call92⟩
instance : FCall Try.prog 56 := ⟨Try.call56⟩
instance : FCall Try.prog 79 := ⟨Try.call79⟩
instance : FCall Try.prog 51 := ⟨Try.call51⟩
instance : FCall Try.prog 32 := ⟨Try.call32⟩
instance : FCall Try.prog 31 := ⟨Try.call31⟩
instance : FCall Try.prog 80 := ⟨Try.call80⟩
instance : FCall Try.prog 58 := ⟨Try.call58⟩
instance : FCall Try.prog 23 := ⟨Try.call23⟩
instance : FCall Try.prog 29 := ⟨Try.call29⟩
instance : FCall Try.prog 102 := ⟨Try.call102⟩
instance : FCall Try.prog 85 := ⟨Try.call85⟩
instance : FCall Try.prog 44 := ⟨Try.call44⟩
instance : FCall Try.prog 53 := ⟨Try.call53⟩
instance : FCall Try.prog 34 := ⟨Try.call34⟩
instance : FCall Try.prog 96 := ⟨Try.call96⟩
instance : FCall Try.prog 78 := ⟨Try.call78⟩
instance : FCall Try.prog 26 := ⟨Try.call26⟩
instance : FCall Try.prog 54 := ⟨Try.call54⟩
theorem mixed : Try.prog.follows .mixedOrders = true := by kernel_rfl
end Go.Proofs.Ytmdiabglbmgkkaa
namespace Go.Proofs.Ytmdiabglbmgkkaa
open Go.RowKit
structure FiR where
  n : Int
  fb : Nat
  v : Value
  T : List (Nat × Obj)
  l : List UInt8
  mark : Nat
structure FiR.Ok (r : FiR) : Prop where
  buf : Buf 5 1 r.v r.T r.l.length (r.l.map bV)
  mark : r.mark ≤ r.l.length
  size : r.l.length ≤ 1048576
  ne : r.l ≠ []
abbrev fC (v : Value) (mark : Nat) : Array Value := #[v, .int .i64 (mark : Nat)]
def FiR.own (r : FiR) : List (Nat × Obj) := (r.fb, .cells (fC r.v r.mark) 73 (0, 0)) :: r.T
abbrev fP (b : Nat) : Value := .pointer (some ⟨b, 0, none⟩)
def fps (rs : List FiR) : List (Int × Value) := rs.map fun r => (r.n, fP r.fb)
def ownL (rs : List FiR) : List (Nat × Obj) := rs.flatMap FiR.own
theorem ownL_app (a b : List FiR) : ownL (a ++ b) = ownL a ++ ownL b := by simp [ownL]
theorem ownL_cons (r : FiR) (b : List FiR) : ownL (r :: b) = r.own ++ ownL b := by simp [ownL]
abbrev FG := Int → List UInt8 × Nat
def gOf : List FiR → FG
  | [], _ => ([], 0)
  | r :: rs, n => if n = r.n then (r.l, r.mark) else gOf rs n
abbrev sO (sb mb : Nat) : Nat × Obj := (sb, .cells #[.map (some mb)] 68 (0, 0))
structure StOk (es : Array MapEntry) (cl : Nat) (rs : List FiR) : Prop where
  map : MapI .i64 es cl (fps rs)
  ok : ∀ r ∈ rs, r.Ok
def StAt (sb : Nat) (S : List (Nat × Obj)) (g : FG) : Prop := ∃ mb es cl rs, S = sO sb mb :: (mb, .map es cl) :: ownL rs ∧ StOk es cl rs ∧ gOf rs = g
theorem fps_keys (rs : List FiR) : (fps rs).map Prod.fst = rs.map FiR.n := by simp [fps]
theorem aGet_fps : ∀ (rs : List FiR) (n : Int), (aGet (fps rs) n = none ∧ gOf rs n = ([], 0) ∧ n ∉ rs.map FiR.n) ∨ ∃ A r B, rs = A ++ r :: B ∧ r.n = n ∧ aGet (fps rs) n = some (fP r.fb) ∧ gOf rs n = (r.l, r.mark) ∧ n ∉ A.map FiR.n
  | [], n => .inl ⟨rfl, rfl, by simp⟩
  | r :: rs, n => by
    by_cases h : n = r.n
    · exact .inr ⟨[], r, rs, rfl, h.symm, by simp [fps, aGet, h], by simp [gOf, h], by simp⟩
    · rcases aGet_fps rs n with ⟨h1, h2, h3⟩ | ⟨A, r', B, rfl, h1, h2, h3, h4⟩
      · refine .inl ⟨?_, by simp [gOf, h, h2], by simp [h, h3]⟩
        unfold fps at h1 ⊢
        simp [aGet, h, h1]
      · refine .inr ⟨r :: A, r', B, rfl, h1, ?_, ?_, by simp [h, h4]⟩
        · unfold fps at h2 ⊢
          simp only [List.map_cons, aGet]
          rw [if_neg h]
          exact h2
        · simp only [gOf]
          rw [if_neg h]
          exact h3
theorem gOf_app : ∀ (A B : List FiR) (n : Int), n ∉ A.map FiR.n → gOf (A ++ B) n = gOf B n
  | [], _, _, _ => rfl
  | r :: A, B, n, h => by
    simp only [List.map_cons, List.mem_cons, not_or] at h
    simp only [List.cons_append, gOf]
    rw [if_neg h.1]
    exact gOf_app A B n h.2
theorem gOf_mem : ∀ {rs : List FiR} {n : Int}, n ∈ rs.map FiR.n → ∃ r ∈ rs, r.n = n ∧ gOf rs n = (r.l, r.mark)
  | [], _, h => by simp at h
  | r :: rs, n, h => by
    by_cases e : n = r.n
    · exact ⟨r, List.mem_cons_self .., e.symm, by simp [gOf, e]⟩
    · have hm : n ∈ rs.map FiR.n := by
        rcases List.mem_cons.1 h with h | h
        · exact absurd h e
        · exact h
      obtain ⟨r', h1, h2, h3⟩ := gOf_mem hm
      exact ⟨r', List.mem_cons_of_mem _ h1, h2, by simp [gOf, e, h3]⟩
theorem gOf_none : ∀ {rs : List FiR} {n : Int}, n ∉ rs.map FiR.n → gOf rs n = ([], 0)
  | [], _, _ => rfl
  | r :: rs, n, h => by
    simp only [List.map_cons, List.mem_cons, not_or] at h
    simp only [gOf]
    rw [if_neg h.1]
    exact gOf_none h.2
theorem gOf_set {A B : List FiR} {r r' : FiR} (hr : r'.n = r.n) (hA : r.n ∉ A.map FiR.n) : gOf (A ++ r' :: B) = fun n => if n = r.n then (r'.l, r'.mark) else gOf (A ++ r :: B) n := by
  funext n
  by_cases h : n = r.n
  · subst h
    rw [gOf_app _ _ _ hA, if_pos rfl]
    simp [gOf, hr]
  · rw [if_neg h]
    by_cases hm : n ∈ A.map FiR.n
    · have : ∀ X, gOf (A ++ X) n = gOf A n := fun X => by
        clear hA
        induction A with
        | nil => simp at hm
        | cons q A ih =>
          simp only [List.cons_append, gOf]
          by_cases hq : n = q.n
          · rw [if_pos hq, if_pos hq]
          · rw [if_neg hq, if_neg hq]
            exact ih (by rcases List.mem_cons.1 hm with h | h; exact absurd h hq; exact h)
      rw [this, this]
    · rw [gOf_app _ _ _ hm, gOf_app _ _ _ hm]
      simp only [gOf]
      rw [hr, if_neg h, if_neg h]
theorem gOf_del {A B : List FiR} {r : FiR} (hn : ((A ++ r :: B).map FiR.n).Nodup) : gOf (A ++ B) = fun n => if n = r.n then ([], 0) else gOf (A ++ r :: B) n := by
  have hn' := hn
  rw [List.map_append, List.map_cons] at hn'
  have h1 : r.n ∉ (A ++ B).map FiR.n := by
    rw [List.map_append]
    exact (List.nodup_cons.1 (List.perm_middle.nodup_iff.1 hn')).1
  have hA : r.n ∉ A.map FiR.n := fun h => h1 (by rw [List.map_append]; exact List.mem_append_left _ h)
  funext n
  by_cases h : n = r.n
  · subst h
    rw [if_pos rfl]
    exact gOf_none h1
  · rw [if_neg h]
    by_cases hm : n ∈ A.map FiR.n
    · have : ∀ X, gOf (A ++ X) n = gOf A n := fun X => by
        clear hA h1 hn hn'
        induction A with
        | nil => simp at hm
        | cons q A ih =>
          simp only [List.cons_append, gOf]
          by_cases hq : n = q.n
          · rw [if_pos hq, if_pos hq]
          · rw [if_neg hq, if_neg hq]
            exact ih (by rcases List.mem_cons.1 hm with h | h; exact absurd h hq; exact h)
      rw [this, this]
    · rw [gOf_app _ _ _ hm, gOf_app _ _ _ hm]
      simp only [gOf]
      rw [if_neg h]
theorem gOf_new {A : List FiR} {r : FiR} (hA : r.n ∉ A.map FiR.n) : gOf (A ++ [r]) = fun n => if n = r.n then (r.l, r.mark) else gOf A n := by
  funext n
  by_cases h : n = r.n
  · subst h
    rw [gOf_app _ _ _ hA, if_pos rfl]
    simp [gOf]
  · rw [if_neg h]
    by_cases hm : n ∈ A.map FiR.n
    · induction A with
      | nil => simp at hm
      | cons q A ih =>
        simp only [List.map_cons, List.mem_cons, not_or] at hA
        simp only [List.cons_append, gOf]
        by_cases hq : n = q.n
        · rw [if_pos hq, if_pos hq]
        · rw [if_neg hq, if_neg hq]
          exact ih hA.2 (by rcases List.mem_cons.1 hm with h | h; exact absurd h hq; exact h)
    · rw [gOf_app _ _ _ hm, gOf_none hm]
      simp [gOf, h]
theorem fps_app (A B : List FiR) : fps (A ++ B) = fps A ++ fps B := by simp [fps]
theorem aPut_fps {A B : List FiR} {r : FiR} {v : Value} (hA : r.n ∉ A.map FiR.n) : aPut (fps (A ++ r :: B)) r.n v = fps A ++ (r.n, v) :: fps B := by
  induction A with
  | nil => simp [fps, aPut]
  | cons q A ih =>
    simp only [List.map_cons, List.mem_cons, not_or] at hA
    have := ih hA.2
    unfold fps at this ⊢
    simp only [List.cons_append, List.map_cons, aPut]
    rw [if_neg hA.1, this]
theorem aDel_fps {A B : List FiR} {r : FiR} (hn : ((A ++ r :: B).map FiR.n).Nodup) : aDel (fps (A ++ r :: B)) r.n = fps (A ++ B) := by
  rw [List.map_append, List.map_cons] at hn
  have h := List.perm_middle.nodup_iff.1 hn
  obtain ⟨h1, _⟩ := List.nodup_cons.1 h
  have keep : ∀ X : List FiR, r.n ∉ X.map FiR.n → (fps X).filter (fun p => decide (p.1 ≠ r.n)) = fps X := fun X hX => List.filter_eq_self.2 fun q hq => by
    obtain ⟨x, hx, rfl⟩ := List.mem_map.1 hq
    have : x.n ≠ r.n := fun e => hX (List.mem_map.2 ⟨x, hx, e⟩)
    simpa using this
  unfold aDel
  rw [fps_app, List.filter_append, keep A (fun h => h1 (List.mem_append_left _ h))]
  have e : fps (r :: B) = (r.n, fP r.fb) :: fps B := rfl
  rw [e, List.filter_cons_of_neg (by simp), keep B (fun h => h1 (List.mem_append_right _ h)), fps_app]
section
variable {c : Cx} {s : List (Nat × Value)} {L : List (Nat × Obj)} {o : Oper}
theorem Qt_sl3 {t E n : Nat} [hu : TUnd c.P t (.slice E)] [hs : TSize c.P E n] {x lo hi mx : Operand} {a : Option Addr} {len cap : Nat} {k k' k'' : IntKind} {l h m : Int} (ho : o.op = .slice t x (some lo) (some hi) (some mx)) (hx : ev s x = some (.slice a len cap) := by exact rfl) (hl : ev s lo = some (.int k'' l) := by exact rfl) (hh : ev s hi = some (.int k h) := by exact rfl) (hm : ev s mx = some (.int k' m) := by exact rfl)
    (hl0 : 0 ≤ l := by first | with_reducible assumption | decide | omega) (hl1 : l ≤ h := by first | with_reducible assumption | exact Int.le_refl _ | omega) (h1 : h ≤ m := by first | with_reducible assumption | exact Int.le_refl _ | omega) (h2 : m ≤ cap := by first | with_reducible assumption | omega) : Qt c s L o (sliced a l.toNat h.toNat m.toNat n) :=
  Qt_of_run (by simp [ho]) (fun ρ hρ w _ => by
    have hut : c.P.underlying t = some (.slice (c.P.elem t)) := by rw [elem_of hu.h]; exact hu.h
    have h3 := run_slice_lhm (P := c.P) w t a len cap hut k'' k k' l h m hl0 hl1 h1 h2
    rw [elem_of hu.h, hs.h] at h3
    have h4 := run_sliceAt_slice (P := c.P) w t (.slice a len cap) (some (.int k'' l)) (some (.int k h)) (some (.int k' m)) hut
    simp only [Result.andThen] at h3
    simp [execOp, ho, hρ x _ hx, hρ lo _ hl, hρ hi _ hh, hρ mx _ hm, h4, h3])
end
attribute [local irreducible] Fn WC WL WR OW Qt YieldFn QW
theorem there_none {sb mb cl i j : Nat} {es : Array MapEntry} {ps : List (Int × Value)} {n : Int} {L : List (Nat × Obj)} (hsb : L[i]? = some (sO sb mb)) (hmb : L[j]? = some (mb, .map es cl)) (hmap : MapI .i64 es cl ps) (hg : aGet ps n = none) :
    Fn Try.prog 33 [fP sb, .int .i64 n] L (fun v L' => v = .tuple #[.pointer none, .int .i64 10] ∧ L' = L) := by
  refine Fn_enter Try.func33 rfl Try.ntmps33 rfl fun gw => ?_
  repeat (first | ((first | refine WL_Q ?_); (first | refine QW_a ?_ | refine QW_of (Qt_lookC rfl hmb hmap) ?_)) | refine WL_nil ?_ | refine WC_seq ?_ | refine WC_cond_t (ht := ?_) | refine WC_cond_f (he := ?_) | refine WC_skip ?_ | refine WC_ret ?_ | refine WC_region (id := 0) ?_ | refine WC_region (id := 1) ?_ | refine WC_region (id := 3) ?_)
  rw [hg]
  have d : (!(none : Option Value).isSome) = true := rfl
  repeat (first | ((first | refine WL_Q ?_); (first | refine QW_a ?_ | refine QW_of (Qt_lookC rfl hmb hmap) ?_)) | refine WL_nil ?_ | refine WC_seq ?_ | refine WC_cond_t (ht := ?_) | refine WC_cond_f (he := ?_) | refine WC_skip ?_ | refine WC_ret ?_ | refine WC_region (id := 3) ?_ | refine WC_region (id := 4) ?_ | refine WC_region (id := 5) ?_)
  exact ⟨rfl, _, _, Res2 rfl (resV_tmp rfl) (resV_tmp rfl), .refl _, rfl, rfl⟩
theorem there_some {sb mb cl i j fb : Nat} {es : Array MapEntry} {ps : List (Int × Value)} {n : Int} {L : List (Nat × Obj)} (hsb : L[i]? = some (sO sb mb)) (hmb : L[j]? = some (mb, .map es cl)) (hmap : MapI .i64 es cl ps) (hg : aGet ps n = some (fP fb)) :
    Fn Try.prog 33 [fP sb, .int .i64 n] L (fun v L' => v = .tuple #[fP fb, .int .i64 0] ∧ L' = L) := by
  refine Fn_enter Try.func33 rfl Try.ntmps33 rfl fun gw => ?_
  repeat (first | ((first | refine WL_Q ?_); (first | refine QW_a ?_ | refine QW_of (Qt_lookC rfl hmb hmap) ?_)) | refine WL_nil ?_ | refine WC_seq ?_ | refine WC_cond_t (ht := ?_) | refine WC_cond_f (he := ?_) | refine WC_skip ?_ | refine WC_ret ?_ | refine WC_region (id := 0) ?_ | refine WC_region (id := 1) ?_ | refine WC_region (id := 3) ?_)
  rw [hg]
  have d : (!(some (fP fb)).isSome) = false := rfl
  repeat (first | ((first | refine WL_Q ?_); (first | refine QW_a ?_ | refine QW_of (Qt_lookC rfl hmb hmap) ?_)) | refine WL_nil ?_ | refine WC_seq ?_ | refine WC_cond_t (ht := ?_) | refine WC_cond_f (he := ?_) | refine WC_skip ?_ | refine WC_ret ?_ | refine WC_region (id := 3) ?_ | refine WC_region (id := 4) ?_ | refine WC_region (id := 6) ?_)
  exact ⟨rfl, _, _, Res2 rfl (resV_tmp rfl) (resV_tmp rfl), .refl _, rfl, rfl⟩
theorem new_fn {L : List (Nat × Obj)} : Fn Try.prog 9 [] L (fun v L' => ∃ sb S, v = fP sb ∧ L' = S ++ L ∧ StAt sb S (fun _ => ([], 0))) := by
  refine Fn_enter Try.func9 rfl Try.ntmps9 rfl fun gw => ?_
  repeat (first | ((first | refine WL_Q ?_); (first | refine QW_a ?_ | refine QW_of (Qt_lookC rfl hmb hmap) ?_)) | ((first | refine WL_op rfl ?_); (first | refine OW_box rfl (hk := fun _ => ?_))) | refine WL_nil ?_ | refine WC_seq ?_ | refine WC_ret ?_ | refine WC_region ?_)
  refine WL_op rfl (OW_makeMap rfl ?_)
  intro mb
  repeat (first | ((first | refine WL_Q ?_); (first | refine QW_a ?_ | refine QW_of (Qt_lookC rfl hmb hmap) ?_)) | ((first | refine WL_op rfl ?_); (first | refine OW_box rfl (hk := fun _ => ?_))) | refine WL_nil ?_ | refine WC_seq ?_ | refine WC_ret ?_ | refine WC_region (id := 1) ?_)
  rename_i sb
  exact ⟨rfl, _, _, Res1 rfl (resV_tmp rfl), .refl _, sb, [sO sb mb, (mb, .map #[] 0)], rfl, rfl, mb, #[], 0, [], rfl, ⟨.empty _, nofun⟩, rfl⟩
end Go.Proofs.Ytmdiabglbmgkkaa
namespace Go.Proofs.Ytmdiabglbmgkkaa
open Go.RowKit
abbrev fO (fb : Nat) (v : Value) (mark : Nat) : Nat × Obj := (fb, .cells (fC v mark) 73 (0, 0))
abbrev BufB (v : Value) (T : List (Nat × Obj)) (l : List UInt8) : Prop := Buf 5 1 v T l.length (l.map bV)
theorem BufB.cut {a : Option Addr} {cap : Nat} {T : List (Nat × Obj)} {l : List UInt8} (h : BufB (.slice a l.length cap) T l) {many : Nat} (hm : many ≤ l.length) : BufB (.slice a many many) T (l.take many) := by
  rcases h with ⟨h1, h2, h3, h4⟩ | ⟨g, off, cap', cur, h1, rfl, ho⟩
  · obtain rfl : many = 0 := by omega
    simp only [Value.slice.injEq] at h3
    obtain ⟨rfl, _, rfl⟩ := h3
    exact .inl ⟨by simp, by simp, rfl, h4⟩
  · simp only [Value.slice.injEq] at h1
    obtain ⟨rfl, _, rfl⟩ := h1
    have ht := Own.take ho hm (Nat.le_refl many) (Nat.le_trans hm ho.le)
    have hl : (l.take many).length = many := by rw [List.length_take]; omega
    refine .inr ⟨g, off, many, cur, by rw [hl], rfl, ?_⟩
    rw [Nat.mul_one, ← List.map_take] at ht
    rw [hl]
    exact ht
theorem BufB.one {v : Value} {T : List (Nat × Obj)} {l : List UInt8} (h : BufB v T l) : v.oneCell' = true := by
  obtain ⟨ag, cap, rfl, _⟩ := h.val
  rfl
attribute [local irreducible] Fn WC WL WR OW Qt YieldFn QW
theorem stay_raw {sb mb fb cl mark many : Nat} {es : Array MapEntry} {ps : List (Int × Value)} {n : Int} {v : Value} {T R : List (Nat × Obj)} {l : List UInt8} (hmap : MapI .i64 es cl ps) (hb : BufB v T l) (hm : many ≤ l.length) :
    Fn Try.prog 42 [fP sb, .int .i64 n, fP fb, .int .i64 (many : Nat)] (sO sb mb :: (mb, .map es cl) :: fO fb v mark :: (T ++ R))
      (fun r L' => r = .tuple #[] ∧ ∃ es' v', BufB v' T (l.take many) ∧ MapI .i64 es' cl (if many = 0 then aDel ps n else ps) ∧ L' = sO sb mb :: (mb, .map es' cl) :: fO fb v' many :: (T ++ R)) := by
  obtain ⟨a, cap, rfl, hle, hmx⟩ := hb.val
  have hc := hb.cut hm
  refine Fn_enter Try.func42 rfl Try.ntmps42 rfl fun gw => ?_
  have h2 : ((many : Nat) : Int) ≤ ((cap : Nat) : Int) := by omega
  repeat (first | ((first | refine WL_Q ?_); (first | refine QW_a ?_)) | ((first | refine WL_op rfl ?_); (first | refine OW_st1 rfl ?_)) | refine WL_nil ?_ | refine WC_seq ?_ | refine WC_cond_t (ht := ?_) | refine WC_cond_f (he := ?_) | refine WC_skip ?_ | refine WC_region (id := 0) ?_)
  simp only [Int.toNat_natCast]
  repeat (first | ((first | refine WL_Q ?_); (first | refine QW_a ?_)) | ((first | refine WL_op rfl ?_); (first | refine OW_st1 rfl ?_)) | refine WL_nil ?_ | refine WC_seq ?_ | refine WC_cond_t (ht := ?_) | refine WC_cond_f (he := ?_) | refine WC_skip ?_ | refine WC_region (id := 0) ?_)
  by_cases h0 : many = 0
  · have d : (((many : Nat) : Int) == 0) = true := by simp [h0]
    repeat (first | ((first | refine WL_Q ?_); (first | refine QW_a ?_)) | refine WL_nil ?_ | refine WC_seq ?_ | refine WC_cond_t (ht := ?_) | refine WC_cond_f (he := ?_) | refine WC_skip ?_ | refine WC_region (id := 1) ?_ | refine WC_region (id := 2) ?_)
    refine WL_op rfl (OW_mapDel rfl rfl rfl (i := 1) rfl hmap ?_)
    intro es' hmap'
    simp only [List.set_cons_succ, List.set_cons_zero]
    repeat (first | ((first | refine WL_Q ?_); (first | refine QW_a ?_)) | refine WL_nil ?_ | refine WC_seq ?_ | refine WC_cond_t (ht := ?_) | refine WC_cond_f (he := ?_) | refine WC_skip ?_ | refine WC_region (id := 2) ?_)
    exact ⟨rfl, _, _, Res0 rfl, .refl _, rfl, es', _, hc, by rw [if_pos h0]; exact hmap', rfl⟩
  · have d : (((many : Nat) : Int) == 0) = false := by simp; omega
    repeat (first | ((first | refine WL_Q ?_); (first | refine QW_a ?_)) | refine WL_nil ?_ | refine WC_seq ?_ | refine WC_cond_t (ht := ?_) | refine WC_cond_f (he := ?_) | refine WC_skip ?_ | refine WC_region (id := 1) ?_ | refine WC_region (id := 2) ?_)
    exact ⟨rfl, _, _, Res0 rfl, .refl _, rfl, es, _, hc, by rw [if_neg h0]; exact hmap, rfl⟩
theorem append_old {sb mb fb cl mark : Nat} {es : Array MapEntry} {ps : List (Int × Value)} {n : Int} {v : Value} {T R : List (Nat × Obj)} {l b : List UInt8} (hmap : MapI .i64 es cl ps) (hg : aGet ps n = some (fP fb)) (hb : BufB v T l) (hne : l ≠ []) (hn : 0 ≤ n) (hl : l.length ≤ 1048576) (hbl : b.length ≤ 1048576) :
    Fn Try.prog 20 [fP sb, .int .i64 n, .string (bstr b)] (sO sb mb :: (mb, .map es cl) :: fO fb v mark :: (T ++ R))
      (fun r L' => (1048576 < l.length + b.length ∧ r = .int .i64 8 ∧ L' = sO sb mb :: (mb, .map es cl) :: fO fb v mark :: (T ++ R)) ∨ (l.length + b.length ≤ 1048576 ∧ r = .int .i64 0 ∧ ∃ es' cl' v' T', BufB v' T' (l ++ b) ∧ MapI .i64 es' cl' (aPut ps n (fP fb)) ∧ L' = sO sb mb :: (mb, .map es' cl') :: fO fb v' mark :: (T' ++ R))) := by
  have hone := hb.one
  obtain ⟨a, cap, rfl, hle, hmx⟩ := id hb.val
  refine Fn_enter Try.func20 rfl Try.ntmps20 rfl fun gw => ?_
  have d0 : decide (n < 0) = false := decide_eq_false (by omega)
  have w : IntKind.i64.wrap (((l.length : Nat) : Int) + ((b.length : Nat) : Int)) = ((l.length : Nat) : Int) + ((b.length : Nat) : Int) := wI64 (by omega) (by omega)
  repeat (first | ((first | refine WL_Q ?_); (first | refine QW_a ?_)) | ((first | refine WL_op rfl ?_); (first | refine OW_callP rfl (hF := there_some (i := 0) (j := 1) rfl rfl hmap hg) (hk := ?_))) | refine WL_nil ?_ | refine WC_seq ?_ | refine WC_block ?_ | refine WC_cond_t (ht := ?_) | refine WC_cond_f (he := ?_) | refine WC_skip ?_ | refine WC_ret ?_ | refine WC_region (id := 0) ?_ | refine WC_region (id := 1) ?_ | refine WC_region (id := 2) ?_ | refine WC_region (id := 4) ?_ | refine WC_region (id := 6) ?_ | refine WC_region (id := 8) ?_)
  rw [w]
  by_cases hbig : 1048576 < l.length + b.length
  · have d1 : decide (((l.length : Nat) : Int) + ((b.length : Nat) : Int) > 1048576) = true := decide_eq_true (by omega)
    repeat (first | ((first | refine WL_Q ?_); (first | refine QW_a ?_)) | refine WL_nil ?_ | refine WC_seq ?_ | refine WC_block ?_ | refine WC_cond_t (ht := ?_) | refine WC_cond_f (he := ?_) | refine WC_skip ?_ | refine WC_ret ?_ | refine WC_region (id := 8) ?_ | refine WC_region (id := 9) ?_)
    exact ⟨rfl, _, _, Res1 rfl (resV_tmp rfl), .refl _, .inl ⟨hbig, rfl, rfl⟩⟩
  have d1 : decide (((l.length : Nat) : Int) + ((b.length : Nat) : Int) > 1048576) = false := decide_eq_false (by omega)
  repeat (first | ((first | refine WL_Q ?_); (first | refine QW_a ?_)) | ((first | refine WL_op rfl ?_); (first | refine OW_st1 rfl ?_)) | refine WL_nil ?_ | refine WC_seq ?_ | refine WC_block ?_ | refine WC_cond_t (ht := ?_) | refine WC_cond_f (he := ?_) | refine WC_skip ?_ | refine WC_ret ?_ | refine WC_region (id := 8) ?_ | refine WC_region (id := 10) ?_)
  refine WL_op rfl (OW_append_bufM (A := [_, _, _]) (T := T) (B := R) rfl rfl rfl rfl rfl hb srcStr (by simp) (by simp only [maxLen]; omega) (by omega) ?_)
  intro v' T' hb'
  simp only [List.cons_append, List.nil_append]
  rw [← List.map_append, ← List.length_append] at hb'
  have hone' := BufB.one hb'
  repeat (first | ((first | refine WL_Q ?_); (first | refine QW_a ?_)) | ((first | refine WL_op rfl ?_); (first | refine OW_st1 rfl ?_)) | refine WL_nil ?_ | refine WC_seq ?_ | refine WC_block ?_ | refine WC_cond_t (ht := ?_) | refine WC_cond_f (he := ?_) | refine WC_skip ?_ | refine WC_ret ?_ | refine WC_region (id := 10) ?_)
  obtain ⟨a', cap', rfl, _, _⟩ := id hb'.val
  have d2 : decide ((((l ++ b).length : Nat) : Int) > 0) = true := decide_eq_true (by
    have := List.length_pos_iff.2 hne
    rw [List.length_append]; omega)
  repeat (first | ((first | refine WL_Q ?_); (first | refine QW_a ?_)) | ((first | refine WL_op rfl ?_); (first | refine OW_st1 rfl ?_)) | refine WL_nil ?_ | refine WC_seq ?_ | refine WC_block ?_ | refine WC_cond_t (ht := ?_) | refine WC_cond_f (he := ?_) | refine WC_skip ?_ | refine WC_ret ?_ | refine WC_region (id := 10) ?_ | refine WC_region (id := 11) ?_ | refine WC_region (id := 12) ?_)
  refine WL_op rfl (OW_mapPut rfl rfl rfl rfl (i := 1) rfl hmap ?_)
  intro es' cl' hmap'
  simp only [List.set_cons_succ, List.set_cons_zero]
  repeat (first | ((first | refine WL_Q ?_); (first | refine QW_a ?_)) | refine WL_nil ?_ | refine WC_seq ?_ | refine WC_block ?_ | refine WC_cond_t (ht := ?_) | refine WC_cond_f (he := ?_) | refine WC_skip ?_ | refine WC_ret ?_ | refine WC_region (id := 12) ?_ | refine WC_region (id := 13) ?_)
  exact ⟨rfl, _, _, Res1 rfl (resV_tmp rfl), .refl _, .inr ⟨by omega, rfl, es', cl', _, T', hb', hmap', rfl⟩⟩
theorem append_new {sb mb cl : Nat} {es : Array MapEntry} {ps : List (Int × Value)} {n : Int} {R : List (Nat × Obj)} {b : List UInt8} (hmap : MapI .i64 es cl ps) (hg : aGet ps n = none) (hn : 0 ≤ n) (hbl : b.length ≤ 1048576) :
    Fn Try.prog 20 [fP sb, .int .i64 n, .string (bstr b)] (sO sb mb :: (mb, .map es cl) :: R)
      (fun r L' => r = .int .i64 0 ∧ ((b = [] ∧ L' = sO sb mb :: (mb, .map es cl) :: R) ∨ (b ≠ [] ∧ ∃ es' cl' fb v' T', BufB v' T' b ∧ MapI .i64 es' cl' (aPut ps n (fP fb)) ∧ L' = sO sb mb :: (mb, .map es' cl') :: fO fb v' 0 :: (T' ++ R)))) := by
  refine Fn_enter Try.func20 rfl Try.ntmps20 rfl fun gw => ?_
  have d0 : decide (n < 0) = false := decide_eq_false (by omega)
  repeat (first | ((first | refine WL_Q ?_); (first | refine QW_a ?_)) | ((first | refine WL_op rfl ?_); (first | refine OW_box rfl (hk := fun _ => ?_) | refine OW_callP rfl (hF := there_none (i := 0) (j := 1) rfl rfl hmap hg) (hk := ?_))) | refine WL_nil ?_ | refine WC_seq ?_ | refine WC_block ?_ | refine WC_cond_t (ht := ?_) | refine WC_cond_f (he := ?_) | refine WC_skip ?_ | refine WC_ret ?_ | refine WC_region (id := 0) ?_ | refine WC_region (id := 1) ?_ | refine WC_region (id := 2) ?_ | refine WC_region (id := 4) ?_ | refine WC_region (id := 6) ?_ | refine WC_region (id := 7) ?_)
  rename_i fb
  have w : IntKind.i64.wrap (((0 : Nat) : Int) + ((b.length : Nat) : Int)) = ((b.length : Nat) : Int) := by rw [wI64 (by omega) (by omega)]; omega
  repeat (first | ((first | refine WL_Q ?_); (first | refine QW_a ?_)) | refine WL_nil ?_ | refine WC_seq ?_ | refine WC_block ?_ | refine WC_cond_t (ht := ?_) | refine WC_cond_f (he := ?_) | refine WC_skip ?_ | refine WC_ret ?_ | refine WC_region (id := 8) ?_)
  rw [w]
  have d1 : decide (((b.length : Nat) : Int) > 1048576) = false := decide_eq_false (by omega)
  repeat (first | ((first | refine WL_Q ?_); (first | refine QW_a ?_)) | ((first | refine WL_op rfl ?_); (first | refine OW_st1 rfl ?_)) | refine WL_nil ?_ | refine WC_seq ?_ | refine WC_block ?_ | refine WC_cond_t (ht := ?_) | refine WC_cond_f (he := ?_) | refine WC_skip ?_ | refine WC_ret ?_ | refine WC_region (id := 8) ?_ | refine WC_region (id := 10) ?_)
  refine WL_op rfl (OW_append_bufM (A := [_, _, _]) (T := []) (B := R) rfl rfl rfl rfl rfl (Buf.nil _ _) srcStr (by simp) (by simp only [maxLen]; omega) (by omega) ?_)
  intro v' T' hb'
  simp only [List.cons_append, List.nil_append]
  rw [Nat.zero_add, List.nil_append] at hb'
  have hone' := BufB.one hb'
  repeat (first | ((first | refine WL_Q ?_); (first | refine QW_a ?_)) | ((first | refine WL_op rfl ?_); (first | refine OW_st1 rfl ?_)) | refine WL_nil ?_ | refine WC_seq ?_ | refine WC_block ?_ | refine WC_cond_t (ht := ?_) | refine WC_cond_f (he := ?_) | refine WC_skip ?_ | refine WC_ret ?_ | refine WC_region (id := 10) ?_)
  obtain ⟨a', cap', rfl, _, _⟩ := id hb'.val
  by_cases he : b = []
  · have d2 : decide (((b.length : Nat) : Int) > 0) = false := by rw [he]; rfl
    repeat (first | ((first | refine WL_Q ?_); (first | refine QW_a ?_)) | ((first | refine WL_op rfl ?_); (first | refine OW_st1 rfl ?_)) | refine WL_nil ?_ | refine WC_seq ?_ | refine WC_block ?_ | refine WC_cond_t (ht := ?_) | refine WC_cond_f (he := ?_) | refine WC_skip ?_ | refine WC_ret ?_ | refine WC_region (id := 10) ?_ | refine WC_region (id := 11) ?_ | refine WC_region (id := 13) ?_)
    exact ⟨rfl, _, sO sb mb :: (mb, .map es cl) :: R, Res1 rfl (resV_tmp rfl), .cons _ (.cons_cons _ (.cons_cons _ (List.sublist_append_right _ _))), rfl, .inl ⟨he, rfl⟩⟩
  · have d2 : decide (((b.length : Nat) : Int) > 0) = true := decide_eq_true (by have := List.length_pos_iff.2 he; omega)
    repeat (first | ((first | refine WL_Q ?_); (first | refine QW_a ?_)) | ((first | refine WL_op rfl ?_); (first | refine OW_st1 rfl ?_)) | refine WL_nil ?_ | refine WC_seq ?_ | refine WC_block ?_ | refine WC_cond_t (ht := ?_) | refine WC_cond_f (he := ?_) | refine WC_skip ?_ | refine WC_ret ?_ | refine WC_region (id := 10) ?_ | refine WC_region (id := 11) ?_ | refine WC_region (id := 12) ?_)
    refine WL_op rfl (OW_mapPut rfl rfl rfl rfl (i := 2) rfl hmap ?_)
    intro es' cl' hmap'
    simp only [List.set_cons_succ, List.set_cons_zero]
    refine WL_front 2 rfl ?_
    refine WL_front 2 rfl ?_
    repeat (first | ((first | refine WL_Q ?_); (first | refine QW_a ?_)) | refine WL_nil ?_ | refine WC_seq ?_ | refine WC_block ?_ | refine WC_cond_t (ht := ?_) | refine WC_cond_f (he := ?_) | refine WC_skip ?_ | refine WC_ret ?_ | refine WC_region (id := 12) ?_ | refine WC_region (id := 13) ?_)
    exact ⟨rfl, _, _, Res1 rfl (resV_tmp rfl), .refl _, rfl, .inr ⟨he, es', cl', fb, _, T', hb', hmap', rfl⟩⟩
theorem append_neg {sb mb cl : Nat} {es : Array MapEntry} {ps : List (Int × Value)} {n : Int} {R : List (Nat × Obj)} {b : List UInt8} (hmap : MapI .i64 es cl ps) (hg : aGet ps n = none ∨ ∃ fb, aGet ps n = some (fP fb)) (hn : n < 0) :
    Fn Try.prog 20 [fP sb, .int .i64 n, .string (bstr b)] (sO sb mb :: (mb, .map es cl) :: R) (fun r L' => r = .int .i64 2 ∧ L' = sO sb mb :: (mb, .map es cl) :: R) := by
  have d0 : decide (n < 0) = true := decide_eq_true hn
  refine Fn_enter Try.func20 rfl Try.ntmps20 rfl fun gw => ?_
  rcases hg with hg | ⟨fb, hg⟩
  · 
    repeat (first | ((first | refine WL_Q ?_); (first | refine QW_a ?_)) | ((first | refine WL_op rfl ?_); (first | refine OW_callP rfl (hF := there_none (i := 0) (j := 1) rfl rfl hmap hg) (hk := ?_))) | refine WL_nil ?_ | refine WC_seq ?_ | refine WC_block ?_ | refine WC_cond_t (ht := ?_) | refine WC_cond_f (he := ?_) | refine WC_skip ?_ | refine WC_ret ?_ | refine WC_region (id := 0) ?_ | refine WC_region (id := 1) ?_ | refine WC_region (id := 2) ?_ | refine WC_region (id := 4) ?_ | refine WC_region (id := 5) ?_)
    exact ⟨rfl, _, _, Res1 rfl (resV_tmp rfl), .refl _, rfl, rfl⟩
  · 
    repeat (first | ((first | refine WL_Q ?_); (first | refine QW_a ?_)) | ((first | refine WL_op rfl ?_); (first | refine OW_callP rfl (hF := there_some (i := 0) (j := 1) rfl rfl hmap hg) (hk := ?_))) | refine WL_nil ?_ | refine WC_seq ?_ | refine WC_block ?_ | refine WC_cond_t (ht := ?_) | refine WC_cond_f (he := ?_) | refine WC_skip ?_ | refine WC_ret ?_ | refine WC_region (id := 0) ?_ | refine WC_region (id := 1) ?_ | refine WC_region (id := 2) ?_ | refine WC_region (id := 4) ?_ | refine WC_region (id := 5) ?_)
    exact ⟨rfl, _, _, Res1 rfl (resV_tmp rfl), .refl _, rfl, rfl⟩
theorem cut_none {sb mb cl : Nat} {es : Array MapEntry} {ps : List (Int × Value)} {n many : Int} {R : List (Nat × Obj)} (hmap : MapI .i64 es cl ps) (hg : aGet ps n = none) :
    Fn Try.prog 18 [fP sb, .int .i64 n, .int .i64 many] (sO sb mb :: (mb, .map es cl) :: R) (fun r L' => r = .int .i64 10 ∧ L' = sO sb mb :: (mb, .map es cl) :: R) := by
  refine Fn_enter Try.func18 rfl Try.ntmps18 rfl fun gw => ?_
  repeat (first | ((first | refine WL_Q ?_); (first | refine QW_a ?_)) | ((first | refine WL_op rfl ?_); (first | refine OW_callP rfl (hF := there_none (i := 0) (j := 1) rfl rfl hmap hg) (hk := ?_))) | refine WL_nil ?_ | refine WC_seq ?_ | refine WC_block ?_ | refine WC_cond_t (ht := ?_) | refine WC_cond_f (he := ?_) | refine WC_skip ?_ | refine WC_ret ?_ | refine WC_region (id := 0) ?_ | refine WC_region (id := 1) ?_ | refine WC_region (id := 2) ?_ | refine WC_region (id := 3) ?_)
  exact ⟨rfl, _, _, Res1 rfl (resV_tmp rfl), .refl _, rfl, rfl⟩
theorem sync_none {sb mb cl : Nat} {es : Array MapEntry} {ps : List (Int × Value)} {n : Int} {R : List (Nat × Obj)} (hmap : MapI .i64 es cl ps) (hg : aGet ps n = none) :
    Fn Try.prog 17 [fP sb, .int .i64 n] (sO sb mb :: (mb, .map es cl) :: R) (fun r L' => r = .int .i64 10 ∧ L' = sO sb mb :: (mb, .map es cl) :: R) := by
  refine Fn_enter Try.func17 rfl Try.ntmps17 rfl fun gw => ?_
  repeat (first | ((first | refine WL_Q ?_); (first | refine QW_a ?_)) | ((first | refine WL_op rfl ?_); (first | refine OW_callP rfl (hF := there_none (i := 0) (j := 1) rfl rfl hmap hg) (hk := ?_))) | refine WL_nil ?_ | refine WC_seq ?_ | refine WC_cond_t (ht := ?_) | refine WC_cond_f (he := ?_) | refine WC_skip ?_ | refine WC_ret ?_ | refine WC_region (id := 0) ?_ | refine WC_region (id := 1) ?_ | refine WC_region (id := 2) ?_ | refine WC_region (id := 4) ?_)
  exact ⟨rfl, _, _, Res1 rfl (resV_tmp rfl), .refl _, rfl, rfl⟩
theorem read_none {sb mb cl : Nat} {es : Array MapEntry} {ps : List (Int × Value)} {n : Int} {R : List (Nat × Obj)} (hmap : MapI .i64 es cl ps) (hg : aGet ps n = none) :
    Fn Try.prog 11 [fP sb, .int .i64 n] (sO sb mb :: (mb, .map es cl) :: R) (fun r L' => r = .tuple #[.string (bstr []), .int .i64 10] ∧ L' = sO sb mb :: (mb, .map es cl) :: R) := by
  refine Fn_enter Try.func11 rfl Try.ntmps11 rfl fun gw => ?_
  repeat (first | ((first | refine WL_Q ?_); (first | refine QW_a ?_)) | ((first | refine WL_op rfl ?_); (first | refine OW_callP rfl (hF := there_none (i := 0) (j := 1) rfl rfl hmap hg) (hk := ?_))) | refine WL_nil ?_ | refine WC_seq ?_ | refine WC_cond_t (ht := ?_) | refine WC_cond_f (he := ?_) | refine WC_skip ?_ | refine WC_ret ?_ | refine WC_region (id := 0) ?_ | refine WC_region (id := 1) ?_ | refine WC_region (id := 2) ?_ | refine WC_region (id := 3) ?_)
  exact ⟨rfl, _, _, Res2 rfl (resV_tmp rfl) (resV_tmp rfl), .refl _, rfl, rfl⟩
theorem read_some {sb mb fb cl mark : Nat} {es : Array MapEntry} {ps : List (Int × Value)} {n : Int} {v : Value} {T R : List (Nat × Obj)} {l : List UInt8} (hmap : MapI .i64 es cl ps) (hg : aGet ps n = some (fP fb)) (hb : BufB v T l) :
    Fn Try.prog 11 [fP sb, .int .i64 n] (sO sb mb :: (mb, .map es cl) :: fO fb v mark :: (T ++ R)) (fun r L' => r = .tuple #[.string (bstr l), .int .i64 0] ∧ L' = sO sb mb :: (mb, .map es cl) :: fO fb v mark :: (T ++ R)) := by
  have hv : ByAt (sO sb mb :: (mb, .map es cl) :: fO fb v mark :: (T ++ R)) v l := (((hb.vec0 R).cons _).cons _).cons _
  refine Fn_enter Try.func11 rfl Try.ntmps11 rfl fun gw => ?_
  repeat (first | ((first | refine WL_Q ?_); (first | refine QW_a ?_)) | ((first | refine WL_op rfl ?_); (first | refine OW_callP rfl (hF := there_some (i := 0) (j := 1) rfl rfl hmap hg) (hk := ?_))) | refine WL_nil ?_ | refine WC_seq ?_ | refine WC_cond_t (ht := ?_) | refine WC_cond_f (he := ?_) | refine WC_skip ?_ | refine WC_ret ?_ | refine WC_region (id := 0) ?_ | refine WC_region (id := 1) ?_ | refine WC_region (id := 2) ?_ | refine WC_region (id := 4) ?_)
  exact ⟨rfl, _, _, Res2 rfl (resV_tmp rfl) (resV_tmp rfl), .refl _, rfl, rfl⟩
theorem cut_some {sb mb fb cl mark : Nat} {es : Array MapEntry} {ps : List (Int × Value)} {n many : Int} {v : Value} {T R : List (Nat × Obj)} {l : List UInt8} (hmap : MapI .i64 es cl ps) (hg : aGet ps n = some (fP fb)) (hb : BufB v T l) :
    Fn Try.prog 18 [fP sb, .int .i64 n, .int .i64 many] (sO sb mb :: (mb, .map es cl) :: fO fb v mark :: (T ++ R))
      (fun r L' => ((many < 0 ∨ (l.length : Int) < many) ∧ r = .int .i64 2 ∧ L' = sO sb mb :: (mb, .map es cl) :: fO fb v mark :: (T ++ R)) ∨ ∃ k : Nat, many = k ∧ k ≤ l.length ∧ r = .int .i64 0 ∧ ∃ es' v', BufB v' T (l.take k) ∧ MapI .i64 es' cl (if k = 0 then aDel ps n else ps) ∧ L' = sO sb mb :: (mb, .map es' cl) :: fO fb v' k :: (T ++ R)) := by
  obtain ⟨a, cap, rfl, hle, hmx⟩ := id hb.val
  refine Fn_enter Try.func18 rfl Try.ntmps18 rfl fun gw => ?_
  by_cases h0 : many < 0
  · have d0 : decide (many < 0) = true := decide_eq_true h0
    repeat (first | ((first | refine WL_Q ?_ | refine WL_Y ?_); (first | refine QW_a ?_)) | ((first | refine WL_op rfl ?_ | refine WL_yes (h := ?_)); (first | refine OW_callP rfl (hF := there_some (i := 0) (j := 1) rfl rfl hmap hg) (hk := ?_))) | refine WL_nil ?_ | refine WL_un (h := ?_) | refine WL_N ?_ | refine WL_M ?_ | refine WC_seq ?_ | refine WC_block ?_ | refine WC_cond_t (ht := ?_) | refine WC_cond_f (he := ?_) | refine WC_skip ?_ | refine WC_ret ?_ | refine WC_region (id := 0) ?_ | refine WC_region (id := 1) ?_ | refine WC_region (id := 2) ?_ | refine WC_region (id := 4) ?_ | refine WC_region (id := 5) ?_)
    exact ⟨rfl, _, _, Res1 rfl (resV_tmp rfl), .refl _, .inl ⟨.inl h0, rfl, rfl⟩⟩
  have d0 : decide (many < 0) = false := decide_eq_false h0
  by_cases h1 : many > (l.length : Int)
  · have d1 : decide (many > ((l.length : Nat) : Int)) = true := decide_eq_true h1
    repeat (first | ((first | refine WL_Q ?_ | refine WL_Y ?_); (first | refine QW_a ?_)) | ((first | refine WL_op rfl ?_ | refine WL_yes (h := ?_)); (first | refine OW_callP rfl (hF := there_some (i := 0) (j := 1) rfl rfl hmap hg) (hk := ?_))) | refine WL_nil ?_ | refine WL_un (h := ?_) | refine WL_N ?_ | refine WL_M ?_ | refine WC_seq ?_ | refine WC_block ?_ | refine WC_cond_t (ht := ?_) | refine WC_cond_f (he := ?_) | refine WC_skip ?_ | refine WC_ret ?_ | refine WC_region (id := 0) ?_ | refine WC_region (id := 1) ?_ | refine WC_region (id := 2) ?_ | refine WC_region (id := 4) ?_ | refine WC_region (id := 5) ?_)
    exact ⟨rfl, _, _, Res1 rfl (resV_tmp rfl), .refl _, .inl ⟨.inr h1, rfl, rfl⟩⟩
  have d1 : decide (many > ((l.length : Nat) : Int)) = false := decide_eq_false h1
  obtain ⟨k, rfl⟩ : ∃ k : Nat, many = k := ⟨many.toNat, by omega⟩
  have hm : k ≤ l.length := by omega
  repeat (first | ((first | refine WL_Q ?_ | refine WL_Y ?_); (first | refine QW_a ?_)) | ((first | refine WL_op rfl ?_ | refine WL_yes (h := ?_)); (first | refine OW_callP rfl (hF := there_some (i := 0) (j := 1) rfl rfl hmap hg) (hk := ?_) | (refine OW_call rfl (hF := stay_raw hmap hb hm) (hk := ?_); rintro _ _ ⟨rfl, es', v', hb', hmap', rfl⟩))) | refine WL_nil ?_ | refine WL_un (h := ?_) | refine WL_N ?_ | refine WL_M ?_ | refine WC_seq ?_ | refine WC_block ?_ | refine WC_cond_t (ht := ?_) | refine WC_cond_f (he := ?_) | refine WC_skip ?_ | refine WC_ret ?_ | refine WC_region (id := 0) ?_ | refine WC_region (id := 1) ?_ | refine WC_region (id := 2) ?_ | refine WC_region (id := 4) ?_ | refine WC_region (id := 6) ?_ | refine WC_region (id := 7) ?_)
  exact ⟨rfl, _, _, Res1 rfl (resV_tmp rfl), .refl _, .inr ⟨k, rfl, hm, rfl, es', v', hb', hmap', rfl⟩⟩
theorem sync_some {sb mb fb cl mark : Nat} {es : Array MapEntry} {ps : List (Int × Value)} {n : Int} {v : Value} {T R : List (Nat × Obj)} {l : List UInt8} (hmap : MapI .i64 es cl ps) (hg : aGet ps n = some (fP fb)) (hb : BufB v T l) (hne : l ≠ []) :
    Fn Try.prog 17 [fP sb, .int .i64 n] (sO sb mb :: (mb, .map es cl) :: fO fb v mark :: (T ++ R))
      (fun r L' => r = .int .i64 0 ∧ ∃ es' v', BufB v' T l ∧ MapI .i64 es' cl ps ∧ L' = sO sb mb :: (mb, .map es' cl) :: fO fb v' l.length :: (T ++ R)) := by
  obtain ⟨a, cap, rfl, hle, hmx⟩ := id hb.val
  refine Fn_enter Try.func17 rfl Try.ntmps17 rfl fun gw => ?_
  have hm : l.length ≤ l.length := Nat.le_refl _
  repeat (first | ((first | refine WL_Q ?_); (first | refine QW_a ?_)) | ((first | refine WL_op rfl ?_); (first | refine OW_callP rfl (hF := there_some (i := 0) (j := 1) rfl rfl hmap hg) (hk := ?_) | (refine OW_call rfl (hF := stay_raw hmap hb hm) (hk := ?_); rintro _ _ ⟨rfl, es', v', hb', hmap', rfl⟩))) | refine WL_nil ?_ | refine WC_seq ?_ | refine WC_cond_t (ht := ?_) | refine WC_cond_f (he := ?_) | refine WC_skip ?_ | refine WC_ret ?_ | refine WC_region ?_)
  rw [if_neg (by have := List.length_pos_iff.2 hne; omega)] at hmap'
  rw [List.take_length] at hb'
  exact ⟨rfl, _, _, Res1 rfl (resV_tmp rfl), .refl _, rfl, es', v', hb', hmap', rfl⟩
end Go.Proofs.Ytmdiabglbmgkkaa
namespace Go.Proofs.Ytmdiabglbmgkkaa
open Go.RowKit
theorem Fn.permS {P : Program} {f : FuncId} {args : List Value} {L L1 : List (Nat × Obj)} {R R1 : Value → List (Nat × Obj) → Prop} (h : Fn P f args L1 R1) (hp : L1.Perm L) (hr : ∀ v L', R1 v L' → ∃ L2 L3, L2.Sublist L3 ∧ L3.Perm L' ∧ R v L2) : Fn P f args L R := fun g w hm => by
  refine (h g w (hm.perm hp)).mono fun e w' ⟨v, L', h1, h2, h3⟩ => ?_
  obtain ⟨L2, L3, h4, h5, h6⟩ := hr v L' h3
  exact ⟨v, L2, h1, (h2.perm h5).sublist h4, h6⟩
def upG (g : FG) (n : Int) (x : List UInt8 × Nat) : FG := fun m => if m = n then x else g m
theorem upG_self (g : FG) (n : Int) : upG g n (g n) = g := by
  funext m; unfold upG
  by_cases h : m = n
  · rw [if_pos h, h]
  · rw [if_neg h]
def appE (g : FG) (n : Int) (b : List UInt8) : Int := if n < 0 then 2 else if 1048576 < (g n).1.length + b.length then 8 else 0
def appG (g : FG) (n : Int) (b : List UInt8) : FG := if n < 0 then g else if 1048576 < (g n).1.length + b.length then g else upG g n ((g n).1 ++ b, (g n).2)
def cutE (g : FG) (n many : Int) : Int := if (g n).1 = [] then 10 else if many < 0 ∨ ((g n).1.length : Int) < many then 2 else 0
def cutG (g : FG) (n many : Int) : FG := if cutE g n many = 0 then upG g n ((g n).1.take many.toNat, many.toNat) else g
def syncE (g : FG) (n : Int) : Int := if (g n).1 = [] then 10 else 0
def syncG (g : FG) (n : Int) : FG := if (g n).1 = [] then g else upG g n ((g n).1, (g n).1.length)
theorem st_open (p q : Nat × Obj) (A : List FiR) (r : FiR) (B : List FiR) (F : List (Nat × Obj)) : (p :: q :: fO r.fb r.v r.mark :: (r.T ++ (ownL A ++ (ownL B ++ F)))).Perm ((p :: q :: ownL (A ++ r :: B)) ++ F) := by
  rw [ownL_app, ownL_cons]
  refine .cons _ (.cons _ ?_)
  show (r.own ++ (ownL A ++ (ownL B ++ F))).Perm (ownL A ++ (r.own ++ ownL B) ++ F)
  rw [List.append_assoc, List.append_assoc]
  exact List.perm_append_comm_assoc ..
theorem ok_of {rs : List FiR} (h : ∀ r ∈ rs, r.Ok) {A : List FiR} {r : FiR} {B : List FiR} (e : rs = A ++ r :: B) : r.Ok ∧ ∀ r' : FiR, r'.Ok → ∀ q ∈ A ++ r' :: B, q.Ok := by
  subst e
  refine ⟨h r (by simp), fun r' h' q hq => ?_⟩
  rcases List.mem_append.1 hq with g | g
  · exact h q (List.mem_append_left _ g)
  · rcases List.mem_cons.1 g with rfl | g
    · exact h'
    · exact h q (by simp [g])
theorem st_set {es' : Array MapEntry} {cl' sb mb : Nat} {A : List FiR} {r : FiR} {B : List FiR} {F : List (Nat × Obj)} {v' : Value} {T' : List (Nat × Obj)} {l' : List UInt8} {mark' : Nat} (hA : r.n ∉ A.map FiR.n) (hr : ∀ q ∈ A ++ r :: B, q.Ok) (hb : BufB v' T' l') (hm : mark' ≤ l'.length) (hl : l'.length ≤ 1048576) (hne : l' ≠ [])
    (hmap : MapI .i64 es' cl' (fps (A ++ r :: B))) : ∃ L2 L3, List.Sublist L2 L3 ∧ L3.Perm (sO sb mb :: (mb, .map es' cl') :: fO r.fb v' mark' :: (T' ++ (ownL A ++ (ownL B ++ F)))) ∧ ∃ S', L2 = S' ++ F ∧ StAt sb S' (upG (gOf (A ++ r :: B)) r.n (l', mark')) := by
  refine ⟨_, _, .refl _, (st_open _ _ A { r with v := v', T := T', l := l', mark := mark' } B F).symm, _, rfl, mb, es', cl', _, rfl, ⟨?_, ?_⟩, ?_⟩
  · have : fps (A ++ { r with v := v', T := T', l := l', mark := mark' } :: B) = fps (A ++ r :: B) := by simp [fps]
    rw [this]; exact hmap
  · exact (ok_of hr rfl).2 _ ⟨hb, hm, hl, hne⟩
  · exact gOf_set (r := r) (r' := { r with v := v', T := T', l := l', mark := mark' }) rfl hA
theorem st_del {es' : Array MapEntry} {cl' sb mb : Nat} {A : List FiR} {r : FiR} {B : List FiR} {F : List (Nat × Obj)} {q0 : Nat × Obj} {T' : List (Nat × Obj)} (hn : ((A ++ r :: B).map FiR.n).Nodup) (hr : ∀ q ∈ A ++ r :: B, q.Ok)
    (hmap : MapI .i64 es' cl' (aDel (fps (A ++ r :: B)) r.n)) : ∃ L2 L3, List.Sublist L2 L3 ∧ L3.Perm (sO sb mb :: (mb, .map es' cl') :: q0 :: (T' ++ (ownL A ++ (ownL B ++ F)))) ∧ ∃ S', L2 = S' ++ F ∧ StAt sb S' (upG (gOf (A ++ r :: B)) r.n ([], 0)) := by
  refine ⟨(sO sb mb :: (mb, .map es' cl') :: ownL (A ++ B)) ++ F, _, ?_, .refl _, _, rfl, mb, es', cl', A ++ B, rfl, ⟨?_, ?_⟩, ?_⟩
  · rw [ownL_app]
    refine .cons_cons _ (.cons_cons _ (.cons _ ?_))
    show List.Sublist ((ownL A ++ ownL B) ++ F) _
    rw [List.append_assoc]
    exact List.sublist_append_right _ _
  · rw [← aDel_fps hn]; exact hmap
  · intro q hq
    refine hr q ?_
    rcases List.mem_append.1 hq with g | g
    · exact List.mem_append_left _ g
    · simp [g]
  · rw [gOf_del hn]
    rfl
theorem st_some {es : Array MapEntry} {cl : Nat} {A : List FiR} {r : FiR} {B : List FiR} (hok : StOk es cl (A ++ r :: B)) : ((A ++ r :: B).map FiR.n).Nodup ∧ r.n ∉ A.map FiR.n ∧ gOf (A ++ r :: B) r.n = (r.l, r.mark) := by
  have h1 := hok.map.keys
  rw [fps_keys] at h1
  have h2 : r.n ∉ A.map FiR.n := fun h => by
    rw [List.map_append, List.map_cons] at h1
    exact (List.nodup_cons.1 (List.perm_middle.nodup_iff.1 h1)).1 (List.mem_append_left _ h)
  refine ⟨h1, h2, ?_⟩
  rw [gOf_app _ _ _ h2]
  simp [gOf]
theorem append_st {sb : Nat} {S F : List (Nat × Obj)} {g : FG} {n : Int} {b : List UInt8} (h : StAt sb S g) (hbl : b.length ≤ 1048576) : Fn Try.prog 20 [fP sb, .int .i64 n, .string (bstr b)] (S ++ F) (fun r L' => r = .int .i64 (appE g n b) ∧ ∃ S', L' = S' ++ F ∧ StAt sb S' (appG g n b)) := by
  obtain ⟨mb, es, cl, rs, rfl, hok, rfl⟩ := h
  have same : ∃ S', (sO sb mb :: (mb, Obj.map es cl) :: ownL rs) ++ F = S' ++ F ∧ StAt sb S' (gOf rs) := ⟨_, rfl, mb, es, cl, rs, rfl, hok, rfl⟩
  by_cases hn : n < 0
  · refine (append_neg (R := ownL rs ++ F) hok.map ?_ hn).mono ?_
    · rcases aGet_fps rs n with ⟨h1, _⟩ | ⟨_, r, _, _, _, h1, _⟩
      · exact .inl h1
      · exact .inr ⟨_, h1⟩
    · rintro _ _ ⟨rfl, rfl⟩
      unfold appE appG
      rw [if_pos hn, if_pos hn]
      exact ⟨rfl, same⟩
  rcases aGet_fps rs n with ⟨h1, h2, h3⟩ | ⟨A, r, B, rfl, rfl, h1, h2, h3⟩
  · refine (append_new (R := ownL rs ++ F) hok.map h1 (by omega) hbl).permS (.refl _) ?_
    have hsm : ¬ 1048576 < (gOf rs n).1.length + b.length := by rw [h2]; simp; omega
    unfold appE appG
    rw [if_neg hn, if_neg hn, if_neg hsm, if_neg hsm, h2]
    rintro _ _ ⟨rfl, ⟨rfl, rfl⟩ | ⟨hne, es', cl', fb, v', T', hb, hmap, rfl⟩⟩
    · refine ⟨_, _, .refl _, .refl _, rfl, ?_⟩
      have : upG (gOf rs) n (([] : List UInt8) ++ [], 0) = gOf rs := by rw [List.append_nil, ← h2]; exact upG_self _ _
      rw [this]
      exact same
    · refine ⟨_, _, .refl _, ?_, rfl, sO sb mb :: (mb, .map es' cl') :: ownL (rs ++ [⟨n, fb, v', T', b, 0⟩]), rfl, mb, es', cl', _, rfl, ⟨?_, ?_⟩, ?_⟩
      · rw [ownL_app]
        refine .cons _ (.cons _ ?_)
        show ((ownL rs ++ (FiR.own ⟨n, fb, v', T', b, 0⟩ ++ [])) ++ F).Perm (FiR.own ⟨n, fb, v', T', b, 0⟩ ++ (ownL rs ++ F))
        rw [List.append_nil, List.append_assoc]
        exact List.perm_append_comm_assoc ..
      · rw [aPut_none h1] at hmap
        rw [fps_app]
        exact hmap
      · intro q hq
        rcases List.mem_append.1 hq with g | g
        · exact hok.ok q g
        · obtain rfl : q = _ := by simpa using g
          exact ⟨hb, Nat.zero_le _, hbl, hne⟩
      · rw [gOf_new (r := ⟨n, fb, v', T', b, 0⟩) h3]
        rfl
  · obtain ⟨hnd, hA, hg⟩ := st_some hok
    obtain ⟨hr, _⟩ := ok_of hok.ok rfl
    refine (append_old (R := ownL A ++ (ownL B ++ F)) (mark := r.mark) hok.map h1 hr.buf hr.ne (by omega) hr.size hbl).permS (st_open _ _ A r B F) ?_
    unfold appE appG
    rw [if_neg hn, if_neg hn, hg]
    rintro _ _ (⟨hbig, rfl, rfl⟩ | ⟨hsm, rfl, es', cl', v', T', hb, hmap, rfl⟩)
    · rw [if_pos hbig, if_pos hbig]
      exact ⟨_, _, .refl _, (st_open _ _ A r B F).symm, rfl, same⟩
    · rw [if_neg (Nat.not_lt.2 hsm), if_neg (Nat.not_lt.2 hsm)]
      have hput : aPut (fps (A ++ r :: B)) r.n (fP r.fb) = fps (A ++ r :: B) := by rw [aPut_fps hA]; simp [fps]
      rw [hput] at hmap
      obtain ⟨L2, L3, q1, q2, q3⟩ := st_set (sb := sb) (mb := mb) (F := F) (mark' := r.mark) hA hok.ok hb (by have := hr.mark; rw [List.length_append]; omega) (by rw [List.length_append]; omega) (by simp [hr.ne]) hmap
      exact ⟨L2, L3, q1, q2, rfl, q3⟩
theorem cut_st {sb : Nat} {S F : List (Nat × Obj)} {g : FG} {n many : Int} (h : StAt sb S g) : Fn Try.prog 18 [fP sb, .int .i64 n, .int .i64 many] (S ++ F) (fun r L' => r = .int .i64 (cutE g n many) ∧ ∃ S', L' = S' ++ F ∧ StAt sb S' (cutG g n many)) := by
  obtain ⟨mb, es, cl, rs, rfl, hok, rfl⟩ := h
  have same : ∃ S', (sO sb mb :: (mb, Obj.map es cl) :: ownL rs) ++ F = S' ++ F ∧ StAt sb S' (gOf rs) := ⟨_, rfl, mb, es, cl, rs, rfl, hok, rfl⟩
  rcases aGet_fps rs n with ⟨h1, h2, h3⟩ | ⟨A, r, B, rfl, rfl, h1, h2, h3⟩
  · refine (cut_none (R := ownL rs ++ F) hok.map h1).mono ?_
    rintro _ _ ⟨rfl, rfl⟩
    have e : cutE (gOf rs) n many = 10 := by unfold cutE; rw [h2]; rfl
    unfold cutG
    rw [e, if_neg (by decide)]
    exact ⟨rfl, same⟩
  · obtain ⟨hnd, hA, hg⟩ := st_some hok
    obtain ⟨hr, _⟩ := ok_of hok.ok rfl
    refine (cut_some (R := ownL A ++ (ownL B ++ F)) (mark := r.mark) hok.map h1 hr.buf).permS (st_open _ _ A r B F) ?_
    rintro _ _ (⟨hbad, rfl, rfl⟩ | ⟨k, rfl, hk, rfl, es', v', hb, hmap, rfl⟩)
    · have e : cutE (gOf (A ++ r :: B)) r.n many = 2 := by unfold cutE; rw [hg, if_neg hr.ne, if_pos hbad]
      unfold cutG
      rw [e, if_neg (by decide)]
      exact ⟨_, _, .refl _, (st_open _ _ A r B F).symm, rfl, same⟩
    · have e : cutE (gOf (A ++ r :: B)) r.n (k : Int) = 0 := by unfold cutE; rw [hg, if_neg hr.ne, if_neg (by dsimp only; omega)]
      unfold cutG
      rw [e, if_pos rfl, hg, Int.toNat_natCast]
      have hlen : (r.l.take k).length = k := by rw [List.length_take]; omega
      by_cases hk0 : k = 0
      · rw [if_pos hk0] at hmap
        subst hk0
        obtain ⟨L2, L3, q1, q2, q3⟩ := st_del (sb := sb) (mb := mb) (F := F) (q0 := fO r.fb v' 0) (T' := r.T) hnd hok.ok hmap
        exact ⟨L2, L3, q1, q2, rfl, q3⟩
      · rw [if_neg hk0] at hmap
        obtain ⟨L2, L3, q1, q2, q3⟩ := st_set (sb := sb) (mb := mb) (F := F) (mark' := k) hA hok.ok hb (by omega) (by have := hr.size; omega) (by intro h; rw [h] at hlen; simp at hlen; omega) hmap
        exact ⟨L2, L3, q1, q2, rfl, q3⟩
theorem sync_st {sb : Nat} {S F : List (Nat × Obj)} {g : FG} {n : Int} (h : StAt sb S g) : Fn Try.prog 17 [fP sb, .int .i64 n] (S ++ F) (fun r L' => r = .int .i64 (syncE g n) ∧ ∃ S', L' = S' ++ F ∧ StAt sb S' (syncG g n)) := by
  obtain ⟨mb, es, cl, rs, rfl, hok, rfl⟩ := h
  have same : ∃ S', (sO sb mb :: (mb, Obj.map es cl) :: ownL rs) ++ F = S' ++ F ∧ StAt sb S' (gOf rs) := ⟨_, rfl, mb, es, cl, rs, rfl, hok, rfl⟩
  rcases aGet_fps rs n with ⟨h1, h2, h3⟩ | ⟨A, r, B, rfl, rfl, h1, h2, h3⟩
  · refine (sync_none (R := ownL rs ++ F) hok.map h1).mono ?_
    rintro _ _ ⟨rfl, rfl⟩
    unfold syncE syncG
    rw [h2, if_pos rfl, if_pos rfl]
    exact ⟨rfl, same⟩
  · obtain ⟨hnd, hA, hg⟩ := st_some hok
    obtain ⟨hr, _⟩ := ok_of hok.ok rfl
    refine (sync_some (R := ownL A ++ (ownL B ++ F)) (mark := r.mark) hok.map h1 hr.buf hr.ne).permS (st_open _ _ A r B F) ?_
    rintro _ _ ⟨rfl, es', v', hb, hmap, rfl⟩
    unfold syncE syncG
    rw [hg, if_neg hr.ne, if_neg hr.ne]
    obtain ⟨L2, L3, q1, q2, q3⟩ := st_set (sb := sb) (mb := mb) (F := F) (mark' := r.l.length) hA hok.ok hb (Nat.le_refl _) hr.size hr.ne hmap
    exact ⟨L2, L3, q1, q2, rfl, q3⟩
theorem read_st {sb : Nat} {S F : List (Nat × Obj)} {g : FG} {n : Int} (h : StAt sb S g) : Fn Try.prog 11 [fP sb, .int .i64 n] (S ++ F) (fun r L' => r = .tuple #[.string (bstr (g n).1), .int .i64 (syncE g n)] ∧ L' = S ++ F) := by
  obtain ⟨mb, es, cl, rs, rfl, hok, rfl⟩ := h
  rcases aGet_fps rs n with ⟨h1, h2, h3⟩ | ⟨A, r, B, rfl, rfl, h1, h2, h3⟩
  · refine (read_none (R := ownL rs ++ F) hok.map h1).mono ?_
    rintro _ _ ⟨rfl, rfl⟩
    unfold syncE
    rw [h2, if_pos rfl]
    exact ⟨rfl, rfl⟩
  · obtain ⟨hnd, hA, hg⟩ := st_some hok
    obtain ⟨hr, _⟩ := ok_of hok.ok rfl
    refine (read_some (R := ownL A ++ (ownL B ++ F)) (mark := r.mark) hok.map h1 hr.buf).permS (st_open _ _ A r B F) ?_
    rintro _ _ ⟨rfl, rfl⟩
    unfold syncE
    rw [hg, if_neg hr.ne]
    exact ⟨_, _, .refl _, (st_open _ _ A r B F).symm, rfl, rfl⟩
attribute [local irreducible] Fn WC WL WR OW Qt YieldFn QW
end Go.Proofs.Ytmdiabglbmgkkaa
namespace Go.Proofs.Ytmdiabglbmgkkaa
open Go.RowKit
section
variable {c : Cx} {ops : Array Oper}
theorem WS_c {K : Exit → St → Prop} {Ls L0 : List (Nat × Obj)} {m i : Nat} {ms : List Nat} {fr : Bool} {p : Plan} {op : Op} {d ty : Nat} {pos : String} {aft : Array Edge} {s : List (Nat × Value)} {D : List Deferred} {L : List (Nat × Obj)} (ho : ops[i]? = some ⟨some d, op, ty, pos, aft, none⟩)
    (h : QW c s Ls ⟨some d, op, ty, pos, aft, none⟩ fun v => WS c ops K Ls L0 m ms fr p ⟨(d, v) :: s, D, L⟩) (hd : Nat.blt d c.N = true := by exact rfl) : WS c ops K Ls L0 m ms fr (.calm i p) ⟨s, D, L⟩ :=
  let ⟨v, h1, h2⟩ := h; ⟨_, v, Ls, ho, hd, .inl rfl, .inl ⟨h1, rfl⟩, h2⟩
theorem WS_r {K : Exit → St → Prop} {Ls L0 : List (Nat × Obj)} {m i : Nat} {ms : List Nat} {p : Plan} {op : Op} {d ty : Nat} {pos : String} {aft : Array Edge} {s : List (Nat × Value)} {D : List Deferred} {L : List (Nat × Obj)} (ho : ops[i]? = some ⟨some d, op, ty, pos, aft, none⟩) (ha : aheadOk ops ms m i = true)
    (h : QW c s L0 ⟨some d, op, ty, pos, aft, none⟩ fun v => WS c ops K Ls L0 m ms true p ⟨(d, v) :: s, D, L⟩) (hd : Nat.blt d c.N = true := by exact rfl) : WS c ops K Ls L0 m ms true (.calm i p) ⟨s, D, L⟩ :=
  let ⟨v, h1, h2⟩ := h; ⟨_, v, L0, ho, hd, .inr ⟨rfl, ha, rfl⟩, .inl ⟨h1, rfl⟩, h2⟩
theorem WS_m {K : Exit → St → Prop} {Ls L0 : List (Nat × Obj)} {m i : Nat} {ms : List Nat} {fr : Bool} {p : Plan} {σ : St} {o : Oper} (ho : ops[i]? = some o) (hg : o.guard = none) (h : OW c o (fun σ' => (∀ q ∈ Ls, q ∈ σ'.L) ∧ WS c ops K Ls L0 m ms false p σ') K σ) : WS c ops K Ls L0 m ms fr (.must i p) σ :=
  ⟨o, ho, .inl ⟨.inl hg, h.mono fun _ h' => ⟨fun _ => h'.1, h'.2⟩⟩⟩
theorem WS_d {K : Exit → St → Prop} {Ls L0 : List (Nat × Obj)} {m : Nat} {ms : List Nat} {fr : Bool} {σ : St} (h : K .normal σ) : WS c ops K Ls L0 m ms fr .done σ := h
end
end Go.Proofs.Ytmdiabglbmgkkaa
namespace Go.Proofs.Ytmdiabglbmgkkaa
open Go.RowKit
abbrev iV (x : Int) : Value := .int .i64 x
abbrev OwnI (cur : Array Value) (off cap : Nat) (xs : List Int) : Prop := Own 1 cur off cap xs.length (xs.map iV)
abbrev BufI (v : Value) (T : List (Nat × Obj)) (xs : List Int) : Prop := Buf 3 1 v T xs.length (xs.map iV)
theorem OwnI.at_i {cur : Array Value} {off cap : Nat} {xs : List Int} (h : OwnI cur off cap xs) {i : Int} {j : Nat} {x : Int} (hi : i.toNat = j) (hx : xs[j]? = some x) : cur[off + i.toNat * 1]? = some (iV x) := by
  rw [hi, Nat.mul_one]
  exact Own.at_ h j _ (by rw [List.getElem?_map, hx]; rfl)
theorem OwnI.lt {cur : Array Value} {off cap : Nat} {xs : List Int} (h : OwnI cur off cap xs) {i : Int} (hi : i.toNat < xs.length) : off + i.toNat * 1 < cur.size := by
  have := Own.fit h
  have := Own.le h
  omega
theorem OwnI.put {cur : Array Value} {off cap : Nat} {xs : List Int} (h : OwnI cur off cap xs) {i : Int} {j : Nat} (hi : i.toNat = j) (x : Int) : OwnI (cur.setIfInBounds (off + i.toNat * 1) (iV x)) off cap (xs.set j x) := by
  subst hi
  unfold OwnI
  rw [List.length_set]
  refine ⟨by simp, Own.le h, Own.max h, by rw [Array.size_setIfInBounds]; exact Own.fit h, fun k v hk => ?_⟩
  rw [List.getElem?_map, List.getElem?_set] at hk
  by_cases e : i.toNat = k
  · rw [if_pos e] at hk
    split at hk
    · rename_i hlt
      cases hk
      have hs := h.lt hlt
      rw [← e, Nat.mul_one] at *
      rw [Array.getElem?_setIfInBounds_self_of_lt hs]
    · cases hk
  · rw [if_neg e] at hk
    rw [Array.getElem?_setIfInBounds_ne (by omega)]
    exact Own.at_ h k v (by rw [List.getElem?_map]; exact hk)
theorem set_mid {A C : List Int} (x y : Int) : (A ++ x :: C).set A.length y = A ++ y :: C := by simp
theorem get_mid {A C : List Int} (x : Int) : (A ++ x :: C)[A.length]? = some x := by simp
def Rise (xs : List Int) : Prop := xs.Pairwise fun a b => a ≤ b
attribute [local irreducible] Fn WC WL WR OW Qt YieldFn QW
theorem isNaN_fn {x : Int} {L : List (Nat × Obj)} : Fn Try.prog 102 [iV x] L (fun v L' => v = .bool false ∧ L' = L) := by
  refine Fn_enter Try.func102 rfl Try.ntmps102 rfl fun gw => ?_
  have d : (x != x) = false := by simp
  repeat (first | ((first | refine WL_Q ?_); (first | refine QW_a ?_)) | refine WL_nil ?_ | refine WC_seq ?_ | refine WC_ret ?_ | refine WC_region ?_)
  exact ⟨rfl, _, _, Res1 rfl (resV_tmp rfl), .refl _, by rw [d], rfl⟩
theorem lessI_fn {x y : Int} {L : List (Nat × Obj)} : Fn Try.prog 92 [iV x, iV y] L (fun v L' => v = .bool (decide (x < y)) ∧ L' = L) := by
  refine Fn_enter Try.func92 rfl Try.ntmps92 rfl fun gw => ?_
  repeat (first | ((first | refine WL_Q ?_ | refine WL_Y ?_); (first | refine QW_a ?_)) | ((first | refine WL_op rfl ?_ | refine WL_yes (h := ?_)); (first | refine OW_callP rfl (hF := isNaN_fn) (hk := ?_))) | refine WL_nil ?_ | refine WL_un (h := ?_) | refine WL_N ?_ | refine WL_M ?_ | refine WC_seq ?_ | refine WC_ret ?_ | refine WC_region ?_)
  exact ⟨rfl, _, _, Res1 rfl (resV_tmp rfl), .refl _, rfl, rfl⟩
set_option maxHeartbeats 4000000 in
theorem insSort_fn {g E off cap : Nat} {cur : Array Value} {xs : List Int} (ho : OwnI cur off cap xs) (hn : xs.length ≤ 1000) {L : List (Nat × Obj)} :
    Fn Try.prog 86 [.slice (some ⟨g, off, none⟩) xs.length cap, iV 0, iV xs.length] ((g, .cells cur E (0, 0)) :: L)
      (fun v L' => v = .tuple #[] ∧ ∃ cur' ys, ys.Perm xs ∧ Rise ys ∧ OwnI cur' off cap ys ∧ L' = (g, .cells cur' E (0, 0)) :: L) := by
  refine Fn_enter Try.func86 rfl Try.ntmps86 rfl fun gw => ?_
  rcases xs with _ | ⟨x0, xs⟩
  · have d : decide (IntKind.i64.wrap (0 + 1) < ((([] : List Int).length : Nat) : Int)) = false := by decide
    repeat (first | ((first | refine WL_Q ?_); (first | refine QW_a ?_)) | refine WL_nil ?_ | refine WC_seq ?_ | refine WC_block ?_ | refine WC_cond_t (ht := ?_) | refine WC_cond_f (he := ?_) | refine WC_skip ?_ | refine WC_exit ?_ | refine WC_region (id := 0) ?_)
    refine WC_unroll 1 (WCn_s ?_)
    repeat (first | ((first | refine WL_Q ?_); (first | refine QW_a ?_)) | refine WL_nil ?_ | refine WC_seq ?_ | refine WC_block ?_ | refine WC_cond_t (ht := ?_) | refine WC_cond_f (he := ?_) | refine WC_skip ?_ | refine WC_exit ?_ | refine WC_region (id := 1) ?_)
    exact ⟨rfl, _, _, Res0 rfl, .refl _, rfl, cur, [], .refl _, .nil, ho, rfl⟩
  generalize hxs : x0 :: xs = zs at ho hn
  have h0 : 1 ≤ zs.length := by rw [← hxs]; simp
  repeat (first | ((first | refine WL_Q ?_); (first | refine QW_a ?_)) | refine WL_nil ?_ | refine WC_seq ?_ | refine WC_block ?_ | refine WC_cond_t (ht := ?_) | refine WC_cond_f (he := ?_) | refine WC_skip ?_ | refine WC_exit ?_ | refine WC_region (id := 0) ?_)
  refine WC_wk [(6, iV ((1 : Nat) : Int)), (0, .slice (some ⟨g, off, none⟩) zs.length cap), (1, iV 0), (2, iV zs.length)] ⟨rfl, rfl, rfl, rfl, trivial⟩ ?_
  refine WC_loop (fun m σ => ∃ (i : Nat) (P C : List Int) (cur : Array Value), m = zs.length - i ∧ P.length = i ∧ Rise P ∧ (P ++ C).Perm zs ∧ OwnI cur off cap (P ++ C) ∧ σ = ⟨[(6, iV i), (0, .slice (some ⟨g, off, none⟩) zs.length cap), (1, iV 0), (2, iV zs.length)], [], (g, .cells cur E (0, 0)) :: L⟩) (zs.length - 1) ⟨1, [x0], xs, cur, rfl, rfl, by simp [Rise], by rw [← hxs]; exact .refl _, by rw [← hxs] at ho; exact ho, rfl⟩ ?_
  clear ho cur hxs
  rintro m σ ⟨i, P, C, cur, rfl, hP, hrise, hperm, ho, rfl⟩
  have hlen : P.length + C.length = zs.length := by have := hperm.length_eq; simpa using this
  rcases C with _ | ⟨x, C⟩
  · have d : decide ((i : Int) < ((zs.length : Nat) : Int)) = false := decide_eq_false (by simp at hlen; omega)
    repeat (first | ((first | refine WL_Q ?_); (first | refine QW_a ?_)) | refine WL_nil ?_ | refine WC_seq ?_ | refine WC_block ?_ | refine WC_cond_t (ht := ?_) | refine WC_cond_f (he := ?_) | refine WC_skip ?_ | refine WC_exit ?_ | refine WC_region (id := 1) ?_)
    rw [List.append_nil] at hperm ho
    exact ⟨rfl, _, _, Res0 rfl, .refl _, rfl, cur, P, hperm, hrise, ho, rfl⟩
  · have hlt : i < zs.length := by simp at hlen; omega
    have d : decide ((i : Int) < ((zs.length : Nat) : Int)) = true := decide_eq_true (by omega)
    have wi : IntKind.i64.wrap ((i : Int) + 1) = ((i + 1 : Nat) : Int) := by rw [wI64 (by omega) (by omega)]; omega
    repeat (first | ((first | refine WL_Q ?_); (first | refine QW_a ?_)) | refine WL_nil ?_ | refine WC_seq ?_ | refine WC_block ?_ | refine WC_cond_t (ht := ?_) | refine WC_cond_f (he := ?_) | refine WC_skip ?_ | refine WC_exit ?_ | refine WC_region (id := 1) ?_ | refine WC_region (id := 3) ?_)
    refine WC_wk [(7, iV i), (6, iV i), (0, .slice (some ⟨g, off, none⟩) zs.length cap), (1, iV 0), (2, iV zs.length)] ⟨rfl, rfl, rfl, rfl, rfl, trivial⟩ ?_
    refine WC_loop (fun m σ => ∃ (j : Nat) (A B : List Int) (cur : Array Value), m = j ∧ A.length = j ∧ A.length + B.length = i ∧ Rise (A ++ B) ∧ (∀ b ∈ B, x < b) ∧ (A ++ x :: (B ++ C)).Perm zs ∧ OwnI cur off cap (A ++ x :: (B ++ C)) ∧ σ = ⟨[(7, iV j), (6, iV i), (0, .slice (some ⟨g, off, none⟩) zs.length cap), (1, iV 0), (2, iV zs.length)], [], (g, .cells cur E (0, 0)) :: L⟩) i ⟨i, P, [], cur, rfl, hP, by simpa using hP, by simpa using hrise, nofun, by simpa using hperm, by simpa using ho, rfl⟩ ?_
    clear ho cur hperm hrise hP hlen
    rintro m σ ⟨j, A, B, cur, rfl, hA, hAB, hrise, hB, hperm, ho, rfl⟩
    have hlen : A.length + (1 + (B.length + C.length)) = zs.length := by have := hperm.length_eq; simp at this; omega
    have hzl : (A ++ x :: (B ++ C)).length = zs.length := hperm.length_eq
    rcases List.eq_nil_or_concat A with rfl | ⟨A', a, rfl⟩
    · obtain rfl : m = 0 := by simpa using hA.symm
      have d1 : decide (((0 : Nat) : Int) > 0) = false := by decide
      repeat (first | ((first | refine WL_Q ?_ | refine WL_Y ?_ | refine WR_Q rfl ?_ | refine WR_late rfl rfl rfl (OW_Q ?_) | refine WR_Y rfl ?_); (first | refine QW_a ?_)) | ((first | refine WL_op rfl ?_ | refine WL_yes (h := ?_) | refine WR_late rfl rfl rfl ?_ | refine WR_opG rfl rfl ?_ | refine WR_opYG rfl (h := ?_)); (first | refine OW_callP rfl (hF := lessI_fn) (hk := ?_)); try refine ⟨(by first | exact fun _ h => h | exact sub_mem (by repeat (first | exact .refl _ | exact List.nil_sublist _ | exact List.sublist_append_right _ _ | exact List.Sublist.append (.refl _) (List.sublist_append_right _ _) | apply List.Sublist.cons_cons | apply List.Sublist.cons))), ?_⟩) | refine WL_nil ?_ | refine WL_un (h := ?_) | refine WL_N ?_ | refine WL_M ?_ | refine WR_nil ?_ | refine WR_un rfl (hk := ?_) | refine WR_N rfl ?_ | refine WR_M rfl ?_ | refine WC_seq ?_ | refine WC_block ?_ | refine WC_cond_t (ht := ?_) | refine WC_cond_f (he := ?_) | refine WC_skip ?_ | refine WC_exit ?_ | refine WC_draw_all (id := 4) 15 (.calm 0 <| .calm 1 <| .calm 2 <| .calm 3 <| .calm 4 <| .calm 5 <| .calm 6 <| .calm 7 <| .calm 8 <| .calm 9 <| .calm 10 <| .calm 11 <| .calm 12 <| .must 13 <| .calm 14 <| .done) mixed (by kernel_rfl) ?_ | refine WC_region (id := 2) ?_ | (refine WR_skN rfl (h := ?_)) | (refine WR_skM rfl (h := ?_)) | (refine WR_skU rfl (h := ?_)))
      rw [wi]
      refine ⟨_, _, by omega, ⟨i + 1, x :: B, C, cur, rfl, by simp at hAB ⊢; omega, ?_, by simpa using hperm, by simpa using ho, rfl⟩, ⟨rfl, rfl, rfl, rfl, trivial⟩, rfl, .refl _⟩
      exact List.pairwise_cons.2 ⟨fun b hb => Int.le_of_lt (hB b hb), by unfold Rise at hrise; simpa using hrise⟩
    · rw [List.concat_eq_append] at *
      obtain ⟨k, rfl⟩ : ∃ k, m = k + 1 := ⟨A'.length, by simpa using hA.symm⟩
      have hk : A'.length = k := by simpa using hA
      have d1 : decide (((k + 1 : Nat) : Int) > 0) = true := decide_eq_true (by omega)
      have wk : IntKind.i64.wrap (((k + 1 : Nat) : Int) - 1) = (k : Int) := by rw [wI64 (by omega) (by omega)]; omega
      have e1 : A' ++ [a] ++ x :: (B ++ C) = A' ++ a :: x :: (B ++ C) := by simp
      have j0 : (0 : Int) ≤ ((k + 1 : Nat) : Int) := by omega
      have j1 : ((k + 1 : Nat) : Int) < ((zs.length : Nat) : Int) := by simp at hlen; omega
      have j2 : (0 : Int) ≤ IntKind.i64.wrap (((k + 1 : Nat) : Int) - 1) := by rw [wk]; omega
      have j3 : IntKind.i64.wrap (((k + 1 : Nat) : Int) - 1) < ((zs.length : Nat) : Int) := by rw [wk]; simp at hlen; omega
      have c1 : cur[off + (((k + 1 : Nat) : Int)).toNat * 1]? = some (iV x) := ho.at_i (j := k + 1) (by omega) (by rw [← hA]; exact get_mid x)
      have c2 : cur[off + (IntKind.i64.wrap (((k + 1 : Nat) : Int) - 1)).toNat * 1]? = some (iV a) := ho.at_i (j := k) (by rw [wk]; omega) (by rw [e1, ← hk]; exact get_mid a)
      by_cases hxa : x < a
      · have d2 : decide (x < a) = true := decide_eq_true hxa
        have s1 : off + (((k + 1 : Nat) : Int)).toNat * 1 < cur.size := ho.lt (by rw [hzl]; omega)
        have s2 : off + (IntKind.i64.wrap (((k + 1 : Nat) : Int) - 1)).toNat * 1 < (cur.setIfInBounds (off + (((k + 1 : Nat) : Int)).toNat * 1) (iV a)).size := by rw [Array.size_setIfInBounds]; exact ho.lt (by rw [hzl, wk]; omega)
        have p1 := ho.put (i := ((k + 1 : Nat) : Int)) (j := k + 1) (by omega) a
        have p2 := p1.put (i := IntKind.i64.wrap (((k + 1 : Nat) : Int) - 1)) (j := k) (by rw [wk]; omega) x
        have e2 : ((A' ++ [a] ++ x :: (B ++ C)).set (k + 1) a).set k x = A' ++ x :: (a :: B ++ C) := by
          have q1 : (A' ++ [a] ++ x :: (B ++ C)).set (k + 1) a = A' ++ a :: a :: (B ++ C) := by rw [← hA, set_mid]; simp
          rw [q1, ← hk, set_mid]
          rfl
        rw [e2] at p2
        repeat (first | ((first | refine WL_Q ?_ | refine WL_Y ?_ | refine WR_Q rfl ?_ | refine WR_late rfl rfl rfl (OW_Q ?_) | refine WR_Y rfl ?_); (first | refine QW_a ?_)) | ((first | refine WL_op rfl ?_ | refine WL_yes (h := ?_) | refine WR_late rfl rfl rfl ?_ | refine WR_opG rfl rfl ?_ | refine WR_opYG rfl (h := ?_)); (first | refine OW_callP rfl (hF := lessI_fn) (hk := ?_)); try refine ⟨(by first | exact fun _ h => h | exact sub_mem (by repeat (first | exact .refl _ | exact List.nil_sublist _ | exact List.sublist_append_right _ _ | exact List.Sublist.append (.refl _) (List.sublist_append_right _ _) | apply List.Sublist.cons_cons | apply List.Sublist.cons))), ?_⟩) | refine WL_nil ?_ | refine WL_un (h := ?_) | refine WL_N ?_ | refine WL_M ?_ | refine WR_nil ?_ | refine WR_un rfl (hk := ?_) | refine WR_N rfl ?_ | refine WR_M rfl ?_ | refine WC_seq ?_ | refine WC_block ?_ | refine WC_cond_t (ht := ?_) | refine WC_cond_f (he := ?_) | refine WC_skip ?_ | refine WC_exit ?_ | refine WC_draw_all (id := 4) 15 (.calm 0 <| .calm 1 <| .calm 2 <| .calm 3 <| .calm 4 <| .calm 5 <| .calm 6 <| .calm 7 <| .calm 8 <| .calm 9 <| .calm 10 <| .calm 11 <| .calm 12 <| .must 13 <| .calm 14 <| .done) mixed (by kernel_rfl) ?_ | (refine WR_skN rfl (h := ?_)) | (refine WR_skM rfl (h := ?_)) | (refine WR_skU rfl (h := ?_)))
        refine WC_drawK (id := 6) [] 18 (.calm 0 <| .calm 1 <| .calm 2 <| .calm 3 <| .calm 4 <| .calm 5 <| .calm 6 <| .calm 7 <| .calm 8 <| .calm 9 <| .calm 10 <| .calm 11 <| .calm 12 <| .calm 13 <| .calm 14 <| .must 15 <| .calm 16 <| .must 17 <| .done) mixed (by kernel_rfl) (by kernel_rfl) (List.nil_sublist _) ?_; repeat (first | refine WS_d ?_ | refine WS_c rfl (QW_a ?_) | refine WS_r rfl (by kernel_rfl) (QW_a ?_) | (refine WS_m rfl rfl (OE ?_); refine ⟨(fun _ hq => nomatch hq), ?_⟩))
        repeat (first | ((first | refine WL_Q ?_); (first | refine QW_a ?_)) | refine WL_nil ?_ | refine WC_seq ?_ | refine WC_block ?_ | refine WC_cond_t (ht := ?_) | refine WC_cond_f (he := ?_) | refine WC_skip ?_ | refine WC_exit ?_ | refine WC_region (id := 5) ?_)
        rw [wk] at p2 ⊢
        refine ⟨_, _, by omega, ⟨k, A', a :: B, _, rfl, hk, by simp at hAB ⊢; omega, by simpa using hrise, ?_, ?_, p2, rfl⟩, ⟨rfl, rfl, rfl, rfl, rfl, trivial⟩, rfl, .refl _⟩
        · intro b hb
          rcases List.mem_cons.1 hb with rfl | hb
          · exact hxa
          · exact hB b hb
        · refine .trans ?_ hperm
          rw [List.append_assoc]
          exact .append_left _ (.swap ..)
      · have d2 : decide (x < a) = false := decide_eq_false hxa
        repeat (first | ((first | refine WL_Q ?_ | refine WL_Y ?_ | refine WR_Q rfl ?_ | refine WR_late rfl rfl rfl (OW_Q ?_) | refine WR_Y rfl ?_); (first | refine QW_a ?_)) | ((first | refine WL_op rfl ?_ | refine WL_yes (h := ?_) | refine WR_late rfl rfl rfl ?_ | refine WR_opG rfl rfl ?_ | refine WR_opYG rfl (h := ?_)); (first | refine OW_callP rfl (hF := lessI_fn) (hk := ?_)); try refine ⟨(by first | exact fun _ h => h | exact sub_mem (by repeat (first | exact .refl _ | exact List.nil_sublist _ | exact List.sublist_append_right _ _ | exact List.Sublist.append (.refl _) (List.sublist_append_right _ _) | apply List.Sublist.cons_cons | apply List.Sublist.cons))), ?_⟩) | refine WL_nil ?_ | refine WL_un (h := ?_) | refine WL_N ?_ | refine WL_M ?_ | refine WR_nil ?_ | refine WR_un rfl (hk := ?_) | refine WR_N rfl ?_ | refine WR_M rfl ?_ | refine WC_seq ?_ | refine WC_block ?_ | refine WC_cond_t (ht := ?_) | refine WC_cond_f (he := ?_) | refine WC_skip ?_ | refine WC_exit ?_ | refine WC_draw_all (id := 4) 15 (.calm 0 <| .calm 1 <| .calm 2 <| .calm 3 <| .calm 4 <| .calm 5 <| .calm 6 <| .calm 7 <| .calm 8 <| .calm 9 <| .calm 10 <| .calm 11 <| .calm 12 <| .must 13 <| .calm 14 <| .done) mixed (by kernel_rfl) ?_ | refine WC_region (id := 2) ?_ | (refine WR_skN rfl (h := ?_)) | (refine WR_skM rfl (h := ?_)) | (refine WR_skU rfl (h := ?_)))
        rw [wi]
        refine ⟨_, _, by omega, ⟨i + 1, A' ++ [a] ++ x :: B, C, cur, rfl, by simp at hAB ⊢; omega, ?_, by simpa using hperm, by simpa using ho, rfl⟩, ⟨rfl, rfl, rfl, rfl, trivial⟩, rfl, .refl _⟩
        have h3 := List.pairwise_append.1 hrise
        have h4 := List.pairwise_append.1 h3.1
        refine List.pairwise_append.2 ⟨h3.1, List.pairwise_cons.2 ⟨fun b hb => Int.le_of_lt (hB b hb), h3.2.1⟩, fun p hp q hq => ?_⟩
        rcases List.mem_cons.1 hq with rfl | hq
        · rcases List.mem_append.1 hp with g1 | g1
          · have := h4.2.2 p g1 a (by simp); omega
          · have : p = a := by simpa using g1
            omega
        · exact h3.2.2 p hp q hq
end Go.Proofs.Ytmdiabglbmgkkaa
namespace Go.Proofs.Ytmdiabglbmgkkaa
open Go.RowKit
attribute [local irreducible] Fn WC WL WR OW Qt YieldFn QW
theorem len64_few {n : Int} (h0 : 0 ≤ n) (hn : n ≤ 12) {L : List (Nat × Obj)} : Fn Try.prog 96 [.int .u64 n] L (fun v L' => (∃ k, v = .int .i64 k) ∧ L' = L) := by
  have hc : n = 0 ∨ n = 1 ∨ n = 2 ∨ n = 3 ∨ n = 4 ∨ n = 5 ∨ n = 6 ∨ n = 7 ∨ n = 8 ∨ n = 9 ∨ n = 10 ∨ n = 11 ∨ n = 12 := by omega
  rcases hc with rfl | rfl | rfl | rfl | rfl | rfl | rfl | rfl | rfl | rfl | rfl | rfl | rfl
  all_goals
    refine Fn_enter Try.func96 rfl Try.ntmps96 rfl fun gw => ?_
    repeat (first | ((first | refine WL_Q ?_); (first | refine QW_a ?_)) | refine WL_nil ?_ | refine WC_seq ?_ | refine WC_cond_t (ht := ?_) | refine WC_cond_f (he := ?_) | refine WC_skip ?_ | refine WC_ret ?_ | refine WC_region ?_)
    exact ⟨rfl, _, _, Res1 rfl (resV_tmp rfl), .refl _, ⟨_, rfl⟩, rfl⟩
theorem len_few {n : Int} (h0 : 0 ≤ n) (hn : n ≤ 12) {L : List (Nat × Obj)} : Fn Try.prog 85 [.int .u64 n] L (fun v L' => (∃ k, v = .int .i64 k) ∧ L' = L) := by
  refine Fn_enter Try.func85 rfl Try.ntmps85 rfl fun gw => ?_
  repeat (first | ((first | refine WL_Q ?_); (first | refine QW_a ?_)) | ((first | refine WL_op rfl ?_); (first | (refine OW_call rfl (hF := len64_few h0 hn) (hk := ?_); rintro _ _ ⟨⟨k, rfl⟩, rfl⟩))) | refine WL_nil ?_ | refine WC_seq ?_ | refine WC_cond_t (ht := ?_) | refine WC_cond_f (he := ?_) | refine WC_skip ?_ | refine WC_ret ?_ | refine WC_region (id := 0) ?_ | refine WC_region (id := 2) ?_)
  exact ⟨rfl, _, _, Res1 rfl (resV_tmp rfl), .refl _, ⟨_, rfl⟩, rfl⟩
theorem insNil_fn {L : List (Nat × Obj)} : Fn Try.prog 86 [.slice none 0 0, iV 0, iV 0] L (fun v L' => v = .tuple #[] ∧ L' = L) := by
  have d : decide (IntKind.i64.wrap (0 + 1) < 0) = false := by decide
  refine Fn_enter Try.func86 rfl Try.ntmps86 rfl fun gw => ?_
  repeat (first | ((first | refine WL_Q ?_); (first | refine QW_a ?_)) | refine WL_nil ?_ | refine WC_seq ?_ | refine WC_block ?_ | refine WC_cond_t (ht := ?_) | refine WC_cond_f (he := ?_) | refine WC_skip ?_ | refine WC_exit ?_ | refine WC_region (id := 0) ?_)
  refine WC_unroll 1 (WCn_s ?_)
  repeat (first | ((first | refine WL_Q ?_); (first | refine QW_a ?_)) | refine WL_nil ?_ | refine WC_seq ?_ | refine WC_block ?_ | refine WC_cond_t (ht := ?_) | refine WC_cond_f (he := ?_) | refine WC_skip ?_ | refine WC_exit ?_ | refine WC_region (id := 1) ?_)
  exact ⟨rfl, _, _, Res0 rfl, .refl _, rfl, rfl⟩
theorem insB_fn {v : Value} {T : List (Nat × Obj)} {xs : List Int} (hb : BufI v T xs) (hn : xs.length ≤ 1000) {L : List (Nat × Obj)} :
    Fn Try.prog 86 [v, iV 0, iV xs.length] (T ++ L) (fun r L' => ∃ T' ys, r = .tuple #[] ∧ ys.Perm xs ∧ Rise ys ∧ BufI v T' ys ∧ L' = T' ++ L) := by
  rcases id hb with ⟨h1, h2, rfl, rfl⟩ | ⟨g, off, cap, cur, rfl, rfl, ho⟩
  · have : xs = [] := List.eq_nil_of_length_eq_zero h2
    subst this
    refine (insNil_fn (L := L)).mono ?_
    rintro _ _ ⟨rfl, rfl⟩
    exact ⟨[], [], rfl, .refl _, .nil, hb, rfl⟩
  · refine (insSort_fn ho hn (L := L)).mono ?_
    rintro _ _ ⟨rfl, cur', ys, hp, hr, ho', rfl⟩
    refine ⟨[(g, .cells cur' 3 (0, 0))], ys, rfl, hp, hr, ?_, rfl⟩
    unfold BufI
    rw [← hp.length_eq]
    exact .inr ⟨g, off, cap, cur', rfl, rfl, ho'⟩
theorem pdqI_fn {v : Value} {T : List (Nat × Obj)} {xs : List Int} (hb : BufI v T xs) (hn : xs.length ≤ 12) {k : Int} {L : List (Nat × Obj)} :
    Fn Try.prog 84 [v, iV 0, iV xs.length, .int .i64 k] (T ++ L) (fun r L' => ∃ T' ys, r = .tuple #[] ∧ ys.Perm xs ∧ Rise ys ∧ BufI v T' ys ∧ L' = T' ++ L) := by
  have w : IntKind.i64.wrap (((xs.length : Nat) : Int) - 0) = ((xs.length : Nat) : Int) := by rw [wI64 (by omega) (by omega)]; omega
  have d : decide (((xs.length : Nat) : Int) ≤ 12) = true := decide_eq_true (by omega)
  refine Fn_enter Try.func84 rfl Try.ntmps84 rfl fun gw => ?_
  repeat (first | ((first | refine WL_Q ?_); (first | refine QW_a ?_)) | refine WL_nil ?_ | refine WC_seq ?_ | refine WC_block ?_ | refine WC_cond_t (ht := ?_) | refine WC_cond_f (he := ?_) | refine WC_skip ?_ | refine WC_ret ?_ | refine WC_exit ?_ | refine WC_region (id := 0) ?_ | refine WC_region (id := 1) ?_)
  refine WC_unroll 1 (WCn_s ?_)
  repeat (first | ((first | refine WL_Q ?_); (first | refine QW_a ?_)) | refine WL_nil ?_ | refine WC_seq ?_ | refine WC_block ?_ | refine WC_cond_t (ht := ?_) | refine WC_cond_f (he := ?_) | refine WC_skip ?_ | refine WC_ret ?_ | refine WC_exit ?_ | refine WC_region (id := 2) ?_)
  rw [w]
  repeat (first | ((first | refine WL_Q ?_); (first | refine QW_a ?_)) | ((first | refine WL_op rfl ?_); (first | (refine OW_call rfl (hF := insB_fn hb (by omega)) (hk := ?_); rintro _ _ ⟨T', ys, rfl, hp, hr, hb', rfl⟩))) | refine WL_nil ?_ | refine WC_seq ?_ | refine WC_block ?_ | refine WC_cond_t (ht := ?_) | refine WC_cond_f (he := ?_) | refine WC_skip ?_ | refine WC_ret ?_ | refine WC_exit ?_ | refine WC_region (id := 3) ?_ | refine WC_region (id := 4) ?_)
  exact ⟨rfl, _, _, Res0 rfl, .refl _, T', ys, rfl, hp, hr, hb', rfl⟩
theorem sortI_fn {v : Value} {T : List (Nat × Obj)} {xs : List Int} (hb : BufI v T xs) (hn : xs.length ≤ 12) {L : List (Nat × Obj)} :
    Fn Try.prog 71 [v] (T ++ L) (fun r L' => ∃ T' ys, r = .tuple #[] ∧ ys.Perm xs ∧ Rise ys ∧ BufI v T' ys ∧ L' = T' ++ L) := by
  have w : IntKind.u64.wrap ((xs.length : Nat) : Int) = ((xs.length : Nat) : Int) := by
    unfold IntKind.wrap
    simp [IntKind.signed, IntKind.bits]
    omega
  obtain ⟨a, cap, rfl, _, _⟩ := id hb.val
  refine Fn_enter Try.func71 rfl Try.ntmps71 rfl fun gw => ?_
  repeat (first | ((first | refine WL_Q ?_); (first | refine QW_a ?_)) | ((first | refine WL_op rfl ?_); (first | (refine OW_call rfl (hF := pdqI_fn hb hn) (hk := ?_); rintro _ _ ⟨T', ys, rfl, hp, hr, hb', rfl⟩) | (refine OW_call rfl (hF := len_few (by omega) (by omega)) (hk := ?_); rintro _ _ ⟨⟨k, rfl⟩, rfl⟩))) | refine WL_nil ?_ | refine WC_seq ?_ | refine WC_region ?_)
  rw [w]
  repeat (first | ((first | refine WL_Q ?_); (first | refine QW_a ?_)) | ((first | refine WL_op rfl ?_); (first | (refine OW_call rfl (hF := pdqI_fn hb hn) (hk := ?_); rintro _ _ ⟨T', ys, rfl, hp, hr, hb', rfl⟩) | (refine OW_call rfl (hF := len_few (by omega) (by omega)) (hk := ?_); rintro _ _ ⟨⟨k, rfl⟩, rfl⟩))) | refine WL_nil ?_ | refine WC_seq ?_ | refine WC_region (id := 1) ?_)
  exact ⟨rfl, _, _, Res0 rfl, .refl _, T', ys, rfl, hp, hr, hb', rfl⟩
end Go.Proofs.Ytmdiabglbmgkkaa
namespace Go.Proofs.Ytmdiabglbmgkkaa
open Go.RowKit
def SeqI (fv : Value) (S0 S : List (Nat × Obj)) (Out : List Int → Prop) : Prop := ∃ gf A B, fv = .func (.func gf) A B ∧ FCall Try.prog gf ∧ ∀ (l : Nat) (J : List Int → List (Nat × Obj) → Prop) (Jx : List (Nat × Obj) → Prop),
  (∀ L, J [] L → ∀ q ∈ S0, ∃ i : Nat, L[i]? = some q) → (∀ pre L, J pre L → ∀ q ∈ S, ∃ i : Nat, L[i]? = some q) →
  (∀ X pre y L, (∃ post, Out (pre ++ y :: post)) → J pre L → YieldFn Try.prog l [iV y] (L ++ X) (fun v L2 => (v = .bool true ∧ ∃ L3, L2 = L3 ++ X ∧ J (pre ++ [y]) L3) ∨ (v = .bool false ∧ Jx L2))) →
  ∀ L0, J [] L0 → Fn Try.prog gf (A.toList ++ [.func (.yield l) #[] #[]] ++ B.toList) L0 (fun _ L2 => (∃ xs, Out xs ∧ J xs L2) ∨ Jx L2)
theorem YieldFn.mono {P : Program} {l : Nat} {args : List Value} {L : List (Nat × Obj)} {R R' : Value → List (Nat × Obj) → Prop} (h : YieldFn P l args L R) (hr : ∀ v L', R v L' → R' v L') : YieldFn P l args L R' := fun g w n hm => by
  obtain ⟨fn, tmps, assign, body, h1, h2⟩ := h g w n hm
  exact ⟨fn, tmps, assign, body, h1, h2.mono fun e w' ⟨v, L', h3, h4, h5⟩ => ⟨v, L', h3, h4, hr v L' h5⟩⟩
theorem WL_permA {c : Cx} {ops : Array Oper} {l : List Oper} {K : Exit → St → Prop} {s : List (Nat × Value)} {D : List Deferred} {L L' : List (Nat × Obj)} (hp : L'.Perm L) (h : WL c ops l K ⟨s, D, L'⟩) : WL c ops l K ⟨s, D, L⟩ := fun a w ha => h a w (ha.mem' (ha.mem.perm hp))
theorem WC_permA {c : Cx} {code : Code} {K : Exit → St → Prop} {s : List (Nat × Value)} {D : List Deferred} {L L' : List (Nat × Obj)} (hp : L'.Perm L) (h : WC c code K ⟨s, D, L'⟩) : WC c code K ⟨s, D, L⟩ := fun a w ha => h a w (ha.mem' (ha.mem.perm hp))
theorem get_last {L : List (Nat × Obj)} {x : Nat × Obj} : (L ++ [x])[L.length]? = some x := by simp
theorem get_left {L X : List (Nat × Obj)} {i : Nat} {q : Nat × Obj} (h : L[i]? = some q) : (L ++ X)[i]? = some q := by
  rw [List.getElem?_append_left (List.getElem?_eq_some_iff.1 h).1]; exact h
theorem set_last {L : List (Nat × Obj)} {x y : Nat × Obj} : (L ++ [x]).set L.length y = L ++ [y] := by simp
attribute [local irreducible] Fn WC WL WR OW Qt YieldFn QW
abbrev keysBox (kb mb : Nat) : Nat × Obj := (kb, .cells #[.map (some mb)] 66 (0, 0))
theorem keys_fn {mb : Nat} {L : List (Nat × Obj)} : Fn Try.prog 60 [.map (some mb)] L (fun v L' => ∃ kb, v = .func (.func 72) #[] #[fP kb] ∧ L' = keysBox kb mb :: L) := by
  refine Fn_enter Try.func60 rfl Try.ntmps60 rfl fun gw => ?_
  repeat (first | ((first | refine WL_Q ?_); (first | refine QW_a ?_ | refine QW_of (Qt_entry rfl hiE hmE hmap hlast) ?_)) | ((first | refine WL_op rfl ?_); (first | refine OW_box rfl (hk := fun _ => ?_))) | refine WL_nil ?_ | refine WC_seq ?_ | refine WC_ret ?_ | refine WC_region ?_)
  exact ⟨rfl, _, _, Res1 rfl (resV_tmp rfl), .refl _, _, rfl, rfl⟩
set_option maxHeartbeats 4000000 in
theorem keys_ok {kb mb cl : Nat} {es : Array MapEntry} {ps : List (Int × Value)} (hmap : MapI .i64 es cl ps) : SeqI (.func (.func 72) #[] #[fP kb]) [] [keysBox kb mb, (mb, .map es cl)] (fun xs => xs.Perm (ps.map Prod.fst)) := by
  refine ⟨_, _, _, rfl, inferInstance, fun l J Jx _ hS hY L0 h0 => ?_⟩
  refine Fn_enter Try.func72 rfl Try.ntmps72 rfl fun gw => ?_
  obtain ⟨i1, hi1⟩ := hS [] L0 h0 (keysBox kb mb) (by simp)
  obtain ⟨i2, hi2⟩ := hS [] L0 h0 (mb, .map es cl) (by simp)
  repeat (first | ((first | refine WL_Q ?_); (first | refine QW_a ?_ | refine QW_of (Qt_entry rfl hiE hmE hmap hlast) ?_)) | refine WL_nil ?_ | refine WC_seq ?_ | refine WC_block ?_ | refine WC_cond_t (ht := ?_) | refine WC_cond_f (he := ?_) | refine WC_skip ?_ | refine WC_ret ?_ | refine WC_exit ?_ | refine WC_region (id := 0) ?_)
  refine WL_op rfl (OW_rangeMap rfl rfl hi2 hmap ?_)
  intro it hit
  refine WL_permA (L' := L0 ++ [(it, .mapIter (some mb) cl #[] cl)]) List.perm_append_comm ?_
  repeat (first | ((first | refine WL_Q ?_); (first | refine QW_a ?_ | refine QW_of (Qt_entry rfl hiE hmE hmap hlast) ?_)) | refine WL_nil ?_ | refine WC_seq ?_ | refine WC_block ?_ | refine WC_cond_t (ht := ?_) | refine WC_cond_f (he := ?_) | refine WC_skip ?_ | refine WC_ret ?_ | refine WC_exit ?_ | refine WC_region (id := 0) ?_)
  refine WC_wk [(5, fP it), (0, .func (.yield l) #[] #[])] ⟨rfl, rfl, trivial⟩ ?_
  refine WC_loop (fun m σ => ∃ (pre : List Int) (todo : List (Int × Value)) (seen : Array Nat) (L : List (Nat × Obj)), m = todo.length ∧ IterI .i64 es seen todo ∧ (pre ++ todo.map Prod.fst).Perm (ps.map Prod.fst) ∧ J pre L ∧ σ = ⟨[(5, fP it), (0, .func (.yield l) #[] #[])], [], L ++ [(it, .mapIter (some mb) cl seen cl)]⟩) ps.length ⟨[], ps, #[], L0, rfl, hit, .refl _, h0, rfl⟩ ?_
  rintro m σ ⟨pre, todo, seen, L, rfl, hit, hperm, hJ, rfl⟩
  obtain ⟨j2, hj2⟩ := hS pre L hJ (mb, .map es cl) (by simp)
  repeat (first | ((first | refine WL_Q ?_); (first | refine QW_a ?_ | refine QW_of (Qt_entry rfl hiE hmE hmap hlast) ?_)) | refine WL_nil ?_ | refine WC_seq ?_ | refine WC_block ?_ | refine WC_cond_t (ht := ?_) | refine WC_cond_f (he := ?_) | refine WC_skip ?_ | refine WC_ret ?_ | refine WC_exit ?_ | refine WC_region (id := 1) ?_)
  refine WL_op rfl (OW_nextMap rfl rfl get_last (get_left hj2) hmap hit ?_ ?_)
  · rintro rfl
    repeat (first | ((first | refine WL_Q ?_); (first | refine QW_a ?_ | refine QW_of (Qt_entry rfl hiE hmE hmap hlast) ?_)) | refine WL_nil ?_ | refine WC_seq ?_ | refine WC_block ?_ | refine WC_cond_t (ht := ?_) | refine WC_cond_f (he := ?_) | refine WC_skip ?_ | refine WC_ret ?_ | refine WC_exit ?_ | refine WC_region (id := 1) ?_)
    exact ⟨rfl, _, L, Res0 rfl, List.sublist_append_left _ _, .inl ⟨pre, by simpa using hperm, hJ⟩⟩
  · rintro A n v B seen' rfl hit' hlast
    rw [set_last]
    have hmE : (L ++ [(it, Obj.mapIter (some mb) cl seen' cl)])[j2]? = some (mb, .map es cl) := get_left hj2
    have hiE : (L ++ [(it, Obj.mapIter (some mb) cl seen' cl)])[L.length]? = some (it, .mapIter (some mb) cl seen' cl) := get_last
    have hperm' : ((pre ++ [n]) ++ (A ++ B).map Prod.fst).Perm (ps.map Prod.fst) := by
      refine .trans ?_ hperm
      rw [List.append_assoc]
      refine .append_left _ ?_
      rw [List.map_append, List.map_append, List.map_cons]
      exact (List.perm_middle (l₁ := A.map Prod.fst)).symm
    have hYf := hY [(it, .mapIter (some mb) cl seen' cl)] pre n L ⟨(A ++ B).map Prod.fst, by simpa using hperm'⟩ hJ
    repeat (first | ((first | refine WL_Q ?_); (first | refine QW_a ?_ | refine QW_of (Qt_entry rfl hiE hmE hmap hlast) ?_)) | refine WL_nil ?_ | refine WC_seq ?_ | refine WC_block ?_ | refine WC_cond_t (ht := ?_) | refine WC_cond_f (he := ?_) | refine WC_skip ?_ | refine WC_ret ?_ | refine WC_exit ?_ | refine WC_region (id := 1) ?_ | refine WC_region (id := 2) ?_ | refine WC_region (id := 3) ?_)
    refine WL_op rfl (OW_yield rfl rfl rfl rfl rfl hYf ?_)
    rintro v L2 (⟨rfl, L3, rfl, hJ3⟩ | ⟨rfl, hJx⟩)
    · repeat (first | ((first | refine WL_Q ?_); (first | refine QW_a ?_ | refine QW_of (Qt_entry rfl hiE hmE hmap hlast) ?_)) | refine WL_nil ?_ | refine WC_seq ?_ | refine WC_block ?_ | refine WC_cond_t (ht := ?_) | refine WC_cond_f (he := ?_) | refine WC_skip ?_ | refine WC_ret ?_ | refine WC_exit ?_ | refine WC_region (id := 3) ?_)
      exact ⟨_, _, by simp, ⟨pre ++ [n], A ++ B, seen', L3, rfl, hit', hperm', hJ3, rfl⟩, ⟨rfl, rfl, trivial⟩, rfl, .refl _⟩
    · repeat (first | ((first | refine WL_Q ?_); (first | refine QW_a ?_ | refine QW_of (Qt_entry rfl hiE hmE hmap hlast) ?_)) | refine WL_nil ?_ | refine WC_seq ?_ | refine WC_block ?_ | refine WC_cond_t (ht := ?_) | refine WC_cond_f (he := ?_) | refine WC_skip ?_ | refine WC_ret ?_ | refine WC_exit ?_ | refine WC_region (id := 3) ?_)
      exact ⟨rfl, _, _, Res0 rfl, .refl _, .inr hJx⟩
set_option maxHeartbeats 2000000 in
theorem appendSeqI_fn {fv : Value} {S0 S : List (Nat × Obj)} {Out : List Int → Prop} (hS : SeqI fv S0 S Out) (hn : ∀ xs, Out xs → xs.length ≤ 1000) (hex : ∃ xs, Out xs) {F : List (Nat × Obj)} (hF0 : ∀ q ∈ S0, ∃ i : Nat, F[i]? = some q) (hF : ∀ q ∈ S, ∃ i : Nat, F[i]? = some q) :
    Fn Try.prog 57 [.slice none 0 0, fv] F (fun v L' => ∃ xs T, Out xs ∧ BufI v T xs ∧ L' = T ++ F) := by
  obtain ⟨gf, A, B, rfl, hfc, hseq⟩ := hS
  refine Fn_enterM Try.func57 rfl Try.ntmps57 rfl fun gw => ?_
  repeat (first | ((first | refine WL_Q ?_); (first | refine QW_a ?_ | refine QW_of (Qt_entry rfl hiE hmE hmap hlast) ?_)) | ((first | refine WL_op rfl ?_); (first | refine OW_box rfl (hk := fun _ => ?_))) | refine WL_nil ?_ | refine WC_seq ?_ | refine WC_block ?_ | refine WC_ret ?_ | refine WC_region (id := 0) ?_ | refine WC_region (id := 1) ?_)
  rename_i x2
  refine WC_wk [(6, .func (.func gf) A B), (2, .pointer (some ⟨x2, 0, none⟩))] ⟨rfl, rfl, trivial⟩ ?_
  refine WC_rangeX rfl (fun m : Int => [iV m]) (fun _ => rfl) rfl (fun pre y => ∃ post, Out (pre ++ y :: post)) Out
    (fun pre L' => (∃ post, Out (pre ++ post)) ∧ ∃ v T, BufI v T pre ∧ L' = (x2, .cells #[v] 34 (0, 0)) :: (T ++ F))
    (fun _ _ => False) ?_ ?_ ?_ ?_
  · intro l d o1 o2 Jx hr
    obtain ⟨xs0, hxs0⟩ := hex
    refine (hseq l (fun pre L1 => ∃ L', L1 = (l, o1) :: (d, o2) :: L' ∧ (∃ post, Out (pre ++ post)) ∧ ∃ v T, BufI v T pre ∧ L' = (x2, .cells #[v] 34 (0, 0)) :: (T ++ F)) Jx ?_ ?_ ?_ _ ?_).mono ?_
    · rintro L ⟨L', rfl, _, v, T, _, rfl⟩ q hq
      obtain ⟨i, hi⟩ := hF0 q hq
      exact ⟨i + T.length + 3, by
        show (T ++ F)[i + T.length]? = _
        rw [List.getElem?_append_right (by omega), Nat.add_sub_cancel]; exact hi⟩
    · rintro pre L ⟨L', rfl, _, v, T, _, rfl⟩ q hq
      obtain ⟨i, hi⟩ := hF q hq
      exact ⟨i + T.length + 3, by
        show (T ++ F)[i + T.length]? = _
        rw [List.getElem?_append_right (by omega), Nat.add_sub_cancel]; exact hi⟩
    · rintro X pre y L hd ⟨L', rfl, hI⟩
      refine (hr X pre y L' hd hI).mono ?_
      rintro v L2 (⟨h1, L3, rfl, h3⟩ | h)
      · exact .inl ⟨h1, _, rfl, L3, rfl, h3⟩
      · exact .inr h
    · exact ⟨_, rfl, ⟨xs0, hxs0⟩, _, [], Buf.nil _ _, rfl⟩
    · rintro v L2 (⟨xs, hxs, L', h1, h2⟩ | h)
      · exact .inl ⟨xs, L', hxs, h1, h2⟩
      · exact .inr h
  · rintro X g' n' l d pre y L' ⟨post, hdom⟩ ⟨_, v, T, hb, rfl⟩ ol od hol
    have hlen := hn _ hdom
    rw [List.length_append] at hlen
    have hyc : v.oneCell' = true := by obtain ⟨_, _, rfl, _⟩ := hb.val; rfl
    repeat (first | ((first | refine WL_Q ?_); (first | refine QW_a ?_ | refine QW_of (Qt_entry rfl hiE hmE hmap hlast) ?_)) | refine WL_nil ?_ | refine WC_seq ?_ | refine WC_block ?_ | refine WC_ret ?_ | refine WC_region (id := 2) ?_)
    rename_i x5
    refine ⟨rfl, _, [], _, rfl, fun ol' hol' => ?_⟩
    simp only [List.nil_append, List.cons_append, List.append_assoc]
    repeat (first | ((first | refine WL_Q ?_); (first | refine QW_a ?_ | refine QW_of (Qt_entry rfl hiE hmE hmap hlast) ?_)) | ((first | refine WL_op rfl ?_); (first | refine OW_build1 rfl (hk := fun _ => ?_) | refine OW_st1 rfl ?_)) | refine WL_nil ?_ | refine WC_seq ?_ | refine WC_block ?_ | refine WC_ret ?_ | refine WC_region (id := 3) ?_)
    refine WL_op rfl (OW_append_buf (A := [_, (l, ol'), (d, od), (x2, _)]) (T := T) (B := F ++ X) rfl rfl rfl rfl rfl hb (src1 0 rfl) (by decide) (by simp only [maxLen]; omega) (by omega) ?_)
    intro v' T' hb'
    have hb2 : BufI v' T' (pre ++ [y]) := by
      unfold BufI
      rw [List.map_append, List.length_append]
      exact hb'
    obtain ⟨ag, cap, rfl, _, _⟩ := hb'.val
    simp only [List.cons_append, List.nil_append]
    repeat (first | ((first | refine WL_Q ?_); (first | refine QW_a ?_ | refine QW_of (Qt_entry rfl hiE hmE hmap hlast) ?_)) | ((first | refine WL_op rfl ?_); (first | refine OW_build1 rfl (hk := fun _ => ?_) | refine OW_st1 rfl ?_)) | refine WL_nil ?_ | refine WC_seq ?_ | refine WC_block ?_ | refine WC_ret ?_ | refine WC_region (id := 3) ?_)
    refine ⟨(x2, .cells #[_] 34 (0, 0)) :: (T' ++ (F ++ X)), .cons _ (.refl _), (x2, .cells #[_] 34 (0, 0)) :: (T' ++ F), by simp, ⟨post, by simpa using hdom⟩, _, T', hb2, rfl⟩
  · rintro d xs L' hout ⟨_, v, T, hb, rfl⟩
    have hyc : v.oneCell' = true := by obtain ⟨_, _, rfl, _⟩ := hb.val; rfl
    repeat (first | ((first | refine WL_Q ?_); (first | refine QW_a ?_ | refine QW_of (Qt_entry rfl hiE hmE hmap hlast) ?_)) | refine WL_nil ?_ | refine WC_seq ?_ | refine WC_block ?_ | refine WC_ret ?_ | refine WC_region (id := 4) ?_)
    exact ⟨_, ⟨d, 0, _, rfl, rfl, rfl, rfl⟩, _, _, Res1 rfl (resV_tmp rfl), .cons _ (.cons _ (.refl _)), xs, T, hout, hb, rfl⟩
  · intro _ _ _ h
    exact h.elim
theorem collectI_fn {fv : Value} {S0 S : List (Nat × Obj)} {Out : List Int → Prop} (hS : SeqI fv S0 S Out) (hn : ∀ xs, Out xs → xs.length ≤ 1000) (hex : ∃ xs, Out xs) {F : List (Nat × Obj)} (hF0 : ∀ q ∈ S0, ∃ i : Nat, F[i]? = some q) (hF : ∀ q ∈ S, ∃ i : Nat, F[i]? = some q) :
    Fn Try.prog 34 [fv] F (fun v L' => ∃ xs T, Out xs ∧ BufI v T xs ∧ L' = T ++ F) := by
  refine Fn_enter Try.func34 rfl Try.ntmps34 rfl fun gw => ?_
  repeat (first | ((first | refine WL_Q ?_); (first | refine QW_a ?_ | refine QW_of (Qt_entry rfl hiE hmE hmap hlast) ?_)) | ((first | refine WL_op rfl ?_); (first | (refine OW_call rfl (hF := appendSeqI_fn hS hn hex hF0 hF) (hk := ?_); rintro v _ ⟨xs, T, hout, hb, rfl⟩))) | refine WL_nil ?_ | refine WC_seq ?_ | refine WC_ret ?_ | refine WC_region ?_)
  exact ⟨rfl, _, _, Res1 rfl (resV_tmp rfl), .refl _, xs, T, hout, hb, rfl⟩
theorem sortedI_fn {fv : Value} {S0 S : List (Nat × Obj)} {Out : List Int → Prop} (hS : SeqI fv S0 S Out) (hn : ∀ xs, Out xs → xs.length ≤ 12) (hex : ∃ xs, Out xs) {F : List (Nat × Obj)} (hF0 : ∀ q ∈ S0, ∃ i : Nat, F[i]? = some q) (hF : ∀ q ∈ S, ∃ i : Nat, F[i]? = some q) :
    Fn Try.prog 59 [fv] F (fun v L' => ∃ xs ys T, Out xs ∧ ys.Perm xs ∧ Rise ys ∧ BufI v T ys ∧ L' = T ++ F) := by
  refine Fn_enter Try.func59 rfl Try.ntmps59 rfl fun gw => ?_
  repeat (first | ((first | refine WL_Q ?_); (first | refine QW_a ?_ | refine QW_of (Qt_entry rfl hiE hmE hmap hlast) ?_)) | ((first | refine WL_op rfl ?_); (first | (refine OW_call rfl (hF := collectI_fn hS (fun xs h => Nat.le_trans (hn xs h) (by decide)) hex hF0 hF) (hk := ?_); rintro v _ ⟨xs, T, hout, hb, rfl⟩) | (refine OW_call rfl (hF := sortI_fn hb (hn _ hout)) (hk := ?_); rintro _ _ ⟨T', ys, rfl, hp, hr, hb', rfl⟩))) | refine WL_nil ?_ | refine WC_seq ?_ | refine WC_ret ?_ | refine WC_region ?_)
  exact ⟨rfl, _, _, Res1 rfl (resV_tmp rfl), .refl _, xs, ys, T', hout, hp, hr, hb', rfl⟩
end Go.Proofs.Ytmdiabglbmgkkaa
namespace Go.Proofs.Ytmdiabglbmgkkaa
open Go.RowKit
theorem nodup_few : ∀ (k : Nat) (xs : List Int), xs.Nodup → (∀ x ∈ xs, 0 ≤ x ∧ x < k) → xs.length ≤ k
  | 0, [], _, _ => Nat.le_refl _
  | 0, x :: xs, _, h => by have := h x (List.mem_cons_self ..); omega
  | k + 1, xs, hn, h => by
    by_cases hk : (k : Int) ∈ xs
    · obtain ⟨A, B, rfl⟩ := List.append_of_mem hk
      have hn' := List.perm_middle.nodup_iff.1 hn
      obtain ⟨h1, h2⟩ := List.nodup_cons.1 hn'
      have ih := nodup_few k (A ++ B) h2 (fun x hx => by
        have hx' := h x (by rcases List.mem_append.1 hx with g | g <;> simp [g])
        have : x ≠ k := fun e => h1 (e ▸ hx)
        omega)
      simp at ih ⊢
      omega
    · have ih := nodup_few k xs hn (fun x hx => by
        have hx' := h x hx
        have : x ≠ k := fun e => hk (e ▸ hx)
        omega)
      omega
attribute [local irreducible] Fn WC WL WR OW Qt YieldFn QW
abbrev sBox (xb sb : Nat) : Nat × Obj := (xb, .cells #[fP sb] 24 (0, 0))
theorem numbers_fn {sb : Nat} {L : List (Nat × Obj)} : Fn Try.prog 35 [fP sb] L (fun v L' => ∃ xb, v = .func (.func 58) #[] #[fP xb] ∧ L' = sBox xb sb :: L) := by
  refine Fn_enter Try.func35 rfl Try.ntmps35 rfl fun gw => ?_
  repeat (first | ((first | refine WL_Q ?_); (first | refine QW_a ?_)) | ((first | refine WL_op rfl ?_); (first | refine OW_box rfl (hk := fun _ => ?_))) | refine WL_nil ?_ | refine WC_seq ?_ | refine WC_ret ?_ | refine WC_region ?_)
  exact ⟨rfl, _, _, Res1 rfl (resV_tmp rfl), .refl _, _, rfl, rfl⟩
def KeysOut (ps : List (Int × Value)) (xs : List Int) : Prop := xs.Perm (ps.map Prod.fst) ∧ Rise xs
set_option maxHeartbeats 4000000 in
theorem numbers_ok {xb sb mb cl : Nat} {es : Array MapEntry} {ps : List (Int × Value)} (hmap : MapI .i64 es cl ps) (hn : ps.length ≤ 12) : SeqI (.func (.func 58) #[] #[fP xb]) [sBox xb sb, sO sb mb, (mb, .map es cl)] [] (KeysOut ps) := by
  refine ⟨_, _, _, rfl, inferInstance, fun l J Jx h0S _ hY L0 h0 => ?_⟩
  refine Fn_enter Try.func58 rfl Try.ntmps58 rfl fun gw => ?_
  obtain ⟨i1, hi1⟩ := h0S L0 h0 (sBox xb sb) (by simp)
  obtain ⟨i2, hi2⟩ := h0S L0 h0 (sO sb mb) (by simp)
  obtain ⟨i3, hi3⟩ := h0S L0 h0 (mb, .map es cl) (by simp)
  have hK : ∀ xs : List Int, xs.Perm (ps.map Prod.fst) → xs.length ≤ 12 := fun xs h => by rw [h.length_eq, List.length_map]; exact hn
  have hKS : ∀ kb, ∀ q ∈ [keysBox kb mb, (mb, Obj.map es cl)], ∃ i : Nat, (keysBox kb mb :: L0)[i]? = some q := fun kb q hq => by
    rcases List.mem_cons.1 hq with rfl | hq
    · exact ⟨0, rfl⟩
    · obtain rfl : q = _ := by simpa using hq
      exact ⟨i3 + 1, hi3⟩
  repeat (first | ((first | refine WL_Q ?_); (first | refine QW_a ?_)) | ((first | refine WL_op rfl ?_); (first | (refine OW_call rfl (hF := keys_fn) (hk := ?_); rintro _ _ ⟨kb, rfl, rfl⟩) | (refine OW_call rfl (hF := sortedI_fn (keys_ok (kb := kb) hmap) hK ⟨_, .refl _⟩ (by intro q hq; cases hq) (hKS kb)) (hk := ?_); rintro v _ ⟨xs, ys, T, hout, hp, hr, hb, rfl⟩))) | refine WL_nil ?_ | refine WC_seq ?_ | refine WC_block ?_ | refine WC_cond_t (ht := ?_) | refine WC_cond_f (he := ?_) | refine WC_skip ?_ | refine WC_ret ?_ | refine WC_exit ?_ | refine WC_region (id := 0) ?_ | refine WC_region (id := 1) ?_)
  have hO : KeysOut ps ys := ⟨hp.trans hout, hr⟩
  have hyl : ys.length ≤ 12 := hK ys hO.1
  obtain ⟨va, cap, rfl, _, _⟩ := id hb.val
  refine WL_permA (L' := keysBox kb mb :: (L0 ++ T)) (.trans (.cons _ List.perm_append_comm) (List.perm_middle (l₁ := T)).symm) ?_
  repeat (first | ((first | refine WL_Q ?_); (first | refine QW_a ?_)) | ((first | refine WL_op rfl ?_); (first | (refine OW_call rfl (hF := keys_fn) (hk := ?_); rintro _ _ ⟨kb, rfl, rfl⟩) | (refine OW_call rfl (hF := sortedI_fn (keys_ok (kb := kb) hmap) hK ⟨_, .refl _⟩ (by intro q hq; cases hq) (hKS kb)) (hk := ?_); rintro v _ ⟨xs, ys, T, hout, hp, hr, hb, rfl⟩))) | refine WL_nil ?_ | refine WC_seq ?_ | refine WC_block ?_ | refine WC_cond_t (ht := ?_) | refine WC_cond_f (he := ?_) | refine WC_skip ?_ | refine WC_ret ?_ | refine WC_exit ?_ | refine WC_region (id := 1) ?_)
  refine WC_wk [(14, .int .i64 ((0 : Nat) : Int)), (13, .int .i64 (ys.length : Nat)), (12, .slice va ys.length cap), (0, .func (.yield l) #[] #[])] ⟨rfl, rfl, rfl, rfl, trivial⟩ ?_
  refine WC_dropL (L0 ++ T) (.cons _ (.refl _)) ?_
  refine WC_loop (fun m σ => ∃ (i : Nat) (L : List (Nat × Obj)), m = ys.length - i ∧ i ≤ ys.length ∧ J (ys.take i) L ∧ σ = ⟨[(14, .int .i64 i), (13, .int .i64 (ys.length : Nat)), (12, .slice va ys.length cap), (0, .func (.yield l) #[] #[])], [], L ++ T⟩) ys.length ⟨0, L0, by omega, by omega, h0, rfl⟩ ?_
  rintro m σ ⟨i, L, rfl, hi, hJ, rfl⟩
  by_cases hlt : i < ys.length
  · have d2 : decide ((i : Int) < ((ys.length : Nat) : Int)) = true := decide_eq_true (by omega)
    obtain ⟨y, hy⟩ : ∃ y, ys[i]? = some y := ⟨_, List.getElem?_eq_getElem hlt⟩
    have p0 : (0 : Int) ≤ (i : Int) := by omega
    have p1 : ((i : Nat) : Int) < ((ys.length : Nat) : Int) := by omega
    have w : IntKind.i64.wrap ((i : Int) + 1) = ((i + 1 : Nat) : Int) := by rw [wI64 (by omega) (by omega)]; omega
    have htk : ys.take (i + 1) = ys.take i ++ [y] := by rw [List.take_add_one, hy]; rfl
    have hsplit : ys = ys.take i ++ y :: ys.drop (i + 1) := by
      obtain ⟨h1, h2⟩ := List.getElem?_eq_some_iff.1 hy
      rw [← h2, List.getElem_cons_drop, List.take_append_drop]
    rcases hb with ⟨h1, h2, _⟩ | ⟨g, off, cap', cur, e, rfl, ho⟩
    · omega
    · simp only [Value.slice.injEq] at e
      obtain ⟨rfl, _, rfl⟩ := e
      have hTi : (L ++ [(g, Obj.cells cur 3 (0, 0))])[L.length]? = some (g, .cells cur 3 (0, 0)) := get_last
      have c1 : cur[off + ((i : Nat) : Int).toNat * 1]? = some (iV y) := OwnI.at_i ho (Int.toNat_natCast i) hy
      have hYf := hY [(g, .cells cur 3 (0, 0))] (ys.take i) y L ⟨ys.drop (i + 1), by rw [← hsplit]; exact hO⟩ hJ
      repeat (first | ((first | refine WL_Q ?_); (first | refine QW_a ?_)) | refine WL_nil ?_ | refine WC_seq ?_ | refine WC_block ?_ | refine WC_cond_t (ht := ?_) | refine WC_cond_f (he := ?_) | refine WC_skip ?_ | refine WC_ret ?_ | refine WC_exit ?_ | refine WC_region (id := 2) ?_ | refine WC_region (id := 3) ?_ | refine WC_region (id := 4) ?_)
      refine WL_op rfl (OW_yield rfl rfl rfl rfl rfl hYf ?_)
      rintro v L2 (⟨rfl, L3, rfl, hJ3⟩ | ⟨rfl, hJx⟩)
      · repeat (first | ((first | refine WL_Q ?_); (first | refine QW_a ?_)) | refine WL_nil ?_ | refine WC_seq ?_ | refine WC_block ?_ | refine WC_cond_t (ht := ?_) | refine WC_cond_f (he := ?_) | refine WC_skip ?_ | refine WC_ret ?_ | refine WC_exit ?_ | refine WC_region (id := 4) ?_ | refine WC_region (id := 5) ?_)
        rw [w]
        exact ⟨_, _, by omega, ⟨i + 1, L3, rfl, by omega, by rw [htk]; exact hJ3, rfl⟩, ⟨rfl, rfl, rfl, rfl, trivial⟩, rfl, .refl _⟩
      · repeat (first | ((first | refine WL_Q ?_); (first | refine QW_a ?_)) | refine WL_nil ?_ | refine WC_seq ?_ | refine WC_block ?_ | refine WC_cond_t (ht := ?_) | refine WC_cond_f (he := ?_) | refine WC_skip ?_ | refine WC_ret ?_ | refine WC_exit ?_ | refine WC_region (id := 4) ?_)
        exact ⟨rfl, _, _, Res0 rfl, .refl _, .inr hJx⟩
  · obtain rfl : i = ys.length := by omega
    have d2 : decide (((ys.length : Nat) : Int) < ((ys.length : Nat) : Int)) = false := decide_eq_false (by omega)
    rw [List.take_length] at hJ
    repeat (first | ((first | refine WL_Q ?_); (first | refine QW_a ?_)) | refine WL_nil ?_ | refine WC_seq ?_ | refine WC_block ?_ | refine WC_cond_t (ht := ?_) | refine WC_cond_f (he := ?_) | refine WC_skip ?_ | refine WC_ret ?_ | refine WC_exit ?_ | refine WC_region (id := 2) ?_)
    exact ⟨rfl, _, L, Res0 rfl, List.sublist_append_left _ _, .inl ⟨ys, hO, hJ⟩⟩
end Go.Proofs.Ytmdiabglbmgkkaa
namespace Go.Proofs.Ytmdiabglbmgkkaa
open Go.RowKit
def crash1 (st : FG × List UInt8) (n : Int) : FG × List UInt8 :=
  match st.2 with
  | [] => (upG st.1 n ((st.1 n).1.take (st.1 n).2, (st.1 n).2), [])
  | c :: ch => if (st.1 n).2 < (st.1 n).1.length then (upG st.1 n ((st.1 n).1.take ((st.1 n).2 + c.toNat % ((st.1 n).1.length - (st.1 n).2 + 1)), (st.1 n).2 + c.toNat % ((st.1 n).1.length - (st.1 n).2 + 1)), ch) else (upG st.1 n ((st.1 n).1.take (st.1 n).2, (st.1 n).2), c :: ch)
def crashes (xs : List Int) (g : FG) (ch : List UInt8) : FG × List UInt8 := xs.foldl crash1 (g, ch)
theorem crash1_keep (st : FG × List UInt8) (n m : Int) (h : m ≠ n) : (crash1 st n).1 m = st.1 m := by
  unfold crash1
  split
  · simp [upG, h]
  · split <;> simp [upG, h]
theorem crashes_keep : ∀ (xs : List Int) (g : FG) (ch : List UInt8) (m : Int), m ∉ xs → (crashes xs g ch).1 m = g m
  | [], _, _, _, _ => rfl
  | x :: xs, g, ch, m, h => by
    simp only [List.mem_cons, not_or] at h
    show ((xs.foldl crash1 (crash1 (g, ch) x))).1 m = g m
    have := crashes_keep xs (crash1 (g, ch) x).1 (crash1 (g, ch) x).2 m h.2
    unfold crashes at this
    rw [this, crash1_keep _ _ _ h.1]
theorem crashes_snoc (xs : List Int) (y : Int) (g : FG) (ch : List UInt8) : crashes (xs ++ [y]) g ch = crash1 (crashes xs g ch) y := by simp [crashes]
def StAtF (sb : Nat) (S : List (Nat × Obj)) (g : FG) (n : Int) (r : FiR) (A B : List FiR) : Prop := ∃ mb es cl, S = sO sb mb :: (mb, .map es cl) :: ownL (A ++ r :: B) ∧ StOk es cl (A ++ r :: B) ∧ gOf (A ++ r :: B) = g ∧ r.n = n
theorem StAt.file {sb : Nat} {S : List (Nat × Obj)} {g : FG} {n : Int} (h : StAt sb S g) (hn : (g n).1 ≠ []) : ∃ r A B, StAtF sb S g n r A B := by
  obtain ⟨mb, es, cl, rs, rfl, hok, rfl⟩ := h
  rcases aGet_fps rs n with ⟨_, h2, _⟩ | ⟨A, r, B, rfl, rfl, _⟩
  · rw [h2] at hn; exact absurd rfl hn
  · exact ⟨r, A, B, mb, es, cl, rfl, hok, rfl, rfl⟩
theorem stay_st {sb : Nat} {S F : List (Nat × Obj)} {g : FG} {n : Int} {r : FiR} {A B : List FiR} (h : StAtF sb S g n r A B) {many : Nat} (hm : many ≤ (g n).1.length) :
    Fn Try.prog 42 [fP sb, .int .i64 n, fP r.fb, .int .i64 (many : Nat)] (S ++ F) (fun v L' => v = .tuple #[] ∧ ∃ S', L' = S' ++ F ∧ StAt sb S' (upG g n ((g n).1.take many, many))) := by
  obtain ⟨mb, es, cl, rfl, hok, rfl, rfl⟩ := h
  obtain ⟨hnd, hA, hg⟩ := st_some hok
  obtain ⟨hr, _⟩ := ok_of hok.ok rfl
  rw [hg] at hm ⊢
  refine (stay_raw (R := ownL A ++ (ownL B ++ F)) (mark := r.mark) (n := r.n) hok.map hr.buf hm).permS (st_open _ _ A r B F) ?_
  rintro _ _ ⟨rfl, es', v', hb, hmap, rfl⟩
  dsimp only at hm
  have hlen : (r.l.take many).length = many := by rw [List.length_take]; omega
  by_cases hk0 : many = 0
  · rw [if_pos hk0] at hmap
    subst hk0
    obtain ⟨L2, L3, q1, q2, q3⟩ := st_del (sb := sb) (mb := mb) (F := F) (q0 := fO r.fb v' 0) (T' := r.T) hnd hok.ok hmap
    exact ⟨L2, L3, q1, q2, rfl, q3⟩
  · rw [if_neg hk0] at hmap
    obtain ⟨L2, L3, q1, q2, q3⟩ := st_set (sb := sb) (mb := mb) (F := F) (mark' := many) hA hok.ok hb (by omega) (by have := hr.size; omega) (by intro h; rw [h] at hlen; simp at hlen; omega) hmap
    exact ⟨L2, L3, q1, q2, rfl, q3⟩
theorem ByAt.tail {L : List (Nat × Obj)} {g off cap : Nat} {u : UInt8} {l : List UInt8} (h : ByAt L (.slice (some ⟨g, off, none⟩) (l.length + 1) cap) (u :: l)) : ByAt L (.slice (some ⟨g, slOff cap 1 off 1, none⟩) l.length (cap - 1)) l := by
  obtain ⟨h1, a, c', e, h2, h3, h4⟩ := h
  simp only [Value.slice.injEq] at e
  obtain ⟨rfl, _, rfl⟩ := e
  rw [List.length_cons] at h2
  refine ⟨by simp, some ⟨g, slOff cap 1 off 1, none⟩, cap - 1, rfl, by omega, by omega, ?_⟩
  rcases h4 with h4 | ⟨g', off', cur, E, fr, i, e, hi, hc⟩
  · simp at h4
  · cases e
    rcases Nat.eq_zero_or_pos l.length with h0 | h0
    · exact .inl h0
    · refine .inr ⟨g, _, cur, E, fr, i, rfl, hi, fun j x hx => ?_⟩
      have e : slOff cap 1 off 1 = off + 1 := by unfold slOff; rw [if_neg (by omega), Nat.mul_one]
      rw [e, Nat.add_assoc, Nat.add_comm 1 j]
      exact hc (j + 1) x (by simpa using hx)
theorem ByAt.head {L : List (Nat × Obj)} {v : Value} {u : UInt8} {l : List UInt8} (h : ByAt L v (u :: l)) : ∃ (g off cap : Nat) (cur : Array Value) (E : TypeId) (fr : Nat × Nat) (i : Nat), v = .slice (some ⟨g, off, none⟩) (l.length + 1) cap ∧ l.length + 1 ≤ cap ∧ L[i]? = some (g, Obj.cells cur E fr) ∧ cur[off]? = some (bV u) := by
  obtain ⟨h1, a, c', rfl, h2, h3, h4⟩ := h
  rcases h4 with h4 | ⟨g', off', cur, E, fr, i, rfl, hi, hc⟩
  · simp at h4
  · exact ⟨g', off', c', cur, E, fr, i, rfl, h2, hi, hc 0 (bV u) rfl⟩
attribute [local irreducible] Fn WC WL WR OW Qt YieldFn QW
theorem bare_fn {i fb mark : Nat} {v : Value} {T : List (Nat × Obj)} {l : List UInt8} {L : List (Nat × Obj)} (hi : L[i]? = some (fO fb v mark)) (hb : BufB v T l) (hm : mark ≤ l.length) : Fn Try.prog 44 [fP fb] L (fun r L' => (∃ a c, r = .slice a (l.length - mark) c) ∧ L' = L) := by
  obtain ⟨a, cap, rfl, hle, _⟩ := hb.val
  refine Fn_enter Try.func44 rfl Try.ntmps44 rfl fun gw => ?_
  repeat (first | ((first | refine WL_Q ?_ | refine WR_Q rfl ?_ | refine WR_late rfl rfl rfl (OW_Q ?_)); (first | refine QW_a ?_ | refine QW_of (Qt_sl3 rfl) ?_ | refine QW_of (Qt_lookup rfl hmi hok'.map.ents) ?_)) | refine WL_nil ?_ | refine WR_nil ?_ | refine WC_seq ?_ | refine WC_ret ?_ | refine WC_draw_all (id := 1) 20 (.calm 0 <| .calm 1 <| .calm 2 <| .calm 3 <| .calm 4 <| .calm 5 <| .calm 6 <| .calm 7 <| .calm 8 <| .calm 9 <| .calm 10 <| .calm 11 <| .calm 12 <| .calm 13 <| .calm 14 <| .calm 15 <| .calm 16 <| .calm 17 <| .calm 18 <| .calm 19 <| .done) mixed (by kernel_rfl) ?_ | refine WC_region ?_)
  exact ⟨rfl, _, _, Res1 rfl (resV_tmp rfl), .refl _, ⟨_, _, rfl⟩, rfl⟩
theorem few_keys {g : FG} {rs : List FiR} {es : Array MapEntry} {cl : Nat} (hok : StOk es cl rs) (hg : gOf rs = g) (hfew : ∀ n, (g n).1 ≠ [] → 0 ≤ n ∧ n < 12) : ((fps rs).length ≤ 12) ∧ ((fps rs).map Prod.fst).Nodup ∧ ∀ n, n ∈ (fps rs).map Prod.fst ↔ (g n).1 ≠ [] := by
  subst hg
  have hkeys := hok.map.keys
  have hk2 : ∀ n, n ∈ (fps rs).map Prod.fst ↔ (gOf rs n).1 ≠ [] := fun n => by
    rw [fps_keys]
    constructor
    · intro hm
      obtain ⟨r, hr, rfl, e⟩ := gOf_mem hm
      rw [e]
      exact (hok.ok r hr).ne
    · intro hne
      rcases aGet_fps rs n with ⟨_, h2, _⟩ | ⟨A, r, B, rfl, rfl, _⟩
      · rw [h2] at hne; exact absurd rfl hne
      · simp
  refine ⟨?_, hkeys, hk2⟩
  have := nodup_few 12 _ hkeys (fun x hx => hfew x ((hk2 x).1 hx))
  rwa [List.length_map] at this
abbrev chBox (cb : Nat) (v : Value) : Nat × Obj := (cb, .cells #[v] 44 (0, 0))
set_option maxHeartbeats 8000000 in
theorem crash_st {sb : Nat} {S F : List (Nat × Obj)} {g : FG} {chv : Value} {ch : List UInt8} (h : StAt sb S g) (hfew : ∀ n, (g n).1 ≠ [] → 0 ≤ n ∧ n < 12) (hch : ByAt F chv ch) :
    Fn Try.prog 23 [fP sb, chv] (S ++ F) (fun v L' => v = .tuple #[] ∧ ∃ xs S', Rise xs ∧ xs.Nodup ∧ (∀ n, n ∈ xs ↔ (g n).1 ≠ []) ∧ L' = S' ++ F ∧ StAt sb S' (crashes xs g ch).1) := by
  obtain ⟨mb, es, cl, rs, rfl, hok, hgo⟩ := id h
  obtain ⟨hl, hkeys, hk2⟩ := few_keys hok hgo hfew
  obtain ⟨_, ac, cc, rfl, _, _, _⟩ := id hch
  refine Fn_enterM Try.func23 rfl Try.ntmps23 rfl fun gw => ?_
  repeat (first | ((first | refine WL_Q ?_); (first | refine QW_a ?_ | refine QW_of (Qt_sl3 rfl) ?_ | refine QW_of (Qt_lookup rfl hmi hok'.map.ents) ?_)) | ((first | refine WL_op rfl ?_); (first | refine OW_box rfl (hk := fun _ => ?_) | (refine OW_call rfl (hF := numbers_fn) (hk := ?_); rintro _ _ ⟨xb, rfl, rfl⟩))) | refine WL_nil ?_ | refine WC_seq ?_ | refine WC_block ?_ | refine WC_cond_t (ht := ?_) | refine WC_cond_f (he := ?_) | refine WC_skip ?_ | refine WC_region (id := 0) ?_ | refine WC_region (id := 1) ?_)
  rename_i x2 x3
  refine WC_wk [(9, .func (.func 58) #[] #[fP xb]), (2, fP x2), (3, fP x3)] ⟨rfl, rfl, rfl, trivial⟩ ?_
  refine WC_rangeX rfl (fun m : Int => [iV m]) (fun _ => rfl) rfl (fun pre y => ∃ post, KeysOut (fps rs) (pre ++ y :: post)) (KeysOut (fps rs))
    (fun pre L' => ∃ S' v, (pre = [] → S' = sO sb mb :: (mb, Obj.map es cl) :: ownL rs) ∧ StAt sb S' (crashes pre g ch).1 ∧ ByAt F v (crashes pre g ch).2 ∧ L' = sBox xb sb :: chBox x3 v :: sBox x2 sb :: (S' ++ F))
    (fun _ _ => False) ?_ ?_ ?_ ?_
  · intro l d o1 o2 Jx hr
    obtain ⟨_, _, _, e, _, hseq⟩ := numbers_ok (xb := xb) (sb := sb) (mb := mb) hok.map hl
    cases e
    refine (hseq l (fun pre L1 => ∃ L', L1 = (l, o1) :: (d, o2) :: L' ∧ ∃ S' v, (pre = [] → S' = sO sb mb :: (mb, Obj.map es cl) :: ownL rs) ∧ StAt sb S' (crashes pre g ch).1 ∧ ByAt F v (crashes pre g ch).2 ∧ L' = sBox xb sb :: chBox x3 v :: sBox x2 sb :: (S' ++ F)) Jx ?_ ?_ ?_ _ ?_).mono ?_
    · rintro L ⟨L', rfl, S', v, hS', _, _, rfl⟩ q hq
      rw [hS' rfl]
      simp only [List.mem_cons, List.not_mem_nil, or_false] at hq
      rcases hq with rfl | rfl | rfl
      · exact ⟨2, rfl⟩
      · exact ⟨5, rfl⟩
      · exact ⟨6, rfl⟩
    · intro _ _ _ q hq; cases hq
    · rintro X pre y L hd ⟨L', rfl, hI⟩
      refine (hr X pre y L' hd hI).mono ?_
      rintro v L2 (⟨h1, L3, rfl, h3⟩ | h)
      · exact .inl ⟨h1, _, rfl, L3, rfl, h3⟩
      · exact .inr h
    · exact ⟨_, rfl, _, _, fun _ => rfl, h, hch, rfl⟩
    · rintro v L2 (⟨xs, hxs, L', h1, h2⟩ | h)
      · exact .inl ⟨xs, L', hxs, h1, h2⟩
      · exact .inr h
  · rintro X g' n' l d pre y L' ⟨post, hdom⟩ ⟨S', v, _, hS', hv, rfl⟩ ol od hol
    repeat (first | ((first | refine WL_Q ?_); (first | refine QW_a ?_ | refine QW_of (Qt_sl3 rfl) ?_ | refine QW_of (Qt_lookup rfl hmi hok'.map.ents) ?_)) | refine WL_nil ?_ | refine WC_seq ?_ | refine WC_block ?_ | refine WC_cond_t (ht := ?_) | refine WC_cond_f (he := ?_) | refine WC_skip ?_ | refine WC_region (id := 2) ?_)
    refine ⟨rfl, _, [], _, rfl, fun ol' hol' => ?_⟩
    have hy : y ∈ (fps rs).map Prod.fst := hdom.1.mem_iff.1 (by simp)
    have hyp : y ∉ pre := by
      have hn := hdom.1.nodup_iff.2 hkeys
      rw [List.nodup_append] at hn
      exact fun hm => hn.2.2 y hm y (List.mem_cons_self ..) rfl
    have hgy := crashes_keep pre g ch y hyp
    rw [crashes_snoc]
    have hgne : ((crashes pre g ch).1 y).1 ≠ [] := by rw [hgy]; exact (hk2 y).1 hy
    generalize crashes pre g ch = st at hS' hv hgne ⊢
    obtain ⟨gg, cch⟩ := st
    dsimp only at hS' hv hgne ⊢
    obtain ⟨r, A, B, hF⟩ := hS'.file hgne
    obtain ⟨mb', es', cl', rfl, hok', hgo', rfl⟩ := id hF
    obtain ⟨hnd, hA, hgr⟩ := st_some hok'
    rw [hgo'] at hgr
    obtain ⟨hr, _⟩ := ok_of hok'.ok rfl
    simp only [List.nil_append, List.cons_append, List.append_assoc]
    obtain ⟨_, va, vc, rfl, hvl, hvm, _⟩ := id hv
    have hm1 := hr.mark
    have hm2 := hr.size
    have hget : aGet (fps (A ++ r :: B)) r.n = some (fP r.fb) := by
      have := aPut_fps (B := B) (v := fP r.fb) hA
      have e : aGet (aPut (fps (A ++ r :: B)) r.n (fP r.fb)) r.n = some (fP r.fb) := by rw [aGet_put, if_pos rfl]
      rwa [this, show fps A ++ (r.n, fP r.fb) :: fps B = fps (A ++ r :: B) by simp [fps]] at e
    have hmi : ((l, ol') :: (d, od) :: sBox xb sb :: chBox x3 (.slice va cch.length vc) :: sBox x2 sb :: sO sb mb' :: (mb', Obj.map es' cl') :: (ownL (A ++ r :: B) ++ (F ++ X)))[6]? = some (mb', .map es' cl') := rfl
    have hfi : ((l, ol') :: (d, od) :: sBox xb sb :: chBox x3 (.slice va cch.length vc) :: sBox x2 sb :: sO sb mb' :: (mb', Obj.map es' cl') :: (ownL (A ++ r :: B) ++ (F ++ X)))[(ownL A).length + 7]? = some (fO r.fb r.v r.mark) := by
      show (ownL (A ++ r :: B) ++ (F ++ X))[(ownL A).length]? = _
      rw [ownL_app, ownL_cons, List.append_assoc, List.append_assoc, List.getElem?_append_right (Nat.le_refl _), Nat.sub_self]
      rfl
    repeat (first | ((first | refine WL_Q ?_); (first | refine QW_a ?_ | refine QW_of (Qt_sl3 rfl) ?_ | refine QW_of (Qt_lookup rfl hmi hok'.map.ents) ?_)) | refine WL_nil ?_ | refine WC_seq ?_ | refine WC_block ?_ | refine WC_cond_t (ht := ?_) | refine WC_cond_f (he := ?_) | refine WC_skip ?_ | refine WC_region (id := 3) ?_)
    rw [hget]
    repeat (first | ((first | refine WL_Q ?_); (first | refine QW_a ?_ | refine QW_of (Qt_sl3 rfl) ?_ | refine QW_of (Qt_lookup rfl hmi hok'.map.ents) ?_)) | ((first | refine WL_op rfl ?_); (first | (refine OW_call rfl (hF := bare_fn hfi hr.buf hr.mark) (hk := ?_); rintro _ _ ⟨⟨ab, cb, rfl⟩, rfl⟩))) | refine WL_nil ?_ | refine WC_seq ?_ | refine WC_block ?_ | refine WC_cond_t (ht := ?_) | refine WC_cond_f (he := ?_) | refine WC_skip ?_ | refine WC_region (id := 3) ?_ | refine WC_region (id := 4) ?_ | refine WC_region (id := 5) ?_)
    refine WC_wk [(7, .int .i64 ((r.l.length - r.mark : Nat))), (6, .int .i64 r.mark), (5, fP r.fb), (4, iV r.n), (3, fP x3), (2, fP x2)] ⟨rfl, rfl, rfl, rfl, rfl, rfl, trivial⟩ ?_
    refine WC_meet2 (fun σ => ∃ (k : Nat) (v' : Value) (ch' : List UInt8), crash1 (gg, cch) r.n = (upG gg r.n (r.l.take k, k), ch') ∧ k ≤ r.l.length ∧ ByAt F v' ch' ∧ σ = ⟨[(6, .int .i64 k), (5, fP r.fb), (4, iV r.n), (2, fP x2)], [], (l, ol') :: (d, od) :: sBox xb sb :: chBox x3 v' :: sBox x2 sb :: sO sb mb' :: (mb', Obj.map es' cl') :: (ownL (A ++ r :: B) ++ (F ++ X))⟩) ?_ ?_
    · by_cases hmore : r.mark < r.l.length
      · have e1 : decide (((r.l.length - r.mark : Nat) : Int) > 0) = true := decide_eq_true (by omega)
        cases cch with
        | nil =>
          have e2 : decide (((([] : List UInt8).length : Nat) : Int) > 0) = false := by decide
          repeat (first | ((first | refine WL_Q ?_ | refine WL_Y ?_); (first | refine QW_a ?_ | refine QW_of (Qt_sl3 rfl) ?_ | refine QW_of (Qt_lookup rfl hmi hok'.map.ents) ?_)) | refine WL_nil ?_ | refine WL_un (h := ?_) | refine WL_N ?_ | refine WL_M ?_ | refine WC_seq ?_ | refine WC_block ?_ | refine WC_cond_t (ht := ?_) | refine WC_cond_f (he := ?_) | refine WC_skip ?_ | refine WC_region (id := 6) ?_)
          exact ⟨_, ⟨r.mark, _, [], by unfold crash1; simp only [hgr], hm1, hv, rfl⟩, ⟨rfl, rfl, rfl, rfl, trivial⟩, rfl, .refl _⟩
        | cons u ch' =>
          have e2 : decide ((((u :: ch').length : Nat) : Int) > 0) = true := decide_eq_true (by simp only [List.length_cons]; omega)
          obtain ⟨gc, oc, cpc, cur, E, fr, i, e3, hcl, hci, hcc⟩ := hv.head
          simp only [Value.slice.injEq] at e3
          obtain ⟨rfl, _, rfl⟩ := e3
          have hci' : ((l, ol') :: (d, od) :: sBox xb sb :: chBox x3 (.slice (some ⟨gc, oc, none⟩) (u :: ch').length vc) :: sBox x2 sb :: sO sb mb' :: (mb', Obj.map es' cl') :: (ownL (A ++ r :: B) ++ (F ++ X)))[(ownL (A ++ r :: B)).length + i + 7]? = some (gc, .cells cur E fr) := by
            show (ownL (A ++ r :: B) ++ (F ++ X))[(ownL (A ++ r :: B)).length + i]? = _
            rw [List.getElem?_append_right (by omega), Nat.add_sub_cancel_left]
            exact get_left hci
          have hcc' : cur[oc + (0 : Int).toNat * 1]? = some (bV u) := hcc
          have p1 : (0 : Int) < (((u :: ch').length : Nat) : Int) := by simp only [List.length_cons]; omega
          have p2 : (1 : Int) ≤ (((u :: ch').length : Nat) : Int) := by simp only [List.length_cons]; omega
          have w1 : IntKind.i64.wrap (((r.l.length - r.mark : Nat) : Int) + 1) = ((r.l.length - r.mark + 1 : Nat) : Int) := by rw [wI64 (by omega) (by omega)]; omega
          have w2 : IntKind.i64.wrap ((u.toNat : Nat) : Int) = ((u.toNat : Nat) : Int) := wI64 (by omega) (by have := u.toNat_lt; omega)
          have hne0 : IntKind.i64.wrap (((r.l.length - r.mark : Nat) : Int) + 1) ≠ 0 := by rw [w1]; omega
          have hlt := Nat.mod_lt u.toNat (show 0 < r.l.length - r.mark + 1 by omega)
          have w3 : IntKind.i64.wrap (((r.mark : Nat) : Int) + ((u.toNat : Nat) : Int).tmod ((r.l.length - r.mark + 1 : Nat) : Int)) = ((r.mark + u.toNat % (r.l.length - r.mark + 1) : Nat) : Int) := by
            rw [show ((u.toNat : Nat) : Int).tmod ((r.l.length - r.mark + 1 : Nat) : Int) = ((u.toNat % (r.l.length - r.mark + 1) : Nat) : Int) from rfl]
            rw [wI64 (by omega) (by omega)]
            omega
          repeat (first | ((first | refine WL_Q ?_ | refine WL_Y ?_); (first | refine QW_a ?_ | refine QW_of (Qt_sl3 rfl) ?_ | refine QW_of (Qt_lookup rfl hmi hok'.map.ents) ?_)) | ((first | refine WL_op rfl ?_ | refine WL_yes (h := ?_)); (first | refine OW_st1 rfl ?_)) | refine WL_nil ?_ | refine WL_un (h := ?_) | refine WL_N ?_ | refine WL_M ?_ | refine WC_seq ?_ | refine WC_block ?_ | refine WC_cond_t (ht := ?_) | refine WC_cond_f (he := ?_) | refine WC_skip ?_ | refine WC_region (id := 6) ?_ | refine WC_region (id := 7) ?_ | refine WC_region (id := 8) ?_)
          rw [w2, w1, w3]
          refine ⟨_, ⟨r.mark + u.toNat % (r.l.length - r.mark + 1), _, ch', ?_, by omega, hv.tail, rfl⟩, ⟨rfl, rfl, rfl, rfl, trivial⟩, rfl, .refl _⟩
          unfold crash1
          simp only [hgr]
          rw [if_pos hmore]
      · have e1 : decide (((r.l.length - r.mark : Nat) : Int) > 0) = false := decide_eq_false (by omega)
        repeat (first | ((first | refine WL_Q ?_ | refine WL_Y ?_); (first | refine QW_a ?_ | refine QW_of (Qt_sl3 rfl) ?_ | refine QW_of (Qt_lookup rfl hmi hok'.map.ents) ?_)) | refine WL_nil ?_ | refine WL_un (h := ?_) | refine WL_N ?_ | refine WL_M ?_ | refine WC_seq ?_ | refine WC_block ?_ | refine WC_cond_t (ht := ?_) | refine WC_cond_f (he := ?_) | refine WC_skip ?_ | refine WC_region (id := 6) ?_)
        refine ⟨_, ⟨r.mark, _, cch, ?_, hm1, hv, rfl⟩, ⟨rfl, rfl, rfl, rfl, trivial⟩, rfl, .refl _⟩
        unfold crash1
        cases cch with
        | nil => simp only [hgr]
        | cons u ch' => simp only [hgr]; rw [if_neg hmore]
    rintro _ ⟨k, v', ch', hcr, hk, hv', rfl⟩
    rw [hcr]
    repeat (first | ((first | refine WL_Q ?_); (first | refine QW_a ?_ | refine QW_of (Qt_sl3 rfl) ?_ | refine QW_of (Qt_lookup rfl hmi hok'.map.ents) ?_)) | refine WL_nil ?_ | refine WC_seq ?_ | refine WC_block ?_ | refine WC_cond_t (ht := ?_) | refine WC_cond_f (he := ?_) | refine WC_skip ?_ | refine WC_region (id := 9) ?_)
    have hpm : ∀ S1 : List (Nat × Obj), (S1 ++ ((l, ol') :: (d, od) :: sBox xb sb :: chBox x3 v' :: sBox x2 sb :: (F ++ X))).Perm ((l, ol') :: (d, od) :: sBox xb sb :: chBox x3 v' :: sBox x2 sb :: (S1 ++ (F ++ X))) := fun S1 => List.perm_append_comm_assoc S1 [(l, ol'), (d, od), sBox xb sb, chBox x3 v', sBox x2 sb] (F ++ X)
    refine WL_permA (hpm (sO sb mb' :: (mb', Obj.map es' cl') :: ownL (A ++ r :: B))) ?_
    refine WL_op rfl (OW_call rfl (hF := stay_st hF (by rw [hgr]; exact hk)) (hk := ?_))
    rintro _ _ ⟨rfl, S2, rfl, hS2⟩
    rw [hgr] at hS2
    refine WL_permA (hpm S2).symm ?_
    repeat (first | ((first | refine WL_Q ?_); (first | refine QW_a ?_ | refine QW_of (Qt_sl3 rfl) ?_ | refine QW_of (Qt_lookup rfl hmi hok'.map.ents) ?_)) | refine WL_nil ?_ | refine WC_seq ?_ | refine WC_block ?_ | refine WC_cond_t (ht := ?_) | refine WC_cond_f (he := ?_) | refine WC_skip ?_ | refine WC_region (id := 9) ?_)
    refine ⟨sBox xb sb :: chBox x3 v' :: sBox x2 sb :: (S2 ++ (F ++ X)), .refl _, sBox xb sb :: chBox x3 v' :: sBox x2 sb :: (S2 ++ F), by simp, S2, v', by simp, hS2, hv', rfl⟩
  · rintro d xs L' hout ⟨S', v, _, hS', _, rfl⟩
    exact ⟨_, ⟨d, 0, _, rfl, rfl, rfl, rfl⟩, _, _, Res0 rfl, .cons _ (.cons _ (.cons _ (.cons _ (.refl _)))), rfl, xs, S', hout.2, hout.1.nodup_iff.2 hkeys, fun n => by rw [hout.1.mem_iff]; exact hk2 n, rfl, hS'⟩
  · intro _ _ _ h
    exact h.elim
end Go.Proofs.Ytmdiabglbmgkkaa
namespace Go.Proofs.Ytmdiabglbmgkkaa
open Go.RowKit
abbrev F1 := List UInt8 × Nat
def addF (b : List UInt8) (x : F1) : F1 := if 1048576 < x.1.length + b.length then x else (x.1 ++ b, x.2)
def syncF (x : F1) : F1 := if x.1 = [] then x else (x.1, x.1.length)
theorem appG_up {g : FG} {n : Int} {b : List UInt8} (hn : 0 ≤ n) : appG g n b = upG g n (addF b (g n)) := by
  unfold appG addF
  rw [if_neg (by omega)]
  by_cases h : 1048576 < (g n).1.length + b.length
  · rw [if_pos h, if_pos h, upG_self]
  · rw [if_neg h, if_neg h]
theorem syncG_up {g : FG} {n : Int} : syncG g n = upG g n (syncF (g n)) := by
  unfold syncG syncF
  by_cases h : (g n).1 = []
  · rw [if_pos h, if_pos h, upG_self]
  · rw [if_neg h, if_neg h]
theorem StAt.lim {sb : Nat} {S : List (Nat × Obj)} {g : FG} (h : StAt sb S g) (n : Int) : (g n).2 ≤ (g n).1.length ∧ (g n).1.length ≤ 1048576 ∧ ((g n).1 = [] → g n = ([], 0)) := by
  obtain ⟨mb, es, cl, rs, rfl, hok, rfl⟩ := h
  rcases aGet_fps rs n with ⟨_, h2, _⟩ | ⟨A, r, B, rfl, rfl, _, h3, _⟩
  · rw [h2]; exact ⟨Nat.le_refl _, Nat.zero_le _, fun _ => rfl⟩
  · have hr := hok.ok r (by simp)
    rw [h3]
    exact ⟨hr.mark, hr.size, fun e => absurd e hr.ne⟩
theorem rise_eq : ∀ {a b : List Int}, Rise a → Rise b → a.Nodup → b.Nodup → (∀ x, x ∈ a ↔ x ∈ b) → a = b
  | [], [], _, _, _, _, _ => rfl
  | [], y :: b, _, _, _, _, h => absurd ((h y).2 (List.mem_cons_self ..)) (by simp)
  | x :: a, [], _, _, _, _, h => absurd ((h x).1 (List.mem_cons_self ..)) (by simp)
  | x :: a, y :: b, ha, hb, na, nb, h => by
    obtain ⟨a1, a2⟩ := List.pairwise_cons.1 ha
    obtain ⟨b1, b2⟩ := List.pairwise_cons.1 hb
    obtain ⟨n1, n2⟩ := List.nodup_cons.1 na
    obtain ⟨m1, m2⟩ := List.nodup_cons.1 nb
    have e : x = y := by
      have h1 : y ≤ x := by
        rcases List.mem_cons.1 ((h x).1 (List.mem_cons_self ..)) with g | g
        · omega
        · exact b1 x g
      have h2 : x ≤ y := by
        rcases List.mem_cons.1 ((h y).2 (List.mem_cons_self ..)) with g | g
        · omega
        · exact a1 y g
      omega
    subst e
    rw [rise_eq a2 b2 n2 m2 fun z => ?_]
    constructor
    · intro hz
      rcases List.mem_cons.1 ((h z).1 (List.mem_cons_of_mem _ hz)) with g | g
      · exact absurd (g ▸ hz) n1
      · exact g
    · intro hz
      rcases List.mem_cons.1 ((h z).2 (List.mem_cons_of_mem _ hz)) with g | g
      · exact absurd (g ▸ hz) m1
      · exact g
def Few (g : FG) : Prop := ∀ n, (g n).1 ≠ [] → 0 ≤ n ∧ n < 7
def keys7 (g : FG) : List Int := (([0, 1, 2, 3, 4, 5, 6] : List Int)).filter fun n => !(g n).1.isEmpty
theorem mem_keys7 {g : FG} (h : Few g) (n : Int) : n ∈ keys7 g ↔ (g n).1 ≠ [] := by
  unfold keys7
  rw [List.mem_filter]
  constructor
  · rintro ⟨_, h2⟩
    simpa using h2
  · intro hne
    refine ⟨?_, by simpa using hne⟩
    obtain ⟨h1, h2⟩ := h n hne
    have : n = 0 ∨ n = 1 ∨ n = 2 ∨ n = 3 ∨ n = 4 ∨ n = 5 ∨ n = 6 := by omega
    simpa using this
theorem keys7_rise (g : FG) : Rise (keys7 g) ∧ (keys7 g).Nodup := by
  unfold keys7
  exact ⟨List.Pairwise.sublist List.filter_sublist (by decide), List.Nodup.sublist List.filter_sublist (by decide)⟩
theorem keys7_eq {g : FG} (h : Few g) {xs : List Int} (h1 : Rise xs) (h2 : xs.Nodup) (h3 : ∀ n, n ∈ xs ↔ (g n).1 ≠ []) : xs = keys7 g :=
  rise_eq h1 (keys7_rise g).1 h2 (keys7_rise g).2 fun n => (h3 n).trans (mem_keys7 h n).symm
theorem Few.up {g : FG} (h : Few g) {n : Int} {x : F1} (hn : x.1 ≠ [] → 0 ≤ n ∧ n < 7) : Few (upG g n x) := fun m hm => by
  unfold upG at hm
  by_cases e : m = n
  · rw [if_pos e] at hm; rw [e]; exact hn hm
  · rw [if_neg e] at hm; exact h m hm
theorem Few.app {g : FG} (h : Few g) {n : Int} (hn : n < 7) (b : List UInt8) : Few (appG g n b) := by
  by_cases h0 : n < 0
  · unfold appG; rw [if_pos h0]; exact h
  · rw [appG_up (by omega)]; exact h.up fun _ => ⟨by omega, hn⟩
theorem Few.sync {g : FG} (h : Few g) (n : Int) : Few (syncG g n) := by
  rw [syncG_up]
  refine h.up fun hne => h n fun e => ?_
  unfold syncF at hne
  rw [if_pos e] at hne
  exact hne e
theorem Few.zero : Few (fun _ => ([], 0)) := fun _ h => absurd rfl h
def crashG (g : FG) (ch : List UInt8) : FG := (crashes (keys7 g) g ch).1
theorem crash7_st {sb : Nat} {S F : List (Nat × Obj)} {g : FG} {chv : Value} {ch : List UInt8} (h : StAt sb S g) (hf : Few g) (hch : ByAt F chv ch) :
    Fn Try.prog 23 [fP sb, chv] (S ++ F) (fun v L' => v = .tuple #[] ∧ ∃ S', L' = S' ++ F ∧ StAt sb S' (crashG g ch)) :=
  (crash_st h (fun n hn => by have := hf n hn; omega) hch).mono fun v L' ⟨h0, xs, S', h1, h2, h3, h4, h5⟩ => ⟨h0, S', h4, by unfold crashG; rw [← keys7_eq hf h1 h2 h3]; exact h5⟩
attribute [local irreducible] Fn WC WL WR OW Qt YieldFn QW
end Go.Proofs.Ytmdiabglbmgkkaa
namespace Go.Proofs.Ytmdiabglbmgkkaa
open Go.RowKit
theorem WL_dropS {c : Cx} {ops : Array Oper} {l : List Oper} {K : Exit → St → Prop} {s : List (Nat × Value)} {D : List Deferred} {L L' : List (Nat × Obj)} (hs : L'.Sublist L) (h : WL c ops l K ⟨s, D, L'⟩) : WL c ops l K ⟨s, D, L⟩ := fun a w ha => h a w (ha.mem' (ha.mem.sublist hs))
attribute [local irreducible] Fn WC WL WR OW Qt YieldFn QW
theorem ByAt.one (b E : Nat) (fr : Nat × Nat) (u : UInt8) (L : List (Nat × Obj)) : ByAt ((b, .cells #[bV u] E fr) :: L) (.slice (some ⟨b, 0, none⟩) 1 1) [u] :=
  ⟨rfl, _, 1, rfl, Nat.le_refl _, by decide, .inr ⟨b, 0, _, E, fr, 0, rfl, rfl, fun j x hj => by
    cases j with
    | zero => simpa using hj
    | succ j => simp at hj⟩⟩
end Go.Proofs.Ytmdiabglbmgkkaa
namespace Go.Proofs.Ytmdiabglbmgkkaa
open Go.ChangeShapes Go.WideShapes Go.ChangeAt Go.RowKit
theorem ownOf : ownKnob Try.prog.godebug = none := by kernel_rfl
theorem laidOf : laidOutB Try.prog = true := by kernel_rfl
def allL (W : World) : List (Nat × Obj) := W.heap.toList.zipIdx.map fun p => (p.2, p.1)
theorem allL_get {W : World} {b : Nat} {o : Obj} (h : W.heap[b]? = some o) : (allL W)[b]? = some (b, o) := by
  simp [allL, h]
theorem allL_mem {W : World} {p : Nat × Obj} : p ∈ allL W → W.heap[p.1]? = some p.2 := fun h => by
  simp only [allL, List.mem_map] at h
  obtain ⟨⟨o, b⟩, h1, rfl⟩ := h
  have := List.mem_zipIdx_iff_getElem?.1 h1
  simpa using this
theorem allL_mem_of {W : World} {b : Nat} {o : Obj} (h : W.heap[b]? = some o) : (b, o) ∈ allL W := List.mem_of_getElem? (allL_get h)
theorem mem_allL (W : World) : Mem W (allL W) W where
  os := rfl
  tape := rfl
  output := rfl
  size := Nat.le_refl _
  nodup := by
    have : (allL W).map Prod.fst = List.range W.heap.size := by
      simp only [allL, List.map_map]
      apply List.ext_getElem?
      intro i
      simp only [List.getElem?_map, List.getElem?_zipIdx, Array.getElem?_toList]
      by_cases h : i < W.heap.size
      · simp [h]
      · simp [h]
    rw [this]; exact List.nodup_range
  has := fun _ h => allL_mem h
theorem below_of_mem {W W' : World} (h : Mem W (allL W) W') : Below W.heap.size W W' where
  os := h.os
  tape := h.tape
  output := h.output
  size := h.size
  block := fun k hk => by
    have h1 : W.heap[k]? = some W.heap[k] := Array.getElem?_eq_getElem hk
    rw [h1]
    exact h.has (k, W.heap[k]) (allL_mem_of h1)
theorem trodAll_stays {H : Type} {enc : TypeId × Value → H} {P : Program} (hl : laidOutB P = true) {W W' : World} (hb : Below W.heap.size W W') : ∀ {ts : List TypeId} {vs : List Value} {ds : List (DataW H)} {ps : List MemPlace},
    (∀ t ∈ ts, P.readableRec t = true ∧ t < P.types.size) → DataW.TrodAll enc P W 0 (fun _ => true) true ts vs ds ps → (∀ x ∈ ps, x.block < W.heap.size) → DataW.TrodAll enc P W' 0 (fun b => decide (b < W.heap.size)) true ts vs ds ps
  | [], _, _, _, _, h, _ => by obtain ⟨rfl, rfl, rfl⟩ := trodAll_nil h; exact trodAll_mk0
  | t :: ts, _, _, _, ht, h, hp => by
    obtain ⟨v, vs', d, ds', p, q, rfl, rfl, rfl, h1, h2⟩ := trodAll_cons h
    have h3 := ht t (by simp)
    exact ⟨p, q, Below.trod hl h3.1 h3.2 h1 hb (fun x hx => hp x (by simp [hx])), trodAll_stays hl hb (fun t' h' => ht t' (by simp [h'])) h2 (fun x hx => hp x (by simp [hx])), rfl⟩
theorem post_law {H : Type} {enc : TypeId × Value → H} {P : Program} {f : Func} {s : ChangeSpec} {W W' : World} {args : Array Value} {ds gs : List (DataW H)} {before : List MemPlace} {tb : TypeId} (hl : laidOutB P = true)
    (hts : (f.params.toList.all fun t => P.readableRec t && decide (t < P.types.size)) = true) (hv : s.vars = []) (hr : f.resultTypes = #[tb]) (hb : P.underlying tb = some .bool)
    (hfn : s.fn H (ds ++ gs) = { results := [.lit (.bool true)], args := ds }) (hW : DataW.Whole enc P f.params.toList s.vars false W args.toList ds gs before) (hbel : Below W.heap.size W W') :
    s.post enc P f false true false false W args (.bool true) W' := by
  have hlt := hW.lt
  have hW' := hW
  obtain ⟨p, q, hA, hV, rfl, _, _⟩ := hW
  rw [hv] at hV
  obtain ⟨rfl, rfl⟩ := trodVars_none hV
  have hts' : ∀ t ∈ f.params.toList, P.readableRec t = true ∧ t < P.types.size := fun t ht => by
    have := List.all_eq_true.1 hts t ht
    simpa using this
  refine ⟨ds, [], p ++ [], [], p, [], hW', ?_, ?_, ?_, hbel.frame _, fun h => by cases h⟩
  · rw [hfn, hr]
    exact trodAll_mk1 (shut_bool hb true)
  · rw [hfn]
    exact trodAll_stays hl hbel hts' hA (fun x hx => by simpa using hlt x (by simp [hx]))
  · rw [hfn, hv]; rfl
theorem u8_bounds {x : Int} (h : (Lit.int .u8 x).wf = true) : 0 ≤ x ∧ x < 256 := by
  have h1 := h
  simp only [Lit.wf, Bool.and_eq_true, decide_eq_true_eq] at h1
  have e1 : IntKind.u8.min = 0 := rfl
  have e2 : IntKind.u8.max = 255 := rfl
  omega
theorem lifted {C : Checked} {os : Os} {H : Type} {enc : TypeId × Value → H} {f : FuncId} {fn : Func} {s : ChangeSpec} {tb : TypeId} (own : ownKnob C.prog.godebug = none) (started : os.Started) (noInit : C.prog.inits.idxOf? f = none) (hfn : C.prog.funcs[f]? = some fn)
    (witness : ∃ (w : World) (tape : Tape) (i : Input), w.os = os ∧ (w.forCall tape i).Shaped C.prog ∧ i.vars = [] ∧ Input.okWide C.prog (w.forCall tape i) .any w.heap.size f i ∧ s.pre6 enc C.prog fn [] false (w.forCall tape i).memory i.args ∧ ({} : Assume).holds C.prog (lone (Frame.enter C.prog f i.args .normal) [] (w.forCall tape i)))
    (hl : laidOutB C.prog = true) (hts : (fn.params.toList.all fun t => C.prog.readableRec t && decide (t < C.prog.types.size)) = true) (hv : s.vars = []) (hr : fn.resultTypes = #[tb]) (hb : C.prog.underlying tb = some .bool)
    (hspec : ∀ ds : List (DataW H), ds.length = fn.params.size → s.fn H ds = { results := [.lit (.bool true)], args := ds })
    (h : ∀ (W : World) (base : Nat) (args : Array Value) (ds : List (DataW H)) (ps : List MemPlace), (∀ (j : Nat) t v, fn.params[j]? = some t → args[j]? = some v → Value.okWide C.prog W .any base t v) →
      DataW.TrodAll enc C.prog W 0 (fun _ => true) true fn.params.toList args.toList ds ps → W.noneFrozen ps → Fn C.prog f args.toList (allL W) fun v L' => v = .bool true ∧ L' = allL W) :
    ReturnsInHanded {} C os f .any (s.pre6 enc C.prog fn [] false) (s.post enc C.prog fn false true false false) := by
  refine returnsInHanded_of_change (C := C) own started noInit hfn witness ?_
  intro W base args ds gs before hval hW _ _
  have hW' := hW
  obtain ⟨p, q, hA, hV, rfl, hfz, _⟩ := hW
  rw [hv] at hV
  obtain ⟨rfl, rfl⟩ := trodVars_none hV
  have hlen : ∀ {ts : List TypeId} {vs : List Value} {ds : List (DataW H)} {ps : List MemPlace}, DataW.TrodAll enc C.prog W 0 (fun _ => true) true ts vs ds ps → ds.length = ts.length := by
    intro ts
    induction ts with
    | nil => intro vs ds ps h; obtain ⟨_, rfl, _⟩ := trodAll_nil h; rfl
    | cons t ts ih => intro vs ds ps h; obtain ⟨v, vs', d, ds', a, b, rfl, rfl, rfl, _, h2⟩ := trodAll_cons h; simp [ih h2]
  have hds := hspec ds (by rw [hlen hA]; simp)
  refine ((h W base args ds p hval hA (by simpa using hfz)) W W (mem_allL W)).mono fun e W' ⟨v, L', h1, h2, h3, h4⟩ => ?_
  subst h3; subst h4
  exact ⟨_, h1, post_law hl hts hv hr hb (by simpa using hds) hW' (below_of_mem h2)⟩
end Go.Proofs.Ytmdiabglbmgkkaa
namespace Go.Proofs.Ytmdiabglbmgkkaa
open Go.ChangeShapes Go.WideShapes Go.ChangeAt Go.RowKit Go.Deep
structure Rd (α : Type) where
  n : Nat
  lie : List (Nat × Obj) → α → (Nat → Option Value) → Prop
  mono : ∀ {L a g g'}, (∀ k v, g k = some v → g' k = some v) → lie L a g → lie L a g'
def intR (k : IntKind) : Rd Int where
  n := 1
  lie := fun _ x g => g 0 = some (.int k x) ∧ (Lit.int k x).wf = true
  mono := fun h h1 => ⟨h _ _ h1.1, h1.2⟩
def strR : Rd ByteArray where
  n := 1
  lie := fun _ x g => g 0 = some (.string x) ∧ x.size ≤ maxLen
  mono := fun h h1 => ⟨h _ _ h1.1, h1.2⟩
def pairR {α β : Type} (r : Rd α) (s : Rd β) : Rd (α × β) where
  n := r.n + s.n
  lie := fun L x g => r.lie L x.1 g ∧ s.lie L x.2 (fun k => g (r.n + k))
  mono := fun h h1 => ⟨r.mono h h1.1, s.mono (fun _ _ h2 => h _ _ h2) h1.2⟩
def SlLie {α : Type} (r : Rd α) (L : List (Nat × Obj)) (a : Option Addr) (xs : List α) : Prop :=
  xs = [] ∨ ∃ (b off : Nat) (cs : Array Value) (E : TypeId) (fr : Nat × Nat) (i : Nat), a = some ⟨b, off, none⟩ ∧ L[i]? = some (b, Obj.cells cs E fr) ∧ ∀ j x, xs[j]? = some x → r.lie L x (fun k => cs[off + j * r.n + k]?)
def sliceR {α : Type} (r : Rd α) : Rd (List α) where
  n := 1
  lie := fun L xs g => ∃ a cap, g 0 = some (.slice a xs.length cap) ∧ xs.length ≤ cap ∧ cap ≤ maxLen ∧ SlLie r L a xs
  mono := fun h ⟨a, cap, h1, h2⟩ => ⟨a, cap, h _ _ h1, h2⟩
def Sound {α : Type} (P : Program) (t : TypeId) (r : Rd α) : Prop :=
  P.cellsOf t = r.n ∧ ∀ {H : Type} {enc : TypeId × Value → H} {W : World} {fuel : Nat} {cs : List Value} {x : DataW H × List MemPlace}, DataW.trod enc P W 0 (fun _ => true) true fuel t cs = some x → ∃ a, r.lie (allL W) a (fun k => cs[k]?)
variable {P : Program} {t : TypeId}
theorem sound_int {k : IntKind} (ht : P.underlying t = some (.int k)) (hc : P.cellsOf t = 1) : Sound P t (intR k) := ⟨hc, fun h => by
  obtain ⟨n, rfl, _, hw⟩ := DataW.trod_int ht h
  exact ⟨n, rfl, hw⟩⟩
theorem sound_str (ht : P.underlying t = some .string) (hc : P.cellsOf t = 1) : Sound P t strR := ⟨hc, fun h => by
  obtain ⟨n, rfl, _, hw⟩ := DataW.trod_string ht h
  exact ⟨n, rfl, hw⟩⟩
theorem cut_get {cs : List Value} {o n k : Nat} {v : Value} (h : ((cs.drop o).take n)[k]? = some v) : cs[o + k]? = some v := by
  rw [List.getElem?_take] at h
  split at h
  · rwa [List.getElem?_drop] at h
  · cases h
theorem choose_list {α : Type} {n : Nat} {p : Nat → α → Prop} (h : ∀ i, i < n → ∃ x, p i x) : ∃ xs : List α, xs.length = n ∧ ∀ i x, xs[i]? = some x → p i x := by
  induction n with
  | zero => exact ⟨[], rfl, by simp⟩
  | succ n ih =>
    obtain ⟨xs, h1, h2⟩ := ih fun i hi => h i (by omega)
    obtain ⟨x, hx⟩ := h n (by omega)
    refine ⟨xs ++ [x], by simp [h1], fun i y hy => ?_⟩
    by_cases hi : i < n
    · rw [List.getElem?_append_left (by omega)] at hy; exact h2 i y hy
    · rw [List.getElem?_append_right (by omega)] at hy
      have : i = n := by
        have := (List.getElem?_eq_some_iff.1 hy).1
        simp at this; omega
      subst this
      rw [h1, Nat.sub_self] at hy
      simp at hy; subst hy; exact hx
theorem cells_get {W : World} {a : Addr} {n k : Nat} {cs : List Value} (h : W.cells? 0 a n = some cs) (hk : k < n) : ∃ v, cs[k]? = some v ∧ W.cell? (a.add k) = some v := by
  obtain ⟨_, hl, hat⟩ := World.cells?_some h
  exact ⟨cs[k]'(by omega), List.getElem?_eq_getElem (by omega), by rw [hat k hk, List.getElem?_eq_getElem (by omega)]⟩
theorem sound_slice {α : Type} {r : Rd α} {e : TypeId} (ht : P.underlying t = some (.slice e)) (hc : P.cellsOf t = 1) (hr : 0 < r.n) (he : Sound P e r) : Sound P t (sliceR r) := ⟨hc, fun {H enc W fuel cs x} h => by
  rcases open_slice ht h with ⟨rfl, _⟩ | ⟨a, len, cap, m, n, D, Pl, rfl, _, hl, hm, hmm, _, hi⟩
  · exact ⟨[], none, 0, rfl, Nat.le_refl _, Nat.zero_le _, .inl rfl⟩
  · simp only [if_true] at hmm
    subst hmm
    by_cases h0 : len = 0
    · subst h0; exact ⟨[], some a, m, rfl, Nat.zero_le _, hm, .inl rfl⟩
    rw [he.1] at hi
    have hblock : ∃ b off cs E fr, a = ⟨b, off, none⟩ ∧ W.heap[b]? = some (Obj.cells cs E fr) := by
      obtain ⟨cs', h1, _⟩ := hi 0 (by omega)
      obtain ⟨v, _, hv⟩ := cells_get h1 hr
      have e0 : (a.add (0 * r.n)).add 0 = a := by simp [Addr.add]
      rw [e0] at hv
      obtain ⟨b, off, spot⟩ := a
      simp only [World.cell?] at hv
      split at hv
      · rename_i cs E fr hb
        split at hv
        · cases hv
        · rename_i hs
          have hs' : spot = none := by cases spot with | none => rfl | some _ => simp at hs
          subst hs'
          exact ⟨b, off, cs, E, fr, rfl, hb⟩
      · cases hv
    obtain ⟨b, off, cs, E, fr, rfl, hb⟩ := hblock
    obtain ⟨ys, h1, h2⟩ := choose_list (n := len) (p := fun j x => r.lie (allL W) x (fun k => cs[off + j * r.n + k]?)) fun i hlt => by
      obtain ⟨cs', hc1, ht1⟩ := hi i (by omega)
      obtain ⟨x, hx⟩ := he.2 ht1
      refine ⟨x, r.mono (fun k v hk => ?_) hx⟩
      have hk2 : k < r.n := by
        obtain ⟨_, hl2, _⟩ := World.cells?_some hc1
        have := (List.getElem?_eq_some_iff.1 hk).1
        omega
      obtain ⟨v', e1, e2⟩ := cells_get hc1 hk2
      rw [hk] at e1; cases e1
      rw [add_add, Addr.add_mid, World.cell?] at e2
      simp only [hb] at e2
      rw [Nat.add_assoc]
      simpa using e2
    exact ⟨ys, some ⟨b, off, none⟩, m, by rw [h1]; rfl, by omega, hm, .inr ⟨b, off, cs, E, fr, b, rfl, allL_get hb, h2⟩⟩⟩
def SoundF {α : Type} (P : Program) (fs : List Field) (off : Nat) (r : Rd α) : Prop :=
  ∀ {H : Type} {enc : TypeId × Value → H} {W : World} {n : Nat} {cs : List Value} {xs : List (DataW H × List MemPlace)}, xs.length = fs.length →
    (∀ (i : Nat) (f : Field), fs[i]? = some f → DataW.trod enc P W 0 (fun _ => true) true n f.type ((cs.drop f.offset).take (P.cellsOf f.type)) = xs[i]?) → ∃ a, r.lie (allL W) a (fun k => cs[off + k]?)
theorem soundF_one {α : Type} {r : Rd α} {f : Field} {off : Nat} (h : Sound P f.type r) (ho : f.offset = off) : SoundF P [f] off r := fun {H enc W n cs xs} hl hi => by
  have h1 := hi 0 f rfl
  obtain ⟨y, hy⟩ : ∃ y, xs[0]? = some y := ⟨xs[0]'(by simp [hl]), List.getElem?_eq_getElem _⟩
  rw [hy] at h1
  obtain ⟨a, ha⟩ := h.2 h1
  refine ⟨a, r.mono (fun k v hk => ?_) ha⟩
  have := cut_get hk
  rwa [ho] at this
theorem soundF_cons {α β : Type} {r : Rd α} {s : Rd β} {f : Field} {fs : List Field} {off : Nat} (h : Sound P f.type r) (ho : f.offset = off) (hs : SoundF P fs (off + r.n) s) : SoundF P (f :: fs) off (pairR r s) := fun {H enc W n cs xs} hl hi => by
  obtain ⟨y, xs, rfl⟩ : ∃ y ys, xs = y :: ys := by
    cases xs with
    | nil => simp at hl
    | cons y ys => exact ⟨y, ys, rfl⟩
  obtain ⟨a, ha⟩ := soundF_one (P := P) h ho (enc := enc) (W := W) (n := n) (cs := cs) (xs := [y]) rfl (fun i g hg => by
    cases i with
    | zero => exact hi 0 g hg
    | succ i => simp at hg)
  obtain ⟨b, hb⟩ := hs (enc := enc) (W := W) (n := n) (cs := cs) (xs := xs) (by simpa using hl) (fun i g hg => hi (i + 1) g hg)
  exact ⟨(a, b), ha, by simpa [Nat.add_assoc] using hb⟩
theorem sound_struct {α : Type} {r : Rd α} {fs : Array Field} (ht : P.underlying t = some (.struct fs)) (hc : P.cellsOf t = r.n) (h : SoundF P fs.toList 0 r) : Sound P t r := ⟨hc, fun hx => by
  obtain ⟨xs, n, _, _, _, hl, hi⟩ := DataW.trod_struct ht hx
  obtain ⟨a, ha⟩ := h (by simpa using hl) (fun i f hf => hi i f (by simpa using hf))
  exact ⟨a, by simpa using ha⟩⟩
theorem arg_slice {α : Type} {H : Type} {enc : TypeId × Value → H} {W : World} {rc : Reach} {b0 e : TypeId} {r : Rd α} {v : Value} {d : DataW H} {p : List MemPlace} (ht : P.underlying t = some (.slice e)) (hs : Sound P t (sliceR r))
    (hval : Value.okWide P W rc b0 t v) (h : DataW.Trod enc P W 0 (fun _ => true) true t v d p) : ∃ (a : Option Addr) (cap : Nat) (xs : List α), v = .slice a xs.length cap ∧ xs.length ≤ cap ∧ cap ≤ maxLen ∧ SlLie r (allL W) a xs := by
  obtain ⟨a0, len, cap, rfl⟩ := okWide_slice ht hval
  obtain ⟨fuel, hf⟩ := h
  obtain ⟨xs, a, cap', h1, h2⟩ := hs.2 hf
  simp [Value.cells] at h1
  obtain ⟨rfl, rfl, rfl⟩ := h1
  exact ⟨_, _, xs, rfl, h2⟩
end Go.Proofs.Ytmdiabglbmgkkaa
namespace Go.Proofs.Ytmdiabglbmgkkaa
open Go.RowKit
theorem take_min (l : List UInt8) (k : Int) (m : Nat) (hk : k = m) : l.take (if k < ((l.length : Nat) : Int) then k else ((l.length : Nat) : Int)).toNat = l.take m := by
  subst hk
  split
  · rw [Int.toNat_natCast]
  · rw [Int.toNat_natCast, List.take_length, List.take_of_length_le (by omega)]
attribute [local irreducible] Fn WC WL WR OW Qt YieldFn QW
end Go.Proofs.Ytmdiabglbmgkkaa
namespace Go.Proofs.Ytmdiabglbmgkkaa
open Go.RowKit
def Left (x y : F1) : Prop := ∃ m, x.2 ≤ m ∧ m ≤ x.1.length ∧ y = (x.1.take m, m)
theorem crash1_left {st : FG × List UInt8} {n : Int} (hm : (st.1 n).2 ≤ (st.1 n).1.length) : Left (st.1 n) ((crash1 st n).1 n) := by
  obtain ⟨g, ch⟩ := st
  have up : ∀ x : F1, upG g n x n = x := fun x => by simp [upG]
  cases ch with
  | nil => exact ⟨(g n).2, Nat.le_refl _, hm, up _⟩
  | cons c ch =>
    by_cases hlt : (g n).2 < (g n).1.length
    · have := Nat.mod_lt c.toNat (show 0 < (g n).1.length - (g n).2 + 1 by omega)
      have e : crash1 (g, c :: ch) n = (upG g n ((g n).1.take ((g n).2 + c.toNat % ((g n).1.length - (g n).2 + 1)), (g n).2 + c.toNat % ((g n).1.length - (g n).2 + 1)), ch) := by
        unfold crash1
        dsimp only
        rw [if_pos hlt]
      rw [e]
      exact ⟨(g n).2 + c.toNat % ((g n).1.length - (g n).2 + 1), Nat.le_add_right _ _, by dsimp only; omega, up _⟩
    · have e : crash1 (g, c :: ch) n = (upG g n ((g n).1.take (g n).2, (g n).2), c :: ch) := by
        unfold crash1
        dsimp only
        rw [if_neg hlt]
      rw [e]
      exact ⟨(g n).2, Nat.le_refl _, hm, up _⟩
theorem crashes_left : ∀ {xs : List Int} {g : FG} {ch : List UInt8}, xs.Nodup → (∀ n, (g n).2 ≤ (g n).1.length) → ∀ n, n ∈ xs → Left (g n) ((crashes xs g ch).1 n)
  | [], _, _, _, _, _, h => by simp at h
  | x :: xs, g, ch, hn, hm, n, h => by
    obtain ⟨h1, h2⟩ := List.nodup_cons.1 hn
    have e : crashes (x :: xs) g ch = crashes xs (crash1 (g, ch) x).1 (crash1 (g, ch) x).2 := rfl
    have hm' : ∀ n, ((crash1 (g, ch) x).1 n).2 ≤ ((crash1 (g, ch) x).1 n).1.length := fun k => by
      by_cases hk : k = x
      · subst hk
        obtain ⟨m, _, q2, q3⟩ := crash1_left (st := (g, ch)) (n := k) (hm k)
        rw [q3]
        simp only [List.length_take]
        dsimp only at q2
        omega
      · rw [crash1_keep _ _ _ hk]; exact hm k
    rw [e]
    rcases List.mem_cons.1 h with rfl | h
    · rw [crashes_keep _ _ _ _ h1]
      exact crash1_left (st := (g, ch)) (hm n)
    · have hne : n ≠ x := fun e => h1 (e ▸ h)
      have := crashes_left (xs := xs) (g := (crash1 (g, ch) x).1) (ch := (crash1 (g, ch) x).2) h2 hm' n h
      rwa [crash1_keep _ _ _ hne] at this
theorem crashG_left {g : FG} (hf : Few g) (hm : ∀ n, (g n).2 ≤ (g n).1.length) (hz : ∀ n, (g n).1 = [] → g n = ([], 0)) (ch : List UInt8) (n : Int) : Left (g n) (crashG g ch n) := by
  unfold crashG
  by_cases h : n ∈ keys7 g
  · exact crashes_left (keys7_rise g).2 hm n h
  · rw [crashes_keep _ _ _ _ h]
    rw [mem_keys7 hf] at h
    have : (g n).1 = [] := by simpa using h
    rw [hz n this]
    exact ⟨0, Nat.le_refl _, Nat.le_refl _, rfl⟩
attribute [local irreducible] Fn WC WL WR OW Qt YieldFn QW
end Go.Proofs.Ytmdiabglbmgkkaa
