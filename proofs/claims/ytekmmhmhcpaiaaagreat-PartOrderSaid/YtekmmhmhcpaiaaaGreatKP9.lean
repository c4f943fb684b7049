/-
  A part of what the last of these texts needs; by itself it proves no statement.
-/
import Derived.LoopNIn
import Derived.Test.YtekmmhmhcpaiaaaGreatRows
import Derived.Test.YtekmmhmhcpaiaaaGreatKP8
namespace Go.Proofs.YtekmmhmhcpaiaaaGreat
open Go.RowKit
def WCn (c : Cx) (x : Code) (K : Exit → St → Prop) : Nat → St → Prop
  | 0, _ => False
  | m + 1, σ => WC c x (thenK (WCn c x K m) K) σ
theorem WCn.rounds {c : Cx} {x : Code} {K : Exit → St → Prop} : ∀ {m : Nat} {σ : St}, WCn c x K m σ → ∀ a w, Holds c.g c.N σ a w → Code.roundsIn (Fw c.r) c.n c.P x (lift c K) m a w
  | 0, _, h, _, _, _ => h.elim
  | m + 1, σ, h, a, w, ha => by
    rw [roundsIn_succ]
    refine Go.wpIn_mono ((show WC c x (thenK (WCn c x K m) K) σ from h) a w ha) fun e a' w' hl => ?_
    obtain ⟨σ', h1, h2⟩ := hl
    cases e with
    | normal => exact WCn.rounds (m := m) h2 a' w' h1
    | _ => exact ⟨σ', h1, h2⟩
theorem WC_unroll {c : Cx} {x : Code} {K : Exit → St → Prop} {σ : St} (m : Nat) (h : WCn c x K m σ) : WC c (.loop x) K σ := fun a w ha => wpIn_loop_rounds m (h.rounds a w ha)
theorem WCn_s {c : Cx} {x : Code} {K : Exit → St → Prop} {m : Nat} {σ : St} (h : WC c x (thenK (WCn c x K m) K) σ) : WCn c x K (m + 1) σ := h
def FilledA (n : Nat) : Array Value → List (Nat × Value) → Array Value → Prop
  | z, [], cs => cs = z
  | z, (i, v) :: r, cs => v.cells.size = n ∧ i * n + n ≤ z.size ∧ FilledA n (putR z (i * n) v.cells) r cs
theorem fill_of_FilledA {n : Nat} : ∀ {parts : List (Nat × Value)} {z cs : Array Value}, FilledA n z parts cs → Instr.fill (fun i => some (i * n, n)) z parts = some cs
  | [], z, cs, h => by cases h; rfl
  | (i, v) :: r, z, cs, ⟨h2, h3, h4⟩ => by
    simp only [Instr.fill]
    rw [if_neg (by simp [h2]; omega)]
    have hf := fold_put v.cells.toList 0 (i * n) z (by simp; omega)
    have he : (v.cells.zipIdx.foldl (fun (cs : Array Value) (p : Value × Nat) => cs.setIfInBounds (i * n + p.2) p.1) z) = putR z (i * n) v.cells := by
      rw [← Array.foldl_toList, Array.toList_zipIdx, hf]
      simp
    have hh := fill_of_FilledA h4
    rw [← he] at hh
    exact hh
class TBuildA (P : Program) (t : TypeId) (z : outParam (Array Value)) (n : outParam Nat) : Prop where
  h : ∀ parts, P.built t parts = Instr.fill (fun i => some (i * n, n)) z parts
theorem Qt_buildA {c : Cx} {s : List (Nat × Value)} {L : List (Nat × Obj)} {o : Oper} {t : TypeId} {z : Array Value} {n : Nat} [hb : TBuildA c.P t z n] {parts : Array (Nat × Operand)} {vs : List (Nat × Value)} {cs : Array Value} (ho : o.op = .build t parts) (hx : evp s parts.toList = some vs := by exact rfl) (hf : FilledA n z vs cs := by repeat (first | exact rfl | refine ⟨(by first | with_reducible assumption | rfl | assumption), (by first | exact Nat.le_of_ble_eq_true rfl | omega), ?_⟩)) : Qt c s L o (.agg cs) :=
  ⟨(fun cc => by simp [ho]), fun ρ hρ w _ => by
    have h1 := evp_map hρ hx
    have h2 := run_build (P := c.P) w t (parts.map fun (i, x) => (i, ρ x)) cs (by
      rw [hb.h, Array.toList_map, h1]
      have := fill_of_FilledA hf
      simpa using this)
    simp [execOp, ho, h2]⟩
section
variable {c : Cx} {s : List (Nat × Value)} {L : List (Nat × Obj)} {o : Oper}
theorem Qt_indexA {t len E n : Nat} [hu : TUnd c.P t (.array len E)] [hs : TSize c.P E n] [ha : TAgg c.P E true] {x y : Operand} {k : IntKind} {i : Int} {vs : Array Value} (ho : o.op = .index t x y) (hx : ev s x = some (.agg vs) := by exact rfl) (hy : ev s y = some (.int k i) := by exact rfl) (h0 : 0 ≤ i := by first | decide | with_reducible assumption | omega) (h1 : i < len := by first | decide | with_reducible assumption | omega) : Qt c s L o (.agg (vs.extract (i.toNat * n) (i.toNat * n + n))) :=
  Qt_of_run (by simp [ho]) (fun ρ hρ w _ => by
    have h := partN (P := c.P) (t := E) (n := n) (xs := vs) (off := i.toNat * n) w
    simp [execOp, ho, hρ x _ hx, hρ y _ hy, Instr.index, asIntOf, run_underlying hu.h, hs.h, h0, h1, h])
theorem Qt_indexV {t len E n : Nat} [hu : TUnd c.P t (.array len E)] [hs : TSize c.P E n] [ha : TAgg c.P E false] {x y : Operand} {k : IntKind} {i : Int} {vs : Array Value} {v : Value} (ho : o.op = .index t x y) (hx : ev s x = some (.agg vs) := by exact rfl) (hy : ev s y = some (.int k i) := by exact rfl) (h0 : 0 ≤ i := by first | decide | with_reducible assumption | omega) (h1 : i < len := by first | decide | with_reducible assumption | omega) (hv : vs[i.toNat * n]? = some v := by first | with_reducible assumption | rfl) : Qt c s L o v :=
  Qt_of_run (by simp [ho]) (fun ρ hρ w _ => by
    have h := part1 (P := c.P) (t := E) (xs := vs) (off := i.toNat * n) hv w
    simp [execOp, ho, hρ x _ hx, hρ y _ hy, Instr.index, asIntOf, run_underlying hu.h, hs.h, h0, h1, h])
end
end Go.Proofs.YtekmmhmhcpaiaaaGreat
namespace Go.Proofs.YtekmmhmhcpaiaaaGreat
instance : TSize Tryz.prog 2 1 := ⟨Tryz.sizeOf2⟩
instance : TAgg Tryz.prog 2 false := ⟨Tryz.isAgg2⟩
theorem row2 : (Tryz.prog.info? 2).map (fun i => (i.size, i.bytes)) = some (1, 8) := by kernel_rfl
instance : TUnd Tryz.prog 2 (.int Go.IntKind.i64) := ⟨Tryz.underlying2⟩
instance : TSize Tryz.prog 3 1 := ⟨Tryz.sizeOf3⟩
instance : TAgg Tryz.prog 3 false := ⟨Tryz.isAgg3⟩
instance : TZero Tryz.prog 3 (Go.Value.int Go.IntKind.i64 0) := ⟨Tryz.zeroValue3⟩
theorem row3 : (Tryz.prog.info? 3).map (fun i => (i.size, i.bytes)) = some (1, 8) := by kernel_rfl
instance : TUnd Tryz.prog 3 (.int Go.IntKind.i64) := ⟨Tryz.underlying3⟩
instance : TAgg Tryz.prog 4 false := ⟨Tryz.isAgg4⟩
instance : TUnd Tryz.prog 4 .bool := ⟨Tryz.underlying4⟩
instance : TSize Tryz.prog 5 1 := ⟨Tryz.sizeOf5⟩
instance : TAgg Tryz.prog 5 false := ⟨Tryz.isAgg5⟩
instance : TUnd Tryz.prog 5 (.int Go.IntKind.u8) := ⟨Tryz.underlying5⟩
instance : TUnd Tryz.prog 9 .string := ⟨Tryz.underlying9⟩
instance : TUnd Tryz.prog 20 (Go.TypeDesc.interface #[]) := ⟨Tryz.underlying20⟩
instance : TSize Tryz.prog 23 4 := ⟨Tryz.sizeOf23⟩
instance : TAgg Tryz.prog 23 true := ⟨Tryz.isAgg23⟩
def zc23 : Array Value :=  #[Go.Value.int Go.IntKind.u8 0, Go.Value.int Go.IntKind.u8 0, Go.Value.int Go.IntKind.u8 0, Go.Value.int Go.IntKind.u8 0]
instance : TFld Tryz.prog 23 0 0 5 1 := ⟨⟨_, _, Tryz.underlying23, rfl, rfl, rfl, Tryz.sizeOf5, by decide⟩⟩
instance : TFld Tryz.prog 23 1 1 5 1 := ⟨⟨_, _, Tryz.underlying23, rfl, rfl, rfl, Tryz.sizeOf5, by decide⟩⟩
instance : TFld Tryz.prog 23 2 2 5 1 := ⟨⟨_, _, Tryz.underlying23, rfl, rfl, rfl, Tryz.sizeOf5, by decide⟩⟩
instance : TFld Tryz.prog 23 3 3 5 1 := ⟨⟨_, _, Tryz.underlying23, rfl, rfl, rfl, Tryz.sizeOf5, by decide⟩⟩
instance : TUnd Tryz.prog 24 (.slice 82) := ⟨Tryz.underlying24⟩
instance : TUnd Tryz.prog 25 (.slice 38) := ⟨Tryz.underlying25⟩
instance : TAgg Tryz.prog 27 false := ⟨Tryz.isAgg27⟩
instance : TUnd Tryz.prog 27 (.pointer 107) := ⟨Tryz.underlying27⟩
instance : TAgg Tryz.prog 29 false := ⟨Tryz.isAgg29⟩
instance : TUnd Tryz.prog 29 (.pointer 89) := ⟨Tryz.underlying29⟩
instance : TSize Tryz.prog 31 1 := ⟨Tryz.sizeOf31⟩
instance : TAgg Tryz.prog 31 false := ⟨Tryz.isAgg31⟩
instance : TZero Tryz.prog 31 (Go.Value.slice Option.none 0 0) := ⟨Tryz.zeroValue31⟩
instance : TUnd Tryz.prog 31 (.slice 35) := ⟨Tryz.underlying31⟩
instance : TAgg Tryz.prog 33 false := ⟨Tryz.isAgg33⟩
instance : TUnd Tryz.prog 33 (.int Go.IntKind.u32) := ⟨Tryz.underlying33⟩
instance : TSize Tryz.prog 35 6 := ⟨Tryz.sizeOf35⟩
instance : TAgg Tryz.prog 35 true := ⟨Tryz.isAgg35⟩
def zc35 : Array Value :=  #[Go.Value.int Go.IntKind.u32 0, Go.Value.int Go.IntKind.i64 0, Go.Value.int Go.IntKind.i64 0, Go.Value.int Go.IntKind.u8 0, Go.Value.bool Bool.false, Go.Value.bool Bool.false]
instance : TZero Tryz.prog 35 (.agg zc35) := ⟨Tryz.zeroValue35⟩
theorem row35 : (Tryz.prog.info? 35).map (fun i => (i.size, i.bytes)) = some (6, 32) := by kernel_rfl
instance : TFld Tryz.prog 35 0 0 33 1 := ⟨⟨_, _, Tryz.underlying35, rfl, rfl, rfl, Tryz.sizeOf33, by decide⟩⟩
instance : TFld Tryz.prog 35 1 1 2 1 := ⟨⟨_, _, Tryz.underlying35, rfl, rfl, rfl, Tryz.sizeOf2, by decide⟩⟩
instance : TFld Tryz.prog 35 2 2 2 1 := ⟨⟨_, _, Tryz.underlying35, rfl, rfl, rfl, Tryz.sizeOf2, by decide⟩⟩
instance : TFld Tryz.prog 35 3 3 5 1 := ⟨⟨_, _, Tryz.underlying35, rfl, rfl, rfl, Tryz.sizeOf5, by decide⟩⟩
instance : TFld Tryz.prog 35 4 4 4 1 := ⟨⟨_, _, Tryz.underlying35, rfl, rfl, rfl, Tryz.sizeOf4, by decide⟩⟩
instance : TFld Tryz.prog 35 5 5 4 1 := ⟨⟨_, _, Tryz.underlying35, rfl, rfl, rfl, Tryz.sizeOf4, by decide⟩⟩
instance : TBuild Tryz.prog 35 zc35 [(0, 1), (1, 1), (2, 1), (3, 1), (4, 1), (5, 1)] := ⟨fun _ => by kernel_rfl⟩
instance : TAgg Tryz.prog 36 false := ⟨Tryz.isAgg36⟩
instance : TUnd Tryz.prog 36 (.int Go.IntKind.u16) := ⟨Tryz.underlying36⟩
instance : TSize Tryz.prog 38 4 := ⟨Tryz.sizeOf38⟩
instance : TAgg Tryz.prog 38 true := ⟨Tryz.isAgg38⟩
instance : TFld Tryz.prog 38 0 0 5 1 := ⟨⟨_, _, Tryz.underlying38, rfl, rfl, rfl, Tryz.sizeOf5, by decide⟩⟩
instance : TFld Tryz.prog 38 1 1 5 1 := ⟨⟨_, _, Tryz.underlying38, rfl, rfl, rfl, Tryz.sizeOf5, by decide⟩⟩
instance : TFld Tryz.prog 38 2 2 36 1 := ⟨⟨_, _, Tryz.underlying38, rfl, rfl, rfl, Tryz.sizeOf36, by decide⟩⟩
instance : TFld Tryz.prog 38 3 3 2 1 := ⟨⟨_, _, Tryz.underlying38, rfl, rfl, rfl, Tryz.sizeOf2, by decide⟩⟩
instance : TZero Tryz.prog 46 (Go.Value.slice Option.none 0 0) := ⟨Tryz.zeroValue46⟩
instance : TUnd Tryz.prog 46 (.slice 53) := ⟨Tryz.underlying46⟩
instance : TAgg Tryz.prog 49 false := ⟨Tryz.isAgg49⟩
instance : TUnd Tryz.prog 49 (.int Go.IntKind.u64) := ⟨Tryz.underlying49⟩
instance : TSize Tryz.prog 51 5 := ⟨Tryz.sizeOf51⟩
instance : TAgg Tryz.prog 51 true := ⟨Tryz.isAgg51⟩
def zc51 : Array Value :=  #[Go.Value.int Go.IntKind.i64 0, Go.Value.int Go.IntKind.i64 0, Go.Value.int Go.IntKind.u64 0, Go.Value.int Go.IntKind.i64 0, Go.Value.int Go.IntKind.i64 0]
instance : TZero Tryz.prog 51 (.agg zc51) := ⟨Tryz.zeroValue51⟩
instance : TFld Tryz.prog 51 0 0 2 1 := ⟨⟨_, _, Tryz.underlying51, rfl, rfl, rfl, Tryz.sizeOf2, by decide⟩⟩
instance : TFld Tryz.prog 51 1 1 2 1 := ⟨⟨_, _, Tryz.underlying51, rfl, rfl, rfl, Tryz.sizeOf2, by decide⟩⟩
instance : TFld Tryz.prog 51 2 2 49 1 := ⟨⟨_, _, Tryz.underlying51, rfl, rfl, rfl, Tryz.sizeOf49, by decide⟩⟩
instance : TFld Tryz.prog 51 3 3 2 1 := ⟨⟨_, _, Tryz.underlying51, rfl, rfl, rfl, Tryz.sizeOf2, by decide⟩⟩
instance : TFld Tryz.prog 51 4 4 2 1 := ⟨⟨_, _, Tryz.underlying51, rfl, rfl, rfl, Tryz.sizeOf2, by decide⟩⟩
instance : TBuild Tryz.prog 51 zc51 [(0, 1), (1, 1), (2, 1), (3, 1), (4, 1)] := ⟨fun _ => by kernel_rfl⟩
instance : TSize Tryz.prog 53 10 := ⟨Tryz.sizeOf53⟩
instance : TAgg Tryz.prog 53 true := ⟨Tryz.isAgg53⟩
def zc53 : Array Value :=  #[Go.Value.int Go.IntKind.i64 0, Go.Value.int Go.IntKind.u32 0, Go.Value.int Go.IntKind.i64 0, Go.Value.int Go.IntKind.i64 0, Go.Value.int Go.IntKind.u8 0, Go.Value.int Go.IntKind.i64 0, Go.Value.int Go.IntKind.i64 0, Go.Value.int Go.IntKind.u64 0, Go.Value.int Go.IntKind.i64 0, Go.Value.int Go.IntKind.i64 0]
instance : TZero Tryz.prog 53 (.agg zc53) := ⟨Tryz.zeroValue53⟩
theorem row53 : (Tryz.prog.info? 53).map (fun i => (i.size, i.bytes)) = some (10, 80) := by kernel_rfl
instance : TFld Tryz.prog 53 0 0 3 1 := ⟨⟨_, _, Tryz.underlying53, rfl, rfl, rfl, Tryz.sizeOf3, by decide⟩⟩
instance : TFld Tryz.prog 53 1 1 33 1 := ⟨⟨_, _, Tryz.underlying53, rfl, rfl, rfl, Tryz.sizeOf33, by decide⟩⟩
instance : TFld Tryz.prog 53 2 2 2 1 := ⟨⟨_, _, Tryz.underlying53, rfl, rfl, rfl, Tryz.sizeOf2, by decide⟩⟩
instance : TFld Tryz.prog 53 3 3 2 1 := ⟨⟨_, _, Tryz.underlying53, rfl, rfl, rfl, Tryz.sizeOf2, by decide⟩⟩
instance : TFld Tryz.prog 53 4 4 5 1 := ⟨⟨_, _, Tryz.underlying53, rfl, rfl, rfl, Tryz.sizeOf5, by decide⟩⟩
instance : TFld Tryz.prog 53 5 5 51 5 := ⟨⟨_, _, Tryz.underlying53, rfl, rfl, rfl, Tryz.sizeOf51, by decide⟩⟩
instance : TBuild Tryz.prog 53 zc53 [(0, 1), (1, 1), (2, 1), (3, 1), (4, 1), (5, 5)] := ⟨fun _ => by kernel_rfl⟩
instance : TSize Tryz.prog 55 1 := ⟨Tryz.sizeOf55⟩
instance : TAgg Tryz.prog 55 false := ⟨Tryz.isAgg55⟩
instance : TZero Tryz.prog 55 (Go.Value.int Go.IntKind.i64 0) := ⟨Tryz.zeroValue55⟩
instance : TSize Tryz.prog 59 4 := ⟨Tryz.sizeOf59⟩
instance : TAgg Tryz.prog 59 true := ⟨Tryz.isAgg59⟩
def zc59 : Array Value :=  #[Go.Value.int Go.IntKind.i64 0, Go.Value.int Go.IntKind.i64 0, Go.Value.int Go.IntKind.i64 0, Go.Value.int Go.IntKind.i64 0]
instance : TZero Tryz.prog 59 (.agg zc59) := ⟨Tryz.zeroValue59⟩
theorem row59 : (Tryz.prog.info? 59).map (fun i => (i.size, i.bytes)) = some (4, 32) := by kernel_rfl
instance : TFld Tryz.prog 59 0 0 3 1 := ⟨⟨_, _, Tryz.underlying59, rfl, rfl, rfl, Tryz.sizeOf3, by decide⟩⟩
instance : TFld Tryz.prog 59 1 1 2 1 := ⟨⟨_, _, Tryz.underlying59, rfl, rfl, rfl, Tryz.sizeOf2, by decide⟩⟩
instance : TFld Tryz.prog 59 2 2 2 1 := ⟨⟨_, _, Tryz.underlying59, rfl, rfl, rfl, Tryz.sizeOf2, by decide⟩⟩
instance : TFld Tryz.prog 59 3 3 3 1 := ⟨⟨_, _, Tryz.underlying59, rfl, rfl, rfl, Tryz.sizeOf3, by decide⟩⟩
instance : TBuild Tryz.prog 59 zc59 [(0, 1), (1, 1), (2, 1), (3, 1)] := ⟨fun _ => by kernel_rfl⟩
instance : TSize Tryz.prog 60 1 := ⟨Tryz.sizeOf60⟩
instance : TAgg Tryz.prog 60 false := ⟨Tryz.isAgg60⟩
instance : TZero Tryz.prog 60 (Go.Value.slice Option.none 0 0) := ⟨Tryz.zeroValue60⟩
instance : TUnd Tryz.prog 60 (.slice 59) := ⟨Tryz.underlying60⟩
instance : TSize Tryz.prog 62 5 := ⟨Tryz.sizeOf62⟩
instance : TAgg Tryz.prog 62 true := ⟨Tryz.isAgg62⟩
def zc62 : Array Value :=  #[Go.Value.int Go.IntKind.i64 0, Go.Value.int Go.IntKind.i64 0, Go.Value.int Go.IntKind.i64 0, Go.Value.int Go.IntKind.i64 0, Go.Value.slice Option.none 0 0]
instance : TZero Tryz.prog 62 (.agg zc62) := ⟨Tryz.zeroValue62⟩
theorem row62 : (Tryz.prog.info? 62).map (fun i => (i.size, i.bytes)) = some (5, 56) := by kernel_rfl
instance : TFld Tryz.prog 62 0 0 59 4 := ⟨⟨_, _, Tryz.underlying62, rfl, rfl, rfl, Tryz.sizeOf59, by decide⟩⟩
instance : TFld Tryz.prog 62 1 4 60 1 := ⟨⟨_, _, Tryz.underlying62, rfl, rfl, rfl, Tryz.sizeOf60, by decide⟩⟩
instance : TBuild Tryz.prog 62 zc62 [(0, 4), (4, 1)] := ⟨fun _ => by kernel_rfl⟩
instance : TSize Tryz.prog 63 1 := ⟨Tryz.sizeOf63⟩
instance : TAgg Tryz.prog 63 false := ⟨Tryz.isAgg63⟩
instance : TUnd Tryz.prog 63 (.slice 62) := ⟨Tryz.underlying63⟩
instance : TSize Tryz.prog 65 4 := ⟨Tryz.sizeOf65⟩
instance : TAgg Tryz.prog 65 true := ⟨Tryz.isAgg65⟩
def zc65 : Array Value :=  #[Go.Value.slice Option.none 0 0, Go.Value.slice Option.none 0 0, Go.Value.int Go.IntKind.i64 0, Go.Value.int Go.IntKind.i64 0]
instance : TZero Tryz.prog 65 (.agg zc65) := ⟨Tryz.zeroValue65⟩
instance : TFld Tryz.prog 65 0 0 60 1 := ⟨⟨_, _, Tryz.underlying65, rfl, rfl, rfl, Tryz.sizeOf60, by decide⟩⟩
instance : TFld Tryz.prog 65 1 1 63 1 := ⟨⟨_, _, Tryz.underlying65, rfl, rfl, rfl, Tryz.sizeOf63, by decide⟩⟩
instance : TFld Tryz.prog 65 2 2 2 1 := ⟨⟨_, _, Tryz.underlying65, rfl, rfl, rfl, Tryz.sizeOf2, by decide⟩⟩
instance : TFld Tryz.prog 65 3 3 2 1 := ⟨⟨_, _, Tryz.underlying65, rfl, rfl, rfl, Tryz.sizeOf2, by decide⟩⟩
instance : TBuild Tryz.prog 65 zc65 [(0, 1), (1, 1), (2, 1), (3, 1)] := ⟨fun _ => by kernel_rfl⟩
instance : TSize Tryz.prog 67 5 := ⟨Tryz.sizeOf67⟩
instance : TAgg Tryz.prog 67 true := ⟨Tryz.isAgg67⟩
def zc67 : Array Value :=  #[Go.Value.int Go.IntKind.i64 0, Go.Value.int Go.IntKind.i64 0, Go.Value.int Go.IntKind.i64 0, Go.Value.int Go.IntKind.i64 0, Go.Value.int Go.IntKind.i64 0]
instance : TZero Tryz.prog 67 (.agg zc67) := ⟨Tryz.zeroValue67⟩
instance : TFld Tryz.prog 67 0 0 3 1 := ⟨⟨_, _, Tryz.underlying67, rfl, rfl, rfl, Tryz.sizeOf3, by decide⟩⟩
instance : TFld Tryz.prog 67 1 1 3 1 := ⟨⟨_, _, Tryz.underlying67, rfl, rfl, rfl, Tryz.sizeOf3, by decide⟩⟩
instance : TFld Tryz.prog 67 2 2 3 1 := ⟨⟨_, _, Tryz.underlying67, rfl, rfl, rfl, Tryz.sizeOf3, by decide⟩⟩
instance : TFld Tryz.prog 67 3 3 3 1 := ⟨⟨_, _, Tryz.underlying67, rfl, rfl, rfl, Tryz.sizeOf3, by decide⟩⟩
instance : TFld Tryz.prog 67 4 4 3 1 := ⟨⟨_, _, Tryz.underlying67, rfl, rfl, rfl, Tryz.sizeOf3, by decide⟩⟩
instance : TBuild Tryz.prog 67 zc67 [(0, 1), (1, 1), (2, 1), (3, 1), (4, 1)] := ⟨fun _ => by kernel_rfl⟩
instance : TSize Tryz.prog 69 1 := ⟨Tryz.sizeOf69⟩
instance : TAgg Tryz.prog 69 false := ⟨Tryz.isAgg69⟩
instance : TZero Tryz.prog 69 (Go.Value.slice Option.none 0 0) := ⟨Tryz.zeroValue69⟩
instance : TUnd Tryz.prog 69 (.slice 3) := ⟨Tryz.underlying69⟩
instance : TSize Tryz.prog 71 10 := ⟨Tryz.sizeOf71⟩
instance : TAgg Tryz.prog 71 true := ⟨Tryz.isAgg71⟩
def zc71 : Array Value :=  #[Go.Value.int Go.IntKind.i64 0, Go.Value.int Go.IntKind.i64 0, Go.Value.slice Option.none 0 0, Go.Value.int Go.IntKind.i64 0, Go.Value.int Go.IntKind.i64 0, Go.Value.int Go.IntKind.i64 0, Go.Value.int Go.IntKind.i64 0, Go.Value.int Go.IntKind.i64 0, Go.Value.int Go.IntKind.i64 0, Go.Value.int Go.IntKind.i64 0]
instance : TZero Tryz.prog 71 (.agg zc71) := ⟨Tryz.zeroValue71⟩
theorem row71 : (Tryz.prog.info? 71).map (fun i => (i.size, i.bytes)) = some (10, 96) := by kernel_rfl
instance : TFld Tryz.prog 71 0 0 3 1 := ⟨⟨_, _, Tryz.underlying71, rfl, rfl, rfl, Tryz.sizeOf3, by decide⟩⟩
instance : TFld Tryz.prog 71 1 1 2 1 := ⟨⟨_, _, Tryz.underlying71, rfl, rfl, rfl, Tryz.sizeOf2, by decide⟩⟩
instance : TFld Tryz.prog 71 2 2 69 1 := ⟨⟨_, _, Tryz.underlying71, rfl, rfl, rfl, Tryz.sizeOf69, by decide⟩⟩
instance : TFld Tryz.prog 71 3 3 3 1 := ⟨⟨_, _, Tryz.underlying71, rfl, rfl, rfl, Tryz.sizeOf3, by decide⟩⟩
instance : TFld Tryz.prog 71 4 4 3 1 := ⟨⟨_, _, Tryz.underlying71, rfl, rfl, rfl, Tryz.sizeOf3, by decide⟩⟩
instance : TFld Tryz.prog 71 5 5 59 4 := ⟨⟨_, _, Tryz.underlying71, rfl, rfl, rfl, Tryz.sizeOf59, by decide⟩⟩
instance : TFld Tryz.prog 71 6 9 3 1 := ⟨⟨_, _, Tryz.underlying71, rfl, rfl, rfl, Tryz.sizeOf3, by decide⟩⟩
instance : TBuild Tryz.prog 71 zc71 [(0, 1), (1, 1), (2, 1), (3, 1), (4, 1), (5, 4), (9, 1)] := ⟨fun _ => by kernel_rfl⟩
instance : TSize Tryz.prog 82 6 := ⟨Tryz.sizeOf82⟩
instance : TFld Tryz.prog 82 0 0 5 1 := ⟨⟨_, _, Tryz.underlying82, rfl, rfl, rfl, Tryz.sizeOf5, by decide⟩⟩
instance : TFld Tryz.prog 82 1 1 5 1 := ⟨⟨_, _, Tryz.underlying82, rfl, rfl, rfl, Tryz.sizeOf5, by decide⟩⟩
instance : TFld Tryz.prog 82 2 2 23 4 := ⟨⟨_, _, Tryz.underlying82, rfl, rfl, rfl, Tryz.sizeOf23, by decide⟩⟩
instance : TAgg Tryz.prog 87 false := ⟨Tryz.isAgg87⟩
instance : TUnd Tryz.prog 87 (.map 119 46) := ⟨Tryz.underlying87⟩
def zc89 : Array Value :=  #[Go.Value.pointer Option.none, Go.Value.int Go.IntKind.i64 0, Go.Value.int Go.IntKind.i64 0, Go.Value.map Option.none, Go.Value.int Go.IntKind.i64 0]
instance : TFld Tryz.prog 89 0 0 27 1 := ⟨⟨_, _, Tryz.underlying89, rfl, rfl, rfl, Tryz.sizeOf27, by decide⟩⟩
instance : TFld Tryz.prog 89 1 1 3 1 := ⟨⟨_, _, Tryz.underlying89, rfl, rfl, rfl, Tryz.sizeOf3, by decide⟩⟩
instance : TFld Tryz.prog 89 2 2 3 1 := ⟨⟨_, _, Tryz.underlying89, rfl, rfl, rfl, Tryz.sizeOf3, by decide⟩⟩
instance : TFld Tryz.prog 89 3 3 87 1 := ⟨⟨_, _, Tryz.underlying89, rfl, rfl, rfl, Tryz.sizeOf87, by decide⟩⟩
instance : TFld Tryz.prog 89 4 4 3 1 := ⟨⟨_, _, Tryz.underlying89, rfl, rfl, rfl, Tryz.sizeOf3, by decide⟩⟩
instance : TBuild Tryz.prog 89 zc89 [(0, 1), (1, 1), (2, 1), (3, 1), (4, 1)] := ⟨fun _ => by kernel_rfl⟩
def zc100 : Array Value :=  #[Go.Value.slice Option.none 0 0, Go.Value.slice Option.none 0 0, Go.Value.int Go.IntKind.i64 0, Go.Value.int Go.IntKind.i64 0, Go.Value.int Go.IntKind.i64 0, Go.Value.int Go.IntKind.i64 0, Go.Value.int Go.IntKind.i64 0, Go.Value.int Go.IntKind.i64 0, Go.Value.int Go.IntKind.i64 0]
instance : TFld Tryz.prog 100 1 4 67 5 := ⟨⟨_, _, Tryz.underlying100, rfl, rfl, rfl, Tryz.sizeOf67, by decide⟩⟩
instance : TBuild Tryz.prog 100 zc100 [(0, 4), (4, 5)] := ⟨fun _ => by kernel_rfl⟩
instance : TSize Tryz.prog 102 1 := ⟨Tryz.sizeOf102⟩
instance : TAgg Tryz.prog 102 false := ⟨Tryz.isAgg102⟩
theorem row102 : (Tryz.prog.info? 102).map (fun i => (i.size, i.bytes)) = some (1, 24) := by kernel_rfl
instance : TUnd Tryz.prog 102 (.slice 71) := ⟨Tryz.underlying102⟩
instance : TSize Tryz.prog 103 1 := ⟨Tryz.sizeOf103⟩
instance : TAgg Tryz.prog 103 false := ⟨Tryz.isAgg103⟩
instance : TUnd Tryz.prog 103 (.slice 111) := ⟨Tryz.underlying103⟩
instance : TUnd Tryz.prog 104 (.array 8 103) := ⟨Tryz.underlying104⟩
instance : TSize Tryz.prog 105 1 := ⟨Tryz.sizeOf105⟩
instance : TAgg Tryz.prog 105 false := ⟨Tryz.isAgg105⟩
instance : TUnd Tryz.prog 105 (.slice 102) := ⟨Tryz.underlying105⟩
def zc107 : Array Value :=  #[Go.Value.slice Option.none 0 0, Go.Value.slice Option.none 0 0, Go.Value.int Go.IntKind.i64 0, Go.Value.int Go.IntKind.i64 0, Go.Value.int Go.IntKind.i64 0, Go.Value.int Go.IntKind.i64 0, Go.Value.int Go.IntKind.i64 0, Go.Value.int Go.IntKind.i64 0, Go.Value.int Go.IntKind.i64 0, Go.Value.slice Option.none 0 0, Go.Value.slice Option.none 0 0, Go.Value.slice Option.none 0 0, Go.Value.slice Option.none 0 0, Go.Value.slice Option.none 0 0, Go.Value.slice Option.none 0 0, Go.Value.slice Option.none 0 0, Go.Value.slice Option.none 0 0, Go.Value.slice Option.none 0 0, Go.Value.slice Option.none 0 0, Go.Value.slice Option.none 0 0, Go.Value.slice Option.none 0 0]
instance : TFld Tryz.prog 107 0 0 100 9 := ⟨⟨_, _, Tryz.underlying107, rfl, rfl, rfl, Tryz.sizeOf100, by decide⟩⟩
instance : TFld Tryz.prog 107 1 9 102 1 := ⟨⟨_, _, Tryz.underlying107, rfl, rfl, rfl, Tryz.sizeOf102, by decide⟩⟩
instance : TFld Tryz.prog 107 2 10 104 8 := ⟨⟨_, _, Tryz.underlying107, rfl, rfl, rfl, Tryz.sizeOf104, by decide⟩⟩
instance : TFld Tryz.prog 107 3 18 69 1 := ⟨⟨_, _, Tryz.underlying107, rfl, rfl, rfl, Tryz.sizeOf69, by decide⟩⟩
instance : TFld Tryz.prog 107 4 19 60 1 := ⟨⟨_, _, Tryz.underlying107, rfl, rfl, rfl, Tryz.sizeOf60, by decide⟩⟩
instance : TFld Tryz.prog 107 5 20 105 1 := ⟨⟨_, _, Tryz.underlying107, rfl, rfl, rfl, Tryz.sizeOf105, by decide⟩⟩
instance : TBuild Tryz.prog 107 zc107 [(0, 9), (9, 1), (10, 8), (18, 1), (19, 1), (20, 1)] := ⟨fun _ => by kernel_rfl⟩
instance : TSize Tryz.prog 108 8 := ⟨Tryz.sizeOf108⟩
instance : TAgg Tryz.prog 108 true := ⟨Tryz.isAgg108⟩
def zc108 : Array Value :=  #[Go.Value.int Go.IntKind.i64 0, Go.Value.int Go.IntKind.i64 0, Go.Value.int Go.IntKind.i64 0, Go.Value.int Go.IntKind.i64 0, Go.Value.int Go.IntKind.i64 0, Go.Value.int Go.IntKind.i64 0, Go.Value.int Go.IntKind.i64 0, Go.Value.int Go.IntKind.i64 0]
instance : TZero Tryz.prog 108 (.agg zc108) := ⟨Tryz.zeroValue108⟩
instance : TUnd Tryz.prog 108 (.array 8 3) := ⟨Tryz.underlying108⟩
instance : TSize Tryz.prog 111 2 := ⟨Tryz.sizeOf111⟩
def zc111 : Array Value :=  #[Go.Value.int Go.IntKind.i64 0, Go.Value.int Go.IntKind.i64 0]
theorem row111 : (Tryz.prog.info? 111).map (fun i => (i.size, i.bytes)) = some (2, 16) := by kernel_rfl
instance : TFld Tryz.prog 111 1 1 3 1 := ⟨⟨_, _, Tryz.underlying111, rfl, rfl, rfl, Tryz.sizeOf3, by decide⟩⟩
instance : TBuild Tryz.prog 111 zc111 [(0, 1), (1, 1)] := ⟨fun _ => by kernel_rfl⟩
instance : TSize Tryz.prog 119 2 := ⟨Tryz.sizeOf119⟩
instance : TAgg Tryz.prog 119 true := ⟨Tryz.isAgg119⟩
def zc119 : Array Value :=  #[Go.Value.int Go.IntKind.i64 0, Go.Value.int Go.IntKind.u32 0]
instance : TZero Tryz.prog 119 (.agg zc119) := ⟨Tryz.zeroValue119⟩
instance : TBuild Tryz.prog 119 zc119 [(0, 1), (1, 1)] := ⟨fun _ => by kernel_rfl⟩
instance : TUnd Tryz.prog 120 (.pointer 71) := ⟨Tryz.underlying120⟩
instance : TAgg Tryz.prog 135 false := ⟨Tryz.isAgg135⟩
instance : TSize Tryz.prog 138 3 := ⟨Tryz.sizeOf138⟩
instance : TAgg Tryz.prog 138 true := ⟨Tryz.isAgg138⟩
def zc138 : Array Value :=  #[Go.Value.int Go.IntKind.i64 0, Go.Value.nilFunc, Go.Value.nilFunc]
instance : TZero Tryz.prog 138 (.agg zc138) := ⟨Tryz.zeroValue138⟩
instance : TFld Tryz.prog 138 0 0 3 1 := ⟨⟨_, _, Tryz.underlying138, rfl, rfl, rfl, Tryz.sizeOf3, by decide⟩⟩
instance : TFld Tryz.prog 138 1 1 135 1 := ⟨⟨_, _, Tryz.underlying138, rfl, rfl, rfl, Tryz.sizeOf135, by decide⟩⟩
instance : TBuild Tryz.prog 138 zc138 [(0, 1), (1, 1), (2, 1)] := ⟨fun _ => by kernel_rfl⟩
instance : TSize Tryz.prog 139 24 := ⟨Tryz.sizeOf139⟩
instance : TAgg Tryz.prog 139 true := ⟨Tryz.isAgg139⟩
def zc139 : Array Value :=  #[Go.Value.int Go.IntKind.i64 0, Go.Value.nilFunc, Go.Value.nilFunc, Go.Value.int Go.IntKind.i64 0, Go.Value.nilFunc, Go.Value.nilFunc, Go.Value.int Go.IntKind.i64 0, Go.Value.nilFunc, Go.Value.nilFunc, Go.Value.int Go.IntKind.i64 0, Go.Value.nilFunc, Go.Value.nilFunc, Go.Value.int Go.IntKind.i64 0, Go.Value.nilFunc, Go.Value.nilFunc, Go.Value.int Go.IntKind.i64 0, Go.Value.nilFunc, Go.Value.nilFunc, Go.Value.int Go.IntKind.i64 0, Go.Value.nilFunc, Go.Value.nilFunc, Go.Value.int Go.IntKind.i64 0, Go.Value.nilFunc, Go.Value.nilFunc]
instance : TZero Tryz.prog 139 (.agg zc139) := ⟨Tryz.zeroValue139⟩
instance : TUnd Tryz.prog 139 (.array 8 138) := ⟨Tryz.underlying139⟩
instance : TSize Tryz.prog 142 1 := ⟨Tryz.sizeOf142⟩
instance : TAgg Tryz.prog 142 false := ⟨Tryz.isAgg142⟩
instance : TUnd Tryz.prog 142 (.slice 144) := ⟨Tryz.underlying142⟩
instance : TSize Tryz.prog 144 2 := ⟨Tryz.sizeOf144⟩
instance : TAgg Tryz.prog 144 true := ⟨Tryz.isAgg144⟩
def zc144 : Array Value :=  #[Go.Value.int Go.IntKind.i64 0, Go.Value.int Go.IntKind.i64 0]
instance : TZero Tryz.prog 144 (.agg zc144) := ⟨Tryz.zeroValue144⟩
theorem row144 : (Tryz.prog.info? 144).map (fun i => (i.size, i.bytes)) = some (2, 16) := by kernel_rfl
instance : TUnd Tryz.prog 144 (.array 2 2) := ⟨Tryz.underlying144⟩
instance : TUnd Tryz.prog 145 (.int Go.IntKind.u64) := ⟨Tryz.underlying145⟩
instance : TSize Tryz.prog 165 2 := ⟨Tryz.sizeOf165⟩
instance : TAgg Tryz.prog 165 true := ⟨Tryz.isAgg165⟩
def zc165 : Array Value :=  #[Go.Value.int Go.IntKind.i64 0, Go.Value.int Go.IntKind.i64 0]
instance : TZero Tryz.prog 165 (.agg zc165) := ⟨Tryz.zeroValue165⟩
instance : TFld Tryz.prog 165 0 0 3 1 := ⟨⟨_, _, Tryz.underlying165, rfl, rfl, rfl, Tryz.sizeOf3, by decide⟩⟩
instance : TFld Tryz.prog 165 1 1 3 1 := ⟨⟨_, _, Tryz.underlying165, rfl, rfl, rfl, Tryz.sizeOf3, by decide⟩⟩
instance : TBuild Tryz.prog 165 zc165 [(0, 1), (1, 1)] := ⟨fun _ => by kernel_rfl⟩
instance : TSize Tryz.prog 169 3 := ⟨Tryz.sizeOf169⟩
instance : TAgg Tryz.prog 169 true := ⟨Tryz.isAgg169⟩
def zc169 : Array Value :=  #[Go.Value.int Go.IntKind.i64 0, Go.Value.int Go.IntKind.i64 0, Go.Value.int Go.IntKind.i64 0]
instance : TZero Tryz.prog 169 (.agg zc169) := ⟨Tryz.zeroValue169⟩
instance : TUnd Tryz.prog 169 (.array 3 3) := ⟨Tryz.underlying169⟩
instance : TSize Tryz.prog 177 1 := ⟨Tryz.sizeOf177⟩
instance : TAgg Tryz.prog 177 false := ⟨Tryz.isAgg177⟩
instance : TSize Tryz.prog 178 4 := ⟨Tryz.sizeOf178⟩
instance : TAgg Tryz.prog 178 true := ⟨Tryz.isAgg178⟩
def zc178 : Array Value :=  #[Go.Value.nilFunc, Go.Value.nilFunc, Go.Value.nilFunc, Go.Value.nilFunc]
instance : TZero Tryz.prog 178 (.agg zc178) := ⟨Tryz.zeroValue178⟩
instance : TUnd Tryz.prog 178 (.array 4 177) := ⟨Tryz.underlying178⟩
instance : TSize Tryz.prog 187 1 := ⟨Tryz.sizeOf187⟩
instance : TAgg Tryz.prog 187 false := ⟨Tryz.isAgg187⟩
instance : TSize Tryz.prog 188 4 := ⟨Tryz.sizeOf188⟩
instance : TAgg Tryz.prog 188 true := ⟨Tryz.isAgg188⟩
def zc188 : Array Value :=  #[Go.Value.nilFunc, Go.Value.nilFunc, Go.Value.nilFunc, Go.Value.nilFunc]
instance : TZero Tryz.prog 188 (.agg zc188) := ⟨Tryz.zeroValue188⟩
instance : TUnd Tryz.prog 188 (.array 4 187) := ⟨Tryz.underlying188⟩
def zc192 : Array Value :=  #[Go.Value.slice Option.none 0 0, Go.Value.slice Option.none 0 0, Go.Value.int Go.IntKind.i64 0, Go.Value.int Go.IntKind.i64 0, Go.Value.int Go.IntKind.i64 0, Go.Value.int Go.IntKind.i64 0, Go.Value.int Go.IntKind.i64 0, Go.Value.int Go.IntKind.i64 0, Go.Value.int Go.IntKind.i64 0, Go.Value.slice Option.none 0 0, Go.Value.int Go.IntKind.i64 0, Go.Value.slice Option.none 0 0, Go.Value.slice Option.none 0 0, Go.Value.slice Option.none 0 0, Go.Value.slice Option.none 0 0, Go.Value.slice Option.none 0 0, Go.Value.slice Option.none 0 0, Go.Value.slice Option.none 0 0, Go.Value.slice Option.none 0 0]
instance : TBuild Tryz.prog 192 zc192 [(0, 4), (4, 5), (9, 1), (10, 1), (11, 8)] := ⟨fun _ => by kernel_rfl⟩
instance : TZero Tryz.prog 197 (Go.Value.nilFunc) := ⟨Tryz.zeroValue197⟩
instance : TUnd Tryz.prog 199 (.map 3 197) := ⟨Tryz.underlying199⟩
instance : TSize Tryz.prog 206 1 := ⟨Tryz.sizeOf206⟩
instance : TAgg Tryz.prog 206 true := ⟨Tryz.isAgg206⟩
def zc206 : Array Value :=  #[Go.Value.int Go.IntKind.i64 0]
instance : TZero Tryz.prog 206 (.agg zc206) := ⟨Tryz.zeroValue206⟩
instance : TFld Tryz.prog 206 0 0 55 1 := ⟨⟨_, _, Tryz.underlying206, rfl, rfl, rfl, Tryz.sizeOf55, by decide⟩⟩
instance : TBuild Tryz.prog 206 zc206 [(0, 1)] := ⟨fun _ => by kernel_rfl⟩
instance : TUnd Tryz.prog 224 (.slice 227) := ⟨Tryz.underlying224⟩
instance : TSize Tryz.prog 227 6 := ⟨Tryz.sizeOf227⟩
def zc227 : Array Value :=  #[Go.Value.int Go.IntKind.i64 0, Go.Value.int Go.IntKind.i64 0, Go.Value.int Go.IntKind.i64 0, Go.Value.int Go.IntKind.i64 0, Go.Value.int Go.IntKind.i64 0, Go.Value.bool Bool.false]
theorem row227 : (Tryz.prog.info? 227).map (fun i => (i.size, i.bytes)) = some (6, 48) := by kernel_rfl
instance : TFld Tryz.prog 227 0 0 59 4 := ⟨⟨_, _, Tryz.underlying227, rfl, rfl, rfl, Tryz.sizeOf59, by decide⟩⟩
instance : TFld Tryz.prog 227 2 5 4 1 := ⟨⟨_, _, Tryz.underlying227, rfl, rfl, rfl, Tryz.sizeOf4, by decide⟩⟩
instance : TBuild Tryz.prog 227 zc227 [(0, 4), (4, 1), (5, 1)] := ⟨fun _ => by kernel_rfl⟩
instance : TRow Tryz.prog 2 #[Go.Value.int Go.IntKind.i64 0] 1 8 := TRow.of Tryz.zeroValue2 rfl row2 rfl
instance : TRow Tryz.prog 3 #[Go.Value.int Go.IntKind.i64 0] 1 8 := TRow.of Tryz.zeroValue3 rfl row3 rfl
instance : TRow Tryz.prog 35 zc35 6 32 := TRow.of Tryz.zeroValue35 rfl row35 rfl
instance : TRow Tryz.prog 53 zc53 10 80 := TRow.of Tryz.zeroValue53 rfl row53 rfl
instance : TRow Tryz.prog 59 zc59 4 32 := TRow.of Tryz.zeroValue59 rfl row59 rfl
instance : TRow Tryz.prog 62 zc62 5 56 := TRow.of Tryz.zeroValue62 rfl row62 rfl
instance : TRow Tryz.prog 71 zc71 10 96 := TRow.of Tryz.zeroValue71 rfl row71 rfl
instance : TRow Tryz.prog 102 #[Go.Value.slice Option.none 0 0] 1 24 := TRow.of Tryz.zeroValue102 rfl row102 rfl
instance : TRow Tryz.prog 111 zc111 2 16 := TRow.of Tryz.zeroValue111 rfl row111 rfl
instance : TRow Tryz.prog 144 zc144 2 16 := TRow.of Tryz.zeroValue144 rfl row144 rfl
instance : TRow Tryz.prog 227 zc227 6 48 := TRow.of Tryz.zeroValue227 rfl row227 rfl
instance : FCall Tryz.prog 71 := ⟨Tryz.call71⟩
instance : FCall Tryz.prog 138 := ⟨Tryz.call138⟩
instance : FCall Tryz.prog 99 := ⟨Tryz.call99⟩
instance : FCall Tryz.prog 115 := ⟨Tryz.call115⟩
instance : FCall Tryz.prog 135 := ⟨Tryz.call135⟩
instance : FCall Tryz.prog 74 := ⟨Tryz.call74⟩
instance : FCall Tryz.prog 28 := ⟨Tryz.call28⟩
instance : FCall Tryz.prog 136 := ⟨Tryz.call136⟩
instance : FCall Tryz.prog 140 := ⟨Tryz.call140⟩
instance : FCall Tryz.prog 88 := ⟨Tryz.call88⟩
instance : FCall Tryz.prog 63 := ⟨Tryz.call63⟩
instance : FCall Tryz.prog 15 := ⟨Tryz.call15⟩
instance : FCall Tryz.prog 24 := ⟨Tryz.call24⟩
instance : FCall Tryz.prog 112 := ⟨Tryz.call112⟩
instance : FCall Tryz.prog 66 := ⟨Tryz.call66⟩
instance : FCall Tryz.prog 18 := ⟨Tryz.call18⟩
instance : FCall Tryz.prog 51 := ⟨Tryz.call51⟩
instance : FCall Tryz.prog 23 := ⟨Tryz.call23⟩
instance : FCall Tryz.prog 33 := ⟨Tryz.call33⟩
instance : FCall Tryz.prog 54 := ⟨Tryz.call54⟩
instance : FCall Tryz.prog 149 := ⟨Tryz.call149⟩
instance : FCall Tryz.prog 141 := ⟨Tryz.call141⟩
instance : FCall Tryz.prog 39 := ⟨Tryz.call39⟩
instance : FCall Tryz.prog 47 := ⟨Tryz.call47⟩
instance : FCall Tryz.prog 64 := ⟨Tryz.call64⟩
instance : FCall Tryz.prog 42 := ⟨Tryz.call42⟩
instance : FCall Tryz.prog 16 := ⟨Tryz.call16⟩
instance : FCall Tryz.prog 26 := ⟨Tryz.call26⟩
instance : FCall Tryz.prog 80 := ⟨Tryz.call80⟩
instance : FCall Tryz.prog 44 := ⟨Tryz.call44⟩
instance : FCall Tryz.prog 82 := ⟨Tryz.call82⟩
instance : FCall Tryz.prog 8 := ⟨Tryz.call8⟩
instance : FCall Tryz.prog 6 := ⟨Tryz.call6⟩
instance : FCall Tryz.prog 10 := ⟨Tryz.call10⟩
instance : FCall Tryz.prog 78 := ⟨Tryz.call78⟩
instance : FCall Tryz.prog 25 := ⟨Tryz.call25⟩
instance : FCall Tryz.prog 77 := ⟨Tryz.call77⟩
instance : FCall Tryz.prog 103 := ⟨Tryz.call103⟩
instance : FCall Tryz.prog 31 := ⟨Tryz.call31⟩
instance : FCall Tryz.prog 32 := ⟨Tryz.call32⟩
instance : FCall Tryz.prog 57 := ⟨Tryz.call57⟩
instance : FCall Tryz.prog 34 := ⟨Tryz.call34⟩
instance : FCall Tryz.prog 134 := ⟨Tryz.call134⟩
instance : FCall Tryz.prog 7 := ⟨Tryz.call7⟩
instance : FCall Tryz.prog 50 := ⟨Tryz.call50⟩
instance : FCall Tryz.prog 35 := ⟨Tryz.call35⟩
instance : FCall Tryz.prog 128 := ⟨Tryz.call128⟩
instance : FCall Tryz.prog 121 := ⟨Tryz.call121⟩
instance : FCall Tryz.prog 67 := ⟨Tryz.call67⟩
instance : FCall Tryz.prog 40 := ⟨Tryz.call40⟩
instance : FCall Tryz.prog 150 := ⟨Tryz.call150⟩
instance : FCall Tryz.prog 11 := ⟨Tryz.call11⟩
instance : FCall Tryz.prog 113 := ⟨Tryz.call113⟩
instance : FCall Tryz.prog 73 := ⟨Tryz.call73⟩
instance : FCall Tryz.prog 55 := ⟨Tryz.call55⟩
instance : FCall Tryz.prog 137 := ⟨Tryz.call137⟩
instance : FCall Tryz.prog 95 := ⟨Tryz.call95⟩
instance : FCall Tryz.prog 62 := ⟨Tryz.call62⟩
instance : FCall Tryz.prog 49 := ⟨Tryz.call49⟩
instance : FCall Tryz.prog 157 := ⟨Tryz.call157⟩
instance : FCall Tryz.prog 68 := ⟨Tryz.call68⟩
instance : FCall Tryz.prog 17 := ⟨Tryz.call17⟩
instance : FCall Tryz.prog 122 := ⟨Tryz.call122⟩
instance : FCall Tryz.prog 120 := ⟨Tryz.call120⟩
instance : FCall Tryz.prog 46 := ⟨Tryz.call46⟩
instance : FCall Tryz.prog 60 := ⟨Tryz.call60⟩
instance : FCall Tryz.prog 36 := ⟨Tryz.call36⟩
instance : FCall Tryz.prog 109 := ⟨Tryz.call109⟩
instance : FCall Tryz.prog 58 := ⟨Tryz.call58⟩
instance : FCall Tryz.prog 116 := ⟨Tryz.call116⟩
instance : FCall Tryz.prog 20 := ⟨Tryz.call20⟩
instance : FCall Tryz.prog 107 := ⟨Tryz.call107⟩
instance : FCall Tryz.prog 86 := ⟨Tryz.call86⟩
instance : FCall Tryz.prog 148 := ⟨Tryz.call148⟩
instance : FCall Tryz.prog 81 := ⟨Tryz.call81⟩
instance : FCall Tryz.prog 29 := ⟨Tryz.call29⟩
instance : FCall Tryz.prog 102 := ⟨Tryz.call102⟩
instance : FCall Tryz.prog 79 := ⟨Tryz.call79⟩
instance : FCall Tryz.prog 21 := ⟨Tryz.call21⟩
instance : FCall Tryz.prog 41 := ⟨Tryz.call41⟩
instance : FCall Tryz.prog 89 := ⟨Tryz.call89⟩
instance : FCall Tryz.prog 65 := ⟨Tryz.call65⟩
instance : FCall Tryz.prog 69 := ⟨Tryz.call69⟩
instance : FCall Tryz.prog 9 := ⟨Tryz.call9⟩
instance : FCall Tryz.prog 105 := ⟨Tryz.call105⟩
instance : FCall Tryz.prog 97 := ⟨Tryz.call97⟩
instance : FCall Tryz.prog 61 := ⟨Tryz.call61⟩
instance : FCall Tryz.prog 90 := ⟨Tryz.call90⟩
instance : FCall Tryz.prog 111 := ⟨Tryz.call111⟩
instance : FCall Tryz.prog 133 := ⟨Tryz.call133⟩
instance : FCall Tryz.prog 142 := ⟨Tryz.call142⟩
instance : FCall Tryz.prog 100 := ⟨Tryz.call100⟩
instance : FCall Tryz.prog 108 := ⟨Tryz.call108⟩
instance : FCall Tryz.prog 139 := ⟨Tryz.call139⟩
instance : FCall Tryz.prog 119 := ⟨Tryz.call119⟩
instance : FCall Tryz.prog 75 := ⟨Tryz.call75⟩
instance : FCall Tryz.prog 118 := ⟨Tryz.call118⟩
instance : FCall Tryz.prog 76 := ⟨Tryz.call76⟩
instance : FCall Tryz.prog 52 := ⟨Tryz.call52⟩
instance : FCall Tryz.prog 143 := ⟨Tryz.call143⟩
instance : FCall Tryz.prog 19 := ⟨Tryz.call19⟩
instance : FCall Tryz.prog 151 := ⟨Tryz.call151⟩
instance : FCall Tryz.prog 92 := ⟨Tryz.call92⟩
instance : FCall Tryz.prog 91 := ⟨Tryz.call91⟩
instance : FCall Tryz.prog 22 := ⟨Tryz.call22⟩
instance : FCall Tryz.prog 132 := ⟨Tryz.call132⟩
instance : FCall Tryz.prog 27 := ⟨Tryz.call27⟩
instance : FCall Tryz.prog 5 := ⟨Tryz.call5⟩
instance : FCall Tryz.prog 161 := ⟨Tryz.call161⟩
instance : FCall Tryz.prog 72 := ⟨Tryz.call72⟩
instance : FCall Tryz.prog 158 := ⟨Tryz.call158⟩
instance : FCall Tryz.prog 45 := ⟨Tryz.call45⟩
instance : FCall Tryz.prog 70 := ⟨Tryz.call70⟩
instance : FCall Tryz.prog 30 := ⟨Tryz.call30⟩
instance : FCall Tryz.prog 83 := ⟨Tryz.call83⟩
instance : FCall Tryz.prog 38 := ⟨Tryz.call38⟩
instance : FCall Tryz.prog 37 := ⟨Tryz.call37⟩
instance : FCall Tryz.prog 85 := ⟨Tryz.call85⟩
instance : FCall Tryz.prog 87 := ⟨Tryz.call87⟩
instance : FCall Tryz.prog 144 := ⟨Tryz.call144⟩
instance : FCall Tryz.prog 12 := ⟨Tryz.call12⟩
instance : FCall Tryz.prog 53 := ⟨Tryz.call53⟩
instance : FCall Tryz.prog 48 := ⟨Tryz.call48⟩
instance : FCall Tryz.prog 43 := ⟨Tryz.call43⟩
instance : FCall Tryz.prog 110 := ⟨Tryz.call110⟩
instance : FCall Tryz.prog 93 := ⟨Tryz.call93⟩
instance : FCall Tryz.prog 114 := ⟨Tryz.call114⟩
instance : FCall Tryz.prog 96 := ⟨Tryz.call96⟩
instance : FCall Tryz.prog 84 := ⟨Tryz.call84⟩
instance : FCall Tryz.prog 56 := ⟨Tryz.call56⟩
instance : FCall Tryz.prog 94 := ⟨Tryz.call94⟩
instance : FCall Tryz.prog 59 := ⟨Tryz.call59⟩
theorem mixed : Tryz.prog.follows .mixedOrders = true := by kernel_rfl
end Go.Proofs.YtekmmhmhcpaiaaaGreat
