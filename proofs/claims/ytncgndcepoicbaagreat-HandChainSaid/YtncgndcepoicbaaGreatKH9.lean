/-
  A part of what the last of these texts needs; by itself it proves no statement.
-/
import Derived.LoopNIn
import Derived.Test.YtncgndcepoicbaaGreatRows
import Derived.Test.YtncgndcepoicbaaGreatKH8
namespace Go.Proofs.YtncgndcepoicbaaGreat
open Go.RowKit
def WCn (c : Cx) (x : Code) (K : Exit → St → Prop) : Nat → St → Prop
  | 0, _ => False
  | m + 1, σ => WC c x (thenK (WCn c x K m) K) σ
theorem WCn.rounds {c : Cx} {x : Code} {K : Exit → St → Prop} : ∀ {m : Nat} {σ : St}, WCn c x K m σ → ∀ a w, Holds c.g c.N σ a w → Code.roundsIn (Fw c.r) c.n c.P x (lift c K) m a w
  | 0, _, h, _, _, _ => h.elim
  | m + 1, σ, h, a, w, ha => by
    rw [roundsIn_succ]
    refine Go.wpIn_mono ((show WC c x (thenK (WCn c x K m) K) σ from h) a w ha) fun e a' w' hl => ?_
    obtain ⟨σ', h1, h2⟩ := hl
    cases e with
    | normal => exact WCn.rounds (m := m) h2 a' w' h1
    | _ => exact ⟨σ', h1, h2⟩
theorem WC_unroll {c : Cx} {x : Code} {K : Exit → St → Prop} {σ : St} (m : Nat) (h : WCn c x K m σ) : WC c (.loop x) K σ := fun a w ha => wpIn_loop_rounds m (h.rounds a w ha)
theorem WCn_s {c : Cx} {x : Code} {K : Exit → St → Prop} {m : Nat} {σ : St} (h : WC c x (thenK (WCn c x K m) K) σ) : WCn c x K (m + 1) σ := h
def FilledA (n : Nat) : Array Value → List (Nat × Value) → Array Value → Prop
  | z, [], cs => cs = z
  | z, (i, v) :: r, cs => v.cells.size = n ∧ i * n + n ≤ z.size ∧ FilledA n (putR z (i * n) v.cells) r cs
theorem fill_of_FilledA {n : Nat} : ∀ {parts : List (Nat × Value)} {z cs : Array Value}, FilledA n z parts cs → Instr.fill (fun i => some (i * n, n)) z parts = some cs
  | [], z, cs, h => by cases h; rfl
  | (i, v) :: r, z, cs, ⟨h2, h3, h4⟩ => by
    simp only [Instr.fill]
    rw [if_neg (by simp [h2]; omega)]
    have hf := fold_put v.cells.toList 0 (i * n) z (by simp; omega)
    have he : (v.cells.zipIdx.foldl (fun (cs : Array Value) (p : Value × Nat) => cs.setIfInBounds (i * n + p.2) p.1) z) = putR z (i * n) v.cells := by
      rw [← Array.foldl_toList, Array.toList_zipIdx, hf]
      simp
    have hh := fill_of_FilledA h4
    rw [← he] at hh
    exact hh
class TBuildA (P : Program) (t : TypeId) (z : outParam (Array Value)) (n : outParam Nat) : Prop where
  h : ∀ parts, P.built t parts = Instr.fill (fun i => some (i * n, n)) z parts
theorem Qt_buildA {c : Cx} {s : List (Nat × Value)} {L : List (Nat × Obj)} {o : Oper} {t : TypeId} {z : Array Value} {n : Nat} [hb : TBuildA c.P t z n] {parts : Array (Nat × Operand)} {vs : List (Nat × Value)} {cs : Array Value} (ho : o.op = .build t parts) (hx : evp s parts.toList = some vs := by exact rfl) (hf : FilledA n z vs cs := by repeat (first | exact rfl | refine ⟨(by first | with_reducible assumption | rfl | assumption), (by first | exact Nat.le_of_ble_eq_true rfl | omega), ?_⟩)) : Qt c s L o (.agg cs) :=
  ⟨(fun cc => by simp [ho]), fun ρ hρ w _ => by
    have h1 := evp_map hρ hx
    have h2 := run_build (P := c.P) w t (parts.map fun (i, x) => (i, ρ x)) cs (by
      rw [hb.h, Array.toList_map, h1]
      have := fill_of_FilledA hf
      simpa using this)
    simp [execOp, ho, h2]⟩
section
variable {c : Cx} {s : List (Nat × Value)} {L : List (Nat × Obj)} {o : Oper}
theorem Qt_indexA {t len E n : Nat} [hu : TUnd c.P t (.array len E)] [hs : TSize c.P E n] [ha : TAgg c.P E true] {x y : Operand} {k : IntKind} {i : Int} {vs : Array Value} (ho : o.op = .index t x y) (hx : ev s x = some (.agg vs) := by exact rfl) (hy : ev s y = some (.int k i) := by exact rfl) (h0 : 0 ≤ i := by first | decide | with_reducible assumption | omega) (h1 : i < len := by first | decide | with_reducible assumption | omega) : Qt c s L o (.agg (vs.extract (i.toNat * n) (i.toNat * n + n))) :=
  Qt_of_run (by simp [ho]) (fun ρ hρ w _ => by
    have h := partN (P := c.P) (t := E) (n := n) (xs := vs) (off := i.toNat * n) w
    simp [execOp, ho, hρ x _ hx, hρ y _ hy, Instr.index, asIntOf, run_underlying hu.h, hs.h, h0, h1, h])
theorem Qt_indexV {t len E n : Nat} [hu : TUnd c.P t (.array len E)] [hs : TSize c.P E n] [ha : TAgg c.P E false] {x y : Operand} {k : IntKind} {i : Int} {vs : Array Value} {v : Value} (ho : o.op = .index t x y) (hx : ev s x = some (.agg vs) := by exact rfl) (hy : ev s y = some (.int k i) := by exact rfl) (h0 : 0 ≤ i := by first | decide | with_reducible assumption | omega) (h1 : i < len := by first | decide | with_reducible assumption | omega) (hv : vs[i.toNat * n]? = some v := by first | with_reducible assumption | rfl) : Qt c s L o v :=
  Qt_of_run (by simp [ho]) (fun ρ hρ w _ => by
    have h := part1 (P := c.P) (t := E) (xs := vs) (off := i.toNat * n) hv w
    simp [execOp, ho, hρ x _ hx, hρ y _ hy, Instr.index, asIntOf, run_underlying hu.h, hs.h, h0, h1, h])
end
end Go.Proofs.YtncgndcepoicbaaGreat
namespace Go.Proofs.YtncgndcepoicbaaGreat
instance : TSize Tryz.prog 2 1 := ⟨Tryz.sizeOf2⟩
instance : TAgg Tryz.prog 2 false := ⟨Tryz.isAgg2⟩
instance : TZero Tryz.prog 2 (Go.Value.int Go.IntKind.i64 0) := ⟨Tryz.zeroValue2⟩
instance : TUnd Tryz.prog 2 (.int Go.IntKind.i64) := ⟨Tryz.underlying2⟩
instance : TSize Tryz.prog 3 1 := ⟨Tryz.sizeOf3⟩
instance : TAgg Tryz.prog 3 false := ⟨Tryz.isAgg3⟩
instance : TZero Tryz.prog 3 (Go.Value.int Go.IntKind.i64 0) := ⟨Tryz.zeroValue3⟩
theorem row3 : (Tryz.prog.info? 3).map (fun i => (i.size, i.bytes)) = some (1, 8) := by kernel_rfl
instance : TUnd Tryz.prog 3 (.int Go.IntKind.i64) := ⟨Tryz.underlying3⟩
instance : TSize Tryz.prog 4 1 := ⟨Tryz.sizeOf4⟩
instance : TAgg Tryz.prog 4 false := ⟨Tryz.isAgg4⟩
instance : TUnd Tryz.prog 4 .bool := ⟨Tryz.underlying4⟩
instance : TAgg Tryz.prog 5 false := ⟨Tryz.isAgg5⟩
instance : TUnd Tryz.prog 5 (.int Go.IntKind.u8) := ⟨Tryz.underlying5⟩
instance : TUnd Tryz.prog 9 .string := ⟨Tryz.underlying9⟩
instance : TUnd Tryz.prog 20 (Go.TypeDesc.interface #[]) := ⟨Tryz.underlying20⟩
instance : TSize Tryz.prog 22 1 := ⟨Tryz.sizeOf22⟩
instance : TAgg Tryz.prog 22 false := ⟨Tryz.isAgg22⟩
instance : TZero Tryz.prog 22 (Go.Value.slice Option.none 0 0) := ⟨Tryz.zeroValue22⟩
instance : TUnd Tryz.prog 22 (.slice 40) := ⟨Tryz.underlying22⟩
instance : TSize Tryz.prog 23 1 := ⟨Tryz.sizeOf23⟩
instance : TAgg Tryz.prog 23 false := ⟨Tryz.isAgg23⟩
instance : TUnd Tryz.prog 23 (.slice 100) := ⟨Tryz.underlying23⟩
instance : TSize Tryz.prog 25 4 := ⟨Tryz.sizeOf25⟩
instance : TAgg Tryz.prog 25 true := ⟨Tryz.isAgg25⟩
def zc25 : Array Value :=  #[Go.Value.slice Option.none 0 0, Go.Value.slice Option.none 0 0, Go.Value.int Go.IntKind.i64 0, Go.Value.int Go.IntKind.i64 0]
instance : TZero Tryz.prog 25 (.agg zc25) := ⟨Tryz.zeroValue25⟩
instance : TFld Tryz.prog 25 0 0 22 1 := ⟨⟨_, _, Tryz.underlying25, rfl, rfl, rfl, Tryz.sizeOf22, by decide⟩⟩
instance : TFld Tryz.prog 25 1 1 23 1 := ⟨⟨_, _, Tryz.underlying25, rfl, rfl, rfl, Tryz.sizeOf23, by decide⟩⟩
instance : TFld Tryz.prog 25 2 2 2 1 := ⟨⟨_, _, Tryz.underlying25, rfl, rfl, rfl, Tryz.sizeOf2, by decide⟩⟩
instance : TFld Tryz.prog 25 3 3 2 1 := ⟨⟨_, _, Tryz.underlying25, rfl, rfl, rfl, Tryz.sizeOf2, by decide⟩⟩
instance : TBuild Tryz.prog 25 zc25 [(0, 1), (1, 1), (2, 1), (3, 1)] := ⟨fun _ => by kernel_rfl⟩
instance : TSize Tryz.prog 27 5 := ⟨Tryz.sizeOf27⟩
instance : TAgg Tryz.prog 27 true := ⟨Tryz.isAgg27⟩
def zc27 : Array Value :=  #[Go.Value.int Go.IntKind.i64 0, Go.Value.int Go.IntKind.i64 0, Go.Value.int Go.IntKind.i64 0, Go.Value.int Go.IntKind.i64 0, Go.Value.int Go.IntKind.i64 0]
instance : TZero Tryz.prog 27 (.agg zc27) := ⟨Tryz.zeroValue27⟩
instance : TFld Tryz.prog 27 0 0 3 1 := ⟨⟨_, _, Tryz.underlying27, rfl, rfl, rfl, Tryz.sizeOf3, by decide⟩⟩
instance : TFld Tryz.prog 27 1 1 3 1 := ⟨⟨_, _, Tryz.underlying27, rfl, rfl, rfl, Tryz.sizeOf3, by decide⟩⟩
instance : TFld Tryz.prog 27 2 2 3 1 := ⟨⟨_, _, Tryz.underlying27, rfl, rfl, rfl, Tryz.sizeOf3, by decide⟩⟩
instance : TFld Tryz.prog 27 3 3 3 1 := ⟨⟨_, _, Tryz.underlying27, rfl, rfl, rfl, Tryz.sizeOf3, by decide⟩⟩
instance : TFld Tryz.prog 27 4 4 3 1 := ⟨⟨_, _, Tryz.underlying27, rfl, rfl, rfl, Tryz.sizeOf3, by decide⟩⟩
instance : TBuild Tryz.prog 27 zc27 [(0, 1), (1, 1), (2, 1), (3, 1), (4, 1)] := ⟨fun _ => by kernel_rfl⟩
instance : TAgg Tryz.prog 30 false := ⟨Tryz.isAgg30⟩
instance : TUnd Tryz.prog 30 (.pointer 110) := ⟨Tryz.underlying30⟩
instance : TSize Tryz.prog 31 1 := ⟨Tryz.sizeOf31⟩
instance : TAgg Tryz.prog 31 false := ⟨Tryz.isAgg31⟩
instance : TZero Tryz.prog 31 (Go.Value.int Go.IntKind.i64 0) := ⟨Tryz.zeroValue31⟩
instance : TSize Tryz.prog 38 1 := ⟨Tryz.sizeOf38⟩
instance : TAgg Tryz.prog 38 false := ⟨Tryz.isAgg38⟩
instance : TZero Tryz.prog 38 (Go.Value.slice Option.none 0 0) := ⟨Tryz.zeroValue38⟩
instance : TUnd Tryz.prog 38 (.slice 3) := ⟨Tryz.underlying38⟩
instance : TSize Tryz.prog 40 4 := ⟨Tryz.sizeOf40⟩
instance : TAgg Tryz.prog 40 true := ⟨Tryz.isAgg40⟩
def zc40 : Array Value :=  #[Go.Value.int Go.IntKind.i64 0, Go.Value.int Go.IntKind.i64 0, Go.Value.int Go.IntKind.i64 0, Go.Value.int Go.IntKind.i64 0]
instance : TZero Tryz.prog 40 (.agg zc40) := ⟨Tryz.zeroValue40⟩
theorem row40 : (Tryz.prog.info? 40).map (fun i => (i.size, i.bytes)) = some (4, 32) := by kernel_rfl
instance : TFld Tryz.prog 40 0 0 3 1 := ⟨⟨_, _, Tryz.underlying40, rfl, rfl, rfl, Tryz.sizeOf3, by decide⟩⟩
instance : TFld Tryz.prog 40 1 1 2 1 := ⟨⟨_, _, Tryz.underlying40, rfl, rfl, rfl, Tryz.sizeOf2, by decide⟩⟩
instance : TFld Tryz.prog 40 2 2 2 1 := ⟨⟨_, _, Tryz.underlying40, rfl, rfl, rfl, Tryz.sizeOf2, by decide⟩⟩
instance : TFld Tryz.prog 40 3 3 3 1 := ⟨⟨_, _, Tryz.underlying40, rfl, rfl, rfl, Tryz.sizeOf3, by decide⟩⟩
instance : TBuild Tryz.prog 40 zc40 [(0, 1), (1, 1), (2, 1), (3, 1)] := ⟨fun _ => by kernel_rfl⟩
instance : TSize Tryz.prog 42 10 := ⟨Tryz.sizeOf42⟩
instance : TAgg Tryz.prog 42 true := ⟨Tryz.isAgg42⟩
def zc42 : Array Value :=  #[Go.Value.int Go.IntKind.i64 0, Go.Value.int Go.IntKind.i64 0, Go.Value.slice Option.none 0 0, Go.Value.int Go.IntKind.i64 0, Go.Value.int Go.IntKind.i64 0, Go.Value.int Go.IntKind.i64 0, Go.Value.int Go.IntKind.i64 0, Go.Value.int Go.IntKind.i64 0, Go.Value.int Go.IntKind.i64 0, Go.Value.int Go.IntKind.i64 0]
instance : TZero Tryz.prog 42 (.agg zc42) := ⟨Tryz.zeroValue42⟩
theorem row42 : (Tryz.prog.info? 42).map (fun i => (i.size, i.bytes)) = some (10, 96) := by kernel_rfl
instance : TFld Tryz.prog 42 0 0 3 1 := ⟨⟨_, _, Tryz.underlying42, rfl, rfl, rfl, Tryz.sizeOf3, by decide⟩⟩
instance : TFld Tryz.prog 42 1 1 2 1 := ⟨⟨_, _, Tryz.underlying42, rfl, rfl, rfl, Tryz.sizeOf2, by decide⟩⟩
instance : TFld Tryz.prog 42 2 2 38 1 := ⟨⟨_, _, Tryz.underlying42, rfl, rfl, rfl, Tryz.sizeOf38, by decide⟩⟩
instance : TFld Tryz.prog 42 3 3 3 1 := ⟨⟨_, _, Tryz.underlying42, rfl, rfl, rfl, Tryz.sizeOf3, by decide⟩⟩
instance : TFld Tryz.prog 42 4 4 3 1 := ⟨⟨_, _, Tryz.underlying42, rfl, rfl, rfl, Tryz.sizeOf3, by decide⟩⟩
instance : TFld Tryz.prog 42 5 5 40 4 := ⟨⟨_, _, Tryz.underlying42, rfl, rfl, rfl, Tryz.sizeOf40, by decide⟩⟩
instance : TFld Tryz.prog 42 6 9 3 1 := ⟨⟨_, _, Tryz.underlying42, rfl, rfl, rfl, Tryz.sizeOf3, by decide⟩⟩
instance : TBuild Tryz.prog 42 zc42 [(0, 1), (1, 1), (2, 1), (3, 1), (4, 1), (5, 4), (9, 1)] := ⟨fun _ => by kernel_rfl⟩
instance : TUnd Tryz.prog 54 (.slice 64) := ⟨Tryz.underlying54⟩
instance : TSize Tryz.prog 57 1 := ⟨Tryz.sizeOf57⟩
instance : TAgg Tryz.prog 57 false := ⟨Tryz.isAgg57⟩
instance : TUnd Tryz.prog 57 (.pointer 150) := ⟨Tryz.underlying57⟩
instance : TSize Tryz.prog 58 4 := ⟨Tryz.sizeOf58⟩
instance : TAgg Tryz.prog 58 true := ⟨Tryz.isAgg58⟩
def zc58 : Array Value :=  #[Go.Value.pointer Option.none, Go.Value.pointer Option.none, Go.Value.pointer Option.none, Go.Value.pointer Option.none]
instance : TZero Tryz.prog 58 (.agg zc58) := ⟨Tryz.zeroValue58⟩
instance : TUnd Tryz.prog 58 (.array 4 57) := ⟨Tryz.underlying58⟩
instance : TUnd Tryz.prog 60 (.slice 78) := ⟨Tryz.underlying60⟩
instance : TSize Tryz.prog 61 8 := ⟨Tryz.sizeOf61⟩
instance : TAgg Tryz.prog 61 true := ⟨Tryz.isAgg61⟩
def zc61 : Array Value :=  #[Go.Value.int Go.IntKind.i64 0, Go.Value.int Go.IntKind.i64 0, Go.Value.int Go.IntKind.i64 0, Go.Value.int Go.IntKind.i64 0, Go.Value.int Go.IntKind.i64 0, Go.Value.int Go.IntKind.i64 0, Go.Value.int Go.IntKind.i64 0, Go.Value.int Go.IntKind.i64 0]
instance : TZero Tryz.prog 61 (.agg zc61) := ⟨Tryz.zeroValue61⟩
instance : TUnd Tryz.prog 61 (.array 8 3) := ⟨Tryz.underlying61⟩
instance : TSize Tryz.prog 64 7 := ⟨Tryz.sizeOf64⟩
instance : TAgg Tryz.prog 64 true := ⟨Tryz.isAgg64⟩
def zc64 : Array Value :=  #[Go.Value.int Go.IntKind.u8 0, Go.Value.int Go.IntKind.u8 0, Go.Value.int Go.IntKind.u8 0, Go.Value.int Go.IntKind.u8 0, Go.Value.int Go.IntKind.i8 0, Go.Value.int Go.IntKind.i8 0, Go.Value.slice Option.none 0 0]
instance : TZero Tryz.prog 64 (.agg zc64) := ⟨Tryz.zeroValue64⟩
instance : TFld Tryz.prog 64 0 0 5 1 := ⟨⟨_, _, Tryz.underlying64, rfl, rfl, rfl, Tryz.sizeOf5, by decide⟩⟩
instance : TFld Tryz.prog 64 1 1 5 1 := ⟨⟨_, _, Tryz.underlying64, rfl, rfl, rfl, Tryz.sizeOf5, by decide⟩⟩
instance : TFld Tryz.prog 64 2 2 5 1 := ⟨⟨_, _, Tryz.underlying64, rfl, rfl, rfl, Tryz.sizeOf5, by decide⟩⟩
instance : TFld Tryz.prog 64 3 3 5 1 := ⟨⟨_, _, Tryz.underlying64, rfl, rfl, rfl, Tryz.sizeOf5, by decide⟩⟩
instance : TSize Tryz.prog 66 1 := ⟨Tryz.sizeOf66⟩
instance : TAgg Tryz.prog 66 false := ⟨Tryz.isAgg66⟩
instance : TZero Tryz.prog 66 (Go.Value.slice Option.none 0 0) := ⟨Tryz.zeroValue66⟩
instance : TUnd Tryz.prog 66 (.slice 71) := ⟨Tryz.underlying66⟩
instance : TSize Tryz.prog 69 2 := ⟨Tryz.sizeOf69⟩
instance : TAgg Tryz.prog 69 true := ⟨Tryz.isAgg69⟩
def zc69 : Array Value :=  #[Go.Value.int Go.IntKind.i64 0, Go.Value.int Go.IntKind.i64 0]
instance : TZero Tryz.prog 69 (.agg zc69) := ⟨Tryz.zeroValue69⟩
theorem row69 : (Tryz.prog.info? 69).map (fun i => (i.size, i.bytes)) = some (2, 16) := by kernel_rfl
instance : TFld Tryz.prog 69 0 0 3 1 := ⟨⟨_, _, Tryz.underlying69, rfl, rfl, rfl, Tryz.sizeOf3, by decide⟩⟩
instance : TFld Tryz.prog 69 1 1 3 1 := ⟨⟨_, _, Tryz.underlying69, rfl, rfl, rfl, Tryz.sizeOf3, by decide⟩⟩
instance : TBuild Tryz.prog 69 zc69 [(0, 1), (1, 1)] := ⟨fun _ => by kernel_rfl⟩
instance : TSize Tryz.prog 71 4 := ⟨Tryz.sizeOf71⟩
instance : TAgg Tryz.prog 71 true := ⟨Tryz.isAgg71⟩
def zc71 : Array Value :=  #[Go.Value.int Go.IntKind.i64 0, Go.Value.int Go.IntKind.i64 0, Go.Value.int Go.IntKind.i64 0, Go.Value.int Go.IntKind.i64 0]
instance : TZero Tryz.prog 71 (.agg zc71) := ⟨Tryz.zeroValue71⟩
theorem row71 : (Tryz.prog.info? 71).map (fun i => (i.size, i.bytes)) = some (4, 32) := by kernel_rfl
instance : TFld Tryz.prog 71 0 0 69 2 := ⟨⟨_, _, Tryz.underlying71, rfl, rfl, rfl, Tryz.sizeOf69, by decide⟩⟩
instance : TFld Tryz.prog 71 1 2 3 1 := ⟨⟨_, _, Tryz.underlying71, rfl, rfl, rfl, Tryz.sizeOf3, by decide⟩⟩
instance : TFld Tryz.prog 71 2 3 2 1 := ⟨⟨_, _, Tryz.underlying71, rfl, rfl, rfl, Tryz.sizeOf2, by decide⟩⟩
instance : TBuild Tryz.prog 71 zc71 [(0, 2), (2, 1), (3, 1)] := ⟨fun _ => by kernel_rfl⟩
instance : TSize Tryz.prog 72 1 := ⟨Tryz.sizeOf72⟩
instance : TAgg Tryz.prog 72 false := ⟨Tryz.isAgg72⟩
instance : TUnd Tryz.prog 72 (.slice 76) := ⟨Tryz.underlying72⟩
instance : TSize Tryz.prog 76 2 := ⟨Tryz.sizeOf76⟩
instance : TAgg Tryz.prog 76 true := ⟨Tryz.isAgg76⟩
def zc76 : Array Value :=  #[Go.Value.int Go.IntKind.i64 0, Go.Value.int Go.IntKind.i64 0]
instance : TZero Tryz.prog 76 (.agg zc76) := ⟨Tryz.zeroValue76⟩
theorem row76 : (Tryz.prog.info? 76).map (fun i => (i.size, i.bytes)) = some (2, 16) := by kernel_rfl
instance : TFld Tryz.prog 76 0 0 2 1 := ⟨⟨_, _, Tryz.underlying76, rfl, rfl, rfl, Tryz.sizeOf2, by decide⟩⟩
instance : TFld Tryz.prog 76 1 1 3 1 := ⟨⟨_, _, Tryz.underlying76, rfl, rfl, rfl, Tryz.sizeOf3, by decide⟩⟩
instance : TBuild Tryz.prog 76 zc76 [(0, 1), (1, 1)] := ⟨fun _ => by kernel_rfl⟩
instance : TSize Tryz.prog 78 3 := ⟨Tryz.sizeOf78⟩
instance : TAgg Tryz.prog 78 true := ⟨Tryz.isAgg78⟩
def zc78 : Array Value :=  #[Go.Value.int Go.IntKind.i64 0, Go.Value.int Go.IntKind.i64 0, Go.Value.int Go.IntKind.i64 0]
instance : TZero Tryz.prog 78 (.agg zc78) := ⟨Tryz.zeroValue78⟩
theorem row78 : (Tryz.prog.info? 78).map (fun i => (i.size, i.bytes)) = some (3, 24) := by kernel_rfl
instance : TFld Tryz.prog 78 0 0 69 2 := ⟨⟨_, _, Tryz.underlying78, rfl, rfl, rfl, Tryz.sizeOf69, by decide⟩⟩
instance : TFld Tryz.prog 78 1 2 3 1 := ⟨⟨_, _, Tryz.underlying78, rfl, rfl, rfl, Tryz.sizeOf3, by decide⟩⟩
instance : TBuild Tryz.prog 78 zc78 [(0, 2), (2, 1)] := ⟨fun _ => by kernel_rfl⟩
instance : TSize Tryz.prog 91 1 := ⟨Tryz.sizeOf91⟩
instance : TAgg Tryz.prog 91 false := ⟨Tryz.isAgg91⟩
theorem row91 : (Tryz.prog.info? 91).map (fun i => (i.size, i.bytes)) = some (1, 24) := by kernel_rfl
instance : TUnd Tryz.prog 91 (.slice 42) := ⟨Tryz.underlying91⟩
instance : TSize Tryz.prog 100 5 := ⟨Tryz.sizeOf100⟩
instance : TAgg Tryz.prog 100 true := ⟨Tryz.isAgg100⟩
def zc100 : Array Value :=  #[Go.Value.int Go.IntKind.i64 0, Go.Value.int Go.IntKind.i64 0, Go.Value.int Go.IntKind.i64 0, Go.Value.int Go.IntKind.i64 0, Go.Value.slice Option.none 0 0]
instance : TZero Tryz.prog 100 (.agg zc100) := ⟨Tryz.zeroValue100⟩
theorem row100 : (Tryz.prog.info? 100).map (fun i => (i.size, i.bytes)) = some (5, 56) := by kernel_rfl
instance : TFld Tryz.prog 100 0 0 40 4 := ⟨⟨_, _, Tryz.underlying100, rfl, rfl, rfl, Tryz.sizeOf40, by decide⟩⟩
instance : TFld Tryz.prog 100 1 4 22 1 := ⟨⟨_, _, Tryz.underlying100, rfl, rfl, rfl, Tryz.sizeOf22, by decide⟩⟩
instance : TBuild Tryz.prog 100 zc100 [(0, 4), (4, 1)] := ⟨fun _ => by kernel_rfl⟩
def zc105 : Array Value :=  #[Go.Value.slice Option.none 0 0, Go.Value.slice Option.none 0 0, Go.Value.int Go.IntKind.i64 0, Go.Value.int Go.IntKind.i64 0, Go.Value.int Go.IntKind.i64 0, Go.Value.int Go.IntKind.i64 0, Go.Value.int Go.IntKind.i64 0, Go.Value.int Go.IntKind.i64 0, Go.Value.int Go.IntKind.i64 0]
instance : TFld Tryz.prog 105 1 4 27 5 := ⟨⟨_, _, Tryz.underlying105, rfl, rfl, rfl, Tryz.sizeOf27, by decide⟩⟩
instance : TBuild Tryz.prog 105 zc105 [(0, 4), (4, 5)] := ⟨fun _ => by kernel_rfl⟩
instance : TUnd Tryz.prog 107 (.array 8 72) := ⟨Tryz.underlying107⟩
instance : TSize Tryz.prog 108 1 := ⟨Tryz.sizeOf108⟩
instance : TAgg Tryz.prog 108 false := ⟨Tryz.isAgg108⟩
instance : TUnd Tryz.prog 108 (.slice 91) := ⟨Tryz.underlying108⟩
def zc110 : Array Value :=  #[Go.Value.slice Option.none 0 0, Go.Value.slice Option.none 0 0, Go.Value.int Go.IntKind.i64 0, Go.Value.int Go.IntKind.i64 0, Go.Value.int Go.IntKind.i64 0, Go.Value.int Go.IntKind.i64 0, Go.Value.int Go.IntKind.i64 0, Go.Value.int Go.IntKind.i64 0, Go.Value.int Go.IntKind.i64 0, Go.Value.slice Option.none 0 0, Go.Value.slice Option.none 0 0, Go.Value.slice Option.none 0 0, Go.Value.slice Option.none 0 0, Go.Value.slice Option.none 0 0, Go.Value.slice Option.none 0 0, Go.Value.slice Option.none 0 0, Go.Value.slice Option.none 0 0, Go.Value.slice Option.none 0 0, Go.Value.slice Option.none 0 0, Go.Value.slice Option.none 0 0, Go.Value.slice Option.none 0 0]
instance : TFld Tryz.prog 110 0 0 105 9 := ⟨⟨_, _, Tryz.underlying110, rfl, rfl, rfl, Tryz.sizeOf105, by decide⟩⟩
instance : TFld Tryz.prog 110 1 9 91 1 := ⟨⟨_, _, Tryz.underlying110, rfl, rfl, rfl, Tryz.sizeOf91, by decide⟩⟩
instance : TFld Tryz.prog 110 2 10 107 8 := ⟨⟨_, _, Tryz.underlying110, rfl, rfl, rfl, Tryz.sizeOf107, by decide⟩⟩
instance : TFld Tryz.prog 110 3 18 38 1 := ⟨⟨_, _, Tryz.underlying110, rfl, rfl, rfl, Tryz.sizeOf38, by decide⟩⟩
instance : TFld Tryz.prog 110 4 19 22 1 := ⟨⟨_, _, Tryz.underlying110, rfl, rfl, rfl, Tryz.sizeOf22, by decide⟩⟩
instance : TFld Tryz.prog 110 5 20 108 1 := ⟨⟨_, _, Tryz.underlying110, rfl, rfl, rfl, Tryz.sizeOf108, by decide⟩⟩
instance : TBuild Tryz.prog 110 zc110 [(0, 9), (9, 1), (10, 8), (18, 1), (19, 1), (20, 1)] := ⟨fun _ => by kernel_rfl⟩
def zc113 : Array Value :=  #[Go.Value.slice Option.none 0 0, Go.Value.slice Option.none 0 0, Go.Value.int Go.IntKind.i64 0, Go.Value.int Go.IntKind.i64 0, Go.Value.int Go.IntKind.i64 0, Go.Value.int Go.IntKind.i64 0, Go.Value.int Go.IntKind.i64 0, Go.Value.int Go.IntKind.i64 0, Go.Value.int Go.IntKind.i64 0, Go.Value.slice Option.none 0 0, Go.Value.int Go.IntKind.i64 0, Go.Value.slice Option.none 0 0, Go.Value.slice Option.none 0 0, Go.Value.slice Option.none 0 0, Go.Value.slice Option.none 0 0, Go.Value.slice Option.none 0 0, Go.Value.slice Option.none 0 0, Go.Value.slice Option.none 0 0, Go.Value.slice Option.none 0 0]
instance : TBuild Tryz.prog 113 zc113 [(0, 4), (4, 5), (9, 1), (10, 1), (11, 8)] := ⟨fun _ => by kernel_rfl⟩
instance : TSize Tryz.prog 124 1 := ⟨Tryz.sizeOf124⟩
instance : TAgg Tryz.prog 124 false := ⟨Tryz.isAgg124⟩
instance : TSize Tryz.prog 125 4 := ⟨Tryz.sizeOf125⟩
instance : TAgg Tryz.prog 125 true := ⟨Tryz.isAgg125⟩
def zc125 : Array Value :=  #[Go.Value.nilFunc, Go.Value.nilFunc, Go.Value.nilFunc, Go.Value.nilFunc]
instance : TZero Tryz.prog 125 (.agg zc125) := ⟨Tryz.zeroValue125⟩
instance : TUnd Tryz.prog 125 (.array 4 124) := ⟨Tryz.underlying125⟩
instance : TSize Tryz.prog 142 1 := ⟨Tryz.sizeOf142⟩
instance : TAgg Tryz.prog 142 false := ⟨Tryz.isAgg142⟩
instance : TZero Tryz.prog 142 (Go.Value.slice Option.none 0 0) := ⟨Tryz.zeroValue142⟩
instance : TUnd Tryz.prog 142 (.slice 69) := ⟨Tryz.underlying142⟩
instance : TAgg Tryz.prog 146 false := ⟨Tryz.isAgg146⟩
instance : TUnd Tryz.prog 146 (.map 69 158) := ⟨Tryz.underlying146⟩
instance : TSize Tryz.prog 147 1 := ⟨Tryz.sizeOf147⟩
instance : TAgg Tryz.prog 147 false := ⟨Tryz.isAgg147⟩
instance : TUnd Tryz.prog 147 (.slice 156) := ⟨Tryz.underlying147⟩
instance : TSize Tryz.prog 148 1 := ⟨Tryz.sizeOf148⟩
instance : TAgg Tryz.prog 148 false := ⟨Tryz.isAgg148⟩
instance : TUnd Tryz.prog 148 (.map 69 156) := ⟨Tryz.underlying148⟩
def zc150 : Array Value :=  #[Go.Value.pointer Option.none, Go.Value.int Go.IntKind.i64 0, Go.Value.map Option.none, Go.Value.int Go.IntKind.i64 0, Go.Value.slice Option.none 0 0, Go.Value.map Option.none]
instance : TFld Tryz.prog 150 0 0 30 1 := ⟨⟨_, _, Tryz.underlying150, rfl, rfl, rfl, Tryz.sizeOf30, by decide⟩⟩
instance : TFld Tryz.prog 150 1 1 3 1 := ⟨⟨_, _, Tryz.underlying150, rfl, rfl, rfl, Tryz.sizeOf3, by decide⟩⟩
instance : TFld Tryz.prog 150 2 2 146 1 := ⟨⟨_, _, Tryz.underlying150, rfl, rfl, rfl, Tryz.sizeOf146, by decide⟩⟩
instance : TFld Tryz.prog 150 3 3 3 1 := ⟨⟨_, _, Tryz.underlying150, rfl, rfl, rfl, Tryz.sizeOf3, by decide⟩⟩
instance : TFld Tryz.prog 150 4 4 147 1 := ⟨⟨_, _, Tryz.underlying150, rfl, rfl, rfl, Tryz.sizeOf147, by decide⟩⟩
instance : TFld Tryz.prog 150 5 5 148 1 := ⟨⟨_, _, Tryz.underlying150, rfl, rfl, rfl, Tryz.sizeOf148, by decide⟩⟩
instance : TBuild Tryz.prog 150 zc150 [(0, 1), (1, 1), (2, 1), (3, 1), (4, 1), (5, 1)] := ⟨fun _ => by kernel_rfl⟩
instance : TSize Tryz.prog 154 1 := ⟨Tryz.sizeOf154⟩
instance : TAgg Tryz.prog 154 false := ⟨Tryz.isAgg154⟩
instance : TUnd Tryz.prog 154 (.pointer 76) := ⟨Tryz.underlying154⟩
instance : TSize Tryz.prog 156 5 := ⟨Tryz.sizeOf156⟩
instance : TAgg Tryz.prog 156 true := ⟨Tryz.isAgg156⟩
def zc156 : Array Value :=  #[Go.Value.int Go.IntKind.i64 0, Go.Value.int Go.IntKind.i64 0, Go.Value.int Go.IntKind.i64 0, Go.Value.int Go.IntKind.i64 0, Go.Value.pointer Option.none]
instance : TZero Tryz.prog 156 (.agg zc156) := ⟨Tryz.zeroValue156⟩
theorem row156 : (Tryz.prog.info? 156).map (fun i => (i.size, i.bytes)) = some (5, 40) := by kernel_rfl
instance : TFld Tryz.prog 156 0 0 69 2 := ⟨⟨_, _, Tryz.underlying156, rfl, rfl, rfl, Tryz.sizeOf69, by decide⟩⟩
instance : TFld Tryz.prog 156 1 2 76 2 := ⟨⟨_, _, Tryz.underlying156, rfl, rfl, rfl, Tryz.sizeOf76, by decide⟩⟩
instance : TFld Tryz.prog 156 2 4 154 1 := ⟨⟨_, _, Tryz.underlying156, rfl, rfl, rfl, Tryz.sizeOf154, by decide⟩⟩
instance : TBuild Tryz.prog 156 zc156 [(0, 2), (2, 2), (4, 1)] := ⟨fun _ => by kernel_rfl⟩
instance : TSize Tryz.prog 158 2 := ⟨Tryz.sizeOf158⟩
instance : TAgg Tryz.prog 158 true := ⟨Tryz.isAgg158⟩
def zc158 : Array Value :=  #[Go.Value.bool Bool.false, Go.Value.bool Bool.false]
instance : TZero Tryz.prog 158 (.agg zc158) := ⟨Tryz.zeroValue158⟩
instance : TFld Tryz.prog 158 0 0 4 1 := ⟨⟨_, _, Tryz.underlying158, rfl, rfl, rfl, Tryz.sizeOf4, by decide⟩⟩
instance : TFld Tryz.prog 158 1 1 4 1 := ⟨⟨_, _, Tryz.underlying158, rfl, rfl, rfl, Tryz.sizeOf4, by decide⟩⟩
instance : TSize Tryz.prog 180 2 := ⟨Tryz.sizeOf180⟩
instance : TAgg Tryz.prog 180 true := ⟨Tryz.isAgg180⟩
def zc180 : Array Value :=  #[Go.Value.int Go.IntKind.i64 0, Go.Value.int Go.IntKind.i64 0]
instance : TZero Tryz.prog 180 (.agg zc180) := ⟨Tryz.zeroValue180⟩
instance : TFld Tryz.prog 180 0 0 3 1 := ⟨⟨_, _, Tryz.underlying180, rfl, rfl, rfl, Tryz.sizeOf3, by decide⟩⟩
instance : TFld Tryz.prog 180 1 1 3 1 := ⟨⟨_, _, Tryz.underlying180, rfl, rfl, rfl, Tryz.sizeOf3, by decide⟩⟩
instance : TBuild Tryz.prog 180 zc180 [(0, 1), (1, 1)] := ⟨fun _ => by kernel_rfl⟩
instance : TSize Tryz.prog 185 3 := ⟨Tryz.sizeOf185⟩
instance : TAgg Tryz.prog 185 true := ⟨Tryz.isAgg185⟩
def zc185 : Array Value :=  #[Go.Value.int Go.IntKind.i64 0, Go.Value.int Go.IntKind.i64 0, Go.Value.int Go.IntKind.i64 0]
instance : TZero Tryz.prog 185 (.agg zc185) := ⟨Tryz.zeroValue185⟩
instance : TUnd Tryz.prog 185 (.array 3 3) := ⟨Tryz.underlying185⟩
instance : TUnd Tryz.prog 189 (.slice 193) := ⟨Tryz.underlying189⟩
instance : TAgg Tryz.prog 191 false := ⟨Tryz.isAgg191⟩
instance : TSize Tryz.prog 193 6 := ⟨Tryz.sizeOf193⟩
def zc193 : Array Value :=  #[Go.Value.int Go.IntKind.i64 0, Go.Value.int Go.IntKind.i64 0, Go.Value.int Go.IntKind.i64 0, Go.Value.int Go.IntKind.i64 0, Go.Value.int Go.IntKind.i64 0, Go.Value.bool Bool.false]
theorem row193 : (Tryz.prog.info? 193).map (fun i => (i.size, i.bytes)) = some (6, 48) := by kernel_rfl
instance : TFld Tryz.prog 193 0 0 40 4 := ⟨⟨_, _, Tryz.underlying193, rfl, rfl, rfl, Tryz.sizeOf40, by decide⟩⟩
instance : TFld Tryz.prog 193 2 5 4 1 := ⟨⟨_, _, Tryz.underlying193, rfl, rfl, rfl, Tryz.sizeOf4, by decide⟩⟩
instance : TBuild Tryz.prog 193 zc193 [(0, 4), (4, 1), (5, 1)] := ⟨fun _ => by kernel_rfl⟩
instance : TSize Tryz.prog 196 1 := ⟨Tryz.sizeOf196⟩
instance : TAgg Tryz.prog 196 true := ⟨Tryz.isAgg196⟩
def zc196 : Array Value :=  #[Go.Value.int Go.IntKind.i64 0]
instance : TZero Tryz.prog 196 (.agg zc196) := ⟨Tryz.zeroValue196⟩
instance : TFld Tryz.prog 196 0 0 31 1 := ⟨⟨_, _, Tryz.underlying196, rfl, rfl, rfl, Tryz.sizeOf31, by decide⟩⟩
instance : TBuild Tryz.prog 196 zc196 [(0, 1)] := ⟨fun _ => by kernel_rfl⟩
instance : TUnd Tryz.prog 202 (.int Go.IntKind.u64) := ⟨Tryz.underlying202⟩
instance : TSize Tryz.prog 215 3 := ⟨Tryz.sizeOf215⟩
instance : TAgg Tryz.prog 215 true := ⟨Tryz.isAgg215⟩
def zc215 : Array Value :=  #[Go.Value.int Go.IntKind.i64 0, Go.Value.nilFunc, Go.Value.nilFunc]
instance : TZero Tryz.prog 215 (.agg zc215) := ⟨Tryz.zeroValue215⟩
instance : TFld Tryz.prog 215 0 0 3 1 := ⟨⟨_, _, Tryz.underlying215, rfl, rfl, rfl, Tryz.sizeOf3, by decide⟩⟩
instance : TFld Tryz.prog 215 1 1 191 1 := ⟨⟨_, _, Tryz.underlying215, rfl, rfl, rfl, Tryz.sizeOf191, by decide⟩⟩
instance : TBuild Tryz.prog 215 zc215 [(0, 1), (1, 1), (2, 1)] := ⟨fun _ => by kernel_rfl⟩
instance : TSize Tryz.prog 216 24 := ⟨Tryz.sizeOf216⟩
instance : TAgg Tryz.prog 216 true := ⟨Tryz.isAgg216⟩
def zc216 : Array Value :=  #[Go.Value.int Go.IntKind.i64 0, Go.Value.nilFunc, Go.Value.nilFunc, Go.Value.int Go.IntKind.i64 0, Go.Value.nilFunc, Go.Value.nilFunc, Go.Value.int Go.IntKind.i64 0, Go.Value.nilFunc, Go.Value.nilFunc, Go.Value.int Go.IntKind.i64 0, Go.Value.nilFunc, Go.Value.nilFunc, Go.Value.int Go.IntKind.i64 0, Go.Value.nilFunc, Go.Value.nilFunc, Go.Value.int Go.IntKind.i64 0, Go.Value.nilFunc, Go.Value.nilFunc, Go.Value.int Go.IntKind.i64 0, Go.Value.nilFunc, Go.Value.nilFunc, Go.Value.int Go.IntKind.i64 0, Go.Value.nilFunc, Go.Value.nilFunc]
instance : TZero Tryz.prog 216 (.agg zc216) := ⟨Tryz.zeroValue216⟩
instance : TUnd Tryz.prog 216 (.array 8 215) := ⟨Tryz.underlying216⟩
instance : TUnd Tryz.prog 231 (.int Go.IntKind.u64) := ⟨Tryz.underlying231⟩
instance : TRow Tryz.prog 3 #[Go.Value.int Go.IntKind.i64 0] 1 8 := TRow.of Tryz.zeroValue3 rfl row3 rfl
instance : TRow Tryz.prog 40 zc40 4 32 := TRow.of Tryz.zeroValue40 rfl row40 rfl
instance : TRow Tryz.prog 42 zc42 10 96 := TRow.of Tryz.zeroValue42 rfl row42 rfl
instance : TRow Tryz.prog 69 zc69 2 16 := TRow.of Tryz.zeroValue69 rfl row69 rfl
instance : TRow Tryz.prog 71 zc71 4 32 := TRow.of Tryz.zeroValue71 rfl row71 rfl
instance : TRow Tryz.prog 76 zc76 2 16 := TRow.of Tryz.zeroValue76 rfl row76 rfl
instance : TRow Tryz.prog 78 zc78 3 24 := TRow.of Tryz.zeroValue78 rfl row78 rfl
instance : TRow Tryz.prog 91 #[Go.Value.slice Option.none 0 0] 1 24 := TRow.of Tryz.zeroValue91 rfl row91 rfl
instance : TRow Tryz.prog 100 zc100 5 56 := TRow.of Tryz.zeroValue100 rfl row100 rfl
instance : TRow Tryz.prog 156 zc156 5 40 := TRow.of Tryz.zeroValue156 rfl row156 rfl
instance : TRow Tryz.prog 193 zc193 6 48 := TRow.of Tryz.zeroValue193 rfl row193 rfl
instance : FCall Tryz.prog 28 := ⟨Tryz.call28⟩
instance : FCall Tryz.prog 88 := ⟨Tryz.call88⟩
instance : FCall Tryz.prog 127 := ⟨Tryz.call127⟩
instance : FCall Tryz.prog 24 := ⟨Tryz.call24⟩
instance : FCall Tryz.prog 112 := ⟨Tryz.call112⟩
instance : FCall Tryz.prog 66 := ⟨Tryz.call66⟩
instance : FCall Tryz.prog 51 := ⟨Tryz.call51⟩
instance : FCall Tryz.prog 23 := ⟨Tryz.call23⟩
instance : FCall Tryz.prog 54 := ⟨Tryz.call54⟩
instance : FCall Tryz.prog 149 := ⟨Tryz.call149⟩
instance : FCall Tryz.prog 39 := ⟨Tryz.call39⟩
instance : FCall Tryz.prog 42 := ⟨Tryz.call42⟩
instance : FCall Tryz.prog 166 := ⟨Tryz.call166⟩
instance : FCall Tryz.prog 26 := ⟨Tryz.call26⟩
instance : FCall Tryz.prog 80 := ⟨Tryz.call80⟩
instance : FCall Tryz.prog 44 := ⟨Tryz.call44⟩
instance : FCall Tryz.prog 82 := ⟨Tryz.call82⟩
instance : FCall Tryz.prog 131 := ⟨Tryz.call131⟩
instance : FCall Tryz.prog 155 := ⟨Tryz.call155⟩
instance : FCall Tryz.prog 106 := ⟨Tryz.call106⟩
instance : FCall Tryz.prog 8 := ⟨Tryz.call8⟩
instance : FCall Tryz.prog 25 := ⟨Tryz.call25⟩
instance : FCall Tryz.prog 103 := ⟨Tryz.call103⟩
instance : FCall Tryz.prog 57 := ⟨Tryz.call57⟩
instance : FCall Tryz.prog 134 := ⟨Tryz.call134⟩
instance : FCall Tryz.prog 126 := ⟨Tryz.call126⟩
instance : FCall Tryz.prog 121 := ⟨Tryz.call121⟩
instance : FCall Tryz.prog 67 := ⟨Tryz.call67⟩
instance : FCall Tryz.prog 40 := ⟨Tryz.call40⟩
instance : FCall Tryz.prog 160 := ⟨Tryz.call160⟩
instance : FCall Tryz.prog 55 := ⟨Tryz.call55⟩
instance : FCall Tryz.prog 137 := ⟨Tryz.call137⟩
instance : FCall Tryz.prog 159 := ⟨Tryz.call159⟩
instance : FCall Tryz.prog 157 := ⟨Tryz.call157⟩
instance : FCall Tryz.prog 68 := ⟨Tryz.call68⟩
instance : FCall Tryz.prog 17 := ⟨Tryz.call17⟩
instance : FCall Tryz.prog 122 := ⟨Tryz.call122⟩
instance : FCall Tryz.prog 120 := ⟨Tryz.call120⟩
instance : FCall Tryz.prog 109 := ⟨Tryz.call109⟩
instance : FCall Tryz.prog 58 := ⟨Tryz.call58⟩
instance : FCall Tryz.prog 20 := ⟨Tryz.call20⟩
instance : FCall Tryz.prog 107 := ⟨Tryz.call107⟩
instance : FCall Tryz.prog 86 := ⟨Tryz.call86⟩
instance : FCall Tryz.prog 81 := ⟨Tryz.call81⟩
instance : FCall Tryz.prog 29 := ⟨Tryz.call29⟩
instance : FCall Tryz.prog 102 := ⟨Tryz.call102⟩
instance : FCall Tryz.prog 21 := ⟨Tryz.call21⟩
instance : FCall Tryz.prog 41 := ⟨Tryz.call41⟩
instance : FCall Tryz.prog 89 := ⟨Tryz.call89⟩
instance : FCall Tryz.prog 65 := ⟨Tryz.call65⟩
instance : FCall Tryz.prog 69 := ⟨Tryz.call69⟩
instance : FCall Tryz.prog 9 := ⟨Tryz.call9⟩
instance : FCall Tryz.prog 105 := ⟨Tryz.call105⟩
instance : FCall Tryz.prog 154 := ⟨Tryz.call154⟩
instance : FCall Tryz.prog 111 := ⟨Tryz.call111⟩
instance : FCall Tryz.prog 133 := ⟨Tryz.call133⟩
instance : FCall Tryz.prog 108 := ⟨Tryz.call108⟩
instance : FCall Tryz.prog 119 := ⟨Tryz.call119⟩
instance : FCall Tryz.prog 52 := ⟨Tryz.call52⟩
instance : FCall Tryz.prog 143 := ⟨Tryz.call143⟩
instance : FCall Tryz.prog 19 := ⟨Tryz.call19⟩
instance : FCall Tryz.prog 151 := ⟨Tryz.call151⟩
instance : FCall Tryz.prog 22 := ⟨Tryz.call22⟩
instance : FCall Tryz.prog 132 := ⟨Tryz.call132⟩
instance : FCall Tryz.prog 27 := ⟨Tryz.call27⟩
instance : FCall Tryz.prog 45 := ⟨Tryz.call45⟩
instance : FCall Tryz.prog 70 := ⟨Tryz.call70⟩
instance : FCall Tryz.prog 83 := ⟨Tryz.call83⟩
instance : FCall Tryz.prog 152 := ⟨Tryz.call152⟩
instance : FCall Tryz.prog 37 := ⟨Tryz.call37⟩
instance : FCall Tryz.prog 85 := ⟨Tryz.call85⟩
instance : FCall Tryz.prog 147 := ⟨Tryz.call147⟩
instance : FCall Tryz.prog 87 := ⟨Tryz.call87⟩
instance : FCall Tryz.prog 12 := ⟨Tryz.call12⟩
instance : FCall Tryz.prog 53 := ⟨Tryz.call53⟩
instance : FCall Tryz.prog 43 := ⟨Tryz.call43⟩
instance : FCall Tryz.prog 110 := ⟨Tryz.call110⟩
instance : FCall Tryz.prog 93 := ⟨Tryz.call93⟩
instance : FCall Tryz.prog 114 := ⟨Tryz.call114⟩
instance : FCall Tryz.prog 125 := ⟨Tryz.call125⟩
instance : FCall Tryz.prog 84 := ⟨Tryz.call84⟩
instance : FCall Tryz.prog 56 := ⟨Tryz.call56⟩
instance : FCall Tryz.prog 104 := ⟨Tryz.call104⟩
theorem mixed : Tryz.prog.follows .mixedOrders = true := by kernel_rfl
end Go.Proofs.YtncgndcepoicbaaGreat
