/-
  A part of what the last of these texts needs; by itself it proves no statement.
-/
import Derived.Test.YtdiaogcogkapgaaGreatDoorRows
import Derived.Test.YtdiaogcogkapgaaGreatDoorKP2
namespace Go.Proofs.YtdiaogcogkapgaaGreatDoor
instance : TSize Tryz.prog 2 1 := ⟨Tryz.sizeOf2⟩
instance : TAgg Tryz.prog 2 false := ⟨Tryz.isAgg2⟩
instance : TZero Tryz.prog 2 (Go.Value.int Go.IntKind.i64 0) := ⟨Tryz.zeroValue2⟩
instance : TUnd Tryz.prog 2 (.int Go.IntKind.i64) := ⟨Tryz.underlying2⟩
instance : TSize Tryz.prog 3 1 := ⟨Tryz.sizeOf3⟩
instance : TAgg Tryz.prog 3 false := ⟨Tryz.isAgg3⟩
theorem row3 : (Tryz.prog.info? 3).map (fun i => (i.size, i.bytes)) = some (1, 8) := by kernel_rfl
instance : TUnd Tryz.prog 3 (.int Go.IntKind.i64) := ⟨Tryz.underlying3⟩
instance : TSize Tryz.prog 4 1 := ⟨Tryz.sizeOf4⟩
instance : TAgg Tryz.prog 4 false := ⟨Tryz.isAgg4⟩
instance : TZero Tryz.prog 4 (Go.Value.bool Bool.false) := ⟨Tryz.zeroValue4⟩
instance : TUnd Tryz.prog 4 .bool := ⟨Tryz.underlying4⟩
instance : TSize Tryz.prog 5 1 := ⟨Tryz.sizeOf5⟩
instance : TAgg Tryz.prog 5 false := ⟨Tryz.isAgg5⟩
theorem row5 : (Tryz.prog.info? 5).map (fun i => (i.size, i.bytes)) = some (1, 1) := by kernel_rfl
instance : TUnd Tryz.prog 5 (.int Go.IntKind.u8) := ⟨Tryz.underlying5⟩
instance : TSize Tryz.prog 9 1 := ⟨Tryz.sizeOf9⟩
instance : TAgg Tryz.prog 9 false := ⟨Tryz.isAgg9⟩
theorem row9 : (Tryz.prog.info? 9).map (fun i => (i.size, i.bytes)) = some (1, 16) := by kernel_rfl
instance : TUnd Tryz.prog 9 .string := ⟨Tryz.underlying9⟩
instance : TUnd Tryz.prog 20 (Go.TypeDesc.interface #[]) := ⟨Tryz.underlying20⟩
instance : TAgg Tryz.prog 24 false := ⟨Tryz.isAgg24⟩
instance : TUnd Tryz.prog 24 (.pointer 81) := ⟨Tryz.underlying24⟩
instance : TAgg Tryz.prog 26 false := ⟨Tryz.isAgg26⟩
instance : TUnd Tryz.prog 26 (.pointer 88) := ⟨Tryz.underlying26⟩
instance : TAgg Tryz.prog 29 false := ⟨Tryz.isAgg29⟩
instance : TSize Tryz.prog 31 1 := ⟨Tryz.sizeOf31⟩
instance : TAgg Tryz.prog 31 false := ⟨Tryz.isAgg31⟩
instance : TUnd Tryz.prog 31 (.int Go.IntKind.u32) := ⟨Tryz.underlying31⟩
instance : TSize Tryz.prog 33 6 := ⟨Tryz.sizeOf33⟩
instance : TAgg Tryz.prog 33 true := ⟨Tryz.isAgg33⟩
def zc33 : Array Value :=  #[Go.Value.int Go.IntKind.u32 0, Go.Value.int Go.IntKind.i64 0, Go.Value.int Go.IntKind.i64 0, Go.Value.int Go.IntKind.u8 0, Go.Value.bool Bool.false, Go.Value.bool Bool.false]
instance : TZero Tryz.prog 33 (.agg zc33) := ⟨Tryz.zeroValue33⟩
instance : TFld Tryz.prog 33 0 0 31 1 := ⟨⟨_, _, Tryz.underlying33, rfl, rfl, rfl, Tryz.sizeOf31, by decide⟩⟩
instance : TFld Tryz.prog 33 1 1 2 1 := ⟨⟨_, _, Tryz.underlying33, rfl, rfl, rfl, Tryz.sizeOf2, by decide⟩⟩
instance : TFld Tryz.prog 33 2 2 2 1 := ⟨⟨_, _, Tryz.underlying33, rfl, rfl, rfl, Tryz.sizeOf2, by decide⟩⟩
instance : TFld Tryz.prog 33 3 3 5 1 := ⟨⟨_, _, Tryz.underlying33, rfl, rfl, rfl, Tryz.sizeOf5, by decide⟩⟩
instance : TFld Tryz.prog 33 4 4 4 1 := ⟨⟨_, _, Tryz.underlying33, rfl, rfl, rfl, Tryz.sizeOf4, by decide⟩⟩
instance : TFld Tryz.prog 33 5 5 4 1 := ⟨⟨_, _, Tryz.underlying33, rfl, rfl, rfl, Tryz.sizeOf4, by decide⟩⟩
instance : TSize Tryz.prog 34 1 := ⟨Tryz.sizeOf34⟩
instance : TAgg Tryz.prog 34 false := ⟨Tryz.isAgg34⟩
instance : TUnd Tryz.prog 34 (.slice 3) := ⟨Tryz.underlying34⟩
instance : TSize Tryz.prog 36 4 := ⟨Tryz.sizeOf36⟩
instance : TAgg Tryz.prog 36 true := ⟨Tryz.isAgg36⟩
def zc36 : Array Value :=  #[Go.Value.int Go.IntKind.i64 0, Go.Value.int Go.IntKind.i64 0, Go.Value.int Go.IntKind.i64 0, Go.Value.int Go.IntKind.i64 0]
instance : TZero Tryz.prog 36 (.agg zc36) := ⟨Tryz.zeroValue36⟩
instance : TFld Tryz.prog 36 0 0 3 1 := ⟨⟨_, _, Tryz.underlying36, rfl, rfl, rfl, Tryz.sizeOf3, by decide⟩⟩
instance : TFld Tryz.prog 36 1 1 2 1 := ⟨⟨_, _, Tryz.underlying36, rfl, rfl, rfl, Tryz.sizeOf2, by decide⟩⟩
instance : TFld Tryz.prog 36 2 2 2 1 := ⟨⟨_, _, Tryz.underlying36, rfl, rfl, rfl, Tryz.sizeOf2, by decide⟩⟩
instance : TFld Tryz.prog 36 3 3 3 1 := ⟨⟨_, _, Tryz.underlying36, rfl, rfl, rfl, Tryz.sizeOf3, by decide⟩⟩
instance : TSize Tryz.prog 38 10 := ⟨Tryz.sizeOf38⟩
instance : TAgg Tryz.prog 38 true := ⟨Tryz.isAgg38⟩
def zc38 : Array Value :=  #[Go.Value.int Go.IntKind.i64 0, Go.Value.int Go.IntKind.i64 0, Go.Value.slice Option.none 0 0, Go.Value.int Go.IntKind.i64 0, Go.Value.int Go.IntKind.i64 0, Go.Value.int Go.IntKind.i64 0, Go.Value.int Go.IntKind.i64 0, Go.Value.int Go.IntKind.i64 0, Go.Value.int Go.IntKind.i64 0, Go.Value.int Go.IntKind.i64 0]
instance : TZero Tryz.prog 38 (.agg zc38) := ⟨Tryz.zeroValue38⟩
instance : TFld Tryz.prog 38 0 0 3 1 := ⟨⟨_, _, Tryz.underlying38, rfl, rfl, rfl, Tryz.sizeOf3, by decide⟩⟩
instance : TFld Tryz.prog 38 1 1 2 1 := ⟨⟨_, _, Tryz.underlying38, rfl, rfl, rfl, Tryz.sizeOf2, by decide⟩⟩
instance : TFld Tryz.prog 38 2 2 34 1 := ⟨⟨_, _, Tryz.underlying38, rfl, rfl, rfl, Tryz.sizeOf34, by decide⟩⟩
instance : TFld Tryz.prog 38 3 3 3 1 := ⟨⟨_, _, Tryz.underlying38, rfl, rfl, rfl, Tryz.sizeOf3, by decide⟩⟩
instance : TFld Tryz.prog 38 4 4 3 1 := ⟨⟨_, _, Tryz.underlying38, rfl, rfl, rfl, Tryz.sizeOf3, by decide⟩⟩
instance : TFld Tryz.prog 38 5 5 36 4 := ⟨⟨_, _, Tryz.underlying38, rfl, rfl, rfl, Tryz.sizeOf36, by decide⟩⟩
instance : TFld Tryz.prog 38 6 9 3 1 := ⟨⟨_, _, Tryz.underlying38, rfl, rfl, rfl, Tryz.sizeOf3, by decide⟩⟩
instance : TSize Tryz.prog 39 1 := ⟨Tryz.sizeOf39⟩
instance : TAgg Tryz.prog 39 false := ⟨Tryz.isAgg39⟩
instance : TUnd Tryz.prog 39 (.slice 214) := ⟨Tryz.underlying39⟩
instance : TSize Tryz.prog 41 4 := ⟨Tryz.sizeOf41⟩
instance : TAgg Tryz.prog 41 true := ⟨Tryz.isAgg41⟩
def zc41 : Array Value :=  #[Go.Value.int Go.IntKind.i64 0, Go.Value.int Go.IntKind.i64 0, Go.Value.bool Bool.false, Go.Value.slice Option.none 0 0]
instance : TZero Tryz.prog 41 (.agg zc41) := ⟨Tryz.zeroValue41⟩
instance : TFld Tryz.prog 41 0 0 3 1 := ⟨⟨_, _, Tryz.underlying41, rfl, rfl, rfl, Tryz.sizeOf3, by decide⟩⟩
instance : TFld Tryz.prog 41 1 1 3 1 := ⟨⟨_, _, Tryz.underlying41, rfl, rfl, rfl, Tryz.sizeOf3, by decide⟩⟩
instance : TFld Tryz.prog 41 2 2 4 1 := ⟨⟨_, _, Tryz.underlying41, rfl, rfl, rfl, Tryz.sizeOf4, by decide⟩⟩
instance : TFld Tryz.prog 41 3 3 39 1 := ⟨⟨_, _, Tryz.underlying41, rfl, rfl, rfl, Tryz.sizeOf39, by decide⟩⟩
instance : TSize Tryz.prog 43 24 := ⟨Tryz.sizeOf43⟩
instance : TAgg Tryz.prog 43 true := ⟨Tryz.isAgg43⟩
def zc43 : Array Value :=  #[Go.Value.int Go.IntKind.i64 0, Go.Value.int Go.IntKind.i64 0, Go.Value.int Go.IntKind.u32 0, Go.Value.int Go.IntKind.i64 0, Go.Value.int Go.IntKind.i64 0, Go.Value.int Go.IntKind.u8 0, Go.Value.bool Bool.false, Go.Value.bool Bool.false, Go.Value.int Go.IntKind.i64 0, Go.Value.int Go.IntKind.i64 0, Go.Value.int Go.IntKind.i64 0, Go.Value.int Go.IntKind.i64 0, Go.Value.slice Option.none 0 0, Go.Value.int Go.IntKind.i64 0, Go.Value.int Go.IntKind.i64 0, Go.Value.int Go.IntKind.i64 0, Go.Value.int Go.IntKind.i64 0, Go.Value.int Go.IntKind.i64 0, Go.Value.int Go.IntKind.i64 0, Go.Value.int Go.IntKind.i64 0, Go.Value.int Go.IntKind.i64 0, Go.Value.int Go.IntKind.i64 0, Go.Value.bool Bool.false, Go.Value.slice Option.none 0 0]
instance : TZero Tryz.prog 43 (.agg zc43) := ⟨Tryz.zeroValue43⟩
theorem row43 : (Tryz.prog.info? 43).map (fun i => (i.size, i.bytes)) = some (24, 208) := by kernel_rfl
instance : TFld Tryz.prog 43 0 0 3 1 := ⟨⟨_, _, Tryz.underlying43, rfl, rfl, rfl, Tryz.sizeOf3, by decide⟩⟩
instance : TFld Tryz.prog 43 1 1 3 1 := ⟨⟨_, _, Tryz.underlying43, rfl, rfl, rfl, Tryz.sizeOf3, by decide⟩⟩
instance : TFld Tryz.prog 43 2 2 33 6 := ⟨⟨_, _, Tryz.underlying43, rfl, rfl, rfl, Tryz.sizeOf33, by decide⟩⟩
instance : TFld Tryz.prog 43 3 8 2 1 := ⟨⟨_, _, Tryz.underlying43, rfl, rfl, rfl, Tryz.sizeOf2, by decide⟩⟩
instance : TFld Tryz.prog 43 4 9 3 1 := ⟨⟨_, _, Tryz.underlying43, rfl, rfl, rfl, Tryz.sizeOf3, by decide⟩⟩
instance : TFld Tryz.prog 43 5 10 38 10 := ⟨⟨_, _, Tryz.underlying43, rfl, rfl, rfl, Tryz.sizeOf38, by decide⟩⟩
instance : TFld Tryz.prog 43 6 20 41 4 := ⟨⟨_, _, Tryz.underlying43, rfl, rfl, rfl, Tryz.sizeOf41, by decide⟩⟩
instance : TBuild Tryz.prog 43 zc43 [(0, 1), (1, 1), (2, 6), (8, 1), (9, 1), (10, 10), (20, 4)] := ⟨fun _ => by kernel_rfl⟩
instance : TSize Tryz.prog 54 1 := ⟨Tryz.sizeOf54⟩
instance : TAgg Tryz.prog 54 false := ⟨Tryz.isAgg54⟩
theorem row54 : (Tryz.prog.info? 54).map (fun i => (i.size, i.bytes)) = some (1, 8) := by kernel_rfl
instance : TSize Tryz.prog 58 3 := ⟨Tryz.sizeOf58⟩
instance : TAgg Tryz.prog 58 true := ⟨Tryz.isAgg58⟩
def zc58 : Array Value :=  #[Go.Value.int Go.IntKind.i64 0, Go.Value.int Go.IntKind.i64 0, Go.Value.int Go.IntKind.i64 0]
instance : TZero Tryz.prog 58 (.agg zc58) := ⟨Tryz.zeroValue58⟩
instance : TUnd Tryz.prog 58 (.array 3 3) := ⟨Tryz.underlying58⟩
instance : TUnd Tryz.prog 59 (.slice 107) := ⟨Tryz.underlying59⟩
def zc60 : Array Value :=  #[Go.Value.int Go.IntKind.i64 0, Go.Value.int Go.IntKind.i64 0, Go.Value.int Go.IntKind.i64 0, Go.Value.int Go.IntKind.i64 0, Go.Value.int Go.IntKind.i64 0, Go.Value.int Go.IntKind.i64 0]
instance : TUnd Tryz.prog 60 (.array 2 58) := ⟨Tryz.underlying60⟩
instance : TAgg Tryz.prog 62 false := ⟨Tryz.isAgg62⟩
instance : TUnd Tryz.prog 62 (.pointer 100) := ⟨Tryz.underlying62⟩
instance : TAgg Tryz.prog 64 false := ⟨Tryz.isAgg64⟩
instance : TUnd Tryz.prog 64 (.pointer 104) := ⟨Tryz.underlying64⟩
def zc67 : Array Value :=  #[Go.Value.pointer Option.none, Go.Value.pointer Option.none, Go.Value.pointer Option.none, Go.Value.pointer Option.none]
instance : TFld Tryz.prog 67 0 0 24 1 := ⟨⟨_, _, Tryz.underlying67, rfl, rfl, rfl, Tryz.sizeOf24, by decide⟩⟩
instance : TFld Tryz.prog 67 1 1 26 1 := ⟨⟨_, _, Tryz.underlying67, rfl, rfl, rfl, Tryz.sizeOf26, by decide⟩⟩
instance : TFld Tryz.prog 67 2 2 62 1 := ⟨⟨_, _, Tryz.underlying67, rfl, rfl, rfl, Tryz.sizeOf62, by decide⟩⟩
instance : TFld Tryz.prog 67 3 3 64 1 := ⟨⟨_, _, Tryz.underlying67, rfl, rfl, rfl, Tryz.sizeOf64, by decide⟩⟩
instance : TBuild Tryz.prog 67 zc67 [(0, 1), (1, 1), (2, 1), (3, 1)] := ⟨fun _ => by kernel_rfl⟩
instance : TAgg Tryz.prog 72 false := ⟨Tryz.isAgg72⟩
instance : TUnd Tryz.prog 72 (.pointer 123) := ⟨Tryz.underlying72⟩
instance : TSize Tryz.prog 76 2 := ⟨Tryz.sizeOf76⟩
instance : TAgg Tryz.prog 76 true := ⟨Tryz.isAgg76⟩
def zc76 : Array Value :=  #[Go.Value.int Go.IntKind.i64 0, Go.Value.int Go.IntKind.i64 0]
instance : TFld Tryz.prog 76 0 0 3 1 := ⟨⟨_, _, Tryz.underlying76, rfl, rfl, rfl, Tryz.sizeOf3, by decide⟩⟩
instance : TFld Tryz.prog 76 1 1 3 1 := ⟨⟨_, _, Tryz.underlying76, rfl, rfl, rfl, Tryz.sizeOf3, by decide⟩⟩
instance : TBuild Tryz.prog 76 zc76 [(0, 1), (1, 1)] := ⟨fun _ => by kernel_rfl⟩
instance : TAgg Tryz.prog 77 false := ⟨Tryz.isAgg77⟩
def zc79 : Array Value :=  #[Go.Value.pointer Option.none]
instance : TFld Tryz.prog 79 0 0 72 1 := ⟨⟨_, _, Tryz.underlying79, rfl, rfl, rfl, Tryz.sizeOf72, by decide⟩⟩
instance : TBuild Tryz.prog 79 zc79 [(0, 1)] := ⟨fun _ => by kernel_rfl⟩
def zc81 : Array Value :=  #[Go.Value.int Go.IntKind.i64 0, Go.Value.int Go.IntKind.i64 0, Go.Value.pointer Option.none]
instance : TFld Tryz.prog 81 0 0 76 2 := ⟨⟨_, _, Tryz.underlying81, rfl, rfl, rfl, Tryz.sizeOf76, by decide⟩⟩
instance : TFld Tryz.prog 81 1 2 77 1 := ⟨⟨_, _, Tryz.underlying81, rfl, rfl, rfl, Tryz.sizeOf77, by decide⟩⟩
instance : TBuild Tryz.prog 81 zc81 [(0, 2), (2, 1)] := ⟨fun _ => by kernel_rfl⟩
instance : TAgg Tryz.prog 82 false := ⟨Tryz.isAgg82⟩
instance : TUnd Tryz.prog 82 (.pointer 126) := ⟨Tryz.underlying82⟩
instance : TAgg Tryz.prog 84 false := ⟨Tryz.isAgg84⟩
def zc86 : Array Value :=  #[Go.Value.pointer Option.none]
instance : TFld Tryz.prog 86 0 0 82 1 := ⟨⟨_, _, Tryz.underlying86, rfl, rfl, rfl, Tryz.sizeOf82, by decide⟩⟩
instance : TBuild Tryz.prog 86 zc86 [(0, 1)] := ⟨fun _ => by kernel_rfl⟩
def zc88 : Array Value :=  #[Go.Value.int Go.IntKind.i64 0, Go.Value.int Go.IntKind.i64 0, Go.Value.pointer Option.none]
instance : TFld Tryz.prog 88 0 0 76 2 := ⟨⟨_, _, Tryz.underlying88, rfl, rfl, rfl, Tryz.sizeOf76, by decide⟩⟩
instance : TFld Tryz.prog 88 1 2 84 1 := ⟨⟨_, _, Tryz.underlying88, rfl, rfl, rfl, Tryz.sizeOf84, by decide⟩⟩
instance : TBuild Tryz.prog 88 zc88 [(0, 2), (2, 1)] := ⟨fun _ => by kernel_rfl⟩
instance : TSize Tryz.prog 91 1 := ⟨Tryz.sizeOf91⟩
instance : TAgg Tryz.prog 91 false := ⟨Tryz.isAgg91⟩
instance : TZero Tryz.prog 91 (Go.Value.int Go.IntKind.u64 0) := ⟨Tryz.zeroValue91⟩
instance : TUnd Tryz.prog 91 (.int Go.IntKind.u64) := ⟨Tryz.underlying91⟩
instance : TSize Tryz.prog 93 29 := ⟨Tryz.sizeOf93⟩
instance : TAgg Tryz.prog 93 true := ⟨Tryz.isAgg93⟩
def zc93 : Array Value :=  #[Go.Value.int Go.IntKind.i64 0, Go.Value.int Go.IntKind.i64 0, Go.Value.bool Bool.false, Go.Value.int Go.IntKind.u64 0, Go.Value.int Go.IntKind.i64 0, Go.Value.int Go.IntKind.i64 0, Go.Value.int Go.IntKind.i64 0, Go.Value.int Go.IntKind.u32 0, Go.Value.int Go.IntKind.i64 0, Go.Value.int Go.IntKind.i64 0, Go.Value.int Go.IntKind.u8 0, Go.Value.bool Bool.false, Go.Value.bool Bool.false, Go.Value.int Go.IntKind.i64 0, Go.Value.int Go.IntKind.i64 0, Go.Value.int Go.IntKind.i64 0, Go.Value.int Go.IntKind.i64 0, Go.Value.slice Option.none 0 0, Go.Value.int Go.IntKind.i64 0, Go.Value.int Go.IntKind.i64 0, Go.Value.int Go.IntKind.i64 0, Go.Value.int Go.IntKind.i64 0, Go.Value.int Go.IntKind.i64 0, Go.Value.int Go.IntKind.i64 0, Go.Value.int Go.IntKind.i64 0, Go.Value.int Go.IntKind.i64 0, Go.Value.int Go.IntKind.i64 0, Go.Value.bool Bool.false, Go.Value.slice Option.none 0 0]
instance : TZero Tryz.prog 93 (.agg zc93) := ⟨Tryz.zeroValue93⟩
instance : TFld Tryz.prog 93 0 0 3 1 := ⟨⟨_, _, Tryz.underlying93, rfl, rfl, rfl, Tryz.sizeOf3, by decide⟩⟩
instance : TFld Tryz.prog 93 1 1 3 1 := ⟨⟨_, _, Tryz.underlying93, rfl, rfl, rfl, Tryz.sizeOf3, by decide⟩⟩
instance : TFld Tryz.prog 93 2 2 4 1 := ⟨⟨_, _, Tryz.underlying93, rfl, rfl, rfl, Tryz.sizeOf4, by decide⟩⟩
instance : TFld Tryz.prog 93 3 3 91 1 := ⟨⟨_, _, Tryz.underlying93, rfl, rfl, rfl, Tryz.sizeOf91, by decide⟩⟩
instance : TFld Tryz.prog 93 4 4 3 1 := ⟨⟨_, _, Tryz.underlying93, rfl, rfl, rfl, Tryz.sizeOf3, by decide⟩⟩
instance : TFld Tryz.prog 93 5 5 43 24 := ⟨⟨_, _, Tryz.underlying93, rfl, rfl, rfl, Tryz.sizeOf43, by decide⟩⟩
instance : TBuild Tryz.prog 93 zc93 [(0, 1), (1, 1), (2, 1), (3, 1), (4, 1), (5, 24)] := ⟨fun _ => by kernel_rfl⟩
instance : TAgg Tryz.prog 97 false := ⟨Tryz.isAgg97⟩
def zc100 : Array Value :=  #[Go.Value.int Go.IntKind.i64 0, Go.Value.int Go.IntKind.i64 0, Go.Value.pointer Option.none]
instance : TFld Tryz.prog 100 0 0 3 1 := ⟨⟨_, _, Tryz.underlying100, rfl, rfl, rfl, Tryz.sizeOf3, by decide⟩⟩
instance : TFld Tryz.prog 100 1 1 3 1 := ⟨⟨_, _, Tryz.underlying100, rfl, rfl, rfl, Tryz.sizeOf3, by decide⟩⟩
instance : TFld Tryz.prog 100 2 2 97 1 := ⟨⟨_, _, Tryz.underlying100, rfl, rfl, rfl, Tryz.sizeOf97, by decide⟩⟩
instance : TBuild Tryz.prog 100 zc100 [(0, 1), (1, 1), (2, 1)] := ⟨fun _ => by kernel_rfl⟩
instance : TAgg Tryz.prog 101 false := ⟨Tryz.isAgg101⟩
def zc104 : Array Value :=  #[Go.Value.int Go.IntKind.i64 0, Go.Value.int Go.IntKind.i64 0, Go.Value.pointer Option.none]
instance : TFld Tryz.prog 104 0 0 3 1 := ⟨⟨_, _, Tryz.underlying104, rfl, rfl, rfl, Tryz.sizeOf3, by decide⟩⟩
instance : TFld Tryz.prog 104 1 1 3 1 := ⟨⟨_, _, Tryz.underlying104, rfl, rfl, rfl, Tryz.sizeOf3, by decide⟩⟩
instance : TFld Tryz.prog 104 2 2 101 1 := ⟨⟨_, _, Tryz.underlying104, rfl, rfl, rfl, Tryz.sizeOf101, by decide⟩⟩
instance : TBuild Tryz.prog 104 zc104 [(0, 1), (1, 1), (2, 1)] := ⟨fun _ => by kernel_rfl⟩
instance : TUnd Tryz.prog 105 (.slice 9) := ⟨Tryz.underlying105⟩
instance : TSize Tryz.prog 107 32 := ⟨Tryz.sizeOf107⟩
instance : TAgg Tryz.prog 107 true := ⟨Tryz.isAgg107⟩
def zc107 : Array Value :=  #[Go.Value.int Go.IntKind.u8 0, Go.Value.int Go.IntKind.u8 0, Go.Value.int Go.IntKind.i64 0, Go.Value.int Go.IntKind.i64 0, Go.Value.bool Bool.false, Go.Value.int Go.IntKind.u64 0, Go.Value.int Go.IntKind.i64 0, Go.Value.int Go.IntKind.i64 0, Go.Value.int Go.IntKind.i64 0, Go.Value.int Go.IntKind.u32 0, Go.Value.int Go.IntKind.i64 0, Go.Value.int Go.IntKind.i64 0, Go.Value.int Go.IntKind.u8 0, Go.Value.bool Bool.false, Go.Value.bool Bool.false, Go.Value.int Go.IntKind.i64 0, Go.Value.int Go.IntKind.i64 0, Go.Value.int Go.IntKind.i64 0, Go.Value.int Go.IntKind.i64 0, Go.Value.slice Option.none 0 0, Go.Value.int Go.IntKind.i64 0, Go.Value.int Go.IntKind.i64 0, Go.Value.int Go.IntKind.i64 0, Go.Value.int Go.IntKind.i64 0, Go.Value.int Go.IntKind.i64 0, Go.Value.int Go.IntKind.i64 0, Go.Value.int Go.IntKind.i64 0, Go.Value.int Go.IntKind.i64 0, Go.Value.int Go.IntKind.i64 0, Go.Value.bool Bool.false, Go.Value.slice Option.none 0 0, Go.Value.string { data := #[] }]
instance : TZero Tryz.prog 107 (.agg zc107) := ⟨Tryz.zeroValue107⟩
instance : TFld Tryz.prog 107 0 0 5 1 := ⟨⟨_, _, Tryz.underlying107, rfl, rfl, rfl, Tryz.sizeOf5, by decide⟩⟩
instance : TFld Tryz.prog 107 1 1 5 1 := ⟨⟨_, _, Tryz.underlying107, rfl, rfl, rfl, Tryz.sizeOf5, by decide⟩⟩
instance : TFld Tryz.prog 107 2 2 93 29 := ⟨⟨_, _, Tryz.underlying107, rfl, rfl, rfl, Tryz.sizeOf93, by decide⟩⟩
instance : TFld Tryz.prog 107 3 31 9 1 := ⟨⟨_, _, Tryz.underlying107, rfl, rfl, rfl, Tryz.sizeOf9, by decide⟩⟩
instance : TSize Tryz.prog 111 1 := ⟨Tryz.sizeOf111⟩
instance : TAgg Tryz.prog 111 false := ⟨Tryz.isAgg111⟩
instance : TUnd Tryz.prog 111 (.slice 43) := ⟨Tryz.underlying111⟩
def zc113 : Array Value :=  #[Go.Value.int Go.IntKind.i64 0, Go.Value.int Go.IntKind.u64 0, Go.Value.int Go.IntKind.u64 0, Go.Value.slice Option.none 0 0]
instance : TFld Tryz.prog 113 0 0 3 1 := ⟨⟨_, _, Tryz.underlying113, rfl, rfl, rfl, Tryz.sizeOf3, by decide⟩⟩
instance : TFld Tryz.prog 113 1 1 91 1 := ⟨⟨_, _, Tryz.underlying113, rfl, rfl, rfl, Tryz.sizeOf91, by decide⟩⟩
instance : TFld Tryz.prog 113 2 2 91 1 := ⟨⟨_, _, Tryz.underlying113, rfl, rfl, rfl, Tryz.sizeOf91, by decide⟩⟩
instance : TFld Tryz.prog 113 3 3 111 1 := ⟨⟨_, _, Tryz.underlying113, rfl, rfl, rfl, Tryz.sizeOf111, by decide⟩⟩
instance : TBuild Tryz.prog 113 zc113 [(0, 1), (1, 1), (2, 1), (3, 1)] := ⟨fun _ => by kernel_rfl⟩
def zc115 : Array Value :=  #[Go.Value.int Go.IntKind.i64 0, Go.Value.slice Option.none 0 0, Go.Value.int Go.IntKind.u64 0, Go.Value.int Go.IntKind.i64 0]
instance : TFld Tryz.prog 115 0 0 3 1 := ⟨⟨_, _, Tryz.underlying115, rfl, rfl, rfl, Tryz.sizeOf3, by decide⟩⟩
instance : TFld Tryz.prog 115 1 1 111 1 := ⟨⟨_, _, Tryz.underlying115, rfl, rfl, rfl, Tryz.sizeOf111, by decide⟩⟩
instance : TFld Tryz.prog 115 2 2 91 1 := ⟨⟨_, _, Tryz.underlying115, rfl, rfl, rfl, Tryz.sizeOf91, by decide⟩⟩
instance : TFld Tryz.prog 115 3 3 3 1 := ⟨⟨_, _, Tryz.underlying115, rfl, rfl, rfl, Tryz.sizeOf3, by decide⟩⟩
instance : TBuild Tryz.prog 115 zc115 [(0, 1), (1, 1), (2, 1), (3, 1)] := ⟨fun _ => by kernel_rfl⟩
def zc123 : Array Value :=  #[Go.Value.slice Option.none 0 0, Go.Value.int Go.IntKind.i64 0, Go.Value.int Go.IntKind.u64 0, Go.Value.int Go.IntKind.u64 0]
instance : TFld Tryz.prog 123 0 0 111 1 := ⟨⟨_, _, Tryz.underlying123, rfl, rfl, rfl, Tryz.sizeOf111, by decide⟩⟩
instance : TFld Tryz.prog 123 1 1 3 1 := ⟨⟨_, _, Tryz.underlying123, rfl, rfl, rfl, Tryz.sizeOf3, by decide⟩⟩
instance : TFld Tryz.prog 123 2 2 91 1 := ⟨⟨_, _, Tryz.underlying123, rfl, rfl, rfl, Tryz.sizeOf91, by decide⟩⟩
instance : TFld Tryz.prog 123 3 3 91 1 := ⟨⟨_, _, Tryz.underlying123, rfl, rfl, rfl, Tryz.sizeOf91, by decide⟩⟩
instance : TBuild Tryz.prog 123 zc123 [(0, 1), (1, 1), (2, 1), (3, 1)] := ⟨fun _ => by kernel_rfl⟩
instance : TUnd Tryz.prog 124 (.array 16 43) := ⟨Tryz.underlying124⟩
instance : TFld Tryz.prog 126 0 0 124 384 := ⟨⟨_, _, Tryz.underlying126, rfl, rfl, rfl, Tryz.sizeOf124, by decide⟩⟩
instance : TFld Tryz.prog 126 1 384 3 1 := ⟨⟨_, _, Tryz.underlying126, rfl, rfl, rfl, Tryz.sizeOf3, by decide⟩⟩
instance : TFld Tryz.prog 126 2 385 3 1 := ⟨⟨_, _, Tryz.underlying126, rfl, rfl, rfl, Tryz.sizeOf3, by decide⟩⟩
instance : TFld Tryz.prog 126 3 386 3 1 := ⟨⟨_, _, Tryz.underlying126, rfl, rfl, rfl, Tryz.sizeOf3, by decide⟩⟩
instance : TFld Tryz.prog 126 4 387 91 1 := ⟨⟨_, _, Tryz.underlying126, rfl, rfl, rfl, Tryz.sizeOf91, by decide⟩⟩
instance : TFld Tryz.prog 126 5 388 3 1 := ⟨⟨_, _, Tryz.underlying126, rfl, rfl, rfl, Tryz.sizeOf3, by decide⟩⟩
instance : TBuild Tryz.prog 126 Tryz.zeroCells126 [(0, 384), (384, 1), (385, 1), (386, 1), (387, 1), (388, 1)] := ⟨fun _ => by kernel_rfl⟩
instance : TUnd Tryz.prog 127 (.slice 54) := ⟨Tryz.underlying127⟩
instance : TSize Tryz.prog 129 3 := ⟨Tryz.sizeOf129⟩
instance : TAgg Tryz.prog 129 true := ⟨Tryz.isAgg129⟩
def zc129 : Array Value :=  #[Go.Value.int Go.IntKind.i64 0, Go.Value.int Go.IntKind.i64 0, Go.Value.bool Bool.false]
instance : TZero Tryz.prog 129 (.agg zc129) := ⟨Tryz.zeroValue129⟩
instance : TFld Tryz.prog 129 0 0 3 1 := ⟨⟨_, _, Tryz.underlying129, rfl, rfl, rfl, Tryz.sizeOf3, by decide⟩⟩
instance : TFld Tryz.prog 129 1 1 3 1 := ⟨⟨_, _, Tryz.underlying129, rfl, rfl, rfl, Tryz.sizeOf3, by decide⟩⟩
instance : TFld Tryz.prog 129 2 2 4 1 := ⟨⟨_, _, Tryz.underlying129, rfl, rfl, rfl, Tryz.sizeOf4, by decide⟩⟩
instance : TBuild Tryz.prog 129 zc129 [(0, 1), (1, 1), (2, 1)] := ⟨fun _ => by kernel_rfl⟩
def zc130 : Array Value :=  #[Go.Value.int Go.IntKind.i64 0, Go.Value.int Go.IntKind.i64 0, Go.Value.bool Bool.false, Go.Value.int Go.IntKind.i64 0, Go.Value.int Go.IntKind.i64 0, Go.Value.bool Bool.false, Go.Value.int Go.IntKind.i64 0, Go.Value.int Go.IntKind.i64 0, Go.Value.bool Bool.false]
instance : TUnd Tryz.prog 130 (.array 3 129) := ⟨Tryz.underlying130⟩
instance : TSize Tryz.prog 131 1 := ⟨Tryz.sizeOf131⟩
instance : TAgg Tryz.prog 131 false := ⟨Tryz.isAgg131⟩
instance : TUnd Tryz.prog 131 (.slice 5) := ⟨Tryz.underlying131⟩
instance : TSize Tryz.prog 144 1 := ⟨Tryz.sizeOf144⟩
instance : TAgg Tryz.prog 144 false := ⟨Tryz.isAgg144⟩
instance : TZero Tryz.prog 144 (Go.Value.nilIface) := ⟨Tryz.zeroValue144⟩
instance : TUnd Tryz.prog 144 (Go.TypeDesc.interface #[("Error", 286)]) := ⟨Tryz.underlying144⟩
def zc148 : Array Value :=  #[Go.Value.int Go.IntKind.u8 0, Go.Value.int Go.IntKind.u8 0, Go.Value.int Go.IntKind.u8 0, Go.Value.int Go.IntKind.u8 0, Go.Value.int Go.IntKind.u8 0, Go.Value.int Go.IntKind.u8 0, Go.Value.int Go.IntKind.u8 0, Go.Value.int Go.IntKind.u8 0, Go.Value.int Go.IntKind.u8 0, Go.Value.int Go.IntKind.u8 0]
instance : TZero Tryz.prog 148 (.agg zc148) := ⟨Tryz.zeroValue148⟩
instance : TUnd Tryz.prog 148 (.array 10 5) := ⟨Tryz.underlying148⟩
instance : TSize Tryz.prog 157 2 := ⟨Tryz.sizeOf157⟩
instance : TAgg Tryz.prog 157 true := ⟨Tryz.isAgg157⟩
def zc157 : Array Value :=  #[Go.Value.int Go.IntKind.i64 0, Go.Value.int Go.IntKind.i64 0]
instance : TZero Tryz.prog 157 (.agg zc157) := ⟨Tryz.zeroValue157⟩
instance : TFld Tryz.prog 157 0 0 29 1 := ⟨⟨_, _, Tryz.underlying157, rfl, rfl, rfl, Tryz.sizeOf29, by decide⟩⟩
instance : TBuild Tryz.prog 157 zc157 [(0, 1), (1, 1)] := ⟨fun _ => by kernel_rfl⟩
instance : TSize Tryz.prog 162 1 := ⟨Tryz.sizeOf162⟩
instance : TAgg Tryz.prog 162 false := ⟨Tryz.isAgg162⟩
instance : TZero Tryz.prog 162 (Go.Value.pointer Option.none) := ⟨Tryz.zeroValue162⟩
instance : TUnd Tryz.prog 162 (.pointer 216) := ⟨Tryz.underlying162⟩
instance : TSize Tryz.prog 164 1 := ⟨Tryz.sizeOf164⟩
instance : TAgg Tryz.prog 164 false := ⟨Tryz.isAgg164⟩
theorem row164 : (Tryz.prog.info? 164).map (fun i => (i.size, i.bytes)) = some (1, 8) := by kernel_rfl
instance : TAgg Tryz.prog 166 false := ⟨Tryz.isAgg166⟩
instance : TUnd Tryz.prog 173 (.slice 164) := ⟨Tryz.underlying173⟩
instance : TAgg Tryz.prog 174 false := ⟨Tryz.isAgg174⟩
instance : TZero Tryz.prog 174 (Go.Value.pointer Option.none) := ⟨Tryz.zeroValue174⟩
instance : TUnd Tryz.prog 174 (.pointer 157) := ⟨Tryz.underlying174⟩
instance : TUnd Tryz.prog 176 (.pointer 174) := ⟨Tryz.underlying176⟩
instance : TUnd Tryz.prog 177 (.pointer 179) := ⟨Tryz.underlying177⟩
def zc179 : Array Value :=  #[Go.Value.slice Option.none 0 0]
instance : TFld Tryz.prog 179 0 0 131 1 := ⟨⟨_, _, Tryz.underlying179, rfl, rfl, rfl, Tryz.sizeOf131, by decide⟩⟩
instance : TBuild Tryz.prog 179 zc179 [(0, 1)] := ⟨fun _ => by kernel_rfl⟩
instance : TAgg Tryz.prog 195 false := ⟨Tryz.isAgg195⟩
def zc197 : Array Value :=  #[Go.Value.string { data := #[] }, Go.Value.int Go.IntKind.i64 0]
instance : TFld Tryz.prog 197 0 0 9 1 := ⟨⟨_, _, Tryz.underlying197, rfl, rfl, rfl, Tryz.sizeOf9, by decide⟩⟩
instance : TFld Tryz.prog 197 1 1 3 1 := ⟨⟨_, _, Tryz.underlying197, rfl, rfl, rfl, Tryz.sizeOf3, by decide⟩⟩
instance : TBuild Tryz.prog 197 zc197 [(0, 1), (1, 1)] := ⟨fun _ => by kernel_rfl⟩
def zc206 : Array Value :=  #[Go.Value.pointer Option.none, Go.Value.int Go.IntKind.i64 0, Go.Value.int Go.IntKind.i64 0]
instance : TFld Tryz.prog 206 0 0 195 1 := ⟨⟨_, _, Tryz.underlying206, rfl, rfl, rfl, Tryz.sizeOf195, by decide⟩⟩
instance : TFld Tryz.prog 206 1 1 157 2 := ⟨⟨_, _, Tryz.underlying206, rfl, rfl, rfl, Tryz.sizeOf157, by decide⟩⟩
instance : TBuild Tryz.prog 206 zc206 [(0, 1), (1, 2)] := ⟨fun _ => by kernel_rfl⟩
instance : TSize Tryz.prog 212 5 := ⟨Tryz.sizeOf212⟩
instance : TAgg Tryz.prog 212 true := ⟨Tryz.isAgg212⟩
def zc212 : Array Value :=  #[Go.Value.int Go.IntKind.i64 0, Go.Value.int Go.IntKind.i64 0, Go.Value.int Go.IntKind.u64 0, Go.Value.int Go.IntKind.i64 0, Go.Value.int Go.IntKind.i64 0]
instance : TZero Tryz.prog 212 (.agg zc212) := ⟨Tryz.zeroValue212⟩
instance : TFld Tryz.prog 212 0 0 2 1 := ⟨⟨_, _, Tryz.underlying212, rfl, rfl, rfl, Tryz.sizeOf2, by decide⟩⟩
instance : TFld Tryz.prog 212 1 1 2 1 := ⟨⟨_, _, Tryz.underlying212, rfl, rfl, rfl, Tryz.sizeOf2, by decide⟩⟩
instance : TFld Tryz.prog 212 2 2 91 1 := ⟨⟨_, _, Tryz.underlying212, rfl, rfl, rfl, Tryz.sizeOf91, by decide⟩⟩
instance : TFld Tryz.prog 212 3 3 2 1 := ⟨⟨_, _, Tryz.underlying212, rfl, rfl, rfl, Tryz.sizeOf2, by decide⟩⟩
instance : TFld Tryz.prog 212 4 4 2 1 := ⟨⟨_, _, Tryz.underlying212, rfl, rfl, rfl, Tryz.sizeOf2, by decide⟩⟩
instance : TSize Tryz.prog 214 10 := ⟨Tryz.sizeOf214⟩
instance : TAgg Tryz.prog 214 true := ⟨Tryz.isAgg214⟩
def zc214 : Array Value :=  #[Go.Value.int Go.IntKind.i64 0, Go.Value.int Go.IntKind.u32 0, Go.Value.int Go.IntKind.i64 0, Go.Value.int Go.IntKind.i64 0, Go.Value.int Go.IntKind.u8 0, Go.Value.int Go.IntKind.i64 0, Go.Value.int Go.IntKind.i64 0, Go.Value.int Go.IntKind.u64 0, Go.Value.int Go.IntKind.i64 0, Go.Value.int Go.IntKind.i64 0]
instance : TZero Tryz.prog 214 (.agg zc214) := ⟨Tryz.zeroValue214⟩
theorem row214 : (Tryz.prog.info? 214).map (fun i => (i.size, i.bytes)) = some (10, 80) := by kernel_rfl
instance : TFld Tryz.prog 214 0 0 3 1 := ⟨⟨_, _, Tryz.underlying214, rfl, rfl, rfl, Tryz.sizeOf3, by decide⟩⟩
instance : TFld Tryz.prog 214 1 1 31 1 := ⟨⟨_, _, Tryz.underlying214, rfl, rfl, rfl, Tryz.sizeOf31, by decide⟩⟩
instance : TFld Tryz.prog 214 2 2 2 1 := ⟨⟨_, _, Tryz.underlying214, rfl, rfl, rfl, Tryz.sizeOf2, by decide⟩⟩
instance : TFld Tryz.prog 214 3 3 2 1 := ⟨⟨_, _, Tryz.underlying214, rfl, rfl, rfl, Tryz.sizeOf2, by decide⟩⟩
instance : TFld Tryz.prog 214 4 4 5 1 := ⟨⟨_, _, Tryz.underlying214, rfl, rfl, rfl, Tryz.sizeOf5, by decide⟩⟩
instance : TFld Tryz.prog 214 5 5 212 5 := ⟨⟨_, _, Tryz.underlying214, rfl, rfl, rfl, Tryz.sizeOf212, by decide⟩⟩
def zc216 : Array Value :=  #[Go.Value.string { data := #[] }, Go.Value.int Go.IntKind.i64 0]
instance : TFld Tryz.prog 216 0 0 9 1 := ⟨⟨_, _, Tryz.underlying216, rfl, rfl, rfl, Tryz.sizeOf9, by decide⟩⟩
instance : TFld Tryz.prog 216 1 1 3 1 := ⟨⟨_, _, Tryz.underlying216, rfl, rfl, rfl, Tryz.sizeOf3, by decide⟩⟩
instance : TBuild Tryz.prog 216 zc216 [(0, 1), (1, 1)] := ⟨fun _ => by kernel_rfl⟩
instance : TUnd Tryz.prog 252 (.pointer 254) := ⟨Tryz.underlying252⟩
def zc254 : Array Value :=  #[Go.Value.pointer Option.none, Go.Value.int Go.IntKind.i64 0]
instance : TFld Tryz.prog 254 0 0 162 1 := ⟨⟨_, _, Tryz.underlying254, rfl, rfl, rfl, Tryz.sizeOf162, by decide⟩⟩
instance : TFld Tryz.prog 254 1 1 3 1 := ⟨⟨_, _, Tryz.underlying254, rfl, rfl, rfl, Tryz.sizeOf3, by decide⟩⟩
instance : TBuild Tryz.prog 254 zc254 [(0, 1), (1, 1)] := ⟨fun _ => by kernel_rfl⟩
instance : TRow Tryz.prog 3 #[Go.Value.int Go.IntKind.i64 0] 1 8 := TRow.of Tryz.zeroValue3 rfl row3 rfl
instance : TRow Tryz.prog 5 #[Go.Value.int Go.IntKind.u8 0] 1 1 := TRow.of Tryz.zeroValue5 rfl row5 rfl
instance : TRow Tryz.prog 9 #[Go.Value.string { data := #[] }] 1 16 := TRow.of Tryz.zeroValue9 rfl row9 rfl
instance : TRow Tryz.prog 43 zc43 24 208 := TRow.of Tryz.zeroValue43 rfl row43 rfl
instance : TRow Tryz.prog 54 #[Go.Value.nilFunc] 1 8 := TRow.of Tryz.zeroValue54 rfl row54 rfl
instance : TRow Tryz.prog 164 #[Go.Value.nilFunc] 1 8 := TRow.of Tryz.zeroValue164 rfl row164 rfl
instance : TRow Tryz.prog 214 zc214 10 80 := TRow.of Tryz.zeroValue214 rfl row214 rfl
instance : FCall Tryz.prog 71 := ⟨Tryz.call71⟩
instance : FCall Tryz.prog 138 := ⟨Tryz.call138⟩
instance : FCall Tryz.prog 99 := ⟨Tryz.call99⟩
instance : FCall Tryz.prog 135 := ⟨Tryz.call135⟩
instance : FCall Tryz.prog 74 := ⟨Tryz.call74⟩
instance : FCall Tryz.prog 28 := ⟨Tryz.call28⟩
instance : FCall Tryz.prog 173 := ⟨Tryz.call173⟩
instance : FCall Tryz.prog 136 := ⟨Tryz.call136⟩
instance : FCall Tryz.prog 185 := ⟨Tryz.call185⟩
instance : FCall Tryz.prog 140 := ⟨Tryz.call140⟩
instance : FCall Tryz.prog 88 := ⟨Tryz.call88⟩
instance : FCall Tryz.prog 63 := ⟨Tryz.call63⟩
instance : FCall Tryz.prog 15 := ⟨Tryz.call15⟩
instance : FCall Tryz.prog 127 := ⟨Tryz.call127⟩
instance : FCall Tryz.prog 24 := ⟨Tryz.call24⟩
instance : FCall Tryz.prog 112 := ⟨Tryz.call112⟩
instance : FCall Tryz.prog 66 := ⟨Tryz.call66⟩
instance : FCall Tryz.prog 18 := ⟨Tryz.call18⟩
instance : FCall Tryz.prog 51 := ⟨Tryz.call51⟩
instance : FCall Tryz.prog 23 := ⟨Tryz.call23⟩
instance : FCall Tryz.prog 186 := ⟨Tryz.call186⟩
instance : FCall Tryz.prog 33 := ⟨Tryz.call33⟩
instance : FCall Tryz.prog 54 := ⟨Tryz.call54⟩
instance : FCall Tryz.prog 172 := ⟨Tryz.call172⟩
instance : FCall Tryz.prog 141 := ⟨Tryz.call141⟩
instance : FCall Tryz.prog 39 := ⟨Tryz.call39⟩
instance : FCall Tryz.prog 47 := ⟨Tryz.call47⟩
instance : FCall Tryz.prog 64 := ⟨Tryz.call64⟩
instance : FCall Tryz.prog 42 := ⟨Tryz.call42⟩
instance : FCall Tryz.prog 26 := ⟨Tryz.call26⟩
instance : FCall Tryz.prog 80 := ⟨Tryz.call80⟩
instance : FCall Tryz.prog 44 := ⟨Tryz.call44⟩
instance : FCall Tryz.prog 182 := ⟨Tryz.call182⟩
instance : FCall Tryz.prog 175 := ⟨Tryz.call175⟩
instance : FCall Tryz.prog 82 := ⟨Tryz.call82⟩
instance : FCall Tryz.prog 131 := ⟨Tryz.call131⟩
instance : FCall Tryz.prog 106 := ⟨Tryz.call106⟩
instance : FCall Tryz.prog 8 := ⟨Tryz.call8⟩
instance : FCall Tryz.prog 6 := ⟨Tryz.call6⟩
instance : FCall Tryz.prog 10 := ⟨Tryz.call10⟩
instance : FCall Tryz.prog 78 := ⟨Tryz.call78⟩
instance : FCall Tryz.prog 25 := ⟨Tryz.call25⟩
instance : FCall Tryz.prog 77 := ⟨Tryz.call77⟩
instance : FCall Tryz.prog 187 := ⟨Tryz.call187⟩
instance : FCall Tryz.prog 103 := ⟨Tryz.call103⟩
instance : FCall Tryz.prog 31 := ⟨Tryz.call31⟩
instance : FCall Tryz.prog 32 := ⟨Tryz.call32⟩
instance : FCall Tryz.prog 57 := ⟨Tryz.call57⟩
instance : FCall Tryz.prog 34 := ⟨Tryz.call34⟩
instance : FCall Tryz.prog 7 := ⟨Tryz.call7⟩
instance : FCall Tryz.prog 50 := ⟨Tryz.call50⟩
instance : FCall Tryz.prog 190 := ⟨Tryz.call190⟩
instance : FCall Tryz.prog 35 := ⟨Tryz.call35⟩
instance : FCall Tryz.prog 128 := ⟨Tryz.call128⟩
instance : FCall Tryz.prog 126 := ⟨Tryz.call126⟩
instance : FCall Tryz.prog 121 := ⟨Tryz.call121⟩
instance : FCall Tryz.prog 124 := ⟨Tryz.call124⟩
instance : FCall Tryz.prog 67 := ⟨Tryz.call67⟩
instance : FCall Tryz.prog 188 := ⟨Tryz.call188⟩
instance : FCall Tryz.prog 40 := ⟨Tryz.call40⟩
instance : FCall Tryz.prog 11 := ⟨Tryz.call11⟩
instance : FCall Tryz.prog 113 := ⟨Tryz.call113⟩
instance : FCall Tryz.prog 73 := ⟨Tryz.call73⟩
instance : FCall Tryz.prog 169 := ⟨Tryz.call169⟩
instance : FCall Tryz.prog 14 := ⟨Tryz.call14⟩
instance : FCall Tryz.prog 55 := ⟨Tryz.call55⟩
instance : FCall Tryz.prog 137 := ⟨Tryz.call137⟩
instance : FCall Tryz.prog 95 := ⟨Tryz.call95⟩
instance : FCall Tryz.prog 62 := ⟨Tryz.call62⟩
instance : FCall Tryz.prog 49 := ⟨Tryz.call49⟩
instance : FCall Tryz.prog 181 := ⟨Tryz.call181⟩
instance : FCall Tryz.prog 68 := ⟨Tryz.call68⟩
instance : FCall Tryz.prog 17 := ⟨Tryz.call17⟩
instance : FCall Tryz.prog 122 := ⟨Tryz.call122⟩
instance : FCall Tryz.prog 120 := ⟨Tryz.call120⟩
instance : FCall Tryz.prog 46 := ⟨Tryz.call46⟩
instance : FCall Tryz.prog 60 := ⟨Tryz.call60⟩
instance : FCall Tryz.prog 36 := ⟨Tryz.call36⟩
instance : FCall Tryz.prog 145 := ⟨Tryz.call145⟩
instance : FCall Tryz.prog 109 := ⟨Tryz.call109⟩
instance : FCall Tryz.prog 58 := ⟨Tryz.call58⟩
instance : FCall Tryz.prog 20 := ⟨Tryz.call20⟩
instance : FCall Tryz.prog 107 := ⟨Tryz.call107⟩
instance : FCall Tryz.prog 86 := ⟨Tryz.call86⟩
instance : FCall Tryz.prog 81 := ⟨Tryz.call81⟩
instance : FCall Tryz.prog 29 := ⟨Tryz.call29⟩
instance : FCall Tryz.prog 102 := ⟨Tryz.call102⟩
instance : FCall Tryz.prog 79 := ⟨Tryz.call79⟩
instance : FCall Tryz.prog 21 := ⟨Tryz.call21⟩
instance : FCall Tryz.prog 41 := ⟨Tryz.call41⟩
instance : FCall Tryz.prog 89 := ⟨Tryz.call89⟩
instance : FCall Tryz.prog 129 := ⟨Tryz.call129⟩
instance : FCall Tryz.prog 183 := ⟨Tryz.call183⟩
instance : FCall Tryz.prog 65 := ⟨Tryz.call65⟩
instance : FCall Tryz.prog 69 := ⟨Tryz.call69⟩
instance : FCall Tryz.prog 9 := ⟨Tryz.call9⟩
instance : FCall Tryz.prog 105 := ⟨Tryz.call105⟩
instance : FCall Tryz.prog 97 := ⟨Tryz.call97⟩
instance : FCall Tryz.prog 61 := ⟨Tryz.call61⟩
instance : FCall Tryz.prog 90 := ⟨Tryz.call90⟩
instance : FCall Tryz.prog 111 := ⟨Tryz.call111⟩
instance : FCall Tryz.prog 142 := ⟨Tryz.call142⟩
instance : FCall Tryz.prog 100 := ⟨Tryz.call100⟩
instance : FCall Tryz.prog 108 := ⟨Tryz.call108⟩
instance : FCall Tryz.prog 179 := ⟨Tryz.call179⟩
instance : FCall Tryz.prog 139 := ⟨Tryz.call139⟩
instance : FCall Tryz.prog 130 := ⟨Tryz.call130⟩
instance : FCall Tryz.prog 119 := ⟨Tryz.call119⟩
instance : FCall Tryz.prog 75 := ⟨Tryz.call75⟩
instance : FCall Tryz.prog 13 := ⟨Tryz.call13⟩
instance : FCall Tryz.prog 76 := ⟨Tryz.call76⟩
instance : FCall Tryz.prog 180 := ⟨Tryz.call180⟩
instance : FCall Tryz.prog 52 := ⟨Tryz.call52⟩
instance : FCall Tryz.prog 143 := ⟨Tryz.call143⟩
instance : FCall Tryz.prog 19 := ⟨Tryz.call19⟩
instance : FCall Tryz.prog 92 := ⟨Tryz.call92⟩
instance : FCall Tryz.prog 91 := ⟨Tryz.call91⟩
instance : FCall Tryz.prog 22 := ⟨Tryz.call22⟩
instance : FCall Tryz.prog 27 := ⟨Tryz.call27⟩
instance : FCall Tryz.prog 5 := ⟨Tryz.call5⟩
instance : FCall Tryz.prog 72 := ⟨Tryz.call72⟩
instance : FCall Tryz.prog 174 := ⟨Tryz.call174⟩
instance : FCall Tryz.prog 101 := ⟨Tryz.call101⟩
instance : FCall Tryz.prog 171 := ⟨Tryz.call171⟩
instance : FCall Tryz.prog 45 := ⟨Tryz.call45⟩
instance : FCall Tryz.prog 189 := ⟨Tryz.call189⟩
instance : FCall Tryz.prog 70 := ⟨Tryz.call70⟩
instance : FCall Tryz.prog 30 := ⟨Tryz.call30⟩
instance : FCall Tryz.prog 83 := ⟨Tryz.call83⟩
instance : FCall Tryz.prog 38 := ⟨Tryz.call38⟩
instance : FCall Tryz.prog 37 := ⟨Tryz.call37⟩
instance : FCall Tryz.prog 85 := ⟨Tryz.call85⟩
instance : FCall Tryz.prog 146 := ⟨Tryz.call146⟩
instance : FCall Tryz.prog 184 := ⟨Tryz.call184⟩
instance : FCall Tryz.prog 170 := ⟨Tryz.call170⟩
instance : FCall Tryz.prog 87 := ⟨Tryz.call87⟩
instance : FCall Tryz.prog 144 := ⟨Tryz.call144⟩
instance : FCall Tryz.prog 12 := ⟨Tryz.call12⟩
instance : FCall Tryz.prog 53 := ⟨Tryz.call53⟩
instance : FCall Tryz.prog 48 := ⟨Tryz.call48⟩
instance : FCall Tryz.prog 98 := ⟨Tryz.call98⟩
instance : FCall Tryz.prog 43 := ⟨Tryz.call43⟩
instance : FCall Tryz.prog 110 := ⟨Tryz.call110⟩
instance : FCall Tryz.prog 93 := ⟨Tryz.call93⟩
instance : FCall Tryz.prog 114 := ⟨Tryz.call114⟩
instance : FCall Tryz.prog 125 := ⟨Tryz.call125⟩
instance : FCall Tryz.prog 96 := ⟨Tryz.call96⟩
instance : FCall Tryz.prog 84 := ⟨Tryz.call84⟩
instance : FCall Tryz.prog 56 := ⟨Tryz.call56⟩
instance : FCall Tryz.prog 94 := ⟨Tryz.call94⟩
instance : FCall Tryz.prog 104 := ⟨Tryz.call104⟩
instance : FCall Tryz.prog 123 := ⟨Tryz.call123⟩
instance : FCall Tryz.prog 59 := ⟨Tryz.call59⟩
theorem mixed : Tryz.prog.follows .mixedOrders = true := by kernel_rfl
end Go.Proofs.YtdiaogcogkapgaaGreatDoor
namespace Go.Proofs.YtdiaogcogkapgaaGreatDoor
open Go.RowKit
def Ms24 (ms : List (List Value)) : Prop := ∀ m ∈ ms, m.length = 24 ∧ (m.all fun v => v.oneCell') = true
theorem Ms24.flat {ms : List (List Value)} (h : Ms24 ms) : ms.flatten.length = ms.length * 24 := by
  induction ms with
  | nil => rfl
  | cons m ms ih =>
    rw [List.flatten_cons, List.length_append, (h m (List.mem_cons_self ..)).1, ih (fun x hx => h x (List.mem_cons_of_mem _ hx)), List.length_cons]
    omega
theorem Ms24.get : ∀ {ms : List (List Value)} {k : Nat} {m : List Value}, Ms24 ms → ms[k]? = some m → ∀ j, j < 24 → ms.flatten[k * 24 + j]? = m[j]?
  | [], _, _, _, hk, _, _ => by simp at hk
  | x :: ms, 0, m, h, hk, j, hj => by
    obtain rfl : x = m := by simpa using hk
    rw [List.flatten_cons, Nat.zero_mul, Nat.zero_add, List.getElem?_append_left (by rw [(h x (List.mem_cons_self ..)).1]; exact hj)]
  | x :: ms, k + 1, m, h, hk, j, hj => by
    have hx := (h x (List.mem_cons_self ..)).1
    rw [List.flatten_cons, List.getElem?_append_right (by omega), hx, show (k + 1) * 24 + j - 24 = k * 24 + j by omega]
    exact Ms24.get (fun y hy => h y (List.mem_cons_of_mem _ hy)) (by simpa using hk) j hj
theorem Ms24.app {ms : List (List Value)} {m : List Value} (h : Ms24 ms) (h1 : m.length = 24) (h2 : (m.all fun v => v.oneCell') = true) : Ms24 (ms ++ [m]) := fun x hx => by
  rcases List.mem_append.1 hx with hx | hx
  · exact h x hx
  · obtain rfl : x = m := by simpa using hx
    exact ⟨h1, h2⟩
abbrev BufM (v : Value) (T : List (Nat × Obj)) (ms : List (List Value)) : Prop := Buf 43 24 v T ms.length ms.flatten
abbrev sdO (b : Nat) (v : Value) (cap base limit : Nat) : Nat × Obj := (b, .cells #[v, .int .i64 (cap : Nat), .int .u64 (base : Nat), .int .u64 (limit : Nat)] 123 (0, 0))
theorem BufM.at_ {T : List (Nat × Obj)} {ms : List (List Value)} {v : Value} (h : BufM v T ms) (hm : Ms24 ms) {k : Nat} {m : List Value} (hk : ms[k]? = some m) : ∃ g off cap cur, v = .slice (some ⟨g, off, none⟩) ms.length cap ∧ T = [(g, .cells cur 43 (0, 0))] ∧ off + k * 24 + 24 ≤ cur.size ∧ cur.extract (off + k * 24) (off + k * 24 + 24) = m.toArray := by
  have hlt := (List.getElem?_eq_some_iff.1 hk).1
  rcases h with ⟨_, h2, _⟩ | ⟨g, off, cap, cur, rfl, rfl, ho⟩
  · omega
  · have hf := ho.fit
    have hle := ho.le
    refine ⟨g, off, cap, cur, rfl, rfl, ?_, ?_⟩
    · have : (k + 1) * 24 ≤ cap * 24 := Nat.mul_le_mul_right _ (by omega)
      omega
    · have hml := (hm m (List.mem_of_getElem? hk)).1
      apply Array.ext_getElem?
      intro j
      rw [Array.getElem?_extract]
      have hsz : off + k * 24 + 24 ≤ cur.size := by
        have : (k + 1) * 24 ≤ cap * 24 := Nat.mul_le_mul_right _ (by omega)
        omega
      by_cases hj : j < 24
      · rw [if_pos (by omega)]
        obtain ⟨x, hx⟩ : ∃ x, m[j]? = some x := ⟨_, List.getElem?_eq_getElem (by omega)⟩
        have := ho.at_ (k * 24 + j) x (by rw [hm.get hk j hj]; exact hx)
        rw [Nat.add_assoc off, this]
        simp [hx]
      · rw [if_neg (by omega)]
        simp; omega
attribute [local irreducible] Fn WC WL WR OW Qt YieldFn QW FnP FnD
theorem snew_fn {cap : Nat} (h1 : 1 ≤ cap) (h2 : cap ≤ 16) {L : List (Nat × Obj)} : Fn Tryz.prog 22 [.int .i64 (cap : Nat)] L (fun v L' => ∃ b, v = .pointer (some ⟨b, 0, none⟩) ∧ L' = sdO b (.slice none 0 0) cap 0 cap :: L) := by
  refine Fn_enter Tryz.func22 rfl Tryz.ntmps22 rfl fun gw => ?_
  have d1 : decide ((cap : Int) < 1) = false := decide_eq_false (by omega)
  have d2 : decide ((cap : Int) > 16) = false := decide_eq_false (by omega)
  have w : IntKind.u64.wrap (cap : Int) = (cap : Int) := wU64 (by omega) (by omega)
  repeat (first | refine RQ ?_ | ((first | refine WL_Q ?_ | refine WL_Y ?_); (first | refine QW_of (Qt_sl3m rfl) ?_)) | (refine RE ?_; try intro _) | refine RC ?_ | refine WC_region ?_)
  rename_i b
  exact ⟨rfl, _, _, Res1 rfl (resV_tmp rfl), .refl _, b, rfl, by rw [w]; rfl⟩
section
variable {b cap base limit : Nat} {v : Value} {T F : List (Nat × Obj)} {ms : List (List Value)}
theorem slen_fn (hb : BufM v T ms) {M : List (Nat × Obj)} {i : Nat} (hi : M[i]? = some (sdO b v cap base limit)) : Fn Tryz.prog 32 [.pointer (some ⟨b, 0, none⟩)] M (fun r L' => r = .int .i64 (ms.length : Nat) ∧ L' = M) := by
  obtain ⟨a, c, rfl, _, _⟩ := hb.val
  refine Fn_enter Tryz.func32 rfl Tryz.ntmps32 rfl fun gw => ?_
  repeat (first | refine RQ ?_ | (refine WL_Q ?_; (first | refine QW_of (Qt_sl3m rfl) ?_)) | refine RC ?_ | refine WC_region ?_)
  exact ⟨rfl, _, _, Res1 rfl (resV_tmp rfl), .refl _, rfl, rfl⟩
theorem sleft_fn (hb : BufM v T ms) (hl : ms.length ≤ cap) (hc : cap ≤ 16) {M : List (Nat × Obj)} {i : Nat} (hi : M[i]? = some (sdO b v cap base limit)) : Fn Tryz.prog 31 [.pointer (some ⟨b, 0, none⟩)] M (fun r L' => r = .int .i64 ((cap - ms.length : Nat) : Int) ∧ L' = M) := by
  obtain ⟨a, c, rfl, _, _⟩ := hb.val
  have w : IntKind.i64.wrap ((cap : Int) - (ms.length : Int)) = ((cap - ms.length : Nat) : Int) := by rw [wI64 (by omega) (by omega)]; omega
  refine Fn_enter Tryz.func31 rfl Tryz.ntmps31 rfl fun gw => ?_
  repeat (first | refine RQr ?_ | (refine RX ?_; (first | refine QW_of (Qt_sl3m rfl) ?_)) | refine RC ?_ | refine RU ?_ | refine WC_draw_all (id := 3) 11 (Cs [0,1,2,3,4,5,6,7,8,9,10] <| .done) mixed (by kernel_rfl) ?_ | refine WC_region ?_)
  exact ⟨rfl, _, _, Res1 rfl (resV_tmp rfl), .refl _, by rw [← w], rfl⟩
theorem spush_full {m : Array Value} (hb : BufM v T ms) (hl : ms.length = cap) (hc : cap ≤ 16) : Fn Tryz.prog 29 [.pointer (some ⟨b, 0, none⟩), .agg m] (sdO b v cap base limit :: (T ++ F)) (fun r L' => r = .int .i64 8 ∧ L' = sdO b v cap base limit :: (T ++ F)) := by
  refine Fn_enter Tryz.func29 rfl Tryz.ntmps29 rfl fun gw => ?_
  have d : (((cap - ms.length : Nat) : Int) == 0) = true := by simp; omega
  repeat (first | refine RQr ?_ | (refine RX ?_; (first | refine QW_of (Qt_sl3m rfl) ?_)) | (refine OX ?_; (first | (refine OE ?_; try intro _) | refine OW_callP rfl (hF := sleft_fn hb (by omega) hc (i := 1) rfl) (hk := ?_)); try refine SD ?_) | refine RC ?_ | refine RU ?_ | refine WC_draw_all (id := 5) 8 (Cs [0,1,2,3,4,5] <| .must 6 <| .must 7 <| .must 8 <| .must 9 <| .must 10 <| .done) mixed (by kernel_rfl) ?_ | refine WC_region ?_)
  exact ⟨rfl, _, _, Res1 rfl (resV_tmp rfl), .cons _ (.refl _), rfl, rfl⟩
set_option maxHeartbeats 1000000 in
theorem spush_ok {m : List Value} (hm : m.length = 24) (hm1 : (m.all fun v => v.oneCell') = true) (hb : BufM v T ms) (hl : ms.length < cap) (hc : cap ≤ 16) : Fn Tryz.prog 29 [.pointer (some ⟨b, 0, none⟩), .agg m.toArray] (sdO b v cap base limit :: (T ++ F)) (fun r L' => r = .int .i64 0 ∧ ∃ v' T', BufM v' T' (ms ++ [m]) ∧ L' = sdO b v' cap base limit :: (T' ++ F)) := by
  refine Fn_enter Tryz.func29 rfl Tryz.ntmps29 rfl fun gw => ?_
  have d : (((cap - ms.length : Nat) : Int) == 0) = false := by simp; omega
  have hmz : m.toArray.size = 24 := hm
  have hone : ∀ u ∈ m, u.oneCell' = true := by simpa [List.all_eq_true] using hm1
  repeat (first | refine RQ ?_ | (refine WL_Q ?_; (first | refine QW_of (Qt_sl3m rfl) ?_)) | (refine RE ?_; try intro _) | (refine WL_op rfl ?_; (first | refine OW_callP rfl (hF := sleft_fn hb (by omega) hc (i := 1) rfl) (hk := ?_) | refine OW_callP rfl (hF := sleft_fn hb (by omega) hc (i := 1) rfl) (hk := ?_))) | refine RC ?_ | refine WG 0 ?_ | refine WG 1 ?_ | refine WG 3 ?_)
  rename_i x3
  have hsub : [(x3, Obj.cells m.toArray 43 (0, 0)), sdO b v cap base limit].Sublist ((x3, .cells m.toArray 43 (0, 0)) :: sdO b v cap base limit :: (T ++ F)) := .cons_cons _ (.cons_cons _ (List.nil_sublist _))
  repeat (first | refine RQ ?_ | (refine WL_Q ?_; (first | refine QW_of (Qt_sl3m rfl) ?_)) | refine RC ?_ | refine WG 6 ?_)
  refine WC_draw_sub (id := 5) 8 (Cs [0,1,2,3,4,5] <| .must 6 <| .must 7 <| .must 8 <| .must 9 <| .must 10 <| .done) mixed (by kernel_rfl) (hsub) ?_
  repeat (first | refine RQr ?_ | (refine RX ?_; (first | refine QW_of (Qt_sl3m rfl) ?_)) | ((first | refine WL_op rfl ?_ | refine WR_late rfl rfl rfl ?_ | refine WR_op rfl rfl ?_); (first | (refine OE ?_; try intro _)); try refine SD ?_) | refine RC ?_ | refine RU ?_ | refine WC_draw_all (id := 5) 8 (Cs [0,1,2,3,4,5] <| .must 6 <| .must 7 <| .must 8 <| .must 9 <| .must 10 <| .done) mixed (by kernel_rfl) ?_)
  rename_i eb
  refine WR_op rfl rfl (OW_append_bufM (A := [(eb, Obj.cells m.toArray 43 (0, 0)), (x3, .cells m.toArray 43 (0, 0)), sdO b v cap base limit]) (T := T) (B := F) rfl rfl rfl rfl rfl hb (srcVec ⟨by rw [hm], _, 1, rfl, Nat.le_refl _, by decide, .inr ⟨eb, 0, _, _, _, 0, rfl, rfl, fun j x hx => by rw [Nat.zero_add]; simpa using hx⟩⟩ hone) (by rw [hm]) (by simp only [maxLen]; omega) (by omega) ?_)
  intro v' T' hb'
  have hb' : BufM v' T' (ms ++ [m]) := by
    unfold BufM
    rw [List.length_append, List.flatten_append, List.flatten_cons, List.flatten_nil, List.append_nil]
    exact hb'
  obtain ⟨av, ac, rfl, _, _⟩ := id hb'.val
  refine ⟨sub_mem (.cons _ (.cons_cons _ (.cons_cons _ (List.nil_sublist _)))), ?_⟩
  repeat (first | refine RQr ?_ | (refine RX ?_; (first | refine QW_of (Qt_sl3m rfl) ?_)) | (refine OX ?_; (first | (refine OE ?_; try intro _)); try refine SD ?_) | refine RC ?_ | refine RU ?_ | refine WC_draw_all (id := 5) 8 (Cs [0,1,2,3,4,5] <| .must 6 <| .must 7 <| .must 8 <| .must 9 <| .must 10 <| .done) mixed (by kernel_rfl) ?_)
  repeat (first | refine RQ ?_ | (refine WL_Q ?_; (first | refine QW_of (Qt_sl3m rfl) ?_)) | refine RC ?_ | refine WG 6 ?_)
  exact ⟨rfl, _, _, Res1 rfl (resV_tmp rfl), .cons _ (.cons _ (.refl _)), rfl, _, T', hb', rfl⟩
def mayN (len base limit : Nat) : Nat := if limit ≤ base then 1 else min len (limit - base)
theorem mayN_pos {len : Nat} (h : 0 < len) : 0 < mayN len base limit ∧ mayN len base limit ≤ len := by
  unfold mayN
  split <;> omega
set_option maxHeartbeats 1000000 in
theorem snext1_fn {q i j : Nat} {M : List (Nat × Obj)} (hb : BufM v T ms) (hi : M[i]? = some (q, .cells #[.pointer (some ⟨b, 0, none⟩)] 72 (0, 0))) (hj : M[j]? = some (sdO b v cap base limit)) (hlen : ms.length ≤ 1000) (h1 : base ≤ 1000000000000) (h2 : limit ≤ 1000000000000) : Fn Tryz.prog 56 [.pointer (some ⟨q, 0, none⟩)] M (fun r L' => r = .int .i64 (mayN ms.length base limit : Nat) ∧ L' = M) := by
  obtain ⟨a, c, rfl, _, _⟩ := hb.val
  refine Fn_enter Tryz.func56 rfl Tryz.ntmps56 rfl fun gw => ?_
  by_cases h : limit ≤ base
  · have d : decide ((limit : Int) ≤ (base : Int)) = true := decide_eq_true (by omega)
    repeat (first | refine RQr ?_ | (refine RX ?_; (first | refine QW_of (Qt_sl3m rfl) ?_)) | refine RC ?_ | refine RU ?_ | refine WC_draw_all (id := 1) 9 (Cs [0,1,2,3,4,5,6,7,8] <| .done) mixed (by kernel_rfl) ?_ | refine WC_draw_all (id := 3) 18 (Cs [0,1,2,3,4,5,6,7,8,9,10,11,12,13,14,15,16,17] <| .done) mixed (by kernel_rfl) ?_ | refine WC_region ?_)
    exact ⟨rfl, _, _, Res1 rfl (resV_tmp rfl), .refl _, by unfold mayN; rw [if_pos h]; rfl, rfl⟩
  · have d : decide ((limit : Int) ≤ (base : Int)) = false := decide_eq_false (by omega)
    repeat (first | refine RQr ?_ | (refine RX ?_; (first | refine QW_of (Qt_sl3m rfl) ?_)) | refine RC ?_ | refine RU ?_ | refine WC_draw_all (id := 1) 9 (Cs [0,1,2,3,4,5,6,7,8] <| .done) mixed (by kernel_rfl) ?_ | refine WC_draw_all (id := 3) 18 (Cs [0,1,2,3,4,5,6,7,8,9,10,11,12,13,14,15,16,17] <| .done) mixed (by kernel_rfl) ?_ | refine WC_region ?_)
    refine ⟨rfl, _, _, Res1 rfl (resV_tmp rfl), .refl _, ?_, rfl⟩
    have w1 : IntKind.u64.wrap (ms.length : Int) = (ms.length : Int) := wU64 (by omega) (by omega)
    have w2 : IntKind.u64.wrap ((limit : Int) - (base : Int)) = ((limit - base : Nat) : Int) := by rw [wU64 (by omega) (by omega)]; omega
    rw [w1, w2]
    have w3 : (if ((limit - base : Nat) : Int) < (ms.length : Int) then ((limit - base : Nat) : Int) else (ms.length : Int)) = ((mayN ms.length base limit : Nat) : Int) := by
      unfold mayN
      rw [if_neg h]
      split <;> omega
    rw [w3, wI64 (by omega) (by unfold mayN; split <;> omega)]
set_option maxHeartbeats 1000000 in
theorem snext_none {k : Int} (hb : BufM v T []) : Fn Tryz.prog 30 [.pointer (some ⟨b, 0, none⟩), .int .i64 k] (sdO b v cap base limit :: (T ++ F)) (fun r L' => r = .tuple #[.int .u64 0, .agg zc43, .bool false] ∧ L' = sdO b v cap base limit :: (T ++ F)) := by
  obtain ⟨a, c, rfl, _, _⟩ := hb.val
  refine Fn_enter Tryz.func30 rfl Tryz.ntmps30 rfl fun gw => ?_
  have d : ((((([] : List (List Value)).length : Nat)) : Int) == 0) = true := rfl
  repeat (first | refine RQr ?_ | ((first | refine WL_Q ?_ | refine WL_Y ?_ | refine WR_Q rfl ?_ | refine WR_late rfl rfl rfl (OW_Q ?_) | refine WR_Y rfl ?_); (first | refine QW_of (Qt_sl3m rfl) ?_)) | ((first | refine WL_op rfl ?_ | refine WL_yes (h := ?_) | refine WR_late rfl rfl rfl ?_ | refine WR_opG rfl rfl ?_ | refine WR_opYG rfl (h := ?_)); (first | (refine OE ?_; try intro _)); try refine SD ?_) | refine RC ?_ | refine RU ?_ | refine WC_draw_all (id := 2) 2 (Cs [0,1] <| .must 2 <| .must 3 <| .done) mixed (by kernel_rfl) ?_ | refine WC_draw_all (id := 5) 15 (Cs [0,1,2,3,4,5,6,7,8,9,10,11,12,13,14] <| .must 15 <| .must 16 <| .done) mixed (by kernel_rfl) ?_ | refine WC_region ?_)
  exact ⟨rfl, _, _, Res3 rfl (resV_tmp rfl) (resV_cellN rfl 0 rfl rfl) (resV_tmp rfl), .cons _ (.cons _ (.refl _)), rfl, rfl⟩
set_option maxHeartbeats 1000000 in
theorem snext_ok {k : Nat} {m : List Value} (hb : BufM v T ms) (hms : Ms24 ms) (hk : ms[k % mayN ms.length base limit]? = some m) (hlen : ms.length ≤ 1000) (h1 : base ≤ 1000000000000) (h2 : limit ≤ 1000000000000) (hk2 : k ≤ 1000000) : Fn Tryz.prog 30 [.pointer (some ⟨b, 0, none⟩), .int .i64 (k : Nat)] (sdO b v cap base limit :: (T ++ F)) (fun r L' => r = .tuple #[.int .u64 (base + k % mayN ms.length base limit : Nat), .agg m.toArray, .bool true] ∧ L' = sdO b v cap base limit :: (T ++ F)) := by
  obtain ⟨g, off, c, cur, rfl, rfl, hsz, hx⟩ := hb.at_ hms hk
  have hlt := (List.getElem?_eq_some_iff.1 hk).1
  have hml := (hms m (List.mem_of_getElem? hk)).1
  have hone := (hms m (List.mem_of_getElem? hk)).2
  obtain ⟨mp, ml⟩ := mayN_pos (len := ms.length) (base := base) (limit := limit) (Nat.lt_of_le_of_lt (Nat.zero_le _) hlt)
  refine Fn_enter Tryz.func30 rfl Tryz.ntmps30 rfl fun gw => ?_
  have hp : 0 < ms.length := Nat.lt_of_le_of_lt (Nat.zero_le _) hlt
  have d : (((ms.length : Nat) : Int) == 0) = false := by
    have : ((ms.length : Nat) : Int) ≠ 0 := by omega
    simpa using this
  repeat (first | refine RQ ?_ | ((first | refine WL_Q ?_ | refine WL_Y ?_); (first | refine QW_of (Qt_sl3m rfl) ?_)) | (refine RE ?_; try intro _) | refine RC ?_ | refine WG 0 ?_ | refine WG 1 ?_ | refine WG 3 ?_ | refine WG 4 ?_)
  rename_i q x5
  refine WL_op rfl (OW_callv rfl rfl rfl rfl rfl (snext1_fn (i := 1) (j := 2) hb rfl rfl hlen h1 h2) ?_)
  rintro _ _ ⟨rfl, rfl⟩
  have e0 : (if ((k : Nat) : Int) > 0 then ((k : Nat) : Int) else 0) = ((k : Nat) : Int) := by split <;> omega
  have hne : ((mayN ms.length base limit : Nat) : Int) ≠ 0 := by omega
  have e1 : ((k : Nat) : Int).tmod ((mayN ms.length base limit : Nat) : Int) = ((k % mayN ms.length base limit : Nat) : Int) := rfl
  rw [e0]
  repeat (first | refine RQ ?_ | (refine WL_Q ?_; (first | refine QW_of (Qt_sl3m rfl) ?_)) | refine RC ?_ | refine WG 4 ?_)
  rw [e1]
  generalize k % mayN ms.length base limit = at_ at hsz hx hlt ⊢
  have p0 : (0 : Int) ≤ (at_ : Int) := by omega
  have p1 : (at_ : Int) < ((ms.length : Nat) : Int) := by omega
  have w1 : IntKind.u64.wrap ((at_ : Nat) : Int) = ((at_ : Nat) : Int) := wU64 (by omega) (by omega)
  have w2 : IntKind.u64.wrap (((base : Nat) : Int) + ((at_ : Nat) : Int)) = ((base + at_ : Nat) : Int) := by rw [wU64 (by omega) (by omega)]; omega
  have hx' : cur.extract (off + ((at_ : Nat) : Int).toNat * 24) (off + ((at_ : Nat) : Int).toNat * 24 + 24) = m.toArray := by rw [Int.toNat_natCast]; exact hx
  have hsz' : off + ((at_ : Nat) : Int).toNat * 24 + 24 ≤ cur.size := by rw [Int.toNat_natCast]; exact hsz
  repeat (first | refine RQr ?_ | (refine RX ?_; (first | refine QW_of (Qt_sl3m rfl) ?_)) | (refine OX ?_; (first | (refine OE ?_; try intro _)); try refine SD ?_) | refine RC ?_ | refine RU ?_ | refine WC_draw_all (id := 5) 15 (Cs [0,1,2,3,4,5,6,7,8,9,10,11,12,13,14] <| .must 15 <| .must 16 <| .done) mixed (by kernel_rfl) ?_)
  rw [hx', w1, w2]
  have hmz : m.toArray.size = 24 := hml
  have hm1 : (m.toArray.toList.all fun v => v.oneCell') = true := hone
  repeat (first | refine RQr ?_ | (refine RX ?_; (first | refine QW_of (Qt_sl3m rfl) ?_)) | (refine OX ?_; (first | (refine OE ?_; try intro _)); try refine SD ?_) | refine RC ?_ | refine RU ?_ | refine WC_draw_all (id := 5) 15 (Cs [0,1,2,3,4,5,6,7,8,9,10,11,12,13,14] <| .must 15 <| .must 16 <| .done) mixed (by kernel_rfl) ?_)
  exact ⟨rfl, _, _, Res3 rfl (resV_tmp rfl) (resV_cellN rfl 0 rfl hmz) (resV_tmp rfl), .cons _ (.cons _ (.refl _)), rfl, rfl⟩
theorem Ms24.drop (h : Ms24 ms) (n : Nat) : Ms24 (ms.drop n) := fun m hm => h m (List.mem_of_mem_drop hm)
theorem Ms24.take (h : Ms24 ms) (n : Nat) : Ms24 (ms.take n) := fun m hm => h m (List.mem_of_mem_take hm)
theorem Ms24.flat_drop (h : Ms24 ms) {n : Nat} (hn : n ≤ ms.length) : ms.flatten.drop (n * 24) = (ms.drop n).flatten := by
  have e : ms.flatten = (ms.take n).flatten ++ (ms.drop n).flatten := by rw [← List.flatten_append, List.take_append_drop]
  have hl : (ms.take n).flatten.length = n * 24 := by rw [(h.take n).flat, List.length_take]; congr 1; omega
  rw [e, ← hl, List.drop_left]
theorem BufM.drop (hb : BufM v T ms) (hms : Ms24 ms) {n : Nat} (hn : n ≤ ms.length) : ∃ a c, v = .slice a ms.length c ∧ ms.length ≤ c ∧ BufM (sliced a n ms.length ms.length 24) T (ms.drop n) := by
  obtain ⟨a, c, hv, hle, hmx⟩ := hb.val
  refine ⟨a, c, hv, hle, ?_⟩
  rcases hb with ⟨h1, h2, h3, h4⟩ | ⟨g, off, cap', cur, h3, rfl, ho⟩
  · obtain rfl : ms = [] := List.eq_nil_of_length_eq_zero h2
    rw [hv] at h3
    simp only [Value.slice.injEq] at h3
    obtain ⟨rfl, _, rfl⟩ := h3
    obtain rfl : n = 0 := by simpa using hn
    exact .inl ⟨rfl, rfl, rfl, h4⟩
  · rw [hv] at h3
    simp only [Value.slice.injEq] at h3
    obtain ⟨rfl, _, rfl⟩ := h3
    have hdl : (ms.drop n).length = ms.length - n := List.length_drop
    have hf := ho.fit
    have hfl := (hms.drop n).flat
    by_cases hfull : ms.length = n
    · have e : sliced (some ⟨g, off, none⟩) n ms.length ms.length 24 = .slice (some ⟨g, off, none⟩) (ms.drop n).length 0 := by
        unfold sliced
        rw [if_pos hfull, hdl]
        congr 1; omega
      rw [e]
      have h0 : (ms.drop n).length = 0 := by omega
      have hnil : ms.drop n = [] := List.eq_nil_of_length_eq_zero h0
      refine .inr ⟨g, off, 0, cur, rfl, rfl, ?_⟩
      rw [hnil]
      exact ⟨rfl, Nat.le_refl _, by simp [maxLen], by omega, fun j x hj => by simp at hj⟩
    · have e : sliced (some ⟨g, off, none⟩) n ms.length ms.length 24 = .slice (some ⟨g, off + n * 24, none⟩) (ms.drop n).length (ms.length - n) := by
        unfold sliced
        rw [if_neg hfull, hdl]
        simp [Addr.add_mid]
      rw [e]
      refine .inr ⟨g, off + n * 24, ms.length - n, cur, rfl, rfl, ?_⟩
      refine ⟨hfl, by omega, by omega, ?_, fun j x hj => ?_⟩
      · have h1 : n * 24 + (ms.length - n) * 24 = ms.length * 24 := by rw [← Nat.add_mul]; congr 1; omega
        have h2 : ms.length * 24 ≤ c * 24 := Nat.mul_le_mul_right _ hle
        omega
      · rw [← hms.flat_drop hn, List.getElem?_drop] at hj
        rw [Nat.add_assoc]
        exact ho.at_ _ _ hj
end
section
variable {c : Cx} {s : List (Nat × Value)} {L : List (Nat × Obj)} {o : Oper}
theorem Qt_sl3m {t E n : Nat} [hu : TUnd c.P t (.slice E)] [hs : TSize c.P E n] {x lo hi mx : Operand} {a : Option Addr} {len cap : Nat} {k k' k'' : IntKind} {l h m : Int} (ho : o.op = .slice t x (some lo) (some hi) (some mx)) (hx : ev s x = some (.slice a len cap) := by exact rfl) (hl : ev s lo = some (.int k'' l) := by exact rfl) (hh : ev s hi = some (.int k h) := by exact rfl) (hm : ev s mx = some (.int k' m) := by exact rfl)
    (hl0 : 0 ≤ l := by first | with_reducible assumption | decide | omega) (hl1 : l ≤ h := by first | with_reducible assumption | exact Int.le_refl _ | omega) (h1 : h ≤ m := by first | with_reducible assumption | exact Int.le_refl _ | omega) (h2 : m ≤ cap := by first | with_reducible assumption | omega) : Qt c s L o (sliced a l.toNat h.toNat m.toNat n) :=
  Qt_of_run (by simp [ho]) (fun ρ hρ w _ => by
    have hut : c.P.underlying t = some (.slice (c.P.elem t)) := by rw [elem_of hu.h]; exact hu.h
    have h3 := run_slice_lhm (P := c.P) w t a len cap hut k'' k k' l h m hl0 hl1 h1 h2
    rw [elem_of hu.h, hs.h] at h3
    have h4 := run_sliceAt_slice (P := c.P) w t (.slice a len cap) (some (.int k'' l)) (some (.int k h)) (some (.int k' m)) hut
    simp only [Result.andThen] at h3
    simp [execOp, ho, hρ x _ hx, hρ lo _ hl, hρ hi _ hh, hρ mx _ hm, h4, h3])
end
section
variable {b cap base limit : Nat} {v : Value} {T F : List (Nat × Obj)} {ms : List (List Value)}
set_option maxHeartbeats 4000000 in
theorem sack_bad {next room : Int} (hb : BufM v T ms) (hlen : ms.length ≤ 1000) (hbb : base ≤ 1000000000000) (h0 : 0 ≤ next) (h1 : next < 18446744073709551616) (h : (base : Int) + ms.length < next ∨ room < 0 ∨ (cap : Int) < room) {M : List (Nat × Obj)} {i : Nat} (hi : M[i]? = some (sdO b v cap base limit)) : Fn Tryz.prog 51 [.pointer (some ⟨b, 0, none⟩), .int .u64 next, .int .i64 room] M (fun r L' => r = .int .i64 2 ∧ L' = M) := by
  obtain ⟨a, c, rfl, _, _⟩ := hb.val
  have w1 : IntKind.u64.wrap ((ms.length : Nat) : Int) = ((ms.length : Nat) : Int) := wU64 (by omega) (by omega)
  refine Fn_enter Tryz.func51 rfl Tryz.ntmps51 rfl fun gw => ?_
  by_cases hgt : (base : Int) < next
  · have d1 : decide (next > (base : Int)) = true := decide_eq_true hgt
    have w2 : IntKind.u64.wrap (next - (base : Int)) = next - (base : Int) := wU64 (by omega) (by omega)
    by_cases hover : (base : Int) + ms.length < next
    · have d2 : decide (IntKind.u64.wrap (next - (base : Int)) > IntKind.u64.wrap ((ms.length : Nat) : Int)) = true := by rw [w1, w2]; exact decide_eq_true (by omega)
      repeat (first | refine RQr ?_ | ((first | refine WL_Q ?_ | refine WL_Y ?_ | refine WR_Q rfl ?_ | refine WR_late rfl rfl rfl (OW_Q ?_) | refine WR_Y rfl ?_); (first | refine QW_of (Qt_sl3m rfl) ?_)) | ((first | refine WL_op rfl ?_ | refine WL_yes (h := ?_) | refine WR_late rfl rfl rfl ?_ | refine WR_opG rfl rfl ?_ | refine WR_opYG rfl (h := ?_)); (first | (refine OE ?_; try intro _)); try refine SD ?_) | refine RC ?_ | refine RU ?_ | refine WC_draw_all (id := 2) 22 (Cs [0,1,2,3,4,5,6,7,8,9,10,11,12,13,14,15,16,17,18,19,20,21] <| .done) mixed (by kernel_rfl) ?_ | refine WC_draw_all (id := 9) 17 (Cs [0,1,2,3,4,5,6,7,8,9,10,11,12,13,14,15,16] <| .must 17 <| .must 18 <| .must 19 <| .done) mixed (by kernel_rfl) ?_ | refine WC_region ?_)
      exact ⟨rfl, _, _, Res1 rfl (resV_tmp rfl), .refl _, rfl, rfl⟩
    · have d2 : decide (IntKind.u64.wrap (next - (base : Int)) > IntKind.u64.wrap ((ms.length : Nat) : Int)) = false := by rw [w1, w2]; exact decide_eq_false (by omega)
      by_cases hr : room < 0
      · have d3 : decide (room < 0) = true := decide_eq_true hr
        repeat (first | refine RQr ?_ | ((first | refine WL_Q ?_ | refine WL_Y ?_ | refine WR_Q rfl ?_ | refine WR_late rfl rfl rfl (OW_Q ?_) | refine WR_Y rfl ?_); (first | refine QW_of (Qt_sl3m rfl) ?_)) | ((first | refine WL_op rfl ?_ | refine WL_yes (h := ?_) | refine WR_late rfl rfl rfl ?_ | refine WR_opG rfl rfl ?_ | refine WR_opYG rfl (h := ?_)); (first | (refine OE ?_; try intro _)); try refine SD ?_) | refine RC ?_ | refine RU ?_ | refine WC_draw_all (id := 2) 22 (Cs [0,1,2,3,4,5,6,7,8,9,10,11,12,13,14,15,16,17,18,19,20,21] <| .done) mixed (by kernel_rfl) ?_ | refine WC_draw_all (id := 9) 17 (Cs [0,1,2,3,4,5,6,7,8,9,10,11,12,13,14,15,16] <| .must 17 <| .must 18 <| .must 19 <| .done) mixed (by kernel_rfl) ?_ | refine WC_region ?_)
        exact ⟨rfl, _, _, Res1 rfl (resV_tmp rfl), .refl _, rfl, rfl⟩
      · have d3 : decide (room < 0) = false := decide_eq_false hr
        have d4 : decide (room > (cap : Int)) = true := decide_eq_true (by omega)
        repeat (first | refine RQr ?_ | ((first | refine WL_Q ?_ | refine WL_Y ?_ | refine WR_Q rfl ?_ | refine WR_late rfl rfl rfl (OW_Q ?_) | refine WR_Y rfl ?_); (first | refine QW_of (Qt_sl3m rfl) ?_)) | ((first | refine WL_op rfl ?_ | refine WL_yes (h := ?_) | refine WR_late rfl rfl rfl ?_ | refine WR_opG rfl rfl ?_ | refine WR_opYG rfl (h := ?_)); (first | (refine OE ?_; try intro _)); try refine SD ?_) | refine RC ?_ | refine RU ?_ | refine WC_draw_all (id := 2) 22 (Cs [0,1,2,3,4,5,6,7,8,9,10,11,12,13,14,15,16,17,18,19,20,21] <| .done) mixed (by kernel_rfl) ?_ | refine WC_draw_all (id := 9) 17 (Cs [0,1,2,3,4,5,6,7,8,9,10,11,12,13,14,15,16] <| .must 17 <| .must 18 <| .must 19 <| .done) mixed (by kernel_rfl) ?_ | refine WC_region ?_)
        exact ⟨rfl, _, _, Res1 rfl (resV_tmp rfl), .refl _, rfl, rfl⟩
  · have d1 : decide (next > (base : Int)) = false := decide_eq_false hgt
    by_cases hr : room < 0
    · have d3 : decide (room < 0) = true := decide_eq_true hr
      repeat (first | refine RQr ?_ | ((first | refine WL_Q ?_ | refine WL_Y ?_ | refine WR_Q rfl ?_ | refine WR_late rfl rfl rfl (OW_Q ?_) | refine WR_Y rfl ?_); (first | refine QW_of (Qt_sl3m rfl) ?_)) | ((first | refine WL_op rfl ?_ | refine WL_yes (h := ?_) | refine WR_late rfl rfl rfl ?_ | refine WR_opG rfl rfl ?_ | refine WR_opYG rfl (h := ?_)); (first | (refine OE ?_; try intro _)); try refine SD ?_) | refine RC ?_ | refine RU ?_ | refine WC_draw_all (id := 2) 22 (Cs [0,1,2,3,4,5,6,7,8,9,10,11,12,13,14,15,16,17,18,19,20,21] <| .done) mixed (by kernel_rfl) ?_ | refine WC_draw_all (id := 9) 17 (Cs [0,1,2,3,4,5,6,7,8,9,10,11,12,13,14,15,16] <| .must 17 <| .must 18 <| .must 19 <| .done) mixed (by kernel_rfl) ?_ | refine WC_region ?_)
      exact ⟨rfl, _, _, Res1 rfl (resV_tmp rfl), .refl _, rfl, rfl⟩
    · have d3 : decide (room < 0) = false := decide_eq_false hr
      have d4 : decide (room > (cap : Int)) = true := decide_eq_true (by omega)
      repeat (first | refine RQr ?_ | ((first | refine WL_Q ?_ | refine WL_Y ?_ | refine WR_Q rfl ?_ | refine WR_late rfl rfl rfl (OW_Q ?_) | refine WR_Y rfl ?_); (first | refine QW_of (Qt_sl3m rfl) ?_)) | ((first | refine WL_op rfl ?_ | refine WL_yes (h := ?_) | refine WR_late rfl rfl rfl ?_ | refine WR_opG rfl rfl ?_ | refine WR_opYG rfl (h := ?_)); (first | (refine OE ?_; try intro _)); try refine SD ?_) | refine RC ?_ | refine RU ?_ | refine WC_draw_all (id := 2) 22 (Cs [0,1,2,3,4,5,6,7,8,9,10,11,12,13,14,15,16,17,18,19,20,21] <| .done) mixed (by kernel_rfl) ?_ | refine WC_draw_all (id := 9) 17 (Cs [0,1,2,3,4,5,6,7,8,9,10,11,12,13,14,15,16] <| .must 17 <| .must 18 <| .must 19 <| .done) mixed (by kernel_rfl) ?_ | refine WC_region ?_)
      exact ⟨rfl, _, _, Res1 rfl (resV_tmp rfl), .refl _, rfl, rfl⟩
set_option maxHeartbeats 2000000 in
theorem sack_ok {next room : Nat} (hb : BufM v T ms) (hms : Ms24 ms) (hlen : ms.length ≤ 1000) (hbb : base ≤ 1000000000000) (h : next ≤ base + ms.length) (hr : room ≤ cap) (hc : cap ≤ 16) : Fn Tryz.prog 51 [.pointer (some ⟨b, 0, none⟩), .int .u64 (next : Nat), .int .i64 (room : Nat)] (sdO b v cap base limit :: (T ++ F)) (fun r L' => r = .int .i64 0 ∧ ∃ v', BufM v' T (ms.drop (next - base)) ∧ L' = sdO b v' cap (max base next) (max limit (next + room)) :: (T ++ F)) := by
  obtain ⟨a, c, rfl, hle, hdr⟩ := hb.drop hms (n := next - base) (by omega)
  have w1 : IntKind.u64.wrap ((ms.length : Nat) : Int) = ((ms.length : Nat) : Int) := wU64 (by omega) (by omega)
  have d3 : decide (((room : Nat) : Int) < 0) = false := decide_eq_false (by omega)
  have d4 : decide (((room : Nat) : Int) > (cap : Int)) = false := decide_eq_false (by omega)
  have w5 : IntKind.u64.wrap ((room : Nat) : Int) = ((room : Nat) : Int) := wU64 (by omega) (by omega)
  have w6 : IntKind.u64.wrap (((next : Nat) : Int) + ((room : Nat) : Int)) = ((next + room : Nat) : Int) := by rw [wU64 (by omega) (by omega)]; omega
  have w7 : (if ((next + room : Nat) : Int) > ((limit : Nat) : Int) then ((next + room : Nat) : Int) else ((limit : Nat) : Int)) = ((max limit (next + room) : Nat) : Int) := by split <;> omega
  refine Fn_enter Tryz.func51 rfl Tryz.ntmps51 rfl fun gw => ?_
  by_cases hgt : base < next
  · have d1 : decide (((next : Nat) : Int) > (base : Int)) = true := decide_eq_true (by omega)
    have w2 : IntKind.u64.wrap (((next : Nat) : Int) - (base : Int)) = ((next - base : Nat) : Int) := by rw [wU64 (by omega) (by omega)]; omega
    have d2 : decide (IntKind.u64.wrap (((next : Nat) : Int) - (base : Int)) > IntKind.u64.wrap ((ms.length : Nat) : Int)) = false := by rw [w1, w2]; exact decide_eq_false (by omega)
    have w3 : IntKind.i64.wrap ((next - base : Nat) : Int) = ((next - base : Nat) : Int) := wI64 (by omega) (by omega)
    repeat (first | refine RQr ?_ | ((first | refine WL_Q ?_ | refine WL_Y ?_ | refine WR_Q rfl ?_ | refine WR_late rfl rfl rfl (OW_Q ?_) | refine WR_Y rfl ?_); (first | refine QW_of (Qt_sl3m rfl) ?_)) | refine RC ?_ | refine RU ?_ | refine WC_draw_all (id := 2) 22 (Cs [0,1,2,3,4,5,6,7,8,9,10,11,12,13,14,15,16,17,18,19,20,21] <| .done) mixed (by kernel_rfl) ?_ | refine WG 0 ?_ | refine WG 1 ?_ | refine WG 3 ?_ | refine WG 4 ?_ | refine WG 7 ?_ | refine WG 8 ?_)
    rw [w2, w3]
    have q0 : (0 : Int) ≤ ((next - base : Nat) : Int) := by omega
    have q1 : ((next - base : Nat) : Int) ≤ ((ms.length : Nat) : Int) := by omega
    have q2 : ((ms.length : Nat) : Int) ≤ ((c : Nat) : Int) := by omega
    repeat (first | refine RQr ?_ | (refine RX ?_; (first | refine QW_of (Qt_sl3m rfl) ?_)) | (refine OX ?_; (first | (refine OE ?_; try intro _)); try refine SD ?_) | refine RC ?_ | refine RU ?_ | refine WC_draw_all (id := 9) 17 (Cs [0,1,2,3,4,5,6,7,8,9,10,11,12,13,14,15,16] <| .must 17 <| .must 18 <| .must 19 <| .done) mixed (by kernel_rfl) ?_)
    repeat (first | refine RQ ?_ | (refine WL_Q ?_; (first | refine QW_of (Qt_sl3m rfl) ?_)) | (refine RE ?_; try intro _) | refine RC ?_ | refine WG 10 ?_ | refine WG 11 ?_)
    rw [w5, w6, w7]
    repeat (first | refine RQ ?_ | (refine WL_Q ?_; (first | refine QW_of (Qt_sl3m rfl) ?_)) | (refine RE ?_; try intro _) | refine RC ?_ | refine WG 11 ?_ | refine WG 12 ?_)
    have hmax : max base next = next := by omega
    rw [hmax]
    exact ⟨rfl, _, _, Res1 rfl (resV_tmp rfl), .refl _, rfl, _, hdr, rfl⟩
  · have d1 : decide (((next : Nat) : Int) > (base : Int)) = false := decide_eq_false (by omega)
    repeat (first | refine RQr ?_ | ((first | refine WL_Q ?_ | refine WL_Y ?_ | refine WR_Q rfl ?_ | refine WR_late rfl rfl rfl (OW_Q ?_) | refine WR_Y rfl ?_); (first | refine QW_of (Qt_sl3m rfl) ?_)) | ((first | refine WL_op rfl ?_ | refine WL_yes (h := ?_) | refine WR_late rfl rfl rfl ?_ | refine WR_opG rfl rfl ?_ | refine WR_opYG rfl (h := ?_)); (first | (refine OE ?_; try intro _)); try refine SD ?_) | refine RC ?_ | refine RU ?_ | refine WC_draw_all (id := 2) 22 (Cs [0,1,2,3,4,5,6,7,8,9,10,11,12,13,14,15,16,17,18,19,20,21] <| .done) mixed (by kernel_rfl) ?_ | refine WG 0 ?_ | refine WG 1 ?_ | refine WG 3 ?_ | refine WG 4 ?_ | refine WG 7 ?_ | refine WG 11 ?_)
    rw [w5, w6, w7]
    repeat (first | refine RQ ?_ | (refine WL_Q ?_; (first | refine QW_of (Qt_sl3m rfl) ?_)) | (refine RE ?_; try intro _) | refine RC ?_ | refine WG 11 ?_ | refine WG 12 ?_)
    have hmax : max base next = base := by omega
    have h0 : next - base = 0 := by omega
    rw [hmax, h0, List.drop_zero]
    exact ⟨rfl, _, _, Res1 rfl (resV_tmp rfl), .refl _, rfl, _, hb, rfl⟩
end
end Go.Proofs.YtdiaogcogkapgaaGreatDoor
namespace Go.Proofs.YtdiaogcogkapgaaGreatDoor
open Go.RowKit
attribute [local irreducible] Fn WC WL WR OW Qt YieldFn QW
def encH (n : Nat) : List UInt8 := if n = 0 then [] else encH (n / 128) ++ [UInt8.ofNat (n % 128 + 128)]
def enc (n : Nat) : List UInt8 := encH (n / 128) ++ [UInt8.ofNat (n % 128)]
theorem encH_zero : encH 0 = [] := by unfold encH; rfl
theorem encH_pos {n : Nat} (h : n ≠ 0) : encH n = encH (n / 128) ++ [UInt8.ofNat (n % 128 + 128)] := by rw [encH, if_neg h]
theorem dig_eq (m : Nat) : IntKind.u8.wrap ((m : Int).tmod 128) = ((UInt8.ofNat (m % 128)).toNat : Int) := by
  rw [Int.tmod_eq_emod_of_nonneg (by omega), wU8_mod]
  simp only [UInt8.toNat_ofNat']
  omega
theorem or_dig : ∀ d : Fin 128, (BitVec.ofInt 8 (d.val : Int) ||| BitVec.ofInt 8 128).toNat = d.val + 128 := by decide
theorem dig_more (m : Nat) : IntKind.u8.wrap (((BitVec.ofInt IntKind.u8.bits (IntKind.u8.wrap ((m : Int).tmod 128)) ||| BitVec.ofInt IntKind.u8.bits 128).toNat : Nat) : Int) = ((UInt8.ofNat (m % 128 + 128)).toNat : Int) := by
  have h : IntKind.u8.wrap ((m : Int).tmod 128) = ((m % 128 : Nat) : Int) := by
    rw [Int.tmod_eq_emod_of_nonneg (by omega), wU8_mod]; omega
  rw [h, show IntKind.u8.bits = 8 from rfl]
  have := or_dig ⟨m % 128, Nat.mod_lt _ (by decide)⟩
  simp only at this
  rw [this, wU8_mod]
  simp only [UInt8.toNat_ofNat']
  omega
theorem shr7 (m : Nat) : (m : Int).fdiv (2 ^ min (Int.toNat 7) IntKind.u64.bits) = ((m / 128 : Nat) : Int) := by
  rw [show min (Int.toNat 7) IntKind.u64.bits = 7 from rfl, Int.fdiv_eq_ediv_of_nonneg _ (by decide)]
  omega
theorem encH_len : ∀ (k n : Nat), n < 128 ^ k → (encH n).length ≤ k
  | 0, n, h => by simp at h; subst h; rw [encH_zero]; simp
  | k + 1, n, h => by
    by_cases h0 : n = 0
    · subst h0; rw [encH_zero]; simp
    · rw [encH_pos h0]
      have := encH_len k (n / 128) (by rw [Nat.pow_succ] at h; omega)
      simp; omega
theorem enc_len {n : Nat} (h : n < 18446744073709551616) : (enc n).length ≤ 10 := by
  have := encH_len 9 (n / 128) (by show n / 128 < 9223372036854775808; omega)
  simp [enc]; omega
theorem enc_pos (n : Nat) : 0 < (enc n).length := by simp [enc]
def LaidAt (v : Value) (L L' : List (Nat × Obj)) (l : List UInt8) : Prop :=
  ∃ g off cap cur, v = .slice (some ⟨g, off, none⟩) l.length cap ∧ L' = (g, .cells cur 5 (0, 0)) :: L ∧ Own 1 cur off cap l.length (l.map bV)
theorem bV_one (l : List UInt8) : ∀ u ∈ l.map bV, u.oneCell' = true := fun u hu => by
  obtain ⟨_, _, rfl⟩ := List.mem_map.1 hu
  rfl
set_option maxHeartbeats 1000000 in
theorem P_fn {v : Value} {bs : List UInt8} {n : Nat} {L : List (Nat × Obj)} (hb : ByAt L v bs) (hn : n < 18446744073709551616) (hlen : bs.length ≤ 1000000000) :
    Fn Tryz.prog 53 [v, .int .u64 n] L (fun r L' => LaidAt r L L' (bs ++ enc n)) := by
  have hb' := hb
  obtain ⟨_, a, cap, rfl, hc1, hc2, _⟩ := hb
  refine Fn_enter Tryz.func53 rfl Tryz.ntmps53 rfl fun g => ?_
  repeat (first | (refine RX ?_; (first | refine QW_of (Qt_lenB rfl) ?_ | refine QW_of (Qt_move rfl) ?_ | refine QW_of (Qt_assign rfl) ?_ | refine QW_of (Qt_rem rfl) ?_ | refine QW_of (Qt_convInt rfl) ?_ | refine QW_of (Qt_indexArr0 rfl) ?_ | refine QW_of (Qt_indexSl0 rfl) ?_ | refine QW_of (Qt_indexArr rfl) ?_ | refine QW_of (Qt_indexSl rfl) ?_ | refine QW_of (Qt_shr rfl) ?_ | refine QW_of (Qt_bin rfl) ?_ | refine QW_of (Qt_lenSl rfl) ?_ | refine QW_of (Qt_or rfl) ?_ | refine QW_of (Qt_sliceL rfl) ?_ | refine QW_of (Qt_slTo rfl) ?_ | refine QW_of (Qt_slLHM rfl) ?_ | refine QW_of (Qt_arrFrom rfl) ?_)) | ((first | refine WL_op rfl ?_ | refine WR_late rfl rfl rfl ?_); (first | refine OW_st1 rfl ?_ | refine OW_alloc rfl (hk := fun _ => ?_))) | refine WL_nil ?_ | refine WR_nil ?_ | refine WC_seq ?_ | refine WC_block ?_ | refine WC_cond_t (ht := ?_) | refine WC_cond_f (he := ?_) | refine WC_skip ?_ | refine WC_ret ?_ | refine WC_exit ?_ | refine WC_draw_all (id := 9) 10 (Cs [0,1,2,3,4,5,6,7] <| .must 8 <| .calm 9 <| .done) mixed (by kernel_rfl) ?_ | refine WC_region ?_ | ((refine WR_opG rfl rfl ?_); (first | refine OW_st1 rfl ?_ | refine OW_alloc rfl (hk := fun _ => ?_)); refine ⟨(by first | exact fun _ h => h | exact fun _ h => List.Sublist.subset (by repeat (first | exact .refl _ | exact List.nil_sublist _ | exact List.sublist_append_right _ _ | exact List.Sublist.append (.refl _) (List.sublist_append_right _ _) | apply List.Sublist.cons_cons | apply List.Sublist.cons)) h), ?_⟩))
  rename_i o
  refine WC_wk [(5, .pointer (some ⟨o, 0, none⟩)), (6, .int .i64 9), (1, .int .u64 ((n : Int).fdiv (2 ^ min (Int.toNat 7) IntKind.u64.bits))), (0, .slice a bs.length cap)] ⟨rfl, rfl, rfl, rfl, trivial⟩ ?_
  rw [dig_eq, shr7]
  refine WC_loop (fun m σ => ∃ (k : Nat) (ys : List UInt8) (cs : Array Value), m = k ∧ enc n = encH k ++ ys ∧ k < 128 ^ (10 - ys.length) ∧ ys.length ≤ 10 ∧ cs.size = 10 ∧ 1 ≤ ys.length ∧ (∀ j u, ys[j]? = some u → cs[10 - ys.length + j]? = some (bV u)) ∧ σ = ⟨[(5, .pointer (some ⟨o, 0, none⟩)), (6, .int .i64 ((10 - ys.length : Nat) : Int)), (1, .int .u64 (k : Int)), (0, .slice a bs.length cap)], [], (o, .cells cs 148 (0, 0)) :: L⟩) (n / 128) ?_ ?_
  · refine ⟨n / 128, [UInt8.ofNat (n % 128)], _, rfl, rfl, ?_, by simp, by rfl, by simp, ?_, rfl⟩
    · show n / 128 < 128 ^ 9
      omega
    · intro j u hu
      cases j with
      | zero => cases hu; rfl
      | succ j => simp at hu
  · rintro k σ ⟨_, ys, cs, rfl, he, hk, hy, hcs, hy1, hat, rfl⟩
    by_cases h0 : k = 0
    · subst h0
      have d1 : decide (((0 : Nat) : Int) > 0) = false := by decide
      rw [encH_zero, List.nil_append] at he
      subst he
      have hown : Own 1 cs (slOff 10 (10 - (enc n).length) 0 1) (enc n).length (enc n).length ((enc n).map bV) := by
        refine ⟨by simp, Nat.le_refl _, by simp only [maxLen]; omega, ?_, fun j x hx => ?_⟩
        · unfold slOff; rw [if_neg (by omega)]; omega
        · rw [List.getElem?_map] at hx
          obtain ⟨u, hu, rfl⟩ := Option.map_eq_some_iff.1 hx
          unfold slOff; rw [if_neg (by omega), Nat.zero_add, Nat.mul_one]
          exact hat j u hu
      repeat (first | (refine RX ?_; (first | refine QW_of (Qt_lenB rfl) ?_ | refine QW_of (Qt_move rfl) ?_ | refine QW_of (Qt_assign rfl) ?_ | refine QW_of (Qt_rem rfl) ?_ | refine QW_of (Qt_convInt rfl) ?_ | refine QW_of (Qt_indexArr0 rfl) ?_ | refine QW_of (Qt_indexSl0 rfl) ?_ | refine QW_of (Qt_indexArr rfl) ?_ | refine QW_of (Qt_indexSl rfl) ?_ | refine QW_of (Qt_shr rfl) ?_ | refine QW_of (Qt_bin rfl) ?_ | refine QW_of (Qt_lenSl rfl) ?_ | refine QW_of (Qt_or rfl) ?_ | refine QW_of (Qt_sliceL rfl) ?_ | refine QW_of (Qt_slTo rfl) ?_ | refine QW_of (Qt_slLHM rfl) ?_ | refine QW_of (Qt_arrFrom rfl) ?_)) | ((first | refine WL_op rfl ?_ | refine WR_late rfl rfl rfl ?_); (first | refine OW_st1 rfl ?_ | refine OW_alloc rfl (hk := fun _ => ?_))) | refine WL_nil ?_ | refine WR_nil ?_ | refine WC_seq ?_ | refine WC_block ?_ | refine WC_cond_t (ht := ?_) | refine WC_cond_f (he := ?_) | refine WC_skip ?_ | refine WC_ret ?_ | refine WC_exit ?_ | refine WC_draw_all (id := 9) 10 (Cs [0,1,2,3,4,5,6,7] <| .must 8 <| .calm 9 <| .done) mixed (by kernel_rfl) ?_ | refine WC_region ?_ | ((refine WR_opG rfl rfl ?_); (first | refine OW_st1 rfl ?_ | refine OW_alloc rfl (hk := fun _ => ?_)); refine ⟨(by first | exact fun _ h => h | exact fun _ h => List.Sublist.subset (by repeat (first | exact .refl _ | exact List.nil_sublist _ | exact List.sublist_append_right _ _ | exact List.Sublist.append (.refl _) (List.sublist_append_right _ _) | apply List.Sublist.cons_cons | apply List.Sublist.cons)) h), ?_⟩))
      have e1 : (((10 - (enc n).length : Nat) : Int)).toNat = 10 - (enc n).length := by omega
      have e2 : (10 - (10 - (enc n).length)) = (enc n).length := by omega
      simp only [e1, e2, Int.toNat_natCast]
      refine WR_op rfl rfl (OW_append_new rfl rfl rfl rfl rfl (olds := bs.map bV) (news := (enc n).map bV) (Vec.cons _ (hb'.shrink (Nat.le_refl _))) (srcVec (hown.vec 0 rfl) (bV_one _)) (by omega) (by simp only [maxLen]; omega) (by omega) fun b' cap' cur' ho => ?_)
      refine ⟨(by first | exact fun _ h => h | exact fun _ h => List.Sublist.subset (by repeat (first | exact .refl _ | exact List.nil_sublist _ | exact List.sublist_append_right _ _ | exact List.Sublist.append (.refl _) (List.sublist_append_right _ _) | apply List.Sublist.cons_cons | apply List.Sublist.cons)) h), ?_⟩
      repeat (first | (refine RX ?_; (first | refine QW_of (Qt_lenB rfl) ?_ | refine QW_of (Qt_move rfl) ?_ | refine QW_of (Qt_assign rfl) ?_ | refine QW_of (Qt_rem rfl) ?_ | refine QW_of (Qt_convInt rfl) ?_ | refine QW_of (Qt_indexArr0 rfl) ?_ | refine QW_of (Qt_indexSl0 rfl) ?_ | refine QW_of (Qt_indexArr rfl) ?_ | refine QW_of (Qt_indexSl rfl) ?_ | refine QW_of (Qt_shr rfl) ?_ | refine QW_of (Qt_bin rfl) ?_ | refine QW_of (Qt_lenSl rfl) ?_ | refine QW_of (Qt_or rfl) ?_ | refine QW_of (Qt_sliceL rfl) ?_ | refine QW_of (Qt_slTo rfl) ?_ | refine QW_of (Qt_slLHM rfl) ?_ | refine QW_of (Qt_arrFrom rfl) ?_)) | ((first | refine WL_op rfl ?_ | refine WR_late rfl rfl rfl ?_); (first | refine OW_st1 rfl ?_ | refine OW_alloc rfl (hk := fun _ => ?_))) | refine WL_nil ?_ | refine WR_nil ?_ | refine WC_seq ?_ | refine WC_block ?_ | refine WC_cond_t (ht := ?_) | refine WC_cond_f (he := ?_) | refine WC_skip ?_ | refine WC_ret ?_ | refine WC_exit ?_ | refine WC_draw_all (id := 9) 10 (Cs [0,1,2,3,4,5,6,7] <| .must 8 <| .calm 9 <| .done) mixed (by kernel_rfl) ?_ | refine WC_region ?_ | ((refine WR_opG rfl rfl ?_); (first | refine OW_st1 rfl ?_ | refine OW_alloc rfl (hk := fun _ => ?_)); refine ⟨(by first | exact fun _ h => h | exact fun _ h => List.Sublist.subset (by repeat (first | exact .refl _ | exact List.nil_sublist _ | exact List.sublist_append_right _ _ | exact List.Sublist.append (.refl _) (List.sublist_append_right _ _) | apply List.Sublist.cons_cons | apply List.Sublist.cons)) h), ?_⟩))
      refine ⟨rfl, _, _, Res1 rfl (resV_tmp rfl), .cons_cons _ (.cons _ (.refl _)), b', 0, cap', cur', ?_, rfl, ?_⟩
      · rw [List.length_append]
      · rw [List.length_append, List.map_append]; exact ho
    · have hk0 : decide (((k : Nat) : Int) > 0) = true := decide_eq_true (by omega)
      have h10 : ys.length < 10 := by
        rcases Nat.lt_or_ge ys.length 10 with h | h
        · exact h
        · rw [show 10 - ys.length = 0 by omega] at hk; simp at hk; omega
      have ew : IntKind.i64.wrap (((10 - ys.length : Nat) : Int) - 1) = ((10 - (ys.length + 1) : Nat) : Int) := by rw [wI64 (by omega) (by omega)]; omega
      repeat (first | (refine RX ?_; (first | refine QW_of (Qt_lenB rfl) ?_ | refine QW_of (Qt_move rfl) ?_ | refine QW_of (Qt_assign rfl) ?_ | refine QW_of (Qt_rem rfl) ?_ | refine QW_of (Qt_convInt rfl) ?_ | refine QW_of (Qt_indexArr0 rfl) ?_ | refine QW_of (Qt_indexSl0 rfl) ?_ | refine QW_of (Qt_indexArr rfl) ?_ | refine QW_of (Qt_indexSl rfl) ?_ | refine QW_of (Qt_shr rfl) ?_ | refine QW_of (Qt_bin rfl) ?_ | refine QW_of (Qt_lenSl rfl) ?_ | refine QW_of (Qt_or rfl) ?_ | refine QW_of (Qt_sliceL rfl) ?_ | refine QW_of (Qt_slTo rfl) ?_ | refine QW_of (Qt_slLHM rfl) ?_ | refine QW_of (Qt_arrFrom rfl) ?_)) | ((first | refine WL_op rfl ?_ | refine WR_late rfl rfl rfl ?_); (first | refine OW_st1 rfl ?_ | refine OW_alloc rfl (hk := fun _ => ?_))) | refine WL_nil ?_ | refine WR_nil ?_ | refine WC_seq ?_ | refine WC_block ?_ | refine WC_cond_t (ht := ?_) | refine WC_cond_f (he := ?_) | refine WC_skip ?_ | refine WC_ret ?_ | refine WC_exit ?_ | refine WC_draw_all (id := 9) 10 (Cs [0,1,2,3,4,5,6,7] <| .must 8 <| .calm 9 <| .done) mixed (by kernel_rfl) ?_ | refine WC_region ?_ | ((refine WR_opG rfl rfl ?_); (first | refine OW_st1 rfl ?_ | refine OW_alloc rfl (hk := fun _ => ?_)); refine ⟨(by first | exact fun _ h => h | exact fun _ h => List.Sublist.subset (by repeat (first | exact .refl _ | exact List.nil_sublist _ | exact List.sublist_append_right _ _ | exact List.Sublist.append (.refl _) (List.sublist_append_right _ _) | apply List.Sublist.cons_cons | apply List.Sublist.cons)) h), ?_⟩))
      rw [shr7, dig_more, ew]
      simp only [Int.toNat_natCast, Nat.mul_one]
      refine ⟨k / 128, _, by omega, ⟨k / 128, UInt8.ofNat (k % 128 + 128) :: ys, _, rfl, ?_, ?_, ?_, ?_, ?_, ?_, rfl⟩, ⟨rfl, rfl, rfl, rfl, trivial⟩, rfl, .refl _⟩
      · rw [he, encH_pos h0]; simp
      · have e3 : 10 - ys.length = (10 - (ys.length + 1)) + 1 := by omega
        rw [e3, Nat.pow_succ] at hk
        show k / 128 < 128 ^ (10 - (ys.length + 1))
        omega
      · simp only [List.length_cons]; omega
      · simpa using hcs
      · simp
      · intro j u hu
        simp only [List.length_cons]
        cases j with
        | zero =>
          simp only [List.getElem?_cons_zero, Option.some.injEq] at hu; subst hu
          show (cs.setIfInBounds (10 - (ys.length + 1)) _)[10 - (ys.length + 1)]? = _
          rw [Array.getElem?_setIfInBounds_self_of_lt (by omega)]; rfl
        | succ j =>
          rw [Array.getElem?_setIfInBounds_ne (by omega)]
          have := hat j u (by simpa using hu)
          rw [show 10 - (ys.length + 1) + (j + 1) = 10 - ys.length + j by omega]; exact this
theorem P_fn' {v : Value} {bs : List UInt8} {x : Int} {L : List (Nat × Obj)} (hb : ByAt L v bs) (h0 : 0 ≤ x) (h1 : x < 18446744073709551616) (hlen : bs.length ≤ 1000000000) :
    Fn Tryz.prog 53 [v, .int .u64 x] L (fun r L' => LaidAt r L L' (bs ++ enc x.toNat)) := by
  have := P_fn (L := L) (n := x.toNat) hb (by omega) hlen
  rwa [show ((x.toNat : Nat) : Int) = x by omega] at this
def zz (x : Int) : Nat := if 0 ≤ x then (2 * x).toNat else (-2 * x - 1).toNat
theorem zz_lt {x : Int} (h0 : -9223372036854775808 ≤ x) (h1 : x < 9223372036854775808) : zz x < 18446744073709551616 := by
  unfold zz; split <;> omega
theorem zz_bits {x : Int} (h0 : -9223372036854775808 ≤ x) (h1 : x < 9223372036854775808) :
    IntKind.u64.wrap ((BitVec.ofInt IntKind.u64.bits (IntKind.u64.wrap (IntKind.u64.wrap x * 2 ^ min (Int.toNat 1) IntKind.u64.bits)) ^^^ BitVec.ofInt IntKind.u64.bits (IntKind.u64.wrap (x.fdiv (2 ^ min (Int.toNat 63) IntKind.i64.bits)))).toNat : Int) = (zz x : Int) := by
  rw [show min (Int.toNat 1) IntKind.u64.bits = 1 from rfl, show min (Int.toNat 63) IntKind.i64.bits = 63 from rfl, show IntKind.u64.bits = 64 from rfl, Int.fdiv_eq_ediv_of_nonneg _ (by decide)]
  by_cases hx : 0 ≤ x
  · have e1 : x / 2 ^ 63 = 0 := by omega
    have e2 : IntKind.u64.wrap (IntKind.u64.wrap x * 2 ^ 1) = 2 * x := by
      rw [wU64 hx (by omega), wU64 (by omega) (by omega)]; omega
    rw [e1, e2, show IntKind.u64.wrap 0 = 0 by decide, show BitVec.ofInt 64 0 = 0#64 from rfl, BitVec.xor_zero, BitVec.toNat_ofInt, wU64_mod]
    unfold zz; rw [if_pos hx]; omega
  · have e1 : x / 2 ^ 63 = -1 := by omega
    have e2 : IntKind.u64.wrap (IntKind.u64.wrap x * 2 ^ 1) = 2 * x + 18446744073709551616 := by
      rw [wU64_mod, wU64_mod]; omega
    rw [e1, e2, wU64_mod (-1)]
    rw [show BitVec.ofInt 64 (-1 % 18446744073709551616) = BitVec.allOnes 64 by decide, BitVec.xor_allOnes, BitVec.toNat_not, BitVec.toNat_ofInt, wU64_mod]
    unfold zz; rw [if_neg hx]; omega
set_option maxHeartbeats 1000000 in
theorem PI_fn {v : Value} {bs : List UInt8} {x : Int} {L : List (Nat × Obj)} (hb : ByAt L v bs) (h0 : -9223372036854775808 ≤ x) (h1 : x < 9223372036854775808) (hlen : bs.length ≤ 1000000000) :
    Fn Tryz.prog 175 [v, .int .i64 x] L (fun r L' => LaidAt r L L' (bs ++ enc (zz x))) := by
  have hz := zz_bits h0 h1
  have hz0 : 0 ≤ IntKind.u64.wrap ((BitVec.ofInt IntKind.u64.bits (IntKind.u64.wrap (IntKind.u64.wrap x * 2 ^ min (Int.toNat 1) IntKind.u64.bits)) ^^^ BitVec.ofInt IntKind.u64.bits (IntKind.u64.wrap (x.fdiv (2 ^ min (Int.toNat 63) IntKind.i64.bits)))).toNat : Int) := by omega
  have hz1 : IntKind.u64.wrap ((BitVec.ofInt IntKind.u64.bits (IntKind.u64.wrap (IntKind.u64.wrap x * 2 ^ min (Int.toNat 1) IntKind.u64.bits)) ^^^ BitVec.ofInt IntKind.u64.bits (IntKind.u64.wrap (x.fdiv (2 ^ min (Int.toNat 63) IntKind.i64.bits)))).toNat : Int) < 18446744073709551616 := by have := zz_lt h0 h1; omega
  refine Fn_enter Tryz.func175 rfl Tryz.ntmps175 rfl fun g => ?_
  repeat (first | (refine WL_Q ?_; (first | refine QW_of (Qt_move rfl) ?_ | refine QW_of (Qt_assign rfl) ?_ | refine QW_of (Qt_convInt rfl) ?_ | refine QW_of (Qt_shl rfl) ?_ | refine QW_of (Qt_shr rfl) ?_ | refine QW_of (Qt_xor rfl) ?_)) | (refine WL_op rfl ?_; (first | (refine OW_call rfl (hF := P_fn' (by with_reducible assumption) (by first | with_reducible assumption | omega) (by first | with_reducible assumption | omega) (by with_reducible assumption)) (hk := ?_); rintro _ _ ⟨b1, off1, cap1, cur1, rfl, rfl, ho1⟩))) | refine WL_nil ?_ | refine WC_seq ?_ | refine WC_ret ?_ | refine WC_region ?_)
  rw [hz, Int.toNat_natCast] at ho1
  refine ⟨rfl, _, _, Res1 rfl (resV_tmp rfl), .refl _, b1, off1, cap1, cur1, ?_, rfl, ho1⟩
  rw [hz, Int.toNat_natCast]
def encB (b : Bool) : List UInt8 := if b then [1] else [0]
set_option maxHeartbeats 1000000 in
theorem PBool_fn {v : Value} {bs : List UInt8} {x : Bool} {L : List (Nat × Obj)} (hb : ByAt L v bs) (hlen : bs.length ≤ 1000000000) :
    Fn Tryz.prog 54 [v, .bool x] L (fun r L' => LaidAt r L L' (bs ++ encB x)) := by
  have hb' := hb
  obtain ⟨_, a, cap, rfl, hc1, hc2, _⟩ := hb
  cases x
  · refine Fn_enter Tryz.func54 rfl Tryz.ntmps54 rfl fun g => ?_
    repeat (first | (refine WL_Q ?_; (first | refine QW_of (Qt_lenB rfl) ?_ | refine QW_of (Qt_move rfl) ?_ | refine QW_of (Qt_lenSl rfl) ?_ | refine QW_of (Qt_assign rfl) ?_ | refine QW_of (Qt_sliceL rfl) ?_ | refine QW_of (Qt_slTo rfl) ?_ | refine QW_of (Qt_slLHM rfl) ?_)) | (refine WL_op rfl ?_; (first | refine OW_build1 rfl (hk := fun _ => ?_))) | refine WL_nil ?_ | refine WC_seq ?_ | refine WC_cond_t (ht := ?_) | refine WC_cond_f (he := ?_) | refine WC_skip ?_ | refine WC_ret ?_ | refine WC_region ?_)
    simp only [Int.toNat_natCast]
    refine WL_op rfl (OW_append_new rfl rfl rfl rfl rfl (olds := bs.map bV) (m := 1) (news := [bV 0]) (Vec.cons _ (hb'.shrink (Nat.le_refl _))) (srcVec ⟨rfl, _, _, rfl, Nat.le_refl _, by decide, .inr ⟨_, _, _, _, _, 0, rfl, rfl, fun j x hx => by cases j <;> simp_all [bV]⟩⟩ (by simp [bV, Value.oneCell'])) (by omega) (by simp only [maxLen]; omega) (by omega) fun b' cap' cur' ho => ?_)
    repeat (first | (refine WL_Q ?_; (first | refine QW_of (Qt_lenB rfl) ?_ | refine QW_of (Qt_move rfl) ?_ | refine QW_of (Qt_lenSl rfl) ?_ | refine QW_of (Qt_assign rfl) ?_ | refine QW_of (Qt_sliceL rfl) ?_ | refine QW_of (Qt_slTo rfl) ?_ | refine QW_of (Qt_slLHM rfl) ?_)) | (refine WL_op rfl ?_; (first | refine OW_build1 rfl (hk := fun _ => ?_))) | refine WL_nil ?_ | refine WC_seq ?_ | refine WC_cond_t (ht := ?_) | refine WC_cond_f (he := ?_) | refine WC_skip ?_ | refine WC_ret ?_ | refine WC_region ?_)
    refine ⟨rfl, _, _, Res1 rfl (resV_tmp rfl), .cons_cons _ (.cons _ (.refl _)), b', 0, cap', cur', ?_, rfl, ?_⟩
    · rw [List.length_append]; rfl
    · rw [List.length_append, List.map_append]; exact ho
  · refine Fn_enter Tryz.func54 rfl Tryz.ntmps54 rfl fun g => ?_
    repeat (first | (refine WL_Q ?_; (first | refine QW_of (Qt_lenB rfl) ?_ | refine QW_of (Qt_move rfl) ?_ | refine QW_of (Qt_lenSl rfl) ?_ | refine QW_of (Qt_assign rfl) ?_ | refine QW_of (Qt_sliceL rfl) ?_ | refine QW_of (Qt_slTo rfl) ?_ | refine QW_of (Qt_slLHM rfl) ?_)) | (refine WL_op rfl ?_; (first | refine OW_build1 rfl (hk := fun _ => ?_))) | refine WL_nil ?_ | refine WC_seq ?_ | refine WC_cond_t (ht := ?_) | refine WC_cond_f (he := ?_) | refine WC_skip ?_ | refine WC_ret ?_ | refine WC_region ?_)
    simp only [Int.toNat_natCast]
    refine WL_op rfl (OW_append_new rfl rfl rfl rfl rfl (olds := bs.map bV) (m := 1) (news := [bV 1]) (Vec.cons _ (hb'.shrink (Nat.le_refl _))) (srcVec ⟨rfl, _, _, rfl, Nat.le_refl _, by decide, .inr ⟨_, _, _, _, _, 0, rfl, rfl, fun j x hx => by cases j <;> simp_all [bV]⟩⟩ (by simp [bV, Value.oneCell'])) (by omega) (by simp only [maxLen]; omega) (by omega) fun b' cap' cur' ho => ?_)
    repeat (first | (refine WL_Q ?_; (first | refine QW_of (Qt_lenB rfl) ?_ | refine QW_of (Qt_move rfl) ?_ | refine QW_of (Qt_lenSl rfl) ?_ | refine QW_of (Qt_assign rfl) ?_ | refine QW_of (Qt_sliceL rfl) ?_ | refine QW_of (Qt_slTo rfl) ?_ | refine QW_of (Qt_slLHM rfl) ?_)) | (refine WL_op rfl ?_; (first | refine OW_build1 rfl (hk := fun _ => ?_))) | refine WL_nil ?_ | refine WC_seq ?_ | refine WC_cond_t (ht := ?_) | refine WC_cond_f (he := ?_) | refine WC_skip ?_ | refine WC_ret ?_ | refine WC_region ?_)
    refine ⟨rfl, _, _, Res1 rfl (resV_tmp rfl), .cons_cons _ (.cons _ (.refl _)), b', 0, cap', cur', ?_, rfl, ?_⟩
    · rw [List.length_append]; rfl
    · rw [List.length_append, List.map_append]; exact ho
theorem encH_or (n : Nat) : (encH n).map (· ||| 128) = encH n := by
  induction n using Nat.strongRecOn with
  | _ n ih =>
    by_cases h : n = 0
    · subst h; rw [encH_zero]; rfl
    · rw [encH_pos h, List.map_append, ih (n / 128) (by omega)]
      congr 1
      simp only [List.map_cons, List.map_nil, List.cons.injEq, and_true]
      have : ∀ d : Fin 128, UInt8.ofNat (d.val + 128) ||| 128 = UInt8.ofNat (d.val + 128) := by decide
      exact this ⟨n % 128, Nat.mod_lt _ (by decide)⟩
theorem enc_or {n : Nat} (h : n ≠ 0) : (enc n).map (· ||| 128) = encH n := by
  rw [encH_pos h, enc, List.map_append, encH_or]
  congr 1
  simp only [List.map_cons, List.map_nil, List.cons.injEq, and_true]
  have : ∀ d : Fin 128, UInt8.ofNat d.val ||| 128 = UInt8.ofNat (d.val + 128) := by decide
  exact this ⟨n % 128, Nat.mod_lt _ (by decide)⟩
theorem or_byte (u : UInt8) : UInt8.ofNat (IntKind.u8.wrap ((BitVec.ofInt IntKind.u8.bits (u.toNat : Int) ||| BitVec.ofInt IntKind.u8.bits 128).toNat : Int)).toNat = u ||| 128 := by
  have : ∀ d : Fin 256, UInt8.ofNat (IntKind.u8.wrap ((BitVec.ofInt IntKind.u8.bits (d.val : Int) ||| BitVec.ofInt IntKind.u8.bits 128).toNat : Int)).toNat = UInt8.ofNat d.val ||| 128 := by decide +kernel
  have h := this ⟨u.toNat, u.toNat_lt⟩
  simpa using h
set_option maxHeartbeats 1000000 in
theorem Num_fn (n : Nat) : ∀ (L : List (Nat × Obj)), n < 18446744073709551616 →
    Fn Tryz.prog 77 [.int .u64 n] L (fun r L' => r = .string (bstr (enc n)) ∧ L' = L) := by
  induction n using Nat.strongRecOn with
  | _ n ih =>
    intro L hn
    refine Fn_enter Tryz.func77 rfl Tryz.ntmps77 rfl fun g => ?_
    by_cases h : n < 128
    · have d1 : decide ((n : Int) < 128) = true := decide_eq_true (by omega)
      repeat (first | (refine WL_Q ?_; (first | refine QW_of (Qt_cat rfl) ?_ | refine QW_of (Qt_lenB rfl) ?_ | refine QW_of (Qt_indexB rfl) ?_ | refine QW_of (Qt_move rfl) ?_ | refine QW_of (Qt_assign rfl) ?_ | refine QW_of (Qt_bin rfl) ?_ | refine QW_of (Qt_str1 rfl) ?_ | refine QW_of (Qt_str rfl (hv := own_by0 (by with_reducible assumption))) ?_ | refine QW_of (Qt_str rfl) ?_ | refine QW_of (Qt_convInt rfl) ?_ | refine QW_of (Qt_quo rfl) ?_ | refine QW_of (Qt_lenSl rfl) ?_ | refine QW_of (Qt_or rfl) ?_ | refine QW_of (Qt_rem rfl) ?_)) | (refine WL_op rfl ?_; (first | refine OW_build1 rfl (hk := fun _ => ?_))) | refine WL_nil ?_ | refine WC_seq ?_ | refine WC_block ?_ | refine WC_cond_t (ht := ?_) | refine WC_cond_f (he := ?_) | refine WC_skip ?_ | refine WC_ret ?_ | refine WC_exit ?_ | refine WC_region ?_)
      refine ⟨rfl, _, _, Res1 rfl (resV_tmp rfl), .cons _ (.refl _), ?_, rfl⟩
      have e : enc n = [UInt8.ofNat n] := by rw [enc, show n / 128 = 0 by omega, encH_zero, show n % 128 = n by omega]; rfl
      rw [e, wU8 (by omega) (by omega)]; rfl
    · have d1 : decide ((n : Int) < 128) = false := decide_eq_false (by omega)
      have hq : (n : Int).tdiv 128 = ((n / 128 : Nat) : Int) := by rw [Int.tdiv_eq_ediv_of_nonneg (by omega)]; omega
      have hw : IntKind.u64.wrap ((n : Int).tdiv 128) = ((n / 128 : Nat) : Int) := by rw [hq, wU64 (by omega) (by omega)]
      repeat (first | (refine WL_Q ?_; (first | refine QW_of (Qt_cat rfl) ?_ | refine QW_of (Qt_lenB rfl) ?_ | refine QW_of (Qt_indexB rfl) ?_ | refine QW_of (Qt_move rfl) ?_ | refine QW_of (Qt_assign rfl) ?_ | refine QW_of (Qt_bin rfl) ?_ | refine QW_of (Qt_str1 rfl) ?_ | refine QW_of (Qt_str rfl (hv := own_by0 (by with_reducible assumption))) ?_ | refine QW_of (Qt_str rfl) ?_ | refine QW_of (Qt_convInt rfl) ?_ | refine QW_of (Qt_quo rfl) ?_ | refine QW_of (Qt_lenSl rfl) ?_ | refine QW_of (Qt_or rfl) ?_ | refine QW_of (Qt_rem rfl) ?_)) | (refine WL_op rfl ?_; (first | refine OW_build1 rfl (hk := fun _ => ?_))) | refine WL_nil ?_ | refine WC_seq ?_ | refine WC_block ?_ | refine WC_cond_t (ht := ?_) | refine WC_cond_f (he := ?_) | refine WC_skip ?_ | refine WC_ret ?_ | refine WC_exit ?_ | refine WC_region ?_)
      rw [hw]
      refine WL_op rfl (OW_callP rfl rfl rfl rfl (ih (n / 128) (by omega) _ (by omega)) ?_); repeat (first | (refine WL_Q ?_; (first | refine QW_of (Qt_cat rfl) ?_ | refine QW_of (Qt_lenB rfl) ?_ | refine QW_of (Qt_indexB rfl) ?_ | refine QW_of (Qt_move rfl) ?_ | refine QW_of (Qt_assign rfl) ?_ | refine QW_of (Qt_bin rfl) ?_ | refine QW_of (Qt_str1 rfl) ?_ | refine QW_of (Qt_str rfl (hv := own_by0 (by with_reducible assumption))) ?_ | refine QW_of (Qt_str rfl) ?_ | refine QW_of (Qt_convInt rfl) ?_ | refine QW_of (Qt_quo rfl) ?_ | refine QW_of (Qt_lenSl rfl) ?_ | refine QW_of (Qt_or rfl) ?_ | refine QW_of (Qt_rem rfl) ?_)) | (refine WL_op rfl ?_; (first | refine OW_build1 rfl (hk := fun _ => ?_))) | refine WL_nil ?_ | refine WC_seq ?_ | refine WC_block ?_ | refine WC_cond_t (ht := ?_) | refine WC_cond_f (he := ?_) | refine WC_skip ?_ | refine WC_ret ?_ | refine WC_exit ?_ | refine WC_region ?_)
      have hm0 : n / 128 ≠ 0 := by omega
      have hlen := enc_len (n := n / 128) (by omega)
      have hor := enc_or hm0
      refine WC_wk [(5, .int .i64 0), (4, .string (bstr [])), (3, .string (bstr (enc (n / 128)))), (0, .int .u64 n)] ⟨rfl, rfl, rfl, rfl, trivial⟩ ?_
      refine WC_loop (fun m σ => ∃ (i : Nat), m = (enc (n / 128)).length - i ∧ i ≤ (enc (n / 128)).length ∧ σ = ⟨[(5, .int .i64 (i : Int)), (4, .string (bstr (((enc (n / 128)).take i).map (· ||| 128)))), (3, .string (bstr (enc (n / 128)))), (0, .int .u64 n)], [], L⟩) (enc (n / 128)).length ⟨0, by omega, by omega, rfl⟩ ?_
      rintro m σ ⟨i, rfl, hi, rfl⟩
      by_cases hlt : i < (enc (n / 128)).length
      · have d2 : decide ((i : Int) < ((enc (n / 128)).length : Int)) = true := decide_eq_true (by omega)
        obtain ⟨u, hu⟩ : ∃ u, (enc (n / 128))[i]? = some u := ⟨_, List.getElem?_eq_getElem hlt⟩
        have hu' : (enc (n / 128))[((i : Nat) : Int).toNat]? = some u := by rw [Int.toNat_natCast]; exact hu
        have hl2 : (((enc (n / 128)).take i).map (· ||| 128)).length = i := by simp; omega
        have hw1 : IntKind.i64.wrap ((i : Int) + 1) = ((i + 1 : Nat) : Int) := by rw [wI64 (by omega) (by omega)]; simp
        repeat (first | (refine WL_Q ?_; (first | refine QW_of (Qt_cat rfl) ?_ | refine QW_of (Qt_lenB rfl) ?_ | refine QW_of (Qt_indexB rfl) ?_ | refine QW_of (Qt_move rfl) ?_ | refine QW_of (Qt_assign rfl) ?_ | refine QW_of (Qt_bin rfl) ?_ | refine QW_of (Qt_str1 rfl) ?_ | refine QW_of (Qt_str rfl (hv := own_by0 (by with_reducible assumption))) ?_ | refine QW_of (Qt_str rfl) ?_ | refine QW_of (Qt_convInt rfl) ?_ | refine QW_of (Qt_quo rfl) ?_ | refine QW_of (Qt_lenSl rfl) ?_ | refine QW_of (Qt_or rfl) ?_ | refine QW_of (Qt_rem rfl) ?_)) | (refine WL_op rfl ?_; (first | refine OW_build1 rfl (hk := fun _ => ?_))) | refine WL_nil ?_ | refine WC_seq ?_ | refine WC_block ?_ | refine WC_cond_t (ht := ?_) | refine WC_cond_f (he := ?_) | refine WC_skip ?_ | refine WC_ret ?_ | refine WC_exit ?_ | refine WC_region ?_)
        rw [hw1, or_byte]
        refine ⟨_, _, by omega, ⟨i + 1, rfl, by omega, rfl⟩, ⟨rfl, ?_, rfl, rfl, trivial⟩, rfl, .cons _ (.refl _)⟩
        show some _ = some _
        rw [List.take_add_one, hu, List.map_append]
        rfl
      · have d2 : decide ((i : Int) < ((enc (n / 128)).length : Int)) = false := decide_eq_false (by omega)
        have hii : i = (enc (n / 128)).length := by omega
        subst hii
        repeat (first | (refine WL_Q ?_; (first | refine QW_of (Qt_cat rfl) ?_ | refine QW_of (Qt_lenB rfl) ?_ | refine QW_of (Qt_indexB rfl) ?_ | refine QW_of (Qt_move rfl) ?_ | refine QW_of (Qt_assign rfl) ?_ | refine QW_of (Qt_bin rfl) ?_ | refine QW_of (Qt_str1 rfl) ?_ | refine QW_of (Qt_str rfl (hv := own_by0 (by with_reducible assumption))) ?_ | refine QW_of (Qt_str rfl) ?_ | refine QW_of (Qt_convInt rfl) ?_ | refine QW_of (Qt_quo rfl) ?_ | refine QW_of (Qt_lenSl rfl) ?_ | refine QW_of (Qt_or rfl) ?_ | refine QW_of (Qt_rem rfl) ?_)) | (refine WL_op rfl ?_; (first | refine OW_build1 rfl (hk := fun _ => ?_))) | refine WL_nil ?_ | refine WC_seq ?_ | refine WC_block ?_ | refine WC_cond_t (ht := ?_) | refine WC_cond_f (he := ?_) | refine WC_skip ?_ | refine WC_ret ?_ | refine WC_exit ?_ | refine WC_region ?_)
        rw [List.take_length, hor, dig_eq]
        refine ⟨rfl, _, _, Res1 rfl (resV_tmp rfl), .cons _ (.refl _), ?_, rfl⟩
        rw [Int.toNat_natCast, UInt8.ofNat_toNat]
        rfl
theorem Num_fn' {x : Int} {L : List (Nat × Obj)} (h0 : 0 ≤ x) (h1 : x < 18446744073709551616) : Fn Tryz.prog 77 [.int .u64 x] L (fun r L' => r = .string (bstr (enc x.toNat)) ∧ L' = L) := by
  have := Num_fn x.toNat L (by omega)
  rwa [show ((x.toNat : Nat) : Int) = x by omega] at this
set_option maxHeartbeats 1000000 in
theorem Int_fn {x : Int} {L : List (Nat × Obj)} (h0 : -9223372036854775808 ≤ x) (h1 : x < 9223372036854775808) : Fn Tryz.prog 100 [.int .i64 x] L (fun r L' => r = .string (bstr (enc (zz x))) ∧ L' = L) := by
  refine Fn_enter Tryz.func100 rfl Tryz.ntmps100 rfl fun g => ?_
  by_cases hx : 0 ≤ x
  · have d1 : decide (x ≥ 0) = true := decide_eq_true hx
    have e : IntKind.u64.wrap (2 * IntKind.u64.wrap x) = ((zz x : Nat) : Int) := by
      rw [wU64 hx (by omega), wU64 (by omega) (by omega)]; unfold zz; rw [if_pos hx]; omega
    have := zz_lt h0 h1
    have b0 : 0 ≤ IntKind.u64.wrap (2 * IntKind.u64.wrap x) := by omega
    have b1 : IntKind.u64.wrap (2 * IntKind.u64.wrap x) < 18446744073709551616 := by omega
    repeat (first | (refine WL_Q ?_; (first | refine QW_of (Qt_bin rfl) ?_ | refine QW_of (Qt_assign rfl) ?_ | refine QW_of (Qt_move rfl) ?_ | refine QW_of (Qt_convInt rfl) ?_ | refine QW_of (Qt_neg rfl) ?_)) | (refine WL_op rfl ?_; (first | refine OW_callP rfl (hF := Num_fn' (by with_reducible assumption) (by with_reducible assumption)) (hk := ?_))) | refine WL_nil ?_ | refine WC_seq ?_ | refine WC_cond_t (ht := ?_) | refine WC_cond_f (he := ?_) | refine WC_skip ?_ | refine WC_ret ?_ | refine WC_region ?_)
    rw [e, Int.toNat_natCast]
    exact ⟨rfl, _, _, Res1 rfl (resV_tmp rfl), .refl _, rfl, rfl⟩
  · have d1 : decide (x ≥ 0) = false := decide_eq_false hx
    have e : IntKind.u64.wrap (IntKind.u64.wrap (2 * IntKind.u64.wrap (IntKind.i64.wrap (0 - IntKind.i64.wrap (x + 1)))) + 1) = ((zz x : Nat) : Int) := by
      rw [wI64 (x := x + 1) (by omega) (by omega), wI64 (by omega) (by omega), wU64 (x := 0 - (x + 1)) (by omega) (by omega), wU64 (x := 2 * _) (by omega) (by omega), wU64 (by omega) (by omega)]; unfold zz; rw [if_neg hx]; omega
    have := zz_lt h0 h1
    have b0 : 0 ≤ IntKind.u64.wrap (IntKind.u64.wrap (2 * IntKind.u64.wrap (IntKind.i64.wrap (0 - IntKind.i64.wrap (x + 1)))) + 1) := by omega
    have b1 : IntKind.u64.wrap (IntKind.u64.wrap (2 * IntKind.u64.wrap (IntKind.i64.wrap (0 - IntKind.i64.wrap (x + 1)))) + 1) < 18446744073709551616 := by omega
    repeat (first | (refine WL_Q ?_; (first | refine QW_of (Qt_bin rfl) ?_ | refine QW_of (Qt_assign rfl) ?_ | refine QW_of (Qt_move rfl) ?_ | refine QW_of (Qt_convInt rfl) ?_ | refine QW_of (Qt_neg rfl) ?_)) | (refine WL_op rfl ?_; (first | refine OW_callP rfl (hF := Num_fn' (by with_reducible assumption) (by with_reducible assumption)) (hk := ?_))) | refine WL_nil ?_ | refine WC_seq ?_ | refine WC_cond_t (ht := ?_) | refine WC_cond_f (he := ?_) | refine WC_skip ?_ | refine WC_ret ?_ | refine WC_region ?_)
    rw [e, Int.toNat_natCast]
    exact ⟨rfl, _, _, Res1 rfl (resV_tmp rfl), .refl _, rfl, rfl⟩
theorem Truth_fn {x : Bool} {L : List (Nat × Obj)} : Fn Tryz.prog 78 [.bool x] L (fun r L' => r = .string (bstr (encB x)) ∧ L' = L) := by
  cases x
  · refine Fn_enter Tryz.func78 rfl Tryz.ntmps78 rfl fun g => ?_
    repeat (first | (refine WL_Q ?_; (first | refine QW_of (Qt_assign rfl) ?_ | refine QW_of (Qt_move rfl) ?_)) | refine WL_nil ?_ | refine WC_seq ?_ | refine WC_cond_t (ht := ?_) | refine WC_cond_f (he := ?_) | refine WC_skip ?_ | refine WC_ret ?_ | refine WC_region ?_)
    exact ⟨rfl, _, _, Res1 rfl (resV_tmp rfl), .refl _, rfl, rfl⟩
  · refine Fn_enter Tryz.func78 rfl Tryz.ntmps78 rfl fun g => ?_
    repeat (first | (refine WL_Q ?_; (first | refine QW_of (Qt_assign rfl) ?_ | refine QW_of (Qt_move rfl) ?_)) | refine WL_nil ?_ | refine WC_seq ?_ | refine WC_cond_t (ht := ?_) | refine WC_cond_f (he := ?_) | refine WC_skip ?_ | refine WC_ret ?_ | refine WC_region ?_)
    exact ⟨rfl, _, _, Res1 rfl (resV_tmp rfl), .refl _, rfl, rfl⟩
end Go.Proofs.YtdiaogcogkapgaaGreatDoor
namespace Go.Proofs.YtdiaogcogkapgaaGreatDoor
open Go.RowKit
attribute [local irreducible] Fn WC WL WR OW Qt YieldFn QW FnP FnD
def cont (l : List UInt8) (at_ : Nat) : Nat := ((l.drop at_).takeWhile fun u => 128 ≤ u.toNat).length
theorem cont_lt {l : List UInt8} {a j : Nat} (h : j < cont l a) : ∃ u, l[a + j]? = some u ∧ 128 ≤ u.toNat := by
  unfold cont at h
  rw [← List.getElem?_drop]
  generalize l.drop a = m at h
  induction m generalizing j with
  | nil => simp at h
  | cons x r ih =>
    by_cases hx : 128 ≤ x.toNat
    · rw [List.takeWhile_cons_of_pos (by simpa using hx)] at h
      cases j with
      | zero => exact ⟨x, rfl, hx⟩
      | succ j => exact ih (by simpa using h)
    · rw [List.takeWhile_cons_of_neg (by simpa using hx)] at h
      simp at h
theorem cont_end {l : List UInt8} {a : Nat} {u : UInt8} (h : l[a + cont l a]? = some u) : u.toNat < 128 := by
  unfold cont at h
  rw [← List.getElem?_drop] at h
  generalize l.drop a = m at h
  induction m with
  | nil => simp at h
  | cons x r ih =>
    by_cases hx : 128 ≤ x.toNat
    · rw [List.takeWhile_cons_of_pos (by simpa using hx)] at h
      simp only [List.length_cons, List.getElem?_cons_succ] at h
      exact ih h
    · rw [List.takeWhile_cons_of_neg (by simpa using hx)] at h
      simp at h; subst h; omega
theorem cont_le {l : List UInt8} {a : Nat} (h : a ≤ l.length) : a + cont l a ≤ l.length := by
  have := (List.takeWhile_prefix (fun u : UInt8 => decide (128 ≤ u.toNat)) (l := l.drop a)).length_le
  unfold cont
  rw [List.length_drop] at this
  omega
def val (xs : List UInt8) : Nat := xs.foldl (fun n u => (n * 128 + u.toNat % 128) % 18446744073709551616) 0
theorem val_lt (xs : List UInt8) : val xs < 18446744073709551616 := by
  unfold val
  rcases List.eq_nil_or_concat xs with rfl | ⟨ys, u, rfl⟩
  · decide
  · rw [List.concat_eq_append, List.foldl_append]; simp only [List.foldl_cons, List.foldl_nil]; omega
theorem val_snoc (xs : List UInt8) (u : UInt8) : val (xs ++ [u]) = (val xs * 128 + u.toNat % 128) % 18446744073709551616 := by
  unfold val; rw [List.foldl_append]; rfl
def uCode (l : List UInt8) (a : Nat) : Nat :=
  if l.length ≤ a + cont l a then 3 else if l[a]? = some 128 then 5 else if cont l a + 1 < 10 ∨ (cont l a + 1 = 10 ∧ l[a]? = some 129) then 0 else 4
def uVal (l : List UInt8) (a : Nat) : Nat := val ((l.drop a).take (cont l a + 1))
def uNext (l : List UInt8) (a : Nat) : Nat := a + cont l a + 1
abbrev rdO (l : List UInt8) (a : Nat) : Obj := .cells #[.string (bstr l), .int .i64 a] 216 (0, 0)
abbrev fltO (code : Nat) (a : Nat) : Obj := .cells #[.int .i64 code, .int .i64 a] 157 (0, 0)
abbrev flt (p : Nat) : Value := .iface 174 (.pointer (some ⟨p, 0, none⟩))
theorem new_rd {l : List UInt8} {L : List (Nat × Obj)} : Fn Tryz.prog 84 [.string (bstr l)] L (fun v L' => ∃ r, v = .pointer (some ⟨r, 0, none⟩) ∧ L' = (r, rdO l 0) :: L) := by
  refine Fn_enter Tryz.func84 rfl Tryz.ntmps84 rfl fun g => ?_
  repeat (first | refine RQ ?_ | (refine RE ?_; try intro _) | refine RC ?_ | refine WC_region ?_)
  exact ⟨rfl, _, _, Res1 rfl (resV_tmp rfl), .refl _, _, rfl, rfl⟩
theorem place_rd {l : List UInt8} {a r : Nat} (F : List (Nat × Obj)) : Fn Tryz.prog 109 [.pointer (some ⟨r, 0, none⟩)] ((r, rdO l a) :: F) (fun v L' => v = .int .i64 a ∧ L' = (r, rdO l a) :: F) := by
  refine Fn_enter Tryz.func109 rfl Tryz.ntmps109 rfl fun g => ?_
  repeat (first | refine RQ ?_ | refine RC ?_ | refine WC_region ?_)
  exact ⟨rfl, _, _, Res1 rfl (resV_tmp rfl), .refl _, rfl, rfl⟩
theorem begin_rd {r : Nat} {L : List (Nat × Obj)} : Fn Tryz.prog 112 [.pointer (some ⟨r, 0, none⟩)] L (fun v L' => v = .pointer (some ⟨r, 0, none⟩) ∧ L' = L) := by
  refine Fn_enter Tryz.func112 rfl Tryz.ntmps112 rfl fun g => ?_
  repeat (first | refine RQ ?_ | (refine RE ?_; try intro _) | refine RC ?_ | refine WC_region ?_)
  exact ⟨rfl, _, _, Res1 rfl (resV_tmp rfl), .refl _, rfl, rfl⟩
theorem must_ok {v : Value} {code : Int} {b : Bool} (hb : b = true) {L : List (Nat × Obj)} : Fn Tryz.prog 113 [v, .bool b, .int .i64 code] L (fun v L' => v = .tuple #[] ∧ L' = L) := by
  subst hb
  refine Fn_enter Tryz.func113 rfl Tryz.ntmps113 rfl fun g => ?_
  repeat (first | refine RQ ?_ | (refine RE ?_; try intro _) | refine RC ?_ | refine WC_region ?_)
  exact ⟨rfl, _, _, Res0 rfl, .refl _, rfl, rfl⟩
def Flt (code a : Nat) (L : List (Nat × Obj)) (v : Value) (L' : List (Nat × Obj)) : Prop := ∃ p, v = flt p ∧ L' = (p, fltO code a) :: L
theorem must_no {l : List UInt8} {a r : Nat} {code : Nat} {b : Bool} (hb : b = false) (F : List (Nat × Obj)) : FnP Tryz.prog 113 [.pointer (some ⟨r, 0, none⟩), .bool b, .int .i64 code] ((r, rdO l a) :: F) (Flt code a ((r, rdO l a) :: F)) := by
  subst hb
  refine FnP_enter Tryz.func113 rfl Tryz.ntmps113 rfl fun g => ?_
  repeat (first | refine RQ ?_ | (refine RE ?_; try intro _) | refine RC ?_ | refine WC_region ?_)
  refine WL_op rfl (OW_panic (σ := ⟨_, _, _⟩) rfl rfl ?_)
  exact ⟨_, rfl, _, rfl, rfl⟩
theorem told_ret {cb : Nat} {L : List (Nat × Obj)} : FnD Tryz.prog 111 [.pointer (some ⟨cb, 0, none⟩)] L .returning (fun u' L' => u' = .returning ∧ L' = L) := by
  refine FnD_recover (rv := .nilIface) (u' := .returning) Tryz.func111 rfl Tryz.ntmps111 rfl rfl rfl rfl ⟨rfl, rfl⟩ fun g n => ⟨_, ⟨_, rfl, rfl, Qt_assign rfl, rfl⟩, ?_⟩
  show WC _ _ _ ⟨[(2, .nilIface), (5, .nilIface), (0, .pointer (some ⟨cb, 0, none⟩))], [], L⟩
  repeat (first | refine RQ ?_ | (refine RE ?_; try intro _) | refine RC ?_ | refine WC_region ?_)
  exact ⟨rfl, _, _, Res0 rfl, .refl _, rfl, rfl⟩
theorem or_val (n d : Nat) (hd : d < 128) : IntKind.u64.wrap (((BitVec.ofInt IntKind.u64.bits (IntKind.u64.wrap ((n : Int) * 2 ^ min (Int.toNat 7) IntKind.u64.bits)) ||| BitVec.ofInt IntKind.u64.bits (d : Int)).toNat : Nat) : Int) = (((n * 128 + d) % 18446744073709551616 : Nat) : Int) := by
  rw [show min (Int.toNat 7) IntKind.u64.bits = 7 from rfl, show IntKind.u64.bits = 64 from rfl, wU64_mod, wU64_mod]
  have e1 : ((n : Int) * (2 : Int) ^ 7) % (18446744073709551616 : Int) = (((n % 144115188075855872) <<< 7 : Nat) : Int) := by rw [Nat.shiftLeft_eq]; omega
  have e2 : (BitVec.ofInt 64 ((((n % 144115188075855872) <<< 7 : Nat) : Int)) ||| BitVec.ofInt 64 (d : Int)).toNat = (n % 144115188075855872) <<< 7 + d := by
    rw [BitVec.toNat_or, BitVec.toNat_ofInt, BitVec.toNat_ofInt, Nat.shiftLeft_add_eq_or_of_lt (show d < 2 ^ 7 by omega)]
    have h1 : ((((n % 144115188075855872) <<< 7 : Nat) : Int) % ((2 ^ 64 : Nat) : Int)).toNat = (n % 144115188075855872) <<< 7 := by rw [Nat.shiftLeft_eq]; omega
    have h2 : ((d : Int) % ((2 ^ 64 : Nat) : Int)).toNat = d := by omega
    rw [h1, h2]
  rw [e1, e2, Nat.shiftLeft_eq]
  omega
theorem dig_u64 (u : UInt8) : IntKind.u64.wrap ((u.toNat : Int).tmod 128) = ((u.toNat % 128 : Nat) : Int) := by
  have := u.toNat_lt
  rw [Int.tmod_eq_emod_of_nonneg (by omega), wU64 (by omega) (by omega)]; omega
set_option maxHeartbeats 4000000 in
theorem number_all {l : List UInt8} {a r : Nat} (ha : a ≤ l.length) (hl : l.length ≤ 1000000000) (F : List (Nat × Obj)) : ∀ g w, Mem g ((r, rdO l a) :: F) w → Calls Tryz.prog 114 [.pointer (some ⟨r, 0, none⟩)].toArray w
    (EndR g (fun v L' => uCode l a = 0 ∧ v = .tuple #[.int .u64 (uVal l a), .int .i64 (uNext l a)] ∧ L' = (r, rdO l a) :: F) (fun v L' => uCode l a ≠ 0 ∧ Flt (uCode l a) a ((r, rdO l a) :: F) v L')) := by
  refine enterL Tryz.func114 rfl Tryz.ntmps114 rfl fun g => ?_
  repeat (first | refine RQr ?_ | ((first | refine WL_op rfl ?_ | refine WL_yes (h := ?_) | refine WR_late rfl rfl rfl ?_ | refine WR_opG rfl rfl ?_ | refine WR_opYG rfl (h := ?_)); (first | refine OW_callP rfl (hF := must_ok (by first | with_reducible assumption | rfl)) (hk := ?_)); try refine SD ?_) | refine RC ?_ | refine RU ?_ | refine WC_draw_all (id := 5) 12 (Cs [0,1,2,3,4,5,6,7,8,9,10] <| .must 11 <| .done) mixed (by kernel_rfl) ?_ | refine WC_draw_all (id := 8) 20 (Cs [0,1,2,3,4,5,6,7,8,9,10,11,12,13,14,15,16,17,18] <| .must 19 <| .done) mixed (by kernel_rfl) ?_ | refine WC_draw_all (id := 9) 13 (Cs [0,1,2,3,4,5,6,7,8,9,12] <| .must 10 <| .calm 11 <| .done) mixed (by kernel_rfl) ?_ | refine WC_region ?_)
  refine WC_wk [(3, .int .i64 a), (2, .int .u64 0), (0, .pointer (some ⟨r, 0, none⟩))] ⟨rfl, rfl, rfl, trivial⟩ ?_
  have hcl := cont_le ha
  refine WC_loop (fun m σ => ∃ j : Nat, m = cont l a - j ∧ j ≤ cont l a ∧ σ = ⟨[(3, .int .i64 ((a + j : Nat) : Int)), (2, .int .u64 0), (0, .pointer (some ⟨r, 0, none⟩))], [], (r, rdO l a) :: F⟩) (cont l a) ⟨0, by omega, by omega, rfl⟩ ?_
  rintro m σ ⟨j, rfl, hj, rfl⟩
  by_cases hjc : j < cont l a
  · obtain ⟨u, hu, hu128⟩ := cont_lt hjc
    have hlt := (List.getElem?_eq_some_iff.1 hu).1
    have d1 : decide (((a + j : Nat) : Int) < (l.length : Int)) = true := decide_eq_true (by omega)
    have d2 : decide ((u.toNat : Int) ≥ 128) = true := decide_eq_true (by omega)
    have hu' : l[((a + j : Nat) : Int).toNat]? = some u := by rw [Int.toNat_natCast]; exact hu
    have hw : IntKind.i64.wrap (((a + j : Nat) : Int) + 1) = ((a + (j + 1) : Nat) : Int) := by rw [wI64 (by omega) (by omega)]; omega
    repeat (first | refine RQr ?_ | ((first | refine WL_op rfl ?_ | refine WL_yes (h := ?_) | refine WR_late rfl rfl rfl ?_ | refine WR_opG rfl rfl ?_ | refine WR_opYG rfl (h := ?_)); (first | refine OW_callP rfl (hF := must_ok (by first | with_reducible assumption | rfl)) (hk := ?_)); try refine SD ?_) | refine RC ?_ | refine RU ?_ | refine WC_draw_all (id := 5) 12 (Cs [0,1,2,3,4,5,6,7,8,9,10] <| .must 11 <| .done) mixed (by kernel_rfl) ?_ | refine WC_draw_all (id := 8) 20 (Cs [0,1,2,3,4,5,6,7,8,9,10,11,12,13,14,15,16,17,18] <| .must 19 <| .done) mixed (by kernel_rfl) ?_ | refine WC_draw_all (id := 9) 13 (Cs [0,1,2,3,4,5,6,7,8,9,12] <| .must 10 <| .calm 11 <| .done) mixed (by kernel_rfl) ?_ | refine WC_region ?_)
    rw [hw]
    exact ⟨_, _, by omega, ⟨j + 1, rfl, by omega, rfl⟩, ⟨rfl, rfl, rfl, trivial⟩, rfl, .refl _⟩
  · obtain rfl : j = cont l a := by omega
    by_cases hend : a + cont l a < l.length
    · obtain ⟨u, hu⟩ : ∃ u, l[a + cont l a]? = some u := ⟨_, List.getElem?_eq_getElem hend⟩
      have hu128 := cont_end hu
      have d1 : decide (((a + cont l a : Nat) : Int) < (l.length : Int)) = true := decide_eq_true (by omega)
      have d2 : decide ((u.toNat : Int) ≥ 128) = false := decide_eq_false (by omega)
      have hu' : l[((a + cont l a : Nat) : Int).toNat]? = some u := by rw [Int.toNat_natCast]; exact hu
      obtain ⟨x, hx⟩ : ∃ x, l[a]? = some x := ⟨_, List.getElem?_eq_getElem (show a < l.length by omega)⟩
      have hx' : l[((a : Nat) : Int).toNat]? = some x := by rw [Int.toNat_natCast]; exact hx
      by_cases h5 : x = 128
      · subst h5
        have d3 : (((128 : UInt8).toNat : Int) != 128) = false := by decide
        have hcode : uCode l a = 5 := by unfold uCode; rw [if_neg (by omega), if_pos hx]
        repeat (first | refine RQr ?_ | ((first | refine WL_op rfl ?_ | refine WL_yes (h := ?_) | refine WR_late rfl rfl rfl ?_ | refine WR_opG rfl rfl ?_ | refine WR_opYG rfl (h := ?_)); (first | refine OW_callP rfl (hF := must_ok (by first | with_reducible assumption | rfl)) (hk := ?_)); try refine SD ?_) | refine RC ?_ | refine RU ?_ | refine WC_draw_all (id := 5) 12 (Cs [0,1,2,3,4,5,6,7,8,9,10] <| .must 11 <| .done) mixed (by kernel_rfl) ?_ | refine WC_draw_all (id := 8) 20 (Cs [0,1,2,3,4,5,6,7,8,9,10,11,12,13,14,15,16,17,18] <| .must 19 <| .done) mixed (by kernel_rfl) ?_ | refine WC_draw_all (id := 9) 13 (Cs [0,1,2,3,4,5,6,7,8,9,12] <| .must 10 <| .calm 11 <| .done) mixed (by kernel_rfl) ?_ | refine WC_region ?_)
        refine WR_op rfl rfl (OW_pan rfl (must_no (l := l) (code := 5) d3 F) fun v L' h => ?_)
        exact ⟨v, rfl, by rw [hcode]; decide, by rw [hcode]; exact h⟩
      · have d3 : ((x.toNat : Int) != 128) = true := by
          simp only [bne_iff_ne, ne_eq]
          intro e
          exact h5 (UInt8.toNat_inj.1 (by simpa using (show x.toNat = 128 by omega)))
        have hw1 : IntKind.i64.wrap (((a + cont l a : Nat) : Int) + 1) = ((uNext l a : Nat) : Int) := by rw [wI64 (by omega) (by omega)]; unfold uNext; omega
        have hw2 : IntKind.i64.wrap (((uNext l a : Nat) : Int) - a) = ((cont l a + 1 : Nat) : Int) := by unfold uNext; rw [wI64 (by omega) (by omega)]; omega
        have hx5 : ¬ l[a]? = some 128 := by rw [hx]; simpa using h5
        repeat (first | refine RQr ?_ | ((first | refine WL_op rfl ?_ | refine WL_yes (h := ?_) | refine WR_late rfl rfl rfl ?_ | refine WR_opG rfl rfl ?_ | refine WR_opYG rfl (h := ?_)); (first | refine OW_callP rfl (hF := must_ok (by first | with_reducible assumption | rfl)) (hk := ?_)); try refine SD ?_) | refine RC ?_ | refine RU ?_ | refine WC_draw_all (id := 5) 12 (Cs [0,1,2,3,4,5,6,7,8,9,10] <| .must 11 <| .done) mixed (by kernel_rfl) ?_ | refine WC_draw_all (id := 9) 13 (Cs [0,1,2,3,4,5,6,7,8,9,12] <| .must 10 <| .calm 11 <| .done) mixed (by kernel_rfl) ?_ | refine WG 0 ?_ | refine WG 1 ?_ | refine WG 2 ?_ | refine WG 3 ?_ | refine WG 4 ?_ | refine WG 6 ?_ | refine WG 7 ?_ | refine WG 10 ?_ | refine WG 11 ?_ | refine WG 12 ?_ | refine WG 13 ?_ | refine WG 14 ?_)
        rw [hw1, hw2]
        refine WC_meet (fun σ => uCode l a = 0 ∧ σ = ⟨[(3, .int .i64 (uNext l a)), (2, .int .u64 0), (0, .pointer (some ⟨r, 0, none⟩))], [], (r, rdO l a) :: F⟩) ?_ ?_
        rotate_left
        · rintro σ ⟨hc, rfl⟩
          have hnx : uNext l a ≤ l.length := by unfold uNext; omega
          have hnx1 : (a : Int) ≤ (uNext l a : Nat) := by unfold uNext; omega
          have hnx2 : ((uNext l a : Nat) : Int) ≤ (l.length : Int) := by omega
          repeat (first | refine RQr ?_ | ((first | refine WL_op rfl ?_ | refine WL_yes (h := ?_) | refine WR_late rfl rfl rfl ?_ | refine WR_opG rfl rfl ?_ | refine WR_opYG rfl (h := ?_)); (first | refine OW_callP rfl (hF := must_ok (by first | with_reducible assumption | rfl)) (hk := ?_)); try refine SD ?_) | refine RC ?_ | refine RU ?_ | refine WC_draw_all (id := 5) 12 (Cs [0,1,2,3,4,5,6,7,8,9,10] <| .must 11 <| .done) mixed (by kernel_rfl) ?_ | refine WC_draw_all (id := 8) 20 (Cs [0,1,2,3,4,5,6,7,8,9,10,11,12,13,14,15,16,17,18] <| .must 19 <| .done) mixed (by kernel_rfl) ?_ | refine WC_draw_all (id := 9) 13 (Cs [0,1,2,3,4,5,6,7,8,9,12] <| .must 10 <| .calm 11 <| .done) mixed (by kernel_rfl) ?_ | refine WC_region ?_)
          simp only [Int.toNat_natCast]
          obtain ⟨xs, hxs⟩ : ∃ xs, xs = (l.take (uNext l a)).drop a := ⟨_, rfl⟩
          have hxs' : val xs = uVal l a := by
            unfold uVal; rw [hxs, List.drop_take]; unfold uNext; congr 2; omega
          have hxl : xs.length ≤ 1000000000 := by rw [hxs]; simp; omega
          rw [← hxs]
          refine WR_opG rfl rfl (OW_text rfl hxl fun b cap cs fr g1 g2 g3 => ?_)
          refine ⟨(by first | exact fun _ h => h | exact fun _ h => List.Sublist.subset (by repeat (first | exact .refl _ | exact List.nil_sublist _ | exact List.sublist_append_right _ _ | exact List.Sublist.append (.refl _) (List.sublist_append_right _ _) | apply List.Sublist.cons_cons | apply List.Sublist.cons)) h), ?_⟩
          repeat (first | refine RQr ?_ | ((first | refine WL_op rfl ?_ | refine WL_yes (h := ?_) | refine WR_late rfl rfl rfl ?_ | refine WR_opG rfl rfl ?_ | refine WR_opYG rfl (h := ?_)); (first | refine OW_callP rfl (hF := must_ok (by first | with_reducible assumption | rfl)) (hk := ?_)); try refine SD ?_) | refine RC ?_ | refine RU ?_ | refine WC_draw_all (id := 5) 12 (Cs [0,1,2,3,4,5,6,7,8,9,10] <| .must 11 <| .done) mixed (by kernel_rfl) ?_ | refine WC_draw_all (id := 8) 20 (Cs [0,1,2,3,4,5,6,7,8,9,10,11,12,13,14,15,16,17,18] <| .must 19 <| .done) mixed (by kernel_rfl) ?_ | refine WC_draw_all (id := 9) 13 (Cs [0,1,2,3,4,5,6,7,8,9,12] <| .must 10 <| .calm 11 <| .done) mixed (by kernel_rfl) ?_ | refine WC_region ?_)
          refine WC_wk [(90, .int .i64 0), (89, .int .i64 xs.length), (88, .slice (some ⟨b, 0, none⟩) xs.length cap), (2, .int .u64 0), (3, .int .i64 (uNext l a)), (0, .pointer (some ⟨r, 0, none⟩))] ⟨rfl, rfl, rfl, rfl, rfl, rfl, trivial⟩ ?_
          refine WC_loop (fun m σ => ∃ i : Nat, m = xs.length - i ∧ i ≤ xs.length ∧ σ = ⟨[(90, .int .i64 i), (89, .int .i64 xs.length), (88, .slice (some ⟨b, 0, none⟩) xs.length cap), (2, .int .u64 (val (xs.take i))), (3, .int .i64 (uNext l a)), (0, .pointer (some ⟨r, 0, none⟩))], [], (b, .cells cs 5 fr) :: (r, rdO l a) :: F⟩) xs.length ⟨0, by omega, by omega, rfl⟩ ?_
          rintro m σ ⟨i, rfl, hi, rfl⟩
          by_cases hlt : i < xs.length
          · have e1 : decide ((i : Int) < (xs.length : Int)) = true := decide_eq_true (by omega)
            obtain ⟨y, hy⟩ : ∃ y, xs[i]? = some y := ⟨_, List.getElem?_eq_getElem hlt⟩
            have hcell : cs[((i : Nat) : Int).toNat * 1]? = some (bV y) := by rw [Int.toNat_natCast, Nat.mul_one]; exact g3 i y hy
            have hw : IntKind.i64.wrap ((i : Int) + 1) = ((i + 1 : Nat) : Int) := by rw [wI64 (by omega) (by omega)]; omega
            repeat (first | refine RQr ?_ | ((first | refine WL_op rfl ?_ | refine WL_yes (h := ?_) | refine WR_late rfl rfl rfl ?_ | refine WR_opG rfl rfl ?_ | refine WR_opYG rfl (h := ?_)); (first | refine OW_callP rfl (hF := must_ok (by first | with_reducible assumption | rfl)) (hk := ?_)); try refine SD ?_) | refine RC ?_ | refine RU ?_ | refine WC_draw_all (id := 5) 12 (Cs [0,1,2,3,4,5,6,7,8,9,10] <| .must 11 <| .done) mixed (by kernel_rfl) ?_ | refine WC_draw_all (id := 8) 20 (Cs [0,1,2,3,4,5,6,7,8,9,10,11,12,13,14,15,16,17,18] <| .must 19 <| .done) mixed (by kernel_rfl) ?_ | refine WC_draw_all (id := 9) 13 (Cs [0,1,2,3,4,5,6,7,8,9,12] <| .must 10 <| .calm 11 <| .done) mixed (by kernel_rfl) ?_ | refine WC_region ?_)
            rw [hw, dig_u64, or_val _ _ (by omega)]
            refine ⟨_, _, by omega, ⟨i + 1, rfl, by omega, rfl⟩, ⟨rfl, rfl, rfl, ?_, rfl, rfl, trivial⟩, rfl, .refl _⟩
            show some _ = some _
            rw [List.take_add_one, hy]
            show _ = some (Value.int .u64 ((val (xs.take i ++ [y]) : Nat) : Int))
            rw [val_snoc]
          · have e1 : decide ((i : Int) < (xs.length : Int)) = false := decide_eq_false (by omega)
            obtain rfl : i = xs.length := by omega
            repeat (first | refine RQr ?_ | ((first | refine WL_op rfl ?_ | refine WL_yes (h := ?_) | refine WR_late rfl rfl rfl ?_ | refine WR_opG rfl rfl ?_ | refine WR_opYG rfl (h := ?_)); (first | refine OW_callP rfl (hF := must_ok (by first | with_reducible assumption | rfl)) (hk := ?_)); try refine SD ?_) | refine RC ?_ | refine RU ?_ | refine WC_draw_all (id := 5) 12 (Cs [0,1,2,3,4,5,6,7,8,9,10] <| .must 11 <| .done) mixed (by kernel_rfl) ?_ | refine WC_draw_all (id := 8) 20 (Cs [0,1,2,3,4,5,6,7,8,9,10,11,12,13,14,15,16,17,18] <| .must 19 <| .done) mixed (by kernel_rfl) ?_ | refine WC_draw_all (id := 9) 13 (Cs [0,1,2,3,4,5,6,7,8,9,12] <| .must 10 <| .calm 11 <| .done) mixed (by kernel_rfl) ?_ | refine WC_region ?_)
            refine ⟨_, _, Res2 rfl (resV_tmp rfl) (resV_tmp rfl), .cons _ (.refl _), hc, ?_, rfl⟩
            rw [List.take_length, hxs']
        by_cases hm10 : cont l a + 1 < 10
        · have d4 : decide (((cont l a + 1 : Nat) : Int) < 10) = true := decide_eq_true (by omega)
          have hcode : uCode l a = 0 := by unfold uCode; rw [if_neg (by omega), if_neg hx5, if_pos (.inl hm10)]
          repeat (first | refine RQr ?_ | ((first | refine WL_op rfl ?_ | refine WL_yes (h := ?_) | refine WR_late rfl rfl rfl ?_ | refine WR_opG rfl rfl ?_ | refine WR_opYG rfl (h := ?_)); (first | refine OW_callP rfl (hF := must_ok (by first | with_reducible assumption | rfl)) (hk := ?_)); try refine SD ?_) | refine RC ?_ | refine RU ?_ | refine WC_draw_all (id := 5) 12 (Cs [0,1,2,3,4,5,6,7,8,9,10] <| .must 11 <| .done) mixed (by kernel_rfl) ?_ | refine WC_draw_all (id := 8) 20 (Cs [0,1,2,3,4,5,6,7,8,9,10,11,12,13,14,15,16,17,18] <| .must 19 <| .done) mixed (by kernel_rfl) ?_ | refine WC_draw_all (id := 9) 13 (Cs [0,1,2,3,4,5,6,7,8,9,12] <| .must 10 <| .calm 11 <| .done) mixed (by kernel_rfl) ?_ | refine WC_region ?_)
          exact ⟨_, ⟨hcode, rfl⟩, ⟨rfl, rfl, rfl, trivial⟩, rfl, .refl _⟩
        · have d4 : decide (((cont l a + 1 : Nat) : Int) < 10) = false := decide_eq_false (by omega)
          by_cases hm : cont l a + 1 = 10
          · have d5 : (((cont l a + 1 : Nat) : Int) == 10) = true := by simp; omega
            by_cases h129 : x = 129
            · subst h129
              have d6 : (((129 : UInt8).toNat : Int) == 129) = true := by decide
              have hcode : uCode l a = 0 := by unfold uCode; rw [if_neg (by omega), if_neg hx5, if_pos (.inr ⟨hm, hx⟩)]
              repeat (first | refine RQr ?_ | ((first | refine WL_op rfl ?_ | refine WL_yes (h := ?_) | refine WR_late rfl rfl rfl ?_ | refine WR_opG rfl rfl ?_ | refine WR_opYG rfl (h := ?_)); (first | refine OW_callP rfl (hF := must_ok (by first | with_reducible assumption | rfl)) (hk := ?_)); try refine SD ?_) | refine RC ?_ | refine RU ?_ | refine WC_draw_all (id := 5) 12 (Cs [0,1,2,3,4,5,6,7,8,9,10] <| .must 11 <| .done) mixed (by kernel_rfl) ?_ | refine WC_draw_all (id := 8) 20 (Cs [0,1,2,3,4,5,6,7,8,9,10,11,12,13,14,15,16,17,18] <| .must 19 <| .done) mixed (by kernel_rfl) ?_ | refine WC_draw_all (id := 9) 13 (Cs [0,1,2,3,4,5,6,7,8,9,12] <| .must 10 <| .calm 11 <| .done) mixed (by kernel_rfl) ?_ | refine WC_region ?_)
              exact ⟨_, ⟨hcode, rfl⟩, ⟨rfl, rfl, rfl, trivial⟩, rfl, .refl _⟩
            · have d6 : ((x.toNat : Int) == 129) = false := by
                simp only [beq_eq_false_iff_ne, ne_eq]
                intro e
                exact h129 (UInt8.toNat_inj.1 (by simpa using (show x.toNat = 129 by omega)))
              have hcode : uCode l a = 4 := by
                unfold uCode
                rw [if_neg (by omega), if_neg hx5, if_neg]
                rintro (h | ⟨_, h⟩)
                · omega
                · rw [hx] at h; exact h129 (Option.some.inj h)
              repeat (first | refine RQr ?_ | ((first | refine WL_op rfl ?_ | refine WL_yes (h := ?_) | refine WR_late rfl rfl rfl ?_ | refine WR_opG rfl rfl ?_ | refine WR_opYG rfl (h := ?_)); (first | refine OW_callP rfl (hF := must_ok (by first | with_reducible assumption | rfl)) (hk := ?_)); try refine SD ?_) | refine RC ?_ | refine RU ?_ | refine WC_draw_all (id := 5) 12 (Cs [0,1,2,3,4,5,6,7,8,9,10] <| .must 11 <| .done) mixed (by kernel_rfl) ?_ | refine WC_draw_all (id := 8) 20 (Cs [0,1,2,3,4,5,6,7,8,9,10,11,12,13,14,15,16,17,18] <| .must 19 <| .done) mixed (by kernel_rfl) ?_ | refine WC_draw_all (id := 9) 13 (Cs [0,1,2,3,4,5,6,7,8,9,12] <| .must 10 <| .calm 11 <| .done) mixed (by kernel_rfl) ?_ | refine WC_region ?_)
              refine WR_op rfl rfl (OW_pan rfl (must_no (l := l) (code := 4) d6 F) fun v L' h => ?_)
              exact ⟨v, rfl, by rw [hcode]; decide, by rw [hcode]; exact h⟩
          · have d5 : (((cont l a + 1 : Nat) : Int) == 10) = false := by simp; omega
            have hcode : uCode l a = 4 := by
              unfold uCode
              rw [if_neg (by omega), if_neg hx5, if_neg]
              rintro (h | ⟨h, _⟩) <;> omega
            repeat (first | refine RQr ?_ | ((first | refine WL_op rfl ?_ | refine WL_yes (h := ?_) | refine WR_late rfl rfl rfl ?_ | refine WR_opG rfl rfl ?_ | refine WR_opYG rfl (h := ?_)); (first | refine OW_callP rfl (hF := must_ok (by first | with_reducible assumption | rfl)) (hk := ?_)); try refine SD ?_) | refine RC ?_ | refine RU ?_ | refine WC_draw_all (id := 5) 12 (Cs [0,1,2,3,4,5,6,7,8,9,10] <| .must 11 <| .done) mixed (by kernel_rfl) ?_ | refine WC_draw_all (id := 8) 20 (Cs [0,1,2,3,4,5,6,7,8,9,10,11,12,13,14,15,16,17,18] <| .must 19 <| .done) mixed (by kernel_rfl) ?_ | refine WC_draw_all (id := 9) 13 (Cs [0,1,2,3,4,5,6,7,8,9,12] <| .must 10 <| .calm 11 <| .done) mixed (by kernel_rfl) ?_ | refine WC_region ?_)
            refine WR_op rfl rfl (OW_pan rfl (must_no (l := l) (code := 4) rfl F) fun v L' h => ?_)
            exact ⟨v, rfl, by rw [hcode]; decide, by rw [hcode]; exact h⟩
    · have d1 : decide (((a + cont l a : Nat) : Int) < (l.length : Int)) = false := decide_eq_false (by omega)
      have hcode : uCode l a = 3 := by unfold uCode; rw [if_pos (by omega)]
      repeat (first | refine RQr ?_ | ((first | refine WL_op rfl ?_ | refine WL_yes (h := ?_) | refine WR_late rfl rfl rfl ?_ | refine WR_opG rfl rfl ?_ | refine WR_opYG rfl (h := ?_)); (first | refine OW_callP rfl (hF := must_ok (by first | with_reducible assumption | rfl)) (hk := ?_)); try refine SD ?_) | refine RC ?_ | refine RU ?_ | refine WC_draw_all (id := 5) 12 (Cs [0,1,2,3,4,5,6,7,8,9,10] <| .must 11 <| .done) mixed (by kernel_rfl) ?_ | refine WC_draw_all (id := 8) 20 (Cs [0,1,2,3,4,5,6,7,8,9,10,11,12,13,14,15,16,17,18] <| .must 19 <| .done) mixed (by kernel_rfl) ?_ | refine WC_draw_all (id := 9) 13 (Cs [0,1,2,3,4,5,6,7,8,9,12] <| .must 10 <| .calm 11 <| .done) mixed (by kernel_rfl) ?_ | refine WC_region ?_)
      refine WL_op rfl (OW_pan rfl (must_no (l := l) (code := 3) d1 F) fun v L' h => ?_)
      exact ⟨v, rfl, by rw [hcode]; decide, by rw [hcode]; exact h⟩
end Go.Proofs.YtdiaogcogkapgaaGreatDoor
