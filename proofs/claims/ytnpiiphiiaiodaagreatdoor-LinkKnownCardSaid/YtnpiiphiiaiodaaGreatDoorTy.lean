/-
  Facts on this seat's program's types and functions, out of the loaded program's own, in the form that the symbolic execution asks. Written by a program of mine (wip/tyfacts.sh). It proves no statement by itself.
-/
import Derived.Test.YtnpiiphiiaiodaaGreatDoorRows
import Derived.Test.YtnpiiphiiaiodaaGreatDoorGo
namespace Go.Proofs.YtnpiiphiiaiodaaGreatDoor

instance : TSize Tryz.prog 0 1 := ⟨Tryz.sizeOf0⟩
instance : TAgg Tryz.prog 0 false := ⟨Tryz.isAgg0⟩
instance : TZero Tryz.prog 0 (Go.Value.tuple #[]) := ⟨Tryz.zeroValue0⟩
theorem row0 : (Tryz.prog.info? 0).map (fun i => (i.size, i.bytes)) = some (1, 0) := by kernel_rfl
instance : TSize Tryz.prog 1 1 := ⟨Tryz.sizeOf1⟩
instance : TAgg Tryz.prog 1 false := ⟨Tryz.isAgg1⟩
instance : TZero Tryz.prog 1 (Go.Value.nilFunc) := ⟨Tryz.zeroValue1⟩
theorem row1 : (Tryz.prog.info? 1).map (fun i => (i.size, i.bytes)) = some (1, 8) := by kernel_rfl
instance : TSize Tryz.prog 2 1 := ⟨Tryz.sizeOf2⟩
instance : TAgg Tryz.prog 2 false := ⟨Tryz.isAgg2⟩
instance : TZero Tryz.prog 2 (Go.Value.int Go.IntKind.i64 0) := ⟨Tryz.zeroValue2⟩
theorem row2 : (Tryz.prog.info? 2).map (fun i => (i.size, i.bytes)) = some (1, 8) := by kernel_rfl
instance : TUnd Tryz.prog 2 (.int Go.IntKind.i64) := ⟨Tryz.underlying2⟩
instance : TSize Tryz.prog 3 1 := ⟨Tryz.sizeOf3⟩
instance : TAgg Tryz.prog 3 false := ⟨Tryz.isAgg3⟩
instance : TZero Tryz.prog 3 (Go.Value.int Go.IntKind.i64 0) := ⟨Tryz.zeroValue3⟩
theorem row3 : (Tryz.prog.info? 3).map (fun i => (i.size, i.bytes)) = some (1, 8) := by kernel_rfl
instance : TUnd Tryz.prog 3 (.int Go.IntKind.i64) := ⟨Tryz.underlying3⟩
instance : TSize Tryz.prog 4 1 := ⟨Tryz.sizeOf4⟩
instance : TAgg Tryz.prog 4 false := ⟨Tryz.isAgg4⟩
instance : TZero Tryz.prog 4 (Go.Value.bool Bool.false) := ⟨Tryz.zeroValue4⟩
theorem row4 : (Tryz.prog.info? 4).map (fun i => (i.size, i.bytes)) = some (1, 1) := by kernel_rfl
instance : TUnd Tryz.prog 4 .bool := ⟨Tryz.underlying4⟩
instance : TSize Tryz.prog 5 1 := ⟨Tryz.sizeOf5⟩
instance : TAgg Tryz.prog 5 false := ⟨Tryz.isAgg5⟩
instance : TZero Tryz.prog 5 (Go.Value.int Go.IntKind.u8 0) := ⟨Tryz.zeroValue5⟩
theorem row5 : (Tryz.prog.info? 5).map (fun i => (i.size, i.bytes)) = some (1, 1) := by kernel_rfl
instance : TUnd Tryz.prog 5 (.int Go.IntKind.u8) := ⟨Tryz.underlying5⟩
instance : TSize Tryz.prog 6 1 := ⟨Tryz.sizeOf6⟩
instance : TAgg Tryz.prog 6 false := ⟨Tryz.isAgg6⟩
instance : TZero Tryz.prog 6 (Go.Value.int Go.IntKind.u8 0) := ⟨Tryz.zeroValue6⟩
theorem row6 : (Tryz.prog.info? 6).map (fun i => (i.size, i.bytes)) = some (1, 1) := by kernel_rfl
instance : TUnd Tryz.prog 6 (.int Go.IntKind.u8) := ⟨Tryz.underlying6⟩
instance : TSize Tryz.prog 7 4 := ⟨Tryz.sizeOf7⟩
instance : TAgg Tryz.prog 7 true := ⟨Tryz.isAgg7⟩
def zc7 : Array Value :=  #[Go.Value.int Go.IntKind.i64 0, Go.Value.int Go.IntKind.i64 0, Go.Value.bool Bool.false, Go.Value.int Go.IntKind.u8 0]
theorem zc7_size : zc7.size = 4 := rfl
instance : TZero Tryz.prog 7 (.agg zc7) := ⟨Tryz.zeroValue7⟩
theorem row7 : (Tryz.prog.info? 7).map (fun i => (i.size, i.bytes)) = some (4, 24) := by kernel_rfl
instance : TFld Tryz.prog 7 0 0 2 1 := ⟨⟨_, _, Tryz.underlying7, rfl, rfl, rfl, Tryz.sizeOf2, by decide⟩⟩
instance : TFld Tryz.prog 7 1 1 3 1 := ⟨⟨_, _, Tryz.underlying7, rfl, rfl, rfl, Tryz.sizeOf3, by decide⟩⟩
instance : TFld Tryz.prog 7 2 2 4 1 := ⟨⟨_, _, Tryz.underlying7, rfl, rfl, rfl, Tryz.sizeOf4, by decide⟩⟩
instance : TFld Tryz.prog 7 3 3 6 1 := ⟨⟨_, _, Tryz.underlying7, rfl, rfl, rfl, Tryz.sizeOf6, by decide⟩⟩
instance : TBuild Tryz.prog 7 zc7 [(0, 1), (1, 1), (2, 1), (3, 1)] := ⟨fun _ => by kernel_rfl⟩
instance : TSize Tryz.prog 8 4 := ⟨Tryz.sizeOf8⟩
instance : TAgg Tryz.prog 8 true := ⟨Tryz.isAgg8⟩
def zc8 : Array Value :=  #[Go.Value.int Go.IntKind.i64 0, Go.Value.int Go.IntKind.i64 0, Go.Value.bool Bool.false, Go.Value.int Go.IntKind.u8 0]
theorem zc8_size : zc8.size = 4 := rfl
instance : TZero Tryz.prog 8 (.agg zc8) := ⟨Tryz.zeroValue8⟩
theorem row8 : (Tryz.prog.info? 8).map (fun i => (i.size, i.bytes)) = some (4, 24) := by kernel_rfl
instance : TFld Tryz.prog 8 0 0 2 1 := ⟨⟨_, _, Tryz.underlying8, rfl, rfl, rfl, Tryz.sizeOf2, by decide⟩⟩
instance : TFld Tryz.prog 8 1 1 3 1 := ⟨⟨_, _, Tryz.underlying8, rfl, rfl, rfl, Tryz.sizeOf3, by decide⟩⟩
instance : TFld Tryz.prog 8 2 2 4 1 := ⟨⟨_, _, Tryz.underlying8, rfl, rfl, rfl, Tryz.sizeOf4, by decide⟩⟩
instance : TFld Tryz.prog 8 3 3 6 1 := ⟨⟨_, _, Tryz.underlying8, rfl, rfl, rfl, Tryz.sizeOf6, by decide⟩⟩
instance : TBuild Tryz.prog 8 zc8 [(0, 1), (1, 1), (2, 1), (3, 1)] := ⟨fun _ => by kernel_rfl⟩
instance : TSize Tryz.prog 9 1 := ⟨Tryz.sizeOf9⟩
instance : TAgg Tryz.prog 9 false := ⟨Tryz.isAgg9⟩
instance : TZero Tryz.prog 9 (Go.Value.string { data := #[] }) := ⟨Tryz.zeroValue9⟩
theorem row9 : (Tryz.prog.info? 9).map (fun i => (i.size, i.bytes)) = some (1, 16) := by kernel_rfl
instance : TUnd Tryz.prog 9 .string := ⟨Tryz.underlying9⟩
instance : TSize Tryz.prog 10 1 := ⟨Tryz.sizeOf10⟩
instance : TAgg Tryz.prog 10 false := ⟨Tryz.isAgg10⟩
instance : TZero Tryz.prog 10 (Go.Value.string { data := #[] }) := ⟨Tryz.zeroValue10⟩
theorem row10 : (Tryz.prog.info? 10).map (fun i => (i.size, i.bytes)) = some (1, 16) := by kernel_rfl
instance : TUnd Tryz.prog 10 .string := ⟨Tryz.underlying10⟩
instance : TSize Tryz.prog 11 1 := ⟨Tryz.sizeOf11⟩
instance : TAgg Tryz.prog 11 false := ⟨Tryz.isAgg11⟩
instance : TZero Tryz.prog 11 (Go.Value.string { data := #[] }) := ⟨Tryz.zeroValue11⟩
theorem row11 : (Tryz.prog.info? 11).map (fun i => (i.size, i.bytes)) = some (1, 16) := by kernel_rfl
instance : TUnd Tryz.prog 11 .string := ⟨Tryz.underlying11⟩
instance : TSize Tryz.prog 12 1 := ⟨Tryz.sizeOf12⟩
instance : TAgg Tryz.prog 12 false := ⟨Tryz.isAgg12⟩
instance : TZero Tryz.prog 12 (Go.Value.int Go.IntKind.u64 0) := ⟨Tryz.zeroValue12⟩
theorem row12 : (Tryz.prog.info? 12).map (fun i => (i.size, i.bytes)) = some (1, 8) := by kernel_rfl
instance : TUnd Tryz.prog 12 (.int Go.IntKind.u64) := ⟨Tryz.underlying12⟩
instance : TSize Tryz.prog 13 2 := ⟨Tryz.sizeOf13⟩
instance : TAgg Tryz.prog 13 true := ⟨Tryz.isAgg13⟩
def zc13 : Array Value :=  #[Go.Value.string { data := #[] }, Go.Value.int Go.IntKind.u64 0]
theorem zc13_size : zc13.size = 2 := rfl
instance : TZero Tryz.prog 13 (.agg zc13) := ⟨Tryz.zeroValue13⟩
theorem row13 : (Tryz.prog.info? 13).map (fun i => (i.size, i.bytes)) = some (2, 24) := by kernel_rfl
instance : TFld Tryz.prog 13 0 0 9 1 := ⟨⟨_, _, Tryz.underlying13, rfl, rfl, rfl, Tryz.sizeOf9, by decide⟩⟩
instance : TFld Tryz.prog 13 1 1 12 1 := ⟨⟨_, _, Tryz.underlying13, rfl, rfl, rfl, Tryz.sizeOf12, by decide⟩⟩
instance : TBuild Tryz.prog 13 zc13 [(0, 1), (1, 1)] := ⟨fun _ => by kernel_rfl⟩
instance : TSize Tryz.prog 14 2 := ⟨Tryz.sizeOf14⟩
instance : TAgg Tryz.prog 14 true := ⟨Tryz.isAgg14⟩
def zc14 : Array Value :=  #[Go.Value.string { data := #[] }, Go.Value.int Go.IntKind.u64 0]
theorem zc14_size : zc14.size = 2 := rfl
instance : TZero Tryz.prog 14 (.agg zc14) := ⟨Tryz.zeroValue14⟩
theorem row14 : (Tryz.prog.info? 14).map (fun i => (i.size, i.bytes)) = some (2, 24) := by kernel_rfl
instance : TFld Tryz.prog 14 0 0 9 1 := ⟨⟨_, _, Tryz.underlying14, rfl, rfl, rfl, Tryz.sizeOf9, by decide⟩⟩
instance : TFld Tryz.prog 14 1 1 12 1 := ⟨⟨_, _, Tryz.underlying14, rfl, rfl, rfl, Tryz.sizeOf12, by decide⟩⟩
instance : TBuild Tryz.prog 14 zc14 [(0, 1), (1, 1)] := ⟨fun _ => by kernel_rfl⟩
instance : TSize Tryz.prog 15 1 := ⟨Tryz.sizeOf15⟩
instance : TAgg Tryz.prog 15 false := ⟨Tryz.isAgg15⟩
instance : TZero Tryz.prog 15 (Go.Value.pointer Option.none) := ⟨Tryz.zeroValue15⟩
theorem row15 : (Tryz.prog.info? 15).map (fun i => (i.size, i.bytes)) = some (1, 8) := by kernel_rfl
instance : TUnd Tryz.prog 15 (.pointer 226) := ⟨Tryz.underlying15⟩
instance : TSize Tryz.prog 16 1 := ⟨Tryz.sizeOf16⟩
instance : TAgg Tryz.prog 16 false := ⟨Tryz.isAgg16⟩
instance : TZero Tryz.prog 16 (Go.Value.pointer Option.none) := ⟨Tryz.zeroValue16⟩
theorem row16 : (Tryz.prog.info? 16).map (fun i => (i.size, i.bytes)) = some (1, 8) := by kernel_rfl
instance : TUnd Tryz.prog 16 (.pointer 229) := ⟨Tryz.underlying16⟩
instance : TSize Tryz.prog 17 1 := ⟨Tryz.sizeOf17⟩
instance : TAgg Tryz.prog 17 false := ⟨Tryz.isAgg17⟩
instance : TZero Tryz.prog 17 (Go.Value.pointer Option.none) := ⟨Tryz.zeroValue17⟩
theorem row17 : (Tryz.prog.info? 17).map (fun i => (i.size, i.bytes)) = some (1, 8) := by kernel_rfl
instance : TUnd Tryz.prog 17 (.pointer 236) := ⟨Tryz.underlying17⟩
instance : TSize Tryz.prog 18 1 := ⟨Tryz.sizeOf18⟩
instance : TAgg Tryz.prog 18 true := ⟨Tryz.isAgg18⟩
def zc18 : Array Value :=  #[Go.Value.pointer Option.none]
theorem zc18_size : zc18.size = 1 := rfl
instance : TZero Tryz.prog 18 (.agg zc18) := ⟨Tryz.zeroValue18⟩
theorem row18 : (Tryz.prog.info? 18).map (fun i => (i.size, i.bytes)) = some (1, 8) := by kernel_rfl
instance : TFld Tryz.prog 18 0 0 17 1 := ⟨⟨_, _, Tryz.underlying18, rfl, rfl, rfl, Tryz.sizeOf17, by decide⟩⟩
instance : TBuild Tryz.prog 18 zc18 [(0, 1)] := ⟨fun _ => by kernel_rfl⟩
instance : TSize Tryz.prog 19 1 := ⟨Tryz.sizeOf19⟩
instance : TAgg Tryz.prog 19 true := ⟨Tryz.isAgg19⟩
def zc19 : Array Value :=  #[Go.Value.pointer Option.none]
theorem zc19_size : zc19.size = 1 := rfl
instance : TZero Tryz.prog 19 (.agg zc19) := ⟨Tryz.zeroValue19⟩
theorem row19 : (Tryz.prog.info? 19).map (fun i => (i.size, i.bytes)) = some (1, 8) := by kernel_rfl
instance : TFld Tryz.prog 19 0 0 17 1 := ⟨⟨_, _, Tryz.underlying19, rfl, rfl, rfl, Tryz.sizeOf17, by decide⟩⟩
instance : TBuild Tryz.prog 19 zc19 [(0, 1)] := ⟨fun _ => by kernel_rfl⟩
instance : TSize Tryz.prog 20 1 := ⟨Tryz.sizeOf20⟩
instance : TAgg Tryz.prog 20 false := ⟨Tryz.isAgg20⟩
instance : TZero Tryz.prog 20 (Go.Value.nilIface) := ⟨Tryz.zeroValue20⟩
theorem row20 : (Tryz.prog.info? 20).map (fun i => (i.size, i.bytes)) = some (1, 16) := by kernel_rfl
instance : TUnd Tryz.prog 20 (Go.TypeDesc.interface #[]) := ⟨Tryz.underlying20⟩
instance : TSize Tryz.prog 21 1 := ⟨Tryz.sizeOf21⟩
instance : TAgg Tryz.prog 21 false := ⟨Tryz.isAgg21⟩
instance : TZero Tryz.prog 21 (Go.Value.int Go.IntKind.i32 0) := ⟨Tryz.zeroValue21⟩
theorem row21 : (Tryz.prog.info? 21).map (fun i => (i.size, i.bytes)) = some (1, 4) := by kernel_rfl
instance : TUnd Tryz.prog 21 (.int Go.IntKind.i32) := ⟨Tryz.underlying21⟩
instance : TSize Tryz.prog 22 1 := ⟨Tryz.sizeOf22⟩
instance : TAgg Tryz.prog 22 false := ⟨Tryz.isAgg22⟩
instance : TZero Tryz.prog 22 (Go.Value.nilFunc) := ⟨Tryz.zeroValue22⟩
theorem row22 : (Tryz.prog.info? 22).map (fun i => (i.size, i.bytes)) = some (1, 8) := by kernel_rfl
instance : TSize Tryz.prog 23 1 := ⟨Tryz.sizeOf23⟩
instance : TAgg Tryz.prog 23 false := ⟨Tryz.isAgg23⟩
instance : TZero Tryz.prog 23 (Go.Value.int Go.IntKind.u64 0) := ⟨Tryz.zeroValue23⟩
theorem row23 : (Tryz.prog.info? 23).map (fun i => (i.size, i.bytes)) = some (1, 8) := by kernel_rfl
instance : TUnd Tryz.prog 23 (.int Go.IntKind.u64) := ⟨Tryz.underlying23⟩
instance : TSize Tryz.prog 24 1 := ⟨Tryz.sizeOf24⟩
instance : TAgg Tryz.prog 24 false := ⟨Tryz.isAgg24⟩
instance : TZero Tryz.prog 24 (Go.Value.int Go.IntKind.u32 0) := ⟨Tryz.zeroValue24⟩
theorem row24 : (Tryz.prog.info? 24).map (fun i => (i.size, i.bytes)) = some (1, 4) := by kernel_rfl
instance : TUnd Tryz.prog 24 (.int Go.IntKind.u32) := ⟨Tryz.underlying24⟩
instance : TSize Tryz.prog 25 6 := ⟨Tryz.sizeOf25⟩
instance : TAgg Tryz.prog 25 true := ⟨Tryz.isAgg25⟩
def zc25 : Array Value :=  #[Go.Value.int Go.IntKind.u32 0, Go.Value.int Go.IntKind.i64 0, Go.Value.int Go.IntKind.i64 0, Go.Value.int Go.IntKind.u8 0, Go.Value.bool Bool.false, Go.Value.bool Bool.false]
theorem zc25_size : zc25.size = 6 := rfl
instance : TZero Tryz.prog 25 (.agg zc25) := ⟨Tryz.zeroValue25⟩
theorem row25 : (Tryz.prog.info? 25).map (fun i => (i.size, i.bytes)) = some (6, 32) := by kernel_rfl
instance : TFld Tryz.prog 25 0 0 24 1 := ⟨⟨_, _, Tryz.underlying25, rfl, rfl, rfl, Tryz.sizeOf24, by decide⟩⟩
instance : TFld Tryz.prog 25 1 1 2 1 := ⟨⟨_, _, Tryz.underlying25, rfl, rfl, rfl, Tryz.sizeOf2, by decide⟩⟩
instance : TFld Tryz.prog 25 2 2 2 1 := ⟨⟨_, _, Tryz.underlying25, rfl, rfl, rfl, Tryz.sizeOf2, by decide⟩⟩
instance : TFld Tryz.prog 25 3 3 5 1 := ⟨⟨_, _, Tryz.underlying25, rfl, rfl, rfl, Tryz.sizeOf5, by decide⟩⟩
instance : TFld Tryz.prog 25 4 4 4 1 := ⟨⟨_, _, Tryz.underlying25, rfl, rfl, rfl, Tryz.sizeOf4, by decide⟩⟩
instance : TFld Tryz.prog 25 5 5 4 1 := ⟨⟨_, _, Tryz.underlying25, rfl, rfl, rfl, Tryz.sizeOf4, by decide⟩⟩
instance : TBuild Tryz.prog 25 zc25 [(0, 1), (1, 1), (2, 1), (3, 1), (4, 1), (5, 1)] := ⟨fun _ => by kernel_rfl⟩
instance : TSize Tryz.prog 26 6 := ⟨Tryz.sizeOf26⟩
instance : TAgg Tryz.prog 26 true := ⟨Tryz.isAgg26⟩
def zc26 : Array Value :=  #[Go.Value.int Go.IntKind.u32 0, Go.Value.int Go.IntKind.i64 0, Go.Value.int Go.IntKind.i64 0, Go.Value.int Go.IntKind.u8 0, Go.Value.bool Bool.false, Go.Value.bool Bool.false]
theorem zc26_size : zc26.size = 6 := rfl
instance : TZero Tryz.prog 26 (.agg zc26) := ⟨Tryz.zeroValue26⟩
theorem row26 : (Tryz.prog.info? 26).map (fun i => (i.size, i.bytes)) = some (6, 32) := by kernel_rfl
instance : TFld Tryz.prog 26 0 0 24 1 := ⟨⟨_, _, Tryz.underlying26, rfl, rfl, rfl, Tryz.sizeOf24, by decide⟩⟩
instance : TFld Tryz.prog 26 1 1 2 1 := ⟨⟨_, _, Tryz.underlying26, rfl, rfl, rfl, Tryz.sizeOf2, by decide⟩⟩
instance : TFld Tryz.prog 26 2 2 2 1 := ⟨⟨_, _, Tryz.underlying26, rfl, rfl, rfl, Tryz.sizeOf2, by decide⟩⟩
instance : TFld Tryz.prog 26 3 3 5 1 := ⟨⟨_, _, Tryz.underlying26, rfl, rfl, rfl, Tryz.sizeOf5, by decide⟩⟩
instance : TFld Tryz.prog 26 4 4 4 1 := ⟨⟨_, _, Tryz.underlying26, rfl, rfl, rfl, Tryz.sizeOf4, by decide⟩⟩
instance : TFld Tryz.prog 26 5 5 4 1 := ⟨⟨_, _, Tryz.underlying26, rfl, rfl, rfl, Tryz.sizeOf4, by decide⟩⟩
instance : TBuild Tryz.prog 26 zc26 [(0, 1), (1, 1), (2, 1), (3, 1), (4, 1), (5, 1)] := ⟨fun _ => by kernel_rfl⟩
instance : TSize Tryz.prog 27 1 := ⟨Tryz.sizeOf27⟩
instance : TAgg Tryz.prog 27 false := ⟨Tryz.isAgg27⟩
instance : TZero Tryz.prog 27 (Go.Value.slice Option.none 0 0) := ⟨Tryz.zeroValue27⟩
theorem row27 : (Tryz.prog.info? 27).map (fun i => (i.size, i.bytes)) = some (1, 24) := by kernel_rfl
instance : TUnd Tryz.prog 27 (.slice 3) := ⟨Tryz.underlying27⟩
instance : TSize Tryz.prog 28 4 := ⟨Tryz.sizeOf28⟩
instance : TAgg Tryz.prog 28 true := ⟨Tryz.isAgg28⟩
def zc28 : Array Value :=  #[Go.Value.int Go.IntKind.i64 0, Go.Value.int Go.IntKind.i64 0, Go.Value.int Go.IntKind.i64 0, Go.Value.int Go.IntKind.i64 0]
theorem zc28_size : zc28.size = 4 := rfl
instance : TZero Tryz.prog 28 (.agg zc28) := ⟨Tryz.zeroValue28⟩
theorem row28 : (Tryz.prog.info? 28).map (fun i => (i.size, i.bytes)) = some (4, 32) := by kernel_rfl
instance : TFld Tryz.prog 28 0 0 3 1 := ⟨⟨_, _, Tryz.underlying28, rfl, rfl, rfl, Tryz.sizeOf3, by decide⟩⟩
instance : TFld Tryz.prog 28 1 1 2 1 := ⟨⟨_, _, Tryz.underlying28, rfl, rfl, rfl, Tryz.sizeOf2, by decide⟩⟩
instance : TFld Tryz.prog 28 2 2 2 1 := ⟨⟨_, _, Tryz.underlying28, rfl, rfl, rfl, Tryz.sizeOf2, by decide⟩⟩
instance : TFld Tryz.prog 28 3 3 3 1 := ⟨⟨_, _, Tryz.underlying28, rfl, rfl, rfl, Tryz.sizeOf3, by decide⟩⟩
instance : TBuild Tryz.prog 28 zc28 [(0, 1), (1, 1), (2, 1), (3, 1)] := ⟨fun _ => by kernel_rfl⟩
instance : TSize Tryz.prog 29 4 := ⟨Tryz.sizeOf29⟩
instance : TAgg Tryz.prog 29 true := ⟨Tryz.isAgg29⟩
def zc29 : Array Value :=  #[Go.Value.int Go.IntKind.i64 0, Go.Value.int Go.IntKind.i64 0, Go.Value.int Go.IntKind.i64 0, Go.Value.int Go.IntKind.i64 0]
theorem zc29_size : zc29.size = 4 := rfl
instance : TZero Tryz.prog 29 (.agg zc29) := ⟨Tryz.zeroValue29⟩
theorem row29 : (Tryz.prog.info? 29).map (fun i => (i.size, i.bytes)) = some (4, 32) := by kernel_rfl
instance : TFld Tryz.prog 29 0 0 3 1 := ⟨⟨_, _, Tryz.underlying29, rfl, rfl, rfl, Tryz.sizeOf3, by decide⟩⟩
instance : TFld Tryz.prog 29 1 1 2 1 := ⟨⟨_, _, Tryz.underlying29, rfl, rfl, rfl, Tryz.sizeOf2, by decide⟩⟩
instance : TFld Tryz.prog 29 2 2 2 1 := ⟨⟨_, _, Tryz.underlying29, rfl, rfl, rfl, Tryz.sizeOf2, by decide⟩⟩
instance : TFld Tryz.prog 29 3 3 3 1 := ⟨⟨_, _, Tryz.underlying29, rfl, rfl, rfl, Tryz.sizeOf3, by decide⟩⟩
instance : TBuild Tryz.prog 29 zc29 [(0, 1), (1, 1), (2, 1), (3, 1)] := ⟨fun _ => by kernel_rfl⟩
instance : TSize Tryz.prog 30 10 := ⟨Tryz.sizeOf30⟩
instance : TAgg Tryz.prog 30 true := ⟨Tryz.isAgg30⟩
def zc30 : Array Value :=  #[Go.Value.int Go.IntKind.i64 0, Go.Value.int Go.IntKind.i64 0, Go.Value.slice Option.none 0 0, Go.Value.int Go.IntKind.i64 0, Go.Value.int Go.IntKind.i64 0, Go.Value.int Go.IntKind.i64 0, Go.Value.int Go.IntKind.i64 0, Go.Value.int Go.IntKind.i64 0, Go.Value.int Go.IntKind.i64 0, Go.Value.int Go.IntKind.i64 0]
theorem zc30_size : zc30.size = 10 := rfl
instance : TZero Tryz.prog 30 (.agg zc30) := ⟨Tryz.zeroValue30⟩
theorem row30 : (Tryz.prog.info? 30).map (fun i => (i.size, i.bytes)) = some (10, 96) := by kernel_rfl
instance : TFld Tryz.prog 30 0 0 3 1 := ⟨⟨_, _, Tryz.underlying30, rfl, rfl, rfl, Tryz.sizeOf3, by decide⟩⟩
instance : TFld Tryz.prog 30 1 1 2 1 := ⟨⟨_, _, Tryz.underlying30, rfl, rfl, rfl, Tryz.sizeOf2, by decide⟩⟩
instance : TFld Tryz.prog 30 2 2 27 1 := ⟨⟨_, _, Tryz.underlying30, rfl, rfl, rfl, Tryz.sizeOf27, by decide⟩⟩
instance : TFld Tryz.prog 30 3 3 3 1 := ⟨⟨_, _, Tryz.underlying30, rfl, rfl, rfl, Tryz.sizeOf3, by decide⟩⟩
instance : TFld Tryz.prog 30 4 4 3 1 := ⟨⟨_, _, Tryz.underlying30, rfl, rfl, rfl, Tryz.sizeOf3, by decide⟩⟩
instance : TFld Tryz.prog 30 5 5 29 4 := ⟨⟨_, _, Tryz.underlying30, rfl, rfl, rfl, Tryz.sizeOf29, by decide⟩⟩
instance : TFld Tryz.prog 30 6 9 3 1 := ⟨⟨_, _, Tryz.underlying30, rfl, rfl, rfl, Tryz.sizeOf3, by decide⟩⟩
instance : TBuild Tryz.prog 30 zc30 [(0, 1), (1, 1), (2, 1), (3, 1), (4, 1), (5, 4), (9, 1)] := ⟨fun _ => by kernel_rfl⟩
instance : TSize Tryz.prog 31 10 := ⟨Tryz.sizeOf31⟩
instance : TAgg Tryz.prog 31 true := ⟨Tryz.isAgg31⟩
def zc31 : Array Value :=  #[Go.Value.int Go.IntKind.i64 0, Go.Value.int Go.IntKind.i64 0, Go.Value.slice Option.none 0 0, Go.Value.int Go.IntKind.i64 0, Go.Value.int Go.IntKind.i64 0, Go.Value.int Go.IntKind.i64 0, Go.Value.int Go.IntKind.i64 0, Go.Value.int Go.IntKind.i64 0, Go.Value.int Go.IntKind.i64 0, Go.Value.int Go.IntKind.i64 0]
theorem zc31_size : zc31.size = 10 := rfl
instance : TZero Tryz.prog 31 (.agg zc31) := ⟨Tryz.zeroValue31⟩
theorem row31 : (Tryz.prog.info? 31).map (fun i => (i.size, i.bytes)) = some (10, 96) := by kernel_rfl
instance : TFld Tryz.prog 31 0 0 3 1 := ⟨⟨_, _, Tryz.underlying31, rfl, rfl, rfl, Tryz.sizeOf3, by decide⟩⟩
instance : TFld Tryz.prog 31 1 1 2 1 := ⟨⟨_, _, Tryz.underlying31, rfl, rfl, rfl, Tryz.sizeOf2, by decide⟩⟩
instance : TFld Tryz.prog 31 2 2 27 1 := ⟨⟨_, _, Tryz.underlying31, rfl, rfl, rfl, Tryz.sizeOf27, by decide⟩⟩
instance : TFld Tryz.prog 31 3 3 3 1 := ⟨⟨_, _, Tryz.underlying31, rfl, rfl, rfl, Tryz.sizeOf3, by decide⟩⟩
instance : TFld Tryz.prog 31 4 4 3 1 := ⟨⟨_, _, Tryz.underlying31, rfl, rfl, rfl, Tryz.sizeOf3, by decide⟩⟩
instance : TFld Tryz.prog 31 5 5 29 4 := ⟨⟨_, _, Tryz.underlying31, rfl, rfl, rfl, Tryz.sizeOf29, by decide⟩⟩
instance : TFld Tryz.prog 31 6 9 3 1 := ⟨⟨_, _, Tryz.underlying31, rfl, rfl, rfl, Tryz.sizeOf3, by decide⟩⟩
instance : TBuild Tryz.prog 31 zc31 [(0, 1), (1, 1), (2, 1), (3, 1), (4, 1), (5, 4), (9, 1)] := ⟨fun _ => by kernel_rfl⟩
instance : TSize Tryz.prog 32 1 := ⟨Tryz.sizeOf32⟩
instance : TAgg Tryz.prog 32 false := ⟨Tryz.isAgg32⟩
instance : TZero Tryz.prog 32 (Go.Value.slice Option.none 0 0) := ⟨Tryz.zeroValue32⟩
theorem row32 : (Tryz.prog.info? 32).map (fun i => (i.size, i.bytes)) = some (1, 24) := by kernel_rfl
instance : TUnd Tryz.prog 32 (.slice 209) := ⟨Tryz.underlying32⟩
instance : TSize Tryz.prog 33 4 := ⟨Tryz.sizeOf33⟩
instance : TAgg Tryz.prog 33 true := ⟨Tryz.isAgg33⟩
def zc33 : Array Value :=  #[Go.Value.int Go.IntKind.i64 0, Go.Value.int Go.IntKind.i64 0, Go.Value.bool Bool.false, Go.Value.slice Option.none 0 0]
theorem zc33_size : zc33.size = 4 := rfl
instance : TZero Tryz.prog 33 (.agg zc33) := ⟨Tryz.zeroValue33⟩
theorem row33 : (Tryz.prog.info? 33).map (fun i => (i.size, i.bytes)) = some (4, 48) := by kernel_rfl
instance : TFld Tryz.prog 33 0 0 3 1 := ⟨⟨_, _, Tryz.underlying33, rfl, rfl, rfl, Tryz.sizeOf3, by decide⟩⟩
instance : TFld Tryz.prog 33 1 1 3 1 := ⟨⟨_, _, Tryz.underlying33, rfl, rfl, rfl, Tryz.sizeOf3, by decide⟩⟩
instance : TFld Tryz.prog 33 2 2 4 1 := ⟨⟨_, _, Tryz.underlying33, rfl, rfl, rfl, Tryz.sizeOf4, by decide⟩⟩
instance : TFld Tryz.prog 33 3 3 32 1 := ⟨⟨_, _, Tryz.underlying33, rfl, rfl, rfl, Tryz.sizeOf32, by decide⟩⟩
instance : TBuild Tryz.prog 33 zc33 [(0, 1), (1, 1), (2, 1), (3, 1)] := ⟨fun _ => by kernel_rfl⟩
instance : TSize Tryz.prog 34 4 := ⟨Tryz.sizeOf34⟩
instance : TAgg Tryz.prog 34 true := ⟨Tryz.isAgg34⟩
def zc34 : Array Value :=  #[Go.Value.int Go.IntKind.i64 0, Go.Value.int Go.IntKind.i64 0, Go.Value.bool Bool.false, Go.Value.slice Option.none 0 0]
theorem zc34_size : zc34.size = 4 := rfl
instance : TZero Tryz.prog 34 (.agg zc34) := ⟨Tryz.zeroValue34⟩
theorem row34 : (Tryz.prog.info? 34).map (fun i => (i.size, i.bytes)) = some (4, 48) := by kernel_rfl
instance : TFld Tryz.prog 34 0 0 3 1 := ⟨⟨_, _, Tryz.underlying34, rfl, rfl, rfl, Tryz.sizeOf3, by decide⟩⟩
instance : TFld Tryz.prog 34 1 1 3 1 := ⟨⟨_, _, Tryz.underlying34, rfl, rfl, rfl, Tryz.sizeOf3, by decide⟩⟩
instance : TFld Tryz.prog 34 2 2 4 1 := ⟨⟨_, _, Tryz.underlying34, rfl, rfl, rfl, Tryz.sizeOf4, by decide⟩⟩
instance : TFld Tryz.prog 34 3 3 32 1 := ⟨⟨_, _, Tryz.underlying34, rfl, rfl, rfl, Tryz.sizeOf32, by decide⟩⟩
instance : TBuild Tryz.prog 34 zc34 [(0, 1), (1, 1), (2, 1), (3, 1)] := ⟨fun _ => by kernel_rfl⟩
instance : TSize Tryz.prog 35 24 := ⟨Tryz.sizeOf35⟩
instance : TAgg Tryz.prog 35 true := ⟨Tryz.isAgg35⟩
def zc35 : Array Value :=  #[Go.Value.int Go.IntKind.i64 0, Go.Value.int Go.IntKind.i64 0, Go.Value.int Go.IntKind.u32 0, Go.Value.int Go.IntKind.i64 0, Go.Value.int Go.IntKind.i64 0, Go.Value.int Go.IntKind.u8 0, Go.Value.bool Bool.false, Go.Value.bool Bool.false, Go.Value.int Go.IntKind.i64 0, Go.Value.int Go.IntKind.i64 0, Go.Value.int Go.IntKind.i64 0, Go.Value.int Go.IntKind.i64 0, Go.Value.slice Option.none 0 0, Go.Value.int Go.IntKind.i64 0, Go.Value.int Go.IntKind.i64 0, Go.Value.int Go.IntKind.i64 0, Go.Value.int Go.IntKind.i64 0, Go.Value.int Go.IntKind.i64 0, Go.Value.int Go.IntKind.i64 0, Go.Value.int Go.IntKind.i64 0, Go.Value.int Go.IntKind.i64 0, Go.Value.int Go.IntKind.i64 0, Go.Value.bool Bool.false, Go.Value.slice Option.none 0 0]
theorem zc35_size : zc35.size = 24 := rfl
instance : TZero Tryz.prog 35 (.agg zc35) := ⟨Tryz.zeroValue35⟩
theorem row35 : (Tryz.prog.info? 35).map (fun i => (i.size, i.bytes)) = some (24, 208) := by kernel_rfl
instance : TFld Tryz.prog 35 0 0 3 1 := ⟨⟨_, _, Tryz.underlying35, rfl, rfl, rfl, Tryz.sizeOf3, by decide⟩⟩
instance : TFld Tryz.prog 35 1 1 3 1 := ⟨⟨_, _, Tryz.underlying35, rfl, rfl, rfl, Tryz.sizeOf3, by decide⟩⟩
instance : TFld Tryz.prog 35 2 2 26 6 := ⟨⟨_, _, Tryz.underlying35, rfl, rfl, rfl, Tryz.sizeOf26, by decide⟩⟩
instance : TFld Tryz.prog 35 3 8 2 1 := ⟨⟨_, _, Tryz.underlying35, rfl, rfl, rfl, Tryz.sizeOf2, by decide⟩⟩
instance : TFld Tryz.prog 35 4 9 3 1 := ⟨⟨_, _, Tryz.underlying35, rfl, rfl, rfl, Tryz.sizeOf3, by decide⟩⟩
instance : TFld Tryz.prog 35 5 10 31 10 := ⟨⟨_, _, Tryz.underlying35, rfl, rfl, rfl, Tryz.sizeOf31, by decide⟩⟩
instance : TFld Tryz.prog 35 6 20 34 4 := ⟨⟨_, _, Tryz.underlying35, rfl, rfl, rfl, Tryz.sizeOf34, by decide⟩⟩
instance : TBuild Tryz.prog 35 zc35 [(0, 1), (1, 1), (2, 6), (8, 1), (9, 1), (10, 10), (20, 4)] := ⟨fun _ => by kernel_rfl⟩
instance : TSize Tryz.prog 36 24 := ⟨Tryz.sizeOf36⟩
instance : TAgg Tryz.prog 36 true := ⟨Tryz.isAgg36⟩
def zc36 : Array Value :=  #[Go.Value.int Go.IntKind.i64 0, Go.Value.int Go.IntKind.i64 0, Go.Value.int Go.IntKind.u32 0, Go.Value.int Go.IntKind.i64 0, Go.Value.int Go.IntKind.i64 0, Go.Value.int Go.IntKind.u8 0, Go.Value.bool Bool.false, Go.Value.bool Bool.false, Go.Value.int Go.IntKind.i64 0, Go.Value.int Go.IntKind.i64 0, Go.Value.int Go.IntKind.i64 0, Go.Value.int Go.IntKind.i64 0, Go.Value.slice Option.none 0 0, Go.Value.int Go.IntKind.i64 0, Go.Value.int Go.IntKind.i64 0, Go.Value.int Go.IntKind.i64 0, Go.Value.int Go.IntKind.i64 0, Go.Value.int Go.IntKind.i64 0, Go.Value.int Go.IntKind.i64 0, Go.Value.int Go.IntKind.i64 0, Go.Value.int Go.IntKind.i64 0, Go.Value.int Go.IntKind.i64 0, Go.Value.bool Bool.false, Go.Value.slice Option.none 0 0]
theorem zc36_size : zc36.size = 24 := rfl
instance : TZero Tryz.prog 36 (.agg zc36) := ⟨Tryz.zeroValue36⟩
theorem row36 : (Tryz.prog.info? 36).map (fun i => (i.size, i.bytes)) = some (24, 208) := by kernel_rfl
instance : TFld Tryz.prog 36 0 0 3 1 := ⟨⟨_, _, Tryz.underlying36, rfl, rfl, rfl, Tryz.sizeOf3, by decide⟩⟩
instance : TFld Tryz.prog 36 1 1 3 1 := ⟨⟨_, _, Tryz.underlying36, rfl, rfl, rfl, Tryz.sizeOf3, by decide⟩⟩
instance : TFld Tryz.prog 36 2 2 26 6 := ⟨⟨_, _, Tryz.underlying36, rfl, rfl, rfl, Tryz.sizeOf26, by decide⟩⟩
instance : TFld Tryz.prog 36 3 8 2 1 := ⟨⟨_, _, Tryz.underlying36, rfl, rfl, rfl, Tryz.sizeOf2, by decide⟩⟩
instance : TFld Tryz.prog 36 4 9 3 1 := ⟨⟨_, _, Tryz.underlying36, rfl, rfl, rfl, Tryz.sizeOf3, by decide⟩⟩
instance : TFld Tryz.prog 36 5 10 31 10 := ⟨⟨_, _, Tryz.underlying36, rfl, rfl, rfl, Tryz.sizeOf31, by decide⟩⟩
instance : TFld Tryz.prog 36 6 20 34 4 := ⟨⟨_, _, Tryz.underlying36, rfl, rfl, rfl, Tryz.sizeOf34, by decide⟩⟩
instance : TBuild Tryz.prog 36 zc36 [(0, 1), (1, 1), (2, 6), (8, 1), (9, 1), (10, 10), (20, 4)] := ⟨fun _ => by kernel_rfl⟩
instance : TSize Tryz.prog 37 29 := ⟨Tryz.sizeOf37⟩
instance : TAgg Tryz.prog 37 true := ⟨Tryz.isAgg37⟩
def zc37 : Array Value :=  #[Go.Value.int Go.IntKind.i64 0, Go.Value.int Go.IntKind.i64 0, Go.Value.bool Bool.false, Go.Value.int Go.IntKind.u64 0, Go.Value.int Go.IntKind.i64 0, Go.Value.int Go.IntKind.i64 0, Go.Value.int Go.IntKind.i64 0, Go.Value.int Go.IntKind.u32 0, Go.Value.int Go.IntKind.i64 0, Go.Value.int Go.IntKind.i64 0, Go.Value.int Go.IntKind.u8 0, Go.Value.bool Bool.false, Go.Value.bool Bool.false, Go.Value.int Go.IntKind.i64 0, Go.Value.int Go.IntKind.i64 0, Go.Value.int Go.IntKind.i64 0, Go.Value.int Go.IntKind.i64 0, Go.Value.slice Option.none 0 0, Go.Value.int Go.IntKind.i64 0, Go.Value.int Go.IntKind.i64 0, Go.Value.int Go.IntKind.i64 0, Go.Value.int Go.IntKind.i64 0, Go.Value.int Go.IntKind.i64 0, Go.Value.int Go.IntKind.i64 0, Go.Value.int Go.IntKind.i64 0, Go.Value.int Go.IntKind.i64 0, Go.Value.int Go.IntKind.i64 0, Go.Value.bool Bool.false, Go.Value.slice Option.none 0 0]
theorem zc37_size : zc37.size = 29 := rfl
instance : TZero Tryz.prog 37 (.agg zc37) := ⟨Tryz.zeroValue37⟩
theorem row37 : (Tryz.prog.info? 37).map (fun i => (i.size, i.bytes)) = some (29, 248) := by kernel_rfl
instance : TFld Tryz.prog 37 0 0 3 1 := ⟨⟨_, _, Tryz.underlying37, rfl, rfl, rfl, Tryz.sizeOf3, by decide⟩⟩
instance : TFld Tryz.prog 37 1 1 3 1 := ⟨⟨_, _, Tryz.underlying37, rfl, rfl, rfl, Tryz.sizeOf3, by decide⟩⟩
instance : TFld Tryz.prog 37 2 2 4 1 := ⟨⟨_, _, Tryz.underlying37, rfl, rfl, rfl, Tryz.sizeOf4, by decide⟩⟩
instance : TFld Tryz.prog 37 3 3 23 1 := ⟨⟨_, _, Tryz.underlying37, rfl, rfl, rfl, Tryz.sizeOf23, by decide⟩⟩
instance : TFld Tryz.prog 37 4 4 3 1 := ⟨⟨_, _, Tryz.underlying37, rfl, rfl, rfl, Tryz.sizeOf3, by decide⟩⟩
instance : TFld Tryz.prog 37 5 5 36 24 := ⟨⟨_, _, Tryz.underlying37, rfl, rfl, rfl, Tryz.sizeOf36, by decide⟩⟩
instance : TBuild Tryz.prog 37 zc37 [(0, 1), (1, 1), (2, 1), (3, 1), (4, 1), (5, 24)] := ⟨fun _ => by kernel_rfl⟩
instance : TSize Tryz.prog 38 29 := ⟨Tryz.sizeOf38⟩
instance : TAgg Tryz.prog 38 true := ⟨Tryz.isAgg38⟩
def zc38 : Array Value :=  #[Go.Value.int Go.IntKind.i64 0, Go.Value.int Go.IntKind.i64 0, Go.Value.bool Bool.false, Go.Value.int Go.IntKind.u64 0, Go.Value.int Go.IntKind.i64 0, Go.Value.int Go.IntKind.i64 0, Go.Value.int Go.IntKind.i64 0, Go.Value.int Go.IntKind.u32 0, Go.Value.int Go.IntKind.i64 0, Go.Value.int Go.IntKind.i64 0, Go.Value.int Go.IntKind.u8 0, Go.Value.bool Bool.false, Go.Value.bool Bool.false, Go.Value.int Go.IntKind.i64 0, Go.Value.int Go.IntKind.i64 0, Go.Value.int Go.IntKind.i64 0, Go.Value.int Go.IntKind.i64 0, Go.Value.slice Option.none 0 0, Go.Value.int Go.IntKind.i64 0, Go.Value.int Go.IntKind.i64 0, Go.Value.int Go.IntKind.i64 0, Go.Value.int Go.IntKind.i64 0, Go.Value.int Go.IntKind.i64 0, Go.Value.int Go.IntKind.i64 0, Go.Value.int Go.IntKind.i64 0, Go.Value.int Go.IntKind.i64 0, Go.Value.int Go.IntKind.i64 0, Go.Value.bool Bool.false, Go.Value.slice Option.none 0 0]
theorem zc38_size : zc38.size = 29 := rfl
instance : TZero Tryz.prog 38 (.agg zc38) := ⟨Tryz.zeroValue38⟩
theorem row38 : (Tryz.prog.info? 38).map (fun i => (i.size, i.bytes)) = some (29, 248) := by kernel_rfl
instance : TFld Tryz.prog 38 0 0 3 1 := ⟨⟨_, _, Tryz.underlying38, rfl, rfl, rfl, Tryz.sizeOf3, by decide⟩⟩
instance : TFld Tryz.prog 38 1 1 3 1 := ⟨⟨_, _, Tryz.underlying38, rfl, rfl, rfl, Tryz.sizeOf3, by decide⟩⟩
instance : TFld Tryz.prog 38 2 2 4 1 := ⟨⟨_, _, Tryz.underlying38, rfl, rfl, rfl, Tryz.sizeOf4, by decide⟩⟩
instance : TFld Tryz.prog 38 3 3 23 1 := ⟨⟨_, _, Tryz.underlying38, rfl, rfl, rfl, Tryz.sizeOf23, by decide⟩⟩
instance : TFld Tryz.prog 38 4 4 3 1 := ⟨⟨_, _, Tryz.underlying38, rfl, rfl, rfl, Tryz.sizeOf3, by decide⟩⟩
instance : TFld Tryz.prog 38 5 5 36 24 := ⟨⟨_, _, Tryz.underlying38, rfl, rfl, rfl, Tryz.sizeOf36, by decide⟩⟩
instance : TBuild Tryz.prog 38 zc38 [(0, 1), (1, 1), (2, 1), (3, 1), (4, 1), (5, 24)] := ⟨fun _ => by kernel_rfl⟩
instance : TSize Tryz.prog 39 1 := ⟨Tryz.sizeOf39⟩
instance : TAgg Tryz.prog 39 false := ⟨Tryz.isAgg39⟩
instance : TZero Tryz.prog 39 (Go.Value.nilFunc) := ⟨Tryz.zeroValue39⟩
theorem row39 : (Tryz.prog.info? 39).map (fun i => (i.size, i.bytes)) = some (1, 8) := by kernel_rfl
instance : TSize Tryz.prog 40 1 := ⟨Tryz.sizeOf40⟩
instance : TAgg Tryz.prog 40 false := ⟨Tryz.isAgg40⟩
instance : TZero Tryz.prog 40 (Go.Value.int Go.IntKind.i64 0) := ⟨Tryz.zeroValue40⟩
theorem row40 : (Tryz.prog.info? 40).map (fun i => (i.size, i.bytes)) = some (1, 8) := by kernel_rfl
instance : TUnd Tryz.prog 40 (.int Go.IntKind.i64) := ⟨Tryz.underlying40⟩
instance : TSize Tryz.prog 41 30 := ⟨Tryz.sizeOf41⟩
instance : TAgg Tryz.prog 41 true := ⟨Tryz.isAgg41⟩
def zc41 : Array Value :=  #[Go.Value.int Go.IntKind.i64 0, Go.Value.int Go.IntKind.i64 0, Go.Value.bool Bool.false, Go.Value.int Go.IntKind.u64 0, Go.Value.int Go.IntKind.i64 0, Go.Value.int Go.IntKind.i64 0, Go.Value.int Go.IntKind.i64 0, Go.Value.int Go.IntKind.u32 0, Go.Value.int Go.IntKind.i64 0, Go.Value.int Go.IntKind.i64 0, Go.Value.int Go.IntKind.u8 0, Go.Value.bool Bool.false, Go.Value.bool Bool.false, Go.Value.int Go.IntKind.i64 0, Go.Value.int Go.IntKind.i64 0, Go.Value.int Go.IntKind.i64 0, Go.Value.int Go.IntKind.i64 0, Go.Value.slice Option.none 0 0, Go.Value.int Go.IntKind.i64 0, Go.Value.int Go.IntKind.i64 0, Go.Value.int Go.IntKind.i64 0, Go.Value.int Go.IntKind.i64 0, Go.Value.int Go.IntKind.i64 0, Go.Value.int Go.IntKind.i64 0, Go.Value.int Go.IntKind.i64 0, Go.Value.int Go.IntKind.i64 0, Go.Value.int Go.IntKind.i64 0, Go.Value.bool Bool.false, Go.Value.slice Option.none 0 0, Go.Value.int Go.IntKind.i64 0]
theorem zc41_size : zc41.size = 30 := rfl
instance : TZero Tryz.prog 41 (.agg zc41) := ⟨Tryz.zeroValue41⟩
theorem row41 : (Tryz.prog.info? 41).map (fun i => (i.size, i.bytes)) = some (30, 256) := by kernel_rfl
instance : TFld Tryz.prog 41 0 0 38 29 := ⟨⟨_, _, Tryz.underlying41, rfl, rfl, rfl, Tryz.sizeOf38, by decide⟩⟩
instance : TFld Tryz.prog 41 1 29 40 1 := ⟨⟨_, _, Tryz.underlying41, rfl, rfl, rfl, Tryz.sizeOf40, by decide⟩⟩
instance : TBuild Tryz.prog 41 zc41 [(0, 29), (29, 1)] := ⟨fun _ => by kernel_rfl⟩
instance : TSize Tryz.prog 42 1 := ⟨Tryz.sizeOf42⟩
instance : TAgg Tryz.prog 42 false := ⟨Tryz.isAgg42⟩
instance : TZero Tryz.prog 42 (Go.Value.slice Option.none 0 0) := ⟨Tryz.zeroValue42⟩
theorem row42 : (Tryz.prog.info? 42).map (fun i => (i.size, i.bytes)) = some (1, 24) := by kernel_rfl
instance : TUnd Tryz.prog 42 (.slice 41) := ⟨Tryz.underlying42⟩
instance : TSize Tryz.prog 43 1 := ⟨Tryz.sizeOf43⟩
instance : TAgg Tryz.prog 43 false := ⟨Tryz.isAgg43⟩
instance : TZero Tryz.prog 43 (Go.Value.tuple #[Go.Value.string { data := #[] }, Go.Value.int Go.IntKind.i64 0]) := ⟨Tryz.zeroValue43⟩
theorem row43 : (Tryz.prog.info? 43).map (fun i => (i.size, i.bytes)) = some (1, 0) := by kernel_rfl
instance : TSize Tryz.prog 44 1 := ⟨Tryz.sizeOf44⟩
instance : TAgg Tryz.prog 44 false := ⟨Tryz.isAgg44⟩
instance : TZero Tryz.prog 44 (Go.Value.nilFunc) := ⟨Tryz.zeroValue44⟩
theorem row44 : (Tryz.prog.info? 44).map (fun i => (i.size, i.bytes)) = some (1, 8) := by kernel_rfl
instance : TSize Tryz.prog 45 1 := ⟨Tryz.sizeOf45⟩
instance : TAgg Tryz.prog 45 false := ⟨Tryz.isAgg45⟩
instance : TZero Tryz.prog 45 (Go.Value.nilIface) := ⟨Tryz.zeroValue45⟩
theorem row45 : (Tryz.prog.info? 45).map (fun i => (i.size, i.bytes)) = some (1, 16) := by kernel_rfl
instance : TUnd Tryz.prog 45 (Go.TypeDesc.interface #[("Error", 224)]) := ⟨Tryz.underlying45⟩
instance : TSize Tryz.prog 46 1 := ⟨Tryz.sizeOf46⟩
instance : TAgg Tryz.prog 46 false := ⟨Tryz.isAgg46⟩
instance : TZero Tryz.prog 46 (Go.Value.nilIface) := ⟨Tryz.zeroValue46⟩
theorem row46 : (Tryz.prog.info? 46).map (fun i => (i.size, i.bytes)) = some (1, 16) := by kernel_rfl
instance : TUnd Tryz.prog 46 (Go.TypeDesc.interface #[("Error", 224)]) := ⟨Tryz.underlying46⟩
instance : TSize Tryz.prog 47 1 := ⟨Tryz.sizeOf47⟩
instance : TAgg Tryz.prog 47 false := ⟨Tryz.isAgg47⟩
instance : TZero Tryz.prog 47 (Go.Value.tuple #[Go.Value.agg #[Go.Value.int Go.IntKind.i64 0, Go.Value.int Go.IntKind.i64 0, Go.Value.bool Bool.false, Go.Value.int Go.IntKind.u64 0, Go.Value.int Go.IntKind.i64 0, Go.Value.int Go.IntKind.i64 0, Go.Value.int Go.IntKind.i64 0, Go.Value.int Go.IntKind.u32 0, Go.Value.int Go.IntKind.i64 0, Go.Value.int Go.IntKind.i64 0, Go.Value.int Go.IntKind.u8 0, Go.Value.bool Bool.false, Go.Value.bool Bool.false, Go.Value.int Go.IntKind.i64 0, Go.Value.int Go.IntKind.i64 0, Go.Value.int Go.IntKind.i64 0, Go.Value.int Go.IntKind.i64 0, Go.Value.slice Option.none 0 0, Go.Value.int Go.IntKind.i64 0, Go.Value.int Go.IntKind.i64 0, Go.Value.int Go.IntKind.i64 0, Go.Value.int Go.IntKind.i64 0, Go.Value.int Go.IntKind.i64 0, Go.Value.int Go.IntKind.i64 0, Go.Value.int Go.IntKind.i64 0, Go.Value.int Go.IntKind.i64 0, Go.Value.int Go.IntKind.i64 0, Go.Value.bool Bool.false, Go.Value.slice Option.none 0 0], Go.Value.nilIface]) := ⟨Tryz.zeroValue47⟩
theorem row47 : (Tryz.prog.info? 47).map (fun i => (i.size, i.bytes)) = some (1, 0) := by kernel_rfl
instance : TSize Tryz.prog 48 1 := ⟨Tryz.sizeOf48⟩
instance : TAgg Tryz.prog 48 false := ⟨Tryz.isAgg48⟩
instance : TZero Tryz.prog 48 (Go.Value.nilFunc) := ⟨Tryz.zeroValue48⟩
theorem row48 : (Tryz.prog.info? 48).map (fun i => (i.size, i.bytes)) = some (1, 8) := by kernel_rfl
instance : TSize Tryz.prog 49 1 := ⟨Tryz.sizeOf49⟩
instance : TAgg Tryz.prog 49 false := ⟨Tryz.isAgg49⟩
instance : TZero Tryz.prog 49 (Go.Value.nilFunc) := ⟨Tryz.zeroValue49⟩
theorem row49 : (Tryz.prog.info? 49).map (fun i => (i.size, i.bytes)) = some (1, 8) := by kernel_rfl
instance : TSize Tryz.prog 50 2 := ⟨Tryz.sizeOf50⟩
instance : TAgg Tryz.prog 50 true := ⟨Tryz.isAgg50⟩
def zc50 : Array Value :=  #[Go.Value.int Go.IntKind.i64 0, Go.Value.int Go.IntKind.i64 0]
theorem zc50_size : zc50.size = 2 := rfl
instance : TZero Tryz.prog 50 (.agg zc50) := ⟨Tryz.zeroValue50⟩
theorem row50 : (Tryz.prog.info? 50).map (fun i => (i.size, i.bytes)) = some (2, 16) := by kernel_rfl
instance : TFld Tryz.prog 50 0 0 40 1 := ⟨⟨_, _, Tryz.underlying50, rfl, rfl, rfl, Tryz.sizeOf40, by decide⟩⟩
instance : TFld Tryz.prog 50 1 1 3 1 := ⟨⟨_, _, Tryz.underlying50, rfl, rfl, rfl, Tryz.sizeOf3, by decide⟩⟩
instance : TBuild Tryz.prog 50 zc50 [(0, 1), (1, 1)] := ⟨fun _ => by kernel_rfl⟩
instance : TSize Tryz.prog 51 2 := ⟨Tryz.sizeOf51⟩
instance : TAgg Tryz.prog 51 true := ⟨Tryz.isAgg51⟩
def zc51 : Array Value :=  #[Go.Value.int Go.IntKind.i64 0, Go.Value.int Go.IntKind.i64 0]
theorem zc51_size : zc51.size = 2 := rfl
instance : TZero Tryz.prog 51 (.agg zc51) := ⟨Tryz.zeroValue51⟩
theorem row51 : (Tryz.prog.info? 51).map (fun i => (i.size, i.bytes)) = some (2, 16) := by kernel_rfl
instance : TFld Tryz.prog 51 0 0 40 1 := ⟨⟨_, _, Tryz.underlying51, rfl, rfl, rfl, Tryz.sizeOf40, by decide⟩⟩
instance : TFld Tryz.prog 51 1 1 3 1 := ⟨⟨_, _, Tryz.underlying51, rfl, rfl, rfl, Tryz.sizeOf3, by decide⟩⟩
instance : TBuild Tryz.prog 51 zc51 [(0, 1), (1, 1)] := ⟨fun _ => by kernel_rfl⟩
instance : TSize Tryz.prog 52 1 := ⟨Tryz.sizeOf52⟩
instance : TAgg Tryz.prog 52 false := ⟨Tryz.isAgg52⟩
instance : TZero Tryz.prog 52 (Go.Value.nilFunc) := ⟨Tryz.zeroValue52⟩
theorem row52 : (Tryz.prog.info? 52).map (fun i => (i.size, i.bytes)) = some (1, 8) := by kernel_rfl
instance : TSize Tryz.prog 53 3 := ⟨Tryz.sizeOf53⟩
instance : TAgg Tryz.prog 53 true := ⟨Tryz.isAgg53⟩
def zc53 : Array Value :=  #[Go.Value.int Go.IntKind.i64 0, Go.Value.int Go.IntKind.i64 0, Go.Value.int Go.IntKind.i64 0]
theorem zc53_size : zc53.size = 3 := rfl
instance : TZero Tryz.prog 53 (.agg zc53) := ⟨Tryz.zeroValue53⟩
theorem row53 : (Tryz.prog.info? 53).map (fun i => (i.size, i.bytes)) = some (3, 24) := by kernel_rfl
instance : TUnd Tryz.prog 53 (.array 3 3) := ⟨Tryz.underlying53⟩
instance : TSize Tryz.prog 54 21 := ⟨Tryz.sizeOf54⟩
instance : TAgg Tryz.prog 54 true := ⟨Tryz.isAgg54⟩
def zc54 : Array Value :=  #[Go.Value.int Go.IntKind.i64 0, Go.Value.int Go.IntKind.i64 0, Go.Value.int Go.IntKind.i64 0, Go.Value.int Go.IntKind.i64 0, Go.Value.int Go.IntKind.i64 0, Go.Value.int Go.IntKind.i64 0, Go.Value.int Go.IntKind.i64 0, Go.Value.int Go.IntKind.i64 0, Go.Value.int Go.IntKind.i64 0, Go.Value.int Go.IntKind.i64 0, Go.Value.int Go.IntKind.i64 0, Go.Value.int Go.IntKind.i64 0, Go.Value.int Go.IntKind.i64 0, Go.Value.int Go.IntKind.i64 0, Go.Value.int Go.IntKind.i64 0, Go.Value.int Go.IntKind.i64 0, Go.Value.int Go.IntKind.i64 0, Go.Value.int Go.IntKind.i64 0, Go.Value.int Go.IntKind.i64 0, Go.Value.int Go.IntKind.i64 0, Go.Value.int Go.IntKind.i64 0]
theorem zc54_size : zc54.size = 21 := rfl
instance : TZero Tryz.prog 54 (.agg zc54) := ⟨Tryz.zeroValue54⟩
theorem row54 : (Tryz.prog.info? 54).map (fun i => (i.size, i.bytes)) = some (21, 168) := by kernel_rfl
instance : TUnd Tryz.prog 54 (.array 7 53) := ⟨Tryz.underlying54⟩
instance : TSize Tryz.prog 55 1 := ⟨Tryz.sizeOf55⟩
instance : TAgg Tryz.prog 55 false := ⟨Tryz.isAgg55⟩
instance : TZero Tryz.prog 55 (Go.Value.pointer Option.none) := ⟨Tryz.zeroValue55⟩
theorem row55 : (Tryz.prog.info? 55).map (fun i => (i.size, i.bytes)) = some (1, 8) := by kernel_rfl
instance : TUnd Tryz.prog 55 (.pointer 102) := ⟨Tryz.underlying55⟩
instance : TSize Tryz.prog 56 1 := ⟨Tryz.sizeOf56⟩
instance : TAgg Tryz.prog 56 false := ⟨Tryz.isAgg56⟩
instance : TZero Tryz.prog 56 (Go.Value.nilFunc) := ⟨Tryz.zeroValue56⟩
theorem row56 : (Tryz.prog.info? 56).map (fun i => (i.size, i.bytes)) = some (1, 8) := by kernel_rfl
instance : TSize Tryz.prog 57 1 := ⟨Tryz.sizeOf57⟩
instance : TAgg Tryz.prog 57 false := ⟨Tryz.isAgg57⟩
instance : TZero Tryz.prog 57 (Go.Value.pointer Option.none) := ⟨Tryz.zeroValue57⟩
theorem row57 : (Tryz.prog.info? 57).map (fun i => (i.size, i.bytes)) = some (1, 8) := by kernel_rfl
instance : TUnd Tryz.prog 57 (.pointer 109) := ⟨Tryz.underlying57⟩
instance : TSize Tryz.prog 58 1 := ⟨Tryz.sizeOf58⟩
instance : TAgg Tryz.prog 58 false := ⟨Tryz.isAgg58⟩
instance : TZero Tryz.prog 58 (Go.Value.nilFunc) := ⟨Tryz.zeroValue58⟩
theorem row58 : (Tryz.prog.info? 58).map (fun i => (i.size, i.bytes)) = some (1, 8) := by kernel_rfl
instance : TSize Tryz.prog 59 1 := ⟨Tryz.sizeOf59⟩
instance : TAgg Tryz.prog 59 false := ⟨Tryz.isAgg59⟩
instance : TZero Tryz.prog 59 (Go.Value.tuple #[Go.Value.string { data := #[] }, Go.Value.bool Bool.false]) := ⟨Tryz.zeroValue59⟩
theorem row59 : (Tryz.prog.info? 59).map (fun i => (i.size, i.bytes)) = some (1, 0) := by kernel_rfl
instance : TSize Tryz.prog 60 1 := ⟨Tryz.sizeOf60⟩
instance : TAgg Tryz.prog 60 false := ⟨Tryz.isAgg60⟩
instance : TZero Tryz.prog 60 (Go.Value.nilFunc) := ⟨Tryz.zeroValue60⟩
theorem row60 : (Tryz.prog.info? 60).map (fun i => (i.size, i.bytes)) = some (1, 8) := by kernel_rfl
instance : TSize Tryz.prog 61 1 := ⟨Tryz.sizeOf61⟩
instance : TAgg Tryz.prog 61 false := ⟨Tryz.isAgg61⟩
instance : TZero Tryz.prog 61 (Go.Value.nilFunc) := ⟨Tryz.zeroValue61⟩
theorem row61 : (Tryz.prog.info? 61).map (fun i => (i.size, i.bytes)) = some (1, 8) := by kernel_rfl
instance : TSize Tryz.prog 62 1 := ⟨Tryz.sizeOf62⟩
instance : TAgg Tryz.prog 62 false := ⟨Tryz.isAgg62⟩
instance : TZero Tryz.prog 62 (Go.Value.tuple #[Go.Value.agg #[Go.Value.int Go.IntKind.i64 0, Go.Value.int Go.IntKind.i64 0, Go.Value.int Go.IntKind.u32 0, Go.Value.int Go.IntKind.i64 0, Go.Value.int Go.IntKind.i64 0, Go.Value.int Go.IntKind.u8 0, Go.Value.bool Bool.false, Go.Value.bool Bool.false, Go.Value.int Go.IntKind.i64 0, Go.Value.int Go.IntKind.i64 0, Go.Value.int Go.IntKind.i64 0, Go.Value.int Go.IntKind.i64 0, Go.Value.slice Option.none 0 0, Go.Value.int Go.IntKind.i64 0, Go.Value.int Go.IntKind.i64 0, Go.Value.int Go.IntKind.i64 0, Go.Value.int Go.IntKind.i64 0, Go.Value.int Go.IntKind.i64 0, Go.Value.int Go.IntKind.i64 0, Go.Value.int Go.IntKind.i64 0, Go.Value.int Go.IntKind.i64 0, Go.Value.int Go.IntKind.i64 0, Go.Value.bool Bool.false, Go.Value.slice Option.none 0 0], Go.Value.bool Bool.false]) := ⟨Tryz.zeroValue62⟩
theorem row62 : (Tryz.prog.info? 62).map (fun i => (i.size, i.bytes)) = some (1, 0) := by kernel_rfl
instance : TSize Tryz.prog 63 1 := ⟨Tryz.sizeOf63⟩
instance : TAgg Tryz.prog 63 false := ⟨Tryz.isAgg63⟩
instance : TZero Tryz.prog 63 (Go.Value.nilFunc) := ⟨Tryz.zeroValue63⟩
theorem row63 : (Tryz.prog.info? 63).map (fun i => (i.size, i.bytes)) = some (1, 8) := by kernel_rfl
instance : TSize Tryz.prog 64 1 := ⟨Tryz.sizeOf64⟩
instance : TAgg Tryz.prog 64 false := ⟨Tryz.isAgg64⟩
instance : TZero Tryz.prog 64 (Go.Value.nilFunc) := ⟨Tryz.zeroValue64⟩
theorem row64 : (Tryz.prog.info? 64).map (fun i => (i.size, i.bytes)) = some (1, 8) := by kernel_rfl
instance : TSize Tryz.prog 65 1 := ⟨Tryz.sizeOf65⟩
instance : TAgg Tryz.prog 65 false := ⟨Tryz.isAgg65⟩
instance : TZero Tryz.prog 65 (Go.Value.nilFunc) := ⟨Tryz.zeroValue65⟩
theorem row65 : (Tryz.prog.info? 65).map (fun i => (i.size, i.bytes)) = some (1, 8) := by kernel_rfl
instance : TSize Tryz.prog 66 1 := ⟨Tryz.sizeOf66⟩
instance : TAgg Tryz.prog 66 false := ⟨Tryz.isAgg66⟩
instance : TZero Tryz.prog 66 (Go.Value.nilFunc) := ⟨Tryz.zeroValue66⟩
theorem row66 : (Tryz.prog.info? 66).map (fun i => (i.size, i.bytes)) = some (1, 8) := by kernel_rfl
instance : TSize Tryz.prog 67 1 := ⟨Tryz.sizeOf67⟩
instance : TAgg Tryz.prog 67 false := ⟨Tryz.isAgg67⟩
instance : TZero Tryz.prog 67 (Go.Value.nilFunc) := ⟨Tryz.zeroValue67⟩
theorem row67 : (Tryz.prog.info? 67).map (fun i => (i.size, i.bytes)) = some (1, 8) := by kernel_rfl
instance : TSize Tryz.prog 68 1 := ⟨Tryz.sizeOf68⟩
instance : TAgg Tryz.prog 68 false := ⟨Tryz.isAgg68⟩
instance : TZero Tryz.prog 68 (Go.Value.nilFunc) := ⟨Tryz.zeroValue68⟩
theorem row68 : (Tryz.prog.info? 68).map (fun i => (i.size, i.bytes)) = some (1, 8) := by kernel_rfl
instance : TSize Tryz.prog 69 3 := ⟨Tryz.sizeOf69⟩
instance : TAgg Tryz.prog 69 true := ⟨Tryz.isAgg69⟩
def zc69 : Array Value :=  #[Go.Value.int Go.IntKind.i64 0, Go.Value.int Go.IntKind.i64 0, Go.Value.bool Bool.false]
theorem zc69_size : zc69.size = 3 := rfl
instance : TZero Tryz.prog 69 (.agg zc69) := ⟨Tryz.zeroValue69⟩
theorem row69 : (Tryz.prog.info? 69).map (fun i => (i.size, i.bytes)) = some (3, 24) := by kernel_rfl
instance : TFld Tryz.prog 69 0 0 3 1 := ⟨⟨_, _, Tryz.underlying69, rfl, rfl, rfl, Tryz.sizeOf3, by decide⟩⟩
instance : TFld Tryz.prog 69 1 1 3 1 := ⟨⟨_, _, Tryz.underlying69, rfl, rfl, rfl, Tryz.sizeOf3, by decide⟩⟩
instance : TFld Tryz.prog 69 2 2 4 1 := ⟨⟨_, _, Tryz.underlying69, rfl, rfl, rfl, Tryz.sizeOf4, by decide⟩⟩
instance : TBuild Tryz.prog 69 zc69 [(0, 1), (1, 1), (2, 1)] := ⟨fun _ => by kernel_rfl⟩
instance : TSize Tryz.prog 70 3 := ⟨Tryz.sizeOf70⟩
instance : TAgg Tryz.prog 70 true := ⟨Tryz.isAgg70⟩
def zc70 : Array Value :=  #[Go.Value.int Go.IntKind.i64 0, Go.Value.int Go.IntKind.i64 0, Go.Value.bool Bool.false]
theorem zc70_size : zc70.size = 3 := rfl
instance : TZero Tryz.prog 70 (.agg zc70) := ⟨Tryz.zeroValue70⟩
theorem row70 : (Tryz.prog.info? 70).map (fun i => (i.size, i.bytes)) = some (3, 24) := by kernel_rfl
instance : TFld Tryz.prog 70 0 0 3 1 := ⟨⟨_, _, Tryz.underlying70, rfl, rfl, rfl, Tryz.sizeOf3, by decide⟩⟩
instance : TFld Tryz.prog 70 1 1 3 1 := ⟨⟨_, _, Tryz.underlying70, rfl, rfl, rfl, Tryz.sizeOf3, by decide⟩⟩
instance : TFld Tryz.prog 70 2 2 4 1 := ⟨⟨_, _, Tryz.underlying70, rfl, rfl, rfl, Tryz.sizeOf4, by decide⟩⟩
instance : TBuild Tryz.prog 70 zc70 [(0, 1), (1, 1), (2, 1)] := ⟨fun _ => by kernel_rfl⟩
instance : TSize Tryz.prog 71 9 := ⟨Tryz.sizeOf71⟩
instance : TAgg Tryz.prog 71 true := ⟨Tryz.isAgg71⟩
def zc71 : Array Value :=  #[Go.Value.int Go.IntKind.i64 0, Go.Value.int Go.IntKind.i64 0, Go.Value.bool Bool.false, Go.Value.int Go.IntKind.i64 0, Go.Value.int Go.IntKind.i64 0, Go.Value.bool Bool.false, Go.Value.int Go.IntKind.i64 0, Go.Value.int Go.IntKind.i64 0, Go.Value.bool Bool.false]
theorem zc71_size : zc71.size = 9 := rfl
instance : TZero Tryz.prog 71 (.agg zc71) := ⟨Tryz.zeroValue71⟩
theorem row71 : (Tryz.prog.info? 71).map (fun i => (i.size, i.bytes)) = some (9, 72) := by kernel_rfl
instance : TUnd Tryz.prog 71 (.array 3 70) := ⟨Tryz.underlying71⟩
instance : TSize Tryz.prog 72 1 := ⟨Tryz.sizeOf72⟩
instance : TAgg Tryz.prog 72 false := ⟨Tryz.isAgg72⟩
instance : TZero Tryz.prog 72 (Go.Value.slice Option.none 0 0) := ⟨Tryz.zeroValue72⟩
theorem row72 : (Tryz.prog.info? 72).map (fun i => (i.size, i.bytes)) = some (1, 24) := by kernel_rfl
instance : TUnd Tryz.prog 72 (.slice 5) := ⟨Tryz.underlying72⟩
instance : TSize Tryz.prog 73 1 := ⟨Tryz.sizeOf73⟩
instance : TAgg Tryz.prog 73 false := ⟨Tryz.isAgg73⟩
instance : TZero Tryz.prog 73 (Go.Value.nilFunc) := ⟨Tryz.zeroValue73⟩
theorem row73 : (Tryz.prog.info? 73).map (fun i => (i.size, i.bytes)) = some (1, 8) := by kernel_rfl
instance : TSize Tryz.prog 74 1 := ⟨Tryz.sizeOf74⟩
instance : TAgg Tryz.prog 74 false := ⟨Tryz.isAgg74⟩
instance : TZero Tryz.prog 74 (Go.Value.nilFunc) := ⟨Tryz.zeroValue74⟩
theorem row74 : (Tryz.prog.info? 74).map (fun i => (i.size, i.bytes)) = some (1, 8) := by kernel_rfl
instance : TSize Tryz.prog 75 1 := ⟨Tryz.sizeOf75⟩
instance : TAgg Tryz.prog 75 false := ⟨Tryz.isAgg75⟩
instance : TZero Tryz.prog 75 (Go.Value.nilFunc) := ⟨Tryz.zeroValue75⟩
theorem row75 : (Tryz.prog.info? 75).map (fun i => (i.size, i.bytes)) = some (1, 8) := by kernel_rfl
instance : TSize Tryz.prog 76 1 := ⟨Tryz.sizeOf76⟩
instance : TAgg Tryz.prog 76 false := ⟨Tryz.isAgg76⟩
instance : TZero Tryz.prog 76 (Go.Value.pointer Option.none) := ⟨Tryz.zeroValue76⟩
theorem row76 : (Tryz.prog.info? 76).map (fun i => (i.size, i.bytes)) = some (1, 8) := by kernel_rfl
instance : TUnd Tryz.prog 76 (.pointer 124) := ⟨Tryz.underlying76⟩
instance : TSize Tryz.prog 77 1 := ⟨Tryz.sizeOf77⟩
instance : TAgg Tryz.prog 77 false := ⟨Tryz.isAgg77⟩
instance : TZero Tryz.prog 77 (Go.Value.nilFunc) := ⟨Tryz.zeroValue77⟩
theorem row77 : (Tryz.prog.info? 77).map (fun i => (i.size, i.bytes)) = some (1, 8) := by kernel_rfl
instance : TSize Tryz.prog 78 1 := ⟨Tryz.sizeOf78⟩
instance : TAgg Tryz.prog 78 false := ⟨Tryz.isAgg78⟩
instance : TZero Tryz.prog 78 (Go.Value.nilFunc) := ⟨Tryz.zeroValue78⟩
theorem row78 : (Tryz.prog.info? 78).map (fun i => (i.size, i.bytes)) = some (1, 8) := by kernel_rfl
instance : TSize Tryz.prog 79 1 := ⟨Tryz.sizeOf79⟩
instance : TAgg Tryz.prog 79 false := ⟨Tryz.isAgg79⟩
instance : TZero Tryz.prog 79 (Go.Value.nilFunc) := ⟨Tryz.zeroValue79⟩
theorem row79 : (Tryz.prog.info? 79).map (fun i => (i.size, i.bytes)) = some (1, 8) := by kernel_rfl
instance : TSize Tryz.prog 80 1 := ⟨Tryz.sizeOf80⟩
instance : TAgg Tryz.prog 80 false := ⟨Tryz.isAgg80⟩
instance : TZero Tryz.prog 80 (Go.Value.pointer Option.none) := ⟨Tryz.zeroValue80⟩
theorem row80 : (Tryz.prog.info? 80).map (fun i => (i.size, i.bytes)) = some (1, 8) := by kernel_rfl
instance : TUnd Tryz.prog 80 (.pointer 3) := ⟨Tryz.underlying80⟩
instance : TSize Tryz.prog 81 1 := ⟨Tryz.sizeOf81⟩
instance : TAgg Tryz.prog 81 false := ⟨Tryz.isAgg81⟩
instance : TZero Tryz.prog 81 (Go.Value.tuple #[Go.Value.agg #[Go.Value.int Go.IntKind.i64 0, Go.Value.int Go.IntKind.i64 0, Go.Value.int Go.IntKind.u32 0, Go.Value.int Go.IntKind.i64 0, Go.Value.int Go.IntKind.i64 0, Go.Value.int Go.IntKind.u8 0, Go.Value.bool Bool.false, Go.Value.bool Bool.false, Go.Value.int Go.IntKind.i64 0, Go.Value.int Go.IntKind.i64 0, Go.Value.int Go.IntKind.i64 0, Go.Value.int Go.IntKind.i64 0, Go.Value.slice Option.none 0 0, Go.Value.int Go.IntKind.i64 0, Go.Value.int Go.IntKind.i64 0, Go.Value.int Go.IntKind.i64 0, Go.Value.int Go.IntKind.i64 0, Go.Value.int Go.IntKind.i64 0, Go.Value.int Go.IntKind.i64 0, Go.Value.int Go.IntKind.i64 0, Go.Value.int Go.IntKind.i64 0, Go.Value.int Go.IntKind.i64 0, Go.Value.bool Bool.false, Go.Value.slice Option.none 0 0], Go.Value.nilIface]) := ⟨Tryz.zeroValue81⟩
theorem row81 : (Tryz.prog.info? 81).map (fun i => (i.size, i.bytes)) = some (1, 0) := by kernel_rfl
instance : TSize Tryz.prog 82 1 := ⟨Tryz.sizeOf82⟩
instance : TAgg Tryz.prog 82 false := ⟨Tryz.isAgg82⟩
instance : TZero Tryz.prog 82 (Go.Value.nilFunc) := ⟨Tryz.zeroValue82⟩
theorem row82 : (Tryz.prog.info? 82).map (fun i => (i.size, i.bytes)) = some (1, 8) := by kernel_rfl
instance : TSize Tryz.prog 83 1 := ⟨Tryz.sizeOf83⟩
instance : TAgg Tryz.prog 83 false := ⟨Tryz.isAgg83⟩
instance : TZero Tryz.prog 83 (Go.Value.tuple #[Go.Value.bool Bool.false, Go.Value.nilIface]) := ⟨Tryz.zeroValue83⟩
theorem row83 : (Tryz.prog.info? 83).map (fun i => (i.size, i.bytes)) = some (1, 0) := by kernel_rfl
instance : TSize Tryz.prog 84 1 := ⟨Tryz.sizeOf84⟩
instance : TAgg Tryz.prog 84 false := ⟨Tryz.isAgg84⟩
instance : TZero Tryz.prog 84 (Go.Value.nilFunc) := ⟨Tryz.zeroValue84⟩
theorem row84 : (Tryz.prog.info? 84).map (fun i => (i.size, i.bytes)) = some (1, 8) := by kernel_rfl
instance : TSize Tryz.prog 85 1 := ⟨Tryz.sizeOf85⟩
instance : TAgg Tryz.prog 85 false := ⟨Tryz.isAgg85⟩
instance : TZero Tryz.prog 85 (Go.Value.tuple #[Go.Value.int Go.IntKind.u64 0, Go.Value.nilIface]) := ⟨Tryz.zeroValue85⟩
theorem row85 : (Tryz.prog.info? 85).map (fun i => (i.size, i.bytes)) = some (1, 0) := by kernel_rfl
instance : TSize Tryz.prog 86 1 := ⟨Tryz.sizeOf86⟩
instance : TAgg Tryz.prog 86 false := ⟨Tryz.isAgg86⟩
instance : TZero Tryz.prog 86 (Go.Value.nilFunc) := ⟨Tryz.zeroValue86⟩
theorem row86 : (Tryz.prog.info? 86).map (fun i => (i.size, i.bytes)) = some (1, 8) := by kernel_rfl
instance : TSize Tryz.prog 87 1 := ⟨Tryz.sizeOf87⟩
instance : TAgg Tryz.prog 87 false := ⟨Tryz.isAgg87⟩
instance : TZero Tryz.prog 87 (Go.Value.slice Option.none 0 0) := ⟨Tryz.zeroValue87⟩
theorem row87 : (Tryz.prog.info? 87).map (fun i => (i.size, i.bytes)) = some (1, 24) := by kernel_rfl
instance : TUnd Tryz.prog 87 (.slice 78) := ⟨Tryz.underlying87⟩
instance : TSize Tryz.prog 88 1 := ⟨Tryz.sizeOf88⟩
instance : TAgg Tryz.prog 88 false := ⟨Tryz.isAgg88⟩
instance : TZero Tryz.prog 88 (Go.Value.pointer Option.none) := ⟨Tryz.zeroValue88⟩
theorem row88 : (Tryz.prog.info? 88).map (fun i => (i.size, i.bytes)) = some (1, 8) := by kernel_rfl
instance : TUnd Tryz.prog 88 (.pointer 51) := ⟨Tryz.underlying88⟩
instance : TSize Tryz.prog 89 1 := ⟨Tryz.sizeOf89⟩
instance : TAgg Tryz.prog 89 false := ⟨Tryz.isAgg89⟩
instance : TZero Tryz.prog 89 (Go.Value.nilFunc) := ⟨Tryz.zeroValue89⟩
theorem row89 : (Tryz.prog.info? 89).map (fun i => (i.size, i.bytes)) = some (1, 8) := by kernel_rfl
instance : TSize Tryz.prog 90 1 := ⟨Tryz.sizeOf90⟩
instance : TAgg Tryz.prog 90 false := ⟨Tryz.isAgg90⟩
instance : TZero Tryz.prog 90 (Go.Value.pointer Option.none) := ⟨Tryz.zeroValue90⟩
theorem row90 : (Tryz.prog.info? 90).map (fun i => (i.size, i.bytes)) = some (1, 8) := by kernel_rfl
instance : TUnd Tryz.prog 90 (.pointer 88) := ⟨Tryz.underlying90⟩
instance : TSize Tryz.prog 91 1 := ⟨Tryz.sizeOf91⟩
instance : TAgg Tryz.prog 91 false := ⟨Tryz.isAgg91⟩
instance : TZero Tryz.prog 91 (Go.Value.nilFunc) := ⟨Tryz.zeroValue91⟩
theorem row91 : (Tryz.prog.info? 91).map (fun i => (i.size, i.bytes)) = some (1, 8) := by kernel_rfl
instance : TSize Tryz.prog 92 1 := ⟨Tryz.sizeOf92⟩
instance : TAgg Tryz.prog 92 false := ⟨Tryz.isAgg92⟩
instance : TZero Tryz.prog 92 (Go.Value.nilFunc) := ⟨Tryz.zeroValue92⟩
theorem row92 : (Tryz.prog.info? 92).map (fun i => (i.size, i.bytes)) = some (1, 8) := by kernel_rfl
instance : TSize Tryz.prog 93 1 := ⟨Tryz.sizeOf93⟩
instance : TAgg Tryz.prog 93 false := ⟨Tryz.isAgg93⟩
instance : TZero Tryz.prog 93 (Go.Value.pointer Option.none) := ⟨Tryz.zeroValue93⟩
theorem row93 : (Tryz.prog.info? 93).map (fun i => (i.size, i.bytes)) = some (1, 8) := by kernel_rfl
instance : TUnd Tryz.prog 93 (.pointer 148) := ⟨Tryz.underlying93⟩
instance : TSize Tryz.prog 94 1 := ⟨Tryz.sizeOf94⟩
instance : TAgg Tryz.prog 94 false := ⟨Tryz.isAgg94⟩
instance : TZero Tryz.prog 94 (Go.Value.nilFunc) := ⟨Tryz.zeroValue94⟩
theorem row94 : (Tryz.prog.info? 94).map (fun i => (i.size, i.bytes)) = some (1, 8) := by kernel_rfl
instance : TSize Tryz.prog 95 1 := ⟨Tryz.sizeOf95⟩
instance : TAgg Tryz.prog 95 false := ⟨Tryz.isAgg95⟩
instance : TZero Tryz.prog 95 (Go.Value.nilFunc) := ⟨Tryz.zeroValue95⟩
theorem row95 : (Tryz.prog.info? 95).map (fun i => (i.size, i.bytes)) = some (1, 8) := by kernel_rfl
instance : TSize Tryz.prog 96 2 := ⟨Tryz.sizeOf96⟩
instance : TAgg Tryz.prog 96 true := ⟨Tryz.isAgg96⟩
def zc96 : Array Value :=  #[Go.Value.int Go.IntKind.i64 0, Go.Value.int Go.IntKind.i64 0]
theorem zc96_size : zc96.size = 2 := rfl
instance : TZero Tryz.prog 96 (.agg zc96) := ⟨Tryz.zeroValue96⟩
theorem row96 : (Tryz.prog.info? 96).map (fun i => (i.size, i.bytes)) = some (2, 16) := by kernel_rfl
instance : TFld Tryz.prog 96 0 0 3 1 := ⟨⟨_, _, Tryz.underlying96, rfl, rfl, rfl, Tryz.sizeOf3, by decide⟩⟩
instance : TFld Tryz.prog 96 1 1 3 1 := ⟨⟨_, _, Tryz.underlying96, rfl, rfl, rfl, Tryz.sizeOf3, by decide⟩⟩
instance : TBuild Tryz.prog 96 zc96 [(0, 1), (1, 1)] := ⟨fun _ => by kernel_rfl⟩
instance : TSize Tryz.prog 97 2 := ⟨Tryz.sizeOf97⟩
instance : TAgg Tryz.prog 97 true := ⟨Tryz.isAgg97⟩
def zc97 : Array Value :=  #[Go.Value.int Go.IntKind.i64 0, Go.Value.int Go.IntKind.i64 0]
theorem zc97_size : zc97.size = 2 := rfl
instance : TZero Tryz.prog 97 (.agg zc97) := ⟨Tryz.zeroValue97⟩
theorem row97 : (Tryz.prog.info? 97).map (fun i => (i.size, i.bytes)) = some (2, 16) := by kernel_rfl
instance : TFld Tryz.prog 97 0 0 3 1 := ⟨⟨_, _, Tryz.underlying97, rfl, rfl, rfl, Tryz.sizeOf3, by decide⟩⟩
instance : TFld Tryz.prog 97 1 1 3 1 := ⟨⟨_, _, Tryz.underlying97, rfl, rfl, rfl, Tryz.sizeOf3, by decide⟩⟩
instance : TBuild Tryz.prog 97 zc97 [(0, 1), (1, 1)] := ⟨fun _ => by kernel_rfl⟩
instance : TSize Tryz.prog 98 1 := ⟨Tryz.sizeOf98⟩
instance : TAgg Tryz.prog 98 false := ⟨Tryz.isAgg98⟩
instance : TZero Tryz.prog 98 (Go.Value.pointer Option.none) := ⟨Tryz.zeroValue98⟩
theorem row98 : (Tryz.prog.info? 98).map (fun i => (i.size, i.bytes)) = some (1, 8) := by kernel_rfl
instance : TUnd Tryz.prog 98 (.pointer 100) := ⟨Tryz.underlying98⟩
instance : TSize Tryz.prog 99 1 := ⟨Tryz.sizeOf99⟩
instance : TAgg Tryz.prog 99 true := ⟨Tryz.isAgg99⟩
def zc99 : Array Value :=  #[Go.Value.pointer Option.none]
theorem zc99_size : zc99.size = 1 := rfl
instance : TZero Tryz.prog 99 (.agg zc99) := ⟨Tryz.zeroValue99⟩
theorem row99 : (Tryz.prog.info? 99).map (fun i => (i.size, i.bytes)) = some (1, 8) := by kernel_rfl
instance : TFld Tryz.prog 99 0 0 93 1 := ⟨⟨_, _, Tryz.underlying99, rfl, rfl, rfl, Tryz.sizeOf93, by decide⟩⟩
instance : TBuild Tryz.prog 99 zc99 [(0, 1)] := ⟨fun _ => by kernel_rfl⟩
instance : TSize Tryz.prog 100 1 := ⟨Tryz.sizeOf100⟩
instance : TAgg Tryz.prog 100 true := ⟨Tryz.isAgg100⟩
def zc100 : Array Value :=  #[Go.Value.pointer Option.none]
theorem zc100_size : zc100.size = 1 := rfl
instance : TZero Tryz.prog 100 (.agg zc100) := ⟨Tryz.zeroValue100⟩
theorem row100 : (Tryz.prog.info? 100).map (fun i => (i.size, i.bytes)) = some (1, 8) := by kernel_rfl
instance : TFld Tryz.prog 100 0 0 93 1 := ⟨⟨_, _, Tryz.underlying100, rfl, rfl, rfl, Tryz.sizeOf93, by decide⟩⟩
instance : TBuild Tryz.prog 100 zc100 [(0, 1)] := ⟨fun _ => by kernel_rfl⟩
instance : TSize Tryz.prog 101 3 := ⟨Tryz.sizeOf101⟩
instance : TAgg Tryz.prog 101 true := ⟨Tryz.isAgg101⟩
def zc101 : Array Value :=  #[Go.Value.int Go.IntKind.i64 0, Go.Value.int Go.IntKind.i64 0, Go.Value.pointer Option.none]
theorem zc101_size : zc101.size = 3 := rfl
instance : TZero Tryz.prog 101 (.agg zc101) := ⟨Tryz.zeroValue101⟩
theorem row101 : (Tryz.prog.info? 101).map (fun i => (i.size, i.bytes)) = some (3, 24) := by kernel_rfl
instance : TFld Tryz.prog 101 0 0 97 2 := ⟨⟨_, _, Tryz.underlying101, rfl, rfl, rfl, Tryz.sizeOf97, by decide⟩⟩
instance : TFld Tryz.prog 101 1 2 98 1 := ⟨⟨_, _, Tryz.underlying101, rfl, rfl, rfl, Tryz.sizeOf98, by decide⟩⟩
instance : TBuild Tryz.prog 101 zc101 [(0, 2), (2, 1)] := ⟨fun _ => by kernel_rfl⟩
instance : TSize Tryz.prog 102 3 := ⟨Tryz.sizeOf102⟩
instance : TAgg Tryz.prog 102 true := ⟨Tryz.isAgg102⟩
def zc102 : Array Value :=  #[Go.Value.int Go.IntKind.i64 0, Go.Value.int Go.IntKind.i64 0, Go.Value.pointer Option.none]
theorem zc102_size : zc102.size = 3 := rfl
instance : TZero Tryz.prog 102 (.agg zc102) := ⟨Tryz.zeroValue102⟩
theorem row102 : (Tryz.prog.info? 102).map (fun i => (i.size, i.bytes)) = some (3, 24) := by kernel_rfl
instance : TFld Tryz.prog 102 0 0 97 2 := ⟨⟨_, _, Tryz.underlying102, rfl, rfl, rfl, Tryz.sizeOf97, by decide⟩⟩
instance : TFld Tryz.prog 102 1 2 98 1 := ⟨⟨_, _, Tryz.underlying102, rfl, rfl, rfl, Tryz.sizeOf98, by decide⟩⟩
instance : TBuild Tryz.prog 102 zc102 [(0, 2), (2, 1)] := ⟨fun _ => by kernel_rfl⟩
instance : TSize Tryz.prog 103 1 := ⟨Tryz.sizeOf103⟩
instance : TAgg Tryz.prog 103 false := ⟨Tryz.isAgg103⟩
instance : TZero Tryz.prog 103 (Go.Value.pointer Option.none) := ⟨Tryz.zeroValue103⟩
theorem row103 : (Tryz.prog.info? 103).map (fun i => (i.size, i.bytes)) = some (1, 8) := by kernel_rfl
instance : TUnd Tryz.prog 103 (.pointer 151) := ⟨Tryz.underlying103⟩
instance : TSize Tryz.prog 104 1 := ⟨Tryz.sizeOf104⟩
instance : TAgg Tryz.prog 104 false := ⟨Tryz.isAgg104⟩
instance : TZero Tryz.prog 104 (Go.Value.nilFunc) := ⟨Tryz.zeroValue104⟩
theorem row104 : (Tryz.prog.info? 104).map (fun i => (i.size, i.bytes)) = some (1, 8) := by kernel_rfl
instance : TSize Tryz.prog 105 1 := ⟨Tryz.sizeOf105⟩
instance : TAgg Tryz.prog 105 false := ⟨Tryz.isAgg105⟩
instance : TZero Tryz.prog 105 (Go.Value.pointer Option.none) := ⟨Tryz.zeroValue105⟩
theorem row105 : (Tryz.prog.info? 105).map (fun i => (i.size, i.bytes)) = some (1, 8) := by kernel_rfl
instance : TUnd Tryz.prog 105 (.pointer 107) := ⟨Tryz.underlying105⟩
instance : TSize Tryz.prog 106 1 := ⟨Tryz.sizeOf106⟩
instance : TAgg Tryz.prog 106 true := ⟨Tryz.isAgg106⟩
def zc106 : Array Value :=  #[Go.Value.pointer Option.none]
theorem zc106_size : zc106.size = 1 := rfl
instance : TZero Tryz.prog 106 (.agg zc106) := ⟨Tryz.zeroValue106⟩
theorem row106 : (Tryz.prog.info? 106).map (fun i => (i.size, i.bytes)) = some (1, 8) := by kernel_rfl
instance : TFld Tryz.prog 106 0 0 103 1 := ⟨⟨_, _, Tryz.underlying106, rfl, rfl, rfl, Tryz.sizeOf103, by decide⟩⟩
instance : TBuild Tryz.prog 106 zc106 [(0, 1)] := ⟨fun _ => by kernel_rfl⟩
instance : TSize Tryz.prog 107 1 := ⟨Tryz.sizeOf107⟩
instance : TAgg Tryz.prog 107 true := ⟨Tryz.isAgg107⟩
def zc107 : Array Value :=  #[Go.Value.pointer Option.none]
theorem zc107_size : zc107.size = 1 := rfl
instance : TZero Tryz.prog 107 (.agg zc107) := ⟨Tryz.zeroValue107⟩
theorem row107 : (Tryz.prog.info? 107).map (fun i => (i.size, i.bytes)) = some (1, 8) := by kernel_rfl
instance : TFld Tryz.prog 107 0 0 103 1 := ⟨⟨_, _, Tryz.underlying107, rfl, rfl, rfl, Tryz.sizeOf103, by decide⟩⟩
instance : TBuild Tryz.prog 107 zc107 [(0, 1)] := ⟨fun _ => by kernel_rfl⟩
instance : TSize Tryz.prog 108 3 := ⟨Tryz.sizeOf108⟩
instance : TAgg Tryz.prog 108 true := ⟨Tryz.isAgg108⟩
def zc108 : Array Value :=  #[Go.Value.int Go.IntKind.i64 0, Go.Value.int Go.IntKind.i64 0, Go.Value.pointer Option.none]
theorem zc108_size : zc108.size = 3 := rfl
instance : TZero Tryz.prog 108 (.agg zc108) := ⟨Tryz.zeroValue108⟩
theorem row108 : (Tryz.prog.info? 108).map (fun i => (i.size, i.bytes)) = some (3, 24) := by kernel_rfl
instance : TFld Tryz.prog 108 0 0 97 2 := ⟨⟨_, _, Tryz.underlying108, rfl, rfl, rfl, Tryz.sizeOf97, by decide⟩⟩
instance : TFld Tryz.prog 108 1 2 105 1 := ⟨⟨_, _, Tryz.underlying108, rfl, rfl, rfl, Tryz.sizeOf105, by decide⟩⟩
instance : TBuild Tryz.prog 108 zc108 [(0, 2), (2, 1)] := ⟨fun _ => by kernel_rfl⟩
instance : TSize Tryz.prog 109 3 := ⟨Tryz.sizeOf109⟩
instance : TAgg Tryz.prog 109 true := ⟨Tryz.isAgg109⟩
def zc109 : Array Value :=  #[Go.Value.int Go.IntKind.i64 0, Go.Value.int Go.IntKind.i64 0, Go.Value.pointer Option.none]
theorem zc109_size : zc109.size = 3 := rfl
instance : TZero Tryz.prog 109 (.agg zc109) := ⟨Tryz.zeroValue109⟩
theorem row109 : (Tryz.prog.info? 109).map (fun i => (i.size, i.bytes)) = some (3, 24) := by kernel_rfl
instance : TFld Tryz.prog 109 0 0 97 2 := ⟨⟨_, _, Tryz.underlying109, rfl, rfl, rfl, Tryz.sizeOf97, by decide⟩⟩
instance : TFld Tryz.prog 109 1 2 105 1 := ⟨⟨_, _, Tryz.underlying109, rfl, rfl, rfl, Tryz.sizeOf105, by decide⟩⟩
instance : TBuild Tryz.prog 109 zc109 [(0, 2), (2, 1)] := ⟨fun _ => by kernel_rfl⟩
instance : TSize Tryz.prog 110 1 := ⟨Tryz.sizeOf110⟩
instance : TAgg Tryz.prog 110 false := ⟨Tryz.isAgg110⟩
instance : TZero Tryz.prog 110 (Go.Value.tuple #[Go.Value.int Go.IntKind.u64 0, Go.Value.agg #[Go.Value.int Go.IntKind.i64 0, Go.Value.int Go.IntKind.i64 0, Go.Value.int Go.IntKind.u32 0, Go.Value.int Go.IntKind.i64 0, Go.Value.int Go.IntKind.i64 0, Go.Value.int Go.IntKind.u8 0, Go.Value.bool Bool.false, Go.Value.bool Bool.false, Go.Value.int Go.IntKind.i64 0, Go.Value.int Go.IntKind.i64 0, Go.Value.int Go.IntKind.i64 0, Go.Value.int Go.IntKind.i64 0, Go.Value.slice Option.none 0 0, Go.Value.int Go.IntKind.i64 0, Go.Value.int Go.IntKind.i64 0, Go.Value.int Go.IntKind.i64 0, Go.Value.int Go.IntKind.i64 0, Go.Value.int Go.IntKind.i64 0, Go.Value.int Go.IntKind.i64 0, Go.Value.int Go.IntKind.i64 0, Go.Value.int Go.IntKind.i64 0, Go.Value.int Go.IntKind.i64 0, Go.Value.bool Bool.false, Go.Value.slice Option.none 0 0], Go.Value.bool Bool.false]) := ⟨Tryz.zeroValue110⟩
theorem row110 : (Tryz.prog.info? 110).map (fun i => (i.size, i.bytes)) = some (1, 0) := by kernel_rfl
instance : TSize Tryz.prog 111 1 := ⟨Tryz.sizeOf111⟩
instance : TAgg Tryz.prog 111 false := ⟨Tryz.isAgg111⟩
instance : TZero Tryz.prog 111 (Go.Value.nilFunc) := ⟨Tryz.zeroValue111⟩
theorem row111 : (Tryz.prog.info? 111).map (fun i => (i.size, i.bytes)) = some (1, 8) := by kernel_rfl
instance : TSize Tryz.prog 112 1 := ⟨Tryz.sizeOf112⟩
instance : TAgg Tryz.prog 112 false := ⟨Tryz.isAgg112⟩
instance : TZero Tryz.prog 112 (Go.Value.tuple #[Go.Value.agg #[Go.Value.int Go.IntKind.i64 0, Go.Value.int Go.IntKind.i64 0, Go.Value.bool Bool.false, Go.Value.int Go.IntKind.u64 0, Go.Value.int Go.IntKind.i64 0, Go.Value.int Go.IntKind.i64 0, Go.Value.int Go.IntKind.i64 0, Go.Value.int Go.IntKind.u32 0, Go.Value.int Go.IntKind.i64 0, Go.Value.int Go.IntKind.i64 0, Go.Value.int Go.IntKind.u8 0, Go.Value.bool Bool.false, Go.Value.bool Bool.false, Go.Value.int Go.IntKind.i64 0, Go.Value.int Go.IntKind.i64 0, Go.Value.int Go.IntKind.i64 0, Go.Value.int Go.IntKind.i64 0, Go.Value.slice Option.none 0 0, Go.Value.int Go.IntKind.i64 0, Go.Value.int Go.IntKind.i64 0, Go.Value.int Go.IntKind.i64 0, Go.Value.int Go.IntKind.i64 0, Go.Value.int Go.IntKind.i64 0, Go.Value.int Go.IntKind.i64 0, Go.Value.int Go.IntKind.i64 0, Go.Value.int Go.IntKind.i64 0, Go.Value.int Go.IntKind.i64 0, Go.Value.bool Bool.false, Go.Value.slice Option.none 0 0], Go.Value.int Go.IntKind.i64 0]) := ⟨Tryz.zeroValue112⟩
theorem row112 : (Tryz.prog.info? 112).map (fun i => (i.size, i.bytes)) = some (1, 0) := by kernel_rfl
instance : TSize Tryz.prog 113 1 := ⟨Tryz.sizeOf113⟩
instance : TAgg Tryz.prog 113 false := ⟨Tryz.isAgg113⟩
instance : TZero Tryz.prog 113 (Go.Value.nilFunc) := ⟨Tryz.zeroValue113⟩
theorem row113 : (Tryz.prog.info? 113).map (fun i => (i.size, i.bytes)) = some (1, 8) := by kernel_rfl
instance : TSize Tryz.prog 114 1 := ⟨Tryz.sizeOf114⟩
instance : TAgg Tryz.prog 114 false := ⟨Tryz.isAgg114⟩
instance : TZero Tryz.prog 114 (Go.Value.nilFunc) := ⟨Tryz.zeroValue114⟩
theorem row114 : (Tryz.prog.info? 114).map (fun i => (i.size, i.bytes)) = some (1, 8) := by kernel_rfl
instance : TSize Tryz.prog 115 1 := ⟨Tryz.sizeOf115⟩
instance : TAgg Tryz.prog 115 false := ⟨Tryz.isAgg115⟩
instance : TZero Tryz.prog 115 (Go.Value.tuple #[Go.Value.int Go.IntKind.u64 0, Go.Value.int Go.IntKind.i64 0]) := ⟨Tryz.zeroValue115⟩
theorem row115 : (Tryz.prog.info? 115).map (fun i => (i.size, i.bytes)) = some (1, 0) := by kernel_rfl
instance : TSize Tryz.prog 116 1 := ⟨Tryz.sizeOf116⟩
instance : TAgg Tryz.prog 116 false := ⟨Tryz.isAgg116⟩
instance : TZero Tryz.prog 116 (Go.Value.nilFunc) := ⟨Tryz.zeroValue116⟩
theorem row116 : (Tryz.prog.info? 116).map (fun i => (i.size, i.bytes)) = some (1, 8) := by kernel_rfl
instance : TSize Tryz.prog 117 1 := ⟨Tryz.sizeOf117⟩
instance : TAgg Tryz.prog 117 false := ⟨Tryz.isAgg117⟩
instance : TZero Tryz.prog 117 (Go.Value.nilFunc) := ⟨Tryz.zeroValue117⟩
theorem row117 : (Tryz.prog.info? 117).map (fun i => (i.size, i.bytes)) = some (1, 8) := by kernel_rfl
instance : TSize Tryz.prog 118 1 := ⟨Tryz.sizeOf118⟩
instance : TAgg Tryz.prog 118 false := ⟨Tryz.isAgg118⟩
instance : TZero Tryz.prog 118 (Go.Value.nilFunc) := ⟨Tryz.zeroValue118⟩
theorem row118 : (Tryz.prog.info? 118).map (fun i => (i.size, i.bytes)) = some (1, 8) := by kernel_rfl
instance : TSize Tryz.prog 119 10 := ⟨Tryz.sizeOf119⟩
instance : TAgg Tryz.prog 119 true := ⟨Tryz.isAgg119⟩
def zc119 : Array Value :=  #[Go.Value.int Go.IntKind.u8 0, Go.Value.int Go.IntKind.u8 0, Go.Value.int Go.IntKind.u8 0, Go.Value.int Go.IntKind.u8 0, Go.Value.int Go.IntKind.u8 0, Go.Value.int Go.IntKind.u8 0, Go.Value.int Go.IntKind.u8 0, Go.Value.int Go.IntKind.u8 0, Go.Value.int Go.IntKind.u8 0, Go.Value.int Go.IntKind.u8 0]
theorem zc119_size : zc119.size = 10 := rfl
instance : TZero Tryz.prog 119 (.agg zc119) := ⟨Tryz.zeroValue119⟩
theorem row119 : (Tryz.prog.info? 119).map (fun i => (i.size, i.bytes)) = some (10, 10) := by kernel_rfl
instance : TUnd Tryz.prog 119 (.array 10 5) := ⟨Tryz.underlying119⟩
instance : TSize Tryz.prog 120 1 := ⟨Tryz.sizeOf120⟩
instance : TAgg Tryz.prog 120 false := ⟨Tryz.isAgg120⟩
instance : TZero Tryz.prog 120 (Go.Value.int Go.IntKind.u64 0) := ⟨Tryz.zeroValue120⟩
theorem row120 : (Tryz.prog.info? 120).map (fun i => (i.size, i.bytes)) = some (1, 8) := by kernel_rfl
instance : TUnd Tryz.prog 120 (.int Go.IntKind.u64) := ⟨Tryz.underlying120⟩
instance : TSize Tryz.prog 121 1 := ⟨Tryz.sizeOf121⟩
instance : TAgg Tryz.prog 121 false := ⟨Tryz.isAgg121⟩
instance : TZero Tryz.prog 121 (Go.Value.nilFunc) := ⟨Tryz.zeroValue121⟩
theorem row121 : (Tryz.prog.info? 121).map (fun i => (i.size, i.bytes)) = some (1, 8) := by kernel_rfl
instance : TSize Tryz.prog 122 1 := ⟨Tryz.sizeOf122⟩
instance : TAgg Tryz.prog 122 false := ⟨Tryz.isAgg122⟩
instance : TZero Tryz.prog 122 (Go.Value.nilFunc) := ⟨Tryz.zeroValue122⟩
theorem row122 : (Tryz.prog.info? 122).map (fun i => (i.size, i.bytes)) = some (1, 8) := by kernel_rfl
instance : TSize Tryz.prog 123 2 := ⟨Tryz.sizeOf123⟩
instance : TAgg Tryz.prog 123 true := ⟨Tryz.isAgg123⟩
def zc123 : Array Value :=  #[Go.Value.string { data := #[] }, Go.Value.int Go.IntKind.i64 0]
theorem zc123_size : zc123.size = 2 := rfl
instance : TZero Tryz.prog 123 (.agg zc123) := ⟨Tryz.zeroValue123⟩
theorem row123 : (Tryz.prog.info? 123).map (fun i => (i.size, i.bytes)) = some (2, 24) := by kernel_rfl
instance : TFld Tryz.prog 123 0 0 9 1 := ⟨⟨_, _, Tryz.underlying123, rfl, rfl, rfl, Tryz.sizeOf9, by decide⟩⟩
instance : TFld Tryz.prog 123 1 1 3 1 := ⟨⟨_, _, Tryz.underlying123, rfl, rfl, rfl, Tryz.sizeOf3, by decide⟩⟩
instance : TBuild Tryz.prog 123 zc123 [(0, 1), (1, 1)] := ⟨fun _ => by kernel_rfl⟩
instance : TSize Tryz.prog 124 2 := ⟨Tryz.sizeOf124⟩
instance : TAgg Tryz.prog 124 true := ⟨Tryz.isAgg124⟩
def zc124 : Array Value :=  #[Go.Value.string { data := #[] }, Go.Value.int Go.IntKind.i64 0]
theorem zc124_size : zc124.size = 2 := rfl
instance : TZero Tryz.prog 124 (.agg zc124) := ⟨Tryz.zeroValue124⟩
theorem row124 : (Tryz.prog.info? 124).map (fun i => (i.size, i.bytes)) = some (2, 24) := by kernel_rfl
instance : TFld Tryz.prog 124 0 0 9 1 := ⟨⟨_, _, Tryz.underlying124, rfl, rfl, rfl, Tryz.sizeOf9, by decide⟩⟩
instance : TFld Tryz.prog 124 1 1 3 1 := ⟨⟨_, _, Tryz.underlying124, rfl, rfl, rfl, Tryz.sizeOf3, by decide⟩⟩
instance : TBuild Tryz.prog 124 zc124 [(0, 1), (1, 1)] := ⟨fun _ => by kernel_rfl⟩
instance : TSize Tryz.prog 125 1 := ⟨Tryz.sizeOf125⟩
instance : TAgg Tryz.prog 125 false := ⟨Tryz.isAgg125⟩
instance : TZero Tryz.prog 125 (Go.Value.nilFunc) := ⟨Tryz.zeroValue125⟩
theorem row125 : (Tryz.prog.info? 125).map (fun i => (i.size, i.bytes)) = some (1, 8) := by kernel_rfl
instance : TSize Tryz.prog 126 1 := ⟨Tryz.sizeOf126⟩
instance : TAgg Tryz.prog 126 false := ⟨Tryz.isAgg126⟩
instance : TZero Tryz.prog 126 (Go.Value.nilFunc) := ⟨Tryz.zeroValue126⟩
theorem row126 : (Tryz.prog.info? 126).map (fun i => (i.size, i.bytes)) = some (1, 8) := by kernel_rfl
instance : TSize Tryz.prog 127 1 := ⟨Tryz.sizeOf127⟩
instance : TAgg Tryz.prog 127 false := ⟨Tryz.isAgg127⟩
instance : TZero Tryz.prog 127 (Go.Value.pointer Option.none) := ⟨Tryz.zeroValue127⟩
theorem row127 : (Tryz.prog.info? 127).map (fun i => (i.size, i.bytes)) = some (1, 8) := by kernel_rfl
instance : TUnd Tryz.prog 127 (.pointer 46) := ⟨Tryz.underlying127⟩
instance : TSize Tryz.prog 128 1 := ⟨Tryz.sizeOf128⟩
instance : TAgg Tryz.prog 128 false := ⟨Tryz.isAgg128⟩
instance : TZero Tryz.prog 128 (Go.Value.nilFunc) := ⟨Tryz.zeroValue128⟩
theorem row128 : (Tryz.prog.info? 128).map (fun i => (i.size, i.bytes)) = some (1, 8) := by kernel_rfl
instance : TSize Tryz.prog 129 1 := ⟨Tryz.sizeOf129⟩
instance : TAgg Tryz.prog 129 false := ⟨Tryz.isAgg129⟩
instance : TZero Tryz.prog 129 (Go.Value.nilFunc) := ⟨Tryz.zeroValue129⟩
theorem row129 : (Tryz.prog.info? 129).map (fun i => (i.size, i.bytes)) = some (1, 8) := by kernel_rfl
instance : TSize Tryz.prog 130 1 := ⟨Tryz.sizeOf130⟩
instance : TAgg Tryz.prog 130 false := ⟨Tryz.isAgg130⟩
instance : TZero Tryz.prog 130 (Go.Value.pointer Option.none) := ⟨Tryz.zeroValue130⟩
theorem row130 : (Tryz.prog.info? 130).map (fun i => (i.size, i.bytes)) = some (1, 8) := by kernel_rfl
instance : TSize Tryz.prog 131 1 := ⟨Tryz.sizeOf131⟩
instance : TAgg Tryz.prog 131 false := ⟨Tryz.isAgg131⟩
instance : TZero Tryz.prog 131 (Go.Value.int Go.IntKind.u64 0) := ⟨Tryz.zeroValue131⟩
theorem row131 : (Tryz.prog.info? 131).map (fun i => (i.size, i.bytes)) = some (1, 8) := by kernel_rfl
instance : TUnd Tryz.prog 131 (.int Go.IntKind.u64) := ⟨Tryz.underlying131⟩
instance : TSize Tryz.prog 132 3 := ⟨Tryz.sizeOf132⟩
instance : TAgg Tryz.prog 132 true := ⟨Tryz.isAgg132⟩
def zc132 : Array Value :=  #[Go.Value.pointer Option.none, Go.Value.pointer Option.none, Go.Value.int Go.IntKind.u64 0]
theorem zc132_size : zc132.size = 3 := rfl
instance : TZero Tryz.prog 132 (.agg zc132) := ⟨Tryz.zeroValue132⟩
theorem row132 : (Tryz.prog.info? 132).map (fun i => (i.size, i.bytes)) = some (3, 24) := by kernel_rfl
instance : TFld Tryz.prog 132 0 0 17 1 := ⟨⟨_, _, Tryz.underlying132, rfl, rfl, rfl, Tryz.sizeOf17, by decide⟩⟩
instance : TFld Tryz.prog 132 1 1 130 1 := ⟨⟨_, _, Tryz.underlying132, rfl, rfl, rfl, Tryz.sizeOf130, by decide⟩⟩
instance : TFld Tryz.prog 132 2 2 131 1 := ⟨⟨_, _, Tryz.underlying132, rfl, rfl, rfl, Tryz.sizeOf131, by decide⟩⟩
instance : TBuild Tryz.prog 132 zc132 [(0, 1), (1, 1), (2, 1)] := ⟨fun _ => by kernel_rfl⟩
instance : TSize Tryz.prog 133 3 := ⟨Tryz.sizeOf133⟩
instance : TAgg Tryz.prog 133 true := ⟨Tryz.isAgg133⟩
def zc133 : Array Value :=  #[Go.Value.pointer Option.none, Go.Value.pointer Option.none, Go.Value.int Go.IntKind.u64 0]
theorem zc133_size : zc133.size = 3 := rfl
instance : TZero Tryz.prog 133 (.agg zc133) := ⟨Tryz.zeroValue133⟩
theorem row133 : (Tryz.prog.info? 133).map (fun i => (i.size, i.bytes)) = some (3, 24) := by kernel_rfl
instance : TFld Tryz.prog 133 0 0 17 1 := ⟨⟨_, _, Tryz.underlying133, rfl, rfl, rfl, Tryz.sizeOf17, by decide⟩⟩
instance : TFld Tryz.prog 133 1 1 130 1 := ⟨⟨_, _, Tryz.underlying133, rfl, rfl, rfl, Tryz.sizeOf130, by decide⟩⟩
instance : TFld Tryz.prog 133 2 2 131 1 := ⟨⟨_, _, Tryz.underlying133, rfl, rfl, rfl, Tryz.sizeOf131, by decide⟩⟩
instance : TBuild Tryz.prog 133 zc133 [(0, 1), (1, 1), (2, 1)] := ⟨fun _ => by kernel_rfl⟩
instance : TSize Tryz.prog 134 1 := ⟨Tryz.sizeOf134⟩
instance : TAgg Tryz.prog 134 false := ⟨Tryz.isAgg134⟩
instance : TZero Tryz.prog 134 (Go.Value.nilFunc) := ⟨Tryz.zeroValue134⟩
theorem row134 : (Tryz.prog.info? 134).map (fun i => (i.size, i.bytes)) = some (1, 8) := by kernel_rfl
instance : TSize Tryz.prog 135 1 := ⟨Tryz.sizeOf135⟩
instance : TAgg Tryz.prog 135 false := ⟨Tryz.isAgg135⟩
instance : TZero Tryz.prog 135 (Go.Value.nilIface) := ⟨Tryz.zeroValue135⟩
theorem row135 : (Tryz.prog.info? 135).map (fun i => (i.size, i.bytes)) = some (1, 16) := by kernel_rfl
instance : TUnd Tryz.prog 135 (Go.TypeDesc.interface #[("AssignableTo", 140), ("Comparable", 22), ("Elem", 137), ("Implements", 140), ("Kind", 139), ("Name", 224), ("PkgPath", 224), ("Size", 238), ("String", 224), ("internal/reflectlite.common", 230), ("internal/reflectlite.uncommon", 239)]) := ⟨Tryz.underlying135⟩
instance : TSize Tryz.prog 136 1 := ⟨Tryz.sizeOf136⟩
instance : TAgg Tryz.prog 136 false := ⟨Tryz.isAgg136⟩
instance : TZero Tryz.prog 136 (Go.Value.nilIface) := ⟨Tryz.zeroValue136⟩
theorem row136 : (Tryz.prog.info? 136).map (fun i => (i.size, i.bytes)) = some (1, 16) := by kernel_rfl
instance : TUnd Tryz.prog 136 (Go.TypeDesc.interface #[("AssignableTo", 140), ("Comparable", 22), ("Elem", 137), ("Implements", 140), ("Kind", 139), ("Name", 224), ("PkgPath", 224), ("Size", 238), ("String", 224), ("internal/reflectlite.common", 230), ("internal/reflectlite.uncommon", 239)]) := ⟨Tryz.underlying136⟩
instance : TSize Tryz.prog 137 1 := ⟨Tryz.sizeOf137⟩
instance : TAgg Tryz.prog 137 false := ⟨Tryz.isAgg137⟩
instance : TZero Tryz.prog 137 (Go.Value.nilFunc) := ⟨Tryz.zeroValue137⟩
theorem row137 : (Tryz.prog.info? 137).map (fun i => (i.size, i.bytes)) = some (1, 8) := by kernel_rfl
instance : TSize Tryz.prog 138 1 := ⟨Tryz.sizeOf138⟩
instance : TAgg Tryz.prog 138 false := ⟨Tryz.isAgg138⟩
instance : TZero Tryz.prog 138 (Go.Value.int Go.IntKind.u8 0) := ⟨Tryz.zeroValue138⟩
theorem row138 : (Tryz.prog.info? 138).map (fun i => (i.size, i.bytes)) = some (1, 1) := by kernel_rfl
instance : TUnd Tryz.prog 138 (.int Go.IntKind.u8) := ⟨Tryz.underlying138⟩
instance : TSize Tryz.prog 139 1 := ⟨Tryz.sizeOf139⟩
instance : TAgg Tryz.prog 139 false := ⟨Tryz.isAgg139⟩
instance : TZero Tryz.prog 139 (Go.Value.nilFunc) := ⟨Tryz.zeroValue139⟩
theorem row139 : (Tryz.prog.info? 139).map (fun i => (i.size, i.bytes)) = some (1, 8) := by kernel_rfl
instance : TSize Tryz.prog 140 1 := ⟨Tryz.sizeOf140⟩
instance : TAgg Tryz.prog 140 false := ⟨Tryz.isAgg140⟩
instance : TZero Tryz.prog 140 (Go.Value.nilFunc) := ⟨Tryz.zeroValue140⟩
theorem row140 : (Tryz.prog.info? 140).map (fun i => (i.size, i.bytes)) = some (1, 8) := by kernel_rfl
instance : TSize Tryz.prog 141 1 := ⟨Tryz.sizeOf141⟩
instance : TAgg Tryz.prog 141 false := ⟨Tryz.isAgg141⟩
instance : TZero Tryz.prog 141 (Go.Value.nilFunc) := ⟨Tryz.zeroValue141⟩
theorem row141 : (Tryz.prog.info? 141).map (fun i => (i.size, i.bytes)) = some (1, 8) := by kernel_rfl
instance : TSize Tryz.prog 142 1 := ⟨Tryz.sizeOf142⟩
instance : TAgg Tryz.prog 142 false := ⟨Tryz.isAgg142⟩
instance : TZero Tryz.prog 142 (Go.Value.nilFunc) := ⟨Tryz.zeroValue142⟩
theorem row142 : (Tryz.prog.info? 142).map (fun i => (i.size, i.bytes)) = some (1, 8) := by kernel_rfl
instance : TSize Tryz.prog 143 1 := ⟨Tryz.sizeOf143⟩
instance : TAgg Tryz.prog 143 false := ⟨Tryz.isAgg143⟩
instance : TZero Tryz.prog 143 (Go.Value.nilFunc) := ⟨Tryz.zeroValue143⟩
theorem row143 : (Tryz.prog.info? 143).map (fun i => (i.size, i.bytes)) = some (1, 8) := by kernel_rfl
instance : TSize Tryz.prog 144 1 := ⟨Tryz.sizeOf144⟩
instance : TAgg Tryz.prog 144 false := ⟨Tryz.isAgg144⟩
instance : TZero Tryz.prog 144 (Go.Value.nilFunc) := ⟨Tryz.zeroValue144⟩
theorem row144 : (Tryz.prog.info? 144).map (fun i => (i.size, i.bytes)) = some (1, 8) := by kernel_rfl
instance : TSize Tryz.prog 145 1 := ⟨Tryz.sizeOf145⟩
instance : TAgg Tryz.prog 145 false := ⟨Tryz.isAgg145⟩
instance : TZero Tryz.prog 145 (Go.Value.nilFunc) := ⟨Tryz.zeroValue145⟩
theorem row145 : (Tryz.prog.info? 145).map (fun i => (i.size, i.bytes)) = some (1, 8) := by kernel_rfl
instance : TSize Tryz.prog 146 1 := ⟨Tryz.sizeOf146⟩
instance : TAgg Tryz.prog 146 false := ⟨Tryz.isAgg146⟩
instance : TZero Tryz.prog 146 (Go.Value.slice Option.none 0 0) := ⟨Tryz.zeroValue146⟩
theorem row146 : (Tryz.prog.info? 146).map (fun i => (i.size, i.bytes)) = some (1, 24) := by kernel_rfl
instance : TUnd Tryz.prog 146 (.slice 36) := ⟨Tryz.underlying146⟩
instance : TSize Tryz.prog 147 4 := ⟨Tryz.sizeOf147⟩
instance : TAgg Tryz.prog 147 true := ⟨Tryz.isAgg147⟩
def zc147 : Array Value :=  #[Go.Value.slice Option.none 0 0, Go.Value.int Go.IntKind.i64 0, Go.Value.int Go.IntKind.u64 0, Go.Value.int Go.IntKind.u64 0]
theorem zc147_size : zc147.size = 4 := rfl
instance : TZero Tryz.prog 147 (.agg zc147) := ⟨Tryz.zeroValue147⟩
theorem row147 : (Tryz.prog.info? 147).map (fun i => (i.size, i.bytes)) = some (4, 48) := by kernel_rfl
instance : TFld Tryz.prog 147 0 0 146 1 := ⟨⟨_, _, Tryz.underlying147, rfl, rfl, rfl, Tryz.sizeOf146, by decide⟩⟩
instance : TFld Tryz.prog 147 1 1 3 1 := ⟨⟨_, _, Tryz.underlying147, rfl, rfl, rfl, Tryz.sizeOf3, by decide⟩⟩
instance : TFld Tryz.prog 147 2 2 23 1 := ⟨⟨_, _, Tryz.underlying147, rfl, rfl, rfl, Tryz.sizeOf23, by decide⟩⟩
instance : TFld Tryz.prog 147 3 3 23 1 := ⟨⟨_, _, Tryz.underlying147, rfl, rfl, rfl, Tryz.sizeOf23, by decide⟩⟩
instance : TBuild Tryz.prog 147 zc147 [(0, 1), (1, 1), (2, 1), (3, 1)] := ⟨fun _ => by kernel_rfl⟩
instance : TSize Tryz.prog 148 4 := ⟨Tryz.sizeOf148⟩
instance : TAgg Tryz.prog 148 true := ⟨Tryz.isAgg148⟩
def zc148 : Array Value :=  #[Go.Value.slice Option.none 0 0, Go.Value.int Go.IntKind.i64 0, Go.Value.int Go.IntKind.u64 0, Go.Value.int Go.IntKind.u64 0]
theorem zc148_size : zc148.size = 4 := rfl
instance : TZero Tryz.prog 148 (.agg zc148) := ⟨Tryz.zeroValue148⟩
theorem row148 : (Tryz.prog.info? 148).map (fun i => (i.size, i.bytes)) = some (4, 48) := by kernel_rfl
instance : TFld Tryz.prog 148 0 0 146 1 := ⟨⟨_, _, Tryz.underlying148, rfl, rfl, rfl, Tryz.sizeOf146, by decide⟩⟩
instance : TFld Tryz.prog 148 1 1 3 1 := ⟨⟨_, _, Tryz.underlying148, rfl, rfl, rfl, Tryz.sizeOf3, by decide⟩⟩
instance : TFld Tryz.prog 148 2 2 23 1 := ⟨⟨_, _, Tryz.underlying148, rfl, rfl, rfl, Tryz.sizeOf23, by decide⟩⟩
instance : TFld Tryz.prog 148 3 3 23 1 := ⟨⟨_, _, Tryz.underlying148, rfl, rfl, rfl, Tryz.sizeOf23, by decide⟩⟩
instance : TBuild Tryz.prog 148 zc148 [(0, 1), (1, 1), (2, 1), (3, 1)] := ⟨fun _ => by kernel_rfl⟩
instance : TSize Tryz.prog 149 384 := ⟨Tryz.sizeOf149⟩
instance : TAgg Tryz.prog 149 true := ⟨Tryz.isAgg149⟩
instance : TZero Tryz.prog 149 (Go.Value.agg Go.Proofs.Tryz.zeroCells149) := ⟨Tryz.zeroValue149⟩
theorem row149 : (Tryz.prog.info? 149).map (fun i => (i.size, i.bytes)) = some (384, 3328) := by kernel_rfl
instance : TUnd Tryz.prog 149 (.array 16 36) := ⟨Tryz.underlying149⟩
instance : TSize Tryz.prog 150 389 := ⟨Tryz.sizeOf150⟩
instance : TAgg Tryz.prog 150 true := ⟨Tryz.isAgg150⟩
instance : TZero Tryz.prog 150 (Go.Value.agg Go.Proofs.Tryz.zeroCells150) := ⟨Tryz.zeroValue150⟩
theorem row150 : (Tryz.prog.info? 150).map (fun i => (i.size, i.bytes)) = some (389, 3368) := by kernel_rfl
instance : TFld Tryz.prog 150 0 0 149 384 := ⟨⟨_, _, Tryz.underlying150, rfl, rfl, rfl, Tryz.sizeOf149, by decide⟩⟩
instance : TFld Tryz.prog 150 1 384 3 1 := ⟨⟨_, _, Tryz.underlying150, rfl, rfl, rfl, Tryz.sizeOf3, by decide⟩⟩
instance : TFld Tryz.prog 150 2 385 3 1 := ⟨⟨_, _, Tryz.underlying150, rfl, rfl, rfl, Tryz.sizeOf3, by decide⟩⟩
instance : TFld Tryz.prog 150 3 386 3 1 := ⟨⟨_, _, Tryz.underlying150, rfl, rfl, rfl, Tryz.sizeOf3, by decide⟩⟩
instance : TFld Tryz.prog 150 4 387 23 1 := ⟨⟨_, _, Tryz.underlying150, rfl, rfl, rfl, Tryz.sizeOf23, by decide⟩⟩
instance : TFld Tryz.prog 150 5 388 3 1 := ⟨⟨_, _, Tryz.underlying150, rfl, rfl, rfl, Tryz.sizeOf3, by decide⟩⟩
instance : TBuild Tryz.prog 150 Tryz.zeroCells150 [(0, 384), (384, 1), (385, 1), (386, 1), (387, 1), (388, 1)] := ⟨fun _ => by kernel_rfl⟩
instance : TSize Tryz.prog 151 389 := ⟨Tryz.sizeOf151⟩
instance : TAgg Tryz.prog 151 true := ⟨Tryz.isAgg151⟩
instance : TZero Tryz.prog 151 (Go.Value.agg Go.Proofs.Tryz.zeroCells151) := ⟨Tryz.zeroValue151⟩
theorem row151 : (Tryz.prog.info? 151).map (fun i => (i.size, i.bytes)) = some (389, 3368) := by kernel_rfl
instance : TFld Tryz.prog 151 0 0 149 384 := ⟨⟨_, _, Tryz.underlying151, rfl, rfl, rfl, Tryz.sizeOf149, by decide⟩⟩
instance : TFld Tryz.prog 151 1 384 3 1 := ⟨⟨_, _, Tryz.underlying151, rfl, rfl, rfl, Tryz.sizeOf3, by decide⟩⟩
instance : TFld Tryz.prog 151 2 385 3 1 := ⟨⟨_, _, Tryz.underlying151, rfl, rfl, rfl, Tryz.sizeOf3, by decide⟩⟩
instance : TFld Tryz.prog 151 3 386 3 1 := ⟨⟨_, _, Tryz.underlying151, rfl, rfl, rfl, Tryz.sizeOf3, by decide⟩⟩
instance : TFld Tryz.prog 151 4 387 23 1 := ⟨⟨_, _, Tryz.underlying151, rfl, rfl, rfl, Tryz.sizeOf23, by decide⟩⟩
instance : TFld Tryz.prog 151 5 388 3 1 := ⟨⟨_, _, Tryz.underlying151, rfl, rfl, rfl, Tryz.sizeOf3, by decide⟩⟩
instance : TBuild Tryz.prog 151 Tryz.zeroCells151 [(0, 384), (384, 1), (385, 1), (386, 1), (387, 1), (388, 1)] := ⟨fun _ => by kernel_rfl⟩
instance : TSize Tryz.prog 152 1 := ⟨Tryz.sizeOf152⟩
instance : TAgg Tryz.prog 152 false := ⟨Tryz.isAgg152⟩
instance : TZero Tryz.prog 152 (Go.Value.nilFunc) := ⟨Tryz.zeroValue152⟩
theorem row152 : (Tryz.prog.info? 152).map (fun i => (i.size, i.bytes)) = some (1, 8) := by kernel_rfl
instance : TSize Tryz.prog 153 1 := ⟨Tryz.sizeOf153⟩
instance : TAgg Tryz.prog 153 false := ⟨Tryz.isAgg153⟩
instance : TZero Tryz.prog 153 (Go.Value.pointer Option.none) := ⟨Tryz.zeroValue153⟩
theorem row153 : (Tryz.prog.info? 153).map (fun i => (i.size, i.bytes)) = some (1, 8) := by kernel_rfl
instance : TUnd Tryz.prog 153 (.pointer 36) := ⟨Tryz.underlying153⟩
instance : TSize Tryz.prog 154 1 := ⟨Tryz.sizeOf154⟩
instance : TAgg Tryz.prog 154 false := ⟨Tryz.isAgg154⟩
instance : TZero Tryz.prog 154 (Go.Value.nilFunc) := ⟨Tryz.zeroValue154⟩
theorem row154 : (Tryz.prog.info? 154).map (fun i => (i.size, i.bytes)) = some (1, 8) := by kernel_rfl
instance : TSize Tryz.prog 155 1 := ⟨Tryz.sizeOf155⟩
instance : TAgg Tryz.prog 155 false := ⟨Tryz.isAgg155⟩
instance : TZero Tryz.prog 155 (Go.Value.nilFunc) := ⟨Tryz.zeroValue155⟩
theorem row155 : (Tryz.prog.info? 155).map (fun i => (i.size, i.bytes)) = some (1, 8) := by kernel_rfl
instance : TSize Tryz.prog 156 1 := ⟨Tryz.sizeOf156⟩
instance : TAgg Tryz.prog 156 false := ⟨Tryz.isAgg156⟩
instance : TZero Tryz.prog 156 (Go.Value.nilFunc) := ⟨Tryz.zeroValue156⟩
theorem row156 : (Tryz.prog.info? 156).map (fun i => (i.size, i.bytes)) = some (1, 8) := by kernel_rfl
instance : TSize Tryz.prog 157 1 := ⟨Tryz.sizeOf157⟩
instance : TAgg Tryz.prog 157 false := ⟨Tryz.isAgg157⟩
instance : TZero Tryz.prog 157 (Go.Value.nilFunc) := ⟨Tryz.zeroValue157⟩
theorem row157 : (Tryz.prog.info? 157).map (fun i => (i.size, i.bytes)) = some (1, 8) := by kernel_rfl
instance : TSize Tryz.prog 158 1 := ⟨Tryz.sizeOf158⟩
instance : TAgg Tryz.prog 158 false := ⟨Tryz.isAgg158⟩
instance : TZero Tryz.prog 158 (Go.Value.slice Option.none 0 0) := ⟨Tryz.zeroValue158⟩
theorem row158 : (Tryz.prog.info? 158).map (fun i => (i.size, i.bytes)) = some (1, 24) := by kernel_rfl
instance : TUnd Tryz.prog 158 (.slice 68) := ⟨Tryz.underlying158⟩
instance : TSize Tryz.prog 159 1 := ⟨Tryz.sizeOf159⟩
instance : TAgg Tryz.prog 159 false := ⟨Tryz.isAgg159⟩
instance : TZero Tryz.prog 159 (Go.Value.pointer Option.none) := ⟨Tryz.zeroValue159⟩
theorem row159 : (Tryz.prog.info? 159).map (fun i => (i.size, i.bytes)) = some (1, 8) := by kernel_rfl
instance : TUnd Tryz.prog 159 (.pointer 161) := ⟨Tryz.underlying159⟩
instance : TSize Tryz.prog 160 1 := ⟨Tryz.sizeOf160⟩
instance : TAgg Tryz.prog 160 true := ⟨Tryz.isAgg160⟩
def zc160 : Array Value :=  #[Go.Value.slice Option.none 0 0]
theorem zc160_size : zc160.size = 1 := rfl
instance : TZero Tryz.prog 160 (.agg zc160) := ⟨Tryz.zeroValue160⟩
theorem row160 : (Tryz.prog.info? 160).map (fun i => (i.size, i.bytes)) = some (1, 24) := by kernel_rfl
instance : TFld Tryz.prog 160 0 0 72 1 := ⟨⟨_, _, Tryz.underlying160, rfl, rfl, rfl, Tryz.sizeOf72, by decide⟩⟩
instance : TBuild Tryz.prog 160 zc160 [(0, 1)] := ⟨fun _ => by kernel_rfl⟩
instance : TSize Tryz.prog 161 1 := ⟨Tryz.sizeOf161⟩
instance : TAgg Tryz.prog 161 true := ⟨Tryz.isAgg161⟩
def zc161 : Array Value :=  #[Go.Value.slice Option.none 0 0]
theorem zc161_size : zc161.size = 1 := rfl
instance : TZero Tryz.prog 161 (.agg zc161) := ⟨Tryz.zeroValue161⟩
theorem row161 : (Tryz.prog.info? 161).map (fun i => (i.size, i.bytes)) = some (1, 24) := by kernel_rfl
instance : TFld Tryz.prog 161 0 0 72 1 := ⟨⟨_, _, Tryz.underlying161, rfl, rfl, rfl, Tryz.sizeOf72, by decide⟩⟩
instance : TBuild Tryz.prog 161 zc161 [(0, 1)] := ⟨fun _ => by kernel_rfl⟩
instance : TSize Tryz.prog 162 1 := ⟨Tryz.sizeOf162⟩
instance : TAgg Tryz.prog 162 false := ⟨Tryz.isAgg162⟩
instance : TZero Tryz.prog 162 (Go.Value.nilIface) := ⟨Tryz.zeroValue162⟩
theorem row162 : (Tryz.prog.info? 162).map (fun i => (i.size, i.bytes)) = some (1, 16) := by kernel_rfl
instance : TUnd Tryz.prog 162 (Go.TypeDesc.interface #[("anabranch/codec.here", 1), ("anabranch/codec.must", 129), ("anabranch/codec.number", 218), ("anabranch/codec.one", 197), ("anabranch/codec.truth", 199), ("anabranch/codec.whole", 167)]) := ⟨Tryz.underlying162⟩
instance : TSize Tryz.prog 163 1 := ⟨Tryz.sizeOf163⟩
instance : TAgg Tryz.prog 163 false := ⟨Tryz.isAgg163⟩
instance : TZero Tryz.prog 163 (Go.Value.nilIface) := ⟨Tryz.zeroValue163⟩
theorem row163 : (Tryz.prog.info? 163).map (fun i => (i.size, i.bytes)) = some (1, 16) := by kernel_rfl
instance : TUnd Tryz.prog 163 (Go.TypeDesc.interface #[("anabranch/codec.here", 1), ("anabranch/codec.must", 129), ("anabranch/codec.number", 218), ("anabranch/codec.one", 197), ("anabranch/codec.truth", 199), ("anabranch/codec.whole", 167)]) := ⟨Tryz.underlying163⟩
instance : TSize Tryz.prog 164 1 := ⟨Tryz.sizeOf164⟩
instance : TAgg Tryz.prog 164 false := ⟨Tryz.isAgg164⟩
instance : TZero Tryz.prog 164 (Go.Value.nilFunc) := ⟨Tryz.zeroValue164⟩
theorem row164 : (Tryz.prog.info? 164).map (fun i => (i.size, i.bytes)) = some (1, 8) := by kernel_rfl
instance : TSize Tryz.prog 165 1 := ⟨Tryz.sizeOf165⟩
instance : TAgg Tryz.prog 165 false := ⟨Tryz.isAgg165⟩
instance : TZero Tryz.prog 165 (Go.Value.nilFunc) := ⟨Tryz.zeroValue165⟩
theorem row165 : (Tryz.prog.info? 165).map (fun i => (i.size, i.bytes)) = some (1, 8) := by kernel_rfl
instance : TSize Tryz.prog 166 1 := ⟨Tryz.sizeOf166⟩
instance : TAgg Tryz.prog 166 false := ⟨Tryz.isAgg166⟩
instance : TZero Tryz.prog 166 (Go.Value.pointer Option.none) := ⟨Tryz.zeroValue166⟩
theorem row166 : (Tryz.prog.info? 166).map (fun i => (i.size, i.bytes)) = some (1, 8) := by kernel_rfl
instance : TUnd Tryz.prog 166 (.pointer 26) := ⟨Tryz.underlying166⟩
instance : TSize Tryz.prog 167 1 := ⟨Tryz.sizeOf167⟩
instance : TAgg Tryz.prog 167 false := ⟨Tryz.isAgg167⟩
instance : TZero Tryz.prog 167 (Go.Value.nilFunc) := ⟨Tryz.zeroValue167⟩
theorem row167 : (Tryz.prog.info? 167).map (fun i => (i.size, i.bytes)) = some (1, 8) := by kernel_rfl
instance : TSize Tryz.prog 168 1 := ⟨Tryz.sizeOf168⟩
instance : TAgg Tryz.prog 168 false := ⟨Tryz.isAgg168⟩
instance : TZero Tryz.prog 168 (Go.Value.pointer Option.none) := ⟨Tryz.zeroValue168⟩
theorem row168 : (Tryz.prog.info? 168).map (fun i => (i.size, i.bytes)) = some (1, 8) := by kernel_rfl
instance : TUnd Tryz.prog 168 (.pointer 2) := ⟨Tryz.underlying168⟩
instance : TSize Tryz.prog 169 1 := ⟨Tryz.sizeOf169⟩
instance : TAgg Tryz.prog 169 false := ⟨Tryz.isAgg169⟩
instance : TZero Tryz.prog 169 (Go.Value.nilFunc) := ⟨Tryz.zeroValue169⟩
theorem row169 : (Tryz.prog.info? 169).map (fun i => (i.size, i.bytes)) = some (1, 8) := by kernel_rfl
instance : TSize Tryz.prog 170 1 := ⟨Tryz.sizeOf170⟩
instance : TAgg Tryz.prog 170 false := ⟨Tryz.isAgg170⟩
instance : TZero Tryz.prog 170 (Go.Value.pointer Option.none) := ⟨Tryz.zeroValue170⟩
theorem row170 : (Tryz.prog.info? 170).map (fun i => (i.size, i.bytes)) = some (1, 8) := by kernel_rfl
instance : TUnd Tryz.prog 170 (.pointer 31) := ⟨Tryz.underlying170⟩
instance : TSize Tryz.prog 171 1 := ⟨Tryz.sizeOf171⟩
instance : TAgg Tryz.prog 171 false := ⟨Tryz.isAgg171⟩
instance : TZero Tryz.prog 171 (Go.Value.nilFunc) := ⟨Tryz.zeroValue171⟩
theorem row171 : (Tryz.prog.info? 171).map (fun i => (i.size, i.bytes)) = some (1, 8) := by kernel_rfl
instance : TSize Tryz.prog 172 1 := ⟨Tryz.sizeOf172⟩
instance : TAgg Tryz.prog 172 false := ⟨Tryz.isAgg172⟩
instance : TZero Tryz.prog 172 (Go.Value.pointer Option.none) := ⟨Tryz.zeroValue172⟩
theorem row172 : (Tryz.prog.info? 172).map (fun i => (i.size, i.bytes)) = some (1, 8) := by kernel_rfl
instance : TUnd Tryz.prog 172 (.pointer 34) := ⟨Tryz.underlying172⟩
instance : TSize Tryz.prog 173 1 := ⟨Tryz.sizeOf173⟩
instance : TAgg Tryz.prog 173 false := ⟨Tryz.isAgg173⟩
instance : TZero Tryz.prog 173 (Go.Value.pointer Option.none) := ⟨Tryz.zeroValue173⟩
theorem row173 : (Tryz.prog.info? 173).map (fun i => (i.size, i.bytes)) = some (1, 8) := by kernel_rfl
instance : TUnd Tryz.prog 173 (.pointer 175) := ⟨Tryz.underlying173⟩
instance : TSize Tryz.prog 174 2 := ⟨Tryz.sizeOf174⟩
instance : TAgg Tryz.prog 174 true := ⟨Tryz.isAgg174⟩
def zc174 : Array Value :=  #[Go.Value.pointer Option.none, Go.Value.int Go.IntKind.i64 0]
theorem zc174_size : zc174.size = 2 := rfl
instance : TZero Tryz.prog 174 (.agg zc174) := ⟨Tryz.zeroValue174⟩
theorem row174 : (Tryz.prog.info? 174).map (fun i => (i.size, i.bytes)) = some (2, 16) := by kernel_rfl
instance : TFld Tryz.prog 174 0 0 76 1 := ⟨⟨_, _, Tryz.underlying174, rfl, rfl, rfl, Tryz.sizeOf76, by decide⟩⟩
instance : TFld Tryz.prog 174 1 1 3 1 := ⟨⟨_, _, Tryz.underlying174, rfl, rfl, rfl, Tryz.sizeOf3, by decide⟩⟩
instance : TBuild Tryz.prog 174 zc174 [(0, 1), (1, 1)] := ⟨fun _ => by kernel_rfl⟩
instance : TSize Tryz.prog 175 2 := ⟨Tryz.sizeOf175⟩
instance : TAgg Tryz.prog 175 true := ⟨Tryz.isAgg175⟩
def zc175 : Array Value :=  #[Go.Value.pointer Option.none, Go.Value.int Go.IntKind.i64 0]
theorem zc175_size : zc175.size = 2 := rfl
instance : TZero Tryz.prog 175 (.agg zc175) := ⟨Tryz.zeroValue175⟩
theorem row175 : (Tryz.prog.info? 175).map (fun i => (i.size, i.bytes)) = some (2, 16) := by kernel_rfl
instance : TFld Tryz.prog 175 0 0 76 1 := ⟨⟨_, _, Tryz.underlying175, rfl, rfl, rfl, Tryz.sizeOf76, by decide⟩⟩
instance : TFld Tryz.prog 175 1 1 3 1 := ⟨⟨_, _, Tryz.underlying175, rfl, rfl, rfl, Tryz.sizeOf3, by decide⟩⟩
instance : TBuild Tryz.prog 175 zc175 [(0, 1), (1, 1)] := ⟨fun _ => by kernel_rfl⟩
instance : TSize Tryz.prog 176 1 := ⟨Tryz.sizeOf176⟩
instance : TAgg Tryz.prog 176 false := ⟨Tryz.isAgg176⟩
instance : TZero Tryz.prog 176 (Go.Value.tuple #[Go.Value.pointer Option.none, Go.Value.bool Bool.false]) := ⟨Tryz.zeroValue176⟩
theorem row176 : (Tryz.prog.info? 176).map (fun i => (i.size, i.bytes)) = some (1, 0) := by kernel_rfl
instance : TSize Tryz.prog 177 1 := ⟨Tryz.sizeOf177⟩
instance : TAgg Tryz.prog 177 true := ⟨Tryz.isAgg177⟩
def zc177 : Array Value :=  #[Go.Value.pointer Option.none]
theorem zc177_size : zc177.size = 1 := rfl
instance : TZero Tryz.prog 177 (.agg zc177) := ⟨Tryz.zeroValue177⟩
theorem row177 : (Tryz.prog.info? 177).map (fun i => (i.size, i.bytes)) = some (1, 8) := by kernel_rfl
instance : TFld Tryz.prog 177 0 0 17 1 := ⟨⟨_, _, Tryz.underlying177, rfl, rfl, rfl, Tryz.sizeOf17, by decide⟩⟩
instance : TBuild Tryz.prog 177 zc177 [(0, 1)] := ⟨fun _ => by kernel_rfl⟩
instance : TSize Tryz.prog 178 1 := ⟨Tryz.sizeOf178⟩
instance : TAgg Tryz.prog 178 true := ⟨Tryz.isAgg178⟩
def zc178 : Array Value :=  #[Go.Value.pointer Option.none]
theorem zc178_size : zc178.size = 1 := rfl
instance : TZero Tryz.prog 178 (.agg zc178) := ⟨Tryz.zeroValue178⟩
theorem row178 : (Tryz.prog.info? 178).map (fun i => (i.size, i.bytes)) = some (1, 8) := by kernel_rfl
instance : TFld Tryz.prog 178 0 0 17 1 := ⟨⟨_, _, Tryz.underlying178, rfl, rfl, rfl, Tryz.sizeOf17, by decide⟩⟩
instance : TBuild Tryz.prog 178 zc178 [(0, 1)] := ⟨fun _ => by kernel_rfl⟩
instance : TSize Tryz.prog 179 1 := ⟨Tryz.sizeOf179⟩
instance : TAgg Tryz.prog 179 false := ⟨Tryz.isAgg179⟩
instance : TZero Tryz.prog 179 (Go.Value.pointer Option.none) := ⟨Tryz.zeroValue179⟩
theorem row179 : (Tryz.prog.info? 179).map (fun i => (i.size, i.bytes)) = some (1, 8) := by kernel_rfl
instance : TUnd Tryz.prog 179 (.pointer 250) := ⟨Tryz.underlying179⟩
instance : TSize Tryz.prog 180 1 := ⟨Tryz.sizeOf180⟩
instance : TAgg Tryz.prog 180 false := ⟨Tryz.isAgg180⟩
instance : TZero Tryz.prog 180 (Go.Value.nilFunc) := ⟨Tryz.zeroValue180⟩
theorem row180 : (Tryz.prog.info? 180).map (fun i => (i.size, i.bytes)) = some (1, 8) := by kernel_rfl
instance : TSize Tryz.prog 181 1 := ⟨Tryz.sizeOf181⟩
instance : TAgg Tryz.prog 181 false := ⟨Tryz.isAgg181⟩
instance : TZero Tryz.prog 181 (Go.Value.nilFunc) := ⟨Tryz.zeroValue181⟩
theorem row181 : (Tryz.prog.info? 181).map (fun i => (i.size, i.bytes)) = some (1, 8) := by kernel_rfl
instance : TSize Tryz.prog 182 1 := ⟨Tryz.sizeOf182⟩
instance : TAgg Tryz.prog 182 false := ⟨Tryz.isAgg182⟩
instance : TZero Tryz.prog 182 (Go.Value.nilIface) := ⟨Tryz.zeroValue182⟩
theorem row182 : (Tryz.prog.info? 182).map (fun i => (i.size, i.bytes)) = some (1, 16) := by kernel_rfl
instance : TUnd Tryz.prog 182 (Go.TypeDesc.interface #[("As", 184)]) := ⟨Tryz.underlying182⟩
instance : TSize Tryz.prog 183 1 := ⟨Tryz.sizeOf183⟩
instance : TAgg Tryz.prog 183 false := ⟨Tryz.isAgg183⟩
instance : TZero Tryz.prog 183 (Go.Value.tuple #[Go.Value.nilIface, Go.Value.bool Bool.false]) := ⟨Tryz.zeroValue183⟩
theorem row183 : (Tryz.prog.info? 183).map (fun i => (i.size, i.bytes)) = some (1, 0) := by kernel_rfl
instance : TSize Tryz.prog 184 1 := ⟨Tryz.sizeOf184⟩
instance : TAgg Tryz.prog 184 false := ⟨Tryz.isAgg184⟩
instance : TZero Tryz.prog 184 (Go.Value.nilFunc) := ⟨Tryz.zeroValue184⟩
theorem row184 : (Tryz.prog.info? 184).map (fun i => (i.size, i.bytes)) = some (1, 8) := by kernel_rfl
instance : TSize Tryz.prog 185 1 := ⟨Tryz.sizeOf185⟩
instance : TAgg Tryz.prog 185 false := ⟨Tryz.isAgg185⟩
instance : TZero Tryz.prog 185 (Go.Value.nilIface) := ⟨Tryz.zeroValue185⟩
theorem row185 : (Tryz.prog.info? 185).map (fun i => (i.size, i.bytes)) = some (1, 16) := by kernel_rfl
instance : TUnd Tryz.prog 185 (Go.TypeDesc.interface #[("Unwrap", 78)]) := ⟨Tryz.underlying185⟩
instance : TSize Tryz.prog 186 1 := ⟨Tryz.sizeOf186⟩
instance : TAgg Tryz.prog 186 false := ⟨Tryz.isAgg186⟩
instance : TZero Tryz.prog 186 (Go.Value.nilIface) := ⟨Tryz.zeroValue186⟩
theorem row186 : (Tryz.prog.info? 186).map (fun i => (i.size, i.bytes)) = some (1, 16) := by kernel_rfl
instance : TUnd Tryz.prog 186 (Go.TypeDesc.interface #[("Unwrap", 188)]) := ⟨Tryz.underlying186⟩
instance : TSize Tryz.prog 187 1 := ⟨Tryz.sizeOf187⟩
instance : TAgg Tryz.prog 187 false := ⟨Tryz.isAgg187⟩
instance : TZero Tryz.prog 187 (Go.Value.slice Option.none 0 0) := ⟨Tryz.zeroValue187⟩
theorem row187 : (Tryz.prog.info? 187).map (fun i => (i.size, i.bytes)) = some (1, 24) := by kernel_rfl
instance : TUnd Tryz.prog 187 (.slice 46) := ⟨Tryz.underlying187⟩
instance : TSize Tryz.prog 188 1 := ⟨Tryz.sizeOf188⟩
instance : TAgg Tryz.prog 188 false := ⟨Tryz.isAgg188⟩
instance : TZero Tryz.prog 188 (Go.Value.nilFunc) := ⟨Tryz.zeroValue188⟩
theorem row188 : (Tryz.prog.info? 188).map (fun i => (i.size, i.bytes)) = some (1, 8) := by kernel_rfl
instance : TSize Tryz.prog 189 1 := ⟨Tryz.sizeOf189⟩
instance : TAgg Tryz.prog 189 false := ⟨Tryz.isAgg189⟩
instance : TZero Tryz.prog 189 (Go.Value.nilIface) := ⟨Tryz.zeroValue189⟩
theorem row189 : (Tryz.prog.info? 189).map (fun i => (i.size, i.bytes)) = some (1, 16) := by kernel_rfl
instance : TUnd Tryz.prog 189 (Go.TypeDesc.interface #[("Is", 191)]) := ⟨Tryz.underlying189⟩
instance : TSize Tryz.prog 190 1 := ⟨Tryz.sizeOf190⟩
instance : TAgg Tryz.prog 190 false := ⟨Tryz.isAgg190⟩
instance : TZero Tryz.prog 190 (Go.Value.tuple #[Go.Value.nilIface, Go.Value.bool Bool.false]) := ⟨Tryz.zeroValue190⟩
theorem row190 : (Tryz.prog.info? 190).map (fun i => (i.size, i.bytes)) = some (1, 0) := by kernel_rfl
instance : TSize Tryz.prog 191 1 := ⟨Tryz.sizeOf191⟩
instance : TAgg Tryz.prog 191 false := ⟨Tryz.isAgg191⟩
instance : TZero Tryz.prog 191 (Go.Value.nilFunc) := ⟨Tryz.zeroValue191⟩
theorem row191 : (Tryz.prog.info? 191).map (fun i => (i.size, i.bytes)) = some (1, 8) := by kernel_rfl
instance : TSize Tryz.prog 192 1 := ⟨Tryz.sizeOf192⟩
instance : TAgg Tryz.prog 192 false := ⟨Tryz.isAgg192⟩
instance : TZero Tryz.prog 192 (Go.Value.nilFunc) := ⟨Tryz.zeroValue192⟩
theorem row192 : (Tryz.prog.info? 192).map (fun i => (i.size, i.bytes)) = some (1, 8) := by kernel_rfl
instance : TSize Tryz.prog 193 1 := ⟨Tryz.sizeOf193⟩
instance : TAgg Tryz.prog 193 false := ⟨Tryz.isAgg193⟩
instance : TZero Tryz.prog 193 (Go.Value.nilFunc) := ⟨Tryz.zeroValue193⟩
theorem row193 : (Tryz.prog.info? 193).map (fun i => (i.size, i.bytes)) = some (1, 8) := by kernel_rfl
instance : TSize Tryz.prog 194 1 := ⟨Tryz.sizeOf194⟩
instance : TAgg Tryz.prog 194 false := ⟨Tryz.isAgg194⟩
instance : TZero Tryz.prog 194 (Go.Value.nilFunc) := ⟨Tryz.zeroValue194⟩
theorem row194 : (Tryz.prog.info? 194).map (fun i => (i.size, i.bytes)) = some (1, 8) := by kernel_rfl
instance : TSize Tryz.prog 195 1 := ⟨Tryz.sizeOf195⟩
instance : TAgg Tryz.prog 195 false := ⟨Tryz.isAgg195⟩
instance : TZero Tryz.prog 195 (Go.Value.nilFunc) := ⟨Tryz.zeroValue195⟩
theorem row195 : (Tryz.prog.info? 195).map (fun i => (i.size, i.bytes)) = some (1, 8) := by kernel_rfl
instance : TSize Tryz.prog 196 1 := ⟨Tryz.sizeOf196⟩
instance : TAgg Tryz.prog 196 false := ⟨Tryz.isAgg196⟩
instance : TZero Tryz.prog 196 (Go.Value.pointer Option.none) := ⟨Tryz.zeroValue196⟩
theorem row196 : (Tryz.prog.info? 196).map (fun i => (i.size, i.bytes)) = some (1, 8) := by kernel_rfl
instance : TUnd Tryz.prog 196 (.pointer 24) := ⟨Tryz.underlying196⟩
instance : TSize Tryz.prog 197 1 := ⟨Tryz.sizeOf197⟩
instance : TAgg Tryz.prog 197 false := ⟨Tryz.isAgg197⟩
instance : TZero Tryz.prog 197 (Go.Value.nilFunc) := ⟨Tryz.zeroValue197⟩
theorem row197 : (Tryz.prog.info? 197).map (fun i => (i.size, i.bytes)) = some (1, 8) := by kernel_rfl
instance : TSize Tryz.prog 198 1 := ⟨Tryz.sizeOf198⟩
instance : TAgg Tryz.prog 198 false := ⟨Tryz.isAgg198⟩
instance : TZero Tryz.prog 198 (Go.Value.pointer Option.none) := ⟨Tryz.zeroValue198⟩
theorem row198 : (Tryz.prog.info? 198).map (fun i => (i.size, i.bytes)) = some (1, 8) := by kernel_rfl
instance : TUnd Tryz.prog 198 (.pointer 5) := ⟨Tryz.underlying198⟩
instance : TSize Tryz.prog 199 1 := ⟨Tryz.sizeOf199⟩
instance : TAgg Tryz.prog 199 false := ⟨Tryz.isAgg199⟩
instance : TZero Tryz.prog 199 (Go.Value.nilFunc) := ⟨Tryz.zeroValue199⟩
theorem row199 : (Tryz.prog.info? 199).map (fun i => (i.size, i.bytes)) = some (1, 8) := by kernel_rfl
instance : TSize Tryz.prog 200 1 := ⟨Tryz.sizeOf200⟩
instance : TAgg Tryz.prog 200 false := ⟨Tryz.isAgg200⟩
instance : TZero Tryz.prog 200 (Go.Value.pointer Option.none) := ⟨Tryz.zeroValue200⟩
theorem row200 : (Tryz.prog.info? 200).map (fun i => (i.size, i.bytes)) = some (1, 8) := by kernel_rfl
instance : TUnd Tryz.prog 200 (.pointer 4) := ⟨Tryz.underlying200⟩
instance : TSize Tryz.prog 201 1 := ⟨Tryz.sizeOf201⟩
instance : TAgg Tryz.prog 201 false := ⟨Tryz.isAgg201⟩
instance : TZero Tryz.prog 201 (Go.Value.nilFunc) := ⟨Tryz.zeroValue201⟩
theorem row201 : (Tryz.prog.info? 201).map (fun i => (i.size, i.bytes)) = some (1, 8) := by kernel_rfl
instance : TSize Tryz.prog 202 1 := ⟨Tryz.sizeOf202⟩
instance : TAgg Tryz.prog 202 false := ⟨Tryz.isAgg202⟩
instance : TZero Tryz.prog 202 (Go.Value.pointer Option.none) := ⟨Tryz.zeroValue202⟩
theorem row202 : (Tryz.prog.info? 202).map (fun i => (i.size, i.bytes)) = some (1, 8) := by kernel_rfl
instance : TUnd Tryz.prog 202 (.pointer 27) := ⟨Tryz.underlying202⟩
instance : TSize Tryz.prog 203 1 := ⟨Tryz.sizeOf203⟩
instance : TAgg Tryz.prog 203 false := ⟨Tryz.isAgg203⟩
instance : TZero Tryz.prog 203 (Go.Value.nilFunc) := ⟨Tryz.zeroValue203⟩
theorem row203 : (Tryz.prog.info? 203).map (fun i => (i.size, i.bytes)) = some (1, 8) := by kernel_rfl
instance : TSize Tryz.prog 204 1 := ⟨Tryz.sizeOf204⟩
instance : TAgg Tryz.prog 204 false := ⟨Tryz.isAgg204⟩
instance : TZero Tryz.prog 204 (Go.Value.pointer Option.none) := ⟨Tryz.zeroValue204⟩
theorem row204 : (Tryz.prog.info? 204).map (fun i => (i.size, i.bytes)) = some (1, 8) := by kernel_rfl
instance : TUnd Tryz.prog 204 (.pointer 29) := ⟨Tryz.underlying204⟩
instance : TSize Tryz.prog 205 1 := ⟨Tryz.sizeOf205⟩
instance : TAgg Tryz.prog 205 false := ⟨Tryz.isAgg205⟩
instance : TZero Tryz.prog 205 (Go.Value.nilFunc) := ⟨Tryz.zeroValue205⟩
theorem row205 : (Tryz.prog.info? 205).map (fun i => (i.size, i.bytes)) = some (1, 8) := by kernel_rfl
instance : TSize Tryz.prog 206 5 := ⟨Tryz.sizeOf206⟩
instance : TAgg Tryz.prog 206 true := ⟨Tryz.isAgg206⟩
def zc206 : Array Value :=  #[Go.Value.int Go.IntKind.i64 0, Go.Value.int Go.IntKind.i64 0, Go.Value.int Go.IntKind.u64 0, Go.Value.int Go.IntKind.i64 0, Go.Value.int Go.IntKind.i64 0]
theorem zc206_size : zc206.size = 5 := rfl
instance : TZero Tryz.prog 206 (.agg zc206) := ⟨Tryz.zeroValue206⟩
theorem row206 : (Tryz.prog.info? 206).map (fun i => (i.size, i.bytes)) = some (5, 40) := by kernel_rfl
instance : TFld Tryz.prog 206 0 0 2 1 := ⟨⟨_, _, Tryz.underlying206, rfl, rfl, rfl, Tryz.sizeOf2, by decide⟩⟩
instance : TFld Tryz.prog 206 1 1 2 1 := ⟨⟨_, _, Tryz.underlying206, rfl, rfl, rfl, Tryz.sizeOf2, by decide⟩⟩
instance : TFld Tryz.prog 206 2 2 23 1 := ⟨⟨_, _, Tryz.underlying206, rfl, rfl, rfl, Tryz.sizeOf23, by decide⟩⟩
instance : TFld Tryz.prog 206 3 3 2 1 := ⟨⟨_, _, Tryz.underlying206, rfl, rfl, rfl, Tryz.sizeOf2, by decide⟩⟩
instance : TFld Tryz.prog 206 4 4 2 1 := ⟨⟨_, _, Tryz.underlying206, rfl, rfl, rfl, Tryz.sizeOf2, by decide⟩⟩
instance : TBuild Tryz.prog 206 zc206 [(0, 1), (1, 1), (2, 1), (3, 1), (4, 1)] := ⟨fun _ => by kernel_rfl⟩
instance : TSize Tryz.prog 207 5 := ⟨Tryz.sizeOf207⟩
instance : TAgg Tryz.prog 207 true := ⟨Tryz.isAgg207⟩
def zc207 : Array Value :=  #[Go.Value.int Go.IntKind.i64 0, Go.Value.int Go.IntKind.i64 0, Go.Value.int Go.IntKind.u64 0, Go.Value.int Go.IntKind.i64 0, Go.Value.int Go.IntKind.i64 0]
theorem zc207_size : zc207.size = 5 := rfl
instance : TZero Tryz.prog 207 (.agg zc207) := ⟨Tryz.zeroValue207⟩
theorem row207 : (Tryz.prog.info? 207).map (fun i => (i.size, i.bytes)) = some (5, 40) := by kernel_rfl
instance : TFld Tryz.prog 207 0 0 2 1 := ⟨⟨_, _, Tryz.underlying207, rfl, rfl, rfl, Tryz.sizeOf2, by decide⟩⟩
instance : TFld Tryz.prog 207 1 1 2 1 := ⟨⟨_, _, Tryz.underlying207, rfl, rfl, rfl, Tryz.sizeOf2, by decide⟩⟩
instance : TFld Tryz.prog 207 2 2 23 1 := ⟨⟨_, _, Tryz.underlying207, rfl, rfl, rfl, Tryz.sizeOf23, by decide⟩⟩
instance : TFld Tryz.prog 207 3 3 2 1 := ⟨⟨_, _, Tryz.underlying207, rfl, rfl, rfl, Tryz.sizeOf2, by decide⟩⟩
instance : TFld Tryz.prog 207 4 4 2 1 := ⟨⟨_, _, Tryz.underlying207, rfl, rfl, rfl, Tryz.sizeOf2, by decide⟩⟩
instance : TBuild Tryz.prog 207 zc207 [(0, 1), (1, 1), (2, 1), (3, 1), (4, 1)] := ⟨fun _ => by kernel_rfl⟩
instance : TSize Tryz.prog 208 10 := ⟨Tryz.sizeOf208⟩
instance : TAgg Tryz.prog 208 true := ⟨Tryz.isAgg208⟩
def zc208 : Array Value :=  #[Go.Value.int Go.IntKind.i64 0, Go.Value.int Go.IntKind.u32 0, Go.Value.int Go.IntKind.i64 0, Go.Value.int Go.IntKind.i64 0, Go.Value.int Go.IntKind.u8 0, Go.Value.int Go.IntKind.i64 0, Go.Value.int Go.IntKind.i64 0, Go.Value.int Go.IntKind.u64 0, Go.Value.int Go.IntKind.i64 0, Go.Value.int Go.IntKind.i64 0]
theorem zc208_size : zc208.size = 10 := rfl
instance : TZero Tryz.prog 208 (.agg zc208) := ⟨Tryz.zeroValue208⟩
theorem row208 : (Tryz.prog.info? 208).map (fun i => (i.size, i.bytes)) = some (10, 80) := by kernel_rfl
instance : TFld Tryz.prog 208 0 0 3 1 := ⟨⟨_, _, Tryz.underlying208, rfl, rfl, rfl, Tryz.sizeOf3, by decide⟩⟩
instance : TFld Tryz.prog 208 1 1 24 1 := ⟨⟨_, _, Tryz.underlying208, rfl, rfl, rfl, Tryz.sizeOf24, by decide⟩⟩
instance : TFld Tryz.prog 208 2 2 2 1 := ⟨⟨_, _, Tryz.underlying208, rfl, rfl, rfl, Tryz.sizeOf2, by decide⟩⟩
instance : TFld Tryz.prog 208 3 3 2 1 := ⟨⟨_, _, Tryz.underlying208, rfl, rfl, rfl, Tryz.sizeOf2, by decide⟩⟩
instance : TFld Tryz.prog 208 4 4 5 1 := ⟨⟨_, _, Tryz.underlying208, rfl, rfl, rfl, Tryz.sizeOf5, by decide⟩⟩
instance : TFld Tryz.prog 208 5 5 207 5 := ⟨⟨_, _, Tryz.underlying208, rfl, rfl, rfl, Tryz.sizeOf207, by decide⟩⟩
instance : TBuild Tryz.prog 208 zc208 [(0, 1), (1, 1), (2, 1), (3, 1), (4, 1), (5, 5)] := ⟨fun _ => by kernel_rfl⟩
instance : TSize Tryz.prog 209 10 := ⟨Tryz.sizeOf209⟩
instance : TAgg Tryz.prog 209 true := ⟨Tryz.isAgg209⟩
def zc209 : Array Value :=  #[Go.Value.int Go.IntKind.i64 0, Go.Value.int Go.IntKind.u32 0, Go.Value.int Go.IntKind.i64 0, Go.Value.int Go.IntKind.i64 0, Go.Value.int Go.IntKind.u8 0, Go.Value.int Go.IntKind.i64 0, Go.Value.int Go.IntKind.i64 0, Go.Value.int Go.IntKind.u64 0, Go.Value.int Go.IntKind.i64 0, Go.Value.int Go.IntKind.i64 0]
theorem zc209_size : zc209.size = 10 := rfl
instance : TZero Tryz.prog 209 (.agg zc209) := ⟨Tryz.zeroValue209⟩
theorem row209 : (Tryz.prog.info? 209).map (fun i => (i.size, i.bytes)) = some (10, 80) := by kernel_rfl
instance : TFld Tryz.prog 209 0 0 3 1 := ⟨⟨_, _, Tryz.underlying209, rfl, rfl, rfl, Tryz.sizeOf3, by decide⟩⟩
instance : TFld Tryz.prog 209 1 1 24 1 := ⟨⟨_, _, Tryz.underlying209, rfl, rfl, rfl, Tryz.sizeOf24, by decide⟩⟩
instance : TFld Tryz.prog 209 2 2 2 1 := ⟨⟨_, _, Tryz.underlying209, rfl, rfl, rfl, Tryz.sizeOf2, by decide⟩⟩
instance : TFld Tryz.prog 209 3 3 2 1 := ⟨⟨_, _, Tryz.underlying209, rfl, rfl, rfl, Tryz.sizeOf2, by decide⟩⟩
instance : TFld Tryz.prog 209 4 4 5 1 := ⟨⟨_, _, Tryz.underlying209, rfl, rfl, rfl, Tryz.sizeOf5, by decide⟩⟩
instance : TFld Tryz.prog 209 5 5 207 5 := ⟨⟨_, _, Tryz.underlying209, rfl, rfl, rfl, Tryz.sizeOf207, by decide⟩⟩
instance : TBuild Tryz.prog 209 zc209 [(0, 1), (1, 1), (2, 1), (3, 1), (4, 1), (5, 5)] := ⟨fun _ => by kernel_rfl⟩
instance : TSize Tryz.prog 210 1 := ⟨Tryz.sizeOf210⟩
instance : TAgg Tryz.prog 210 false := ⟨Tryz.isAgg210⟩
instance : TZero Tryz.prog 210 (Go.Value.pointer Option.none) := ⟨Tryz.zeroValue210⟩
theorem row210 : (Tryz.prog.info? 210).map (fun i => (i.size, i.bytes)) = some (1, 8) := by kernel_rfl
instance : TUnd Tryz.prog 210 (.pointer 32) := ⟨Tryz.underlying210⟩
instance : TSize Tryz.prog 211 1 := ⟨Tryz.sizeOf211⟩
instance : TAgg Tryz.prog 211 false := ⟨Tryz.isAgg211⟩
instance : TZero Tryz.prog 211 (Go.Value.nilFunc) := ⟨Tryz.zeroValue211⟩
theorem row211 : (Tryz.prog.info? 211).map (fun i => (i.size, i.bytes)) = some (1, 8) := by kernel_rfl
instance : TSize Tryz.prog 212 1 := ⟨Tryz.sizeOf212⟩
instance : TAgg Tryz.prog 212 false := ⟨Tryz.isAgg212⟩
instance : TZero Tryz.prog 212 (Go.Value.nilFunc) := ⟨Tryz.zeroValue212⟩
theorem row212 : (Tryz.prog.info? 212).map (fun i => (i.size, i.bytes)) = some (1, 8) := by kernel_rfl
instance : TSize Tryz.prog 213 1 := ⟨Tryz.sizeOf213⟩
instance : TAgg Tryz.prog 213 false := ⟨Tryz.isAgg213⟩
instance : TZero Tryz.prog 213 (Go.Value.nilFunc) := ⟨Tryz.zeroValue213⟩
theorem row213 : (Tryz.prog.info? 213).map (fun i => (i.size, i.bytes)) = some (1, 8) := by kernel_rfl
instance : TSize Tryz.prog 214 1 := ⟨Tryz.sizeOf214⟩
instance : TAgg Tryz.prog 214 false := ⟨Tryz.isAgg214⟩
instance : TZero Tryz.prog 214 (Go.Value.nilFunc) := ⟨Tryz.zeroValue214⟩
theorem row214 : (Tryz.prog.info? 214).map (fun i => (i.size, i.bytes)) = some (1, 8) := by kernel_rfl
instance : TSize Tryz.prog 215 1 := ⟨Tryz.sizeOf215⟩
instance : TAgg Tryz.prog 215 false := ⟨Tryz.isAgg215⟩
instance : TZero Tryz.prog 215 (Go.Value.nilFunc) := ⟨Tryz.zeroValue215⟩
theorem row215 : (Tryz.prog.info? 215).map (fun i => (i.size, i.bytes)) = some (1, 8) := by kernel_rfl
instance : TSize Tryz.prog 216 1 := ⟨Tryz.sizeOf216⟩
instance : TAgg Tryz.prog 216 false := ⟨Tryz.isAgg216⟩
instance : TZero Tryz.prog 216 (Go.Value.nilFunc) := ⟨Tryz.zeroValue216⟩
theorem row216 : (Tryz.prog.info? 216).map (fun i => (i.size, i.bytes)) = some (1, 8) := by kernel_rfl
instance : TSize Tryz.prog 217 1 := ⟨Tryz.sizeOf217⟩
instance : TAgg Tryz.prog 217 false := ⟨Tryz.isAgg217⟩
instance : TZero Tryz.prog 217 (Go.Value.nilFunc) := ⟨Tryz.zeroValue217⟩
theorem row217 : (Tryz.prog.info? 217).map (fun i => (i.size, i.bytes)) = some (1, 8) := by kernel_rfl
instance : TSize Tryz.prog 218 1 := ⟨Tryz.sizeOf218⟩
instance : TAgg Tryz.prog 218 false := ⟨Tryz.isAgg218⟩
instance : TZero Tryz.prog 218 (Go.Value.nilFunc) := ⟨Tryz.zeroValue218⟩
theorem row218 : (Tryz.prog.info? 218).map (fun i => (i.size, i.bytes)) = some (1, 8) := by kernel_rfl
instance : TSize Tryz.prog 219 1 := ⟨Tryz.sizeOf219⟩
instance : TAgg Tryz.prog 219 false := ⟨Tryz.isAgg219⟩
instance : TZero Tryz.prog 219 (Go.Value.pointer Option.none) := ⟨Tryz.zeroValue219⟩
theorem row219 : (Tryz.prog.info? 219).map (fun i => (i.size, i.bytes)) = some (1, 8) := by kernel_rfl
instance : TUnd Tryz.prog 219 (.pointer 23) := ⟨Tryz.underlying219⟩
instance : TSize Tryz.prog 220 1 := ⟨Tryz.sizeOf220⟩
instance : TAgg Tryz.prog 220 false := ⟨Tryz.isAgg220⟩
instance : TZero Tryz.prog 220 (Go.Value.pointer Option.none) := ⟨Tryz.zeroValue220⟩
theorem row220 : (Tryz.prog.info? 220).map (fun i => (i.size, i.bytes)) = some (1, 8) := by kernel_rfl
instance : TUnd Tryz.prog 220 (.pointer 209) := ⟨Tryz.underlying220⟩
instance : TSize Tryz.prog 221 1 := ⟨Tryz.sizeOf221⟩
instance : TAgg Tryz.prog 221 false := ⟨Tryz.isAgg221⟩
instance : TZero Tryz.prog 221 (Go.Value.nilFunc) := ⟨Tryz.zeroValue221⟩
theorem row221 : (Tryz.prog.info? 221).map (fun i => (i.size, i.bytes)) = some (1, 8) := by kernel_rfl
instance : TSize Tryz.prog 222 1 := ⟨Tryz.sizeOf222⟩
instance : TAgg Tryz.prog 222 false := ⟨Tryz.isAgg222⟩
instance : TZero Tryz.prog 222 (Go.Value.pointer Option.none) := ⟨Tryz.zeroValue222⟩
theorem row222 : (Tryz.prog.info? 222).map (fun i => (i.size, i.bytes)) = some (1, 8) := by kernel_rfl
instance : TUnd Tryz.prog 222 (.pointer 207) := ⟨Tryz.underlying222⟩
instance : TSize Tryz.prog 223 1 := ⟨Tryz.sizeOf223⟩
instance : TAgg Tryz.prog 223 false := ⟨Tryz.isAgg223⟩
instance : TZero Tryz.prog 223 (Go.Value.nilFunc) := ⟨Tryz.zeroValue223⟩
theorem row223 : (Tryz.prog.info? 223).map (fun i => (i.size, i.bytes)) = some (1, 8) := by kernel_rfl
instance : TSize Tryz.prog 224 1 := ⟨Tryz.sizeOf224⟩
instance : TAgg Tryz.prog 224 false := ⟨Tryz.isAgg224⟩
instance : TZero Tryz.prog 224 (Go.Value.nilFunc) := ⟨Tryz.zeroValue224⟩
theorem row224 : (Tryz.prog.info? 224).map (fun i => (i.size, i.bytes)) = some (1, 8) := by kernel_rfl
instance : TSize Tryz.prog 225 4 := ⟨Tryz.sizeOf225⟩
instance : TAgg Tryz.prog 225 true := ⟨Tryz.isAgg225⟩
def zc225 : Array Value :=  #[Go.Value.pointer Option.none, Go.Value.pointer Option.none, Go.Value.pointer Option.none, Go.Value.string { data := #[] }]
theorem zc225_size : zc225.size = 4 := rfl
instance : TZero Tryz.prog 225 (.agg zc225) := ⟨Tryz.zeroValue225⟩
theorem row225 : (Tryz.prog.info? 225).map (fun i => (i.size, i.bytes)) = some (4, 40) := by kernel_rfl
instance : TFld Tryz.prog 225 0 0 17 1 := ⟨⟨_, _, Tryz.underlying225, rfl, rfl, rfl, Tryz.sizeOf17, by decide⟩⟩
instance : TFld Tryz.prog 225 1 1 17 1 := ⟨⟨_, _, Tryz.underlying225, rfl, rfl, rfl, Tryz.sizeOf17, by decide⟩⟩
instance : TFld Tryz.prog 225 2 2 17 1 := ⟨⟨_, _, Tryz.underlying225, rfl, rfl, rfl, Tryz.sizeOf17, by decide⟩⟩
instance : TFld Tryz.prog 225 3 3 9 1 := ⟨⟨_, _, Tryz.underlying225, rfl, rfl, rfl, Tryz.sizeOf9, by decide⟩⟩
instance : TBuild Tryz.prog 225 zc225 [(0, 1), (1, 1), (2, 1), (3, 1)] := ⟨fun _ => by kernel_rfl⟩
instance : TSize Tryz.prog 226 4 := ⟨Tryz.sizeOf226⟩
instance : TAgg Tryz.prog 226 true := ⟨Tryz.isAgg226⟩
def zc226 : Array Value :=  #[Go.Value.pointer Option.none, Go.Value.pointer Option.none, Go.Value.pointer Option.none, Go.Value.string { data := #[] }]
theorem zc226_size : zc226.size = 4 := rfl
instance : TZero Tryz.prog 226 (.agg zc226) := ⟨Tryz.zeroValue226⟩
theorem row226 : (Tryz.prog.info? 226).map (fun i => (i.size, i.bytes)) = some (4, 40) := by kernel_rfl
instance : TFld Tryz.prog 226 0 0 17 1 := ⟨⟨_, _, Tryz.underlying226, rfl, rfl, rfl, Tryz.sizeOf17, by decide⟩⟩
instance : TFld Tryz.prog 226 1 1 17 1 := ⟨⟨_, _, Tryz.underlying226, rfl, rfl, rfl, Tryz.sizeOf17, by decide⟩⟩
instance : TFld Tryz.prog 226 2 2 17 1 := ⟨⟨_, _, Tryz.underlying226, rfl, rfl, rfl, Tryz.sizeOf17, by decide⟩⟩
instance : TFld Tryz.prog 226 3 3 9 1 := ⟨⟨_, _, Tryz.underlying226, rfl, rfl, rfl, Tryz.sizeOf9, by decide⟩⟩
instance : TBuild Tryz.prog 226 zc226 [(0, 1), (1, 1), (2, 1), (3, 1)] := ⟨fun _ => by kernel_rfl⟩
instance : TSize Tryz.prog 227 0 := ⟨Tryz.sizeOf227⟩
instance : TAgg Tryz.prog 227 true := ⟨Tryz.isAgg227⟩
def zc227 : Array Value :=  #[]
theorem zc227_size : zc227.size = 0 := rfl
instance : TZero Tryz.prog 227 (.agg zc227) := ⟨Tryz.zeroValue227⟩
instance : TUnd Tryz.prog 227 (.array 0 16) := ⟨Tryz.underlying227⟩
instance : TSize Tryz.prog 228 0 := ⟨Tryz.sizeOf228⟩
instance : TAgg Tryz.prog 228 true := ⟨Tryz.isAgg228⟩
def zc228 : Array Value :=  #[]
theorem zc228_size : zc228.size = 0 := rfl
instance : TZero Tryz.prog 228 (.agg zc228) := ⟨Tryz.zeroValue228⟩
instance : TSize Tryz.prog 229 0 := ⟨Tryz.sizeOf229⟩
instance : TAgg Tryz.prog 229 true := ⟨Tryz.isAgg229⟩
def zc229 : Array Value :=  #[]
theorem zc229_size : zc229.size = 0 := rfl
instance : TZero Tryz.prog 229 (.agg zc229) := ⟨Tryz.zeroValue229⟩
instance : TSize Tryz.prog 230 1 := ⟨Tryz.sizeOf230⟩
instance : TAgg Tryz.prog 230 false := ⟨Tryz.isAgg230⟩
instance : TZero Tryz.prog 230 (Go.Value.nilFunc) := ⟨Tryz.zeroValue230⟩
theorem row230 : (Tryz.prog.info? 230).map (fun i => (i.size, i.bytes)) = some (1, 8) := by kernel_rfl
instance : TSize Tryz.prog 231 1 := ⟨Tryz.sizeOf231⟩
instance : TAgg Tryz.prog 231 false := ⟨Tryz.isAgg231⟩
instance : TZero Tryz.prog 231 (Go.Value.int Go.IntKind.u8 0) := ⟨Tryz.zeroValue231⟩
theorem row231 : (Tryz.prog.info? 231).map (fun i => (i.size, i.bytes)) = some (1, 1) := by kernel_rfl
instance : TUnd Tryz.prog 231 (.int Go.IntKind.u8) := ⟨Tryz.underlying231⟩
instance : TSize Tryz.prog 232 1 := ⟨Tryz.sizeOf232⟩
instance : TAgg Tryz.prog 232 false := ⟨Tryz.isAgg232⟩
instance : TZero Tryz.prog 232 (Go.Value.nilFunc) := ⟨Tryz.zeroValue232⟩
theorem row232 : (Tryz.prog.info? 232).map (fun i => (i.size, i.bytes)) = some (1, 8) := by kernel_rfl
instance : TSize Tryz.prog 233 1 := ⟨Tryz.sizeOf233⟩
instance : TAgg Tryz.prog 233 false := ⟨Tryz.isAgg233⟩
instance : TZero Tryz.prog 233 (Go.Value.int Go.IntKind.i32 0) := ⟨Tryz.zeroValue233⟩
theorem row233 : (Tryz.prog.info? 233).map (fun i => (i.size, i.bytes)) = some (1, 4) := by kernel_rfl
instance : TUnd Tryz.prog 233 (.int Go.IntKind.i32) := ⟨Tryz.underlying233⟩
instance : TSize Tryz.prog 234 1 := ⟨Tryz.sizeOf234⟩
instance : TAgg Tryz.prog 234 false := ⟨Tryz.isAgg234⟩
instance : TZero Tryz.prog 234 (Go.Value.int Go.IntKind.i32 0) := ⟨Tryz.zeroValue234⟩
theorem row234 : (Tryz.prog.info? 234).map (fun i => (i.size, i.bytes)) = some (1, 4) := by kernel_rfl
instance : TUnd Tryz.prog 234 (.int Go.IntKind.i32) := ⟨Tryz.underlying234⟩
instance : TSize Tryz.prog 235 11 := ⟨Tryz.sizeOf235⟩
instance : TAgg Tryz.prog 235 true := ⟨Tryz.isAgg235⟩
def zc235 : Array Value :=  #[Go.Value.int Go.IntKind.u64 0, Go.Value.int Go.IntKind.u64 0, Go.Value.int Go.IntKind.u32 0, Go.Value.int Go.IntKind.u8 0, Go.Value.int Go.IntKind.u8 0, Go.Value.int Go.IntKind.u8 0, Go.Value.int Go.IntKind.u8 0, Go.Value.nilFunc, Go.Value.pointer Option.none, Go.Value.int Go.IntKind.i32 0, Go.Value.int Go.IntKind.i32 0]
theorem zc235_size : zc235.size = 11 := rfl
instance : TZero Tryz.prog 235 (.agg zc235) := ⟨Tryz.zeroValue235⟩
theorem row235 : (Tryz.prog.info? 235).map (fun i => (i.size, i.bytes)) = some (11, 48) := by kernel_rfl
instance : TFld Tryz.prog 235 0 0 12 1 := ⟨⟨_, _, Tryz.underlying235, rfl, rfl, rfl, Tryz.sizeOf12, by decide⟩⟩
instance : TFld Tryz.prog 235 1 1 12 1 := ⟨⟨_, _, Tryz.underlying235, rfl, rfl, rfl, Tryz.sizeOf12, by decide⟩⟩
instance : TFld Tryz.prog 235 2 2 24 1 := ⟨⟨_, _, Tryz.underlying235, rfl, rfl, rfl, Tryz.sizeOf24, by decide⟩⟩
instance : TFld Tryz.prog 235 3 3 231 1 := ⟨⟨_, _, Tryz.underlying235, rfl, rfl, rfl, Tryz.sizeOf231, by decide⟩⟩
instance : TFld Tryz.prog 235 4 4 5 1 := ⟨⟨_, _, Tryz.underlying235, rfl, rfl, rfl, Tryz.sizeOf5, by decide⟩⟩
instance : TFld Tryz.prog 235 5 5 5 1 := ⟨⟨_, _, Tryz.underlying235, rfl, rfl, rfl, Tryz.sizeOf5, by decide⟩⟩
instance : TFld Tryz.prog 235 6 6 138 1 := ⟨⟨_, _, Tryz.underlying235, rfl, rfl, rfl, Tryz.sizeOf138, by decide⟩⟩
instance : TFld Tryz.prog 235 7 7 232 1 := ⟨⟨_, _, Tryz.underlying235, rfl, rfl, rfl, Tryz.sizeOf232, by decide⟩⟩
instance : TFld Tryz.prog 235 8 8 198 1 := ⟨⟨_, _, Tryz.underlying235, rfl, rfl, rfl, Tryz.sizeOf198, by decide⟩⟩
instance : TFld Tryz.prog 235 9 9 233 1 := ⟨⟨_, _, Tryz.underlying235, rfl, rfl, rfl, Tryz.sizeOf233, by decide⟩⟩
instance : TFld Tryz.prog 235 10 10 234 1 := ⟨⟨_, _, Tryz.underlying235, rfl, rfl, rfl, Tryz.sizeOf234, by decide⟩⟩
instance : TBuild Tryz.prog 235 zc235 [(0, 1), (1, 1), (2, 1), (3, 1), (4, 1), (5, 1), (6, 1), (7, 1), (8, 1), (9, 1), (10, 1)] := ⟨fun _ => by kernel_rfl⟩
instance : TSize Tryz.prog 236 11 := ⟨Tryz.sizeOf236⟩
instance : TAgg Tryz.prog 236 true := ⟨Tryz.isAgg236⟩
def zc236 : Array Value :=  #[Go.Value.int Go.IntKind.u64 0, Go.Value.int Go.IntKind.u64 0, Go.Value.int Go.IntKind.u32 0, Go.Value.int Go.IntKind.u8 0, Go.Value.int Go.IntKind.u8 0, Go.Value.int Go.IntKind.u8 0, Go.Value.int Go.IntKind.u8 0, Go.Value.nilFunc, Go.Value.pointer Option.none, Go.Value.int Go.IntKind.i32 0, Go.Value.int Go.IntKind.i32 0]
theorem zc236_size : zc236.size = 11 := rfl
instance : TZero Tryz.prog 236 (.agg zc236) := ⟨Tryz.zeroValue236⟩
theorem row236 : (Tryz.prog.info? 236).map (fun i => (i.size, i.bytes)) = some (11, 48) := by kernel_rfl
instance : TFld Tryz.prog 236 0 0 12 1 := ⟨⟨_, _, Tryz.underlying236, rfl, rfl, rfl, Tryz.sizeOf12, by decide⟩⟩
instance : TFld Tryz.prog 236 1 1 12 1 := ⟨⟨_, _, Tryz.underlying236, rfl, rfl, rfl, Tryz.sizeOf12, by decide⟩⟩
instance : TFld Tryz.prog 236 2 2 24 1 := ⟨⟨_, _, Tryz.underlying236, rfl, rfl, rfl, Tryz.sizeOf24, by decide⟩⟩
instance : TFld Tryz.prog 236 3 3 231 1 := ⟨⟨_, _, Tryz.underlying236, rfl, rfl, rfl, Tryz.sizeOf231, by decide⟩⟩
instance : TFld Tryz.prog 236 4 4 5 1 := ⟨⟨_, _, Tryz.underlying236, rfl, rfl, rfl, Tryz.sizeOf5, by decide⟩⟩
instance : TFld Tryz.prog 236 5 5 5 1 := ⟨⟨_, _, Tryz.underlying236, rfl, rfl, rfl, Tryz.sizeOf5, by decide⟩⟩
instance : TFld Tryz.prog 236 6 6 138 1 := ⟨⟨_, _, Tryz.underlying236, rfl, rfl, rfl, Tryz.sizeOf138, by decide⟩⟩
instance : TFld Tryz.prog 236 7 7 232 1 := ⟨⟨_, _, Tryz.underlying236, rfl, rfl, rfl, Tryz.sizeOf232, by decide⟩⟩
instance : TFld Tryz.prog 236 8 8 198 1 := ⟨⟨_, _, Tryz.underlying236, rfl, rfl, rfl, Tryz.sizeOf198, by decide⟩⟩
instance : TFld Tryz.prog 236 9 9 233 1 := ⟨⟨_, _, Tryz.underlying236, rfl, rfl, rfl, Tryz.sizeOf233, by decide⟩⟩
instance : TFld Tryz.prog 236 10 10 234 1 := ⟨⟨_, _, Tryz.underlying236, rfl, rfl, rfl, Tryz.sizeOf234, by decide⟩⟩
instance : TBuild Tryz.prog 236 zc236 [(0, 1), (1, 1), (2, 1), (3, 1), (4, 1), (5, 1), (6, 1), (7, 1), (8, 1), (9, 1), (10, 1)] := ⟨fun _ => by kernel_rfl⟩
instance : TSize Tryz.prog 237 1 := ⟨Tryz.sizeOf237⟩
instance : TAgg Tryz.prog 237 false := ⟨Tryz.isAgg237⟩
instance : TZero Tryz.prog 237 (Go.Value.nilFunc) := ⟨Tryz.zeroValue237⟩
theorem row237 : (Tryz.prog.info? 237).map (fun i => (i.size, i.bytes)) = some (1, 8) := by kernel_rfl
instance : TSize Tryz.prog 238 1 := ⟨Tryz.sizeOf238⟩
instance : TAgg Tryz.prog 238 false := ⟨Tryz.isAgg238⟩
instance : TZero Tryz.prog 238 (Go.Value.nilFunc) := ⟨Tryz.zeroValue238⟩
theorem row238 : (Tryz.prog.info? 238).map (fun i => (i.size, i.bytes)) = some (1, 8) := by kernel_rfl
instance : TSize Tryz.prog 239 1 := ⟨Tryz.sizeOf239⟩
instance : TAgg Tryz.prog 239 false := ⟨Tryz.isAgg239⟩
instance : TZero Tryz.prog 239 (Go.Value.nilFunc) := ⟨Tryz.zeroValue239⟩
theorem row239 : (Tryz.prog.info? 239).map (fun i => (i.size, i.bytes)) = some (1, 8) := by kernel_rfl
instance : TSize Tryz.prog 240 1 := ⟨Tryz.sizeOf240⟩
instance : TAgg Tryz.prog 240 false := ⟨Tryz.isAgg240⟩
instance : TZero Tryz.prog 240 (Go.Value.nilFunc) := ⟨Tryz.zeroValue240⟩
theorem row240 : (Tryz.prog.info? 240).map (fun i => (i.size, i.bytes)) = some (1, 8) := by kernel_rfl
instance : TSize Tryz.prog 241 1 := ⟨Tryz.sizeOf241⟩
instance : TAgg Tryz.prog 241 false := ⟨Tryz.isAgg241⟩
instance : TZero Tryz.prog 241 (Go.Value.nilFunc) := ⟨Tryz.zeroValue241⟩
theorem row241 : (Tryz.prog.info? 241).map (fun i => (i.size, i.bytes)) = some (1, 8) := by kernel_rfl
instance : TSize Tryz.prog 242 1 := ⟨Tryz.sizeOf242⟩
instance : TAgg Tryz.prog 242 false := ⟨Tryz.isAgg242⟩
instance : TZero Tryz.prog 242 (Go.Value.nilFunc) := ⟨Tryz.zeroValue242⟩
theorem row242 : (Tryz.prog.info? 242).map (fun i => (i.size, i.bytes)) = some (1, 8) := by kernel_rfl
instance : TSize Tryz.prog 243 1 := ⟨Tryz.sizeOf243⟩
instance : TAgg Tryz.prog 243 false := ⟨Tryz.isAgg243⟩
instance : TZero Tryz.prog 243 (Go.Value.tuple #[Go.Value.int Go.IntKind.u8 0, Go.Value.nilIface]) := ⟨Tryz.zeroValue243⟩
theorem row243 : (Tryz.prog.info? 243).map (fun i => (i.size, i.bytes)) = some (1, 0) := by kernel_rfl
instance : TSize Tryz.prog 244 1 := ⟨Tryz.sizeOf244⟩
instance : TAgg Tryz.prog 244 false := ⟨Tryz.isAgg244⟩
instance : TZero Tryz.prog 244 (Go.Value.nilFunc) := ⟨Tryz.zeroValue244⟩
theorem row244 : (Tryz.prog.info? 244).map (fun i => (i.size, i.bytes)) = some (1, 8) := by kernel_rfl
instance : TSize Tryz.prog 245 1 := ⟨Tryz.sizeOf245⟩
instance : TAgg Tryz.prog 245 false := ⟨Tryz.isAgg245⟩
instance : TZero Tryz.prog 245 (Go.Value.nilFunc) := ⟨Tryz.zeroValue245⟩
theorem row245 : (Tryz.prog.info? 245).map (fun i => (i.size, i.bytes)) = some (1, 8) := by kernel_rfl
instance : TSize Tryz.prog 246 1 := ⟨Tryz.sizeOf246⟩
instance : TAgg Tryz.prog 246 false := ⟨Tryz.isAgg246⟩
instance : TZero Tryz.prog 246 (Go.Value.nilFunc) := ⟨Tryz.zeroValue246⟩
theorem row246 : (Tryz.prog.info? 246).map (fun i => (i.size, i.bytes)) = some (1, 8) := by kernel_rfl
instance : TSize Tryz.prog 247 1 := ⟨Tryz.sizeOf247⟩
instance : TAgg Tryz.prog 247 false := ⟨Tryz.isAgg247⟩
instance : TZero Tryz.prog 247 (Go.Value.tuple #[Go.Value.int Go.IntKind.i64 0, Go.Value.nilIface]) := ⟨Tryz.zeroValue247⟩
theorem row247 : (Tryz.prog.info? 247).map (fun i => (i.size, i.bytes)) = some (1, 0) := by kernel_rfl
instance : TSize Tryz.prog 248 1 := ⟨Tryz.sizeOf248⟩
instance : TAgg Tryz.prog 248 false := ⟨Tryz.isAgg248⟩
instance : TZero Tryz.prog 248 (Go.Value.nilFunc) := ⟨Tryz.zeroValue248⟩
theorem row248 : (Tryz.prog.info? 248).map (fun i => (i.size, i.bytes)) = some (1, 8) := by kernel_rfl
instance : TSize Tryz.prog 249 2 := ⟨Tryz.sizeOf249⟩
instance : TAgg Tryz.prog 249 true := ⟨Tryz.isAgg249⟩
def zc249 : Array Value :=  #[Go.Value.string { data := #[] }, Go.Value.int Go.IntKind.u8 0]
theorem zc249_size : zc249.size = 2 := rfl
instance : TZero Tryz.prog 249 (.agg zc249) := ⟨Tryz.zeroValue249⟩
theorem row249 : (Tryz.prog.info? 249).map (fun i => (i.size, i.bytes)) = some (2, 24) := by kernel_rfl
instance : TFld Tryz.prog 249 0 0 9 1 := ⟨⟨_, _, Tryz.underlying249, rfl, rfl, rfl, Tryz.sizeOf9, by decide⟩⟩
instance : TFld Tryz.prog 249 1 1 138 1 := ⟨⟨_, _, Tryz.underlying249, rfl, rfl, rfl, Tryz.sizeOf138, by decide⟩⟩
instance : TBuild Tryz.prog 249 zc249 [(0, 1), (1, 1)] := ⟨fun _ => by kernel_rfl⟩
instance : TSize Tryz.prog 250 2 := ⟨Tryz.sizeOf250⟩
instance : TAgg Tryz.prog 250 true := ⟨Tryz.isAgg250⟩
def zc250 : Array Value :=  #[Go.Value.string { data := #[] }, Go.Value.int Go.IntKind.u8 0]
theorem zc250_size : zc250.size = 2 := rfl
instance : TZero Tryz.prog 250 (.agg zc250) := ⟨Tryz.zeroValue250⟩
theorem row250 : (Tryz.prog.info? 250).map (fun i => (i.size, i.bytes)) = some (2, 24) := by kernel_rfl
instance : TFld Tryz.prog 250 0 0 9 1 := ⟨⟨_, _, Tryz.underlying250, rfl, rfl, rfl, Tryz.sizeOf9, by decide⟩⟩
instance : TFld Tryz.prog 250 1 1 138 1 := ⟨⟨_, _, Tryz.underlying250, rfl, rfl, rfl, Tryz.sizeOf138, by decide⟩⟩
instance : TBuild Tryz.prog 250 zc250 [(0, 1), (1, 1)] := ⟨fun _ => by kernel_rfl⟩
instance : TSize Tryz.prog 251 1 := ⟨Tryz.sizeOf251⟩
instance : TAgg Tryz.prog 251 false := ⟨Tryz.isAgg251⟩
instance : TZero Tryz.prog 251 (Go.Value.pointer Option.none) := ⟨Tryz.zeroValue251⟩
theorem row251 : (Tryz.prog.info? 251).map (fun i => (i.size, i.bytes)) = some (1, 8) := by kernel_rfl
instance : TUnd Tryz.prog 251 (.pointer 255) := ⟨Tryz.underlying251⟩
instance : TSize Tryz.prog 252 1 := ⟨Tryz.sizeOf252⟩
instance : TAgg Tryz.prog 252 false := ⟨Tryz.isAgg252⟩
instance : TZero Tryz.prog 252 (Go.Value.nilFunc) := ⟨Tryz.zeroValue252⟩
theorem row252 : (Tryz.prog.info? 252).map (fun i => (i.size, i.bytes)) = some (1, 8) := by kernel_rfl
instance : TSize Tryz.prog 253 1 := ⟨Tryz.sizeOf253⟩
instance : TAgg Tryz.prog 253 false := ⟨Tryz.isAgg253⟩
instance : TZero Tryz.prog 253 (Go.Value.int Go.IntKind.u16 0) := ⟨Tryz.zeroValue253⟩
theorem row253 : (Tryz.prog.info? 253).map (fun i => (i.size, i.bytes)) = some (1, 2) := by kernel_rfl
instance : TUnd Tryz.prog 253 (.int Go.IntKind.u16) := ⟨Tryz.underlying253⟩
instance : TSize Tryz.prog 254 5 := ⟨Tryz.sizeOf254⟩
instance : TAgg Tryz.prog 254 true := ⟨Tryz.isAgg254⟩
def zc254 : Array Value :=  #[Go.Value.int Go.IntKind.i32 0, Go.Value.int Go.IntKind.u16 0, Go.Value.int Go.IntKind.u16 0, Go.Value.int Go.IntKind.u32 0, Go.Value.int Go.IntKind.u32 0]
theorem zc254_size : zc254.size = 5 := rfl
instance : TZero Tryz.prog 254 (.agg zc254) := ⟨Tryz.zeroValue254⟩
theorem row254 : (Tryz.prog.info? 254).map (fun i => (i.size, i.bytes)) = some (5, 16) := by kernel_rfl
instance : TFld Tryz.prog 254 0 0 233 1 := ⟨⟨_, _, Tryz.underlying254, rfl, rfl, rfl, Tryz.sizeOf233, by decide⟩⟩
instance : TFld Tryz.prog 254 1 1 253 1 := ⟨⟨_, _, Tryz.underlying254, rfl, rfl, rfl, Tryz.sizeOf253, by decide⟩⟩
instance : TFld Tryz.prog 254 2 2 253 1 := ⟨⟨_, _, Tryz.underlying254, rfl, rfl, rfl, Tryz.sizeOf253, by decide⟩⟩
instance : TFld Tryz.prog 254 3 3 24 1 := ⟨⟨_, _, Tryz.underlying254, rfl, rfl, rfl, Tryz.sizeOf24, by decide⟩⟩
instance : TFld Tryz.prog 254 4 4 24 1 := ⟨⟨_, _, Tryz.underlying254, rfl, rfl, rfl, Tryz.sizeOf24, by decide⟩⟩
instance : TBuild Tryz.prog 254 zc254 [(0, 1), (1, 1), (2, 1), (3, 1), (4, 1)] := ⟨fun _ => by kernel_rfl⟩
instance : TSize Tryz.prog 255 5 := ⟨Tryz.sizeOf255⟩
instance : TAgg Tryz.prog 255 true := ⟨Tryz.isAgg255⟩
def zc255 : Array Value :=  #[Go.Value.int Go.IntKind.i32 0, Go.Value.int Go.IntKind.u16 0, Go.Value.int Go.IntKind.u16 0, Go.Value.int Go.IntKind.u32 0, Go.Value.int Go.IntKind.u32 0]
theorem zc255_size : zc255.size = 5 := rfl
instance : TZero Tryz.prog 255 (.agg zc255) := ⟨Tryz.zeroValue255⟩
theorem row255 : (Tryz.prog.info? 255).map (fun i => (i.size, i.bytes)) = some (5, 16) := by kernel_rfl
instance : TFld Tryz.prog 255 0 0 233 1 := ⟨⟨_, _, Tryz.underlying255, rfl, rfl, rfl, Tryz.sizeOf233, by decide⟩⟩
instance : TFld Tryz.prog 255 1 1 253 1 := ⟨⟨_, _, Tryz.underlying255, rfl, rfl, rfl, Tryz.sizeOf253, by decide⟩⟩
instance : TFld Tryz.prog 255 2 2 253 1 := ⟨⟨_, _, Tryz.underlying255, rfl, rfl, rfl, Tryz.sizeOf253, by decide⟩⟩
instance : TFld Tryz.prog 255 3 3 24 1 := ⟨⟨_, _, Tryz.underlying255, rfl, rfl, rfl, Tryz.sizeOf24, by decide⟩⟩
instance : TFld Tryz.prog 255 4 4 24 1 := ⟨⟨_, _, Tryz.underlying255, rfl, rfl, rfl, Tryz.sizeOf24, by decide⟩⟩
instance : TBuild Tryz.prog 255 zc255 [(0, 1), (1, 1), (2, 1), (3, 1), (4, 1)] := ⟨fun _ => by kernel_rfl⟩
instance : TSize Tryz.prog 256 1 := ⟨Tryz.sizeOf256⟩
instance : TAgg Tryz.prog 256 false := ⟨Tryz.isAgg256⟩
instance : TZero Tryz.prog 256 (Go.Value.slice Option.none 0 0) := ⟨Tryz.zeroValue256⟩
theorem row256 : (Tryz.prog.info? 256).map (fun i => (i.size, i.bytes)) = some (1, 24) := by kernel_rfl
instance : TUnd Tryz.prog 256 (.slice 259) := ⟨Tryz.underlying256⟩
instance : TSize Tryz.prog 257 1 := ⟨Tryz.sizeOf257⟩
instance : TAgg Tryz.prog 257 false := ⟨Tryz.isAgg257⟩
instance : TZero Tryz.prog 257 (Go.Value.int Go.IntKind.i32 0) := ⟨Tryz.zeroValue257⟩
theorem row257 : (Tryz.prog.info? 257).map (fun i => (i.size, i.bytes)) = some (1, 4) := by kernel_rfl
instance : TUnd Tryz.prog 257 (.int Go.IntKind.i32) := ⟨Tryz.underlying257⟩
instance : TSize Tryz.prog 258 4 := ⟨Tryz.sizeOf258⟩
instance : TAgg Tryz.prog 258 true := ⟨Tryz.isAgg258⟩
def zc258 : Array Value :=  #[Go.Value.int Go.IntKind.i32 0, Go.Value.int Go.IntKind.i32 0, Go.Value.int Go.IntKind.i32 0, Go.Value.int Go.IntKind.i32 0]
theorem zc258_size : zc258.size = 4 := rfl
instance : TZero Tryz.prog 258 (.agg zc258) := ⟨Tryz.zeroValue258⟩
theorem row258 : (Tryz.prog.info? 258).map (fun i => (i.size, i.bytes)) = some (4, 16) := by kernel_rfl
instance : TFld Tryz.prog 258 0 0 233 1 := ⟨⟨_, _, Tryz.underlying258, rfl, rfl, rfl, Tryz.sizeOf233, by decide⟩⟩
instance : TFld Tryz.prog 258 1 1 234 1 := ⟨⟨_, _, Tryz.underlying258, rfl, rfl, rfl, Tryz.sizeOf234, by decide⟩⟩
instance : TFld Tryz.prog 258 2 2 257 1 := ⟨⟨_, _, Tryz.underlying258, rfl, rfl, rfl, Tryz.sizeOf257, by decide⟩⟩
instance : TFld Tryz.prog 258 3 3 257 1 := ⟨⟨_, _, Tryz.underlying258, rfl, rfl, rfl, Tryz.sizeOf257, by decide⟩⟩
instance : TBuild Tryz.prog 258 zc258 [(0, 1), (1, 1), (2, 1), (3, 1)] := ⟨fun _ => by kernel_rfl⟩
instance : TSize Tryz.prog 259 4 := ⟨Tryz.sizeOf259⟩
instance : TAgg Tryz.prog 259 true := ⟨Tryz.isAgg259⟩
def zc259 : Array Value :=  #[Go.Value.int Go.IntKind.i32 0, Go.Value.int Go.IntKind.i32 0, Go.Value.int Go.IntKind.i32 0, Go.Value.int Go.IntKind.i32 0]
theorem zc259_size : zc259.size = 4 := rfl
instance : TZero Tryz.prog 259 (.agg zc259) := ⟨Tryz.zeroValue259⟩
theorem row259 : (Tryz.prog.info? 259).map (fun i => (i.size, i.bytes)) = some (4, 16) := by kernel_rfl
instance : TFld Tryz.prog 259 0 0 233 1 := ⟨⟨_, _, Tryz.underlying259, rfl, rfl, rfl, Tryz.sizeOf233, by decide⟩⟩
instance : TFld Tryz.prog 259 1 1 234 1 := ⟨⟨_, _, Tryz.underlying259, rfl, rfl, rfl, Tryz.sizeOf234, by decide⟩⟩
instance : TFld Tryz.prog 259 2 2 257 1 := ⟨⟨_, _, Tryz.underlying259, rfl, rfl, rfl, Tryz.sizeOf257, by decide⟩⟩
instance : TFld Tryz.prog 259 3 3 257 1 := ⟨⟨_, _, Tryz.underlying259, rfl, rfl, rfl, Tryz.sizeOf257, by decide⟩⟩
instance : TBuild Tryz.prog 259 zc259 [(0, 1), (1, 1), (2, 1), (3, 1)] := ⟨fun _ => by kernel_rfl⟩
instance : TRow Tryz.prog 0 #[Go.Value.tuple #[]] 1 0 := TRow.of Tryz.zeroValue0 rfl row0 rfl
instance : TRow Tryz.prog 1 #[Go.Value.nilFunc] 1 8 := TRow.of Tryz.zeroValue1 rfl row1 rfl
instance : TRow Tryz.prog 2 #[Go.Value.int Go.IntKind.i64 0] 1 8 := TRow.of Tryz.zeroValue2 rfl row2 rfl
instance : TRow Tryz.prog 3 #[Go.Value.int Go.IntKind.i64 0] 1 8 := TRow.of Tryz.zeroValue3 rfl row3 rfl
instance : TRow Tryz.prog 4 #[Go.Value.bool Bool.false] 1 1 := TRow.of Tryz.zeroValue4 rfl row4 rfl
instance : TRow Tryz.prog 5 #[Go.Value.int Go.IntKind.u8 0] 1 1 := TRow.of Tryz.zeroValue5 rfl row5 rfl
instance : TRow Tryz.prog 6 #[Go.Value.int Go.IntKind.u8 0] 1 1 := TRow.of Tryz.zeroValue6 rfl row6 rfl
instance : TRow Tryz.prog 7 zc7 4 24 := TRow.of Tryz.zeroValue7 rfl row7 rfl
instance : TRow Tryz.prog 8 zc8 4 24 := TRow.of Tryz.zeroValue8 rfl row8 rfl
instance : TRow Tryz.prog 9 #[Go.Value.string { data := #[] }] 1 16 := TRow.of Tryz.zeroValue9 rfl row9 rfl
instance : TRow Tryz.prog 10 #[Go.Value.string { data := #[] }] 1 16 := TRow.of Tryz.zeroValue10 rfl row10 rfl
instance : TRow Tryz.prog 11 #[Go.Value.string { data := #[] }] 1 16 := TRow.of Tryz.zeroValue11 rfl row11 rfl
instance : TRow Tryz.prog 12 #[Go.Value.int Go.IntKind.u64 0] 1 8 := TRow.of Tryz.zeroValue12 rfl row12 rfl
instance : TRow Tryz.prog 13 zc13 2 24 := TRow.of Tryz.zeroValue13 rfl row13 rfl
instance : TRow Tryz.prog 14 zc14 2 24 := TRow.of Tryz.zeroValue14 rfl row14 rfl
instance : TRow Tryz.prog 15 #[Go.Value.pointer Option.none] 1 8 := TRow.of Tryz.zeroValue15 rfl row15 rfl
instance : TRow Tryz.prog 16 #[Go.Value.pointer Option.none] 1 8 := TRow.of Tryz.zeroValue16 rfl row16 rfl
instance : TRow Tryz.prog 17 #[Go.Value.pointer Option.none] 1 8 := TRow.of Tryz.zeroValue17 rfl row17 rfl
instance : TRow Tryz.prog 18 zc18 1 8 := TRow.of Tryz.zeroValue18 rfl row18 rfl
instance : TRow Tryz.prog 19 zc19 1 8 := TRow.of Tryz.zeroValue19 rfl row19 rfl
instance : TRow Tryz.prog 20 #[Go.Value.nilIface] 1 16 := TRow.of Tryz.zeroValue20 rfl row20 rfl
instance : TRow Tryz.prog 21 #[Go.Value.int Go.IntKind.i32 0] 1 4 := TRow.of Tryz.zeroValue21 rfl row21 rfl
instance : TRow Tryz.prog 22 #[Go.Value.nilFunc] 1 8 := TRow.of Tryz.zeroValue22 rfl row22 rfl
instance : TRow Tryz.prog 23 #[Go.Value.int Go.IntKind.u64 0] 1 8 := TRow.of Tryz.zeroValue23 rfl row23 rfl
instance : TRow Tryz.prog 24 #[Go.Value.int Go.IntKind.u32 0] 1 4 := TRow.of Tryz.zeroValue24 rfl row24 rfl
instance : TRow Tryz.prog 25 zc25 6 32 := TRow.of Tryz.zeroValue25 rfl row25 rfl
instance : TRow Tryz.prog 26 zc26 6 32 := TRow.of Tryz.zeroValue26 rfl row26 rfl
instance : TRow Tryz.prog 27 #[Go.Value.slice Option.none 0 0] 1 24 := TRow.of Tryz.zeroValue27 rfl row27 rfl
instance : TRow Tryz.prog 28 zc28 4 32 := TRow.of Tryz.zeroValue28 rfl row28 rfl
instance : TRow Tryz.prog 29 zc29 4 32 := TRow.of Tryz.zeroValue29 rfl row29 rfl
instance : TRow Tryz.prog 30 zc30 10 96 := TRow.of Tryz.zeroValue30 rfl row30 rfl
instance : TRow Tryz.prog 31 zc31 10 96 := TRow.of Tryz.zeroValue31 rfl row31 rfl
instance : TRow Tryz.prog 32 #[Go.Value.slice Option.none 0 0] 1 24 := TRow.of Tryz.zeroValue32 rfl row32 rfl
instance : TRow Tryz.prog 33 zc33 4 48 := TRow.of Tryz.zeroValue33 rfl row33 rfl
instance : TRow Tryz.prog 34 zc34 4 48 := TRow.of Tryz.zeroValue34 rfl row34 rfl
instance : TRow Tryz.prog 35 zc35 24 208 := TRow.of Tryz.zeroValue35 rfl row35 rfl
instance : TRow Tryz.prog 36 zc36 24 208 := TRow.of Tryz.zeroValue36 rfl row36 rfl
instance : TRow Tryz.prog 37 zc37 29 248 := TRow.of Tryz.zeroValue37 rfl row37 rfl
instance : TRow Tryz.prog 38 zc38 29 248 := TRow.of Tryz.zeroValue38 rfl row38 rfl
instance : TRow Tryz.prog 39 #[Go.Value.nilFunc] 1 8 := TRow.of Tryz.zeroValue39 rfl row39 rfl
instance : TRow Tryz.prog 40 #[Go.Value.int Go.IntKind.i64 0] 1 8 := TRow.of Tryz.zeroValue40 rfl row40 rfl
instance : TRow Tryz.prog 41 zc41 30 256 := TRow.of Tryz.zeroValue41 rfl row41 rfl
instance : TRow Tryz.prog 42 #[Go.Value.slice Option.none 0 0] 1 24 := TRow.of Tryz.zeroValue42 rfl row42 rfl
instance : TRow Tryz.prog 43 #[Go.Value.tuple #[Go.Value.string { data := #[] }, Go.Value.int Go.IntKind.i64 0]] 1 0 := TRow.of Tryz.zeroValue43 rfl row43 rfl
instance : TRow Tryz.prog 44 #[Go.Value.nilFunc] 1 8 := TRow.of Tryz.zeroValue44 rfl row44 rfl
instance : TRow Tryz.prog 45 #[Go.Value.nilIface] 1 16 := TRow.of Tryz.zeroValue45 rfl row45 rfl
instance : TRow Tryz.prog 46 #[Go.Value.nilIface] 1 16 := TRow.of Tryz.zeroValue46 rfl row46 rfl
instance : TRow Tryz.prog 47 #[Go.Value.tuple #[Go.Value.agg #[Go.Value.int Go.IntKind.i64 0, Go.Value.int Go.IntKind.i64 0, Go.Value.bool Bool.false, Go.Value.int Go.IntKind.u64 0, Go.Value.int Go.IntKind.i64 0, Go.Value.int Go.IntKind.i64 0, Go.Value.int Go.IntKind.i64 0, Go.Value.int Go.IntKind.u32 0, Go.Value.int Go.IntKind.i64 0, Go.Value.int Go.IntKind.i64 0, Go.Value.int Go.IntKind.u8 0, Go.Value.bool Bool.false, Go.Value.bool Bool.false, Go.Value.int Go.IntKind.i64 0, Go.Value.int Go.IntKind.i64 0, Go.Value.int Go.IntKind.i64 0, Go.Value.int Go.IntKind.i64 0, Go.Value.slice Option.none 0 0, Go.Value.int Go.IntKind.i64 0, Go.Value.int Go.IntKind.i64 0, Go.Value.int Go.IntKind.i64 0, Go.Value.int Go.IntKind.i64 0, Go.Value.int Go.IntKind.i64 0, Go.Value.int Go.IntKind.i64 0, Go.Value.int Go.IntKind.i64 0, Go.Value.int Go.IntKind.i64 0, Go.Value.int Go.IntKind.i64 0, Go.Value.bool Bool.false, Go.Value.slice Option.none 0 0], Go.Value.nilIface]] 1 0 := TRow.of Tryz.zeroValue47 rfl row47 rfl
instance : TRow Tryz.prog 48 #[Go.Value.nilFunc] 1 8 := TRow.of Tryz.zeroValue48 rfl row48 rfl
instance : TRow Tryz.prog 49 #[Go.Value.nilFunc] 1 8 := TRow.of Tryz.zeroValue49 rfl row49 rfl
instance : TRow Tryz.prog 50 zc50 2 16 := TRow.of Tryz.zeroValue50 rfl row50 rfl
instance : TRow Tryz.prog 51 zc51 2 16 := TRow.of Tryz.zeroValue51 rfl row51 rfl
instance : TRow Tryz.prog 52 #[Go.Value.nilFunc] 1 8 := TRow.of Tryz.zeroValue52 rfl row52 rfl
instance : TRow Tryz.prog 53 zc53 3 24 := TRow.of Tryz.zeroValue53 rfl row53 rfl
instance : TRow Tryz.prog 54 zc54 21 168 := TRow.of Tryz.zeroValue54 rfl row54 rfl
instance : TRow Tryz.prog 55 #[Go.Value.pointer Option.none] 1 8 := TRow.of Tryz.zeroValue55 rfl row55 rfl
instance : TRow Tryz.prog 56 #[Go.Value.nilFunc] 1 8 := TRow.of Tryz.zeroValue56 rfl row56 rfl
instance : TRow Tryz.prog 57 #[Go.Value.pointer Option.none] 1 8 := TRow.of Tryz.zeroValue57 rfl row57 rfl
instance : TRow Tryz.prog 58 #[Go.Value.nilFunc] 1 8 := TRow.of Tryz.zeroValue58 rfl row58 rfl
instance : TRow Tryz.prog 59 #[Go.Value.tuple #[Go.Value.string { data := #[] }, Go.Value.bool Bool.false]] 1 0 := TRow.of Tryz.zeroValue59 rfl row59 rfl
instance : TRow Tryz.prog 60 #[Go.Value.nilFunc] 1 8 := TRow.of Tryz.zeroValue60 rfl row60 rfl
instance : TRow Tryz.prog 61 #[Go.Value.nilFunc] 1 8 := TRow.of Tryz.zeroValue61 rfl row61 rfl
instance : TRow Tryz.prog 62 #[Go.Value.tuple #[Go.Value.agg #[Go.Value.int Go.IntKind.i64 0, Go.Value.int Go.IntKind.i64 0, Go.Value.int Go.IntKind.u32 0, Go.Value.int Go.IntKind.i64 0, Go.Value.int Go.IntKind.i64 0, Go.Value.int Go.IntKind.u8 0, Go.Value.bool Bool.false, Go.Value.bool Bool.false, Go.Value.int Go.IntKind.i64 0, Go.Value.int Go.IntKind.i64 0, Go.Value.int Go.IntKind.i64 0, Go.Value.int Go.IntKind.i64 0, Go.Value.slice Option.none 0 0, Go.Value.int Go.IntKind.i64 0, Go.Value.int Go.IntKind.i64 0, Go.Value.int Go.IntKind.i64 0, Go.Value.int Go.IntKind.i64 0, Go.Value.int Go.IntKind.i64 0, Go.Value.int Go.IntKind.i64 0, Go.Value.int Go.IntKind.i64 0, Go.Value.int Go.IntKind.i64 0, Go.Value.int Go.IntKind.i64 0, Go.Value.bool Bool.false, Go.Value.slice Option.none 0 0], Go.Value.bool Bool.false]] 1 0 := TRow.of Tryz.zeroValue62 rfl row62 rfl
instance : TRow Tryz.prog 63 #[Go.Value.nilFunc] 1 8 := TRow.of Tryz.zeroValue63 rfl row63 rfl
instance : TRow Tryz.prog 64 #[Go.Value.nilFunc] 1 8 := TRow.of Tryz.zeroValue64 rfl row64 rfl
instance : TRow Tryz.prog 65 #[Go.Value.nilFunc] 1 8 := TRow.of Tryz.zeroValue65 rfl row65 rfl
instance : TRow Tryz.prog 66 #[Go.Value.nilFunc] 1 8 := TRow.of Tryz.zeroValue66 rfl row66 rfl
instance : TRow Tryz.prog 67 #[Go.Value.nilFunc] 1 8 := TRow.of Tryz.zeroValue67 rfl row67 rfl
instance : TRow Tryz.prog 68 #[Go.Value.nilFunc] 1 8 := TRow.of Tryz.zeroValue68 rfl row68 rfl
instance : TRow Tryz.prog 69 zc69 3 24 := TRow.of Tryz.zeroValue69 rfl row69 rfl
instance : TRow Tryz.prog 70 zc70 3 24 := TRow.of Tryz.zeroValue70 rfl row70 rfl
instance : TRow Tryz.prog 71 zc71 9 72 := TRow.of Tryz.zeroValue71 rfl row71 rfl
instance : TRow Tryz.prog 72 #[Go.Value.slice Option.none 0 0] 1 24 := TRow.of Tryz.zeroValue72 rfl row72 rfl
instance : TRow Tryz.prog 73 #[Go.Value.nilFunc] 1 8 := TRow.of Tryz.zeroValue73 rfl row73 rfl
instance : TRow Tryz.prog 74 #[Go.Value.nilFunc] 1 8 := TRow.of Tryz.zeroValue74 rfl row74 rfl
instance : TRow Tryz.prog 75 #[Go.Value.nilFunc] 1 8 := TRow.of Tryz.zeroValue75 rfl row75 rfl
instance : TRow Tryz.prog 76 #[Go.Value.pointer Option.none] 1 8 := TRow.of Tryz.zeroValue76 rfl row76 rfl
instance : TRow Tryz.prog 77 #[Go.Value.nilFunc] 1 8 := TRow.of Tryz.zeroValue77 rfl row77 rfl
instance : TRow Tryz.prog 78 #[Go.Value.nilFunc] 1 8 := TRow.of Tryz.zeroValue78 rfl row78 rfl
instance : TRow Tryz.prog 79 #[Go.Value.nilFunc] 1 8 := TRow.of Tryz.zeroValue79 rfl row79 rfl
instance : TRow Tryz.prog 80 #[Go.Value.pointer Option.none] 1 8 := TRow.of Tryz.zeroValue80 rfl row80 rfl
instance : TRow Tryz.prog 81 #[Go.Value.tuple #[Go.Value.agg #[Go.Value.int Go.IntKind.i64 0, Go.Value.int Go.IntKind.i64 0, Go.Value.int Go.IntKind.u32 0, Go.Value.int Go.IntKind.i64 0, Go.Value.int Go.IntKind.i64 0, Go.Value.int Go.IntKind.u8 0, Go.Value.bool Bool.false, Go.Value.bool Bool.false, Go.Value.int Go.IntKind.i64 0, Go.Value.int Go.IntKind.i64 0, Go.Value.int Go.IntKind.i64 0, Go.Value.int Go.IntKind.i64 0, Go.Value.slice Option.none 0 0, Go.Value.int Go.IntKind.i64 0, Go.Value.int Go.IntKind.i64 0, Go.Value.int Go.IntKind.i64 0, Go.Value.int Go.IntKind.i64 0, Go.Value.int Go.IntKind.i64 0, Go.Value.int Go.IntKind.i64 0, Go.Value.int Go.IntKind.i64 0, Go.Value.int Go.IntKind.i64 0, Go.Value.int Go.IntKind.i64 0, Go.Value.bool Bool.false, Go.Value.slice Option.none 0 0], Go.Value.nilIface]] 1 0 := TRow.of Tryz.zeroValue81 rfl row81 rfl
instance : TRow Tryz.prog 82 #[Go.Value.nilFunc] 1 8 := TRow.of Tryz.zeroValue82 rfl row82 rfl
instance : TRow Tryz.prog 83 #[Go.Value.tuple #[Go.Value.bool Bool.false, Go.Value.nilIface]] 1 0 := TRow.of Tryz.zeroValue83 rfl row83 rfl
instance : TRow Tryz.prog 84 #[Go.Value.nilFunc] 1 8 := TRow.of Tryz.zeroValue84 rfl row84 rfl
instance : TRow Tryz.prog 85 #[Go.Value.tuple #[Go.Value.int Go.IntKind.u64 0, Go.Value.nilIface]] 1 0 := TRow.of Tryz.zeroValue85 rfl row85 rfl
instance : TRow Tryz.prog 86 #[Go.Value.nilFunc] 1 8 := TRow.of Tryz.zeroValue86 rfl row86 rfl
instance : TRow Tryz.prog 87 #[Go.Value.slice Option.none 0 0] 1 24 := TRow.of Tryz.zeroValue87 rfl row87 rfl
instance : TRow Tryz.prog 88 #[Go.Value.pointer Option.none] 1 8 := TRow.of Tryz.zeroValue88 rfl row88 rfl
instance : TRow Tryz.prog 89 #[Go.Value.nilFunc] 1 8 := TRow.of Tryz.zeroValue89 rfl row89 rfl
instance : TRow Tryz.prog 90 #[Go.Value.pointer Option.none] 1 8 := TRow.of Tryz.zeroValue90 rfl row90 rfl
instance : TRow Tryz.prog 91 #[Go.Value.nilFunc] 1 8 := TRow.of Tryz.zeroValue91 rfl row91 rfl
instance : TRow Tryz.prog 92 #[Go.Value.nilFunc] 1 8 := TRow.of Tryz.zeroValue92 rfl row92 rfl
instance : TRow Tryz.prog 93 #[Go.Value.pointer Option.none] 1 8 := TRow.of Tryz.zeroValue93 rfl row93 rfl
instance : TRow Tryz.prog 94 #[Go.Value.nilFunc] 1 8 := TRow.of Tryz.zeroValue94 rfl row94 rfl
instance : TRow Tryz.prog 95 #[Go.Value.nilFunc] 1 8 := TRow.of Tryz.zeroValue95 rfl row95 rfl
instance : TRow Tryz.prog 96 zc96 2 16 := TRow.of Tryz.zeroValue96 rfl row96 rfl
instance : TRow Tryz.prog 97 zc97 2 16 := TRow.of Tryz.zeroValue97 rfl row97 rfl
instance : TRow Tryz.prog 98 #[Go.Value.pointer Option.none] 1 8 := TRow.of Tryz.zeroValue98 rfl row98 rfl
instance : TRow Tryz.prog 99 zc99 1 8 := TRow.of Tryz.zeroValue99 rfl row99 rfl
instance : TRow Tryz.prog 100 zc100 1 8 := TRow.of Tryz.zeroValue100 rfl row100 rfl
instance : TRow Tryz.prog 101 zc101 3 24 := TRow.of Tryz.zeroValue101 rfl row101 rfl
instance : TRow Tryz.prog 102 zc102 3 24 := TRow.of Tryz.zeroValue102 rfl row102 rfl
instance : TRow Tryz.prog 103 #[Go.Value.pointer Option.none] 1 8 := TRow.of Tryz.zeroValue103 rfl row103 rfl
instance : TRow Tryz.prog 104 #[Go.Value.nilFunc] 1 8 := TRow.of Tryz.zeroValue104 rfl row104 rfl
instance : TRow Tryz.prog 105 #[Go.Value.pointer Option.none] 1 8 := TRow.of Tryz.zeroValue105 rfl row105 rfl
instance : TRow Tryz.prog 106 zc106 1 8 := TRow.of Tryz.zeroValue106 rfl row106 rfl
instance : TRow Tryz.prog 107 zc107 1 8 := TRow.of Tryz.zeroValue107 rfl row107 rfl
instance : TRow Tryz.prog 108 zc108 3 24 := TRow.of Tryz.zeroValue108 rfl row108 rfl
instance : TRow Tryz.prog 109 zc109 3 24 := TRow.of Tryz.zeroValue109 rfl row109 rfl
instance : TRow Tryz.prog 110 #[Go.Value.tuple #[Go.Value.int Go.IntKind.u64 0, Go.Value.agg #[Go.Value.int Go.IntKind.i64 0, Go.Value.int Go.IntKind.i64 0, Go.Value.int Go.IntKind.u32 0, Go.Value.int Go.IntKind.i64 0, Go.Value.int Go.IntKind.i64 0, Go.Value.int Go.IntKind.u8 0, Go.Value.bool Bool.false, Go.Value.bool Bool.false, Go.Value.int Go.IntKind.i64 0, Go.Value.int Go.IntKind.i64 0, Go.Value.int Go.IntKind.i64 0, Go.Value.int Go.IntKind.i64 0, Go.Value.slice Option.none 0 0, Go.Value.int Go.IntKind.i64 0, Go.Value.int Go.IntKind.i64 0, Go.Value.int Go.IntKind.i64 0, Go.Value.int Go.IntKind.i64 0, Go.Value.int Go.IntKind.i64 0, Go.Value.int Go.IntKind.i64 0, Go.Value.int Go.IntKind.i64 0, Go.Value.int Go.IntKind.i64 0, Go.Value.int Go.IntKind.i64 0, Go.Value.bool Bool.false, Go.Value.slice Option.none 0 0], Go.Value.bool Bool.false]] 1 0 := TRow.of Tryz.zeroValue110 rfl row110 rfl
instance : TRow Tryz.prog 111 #[Go.Value.nilFunc] 1 8 := TRow.of Tryz.zeroValue111 rfl row111 rfl
instance : TRow Tryz.prog 112 #[Go.Value.tuple #[Go.Value.agg #[Go.Value.int Go.IntKind.i64 0, Go.Value.int Go.IntKind.i64 0, Go.Value.bool Bool.false, Go.Value.int Go.IntKind.u64 0, Go.Value.int Go.IntKind.i64 0, Go.Value.int Go.IntKind.i64 0, Go.Value.int Go.IntKind.i64 0, Go.Value.int Go.IntKind.u32 0, Go.Value.int Go.IntKind.i64 0, Go.Value.int Go.IntKind.i64 0, Go.Value.int Go.IntKind.u8 0, Go.Value.bool Bool.false, Go.Value.bool Bool.false, Go.Value.int Go.IntKind.i64 0, Go.Value.int Go.IntKind.i64 0, Go.Value.int Go.IntKind.i64 0, Go.Value.int Go.IntKind.i64 0, Go.Value.slice Option.none 0 0, Go.Value.int Go.IntKind.i64 0, Go.Value.int Go.IntKind.i64 0, Go.Value.int Go.IntKind.i64 0, Go.Value.int Go.IntKind.i64 0, Go.Value.int Go.IntKind.i64 0, Go.Value.int Go.IntKind.i64 0, Go.Value.int Go.IntKind.i64 0, Go.Value.int Go.IntKind.i64 0, Go.Value.int Go.IntKind.i64 0, Go.Value.bool Bool.false, Go.Value.slice Option.none 0 0], Go.Value.int Go.IntKind.i64 0]] 1 0 := TRow.of Tryz.zeroValue112 rfl row112 rfl
instance : TRow Tryz.prog 113 #[Go.Value.nilFunc] 1 8 := TRow.of Tryz.zeroValue113 rfl row113 rfl
instance : TRow Tryz.prog 114 #[Go.Value.nilFunc] 1 8 := TRow.of Tryz.zeroValue114 rfl row114 rfl
instance : TRow Tryz.prog 115 #[Go.Value.tuple #[Go.Value.int Go.IntKind.u64 0, Go.Value.int Go.IntKind.i64 0]] 1 0 := TRow.of Tryz.zeroValue115 rfl row115 rfl
instance : TRow Tryz.prog 116 #[Go.Value.nilFunc] 1 8 := TRow.of Tryz.zeroValue116 rfl row116 rfl
instance : TRow Tryz.prog 117 #[Go.Value.nilFunc] 1 8 := TRow.of Tryz.zeroValue117 rfl row117 rfl
instance : TRow Tryz.prog 118 #[Go.Value.nilFunc] 1 8 := TRow.of Tryz.zeroValue118 rfl row118 rfl
instance : TRow Tryz.prog 119 zc119 10 10 := TRow.of Tryz.zeroValue119 rfl row119 rfl
instance : TRow Tryz.prog 120 #[Go.Value.int Go.IntKind.u64 0] 1 8 := TRow.of Tryz.zeroValue120 rfl row120 rfl
instance : TRow Tryz.prog 121 #[Go.Value.nilFunc] 1 8 := TRow.of Tryz.zeroValue121 rfl row121 rfl
instance : TRow Tryz.prog 122 #[Go.Value.nilFunc] 1 8 := TRow.of Tryz.zeroValue122 rfl row122 rfl
instance : TRow Tryz.prog 123 zc123 2 24 := TRow.of Tryz.zeroValue123 rfl row123 rfl
instance : TRow Tryz.prog 124 zc124 2 24 := TRow.of Tryz.zeroValue124 rfl row124 rfl
instance : TRow Tryz.prog 125 #[Go.Value.nilFunc] 1 8 := TRow.of Tryz.zeroValue125 rfl row125 rfl
instance : TRow Tryz.prog 126 #[Go.Value.nilFunc] 1 8 := TRow.of Tryz.zeroValue126 rfl row126 rfl
instance : TRow Tryz.prog 127 #[Go.Value.pointer Option.none] 1 8 := TRow.of Tryz.zeroValue127 rfl row127 rfl
instance : TRow Tryz.prog 128 #[Go.Value.nilFunc] 1 8 := TRow.of Tryz.zeroValue128 rfl row128 rfl
instance : TRow Tryz.prog 129 #[Go.Value.nilFunc] 1 8 := TRow.of Tryz.zeroValue129 rfl row129 rfl
instance : TRow Tryz.prog 130 #[Go.Value.pointer Option.none] 1 8 := TRow.of Tryz.zeroValue130 rfl row130 rfl
instance : TRow Tryz.prog 131 #[Go.Value.int Go.IntKind.u64 0] 1 8 := TRow.of Tryz.zeroValue131 rfl row131 rfl
instance : TRow Tryz.prog 132 zc132 3 24 := TRow.of Tryz.zeroValue132 rfl row132 rfl
instance : TRow Tryz.prog 133 zc133 3 24 := TRow.of Tryz.zeroValue133 rfl row133 rfl
instance : TRow Tryz.prog 134 #[Go.Value.nilFunc] 1 8 := TRow.of Tryz.zeroValue134 rfl row134 rfl
instance : TRow Tryz.prog 135 #[Go.Value.nilIface] 1 16 := TRow.of Tryz.zeroValue135 rfl row135 rfl
instance : TRow Tryz.prog 136 #[Go.Value.nilIface] 1 16 := TRow.of Tryz.zeroValue136 rfl row136 rfl
instance : TRow Tryz.prog 137 #[Go.Value.nilFunc] 1 8 := TRow.of Tryz.zeroValue137 rfl row137 rfl
instance : TRow Tryz.prog 138 #[Go.Value.int Go.IntKind.u8 0] 1 1 := TRow.of Tryz.zeroValue138 rfl row138 rfl
instance : TRow Tryz.prog 139 #[Go.Value.nilFunc] 1 8 := TRow.of Tryz.zeroValue139 rfl row139 rfl
instance : TRow Tryz.prog 140 #[Go.Value.nilFunc] 1 8 := TRow.of Tryz.zeroValue140 rfl row140 rfl
instance : TRow Tryz.prog 141 #[Go.Value.nilFunc] 1 8 := TRow.of Tryz.zeroValue141 rfl row141 rfl
instance : TRow Tryz.prog 142 #[Go.Value.nilFunc] 1 8 := TRow.of Tryz.zeroValue142 rfl row142 rfl
instance : TRow Tryz.prog 143 #[Go.Value.nilFunc] 1 8 := TRow.of Tryz.zeroValue143 rfl row143 rfl
instance : TRow Tryz.prog 144 #[Go.Value.nilFunc] 1 8 := TRow.of Tryz.zeroValue144 rfl row144 rfl
instance : TRow Tryz.prog 145 #[Go.Value.nilFunc] 1 8 := TRow.of Tryz.zeroValue145 rfl row145 rfl
instance : TRow Tryz.prog 146 #[Go.Value.slice Option.none 0 0] 1 24 := TRow.of Tryz.zeroValue146 rfl row146 rfl
instance : TRow Tryz.prog 147 zc147 4 48 := TRow.of Tryz.zeroValue147 rfl row147 rfl
instance : TRow Tryz.prog 148 zc148 4 48 := TRow.of Tryz.zeroValue148 rfl row148 rfl
instance : TRow Tryz.prog 149 Tryz.zeroCells149 384 3328 := TRow.of Tryz.zeroValue149 rfl row149 Tryz.zeroCells149_size
instance : TRow Tryz.prog 150 Tryz.zeroCells150 389 3368 := TRow.of Tryz.zeroValue150 rfl row150 Tryz.zeroCells150_size
instance : TRow Tryz.prog 151 Tryz.zeroCells151 389 3368 := TRow.of Tryz.zeroValue151 rfl row151 Tryz.zeroCells151_size
instance : TRow Tryz.prog 152 #[Go.Value.nilFunc] 1 8 := TRow.of Tryz.zeroValue152 rfl row152 rfl
instance : TRow Tryz.prog 153 #[Go.Value.pointer Option.none] 1 8 := TRow.of Tryz.zeroValue153 rfl row153 rfl
instance : TRow Tryz.prog 154 #[Go.Value.nilFunc] 1 8 := TRow.of Tryz.zeroValue154 rfl row154 rfl
instance : TRow Tryz.prog 155 #[Go.Value.nilFunc] 1 8 := TRow.of Tryz.zeroValue155 rfl row155 rfl
instance : TRow Tryz.prog 156 #[Go.Value.nilFunc] 1 8 := TRow.of Tryz.zeroValue156 rfl row156 rfl
instance : TRow Tryz.prog 157 #[Go.Value.nilFunc] 1 8 := TRow.of Tryz.zeroValue157 rfl row157 rfl
instance : TRow Tryz.prog 158 #[Go.Value.slice Option.none 0 0] 1 24 := TRow.of Tryz.zeroValue158 rfl row158 rfl
instance : TRow Tryz.prog 159 #[Go.Value.pointer Option.none] 1 8 := TRow.of Tryz.zeroValue159 rfl row159 rfl
instance : TRow Tryz.prog 160 zc160 1 24 := TRow.of Tryz.zeroValue160 rfl row160 rfl
instance : TRow Tryz.prog 161 zc161 1 24 := TRow.of Tryz.zeroValue161 rfl row161 rfl
instance : TRow Tryz.prog 162 #[Go.Value.nilIface] 1 16 := TRow.of Tryz.zeroValue162 rfl row162 rfl
instance : TRow Tryz.prog 163 #[Go.Value.nilIface] 1 16 := TRow.of Tryz.zeroValue163 rfl row163 rfl
instance : TRow Tryz.prog 164 #[Go.Value.nilFunc] 1 8 := TRow.of Tryz.zeroValue164 rfl row164 rfl
instance : TRow Tryz.prog 165 #[Go.Value.nilFunc] 1 8 := TRow.of Tryz.zeroValue165 rfl row165 rfl
instance : TRow Tryz.prog 166 #[Go.Value.pointer Option.none] 1 8 := TRow.of Tryz.zeroValue166 rfl row166 rfl
instance : TRow Tryz.prog 167 #[Go.Value.nilFunc] 1 8 := TRow.of Tryz.zeroValue167 rfl row167 rfl
instance : TRow Tryz.prog 168 #[Go.Value.pointer Option.none] 1 8 := TRow.of Tryz.zeroValue168 rfl row168 rfl
instance : TRow Tryz.prog 169 #[Go.Value.nilFunc] 1 8 := TRow.of Tryz.zeroValue169 rfl row169 rfl
instance : TRow Tryz.prog 170 #[Go.Value.pointer Option.none] 1 8 := TRow.of Tryz.zeroValue170 rfl row170 rfl
instance : TRow Tryz.prog 171 #[Go.Value.nilFunc] 1 8 := TRow.of Tryz.zeroValue171 rfl row171 rfl
instance : TRow Tryz.prog 172 #[Go.Value.pointer Option.none] 1 8 := TRow.of Tryz.zeroValue172 rfl row172 rfl
instance : TRow Tryz.prog 173 #[Go.Value.pointer Option.none] 1 8 := TRow.of Tryz.zeroValue173 rfl row173 rfl
instance : TRow Tryz.prog 174 zc174 2 16 := TRow.of Tryz.zeroValue174 rfl row174 rfl
instance : TRow Tryz.prog 175 zc175 2 16 := TRow.of Tryz.zeroValue175 rfl row175 rfl
instance : TRow Tryz.prog 176 #[Go.Value.tuple #[Go.Value.pointer Option.none, Go.Value.bool Bool.false]] 1 0 := TRow.of Tryz.zeroValue176 rfl row176 rfl
instance : TRow Tryz.prog 177 zc177 1 8 := TRow.of Tryz.zeroValue177 rfl row177 rfl
instance : TRow Tryz.prog 178 zc178 1 8 := TRow.of Tryz.zeroValue178 rfl row178 rfl
instance : TRow Tryz.prog 179 #[Go.Value.pointer Option.none] 1 8 := TRow.of Tryz.zeroValue179 rfl row179 rfl
instance : TRow Tryz.prog 180 #[Go.Value.nilFunc] 1 8 := TRow.of Tryz.zeroValue180 rfl row180 rfl
instance : TRow Tryz.prog 181 #[Go.Value.nilFunc] 1 8 := TRow.of Tryz.zeroValue181 rfl row181 rfl
instance : TRow Tryz.prog 182 #[Go.Value.nilIface] 1 16 := TRow.of Tryz.zeroValue182 rfl row182 rfl
instance : TRow Tryz.prog 183 #[Go.Value.tuple #[Go.Value.nilIface, Go.Value.bool Bool.false]] 1 0 := TRow.of Tryz.zeroValue183 rfl row183 rfl
instance : TRow Tryz.prog 184 #[Go.Value.nilFunc] 1 8 := TRow.of Tryz.zeroValue184 rfl row184 rfl
instance : TRow Tryz.prog 185 #[Go.Value.nilIface] 1 16 := TRow.of Tryz.zeroValue185 rfl row185 rfl
instance : TRow Tryz.prog 186 #[Go.Value.nilIface] 1 16 := TRow.of Tryz.zeroValue186 rfl row186 rfl
instance : TRow Tryz.prog 187 #[Go.Value.slice Option.none 0 0] 1 24 := TRow.of Tryz.zeroValue187 rfl row187 rfl
instance : TRow Tryz.prog 188 #[Go.Value.nilFunc] 1 8 := TRow.of Tryz.zeroValue188 rfl row188 rfl
instance : TRow Tryz.prog 189 #[Go.Value.nilIface] 1 16 := TRow.of Tryz.zeroValue189 rfl row189 rfl
instance : TRow Tryz.prog 190 #[Go.Value.tuple #[Go.Value.nilIface, Go.Value.bool Bool.false]] 1 0 := TRow.of Tryz.zeroValue190 rfl row190 rfl
instance : TRow Tryz.prog 191 #[Go.Value.nilFunc] 1 8 := TRow.of Tryz.zeroValue191 rfl row191 rfl
instance : TRow Tryz.prog 192 #[Go.Value.nilFunc] 1 8 := TRow.of Tryz.zeroValue192 rfl row192 rfl
instance : TRow Tryz.prog 193 #[Go.Value.nilFunc] 1 8 := TRow.of Tryz.zeroValue193 rfl row193 rfl
instance : TRow Tryz.prog 194 #[Go.Value.nilFunc] 1 8 := TRow.of Tryz.zeroValue194 rfl row194 rfl
instance : TRow Tryz.prog 195 #[Go.Value.nilFunc] 1 8 := TRow.of Tryz.zeroValue195 rfl row195 rfl
instance : TRow Tryz.prog 196 #[Go.Value.pointer Option.none] 1 8 := TRow.of Tryz.zeroValue196 rfl row196 rfl
instance : TRow Tryz.prog 197 #[Go.Value.nilFunc] 1 8 := TRow.of Tryz.zeroValue197 rfl row197 rfl
instance : TRow Tryz.prog 198 #[Go.Value.pointer Option.none] 1 8 := TRow.of Tryz.zeroValue198 rfl row198 rfl
instance : TRow Tryz.prog 199 #[Go.Value.nilFunc] 1 8 := TRow.of Tryz.zeroValue199 rfl row199 rfl
instance : TRow Tryz.prog 200 #[Go.Value.pointer Option.none] 1 8 := TRow.of Tryz.zeroValue200 rfl row200 rfl
instance : TRow Tryz.prog 201 #[Go.Value.nilFunc] 1 8 := TRow.of Tryz.zeroValue201 rfl row201 rfl
instance : TRow Tryz.prog 202 #[Go.Value.pointer Option.none] 1 8 := TRow.of Tryz.zeroValue202 rfl row202 rfl
instance : TRow Tryz.prog 203 #[Go.Value.nilFunc] 1 8 := TRow.of Tryz.zeroValue203 rfl row203 rfl
instance : TRow Tryz.prog 204 #[Go.Value.pointer Option.none] 1 8 := TRow.of Tryz.zeroValue204 rfl row204 rfl
instance : TRow Tryz.prog 205 #[Go.Value.nilFunc] 1 8 := TRow.of Tryz.zeroValue205 rfl row205 rfl
instance : TRow Tryz.prog 206 zc206 5 40 := TRow.of Tryz.zeroValue206 rfl row206 rfl
instance : TRow Tryz.prog 207 zc207 5 40 := TRow.of Tryz.zeroValue207 rfl row207 rfl
instance : TRow Tryz.prog 208 zc208 10 80 := TRow.of Tryz.zeroValue208 rfl row208 rfl
instance : TRow Tryz.prog 209 zc209 10 80 := TRow.of Tryz.zeroValue209 rfl row209 rfl
instance : TRow Tryz.prog 210 #[Go.Value.pointer Option.none] 1 8 := TRow.of Tryz.zeroValue210 rfl row210 rfl
instance : TRow Tryz.prog 211 #[Go.Value.nilFunc] 1 8 := TRow.of Tryz.zeroValue211 rfl row211 rfl
instance : TRow Tryz.prog 212 #[Go.Value.nilFunc] 1 8 := TRow.of Tryz.zeroValue212 rfl row212 rfl
instance : TRow Tryz.prog 213 #[Go.Value.nilFunc] 1 8 := TRow.of Tryz.zeroValue213 rfl row213 rfl
instance : TRow Tryz.prog 214 #[Go.Value.nilFunc] 1 8 := TRow.of Tryz.zeroValue214 rfl row214 rfl
instance : TRow Tryz.prog 215 #[Go.Value.nilFunc] 1 8 := TRow.of Tryz.zeroValue215 rfl row215 rfl
instance : TRow Tryz.prog 216 #[Go.Value.nilFunc] 1 8 := TRow.of Tryz.zeroValue216 rfl row216 rfl
instance : TRow Tryz.prog 217 #[Go.Value.nilFunc] 1 8 := TRow.of Tryz.zeroValue217 rfl row217 rfl
instance : TRow Tryz.prog 218 #[Go.Value.nilFunc] 1 8 := TRow.of Tryz.zeroValue218 rfl row218 rfl
instance : TRow Tryz.prog 219 #[Go.Value.pointer Option.none] 1 8 := TRow.of Tryz.zeroValue219 rfl row219 rfl
instance : TRow Tryz.prog 220 #[Go.Value.pointer Option.none] 1 8 := TRow.of Tryz.zeroValue220 rfl row220 rfl
instance : TRow Tryz.prog 221 #[Go.Value.nilFunc] 1 8 := TRow.of Tryz.zeroValue221 rfl row221 rfl
instance : TRow Tryz.prog 222 #[Go.Value.pointer Option.none] 1 8 := TRow.of Tryz.zeroValue222 rfl row222 rfl
instance : TRow Tryz.prog 223 #[Go.Value.nilFunc] 1 8 := TRow.of Tryz.zeroValue223 rfl row223 rfl
instance : TRow Tryz.prog 224 #[Go.Value.nilFunc] 1 8 := TRow.of Tryz.zeroValue224 rfl row224 rfl
instance : TRow Tryz.prog 225 zc225 4 40 := TRow.of Tryz.zeroValue225 rfl row225 rfl
instance : TRow Tryz.prog 226 zc226 4 40 := TRow.of Tryz.zeroValue226 rfl row226 rfl
instance : TRow Tryz.prog 230 #[Go.Value.nilFunc] 1 8 := TRow.of Tryz.zeroValue230 rfl row230 rfl
instance : TRow Tryz.prog 231 #[Go.Value.int Go.IntKind.u8 0] 1 1 := TRow.of Tryz.zeroValue231 rfl row231 rfl
instance : TRow Tryz.prog 232 #[Go.Value.nilFunc] 1 8 := TRow.of Tryz.zeroValue232 rfl row232 rfl
instance : TRow Tryz.prog 233 #[Go.Value.int Go.IntKind.i32 0] 1 4 := TRow.of Tryz.zeroValue233 rfl row233 rfl
instance : TRow Tryz.prog 234 #[Go.Value.int Go.IntKind.i32 0] 1 4 := TRow.of Tryz.zeroValue234 rfl row234 rfl
instance : TRow Tryz.prog 235 zc235 11 48 := TRow.of Tryz.zeroValue235 rfl row235 rfl
instance : TRow Tryz.prog 236 zc236 11 48 := TRow.of Tryz.zeroValue236 rfl row236 rfl
instance : TRow Tryz.prog 237 #[Go.Value.nilFunc] 1 8 := TRow.of Tryz.zeroValue237 rfl row237 rfl
instance : TRow Tryz.prog 238 #[Go.Value.nilFunc] 1 8 := TRow.of Tryz.zeroValue238 rfl row238 rfl
instance : TRow Tryz.prog 239 #[Go.Value.nilFunc] 1 8 := TRow.of Tryz.zeroValue239 rfl row239 rfl
instance : TRow Tryz.prog 240 #[Go.Value.nilFunc] 1 8 := TRow.of Tryz.zeroValue240 rfl row240 rfl
instance : TRow Tryz.prog 241 #[Go.Value.nilFunc] 1 8 := TRow.of Tryz.zeroValue241 rfl row241 rfl
instance : TRow Tryz.prog 242 #[Go.Value.nilFunc] 1 8 := TRow.of Tryz.zeroValue242 rfl row242 rfl
instance : TRow Tryz.prog 243 #[Go.Value.tuple #[Go.Value.int Go.IntKind.u8 0, Go.Value.nilIface]] 1 0 := TRow.of Tryz.zeroValue243 rfl row243 rfl
instance : TRow Tryz.prog 244 #[Go.Value.nilFunc] 1 8 := TRow.of Tryz.zeroValue244 rfl row244 rfl
instance : TRow Tryz.prog 245 #[Go.Value.nilFunc] 1 8 := TRow.of Tryz.zeroValue245 rfl row245 rfl
instance : TRow Tryz.prog 246 #[Go.Value.nilFunc] 1 8 := TRow.of Tryz.zeroValue246 rfl row246 rfl
instance : TRow Tryz.prog 247 #[Go.Value.tuple #[Go.Value.int Go.IntKind.i64 0, Go.Value.nilIface]] 1 0 := TRow.of Tryz.zeroValue247 rfl row247 rfl
instance : TRow Tryz.prog 248 #[Go.Value.nilFunc] 1 8 := TRow.of Tryz.zeroValue248 rfl row248 rfl
instance : TRow Tryz.prog 249 zc249 2 24 := TRow.of Tryz.zeroValue249 rfl row249 rfl
instance : TRow Tryz.prog 250 zc250 2 24 := TRow.of Tryz.zeroValue250 rfl row250 rfl
instance : TRow Tryz.prog 251 #[Go.Value.pointer Option.none] 1 8 := TRow.of Tryz.zeroValue251 rfl row251 rfl
instance : TRow Tryz.prog 252 #[Go.Value.nilFunc] 1 8 := TRow.of Tryz.zeroValue252 rfl row252 rfl
instance : TRow Tryz.prog 253 #[Go.Value.int Go.IntKind.u16 0] 1 2 := TRow.of Tryz.zeroValue253 rfl row253 rfl
instance : TRow Tryz.prog 254 zc254 5 16 := TRow.of Tryz.zeroValue254 rfl row254 rfl
instance : TRow Tryz.prog 255 zc255 5 16 := TRow.of Tryz.zeroValue255 rfl row255 rfl
instance : TRow Tryz.prog 256 #[Go.Value.slice Option.none 0 0] 1 24 := TRow.of Tryz.zeroValue256 rfl row256 rfl
instance : TRow Tryz.prog 257 #[Go.Value.int Go.IntKind.i32 0] 1 4 := TRow.of Tryz.zeroValue257 rfl row257 rfl
instance : TRow Tryz.prog 258 zc258 4 16 := TRow.of Tryz.zeroValue258 rfl row258 rfl
instance : TRow Tryz.prog 259 zc259 4 16 := TRow.of Tryz.zeroValue259 rfl row259 rfl
instance : FCall Tryz.prog 138 := ⟨Tryz.call138⟩
instance : FCall Tryz.prog 99 := ⟨Tryz.call99⟩
instance : FCall Tryz.prog 135 := ⟨Tryz.call135⟩
instance : FCall Tryz.prog 74 := ⟨Tryz.call74⟩
instance : FCall Tryz.prog 28 := ⟨Tryz.call28⟩
instance : FCall Tryz.prog 136 := ⟨Tryz.call136⟩
instance : FCall Tryz.prog 140 := ⟨Tryz.call140⟩
instance : FCall Tryz.prog 88 := ⟨Tryz.call88⟩
instance : FCall Tryz.prog 63 := ⟨Tryz.call63⟩
instance : FCall Tryz.prog 15 := ⟨Tryz.call15⟩
instance : FCall Tryz.prog 24 := ⟨Tryz.call24⟩
instance : FCall Tryz.prog 66 := ⟨Tryz.call66⟩
instance : FCall Tryz.prog 18 := ⟨Tryz.call18⟩
instance : FCall Tryz.prog 51 := ⟨Tryz.call51⟩
instance : FCall Tryz.prog 23 := ⟨Tryz.call23⟩
instance : FCall Tryz.prog 33 := ⟨Tryz.call33⟩
instance : FCall Tryz.prog 54 := ⟨Tryz.call54⟩
instance : FCall Tryz.prog 149 := ⟨Tryz.call149⟩
instance : FCall Tryz.prog 141 := ⟨Tryz.call141⟩
instance : FCall Tryz.prog 39 := ⟨Tryz.call39⟩
instance : FCall Tryz.prog 47 := ⟨Tryz.call47⟩
instance : FCall Tryz.prog 4 := ⟨Tryz.call4⟩
instance : FCall Tryz.prog 64 := ⟨Tryz.call64⟩
instance : FCall Tryz.prog 42 := ⟨Tryz.call42⟩
instance : FCall Tryz.prog 16 := ⟨Tryz.call16⟩
instance : FCall Tryz.prog 166 := ⟨Tryz.call166⟩
instance : FCall Tryz.prog 26 := ⟨Tryz.call26⟩
instance : FCall Tryz.prog 80 := ⟨Tryz.call80⟩
instance : FCall Tryz.prog 44 := ⟨Tryz.call44⟩
instance : FCall Tryz.prog 82 := ⟨Tryz.call82⟩
instance : FCall Tryz.prog 106 := ⟨Tryz.call106⟩
instance : FCall Tryz.prog 8 := ⟨Tryz.call8⟩
instance : FCall Tryz.prog 6 := ⟨Tryz.call6⟩
instance : FCall Tryz.prog 10 := ⟨Tryz.call10⟩
instance : FCall Tryz.prog 78 := ⟨Tryz.call78⟩
instance : FCall Tryz.prog 25 := ⟨Tryz.call25⟩
instance : FCall Tryz.prog 77 := ⟨Tryz.call77⟩
instance : FCall Tryz.prog 103 := ⟨Tryz.call103⟩
instance : FCall Tryz.prog 31 := ⟨Tryz.call31⟩
instance : FCall Tryz.prog 32 := ⟨Tryz.call32⟩
instance : FCall Tryz.prog 57 := ⟨Tryz.call57⟩
instance : FCall Tryz.prog 34 := ⟨Tryz.call34⟩
instance : FCall Tryz.prog 134 := ⟨Tryz.call134⟩
instance : FCall Tryz.prog 7 := ⟨Tryz.call7⟩
instance : FCall Tryz.prog 50 := ⟨Tryz.call50⟩
instance : FCall Tryz.prog 35 := ⟨Tryz.call35⟩
instance : FCall Tryz.prog 128 := ⟨Tryz.call128⟩
instance : FCall Tryz.prog 67 := ⟨Tryz.call67⟩
instance : FCall Tryz.prog 40 := ⟨Tryz.call40⟩
instance : FCall Tryz.prog 150 := ⟨Tryz.call150⟩
instance : FCall Tryz.prog 11 := ⟨Tryz.call11⟩
instance : FCall Tryz.prog 14 := ⟨Tryz.call14⟩
instance : FCall Tryz.prog 55 := ⟨Tryz.call55⟩
instance : FCall Tryz.prog 137 := ⟨Tryz.call137⟩
instance : FCall Tryz.prog 95 := ⟨Tryz.call95⟩
instance : FCall Tryz.prog 62 := ⟨Tryz.call62⟩
instance : FCall Tryz.prog 49 := ⟨Tryz.call49⟩
instance : FCall Tryz.prog 68 := ⟨Tryz.call68⟩
instance : FCall Tryz.prog 17 := ⟨Tryz.call17⟩
instance : FCall Tryz.prog 46 := ⟨Tryz.call46⟩
instance : FCall Tryz.prog 60 := ⟨Tryz.call60⟩
instance : FCall Tryz.prog 36 := ⟨Tryz.call36⟩
instance : FCall Tryz.prog 145 := ⟨Tryz.call145⟩
instance : FCall Tryz.prog 58 := ⟨Tryz.call58⟩
instance : FCall Tryz.prog 20 := ⟨Tryz.call20⟩
instance : FCall Tryz.prog 86 := ⟨Tryz.call86⟩
instance : FCall Tryz.prog 148 := ⟨Tryz.call148⟩
instance : FCall Tryz.prog 81 := ⟨Tryz.call81⟩
instance : FCall Tryz.prog 29 := ⟨Tryz.call29⟩
instance : FCall Tryz.prog 102 := ⟨Tryz.call102⟩
instance : FCall Tryz.prog 79 := ⟨Tryz.call79⟩
instance : FCall Tryz.prog 21 := ⟨Tryz.call21⟩
instance : FCall Tryz.prog 41 := ⟨Tryz.call41⟩
instance : FCall Tryz.prog 65 := ⟨Tryz.call65⟩
instance : FCall Tryz.prog 9 := ⟨Tryz.call9⟩
instance : FCall Tryz.prog 105 := ⟨Tryz.call105⟩
instance : FCall Tryz.prog 97 := ⟨Tryz.call97⟩
instance : FCall Tryz.prog 61 := ⟨Tryz.call61⟩
instance : FCall Tryz.prog 133 := ⟨Tryz.call133⟩
instance : FCall Tryz.prog 142 := ⟨Tryz.call142⟩
instance : FCall Tryz.prog 100 := ⟨Tryz.call100⟩
instance : FCall Tryz.prog 139 := ⟨Tryz.call139⟩
instance : FCall Tryz.prog 75 := ⟨Tryz.call75⟩
instance : FCall Tryz.prog 13 := ⟨Tryz.call13⟩
instance : FCall Tryz.prog 76 := ⟨Tryz.call76⟩
instance : FCall Tryz.prog 52 := ⟨Tryz.call52⟩
instance : FCall Tryz.prog 143 := ⟨Tryz.call143⟩
instance : FCall Tryz.prog 19 := ⟨Tryz.call19⟩
instance : FCall Tryz.prog 92 := ⟨Tryz.call92⟩
instance : FCall Tryz.prog 91 := ⟨Tryz.call91⟩
instance : FCall Tryz.prog 22 := ⟨Tryz.call22⟩
instance : FCall Tryz.prog 132 := ⟨Tryz.call132⟩
instance : FCall Tryz.prog 27 := ⟨Tryz.call27⟩
instance : FCall Tryz.prog 5 := ⟨Tryz.call5⟩
instance : FCall Tryz.prog 72 := ⟨Tryz.call72⟩
instance : FCall Tryz.prog 101 := ⟨Tryz.call101⟩
instance : FCall Tryz.prog 45 := ⟨Tryz.call45⟩
instance : FCall Tryz.prog 3 := ⟨Tryz.call3⟩
instance : FCall Tryz.prog 30 := ⟨Tryz.call30⟩
instance : FCall Tryz.prog 2 := ⟨Tryz.call2⟩
instance : FCall Tryz.prog 83 := ⟨Tryz.call83⟩
instance : FCall Tryz.prog 38 := ⟨Tryz.call38⟩
instance : FCall Tryz.prog 37 := ⟨Tryz.call37⟩
instance : FCall Tryz.prog 85 := ⟨Tryz.call85⟩
instance : FCall Tryz.prog 146 := ⟨Tryz.call146⟩
instance : FCall Tryz.prog 147 := ⟨Tryz.call147⟩
instance : FCall Tryz.prog 87 := ⟨Tryz.call87⟩
instance : FCall Tryz.prog 144 := ⟨Tryz.call144⟩
instance : FCall Tryz.prog 12 := ⟨Tryz.call12⟩
instance : FCall Tryz.prog 53 := ⟨Tryz.call53⟩
instance : FCall Tryz.prog 48 := ⟨Tryz.call48⟩
instance : FCall Tryz.prog 98 := ⟨Tryz.call98⟩
instance : FCall Tryz.prog 43 := ⟨Tryz.call43⟩
instance : FCall Tryz.prog 93 := ⟨Tryz.call93⟩
instance : FCall Tryz.prog 96 := ⟨Tryz.call96⟩
instance : FCall Tryz.prog 84 := ⟨Tryz.call84⟩
instance : FCall Tryz.prog 56 := ⟨Tryz.call56⟩
instance : FCall Tryz.prog 94 := ⟨Tryz.call94⟩
instance : FCall Tryz.prog 104 := ⟨Tryz.call104⟩
instance : FCall Tryz.prog 59 := ⟨Tryz.call59⟩
theorem mixed : Tryz.prog.follows .mixedOrders = true := by kernel_rfl
end Go.Proofs.YtnpiiphiiaiodaaGreatDoor
