/-
  Facts on this seat's program's types and functions, out of the loaded program's own, in the form that the symbolic execution asks. Written by a program of mine (wip/tyfacts.sh). It proves no statement by itself.
-/
import Derived.Test.YtnpiiphiiaiodaaDoorRows
import Derived.Test.YtnpiiphiiaiodaaDoorGo
namespace Go.Proofs.YtnpiiphiiaiodaaDoor

instance : TSize Tryd.prog 0 1 := ⟨Tryd.sizeOf0⟩
instance : TAgg Tryd.prog 0 false := ⟨Tryd.isAgg0⟩
instance : TZero Tryd.prog 0 (Go.Value.tuple #[]) := ⟨Tryd.zeroValue0⟩
theorem row0 : (Tryd.prog.info? 0).map (fun i => (i.size, i.bytes)) = some (1, 0) := by kernel_rfl
instance : TSize Tryd.prog 1 1 := ⟨Tryd.sizeOf1⟩
instance : TAgg Tryd.prog 1 false := ⟨Tryd.isAgg1⟩
instance : TZero Tryd.prog 1 (Go.Value.nilFunc) := ⟨Tryd.zeroValue1⟩
theorem row1 : (Tryd.prog.info? 1).map (fun i => (i.size, i.bytes)) = some (1, 8) := by kernel_rfl
instance : TSize Tryd.prog 2 1 := ⟨Tryd.sizeOf2⟩
instance : TAgg Tryd.prog 2 false := ⟨Tryd.isAgg2⟩
instance : TZero Tryd.prog 2 (Go.Value.int Go.IntKind.i64 0) := ⟨Tryd.zeroValue2⟩
theorem row2 : (Tryd.prog.info? 2).map (fun i => (i.size, i.bytes)) = some (1, 8) := by kernel_rfl
instance : TUnd Tryd.prog 2 (.int Go.IntKind.i64) := ⟨Tryd.underlying2⟩
instance : TSize Tryd.prog 3 1 := ⟨Tryd.sizeOf3⟩
instance : TAgg Tryd.prog 3 false := ⟨Tryd.isAgg3⟩
instance : TZero Tryd.prog 3 (Go.Value.int Go.IntKind.i64 0) := ⟨Tryd.zeroValue3⟩
theorem row3 : (Tryd.prog.info? 3).map (fun i => (i.size, i.bytes)) = some (1, 8) := by kernel_rfl
instance : TUnd Tryd.prog 3 (.int Go.IntKind.i64) := ⟨Tryd.underlying3⟩
instance : TSize Tryd.prog 4 1 := ⟨Tryd.sizeOf4⟩
instance : TAgg Tryd.prog 4 false := ⟨Tryd.isAgg4⟩
instance : TZero Tryd.prog 4 (Go.Value.bool Bool.false) := ⟨Tryd.zeroValue4⟩
theorem row4 : (Tryd.prog.info? 4).map (fun i => (i.size, i.bytes)) = some (1, 1) := by kernel_rfl
instance : TUnd Tryd.prog 4 .bool := ⟨Tryd.underlying4⟩
instance : TSize Tryd.prog 5 1 := ⟨Tryd.sizeOf5⟩
instance : TAgg Tryd.prog 5 false := ⟨Tryd.isAgg5⟩
instance : TZero Tryd.prog 5 (Go.Value.int Go.IntKind.u8 0) := ⟨Tryd.zeroValue5⟩
theorem row5 : (Tryd.prog.info? 5).map (fun i => (i.size, i.bytes)) = some (1, 1) := by kernel_rfl
instance : TUnd Tryd.prog 5 (.int Go.IntKind.u8) := ⟨Tryd.underlying5⟩
instance : TSize Tryd.prog 6 1 := ⟨Tryd.sizeOf6⟩
instance : TAgg Tryd.prog 6 false := ⟨Tryd.isAgg6⟩
instance : TZero Tryd.prog 6 (Go.Value.int Go.IntKind.u8 0) := ⟨Tryd.zeroValue6⟩
theorem row6 : (Tryd.prog.info? 6).map (fun i => (i.size, i.bytes)) = some (1, 1) := by kernel_rfl
instance : TUnd Tryd.prog 6 (.int Go.IntKind.u8) := ⟨Tryd.underlying6⟩
instance : TSize Tryd.prog 7 4 := ⟨Tryd.sizeOf7⟩
instance : TAgg Tryd.prog 7 true := ⟨Tryd.isAgg7⟩
def zc7 : Array Value :=  #[Go.Value.int Go.IntKind.i64 0, Go.Value.int Go.IntKind.i64 0, Go.Value.bool Bool.false, Go.Value.int Go.IntKind.u8 0]
theorem zc7_size : zc7.size = 4 := rfl
instance : TZero Tryd.prog 7 (.agg zc7) := ⟨Tryd.zeroValue7⟩
theorem row7 : (Tryd.prog.info? 7).map (fun i => (i.size, i.bytes)) = some (4, 24) := by kernel_rfl
instance : TFld Tryd.prog 7 0 0 2 1 := ⟨⟨_, _, Tryd.underlying7, rfl, rfl, rfl, Tryd.sizeOf2, by decide⟩⟩
instance : TFld Tryd.prog 7 1 1 3 1 := ⟨⟨_, _, Tryd.underlying7, rfl, rfl, rfl, Tryd.sizeOf3, by decide⟩⟩
instance : TFld Tryd.prog 7 2 2 4 1 := ⟨⟨_, _, Tryd.underlying7, rfl, rfl, rfl, Tryd.sizeOf4, by decide⟩⟩
instance : TFld Tryd.prog 7 3 3 6 1 := ⟨⟨_, _, Tryd.underlying7, rfl, rfl, rfl, Tryd.sizeOf6, by decide⟩⟩
instance : TBuild Tryd.prog 7 zc7 [(0, 1), (1, 1), (2, 1), (3, 1)] := ⟨fun _ => by kernel_rfl⟩
instance : TSize Tryd.prog 8 4 := ⟨Tryd.sizeOf8⟩
instance : TAgg Tryd.prog 8 true := ⟨Tryd.isAgg8⟩
def zc8 : Array Value :=  #[Go.Value.int Go.IntKind.i64 0, Go.Value.int Go.IntKind.i64 0, Go.Value.bool Bool.false, Go.Value.int Go.IntKind.u8 0]
theorem zc8_size : zc8.size = 4 := rfl
instance : TZero Tryd.prog 8 (.agg zc8) := ⟨Tryd.zeroValue8⟩
theorem row8 : (Tryd.prog.info? 8).map (fun i => (i.size, i.bytes)) = some (4, 24) := by kernel_rfl
instance : TFld Tryd.prog 8 0 0 2 1 := ⟨⟨_, _, Tryd.underlying8, rfl, rfl, rfl, Tryd.sizeOf2, by decide⟩⟩
instance : TFld Tryd.prog 8 1 1 3 1 := ⟨⟨_, _, Tryd.underlying8, rfl, rfl, rfl, Tryd.sizeOf3, by decide⟩⟩
instance : TFld Tryd.prog 8 2 2 4 1 := ⟨⟨_, _, Tryd.underlying8, rfl, rfl, rfl, Tryd.sizeOf4, by decide⟩⟩
instance : TFld Tryd.prog 8 3 3 6 1 := ⟨⟨_, _, Tryd.underlying8, rfl, rfl, rfl, Tryd.sizeOf6, by decide⟩⟩
instance : TBuild Tryd.prog 8 zc8 [(0, 1), (1, 1), (2, 1), (3, 1)] := ⟨fun _ => by kernel_rfl⟩
instance : TSize Tryd.prog 9 1 := ⟨Tryd.sizeOf9⟩
instance : TAgg Tryd.prog 9 false := ⟨Tryd.isAgg9⟩
instance : TZero Tryd.prog 9 (Go.Value.string { data := #[] }) := ⟨Tryd.zeroValue9⟩
theorem row9 : (Tryd.prog.info? 9).map (fun i => (i.size, i.bytes)) = some (1, 16) := by kernel_rfl
instance : TUnd Tryd.prog 9 .string := ⟨Tryd.underlying9⟩
instance : TSize Tryd.prog 10 1 := ⟨Tryd.sizeOf10⟩
instance : TAgg Tryd.prog 10 false := ⟨Tryd.isAgg10⟩
instance : TZero Tryd.prog 10 (Go.Value.string { data := #[] }) := ⟨Tryd.zeroValue10⟩
theorem row10 : (Tryd.prog.info? 10).map (fun i => (i.size, i.bytes)) = some (1, 16) := by kernel_rfl
instance : TUnd Tryd.prog 10 .string := ⟨Tryd.underlying10⟩
instance : TSize Tryd.prog 11 1 := ⟨Tryd.sizeOf11⟩
instance : TAgg Tryd.prog 11 false := ⟨Tryd.isAgg11⟩
instance : TZero Tryd.prog 11 (Go.Value.string { data := #[] }) := ⟨Tryd.zeroValue11⟩
theorem row11 : (Tryd.prog.info? 11).map (fun i => (i.size, i.bytes)) = some (1, 16) := by kernel_rfl
instance : TUnd Tryd.prog 11 .string := ⟨Tryd.underlying11⟩
instance : TSize Tryd.prog 12 1 := ⟨Tryd.sizeOf12⟩
instance : TAgg Tryd.prog 12 false := ⟨Tryd.isAgg12⟩
instance : TZero Tryd.prog 12 (Go.Value.int Go.IntKind.u64 0) := ⟨Tryd.zeroValue12⟩
theorem row12 : (Tryd.prog.info? 12).map (fun i => (i.size, i.bytes)) = some (1, 8) := by kernel_rfl
instance : TUnd Tryd.prog 12 (.int Go.IntKind.u64) := ⟨Tryd.underlying12⟩
instance : TSize Tryd.prog 13 2 := ⟨Tryd.sizeOf13⟩
instance : TAgg Tryd.prog 13 true := ⟨Tryd.isAgg13⟩
def zc13 : Array Value :=  #[Go.Value.string { data := #[] }, Go.Value.int Go.IntKind.u64 0]
theorem zc13_size : zc13.size = 2 := rfl
instance : TZero Tryd.prog 13 (.agg zc13) := ⟨Tryd.zeroValue13⟩
theorem row13 : (Tryd.prog.info? 13).map (fun i => (i.size, i.bytes)) = some (2, 24) := by kernel_rfl
instance : TFld Tryd.prog 13 0 0 9 1 := ⟨⟨_, _, Tryd.underlying13, rfl, rfl, rfl, Tryd.sizeOf9, by decide⟩⟩
instance : TFld Tryd.prog 13 1 1 12 1 := ⟨⟨_, _, Tryd.underlying13, rfl, rfl, rfl, Tryd.sizeOf12, by decide⟩⟩
instance : TBuild Tryd.prog 13 zc13 [(0, 1), (1, 1)] := ⟨fun _ => by kernel_rfl⟩
instance : TSize Tryd.prog 14 2 := ⟨Tryd.sizeOf14⟩
instance : TAgg Tryd.prog 14 true := ⟨Tryd.isAgg14⟩
def zc14 : Array Value :=  #[Go.Value.string { data := #[] }, Go.Value.int Go.IntKind.u64 0]
theorem zc14_size : zc14.size = 2 := rfl
instance : TZero Tryd.prog 14 (.agg zc14) := ⟨Tryd.zeroValue14⟩
theorem row14 : (Tryd.prog.info? 14).map (fun i => (i.size, i.bytes)) = some (2, 24) := by kernel_rfl
instance : TFld Tryd.prog 14 0 0 9 1 := ⟨⟨_, _, Tryd.underlying14, rfl, rfl, rfl, Tryd.sizeOf9, by decide⟩⟩
instance : TFld Tryd.prog 14 1 1 12 1 := ⟨⟨_, _, Tryd.underlying14, rfl, rfl, rfl, Tryd.sizeOf12, by decide⟩⟩
instance : TBuild Tryd.prog 14 zc14 [(0, 1), (1, 1)] := ⟨fun _ => by kernel_rfl⟩
instance : TSize Tryd.prog 15 1 := ⟨Tryd.sizeOf15⟩
instance : TAgg Tryd.prog 15 false := ⟨Tryd.isAgg15⟩
instance : TZero Tryd.prog 15 (Go.Value.pointer Option.none) := ⟨Tryd.zeroValue15⟩
theorem row15 : (Tryd.prog.info? 15).map (fun i => (i.size, i.bytes)) = some (1, 8) := by kernel_rfl
instance : TUnd Tryd.prog 15 (.pointer 150) := ⟨Tryd.underlying15⟩
instance : TSize Tryd.prog 16 1 := ⟨Tryd.sizeOf16⟩
instance : TAgg Tryd.prog 16 false := ⟨Tryd.isAgg16⟩
instance : TZero Tryd.prog 16 (Go.Value.pointer Option.none) := ⟨Tryd.zeroValue16⟩
theorem row16 : (Tryd.prog.info? 16).map (fun i => (i.size, i.bytes)) = some (1, 8) := by kernel_rfl
instance : TUnd Tryd.prog 16 (.pointer 153) := ⟨Tryd.underlying16⟩
instance : TSize Tryd.prog 17 1 := ⟨Tryd.sizeOf17⟩
instance : TAgg Tryd.prog 17 false := ⟨Tryd.isAgg17⟩
instance : TZero Tryd.prog 17 (Go.Value.pointer Option.none) := ⟨Tryd.zeroValue17⟩
theorem row17 : (Tryd.prog.info? 17).map (fun i => (i.size, i.bytes)) = some (1, 8) := by kernel_rfl
instance : TUnd Tryd.prog 17 (.pointer 160) := ⟨Tryd.underlying17⟩
instance : TSize Tryd.prog 18 1 := ⟨Tryd.sizeOf18⟩
instance : TAgg Tryd.prog 18 true := ⟨Tryd.isAgg18⟩
def zc18 : Array Value :=  #[Go.Value.pointer Option.none]
theorem zc18_size : zc18.size = 1 := rfl
instance : TZero Tryd.prog 18 (.agg zc18) := ⟨Tryd.zeroValue18⟩
theorem row18 : (Tryd.prog.info? 18).map (fun i => (i.size, i.bytes)) = some (1, 8) := by kernel_rfl
instance : TFld Tryd.prog 18 0 0 17 1 := ⟨⟨_, _, Tryd.underlying18, rfl, rfl, rfl, Tryd.sizeOf17, by decide⟩⟩
instance : TBuild Tryd.prog 18 zc18 [(0, 1)] := ⟨fun _ => by kernel_rfl⟩
instance : TSize Tryd.prog 19 1 := ⟨Tryd.sizeOf19⟩
instance : TAgg Tryd.prog 19 true := ⟨Tryd.isAgg19⟩
def zc19 : Array Value :=  #[Go.Value.pointer Option.none]
theorem zc19_size : zc19.size = 1 := rfl
instance : TZero Tryd.prog 19 (.agg zc19) := ⟨Tryd.zeroValue19⟩
theorem row19 : (Tryd.prog.info? 19).map (fun i => (i.size, i.bytes)) = some (1, 8) := by kernel_rfl
instance : TFld Tryd.prog 19 0 0 17 1 := ⟨⟨_, _, Tryd.underlying19, rfl, rfl, rfl, Tryd.sizeOf17, by decide⟩⟩
instance : TBuild Tryd.prog 19 zc19 [(0, 1)] := ⟨fun _ => by kernel_rfl⟩
instance : TSize Tryd.prog 20 1 := ⟨Tryd.sizeOf20⟩
instance : TAgg Tryd.prog 20 false := ⟨Tryd.isAgg20⟩
instance : TZero Tryd.prog 20 (Go.Value.nilIface) := ⟨Tryd.zeroValue20⟩
theorem row20 : (Tryd.prog.info? 20).map (fun i => (i.size, i.bytes)) = some (1, 16) := by kernel_rfl
instance : TUnd Tryd.prog 20 (Go.TypeDesc.interface #[]) := ⟨Tryd.underlying20⟩
instance : TSize Tryd.prog 21 1 := ⟨Tryd.sizeOf21⟩
instance : TAgg Tryd.prog 21 false := ⟨Tryd.isAgg21⟩
instance : TZero Tryd.prog 21 (Go.Value.int Go.IntKind.i32 0) := ⟨Tryd.zeroValue21⟩
theorem row21 : (Tryd.prog.info? 21).map (fun i => (i.size, i.bytes)) = some (1, 4) := by kernel_rfl
instance : TUnd Tryd.prog 21 (.int Go.IntKind.i32) := ⟨Tryd.underlying21⟩
instance : TSize Tryd.prog 22 1 := ⟨Tryd.sizeOf22⟩
instance : TAgg Tryd.prog 22 false := ⟨Tryd.isAgg22⟩
instance : TZero Tryd.prog 22 (Go.Value.int Go.IntKind.i64 0) := ⟨Tryd.zeroValue22⟩
theorem row22 : (Tryd.prog.info? 22).map (fun i => (i.size, i.bytes)) = some (1, 8) := by kernel_rfl
instance : TUnd Tryd.prog 22 (.int Go.IntKind.i64) := ⟨Tryd.underlying22⟩
instance : TSize Tryd.prog 23 2 := ⟨Tryd.sizeOf23⟩
instance : TAgg Tryd.prog 23 true := ⟨Tryd.isAgg23⟩
def zc23 : Array Value :=  #[Go.Value.int Go.IntKind.i64 0, Go.Value.int Go.IntKind.i64 0]
theorem zc23_size : zc23.size = 2 := rfl
instance : TZero Tryd.prog 23 (.agg zc23) := ⟨Tryd.zeroValue23⟩
theorem row23 : (Tryd.prog.info? 23).map (fun i => (i.size, i.bytes)) = some (2, 16) := by kernel_rfl
instance : TFld Tryd.prog 23 0 0 22 1 := ⟨⟨_, _, Tryd.underlying23, rfl, rfl, rfl, Tryd.sizeOf22, by decide⟩⟩
instance : TFld Tryd.prog 23 1 1 3 1 := ⟨⟨_, _, Tryd.underlying23, rfl, rfl, rfl, Tryd.sizeOf3, by decide⟩⟩
instance : TBuild Tryd.prog 23 zc23 [(0, 1), (1, 1)] := ⟨fun _ => by kernel_rfl⟩
instance : TSize Tryd.prog 24 2 := ⟨Tryd.sizeOf24⟩
instance : TAgg Tryd.prog 24 true := ⟨Tryd.isAgg24⟩
def zc24 : Array Value :=  #[Go.Value.int Go.IntKind.i64 0, Go.Value.int Go.IntKind.i64 0]
theorem zc24_size : zc24.size = 2 := rfl
instance : TZero Tryd.prog 24 (.agg zc24) := ⟨Tryd.zeroValue24⟩
theorem row24 : (Tryd.prog.info? 24).map (fun i => (i.size, i.bytes)) = some (2, 16) := by kernel_rfl
instance : TFld Tryd.prog 24 0 0 22 1 := ⟨⟨_, _, Tryd.underlying24, rfl, rfl, rfl, Tryd.sizeOf22, by decide⟩⟩
instance : TFld Tryd.prog 24 1 1 3 1 := ⟨⟨_, _, Tryd.underlying24, rfl, rfl, rfl, Tryd.sizeOf3, by decide⟩⟩
instance : TBuild Tryd.prog 24 zc24 [(0, 1), (1, 1)] := ⟨fun _ => by kernel_rfl⟩
instance : TSize Tryd.prog 25 1 := ⟨Tryd.sizeOf25⟩
instance : TAgg Tryd.prog 25 false := ⟨Tryd.isAgg25⟩
instance : TZero Tryd.prog 25 (Go.Value.int Go.IntKind.u32 0) := ⟨Tryd.zeroValue25⟩
theorem row25 : (Tryd.prog.info? 25).map (fun i => (i.size, i.bytes)) = some (1, 4) := by kernel_rfl
instance : TUnd Tryd.prog 25 (.int Go.IntKind.u32) := ⟨Tryd.underlying25⟩
instance : TSize Tryd.prog 26 6 := ⟨Tryd.sizeOf26⟩
instance : TAgg Tryd.prog 26 true := ⟨Tryd.isAgg26⟩
def zc26 : Array Value :=  #[Go.Value.int Go.IntKind.u32 0, Go.Value.int Go.IntKind.i64 0, Go.Value.int Go.IntKind.i64 0, Go.Value.int Go.IntKind.u8 0, Go.Value.bool Bool.false, Go.Value.bool Bool.false]
theorem zc26_size : zc26.size = 6 := rfl
instance : TZero Tryd.prog 26 (.agg zc26) := ⟨Tryd.zeroValue26⟩
theorem row26 : (Tryd.prog.info? 26).map (fun i => (i.size, i.bytes)) = some (6, 32) := by kernel_rfl
instance : TFld Tryd.prog 26 0 0 25 1 := ⟨⟨_, _, Tryd.underlying26, rfl, rfl, rfl, Tryd.sizeOf25, by decide⟩⟩
instance : TFld Tryd.prog 26 1 1 2 1 := ⟨⟨_, _, Tryd.underlying26, rfl, rfl, rfl, Tryd.sizeOf2, by decide⟩⟩
instance : TFld Tryd.prog 26 2 2 2 1 := ⟨⟨_, _, Tryd.underlying26, rfl, rfl, rfl, Tryd.sizeOf2, by decide⟩⟩
instance : TFld Tryd.prog 26 3 3 5 1 := ⟨⟨_, _, Tryd.underlying26, rfl, rfl, rfl, Tryd.sizeOf5, by decide⟩⟩
instance : TFld Tryd.prog 26 4 4 4 1 := ⟨⟨_, _, Tryd.underlying26, rfl, rfl, rfl, Tryd.sizeOf4, by decide⟩⟩
instance : TFld Tryd.prog 26 5 5 4 1 := ⟨⟨_, _, Tryd.underlying26, rfl, rfl, rfl, Tryd.sizeOf4, by decide⟩⟩
instance : TBuild Tryd.prog 26 zc26 [(0, 1), (1, 1), (2, 1), (3, 1), (4, 1), (5, 1)] := ⟨fun _ => by kernel_rfl⟩
instance : TSize Tryd.prog 27 6 := ⟨Tryd.sizeOf27⟩
instance : TAgg Tryd.prog 27 true := ⟨Tryd.isAgg27⟩
def zc27 : Array Value :=  #[Go.Value.int Go.IntKind.u32 0, Go.Value.int Go.IntKind.i64 0, Go.Value.int Go.IntKind.i64 0, Go.Value.int Go.IntKind.u8 0, Go.Value.bool Bool.false, Go.Value.bool Bool.false]
theorem zc27_size : zc27.size = 6 := rfl
instance : TZero Tryd.prog 27 (.agg zc27) := ⟨Tryd.zeroValue27⟩
theorem row27 : (Tryd.prog.info? 27).map (fun i => (i.size, i.bytes)) = some (6, 32) := by kernel_rfl
instance : TFld Tryd.prog 27 0 0 25 1 := ⟨⟨_, _, Tryd.underlying27, rfl, rfl, rfl, Tryd.sizeOf25, by decide⟩⟩
instance : TFld Tryd.prog 27 1 1 2 1 := ⟨⟨_, _, Tryd.underlying27, rfl, rfl, rfl, Tryd.sizeOf2, by decide⟩⟩
instance : TFld Tryd.prog 27 2 2 2 1 := ⟨⟨_, _, Tryd.underlying27, rfl, rfl, rfl, Tryd.sizeOf2, by decide⟩⟩
instance : TFld Tryd.prog 27 3 3 5 1 := ⟨⟨_, _, Tryd.underlying27, rfl, rfl, rfl, Tryd.sizeOf5, by decide⟩⟩
instance : TFld Tryd.prog 27 4 4 4 1 := ⟨⟨_, _, Tryd.underlying27, rfl, rfl, rfl, Tryd.sizeOf4, by decide⟩⟩
instance : TFld Tryd.prog 27 5 5 4 1 := ⟨⟨_, _, Tryd.underlying27, rfl, rfl, rfl, Tryd.sizeOf4, by decide⟩⟩
instance : TBuild Tryd.prog 27 zc27 [(0, 1), (1, 1), (2, 1), (3, 1), (4, 1), (5, 1)] := ⟨fun _ => by kernel_rfl⟩
instance : TSize Tryd.prog 28 1 := ⟨Tryd.sizeOf28⟩
instance : TAgg Tryd.prog 28 false := ⟨Tryd.isAgg28⟩
instance : TZero Tryd.prog 28 (Go.Value.nilIface) := ⟨Tryd.zeroValue28⟩
theorem row28 : (Tryd.prog.info? 28).map (fun i => (i.size, i.bytes)) = some (1, 16) := by kernel_rfl
instance : TUnd Tryd.prog 28 (Go.TypeDesc.interface #[("Error", 148)]) := ⟨Tryd.underlying28⟩
instance : TSize Tryd.prog 29 1 := ⟨Tryd.sizeOf29⟩
instance : TAgg Tryd.prog 29 false := ⟨Tryd.isAgg29⟩
instance : TZero Tryd.prog 29 (Go.Value.nilIface) := ⟨Tryd.zeroValue29⟩
theorem row29 : (Tryd.prog.info? 29).map (fun i => (i.size, i.bytes)) = some (1, 16) := by kernel_rfl
instance : TUnd Tryd.prog 29 (Go.TypeDesc.interface #[("Error", 148)]) := ⟨Tryd.underlying29⟩
instance : TSize Tryd.prog 30 1 := ⟨Tryd.sizeOf30⟩
instance : TAgg Tryd.prog 30 false := ⟨Tryd.isAgg30⟩
instance : TZero Tryd.prog 30 (Go.Value.tuple #[Go.Value.agg #[Go.Value.int Go.IntKind.u32 0, Go.Value.int Go.IntKind.i64 0, Go.Value.int Go.IntKind.i64 0, Go.Value.int Go.IntKind.u8 0, Go.Value.bool Bool.false, Go.Value.bool Bool.false], Go.Value.nilIface]) := ⟨Tryd.zeroValue30⟩
theorem row30 : (Tryd.prog.info? 30).map (fun i => (i.size, i.bytes)) = some (1, 0) := by kernel_rfl
instance : TSize Tryd.prog 31 1 := ⟨Tryd.sizeOf31⟩
instance : TAgg Tryd.prog 31 false := ⟨Tryd.isAgg31⟩
instance : TZero Tryd.prog 31 (Go.Value.nilFunc) := ⟨Tryd.zeroValue31⟩
theorem row31 : (Tryd.prog.info? 31).map (fun i => (i.size, i.bytes)) = some (1, 8) := by kernel_rfl
instance : TSize Tryd.prog 32 1 := ⟨Tryd.sizeOf32⟩
instance : TAgg Tryd.prog 32 false := ⟨Tryd.isAgg32⟩
instance : TZero Tryd.prog 32 (Go.Value.slice Option.none 0 0) := ⟨Tryd.zeroValue32⟩
theorem row32 : (Tryd.prog.info? 32).map (fun i => (i.size, i.bytes)) = some (1, 24) := by kernel_rfl
instance : TUnd Tryd.prog 32 (.slice 3) := ⟨Tryd.underlying32⟩
instance : TSize Tryd.prog 33 4 := ⟨Tryd.sizeOf33⟩
instance : TAgg Tryd.prog 33 true := ⟨Tryd.isAgg33⟩
def zc33 : Array Value :=  #[Go.Value.int Go.IntKind.i64 0, Go.Value.int Go.IntKind.i64 0, Go.Value.int Go.IntKind.i64 0, Go.Value.int Go.IntKind.i64 0]
theorem zc33_size : zc33.size = 4 := rfl
instance : TZero Tryd.prog 33 (.agg zc33) := ⟨Tryd.zeroValue33⟩
theorem row33 : (Tryd.prog.info? 33).map (fun i => (i.size, i.bytes)) = some (4, 32) := by kernel_rfl
instance : TFld Tryd.prog 33 0 0 3 1 := ⟨⟨_, _, Tryd.underlying33, rfl, rfl, rfl, Tryd.sizeOf3, by decide⟩⟩
instance : TFld Tryd.prog 33 1 1 2 1 := ⟨⟨_, _, Tryd.underlying33, rfl, rfl, rfl, Tryd.sizeOf2, by decide⟩⟩
instance : TFld Tryd.prog 33 2 2 2 1 := ⟨⟨_, _, Tryd.underlying33, rfl, rfl, rfl, Tryd.sizeOf2, by decide⟩⟩
instance : TFld Tryd.prog 33 3 3 3 1 := ⟨⟨_, _, Tryd.underlying33, rfl, rfl, rfl, Tryd.sizeOf3, by decide⟩⟩
instance : TBuild Tryd.prog 33 zc33 [(0, 1), (1, 1), (2, 1), (3, 1)] := ⟨fun _ => by kernel_rfl⟩
instance : TSize Tryd.prog 34 4 := ⟨Tryd.sizeOf34⟩
instance : TAgg Tryd.prog 34 true := ⟨Tryd.isAgg34⟩
def zc34 : Array Value :=  #[Go.Value.int Go.IntKind.i64 0, Go.Value.int Go.IntKind.i64 0, Go.Value.int Go.IntKind.i64 0, Go.Value.int Go.IntKind.i64 0]
theorem zc34_size : zc34.size = 4 := rfl
instance : TZero Tryd.prog 34 (.agg zc34) := ⟨Tryd.zeroValue34⟩
theorem row34 : (Tryd.prog.info? 34).map (fun i => (i.size, i.bytes)) = some (4, 32) := by kernel_rfl
instance : TFld Tryd.prog 34 0 0 3 1 := ⟨⟨_, _, Tryd.underlying34, rfl, rfl, rfl, Tryd.sizeOf3, by decide⟩⟩
instance : TFld Tryd.prog 34 1 1 2 1 := ⟨⟨_, _, Tryd.underlying34, rfl, rfl, rfl, Tryd.sizeOf2, by decide⟩⟩
instance : TFld Tryd.prog 34 2 2 2 1 := ⟨⟨_, _, Tryd.underlying34, rfl, rfl, rfl, Tryd.sizeOf2, by decide⟩⟩
instance : TFld Tryd.prog 34 3 3 3 1 := ⟨⟨_, _, Tryd.underlying34, rfl, rfl, rfl, Tryd.sizeOf3, by decide⟩⟩
instance : TBuild Tryd.prog 34 zc34 [(0, 1), (1, 1), (2, 1), (3, 1)] := ⟨fun _ => by kernel_rfl⟩
instance : TSize Tryd.prog 35 10 := ⟨Tryd.sizeOf35⟩
instance : TAgg Tryd.prog 35 true := ⟨Tryd.isAgg35⟩
def zc35 : Array Value :=  #[Go.Value.int Go.IntKind.i64 0, Go.Value.int Go.IntKind.i64 0, Go.Value.slice Option.none 0 0, Go.Value.int Go.IntKind.i64 0, Go.Value.int Go.IntKind.i64 0, Go.Value.int Go.IntKind.i64 0, Go.Value.int Go.IntKind.i64 0, Go.Value.int Go.IntKind.i64 0, Go.Value.int Go.IntKind.i64 0, Go.Value.int Go.IntKind.i64 0]
theorem zc35_size : zc35.size = 10 := rfl
instance : TZero Tryd.prog 35 (.agg zc35) := ⟨Tryd.zeroValue35⟩
theorem row35 : (Tryd.prog.info? 35).map (fun i => (i.size, i.bytes)) = some (10, 96) := by kernel_rfl
instance : TFld Tryd.prog 35 0 0 3 1 := ⟨⟨_, _, Tryd.underlying35, rfl, rfl, rfl, Tryd.sizeOf3, by decide⟩⟩
instance : TFld Tryd.prog 35 1 1 2 1 := ⟨⟨_, _, Tryd.underlying35, rfl, rfl, rfl, Tryd.sizeOf2, by decide⟩⟩
instance : TFld Tryd.prog 35 2 2 32 1 := ⟨⟨_, _, Tryd.underlying35, rfl, rfl, rfl, Tryd.sizeOf32, by decide⟩⟩
instance : TFld Tryd.prog 35 3 3 3 1 := ⟨⟨_, _, Tryd.underlying35, rfl, rfl, rfl, Tryd.sizeOf3, by decide⟩⟩
instance : TFld Tryd.prog 35 4 4 3 1 := ⟨⟨_, _, Tryd.underlying35, rfl, rfl, rfl, Tryd.sizeOf3, by decide⟩⟩
instance : TFld Tryd.prog 35 5 5 34 4 := ⟨⟨_, _, Tryd.underlying35, rfl, rfl, rfl, Tryd.sizeOf34, by decide⟩⟩
instance : TFld Tryd.prog 35 6 9 3 1 := ⟨⟨_, _, Tryd.underlying35, rfl, rfl, rfl, Tryd.sizeOf3, by decide⟩⟩
instance : TBuild Tryd.prog 35 zc35 [(0, 1), (1, 1), (2, 1), (3, 1), (4, 1), (5, 4), (9, 1)] := ⟨fun _ => by kernel_rfl⟩
instance : TSize Tryd.prog 36 10 := ⟨Tryd.sizeOf36⟩
instance : TAgg Tryd.prog 36 true := ⟨Tryd.isAgg36⟩
def zc36 : Array Value :=  #[Go.Value.int Go.IntKind.i64 0, Go.Value.int Go.IntKind.i64 0, Go.Value.slice Option.none 0 0, Go.Value.int Go.IntKind.i64 0, Go.Value.int Go.IntKind.i64 0, Go.Value.int Go.IntKind.i64 0, Go.Value.int Go.IntKind.i64 0, Go.Value.int Go.IntKind.i64 0, Go.Value.int Go.IntKind.i64 0, Go.Value.int Go.IntKind.i64 0]
theorem zc36_size : zc36.size = 10 := rfl
instance : TZero Tryd.prog 36 (.agg zc36) := ⟨Tryd.zeroValue36⟩
theorem row36 : (Tryd.prog.info? 36).map (fun i => (i.size, i.bytes)) = some (10, 96) := by kernel_rfl
instance : TFld Tryd.prog 36 0 0 3 1 := ⟨⟨_, _, Tryd.underlying36, rfl, rfl, rfl, Tryd.sizeOf3, by decide⟩⟩
instance : TFld Tryd.prog 36 1 1 2 1 := ⟨⟨_, _, Tryd.underlying36, rfl, rfl, rfl, Tryd.sizeOf2, by decide⟩⟩
instance : TFld Tryd.prog 36 2 2 32 1 := ⟨⟨_, _, Tryd.underlying36, rfl, rfl, rfl, Tryd.sizeOf32, by decide⟩⟩
instance : TFld Tryd.prog 36 3 3 3 1 := ⟨⟨_, _, Tryd.underlying36, rfl, rfl, rfl, Tryd.sizeOf3, by decide⟩⟩
instance : TFld Tryd.prog 36 4 4 3 1 := ⟨⟨_, _, Tryd.underlying36, rfl, rfl, rfl, Tryd.sizeOf3, by decide⟩⟩
instance : TFld Tryd.prog 36 5 5 34 4 := ⟨⟨_, _, Tryd.underlying36, rfl, rfl, rfl, Tryd.sizeOf34, by decide⟩⟩
instance : TFld Tryd.prog 36 6 9 3 1 := ⟨⟨_, _, Tryd.underlying36, rfl, rfl, rfl, Tryd.sizeOf3, by decide⟩⟩
instance : TBuild Tryd.prog 36 zc36 [(0, 1), (1, 1), (2, 1), (3, 1), (4, 1), (5, 4), (9, 1)] := ⟨fun _ => by kernel_rfl⟩
instance : TSize Tryd.prog 37 1 := ⟨Tryd.sizeOf37⟩
instance : TAgg Tryd.prog 37 false := ⟨Tryd.isAgg37⟩
instance : TZero Tryd.prog 37 (Go.Value.slice Option.none 0 0) := ⟨Tryd.zeroValue37⟩
theorem row37 : (Tryd.prog.info? 37).map (fun i => (i.size, i.bytes)) = some (1, 24) := by kernel_rfl
instance : TUnd Tryd.prog 37 (.slice 103) := ⟨Tryd.underlying37⟩
instance : TSize Tryd.prog 38 4 := ⟨Tryd.sizeOf38⟩
instance : TAgg Tryd.prog 38 true := ⟨Tryd.isAgg38⟩
def zc38 : Array Value :=  #[Go.Value.int Go.IntKind.i64 0, Go.Value.int Go.IntKind.i64 0, Go.Value.bool Bool.false, Go.Value.slice Option.none 0 0]
theorem zc38_size : zc38.size = 4 := rfl
instance : TZero Tryd.prog 38 (.agg zc38) := ⟨Tryd.zeroValue38⟩
theorem row38 : (Tryd.prog.info? 38).map (fun i => (i.size, i.bytes)) = some (4, 48) := by kernel_rfl
instance : TFld Tryd.prog 38 0 0 3 1 := ⟨⟨_, _, Tryd.underlying38, rfl, rfl, rfl, Tryd.sizeOf3, by decide⟩⟩
instance : TFld Tryd.prog 38 1 1 3 1 := ⟨⟨_, _, Tryd.underlying38, rfl, rfl, rfl, Tryd.sizeOf3, by decide⟩⟩
instance : TFld Tryd.prog 38 2 2 4 1 := ⟨⟨_, _, Tryd.underlying38, rfl, rfl, rfl, Tryd.sizeOf4, by decide⟩⟩
instance : TFld Tryd.prog 38 3 3 37 1 := ⟨⟨_, _, Tryd.underlying38, rfl, rfl, rfl, Tryd.sizeOf37, by decide⟩⟩
instance : TBuild Tryd.prog 38 zc38 [(0, 1), (1, 1), (2, 1), (3, 1)] := ⟨fun _ => by kernel_rfl⟩
instance : TSize Tryd.prog 39 4 := ⟨Tryd.sizeOf39⟩
instance : TAgg Tryd.prog 39 true := ⟨Tryd.isAgg39⟩
def zc39 : Array Value :=  #[Go.Value.int Go.IntKind.i64 0, Go.Value.int Go.IntKind.i64 0, Go.Value.bool Bool.false, Go.Value.slice Option.none 0 0]
theorem zc39_size : zc39.size = 4 := rfl
instance : TZero Tryd.prog 39 (.agg zc39) := ⟨Tryd.zeroValue39⟩
theorem row39 : (Tryd.prog.info? 39).map (fun i => (i.size, i.bytes)) = some (4, 48) := by kernel_rfl
instance : TFld Tryd.prog 39 0 0 3 1 := ⟨⟨_, _, Tryd.underlying39, rfl, rfl, rfl, Tryd.sizeOf3, by decide⟩⟩
instance : TFld Tryd.prog 39 1 1 3 1 := ⟨⟨_, _, Tryd.underlying39, rfl, rfl, rfl, Tryd.sizeOf3, by decide⟩⟩
instance : TFld Tryd.prog 39 2 2 4 1 := ⟨⟨_, _, Tryd.underlying39, rfl, rfl, rfl, Tryd.sizeOf4, by decide⟩⟩
instance : TFld Tryd.prog 39 3 3 37 1 := ⟨⟨_, _, Tryd.underlying39, rfl, rfl, rfl, Tryd.sizeOf37, by decide⟩⟩
instance : TBuild Tryd.prog 39 zc39 [(0, 1), (1, 1), (2, 1), (3, 1)] := ⟨fun _ => by kernel_rfl⟩
instance : TSize Tryd.prog 40 24 := ⟨Tryd.sizeOf40⟩
instance : TAgg Tryd.prog 40 true := ⟨Tryd.isAgg40⟩
def zc40 : Array Value :=  #[Go.Value.int Go.IntKind.i64 0, Go.Value.int Go.IntKind.i64 0, Go.Value.int Go.IntKind.u32 0, Go.Value.int Go.IntKind.i64 0, Go.Value.int Go.IntKind.i64 0, Go.Value.int Go.IntKind.u8 0, Go.Value.bool Bool.false, Go.Value.bool Bool.false, Go.Value.int Go.IntKind.i64 0, Go.Value.int Go.IntKind.i64 0, Go.Value.int Go.IntKind.i64 0, Go.Value.int Go.IntKind.i64 0, Go.Value.slice Option.none 0 0, Go.Value.int Go.IntKind.i64 0, Go.Value.int Go.IntKind.i64 0, Go.Value.int Go.IntKind.i64 0, Go.Value.int Go.IntKind.i64 0, Go.Value.int Go.IntKind.i64 0, Go.Value.int Go.IntKind.i64 0, Go.Value.int Go.IntKind.i64 0, Go.Value.int Go.IntKind.i64 0, Go.Value.int Go.IntKind.i64 0, Go.Value.bool Bool.false, Go.Value.slice Option.none 0 0]
theorem zc40_size : zc40.size = 24 := rfl
instance : TZero Tryd.prog 40 (.agg zc40) := ⟨Tryd.zeroValue40⟩
theorem row40 : (Tryd.prog.info? 40).map (fun i => (i.size, i.bytes)) = some (24, 208) := by kernel_rfl
instance : TFld Tryd.prog 40 0 0 3 1 := ⟨⟨_, _, Tryd.underlying40, rfl, rfl, rfl, Tryd.sizeOf3, by decide⟩⟩
instance : TFld Tryd.prog 40 1 1 3 1 := ⟨⟨_, _, Tryd.underlying40, rfl, rfl, rfl, Tryd.sizeOf3, by decide⟩⟩
instance : TFld Tryd.prog 40 2 2 27 6 := ⟨⟨_, _, Tryd.underlying40, rfl, rfl, rfl, Tryd.sizeOf27, by decide⟩⟩
instance : TFld Tryd.prog 40 3 8 2 1 := ⟨⟨_, _, Tryd.underlying40, rfl, rfl, rfl, Tryd.sizeOf2, by decide⟩⟩
instance : TFld Tryd.prog 40 4 9 3 1 := ⟨⟨_, _, Tryd.underlying40, rfl, rfl, rfl, Tryd.sizeOf3, by decide⟩⟩
instance : TFld Tryd.prog 40 5 10 36 10 := ⟨⟨_, _, Tryd.underlying40, rfl, rfl, rfl, Tryd.sizeOf36, by decide⟩⟩
instance : TFld Tryd.prog 40 6 20 39 4 := ⟨⟨_, _, Tryd.underlying40, rfl, rfl, rfl, Tryd.sizeOf39, by decide⟩⟩
instance : TBuild Tryd.prog 40 zc40 [(0, 1), (1, 1), (2, 6), (8, 1), (9, 1), (10, 10), (20, 4)] := ⟨fun _ => by kernel_rfl⟩
instance : TSize Tryd.prog 41 24 := ⟨Tryd.sizeOf41⟩
instance : TAgg Tryd.prog 41 true := ⟨Tryd.isAgg41⟩
def zc41 : Array Value :=  #[Go.Value.int Go.IntKind.i64 0, Go.Value.int Go.IntKind.i64 0, Go.Value.int Go.IntKind.u32 0, Go.Value.int Go.IntKind.i64 0, Go.Value.int Go.IntKind.i64 0, Go.Value.int Go.IntKind.u8 0, Go.Value.bool Bool.false, Go.Value.bool Bool.false, Go.Value.int Go.IntKind.i64 0, Go.Value.int Go.IntKind.i64 0, Go.Value.int Go.IntKind.i64 0, Go.Value.int Go.IntKind.i64 0, Go.Value.slice Option.none 0 0, Go.Value.int Go.IntKind.i64 0, Go.Value.int Go.IntKind.i64 0, Go.Value.int Go.IntKind.i64 0, Go.Value.int Go.IntKind.i64 0, Go.Value.int Go.IntKind.i64 0, Go.Value.int Go.IntKind.i64 0, Go.Value.int Go.IntKind.i64 0, Go.Value.int Go.IntKind.i64 0, Go.Value.int Go.IntKind.i64 0, Go.Value.bool Bool.false, Go.Value.slice Option.none 0 0]
theorem zc41_size : zc41.size = 24 := rfl
instance : TZero Tryd.prog 41 (.agg zc41) := ⟨Tryd.zeroValue41⟩
theorem row41 : (Tryd.prog.info? 41).map (fun i => (i.size, i.bytes)) = some (24, 208) := by kernel_rfl
instance : TFld Tryd.prog 41 0 0 3 1 := ⟨⟨_, _, Tryd.underlying41, rfl, rfl, rfl, Tryd.sizeOf3, by decide⟩⟩
instance : TFld Tryd.prog 41 1 1 3 1 := ⟨⟨_, _, Tryd.underlying41, rfl, rfl, rfl, Tryd.sizeOf3, by decide⟩⟩
instance : TFld Tryd.prog 41 2 2 27 6 := ⟨⟨_, _, Tryd.underlying41, rfl, rfl, rfl, Tryd.sizeOf27, by decide⟩⟩
instance : TFld Tryd.prog 41 3 8 2 1 := ⟨⟨_, _, Tryd.underlying41, rfl, rfl, rfl, Tryd.sizeOf2, by decide⟩⟩
instance : TFld Tryd.prog 41 4 9 3 1 := ⟨⟨_, _, Tryd.underlying41, rfl, rfl, rfl, Tryd.sizeOf3, by decide⟩⟩
instance : TFld Tryd.prog 41 5 10 36 10 := ⟨⟨_, _, Tryd.underlying41, rfl, rfl, rfl, Tryd.sizeOf36, by decide⟩⟩
instance : TFld Tryd.prog 41 6 20 39 4 := ⟨⟨_, _, Tryd.underlying41, rfl, rfl, rfl, Tryd.sizeOf39, by decide⟩⟩
instance : TBuild Tryd.prog 41 zc41 [(0, 1), (1, 1), (2, 6), (8, 1), (9, 1), (10, 10), (20, 4)] := ⟨fun _ => by kernel_rfl⟩
instance : TSize Tryd.prog 42 1 := ⟨Tryd.sizeOf42⟩
instance : TAgg Tryd.prog 42 false := ⟨Tryd.isAgg42⟩
instance : TZero Tryd.prog 42 (Go.Value.tuple #[Go.Value.agg #[Go.Value.int Go.IntKind.i64 0, Go.Value.int Go.IntKind.i64 0, Go.Value.int Go.IntKind.u32 0, Go.Value.int Go.IntKind.i64 0, Go.Value.int Go.IntKind.i64 0, Go.Value.int Go.IntKind.u8 0, Go.Value.bool Bool.false, Go.Value.bool Bool.false, Go.Value.int Go.IntKind.i64 0, Go.Value.int Go.IntKind.i64 0, Go.Value.int Go.IntKind.i64 0, Go.Value.int Go.IntKind.i64 0, Go.Value.slice Option.none 0 0, Go.Value.int Go.IntKind.i64 0, Go.Value.int Go.IntKind.i64 0, Go.Value.int Go.IntKind.i64 0, Go.Value.int Go.IntKind.i64 0, Go.Value.int Go.IntKind.i64 0, Go.Value.int Go.IntKind.i64 0, Go.Value.int Go.IntKind.i64 0, Go.Value.int Go.IntKind.i64 0, Go.Value.int Go.IntKind.i64 0, Go.Value.bool Bool.false, Go.Value.slice Option.none 0 0], Go.Value.nilIface]) := ⟨Tryd.zeroValue42⟩
theorem row42 : (Tryd.prog.info? 42).map (fun i => (i.size, i.bytes)) = some (1, 0) := by kernel_rfl
instance : TSize Tryd.prog 43 1 := ⟨Tryd.sizeOf43⟩
instance : TAgg Tryd.prog 43 false := ⟨Tryd.isAgg43⟩
instance : TZero Tryd.prog 43 (Go.Value.nilFunc) := ⟨Tryd.zeroValue43⟩
theorem row43 : (Tryd.prog.info? 43).map (fun i => (i.size, i.bytes)) = some (1, 8) := by kernel_rfl
instance : TSize Tryd.prog 44 1 := ⟨Tryd.sizeOf44⟩
instance : TAgg Tryd.prog 44 false := ⟨Tryd.isAgg44⟩
instance : TZero Tryd.prog 44 (Go.Value.tuple #[Go.Value.agg #[Go.Value.int Go.IntKind.i64 0, Go.Value.int Go.IntKind.i64 0, Go.Value.slice Option.none 0 0, Go.Value.int Go.IntKind.i64 0, Go.Value.int Go.IntKind.i64 0, Go.Value.int Go.IntKind.i64 0, Go.Value.int Go.IntKind.i64 0, Go.Value.int Go.IntKind.i64 0, Go.Value.int Go.IntKind.i64 0, Go.Value.int Go.IntKind.i64 0], Go.Value.nilIface]) := ⟨Tryd.zeroValue44⟩
theorem row44 : (Tryd.prog.info? 44).map (fun i => (i.size, i.bytes)) = some (1, 0) := by kernel_rfl
instance : TSize Tryd.prog 45 1 := ⟨Tryd.sizeOf45⟩
instance : TAgg Tryd.prog 45 false := ⟨Tryd.isAgg45⟩
instance : TZero Tryd.prog 45 (Go.Value.nilFunc) := ⟨Tryd.zeroValue45⟩
theorem row45 : (Tryd.prog.info? 45).map (fun i => (i.size, i.bytes)) = some (1, 8) := by kernel_rfl
instance : TSize Tryd.prog 46 1 := ⟨Tryd.sizeOf46⟩
instance : TAgg Tryd.prog 46 false := ⟨Tryd.isAgg46⟩
instance : TZero Tryd.prog 46 (Go.Value.pointer Option.none) := ⟨Tryd.zeroValue46⟩
theorem row46 : (Tryd.prog.info? 46).map (fun i => (i.size, i.bytes)) = some (1, 8) := by kernel_rfl
instance : TUnd Tryd.prog 46 (.pointer 62) := ⟨Tryd.underlying46⟩
instance : TSize Tryd.prog 47 1 := ⟨Tryd.sizeOf47⟩
instance : TAgg Tryd.prog 47 false := ⟨Tryd.isAgg47⟩
instance : TZero Tryd.prog 47 (Go.Value.nilFunc) := ⟨Tryd.zeroValue47⟩
theorem row47 : (Tryd.prog.info? 47).map (fun i => (i.size, i.bytes)) = some (1, 8) := by kernel_rfl
instance : TSize Tryd.prog 48 1 := ⟨Tryd.sizeOf48⟩
instance : TAgg Tryd.prog 48 false := ⟨Tryd.isAgg48⟩
instance : TZero Tryd.prog 48 (Go.Value.tuple #[Go.Value.agg #[Go.Value.int Go.IntKind.i64 0, Go.Value.int Go.IntKind.i64 0, Go.Value.bool Bool.false, Go.Value.slice Option.none 0 0], Go.Value.nilIface]) := ⟨Tryd.zeroValue48⟩
theorem row48 : (Tryd.prog.info? 48).map (fun i => (i.size, i.bytes)) = some (1, 0) := by kernel_rfl
instance : TSize Tryd.prog 49 1 := ⟨Tryd.sizeOf49⟩
instance : TAgg Tryd.prog 49 false := ⟨Tryd.isAgg49⟩
instance : TZero Tryd.prog 49 (Go.Value.nilFunc) := ⟨Tryd.zeroValue49⟩
theorem row49 : (Tryd.prog.info? 49).map (fun i => (i.size, i.bytes)) = some (1, 8) := by kernel_rfl
instance : TSize Tryd.prog 50 1 := ⟨Tryd.sizeOf50⟩
instance : TAgg Tryd.prog 50 false := ⟨Tryd.isAgg50⟩
instance : TZero Tryd.prog 50 (Go.Value.slice Option.none 0 0) := ⟨Tryd.zeroValue50⟩
theorem row50 : (Tryd.prog.info? 50).map (fun i => (i.size, i.bytes)) = some (1, 24) := by kernel_rfl
instance : TUnd Tryd.prog 50 (.slice 5) := ⟨Tryd.underlying50⟩
instance : TSize Tryd.prog 51 1 := ⟨Tryd.sizeOf51⟩
instance : TAgg Tryd.prog 51 false := ⟨Tryd.isAgg51⟩
instance : TZero Tryd.prog 51 (Go.Value.nilFunc) := ⟨Tryd.zeroValue51⟩
theorem row51 : (Tryd.prog.info? 51).map (fun i => (i.size, i.bytes)) = some (1, 8) := by kernel_rfl
instance : TSize Tryd.prog 52 1 := ⟨Tryd.sizeOf52⟩
instance : TAgg Tryd.prog 52 false := ⟨Tryd.isAgg52⟩
instance : TZero Tryd.prog 52 (Go.Value.nilFunc) := ⟨Tryd.zeroValue52⟩
theorem row52 : (Tryd.prog.info? 52).map (fun i => (i.size, i.bytes)) = some (1, 8) := by kernel_rfl
instance : TSize Tryd.prog 53 1 := ⟨Tryd.sizeOf53⟩
instance : TAgg Tryd.prog 53 false := ⟨Tryd.isAgg53⟩
instance : TZero Tryd.prog 53 (Go.Value.nilFunc) := ⟨Tryd.zeroValue53⟩
theorem row53 : (Tryd.prog.info? 53).map (fun i => (i.size, i.bytes)) = some (1, 8) := by kernel_rfl
instance : TSize Tryd.prog 54 1 := ⟨Tryd.sizeOf54⟩
instance : TAgg Tryd.prog 54 false := ⟨Tryd.isAgg54⟩
instance : TZero Tryd.prog 54 (Go.Value.nilFunc) := ⟨Tryd.zeroValue54⟩
theorem row54 : (Tryd.prog.info? 54).map (fun i => (i.size, i.bytes)) = some (1, 8) := by kernel_rfl
instance : TSize Tryd.prog 55 1 := ⟨Tryd.sizeOf55⟩
instance : TAgg Tryd.prog 55 false := ⟨Tryd.isAgg55⟩
instance : TZero Tryd.prog 55 (Go.Value.nilFunc) := ⟨Tryd.zeroValue55⟩
theorem row55 : (Tryd.prog.info? 55).map (fun i => (i.size, i.bytes)) = some (1, 8) := by kernel_rfl
instance : TSize Tryd.prog 56 1 := ⟨Tryd.sizeOf56⟩
instance : TAgg Tryd.prog 56 false := ⟨Tryd.isAgg56⟩
instance : TZero Tryd.prog 56 (Go.Value.nilFunc) := ⟨Tryd.zeroValue56⟩
theorem row56 : (Tryd.prog.info? 56).map (fun i => (i.size, i.bytes)) = some (1, 8) := by kernel_rfl
instance : TSize Tryd.prog 57 1 := ⟨Tryd.sizeOf57⟩
instance : TAgg Tryd.prog 57 false := ⟨Tryd.isAgg57⟩
instance : TZero Tryd.prog 57 (Go.Value.nilFunc) := ⟨Tryd.zeroValue57⟩
theorem row57 : (Tryd.prog.info? 57).map (fun i => (i.size, i.bytes)) = some (1, 8) := by kernel_rfl
instance : TSize Tryd.prog 58 1 := ⟨Tryd.sizeOf58⟩
instance : TAgg Tryd.prog 58 false := ⟨Tryd.isAgg58⟩
instance : TZero Tryd.prog 58 (Go.Value.nilFunc) := ⟨Tryd.zeroValue58⟩
theorem row58 : (Tryd.prog.info? 58).map (fun i => (i.size, i.bytes)) = some (1, 8) := by kernel_rfl
instance : TSize Tryd.prog 59 1 := ⟨Tryd.sizeOf59⟩
instance : TAgg Tryd.prog 59 false := ⟨Tryd.isAgg59⟩
instance : TZero Tryd.prog 59 (Go.Value.nilFunc) := ⟨Tryd.zeroValue59⟩
theorem row59 : (Tryd.prog.info? 59).map (fun i => (i.size, i.bytes)) = some (1, 8) := by kernel_rfl
instance : TSize Tryd.prog 60 1 := ⟨Tryd.sizeOf60⟩
instance : TAgg Tryd.prog 60 false := ⟨Tryd.isAgg60⟩
instance : TZero Tryd.prog 60 (Go.Value.nilFunc) := ⟨Tryd.zeroValue60⟩
theorem row60 : (Tryd.prog.info? 60).map (fun i => (i.size, i.bytes)) = some (1, 8) := by kernel_rfl
instance : TSize Tryd.prog 61 2 := ⟨Tryd.sizeOf61⟩
instance : TAgg Tryd.prog 61 true := ⟨Tryd.isAgg61⟩
def zc61 : Array Value :=  #[Go.Value.string { data := #[] }, Go.Value.int Go.IntKind.i64 0]
theorem zc61_size : zc61.size = 2 := rfl
instance : TZero Tryd.prog 61 (.agg zc61) := ⟨Tryd.zeroValue61⟩
theorem row61 : (Tryd.prog.info? 61).map (fun i => (i.size, i.bytes)) = some (2, 24) := by kernel_rfl
instance : TFld Tryd.prog 61 0 0 9 1 := ⟨⟨_, _, Tryd.underlying61, rfl, rfl, rfl, Tryd.sizeOf9, by decide⟩⟩
instance : TFld Tryd.prog 61 1 1 3 1 := ⟨⟨_, _, Tryd.underlying61, rfl, rfl, rfl, Tryd.sizeOf3, by decide⟩⟩
instance : TBuild Tryd.prog 61 zc61 [(0, 1), (1, 1)] := ⟨fun _ => by kernel_rfl⟩
instance : TSize Tryd.prog 62 2 := ⟨Tryd.sizeOf62⟩
instance : TAgg Tryd.prog 62 true := ⟨Tryd.isAgg62⟩
def zc62 : Array Value :=  #[Go.Value.string { data := #[] }, Go.Value.int Go.IntKind.i64 0]
theorem zc62_size : zc62.size = 2 := rfl
instance : TZero Tryd.prog 62 (.agg zc62) := ⟨Tryd.zeroValue62⟩
theorem row62 : (Tryd.prog.info? 62).map (fun i => (i.size, i.bytes)) = some (2, 24) := by kernel_rfl
instance : TFld Tryd.prog 62 0 0 9 1 := ⟨⟨_, _, Tryd.underlying62, rfl, rfl, rfl, Tryd.sizeOf9, by decide⟩⟩
instance : TFld Tryd.prog 62 1 1 3 1 := ⟨⟨_, _, Tryd.underlying62, rfl, rfl, rfl, Tryd.sizeOf3, by decide⟩⟩
instance : TBuild Tryd.prog 62 zc62 [(0, 1), (1, 1)] := ⟨fun _ => by kernel_rfl⟩
instance : TSize Tryd.prog 63 1 := ⟨Tryd.sizeOf63⟩
instance : TAgg Tryd.prog 63 false := ⟨Tryd.isAgg63⟩
instance : TZero Tryd.prog 63 (Go.Value.nilFunc) := ⟨Tryd.zeroValue63⟩
theorem row63 : (Tryd.prog.info? 63).map (fun i => (i.size, i.bytes)) = some (1, 8) := by kernel_rfl
instance : TSize Tryd.prog 64 1 := ⟨Tryd.sizeOf64⟩
instance : TAgg Tryd.prog 64 false := ⟨Tryd.isAgg64⟩
instance : TZero Tryd.prog 64 (Go.Value.nilFunc) := ⟨Tryd.zeroValue64⟩
theorem row64 : (Tryd.prog.info? 64).map (fun i => (i.size, i.bytes)) = some (1, 8) := by kernel_rfl
instance : TSize Tryd.prog 65 1 := ⟨Tryd.sizeOf65⟩
instance : TAgg Tryd.prog 65 false := ⟨Tryd.isAgg65⟩
instance : TZero Tryd.prog 65 (Go.Value.nilFunc) := ⟨Tryd.zeroValue65⟩
theorem row65 : (Tryd.prog.info? 65).map (fun i => (i.size, i.bytes)) = some (1, 8) := by kernel_rfl
instance : TSize Tryd.prog 66 1 := ⟨Tryd.sizeOf66⟩
instance : TAgg Tryd.prog 66 false := ⟨Tryd.isAgg66⟩
instance : TZero Tryd.prog 66 (Go.Value.nilFunc) := ⟨Tryd.zeroValue66⟩
theorem row66 : (Tryd.prog.info? 66).map (fun i => (i.size, i.bytes)) = some (1, 8) := by kernel_rfl
instance : TSize Tryd.prog 67 1 := ⟨Tryd.sizeOf67⟩
instance : TAgg Tryd.prog 67 false := ⟨Tryd.isAgg67⟩
instance : TZero Tryd.prog 67 (Go.Value.nilFunc) := ⟨Tryd.zeroValue67⟩
theorem row67 : (Tryd.prog.info? 67).map (fun i => (i.size, i.bytes)) = some (1, 8) := by kernel_rfl
instance : TSize Tryd.prog 68 1 := ⟨Tryd.sizeOf68⟩
instance : TAgg Tryd.prog 68 false := ⟨Tryd.isAgg68⟩
instance : TZero Tryd.prog 68 (Go.Value.nilFunc) := ⟨Tryd.zeroValue68⟩
theorem row68 : (Tryd.prog.info? 68).map (fun i => (i.size, i.bytes)) = some (1, 8) := by kernel_rfl
instance : TSize Tryd.prog 69 1 := ⟨Tryd.sizeOf69⟩
instance : TAgg Tryd.prog 69 false := ⟨Tryd.isAgg69⟩
instance : TZero Tryd.prog 69 (Go.Value.nilFunc) := ⟨Tryd.zeroValue69⟩
theorem row69 : (Tryd.prog.info? 69).map (fun i => (i.size, i.bytes)) = some (1, 8) := by kernel_rfl
instance : TSize Tryd.prog 70 1 := ⟨Tryd.sizeOf70⟩
instance : TAgg Tryd.prog 70 false := ⟨Tryd.isAgg70⟩
instance : TZero Tryd.prog 70 (Go.Value.int Go.IntKind.u64 0) := ⟨Tryd.zeroValue70⟩
theorem row70 : (Tryd.prog.info? 70).map (fun i => (i.size, i.bytes)) = some (1, 8) := by kernel_rfl
instance : TUnd Tryd.prog 70 (.int Go.IntKind.u64) := ⟨Tryd.underlying70⟩
instance : TSize Tryd.prog 71 5 := ⟨Tryd.sizeOf71⟩
instance : TAgg Tryd.prog 71 true := ⟨Tryd.isAgg71⟩
def zc71 : Array Value :=  #[Go.Value.int Go.IntKind.i64 0, Go.Value.int Go.IntKind.i64 0, Go.Value.int Go.IntKind.u64 0, Go.Value.int Go.IntKind.i64 0, Go.Value.int Go.IntKind.i64 0]
theorem zc71_size : zc71.size = 5 := rfl
instance : TZero Tryd.prog 71 (.agg zc71) := ⟨Tryd.zeroValue71⟩
theorem row71 : (Tryd.prog.info? 71).map (fun i => (i.size, i.bytes)) = some (5, 40) := by kernel_rfl
instance : TFld Tryd.prog 71 0 0 2 1 := ⟨⟨_, _, Tryd.underlying71, rfl, rfl, rfl, Tryd.sizeOf2, by decide⟩⟩
instance : TFld Tryd.prog 71 1 1 2 1 := ⟨⟨_, _, Tryd.underlying71, rfl, rfl, rfl, Tryd.sizeOf2, by decide⟩⟩
instance : TFld Tryd.prog 71 2 2 70 1 := ⟨⟨_, _, Tryd.underlying71, rfl, rfl, rfl, Tryd.sizeOf70, by decide⟩⟩
instance : TFld Tryd.prog 71 3 3 2 1 := ⟨⟨_, _, Tryd.underlying71, rfl, rfl, rfl, Tryd.sizeOf2, by decide⟩⟩
instance : TFld Tryd.prog 71 4 4 2 1 := ⟨⟨_, _, Tryd.underlying71, rfl, rfl, rfl, Tryd.sizeOf2, by decide⟩⟩
instance : TBuild Tryd.prog 71 zc71 [(0, 1), (1, 1), (2, 1), (3, 1), (4, 1)] := ⟨fun _ => by kernel_rfl⟩
instance : TSize Tryd.prog 72 5 := ⟨Tryd.sizeOf72⟩
instance : TAgg Tryd.prog 72 true := ⟨Tryd.isAgg72⟩
def zc72 : Array Value :=  #[Go.Value.int Go.IntKind.i64 0, Go.Value.int Go.IntKind.i64 0, Go.Value.int Go.IntKind.u64 0, Go.Value.int Go.IntKind.i64 0, Go.Value.int Go.IntKind.i64 0]
theorem zc72_size : zc72.size = 5 := rfl
instance : TZero Tryd.prog 72 (.agg zc72) := ⟨Tryd.zeroValue72⟩
theorem row72 : (Tryd.prog.info? 72).map (fun i => (i.size, i.bytes)) = some (5, 40) := by kernel_rfl
instance : TFld Tryd.prog 72 0 0 2 1 := ⟨⟨_, _, Tryd.underlying72, rfl, rfl, rfl, Tryd.sizeOf2, by decide⟩⟩
instance : TFld Tryd.prog 72 1 1 2 1 := ⟨⟨_, _, Tryd.underlying72, rfl, rfl, rfl, Tryd.sizeOf2, by decide⟩⟩
instance : TFld Tryd.prog 72 2 2 70 1 := ⟨⟨_, _, Tryd.underlying72, rfl, rfl, rfl, Tryd.sizeOf70, by decide⟩⟩
instance : TFld Tryd.prog 72 3 3 2 1 := ⟨⟨_, _, Tryd.underlying72, rfl, rfl, rfl, Tryd.sizeOf2, by decide⟩⟩
instance : TFld Tryd.prog 72 4 4 2 1 := ⟨⟨_, _, Tryd.underlying72, rfl, rfl, rfl, Tryd.sizeOf2, by decide⟩⟩
instance : TBuild Tryd.prog 72 zc72 [(0, 1), (1, 1), (2, 1), (3, 1), (4, 1)] := ⟨fun _ => by kernel_rfl⟩
instance : TSize Tryd.prog 73 1 := ⟨Tryd.sizeOf73⟩
instance : TAgg Tryd.prog 73 false := ⟨Tryd.isAgg73⟩
instance : TZero Tryd.prog 73 (Go.Value.pointer Option.none) := ⟨Tryd.zeroValue73⟩
theorem row73 : (Tryd.prog.info? 73).map (fun i => (i.size, i.bytes)) = some (1, 8) := by kernel_rfl
instance : TUnd Tryd.prog 73 (.pointer 24) := ⟨Tryd.underlying73⟩
instance : TSize Tryd.prog 74 1 := ⟨Tryd.sizeOf74⟩
instance : TAgg Tryd.prog 74 false := ⟨Tryd.isAgg74⟩
instance : TZero Tryd.prog 74 (Go.Value.nilFunc) := ⟨Tryd.zeroValue74⟩
theorem row74 : (Tryd.prog.info? 74).map (fun i => (i.size, i.bytes)) = some (1, 8) := by kernel_rfl
instance : TSize Tryd.prog 75 1 := ⟨Tryd.sizeOf75⟩
instance : TAgg Tryd.prog 75 false := ⟨Tryd.isAgg75⟩
instance : TZero Tryd.prog 75 (Go.Value.pointer Option.none) := ⟨Tryd.zeroValue75⟩
theorem row75 : (Tryd.prog.info? 75).map (fun i => (i.size, i.bytes)) = some (1, 8) := by kernel_rfl
instance : TUnd Tryd.prog 75 (.pointer 73) := ⟨Tryd.underlying75⟩
instance : TSize Tryd.prog 76 1 := ⟨Tryd.sizeOf76⟩
instance : TAgg Tryd.prog 76 false := ⟨Tryd.isAgg76⟩
instance : TZero Tryd.prog 76 (Go.Value.nilFunc) := ⟨Tryd.zeroValue76⟩
theorem row76 : (Tryd.prog.info? 76).map (fun i => (i.size, i.bytes)) = some (1, 8) := by kernel_rfl
instance : TSize Tryd.prog 77 1 := ⟨Tryd.sizeOf77⟩
instance : TAgg Tryd.prog 77 false := ⟨Tryd.isAgg77⟩
instance : TZero Tryd.prog 77 (Go.Value.pointer Option.none) := ⟨Tryd.zeroValue77⟩
theorem row77 : (Tryd.prog.info? 77).map (fun i => (i.size, i.bytes)) = some (1, 8) := by kernel_rfl
instance : TUnd Tryd.prog 77 (.pointer 79) := ⟨Tryd.underlying77⟩
instance : TSize Tryd.prog 78 2 := ⟨Tryd.sizeOf78⟩
instance : TAgg Tryd.prog 78 true := ⟨Tryd.isAgg78⟩
def zc78 : Array Value :=  #[Go.Value.pointer Option.none, Go.Value.int Go.IntKind.i64 0]
theorem zc78_size : zc78.size = 2 := rfl
instance : TZero Tryd.prog 78 (.agg zc78) := ⟨Tryd.zeroValue78⟩
theorem row78 : (Tryd.prog.info? 78).map (fun i => (i.size, i.bytes)) = some (2, 16) := by kernel_rfl
instance : TFld Tryd.prog 78 0 0 46 1 := ⟨⟨_, _, Tryd.underlying78, rfl, rfl, rfl, Tryd.sizeOf46, by decide⟩⟩
instance : TFld Tryd.prog 78 1 1 3 1 := ⟨⟨_, _, Tryd.underlying78, rfl, rfl, rfl, Tryd.sizeOf3, by decide⟩⟩
instance : TBuild Tryd.prog 78 zc78 [(0, 1), (1, 1)] := ⟨fun _ => by kernel_rfl⟩
instance : TSize Tryd.prog 79 2 := ⟨Tryd.sizeOf79⟩
instance : TAgg Tryd.prog 79 true := ⟨Tryd.isAgg79⟩
def zc79 : Array Value :=  #[Go.Value.pointer Option.none, Go.Value.int Go.IntKind.i64 0]
theorem zc79_size : zc79.size = 2 := rfl
instance : TZero Tryd.prog 79 (.agg zc79) := ⟨Tryd.zeroValue79⟩
theorem row79 : (Tryd.prog.info? 79).map (fun i => (i.size, i.bytes)) = some (2, 16) := by kernel_rfl
instance : TFld Tryd.prog 79 0 0 46 1 := ⟨⟨_, _, Tryd.underlying79, rfl, rfl, rfl, Tryd.sizeOf46, by decide⟩⟩
instance : TFld Tryd.prog 79 1 1 3 1 := ⟨⟨_, _, Tryd.underlying79, rfl, rfl, rfl, Tryd.sizeOf3, by decide⟩⟩
instance : TBuild Tryd.prog 79 zc79 [(0, 1), (1, 1)] := ⟨fun _ => by kernel_rfl⟩
instance : TSize Tryd.prog 80 1 := ⟨Tryd.sizeOf80⟩
instance : TAgg Tryd.prog 80 false := ⟨Tryd.isAgg80⟩
instance : TZero Tryd.prog 80 (Go.Value.pointer Option.none) := ⟨Tryd.zeroValue80⟩
theorem row80 : (Tryd.prog.info? 80).map (fun i => (i.size, i.bytes)) = some (1, 8) := by kernel_rfl
instance : TUnd Tryd.prog 80 (.pointer 27) := ⟨Tryd.underlying80⟩
instance : TSize Tryd.prog 81 1 := ⟨Tryd.sizeOf81⟩
instance : TAgg Tryd.prog 81 false := ⟨Tryd.isAgg81⟩
instance : TZero Tryd.prog 81 (Go.Value.nilIface) := ⟨Tryd.zeroValue81⟩
theorem row81 : (Tryd.prog.info? 81).map (fun i => (i.size, i.bytes)) = some (1, 16) := by kernel_rfl
instance : TUnd Tryd.prog 81 (Go.TypeDesc.interface #[("anabranch/codec.here", 1), ("anabranch/codec.must", 94), ("anabranch/codec.number", 128), ("anabranch/codec.one", 87), ("anabranch/codec.truth", 89), ("anabranch/codec.whole", 85)]) := ⟨Tryd.underlying81⟩
instance : TSize Tryd.prog 82 1 := ⟨Tryd.sizeOf82⟩
instance : TAgg Tryd.prog 82 false := ⟨Tryd.isAgg82⟩
instance : TZero Tryd.prog 82 (Go.Value.nilIface) := ⟨Tryd.zeroValue82⟩
theorem row82 : (Tryd.prog.info? 82).map (fun i => (i.size, i.bytes)) = some (1, 16) := by kernel_rfl
instance : TUnd Tryd.prog 82 (Go.TypeDesc.interface #[("anabranch/codec.here", 1), ("anabranch/codec.must", 94), ("anabranch/codec.number", 128), ("anabranch/codec.one", 87), ("anabranch/codec.truth", 89), ("anabranch/codec.whole", 85)]) := ⟨Tryd.underlying82⟩
instance : TSize Tryd.prog 83 1 := ⟨Tryd.sizeOf83⟩
instance : TAgg Tryd.prog 83 false := ⟨Tryd.isAgg83⟩
instance : TZero Tryd.prog 83 (Go.Value.nilFunc) := ⟨Tryd.zeroValue83⟩
theorem row83 : (Tryd.prog.info? 83).map (fun i => (i.size, i.bytes)) = some (1, 8) := by kernel_rfl
instance : TSize Tryd.prog 84 1 := ⟨Tryd.sizeOf84⟩
instance : TAgg Tryd.prog 84 false := ⟨Tryd.isAgg84⟩
instance : TZero Tryd.prog 84 (Go.Value.pointer Option.none) := ⟨Tryd.zeroValue84⟩
theorem row84 : (Tryd.prog.info? 84).map (fun i => (i.size, i.bytes)) = some (1, 8) := by kernel_rfl
instance : TUnd Tryd.prog 84 (.pointer 25) := ⟨Tryd.underlying84⟩
instance : TSize Tryd.prog 85 1 := ⟨Tryd.sizeOf85⟩
instance : TAgg Tryd.prog 85 false := ⟨Tryd.isAgg85⟩
instance : TZero Tryd.prog 85 (Go.Value.nilFunc) := ⟨Tryd.zeroValue85⟩
theorem row85 : (Tryd.prog.info? 85).map (fun i => (i.size, i.bytes)) = some (1, 8) := by kernel_rfl
instance : TSize Tryd.prog 86 1 := ⟨Tryd.sizeOf86⟩
instance : TAgg Tryd.prog 86 false := ⟨Tryd.isAgg86⟩
instance : TZero Tryd.prog 86 (Go.Value.pointer Option.none) := ⟨Tryd.zeroValue86⟩
theorem row86 : (Tryd.prog.info? 86).map (fun i => (i.size, i.bytes)) = some (1, 8) := by kernel_rfl
instance : TUnd Tryd.prog 86 (.pointer 2) := ⟨Tryd.underlying86⟩
instance : TSize Tryd.prog 87 1 := ⟨Tryd.sizeOf87⟩
instance : TAgg Tryd.prog 87 false := ⟨Tryd.isAgg87⟩
instance : TZero Tryd.prog 87 (Go.Value.nilFunc) := ⟨Tryd.zeroValue87⟩
theorem row87 : (Tryd.prog.info? 87).map (fun i => (i.size, i.bytes)) = some (1, 8) := by kernel_rfl
instance : TSize Tryd.prog 88 1 := ⟨Tryd.sizeOf88⟩
instance : TAgg Tryd.prog 88 false := ⟨Tryd.isAgg88⟩
instance : TZero Tryd.prog 88 (Go.Value.pointer Option.none) := ⟨Tryd.zeroValue88⟩
theorem row88 : (Tryd.prog.info? 88).map (fun i => (i.size, i.bytes)) = some (1, 8) := by kernel_rfl
instance : TUnd Tryd.prog 88 (.pointer 5) := ⟨Tryd.underlying88⟩
instance : TSize Tryd.prog 89 1 := ⟨Tryd.sizeOf89⟩
instance : TAgg Tryd.prog 89 false := ⟨Tryd.isAgg89⟩
instance : TZero Tryd.prog 89 (Go.Value.nilFunc) := ⟨Tryd.zeroValue89⟩
theorem row89 : (Tryd.prog.info? 89).map (fun i => (i.size, i.bytes)) = some (1, 8) := by kernel_rfl
instance : TSize Tryd.prog 90 1 := ⟨Tryd.sizeOf90⟩
instance : TAgg Tryd.prog 90 false := ⟨Tryd.isAgg90⟩
instance : TZero Tryd.prog 90 (Go.Value.pointer Option.none) := ⟨Tryd.zeroValue90⟩
theorem row90 : (Tryd.prog.info? 90).map (fun i => (i.size, i.bytes)) = some (1, 8) := by kernel_rfl
instance : TUnd Tryd.prog 90 (.pointer 4) := ⟨Tryd.underlying90⟩
instance : TSize Tryd.prog 91 1 := ⟨Tryd.sizeOf91⟩
instance : TAgg Tryd.prog 91 false := ⟨Tryd.isAgg91⟩
instance : TZero Tryd.prog 91 (Go.Value.pointer Option.none) := ⟨Tryd.zeroValue91⟩
theorem row91 : (Tryd.prog.info? 91).map (fun i => (i.size, i.bytes)) = some (1, 8) := by kernel_rfl
instance : TUnd Tryd.prog 91 (.pointer 41) := ⟨Tryd.underlying91⟩
instance : TSize Tryd.prog 92 1 := ⟨Tryd.sizeOf92⟩
instance : TAgg Tryd.prog 92 false := ⟨Tryd.isAgg92⟩
instance : TZero Tryd.prog 92 (Go.Value.nilFunc) := ⟨Tryd.zeroValue92⟩
theorem row92 : (Tryd.prog.info? 92).map (fun i => (i.size, i.bytes)) = some (1, 8) := by kernel_rfl
instance : TSize Tryd.prog 93 1 := ⟨Tryd.sizeOf93⟩
instance : TAgg Tryd.prog 93 false := ⟨Tryd.isAgg93⟩
instance : TZero Tryd.prog 93 (Go.Value.pointer Option.none) := ⟨Tryd.zeroValue93⟩
theorem row93 : (Tryd.prog.info? 93).map (fun i => (i.size, i.bytes)) = some (1, 8) := by kernel_rfl
instance : TUnd Tryd.prog 93 (.pointer 3) := ⟨Tryd.underlying93⟩
instance : TSize Tryd.prog 94 1 := ⟨Tryd.sizeOf94⟩
instance : TAgg Tryd.prog 94 false := ⟨Tryd.isAgg94⟩
instance : TZero Tryd.prog 94 (Go.Value.nilFunc) := ⟨Tryd.zeroValue94⟩
theorem row94 : (Tryd.prog.info? 94).map (fun i => (i.size, i.bytes)) = some (1, 8) := by kernel_rfl
instance : TSize Tryd.prog 95 1 := ⟨Tryd.sizeOf95⟩
instance : TAgg Tryd.prog 95 false := ⟨Tryd.isAgg95⟩
instance : TZero Tryd.prog 95 (Go.Value.pointer Option.none) := ⟨Tryd.zeroValue95⟩
theorem row95 : (Tryd.prog.info? 95).map (fun i => (i.size, i.bytes)) = some (1, 8) := by kernel_rfl
instance : TUnd Tryd.prog 95 (.pointer 36) := ⟨Tryd.underlying95⟩
instance : TSize Tryd.prog 96 1 := ⟨Tryd.sizeOf96⟩
instance : TAgg Tryd.prog 96 false := ⟨Tryd.isAgg96⟩
instance : TZero Tryd.prog 96 (Go.Value.pointer Option.none) := ⟨Tryd.zeroValue96⟩
theorem row96 : (Tryd.prog.info? 96).map (fun i => (i.size, i.bytes)) = some (1, 8) := by kernel_rfl
instance : TUnd Tryd.prog 96 (.pointer 39) := ⟨Tryd.underlying96⟩
instance : TSize Tryd.prog 97 1 := ⟨Tryd.sizeOf97⟩
instance : TAgg Tryd.prog 97 false := ⟨Tryd.isAgg97⟩
instance : TZero Tryd.prog 97 (Go.Value.nilFunc) := ⟨Tryd.zeroValue97⟩
theorem row97 : (Tryd.prog.info? 97).map (fun i => (i.size, i.bytes)) = some (1, 8) := by kernel_rfl
instance : TSize Tryd.prog 98 1 := ⟨Tryd.sizeOf98⟩
instance : TAgg Tryd.prog 98 false := ⟨Tryd.isAgg98⟩
instance : TZero Tryd.prog 98 (Go.Value.pointer Option.none) := ⟨Tryd.zeroValue98⟩
theorem row98 : (Tryd.prog.info? 98).map (fun i => (i.size, i.bytes)) = some (1, 8) := by kernel_rfl
instance : TUnd Tryd.prog 98 (.pointer 32) := ⟨Tryd.underlying98⟩
instance : TSize Tryd.prog 99 1 := ⟨Tryd.sizeOf99⟩
instance : TAgg Tryd.prog 99 false := ⟨Tryd.isAgg99⟩
instance : TZero Tryd.prog 99 (Go.Value.nilFunc) := ⟨Tryd.zeroValue99⟩
theorem row99 : (Tryd.prog.info? 99).map (fun i => (i.size, i.bytes)) = some (1, 8) := by kernel_rfl
instance : TSize Tryd.prog 100 1 := ⟨Tryd.sizeOf100⟩
instance : TAgg Tryd.prog 100 false := ⟨Tryd.isAgg100⟩
instance : TZero Tryd.prog 100 (Go.Value.pointer Option.none) := ⟨Tryd.zeroValue100⟩
theorem row100 : (Tryd.prog.info? 100).map (fun i => (i.size, i.bytes)) = some (1, 8) := by kernel_rfl
instance : TUnd Tryd.prog 100 (.pointer 34) := ⟨Tryd.underlying100⟩
instance : TSize Tryd.prog 101 1 := ⟨Tryd.sizeOf101⟩
instance : TAgg Tryd.prog 101 false := ⟨Tryd.isAgg101⟩
instance : TZero Tryd.prog 101 (Go.Value.nilFunc) := ⟨Tryd.zeroValue101⟩
theorem row101 : (Tryd.prog.info? 101).map (fun i => (i.size, i.bytes)) = some (1, 8) := by kernel_rfl
instance : TSize Tryd.prog 102 10 := ⟨Tryd.sizeOf102⟩
instance : TAgg Tryd.prog 102 true := ⟨Tryd.isAgg102⟩
def zc102 : Array Value :=  #[Go.Value.int Go.IntKind.i64 0, Go.Value.int Go.IntKind.u32 0, Go.Value.int Go.IntKind.i64 0, Go.Value.int Go.IntKind.i64 0, Go.Value.int Go.IntKind.u8 0, Go.Value.int Go.IntKind.i64 0, Go.Value.int Go.IntKind.i64 0, Go.Value.int Go.IntKind.u64 0, Go.Value.int Go.IntKind.i64 0, Go.Value.int Go.IntKind.i64 0]
theorem zc102_size : zc102.size = 10 := rfl
instance : TZero Tryd.prog 102 (.agg zc102) := ⟨Tryd.zeroValue102⟩
theorem row102 : (Tryd.prog.info? 102).map (fun i => (i.size, i.bytes)) = some (10, 80) := by kernel_rfl
instance : TFld Tryd.prog 102 0 0 3 1 := ⟨⟨_, _, Tryd.underlying102, rfl, rfl, rfl, Tryd.sizeOf3, by decide⟩⟩
instance : TFld Tryd.prog 102 1 1 25 1 := ⟨⟨_, _, Tryd.underlying102, rfl, rfl, rfl, Tryd.sizeOf25, by decide⟩⟩
instance : TFld Tryd.prog 102 2 2 2 1 := ⟨⟨_, _, Tryd.underlying102, rfl, rfl, rfl, Tryd.sizeOf2, by decide⟩⟩
instance : TFld Tryd.prog 102 3 3 2 1 := ⟨⟨_, _, Tryd.underlying102, rfl, rfl, rfl, Tryd.sizeOf2, by decide⟩⟩
instance : TFld Tryd.prog 102 4 4 5 1 := ⟨⟨_, _, Tryd.underlying102, rfl, rfl, rfl, Tryd.sizeOf5, by decide⟩⟩
instance : TFld Tryd.prog 102 5 5 72 5 := ⟨⟨_, _, Tryd.underlying102, rfl, rfl, rfl, Tryd.sizeOf72, by decide⟩⟩
instance : TBuild Tryd.prog 102 zc102 [(0, 1), (1, 1), (2, 1), (3, 1), (4, 1), (5, 5)] := ⟨fun _ => by kernel_rfl⟩
instance : TSize Tryd.prog 103 10 := ⟨Tryd.sizeOf103⟩
instance : TAgg Tryd.prog 103 true := ⟨Tryd.isAgg103⟩
def zc103 : Array Value :=  #[Go.Value.int Go.IntKind.i64 0, Go.Value.int Go.IntKind.u32 0, Go.Value.int Go.IntKind.i64 0, Go.Value.int Go.IntKind.i64 0, Go.Value.int Go.IntKind.u8 0, Go.Value.int Go.IntKind.i64 0, Go.Value.int Go.IntKind.i64 0, Go.Value.int Go.IntKind.u64 0, Go.Value.int Go.IntKind.i64 0, Go.Value.int Go.IntKind.i64 0]
theorem zc103_size : zc103.size = 10 := rfl
instance : TZero Tryd.prog 103 (.agg zc103) := ⟨Tryd.zeroValue103⟩
theorem row103 : (Tryd.prog.info? 103).map (fun i => (i.size, i.bytes)) = some (10, 80) := by kernel_rfl
instance : TFld Tryd.prog 103 0 0 3 1 := ⟨⟨_, _, Tryd.underlying103, rfl, rfl, rfl, Tryd.sizeOf3, by decide⟩⟩
instance : TFld Tryd.prog 103 1 1 25 1 := ⟨⟨_, _, Tryd.underlying103, rfl, rfl, rfl, Tryd.sizeOf25, by decide⟩⟩
instance : TFld Tryd.prog 103 2 2 2 1 := ⟨⟨_, _, Tryd.underlying103, rfl, rfl, rfl, Tryd.sizeOf2, by decide⟩⟩
instance : TFld Tryd.prog 103 3 3 2 1 := ⟨⟨_, _, Tryd.underlying103, rfl, rfl, rfl, Tryd.sizeOf2, by decide⟩⟩
instance : TFld Tryd.prog 103 4 4 5 1 := ⟨⟨_, _, Tryd.underlying103, rfl, rfl, rfl, Tryd.sizeOf5, by decide⟩⟩
instance : TFld Tryd.prog 103 5 5 72 5 := ⟨⟨_, _, Tryd.underlying103, rfl, rfl, rfl, Tryd.sizeOf72, by decide⟩⟩
instance : TBuild Tryd.prog 103 zc103 [(0, 1), (1, 1), (2, 1), (3, 1), (4, 1), (5, 5)] := ⟨fun _ => by kernel_rfl⟩
instance : TSize Tryd.prog 104 1 := ⟨Tryd.sizeOf104⟩
instance : TAgg Tryd.prog 104 false := ⟨Tryd.isAgg104⟩
instance : TZero Tryd.prog 104 (Go.Value.pointer Option.none) := ⟨Tryd.zeroValue104⟩
theorem row104 : (Tryd.prog.info? 104).map (fun i => (i.size, i.bytes)) = some (1, 8) := by kernel_rfl
instance : TUnd Tryd.prog 104 (.pointer 37) := ⟨Tryd.underlying104⟩
instance : TSize Tryd.prog 105 1 := ⟨Tryd.sizeOf105⟩
instance : TAgg Tryd.prog 105 false := ⟨Tryd.isAgg105⟩
instance : TZero Tryd.prog 105 (Go.Value.nilFunc) := ⟨Tryd.zeroValue105⟩
theorem row105 : (Tryd.prog.info? 105).map (fun i => (i.size, i.bytes)) = some (1, 8) := by kernel_rfl
instance : TSize Tryd.prog 106 1 := ⟨Tryd.sizeOf106⟩
instance : TAgg Tryd.prog 106 false := ⟨Tryd.isAgg106⟩
instance : TZero Tryd.prog 106 (Go.Value.pointer Option.none) := ⟨Tryd.zeroValue106⟩
theorem row106 : (Tryd.prog.info? 106).map (fun i => (i.size, i.bytes)) = some (1, 8) := by kernel_rfl
instance : TUnd Tryd.prog 106 (.pointer 108) := ⟨Tryd.underlying106⟩
instance : TSize Tryd.prog 107 1 := ⟨Tryd.sizeOf107⟩
instance : TAgg Tryd.prog 107 true := ⟨Tryd.isAgg107⟩
def zc107 : Array Value :=  #[Go.Value.slice Option.none 0 0]
theorem zc107_size : zc107.size = 1 := rfl
instance : TZero Tryd.prog 107 (.agg zc107) := ⟨Tryd.zeroValue107⟩
theorem row107 : (Tryd.prog.info? 107).map (fun i => (i.size, i.bytes)) = some (1, 24) := by kernel_rfl
instance : TFld Tryd.prog 107 0 0 50 1 := ⟨⟨_, _, Tryd.underlying107, rfl, rfl, rfl, Tryd.sizeOf50, by decide⟩⟩
instance : TBuild Tryd.prog 107 zc107 [(0, 1)] := ⟨fun _ => by kernel_rfl⟩
instance : TSize Tryd.prog 108 1 := ⟨Tryd.sizeOf108⟩
instance : TAgg Tryd.prog 108 true := ⟨Tryd.isAgg108⟩
def zc108 : Array Value :=  #[Go.Value.slice Option.none 0 0]
theorem zc108_size : zc108.size = 1 := rfl
instance : TZero Tryd.prog 108 (.agg zc108) := ⟨Tryd.zeroValue108⟩
theorem row108 : (Tryd.prog.info? 108).map (fun i => (i.size, i.bytes)) = some (1, 24) := by kernel_rfl
instance : TFld Tryd.prog 108 0 0 50 1 := ⟨⟨_, _, Tryd.underlying108, rfl, rfl, rfl, Tryd.sizeOf50, by decide⟩⟩
instance : TBuild Tryd.prog 108 zc108 [(0, 1)] := ⟨fun _ => by kernel_rfl⟩
instance : TSize Tryd.prog 109 1 := ⟨Tryd.sizeOf109⟩
instance : TAgg Tryd.prog 109 false := ⟨Tryd.isAgg109⟩
instance : TZero Tryd.prog 109 (Go.Value.nilFunc) := ⟨Tryd.zeroValue109⟩
theorem row109 : (Tryd.prog.info? 109).map (fun i => (i.size, i.bytes)) = some (1, 8) := by kernel_rfl
instance : TSize Tryd.prog 110 1 := ⟨Tryd.sizeOf110⟩
instance : TAgg Tryd.prog 110 false := ⟨Tryd.isAgg110⟩
instance : TZero Tryd.prog 110 (Go.Value.nilFunc) := ⟨Tryd.zeroValue110⟩
theorem row110 : (Tryd.prog.info? 110).map (fun i => (i.size, i.bytes)) = some (1, 8) := by kernel_rfl
instance : TSize Tryd.prog 111 1 := ⟨Tryd.sizeOf111⟩
instance : TAgg Tryd.prog 111 false := ⟨Tryd.isAgg111⟩
instance : TZero Tryd.prog 111 (Go.Value.nilFunc) := ⟨Tryd.zeroValue111⟩
theorem row111 : (Tryd.prog.info? 111).map (fun i => (i.size, i.bytes)) = some (1, 8) := by kernel_rfl
instance : TSize Tryd.prog 112 1 := ⟨Tryd.sizeOf112⟩
instance : TAgg Tryd.prog 112 false := ⟨Tryd.isAgg112⟩
instance : TZero Tryd.prog 112 (Go.Value.nilFunc) := ⟨Tryd.zeroValue112⟩
theorem row112 : (Tryd.prog.info? 112).map (fun i => (i.size, i.bytes)) = some (1, 8) := by kernel_rfl
instance : TSize Tryd.prog 113 1 := ⟨Tryd.sizeOf113⟩
instance : TAgg Tryd.prog 113 false := ⟨Tryd.isAgg113⟩
instance : TZero Tryd.prog 113 (Go.Value.nilFunc) := ⟨Tryd.zeroValue113⟩
theorem row113 : (Tryd.prog.info? 113).map (fun i => (i.size, i.bytes)) = some (1, 8) := by kernel_rfl
instance : TSize Tryd.prog 114 1 := ⟨Tryd.sizeOf114⟩
instance : TAgg Tryd.prog 114 false := ⟨Tryd.isAgg114⟩
instance : TZero Tryd.prog 114 (Go.Value.pointer Option.none) := ⟨Tryd.zeroValue114⟩
theorem row114 : (Tryd.prog.info? 114).map (fun i => (i.size, i.bytes)) = some (1, 8) := by kernel_rfl
instance : TSize Tryd.prog 115 1 := ⟨Tryd.sizeOf115⟩
instance : TAgg Tryd.prog 115 false := ⟨Tryd.isAgg115⟩
instance : TZero Tryd.prog 115 (Go.Value.int Go.IntKind.u64 0) := ⟨Tryd.zeroValue115⟩
theorem row115 : (Tryd.prog.info? 115).map (fun i => (i.size, i.bytes)) = some (1, 8) := by kernel_rfl
instance : TUnd Tryd.prog 115 (.int Go.IntKind.u64) := ⟨Tryd.underlying115⟩
instance : TSize Tryd.prog 116 3 := ⟨Tryd.sizeOf116⟩
instance : TAgg Tryd.prog 116 true := ⟨Tryd.isAgg116⟩
def zc116 : Array Value :=  #[Go.Value.pointer Option.none, Go.Value.pointer Option.none, Go.Value.int Go.IntKind.u64 0]
theorem zc116_size : zc116.size = 3 := rfl
instance : TZero Tryd.prog 116 (.agg zc116) := ⟨Tryd.zeroValue116⟩
theorem row116 : (Tryd.prog.info? 116).map (fun i => (i.size, i.bytes)) = some (3, 24) := by kernel_rfl
instance : TFld Tryd.prog 116 0 0 17 1 := ⟨⟨_, _, Tryd.underlying116, rfl, rfl, rfl, Tryd.sizeOf17, by decide⟩⟩
instance : TFld Tryd.prog 116 1 1 114 1 := ⟨⟨_, _, Tryd.underlying116, rfl, rfl, rfl, Tryd.sizeOf114, by decide⟩⟩
instance : TFld Tryd.prog 116 2 2 115 1 := ⟨⟨_, _, Tryd.underlying116, rfl, rfl, rfl, Tryd.sizeOf115, by decide⟩⟩
instance : TBuild Tryd.prog 116 zc116 [(0, 1), (1, 1), (2, 1)] := ⟨fun _ => by kernel_rfl⟩
instance : TSize Tryd.prog 117 3 := ⟨Tryd.sizeOf117⟩
instance : TAgg Tryd.prog 117 true := ⟨Tryd.isAgg117⟩
def zc117 : Array Value :=  #[Go.Value.pointer Option.none, Go.Value.pointer Option.none, Go.Value.int Go.IntKind.u64 0]
theorem zc117_size : zc117.size = 3 := rfl
instance : TZero Tryd.prog 117 (.agg zc117) := ⟨Tryd.zeroValue117⟩
theorem row117 : (Tryd.prog.info? 117).map (fun i => (i.size, i.bytes)) = some (3, 24) := by kernel_rfl
instance : TFld Tryd.prog 117 0 0 17 1 := ⟨⟨_, _, Tryd.underlying117, rfl, rfl, rfl, Tryd.sizeOf17, by decide⟩⟩
instance : TFld Tryd.prog 117 1 1 114 1 := ⟨⟨_, _, Tryd.underlying117, rfl, rfl, rfl, Tryd.sizeOf114, by decide⟩⟩
instance : TFld Tryd.prog 117 2 2 115 1 := ⟨⟨_, _, Tryd.underlying117, rfl, rfl, rfl, Tryd.sizeOf115, by decide⟩⟩
instance : TBuild Tryd.prog 117 zc117 [(0, 1), (1, 1), (2, 1)] := ⟨fun _ => by kernel_rfl⟩
instance : TSize Tryd.prog 118 1 := ⟨Tryd.sizeOf118⟩
instance : TAgg Tryd.prog 118 false := ⟨Tryd.isAgg118⟩
instance : TZero Tryd.prog 118 (Go.Value.nilFunc) := ⟨Tryd.zeroValue118⟩
theorem row118 : (Tryd.prog.info? 118).map (fun i => (i.size, i.bytes)) = some (1, 8) := by kernel_rfl
instance : TSize Tryd.prog 119 1 := ⟨Tryd.sizeOf119⟩
instance : TAgg Tryd.prog 119 false := ⟨Tryd.isAgg119⟩
instance : TZero Tryd.prog 119 (Go.Value.nilIface) := ⟨Tryd.zeroValue119⟩
theorem row119 : (Tryd.prog.info? 119).map (fun i => (i.size, i.bytes)) = some (1, 16) := by kernel_rfl
instance : TUnd Tryd.prog 119 (Go.TypeDesc.interface #[("AssignableTo", 124), ("Comparable", 52), ("Elem", 121), ("Implements", 124), ("Kind", 123), ("Name", 148), ("PkgPath", 148), ("Size", 184), ("String", 148), ("internal/reflectlite.common", 154), ("internal/reflectlite.uncommon", 185)]) := ⟨Tryd.underlying119⟩
instance : TSize Tryd.prog 120 1 := ⟨Tryd.sizeOf120⟩
instance : TAgg Tryd.prog 120 false := ⟨Tryd.isAgg120⟩
instance : TZero Tryd.prog 120 (Go.Value.nilIface) := ⟨Tryd.zeroValue120⟩
theorem row120 : (Tryd.prog.info? 120).map (fun i => (i.size, i.bytes)) = some (1, 16) := by kernel_rfl
instance : TUnd Tryd.prog 120 (Go.TypeDesc.interface #[("AssignableTo", 124), ("Comparable", 52), ("Elem", 121), ("Implements", 124), ("Kind", 123), ("Name", 148), ("PkgPath", 148), ("Size", 184), ("String", 148), ("internal/reflectlite.common", 154), ("internal/reflectlite.uncommon", 185)]) := ⟨Tryd.underlying120⟩
instance : TSize Tryd.prog 121 1 := ⟨Tryd.sizeOf121⟩
instance : TAgg Tryd.prog 121 false := ⟨Tryd.isAgg121⟩
instance : TZero Tryd.prog 121 (Go.Value.nilFunc) := ⟨Tryd.zeroValue121⟩
theorem row121 : (Tryd.prog.info? 121).map (fun i => (i.size, i.bytes)) = some (1, 8) := by kernel_rfl
instance : TSize Tryd.prog 122 1 := ⟨Tryd.sizeOf122⟩
instance : TAgg Tryd.prog 122 false := ⟨Tryd.isAgg122⟩
instance : TZero Tryd.prog 122 (Go.Value.int Go.IntKind.u8 0) := ⟨Tryd.zeroValue122⟩
theorem row122 : (Tryd.prog.info? 122).map (fun i => (i.size, i.bytes)) = some (1, 1) := by kernel_rfl
instance : TUnd Tryd.prog 122 (.int Go.IntKind.u8) := ⟨Tryd.underlying122⟩
instance : TSize Tryd.prog 123 1 := ⟨Tryd.sizeOf123⟩
instance : TAgg Tryd.prog 123 false := ⟨Tryd.isAgg123⟩
instance : TZero Tryd.prog 123 (Go.Value.nilFunc) := ⟨Tryd.zeroValue123⟩
theorem row123 : (Tryd.prog.info? 123).map (fun i => (i.size, i.bytes)) = some (1, 8) := by kernel_rfl
instance : TSize Tryd.prog 124 1 := ⟨Tryd.sizeOf124⟩
instance : TAgg Tryd.prog 124 false := ⟨Tryd.isAgg124⟩
instance : TZero Tryd.prog 124 (Go.Value.nilFunc) := ⟨Tryd.zeroValue124⟩
theorem row124 : (Tryd.prog.info? 124).map (fun i => (i.size, i.bytes)) = some (1, 8) := by kernel_rfl
instance : TSize Tryd.prog 125 1 := ⟨Tryd.sizeOf125⟩
instance : TAgg Tryd.prog 125 false := ⟨Tryd.isAgg125⟩
instance : TZero Tryd.prog 125 (Go.Value.nilFunc) := ⟨Tryd.zeroValue125⟩
theorem row125 : (Tryd.prog.info? 125).map (fun i => (i.size, i.bytes)) = some (1, 8) := by kernel_rfl
instance : TSize Tryd.prog 126 1 := ⟨Tryd.sizeOf126⟩
instance : TAgg Tryd.prog 126 false := ⟨Tryd.isAgg126⟩
instance : TZero Tryd.prog 126 (Go.Value.nilFunc) := ⟨Tryd.zeroValue126⟩
theorem row126 : (Tryd.prog.info? 126).map (fun i => (i.size, i.bytes)) = some (1, 8) := by kernel_rfl
instance : TSize Tryd.prog 127 1 := ⟨Tryd.sizeOf127⟩
instance : TAgg Tryd.prog 127 false := ⟨Tryd.isAgg127⟩
instance : TZero Tryd.prog 127 (Go.Value.nilFunc) := ⟨Tryd.zeroValue127⟩
theorem row127 : (Tryd.prog.info? 127).map (fun i => (i.size, i.bytes)) = some (1, 8) := by kernel_rfl
instance : TSize Tryd.prog 128 1 := ⟨Tryd.sizeOf128⟩
instance : TAgg Tryd.prog 128 false := ⟨Tryd.isAgg128⟩
instance : TZero Tryd.prog 128 (Go.Value.nilFunc) := ⟨Tryd.zeroValue128⟩
theorem row128 : (Tryd.prog.info? 128).map (fun i => (i.size, i.bytes)) = some (1, 8) := by kernel_rfl
instance : TSize Tryd.prog 129 1 := ⟨Tryd.sizeOf129⟩
instance : TAgg Tryd.prog 129 false := ⟨Tryd.isAgg129⟩
instance : TZero Tryd.prog 129 (Go.Value.pointer Option.none) := ⟨Tryd.zeroValue129⟩
theorem row129 : (Tryd.prog.info? 129).map (fun i => (i.size, i.bytes)) = some (1, 8) := by kernel_rfl
instance : TUnd Tryd.prog 129 (.pointer 70) := ⟨Tryd.underlying129⟩
instance : TSize Tryd.prog 130 1 := ⟨Tryd.sizeOf130⟩
instance : TAgg Tryd.prog 130 false := ⟨Tryd.isAgg130⟩
instance : TZero Tryd.prog 130 (Go.Value.pointer Option.none) := ⟨Tryd.zeroValue130⟩
theorem row130 : (Tryd.prog.info? 130).map (fun i => (i.size, i.bytes)) = some (1, 8) := by kernel_rfl
instance : TUnd Tryd.prog 130 (.pointer 103) := ⟨Tryd.underlying130⟩
instance : TSize Tryd.prog 131 1 := ⟨Tryd.sizeOf131⟩
instance : TAgg Tryd.prog 131 false := ⟨Tryd.isAgg131⟩
instance : TZero Tryd.prog 131 (Go.Value.pointer Option.none) := ⟨Tryd.zeroValue131⟩
theorem row131 : (Tryd.prog.info? 131).map (fun i => (i.size, i.bytes)) = some (1, 8) := by kernel_rfl
instance : TUnd Tryd.prog 131 (.pointer 72) := ⟨Tryd.underlying131⟩
instance : TSize Tryd.prog 132 1 := ⟨Tryd.sizeOf132⟩
instance : TAgg Tryd.prog 132 true := ⟨Tryd.isAgg132⟩
def zc132 : Array Value :=  #[Go.Value.pointer Option.none]
theorem zc132_size : zc132.size = 1 := rfl
instance : TZero Tryd.prog 132 (.agg zc132) := ⟨Tryd.zeroValue132⟩
theorem row132 : (Tryd.prog.info? 132).map (fun i => (i.size, i.bytes)) = some (1, 8) := by kernel_rfl
instance : TFld Tryd.prog 132 0 0 17 1 := ⟨⟨_, _, Tryd.underlying132, rfl, rfl, rfl, Tryd.sizeOf17, by decide⟩⟩
instance : TBuild Tryd.prog 132 zc132 [(0, 1)] := ⟨fun _ => by kernel_rfl⟩
instance : TSize Tryd.prog 133 1 := ⟨Tryd.sizeOf133⟩
instance : TAgg Tryd.prog 133 true := ⟨Tryd.isAgg133⟩
def zc133 : Array Value :=  #[Go.Value.pointer Option.none]
theorem zc133_size : zc133.size = 1 := rfl
instance : TZero Tryd.prog 133 (.agg zc133) := ⟨Tryd.zeroValue133⟩
theorem row133 : (Tryd.prog.info? 133).map (fun i => (i.size, i.bytes)) = some (1, 8) := by kernel_rfl
instance : TFld Tryd.prog 133 0 0 17 1 := ⟨⟨_, _, Tryd.underlying133, rfl, rfl, rfl, Tryd.sizeOf17, by decide⟩⟩
instance : TBuild Tryd.prog 133 zc133 [(0, 1)] := ⟨fun _ => by kernel_rfl⟩
instance : TSize Tryd.prog 134 1 := ⟨Tryd.sizeOf134⟩
instance : TAgg Tryd.prog 134 false := ⟨Tryd.isAgg134⟩
instance : TZero Tryd.prog 134 (Go.Value.pointer Option.none) := ⟨Tryd.zeroValue134⟩
theorem row134 : (Tryd.prog.info? 134).map (fun i => (i.size, i.bytes)) = some (1, 8) := by kernel_rfl
instance : TUnd Tryd.prog 134 (.pointer 187) := ⟨Tryd.underlying134⟩
instance : TSize Tryd.prog 135 1 := ⟨Tryd.sizeOf135⟩
instance : TAgg Tryd.prog 135 false := ⟨Tryd.isAgg135⟩
instance : TZero Tryd.prog 135 (Go.Value.nilFunc) := ⟨Tryd.zeroValue135⟩
theorem row135 : (Tryd.prog.info? 135).map (fun i => (i.size, i.bytes)) = some (1, 8) := by kernel_rfl
instance : TSize Tryd.prog 136 1 := ⟨Tryd.sizeOf136⟩
instance : TAgg Tryd.prog 136 false := ⟨Tryd.isAgg136⟩
instance : TZero Tryd.prog 136 (Go.Value.nilFunc) := ⟨Tryd.zeroValue136⟩
theorem row136 : (Tryd.prog.info? 136).map (fun i => (i.size, i.bytes)) = some (1, 8) := by kernel_rfl
instance : TSize Tryd.prog 137 1 := ⟨Tryd.sizeOf137⟩
instance : TAgg Tryd.prog 137 false := ⟨Tryd.isAgg137⟩
instance : TZero Tryd.prog 137 (Go.Value.nilIface) := ⟨Tryd.zeroValue137⟩
theorem row137 : (Tryd.prog.info? 137).map (fun i => (i.size, i.bytes)) = some (1, 16) := by kernel_rfl
instance : TUnd Tryd.prog 137 (Go.TypeDesc.interface #[("As", 139)]) := ⟨Tryd.underlying137⟩
instance : TSize Tryd.prog 138 1 := ⟨Tryd.sizeOf138⟩
instance : TAgg Tryd.prog 138 false := ⟨Tryd.isAgg138⟩
instance : TZero Tryd.prog 138 (Go.Value.tuple #[Go.Value.nilIface, Go.Value.bool Bool.false]) := ⟨Tryd.zeroValue138⟩
theorem row138 : (Tryd.prog.info? 138).map (fun i => (i.size, i.bytes)) = some (1, 0) := by kernel_rfl
instance : TSize Tryd.prog 139 1 := ⟨Tryd.sizeOf139⟩
instance : TAgg Tryd.prog 139 false := ⟨Tryd.isAgg139⟩
instance : TZero Tryd.prog 139 (Go.Value.nilFunc) := ⟨Tryd.zeroValue139⟩
theorem row139 : (Tryd.prog.info? 139).map (fun i => (i.size, i.bytes)) = some (1, 8) := by kernel_rfl
instance : TSize Tryd.prog 140 1 := ⟨Tryd.sizeOf140⟩
instance : TAgg Tryd.prog 140 false := ⟨Tryd.isAgg140⟩
instance : TZero Tryd.prog 140 (Go.Value.nilIface) := ⟨Tryd.zeroValue140⟩
theorem row140 : (Tryd.prog.info? 140).map (fun i => (i.size, i.bytes)) = some (1, 16) := by kernel_rfl
instance : TUnd Tryd.prog 140 (Go.TypeDesc.interface #[("Unwrap", 141)]) := ⟨Tryd.underlying140⟩
instance : TSize Tryd.prog 141 1 := ⟨Tryd.sizeOf141⟩
instance : TAgg Tryd.prog 141 false := ⟨Tryd.isAgg141⟩
instance : TZero Tryd.prog 141 (Go.Value.nilFunc) := ⟨Tryd.zeroValue141⟩
theorem row141 : (Tryd.prog.info? 141).map (fun i => (i.size, i.bytes)) = some (1, 8) := by kernel_rfl
instance : TSize Tryd.prog 142 1 := ⟨Tryd.sizeOf142⟩
instance : TAgg Tryd.prog 142 false := ⟨Tryd.isAgg142⟩
instance : TZero Tryd.prog 142 (Go.Value.nilIface) := ⟨Tryd.zeroValue142⟩
theorem row142 : (Tryd.prog.info? 142).map (fun i => (i.size, i.bytes)) = some (1, 16) := by kernel_rfl
instance : TUnd Tryd.prog 142 (Go.TypeDesc.interface #[("Unwrap", 144)]) := ⟨Tryd.underlying142⟩
instance : TSize Tryd.prog 143 1 := ⟨Tryd.sizeOf143⟩
instance : TAgg Tryd.prog 143 false := ⟨Tryd.isAgg143⟩
instance : TZero Tryd.prog 143 (Go.Value.slice Option.none 0 0) := ⟨Tryd.zeroValue143⟩
theorem row143 : (Tryd.prog.info? 143).map (fun i => (i.size, i.bytes)) = some (1, 24) := by kernel_rfl
instance : TUnd Tryd.prog 143 (.slice 29) := ⟨Tryd.underlying143⟩
instance : TSize Tryd.prog 144 1 := ⟨Tryd.sizeOf144⟩
instance : TAgg Tryd.prog 144 false := ⟨Tryd.isAgg144⟩
instance : TZero Tryd.prog 144 (Go.Value.nilFunc) := ⟨Tryd.zeroValue144⟩
theorem row144 : (Tryd.prog.info? 144).map (fun i => (i.size, i.bytes)) = some (1, 8) := by kernel_rfl
instance : TSize Tryd.prog 145 1 := ⟨Tryd.sizeOf145⟩
instance : TAgg Tryd.prog 145 false := ⟨Tryd.isAgg145⟩
instance : TZero Tryd.prog 145 (Go.Value.nilIface) := ⟨Tryd.zeroValue145⟩
theorem row145 : (Tryd.prog.info? 145).map (fun i => (i.size, i.bytes)) = some (1, 16) := by kernel_rfl
instance : TUnd Tryd.prog 145 (Go.TypeDesc.interface #[("Is", 147)]) := ⟨Tryd.underlying145⟩
instance : TSize Tryd.prog 146 1 := ⟨Tryd.sizeOf146⟩
instance : TAgg Tryd.prog 146 false := ⟨Tryd.isAgg146⟩
instance : TZero Tryd.prog 146 (Go.Value.tuple #[Go.Value.nilIface, Go.Value.bool Bool.false]) := ⟨Tryd.zeroValue146⟩
theorem row146 : (Tryd.prog.info? 146).map (fun i => (i.size, i.bytes)) = some (1, 0) := by kernel_rfl
instance : TSize Tryd.prog 147 1 := ⟨Tryd.sizeOf147⟩
instance : TAgg Tryd.prog 147 false := ⟨Tryd.isAgg147⟩
instance : TZero Tryd.prog 147 (Go.Value.nilFunc) := ⟨Tryd.zeroValue147⟩
theorem row147 : (Tryd.prog.info? 147).map (fun i => (i.size, i.bytes)) = some (1, 8) := by kernel_rfl
instance : TSize Tryd.prog 148 1 := ⟨Tryd.sizeOf148⟩
instance : TAgg Tryd.prog 148 false := ⟨Tryd.isAgg148⟩
instance : TZero Tryd.prog 148 (Go.Value.nilFunc) := ⟨Tryd.zeroValue148⟩
theorem row148 : (Tryd.prog.info? 148).map (fun i => (i.size, i.bytes)) = some (1, 8) := by kernel_rfl
instance : TSize Tryd.prog 149 4 := ⟨Tryd.sizeOf149⟩
instance : TAgg Tryd.prog 149 true := ⟨Tryd.isAgg149⟩
def zc149 : Array Value :=  #[Go.Value.pointer Option.none, Go.Value.pointer Option.none, Go.Value.pointer Option.none, Go.Value.string { data := #[] }]
theorem zc149_size : zc149.size = 4 := rfl
instance : TZero Tryd.prog 149 (.agg zc149) := ⟨Tryd.zeroValue149⟩
theorem row149 : (Tryd.prog.info? 149).map (fun i => (i.size, i.bytes)) = some (4, 40) := by kernel_rfl
instance : TFld Tryd.prog 149 0 0 17 1 := ⟨⟨_, _, Tryd.underlying149, rfl, rfl, rfl, Tryd.sizeOf17, by decide⟩⟩
instance : TFld Tryd.prog 149 1 1 17 1 := ⟨⟨_, _, Tryd.underlying149, rfl, rfl, rfl, Tryd.sizeOf17, by decide⟩⟩
instance : TFld Tryd.prog 149 2 2 17 1 := ⟨⟨_, _, Tryd.underlying149, rfl, rfl, rfl, Tryd.sizeOf17, by decide⟩⟩
instance : TFld Tryd.prog 149 3 3 9 1 := ⟨⟨_, _, Tryd.underlying149, rfl, rfl, rfl, Tryd.sizeOf9, by decide⟩⟩
instance : TBuild Tryd.prog 149 zc149 [(0, 1), (1, 1), (2, 1), (3, 1)] := ⟨fun _ => by kernel_rfl⟩
instance : TSize Tryd.prog 150 4 := ⟨Tryd.sizeOf150⟩
instance : TAgg Tryd.prog 150 true := ⟨Tryd.isAgg150⟩
def zc150 : Array Value :=  #[Go.Value.pointer Option.none, Go.Value.pointer Option.none, Go.Value.pointer Option.none, Go.Value.string { data := #[] }]
theorem zc150_size : zc150.size = 4 := rfl
instance : TZero Tryd.prog 150 (.agg zc150) := ⟨Tryd.zeroValue150⟩
theorem row150 : (Tryd.prog.info? 150).map (fun i => (i.size, i.bytes)) = some (4, 40) := by kernel_rfl
instance : TFld Tryd.prog 150 0 0 17 1 := ⟨⟨_, _, Tryd.underlying150, rfl, rfl, rfl, Tryd.sizeOf17, by decide⟩⟩
instance : TFld Tryd.prog 150 1 1 17 1 := ⟨⟨_, _, Tryd.underlying150, rfl, rfl, rfl, Tryd.sizeOf17, by decide⟩⟩
instance : TFld Tryd.prog 150 2 2 17 1 := ⟨⟨_, _, Tryd.underlying150, rfl, rfl, rfl, Tryd.sizeOf17, by decide⟩⟩
instance : TFld Tryd.prog 150 3 3 9 1 := ⟨⟨_, _, Tryd.underlying150, rfl, rfl, rfl, Tryd.sizeOf9, by decide⟩⟩
instance : TBuild Tryd.prog 150 zc150 [(0, 1), (1, 1), (2, 1), (3, 1)] := ⟨fun _ => by kernel_rfl⟩
instance : TSize Tryd.prog 151 0 := ⟨Tryd.sizeOf151⟩
instance : TAgg Tryd.prog 151 true := ⟨Tryd.isAgg151⟩
def zc151 : Array Value :=  #[]
theorem zc151_size : zc151.size = 0 := rfl
instance : TZero Tryd.prog 151 (.agg zc151) := ⟨Tryd.zeroValue151⟩
instance : TUnd Tryd.prog 151 (.array 0 16) := ⟨Tryd.underlying151⟩
instance : TSize Tryd.prog 152 0 := ⟨Tryd.sizeOf152⟩
instance : TAgg Tryd.prog 152 true := ⟨Tryd.isAgg152⟩
def zc152 : Array Value :=  #[]
theorem zc152_size : zc152.size = 0 := rfl
instance : TZero Tryd.prog 152 (.agg zc152) := ⟨Tryd.zeroValue152⟩
instance : TSize Tryd.prog 153 0 := ⟨Tryd.sizeOf153⟩
instance : TAgg Tryd.prog 153 true := ⟨Tryd.isAgg153⟩
def zc153 : Array Value :=  #[]
theorem zc153_size : zc153.size = 0 := rfl
instance : TZero Tryd.prog 153 (.agg zc153) := ⟨Tryd.zeroValue153⟩
instance : TSize Tryd.prog 154 1 := ⟨Tryd.sizeOf154⟩
instance : TAgg Tryd.prog 154 false := ⟨Tryd.isAgg154⟩
instance : TZero Tryd.prog 154 (Go.Value.nilFunc) := ⟨Tryd.zeroValue154⟩
theorem row154 : (Tryd.prog.info? 154).map (fun i => (i.size, i.bytes)) = some (1, 8) := by kernel_rfl
instance : TSize Tryd.prog 155 1 := ⟨Tryd.sizeOf155⟩
instance : TAgg Tryd.prog 155 false := ⟨Tryd.isAgg155⟩
instance : TZero Tryd.prog 155 (Go.Value.int Go.IntKind.u8 0) := ⟨Tryd.zeroValue155⟩
theorem row155 : (Tryd.prog.info? 155).map (fun i => (i.size, i.bytes)) = some (1, 1) := by kernel_rfl
instance : TUnd Tryd.prog 155 (.int Go.IntKind.u8) := ⟨Tryd.underlying155⟩
instance : TSize Tryd.prog 156 1 := ⟨Tryd.sizeOf156⟩
instance : TAgg Tryd.prog 156 false := ⟨Tryd.isAgg156⟩
instance : TZero Tryd.prog 156 (Go.Value.nilFunc) := ⟨Tryd.zeroValue156⟩
theorem row156 : (Tryd.prog.info? 156).map (fun i => (i.size, i.bytes)) = some (1, 8) := by kernel_rfl
instance : TSize Tryd.prog 157 1 := ⟨Tryd.sizeOf157⟩
instance : TAgg Tryd.prog 157 false := ⟨Tryd.isAgg157⟩
instance : TZero Tryd.prog 157 (Go.Value.int Go.IntKind.i32 0) := ⟨Tryd.zeroValue157⟩
theorem row157 : (Tryd.prog.info? 157).map (fun i => (i.size, i.bytes)) = some (1, 4) := by kernel_rfl
instance : TUnd Tryd.prog 157 (.int Go.IntKind.i32) := ⟨Tryd.underlying157⟩
instance : TSize Tryd.prog 158 1 := ⟨Tryd.sizeOf158⟩
instance : TAgg Tryd.prog 158 false := ⟨Tryd.isAgg158⟩
instance : TZero Tryd.prog 158 (Go.Value.int Go.IntKind.i32 0) := ⟨Tryd.zeroValue158⟩
theorem row158 : (Tryd.prog.info? 158).map (fun i => (i.size, i.bytes)) = some (1, 4) := by kernel_rfl
instance : TUnd Tryd.prog 158 (.int Go.IntKind.i32) := ⟨Tryd.underlying158⟩
instance : TSize Tryd.prog 159 11 := ⟨Tryd.sizeOf159⟩
instance : TAgg Tryd.prog 159 true := ⟨Tryd.isAgg159⟩
def zc159 : Array Value :=  #[Go.Value.int Go.IntKind.u64 0, Go.Value.int Go.IntKind.u64 0, Go.Value.int Go.IntKind.u32 0, Go.Value.int Go.IntKind.u8 0, Go.Value.int Go.IntKind.u8 0, Go.Value.int Go.IntKind.u8 0, Go.Value.int Go.IntKind.u8 0, Go.Value.nilFunc, Go.Value.pointer Option.none, Go.Value.int Go.IntKind.i32 0, Go.Value.int Go.IntKind.i32 0]
theorem zc159_size : zc159.size = 11 := rfl
instance : TZero Tryd.prog 159 (.agg zc159) := ⟨Tryd.zeroValue159⟩
theorem row159 : (Tryd.prog.info? 159).map (fun i => (i.size, i.bytes)) = some (11, 48) := by kernel_rfl
instance : TFld Tryd.prog 159 0 0 12 1 := ⟨⟨_, _, Tryd.underlying159, rfl, rfl, rfl, Tryd.sizeOf12, by decide⟩⟩
instance : TFld Tryd.prog 159 1 1 12 1 := ⟨⟨_, _, Tryd.underlying159, rfl, rfl, rfl, Tryd.sizeOf12, by decide⟩⟩
instance : TFld Tryd.prog 159 2 2 25 1 := ⟨⟨_, _, Tryd.underlying159, rfl, rfl, rfl, Tryd.sizeOf25, by decide⟩⟩
instance : TFld Tryd.prog 159 3 3 155 1 := ⟨⟨_, _, Tryd.underlying159, rfl, rfl, rfl, Tryd.sizeOf155, by decide⟩⟩
instance : TFld Tryd.prog 159 4 4 5 1 := ⟨⟨_, _, Tryd.underlying159, rfl, rfl, rfl, Tryd.sizeOf5, by decide⟩⟩
instance : TFld Tryd.prog 159 5 5 5 1 := ⟨⟨_, _, Tryd.underlying159, rfl, rfl, rfl, Tryd.sizeOf5, by decide⟩⟩
instance : TFld Tryd.prog 159 6 6 122 1 := ⟨⟨_, _, Tryd.underlying159, rfl, rfl, rfl, Tryd.sizeOf122, by decide⟩⟩
instance : TFld Tryd.prog 159 7 7 156 1 := ⟨⟨_, _, Tryd.underlying159, rfl, rfl, rfl, Tryd.sizeOf156, by decide⟩⟩
instance : TFld Tryd.prog 159 8 8 88 1 := ⟨⟨_, _, Tryd.underlying159, rfl, rfl, rfl, Tryd.sizeOf88, by decide⟩⟩
instance : TFld Tryd.prog 159 9 9 157 1 := ⟨⟨_, _, Tryd.underlying159, rfl, rfl, rfl, Tryd.sizeOf157, by decide⟩⟩
instance : TFld Tryd.prog 159 10 10 158 1 := ⟨⟨_, _, Tryd.underlying159, rfl, rfl, rfl, Tryd.sizeOf158, by decide⟩⟩
instance : TBuild Tryd.prog 159 zc159 [(0, 1), (1, 1), (2, 1), (3, 1), (4, 1), (5, 1), (6, 1), (7, 1), (8, 1), (9, 1), (10, 1)] := ⟨fun _ => by kernel_rfl⟩
instance : TSize Tryd.prog 160 11 := ⟨Tryd.sizeOf160⟩
instance : TAgg Tryd.prog 160 true := ⟨Tryd.isAgg160⟩
def zc160 : Array Value :=  #[Go.Value.int Go.IntKind.u64 0, Go.Value.int Go.IntKind.u64 0, Go.Value.int Go.IntKind.u32 0, Go.Value.int Go.IntKind.u8 0, Go.Value.int Go.IntKind.u8 0, Go.Value.int Go.IntKind.u8 0, Go.Value.int Go.IntKind.u8 0, Go.Value.nilFunc, Go.Value.pointer Option.none, Go.Value.int Go.IntKind.i32 0, Go.Value.int Go.IntKind.i32 0]
theorem zc160_size : zc160.size = 11 := rfl
instance : TZero Tryd.prog 160 (.agg zc160) := ⟨Tryd.zeroValue160⟩
theorem row160 : (Tryd.prog.info? 160).map (fun i => (i.size, i.bytes)) = some (11, 48) := by kernel_rfl
instance : TFld Tryd.prog 160 0 0 12 1 := ⟨⟨_, _, Tryd.underlying160, rfl, rfl, rfl, Tryd.sizeOf12, by decide⟩⟩
instance : TFld Tryd.prog 160 1 1 12 1 := ⟨⟨_, _, Tryd.underlying160, rfl, rfl, rfl, Tryd.sizeOf12, by decide⟩⟩
instance : TFld Tryd.prog 160 2 2 25 1 := ⟨⟨_, _, Tryd.underlying160, rfl, rfl, rfl, Tryd.sizeOf25, by decide⟩⟩
instance : TFld Tryd.prog 160 3 3 155 1 := ⟨⟨_, _, Tryd.underlying160, rfl, rfl, rfl, Tryd.sizeOf155, by decide⟩⟩
instance : TFld Tryd.prog 160 4 4 5 1 := ⟨⟨_, _, Tryd.underlying160, rfl, rfl, rfl, Tryd.sizeOf5, by decide⟩⟩
instance : TFld Tryd.prog 160 5 5 5 1 := ⟨⟨_, _, Tryd.underlying160, rfl, rfl, rfl, Tryd.sizeOf5, by decide⟩⟩
instance : TFld Tryd.prog 160 6 6 122 1 := ⟨⟨_, _, Tryd.underlying160, rfl, rfl, rfl, Tryd.sizeOf122, by decide⟩⟩
instance : TFld Tryd.prog 160 7 7 156 1 := ⟨⟨_, _, Tryd.underlying160, rfl, rfl, rfl, Tryd.sizeOf156, by decide⟩⟩
instance : TFld Tryd.prog 160 8 8 88 1 := ⟨⟨_, _, Tryd.underlying160, rfl, rfl, rfl, Tryd.sizeOf88, by decide⟩⟩
instance : TFld Tryd.prog 160 9 9 157 1 := ⟨⟨_, _, Tryd.underlying160, rfl, rfl, rfl, Tryd.sizeOf157, by decide⟩⟩
instance : TFld Tryd.prog 160 10 10 158 1 := ⟨⟨_, _, Tryd.underlying160, rfl, rfl, rfl, Tryd.sizeOf158, by decide⟩⟩
instance : TBuild Tryd.prog 160 zc160 [(0, 1), (1, 1), (2, 1), (3, 1), (4, 1), (5, 1), (6, 1), (7, 1), (8, 1), (9, 1), (10, 1)] := ⟨fun _ => by kernel_rfl⟩
instance : TSize Tryd.prog 161 1 := ⟨Tryd.sizeOf161⟩
instance : TAgg Tryd.prog 161 false := ⟨Tryd.isAgg161⟩
instance : TZero Tryd.prog 161 (Go.Value.nilFunc) := ⟨Tryd.zeroValue161⟩
theorem row161 : (Tryd.prog.info? 161).map (fun i => (i.size, i.bytes)) = some (1, 8) := by kernel_rfl
instance : TSize Tryd.prog 162 1 := ⟨Tryd.sizeOf162⟩
instance : TAgg Tryd.prog 162 false := ⟨Tryd.isAgg162⟩
instance : TZero Tryd.prog 162 (Go.Value.tuple #[Go.Value.int Go.IntKind.u64 0, Go.Value.nilIface]) := ⟨Tryd.zeroValue162⟩
theorem row162 : (Tryd.prog.info? 162).map (fun i => (i.size, i.bytes)) = some (1, 0) := by kernel_rfl
instance : TSize Tryd.prog 163 1 := ⟨Tryd.sizeOf163⟩
instance : TAgg Tryd.prog 163 false := ⟨Tryd.isAgg163⟩
instance : TZero Tryd.prog 163 (Go.Value.nilFunc) := ⟨Tryd.zeroValue163⟩
theorem row163 : (Tryd.prog.info? 163).map (fun i => (i.size, i.bytes)) = some (1, 8) := by kernel_rfl
instance : TSize Tryd.prog 164 1 := ⟨Tryd.sizeOf164⟩
instance : TAgg Tryd.prog 164 false := ⟨Tryd.isAgg164⟩
instance : TZero Tryd.prog 164 (Go.Value.nilFunc) := ⟨Tryd.zeroValue164⟩
theorem row164 : (Tryd.prog.info? 164).map (fun i => (i.size, i.bytes)) = some (1, 8) := by kernel_rfl
instance : TSize Tryd.prog 165 1 := ⟨Tryd.sizeOf165⟩
instance : TAgg Tryd.prog 165 false := ⟨Tryd.isAgg165⟩
instance : TZero Tryd.prog 165 (Go.Value.tuple #[Go.Value.int Go.IntKind.u8 0, Go.Value.nilIface]) := ⟨Tryd.zeroValue165⟩
theorem row165 : (Tryd.prog.info? 165).map (fun i => (i.size, i.bytes)) = some (1, 0) := by kernel_rfl
instance : TSize Tryd.prog 166 1 := ⟨Tryd.sizeOf166⟩
instance : TAgg Tryd.prog 166 false := ⟨Tryd.isAgg166⟩
instance : TZero Tryd.prog 166 (Go.Value.nilFunc) := ⟨Tryd.zeroValue166⟩
theorem row166 : (Tryd.prog.info? 166).map (fun i => (i.size, i.bytes)) = some (1, 8) := by kernel_rfl
instance : TSize Tryd.prog 167 1 := ⟨Tryd.sizeOf167⟩
instance : TAgg Tryd.prog 167 false := ⟨Tryd.isAgg167⟩
instance : TZero Tryd.prog 167 (Go.Value.nilFunc) := ⟨Tryd.zeroValue167⟩
theorem row167 : (Tryd.prog.info? 167).map (fun i => (i.size, i.bytes)) = some (1, 8) := by kernel_rfl
instance : TSize Tryd.prog 168 1 := ⟨Tryd.sizeOf168⟩
instance : TAgg Tryd.prog 168 false := ⟨Tryd.isAgg168⟩
instance : TZero Tryd.prog 168 (Go.Value.tuple #[Go.Value.bool Bool.false, Go.Value.nilIface]) := ⟨Tryd.zeroValue168⟩
theorem row168 : (Tryd.prog.info? 168).map (fun i => (i.size, i.bytes)) = some (1, 0) := by kernel_rfl
instance : TSize Tryd.prog 169 1 := ⟨Tryd.sizeOf169⟩
instance : TAgg Tryd.prog 169 false := ⟨Tryd.isAgg169⟩
instance : TZero Tryd.prog 169 (Go.Value.nilFunc) := ⟨Tryd.zeroValue169⟩
theorem row169 : (Tryd.prog.info? 169).map (fun i => (i.size, i.bytes)) = some (1, 8) := by kernel_rfl
instance : TSize Tryd.prog 170 1 := ⟨Tryd.sizeOf170⟩
instance : TAgg Tryd.prog 170 false := ⟨Tryd.isAgg170⟩
instance : TZero Tryd.prog 170 (Go.Value.nilFunc) := ⟨Tryd.zeroValue170⟩
theorem row170 : (Tryd.prog.info? 170).map (fun i => (i.size, i.bytes)) = some (1, 8) := by kernel_rfl
instance : TSize Tryd.prog 171 1 := ⟨Tryd.sizeOf171⟩
instance : TAgg Tryd.prog 171 false := ⟨Tryd.isAgg171⟩
instance : TZero Tryd.prog 171 (Go.Value.tuple #[Go.Value.int Go.IntKind.i64 0, Go.Value.nilIface]) := ⟨Tryd.zeroValue171⟩
theorem row171 : (Tryd.prog.info? 171).map (fun i => (i.size, i.bytes)) = some (1, 0) := by kernel_rfl
instance : TSize Tryd.prog 172 1 := ⟨Tryd.sizeOf172⟩
instance : TAgg Tryd.prog 172 false := ⟨Tryd.isAgg172⟩
instance : TZero Tryd.prog 172 (Go.Value.nilFunc) := ⟨Tryd.zeroValue172⟩
theorem row172 : (Tryd.prog.info? 172).map (fun i => (i.size, i.bytes)) = some (1, 8) := by kernel_rfl
instance : TSize Tryd.prog 173 1 := ⟨Tryd.sizeOf173⟩
instance : TAgg Tryd.prog 173 false := ⟨Tryd.isAgg173⟩
instance : TZero Tryd.prog 173 (Go.Value.tuple #[Go.Value.pointer Option.none, Go.Value.bool Bool.false]) := ⟨Tryd.zeroValue173⟩
theorem row173 : (Tryd.prog.info? 173).map (fun i => (i.size, i.bytes)) = some (1, 0) := by kernel_rfl
instance : TSize Tryd.prog 174 1 := ⟨Tryd.sizeOf174⟩
instance : TAgg Tryd.prog 174 false := ⟨Tryd.isAgg174⟩
instance : TZero Tryd.prog 174 (Go.Value.nilFunc) := ⟨Tryd.zeroValue174⟩
theorem row174 : (Tryd.prog.info? 174).map (fun i => (i.size, i.bytes)) = some (1, 8) := by kernel_rfl
instance : TSize Tryd.prog 175 1 := ⟨Tryd.sizeOf175⟩
instance : TAgg Tryd.prog 175 false := ⟨Tryd.isAgg175⟩
instance : TZero Tryd.prog 175 (Go.Value.pointer Option.none) := ⟨Tryd.zeroValue175⟩
theorem row175 : (Tryd.prog.info? 175).map (fun i => (i.size, i.bytes)) = some (1, 8) := by kernel_rfl
instance : TUnd Tryd.prog 175 (.pointer 29) := ⟨Tryd.underlying175⟩
instance : TSize Tryd.prog 176 1 := ⟨Tryd.sizeOf176⟩
instance : TAgg Tryd.prog 176 false := ⟨Tryd.isAgg176⟩
instance : TZero Tryd.prog 176 (Go.Value.tuple #[Go.Value.int Go.IntKind.u64 0, Go.Value.int Go.IntKind.i64 0]) := ⟨Tryd.zeroValue176⟩
theorem row176 : (Tryd.prog.info? 176).map (fun i => (i.size, i.bytes)) = some (1, 0) := by kernel_rfl
instance : TSize Tryd.prog 177 1 := ⟨Tryd.sizeOf177⟩
instance : TAgg Tryd.prog 177 false := ⟨Tryd.isAgg177⟩
instance : TZero Tryd.prog 177 (Go.Value.nilFunc) := ⟨Tryd.zeroValue177⟩
theorem row177 : (Tryd.prog.info? 177).map (fun i => (i.size, i.bytes)) = some (1, 8) := by kernel_rfl
instance : TSize Tryd.prog 178 1 := ⟨Tryd.sizeOf178⟩
instance : TAgg Tryd.prog 178 false := ⟨Tryd.isAgg178⟩
instance : TZero Tryd.prog 178 (Go.Value.nilFunc) := ⟨Tryd.zeroValue178⟩
theorem row178 : (Tryd.prog.info? 178).map (fun i => (i.size, i.bytes)) = some (1, 8) := by kernel_rfl
instance : TSize Tryd.prog 179 1 := ⟨Tryd.sizeOf179⟩
instance : TAgg Tryd.prog 179 false := ⟨Tryd.isAgg179⟩
instance : TZero Tryd.prog 179 (Go.Value.int Go.IntKind.u64 0) := ⟨Tryd.zeroValue179⟩
theorem row179 : (Tryd.prog.info? 179).map (fun i => (i.size, i.bytes)) = some (1, 8) := by kernel_rfl
instance : TUnd Tryd.prog 179 (.int Go.IntKind.u64) := ⟨Tryd.underlying179⟩
instance : TSize Tryd.prog 180 1 := ⟨Tryd.sizeOf180⟩
instance : TAgg Tryd.prog 180 false := ⟨Tryd.isAgg180⟩
instance : TZero Tryd.prog 180 (Go.Value.nilFunc) := ⟨Tryd.zeroValue180⟩
theorem row180 : (Tryd.prog.info? 180).map (fun i => (i.size, i.bytes)) = some (1, 8) := by kernel_rfl
instance : TSize Tryd.prog 181 1 := ⟨Tryd.sizeOf181⟩
instance : TAgg Tryd.prog 181 false := ⟨Tryd.isAgg181⟩
instance : TZero Tryd.prog 181 (Go.Value.nilFunc) := ⟨Tryd.zeroValue181⟩
theorem row181 : (Tryd.prog.info? 181).map (fun i => (i.size, i.bytes)) = some (1, 8) := by kernel_rfl
instance : TSize Tryd.prog 182 1 := ⟨Tryd.sizeOf182⟩
instance : TAgg Tryd.prog 182 false := ⟨Tryd.isAgg182⟩
instance : TZero Tryd.prog 182 (Go.Value.nilFunc) := ⟨Tryd.zeroValue182⟩
theorem row182 : (Tryd.prog.info? 182).map (fun i => (i.size, i.bytes)) = some (1, 8) := by kernel_rfl
instance : TSize Tryd.prog 183 10 := ⟨Tryd.sizeOf183⟩
instance : TAgg Tryd.prog 183 true := ⟨Tryd.isAgg183⟩
def zc183 : Array Value :=  #[Go.Value.int Go.IntKind.u8 0, Go.Value.int Go.IntKind.u8 0, Go.Value.int Go.IntKind.u8 0, Go.Value.int Go.IntKind.u8 0, Go.Value.int Go.IntKind.u8 0, Go.Value.int Go.IntKind.u8 0, Go.Value.int Go.IntKind.u8 0, Go.Value.int Go.IntKind.u8 0, Go.Value.int Go.IntKind.u8 0, Go.Value.int Go.IntKind.u8 0]
theorem zc183_size : zc183.size = 10 := rfl
instance : TZero Tryd.prog 183 (.agg zc183) := ⟨Tryd.zeroValue183⟩
theorem row183 : (Tryd.prog.info? 183).map (fun i => (i.size, i.bytes)) = some (10, 10) := by kernel_rfl
instance : TUnd Tryd.prog 183 (.array 10 5) := ⟨Tryd.underlying183⟩
instance : TSize Tryd.prog 184 1 := ⟨Tryd.sizeOf184⟩
instance : TAgg Tryd.prog 184 false := ⟨Tryd.isAgg184⟩
instance : TZero Tryd.prog 184 (Go.Value.nilFunc) := ⟨Tryd.zeroValue184⟩
theorem row184 : (Tryd.prog.info? 184).map (fun i => (i.size, i.bytes)) = some (1, 8) := by kernel_rfl
instance : TSize Tryd.prog 185 1 := ⟨Tryd.sizeOf185⟩
instance : TAgg Tryd.prog 185 false := ⟨Tryd.isAgg185⟩
instance : TZero Tryd.prog 185 (Go.Value.nilFunc) := ⟨Tryd.zeroValue185⟩
theorem row185 : (Tryd.prog.info? 185).map (fun i => (i.size, i.bytes)) = some (1, 8) := by kernel_rfl
instance : TSize Tryd.prog 186 2 := ⟨Tryd.sizeOf186⟩
instance : TAgg Tryd.prog 186 true := ⟨Tryd.isAgg186⟩
def zc186 : Array Value :=  #[Go.Value.string { data := #[] }, Go.Value.int Go.IntKind.u8 0]
theorem zc186_size : zc186.size = 2 := rfl
instance : TZero Tryd.prog 186 (.agg zc186) := ⟨Tryd.zeroValue186⟩
theorem row186 : (Tryd.prog.info? 186).map (fun i => (i.size, i.bytes)) = some (2, 24) := by kernel_rfl
instance : TFld Tryd.prog 186 0 0 9 1 := ⟨⟨_, _, Tryd.underlying186, rfl, rfl, rfl, Tryd.sizeOf9, by decide⟩⟩
instance : TFld Tryd.prog 186 1 1 122 1 := ⟨⟨_, _, Tryd.underlying186, rfl, rfl, rfl, Tryd.sizeOf122, by decide⟩⟩
instance : TBuild Tryd.prog 186 zc186 [(0, 1), (1, 1)] := ⟨fun _ => by kernel_rfl⟩
instance : TSize Tryd.prog 187 2 := ⟨Tryd.sizeOf187⟩
instance : TAgg Tryd.prog 187 true := ⟨Tryd.isAgg187⟩
def zc187 : Array Value :=  #[Go.Value.string { data := #[] }, Go.Value.int Go.IntKind.u8 0]
theorem zc187_size : zc187.size = 2 := rfl
instance : TZero Tryd.prog 187 (.agg zc187) := ⟨Tryd.zeroValue187⟩
theorem row187 : (Tryd.prog.info? 187).map (fun i => (i.size, i.bytes)) = some (2, 24) := by kernel_rfl
instance : TFld Tryd.prog 187 0 0 9 1 := ⟨⟨_, _, Tryd.underlying187, rfl, rfl, rfl, Tryd.sizeOf9, by decide⟩⟩
instance : TFld Tryd.prog 187 1 1 122 1 := ⟨⟨_, _, Tryd.underlying187, rfl, rfl, rfl, Tryd.sizeOf122, by decide⟩⟩
instance : TBuild Tryd.prog 187 zc187 [(0, 1), (1, 1)] := ⟨fun _ => by kernel_rfl⟩
instance : TSize Tryd.prog 188 1 := ⟨Tryd.sizeOf188⟩
instance : TAgg Tryd.prog 188 false := ⟨Tryd.isAgg188⟩
instance : TZero Tryd.prog 188 (Go.Value.pointer Option.none) := ⟨Tryd.zeroValue188⟩
theorem row188 : (Tryd.prog.info? 188).map (fun i => (i.size, i.bytes)) = some (1, 8) := by kernel_rfl
instance : TUnd Tryd.prog 188 (.pointer 192) := ⟨Tryd.underlying188⟩
instance : TSize Tryd.prog 189 1 := ⟨Tryd.sizeOf189⟩
instance : TAgg Tryd.prog 189 false := ⟨Tryd.isAgg189⟩
instance : TZero Tryd.prog 189 (Go.Value.nilFunc) := ⟨Tryd.zeroValue189⟩
theorem row189 : (Tryd.prog.info? 189).map (fun i => (i.size, i.bytes)) = some (1, 8) := by kernel_rfl
instance : TSize Tryd.prog 190 1 := ⟨Tryd.sizeOf190⟩
instance : TAgg Tryd.prog 190 false := ⟨Tryd.isAgg190⟩
instance : TZero Tryd.prog 190 (Go.Value.int Go.IntKind.u16 0) := ⟨Tryd.zeroValue190⟩
theorem row190 : (Tryd.prog.info? 190).map (fun i => (i.size, i.bytes)) = some (1, 2) := by kernel_rfl
instance : TUnd Tryd.prog 190 (.int Go.IntKind.u16) := ⟨Tryd.underlying190⟩
instance : TSize Tryd.prog 191 5 := ⟨Tryd.sizeOf191⟩
instance : TAgg Tryd.prog 191 true := ⟨Tryd.isAgg191⟩
def zc191 : Array Value :=  #[Go.Value.int Go.IntKind.i32 0, Go.Value.int Go.IntKind.u16 0, Go.Value.int Go.IntKind.u16 0, Go.Value.int Go.IntKind.u32 0, Go.Value.int Go.IntKind.u32 0]
theorem zc191_size : zc191.size = 5 := rfl
instance : TZero Tryd.prog 191 (.agg zc191) := ⟨Tryd.zeroValue191⟩
theorem row191 : (Tryd.prog.info? 191).map (fun i => (i.size, i.bytes)) = some (5, 16) := by kernel_rfl
instance : TFld Tryd.prog 191 0 0 157 1 := ⟨⟨_, _, Tryd.underlying191, rfl, rfl, rfl, Tryd.sizeOf157, by decide⟩⟩
instance : TFld Tryd.prog 191 1 1 190 1 := ⟨⟨_, _, Tryd.underlying191, rfl, rfl, rfl, Tryd.sizeOf190, by decide⟩⟩
instance : TFld Tryd.prog 191 2 2 190 1 := ⟨⟨_, _, Tryd.underlying191, rfl, rfl, rfl, Tryd.sizeOf190, by decide⟩⟩
instance : TFld Tryd.prog 191 3 3 25 1 := ⟨⟨_, _, Tryd.underlying191, rfl, rfl, rfl, Tryd.sizeOf25, by decide⟩⟩
instance : TFld Tryd.prog 191 4 4 25 1 := ⟨⟨_, _, Tryd.underlying191, rfl, rfl, rfl, Tryd.sizeOf25, by decide⟩⟩
instance : TBuild Tryd.prog 191 zc191 [(0, 1), (1, 1), (2, 1), (3, 1), (4, 1)] := ⟨fun _ => by kernel_rfl⟩
instance : TSize Tryd.prog 192 5 := ⟨Tryd.sizeOf192⟩
instance : TAgg Tryd.prog 192 true := ⟨Tryd.isAgg192⟩
def zc192 : Array Value :=  #[Go.Value.int Go.IntKind.i32 0, Go.Value.int Go.IntKind.u16 0, Go.Value.int Go.IntKind.u16 0, Go.Value.int Go.IntKind.u32 0, Go.Value.int Go.IntKind.u32 0]
theorem zc192_size : zc192.size = 5 := rfl
instance : TZero Tryd.prog 192 (.agg zc192) := ⟨Tryd.zeroValue192⟩
theorem row192 : (Tryd.prog.info? 192).map (fun i => (i.size, i.bytes)) = some (5, 16) := by kernel_rfl
instance : TFld Tryd.prog 192 0 0 157 1 := ⟨⟨_, _, Tryd.underlying192, rfl, rfl, rfl, Tryd.sizeOf157, by decide⟩⟩
instance : TFld Tryd.prog 192 1 1 190 1 := ⟨⟨_, _, Tryd.underlying192, rfl, rfl, rfl, Tryd.sizeOf190, by decide⟩⟩
instance : TFld Tryd.prog 192 2 2 190 1 := ⟨⟨_, _, Tryd.underlying192, rfl, rfl, rfl, Tryd.sizeOf190, by decide⟩⟩
instance : TFld Tryd.prog 192 3 3 25 1 := ⟨⟨_, _, Tryd.underlying192, rfl, rfl, rfl, Tryd.sizeOf25, by decide⟩⟩
instance : TFld Tryd.prog 192 4 4 25 1 := ⟨⟨_, _, Tryd.underlying192, rfl, rfl, rfl, Tryd.sizeOf25, by decide⟩⟩
instance : TBuild Tryd.prog 192 zc192 [(0, 1), (1, 1), (2, 1), (3, 1), (4, 1)] := ⟨fun _ => by kernel_rfl⟩
instance : TSize Tryd.prog 193 1 := ⟨Tryd.sizeOf193⟩
instance : TAgg Tryd.prog 193 false := ⟨Tryd.isAgg193⟩
instance : TZero Tryd.prog 193 (Go.Value.slice Option.none 0 0) := ⟨Tryd.zeroValue193⟩
theorem row193 : (Tryd.prog.info? 193).map (fun i => (i.size, i.bytes)) = some (1, 24) := by kernel_rfl
instance : TUnd Tryd.prog 193 (.slice 196) := ⟨Tryd.underlying193⟩
instance : TSize Tryd.prog 194 1 := ⟨Tryd.sizeOf194⟩
instance : TAgg Tryd.prog 194 false := ⟨Tryd.isAgg194⟩
instance : TZero Tryd.prog 194 (Go.Value.int Go.IntKind.i32 0) := ⟨Tryd.zeroValue194⟩
theorem row194 : (Tryd.prog.info? 194).map (fun i => (i.size, i.bytes)) = some (1, 4) := by kernel_rfl
instance : TUnd Tryd.prog 194 (.int Go.IntKind.i32) := ⟨Tryd.underlying194⟩
instance : TSize Tryd.prog 195 4 := ⟨Tryd.sizeOf195⟩
instance : TAgg Tryd.prog 195 true := ⟨Tryd.isAgg195⟩
def zc195 : Array Value :=  #[Go.Value.int Go.IntKind.i32 0, Go.Value.int Go.IntKind.i32 0, Go.Value.int Go.IntKind.i32 0, Go.Value.int Go.IntKind.i32 0]
theorem zc195_size : zc195.size = 4 := rfl
instance : TZero Tryd.prog 195 (.agg zc195) := ⟨Tryd.zeroValue195⟩
theorem row195 : (Tryd.prog.info? 195).map (fun i => (i.size, i.bytes)) = some (4, 16) := by kernel_rfl
instance : TFld Tryd.prog 195 0 0 157 1 := ⟨⟨_, _, Tryd.underlying195, rfl, rfl, rfl, Tryd.sizeOf157, by decide⟩⟩
instance : TFld Tryd.prog 195 1 1 158 1 := ⟨⟨_, _, Tryd.underlying195, rfl, rfl, rfl, Tryd.sizeOf158, by decide⟩⟩
instance : TFld Tryd.prog 195 2 2 194 1 := ⟨⟨_, _, Tryd.underlying195, rfl, rfl, rfl, Tryd.sizeOf194, by decide⟩⟩
instance : TFld Tryd.prog 195 3 3 194 1 := ⟨⟨_, _, Tryd.underlying195, rfl, rfl, rfl, Tryd.sizeOf194, by decide⟩⟩
instance : TBuild Tryd.prog 195 zc195 [(0, 1), (1, 1), (2, 1), (3, 1)] := ⟨fun _ => by kernel_rfl⟩
instance : TSize Tryd.prog 196 4 := ⟨Tryd.sizeOf196⟩
instance : TAgg Tryd.prog 196 true := ⟨Tryd.isAgg196⟩
def zc196 : Array Value :=  #[Go.Value.int Go.IntKind.i32 0, Go.Value.int Go.IntKind.i32 0, Go.Value.int Go.IntKind.i32 0, Go.Value.int Go.IntKind.i32 0]
theorem zc196_size : zc196.size = 4 := rfl
instance : TZero Tryd.prog 196 (.agg zc196) := ⟨Tryd.zeroValue196⟩
theorem row196 : (Tryd.prog.info? 196).map (fun i => (i.size, i.bytes)) = some (4, 16) := by kernel_rfl
instance : TFld Tryd.prog 196 0 0 157 1 := ⟨⟨_, _, Tryd.underlying196, rfl, rfl, rfl, Tryd.sizeOf157, by decide⟩⟩
instance : TFld Tryd.prog 196 1 1 158 1 := ⟨⟨_, _, Tryd.underlying196, rfl, rfl, rfl, Tryd.sizeOf158, by decide⟩⟩
instance : TFld Tryd.prog 196 2 2 194 1 := ⟨⟨_, _, Tryd.underlying196, rfl, rfl, rfl, Tryd.sizeOf194, by decide⟩⟩
instance : TFld Tryd.prog 196 3 3 194 1 := ⟨⟨_, _, Tryd.underlying196, rfl, rfl, rfl, Tryd.sizeOf194, by decide⟩⟩
instance : TBuild Tryd.prog 196 zc196 [(0, 1), (1, 1), (2, 1), (3, 1)] := ⟨fun _ => by kernel_rfl⟩
instance : TRow Tryd.prog 0 #[Go.Value.tuple #[]] 1 0 := TRow.of Tryd.zeroValue0 rfl row0 rfl
instance : TRow Tryd.prog 1 #[Go.Value.nilFunc] 1 8 := TRow.of Tryd.zeroValue1 rfl row1 rfl
instance : TRow Tryd.prog 2 #[Go.Value.int Go.IntKind.i64 0] 1 8 := TRow.of Tryd.zeroValue2 rfl row2 rfl
instance : TRow Tryd.prog 3 #[Go.Value.int Go.IntKind.i64 0] 1 8 := TRow.of Tryd.zeroValue3 rfl row3 rfl
instance : TRow Tryd.prog 4 #[Go.Value.bool Bool.false] 1 1 := TRow.of Tryd.zeroValue4 rfl row4 rfl
instance : TRow Tryd.prog 5 #[Go.Value.int Go.IntKind.u8 0] 1 1 := TRow.of Tryd.zeroValue5 rfl row5 rfl
instance : TRow Tryd.prog 6 #[Go.Value.int Go.IntKind.u8 0] 1 1 := TRow.of Tryd.zeroValue6 rfl row6 rfl
instance : TRow Tryd.prog 7 zc7 4 24 := TRow.of Tryd.zeroValue7 rfl row7 rfl
instance : TRow Tryd.prog 8 zc8 4 24 := TRow.of Tryd.zeroValue8 rfl row8 rfl
instance : TRow Tryd.prog 9 #[Go.Value.string { data := #[] }] 1 16 := TRow.of Tryd.zeroValue9 rfl row9 rfl
instance : TRow Tryd.prog 10 #[Go.Value.string { data := #[] }] 1 16 := TRow.of Tryd.zeroValue10 rfl row10 rfl
instance : TRow Tryd.prog 11 #[Go.Value.string { data := #[] }] 1 16 := TRow.of Tryd.zeroValue11 rfl row11 rfl
instance : TRow Tryd.prog 12 #[Go.Value.int Go.IntKind.u64 0] 1 8 := TRow.of Tryd.zeroValue12 rfl row12 rfl
instance : TRow Tryd.prog 13 zc13 2 24 := TRow.of Tryd.zeroValue13 rfl row13 rfl
instance : TRow Tryd.prog 14 zc14 2 24 := TRow.of Tryd.zeroValue14 rfl row14 rfl
instance : TRow Tryd.prog 15 #[Go.Value.pointer Option.none] 1 8 := TRow.of Tryd.zeroValue15 rfl row15 rfl
instance : TRow Tryd.prog 16 #[Go.Value.pointer Option.none] 1 8 := TRow.of Tryd.zeroValue16 rfl row16 rfl
instance : TRow Tryd.prog 17 #[Go.Value.pointer Option.none] 1 8 := TRow.of Tryd.zeroValue17 rfl row17 rfl
instance : TRow Tryd.prog 18 zc18 1 8 := TRow.of Tryd.zeroValue18 rfl row18 rfl
instance : TRow Tryd.prog 19 zc19 1 8 := TRow.of Tryd.zeroValue19 rfl row19 rfl
instance : TRow Tryd.prog 20 #[Go.Value.nilIface] 1 16 := TRow.of Tryd.zeroValue20 rfl row20 rfl
instance : TRow Tryd.prog 21 #[Go.Value.int Go.IntKind.i32 0] 1 4 := TRow.of Tryd.zeroValue21 rfl row21 rfl
instance : TRow Tryd.prog 22 #[Go.Value.int Go.IntKind.i64 0] 1 8 := TRow.of Tryd.zeroValue22 rfl row22 rfl
instance : TRow Tryd.prog 23 zc23 2 16 := TRow.of Tryd.zeroValue23 rfl row23 rfl
instance : TRow Tryd.prog 24 zc24 2 16 := TRow.of Tryd.zeroValue24 rfl row24 rfl
instance : TRow Tryd.prog 25 #[Go.Value.int Go.IntKind.u32 0] 1 4 := TRow.of Tryd.zeroValue25 rfl row25 rfl
instance : TRow Tryd.prog 26 zc26 6 32 := TRow.of Tryd.zeroValue26 rfl row26 rfl
instance : TRow Tryd.prog 27 zc27 6 32 := TRow.of Tryd.zeroValue27 rfl row27 rfl
instance : TRow Tryd.prog 28 #[Go.Value.nilIface] 1 16 := TRow.of Tryd.zeroValue28 rfl row28 rfl
instance : TRow Tryd.prog 29 #[Go.Value.nilIface] 1 16 := TRow.of Tryd.zeroValue29 rfl row29 rfl
instance : TRow Tryd.prog 30 #[Go.Value.tuple #[Go.Value.agg #[Go.Value.int Go.IntKind.u32 0, Go.Value.int Go.IntKind.i64 0, Go.Value.int Go.IntKind.i64 0, Go.Value.int Go.IntKind.u8 0, Go.Value.bool Bool.false, Go.Value.bool Bool.false], Go.Value.nilIface]] 1 0 := TRow.of Tryd.zeroValue30 rfl row30 rfl
instance : TRow Tryd.prog 31 #[Go.Value.nilFunc] 1 8 := TRow.of Tryd.zeroValue31 rfl row31 rfl
instance : TRow Tryd.prog 32 #[Go.Value.slice Option.none 0 0] 1 24 := TRow.of Tryd.zeroValue32 rfl row32 rfl
instance : TRow Tryd.prog 33 zc33 4 32 := TRow.of Tryd.zeroValue33 rfl row33 rfl
instance : TRow Tryd.prog 34 zc34 4 32 := TRow.of Tryd.zeroValue34 rfl row34 rfl
instance : TRow Tryd.prog 35 zc35 10 96 := TRow.of Tryd.zeroValue35 rfl row35 rfl
instance : TRow Tryd.prog 36 zc36 10 96 := TRow.of Tryd.zeroValue36 rfl row36 rfl
instance : TRow Tryd.prog 37 #[Go.Value.slice Option.none 0 0] 1 24 := TRow.of Tryd.zeroValue37 rfl row37 rfl
instance : TRow Tryd.prog 38 zc38 4 48 := TRow.of Tryd.zeroValue38 rfl row38 rfl
instance : TRow Tryd.prog 39 zc39 4 48 := TRow.of Tryd.zeroValue39 rfl row39 rfl
instance : TRow Tryd.prog 40 zc40 24 208 := TRow.of Tryd.zeroValue40 rfl row40 rfl
instance : TRow Tryd.prog 41 zc41 24 208 := TRow.of Tryd.zeroValue41 rfl row41 rfl
instance : TRow Tryd.prog 42 #[Go.Value.tuple #[Go.Value.agg #[Go.Value.int Go.IntKind.i64 0, Go.Value.int Go.IntKind.i64 0, Go.Value.int Go.IntKind.u32 0, Go.Value.int Go.IntKind.i64 0, Go.Value.int Go.IntKind.i64 0, Go.Value.int Go.IntKind.u8 0, Go.Value.bool Bool.false, Go.Value.bool Bool.false, Go.Value.int Go.IntKind.i64 0, Go.Value.int Go.IntKind.i64 0, Go.Value.int Go.IntKind.i64 0, Go.Value.int Go.IntKind.i64 0, Go.Value.slice Option.none 0 0, Go.Value.int Go.IntKind.i64 0, Go.Value.int Go.IntKind.i64 0, Go.Value.int Go.IntKind.i64 0, Go.Value.int Go.IntKind.i64 0, Go.Value.int Go.IntKind.i64 0, Go.Value.int Go.IntKind.i64 0, Go.Value.int Go.IntKind.i64 0, Go.Value.int Go.IntKind.i64 0, Go.Value.int Go.IntKind.i64 0, Go.Value.bool Bool.false, Go.Value.slice Option.none 0 0], Go.Value.nilIface]] 1 0 := TRow.of Tryd.zeroValue42 rfl row42 rfl
instance : TRow Tryd.prog 43 #[Go.Value.nilFunc] 1 8 := TRow.of Tryd.zeroValue43 rfl row43 rfl
instance : TRow Tryd.prog 44 #[Go.Value.tuple #[Go.Value.agg #[Go.Value.int Go.IntKind.i64 0, Go.Value.int Go.IntKind.i64 0, Go.Value.slice Option.none 0 0, Go.Value.int Go.IntKind.i64 0, Go.Value.int Go.IntKind.i64 0, Go.Value.int Go.IntKind.i64 0, Go.Value.int Go.IntKind.i64 0, Go.Value.int Go.IntKind.i64 0, Go.Value.int Go.IntKind.i64 0, Go.Value.int Go.IntKind.i64 0], Go.Value.nilIface]] 1 0 := TRow.of Tryd.zeroValue44 rfl row44 rfl
instance : TRow Tryd.prog 45 #[Go.Value.nilFunc] 1 8 := TRow.of Tryd.zeroValue45 rfl row45 rfl
instance : TRow Tryd.prog 46 #[Go.Value.pointer Option.none] 1 8 := TRow.of Tryd.zeroValue46 rfl row46 rfl
instance : TRow Tryd.prog 47 #[Go.Value.nilFunc] 1 8 := TRow.of Tryd.zeroValue47 rfl row47 rfl
instance : TRow Tryd.prog 48 #[Go.Value.tuple #[Go.Value.agg #[Go.Value.int Go.IntKind.i64 0, Go.Value.int Go.IntKind.i64 0, Go.Value.bool Bool.false, Go.Value.slice Option.none 0 0], Go.Value.nilIface]] 1 0 := TRow.of Tryd.zeroValue48 rfl row48 rfl
instance : TRow Tryd.prog 49 #[Go.Value.nilFunc] 1 8 := TRow.of Tryd.zeroValue49 rfl row49 rfl
instance : TRow Tryd.prog 50 #[Go.Value.slice Option.none 0 0] 1 24 := TRow.of Tryd.zeroValue50 rfl row50 rfl
instance : TRow Tryd.prog 51 #[Go.Value.nilFunc] 1 8 := TRow.of Tryd.zeroValue51 rfl row51 rfl
instance : TRow Tryd.prog 52 #[Go.Value.nilFunc] 1 8 := TRow.of Tryd.zeroValue52 rfl row52 rfl
instance : TRow Tryd.prog 53 #[Go.Value.nilFunc] 1 8 := TRow.of Tryd.zeroValue53 rfl row53 rfl
instance : TRow Tryd.prog 54 #[Go.Value.nilFunc] 1 8 := TRow.of Tryd.zeroValue54 rfl row54 rfl
instance : TRow Tryd.prog 55 #[Go.Value.nilFunc] 1 8 := TRow.of Tryd.zeroValue55 rfl row55 rfl
instance : TRow Tryd.prog 56 #[Go.Value.nilFunc] 1 8 := TRow.of Tryd.zeroValue56 rfl row56 rfl
instance : TRow Tryd.prog 57 #[Go.Value.nilFunc] 1 8 := TRow.of Tryd.zeroValue57 rfl row57 rfl
instance : TRow Tryd.prog 58 #[Go.Value.nilFunc] 1 8 := TRow.of Tryd.zeroValue58 rfl row58 rfl
instance : TRow Tryd.prog 59 #[Go.Value.nilFunc] 1 8 := TRow.of Tryd.zeroValue59 rfl row59 rfl
instance : TRow Tryd.prog 60 #[Go.Value.nilFunc] 1 8 := TRow.of Tryd.zeroValue60 rfl row60 rfl
instance : TRow Tryd.prog 61 zc61 2 24 := TRow.of Tryd.zeroValue61 rfl row61 rfl
instance : TRow Tryd.prog 62 zc62 2 24 := TRow.of Tryd.zeroValue62 rfl row62 rfl
instance : TRow Tryd.prog 63 #[Go.Value.nilFunc] 1 8 := TRow.of Tryd.zeroValue63 rfl row63 rfl
instance : TRow Tryd.prog 64 #[Go.Value.nilFunc] 1 8 := TRow.of Tryd.zeroValue64 rfl row64 rfl
instance : TRow Tryd.prog 65 #[Go.Value.nilFunc] 1 8 := TRow.of Tryd.zeroValue65 rfl row65 rfl
instance : TRow Tryd.prog 66 #[Go.Value.nilFunc] 1 8 := TRow.of Tryd.zeroValue66 rfl row66 rfl
instance : TRow Tryd.prog 67 #[Go.Value.nilFunc] 1 8 := TRow.of Tryd.zeroValue67 rfl row67 rfl
instance : TRow Tryd.prog 68 #[Go.Value.nilFunc] 1 8 := TRow.of Tryd.zeroValue68 rfl row68 rfl
instance : TRow Tryd.prog 69 #[Go.Value.nilFunc] 1 8 := TRow.of Tryd.zeroValue69 rfl row69 rfl
instance : TRow Tryd.prog 70 #[Go.Value.int Go.IntKind.u64 0] 1 8 := TRow.of Tryd.zeroValue70 rfl row70 rfl
instance : TRow Tryd.prog 71 zc71 5 40 := TRow.of Tryd.zeroValue71 rfl row71 rfl
instance : TRow Tryd.prog 72 zc72 5 40 := TRow.of Tryd.zeroValue72 rfl row72 rfl
instance : TRow Tryd.prog 73 #[Go.Value.pointer Option.none] 1 8 := TRow.of Tryd.zeroValue73 rfl row73 rfl
instance : TRow Tryd.prog 74 #[Go.Value.nilFunc] 1 8 := TRow.of Tryd.zeroValue74 rfl row74 rfl
instance : TRow Tryd.prog 75 #[Go.Value.pointer Option.none] 1 8 := TRow.of Tryd.zeroValue75 rfl row75 rfl
instance : TRow Tryd.prog 76 #[Go.Value.nilFunc] 1 8 := TRow.of Tryd.zeroValue76 rfl row76 rfl
instance : TRow Tryd.prog 77 #[Go.Value.pointer Option.none] 1 8 := TRow.of Tryd.zeroValue77 rfl row77 rfl
instance : TRow Tryd.prog 78 zc78 2 16 := TRow.of Tryd.zeroValue78 rfl row78 rfl
instance : TRow Tryd.prog 79 zc79 2 16 := TRow.of Tryd.zeroValue79 rfl row79 rfl
instance : TRow Tryd.prog 80 #[Go.Value.pointer Option.none] 1 8 := TRow.of Tryd.zeroValue80 rfl row80 rfl
instance : TRow Tryd.prog 81 #[Go.Value.nilIface] 1 16 := TRow.of Tryd.zeroValue81 rfl row81 rfl
instance : TRow Tryd.prog 82 #[Go.Value.nilIface] 1 16 := TRow.of Tryd.zeroValue82 rfl row82 rfl
instance : TRow Tryd.prog 83 #[Go.Value.nilFunc] 1 8 := TRow.of Tryd.zeroValue83 rfl row83 rfl
instance : TRow Tryd.prog 84 #[Go.Value.pointer Option.none] 1 8 := TRow.of Tryd.zeroValue84 rfl row84 rfl
instance : TRow Tryd.prog 85 #[Go.Value.nilFunc] 1 8 := TRow.of Tryd.zeroValue85 rfl row85 rfl
instance : TRow Tryd.prog 86 #[Go.Value.pointer Option.none] 1 8 := TRow.of Tryd.zeroValue86 rfl row86 rfl
instance : TRow Tryd.prog 87 #[Go.Value.nilFunc] 1 8 := TRow.of Tryd.zeroValue87 rfl row87 rfl
instance : TRow Tryd.prog 88 #[Go.Value.pointer Option.none] 1 8 := TRow.of Tryd.zeroValue88 rfl row88 rfl
instance : TRow Tryd.prog 89 #[Go.Value.nilFunc] 1 8 := TRow.of Tryd.zeroValue89 rfl row89 rfl
instance : TRow Tryd.prog 90 #[Go.Value.pointer Option.none] 1 8 := TRow.of Tryd.zeroValue90 rfl row90 rfl
instance : TRow Tryd.prog 91 #[Go.Value.pointer Option.none] 1 8 := TRow.of Tryd.zeroValue91 rfl row91 rfl
instance : TRow Tryd.prog 92 #[Go.Value.nilFunc] 1 8 := TRow.of Tryd.zeroValue92 rfl row92 rfl
instance : TRow Tryd.prog 93 #[Go.Value.pointer Option.none] 1 8 := TRow.of Tryd.zeroValue93 rfl row93 rfl
instance : TRow Tryd.prog 94 #[Go.Value.nilFunc] 1 8 := TRow.of Tryd.zeroValue94 rfl row94 rfl
instance : TRow Tryd.prog 95 #[Go.Value.pointer Option.none] 1 8 := TRow.of Tryd.zeroValue95 rfl row95 rfl
instance : TRow Tryd.prog 96 #[Go.Value.pointer Option.none] 1 8 := TRow.of Tryd.zeroValue96 rfl row96 rfl
instance : TRow Tryd.prog 97 #[Go.Value.nilFunc] 1 8 := TRow.of Tryd.zeroValue97 rfl row97 rfl
instance : TRow Tryd.prog 98 #[Go.Value.pointer Option.none] 1 8 := TRow.of Tryd.zeroValue98 rfl row98 rfl
instance : TRow Tryd.prog 99 #[Go.Value.nilFunc] 1 8 := TRow.of Tryd.zeroValue99 rfl row99 rfl
instance : TRow Tryd.prog 100 #[Go.Value.pointer Option.none] 1 8 := TRow.of Tryd.zeroValue100 rfl row100 rfl
instance : TRow Tryd.prog 101 #[Go.Value.nilFunc] 1 8 := TRow.of Tryd.zeroValue101 rfl row101 rfl
instance : TRow Tryd.prog 102 zc102 10 80 := TRow.of Tryd.zeroValue102 rfl row102 rfl
instance : TRow Tryd.prog 103 zc103 10 80 := TRow.of Tryd.zeroValue103 rfl row103 rfl
instance : TRow Tryd.prog 104 #[Go.Value.pointer Option.none] 1 8 := TRow.of Tryd.zeroValue104 rfl row104 rfl
instance : TRow Tryd.prog 105 #[Go.Value.nilFunc] 1 8 := TRow.of Tryd.zeroValue105 rfl row105 rfl
instance : TRow Tryd.prog 106 #[Go.Value.pointer Option.none] 1 8 := TRow.of Tryd.zeroValue106 rfl row106 rfl
instance : TRow Tryd.prog 107 zc107 1 24 := TRow.of Tryd.zeroValue107 rfl row107 rfl
instance : TRow Tryd.prog 108 zc108 1 24 := TRow.of Tryd.zeroValue108 rfl row108 rfl
instance : TRow Tryd.prog 109 #[Go.Value.nilFunc] 1 8 := TRow.of Tryd.zeroValue109 rfl row109 rfl
instance : TRow Tryd.prog 110 #[Go.Value.nilFunc] 1 8 := TRow.of Tryd.zeroValue110 rfl row110 rfl
instance : TRow Tryd.prog 111 #[Go.Value.nilFunc] 1 8 := TRow.of Tryd.zeroValue111 rfl row111 rfl
instance : TRow Tryd.prog 112 #[Go.Value.nilFunc] 1 8 := TRow.of Tryd.zeroValue112 rfl row112 rfl
instance : TRow Tryd.prog 113 #[Go.Value.nilFunc] 1 8 := TRow.of Tryd.zeroValue113 rfl row113 rfl
instance : TRow Tryd.prog 114 #[Go.Value.pointer Option.none] 1 8 := TRow.of Tryd.zeroValue114 rfl row114 rfl
instance : TRow Tryd.prog 115 #[Go.Value.int Go.IntKind.u64 0] 1 8 := TRow.of Tryd.zeroValue115 rfl row115 rfl
instance : TRow Tryd.prog 116 zc116 3 24 := TRow.of Tryd.zeroValue116 rfl row116 rfl
instance : TRow Tryd.prog 117 zc117 3 24 := TRow.of Tryd.zeroValue117 rfl row117 rfl
instance : TRow Tryd.prog 118 #[Go.Value.nilFunc] 1 8 := TRow.of Tryd.zeroValue118 rfl row118 rfl
instance : TRow Tryd.prog 119 #[Go.Value.nilIface] 1 16 := TRow.of Tryd.zeroValue119 rfl row119 rfl
instance : TRow Tryd.prog 120 #[Go.Value.nilIface] 1 16 := TRow.of Tryd.zeroValue120 rfl row120 rfl
instance : TRow Tryd.prog 121 #[Go.Value.nilFunc] 1 8 := TRow.of Tryd.zeroValue121 rfl row121 rfl
instance : TRow Tryd.prog 122 #[Go.Value.int Go.IntKind.u8 0] 1 1 := TRow.of Tryd.zeroValue122 rfl row122 rfl
instance : TRow Tryd.prog 123 #[Go.Value.nilFunc] 1 8 := TRow.of Tryd.zeroValue123 rfl row123 rfl
instance : TRow Tryd.prog 124 #[Go.Value.nilFunc] 1 8 := TRow.of Tryd.zeroValue124 rfl row124 rfl
instance : TRow Tryd.prog 125 #[Go.Value.nilFunc] 1 8 := TRow.of Tryd.zeroValue125 rfl row125 rfl
instance : TRow Tryd.prog 126 #[Go.Value.nilFunc] 1 8 := TRow.of Tryd.zeroValue126 rfl row126 rfl
instance : TRow Tryd.prog 127 #[Go.Value.nilFunc] 1 8 := TRow.of Tryd.zeroValue127 rfl row127 rfl
instance : TRow Tryd.prog 128 #[Go.Value.nilFunc] 1 8 := TRow.of Tryd.zeroValue128 rfl row128 rfl
instance : TRow Tryd.prog 129 #[Go.Value.pointer Option.none] 1 8 := TRow.of Tryd.zeroValue129 rfl row129 rfl
instance : TRow Tryd.prog 130 #[Go.Value.pointer Option.none] 1 8 := TRow.of Tryd.zeroValue130 rfl row130 rfl
instance : TRow Tryd.prog 131 #[Go.Value.pointer Option.none] 1 8 := TRow.of Tryd.zeroValue131 rfl row131 rfl
instance : TRow Tryd.prog 132 zc132 1 8 := TRow.of Tryd.zeroValue132 rfl row132 rfl
instance : TRow Tryd.prog 133 zc133 1 8 := TRow.of Tryd.zeroValue133 rfl row133 rfl
instance : TRow Tryd.prog 134 #[Go.Value.pointer Option.none] 1 8 := TRow.of Tryd.zeroValue134 rfl row134 rfl
instance : TRow Tryd.prog 135 #[Go.Value.nilFunc] 1 8 := TRow.of Tryd.zeroValue135 rfl row135 rfl
instance : TRow Tryd.prog 136 #[Go.Value.nilFunc] 1 8 := TRow.of Tryd.zeroValue136 rfl row136 rfl
instance : TRow Tryd.prog 137 #[Go.Value.nilIface] 1 16 := TRow.of Tryd.zeroValue137 rfl row137 rfl
instance : TRow Tryd.prog 138 #[Go.Value.tuple #[Go.Value.nilIface, Go.Value.bool Bool.false]] 1 0 := TRow.of Tryd.zeroValue138 rfl row138 rfl
instance : TRow Tryd.prog 139 #[Go.Value.nilFunc] 1 8 := TRow.of Tryd.zeroValue139 rfl row139 rfl
instance : TRow Tryd.prog 140 #[Go.Value.nilIface] 1 16 := TRow.of Tryd.zeroValue140 rfl row140 rfl
instance : TRow Tryd.prog 141 #[Go.Value.nilFunc] 1 8 := TRow.of Tryd.zeroValue141 rfl row141 rfl
instance : TRow Tryd.prog 142 #[Go.Value.nilIface] 1 16 := TRow.of Tryd.zeroValue142 rfl row142 rfl
instance : TRow Tryd.prog 143 #[Go.Value.slice Option.none 0 0] 1 24 := TRow.of Tryd.zeroValue143 rfl row143 rfl
instance : TRow Tryd.prog 144 #[Go.Value.nilFunc] 1 8 := TRow.of Tryd.zeroValue144 rfl row144 rfl
instance : TRow Tryd.prog 145 #[Go.Value.nilIface] 1 16 := TRow.of Tryd.zeroValue145 rfl row145 rfl
instance : TRow Tryd.prog 146 #[Go.Value.tuple #[Go.Value.nilIface, Go.Value.bool Bool.false]] 1 0 := TRow.of Tryd.zeroValue146 rfl row146 rfl
instance : TRow Tryd.prog 147 #[Go.Value.nilFunc] 1 8 := TRow.of Tryd.zeroValue147 rfl row147 rfl
instance : TRow Tryd.prog 148 #[Go.Value.nilFunc] 1 8 := TRow.of Tryd.zeroValue148 rfl row148 rfl
instance : TRow Tryd.prog 149 zc149 4 40 := TRow.of Tryd.zeroValue149 rfl row149 rfl
instance : TRow Tryd.prog 150 zc150 4 40 := TRow.of Tryd.zeroValue150 rfl row150 rfl
instance : TRow Tryd.prog 154 #[Go.Value.nilFunc] 1 8 := TRow.of Tryd.zeroValue154 rfl row154 rfl
instance : TRow Tryd.prog 155 #[Go.Value.int Go.IntKind.u8 0] 1 1 := TRow.of Tryd.zeroValue155 rfl row155 rfl
instance : TRow Tryd.prog 156 #[Go.Value.nilFunc] 1 8 := TRow.of Tryd.zeroValue156 rfl row156 rfl
instance : TRow Tryd.prog 157 #[Go.Value.int Go.IntKind.i32 0] 1 4 := TRow.of Tryd.zeroValue157 rfl row157 rfl
instance : TRow Tryd.prog 158 #[Go.Value.int Go.IntKind.i32 0] 1 4 := TRow.of Tryd.zeroValue158 rfl row158 rfl
instance : TRow Tryd.prog 159 zc159 11 48 := TRow.of Tryd.zeroValue159 rfl row159 rfl
instance : TRow Tryd.prog 160 zc160 11 48 := TRow.of Tryd.zeroValue160 rfl row160 rfl
instance : TRow Tryd.prog 161 #[Go.Value.nilFunc] 1 8 := TRow.of Tryd.zeroValue161 rfl row161 rfl
instance : TRow Tryd.prog 162 #[Go.Value.tuple #[Go.Value.int Go.IntKind.u64 0, Go.Value.nilIface]] 1 0 := TRow.of Tryd.zeroValue162 rfl row162 rfl
instance : TRow Tryd.prog 163 #[Go.Value.nilFunc] 1 8 := TRow.of Tryd.zeroValue163 rfl row163 rfl
instance : TRow Tryd.prog 164 #[Go.Value.nilFunc] 1 8 := TRow.of Tryd.zeroValue164 rfl row164 rfl
instance : TRow Tryd.prog 165 #[Go.Value.tuple #[Go.Value.int Go.IntKind.u8 0, Go.Value.nilIface]] 1 0 := TRow.of Tryd.zeroValue165 rfl row165 rfl
instance : TRow Tryd.prog 166 #[Go.Value.nilFunc] 1 8 := TRow.of Tryd.zeroValue166 rfl row166 rfl
instance : TRow Tryd.prog 167 #[Go.Value.nilFunc] 1 8 := TRow.of Tryd.zeroValue167 rfl row167 rfl
instance : TRow Tryd.prog 168 #[Go.Value.tuple #[Go.Value.bool Bool.false, Go.Value.nilIface]] 1 0 := TRow.of Tryd.zeroValue168 rfl row168 rfl
instance : TRow Tryd.prog 169 #[Go.Value.nilFunc] 1 8 := TRow.of Tryd.zeroValue169 rfl row169 rfl
instance : TRow Tryd.prog 170 #[Go.Value.nilFunc] 1 8 := TRow.of Tryd.zeroValue170 rfl row170 rfl
instance : TRow Tryd.prog 171 #[Go.Value.tuple #[Go.Value.int Go.IntKind.i64 0, Go.Value.nilIface]] 1 0 := TRow.of Tryd.zeroValue171 rfl row171 rfl
instance : TRow Tryd.prog 172 #[Go.Value.nilFunc] 1 8 := TRow.of Tryd.zeroValue172 rfl row172 rfl
instance : TRow Tryd.prog 173 #[Go.Value.tuple #[Go.Value.pointer Option.none, Go.Value.bool Bool.false]] 1 0 := TRow.of Tryd.zeroValue173 rfl row173 rfl
instance : TRow Tryd.prog 174 #[Go.Value.nilFunc] 1 8 := TRow.of Tryd.zeroValue174 rfl row174 rfl
instance : TRow Tryd.prog 175 #[Go.Value.pointer Option.none] 1 8 := TRow.of Tryd.zeroValue175 rfl row175 rfl
instance : TRow Tryd.prog 176 #[Go.Value.tuple #[Go.Value.int Go.IntKind.u64 0, Go.Value.int Go.IntKind.i64 0]] 1 0 := TRow.of Tryd.zeroValue176 rfl row176 rfl
instance : TRow Tryd.prog 177 #[Go.Value.nilFunc] 1 8 := TRow.of Tryd.zeroValue177 rfl row177 rfl
instance : TRow Tryd.prog 178 #[Go.Value.nilFunc] 1 8 := TRow.of Tryd.zeroValue178 rfl row178 rfl
instance : TRow Tryd.prog 179 #[Go.Value.int Go.IntKind.u64 0] 1 8 := TRow.of Tryd.zeroValue179 rfl row179 rfl
instance : TRow Tryd.prog 180 #[Go.Value.nilFunc] 1 8 := TRow.of Tryd.zeroValue180 rfl row180 rfl
instance : TRow Tryd.prog 181 #[Go.Value.nilFunc] 1 8 := TRow.of Tryd.zeroValue181 rfl row181 rfl
instance : TRow Tryd.prog 182 #[Go.Value.nilFunc] 1 8 := TRow.of Tryd.zeroValue182 rfl row182 rfl
instance : TRow Tryd.prog 183 zc183 10 10 := TRow.of Tryd.zeroValue183 rfl row183 rfl
instance : TRow Tryd.prog 184 #[Go.Value.nilFunc] 1 8 := TRow.of Tryd.zeroValue184 rfl row184 rfl
instance : TRow Tryd.prog 185 #[Go.Value.nilFunc] 1 8 := TRow.of Tryd.zeroValue185 rfl row185 rfl
instance : TRow Tryd.prog 186 zc186 2 24 := TRow.of Tryd.zeroValue186 rfl row186 rfl
instance : TRow Tryd.prog 187 zc187 2 24 := TRow.of Tryd.zeroValue187 rfl row187 rfl
instance : TRow Tryd.prog 188 #[Go.Value.pointer Option.none] 1 8 := TRow.of Tryd.zeroValue188 rfl row188 rfl
instance : TRow Tryd.prog 189 #[Go.Value.nilFunc] 1 8 := TRow.of Tryd.zeroValue189 rfl row189 rfl
instance : TRow Tryd.prog 190 #[Go.Value.int Go.IntKind.u16 0] 1 2 := TRow.of Tryd.zeroValue190 rfl row190 rfl
instance : TRow Tryd.prog 191 zc191 5 16 := TRow.of Tryd.zeroValue191 rfl row191 rfl
instance : TRow Tryd.prog 192 zc192 5 16 := TRow.of Tryd.zeroValue192 rfl row192 rfl
instance : TRow Tryd.prog 193 #[Go.Value.slice Option.none 0 0] 1 24 := TRow.of Tryd.zeroValue193 rfl row193 rfl
instance : TRow Tryd.prog 194 #[Go.Value.int Go.IntKind.i32 0] 1 4 := TRow.of Tryd.zeroValue194 rfl row194 rfl
instance : TRow Tryd.prog 195 zc195 4 16 := TRow.of Tryd.zeroValue195 rfl row195 rfl
instance : TRow Tryd.prog 196 zc196 4 16 := TRow.of Tryd.zeroValue196 rfl row196 rfl
instance : FCall Tryd.prog 3 := ⟨Tryd.call3⟩
instance : FCall Tryd.prog 4 := ⟨Tryd.call4⟩
instance : FCall Tryd.prog 98 := ⟨Tryd.call98⟩
instance : FCall Tryd.prog 38 := ⟨Tryd.call38⟩
instance : FCall Tryd.prog 12 := ⟨Tryd.call12⟩
instance : FCall Tryd.prog 80 := ⟨Tryd.call80⟩
instance : FCall Tryd.prog 15 := ⟨Tryd.call15⟩
instance : FCall Tryd.prog 14 := ⟨Tryd.call14⟩
instance : FCall Tryd.prog 41 := ⟨Tryd.call41⟩
instance : FCall Tryd.prog 36 := ⟨Tryd.call36⟩
instance : FCall Tryd.prog 37 := ⟨Tryd.call37⟩
instance : FCall Tryd.prog 96 := ⟨Tryd.call96⟩
instance : FCall Tryd.prog 48 := ⟨Tryd.call48⟩
instance : FCall Tryd.prog 28 := ⟨Tryd.call28⟩
instance : FCall Tryd.prog 18 := ⟨Tryd.call18⟩
instance : FCall Tryd.prog 117 := ⟨Tryd.call117⟩
instance : FCall Tryd.prog 6 := ⟨Tryd.call6⟩
instance : FCall Tryd.prog 7 := ⟨Tryd.call7⟩
instance : FCall Tryd.prog 39 := ⟨Tryd.call39⟩
instance : FCall Tryd.prog 40 := ⟨Tryd.call40⟩
instance : FCall Tryd.prog 24 := ⟨Tryd.call24⟩
instance : FCall Tryd.prog 94 := ⟨Tryd.call94⟩
instance : FCall Tryd.prog 35 := ⟨Tryd.call35⟩
instance : FCall Tryd.prog 17 := ⟨Tryd.call17⟩
instance : FCall Tryd.prog 32 := ⟨Tryd.call32⟩
instance : FCall Tryd.prog 81 := ⟨Tryd.call81⟩
instance : FCall Tryd.prog 42 := ⟨Tryd.call42⟩
instance : FCall Tryd.prog 9 := ⟨Tryd.call9⟩
instance : FCall Tryd.prog 10 := ⟨Tryd.call10⟩
instance : FCall Tryd.prog 76 := ⟨Tryd.call76⟩
instance : FCall Tryd.prog 19 := ⟨Tryd.call19⟩
instance : FCall Tryd.prog 71 := ⟨Tryd.call71⟩
instance : FCall Tryd.prog 74 := ⟨Tryd.call74⟩
instance : FCall Tryd.prog 87 := ⟨Tryd.call87⟩
instance : FCall Tryd.prog 72 := ⟨Tryd.call72⟩
instance : FCall Tryd.prog 20 := ⟨Tryd.call20⟩
instance : FCall Tryd.prog 16 := ⟨Tryd.call16⟩
instance : FCall Tryd.prog 34 := ⟨Tryd.call34⟩
instance : FCall Tryd.prog 95 := ⟨Tryd.call95⟩
instance : FCall Tryd.prog 46 := ⟨Tryd.call46⟩
instance : FCall Tryd.prog 26 := ⟨Tryd.call26⟩
instance : FCall Tryd.prog 2 := ⟨Tryd.call2⟩
instance : FCall Tryd.prog 91 := ⟨Tryd.call91⟩
instance : FCall Tryd.prog 77 := ⟨Tryd.call77⟩
instance : FCall Tryd.prog 86 := ⟨Tryd.call86⟩
instance : FCall Tryd.prog 83 := ⟨Tryd.call83⟩
instance : FCall Tryd.prog 13 := ⟨Tryd.call13⟩
instance : FCall Tryd.prog 27 := ⟨Tryd.call27⟩
instance : FCall Tryd.prog 5 := ⟨Tryd.call5⟩
instance : FCall Tryd.prog 11 := ⟨Tryd.call11⟩
instance : FCall Tryd.prog 78 := ⟨Tryd.call78⟩
instance : FCall Tryd.prog 31 := ⟨Tryd.call31⟩
instance : FCall Tryd.prog 97 := ⟨Tryd.call97⟩
instance : FCall Tryd.prog 29 := ⟨Tryd.call29⟩
instance : FCall Tryd.prog 90 := ⟨Tryd.call90⟩
instance : FCall Tryd.prog 88 := ⟨Tryd.call88⟩
instance : FCall Tryd.prog 89 := ⟨Tryd.call89⟩
instance : FCall Tryd.prog 92 := ⟨Tryd.call92⟩
instance : FCall Tryd.prog 75 := ⟨Tryd.call75⟩
instance : FCall Tryd.prog 79 := ⟨Tryd.call79⟩
instance : FCall Tryd.prog 22 := ⟨Tryd.call22⟩
instance : FCall Tryd.prog 93 := ⟨Tryd.call93⟩
instance : FCall Tryd.prog 8 := ⟨Tryd.call8⟩
instance : FCall Tryd.prog 23 := ⟨Tryd.call23⟩
instance : FCall Tryd.prog 73 := ⟨Tryd.call73⟩
instance : FCall Tryd.prog 21 := ⟨Tryd.call21⟩
instance : FCall Tryd.prog 33 := ⟨Tryd.call33⟩
instance : FCall Tryd.prog 84 := ⟨Tryd.call84⟩
instance : FCall Tryd.prog 82 := ⟨Tryd.call82⟩
instance : FCall Tryd.prog 85 := ⟨Tryd.call85⟩
instance : FCall Tryd.prog 25 := ⟨Tryd.call25⟩
instance : FCall Tryd.prog 30 := ⟨Tryd.call30⟩
theorem mixed : Tryd.prog.follows .mixedOrders = true := by kernel_rfl
end Go.Proofs.YtnpiiphiiaiodaaDoor
