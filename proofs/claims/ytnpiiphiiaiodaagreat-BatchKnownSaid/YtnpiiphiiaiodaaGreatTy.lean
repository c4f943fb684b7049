/-
  Facts on this seat's program's types and functions, out of the loaded program's own, in the form that the symbolic execution asks. Written by a program of mine (wip/tyfacts.sh). It proves no statement by itself.
-/
import Derived.Test.YtnpiiphiiaiodaaGreatRows
import Derived.Test.YtnpiiphiiaiodaaGreatGo
namespace Go.Proofs.YtnpiiphiiaiodaaGreat

instance : TSize Tryz.prog 0 1 := ⟨Tryz.sizeOf0⟩
instance : TAgg Tryz.prog 0 false := ⟨Tryz.isAgg0⟩
instance : TZero Tryz.prog 0 (Go.Value.tuple #[]) := ⟨Tryz.zeroValue0⟩
theorem row0 : (Tryz.prog.info? 0).map (fun i => (i.size, i.bytes)) = some (1, 0) := by kernel_rfl
instance : TSize Tryz.prog 1 1 := ⟨Tryz.sizeOf1⟩
instance : TAgg Tryz.prog 1 false := ⟨Tryz.isAgg1⟩
instance : TZero Tryz.prog 1 (Go.Value.nilFunc) := ⟨Tryz.zeroValue1⟩
theorem row1 : (Tryz.prog.info? 1).map (fun i => (i.size, i.bytes)) = some (1, 8) := by kernel_rfl
instance : TSize Tryz.prog 2 1 := ⟨Tryz.sizeOf2⟩
instance : TAgg Tryz.prog 2 false := ⟨Tryz.isAgg2⟩
instance : TZero Tryz.prog 2 (Go.Value.int Go.IntKind.i64 0) := ⟨Tryz.zeroValue2⟩
theorem row2 : (Tryz.prog.info? 2).map (fun i => (i.size, i.bytes)) = some (1, 8) := by kernel_rfl
instance : TUnd Tryz.prog 2 (.int Go.IntKind.i64) := ⟨Tryz.underlying2⟩
instance : TSize Tryz.prog 3 1 := ⟨Tryz.sizeOf3⟩
instance : TAgg Tryz.prog 3 false := ⟨Tryz.isAgg3⟩
instance : TZero Tryz.prog 3 (Go.Value.int Go.IntKind.i64 0) := ⟨Tryz.zeroValue3⟩
theorem row3 : (Tryz.prog.info? 3).map (fun i => (i.size, i.bytes)) = some (1, 8) := by kernel_rfl
instance : TUnd Tryz.prog 3 (.int Go.IntKind.i64) := ⟨Tryz.underlying3⟩
instance : TSize Tryz.prog 4 1 := ⟨Tryz.sizeOf4⟩
instance : TAgg Tryz.prog 4 false := ⟨Tryz.isAgg4⟩
instance : TZero Tryz.prog 4 (Go.Value.bool Bool.false) := ⟨Tryz.zeroValue4⟩
theorem row4 : (Tryz.prog.info? 4).map (fun i => (i.size, i.bytes)) = some (1, 1) := by kernel_rfl
instance : TUnd Tryz.prog 4 .bool := ⟨Tryz.underlying4⟩
instance : TSize Tryz.prog 5 1 := ⟨Tryz.sizeOf5⟩
instance : TAgg Tryz.prog 5 false := ⟨Tryz.isAgg5⟩
instance : TZero Tryz.prog 5 (Go.Value.int Go.IntKind.u8 0) := ⟨Tryz.zeroValue5⟩
theorem row5 : (Tryz.prog.info? 5).map (fun i => (i.size, i.bytes)) = some (1, 1) := by kernel_rfl
instance : TUnd Tryz.prog 5 (.int Go.IntKind.u8) := ⟨Tryz.underlying5⟩
instance : TSize Tryz.prog 6 1 := ⟨Tryz.sizeOf6⟩
instance : TAgg Tryz.prog 6 false := ⟨Tryz.isAgg6⟩
instance : TZero Tryz.prog 6 (Go.Value.int Go.IntKind.u8 0) := ⟨Tryz.zeroValue6⟩
theorem row6 : (Tryz.prog.info? 6).map (fun i => (i.size, i.bytes)) = some (1, 1) := by kernel_rfl
instance : TUnd Tryz.prog 6 (.int Go.IntKind.u8) := ⟨Tryz.underlying6⟩
instance : TSize Tryz.prog 7 4 := ⟨Tryz.sizeOf7⟩
instance : TAgg Tryz.prog 7 true := ⟨Tryz.isAgg7⟩
def zc7 : Array Value :=  #[Go.Value.int Go.IntKind.i64 0, Go.Value.int Go.IntKind.i64 0, Go.Value.bool Bool.false, Go.Value.int Go.IntKind.u8 0]
theorem zc7_size : zc7.size = 4 := rfl
instance : TZero Tryz.prog 7 (.agg zc7) := ⟨Tryz.zeroValue7⟩
theorem row7 : (Tryz.prog.info? 7).map (fun i => (i.size, i.bytes)) = some (4, 24) := by kernel_rfl
instance : TFld Tryz.prog 7 0 0 2 1 := ⟨⟨_, _, Tryz.underlying7, rfl, rfl, rfl, Tryz.sizeOf2, by decide⟩⟩
instance : TFld Tryz.prog 7 1 1 3 1 := ⟨⟨_, _, Tryz.underlying7, rfl, rfl, rfl, Tryz.sizeOf3, by decide⟩⟩
instance : TFld Tryz.prog 7 2 2 4 1 := ⟨⟨_, _, Tryz.underlying7, rfl, rfl, rfl, Tryz.sizeOf4, by decide⟩⟩
instance : TFld Tryz.prog 7 3 3 6 1 := ⟨⟨_, _, Tryz.underlying7, rfl, rfl, rfl, Tryz.sizeOf6, by decide⟩⟩
instance : TBuild Tryz.prog 7 zc7 [(0, 1), (1, 1), (2, 1), (3, 1)] := ⟨fun _ => by kernel_rfl⟩
instance : TSize Tryz.prog 8 4 := ⟨Tryz.sizeOf8⟩
instance : TAgg Tryz.prog 8 true := ⟨Tryz.isAgg8⟩
def zc8 : Array Value :=  #[Go.Value.int Go.IntKind.i64 0, Go.Value.int Go.IntKind.i64 0, Go.Value.bool Bool.false, Go.Value.int Go.IntKind.u8 0]
theorem zc8_size : zc8.size = 4 := rfl
instance : TZero Tryz.prog 8 (.agg zc8) := ⟨Tryz.zeroValue8⟩
theorem row8 : (Tryz.prog.info? 8).map (fun i => (i.size, i.bytes)) = some (4, 24) := by kernel_rfl
instance : TFld Tryz.prog 8 0 0 2 1 := ⟨⟨_, _, Tryz.underlying8, rfl, rfl, rfl, Tryz.sizeOf2, by decide⟩⟩
instance : TFld Tryz.prog 8 1 1 3 1 := ⟨⟨_, _, Tryz.underlying8, rfl, rfl, rfl, Tryz.sizeOf3, by decide⟩⟩
instance : TFld Tryz.prog 8 2 2 4 1 := ⟨⟨_, _, Tryz.underlying8, rfl, rfl, rfl, Tryz.sizeOf4, by decide⟩⟩
instance : TFld Tryz.prog 8 3 3 6 1 := ⟨⟨_, _, Tryz.underlying8, rfl, rfl, rfl, Tryz.sizeOf6, by decide⟩⟩
instance : TBuild Tryz.prog 8 zc8 [(0, 1), (1, 1), (2, 1), (3, 1)] := ⟨fun _ => by kernel_rfl⟩
instance : TSize Tryz.prog 9 1 := ⟨Tryz.sizeOf9⟩
instance : TAgg Tryz.prog 9 false := ⟨Tryz.isAgg9⟩
instance : TZero Tryz.prog 9 (Go.Value.string { data := #[] }) := ⟨Tryz.zeroValue9⟩
theorem row9 : (Tryz.prog.info? 9).map (fun i => (i.size, i.bytes)) = some (1, 16) := by kernel_rfl
instance : TUnd Tryz.prog 9 .string := ⟨Tryz.underlying9⟩
instance : TSize Tryz.prog 10 1 := ⟨Tryz.sizeOf10⟩
instance : TAgg Tryz.prog 10 false := ⟨Tryz.isAgg10⟩
instance : TZero Tryz.prog 10 (Go.Value.string { data := #[] }) := ⟨Tryz.zeroValue10⟩
theorem row10 : (Tryz.prog.info? 10).map (fun i => (i.size, i.bytes)) = some (1, 16) := by kernel_rfl
instance : TUnd Tryz.prog 10 .string := ⟨Tryz.underlying10⟩
instance : TSize Tryz.prog 11 1 := ⟨Tryz.sizeOf11⟩
instance : TAgg Tryz.prog 11 false := ⟨Tryz.isAgg11⟩
instance : TZero Tryz.prog 11 (Go.Value.string { data := #[] }) := ⟨Tryz.zeroValue11⟩
theorem row11 : (Tryz.prog.info? 11).map (fun i => (i.size, i.bytes)) = some (1, 16) := by kernel_rfl
instance : TUnd Tryz.prog 11 .string := ⟨Tryz.underlying11⟩
instance : TSize Tryz.prog 12 1 := ⟨Tryz.sizeOf12⟩
instance : TAgg Tryz.prog 12 false := ⟨Tryz.isAgg12⟩
instance : TZero Tryz.prog 12 (Go.Value.int Go.IntKind.u64 0) := ⟨Tryz.zeroValue12⟩
theorem row12 : (Tryz.prog.info? 12).map (fun i => (i.size, i.bytes)) = some (1, 8) := by kernel_rfl
instance : TUnd Tryz.prog 12 (.int Go.IntKind.u64) := ⟨Tryz.underlying12⟩
instance : TSize Tryz.prog 13 2 := ⟨Tryz.sizeOf13⟩
instance : TAgg Tryz.prog 13 true := ⟨Tryz.isAgg13⟩
def zc13 : Array Value :=  #[Go.Value.string { data := #[] }, Go.Value.int Go.IntKind.u64 0]
theorem zc13_size : zc13.size = 2 := rfl
instance : TZero Tryz.prog 13 (.agg zc13) := ⟨Tryz.zeroValue13⟩
theorem row13 : (Tryz.prog.info? 13).map (fun i => (i.size, i.bytes)) = some (2, 24) := by kernel_rfl
instance : TFld Tryz.prog 13 0 0 9 1 := ⟨⟨_, _, Tryz.underlying13, rfl, rfl, rfl, Tryz.sizeOf9, by decide⟩⟩
instance : TFld Tryz.prog 13 1 1 12 1 := ⟨⟨_, _, Tryz.underlying13, rfl, rfl, rfl, Tryz.sizeOf12, by decide⟩⟩
instance : TBuild Tryz.prog 13 zc13 [(0, 1), (1, 1)] := ⟨fun _ => by kernel_rfl⟩
instance : TSize Tryz.prog 14 2 := ⟨Tryz.sizeOf14⟩
instance : TAgg Tryz.prog 14 true := ⟨Tryz.isAgg14⟩
def zc14 : Array Value :=  #[Go.Value.string { data := #[] }, Go.Value.int Go.IntKind.u64 0]
theorem zc14_size : zc14.size = 2 := rfl
instance : TZero Tryz.prog 14 (.agg zc14) := ⟨Tryz.zeroValue14⟩
theorem row14 : (Tryz.prog.info? 14).map (fun i => (i.size, i.bytes)) = some (2, 24) := by kernel_rfl
instance : TFld Tryz.prog 14 0 0 9 1 := ⟨⟨_, _, Tryz.underlying14, rfl, rfl, rfl, Tryz.sizeOf9, by decide⟩⟩
instance : TFld Tryz.prog 14 1 1 12 1 := ⟨⟨_, _, Tryz.underlying14, rfl, rfl, rfl, Tryz.sizeOf12, by decide⟩⟩
instance : TBuild Tryz.prog 14 zc14 [(0, 1), (1, 1)] := ⟨fun _ => by kernel_rfl⟩
instance : TSize Tryz.prog 15 1 := ⟨Tryz.sizeOf15⟩
instance : TAgg Tryz.prog 15 false := ⟨Tryz.isAgg15⟩
instance : TZero Tryz.prog 15 (Go.Value.pointer Option.none) := ⟨Tryz.zeroValue15⟩
theorem row15 : (Tryz.prog.info? 15).map (fun i => (i.size, i.bytes)) = some (1, 8) := by kernel_rfl
instance : TUnd Tryz.prog 15 (.pointer 217) := ⟨Tryz.underlying15⟩
instance : TSize Tryz.prog 16 1 := ⟨Tryz.sizeOf16⟩
instance : TAgg Tryz.prog 16 false := ⟨Tryz.isAgg16⟩
instance : TZero Tryz.prog 16 (Go.Value.pointer Option.none) := ⟨Tryz.zeroValue16⟩
theorem row16 : (Tryz.prog.info? 16).map (fun i => (i.size, i.bytes)) = some (1, 8) := by kernel_rfl
instance : TUnd Tryz.prog 16 (.pointer 220) := ⟨Tryz.underlying16⟩
instance : TSize Tryz.prog 17 1 := ⟨Tryz.sizeOf17⟩
instance : TAgg Tryz.prog 17 false := ⟨Tryz.isAgg17⟩
instance : TZero Tryz.prog 17 (Go.Value.pointer Option.none) := ⟨Tryz.zeroValue17⟩
theorem row17 : (Tryz.prog.info? 17).map (fun i => (i.size, i.bytes)) = some (1, 8) := by kernel_rfl
instance : TUnd Tryz.prog 17 (.pointer 228) := ⟨Tryz.underlying17⟩
instance : TSize Tryz.prog 18 1 := ⟨Tryz.sizeOf18⟩
instance : TAgg Tryz.prog 18 true := ⟨Tryz.isAgg18⟩
def zc18 : Array Value :=  #[Go.Value.pointer Option.none]
theorem zc18_size : zc18.size = 1 := rfl
instance : TZero Tryz.prog 18 (.agg zc18) := ⟨Tryz.zeroValue18⟩
theorem row18 : (Tryz.prog.info? 18).map (fun i => (i.size, i.bytes)) = some (1, 8) := by kernel_rfl
instance : TFld Tryz.prog 18 0 0 17 1 := ⟨⟨_, _, Tryz.underlying18, rfl, rfl, rfl, Tryz.sizeOf17, by decide⟩⟩
instance : TBuild Tryz.prog 18 zc18 [(0, 1)] := ⟨fun _ => by kernel_rfl⟩
instance : TSize Tryz.prog 19 1 := ⟨Tryz.sizeOf19⟩
instance : TAgg Tryz.prog 19 true := ⟨Tryz.isAgg19⟩
def zc19 : Array Value :=  #[Go.Value.pointer Option.none]
theorem zc19_size : zc19.size = 1 := rfl
instance : TZero Tryz.prog 19 (.agg zc19) := ⟨Tryz.zeroValue19⟩
theorem row19 : (Tryz.prog.info? 19).map (fun i => (i.size, i.bytes)) = some (1, 8) := by kernel_rfl
instance : TFld Tryz.prog 19 0 0 17 1 := ⟨⟨_, _, Tryz.underlying19, rfl, rfl, rfl, Tryz.sizeOf17, by decide⟩⟩
instance : TBuild Tryz.prog 19 zc19 [(0, 1)] := ⟨fun _ => by kernel_rfl⟩
instance : TSize Tryz.prog 20 1 := ⟨Tryz.sizeOf20⟩
instance : TAgg Tryz.prog 20 false := ⟨Tryz.isAgg20⟩
instance : TZero Tryz.prog 20 (Go.Value.nilIface) := ⟨Tryz.zeroValue20⟩
theorem row20 : (Tryz.prog.info? 20).map (fun i => (i.size, i.bytes)) = some (1, 16) := by kernel_rfl
instance : TUnd Tryz.prog 20 (Go.TypeDesc.interface #[]) := ⟨Tryz.underlying20⟩
instance : TSize Tryz.prog 21 1 := ⟨Tryz.sizeOf21⟩
instance : TAgg Tryz.prog 21 false := ⟨Tryz.isAgg21⟩
instance : TZero Tryz.prog 21 (Go.Value.int Go.IntKind.i32 0) := ⟨Tryz.zeroValue21⟩
theorem row21 : (Tryz.prog.info? 21).map (fun i => (i.size, i.bytes)) = some (1, 4) := by kernel_rfl
instance : TUnd Tryz.prog 21 (.int Go.IntKind.i32) := ⟨Tryz.underlying21⟩
instance : TSize Tryz.prog 22 1 := ⟨Tryz.sizeOf22⟩
instance : TAgg Tryz.prog 22 false := ⟨Tryz.isAgg22⟩
instance : TZero Tryz.prog 22 (Go.Value.nilFunc) := ⟨Tryz.zeroValue22⟩
theorem row22 : (Tryz.prog.info? 22).map (fun i => (i.size, i.bytes)) = some (1, 8) := by kernel_rfl
instance : TSize Tryz.prog 23 1 := ⟨Tryz.sizeOf23⟩
instance : TAgg Tryz.prog 23 false := ⟨Tryz.isAgg23⟩
instance : TZero Tryz.prog 23 (Go.Value.pointer Option.none) := ⟨Tryz.zeroValue23⟩
theorem row23 : (Tryz.prog.info? 23).map (fun i => (i.size, i.bytes)) = some (1, 8) := by kernel_rfl
instance : TUnd Tryz.prog 23 (.pointer 120) := ⟨Tryz.underlying23⟩
instance : TSize Tryz.prog 24 1 := ⟨Tryz.sizeOf24⟩
instance : TAgg Tryz.prog 24 false := ⟨Tryz.isAgg24⟩
instance : TZero Tryz.prog 24 (Go.Value.pointer Option.none) := ⟨Tryz.zeroValue24⟩
theorem row24 : (Tryz.prog.info? 24).map (fun i => (i.size, i.bytes)) = some (1, 8) := by kernel_rfl
instance : TUnd Tryz.prog 24 (.pointer 131) := ⟨Tryz.underlying24⟩
instance : TSize Tryz.prog 25 1 := ⟨Tryz.sizeOf25⟩
instance : TAgg Tryz.prog 25 false := ⟨Tryz.isAgg25⟩
instance : TZero Tryz.prog 25 (Go.Value.tuple #[Go.Value.pointer Option.none, Go.Value.pointer Option.none]) := ⟨Tryz.zeroValue25⟩
theorem row25 : (Tryz.prog.info? 25).map (fun i => (i.size, i.bytes)) = some (1, 0) := by kernel_rfl
instance : TSize Tryz.prog 26 1 := ⟨Tryz.sizeOf26⟩
instance : TAgg Tryz.prog 26 false := ⟨Tryz.isAgg26⟩
instance : TZero Tryz.prog 26 (Go.Value.nilFunc) := ⟨Tryz.zeroValue26⟩
theorem row26 : (Tryz.prog.info? 26).map (fun i => (i.size, i.bytes)) = some (1, 8) := by kernel_rfl
instance : TSize Tryz.prog 27 8 := ⟨Tryz.sizeOf27⟩
instance : TAgg Tryz.prog 27 true := ⟨Tryz.isAgg27⟩
def zc27 : Array Value :=  #[Go.Value.int Go.IntKind.i64 0, Go.Value.int Go.IntKind.i64 0, Go.Value.int Go.IntKind.i64 0, Go.Value.int Go.IntKind.i64 0, Go.Value.int Go.IntKind.i64 0, Go.Value.int Go.IntKind.i64 0, Go.Value.int Go.IntKind.i64 0, Go.Value.int Go.IntKind.i64 0]
theorem zc27_size : zc27.size = 8 := rfl
instance : TZero Tryz.prog 27 (.agg zc27) := ⟨Tryz.zeroValue27⟩
theorem row27 : (Tryz.prog.info? 27).map (fun i => (i.size, i.bytes)) = some (8, 64) := by kernel_rfl
instance : TUnd Tryz.prog 27 (.array 8 3) := ⟨Tryz.underlying27⟩
instance : TSize Tryz.prog 28 1 := ⟨Tryz.sizeOf28⟩
instance : TAgg Tryz.prog 28 false := ⟨Tryz.isAgg28⟩
instance : TZero Tryz.prog 28 (Go.Value.slice Option.none 0 0) := ⟨Tryz.zeroValue28⟩
theorem row28 : (Tryz.prog.info? 28).map (fun i => (i.size, i.bytes)) = some (1, 24) := by kernel_rfl
instance : TUnd Tryz.prog 28 (.slice 36) := ⟨Tryz.underlying28⟩
instance : TSize Tryz.prog 29 1 := ⟨Tryz.sizeOf29⟩
instance : TAgg Tryz.prog 29 false := ⟨Tryz.isAgg29⟩
instance : TZero Tryz.prog 29 (Go.Value.int Go.IntKind.i64 0) := ⟨Tryz.zeroValue29⟩
theorem row29 : (Tryz.prog.info? 29).map (fun i => (i.size, i.bytes)) = some (1, 8) := by kernel_rfl
instance : TUnd Tryz.prog 29 (.int Go.IntKind.i64) := ⟨Tryz.underlying29⟩
instance : TSize Tryz.prog 30 1 := ⟨Tryz.sizeOf30⟩
instance : TAgg Tryz.prog 30 false := ⟨Tryz.isAgg30⟩
instance : TZero Tryz.prog 30 (Go.Value.tuple #[Go.Value.slice Option.none 0 0, Go.Value.int Go.IntKind.i64 0]) := ⟨Tryz.zeroValue30⟩
theorem row30 : (Tryz.prog.info? 30).map (fun i => (i.size, i.bytes)) = some (1, 0) := by kernel_rfl
instance : TSize Tryz.prog 31 1 := ⟨Tryz.sizeOf31⟩
instance : TAgg Tryz.prog 31 false := ⟨Tryz.isAgg31⟩
instance : TZero Tryz.prog 31 (Go.Value.nilFunc) := ⟨Tryz.zeroValue31⟩
theorem row31 : (Tryz.prog.info? 31).map (fun i => (i.size, i.bytes)) = some (1, 8) := by kernel_rfl
instance : TSize Tryz.prog 32 1 := ⟨Tryz.sizeOf32⟩
instance : TAgg Tryz.prog 32 false := ⟨Tryz.isAgg32⟩
instance : TZero Tryz.prog 32 (Go.Value.slice Option.none 0 0) := ⟨Tryz.zeroValue32⟩
theorem row32 : (Tryz.prog.info? 32).map (fun i => (i.size, i.bytes)) = some (1, 24) := by kernel_rfl
instance : TUnd Tryz.prog 32 (.slice 3) := ⟨Tryz.underlying32⟩
instance : TSize Tryz.prog 33 4 := ⟨Tryz.sizeOf33⟩
instance : TAgg Tryz.prog 33 true := ⟨Tryz.isAgg33⟩
def zc33 : Array Value :=  #[Go.Value.int Go.IntKind.i64 0, Go.Value.int Go.IntKind.i64 0, Go.Value.int Go.IntKind.i64 0, Go.Value.int Go.IntKind.i64 0]
theorem zc33_size : zc33.size = 4 := rfl
instance : TZero Tryz.prog 33 (.agg zc33) := ⟨Tryz.zeroValue33⟩
theorem row33 : (Tryz.prog.info? 33).map (fun i => (i.size, i.bytes)) = some (4, 32) := by kernel_rfl
instance : TFld Tryz.prog 33 0 0 3 1 := ⟨⟨_, _, Tryz.underlying33, rfl, rfl, rfl, Tryz.sizeOf3, by decide⟩⟩
instance : TFld Tryz.prog 33 1 1 2 1 := ⟨⟨_, _, Tryz.underlying33, rfl, rfl, rfl, Tryz.sizeOf2, by decide⟩⟩
instance : TFld Tryz.prog 33 2 2 2 1 := ⟨⟨_, _, Tryz.underlying33, rfl, rfl, rfl, Tryz.sizeOf2, by decide⟩⟩
instance : TFld Tryz.prog 33 3 3 3 1 := ⟨⟨_, _, Tryz.underlying33, rfl, rfl, rfl, Tryz.sizeOf3, by decide⟩⟩
instance : TBuild Tryz.prog 33 zc33 [(0, 1), (1, 1), (2, 1), (3, 1)] := ⟨fun _ => by kernel_rfl⟩
instance : TSize Tryz.prog 34 4 := ⟨Tryz.sizeOf34⟩
instance : TAgg Tryz.prog 34 true := ⟨Tryz.isAgg34⟩
def zc34 : Array Value :=  #[Go.Value.int Go.IntKind.i64 0, Go.Value.int Go.IntKind.i64 0, Go.Value.int Go.IntKind.i64 0, Go.Value.int Go.IntKind.i64 0]
theorem zc34_size : zc34.size = 4 := rfl
instance : TZero Tryz.prog 34 (.agg zc34) := ⟨Tryz.zeroValue34⟩
theorem row34 : (Tryz.prog.info? 34).map (fun i => (i.size, i.bytes)) = some (4, 32) := by kernel_rfl
instance : TFld Tryz.prog 34 0 0 3 1 := ⟨⟨_, _, Tryz.underlying34, rfl, rfl, rfl, Tryz.sizeOf3, by decide⟩⟩
instance : TFld Tryz.prog 34 1 1 2 1 := ⟨⟨_, _, Tryz.underlying34, rfl, rfl, rfl, Tryz.sizeOf2, by decide⟩⟩
instance : TFld Tryz.prog 34 2 2 2 1 := ⟨⟨_, _, Tryz.underlying34, rfl, rfl, rfl, Tryz.sizeOf2, by decide⟩⟩
instance : TFld Tryz.prog 34 3 3 3 1 := ⟨⟨_, _, Tryz.underlying34, rfl, rfl, rfl, Tryz.sizeOf3, by decide⟩⟩
instance : TBuild Tryz.prog 34 zc34 [(0, 1), (1, 1), (2, 1), (3, 1)] := ⟨fun _ => by kernel_rfl⟩
instance : TSize Tryz.prog 35 10 := ⟨Tryz.sizeOf35⟩
instance : TAgg Tryz.prog 35 true := ⟨Tryz.isAgg35⟩
def zc35 : Array Value :=  #[Go.Value.int Go.IntKind.i64 0, Go.Value.int Go.IntKind.i64 0, Go.Value.slice Option.none 0 0, Go.Value.int Go.IntKind.i64 0, Go.Value.int Go.IntKind.i64 0, Go.Value.int Go.IntKind.i64 0, Go.Value.int Go.IntKind.i64 0, Go.Value.int Go.IntKind.i64 0, Go.Value.int Go.IntKind.i64 0, Go.Value.int Go.IntKind.i64 0]
theorem zc35_size : zc35.size = 10 := rfl
instance : TZero Tryz.prog 35 (.agg zc35) := ⟨Tryz.zeroValue35⟩
theorem row35 : (Tryz.prog.info? 35).map (fun i => (i.size, i.bytes)) = some (10, 96) := by kernel_rfl
instance : TFld Tryz.prog 35 0 0 3 1 := ⟨⟨_, _, Tryz.underlying35, rfl, rfl, rfl, Tryz.sizeOf3, by decide⟩⟩
instance : TFld Tryz.prog 35 1 1 2 1 := ⟨⟨_, _, Tryz.underlying35, rfl, rfl, rfl, Tryz.sizeOf2, by decide⟩⟩
instance : TFld Tryz.prog 35 2 2 32 1 := ⟨⟨_, _, Tryz.underlying35, rfl, rfl, rfl, Tryz.sizeOf32, by decide⟩⟩
instance : TFld Tryz.prog 35 3 3 3 1 := ⟨⟨_, _, Tryz.underlying35, rfl, rfl, rfl, Tryz.sizeOf3, by decide⟩⟩
instance : TFld Tryz.prog 35 4 4 3 1 := ⟨⟨_, _, Tryz.underlying35, rfl, rfl, rfl, Tryz.sizeOf3, by decide⟩⟩
instance : TFld Tryz.prog 35 5 5 34 4 := ⟨⟨_, _, Tryz.underlying35, rfl, rfl, rfl, Tryz.sizeOf34, by decide⟩⟩
instance : TFld Tryz.prog 35 6 9 3 1 := ⟨⟨_, _, Tryz.underlying35, rfl, rfl, rfl, Tryz.sizeOf3, by decide⟩⟩
instance : TBuild Tryz.prog 35 zc35 [(0, 1), (1, 1), (2, 1), (3, 1), (4, 1), (5, 4), (9, 1)] := ⟨fun _ => by kernel_rfl⟩
instance : TSize Tryz.prog 36 10 := ⟨Tryz.sizeOf36⟩
instance : TAgg Tryz.prog 36 true := ⟨Tryz.isAgg36⟩
def zc36 : Array Value :=  #[Go.Value.int Go.IntKind.i64 0, Go.Value.int Go.IntKind.i64 0, Go.Value.slice Option.none 0 0, Go.Value.int Go.IntKind.i64 0, Go.Value.int Go.IntKind.i64 0, Go.Value.int Go.IntKind.i64 0, Go.Value.int Go.IntKind.i64 0, Go.Value.int Go.IntKind.i64 0, Go.Value.int Go.IntKind.i64 0, Go.Value.int Go.IntKind.i64 0]
theorem zc36_size : zc36.size = 10 := rfl
instance : TZero Tryz.prog 36 (.agg zc36) := ⟨Tryz.zeroValue36⟩
theorem row36 : (Tryz.prog.info? 36).map (fun i => (i.size, i.bytes)) = some (10, 96) := by kernel_rfl
instance : TFld Tryz.prog 36 0 0 3 1 := ⟨⟨_, _, Tryz.underlying36, rfl, rfl, rfl, Tryz.sizeOf3, by decide⟩⟩
instance : TFld Tryz.prog 36 1 1 2 1 := ⟨⟨_, _, Tryz.underlying36, rfl, rfl, rfl, Tryz.sizeOf2, by decide⟩⟩
instance : TFld Tryz.prog 36 2 2 32 1 := ⟨⟨_, _, Tryz.underlying36, rfl, rfl, rfl, Tryz.sizeOf32, by decide⟩⟩
instance : TFld Tryz.prog 36 3 3 3 1 := ⟨⟨_, _, Tryz.underlying36, rfl, rfl, rfl, Tryz.sizeOf3, by decide⟩⟩
instance : TFld Tryz.prog 36 4 4 3 1 := ⟨⟨_, _, Tryz.underlying36, rfl, rfl, rfl, Tryz.sizeOf3, by decide⟩⟩
instance : TFld Tryz.prog 36 5 5 34 4 := ⟨⟨_, _, Tryz.underlying36, rfl, rfl, rfl, Tryz.sizeOf34, by decide⟩⟩
instance : TFld Tryz.prog 36 6 9 3 1 := ⟨⟨_, _, Tryz.underlying36, rfl, rfl, rfl, Tryz.sizeOf3, by decide⟩⟩
instance : TBuild Tryz.prog 36 zc36 [(0, 1), (1, 1), (2, 1), (3, 1), (4, 1), (5, 4), (9, 1)] := ⟨fun _ => by kernel_rfl⟩
instance : TSize Tryz.prog 37 1 := ⟨Tryz.sizeOf37⟩
instance : TAgg Tryz.prog 37 false := ⟨Tryz.isAgg37⟩
instance : TZero Tryz.prog 37 (Go.Value.nilFunc) := ⟨Tryz.zeroValue37⟩
theorem row37 : (Tryz.prog.info? 37).map (fun i => (i.size, i.bytes)) = some (1, 8) := by kernel_rfl
instance : TSize Tryz.prog 38 1 := ⟨Tryz.sizeOf38⟩
instance : TAgg Tryz.prog 38 false := ⟨Tryz.isAgg38⟩
instance : TZero Tryz.prog 38 (Go.Value.nilFunc) := ⟨Tryz.zeroValue38⟩
theorem row38 : (Tryz.prog.info? 38).map (fun i => (i.size, i.bytes)) = some (1, 8) := by kernel_rfl
instance : TSize Tryz.prog 39 1 := ⟨Tryz.sizeOf39⟩
instance : TAgg Tryz.prog 39 false := ⟨Tryz.isAgg39⟩
instance : TZero Tryz.prog 39 (Go.Value.nilFunc) := ⟨Tryz.zeroValue39⟩
theorem row39 : (Tryz.prog.info? 39).map (fun i => (i.size, i.bytes)) = some (1, 8) := by kernel_rfl
instance : TSize Tryz.prog 40 1 := ⟨Tryz.sizeOf40⟩
instance : TAgg Tryz.prog 40 false := ⟨Tryz.isAgg40⟩
instance : TZero Tryz.prog 40 (Go.Value.pointer Option.none) := ⟨Tryz.zeroValue40⟩
theorem row40 : (Tryz.prog.info? 40).map (fun i => (i.size, i.bytes)) = some (1, 8) := by kernel_rfl
instance : TUnd Tryz.prog 40 (.pointer 96) := ⟨Tryz.underlying40⟩
instance : TSize Tryz.prog 41 1 := ⟨Tryz.sizeOf41⟩
instance : TAgg Tryz.prog 41 false := ⟨Tryz.isAgg41⟩
instance : TZero Tryz.prog 41 (Go.Value.nilFunc) := ⟨Tryz.zeroValue41⟩
theorem row41 : (Tryz.prog.info? 41).map (fun i => (i.size, i.bytes)) = some (1, 8) := by kernel_rfl
instance : TSize Tryz.prog 42 2 := ⟨Tryz.sizeOf42⟩
instance : TAgg Tryz.prog 42 true := ⟨Tryz.isAgg42⟩
def zc42 : Array Value :=  #[Go.Value.int Go.IntKind.i64 0, Go.Value.int Go.IntKind.i64 0]
theorem zc42_size : zc42.size = 2 := rfl
instance : TZero Tryz.prog 42 (.agg zc42) := ⟨Tryz.zeroValue42⟩
theorem row42 : (Tryz.prog.info? 42).map (fun i => (i.size, i.bytes)) = some (2, 16) := by kernel_rfl
instance : TFld Tryz.prog 42 0 0 3 1 := ⟨⟨_, _, Tryz.underlying42, rfl, rfl, rfl, Tryz.sizeOf3, by decide⟩⟩
instance : TFld Tryz.prog 42 1 1 3 1 := ⟨⟨_, _, Tryz.underlying42, rfl, rfl, rfl, Tryz.sizeOf3, by decide⟩⟩
instance : TBuild Tryz.prog 42 zc42 [(0, 1), (1, 1)] := ⟨fun _ => by kernel_rfl⟩
instance : TSize Tryz.prog 43 2 := ⟨Tryz.sizeOf43⟩
instance : TAgg Tryz.prog 43 true := ⟨Tryz.isAgg43⟩
def zc43 : Array Value :=  #[Go.Value.int Go.IntKind.i64 0, Go.Value.int Go.IntKind.i64 0]
theorem zc43_size : zc43.size = 2 := rfl
instance : TZero Tryz.prog 43 (.agg zc43) := ⟨Tryz.zeroValue43⟩
theorem row43 : (Tryz.prog.info? 43).map (fun i => (i.size, i.bytes)) = some (2, 16) := by kernel_rfl
instance : TFld Tryz.prog 43 0 0 3 1 := ⟨⟨_, _, Tryz.underlying43, rfl, rfl, rfl, Tryz.sizeOf3, by decide⟩⟩
instance : TFld Tryz.prog 43 1 1 3 1 := ⟨⟨_, _, Tryz.underlying43, rfl, rfl, rfl, Tryz.sizeOf3, by decide⟩⟩
instance : TBuild Tryz.prog 43 zc43 [(0, 1), (1, 1)] := ⟨fun _ => by kernel_rfl⟩
instance : TSize Tryz.prog 44 1 := ⟨Tryz.sizeOf44⟩
instance : TAgg Tryz.prog 44 false := ⟨Tryz.isAgg44⟩
instance : TZero Tryz.prog 44 (Go.Value.nilFunc) := ⟨Tryz.zeroValue44⟩
theorem row44 : (Tryz.prog.info? 44).map (fun i => (i.size, i.bytes)) = some (1, 8) := by kernel_rfl
instance : TSize Tryz.prog 45 1 := ⟨Tryz.sizeOf45⟩
instance : TAgg Tryz.prog 45 false := ⟨Tryz.isAgg45⟩
instance : TZero Tryz.prog 45 (Go.Value.nilFunc) := ⟨Tryz.zeroValue45⟩
theorem row45 : (Tryz.prog.info? 45).map (fun i => (i.size, i.bytes)) = some (1, 8) := by kernel_rfl
instance : TSize Tryz.prog 46 1 := ⟨Tryz.sizeOf46⟩
instance : TAgg Tryz.prog 46 false := ⟨Tryz.isAgg46⟩
instance : TZero Tryz.prog 46 (Go.Value.slice Option.none 0 0) := ⟨Tryz.zeroValue46⟩
theorem row46 : (Tryz.prog.info? 46).map (fun i => (i.size, i.bytes)) = some (1, 24) := by kernel_rfl
instance : TUnd Tryz.prog 46 (.slice 50) := ⟨Tryz.underlying46⟩
instance : TSize Tryz.prog 47 1 := ⟨Tryz.sizeOf47⟩
instance : TAgg Tryz.prog 47 false := ⟨Tryz.isAgg47⟩
instance : TZero Tryz.prog 47 (Go.Value.nilFunc) := ⟨Tryz.zeroValue47⟩
theorem row47 : (Tryz.prog.info? 47).map (fun i => (i.size, i.bytes)) = some (1, 8) := by kernel_rfl
instance : TSize Tryz.prog 48 1 := ⟨Tryz.sizeOf48⟩
instance : TAgg Tryz.prog 48 false := ⟨Tryz.isAgg48⟩
instance : TZero Tryz.prog 48 (Go.Value.nilFunc) := ⟨Tryz.zeroValue48⟩
theorem row48 : (Tryz.prog.info? 48).map (fun i => (i.size, i.bytes)) = some (1, 8) := by kernel_rfl
instance : TSize Tryz.prog 49 4 := ⟨Tryz.sizeOf49⟩
instance : TAgg Tryz.prog 49 true := ⟨Tryz.isAgg49⟩
def zc49 : Array Value :=  #[Go.Value.int Go.IntKind.i64 0, Go.Value.int Go.IntKind.i64 0, Go.Value.bool Bool.false, Go.Value.bool Bool.false]
theorem zc49_size : zc49.size = 4 := rfl
instance : TZero Tryz.prog 49 (.agg zc49) := ⟨Tryz.zeroValue49⟩
theorem row49 : (Tryz.prog.info? 49).map (fun i => (i.size, i.bytes)) = some (4, 24) := by kernel_rfl
instance : TFld Tryz.prog 49 0 0 43 2 := ⟨⟨_, _, Tryz.underlying49, rfl, rfl, rfl, Tryz.sizeOf43, by decide⟩⟩
instance : TFld Tryz.prog 49 1 2 4 1 := ⟨⟨_, _, Tryz.underlying49, rfl, rfl, rfl, Tryz.sizeOf4, by decide⟩⟩
instance : TFld Tryz.prog 49 2 3 4 1 := ⟨⟨_, _, Tryz.underlying49, rfl, rfl, rfl, Tryz.sizeOf4, by decide⟩⟩
instance : TBuild Tryz.prog 49 zc49 [(0, 2), (2, 1), (3, 1)] := ⟨fun _ => by kernel_rfl⟩
instance : TSize Tryz.prog 50 4 := ⟨Tryz.sizeOf50⟩
instance : TAgg Tryz.prog 50 true := ⟨Tryz.isAgg50⟩
def zc50 : Array Value :=  #[Go.Value.int Go.IntKind.i64 0, Go.Value.int Go.IntKind.i64 0, Go.Value.bool Bool.false, Go.Value.bool Bool.false]
theorem zc50_size : zc50.size = 4 := rfl
instance : TZero Tryz.prog 50 (.agg zc50) := ⟨Tryz.zeroValue50⟩
theorem row50 : (Tryz.prog.info? 50).map (fun i => (i.size, i.bytes)) = some (4, 24) := by kernel_rfl
instance : TFld Tryz.prog 50 0 0 43 2 := ⟨⟨_, _, Tryz.underlying50, rfl, rfl, rfl, Tryz.sizeOf43, by decide⟩⟩
instance : TFld Tryz.prog 50 1 2 4 1 := ⟨⟨_, _, Tryz.underlying50, rfl, rfl, rfl, Tryz.sizeOf4, by decide⟩⟩
instance : TFld Tryz.prog 50 2 3 4 1 := ⟨⟨_, _, Tryz.underlying50, rfl, rfl, rfl, Tryz.sizeOf4, by decide⟩⟩
instance : TBuild Tryz.prog 50 zc50 [(0, 2), (2, 1), (3, 1)] := ⟨fun _ => by kernel_rfl⟩
instance : TSize Tryz.prog 51 1 := ⟨Tryz.sizeOf51⟩
instance : TAgg Tryz.prog 51 false := ⟨Tryz.isAgg51⟩
instance : TZero Tryz.prog 51 (Go.Value.slice Option.none 0 0) := ⟨Tryz.zeroValue51⟩
theorem row51 : (Tryz.prog.info? 51).map (fun i => (i.size, i.bytes)) = some (1, 24) := by kernel_rfl
instance : TUnd Tryz.prog 51 (.slice 46) := ⟨Tryz.underlying51⟩
instance : TSize Tryz.prog 52 1 := ⟨Tryz.sizeOf52⟩
instance : TAgg Tryz.prog 52 false := ⟨Tryz.isAgg52⟩
instance : TZero Tryz.prog 52 (Go.Value.slice Option.none 0 0) := ⟨Tryz.zeroValue52⟩
theorem row52 : (Tryz.prog.info? 52).map (fun i => (i.size, i.bytes)) = some (1, 24) := by kernel_rfl
instance : TUnd Tryz.prog 52 (.slice 43) := ⟨Tryz.underlying52⟩
instance : TSize Tryz.prog 53 1 := ⟨Tryz.sizeOf53⟩
instance : TAgg Tryz.prog 53 false := ⟨Tryz.isAgg53⟩
instance : TZero Tryz.prog 53 (Go.Value.nilFunc) := ⟨Tryz.zeroValue53⟩
theorem row53 : (Tryz.prog.info? 53).map (fun i => (i.size, i.bytes)) = some (1, 8) := by kernel_rfl
instance : TSize Tryz.prog 54 1 := ⟨Tryz.sizeOf54⟩
instance : TAgg Tryz.prog 54 false := ⟨Tryz.isAgg54⟩
instance : TZero Tryz.prog 54 (Go.Value.nilFunc) := ⟨Tryz.zeroValue54⟩
theorem row54 : (Tryz.prog.info? 54).map (fun i => (i.size, i.bytes)) = some (1, 8) := by kernel_rfl
instance : TSize Tryz.prog 55 1 := ⟨Tryz.sizeOf55⟩
instance : TAgg Tryz.prog 55 false := ⟨Tryz.isAgg55⟩
instance : TZero Tryz.prog 55 (Go.Value.nilFunc) := ⟨Tryz.zeroValue55⟩
theorem row55 : (Tryz.prog.info? 55).map (fun i => (i.size, i.bytes)) = some (1, 8) := by kernel_rfl
instance : TSize Tryz.prog 56 1 := ⟨Tryz.sizeOf56⟩
instance : TAgg Tryz.prog 56 false := ⟨Tryz.isAgg56⟩
instance : TZero Tryz.prog 56 (Go.Value.slice Option.none 0 0) := ⟨Tryz.zeroValue56⟩
theorem row56 : (Tryz.prog.info? 56).map (fun i => (i.size, i.bytes)) = some (1, 24) := by kernel_rfl
instance : TUnd Tryz.prog 56 (.slice 112) := ⟨Tryz.underlying56⟩
instance : TSize Tryz.prog 57 1 := ⟨Tryz.sizeOf57⟩
instance : TAgg Tryz.prog 57 false := ⟨Tryz.isAgg57⟩
instance : TZero Tryz.prog 57 (Go.Value.nilFunc) := ⟨Tryz.zeroValue57⟩
theorem row57 : (Tryz.prog.info? 57).map (fun i => (i.size, i.bytes)) = some (1, 8) := by kernel_rfl
instance : TSize Tryz.prog 58 1 := ⟨Tryz.sizeOf58⟩
instance : TAgg Tryz.prog 58 false := ⟨Tryz.isAgg58⟩
instance : TZero Tryz.prog 58 (Go.Value.nilFunc) := ⟨Tryz.zeroValue58⟩
theorem row58 : (Tryz.prog.info? 58).map (fun i => (i.size, i.bytes)) = some (1, 8) := by kernel_rfl
instance : TSize Tryz.prog 59 1 := ⟨Tryz.sizeOf59⟩
instance : TAgg Tryz.prog 59 false := ⟨Tryz.isAgg59⟩
instance : TZero Tryz.prog 59 (Go.Value.nilFunc) := ⟨Tryz.zeroValue59⟩
theorem row59 : (Tryz.prog.info? 59).map (fun i => (i.size, i.bytes)) = some (1, 8) := by kernel_rfl
instance : TSize Tryz.prog 60 1 := ⟨Tryz.sizeOf60⟩
instance : TAgg Tryz.prog 60 false := ⟨Tryz.isAgg60⟩
instance : TZero Tryz.prog 60 (Go.Value.slice Option.none 0 0) := ⟨Tryz.zeroValue60⟩
theorem row60 : (Tryz.prog.info? 60).map (fun i => (i.size, i.bytes)) = some (1, 24) := by kernel_rfl
instance : TUnd Tryz.prog 60 (.slice 75) := ⟨Tryz.underlying60⟩
instance : TSize Tryz.prog 61 1 := ⟨Tryz.sizeOf61⟩
instance : TAgg Tryz.prog 61 false := ⟨Tryz.isAgg61⟩
instance : TZero Tryz.prog 61 (Go.Value.slice Option.none 0 0) := ⟨Tryz.zeroValue61⟩
theorem row61 : (Tryz.prog.info? 61).map (fun i => (i.size, i.bytes)) = some (1, 24) := by kernel_rfl
instance : TUnd Tryz.prog 61 (.slice 34) := ⟨Tryz.underlying61⟩
instance : TSize Tryz.prog 62 5 := ⟨Tryz.sizeOf62⟩
instance : TAgg Tryz.prog 62 true := ⟨Tryz.isAgg62⟩
def zc62 : Array Value :=  #[Go.Value.int Go.IntKind.i64 0, Go.Value.int Go.IntKind.i64 0, Go.Value.int Go.IntKind.i64 0, Go.Value.int Go.IntKind.i64 0, Go.Value.slice Option.none 0 0]
theorem zc62_size : zc62.size = 5 := rfl
instance : TZero Tryz.prog 62 (.agg zc62) := ⟨Tryz.zeroValue62⟩
theorem row62 : (Tryz.prog.info? 62).map (fun i => (i.size, i.bytes)) = some (5, 56) := by kernel_rfl
instance : TFld Tryz.prog 62 0 0 34 4 := ⟨⟨_, _, Tryz.underlying62, rfl, rfl, rfl, Tryz.sizeOf34, by decide⟩⟩
instance : TFld Tryz.prog 62 1 4 61 1 := ⟨⟨_, _, Tryz.underlying62, rfl, rfl, rfl, Tryz.sizeOf61, by decide⟩⟩
instance : TBuild Tryz.prog 62 zc62 [(0, 4), (4, 1)] := ⟨fun _ => by kernel_rfl⟩
instance : TSize Tryz.prog 63 5 := ⟨Tryz.sizeOf63⟩
instance : TAgg Tryz.prog 63 true := ⟨Tryz.isAgg63⟩
def zc63 : Array Value :=  #[Go.Value.int Go.IntKind.i64 0, Go.Value.int Go.IntKind.i64 0, Go.Value.int Go.IntKind.i64 0, Go.Value.int Go.IntKind.i64 0, Go.Value.slice Option.none 0 0]
theorem zc63_size : zc63.size = 5 := rfl
instance : TZero Tryz.prog 63 (.agg zc63) := ⟨Tryz.zeroValue63⟩
theorem row63 : (Tryz.prog.info? 63).map (fun i => (i.size, i.bytes)) = some (5, 56) := by kernel_rfl
instance : TFld Tryz.prog 63 0 0 34 4 := ⟨⟨_, _, Tryz.underlying63, rfl, rfl, rfl, Tryz.sizeOf34, by decide⟩⟩
instance : TFld Tryz.prog 63 1 4 61 1 := ⟨⟨_, _, Tryz.underlying63, rfl, rfl, rfl, Tryz.sizeOf61, by decide⟩⟩
instance : TBuild Tryz.prog 63 zc63 [(0, 4), (4, 1)] := ⟨fun _ => by kernel_rfl⟩
instance : TSize Tryz.prog 64 1 := ⟨Tryz.sizeOf64⟩
instance : TAgg Tryz.prog 64 false := ⟨Tryz.isAgg64⟩
instance : TZero Tryz.prog 64 (Go.Value.slice Option.none 0 0) := ⟨Tryz.zeroValue64⟩
theorem row64 : (Tryz.prog.info? 64).map (fun i => (i.size, i.bytes)) = some (1, 24) := by kernel_rfl
instance : TUnd Tryz.prog 64 (.slice 63) := ⟨Tryz.underlying64⟩
instance : TSize Tryz.prog 65 4 := ⟨Tryz.sizeOf65⟩
instance : TAgg Tryz.prog 65 true := ⟨Tryz.isAgg65⟩
def zc65 : Array Value :=  #[Go.Value.slice Option.none 0 0, Go.Value.slice Option.none 0 0, Go.Value.int Go.IntKind.i64 0, Go.Value.int Go.IntKind.i64 0]
theorem zc65_size : zc65.size = 4 := rfl
instance : TZero Tryz.prog 65 (.agg zc65) := ⟨Tryz.zeroValue65⟩
theorem row65 : (Tryz.prog.info? 65).map (fun i => (i.size, i.bytes)) = some (4, 64) := by kernel_rfl
instance : TFld Tryz.prog 65 0 0 61 1 := ⟨⟨_, _, Tryz.underlying65, rfl, rfl, rfl, Tryz.sizeOf61, by decide⟩⟩
instance : TFld Tryz.prog 65 1 1 64 1 := ⟨⟨_, _, Tryz.underlying65, rfl, rfl, rfl, Tryz.sizeOf64, by decide⟩⟩
instance : TFld Tryz.prog 65 2 2 2 1 := ⟨⟨_, _, Tryz.underlying65, rfl, rfl, rfl, Tryz.sizeOf2, by decide⟩⟩
instance : TFld Tryz.prog 65 3 3 2 1 := ⟨⟨_, _, Tryz.underlying65, rfl, rfl, rfl, Tryz.sizeOf2, by decide⟩⟩
instance : TBuild Tryz.prog 65 zc65 [(0, 1), (1, 1), (2, 1), (3, 1)] := ⟨fun _ => by kernel_rfl⟩
instance : TSize Tryz.prog 66 4 := ⟨Tryz.sizeOf66⟩
instance : TAgg Tryz.prog 66 true := ⟨Tryz.isAgg66⟩
def zc66 : Array Value :=  #[Go.Value.slice Option.none 0 0, Go.Value.slice Option.none 0 0, Go.Value.int Go.IntKind.i64 0, Go.Value.int Go.IntKind.i64 0]
theorem zc66_size : zc66.size = 4 := rfl
instance : TZero Tryz.prog 66 (.agg zc66) := ⟨Tryz.zeroValue66⟩
theorem row66 : (Tryz.prog.info? 66).map (fun i => (i.size, i.bytes)) = some (4, 64) := by kernel_rfl
instance : TFld Tryz.prog 66 0 0 61 1 := ⟨⟨_, _, Tryz.underlying66, rfl, rfl, rfl, Tryz.sizeOf61, by decide⟩⟩
instance : TFld Tryz.prog 66 1 1 64 1 := ⟨⟨_, _, Tryz.underlying66, rfl, rfl, rfl, Tryz.sizeOf64, by decide⟩⟩
instance : TFld Tryz.prog 66 2 2 2 1 := ⟨⟨_, _, Tryz.underlying66, rfl, rfl, rfl, Tryz.sizeOf2, by decide⟩⟩
instance : TFld Tryz.prog 66 3 3 2 1 := ⟨⟨_, _, Tryz.underlying66, rfl, rfl, rfl, Tryz.sizeOf2, by decide⟩⟩
instance : TBuild Tryz.prog 66 zc66 [(0, 1), (1, 1), (2, 1), (3, 1)] := ⟨fun _ => by kernel_rfl⟩
instance : TSize Tryz.prog 67 5 := ⟨Tryz.sizeOf67⟩
instance : TAgg Tryz.prog 67 true := ⟨Tryz.isAgg67⟩
def zc67 : Array Value :=  #[Go.Value.int Go.IntKind.i64 0, Go.Value.int Go.IntKind.i64 0, Go.Value.int Go.IntKind.i64 0, Go.Value.int Go.IntKind.i64 0, Go.Value.int Go.IntKind.i64 0]
theorem zc67_size : zc67.size = 5 := rfl
instance : TZero Tryz.prog 67 (.agg zc67) := ⟨Tryz.zeroValue67⟩
theorem row67 : (Tryz.prog.info? 67).map (fun i => (i.size, i.bytes)) = some (5, 40) := by kernel_rfl
instance : TFld Tryz.prog 67 0 0 3 1 := ⟨⟨_, _, Tryz.underlying67, rfl, rfl, rfl, Tryz.sizeOf3, by decide⟩⟩
instance : TFld Tryz.prog 67 1 1 3 1 := ⟨⟨_, _, Tryz.underlying67, rfl, rfl, rfl, Tryz.sizeOf3, by decide⟩⟩
instance : TFld Tryz.prog 67 2 2 3 1 := ⟨⟨_, _, Tryz.underlying67, rfl, rfl, rfl, Tryz.sizeOf3, by decide⟩⟩
instance : TFld Tryz.prog 67 3 3 3 1 := ⟨⟨_, _, Tryz.underlying67, rfl, rfl, rfl, Tryz.sizeOf3, by decide⟩⟩
instance : TFld Tryz.prog 67 4 4 3 1 := ⟨⟨_, _, Tryz.underlying67, rfl, rfl, rfl, Tryz.sizeOf3, by decide⟩⟩
instance : TBuild Tryz.prog 67 zc67 [(0, 1), (1, 1), (2, 1), (3, 1), (4, 1)] := ⟨fun _ => by kernel_rfl⟩
instance : TSize Tryz.prog 68 5 := ⟨Tryz.sizeOf68⟩
instance : TAgg Tryz.prog 68 true := ⟨Tryz.isAgg68⟩
def zc68 : Array Value :=  #[Go.Value.int Go.IntKind.i64 0, Go.Value.int Go.IntKind.i64 0, Go.Value.int Go.IntKind.i64 0, Go.Value.int Go.IntKind.i64 0, Go.Value.int Go.IntKind.i64 0]
theorem zc68_size : zc68.size = 5 := rfl
instance : TZero Tryz.prog 68 (.agg zc68) := ⟨Tryz.zeroValue68⟩
theorem row68 : (Tryz.prog.info? 68).map (fun i => (i.size, i.bytes)) = some (5, 40) := by kernel_rfl
instance : TFld Tryz.prog 68 0 0 3 1 := ⟨⟨_, _, Tryz.underlying68, rfl, rfl, rfl, Tryz.sizeOf3, by decide⟩⟩
instance : TFld Tryz.prog 68 1 1 3 1 := ⟨⟨_, _, Tryz.underlying68, rfl, rfl, rfl, Tryz.sizeOf3, by decide⟩⟩
instance : TFld Tryz.prog 68 2 2 3 1 := ⟨⟨_, _, Tryz.underlying68, rfl, rfl, rfl, Tryz.sizeOf3, by decide⟩⟩
instance : TFld Tryz.prog 68 3 3 3 1 := ⟨⟨_, _, Tryz.underlying68, rfl, rfl, rfl, Tryz.sizeOf3, by decide⟩⟩
instance : TFld Tryz.prog 68 4 4 3 1 := ⟨⟨_, _, Tryz.underlying68, rfl, rfl, rfl, Tryz.sizeOf3, by decide⟩⟩
instance : TBuild Tryz.prog 68 zc68 [(0, 1), (1, 1), (2, 1), (3, 1), (4, 1)] := ⟨fun _ => by kernel_rfl⟩
instance : TSize Tryz.prog 69 1 := ⟨Tryz.sizeOf69⟩
instance : TAgg Tryz.prog 69 false := ⟨Tryz.isAgg69⟩
instance : TZero Tryz.prog 69 (Go.Value.tuple #[Go.Value.pointer Option.none, Go.Value.int Go.IntKind.i64 0]) := ⟨Tryz.zeroValue69⟩
theorem row69 : (Tryz.prog.info? 69).map (fun i => (i.size, i.bytes)) = some (1, 0) := by kernel_rfl
instance : TSize Tryz.prog 70 1 := ⟨Tryz.sizeOf70⟩
instance : TAgg Tryz.prog 70 false := ⟨Tryz.isAgg70⟩
instance : TZero Tryz.prog 70 (Go.Value.nilFunc) := ⟨Tryz.zeroValue70⟩
theorem row70 : (Tryz.prog.info? 70).map (fun i => (i.size, i.bytes)) = some (1, 8) := by kernel_rfl
instance : TSize Tryz.prog 71 1 := ⟨Tryz.sizeOf71⟩
instance : TAgg Tryz.prog 71 false := ⟨Tryz.isAgg71⟩
instance : TZero Tryz.prog 71 (Go.Value.tuple #[Go.Value.pointer Option.none, Go.Value.int Go.IntKind.i64 0]) := ⟨Tryz.zeroValue71⟩
theorem row71 : (Tryz.prog.info? 71).map (fun i => (i.size, i.bytes)) = some (1, 0) := by kernel_rfl
instance : TSize Tryz.prog 72 1 := ⟨Tryz.sizeOf72⟩
instance : TAgg Tryz.prog 72 false := ⟨Tryz.isAgg72⟩
instance : TZero Tryz.prog 72 (Go.Value.nilFunc) := ⟨Tryz.zeroValue72⟩
theorem row72 : (Tryz.prog.info? 72).map (fun i => (i.size, i.bytes)) = some (1, 8) := by kernel_rfl
instance : TSize Tryz.prog 73 1 := ⟨Tryz.sizeOf73⟩
instance : TAgg Tryz.prog 73 false := ⟨Tryz.isAgg73⟩
instance : TZero Tryz.prog 73 (Go.Value.int Go.IntKind.u16 0) := ⟨Tryz.zeroValue73⟩
theorem row73 : (Tryz.prog.info? 73).map (fun i => (i.size, i.bytes)) = some (1, 2) := by kernel_rfl
instance : TUnd Tryz.prog 73 (.int Go.IntKind.u16) := ⟨Tryz.underlying73⟩
instance : TSize Tryz.prog 74 4 := ⟨Tryz.sizeOf74⟩
instance : TAgg Tryz.prog 74 true := ⟨Tryz.isAgg74⟩
def zc74 : Array Value :=  #[Go.Value.int Go.IntKind.u8 0, Go.Value.int Go.IntKind.u8 0, Go.Value.int Go.IntKind.u8 0, Go.Value.int Go.IntKind.u16 0]
theorem zc74_size : zc74.size = 4 := rfl
instance : TZero Tryz.prog 74 (.agg zc74) := ⟨Tryz.zeroValue74⟩
theorem row74 : (Tryz.prog.info? 74).map (fun i => (i.size, i.bytes)) = some (4, 6) := by kernel_rfl
instance : TFld Tryz.prog 74 0 0 5 1 := ⟨⟨_, _, Tryz.underlying74, rfl, rfl, rfl, Tryz.sizeOf5, by decide⟩⟩
instance : TFld Tryz.prog 74 1 1 5 1 := ⟨⟨_, _, Tryz.underlying74, rfl, rfl, rfl, Tryz.sizeOf5, by decide⟩⟩
instance : TFld Tryz.prog 74 2 2 5 1 := ⟨⟨_, _, Tryz.underlying74, rfl, rfl, rfl, Tryz.sizeOf5, by decide⟩⟩
instance : TFld Tryz.prog 74 3 3 73 1 := ⟨⟨_, _, Tryz.underlying74, rfl, rfl, rfl, Tryz.sizeOf73, by decide⟩⟩
instance : TBuild Tryz.prog 74 zc74 [(0, 1), (1, 1), (2, 1), (3, 1)] := ⟨fun _ => by kernel_rfl⟩
instance : TSize Tryz.prog 75 4 := ⟨Tryz.sizeOf75⟩
instance : TAgg Tryz.prog 75 true := ⟨Tryz.isAgg75⟩
def zc75 : Array Value :=  #[Go.Value.int Go.IntKind.u8 0, Go.Value.int Go.IntKind.u8 0, Go.Value.int Go.IntKind.u8 0, Go.Value.int Go.IntKind.u16 0]
theorem zc75_size : zc75.size = 4 := rfl
instance : TZero Tryz.prog 75 (.agg zc75) := ⟨Tryz.zeroValue75⟩
theorem row75 : (Tryz.prog.info? 75).map (fun i => (i.size, i.bytes)) = some (4, 6) := by kernel_rfl
instance : TFld Tryz.prog 75 0 0 5 1 := ⟨⟨_, _, Tryz.underlying75, rfl, rfl, rfl, Tryz.sizeOf5, by decide⟩⟩
instance : TFld Tryz.prog 75 1 1 5 1 := ⟨⟨_, _, Tryz.underlying75, rfl, rfl, rfl, Tryz.sizeOf5, by decide⟩⟩
instance : TFld Tryz.prog 75 2 2 5 1 := ⟨⟨_, _, Tryz.underlying75, rfl, rfl, rfl, Tryz.sizeOf5, by decide⟩⟩
instance : TFld Tryz.prog 75 3 3 73 1 := ⟨⟨_, _, Tryz.underlying75, rfl, rfl, rfl, Tryz.sizeOf73, by decide⟩⟩
instance : TBuild Tryz.prog 75 zc75 [(0, 1), (1, 1), (2, 1), (3, 1)] := ⟨fun _ => by kernel_rfl⟩
instance : TSize Tryz.prog 76 1 := ⟨Tryz.sizeOf76⟩
instance : TAgg Tryz.prog 76 false := ⟨Tryz.isAgg76⟩
instance : TZero Tryz.prog 76 (Go.Value.nilFunc) := ⟨Tryz.zeroValue76⟩
theorem row76 : (Tryz.prog.info? 76).map (fun i => (i.size, i.bytes)) = some (1, 8) := by kernel_rfl
instance : TSize Tryz.prog 77 9 := ⟨Tryz.sizeOf77⟩
instance : TAgg Tryz.prog 77 true := ⟨Tryz.isAgg77⟩
def zc77 : Array Value :=  #[Go.Value.pointer Option.none, Go.Value.int Go.IntKind.i64 0, Go.Value.int Go.IntKind.i64 0, Go.Value.int Go.IntKind.i64 0, Go.Value.int Go.IntKind.i64 0, Go.Value.int Go.IntKind.i64 0, Go.Value.int Go.IntKind.i64 0, Go.Value.int Go.IntKind.i64 0, Go.Value.int Go.IntKind.i64 0]
theorem zc77_size : zc77.size = 9 := rfl
instance : TZero Tryz.prog 77 (.agg zc77) := ⟨Tryz.zeroValue77⟩
theorem row77 : (Tryz.prog.info? 77).map (fun i => (i.size, i.bytes)) = some (9, 72) := by kernel_rfl
instance : TFld Tryz.prog 77 0 0 23 1 := ⟨⟨_, _, Tryz.underlying77, rfl, rfl, rfl, Tryz.sizeOf23, by decide⟩⟩
instance : TFld Tryz.prog 77 1 1 27 8 := ⟨⟨_, _, Tryz.underlying77, rfl, rfl, rfl, Tryz.sizeOf27, by decide⟩⟩
instance : TBuild Tryz.prog 77 zc77 [(0, 1), (1, 8)] := ⟨fun _ => by kernel_rfl⟩
instance : TSize Tryz.prog 78 9 := ⟨Tryz.sizeOf78⟩
instance : TAgg Tryz.prog 78 true := ⟨Tryz.isAgg78⟩
def zc78 : Array Value :=  #[Go.Value.pointer Option.none, Go.Value.int Go.IntKind.i64 0, Go.Value.int Go.IntKind.i64 0, Go.Value.int Go.IntKind.i64 0, Go.Value.int Go.IntKind.i64 0, Go.Value.int Go.IntKind.i64 0, Go.Value.int Go.IntKind.i64 0, Go.Value.int Go.IntKind.i64 0, Go.Value.int Go.IntKind.i64 0]
theorem zc78_size : zc78.size = 9 := rfl
instance : TZero Tryz.prog 78 (.agg zc78) := ⟨Tryz.zeroValue78⟩
theorem row78 : (Tryz.prog.info? 78).map (fun i => (i.size, i.bytes)) = some (9, 72) := by kernel_rfl
instance : TFld Tryz.prog 78 0 0 23 1 := ⟨⟨_, _, Tryz.underlying78, rfl, rfl, rfl, Tryz.sizeOf23, by decide⟩⟩
instance : TFld Tryz.prog 78 1 1 27 8 := ⟨⟨_, _, Tryz.underlying78, rfl, rfl, rfl, Tryz.sizeOf27, by decide⟩⟩
instance : TBuild Tryz.prog 78 zc78 [(0, 1), (1, 8)] := ⟨fun _ => by kernel_rfl⟩
instance : TSize Tryz.prog 79 1 := ⟨Tryz.sizeOf79⟩
instance : TAgg Tryz.prog 79 false := ⟨Tryz.isAgg79⟩
instance : TZero Tryz.prog 79 (Go.Value.nilFunc) := ⟨Tryz.zeroValue79⟩
theorem row79 : (Tryz.prog.info? 79).map (fun i => (i.size, i.bytes)) = some (1, 8) := by kernel_rfl
instance : TSize Tryz.prog 80 1 := ⟨Tryz.sizeOf80⟩
instance : TAgg Tryz.prog 80 false := ⟨Tryz.isAgg80⟩
instance : TZero Tryz.prog 80 (Go.Value.nilFunc) := ⟨Tryz.zeroValue80⟩
theorem row80 : (Tryz.prog.info? 80).map (fun i => (i.size, i.bytes)) = some (1, 8) := by kernel_rfl
instance : TSize Tryz.prog 81 1 := ⟨Tryz.sizeOf81⟩
instance : TAgg Tryz.prog 81 false := ⟨Tryz.isAgg81⟩
instance : TZero Tryz.prog 81 (Go.Value.nilFunc) := ⟨Tryz.zeroValue81⟩
theorem row81 : (Tryz.prog.info? 81).map (fun i => (i.size, i.bytes)) = some (1, 8) := by kernel_rfl
instance : TSize Tryz.prog 82 1 := ⟨Tryz.sizeOf82⟩
instance : TAgg Tryz.prog 82 false := ⟨Tryz.isAgg82⟩
instance : TZero Tryz.prog 82 (Go.Value.nilFunc) := ⟨Tryz.zeroValue82⟩
theorem row82 : (Tryz.prog.info? 82).map (fun i => (i.size, i.bytes)) = some (1, 8) := by kernel_rfl
instance : TSize Tryz.prog 83 1 := ⟨Tryz.sizeOf83⟩
instance : TAgg Tryz.prog 83 false := ⟨Tryz.isAgg83⟩
instance : TZero Tryz.prog 83 (Go.Value.nilFunc) := ⟨Tryz.zeroValue83⟩
theorem row83 : (Tryz.prog.info? 83).map (fun i => (i.size, i.bytes)) = some (1, 8) := by kernel_rfl
instance : TSize Tryz.prog 84 1 := ⟨Tryz.sizeOf84⟩
instance : TAgg Tryz.prog 84 false := ⟨Tryz.isAgg84⟩
instance : TZero Tryz.prog 84 (Go.Value.nilFunc) := ⟨Tryz.zeroValue84⟩
theorem row84 : (Tryz.prog.info? 84).map (fun i => (i.size, i.bytes)) = some (1, 8) := by kernel_rfl
instance : TSize Tryz.prog 85 1 := ⟨Tryz.sizeOf85⟩
instance : TAgg Tryz.prog 85 false := ⟨Tryz.isAgg85⟩
instance : TZero Tryz.prog 85 (Go.Value.map Option.none) := ⟨Tryz.zeroValue85⟩
theorem row85 : (Tryz.prog.info? 85).map (fun i => (i.size, i.bytes)) = some (1, 8) := by kernel_rfl
instance : TUnd Tryz.prog 85 (.map 3 3) := ⟨Tryz.underlying85⟩
instance : TSize Tryz.prog 86 1 := ⟨Tryz.sizeOf86⟩
instance : TAgg Tryz.prog 86 false := ⟨Tryz.isAgg86⟩
instance : TZero Tryz.prog 86 (Go.Value.nilFunc) := ⟨Tryz.zeroValue86⟩
theorem row86 : (Tryz.prog.info? 86).map (fun i => (i.size, i.bytes)) = some (1, 8) := by kernel_rfl
instance : TSize Tryz.prog 87 1 := ⟨Tryz.sizeOf87⟩
instance : TAgg Tryz.prog 87 false := ⟨Tryz.isAgg87⟩
instance : TZero Tryz.prog 87 (Go.Value.nilFunc) := ⟨Tryz.zeroValue87⟩
theorem row87 : (Tryz.prog.info? 87).map (fun i => (i.size, i.bytes)) = some (1, 8) := by kernel_rfl
instance : TSize Tryz.prog 88 1 := ⟨Tryz.sizeOf88⟩
instance : TAgg Tryz.prog 88 false := ⟨Tryz.isAgg88⟩
instance : TZero Tryz.prog 88 (Go.Value.nilFunc) := ⟨Tryz.zeroValue88⟩
theorem row88 : (Tryz.prog.info? 88).map (fun i => (i.size, i.bytes)) = some (1, 8) := by kernel_rfl
instance : TSize Tryz.prog 89 1 := ⟨Tryz.sizeOf89⟩
instance : TAgg Tryz.prog 89 false := ⟨Tryz.isAgg89⟩
instance : TZero Tryz.prog 89 (Go.Value.nilFunc) := ⟨Tryz.zeroValue89⟩
theorem row89 : (Tryz.prog.info? 89).map (fun i => (i.size, i.bytes)) = some (1, 8) := by kernel_rfl
instance : TSize Tryz.prog 90 1 := ⟨Tryz.sizeOf90⟩
instance : TAgg Tryz.prog 90 false := ⟨Tryz.isAgg90⟩
instance : TZero Tryz.prog 90 (Go.Value.nilFunc) := ⟨Tryz.zeroValue90⟩
theorem row90 : (Tryz.prog.info? 90).map (fun i => (i.size, i.bytes)) = some (1, 8) := by kernel_rfl
instance : TSize Tryz.prog 91 1 := ⟨Tryz.sizeOf91⟩
instance : TAgg Tryz.prog 91 false := ⟨Tryz.isAgg91⟩
instance : TZero Tryz.prog 91 (Go.Value.nilFunc) := ⟨Tryz.zeroValue91⟩
theorem row91 : (Tryz.prog.info? 91).map (fun i => (i.size, i.bytes)) = some (1, 8) := by kernel_rfl
instance : TSize Tryz.prog 92 1 := ⟨Tryz.sizeOf92⟩
instance : TAgg Tryz.prog 92 false := ⟨Tryz.isAgg92⟩
instance : TZero Tryz.prog 92 (Go.Value.map Option.none) := ⟨Tryz.zeroValue92⟩
theorem row92 : (Tryz.prog.info? 92).map (fun i => (i.size, i.bytes)) = some (1, 8) := by kernel_rfl
instance : TUnd Tryz.prog 92 (.map 43 105) := ⟨Tryz.underlying92⟩
instance : TSize Tryz.prog 93 1 := ⟨Tryz.sizeOf93⟩
instance : TAgg Tryz.prog 93 false := ⟨Tryz.isAgg93⟩
instance : TZero Tryz.prog 93 (Go.Value.slice Option.none 0 0) := ⟨Tryz.zeroValue93⟩
theorem row93 : (Tryz.prog.info? 93).map (fun i => (i.size, i.bytes)) = some (1, 24) := by kernel_rfl
instance : TUnd Tryz.prog 93 (.slice 101) := ⟨Tryz.underlying93⟩
instance : TSize Tryz.prog 94 1 := ⟨Tryz.sizeOf94⟩
instance : TAgg Tryz.prog 94 false := ⟨Tryz.isAgg94⟩
instance : TZero Tryz.prog 94 (Go.Value.map Option.none) := ⟨Tryz.zeroValue94⟩
theorem row94 : (Tryz.prog.info? 94).map (fun i => (i.size, i.bytes)) = some (1, 8) := by kernel_rfl
instance : TUnd Tryz.prog 94 (.map 43 101) := ⟨Tryz.underlying94⟩
instance : TSize Tryz.prog 95 6 := ⟨Tryz.sizeOf95⟩
instance : TAgg Tryz.prog 95 true := ⟨Tryz.isAgg95⟩
def zc95 : Array Value :=  #[Go.Value.pointer Option.none, Go.Value.int Go.IntKind.i64 0, Go.Value.map Option.none, Go.Value.int Go.IntKind.i64 0, Go.Value.slice Option.none 0 0, Go.Value.map Option.none]
theorem zc95_size : zc95.size = 6 := rfl
instance : TZero Tryz.prog 95 (.agg zc95) := ⟨Tryz.zeroValue95⟩
theorem row95 : (Tryz.prog.info? 95).map (fun i => (i.size, i.bytes)) = some (6, 64) := by kernel_rfl
instance : TFld Tryz.prog 95 0 0 23 1 := ⟨⟨_, _, Tryz.underlying95, rfl, rfl, rfl, Tryz.sizeOf23, by decide⟩⟩
instance : TFld Tryz.prog 95 1 1 3 1 := ⟨⟨_, _, Tryz.underlying95, rfl, rfl, rfl, Tryz.sizeOf3, by decide⟩⟩
instance : TFld Tryz.prog 95 2 2 92 1 := ⟨⟨_, _, Tryz.underlying95, rfl, rfl, rfl, Tryz.sizeOf92, by decide⟩⟩
instance : TFld Tryz.prog 95 3 3 3 1 := ⟨⟨_, _, Tryz.underlying95, rfl, rfl, rfl, Tryz.sizeOf3, by decide⟩⟩
instance : TFld Tryz.prog 95 4 4 93 1 := ⟨⟨_, _, Tryz.underlying95, rfl, rfl, rfl, Tryz.sizeOf93, by decide⟩⟩
instance : TFld Tryz.prog 95 5 5 94 1 := ⟨⟨_, _, Tryz.underlying95, rfl, rfl, rfl, Tryz.sizeOf94, by decide⟩⟩
instance : TBuild Tryz.prog 95 zc95 [(0, 1), (1, 1), (2, 1), (3, 1), (4, 1), (5, 1)] := ⟨fun _ => by kernel_rfl⟩
instance : TSize Tryz.prog 96 6 := ⟨Tryz.sizeOf96⟩
instance : TAgg Tryz.prog 96 true := ⟨Tryz.isAgg96⟩
def zc96 : Array Value :=  #[Go.Value.pointer Option.none, Go.Value.int Go.IntKind.i64 0, Go.Value.map Option.none, Go.Value.int Go.IntKind.i64 0, Go.Value.slice Option.none 0 0, Go.Value.map Option.none]
theorem zc96_size : zc96.size = 6 := rfl
instance : TZero Tryz.prog 96 (.agg zc96) := ⟨Tryz.zeroValue96⟩
theorem row96 : (Tryz.prog.info? 96).map (fun i => (i.size, i.bytes)) = some (6, 64) := by kernel_rfl
instance : TFld Tryz.prog 96 0 0 23 1 := ⟨⟨_, _, Tryz.underlying96, rfl, rfl, rfl, Tryz.sizeOf23, by decide⟩⟩
instance : TFld Tryz.prog 96 1 1 3 1 := ⟨⟨_, _, Tryz.underlying96, rfl, rfl, rfl, Tryz.sizeOf3, by decide⟩⟩
instance : TFld Tryz.prog 96 2 2 92 1 := ⟨⟨_, _, Tryz.underlying96, rfl, rfl, rfl, Tryz.sizeOf92, by decide⟩⟩
instance : TFld Tryz.prog 96 3 3 3 1 := ⟨⟨_, _, Tryz.underlying96, rfl, rfl, rfl, Tryz.sizeOf3, by decide⟩⟩
instance : TFld Tryz.prog 96 4 4 93 1 := ⟨⟨_, _, Tryz.underlying96, rfl, rfl, rfl, Tryz.sizeOf93, by decide⟩⟩
instance : TFld Tryz.prog 96 5 5 94 1 := ⟨⟨_, _, Tryz.underlying96, rfl, rfl, rfl, Tryz.sizeOf94, by decide⟩⟩
instance : TBuild Tryz.prog 96 zc96 [(0, 1), (1, 1), (2, 1), (3, 1), (4, 1), (5, 1)] := ⟨fun _ => by kernel_rfl⟩
instance : TSize Tryz.prog 97 2 := ⟨Tryz.sizeOf97⟩
instance : TAgg Tryz.prog 97 true := ⟨Tryz.isAgg97⟩
def zc97 : Array Value :=  #[Go.Value.int Go.IntKind.i64 0, Go.Value.int Go.IntKind.i64 0]
theorem zc97_size : zc97.size = 2 := rfl
instance : TZero Tryz.prog 97 (.agg zc97) := ⟨Tryz.zeroValue97⟩
theorem row97 : (Tryz.prog.info? 97).map (fun i => (i.size, i.bytes)) = some (2, 16) := by kernel_rfl
instance : TFld Tryz.prog 97 0 0 2 1 := ⟨⟨_, _, Tryz.underlying97, rfl, rfl, rfl, Tryz.sizeOf2, by decide⟩⟩
instance : TFld Tryz.prog 97 1 1 3 1 := ⟨⟨_, _, Tryz.underlying97, rfl, rfl, rfl, Tryz.sizeOf3, by decide⟩⟩
instance : TBuild Tryz.prog 97 zc97 [(0, 1), (1, 1)] := ⟨fun _ => by kernel_rfl⟩
instance : TSize Tryz.prog 98 2 := ⟨Tryz.sizeOf98⟩
instance : TAgg Tryz.prog 98 true := ⟨Tryz.isAgg98⟩
def zc98 : Array Value :=  #[Go.Value.int Go.IntKind.i64 0, Go.Value.int Go.IntKind.i64 0]
theorem zc98_size : zc98.size = 2 := rfl
instance : TZero Tryz.prog 98 (.agg zc98) := ⟨Tryz.zeroValue98⟩
theorem row98 : (Tryz.prog.info? 98).map (fun i => (i.size, i.bytes)) = some (2, 16) := by kernel_rfl
instance : TFld Tryz.prog 98 0 0 2 1 := ⟨⟨_, _, Tryz.underlying98, rfl, rfl, rfl, Tryz.sizeOf2, by decide⟩⟩
instance : TFld Tryz.prog 98 1 1 3 1 := ⟨⟨_, _, Tryz.underlying98, rfl, rfl, rfl, Tryz.sizeOf3, by decide⟩⟩
instance : TBuild Tryz.prog 98 zc98 [(0, 1), (1, 1)] := ⟨fun _ => by kernel_rfl⟩
instance : TSize Tryz.prog 99 1 := ⟨Tryz.sizeOf99⟩
instance : TAgg Tryz.prog 99 false := ⟨Tryz.isAgg99⟩
instance : TZero Tryz.prog 99 (Go.Value.pointer Option.none) := ⟨Tryz.zeroValue99⟩
theorem row99 : (Tryz.prog.info? 99).map (fun i => (i.size, i.bytes)) = some (1, 8) := by kernel_rfl
instance : TUnd Tryz.prog 99 (.pointer 98) := ⟨Tryz.underlying99⟩
instance : TSize Tryz.prog 100 5 := ⟨Tryz.sizeOf100⟩
instance : TAgg Tryz.prog 100 true := ⟨Tryz.isAgg100⟩
def zc100 : Array Value :=  #[Go.Value.int Go.IntKind.i64 0, Go.Value.int Go.IntKind.i64 0, Go.Value.int Go.IntKind.i64 0, Go.Value.int Go.IntKind.i64 0, Go.Value.pointer Option.none]
theorem zc100_size : zc100.size = 5 := rfl
instance : TZero Tryz.prog 100 (.agg zc100) := ⟨Tryz.zeroValue100⟩
theorem row100 : (Tryz.prog.info? 100).map (fun i => (i.size, i.bytes)) = some (5, 40) := by kernel_rfl
instance : TFld Tryz.prog 100 0 0 43 2 := ⟨⟨_, _, Tryz.underlying100, rfl, rfl, rfl, Tryz.sizeOf43, by decide⟩⟩
instance : TFld Tryz.prog 100 1 2 98 2 := ⟨⟨_, _, Tryz.underlying100, rfl, rfl, rfl, Tryz.sizeOf98, by decide⟩⟩
instance : TFld Tryz.prog 100 2 4 99 1 := ⟨⟨_, _, Tryz.underlying100, rfl, rfl, rfl, Tryz.sizeOf99, by decide⟩⟩
instance : TBuild Tryz.prog 100 zc100 [(0, 2), (2, 2), (4, 1)] := ⟨fun _ => by kernel_rfl⟩
instance : TSize Tryz.prog 101 5 := ⟨Tryz.sizeOf101⟩
instance : TAgg Tryz.prog 101 true := ⟨Tryz.isAgg101⟩
def zc101 : Array Value :=  #[Go.Value.int Go.IntKind.i64 0, Go.Value.int Go.IntKind.i64 0, Go.Value.int Go.IntKind.i64 0, Go.Value.int Go.IntKind.i64 0, Go.Value.pointer Option.none]
theorem zc101_size : zc101.size = 5 := rfl
instance : TZero Tryz.prog 101 (.agg zc101) := ⟨Tryz.zeroValue101⟩
theorem row101 : (Tryz.prog.info? 101).map (fun i => (i.size, i.bytes)) = some (5, 40) := by kernel_rfl
instance : TFld Tryz.prog 101 0 0 43 2 := ⟨⟨_, _, Tryz.underlying101, rfl, rfl, rfl, Tryz.sizeOf43, by decide⟩⟩
instance : TFld Tryz.prog 101 1 2 98 2 := ⟨⟨_, _, Tryz.underlying101, rfl, rfl, rfl, Tryz.sizeOf98, by decide⟩⟩
instance : TFld Tryz.prog 101 2 4 99 1 := ⟨⟨_, _, Tryz.underlying101, rfl, rfl, rfl, Tryz.sizeOf99, by decide⟩⟩
instance : TBuild Tryz.prog 101 zc101 [(0, 2), (2, 2), (4, 1)] := ⟨fun _ => by kernel_rfl⟩
instance : TSize Tryz.prog 102 1 := ⟨Tryz.sizeOf102⟩
instance : TAgg Tryz.prog 102 false := ⟨Tryz.isAgg102⟩
instance : TZero Tryz.prog 102 (Go.Value.tuple #[Go.Value.agg #[Go.Value.int Go.IntKind.i64 0, Go.Value.int Go.IntKind.i64 0, Go.Value.int Go.IntKind.i64 0, Go.Value.int Go.IntKind.i64 0, Go.Value.pointer Option.none], Go.Value.bool Bool.false]) := ⟨Tryz.zeroValue102⟩
theorem row102 : (Tryz.prog.info? 102).map (fun i => (i.size, i.bytes)) = some (1, 0) := by kernel_rfl
instance : TSize Tryz.prog 103 1 := ⟨Tryz.sizeOf103⟩
instance : TAgg Tryz.prog 103 false := ⟨Tryz.isAgg103⟩
instance : TZero Tryz.prog 103 (Go.Value.nilFunc) := ⟨Tryz.zeroValue103⟩
theorem row103 : (Tryz.prog.info? 103).map (fun i => (i.size, i.bytes)) = some (1, 8) := by kernel_rfl
instance : TSize Tryz.prog 104 2 := ⟨Tryz.sizeOf104⟩
instance : TAgg Tryz.prog 104 true := ⟨Tryz.isAgg104⟩
def zc104 : Array Value :=  #[Go.Value.bool Bool.false, Go.Value.bool Bool.false]
theorem zc104_size : zc104.size = 2 := rfl
instance : TZero Tryz.prog 104 (.agg zc104) := ⟨Tryz.zeroValue104⟩
theorem row104 : (Tryz.prog.info? 104).map (fun i => (i.size, i.bytes)) = some (2, 2) := by kernel_rfl
instance : TFld Tryz.prog 104 0 0 4 1 := ⟨⟨_, _, Tryz.underlying104, rfl, rfl, rfl, Tryz.sizeOf4, by decide⟩⟩
instance : TFld Tryz.prog 104 1 1 4 1 := ⟨⟨_, _, Tryz.underlying104, rfl, rfl, rfl, Tryz.sizeOf4, by decide⟩⟩
instance : TBuild Tryz.prog 104 zc104 [(0, 1), (1, 1)] := ⟨fun _ => by kernel_rfl⟩
instance : TSize Tryz.prog 105 2 := ⟨Tryz.sizeOf105⟩
instance : TAgg Tryz.prog 105 true := ⟨Tryz.isAgg105⟩
def zc105 : Array Value :=  #[Go.Value.bool Bool.false, Go.Value.bool Bool.false]
theorem zc105_size : zc105.size = 2 := rfl
instance : TZero Tryz.prog 105 (.agg zc105) := ⟨Tryz.zeroValue105⟩
theorem row105 : (Tryz.prog.info? 105).map (fun i => (i.size, i.bytes)) = some (2, 2) := by kernel_rfl
instance : TFld Tryz.prog 105 0 0 4 1 := ⟨⟨_, _, Tryz.underlying105, rfl, rfl, rfl, Tryz.sizeOf4, by decide⟩⟩
instance : TFld Tryz.prog 105 1 1 4 1 := ⟨⟨_, _, Tryz.underlying105, rfl, rfl, rfl, Tryz.sizeOf4, by decide⟩⟩
instance : TBuild Tryz.prog 105 zc105 [(0, 1), (1, 1)] := ⟨fun _ => by kernel_rfl⟩
instance : TSize Tryz.prog 106 1 := ⟨Tryz.sizeOf106⟩
instance : TAgg Tryz.prog 106 false := ⟨Tryz.isAgg106⟩
instance : TZero Tryz.prog 106 (Go.Value.nilFunc) := ⟨Tryz.zeroValue106⟩
theorem row106 : (Tryz.prog.info? 106).map (fun i => (i.size, i.bytes)) = some (1, 8) := by kernel_rfl
instance : TSize Tryz.prog 107 1 := ⟨Tryz.sizeOf107⟩
instance : TAgg Tryz.prog 107 false := ⟨Tryz.isAgg107⟩
instance : TZero Tryz.prog 107 (Go.Value.nilFunc) := ⟨Tryz.zeroValue107⟩
theorem row107 : (Tryz.prog.info? 107).map (fun i => (i.size, i.bytes)) = some (1, 8) := by kernel_rfl
instance : TSize Tryz.prog 108 1 := ⟨Tryz.sizeOf108⟩
instance : TAgg Tryz.prog 108 false := ⟨Tryz.isAgg108⟩
instance : TZero Tryz.prog 108 (Go.Value.nilFunc) := ⟨Tryz.zeroValue108⟩
theorem row108 : (Tryz.prog.info? 108).map (fun i => (i.size, i.bytes)) = some (1, 8) := by kernel_rfl
instance : TSize Tryz.prog 109 1 := ⟨Tryz.sizeOf109⟩
instance : TAgg Tryz.prog 109 false := ⟨Tryz.isAgg109⟩
instance : TZero Tryz.prog 109 (Go.Value.tuple #[Go.Value.agg #[Go.Value.bool Bool.false, Go.Value.bool Bool.false], Go.Value.bool Bool.false]) := ⟨Tryz.zeroValue109⟩
theorem row109 : (Tryz.prog.info? 109).map (fun i => (i.size, i.bytes)) = some (1, 0) := by kernel_rfl
instance : TSize Tryz.prog 110 1 := ⟨Tryz.sizeOf110⟩
instance : TAgg Tryz.prog 110 false := ⟨Tryz.isAgg110⟩
instance : TZero Tryz.prog 110 (Go.Value.nilFunc) := ⟨Tryz.zeroValue110⟩
theorem row110 : (Tryz.prog.info? 110).map (fun i => (i.size, i.bytes)) = some (1, 8) := by kernel_rfl
instance : TSize Tryz.prog 111 4 := ⟨Tryz.sizeOf111⟩
instance : TAgg Tryz.prog 111 true := ⟨Tryz.isAgg111⟩
def zc111 : Array Value :=  #[Go.Value.int Go.IntKind.i64 0, Go.Value.int Go.IntKind.i64 0, Go.Value.int Go.IntKind.i64 0, Go.Value.int Go.IntKind.i64 0]
theorem zc111_size : zc111.size = 4 := rfl
instance : TZero Tryz.prog 111 (.agg zc111) := ⟨Tryz.zeroValue111⟩
theorem row111 : (Tryz.prog.info? 111).map (fun i => (i.size, i.bytes)) = some (4, 32) := by kernel_rfl
instance : TFld Tryz.prog 111 0 0 43 2 := ⟨⟨_, _, Tryz.underlying111, rfl, rfl, rfl, Tryz.sizeOf43, by decide⟩⟩
instance : TFld Tryz.prog 111 1 2 3 1 := ⟨⟨_, _, Tryz.underlying111, rfl, rfl, rfl, Tryz.sizeOf3, by decide⟩⟩
instance : TFld Tryz.prog 111 2 3 2 1 := ⟨⟨_, _, Tryz.underlying111, rfl, rfl, rfl, Tryz.sizeOf2, by decide⟩⟩
instance : TBuild Tryz.prog 111 zc111 [(0, 2), (2, 1), (3, 1)] := ⟨fun _ => by kernel_rfl⟩
instance : TSize Tryz.prog 112 4 := ⟨Tryz.sizeOf112⟩
instance : TAgg Tryz.prog 112 true := ⟨Tryz.isAgg112⟩
def zc112 : Array Value :=  #[Go.Value.int Go.IntKind.i64 0, Go.Value.int Go.IntKind.i64 0, Go.Value.int Go.IntKind.i64 0, Go.Value.int Go.IntKind.i64 0]
theorem zc112_size : zc112.size = 4 := rfl
instance : TZero Tryz.prog 112 (.agg zc112) := ⟨Tryz.zeroValue112⟩
theorem row112 : (Tryz.prog.info? 112).map (fun i => (i.size, i.bytes)) = some (4, 32) := by kernel_rfl
instance : TFld Tryz.prog 112 0 0 43 2 := ⟨⟨_, _, Tryz.underlying112, rfl, rfl, rfl, Tryz.sizeOf43, by decide⟩⟩
instance : TFld Tryz.prog 112 1 2 3 1 := ⟨⟨_, _, Tryz.underlying112, rfl, rfl, rfl, Tryz.sizeOf3, by decide⟩⟩
instance : TFld Tryz.prog 112 2 3 2 1 := ⟨⟨_, _, Tryz.underlying112, rfl, rfl, rfl, Tryz.sizeOf2, by decide⟩⟩
instance : TBuild Tryz.prog 112 zc112 [(0, 2), (2, 1), (3, 1)] := ⟨fun _ => by kernel_rfl⟩
instance : TSize Tryz.prog 113 1 := ⟨Tryz.sizeOf113⟩
instance : TAgg Tryz.prog 113 false := ⟨Tryz.isAgg113⟩
instance : TZero Tryz.prog 113 (Go.Value.nilFunc) := ⟨Tryz.zeroValue113⟩
theorem row113 : (Tryz.prog.info? 113).map (fun i => (i.size, i.bytes)) = some (1, 8) := by kernel_rfl
instance : TSize Tryz.prog 114 9 := ⟨Tryz.sizeOf114⟩
instance : TAgg Tryz.prog 114 true := ⟨Tryz.isAgg114⟩
def zc114 : Array Value :=  #[Go.Value.slice Option.none 0 0, Go.Value.slice Option.none 0 0, Go.Value.int Go.IntKind.i64 0, Go.Value.int Go.IntKind.i64 0, Go.Value.int Go.IntKind.i64 0, Go.Value.int Go.IntKind.i64 0, Go.Value.int Go.IntKind.i64 0, Go.Value.int Go.IntKind.i64 0, Go.Value.int Go.IntKind.i64 0]
theorem zc114_size : zc114.size = 9 := rfl
instance : TZero Tryz.prog 114 (.agg zc114) := ⟨Tryz.zeroValue114⟩
theorem row114 : (Tryz.prog.info? 114).map (fun i => (i.size, i.bytes)) = some (9, 104) := by kernel_rfl
instance : TFld Tryz.prog 114 0 0 66 4 := ⟨⟨_, _, Tryz.underlying114, rfl, rfl, rfl, Tryz.sizeOf66, by decide⟩⟩
instance : TFld Tryz.prog 114 1 4 68 5 := ⟨⟨_, _, Tryz.underlying114, rfl, rfl, rfl, Tryz.sizeOf68, by decide⟩⟩
instance : TBuild Tryz.prog 114 zc114 [(0, 4), (4, 5)] := ⟨fun _ => by kernel_rfl⟩
instance : TSize Tryz.prog 115 9 := ⟨Tryz.sizeOf115⟩
instance : TAgg Tryz.prog 115 true := ⟨Tryz.isAgg115⟩
def zc115 : Array Value :=  #[Go.Value.slice Option.none 0 0, Go.Value.slice Option.none 0 0, Go.Value.int Go.IntKind.i64 0, Go.Value.int Go.IntKind.i64 0, Go.Value.int Go.IntKind.i64 0, Go.Value.int Go.IntKind.i64 0, Go.Value.int Go.IntKind.i64 0, Go.Value.int Go.IntKind.i64 0, Go.Value.int Go.IntKind.i64 0]
theorem zc115_size : zc115.size = 9 := rfl
instance : TZero Tryz.prog 115 (.agg zc115) := ⟨Tryz.zeroValue115⟩
theorem row115 : (Tryz.prog.info? 115).map (fun i => (i.size, i.bytes)) = some (9, 104) := by kernel_rfl
instance : TFld Tryz.prog 115 0 0 66 4 := ⟨⟨_, _, Tryz.underlying115, rfl, rfl, rfl, Tryz.sizeOf66, by decide⟩⟩
instance : TFld Tryz.prog 115 1 4 68 5 := ⟨⟨_, _, Tryz.underlying115, rfl, rfl, rfl, Tryz.sizeOf68, by decide⟩⟩
instance : TBuild Tryz.prog 115 zc115 [(0, 4), (4, 5)] := ⟨fun _ => by kernel_rfl⟩
instance : TSize Tryz.prog 116 1 := ⟨Tryz.sizeOf116⟩
instance : TAgg Tryz.prog 116 false := ⟨Tryz.isAgg116⟩
instance : TZero Tryz.prog 116 (Go.Value.slice Option.none 0 0) := ⟨Tryz.zeroValue116⟩
theorem row116 : (Tryz.prog.info? 116).map (fun i => (i.size, i.bytes)) = some (1, 24) := by kernel_rfl
instance : TUnd Tryz.prog 116 (.slice 98) := ⟨Tryz.underlying116⟩
instance : TSize Tryz.prog 117 8 := ⟨Tryz.sizeOf117⟩
instance : TAgg Tryz.prog 117 true := ⟨Tryz.isAgg117⟩
def zc117 : Array Value :=  #[Go.Value.slice Option.none 0 0, Go.Value.slice Option.none 0 0, Go.Value.slice Option.none 0 0, Go.Value.slice Option.none 0 0, Go.Value.slice Option.none 0 0, Go.Value.slice Option.none 0 0, Go.Value.slice Option.none 0 0, Go.Value.slice Option.none 0 0]
theorem zc117_size : zc117.size = 8 := rfl
instance : TZero Tryz.prog 117 (.agg zc117) := ⟨Tryz.zeroValue117⟩
theorem row117 : (Tryz.prog.info? 117).map (fun i => (i.size, i.bytes)) = some (8, 192) := by kernel_rfl
instance : TUnd Tryz.prog 117 (.array 8 116) := ⟨Tryz.underlying117⟩
instance : TSize Tryz.prog 118 1 := ⟨Tryz.sizeOf118⟩
instance : TAgg Tryz.prog 118 false := ⟨Tryz.isAgg118⟩
instance : TZero Tryz.prog 118 (Go.Value.slice Option.none 0 0) := ⟨Tryz.zeroValue118⟩
theorem row118 : (Tryz.prog.info? 118).map (fun i => (i.size, i.bytes)) = some (1, 24) := by kernel_rfl
instance : TUnd Tryz.prog 118 (.slice 28) := ⟨Tryz.underlying118⟩
instance : TSize Tryz.prog 119 21 := ⟨Tryz.sizeOf119⟩
instance : TAgg Tryz.prog 119 true := ⟨Tryz.isAgg119⟩
def zc119 : Array Value :=  #[Go.Value.slice Option.none 0 0, Go.Value.slice Option.none 0 0, Go.Value.int Go.IntKind.i64 0, Go.Value.int Go.IntKind.i64 0, Go.Value.int Go.IntKind.i64 0, Go.Value.int Go.IntKind.i64 0, Go.Value.int Go.IntKind.i64 0, Go.Value.int Go.IntKind.i64 0, Go.Value.int Go.IntKind.i64 0, Go.Value.slice Option.none 0 0, Go.Value.slice Option.none 0 0, Go.Value.slice Option.none 0 0, Go.Value.slice Option.none 0 0, Go.Value.slice Option.none 0 0, Go.Value.slice Option.none 0 0, Go.Value.slice Option.none 0 0, Go.Value.slice Option.none 0 0, Go.Value.slice Option.none 0 0, Go.Value.slice Option.none 0 0, Go.Value.slice Option.none 0 0, Go.Value.slice Option.none 0 0]
theorem zc119_size : zc119.size = 21 := rfl
instance : TZero Tryz.prog 119 (.agg zc119) := ⟨Tryz.zeroValue119⟩
theorem row119 : (Tryz.prog.info? 119).map (fun i => (i.size, i.bytes)) = some (21, 392) := by kernel_rfl
instance : TFld Tryz.prog 119 0 0 115 9 := ⟨⟨_, _, Tryz.underlying119, rfl, rfl, rfl, Tryz.sizeOf115, by decide⟩⟩
instance : TFld Tryz.prog 119 1 9 28 1 := ⟨⟨_, _, Tryz.underlying119, rfl, rfl, rfl, Tryz.sizeOf28, by decide⟩⟩
instance : TFld Tryz.prog 119 2 10 117 8 := ⟨⟨_, _, Tryz.underlying119, rfl, rfl, rfl, Tryz.sizeOf117, by decide⟩⟩
instance : TFld Tryz.prog 119 3 18 32 1 := ⟨⟨_, _, Tryz.underlying119, rfl, rfl, rfl, Tryz.sizeOf32, by decide⟩⟩
instance : TFld Tryz.prog 119 4 19 61 1 := ⟨⟨_, _, Tryz.underlying119, rfl, rfl, rfl, Tryz.sizeOf61, by decide⟩⟩
instance : TFld Tryz.prog 119 5 20 118 1 := ⟨⟨_, _, Tryz.underlying119, rfl, rfl, rfl, Tryz.sizeOf118, by decide⟩⟩
instance : TBuild Tryz.prog 119 zc119 [(0, 9), (9, 1), (10, 8), (18, 1), (19, 1), (20, 1)] := ⟨fun _ => by kernel_rfl⟩
instance : TSize Tryz.prog 120 21 := ⟨Tryz.sizeOf120⟩
instance : TAgg Tryz.prog 120 true := ⟨Tryz.isAgg120⟩
def zc120 : Array Value :=  #[Go.Value.slice Option.none 0 0, Go.Value.slice Option.none 0 0, Go.Value.int Go.IntKind.i64 0, Go.Value.int Go.IntKind.i64 0, Go.Value.int Go.IntKind.i64 0, Go.Value.int Go.IntKind.i64 0, Go.Value.int Go.IntKind.i64 0, Go.Value.int Go.IntKind.i64 0, Go.Value.int Go.IntKind.i64 0, Go.Value.slice Option.none 0 0, Go.Value.slice Option.none 0 0, Go.Value.slice Option.none 0 0, Go.Value.slice Option.none 0 0, Go.Value.slice Option.none 0 0, Go.Value.slice Option.none 0 0, Go.Value.slice Option.none 0 0, Go.Value.slice Option.none 0 0, Go.Value.slice Option.none 0 0, Go.Value.slice Option.none 0 0, Go.Value.slice Option.none 0 0, Go.Value.slice Option.none 0 0]
theorem zc120_size : zc120.size = 21 := rfl
instance : TZero Tryz.prog 120 (.agg zc120) := ⟨Tryz.zeroValue120⟩
theorem row120 : (Tryz.prog.info? 120).map (fun i => (i.size, i.bytes)) = some (21, 392) := by kernel_rfl
instance : TFld Tryz.prog 120 0 0 115 9 := ⟨⟨_, _, Tryz.underlying120, rfl, rfl, rfl, Tryz.sizeOf115, by decide⟩⟩
instance : TFld Tryz.prog 120 1 9 28 1 := ⟨⟨_, _, Tryz.underlying120, rfl, rfl, rfl, Tryz.sizeOf28, by decide⟩⟩
instance : TFld Tryz.prog 120 2 10 117 8 := ⟨⟨_, _, Tryz.underlying120, rfl, rfl, rfl, Tryz.sizeOf117, by decide⟩⟩
instance : TFld Tryz.prog 120 3 18 32 1 := ⟨⟨_, _, Tryz.underlying120, rfl, rfl, rfl, Tryz.sizeOf32, by decide⟩⟩
instance : TFld Tryz.prog 120 4 19 61 1 := ⟨⟨_, _, Tryz.underlying120, rfl, rfl, rfl, Tryz.sizeOf61, by decide⟩⟩
instance : TFld Tryz.prog 120 5 20 118 1 := ⟨⟨_, _, Tryz.underlying120, rfl, rfl, rfl, Tryz.sizeOf118, by decide⟩⟩
instance : TBuild Tryz.prog 120 zc120 [(0, 9), (9, 1), (10, 8), (18, 1), (19, 1), (20, 1)] := ⟨fun _ => by kernel_rfl⟩
instance : TSize Tryz.prog 121 1 := ⟨Tryz.sizeOf121⟩
instance : TAgg Tryz.prog 121 false := ⟨Tryz.isAgg121⟩
instance : TZero Tryz.prog 121 (Go.Value.nilFunc) := ⟨Tryz.zeroValue121⟩
theorem row121 : (Tryz.prog.info? 121).map (fun i => (i.size, i.bytes)) = some (1, 8) := by kernel_rfl
instance : TSize Tryz.prog 122 1 := ⟨Tryz.sizeOf122⟩
instance : TAgg Tryz.prog 122 false := ⟨Tryz.isAgg122⟩
instance : TZero Tryz.prog 122 (Go.Value.nilFunc) := ⟨Tryz.zeroValue122⟩
theorem row122 : (Tryz.prog.info? 122).map (fun i => (i.size, i.bytes)) = some (1, 8) := by kernel_rfl
instance : TSize Tryz.prog 123 1 := ⟨Tryz.sizeOf123⟩
instance : TAgg Tryz.prog 123 false := ⟨Tryz.isAgg123⟩
instance : TZero Tryz.prog 123 (Go.Value.nilFunc) := ⟨Tryz.zeroValue123⟩
theorem row123 : (Tryz.prog.info? 123).map (fun i => (i.size, i.bytes)) = some (1, 8) := by kernel_rfl
instance : TSize Tryz.prog 124 1 := ⟨Tryz.sizeOf124⟩
instance : TAgg Tryz.prog 124 false := ⟨Tryz.isAgg124⟩
instance : TZero Tryz.prog 124 (Go.Value.tuple #[Go.Value.int Go.IntKind.i64 0, Go.Value.int Go.IntKind.i64 0]) := ⟨Tryz.zeroValue124⟩
theorem row124 : (Tryz.prog.info? 124).map (fun i => (i.size, i.bytes)) = some (1, 0) := by kernel_rfl
instance : TSize Tryz.prog 125 1 := ⟨Tryz.sizeOf125⟩
instance : TAgg Tryz.prog 125 false := ⟨Tryz.isAgg125⟩
instance : TZero Tryz.prog 125 (Go.Value.nilFunc) := ⟨Tryz.zeroValue125⟩
theorem row125 : (Tryz.prog.info? 125).map (fun i => (i.size, i.bytes)) = some (1, 8) := by kernel_rfl
instance : TSize Tryz.prog 126 1 := ⟨Tryz.sizeOf126⟩
instance : TAgg Tryz.prog 126 false := ⟨Tryz.isAgg126⟩
instance : TZero Tryz.prog 126 (Go.Value.nilFunc) := ⟨Tryz.zeroValue126⟩
theorem row126 : (Tryz.prog.info? 126).map (fun i => (i.size, i.bytes)) = some (1, 8) := by kernel_rfl
instance : TSize Tryz.prog 127 1 := ⟨Tryz.sizeOf127⟩
instance : TAgg Tryz.prog 127 false := ⟨Tryz.isAgg127⟩
instance : TZero Tryz.prog 127 (Go.Value.nilFunc) := ⟨Tryz.zeroValue127⟩
theorem row127 : (Tryz.prog.info? 127).map (fun i => (i.size, i.bytes)) = some (1, 8) := by kernel_rfl
instance : TSize Tryz.prog 128 1 := ⟨Tryz.sizeOf128⟩
instance : TAgg Tryz.prog 128 false := ⟨Tryz.isAgg128⟩
instance : TZero Tryz.prog 128 (Go.Value.nilFunc) := ⟨Tryz.zeroValue128⟩
theorem row128 : (Tryz.prog.info? 128).map (fun i => (i.size, i.bytes)) = some (1, 8) := by kernel_rfl
instance : TSize Tryz.prog 129 1 := ⟨Tryz.sizeOf129⟩
instance : TAgg Tryz.prog 129 false := ⟨Tryz.isAgg129⟩
instance : TZero Tryz.prog 129 (Go.Value.nilFunc) := ⟨Tryz.zeroValue129⟩
theorem row129 : (Tryz.prog.info? 129).map (fun i => (i.size, i.bytes)) = some (1, 8) := by kernel_rfl
instance : TSize Tryz.prog 130 19 := ⟨Tryz.sizeOf130⟩
instance : TAgg Tryz.prog 130 true := ⟨Tryz.isAgg130⟩
def zc130 : Array Value :=  #[Go.Value.slice Option.none 0 0, Go.Value.slice Option.none 0 0, Go.Value.int Go.IntKind.i64 0, Go.Value.int Go.IntKind.i64 0, Go.Value.int Go.IntKind.i64 0, Go.Value.int Go.IntKind.i64 0, Go.Value.int Go.IntKind.i64 0, Go.Value.int Go.IntKind.i64 0, Go.Value.int Go.IntKind.i64 0, Go.Value.slice Option.none 0 0, Go.Value.int Go.IntKind.i64 0, Go.Value.slice Option.none 0 0, Go.Value.slice Option.none 0 0, Go.Value.slice Option.none 0 0, Go.Value.slice Option.none 0 0, Go.Value.slice Option.none 0 0, Go.Value.slice Option.none 0 0, Go.Value.slice Option.none 0 0, Go.Value.slice Option.none 0 0]
theorem zc130_size : zc130.size = 19 := rfl
instance : TZero Tryz.prog 130 (.agg zc130) := ⟨Tryz.zeroValue130⟩
theorem row130 : (Tryz.prog.info? 130).map (fun i => (i.size, i.bytes)) = some (19, 328) := by kernel_rfl
instance : TFld Tryz.prog 130 0 0 66 4 := ⟨⟨_, _, Tryz.underlying130, rfl, rfl, rfl, Tryz.sizeOf66, by decide⟩⟩
instance : TFld Tryz.prog 130 1 4 68 5 := ⟨⟨_, _, Tryz.underlying130, rfl, rfl, rfl, Tryz.sizeOf68, by decide⟩⟩
instance : TFld Tryz.prog 130 2 9 28 1 := ⟨⟨_, _, Tryz.underlying130, rfl, rfl, rfl, Tryz.sizeOf28, by decide⟩⟩
instance : TFld Tryz.prog 130 3 10 3 1 := ⟨⟨_, _, Tryz.underlying130, rfl, rfl, rfl, Tryz.sizeOf3, by decide⟩⟩
instance : TFld Tryz.prog 130 4 11 117 8 := ⟨⟨_, _, Tryz.underlying130, rfl, rfl, rfl, Tryz.sizeOf117, by decide⟩⟩
instance : TBuild Tryz.prog 130 zc130 [(0, 4), (4, 5), (9, 1), (10, 1), (11, 8)] := ⟨fun _ => by kernel_rfl⟩
instance : TSize Tryz.prog 131 19 := ⟨Tryz.sizeOf131⟩
instance : TAgg Tryz.prog 131 true := ⟨Tryz.isAgg131⟩
def zc131 : Array Value :=  #[Go.Value.slice Option.none 0 0, Go.Value.slice Option.none 0 0, Go.Value.int Go.IntKind.i64 0, Go.Value.int Go.IntKind.i64 0, Go.Value.int Go.IntKind.i64 0, Go.Value.int Go.IntKind.i64 0, Go.Value.int Go.IntKind.i64 0, Go.Value.int Go.IntKind.i64 0, Go.Value.int Go.IntKind.i64 0, Go.Value.slice Option.none 0 0, Go.Value.int Go.IntKind.i64 0, Go.Value.slice Option.none 0 0, Go.Value.slice Option.none 0 0, Go.Value.slice Option.none 0 0, Go.Value.slice Option.none 0 0, Go.Value.slice Option.none 0 0, Go.Value.slice Option.none 0 0, Go.Value.slice Option.none 0 0, Go.Value.slice Option.none 0 0]
theorem zc131_size : zc131.size = 19 := rfl
instance : TZero Tryz.prog 131 (.agg zc131) := ⟨Tryz.zeroValue131⟩
theorem row131 : (Tryz.prog.info? 131).map (fun i => (i.size, i.bytes)) = some (19, 328) := by kernel_rfl
instance : TFld Tryz.prog 131 0 0 66 4 := ⟨⟨_, _, Tryz.underlying131, rfl, rfl, rfl, Tryz.sizeOf66, by decide⟩⟩
instance : TFld Tryz.prog 131 1 4 68 5 := ⟨⟨_, _, Tryz.underlying131, rfl, rfl, rfl, Tryz.sizeOf68, by decide⟩⟩
instance : TFld Tryz.prog 131 2 9 28 1 := ⟨⟨_, _, Tryz.underlying131, rfl, rfl, rfl, Tryz.sizeOf28, by decide⟩⟩
instance : TFld Tryz.prog 131 3 10 3 1 := ⟨⟨_, _, Tryz.underlying131, rfl, rfl, rfl, Tryz.sizeOf3, by decide⟩⟩
instance : TFld Tryz.prog 131 4 11 117 8 := ⟨⟨_, _, Tryz.underlying131, rfl, rfl, rfl, Tryz.sizeOf117, by decide⟩⟩
instance : TBuild Tryz.prog 131 zc131 [(0, 4), (4, 5), (9, 1), (10, 1), (11, 8)] := ⟨fun _ => by kernel_rfl⟩
instance : TSize Tryz.prog 132 1 := ⟨Tryz.sizeOf132⟩
instance : TAgg Tryz.prog 132 false := ⟨Tryz.isAgg132⟩
instance : TZero Tryz.prog 132 (Go.Value.nilFunc) := ⟨Tryz.zeroValue132⟩
theorem row132 : (Tryz.prog.info? 132).map (fun i => (i.size, i.bytes)) = some (1, 8) := by kernel_rfl
instance : TSize Tryz.prog 133 1 := ⟨Tryz.sizeOf133⟩
instance : TAgg Tryz.prog 133 false := ⟨Tryz.isAgg133⟩
instance : TZero Tryz.prog 133 (Go.Value.nilFunc) := ⟨Tryz.zeroValue133⟩
theorem row133 : (Tryz.prog.info? 133).map (fun i => (i.size, i.bytes)) = some (1, 8) := by kernel_rfl
instance : TSize Tryz.prog 134 1 := ⟨Tryz.sizeOf134⟩
instance : TAgg Tryz.prog 134 false := ⟨Tryz.isAgg134⟩
instance : TZero Tryz.prog 134 (Go.Value.nilFunc) := ⟨Tryz.zeroValue134⟩
theorem row134 : (Tryz.prog.info? 134).map (fun i => (i.size, i.bytes)) = some (1, 8) := by kernel_rfl
instance : TSize Tryz.prog 135 1 := ⟨Tryz.sizeOf135⟩
instance : TAgg Tryz.prog 135 false := ⟨Tryz.isAgg135⟩
instance : TZero Tryz.prog 135 (Go.Value.nilFunc) := ⟨Tryz.zeroValue135⟩
theorem row135 : (Tryz.prog.info? 135).map (fun i => (i.size, i.bytes)) = some (1, 8) := by kernel_rfl
instance : TSize Tryz.prog 136 1 := ⟨Tryz.sizeOf136⟩
instance : TAgg Tryz.prog 136 false := ⟨Tryz.isAgg136⟩
instance : TZero Tryz.prog 136 (Go.Value.nilFunc) := ⟨Tryz.zeroValue136⟩
theorem row136 : (Tryz.prog.info? 136).map (fun i => (i.size, i.bytes)) = some (1, 8) := by kernel_rfl
instance : TSize Tryz.prog 137 1 := ⟨Tryz.sizeOf137⟩
instance : TAgg Tryz.prog 137 false := ⟨Tryz.isAgg137⟩
instance : TZero Tryz.prog 137 (Go.Value.nilFunc) := ⟨Tryz.zeroValue137⟩
theorem row137 : (Tryz.prog.info? 137).map (fun i => (i.size, i.bytes)) = some (1, 8) := by kernel_rfl
instance : TSize Tryz.prog 138 1 := ⟨Tryz.sizeOf138⟩
instance : TAgg Tryz.prog 138 false := ⟨Tryz.isAgg138⟩
instance : TZero Tryz.prog 138 (Go.Value.nilFunc) := ⟨Tryz.zeroValue138⟩
theorem row138 : (Tryz.prog.info? 138).map (fun i => (i.size, i.bytes)) = some (1, 8) := by kernel_rfl
instance : TSize Tryz.prog 139 1 := ⟨Tryz.sizeOf139⟩
instance : TAgg Tryz.prog 139 false := ⟨Tryz.isAgg139⟩
instance : TZero Tryz.prog 139 (Go.Value.nilFunc) := ⟨Tryz.zeroValue139⟩
theorem row139 : (Tryz.prog.info? 139).map (fun i => (i.size, i.bytes)) = some (1, 8) := by kernel_rfl
instance : TSize Tryz.prog 140 1 := ⟨Tryz.sizeOf140⟩
instance : TAgg Tryz.prog 140 false := ⟨Tryz.isAgg140⟩
instance : TZero Tryz.prog 140 (Go.Value.nilFunc) := ⟨Tryz.zeroValue140⟩
theorem row140 : (Tryz.prog.info? 140).map (fun i => (i.size, i.bytes)) = some (1, 8) := by kernel_rfl
instance : TSize Tryz.prog 141 1 := ⟨Tryz.sizeOf141⟩
instance : TAgg Tryz.prog 141 false := ⟨Tryz.isAgg141⟩
instance : TZero Tryz.prog 141 (Go.Value.pointer Option.none) := ⟨Tryz.zeroValue141⟩
theorem row141 : (Tryz.prog.info? 141).map (fun i => (i.size, i.bytes)) = some (1, 8) := by kernel_rfl
instance : TUnd Tryz.prog 141 (.pointer 29) := ⟨Tryz.underlying141⟩
instance : TSize Tryz.prog 142 1 := ⟨Tryz.sizeOf142⟩
instance : TAgg Tryz.prog 142 false := ⟨Tryz.isAgg142⟩
instance : TZero Tryz.prog 142 (Go.Value.nilFunc) := ⟨Tryz.zeroValue142⟩
theorem row142 : (Tryz.prog.info? 142).map (fun i => (i.size, i.bytes)) = some (1, 8) := by kernel_rfl
instance : TSize Tryz.prog 143 1 := ⟨Tryz.sizeOf143⟩
instance : TAgg Tryz.prog 143 false := ⟨Tryz.isAgg143⟩
instance : TZero Tryz.prog 143 (Go.Value.nilFunc) := ⟨Tryz.zeroValue143⟩
theorem row143 : (Tryz.prog.info? 143).map (fun i => (i.size, i.bytes)) = some (1, 8) := by kernel_rfl
instance : TSize Tryz.prog 144 1 := ⟨Tryz.sizeOf144⟩
instance : TAgg Tryz.prog 144 false := ⟨Tryz.isAgg144⟩
instance : TZero Tryz.prog 144 (Go.Value.nilFunc) := ⟨Tryz.zeroValue144⟩
theorem row144 : (Tryz.prog.info? 144).map (fun i => (i.size, i.bytes)) = some (1, 8) := by kernel_rfl
instance : TSize Tryz.prog 145 4 := ⟨Tryz.sizeOf145⟩
instance : TAgg Tryz.prog 145 true := ⟨Tryz.isAgg145⟩
def zc145 : Array Value :=  #[Go.Value.nilFunc, Go.Value.nilFunc, Go.Value.nilFunc, Go.Value.nilFunc]
theorem zc145_size : zc145.size = 4 := rfl
instance : TZero Tryz.prog 145 (.agg zc145) := ⟨Tryz.zeroValue145⟩
theorem row145 : (Tryz.prog.info? 145).map (fun i => (i.size, i.bytes)) = some (4, 32) := by kernel_rfl
instance : TUnd Tryz.prog 145 (.array 4 144) := ⟨Tryz.underlying145⟩
instance : TSize Tryz.prog 146 1 := ⟨Tryz.sizeOf146⟩
instance : TAgg Tryz.prog 146 false := ⟨Tryz.isAgg146⟩
instance : TZero Tryz.prog 146 (Go.Value.nilFunc) := ⟨Tryz.zeroValue146⟩
theorem row146 : (Tryz.prog.info? 146).map (fun i => (i.size, i.bytes)) = some (1, 8) := by kernel_rfl
instance : TSize Tryz.prog 147 1 := ⟨Tryz.sizeOf147⟩
instance : TAgg Tryz.prog 147 false := ⟨Tryz.isAgg147⟩
instance : TZero Tryz.prog 147 (Go.Value.nilFunc) := ⟨Tryz.zeroValue147⟩
theorem row147 : (Tryz.prog.info? 147).map (fun i => (i.size, i.bytes)) = some (1, 8) := by kernel_rfl
instance : TSize Tryz.prog 148 1 := ⟨Tryz.sizeOf148⟩
instance : TAgg Tryz.prog 148 false := ⟨Tryz.isAgg148⟩
instance : TZero Tryz.prog 148 (Go.Value.nilFunc) := ⟨Tryz.zeroValue148⟩
theorem row148 : (Tryz.prog.info? 148).map (fun i => (i.size, i.bytes)) = some (1, 8) := by kernel_rfl
instance : TSize Tryz.prog 149 1 := ⟨Tryz.sizeOf149⟩
instance : TAgg Tryz.prog 149 false := ⟨Tryz.isAgg149⟩
instance : TZero Tryz.prog 149 (Go.Value.int Go.IntKind.u64 0) := ⟨Tryz.zeroValue149⟩
theorem row149 : (Tryz.prog.info? 149).map (fun i => (i.size, i.bytes)) = some (1, 8) := by kernel_rfl
instance : TUnd Tryz.prog 149 (.int Go.IntKind.u64) := ⟨Tryz.underlying149⟩
instance : TSize Tryz.prog 150 1 := ⟨Tryz.sizeOf150⟩
instance : TAgg Tryz.prog 150 false := ⟨Tryz.isAgg150⟩
instance : TZero Tryz.prog 150 (Go.Value.nilFunc) := ⟨Tryz.zeroValue150⟩
theorem row150 : (Tryz.prog.info? 150).map (fun i => (i.size, i.bytes)) = some (1, 8) := by kernel_rfl
instance : TSize Tryz.prog 151 1 := ⟨Tryz.sizeOf151⟩
instance : TAgg Tryz.prog 151 false := ⟨Tryz.isAgg151⟩
instance : TZero Tryz.prog 151 (Go.Value.nilFunc) := ⟨Tryz.zeroValue151⟩
theorem row151 : (Tryz.prog.info? 151).map (fun i => (i.size, i.bytes)) = some (1, 8) := by kernel_rfl
instance : TSize Tryz.prog 152 1 := ⟨Tryz.sizeOf152⟩
instance : TAgg Tryz.prog 152 false := ⟨Tryz.isAgg152⟩
instance : TZero Tryz.prog 152 (Go.Value.nilFunc) := ⟨Tryz.zeroValue152⟩
theorem row152 : (Tryz.prog.info? 152).map (fun i => (i.size, i.bytes)) = some (1, 8) := by kernel_rfl
instance : TSize Tryz.prog 153 1 := ⟨Tryz.sizeOf153⟩
instance : TAgg Tryz.prog 153 false := ⟨Tryz.isAgg153⟩
instance : TZero Tryz.prog 153 (Go.Value.nilFunc) := ⟨Tryz.zeroValue153⟩
theorem row153 : (Tryz.prog.info? 153).map (fun i => (i.size, i.bytes)) = some (1, 8) := by kernel_rfl
instance : TSize Tryz.prog 154 1 := ⟨Tryz.sizeOf154⟩
instance : TAgg Tryz.prog 154 false := ⟨Tryz.isAgg154⟩
instance : TZero Tryz.prog 154 (Go.Value.nilFunc) := ⟨Tryz.zeroValue154⟩
theorem row154 : (Tryz.prog.info? 154).map (fun i => (i.size, i.bytes)) = some (1, 8) := by kernel_rfl
instance : TSize Tryz.prog 155 2 := ⟨Tryz.sizeOf155⟩
instance : TAgg Tryz.prog 155 true := ⟨Tryz.isAgg155⟩
def zc155 : Array Value :=  #[Go.Value.int Go.IntKind.i64 0, Go.Value.int Go.IntKind.i64 0]
theorem zc155_size : zc155.size = 2 := rfl
instance : TZero Tryz.prog 155 (.agg zc155) := ⟨Tryz.zeroValue155⟩
theorem row155 : (Tryz.prog.info? 155).map (fun i => (i.size, i.bytes)) = some (2, 16) := by kernel_rfl
instance : TFld Tryz.prog 155 0 0 3 1 := ⟨⟨_, _, Tryz.underlying155, rfl, rfl, rfl, Tryz.sizeOf3, by decide⟩⟩
instance : TFld Tryz.prog 155 1 1 3 1 := ⟨⟨_, _, Tryz.underlying155, rfl, rfl, rfl, Tryz.sizeOf3, by decide⟩⟩
instance : TBuild Tryz.prog 155 zc155 [(0, 1), (1, 1)] := ⟨fun _ => by kernel_rfl⟩
instance : TSize Tryz.prog 156 2 := ⟨Tryz.sizeOf156⟩
instance : TAgg Tryz.prog 156 true := ⟨Tryz.isAgg156⟩
def zc156 : Array Value :=  #[Go.Value.int Go.IntKind.i64 0, Go.Value.int Go.IntKind.i64 0]
theorem zc156_size : zc156.size = 2 := rfl
instance : TZero Tryz.prog 156 (.agg zc156) := ⟨Tryz.zeroValue156⟩
theorem row156 : (Tryz.prog.info? 156).map (fun i => (i.size, i.bytes)) = some (2, 16) := by kernel_rfl
instance : TFld Tryz.prog 156 0 0 3 1 := ⟨⟨_, _, Tryz.underlying156, rfl, rfl, rfl, Tryz.sizeOf3, by decide⟩⟩
instance : TFld Tryz.prog 156 1 1 3 1 := ⟨⟨_, _, Tryz.underlying156, rfl, rfl, rfl, Tryz.sizeOf3, by decide⟩⟩
instance : TBuild Tryz.prog 156 zc156 [(0, 1), (1, 1)] := ⟨fun _ => by kernel_rfl⟩
instance : TSize Tryz.prog 157 1 := ⟨Tryz.sizeOf157⟩
instance : TAgg Tryz.prog 157 false := ⟨Tryz.isAgg157⟩
instance : TZero Tryz.prog 157 (Go.Value.nilFunc) := ⟨Tryz.zeroValue157⟩
theorem row157 : (Tryz.prog.info? 157).map (fun i => (i.size, i.bytes)) = some (1, 8) := by kernel_rfl
instance : TSize Tryz.prog 158 1 := ⟨Tryz.sizeOf158⟩
instance : TAgg Tryz.prog 158 false := ⟨Tryz.isAgg158⟩
instance : TZero Tryz.prog 158 (Go.Value.nilFunc) := ⟨Tryz.zeroValue158⟩
theorem row158 : (Tryz.prog.info? 158).map (fun i => (i.size, i.bytes)) = some (1, 8) := by kernel_rfl
instance : TSize Tryz.prog 159 1 := ⟨Tryz.sizeOf159⟩
instance : TAgg Tryz.prog 159 false := ⟨Tryz.isAgg159⟩
instance : TZero Tryz.prog 159 (Go.Value.nilFunc) := ⟨Tryz.zeroValue159⟩
theorem row159 : (Tryz.prog.info? 159).map (fun i => (i.size, i.bytes)) = some (1, 8) := by kernel_rfl
instance : TSize Tryz.prog 160 1 := ⟨Tryz.sizeOf160⟩
instance : TAgg Tryz.prog 160 false := ⟨Tryz.isAgg160⟩
instance : TZero Tryz.prog 160 (Go.Value.nilFunc) := ⟨Tryz.zeroValue160⟩
theorem row160 : (Tryz.prog.info? 160).map (fun i => (i.size, i.bytes)) = some (1, 8) := by kernel_rfl
instance : TSize Tryz.prog 161 3 := ⟨Tryz.sizeOf161⟩
instance : TAgg Tryz.prog 161 true := ⟨Tryz.isAgg161⟩
def zc161 : Array Value :=  #[Go.Value.int Go.IntKind.i64 0, Go.Value.int Go.IntKind.i64 0, Go.Value.int Go.IntKind.i64 0]
theorem zc161_size : zc161.size = 3 := rfl
instance : TZero Tryz.prog 161 (.agg zc161) := ⟨Tryz.zeroValue161⟩
theorem row161 : (Tryz.prog.info? 161).map (fun i => (i.size, i.bytes)) = some (3, 24) := by kernel_rfl
instance : TUnd Tryz.prog 161 (.array 3 3) := ⟨Tryz.underlying161⟩
instance : TSize Tryz.prog 162 1 := ⟨Tryz.sizeOf162⟩
instance : TAgg Tryz.prog 162 false := ⟨Tryz.isAgg162⟩
instance : TZero Tryz.prog 162 (Go.Value.nilFunc) := ⟨Tryz.zeroValue162⟩
theorem row162 : (Tryz.prog.info? 162).map (fun i => (i.size, i.bytes)) = some (1, 8) := by kernel_rfl
instance : TSize Tryz.prog 163 1 := ⟨Tryz.sizeOf163⟩
instance : TAgg Tryz.prog 163 false := ⟨Tryz.isAgg163⟩
instance : TZero Tryz.prog 163 (Go.Value.nilFunc) := ⟨Tryz.zeroValue163⟩
theorem row163 : (Tryz.prog.info? 163).map (fun i => (i.size, i.bytes)) = some (1, 8) := by kernel_rfl
instance : TSize Tryz.prog 164 1 := ⟨Tryz.sizeOf164⟩
instance : TAgg Tryz.prog 164 false := ⟨Tryz.isAgg164⟩
instance : TZero Tryz.prog 164 (Go.Value.nilFunc) := ⟨Tryz.zeroValue164⟩
theorem row164 : (Tryz.prog.info? 164).map (fun i => (i.size, i.bytes)) = some (1, 8) := by kernel_rfl
instance : TSize Tryz.prog 165 1 := ⟨Tryz.sizeOf165⟩
instance : TAgg Tryz.prog 165 false := ⟨Tryz.isAgg165⟩
instance : TZero Tryz.prog 165 (Go.Value.slice Option.none 0 0) := ⟨Tryz.zeroValue165⟩
theorem row165 : (Tryz.prog.info? 165).map (fun i => (i.size, i.bytes)) = some (1, 24) := by kernel_rfl
instance : TUnd Tryz.prog 165 (.slice 169) := ⟨Tryz.underlying165⟩
instance : TSize Tryz.prog 166 1 := ⟨Tryz.sizeOf166⟩
instance : TAgg Tryz.prog 166 false := ⟨Tryz.isAgg166⟩
instance : TZero Tryz.prog 166 (Go.Value.nilFunc) := ⟨Tryz.zeroValue166⟩
theorem row166 : (Tryz.prog.info? 166).map (fun i => (i.size, i.bytes)) = some (1, 8) := by kernel_rfl
instance : TSize Tryz.prog 167 1 := ⟨Tryz.sizeOf167⟩
instance : TAgg Tryz.prog 167 false := ⟨Tryz.isAgg167⟩
instance : TZero Tryz.prog 167 (Go.Value.nilFunc) := ⟨Tryz.zeroValue167⟩
theorem row167 : (Tryz.prog.info? 167).map (fun i => (i.size, i.bytes)) = some (1, 8) := by kernel_rfl
instance : TSize Tryz.prog 168 6 := ⟨Tryz.sizeOf168⟩
instance : TAgg Tryz.prog 168 true := ⟨Tryz.isAgg168⟩
def zc168 : Array Value :=  #[Go.Value.int Go.IntKind.i64 0, Go.Value.int Go.IntKind.i64 0, Go.Value.int Go.IntKind.i64 0, Go.Value.int Go.IntKind.i64 0, Go.Value.int Go.IntKind.i64 0, Go.Value.bool Bool.false]
theorem zc168_size : zc168.size = 6 := rfl
instance : TZero Tryz.prog 168 (.agg zc168) := ⟨Tryz.zeroValue168⟩
theorem row168 : (Tryz.prog.info? 168).map (fun i => (i.size, i.bytes)) = some (6, 48) := by kernel_rfl
instance : TFld Tryz.prog 168 0 0 34 4 := ⟨⟨_, _, Tryz.underlying168, rfl, rfl, rfl, Tryz.sizeOf34, by decide⟩⟩
instance : TFld Tryz.prog 168 1 4 3 1 := ⟨⟨_, _, Tryz.underlying168, rfl, rfl, rfl, Tryz.sizeOf3, by decide⟩⟩
instance : TFld Tryz.prog 168 2 5 4 1 := ⟨⟨_, _, Tryz.underlying168, rfl, rfl, rfl, Tryz.sizeOf4, by decide⟩⟩
instance : TBuild Tryz.prog 168 zc168 [(0, 4), (4, 1), (5, 1)] := ⟨fun _ => by kernel_rfl⟩
instance : TSize Tryz.prog 169 6 := ⟨Tryz.sizeOf169⟩
instance : TAgg Tryz.prog 169 true := ⟨Tryz.isAgg169⟩
def zc169 : Array Value :=  #[Go.Value.int Go.IntKind.i64 0, Go.Value.int Go.IntKind.i64 0, Go.Value.int Go.IntKind.i64 0, Go.Value.int Go.IntKind.i64 0, Go.Value.int Go.IntKind.i64 0, Go.Value.bool Bool.false]
theorem zc169_size : zc169.size = 6 := rfl
instance : TZero Tryz.prog 169 (.agg zc169) := ⟨Tryz.zeroValue169⟩
theorem row169 : (Tryz.prog.info? 169).map (fun i => (i.size, i.bytes)) = some (6, 48) := by kernel_rfl
instance : TFld Tryz.prog 169 0 0 34 4 := ⟨⟨_, _, Tryz.underlying169, rfl, rfl, rfl, Tryz.sizeOf34, by decide⟩⟩
instance : TFld Tryz.prog 169 1 4 3 1 := ⟨⟨_, _, Tryz.underlying169, rfl, rfl, rfl, Tryz.sizeOf3, by decide⟩⟩
instance : TFld Tryz.prog 169 2 5 4 1 := ⟨⟨_, _, Tryz.underlying169, rfl, rfl, rfl, Tryz.sizeOf4, by decide⟩⟩
instance : TBuild Tryz.prog 169 zc169 [(0, 4), (4, 1), (5, 1)] := ⟨fun _ => by kernel_rfl⟩
instance : TSize Tryz.prog 170 1 := ⟨Tryz.sizeOf170⟩
instance : TAgg Tryz.prog 170 false := ⟨Tryz.isAgg170⟩
instance : TZero Tryz.prog 170 (Go.Value.nilFunc) := ⟨Tryz.zeroValue170⟩
theorem row170 : (Tryz.prog.info? 170).map (fun i => (i.size, i.bytes)) = some (1, 8) := by kernel_rfl
instance : TSize Tryz.prog 171 1 := ⟨Tryz.sizeOf171⟩
instance : TAgg Tryz.prog 171 false := ⟨Tryz.isAgg171⟩
instance : TZero Tryz.prog 171 (Go.Value.nilFunc) := ⟨Tryz.zeroValue171⟩
theorem row171 : (Tryz.prog.info? 171).map (fun i => (i.size, i.bytes)) = some (1, 8) := by kernel_rfl
instance : TSize Tryz.prog 172 1 := ⟨Tryz.sizeOf172⟩
instance : TAgg Tryz.prog 172 false := ⟨Tryz.isAgg172⟩
instance : TZero Tryz.prog 172 (Go.Value.nilFunc) := ⟨Tryz.zeroValue172⟩
theorem row172 : (Tryz.prog.info? 172).map (fun i => (i.size, i.bytes)) = some (1, 8) := by kernel_rfl
instance : TSize Tryz.prog 173 1 := ⟨Tryz.sizeOf173⟩
instance : TAgg Tryz.prog 173 true := ⟨Tryz.isAgg173⟩
def zc173 : Array Value :=  #[Go.Value.int Go.IntKind.i64 0]
theorem zc173_size : zc173.size = 1 := rfl
instance : TZero Tryz.prog 173 (.agg zc173) := ⟨Tryz.zeroValue173⟩
theorem row173 : (Tryz.prog.info? 173).map (fun i => (i.size, i.bytes)) = some (1, 8) := by kernel_rfl
instance : TFld Tryz.prog 173 0 0 29 1 := ⟨⟨_, _, Tryz.underlying173, rfl, rfl, rfl, Tryz.sizeOf29, by decide⟩⟩
instance : TBuild Tryz.prog 173 zc173 [(0, 1)] := ⟨fun _ => by kernel_rfl⟩
instance : TSize Tryz.prog 174 1 := ⟨Tryz.sizeOf174⟩
instance : TAgg Tryz.prog 174 true := ⟨Tryz.isAgg174⟩
def zc174 : Array Value :=  #[Go.Value.int Go.IntKind.i64 0]
theorem zc174_size : zc174.size = 1 := rfl
instance : TZero Tryz.prog 174 (.agg zc174) := ⟨Tryz.zeroValue174⟩
theorem row174 : (Tryz.prog.info? 174).map (fun i => (i.size, i.bytes)) = some (1, 8) := by kernel_rfl
instance : TFld Tryz.prog 174 0 0 29 1 := ⟨⟨_, _, Tryz.underlying174, rfl, rfl, rfl, Tryz.sizeOf29, by decide⟩⟩
instance : TBuild Tryz.prog 174 zc174 [(0, 1)] := ⟨fun _ => by kernel_rfl⟩
instance : TSize Tryz.prog 175 1 := ⟨Tryz.sizeOf175⟩
instance : TAgg Tryz.prog 175 false := ⟨Tryz.isAgg175⟩
instance : TZero Tryz.prog 175 (Go.Value.nilFunc) := ⟨Tryz.zeroValue175⟩
theorem row175 : (Tryz.prog.info? 175).map (fun i => (i.size, i.bytes)) = some (1, 8) := by kernel_rfl
instance : TSize Tryz.prog 176 1 := ⟨Tryz.sizeOf176⟩
instance : TAgg Tryz.prog 176 false := ⟨Tryz.isAgg176⟩
instance : TZero Tryz.prog 176 (Go.Value.int Go.IntKind.i64 0) := ⟨Tryz.zeroValue176⟩
theorem row176 : (Tryz.prog.info? 176).map (fun i => (i.size, i.bytes)) = some (1, 8) := by kernel_rfl
instance : TUnd Tryz.prog 176 (.int Go.IntKind.i64) := ⟨Tryz.underlying176⟩
instance : TSize Tryz.prog 177 1 := ⟨Tryz.sizeOf177⟩
instance : TAgg Tryz.prog 177 false := ⟨Tryz.isAgg177⟩
instance : TZero Tryz.prog 177 (Go.Value.tuple #[Go.Value.int Go.IntKind.i64 0, Go.Value.int Go.IntKind.i64 0]) := ⟨Tryz.zeroValue177⟩
theorem row177 : (Tryz.prog.info? 177).map (fun i => (i.size, i.bytes)) = some (1, 0) := by kernel_rfl
instance : TSize Tryz.prog 178 1 := ⟨Tryz.sizeOf178⟩
instance : TAgg Tryz.prog 178 false := ⟨Tryz.isAgg178⟩
instance : TZero Tryz.prog 178 (Go.Value.nilFunc) := ⟨Tryz.zeroValue178⟩
theorem row178 : (Tryz.prog.info? 178).map (fun i => (i.size, i.bytes)) = some (1, 8) := by kernel_rfl
instance : TSize Tryz.prog 179 1 := ⟨Tryz.sizeOf179⟩
instance : TAgg Tryz.prog 179 false := ⟨Tryz.isAgg179⟩
instance : TZero Tryz.prog 179 (Go.Value.nilFunc) := ⟨Tryz.zeroValue179⟩
theorem row179 : (Tryz.prog.info? 179).map (fun i => (i.size, i.bytes)) = some (1, 8) := by kernel_rfl
instance : TSize Tryz.prog 180 1 := ⟨Tryz.sizeOf180⟩
instance : TAgg Tryz.prog 180 false := ⟨Tryz.isAgg180⟩
instance : TZero Tryz.prog 180 (Go.Value.nilFunc) := ⟨Tryz.zeroValue180⟩
theorem row180 : (Tryz.prog.info? 180).map (fun i => (i.size, i.bytes)) = some (1, 8) := by kernel_rfl
instance : TSize Tryz.prog 181 1 := ⟨Tryz.sizeOf181⟩
instance : TAgg Tryz.prog 181 false := ⟨Tryz.isAgg181⟩
instance : TZero Tryz.prog 181 (Go.Value.tuple #[Go.Value.int Go.IntKind.i64 0, Go.Value.bool Bool.false]) := ⟨Tryz.zeroValue181⟩
theorem row181 : (Tryz.prog.info? 181).map (fun i => (i.size, i.bytes)) = some (1, 0) := by kernel_rfl
instance : TSize Tryz.prog 182 1 := ⟨Tryz.sizeOf182⟩
instance : TAgg Tryz.prog 182 false := ⟨Tryz.isAgg182⟩
instance : TZero Tryz.prog 182 (Go.Value.nilFunc) := ⟨Tryz.zeroValue182⟩
theorem row182 : (Tryz.prog.info? 182).map (fun i => (i.size, i.bytes)) = some (1, 8) := by kernel_rfl
instance : TSize Tryz.prog 183 1 := ⟨Tryz.sizeOf183⟩
instance : TAgg Tryz.prog 183 false := ⟨Tryz.isAgg183⟩
instance : TZero Tryz.prog 183 (Go.Value.nilFunc) := ⟨Tryz.zeroValue183⟩
theorem row183 : (Tryz.prog.info? 183).map (fun i => (i.size, i.bytes)) = some (1, 8) := by kernel_rfl
instance : TSize Tryz.prog 184 1 := ⟨Tryz.sizeOf184⟩
instance : TAgg Tryz.prog 184 false := ⟨Tryz.isAgg184⟩
instance : TZero Tryz.prog 184 (Go.Value.int Go.IntKind.u32 0) := ⟨Tryz.zeroValue184⟩
theorem row184 : (Tryz.prog.info? 184).map (fun i => (i.size, i.bytes)) = some (1, 4) := by kernel_rfl
instance : TUnd Tryz.prog 184 (.int Go.IntKind.u32) := ⟨Tryz.underlying184⟩
instance : TSize Tryz.prog 185 1 := ⟨Tryz.sizeOf185⟩
instance : TAgg Tryz.prog 185 false := ⟨Tryz.isAgg185⟩
instance : TZero Tryz.prog 185 (Go.Value.nilFunc) := ⟨Tryz.zeroValue185⟩
theorem row185 : (Tryz.prog.info? 185).map (fun i => (i.size, i.bytes)) = some (1, 8) := by kernel_rfl
instance : TSize Tryz.prog 186 1 := ⟨Tryz.sizeOf186⟩
instance : TAgg Tryz.prog 186 false := ⟨Tryz.isAgg186⟩
instance : TZero Tryz.prog 186 (Go.Value.int Go.IntKind.u64 0) := ⟨Tryz.zeroValue186⟩
theorem row186 : (Tryz.prog.info? 186).map (fun i => (i.size, i.bytes)) = some (1, 8) := by kernel_rfl
instance : TUnd Tryz.prog 186 (.int Go.IntKind.u64) := ⟨Tryz.underlying186⟩
instance : TSize Tryz.prog 187 1 := ⟨Tryz.sizeOf187⟩
instance : TAgg Tryz.prog 187 false := ⟨Tryz.isAgg187⟩
instance : TZero Tryz.prog 187 (Go.Value.nilFunc) := ⟨Tryz.zeroValue187⟩
theorem row187 : (Tryz.prog.info? 187).map (fun i => (i.size, i.bytes)) = some (1, 8) := by kernel_rfl
instance : TSize Tryz.prog 188 1 := ⟨Tryz.sizeOf188⟩
instance : TAgg Tryz.prog 188 false := ⟨Tryz.isAgg188⟩
instance : TZero Tryz.prog 188 (Go.Value.nilFunc) := ⟨Tryz.zeroValue188⟩
theorem row188 : (Tryz.prog.info? 188).map (fun i => (i.size, i.bytes)) = some (1, 8) := by kernel_rfl
instance : TSize Tryz.prog 189 3 := ⟨Tryz.sizeOf189⟩
instance : TAgg Tryz.prog 189 true := ⟨Tryz.isAgg189⟩
def zc189 : Array Value :=  #[Go.Value.int Go.IntKind.i64 0, Go.Value.nilFunc, Go.Value.nilFunc]
theorem zc189_size : zc189.size = 3 := rfl
instance : TZero Tryz.prog 189 (.agg zc189) := ⟨Tryz.zeroValue189⟩
theorem row189 : (Tryz.prog.info? 189).map (fun i => (i.size, i.bytes)) = some (3, 24) := by kernel_rfl
instance : TFld Tryz.prog 189 0 0 3 1 := ⟨⟨_, _, Tryz.underlying189, rfl, rfl, rfl, Tryz.sizeOf3, by decide⟩⟩
instance : TFld Tryz.prog 189 1 1 167 1 := ⟨⟨_, _, Tryz.underlying189, rfl, rfl, rfl, Tryz.sizeOf167, by decide⟩⟩
instance : TFld Tryz.prog 189 2 2 188 1 := ⟨⟨_, _, Tryz.underlying189, rfl, rfl, rfl, Tryz.sizeOf188, by decide⟩⟩
instance : TBuild Tryz.prog 189 zc189 [(0, 1), (1, 1), (2, 1)] := ⟨fun _ => by kernel_rfl⟩
instance : TSize Tryz.prog 190 3 := ⟨Tryz.sizeOf190⟩
instance : TAgg Tryz.prog 190 true := ⟨Tryz.isAgg190⟩
def zc190 : Array Value :=  #[Go.Value.int Go.IntKind.i64 0, Go.Value.nilFunc, Go.Value.nilFunc]
theorem zc190_size : zc190.size = 3 := rfl
instance : TZero Tryz.prog 190 (.agg zc190) := ⟨Tryz.zeroValue190⟩
theorem row190 : (Tryz.prog.info? 190).map (fun i => (i.size, i.bytes)) = some (3, 24) := by kernel_rfl
instance : TFld Tryz.prog 190 0 0 3 1 := ⟨⟨_, _, Tryz.underlying190, rfl, rfl, rfl, Tryz.sizeOf3, by decide⟩⟩
instance : TFld Tryz.prog 190 1 1 167 1 := ⟨⟨_, _, Tryz.underlying190, rfl, rfl, rfl, Tryz.sizeOf167, by decide⟩⟩
instance : TFld Tryz.prog 190 2 2 188 1 := ⟨⟨_, _, Tryz.underlying190, rfl, rfl, rfl, Tryz.sizeOf188, by decide⟩⟩
instance : TBuild Tryz.prog 190 zc190 [(0, 1), (1, 1), (2, 1)] := ⟨fun _ => by kernel_rfl⟩
instance : TSize Tryz.prog 191 24 := ⟨Tryz.sizeOf191⟩
instance : TAgg Tryz.prog 191 true := ⟨Tryz.isAgg191⟩
def zc191 : Array Value :=  #[Go.Value.int Go.IntKind.i64 0, Go.Value.nilFunc, Go.Value.nilFunc, Go.Value.int Go.IntKind.i64 0, Go.Value.nilFunc, Go.Value.nilFunc, Go.Value.int Go.IntKind.i64 0, Go.Value.nilFunc, Go.Value.nilFunc, Go.Value.int Go.IntKind.i64 0, Go.Value.nilFunc, Go.Value.nilFunc, Go.Value.int Go.IntKind.i64 0, Go.Value.nilFunc, Go.Value.nilFunc, Go.Value.int Go.IntKind.i64 0, Go.Value.nilFunc, Go.Value.nilFunc, Go.Value.int Go.IntKind.i64 0, Go.Value.nilFunc, Go.Value.nilFunc, Go.Value.int Go.IntKind.i64 0, Go.Value.nilFunc, Go.Value.nilFunc]
theorem zc191_size : zc191.size = 24 := rfl
instance : TZero Tryz.prog 191 (.agg zc191) := ⟨Tryz.zeroValue191⟩
theorem row191 : (Tryz.prog.info? 191).map (fun i => (i.size, i.bytes)) = some (24, 192) := by kernel_rfl
instance : TUnd Tryz.prog 191 (.array 8 190) := ⟨Tryz.underlying191⟩
instance : TSize Tryz.prog 192 1 := ⟨Tryz.sizeOf192⟩
instance : TAgg Tryz.prog 192 false := ⟨Tryz.isAgg192⟩
instance : TZero Tryz.prog 192 (Go.Value.nilFunc) := ⟨Tryz.zeroValue192⟩
theorem row192 : (Tryz.prog.info? 192).map (fun i => (i.size, i.bytes)) = some (1, 8) := by kernel_rfl
instance : TSize Tryz.prog 193 1 := ⟨Tryz.sizeOf193⟩
instance : TAgg Tryz.prog 193 false := ⟨Tryz.isAgg193⟩
instance : TZero Tryz.prog 193 (Go.Value.nilFunc) := ⟨Tryz.zeroValue193⟩
theorem row193 : (Tryz.prog.info? 193).map (fun i => (i.size, i.bytes)) = some (1, 8) := by kernel_rfl
instance : TSize Tryz.prog 194 1 := ⟨Tryz.sizeOf194⟩
instance : TAgg Tryz.prog 194 false := ⟨Tryz.isAgg194⟩
instance : TZero Tryz.prog 194 (Go.Value.nilFunc) := ⟨Tryz.zeroValue194⟩
theorem row194 : (Tryz.prog.info? 194).map (fun i => (i.size, i.bytes)) = some (1, 8) := by kernel_rfl
instance : TSize Tryz.prog 195 1 := ⟨Tryz.sizeOf195⟩
instance : TAgg Tryz.prog 195 false := ⟨Tryz.isAgg195⟩
instance : TZero Tryz.prog 195 (Go.Value.nilFunc) := ⟨Tryz.zeroValue195⟩
theorem row195 : (Tryz.prog.info? 195).map (fun i => (i.size, i.bytes)) = some (1, 8) := by kernel_rfl
instance : TSize Tryz.prog 196 1 := ⟨Tryz.sizeOf196⟩
instance : TAgg Tryz.prog 196 false := ⟨Tryz.isAgg196⟩
instance : TZero Tryz.prog 196 (Go.Value.nilFunc) := ⟨Tryz.zeroValue196⟩
theorem row196 : (Tryz.prog.info? 196).map (fun i => (i.size, i.bytes)) = some (1, 8) := by kernel_rfl
instance : TSize Tryz.prog 197 1 := ⟨Tryz.sizeOf197⟩
instance : TAgg Tryz.prog 197 false := ⟨Tryz.isAgg197⟩
instance : TZero Tryz.prog 197 (Go.Value.nilFunc) := ⟨Tryz.zeroValue197⟩
theorem row197 : (Tryz.prog.info? 197).map (fun i => (i.size, i.bytes)) = some (1, 8) := by kernel_rfl
instance : TSize Tryz.prog 198 1 := ⟨Tryz.sizeOf198⟩
instance : TAgg Tryz.prog 198 false := ⟨Tryz.isAgg198⟩
instance : TZero Tryz.prog 198 (Go.Value.nilFunc) := ⟨Tryz.zeroValue198⟩
theorem row198 : (Tryz.prog.info? 198).map (fun i => (i.size, i.bytes)) = some (1, 8) := by kernel_rfl
instance : TSize Tryz.prog 199 1 := ⟨Tryz.sizeOf199⟩
instance : TAgg Tryz.prog 199 false := ⟨Tryz.isAgg199⟩
instance : TZero Tryz.prog 199 (Go.Value.int Go.IntKind.u64 0) := ⟨Tryz.zeroValue199⟩
theorem row199 : (Tryz.prog.info? 199).map (fun i => (i.size, i.bytes)) = some (1, 8) := by kernel_rfl
instance : TUnd Tryz.prog 199 (.int Go.IntKind.u64) := ⟨Tryz.underlying199⟩
instance : TSize Tryz.prog 200 1 := ⟨Tryz.sizeOf200⟩
instance : TAgg Tryz.prog 200 false := ⟨Tryz.isAgg200⟩
instance : TZero Tryz.prog 200 (Go.Value.nilFunc) := ⟨Tryz.zeroValue200⟩
theorem row200 : (Tryz.prog.info? 200).map (fun i => (i.size, i.bytes)) = some (1, 8) := by kernel_rfl
instance : TSize Tryz.prog 201 1 := ⟨Tryz.sizeOf201⟩
instance : TAgg Tryz.prog 201 false := ⟨Tryz.isAgg201⟩
instance : TZero Tryz.prog 201 (Go.Value.nilFunc) := ⟨Tryz.zeroValue201⟩
theorem row201 : (Tryz.prog.info? 201).map (fun i => (i.size, i.bytes)) = some (1, 8) := by kernel_rfl
instance : TSize Tryz.prog 202 1 := ⟨Tryz.sizeOf202⟩
instance : TAgg Tryz.prog 202 false := ⟨Tryz.isAgg202⟩
instance : TZero Tryz.prog 202 (Go.Value.nilFunc) := ⟨Tryz.zeroValue202⟩
theorem row202 : (Tryz.prog.info? 202).map (fun i => (i.size, i.bytes)) = some (1, 8) := by kernel_rfl
instance : TSize Tryz.prog 203 1 := ⟨Tryz.sizeOf203⟩
instance : TAgg Tryz.prog 203 false := ⟨Tryz.isAgg203⟩
instance : TZero Tryz.prog 203 (Go.Value.pointer Option.none) := ⟨Tryz.zeroValue203⟩
theorem row203 : (Tryz.prog.info? 203).map (fun i => (i.size, i.bytes)) = some (1, 8) := by kernel_rfl
instance : TUnd Tryz.prog 203 (.pointer 3) := ⟨Tryz.underlying203⟩
instance : TSize Tryz.prog 204 1 := ⟨Tryz.sizeOf204⟩
instance : TAgg Tryz.prog 204 false := ⟨Tryz.isAgg204⟩
instance : TZero Tryz.prog 204 (Go.Value.nilFunc) := ⟨Tryz.zeroValue204⟩
theorem row204 : (Tryz.prog.info? 204).map (fun i => (i.size, i.bytes)) = some (1, 8) := by kernel_rfl
instance : TSize Tryz.prog 205 4 := ⟨Tryz.sizeOf205⟩
instance : TAgg Tryz.prog 205 true := ⟨Tryz.isAgg205⟩
def zc205 : Array Value :=  #[Go.Value.bool Bool.false, Go.Value.bool Bool.false, Go.Value.bool Bool.false, Go.Value.bool Bool.false]
theorem zc205_size : zc205.size = 4 := rfl
instance : TZero Tryz.prog 205 (.agg zc205) := ⟨Tryz.zeroValue205⟩
theorem row205 : (Tryz.prog.info? 205).map (fun i => (i.size, i.bytes)) = some (4, 4) := by kernel_rfl
instance : TUnd Tryz.prog 205 (.array 4 4) := ⟨Tryz.underlying205⟩
instance : TSize Tryz.prog 206 1 := ⟨Tryz.sizeOf206⟩
instance : TAgg Tryz.prog 206 false := ⟨Tryz.isAgg206⟩
instance : TZero Tryz.prog 206 (Go.Value.pointer Option.none) := ⟨Tryz.zeroValue206⟩
theorem row206 : (Tryz.prog.info? 206).map (fun i => (i.size, i.bytes)) = some (1, 8) := by kernel_rfl
instance : TUnd Tryz.prog 206 (.pointer 199) := ⟨Tryz.underlying206⟩
instance : TSize Tryz.prog 207 1 := ⟨Tryz.sizeOf207⟩
instance : TAgg Tryz.prog 207 false := ⟨Tryz.isAgg207⟩
instance : TZero Tryz.prog 207 (Go.Value.tuple #[Go.Value.int Go.IntKind.i64 0, Go.Value.int Go.IntKind.i64 0]) := ⟨Tryz.zeroValue207⟩
theorem row207 : (Tryz.prog.info? 207).map (fun i => (i.size, i.bytes)) = some (1, 0) := by kernel_rfl
instance : TSize Tryz.prog 208 1 := ⟨Tryz.sizeOf208⟩
instance : TAgg Tryz.prog 208 false := ⟨Tryz.isAgg208⟩
instance : TZero Tryz.prog 208 (Go.Value.nilFunc) := ⟨Tryz.zeroValue208⟩
theorem row208 : (Tryz.prog.info? 208).map (fun i => (i.size, i.bytes)) = some (1, 8) := by kernel_rfl
instance : TSize Tryz.prog 209 6 := ⟨Tryz.sizeOf209⟩
instance : TAgg Tryz.prog 209 true := ⟨Tryz.isAgg209⟩
def zc209 : Array Value :=  #[Go.Value.int Go.IntKind.u32 0, Go.Value.int Go.IntKind.i64 0, Go.Value.int Go.IntKind.i64 0, Go.Value.int Go.IntKind.u8 0, Go.Value.bool Bool.false, Go.Value.bool Bool.false]
theorem zc209_size : zc209.size = 6 := rfl
instance : TZero Tryz.prog 209 (.agg zc209) := ⟨Tryz.zeroValue209⟩
theorem row209 : (Tryz.prog.info? 209).map (fun i => (i.size, i.bytes)) = some (6, 32) := by kernel_rfl
instance : TFld Tryz.prog 209 0 0 184 1 := ⟨⟨_, _, Tryz.underlying209, rfl, rfl, rfl, Tryz.sizeOf184, by decide⟩⟩
instance : TFld Tryz.prog 209 1 1 2 1 := ⟨⟨_, _, Tryz.underlying209, rfl, rfl, rfl, Tryz.sizeOf2, by decide⟩⟩
instance : TFld Tryz.prog 209 2 2 2 1 := ⟨⟨_, _, Tryz.underlying209, rfl, rfl, rfl, Tryz.sizeOf2, by decide⟩⟩
instance : TFld Tryz.prog 209 3 3 5 1 := ⟨⟨_, _, Tryz.underlying209, rfl, rfl, rfl, Tryz.sizeOf5, by decide⟩⟩
instance : TFld Tryz.prog 209 4 4 4 1 := ⟨⟨_, _, Tryz.underlying209, rfl, rfl, rfl, Tryz.sizeOf4, by decide⟩⟩
instance : TFld Tryz.prog 209 5 5 4 1 := ⟨⟨_, _, Tryz.underlying209, rfl, rfl, rfl, Tryz.sizeOf4, by decide⟩⟩
instance : TBuild Tryz.prog 209 zc209 [(0, 1), (1, 1), (2, 1), (3, 1), (4, 1), (5, 1)] := ⟨fun _ => by kernel_rfl⟩
instance : TSize Tryz.prog 210 6 := ⟨Tryz.sizeOf210⟩
instance : TAgg Tryz.prog 210 true := ⟨Tryz.isAgg210⟩
def zc210 : Array Value :=  #[Go.Value.int Go.IntKind.u32 0, Go.Value.int Go.IntKind.i64 0, Go.Value.int Go.IntKind.i64 0, Go.Value.int Go.IntKind.u8 0, Go.Value.bool Bool.false, Go.Value.bool Bool.false]
theorem zc210_size : zc210.size = 6 := rfl
instance : TZero Tryz.prog 210 (.agg zc210) := ⟨Tryz.zeroValue210⟩
theorem row210 : (Tryz.prog.info? 210).map (fun i => (i.size, i.bytes)) = some (6, 32) := by kernel_rfl
instance : TFld Tryz.prog 210 0 0 184 1 := ⟨⟨_, _, Tryz.underlying210, rfl, rfl, rfl, Tryz.sizeOf184, by decide⟩⟩
instance : TFld Tryz.prog 210 1 1 2 1 := ⟨⟨_, _, Tryz.underlying210, rfl, rfl, rfl, Tryz.sizeOf2, by decide⟩⟩
instance : TFld Tryz.prog 210 2 2 2 1 := ⟨⟨_, _, Tryz.underlying210, rfl, rfl, rfl, Tryz.sizeOf2, by decide⟩⟩
instance : TFld Tryz.prog 210 3 3 5 1 := ⟨⟨_, _, Tryz.underlying210, rfl, rfl, rfl, Tryz.sizeOf5, by decide⟩⟩
instance : TFld Tryz.prog 210 4 4 4 1 := ⟨⟨_, _, Tryz.underlying210, rfl, rfl, rfl, Tryz.sizeOf4, by decide⟩⟩
instance : TFld Tryz.prog 210 5 5 4 1 := ⟨⟨_, _, Tryz.underlying210, rfl, rfl, rfl, Tryz.sizeOf4, by decide⟩⟩
instance : TBuild Tryz.prog 210 zc210 [(0, 1), (1, 1), (2, 1), (3, 1), (4, 1), (5, 1)] := ⟨fun _ => by kernel_rfl⟩
instance : TSize Tryz.prog 211 1 := ⟨Tryz.sizeOf211⟩
instance : TAgg Tryz.prog 211 false := ⟨Tryz.isAgg211⟩
instance : TZero Tryz.prog 211 (Go.Value.nilFunc) := ⟨Tryz.zeroValue211⟩
theorem row211 : (Tryz.prog.info? 211).map (fun i => (i.size, i.bytes)) = some (1, 8) := by kernel_rfl
instance : TSize Tryz.prog 212 1 := ⟨Tryz.sizeOf212⟩
instance : TAgg Tryz.prog 212 false := ⟨Tryz.isAgg212⟩
instance : TZero Tryz.prog 212 (Go.Value.nilFunc) := ⟨Tryz.zeroValue212⟩
theorem row212 : (Tryz.prog.info? 212).map (fun i => (i.size, i.bytes)) = some (1, 8) := by kernel_rfl
instance : TSize Tryz.prog 213 1 := ⟨Tryz.sizeOf213⟩
instance : TAgg Tryz.prog 213 false := ⟨Tryz.isAgg213⟩
instance : TZero Tryz.prog 213 (Go.Value.nilFunc) := ⟨Tryz.zeroValue213⟩
theorem row213 : (Tryz.prog.info? 213).map (fun i => (i.size, i.bytes)) = some (1, 8) := by kernel_rfl
instance : TSize Tryz.prog 214 1 := ⟨Tryz.sizeOf214⟩
instance : TAgg Tryz.prog 214 false := ⟨Tryz.isAgg214⟩
instance : TZero Tryz.prog 214 (Go.Value.nilFunc) := ⟨Tryz.zeroValue214⟩
theorem row214 : (Tryz.prog.info? 214).map (fun i => (i.size, i.bytes)) = some (1, 8) := by kernel_rfl
instance : TSize Tryz.prog 215 1 := ⟨Tryz.sizeOf215⟩
instance : TAgg Tryz.prog 215 false := ⟨Tryz.isAgg215⟩
instance : TZero Tryz.prog 215 (Go.Value.nilFunc) := ⟨Tryz.zeroValue215⟩
theorem row215 : (Tryz.prog.info? 215).map (fun i => (i.size, i.bytes)) = some (1, 8) := by kernel_rfl
instance : TSize Tryz.prog 216 4 := ⟨Tryz.sizeOf216⟩
instance : TAgg Tryz.prog 216 true := ⟨Tryz.isAgg216⟩
def zc216 : Array Value :=  #[Go.Value.pointer Option.none, Go.Value.pointer Option.none, Go.Value.pointer Option.none, Go.Value.string { data := #[] }]
theorem zc216_size : zc216.size = 4 := rfl
instance : TZero Tryz.prog 216 (.agg zc216) := ⟨Tryz.zeroValue216⟩
theorem row216 : (Tryz.prog.info? 216).map (fun i => (i.size, i.bytes)) = some (4, 40) := by kernel_rfl
instance : TFld Tryz.prog 216 0 0 17 1 := ⟨⟨_, _, Tryz.underlying216, rfl, rfl, rfl, Tryz.sizeOf17, by decide⟩⟩
instance : TFld Tryz.prog 216 1 1 17 1 := ⟨⟨_, _, Tryz.underlying216, rfl, rfl, rfl, Tryz.sizeOf17, by decide⟩⟩
instance : TFld Tryz.prog 216 2 2 17 1 := ⟨⟨_, _, Tryz.underlying216, rfl, rfl, rfl, Tryz.sizeOf17, by decide⟩⟩
instance : TFld Tryz.prog 216 3 3 9 1 := ⟨⟨_, _, Tryz.underlying216, rfl, rfl, rfl, Tryz.sizeOf9, by decide⟩⟩
instance : TBuild Tryz.prog 216 zc216 [(0, 1), (1, 1), (2, 1), (3, 1)] := ⟨fun _ => by kernel_rfl⟩
instance : TSize Tryz.prog 217 4 := ⟨Tryz.sizeOf217⟩
instance : TAgg Tryz.prog 217 true := ⟨Tryz.isAgg217⟩
def zc217 : Array Value :=  #[Go.Value.pointer Option.none, Go.Value.pointer Option.none, Go.Value.pointer Option.none, Go.Value.string { data := #[] }]
theorem zc217_size : zc217.size = 4 := rfl
instance : TZero Tryz.prog 217 (.agg zc217) := ⟨Tryz.zeroValue217⟩
theorem row217 : (Tryz.prog.info? 217).map (fun i => (i.size, i.bytes)) = some (4, 40) := by kernel_rfl
instance : TFld Tryz.prog 217 0 0 17 1 := ⟨⟨_, _, Tryz.underlying217, rfl, rfl, rfl, Tryz.sizeOf17, by decide⟩⟩
instance : TFld Tryz.prog 217 1 1 17 1 := ⟨⟨_, _, Tryz.underlying217, rfl, rfl, rfl, Tryz.sizeOf17, by decide⟩⟩
instance : TFld Tryz.prog 217 2 2 17 1 := ⟨⟨_, _, Tryz.underlying217, rfl, rfl, rfl, Tryz.sizeOf17, by decide⟩⟩
instance : TFld Tryz.prog 217 3 3 9 1 := ⟨⟨_, _, Tryz.underlying217, rfl, rfl, rfl, Tryz.sizeOf9, by decide⟩⟩
instance : TBuild Tryz.prog 217 zc217 [(0, 1), (1, 1), (2, 1), (3, 1)] := ⟨fun _ => by kernel_rfl⟩
instance : TSize Tryz.prog 218 0 := ⟨Tryz.sizeOf218⟩
instance : TAgg Tryz.prog 218 true := ⟨Tryz.isAgg218⟩
def zc218 : Array Value :=  #[]
theorem zc218_size : zc218.size = 0 := rfl
instance : TZero Tryz.prog 218 (.agg zc218) := ⟨Tryz.zeroValue218⟩
instance : TUnd Tryz.prog 218 (.array 0 16) := ⟨Tryz.underlying218⟩
instance : TSize Tryz.prog 219 0 := ⟨Tryz.sizeOf219⟩
instance : TAgg Tryz.prog 219 true := ⟨Tryz.isAgg219⟩
def zc219 : Array Value :=  #[]
theorem zc219_size : zc219.size = 0 := rfl
instance : TZero Tryz.prog 219 (.agg zc219) := ⟨Tryz.zeroValue219⟩
instance : TSize Tryz.prog 220 0 := ⟨Tryz.sizeOf220⟩
instance : TAgg Tryz.prog 220 true := ⟨Tryz.isAgg220⟩
def zc220 : Array Value :=  #[]
theorem zc220_size : zc220.size = 0 := rfl
instance : TZero Tryz.prog 220 (.agg zc220) := ⟨Tryz.zeroValue220⟩
instance : TSize Tryz.prog 221 1 := ⟨Tryz.sizeOf221⟩
instance : TAgg Tryz.prog 221 false := ⟨Tryz.isAgg221⟩
instance : TZero Tryz.prog 221 (Go.Value.int Go.IntKind.u8 0) := ⟨Tryz.zeroValue221⟩
theorem row221 : (Tryz.prog.info? 221).map (fun i => (i.size, i.bytes)) = some (1, 1) := by kernel_rfl
instance : TUnd Tryz.prog 221 (.int Go.IntKind.u8) := ⟨Tryz.underlying221⟩
instance : TSize Tryz.prog 222 1 := ⟨Tryz.sizeOf222⟩
instance : TAgg Tryz.prog 222 false := ⟨Tryz.isAgg222⟩
instance : TZero Tryz.prog 222 (Go.Value.int Go.IntKind.u8 0) := ⟨Tryz.zeroValue222⟩
theorem row222 : (Tryz.prog.info? 222).map (fun i => (i.size, i.bytes)) = some (1, 1) := by kernel_rfl
instance : TUnd Tryz.prog 222 (.int Go.IntKind.u8) := ⟨Tryz.underlying222⟩
instance : TSize Tryz.prog 223 1 := ⟨Tryz.sizeOf223⟩
instance : TAgg Tryz.prog 223 false := ⟨Tryz.isAgg223⟩
instance : TZero Tryz.prog 223 (Go.Value.nilFunc) := ⟨Tryz.zeroValue223⟩
theorem row223 : (Tryz.prog.info? 223).map (fun i => (i.size, i.bytes)) = some (1, 8) := by kernel_rfl
instance : TSize Tryz.prog 224 1 := ⟨Tryz.sizeOf224⟩
instance : TAgg Tryz.prog 224 false := ⟨Tryz.isAgg224⟩
instance : TZero Tryz.prog 224 (Go.Value.pointer Option.none) := ⟨Tryz.zeroValue224⟩
theorem row224 : (Tryz.prog.info? 224).map (fun i => (i.size, i.bytes)) = some (1, 8) := by kernel_rfl
instance : TUnd Tryz.prog 224 (.pointer 5) := ⟨Tryz.underlying224⟩
instance : TSize Tryz.prog 225 1 := ⟨Tryz.sizeOf225⟩
instance : TAgg Tryz.prog 225 false := ⟨Tryz.isAgg225⟩
instance : TZero Tryz.prog 225 (Go.Value.int Go.IntKind.i32 0) := ⟨Tryz.zeroValue225⟩
theorem row225 : (Tryz.prog.info? 225).map (fun i => (i.size, i.bytes)) = some (1, 4) := by kernel_rfl
instance : TUnd Tryz.prog 225 (.int Go.IntKind.i32) := ⟨Tryz.underlying225⟩
instance : TSize Tryz.prog 226 1 := ⟨Tryz.sizeOf226⟩
instance : TAgg Tryz.prog 226 false := ⟨Tryz.isAgg226⟩
instance : TZero Tryz.prog 226 (Go.Value.int Go.IntKind.i32 0) := ⟨Tryz.zeroValue226⟩
theorem row226 : (Tryz.prog.info? 226).map (fun i => (i.size, i.bytes)) = some (1, 4) := by kernel_rfl
instance : TUnd Tryz.prog 226 (.int Go.IntKind.i32) := ⟨Tryz.underlying226⟩
instance : TSize Tryz.prog 227 11 := ⟨Tryz.sizeOf227⟩
instance : TAgg Tryz.prog 227 true := ⟨Tryz.isAgg227⟩
def zc227 : Array Value :=  #[Go.Value.int Go.IntKind.u64 0, Go.Value.int Go.IntKind.u64 0, Go.Value.int Go.IntKind.u32 0, Go.Value.int Go.IntKind.u8 0, Go.Value.int Go.IntKind.u8 0, Go.Value.int Go.IntKind.u8 0, Go.Value.int Go.IntKind.u8 0, Go.Value.nilFunc, Go.Value.pointer Option.none, Go.Value.int Go.IntKind.i32 0, Go.Value.int Go.IntKind.i32 0]
theorem zc227_size : zc227.size = 11 := rfl
instance : TZero Tryz.prog 227 (.agg zc227) := ⟨Tryz.zeroValue227⟩
theorem row227 : (Tryz.prog.info? 227).map (fun i => (i.size, i.bytes)) = some (11, 48) := by kernel_rfl
instance : TFld Tryz.prog 227 0 0 12 1 := ⟨⟨_, _, Tryz.underlying227, rfl, rfl, rfl, Tryz.sizeOf12, by decide⟩⟩
instance : TFld Tryz.prog 227 1 1 12 1 := ⟨⟨_, _, Tryz.underlying227, rfl, rfl, rfl, Tryz.sizeOf12, by decide⟩⟩
instance : TFld Tryz.prog 227 2 2 184 1 := ⟨⟨_, _, Tryz.underlying227, rfl, rfl, rfl, Tryz.sizeOf184, by decide⟩⟩
instance : TFld Tryz.prog 227 3 3 221 1 := ⟨⟨_, _, Tryz.underlying227, rfl, rfl, rfl, Tryz.sizeOf221, by decide⟩⟩
instance : TFld Tryz.prog 227 4 4 5 1 := ⟨⟨_, _, Tryz.underlying227, rfl, rfl, rfl, Tryz.sizeOf5, by decide⟩⟩
instance : TFld Tryz.prog 227 5 5 5 1 := ⟨⟨_, _, Tryz.underlying227, rfl, rfl, rfl, Tryz.sizeOf5, by decide⟩⟩
instance : TFld Tryz.prog 227 6 6 222 1 := ⟨⟨_, _, Tryz.underlying227, rfl, rfl, rfl, Tryz.sizeOf222, by decide⟩⟩
instance : TFld Tryz.prog 227 7 7 223 1 := ⟨⟨_, _, Tryz.underlying227, rfl, rfl, rfl, Tryz.sizeOf223, by decide⟩⟩
instance : TFld Tryz.prog 227 8 8 224 1 := ⟨⟨_, _, Tryz.underlying227, rfl, rfl, rfl, Tryz.sizeOf224, by decide⟩⟩
instance : TFld Tryz.prog 227 9 9 225 1 := ⟨⟨_, _, Tryz.underlying227, rfl, rfl, rfl, Tryz.sizeOf225, by decide⟩⟩
instance : TFld Tryz.prog 227 10 10 226 1 := ⟨⟨_, _, Tryz.underlying227, rfl, rfl, rfl, Tryz.sizeOf226, by decide⟩⟩
instance : TBuild Tryz.prog 227 zc227 [(0, 1), (1, 1), (2, 1), (3, 1), (4, 1), (5, 1), (6, 1), (7, 1), (8, 1), (9, 1), (10, 1)] := ⟨fun _ => by kernel_rfl⟩
instance : TSize Tryz.prog 228 11 := ⟨Tryz.sizeOf228⟩
instance : TAgg Tryz.prog 228 true := ⟨Tryz.isAgg228⟩
def zc228 : Array Value :=  #[Go.Value.int Go.IntKind.u64 0, Go.Value.int Go.IntKind.u64 0, Go.Value.int Go.IntKind.u32 0, Go.Value.int Go.IntKind.u8 0, Go.Value.int Go.IntKind.u8 0, Go.Value.int Go.IntKind.u8 0, Go.Value.int Go.IntKind.u8 0, Go.Value.nilFunc, Go.Value.pointer Option.none, Go.Value.int Go.IntKind.i32 0, Go.Value.int Go.IntKind.i32 0]
theorem zc228_size : zc228.size = 11 := rfl
instance : TZero Tryz.prog 228 (.agg zc228) := ⟨Tryz.zeroValue228⟩
theorem row228 : (Tryz.prog.info? 228).map (fun i => (i.size, i.bytes)) = some (11, 48) := by kernel_rfl
instance : TFld Tryz.prog 228 0 0 12 1 := ⟨⟨_, _, Tryz.underlying228, rfl, rfl, rfl, Tryz.sizeOf12, by decide⟩⟩
instance : TFld Tryz.prog 228 1 1 12 1 := ⟨⟨_, _, Tryz.underlying228, rfl, rfl, rfl, Tryz.sizeOf12, by decide⟩⟩
instance : TFld Tryz.prog 228 2 2 184 1 := ⟨⟨_, _, Tryz.underlying228, rfl, rfl, rfl, Tryz.sizeOf184, by decide⟩⟩
instance : TFld Tryz.prog 228 3 3 221 1 := ⟨⟨_, _, Tryz.underlying228, rfl, rfl, rfl, Tryz.sizeOf221, by decide⟩⟩
instance : TFld Tryz.prog 228 4 4 5 1 := ⟨⟨_, _, Tryz.underlying228, rfl, rfl, rfl, Tryz.sizeOf5, by decide⟩⟩
instance : TFld Tryz.prog 228 5 5 5 1 := ⟨⟨_, _, Tryz.underlying228, rfl, rfl, rfl, Tryz.sizeOf5, by decide⟩⟩
instance : TFld Tryz.prog 228 6 6 222 1 := ⟨⟨_, _, Tryz.underlying228, rfl, rfl, rfl, Tryz.sizeOf222, by decide⟩⟩
instance : TFld Tryz.prog 228 7 7 223 1 := ⟨⟨_, _, Tryz.underlying228, rfl, rfl, rfl, Tryz.sizeOf223, by decide⟩⟩
instance : TFld Tryz.prog 228 8 8 224 1 := ⟨⟨_, _, Tryz.underlying228, rfl, rfl, rfl, Tryz.sizeOf224, by decide⟩⟩
instance : TFld Tryz.prog 228 9 9 225 1 := ⟨⟨_, _, Tryz.underlying228, rfl, rfl, rfl, Tryz.sizeOf225, by decide⟩⟩
instance : TFld Tryz.prog 228 10 10 226 1 := ⟨⟨_, _, Tryz.underlying228, rfl, rfl, rfl, Tryz.sizeOf226, by decide⟩⟩
instance : TBuild Tryz.prog 228 zc228 [(0, 1), (1, 1), (2, 1), (3, 1), (4, 1), (5, 1), (6, 1), (7, 1), (8, 1), (9, 1), (10, 1)] := ⟨fun _ => by kernel_rfl⟩
instance : TSize Tryz.prog 229 1 := ⟨Tryz.sizeOf229⟩
instance : TAgg Tryz.prog 229 false := ⟨Tryz.isAgg229⟩
instance : TZero Tryz.prog 229 (Go.Value.pointer Option.none) := ⟨Tryz.zeroValue229⟩
theorem row229 : (Tryz.prog.info? 229).map (fun i => (i.size, i.bytes)) = some (1, 8) := by kernel_rfl
instance : TRow Tryz.prog 0 #[Go.Value.tuple #[]] 1 0 := TRow.of Tryz.zeroValue0 rfl row0 rfl
instance : TRow Tryz.prog 1 #[Go.Value.nilFunc] 1 8 := TRow.of Tryz.zeroValue1 rfl row1 rfl
instance : TRow Tryz.prog 2 #[Go.Value.int Go.IntKind.i64 0] 1 8 := TRow.of Tryz.zeroValue2 rfl row2 rfl
instance : TRow Tryz.prog 3 #[Go.Value.int Go.IntKind.i64 0] 1 8 := TRow.of Tryz.zeroValue3 rfl row3 rfl
instance : TRow Tryz.prog 4 #[Go.Value.bool Bool.false] 1 1 := TRow.of Tryz.zeroValue4 rfl row4 rfl
instance : TRow Tryz.prog 5 #[Go.Value.int Go.IntKind.u8 0] 1 1 := TRow.of Tryz.zeroValue5 rfl row5 rfl
instance : TRow Tryz.prog 6 #[Go.Value.int Go.IntKind.u8 0] 1 1 := TRow.of Tryz.zeroValue6 rfl row6 rfl
instance : TRow Tryz.prog 7 zc7 4 24 := TRow.of Tryz.zeroValue7 rfl row7 rfl
instance : TRow Tryz.prog 8 zc8 4 24 := TRow.of Tryz.zeroValue8 rfl row8 rfl
instance : TRow Tryz.prog 9 #[Go.Value.string { data := #[] }] 1 16 := TRow.of Tryz.zeroValue9 rfl row9 rfl
instance : TRow Tryz.prog 10 #[Go.Value.string { data := #[] }] 1 16 := TRow.of Tryz.zeroValue10 rfl row10 rfl
instance : TRow Tryz.prog 11 #[Go.Value.string { data := #[] }] 1 16 := TRow.of Tryz.zeroValue11 rfl row11 rfl
instance : TRow Tryz.prog 12 #[Go.Value.int Go.IntKind.u64 0] 1 8 := TRow.of Tryz.zeroValue12 rfl row12 rfl
instance : TRow Tryz.prog 13 zc13 2 24 := TRow.of Tryz.zeroValue13 rfl row13 rfl
instance : TRow Tryz.prog 14 zc14 2 24 := TRow.of Tryz.zeroValue14 rfl row14 rfl
instance : TRow Tryz.prog 15 #[Go.Value.pointer Option.none] 1 8 := TRow.of Tryz.zeroValue15 rfl row15 rfl
instance : TRow Tryz.prog 16 #[Go.Value.pointer Option.none] 1 8 := TRow.of Tryz.zeroValue16 rfl row16 rfl
instance : TRow Tryz.prog 17 #[Go.Value.pointer Option.none] 1 8 := TRow.of Tryz.zeroValue17 rfl row17 rfl
instance : TRow Tryz.prog 18 zc18 1 8 := TRow.of Tryz.zeroValue18 rfl row18 rfl
instance : TRow Tryz.prog 19 zc19 1 8 := TRow.of Tryz.zeroValue19 rfl row19 rfl
instance : TRow Tryz.prog 20 #[Go.Value.nilIface] 1 16 := TRow.of Tryz.zeroValue20 rfl row20 rfl
instance : TRow Tryz.prog 21 #[Go.Value.int Go.IntKind.i32 0] 1 4 := TRow.of Tryz.zeroValue21 rfl row21 rfl
instance : TRow Tryz.prog 22 #[Go.Value.nilFunc] 1 8 := TRow.of Tryz.zeroValue22 rfl row22 rfl
instance : TRow Tryz.prog 23 #[Go.Value.pointer Option.none] 1 8 := TRow.of Tryz.zeroValue23 rfl row23 rfl
instance : TRow Tryz.prog 24 #[Go.Value.pointer Option.none] 1 8 := TRow.of Tryz.zeroValue24 rfl row24 rfl
instance : TRow Tryz.prog 25 #[Go.Value.tuple #[Go.Value.pointer Option.none, Go.Value.pointer Option.none]] 1 0 := TRow.of Tryz.zeroValue25 rfl row25 rfl
instance : TRow Tryz.prog 26 #[Go.Value.nilFunc] 1 8 := TRow.of Tryz.zeroValue26 rfl row26 rfl
instance : TRow Tryz.prog 27 zc27 8 64 := TRow.of Tryz.zeroValue27 rfl row27 rfl
instance : TRow Tryz.prog 28 #[Go.Value.slice Option.none 0 0] 1 24 := TRow.of Tryz.zeroValue28 rfl row28 rfl
instance : TRow Tryz.prog 29 #[Go.Value.int Go.IntKind.i64 0] 1 8 := TRow.of Tryz.zeroValue29 rfl row29 rfl
instance : TRow Tryz.prog 30 #[Go.Value.tuple #[Go.Value.slice Option.none 0 0, Go.Value.int Go.IntKind.i64 0]] 1 0 := TRow.of Tryz.zeroValue30 rfl row30 rfl
instance : TRow Tryz.prog 31 #[Go.Value.nilFunc] 1 8 := TRow.of Tryz.zeroValue31 rfl row31 rfl
instance : TRow Tryz.prog 32 #[Go.Value.slice Option.none 0 0] 1 24 := TRow.of Tryz.zeroValue32 rfl row32 rfl
instance : TRow Tryz.prog 33 zc33 4 32 := TRow.of Tryz.zeroValue33 rfl row33 rfl
instance : TRow Tryz.prog 34 zc34 4 32 := TRow.of Tryz.zeroValue34 rfl row34 rfl
instance : TRow Tryz.prog 35 zc35 10 96 := TRow.of Tryz.zeroValue35 rfl row35 rfl
instance : TRow Tryz.prog 36 zc36 10 96 := TRow.of Tryz.zeroValue36 rfl row36 rfl
instance : TRow Tryz.prog 37 #[Go.Value.nilFunc] 1 8 := TRow.of Tryz.zeroValue37 rfl row37 rfl
instance : TRow Tryz.prog 38 #[Go.Value.nilFunc] 1 8 := TRow.of Tryz.zeroValue38 rfl row38 rfl
instance : TRow Tryz.prog 39 #[Go.Value.nilFunc] 1 8 := TRow.of Tryz.zeroValue39 rfl row39 rfl
instance : TRow Tryz.prog 40 #[Go.Value.pointer Option.none] 1 8 := TRow.of Tryz.zeroValue40 rfl row40 rfl
instance : TRow Tryz.prog 41 #[Go.Value.nilFunc] 1 8 := TRow.of Tryz.zeroValue41 rfl row41 rfl
instance : TRow Tryz.prog 42 zc42 2 16 := TRow.of Tryz.zeroValue42 rfl row42 rfl
instance : TRow Tryz.prog 43 zc43 2 16 := TRow.of Tryz.zeroValue43 rfl row43 rfl
instance : TRow Tryz.prog 44 #[Go.Value.nilFunc] 1 8 := TRow.of Tryz.zeroValue44 rfl row44 rfl
instance : TRow Tryz.prog 45 #[Go.Value.nilFunc] 1 8 := TRow.of Tryz.zeroValue45 rfl row45 rfl
instance : TRow Tryz.prog 46 #[Go.Value.slice Option.none 0 0] 1 24 := TRow.of Tryz.zeroValue46 rfl row46 rfl
instance : TRow Tryz.prog 47 #[Go.Value.nilFunc] 1 8 := TRow.of Tryz.zeroValue47 rfl row47 rfl
instance : TRow Tryz.prog 48 #[Go.Value.nilFunc] 1 8 := TRow.of Tryz.zeroValue48 rfl row48 rfl
instance : TRow Tryz.prog 49 zc49 4 24 := TRow.of Tryz.zeroValue49 rfl row49 rfl
instance : TRow Tryz.prog 50 zc50 4 24 := TRow.of Tryz.zeroValue50 rfl row50 rfl
instance : TRow Tryz.prog 51 #[Go.Value.slice Option.none 0 0] 1 24 := TRow.of Tryz.zeroValue51 rfl row51 rfl
instance : TRow Tryz.prog 52 #[Go.Value.slice Option.none 0 0] 1 24 := TRow.of Tryz.zeroValue52 rfl row52 rfl
instance : TRow Tryz.prog 53 #[Go.Value.nilFunc] 1 8 := TRow.of Tryz.zeroValue53 rfl row53 rfl
instance : TRow Tryz.prog 54 #[Go.Value.nilFunc] 1 8 := TRow.of Tryz.zeroValue54 rfl row54 rfl
instance : TRow Tryz.prog 55 #[Go.Value.nilFunc] 1 8 := TRow.of Tryz.zeroValue55 rfl row55 rfl
instance : TRow Tryz.prog 56 #[Go.Value.slice Option.none 0 0] 1 24 := TRow.of Tryz.zeroValue56 rfl row56 rfl
instance : TRow Tryz.prog 57 #[Go.Value.nilFunc] 1 8 := TRow.of Tryz.zeroValue57 rfl row57 rfl
instance : TRow Tryz.prog 58 #[Go.Value.nilFunc] 1 8 := TRow.of Tryz.zeroValue58 rfl row58 rfl
instance : TRow Tryz.prog 59 #[Go.Value.nilFunc] 1 8 := TRow.of Tryz.zeroValue59 rfl row59 rfl
instance : TRow Tryz.prog 60 #[Go.Value.slice Option.none 0 0] 1 24 := TRow.of Tryz.zeroValue60 rfl row60 rfl
instance : TRow Tryz.prog 61 #[Go.Value.slice Option.none 0 0] 1 24 := TRow.of Tryz.zeroValue61 rfl row61 rfl
instance : TRow Tryz.prog 62 zc62 5 56 := TRow.of Tryz.zeroValue62 rfl row62 rfl
instance : TRow Tryz.prog 63 zc63 5 56 := TRow.of Tryz.zeroValue63 rfl row63 rfl
instance : TRow Tryz.prog 64 #[Go.Value.slice Option.none 0 0] 1 24 := TRow.of Tryz.zeroValue64 rfl row64 rfl
instance : TRow Tryz.prog 65 zc65 4 64 := TRow.of Tryz.zeroValue65 rfl row65 rfl
instance : TRow Tryz.prog 66 zc66 4 64 := TRow.of Tryz.zeroValue66 rfl row66 rfl
instance : TRow Tryz.prog 67 zc67 5 40 := TRow.of Tryz.zeroValue67 rfl row67 rfl
instance : TRow Tryz.prog 68 zc68 5 40 := TRow.of Tryz.zeroValue68 rfl row68 rfl
instance : TRow Tryz.prog 69 #[Go.Value.tuple #[Go.Value.pointer Option.none, Go.Value.int Go.IntKind.i64 0]] 1 0 := TRow.of Tryz.zeroValue69 rfl row69 rfl
instance : TRow Tryz.prog 70 #[Go.Value.nilFunc] 1 8 := TRow.of Tryz.zeroValue70 rfl row70 rfl
instance : TRow Tryz.prog 71 #[Go.Value.tuple #[Go.Value.pointer Option.none, Go.Value.int Go.IntKind.i64 0]] 1 0 := TRow.of Tryz.zeroValue71 rfl row71 rfl
instance : TRow Tryz.prog 72 #[Go.Value.nilFunc] 1 8 := TRow.of Tryz.zeroValue72 rfl row72 rfl
instance : TRow Tryz.prog 73 #[Go.Value.int Go.IntKind.u16 0] 1 2 := TRow.of Tryz.zeroValue73 rfl row73 rfl
instance : TRow Tryz.prog 74 zc74 4 6 := TRow.of Tryz.zeroValue74 rfl row74 rfl
instance : TRow Tryz.prog 75 zc75 4 6 := TRow.of Tryz.zeroValue75 rfl row75 rfl
instance : TRow Tryz.prog 76 #[Go.Value.nilFunc] 1 8 := TRow.of Tryz.zeroValue76 rfl row76 rfl
instance : TRow Tryz.prog 77 zc77 9 72 := TRow.of Tryz.zeroValue77 rfl row77 rfl
instance : TRow Tryz.prog 78 zc78 9 72 := TRow.of Tryz.zeroValue78 rfl row78 rfl
instance : TRow Tryz.prog 79 #[Go.Value.nilFunc] 1 8 := TRow.of Tryz.zeroValue79 rfl row79 rfl
instance : TRow Tryz.prog 80 #[Go.Value.nilFunc] 1 8 := TRow.of Tryz.zeroValue80 rfl row80 rfl
instance : TRow Tryz.prog 81 #[Go.Value.nilFunc] 1 8 := TRow.of Tryz.zeroValue81 rfl row81 rfl
instance : TRow Tryz.prog 82 #[Go.Value.nilFunc] 1 8 := TRow.of Tryz.zeroValue82 rfl row82 rfl
instance : TRow Tryz.prog 83 #[Go.Value.nilFunc] 1 8 := TRow.of Tryz.zeroValue83 rfl row83 rfl
instance : TRow Tryz.prog 84 #[Go.Value.nilFunc] 1 8 := TRow.of Tryz.zeroValue84 rfl row84 rfl
instance : TRow Tryz.prog 85 #[Go.Value.map Option.none] 1 8 := TRow.of Tryz.zeroValue85 rfl row85 rfl
instance : TRow Tryz.prog 86 #[Go.Value.nilFunc] 1 8 := TRow.of Tryz.zeroValue86 rfl row86 rfl
instance : TRow Tryz.prog 87 #[Go.Value.nilFunc] 1 8 := TRow.of Tryz.zeroValue87 rfl row87 rfl
instance : TRow Tryz.prog 88 #[Go.Value.nilFunc] 1 8 := TRow.of Tryz.zeroValue88 rfl row88 rfl
instance : TRow Tryz.prog 89 #[Go.Value.nilFunc] 1 8 := TRow.of Tryz.zeroValue89 rfl row89 rfl
instance : TRow Tryz.prog 90 #[Go.Value.nilFunc] 1 8 := TRow.of Tryz.zeroValue90 rfl row90 rfl
instance : TRow Tryz.prog 91 #[Go.Value.nilFunc] 1 8 := TRow.of Tryz.zeroValue91 rfl row91 rfl
instance : TRow Tryz.prog 92 #[Go.Value.map Option.none] 1 8 := TRow.of Tryz.zeroValue92 rfl row92 rfl
instance : TRow Tryz.prog 93 #[Go.Value.slice Option.none 0 0] 1 24 := TRow.of Tryz.zeroValue93 rfl row93 rfl
instance : TRow Tryz.prog 94 #[Go.Value.map Option.none] 1 8 := TRow.of Tryz.zeroValue94 rfl row94 rfl
instance : TRow Tryz.prog 95 zc95 6 64 := TRow.of Tryz.zeroValue95 rfl row95 rfl
instance : TRow Tryz.prog 96 zc96 6 64 := TRow.of Tryz.zeroValue96 rfl row96 rfl
instance : TRow Tryz.prog 97 zc97 2 16 := TRow.of Tryz.zeroValue97 rfl row97 rfl
instance : TRow Tryz.prog 98 zc98 2 16 := TRow.of Tryz.zeroValue98 rfl row98 rfl
instance : TRow Tryz.prog 99 #[Go.Value.pointer Option.none] 1 8 := TRow.of Tryz.zeroValue99 rfl row99 rfl
instance : TRow Tryz.prog 100 zc100 5 40 := TRow.of Tryz.zeroValue100 rfl row100 rfl
instance : TRow Tryz.prog 101 zc101 5 40 := TRow.of Tryz.zeroValue101 rfl row101 rfl
instance : TRow Tryz.prog 102 #[Go.Value.tuple #[Go.Value.agg #[Go.Value.int Go.IntKind.i64 0, Go.Value.int Go.IntKind.i64 0, Go.Value.int Go.IntKind.i64 0, Go.Value.int Go.IntKind.i64 0, Go.Value.pointer Option.none], Go.Value.bool Bool.false]] 1 0 := TRow.of Tryz.zeroValue102 rfl row102 rfl
instance : TRow Tryz.prog 103 #[Go.Value.nilFunc] 1 8 := TRow.of Tryz.zeroValue103 rfl row103 rfl
instance : TRow Tryz.prog 104 zc104 2 2 := TRow.of Tryz.zeroValue104 rfl row104 rfl
instance : TRow Tryz.prog 105 zc105 2 2 := TRow.of Tryz.zeroValue105 rfl row105 rfl
instance : TRow Tryz.prog 106 #[Go.Value.nilFunc] 1 8 := TRow.of Tryz.zeroValue106 rfl row106 rfl
instance : TRow Tryz.prog 107 #[Go.Value.nilFunc] 1 8 := TRow.of Tryz.zeroValue107 rfl row107 rfl
instance : TRow Tryz.prog 108 #[Go.Value.nilFunc] 1 8 := TRow.of Tryz.zeroValue108 rfl row108 rfl
instance : TRow Tryz.prog 109 #[Go.Value.tuple #[Go.Value.agg #[Go.Value.bool Bool.false, Go.Value.bool Bool.false], Go.Value.bool Bool.false]] 1 0 := TRow.of Tryz.zeroValue109 rfl row109 rfl
instance : TRow Tryz.prog 110 #[Go.Value.nilFunc] 1 8 := TRow.of Tryz.zeroValue110 rfl row110 rfl
instance : TRow Tryz.prog 111 zc111 4 32 := TRow.of Tryz.zeroValue111 rfl row111 rfl
instance : TRow Tryz.prog 112 zc112 4 32 := TRow.of Tryz.zeroValue112 rfl row112 rfl
instance : TRow Tryz.prog 113 #[Go.Value.nilFunc] 1 8 := TRow.of Tryz.zeroValue113 rfl row113 rfl
instance : TRow Tryz.prog 114 zc114 9 104 := TRow.of Tryz.zeroValue114 rfl row114 rfl
instance : TRow Tryz.prog 115 zc115 9 104 := TRow.of Tryz.zeroValue115 rfl row115 rfl
instance : TRow Tryz.prog 116 #[Go.Value.slice Option.none 0 0] 1 24 := TRow.of Tryz.zeroValue116 rfl row116 rfl
instance : TRow Tryz.prog 117 zc117 8 192 := TRow.of Tryz.zeroValue117 rfl row117 rfl
instance : TRow Tryz.prog 118 #[Go.Value.slice Option.none 0 0] 1 24 := TRow.of Tryz.zeroValue118 rfl row118 rfl
instance : TRow Tryz.prog 119 zc119 21 392 := TRow.of Tryz.zeroValue119 rfl row119 rfl
instance : TRow Tryz.prog 120 zc120 21 392 := TRow.of Tryz.zeroValue120 rfl row120 rfl
instance : TRow Tryz.prog 121 #[Go.Value.nilFunc] 1 8 := TRow.of Tryz.zeroValue121 rfl row121 rfl
instance : TRow Tryz.prog 122 #[Go.Value.nilFunc] 1 8 := TRow.of Tryz.zeroValue122 rfl row122 rfl
instance : TRow Tryz.prog 123 #[Go.Value.nilFunc] 1 8 := TRow.of Tryz.zeroValue123 rfl row123 rfl
instance : TRow Tryz.prog 124 #[Go.Value.tuple #[Go.Value.int Go.IntKind.i64 0, Go.Value.int Go.IntKind.i64 0]] 1 0 := TRow.of Tryz.zeroValue124 rfl row124 rfl
instance : TRow Tryz.prog 125 #[Go.Value.nilFunc] 1 8 := TRow.of Tryz.zeroValue125 rfl row125 rfl
instance : TRow Tryz.prog 126 #[Go.Value.nilFunc] 1 8 := TRow.of Tryz.zeroValue126 rfl row126 rfl
instance : TRow Tryz.prog 127 #[Go.Value.nilFunc] 1 8 := TRow.of Tryz.zeroValue127 rfl row127 rfl
instance : TRow Tryz.prog 128 #[Go.Value.nilFunc] 1 8 := TRow.of Tryz.zeroValue128 rfl row128 rfl
instance : TRow Tryz.prog 129 #[Go.Value.nilFunc] 1 8 := TRow.of Tryz.zeroValue129 rfl row129 rfl
instance : TRow Tryz.prog 130 zc130 19 328 := TRow.of Tryz.zeroValue130 rfl row130 rfl
instance : TRow Tryz.prog 131 zc131 19 328 := TRow.of Tryz.zeroValue131 rfl row131 rfl
instance : TRow Tryz.prog 132 #[Go.Value.nilFunc] 1 8 := TRow.of Tryz.zeroValue132 rfl row132 rfl
instance : TRow Tryz.prog 133 #[Go.Value.nilFunc] 1 8 := TRow.of Tryz.zeroValue133 rfl row133 rfl
instance : TRow Tryz.prog 134 #[Go.Value.nilFunc] 1 8 := TRow.of Tryz.zeroValue134 rfl row134 rfl
instance : TRow Tryz.prog 135 #[Go.Value.nilFunc] 1 8 := TRow.of Tryz.zeroValue135 rfl row135 rfl
instance : TRow Tryz.prog 136 #[Go.Value.nilFunc] 1 8 := TRow.of Tryz.zeroValue136 rfl row136 rfl
instance : TRow Tryz.prog 137 #[Go.Value.nilFunc] 1 8 := TRow.of Tryz.zeroValue137 rfl row137 rfl
instance : TRow Tryz.prog 138 #[Go.Value.nilFunc] 1 8 := TRow.of Tryz.zeroValue138 rfl row138 rfl
instance : TRow Tryz.prog 139 #[Go.Value.nilFunc] 1 8 := TRow.of Tryz.zeroValue139 rfl row139 rfl
instance : TRow Tryz.prog 140 #[Go.Value.nilFunc] 1 8 := TRow.of Tryz.zeroValue140 rfl row140 rfl
instance : TRow Tryz.prog 141 #[Go.Value.pointer Option.none] 1 8 := TRow.of Tryz.zeroValue141 rfl row141 rfl
instance : TRow Tryz.prog 142 #[Go.Value.nilFunc] 1 8 := TRow.of Tryz.zeroValue142 rfl row142 rfl
instance : TRow Tryz.prog 143 #[Go.Value.nilFunc] 1 8 := TRow.of Tryz.zeroValue143 rfl row143 rfl
instance : TRow Tryz.prog 144 #[Go.Value.nilFunc] 1 8 := TRow.of Tryz.zeroValue144 rfl row144 rfl
instance : TRow Tryz.prog 145 zc145 4 32 := TRow.of Tryz.zeroValue145 rfl row145 rfl
instance : TRow Tryz.prog 146 #[Go.Value.nilFunc] 1 8 := TRow.of Tryz.zeroValue146 rfl row146 rfl
instance : TRow Tryz.prog 147 #[Go.Value.nilFunc] 1 8 := TRow.of Tryz.zeroValue147 rfl row147 rfl
instance : TRow Tryz.prog 148 #[Go.Value.nilFunc] 1 8 := TRow.of Tryz.zeroValue148 rfl row148 rfl
instance : TRow Tryz.prog 149 #[Go.Value.int Go.IntKind.u64 0] 1 8 := TRow.of Tryz.zeroValue149 rfl row149 rfl
instance : TRow Tryz.prog 150 #[Go.Value.nilFunc] 1 8 := TRow.of Tryz.zeroValue150 rfl row150 rfl
instance : TRow Tryz.prog 151 #[Go.Value.nilFunc] 1 8 := TRow.of Tryz.zeroValue151 rfl row151 rfl
instance : TRow Tryz.prog 152 #[Go.Value.nilFunc] 1 8 := TRow.of Tryz.zeroValue152 rfl row152 rfl
instance : TRow Tryz.prog 153 #[Go.Value.nilFunc] 1 8 := TRow.of Tryz.zeroValue153 rfl row153 rfl
instance : TRow Tryz.prog 154 #[Go.Value.nilFunc] 1 8 := TRow.of Tryz.zeroValue154 rfl row154 rfl
instance : TRow Tryz.prog 155 zc155 2 16 := TRow.of Tryz.zeroValue155 rfl row155 rfl
instance : TRow Tryz.prog 156 zc156 2 16 := TRow.of Tryz.zeroValue156 rfl row156 rfl
instance : TRow Tryz.prog 157 #[Go.Value.nilFunc] 1 8 := TRow.of Tryz.zeroValue157 rfl row157 rfl
instance : TRow Tryz.prog 158 #[Go.Value.nilFunc] 1 8 := TRow.of Tryz.zeroValue158 rfl row158 rfl
instance : TRow Tryz.prog 159 #[Go.Value.nilFunc] 1 8 := TRow.of Tryz.zeroValue159 rfl row159 rfl
instance : TRow Tryz.prog 160 #[Go.Value.nilFunc] 1 8 := TRow.of Tryz.zeroValue160 rfl row160 rfl
instance : TRow Tryz.prog 161 zc161 3 24 := TRow.of Tryz.zeroValue161 rfl row161 rfl
instance : TRow Tryz.prog 162 #[Go.Value.nilFunc] 1 8 := TRow.of Tryz.zeroValue162 rfl row162 rfl
instance : TRow Tryz.prog 163 #[Go.Value.nilFunc] 1 8 := TRow.of Tryz.zeroValue163 rfl row163 rfl
instance : TRow Tryz.prog 164 #[Go.Value.nilFunc] 1 8 := TRow.of Tryz.zeroValue164 rfl row164 rfl
instance : TRow Tryz.prog 165 #[Go.Value.slice Option.none 0 0] 1 24 := TRow.of Tryz.zeroValue165 rfl row165 rfl
instance : TRow Tryz.prog 166 #[Go.Value.nilFunc] 1 8 := TRow.of Tryz.zeroValue166 rfl row166 rfl
instance : TRow Tryz.prog 167 #[Go.Value.nilFunc] 1 8 := TRow.of Tryz.zeroValue167 rfl row167 rfl
instance : TRow Tryz.prog 168 zc168 6 48 := TRow.of Tryz.zeroValue168 rfl row168 rfl
instance : TRow Tryz.prog 169 zc169 6 48 := TRow.of Tryz.zeroValue169 rfl row169 rfl
instance : TRow Tryz.prog 170 #[Go.Value.nilFunc] 1 8 := TRow.of Tryz.zeroValue170 rfl row170 rfl
instance : TRow Tryz.prog 171 #[Go.Value.nilFunc] 1 8 := TRow.of Tryz.zeroValue171 rfl row171 rfl
instance : TRow Tryz.prog 172 #[Go.Value.nilFunc] 1 8 := TRow.of Tryz.zeroValue172 rfl row172 rfl
instance : TRow Tryz.prog 173 zc173 1 8 := TRow.of Tryz.zeroValue173 rfl row173 rfl
instance : TRow Tryz.prog 174 zc174 1 8 := TRow.of Tryz.zeroValue174 rfl row174 rfl
instance : TRow Tryz.prog 175 #[Go.Value.nilFunc] 1 8 := TRow.of Tryz.zeroValue175 rfl row175 rfl
instance : TRow Tryz.prog 176 #[Go.Value.int Go.IntKind.i64 0] 1 8 := TRow.of Tryz.zeroValue176 rfl row176 rfl
instance : TRow Tryz.prog 177 #[Go.Value.tuple #[Go.Value.int Go.IntKind.i64 0, Go.Value.int Go.IntKind.i64 0]] 1 0 := TRow.of Tryz.zeroValue177 rfl row177 rfl
instance : TRow Tryz.prog 178 #[Go.Value.nilFunc] 1 8 := TRow.of Tryz.zeroValue178 rfl row178 rfl
instance : TRow Tryz.prog 179 #[Go.Value.nilFunc] 1 8 := TRow.of Tryz.zeroValue179 rfl row179 rfl
instance : TRow Tryz.prog 180 #[Go.Value.nilFunc] 1 8 := TRow.of Tryz.zeroValue180 rfl row180 rfl
instance : TRow Tryz.prog 181 #[Go.Value.tuple #[Go.Value.int Go.IntKind.i64 0, Go.Value.bool Bool.false]] 1 0 := TRow.of Tryz.zeroValue181 rfl row181 rfl
instance : TRow Tryz.prog 182 #[Go.Value.nilFunc] 1 8 := TRow.of Tryz.zeroValue182 rfl row182 rfl
instance : TRow Tryz.prog 183 #[Go.Value.nilFunc] 1 8 := TRow.of Tryz.zeroValue183 rfl row183 rfl
instance : TRow Tryz.prog 184 #[Go.Value.int Go.IntKind.u32 0] 1 4 := TRow.of Tryz.zeroValue184 rfl row184 rfl
instance : TRow Tryz.prog 185 #[Go.Value.nilFunc] 1 8 := TRow.of Tryz.zeroValue185 rfl row185 rfl
instance : TRow Tryz.prog 186 #[Go.Value.int Go.IntKind.u64 0] 1 8 := TRow.of Tryz.zeroValue186 rfl row186 rfl
instance : TRow Tryz.prog 187 #[Go.Value.nilFunc] 1 8 := TRow.of Tryz.zeroValue187 rfl row187 rfl
instance : TRow Tryz.prog 188 #[Go.Value.nilFunc] 1 8 := TRow.of Tryz.zeroValue188 rfl row188 rfl
instance : TRow Tryz.prog 189 zc189 3 24 := TRow.of Tryz.zeroValue189 rfl row189 rfl
instance : TRow Tryz.prog 190 zc190 3 24 := TRow.of Tryz.zeroValue190 rfl row190 rfl
instance : TRow Tryz.prog 191 zc191 24 192 := TRow.of Tryz.zeroValue191 rfl row191 rfl
instance : TRow Tryz.prog 192 #[Go.Value.nilFunc] 1 8 := TRow.of Tryz.zeroValue192 rfl row192 rfl
instance : TRow Tryz.prog 193 #[Go.Value.nilFunc] 1 8 := TRow.of Tryz.zeroValue193 rfl row193 rfl
instance : TRow Tryz.prog 194 #[Go.Value.nilFunc] 1 8 := TRow.of Tryz.zeroValue194 rfl row194 rfl
instance : TRow Tryz.prog 195 #[Go.Value.nilFunc] 1 8 := TRow.of Tryz.zeroValue195 rfl row195 rfl
instance : TRow Tryz.prog 196 #[Go.Value.nilFunc] 1 8 := TRow.of Tryz.zeroValue196 rfl row196 rfl
instance : TRow Tryz.prog 197 #[Go.Value.nilFunc] 1 8 := TRow.of Tryz.zeroValue197 rfl row197 rfl
instance : TRow Tryz.prog 198 #[Go.Value.nilFunc] 1 8 := TRow.of Tryz.zeroValue198 rfl row198 rfl
instance : TRow Tryz.prog 199 #[Go.Value.int Go.IntKind.u64 0] 1 8 := TRow.of Tryz.zeroValue199 rfl row199 rfl
instance : TRow Tryz.prog 200 #[Go.Value.nilFunc] 1 8 := TRow.of Tryz.zeroValue200 rfl row200 rfl
instance : TRow Tryz.prog 201 #[Go.Value.nilFunc] 1 8 := TRow.of Tryz.zeroValue201 rfl row201 rfl
instance : TRow Tryz.prog 202 #[Go.Value.nilFunc] 1 8 := TRow.of Tryz.zeroValue202 rfl row202 rfl
instance : TRow Tryz.prog 203 #[Go.Value.pointer Option.none] 1 8 := TRow.of Tryz.zeroValue203 rfl row203 rfl
instance : TRow Tryz.prog 204 #[Go.Value.nilFunc] 1 8 := TRow.of Tryz.zeroValue204 rfl row204 rfl
instance : TRow Tryz.prog 205 zc205 4 4 := TRow.of Tryz.zeroValue205 rfl row205 rfl
instance : TRow Tryz.prog 206 #[Go.Value.pointer Option.none] 1 8 := TRow.of Tryz.zeroValue206 rfl row206 rfl
instance : TRow Tryz.prog 207 #[Go.Value.tuple #[Go.Value.int Go.IntKind.i64 0, Go.Value.int Go.IntKind.i64 0]] 1 0 := TRow.of Tryz.zeroValue207 rfl row207 rfl
instance : TRow Tryz.prog 208 #[Go.Value.nilFunc] 1 8 := TRow.of Tryz.zeroValue208 rfl row208 rfl
instance : TRow Tryz.prog 209 zc209 6 32 := TRow.of Tryz.zeroValue209 rfl row209 rfl
instance : TRow Tryz.prog 210 zc210 6 32 := TRow.of Tryz.zeroValue210 rfl row210 rfl
instance : TRow Tryz.prog 211 #[Go.Value.nilFunc] 1 8 := TRow.of Tryz.zeroValue211 rfl row211 rfl
instance : TRow Tryz.prog 212 #[Go.Value.nilFunc] 1 8 := TRow.of Tryz.zeroValue212 rfl row212 rfl
instance : TRow Tryz.prog 213 #[Go.Value.nilFunc] 1 8 := TRow.of Tryz.zeroValue213 rfl row213 rfl
instance : TRow Tryz.prog 214 #[Go.Value.nilFunc] 1 8 := TRow.of Tryz.zeroValue214 rfl row214 rfl
instance : TRow Tryz.prog 215 #[Go.Value.nilFunc] 1 8 := TRow.of Tryz.zeroValue215 rfl row215 rfl
instance : TRow Tryz.prog 216 zc216 4 40 := TRow.of Tryz.zeroValue216 rfl row216 rfl
instance : TRow Tryz.prog 217 zc217 4 40 := TRow.of Tryz.zeroValue217 rfl row217 rfl
instance : TRow Tryz.prog 221 #[Go.Value.int Go.IntKind.u8 0] 1 1 := TRow.of Tryz.zeroValue221 rfl row221 rfl
instance : TRow Tryz.prog 222 #[Go.Value.int Go.IntKind.u8 0] 1 1 := TRow.of Tryz.zeroValue222 rfl row222 rfl
instance : TRow Tryz.prog 223 #[Go.Value.nilFunc] 1 8 := TRow.of Tryz.zeroValue223 rfl row223 rfl
instance : TRow Tryz.prog 224 #[Go.Value.pointer Option.none] 1 8 := TRow.of Tryz.zeroValue224 rfl row224 rfl
instance : TRow Tryz.prog 225 #[Go.Value.int Go.IntKind.i32 0] 1 4 := TRow.of Tryz.zeroValue225 rfl row225 rfl
instance : TRow Tryz.prog 226 #[Go.Value.int Go.IntKind.i32 0] 1 4 := TRow.of Tryz.zeroValue226 rfl row226 rfl
instance : TRow Tryz.prog 227 zc227 11 48 := TRow.of Tryz.zeroValue227 rfl row227 rfl
instance : TRow Tryz.prog 228 zc228 11 48 := TRow.of Tryz.zeroValue228 rfl row228 rfl
instance : TRow Tryz.prog 229 #[Go.Value.pointer Option.none] 1 8 := TRow.of Tryz.zeroValue229 rfl row229 rfl
instance : FCall Tryz.prog 71 := ⟨Tryz.call71⟩
instance : FCall Tryz.prog 138 := ⟨Tryz.call138⟩
instance : FCall Tryz.prog 99 := ⟨Tryz.call99⟩
instance : FCall Tryz.prog 115 := ⟨Tryz.call115⟩
instance : FCall Tryz.prog 135 := ⟨Tryz.call135⟩
instance : FCall Tryz.prog 74 := ⟨Tryz.call74⟩
instance : FCall Tryz.prog 28 := ⟨Tryz.call28⟩
instance : FCall Tryz.prog 136 := ⟨Tryz.call136⟩
instance : FCall Tryz.prog 140 := ⟨Tryz.call140⟩
instance : FCall Tryz.prog 88 := ⟨Tryz.call88⟩
instance : FCall Tryz.prog 63 := ⟨Tryz.call63⟩
instance : FCall Tryz.prog 15 := ⟨Tryz.call15⟩
instance : FCall Tryz.prog 127 := ⟨Tryz.call127⟩
instance : FCall Tryz.prog 24 := ⟨Tryz.call24⟩
instance : FCall Tryz.prog 112 := ⟨Tryz.call112⟩
instance : FCall Tryz.prog 66 := ⟨Tryz.call66⟩
instance : FCall Tryz.prog 18 := ⟨Tryz.call18⟩
instance : FCall Tryz.prog 51 := ⟨Tryz.call51⟩
instance : FCall Tryz.prog 23 := ⟨Tryz.call23⟩
instance : FCall Tryz.prog 33 := ⟨Tryz.call33⟩
instance : FCall Tryz.prog 54 := ⟨Tryz.call54⟩
instance : FCall Tryz.prog 141 := ⟨Tryz.call141⟩
instance : FCall Tryz.prog 39 := ⟨Tryz.call39⟩
instance : FCall Tryz.prog 47 := ⟨Tryz.call47⟩
instance : FCall Tryz.prog 4 := ⟨Tryz.call4⟩
instance : FCall Tryz.prog 64 := ⟨Tryz.call64⟩
instance : FCall Tryz.prog 42 := ⟨Tryz.call42⟩
instance : FCall Tryz.prog 16 := ⟨Tryz.call16⟩
instance : FCall Tryz.prog 26 := ⟨Tryz.call26⟩
instance : FCall Tryz.prog 80 := ⟨Tryz.call80⟩
instance : FCall Tryz.prog 44 := ⟨Tryz.call44⟩
instance : FCall Tryz.prog 82 := ⟨Tryz.call82⟩
instance : FCall Tryz.prog 131 := ⟨Tryz.call131⟩
instance : FCall Tryz.prog 106 := ⟨Tryz.call106⟩
instance : FCall Tryz.prog 8 := ⟨Tryz.call8⟩
instance : FCall Tryz.prog 6 := ⟨Tryz.call6⟩
instance : FCall Tryz.prog 10 := ⟨Tryz.call10⟩
instance : FCall Tryz.prog 78 := ⟨Tryz.call78⟩
instance : FCall Tryz.prog 25 := ⟨Tryz.call25⟩
instance : FCall Tryz.prog 77 := ⟨Tryz.call77⟩
instance : FCall Tryz.prog 103 := ⟨Tryz.call103⟩
instance : FCall Tryz.prog 31 := ⟨Tryz.call31⟩
instance : FCall Tryz.prog 32 := ⟨Tryz.call32⟩
instance : FCall Tryz.prog 57 := ⟨Tryz.call57⟩
instance : FCall Tryz.prog 34 := ⟨Tryz.call34⟩
instance : FCall Tryz.prog 134 := ⟨Tryz.call134⟩
instance : FCall Tryz.prog 7 := ⟨Tryz.call7⟩
instance : FCall Tryz.prog 50 := ⟨Tryz.call50⟩
instance : FCall Tryz.prog 35 := ⟨Tryz.call35⟩
instance : FCall Tryz.prog 128 := ⟨Tryz.call128⟩
instance : FCall Tryz.prog 126 := ⟨Tryz.call126⟩
instance : FCall Tryz.prog 121 := ⟨Tryz.call121⟩
instance : FCall Tryz.prog 124 := ⟨Tryz.call124⟩
instance : FCall Tryz.prog 67 := ⟨Tryz.call67⟩
instance : FCall Tryz.prog 40 := ⟨Tryz.call40⟩
instance : FCall Tryz.prog 11 := ⟨Tryz.call11⟩
instance : FCall Tryz.prog 113 := ⟨Tryz.call113⟩
instance : FCall Tryz.prog 73 := ⟨Tryz.call73⟩
instance : FCall Tryz.prog 14 := ⟨Tryz.call14⟩
instance : FCall Tryz.prog 55 := ⟨Tryz.call55⟩
instance : FCall Tryz.prog 137 := ⟨Tryz.call137⟩
instance : FCall Tryz.prog 95 := ⟨Tryz.call95⟩
instance : FCall Tryz.prog 62 := ⟨Tryz.call62⟩
instance : FCall Tryz.prog 49 := ⟨Tryz.call49⟩
instance : FCall Tryz.prog 68 := ⟨Tryz.call68⟩
instance : FCall Tryz.prog 17 := ⟨Tryz.call17⟩
instance : FCall Tryz.prog 122 := ⟨Tryz.call122⟩
instance : FCall Tryz.prog 120 := ⟨Tryz.call120⟩
instance : FCall Tryz.prog 46 := ⟨Tryz.call46⟩
instance : FCall Tryz.prog 60 := ⟨Tryz.call60⟩
instance : FCall Tryz.prog 36 := ⟨Tryz.call36⟩
instance : FCall Tryz.prog 145 := ⟨Tryz.call145⟩
instance : FCall Tryz.prog 109 := ⟨Tryz.call109⟩
instance : FCall Tryz.prog 58 := ⟨Tryz.call58⟩
instance : FCall Tryz.prog 116 := ⟨Tryz.call116⟩
instance : FCall Tryz.prog 20 := ⟨Tryz.call20⟩
instance : FCall Tryz.prog 107 := ⟨Tryz.call107⟩
instance : FCall Tryz.prog 86 := ⟨Tryz.call86⟩
instance : FCall Tryz.prog 81 := ⟨Tryz.call81⟩
instance : FCall Tryz.prog 29 := ⟨Tryz.call29⟩
instance : FCall Tryz.prog 102 := ⟨Tryz.call102⟩
instance : FCall Tryz.prog 79 := ⟨Tryz.call79⟩
instance : FCall Tryz.prog 21 := ⟨Tryz.call21⟩
instance : FCall Tryz.prog 41 := ⟨Tryz.call41⟩
instance : FCall Tryz.prog 89 := ⟨Tryz.call89⟩
instance : FCall Tryz.prog 129 := ⟨Tryz.call129⟩
instance : FCall Tryz.prog 65 := ⟨Tryz.call65⟩
instance : FCall Tryz.prog 69 := ⟨Tryz.call69⟩
instance : FCall Tryz.prog 9 := ⟨Tryz.call9⟩
instance : FCall Tryz.prog 105 := ⟨Tryz.call105⟩
instance : FCall Tryz.prog 97 := ⟨Tryz.call97⟩
instance : FCall Tryz.prog 61 := ⟨Tryz.call61⟩
instance : FCall Tryz.prog 90 := ⟨Tryz.call90⟩
instance : FCall Tryz.prog 111 := ⟨Tryz.call111⟩
instance : FCall Tryz.prog 133 := ⟨Tryz.call133⟩
instance : FCall Tryz.prog 142 := ⟨Tryz.call142⟩
instance : FCall Tryz.prog 100 := ⟨Tryz.call100⟩
instance : FCall Tryz.prog 108 := ⟨Tryz.call108⟩
instance : FCall Tryz.prog 139 := ⟨Tryz.call139⟩
instance : FCall Tryz.prog 130 := ⟨Tryz.call130⟩
instance : FCall Tryz.prog 119 := ⟨Tryz.call119⟩
instance : FCall Tryz.prog 75 := ⟨Tryz.call75⟩
instance : FCall Tryz.prog 118 := ⟨Tryz.call118⟩
instance : FCall Tryz.prog 13 := ⟨Tryz.call13⟩
instance : FCall Tryz.prog 76 := ⟨Tryz.call76⟩
instance : FCall Tryz.prog 52 := ⟨Tryz.call52⟩
instance : FCall Tryz.prog 143 := ⟨Tryz.call143⟩
instance : FCall Tryz.prog 19 := ⟨Tryz.call19⟩
instance : FCall Tryz.prog 117 := ⟨Tryz.call117⟩
instance : FCall Tryz.prog 92 := ⟨Tryz.call92⟩
instance : FCall Tryz.prog 91 := ⟨Tryz.call91⟩
instance : FCall Tryz.prog 22 := ⟨Tryz.call22⟩
instance : FCall Tryz.prog 132 := ⟨Tryz.call132⟩
instance : FCall Tryz.prog 27 := ⟨Tryz.call27⟩
instance : FCall Tryz.prog 5 := ⟨Tryz.call5⟩
instance : FCall Tryz.prog 72 := ⟨Tryz.call72⟩
instance : FCall Tryz.prog 101 := ⟨Tryz.call101⟩
instance : FCall Tryz.prog 45 := ⟨Tryz.call45⟩
instance : FCall Tryz.prog 3 := ⟨Tryz.call3⟩
instance : FCall Tryz.prog 70 := ⟨Tryz.call70⟩
instance : FCall Tryz.prog 30 := ⟨Tryz.call30⟩
instance : FCall Tryz.prog 2 := ⟨Tryz.call2⟩
instance : FCall Tryz.prog 83 := ⟨Tryz.call83⟩
instance : FCall Tryz.prog 38 := ⟨Tryz.call38⟩
instance : FCall Tryz.prog 37 := ⟨Tryz.call37⟩
instance : FCall Tryz.prog 85 := ⟨Tryz.call85⟩
instance : FCall Tryz.prog 146 := ⟨Tryz.call146⟩
instance : FCall Tryz.prog 147 := ⟨Tryz.call147⟩
instance : FCall Tryz.prog 87 := ⟨Tryz.call87⟩
instance : FCall Tryz.prog 144 := ⟨Tryz.call144⟩
instance : FCall Tryz.prog 12 := ⟨Tryz.call12⟩
instance : FCall Tryz.prog 53 := ⟨Tryz.call53⟩
instance : FCall Tryz.prog 48 := ⟨Tryz.call48⟩
instance : FCall Tryz.prog 98 := ⟨Tryz.call98⟩
instance : FCall Tryz.prog 43 := ⟨Tryz.call43⟩
instance : FCall Tryz.prog 110 := ⟨Tryz.call110⟩
instance : FCall Tryz.prog 93 := ⟨Tryz.call93⟩
instance : FCall Tryz.prog 114 := ⟨Tryz.call114⟩
instance : FCall Tryz.prog 125 := ⟨Tryz.call125⟩
instance : FCall Tryz.prog 96 := ⟨Tryz.call96⟩
instance : FCall Tryz.prog 84 := ⟨Tryz.call84⟩
instance : FCall Tryz.prog 56 := ⟨Tryz.call56⟩
instance : FCall Tryz.prog 94 := ⟨Tryz.call94⟩
instance : FCall Tryz.prog 104 := ⟨Tryz.call104⟩
instance : FCall Tryz.prog 123 := ⟨Tryz.call123⟩
instance : FCall Tryz.prog 59 := ⟨Tryz.call59⟩
theorem mixed : Tryz.prog.follows .mixedOrders = true := by kernel_rfl
end Go.Proofs.YtnpiiphiiaiodaaGreat
