/-
  Facts on this seat's program's types and functions, out of the loaded program's own, in the form that the symbolic execution asks. Written by a program of mine (wip/tyfacts.sh). It proves no statement by itself.
-/
import Derived.Test.YtnpiiphiiaiodaaRows
import Derived.Test.YtnpiiphiiaiodaaGo
namespace Go.Proofs.Ytnpiiphiiaiodaa

instance : TSize Try.prog 0 1 := ⟨Try.sizeOf0⟩
instance : TAgg Try.prog 0 false := ⟨Try.isAgg0⟩
instance : TZero Try.prog 0 (Go.Value.tuple #[]) := ⟨Try.zeroValue0⟩
theorem row0 : (Try.prog.info? 0).map (fun i => (i.size, i.bytes)) = some (1, 0) := by kernel_rfl
instance : TSize Try.prog 1 1 := ⟨Try.sizeOf1⟩
instance : TAgg Try.prog 1 false := ⟨Try.isAgg1⟩
instance : TZero Try.prog 1 (Go.Value.nilFunc) := ⟨Try.zeroValue1⟩
theorem row1 : (Try.prog.info? 1).map (fun i => (i.size, i.bytes)) = some (1, 8) := by kernel_rfl
instance : TSize Try.prog 2 1 := ⟨Try.sizeOf2⟩
instance : TAgg Try.prog 2 false := ⟨Try.isAgg2⟩
instance : TZero Try.prog 2 (Go.Value.int Go.IntKind.i64 0) := ⟨Try.zeroValue2⟩
theorem row2 : (Try.prog.info? 2).map (fun i => (i.size, i.bytes)) = some (1, 8) := by kernel_rfl
instance : TUnd Try.prog 2 (.int Go.IntKind.i64) := ⟨Try.underlying2⟩
instance : TSize Try.prog 3 1 := ⟨Try.sizeOf3⟩
instance : TAgg Try.prog 3 false := ⟨Try.isAgg3⟩
instance : TZero Try.prog 3 (Go.Value.int Go.IntKind.i64 0) := ⟨Try.zeroValue3⟩
theorem row3 : (Try.prog.info? 3).map (fun i => (i.size, i.bytes)) = some (1, 8) := by kernel_rfl
instance : TUnd Try.prog 3 (.int Go.IntKind.i64) := ⟨Try.underlying3⟩
instance : TSize Try.prog 4 1 := ⟨Try.sizeOf4⟩
instance : TAgg Try.prog 4 false := ⟨Try.isAgg4⟩
instance : TZero Try.prog 4 (Go.Value.bool Bool.false) := ⟨Try.zeroValue4⟩
theorem row4 : (Try.prog.info? 4).map (fun i => (i.size, i.bytes)) = some (1, 1) := by kernel_rfl
instance : TUnd Try.prog 4 .bool := ⟨Try.underlying4⟩
instance : TSize Try.prog 5 1 := ⟨Try.sizeOf5⟩
instance : TAgg Try.prog 5 false := ⟨Try.isAgg5⟩
instance : TZero Try.prog 5 (Go.Value.int Go.IntKind.u8 0) := ⟨Try.zeroValue5⟩
theorem row5 : (Try.prog.info? 5).map (fun i => (i.size, i.bytes)) = some (1, 1) := by kernel_rfl
instance : TUnd Try.prog 5 (.int Go.IntKind.u8) := ⟨Try.underlying5⟩
instance : TSize Try.prog 6 1 := ⟨Try.sizeOf6⟩
instance : TAgg Try.prog 6 false := ⟨Try.isAgg6⟩
instance : TZero Try.prog 6 (Go.Value.int Go.IntKind.u8 0) := ⟨Try.zeroValue6⟩
theorem row6 : (Try.prog.info? 6).map (fun i => (i.size, i.bytes)) = some (1, 1) := by kernel_rfl
instance : TUnd Try.prog 6 (.int Go.IntKind.u8) := ⟨Try.underlying6⟩
instance : TSize Try.prog 7 4 := ⟨Try.sizeOf7⟩
instance : TAgg Try.prog 7 true := ⟨Try.isAgg7⟩
def zc7 : Array Value :=  #[Go.Value.int Go.IntKind.i64 0, Go.Value.int Go.IntKind.i64 0, Go.Value.bool Bool.false, Go.Value.int Go.IntKind.u8 0]
theorem zc7_size : zc7.size = 4 := rfl
instance : TZero Try.prog 7 (.agg zc7) := ⟨Try.zeroValue7⟩
theorem row7 : (Try.prog.info? 7).map (fun i => (i.size, i.bytes)) = some (4, 24) := by kernel_rfl
instance : TFld Try.prog 7 0 0 2 1 := ⟨⟨_, _, Try.underlying7, rfl, rfl, rfl, Try.sizeOf2, by decide⟩⟩
instance : TFld Try.prog 7 1 1 3 1 := ⟨⟨_, _, Try.underlying7, rfl, rfl, rfl, Try.sizeOf3, by decide⟩⟩
instance : TFld Try.prog 7 2 2 4 1 := ⟨⟨_, _, Try.underlying7, rfl, rfl, rfl, Try.sizeOf4, by decide⟩⟩
instance : TFld Try.prog 7 3 3 6 1 := ⟨⟨_, _, Try.underlying7, rfl, rfl, rfl, Try.sizeOf6, by decide⟩⟩
instance : TBuild Try.prog 7 zc7 [(0, 1), (1, 1), (2, 1), (3, 1)] := ⟨fun _ => by kernel_rfl⟩
instance : TSize Try.prog 8 4 := ⟨Try.sizeOf8⟩
instance : TAgg Try.prog 8 true := ⟨Try.isAgg8⟩
def zc8 : Array Value :=  #[Go.Value.int Go.IntKind.i64 0, Go.Value.int Go.IntKind.i64 0, Go.Value.bool Bool.false, Go.Value.int Go.IntKind.u8 0]
theorem zc8_size : zc8.size = 4 := rfl
instance : TZero Try.prog 8 (.agg zc8) := ⟨Try.zeroValue8⟩
theorem row8 : (Try.prog.info? 8).map (fun i => (i.size, i.bytes)) = some (4, 24) := by kernel_rfl
instance : TFld Try.prog 8 0 0 2 1 := ⟨⟨_, _, Try.underlying8, rfl, rfl, rfl, Try.sizeOf2, by decide⟩⟩
instance : TFld Try.prog 8 1 1 3 1 := ⟨⟨_, _, Try.underlying8, rfl, rfl, rfl, Try.sizeOf3, by decide⟩⟩
instance : TFld Try.prog 8 2 2 4 1 := ⟨⟨_, _, Try.underlying8, rfl, rfl, rfl, Try.sizeOf4, by decide⟩⟩
instance : TFld Try.prog 8 3 3 6 1 := ⟨⟨_, _, Try.underlying8, rfl, rfl, rfl, Try.sizeOf6, by decide⟩⟩
instance : TBuild Try.prog 8 zc8 [(0, 1), (1, 1), (2, 1), (3, 1)] := ⟨fun _ => by kernel_rfl⟩
instance : TSize Try.prog 9 1 := ⟨Try.sizeOf9⟩
instance : TAgg Try.prog 9 false := ⟨Try.isAgg9⟩
instance : TZero Try.prog 9 (Go.Value.string { data := #[] }) := ⟨Try.zeroValue9⟩
theorem row9 : (Try.prog.info? 9).map (fun i => (i.size, i.bytes)) = some (1, 16) := by kernel_rfl
instance : TUnd Try.prog 9 .string := ⟨Try.underlying9⟩
instance : TSize Try.prog 10 1 := ⟨Try.sizeOf10⟩
instance : TAgg Try.prog 10 false := ⟨Try.isAgg10⟩
instance : TZero Try.prog 10 (Go.Value.string { data := #[] }) := ⟨Try.zeroValue10⟩
theorem row10 : (Try.prog.info? 10).map (fun i => (i.size, i.bytes)) = some (1, 16) := by kernel_rfl
instance : TUnd Try.prog 10 .string := ⟨Try.underlying10⟩
instance : TSize Try.prog 11 1 := ⟨Try.sizeOf11⟩
instance : TAgg Try.prog 11 false := ⟨Try.isAgg11⟩
instance : TZero Try.prog 11 (Go.Value.string { data := #[] }) := ⟨Try.zeroValue11⟩
theorem row11 : (Try.prog.info? 11).map (fun i => (i.size, i.bytes)) = some (1, 16) := by kernel_rfl
instance : TUnd Try.prog 11 .string := ⟨Try.underlying11⟩
instance : TSize Try.prog 12 1 := ⟨Try.sizeOf12⟩
instance : TAgg Try.prog 12 false := ⟨Try.isAgg12⟩
instance : TZero Try.prog 12 (Go.Value.int Go.IntKind.u64 0) := ⟨Try.zeroValue12⟩
theorem row12 : (Try.prog.info? 12).map (fun i => (i.size, i.bytes)) = some (1, 8) := by kernel_rfl
instance : TUnd Try.prog 12 (.int Go.IntKind.u64) := ⟨Try.underlying12⟩
instance : TSize Try.prog 13 2 := ⟨Try.sizeOf13⟩
instance : TAgg Try.prog 13 true := ⟨Try.isAgg13⟩
def zc13 : Array Value :=  #[Go.Value.string { data := #[] }, Go.Value.int Go.IntKind.u64 0]
theorem zc13_size : zc13.size = 2 := rfl
instance : TZero Try.prog 13 (.agg zc13) := ⟨Try.zeroValue13⟩
theorem row13 : (Try.prog.info? 13).map (fun i => (i.size, i.bytes)) = some (2, 24) := by kernel_rfl
instance : TFld Try.prog 13 0 0 9 1 := ⟨⟨_, _, Try.underlying13, rfl, rfl, rfl, Try.sizeOf9, by decide⟩⟩
instance : TFld Try.prog 13 1 1 12 1 := ⟨⟨_, _, Try.underlying13, rfl, rfl, rfl, Try.sizeOf12, by decide⟩⟩
instance : TBuild Try.prog 13 zc13 [(0, 1), (1, 1)] := ⟨fun _ => by kernel_rfl⟩
instance : TSize Try.prog 14 2 := ⟨Try.sizeOf14⟩
instance : TAgg Try.prog 14 true := ⟨Try.isAgg14⟩
def zc14 : Array Value :=  #[Go.Value.string { data := #[] }, Go.Value.int Go.IntKind.u64 0]
theorem zc14_size : zc14.size = 2 := rfl
instance : TZero Try.prog 14 (.agg zc14) := ⟨Try.zeroValue14⟩
theorem row14 : (Try.prog.info? 14).map (fun i => (i.size, i.bytes)) = some (2, 24) := by kernel_rfl
instance : TFld Try.prog 14 0 0 9 1 := ⟨⟨_, _, Try.underlying14, rfl, rfl, rfl, Try.sizeOf9, by decide⟩⟩
instance : TFld Try.prog 14 1 1 12 1 := ⟨⟨_, _, Try.underlying14, rfl, rfl, rfl, Try.sizeOf12, by decide⟩⟩
instance : TBuild Try.prog 14 zc14 [(0, 1), (1, 1)] := ⟨fun _ => by kernel_rfl⟩
instance : TSize Try.prog 15 1 := ⟨Try.sizeOf15⟩
instance : TAgg Try.prog 15 false := ⟨Try.isAgg15⟩
instance : TZero Try.prog 15 (Go.Value.pointer Option.none) := ⟨Try.zeroValue15⟩
theorem row15 : (Try.prog.info? 15).map (fun i => (i.size, i.bytes)) = some (1, 8) := by kernel_rfl
instance : TUnd Try.prog 15 (.pointer 237) := ⟨Try.underlying15⟩
instance : TSize Try.prog 16 1 := ⟨Try.sizeOf16⟩
instance : TAgg Try.prog 16 false := ⟨Try.isAgg16⟩
instance : TZero Try.prog 16 (Go.Value.pointer Option.none) := ⟨Try.zeroValue16⟩
theorem row16 : (Try.prog.info? 16).map (fun i => (i.size, i.bytes)) = some (1, 8) := by kernel_rfl
instance : TUnd Try.prog 16 (.pointer 240) := ⟨Try.underlying16⟩
instance : TSize Try.prog 17 1 := ⟨Try.sizeOf17⟩
instance : TAgg Try.prog 17 false := ⟨Try.isAgg17⟩
instance : TZero Try.prog 17 (Go.Value.pointer Option.none) := ⟨Try.zeroValue17⟩
theorem row17 : (Try.prog.info? 17).map (fun i => (i.size, i.bytes)) = some (1, 8) := by kernel_rfl
instance : TUnd Try.prog 17 (.pointer 247) := ⟨Try.underlying17⟩
instance : TSize Try.prog 18 1 := ⟨Try.sizeOf18⟩
instance : TAgg Try.prog 18 true := ⟨Try.isAgg18⟩
def zc18 : Array Value :=  #[Go.Value.pointer Option.none]
theorem zc18_size : zc18.size = 1 := rfl
instance : TZero Try.prog 18 (.agg zc18) := ⟨Try.zeroValue18⟩
theorem row18 : (Try.prog.info? 18).map (fun i => (i.size, i.bytes)) = some (1, 8) := by kernel_rfl
instance : TFld Try.prog 18 0 0 17 1 := ⟨⟨_, _, Try.underlying18, rfl, rfl, rfl, Try.sizeOf17, by decide⟩⟩
instance : TBuild Try.prog 18 zc18 [(0, 1)] := ⟨fun _ => by kernel_rfl⟩
instance : TSize Try.prog 19 1 := ⟨Try.sizeOf19⟩
instance : TAgg Try.prog 19 true := ⟨Try.isAgg19⟩
def zc19 : Array Value :=  #[Go.Value.pointer Option.none]
theorem zc19_size : zc19.size = 1 := rfl
instance : TZero Try.prog 19 (.agg zc19) := ⟨Try.zeroValue19⟩
theorem row19 : (Try.prog.info? 19).map (fun i => (i.size, i.bytes)) = some (1, 8) := by kernel_rfl
instance : TFld Try.prog 19 0 0 17 1 := ⟨⟨_, _, Try.underlying19, rfl, rfl, rfl, Try.sizeOf17, by decide⟩⟩
instance : TBuild Try.prog 19 zc19 [(0, 1)] := ⟨fun _ => by kernel_rfl⟩
instance : TSize Try.prog 20 1 := ⟨Try.sizeOf20⟩
instance : TAgg Try.prog 20 false := ⟨Try.isAgg20⟩
instance : TZero Try.prog 20 (Go.Value.nilIface) := ⟨Try.zeroValue20⟩
theorem row20 : (Try.prog.info? 20).map (fun i => (i.size, i.bytes)) = some (1, 16) := by kernel_rfl
instance : TUnd Try.prog 20 (Go.TypeDesc.interface #[]) := ⟨Try.underlying20⟩
instance : TSize Try.prog 21 1 := ⟨Try.sizeOf21⟩
instance : TAgg Try.prog 21 false := ⟨Try.isAgg21⟩
instance : TZero Try.prog 21 (Go.Value.int Go.IntKind.i32 0) := ⟨Try.zeroValue21⟩
theorem row21 : (Try.prog.info? 21).map (fun i => (i.size, i.bytes)) = some (1, 4) := by kernel_rfl
instance : TUnd Try.prog 21 (.int Go.IntKind.i32) := ⟨Try.underlying21⟩
instance : TSize Try.prog 22 4 := ⟨Try.sizeOf22⟩
instance : TAgg Try.prog 22 true := ⟨Try.isAgg22⟩
def zc22 : Array Value :=  #[Go.Value.int Go.IntKind.i64 0, Go.Value.int Go.IntKind.i64 0, Go.Value.int Go.IntKind.i64 0, Go.Value.int Go.IntKind.i64 0]
theorem zc22_size : zc22.size = 4 := rfl
instance : TZero Try.prog 22 (.agg zc22) := ⟨Try.zeroValue22⟩
theorem row22 : (Try.prog.info? 22).map (fun i => (i.size, i.bytes)) = some (4, 32) := by kernel_rfl
instance : TFld Try.prog 22 0 0 3 1 := ⟨⟨_, _, Try.underlying22, rfl, rfl, rfl, Try.sizeOf3, by decide⟩⟩
instance : TFld Try.prog 22 1 1 2 1 := ⟨⟨_, _, Try.underlying22, rfl, rfl, rfl, Try.sizeOf2, by decide⟩⟩
instance : TFld Try.prog 22 2 2 2 1 := ⟨⟨_, _, Try.underlying22, rfl, rfl, rfl, Try.sizeOf2, by decide⟩⟩
instance : TFld Try.prog 22 3 3 3 1 := ⟨⟨_, _, Try.underlying22, rfl, rfl, rfl, Try.sizeOf3, by decide⟩⟩
instance : TBuild Try.prog 22 zc22 [(0, 1), (1, 1), (2, 1), (3, 1)] := ⟨fun _ => by kernel_rfl⟩
instance : TSize Try.prog 23 4 := ⟨Try.sizeOf23⟩
instance : TAgg Try.prog 23 true := ⟨Try.isAgg23⟩
def zc23 : Array Value :=  #[Go.Value.int Go.IntKind.i64 0, Go.Value.int Go.IntKind.i64 0, Go.Value.int Go.IntKind.i64 0, Go.Value.int Go.IntKind.i64 0]
theorem zc23_size : zc23.size = 4 := rfl
instance : TZero Try.prog 23 (.agg zc23) := ⟨Try.zeroValue23⟩
theorem row23 : (Try.prog.info? 23).map (fun i => (i.size, i.bytes)) = some (4, 32) := by kernel_rfl
instance : TFld Try.prog 23 0 0 3 1 := ⟨⟨_, _, Try.underlying23, rfl, rfl, rfl, Try.sizeOf3, by decide⟩⟩
instance : TFld Try.prog 23 1 1 2 1 := ⟨⟨_, _, Try.underlying23, rfl, rfl, rfl, Try.sizeOf2, by decide⟩⟩
instance : TFld Try.prog 23 2 2 2 1 := ⟨⟨_, _, Try.underlying23, rfl, rfl, rfl, Try.sizeOf2, by decide⟩⟩
instance : TFld Try.prog 23 3 3 3 1 := ⟨⟨_, _, Try.underlying23, rfl, rfl, rfl, Try.sizeOf3, by decide⟩⟩
instance : TBuild Try.prog 23 zc23 [(0, 1), (1, 1), (2, 1), (3, 1)] := ⟨fun _ => by kernel_rfl⟩
instance : TSize Try.prog 24 2 := ⟨Try.sizeOf24⟩
instance : TAgg Try.prog 24 true := ⟨Try.isAgg24⟩
def zc24 : Array Value :=  #[Go.Value.int Go.IntKind.i64 0, Go.Value.int Go.IntKind.i64 0]
theorem zc24_size : zc24.size = 2 := rfl
instance : TZero Try.prog 24 (.agg zc24) := ⟨Try.zeroValue24⟩
theorem row24 : (Try.prog.info? 24).map (fun i => (i.size, i.bytes)) = some (2, 16) := by kernel_rfl
instance : TUnd Try.prog 24 (.array 2 2) := ⟨Try.underlying24⟩
instance : TSize Try.prog 25 1 := ⟨Try.sizeOf25⟩
instance : TAgg Try.prog 25 false := ⟨Try.isAgg25⟩
instance : TZero Try.prog 25 (Go.Value.slice Option.none 0 0) := ⟨Try.zeroValue25⟩
theorem row25 : (Try.prog.info? 25).map (fun i => (i.size, i.bytes)) = some (1, 24) := by kernel_rfl
instance : TUnd Try.prog 25 (.slice 24) := ⟨Try.underlying25⟩
instance : TSize Try.prog 26 6 := ⟨Try.sizeOf26⟩
instance : TAgg Try.prog 26 true := ⟨Try.isAgg26⟩
def zc26 : Array Value :=  #[Go.Value.int Go.IntKind.i64 0, Go.Value.int Go.IntKind.i64 0, Go.Value.int Go.IntKind.i64 0, Go.Value.int Go.IntKind.i64 0, Go.Value.int Go.IntKind.i64 0, Go.Value.slice Option.none 0 0]
theorem zc26_size : zc26.size = 6 := rfl
instance : TZero Try.prog 26 (.agg zc26) := ⟨Try.zeroValue26⟩
theorem row26 : (Try.prog.info? 26).map (fun i => (i.size, i.bytes)) = some (6, 64) := by kernel_rfl
instance : TFld Try.prog 26 0 0 23 4 := ⟨⟨_, _, Try.underlying26, rfl, rfl, rfl, Try.sizeOf23, by decide⟩⟩
instance : TFld Try.prog 26 1 4 2 1 := ⟨⟨_, _, Try.underlying26, rfl, rfl, rfl, Try.sizeOf2, by decide⟩⟩
instance : TFld Try.prog 26 2 5 25 1 := ⟨⟨_, _, Try.underlying26, rfl, rfl, rfl, Try.sizeOf25, by decide⟩⟩
instance : TBuild Try.prog 26 zc26 [(0, 4), (4, 1), (5, 1)] := ⟨fun _ => by kernel_rfl⟩
instance : TSize Try.prog 27 1 := ⟨Try.sizeOf27⟩
instance : TAgg Try.prog 27 false := ⟨Try.isAgg27⟩
instance : TZero Try.prog 27 (Go.Value.slice Option.none 0 0) := ⟨Try.zeroValue27⟩
theorem row27 : (Try.prog.info? 27).map (fun i => (i.size, i.bytes)) = some (1, 24) := by kernel_rfl
instance : TUnd Try.prog 27 (.slice 26) := ⟨Try.underlying27⟩
instance : TSize Try.prog 28 1 := ⟨Try.sizeOf28⟩
instance : TAgg Try.prog 28 false := ⟨Try.isAgg28⟩
instance : TZero Try.prog 28 (Go.Value.nilFunc) := ⟨Try.zeroValue28⟩
theorem row28 : (Try.prog.info? 28).map (fun i => (i.size, i.bytes)) = some (1, 8) := by kernel_rfl
instance : TSize Try.prog 29 1 := ⟨Try.sizeOf29⟩
instance : TAgg Try.prog 29 false := ⟨Try.isAgg29⟩
instance : TZero Try.prog 29 (Go.Value.nilFunc) := ⟨Try.zeroValue29⟩
theorem row29 : (Try.prog.info? 29).map (fun i => (i.size, i.bytes)) = some (1, 8) := by kernel_rfl
instance : TSize Try.prog 30 1 := ⟨Try.sizeOf30⟩
instance : TAgg Try.prog 30 false := ⟨Try.isAgg30⟩
instance : TZero Try.prog 30 (Go.Value.nilFunc) := ⟨Try.zeroValue30⟩
theorem row30 : (Try.prog.info? 30).map (fun i => (i.size, i.bytes)) = some (1, 8) := by kernel_rfl
instance : TSize Try.prog 31 1 := ⟨Try.sizeOf31⟩
instance : TAgg Try.prog 31 false := ⟨Try.isAgg31⟩
instance : TZero Try.prog 31 (Go.Value.nilFunc) := ⟨Try.zeroValue31⟩
theorem row31 : (Try.prog.info? 31).map (fun i => (i.size, i.bytes)) = some (1, 8) := by kernel_rfl
instance : TSize Try.prog 32 1 := ⟨Try.sizeOf32⟩
instance : TAgg Try.prog 32 false := ⟨Try.isAgg32⟩
instance : TZero Try.prog 32 (Go.Value.nilFunc) := ⟨Try.zeroValue32⟩
theorem row32 : (Try.prog.info? 32).map (fun i => (i.size, i.bytes)) = some (1, 8) := by kernel_rfl
instance : TSize Try.prog 33 1 := ⟨Try.sizeOf33⟩
instance : TAgg Try.prog 33 false := ⟨Try.isAgg33⟩
instance : TZero Try.prog 33 (Go.Value.nilFunc) := ⟨Try.zeroValue33⟩
theorem row33 : (Try.prog.info? 33).map (fun i => (i.size, i.bytes)) = some (1, 8) := by kernel_rfl
instance : TSize Try.prog 34 1 := ⟨Try.sizeOf34⟩
instance : TAgg Try.prog 34 false := ⟨Try.isAgg34⟩
instance : TZero Try.prog 34 (Go.Value.pointer Option.none) := ⟨Try.zeroValue34⟩
theorem row34 : (Try.prog.info? 34).map (fun i => (i.size, i.bytes)) = some (1, 8) := by kernel_rfl
instance : TUnd Try.prog 34 (.pointer 103) := ⟨Try.underlying34⟩
instance : TSize Try.prog 35 1 := ⟨Try.sizeOf35⟩
instance : TAgg Try.prog 35 false := ⟨Try.isAgg35⟩
instance : TZero Try.prog 35 (Go.Value.int Go.IntKind.i64 0) := ⟨Try.zeroValue35⟩
theorem row35 : (Try.prog.info? 35).map (fun i => (i.size, i.bytes)) = some (1, 8) := by kernel_rfl
instance : TUnd Try.prog 35 (.int Go.IntKind.i64) := ⟨Try.underlying35⟩
instance : TSize Try.prog 36 1 := ⟨Try.sizeOf36⟩
instance : TAgg Try.prog 36 false := ⟨Try.isAgg36⟩
instance : TZero Try.prog 36 (Go.Value.tuple #[Go.Value.string { data := #[] }, Go.Value.int Go.IntKind.i64 0]) := ⟨Try.zeroValue36⟩
theorem row36 : (Try.prog.info? 36).map (fun i => (i.size, i.bytes)) = some (1, 0) := by kernel_rfl
instance : TSize Try.prog 37 1 := ⟨Try.sizeOf37⟩
instance : TAgg Try.prog 37 false := ⟨Try.isAgg37⟩
instance : TZero Try.prog 37 (Go.Value.nilFunc) := ⟨Try.zeroValue37⟩
theorem row37 : (Try.prog.info? 37).map (fun i => (i.size, i.bytes)) = some (1, 8) := by kernel_rfl
instance : TSize Try.prog 38 1 := ⟨Try.sizeOf38⟩
instance : TAgg Try.prog 38 false := ⟨Try.isAgg38⟩
instance : TZero Try.prog 38 (Go.Value.nilFunc) := ⟨Try.zeroValue38⟩
theorem row38 : (Try.prog.info? 38).map (fun i => (i.size, i.bytes)) = some (1, 8) := by kernel_rfl
instance : TSize Try.prog 39 1 := ⟨Try.sizeOf39⟩
instance : TAgg Try.prog 39 false := ⟨Try.isAgg39⟩
instance : TZero Try.prog 39 (Go.Value.slice Option.none 0 0) := ⟨Try.zeroValue39⟩
theorem row39 : (Try.prog.info? 39).map (fun i => (i.size, i.bytes)) = some (1, 24) := by kernel_rfl
instance : TUnd Try.prog 39 (.slice 5) := ⟨Try.underlying39⟩
instance : TSize Try.prog 40 1 := ⟨Try.sizeOf40⟩
instance : TAgg Try.prog 40 false := ⟨Try.isAgg40⟩
instance : TZero Try.prog 40 (Go.Value.nilFunc) := ⟨Try.zeroValue40⟩
theorem row40 : (Try.prog.info? 40).map (fun i => (i.size, i.bytes)) = some (1, 8) := by kernel_rfl
instance : TSize Try.prog 41 1 := ⟨Try.sizeOf41⟩
instance : TAgg Try.prog 41 false := ⟨Try.isAgg41⟩
instance : TZero Try.prog 41 (Go.Value.nilFunc) := ⟨Try.zeroValue41⟩
theorem row41 : (Try.prog.info? 41).map (fun i => (i.size, i.bytes)) = some (1, 8) := by kernel_rfl
instance : TSize Try.prog 42 1 := ⟨Try.sizeOf42⟩
instance : TAgg Try.prog 42 false := ⟨Try.isAgg42⟩
instance : TZero Try.prog 42 (Go.Value.nilFunc) := ⟨Try.zeroValue42⟩
theorem row42 : (Try.prog.info? 42).map (fun i => (i.size, i.bytes)) = some (1, 8) := by kernel_rfl
instance : TSize Try.prog 43 1 := ⟨Try.sizeOf43⟩
instance : TAgg Try.prog 43 false := ⟨Try.isAgg43⟩
instance : TZero Try.prog 43 (Go.Value.nilFunc) := ⟨Try.zeroValue43⟩
theorem row43 : (Try.prog.info? 43).map (fun i => (i.size, i.bytes)) = some (1, 8) := by kernel_rfl
instance : TSize Try.prog 44 1 := ⟨Try.sizeOf44⟩
instance : TAgg Try.prog 44 false := ⟨Try.isAgg44⟩
instance : TZero Try.prog 44 (Go.Value.nilFunc) := ⟨Try.zeroValue44⟩
theorem row44 : (Try.prog.info? 44).map (fun i => (i.size, i.bytes)) = some (1, 8) := by kernel_rfl
instance : TSize Try.prog 45 1 := ⟨Try.sizeOf45⟩
instance : TAgg Try.prog 45 false := ⟨Try.isAgg45⟩
instance : TZero Try.prog 45 (Go.Value.nilFunc) := ⟨Try.zeroValue45⟩
theorem row45 : (Try.prog.info? 45).map (fun i => (i.size, i.bytes)) = some (1, 8) := by kernel_rfl
instance : TSize Try.prog 46 1 := ⟨Try.sizeOf46⟩
instance : TAgg Try.prog 46 false := ⟨Try.isAgg46⟩
instance : TZero Try.prog 46 (Go.Value.slice Option.none 0 0) := ⟨Try.zeroValue46⟩
theorem row46 : (Try.prog.info? 46).map (fun i => (i.size, i.bytes)) = some (1, 24) := by kernel_rfl
instance : TUnd Try.prog 46 (.slice 3) := ⟨Try.underlying46⟩
instance : TSize Try.prog 47 1 := ⟨Try.sizeOf47⟩
instance : TAgg Try.prog 47 false := ⟨Try.isAgg47⟩
instance : TZero Try.prog 47 (Go.Value.nilFunc) := ⟨Try.zeroValue47⟩
theorem row47 : (Try.prog.info? 47).map (fun i => (i.size, i.bytes)) = some (1, 8) := by kernel_rfl
instance : TSize Try.prog 48 1 := ⟨Try.sizeOf48⟩
instance : TAgg Try.prog 48 false := ⟨Try.isAgg48⟩
instance : TZero Try.prog 48 (Go.Value.nilFunc) := ⟨Try.zeroValue48⟩
theorem row48 : (Try.prog.info? 48).map (fun i => (i.size, i.bytes)) = some (1, 8) := by kernel_rfl
instance : TSize Try.prog 49 1 := ⟨Try.sizeOf49⟩
instance : TAgg Try.prog 49 false := ⟨Try.isAgg49⟩
instance : TZero Try.prog 49 (Go.Value.pointer Option.none) := ⟨Try.zeroValue49⟩
theorem row49 : (Try.prog.info? 49).map (fun i => (i.size, i.bytes)) = some (1, 8) := by kernel_rfl
instance : TUnd Try.prog 49 (.pointer 133) := ⟨Try.underlying49⟩
instance : TSize Try.prog 50 1 := ⟨Try.sizeOf50⟩
instance : TAgg Try.prog 50 false := ⟨Try.isAgg50⟩
instance : TZero Try.prog 50 (Go.Value.slice Option.none 0 0) := ⟨Try.zeroValue50⟩
theorem row50 : (Try.prog.info? 50).map (fun i => (i.size, i.bytes)) = some (1, 24) := by kernel_rfl
instance : TUnd Try.prog 50 (.slice 23) := ⟨Try.underlying50⟩
instance : TSize Try.prog 51 1 := ⟨Try.sizeOf51⟩
instance : TAgg Try.prog 51 false := ⟨Try.isAgg51⟩
instance : TZero Try.prog 51 (Go.Value.slice Option.none 0 0) := ⟨Try.zeroValue51⟩
theorem row51 : (Try.prog.info? 51).map (fun i => (i.size, i.bytes)) = some (1, 24) := by kernel_rfl
instance : TUnd Try.prog 51 (.slice 122) := ⟨Try.underlying51⟩
instance : TSize Try.prog 52 4 := ⟨Try.sizeOf52⟩
instance : TAgg Try.prog 52 true := ⟨Try.isAgg52⟩
def zc52 : Array Value :=  #[Go.Value.slice Option.none 0 0, Go.Value.slice Option.none 0 0, Go.Value.int Go.IntKind.i64 0, Go.Value.int Go.IntKind.i64 0]
theorem zc52_size : zc52.size = 4 := rfl
instance : TZero Try.prog 52 (.agg zc52) := ⟨Try.zeroValue52⟩
theorem row52 : (Try.prog.info? 52).map (fun i => (i.size, i.bytes)) = some (4, 64) := by kernel_rfl
instance : TFld Try.prog 52 0 0 50 1 := ⟨⟨_, _, Try.underlying52, rfl, rfl, rfl, Try.sizeOf50, by decide⟩⟩
instance : TFld Try.prog 52 1 1 51 1 := ⟨⟨_, _, Try.underlying52, rfl, rfl, rfl, Try.sizeOf51, by decide⟩⟩
instance : TFld Try.prog 52 2 2 2 1 := ⟨⟨_, _, Try.underlying52, rfl, rfl, rfl, Try.sizeOf2, by decide⟩⟩
instance : TFld Try.prog 52 3 3 2 1 := ⟨⟨_, _, Try.underlying52, rfl, rfl, rfl, Try.sizeOf2, by decide⟩⟩
instance : TBuild Try.prog 52 zc52 [(0, 1), (1, 1), (2, 1), (3, 1)] := ⟨fun _ => by kernel_rfl⟩
instance : TSize Try.prog 53 4 := ⟨Try.sizeOf53⟩
instance : TAgg Try.prog 53 true := ⟨Try.isAgg53⟩
def zc53 : Array Value :=  #[Go.Value.slice Option.none 0 0, Go.Value.slice Option.none 0 0, Go.Value.int Go.IntKind.i64 0, Go.Value.int Go.IntKind.i64 0]
theorem zc53_size : zc53.size = 4 := rfl
instance : TZero Try.prog 53 (.agg zc53) := ⟨Try.zeroValue53⟩
theorem row53 : (Try.prog.info? 53).map (fun i => (i.size, i.bytes)) = some (4, 64) := by kernel_rfl
instance : TFld Try.prog 53 0 0 50 1 := ⟨⟨_, _, Try.underlying53, rfl, rfl, rfl, Try.sizeOf50, by decide⟩⟩
instance : TFld Try.prog 53 1 1 51 1 := ⟨⟨_, _, Try.underlying53, rfl, rfl, rfl, Try.sizeOf51, by decide⟩⟩
instance : TFld Try.prog 53 2 2 2 1 := ⟨⟨_, _, Try.underlying53, rfl, rfl, rfl, Try.sizeOf2, by decide⟩⟩
instance : TFld Try.prog 53 3 3 2 1 := ⟨⟨_, _, Try.underlying53, rfl, rfl, rfl, Try.sizeOf2, by decide⟩⟩
instance : TBuild Try.prog 53 zc53 [(0, 1), (1, 1), (2, 1), (3, 1)] := ⟨fun _ => by kernel_rfl⟩
instance : TSize Try.prog 54 5 := ⟨Try.sizeOf54⟩
instance : TAgg Try.prog 54 true := ⟨Try.isAgg54⟩
def zc54 : Array Value :=  #[Go.Value.int Go.IntKind.i64 0, Go.Value.int Go.IntKind.i64 0, Go.Value.int Go.IntKind.i64 0, Go.Value.int Go.IntKind.i64 0, Go.Value.int Go.IntKind.i64 0]
theorem zc54_size : zc54.size = 5 := rfl
instance : TZero Try.prog 54 (.agg zc54) := ⟨Try.zeroValue54⟩
theorem row54 : (Try.prog.info? 54).map (fun i => (i.size, i.bytes)) = some (5, 40) := by kernel_rfl
instance : TFld Try.prog 54 0 0 3 1 := ⟨⟨_, _, Try.underlying54, rfl, rfl, rfl, Try.sizeOf3, by decide⟩⟩
instance : TFld Try.prog 54 1 1 3 1 := ⟨⟨_, _, Try.underlying54, rfl, rfl, rfl, Try.sizeOf3, by decide⟩⟩
instance : TFld Try.prog 54 2 2 3 1 := ⟨⟨_, _, Try.underlying54, rfl, rfl, rfl, Try.sizeOf3, by decide⟩⟩
instance : TFld Try.prog 54 3 3 3 1 := ⟨⟨_, _, Try.underlying54, rfl, rfl, rfl, Try.sizeOf3, by decide⟩⟩
instance : TFld Try.prog 54 4 4 3 1 := ⟨⟨_, _, Try.underlying54, rfl, rfl, rfl, Try.sizeOf3, by decide⟩⟩
instance : TBuild Try.prog 54 zc54 [(0, 1), (1, 1), (2, 1), (3, 1), (4, 1)] := ⟨fun _ => by kernel_rfl⟩
instance : TSize Try.prog 55 5 := ⟨Try.sizeOf55⟩
instance : TAgg Try.prog 55 true := ⟨Try.isAgg55⟩
def zc55 : Array Value :=  #[Go.Value.int Go.IntKind.i64 0, Go.Value.int Go.IntKind.i64 0, Go.Value.int Go.IntKind.i64 0, Go.Value.int Go.IntKind.i64 0, Go.Value.int Go.IntKind.i64 0]
theorem zc55_size : zc55.size = 5 := rfl
instance : TZero Try.prog 55 (.agg zc55) := ⟨Try.zeroValue55⟩
theorem row55 : (Try.prog.info? 55).map (fun i => (i.size, i.bytes)) = some (5, 40) := by kernel_rfl
instance : TFld Try.prog 55 0 0 3 1 := ⟨⟨_, _, Try.underlying55, rfl, rfl, rfl, Try.sizeOf3, by decide⟩⟩
instance : TFld Try.prog 55 1 1 3 1 := ⟨⟨_, _, Try.underlying55, rfl, rfl, rfl, Try.sizeOf3, by decide⟩⟩
instance : TFld Try.prog 55 2 2 3 1 := ⟨⟨_, _, Try.underlying55, rfl, rfl, rfl, Try.sizeOf3, by decide⟩⟩
instance : TFld Try.prog 55 3 3 3 1 := ⟨⟨_, _, Try.underlying55, rfl, rfl, rfl, Try.sizeOf3, by decide⟩⟩
instance : TFld Try.prog 55 4 4 3 1 := ⟨⟨_, _, Try.underlying55, rfl, rfl, rfl, Try.sizeOf3, by decide⟩⟩
instance : TBuild Try.prog 55 zc55 [(0, 1), (1, 1), (2, 1), (3, 1), (4, 1)] := ⟨fun _ => by kernel_rfl⟩
instance : TSize Try.prog 56 1 := ⟨Try.sizeOf56⟩
instance : TAgg Try.prog 56 false := ⟨Try.isAgg56⟩
instance : TZero Try.prog 56 (Go.Value.tuple #[Go.Value.agg #[Go.Value.slice Option.none 0 0, Go.Value.slice Option.none 0 0, Go.Value.int Go.IntKind.i64 0, Go.Value.int Go.IntKind.i64 0], Go.Value.agg #[Go.Value.int Go.IntKind.i64 0, Go.Value.int Go.IntKind.i64 0, Go.Value.int Go.IntKind.i64 0, Go.Value.int Go.IntKind.i64 0, Go.Value.int Go.IntKind.i64 0]]) := ⟨Try.zeroValue56⟩
theorem row56 : (Try.prog.info? 56).map (fun i => (i.size, i.bytes)) = some (1, 0) := by kernel_rfl
instance : TSize Try.prog 57 1 := ⟨Try.sizeOf57⟩
instance : TAgg Try.prog 57 false := ⟨Try.isAgg57⟩
instance : TZero Try.prog 57 (Go.Value.nilFunc) := ⟨Try.zeroValue57⟩
theorem row57 : (Try.prog.info? 57).map (fun i => (i.size, i.bytes)) = some (1, 8) := by kernel_rfl
instance : TSize Try.prog 58 1 := ⟨Try.sizeOf58⟩
instance : TAgg Try.prog 58 false := ⟨Try.isAgg58⟩
instance : TZero Try.prog 58 (Go.Value.tuple #[Go.Value.pointer Option.none, Go.Value.int Go.IntKind.i64 0]) := ⟨Try.zeroValue58⟩
theorem row58 : (Try.prog.info? 58).map (fun i => (i.size, i.bytes)) = some (1, 0) := by kernel_rfl
instance : TSize Try.prog 59 1 := ⟨Try.sizeOf59⟩
instance : TAgg Try.prog 59 false := ⟨Try.isAgg59⟩
instance : TZero Try.prog 59 (Go.Value.nilFunc) := ⟨Try.zeroValue59⟩
theorem row59 : (Try.prog.info? 59).map (fun i => (i.size, i.bytes)) = some (1, 8) := by kernel_rfl
instance : TSize Try.prog 60 1 := ⟨Try.sizeOf60⟩
instance : TAgg Try.prog 60 false := ⟨Try.isAgg60⟩
instance : TZero Try.prog 60 (Go.Value.tuple #[Go.Value.agg #[Go.Value.int Go.IntKind.i64 0, Go.Value.int Go.IntKind.i64 0, Go.Value.int Go.IntKind.i64 0, Go.Value.int Go.IntKind.i64 0], Go.Value.bool Bool.false]) := ⟨Try.zeroValue60⟩
theorem row60 : (Try.prog.info? 60).map (fun i => (i.size, i.bytes)) = some (1, 0) := by kernel_rfl
instance : TSize Try.prog 61 1 := ⟨Try.sizeOf61⟩
instance : TAgg Try.prog 61 false := ⟨Try.isAgg61⟩
instance : TZero Try.prog 61 (Go.Value.nilFunc) := ⟨Try.zeroValue61⟩
theorem row61 : (Try.prog.info? 61).map (fun i => (i.size, i.bytes)) = some (1, 8) := by kernel_rfl
instance : TSize Try.prog 62 10 := ⟨Try.sizeOf62⟩
instance : TAgg Try.prog 62 true := ⟨Try.isAgg62⟩
def zc62 : Array Value :=  #[Go.Value.int Go.IntKind.i64 0, Go.Value.int Go.IntKind.i64 0, Go.Value.slice Option.none 0 0, Go.Value.int Go.IntKind.i64 0, Go.Value.int Go.IntKind.i64 0, Go.Value.int Go.IntKind.i64 0, Go.Value.int Go.IntKind.i64 0, Go.Value.int Go.IntKind.i64 0, Go.Value.int Go.IntKind.i64 0, Go.Value.int Go.IntKind.i64 0]
theorem zc62_size : zc62.size = 10 := rfl
instance : TZero Try.prog 62 (.agg zc62) := ⟨Try.zeroValue62⟩
theorem row62 : (Try.prog.info? 62).map (fun i => (i.size, i.bytes)) = some (10, 96) := by kernel_rfl
instance : TFld Try.prog 62 0 0 3 1 := ⟨⟨_, _, Try.underlying62, rfl, rfl, rfl, Try.sizeOf3, by decide⟩⟩
instance : TFld Try.prog 62 1 1 2 1 := ⟨⟨_, _, Try.underlying62, rfl, rfl, rfl, Try.sizeOf2, by decide⟩⟩
instance : TFld Try.prog 62 2 2 46 1 := ⟨⟨_, _, Try.underlying62, rfl, rfl, rfl, Try.sizeOf46, by decide⟩⟩
instance : TFld Try.prog 62 3 3 3 1 := ⟨⟨_, _, Try.underlying62, rfl, rfl, rfl, Try.sizeOf3, by decide⟩⟩
instance : TFld Try.prog 62 4 4 3 1 := ⟨⟨_, _, Try.underlying62, rfl, rfl, rfl, Try.sizeOf3, by decide⟩⟩
instance : TFld Try.prog 62 5 5 23 4 := ⟨⟨_, _, Try.underlying62, rfl, rfl, rfl, Try.sizeOf23, by decide⟩⟩
instance : TFld Try.prog 62 6 9 3 1 := ⟨⟨_, _, Try.underlying62, rfl, rfl, rfl, Try.sizeOf3, by decide⟩⟩
instance : TBuild Try.prog 62 zc62 [(0, 1), (1, 1), (2, 1), (3, 1), (4, 1), (5, 4), (9, 1)] := ⟨fun _ => by kernel_rfl⟩
instance : TSize Try.prog 63 10 := ⟨Try.sizeOf63⟩
instance : TAgg Try.prog 63 true := ⟨Try.isAgg63⟩
def zc63 : Array Value :=  #[Go.Value.int Go.IntKind.i64 0, Go.Value.int Go.IntKind.i64 0, Go.Value.slice Option.none 0 0, Go.Value.int Go.IntKind.i64 0, Go.Value.int Go.IntKind.i64 0, Go.Value.int Go.IntKind.i64 0, Go.Value.int Go.IntKind.i64 0, Go.Value.int Go.IntKind.i64 0, Go.Value.int Go.IntKind.i64 0, Go.Value.int Go.IntKind.i64 0]
theorem zc63_size : zc63.size = 10 := rfl
instance : TZero Try.prog 63 (.agg zc63) := ⟨Try.zeroValue63⟩
theorem row63 : (Try.prog.info? 63).map (fun i => (i.size, i.bytes)) = some (10, 96) := by kernel_rfl
instance : TFld Try.prog 63 0 0 3 1 := ⟨⟨_, _, Try.underlying63, rfl, rfl, rfl, Try.sizeOf3, by decide⟩⟩
instance : TFld Try.prog 63 1 1 2 1 := ⟨⟨_, _, Try.underlying63, rfl, rfl, rfl, Try.sizeOf2, by decide⟩⟩
instance : TFld Try.prog 63 2 2 46 1 := ⟨⟨_, _, Try.underlying63, rfl, rfl, rfl, Try.sizeOf46, by decide⟩⟩
instance : TFld Try.prog 63 3 3 3 1 := ⟨⟨_, _, Try.underlying63, rfl, rfl, rfl, Try.sizeOf3, by decide⟩⟩
instance : TFld Try.prog 63 4 4 3 1 := ⟨⟨_, _, Try.underlying63, rfl, rfl, rfl, Try.sizeOf3, by decide⟩⟩
instance : TFld Try.prog 63 5 5 23 4 := ⟨⟨_, _, Try.underlying63, rfl, rfl, rfl, Try.sizeOf23, by decide⟩⟩
instance : TFld Try.prog 63 6 9 3 1 := ⟨⟨_, _, Try.underlying63, rfl, rfl, rfl, Try.sizeOf3, by decide⟩⟩
instance : TBuild Try.prog 63 zc63 [(0, 1), (1, 1), (2, 1), (3, 1), (4, 1), (5, 4), (9, 1)] := ⟨fun _ => by kernel_rfl⟩
instance : TSize Try.prog 64 1 := ⟨Try.sizeOf64⟩
instance : TAgg Try.prog 64 false := ⟨Try.isAgg64⟩
instance : TZero Try.prog 64 (Go.Value.tuple #[Go.Value.agg #[Go.Value.int Go.IntKind.i64 0, Go.Value.int Go.IntKind.i64 0, Go.Value.slice Option.none 0 0, Go.Value.int Go.IntKind.i64 0, Go.Value.int Go.IntKind.i64 0, Go.Value.int Go.IntKind.i64 0, Go.Value.int Go.IntKind.i64 0, Go.Value.int Go.IntKind.i64 0, Go.Value.int Go.IntKind.i64 0, Go.Value.int Go.IntKind.i64 0], Go.Value.bool Bool.false]) := ⟨Try.zeroValue64⟩
theorem row64 : (Try.prog.info? 64).map (fun i => (i.size, i.bytes)) = some (1, 0) := by kernel_rfl
instance : TSize Try.prog 65 1 := ⟨Try.sizeOf65⟩
instance : TAgg Try.prog 65 false := ⟨Try.isAgg65⟩
instance : TZero Try.prog 65 (Go.Value.nilFunc) := ⟨Try.zeroValue65⟩
theorem row65 : (Try.prog.info? 65).map (fun i => (i.size, i.bytes)) = some (1, 8) := by kernel_rfl
instance : TSize Try.prog 66 1 := ⟨Try.sizeOf66⟩
instance : TAgg Try.prog 66 false := ⟨Try.isAgg66⟩
instance : TZero Try.prog 66 (Go.Value.slice Option.none 0 0) := ⟨Try.zeroValue66⟩
theorem row66 : (Try.prog.info? 66).map (fun i => (i.size, i.bytes)) = some (1, 24) := by kernel_rfl
instance : TUnd Try.prog 66 (.slice 55) := ⟨Try.underlying66⟩
instance : TSize Try.prog 67 1 := ⟨Try.sizeOf67⟩
instance : TAgg Try.prog 67 false := ⟨Try.isAgg67⟩
instance : TZero Try.prog 67 (Go.Value.slice Option.none 0 0) := ⟨Try.zeroValue67⟩
theorem row67 : (Try.prog.info? 67).map (fun i => (i.size, i.bytes)) = some (1, 24) := by kernel_rfl
instance : TUnd Try.prog 67 (.slice 63) := ⟨Try.underlying67⟩
instance : TSize Try.prog 68 1 := ⟨Try.sizeOf68⟩
instance : TAgg Try.prog 68 false := ⟨Try.isAgg68⟩
instance : TZero Try.prog 68 (Go.Value.slice Option.none 0 0) := ⟨Try.zeroValue68⟩
theorem row68 : (Try.prog.info? 68).map (fun i => (i.size, i.bytes)) = some (1, 24) := by kernel_rfl
instance : TUnd Try.prog 68 (.slice 35) := ⟨Try.underlying68⟩
instance : TSize Try.prog 69 1 := ⟨Try.sizeOf69⟩
instance : TAgg Try.prog 69 false := ⟨Try.isAgg69⟩
instance : TZero Try.prog 69 (Go.Value.nilFunc) := ⟨Try.zeroValue69⟩
theorem row69 : (Try.prog.info? 69).map (fun i => (i.size, i.bytes)) = some (1, 8) := by kernel_rfl
instance : TSize Try.prog 70 1 := ⟨Try.sizeOf70⟩
instance : TAgg Try.prog 70 false := ⟨Try.isAgg70⟩
instance : TZero Try.prog 70 (Go.Value.nilFunc) := ⟨Try.zeroValue70⟩
theorem row70 : (Try.prog.info? 70).map (fun i => (i.size, i.bytes)) = some (1, 8) := by kernel_rfl
instance : TSize Try.prog 71 1 := ⟨Try.sizeOf71⟩
instance : TAgg Try.prog 71 false := ⟨Try.isAgg71⟩
instance : TZero Try.prog 71 (Go.Value.nilFunc) := ⟨Try.zeroValue71⟩
theorem row71 : (Try.prog.info? 71).map (fun i => (i.size, i.bytes)) = some (1, 8) := by kernel_rfl
instance : TSize Try.prog 72 1 := ⟨Try.sizeOf72⟩
instance : TAgg Try.prog 72 false := ⟨Try.isAgg72⟩
instance : TZero Try.prog 72 (Go.Value.slice Option.none 0 0) := ⟨Try.zeroValue72⟩
theorem row72 : (Try.prog.info? 72).map (fun i => (i.size, i.bytes)) = some (1, 24) := by kernel_rfl
instance : TUnd Try.prog 72 (.slice 137) := ⟨Try.underlying72⟩
instance : TSize Try.prog 73 1 := ⟨Try.sizeOf73⟩
instance : TAgg Try.prog 73 false := ⟨Try.isAgg73⟩
instance : TZero Try.prog 73 (Go.Value.nilFunc) := ⟨Try.zeroValue73⟩
theorem row73 : (Try.prog.info? 73).map (fun i => (i.size, i.bytes)) = some (1, 8) := by kernel_rfl
instance : TSize Try.prog 74 1 := ⟨Try.sizeOf74⟩
instance : TAgg Try.prog 74 false := ⟨Try.isAgg74⟩
instance : TZero Try.prog 74 (Go.Value.nilFunc) := ⟨Try.zeroValue74⟩
theorem row74 : (Try.prog.info? 74).map (fun i => (i.size, i.bytes)) = some (1, 8) := by kernel_rfl
instance : TSize Try.prog 75 1 := ⟨Try.sizeOf75⟩
instance : TAgg Try.prog 75 false := ⟨Try.isAgg75⟩
instance : TZero Try.prog 75 (Go.Value.nilFunc) := ⟨Try.zeroValue75⟩
theorem row75 : (Try.prog.info? 75).map (fun i => (i.size, i.bytes)) = some (1, 8) := by kernel_rfl
instance : TSize Try.prog 76 1 := ⟨Try.sizeOf76⟩
instance : TAgg Try.prog 76 false := ⟨Try.isAgg76⟩
instance : TZero Try.prog 76 (Go.Value.nilFunc) := ⟨Try.zeroValue76⟩
theorem row76 : (Try.prog.info? 76).map (fun i => (i.size, i.bytes)) = some (1, 8) := by kernel_rfl
instance : TSize Try.prog 77 1 := ⟨Try.sizeOf77⟩
instance : TAgg Try.prog 77 false := ⟨Try.isAgg77⟩
instance : TZero Try.prog 77 (Go.Value.nilFunc) := ⟨Try.zeroValue77⟩
theorem row77 : (Try.prog.info? 77).map (fun i => (i.size, i.bytes)) = some (1, 8) := by kernel_rfl
instance : TSize Try.prog 78 1 := ⟨Try.sizeOf78⟩
instance : TAgg Try.prog 78 false := ⟨Try.isAgg78⟩
instance : TZero Try.prog 78 (Go.Value.nilFunc) := ⟨Try.zeroValue78⟩
theorem row78 : (Try.prog.info? 78).map (fun i => (i.size, i.bytes)) = some (1, 8) := by kernel_rfl
instance : TSize Try.prog 79 1 := ⟨Try.sizeOf79⟩
instance : TAgg Try.prog 79 false := ⟨Try.isAgg79⟩
instance : TZero Try.prog 79 (Go.Value.nilFunc) := ⟨Try.zeroValue79⟩
theorem row79 : (Try.prog.info? 79).map (fun i => (i.size, i.bytes)) = some (1, 8) := by kernel_rfl
instance : TSize Try.prog 80 1 := ⟨Try.sizeOf80⟩
instance : TAgg Try.prog 80 false := ⟨Try.isAgg80⟩
instance : TZero Try.prog 80 (Go.Value.nilFunc) := ⟨Try.zeroValue80⟩
theorem row80 : (Try.prog.info? 80).map (fun i => (i.size, i.bytes)) = some (1, 8) := by kernel_rfl
instance : TSize Try.prog 81 1 := ⟨Try.sizeOf81⟩
instance : TAgg Try.prog 81 false := ⟨Try.isAgg81⟩
instance : TZero Try.prog 81 (Go.Value.nilFunc) := ⟨Try.zeroValue81⟩
theorem row81 : (Try.prog.info? 81).map (fun i => (i.size, i.bytes)) = some (1, 8) := by kernel_rfl
instance : TSize Try.prog 82 1 := ⟨Try.sizeOf82⟩
instance : TAgg Try.prog 82 false := ⟨Try.isAgg82⟩
instance : TZero Try.prog 82 (Go.Value.nilFunc) := ⟨Try.zeroValue82⟩
theorem row82 : (Try.prog.info? 82).map (fun i => (i.size, i.bytes)) = some (1, 8) := by kernel_rfl
instance : TSize Try.prog 83 1 := ⟨Try.sizeOf83⟩
instance : TAgg Try.prog 83 false := ⟨Try.isAgg83⟩
instance : TZero Try.prog 83 (Go.Value.nilFunc) := ⟨Try.zeroValue83⟩
theorem row83 : (Try.prog.info? 83).map (fun i => (i.size, i.bytes)) = some (1, 8) := by kernel_rfl
instance : TSize Try.prog 84 1 := ⟨Try.sizeOf84⟩
instance : TAgg Try.prog 84 false := ⟨Try.isAgg84⟩
instance : TZero Try.prog 84 (Go.Value.map Option.none) := ⟨Try.zeroValue84⟩
theorem row84 : (Try.prog.info? 84).map (fun i => (i.size, i.bytes)) = some (1, 8) := by kernel_rfl
instance : TUnd Try.prog 84 (.map 3 82) := ⟨Try.underlying84⟩
instance : TSize Try.prog 85 1 := ⟨Try.sizeOf85⟩
instance : TAgg Try.prog 85 false := ⟨Try.isAgg85⟩
instance : TZero Try.prog 85 (Go.Value.nilFunc) := ⟨Try.zeroValue85⟩
theorem row85 : (Try.prog.info? 85).map (fun i => (i.size, i.bytes)) = some (1, 8) := by kernel_rfl
instance : TSize Try.prog 86 1 := ⟨Try.sizeOf86⟩
instance : TAgg Try.prog 86 false := ⟨Try.isAgg86⟩
instance : TZero Try.prog 86 (Go.Value.nilFunc) := ⟨Try.zeroValue86⟩
theorem row86 : (Try.prog.info? 86).map (fun i => (i.size, i.bytes)) = some (1, 8) := by kernel_rfl
instance : TSize Try.prog 87 1 := ⟨Try.sizeOf87⟩
instance : TAgg Try.prog 87 false := ⟨Try.isAgg87⟩
instance : TZero Try.prog 87 (Go.Value.nilFunc) := ⟨Try.zeroValue87⟩
theorem row87 : (Try.prog.info? 87).map (fun i => (i.size, i.bytes)) = some (1, 8) := by kernel_rfl
instance : TSize Try.prog 88 1 := ⟨Try.sizeOf88⟩
instance : TAgg Try.prog 88 false := ⟨Try.isAgg88⟩
instance : TZero Try.prog 88 (Go.Value.nilFunc) := ⟨Try.zeroValue88⟩
theorem row88 : (Try.prog.info? 88).map (fun i => (i.size, i.bytes)) = some (1, 8) := by kernel_rfl
instance : TSize Try.prog 89 1 := ⟨Try.sizeOf89⟩
instance : TAgg Try.prog 89 false := ⟨Try.isAgg89⟩
instance : TZero Try.prog 89 (Go.Value.nilFunc) := ⟨Try.zeroValue89⟩
theorem row89 : (Try.prog.info? 89).map (fun i => (i.size, i.bytes)) = some (1, 8) := by kernel_rfl
instance : TSize Try.prog 90 1 := ⟨Try.sizeOf90⟩
instance : TAgg Try.prog 90 false := ⟨Try.isAgg90⟩
instance : TZero Try.prog 90 (Go.Value.slice Option.none 0 0) := ⟨Try.zeroValue90⟩
theorem row90 : (Try.prog.info? 90).map (fun i => (i.size, i.bytes)) = some (1, 24) := by kernel_rfl
instance : TUnd Try.prog 90 (.slice 2) := ⟨Try.underlying90⟩
instance : TSize Try.prog 91 1 := ⟨Try.sizeOf91⟩
instance : TAgg Try.prog 91 false := ⟨Try.isAgg91⟩
instance : TZero Try.prog 91 (Go.Value.nilFunc) := ⟨Try.zeroValue91⟩
theorem row91 : (Try.prog.info? 91).map (fun i => (i.size, i.bytes)) = some (1, 8) := by kernel_rfl
instance : TSize Try.prog 92 1 := ⟨Try.sizeOf92⟩
instance : TAgg Try.prog 92 false := ⟨Try.isAgg92⟩
instance : TZero Try.prog 92 (Go.Value.nilFunc) := ⟨Try.zeroValue92⟩
theorem row92 : (Try.prog.info? 92).map (fun i => (i.size, i.bytes)) = some (1, 8) := by kernel_rfl
instance : TSize Try.prog 93 1 := ⟨Try.sizeOf93⟩
instance : TAgg Try.prog 93 false := ⟨Try.isAgg93⟩
instance : TZero Try.prog 93 (Go.Value.pointer Option.none) := ⟨Try.zeroValue93⟩
theorem row93 : (Try.prog.info? 93).map (fun i => (i.size, i.bytes)) = some (1, 8) := by kernel_rfl
instance : TUnd Try.prog 93 (.pointer 97) := ⟨Try.underlying93⟩
instance : TSize Try.prog 94 1 := ⟨Try.sizeOf94⟩
instance : TAgg Try.prog 94 false := ⟨Try.isAgg94⟩
instance : TZero Try.prog 94 (Go.Value.tuple #[Go.Value.pointer Option.none, Go.Value.int Go.IntKind.i64 0]) := ⟨Try.zeroValue94⟩
theorem row94 : (Try.prog.info? 94).map (fun i => (i.size, i.bytes)) = some (1, 0) := by kernel_rfl
instance : TSize Try.prog 95 1 := ⟨Try.sizeOf95⟩
instance : TAgg Try.prog 95 false := ⟨Try.isAgg95⟩
instance : TZero Try.prog 95 (Go.Value.nilFunc) := ⟨Try.zeroValue95⟩
theorem row95 : (Try.prog.info? 95).map (fun i => (i.size, i.bytes)) = some (1, 8) := by kernel_rfl
instance : TSize Try.prog 96 2 := ⟨Try.sizeOf96⟩
instance : TAgg Try.prog 96 true := ⟨Try.isAgg96⟩
def zc96 : Array Value :=  #[Go.Value.slice Option.none 0 0, Go.Value.int Go.IntKind.i64 0]
theorem zc96_size : zc96.size = 2 := rfl
instance : TZero Try.prog 96 (.agg zc96) := ⟨Try.zeroValue96⟩
theorem row96 : (Try.prog.info? 96).map (fun i => (i.size, i.bytes)) = some (2, 32) := by kernel_rfl
instance : TFld Try.prog 96 0 0 39 1 := ⟨⟨_, _, Try.underlying96, rfl, rfl, rfl, Try.sizeOf39, by decide⟩⟩
instance : TFld Try.prog 96 1 1 3 1 := ⟨⟨_, _, Try.underlying96, rfl, rfl, rfl, Try.sizeOf3, by decide⟩⟩
instance : TBuild Try.prog 96 zc96 [(0, 1), (1, 1)] := ⟨fun _ => by kernel_rfl⟩
instance : TSize Try.prog 97 2 := ⟨Try.sizeOf97⟩
instance : TAgg Try.prog 97 true := ⟨Try.isAgg97⟩
def zc97 : Array Value :=  #[Go.Value.slice Option.none 0 0, Go.Value.int Go.IntKind.i64 0]
theorem zc97_size : zc97.size = 2 := rfl
instance : TZero Try.prog 97 (.agg zc97) := ⟨Try.zeroValue97⟩
theorem row97 : (Try.prog.info? 97).map (fun i => (i.size, i.bytes)) = some (2, 32) := by kernel_rfl
instance : TFld Try.prog 97 0 0 39 1 := ⟨⟨_, _, Try.underlying97, rfl, rfl, rfl, Try.sizeOf39, by decide⟩⟩
instance : TFld Try.prog 97 1 1 3 1 := ⟨⟨_, _, Try.underlying97, rfl, rfl, rfl, Try.sizeOf3, by decide⟩⟩
instance : TBuild Try.prog 97 zc97 [(0, 1), (1, 1)] := ⟨fun _ => by kernel_rfl⟩
instance : TSize Try.prog 98 1 := ⟨Try.sizeOf98⟩
instance : TAgg Try.prog 98 false := ⟨Try.isAgg98⟩
instance : TZero Try.prog 98 (Go.Value.nilFunc) := ⟨Try.zeroValue98⟩
theorem row98 : (Try.prog.info? 98).map (fun i => (i.size, i.bytes)) = some (1, 8) := by kernel_rfl
instance : TSize Try.prog 99 1 := ⟨Try.sizeOf99⟩
instance : TAgg Try.prog 99 false := ⟨Try.isAgg99⟩
instance : TZero Try.prog 99 (Go.Value.nilFunc) := ⟨Try.zeroValue99⟩
theorem row99 : (Try.prog.info? 99).map (fun i => (i.size, i.bytes)) = some (1, 8) := by kernel_rfl
instance : TSize Try.prog 100 1 := ⟨Try.sizeOf100⟩
instance : TAgg Try.prog 100 false := ⟨Try.isAgg100⟩
instance : TZero Try.prog 100 (Go.Value.nilFunc) := ⟨Try.zeroValue100⟩
theorem row100 : (Try.prog.info? 100).map (fun i => (i.size, i.bytes)) = some (1, 8) := by kernel_rfl
instance : TSize Try.prog 101 1 := ⟨Try.sizeOf101⟩
instance : TAgg Try.prog 101 false := ⟨Try.isAgg101⟩
instance : TZero Try.prog 101 (Go.Value.map Option.none) := ⟨Try.zeroValue101⟩
theorem row101 : (Try.prog.info? 101).map (fun i => (i.size, i.bytes)) = some (1, 8) := by kernel_rfl
instance : TUnd Try.prog 101 (.map 3 93) := ⟨Try.underlying101⟩
instance : TSize Try.prog 102 1 := ⟨Try.sizeOf102⟩
instance : TAgg Try.prog 102 true := ⟨Try.isAgg102⟩
def zc102 : Array Value :=  #[Go.Value.map Option.none]
theorem zc102_size : zc102.size = 1 := rfl
instance : TZero Try.prog 102 (.agg zc102) := ⟨Try.zeroValue102⟩
theorem row102 : (Try.prog.info? 102).map (fun i => (i.size, i.bytes)) = some (1, 8) := by kernel_rfl
instance : TFld Try.prog 102 0 0 101 1 := ⟨⟨_, _, Try.underlying102, rfl, rfl, rfl, Try.sizeOf101, by decide⟩⟩
instance : TBuild Try.prog 102 zc102 [(0, 1)] := ⟨fun _ => by kernel_rfl⟩
instance : TSize Try.prog 103 1 := ⟨Try.sizeOf103⟩
instance : TAgg Try.prog 103 true := ⟨Try.isAgg103⟩
def zc103 : Array Value :=  #[Go.Value.map Option.none]
theorem zc103_size : zc103.size = 1 := rfl
instance : TZero Try.prog 103 (.agg zc103) := ⟨Try.zeroValue103⟩
theorem row103 : (Try.prog.info? 103).map (fun i => (i.size, i.bytes)) = some (1, 8) := by kernel_rfl
instance : TFld Try.prog 103 0 0 101 1 := ⟨⟨_, _, Try.underlying103, rfl, rfl, rfl, Try.sizeOf101, by decide⟩⟩
instance : TBuild Try.prog 103 zc103 [(0, 1)] := ⟨fun _ => by kernel_rfl⟩
instance : TSize Try.prog 104 1 := ⟨Try.sizeOf104⟩
instance : TAgg Try.prog 104 false := ⟨Try.isAgg104⟩
instance : TZero Try.prog 104 (Go.Value.nilFunc) := ⟨Try.zeroValue104⟩
theorem row104 : (Try.prog.info? 104).map (fun i => (i.size, i.bytes)) = some (1, 8) := by kernel_rfl
instance : TSize Try.prog 105 1 := ⟨Try.sizeOf105⟩
instance : TAgg Try.prog 105 false := ⟨Try.isAgg105⟩
instance : TZero Try.prog 105 (Go.Value.nilFunc) := ⟨Try.zeroValue105⟩
theorem row105 : (Try.prog.info? 105).map (fun i => (i.size, i.bytes)) = some (1, 8) := by kernel_rfl
instance : TSize Try.prog 106 1 := ⟨Try.sizeOf106⟩
instance : TAgg Try.prog 106 false := ⟨Try.isAgg106⟩
instance : TZero Try.prog 106 (Go.Value.int Go.IntKind.u64 0) := ⟨Try.zeroValue106⟩
theorem row106 : (Try.prog.info? 106).map (fun i => (i.size, i.bytes)) = some (1, 8) := by kernel_rfl
instance : TUnd Try.prog 106 (.int Go.IntKind.u64) := ⟨Try.underlying106⟩
instance : TSize Try.prog 107 1 := ⟨Try.sizeOf107⟩
instance : TAgg Try.prog 107 false := ⟨Try.isAgg107⟩
instance : TZero Try.prog 107 (Go.Value.tuple #[Go.Value.int Go.IntKind.u64 0, Go.Value.int Go.IntKind.u64 0]) := ⟨Try.zeroValue107⟩
theorem row107 : (Try.prog.info? 107).map (fun i => (i.size, i.bytes)) = some (1, 0) := by kernel_rfl
instance : TSize Try.prog 108 1 := ⟨Try.sizeOf108⟩
instance : TAgg Try.prog 108 false := ⟨Try.isAgg108⟩
instance : TZero Try.prog 108 (Go.Value.nilFunc) := ⟨Try.zeroValue108⟩
theorem row108 : (Try.prog.info? 108).map (fun i => (i.size, i.bytes)) = some (1, 8) := by kernel_rfl
instance : TSize Try.prog 109 1 := ⟨Try.sizeOf109⟩
instance : TAgg Try.prog 109 false := ⟨Try.isAgg109⟩
instance : TZero Try.prog 109 (Go.Value.nilFunc) := ⟨Try.zeroValue109⟩
theorem row109 : (Try.prog.info? 109).map (fun i => (i.size, i.bytes)) = some (1, 8) := by kernel_rfl
instance : TSize Try.prog 110 1 := ⟨Try.sizeOf110⟩
instance : TAgg Try.prog 110 false := ⟨Try.isAgg110⟩
instance : TZero Try.prog 110 (Go.Value.pointer Option.none) := ⟨Try.zeroValue110⟩
theorem row110 : (Try.prog.info? 110).map (fun i => (i.size, i.bytes)) = some (1, 8) := by kernel_rfl
instance : TUnd Try.prog 110 (.pointer 112) := ⟨Try.underlying110⟩
instance : TSize Try.prog 111 2 := ⟨Try.sizeOf111⟩
instance : TAgg Try.prog 111 true := ⟨Try.isAgg111⟩
def zc111 : Array Value :=  #[Go.Value.pointer Option.none, Go.Value.slice Option.none 0 0]
theorem zc111_size : zc111.size = 2 := rfl
instance : TZero Try.prog 111 (.agg zc111) := ⟨Try.zeroValue111⟩
theorem row111 : (Try.prog.info? 111).map (fun i => (i.size, i.bytes)) = some (2, 32) := by kernel_rfl
instance : TFld Try.prog 111 0 0 110 1 := ⟨⟨_, _, Try.underlying111, rfl, rfl, rfl, Try.sizeOf110, by decide⟩⟩
instance : TFld Try.prog 111 1 1 39 1 := ⟨⟨_, _, Try.underlying111, rfl, rfl, rfl, Try.sizeOf39, by decide⟩⟩
instance : TBuild Try.prog 111 zc111 [(0, 1), (1, 1)] := ⟨fun _ => by kernel_rfl⟩
instance : TSize Try.prog 112 2 := ⟨Try.sizeOf112⟩
instance : TAgg Try.prog 112 true := ⟨Try.isAgg112⟩
def zc112 : Array Value :=  #[Go.Value.pointer Option.none, Go.Value.slice Option.none 0 0]
theorem zc112_size : zc112.size = 2 := rfl
instance : TZero Try.prog 112 (.agg zc112) := ⟨Try.zeroValue112⟩
theorem row112 : (Try.prog.info? 112).map (fun i => (i.size, i.bytes)) = some (2, 32) := by kernel_rfl
instance : TFld Try.prog 112 0 0 110 1 := ⟨⟨_, _, Try.underlying112, rfl, rfl, rfl, Try.sizeOf110, by decide⟩⟩
instance : TFld Try.prog 112 1 1 39 1 := ⟨⟨_, _, Try.underlying112, rfl, rfl, rfl, Try.sizeOf39, by decide⟩⟩
instance : TBuild Try.prog 112 zc112 [(0, 1), (1, 1)] := ⟨fun _ => by kernel_rfl⟩
instance : TSize Try.prog 113 1 := ⟨Try.sizeOf113⟩
instance : TAgg Try.prog 113 false := ⟨Try.isAgg113⟩
instance : TZero Try.prog 113 (Go.Value.nilFunc) := ⟨Try.zeroValue113⟩
theorem row113 : (Try.prog.info? 113).map (fun i => (i.size, i.bytes)) = some (1, 8) := by kernel_rfl
instance : TSize Try.prog 114 1 := ⟨Try.sizeOf114⟩
instance : TAgg Try.prog 114 false := ⟨Try.isAgg114⟩
instance : TZero Try.prog 114 (Go.Value.nilIface) := ⟨Try.zeroValue114⟩
theorem row114 : (Try.prog.info? 114).map (fun i => (i.size, i.bytes)) = some (1, 16) := by kernel_rfl
instance : TUnd Try.prog 114 (Go.TypeDesc.interface #[("Error", 118)]) := ⟨Try.underlying114⟩
instance : TSize Try.prog 115 1 := ⟨Try.sizeOf115⟩
instance : TAgg Try.prog 115 false := ⟨Try.isAgg115⟩
instance : TZero Try.prog 115 (Go.Value.nilIface) := ⟨Try.zeroValue115⟩
theorem row115 : (Try.prog.info? 115).map (fun i => (i.size, i.bytes)) = some (1, 16) := by kernel_rfl
instance : TUnd Try.prog 115 (Go.TypeDesc.interface #[("Error", 118)]) := ⟨Try.underlying115⟩
instance : TSize Try.prog 116 1 := ⟨Try.sizeOf116⟩
instance : TAgg Try.prog 116 false := ⟨Try.isAgg116⟩
instance : TZero Try.prog 116 (Go.Value.tuple #[Go.Value.int Go.IntKind.i64 0, Go.Value.nilIface]) := ⟨Try.zeroValue116⟩
theorem row116 : (Try.prog.info? 116).map (fun i => (i.size, i.bytes)) = some (1, 0) := by kernel_rfl
instance : TSize Try.prog 117 1 := ⟨Try.sizeOf117⟩
instance : TAgg Try.prog 117 false := ⟨Try.isAgg117⟩
instance : TZero Try.prog 117 (Go.Value.nilFunc) := ⟨Try.zeroValue117⟩
theorem row117 : (Try.prog.info? 117).map (fun i => (i.size, i.bytes)) = some (1, 8) := by kernel_rfl
instance : TSize Try.prog 118 1 := ⟨Try.sizeOf118⟩
instance : TAgg Try.prog 118 false := ⟨Try.isAgg118⟩
instance : TZero Try.prog 118 (Go.Value.nilFunc) := ⟨Try.zeroValue118⟩
theorem row118 : (Try.prog.info? 118).map (fun i => (i.size, i.bytes)) = some (1, 8) := by kernel_rfl
instance : TSize Try.prog 119 1 := ⟨Try.sizeOf119⟩
instance : TAgg Try.prog 119 false := ⟨Try.isAgg119⟩
instance : TZero Try.prog 119 (Go.Value.nilFunc) := ⟨Try.zeroValue119⟩
theorem row119 : (Try.prog.info? 119).map (fun i => (i.size, i.bytes)) = some (1, 8) := by kernel_rfl
instance : TSize Try.prog 120 1 := ⟨Try.sizeOf120⟩
instance : TAgg Try.prog 120 false := ⟨Try.isAgg120⟩
instance : TZero Try.prog 120 (Go.Value.nilFunc) := ⟨Try.zeroValue120⟩
theorem row120 : (Try.prog.info? 120).map (fun i => (i.size, i.bytes)) = some (1, 8) := by kernel_rfl
instance : TSize Try.prog 121 5 := ⟨Try.sizeOf121⟩
instance : TAgg Try.prog 121 true := ⟨Try.isAgg121⟩
def zc121 : Array Value :=  #[Go.Value.int Go.IntKind.i64 0, Go.Value.int Go.IntKind.i64 0, Go.Value.int Go.IntKind.i64 0, Go.Value.int Go.IntKind.i64 0, Go.Value.slice Option.none 0 0]
theorem zc121_size : zc121.size = 5 := rfl
instance : TZero Try.prog 121 (.agg zc121) := ⟨Try.zeroValue121⟩
theorem row121 : (Try.prog.info? 121).map (fun i => (i.size, i.bytes)) = some (5, 56) := by kernel_rfl
instance : TFld Try.prog 121 0 0 23 4 := ⟨⟨_, _, Try.underlying121, rfl, rfl, rfl, Try.sizeOf23, by decide⟩⟩
instance : TFld Try.prog 121 1 4 50 1 := ⟨⟨_, _, Try.underlying121, rfl, rfl, rfl, Try.sizeOf50, by decide⟩⟩
instance : TBuild Try.prog 121 zc121 [(0, 4), (4, 1)] := ⟨fun _ => by kernel_rfl⟩
instance : TSize Try.prog 122 5 := ⟨Try.sizeOf122⟩
instance : TAgg Try.prog 122 true := ⟨Try.isAgg122⟩
def zc122 : Array Value :=  #[Go.Value.int Go.IntKind.i64 0, Go.Value.int Go.IntKind.i64 0, Go.Value.int Go.IntKind.i64 0, Go.Value.int Go.IntKind.i64 0, Go.Value.slice Option.none 0 0]
theorem zc122_size : zc122.size = 5 := rfl
instance : TZero Try.prog 122 (.agg zc122) := ⟨Try.zeroValue122⟩
theorem row122 : (Try.prog.info? 122).map (fun i => (i.size, i.bytes)) = some (5, 56) := by kernel_rfl
instance : TFld Try.prog 122 0 0 23 4 := ⟨⟨_, _, Try.underlying122, rfl, rfl, rfl, Try.sizeOf23, by decide⟩⟩
instance : TFld Try.prog 122 1 4 50 1 := ⟨⟨_, _, Try.underlying122, rfl, rfl, rfl, Try.sizeOf50, by decide⟩⟩
instance : TBuild Try.prog 122 zc122 [(0, 4), (4, 1)] := ⟨fun _ => by kernel_rfl⟩
instance : TSize Try.prog 123 1 := ⟨Try.sizeOf123⟩
instance : TAgg Try.prog 123 false := ⟨Try.isAgg123⟩
instance : TZero Try.prog 123 (Go.Value.tuple #[Go.Value.int Go.IntKind.i64 0, Go.Value.int Go.IntKind.i64 0]) := ⟨Try.zeroValue123⟩
theorem row123 : (Try.prog.info? 123).map (fun i => (i.size, i.bytes)) = some (1, 0) := by kernel_rfl
instance : TSize Try.prog 124 1 := ⟨Try.sizeOf124⟩
instance : TAgg Try.prog 124 false := ⟨Try.isAgg124⟩
instance : TZero Try.prog 124 (Go.Value.nilFunc) := ⟨Try.zeroValue124⟩
theorem row124 : (Try.prog.info? 124).map (fun i => (i.size, i.bytes)) = some (1, 8) := by kernel_rfl
instance : TSize Try.prog 125 1 := ⟨Try.sizeOf125⟩
instance : TAgg Try.prog 125 false := ⟨Try.isAgg125⟩
instance : TZero Try.prog 125 (Go.Value.nilFunc) := ⟨Try.zeroValue125⟩
theorem row125 : (Try.prog.info? 125).map (fun i => (i.size, i.bytes)) = some (1, 8) := by kernel_rfl
instance : TSize Try.prog 126 1 := ⟨Try.sizeOf126⟩
instance : TAgg Try.prog 126 false := ⟨Try.isAgg126⟩
instance : TZero Try.prog 126 (Go.Value.nilFunc) := ⟨Try.zeroValue126⟩
theorem row126 : (Try.prog.info? 126).map (fun i => (i.size, i.bytes)) = some (1, 8) := by kernel_rfl
instance : TSize Try.prog 127 9 := ⟨Try.sizeOf127⟩
instance : TAgg Try.prog 127 true := ⟨Try.isAgg127⟩
def zc127 : Array Value :=  #[Go.Value.slice Option.none 0 0, Go.Value.slice Option.none 0 0, Go.Value.int Go.IntKind.i64 0, Go.Value.int Go.IntKind.i64 0, Go.Value.int Go.IntKind.i64 0, Go.Value.int Go.IntKind.i64 0, Go.Value.int Go.IntKind.i64 0, Go.Value.int Go.IntKind.i64 0, Go.Value.int Go.IntKind.i64 0]
theorem zc127_size : zc127.size = 9 := rfl
instance : TZero Try.prog 127 (.agg zc127) := ⟨Try.zeroValue127⟩
theorem row127 : (Try.prog.info? 127).map (fun i => (i.size, i.bytes)) = some (9, 104) := by kernel_rfl
instance : TFld Try.prog 127 0 0 53 4 := ⟨⟨_, _, Try.underlying127, rfl, rfl, rfl, Try.sizeOf53, by decide⟩⟩
instance : TFld Try.prog 127 1 4 55 5 := ⟨⟨_, _, Try.underlying127, rfl, rfl, rfl, Try.sizeOf55, by decide⟩⟩
instance : TBuild Try.prog 127 zc127 [(0, 4), (4, 5)] := ⟨fun _ => by kernel_rfl⟩
instance : TSize Try.prog 128 9 := ⟨Try.sizeOf128⟩
instance : TAgg Try.prog 128 true := ⟨Try.isAgg128⟩
def zc128 : Array Value :=  #[Go.Value.slice Option.none 0 0, Go.Value.slice Option.none 0 0, Go.Value.int Go.IntKind.i64 0, Go.Value.int Go.IntKind.i64 0, Go.Value.int Go.IntKind.i64 0, Go.Value.int Go.IntKind.i64 0, Go.Value.int Go.IntKind.i64 0, Go.Value.int Go.IntKind.i64 0, Go.Value.int Go.IntKind.i64 0]
theorem zc128_size : zc128.size = 9 := rfl
instance : TZero Try.prog 128 (.agg zc128) := ⟨Try.zeroValue128⟩
theorem row128 : (Try.prog.info? 128).map (fun i => (i.size, i.bytes)) = some (9, 104) := by kernel_rfl
instance : TFld Try.prog 128 0 0 53 4 := ⟨⟨_, _, Try.underlying128, rfl, rfl, rfl, Try.sizeOf53, by decide⟩⟩
instance : TFld Try.prog 128 1 4 55 5 := ⟨⟨_, _, Try.underlying128, rfl, rfl, rfl, Try.sizeOf55, by decide⟩⟩
instance : TBuild Try.prog 128 zc128 [(0, 4), (4, 5)] := ⟨fun _ => by kernel_rfl⟩
instance : TSize Try.prog 129 1 := ⟨Try.sizeOf129⟩
instance : TAgg Try.prog 129 false := ⟨Try.isAgg129⟩
instance : TZero Try.prog 129 (Go.Value.nilFunc) := ⟨Try.zeroValue129⟩
theorem row129 : (Try.prog.info? 129).map (fun i => (i.size, i.bytes)) = some (1, 8) := by kernel_rfl
instance : TSize Try.prog 130 8 := ⟨Try.sizeOf130⟩
instance : TAgg Try.prog 130 true := ⟨Try.isAgg130⟩
def zc130 : Array Value :=  #[Go.Value.slice Option.none 0 0, Go.Value.slice Option.none 0 0, Go.Value.slice Option.none 0 0, Go.Value.slice Option.none 0 0, Go.Value.slice Option.none 0 0, Go.Value.slice Option.none 0 0, Go.Value.slice Option.none 0 0, Go.Value.slice Option.none 0 0]
theorem zc130_size : zc130.size = 8 := rfl
instance : TZero Try.prog 130 (.agg zc130) := ⟨Try.zeroValue130⟩
theorem row130 : (Try.prog.info? 130).map (fun i => (i.size, i.bytes)) = some (8, 192) := by kernel_rfl
instance : TUnd Try.prog 130 (.array 8 72) := ⟨Try.underlying130⟩
instance : TSize Try.prog 131 1 := ⟨Try.sizeOf131⟩
instance : TAgg Try.prog 131 false := ⟨Try.isAgg131⟩
instance : TZero Try.prog 131 (Go.Value.slice Option.none 0 0) := ⟨Try.zeroValue131⟩
theorem row131 : (Try.prog.info? 131).map (fun i => (i.size, i.bytes)) = some (1, 24) := by kernel_rfl
instance : TUnd Try.prog 131 (.slice 67) := ⟨Try.underlying131⟩
instance : TSize Try.prog 132 21 := ⟨Try.sizeOf132⟩
instance : TAgg Try.prog 132 true := ⟨Try.isAgg132⟩
def zc132 : Array Value :=  #[Go.Value.slice Option.none 0 0, Go.Value.slice Option.none 0 0, Go.Value.int Go.IntKind.i64 0, Go.Value.int Go.IntKind.i64 0, Go.Value.int Go.IntKind.i64 0, Go.Value.int Go.IntKind.i64 0, Go.Value.int Go.IntKind.i64 0, Go.Value.int Go.IntKind.i64 0, Go.Value.int Go.IntKind.i64 0, Go.Value.slice Option.none 0 0, Go.Value.slice Option.none 0 0, Go.Value.slice Option.none 0 0, Go.Value.slice Option.none 0 0, Go.Value.slice Option.none 0 0, Go.Value.slice Option.none 0 0, Go.Value.slice Option.none 0 0, Go.Value.slice Option.none 0 0, Go.Value.slice Option.none 0 0, Go.Value.slice Option.none 0 0, Go.Value.slice Option.none 0 0, Go.Value.slice Option.none 0 0]
theorem zc132_size : zc132.size = 21 := rfl
instance : TZero Try.prog 132 (.agg zc132) := ⟨Try.zeroValue132⟩
theorem row132 : (Try.prog.info? 132).map (fun i => (i.size, i.bytes)) = some (21, 392) := by kernel_rfl
instance : TFld Try.prog 132 0 0 128 9 := ⟨⟨_, _, Try.underlying132, rfl, rfl, rfl, Try.sizeOf128, by decide⟩⟩
instance : TFld Try.prog 132 1 9 67 1 := ⟨⟨_, _, Try.underlying132, rfl, rfl, rfl, Try.sizeOf67, by decide⟩⟩
instance : TFld Try.prog 132 2 10 130 8 := ⟨⟨_, _, Try.underlying132, rfl, rfl, rfl, Try.sizeOf130, by decide⟩⟩
instance : TFld Try.prog 132 3 18 46 1 := ⟨⟨_, _, Try.underlying132, rfl, rfl, rfl, Try.sizeOf46, by decide⟩⟩
instance : TFld Try.prog 132 4 19 50 1 := ⟨⟨_, _, Try.underlying132, rfl, rfl, rfl, Try.sizeOf50, by decide⟩⟩
instance : TFld Try.prog 132 5 20 131 1 := ⟨⟨_, _, Try.underlying132, rfl, rfl, rfl, Try.sizeOf131, by decide⟩⟩
instance : TBuild Try.prog 132 zc132 [(0, 9), (9, 1), (10, 8), (18, 1), (19, 1), (20, 1)] := ⟨fun _ => by kernel_rfl⟩
instance : TSize Try.prog 133 21 := ⟨Try.sizeOf133⟩
instance : TAgg Try.prog 133 true := ⟨Try.isAgg133⟩
def zc133 : Array Value :=  #[Go.Value.slice Option.none 0 0, Go.Value.slice Option.none 0 0, Go.Value.int Go.IntKind.i64 0, Go.Value.int Go.IntKind.i64 0, Go.Value.int Go.IntKind.i64 0, Go.Value.int Go.IntKind.i64 0, Go.Value.int Go.IntKind.i64 0, Go.Value.int Go.IntKind.i64 0, Go.Value.int Go.IntKind.i64 0, Go.Value.slice Option.none 0 0, Go.Value.slice Option.none 0 0, Go.Value.slice Option.none 0 0, Go.Value.slice Option.none 0 0, Go.Value.slice Option.none 0 0, Go.Value.slice Option.none 0 0, Go.Value.slice Option.none 0 0, Go.Value.slice Option.none 0 0, Go.Value.slice Option.none 0 0, Go.Value.slice Option.none 0 0, Go.Value.slice Option.none 0 0, Go.Value.slice Option.none 0 0]
theorem zc133_size : zc133.size = 21 := rfl
instance : TZero Try.prog 133 (.agg zc133) := ⟨Try.zeroValue133⟩
theorem row133 : (Try.prog.info? 133).map (fun i => (i.size, i.bytes)) = some (21, 392) := by kernel_rfl
instance : TFld Try.prog 133 0 0 128 9 := ⟨⟨_, _, Try.underlying133, rfl, rfl, rfl, Try.sizeOf128, by decide⟩⟩
instance : TFld Try.prog 133 1 9 67 1 := ⟨⟨_, _, Try.underlying133, rfl, rfl, rfl, Try.sizeOf67, by decide⟩⟩
instance : TFld Try.prog 133 2 10 130 8 := ⟨⟨_, _, Try.underlying133, rfl, rfl, rfl, Try.sizeOf130, by decide⟩⟩
instance : TFld Try.prog 133 3 18 46 1 := ⟨⟨_, _, Try.underlying133, rfl, rfl, rfl, Try.sizeOf46, by decide⟩⟩
instance : TFld Try.prog 133 4 19 50 1 := ⟨⟨_, _, Try.underlying133, rfl, rfl, rfl, Try.sizeOf50, by decide⟩⟩
instance : TFld Try.prog 133 5 20 131 1 := ⟨⟨_, _, Try.underlying133, rfl, rfl, rfl, Try.sizeOf131, by decide⟩⟩
instance : TBuild Try.prog 133 zc133 [(0, 9), (9, 1), (10, 8), (18, 1), (19, 1), (20, 1)] := ⟨fun _ => by kernel_rfl⟩
instance : TSize Try.prog 134 8 := ⟨Try.sizeOf134⟩
instance : TAgg Try.prog 134 true := ⟨Try.isAgg134⟩
def zc134 : Array Value :=  #[Go.Value.int Go.IntKind.i64 0, Go.Value.int Go.IntKind.i64 0, Go.Value.int Go.IntKind.i64 0, Go.Value.int Go.IntKind.i64 0, Go.Value.int Go.IntKind.i64 0, Go.Value.int Go.IntKind.i64 0, Go.Value.int Go.IntKind.i64 0, Go.Value.int Go.IntKind.i64 0]
theorem zc134_size : zc134.size = 8 := rfl
instance : TZero Try.prog 134 (.agg zc134) := ⟨Try.zeroValue134⟩
theorem row134 : (Try.prog.info? 134).map (fun i => (i.size, i.bytes)) = some (8, 64) := by kernel_rfl
instance : TUnd Try.prog 134 (.array 8 3) := ⟨Try.underlying134⟩
instance : TSize Try.prog 135 1 := ⟨Try.sizeOf135⟩
instance : TAgg Try.prog 135 false := ⟨Try.isAgg135⟩
instance : TZero Try.prog 135 (Go.Value.nilFunc) := ⟨Try.zeroValue135⟩
theorem row135 : (Try.prog.info? 135).map (fun i => (i.size, i.bytes)) = some (1, 8) := by kernel_rfl
instance : TSize Try.prog 136 2 := ⟨Try.sizeOf136⟩
instance : TAgg Try.prog 136 true := ⟨Try.isAgg136⟩
def zc136 : Array Value :=  #[Go.Value.int Go.IntKind.i64 0, Go.Value.int Go.IntKind.i64 0]
theorem zc136_size : zc136.size = 2 := rfl
instance : TZero Try.prog 136 (.agg zc136) := ⟨Try.zeroValue136⟩
theorem row136 : (Try.prog.info? 136).map (fun i => (i.size, i.bytes)) = some (2, 16) := by kernel_rfl
instance : TFld Try.prog 136 0 0 2 1 := ⟨⟨_, _, Try.underlying136, rfl, rfl, rfl, Try.sizeOf2, by decide⟩⟩
instance : TFld Try.prog 136 1 1 3 1 := ⟨⟨_, _, Try.underlying136, rfl, rfl, rfl, Try.sizeOf3, by decide⟩⟩
instance : TBuild Try.prog 136 zc136 [(0, 1), (1, 1)] := ⟨fun _ => by kernel_rfl⟩
instance : TSize Try.prog 137 2 := ⟨Try.sizeOf137⟩
instance : TAgg Try.prog 137 true := ⟨Try.isAgg137⟩
def zc137 : Array Value :=  #[Go.Value.int Go.IntKind.i64 0, Go.Value.int Go.IntKind.i64 0]
theorem zc137_size : zc137.size = 2 := rfl
instance : TZero Try.prog 137 (.agg zc137) := ⟨Try.zeroValue137⟩
theorem row137 : (Try.prog.info? 137).map (fun i => (i.size, i.bytes)) = some (2, 16) := by kernel_rfl
instance : TFld Try.prog 137 0 0 2 1 := ⟨⟨_, _, Try.underlying137, rfl, rfl, rfl, Try.sizeOf2, by decide⟩⟩
instance : TFld Try.prog 137 1 1 3 1 := ⟨⟨_, _, Try.underlying137, rfl, rfl, rfl, Try.sizeOf3, by decide⟩⟩
instance : TBuild Try.prog 137 zc137 [(0, 1), (1, 1)] := ⟨fun _ => by kernel_rfl⟩
instance : TSize Try.prog 138 1 := ⟨Try.sizeOf138⟩
instance : TAgg Try.prog 138 false := ⟨Try.isAgg138⟩
instance : TZero Try.prog 138 (Go.Value.nilFunc) := ⟨Try.zeroValue138⟩
theorem row138 : (Try.prog.info? 138).map (fun i => (i.size, i.bytes)) = some (1, 8) := by kernel_rfl
instance : TSize Try.prog 139 1 := ⟨Try.sizeOf139⟩
instance : TAgg Try.prog 139 false := ⟨Try.isAgg139⟩
instance : TZero Try.prog 139 (Go.Value.nilFunc) := ⟨Try.zeroValue139⟩
theorem row139 : (Try.prog.info? 139).map (fun i => (i.size, i.bytes)) = some (1, 8) := by kernel_rfl
instance : TSize Try.prog 140 1 := ⟨Try.sizeOf140⟩
instance : TAgg Try.prog 140 false := ⟨Try.isAgg140⟩
instance : TZero Try.prog 140 (Go.Value.nilFunc) := ⟨Try.zeroValue140⟩
theorem row140 : (Try.prog.info? 140).map (fun i => (i.size, i.bytes)) = some (1, 8) := by kernel_rfl
instance : TSize Try.prog 141 1 := ⟨Try.sizeOf141⟩
instance : TAgg Try.prog 141 false := ⟨Try.isAgg141⟩
instance : TZero Try.prog 141 (Go.Value.pointer Option.none) := ⟨Try.zeroValue141⟩
theorem row141 : (Try.prog.info? 141).map (fun i => (i.size, i.bytes)) = some (1, 8) := by kernel_rfl
instance : TUnd Try.prog 141 (.pointer 35) := ⟨Try.underlying141⟩
instance : TSize Try.prog 142 1 := ⟨Try.sizeOf142⟩
instance : TAgg Try.prog 142 false := ⟨Try.isAgg142⟩
instance : TZero Try.prog 142 (Go.Value.nilFunc) := ⟨Try.zeroValue142⟩
theorem row142 : (Try.prog.info? 142).map (fun i => (i.size, i.bytes)) = some (1, 8) := by kernel_rfl
instance : TSize Try.prog 143 1 := ⟨Try.sizeOf143⟩
instance : TAgg Try.prog 143 false := ⟨Try.isAgg143⟩
instance : TZero Try.prog 143 (Go.Value.nilFunc) := ⟨Try.zeroValue143⟩
theorem row143 : (Try.prog.info? 143).map (fun i => (i.size, i.bytes)) = some (1, 8) := by kernel_rfl
instance : TSize Try.prog 144 1 := ⟨Try.sizeOf144⟩
instance : TAgg Try.prog 144 false := ⟨Try.isAgg144⟩
instance : TZero Try.prog 144 (Go.Value.nilFunc) := ⟨Try.zeroValue144⟩
theorem row144 : (Try.prog.info? 144).map (fun i => (i.size, i.bytes)) = some (1, 8) := by kernel_rfl
instance : TSize Try.prog 145 4 := ⟨Try.sizeOf145⟩
instance : TAgg Try.prog 145 true := ⟨Try.isAgg145⟩
def zc145 : Array Value :=  #[Go.Value.nilFunc, Go.Value.nilFunc, Go.Value.nilFunc, Go.Value.nilFunc]
theorem zc145_size : zc145.size = 4 := rfl
instance : TZero Try.prog 145 (.agg zc145) := ⟨Try.zeroValue145⟩
theorem row145 : (Try.prog.info? 145).map (fun i => (i.size, i.bytes)) = some (4, 32) := by kernel_rfl
instance : TUnd Try.prog 145 (.array 4 144) := ⟨Try.underlying145⟩
instance : TSize Try.prog 146 1 := ⟨Try.sizeOf146⟩
instance : TAgg Try.prog 146 false := ⟨Try.isAgg146⟩
instance : TZero Try.prog 146 (Go.Value.nilFunc) := ⟨Try.zeroValue146⟩
theorem row146 : (Try.prog.info? 146).map (fun i => (i.size, i.bytes)) = some (1, 8) := by kernel_rfl
instance : TSize Try.prog 147 1 := ⟨Try.sizeOf147⟩
instance : TAgg Try.prog 147 false := ⟨Try.isAgg147⟩
instance : TZero Try.prog 147 (Go.Value.nilFunc) := ⟨Try.zeroValue147⟩
theorem row147 : (Try.prog.info? 147).map (fun i => (i.size, i.bytes)) = some (1, 8) := by kernel_rfl
instance : TSize Try.prog 148 1 := ⟨Try.sizeOf148⟩
instance : TAgg Try.prog 148 false := ⟨Try.isAgg148⟩
instance : TZero Try.prog 148 (Go.Value.nilFunc) := ⟨Try.zeroValue148⟩
theorem row148 : (Try.prog.info? 148).map (fun i => (i.size, i.bytes)) = some (1, 8) := by kernel_rfl
instance : TSize Try.prog 149 1 := ⟨Try.sizeOf149⟩
instance : TAgg Try.prog 149 false := ⟨Try.isAgg149⟩
instance : TZero Try.prog 149 (Go.Value.nilFunc) := ⟨Try.zeroValue149⟩
theorem row149 : (Try.prog.info? 149).map (fun i => (i.size, i.bytes)) = some (1, 8) := by kernel_rfl
instance : TSize Try.prog 150 1 := ⟨Try.sizeOf150⟩
instance : TAgg Try.prog 150 false := ⟨Try.isAgg150⟩
instance : TZero Try.prog 150 (Go.Value.nilFunc) := ⟨Try.zeroValue150⟩
theorem row150 : (Try.prog.info? 150).map (fun i => (i.size, i.bytes)) = some (1, 8) := by kernel_rfl
instance : TSize Try.prog 151 1 := ⟨Try.sizeOf151⟩
instance : TAgg Try.prog 151 false := ⟨Try.isAgg151⟩
instance : TZero Try.prog 151 (Go.Value.nilFunc) := ⟨Try.zeroValue151⟩
theorem row151 : (Try.prog.info? 151).map (fun i => (i.size, i.bytes)) = some (1, 8) := by kernel_rfl
instance : TSize Try.prog 152 1 := ⟨Try.sizeOf152⟩
instance : TAgg Try.prog 152 false := ⟨Try.isAgg152⟩
instance : TZero Try.prog 152 (Go.Value.nilFunc) := ⟨Try.zeroValue152⟩
theorem row152 : (Try.prog.info? 152).map (fun i => (i.size, i.bytes)) = some (1, 8) := by kernel_rfl
instance : TSize Try.prog 153 1 := ⟨Try.sizeOf153⟩
instance : TAgg Try.prog 153 false := ⟨Try.isAgg153⟩
instance : TZero Try.prog 153 (Go.Value.nilFunc) := ⟨Try.zeroValue153⟩
theorem row153 : (Try.prog.info? 153).map (fun i => (i.size, i.bytes)) = some (1, 8) := by kernel_rfl
instance : TSize Try.prog 154 1 := ⟨Try.sizeOf154⟩
instance : TAgg Try.prog 154 false := ⟨Try.isAgg154⟩
instance : TZero Try.prog 154 (Go.Value.nilFunc) := ⟨Try.zeroValue154⟩
theorem row154 : (Try.prog.info? 154).map (fun i => (i.size, i.bytes)) = some (1, 8) := by kernel_rfl
instance : TSize Try.prog 155 1 := ⟨Try.sizeOf155⟩
instance : TAgg Try.prog 155 false := ⟨Try.isAgg155⟩
instance : TZero Try.prog 155 (Go.Value.nilFunc) := ⟨Try.zeroValue155⟩
theorem row155 : (Try.prog.info? 155).map (fun i => (i.size, i.bytes)) = some (1, 8) := by kernel_rfl
instance : TSize Try.prog 156 1 := ⟨Try.sizeOf156⟩
instance : TAgg Try.prog 156 false := ⟨Try.isAgg156⟩
instance : TZero Try.prog 156 (Go.Value.nilFunc) := ⟨Try.zeroValue156⟩
theorem row156 : (Try.prog.info? 156).map (fun i => (i.size, i.bytes)) = some (1, 8) := by kernel_rfl
instance : TSize Try.prog 157 1 := ⟨Try.sizeOf157⟩
instance : TAgg Try.prog 157 false := ⟨Try.isAgg157⟩
instance : TZero Try.prog 157 (Go.Value.nilFunc) := ⟨Try.zeroValue157⟩
theorem row157 : (Try.prog.info? 157).map (fun i => (i.size, i.bytes)) = some (1, 8) := by kernel_rfl
instance : TSize Try.prog 158 1 := ⟨Try.sizeOf158⟩
instance : TAgg Try.prog 158 false := ⟨Try.isAgg158⟩
instance : TZero Try.prog 158 (Go.Value.nilFunc) := ⟨Try.zeroValue158⟩
theorem row158 : (Try.prog.info? 158).map (fun i => (i.size, i.bytes)) = some (1, 8) := by kernel_rfl
instance : TSize Try.prog 159 3 := ⟨Try.sizeOf159⟩
instance : TAgg Try.prog 159 true := ⟨Try.isAgg159⟩
def zc159 : Array Value :=  #[Go.Value.int Go.IntKind.i64 0, Go.Value.nilFunc, Go.Value.nilFunc]
theorem zc159_size : zc159.size = 3 := rfl
instance : TZero Try.prog 159 (.agg zc159) := ⟨Try.zeroValue159⟩
theorem row159 : (Try.prog.info? 159).map (fun i => (i.size, i.bytes)) = some (3, 24) := by kernel_rfl
instance : TFld Try.prog 159 0 0 3 1 := ⟨⟨_, _, Try.underlying159, rfl, rfl, rfl, Try.sizeOf3, by decide⟩⟩
instance : TFld Try.prog 159 1 1 157 1 := ⟨⟨_, _, Try.underlying159, rfl, rfl, rfl, Try.sizeOf157, by decide⟩⟩
instance : TFld Try.prog 159 2 2 158 1 := ⟨⟨_, _, Try.underlying159, rfl, rfl, rfl, Try.sizeOf158, by decide⟩⟩
instance : TBuild Try.prog 159 zc159 [(0, 1), (1, 1), (2, 1)] := ⟨fun _ => by kernel_rfl⟩
instance : TSize Try.prog 160 3 := ⟨Try.sizeOf160⟩
instance : TAgg Try.prog 160 true := ⟨Try.isAgg160⟩
def zc160 : Array Value :=  #[Go.Value.int Go.IntKind.i64 0, Go.Value.nilFunc, Go.Value.nilFunc]
theorem zc160_size : zc160.size = 3 := rfl
instance : TZero Try.prog 160 (.agg zc160) := ⟨Try.zeroValue160⟩
theorem row160 : (Try.prog.info? 160).map (fun i => (i.size, i.bytes)) = some (3, 24) := by kernel_rfl
instance : TFld Try.prog 160 0 0 3 1 := ⟨⟨_, _, Try.underlying160, rfl, rfl, rfl, Try.sizeOf3, by decide⟩⟩
instance : TFld Try.prog 160 1 1 157 1 := ⟨⟨_, _, Try.underlying160, rfl, rfl, rfl, Try.sizeOf157, by decide⟩⟩
instance : TFld Try.prog 160 2 2 158 1 := ⟨⟨_, _, Try.underlying160, rfl, rfl, rfl, Try.sizeOf158, by decide⟩⟩
instance : TBuild Try.prog 160 zc160 [(0, 1), (1, 1), (2, 1)] := ⟨fun _ => by kernel_rfl⟩
instance : TSize Try.prog 161 24 := ⟨Try.sizeOf161⟩
instance : TAgg Try.prog 161 true := ⟨Try.isAgg161⟩
def zc161 : Array Value :=  #[Go.Value.int Go.IntKind.i64 0, Go.Value.nilFunc, Go.Value.nilFunc, Go.Value.int Go.IntKind.i64 0, Go.Value.nilFunc, Go.Value.nilFunc, Go.Value.int Go.IntKind.i64 0, Go.Value.nilFunc, Go.Value.nilFunc, Go.Value.int Go.IntKind.i64 0, Go.Value.nilFunc, Go.Value.nilFunc, Go.Value.int Go.IntKind.i64 0, Go.Value.nilFunc, Go.Value.nilFunc, Go.Value.int Go.IntKind.i64 0, Go.Value.nilFunc, Go.Value.nilFunc, Go.Value.int Go.IntKind.i64 0, Go.Value.nilFunc, Go.Value.nilFunc, Go.Value.int Go.IntKind.i64 0, Go.Value.nilFunc, Go.Value.nilFunc]
theorem zc161_size : zc161.size = 24 := rfl
instance : TZero Try.prog 161 (.agg zc161) := ⟨Try.zeroValue161⟩
theorem row161 : (Try.prog.info? 161).map (fun i => (i.size, i.bytes)) = some (24, 192) := by kernel_rfl
instance : TUnd Try.prog 161 (.array 8 160) := ⟨Try.underlying161⟩
instance : TSize Try.prog 162 1 := ⟨Try.sizeOf162⟩
instance : TAgg Try.prog 162 false := ⟨Try.isAgg162⟩
instance : TZero Try.prog 162 (Go.Value.nilFunc) := ⟨Try.zeroValue162⟩
theorem row162 : (Try.prog.info? 162).map (fun i => (i.size, i.bytes)) = some (1, 8) := by kernel_rfl
instance : TSize Try.prog 163 1 := ⟨Try.sizeOf163⟩
instance : TAgg Try.prog 163 false := ⟨Try.isAgg163⟩
instance : TZero Try.prog 163 (Go.Value.nilFunc) := ⟨Try.zeroValue163⟩
theorem row163 : (Try.prog.info? 163).map (fun i => (i.size, i.bytes)) = some (1, 8) := by kernel_rfl
instance : TSize Try.prog 164 1 := ⟨Try.sizeOf164⟩
instance : TAgg Try.prog 164 false := ⟨Try.isAgg164⟩
instance : TZero Try.prog 164 (Go.Value.nilFunc) := ⟨Try.zeroValue164⟩
theorem row164 : (Try.prog.info? 164).map (fun i => (i.size, i.bytes)) = some (1, 8) := by kernel_rfl
instance : TSize Try.prog 165 1 := ⟨Try.sizeOf165⟩
instance : TAgg Try.prog 165 false := ⟨Try.isAgg165⟩
instance : TZero Try.prog 165 (Go.Value.nilFunc) := ⟨Try.zeroValue165⟩
theorem row165 : (Try.prog.info? 165).map (fun i => (i.size, i.bytes)) = some (1, 8) := by kernel_rfl
instance : TSize Try.prog 166 1 := ⟨Try.sizeOf166⟩
instance : TAgg Try.prog 166 false := ⟨Try.isAgg166⟩
instance : TZero Try.prog 166 (Go.Value.nilFunc) := ⟨Try.zeroValue166⟩
theorem row166 : (Try.prog.info? 166).map (fun i => (i.size, i.bytes)) = some (1, 8) := by kernel_rfl
instance : TSize Try.prog 167 1 := ⟨Try.sizeOf167⟩
instance : TAgg Try.prog 167 false := ⟨Try.isAgg167⟩
instance : TZero Try.prog 167 (Go.Value.nilFunc) := ⟨Try.zeroValue167⟩
theorem row167 : (Try.prog.info? 167).map (fun i => (i.size, i.bytes)) = some (1, 8) := by kernel_rfl
instance : TSize Try.prog 168 1 := ⟨Try.sizeOf168⟩
instance : TAgg Try.prog 168 false := ⟨Try.isAgg168⟩
instance : TZero Try.prog 168 (Go.Value.tuple #[Go.Value.pointer Option.none, Go.Value.bool Bool.false]) := ⟨Try.zeroValue168⟩
theorem row168 : (Try.prog.info? 168).map (fun i => (i.size, i.bytes)) = some (1, 0) := by kernel_rfl
instance : TSize Try.prog 169 1 := ⟨Try.sizeOf169⟩
instance : TAgg Try.prog 169 false := ⟨Try.isAgg169⟩
instance : TZero Try.prog 169 (Go.Value.nilFunc) := ⟨Try.zeroValue169⟩
theorem row169 : (Try.prog.info? 169).map (fun i => (i.size, i.bytes)) = some (1, 8) := by kernel_rfl
instance : TSize Try.prog 170 1 := ⟨Try.sizeOf170⟩
instance : TAgg Try.prog 170 false := ⟨Try.isAgg170⟩
instance : TZero Try.prog 170 (Go.Value.int Go.IntKind.u32 0) := ⟨Try.zeroValue170⟩
theorem row170 : (Try.prog.info? 170).map (fun i => (i.size, i.bytes)) = some (1, 4) := by kernel_rfl
instance : TUnd Try.prog 170 (.int Go.IntKind.u32) := ⟨Try.underlying170⟩
instance : TSize Try.prog 171 1 := ⟨Try.sizeOf171⟩
instance : TAgg Try.prog 171 false := ⟨Try.isAgg171⟩
instance : TZero Try.prog 171 (Go.Value.tuple #[Go.Value.int Go.IntKind.u32 0, Go.Value.int Go.IntKind.u32 0]) := ⟨Try.zeroValue171⟩
theorem row171 : (Try.prog.info? 171).map (fun i => (i.size, i.bytes)) = some (1, 0) := by kernel_rfl
instance : TSize Try.prog 172 1 := ⟨Try.sizeOf172⟩
instance : TAgg Try.prog 172 false := ⟨Try.isAgg172⟩
instance : TZero Try.prog 172 (Go.Value.nilFunc) := ⟨Try.zeroValue172⟩
theorem row172 : (Try.prog.info? 172).map (fun i => (i.size, i.bytes)) = some (1, 8) := by kernel_rfl
instance : TSize Try.prog 173 1 := ⟨Try.sizeOf173⟩
instance : TAgg Try.prog 173 false := ⟨Try.isAgg173⟩
instance : TZero Try.prog 173 (Go.Value.int Go.IntKind.u64 0) := ⟨Try.zeroValue173⟩
theorem row173 : (Try.prog.info? 173).map (fun i => (i.size, i.bytes)) = some (1, 8) := by kernel_rfl
instance : TUnd Try.prog 173 (.int Go.IntKind.u64) := ⟨Try.underlying173⟩
instance : TSize Try.prog 174 1 := ⟨Try.sizeOf174⟩
instance : TAgg Try.prog 174 false := ⟨Try.isAgg174⟩
instance : TZero Try.prog 174 (Go.Value.tuple #[Go.Value.int Go.IntKind.u64 0, Go.Value.int Go.IntKind.u64 0]) := ⟨Try.zeroValue174⟩
theorem row174 : (Try.prog.info? 174).map (fun i => (i.size, i.bytes)) = some (1, 0) := by kernel_rfl
instance : TSize Try.prog 175 1 := ⟨Try.sizeOf175⟩
instance : TAgg Try.prog 175 false := ⟨Try.isAgg175⟩
instance : TZero Try.prog 175 (Go.Value.nilFunc) := ⟨Try.zeroValue175⟩
theorem row175 : (Try.prog.info? 175).map (fun i => (i.size, i.bytes)) = some (1, 8) := by kernel_rfl
instance : TSize Try.prog 176 1 := ⟨Try.sizeOf176⟩
instance : TAgg Try.prog 176 false := ⟨Try.isAgg176⟩
instance : TZero Try.prog 176 (Go.Value.pointer Option.none) := ⟨Try.zeroValue176⟩
theorem row176 : (Try.prog.info? 176).map (fun i => (i.size, i.bytes)) = some (1, 8) := by kernel_rfl
instance : TUnd Try.prog 176 (.pointer 5) := ⟨Try.underlying176⟩
instance : TSize Try.prog 177 1 := ⟨Try.sizeOf177⟩
instance : TAgg Try.prog 177 false := ⟨Try.isAgg177⟩
instance : TZero Try.prog 177 (Go.Value.nilFunc) := ⟨Try.zeroValue177⟩
theorem row177 : (Try.prog.info? 177).map (fun i => (i.size, i.bytes)) = some (1, 8) := by kernel_rfl
instance : TSize Try.prog 178 1 := ⟨Try.sizeOf178⟩
instance : TAgg Try.prog 178 false := ⟨Try.isAgg178⟩
instance : TZero Try.prog 178 (Go.Value.nilFunc) := ⟨Try.zeroValue178⟩
theorem row178 : (Try.prog.info? 178).map (fun i => (i.size, i.bytes)) = some (1, 8) := by kernel_rfl
instance : TSize Try.prog 179 1 := ⟨Try.sizeOf179⟩
instance : TAgg Try.prog 179 false := ⟨Try.isAgg179⟩
instance : TZero Try.prog 179 (Go.Value.nilFunc) := ⟨Try.zeroValue179⟩
theorem row179 : (Try.prog.info? 179).map (fun i => (i.size, i.bytes)) = some (1, 8) := by kernel_rfl
instance : TSize Try.prog 180 1 := ⟨Try.sizeOf180⟩
instance : TAgg Try.prog 180 false := ⟨Try.isAgg180⟩
instance : TZero Try.prog 180 (Go.Value.nilFunc) := ⟨Try.zeroValue180⟩
theorem row180 : (Try.prog.info? 180).map (fun i => (i.size, i.bytes)) = some (1, 8) := by kernel_rfl
instance : TSize Try.prog 181 1 := ⟨Try.sizeOf181⟩
instance : TAgg Try.prog 181 false := ⟨Try.isAgg181⟩
instance : TZero Try.prog 181 (Go.Value.nilFunc) := ⟨Try.zeroValue181⟩
theorem row181 : (Try.prog.info? 181).map (fun i => (i.size, i.bytes)) = some (1, 8) := by kernel_rfl
instance : TSize Try.prog 182 2 := ⟨Try.sizeOf182⟩
instance : TAgg Try.prog 182 true := ⟨Try.isAgg182⟩
def zc182 : Array Value :=  #[Go.Value.int Go.IntKind.i64 0, Go.Value.int Go.IntKind.i64 0]
theorem zc182_size : zc182.size = 2 := rfl
instance : TZero Try.prog 182 (.agg zc182) := ⟨Try.zeroValue182⟩
theorem row182 : (Try.prog.info? 182).map (fun i => (i.size, i.bytes)) = some (2, 16) := by kernel_rfl
instance : TFld Try.prog 182 0 0 3 1 := ⟨⟨_, _, Try.underlying182, rfl, rfl, rfl, Try.sizeOf3, by decide⟩⟩
instance : TFld Try.prog 182 1 1 3 1 := ⟨⟨_, _, Try.underlying182, rfl, rfl, rfl, Try.sizeOf3, by decide⟩⟩
instance : TBuild Try.prog 182 zc182 [(0, 1), (1, 1)] := ⟨fun _ => by kernel_rfl⟩
instance : TSize Try.prog 183 2 := ⟨Try.sizeOf183⟩
instance : TAgg Try.prog 183 true := ⟨Try.isAgg183⟩
def zc183 : Array Value :=  #[Go.Value.int Go.IntKind.i64 0, Go.Value.int Go.IntKind.i64 0]
theorem zc183_size : zc183.size = 2 := rfl
instance : TZero Try.prog 183 (.agg zc183) := ⟨Try.zeroValue183⟩
theorem row183 : (Try.prog.info? 183).map (fun i => (i.size, i.bytes)) = some (2, 16) := by kernel_rfl
instance : TFld Try.prog 183 0 0 3 1 := ⟨⟨_, _, Try.underlying183, rfl, rfl, rfl, Try.sizeOf3, by decide⟩⟩
instance : TFld Try.prog 183 1 1 3 1 := ⟨⟨_, _, Try.underlying183, rfl, rfl, rfl, Try.sizeOf3, by decide⟩⟩
instance : TBuild Try.prog 183 zc183 [(0, 1), (1, 1)] := ⟨fun _ => by kernel_rfl⟩
instance : TSize Try.prog 184 1 := ⟨Try.sizeOf184⟩
instance : TAgg Try.prog 184 false := ⟨Try.isAgg184⟩
instance : TZero Try.prog 184 (Go.Value.nilFunc) := ⟨Try.zeroValue184⟩
theorem row184 : (Try.prog.info? 184).map (fun i => (i.size, i.bytes)) = some (1, 8) := by kernel_rfl
instance : TSize Try.prog 185 1 := ⟨Try.sizeOf185⟩
instance : TAgg Try.prog 185 false := ⟨Try.isAgg185⟩
instance : TZero Try.prog 185 (Go.Value.nilFunc) := ⟨Try.zeroValue185⟩
theorem row185 : (Try.prog.info? 185).map (fun i => (i.size, i.bytes)) = some (1, 8) := by kernel_rfl
instance : TSize Try.prog 186 3 := ⟨Try.sizeOf186⟩
instance : TAgg Try.prog 186 true := ⟨Try.isAgg186⟩
def zc186 : Array Value :=  #[Go.Value.int Go.IntKind.i64 0, Go.Value.int Go.IntKind.i64 0, Go.Value.int Go.IntKind.i64 0]
theorem zc186_size : zc186.size = 3 := rfl
instance : TZero Try.prog 186 (.agg zc186) := ⟨Try.zeroValue186⟩
theorem row186 : (Try.prog.info? 186).map (fun i => (i.size, i.bytes)) = some (3, 24) := by kernel_rfl
instance : TUnd Try.prog 186 (.array 3 3) := ⟨Try.underlying186⟩
instance : TSize Try.prog 187 1 := ⟨Try.sizeOf187⟩
instance : TAgg Try.prog 187 false := ⟨Try.isAgg187⟩
instance : TZero Try.prog 187 (Go.Value.nilFunc) := ⟨Try.zeroValue187⟩
theorem row187 : (Try.prog.info? 187).map (fun i => (i.size, i.bytes)) = some (1, 8) := by kernel_rfl
instance : TSize Try.prog 188 1 := ⟨Try.sizeOf188⟩
instance : TAgg Try.prog 188 true := ⟨Try.isAgg188⟩
def zc188 : Array Value :=  #[Go.Value.int Go.IntKind.i64 0]
theorem zc188_size : zc188.size = 1 := rfl
instance : TZero Try.prog 188 (.agg zc188) := ⟨Try.zeroValue188⟩
theorem row188 : (Try.prog.info? 188).map (fun i => (i.size, i.bytes)) = some (1, 8) := by kernel_rfl
instance : TFld Try.prog 188 0 0 35 1 := ⟨⟨_, _, Try.underlying188, rfl, rfl, rfl, Try.sizeOf35, by decide⟩⟩
instance : TBuild Try.prog 188 zc188 [(0, 1)] := ⟨fun _ => by kernel_rfl⟩
instance : TSize Try.prog 189 1 := ⟨Try.sizeOf189⟩
instance : TAgg Try.prog 189 true := ⟨Try.isAgg189⟩
def zc189 : Array Value :=  #[Go.Value.int Go.IntKind.i64 0]
theorem zc189_size : zc189.size = 1 := rfl
instance : TZero Try.prog 189 (.agg zc189) := ⟨Try.zeroValue189⟩
theorem row189 : (Try.prog.info? 189).map (fun i => (i.size, i.bytes)) = some (1, 8) := by kernel_rfl
instance : TFld Try.prog 189 0 0 35 1 := ⟨⟨_, _, Try.underlying189, rfl, rfl, rfl, Try.sizeOf35, by decide⟩⟩
instance : TBuild Try.prog 189 zc189 [(0, 1)] := ⟨fun _ => by kernel_rfl⟩
instance : TSize Try.prog 190 1 := ⟨Try.sizeOf190⟩
instance : TAgg Try.prog 190 false := ⟨Try.isAgg190⟩
instance : TZero Try.prog 190 (Go.Value.nilFunc) := ⟨Try.zeroValue190⟩
theorem row190 : (Try.prog.info? 190).map (fun i => (i.size, i.bytes)) = some (1, 8) := by kernel_rfl
instance : TSize Try.prog 191 1 := ⟨Try.sizeOf191⟩
instance : TAgg Try.prog 191 false := ⟨Try.isAgg191⟩
instance : TZero Try.prog 191 (Go.Value.nilFunc) := ⟨Try.zeroValue191⟩
theorem row191 : (Try.prog.info? 191).map (fun i => (i.size, i.bytes)) = some (1, 8) := by kernel_rfl
instance : TSize Try.prog 192 1 := ⟨Try.sizeOf192⟩
instance : TAgg Try.prog 192 false := ⟨Try.isAgg192⟩
instance : TZero Try.prog 192 (Go.Value.nilFunc) := ⟨Try.zeroValue192⟩
theorem row192 : (Try.prog.info? 192).map (fun i => (i.size, i.bytes)) = some (1, 8) := by kernel_rfl
instance : TSize Try.prog 193 1 := ⟨Try.sizeOf193⟩
instance : TAgg Try.prog 193 false := ⟨Try.isAgg193⟩
instance : TZero Try.prog 193 (Go.Value.nilFunc) := ⟨Try.zeroValue193⟩
theorem row193 : (Try.prog.info? 193).map (fun i => (i.size, i.bytes)) = some (1, 8) := by kernel_rfl
instance : TSize Try.prog 194 1 := ⟨Try.sizeOf194⟩
instance : TAgg Try.prog 194 false := ⟨Try.isAgg194⟩
instance : TZero Try.prog 194 (Go.Value.nilFunc) := ⟨Try.zeroValue194⟩
theorem row194 : (Try.prog.info? 194).map (fun i => (i.size, i.bytes)) = some (1, 8) := by kernel_rfl
instance : TSize Try.prog 195 1 := ⟨Try.sizeOf195⟩
instance : TAgg Try.prog 195 false := ⟨Try.isAgg195⟩
instance : TZero Try.prog 195 (Go.Value.nilFunc) := ⟨Try.zeroValue195⟩
theorem row195 : (Try.prog.info? 195).map (fun i => (i.size, i.bytes)) = some (1, 8) := by kernel_rfl
instance : TSize Try.prog 196 1 := ⟨Try.sizeOf196⟩
instance : TAgg Try.prog 196 false := ⟨Try.isAgg196⟩
instance : TZero Try.prog 196 (Go.Value.nilFunc) := ⟨Try.zeroValue196⟩
theorem row196 : (Try.prog.info? 196).map (fun i => (i.size, i.bytes)) = some (1, 8) := by kernel_rfl
instance : TSize Try.prog 197 1 := ⟨Try.sizeOf197⟩
instance : TAgg Try.prog 197 false := ⟨Try.isAgg197⟩
instance : TZero Try.prog 197 (Go.Value.int Go.IntKind.i64 0) := ⟨Try.zeroValue197⟩
theorem row197 : (Try.prog.info? 197).map (fun i => (i.size, i.bytes)) = some (1, 8) := by kernel_rfl
instance : TUnd Try.prog 197 (.int Go.IntKind.i64) := ⟨Try.underlying197⟩
instance : TSize Try.prog 198 1 := ⟨Try.sizeOf198⟩
instance : TAgg Try.prog 198 false := ⟨Try.isAgg198⟩
instance : TZero Try.prog 198 (Go.Value.tuple #[Go.Value.int Go.IntKind.i64 0, Go.Value.int Go.IntKind.i64 0]) := ⟨Try.zeroValue198⟩
theorem row198 : (Try.prog.info? 198).map (fun i => (i.size, i.bytes)) = some (1, 0) := by kernel_rfl
instance : TSize Try.prog 199 1 := ⟨Try.sizeOf199⟩
instance : TAgg Try.prog 199 false := ⟨Try.isAgg199⟩
instance : TZero Try.prog 199 (Go.Value.nilFunc) := ⟨Try.zeroValue199⟩
theorem row199 : (Try.prog.info? 199).map (fun i => (i.size, i.bytes)) = some (1, 8) := by kernel_rfl
instance : TSize Try.prog 200 1 := ⟨Try.sizeOf200⟩
instance : TAgg Try.prog 200 false := ⟨Try.isAgg200⟩
instance : TZero Try.prog 200 (Go.Value.nilFunc) := ⟨Try.zeroValue200⟩
theorem row200 : (Try.prog.info? 200).map (fun i => (i.size, i.bytes)) = some (1, 8) := by kernel_rfl
instance : TSize Try.prog 201 1 := ⟨Try.sizeOf201⟩
instance : TAgg Try.prog 201 false := ⟨Try.isAgg201⟩
instance : TZero Try.prog 201 (Go.Value.nilFunc) := ⟨Try.zeroValue201⟩
theorem row201 : (Try.prog.info? 201).map (fun i => (i.size, i.bytes)) = some (1, 8) := by kernel_rfl
instance : TSize Try.prog 202 1 := ⟨Try.sizeOf202⟩
instance : TAgg Try.prog 202 false := ⟨Try.isAgg202⟩
instance : TZero Try.prog 202 (Go.Value.tuple #[Go.Value.int Go.IntKind.i64 0, Go.Value.bool Bool.false]) := ⟨Try.zeroValue202⟩
theorem row202 : (Try.prog.info? 202).map (fun i => (i.size, i.bytes)) = some (1, 0) := by kernel_rfl
instance : TSize Try.prog 203 1 := ⟨Try.sizeOf203⟩
instance : TAgg Try.prog 203 false := ⟨Try.isAgg203⟩
instance : TZero Try.prog 203 (Go.Value.nilFunc) := ⟨Try.zeroValue203⟩
theorem row203 : (Try.prog.info? 203).map (fun i => (i.size, i.bytes)) = some (1, 8) := by kernel_rfl
instance : TSize Try.prog 204 1 := ⟨Try.sizeOf204⟩
instance : TAgg Try.prog 204 false := ⟨Try.isAgg204⟩
instance : TZero Try.prog 204 (Go.Value.nilFunc) := ⟨Try.zeroValue204⟩
theorem row204 : (Try.prog.info? 204).map (fun i => (i.size, i.bytes)) = some (1, 8) := by kernel_rfl
instance : TSize Try.prog 205 1 := ⟨Try.sizeOf205⟩
instance : TAgg Try.prog 205 false := ⟨Try.isAgg205⟩
instance : TZero Try.prog 205 (Go.Value.nilFunc) := ⟨Try.zeroValue205⟩
theorem row205 : (Try.prog.info? 205).map (fun i => (i.size, i.bytes)) = some (1, 8) := by kernel_rfl
instance : TSize Try.prog 206 1 := ⟨Try.sizeOf206⟩
instance : TAgg Try.prog 206 false := ⟨Try.isAgg206⟩
instance : TZero Try.prog 206 (Go.Value.nilFunc) := ⟨Try.zeroValue206⟩
theorem row206 : (Try.prog.info? 206).map (fun i => (i.size, i.bytes)) = some (1, 8) := by kernel_rfl
instance : TSize Try.prog 207 1 := ⟨Try.sizeOf207⟩
instance : TAgg Try.prog 207 false := ⟨Try.isAgg207⟩
instance : TZero Try.prog 207 (Go.Value.pointer Option.none) := ⟨Try.zeroValue207⟩
theorem row207 : (Try.prog.info? 207).map (fun i => (i.size, i.bytes)) = some (1, 8) := by kernel_rfl
instance : TSize Try.prog 208 1 := ⟨Try.sizeOf208⟩
instance : TAgg Try.prog 208 false := ⟨Try.isAgg208⟩
instance : TZero Try.prog 208 (Go.Value.nilFunc) := ⟨Try.zeroValue208⟩
theorem row208 : (Try.prog.info? 208).map (fun i => (i.size, i.bytes)) = some (1, 8) := by kernel_rfl
instance : TSize Try.prog 209 1 := ⟨Try.sizeOf209⟩
instance : TAgg Try.prog 209 false := ⟨Try.isAgg209⟩
instance : TZero Try.prog 209 (Go.Value.nilFunc) := ⟨Try.zeroValue209⟩
theorem row209 : (Try.prog.info? 209).map (fun i => (i.size, i.bytes)) = some (1, 8) := by kernel_rfl
instance : TSize Try.prog 210 1 := ⟨Try.sizeOf210⟩
instance : TAgg Try.prog 210 false := ⟨Try.isAgg210⟩
instance : TZero Try.prog 210 (Go.Value.nilFunc) := ⟨Try.zeroValue210⟩
theorem row210 : (Try.prog.info? 210).map (fun i => (i.size, i.bytes)) = some (1, 8) := by kernel_rfl
instance : TSize Try.prog 211 1 := ⟨Try.sizeOf211⟩
instance : TAgg Try.prog 211 false := ⟨Try.isAgg211⟩
instance : TZero Try.prog 211 (Go.Value.nilFunc) := ⟨Try.zeroValue211⟩
theorem row211 : (Try.prog.info? 211).map (fun i => (i.size, i.bytes)) = some (1, 8) := by kernel_rfl
instance : TSize Try.prog 212 1 := ⟨Try.sizeOf212⟩
instance : TAgg Try.prog 212 false := ⟨Try.isAgg212⟩
instance : TZero Try.prog 212 (Go.Value.nilFunc) := ⟨Try.zeroValue212⟩
theorem row212 : (Try.prog.info? 212).map (fun i => (i.size, i.bytes)) = some (1, 8) := by kernel_rfl
instance : TSize Try.prog 213 1 := ⟨Try.sizeOf213⟩
instance : TAgg Try.prog 213 false := ⟨Try.isAgg213⟩
instance : TZero Try.prog 213 (Go.Value.nilFunc) := ⟨Try.zeroValue213⟩
theorem row213 : (Try.prog.info? 213).map (fun i => (i.size, i.bytes)) = some (1, 8) := by kernel_rfl
instance : TSize Try.prog 214 1 := ⟨Try.sizeOf214⟩
instance : TAgg Try.prog 214 false := ⟨Try.isAgg214⟩
instance : TZero Try.prog 214 (Go.Value.nilFunc) := ⟨Try.zeroValue214⟩
theorem row214 : (Try.prog.info? 214).map (fun i => (i.size, i.bytes)) = some (1, 8) := by kernel_rfl
instance : TSize Try.prog 215 1 := ⟨Try.sizeOf215⟩
instance : TAgg Try.prog 215 false := ⟨Try.isAgg215⟩
instance : TZero Try.prog 215 (Go.Value.nilFunc) := ⟨Try.zeroValue215⟩
theorem row215 : (Try.prog.info? 215).map (fun i => (i.size, i.bytes)) = some (1, 8) := by kernel_rfl
instance : TSize Try.prog 216 1 := ⟨Try.sizeOf216⟩
instance : TAgg Try.prog 216 false := ⟨Try.isAgg216⟩
instance : TZero Try.prog 216 (Go.Value.nilFunc) := ⟨Try.zeroValue216⟩
theorem row216 : (Try.prog.info? 216).map (fun i => (i.size, i.bytes)) = some (1, 8) := by kernel_rfl
instance : TSize Try.prog 217 1 := ⟨Try.sizeOf217⟩
instance : TAgg Try.prog 217 false := ⟨Try.isAgg217⟩
instance : TZero Try.prog 217 (Go.Value.nilFunc) := ⟨Try.zeroValue217⟩
theorem row217 : (Try.prog.info? 217).map (fun i => (i.size, i.bytes)) = some (1, 8) := by kernel_rfl
instance : TSize Try.prog 218 6 := ⟨Try.sizeOf218⟩
instance : TAgg Try.prog 218 true := ⟨Try.isAgg218⟩
def zc218 : Array Value :=  #[Go.Value.int Go.IntKind.u32 0, Go.Value.int Go.IntKind.i64 0, Go.Value.int Go.IntKind.i64 0, Go.Value.int Go.IntKind.u8 0, Go.Value.bool Bool.false, Go.Value.bool Bool.false]
theorem zc218_size : zc218.size = 6 := rfl
instance : TZero Try.prog 218 (.agg zc218) := ⟨Try.zeroValue218⟩
theorem row218 : (Try.prog.info? 218).map (fun i => (i.size, i.bytes)) = some (6, 32) := by kernel_rfl
instance : TFld Try.prog 218 0 0 170 1 := ⟨⟨_, _, Try.underlying218, rfl, rfl, rfl, Try.sizeOf170, by decide⟩⟩
instance : TFld Try.prog 218 1 1 2 1 := ⟨⟨_, _, Try.underlying218, rfl, rfl, rfl, Try.sizeOf2, by decide⟩⟩
instance : TFld Try.prog 218 2 2 2 1 := ⟨⟨_, _, Try.underlying218, rfl, rfl, rfl, Try.sizeOf2, by decide⟩⟩
instance : TFld Try.prog 218 3 3 5 1 := ⟨⟨_, _, Try.underlying218, rfl, rfl, rfl, Try.sizeOf5, by decide⟩⟩
instance : TFld Try.prog 218 4 4 4 1 := ⟨⟨_, _, Try.underlying218, rfl, rfl, rfl, Try.sizeOf4, by decide⟩⟩
instance : TFld Try.prog 218 5 5 4 1 := ⟨⟨_, _, Try.underlying218, rfl, rfl, rfl, Try.sizeOf4, by decide⟩⟩
instance : TBuild Try.prog 218 zc218 [(0, 1), (1, 1), (2, 1), (3, 1), (4, 1), (5, 1)] := ⟨fun _ => by kernel_rfl⟩
instance : TSize Try.prog 219 6 := ⟨Try.sizeOf219⟩
instance : TAgg Try.prog 219 true := ⟨Try.isAgg219⟩
def zc219 : Array Value :=  #[Go.Value.int Go.IntKind.u32 0, Go.Value.int Go.IntKind.i64 0, Go.Value.int Go.IntKind.i64 0, Go.Value.int Go.IntKind.u8 0, Go.Value.bool Bool.false, Go.Value.bool Bool.false]
theorem zc219_size : zc219.size = 6 := rfl
instance : TZero Try.prog 219 (.agg zc219) := ⟨Try.zeroValue219⟩
theorem row219 : (Try.prog.info? 219).map (fun i => (i.size, i.bytes)) = some (6, 32) := by kernel_rfl
instance : TFld Try.prog 219 0 0 170 1 := ⟨⟨_, _, Try.underlying219, rfl, rfl, rfl, Try.sizeOf170, by decide⟩⟩
instance : TFld Try.prog 219 1 1 2 1 := ⟨⟨_, _, Try.underlying219, rfl, rfl, rfl, Try.sizeOf2, by decide⟩⟩
instance : TFld Try.prog 219 2 2 2 1 := ⟨⟨_, _, Try.underlying219, rfl, rfl, rfl, Try.sizeOf2, by decide⟩⟩
instance : TFld Try.prog 219 3 3 5 1 := ⟨⟨_, _, Try.underlying219, rfl, rfl, rfl, Try.sizeOf5, by decide⟩⟩
instance : TFld Try.prog 219 4 4 4 1 := ⟨⟨_, _, Try.underlying219, rfl, rfl, rfl, Try.sizeOf4, by decide⟩⟩
instance : TFld Try.prog 219 5 5 4 1 := ⟨⟨_, _, Try.underlying219, rfl, rfl, rfl, Try.sizeOf4, by decide⟩⟩
instance : TBuild Try.prog 219 zc219 [(0, 1), (1, 1), (2, 1), (3, 1), (4, 1), (5, 1)] := ⟨fun _ => by kernel_rfl⟩
instance : TSize Try.prog 220 1 := ⟨Try.sizeOf220⟩
instance : TAgg Try.prog 220 false := ⟨Try.isAgg220⟩
instance : TZero Try.prog 220 (Go.Value.nilFunc) := ⟨Try.zeroValue220⟩
theorem row220 : (Try.prog.info? 220).map (fun i => (i.size, i.bytes)) = some (1, 8) := by kernel_rfl
instance : TSize Try.prog 221 1 := ⟨Try.sizeOf221⟩
instance : TAgg Try.prog 221 false := ⟨Try.isAgg221⟩
instance : TZero Try.prog 221 (Go.Value.nilFunc) := ⟨Try.zeroValue221⟩
theorem row221 : (Try.prog.info? 221).map (fun i => (i.size, i.bytes)) = some (1, 8) := by kernel_rfl
instance : TSize Try.prog 222 1 := ⟨Try.sizeOf222⟩
instance : TAgg Try.prog 222 false := ⟨Try.isAgg222⟩
instance : TZero Try.prog 222 (Go.Value.nilFunc) := ⟨Try.zeroValue222⟩
theorem row222 : (Try.prog.info? 222).map (fun i => (i.size, i.bytes)) = some (1, 8) := by kernel_rfl
instance : TSize Try.prog 223 1 := ⟨Try.sizeOf223⟩
instance : TAgg Try.prog 223 false := ⟨Try.isAgg223⟩
instance : TZero Try.prog 223 (Go.Value.nilFunc) := ⟨Try.zeroValue223⟩
theorem row223 : (Try.prog.info? 223).map (fun i => (i.size, i.bytes)) = some (1, 8) := by kernel_rfl
instance : TSize Try.prog 224 1 := ⟨Try.sizeOf224⟩
instance : TAgg Try.prog 224 false := ⟨Try.isAgg224⟩
instance : TZero Try.prog 224 (Go.Value.int Go.IntKind.u64 0) := ⟨Try.zeroValue224⟩
theorem row224 : (Try.prog.info? 224).map (fun i => (i.size, i.bytes)) = some (1, 8) := by kernel_rfl
instance : TUnd Try.prog 224 (.int Go.IntKind.u64) := ⟨Try.underlying224⟩
instance : TSize Try.prog 225 1 := ⟨Try.sizeOf225⟩
instance : TAgg Try.prog 225 false := ⟨Try.isAgg225⟩
instance : TZero Try.prog 225 (Go.Value.nilFunc) := ⟨Try.zeroValue225⟩
theorem row225 : (Try.prog.info? 225).map (fun i => (i.size, i.bytes)) = some (1, 8) := by kernel_rfl
instance : TSize Try.prog 226 1 := ⟨Try.sizeOf226⟩
instance : TAgg Try.prog 226 false := ⟨Try.isAgg226⟩
instance : TZero Try.prog 226 (Go.Value.nilFunc) := ⟨Try.zeroValue226⟩
theorem row226 : (Try.prog.info? 226).map (fun i => (i.size, i.bytes)) = some (1, 8) := by kernel_rfl
instance : TSize Try.prog 227 1 := ⟨Try.sizeOf227⟩
instance : TAgg Try.prog 227 false := ⟨Try.isAgg227⟩
instance : TZero Try.prog 227 (Go.Value.nilFunc) := ⟨Try.zeroValue227⟩
theorem row227 : (Try.prog.info? 227).map (fun i => (i.size, i.bytes)) = some (1, 8) := by kernel_rfl
instance : TSize Try.prog 228 1 := ⟨Try.sizeOf228⟩
instance : TAgg Try.prog 228 false := ⟨Try.isAgg228⟩
instance : TZero Try.prog 228 (Go.Value.pointer Option.none) := ⟨Try.zeroValue228⟩
theorem row228 : (Try.prog.info? 228).map (fun i => (i.size, i.bytes)) = some (1, 8) := by kernel_rfl
instance : TUnd Try.prog 228 (.pointer 3) := ⟨Try.underlying228⟩
instance : TSize Try.prog 229 1 := ⟨Try.sizeOf229⟩
instance : TAgg Try.prog 229 false := ⟨Try.isAgg229⟩
instance : TZero Try.prog 229 (Go.Value.nilFunc) := ⟨Try.zeroValue229⟩
theorem row229 : (Try.prog.info? 229).map (fun i => (i.size, i.bytes)) = some (1, 8) := by kernel_rfl
instance : TSize Try.prog 230 1 := ⟨Try.sizeOf230⟩
instance : TAgg Try.prog 230 false := ⟨Try.isAgg230⟩
instance : TZero Try.prog 230 (Go.Value.nilFunc) := ⟨Try.zeroValue230⟩
theorem row230 : (Try.prog.info? 230).map (fun i => (i.size, i.bytes)) = some (1, 8) := by kernel_rfl
instance : TSize Try.prog 231 1 := ⟨Try.sizeOf231⟩
instance : TAgg Try.prog 231 false := ⟨Try.isAgg231⟩
instance : TZero Try.prog 231 (Go.Value.nilFunc) := ⟨Try.zeroValue231⟩
theorem row231 : (Try.prog.info? 231).map (fun i => (i.size, i.bytes)) = some (1, 8) := by kernel_rfl
instance : TSize Try.prog 232 1 := ⟨Try.sizeOf232⟩
instance : TAgg Try.prog 232 false := ⟨Try.isAgg232⟩
instance : TZero Try.prog 232 (Go.Value.pointer Option.none) := ⟨Try.zeroValue232⟩
theorem row232 : (Try.prog.info? 232).map (fun i => (i.size, i.bytes)) = some (1, 8) := by kernel_rfl
instance : TUnd Try.prog 232 (.pointer 224) := ⟨Try.underlying232⟩
instance : TSize Try.prog 233 1 := ⟨Try.sizeOf233⟩
instance : TAgg Try.prog 233 false := ⟨Try.isAgg233⟩
instance : TZero Try.prog 233 (Go.Value.tuple #[Go.Value.int Go.IntKind.i64 0, Go.Value.int Go.IntKind.i64 0]) := ⟨Try.zeroValue233⟩
theorem row233 : (Try.prog.info? 233).map (fun i => (i.size, i.bytes)) = some (1, 0) := by kernel_rfl
instance : TSize Try.prog 234 1 := ⟨Try.sizeOf234⟩
instance : TAgg Try.prog 234 false := ⟨Try.isAgg234⟩
instance : TZero Try.prog 234 (Go.Value.nilFunc) := ⟨Try.zeroValue234⟩
theorem row234 : (Try.prog.info? 234).map (fun i => (i.size, i.bytes)) = some (1, 8) := by kernel_rfl
instance : TSize Try.prog 235 1 := ⟨Try.sizeOf235⟩
instance : TAgg Try.prog 235 false := ⟨Try.isAgg235⟩
instance : TZero Try.prog 235 (Go.Value.nilFunc) := ⟨Try.zeroValue235⟩
theorem row235 : (Try.prog.info? 235).map (fun i => (i.size, i.bytes)) = some (1, 8) := by kernel_rfl
instance : TSize Try.prog 236 4 := ⟨Try.sizeOf236⟩
instance : TAgg Try.prog 236 true := ⟨Try.isAgg236⟩
def zc236 : Array Value :=  #[Go.Value.pointer Option.none, Go.Value.pointer Option.none, Go.Value.pointer Option.none, Go.Value.string { data := #[] }]
theorem zc236_size : zc236.size = 4 := rfl
instance : TZero Try.prog 236 (.agg zc236) := ⟨Try.zeroValue236⟩
theorem row236 : (Try.prog.info? 236).map (fun i => (i.size, i.bytes)) = some (4, 40) := by kernel_rfl
instance : TFld Try.prog 236 0 0 17 1 := ⟨⟨_, _, Try.underlying236, rfl, rfl, rfl, Try.sizeOf17, by decide⟩⟩
instance : TFld Try.prog 236 1 1 17 1 := ⟨⟨_, _, Try.underlying236, rfl, rfl, rfl, Try.sizeOf17, by decide⟩⟩
instance : TFld Try.prog 236 2 2 17 1 := ⟨⟨_, _, Try.underlying236, rfl, rfl, rfl, Try.sizeOf17, by decide⟩⟩
instance : TFld Try.prog 236 3 3 9 1 := ⟨⟨_, _, Try.underlying236, rfl, rfl, rfl, Try.sizeOf9, by decide⟩⟩
instance : TBuild Try.prog 236 zc236 [(0, 1), (1, 1), (2, 1), (3, 1)] := ⟨fun _ => by kernel_rfl⟩
instance : TSize Try.prog 237 4 := ⟨Try.sizeOf237⟩
instance : TAgg Try.prog 237 true := ⟨Try.isAgg237⟩
def zc237 : Array Value :=  #[Go.Value.pointer Option.none, Go.Value.pointer Option.none, Go.Value.pointer Option.none, Go.Value.string { data := #[] }]
theorem zc237_size : zc237.size = 4 := rfl
instance : TZero Try.prog 237 (.agg zc237) := ⟨Try.zeroValue237⟩
theorem row237 : (Try.prog.info? 237).map (fun i => (i.size, i.bytes)) = some (4, 40) := by kernel_rfl
instance : TFld Try.prog 237 0 0 17 1 := ⟨⟨_, _, Try.underlying237, rfl, rfl, rfl, Try.sizeOf17, by decide⟩⟩
instance : TFld Try.prog 237 1 1 17 1 := ⟨⟨_, _, Try.underlying237, rfl, rfl, rfl, Try.sizeOf17, by decide⟩⟩
instance : TFld Try.prog 237 2 2 17 1 := ⟨⟨_, _, Try.underlying237, rfl, rfl, rfl, Try.sizeOf17, by decide⟩⟩
instance : TFld Try.prog 237 3 3 9 1 := ⟨⟨_, _, Try.underlying237, rfl, rfl, rfl, Try.sizeOf9, by decide⟩⟩
instance : TBuild Try.prog 237 zc237 [(0, 1), (1, 1), (2, 1), (3, 1)] := ⟨fun _ => by kernel_rfl⟩
instance : TSize Try.prog 238 0 := ⟨Try.sizeOf238⟩
instance : TAgg Try.prog 238 true := ⟨Try.isAgg238⟩
def zc238 : Array Value :=  #[]
theorem zc238_size : zc238.size = 0 := rfl
instance : TZero Try.prog 238 (.agg zc238) := ⟨Try.zeroValue238⟩
instance : TUnd Try.prog 238 (.array 0 16) := ⟨Try.underlying238⟩
instance : TSize Try.prog 239 0 := ⟨Try.sizeOf239⟩
instance : TAgg Try.prog 239 true := ⟨Try.isAgg239⟩
def zc239 : Array Value :=  #[]
theorem zc239_size : zc239.size = 0 := rfl
instance : TZero Try.prog 239 (.agg zc239) := ⟨Try.zeroValue239⟩
instance : TSize Try.prog 240 0 := ⟨Try.sizeOf240⟩
instance : TAgg Try.prog 240 true := ⟨Try.isAgg240⟩
def zc240 : Array Value :=  #[]
theorem zc240_size : zc240.size = 0 := rfl
instance : TZero Try.prog 240 (.agg zc240) := ⟨Try.zeroValue240⟩
instance : TSize Try.prog 241 1 := ⟨Try.sizeOf241⟩
instance : TAgg Try.prog 241 false := ⟨Try.isAgg241⟩
instance : TZero Try.prog 241 (Go.Value.int Go.IntKind.u8 0) := ⟨Try.zeroValue241⟩
theorem row241 : (Try.prog.info? 241).map (fun i => (i.size, i.bytes)) = some (1, 1) := by kernel_rfl
instance : TUnd Try.prog 241 (.int Go.IntKind.u8) := ⟨Try.underlying241⟩
instance : TSize Try.prog 242 1 := ⟨Try.sizeOf242⟩
instance : TAgg Try.prog 242 false := ⟨Try.isAgg242⟩
instance : TZero Try.prog 242 (Go.Value.int Go.IntKind.u8 0) := ⟨Try.zeroValue242⟩
theorem row242 : (Try.prog.info? 242).map (fun i => (i.size, i.bytes)) = some (1, 1) := by kernel_rfl
instance : TUnd Try.prog 242 (.int Go.IntKind.u8) := ⟨Try.underlying242⟩
instance : TSize Try.prog 243 1 := ⟨Try.sizeOf243⟩
instance : TAgg Try.prog 243 false := ⟨Try.isAgg243⟩
instance : TZero Try.prog 243 (Go.Value.nilFunc) := ⟨Try.zeroValue243⟩
theorem row243 : (Try.prog.info? 243).map (fun i => (i.size, i.bytes)) = some (1, 8) := by kernel_rfl
instance : TSize Try.prog 244 1 := ⟨Try.sizeOf244⟩
instance : TAgg Try.prog 244 false := ⟨Try.isAgg244⟩
instance : TZero Try.prog 244 (Go.Value.int Go.IntKind.i32 0) := ⟨Try.zeroValue244⟩
theorem row244 : (Try.prog.info? 244).map (fun i => (i.size, i.bytes)) = some (1, 4) := by kernel_rfl
instance : TUnd Try.prog 244 (.int Go.IntKind.i32) := ⟨Try.underlying244⟩
instance : TSize Try.prog 245 1 := ⟨Try.sizeOf245⟩
instance : TAgg Try.prog 245 false := ⟨Try.isAgg245⟩
instance : TZero Try.prog 245 (Go.Value.int Go.IntKind.i32 0) := ⟨Try.zeroValue245⟩
theorem row245 : (Try.prog.info? 245).map (fun i => (i.size, i.bytes)) = some (1, 4) := by kernel_rfl
instance : TUnd Try.prog 245 (.int Go.IntKind.i32) := ⟨Try.underlying245⟩
instance : TSize Try.prog 246 11 := ⟨Try.sizeOf246⟩
instance : TAgg Try.prog 246 true := ⟨Try.isAgg246⟩
def zc246 : Array Value :=  #[Go.Value.int Go.IntKind.u64 0, Go.Value.int Go.IntKind.u64 0, Go.Value.int Go.IntKind.u32 0, Go.Value.int Go.IntKind.u8 0, Go.Value.int Go.IntKind.u8 0, Go.Value.int Go.IntKind.u8 0, Go.Value.int Go.IntKind.u8 0, Go.Value.nilFunc, Go.Value.pointer Option.none, Go.Value.int Go.IntKind.i32 0, Go.Value.int Go.IntKind.i32 0]
theorem zc246_size : zc246.size = 11 := rfl
instance : TZero Try.prog 246 (.agg zc246) := ⟨Try.zeroValue246⟩
theorem row246 : (Try.prog.info? 246).map (fun i => (i.size, i.bytes)) = some (11, 48) := by kernel_rfl
instance : TFld Try.prog 246 0 0 12 1 := ⟨⟨_, _, Try.underlying246, rfl, rfl, rfl, Try.sizeOf12, by decide⟩⟩
instance : TFld Try.prog 246 1 1 12 1 := ⟨⟨_, _, Try.underlying246, rfl, rfl, rfl, Try.sizeOf12, by decide⟩⟩
instance : TFld Try.prog 246 2 2 170 1 := ⟨⟨_, _, Try.underlying246, rfl, rfl, rfl, Try.sizeOf170, by decide⟩⟩
instance : TFld Try.prog 246 3 3 241 1 := ⟨⟨_, _, Try.underlying246, rfl, rfl, rfl, Try.sizeOf241, by decide⟩⟩
instance : TFld Try.prog 246 4 4 5 1 := ⟨⟨_, _, Try.underlying246, rfl, rfl, rfl, Try.sizeOf5, by decide⟩⟩
instance : TFld Try.prog 246 5 5 5 1 := ⟨⟨_, _, Try.underlying246, rfl, rfl, rfl, Try.sizeOf5, by decide⟩⟩
instance : TFld Try.prog 246 6 6 242 1 := ⟨⟨_, _, Try.underlying246, rfl, rfl, rfl, Try.sizeOf242, by decide⟩⟩
instance : TFld Try.prog 246 7 7 243 1 := ⟨⟨_, _, Try.underlying246, rfl, rfl, rfl, Try.sizeOf243, by decide⟩⟩
instance : TFld Try.prog 246 8 8 176 1 := ⟨⟨_, _, Try.underlying246, rfl, rfl, rfl, Try.sizeOf176, by decide⟩⟩
instance : TFld Try.prog 246 9 9 244 1 := ⟨⟨_, _, Try.underlying246, rfl, rfl, rfl, Try.sizeOf244, by decide⟩⟩
instance : TFld Try.prog 246 10 10 245 1 := ⟨⟨_, _, Try.underlying246, rfl, rfl, rfl, Try.sizeOf245, by decide⟩⟩
instance : TBuild Try.prog 246 zc246 [(0, 1), (1, 1), (2, 1), (3, 1), (4, 1), (5, 1), (6, 1), (7, 1), (8, 1), (9, 1), (10, 1)] := ⟨fun _ => by kernel_rfl⟩
instance : TSize Try.prog 247 11 := ⟨Try.sizeOf247⟩
instance : TAgg Try.prog 247 true := ⟨Try.isAgg247⟩
def zc247 : Array Value :=  #[Go.Value.int Go.IntKind.u64 0, Go.Value.int Go.IntKind.u64 0, Go.Value.int Go.IntKind.u32 0, Go.Value.int Go.IntKind.u8 0, Go.Value.int Go.IntKind.u8 0, Go.Value.int Go.IntKind.u8 0, Go.Value.int Go.IntKind.u8 0, Go.Value.nilFunc, Go.Value.pointer Option.none, Go.Value.int Go.IntKind.i32 0, Go.Value.int Go.IntKind.i32 0]
theorem zc247_size : zc247.size = 11 := rfl
instance : TZero Try.prog 247 (.agg zc247) := ⟨Try.zeroValue247⟩
theorem row247 : (Try.prog.info? 247).map (fun i => (i.size, i.bytes)) = some (11, 48) := by kernel_rfl
instance : TFld Try.prog 247 0 0 12 1 := ⟨⟨_, _, Try.underlying247, rfl, rfl, rfl, Try.sizeOf12, by decide⟩⟩
instance : TFld Try.prog 247 1 1 12 1 := ⟨⟨_, _, Try.underlying247, rfl, rfl, rfl, Try.sizeOf12, by decide⟩⟩
instance : TFld Try.prog 247 2 2 170 1 := ⟨⟨_, _, Try.underlying247, rfl, rfl, rfl, Try.sizeOf170, by decide⟩⟩
instance : TFld Try.prog 247 3 3 241 1 := ⟨⟨_, _, Try.underlying247, rfl, rfl, rfl, Try.sizeOf241, by decide⟩⟩
instance : TFld Try.prog 247 4 4 5 1 := ⟨⟨_, _, Try.underlying247, rfl, rfl, rfl, Try.sizeOf5, by decide⟩⟩
instance : TFld Try.prog 247 5 5 5 1 := ⟨⟨_, _, Try.underlying247, rfl, rfl, rfl, Try.sizeOf5, by decide⟩⟩
instance : TFld Try.prog 247 6 6 242 1 := ⟨⟨_, _, Try.underlying247, rfl, rfl, rfl, Try.sizeOf242, by decide⟩⟩
instance : TFld Try.prog 247 7 7 243 1 := ⟨⟨_, _, Try.underlying247, rfl, rfl, rfl, Try.sizeOf243, by decide⟩⟩
instance : TFld Try.prog 247 8 8 176 1 := ⟨⟨_, _, Try.underlying247, rfl, rfl, rfl, Try.sizeOf176, by decide⟩⟩
instance : TFld Try.prog 247 9 9 244 1 := ⟨⟨_, _, Try.underlying247, rfl, rfl, rfl, Try.sizeOf244, by decide⟩⟩
instance : TFld Try.prog 247 10 10 245 1 := ⟨⟨_, _, Try.underlying247, rfl, rfl, rfl, Try.sizeOf245, by decide⟩⟩
instance : TBuild Try.prog 247 zc247 [(0, 1), (1, 1), (2, 1), (3, 1), (4, 1), (5, 1), (6, 1), (7, 1), (8, 1), (9, 1), (10, 1)] := ⟨fun _ => by kernel_rfl⟩
instance : TRow Try.prog 0 #[Go.Value.tuple #[]] 1 0 := TRow.of Try.zeroValue0 rfl row0 rfl
instance : TRow Try.prog 1 #[Go.Value.nilFunc] 1 8 := TRow.of Try.zeroValue1 rfl row1 rfl
instance : TRow Try.prog 2 #[Go.Value.int Go.IntKind.i64 0] 1 8 := TRow.of Try.zeroValue2 rfl row2 rfl
instance : TRow Try.prog 3 #[Go.Value.int Go.IntKind.i64 0] 1 8 := TRow.of Try.zeroValue3 rfl row3 rfl
instance : TRow Try.prog 4 #[Go.Value.bool Bool.false] 1 1 := TRow.of Try.zeroValue4 rfl row4 rfl
instance : TRow Try.prog 5 #[Go.Value.int Go.IntKind.u8 0] 1 1 := TRow.of Try.zeroValue5 rfl row5 rfl
instance : TRow Try.prog 6 #[Go.Value.int Go.IntKind.u8 0] 1 1 := TRow.of Try.zeroValue6 rfl row6 rfl
instance : TRow Try.prog 7 zc7 4 24 := TRow.of Try.zeroValue7 rfl row7 rfl
instance : TRow Try.prog 8 zc8 4 24 := TRow.of Try.zeroValue8 rfl row8 rfl
instance : TRow Try.prog 9 #[Go.Value.string { data := #[] }] 1 16 := TRow.of Try.zeroValue9 rfl row9 rfl
instance : TRow Try.prog 10 #[Go.Value.string { data := #[] }] 1 16 := TRow.of Try.zeroValue10 rfl row10 rfl
instance : TRow Try.prog 11 #[Go.Value.string { data := #[] }] 1 16 := TRow.of Try.zeroValue11 rfl row11 rfl
instance : TRow Try.prog 12 #[Go.Value.int Go.IntKind.u64 0] 1 8 := TRow.of Try.zeroValue12 rfl row12 rfl
instance : TRow Try.prog 13 zc13 2 24 := TRow.of Try.zeroValue13 rfl row13 rfl
instance : TRow Try.prog 14 zc14 2 24 := TRow.of Try.zeroValue14 rfl row14 rfl
instance : TRow Try.prog 15 #[Go.Value.pointer Option.none] 1 8 := TRow.of Try.zeroValue15 rfl row15 rfl
instance : TRow Try.prog 16 #[Go.Value.pointer Option.none] 1 8 := TRow.of Try.zeroValue16 rfl row16 rfl
instance : TRow Try.prog 17 #[Go.Value.pointer Option.none] 1 8 := TRow.of Try.zeroValue17 rfl row17 rfl
instance : TRow Try.prog 18 zc18 1 8 := TRow.of Try.zeroValue18 rfl row18 rfl
instance : TRow Try.prog 19 zc19 1 8 := TRow.of Try.zeroValue19 rfl row19 rfl
instance : TRow Try.prog 20 #[Go.Value.nilIface] 1 16 := TRow.of Try.zeroValue20 rfl row20 rfl
instance : TRow Try.prog 21 #[Go.Value.int Go.IntKind.i32 0] 1 4 := TRow.of Try.zeroValue21 rfl row21 rfl
instance : TRow Try.prog 22 zc22 4 32 := TRow.of Try.zeroValue22 rfl row22 rfl
instance : TRow Try.prog 23 zc23 4 32 := TRow.of Try.zeroValue23 rfl row23 rfl
instance : TRow Try.prog 24 zc24 2 16 := TRow.of Try.zeroValue24 rfl row24 rfl
instance : TRow Try.prog 25 #[Go.Value.slice Option.none 0 0] 1 24 := TRow.of Try.zeroValue25 rfl row25 rfl
instance : TRow Try.prog 26 zc26 6 64 := TRow.of Try.zeroValue26 rfl row26 rfl
instance : TRow Try.prog 27 #[Go.Value.slice Option.none 0 0] 1 24 := TRow.of Try.zeroValue27 rfl row27 rfl
instance : TRow Try.prog 28 #[Go.Value.nilFunc] 1 8 := TRow.of Try.zeroValue28 rfl row28 rfl
instance : TRow Try.prog 29 #[Go.Value.nilFunc] 1 8 := TRow.of Try.zeroValue29 rfl row29 rfl
instance : TRow Try.prog 30 #[Go.Value.nilFunc] 1 8 := TRow.of Try.zeroValue30 rfl row30 rfl
instance : TRow Try.prog 31 #[Go.Value.nilFunc] 1 8 := TRow.of Try.zeroValue31 rfl row31 rfl
instance : TRow Try.prog 32 #[Go.Value.nilFunc] 1 8 := TRow.of Try.zeroValue32 rfl row32 rfl
instance : TRow Try.prog 33 #[Go.Value.nilFunc] 1 8 := TRow.of Try.zeroValue33 rfl row33 rfl
instance : TRow Try.prog 34 #[Go.Value.pointer Option.none] 1 8 := TRow.of Try.zeroValue34 rfl row34 rfl
instance : TRow Try.prog 35 #[Go.Value.int Go.IntKind.i64 0] 1 8 := TRow.of Try.zeroValue35 rfl row35 rfl
instance : TRow Try.prog 36 #[Go.Value.tuple #[Go.Value.string { data := #[] }, Go.Value.int Go.IntKind.i64 0]] 1 0 := TRow.of Try.zeroValue36 rfl row36 rfl
instance : TRow Try.prog 37 #[Go.Value.nilFunc] 1 8 := TRow.of Try.zeroValue37 rfl row37 rfl
instance : TRow Try.prog 38 #[Go.Value.nilFunc] 1 8 := TRow.of Try.zeroValue38 rfl row38 rfl
instance : TRow Try.prog 39 #[Go.Value.slice Option.none 0 0] 1 24 := TRow.of Try.zeroValue39 rfl row39 rfl
instance : TRow Try.prog 40 #[Go.Value.nilFunc] 1 8 := TRow.of Try.zeroValue40 rfl row40 rfl
instance : TRow Try.prog 41 #[Go.Value.nilFunc] 1 8 := TRow.of Try.zeroValue41 rfl row41 rfl
instance : TRow Try.prog 42 #[Go.Value.nilFunc] 1 8 := TRow.of Try.zeroValue42 rfl row42 rfl
instance : TRow Try.prog 43 #[Go.Value.nilFunc] 1 8 := TRow.of Try.zeroValue43 rfl row43 rfl
instance : TRow Try.prog 44 #[Go.Value.nilFunc] 1 8 := TRow.of Try.zeroValue44 rfl row44 rfl
instance : TRow Try.prog 45 #[Go.Value.nilFunc] 1 8 := TRow.of Try.zeroValue45 rfl row45 rfl
instance : TRow Try.prog 46 #[Go.Value.slice Option.none 0 0] 1 24 := TRow.of Try.zeroValue46 rfl row46 rfl
instance : TRow Try.prog 47 #[Go.Value.nilFunc] 1 8 := TRow.of Try.zeroValue47 rfl row47 rfl
instance : TRow Try.prog 48 #[Go.Value.nilFunc] 1 8 := TRow.of Try.zeroValue48 rfl row48 rfl
instance : TRow Try.prog 49 #[Go.Value.pointer Option.none] 1 8 := TRow.of Try.zeroValue49 rfl row49 rfl
instance : TRow Try.prog 50 #[Go.Value.slice Option.none 0 0] 1 24 := TRow.of Try.zeroValue50 rfl row50 rfl
instance : TRow Try.prog 51 #[Go.Value.slice Option.none 0 0] 1 24 := TRow.of Try.zeroValue51 rfl row51 rfl
instance : TRow Try.prog 52 zc52 4 64 := TRow.of Try.zeroValue52 rfl row52 rfl
instance : TRow Try.prog 53 zc53 4 64 := TRow.of Try.zeroValue53 rfl row53 rfl
instance : TRow Try.prog 54 zc54 5 40 := TRow.of Try.zeroValue54 rfl row54 rfl
instance : TRow Try.prog 55 zc55 5 40 := TRow.of Try.zeroValue55 rfl row55 rfl
instance : TRow Try.prog 56 #[Go.Value.tuple #[Go.Value.agg #[Go.Value.slice Option.none 0 0, Go.Value.slice Option.none 0 0, Go.Value.int Go.IntKind.i64 0, Go.Value.int Go.IntKind.i64 0], Go.Value.agg #[Go.Value.int Go.IntKind.i64 0, Go.Value.int Go.IntKind.i64 0, Go.Value.int Go.IntKind.i64 0, Go.Value.int Go.IntKind.i64 0, Go.Value.int Go.IntKind.i64 0]]] 1 0 := TRow.of Try.zeroValue56 rfl row56 rfl
instance : TRow Try.prog 57 #[Go.Value.nilFunc] 1 8 := TRow.of Try.zeroValue57 rfl row57 rfl
instance : TRow Try.prog 58 #[Go.Value.tuple #[Go.Value.pointer Option.none, Go.Value.int Go.IntKind.i64 0]] 1 0 := TRow.of Try.zeroValue58 rfl row58 rfl
instance : TRow Try.prog 59 #[Go.Value.nilFunc] 1 8 := TRow.of Try.zeroValue59 rfl row59 rfl
instance : TRow Try.prog 60 #[Go.Value.tuple #[Go.Value.agg #[Go.Value.int Go.IntKind.i64 0, Go.Value.int Go.IntKind.i64 0, Go.Value.int Go.IntKind.i64 0, Go.Value.int Go.IntKind.i64 0], Go.Value.bool Bool.false]] 1 0 := TRow.of Try.zeroValue60 rfl row60 rfl
instance : TRow Try.prog 61 #[Go.Value.nilFunc] 1 8 := TRow.of Try.zeroValue61 rfl row61 rfl
instance : TRow Try.prog 62 zc62 10 96 := TRow.of Try.zeroValue62 rfl row62 rfl
instance : TRow Try.prog 63 zc63 10 96 := TRow.of Try.zeroValue63 rfl row63 rfl
instance : TRow Try.prog 64 #[Go.Value.tuple #[Go.Value.agg #[Go.Value.int Go.IntKind.i64 0, Go.Value.int Go.IntKind.i64 0, Go.Value.slice Option.none 0 0, Go.Value.int Go.IntKind.i64 0, Go.Value.int Go.IntKind.i64 0, Go.Value.int Go.IntKind.i64 0, Go.Value.int Go.IntKind.i64 0, Go.Value.int Go.IntKind.i64 0, Go.Value.int Go.IntKind.i64 0, Go.Value.int Go.IntKind.i64 0], Go.Value.bool Bool.false]] 1 0 := TRow.of Try.zeroValue64 rfl row64 rfl
instance : TRow Try.prog 65 #[Go.Value.nilFunc] 1 8 := TRow.of Try.zeroValue65 rfl row65 rfl
instance : TRow Try.prog 66 #[Go.Value.slice Option.none 0 0] 1 24 := TRow.of Try.zeroValue66 rfl row66 rfl
instance : TRow Try.prog 67 #[Go.Value.slice Option.none 0 0] 1 24 := TRow.of Try.zeroValue67 rfl row67 rfl
instance : TRow Try.prog 68 #[Go.Value.slice Option.none 0 0] 1 24 := TRow.of Try.zeroValue68 rfl row68 rfl
instance : TRow Try.prog 69 #[Go.Value.nilFunc] 1 8 := TRow.of Try.zeroValue69 rfl row69 rfl
instance : TRow Try.prog 70 #[Go.Value.nilFunc] 1 8 := TRow.of Try.zeroValue70 rfl row70 rfl
instance : TRow Try.prog 71 #[Go.Value.nilFunc] 1 8 := TRow.of Try.zeroValue71 rfl row71 rfl
instance : TRow Try.prog 72 #[Go.Value.slice Option.none 0 0] 1 24 := TRow.of Try.zeroValue72 rfl row72 rfl
instance : TRow Try.prog 73 #[Go.Value.nilFunc] 1 8 := TRow.of Try.zeroValue73 rfl row73 rfl
instance : TRow Try.prog 74 #[Go.Value.nilFunc] 1 8 := TRow.of Try.zeroValue74 rfl row74 rfl
instance : TRow Try.prog 75 #[Go.Value.nilFunc] 1 8 := TRow.of Try.zeroValue75 rfl row75 rfl
instance : TRow Try.prog 76 #[Go.Value.nilFunc] 1 8 := TRow.of Try.zeroValue76 rfl row76 rfl
instance : TRow Try.prog 77 #[Go.Value.nilFunc] 1 8 := TRow.of Try.zeroValue77 rfl row77 rfl
instance : TRow Try.prog 78 #[Go.Value.nilFunc] 1 8 := TRow.of Try.zeroValue78 rfl row78 rfl
instance : TRow Try.prog 79 #[Go.Value.nilFunc] 1 8 := TRow.of Try.zeroValue79 rfl row79 rfl
instance : TRow Try.prog 80 #[Go.Value.nilFunc] 1 8 := TRow.of Try.zeroValue80 rfl row80 rfl
instance : TRow Try.prog 81 #[Go.Value.nilFunc] 1 8 := TRow.of Try.zeroValue81 rfl row81 rfl
instance : TRow Try.prog 82 #[Go.Value.nilFunc] 1 8 := TRow.of Try.zeroValue82 rfl row82 rfl
instance : TRow Try.prog 83 #[Go.Value.nilFunc] 1 8 := TRow.of Try.zeroValue83 rfl row83 rfl
instance : TRow Try.prog 84 #[Go.Value.map Option.none] 1 8 := TRow.of Try.zeroValue84 rfl row84 rfl
instance : TRow Try.prog 85 #[Go.Value.nilFunc] 1 8 := TRow.of Try.zeroValue85 rfl row85 rfl
instance : TRow Try.prog 86 #[Go.Value.nilFunc] 1 8 := TRow.of Try.zeroValue86 rfl row86 rfl
instance : TRow Try.prog 87 #[Go.Value.nilFunc] 1 8 := TRow.of Try.zeroValue87 rfl row87 rfl
instance : TRow Try.prog 88 #[Go.Value.nilFunc] 1 8 := TRow.of Try.zeroValue88 rfl row88 rfl
instance : TRow Try.prog 89 #[Go.Value.nilFunc] 1 8 := TRow.of Try.zeroValue89 rfl row89 rfl
instance : TRow Try.prog 90 #[Go.Value.slice Option.none 0 0] 1 24 := TRow.of Try.zeroValue90 rfl row90 rfl
instance : TRow Try.prog 91 #[Go.Value.nilFunc] 1 8 := TRow.of Try.zeroValue91 rfl row91 rfl
instance : TRow Try.prog 92 #[Go.Value.nilFunc] 1 8 := TRow.of Try.zeroValue92 rfl row92 rfl
instance : TRow Try.prog 93 #[Go.Value.pointer Option.none] 1 8 := TRow.of Try.zeroValue93 rfl row93 rfl
instance : TRow Try.prog 94 #[Go.Value.tuple #[Go.Value.pointer Option.none, Go.Value.int Go.IntKind.i64 0]] 1 0 := TRow.of Try.zeroValue94 rfl row94 rfl
instance : TRow Try.prog 95 #[Go.Value.nilFunc] 1 8 := TRow.of Try.zeroValue95 rfl row95 rfl
instance : TRow Try.prog 96 zc96 2 32 := TRow.of Try.zeroValue96 rfl row96 rfl
instance : TRow Try.prog 97 zc97 2 32 := TRow.of Try.zeroValue97 rfl row97 rfl
instance : TRow Try.prog 98 #[Go.Value.nilFunc] 1 8 := TRow.of Try.zeroValue98 rfl row98 rfl
instance : TRow Try.prog 99 #[Go.Value.nilFunc] 1 8 := TRow.of Try.zeroValue99 rfl row99 rfl
instance : TRow Try.prog 100 #[Go.Value.nilFunc] 1 8 := TRow.of Try.zeroValue100 rfl row100 rfl
instance : TRow Try.prog 101 #[Go.Value.map Option.none] 1 8 := TRow.of Try.zeroValue101 rfl row101 rfl
instance : TRow Try.prog 102 zc102 1 8 := TRow.of Try.zeroValue102 rfl row102 rfl
instance : TRow Try.prog 103 zc103 1 8 := TRow.of Try.zeroValue103 rfl row103 rfl
instance : TRow Try.prog 104 #[Go.Value.nilFunc] 1 8 := TRow.of Try.zeroValue104 rfl row104 rfl
instance : TRow Try.prog 105 #[Go.Value.nilFunc] 1 8 := TRow.of Try.zeroValue105 rfl row105 rfl
instance : TRow Try.prog 106 #[Go.Value.int Go.IntKind.u64 0] 1 8 := TRow.of Try.zeroValue106 rfl row106 rfl
instance : TRow Try.prog 107 #[Go.Value.tuple #[Go.Value.int Go.IntKind.u64 0, Go.Value.int Go.IntKind.u64 0]] 1 0 := TRow.of Try.zeroValue107 rfl row107 rfl
instance : TRow Try.prog 108 #[Go.Value.nilFunc] 1 8 := TRow.of Try.zeroValue108 rfl row108 rfl
instance : TRow Try.prog 109 #[Go.Value.nilFunc] 1 8 := TRow.of Try.zeroValue109 rfl row109 rfl
instance : TRow Try.prog 110 #[Go.Value.pointer Option.none] 1 8 := TRow.of Try.zeroValue110 rfl row110 rfl
instance : TRow Try.prog 111 zc111 2 32 := TRow.of Try.zeroValue111 rfl row111 rfl
instance : TRow Try.prog 112 zc112 2 32 := TRow.of Try.zeroValue112 rfl row112 rfl
instance : TRow Try.prog 113 #[Go.Value.nilFunc] 1 8 := TRow.of Try.zeroValue113 rfl row113 rfl
instance : TRow Try.prog 114 #[Go.Value.nilIface] 1 16 := TRow.of Try.zeroValue114 rfl row114 rfl
instance : TRow Try.prog 115 #[Go.Value.nilIface] 1 16 := TRow.of Try.zeroValue115 rfl row115 rfl
instance : TRow Try.prog 116 #[Go.Value.tuple #[Go.Value.int Go.IntKind.i64 0, Go.Value.nilIface]] 1 0 := TRow.of Try.zeroValue116 rfl row116 rfl
instance : TRow Try.prog 117 #[Go.Value.nilFunc] 1 8 := TRow.of Try.zeroValue117 rfl row117 rfl
instance : TRow Try.prog 118 #[Go.Value.nilFunc] 1 8 := TRow.of Try.zeroValue118 rfl row118 rfl
instance : TRow Try.prog 119 #[Go.Value.nilFunc] 1 8 := TRow.of Try.zeroValue119 rfl row119 rfl
instance : TRow Try.prog 120 #[Go.Value.nilFunc] 1 8 := TRow.of Try.zeroValue120 rfl row120 rfl
instance : TRow Try.prog 121 zc121 5 56 := TRow.of Try.zeroValue121 rfl row121 rfl
instance : TRow Try.prog 122 zc122 5 56 := TRow.of Try.zeroValue122 rfl row122 rfl
instance : TRow Try.prog 123 #[Go.Value.tuple #[Go.Value.int Go.IntKind.i64 0, Go.Value.int Go.IntKind.i64 0]] 1 0 := TRow.of Try.zeroValue123 rfl row123 rfl
instance : TRow Try.prog 124 #[Go.Value.nilFunc] 1 8 := TRow.of Try.zeroValue124 rfl row124 rfl
instance : TRow Try.prog 125 #[Go.Value.nilFunc] 1 8 := TRow.of Try.zeroValue125 rfl row125 rfl
instance : TRow Try.prog 126 #[Go.Value.nilFunc] 1 8 := TRow.of Try.zeroValue126 rfl row126 rfl
instance : TRow Try.prog 127 zc127 9 104 := TRow.of Try.zeroValue127 rfl row127 rfl
instance : TRow Try.prog 128 zc128 9 104 := TRow.of Try.zeroValue128 rfl row128 rfl
instance : TRow Try.prog 129 #[Go.Value.nilFunc] 1 8 := TRow.of Try.zeroValue129 rfl row129 rfl
instance : TRow Try.prog 130 zc130 8 192 := TRow.of Try.zeroValue130 rfl row130 rfl
instance : TRow Try.prog 131 #[Go.Value.slice Option.none 0 0] 1 24 := TRow.of Try.zeroValue131 rfl row131 rfl
instance : TRow Try.prog 132 zc132 21 392 := TRow.of Try.zeroValue132 rfl row132 rfl
instance : TRow Try.prog 133 zc133 21 392 := TRow.of Try.zeroValue133 rfl row133 rfl
instance : TRow Try.prog 134 zc134 8 64 := TRow.of Try.zeroValue134 rfl row134 rfl
instance : TRow Try.prog 135 #[Go.Value.nilFunc] 1 8 := TRow.of Try.zeroValue135 rfl row135 rfl
instance : TRow Try.prog 136 zc136 2 16 := TRow.of Try.zeroValue136 rfl row136 rfl
instance : TRow Try.prog 137 zc137 2 16 := TRow.of Try.zeroValue137 rfl row137 rfl
instance : TRow Try.prog 138 #[Go.Value.nilFunc] 1 8 := TRow.of Try.zeroValue138 rfl row138 rfl
instance : TRow Try.prog 139 #[Go.Value.nilFunc] 1 8 := TRow.of Try.zeroValue139 rfl row139 rfl
instance : TRow Try.prog 140 #[Go.Value.nilFunc] 1 8 := TRow.of Try.zeroValue140 rfl row140 rfl
instance : TRow Try.prog 141 #[Go.Value.pointer Option.none] 1 8 := TRow.of Try.zeroValue141 rfl row141 rfl
instance : TRow Try.prog 142 #[Go.Value.nilFunc] 1 8 := TRow.of Try.zeroValue142 rfl row142 rfl
instance : TRow Try.prog 143 #[Go.Value.nilFunc] 1 8 := TRow.of Try.zeroValue143 rfl row143 rfl
instance : TRow Try.prog 144 #[Go.Value.nilFunc] 1 8 := TRow.of Try.zeroValue144 rfl row144 rfl
instance : TRow Try.prog 145 zc145 4 32 := TRow.of Try.zeroValue145 rfl row145 rfl
instance : TRow Try.prog 146 #[Go.Value.nilFunc] 1 8 := TRow.of Try.zeroValue146 rfl row146 rfl
instance : TRow Try.prog 147 #[Go.Value.nilFunc] 1 8 := TRow.of Try.zeroValue147 rfl row147 rfl
instance : TRow Try.prog 148 #[Go.Value.nilFunc] 1 8 := TRow.of Try.zeroValue148 rfl row148 rfl
instance : TRow Try.prog 149 #[Go.Value.nilFunc] 1 8 := TRow.of Try.zeroValue149 rfl row149 rfl
instance : TRow Try.prog 150 #[Go.Value.nilFunc] 1 8 := TRow.of Try.zeroValue150 rfl row150 rfl
instance : TRow Try.prog 151 #[Go.Value.nilFunc] 1 8 := TRow.of Try.zeroValue151 rfl row151 rfl
instance : TRow Try.prog 152 #[Go.Value.nilFunc] 1 8 := TRow.of Try.zeroValue152 rfl row152 rfl
instance : TRow Try.prog 153 #[Go.Value.nilFunc] 1 8 := TRow.of Try.zeroValue153 rfl row153 rfl
instance : TRow Try.prog 154 #[Go.Value.nilFunc] 1 8 := TRow.of Try.zeroValue154 rfl row154 rfl
instance : TRow Try.prog 155 #[Go.Value.nilFunc] 1 8 := TRow.of Try.zeroValue155 rfl row155 rfl
instance : TRow Try.prog 156 #[Go.Value.nilFunc] 1 8 := TRow.of Try.zeroValue156 rfl row156 rfl
instance : TRow Try.prog 157 #[Go.Value.nilFunc] 1 8 := TRow.of Try.zeroValue157 rfl row157 rfl
instance : TRow Try.prog 158 #[Go.Value.nilFunc] 1 8 := TRow.of Try.zeroValue158 rfl row158 rfl
instance : TRow Try.prog 159 zc159 3 24 := TRow.of Try.zeroValue159 rfl row159 rfl
instance : TRow Try.prog 160 zc160 3 24 := TRow.of Try.zeroValue160 rfl row160 rfl
instance : TRow Try.prog 161 zc161 24 192 := TRow.of Try.zeroValue161 rfl row161 rfl
instance : TRow Try.prog 162 #[Go.Value.nilFunc] 1 8 := TRow.of Try.zeroValue162 rfl row162 rfl
instance : TRow Try.prog 163 #[Go.Value.nilFunc] 1 8 := TRow.of Try.zeroValue163 rfl row163 rfl
instance : TRow Try.prog 164 #[Go.Value.nilFunc] 1 8 := TRow.of Try.zeroValue164 rfl row164 rfl
instance : TRow Try.prog 165 #[Go.Value.nilFunc] 1 8 := TRow.of Try.zeroValue165 rfl row165 rfl
instance : TRow Try.prog 166 #[Go.Value.nilFunc] 1 8 := TRow.of Try.zeroValue166 rfl row166 rfl
instance : TRow Try.prog 167 #[Go.Value.nilFunc] 1 8 := TRow.of Try.zeroValue167 rfl row167 rfl
instance : TRow Try.prog 168 #[Go.Value.tuple #[Go.Value.pointer Option.none, Go.Value.bool Bool.false]] 1 0 := TRow.of Try.zeroValue168 rfl row168 rfl
instance : TRow Try.prog 169 #[Go.Value.nilFunc] 1 8 := TRow.of Try.zeroValue169 rfl row169 rfl
instance : TRow Try.prog 170 #[Go.Value.int Go.IntKind.u32 0] 1 4 := TRow.of Try.zeroValue170 rfl row170 rfl
instance : TRow Try.prog 171 #[Go.Value.tuple #[Go.Value.int Go.IntKind.u32 0, Go.Value.int Go.IntKind.u32 0]] 1 0 := TRow.of Try.zeroValue171 rfl row171 rfl
instance : TRow Try.prog 172 #[Go.Value.nilFunc] 1 8 := TRow.of Try.zeroValue172 rfl row172 rfl
instance : TRow Try.prog 173 #[Go.Value.int Go.IntKind.u64 0] 1 8 := TRow.of Try.zeroValue173 rfl row173 rfl
instance : TRow Try.prog 174 #[Go.Value.tuple #[Go.Value.int Go.IntKind.u64 0, Go.Value.int Go.IntKind.u64 0]] 1 0 := TRow.of Try.zeroValue174 rfl row174 rfl
instance : TRow Try.prog 175 #[Go.Value.nilFunc] 1 8 := TRow.of Try.zeroValue175 rfl row175 rfl
instance : TRow Try.prog 176 #[Go.Value.pointer Option.none] 1 8 := TRow.of Try.zeroValue176 rfl row176 rfl
instance : TRow Try.prog 177 #[Go.Value.nilFunc] 1 8 := TRow.of Try.zeroValue177 rfl row177 rfl
instance : TRow Try.prog 178 #[Go.Value.nilFunc] 1 8 := TRow.of Try.zeroValue178 rfl row178 rfl
instance : TRow Try.prog 179 #[Go.Value.nilFunc] 1 8 := TRow.of Try.zeroValue179 rfl row179 rfl
instance : TRow Try.prog 180 #[Go.Value.nilFunc] 1 8 := TRow.of Try.zeroValue180 rfl row180 rfl
instance : TRow Try.prog 181 #[Go.Value.nilFunc] 1 8 := TRow.of Try.zeroValue181 rfl row181 rfl
instance : TRow Try.prog 182 zc182 2 16 := TRow.of Try.zeroValue182 rfl row182 rfl
instance : TRow Try.prog 183 zc183 2 16 := TRow.of Try.zeroValue183 rfl row183 rfl
instance : TRow Try.prog 184 #[Go.Value.nilFunc] 1 8 := TRow.of Try.zeroValue184 rfl row184 rfl
instance : TRow Try.prog 185 #[Go.Value.nilFunc] 1 8 := TRow.of Try.zeroValue185 rfl row185 rfl
instance : TRow Try.prog 186 zc186 3 24 := TRow.of Try.zeroValue186 rfl row186 rfl
instance : TRow Try.prog 187 #[Go.Value.nilFunc] 1 8 := TRow.of Try.zeroValue187 rfl row187 rfl
instance : TRow Try.prog 188 zc188 1 8 := TRow.of Try.zeroValue188 rfl row188 rfl
instance : TRow Try.prog 189 zc189 1 8 := TRow.of Try.zeroValue189 rfl row189 rfl
instance : TRow Try.prog 190 #[Go.Value.nilFunc] 1 8 := TRow.of Try.zeroValue190 rfl row190 rfl
instance : TRow Try.prog 191 #[Go.Value.nilFunc] 1 8 := TRow.of Try.zeroValue191 rfl row191 rfl
instance : TRow Try.prog 192 #[Go.Value.nilFunc] 1 8 := TRow.of Try.zeroValue192 rfl row192 rfl
instance : TRow Try.prog 193 #[Go.Value.nilFunc] 1 8 := TRow.of Try.zeroValue193 rfl row193 rfl
instance : TRow Try.prog 194 #[Go.Value.nilFunc] 1 8 := TRow.of Try.zeroValue194 rfl row194 rfl
instance : TRow Try.prog 195 #[Go.Value.nilFunc] 1 8 := TRow.of Try.zeroValue195 rfl row195 rfl
instance : TRow Try.prog 196 #[Go.Value.nilFunc] 1 8 := TRow.of Try.zeroValue196 rfl row196 rfl
instance : TRow Try.prog 197 #[Go.Value.int Go.IntKind.i64 0] 1 8 := TRow.of Try.zeroValue197 rfl row197 rfl
instance : TRow Try.prog 198 #[Go.Value.tuple #[Go.Value.int Go.IntKind.i64 0, Go.Value.int Go.IntKind.i64 0]] 1 0 := TRow.of Try.zeroValue198 rfl row198 rfl
instance : TRow Try.prog 199 #[Go.Value.nilFunc] 1 8 := TRow.of Try.zeroValue199 rfl row199 rfl
instance : TRow Try.prog 200 #[Go.Value.nilFunc] 1 8 := TRow.of Try.zeroValue200 rfl row200 rfl
instance : TRow Try.prog 201 #[Go.Value.nilFunc] 1 8 := TRow.of Try.zeroValue201 rfl row201 rfl
instance : TRow Try.prog 202 #[Go.Value.tuple #[Go.Value.int Go.IntKind.i64 0, Go.Value.bool Bool.false]] 1 0 := TRow.of Try.zeroValue202 rfl row202 rfl
instance : TRow Try.prog 203 #[Go.Value.nilFunc] 1 8 := TRow.of Try.zeroValue203 rfl row203 rfl
instance : TRow Try.prog 204 #[Go.Value.nilFunc] 1 8 := TRow.of Try.zeroValue204 rfl row204 rfl
instance : TRow Try.prog 205 #[Go.Value.nilFunc] 1 8 := TRow.of Try.zeroValue205 rfl row205 rfl
instance : TRow Try.prog 206 #[Go.Value.nilFunc] 1 8 := TRow.of Try.zeroValue206 rfl row206 rfl
instance : TRow Try.prog 207 #[Go.Value.pointer Option.none] 1 8 := TRow.of Try.zeroValue207 rfl row207 rfl
instance : TRow Try.prog 208 #[Go.Value.nilFunc] 1 8 := TRow.of Try.zeroValue208 rfl row208 rfl
instance : TRow Try.prog 209 #[Go.Value.nilFunc] 1 8 := TRow.of Try.zeroValue209 rfl row209 rfl
instance : TRow Try.prog 210 #[Go.Value.nilFunc] 1 8 := TRow.of Try.zeroValue210 rfl row210 rfl
instance : TRow Try.prog 211 #[Go.Value.nilFunc] 1 8 := TRow.of Try.zeroValue211 rfl row211 rfl
instance : TRow Try.prog 212 #[Go.Value.nilFunc] 1 8 := TRow.of Try.zeroValue212 rfl row212 rfl
instance : TRow Try.prog 213 #[Go.Value.nilFunc] 1 8 := TRow.of Try.zeroValue213 rfl row213 rfl
instance : TRow Try.prog 214 #[Go.Value.nilFunc] 1 8 := TRow.of Try.zeroValue214 rfl row214 rfl
instance : TRow Try.prog 215 #[Go.Value.nilFunc] 1 8 := TRow.of Try.zeroValue215 rfl row215 rfl
instance : TRow Try.prog 216 #[Go.Value.nilFunc] 1 8 := TRow.of Try.zeroValue216 rfl row216 rfl
instance : TRow Try.prog 217 #[Go.Value.nilFunc] 1 8 := TRow.of Try.zeroValue217 rfl row217 rfl
instance : TRow Try.prog 218 zc218 6 32 := TRow.of Try.zeroValue218 rfl row218 rfl
instance : TRow Try.prog 219 zc219 6 32 := TRow.of Try.zeroValue219 rfl row219 rfl
instance : TRow Try.prog 220 #[Go.Value.nilFunc] 1 8 := TRow.of Try.zeroValue220 rfl row220 rfl
instance : TRow Try.prog 221 #[Go.Value.nilFunc] 1 8 := TRow.of Try.zeroValue221 rfl row221 rfl
instance : TRow Try.prog 222 #[Go.Value.nilFunc] 1 8 := TRow.of Try.zeroValue222 rfl row222 rfl
instance : TRow Try.prog 223 #[Go.Value.nilFunc] 1 8 := TRow.of Try.zeroValue223 rfl row223 rfl
instance : TRow Try.prog 224 #[Go.Value.int Go.IntKind.u64 0] 1 8 := TRow.of Try.zeroValue224 rfl row224 rfl
instance : TRow Try.prog 225 #[Go.Value.nilFunc] 1 8 := TRow.of Try.zeroValue225 rfl row225 rfl
instance : TRow Try.prog 226 #[Go.Value.nilFunc] 1 8 := TRow.of Try.zeroValue226 rfl row226 rfl
instance : TRow Try.prog 227 #[Go.Value.nilFunc] 1 8 := TRow.of Try.zeroValue227 rfl row227 rfl
instance : TRow Try.prog 228 #[Go.Value.pointer Option.none] 1 8 := TRow.of Try.zeroValue228 rfl row228 rfl
instance : TRow Try.prog 229 #[Go.Value.nilFunc] 1 8 := TRow.of Try.zeroValue229 rfl row229 rfl
instance : TRow Try.prog 230 #[Go.Value.nilFunc] 1 8 := TRow.of Try.zeroValue230 rfl row230 rfl
instance : TRow Try.prog 231 #[Go.Value.nilFunc] 1 8 := TRow.of Try.zeroValue231 rfl row231 rfl
instance : TRow Try.prog 232 #[Go.Value.pointer Option.none] 1 8 := TRow.of Try.zeroValue232 rfl row232 rfl
instance : TRow Try.prog 233 #[Go.Value.tuple #[Go.Value.int Go.IntKind.i64 0, Go.Value.int Go.IntKind.i64 0]] 1 0 := TRow.of Try.zeroValue233 rfl row233 rfl
instance : TRow Try.prog 234 #[Go.Value.nilFunc] 1 8 := TRow.of Try.zeroValue234 rfl row234 rfl
instance : TRow Try.prog 235 #[Go.Value.nilFunc] 1 8 := TRow.of Try.zeroValue235 rfl row235 rfl
instance : TRow Try.prog 236 zc236 4 40 := TRow.of Try.zeroValue236 rfl row236 rfl
instance : TRow Try.prog 237 zc237 4 40 := TRow.of Try.zeroValue237 rfl row237 rfl
instance : TRow Try.prog 241 #[Go.Value.int Go.IntKind.u8 0] 1 1 := TRow.of Try.zeroValue241 rfl row241 rfl
instance : TRow Try.prog 242 #[Go.Value.int Go.IntKind.u8 0] 1 1 := TRow.of Try.zeroValue242 rfl row242 rfl
instance : TRow Try.prog 243 #[Go.Value.nilFunc] 1 8 := TRow.of Try.zeroValue243 rfl row243 rfl
instance : TRow Try.prog 244 #[Go.Value.int Go.IntKind.i32 0] 1 4 := TRow.of Try.zeroValue244 rfl row244 rfl
instance : TRow Try.prog 245 #[Go.Value.int Go.IntKind.i32 0] 1 4 := TRow.of Try.zeroValue245 rfl row245 rfl
instance : TRow Try.prog 246 zc246 11 48 := TRow.of Try.zeroValue246 rfl row246 rfl
instance : TRow Try.prog 247 zc247 11 48 := TRow.of Try.zeroValue247 rfl row247 rfl
instance : FCall Try.prog 171 := ⟨Try.call171⟩
instance : FCall Try.prog 106 := ⟨Try.call106⟩
instance : FCall Try.prog 75 := ⟨Try.call75⟩
instance : FCall Try.prog 168 := ⟨Try.call168⟩
instance : FCall Try.prog 76 := ⟨Try.call76⟩
instance : FCall Try.prog 71 := ⟨Try.call71⟩
instance : FCall Try.prog 46 := ⟨Try.call46⟩
instance : FCall Try.prog 13 := ⟨Try.call13⟩
instance : FCall Try.prog 83 := ⟨Try.call83⟩
instance : FCall Try.prog 57 := ⟨Try.call57⟩
instance : FCall Try.prog 65 := ⟨Try.call65⟩
instance : FCall Try.prog 110 := ⟨Try.call110⟩
instance : FCall Try.prog 42 := ⟨Try.call42⟩
instance : FCall Try.prog 27 := ⟨Try.call27⟩
instance : FCall Try.prog 77 := ⟨Try.call77⟩
instance : FCall Try.prog 88 := ⟨Try.call88⟩
instance : FCall Try.prog 123 := ⟨Try.call123⟩
instance : FCall Try.prog 52 := ⟨Try.call52⟩
instance : FCall Try.prog 33 := ⟨Try.call33⟩
instance : FCall Try.prog 81 := ⟨Try.call81⟩
instance : FCall Try.prog 17 := ⟨Try.call17⟩
instance : FCall Try.prog 167 := ⟨Try.call167⟩
instance : FCall Try.prog 66 := ⟨Try.call66⟩
instance : FCall Try.prog 135 := ⟨Try.call135⟩
instance : FCall Try.prog 133 := ⟨Try.call133⟩
instance : FCall Try.prog 20 := ⟨Try.call20⟩
instance : FCall Try.prog 49 := ⟨Try.call49⟩
instance : FCall Try.prog 115 := ⟨Try.call115⟩
instance : FCall Try.prog 121 := ⟨Try.call121⟩
instance : FCall Try.prog 170 := ⟨Try.call170⟩
instance : FCall Try.prog 132 := ⟨Try.call132⟩
instance : FCall Try.prog 150 := ⟨Try.call150⟩
instance : FCall Try.prog 93 := ⟨Try.call93⟩
instance : FCall Try.prog 113 := ⟨Try.call113⟩
instance : FCall Try.prog 144 := ⟨Try.call144⟩
instance : FCall Try.prog 35 := ⟨Try.call35⟩
instance : FCall Try.prog 86 := ⟨Try.call86⟩
instance : FCall Try.prog 82 := ⟨Try.call82⟩
instance : FCall Try.prog 18 := ⟨Try.call18⟩
instance : FCall Try.prog 55 := ⟨Try.call55⟩
instance : FCall Try.prog 140 := ⟨Try.call140⟩
instance : FCall Try.prog 154 := ⟨Try.call154⟩
instance : FCall Try.prog 118 := ⟨Try.call118⟩
instance : FCall Try.prog 60 := ⟨Try.call60⟩
instance : FCall Try.prog 6 := ⟨Try.call6⟩
instance : FCall Try.prog 128 := ⟨Try.call128⟩
instance : FCall Try.prog 16 := ⟨Try.call16⟩
instance : FCall Try.prog 91 := ⟨Try.call91⟩
instance : FCall Try.prog 122 := ⟨Try.call122⟩
instance : FCall Try.prog 103 := ⟨Try.call103⟩
instance : FCall Try.prog 153 := ⟨Try.call153⟩
instance : FCall Try.prog 38 := ⟨Try.call38⟩
instance : FCall Try.prog 94 := ⟨Try.call94⟩
instance : FCall Try.prog 14 := ⟨Try.call14⟩
instance : FCall Try.prog 146 := ⟨Try.call146⟩
instance : FCall Try.prog 161 := ⟨Try.call161⟩
instance : FCall Try.prog 143 := ⟨Try.call143⟩
instance : FCall Try.prog 40 := ⟨Try.call40⟩
instance : FCall Try.prog 139 := ⟨Try.call139⟩
instance : FCall Try.prog 30 := ⟨Try.call30⟩
instance : FCall Try.prog 90 := ⟨Try.call90⟩
instance : FCall Try.prog 9 := ⟨Try.call9⟩
instance : FCall Try.prog 28 := ⟨Try.call28⟩
instance : FCall Try.prog 119 := ⟨Try.call119⟩
instance : FCall Try.prog 15 := ⟨Try.call15⟩
instance : FCall Try.prog 68 := ⟨Try.call68⟩
instance : FCall Try.prog 109 := ⟨Try.call109⟩
instance : FCall Try.prog 166 := ⟨Try.call166⟩
instance : FCall Try.prog 48 := ⟨Try.call48⟩
instance : FCall Try.prog 137 := ⟨Try.call137⟩
instance : FCall Try.prog 131 := ⟨Try.call131⟩
instance : FCall Try.prog 39 := ⟨Try.call39⟩
instance : FCall Try.prog 159 := ⟨Try.call159⟩
instance : FCall Try.prog 21 := ⟨Try.call21⟩
instance : FCall Try.prog 19 := ⟨Try.call19⟩
instance : FCall Try.prog 112 := ⟨Try.call112⟩
instance : FCall Try.prog 163 := ⟨Try.call163⟩
instance : FCall Try.prog 59 := ⟨Try.call59⟩
instance : FCall Try.prog 152 := ⟨Try.call152⟩
instance : FCall Try.prog 84 := ⟨Try.call84⟩
instance : FCall Try.prog 142 := ⟨Try.call142⟩
instance : FCall Try.prog 12 := ⟨Try.call12⟩
instance : FCall Try.prog 72 := ⟨Try.call72⟩
instance : FCall Try.prog 108 := ⟨Try.call108⟩
instance : FCall Try.prog 63 := ⟨Try.call63⟩
instance : FCall Try.prog 101 := ⟨Try.call101⟩
instance : FCall Try.prog 62 := ⟨Try.call62⟩
instance : FCall Try.prog 104 := ⟨Try.call104⟩
instance : FCall Try.prog 10 := ⟨Try.call10⟩
instance : FCall Try.prog 70 := ⟨Try.call70⟩
instance : FCall Try.prog 120 := ⟨Try.call120⟩
instance : FCall Try.prog 129 := ⟨Try.call129⟩
instance : FCall Try.prog 8 := ⟨Try.call8⟩
instance : FCall Try.prog 69 := ⟨Try.call69⟩
instance : FCall Try.prog 47 := ⟨Try.call47⟩
instance : FCall Try.prog 175 := ⟨Try.call175⟩
instance : FCall Try.prog 7 := ⟨Try.call7⟩
instance : FCall Try.prog 11 := ⟨Try.call11⟩
instance : FCall Try.prog 134 := ⟨Try.call134⟩
instance : FCall Try.prog 5 := ⟨Try.call5⟩
instance : FCall Try.prog 41 := ⟨Try.call41⟩
instance : FCall Try.prog 145 := ⟨Try.call145⟩
instance : FCall Try.prog 87 := ⟨Try.call87⟩
instance : FCall Try.prog 92 := ⟨Try.call92⟩
instance : FCall Try.prog 124 := ⟨Try.call124⟩
instance : FCall Try.prog 151 := ⟨Try.call151⟩
instance : FCall Try.prog 56 := ⟨Try.call56⟩
instance : FCall Try.prog 155 := ⟨Try.call155⟩
instance : FCall Try.prog 43 := ⟨Try.call43⟩
instance : FCall Try.prog 79 := ⟨Try.call79⟩
instance : FCall Try.prog 51 := ⟨Try.call51⟩
instance : FCall Try.prog 3 := ⟨Try.call3⟩
instance : FCall Try.prog 32 := ⟨Try.call32⟩
instance : FCall Try.prog 31 := ⟨Try.call31⟩
instance : FCall Try.prog 138 := ⟨Try.call138⟩
instance : FCall Try.prog 172 := ⟨Try.call172⟩
instance : FCall Try.prog 158 := ⟨Try.call158⟩
instance : FCall Try.prog 80 := ⟨Try.call80⟩
instance : FCall Try.prog 136 := ⟨Try.call136⟩
instance : FCall Try.prog 58 := ⟨Try.call58⟩
instance : FCall Try.prog 23 := ⟨Try.call23⟩
instance : FCall Try.prog 22 := ⟨Try.call22⟩
instance : FCall Try.prog 130 := ⟨Try.call130⟩
instance : FCall Try.prog 29 := ⟨Try.call29⟩
instance : FCall Try.prog 61 := ⟨Try.call61⟩
instance : FCall Try.prog 162 := ⟨Try.call162⟩
instance : FCall Try.prog 156 := ⟨Try.call156⟩
instance : FCall Try.prog 95 := ⟨Try.call95⟩
instance : FCall Try.prog 102 := ⟨Try.call102⟩
instance : FCall Try.prog 164 := ⟨Try.call164⟩
instance : FCall Try.prog 157 := ⟨Try.call157⟩
instance : FCall Try.prog 2 := ⟨Try.call2⟩
instance : FCall Try.prog 97 := ⟨Try.call97⟩
instance : FCall Try.prog 85 := ⟨Try.call85⟩
instance : FCall Try.prog 44 := ⟨Try.call44⟩
instance : FCall Try.prog 67 := ⟨Try.call67⟩
instance : FCall Try.prog 160 := ⟨Try.call160⟩
instance : FCall Try.prog 169 := ⟨Try.call169⟩
instance : FCall Try.prog 126 := ⟨Try.call126⟩
instance : FCall Try.prog 50 := ⟨Try.call50⟩
instance : FCall Try.prog 111 := ⟨Try.call111⟩
instance : FCall Try.prog 89 := ⟨Try.call89⟩
instance : FCall Try.prog 127 := ⟨Try.call127⟩
instance : FCall Try.prog 107 := ⟨Try.call107⟩
instance : FCall Try.prog 99 := ⟨Try.call99⟩
instance : FCall Try.prog 25 := ⟨Try.call25⟩
instance : FCall Try.prog 173 := ⟨Try.call173⟩
instance : FCall Try.prog 149 := ⟨Try.call149⟩
instance : FCall Try.prog 53 := ⟨Try.call53⟩
instance : FCall Try.prog 45 := ⟨Try.call45⟩
instance : FCall Try.prog 100 := ⟨Try.call100⟩
instance : FCall Try.prog 36 := ⟨Try.call36⟩
instance : FCall Try.prog 24 := ⟨Try.call24⟩
instance : FCall Try.prog 125 := ⟨Try.call125⟩
instance : FCall Try.prog 114 := ⟨Try.call114⟩
instance : FCall Try.prog 141 := ⟨Try.call141⟩
instance : FCall Try.prog 74 := ⟨Try.call74⟩
instance : FCall Try.prog 37 := ⟨Try.call37⟩
instance : FCall Try.prog 34 := ⟨Try.call34⟩
instance : FCall Try.prog 96 := ⟨Try.call96⟩
instance : FCall Try.prog 64 := ⟨Try.call64⟩
instance : FCall Try.prog 98 := ⟨Try.call98⟩
instance : FCall Try.prog 174 := ⟨Try.call174⟩
instance : FCall Try.prog 4 := ⟨Try.call4⟩
instance : FCall Try.prog 78 := ⟨Try.call78⟩
instance : FCall Try.prog 105 := ⟨Try.call105⟩
instance : FCall Try.prog 117 := ⟨Try.call117⟩
instance : FCall Try.prog 26 := ⟨Try.call26⟩
instance : FCall Try.prog 54 := ⟨Try.call54⟩
instance : FCall Try.prog 165 := ⟨Try.call165⟩
instance : FCall Try.prog 116 := ⟨Try.call116⟩
instance : FCall Try.prog 73 := ⟨Try.call73⟩
theorem mixed : Try.prog.follows .mixedOrders = true := by kernel_rfl
end Go.Proofs.Ytnpiiphiiaiodaa
