/-
  Facts on this seat's program's types and functions, out of the loaded program's own, in the form that the symbolic execution asks. Written by a program of mine (wip/tyfacts.sh). It proves no statement by itself.
-/
import Derived.Test.YtcnbecdpfildnaaRows
import Derived.Test.YtcnbecdpfildnaaGo
namespace Go.Proofs.Ytcnbecdpfildnaa

instance : TSize Try.prog 0 1 := ⟨Try.sizeOf0⟩
instance : TAgg Try.prog 0 false := ⟨Try.isAgg0⟩
instance : TZero Try.prog 0 (Go.Value.tuple #[]) := ⟨Try.zeroValue0⟩
theorem row0 : (Try.prog.info? 0).map (fun i => (i.size, i.bytes)) = some (1, 0) := by kernel_rfl
instance : TSize Try.prog 1 1 := ⟨Try.sizeOf1⟩
instance : TAgg Try.prog 1 false := ⟨Try.isAgg1⟩
instance : TZero Try.prog 1 (Go.Value.nilFunc) := ⟨Try.zeroValue1⟩
theorem row1 : (Try.prog.info? 1).map (fun i => (i.size, i.bytes)) = some (1, 8) := by kernel_rfl
instance : TSize Try.prog 2 1 := ⟨Try.sizeOf2⟩
instance : TAgg Try.prog 2 false := ⟨Try.isAgg2⟩
instance : TZero Try.prog 2 (Go.Value.int Go.IntKind.i64 0) := ⟨Try.zeroValue2⟩
theorem row2 : (Try.prog.info? 2).map (fun i => (i.size, i.bytes)) = some (1, 8) := by kernel_rfl
instance : TUnd Try.prog 2 (.int Go.IntKind.i64) := ⟨Try.underlying2⟩
instance : TSize Try.prog 3 1 := ⟨Try.sizeOf3⟩
instance : TAgg Try.prog 3 false := ⟨Try.isAgg3⟩
instance : TZero Try.prog 3 (Go.Value.int Go.IntKind.i64 0) := ⟨Try.zeroValue3⟩
theorem row3 : (Try.prog.info? 3).map (fun i => (i.size, i.bytes)) = some (1, 8) := by kernel_rfl
instance : TUnd Try.prog 3 (.int Go.IntKind.i64) := ⟨Try.underlying3⟩
instance : TSize Try.prog 4 1 := ⟨Try.sizeOf4⟩
instance : TAgg Try.prog 4 false := ⟨Try.isAgg4⟩
instance : TZero Try.prog 4 (Go.Value.bool Bool.false) := ⟨Try.zeroValue4⟩
theorem row4 : (Try.prog.info? 4).map (fun i => (i.size, i.bytes)) = some (1, 1) := by kernel_rfl
instance : TUnd Try.prog 4 .bool := ⟨Try.underlying4⟩
instance : TSize Try.prog 5 1 := ⟨Try.sizeOf5⟩
instance : TAgg Try.prog 5 false := ⟨Try.isAgg5⟩
instance : TZero Try.prog 5 (Go.Value.int Go.IntKind.u8 0) := ⟨Try.zeroValue5⟩
theorem row5 : (Try.prog.info? 5).map (fun i => (i.size, i.bytes)) = some (1, 1) := by kernel_rfl
instance : TUnd Try.prog 5 (.int Go.IntKind.u8) := ⟨Try.underlying5⟩
instance : TSize Try.prog 6 1 := ⟨Try.sizeOf6⟩
instance : TAgg Try.prog 6 false := ⟨Try.isAgg6⟩
instance : TZero Try.prog 6 (Go.Value.int Go.IntKind.u8 0) := ⟨Try.zeroValue6⟩
theorem row6 : (Try.prog.info? 6).map (fun i => (i.size, i.bytes)) = some (1, 1) := by kernel_rfl
instance : TUnd Try.prog 6 (.int Go.IntKind.u8) := ⟨Try.underlying6⟩
instance : TSize Try.prog 7 4 := ⟨Try.sizeOf7⟩
instance : TAgg Try.prog 7 true := ⟨Try.isAgg7⟩
def zc7 : Array Value :=  #[Go.Value.int Go.IntKind.i64 0, Go.Value.int Go.IntKind.i64 0, Go.Value.bool Bool.false, Go.Value.int Go.IntKind.u8 0]
theorem zc7_size : zc7.size = 4 := rfl
instance : TZero Try.prog 7 (.agg zc7) := ⟨Try.zeroValue7⟩
theorem row7 : (Try.prog.info? 7).map (fun i => (i.size, i.bytes)) = some (4, 24) := by kernel_rfl
instance : TFld Try.prog 7 0 0 2 1 := ⟨⟨_, _, Try.underlying7, rfl, rfl, rfl, Try.sizeOf2, by decide⟩⟩
instance : TFld Try.prog 7 1 1 3 1 := ⟨⟨_, _, Try.underlying7, rfl, rfl, rfl, Try.sizeOf3, by decide⟩⟩
instance : TFld Try.prog 7 2 2 4 1 := ⟨⟨_, _, Try.underlying7, rfl, rfl, rfl, Try.sizeOf4, by decide⟩⟩
instance : TFld Try.prog 7 3 3 6 1 := ⟨⟨_, _, Try.underlying7, rfl, rfl, rfl, Try.sizeOf6, by decide⟩⟩
instance : TBuild Try.prog 7 zc7 [(0, 1), (1, 1), (2, 1), (3, 1)] := ⟨fun _ => by kernel_rfl⟩
instance : TSize Try.prog 8 4 := ⟨Try.sizeOf8⟩
instance : TAgg Try.prog 8 true := ⟨Try.isAgg8⟩
def zc8 : Array Value :=  #[Go.Value.int Go.IntKind.i64 0, Go.Value.int Go.IntKind.i64 0, Go.Value.bool Bool.false, Go.Value.int Go.IntKind.u8 0]
theorem zc8_size : zc8.size = 4 := rfl
instance : TZero Try.prog 8 (.agg zc8) := ⟨Try.zeroValue8⟩
theorem row8 : (Try.prog.info? 8).map (fun i => (i.size, i.bytes)) = some (4, 24) := by kernel_rfl
instance : TFld Try.prog 8 0 0 2 1 := ⟨⟨_, _, Try.underlying8, rfl, rfl, rfl, Try.sizeOf2, by decide⟩⟩
instance : TFld Try.prog 8 1 1 3 1 := ⟨⟨_, _, Try.underlying8, rfl, rfl, rfl, Try.sizeOf3, by decide⟩⟩
instance : TFld Try.prog 8 2 2 4 1 := ⟨⟨_, _, Try.underlying8, rfl, rfl, rfl, Try.sizeOf4, by decide⟩⟩
instance : TFld Try.prog 8 3 3 6 1 := ⟨⟨_, _, Try.underlying8, rfl, rfl, rfl, Try.sizeOf6, by decide⟩⟩
instance : TBuild Try.prog 8 zc8 [(0, 1), (1, 1), (2, 1), (3, 1)] := ⟨fun _ => by kernel_rfl⟩
instance : TSize Try.prog 9 1 := ⟨Try.sizeOf9⟩
instance : TAgg Try.prog 9 false := ⟨Try.isAgg9⟩
instance : TZero Try.prog 9 (Go.Value.string { data := #[] }) := ⟨Try.zeroValue9⟩
theorem row9 : (Try.prog.info? 9).map (fun i => (i.size, i.bytes)) = some (1, 16) := by kernel_rfl
instance : TUnd Try.prog 9 .string := ⟨Try.underlying9⟩
instance : TSize Try.prog 10 1 := ⟨Try.sizeOf10⟩
instance : TAgg Try.prog 10 false := ⟨Try.isAgg10⟩
instance : TZero Try.prog 10 (Go.Value.string { data := #[] }) := ⟨Try.zeroValue10⟩
theorem row10 : (Try.prog.info? 10).map (fun i => (i.size, i.bytes)) = some (1, 16) := by kernel_rfl
instance : TUnd Try.prog 10 .string := ⟨Try.underlying10⟩
instance : TSize Try.prog 11 1 := ⟨Try.sizeOf11⟩
instance : TAgg Try.prog 11 false := ⟨Try.isAgg11⟩
instance : TZero Try.prog 11 (Go.Value.string { data := #[] }) := ⟨Try.zeroValue11⟩
theorem row11 : (Try.prog.info? 11).map (fun i => (i.size, i.bytes)) = some (1, 16) := by kernel_rfl
instance : TUnd Try.prog 11 .string := ⟨Try.underlying11⟩
instance : TSize Try.prog 12 1 := ⟨Try.sizeOf12⟩
instance : TAgg Try.prog 12 false := ⟨Try.isAgg12⟩
instance : TZero Try.prog 12 (Go.Value.int Go.IntKind.u64 0) := ⟨Try.zeroValue12⟩
theorem row12 : (Try.prog.info? 12).map (fun i => (i.size, i.bytes)) = some (1, 8) := by kernel_rfl
instance : TUnd Try.prog 12 (.int Go.IntKind.u64) := ⟨Try.underlying12⟩
instance : TSize Try.prog 13 2 := ⟨Try.sizeOf13⟩
instance : TAgg Try.prog 13 true := ⟨Try.isAgg13⟩
def zc13 : Array Value :=  #[Go.Value.string { data := #[] }, Go.Value.int Go.IntKind.u64 0]
theorem zc13_size : zc13.size = 2 := rfl
instance : TZero Try.prog 13 (.agg zc13) := ⟨Try.zeroValue13⟩
theorem row13 : (Try.prog.info? 13).map (fun i => (i.size, i.bytes)) = some (2, 24) := by kernel_rfl
instance : TFld Try.prog 13 0 0 9 1 := ⟨⟨_, _, Try.underlying13, rfl, rfl, rfl, Try.sizeOf9, by decide⟩⟩
instance : TFld Try.prog 13 1 1 12 1 := ⟨⟨_, _, Try.underlying13, rfl, rfl, rfl, Try.sizeOf12, by decide⟩⟩
instance : TBuild Try.prog 13 zc13 [(0, 1), (1, 1)] := ⟨fun _ => by kernel_rfl⟩
instance : TSize Try.prog 14 2 := ⟨Try.sizeOf14⟩
instance : TAgg Try.prog 14 true := ⟨Try.isAgg14⟩
def zc14 : Array Value :=  #[Go.Value.string { data := #[] }, Go.Value.int Go.IntKind.u64 0]
theorem zc14_size : zc14.size = 2 := rfl
instance : TZero Try.prog 14 (.agg zc14) := ⟨Try.zeroValue14⟩
theorem row14 : (Try.prog.info? 14).map (fun i => (i.size, i.bytes)) = some (2, 24) := by kernel_rfl
instance : TFld Try.prog 14 0 0 9 1 := ⟨⟨_, _, Try.underlying14, rfl, rfl, rfl, Try.sizeOf9, by decide⟩⟩
instance : TFld Try.prog 14 1 1 12 1 := ⟨⟨_, _, Try.underlying14, rfl, rfl, rfl, Try.sizeOf12, by decide⟩⟩
instance : TBuild Try.prog 14 zc14 [(0, 1), (1, 1)] := ⟨fun _ => by kernel_rfl⟩
instance : TSize Try.prog 15 1 := ⟨Try.sizeOf15⟩
instance : TAgg Try.prog 15 false := ⟨Try.isAgg15⟩
instance : TZero Try.prog 15 (Go.Value.pointer Option.none) := ⟨Try.zeroValue15⟩
theorem row15 : (Try.prog.info? 15).map (fun i => (i.size, i.bytes)) = some (1, 8) := by kernel_rfl
instance : TUnd Try.prog 15 (.pointer 128) := ⟨Try.underlying15⟩
instance : TSize Try.prog 16 1 := ⟨Try.sizeOf16⟩
instance : TAgg Try.prog 16 false := ⟨Try.isAgg16⟩
instance : TZero Try.prog 16 (Go.Value.pointer Option.none) := ⟨Try.zeroValue16⟩
theorem row16 : (Try.prog.info? 16).map (fun i => (i.size, i.bytes)) = some (1, 8) := by kernel_rfl
instance : TUnd Try.prog 16 (.pointer 131) := ⟨Try.underlying16⟩
instance : TSize Try.prog 17 1 := ⟨Try.sizeOf17⟩
instance : TAgg Try.prog 17 false := ⟨Try.isAgg17⟩
instance : TZero Try.prog 17 (Go.Value.pointer Option.none) := ⟨Try.zeroValue17⟩
theorem row17 : (Try.prog.info? 17).map (fun i => (i.size, i.bytes)) = some (1, 8) := by kernel_rfl
instance : TUnd Try.prog 17 (.pointer 139) := ⟨Try.underlying17⟩
instance : TSize Try.prog 18 1 := ⟨Try.sizeOf18⟩
instance : TAgg Try.prog 18 true := ⟨Try.isAgg18⟩
def zc18 : Array Value :=  #[Go.Value.pointer Option.none]
theorem zc18_size : zc18.size = 1 := rfl
instance : TZero Try.prog 18 (.agg zc18) := ⟨Try.zeroValue18⟩
theorem row18 : (Try.prog.info? 18).map (fun i => (i.size, i.bytes)) = some (1, 8) := by kernel_rfl
instance : TFld Try.prog 18 0 0 17 1 := ⟨⟨_, _, Try.underlying18, rfl, rfl, rfl, Try.sizeOf17, by decide⟩⟩
instance : TBuild Try.prog 18 zc18 [(0, 1)] := ⟨fun _ => by kernel_rfl⟩
instance : TSize Try.prog 19 1 := ⟨Try.sizeOf19⟩
instance : TAgg Try.prog 19 true := ⟨Try.isAgg19⟩
def zc19 : Array Value :=  #[Go.Value.pointer Option.none]
theorem zc19_size : zc19.size = 1 := rfl
instance : TZero Try.prog 19 (.agg zc19) := ⟨Try.zeroValue19⟩
theorem row19 : (Try.prog.info? 19).map (fun i => (i.size, i.bytes)) = some (1, 8) := by kernel_rfl
instance : TFld Try.prog 19 0 0 17 1 := ⟨⟨_, _, Try.underlying19, rfl, rfl, rfl, Try.sizeOf17, by decide⟩⟩
instance : TBuild Try.prog 19 zc19 [(0, 1)] := ⟨fun _ => by kernel_rfl⟩
instance : TSize Try.prog 20 1 := ⟨Try.sizeOf20⟩
instance : TAgg Try.prog 20 false := ⟨Try.isAgg20⟩
instance : TZero Try.prog 20 (Go.Value.nilIface) := ⟨Try.zeroValue20⟩
theorem row20 : (Try.prog.info? 20).map (fun i => (i.size, i.bytes)) = some (1, 16) := by kernel_rfl
instance : TUnd Try.prog 20 (Go.TypeDesc.interface #[]) := ⟨Try.underlying20⟩
instance : TSize Try.prog 21 1 := ⟨Try.sizeOf21⟩
instance : TAgg Try.prog 21 false := ⟨Try.isAgg21⟩
instance : TZero Try.prog 21 (Go.Value.int Go.IntKind.i32 0) := ⟨Try.zeroValue21⟩
theorem row21 : (Try.prog.info? 21).map (fun i => (i.size, i.bytes)) = some (1, 4) := by kernel_rfl
instance : TUnd Try.prog 21 (.int Go.IntKind.i32) := ⟨Try.underlying21⟩
instance : TSize Try.prog 22 1 := ⟨Try.sizeOf22⟩
instance : TAgg Try.prog 22 false := ⟨Try.isAgg22⟩
instance : TZero Try.prog 22 (Go.Value.slice Option.none 0 0) := ⟨Try.zeroValue22⟩
theorem row22 : (Try.prog.info? 22).map (fun i => (i.size, i.bytes)) = some (1, 24) := by kernel_rfl
instance : TUnd Try.prog 22 (.slice 29) := ⟨Try.underlying22⟩
instance : TSize Try.prog 23 1 := ⟨Try.sizeOf23⟩
instance : TAgg Try.prog 23 false := ⟨Try.isAgg23⟩
instance : TZero Try.prog 23 (Go.Value.pointer Option.none) := ⟨Try.zeroValue23⟩
theorem row23 : (Try.prog.info? 23).map (fun i => (i.size, i.bytes)) = some (1, 8) := by kernel_rfl
instance : TUnd Try.prog 23 (.pointer 95) := ⟨Try.underlying23⟩
instance : TSize Try.prog 24 1 := ⟨Try.sizeOf24⟩
instance : TAgg Try.prog 24 false := ⟨Try.isAgg24⟩
instance : TZero Try.prog 24 (Go.Value.nilFunc) := ⟨Try.zeroValue24⟩
theorem row24 : (Try.prog.info? 24).map (fun i => (i.size, i.bytes)) = some (1, 8) := by kernel_rfl
instance : TSize Try.prog 25 1 := ⟨Try.sizeOf25⟩
instance : TAgg Try.prog 25 false := ⟨Try.isAgg25⟩
instance : TZero Try.prog 25 (Go.Value.pointer Option.none) := ⟨Try.zeroValue25⟩
theorem row25 : (Try.prog.info? 25).map (fun i => (i.size, i.bytes)) = some (1, 8) := by kernel_rfl
instance : TUnd Try.prog 25 (.pointer 33) := ⟨Try.underlying25⟩
instance : TSize Try.prog 26 1 := ⟨Try.sizeOf26⟩
instance : TAgg Try.prog 26 false := ⟨Try.isAgg26⟩
instance : TZero Try.prog 26 (Go.Value.nilFunc) := ⟨Try.zeroValue26⟩
theorem row26 : (Try.prog.info? 26).map (fun i => (i.size, i.bytes)) = some (1, 8) := by kernel_rfl
instance : TSize Try.prog 27 1 := ⟨Try.sizeOf27⟩
instance : TAgg Try.prog 27 false := ⟨Try.isAgg27⟩
instance : TZero Try.prog 27 (Go.Value.int Go.IntKind.i8 0) := ⟨Try.zeroValue27⟩
theorem row27 : (Try.prog.info? 27).map (fun i => (i.size, i.bytes)) = some (1, 1) := by kernel_rfl
instance : TUnd Try.prog 27 (.int Go.IntKind.i8) := ⟨Try.underlying27⟩
instance : TSize Try.prog 28 3 := ⟨Try.sizeOf28⟩
instance : TAgg Try.prog 28 true := ⟨Try.isAgg28⟩
def zc28 : Array Value :=  #[Go.Value.int Go.IntKind.u8 0, Go.Value.int Go.IntKind.i8 0, Go.Value.int Go.IntKind.i64 0]
theorem zc28_size : zc28.size = 3 := rfl
instance : TZero Try.prog 28 (.agg zc28) := ⟨Try.zeroValue28⟩
theorem row28 : (Try.prog.info? 28).map (fun i => (i.size, i.bytes)) = some (3, 16) := by kernel_rfl
instance : TFld Try.prog 28 0 0 5 1 := ⟨⟨_, _, Try.underlying28, rfl, rfl, rfl, Try.sizeOf5, by decide⟩⟩
instance : TFld Try.prog 28 1 1 27 1 := ⟨⟨_, _, Try.underlying28, rfl, rfl, rfl, Try.sizeOf27, by decide⟩⟩
instance : TFld Try.prog 28 2 2 2 1 := ⟨⟨_, _, Try.underlying28, rfl, rfl, rfl, Try.sizeOf2, by decide⟩⟩
instance : TBuild Try.prog 28 zc28 [(0, 1), (1, 1), (2, 1)] := ⟨fun _ => by kernel_rfl⟩
instance : TSize Try.prog 29 3 := ⟨Try.sizeOf29⟩
instance : TAgg Try.prog 29 true := ⟨Try.isAgg29⟩
def zc29 : Array Value :=  #[Go.Value.int Go.IntKind.u8 0, Go.Value.int Go.IntKind.i8 0, Go.Value.int Go.IntKind.i64 0]
theorem zc29_size : zc29.size = 3 := rfl
instance : TZero Try.prog 29 (.agg zc29) := ⟨Try.zeroValue29⟩
theorem row29 : (Try.prog.info? 29).map (fun i => (i.size, i.bytes)) = some (3, 16) := by kernel_rfl
instance : TFld Try.prog 29 0 0 5 1 := ⟨⟨_, _, Try.underlying29, rfl, rfl, rfl, Try.sizeOf5, by decide⟩⟩
instance : TFld Try.prog 29 1 1 27 1 := ⟨⟨_, _, Try.underlying29, rfl, rfl, rfl, Try.sizeOf27, by decide⟩⟩
instance : TFld Try.prog 29 2 2 2 1 := ⟨⟨_, _, Try.underlying29, rfl, rfl, rfl, Try.sizeOf2, by decide⟩⟩
instance : TBuild Try.prog 29 zc29 [(0, 1), (1, 1), (2, 1)] := ⟨fun _ => by kernel_rfl⟩
instance : TSize Try.prog 30 1 := ⟨Try.sizeOf30⟩
instance : TAgg Try.prog 30 false := ⟨Try.isAgg30⟩
instance : TZero Try.prog 30 (Go.Value.int Go.IntKind.u64 0) := ⟨Try.zeroValue30⟩
theorem row30 : (Try.prog.info? 30).map (fun i => (i.size, i.bytes)) = some (1, 8) := by kernel_rfl
instance : TUnd Try.prog 30 (.int Go.IntKind.u64) := ⟨Try.underlying30⟩
instance : TSize Try.prog 31 1 := ⟨Try.sizeOf31⟩
instance : TAgg Try.prog 31 false := ⟨Try.isAgg31⟩
instance : TZero Try.prog 31 (Go.Value.slice Option.none 0 0) := ⟨Try.zeroValue31⟩
theorem row31 : (Try.prog.info? 31).map (fun i => (i.size, i.bytes)) = some (1, 24) := by kernel_rfl
instance : TUnd Try.prog 31 (.slice 48) := ⟨Try.underlying31⟩
instance : TSize Try.prog 32 4 := ⟨Try.sizeOf32⟩
instance : TAgg Try.prog 32 true := ⟨Try.isAgg32⟩
def zc32 : Array Value :=  #[Go.Value.int Go.IntKind.i64 0, Go.Value.slice Option.none 0 0, Go.Value.int Go.IntKind.u64 0, Go.Value.int Go.IntKind.i64 0]
theorem zc32_size : zc32.size = 4 := rfl
instance : TZero Try.prog 32 (.agg zc32) := ⟨Try.zeroValue32⟩
theorem row32 : (Try.prog.info? 32).map (fun i => (i.size, i.bytes)) = some (4, 48) := by kernel_rfl
instance : TFld Try.prog 32 0 0 3 1 := ⟨⟨_, _, Try.underlying32, rfl, rfl, rfl, Try.sizeOf3, by decide⟩⟩
instance : TFld Try.prog 32 1 1 31 1 := ⟨⟨_, _, Try.underlying32, rfl, rfl, rfl, Try.sizeOf31, by decide⟩⟩
instance : TFld Try.prog 32 2 2 30 1 := ⟨⟨_, _, Try.underlying32, rfl, rfl, rfl, Try.sizeOf30, by decide⟩⟩
instance : TFld Try.prog 32 3 3 3 1 := ⟨⟨_, _, Try.underlying32, rfl, rfl, rfl, Try.sizeOf3, by decide⟩⟩
instance : TBuild Try.prog 32 zc32 [(0, 1), (1, 1), (2, 1), (3, 1)] := ⟨fun _ => by kernel_rfl⟩
instance : TSize Try.prog 33 4 := ⟨Try.sizeOf33⟩
instance : TAgg Try.prog 33 true := ⟨Try.isAgg33⟩
def zc33 : Array Value :=  #[Go.Value.int Go.IntKind.i64 0, Go.Value.slice Option.none 0 0, Go.Value.int Go.IntKind.u64 0, Go.Value.int Go.IntKind.i64 0]
theorem zc33_size : zc33.size = 4 := rfl
instance : TZero Try.prog 33 (.agg zc33) := ⟨Try.zeroValue33⟩
theorem row33 : (Try.prog.info? 33).map (fun i => (i.size, i.bytes)) = some (4, 48) := by kernel_rfl
instance : TFld Try.prog 33 0 0 3 1 := ⟨⟨_, _, Try.underlying33, rfl, rfl, rfl, Try.sizeOf3, by decide⟩⟩
instance : TFld Try.prog 33 1 1 31 1 := ⟨⟨_, _, Try.underlying33, rfl, rfl, rfl, Try.sizeOf31, by decide⟩⟩
instance : TFld Try.prog 33 2 2 30 1 := ⟨⟨_, _, Try.underlying33, rfl, rfl, rfl, Try.sizeOf30, by decide⟩⟩
instance : TFld Try.prog 33 3 3 3 1 := ⟨⟨_, _, Try.underlying33, rfl, rfl, rfl, Try.sizeOf3, by decide⟩⟩
instance : TBuild Try.prog 33 zc33 [(0, 1), (1, 1), (2, 1), (3, 1)] := ⟨fun _ => by kernel_rfl⟩
instance : TSize Try.prog 34 1 := ⟨Try.sizeOf34⟩
instance : TAgg Try.prog 34 false := ⟨Try.isAgg34⟩
instance : TZero Try.prog 34 (Go.Value.int Go.IntKind.i64 0) := ⟨Try.zeroValue34⟩
theorem row34 : (Try.prog.info? 34).map (fun i => (i.size, i.bytes)) = some (1, 8) := by kernel_rfl
instance : TUnd Try.prog 34 (.int Go.IntKind.i64) := ⟨Try.underlying34⟩
instance : TSize Try.prog 35 1 := ⟨Try.sizeOf35⟩
instance : TAgg Try.prog 35 false := ⟨Try.isAgg35⟩
instance : TZero Try.prog 35 (Go.Value.nilFunc) := ⟨Try.zeroValue35⟩
theorem row35 : (Try.prog.info? 35).map (fun i => (i.size, i.bytes)) = some (1, 8) := by kernel_rfl
instance : TSize Try.prog 36 1 := ⟨Try.sizeOf36⟩
instance : TAgg Try.prog 36 false := ⟨Try.isAgg36⟩
instance : TZero Try.prog 36 (Go.Value.int Go.IntKind.u32 0) := ⟨Try.zeroValue36⟩
theorem row36 : (Try.prog.info? 36).map (fun i => (i.size, i.bytes)) = some (1, 4) := by kernel_rfl
instance : TUnd Try.prog 36 (.int Go.IntKind.u32) := ⟨Try.underlying36⟩
instance : TSize Try.prog 37 6 := ⟨Try.sizeOf37⟩
instance : TAgg Try.prog 37 true := ⟨Try.isAgg37⟩
def zc37 : Array Value :=  #[Go.Value.int Go.IntKind.u32 0, Go.Value.int Go.IntKind.i64 0, Go.Value.int Go.IntKind.i64 0, Go.Value.int Go.IntKind.u8 0, Go.Value.bool Bool.false, Go.Value.bool Bool.false]
theorem zc37_size : zc37.size = 6 := rfl
instance : TZero Try.prog 37 (.agg zc37) := ⟨Try.zeroValue37⟩
theorem row37 : (Try.prog.info? 37).map (fun i => (i.size, i.bytes)) = some (6, 32) := by kernel_rfl
instance : TFld Try.prog 37 0 0 36 1 := ⟨⟨_, _, Try.underlying37, rfl, rfl, rfl, Try.sizeOf36, by decide⟩⟩
instance : TFld Try.prog 37 1 1 2 1 := ⟨⟨_, _, Try.underlying37, rfl, rfl, rfl, Try.sizeOf2, by decide⟩⟩
instance : TFld Try.prog 37 2 2 2 1 := ⟨⟨_, _, Try.underlying37, rfl, rfl, rfl, Try.sizeOf2, by decide⟩⟩
instance : TFld Try.prog 37 3 3 5 1 := ⟨⟨_, _, Try.underlying37, rfl, rfl, rfl, Try.sizeOf5, by decide⟩⟩
instance : TFld Try.prog 37 4 4 4 1 := ⟨⟨_, _, Try.underlying37, rfl, rfl, rfl, Try.sizeOf4, by decide⟩⟩
instance : TFld Try.prog 37 5 5 4 1 := ⟨⟨_, _, Try.underlying37, rfl, rfl, rfl, Try.sizeOf4, by decide⟩⟩
instance : TBuild Try.prog 37 zc37 [(0, 1), (1, 1), (2, 1), (3, 1), (4, 1), (5, 1)] := ⟨fun _ => by kernel_rfl⟩
instance : TSize Try.prog 38 6 := ⟨Try.sizeOf38⟩
instance : TAgg Try.prog 38 true := ⟨Try.isAgg38⟩
def zc38 : Array Value :=  #[Go.Value.int Go.IntKind.u32 0, Go.Value.int Go.IntKind.i64 0, Go.Value.int Go.IntKind.i64 0, Go.Value.int Go.IntKind.u8 0, Go.Value.bool Bool.false, Go.Value.bool Bool.false]
theorem zc38_size : zc38.size = 6 := rfl
instance : TZero Try.prog 38 (.agg zc38) := ⟨Try.zeroValue38⟩
theorem row38 : (Try.prog.info? 38).map (fun i => (i.size, i.bytes)) = some (6, 32) := by kernel_rfl
instance : TFld Try.prog 38 0 0 36 1 := ⟨⟨_, _, Try.underlying38, rfl, rfl, rfl, Try.sizeOf36, by decide⟩⟩
instance : TFld Try.prog 38 1 1 2 1 := ⟨⟨_, _, Try.underlying38, rfl, rfl, rfl, Try.sizeOf2, by decide⟩⟩
instance : TFld Try.prog 38 2 2 2 1 := ⟨⟨_, _, Try.underlying38, rfl, rfl, rfl, Try.sizeOf2, by decide⟩⟩
instance : TFld Try.prog 38 3 3 5 1 := ⟨⟨_, _, Try.underlying38, rfl, rfl, rfl, Try.sizeOf5, by decide⟩⟩
instance : TFld Try.prog 38 4 4 4 1 := ⟨⟨_, _, Try.underlying38, rfl, rfl, rfl, Try.sizeOf4, by decide⟩⟩
instance : TFld Try.prog 38 5 5 4 1 := ⟨⟨_, _, Try.underlying38, rfl, rfl, rfl, Try.sizeOf4, by decide⟩⟩
instance : TBuild Try.prog 38 zc38 [(0, 1), (1, 1), (2, 1), (3, 1), (4, 1), (5, 1)] := ⟨fun _ => by kernel_rfl⟩
instance : TSize Try.prog 39 1 := ⟨Try.sizeOf39⟩
instance : TAgg Try.prog 39 false := ⟨Try.isAgg39⟩
instance : TZero Try.prog 39 (Go.Value.slice Option.none 0 0) := ⟨Try.zeroValue39⟩
theorem row39 : (Try.prog.info? 39).map (fun i => (i.size, i.bytes)) = some (1, 24) := by kernel_rfl
instance : TUnd Try.prog 39 (.slice 3) := ⟨Try.underlying39⟩
instance : TSize Try.prog 40 4 := ⟨Try.sizeOf40⟩
instance : TAgg Try.prog 40 true := ⟨Try.isAgg40⟩
def zc40 : Array Value :=  #[Go.Value.int Go.IntKind.i64 0, Go.Value.int Go.IntKind.i64 0, Go.Value.int Go.IntKind.i64 0, Go.Value.int Go.IntKind.i64 0]
theorem zc40_size : zc40.size = 4 := rfl
instance : TZero Try.prog 40 (.agg zc40) := ⟨Try.zeroValue40⟩
theorem row40 : (Try.prog.info? 40).map (fun i => (i.size, i.bytes)) = some (4, 32) := by kernel_rfl
instance : TFld Try.prog 40 0 0 3 1 := ⟨⟨_, _, Try.underlying40, rfl, rfl, rfl, Try.sizeOf3, by decide⟩⟩
instance : TFld Try.prog 40 1 1 2 1 := ⟨⟨_, _, Try.underlying40, rfl, rfl, rfl, Try.sizeOf2, by decide⟩⟩
instance : TFld Try.prog 40 2 2 2 1 := ⟨⟨_, _, Try.underlying40, rfl, rfl, rfl, Try.sizeOf2, by decide⟩⟩
instance : TFld Try.prog 40 3 3 3 1 := ⟨⟨_, _, Try.underlying40, rfl, rfl, rfl, Try.sizeOf3, by decide⟩⟩
instance : TBuild Try.prog 40 zc40 [(0, 1), (1, 1), (2, 1), (3, 1)] := ⟨fun _ => by kernel_rfl⟩
instance : TSize Try.prog 41 4 := ⟨Try.sizeOf41⟩
instance : TAgg Try.prog 41 true := ⟨Try.isAgg41⟩
def zc41 : Array Value :=  #[Go.Value.int Go.IntKind.i64 0, Go.Value.int Go.IntKind.i64 0, Go.Value.int Go.IntKind.i64 0, Go.Value.int Go.IntKind.i64 0]
theorem zc41_size : zc41.size = 4 := rfl
instance : TZero Try.prog 41 (.agg zc41) := ⟨Try.zeroValue41⟩
theorem row41 : (Try.prog.info? 41).map (fun i => (i.size, i.bytes)) = some (4, 32) := by kernel_rfl
instance : TFld Try.prog 41 0 0 3 1 := ⟨⟨_, _, Try.underlying41, rfl, rfl, rfl, Try.sizeOf3, by decide⟩⟩
instance : TFld Try.prog 41 1 1 2 1 := ⟨⟨_, _, Try.underlying41, rfl, rfl, rfl, Try.sizeOf2, by decide⟩⟩
instance : TFld Try.prog 41 2 2 2 1 := ⟨⟨_, _, Try.underlying41, rfl, rfl, rfl, Try.sizeOf2, by decide⟩⟩
instance : TFld Try.prog 41 3 3 3 1 := ⟨⟨_, _, Try.underlying41, rfl, rfl, rfl, Try.sizeOf3, by decide⟩⟩
instance : TBuild Try.prog 41 zc41 [(0, 1), (1, 1), (2, 1), (3, 1)] := ⟨fun _ => by kernel_rfl⟩
instance : TSize Try.prog 42 10 := ⟨Try.sizeOf42⟩
instance : TAgg Try.prog 42 true := ⟨Try.isAgg42⟩
def zc42 : Array Value :=  #[Go.Value.int Go.IntKind.i64 0, Go.Value.int Go.IntKind.i64 0, Go.Value.slice Option.none 0 0, Go.Value.int Go.IntKind.i64 0, Go.Value.int Go.IntKind.i64 0, Go.Value.int Go.IntKind.i64 0, Go.Value.int Go.IntKind.i64 0, Go.Value.int Go.IntKind.i64 0, Go.Value.int Go.IntKind.i64 0, Go.Value.int Go.IntKind.i64 0]
theorem zc42_size : zc42.size = 10 := rfl
instance : TZero Try.prog 42 (.agg zc42) := ⟨Try.zeroValue42⟩
theorem row42 : (Try.prog.info? 42).map (fun i => (i.size, i.bytes)) = some (10, 96) := by kernel_rfl
instance : TFld Try.prog 42 0 0 3 1 := ⟨⟨_, _, Try.underlying42, rfl, rfl, rfl, Try.sizeOf3, by decide⟩⟩
instance : TFld Try.prog 42 1 1 2 1 := ⟨⟨_, _, Try.underlying42, rfl, rfl, rfl, Try.sizeOf2, by decide⟩⟩
instance : TFld Try.prog 42 2 2 39 1 := ⟨⟨_, _, Try.underlying42, rfl, rfl, rfl, Try.sizeOf39, by decide⟩⟩
instance : TFld Try.prog 42 3 3 3 1 := ⟨⟨_, _, Try.underlying42, rfl, rfl, rfl, Try.sizeOf3, by decide⟩⟩
instance : TFld Try.prog 42 4 4 3 1 := ⟨⟨_, _, Try.underlying42, rfl, rfl, rfl, Try.sizeOf3, by decide⟩⟩
instance : TFld Try.prog 42 5 5 41 4 := ⟨⟨_, _, Try.underlying42, rfl, rfl, rfl, Try.sizeOf41, by decide⟩⟩
instance : TFld Try.prog 42 6 9 3 1 := ⟨⟨_, _, Try.underlying42, rfl, rfl, rfl, Try.sizeOf3, by decide⟩⟩
instance : TBuild Try.prog 42 zc42 [(0, 1), (1, 1), (2, 1), (3, 1), (4, 1), (5, 4), (9, 1)] := ⟨fun _ => by kernel_rfl⟩
instance : TSize Try.prog 43 10 := ⟨Try.sizeOf43⟩
instance : TAgg Try.prog 43 true := ⟨Try.isAgg43⟩
def zc43 : Array Value :=  #[Go.Value.int Go.IntKind.i64 0, Go.Value.int Go.IntKind.i64 0, Go.Value.slice Option.none 0 0, Go.Value.int Go.IntKind.i64 0, Go.Value.int Go.IntKind.i64 0, Go.Value.int Go.IntKind.i64 0, Go.Value.int Go.IntKind.i64 0, Go.Value.int Go.IntKind.i64 0, Go.Value.int Go.IntKind.i64 0, Go.Value.int Go.IntKind.i64 0]
theorem zc43_size : zc43.size = 10 := rfl
instance : TZero Try.prog 43 (.agg zc43) := ⟨Try.zeroValue43⟩
theorem row43 : (Try.prog.info? 43).map (fun i => (i.size, i.bytes)) = some (10, 96) := by kernel_rfl
instance : TFld Try.prog 43 0 0 3 1 := ⟨⟨_, _, Try.underlying43, rfl, rfl, rfl, Try.sizeOf3, by decide⟩⟩
instance : TFld Try.prog 43 1 1 2 1 := ⟨⟨_, _, Try.underlying43, rfl, rfl, rfl, Try.sizeOf2, by decide⟩⟩
instance : TFld Try.prog 43 2 2 39 1 := ⟨⟨_, _, Try.underlying43, rfl, rfl, rfl, Try.sizeOf39, by decide⟩⟩
instance : TFld Try.prog 43 3 3 3 1 := ⟨⟨_, _, Try.underlying43, rfl, rfl, rfl, Try.sizeOf3, by decide⟩⟩
instance : TFld Try.prog 43 4 4 3 1 := ⟨⟨_, _, Try.underlying43, rfl, rfl, rfl, Try.sizeOf3, by decide⟩⟩
instance : TFld Try.prog 43 5 5 41 4 := ⟨⟨_, _, Try.underlying43, rfl, rfl, rfl, Try.sizeOf41, by decide⟩⟩
instance : TFld Try.prog 43 6 9 3 1 := ⟨⟨_, _, Try.underlying43, rfl, rfl, rfl, Try.sizeOf3, by decide⟩⟩
instance : TBuild Try.prog 43 zc43 [(0, 1), (1, 1), (2, 1), (3, 1), (4, 1), (5, 4), (9, 1)] := ⟨fun _ => by kernel_rfl⟩
instance : TSize Try.prog 44 1 := ⟨Try.sizeOf44⟩
instance : TAgg Try.prog 44 false := ⟨Try.isAgg44⟩
instance : TZero Try.prog 44 (Go.Value.slice Option.none 0 0) := ⟨Try.zeroValue44⟩
theorem row44 : (Try.prog.info? 44).map (fun i => (i.size, i.bytes)) = some (1, 24) := by kernel_rfl
instance : TUnd Try.prog 44 (.slice 124) := ⟨Try.underlying44⟩
instance : TSize Try.prog 45 4 := ⟨Try.sizeOf45⟩
instance : TAgg Try.prog 45 true := ⟨Try.isAgg45⟩
def zc45 : Array Value :=  #[Go.Value.int Go.IntKind.i64 0, Go.Value.int Go.IntKind.i64 0, Go.Value.bool Bool.false, Go.Value.slice Option.none 0 0]
theorem zc45_size : zc45.size = 4 := rfl
instance : TZero Try.prog 45 (.agg zc45) := ⟨Try.zeroValue45⟩
theorem row45 : (Try.prog.info? 45).map (fun i => (i.size, i.bytes)) = some (4, 48) := by kernel_rfl
instance : TFld Try.prog 45 0 0 3 1 := ⟨⟨_, _, Try.underlying45, rfl, rfl, rfl, Try.sizeOf3, by decide⟩⟩
instance : TFld Try.prog 45 1 1 3 1 := ⟨⟨_, _, Try.underlying45, rfl, rfl, rfl, Try.sizeOf3, by decide⟩⟩
instance : TFld Try.prog 45 2 2 4 1 := ⟨⟨_, _, Try.underlying45, rfl, rfl, rfl, Try.sizeOf4, by decide⟩⟩
instance : TFld Try.prog 45 3 3 44 1 := ⟨⟨_, _, Try.underlying45, rfl, rfl, rfl, Try.sizeOf44, by decide⟩⟩
instance : TBuild Try.prog 45 zc45 [(0, 1), (1, 1), (2, 1), (3, 1)] := ⟨fun _ => by kernel_rfl⟩
instance : TSize Try.prog 46 4 := ⟨Try.sizeOf46⟩
instance : TAgg Try.prog 46 true := ⟨Try.isAgg46⟩
def zc46 : Array Value :=  #[Go.Value.int Go.IntKind.i64 0, Go.Value.int Go.IntKind.i64 0, Go.Value.bool Bool.false, Go.Value.slice Option.none 0 0]
theorem zc46_size : zc46.size = 4 := rfl
instance : TZero Try.prog 46 (.agg zc46) := ⟨Try.zeroValue46⟩
theorem row46 : (Try.prog.info? 46).map (fun i => (i.size, i.bytes)) = some (4, 48) := by kernel_rfl
instance : TFld Try.prog 46 0 0 3 1 := ⟨⟨_, _, Try.underlying46, rfl, rfl, rfl, Try.sizeOf3, by decide⟩⟩
instance : TFld Try.prog 46 1 1 3 1 := ⟨⟨_, _, Try.underlying46, rfl, rfl, rfl, Try.sizeOf3, by decide⟩⟩
instance : TFld Try.prog 46 2 2 4 1 := ⟨⟨_, _, Try.underlying46, rfl, rfl, rfl, Try.sizeOf4, by decide⟩⟩
instance : TFld Try.prog 46 3 3 44 1 := ⟨⟨_, _, Try.underlying46, rfl, rfl, rfl, Try.sizeOf44, by decide⟩⟩
instance : TBuild Try.prog 46 zc46 [(0, 1), (1, 1), (2, 1), (3, 1)] := ⟨fun _ => by kernel_rfl⟩
instance : TSize Try.prog 47 24 := ⟨Try.sizeOf47⟩
instance : TAgg Try.prog 47 true := ⟨Try.isAgg47⟩
def zc47 : Array Value :=  #[Go.Value.int Go.IntKind.i64 0, Go.Value.int Go.IntKind.i64 0, Go.Value.int Go.IntKind.u32 0, Go.Value.int Go.IntKind.i64 0, Go.Value.int Go.IntKind.i64 0, Go.Value.int Go.IntKind.u8 0, Go.Value.bool Bool.false, Go.Value.bool Bool.false, Go.Value.int Go.IntKind.i64 0, Go.Value.int Go.IntKind.i64 0, Go.Value.int Go.IntKind.i64 0, Go.Value.int Go.IntKind.i64 0, Go.Value.slice Option.none 0 0, Go.Value.int Go.IntKind.i64 0, Go.Value.int Go.IntKind.i64 0, Go.Value.int Go.IntKind.i64 0, Go.Value.int Go.IntKind.i64 0, Go.Value.int Go.IntKind.i64 0, Go.Value.int Go.IntKind.i64 0, Go.Value.int Go.IntKind.i64 0, Go.Value.int Go.IntKind.i64 0, Go.Value.int Go.IntKind.i64 0, Go.Value.bool Bool.false, Go.Value.slice Option.none 0 0]
theorem zc47_size : zc47.size = 24 := rfl
instance : TZero Try.prog 47 (.agg zc47) := ⟨Try.zeroValue47⟩
theorem row47 : (Try.prog.info? 47).map (fun i => (i.size, i.bytes)) = some (24, 208) := by kernel_rfl
instance : TFld Try.prog 47 0 0 3 1 := ⟨⟨_, _, Try.underlying47, rfl, rfl, rfl, Try.sizeOf3, by decide⟩⟩
instance : TFld Try.prog 47 1 1 3 1 := ⟨⟨_, _, Try.underlying47, rfl, rfl, rfl, Try.sizeOf3, by decide⟩⟩
instance : TFld Try.prog 47 2 2 38 6 := ⟨⟨_, _, Try.underlying47, rfl, rfl, rfl, Try.sizeOf38, by decide⟩⟩
instance : TFld Try.prog 47 3 8 2 1 := ⟨⟨_, _, Try.underlying47, rfl, rfl, rfl, Try.sizeOf2, by decide⟩⟩
instance : TFld Try.prog 47 4 9 3 1 := ⟨⟨_, _, Try.underlying47, rfl, rfl, rfl, Try.sizeOf3, by decide⟩⟩
instance : TFld Try.prog 47 5 10 43 10 := ⟨⟨_, _, Try.underlying47, rfl, rfl, rfl, Try.sizeOf43, by decide⟩⟩
instance : TFld Try.prog 47 6 20 46 4 := ⟨⟨_, _, Try.underlying47, rfl, rfl, rfl, Try.sizeOf46, by decide⟩⟩
instance : TBuild Try.prog 47 zc47 [(0, 1), (1, 1), (2, 6), (8, 1), (9, 1), (10, 10), (20, 4)] := ⟨fun _ => by kernel_rfl⟩
instance : TSize Try.prog 48 24 := ⟨Try.sizeOf48⟩
instance : TAgg Try.prog 48 true := ⟨Try.isAgg48⟩
def zc48 : Array Value :=  #[Go.Value.int Go.IntKind.i64 0, Go.Value.int Go.IntKind.i64 0, Go.Value.int Go.IntKind.u32 0, Go.Value.int Go.IntKind.i64 0, Go.Value.int Go.IntKind.i64 0, Go.Value.int Go.IntKind.u8 0, Go.Value.bool Bool.false, Go.Value.bool Bool.false, Go.Value.int Go.IntKind.i64 0, Go.Value.int Go.IntKind.i64 0, Go.Value.int Go.IntKind.i64 0, Go.Value.int Go.IntKind.i64 0, Go.Value.slice Option.none 0 0, Go.Value.int Go.IntKind.i64 0, Go.Value.int Go.IntKind.i64 0, Go.Value.int Go.IntKind.i64 0, Go.Value.int Go.IntKind.i64 0, Go.Value.int Go.IntKind.i64 0, Go.Value.int Go.IntKind.i64 0, Go.Value.int Go.IntKind.i64 0, Go.Value.int Go.IntKind.i64 0, Go.Value.int Go.IntKind.i64 0, Go.Value.bool Bool.false, Go.Value.slice Option.none 0 0]
theorem zc48_size : zc48.size = 24 := rfl
instance : TZero Try.prog 48 (.agg zc48) := ⟨Try.zeroValue48⟩
theorem row48 : (Try.prog.info? 48).map (fun i => (i.size, i.bytes)) = some (24, 208) := by kernel_rfl
instance : TFld Try.prog 48 0 0 3 1 := ⟨⟨_, _, Try.underlying48, rfl, rfl, rfl, Try.sizeOf3, by decide⟩⟩
instance : TFld Try.prog 48 1 1 3 1 := ⟨⟨_, _, Try.underlying48, rfl, rfl, rfl, Try.sizeOf3, by decide⟩⟩
instance : TFld Try.prog 48 2 2 38 6 := ⟨⟨_, _, Try.underlying48, rfl, rfl, rfl, Try.sizeOf38, by decide⟩⟩
instance : TFld Try.prog 48 3 8 2 1 := ⟨⟨_, _, Try.underlying48, rfl, rfl, rfl, Try.sizeOf2, by decide⟩⟩
instance : TFld Try.prog 48 4 9 3 1 := ⟨⟨_, _, Try.underlying48, rfl, rfl, rfl, Try.sizeOf3, by decide⟩⟩
instance : TFld Try.prog 48 5 10 43 10 := ⟨⟨_, _, Try.underlying48, rfl, rfl, rfl, Try.sizeOf43, by decide⟩⟩
instance : TFld Try.prog 48 6 20 46 4 := ⟨⟨_, _, Try.underlying48, rfl, rfl, rfl, Try.sizeOf46, by decide⟩⟩
instance : TBuild Try.prog 48 zc48 [(0, 1), (1, 1), (2, 6), (8, 1), (9, 1), (10, 10), (20, 4)] := ⟨fun _ => by kernel_rfl⟩
instance : TSize Try.prog 49 1 := ⟨Try.sizeOf49⟩
instance : TAgg Try.prog 49 false := ⟨Try.isAgg49⟩
instance : TZero Try.prog 49 (Go.Value.nilFunc) := ⟨Try.zeroValue49⟩
theorem row49 : (Try.prog.info? 49).map (fun i => (i.size, i.bytes)) = some (1, 8) := by kernel_rfl
instance : TSize Try.prog 50 1 := ⟨Try.sizeOf50⟩
instance : TAgg Try.prog 50 false := ⟨Try.isAgg50⟩
instance : TZero Try.prog 50 (Go.Value.nilFunc) := ⟨Try.zeroValue50⟩
theorem row50 : (Try.prog.info? 50).map (fun i => (i.size, i.bytes)) = some (1, 8) := by kernel_rfl
instance : TSize Try.prog 51 1 := ⟨Try.sizeOf51⟩
instance : TAgg Try.prog 51 false := ⟨Try.isAgg51⟩
instance : TZero Try.prog 51 (Go.Value.tuple #[Go.Value.agg #[Go.Value.int Go.IntKind.i64 0, Go.Value.int Go.IntKind.i64 0, Go.Value.int Go.IntKind.u32 0, Go.Value.int Go.IntKind.i64 0, Go.Value.int Go.IntKind.i64 0, Go.Value.int Go.IntKind.u8 0, Go.Value.bool Bool.false, Go.Value.bool Bool.false, Go.Value.int Go.IntKind.i64 0, Go.Value.int Go.IntKind.i64 0, Go.Value.int Go.IntKind.i64 0, Go.Value.int Go.IntKind.i64 0, Go.Value.slice Option.none 0 0, Go.Value.int Go.IntKind.i64 0, Go.Value.int Go.IntKind.i64 0, Go.Value.int Go.IntKind.i64 0, Go.Value.int Go.IntKind.i64 0, Go.Value.int Go.IntKind.i64 0, Go.Value.int Go.IntKind.i64 0, Go.Value.int Go.IntKind.i64 0, Go.Value.int Go.IntKind.i64 0, Go.Value.int Go.IntKind.i64 0, Go.Value.bool Bool.false, Go.Value.slice Option.none 0 0], Go.Value.bool Bool.false]) := ⟨Try.zeroValue51⟩
theorem row51 : (Try.prog.info? 51).map (fun i => (i.size, i.bytes)) = some (1, 0) := by kernel_rfl
instance : TSize Try.prog 52 1 := ⟨Try.sizeOf52⟩
instance : TAgg Try.prog 52 false := ⟨Try.isAgg52⟩
instance : TZero Try.prog 52 (Go.Value.nilFunc) := ⟨Try.zeroValue52⟩
theorem row52 : (Try.prog.info? 52).map (fun i => (i.size, i.bytes)) = some (1, 8) := by kernel_rfl
instance : TSize Try.prog 53 1 := ⟨Try.sizeOf53⟩
instance : TAgg Try.prog 53 false := ⟨Try.isAgg53⟩
instance : TZero Try.prog 53 (Go.Value.tuple #[Go.Value.int Go.IntKind.u64 0, Go.Value.int Go.IntKind.i64 0]) := ⟨Try.zeroValue53⟩
theorem row53 : (Try.prog.info? 53).map (fun i => (i.size, i.bytes)) = some (1, 0) := by kernel_rfl
instance : TSize Try.prog 54 1 := ⟨Try.sizeOf54⟩
instance : TAgg Try.prog 54 false := ⟨Try.isAgg54⟩
instance : TZero Try.prog 54 (Go.Value.nilFunc) := ⟨Try.zeroValue54⟩
theorem row54 : (Try.prog.info? 54).map (fun i => (i.size, i.bytes)) = some (1, 8) := by kernel_rfl
instance : TSize Try.prog 55 1 := ⟨Try.sizeOf55⟩
instance : TAgg Try.prog 55 false := ⟨Try.isAgg55⟩
instance : TZero Try.prog 55 (Go.Value.nilFunc) := ⟨Try.zeroValue55⟩
theorem row55 : (Try.prog.info? 55).map (fun i => (i.size, i.bytes)) = some (1, 8) := by kernel_rfl
instance : TSize Try.prog 56 1 := ⟨Try.sizeOf56⟩
instance : TAgg Try.prog 56 false := ⟨Try.isAgg56⟩
instance : TZero Try.prog 56 (Go.Value.nilFunc) := ⟨Try.zeroValue56⟩
theorem row56 : (Try.prog.info? 56).map (fun i => (i.size, i.bytes)) = some (1, 8) := by kernel_rfl
instance : TSize Try.prog 57 1 := ⟨Try.sizeOf57⟩
instance : TAgg Try.prog 57 false := ⟨Try.isAgg57⟩
instance : TZero Try.prog 57 (Go.Value.nilFunc) := ⟨Try.zeroValue57⟩
theorem row57 : (Try.prog.info? 57).map (fun i => (i.size, i.bytes)) = some (1, 8) := by kernel_rfl
instance : TSize Try.prog 58 1 := ⟨Try.sizeOf58⟩
instance : TAgg Try.prog 58 false := ⟨Try.isAgg58⟩
instance : TZero Try.prog 58 (Go.Value.nilFunc) := ⟨Try.zeroValue58⟩
theorem row58 : (Try.prog.info? 58).map (fun i => (i.size, i.bytes)) = some (1, 8) := by kernel_rfl
instance : TSize Try.prog 59 1 := ⟨Try.sizeOf59⟩
instance : TAgg Try.prog 59 false := ⟨Try.isAgg59⟩
instance : TZero Try.prog 59 (Go.Value.slice Option.none 0 0) := ⟨Try.zeroValue59⟩
theorem row59 : (Try.prog.info? 59).map (fun i => (i.size, i.bytes)) = some (1, 24) := by kernel_rfl
instance : TUnd Try.prog 59 (.slice 5) := ⟨Try.underlying59⟩
instance : TSize Try.prog 60 1 := ⟨Try.sizeOf60⟩
instance : TAgg Try.prog 60 false := ⟨Try.isAgg60⟩
instance : TZero Try.prog 60 (Go.Value.nilFunc) := ⟨Try.zeroValue60⟩
theorem row60 : (Try.prog.info? 60).map (fun i => (i.size, i.bytes)) = some (1, 8) := by kernel_rfl
instance : TSize Try.prog 61 1 := ⟨Try.sizeOf61⟩
instance : TAgg Try.prog 61 false := ⟨Try.isAgg61⟩
instance : TZero Try.prog 61 (Go.Value.slice Option.none 0 0) := ⟨Try.zeroValue61⟩
theorem row61 : (Try.prog.info? 61).map (fun i => (i.size, i.bytes)) = some (1, 24) := by kernel_rfl
instance : TUnd Try.prog 61 (.slice 27) := ⟨Try.underlying61⟩
instance : TSize Try.prog 62 1 := ⟨Try.sizeOf62⟩
instance : TAgg Try.prog 62 false := ⟨Try.isAgg62⟩
instance : TZero Try.prog 62 (Go.Value.nilFunc) := ⟨Try.zeroValue62⟩
theorem row62 : (Try.prog.info? 62).map (fun i => (i.size, i.bytes)) = some (1, 8) := by kernel_rfl
instance : TSize Try.prog 63 1 := ⟨Try.sizeOf63⟩
instance : TAgg Try.prog 63 false := ⟨Try.isAgg63⟩
instance : TZero Try.prog 63 (Go.Value.slice Option.none 0 0) := ⟨Try.zeroValue63⟩
theorem row63 : (Try.prog.info? 63).map (fun i => (i.size, i.bytes)) = some (1, 24) := by kernel_rfl
instance : TUnd Try.prog 63 (.slice 70) := ⟨Try.underlying63⟩
instance : TSize Try.prog 64 2 := ⟨Try.sizeOf64⟩
instance : TAgg Try.prog 64 true := ⟨Try.isAgg64⟩
def zc64 : Array Value :=  #[Go.Value.int Go.IntKind.i64 0, Go.Value.int Go.IntKind.i64 0]
theorem zc64_size : zc64.size = 2 := rfl
instance : TZero Try.prog 64 (.agg zc64) := ⟨Try.zeroValue64⟩
theorem row64 : (Try.prog.info? 64).map (fun i => (i.size, i.bytes)) = some (2, 16) := by kernel_rfl
instance : TUnd Try.prog 64 (.array 2 3) := ⟨Try.underlying64⟩
instance : TSize Try.prog 65 1 := ⟨Try.sizeOf65⟩
instance : TAgg Try.prog 65 false := ⟨Try.isAgg65⟩
instance : TZero Try.prog 65 (Go.Value.pointer Option.none) := ⟨Try.zeroValue65⟩
theorem row65 : (Try.prog.info? 65).map (fun i => (i.size, i.bytes)) = some (1, 8) := by kernel_rfl
instance : TUnd Try.prog 65 (.pointer 102) := ⟨Try.underlying65⟩
instance : TSize Try.prog 66 1 := ⟨Try.sizeOf66⟩
instance : TAgg Try.prog 66 false := ⟨Try.isAgg66⟩
instance : TZero Try.prog 66 (Go.Value.nilFunc) := ⟨Try.zeroValue66⟩
theorem row66 : (Try.prog.info? 66).map (fun i => (i.size, i.bytes)) = some (1, 8) := by kernel_rfl
instance : TSize Try.prog 67 1 := ⟨Try.sizeOf67⟩
instance : TAgg Try.prog 67 false := ⟨Try.isAgg67⟩
instance : TZero Try.prog 67 (Go.Value.pointer Option.none) := ⟨Try.zeroValue67⟩
theorem row67 : (Try.prog.info? 67).map (fun i => (i.size, i.bytes)) = some (1, 8) := by kernel_rfl
instance : TUnd Try.prog 67 (.pointer 88) := ⟨Try.underlying67⟩
instance : TSize Try.prog 68 1 := ⟨Try.sizeOf68⟩
instance : TAgg Try.prog 68 false := ⟨Try.isAgg68⟩
instance : TZero Try.prog 68 (Go.Value.nilFunc) := ⟨Try.zeroValue68⟩
theorem row68 : (Try.prog.info? 68).map (fun i => (i.size, i.bytes)) = some (1, 8) := by kernel_rfl
instance : TSize Try.prog 69 3 := ⟨Try.sizeOf69⟩
instance : TAgg Try.prog 69 true := ⟨Try.isAgg69⟩
def zc69 : Array Value :=  #[Go.Value.int Go.IntKind.u8 0, Go.Value.int Go.IntKind.i8 0, Go.Value.int Go.IntKind.u8 0]
theorem zc69_size : zc69.size = 3 := rfl
instance : TZero Try.prog 69 (.agg zc69) := ⟨Try.zeroValue69⟩
theorem row69 : (Try.prog.info? 69).map (fun i => (i.size, i.bytes)) = some (3, 3) := by kernel_rfl
instance : TFld Try.prog 69 0 0 5 1 := ⟨⟨_, _, Try.underlying69, rfl, rfl, rfl, Try.sizeOf5, by decide⟩⟩
instance : TFld Try.prog 69 1 1 27 1 := ⟨⟨_, _, Try.underlying69, rfl, rfl, rfl, Try.sizeOf27, by decide⟩⟩
instance : TFld Try.prog 69 2 2 5 1 := ⟨⟨_, _, Try.underlying69, rfl, rfl, rfl, Try.sizeOf5, by decide⟩⟩
instance : TBuild Try.prog 69 zc69 [(0, 1), (1, 1), (2, 1)] := ⟨fun _ => by kernel_rfl⟩
instance : TSize Try.prog 70 3 := ⟨Try.sizeOf70⟩
instance : TAgg Try.prog 70 true := ⟨Try.isAgg70⟩
def zc70 : Array Value :=  #[Go.Value.int Go.IntKind.u8 0, Go.Value.int Go.IntKind.i8 0, Go.Value.int Go.IntKind.u8 0]
theorem zc70_size : zc70.size = 3 := rfl
instance : TZero Try.prog 70 (.agg zc70) := ⟨Try.zeroValue70⟩
theorem row70 : (Try.prog.info? 70).map (fun i => (i.size, i.bytes)) = some (3, 3) := by kernel_rfl
instance : TFld Try.prog 70 0 0 5 1 := ⟨⟨_, _, Try.underlying70, rfl, rfl, rfl, Try.sizeOf5, by decide⟩⟩
instance : TFld Try.prog 70 1 1 27 1 := ⟨⟨_, _, Try.underlying70, rfl, rfl, rfl, Try.sizeOf27, by decide⟩⟩
instance : TFld Try.prog 70 2 2 5 1 := ⟨⟨_, _, Try.underlying70, rfl, rfl, rfl, Try.sizeOf5, by decide⟩⟩
instance : TBuild Try.prog 70 zc70 [(0, 1), (1, 1), (2, 1)] := ⟨fun _ => by kernel_rfl⟩
instance : TSize Try.prog 71 1 := ⟨Try.sizeOf71⟩
instance : TAgg Try.prog 71 false := ⟨Try.isAgg71⟩
instance : TZero Try.prog 71 (Go.Value.nilFunc) := ⟨Try.zeroValue71⟩
theorem row71 : (Try.prog.info? 71).map (fun i => (i.size, i.bytes)) = some (1, 8) := by kernel_rfl
instance : TSize Try.prog 72 1 := ⟨Try.sizeOf72⟩
instance : TAgg Try.prog 72 false := ⟨Try.isAgg72⟩
instance : TZero Try.prog 72 (Go.Value.nilFunc) := ⟨Try.zeroValue72⟩
theorem row72 : (Try.prog.info? 72).map (fun i => (i.size, i.bytes)) = some (1, 8) := by kernel_rfl
instance : TSize Try.prog 73 1 := ⟨Try.sizeOf73⟩
instance : TAgg Try.prog 73 false := ⟨Try.isAgg73⟩
instance : TZero Try.prog 73 (Go.Value.nilFunc) := ⟨Try.zeroValue73⟩
theorem row73 : (Try.prog.info? 73).map (fun i => (i.size, i.bytes)) = some (1, 8) := by kernel_rfl
instance : TSize Try.prog 74 1 := ⟨Try.sizeOf74⟩
instance : TAgg Try.prog 74 false := ⟨Try.isAgg74⟩
instance : TZero Try.prog 74 (Go.Value.nilFunc) := ⟨Try.zeroValue74⟩
theorem row74 : (Try.prog.info? 74).map (fun i => (i.size, i.bytes)) = some (1, 8) := by kernel_rfl
instance : TSize Try.prog 75 1 := ⟨Try.sizeOf75⟩
instance : TAgg Try.prog 75 false := ⟨Try.isAgg75⟩
instance : TZero Try.prog 75 (Go.Value.pointer Option.none) := ⟨Try.zeroValue75⟩
theorem row75 : (Try.prog.info? 75).map (fun i => (i.size, i.bytes)) = some (1, 8) := by kernel_rfl
instance : TUnd Try.prog 75 (.pointer 78) := ⟨Try.underlying75⟩
instance : TSize Try.prog 76 1 := ⟨Try.sizeOf76⟩
instance : TAgg Try.prog 76 false := ⟨Try.isAgg76⟩
instance : TZero Try.prog 76 (Go.Value.map Option.none) := ⟨Try.zeroValue76⟩
theorem row76 : (Try.prog.info? 76).map (fun i => (i.size, i.bytes)) = some (1, 8) := by kernel_rfl
instance : TUnd Try.prog 76 (.map 3 3) := ⟨Try.underlying76⟩
instance : TSize Try.prog 77 4 := ⟨Try.sizeOf77⟩
instance : TAgg Try.prog 77 true := ⟨Try.isAgg77⟩
def zc77 : Array Value :=  #[Go.Value.int Go.IntKind.i64 0, Go.Value.slice Option.none 0 0, Go.Value.slice Option.none 0 0, Go.Value.map Option.none]
theorem zc77_size : zc77.size = 4 := rfl
instance : TZero Try.prog 77 (.agg zc77) := ⟨Try.zeroValue77⟩
theorem row77 : (Try.prog.info? 77).map (fun i => (i.size, i.bytes)) = some (4, 64) := by kernel_rfl
instance : TFld Try.prog 77 0 0 3 1 := ⟨⟨_, _, Try.underlying77, rfl, rfl, rfl, Try.sizeOf3, by decide⟩⟩
instance : TFld Try.prog 77 1 1 39 1 := ⟨⟨_, _, Try.underlying77, rfl, rfl, rfl, Try.sizeOf39, by decide⟩⟩
instance : TFld Try.prog 77 2 2 31 1 := ⟨⟨_, _, Try.underlying77, rfl, rfl, rfl, Try.sizeOf31, by decide⟩⟩
instance : TFld Try.prog 77 3 3 76 1 := ⟨⟨_, _, Try.underlying77, rfl, rfl, rfl, Try.sizeOf76, by decide⟩⟩
instance : TBuild Try.prog 77 zc77 [(0, 1), (1, 1), (2, 1), (3, 1)] := ⟨fun _ => by kernel_rfl⟩
instance : TSize Try.prog 78 4 := ⟨Try.sizeOf78⟩
instance : TAgg Try.prog 78 true := ⟨Try.isAgg78⟩
def zc78 : Array Value :=  #[Go.Value.int Go.IntKind.i64 0, Go.Value.slice Option.none 0 0, Go.Value.slice Option.none 0 0, Go.Value.map Option.none]
theorem zc78_size : zc78.size = 4 := rfl
instance : TZero Try.prog 78 (.agg zc78) := ⟨Try.zeroValue78⟩
theorem row78 : (Try.prog.info? 78).map (fun i => (i.size, i.bytes)) = some (4, 64) := by kernel_rfl
instance : TFld Try.prog 78 0 0 3 1 := ⟨⟨_, _, Try.underlying78, rfl, rfl, rfl, Try.sizeOf3, by decide⟩⟩
instance : TFld Try.prog 78 1 1 39 1 := ⟨⟨_, _, Try.underlying78, rfl, rfl, rfl, Try.sizeOf39, by decide⟩⟩
instance : TFld Try.prog 78 2 2 31 1 := ⟨⟨_, _, Try.underlying78, rfl, rfl, rfl, Try.sizeOf31, by decide⟩⟩
instance : TFld Try.prog 78 3 3 76 1 := ⟨⟨_, _, Try.underlying78, rfl, rfl, rfl, Try.sizeOf76, by decide⟩⟩
instance : TBuild Try.prog 78 zc78 [(0, 1), (1, 1), (2, 1), (3, 1)] := ⟨fun _ => by kernel_rfl⟩
instance : TSize Try.prog 79 1 := ⟨Try.sizeOf79⟩
instance : TAgg Try.prog 79 false := ⟨Try.isAgg79⟩
instance : TZero Try.prog 79 (Go.Value.nilFunc) := ⟨Try.zeroValue79⟩
theorem row79 : (Try.prog.info? 79).map (fun i => (i.size, i.bytes)) = some (1, 8) := by kernel_rfl
instance : TSize Try.prog 80 1 := ⟨Try.sizeOf80⟩
instance : TAgg Try.prog 80 false := ⟨Try.isAgg80⟩
instance : TZero Try.prog 80 (Go.Value.nilFunc) := ⟨Try.zeroValue80⟩
theorem row80 : (Try.prog.info? 80).map (fun i => (i.size, i.bytes)) = some (1, 8) := by kernel_rfl
instance : TSize Try.prog 81 1 := ⟨Try.sizeOf81⟩
instance : TAgg Try.prog 81 false := ⟨Try.isAgg81⟩
instance : TZero Try.prog 81 (Go.Value.nilFunc) := ⟨Try.zeroValue81⟩
theorem row81 : (Try.prog.info? 81).map (fun i => (i.size, i.bytes)) = some (1, 8) := by kernel_rfl
instance : TSize Try.prog 82 1 := ⟨Try.sizeOf82⟩
instance : TAgg Try.prog 82 false := ⟨Try.isAgg82⟩
instance : TZero Try.prog 82 (Go.Value.nilFunc) := ⟨Try.zeroValue82⟩
theorem row82 : (Try.prog.info? 82).map (fun i => (i.size, i.bytes)) = some (1, 8) := by kernel_rfl
instance : TSize Try.prog 83 1 := ⟨Try.sizeOf83⟩
instance : TAgg Try.prog 83 false := ⟨Try.isAgg83⟩
instance : TZero Try.prog 83 (Go.Value.nilFunc) := ⟨Try.zeroValue83⟩
theorem row83 : (Try.prog.info? 83).map (fun i => (i.size, i.bytes)) = some (1, 8) := by kernel_rfl
instance : TSize Try.prog 84 1 := ⟨Try.sizeOf84⟩
instance : TAgg Try.prog 84 false := ⟨Try.isAgg84⟩
instance : TZero Try.prog 84 (Go.Value.nilFunc) := ⟨Try.zeroValue84⟩
theorem row84 : (Try.prog.info? 84).map (fun i => (i.size, i.bytes)) = some (1, 8) := by kernel_rfl
instance : TSize Try.prog 85 1 := ⟨Try.sizeOf85⟩
instance : TAgg Try.prog 85 false := ⟨Try.isAgg85⟩
instance : TZero Try.prog 85 (Go.Value.nilFunc) := ⟨Try.zeroValue85⟩
theorem row85 : (Try.prog.info? 85).map (fun i => (i.size, i.bytes)) = some (1, 8) := by kernel_rfl
instance : TSize Try.prog 86 1 := ⟨Try.sizeOf86⟩
instance : TAgg Try.prog 86 false := ⟨Try.isAgg86⟩
instance : TZero Try.prog 86 (Go.Value.slice Option.none 0 0) := ⟨Try.zeroValue86⟩
theorem row86 : (Try.prog.info? 86).map (fun i => (i.size, i.bytes)) = some (1, 24) := by kernel_rfl
instance : TUnd Try.prog 86 (.slice 31) := ⟨Try.underlying86⟩
instance : TSize Try.prog 87 1 := ⟨Try.sizeOf87⟩
instance : TAgg Try.prog 87 true := ⟨Try.isAgg87⟩
def zc87 : Array Value :=  #[Go.Value.slice Option.none 0 0]
theorem zc87_size : zc87.size = 1 := rfl
instance : TZero Try.prog 87 (.agg zc87) := ⟨Try.zeroValue87⟩
theorem row87 : (Try.prog.info? 87).map (fun i => (i.size, i.bytes)) = some (1, 24) := by kernel_rfl
instance : TFld Try.prog 87 0 0 86 1 := ⟨⟨_, _, Try.underlying87, rfl, rfl, rfl, Try.sizeOf86, by decide⟩⟩
instance : TBuild Try.prog 87 zc87 [(0, 1)] := ⟨fun _ => by kernel_rfl⟩
instance : TSize Try.prog 88 1 := ⟨Try.sizeOf88⟩
instance : TAgg Try.prog 88 true := ⟨Try.isAgg88⟩
def zc88 : Array Value :=  #[Go.Value.slice Option.none 0 0]
theorem zc88_size : zc88.size = 1 := rfl
instance : TZero Try.prog 88 (.agg zc88) := ⟨Try.zeroValue88⟩
theorem row88 : (Try.prog.info? 88).map (fun i => (i.size, i.bytes)) = some (1, 24) := by kernel_rfl
instance : TFld Try.prog 88 0 0 86 1 := ⟨⟨_, _, Try.underlying88, rfl, rfl, rfl, Try.sizeOf86, by decide⟩⟩
instance : TBuild Try.prog 88 zc88 [(0, 1)] := ⟨fun _ => by kernel_rfl⟩
instance : TSize Try.prog 89 1 := ⟨Try.sizeOf89⟩
instance : TAgg Try.prog 89 false := ⟨Try.isAgg89⟩
instance : TZero Try.prog 89 (Go.Value.nilFunc) := ⟨Try.zeroValue89⟩
theorem row89 : (Try.prog.info? 89).map (fun i => (i.size, i.bytes)) = some (1, 8) := by kernel_rfl
instance : TSize Try.prog 90 1 := ⟨Try.sizeOf90⟩
instance : TAgg Try.prog 90 false := ⟨Try.isAgg90⟩
instance : TZero Try.prog 90 (Go.Value.slice Option.none 0 0) := ⟨Try.zeroValue90⟩
theorem row90 : (Try.prog.info? 90).map (fun i => (i.size, i.bytes)) = some (1, 24) := by kernel_rfl
instance : TUnd Try.prog 90 (.slice 39) := ⟨Try.underlying90⟩
instance : TSize Try.prog 91 1 := ⟨Try.sizeOf91⟩
instance : TAgg Try.prog 91 false := ⟨Try.isAgg91⟩
instance : TZero Try.prog 91 (Go.Value.nilFunc) := ⟨Try.zeroValue91⟩
theorem row91 : (Try.prog.info? 91).map (fun i => (i.size, i.bytes)) = some (1, 8) := by kernel_rfl
instance : TSize Try.prog 92 1 := ⟨Try.sizeOf92⟩
instance : TAgg Try.prog 92 false := ⟨Try.isAgg92⟩
instance : TZero Try.prog 92 (Go.Value.nilFunc) := ⟨Try.zeroValue92⟩
theorem row92 : (Try.prog.info? 92).map (fun i => (i.size, i.bytes)) = some (1, 8) := by kernel_rfl
instance : TSize Try.prog 93 384 := ⟨Try.sizeOf93⟩
instance : TAgg Try.prog 93 true := ⟨Try.isAgg93⟩
instance : TZero Try.prog 93 (Go.Value.agg Go.Proofs.Try.zeroCells93) := ⟨Try.zeroValue93⟩
theorem row93 : (Try.prog.info? 93).map (fun i => (i.size, i.bytes)) = some (384, 3328) := by kernel_rfl
instance : TUnd Try.prog 93 (.array 16 48) := ⟨Try.underlying93⟩
instance : TSize Try.prog 94 389 := ⟨Try.sizeOf94⟩
instance : TAgg Try.prog 94 true := ⟨Try.isAgg94⟩
instance : TZero Try.prog 94 (Go.Value.agg Go.Proofs.Try.zeroCells94) := ⟨Try.zeroValue94⟩
theorem row94 : (Try.prog.info? 94).map (fun i => (i.size, i.bytes)) = some (389, 3368) := by kernel_rfl
instance : TFld Try.prog 94 0 0 93 384 := ⟨⟨_, _, Try.underlying94, rfl, rfl, rfl, Try.sizeOf93, by decide⟩⟩
instance : TFld Try.prog 94 1 384 3 1 := ⟨⟨_, _, Try.underlying94, rfl, rfl, rfl, Try.sizeOf3, by decide⟩⟩
instance : TFld Try.prog 94 2 385 3 1 := ⟨⟨_, _, Try.underlying94, rfl, rfl, rfl, Try.sizeOf3, by decide⟩⟩
instance : TFld Try.prog 94 3 386 3 1 := ⟨⟨_, _, Try.underlying94, rfl, rfl, rfl, Try.sizeOf3, by decide⟩⟩
instance : TFld Try.prog 94 4 387 30 1 := ⟨⟨_, _, Try.underlying94, rfl, rfl, rfl, Try.sizeOf30, by decide⟩⟩
instance : TFld Try.prog 94 5 388 3 1 := ⟨⟨_, _, Try.underlying94, rfl, rfl, rfl, Try.sizeOf3, by decide⟩⟩
instance : TBuild Try.prog 94 Try.zeroCells94 [(0, 384), (384, 1), (385, 1), (386, 1), (387, 1), (388, 1)] := ⟨fun _ => by kernel_rfl⟩
instance : TSize Try.prog 95 389 := ⟨Try.sizeOf95⟩
instance : TAgg Try.prog 95 true := ⟨Try.isAgg95⟩
instance : TZero Try.prog 95 (Go.Value.agg Go.Proofs.Try.zeroCells95) := ⟨Try.zeroValue95⟩
theorem row95 : (Try.prog.info? 95).map (fun i => (i.size, i.bytes)) = some (389, 3368) := by kernel_rfl
instance : TFld Try.prog 95 0 0 93 384 := ⟨⟨_, _, Try.underlying95, rfl, rfl, rfl, Try.sizeOf93, by decide⟩⟩
instance : TFld Try.prog 95 1 384 3 1 := ⟨⟨_, _, Try.underlying95, rfl, rfl, rfl, Try.sizeOf3, by decide⟩⟩
instance : TFld Try.prog 95 2 385 3 1 := ⟨⟨_, _, Try.underlying95, rfl, rfl, rfl, Try.sizeOf3, by decide⟩⟩
instance : TFld Try.prog 95 3 386 3 1 := ⟨⟨_, _, Try.underlying95, rfl, rfl, rfl, Try.sizeOf3, by decide⟩⟩
instance : TFld Try.prog 95 4 387 30 1 := ⟨⟨_, _, Try.underlying95, rfl, rfl, rfl, Try.sizeOf30, by decide⟩⟩
instance : TFld Try.prog 95 5 388 3 1 := ⟨⟨_, _, Try.underlying95, rfl, rfl, rfl, Try.sizeOf3, by decide⟩⟩
instance : TBuild Try.prog 95 Try.zeroCells95 [(0, 384), (384, 1), (385, 1), (386, 1), (387, 1), (388, 1)] := ⟨fun _ => by kernel_rfl⟩
instance : TSize Try.prog 96 1 := ⟨Try.sizeOf96⟩
instance : TAgg Try.prog 96 false := ⟨Try.isAgg96⟩
instance : TZero Try.prog 96 (Go.Value.pointer Option.none) := ⟨Try.zeroValue96⟩
theorem row96 : (Try.prog.info? 96).map (fun i => (i.size, i.bytes)) = some (1, 8) := by kernel_rfl
instance : TUnd Try.prog 96 (.pointer 48) := ⟨Try.underlying96⟩
instance : TSize Try.prog 97 1 := ⟨Try.sizeOf97⟩
instance : TAgg Try.prog 97 false := ⟨Try.isAgg97⟩
instance : TZero Try.prog 97 (Go.Value.nilFunc) := ⟨Try.zeroValue97⟩
theorem row97 : (Try.prog.info? 97).map (fun i => (i.size, i.bytes)) = some (1, 8) := by kernel_rfl
instance : TSize Try.prog 98 1 := ⟨Try.sizeOf98⟩
instance : TAgg Try.prog 98 false := ⟨Try.isAgg98⟩
instance : TZero Try.prog 98 (Go.Value.nilFunc) := ⟨Try.zeroValue98⟩
theorem row98 : (Try.prog.info? 98).map (fun i => (i.size, i.bytes)) = some (1, 8) := by kernel_rfl
instance : TSize Try.prog 99 1 := ⟨Try.sizeOf99⟩
instance : TAgg Try.prog 99 false := ⟨Try.isAgg99⟩
instance : TZero Try.prog 99 (Go.Value.nilFunc) := ⟨Try.zeroValue99⟩
theorem row99 : (Try.prog.info? 99).map (fun i => (i.size, i.bytes)) = some (1, 8) := by kernel_rfl
instance : TSize Try.prog 100 1 := ⟨Try.sizeOf100⟩
instance : TAgg Try.prog 100 false := ⟨Try.isAgg100⟩
instance : TZero Try.prog 100 (Go.Value.nilFunc) := ⟨Try.zeroValue100⟩
theorem row100 : (Try.prog.info? 100).map (fun i => (i.size, i.bytes)) = some (1, 8) := by kernel_rfl
instance : TSize Try.prog 101 1 := ⟨Try.sizeOf101⟩
instance : TAgg Try.prog 101 true := ⟨Try.isAgg101⟩
def zc101 : Array Value :=  #[Go.Value.slice Option.none 0 0]
theorem zc101_size : zc101.size = 1 := rfl
instance : TZero Try.prog 101 (.agg zc101) := ⟨Try.zeroValue101⟩
theorem row101 : (Try.prog.info? 101).map (fun i => (i.size, i.bytes)) = some (1, 24) := by kernel_rfl
instance : TFld Try.prog 101 0 0 86 1 := ⟨⟨_, _, Try.underlying101, rfl, rfl, rfl, Try.sizeOf86, by decide⟩⟩
instance : TBuild Try.prog 101 zc101 [(0, 1)] := ⟨fun _ => by kernel_rfl⟩
instance : TSize Try.prog 102 1 := ⟨Try.sizeOf102⟩
instance : TAgg Try.prog 102 true := ⟨Try.isAgg102⟩
def zc102 : Array Value :=  #[Go.Value.slice Option.none 0 0]
theorem zc102_size : zc102.size = 1 := rfl
instance : TZero Try.prog 102 (.agg zc102) := ⟨Try.zeroValue102⟩
theorem row102 : (Try.prog.info? 102).map (fun i => (i.size, i.bytes)) = some (1, 24) := by kernel_rfl
instance : TFld Try.prog 102 0 0 86 1 := ⟨⟨_, _, Try.underlying102, rfl, rfl, rfl, Try.sizeOf86, by decide⟩⟩
instance : TBuild Try.prog 102 zc102 [(0, 1)] := ⟨fun _ => by kernel_rfl⟩
instance : TSize Try.prog 103 1 := ⟨Try.sizeOf103⟩
instance : TAgg Try.prog 103 false := ⟨Try.isAgg103⟩
instance : TZero Try.prog 103 (Go.Value.nilFunc) := ⟨Try.zeroValue103⟩
theorem row103 : (Try.prog.info? 103).map (fun i => (i.size, i.bytes)) = some (1, 8) := by kernel_rfl
instance : TSize Try.prog 104 1 := ⟨Try.sizeOf104⟩
instance : TAgg Try.prog 104 false := ⟨Try.isAgg104⟩
instance : TZero Try.prog 104 (Go.Value.pointer Option.none) := ⟨Try.zeroValue104⟩
theorem row104 : (Try.prog.info? 104).map (fun i => (i.size, i.bytes)) = some (1, 8) := by kernel_rfl
instance : TUnd Try.prog 104 (.pointer 106) := ⟨Try.underlying104⟩
instance : TSize Try.prog 105 2 := ⟨Try.sizeOf105⟩
instance : TAgg Try.prog 105 true := ⟨Try.isAgg105⟩
def zc105 : Array Value :=  #[Go.Value.nilFunc, Go.Value.int Go.IntKind.i64 0]
theorem zc105_size : zc105.size = 2 := rfl
instance : TZero Try.prog 105 (.agg zc105) := ⟨Try.zeroValue105⟩
theorem row105 : (Try.prog.info? 105).map (fun i => (i.size, i.bytes)) = some (2, 16) := by kernel_rfl
instance : TFld Try.prog 105 0 0 81 1 := ⟨⟨_, _, Try.underlying105, rfl, rfl, rfl, Try.sizeOf81, by decide⟩⟩
instance : TFld Try.prog 105 1 1 3 1 := ⟨⟨_, _, Try.underlying105, rfl, rfl, rfl, Try.sizeOf3, by decide⟩⟩
instance : TBuild Try.prog 105 zc105 [(0, 1), (1, 1)] := ⟨fun _ => by kernel_rfl⟩
instance : TSize Try.prog 106 2 := ⟨Try.sizeOf106⟩
instance : TAgg Try.prog 106 true := ⟨Try.isAgg106⟩
def zc106 : Array Value :=  #[Go.Value.nilFunc, Go.Value.int Go.IntKind.i64 0]
theorem zc106_size : zc106.size = 2 := rfl
instance : TZero Try.prog 106 (.agg zc106) := ⟨Try.zeroValue106⟩
theorem row106 : (Try.prog.info? 106).map (fun i => (i.size, i.bytes)) = some (2, 16) := by kernel_rfl
instance : TFld Try.prog 106 0 0 81 1 := ⟨⟨_, _, Try.underlying106, rfl, rfl, rfl, Try.sizeOf81, by decide⟩⟩
instance : TFld Try.prog 106 1 1 3 1 := ⟨⟨_, _, Try.underlying106, rfl, rfl, rfl, Try.sizeOf3, by decide⟩⟩
instance : TBuild Try.prog 106 zc106 [(0, 1), (1, 1)] := ⟨fun _ => by kernel_rfl⟩
instance : TSize Try.prog 107 1 := ⟨Try.sizeOf107⟩
instance : TAgg Try.prog 107 false := ⟨Try.isAgg107⟩
instance : TZero Try.prog 107 (Go.Value.nilFunc) := ⟨Try.zeroValue107⟩
theorem row107 : (Try.prog.info? 107).map (fun i => (i.size, i.bytes)) = some (1, 8) := by kernel_rfl
instance : TSize Try.prog 108 1 := ⟨Try.sizeOf108⟩
instance : TAgg Try.prog 108 false := ⟨Try.isAgg108⟩
instance : TZero Try.prog 108 (Go.Value.nilFunc) := ⟨Try.zeroValue108⟩
theorem row108 : (Try.prog.info? 108).map (fun i => (i.size, i.bytes)) = some (1, 8) := by kernel_rfl
instance : TSize Try.prog 109 1 := ⟨Try.sizeOf109⟩
instance : TAgg Try.prog 109 false := ⟨Try.isAgg109⟩
instance : TZero Try.prog 109 (Go.Value.nilFunc) := ⟨Try.zeroValue109⟩
theorem row109 : (Try.prog.info? 109).map (fun i => (i.size, i.bytes)) = some (1, 8) := by kernel_rfl
instance : TSize Try.prog 110 1 := ⟨Try.sizeOf110⟩
instance : TAgg Try.prog 110 true := ⟨Try.isAgg110⟩
def zc110 : Array Value :=  #[Go.Value.int Go.IntKind.i64 0]
theorem zc110_size : zc110.size = 1 := rfl
instance : TZero Try.prog 110 (.agg zc110) := ⟨Try.zeroValue110⟩
theorem row110 : (Try.prog.info? 110).map (fun i => (i.size, i.bytes)) = some (1, 8) := by kernel_rfl
instance : TFld Try.prog 110 0 0 3 1 := ⟨⟨_, _, Try.underlying110, rfl, rfl, rfl, Try.sizeOf3, by decide⟩⟩
instance : TBuild Try.prog 110 zc110 [(0, 1)] := ⟨fun _ => by kernel_rfl⟩
instance : TSize Try.prog 111 1 := ⟨Try.sizeOf111⟩
instance : TAgg Try.prog 111 true := ⟨Try.isAgg111⟩
def zc111 : Array Value :=  #[Go.Value.int Go.IntKind.i64 0]
theorem zc111_size : zc111.size = 1 := rfl
instance : TZero Try.prog 111 (.agg zc111) := ⟨Try.zeroValue111⟩
theorem row111 : (Try.prog.info? 111).map (fun i => (i.size, i.bytes)) = some (1, 8) := by kernel_rfl
instance : TFld Try.prog 111 0 0 3 1 := ⟨⟨_, _, Try.underlying111, rfl, rfl, rfl, Try.sizeOf3, by decide⟩⟩
instance : TBuild Try.prog 111 zc111 [(0, 1)] := ⟨fun _ => by kernel_rfl⟩
instance : TSize Try.prog 112 1 := ⟨Try.sizeOf112⟩
instance : TAgg Try.prog 112 false := ⟨Try.isAgg112⟩
instance : TZero Try.prog 112 (Go.Value.nilFunc) := ⟨Try.zeroValue112⟩
theorem row112 : (Try.prog.info? 112).map (fun i => (i.size, i.bytes)) = some (1, 8) := by kernel_rfl
instance : TSize Try.prog 113 1 := ⟨Try.sizeOf113⟩
instance : TAgg Try.prog 113 false := ⟨Try.isAgg113⟩
instance : TZero Try.prog 113 (Go.Value.nilFunc) := ⟨Try.zeroValue113⟩
theorem row113 : (Try.prog.info? 113).map (fun i => (i.size, i.bytes)) = some (1, 8) := by kernel_rfl
instance : TSize Try.prog 114 1 := ⟨Try.sizeOf114⟩
instance : TAgg Try.prog 114 false := ⟨Try.isAgg114⟩
instance : TZero Try.prog 114 (Go.Value.nilFunc) := ⟨Try.zeroValue114⟩
theorem row114 : (Try.prog.info? 114).map (fun i => (i.size, i.bytes)) = some (1, 8) := by kernel_rfl
instance : TSize Try.prog 115 1 := ⟨Try.sizeOf115⟩
instance : TAgg Try.prog 115 false := ⟨Try.isAgg115⟩
instance : TZero Try.prog 115 (Go.Value.nilFunc) := ⟨Try.zeroValue115⟩
theorem row115 : (Try.prog.info? 115).map (fun i => (i.size, i.bytes)) = some (1, 8) := by kernel_rfl
instance : TSize Try.prog 116 1 := ⟨Try.sizeOf116⟩
instance : TAgg Try.prog 116 false := ⟨Try.isAgg116⟩
instance : TZero Try.prog 116 (Go.Value.nilFunc) := ⟨Try.zeroValue116⟩
theorem row116 : (Try.prog.info? 116).map (fun i => (i.size, i.bytes)) = some (1, 8) := by kernel_rfl
instance : TSize Try.prog 117 1 := ⟨Try.sizeOf117⟩
instance : TAgg Try.prog 117 false := ⟨Try.isAgg117⟩
instance : TZero Try.prog 117 (Go.Value.nilFunc) := ⟨Try.zeroValue117⟩
theorem row117 : (Try.prog.info? 117).map (fun i => (i.size, i.bytes)) = some (1, 8) := by kernel_rfl
instance : TSize Try.prog 118 1 := ⟨Try.sizeOf118⟩
instance : TAgg Try.prog 118 false := ⟨Try.isAgg118⟩
instance : TZero Try.prog 118 (Go.Value.nilFunc) := ⟨Try.zeroValue118⟩
theorem row118 : (Try.prog.info? 118).map (fun i => (i.size, i.bytes)) = some (1, 8) := by kernel_rfl
instance : TSize Try.prog 119 1 := ⟨Try.sizeOf119⟩
instance : TAgg Try.prog 119 false := ⟨Try.isAgg119⟩
instance : TZero Try.prog 119 (Go.Value.nilFunc) := ⟨Try.zeroValue119⟩
theorem row119 : (Try.prog.info? 119).map (fun i => (i.size, i.bytes)) = some (1, 8) := by kernel_rfl
instance : TSize Try.prog 120 1 := ⟨Try.sizeOf120⟩
instance : TAgg Try.prog 120 false := ⟨Try.isAgg120⟩
instance : TZero Try.prog 120 (Go.Value.nilFunc) := ⟨Try.zeroValue120⟩
theorem row120 : (Try.prog.info? 120).map (fun i => (i.size, i.bytes)) = some (1, 8) := by kernel_rfl
instance : TSize Try.prog 121 5 := ⟨Try.sizeOf121⟩
instance : TAgg Try.prog 121 true := ⟨Try.isAgg121⟩
def zc121 : Array Value :=  #[Go.Value.int Go.IntKind.i64 0, Go.Value.int Go.IntKind.i64 0, Go.Value.int Go.IntKind.u64 0, Go.Value.int Go.IntKind.i64 0, Go.Value.int Go.IntKind.i64 0]
theorem zc121_size : zc121.size = 5 := rfl
instance : TZero Try.prog 121 (.agg zc121) := ⟨Try.zeroValue121⟩
theorem row121 : (Try.prog.info? 121).map (fun i => (i.size, i.bytes)) = some (5, 40) := by kernel_rfl
instance : TFld Try.prog 121 0 0 2 1 := ⟨⟨_, _, Try.underlying121, rfl, rfl, rfl, Try.sizeOf2, by decide⟩⟩
instance : TFld Try.prog 121 1 1 2 1 := ⟨⟨_, _, Try.underlying121, rfl, rfl, rfl, Try.sizeOf2, by decide⟩⟩
instance : TFld Try.prog 121 2 2 30 1 := ⟨⟨_, _, Try.underlying121, rfl, rfl, rfl, Try.sizeOf30, by decide⟩⟩
instance : TFld Try.prog 121 3 3 2 1 := ⟨⟨_, _, Try.underlying121, rfl, rfl, rfl, Try.sizeOf2, by decide⟩⟩
instance : TFld Try.prog 121 4 4 2 1 := ⟨⟨_, _, Try.underlying121, rfl, rfl, rfl, Try.sizeOf2, by decide⟩⟩
instance : TBuild Try.prog 121 zc121 [(0, 1), (1, 1), (2, 1), (3, 1), (4, 1)] := ⟨fun _ => by kernel_rfl⟩
instance : TSize Try.prog 122 5 := ⟨Try.sizeOf122⟩
instance : TAgg Try.prog 122 true := ⟨Try.isAgg122⟩
def zc122 : Array Value :=  #[Go.Value.int Go.IntKind.i64 0, Go.Value.int Go.IntKind.i64 0, Go.Value.int Go.IntKind.u64 0, Go.Value.int Go.IntKind.i64 0, Go.Value.int Go.IntKind.i64 0]
theorem zc122_size : zc122.size = 5 := rfl
instance : TZero Try.prog 122 (.agg zc122) := ⟨Try.zeroValue122⟩
theorem row122 : (Try.prog.info? 122).map (fun i => (i.size, i.bytes)) = some (5, 40) := by kernel_rfl
instance : TFld Try.prog 122 0 0 2 1 := ⟨⟨_, _, Try.underlying122, rfl, rfl, rfl, Try.sizeOf2, by decide⟩⟩
instance : TFld Try.prog 122 1 1 2 1 := ⟨⟨_, _, Try.underlying122, rfl, rfl, rfl, Try.sizeOf2, by decide⟩⟩
instance : TFld Try.prog 122 2 2 30 1 := ⟨⟨_, _, Try.underlying122, rfl, rfl, rfl, Try.sizeOf30, by decide⟩⟩
instance : TFld Try.prog 122 3 3 2 1 := ⟨⟨_, _, Try.underlying122, rfl, rfl, rfl, Try.sizeOf2, by decide⟩⟩
instance : TFld Try.prog 122 4 4 2 1 := ⟨⟨_, _, Try.underlying122, rfl, rfl, rfl, Try.sizeOf2, by decide⟩⟩
instance : TBuild Try.prog 122 zc122 [(0, 1), (1, 1), (2, 1), (3, 1), (4, 1)] := ⟨fun _ => by kernel_rfl⟩
instance : TSize Try.prog 123 10 := ⟨Try.sizeOf123⟩
instance : TAgg Try.prog 123 true := ⟨Try.isAgg123⟩
def zc123 : Array Value :=  #[Go.Value.int Go.IntKind.i64 0, Go.Value.int Go.IntKind.u32 0, Go.Value.int Go.IntKind.i64 0, Go.Value.int Go.IntKind.i64 0, Go.Value.int Go.IntKind.u8 0, Go.Value.int Go.IntKind.i64 0, Go.Value.int Go.IntKind.i64 0, Go.Value.int Go.IntKind.u64 0, Go.Value.int Go.IntKind.i64 0, Go.Value.int Go.IntKind.i64 0]
theorem zc123_size : zc123.size = 10 := rfl
instance : TZero Try.prog 123 (.agg zc123) := ⟨Try.zeroValue123⟩
theorem row123 : (Try.prog.info? 123).map (fun i => (i.size, i.bytes)) = some (10, 80) := by kernel_rfl
instance : TFld Try.prog 123 0 0 3 1 := ⟨⟨_, _, Try.underlying123, rfl, rfl, rfl, Try.sizeOf3, by decide⟩⟩
instance : TFld Try.prog 123 1 1 36 1 := ⟨⟨_, _, Try.underlying123, rfl, rfl, rfl, Try.sizeOf36, by decide⟩⟩
instance : TFld Try.prog 123 2 2 2 1 := ⟨⟨_, _, Try.underlying123, rfl, rfl, rfl, Try.sizeOf2, by decide⟩⟩
instance : TFld Try.prog 123 3 3 2 1 := ⟨⟨_, _, Try.underlying123, rfl, rfl, rfl, Try.sizeOf2, by decide⟩⟩
instance : TFld Try.prog 123 4 4 5 1 := ⟨⟨_, _, Try.underlying123, rfl, rfl, rfl, Try.sizeOf5, by decide⟩⟩
instance : TFld Try.prog 123 5 5 122 5 := ⟨⟨_, _, Try.underlying123, rfl, rfl, rfl, Try.sizeOf122, by decide⟩⟩
instance : TBuild Try.prog 123 zc123 [(0, 1), (1, 1), (2, 1), (3, 1), (4, 1), (5, 5)] := ⟨fun _ => by kernel_rfl⟩
instance : TSize Try.prog 124 10 := ⟨Try.sizeOf124⟩
instance : TAgg Try.prog 124 true := ⟨Try.isAgg124⟩
def zc124 : Array Value :=  #[Go.Value.int Go.IntKind.i64 0, Go.Value.int Go.IntKind.u32 0, Go.Value.int Go.IntKind.i64 0, Go.Value.int Go.IntKind.i64 0, Go.Value.int Go.IntKind.u8 0, Go.Value.int Go.IntKind.i64 0, Go.Value.int Go.IntKind.i64 0, Go.Value.int Go.IntKind.u64 0, Go.Value.int Go.IntKind.i64 0, Go.Value.int Go.IntKind.i64 0]
theorem zc124_size : zc124.size = 10 := rfl
instance : TZero Try.prog 124 (.agg zc124) := ⟨Try.zeroValue124⟩
theorem row124 : (Try.prog.info? 124).map (fun i => (i.size, i.bytes)) = some (10, 80) := by kernel_rfl
instance : TFld Try.prog 124 0 0 3 1 := ⟨⟨_, _, Try.underlying124, rfl, rfl, rfl, Try.sizeOf3, by decide⟩⟩
instance : TFld Try.prog 124 1 1 36 1 := ⟨⟨_, _, Try.underlying124, rfl, rfl, rfl, Try.sizeOf36, by decide⟩⟩
instance : TFld Try.prog 124 2 2 2 1 := ⟨⟨_, _, Try.underlying124, rfl, rfl, rfl, Try.sizeOf2, by decide⟩⟩
instance : TFld Try.prog 124 3 3 2 1 := ⟨⟨_, _, Try.underlying124, rfl, rfl, rfl, Try.sizeOf2, by decide⟩⟩
instance : TFld Try.prog 124 4 4 5 1 := ⟨⟨_, _, Try.underlying124, rfl, rfl, rfl, Try.sizeOf5, by decide⟩⟩
instance : TFld Try.prog 124 5 5 122 5 := ⟨⟨_, _, Try.underlying124, rfl, rfl, rfl, Try.sizeOf122, by decide⟩⟩
instance : TBuild Try.prog 124 zc124 [(0, 1), (1, 1), (2, 1), (3, 1), (4, 1), (5, 5)] := ⟨fun _ => by kernel_rfl⟩
instance : TSize Try.prog 125 1 := ⟨Try.sizeOf125⟩
instance : TAgg Try.prog 125 false := ⟨Try.isAgg125⟩
instance : TZero Try.prog 125 (Go.Value.nilFunc) := ⟨Try.zeroValue125⟩
theorem row125 : (Try.prog.info? 125).map (fun i => (i.size, i.bytes)) = some (1, 8) := by kernel_rfl
instance : TSize Try.prog 126 1 := ⟨Try.sizeOf126⟩
instance : TAgg Try.prog 126 false := ⟨Try.isAgg126⟩
instance : TZero Try.prog 126 (Go.Value.nilFunc) := ⟨Try.zeroValue126⟩
theorem row126 : (Try.prog.info? 126).map (fun i => (i.size, i.bytes)) = some (1, 8) := by kernel_rfl
instance : TSize Try.prog 127 4 := ⟨Try.sizeOf127⟩
instance : TAgg Try.prog 127 true := ⟨Try.isAgg127⟩
def zc127 : Array Value :=  #[Go.Value.pointer Option.none, Go.Value.pointer Option.none, Go.Value.pointer Option.none, Go.Value.string { data := #[] }]
theorem zc127_size : zc127.size = 4 := rfl
instance : TZero Try.prog 127 (.agg zc127) := ⟨Try.zeroValue127⟩
theorem row127 : (Try.prog.info? 127).map (fun i => (i.size, i.bytes)) = some (4, 40) := by kernel_rfl
instance : TFld Try.prog 127 0 0 17 1 := ⟨⟨_, _, Try.underlying127, rfl, rfl, rfl, Try.sizeOf17, by decide⟩⟩
instance : TFld Try.prog 127 1 1 17 1 := ⟨⟨_, _, Try.underlying127, rfl, rfl, rfl, Try.sizeOf17, by decide⟩⟩
instance : TFld Try.prog 127 2 2 17 1 := ⟨⟨_, _, Try.underlying127, rfl, rfl, rfl, Try.sizeOf17, by decide⟩⟩
instance : TFld Try.prog 127 3 3 9 1 := ⟨⟨_, _, Try.underlying127, rfl, rfl, rfl, Try.sizeOf9, by decide⟩⟩
instance : TBuild Try.prog 127 zc127 [(0, 1), (1, 1), (2, 1), (3, 1)] := ⟨fun _ => by kernel_rfl⟩
instance : TSize Try.prog 128 4 := ⟨Try.sizeOf128⟩
instance : TAgg Try.prog 128 true := ⟨Try.isAgg128⟩
def zc128 : Array Value :=  #[Go.Value.pointer Option.none, Go.Value.pointer Option.none, Go.Value.pointer Option.none, Go.Value.string { data := #[] }]
theorem zc128_size : zc128.size = 4 := rfl
instance : TZero Try.prog 128 (.agg zc128) := ⟨Try.zeroValue128⟩
theorem row128 : (Try.prog.info? 128).map (fun i => (i.size, i.bytes)) = some (4, 40) := by kernel_rfl
instance : TFld Try.prog 128 0 0 17 1 := ⟨⟨_, _, Try.underlying128, rfl, rfl, rfl, Try.sizeOf17, by decide⟩⟩
instance : TFld Try.prog 128 1 1 17 1 := ⟨⟨_, _, Try.underlying128, rfl, rfl, rfl, Try.sizeOf17, by decide⟩⟩
instance : TFld Try.prog 128 2 2 17 1 := ⟨⟨_, _, Try.underlying128, rfl, rfl, rfl, Try.sizeOf17, by decide⟩⟩
instance : TFld Try.prog 128 3 3 9 1 := ⟨⟨_, _, Try.underlying128, rfl, rfl, rfl, Try.sizeOf9, by decide⟩⟩
instance : TBuild Try.prog 128 zc128 [(0, 1), (1, 1), (2, 1), (3, 1)] := ⟨fun _ => by kernel_rfl⟩
instance : TSize Try.prog 129 0 := ⟨Try.sizeOf129⟩
instance : TAgg Try.prog 129 true := ⟨Try.isAgg129⟩
def zc129 : Array Value :=  #[]
theorem zc129_size : zc129.size = 0 := rfl
instance : TZero Try.prog 129 (.agg zc129) := ⟨Try.zeroValue129⟩
instance : TUnd Try.prog 129 (.array 0 16) := ⟨Try.underlying129⟩
instance : TSize Try.prog 130 0 := ⟨Try.sizeOf130⟩
instance : TAgg Try.prog 130 true := ⟨Try.isAgg130⟩
def zc130 : Array Value :=  #[]
theorem zc130_size : zc130.size = 0 := rfl
instance : TZero Try.prog 130 (.agg zc130) := ⟨Try.zeroValue130⟩
instance : TSize Try.prog 131 0 := ⟨Try.sizeOf131⟩
instance : TAgg Try.prog 131 true := ⟨Try.isAgg131⟩
def zc131 : Array Value :=  #[]
theorem zc131_size : zc131.size = 0 := rfl
instance : TZero Try.prog 131 (.agg zc131) := ⟨Try.zeroValue131⟩
instance : TSize Try.prog 132 1 := ⟨Try.sizeOf132⟩
instance : TAgg Try.prog 132 false := ⟨Try.isAgg132⟩
instance : TZero Try.prog 132 (Go.Value.int Go.IntKind.u8 0) := ⟨Try.zeroValue132⟩
theorem row132 : (Try.prog.info? 132).map (fun i => (i.size, i.bytes)) = some (1, 1) := by kernel_rfl
instance : TUnd Try.prog 132 (.int Go.IntKind.u8) := ⟨Try.underlying132⟩
instance : TSize Try.prog 133 1 := ⟨Try.sizeOf133⟩
instance : TAgg Try.prog 133 false := ⟨Try.isAgg133⟩
instance : TZero Try.prog 133 (Go.Value.int Go.IntKind.u8 0) := ⟨Try.zeroValue133⟩
theorem row133 : (Try.prog.info? 133).map (fun i => (i.size, i.bytes)) = some (1, 1) := by kernel_rfl
instance : TUnd Try.prog 133 (.int Go.IntKind.u8) := ⟨Try.underlying133⟩
instance : TSize Try.prog 134 1 := ⟨Try.sizeOf134⟩
instance : TAgg Try.prog 134 false := ⟨Try.isAgg134⟩
instance : TZero Try.prog 134 (Go.Value.nilFunc) := ⟨Try.zeroValue134⟩
theorem row134 : (Try.prog.info? 134).map (fun i => (i.size, i.bytes)) = some (1, 8) := by kernel_rfl
instance : TSize Try.prog 135 1 := ⟨Try.sizeOf135⟩
instance : TAgg Try.prog 135 false := ⟨Try.isAgg135⟩
instance : TZero Try.prog 135 (Go.Value.pointer Option.none) := ⟨Try.zeroValue135⟩
theorem row135 : (Try.prog.info? 135).map (fun i => (i.size, i.bytes)) = some (1, 8) := by kernel_rfl
instance : TUnd Try.prog 135 (.pointer 5) := ⟨Try.underlying135⟩
instance : TSize Try.prog 136 1 := ⟨Try.sizeOf136⟩
instance : TAgg Try.prog 136 false := ⟨Try.isAgg136⟩
instance : TZero Try.prog 136 (Go.Value.int Go.IntKind.i32 0) := ⟨Try.zeroValue136⟩
theorem row136 : (Try.prog.info? 136).map (fun i => (i.size, i.bytes)) = some (1, 4) := by kernel_rfl
instance : TUnd Try.prog 136 (.int Go.IntKind.i32) := ⟨Try.underlying136⟩
instance : TSize Try.prog 137 1 := ⟨Try.sizeOf137⟩
instance : TAgg Try.prog 137 false := ⟨Try.isAgg137⟩
instance : TZero Try.prog 137 (Go.Value.int Go.IntKind.i32 0) := ⟨Try.zeroValue137⟩
theorem row137 : (Try.prog.info? 137).map (fun i => (i.size, i.bytes)) = some (1, 4) := by kernel_rfl
instance : TUnd Try.prog 137 (.int Go.IntKind.i32) := ⟨Try.underlying137⟩
instance : TSize Try.prog 138 11 := ⟨Try.sizeOf138⟩
instance : TAgg Try.prog 138 true := ⟨Try.isAgg138⟩
def zc138 : Array Value :=  #[Go.Value.int Go.IntKind.u64 0, Go.Value.int Go.IntKind.u64 0, Go.Value.int Go.IntKind.u32 0, Go.Value.int Go.IntKind.u8 0, Go.Value.int Go.IntKind.u8 0, Go.Value.int Go.IntKind.u8 0, Go.Value.int Go.IntKind.u8 0, Go.Value.nilFunc, Go.Value.pointer Option.none, Go.Value.int Go.IntKind.i32 0, Go.Value.int Go.IntKind.i32 0]
theorem zc138_size : zc138.size = 11 := rfl
instance : TZero Try.prog 138 (.agg zc138) := ⟨Try.zeroValue138⟩
theorem row138 : (Try.prog.info? 138).map (fun i => (i.size, i.bytes)) = some (11, 48) := by kernel_rfl
instance : TFld Try.prog 138 0 0 12 1 := ⟨⟨_, _, Try.underlying138, rfl, rfl, rfl, Try.sizeOf12, by decide⟩⟩
instance : TFld Try.prog 138 1 1 12 1 := ⟨⟨_, _, Try.underlying138, rfl, rfl, rfl, Try.sizeOf12, by decide⟩⟩
instance : TFld Try.prog 138 2 2 36 1 := ⟨⟨_, _, Try.underlying138, rfl, rfl, rfl, Try.sizeOf36, by decide⟩⟩
instance : TFld Try.prog 138 3 3 132 1 := ⟨⟨_, _, Try.underlying138, rfl, rfl, rfl, Try.sizeOf132, by decide⟩⟩
instance : TFld Try.prog 138 4 4 5 1 := ⟨⟨_, _, Try.underlying138, rfl, rfl, rfl, Try.sizeOf5, by decide⟩⟩
instance : TFld Try.prog 138 5 5 5 1 := ⟨⟨_, _, Try.underlying138, rfl, rfl, rfl, Try.sizeOf5, by decide⟩⟩
instance : TFld Try.prog 138 6 6 133 1 := ⟨⟨_, _, Try.underlying138, rfl, rfl, rfl, Try.sizeOf133, by decide⟩⟩
instance : TFld Try.prog 138 7 7 134 1 := ⟨⟨_, _, Try.underlying138, rfl, rfl, rfl, Try.sizeOf134, by decide⟩⟩
instance : TFld Try.prog 138 8 8 135 1 := ⟨⟨_, _, Try.underlying138, rfl, rfl, rfl, Try.sizeOf135, by decide⟩⟩
instance : TFld Try.prog 138 9 9 136 1 := ⟨⟨_, _, Try.underlying138, rfl, rfl, rfl, Try.sizeOf136, by decide⟩⟩
instance : TFld Try.prog 138 10 10 137 1 := ⟨⟨_, _, Try.underlying138, rfl, rfl, rfl, Try.sizeOf137, by decide⟩⟩
instance : TBuild Try.prog 138 zc138 [(0, 1), (1, 1), (2, 1), (3, 1), (4, 1), (5, 1), (6, 1), (7, 1), (8, 1), (9, 1), (10, 1)] := ⟨fun _ => by kernel_rfl⟩
instance : TSize Try.prog 139 11 := ⟨Try.sizeOf139⟩
instance : TAgg Try.prog 139 true := ⟨Try.isAgg139⟩
def zc139 : Array Value :=  #[Go.Value.int Go.IntKind.u64 0, Go.Value.int Go.IntKind.u64 0, Go.Value.int Go.IntKind.u32 0, Go.Value.int Go.IntKind.u8 0, Go.Value.int Go.IntKind.u8 0, Go.Value.int Go.IntKind.u8 0, Go.Value.int Go.IntKind.u8 0, Go.Value.nilFunc, Go.Value.pointer Option.none, Go.Value.int Go.IntKind.i32 0, Go.Value.int Go.IntKind.i32 0]
theorem zc139_size : zc139.size = 11 := rfl
instance : TZero Try.prog 139 (.agg zc139) := ⟨Try.zeroValue139⟩
theorem row139 : (Try.prog.info? 139).map (fun i => (i.size, i.bytes)) = some (11, 48) := by kernel_rfl
instance : TFld Try.prog 139 0 0 12 1 := ⟨⟨_, _, Try.underlying139, rfl, rfl, rfl, Try.sizeOf12, by decide⟩⟩
instance : TFld Try.prog 139 1 1 12 1 := ⟨⟨_, _, Try.underlying139, rfl, rfl, rfl, Try.sizeOf12, by decide⟩⟩
instance : TFld Try.prog 139 2 2 36 1 := ⟨⟨_, _, Try.underlying139, rfl, rfl, rfl, Try.sizeOf36, by decide⟩⟩
instance : TFld Try.prog 139 3 3 132 1 := ⟨⟨_, _, Try.underlying139, rfl, rfl, rfl, Try.sizeOf132, by decide⟩⟩
instance : TFld Try.prog 139 4 4 5 1 := ⟨⟨_, _, Try.underlying139, rfl, rfl, rfl, Try.sizeOf5, by decide⟩⟩
instance : TFld Try.prog 139 5 5 5 1 := ⟨⟨_, _, Try.underlying139, rfl, rfl, rfl, Try.sizeOf5, by decide⟩⟩
instance : TFld Try.prog 139 6 6 133 1 := ⟨⟨_, _, Try.underlying139, rfl, rfl, rfl, Try.sizeOf133, by decide⟩⟩
instance : TFld Try.prog 139 7 7 134 1 := ⟨⟨_, _, Try.underlying139, rfl, rfl, rfl, Try.sizeOf134, by decide⟩⟩
instance : TFld Try.prog 139 8 8 135 1 := ⟨⟨_, _, Try.underlying139, rfl, rfl, rfl, Try.sizeOf135, by decide⟩⟩
instance : TFld Try.prog 139 9 9 136 1 := ⟨⟨_, _, Try.underlying139, rfl, rfl, rfl, Try.sizeOf136, by decide⟩⟩
instance : TFld Try.prog 139 10 10 137 1 := ⟨⟨_, _, Try.underlying139, rfl, rfl, rfl, Try.sizeOf137, by decide⟩⟩
instance : TBuild Try.prog 139 zc139 [(0, 1), (1, 1), (2, 1), (3, 1), (4, 1), (5, 1), (6, 1), (7, 1), (8, 1), (9, 1), (10, 1)] := ⟨fun _ => by kernel_rfl⟩
instance : TSize Try.prog 140 1 := ⟨Try.sizeOf140⟩
instance : TAgg Try.prog 140 false := ⟨Try.isAgg140⟩
instance : TZero Try.prog 140 (Go.Value.pointer Option.none) := ⟨Try.zeroValue140⟩
theorem row140 : (Try.prog.info? 140).map (fun i => (i.size, i.bytes)) = some (1, 8) := by kernel_rfl
instance : TRow Try.prog 0 #[Go.Value.tuple #[]] 1 0 := TRow.of Try.zeroValue0 rfl row0 rfl
instance : TRow Try.prog 1 #[Go.Value.nilFunc] 1 8 := TRow.of Try.zeroValue1 rfl row1 rfl
instance : TRow Try.prog 2 #[Go.Value.int Go.IntKind.i64 0] 1 8 := TRow.of Try.zeroValue2 rfl row2 rfl
instance : TRow Try.prog 3 #[Go.Value.int Go.IntKind.i64 0] 1 8 := TRow.of Try.zeroValue3 rfl row3 rfl
instance : TRow Try.prog 4 #[Go.Value.bool Bool.false] 1 1 := TRow.of Try.zeroValue4 rfl row4 rfl
instance : TRow Try.prog 5 #[Go.Value.int Go.IntKind.u8 0] 1 1 := TRow.of Try.zeroValue5 rfl row5 rfl
instance : TRow Try.prog 6 #[Go.Value.int Go.IntKind.u8 0] 1 1 := TRow.of Try.zeroValue6 rfl row6 rfl
instance : TRow Try.prog 7 zc7 4 24 := TRow.of Try.zeroValue7 rfl row7 rfl
instance : TRow Try.prog 8 zc8 4 24 := TRow.of Try.zeroValue8 rfl row8 rfl
instance : TRow Try.prog 9 #[Go.Value.string { data := #[] }] 1 16 := TRow.of Try.zeroValue9 rfl row9 rfl
instance : TRow Try.prog 10 #[Go.Value.string { data := #[] }] 1 16 := TRow.of Try.zeroValue10 rfl row10 rfl
instance : TRow Try.prog 11 #[Go.Value.string { data := #[] }] 1 16 := TRow.of Try.zeroValue11 rfl row11 rfl
instance : TRow Try.prog 12 #[Go.Value.int Go.IntKind.u64 0] 1 8 := TRow.of Try.zeroValue12 rfl row12 rfl
instance : TRow Try.prog 13 zc13 2 24 := TRow.of Try.zeroValue13 rfl row13 rfl
instance : TRow Try.prog 14 zc14 2 24 := TRow.of Try.zeroValue14 rfl row14 rfl
instance : TRow Try.prog 15 #[Go.Value.pointer Option.none] 1 8 := TRow.of Try.zeroValue15 rfl row15 rfl
instance : TRow Try.prog 16 #[Go.Value.pointer Option.none] 1 8 := TRow.of Try.zeroValue16 rfl row16 rfl
instance : TRow Try.prog 17 #[Go.Value.pointer Option.none] 1 8 := TRow.of Try.zeroValue17 rfl row17 rfl
instance : TRow Try.prog 18 zc18 1 8 := TRow.of Try.zeroValue18 rfl row18 rfl
instance : TRow Try.prog 19 zc19 1 8 := TRow.of Try.zeroValue19 rfl row19 rfl
instance : TRow Try.prog 20 #[Go.Value.nilIface] 1 16 := TRow.of Try.zeroValue20 rfl row20 rfl
instance : TRow Try.prog 21 #[Go.Value.int Go.IntKind.i32 0] 1 4 := TRow.of Try.zeroValue21 rfl row21 rfl
instance : TRow Try.prog 22 #[Go.Value.slice Option.none 0 0] 1 24 := TRow.of Try.zeroValue22 rfl row22 rfl
instance : TRow Try.prog 23 #[Go.Value.pointer Option.none] 1 8 := TRow.of Try.zeroValue23 rfl row23 rfl
instance : TRow Try.prog 24 #[Go.Value.nilFunc] 1 8 := TRow.of Try.zeroValue24 rfl row24 rfl
instance : TRow Try.prog 25 #[Go.Value.pointer Option.none] 1 8 := TRow.of Try.zeroValue25 rfl row25 rfl
instance : TRow Try.prog 26 #[Go.Value.nilFunc] 1 8 := TRow.of Try.zeroValue26 rfl row26 rfl
instance : TRow Try.prog 27 #[Go.Value.int Go.IntKind.i8 0] 1 1 := TRow.of Try.zeroValue27 rfl row27 rfl
instance : TRow Try.prog 28 zc28 3 16 := TRow.of Try.zeroValue28 rfl row28 rfl
instance : TRow Try.prog 29 zc29 3 16 := TRow.of Try.zeroValue29 rfl row29 rfl
instance : TRow Try.prog 30 #[Go.Value.int Go.IntKind.u64 0] 1 8 := TRow.of Try.zeroValue30 rfl row30 rfl
instance : TRow Try.prog 31 #[Go.Value.slice Option.none 0 0] 1 24 := TRow.of Try.zeroValue31 rfl row31 rfl
instance : TRow Try.prog 32 zc32 4 48 := TRow.of Try.zeroValue32 rfl row32 rfl
instance : TRow Try.prog 33 zc33 4 48 := TRow.of Try.zeroValue33 rfl row33 rfl
instance : TRow Try.prog 34 #[Go.Value.int Go.IntKind.i64 0] 1 8 := TRow.of Try.zeroValue34 rfl row34 rfl
instance : TRow Try.prog 35 #[Go.Value.nilFunc] 1 8 := TRow.of Try.zeroValue35 rfl row35 rfl
instance : TRow Try.prog 36 #[Go.Value.int Go.IntKind.u32 0] 1 4 := TRow.of Try.zeroValue36 rfl row36 rfl
instance : TRow Try.prog 37 zc37 6 32 := TRow.of Try.zeroValue37 rfl row37 rfl
instance : TRow Try.prog 38 zc38 6 32 := TRow.of Try.zeroValue38 rfl row38 rfl
instance : TRow Try.prog 39 #[Go.Value.slice Option.none 0 0] 1 24 := TRow.of Try.zeroValue39 rfl row39 rfl
instance : TRow Try.prog 40 zc40 4 32 := TRow.of Try.zeroValue40 rfl row40 rfl
instance : TRow Try.prog 41 zc41 4 32 := TRow.of Try.zeroValue41 rfl row41 rfl
instance : TRow Try.prog 42 zc42 10 96 := TRow.of Try.zeroValue42 rfl row42 rfl
instance : TRow Try.prog 43 zc43 10 96 := TRow.of Try.zeroValue43 rfl row43 rfl
instance : TRow Try.prog 44 #[Go.Value.slice Option.none 0 0] 1 24 := TRow.of Try.zeroValue44 rfl row44 rfl
instance : TRow Try.prog 45 zc45 4 48 := TRow.of Try.zeroValue45 rfl row45 rfl
instance : TRow Try.prog 46 zc46 4 48 := TRow.of Try.zeroValue46 rfl row46 rfl
instance : TRow Try.prog 47 zc47 24 208 := TRow.of Try.zeroValue47 rfl row47 rfl
instance : TRow Try.prog 48 zc48 24 208 := TRow.of Try.zeroValue48 rfl row48 rfl
instance : TRow Try.prog 49 #[Go.Value.nilFunc] 1 8 := TRow.of Try.zeroValue49 rfl row49 rfl
instance : TRow Try.prog 50 #[Go.Value.nilFunc] 1 8 := TRow.of Try.zeroValue50 rfl row50 rfl
instance : TRow Try.prog 51 #[Go.Value.tuple #[Go.Value.agg #[Go.Value.int Go.IntKind.i64 0, Go.Value.int Go.IntKind.i64 0, Go.Value.int Go.IntKind.u32 0, Go.Value.int Go.IntKind.i64 0, Go.Value.int Go.IntKind.i64 0, Go.Value.int Go.IntKind.u8 0, Go.Value.bool Bool.false, Go.Value.bool Bool.false, Go.Value.int Go.IntKind.i64 0, Go.Value.int Go.IntKind.i64 0, Go.Value.int Go.IntKind.i64 0, Go.Value.int Go.IntKind.i64 0, Go.Value.slice Option.none 0 0, Go.Value.int Go.IntKind.i64 0, Go.Value.int Go.IntKind.i64 0, Go.Value.int Go.IntKind.i64 0, Go.Value.int Go.IntKind.i64 0, Go.Value.int Go.IntKind.i64 0, Go.Value.int Go.IntKind.i64 0, Go.Value.int Go.IntKind.i64 0, Go.Value.int Go.IntKind.i64 0, Go.Value.int Go.IntKind.i64 0, Go.Value.bool Bool.false, Go.Value.slice Option.none 0 0], Go.Value.bool Bool.false]] 1 0 := TRow.of Try.zeroValue51 rfl row51 rfl
instance : TRow Try.prog 52 #[Go.Value.nilFunc] 1 8 := TRow.of Try.zeroValue52 rfl row52 rfl
instance : TRow Try.prog 53 #[Go.Value.tuple #[Go.Value.int Go.IntKind.u64 0, Go.Value.int Go.IntKind.i64 0]] 1 0 := TRow.of Try.zeroValue53 rfl row53 rfl
instance : TRow Try.prog 54 #[Go.Value.nilFunc] 1 8 := TRow.of Try.zeroValue54 rfl row54 rfl
instance : TRow Try.prog 55 #[Go.Value.nilFunc] 1 8 := TRow.of Try.zeroValue55 rfl row55 rfl
instance : TRow Try.prog 56 #[Go.Value.nilFunc] 1 8 := TRow.of Try.zeroValue56 rfl row56 rfl
instance : TRow Try.prog 57 #[Go.Value.nilFunc] 1 8 := TRow.of Try.zeroValue57 rfl row57 rfl
instance : TRow Try.prog 58 #[Go.Value.nilFunc] 1 8 := TRow.of Try.zeroValue58 rfl row58 rfl
instance : TRow Try.prog 59 #[Go.Value.slice Option.none 0 0] 1 24 := TRow.of Try.zeroValue59 rfl row59 rfl
instance : TRow Try.prog 60 #[Go.Value.nilFunc] 1 8 := TRow.of Try.zeroValue60 rfl row60 rfl
instance : TRow Try.prog 61 #[Go.Value.slice Option.none 0 0] 1 24 := TRow.of Try.zeroValue61 rfl row61 rfl
instance : TRow Try.prog 62 #[Go.Value.nilFunc] 1 8 := TRow.of Try.zeroValue62 rfl row62 rfl
instance : TRow Try.prog 63 #[Go.Value.slice Option.none 0 0] 1 24 := TRow.of Try.zeroValue63 rfl row63 rfl
instance : TRow Try.prog 64 zc64 2 16 := TRow.of Try.zeroValue64 rfl row64 rfl
instance : TRow Try.prog 65 #[Go.Value.pointer Option.none] 1 8 := TRow.of Try.zeroValue65 rfl row65 rfl
instance : TRow Try.prog 66 #[Go.Value.nilFunc] 1 8 := TRow.of Try.zeroValue66 rfl row66 rfl
instance : TRow Try.prog 67 #[Go.Value.pointer Option.none] 1 8 := TRow.of Try.zeroValue67 rfl row67 rfl
instance : TRow Try.prog 68 #[Go.Value.nilFunc] 1 8 := TRow.of Try.zeroValue68 rfl row68 rfl
instance : TRow Try.prog 69 zc69 3 3 := TRow.of Try.zeroValue69 rfl row69 rfl
instance : TRow Try.prog 70 zc70 3 3 := TRow.of Try.zeroValue70 rfl row70 rfl
instance : TRow Try.prog 71 #[Go.Value.nilFunc] 1 8 := TRow.of Try.zeroValue71 rfl row71 rfl
instance : TRow Try.prog 72 #[Go.Value.nilFunc] 1 8 := TRow.of Try.zeroValue72 rfl row72 rfl
instance : TRow Try.prog 73 #[Go.Value.nilFunc] 1 8 := TRow.of Try.zeroValue73 rfl row73 rfl
instance : TRow Try.prog 74 #[Go.Value.nilFunc] 1 8 := TRow.of Try.zeroValue74 rfl row74 rfl
instance : TRow Try.prog 75 #[Go.Value.pointer Option.none] 1 8 := TRow.of Try.zeroValue75 rfl row75 rfl
instance : TRow Try.prog 76 #[Go.Value.map Option.none] 1 8 := TRow.of Try.zeroValue76 rfl row76 rfl
instance : TRow Try.prog 77 zc77 4 64 := TRow.of Try.zeroValue77 rfl row77 rfl
instance : TRow Try.prog 78 zc78 4 64 := TRow.of Try.zeroValue78 rfl row78 rfl
instance : TRow Try.prog 79 #[Go.Value.nilFunc] 1 8 := TRow.of Try.zeroValue79 rfl row79 rfl
instance : TRow Try.prog 80 #[Go.Value.nilFunc] 1 8 := TRow.of Try.zeroValue80 rfl row80 rfl
instance : TRow Try.prog 81 #[Go.Value.nilFunc] 1 8 := TRow.of Try.zeroValue81 rfl row81 rfl
instance : TRow Try.prog 82 #[Go.Value.nilFunc] 1 8 := TRow.of Try.zeroValue82 rfl row82 rfl
instance : TRow Try.prog 83 #[Go.Value.nilFunc] 1 8 := TRow.of Try.zeroValue83 rfl row83 rfl
instance : TRow Try.prog 84 #[Go.Value.nilFunc] 1 8 := TRow.of Try.zeroValue84 rfl row84 rfl
instance : TRow Try.prog 85 #[Go.Value.nilFunc] 1 8 := TRow.of Try.zeroValue85 rfl row85 rfl
instance : TRow Try.prog 86 #[Go.Value.slice Option.none 0 0] 1 24 := TRow.of Try.zeroValue86 rfl row86 rfl
instance : TRow Try.prog 87 zc87 1 24 := TRow.of Try.zeroValue87 rfl row87 rfl
instance : TRow Try.prog 88 zc88 1 24 := TRow.of Try.zeroValue88 rfl row88 rfl
instance : TRow Try.prog 89 #[Go.Value.nilFunc] 1 8 := TRow.of Try.zeroValue89 rfl row89 rfl
instance : TRow Try.prog 90 #[Go.Value.slice Option.none 0 0] 1 24 := TRow.of Try.zeroValue90 rfl row90 rfl
instance : TRow Try.prog 91 #[Go.Value.nilFunc] 1 8 := TRow.of Try.zeroValue91 rfl row91 rfl
instance : TRow Try.prog 92 #[Go.Value.nilFunc] 1 8 := TRow.of Try.zeroValue92 rfl row92 rfl
instance : TRow Try.prog 93 Try.zeroCells93 384 3328 := TRow.of Try.zeroValue93 rfl row93 Try.zeroCells93_size
instance : TRow Try.prog 94 Try.zeroCells94 389 3368 := TRow.of Try.zeroValue94 rfl row94 Try.zeroCells94_size
instance : TRow Try.prog 95 Try.zeroCells95 389 3368 := TRow.of Try.zeroValue95 rfl row95 Try.zeroCells95_size
instance : TRow Try.prog 96 #[Go.Value.pointer Option.none] 1 8 := TRow.of Try.zeroValue96 rfl row96 rfl
instance : TRow Try.prog 97 #[Go.Value.nilFunc] 1 8 := TRow.of Try.zeroValue97 rfl row97 rfl
instance : TRow Try.prog 98 #[Go.Value.nilFunc] 1 8 := TRow.of Try.zeroValue98 rfl row98 rfl
instance : TRow Try.prog 99 #[Go.Value.nilFunc] 1 8 := TRow.of Try.zeroValue99 rfl row99 rfl
instance : TRow Try.prog 100 #[Go.Value.nilFunc] 1 8 := TRow.of Try.zeroValue100 rfl row100 rfl
instance : TRow Try.prog 101 zc101 1 24 := TRow.of Try.zeroValue101 rfl row101 rfl
instance : TRow Try.prog 102 zc102 1 24 := TRow.of Try.zeroValue102 rfl row102 rfl
instance : TRow Try.prog 103 #[Go.Value.nilFunc] 1 8 := TRow.of Try.zeroValue103 rfl row103 rfl
instance : TRow Try.prog 104 #[Go.Value.pointer Option.none] 1 8 := TRow.of Try.zeroValue104 rfl row104 rfl
instance : TRow Try.prog 105 zc105 2 16 := TRow.of Try.zeroValue105 rfl row105 rfl
instance : TRow Try.prog 106 zc106 2 16 := TRow.of Try.zeroValue106 rfl row106 rfl
instance : TRow Try.prog 107 #[Go.Value.nilFunc] 1 8 := TRow.of Try.zeroValue107 rfl row107 rfl
instance : TRow Try.prog 108 #[Go.Value.nilFunc] 1 8 := TRow.of Try.zeroValue108 rfl row108 rfl
instance : TRow Try.prog 109 #[Go.Value.nilFunc] 1 8 := TRow.of Try.zeroValue109 rfl row109 rfl
instance : TRow Try.prog 110 zc110 1 8 := TRow.of Try.zeroValue110 rfl row110 rfl
instance : TRow Try.prog 111 zc111 1 8 := TRow.of Try.zeroValue111 rfl row111 rfl
instance : TRow Try.prog 112 #[Go.Value.nilFunc] 1 8 := TRow.of Try.zeroValue112 rfl row112 rfl
instance : TRow Try.prog 113 #[Go.Value.nilFunc] 1 8 := TRow.of Try.zeroValue113 rfl row113 rfl
instance : TRow Try.prog 114 #[Go.Value.nilFunc] 1 8 := TRow.of Try.zeroValue114 rfl row114 rfl
instance : TRow Try.prog 115 #[Go.Value.nilFunc] 1 8 := TRow.of Try.zeroValue115 rfl row115 rfl
instance : TRow Try.prog 116 #[Go.Value.nilFunc] 1 8 := TRow.of Try.zeroValue116 rfl row116 rfl
instance : TRow Try.prog 117 #[Go.Value.nilFunc] 1 8 := TRow.of Try.zeroValue117 rfl row117 rfl
instance : TRow Try.prog 118 #[Go.Value.nilFunc] 1 8 := TRow.of Try.zeroValue118 rfl row118 rfl
instance : TRow Try.prog 119 #[Go.Value.nilFunc] 1 8 := TRow.of Try.zeroValue119 rfl row119 rfl
instance : TRow Try.prog 120 #[Go.Value.nilFunc] 1 8 := TRow.of Try.zeroValue120 rfl row120 rfl
instance : TRow Try.prog 121 zc121 5 40 := TRow.of Try.zeroValue121 rfl row121 rfl
instance : TRow Try.prog 122 zc122 5 40 := TRow.of Try.zeroValue122 rfl row122 rfl
instance : TRow Try.prog 123 zc123 10 80 := TRow.of Try.zeroValue123 rfl row123 rfl
instance : TRow Try.prog 124 zc124 10 80 := TRow.of Try.zeroValue124 rfl row124 rfl
instance : TRow Try.prog 125 #[Go.Value.nilFunc] 1 8 := TRow.of Try.zeroValue125 rfl row125 rfl
instance : TRow Try.prog 126 #[Go.Value.nilFunc] 1 8 := TRow.of Try.zeroValue126 rfl row126 rfl
instance : TRow Try.prog 127 zc127 4 40 := TRow.of Try.zeroValue127 rfl row127 rfl
instance : TRow Try.prog 128 zc128 4 40 := TRow.of Try.zeroValue128 rfl row128 rfl
instance : TRow Try.prog 132 #[Go.Value.int Go.IntKind.u8 0] 1 1 := TRow.of Try.zeroValue132 rfl row132 rfl
instance : TRow Try.prog 133 #[Go.Value.int Go.IntKind.u8 0] 1 1 := TRow.of Try.zeroValue133 rfl row133 rfl
instance : TRow Try.prog 134 #[Go.Value.nilFunc] 1 8 := TRow.of Try.zeroValue134 rfl row134 rfl
instance : TRow Try.prog 135 #[Go.Value.pointer Option.none] 1 8 := TRow.of Try.zeroValue135 rfl row135 rfl
instance : TRow Try.prog 136 #[Go.Value.int Go.IntKind.i32 0] 1 4 := TRow.of Try.zeroValue136 rfl row136 rfl
instance : TRow Try.prog 137 #[Go.Value.int Go.IntKind.i32 0] 1 4 := TRow.of Try.zeroValue137 rfl row137 rfl
instance : TRow Try.prog 138 zc138 11 48 := TRow.of Try.zeroValue138 rfl row138 rfl
instance : TRow Try.prog 139 zc139 11 48 := TRow.of Try.zeroValue139 rfl row139 rfl
instance : TRow Try.prog 140 #[Go.Value.pointer Option.none] 1 8 := TRow.of Try.zeroValue140 rfl row140 rfl
instance : FCall Try.prog 46 := ⟨Try.call46⟩
instance : FCall Try.prog 13 := ⟨Try.call13⟩
instance : FCall Try.prog 57 := ⟨Try.call57⟩
instance : FCall Try.prog 42 := ⟨Try.call42⟩
instance : FCall Try.prog 27 := ⟨Try.call27⟩
instance : FCall Try.prog 52 := ⟨Try.call52⟩
instance : FCall Try.prog 33 := ⟨Try.call33⟩
instance : FCall Try.prog 17 := ⟨Try.call17⟩
instance : FCall Try.prog 20 := ⟨Try.call20⟩
instance : FCall Try.prog 49 := ⟨Try.call49⟩
instance : FCall Try.prog 35 := ⟨Try.call35⟩
instance : FCall Try.prog 18 := ⟨Try.call18⟩
instance : FCall Try.prog 55 := ⟨Try.call55⟩
instance : FCall Try.prog 60 := ⟨Try.call60⟩
instance : FCall Try.prog 6 := ⟨Try.call6⟩
instance : FCall Try.prog 16 := ⟨Try.call16⟩
instance : FCall Try.prog 38 := ⟨Try.call38⟩
instance : FCall Try.prog 14 := ⟨Try.call14⟩
instance : FCall Try.prog 40 := ⟨Try.call40⟩
instance : FCall Try.prog 30 := ⟨Try.call30⟩
instance : FCall Try.prog 9 := ⟨Try.call9⟩
instance : FCall Try.prog 28 := ⟨Try.call28⟩
instance : FCall Try.prog 15 := ⟨Try.call15⟩
instance : FCall Try.prog 48 := ⟨Try.call48⟩
instance : FCall Try.prog 39 := ⟨Try.call39⟩
instance : FCall Try.prog 21 := ⟨Try.call21⟩
instance : FCall Try.prog 19 := ⟨Try.call19⟩
instance : FCall Try.prog 59 := ⟨Try.call59⟩
instance : FCall Try.prog 12 := ⟨Try.call12⟩
instance : FCall Try.prog 63 := ⟨Try.call63⟩
instance : FCall Try.prog 62 := ⟨Try.call62⟩
instance : FCall Try.prog 10 := ⟨Try.call10⟩
instance : FCall Try.prog 8 := ⟨Try.call8⟩
instance : FCall Try.prog 47 := ⟨Try.call47⟩
instance : FCall Try.prog 7 := ⟨Try.call7⟩
instance : FCall Try.prog 11 := ⟨Try.call11⟩
instance : FCall Try.prog 5 := ⟨Try.call5⟩
instance : FCall Try.prog 41 := ⟨Try.call41⟩
instance : FCall Try.prog 56 := ⟨Try.call56⟩
instance : FCall Try.prog 43 := ⟨Try.call43⟩
instance : FCall Try.prog 51 := ⟨Try.call51⟩
instance : FCall Try.prog 3 := ⟨Try.call3⟩
instance : FCall Try.prog 32 := ⟨Try.call32⟩
instance : FCall Try.prog 31 := ⟨Try.call31⟩
instance : FCall Try.prog 58 := ⟨Try.call58⟩
instance : FCall Try.prog 23 := ⟨Try.call23⟩
instance : FCall Try.prog 22 := ⟨Try.call22⟩
instance : FCall Try.prog 29 := ⟨Try.call29⟩
instance : FCall Try.prog 61 := ⟨Try.call61⟩
instance : FCall Try.prog 2 := ⟨Try.call2⟩
instance : FCall Try.prog 44 := ⟨Try.call44⟩
instance : FCall Try.prog 50 := ⟨Try.call50⟩
instance : FCall Try.prog 25 := ⟨Try.call25⟩
instance : FCall Try.prog 53 := ⟨Try.call53⟩
instance : FCall Try.prog 45 := ⟨Try.call45⟩
instance : FCall Try.prog 36 := ⟨Try.call36⟩
instance : FCall Try.prog 24 := ⟨Try.call24⟩
instance : FCall Try.prog 37 := ⟨Try.call37⟩
instance : FCall Try.prog 34 := ⟨Try.call34⟩
instance : FCall Try.prog 4 := ⟨Try.call4⟩
instance : FCall Try.prog 26 := ⟨Try.call26⟩
instance : FCall Try.prog 54 := ⟨Try.call54⟩
theorem mixed : Try.prog.follows .mixedOrders = true := by kernel_rfl
end Go.Proofs.Ytcnbecdpfildnaa
