/-
  Facts on this seat's program's types and functions, out of the loaded program's own, in the form that the symbolic execution asks. Written by a program of mine (wip/tyfacts.sh). It proves no statement by itself.
-/
import Derived.Test.YtcnbecdpfildnaaDoorRows
import Derived.Test.YtcnbecdpfildnaaDoorGo
namespace Go.Proofs.YtcnbecdpfildnaaDoor

instance : TSize Tryd.prog 0 1 := ⟨Tryd.sizeOf0⟩
instance : TAgg Tryd.prog 0 false := ⟨Tryd.isAgg0⟩
instance : TZero Tryd.prog 0 (Go.Value.tuple #[]) := ⟨Tryd.zeroValue0⟩
theorem row0 : (Tryd.prog.info? 0).map (fun i => (i.size, i.bytes)) = some (1, 0) := by kernel_rfl
instance : TSize Tryd.prog 1 1 := ⟨Tryd.sizeOf1⟩
instance : TAgg Tryd.prog 1 false := ⟨Tryd.isAgg1⟩
instance : TZero Tryd.prog 1 (Go.Value.nilFunc) := ⟨Tryd.zeroValue1⟩
theorem row1 : (Tryd.prog.info? 1).map (fun i => (i.size, i.bytes)) = some (1, 8) := by kernel_rfl
instance : TSize Tryd.prog 2 1 := ⟨Tryd.sizeOf2⟩
instance : TAgg Tryd.prog 2 false := ⟨Tryd.isAgg2⟩
instance : TZero Tryd.prog 2 (Go.Value.int Go.IntKind.i64 0) := ⟨Tryd.zeroValue2⟩
theorem row2 : (Tryd.prog.info? 2).map (fun i => (i.size, i.bytes)) = some (1, 8) := by kernel_rfl
instance : TUnd Tryd.prog 2 (.int Go.IntKind.i64) := ⟨Tryd.underlying2⟩
instance : TSize Tryd.prog 3 1 := ⟨Tryd.sizeOf3⟩
instance : TAgg Tryd.prog 3 false := ⟨Tryd.isAgg3⟩
instance : TZero Tryd.prog 3 (Go.Value.int Go.IntKind.i64 0) := ⟨Tryd.zeroValue3⟩
theorem row3 : (Tryd.prog.info? 3).map (fun i => (i.size, i.bytes)) = some (1, 8) := by kernel_rfl
instance : TUnd Tryd.prog 3 (.int Go.IntKind.i64) := ⟨Tryd.underlying3⟩
instance : TSize Tryd.prog 4 1 := ⟨Tryd.sizeOf4⟩
instance : TAgg Tryd.prog 4 false := ⟨Tryd.isAgg4⟩
instance : TZero Tryd.prog 4 (Go.Value.bool Bool.false) := ⟨Tryd.zeroValue4⟩
theorem row4 : (Tryd.prog.info? 4).map (fun i => (i.size, i.bytes)) = some (1, 1) := by kernel_rfl
instance : TUnd Tryd.prog 4 .bool := ⟨Tryd.underlying4⟩
instance : TSize Tryd.prog 5 1 := ⟨Tryd.sizeOf5⟩
instance : TAgg Tryd.prog 5 false := ⟨Tryd.isAgg5⟩
instance : TZero Tryd.prog 5 (Go.Value.int Go.IntKind.u8 0) := ⟨Tryd.zeroValue5⟩
theorem row5 : (Tryd.prog.info? 5).map (fun i => (i.size, i.bytes)) = some (1, 1) := by kernel_rfl
instance : TUnd Tryd.prog 5 (.int Go.IntKind.u8) := ⟨Tryd.underlying5⟩
instance : TSize Tryd.prog 6 1 := ⟨Tryd.sizeOf6⟩
instance : TAgg Tryd.prog 6 false := ⟨Tryd.isAgg6⟩
instance : TZero Tryd.prog 6 (Go.Value.int Go.IntKind.u8 0) := ⟨Tryd.zeroValue6⟩
theorem row6 : (Tryd.prog.info? 6).map (fun i => (i.size, i.bytes)) = some (1, 1) := by kernel_rfl
instance : TUnd Tryd.prog 6 (.int Go.IntKind.u8) := ⟨Tryd.underlying6⟩
instance : TSize Tryd.prog 7 4 := ⟨Tryd.sizeOf7⟩
instance : TAgg Tryd.prog 7 true := ⟨Tryd.isAgg7⟩
def zc7 : Array Value :=  #[Go.Value.int Go.IntKind.i64 0, Go.Value.int Go.IntKind.i64 0, Go.Value.bool Bool.false, Go.Value.int Go.IntKind.u8 0]
theorem zc7_size : zc7.size = 4 := rfl
instance : TZero Tryd.prog 7 (.agg zc7) := ⟨Tryd.zeroValue7⟩
theorem row7 : (Tryd.prog.info? 7).map (fun i => (i.size, i.bytes)) = some (4, 24) := by kernel_rfl
instance : TFld Tryd.prog 7 0 0 2 1 := ⟨⟨_, _, Tryd.underlying7, rfl, rfl, rfl, Tryd.sizeOf2, by decide⟩⟩
instance : TFld Tryd.prog 7 1 1 3 1 := ⟨⟨_, _, Tryd.underlying7, rfl, rfl, rfl, Tryd.sizeOf3, by decide⟩⟩
instance : TFld Tryd.prog 7 2 2 4 1 := ⟨⟨_, _, Tryd.underlying7, rfl, rfl, rfl, Tryd.sizeOf4, by decide⟩⟩
instance : TFld Tryd.prog 7 3 3 6 1 := ⟨⟨_, _, Tryd.underlying7, rfl, rfl, rfl, Tryd.sizeOf6, by decide⟩⟩
instance : TBuild Tryd.prog 7 zc7 [(0, 1), (1, 1), (2, 1), (3, 1)] := ⟨fun _ => by kernel_rfl⟩
instance : TSize Tryd.prog 8 4 := ⟨Tryd.sizeOf8⟩
instance : TAgg Tryd.prog 8 true := ⟨Tryd.isAgg8⟩
def zc8 : Array Value :=  #[Go.Value.int Go.IntKind.i64 0, Go.Value.int Go.IntKind.i64 0, Go.Value.bool Bool.false, Go.Value.int Go.IntKind.u8 0]
theorem zc8_size : zc8.size = 4 := rfl
instance : TZero Tryd.prog 8 (.agg zc8) := ⟨Tryd.zeroValue8⟩
theorem row8 : (Tryd.prog.info? 8).map (fun i => (i.size, i.bytes)) = some (4, 24) := by kernel_rfl
instance : TFld Tryd.prog 8 0 0 2 1 := ⟨⟨_, _, Tryd.underlying8, rfl, rfl, rfl, Tryd.sizeOf2, by decide⟩⟩
instance : TFld Tryd.prog 8 1 1 3 1 := ⟨⟨_, _, Tryd.underlying8, rfl, rfl, rfl, Tryd.sizeOf3, by decide⟩⟩
instance : TFld Tryd.prog 8 2 2 4 1 := ⟨⟨_, _, Tryd.underlying8, rfl, rfl, rfl, Tryd.sizeOf4, by decide⟩⟩
instance : TFld Tryd.prog 8 3 3 6 1 := ⟨⟨_, _, Tryd.underlying8, rfl, rfl, rfl, Tryd.sizeOf6, by decide⟩⟩
instance : TBuild Tryd.prog 8 zc8 [(0, 1), (1, 1), (2, 1), (3, 1)] := ⟨fun _ => by kernel_rfl⟩
instance : TSize Tryd.prog 9 1 := ⟨Tryd.sizeOf9⟩
instance : TAgg Tryd.prog 9 false := ⟨Tryd.isAgg9⟩
instance : TZero Tryd.prog 9 (Go.Value.string { data := #[] }) := ⟨Tryd.zeroValue9⟩
theorem row9 : (Tryd.prog.info? 9).map (fun i => (i.size, i.bytes)) = some (1, 16) := by kernel_rfl
instance : TUnd Tryd.prog 9 .string := ⟨Tryd.underlying9⟩
instance : TSize Tryd.prog 10 1 := ⟨Tryd.sizeOf10⟩
instance : TAgg Tryd.prog 10 false := ⟨Tryd.isAgg10⟩
instance : TZero Tryd.prog 10 (Go.Value.string { data := #[] }) := ⟨Tryd.zeroValue10⟩
theorem row10 : (Tryd.prog.info? 10).map (fun i => (i.size, i.bytes)) = some (1, 16) := by kernel_rfl
instance : TUnd Tryd.prog 10 .string := ⟨Tryd.underlying10⟩
instance : TSize Tryd.prog 11 1 := ⟨Tryd.sizeOf11⟩
instance : TAgg Tryd.prog 11 false := ⟨Tryd.isAgg11⟩
instance : TZero Tryd.prog 11 (Go.Value.string { data := #[] }) := ⟨Tryd.zeroValue11⟩
theorem row11 : (Tryd.prog.info? 11).map (fun i => (i.size, i.bytes)) = some (1, 16) := by kernel_rfl
instance : TUnd Tryd.prog 11 .string := ⟨Tryd.underlying11⟩
instance : TSize Tryd.prog 12 1 := ⟨Tryd.sizeOf12⟩
instance : TAgg Tryd.prog 12 false := ⟨Tryd.isAgg12⟩
instance : TZero Tryd.prog 12 (Go.Value.int Go.IntKind.u64 0) := ⟨Tryd.zeroValue12⟩
theorem row12 : (Tryd.prog.info? 12).map (fun i => (i.size, i.bytes)) = some (1, 8) := by kernel_rfl
instance : TUnd Tryd.prog 12 (.int Go.IntKind.u64) := ⟨Tryd.underlying12⟩
instance : TSize Tryd.prog 13 2 := ⟨Tryd.sizeOf13⟩
instance : TAgg Tryd.prog 13 true := ⟨Tryd.isAgg13⟩
def zc13 : Array Value :=  #[Go.Value.string { data := #[] }, Go.Value.int Go.IntKind.u64 0]
theorem zc13_size : zc13.size = 2 := rfl
instance : TZero Tryd.prog 13 (.agg zc13) := ⟨Tryd.zeroValue13⟩
theorem row13 : (Tryd.prog.info? 13).map (fun i => (i.size, i.bytes)) = some (2, 24) := by kernel_rfl
instance : TFld Tryd.prog 13 0 0 9 1 := ⟨⟨_, _, Tryd.underlying13, rfl, rfl, rfl, Tryd.sizeOf9, by decide⟩⟩
instance : TFld Tryd.prog 13 1 1 12 1 := ⟨⟨_, _, Tryd.underlying13, rfl, rfl, rfl, Tryd.sizeOf12, by decide⟩⟩
instance : TBuild Tryd.prog 13 zc13 [(0, 1), (1, 1)] := ⟨fun _ => by kernel_rfl⟩
instance : TSize Tryd.prog 14 2 := ⟨Tryd.sizeOf14⟩
instance : TAgg Tryd.prog 14 true := ⟨Tryd.isAgg14⟩
def zc14 : Array Value :=  #[Go.Value.string { data := #[] }, Go.Value.int Go.IntKind.u64 0]
theorem zc14_size : zc14.size = 2 := rfl
instance : TZero Tryd.prog 14 (.agg zc14) := ⟨Tryd.zeroValue14⟩
theorem row14 : (Tryd.prog.info? 14).map (fun i => (i.size, i.bytes)) = some (2, 24) := by kernel_rfl
instance : TFld Tryd.prog 14 0 0 9 1 := ⟨⟨_, _, Tryd.underlying14, rfl, rfl, rfl, Tryd.sizeOf9, by decide⟩⟩
instance : TFld Tryd.prog 14 1 1 12 1 := ⟨⟨_, _, Tryd.underlying14, rfl, rfl, rfl, Tryd.sizeOf12, by decide⟩⟩
instance : TBuild Tryd.prog 14 zc14 [(0, 1), (1, 1)] := ⟨fun _ => by kernel_rfl⟩
instance : TSize Tryd.prog 15 1 := ⟨Tryd.sizeOf15⟩
instance : TAgg Tryd.prog 15 false := ⟨Tryd.isAgg15⟩
instance : TZero Tryd.prog 15 (Go.Value.pointer Option.none) := ⟨Tryd.zeroValue15⟩
theorem row15 : (Tryd.prog.info? 15).map (fun i => (i.size, i.bytes)) = some (1, 8) := by kernel_rfl
instance : TUnd Tryd.prog 15 (.pointer 126) := ⟨Tryd.underlying15⟩
instance : TSize Tryd.prog 16 1 := ⟨Tryd.sizeOf16⟩
instance : TAgg Tryd.prog 16 false := ⟨Tryd.isAgg16⟩
instance : TZero Tryd.prog 16 (Go.Value.pointer Option.none) := ⟨Tryd.zeroValue16⟩
theorem row16 : (Tryd.prog.info? 16).map (fun i => (i.size, i.bytes)) = some (1, 8) := by kernel_rfl
instance : TUnd Tryd.prog 16 (.pointer 129) := ⟨Tryd.underlying16⟩
instance : TSize Tryd.prog 17 1 := ⟨Tryd.sizeOf17⟩
instance : TAgg Tryd.prog 17 false := ⟨Tryd.isAgg17⟩
instance : TZero Tryd.prog 17 (Go.Value.pointer Option.none) := ⟨Tryd.zeroValue17⟩
theorem row17 : (Tryd.prog.info? 17).map (fun i => (i.size, i.bytes)) = some (1, 8) := by kernel_rfl
instance : TUnd Tryd.prog 17 (.pointer 138) := ⟨Tryd.underlying17⟩
instance : TSize Tryd.prog 18 1 := ⟨Tryd.sizeOf18⟩
instance : TAgg Tryd.prog 18 true := ⟨Tryd.isAgg18⟩
def zc18 : Array Value :=  #[Go.Value.pointer Option.none]
theorem zc18_size : zc18.size = 1 := rfl
instance : TZero Tryd.prog 18 (.agg zc18) := ⟨Tryd.zeroValue18⟩
theorem row18 : (Tryd.prog.info? 18).map (fun i => (i.size, i.bytes)) = some (1, 8) := by kernel_rfl
instance : TFld Tryd.prog 18 0 0 17 1 := ⟨⟨_, _, Tryd.underlying18, rfl, rfl, rfl, Tryd.sizeOf17, by decide⟩⟩
instance : TBuild Tryd.prog 18 zc18 [(0, 1)] := ⟨fun _ => by kernel_rfl⟩
instance : TSize Tryd.prog 19 1 := ⟨Tryd.sizeOf19⟩
instance : TAgg Tryd.prog 19 true := ⟨Tryd.isAgg19⟩
def zc19 : Array Value :=  #[Go.Value.pointer Option.none]
theorem zc19_size : zc19.size = 1 := rfl
instance : TZero Tryd.prog 19 (.agg zc19) := ⟨Tryd.zeroValue19⟩
theorem row19 : (Tryd.prog.info? 19).map (fun i => (i.size, i.bytes)) = some (1, 8) := by kernel_rfl
instance : TFld Tryd.prog 19 0 0 17 1 := ⟨⟨_, _, Tryd.underlying19, rfl, rfl, rfl, Tryd.sizeOf17, by decide⟩⟩
instance : TBuild Tryd.prog 19 zc19 [(0, 1)] := ⟨fun _ => by kernel_rfl⟩
instance : TSize Tryd.prog 20 1 := ⟨Tryd.sizeOf20⟩
instance : TAgg Tryd.prog 20 false := ⟨Tryd.isAgg20⟩
instance : TZero Tryd.prog 20 (Go.Value.nilIface) := ⟨Tryd.zeroValue20⟩
theorem row20 : (Tryd.prog.info? 20).map (fun i => (i.size, i.bytes)) = some (1, 16) := by kernel_rfl
instance : TUnd Tryd.prog 20 (Go.TypeDesc.interface #[]) := ⟨Tryd.underlying20⟩
instance : TSize Tryd.prog 21 1 := ⟨Tryd.sizeOf21⟩
instance : TAgg Tryd.prog 21 false := ⟨Tryd.isAgg21⟩
instance : TZero Tryd.prog 21 (Go.Value.int Go.IntKind.i32 0) := ⟨Tryd.zeroValue21⟩
theorem row21 : (Tryd.prog.info? 21).map (fun i => (i.size, i.bytes)) = some (1, 4) := by kernel_rfl
instance : TUnd Tryd.prog 21 (.int Go.IntKind.i32) := ⟨Tryd.underlying21⟩
instance : TSize Tryd.prog 22 1 := ⟨Tryd.sizeOf22⟩
instance : TAgg Tryd.prog 22 false := ⟨Tryd.isAgg22⟩
instance : TZero Tryd.prog 22 (Go.Value.int Go.IntKind.u64 0) := ⟨Tryd.zeroValue22⟩
theorem row22 : (Tryd.prog.info? 22).map (fun i => (i.size, i.bytes)) = some (1, 8) := by kernel_rfl
instance : TUnd Tryd.prog 22 (.int Go.IntKind.u64) := ⟨Tryd.underlying22⟩
instance : TSize Tryd.prog 23 1 := ⟨Tryd.sizeOf23⟩
instance : TAgg Tryd.prog 23 false := ⟨Tryd.isAgg23⟩
instance : TZero Tryd.prog 23 (Go.Value.nilFunc) := ⟨Tryd.zeroValue23⟩
theorem row23 : (Tryd.prog.info? 23).map (fun i => (i.size, i.bytes)) = some (1, 8) := by kernel_rfl
instance : TSize Tryd.prog 24 1 := ⟨Tryd.sizeOf24⟩
instance : TAgg Tryd.prog 24 false := ⟨Tryd.isAgg24⟩
instance : TZero Tryd.prog 24 (Go.Value.slice Option.none 0 0) := ⟨Tryd.zeroValue24⟩
theorem row24 : (Tryd.prog.info? 24).map (fun i => (i.size, i.bytes)) = some (1, 24) := by kernel_rfl
instance : TUnd Tryd.prog 24 (.slice 5) := ⟨Tryd.underlying24⟩
instance : TSize Tryd.prog 25 1 := ⟨Tryd.sizeOf25⟩
instance : TAgg Tryd.prog 25 false := ⟨Tryd.isAgg25⟩
instance : TZero Tryd.prog 25 (Go.Value.nilFunc) := ⟨Tryd.zeroValue25⟩
theorem row25 : (Tryd.prog.info? 25).map (fun i => (i.size, i.bytes)) = some (1, 8) := by kernel_rfl
instance : TSize Tryd.prog 26 1 := ⟨Tryd.sizeOf26⟩
instance : TAgg Tryd.prog 26 false := ⟨Tryd.isAgg26⟩
instance : TZero Tryd.prog 26 (Go.Value.nilFunc) := ⟨Tryd.zeroValue26⟩
theorem row26 : (Tryd.prog.info? 26).map (fun i => (i.size, i.bytes)) = some (1, 8) := by kernel_rfl
instance : TSize Tryd.prog 27 1 := ⟨Tryd.sizeOf27⟩
instance : TAgg Tryd.prog 27 false := ⟨Tryd.isAgg27⟩
instance : TZero Tryd.prog 27 (Go.Value.nilFunc) := ⟨Tryd.zeroValue27⟩
theorem row27 : (Tryd.prog.info? 27).map (fun i => (i.size, i.bytes)) = some (1, 8) := by kernel_rfl
instance : TSize Tryd.prog 28 1 := ⟨Tryd.sizeOf28⟩
instance : TAgg Tryd.prog 28 false := ⟨Tryd.isAgg28⟩
instance : TZero Tryd.prog 28 (Go.Value.nilFunc) := ⟨Tryd.zeroValue28⟩
theorem row28 : (Tryd.prog.info? 28).map (fun i => (i.size, i.bytes)) = some (1, 8) := by kernel_rfl
instance : TSize Tryd.prog 29 1 := ⟨Tryd.sizeOf29⟩
instance : TAgg Tryd.prog 29 false := ⟨Tryd.isAgg29⟩
instance : TZero Tryd.prog 29 (Go.Value.nilFunc) := ⟨Tryd.zeroValue29⟩
theorem row29 : (Tryd.prog.info? 29).map (fun i => (i.size, i.bytes)) = some (1, 8) := by kernel_rfl
instance : TSize Tryd.prog 30 1 := ⟨Tryd.sizeOf30⟩
instance : TAgg Tryd.prog 30 false := ⟨Tryd.isAgg30⟩
instance : TZero Tryd.prog 30 (Go.Value.nilFunc) := ⟨Tryd.zeroValue30⟩
theorem row30 : (Tryd.prog.info? 30).map (fun i => (i.size, i.bytes)) = some (1, 8) := by kernel_rfl
instance : TSize Tryd.prog 31 1 := ⟨Tryd.sizeOf31⟩
instance : TAgg Tryd.prog 31 false := ⟨Tryd.isAgg31⟩
instance : TZero Tryd.prog 31 (Go.Value.nilFunc) := ⟨Tryd.zeroValue31⟩
theorem row31 : (Tryd.prog.info? 31).map (fun i => (i.size, i.bytes)) = some (1, 8) := by kernel_rfl
instance : TSize Tryd.prog 32 1 := ⟨Tryd.sizeOf32⟩
instance : TAgg Tryd.prog 32 false := ⟨Tryd.isAgg32⟩
instance : TZero Tryd.prog 32 (Go.Value.nilFunc) := ⟨Tryd.zeroValue32⟩
theorem row32 : (Tryd.prog.info? 32).map (fun i => (i.size, i.bytes)) = some (1, 8) := by kernel_rfl
instance : TSize Tryd.prog 33 1 := ⟨Tryd.sizeOf33⟩
instance : TAgg Tryd.prog 33 false := ⟨Tryd.isAgg33⟩
instance : TZero Tryd.prog 33 (Go.Value.nilFunc) := ⟨Tryd.zeroValue33⟩
theorem row33 : (Tryd.prog.info? 33).map (fun i => (i.size, i.bytes)) = some (1, 8) := by kernel_rfl
instance : TSize Tryd.prog 34 1 := ⟨Tryd.sizeOf34⟩
instance : TAgg Tryd.prog 34 false := ⟨Tryd.isAgg34⟩
instance : TZero Tryd.prog 34 (Go.Value.nilFunc) := ⟨Tryd.zeroValue34⟩
theorem row34 : (Tryd.prog.info? 34).map (fun i => (i.size, i.bytes)) = some (1, 8) := by kernel_rfl
instance : TSize Tryd.prog 35 1 := ⟨Tryd.sizeOf35⟩
instance : TAgg Tryd.prog 35 false := ⟨Tryd.isAgg35⟩
instance : TZero Tryd.prog 35 (Go.Value.slice Option.none 0 0) := ⟨Tryd.zeroValue35⟩
theorem row35 : (Tryd.prog.info? 35).map (fun i => (i.size, i.bytes)) = some (1, 24) := by kernel_rfl
instance : TUnd Tryd.prog 35 (.slice 41) := ⟨Tryd.underlying35⟩
instance : TSize Tryd.prog 36 1 := ⟨Tryd.sizeOf36⟩
instance : TAgg Tryd.prog 36 false := ⟨Tryd.isAgg36⟩
instance : TZero Tryd.prog 36 (Go.Value.pointer Option.none) := ⟨Tryd.zeroValue36⟩
theorem row36 : (Tryd.prog.info? 36).map (fun i => (i.size, i.bytes)) = some (1, 8) := by kernel_rfl
instance : TUnd Tryd.prog 36 (.pointer 81) := ⟨Tryd.underlying36⟩
instance : TSize Tryd.prog 37 1 := ⟨Tryd.sizeOf37⟩
instance : TAgg Tryd.prog 37 false := ⟨Tryd.isAgg37⟩
instance : TZero Tryd.prog 37 (Go.Value.nilFunc) := ⟨Tryd.zeroValue37⟩
theorem row37 : (Tryd.prog.info? 37).map (fun i => (i.size, i.bytes)) = some (1, 8) := by kernel_rfl
instance : TSize Tryd.prog 38 1 := ⟨Tryd.sizeOf38⟩
instance : TAgg Tryd.prog 38 false := ⟨Tryd.isAgg38⟩
instance : TZero Tryd.prog 38 (Go.Value.pointer Option.none) := ⟨Tryd.zeroValue38⟩
theorem row38 : (Tryd.prog.info? 38).map (fun i => (i.size, i.bytes)) = some (1, 8) := by kernel_rfl
instance : TUnd Tryd.prog 38 (.pointer 40) := ⟨Tryd.underlying38⟩
instance : TSize Tryd.prog 39 2 := ⟨Tryd.sizeOf39⟩
instance : TAgg Tryd.prog 39 true := ⟨Tryd.isAgg39⟩
def zc39 : Array Value :=  #[Go.Value.string { data := #[] }, Go.Value.int Go.IntKind.i64 0]
theorem zc39_size : zc39.size = 2 := rfl
instance : TZero Tryd.prog 39 (.agg zc39) := ⟨Tryd.zeroValue39⟩
theorem row39 : (Tryd.prog.info? 39).map (fun i => (i.size, i.bytes)) = some (2, 24) := by kernel_rfl
instance : TFld Tryd.prog 39 0 0 9 1 := ⟨⟨_, _, Tryd.underlying39, rfl, rfl, rfl, Tryd.sizeOf9, by decide⟩⟩
instance : TFld Tryd.prog 39 1 1 3 1 := ⟨⟨_, _, Tryd.underlying39, rfl, rfl, rfl, Tryd.sizeOf3, by decide⟩⟩
instance : TBuild Tryd.prog 39 zc39 [(0, 1), (1, 1)] := ⟨fun _ => by kernel_rfl⟩
instance : TSize Tryd.prog 40 2 := ⟨Tryd.sizeOf40⟩
instance : TAgg Tryd.prog 40 true := ⟨Tryd.isAgg40⟩
def zc40 : Array Value :=  #[Go.Value.string { data := #[] }, Go.Value.int Go.IntKind.i64 0]
theorem zc40_size : zc40.size = 2 := rfl
instance : TZero Tryd.prog 40 (.agg zc40) := ⟨Tryd.zeroValue40⟩
theorem row40 : (Tryd.prog.info? 40).map (fun i => (i.size, i.bytes)) = some (2, 24) := by kernel_rfl
instance : TFld Tryd.prog 40 0 0 9 1 := ⟨⟨_, _, Tryd.underlying40, rfl, rfl, rfl, Tryd.sizeOf9, by decide⟩⟩
instance : TFld Tryd.prog 40 1 1 3 1 := ⟨⟨_, _, Tryd.underlying40, rfl, rfl, rfl, Tryd.sizeOf3, by decide⟩⟩
instance : TBuild Tryd.prog 40 zc40 [(0, 1), (1, 1)] := ⟨fun _ => by kernel_rfl⟩
instance : TSize Tryd.prog 41 1 := ⟨Tryd.sizeOf41⟩
instance : TAgg Tryd.prog 41 false := ⟨Tryd.isAgg41⟩
instance : TZero Tryd.prog 41 (Go.Value.int Go.IntKind.i16 0) := ⟨Tryd.zeroValue41⟩
theorem row41 : (Tryd.prog.info? 41).map (fun i => (i.size, i.bytes)) = some (1, 2) := by kernel_rfl
instance : TUnd Tryd.prog 41 (.int Go.IntKind.i16) := ⟨Tryd.underlying41⟩
instance : TSize Tryd.prog 42 1 := ⟨Tryd.sizeOf42⟩
instance : TAgg Tryd.prog 42 false := ⟨Tryd.isAgg42⟩
instance : TZero Tryd.prog 42 (Go.Value.nilIface) := ⟨Tryd.zeroValue42⟩
theorem row42 : (Tryd.prog.info? 42).map (fun i => (i.size, i.bytes)) = some (1, 16) := by kernel_rfl
instance : TUnd Tryd.prog 42 (Go.TypeDesc.interface #[("Error", 124)]) := ⟨Tryd.underlying42⟩
instance : TSize Tryd.prog 43 1 := ⟨Tryd.sizeOf43⟩
instance : TAgg Tryd.prog 43 false := ⟨Tryd.isAgg43⟩
instance : TZero Tryd.prog 43 (Go.Value.nilIface) := ⟨Tryd.zeroValue43⟩
theorem row43 : (Tryd.prog.info? 43).map (fun i => (i.size, i.bytes)) = some (1, 16) := by kernel_rfl
instance : TUnd Tryd.prog 43 (Go.TypeDesc.interface #[("Error", 124)]) := ⟨Tryd.underlying43⟩
instance : TSize Tryd.prog 44 1 := ⟨Tryd.sizeOf44⟩
instance : TAgg Tryd.prog 44 false := ⟨Tryd.isAgg44⟩
instance : TZero Tryd.prog 44 (Go.Value.tuple #[Go.Value.int Go.IntKind.u64 0, Go.Value.nilIface]) := ⟨Tryd.zeroValue44⟩
theorem row44 : (Tryd.prog.info? 44).map (fun i => (i.size, i.bytes)) = some (1, 0) := by kernel_rfl
instance : TSize Tryd.prog 45 1 := ⟨Tryd.sizeOf45⟩
instance : TAgg Tryd.prog 45 false := ⟨Tryd.isAgg45⟩
instance : TZero Tryd.prog 45 (Go.Value.nilFunc) := ⟨Tryd.zeroValue45⟩
theorem row45 : (Tryd.prog.info? 45).map (fun i => (i.size, i.bytes)) = some (1, 8) := by kernel_rfl
instance : TSize Tryd.prog 46 1 := ⟨Tryd.sizeOf46⟩
instance : TAgg Tryd.prog 46 false := ⟨Tryd.isAgg46⟩
instance : TZero Tryd.prog 46 (Go.Value.int Go.IntKind.i64 0) := ⟨Tryd.zeroValue46⟩
theorem row46 : (Tryd.prog.info? 46).map (fun i => (i.size, i.bytes)) = some (1, 8) := by kernel_rfl
instance : TUnd Tryd.prog 46 (.int Go.IntKind.i64) := ⟨Tryd.underlying46⟩
instance : TSize Tryd.prog 47 2 := ⟨Tryd.sizeOf47⟩
instance : TAgg Tryd.prog 47 true := ⟨Tryd.isAgg47⟩
def zc47 : Array Value :=  #[Go.Value.int Go.IntKind.i64 0, Go.Value.int Go.IntKind.i64 0]
theorem zc47_size : zc47.size = 2 := rfl
instance : TZero Tryd.prog 47 (.agg zc47) := ⟨Tryd.zeroValue47⟩
theorem row47 : (Tryd.prog.info? 47).map (fun i => (i.size, i.bytes)) = some (2, 16) := by kernel_rfl
instance : TFld Tryd.prog 47 0 0 46 1 := ⟨⟨_, _, Tryd.underlying47, rfl, rfl, rfl, Tryd.sizeOf46, by decide⟩⟩
instance : TFld Tryd.prog 47 1 1 3 1 := ⟨⟨_, _, Tryd.underlying47, rfl, rfl, rfl, Tryd.sizeOf3, by decide⟩⟩
instance : TBuild Tryd.prog 47 zc47 [(0, 1), (1, 1)] := ⟨fun _ => by kernel_rfl⟩
instance : TSize Tryd.prog 48 2 := ⟨Tryd.sizeOf48⟩
instance : TAgg Tryd.prog 48 true := ⟨Tryd.isAgg48⟩
def zc48 : Array Value :=  #[Go.Value.int Go.IntKind.i64 0, Go.Value.int Go.IntKind.i64 0]
theorem zc48_size : zc48.size = 2 := rfl
instance : TZero Tryd.prog 48 (.agg zc48) := ⟨Tryd.zeroValue48⟩
theorem row48 : (Tryd.prog.info? 48).map (fun i => (i.size, i.bytes)) = some (2, 16) := by kernel_rfl
instance : TFld Tryd.prog 48 0 0 46 1 := ⟨⟨_, _, Tryd.underlying48, rfl, rfl, rfl, Tryd.sizeOf46, by decide⟩⟩
instance : TFld Tryd.prog 48 1 1 3 1 := ⟨⟨_, _, Tryd.underlying48, rfl, rfl, rfl, Tryd.sizeOf3, by decide⟩⟩
instance : TBuild Tryd.prog 48 zc48 [(0, 1), (1, 1)] := ⟨fun _ => by kernel_rfl⟩
instance : TSize Tryd.prog 49 1 := ⟨Tryd.sizeOf49⟩
instance : TAgg Tryd.prog 49 false := ⟨Tryd.isAgg49⟩
instance : TZero Tryd.prog 49 (Go.Value.tuple #[Go.Value.int Go.IntKind.u64 0, Go.Value.agg #[Go.Value.int Go.IntKind.i64 0, Go.Value.int Go.IntKind.i64 0]]) := ⟨Tryd.zeroValue49⟩
theorem row49 : (Tryd.prog.info? 49).map (fun i => (i.size, i.bytes)) = some (1, 0) := by kernel_rfl
instance : TSize Tryd.prog 50 1 := ⟨Tryd.sizeOf50⟩
instance : TAgg Tryd.prog 50 false := ⟨Tryd.isAgg50⟩
instance : TZero Tryd.prog 50 (Go.Value.nilFunc) := ⟨Tryd.zeroValue50⟩
theorem row50 : (Tryd.prog.info? 50).map (fun i => (i.size, i.bytes)) = some (1, 8) := by kernel_rfl
instance : TSize Tryd.prog 51 1 := ⟨Tryd.sizeOf51⟩
instance : TAgg Tryd.prog 51 false := ⟨Tryd.isAgg51⟩
instance : TZero Tryd.prog 51 (Go.Value.nilFunc) := ⟨Tryd.zeroValue51⟩
theorem row51 : (Tryd.prog.info? 51).map (fun i => (i.size, i.bytes)) = some (1, 8) := by kernel_rfl
instance : TSize Tryd.prog 52 1 := ⟨Tryd.sizeOf52⟩
instance : TAgg Tryd.prog 52 false := ⟨Tryd.isAgg52⟩
instance : TZero Tryd.prog 52 (Go.Value.tuple #[Go.Value.int Go.IntKind.i64 0, Go.Value.nilIface]) := ⟨Tryd.zeroValue52⟩
theorem row52 : (Tryd.prog.info? 52).map (fun i => (i.size, i.bytes)) = some (1, 0) := by kernel_rfl
instance : TSize Tryd.prog 53 1 := ⟨Tryd.sizeOf53⟩
instance : TAgg Tryd.prog 53 false := ⟨Tryd.isAgg53⟩
instance : TZero Tryd.prog 53 (Go.Value.nilFunc) := ⟨Tryd.zeroValue53⟩
theorem row53 : (Tryd.prog.info? 53).map (fun i => (i.size, i.bytes)) = some (1, 8) := by kernel_rfl
instance : TSize Tryd.prog 54 1 := ⟨Tryd.sizeOf54⟩
instance : TAgg Tryd.prog 54 false := ⟨Tryd.isAgg54⟩
instance : TZero Tryd.prog 54 (Go.Value.tuple #[Go.Value.int Go.IntKind.i64 0, Go.Value.agg #[Go.Value.int Go.IntKind.i64 0, Go.Value.int Go.IntKind.i64 0]]) := ⟨Tryd.zeroValue54⟩
theorem row54 : (Tryd.prog.info? 54).map (fun i => (i.size, i.bytes)) = some (1, 0) := by kernel_rfl
instance : TSize Tryd.prog 55 1 := ⟨Tryd.sizeOf55⟩
instance : TAgg Tryd.prog 55 false := ⟨Tryd.isAgg55⟩
instance : TZero Tryd.prog 55 (Go.Value.nilFunc) := ⟨Tryd.zeroValue55⟩
theorem row55 : (Tryd.prog.info? 55).map (fun i => (i.size, i.bytes)) = some (1, 8) := by kernel_rfl
instance : TSize Tryd.prog 56 1 := ⟨Tryd.sizeOf56⟩
instance : TAgg Tryd.prog 56 false := ⟨Tryd.isAgg56⟩
instance : TZero Tryd.prog 56 (Go.Value.tuple #[Go.Value.int Go.IntKind.u8 0, Go.Value.nilIface]) := ⟨Tryd.zeroValue56⟩
theorem row56 : (Tryd.prog.info? 56).map (fun i => (i.size, i.bytes)) = some (1, 0) := by kernel_rfl
instance : TSize Tryd.prog 57 1 := ⟨Tryd.sizeOf57⟩
instance : TAgg Tryd.prog 57 false := ⟨Tryd.isAgg57⟩
instance : TZero Tryd.prog 57 (Go.Value.nilFunc) := ⟨Tryd.zeroValue57⟩
theorem row57 : (Tryd.prog.info? 57).map (fun i => (i.size, i.bytes)) = some (1, 8) := by kernel_rfl
instance : TSize Tryd.prog 58 1 := ⟨Tryd.sizeOf58⟩
instance : TAgg Tryd.prog 58 false := ⟨Tryd.isAgg58⟩
instance : TZero Tryd.prog 58 (Go.Value.tuple #[Go.Value.int Go.IntKind.u8 0, Go.Value.agg #[Go.Value.int Go.IntKind.i64 0, Go.Value.int Go.IntKind.i64 0]]) := ⟨Tryd.zeroValue58⟩
theorem row58 : (Tryd.prog.info? 58).map (fun i => (i.size, i.bytes)) = some (1, 0) := by kernel_rfl
instance : TSize Tryd.prog 59 1 := ⟨Tryd.sizeOf59⟩
instance : TAgg Tryd.prog 59 false := ⟨Tryd.isAgg59⟩
instance : TZero Tryd.prog 59 (Go.Value.nilFunc) := ⟨Tryd.zeroValue59⟩
theorem row59 : (Tryd.prog.info? 59).map (fun i => (i.size, i.bytes)) = some (1, 8) := by kernel_rfl
instance : TSize Tryd.prog 60 1 := ⟨Tryd.sizeOf60⟩
instance : TAgg Tryd.prog 60 false := ⟨Tryd.isAgg60⟩
instance : TZero Tryd.prog 60 (Go.Value.tuple #[Go.Value.bool Bool.false, Go.Value.nilIface]) := ⟨Tryd.zeroValue60⟩
theorem row60 : (Tryd.prog.info? 60).map (fun i => (i.size, i.bytes)) = some (1, 0) := by kernel_rfl
instance : TSize Tryd.prog 61 1 := ⟨Tryd.sizeOf61⟩
instance : TAgg Tryd.prog 61 false := ⟨Tryd.isAgg61⟩
instance : TZero Tryd.prog 61 (Go.Value.nilFunc) := ⟨Tryd.zeroValue61⟩
theorem row61 : (Tryd.prog.info? 61).map (fun i => (i.size, i.bytes)) = some (1, 8) := by kernel_rfl
instance : TSize Tryd.prog 62 1 := ⟨Tryd.sizeOf62⟩
instance : TAgg Tryd.prog 62 false := ⟨Tryd.isAgg62⟩
instance : TZero Tryd.prog 62 (Go.Value.tuple #[Go.Value.bool Bool.false, Go.Value.agg #[Go.Value.int Go.IntKind.i64 0, Go.Value.int Go.IntKind.i64 0]]) := ⟨Tryd.zeroValue62⟩
theorem row62 : (Tryd.prog.info? 62).map (fun i => (i.size, i.bytes)) = some (1, 0) := by kernel_rfl
instance : TSize Tryd.prog 63 1 := ⟨Tryd.sizeOf63⟩
instance : TAgg Tryd.prog 63 false := ⟨Tryd.isAgg63⟩
instance : TZero Tryd.prog 63 (Go.Value.nilFunc) := ⟨Tryd.zeroValue63⟩
theorem row63 : (Tryd.prog.info? 63).map (fun i => (i.size, i.bytes)) = some (1, 8) := by kernel_rfl
instance : TSize Tryd.prog 64 1 := ⟨Tryd.sizeOf64⟩
instance : TAgg Tryd.prog 64 false := ⟨Tryd.isAgg64⟩
instance : TZero Tryd.prog 64 (Go.Value.tuple #[Go.Value.string { data := #[] }, Go.Value.nilIface]) := ⟨Tryd.zeroValue64⟩
theorem row64 : (Tryd.prog.info? 64).map (fun i => (i.size, i.bytes)) = some (1, 0) := by kernel_rfl
instance : TSize Tryd.prog 65 1 := ⟨Tryd.sizeOf65⟩
instance : TAgg Tryd.prog 65 false := ⟨Tryd.isAgg65⟩
instance : TZero Tryd.prog 65 (Go.Value.nilFunc) := ⟨Tryd.zeroValue65⟩
theorem row65 : (Tryd.prog.info? 65).map (fun i => (i.size, i.bytes)) = some (1, 8) := by kernel_rfl
instance : TSize Tryd.prog 66 1 := ⟨Tryd.sizeOf66⟩
instance : TAgg Tryd.prog 66 false := ⟨Tryd.isAgg66⟩
instance : TZero Tryd.prog 66 (Go.Value.tuple #[Go.Value.string { data := #[] }, Go.Value.agg #[Go.Value.int Go.IntKind.i64 0, Go.Value.int Go.IntKind.i64 0]]) := ⟨Tryd.zeroValue66⟩
theorem row66 : (Tryd.prog.info? 66).map (fun i => (i.size, i.bytes)) = some (1, 0) := by kernel_rfl
instance : TSize Tryd.prog 67 1 := ⟨Tryd.sizeOf67⟩
instance : TAgg Tryd.prog 67 false := ⟨Tryd.isAgg67⟩
instance : TZero Tryd.prog 67 (Go.Value.nilFunc) := ⟨Tryd.zeroValue67⟩
theorem row67 : (Tryd.prog.info? 67).map (fun i => (i.size, i.bytes)) = some (1, 8) := by kernel_rfl
instance : TSize Tryd.prog 68 1 := ⟨Tryd.sizeOf68⟩
instance : TAgg Tryd.prog 68 false := ⟨Tryd.isAgg68⟩
instance : TZero Tryd.prog 68 (Go.Value.nilFunc) := ⟨Tryd.zeroValue68⟩
theorem row68 : (Tryd.prog.info? 68).map (fun i => (i.size, i.bytes)) = some (1, 8) := by kernel_rfl
instance : TSize Tryd.prog 69 1 := ⟨Tryd.sizeOf69⟩
instance : TAgg Tryd.prog 69 false := ⟨Tryd.isAgg69⟩
instance : TZero Tryd.prog 69 (Go.Value.nilFunc) := ⟨Tryd.zeroValue69⟩
theorem row69 : (Tryd.prog.info? 69).map (fun i => (i.size, i.bytes)) = some (1, 8) := by kernel_rfl
instance : TSize Tryd.prog 70 1 := ⟨Tryd.sizeOf70⟩
instance : TAgg Tryd.prog 70 false := ⟨Tryd.isAgg70⟩
instance : TZero Tryd.prog 70 (Go.Value.nilFunc) := ⟨Tryd.zeroValue70⟩
theorem row70 : (Tryd.prog.info? 70).map (fun i => (i.size, i.bytes)) = some (1, 8) := by kernel_rfl
instance : TSize Tryd.prog 71 1 := ⟨Tryd.sizeOf71⟩
instance : TAgg Tryd.prog 71 false := ⟨Tryd.isAgg71⟩
instance : TZero Tryd.prog 71 (Go.Value.nilFunc) := ⟨Tryd.zeroValue71⟩
theorem row71 : (Tryd.prog.info? 71).map (fun i => (i.size, i.bytes)) = some (1, 8) := by kernel_rfl
instance : TSize Tryd.prog 72 1 := ⟨Tryd.sizeOf72⟩
instance : TAgg Tryd.prog 72 false := ⟨Tryd.isAgg72⟩
instance : TZero Tryd.prog 72 (Go.Value.nilFunc) := ⟨Tryd.zeroValue72⟩
theorem row72 : (Tryd.prog.info? 72).map (fun i => (i.size, i.bytes)) = some (1, 8) := by kernel_rfl
instance : TSize Tryd.prog 73 1 := ⟨Tryd.sizeOf73⟩
instance : TAgg Tryd.prog 73 false := ⟨Tryd.isAgg73⟩
instance : TZero Tryd.prog 73 (Go.Value.slice Option.none 0 0) := ⟨Tryd.zeroValue73⟩
theorem row73 : (Tryd.prog.info? 73).map (fun i => (i.size, i.bytes)) = some (1, 24) := by kernel_rfl
instance : TUnd Tryd.prog 73 (.slice 76) := ⟨Tryd.underlying73⟩
instance : TSize Tryd.prog 74 1 := ⟨Tryd.sizeOf74⟩
instance : TAgg Tryd.prog 74 false := ⟨Tryd.isAgg74⟩
instance : TZero Tryd.prog 74 (Go.Value.slice Option.none 0 0) := ⟨Tryd.zeroValue74⟩
theorem row74 : (Tryd.prog.info? 74).map (fun i => (i.size, i.bytes)) = some (1, 24) := by kernel_rfl
instance : TUnd Tryd.prog 74 (.slice 3) := ⟨Tryd.underlying74⟩
instance : TSize Tryd.prog 75 3 := ⟨Tryd.sizeOf75⟩
instance : TAgg Tryd.prog 75 true := ⟨Tryd.isAgg75⟩
def zc75 : Array Value :=  #[Go.Value.int Go.IntKind.u8 0, Go.Value.int Go.IntKind.u64 0, Go.Value.string { data := #[] }]
theorem zc75_size : zc75.size = 3 := rfl
instance : TZero Tryd.prog 75 (.agg zc75) := ⟨Tryd.zeroValue75⟩
theorem row75 : (Tryd.prog.info? 75).map (fun i => (i.size, i.bytes)) = some (3, 32) := by kernel_rfl
instance : TFld Tryd.prog 75 0 0 5 1 := ⟨⟨_, _, Tryd.underlying75, rfl, rfl, rfl, Tryd.sizeOf5, by decide⟩⟩
instance : TFld Tryd.prog 75 1 1 22 1 := ⟨⟨_, _, Tryd.underlying75, rfl, rfl, rfl, Tryd.sizeOf22, by decide⟩⟩
instance : TFld Tryd.prog 75 2 2 9 1 := ⟨⟨_, _, Tryd.underlying75, rfl, rfl, rfl, Tryd.sizeOf9, by decide⟩⟩
instance : TBuild Tryd.prog 75 zc75 [(0, 1), (1, 1), (2, 1)] := ⟨fun _ => by kernel_rfl⟩
instance : TSize Tryd.prog 76 3 := ⟨Tryd.sizeOf76⟩
instance : TAgg Tryd.prog 76 true := ⟨Tryd.isAgg76⟩
def zc76 : Array Value :=  #[Go.Value.int Go.IntKind.u8 0, Go.Value.int Go.IntKind.u64 0, Go.Value.string { data := #[] }]
theorem zc76_size : zc76.size = 3 := rfl
instance : TZero Tryd.prog 76 (.agg zc76) := ⟨Tryd.zeroValue76⟩
theorem row76 : (Tryd.prog.info? 76).map (fun i => (i.size, i.bytes)) = some (3, 32) := by kernel_rfl
instance : TFld Tryd.prog 76 0 0 5 1 := ⟨⟨_, _, Tryd.underlying76, rfl, rfl, rfl, Tryd.sizeOf5, by decide⟩⟩
instance : TFld Tryd.prog 76 1 1 22 1 := ⟨⟨_, _, Tryd.underlying76, rfl, rfl, rfl, Tryd.sizeOf22, by decide⟩⟩
instance : TFld Tryd.prog 76 2 2 9 1 := ⟨⟨_, _, Tryd.underlying76, rfl, rfl, rfl, Tryd.sizeOf9, by decide⟩⟩
instance : TBuild Tryd.prog 76 zc76 [(0, 1), (1, 1), (2, 1)] := ⟨fun _ => by kernel_rfl⟩
instance : TSize Tryd.prog 77 1 := ⟨Tryd.sizeOf77⟩
instance : TAgg Tryd.prog 77 false := ⟨Tryd.isAgg77⟩
instance : TZero Tryd.prog 77 (Go.Value.nilFunc) := ⟨Tryd.zeroValue77⟩
theorem row77 : (Tryd.prog.info? 77).map (fun i => (i.size, i.bytes)) = some (1, 8) := by kernel_rfl
instance : TSize Tryd.prog 78 10 := ⟨Tryd.sizeOf78⟩
instance : TAgg Tryd.prog 78 true := ⟨Tryd.isAgg78⟩
def zc78 : Array Value :=  #[Go.Value.int Go.IntKind.u8 0, Go.Value.int Go.IntKind.u8 0, Go.Value.int Go.IntKind.u8 0, Go.Value.int Go.IntKind.u8 0, Go.Value.int Go.IntKind.u8 0, Go.Value.int Go.IntKind.u8 0, Go.Value.int Go.IntKind.u8 0, Go.Value.int Go.IntKind.u8 0, Go.Value.int Go.IntKind.u8 0, Go.Value.int Go.IntKind.u8 0]
theorem zc78_size : zc78.size = 10 := rfl
instance : TZero Tryd.prog 78 (.agg zc78) := ⟨Tryd.zeroValue78⟩
theorem row78 : (Tryd.prog.info? 78).map (fun i => (i.size, i.bytes)) = some (10, 10) := by kernel_rfl
instance : TUnd Tryd.prog 78 (.array 10 5) := ⟨Tryd.underlying78⟩
instance : TSize Tryd.prog 79 1 := ⟨Tryd.sizeOf79⟩
instance : TAgg Tryd.prog 79 false := ⟨Tryd.isAgg79⟩
instance : TZero Tryd.prog 79 (Go.Value.int Go.IntKind.u64 0) := ⟨Tryd.zeroValue79⟩
theorem row79 : (Tryd.prog.info? 79).map (fun i => (i.size, i.bytes)) = some (1, 8) := by kernel_rfl
instance : TUnd Tryd.prog 79 (.int Go.IntKind.u64) := ⟨Tryd.underlying79⟩
instance : TSize Tryd.prog 80 2 := ⟨Tryd.sizeOf80⟩
instance : TAgg Tryd.prog 80 true := ⟨Tryd.isAgg80⟩
def zc80 : Array Value :=  #[Go.Value.string { data := #[] }, Go.Value.int Go.IntKind.i64 0]
theorem zc80_size : zc80.size = 2 := rfl
instance : TZero Tryd.prog 80 (.agg zc80) := ⟨Tryd.zeroValue80⟩
theorem row80 : (Tryd.prog.info? 80).map (fun i => (i.size, i.bytes)) = some (2, 24) := by kernel_rfl
instance : TFld Tryd.prog 80 0 0 9 1 := ⟨⟨_, _, Tryd.underlying80, rfl, rfl, rfl, Tryd.sizeOf9, by decide⟩⟩
instance : TFld Tryd.prog 80 1 1 3 1 := ⟨⟨_, _, Tryd.underlying80, rfl, rfl, rfl, Tryd.sizeOf3, by decide⟩⟩
instance : TBuild Tryd.prog 80 zc80 [(0, 1), (1, 1)] := ⟨fun _ => by kernel_rfl⟩
instance : TSize Tryd.prog 81 2 := ⟨Tryd.sizeOf81⟩
instance : TAgg Tryd.prog 81 true := ⟨Tryd.isAgg81⟩
def zc81 : Array Value :=  #[Go.Value.string { data := #[] }, Go.Value.int Go.IntKind.i64 0]
theorem zc81_size : zc81.size = 2 := rfl
instance : TZero Tryd.prog 81 (.agg zc81) := ⟨Tryd.zeroValue81⟩
theorem row81 : (Tryd.prog.info? 81).map (fun i => (i.size, i.bytes)) = some (2, 24) := by kernel_rfl
instance : TFld Tryd.prog 81 0 0 9 1 := ⟨⟨_, _, Tryd.underlying81, rfl, rfl, rfl, Tryd.sizeOf9, by decide⟩⟩
instance : TFld Tryd.prog 81 1 1 3 1 := ⟨⟨_, _, Tryd.underlying81, rfl, rfl, rfl, Tryd.sizeOf3, by decide⟩⟩
instance : TBuild Tryd.prog 81 zc81 [(0, 1), (1, 1)] := ⟨fun _ => by kernel_rfl⟩
instance : TSize Tryd.prog 82 1 := ⟨Tryd.sizeOf82⟩
instance : TAgg Tryd.prog 82 false := ⟨Tryd.isAgg82⟩
instance : TZero Tryd.prog 82 (Go.Value.nilFunc) := ⟨Tryd.zeroValue82⟩
theorem row82 : (Tryd.prog.info? 82).map (fun i => (i.size, i.bytes)) = some (1, 8) := by kernel_rfl
instance : TSize Tryd.prog 83 1 := ⟨Tryd.sizeOf83⟩
instance : TAgg Tryd.prog 83 false := ⟨Tryd.isAgg83⟩
instance : TZero Tryd.prog 83 (Go.Value.pointer Option.none) := ⟨Tryd.zeroValue83⟩
theorem row83 : (Tryd.prog.info? 83).map (fun i => (i.size, i.bytes)) = some (1, 8) := by kernel_rfl
instance : TUnd Tryd.prog 83 (.pointer 43) := ⟨Tryd.underlying83⟩
instance : TSize Tryd.prog 84 1 := ⟨Tryd.sizeOf84⟩
instance : TAgg Tryd.prog 84 false := ⟨Tryd.isAgg84⟩
instance : TZero Tryd.prog 84 (Go.Value.tuple #[Go.Value.int Go.IntKind.u64 0, Go.Value.int Go.IntKind.i64 0]) := ⟨Tryd.zeroValue84⟩
theorem row84 : (Tryd.prog.info? 84).map (fun i => (i.size, i.bytes)) = some (1, 0) := by kernel_rfl
instance : TSize Tryd.prog 85 1 := ⟨Tryd.sizeOf85⟩
instance : TAgg Tryd.prog 85 false := ⟨Tryd.isAgg85⟩
instance : TZero Tryd.prog 85 (Go.Value.nilFunc) := ⟨Tryd.zeroValue85⟩
theorem row85 : (Tryd.prog.info? 85).map (fun i => (i.size, i.bytes)) = some (1, 8) := by kernel_rfl
instance : TSize Tryd.prog 86 1 := ⟨Tryd.sizeOf86⟩
instance : TAgg Tryd.prog 86 false := ⟨Tryd.isAgg86⟩
instance : TZero Tryd.prog 86 (Go.Value.nilFunc) := ⟨Tryd.zeroValue86⟩
theorem row86 : (Tryd.prog.info? 86).map (fun i => (i.size, i.bytes)) = some (1, 8) := by kernel_rfl
instance : TSize Tryd.prog 87 1 := ⟨Tryd.sizeOf87⟩
instance : TAgg Tryd.prog 87 false := ⟨Tryd.isAgg87⟩
instance : TZero Tryd.prog 87 (Go.Value.nilFunc) := ⟨Tryd.zeroValue87⟩
theorem row87 : (Tryd.prog.info? 87).map (fun i => (i.size, i.bytes)) = some (1, 8) := by kernel_rfl
instance : TSize Tryd.prog 88 1 := ⟨Tryd.sizeOf88⟩
instance : TAgg Tryd.prog 88 false := ⟨Tryd.isAgg88⟩
instance : TZero Tryd.prog 88 (Go.Value.pointer Option.none) := ⟨Tryd.zeroValue88⟩
theorem row88 : (Tryd.prog.info? 88).map (fun i => (i.size, i.bytes)) = some (1, 8) := by kernel_rfl
instance : TUnd Tryd.prog 88 (.pointer 48) := ⟨Tryd.underlying88⟩
instance : TSize Tryd.prog 89 1 := ⟨Tryd.sizeOf89⟩
instance : TAgg Tryd.prog 89 false := ⟨Tryd.isAgg89⟩
instance : TZero Tryd.prog 89 (Go.Value.nilFunc) := ⟨Tryd.zeroValue89⟩
theorem row89 : (Tryd.prog.info? 89).map (fun i => (i.size, i.bytes)) = some (1, 8) := by kernel_rfl
instance : TSize Tryd.prog 90 1 := ⟨Tryd.sizeOf90⟩
instance : TAgg Tryd.prog 90 false := ⟨Tryd.isAgg90⟩
instance : TZero Tryd.prog 90 (Go.Value.pointer Option.none) := ⟨Tryd.zeroValue90⟩
theorem row90 : (Tryd.prog.info? 90).map (fun i => (i.size, i.bytes)) = some (1, 8) := by kernel_rfl
instance : TUnd Tryd.prog 90 (.pointer 88) := ⟨Tryd.underlying90⟩
instance : TSize Tryd.prog 91 1 := ⟨Tryd.sizeOf91⟩
instance : TAgg Tryd.prog 91 false := ⟨Tryd.isAgg91⟩
instance : TZero Tryd.prog 91 (Go.Value.nilFunc) := ⟨Tryd.zeroValue91⟩
theorem row91 : (Tryd.prog.info? 91).map (fun i => (i.size, i.bytes)) = some (1, 8) := by kernel_rfl
instance : TSize Tryd.prog 92 1 := ⟨Tryd.sizeOf92⟩
instance : TAgg Tryd.prog 92 false := ⟨Tryd.isAgg92⟩
instance : TZero Tryd.prog 92 (Go.Value.nilFunc) := ⟨Tryd.zeroValue92⟩
theorem row92 : (Tryd.prog.info? 92).map (fun i => (i.size, i.bytes)) = some (1, 8) := by kernel_rfl
instance : TSize Tryd.prog 93 1 := ⟨Tryd.sizeOf93⟩
instance : TAgg Tryd.prog 93 false := ⟨Tryd.isAgg93⟩
instance : TZero Tryd.prog 93 (Go.Value.nilFunc) := ⟨Tryd.zeroValue93⟩
theorem row93 : (Tryd.prog.info? 93).map (fun i => (i.size, i.bytes)) = some (1, 8) := by kernel_rfl
instance : TSize Tryd.prog 94 1 := ⟨Tryd.sizeOf94⟩
instance : TAgg Tryd.prog 94 false := ⟨Tryd.isAgg94⟩
instance : TZero Tryd.prog 94 (Go.Value.tuple #[Go.Value.pointer Option.none, Go.Value.bool Bool.false]) := ⟨Tryd.zeroValue94⟩
theorem row94 : (Tryd.prog.info? 94).map (fun i => (i.size, i.bytes)) = some (1, 0) := by kernel_rfl
instance : TSize Tryd.prog 95 1 := ⟨Tryd.sizeOf95⟩
instance : TAgg Tryd.prog 95 false := ⟨Tryd.isAgg95⟩
instance : TZero Tryd.prog 95 (Go.Value.pointer Option.none) := ⟨Tryd.zeroValue95⟩
theorem row95 : (Tryd.prog.info? 95).map (fun i => (i.size, i.bytes)) = some (1, 8) := by kernel_rfl
instance : TSize Tryd.prog 96 1 := ⟨Tryd.sizeOf96⟩
instance : TAgg Tryd.prog 96 false := ⟨Tryd.isAgg96⟩
instance : TZero Tryd.prog 96 (Go.Value.int Go.IntKind.u64 0) := ⟨Tryd.zeroValue96⟩
theorem row96 : (Tryd.prog.info? 96).map (fun i => (i.size, i.bytes)) = some (1, 8) := by kernel_rfl
instance : TUnd Tryd.prog 96 (.int Go.IntKind.u64) := ⟨Tryd.underlying96⟩
instance : TSize Tryd.prog 97 3 := ⟨Tryd.sizeOf97⟩
instance : TAgg Tryd.prog 97 true := ⟨Tryd.isAgg97⟩
def zc97 : Array Value :=  #[Go.Value.pointer Option.none, Go.Value.pointer Option.none, Go.Value.int Go.IntKind.u64 0]
theorem zc97_size : zc97.size = 3 := rfl
instance : TZero Tryd.prog 97 (.agg zc97) := ⟨Tryd.zeroValue97⟩
theorem row97 : (Tryd.prog.info? 97).map (fun i => (i.size, i.bytes)) = some (3, 24) := by kernel_rfl
instance : TFld Tryd.prog 97 0 0 17 1 := ⟨⟨_, _, Tryd.underlying97, rfl, rfl, rfl, Tryd.sizeOf17, by decide⟩⟩
instance : TFld Tryd.prog 97 1 1 95 1 := ⟨⟨_, _, Tryd.underlying97, rfl, rfl, rfl, Tryd.sizeOf95, by decide⟩⟩
instance : TFld Tryd.prog 97 2 2 96 1 := ⟨⟨_, _, Tryd.underlying97, rfl, rfl, rfl, Tryd.sizeOf96, by decide⟩⟩
instance : TBuild Tryd.prog 97 zc97 [(0, 1), (1, 1), (2, 1)] := ⟨fun _ => by kernel_rfl⟩
instance : TSize Tryd.prog 98 3 := ⟨Tryd.sizeOf98⟩
instance : TAgg Tryd.prog 98 true := ⟨Tryd.isAgg98⟩
def zc98 : Array Value :=  #[Go.Value.pointer Option.none, Go.Value.pointer Option.none, Go.Value.int Go.IntKind.u64 0]
theorem zc98_size : zc98.size = 3 := rfl
instance : TZero Tryd.prog 98 (.agg zc98) := ⟨Tryd.zeroValue98⟩
theorem row98 : (Tryd.prog.info? 98).map (fun i => (i.size, i.bytes)) = some (3, 24) := by kernel_rfl
instance : TFld Tryd.prog 98 0 0 17 1 := ⟨⟨_, _, Tryd.underlying98, rfl, rfl, rfl, Tryd.sizeOf17, by decide⟩⟩
instance : TFld Tryd.prog 98 1 1 95 1 := ⟨⟨_, _, Tryd.underlying98, rfl, rfl, rfl, Tryd.sizeOf95, by decide⟩⟩
instance : TFld Tryd.prog 98 2 2 96 1 := ⟨⟨_, _, Tryd.underlying98, rfl, rfl, rfl, Tryd.sizeOf96, by decide⟩⟩
instance : TBuild Tryd.prog 98 zc98 [(0, 1), (1, 1), (2, 1)] := ⟨fun _ => by kernel_rfl⟩
instance : TSize Tryd.prog 99 1 := ⟨Tryd.sizeOf99⟩
instance : TAgg Tryd.prog 99 false := ⟨Tryd.isAgg99⟩
instance : TZero Tryd.prog 99 (Go.Value.nilFunc) := ⟨Tryd.zeroValue99⟩
theorem row99 : (Tryd.prog.info? 99).map (fun i => (i.size, i.bytes)) = some (1, 8) := by kernel_rfl
instance : TSize Tryd.prog 100 1 := ⟨Tryd.sizeOf100⟩
instance : TAgg Tryd.prog 100 false := ⟨Tryd.isAgg100⟩
instance : TZero Tryd.prog 100 (Go.Value.nilIface) := ⟨Tryd.zeroValue100⟩
theorem row100 : (Tryd.prog.info? 100).map (fun i => (i.size, i.bytes)) = some (1, 16) := by kernel_rfl
instance : TUnd Tryd.prog 100 (Go.TypeDesc.interface #[("AssignableTo", 105), ("Comparable", 23), ("Elem", 102), ("Implements", 105), ("Kind", 104), ("Name", 124), ("PkgPath", 124), ("Size", 139), ("String", 124), ("internal/reflectlite.common", 130), ("internal/reflectlite.uncommon", 140)]) := ⟨Tryd.underlying100⟩
instance : TSize Tryd.prog 101 1 := ⟨Tryd.sizeOf101⟩
instance : TAgg Tryd.prog 101 false := ⟨Tryd.isAgg101⟩
instance : TZero Tryd.prog 101 (Go.Value.nilIface) := ⟨Tryd.zeroValue101⟩
theorem row101 : (Tryd.prog.info? 101).map (fun i => (i.size, i.bytes)) = some (1, 16) := by kernel_rfl
instance : TUnd Tryd.prog 101 (Go.TypeDesc.interface #[("AssignableTo", 105), ("Comparable", 23), ("Elem", 102), ("Implements", 105), ("Kind", 104), ("Name", 124), ("PkgPath", 124), ("Size", 139), ("String", 124), ("internal/reflectlite.common", 130), ("internal/reflectlite.uncommon", 140)]) := ⟨Tryd.underlying101⟩
instance : TSize Tryd.prog 102 1 := ⟨Tryd.sizeOf102⟩
instance : TAgg Tryd.prog 102 false := ⟨Tryd.isAgg102⟩
instance : TZero Tryd.prog 102 (Go.Value.nilFunc) := ⟨Tryd.zeroValue102⟩
theorem row102 : (Tryd.prog.info? 102).map (fun i => (i.size, i.bytes)) = some (1, 8) := by kernel_rfl
instance : TSize Tryd.prog 103 1 := ⟨Tryd.sizeOf103⟩
instance : TAgg Tryd.prog 103 false := ⟨Tryd.isAgg103⟩
instance : TZero Tryd.prog 103 (Go.Value.int Go.IntKind.u8 0) := ⟨Tryd.zeroValue103⟩
theorem row103 : (Tryd.prog.info? 103).map (fun i => (i.size, i.bytes)) = some (1, 1) := by kernel_rfl
instance : TUnd Tryd.prog 103 (.int Go.IntKind.u8) := ⟨Tryd.underlying103⟩
instance : TSize Tryd.prog 104 1 := ⟨Tryd.sizeOf104⟩
instance : TAgg Tryd.prog 104 false := ⟨Tryd.isAgg104⟩
instance : TZero Tryd.prog 104 (Go.Value.nilFunc) := ⟨Tryd.zeroValue104⟩
theorem row104 : (Tryd.prog.info? 104).map (fun i => (i.size, i.bytes)) = some (1, 8) := by kernel_rfl
instance : TSize Tryd.prog 105 1 := ⟨Tryd.sizeOf105⟩
instance : TAgg Tryd.prog 105 false := ⟨Tryd.isAgg105⟩
instance : TZero Tryd.prog 105 (Go.Value.nilFunc) := ⟨Tryd.zeroValue105⟩
theorem row105 : (Tryd.prog.info? 105).map (fun i => (i.size, i.bytes)) = some (1, 8) := by kernel_rfl
instance : TSize Tryd.prog 106 1 := ⟨Tryd.sizeOf106⟩
instance : TAgg Tryd.prog 106 false := ⟨Tryd.isAgg106⟩
instance : TZero Tryd.prog 106 (Go.Value.nilFunc) := ⟨Tryd.zeroValue106⟩
theorem row106 : (Tryd.prog.info? 106).map (fun i => (i.size, i.bytes)) = some (1, 8) := by kernel_rfl
instance : TSize Tryd.prog 107 1 := ⟨Tryd.sizeOf107⟩
instance : TAgg Tryd.prog 107 false := ⟨Tryd.isAgg107⟩
instance : TZero Tryd.prog 107 (Go.Value.nilFunc) := ⟨Tryd.zeroValue107⟩
theorem row107 : (Tryd.prog.info? 107).map (fun i => (i.size, i.bytes)) = some (1, 8) := by kernel_rfl
instance : TSize Tryd.prog 108 1 := ⟨Tryd.sizeOf108⟩
instance : TAgg Tryd.prog 108 false := ⟨Tryd.isAgg108⟩
instance : TZero Tryd.prog 108 (Go.Value.nilFunc) := ⟨Tryd.zeroValue108⟩
theorem row108 : (Tryd.prog.info? 108).map (fun i => (i.size, i.bytes)) = some (1, 8) := by kernel_rfl
instance : TSize Tryd.prog 109 1 := ⟨Tryd.sizeOf109⟩
instance : TAgg Tryd.prog 109 true := ⟨Tryd.isAgg109⟩
def zc109 : Array Value :=  #[Go.Value.pointer Option.none]
theorem zc109_size : zc109.size = 1 := rfl
instance : TZero Tryd.prog 109 (.agg zc109) := ⟨Tryd.zeroValue109⟩
theorem row109 : (Tryd.prog.info? 109).map (fun i => (i.size, i.bytes)) = some (1, 8) := by kernel_rfl
instance : TFld Tryd.prog 109 0 0 17 1 := ⟨⟨_, _, Tryd.underlying109, rfl, rfl, rfl, Tryd.sizeOf17, by decide⟩⟩
instance : TBuild Tryd.prog 109 zc109 [(0, 1)] := ⟨fun _ => by kernel_rfl⟩
instance : TSize Tryd.prog 110 1 := ⟨Tryd.sizeOf110⟩
instance : TAgg Tryd.prog 110 true := ⟨Tryd.isAgg110⟩
def zc110 : Array Value :=  #[Go.Value.pointer Option.none]
theorem zc110_size : zc110.size = 1 := rfl
instance : TZero Tryd.prog 110 (.agg zc110) := ⟨Tryd.zeroValue110⟩
theorem row110 : (Tryd.prog.info? 110).map (fun i => (i.size, i.bytes)) = some (1, 8) := by kernel_rfl
instance : TFld Tryd.prog 110 0 0 17 1 := ⟨⟨_, _, Tryd.underlying110, rfl, rfl, rfl, Tryd.sizeOf17, by decide⟩⟩
instance : TBuild Tryd.prog 110 zc110 [(0, 1)] := ⟨fun _ => by kernel_rfl⟩
instance : TSize Tryd.prog 111 1 := ⟨Tryd.sizeOf111⟩
instance : TAgg Tryd.prog 111 false := ⟨Tryd.isAgg111⟩
instance : TZero Tryd.prog 111 (Go.Value.pointer Option.none) := ⟨Tryd.zeroValue111⟩
theorem row111 : (Tryd.prog.info? 111).map (fun i => (i.size, i.bytes)) = some (1, 8) := by kernel_rfl
instance : TUnd Tryd.prog 111 (.pointer 142) := ⟨Tryd.underlying111⟩
instance : TSize Tryd.prog 112 1 := ⟨Tryd.sizeOf112⟩
instance : TAgg Tryd.prog 112 false := ⟨Tryd.isAgg112⟩
instance : TZero Tryd.prog 112 (Go.Value.nilFunc) := ⟨Tryd.zeroValue112⟩
theorem row112 : (Tryd.prog.info? 112).map (fun i => (i.size, i.bytes)) = some (1, 8) := by kernel_rfl
instance : TSize Tryd.prog 113 1 := ⟨Tryd.sizeOf113⟩
instance : TAgg Tryd.prog 113 false := ⟨Tryd.isAgg113⟩
instance : TZero Tryd.prog 113 (Go.Value.nilFunc) := ⟨Tryd.zeroValue113⟩
theorem row113 : (Tryd.prog.info? 113).map (fun i => (i.size, i.bytes)) = some (1, 8) := by kernel_rfl
instance : TSize Tryd.prog 114 1 := ⟨Tryd.sizeOf114⟩
instance : TAgg Tryd.prog 114 false := ⟨Tryd.isAgg114⟩
instance : TZero Tryd.prog 114 (Go.Value.nilIface) := ⟨Tryd.zeroValue114⟩
theorem row114 : (Tryd.prog.info? 114).map (fun i => (i.size, i.bytes)) = some (1, 16) := by kernel_rfl
instance : TUnd Tryd.prog 114 (Go.TypeDesc.interface #[("As", 116)]) := ⟨Tryd.underlying114⟩
instance : TSize Tryd.prog 115 1 := ⟨Tryd.sizeOf115⟩
instance : TAgg Tryd.prog 115 false := ⟨Tryd.isAgg115⟩
instance : TZero Tryd.prog 115 (Go.Value.tuple #[Go.Value.nilIface, Go.Value.bool Bool.false]) := ⟨Tryd.zeroValue115⟩
theorem row115 : (Tryd.prog.info? 115).map (fun i => (i.size, i.bytes)) = some (1, 0) := by kernel_rfl
instance : TSize Tryd.prog 116 1 := ⟨Tryd.sizeOf116⟩
instance : TAgg Tryd.prog 116 false := ⟨Tryd.isAgg116⟩
instance : TZero Tryd.prog 116 (Go.Value.nilFunc) := ⟨Tryd.zeroValue116⟩
theorem row116 : (Tryd.prog.info? 116).map (fun i => (i.size, i.bytes)) = some (1, 8) := by kernel_rfl
instance : TSize Tryd.prog 117 1 := ⟨Tryd.sizeOf117⟩
instance : TAgg Tryd.prog 117 false := ⟨Tryd.isAgg117⟩
instance : TZero Tryd.prog 117 (Go.Value.nilIface) := ⟨Tryd.zeroValue117⟩
theorem row117 : (Tryd.prog.info? 117).map (fun i => (i.size, i.bytes)) = some (1, 16) := by kernel_rfl
instance : TUnd Tryd.prog 117 (Go.TypeDesc.interface #[("Unwrap", 69)]) := ⟨Tryd.underlying117⟩
instance : TSize Tryd.prog 118 1 := ⟨Tryd.sizeOf118⟩
instance : TAgg Tryd.prog 118 false := ⟨Tryd.isAgg118⟩
instance : TZero Tryd.prog 118 (Go.Value.nilIface) := ⟨Tryd.zeroValue118⟩
theorem row118 : (Tryd.prog.info? 118).map (fun i => (i.size, i.bytes)) = some (1, 16) := by kernel_rfl
instance : TUnd Tryd.prog 118 (Go.TypeDesc.interface #[("Unwrap", 120)]) := ⟨Tryd.underlying118⟩
instance : TSize Tryd.prog 119 1 := ⟨Tryd.sizeOf119⟩
instance : TAgg Tryd.prog 119 false := ⟨Tryd.isAgg119⟩
instance : TZero Tryd.prog 119 (Go.Value.slice Option.none 0 0) := ⟨Tryd.zeroValue119⟩
theorem row119 : (Tryd.prog.info? 119).map (fun i => (i.size, i.bytes)) = some (1, 24) := by kernel_rfl
instance : TUnd Tryd.prog 119 (.slice 43) := ⟨Tryd.underlying119⟩
instance : TSize Tryd.prog 120 1 := ⟨Tryd.sizeOf120⟩
instance : TAgg Tryd.prog 120 false := ⟨Tryd.isAgg120⟩
instance : TZero Tryd.prog 120 (Go.Value.nilFunc) := ⟨Tryd.zeroValue120⟩
theorem row120 : (Tryd.prog.info? 120).map (fun i => (i.size, i.bytes)) = some (1, 8) := by kernel_rfl
instance : TSize Tryd.prog 121 1 := ⟨Tryd.sizeOf121⟩
instance : TAgg Tryd.prog 121 false := ⟨Tryd.isAgg121⟩
instance : TZero Tryd.prog 121 (Go.Value.nilIface) := ⟨Tryd.zeroValue121⟩
theorem row121 : (Tryd.prog.info? 121).map (fun i => (i.size, i.bytes)) = some (1, 16) := by kernel_rfl
instance : TUnd Tryd.prog 121 (Go.TypeDesc.interface #[("Is", 123)]) := ⟨Tryd.underlying121⟩
instance : TSize Tryd.prog 122 1 := ⟨Tryd.sizeOf122⟩
instance : TAgg Tryd.prog 122 false := ⟨Tryd.isAgg122⟩
instance : TZero Tryd.prog 122 (Go.Value.tuple #[Go.Value.nilIface, Go.Value.bool Bool.false]) := ⟨Tryd.zeroValue122⟩
theorem row122 : (Tryd.prog.info? 122).map (fun i => (i.size, i.bytes)) = some (1, 0) := by kernel_rfl
instance : TSize Tryd.prog 123 1 := ⟨Tryd.sizeOf123⟩
instance : TAgg Tryd.prog 123 false := ⟨Tryd.isAgg123⟩
instance : TZero Tryd.prog 123 (Go.Value.nilFunc) := ⟨Tryd.zeroValue123⟩
theorem row123 : (Tryd.prog.info? 123).map (fun i => (i.size, i.bytes)) = some (1, 8) := by kernel_rfl
instance : TSize Tryd.prog 124 1 := ⟨Tryd.sizeOf124⟩
instance : TAgg Tryd.prog 124 false := ⟨Tryd.isAgg124⟩
instance : TZero Tryd.prog 124 (Go.Value.nilFunc) := ⟨Tryd.zeroValue124⟩
theorem row124 : (Tryd.prog.info? 124).map (fun i => (i.size, i.bytes)) = some (1, 8) := by kernel_rfl
instance : TSize Tryd.prog 125 4 := ⟨Tryd.sizeOf125⟩
instance : TAgg Tryd.prog 125 true := ⟨Tryd.isAgg125⟩
def zc125 : Array Value :=  #[Go.Value.pointer Option.none, Go.Value.pointer Option.none, Go.Value.pointer Option.none, Go.Value.string { data := #[] }]
theorem zc125_size : zc125.size = 4 := rfl
instance : TZero Tryd.prog 125 (.agg zc125) := ⟨Tryd.zeroValue125⟩
theorem row125 : (Tryd.prog.info? 125).map (fun i => (i.size, i.bytes)) = some (4, 40) := by kernel_rfl
instance : TFld Tryd.prog 125 0 0 17 1 := ⟨⟨_, _, Tryd.underlying125, rfl, rfl, rfl, Tryd.sizeOf17, by decide⟩⟩
instance : TFld Tryd.prog 125 1 1 17 1 := ⟨⟨_, _, Tryd.underlying125, rfl, rfl, rfl, Tryd.sizeOf17, by decide⟩⟩
instance : TFld Tryd.prog 125 2 2 17 1 := ⟨⟨_, _, Tryd.underlying125, rfl, rfl, rfl, Tryd.sizeOf17, by decide⟩⟩
instance : TFld Tryd.prog 125 3 3 9 1 := ⟨⟨_, _, Tryd.underlying125, rfl, rfl, rfl, Tryd.sizeOf9, by decide⟩⟩
instance : TBuild Tryd.prog 125 zc125 [(0, 1), (1, 1), (2, 1), (3, 1)] := ⟨fun _ => by kernel_rfl⟩
instance : TSize Tryd.prog 126 4 := ⟨Tryd.sizeOf126⟩
instance : TAgg Tryd.prog 126 true := ⟨Tryd.isAgg126⟩
def zc126 : Array Value :=  #[Go.Value.pointer Option.none, Go.Value.pointer Option.none, Go.Value.pointer Option.none, Go.Value.string { data := #[] }]
theorem zc126_size : zc126.size = 4 := rfl
instance : TZero Tryd.prog 126 (.agg zc126) := ⟨Tryd.zeroValue126⟩
theorem row126 : (Tryd.prog.info? 126).map (fun i => (i.size, i.bytes)) = some (4, 40) := by kernel_rfl
instance : TFld Tryd.prog 126 0 0 17 1 := ⟨⟨_, _, Tryd.underlying126, rfl, rfl, rfl, Tryd.sizeOf17, by decide⟩⟩
instance : TFld Tryd.prog 126 1 1 17 1 := ⟨⟨_, _, Tryd.underlying126, rfl, rfl, rfl, Tryd.sizeOf17, by decide⟩⟩
instance : TFld Tryd.prog 126 2 2 17 1 := ⟨⟨_, _, Tryd.underlying126, rfl, rfl, rfl, Tryd.sizeOf17, by decide⟩⟩
instance : TFld Tryd.prog 126 3 3 9 1 := ⟨⟨_, _, Tryd.underlying126, rfl, rfl, rfl, Tryd.sizeOf9, by decide⟩⟩
instance : TBuild Tryd.prog 126 zc126 [(0, 1), (1, 1), (2, 1), (3, 1)] := ⟨fun _ => by kernel_rfl⟩
instance : TSize Tryd.prog 127 0 := ⟨Tryd.sizeOf127⟩
instance : TAgg Tryd.prog 127 true := ⟨Tryd.isAgg127⟩
def zc127 : Array Value :=  #[]
theorem zc127_size : zc127.size = 0 := rfl
instance : TZero Tryd.prog 127 (.agg zc127) := ⟨Tryd.zeroValue127⟩
instance : TUnd Tryd.prog 127 (.array 0 16) := ⟨Tryd.underlying127⟩
instance : TSize Tryd.prog 128 0 := ⟨Tryd.sizeOf128⟩
instance : TAgg Tryd.prog 128 true := ⟨Tryd.isAgg128⟩
def zc128 : Array Value :=  #[]
theorem zc128_size : zc128.size = 0 := rfl
instance : TZero Tryd.prog 128 (.agg zc128) := ⟨Tryd.zeroValue128⟩
instance : TSize Tryd.prog 129 0 := ⟨Tryd.sizeOf129⟩
instance : TAgg Tryd.prog 129 true := ⟨Tryd.isAgg129⟩
def zc129 : Array Value :=  #[]
theorem zc129_size : zc129.size = 0 := rfl
instance : TZero Tryd.prog 129 (.agg zc129) := ⟨Tryd.zeroValue129⟩
instance : TSize Tryd.prog 130 1 := ⟨Tryd.sizeOf130⟩
instance : TAgg Tryd.prog 130 false := ⟨Tryd.isAgg130⟩
instance : TZero Tryd.prog 130 (Go.Value.nilFunc) := ⟨Tryd.zeroValue130⟩
theorem row130 : (Tryd.prog.info? 130).map (fun i => (i.size, i.bytes)) = some (1, 8) := by kernel_rfl
instance : TSize Tryd.prog 131 1 := ⟨Tryd.sizeOf131⟩
instance : TAgg Tryd.prog 131 false := ⟨Tryd.isAgg131⟩
instance : TZero Tryd.prog 131 (Go.Value.int Go.IntKind.u32 0) := ⟨Tryd.zeroValue131⟩
theorem row131 : (Tryd.prog.info? 131).map (fun i => (i.size, i.bytes)) = some (1, 4) := by kernel_rfl
instance : TUnd Tryd.prog 131 (.int Go.IntKind.u32) := ⟨Tryd.underlying131⟩
instance : TSize Tryd.prog 132 1 := ⟨Tryd.sizeOf132⟩
instance : TAgg Tryd.prog 132 false := ⟨Tryd.isAgg132⟩
instance : TZero Tryd.prog 132 (Go.Value.int Go.IntKind.u8 0) := ⟨Tryd.zeroValue132⟩
theorem row132 : (Tryd.prog.info? 132).map (fun i => (i.size, i.bytes)) = some (1, 1) := by kernel_rfl
instance : TUnd Tryd.prog 132 (.int Go.IntKind.u8) := ⟨Tryd.underlying132⟩
instance : TSize Tryd.prog 133 1 := ⟨Tryd.sizeOf133⟩
instance : TAgg Tryd.prog 133 false := ⟨Tryd.isAgg133⟩
instance : TZero Tryd.prog 133 (Go.Value.nilFunc) := ⟨Tryd.zeroValue133⟩
theorem row133 : (Tryd.prog.info? 133).map (fun i => (i.size, i.bytes)) = some (1, 8) := by kernel_rfl
instance : TSize Tryd.prog 134 1 := ⟨Tryd.sizeOf134⟩
instance : TAgg Tryd.prog 134 false := ⟨Tryd.isAgg134⟩
instance : TZero Tryd.prog 134 (Go.Value.pointer Option.none) := ⟨Tryd.zeroValue134⟩
theorem row134 : (Tryd.prog.info? 134).map (fun i => (i.size, i.bytes)) = some (1, 8) := by kernel_rfl
instance : TUnd Tryd.prog 134 (.pointer 5) := ⟨Tryd.underlying134⟩
instance : TSize Tryd.prog 135 1 := ⟨Tryd.sizeOf135⟩
instance : TAgg Tryd.prog 135 false := ⟨Tryd.isAgg135⟩
instance : TZero Tryd.prog 135 (Go.Value.int Go.IntKind.i32 0) := ⟨Tryd.zeroValue135⟩
theorem row135 : (Tryd.prog.info? 135).map (fun i => (i.size, i.bytes)) = some (1, 4) := by kernel_rfl
instance : TUnd Tryd.prog 135 (.int Go.IntKind.i32) := ⟨Tryd.underlying135⟩
instance : TSize Tryd.prog 136 1 := ⟨Tryd.sizeOf136⟩
instance : TAgg Tryd.prog 136 false := ⟨Tryd.isAgg136⟩
instance : TZero Tryd.prog 136 (Go.Value.int Go.IntKind.i32 0) := ⟨Tryd.zeroValue136⟩
theorem row136 : (Tryd.prog.info? 136).map (fun i => (i.size, i.bytes)) = some (1, 4) := by kernel_rfl
instance : TUnd Tryd.prog 136 (.int Go.IntKind.i32) := ⟨Tryd.underlying136⟩
instance : TSize Tryd.prog 137 11 := ⟨Tryd.sizeOf137⟩
instance : TAgg Tryd.prog 137 true := ⟨Tryd.isAgg137⟩
def zc137 : Array Value :=  #[Go.Value.int Go.IntKind.u64 0, Go.Value.int Go.IntKind.u64 0, Go.Value.int Go.IntKind.u32 0, Go.Value.int Go.IntKind.u8 0, Go.Value.int Go.IntKind.u8 0, Go.Value.int Go.IntKind.u8 0, Go.Value.int Go.IntKind.u8 0, Go.Value.nilFunc, Go.Value.pointer Option.none, Go.Value.int Go.IntKind.i32 0, Go.Value.int Go.IntKind.i32 0]
theorem zc137_size : zc137.size = 11 := rfl
instance : TZero Tryd.prog 137 (.agg zc137) := ⟨Tryd.zeroValue137⟩
theorem row137 : (Tryd.prog.info? 137).map (fun i => (i.size, i.bytes)) = some (11, 48) := by kernel_rfl
instance : TFld Tryd.prog 137 0 0 12 1 := ⟨⟨_, _, Tryd.underlying137, rfl, rfl, rfl, Tryd.sizeOf12, by decide⟩⟩
instance : TFld Tryd.prog 137 1 1 12 1 := ⟨⟨_, _, Tryd.underlying137, rfl, rfl, rfl, Tryd.sizeOf12, by decide⟩⟩
instance : TFld Tryd.prog 137 2 2 131 1 := ⟨⟨_, _, Tryd.underlying137, rfl, rfl, rfl, Tryd.sizeOf131, by decide⟩⟩
instance : TFld Tryd.prog 137 3 3 132 1 := ⟨⟨_, _, Tryd.underlying137, rfl, rfl, rfl, Tryd.sizeOf132, by decide⟩⟩
instance : TFld Tryd.prog 137 4 4 5 1 := ⟨⟨_, _, Tryd.underlying137, rfl, rfl, rfl, Tryd.sizeOf5, by decide⟩⟩
instance : TFld Tryd.prog 137 5 5 5 1 := ⟨⟨_, _, Tryd.underlying137, rfl, rfl, rfl, Tryd.sizeOf5, by decide⟩⟩
instance : TFld Tryd.prog 137 6 6 103 1 := ⟨⟨_, _, Tryd.underlying137, rfl, rfl, rfl, Tryd.sizeOf103, by decide⟩⟩
instance : TFld Tryd.prog 137 7 7 133 1 := ⟨⟨_, _, Tryd.underlying137, rfl, rfl, rfl, Tryd.sizeOf133, by decide⟩⟩
instance : TFld Tryd.prog 137 8 8 134 1 := ⟨⟨_, _, Tryd.underlying137, rfl, rfl, rfl, Tryd.sizeOf134, by decide⟩⟩
instance : TFld Tryd.prog 137 9 9 135 1 := ⟨⟨_, _, Tryd.underlying137, rfl, rfl, rfl, Tryd.sizeOf135, by decide⟩⟩
instance : TFld Tryd.prog 137 10 10 136 1 := ⟨⟨_, _, Tryd.underlying137, rfl, rfl, rfl, Tryd.sizeOf136, by decide⟩⟩
instance : TBuild Tryd.prog 137 zc137 [(0, 1), (1, 1), (2, 1), (3, 1), (4, 1), (5, 1), (6, 1), (7, 1), (8, 1), (9, 1), (10, 1)] := ⟨fun _ => by kernel_rfl⟩
instance : TSize Tryd.prog 138 11 := ⟨Tryd.sizeOf138⟩
instance : TAgg Tryd.prog 138 true := ⟨Tryd.isAgg138⟩
def zc138 : Array Value :=  #[Go.Value.int Go.IntKind.u64 0, Go.Value.int Go.IntKind.u64 0, Go.Value.int Go.IntKind.u32 0, Go.Value.int Go.IntKind.u8 0, Go.Value.int Go.IntKind.u8 0, Go.Value.int Go.IntKind.u8 0, Go.Value.int Go.IntKind.u8 0, Go.Value.nilFunc, Go.Value.pointer Option.none, Go.Value.int Go.IntKind.i32 0, Go.Value.int Go.IntKind.i32 0]
theorem zc138_size : zc138.size = 11 := rfl
instance : TZero Tryd.prog 138 (.agg zc138) := ⟨Tryd.zeroValue138⟩
theorem row138 : (Tryd.prog.info? 138).map (fun i => (i.size, i.bytes)) = some (11, 48) := by kernel_rfl
instance : TFld Tryd.prog 138 0 0 12 1 := ⟨⟨_, _, Tryd.underlying138, rfl, rfl, rfl, Tryd.sizeOf12, by decide⟩⟩
instance : TFld Tryd.prog 138 1 1 12 1 := ⟨⟨_, _, Tryd.underlying138, rfl, rfl, rfl, Tryd.sizeOf12, by decide⟩⟩
instance : TFld Tryd.prog 138 2 2 131 1 := ⟨⟨_, _, Tryd.underlying138, rfl, rfl, rfl, Tryd.sizeOf131, by decide⟩⟩
instance : TFld Tryd.prog 138 3 3 132 1 := ⟨⟨_, _, Tryd.underlying138, rfl, rfl, rfl, Tryd.sizeOf132, by decide⟩⟩
instance : TFld Tryd.prog 138 4 4 5 1 := ⟨⟨_, _, Tryd.underlying138, rfl, rfl, rfl, Tryd.sizeOf5, by decide⟩⟩
instance : TFld Tryd.prog 138 5 5 5 1 := ⟨⟨_, _, Tryd.underlying138, rfl, rfl, rfl, Tryd.sizeOf5, by decide⟩⟩
instance : TFld Tryd.prog 138 6 6 103 1 := ⟨⟨_, _, Tryd.underlying138, rfl, rfl, rfl, Tryd.sizeOf103, by decide⟩⟩
instance : TFld Tryd.prog 138 7 7 133 1 := ⟨⟨_, _, Tryd.underlying138, rfl, rfl, rfl, Tryd.sizeOf133, by decide⟩⟩
instance : TFld Tryd.prog 138 8 8 134 1 := ⟨⟨_, _, Tryd.underlying138, rfl, rfl, rfl, Tryd.sizeOf134, by decide⟩⟩
instance : TFld Tryd.prog 138 9 9 135 1 := ⟨⟨_, _, Tryd.underlying138, rfl, rfl, rfl, Tryd.sizeOf135, by decide⟩⟩
instance : TFld Tryd.prog 138 10 10 136 1 := ⟨⟨_, _, Tryd.underlying138, rfl, rfl, rfl, Tryd.sizeOf136, by decide⟩⟩
instance : TBuild Tryd.prog 138 zc138 [(0, 1), (1, 1), (2, 1), (3, 1), (4, 1), (5, 1), (6, 1), (7, 1), (8, 1), (9, 1), (10, 1)] := ⟨fun _ => by kernel_rfl⟩
instance : TSize Tryd.prog 139 1 := ⟨Tryd.sizeOf139⟩
instance : TAgg Tryd.prog 139 false := ⟨Tryd.isAgg139⟩
instance : TZero Tryd.prog 139 (Go.Value.nilFunc) := ⟨Tryd.zeroValue139⟩
theorem row139 : (Tryd.prog.info? 139).map (fun i => (i.size, i.bytes)) = some (1, 8) := by kernel_rfl
instance : TSize Tryd.prog 140 1 := ⟨Tryd.sizeOf140⟩
instance : TAgg Tryd.prog 140 false := ⟨Tryd.isAgg140⟩
instance : TZero Tryd.prog 140 (Go.Value.nilFunc) := ⟨Tryd.zeroValue140⟩
theorem row140 : (Tryd.prog.info? 140).map (fun i => (i.size, i.bytes)) = some (1, 8) := by kernel_rfl
instance : TSize Tryd.prog 141 2 := ⟨Tryd.sizeOf141⟩
instance : TAgg Tryd.prog 141 true := ⟨Tryd.isAgg141⟩
def zc141 : Array Value :=  #[Go.Value.string { data := #[] }, Go.Value.int Go.IntKind.u8 0]
theorem zc141_size : zc141.size = 2 := rfl
instance : TZero Tryd.prog 141 (.agg zc141) := ⟨Tryd.zeroValue141⟩
theorem row141 : (Tryd.prog.info? 141).map (fun i => (i.size, i.bytes)) = some (2, 24) := by kernel_rfl
instance : TFld Tryd.prog 141 0 0 9 1 := ⟨⟨_, _, Tryd.underlying141, rfl, rfl, rfl, Tryd.sizeOf9, by decide⟩⟩
instance : TFld Tryd.prog 141 1 1 103 1 := ⟨⟨_, _, Tryd.underlying141, rfl, rfl, rfl, Tryd.sizeOf103, by decide⟩⟩
instance : TBuild Tryd.prog 141 zc141 [(0, 1), (1, 1)] := ⟨fun _ => by kernel_rfl⟩
instance : TSize Tryd.prog 142 2 := ⟨Tryd.sizeOf142⟩
instance : TAgg Tryd.prog 142 true := ⟨Tryd.isAgg142⟩
def zc142 : Array Value :=  #[Go.Value.string { data := #[] }, Go.Value.int Go.IntKind.u8 0]
theorem zc142_size : zc142.size = 2 := rfl
instance : TZero Tryd.prog 142 (.agg zc142) := ⟨Tryd.zeroValue142⟩
theorem row142 : (Tryd.prog.info? 142).map (fun i => (i.size, i.bytes)) = some (2, 24) := by kernel_rfl
instance : TFld Tryd.prog 142 0 0 9 1 := ⟨⟨_, _, Tryd.underlying142, rfl, rfl, rfl, Tryd.sizeOf9, by decide⟩⟩
instance : TFld Tryd.prog 142 1 1 103 1 := ⟨⟨_, _, Tryd.underlying142, rfl, rfl, rfl, Tryd.sizeOf103, by decide⟩⟩
instance : TBuild Tryd.prog 142 zc142 [(0, 1), (1, 1)] := ⟨fun _ => by kernel_rfl⟩
instance : TSize Tryd.prog 143 1 := ⟨Tryd.sizeOf143⟩
instance : TAgg Tryd.prog 143 false := ⟨Tryd.isAgg143⟩
instance : TZero Tryd.prog 143 (Go.Value.pointer Option.none) := ⟨Tryd.zeroValue143⟩
theorem row143 : (Tryd.prog.info? 143).map (fun i => (i.size, i.bytes)) = some (1, 8) := by kernel_rfl
instance : TUnd Tryd.prog 143 (.pointer 147) := ⟨Tryd.underlying143⟩
instance : TSize Tryd.prog 144 1 := ⟨Tryd.sizeOf144⟩
instance : TAgg Tryd.prog 144 false := ⟨Tryd.isAgg144⟩
instance : TZero Tryd.prog 144 (Go.Value.nilFunc) := ⟨Tryd.zeroValue144⟩
theorem row144 : (Tryd.prog.info? 144).map (fun i => (i.size, i.bytes)) = some (1, 8) := by kernel_rfl
instance : TSize Tryd.prog 145 1 := ⟨Tryd.sizeOf145⟩
instance : TAgg Tryd.prog 145 false := ⟨Tryd.isAgg145⟩
instance : TZero Tryd.prog 145 (Go.Value.int Go.IntKind.u16 0) := ⟨Tryd.zeroValue145⟩
theorem row145 : (Tryd.prog.info? 145).map (fun i => (i.size, i.bytes)) = some (1, 2) := by kernel_rfl
instance : TUnd Tryd.prog 145 (.int Go.IntKind.u16) := ⟨Tryd.underlying145⟩
instance : TSize Tryd.prog 146 5 := ⟨Tryd.sizeOf146⟩
instance : TAgg Tryd.prog 146 true := ⟨Tryd.isAgg146⟩
def zc146 : Array Value :=  #[Go.Value.int Go.IntKind.i32 0, Go.Value.int Go.IntKind.u16 0, Go.Value.int Go.IntKind.u16 0, Go.Value.int Go.IntKind.u32 0, Go.Value.int Go.IntKind.u32 0]
theorem zc146_size : zc146.size = 5 := rfl
instance : TZero Tryd.prog 146 (.agg zc146) := ⟨Tryd.zeroValue146⟩
theorem row146 : (Tryd.prog.info? 146).map (fun i => (i.size, i.bytes)) = some (5, 16) := by kernel_rfl
instance : TFld Tryd.prog 146 0 0 135 1 := ⟨⟨_, _, Tryd.underlying146, rfl, rfl, rfl, Tryd.sizeOf135, by decide⟩⟩
instance : TFld Tryd.prog 146 1 1 145 1 := ⟨⟨_, _, Tryd.underlying146, rfl, rfl, rfl, Tryd.sizeOf145, by decide⟩⟩
instance : TFld Tryd.prog 146 2 2 145 1 := ⟨⟨_, _, Tryd.underlying146, rfl, rfl, rfl, Tryd.sizeOf145, by decide⟩⟩
instance : TFld Tryd.prog 146 3 3 131 1 := ⟨⟨_, _, Tryd.underlying146, rfl, rfl, rfl, Tryd.sizeOf131, by decide⟩⟩
instance : TFld Tryd.prog 146 4 4 131 1 := ⟨⟨_, _, Tryd.underlying146, rfl, rfl, rfl, Tryd.sizeOf131, by decide⟩⟩
instance : TBuild Tryd.prog 146 zc146 [(0, 1), (1, 1), (2, 1), (3, 1), (4, 1)] := ⟨fun _ => by kernel_rfl⟩
instance : TSize Tryd.prog 147 5 := ⟨Tryd.sizeOf147⟩
instance : TAgg Tryd.prog 147 true := ⟨Tryd.isAgg147⟩
def zc147 : Array Value :=  #[Go.Value.int Go.IntKind.i32 0, Go.Value.int Go.IntKind.u16 0, Go.Value.int Go.IntKind.u16 0, Go.Value.int Go.IntKind.u32 0, Go.Value.int Go.IntKind.u32 0]
theorem zc147_size : zc147.size = 5 := rfl
instance : TZero Tryd.prog 147 (.agg zc147) := ⟨Tryd.zeroValue147⟩
theorem row147 : (Tryd.prog.info? 147).map (fun i => (i.size, i.bytes)) = some (5, 16) := by kernel_rfl
instance : TFld Tryd.prog 147 0 0 135 1 := ⟨⟨_, _, Tryd.underlying147, rfl, rfl, rfl, Tryd.sizeOf135, by decide⟩⟩
instance : TFld Tryd.prog 147 1 1 145 1 := ⟨⟨_, _, Tryd.underlying147, rfl, rfl, rfl, Tryd.sizeOf145, by decide⟩⟩
instance : TFld Tryd.prog 147 2 2 145 1 := ⟨⟨_, _, Tryd.underlying147, rfl, rfl, rfl, Tryd.sizeOf145, by decide⟩⟩
instance : TFld Tryd.prog 147 3 3 131 1 := ⟨⟨_, _, Tryd.underlying147, rfl, rfl, rfl, Tryd.sizeOf131, by decide⟩⟩
instance : TFld Tryd.prog 147 4 4 131 1 := ⟨⟨_, _, Tryd.underlying147, rfl, rfl, rfl, Tryd.sizeOf131, by decide⟩⟩
instance : TBuild Tryd.prog 147 zc147 [(0, 1), (1, 1), (2, 1), (3, 1), (4, 1)] := ⟨fun _ => by kernel_rfl⟩
instance : TSize Tryd.prog 148 1 := ⟨Tryd.sizeOf148⟩
instance : TAgg Tryd.prog 148 false := ⟨Tryd.isAgg148⟩
instance : TZero Tryd.prog 148 (Go.Value.slice Option.none 0 0) := ⟨Tryd.zeroValue148⟩
theorem row148 : (Tryd.prog.info? 148).map (fun i => (i.size, i.bytes)) = some (1, 24) := by kernel_rfl
instance : TUnd Tryd.prog 148 (.slice 151) := ⟨Tryd.underlying148⟩
instance : TSize Tryd.prog 149 1 := ⟨Tryd.sizeOf149⟩
instance : TAgg Tryd.prog 149 false := ⟨Tryd.isAgg149⟩
instance : TZero Tryd.prog 149 (Go.Value.int Go.IntKind.i32 0) := ⟨Tryd.zeroValue149⟩
theorem row149 : (Tryd.prog.info? 149).map (fun i => (i.size, i.bytes)) = some (1, 4) := by kernel_rfl
instance : TUnd Tryd.prog 149 (.int Go.IntKind.i32) := ⟨Tryd.underlying149⟩
instance : TSize Tryd.prog 150 4 := ⟨Tryd.sizeOf150⟩
instance : TAgg Tryd.prog 150 true := ⟨Tryd.isAgg150⟩
def zc150 : Array Value :=  #[Go.Value.int Go.IntKind.i32 0, Go.Value.int Go.IntKind.i32 0, Go.Value.int Go.IntKind.i32 0, Go.Value.int Go.IntKind.i32 0]
theorem zc150_size : zc150.size = 4 := rfl
instance : TZero Tryd.prog 150 (.agg zc150) := ⟨Tryd.zeroValue150⟩
theorem row150 : (Tryd.prog.info? 150).map (fun i => (i.size, i.bytes)) = some (4, 16) := by kernel_rfl
instance : TFld Tryd.prog 150 0 0 135 1 := ⟨⟨_, _, Tryd.underlying150, rfl, rfl, rfl, Tryd.sizeOf135, by decide⟩⟩
instance : TFld Tryd.prog 150 1 1 136 1 := ⟨⟨_, _, Tryd.underlying150, rfl, rfl, rfl, Tryd.sizeOf136, by decide⟩⟩
instance : TFld Tryd.prog 150 2 2 149 1 := ⟨⟨_, _, Tryd.underlying150, rfl, rfl, rfl, Tryd.sizeOf149, by decide⟩⟩
instance : TFld Tryd.prog 150 3 3 149 1 := ⟨⟨_, _, Tryd.underlying150, rfl, rfl, rfl, Tryd.sizeOf149, by decide⟩⟩
instance : TBuild Tryd.prog 150 zc150 [(0, 1), (1, 1), (2, 1), (3, 1)] := ⟨fun _ => by kernel_rfl⟩
instance : TSize Tryd.prog 151 4 := ⟨Tryd.sizeOf151⟩
instance : TAgg Tryd.prog 151 true := ⟨Tryd.isAgg151⟩
def zc151 : Array Value :=  #[Go.Value.int Go.IntKind.i32 0, Go.Value.int Go.IntKind.i32 0, Go.Value.int Go.IntKind.i32 0, Go.Value.int Go.IntKind.i32 0]
theorem zc151_size : zc151.size = 4 := rfl
instance : TZero Tryd.prog 151 (.agg zc151) := ⟨Tryd.zeroValue151⟩
theorem row151 : (Tryd.prog.info? 151).map (fun i => (i.size, i.bytes)) = some (4, 16) := by kernel_rfl
instance : TFld Tryd.prog 151 0 0 135 1 := ⟨⟨_, _, Tryd.underlying151, rfl, rfl, rfl, Tryd.sizeOf135, by decide⟩⟩
instance : TFld Tryd.prog 151 1 1 136 1 := ⟨⟨_, _, Tryd.underlying151, rfl, rfl, rfl, Tryd.sizeOf136, by decide⟩⟩
instance : TFld Tryd.prog 151 2 2 149 1 := ⟨⟨_, _, Tryd.underlying151, rfl, rfl, rfl, Tryd.sizeOf149, by decide⟩⟩
instance : TFld Tryd.prog 151 3 3 149 1 := ⟨⟨_, _, Tryd.underlying151, rfl, rfl, rfl, Tryd.sizeOf149, by decide⟩⟩
instance : TBuild Tryd.prog 151 zc151 [(0, 1), (1, 1), (2, 1), (3, 1)] := ⟨fun _ => by kernel_rfl⟩
instance : TRow Tryd.prog 0 #[Go.Value.tuple #[]] 1 0 := TRow.of Tryd.zeroValue0 rfl row0 rfl
instance : TRow Tryd.prog 1 #[Go.Value.nilFunc] 1 8 := TRow.of Tryd.zeroValue1 rfl row1 rfl
instance : TRow Tryd.prog 2 #[Go.Value.int Go.IntKind.i64 0] 1 8 := TRow.of Tryd.zeroValue2 rfl row2 rfl
instance : TRow Tryd.prog 3 #[Go.Value.int Go.IntKind.i64 0] 1 8 := TRow.of Tryd.zeroValue3 rfl row3 rfl
instance : TRow Tryd.prog 4 #[Go.Value.bool Bool.false] 1 1 := TRow.of Tryd.zeroValue4 rfl row4 rfl
instance : TRow Tryd.prog 5 #[Go.Value.int Go.IntKind.u8 0] 1 1 := TRow.of Tryd.zeroValue5 rfl row5 rfl
instance : TRow Tryd.prog 6 #[Go.Value.int Go.IntKind.u8 0] 1 1 := TRow.of Tryd.zeroValue6 rfl row6 rfl
instance : TRow Tryd.prog 7 zc7 4 24 := TRow.of Tryd.zeroValue7 rfl row7 rfl
instance : TRow Tryd.prog 8 zc8 4 24 := TRow.of Tryd.zeroValue8 rfl row8 rfl
instance : TRow Tryd.prog 9 #[Go.Value.string { data := #[] }] 1 16 := TRow.of Tryd.zeroValue9 rfl row9 rfl
instance : TRow Tryd.prog 10 #[Go.Value.string { data := #[] }] 1 16 := TRow.of Tryd.zeroValue10 rfl row10 rfl
instance : TRow Tryd.prog 11 #[Go.Value.string { data := #[] }] 1 16 := TRow.of Tryd.zeroValue11 rfl row11 rfl
instance : TRow Tryd.prog 12 #[Go.Value.int Go.IntKind.u64 0] 1 8 := TRow.of Tryd.zeroValue12 rfl row12 rfl
instance : TRow Tryd.prog 13 zc13 2 24 := TRow.of Tryd.zeroValue13 rfl row13 rfl
instance : TRow Tryd.prog 14 zc14 2 24 := TRow.of Tryd.zeroValue14 rfl row14 rfl
instance : TRow Tryd.prog 15 #[Go.Value.pointer Option.none] 1 8 := TRow.of Tryd.zeroValue15 rfl row15 rfl
instance : TRow Tryd.prog 16 #[Go.Value.pointer Option.none] 1 8 := TRow.of Tryd.zeroValue16 rfl row16 rfl
instance : TRow Tryd.prog 17 #[Go.Value.pointer Option.none] 1 8 := TRow.of Tryd.zeroValue17 rfl row17 rfl
instance : TRow Tryd.prog 18 zc18 1 8 := TRow.of Tryd.zeroValue18 rfl row18 rfl
instance : TRow Tryd.prog 19 zc19 1 8 := TRow.of Tryd.zeroValue19 rfl row19 rfl
instance : TRow Tryd.prog 20 #[Go.Value.nilIface] 1 16 := TRow.of Tryd.zeroValue20 rfl row20 rfl
instance : TRow Tryd.prog 21 #[Go.Value.int Go.IntKind.i32 0] 1 4 := TRow.of Tryd.zeroValue21 rfl row21 rfl
instance : TRow Tryd.prog 22 #[Go.Value.int Go.IntKind.u64 0] 1 8 := TRow.of Tryd.zeroValue22 rfl row22 rfl
instance : TRow Tryd.prog 23 #[Go.Value.nilFunc] 1 8 := TRow.of Tryd.zeroValue23 rfl row23 rfl
instance : TRow Tryd.prog 24 #[Go.Value.slice Option.none 0 0] 1 24 := TRow.of Tryd.zeroValue24 rfl row24 rfl
instance : TRow Tryd.prog 25 #[Go.Value.nilFunc] 1 8 := TRow.of Tryd.zeroValue25 rfl row25 rfl
instance : TRow Tryd.prog 26 #[Go.Value.nilFunc] 1 8 := TRow.of Tryd.zeroValue26 rfl row26 rfl
instance : TRow Tryd.prog 27 #[Go.Value.nilFunc] 1 8 := TRow.of Tryd.zeroValue27 rfl row27 rfl
instance : TRow Tryd.prog 28 #[Go.Value.nilFunc] 1 8 := TRow.of Tryd.zeroValue28 rfl row28 rfl
instance : TRow Tryd.prog 29 #[Go.Value.nilFunc] 1 8 := TRow.of Tryd.zeroValue29 rfl row29 rfl
instance : TRow Tryd.prog 30 #[Go.Value.nilFunc] 1 8 := TRow.of Tryd.zeroValue30 rfl row30 rfl
instance : TRow Tryd.prog 31 #[Go.Value.nilFunc] 1 8 := TRow.of Tryd.zeroValue31 rfl row31 rfl
instance : TRow Tryd.prog 32 #[Go.Value.nilFunc] 1 8 := TRow.of Tryd.zeroValue32 rfl row32 rfl
instance : TRow Tryd.prog 33 #[Go.Value.nilFunc] 1 8 := TRow.of Tryd.zeroValue33 rfl row33 rfl
instance : TRow Tryd.prog 34 #[Go.Value.nilFunc] 1 8 := TRow.of Tryd.zeroValue34 rfl row34 rfl
instance : TRow Tryd.prog 35 #[Go.Value.slice Option.none 0 0] 1 24 := TRow.of Tryd.zeroValue35 rfl row35 rfl
instance : TRow Tryd.prog 36 #[Go.Value.pointer Option.none] 1 8 := TRow.of Tryd.zeroValue36 rfl row36 rfl
instance : TRow Tryd.prog 37 #[Go.Value.nilFunc] 1 8 := TRow.of Tryd.zeroValue37 rfl row37 rfl
instance : TRow Tryd.prog 38 #[Go.Value.pointer Option.none] 1 8 := TRow.of Tryd.zeroValue38 rfl row38 rfl
instance : TRow Tryd.prog 39 zc39 2 24 := TRow.of Tryd.zeroValue39 rfl row39 rfl
instance : TRow Tryd.prog 40 zc40 2 24 := TRow.of Tryd.zeroValue40 rfl row40 rfl
instance : TRow Tryd.prog 41 #[Go.Value.int Go.IntKind.i16 0] 1 2 := TRow.of Tryd.zeroValue41 rfl row41 rfl
instance : TRow Tryd.prog 42 #[Go.Value.nilIface] 1 16 := TRow.of Tryd.zeroValue42 rfl row42 rfl
instance : TRow Tryd.prog 43 #[Go.Value.nilIface] 1 16 := TRow.of Tryd.zeroValue43 rfl row43 rfl
instance : TRow Tryd.prog 44 #[Go.Value.tuple #[Go.Value.int Go.IntKind.u64 0, Go.Value.nilIface]] 1 0 := TRow.of Tryd.zeroValue44 rfl row44 rfl
instance : TRow Tryd.prog 45 #[Go.Value.nilFunc] 1 8 := TRow.of Tryd.zeroValue45 rfl row45 rfl
instance : TRow Tryd.prog 46 #[Go.Value.int Go.IntKind.i64 0] 1 8 := TRow.of Tryd.zeroValue46 rfl row46 rfl
instance : TRow Tryd.prog 47 zc47 2 16 := TRow.of Tryd.zeroValue47 rfl row47 rfl
instance : TRow Tryd.prog 48 zc48 2 16 := TRow.of Tryd.zeroValue48 rfl row48 rfl
instance : TRow Tryd.prog 49 #[Go.Value.tuple #[Go.Value.int Go.IntKind.u64 0, Go.Value.agg #[Go.Value.int Go.IntKind.i64 0, Go.Value.int Go.IntKind.i64 0]]] 1 0 := TRow.of Tryd.zeroValue49 rfl row49 rfl
instance : TRow Tryd.prog 50 #[Go.Value.nilFunc] 1 8 := TRow.of Tryd.zeroValue50 rfl row50 rfl
instance : TRow Tryd.prog 51 #[Go.Value.nilFunc] 1 8 := TRow.of Tryd.zeroValue51 rfl row51 rfl
instance : TRow Tryd.prog 52 #[Go.Value.tuple #[Go.Value.int Go.IntKind.i64 0, Go.Value.nilIface]] 1 0 := TRow.of Tryd.zeroValue52 rfl row52 rfl
instance : TRow Tryd.prog 53 #[Go.Value.nilFunc] 1 8 := TRow.of Tryd.zeroValue53 rfl row53 rfl
instance : TRow Tryd.prog 54 #[Go.Value.tuple #[Go.Value.int Go.IntKind.i64 0, Go.Value.agg #[Go.Value.int Go.IntKind.i64 0, Go.Value.int Go.IntKind.i64 0]]] 1 0 := TRow.of Tryd.zeroValue54 rfl row54 rfl
instance : TRow Tryd.prog 55 #[Go.Value.nilFunc] 1 8 := TRow.of Tryd.zeroValue55 rfl row55 rfl
instance : TRow Tryd.prog 56 #[Go.Value.tuple #[Go.Value.int Go.IntKind.u8 0, Go.Value.nilIface]] 1 0 := TRow.of Tryd.zeroValue56 rfl row56 rfl
instance : TRow Tryd.prog 57 #[Go.Value.nilFunc] 1 8 := TRow.of Tryd.zeroValue57 rfl row57 rfl
instance : TRow Tryd.prog 58 #[Go.Value.tuple #[Go.Value.int Go.IntKind.u8 0, Go.Value.agg #[Go.Value.int Go.IntKind.i64 0, Go.Value.int Go.IntKind.i64 0]]] 1 0 := TRow.of Tryd.zeroValue58 rfl row58 rfl
instance : TRow Tryd.prog 59 #[Go.Value.nilFunc] 1 8 := TRow.of Tryd.zeroValue59 rfl row59 rfl
instance : TRow Tryd.prog 60 #[Go.Value.tuple #[Go.Value.bool Bool.false, Go.Value.nilIface]] 1 0 := TRow.of Tryd.zeroValue60 rfl row60 rfl
instance : TRow Tryd.prog 61 #[Go.Value.nilFunc] 1 8 := TRow.of Tryd.zeroValue61 rfl row61 rfl
instance : TRow Tryd.prog 62 #[Go.Value.tuple #[Go.Value.bool Bool.false, Go.Value.agg #[Go.Value.int Go.IntKind.i64 0, Go.Value.int Go.IntKind.i64 0]]] 1 0 := TRow.of Tryd.zeroValue62 rfl row62 rfl
instance : TRow Tryd.prog 63 #[Go.Value.nilFunc] 1 8 := TRow.of Tryd.zeroValue63 rfl row63 rfl
instance : TRow Tryd.prog 64 #[Go.Value.tuple #[Go.Value.string { data := #[] }, Go.Value.nilIface]] 1 0 := TRow.of Tryd.zeroValue64 rfl row64 rfl
instance : TRow Tryd.prog 65 #[Go.Value.nilFunc] 1 8 := TRow.of Tryd.zeroValue65 rfl row65 rfl
instance : TRow Tryd.prog 66 #[Go.Value.tuple #[Go.Value.string { data := #[] }, Go.Value.agg #[Go.Value.int Go.IntKind.i64 0, Go.Value.int Go.IntKind.i64 0]]] 1 0 := TRow.of Tryd.zeroValue66 rfl row66 rfl
instance : TRow Tryd.prog 67 #[Go.Value.nilFunc] 1 8 := TRow.of Tryd.zeroValue67 rfl row67 rfl
instance : TRow Tryd.prog 68 #[Go.Value.nilFunc] 1 8 := TRow.of Tryd.zeroValue68 rfl row68 rfl
instance : TRow Tryd.prog 69 #[Go.Value.nilFunc] 1 8 := TRow.of Tryd.zeroValue69 rfl row69 rfl
instance : TRow Tryd.prog 70 #[Go.Value.nilFunc] 1 8 := TRow.of Tryd.zeroValue70 rfl row70 rfl
instance : TRow Tryd.prog 71 #[Go.Value.nilFunc] 1 8 := TRow.of Tryd.zeroValue71 rfl row71 rfl
instance : TRow Tryd.prog 72 #[Go.Value.nilFunc] 1 8 := TRow.of Tryd.zeroValue72 rfl row72 rfl
instance : TRow Tryd.prog 73 #[Go.Value.slice Option.none 0 0] 1 24 := TRow.of Tryd.zeroValue73 rfl row73 rfl
instance : TRow Tryd.prog 74 #[Go.Value.slice Option.none 0 0] 1 24 := TRow.of Tryd.zeroValue74 rfl row74 rfl
instance : TRow Tryd.prog 75 zc75 3 32 := TRow.of Tryd.zeroValue75 rfl row75 rfl
instance : TRow Tryd.prog 76 zc76 3 32 := TRow.of Tryd.zeroValue76 rfl row76 rfl
instance : TRow Tryd.prog 77 #[Go.Value.nilFunc] 1 8 := TRow.of Tryd.zeroValue77 rfl row77 rfl
instance : TRow Tryd.prog 78 zc78 10 10 := TRow.of Tryd.zeroValue78 rfl row78 rfl
instance : TRow Tryd.prog 79 #[Go.Value.int Go.IntKind.u64 0] 1 8 := TRow.of Tryd.zeroValue79 rfl row79 rfl
instance : TRow Tryd.prog 80 zc80 2 24 := TRow.of Tryd.zeroValue80 rfl row80 rfl
instance : TRow Tryd.prog 81 zc81 2 24 := TRow.of Tryd.zeroValue81 rfl row81 rfl
instance : TRow Tryd.prog 82 #[Go.Value.nilFunc] 1 8 := TRow.of Tryd.zeroValue82 rfl row82 rfl
instance : TRow Tryd.prog 83 #[Go.Value.pointer Option.none] 1 8 := TRow.of Tryd.zeroValue83 rfl row83 rfl
instance : TRow Tryd.prog 84 #[Go.Value.tuple #[Go.Value.int Go.IntKind.u64 0, Go.Value.int Go.IntKind.i64 0]] 1 0 := TRow.of Tryd.zeroValue84 rfl row84 rfl
instance : TRow Tryd.prog 85 #[Go.Value.nilFunc] 1 8 := TRow.of Tryd.zeroValue85 rfl row85 rfl
instance : TRow Tryd.prog 86 #[Go.Value.nilFunc] 1 8 := TRow.of Tryd.zeroValue86 rfl row86 rfl
instance : TRow Tryd.prog 87 #[Go.Value.nilFunc] 1 8 := TRow.of Tryd.zeroValue87 rfl row87 rfl
instance : TRow Tryd.prog 88 #[Go.Value.pointer Option.none] 1 8 := TRow.of Tryd.zeroValue88 rfl row88 rfl
instance : TRow Tryd.prog 89 #[Go.Value.nilFunc] 1 8 := TRow.of Tryd.zeroValue89 rfl row89 rfl
instance : TRow Tryd.prog 90 #[Go.Value.pointer Option.none] 1 8 := TRow.of Tryd.zeroValue90 rfl row90 rfl
instance : TRow Tryd.prog 91 #[Go.Value.nilFunc] 1 8 := TRow.of Tryd.zeroValue91 rfl row91 rfl
instance : TRow Tryd.prog 92 #[Go.Value.nilFunc] 1 8 := TRow.of Tryd.zeroValue92 rfl row92 rfl
instance : TRow Tryd.prog 93 #[Go.Value.nilFunc] 1 8 := TRow.of Tryd.zeroValue93 rfl row93 rfl
instance : TRow Tryd.prog 94 #[Go.Value.tuple #[Go.Value.pointer Option.none, Go.Value.bool Bool.false]] 1 0 := TRow.of Tryd.zeroValue94 rfl row94 rfl
instance : TRow Tryd.prog 95 #[Go.Value.pointer Option.none] 1 8 := TRow.of Tryd.zeroValue95 rfl row95 rfl
instance : TRow Tryd.prog 96 #[Go.Value.int Go.IntKind.u64 0] 1 8 := TRow.of Tryd.zeroValue96 rfl row96 rfl
instance : TRow Tryd.prog 97 zc97 3 24 := TRow.of Tryd.zeroValue97 rfl row97 rfl
instance : TRow Tryd.prog 98 zc98 3 24 := TRow.of Tryd.zeroValue98 rfl row98 rfl
instance : TRow Tryd.prog 99 #[Go.Value.nilFunc] 1 8 := TRow.of Tryd.zeroValue99 rfl row99 rfl
instance : TRow Tryd.prog 100 #[Go.Value.nilIface] 1 16 := TRow.of Tryd.zeroValue100 rfl row100 rfl
instance : TRow Tryd.prog 101 #[Go.Value.nilIface] 1 16 := TRow.of Tryd.zeroValue101 rfl row101 rfl
instance : TRow Tryd.prog 102 #[Go.Value.nilFunc] 1 8 := TRow.of Tryd.zeroValue102 rfl row102 rfl
instance : TRow Tryd.prog 103 #[Go.Value.int Go.IntKind.u8 0] 1 1 := TRow.of Tryd.zeroValue103 rfl row103 rfl
instance : TRow Tryd.prog 104 #[Go.Value.nilFunc] 1 8 := TRow.of Tryd.zeroValue104 rfl row104 rfl
instance : TRow Tryd.prog 105 #[Go.Value.nilFunc] 1 8 := TRow.of Tryd.zeroValue105 rfl row105 rfl
instance : TRow Tryd.prog 106 #[Go.Value.nilFunc] 1 8 := TRow.of Tryd.zeroValue106 rfl row106 rfl
instance : TRow Tryd.prog 107 #[Go.Value.nilFunc] 1 8 := TRow.of Tryd.zeroValue107 rfl row107 rfl
instance : TRow Tryd.prog 108 #[Go.Value.nilFunc] 1 8 := TRow.of Tryd.zeroValue108 rfl row108 rfl
instance : TRow Tryd.prog 109 zc109 1 8 := TRow.of Tryd.zeroValue109 rfl row109 rfl
instance : TRow Tryd.prog 110 zc110 1 8 := TRow.of Tryd.zeroValue110 rfl row110 rfl
instance : TRow Tryd.prog 111 #[Go.Value.pointer Option.none] 1 8 := TRow.of Tryd.zeroValue111 rfl row111 rfl
instance : TRow Tryd.prog 112 #[Go.Value.nilFunc] 1 8 := TRow.of Tryd.zeroValue112 rfl row112 rfl
instance : TRow Tryd.prog 113 #[Go.Value.nilFunc] 1 8 := TRow.of Tryd.zeroValue113 rfl row113 rfl
instance : TRow Tryd.prog 114 #[Go.Value.nilIface] 1 16 := TRow.of Tryd.zeroValue114 rfl row114 rfl
instance : TRow Tryd.prog 115 #[Go.Value.tuple #[Go.Value.nilIface, Go.Value.bool Bool.false]] 1 0 := TRow.of Tryd.zeroValue115 rfl row115 rfl
instance : TRow Tryd.prog 116 #[Go.Value.nilFunc] 1 8 := TRow.of Tryd.zeroValue116 rfl row116 rfl
instance : TRow Tryd.prog 117 #[Go.Value.nilIface] 1 16 := TRow.of Tryd.zeroValue117 rfl row117 rfl
instance : TRow Tryd.prog 118 #[Go.Value.nilIface] 1 16 := TRow.of Tryd.zeroValue118 rfl row118 rfl
instance : TRow Tryd.prog 119 #[Go.Value.slice Option.none 0 0] 1 24 := TRow.of Tryd.zeroValue119 rfl row119 rfl
instance : TRow Tryd.prog 120 #[Go.Value.nilFunc] 1 8 := TRow.of Tryd.zeroValue120 rfl row120 rfl
instance : TRow Tryd.prog 121 #[Go.Value.nilIface] 1 16 := TRow.of Tryd.zeroValue121 rfl row121 rfl
instance : TRow Tryd.prog 122 #[Go.Value.tuple #[Go.Value.nilIface, Go.Value.bool Bool.false]] 1 0 := TRow.of Tryd.zeroValue122 rfl row122 rfl
instance : TRow Tryd.prog 123 #[Go.Value.nilFunc] 1 8 := TRow.of Tryd.zeroValue123 rfl row123 rfl
instance : TRow Tryd.prog 124 #[Go.Value.nilFunc] 1 8 := TRow.of Tryd.zeroValue124 rfl row124 rfl
instance : TRow Tryd.prog 125 zc125 4 40 := TRow.of Tryd.zeroValue125 rfl row125 rfl
instance : TRow Tryd.prog 126 zc126 4 40 := TRow.of Tryd.zeroValue126 rfl row126 rfl
instance : TRow Tryd.prog 130 #[Go.Value.nilFunc] 1 8 := TRow.of Tryd.zeroValue130 rfl row130 rfl
instance : TRow Tryd.prog 131 #[Go.Value.int Go.IntKind.u32 0] 1 4 := TRow.of Tryd.zeroValue131 rfl row131 rfl
instance : TRow Tryd.prog 132 #[Go.Value.int Go.IntKind.u8 0] 1 1 := TRow.of Tryd.zeroValue132 rfl row132 rfl
instance : TRow Tryd.prog 133 #[Go.Value.nilFunc] 1 8 := TRow.of Tryd.zeroValue133 rfl row133 rfl
instance : TRow Tryd.prog 134 #[Go.Value.pointer Option.none] 1 8 := TRow.of Tryd.zeroValue134 rfl row134 rfl
instance : TRow Tryd.prog 135 #[Go.Value.int Go.IntKind.i32 0] 1 4 := TRow.of Tryd.zeroValue135 rfl row135 rfl
instance : TRow Tryd.prog 136 #[Go.Value.int Go.IntKind.i32 0] 1 4 := TRow.of Tryd.zeroValue136 rfl row136 rfl
instance : TRow Tryd.prog 137 zc137 11 48 := TRow.of Tryd.zeroValue137 rfl row137 rfl
instance : TRow Tryd.prog 138 zc138 11 48 := TRow.of Tryd.zeroValue138 rfl row138 rfl
instance : TRow Tryd.prog 139 #[Go.Value.nilFunc] 1 8 := TRow.of Tryd.zeroValue139 rfl row139 rfl
instance : TRow Tryd.prog 140 #[Go.Value.nilFunc] 1 8 := TRow.of Tryd.zeroValue140 rfl row140 rfl
instance : TRow Tryd.prog 141 zc141 2 24 := TRow.of Tryd.zeroValue141 rfl row141 rfl
instance : TRow Tryd.prog 142 zc142 2 24 := TRow.of Tryd.zeroValue142 rfl row142 rfl
instance : TRow Tryd.prog 143 #[Go.Value.pointer Option.none] 1 8 := TRow.of Tryd.zeroValue143 rfl row143 rfl
instance : TRow Tryd.prog 144 #[Go.Value.nilFunc] 1 8 := TRow.of Tryd.zeroValue144 rfl row144 rfl
instance : TRow Tryd.prog 145 #[Go.Value.int Go.IntKind.u16 0] 1 2 := TRow.of Tryd.zeroValue145 rfl row145 rfl
instance : TRow Tryd.prog 146 zc146 5 16 := TRow.of Tryd.zeroValue146 rfl row146 rfl
instance : TRow Tryd.prog 147 zc147 5 16 := TRow.of Tryd.zeroValue147 rfl row147 rfl
instance : TRow Tryd.prog 148 #[Go.Value.slice Option.none 0 0] 1 24 := TRow.of Tryd.zeroValue148 rfl row148 rfl
instance : TRow Tryd.prog 149 #[Go.Value.int Go.IntKind.i32 0] 1 4 := TRow.of Tryd.zeroValue149 rfl row149 rfl
instance : TRow Tryd.prog 150 zc150 4 16 := TRow.of Tryd.zeroValue150 rfl row150 rfl
instance : TRow Tryd.prog 151 zc151 4 16 := TRow.of Tryd.zeroValue151 rfl row151 rfl
instance : FCall Tryd.prog 3 := ⟨Tryd.call3⟩
instance : FCall Tryd.prog 4 := ⟨Tryd.call4⟩
instance : FCall Tryd.prog 69 := ⟨Tryd.call69⟩
instance : FCall Tryd.prog 38 := ⟨Tryd.call38⟩
instance : FCall Tryd.prog 12 := ⟨Tryd.call12⟩
instance : FCall Tryd.prog 15 := ⟨Tryd.call15⟩
instance : FCall Tryd.prog 14 := ⟨Tryd.call14⟩
instance : FCall Tryd.prog 41 := ⟨Tryd.call41⟩
instance : FCall Tryd.prog 36 := ⟨Tryd.call36⟩
instance : FCall Tryd.prog 37 := ⟨Tryd.call37⟩
instance : FCall Tryd.prog 28 := ⟨Tryd.call28⟩
instance : FCall Tryd.prog 18 := ⟨Tryd.call18⟩
instance : FCall Tryd.prog 47 := ⟨Tryd.call47⟩
instance : FCall Tryd.prog 6 := ⟨Tryd.call6⟩
instance : FCall Tryd.prog 7 := ⟨Tryd.call7⟩
instance : FCall Tryd.prog 39 := ⟨Tryd.call39⟩
instance : FCall Tryd.prog 40 := ⟨Tryd.call40⟩
instance : FCall Tryd.prog 24 := ⟨Tryd.call24⟩
instance : FCall Tryd.prog 35 := ⟨Tryd.call35⟩
instance : FCall Tryd.prog 17 := ⟨Tryd.call17⟩
instance : FCall Tryd.prog 32 := ⟨Tryd.call32⟩
instance : FCall Tryd.prog 9 := ⟨Tryd.call9⟩
instance : FCall Tryd.prog 10 := ⟨Tryd.call10⟩
instance : FCall Tryd.prog 19 := ⟨Tryd.call19⟩
instance : FCall Tryd.prog 20 := ⟨Tryd.call20⟩
instance : FCall Tryd.prog 16 := ⟨Tryd.call16⟩
instance : FCall Tryd.prog 34 := ⟨Tryd.call34⟩
instance : FCall Tryd.prog 26 := ⟨Tryd.call26⟩
instance : FCall Tryd.prog 2 := ⟨Tryd.call2⟩
instance : FCall Tryd.prog 13 := ⟨Tryd.call13⟩
instance : FCall Tryd.prog 27 := ⟨Tryd.call27⟩
instance : FCall Tryd.prog 5 := ⟨Tryd.call5⟩
instance : FCall Tryd.prog 11 := ⟨Tryd.call11⟩
instance : FCall Tryd.prog 45 := ⟨Tryd.call45⟩
instance : FCall Tryd.prog 31 := ⟨Tryd.call31⟩
instance : FCall Tryd.prog 29 := ⟨Tryd.call29⟩
instance : FCall Tryd.prog 88 := ⟨Tryd.call88⟩
instance : FCall Tryd.prog 22 := ⟨Tryd.call22⟩
instance : FCall Tryd.prog 8 := ⟨Tryd.call8⟩
instance : FCall Tryd.prog 23 := ⟨Tryd.call23⟩
instance : FCall Tryd.prog 21 := ⟨Tryd.call21⟩
instance : FCall Tryd.prog 33 := ⟨Tryd.call33⟩
instance : FCall Tryd.prog 25 := ⟨Tryd.call25⟩
instance : FCall Tryd.prog 30 := ⟨Tryd.call30⟩
theorem mixed : Tryd.prog.follows .mixedOrders = true := by kernel_rfl
end Go.Proofs.YtcnbecdpfildnaaDoor
