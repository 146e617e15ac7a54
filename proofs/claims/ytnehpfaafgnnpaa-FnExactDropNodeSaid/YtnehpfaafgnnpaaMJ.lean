/- Readings of functions (printed by wip/gen). -/
import Derived.Test.YtnehpfaafgnnpaaProg
import Derived.Test.YtnehpfaafgnnpaaMG
set_option linter.unusedSimpArgs false
set_option linter.unusedVariables false
set_option linter.unnecessarySimpa false
namespace Go.Proofs.Ytnehpfaafgnnpaa
open Go.AM

/-- loop.example/g00190/impl.NodeOk -/
def f43B : SC :=
  .seq (.reg false [
    ⟨none, some 1, .bx (.t 0)⟩,
    ⟨none, some 2, .mv (.c (.bool false))⟩]) <|
  .seq (.seq (.reg false [
    ⟨none, some 3, .fa 0 (.t 1)⟩,
    ⟨none, some 4, .ld false 1 (.t 3)⟩,
    ⟨none, some 5, .call 34 [.t 4, .c (.int .i64 1), .c (.int .i64 99)]⟩,
    ⟨none, some 6, .nt (.t 5)⟩,
    ⟨none, some 7, .mv (.t 6)⟩,
    ⟨some (7, false), some 8, .fa 1 (.t 1)⟩,
    ⟨some (7, false), some 9, .ld false 1 (.t 8)⟩,
    ⟨some (7, false), some 10, .call 34 [.t 9, .c (.int .i64 0), .c (.int .i64 99)]⟩,
    ⟨some (7, false), some 11, .nt (.t 10)⟩,
    ⟨none, some 12, .pk (.t 7) (.c (.bool true)) (.t 11)⟩,
    ⟨none, some 13, .mv (.t 12)⟩,
    ⟨some (13, false), some 14, .fa 0 (.t 1)⟩,
    ⟨some (13, false), some 15, .ld false 1 (.t 14)⟩,
    ⟨some (13, false), some 16, .fa 1 (.t 1)⟩,
    ⟨some (13, false), some 17, .ld false 1 (.t 16)⟩,
    ⟨some (13, false), some 18, .bin .eql (.t 15) (.t 17)⟩,
    ⟨none, some 19, .pk (.t 13) (.c (.bool true)) (.t 18)⟩,
    ⟨none, some 20, .mv (.t 19)⟩,
    ⟨some (20, false), some 21, .fa 3 (.t 1)⟩,
    ⟨some (20, false), some 22, .ld true 6 (.t 21)⟩,
    ⟨some (20, false), some 23, .call 70 [.t 22]⟩,
    ⟨some (20, false), some 24, .nt (.t 23)⟩,
    ⟨none, some 25, .pk (.t 20) (.c (.bool true)) (.t 24)⟩,
    ⟨none, some 26, .mv (.t 25)⟩,
    ⟨some (26, false), some 27, .fa 9 (.t 1)⟩,
    ⟨some (26, false), some 28, .ld true 2 (.t 27)⟩,
    ⟨some (26, false), some 29, .call 71 [.t 28]⟩,
    ⟨some (26, false), some 30, .nt (.t 29)⟩,
    ⟨none, some 31, .pk (.t 26) (.c (.bool true)) (.t 30)⟩,
    ⟨none, some 32, .mv (.t 31)⟩,
    ⟨some (32, false), some 33, .fa 29 (.t 1)⟩,
    ⟨some (32, false), some 34, .ld true 2 (.t 33)⟩,
    ⟨some (32, false), some 35, .call 71 [.t 34]⟩,
    ⟨some (32, false), some 36, .nt (.t 35)⟩,
    ⟨none, some 37, .pk (.t 32) (.c (.bool true)) (.t 36)⟩]) <|
  .cond (.t 37)
    (.seq (.reg false [
      ⟨none, some 2, .mv (.c (.bool false))⟩]) <|
    .ret)
    (.skip)) <|
  .seq (.seq (.reg false [
    ⟨none, some 38, .fa 12 (.t 1)⟩,
    ⟨none, some 39, .ld false 1 (.t 38)⟩,
    ⟨none, some 40, .call 34 [.t 39, .c (.int .i64 0), .c (.int .i64 2048)]⟩,
    ⟨none, some 41, .nt (.t 40)⟩,
    ⟨none, some 42, .mv (.t 41)⟩,
    ⟨some (42, false), some 43, .fa 13 (.t 1)⟩,
    ⟨some (42, false), some 44, .ld false 1 (.t 43)⟩,
    ⟨some (42, false), some 45, .call 72 [.t 44]⟩,
    ⟨some (42, false), some 46, .nt (.t 45)⟩,
    ⟨none, some 47, .pk (.t 42) (.c (.bool true)) (.t 46)⟩,
    ⟨none, some 48, .mv (.t 47)⟩,
    ⟨some (48, false), some 49, .fa 27 (.t 1)⟩,
    ⟨some (48, false), some 50, .ld false 1 (.t 49)⟩,
    ⟨some (48, false), some 51, .call 73 [.t 50]⟩,
    ⟨some (48, false), some 52, .nt (.t 51)⟩,
    ⟨none, some 53, .pk (.t 48) (.c (.bool true)) (.t 52)⟩,
    ⟨none, some 54, .mv (.t 53)⟩,
    ⟨some (54, false), some 55, .fa 28 (.t 1)⟩,
    ⟨some (54, false), some 56, .ld false 1 (.t 55)⟩,
    ⟨some (54, false), some 57, .call 74 [.t 56]⟩,
    ⟨some (54, false), some 58, .nt (.t 57)⟩,
    ⟨none, some 59, .pk (.t 54) (.c (.bool true)) (.t 58)⟩]) <|
  .cond (.t 59)
    (.seq (.reg false [
      ⟨none, some 2, .mv (.c (.bool false))⟩]) <|
    .ret)
    (.skip)) <|
  .seq (.seq (.reg false [
    ⟨none, some 60, .fa 2 (.t 1)⟩,
    ⟨none, some 61, .ld false 1 (.t 60)⟩]) <|
  .cond (.t 61)
    (.seq (.reg false [
      ⟨none, some 62, .fa 14 (.t 1)⟩,
      ⟨none, some 63, .ld true 13 (.t 62)⟩,
      ⟨none, some 64, .bd [.int .i64 0, .int .i64 0, .int .i64 0, .int .i64 0, .int .i64 0, .int .i64 0, .int .i64 0, .int .i64 0, .int .i64 0, .int .i64 0, .int .i64 0, .int .i64 0, .int .i64 0] []⟩,
      ⟨none, some 65, .seq false [.i64, .i64, .i64, .i64, .i64, .i64, .i64, .i64, .i64, .i64, .i64, .i64, .i64] (.t 63) (.t 64)⟩,
      ⟨none, some 66, .mv (.t 65)⟩,
      ⟨some (66, true), some 67, .fa 9 (.t 1)⟩,
      ⟨some (66, true), some 68, .ld true 2 (.t 67)⟩,
      ⟨some (66, true), some 69, .call 75 [.t 68]⟩,
      ⟨none, some 70, .pk (.t 66) (.t 69) (.c (.bool false))⟩,
      ⟨none, some 71, .mv (.t 70)⟩,
      ⟨some (71, true), some 72, .fa 12 (.t 1)⟩,
      ⟨some (71, true), some 73, .ld false 1 (.t 72)⟩,
      ⟨some (71, true), some 74, .bin .eql (.t 73) (.c (.int .i64 0))⟩,
      ⟨none, some 75, .pk (.t 71) (.t 74) (.c (.bool false))⟩,
      ⟨none, some 76, .mv (.t 75)⟩,
      ⟨some (76, true), some 77, .fa 13 (.t 1)⟩,
      ⟨some (76, true), some 78, .ld false 1 (.t 77)⟩,
      ⟨some (76, true), some 79, .len (.t 78)⟩,
      ⟨some (76, true), some 80, .bin .eql (.t 79) (.c (.int .i64 0))⟩,
      ⟨none, some 81, .pk (.t 76) (.t 80) (.c (.bool false))⟩,
      ⟨none, some 82, .mv (.t 81)⟩,
      ⟨some (82, true), some 83, .fa 11 (.t 1)⟩,
      ⟨some (82, true), some 84, .ld false 1 (.t 83)⟩,
      ⟨some (82, true), some 85, .nt (.t 84)⟩,
      ⟨none, some 86, .pk (.t 82) (.t 85) (.c (.bool false))⟩,
      ⟨none, some 2, .mv (.t 86)⟩]) <|
    .ret)
    (.skip)) <|
  .seq (.reg false [
    ⟨none, some 87, .fa 14 (.t 1)⟩,
    ⟨none, some 88, .ld true 13 (.t 87)⟩,
    ⟨none, some 89, .call 76 [.t 88]⟩,
    ⟨none, some 2, .mv (.t 89)⟩]) <|
  .ret
def f43S : SFun := ⟨90, [.t 2], .pure, f43B⟩
theorem f43OK : FnOk Go.Proofs.Try.prog 43 f43S := FnOk.of (ks := []) (cs := []) (by kernel_rfl)

/-- (*loop.example/g00190/impl.Scene).isParent -/
def f44B : SC :=
  .seq (.reg false [
    ⟨none, some 4, .mv (.c (.bool false))⟩]) <|
  .seq (.reg false [
    ⟨none, some 6, .mv (.t 0)⟩,
    ⟨none, some 7, .nc (.t 6)⟩,
    ⟨none, some 8, .ld true 1 (.t 7)⟩,
    ⟨none, some 9, .mv (.t 1)⟩,
    ⟨none, some 10, .call 23 [.t 8, .t 9]⟩,
    ⟨none, some 5, .mv (.t 10)⟩]) <|
  .seq (.reg false [
    ⟨none, some 11, .mv (.t 1)⟩,
    ⟨none, some 12, .bin .eql (.t 11) (.c (.int .i64 0))⟩,
    ⟨none, some 13, .mv (.t 12)⟩,
    ⟨some (13, false), some 14, .mv (.t 5)⟩,
    ⟨some (13, false), some 15, .bin .geq (.t 14) (.c (.int .i64 0))⟩,
    ⟨some (13, false), some 16, .mv (.t 15)⟩,
    ⟨some (16, true), some 17, .mv (.t 0)⟩,
    ⟨some (16, true), some 18, .nc (.t 17)⟩,
    ⟨some (16, true), some 19, .fa 0 (.t 18)⟩,
    ⟨some (16, true), some 20, .ld false 1 (.t 19)⟩,
    ⟨some (16, true), some 21, .mv (.t 5)⟩,
    ⟨some (16, true), some 22, .ia 31 (.t 20) (.t 21)⟩,
    ⟨some (16, true), some 23, .fa 2 (.t 22)⟩,
    ⟨some (16, true), some 24, .ld false 1 (.t 23)⟩,
    ⟨some (13, false), some 25, .pk (.t 16) (.t 24) (.c (.bool false))⟩,
    ⟨none, some 26, .pk (.t 13) (.c (.bool true)) (.t 25)⟩,
    ⟨none, some 4, .mv (.t 26)⟩]) <|
  .ret
def f44S : SFun := ⟨27, [.t 4], .pure, f44B⟩
theorem f44OK : FnOk Go.Proofs.Try.prog 44 f44S := FnOk.of (ks := []) (cs := []) (by kernel_rfl)

/-- slices.IndexFunc[[]loop.example/g00190/impl.Node,loop.example/g00190/impl.Node] -/
def f45L0b : SC :=
  .seq (.reg false [
    ⟨none, some 9, .bin .lss (.t 8) (.t 7)⟩]) <|
  .seq (.cond (.t 9)
    (.skip)
    (.exit 0)) <|
  .seq (.block 1 (
    .seq (.reg false [
      ⟨none, some 10, .mv (.t 8)⟩,
      ⟨none, some 5, .mv (.t 10)⟩]) <|
    .seq (.reg false [
      ⟨none, some 11, .mv (.t 1)⟩,
      ⟨none, some 12, .mv (.t 0)⟩,
      ⟨none, some 13, .mv (.t 5)⟩,
      ⟨none, some 14, .ia 31 (.t 12) (.t 13)⟩,
      ⟨none, some 15, .ld true 31 (.t 14)⟩,
      ⟨none, some 16, .dyn (.t 11) [.t 15]⟩]) <|
    .cond (.t 16)
      (.seq (.reg false [
        ⟨none, some 17, .mv (.t 5)⟩,
        ⟨none, some 4, .mv (.t 17)⟩]) <|
      .ret)
      (.skip))) <|
  .reg false [
    ⟨none, some 18, .bin .add (.t 8) (.c (.int .i64 1))⟩,
    ⟨none, some 8, .mv (.t 18)⟩]
def f45L0 : SC := f45L0b
def f45B : SC :=
  .seq (.reg false [
    ⟨none, some 4, .mv (.c (.int .i64 0))⟩]) <|
  .seq (.seq (.reg false [
    ⟨none, some 6, .mv (.t 0)⟩,
    ⟨none, some 7, .len (.t 6)⟩,
    ⟨none, some 8, .mv (.c (.int .i64 0))⟩]) <|
  .block 0 (
    .loop [0, 1, 4, 7, 8] f45L0)) <|
  .seq (.reg false [
    ⟨none, some 4, .mv (.c (.int .i64 (-1)))⟩]) <|
  .ret
def f45S : SFun := ⟨19, [.t 4], .pure, f45B⟩
theorem f45OK : FnOk Go.Proofs.Try.prog 45 f45S := FnOk.of (ks := [[0, 1, 4, 7, 8]]) (cs := []) (by kernel_rfl)

/-- loop.example/g00190/impl.NodeAt$1 -/
def f46B : SC :=
  .seq (.reg false [
    ⟨none, some 2, .bx (.t 0)⟩,
    ⟨none, some 3, .mv (.c (.bool false))⟩]) <|
  .seq (.reg false [
    ⟨none, some 4, .fa 0 (.t 2)⟩,
    ⟨none, some 5, .ld false 1 (.t 4)⟩,
    ⟨none, some 6, .ld false 1 (.t 1)⟩,
    ⟨none, some 7, .bin .eql (.t 5) (.t 6)⟩,
    ⟨none, some 3, .mv (.t 7)⟩]) <|
  .ret
def f46S : SFun := ⟨8, [.t 3], .pure, f46B⟩
theorem f46OK : FnOk Go.Proofs.Try.prog 46 f46S := FnOk.of (ks := []) (cs := []) (by kernel_rfl)

/-- (*loop.example/g00190/impl.Scene).comesTo -/
def f47L0b : SC :=
  .seq (.reg false [
    ⟨none, some 9, .bin .lss (.t 8) (.c (.int .i64 8))⟩]) <|
  .seq (.cond (.t 9)
    (.skip)
    (.exit 0)) <|
  .seq (.block 1 (
    .seq (.reg false [
      ⟨none, some 10, .mv (.t 0)⟩,
      ⟨none, some 11, .nc (.t 10)⟩,
      ⟨none, some 12, .ld true 1 (.t 11)⟩,
      ⟨none, some 13, .mv (.t 1)⟩,
      ⟨none, some 14, .call 23 [.t 12, .t 13]⟩,
      ⟨none, some 7, .mv (.t 14)⟩]) <|
    .seq (.seq (.reg false [
      ⟨none, some 15, .mv (.t 1)⟩,
      ⟨none, some 16, .mv (.t 2)⟩,
      ⟨none, some 17, .bin .eql (.t 15) (.t 16)⟩,
      ⟨none, some 18, .mv (.t 17)⟩,
      ⟨some (18, false), some 19, .mv (.t 7)⟩,
      ⟨some (18, false), some 20, .bin .lss (.t 19) (.c (.int .i64 0))⟩,
      ⟨none, some 21, .pk (.t 18) (.c (.bool true)) (.t 20)⟩]) <|
    .cond (.t 21)
      (.exit 0)
      (.skip)) <|
    .reg false [
      ⟨none, some 22, .mv (.t 0)⟩,
      ⟨none, some 23, .nc (.t 22)⟩,
      ⟨none, some 24, .fa 0 (.t 23)⟩,
      ⟨none, some 25, .ld false 1 (.t 24)⟩,
      ⟨none, some 26, .mv (.t 7)⟩,
      ⟨none, some 27, .ia 31 (.t 25) (.t 26)⟩,
      ⟨none, some 28, .fa 1 (.t 27)⟩,
      ⟨none, some 29, .ld false 1 (.t 28)⟩,
      ⟨none, some 1, .mv (.t 29)⟩])) <|
  .reg false [
    ⟨none, some 30, .bin .add (.t 8) (.c (.int .i64 1))⟩,
    ⟨none, some 8, .mv (.t 30)⟩]
def f47L0 : SC := f47L0b
def f47B : SC :=
  .seq (.reg false [
    ⟨none, some 6, .mv (.c (.bool false))⟩]) <|
  .seq (.seq (.reg false [
    ⟨none, some 8, .mv (.c (.int .i64 0))⟩]) <|
  .block 0 (
    .loop [0, 1, 2, 8] f47L0)) <|
  .seq (.reg false [
    ⟨none, some 31, .mv (.t 1)⟩,
    ⟨none, some 32, .mv (.t 2)⟩,
    ⟨none, some 33, .bin .eql (.t 31) (.t 32)⟩,
    ⟨none, some 6, .mv (.t 33)⟩]) <|
  .ret
def f47S : SFun := ⟨34, [.t 6], .pure, f47B⟩
theorem f47OK : FnOk Go.Proofs.Try.prog 47 f47S := FnOk.of (ks := [[0, 1, 2, 8]]) (cs := []) (by kernel_rfl)

/-- slices.Index[[]int,int] -/
def f48L0b : SC :=
  .seq (.reg false [
    ⟨none, some 9, .bin .lss (.t 8) (.t 7)⟩]) <|
  .seq (.cond (.t 9)
    (.skip)
    (.exit 0)) <|
  .seq (.block 1 (
    .seq (.reg false [
      ⟨none, some 10, .mv (.t 8)⟩,
      ⟨none, some 5, .mv (.t 10)⟩]) <|
    .seq (.reg false [
      ⟨none, some 11, .mv (.t 1)⟩,
      ⟨none, some 12, .mv (.t 0)⟩,
      ⟨none, some 13, .mv (.t 5)⟩,
      ⟨none, some 14, .ia 1 (.t 12) (.t 13)⟩,
      ⟨none, some 15, .ld false 1 (.t 14)⟩,
      ⟨none, some 16, .bin .eql (.t 11) (.t 15)⟩]) <|
    .cond (.t 16)
      (.seq (.reg false [
        ⟨none, some 17, .mv (.t 5)⟩,
        ⟨none, some 4, .mv (.t 17)⟩]) <|
      .ret)
      (.skip))) <|
  .reg false [
    ⟨none, some 18, .bin .add (.t 8) (.c (.int .i64 1))⟩,
    ⟨none, some 8, .mv (.t 18)⟩]
def f48L0 : SC := f48L0b
def f48B : SC :=
  .seq (.reg false [
    ⟨none, some 4, .mv (.c (.int .i64 0))⟩]) <|
  .seq (.seq (.reg false [
    ⟨none, some 6, .mv (.t 0)⟩,
    ⟨none, some 7, .len (.t 6)⟩,
    ⟨none, some 8, .mv (.c (.int .i64 0))⟩]) <|
  .block 0 (
    .loop [0, 1, 4, 7, 8] f48L0)) <|
  .seq (.reg false [
    ⟨none, some 4, .mv (.c (.int .i64 (-1)))⟩]) <|
  .ret
def f48S : SFun := ⟨19, [.t 4], .pure, f48B⟩
theorem f48OK : FnOk Go.Proofs.Try.prog 48 f48S := FnOk.of (ks := [[0, 1, 4, 7, 8]]) (cs := []) (by kernel_rfl)

/-- loop.example/g00190/laws.eqNode -/
def f49B : SC :=
  .seq (.reg false [
    ⟨none, some 2, .bx (.t 0)⟩,
    ⟨none, some 3, .bx (.t 1)⟩,
    ⟨none, some 4, .mv (.c (.bool false))⟩]) <|
  .seq (.seq (.reg false [
    ⟨none, some 5, .fa 0 (.t 2)⟩,
    ⟨none, some 6, .ld false 1 (.t 5)⟩,
    ⟨none, some 7, .fa 0 (.t 3)⟩,
    ⟨none, some 8, .ld false 1 (.t 7)⟩,
    ⟨none, some 9, .bin .neq (.t 6) (.t 8)⟩]) <|
  .cond (.t 9)
    (.seq (.reg false [
      ⟨none, some 4, .mv (.c (.bool false))⟩]) <|
    .ret)
    (.skip)) <|
  .seq (.seq (.reg false [
    ⟨none, some 10, .fa 1 (.t 2)⟩,
    ⟨none, some 11, .ld false 1 (.t 10)⟩,
    ⟨none, some 12, .fa 1 (.t 3)⟩,
    ⟨none, some 13, .ld false 1 (.t 12)⟩,
    ⟨none, some 14, .bin .neq (.t 11) (.t 13)⟩]) <|
  .cond (.t 14)
    (.seq (.reg false [
      ⟨none, some 4, .mv (.c (.bool false))⟩]) <|
    .ret)
    (.skip)) <|
  .seq (.seq (.reg false [
    ⟨none, some 15, .fa 2 (.t 2)⟩,
    ⟨none, some 16, .ld false 1 (.t 15)⟩,
    ⟨none, some 17, .fa 2 (.t 3)⟩,
    ⟨none, some 18, .ld false 1 (.t 17)⟩,
    ⟨none, some 19, .beq true (.t 16) (.t 18)⟩]) <|
  .cond (.t 19)
    (.seq (.reg false [
      ⟨none, some 4, .mv (.c (.bool false))⟩]) <|
    .ret)
    (.skip)) <|
  .seq (.seq (.reg false [
    ⟨none, some 20, .fa 3 (.t 2)⟩,
    ⟨none, some 21, .ld true 6 (.t 20)⟩,
    ⟨none, some 22, .fa 3 (.t 3)⟩,
    ⟨none, some 23, .ld true 6 (.t 22)⟩,
    ⟨none, some 24, .call 77 [.t 21, .t 23]⟩,
    ⟨none, some 25, .nt (.t 24)⟩]) <|
  .cond (.t 25)
    (.seq (.reg false [
      ⟨none, some 4, .mv (.c (.bool false))⟩]) <|
    .ret)
    (.skip)) <|
  .seq (.seq (.reg false [
    ⟨none, some 26, .fa 9 (.t 2)⟩,
    ⟨none, some 27, .ld true 2 (.t 26)⟩,
    ⟨none, some 28, .fa 9 (.t 3)⟩,
    ⟨none, some 29, .ld true 2 (.t 28)⟩,
    ⟨none, some 30, .call 78 [.t 27, .t 29]⟩,
    ⟨none, some 31, .nt (.t 30)⟩]) <|
  .cond (.t 31)
    (.seq (.reg false [
      ⟨none, some 4, .mv (.c (.bool false))⟩]) <|
    .ret)
    (.skip)) <|
  .seq (.seq (.reg false [
    ⟨none, some 32, .fa 11 (.t 2)⟩,
    ⟨none, some 33, .ld false 1 (.t 32)⟩,
    ⟨none, some 34, .fa 11 (.t 3)⟩,
    ⟨none, some 35, .ld false 1 (.t 34)⟩,
    ⟨none, some 36, .beq true (.t 33) (.t 35)⟩]) <|
  .cond (.t 36)
    (.seq (.reg false [
      ⟨none, some 4, .mv (.c (.bool false))⟩]) <|
    .ret)
    (.skip)) <|
  .seq (.seq (.reg false [
    ⟨none, some 37, .fa 12 (.t 2)⟩,
    ⟨none, some 38, .ld false 1 (.t 37)⟩,
    ⟨none, some 39, .fa 12 (.t 3)⟩,
    ⟨none, some 40, .ld false 1 (.t 39)⟩,
    ⟨none, some 41, .bin .neq (.t 38) (.t 40)⟩]) <|
  .cond (.t 41)
    (.seq (.reg false [
      ⟨none, some 4, .mv (.c (.bool false))⟩]) <|
    .ret)
    (.skip)) <|
  .seq (.seq (.reg false [
    ⟨none, some 42, .fa 13 (.t 2)⟩,
    ⟨none, some 43, .ld false 1 (.t 42)⟩,
    ⟨none, some 44, .fa 13 (.t 3)⟩,
    ⟨none, some 45, .ld false 1 (.t 44)⟩,
    ⟨none, some 46, .call 79 [.t 43, .t 45]⟩,
    ⟨none, some 47, .nt (.t 46)⟩]) <|
  .cond (.t 47)
    (.seq (.reg false [
      ⟨none, some 4, .mv (.c (.bool false))⟩]) <|
    .ret)
    (.skip)) <|
  .seq (.seq (.reg false [
    ⟨none, some 48, .fa 14 (.t 2)⟩,
    ⟨none, some 49, .ld true 13 (.t 48)⟩,
    ⟨none, some 50, .fa 14 (.t 3)⟩,
    ⟨none, some 51, .ld true 13 (.t 50)⟩,
    ⟨none, some 52, .call 80 [.t 49, .t 51]⟩,
    ⟨none, some 53, .nt (.t 52)⟩]) <|
  .cond (.t 53)
    (.seq (.reg false [
      ⟨none, some 4, .mv (.c (.bool false))⟩]) <|
    .ret)
    (.skip)) <|
  .seq (.seq (.reg false [
    ⟨none, some 54, .fa 27 (.t 2)⟩,
    ⟨none, some 55, .ld false 1 (.t 54)⟩,
    ⟨none, some 56, .fa 27 (.t 3)⟩,
    ⟨none, some 57, .ld false 1 (.t 56)⟩,
    ⟨none, some 58, .bin .neq (.t 55) (.t 57)⟩]) <|
  .cond (.t 58)
    (.seq (.reg false [
      ⟨none, some 4, .mv (.c (.bool false))⟩]) <|
    .ret)
    (.skip)) <|
  .seq (.seq (.reg false [
    ⟨none, some 59, .fa 28 (.t 2)⟩,
    ⟨none, some 60, .ld false 1 (.t 59)⟩,
    ⟨none, some 61, .fa 28 (.t 3)⟩,
    ⟨none, some 62, .ld false 1 (.t 61)⟩,
    ⟨none, some 63, .bin .neq (.t 60) (.t 62)⟩]) <|
  .cond (.t 63)
    (.seq (.reg false [
      ⟨none, some 4, .mv (.c (.bool false))⟩]) <|
    .ret)
    (.skip)) <|
  .seq (.seq (.reg false [
    ⟨none, some 64, .fa 29 (.t 2)⟩,
    ⟨none, some 65, .ld true 2 (.t 64)⟩,
    ⟨none, some 66, .fa 29 (.t 3)⟩,
    ⟨none, some 67, .ld true 2 (.t 66)⟩,
    ⟨none, some 68, .call 78 [.t 65, .t 67]⟩,
    ⟨none, some 69, .nt (.t 68)⟩]) <|
  .cond (.t 69)
    (.seq (.reg false [
      ⟨none, some 4, .mv (.c (.bool false))⟩]) <|
    .ret)
    (.skip)) <|
  .seq (.reg false [
    ⟨none, some 4, .mv (.c (.bool true))⟩]) <|
  .ret
def f49S : SFun := ⟨70, [.t 4], .pure, f49B⟩
theorem f49OK : FnOk Go.Proofs.Try.prog 49 f49S := FnOk.of (ks := []) (cs := []) (by kernel_rfl)

/-- loop.example/g00190/laws.markIntS -/
def f50L0b : SC :=
  .seq (.seq (.reg false [
    ⟨none, some 6, .mv (.t 5)⟩,
    ⟨none, some 7, .mv (.t 0)⟩,
    ⟨none, some 8, .len (.t 7)⟩,
    ⟨none, some 9, .bin .lss (.t 6) (.t 8)⟩]) <|
  .cond (.t 9)
    (.skip)
    (.exit 0)) <|
  .seq (.block 1 (
    .seq (.reg false [
      ⟨none, some 12, .mv (.t 0)⟩,
      ⟨none, some 13, .mv (.t 5)⟩,
      ⟨none, some 14, .mv (.t 1)⟩,
      ⟨none, some 15, .ia 1 (.t 12) (.t 13)⟩,
      ⟨none, none, .st 1 (.t 15) (.t 14)⟩]) <|
    .reg false [
      ⟨none, some 16, .mv (.t 1)⟩,
      ⟨none, some 17, .bin .add (.t 16) (.c (.int .i64 1))⟩,
      ⟨none, some 1, .mv (.t 17)⟩])) <|
  .reg false [
    ⟨none, some 10, .mv (.t 5)⟩,
    ⟨none, some 11, .bin .add (.t 10) (.c (.int .i64 1))⟩,
    ⟨none, some 5, .mv (.t 11)⟩]
def f50L0 : SC := f50L0b
def f50B : SC :=
  .seq (.reg false [
    ⟨none, some 4, .mv (.c (.int .i64 0))⟩]) <|
  .seq (.seq (.reg false [
    ⟨none, some 5, .mv (.c (.int .i64 0))⟩]) <|
  .block 0 (
    .loop [0, 1, 5] f50L0)) <|
  .seq (.reg false [
    ⟨none, some 18, .mv (.t 1)⟩,
    ⟨none, some 4, .mv (.t 18)⟩]) <|
  .ret
def f50S : SFun := ⟨19, [.t 4], .full, f50B⟩
theorem f50OK : FnOk Go.Proofs.Try.prog 50 f50S := FnOk.of (ks := [[0, 1, 5]]) (cs := []) (by kernel_rfl)

/-- loop.example/g00190/laws.markPointS -/
def f51L0b : SC :=
  .seq (.seq (.reg false [
    ⟨none, some 6, .mv (.t 5)⟩,
    ⟨none, some 7, .mv (.t 0)⟩,
    ⟨none, some 8, .len (.t 7)⟩,
    ⟨none, some 9, .bin .lss (.t 6) (.t 8)⟩]) <|
  .cond (.t 9)
    (.skip)
    (.exit 0)) <|
  .seq (.block 1 (
    .seq (.reg false [
      ⟨none, some 12, .mv (.t 0)⟩,
      ⟨none, some 13, .mv (.t 5)⟩,
      ⟨none, some 14, .mv (.t 1)⟩,
      ⟨none, some 15, .ia 2 (.t 12) (.t 13)⟩,
      ⟨none, some 16, .fa 0 (.t 15)⟩,
      ⟨none, none, .st 1 (.t 16) (.t 14)⟩]) <|
    .seq (.reg false [
      ⟨none, some 17, .mv (.t 1)⟩,
      ⟨none, some 18, .bin .add (.t 17) (.c (.int .i64 1))⟩,
      ⟨none, some 1, .mv (.t 18)⟩]) <|
    .seq (.reg false [
      ⟨none, some 19, .mv (.t 0)⟩,
      ⟨none, some 20, .mv (.t 5)⟩,
      ⟨none, some 21, .mv (.t 1)⟩,
      ⟨none, some 22, .ia 2 (.t 19) (.t 20)⟩,
      ⟨none, some 23, .fa 1 (.t 22)⟩,
      ⟨none, none, .st 1 (.t 23) (.t 21)⟩]) <|
    .reg false [
      ⟨none, some 24, .mv (.t 1)⟩,
      ⟨none, some 25, .bin .add (.t 24) (.c (.int .i64 1))⟩,
      ⟨none, some 1, .mv (.t 25)⟩])) <|
  .reg false [
    ⟨none, some 10, .mv (.t 5)⟩,
    ⟨none, some 11, .bin .add (.t 10) (.c (.int .i64 1))⟩,
    ⟨none, some 5, .mv (.t 11)⟩]
def f51L0 : SC := f51L0b
def f51B : SC :=
  .seq (.reg false [
    ⟨none, some 4, .mv (.c (.int .i64 0))⟩]) <|
  .seq (.seq (.reg false [
    ⟨none, some 5, .mv (.c (.int .i64 0))⟩]) <|
  .block 0 (
    .loop [0, 1, 5] f51L0)) <|
  .seq (.reg false [
    ⟨none, some 26, .mv (.t 1)⟩,
    ⟨none, some 4, .mv (.t 26)⟩]) <|
  .ret
def f51S : SFun := ⟨27, [.t 4], .full, f51B⟩
theorem f51OK : FnOk Go.Proofs.Try.prog 51 f51S := FnOk.of (ks := [[0, 1, 5]]) (cs := []) (by kernel_rfl)

/-- loop.example/g00190/laws.heldIntS -/
def f52L0b : SC :=
  .seq (.seq (.reg false [
    ⟨none, some 6, .mv (.t 5)⟩,
    ⟨none, some 7, .mv (.t 0)⟩,
    ⟨none, some 8, .len (.t 7)⟩,
    ⟨none, some 9, .bin .lss (.t 6) (.t 8)⟩]) <|
  .cond (.t 9)
    (.skip)
    (.exit 0)) <|
  .seq (.block 1 (
    .seq (.seq (.reg false [
      ⟨none, some 12, .mv (.t 0)⟩,
      ⟨none, some 13, .mv (.t 5)⟩,
      ⟨none, some 14, .ia 1 (.t 12) (.t 13)⟩,
      ⟨none, some 15, .ld false 1 (.t 14)⟩,
      ⟨none, some 16, .mv (.t 1)⟩,
      ⟨none, some 17, .bin .neq (.t 15) (.t 16)⟩]) <|
    .cond (.t 17)
      (.seq (.reg false [
        ⟨none, some 4, .mv (.c (.int .i64 (-1)))⟩]) <|
      .ret)
      (.skip)) <|
    .reg false [
      ⟨none, some 18, .mv (.t 1)⟩,
      ⟨none, some 19, .bin .add (.t 18) (.c (.int .i64 1))⟩,
      ⟨none, some 1, .mv (.t 19)⟩])) <|
  .reg false [
    ⟨none, some 10, .mv (.t 5)⟩,
    ⟨none, some 11, .bin .add (.t 10) (.c (.int .i64 1))⟩,
    ⟨none, some 5, .mv (.t 11)⟩]
def f52L0 : SC := f52L0b
def f52B : SC :=
  .seq (.reg false [
    ⟨none, some 4, .mv (.c (.int .i64 0))⟩]) <|
  .seq (.seq (.reg false [
    ⟨none, some 5, .mv (.c (.int .i64 0))⟩]) <|
  .block 0 (
    .loop [0, 1, 4, 5] f52L0)) <|
  .seq (.reg false [
    ⟨none, some 20, .mv (.t 1)⟩,
    ⟨none, some 4, .mv (.t 20)⟩]) <|
  .ret
def f52S : SFun := ⟨21, [.t 4], .pure, f52B⟩
theorem f52OK : FnOk Go.Proofs.Try.prog 52 f52S := FnOk.of (ks := [[0, 1, 4, 5]]) (cs := []) (by kernel_rfl)

/-- loop.example/g00190/laws.heldPointS -/
def f53L0b : SC :=
  .seq (.seq (.reg false [
    ⟨none, some 6, .mv (.t 5)⟩,
    ⟨none, some 7, .mv (.t 0)⟩,
    ⟨none, some 8, .len (.t 7)⟩,
    ⟨none, some 9, .bin .lss (.t 6) (.t 8)⟩]) <|
  .cond (.t 9)
    (.skip)
    (.exit 0)) <|
  .seq (.block 1 (
    .seq (.seq (.reg false [
      ⟨none, some 12, .mv (.t 0)⟩,
      ⟨none, some 13, .mv (.t 5)⟩,
      ⟨none, some 14, .ia 2 (.t 12) (.t 13)⟩,
      ⟨none, some 15, .fa 0 (.t 14)⟩,
      ⟨none, some 16, .ld false 1 (.t 15)⟩,
      ⟨none, some 17, .mv (.t 1)⟩,
      ⟨none, some 18, .bin .neq (.t 16) (.t 17)⟩]) <|
    .cond (.t 18)
      (.seq (.reg false [
        ⟨none, some 4, .mv (.c (.int .i64 (-1)))⟩]) <|
      .ret)
      (.skip)) <|
    .seq (.reg false [
      ⟨none, some 19, .mv (.t 1)⟩,
      ⟨none, some 20, .bin .add (.t 19) (.c (.int .i64 1))⟩,
      ⟨none, some 1, .mv (.t 20)⟩]) <|
    .seq (.seq (.reg false [
      ⟨none, some 21, .mv (.t 0)⟩,
      ⟨none, some 22, .mv (.t 5)⟩,
      ⟨none, some 23, .ia 2 (.t 21) (.t 22)⟩,
      ⟨none, some 24, .fa 1 (.t 23)⟩,
      ⟨none, some 25, .ld false 1 (.t 24)⟩,
      ⟨none, some 26, .mv (.t 1)⟩,
      ⟨none, some 27, .bin .neq (.t 25) (.t 26)⟩]) <|
    .cond (.t 27)
      (.seq (.reg false [
        ⟨none, some 4, .mv (.c (.int .i64 (-1)))⟩]) <|
      .ret)
      (.skip)) <|
    .reg false [
      ⟨none, some 28, .mv (.t 1)⟩,
      ⟨none, some 29, .bin .add (.t 28) (.c (.int .i64 1))⟩,
      ⟨none, some 1, .mv (.t 29)⟩])) <|
  .reg false [
    ⟨none, some 10, .mv (.t 5)⟩,
    ⟨none, some 11, .bin .add (.t 10) (.c (.int .i64 1))⟩,
    ⟨none, some 5, .mv (.t 11)⟩]
def f53L0 : SC := f53L0b
def f53B : SC :=
  .seq (.reg false [
    ⟨none, some 4, .mv (.c (.int .i64 0))⟩]) <|
  .seq (.seq (.reg false [
    ⟨none, some 5, .mv (.c (.int .i64 0))⟩]) <|
  .block 0 (
    .loop [0, 1, 4, 5] f53L0)) <|
  .seq (.reg false [
    ⟨none, some 30, .mv (.t 1)⟩,
    ⟨none, some 4, .mv (.t 30)⟩]) <|
  .ret
def f53S : SFun := ⟨31, [.t 4], .pure, f53B⟩
theorem f53OK : FnOk Go.Proofs.Try.prog 53 f53S := FnOk.of (ks := [[0, 1, 4, 5]]) (cs := []) (by kernel_rfl)

/-- loop.example/g00190/laws.szPath -/
def f56B : SC :=
  .seq (.reg false [
    ⟨none, some 2, .bx (.t 0)⟩,
    ⟨none, some 4, .mv (.c (.int .i64 0))⟩]) <|
  .seq (.reg false [
    ⟨none, some 5, .fa 0 (.t 2)⟩,
    ⟨none, some 6, .ld false 1 (.t 5)⟩,
    ⟨none, some 7, .mv (.t 1)⟩,
    ⟨none, some 8, .call 57 [.t 6, .t 7]⟩,
    ⟨none, some 1, .mv (.t 8)⟩]) <|
  .seq (.seq (.reg false [
    ⟨none, some 9, .mv (.t 1)⟩,
    ⟨none, some 10, .bin .lss (.t 9) (.c (.int .i64 0))⟩]) <|
  .cond (.t 10)
    (.seq (.reg false [
      ⟨none, some 4, .mv (.c (.int .i64 (-1)))⟩]) <|
    .ret)
    (.skip)) <|
  .seq (.reg false [
    ⟨none, some 11, .fa 1 (.t 2)⟩,
    ⟨none, some 12, .ld false 1 (.t 11)⟩,
    ⟨none, some 13, .mv (.t 1)⟩,
    ⟨none, some 14, .call 82 [.t 12, .t 13]⟩,
    ⟨none, some 1, .mv (.t 14)⟩]) <|
  .seq (.seq (.reg false [
    ⟨none, some 15, .mv (.t 1)⟩,
    ⟨none, some 16, .bin .lss (.t 15) (.c (.int .i64 0))⟩]) <|
  .cond (.t 16)
    (.seq (.reg false [
      ⟨none, some 4, .mv (.c (.int .i64 (-1)))⟩]) <|
    .ret)
    (.skip)) <|
  .seq (.reg false [
    ⟨none, some 17, .mv (.t 1)⟩,
    ⟨none, some 4, .mv (.t 17)⟩]) <|
  .ret
def f56S : SFun := ⟨18, [.t 4], .pure, f56B⟩
theorem f56OK : FnOk Go.Proofs.Try.prog 56 f56S := FnOk.of (ks := []) (cs := []) (by kernel_rfl)

/-- loop.example/g00190/laws.szIntS -/
def f57B : SC :=
  .seq (.reg false [
    ⟨none, some 4, .mv (.c (.int .i64 0))⟩]) <|
  .seq (.reg false [
    ⟨none, some 5, .mv (.t 1)⟩,
    ⟨none, some 6, .mv (.t 0)⟩,
    ⟨none, some 7, .len (.t 6)⟩,
    ⟨none, some 8, .bin .sub (.t 5) (.t 7)⟩,
    ⟨none, some 1, .mv (.t 8)⟩]) <|
  .seq (.seq (.reg false [
    ⟨none, some 9, .mv (.t 1)⟩,
    ⟨none, some 10, .bin .lss (.t 9) (.c (.int .i64 0))⟩]) <|
  .cond (.t 10)
    (.seq (.reg false [
      ⟨none, some 4, .mv (.c (.int .i64 (-1)))⟩]) <|
    .ret)
    (.skip)) <|
  .seq (.reg false [
    ⟨none, some 11, .mv (.t 1)⟩,
    ⟨none, some 4, .mv (.t 11)⟩]) <|
  .ret
def f57S : SFun := ⟨12, [.t 4], .pure, f57B⟩
theorem f57OK : FnOk Go.Proofs.Try.prog 57 f57S := FnOk.of (ks := []) (cs := []) (by kernel_rfl)

/-- loop.example/g00190/spec.MatOk -/
def f58B : SC :=
  .seq (.reg false [
    ⟨none, some 1, .bx (.t 0)⟩,
    ⟨none, some 2, .mv (.c (.bool false))⟩]) <|
  .seq (.reg false [
    ⟨none, some 3, .mv (.c (.int .i64 1048576))⟩]) <|
  .seq (.reg false [
    ⟨none, some 4, .fa 0 (.t 1)⟩,
    ⟨none, some 5, .ld false 1 (.t 4)⟩,
    ⟨none, some 6, .mv (.t 3)⟩,
    ⟨none, some 7, .ng (.t 6)⟩,
    ⟨none, some 8, .mv (.t 3)⟩,
    ⟨none, some 9, .call 38 [.t 5, .t 7, .t 8]⟩,
    ⟨none, some 10, .mv (.t 9)⟩,
    ⟨some (10, true), some 11, .fa 1 (.t 1)⟩,
    ⟨some (10, true), some 12, .ld false 1 (.t 11)⟩,
    ⟨some (10, true), some 13, .mv (.t 3)⟩,
    ⟨some (10, true), some 14, .ng (.t 13)⟩,
    ⟨some (10, true), some 15, .mv (.t 3)⟩,
    ⟨some (10, true), some 16, .call 38 [.t 12, .t 14, .t 15]⟩,
    ⟨none, some 17, .pk (.t 10) (.t 16) (.c (.bool false))⟩,
    ⟨none, some 18, .mv (.t 17)⟩,
    ⟨some (18, true), some 19, .fa 2 (.t 1)⟩,
    ⟨some (18, true), some 20, .ld false 1 (.t 19)⟩,
    ⟨some (18, true), some 21, .mv (.t 3)⟩,
    ⟨some (18, true), some 22, .ng (.t 21)⟩,
    ⟨some (18, true), some 23, .mv (.t 3)⟩,
    ⟨some (18, true), some 24, .call 38 [.t 20, .t 22, .t 23]⟩,
    ⟨none, some 25, .pk (.t 18) (.t 24) (.c (.bool false))⟩,
    ⟨none, some 26, .mv (.t 25)⟩,
    ⟨some (26, true), some 27, .fa 3 (.t 1)⟩,
    ⟨some (26, true), some 28, .ld false 1 (.t 27)⟩,
    ⟨some (26, true), some 29, .mv (.t 3)⟩,
    ⟨some (26, true), some 30, .ng (.t 29)⟩,
    ⟨some (26, true), some 31, .mv (.t 3)⟩,
    ⟨some (26, true), some 32, .call 38 [.t 28, .t 30, .t 31]⟩,
    ⟨none, some 33, .pk (.t 26) (.t 32) (.c (.bool false))⟩,
    ⟨none, some 34, .mv (.t 33)⟩,
    ⟨some (34, true), some 35, .fa 4 (.t 1)⟩,
    ⟨some (34, true), some 36, .ld false 1 (.t 35)⟩,
    ⟨some (34, true), some 37, .call 38 [.t 36, .c (.int .i64 (-8388608)), .c (.int .i64 8388608)]⟩,
    ⟨none, some 38, .pk (.t 34) (.t 37) (.c (.bool false))⟩,
    ⟨none, some 39, .mv (.t 38)⟩,
    ⟨some (39, true), some 40, .fa 5 (.t 1)⟩,
    ⟨some (39, true), some 41, .ld false 1 (.t 40)⟩,
    ⟨some (39, true), some 42, .call 38 [.t 41, .c (.int .i64 (-8388608)), .c (.int .i64 8388608)]⟩,
    ⟨none, some 43, .pk (.t 39) (.t 42) (.c (.bool false))⟩,
    ⟨none, some 2, .mv (.t 43)⟩]) <|
  .ret
def f58S : SFun := ⟨44, [.t 2], .pure, f58B⟩
theorem f58OK : FnOk Go.Proofs.Try.prog 58 f58S := FnOk.of (ks := []) (cs := []) (by kernel_rfl)

/-- loop.example/g00190/spec.PathOk -/
def f59L0b : SC :=
  .seq (.seq (.reg false [
    ⟨none, some 17, .mv (.t 4)⟩,
    ⟨none, some 18, .fa 0 (.t 1)⟩,
    ⟨none, some 19, .ld false 1 (.t 18)⟩,
    ⟨none, some 20, .len (.t 19)⟩,
    ⟨none, some 21, .bin .lss (.t 17) (.t 20)⟩]) <|
  .cond (.t 21)
    (.skip)
    (.exit 0)) <|
  .seq (.block 1 (
    .seq (.reg false [
      ⟨none, some 24, .fa 0 (.t 1)⟩,
      ⟨none, some 25, .ld false 1 (.t 24)⟩,
      ⟨none, some 26, .mv (.t 4)⟩,
      ⟨none, some 27, .ia 1 (.t 25) (.t 26)⟩,
      ⟨none, some 28, .ld false 1 (.t 27)⟩,
      ⟨none, some 29, .call 83 [.t 28]⟩,
      ⟨none, some 5, .mv (.t 29)⟩]) <|
    .seq (.seq (.reg false [
      ⟨none, some 30, .mv (.t 5)⟩,
      ⟨none, some 31, .bin .lss (.t 30) (.c (.int .i64 0))⟩,
      ⟨none, some 32, .mv (.t 31)⟩,
      ⟨some (32, false), some 33, .mv (.t 4)⟩,
      ⟨some (32, false), some 34, .bin .eql (.t 33) (.c (.int .i64 0))⟩,
      ⟨some (32, false), some 35, .mv (.t 34)⟩,
      ⟨some (35, false), some 36, .fa 0 (.t 1)⟩,
      ⟨some (35, false), some 37, .ld false 1 (.t 36)⟩,
      ⟨some (35, false), some 38, .mv (.t 4)⟩,
      ⟨some (35, false), some 39, .bin .sub (.t 38) (.c (.int .i64 1))⟩,
      ⟨some (35, false), some 40, .ia 1 (.t 37) (.t 39)⟩,
      ⟨some (35, false), some 41, .ld false 1 (.t 40)⟩,
      ⟨some (35, false), some 42, .bin .eql (.t 41) (.c (.int .i64 5))⟩,
      ⟨some (32, false), some 43, .pk (.t 35) (.c (.bool true)) (.t 42)⟩,
      ⟨some (32, false), some 44, .mv (.t 43)⟩,
      ⟨some (44, true), some 45, .fa 0 (.t 1)⟩,
      ⟨some (44, true), some 46, .ld false 1 (.t 45)⟩,
      ⟨some (44, true), some 47, .mv (.t 4)⟩,
      ⟨some (44, true), some 48, .ia 1 (.t 46) (.t 47)⟩,
      ⟨some (44, true), some 49, .ld false 1 (.t 48)⟩,
      ⟨some (44, true), some 50, .bin .neq (.t 49) (.c (.int .i64 1))⟩,
      ⟨some (32, false), some 51, .pk (.t 44) (.t 50) (.c (.bool false))⟩,
      ⟨none, some 52, .pk (.t 32) (.c (.bool true)) (.t 51)⟩]) <|
    .cond (.t 52)
      (.seq (.reg false [
        ⟨none, some 2, .mv (.c (.bool false))⟩]) <|
      .ret)
      (.skip)) <|
    .reg false [
      ⟨none, some 53, .mv (.t 3)⟩,
      ⟨none, some 54, .mv (.t 5)⟩,
      ⟨none, some 55, .bin .add (.t 53) (.t 54)⟩,
      ⟨none, some 3, .mv (.t 55)⟩])) <|
  .reg false [
    ⟨none, some 22, .mv (.t 4)⟩,
    ⟨none, some 23, .bin .add (.t 22) (.c (.int .i64 1))⟩,
    ⟨none, some 4, .mv (.t 23)⟩]
def f59L0 : SC := f59L0b
def f59L1b : SC :=
  .seq (.seq (.reg false [
    ⟨none, some 56, .mv (.t 6)⟩,
    ⟨none, some 57, .fa 1 (.t 1)⟩,
    ⟨none, some 58, .ld false 1 (.t 57)⟩,
    ⟨none, some 59, .len (.t 58)⟩,
    ⟨none, some 60, .bin .lss (.t 56) (.t 59)⟩]) <|
  .cond (.t 60)
    (.skip)
    (.exit 2)) <|
  .seq (.block 3 (
    .seq (.reg false [
      ⟨none, some 63, .fa 1 (.t 1)⟩,
      ⟨none, some 64, .ld false 1 (.t 63)⟩,
      ⟨none, some 65, .mv (.t 6)⟩,
      ⟨none, some 66, .ia 2 (.t 64) (.t 65)⟩,
      ⟨none, some 67, .ld true 2 (.t 66)⟩,
      ⟨none, some 68, .call 84 [.t 67]⟩,
      ⟨none, some 69, .nt (.t 68)⟩]) <|
    .cond (.t 69)
      (.seq (.reg false [
        ⟨none, some 2, .mv (.c (.bool false))⟩]) <|
      .ret)
      (.skip))) <|
  .reg false [
    ⟨none, some 61, .mv (.t 6)⟩,
    ⟨none, some 62, .bin .add (.t 61) (.c (.int .i64 1))⟩,
    ⟨none, some 6, .mv (.t 62)⟩]
def f59L1 : SC := f59L1b
def f59B : SC :=
  .seq (.reg false [
    ⟨none, some 1, .bx (.t 0)⟩,
    ⟨none, some 2, .mv (.c (.bool false))⟩]) <|
  .seq (.seq (.reg false [
    ⟨none, some 7, .fa 1 (.t 1)⟩,
    ⟨none, some 8, .ld false 1 (.t 7)⟩,
    ⟨none, some 9, .len (.t 8)⟩,
    ⟨none, some 10, .bin .gtr (.t 9) (.c (.int .i64 24))⟩,
    ⟨none, some 11, .mv (.t 10)⟩,
    ⟨some (11, false), some 12, .fa 0 (.t 1)⟩,
    ⟨some (11, false), some 13, .ld false 1 (.t 12)⟩,
    ⟨some (11, false), some 14, .len (.t 13)⟩,
    ⟨some (11, false), some 15, .bin .gtr (.t 14) (.c (.int .i64 24))⟩,
    ⟨none, some 16, .pk (.t 11) (.c (.bool true)) (.t 15)⟩]) <|
  .cond (.t 16)
    (.seq (.reg false [
      ⟨none, some 2, .mv (.c (.bool false))⟩]) <|
    .ret)
    (.skip)) <|
  .seq (.reg false [
    ⟨none, some 3, .mv (.c (.int .i64 0))⟩]) <|
  .seq (.seq (.reg false [
    ⟨none, some 4, .mv (.c (.int .i64 0))⟩]) <|
  .block 0 (
    .loop [1, 2, 3, 4] f59L0)) <|
  .seq (.seq (.reg false [
    ⟨none, some 6, .mv (.c (.int .i64 0))⟩]) <|
  .block 2 (
    .loop [1, 2, 3, 6] f59L1)) <|
  .seq (.reg false [
    ⟨none, some 70, .mv (.t 3)⟩,
    ⟨none, some 71, .fa 1 (.t 1)⟩,
    ⟨none, some 72, .ld false 1 (.t 71)⟩,
    ⟨none, some 73, .len (.t 72)⟩,
    ⟨none, some 74, .bin .eql (.t 70) (.t 73)⟩,
    ⟨none, some 2, .mv (.t 74)⟩]) <|
  .ret
def f59S : SFun := ⟨75, [.t 2], .pure, f59B⟩
theorem f59OK : FnOk Go.Proofs.Try.prog 59 f59S := FnOk.of (ks := [[1, 2, 3, 4], [1, 2, 3, 6]]) (cs := []) (by kernel_rfl)

/-- loop.example/g00190/spec.DashOk -/
def f60L0b : SC :=
  .seq (.seq (.reg false [
    ⟨none, some 4, .mv (.t 3)⟩,
    ⟨none, some 5, .mv (.t 0)⟩,
    ⟨none, some 6, .len (.t 5)⟩,
    ⟨none, some 7, .bin .lss (.t 4) (.t 6)⟩]) <|
  .cond (.t 7)
    (.skip)
    (.exit 0)) <|
  .seq (.block 1 (
    .seq (.reg false [
      ⟨none, some 10, .mv (.t 0)⟩,
      ⟨none, some 11, .mv (.t 3)⟩,
      ⟨none, some 12, .ia 1 (.t 10) (.t 11)⟩,
      ⟨none, some 13, .ld false 1 (.t 12)⟩,
      ⟨none, some 14, .call 38 [.t 13, .c (.int .i64 1), .c (.int .i64 20000)]⟩,
      ⟨none, some 15, .nt (.t 14)⟩]) <|
    .cond (.t 15)
      (.seq (.reg false [
        ⟨none, some 2, .mv (.c (.bool false))⟩]) <|
      .ret)
      (.skip))) <|
  .reg false [
    ⟨none, some 8, .mv (.t 3)⟩,
    ⟨none, some 9, .bin .add (.t 8) (.c (.int .i64 1))⟩,
    ⟨none, some 3, .mv (.t 9)⟩]
def f60L0 : SC := f60L0b
def f60B : SC :=
  .seq (.reg false [
    ⟨none, some 2, .mv (.c (.bool false))⟩]) <|
  .seq (.seq (.reg false [
    ⟨none, some 3, .mv (.c (.int .i64 0))⟩]) <|
  .block 0 (
    .loop [0, 2, 3] f60L0)) <|
  .seq (.reg false [
    ⟨none, some 16, .mv (.t 0)⟩,
    ⟨none, some 17, .len (.t 16)⟩,
    ⟨none, some 18, .bin .rem (.t 17) (.c (.int .i64 2))⟩,
    ⟨none, some 19, .bin .eql (.t 18) (.c (.int .i64 0))⟩,
    ⟨none, some 20, .mv (.t 19)⟩,
    ⟨some (20, true), some 21, .mv (.t 0)⟩,
    ⟨some (20, true), some 22, .len (.t 21)⟩,
    ⟨some (20, true), some 23, .bin .leq (.t 22) (.c (.int .i64 4))⟩,
    ⟨none, some 24, .pk (.t 20) (.t 23) (.c (.bool false))⟩,
    ⟨none, some 2, .mv (.t 24)⟩]) <|
  .ret
def f60S : SFun := ⟨25, [.t 2], .pure, f60B⟩
theorem f60OK : FnOk Go.Proofs.Try.prog 60 f60S := FnOk.of (ks := [[0, 2, 3]]) (cs := []) (by kernel_rfl)

/-- loop.example/g00190/spec.l15NoPath -/
def f61B : SC :=
  .seq (.reg false [
    ⟨none, some 1, .bx (.t 0)⟩,
    ⟨none, some 2, .mv (.c (.bool false))⟩]) <|
  .seq (.reg false [
    ⟨none, some 3, .fa 0 (.t 1)⟩,
    ⟨none, some 4, .ld false 1 (.t 3)⟩,
    ⟨none, some 5, .len (.t 4)⟩,
    ⟨none, some 6, .bin .eql (.t 5) (.c (.int .i64 0))⟩,
    ⟨none, some 7, .mv (.t 6)⟩,
    ⟨some (7, true), some 8, .fa 1 (.t 1)⟩,
    ⟨some (7, true), some 9, .ld false 1 (.t 8)⟩,
    ⟨some (7, true), some 10, .len (.t 9)⟩,
    ⟨some (7, true), some 11, .bin .eql (.t 10) (.c (.int .i64 0))⟩,
    ⟨none, some 12, .pk (.t 7) (.t 11) (.c (.bool false))⟩,
    ⟨none, some 2, .mv (.t 12)⟩]) <|
  .ret
def f61S : SFun := ⟨13, [.t 2], .pure, f61B⟩
theorem f61OK : FnOk Go.Proofs.Try.prog 61 f61S := FnOk.of (ks := []) (cs := []) (by kernel_rfl)

/-- loop.example/g00190/spec.l15NoPaint -/
def f62B : SC :=
  .seq (.reg false [
    ⟨none, some 1, .bx (.t 0)⟩,
    ⟨none, some 2, .mv (.c (.bool false))⟩]) <|
  .seq (.reg false [
    ⟨none, some 3, .ld true 13 (.t 1)⟩,
    ⟨none, some 4, .bd [.int .i64 0, .int .i64 0, .int .i64 0, .int .i64 0, .int .i64 0, .int .i64 0, .int .i64 0, .int .i64 0, .int .i64 0, .int .i64 0, .int .i64 0, .int .i64 0, .int .i64 0] []⟩,
    ⟨none, some 5, .seq false [.i64, .i64, .i64, .i64, .i64, .i64, .i64, .i64, .i64, .i64, .i64, .i64, .i64] (.t 3) (.t 4)⟩,
    ⟨none, some 2, .mv (.t 5)⟩]) <|
  .ret
def f62S : SFun := ⟨6, [.t 2], .pure, f62B⟩
theorem f62OK : FnOk Go.Proofs.Try.prog 62 f62S := FnOk.of (ks := []) (cs := []) (by kernel_rfl)

/-- loop.example/g00190/spec.PaintOk -/
def f63B : SC :=
  .seq (.reg false [
    ⟨none, some 1, .bx (.t 0)⟩,
    ⟨none, some 2, .mv (.c (.bool false))⟩]) <|
  .seq (.reg false [
    ⟨none, some 5, .bd [.int .i64 0, .int .i64 0, .int .i64 0, .int .i64 0] []⟩,
    ⟨none, some 3, .al [.int .i64 0, .int .i64 0, .int .i64 0, .int .i64 0]⟩,
    ⟨none, none, .st 4 (.t 3) (.t 5)⟩]) <|
  .seq (.reg false [
    ⟨none, some 6, .bd [.int .i64 0, .int .i64 0] []⟩,
    ⟨none, some 4, .al [.int .i64 0, .int .i64 0]⟩,
    ⟨none, none, .st 2 (.t 4) (.t 6)⟩]) <|
  .seq (.seq (.reg false [
    ⟨none, some 7, .fa 1 (.t 1)⟩,
    ⟨none, some 8, .ld true 4 (.t 7)⟩,
    ⟨none, some 9, .call 85 [.t 8]⟩,
    ⟨none, some 10, .nt (.t 9)⟩]) <|
  .cond (.t 10)
    (.seq (.reg false [
      ⟨none, some 2, .mv (.c (.bool false))⟩]) <|
    .ret)
    (.skip)) <|
  .seq (.seq (.reg false [
    ⟨none, some 11, .fa 0 (.t 1)⟩,
    ⟨none, some 12, .ld false 1 (.t 11)⟩,
    ⟨none, some 13, .bin .eql (.t 12) (.c (.int .i64 1))⟩]) <|
  .cond (.t 13)
    (.seq (.reg false [
      ⟨none, some 14, .fa 5 (.t 1)⟩,
      ⟨none, some 15, .ld true 4 (.t 14)⟩,
      ⟨none, some 16, .ld true 4 (.t 3)⟩,
      ⟨none, some 17, .seq false [.i64, .i64, .i64, .i64] (.t 15) (.t 16)⟩,
      ⟨none, some 18, .mv (.t 17)⟩,
      ⟨some (18, true), some 19, .fa 9 (.t 1)⟩,
      ⟨some (18, true), some 20, .ld true 2 (.t 19)⟩,
      ⟨some (18, true), some 21, .ld true 2 (.t 4)⟩,
      ⟨some (18, true), some 22, .seq false [.i64, .i64] (.t 20) (.t 21)⟩,
      ⟨none, some 23, .pk (.t 18) (.t 22) (.c (.bool false))⟩,
      ⟨none, some 24, .mv (.t 23)⟩,
      ⟨some (24, true), some 25, .fa 11 (.t 1)⟩,
      ⟨some (24, true), some 26, .ld true 2 (.t 25)⟩,
      ⟨some (24, true), some 27, .ld true 2 (.t 4)⟩,
      ⟨some (24, true), some 28, .seq false [.i64, .i64] (.t 26) (.t 27)⟩,
      ⟨none, some 29, .pk (.t 24) (.t 28) (.c (.bool false))⟩,
      ⟨none, some 2, .mv (.t 29)⟩]) <|
    .ret)
    (.skip)) <|
  .seq (.reg false [
    ⟨none, some 30, .fa 0 (.t 1)⟩,
    ⟨none, some 31, .ld false 1 (.t 30)⟩,
    ⟨none, some 32, .bin .eql (.t 31) (.c (.int .i64 2))⟩,
    ⟨none, some 33, .mv (.t 32)⟩,
    ⟨some (33, true), some 34, .fa 5 (.t 1)⟩,
    ⟨some (33, true), some 35, .ld true 4 (.t 34)⟩,
    ⟨some (33, true), some 36, .call 85 [.t 35]⟩,
    ⟨none, some 37, .pk (.t 33) (.t 36) (.c (.bool false))⟩,
    ⟨none, some 38, .mv (.t 37)⟩,
    ⟨some (38, true), some 39, .fa 9 (.t 1)⟩,
    ⟨some (38, true), some 40, .ld true 2 (.t 39)⟩,
    ⟨some (38, true), some 41, .call 84 [.t 40]⟩,
    ⟨none, some 42, .pk (.t 38) (.t 41) (.c (.bool false))⟩,
    ⟨none, some 43, .mv (.t 42)⟩,
    ⟨some (43, true), some 44, .fa 11 (.t 1)⟩,
    ⟨some (43, true), some 45, .ld true 2 (.t 44)⟩,
    ⟨some (43, true), some 46, .call 84 [.t 45]⟩,
    ⟨none, some 47, .pk (.t 43) (.t 46) (.c (.bool false))⟩,
    ⟨none, some 48, .mv (.t 47)⟩,
    ⟨some (48, true), some 49, .fa 9 (.t 1)⟩,
    ⟨some (48, true), some 50, .ld true 2 (.t 49)⟩,
    ⟨some (48, true), some 51, .fa 11 (.t 1)⟩,
    ⟨some (48, true), some 52, .ld true 2 (.t 51)⟩,
    ⟨some (48, true), some 53, .seq true [.i64, .i64] (.t 50) (.t 52)⟩,
    ⟨none, some 54, .pk (.t 48) (.t 53) (.c (.bool false))⟩,
    ⟨none, some 2, .mv (.t 54)⟩]) <|
  .ret
def f63S : SFun := ⟨55, [.t 2], .pure, f63B⟩
theorem f63OK : FnOk Go.Proofs.Try.prog 63 f63S := FnOk.of (ks := []) (cs := []) (by kernel_rfl)

/-- loop.example/g00190/laws.toMat -/
def f64B : SC :=
  .seq (.reg false [
    ⟨none, some 1, .bx (.t 0)⟩,
    ⟨none, some 2, .al [.int .i64 0, .int .i64 0, .int .i64 0, .int .i64 0, .int .i64 0, .int .i64 0]⟩]) <|
  .seq (.reg false [
    ⟨none, some 3, .al [.int .i64 0, .int .i64 0, .int .i64 0, .int .i64 0, .int .i64 0, .int .i64 0]⟩]) <|
  .seq (.reg false [
    ⟨none, some 4, .fa 0 (.t 1)⟩,
    ⟨none, some 5, .ld false 1 (.t 4)⟩,
    ⟨none, some 6, .fa 0 (.t 3)⟩,
    ⟨none, none, .st 1 (.t 6) (.t 5)⟩]) <|
  .seq (.reg false [
    ⟨none, some 7, .fa 1 (.t 1)⟩,
    ⟨none, some 8, .ld false 1 (.t 7)⟩,
    ⟨none, some 9, .fa 1 (.t 3)⟩,
    ⟨none, none, .st 1 (.t 9) (.t 8)⟩]) <|
  .seq (.reg false [
    ⟨none, some 10, .fa 2 (.t 1)⟩,
    ⟨none, some 11, .ld false 1 (.t 10)⟩,
    ⟨none, some 12, .fa 2 (.t 3)⟩,
    ⟨none, none, .st 1 (.t 12) (.t 11)⟩]) <|
  .seq (.reg false [
    ⟨none, some 13, .fa 3 (.t 1)⟩,
    ⟨none, some 14, .ld false 1 (.t 13)⟩,
    ⟨none, some 15, .fa 3 (.t 3)⟩,
    ⟨none, none, .st 1 (.t 15) (.t 14)⟩]) <|
  .seq (.reg false [
    ⟨none, some 16, .fa 4 (.t 1)⟩,
    ⟨none, some 17, .ld false 1 (.t 16)⟩,
    ⟨none, some 18, .fa 4 (.t 3)⟩,
    ⟨none, none, .st 1 (.t 18) (.t 17)⟩]) <|
  .seq (.reg false [
    ⟨none, some 19, .fa 5 (.t 1)⟩,
    ⟨none, some 20, .ld false 1 (.t 19)⟩,
    ⟨none, some 21, .fa 5 (.t 3)⟩,
    ⟨none, none, .st 1 (.t 21) (.t 20)⟩]) <|
  .seq (.reg false [
    ⟨none, some 22, .ld true 6 (.t 3)⟩,
    ⟨none, none, .st 6 (.t 2) (.t 22)⟩]) <|
  .ret
def f64S : SFun := ⟨23, [.c 2 true 6], .pure, f64B⟩
theorem f64OK : FnOk Go.Proofs.Try.prog 64 f64S := FnOk.of (ks := []) (cs := []) (by kernel_rfl)

/-- loop.example/g00190/laws.toPath -/
def f65B : SC :=
  .seq (.reg false [
    ⟨none, some 1, .bx (.t 0)⟩,
    ⟨none, some 2, .al [.sl .nl [], .sl .nl []]⟩]) <|
  .seq (.reg false [
    ⟨none, some 3, .al [.sl .nl [], .sl .nl []]⟩]) <|
  .seq (.reg false [
    ⟨none, some 4, .fa 0 (.t 1)⟩,
    ⟨none, some 5, .ld false 1 (.t 4)⟩,
    ⟨none, some 6, .call 66 [.t 5]⟩,
    ⟨none, some 7, .fa 0 (.t 3)⟩,
    ⟨none, none, .st 1 (.t 7) (.t 6)⟩]) <|
  .seq (.reg false [
    ⟨none, some 8, .fa 1 (.t 1)⟩,
    ⟨none, some 9, .ld false 1 (.t 8)⟩,
    ⟨none, some 10, .call 86 [.t 9]⟩,
    ⟨none, some 11, .fa 1 (.t 3)⟩,
    ⟨none, none, .st 1 (.t 11) (.t 10)⟩]) <|
  .seq (.reg false [
    ⟨none, some 12, .ld true 2 (.t 3)⟩,
    ⟨none, none, .st 2 (.t 2) (.t 12)⟩]) <|
  .ret
def f65S : SFun := ⟨13, [.c 2 true 2], .own, f65B⟩
theorem f65OK : FnOk Go.Proofs.Try.prog 65 f65S := FnOk.of (ks := []) (cs := []) (by kernel_rfl)

/-- loop.example/g00190/laws.toIntS -/
def f66L0b : SC :=
  .seq (.seq (.reg false [
    ⟨none, some 8, .mv (.t 4)⟩,
    ⟨none, some 9, .mv (.t 0)⟩,
    ⟨none, some 10, .len (.t 9)⟩,
    ⟨none, some 11, .bin .lss (.t 8) (.t 10)⟩]) <|
  .cond (.t 11)
    (.skip)
    (.exit 0)) <|
  .seq (.block 1 (
    .reg false [
      ⟨none, some 14, .mv (.t 3)⟩,
      ⟨none, some 15, .mv (.t 4)⟩,
      ⟨none, some 16, .mv (.t 0)⟩,
      ⟨none, some 17, .mv (.t 4)⟩,
      ⟨none, some 18, .ia 1 (.t 16) (.t 17)⟩,
      ⟨none, some 19, .ld false 1 (.t 18)⟩,
      ⟨none, some 20, .ia 1 (.t 14) (.t 15)⟩,
      ⟨none, none, .st 1 (.t 20) (.t 19)⟩])) <|
  .reg false [
    ⟨none, some 12, .mv (.t 4)⟩,
    ⟨none, some 13, .bin .add (.t 12) (.c (.int .i64 1))⟩,
    ⟨none, some 4, .mv (.t 13)⟩]
def f66L0 : SC := f66L0b
def f66B : SC :=
  .seq (.reg false [
    ⟨none, some 2, .mv (.c (.sl .nl []))⟩]) <|
  .seq (.reg false [
    ⟨none, some 5, .mv (.t 0)⟩,
    ⟨none, some 6, .len (.t 5)⟩,
    ⟨none, some 7, .mkb (.int .i64 0) 8 (.t 6)⟩,
    ⟨none, some 3, .mv (.t 7)⟩]) <|
  .seq (.seq (.reg false [
    ⟨none, some 4, .mv (.c (.int .i64 0))⟩]) <|
  .block 0 (
    .loop [0, 3, 4] f66L0)) <|
  .seq (.reg false [
    ⟨none, some 21, .mv (.t 3)⟩,
    ⟨none, some 2, .mv (.t 21)⟩]) <|
  .ret
def f66S : SFun := ⟨22, [.t 2], .own, f66B⟩
theorem f66OK : FnOk Go.Proofs.Try.prog 66 f66S := FnOk.of (ks := [[0, 3, 4]]) (cs := []) (by kernel_rfl)

/-- loop.example/g00190/laws.toPaint -/
def f67B : SC :=
  .seq (.reg false [
    ⟨none, some 1, .bx (.t 0)⟩,
    ⟨none, some 2, .al [.int .i64 0, .int .i64 0, .int .i64 0, .int .i64 0, .int .i64 0, .int .i64 0, .int .i64 0, .int .i64 0, .int .i64 0, .int .i64 0, .int .i64 0, .int .i64 0, .int .i64 0]⟩]) <|
  .seq (.reg false [
    ⟨none, some 3, .al [.int .i64 0, .int .i64 0, .int .i64 0, .int .i64 0, .int .i64 0, .int .i64 0, .int .i64 0, .int .i64 0, .int .i64 0, .int .i64 0, .int .i64 0, .int .i64 0, .int .i64 0]⟩]) <|
  .seq (.reg false [
    ⟨none, some 4, .fa 0 (.t 1)⟩,
    ⟨none, some 5, .ld false 1 (.t 4)⟩,
    ⟨none, some 6, .fa 0 (.t 3)⟩,
    ⟨none, none, .st 1 (.t 6) (.t 5)⟩]) <|
  .seq (.reg false [
    ⟨none, some 7, .fa 1 (.t 1)⟩,
    ⟨none, some 8, .ld true 4 (.t 7)⟩,
    ⟨none, some 9, .call 87 [.t 8]⟩,
    ⟨none, some 10, .fa 1 (.t 3)⟩,
    ⟨none, none, .st 4 (.t 10) (.t 9)⟩]) <|
  .seq (.reg false [
    ⟨none, some 11, .fa 5 (.t 1)⟩,
    ⟨none, some 12, .ld true 4 (.t 11)⟩,
    ⟨none, some 13, .call 87 [.t 12]⟩,
    ⟨none, some 14, .fa 5 (.t 3)⟩,
    ⟨none, none, .st 4 (.t 14) (.t 13)⟩]) <|
  .seq (.reg false [
    ⟨none, some 15, .fa 9 (.t 1)⟩,
    ⟨none, some 16, .ld true 2 (.t 15)⟩,
    ⟨none, some 17, .call 88 [.t 16]⟩,
    ⟨none, some 18, .fa 9 (.t 3)⟩,
    ⟨none, none, .st 2 (.t 18) (.t 17)⟩]) <|
  .seq (.reg false [
    ⟨none, some 19, .fa 11 (.t 1)⟩,
    ⟨none, some 20, .ld true 2 (.t 19)⟩,
    ⟨none, some 21, .call 88 [.t 20]⟩,
    ⟨none, some 22, .fa 11 (.t 3)⟩,
    ⟨none, none, .st 2 (.t 22) (.t 21)⟩]) <|
  .seq (.reg false [
    ⟨none, some 23, .ld true 13 (.t 3)⟩,
    ⟨none, none, .st 13 (.t 2) (.t 23)⟩]) <|
  .ret
def f67S : SFun := ⟨24, [.c 2 true 13], .pure, f67B⟩
theorem f67OK : FnOk Go.Proofs.Try.prog 67 f67S := FnOk.of (ks := []) (cs := []) (by kernel_rfl)

/-- loop.example/g00190/impl.copyPath -/
def f68B : SC :=
  .seq (.reg false [
    ⟨none, some 1, .bx (.t 0)⟩,
    ⟨none, some 2, .al [.sl .nl [], .sl .nl []]⟩]) <|
  .seq (.reg true [
    ⟨none, some 3, .fa 0 (.t 1)⟩,
    ⟨none, some 4, .ld false 1 (.t 3)⟩,
    ⟨none, some 5, .call 69 [.t 4]⟩,
    ⟨none, some 6, .fa 1 (.t 1)⟩,
    ⟨none, some 7, .ld false 1 (.t 6)⟩,
    ⟨none, some 8, .call 89 [.t 7]⟩,
    ⟨none, some 9, .bd [.sl .nl [], .sl .nl []] [(0, 1, .t 5), (1, 1, .t 8)]⟩,
    ⟨none, none, .st 2 (.t 2) (.t 9)⟩]) <|
  .ret
def f68S : SFun := ⟨10, [.c 2 true 2], .own, f68B⟩
theorem f68OK : FnOk Go.Proofs.Try.prog 68 f68S := FnOk.of (ks := []) (cs := [[[], [0], [1, 0], [], [3], [4, 3, 2, 1, 0], [2, 1, 0, 5, 4, 3], [6, 2, 1, 0, 5, 4, 3]]]) (by kernel_rfl)

/-- loop.example/g00190/impl.MatOk -/
def f70L0b : SC :=
  .seq (.reg false [
    ⟨none, some 15, .bin .lss (.t 14) (.c (.int .i64 4))⟩]) <|
  .seq (.cond (.t 15)
    (.skip)
    (.exit 0)) <|
  .seq (.block 1 (
    .seq (.reg false [
      ⟨none, some 16, .ixA false 4 1 (.t 13) (.t 14)⟩,
      ⟨none, some 4, .mv (.t 16)⟩]) <|
    .seq (.reg false [
      ⟨none, some 17, .mv (.t 4)⟩,
      ⟨none, some 18, .call 34 [.t 17, .c (.int .i64 (-1048576)), .c (.int .i64 1048576)]⟩,
      ⟨none, some 19, .nt (.t 18)⟩]) <|
    .cond (.t 19)
      (.seq (.reg false [
        ⟨none, some 2, .mv (.c (.bool false))⟩]) <|
      .ret)
      (.skip))) <|
  .reg false [
    ⟨none, some 20, .bin .add (.t 14) (.c (.int .i64 1))⟩,
    ⟨none, some 14, .mv (.t 20)⟩]
def f70L0 : SC := f70L0b
def f70B : SC :=
  .seq (.reg false [
    ⟨none, some 1, .bx (.t 0)⟩,
    ⟨none, some 2, .mv (.c (.bool false))⟩]) <|
  .seq (.seq (.reg false [
    ⟨none, some 5, .fa 0 (.t 1)⟩,
    ⟨none, some 6, .ld false 1 (.t 5)⟩,
    ⟨none, some 7, .fa 1 (.t 1)⟩,
    ⟨none, some 8, .ld false 1 (.t 7)⟩,
    ⟨none, some 9, .fa 2 (.t 1)⟩,
    ⟨none, some 10, .ld false 1 (.t 9)⟩,
    ⟨none, some 11, .fa 3 (.t 1)⟩,
    ⟨none, some 12, .ld false 1 (.t 11)⟩,
    ⟨none, some 13, .bd [.int .i64 0, .int .i64 0, .int .i64 0, .int .i64 0] [(0, 1, .t 6), (1, 1, .t 8), (2, 1, .t 10), (3, 1, .t 12)]⟩,
    ⟨none, some 14, .mv (.c (.int .i64 0))⟩]) <|
  .block 0 (
    .loop [1, 2, 13, 14] f70L0)) <|
  .seq (.reg false [
    ⟨none, some 21, .fa 4 (.t 1)⟩,
    ⟨none, some 22, .ld false 1 (.t 21)⟩,
    ⟨none, some 23, .call 90 [.t 22]⟩,
    ⟨none, some 24, .mv (.t 23)⟩,
    ⟨some (24, true), some 25, .fa 5 (.t 1)⟩,
    ⟨some (24, true), some 26, .ld false 1 (.t 25)⟩,
    ⟨some (24, true), some 27, .call 90 [.t 26]⟩,
    ⟨none, some 28, .pk (.t 24) (.t 27) (.c (.bool false))⟩,
    ⟨none, some 2, .mv (.t 28)⟩]) <|
  .ret
def f70S : SFun := ⟨29, [.t 2], .pure, f70B⟩
theorem f70OK : FnOk Go.Proofs.Try.prog 70 f70S := FnOk.of (ks := [[1, 2, 13, 14]]) (cs := []) (by kernel_rfl)

/-- loop.example/g00190/impl.PathOk -/
def f71L0b : SC :=
  .seq (.reg false [
    ⟨none, some 28, .bin .lss (.t 27) (.t 26)⟩]) <|
  .seq (.cond (.t 28)
    (.skip)
    (.exit 0)) <|
  .seq (.block 1 (
    .seq (.reg false [
      ⟨none, some 29, .mv (.t 27)⟩,
      ⟨none, some 30, .ia 1 (.t 25) (.t 27)⟩,
      ⟨none, some 31, .ld false 1 (.t 30)⟩,
      ⟨none, some 4, .mv (.t 29)⟩,
      ⟨none, some 5, .mv (.t 31)⟩]) <|
    .seq (.reg false [
      ⟨none, some 32, .mv (.t 5)⟩,
      ⟨none, some 33, .call 92 [.t 32]⟩,
      ⟨none, some 6, .mv (.t 33)⟩]) <|
    .seq (.reg false [
      ⟨none, some 34, .mv (.t 4)⟩,
      ⟨none, some 35, .bin .eql (.t 34) (.c (.int .i64 0))⟩,
      ⟨none, some 36, .mv (.t 35)⟩,
      ⟨some (36, false), some 37, .fa 0 (.t 1)⟩,
      ⟨some (36, false), some 38, .ld false 1 (.t 37)⟩,
      ⟨some (36, false), some 39, .mv (.t 4)⟩,
      ⟨some (36, false), some 40, .bin .sub (.t 39) (.c (.int .i64 1))⟩,
      ⟨some (36, false), some 41, .ia 1 (.t 38) (.t 40)⟩,
      ⟨some (36, false), some 42, .ld false 1 (.t 41)⟩,
      ⟨some (36, false), some 43, .bin .eql (.t 42) (.c (.int .i64 5))⟩,
      ⟨none, some 44, .pk (.t 36) (.c (.bool true)) (.t 43)⟩,
      ⟨none, some 7, .mv (.t 44)⟩]) <|
    .seq (.seq (.reg false [
      ⟨none, some 45, .mv (.t 6)⟩,
      ⟨none, some 46, .bin .lss (.t 45) (.c (.int .i64 0))⟩,
      ⟨none, some 47, .mv (.t 46)⟩,
      ⟨some (47, false), some 48, .mv (.t 7)⟩,
      ⟨some (47, false), some 49, .mv (.t 48)⟩,
      ⟨some (49, true), some 50, .mv (.t 5)⟩,
      ⟨some (49, true), some 51, .bin .neq (.t 50) (.c (.int .i64 1))⟩,
      ⟨some (47, false), some 52, .pk (.t 49) (.t 51) (.c (.bool false))⟩,
      ⟨none, some 53, .pk (.t 47) (.c (.bool true)) (.t 52)⟩]) <|
    .cond (.t 53)
      (.seq (.reg false [
        ⟨none, some 2, .mv (.c (.bool false))⟩]) <|
      .ret)
      (.skip)) <|
    .reg false [
      ⟨none, some 54, .mv (.t 3)⟩,
      ⟨none, some 55, .mv (.t 6)⟩,
      ⟨none, some 56, .bin .add (.t 54) (.t 55)⟩,
      ⟨none, some 3, .mv (.t 56)⟩])) <|
  .reg false [
    ⟨none, some 57, .bin .add (.t 27) (.c (.int .i64 1))⟩,
    ⟨none, some 27, .mv (.t 57)⟩]
def f71L0 : SC := f71L0b
def f71B : SC :=
  .seq (.reg false [
    ⟨none, some 1, .bx (.t 0)⟩,
    ⟨none, some 2, .mv (.c (.bool false))⟩]) <|
  .seq (.seq (.reg false [
    ⟨none, some 8, .fa 1 (.t 1)⟩,
    ⟨none, some 9, .ld false 1 (.t 8)⟩,
    ⟨none, some 10, .len (.t 9)⟩,
    ⟨none, some 11, .bin .gtr (.t 10) (.c (.int .i64 24))⟩,
    ⟨none, some 12, .mv (.t 11)⟩,
    ⟨some (12, false), some 13, .fa 0 (.t 1)⟩,
    ⟨some (12, false), some 14, .ld false 1 (.t 13)⟩,
    ⟨some (12, false), some 15, .len (.t 14)⟩,
    ⟨some (12, false), some 16, .bin .gtr (.t 15) (.c (.int .i64 24))⟩,
    ⟨none, some 17, .pk (.t 12) (.c (.bool true)) (.t 16)⟩,
    ⟨none, some 18, .mv (.t 17)⟩,
    ⟨some (18, false), some 19, .fa 1 (.t 1)⟩,
    ⟨some (18, false), some 20, .ld false 1 (.t 19)⟩,
    ⟨some (18, false), some 21, .call 91 [.t 20]⟩,
    ⟨some (18, false), some 22, .nt (.t 21)⟩,
    ⟨none, some 23, .pk (.t 18) (.c (.bool true)) (.t 22)⟩]) <|
  .cond (.t 23)
    (.seq (.reg false [
      ⟨none, some 2, .mv (.c (.bool false))⟩]) <|
    .ret)
    (.skip)) <|
  .seq (.reg false [
    ⟨none, some 3, .mv (.c (.int .i64 0))⟩]) <|
  .seq (.seq (.reg false [
    ⟨none, some 24, .fa 0 (.t 1)⟩,
    ⟨none, some 25, .ld false 1 (.t 24)⟩,
    ⟨none, some 26, .len (.t 25)⟩,
    ⟨none, some 27, .mv (.c (.int .i64 0))⟩]) <|
  .block 0 (
    .loop [1, 2, 3, 25, 26, 27] f71L0)) <|
  .seq (.reg false [
    ⟨none, some 58, .mv (.t 3)⟩,
    ⟨none, some 59, .fa 1 (.t 1)⟩,
    ⟨none, some 60, .ld false 1 (.t 59)⟩,
    ⟨none, some 61, .len (.t 60)⟩,
    ⟨none, some 62, .bin .eql (.t 58) (.t 61)⟩,
    ⟨none, some 2, .mv (.t 62)⟩]) <|
  .ret
def f71S : SFun := ⟨63, [.t 2], .pure, f71B⟩
theorem f71OK : FnOk Go.Proofs.Try.prog 71 f71S := FnOk.of (ks := [[1, 2, 3, 25, 26, 27]]) (cs := []) (by kernel_rfl)

/-- loop.example/g00190/impl.DashOk -/
def f72L0b : SC :=
  .seq (.reg false [
    ⟨none, some 8, .bin .lss (.t 7) (.t 6)⟩]) <|
  .seq (.cond (.t 8)
    (.skip)
    (.exit 0)) <|
  .seq (.block 1 (
    .seq (.reg false [
      ⟨none, some 9, .ia 1 (.t 5) (.t 7)⟩,
      ⟨none, some 10, .ld false 1 (.t 9)⟩,
      ⟨none, some 4, .mv (.t 10)⟩]) <|
    .seq (.reg false [
      ⟨none, some 11, .mv (.t 4)⟩,
      ⟨none, some 12, .call 34 [.t 11, .c (.int .i64 1), .c (.int .i64 20000)]⟩,
      ⟨none, some 13, .nt (.t 12)⟩]) <|
    .cond (.t 13)
      (.seq (.reg false [
        ⟨none, some 2, .mv (.c (.bool false))⟩]) <|
      .ret)
      (.skip))) <|
  .reg false [
    ⟨none, some 14, .bin .add (.t 7) (.c (.int .i64 1))⟩,
    ⟨none, some 7, .mv (.t 14)⟩]
def f72L0 : SC := f72L0b
def f72B : SC :=
  .seq (.reg false [
    ⟨none, some 2, .mv (.c (.bool false))⟩]) <|
  .seq (.seq (.reg false [
    ⟨none, some 5, .mv (.t 0)⟩,
    ⟨none, some 6, .len (.t 5)⟩,
    ⟨none, some 7, .mv (.c (.int .i64 0))⟩]) <|
  .block 0 (
    .loop [0, 2, 5, 6, 7] f72L0)) <|
  .seq (.reg false [
    ⟨none, some 15, .mv (.t 0)⟩,
    ⟨none, some 16, .len (.t 15)⟩,
    ⟨none, some 17, .bin .rem (.t 16) (.c (.int .i64 2))⟩,
    ⟨none, some 18, .bin .eql (.t 17) (.c (.int .i64 0))⟩,
    ⟨none, some 19, .mv (.t 18)⟩,
    ⟨some (19, true), some 20, .mv (.t 0)⟩,
    ⟨some (19, true), some 21, .len (.t 20)⟩,
    ⟨some (19, true), some 22, .bin .leq (.t 21) (.c (.int .i64 4))⟩,
    ⟨none, some 23, .pk (.t 19) (.t 22) (.c (.bool false))⟩,
    ⟨none, some 2, .mv (.t 23)⟩]) <|
  .ret
def f72S : SFun := ⟨24, [.t 2], .pure, f72B⟩
theorem f72OK : FnOk Go.Proofs.Try.prog 72 f72S := FnOk.of (ks := [[0, 2, 5, 6, 7]]) (cs := []) (by kernel_rfl)

/-- loop.example/g00190/impl.isMode -/
def f73B : SC :=
  .seq (.reg false [
    ⟨none, some 2, .mv (.c (.bool false))⟩]) <|
  .seq (.reg false [
    ⟨none, some 3, .mv (.t 0)⟩,
    ⟨none, some 4, .call 34 [.t 3, .c (.int .i64 1), .c (.int .i64 5)]⟩,
    ⟨none, some 2, .mv (.t 4)⟩]) <|
  .ret
def f73S : SFun := ⟨5, [.t 2], .pure, f73B⟩
theorem f73OK : FnOk Go.Proofs.Try.prog 73 f73S := FnOk.of (ks := []) (cs := []) (by kernel_rfl)

/-- loop.example/g00190/impl.isByte -/
def f74B : SC :=
  .seq (.reg false [
    ⟨none, some 2, .mv (.c (.bool false))⟩]) <|
  .seq (.reg false [
    ⟨none, some 3, .mv (.t 0)⟩,
    ⟨none, some 4, .call 34 [.t 3, .c (.int .i64 0), .c (.int .i64 255)]⟩,
    ⟨none, some 2, .mv (.t 4)⟩]) <|
  .ret
def f74S : SFun := ⟨5, [.t 2], .pure, f74B⟩
theorem f74OK : FnOk Go.Proofs.Try.prog 74 f74S := FnOk.of (ks := []) (cs := []) (by kernel_rfl)

/-- (loop.example/g00190/impl.Path).isNone -/
def f75B : SC :=
  .seq (.reg false [
    ⟨none, some 1, .bx (.t 0)⟩,
    ⟨none, some 2, .mv (.c (.bool false))⟩]) <|
  .seq (.reg false [
    ⟨none, some 3, .fa 0 (.t 1)⟩,
    ⟨none, some 4, .ld false 1 (.t 3)⟩,
    ⟨none, some 5, .len (.t 4)⟩,
    ⟨none, some 6, .bin .eql (.t 5) (.c (.int .i64 0))⟩,
    ⟨none, some 7, .mv (.t 6)⟩,
    ⟨some (7, true), some 8, .fa 1 (.t 1)⟩,
    ⟨some (7, true), some 9, .ld false 1 (.t 8)⟩,
    ⟨some (7, true), some 10, .len (.t 9)⟩,
    ⟨some (7, true), some 11, .bin .eql (.t 10) (.c (.int .i64 0))⟩,
    ⟨none, some 12, .pk (.t 7) (.t 11) (.c (.bool false))⟩,
    ⟨none, some 2, .mv (.t 12)⟩]) <|
  .ret
def f75S : SFun := ⟨13, [.t 2], .pure, f75B⟩
theorem f75OK : FnOk Go.Proofs.Try.prog 75 f75S := FnOk.of (ks := []) (cs := []) (by kernel_rfl)

/-- loop.example/g00190/impl.PaintOk -/
def f76B : SC :=
  .seq (.reg false [
    ⟨none, some 1, .bx (.t 0)⟩,
    ⟨none, some 2, .mv (.c (.bool false))⟩]) <|
  .seq (.seq (.reg false [
    ⟨none, some 3, .fa 0 (.t 1)⟩,
    ⟨none, some 4, .ld false 1 (.t 3)⟩]) <|
  .block 0 (
    .seq (.reg false [
      ⟨none, some 6, .bin .eql (.t 4) (.c (.int .i64 1))⟩,
      ⟨none, some 5, .mv (.t 6)⟩]) <|
    .cond (.t 5)
      (.seq (.reg false [
        ⟨none, some 7, .fa 1 (.t 1)⟩,
        ⟨none, some 8, .ld true 4 (.t 7)⟩,
        ⟨none, some 9, .call 93 [.t 8]⟩,
        ⟨none, some 10, .mv (.t 9)⟩,
        ⟨some (10, true), some 11, .ld true 13 (.t 1)⟩,
        ⟨some (10, true), some 12, .fa 1 (.t 1)⟩,
        ⟨some (10, true), some 13, .ld true 4 (.t 12)⟩,
        ⟨some (10, true), some 14, .bd [.int .i64 0, .int .i64 0, .int .i64 0, .int .i64 0, .int .i64 0, .int .i64 0, .int .i64 0, .int .i64 0, .int .i64 0, .int .i64 0, .int .i64 0, .int .i64 0, .int .i64 0] [(0, 1, .c (.int .i64 1)), (1, 4, .t 13)]⟩,
        ⟨some (10, true), some 15, .seq false [.i64, .i64, .i64, .i64, .i64, .i64, .i64, .i64, .i64, .i64, .i64, .i64, .i64] (.t 11) (.t 14)⟩,
        ⟨none, some 16, .pk (.t 10) (.t 15) (.c (.bool false))⟩,
        ⟨none, some 2, .mv (.t 16)⟩]) <|
      .ret)
      (.seq (.reg false [
        ⟨none, some 18, .bin .eql (.t 4) (.c (.int .i64 2))⟩,
        ⟨none, some 17, .mv (.t 18)⟩]) <|
      .cond (.t 17)
        (.seq (.reg false [
          ⟨none, some 19, .fa 1 (.t 1)⟩,
          ⟨none, some 20, .ld true 4 (.t 19)⟩,
          ⟨none, some 21, .call 93 [.t 20]⟩,
          ⟨none, some 22, .mv (.t 21)⟩,
          ⟨some (22, true), some 23, .fa 5 (.t 1)⟩,
          ⟨some (22, true), some 24, .ld true 4 (.t 23)⟩,
          ⟨some (22, true), some 25, .call 93 [.t 24]⟩,
          ⟨none, some 26, .pk (.t 22) (.t 25) (.c (.bool false))⟩,
          ⟨none, some 27, .mv (.t 26)⟩,
          ⟨some (27, true), some 28, .fa 9 (.t 1)⟩,
          ⟨some (27, true), some 29, .ld true 2 (.t 28)⟩,
          ⟨some (27, true), some 30, .call 94 [.t 29]⟩,
          ⟨none, some 31, .pk (.t 27) (.t 30) (.c (.bool false))⟩,
          ⟨none, some 32, .mv (.t 31)⟩,
          ⟨some (32, true), some 33, .fa 11 (.t 1)⟩,
          ⟨some (32, true), some 34, .ld true 2 (.t 33)⟩,
          ⟨some (32, true), some 35, .call 94 [.t 34]⟩,
          ⟨none, some 36, .pk (.t 32) (.t 35) (.c (.bool false))⟩,
          ⟨none, some 37, .mv (.t 36)⟩,
          ⟨some (37, true), some 38, .fa 9 (.t 1)⟩,
          ⟨some (37, true), some 39, .ld true 2 (.t 38)⟩,
          ⟨some (37, true), some 40, .fa 11 (.t 1)⟩,
          ⟨some (37, true), some 41, .ld true 2 (.t 40)⟩,
          ⟨some (37, true), some 42, .seq true [.i64, .i64] (.t 39) (.t 41)⟩,
          ⟨none, some 43, .pk (.t 37) (.t 42) (.c (.bool false))⟩,
          ⟨none, some 2, .mv (.t 43)⟩]) <|
        .ret)
        (.skip)))) <|
  .seq (.reg false [
    ⟨none, some 2, .mv (.c (.bool false))⟩]) <|
  .ret
def f76S : SFun := ⟨44, [.t 2], .pure, f76B⟩
theorem f76OK : FnOk Go.Proofs.Try.prog 76 f76S := FnOk.of (ks := []) (cs := []) (by kernel_rfl)

end Go.Proofs.Ytnehpfaafgnnpaa
