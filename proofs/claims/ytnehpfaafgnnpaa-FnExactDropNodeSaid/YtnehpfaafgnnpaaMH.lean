/- Readings of functions (printed by wip/gen). -/
import Derived.Test.YtnehpfaafgnnpaaProg
import Derived.Test.YtnehpfaafgnnpaaMG
set_option linter.unusedSimpArgs false
set_option linter.unusedVariables false
set_option linter.unnecessarySimpa false
namespace Go.Proofs.Ytnehpfaafgnnpaa
open Go.AM

/-- loop.example/g00190/laws.FnExactDropNode -/
def f3B : SC :=
  .seq (.reg false [
    ⟨none, some 2, .bx (.t 0)⟩,
    ⟨none, some 4, .mv (.c (.bool false))⟩]) <|
  .seq (.reg false [
    ⟨none, some 5, .mv (.c (.int .i64 1048576))⟩]) <|
  .seq (.reg false [
    ⟨none, some 16, .ld true 1 (.t 2)⟩,
    ⟨none, some 17, .mv (.t 5)⟩,
    ⟨none, some 18, .call 5 [.t 16, .t 17]⟩,
    ⟨none, some 5, .mv (.t 18)⟩]) <|
  .seq (.seq (.reg false [
    ⟨none, some 19, .mv (.t 5)⟩,
    ⟨none, some 20, .bin .lss (.t 19) (.c (.int .i64 0))⟩]) <|
  .cond (.t 20)
    (.seq (.reg false [
      ⟨none, some 4, .mv (.c (.bool true))⟩]) <|
    .ret)
    (.skip)) <|
  .seq (.reg false [
    ⟨none, some 22, .ld true 1 (.t 2)⟩,
    ⟨none, some 23, .call 7 [.t 22]⟩,
    ⟨none, some 24, .mv (.t 1)⟩,
    ⟨none, some 25, .call 6 [.t 23, .t 24]⟩,
    ⟨none, some 21, .mv (.t 25)⟩,
    ⟨none, some 26, .ext 0 (.t 21)⟩,
    ⟨none, some 27, .ext 1 (.t 21)⟩,
    ⟨none, some 6, .al [.sl .nl []]⟩,
    ⟨none, none, .st 1 (.t 6) (.t 26)⟩,
    ⟨none, some 7, .mv (.t 27)⟩]) <|
  .seq (.reg false [
    ⟨none, some 28, .ld true 1 (.t 2)⟩,
    ⟨none, some 29, .call 7 [.t 28]⟩,
    ⟨none, some 8, .al [.sl .nl []]⟩,
    ⟨none, none, .st 1 (.t 8) (.t 29)⟩]) <|
  .seq (.reg false [
    ⟨none, some 31, .ld true 1 (.t 8)⟩,
    ⟨none, some 32, .mv (.t 1)⟩,
    ⟨none, some 33, .call 8 [.t 31, .t 32]⟩,
    ⟨none, some 30, .mv (.t 33)⟩,
    ⟨none, some 34, .ext 0 (.t 30)⟩,
    ⟨none, some 35, .ext 1 (.t 30)⟩,
    ⟨none, some 9, .al [.sl .nl []]⟩,
    ⟨none, none, .st 1 (.t 9) (.t 34)⟩,
    ⟨none, some 10, .mv (.t 35)⟩]) <|
  .seq (.seq (.reg false [
    ⟨none, some 36, .ld true 1 (.t 9)⟩,
    ⟨none, some 37, .ld true 1 (.t 6)⟩,
    ⟨none, some 38, .call 9 [.t 36, .t 37]⟩,
    ⟨none, some 39, .nt (.t 38)⟩,
    ⟨none, some 40, .mv (.t 39)⟩,
    ⟨some (40, false), some 41, .mv (.t 10)⟩,
    ⟨some (40, false), some 42, .mv (.t 7)⟩,
    ⟨some (40, false), some 43, .bin .neq (.t 41) (.t 42)⟩,
    ⟨none, some 44, .pk (.t 40) (.c (.bool true)) (.t 43)⟩]) <|
  .cond (.t 44)
    (.seq (.reg false [
      ⟨none, some 4, .mv (.c (.bool false))⟩]) <|
    .ret)
    (.skip)) <|
  .seq (.seq (.reg true [
    ⟨none, some 45, .ld true 1 (.t 8)⟩,
    ⟨none, some 46, .ld true 1 (.t 2)⟩,
    ⟨none, some 47, .call 7 [.t 46]⟩,
    ⟨none, some 48, .call 9 [.t 45, .t 47]⟩,
    ⟨none, some 49, .nt (.t 48)⟩]) <|
  .cond (.t 49)
    (.seq (.reg false [
      ⟨none, some 4, .mv (.c (.bool false))⟩]) <|
    .ret)
    (.skip)) <|
  .seq (.reg false [
    ⟨none, some 11, .mv (.c (.int .i64 1))⟩]) <|
  .seq (.reg false [
    ⟨none, some 50, .ld true 1 (.t 8)⟩,
    ⟨none, some 51, .mv (.t 11)⟩,
    ⟨none, some 52, .call 10 [.t 50, .t 51]⟩,
    ⟨none, some 11, .mv (.t 52)⟩]) <|
  .seq (.seq (.reg false [
    ⟨none, some 53, .mv (.t 11)⟩,
    ⟨none, some 54, .bin .lss (.t 53) (.c (.int .i64 0))⟩,
    ⟨none, some 55, .mv (.t 54)⟩,
    ⟨some (55, false), some 56, .ld true 1 (.t 9)⟩,
    ⟨some (55, false), some 57, .ld true 1 (.t 6)⟩,
    ⟨some (55, false), some 58, .call 9 [.t 56, .t 57]⟩,
    ⟨some (55, false), some 59, .nt (.t 58)⟩,
    ⟨none, some 60, .pk (.t 55) (.c (.bool true)) (.t 59)⟩,
    ⟨none, some 61, .mv (.t 60)⟩,
    ⟨some (61, false), some 62, .mv (.t 10)⟩,
    ⟨some (61, false), some 63, .mv (.t 7)⟩,
    ⟨some (61, false), some 64, .bin .neq (.t 62) (.t 63)⟩,
    ⟨none, some 65, .pk (.t 61) (.c (.bool true)) (.t 64)⟩]) <|
  .cond (.t 65)
    (.seq (.reg false [
      ⟨none, some 4, .mv (.c (.bool false))⟩]) <|
    .ret)
    (.skip)) <|
  .seq (.reg false [
    ⟨none, some 12, .mv (.c (.int .i64 1))⟩]) <|
  .seq (.reg false [
    ⟨none, some 66, .ld true 1 (.t 9)⟩,
    ⟨none, some 67, .mv (.t 12)⟩,
    ⟨none, some 68, .call 10 [.t 66, .t 67]⟩,
    ⟨none, some 12, .mv (.t 68)⟩]) <|
  .seq (.reg false [
    ⟨none, some 13, .mv (.c (.int .i64 1))⟩]) <|
  .seq (.reg false [
    ⟨none, some 69, .ld true 1 (.t 9)⟩,
    ⟨none, some 70, .mv (.t 13)⟩,
    ⟨none, some 71, .call 11 [.t 69, .t 70]⟩,
    ⟨none, some 13, .mv (.t 71)⟩]) <|
  .seq (.seq (.reg false [
    ⟨none, some 72, .mv (.t 13)⟩,
    ⟨none, some 73, .bin .lss (.t 72) (.c (.int .i64 0))⟩]) <|
  .cond (.t 73)
    (.seq (.reg false [
      ⟨none, some 4, .mv (.c (.bool false))⟩]) <|
    .ret)
    (.skip)) <|
  .seq (.seq (.reg false [
    ⟨none, some 74, .mv (.t 13)⟩,
    ⟨none, some 75, .mv (.t 12)⟩,
    ⟨none, some 76, .bin .neq (.t 74) (.t 75)⟩]) <|
  .cond (.t 76)
    (.seq (.reg false [
      ⟨none, some 4, .mv (.c (.bool false))⟩]) <|
    .ret)
    (.skip)) <|
  .seq (.reg false [
    ⟨none, some 78, .ld true 1 (.t 2)⟩,
    ⟨none, some 79, .call 7 [.t 78]⟩,
    ⟨none, some 80, .mv (.t 1)⟩,
    ⟨none, some 81, .call 8 [.t 79, .t 80]⟩,
    ⟨none, some 77, .mv (.t 81)⟩,
    ⟨none, some 82, .ext 0 (.t 77)⟩,
    ⟨none, some 83, .ext 1 (.t 77)⟩,
    ⟨none, some 14, .al [.sl .nl []]⟩,
    ⟨none, none, .st 1 (.t 14) (.t 82)⟩,
    ⟨none, some 15, .mv (.t 83)⟩]) <|
  .seq (.seq (.reg false [
    ⟨none, some 84, .ld true 1 (.t 14)⟩,
    ⟨none, some 85, .ld true 1 (.t 6)⟩,
    ⟨none, some 86, .call 9 [.t 84, .t 85]⟩,
    ⟨none, some 87, .nt (.t 86)⟩,
    ⟨none, some 88, .mv (.t 87)⟩,
    ⟨some (88, false), some 89, .mv (.t 15)⟩,
    ⟨some (88, false), some 90, .mv (.t 7)⟩,
    ⟨some (88, false), some 91, .bin .neq (.t 89) (.t 90)⟩,
    ⟨none, some 92, .pk (.t 88) (.c (.bool true)) (.t 91)⟩]) <|
  .cond (.t 92)
    (.seq (.reg false [
      ⟨none, some 4, .mv (.c (.bool false))⟩]) <|
    .ret)
    (.skip)) <|
  .seq (.reg false [
    ⟨none, some 13, .mv (.c (.int .i64 1))⟩]) <|
  .seq (.reg false [
    ⟨none, some 93, .ld true 1 (.t 9)⟩,
    ⟨none, some 94, .mv (.t 13)⟩,
    ⟨none, some 95, .call 11 [.t 93, .t 94]⟩,
    ⟨none, some 13, .mv (.t 95)⟩]) <|
  .seq (.seq (.reg false [
    ⟨none, some 96, .mv (.t 13)⟩,
    ⟨none, some 97, .bin .lss (.t 96) (.c (.int .i64 0))⟩]) <|
  .cond (.t 97)
    (.seq (.reg false [
      ⟨none, some 4, .mv (.c (.bool false))⟩]) <|
    .ret)
    (.skip)) <|
  .seq (.seq (.reg false [
    ⟨none, some 98, .mv (.t 13)⟩,
    ⟨none, some 99, .mv (.t 12)⟩,
    ⟨none, some 100, .bin .neq (.t 98) (.t 99)⟩]) <|
  .cond (.t 100)
    (.seq (.reg false [
      ⟨none, some 4, .mv (.c (.bool false))⟩]) <|
    .ret)
    (.skip)) <|
  .seq (.reg false [
    ⟨none, some 4, .mv (.c (.bool true))⟩]) <|
  .ret
def f3S : SFun := ⟨101, [.t 4], .pure, f3B⟩
theorem f3OK : FnOk Go.Proofs.Try.prog 3 f3S := FnOk.of (ks := []) (cs := [[[], [], [1], [0, 2, 1], [3, 0, 2, 1]]]) (by kernel_rfl)

/-- loop.example/g00190/laws.szScene -/
def f5B : SC :=
  .seq (.reg false [
    ⟨none, some 2, .bx (.t 0)⟩,
    ⟨none, some 4, .mv (.c (.int .i64 0))⟩]) <|
  .seq (.reg false [
    ⟨none, some 5, .fa 0 (.t 2)⟩,
    ⟨none, some 6, .ld false 1 (.t 5)⟩,
    ⟨none, some 7, .mv (.t 1)⟩,
    ⟨none, some 8, .call 14 [.t 6, .t 7]⟩,
    ⟨none, some 1, .mv (.t 8)⟩]) <|
  .seq (.seq (.reg false [
    ⟨none, some 9, .mv (.t 1)⟩,
    ⟨none, some 10, .bin .lss (.t 9) (.c (.int .i64 0))⟩]) <|
  .cond (.t 10)
    (.seq (.reg false [
      ⟨none, some 4, .mv (.c (.int .i64 (-1)))⟩]) <|
    .ret)
    (.skip)) <|
  .seq (.reg false [
    ⟨none, some 11, .mv (.t 1)⟩,
    ⟨none, some 4, .mv (.t 11)⟩]) <|
  .ret
def f5S : SFun := ⟨12, [.t 4], .pure, f5B⟩
theorem f5OK : FnOk Go.Proofs.Try.prog 5 f5S := FnOk.of (ks := []) (cs := []) (by kernel_rfl)

/-- loop.example/g00190/spec.DropNode -/
def f6L0b : SC :=
  .seq (.seq (.reg false [
    ⟨none, some 20, .mv (.t 7)⟩,
    ⟨none, some 21, .fa 0 (.t 2)⟩,
    ⟨none, some 22, .ld false 1 (.t 21)⟩,
    ⟨none, some 23, .len (.t 22)⟩,
    ⟨none, some 24, .bin .lss (.t 20) (.t 23)⟩]) <|
  .cond (.t 24)
    (.skip)
    (.exit 0)) <|
  .seq (.block 1 (
    .seq (.reg true [
      ⟨none, some 27, .ld true 1 (.t 2)⟩,
      ⟨none, some 28, .fa 0 (.t 2)⟩,
      ⟨none, some 29, .ld false 1 (.t 28)⟩,
      ⟨none, some 30, .mv (.t 7)⟩,
      ⟨none, some 31, .ia 31 (.t 29) (.t 30)⟩,
      ⟨none, some 32, .fa 0 (.t 31)⟩,
      ⟨none, some 33, .ld false 1 (.t 32)⟩,
      ⟨none, some 34, .mv (.t 1)⟩,
      ⟨none, some 35, .call 18 [.t 27, .t 33, .t 34]⟩,
      ⟨none, some 36, .nt (.t 35)⟩]) <|
    .cond (.t 36)
      (.reg true [
        ⟨none, some 37, .fa 0 (.t 6)⟩,
        ⟨none, some 38, .ld false 1 (.t 37)⟩,
        ⟨none, some 39, .fa 0 (.t 2)⟩,
        ⟨none, some 40, .ld false 1 (.t 39)⟩,
        ⟨none, some 41, .mv (.t 7)⟩,
        ⟨none, some 42, .ia 31 (.t 40) (.t 41)⟩,
        ⟨none, some 43, .ld true 31 (.t 42)⟩,
        ⟨none, some 44, .call 19 [.t 43]⟩,
        ⟨none, some 45, .bs 31 [.t 44]⟩,
        ⟨none, some 46, .app 31 328 (.t 38) (.t 45)⟩,
        ⟨none, some 47, .fa 0 (.t 6)⟩,
        ⟨none, none, .st 1 (.t 47) (.t 46)⟩])
      (.skip))) <|
  .reg false [
    ⟨none, some 25, .mv (.t 7)⟩,
    ⟨none, some 26, .bin .add (.t 25) (.c (.int .i64 1))⟩,
    ⟨none, some 7, .mv (.t 26)⟩]
def f6L0 : SC := f6L0b
def f6B : SC :=
  .seq (.reg false [
    ⟨none, some 2, .bx (.t 0)⟩,
    ⟨none, some 4, .al [.sl .nl []]⟩,
    ⟨none, some 5, .mv (.c (.int .i64 0))⟩]) <|
  .seq (.seq (.reg false [
    ⟨none, some 8, .ld true 1 (.t 2)⟩,
    ⟨none, some 9, .call 15 [.t 8]⟩,
    ⟨none, some 10, .nt (.t 9)⟩]) <|
  .cond (.t 10)
    (.seq (.reg false [
      ⟨none, some 11, .ld true 1 (.t 2)⟩,
      ⟨none, some 12, .call 16 [.t 11]⟩,
      ⟨none, none, .st 1 (.t 4) (.t 12)⟩,
      ⟨none, some 5, .mv (.c (.int .i64 1))⟩]) <|
    .ret)
    (.skip)) <|
  .seq (.seq (.reg false [
    ⟨none, some 13, .ld true 1 (.t 2)⟩,
    ⟨none, some 14, .mv (.t 1)⟩,
    ⟨none, some 15, .call 17 [.t 13, .t 14]⟩,
    ⟨none, some 16, .bin .lss (.t 15) (.c (.int .i64 0))⟩]) <|
  .cond (.t 16)
    (.seq (.reg false [
      ⟨none, some 17, .ld true 1 (.t 2)⟩,
      ⟨none, some 18, .call 16 [.t 17]⟩,
      ⟨none, none, .st 1 (.t 4) (.t 18)⟩,
      ⟨none, some 5, .mv (.c (.int .i64 2))⟩]) <|
    .ret)
    (.skip)) <|
  .seq (.reg false [
    ⟨none, some 19, .bd [.sl .nl []] []⟩,
    ⟨none, some 6, .al [.sl .nl []]⟩,
    ⟨none, none, .st 1 (.t 6) (.t 19)⟩]) <|
  .seq (.seq (.reg false [
    ⟨none, some 7, .mv (.c (.int .i64 0))⟩]) <|
  .block 0 (
    .loop [1, 2, 4, 6, 7] f6L0)) <|
  .seq (.reg false [
    ⟨none, some 48, .ld true 1 (.t 6)⟩,
    ⟨none, none, .st 1 (.t 4) (.t 48)⟩,
    ⟨none, some 5, .mv (.c (.int .i64 0))⟩]) <|
  .ret
def f6S : SFun := ⟨49, [.c 4 true 1, .t 5], .own, f6B⟩
theorem f6OK : FnOk Go.Proofs.Try.prog 6 f6S := FnOk.of (ks := [[1, 2, 4, 6, 7]]) (cs := [[[], [], [1], [], [2, 1, 3], [4, 2, 1, 3], [5, 4, 2, 1, 3], [], [0, 6, 5, 4, 2, 1, 3, 7], [8, 0, 6, 5, 4, 2, 1, 3, 7]], [[], [0], [], [2], [], [3, 2, 4], [5, 3, 2, 4], [6, 5, 3, 2, 4], [7, 6, 5, 3, 2, 4], [1, 0, 8, 7, 6, 5, 3, 2, 4], [0, 1, 2, 3, 4, 5, 6, 7, 8, 9], [10, 0, 1, 2, 3, 4, 5, 6, 7, 8, 9]]]) (by kernel_rfl)

/-- loop.example/g00190/laws.toScene -/
def f7B : SC :=
  .seq (.reg false [
    ⟨none, some 1, .bx (.t 0)⟩,
    ⟨none, some 2, .al [.sl .nl []]⟩]) <|
  .seq (.reg false [
    ⟨none, some 3, .al [.sl .nl []]⟩]) <|
  .seq (.reg false [
    ⟨none, some 4, .fa 0 (.t 1)⟩,
    ⟨none, some 5, .ld false 1 (.t 4)⟩,
    ⟨none, some 6, .call 20 [.t 5]⟩,
    ⟨none, some 7, .fa 0 (.t 3)⟩,
    ⟨none, none, .st 1 (.t 7) (.t 6)⟩]) <|
  .seq (.reg false [
    ⟨none, some 8, .ld true 1 (.t 3)⟩,
    ⟨none, none, .st 1 (.t 2) (.t 8)⟩]) <|
  .ret
def f7S : SFun := ⟨9, [.c 2 true 1], .box, f7B⟩
theorem f7OK : FnOk Go.Proofs.Try.prog 7 f7S := FnOk.of (ks := []) (cs := []) (by kernel_rfl)

/-- loop.example/g00190/impl.DropNode -/
def f8B : SC :=
  .seq (.reg false [
    ⟨none, some 2, .bx (.t 0)⟩,
    ⟨none, some 4, .al [.sl .nl []]⟩,
    ⟨none, some 5, .mv (.c (.int .i64 0))⟩]) <|
  .seq (.reg false [
    ⟨none, some 8, .ld true 1 (.t 2)⟩,
    ⟨none, some 9, .call 21 [.t 8]⟩,
    ⟨none, some 6, .al [.sl .nl []]⟩,
    ⟨none, none, .st 1 (.t 6) (.t 9)⟩]) <|
  .seq (.block 0 (
    .seq (.reg false [
      ⟨none, some 11, .ld true 1 (.t 2)⟩,
      ⟨none, some 12, .call 22 [.t 11]⟩,
      ⟨none, some 13, .nt (.t 12)⟩,
      ⟨none, some 10, .mv (.t 13)⟩]) <|
    .cond (.t 10)
      (.seq (.reg false [
        ⟨none, some 14, .ld true 1 (.t 6)⟩,
        ⟨none, none, .st 1 (.t 4) (.t 14)⟩,
        ⟨none, some 5, .mv (.c (.int .i64 1))⟩]) <|
      .ret)
      (.seq (.reg false [
        ⟨none, some 16, .ld true 1 (.t 2)⟩,
        ⟨none, some 17, .mv (.t 1)⟩,
        ⟨none, some 18, .call 23 [.t 16, .t 17]⟩,
        ⟨none, some 19, .bin .lss (.t 18) (.c (.int .i64 0))⟩,
        ⟨none, some 15, .mv (.t 19)⟩]) <|
      .cond (.t 15)
        (.seq (.reg false [
          ⟨none, some 20, .ld true 1 (.t 6)⟩,
          ⟨none, none, .st 1 (.t 4) (.t 20)⟩,
          ⟨none, some 5, .mv (.c (.int .i64 2))⟩]) <|
        .ret)
        (.skip)))) <|
  .seq (.reg false [
    ⟨none, some 21, .ld true 1 (.t 2)⟩,
    ⟨none, some 22, .mv (.t 1)⟩,
    ⟨none, some 23, .call 24 [.t 21, .t 22]⟩,
    ⟨none, some 7, .al [.sl .nl []]⟩,
    ⟨none, none, .st 1 (.t 7) (.t 23)⟩]) <|
  .seq (.reg false [
    ⟨none, some 24, .fa 0 (.t 6)⟩,
    ⟨none, some 25, .ld false 1 (.t 24)⟩,
    ⟨none, some 26, .mf 26 [.t 7]⟩,
    ⟨none, some 27, .call 25 [.t 25, .t 26]⟩,
    ⟨none, some 28, .fa 0 (.t 6)⟩,
    ⟨none, none, .st 1 (.t 28) (.t 27)⟩]) <|
  .seq (.reg false [
    ⟨none, some 29, .ld true 1 (.t 6)⟩,
    ⟨none, none, .st 1 (.t 4) (.t 29)⟩,
    ⟨none, some 5, .mv (.c (.int .i64 0))⟩]) <|
  .ret
def f8S : SFun := ⟨30, [.c 4 true 1, .t 5], .box, f8B⟩
theorem f8OK : FnOk Go.Proofs.Try.prog 8 f8S := FnOk.of (ks := []) (cs := []) (by kernel_rfl)

/-- loop.example/g00190/laws.eqScene -/
def f9B : SC :=
  .seq (.reg false [
    ⟨none, some 2, .bx (.t 0)⟩,
    ⟨none, some 3, .bx (.t 1)⟩,
    ⟨none, some 4, .mv (.c (.bool false))⟩]) <|
  .seq (.seq (.reg false [
    ⟨none, some 5, .fa 0 (.t 2)⟩,
    ⟨none, some 6, .ld false 1 (.t 5)⟩,
    ⟨none, some 7, .fa 0 (.t 3)⟩,
    ⟨none, some 8, .ld false 1 (.t 7)⟩,
    ⟨none, some 9, .call 28 [.t 6, .t 8]⟩,
    ⟨none, some 10, .nt (.t 9)⟩]) <|
  .cond (.t 10)
    (.seq (.reg false [
      ⟨none, some 4, .mv (.c (.bool false))⟩]) <|
    .ret)
    (.skip)) <|
  .seq (.reg false [
    ⟨none, some 4, .mv (.c (.bool true))⟩]) <|
  .ret
def f9S : SFun := ⟨11, [.t 4], .pure, f9B⟩
theorem f9OK : FnOk Go.Proofs.Try.prog 9 f9S := FnOk.of (ks := []) (cs := []) (by kernel_rfl)

/-- loop.example/g00190/laws.markScene -/
def f10B : SC :=
  .seq (.reg false [
    ⟨none, some 2, .bx (.t 0)⟩,
    ⟨none, some 4, .mv (.c (.int .i64 0))⟩]) <|
  .seq (.reg false [
    ⟨none, some 5, .fa 0 (.t 2)⟩,
    ⟨none, some 6, .ld false 1 (.t 5)⟩,
    ⟨none, some 7, .mv (.t 1)⟩,
    ⟨none, some 8, .call 29 [.t 6, .t 7]⟩,
    ⟨none, some 1, .mv (.t 8)⟩]) <|
  .seq (.reg false [
    ⟨none, some 9, .mv (.t 1)⟩,
    ⟨none, some 4, .mv (.t 9)⟩]) <|
  .ret
def f10S : SFun := ⟨10, [.t 4], .full, f10B⟩
theorem f10OK : FnOk Go.Proofs.Try.prog 10 f10S := FnOk.of (ks := []) (cs := []) (by kernel_rfl)

/-- loop.example/g00190/laws.heldScene -/
def f11B : SC :=
  .seq (.reg false [
    ⟨none, some 2, .bx (.t 0)⟩,
    ⟨none, some 4, .mv (.c (.int .i64 0))⟩]) <|
  .seq (.reg false [
    ⟨none, some 5, .fa 0 (.t 2)⟩,
    ⟨none, some 6, .ld false 1 (.t 5)⟩,
    ⟨none, some 7, .mv (.t 1)⟩,
    ⟨none, some 8, .call 30 [.t 6, .t 7]⟩,
    ⟨none, some 1, .mv (.t 8)⟩]) <|
  .seq (.seq (.reg false [
    ⟨none, some 9, .mv (.t 1)⟩,
    ⟨none, some 10, .bin .lss (.t 9) (.c (.int .i64 0))⟩]) <|
  .cond (.t 10)
    (.seq (.reg false [
      ⟨none, some 4, .mv (.c (.int .i64 (-1)))⟩]) <|
    .ret)
    (.skip)) <|
  .seq (.reg false [
    ⟨none, some 11, .mv (.t 1)⟩,
    ⟨none, some 4, .mv (.t 11)⟩]) <|
  .ret
def f11S : SFun := ⟨12, [.t 4], .pure, f11B⟩
theorem f11OK : FnOk Go.Proofs.Try.prog 11 f11S := FnOk.of (ks := []) (cs := []) (by kernel_rfl)

/-- loop.example/g00190/laws.szNodeS -/
def f14L0b : SC :=
  .seq (.seq (.reg false [
    ⟨none, some 12, .mv (.t 5)⟩,
    ⟨none, some 13, .mv (.t 0)⟩,
    ⟨none, some 14, .len (.t 13)⟩,
    ⟨none, some 15, .bin .lss (.t 12) (.t 14)⟩]) <|
  .cond (.t 15)
    (.skip)
    (.exit 0)) <|
  .seq (.block 1 (
    .seq (.reg false [
      ⟨none, some 18, .mv (.t 0)⟩,
      ⟨none, some 19, .mv (.t 5)⟩,
      ⟨none, some 20, .ia 31 (.t 18) (.t 19)⟩,
      ⟨none, some 21, .ld true 31 (.t 20)⟩,
      ⟨none, some 22, .mv (.t 1)⟩,
      ⟨none, some 23, .call 36 [.t 21, .t 22]⟩,
      ⟨none, some 1, .mv (.t 23)⟩]) <|
    .seq (.reg false [
      ⟨none, some 24, .mv (.t 1)⟩,
      ⟨none, some 25, .bin .lss (.t 24) (.c (.int .i64 0))⟩]) <|
    .cond (.t 25)
      (.seq (.reg false [
        ⟨none, some 4, .mv (.c (.int .i64 (-1)))⟩]) <|
      .ret)
      (.skip))) <|
  .reg false [
    ⟨none, some 16, .mv (.t 5)⟩,
    ⟨none, some 17, .bin .add (.t 16) (.c (.int .i64 1))⟩,
    ⟨none, some 5, .mv (.t 17)⟩]
def f14L0 : SC := f14L0b
def f14B : SC :=
  .seq (.reg false [
    ⟨none, some 4, .mv (.c (.int .i64 0))⟩]) <|
  .seq (.reg false [
    ⟨none, some 6, .mv (.t 1)⟩,
    ⟨none, some 7, .mv (.t 0)⟩,
    ⟨none, some 8, .len (.t 7)⟩,
    ⟨none, some 9, .bin .sub (.t 6) (.t 8)⟩,
    ⟨none, some 1, .mv (.t 9)⟩]) <|
  .seq (.seq (.reg false [
    ⟨none, some 10, .mv (.t 1)⟩,
    ⟨none, some 11, .bin .lss (.t 10) (.c (.int .i64 0))⟩]) <|
  .cond (.t 11)
    (.seq (.reg false [
      ⟨none, some 4, .mv (.c (.int .i64 (-1)))⟩]) <|
    .ret)
    (.skip)) <|
  .seq (.seq (.reg false [
    ⟨none, some 5, .mv (.c (.int .i64 0))⟩]) <|
  .block 0 (
    .loop [0, 1, 4, 5] f14L0)) <|
  .seq (.reg false [
    ⟨none, some 26, .mv (.t 1)⟩,
    ⟨none, some 4, .mv (.t 26)⟩]) <|
  .ret
def f14S : SFun := ⟨27, [.t 4], .pure, f14B⟩
theorem f14OK : FnOk Go.Proofs.Try.prog 14 f14S := FnOk.of (ks := [[0, 1, 4, 5]]) (cs := []) (by kernel_rfl)

/-- loop.example/g00190/spec.SceneOk -/
def f15L0b : SC :=
  .seq (.seq (.reg false [
    ⟨none, some 10, .mv (.t 3)⟩,
    ⟨none, some 11, .fa 0 (.t 1)⟩,
    ⟨none, some 12, .ld false 1 (.t 11)⟩,
    ⟨none, some 13, .len (.t 12)⟩,
    ⟨none, some 14, .bin .lss (.t 10) (.t 13)⟩]) <|
  .cond (.t 14)
    (.skip)
    (.exit 0)) <|
  .seq (.block 1 (
    .seq (.reg false [
      ⟨none, some 17, .fa 0 (.t 1)⟩,
      ⟨none, some 18, .ld false 1 (.t 17)⟩,
      ⟨none, some 19, .mv (.t 3)⟩,
      ⟨none, some 20, .ia 31 (.t 18) (.t 19)⟩,
      ⟨none, some 21, .ld true 31 (.t 20)⟩,
      ⟨none, some 4, .al [.int .i64 0, .int .i64 0, .bool false, .int .i64 0, .int .i64 0, .int .i64 0, .int .i64 0, .int .i64 0, .int .i64 0, .sl .nl [], .sl .nl [], .bool false, .int .i64 0, .sl .nl [], .int .i64 0, .int .i64 0, .int .i64 0, .int .i64 0, .int .i64 0, .int .i64 0, .int .i64 0, .int .i64 0, .int .i64 0, .int .i64 0, .int .i64 0, .int .i64 0, .int .i64 0, .int .i64 0, .int .i64 0, .sl .nl [], .sl .nl []]⟩,
      ⟨none, none, .st 31 (.t 4) (.t 21)⟩]) <|
    .seq (.seq (.reg false [
      ⟨none, some 22, .ld true 31 (.t 4)⟩,
      ⟨none, some 23, .call 37 [.t 22]⟩,
      ⟨none, some 24, .nt (.t 23)⟩,
      ⟨none, some 25, .mv (.t 24)⟩,
      ⟨some (25, false), some 26, .ld true 1 (.t 1)⟩,
      ⟨some (25, false), some 27, .fa 0 (.t 4)⟩,
      ⟨some (25, false), some 28, .ld false 1 (.t 27)⟩,
      ⟨some (25, false), some 29, .call 17 [.t 26, .t 28]⟩,
      ⟨some (25, false), some 30, .mv (.t 3)⟩,
      ⟨some (25, false), some 31, .bin .neq (.t 29) (.t 30)⟩,
      ⟨none, some 32, .pk (.t 25) (.c (.bool true)) (.t 31)⟩,
      ⟨none, some 33, .mv (.t 32)⟩,
      ⟨some (33, false), some 34, .ld true 1 (.t 1)⟩,
      ⟨some (33, false), some 35, .fa 0 (.t 4)⟩,
      ⟨some (33, false), some 36, .ld false 1 (.t 35)⟩,
      ⟨some (33, false), some 37, .call 39 [.t 34, .t 36]⟩,
      ⟨some (33, false), some 38, .call 38 [.t 37, .c (.int .i64 1), .c (.int .i64 4)]⟩,
      ⟨some (33, false), some 39, .nt (.t 38)⟩,
      ⟨none, some 40, .pk (.t 33) (.c (.bool true)) (.t 39)⟩]) <|
    .cond (.t 40)
      (.seq (.reg false [
        ⟨none, some 2, .mv (.c (.bool false))⟩]) <|
      .ret)
      (.skip)) <|
    .seq (.reg false [
      ⟨none, some 41, .ld true 1 (.t 1)⟩,
      ⟨none, some 42, .fa 1 (.t 4)⟩,
      ⟨none, some 43, .ld false 1 (.t 42)⟩,
      ⟨none, some 44, .call 17 [.t 41, .t 43]⟩,
      ⟨none, some 5, .mv (.t 44)⟩]) <|
    .seq (.reg false [
      ⟨none, some 45, .fa 1 (.t 4)⟩,
      ⟨none, some 46, .ld false 1 (.t 45)⟩,
      ⟨none, some 47, .bin .neq (.t 46) (.c (.int .i64 0))⟩,
      ⟨none, some 48, .mv (.t 47)⟩,
      ⟨some (48, true), some 49, .mv (.t 5)⟩,
      ⟨some (48, true), some 50, .bin .lss (.t 49) (.c (.int .i64 0))⟩,
      ⟨some (48, true), some 51, .mv (.t 50)⟩,
      ⟨some (51, false), some 52, .fa 0 (.t 1)⟩,
      ⟨some (51, false), some 53, .ld false 1 (.t 52)⟩,
      ⟨some (51, false), some 54, .mv (.t 5)⟩,
      ⟨some (51, false), some 55, .ia 31 (.t 53) (.t 54)⟩,
      ⟨some (51, false), some 56, .fa 2 (.t 55)⟩,
      ⟨some (51, false), some 57, .ld false 1 (.t 56)⟩,
      ⟨some (51, false), some 58, .nt (.t 57)⟩,
      ⟨some (48, true), some 59, .pk (.t 51) (.c (.bool true)) (.t 58)⟩,
      ⟨none, some 60, .pk (.t 48) (.t 59) (.c (.bool false))⟩]) <|
    .cond (.t 60)
      (.seq (.reg false [
        ⟨none, some 2, .mv (.c (.bool false))⟩]) <|
      .ret)
      (.skip))) <|
  .reg false [
    ⟨none, some 15, .mv (.t 3)⟩,
    ⟨none, some 16, .bin .add (.t 15) (.c (.int .i64 1))⟩,
    ⟨none, some 3, .mv (.t 16)⟩]
def f15L0 : SC := f15L0b
def f15B : SC :=
  .seq (.reg false [
    ⟨none, some 1, .bx (.t 0)⟩,
    ⟨none, some 2, .mv (.c (.bool false))⟩]) <|
  .seq (.seq (.reg false [
    ⟨none, some 6, .fa 0 (.t 1)⟩,
    ⟨none, some 7, .ld false 1 (.t 6)⟩,
    ⟨none, some 8, .len (.t 7)⟩,
    ⟨none, some 9, .bin .gtr (.t 8) (.c (.int .i64 8))⟩]) <|
  .cond (.t 9)
    (.seq (.reg false [
      ⟨none, some 2, .mv (.c (.bool false))⟩]) <|
    .ret)
    (.skip)) <|
  .seq (.seq (.reg false [
    ⟨none, some 3, .mv (.c (.int .i64 0))⟩]) <|
  .block 0 (
    .loop [1, 2, 3] f15L0)) <|
  .seq (.reg false [
    ⟨none, some 2, .mv (.c (.bool true))⟩]) <|
  .ret
def f15S : SFun := ⟨61, [.t 2], .pure, f15B⟩
theorem f15OK : FnOk Go.Proofs.Try.prog 15 f15S := FnOk.of (ks := [[1, 2, 3]]) (cs := []) (by kernel_rfl)

/-- loop.example/g00190/spec.l15Copy -/
def f16L0b : SC :=
  .seq (.seq (.reg false [
    ⟨none, some 6, .mv (.t 4)⟩,
    ⟨none, some 7, .fa 0 (.t 1)⟩,
    ⟨none, some 8, .ld false 1 (.t 7)⟩,
    ⟨none, some 9, .len (.t 8)⟩,
    ⟨none, some 10, .bin .lss (.t 6) (.t 9)⟩]) <|
  .cond (.t 10)
    (.skip)
    (.exit 0)) <|
  .seq (.block 1 (
    .reg true [
      ⟨none, some 13, .fa 0 (.t 3)⟩,
      ⟨none, some 14, .ld false 1 (.t 13)⟩,
      ⟨none, some 15, .fa 0 (.t 1)⟩,
      ⟨none, some 16, .ld false 1 (.t 15)⟩,
      ⟨none, some 17, .mv (.t 4)⟩,
      ⟨none, some 18, .ia 31 (.t 16) (.t 17)⟩,
      ⟨none, some 19, .ld true 31 (.t 18)⟩,
      ⟨none, some 20, .call 19 [.t 19]⟩,
      ⟨none, some 21, .bs 31 [.t 20]⟩,
      ⟨none, some 22, .app 31 328 (.t 14) (.t 21)⟩,
      ⟨none, some 23, .fa 0 (.t 3)⟩,
      ⟨none, none, .st 1 (.t 23) (.t 22)⟩])) <|
  .reg false [
    ⟨none, some 11, .mv (.t 4)⟩,
    ⟨none, some 12, .bin .add (.t 11) (.c (.int .i64 1))⟩,
    ⟨none, some 4, .mv (.t 12)⟩]
def f16L0 : SC := f16L0b
def f16B : SC :=
  .seq (.reg false [
    ⟨none, some 1, .bx (.t 0)⟩,
    ⟨none, some 2, .al [.sl .nl []]⟩]) <|
  .seq (.reg false [
    ⟨none, some 5, .bd [.sl .nl []] []⟩,
    ⟨none, some 3, .al [.sl .nl []]⟩,
    ⟨none, none, .st 1 (.t 3) (.t 5)⟩]) <|
  .seq (.seq (.reg false [
    ⟨none, some 4, .mv (.c (.int .i64 0))⟩]) <|
  .block 0 (
    .loop [1, 2, 3, 4] f16L0)) <|
  .seq (.reg false [
    ⟨none, some 24, .ld true 1 (.t 3)⟩,
    ⟨none, none, .st 1 (.t 2) (.t 24)⟩]) <|
  .ret
def f16S : SFun := ⟨25, [.c 2 true 1], .own, f16B⟩
theorem f16OK : FnOk Go.Proofs.Try.prog 16 f16S := FnOk.of (ks := [[1, 2, 3, 4]]) (cs := [[[], [0], [], [2], [], [3, 2, 4], [5, 3, 2, 4], [6, 5, 3, 2, 4], [7, 6, 5, 3, 2, 4], [1, 0, 8, 7, 6, 5, 3, 2, 4], [0, 1, 2, 3, 4, 5, 6, 7, 8, 9], [10, 0, 1, 2, 3, 4, 5, 6, 7, 8, 9]]]) (by kernel_rfl)

/-- loop.example/g00190/spec.NodeAt -/
def f17L0b : SC :=
  .seq (.seq (.reg false [
    ⟨none, some 6, .mv (.t 5)⟩,
    ⟨none, some 7, .fa 0 (.t 2)⟩,
    ⟨none, some 8, .ld false 1 (.t 7)⟩,
    ⟨none, some 9, .len (.t 8)⟩,
    ⟨none, some 10, .bin .lss (.t 6) (.t 9)⟩]) <|
  .cond (.t 10)
    (.skip)
    (.exit 0)) <|
  .seq (.block 1 (
    .seq (.reg false [
      ⟨none, some 13, .fa 0 (.t 2)⟩,
      ⟨none, some 14, .ld false 1 (.t 13)⟩,
      ⟨none, some 15, .mv (.t 5)⟩,
      ⟨none, some 16, .ia 31 (.t 14) (.t 15)⟩,
      ⟨none, some 17, .fa 0 (.t 16)⟩,
      ⟨none, some 18, .ld false 1 (.t 17)⟩,
      ⟨none, some 19, .mv (.t 1)⟩,
      ⟨none, some 20, .bin .eql (.t 18) (.t 19)⟩]) <|
    .cond (.t 20)
      (.seq (.reg false [
        ⟨none, some 21, .mv (.t 5)⟩,
        ⟨none, some 4, .mv (.t 21)⟩]) <|
      .ret)
      (.skip))) <|
  .reg false [
    ⟨none, some 11, .mv (.t 5)⟩,
    ⟨none, some 12, .bin .add (.t 11) (.c (.int .i64 1))⟩,
    ⟨none, some 5, .mv (.t 12)⟩]
def f17L0 : SC := f17L0b
def f17B : SC :=
  .seq (.reg false [
    ⟨none, some 2, .bx (.t 0)⟩,
    ⟨none, some 4, .mv (.c (.int .i64 0))⟩]) <|
  .seq (.seq (.reg false [
    ⟨none, some 5, .mv (.c (.int .i64 0))⟩]) <|
  .block 0 (
    .loop [1, 2, 4, 5] f17L0)) <|
  .seq (.reg false [
    ⟨none, some 4, .mv (.c (.int .i64 (-1)))⟩]) <|
  .ret
def f17S : SFun := ⟨22, [.t 4], .pure, f17B⟩
theorem f17OK : FnOk Go.Proofs.Try.prog 17 f17S := FnOk.of (ks := [[1, 2, 4, 5]]) (cs := []) (by kernel_rfl)

/-- loop.example/g00190/spec.l15Under -/
def f18L0b : SC :=
  .seq (.seq (.reg false [
    ⟨none, some 9, .mv (.t 7)⟩,
    ⟨none, some 10, .bin .leq (.t 9) (.c (.int .i64 8))⟩]) <|
  .cond (.t 10)
    (.skip)
    (.exit 0)) <|
  .seq (.block 1 (
    .seq (.seq (.reg false [
      ⟨none, some 13, .mv (.t 1)⟩,
      ⟨none, some 14, .mv (.t 2)⟩,
      ⟨none, some 15, .bin .eql (.t 13) (.t 14)⟩]) <|
    .cond (.t 15)
      (.seq (.reg false [
        ⟨none, some 6, .mv (.c (.bool true))⟩]) <|
      .ret)
      (.skip)) <|
    .seq (.reg false [
      ⟨none, some 16, .ld true 1 (.t 3)⟩,
      ⟨none, some 17, .mv (.t 1)⟩,
      ⟨none, some 18, .call 17 [.t 16, .t 17]⟩,
      ⟨none, some 8, .mv (.t 18)⟩]) <|
    .seq (.seq (.reg false [
      ⟨none, some 19, .mv (.t 8)⟩,
      ⟨none, some 20, .bin .lss (.t 19) (.c (.int .i64 0))⟩]) <|
    .cond (.t 20)
      (.seq (.reg false [
        ⟨none, some 6, .mv (.c (.bool false))⟩]) <|
      .ret)
      (.skip)) <|
    .reg false [
      ⟨none, some 21, .fa 0 (.t 3)⟩,
      ⟨none, some 22, .ld false 1 (.t 21)⟩,
      ⟨none, some 23, .mv (.t 8)⟩,
      ⟨none, some 24, .ia 31 (.t 22) (.t 23)⟩,
      ⟨none, some 25, .fa 1 (.t 24)⟩,
      ⟨none, some 26, .ld false 1 (.t 25)⟩,
      ⟨none, some 1, .mv (.t 26)⟩])) <|
  .reg false [
    ⟨none, some 11, .mv (.t 7)⟩,
    ⟨none, some 12, .bin .add (.t 11) (.c (.int .i64 1))⟩,
    ⟨none, some 7, .mv (.t 12)⟩]
def f18L0 : SC := f18L0b
def f18B : SC :=
  .seq (.reg false [
    ⟨none, some 3, .bx (.t 0)⟩,
    ⟨none, some 6, .mv (.c (.bool false))⟩]) <|
  .seq (.seq (.reg false [
    ⟨none, some 7, .mv (.c (.int .i64 0))⟩]) <|
  .block 0 (
    .loop [1, 2, 3, 6, 7] f18L0)) <|
  .seq (.reg false [
    ⟨none, some 6, .mv (.c (.bool false))⟩]) <|
  .ret
def f18S : SFun := ⟨27, [.t 6], .pure, f18B⟩
theorem f18OK : FnOk Go.Proofs.Try.prog 18 f18S := FnOk.of (ks := [[1, 2, 3, 6, 7]]) (cs := []) (by kernel_rfl)

/-- loop.example/g00190/spec.l15CopyNode -/
def f19B : SC :=
  .seq (.reg false [
    ⟨none, some 1, .bx (.t 0)⟩,
    ⟨none, some 2, .al [.int .i64 0, .int .i64 0, .bool false, .int .i64 0, .int .i64 0, .int .i64 0, .int .i64 0, .int .i64 0, .int .i64 0, .sl .nl [], .sl .nl [], .bool false, .int .i64 0, .sl .nl [], .int .i64 0, .int .i64 0, .int .i64 0, .int .i64 0, .int .i64 0, .int .i64 0, .int .i64 0, .int .i64 0, .int .i64 0, .int .i64 0, .int .i64 0, .int .i64 0, .int .i64 0, .int .i64 0, .int .i64 0, .sl .nl [], .sl .nl []]⟩]) <|
  .seq (.reg false [
    ⟨none, some 3, .fa 9 (.t 1)⟩,
    ⟨none, some 4, .ld true 2 (.t 3)⟩,
    ⟨none, some 5, .call 40 [.t 4]⟩,
    ⟨none, some 6, .fa 9 (.t 1)⟩,
    ⟨none, none, .st 2 (.t 6) (.t 5)⟩]) <|
  .seq (.reg false [
    ⟨none, some 7, .fa 29 (.t 1)⟩,
    ⟨none, some 8, .ld true 2 (.t 7)⟩,
    ⟨none, some 9, .call 40 [.t 8]⟩,
    ⟨none, some 10, .fa 29 (.t 1)⟩,
    ⟨none, none, .st 2 (.t 10) (.t 9)⟩]) <|
  .seq (.reg false [
    ⟨none, some 11, .be⟩,
    ⟨none, some 12, .fa 13 (.t 1)⟩,
    ⟨none, some 13, .ld false 1 (.t 12)⟩,
    ⟨none, some 14, .app 1 8 (.t 11) (.t 13)⟩,
    ⟨none, some 15, .fa 13 (.t 1)⟩,
    ⟨none, none, .st 1 (.t 15) (.t 14)⟩]) <|
  .seq (.reg false [
    ⟨none, some 16, .ld true 31 (.t 1)⟩,
    ⟨none, none, .st 31 (.t 2) (.t 16)⟩]) <|
  .ret
def f19S : SFun := ⟨17, [.c 2 true 31], .own, f19B⟩
theorem f19OK : FnOk Go.Proofs.Try.prog 19 f19S := FnOk.of (ks := []) (cs := []) (by kernel_rfl)

/-- loop.example/g00190/laws.toNodeS -/
def f20L0b : SC :=
  .seq (.seq (.reg false [
    ⟨none, some 8, .mv (.t 4)⟩,
    ⟨none, some 9, .mv (.t 0)⟩,
    ⟨none, some 10, .len (.t 9)⟩,
    ⟨none, some 11, .bin .lss (.t 8) (.t 10)⟩]) <|
  .cond (.t 11)
    (.skip)
    (.exit 0)) <|
  .seq (.block 1 (
    .reg false [
      ⟨none, some 14, .mv (.t 3)⟩,
      ⟨none, some 15, .mv (.t 4)⟩,
      ⟨none, some 16, .mv (.t 0)⟩,
      ⟨none, some 17, .mv (.t 4)⟩,
      ⟨none, some 18, .ia 31 (.t 16) (.t 17)⟩,
      ⟨none, some 19, .ld true 31 (.t 18)⟩,
      ⟨none, some 20, .call 41 [.t 19]⟩,
      ⟨none, some 21, .ia 31 (.t 14) (.t 15)⟩,
      ⟨none, none, .st 31 (.t 21) (.t 20)⟩])) <|
  .reg false [
    ⟨none, some 12, .mv (.t 4)⟩,
    ⟨none, some 13, .bin .add (.t 12) (.c (.int .i64 1))⟩,
    ⟨none, some 4, .mv (.t 13)⟩]
def f20L0 : SC := f20L0b
def f20B : SC :=
  .seq (.reg false [
    ⟨none, some 2, .mv (.c (.sl .nl []))⟩]) <|
  .seq (.reg false [
    ⟨none, some 5, .mv (.t 0)⟩,
    ⟨none, some 6, .len (.t 5)⟩,
    ⟨none, some 7, .mkb (.agg [.int .i64 0, .int .i64 0, .bool false, .int .i64 0, .int .i64 0, .int .i64 0, .int .i64 0, .int .i64 0, .int .i64 0, .sl .nl [], .sl .nl [], .bool false, .int .i64 0, .sl .nl [], .int .i64 0, .int .i64 0, .int .i64 0, .int .i64 0, .int .i64 0, .int .i64 0, .int .i64 0, .int .i64 0, .int .i64 0, .int .i64 0, .int .i64 0, .int .i64 0, .int .i64 0, .int .i64 0, .int .i64 0, .sl .nl [], .sl .nl []]) 328 (.t 6)⟩,
    ⟨none, some 3, .mv (.t 7)⟩]) <|
  .seq (.seq (.reg false [
    ⟨none, some 4, .mv (.c (.int .i64 0))⟩]) <|
  .block 0 (
    .loop [0, 3, 4] f20L0)) <|
  .seq (.reg false [
    ⟨none, some 22, .mv (.t 3)⟩,
    ⟨none, some 2, .mv (.t 22)⟩]) <|
  .ret
def f20S : SFun := ⟨23, [.t 2], .own, f20B⟩
theorem f20OK : FnOk Go.Proofs.Try.prog 20 f20S := FnOk.of (ks := [[0, 3, 4]]) (cs := []) (by kernel_rfl)

/-- loop.example/g00190/impl.copyScene -/
def f21L0b : SC :=
  .seq (.reg false [
    ⟨none, some 10, .bin .lss (.t 9) (.t 8)⟩]) <|
  .seq (.cond (.t 10)
    (.skip)
    (.exit 0)) <|
  .seq (.block 1 (
    .seq (.reg false [
      ⟨none, some 11, .ia 31 (.t 7) (.t 9)⟩,
      ⟨none, some 12, .ld true 31 (.t 11)⟩,
      ⟨none, some 5, .al [.int .i64 0, .int .i64 0, .bool false, .int .i64 0, .int .i64 0, .int .i64 0, .int .i64 0, .int .i64 0, .int .i64 0, .sl .nl [], .sl .nl [], .bool false, .int .i64 0, .sl .nl [], .int .i64 0, .int .i64 0, .int .i64 0, .int .i64 0, .int .i64 0, .int .i64 0, .int .i64 0, .int .i64 0, .int .i64 0, .int .i64 0, .int .i64 0, .int .i64 0, .int .i64 0, .int .i64 0, .int .i64 0, .sl .nl [], .sl .nl []]⟩,
      ⟨none, none, .st 31 (.t 5) (.t 12)⟩]) <|
    .reg true [
      ⟨none, some 13, .fa 0 (.t 3)⟩,
      ⟨none, some 14, .ld false 1 (.t 13)⟩,
      ⟨none, some 15, .ld true 31 (.t 5)⟩,
      ⟨none, some 16, .call 42 [.t 15]⟩,
      ⟨none, some 17, .bs 31 [.t 16]⟩,
      ⟨none, some 18, .app 31 328 (.t 14) (.t 17)⟩,
      ⟨none, some 19, .fa 0 (.t 3)⟩,
      ⟨none, none, .st 1 (.t 19) (.t 18)⟩])) <|
  .reg false [
    ⟨none, some 20, .bin .add (.t 9) (.c (.int .i64 1))⟩,
    ⟨none, some 9, .mv (.t 20)⟩]
def f21L0 : SC := f21L0b
def f21B : SC :=
  .seq (.reg false [
    ⟨none, some 1, .bx (.t 0)⟩,
    ⟨none, some 2, .al [.sl .nl []]⟩]) <|
  .seq (.reg false [
    ⟨none, some 3, .al [.sl .nl []]⟩]) <|
  .seq (.seq (.reg false [
    ⟨none, some 6, .fa 0 (.t 1)⟩,
    ⟨none, some 7, .ld false 1 (.t 6)⟩,
    ⟨none, some 8, .len (.t 7)⟩,
    ⟨none, some 9, .mv (.c (.int .i64 0))⟩]) <|
  .block 0 (
    .loop [2, 3, 7, 8, 9] f21L0)) <|
  .seq (.reg false [
    ⟨none, some 21, .ld true 1 (.t 3)⟩,
    ⟨none, none, .st 1 (.t 2) (.t 21)⟩]) <|
  .ret
def f21S : SFun := ⟨22, [.c 2 true 1], .box, f21B⟩
theorem f21OK : FnOk Go.Proofs.Try.prog 21 f21S := FnOk.of (ks := [[2, 3, 7, 8, 9]]) (cs := [[[], [0], [], [2], [3, 2], [1, 0, 4, 3, 2], [0, 1, 2, 3, 4, 5], [6, 0, 1, 2, 3, 4, 5]]]) (by kernel_rfl)

/-- loop.example/g00190/impl.SceneOk -/
def f22L0b : SC :=
  .seq (.reg false [
    ⟨none, some 13, .bin .lss (.t 12) (.t 11)⟩]) <|
  .seq (.cond (.t 13)
    (.skip)
    (.exit 0)) <|
  .seq (.block 1 (
    .seq (.reg false [
      ⟨none, some 14, .mv (.t 12)⟩,
      ⟨none, some 15, .ia 31 (.t 10) (.t 12)⟩,
      ⟨none, some 16, .ld true 31 (.t 15)⟩,
      ⟨none, some 4, .al [.int .i64 0, .int .i64 0, .bool false, .int .i64 0, .int .i64 0, .int .i64 0, .int .i64 0, .int .i64 0, .int .i64 0, .sl .nl [], .sl .nl [], .bool false, .int .i64 0, .sl .nl [], .int .i64 0, .int .i64 0, .int .i64 0, .int .i64 0, .int .i64 0, .int .i64 0, .int .i64 0, .int .i64 0, .int .i64 0, .int .i64 0, .int .i64 0, .int .i64 0, .int .i64 0, .int .i64 0, .int .i64 0, .sl .nl [], .sl .nl []]⟩,
      ⟨none, some 3, .mv (.t 14)⟩,
      ⟨none, none, .st 31 (.t 4) (.t 16)⟩]) <|
    .seq (.reg false [
      ⟨none, some 17, .ld true 31 (.t 4)⟩,
      ⟨none, some 18, .call 43 [.t 17]⟩,
      ⟨none, some 19, .nt (.t 18)⟩,
      ⟨none, some 20, .mv (.t 19)⟩,
      ⟨some (20, false), some 21, .ld true 1 (.t 1)⟩,
      ⟨some (20, false), some 22, .fa 0 (.t 4)⟩,
      ⟨some (20, false), some 23, .ld false 1 (.t 22)⟩,
      ⟨some (20, false), some 24, .call 23 [.t 21, .t 23]⟩,
      ⟨some (20, false), some 25, .mv (.t 3)⟩,
      ⟨some (20, false), some 26, .bin .neq (.t 24) (.t 25)⟩,
      ⟨none, some 27, .pk (.t 20) (.c (.bool true)) (.t 26)⟩,
      ⟨none, some 28, .mv (.t 27)⟩,
      ⟨some (28, false), some 29, .fa 1 (.t 4)⟩,
      ⟨some (28, false), some 30, .ld false 1 (.t 29)⟩,
      ⟨some (28, false), some 31, .call 44 [.t 1, .t 30]⟩,
      ⟨some (28, false), some 32, .nt (.t 31)⟩,
      ⟨none, some 33, .pk (.t 28) (.c (.bool true)) (.t 32)⟩,
      ⟨none, some 34, .mv (.t 33)⟩,
      ⟨some (34, false), some 35, .ld true 1 (.t 1)⟩,
      ⟨some (34, false), some 36, .fa 0 (.t 4)⟩,
      ⟨some (34, false), some 37, .ld false 1 (.t 36)⟩,
      ⟨some (34, false), some 38, .call 35 [.t 35, .t 37]⟩,
      ⟨some (34, false), some 39, .call 34 [.t 38, .c (.int .i64 1), .c (.int .i64 4)]⟩,
      ⟨some (34, false), some 40, .nt (.t 39)⟩,
      ⟨none, some 41, .pk (.t 34) (.c (.bool true)) (.t 40)⟩]) <|
    .cond (.t 41)
      (.seq (.reg false [
        ⟨none, some 2, .mv (.c (.bool false))⟩]) <|
      .ret)
      (.skip))) <|
  .reg false [
    ⟨none, some 42, .bin .add (.t 12) (.c (.int .i64 1))⟩,
    ⟨none, some 12, .mv (.t 42)⟩]
def f22L0 : SC := f22L0b
def f22B : SC :=
  .seq (.reg false [
    ⟨none, some 1, .bx (.t 0)⟩,
    ⟨none, some 2, .mv (.c (.bool false))⟩]) <|
  .seq (.seq (.reg false [
    ⟨none, some 5, .fa 0 (.t 1)⟩,
    ⟨none, some 6, .ld false 1 (.t 5)⟩,
    ⟨none, some 7, .len (.t 6)⟩,
    ⟨none, some 8, .bin .gtr (.t 7) (.c (.int .i64 8))⟩]) <|
  .cond (.t 8)
    (.seq (.reg false [
      ⟨none, some 2, .mv (.c (.bool false))⟩]) <|
    .ret)
    (.skip)) <|
  .seq (.seq (.reg false [
    ⟨none, some 9, .fa 0 (.t 1)⟩,
    ⟨none, some 10, .ld false 1 (.t 9)⟩,
    ⟨none, some 11, .len (.t 10)⟩,
    ⟨none, some 12, .mv (.c (.int .i64 0))⟩]) <|
  .block 0 (
    .loop [1, 2, 10, 11, 12] f22L0)) <|
  .seq (.reg false [
    ⟨none, some 2, .mv (.c (.bool true))⟩]) <|
  .ret
def f22S : SFun := ⟨43, [.t 2], .pure, f22B⟩
theorem f22OK : FnOk Go.Proofs.Try.prog 22 f22S := FnOk.of (ks := [[1, 2, 10, 11, 12]]) (cs := []) (by kernel_rfl)

/-- loop.example/g00190/impl.NodeAt -/
def f23B : SC :=
  .seq (.reg false [
    ⟨none, some 2, .bx (.t 0)⟩,
    ⟨none, some 3, .bx (.t 1)⟩,
    ⟨none, some 4, .mv (.c (.int .i64 0))⟩]) <|
  .seq (.reg false [
    ⟨none, some 5, .fa 0 (.t 2)⟩,
    ⟨none, some 6, .ld false 1 (.t 5)⟩,
    ⟨none, some 7, .mf 46 [.t 3]⟩,
    ⟨none, some 8, .call 45 [.t 6, .t 7]⟩,
    ⟨none, some 4, .mv (.t 8)⟩]) <|
  .ret
def f23S : SFun := ⟨9, [.t 4], .pure, f23B⟩
theorem f23OK : FnOk Go.Proofs.Try.prog 23 f23S := FnOk.of (ks := []) (cs := []) (by kernel_rfl)

/-- loop.example/g00190/impl.UnderOf -/
def f24L0b : SC :=
  .seq (.reg false [
    ⟨none, some 16, .bin .lss (.t 15) (.t 14)⟩]) <|
  .seq (.cond (.t 16)
    (.skip)
    (.exit 0)) <|
  .seq (.block 1 (
    .seq (.reg false [
      ⟨none, some 17, .ia 31 (.t 13) (.t 15)⟩,
      ⟨none, some 18, .ld true 31 (.t 17)⟩,
      ⟨none, some 7, .al [.int .i64 0, .int .i64 0, .bool false, .int .i64 0, .int .i64 0, .int .i64 0, .int .i64 0, .int .i64 0, .int .i64 0, .sl .nl [], .sl .nl [], .bool false, .int .i64 0, .sl .nl [], .int .i64 0, .int .i64 0, .int .i64 0, .int .i64 0, .int .i64 0, .int .i64 0, .int .i64 0, .int .i64 0, .int .i64 0, .int .i64 0, .int .i64 0, .int .i64 0, .int .i64 0, .int .i64 0, .int .i64 0, .sl .nl [], .sl .nl []]⟩,
      ⟨none, none, .st 31 (.t 7) (.t 18)⟩]) <|
    .seq (.reg false [
      ⟨none, some 19, .fa 0 (.t 7)⟩,
      ⟨none, some 20, .ld false 1 (.t 19)⟩,
      ⟨none, some 21, .mv (.t 1)⟩,
      ⟨none, some 22, .call 47 [.t 2, .t 20, .t 21]⟩]) <|
    .cond (.t 22)
      (.reg false [
        ⟨none, some 23, .mv (.t 5)⟩,
        ⟨none, some 24, .fa 0 (.t 7)⟩,
        ⟨none, some 25, .ld false 1 (.t 24)⟩,
        ⟨none, some 26, .bs 1 [.t 25]⟩,
        ⟨none, some 27, .app 1 8 (.t 23) (.t 26)⟩,
        ⟨none, some 5, .mv (.t 27)⟩])
      (.skip))) <|
  .reg false [
    ⟨none, some 28, .bin .add (.t 15) (.c (.int .i64 1))⟩,
    ⟨none, some 15, .mv (.t 28)⟩]
def f24L0 : SC := f24L0b
def f24B : SC :=
  .seq (.reg false [
    ⟨none, some 2, .bx (.t 0)⟩,
    ⟨none, some 4, .mv (.c (.sl .nl []))⟩]) <|
  .seq (.seq (.reg false [
    ⟨none, some 8, .ld true 1 (.t 2)⟩,
    ⟨none, some 9, .mv (.t 1)⟩,
    ⟨none, some 10, .call 23 [.t 8, .t 9]⟩,
    ⟨none, some 11, .bin .lss (.t 10) (.c (.int .i64 0))⟩]) <|
  .cond (.t 11)
    (.seq (.reg false [
      ⟨none, some 4, .mv (.c (.sl .nl []))⟩]) <|
    .ret)
    (.skip)) <|
  .seq (.reg false [
    ⟨none, some 5, .mv (.c (.sl .nl []))⟩]) <|
  .seq (.seq (.reg false [
    ⟨none, some 12, .fa 0 (.t 2)⟩,
    ⟨none, some 13, .ld false 1 (.t 12)⟩,
    ⟨none, some 14, .len (.t 13)⟩,
    ⟨none, some 15, .mv (.c (.int .i64 0))⟩]) <|
  .block 0 (
    .loop [1, 2, 5, 13, 14, 15] f24L0)) <|
  .seq (.reg false [
    ⟨none, some 29, .mv (.t 5)⟩,
    ⟨none, some 4, .mv (.t 29)⟩]) <|
  .ret
def f24S : SFun := ⟨30, [.t 4], .own, f24B⟩
theorem f24OK : FnOk Go.Proofs.Try.prog 24 f24S := FnOk.of (ks := [[1, 2, 5, 13, 14, 15]]) (cs := []) (by kernel_rfl)

/-- slices.DeleteFunc[[]loop.example/g00190/impl.Node,loop.example/g00190/impl.Node] -/
def f25L0b : SC :=
  .seq (.seq (.reg false [
    ⟨none, some 16, .mv (.t 6)⟩,
    ⟨none, some 17, .mv (.t 0)⟩,
    ⟨none, some 18, .len (.t 17)⟩,
    ⟨none, some 19, .bin .lss (.t 16) (.t 18)⟩]) <|
  .cond (.t 19)
    (.skip)
    (.exit 0)) <|
  .seq (.block 1 (
    .seq (.reg false [
      ⟨none, some 22, .mv (.t 0)⟩,
      ⟨none, some 23, .mv (.t 6)⟩,
      ⟨none, some 24, .ia 31 (.t 22) (.t 23)⟩,
      ⟨none, some 25, .ld true 31 (.t 24)⟩,
      ⟨none, some 7, .al [.int .i64 0, .int .i64 0, .bool false, .int .i64 0, .int .i64 0, .int .i64 0, .int .i64 0, .int .i64 0, .int .i64 0, .sl .nl [], .sl .nl [], .bool false, .int .i64 0, .sl .nl [], .int .i64 0, .int .i64 0, .int .i64 0, .int .i64 0, .int .i64 0, .int .i64 0, .int .i64 0, .int .i64 0, .int .i64 0, .int .i64 0, .int .i64 0, .int .i64 0, .int .i64 0, .int .i64 0, .int .i64 0, .sl .nl [], .sl .nl []]⟩,
      ⟨none, none, .st 31 (.t 7) (.t 25)⟩]) <|
    .seq (.reg false [
      ⟨none, some 26, .mv (.t 1)⟩,
      ⟨none, some 27, .ld true 31 (.t 7)⟩,
      ⟨none, some 28, .dyn (.t 26) [.t 27]⟩,
      ⟨none, some 29, .nt (.t 28)⟩]) <|
    .cond (.t 29)
      (.seq (.reg false [
        ⟨none, some 30, .mv (.t 0)⟩,
        ⟨none, some 31, .mv (.t 5)⟩,
        ⟨none, some 32, .ld true 31 (.t 7)⟩,
        ⟨none, some 33, .ia 31 (.t 30) (.t 31)⟩,
        ⟨none, none, .st 31 (.t 33) (.t 32)⟩]) <|
      .reg false [
        ⟨none, some 34, .mv (.t 5)⟩,
        ⟨none, some 35, .bin .add (.t 34) (.c (.int .i64 1))⟩,
        ⟨none, some 5, .mv (.t 35)⟩])
      (.skip))) <|
  .reg false [
    ⟨none, some 20, .mv (.t 6)⟩,
    ⟨none, some 21, .bin .add (.t 20) (.c (.int .i64 1))⟩,
    ⟨none, some 6, .mv (.t 21)⟩]
def f25L0 : SC := f25L0b
def f25B : SC :=
  .seq (.reg false [
    ⟨none, some 4, .mv (.c (.sl .nl []))⟩]) <|
  .seq (.reg false [
    ⟨none, some 8, .mv (.t 0)⟩,
    ⟨none, some 9, .mv (.t 1)⟩,
    ⟨none, some 10, .call 45 [.t 8, .t 9]⟩,
    ⟨none, some 5, .mv (.t 10)⟩]) <|
  .seq (.seq (.reg false [
    ⟨none, some 11, .mv (.t 5)⟩,
    ⟨none, some 12, .bin .eql (.t 11) (.c (.int .i64 (-1)))⟩]) <|
  .cond (.t 12)
    (.seq (.reg false [
      ⟨none, some 13, .mv (.t 0)⟩,
      ⟨none, some 4, .mv (.t 13)⟩]) <|
    .ret)
    (.skip)) <|
  .seq (.seq (.reg false [
    ⟨none, some 14, .mv (.t 5)⟩,
    ⟨none, some 15, .bin .add (.t 14) (.c (.int .i64 1))⟩,
    ⟨none, some 6, .mv (.t 15)⟩]) <|
  .block 0 (
    .loop [0, 1, 5, 6] f25L0)) <|
  .seq (.reg false [
    ⟨none, some 36, .mv (.t 0)⟩,
    ⟨none, some 37, .mv (.t 5)⟩,
    ⟨none, some 38, .slc 31 (.t 36) (some (.t 37)) none⟩,
    ⟨none, none, .clr [.int .i64 0, .int .i64 0, .bool false, .int .i64 0, .int .i64 0, .int .i64 0, .int .i64 0, .int .i64 0, .int .i64 0, .sl .nl [], .sl .nl [], .bool false, .int .i64 0, .sl .nl [], .int .i64 0, .int .i64 0, .int .i64 0, .int .i64 0, .int .i64 0, .int .i64 0, .int .i64 0, .int .i64 0, .int .i64 0, .int .i64 0, .int .i64 0, .int .i64 0, .int .i64 0, .int .i64 0, .int .i64 0, .sl .nl [], .sl .nl []] (.t 38)⟩]) <|
  .seq (.reg false [
    ⟨none, some 39, .mv (.t 0)⟩,
    ⟨none, some 40, .mv (.t 5)⟩,
    ⟨none, some 41, .slc 31 (.t 39) none (some (.t 40))⟩,
    ⟨none, some 4, .mv (.t 41)⟩]) <|
  .ret
def f25S : SFun := ⟨42, [.t 4], .full, f25B⟩
theorem f25OK : FnOk Go.Proofs.Try.prog 25 f25S := FnOk.of (ks := [[0, 1, 5, 6]]) (cs := []) (by kernel_rfl)

/-- loop.example/g00190/impl.DropNode$1 -/
def f26B : SC :=
  .seq (.reg false [
    ⟨none, some 2, .bx (.t 0)⟩,
    ⟨none, some 3, .mv (.c (.bool false))⟩]) <|
  .seq (.reg false [
    ⟨none, some 4, .ld false 1 (.t 1)⟩,
    ⟨none, some 5, .fa 0 (.t 2)⟩,
    ⟨none, some 6, .ld false 1 (.t 5)⟩,
    ⟨none, some 7, .call 27 [.t 4, .t 6]⟩,
    ⟨none, some 3, .mv (.t 7)⟩]) <|
  .ret
def f26S : SFun := ⟨8, [.t 3], .pure, f26B⟩
theorem f26OK : FnOk Go.Proofs.Try.prog 26 f26S := FnOk.of (ks := []) (cs := []) (by kernel_rfl)

/-- slices.Contains[[]int,int] -/
def f27B : SC :=
  .seq (.reg false [
    ⟨none, some 4, .mv (.c (.bool false))⟩]) <|
  .seq (.reg false [
    ⟨none, some 5, .mv (.t 0)⟩,
    ⟨none, some 6, .mv (.t 1)⟩,
    ⟨none, some 7, .call 48 [.t 5, .t 6]⟩,
    ⟨none, some 8, .bin .geq (.t 7) (.c (.int .i64 0))⟩,
    ⟨none, some 4, .mv (.t 8)⟩]) <|
  .ret
def f27S : SFun := ⟨9, [.t 4], .pure, f27B⟩
theorem f27OK : FnOk Go.Proofs.Try.prog 27 f27S := FnOk.of (ks := []) (cs := []) (by kernel_rfl)

/-- loop.example/g00190/laws.eqNodeS -/
def f28L0b : SC :=
  .seq (.seq (.reg false [
    ⟨none, some 11, .mv (.t 5)⟩,
    ⟨none, some 12, .mv (.t 0)⟩,
    ⟨none, some 13, .len (.t 12)⟩,
    ⟨none, some 14, .bin .lss (.t 11) (.t 13)⟩]) <|
  .cond (.t 14)
    (.skip)
    (.exit 0)) <|
  .seq (.block 1 (
    .seq (.reg true [
      ⟨none, some 17, .mv (.t 0)⟩,
      ⟨none, some 18, .mv (.t 5)⟩,
      ⟨none, some 19, .ia 31 (.t 17) (.t 18)⟩,
      ⟨none, some 20, .ld true 31 (.t 19)⟩,
      ⟨none, some 21, .mv (.t 1)⟩,
      ⟨none, some 22, .mv (.t 5)⟩,
      ⟨none, some 23, .ia 31 (.t 21) (.t 22)⟩,
      ⟨none, some 24, .ld true 31 (.t 23)⟩,
      ⟨none, some 25, .call 49 [.t 20, .t 24]⟩,
      ⟨none, some 26, .nt (.t 25)⟩]) <|
    .cond (.t 26)
      (.seq (.reg false [
        ⟨none, some 4, .mv (.c (.bool false))⟩]) <|
      .ret)
      (.skip))) <|
  .reg false [
    ⟨none, some 15, .mv (.t 5)⟩,
    ⟨none, some 16, .bin .add (.t 15) (.c (.int .i64 1))⟩,
    ⟨none, some 5, .mv (.t 16)⟩]
def f28L0 : SC := f28L0b
def f28B : SC :=
  .seq (.reg false [
    ⟨none, some 4, .mv (.c (.bool false))⟩]) <|
  .seq (.seq (.reg false [
    ⟨none, some 6, .mv (.t 0)⟩,
    ⟨none, some 7, .len (.t 6)⟩,
    ⟨none, some 8, .mv (.t 1)⟩,
    ⟨none, some 9, .len (.t 8)⟩,
    ⟨none, some 10, .bin .neq (.t 7) (.t 9)⟩]) <|
  .cond (.t 10)
    (.seq (.reg false [
      ⟨none, some 4, .mv (.c (.bool false))⟩]) <|
    .ret)
    (.skip)) <|
  .seq (.seq (.reg false [
    ⟨none, some 5, .mv (.c (.int .i64 0))⟩]) <|
  .block 0 (
    .loop [0, 1, 4, 5] f28L0)) <|
  .seq (.reg false [
    ⟨none, some 4, .mv (.c (.bool true))⟩]) <|
  .ret
def f28S : SFun := ⟨27, [.t 4], .pure, f28B⟩
theorem f28OK : FnOk Go.Proofs.Try.prog 28 f28S := FnOk.of (ks := [[0, 1, 4, 5]]) (cs := [[[], [], [0, 1], [2, 0, 1], [], [], [4, 5], [6, 4, 5], [3, 2, 0, 1, 7, 6, 4, 5], [8, 3, 2, 0, 1, 7, 6, 4, 5]]]) (by kernel_rfl)

end Go.Proofs.Ytnehpfaafgnnpaa
