/- Readings of functions (printed by wip/gen). -/
import Derived.Test.YtnehpfaafgnnpaaProg
import Derived.Test.YtnehpfaafgnnpaaMG
set_option linter.unusedSimpArgs false
set_option linter.unusedVariables false
set_option linter.unnecessarySimpa false
namespace Go.Proofs.Ytnehpfaafgnnpaa
open Go.AM

/-- loop.example/g00190/laws.eqMat -/
def f77B : SC :=
  .seq (.reg false [
    ⟨none, some 2, .bx (.t 0)⟩,
    ⟨none, some 3, .bx (.t 1)⟩,
    ⟨none, some 4, .mv (.c (.bool false))⟩]) <|
  .seq (.seq (.reg false [
    ⟨none, some 5, .fa 0 (.t 2)⟩,
    ⟨none, some 6, .ld false 1 (.t 5)⟩,
    ⟨none, some 7, .fa 0 (.t 3)⟩,
    ⟨none, some 8, .ld false 1 (.t 7)⟩,
    ⟨none, some 9, .bin .neq (.t 6) (.t 8)⟩]) <|
  .cond (.t 9)
    (.seq (.reg false [
      ⟨none, some 4, .mv (.c (.bool false))⟩]) <|
    .ret)
    (.skip)) <|
  .seq (.seq (.reg false [
    ⟨none, some 10, .fa 1 (.t 2)⟩,
    ⟨none, some 11, .ld false 1 (.t 10)⟩,
    ⟨none, some 12, .fa 1 (.t 3)⟩,
    ⟨none, some 13, .ld false 1 (.t 12)⟩,
    ⟨none, some 14, .bin .neq (.t 11) (.t 13)⟩]) <|
  .cond (.t 14)
    (.seq (.reg false [
      ⟨none, some 4, .mv (.c (.bool false))⟩]) <|
    .ret)
    (.skip)) <|
  .seq (.seq (.reg false [
    ⟨none, some 15, .fa 2 (.t 2)⟩,
    ⟨none, some 16, .ld false 1 (.t 15)⟩,
    ⟨none, some 17, .fa 2 (.t 3)⟩,
    ⟨none, some 18, .ld false 1 (.t 17)⟩,
    ⟨none, some 19, .bin .neq (.t 16) (.t 18)⟩]) <|
  .cond (.t 19)
    (.seq (.reg false [
      ⟨none, some 4, .mv (.c (.bool false))⟩]) <|
    .ret)
    (.skip)) <|
  .seq (.seq (.reg false [
    ⟨none, some 20, .fa 3 (.t 2)⟩,
    ⟨none, some 21, .ld false 1 (.t 20)⟩,
    ⟨none, some 22, .fa 3 (.t 3)⟩,
    ⟨none, some 23, .ld false 1 (.t 22)⟩,
    ⟨none, some 24, .bin .neq (.t 21) (.t 23)⟩]) <|
  .cond (.t 24)
    (.seq (.reg false [
      ⟨none, some 4, .mv (.c (.bool false))⟩]) <|
    .ret)
    (.skip)) <|
  .seq (.seq (.reg false [
    ⟨none, some 25, .fa 4 (.t 2)⟩,
    ⟨none, some 26, .ld false 1 (.t 25)⟩,
    ⟨none, some 27, .fa 4 (.t 3)⟩,
    ⟨none, some 28, .ld false 1 (.t 27)⟩,
    ⟨none, some 29, .bin .neq (.t 26) (.t 28)⟩]) <|
  .cond (.t 29)
    (.seq (.reg false [
      ⟨none, some 4, .mv (.c (.bool false))⟩]) <|
    .ret)
    (.skip)) <|
  .seq (.seq (.reg false [
    ⟨none, some 30, .fa 5 (.t 2)⟩,
    ⟨none, some 31, .ld false 1 (.t 30)⟩,
    ⟨none, some 32, .fa 5 (.t 3)⟩,
    ⟨none, some 33, .ld false 1 (.t 32)⟩,
    ⟨none, some 34, .bin .neq (.t 31) (.t 33)⟩]) <|
  .cond (.t 34)
    (.seq (.reg false [
      ⟨none, some 4, .mv (.c (.bool false))⟩]) <|
    .ret)
    (.skip)) <|
  .seq (.reg false [
    ⟨none, some 4, .mv (.c (.bool true))⟩]) <|
  .ret
def f77S : SFun := ⟨35, [.t 4], .pure, f77B⟩
theorem f77OK : FnOk Go.Proofs.Try.prog 77 f77S := FnOk.of (ks := []) (cs := []) (by kernel_rfl)

/-- loop.example/g00190/laws.eqPath -/
def f78B : SC :=
  .seq (.reg false [
    ⟨none, some 2, .bx (.t 0)⟩,
    ⟨none, some 3, .bx (.t 1)⟩,
    ⟨none, some 4, .mv (.c (.bool false))⟩]) <|
  .seq (.seq (.reg false [
    ⟨none, some 5, .fa 0 (.t 2)⟩,
    ⟨none, some 6, .ld false 1 (.t 5)⟩,
    ⟨none, some 7, .fa 0 (.t 3)⟩,
    ⟨none, some 8, .ld false 1 (.t 7)⟩,
    ⟨none, some 9, .call 79 [.t 6, .t 8]⟩,
    ⟨none, some 10, .nt (.t 9)⟩]) <|
  .cond (.t 10)
    (.seq (.reg false [
      ⟨none, some 4, .mv (.c (.bool false))⟩]) <|
    .ret)
    (.skip)) <|
  .seq (.seq (.reg false [
    ⟨none, some 11, .fa 1 (.t 2)⟩,
    ⟨none, some 12, .ld false 1 (.t 11)⟩,
    ⟨none, some 13, .fa 1 (.t 3)⟩,
    ⟨none, some 14, .ld false 1 (.t 13)⟩,
    ⟨none, some 15, .call 95 [.t 12, .t 14]⟩,
    ⟨none, some 16, .nt (.t 15)⟩]) <|
  .cond (.t 16)
    (.seq (.reg false [
      ⟨none, some 4, .mv (.c (.bool false))⟩]) <|
    .ret)
    (.skip)) <|
  .seq (.reg false [
    ⟨none, some 4, .mv (.c (.bool true))⟩]) <|
  .ret
def f78S : SFun := ⟨17, [.t 4], .pure, f78B⟩
theorem f78OK : FnOk Go.Proofs.Try.prog 78 f78S := FnOk.of (ks := []) (cs := []) (by kernel_rfl)

/-- loop.example/g00190/laws.eqIntS -/
def f79L0b : SC :=
  .seq (.seq (.reg false [
    ⟨none, some 11, .mv (.t 5)⟩,
    ⟨none, some 12, .mv (.t 0)⟩,
    ⟨none, some 13, .len (.t 12)⟩,
    ⟨none, some 14, .bin .lss (.t 11) (.t 13)⟩]) <|
  .cond (.t 14)
    (.skip)
    (.exit 0)) <|
  .seq (.block 1 (
    .seq (.reg true [
      ⟨none, some 17, .mv (.t 0)⟩,
      ⟨none, some 18, .mv (.t 5)⟩,
      ⟨none, some 19, .ia 1 (.t 17) (.t 18)⟩,
      ⟨none, some 20, .ld false 1 (.t 19)⟩,
      ⟨none, some 21, .mv (.t 1)⟩,
      ⟨none, some 22, .mv (.t 5)⟩,
      ⟨none, some 23, .ia 1 (.t 21) (.t 22)⟩,
      ⟨none, some 24, .ld false 1 (.t 23)⟩,
      ⟨none, some 25, .bin .neq (.t 20) (.t 24)⟩]) <|
    .cond (.t 25)
      (.seq (.reg false [
        ⟨none, some 4, .mv (.c (.bool false))⟩]) <|
      .ret)
      (.skip))) <|
  .reg false [
    ⟨none, some 15, .mv (.t 5)⟩,
    ⟨none, some 16, .bin .add (.t 15) (.c (.int .i64 1))⟩,
    ⟨none, some 5, .mv (.t 16)⟩]
def f79L0 : SC := f79L0b
def f79B : SC :=
  .seq (.reg false [
    ⟨none, some 4, .mv (.c (.bool false))⟩]) <|
  .seq (.seq (.reg false [
    ⟨none, some 6, .mv (.t 0)⟩,
    ⟨none, some 7, .len (.t 6)⟩,
    ⟨none, some 8, .mv (.t 1)⟩,
    ⟨none, some 9, .len (.t 8)⟩,
    ⟨none, some 10, .bin .neq (.t 7) (.t 9)⟩]) <|
  .cond (.t 10)
    (.seq (.reg false [
      ⟨none, some 4, .mv (.c (.bool false))⟩]) <|
    .ret)
    (.skip)) <|
  .seq (.seq (.reg false [
    ⟨none, some 5, .mv (.c (.int .i64 0))⟩]) <|
  .block 0 (
    .loop [0, 1, 4, 5] f79L0)) <|
  .seq (.reg false [
    ⟨none, some 4, .mv (.c (.bool true))⟩]) <|
  .ret
def f79S : SFun := ⟨26, [.t 4], .pure, f79B⟩
theorem f79OK : FnOk Go.Proofs.Try.prog 79 f79S := FnOk.of (ks := [[0, 1, 4, 5]]) (cs := [[[], [], [0, 1], [2, 0, 1], [], [], [4, 5], [6, 4, 5], [3, 2, 0, 1, 7, 6, 4, 5]]]) (by kernel_rfl)

/-- loop.example/g00190/laws.eqPaint -/
def f80B : SC :=
  .seq (.reg false [
    ⟨none, some 2, .bx (.t 0)⟩,
    ⟨none, some 3, .bx (.t 1)⟩,
    ⟨none, some 4, .mv (.c (.bool false))⟩]) <|
  .seq (.seq (.reg false [
    ⟨none, some 5, .fa 0 (.t 2)⟩,
    ⟨none, some 6, .ld false 1 (.t 5)⟩,
    ⟨none, some 7, .fa 0 (.t 3)⟩,
    ⟨none, some 8, .ld false 1 (.t 7)⟩,
    ⟨none, some 9, .bin .neq (.t 6) (.t 8)⟩]) <|
  .cond (.t 9)
    (.seq (.reg false [
      ⟨none, some 4, .mv (.c (.bool false))⟩]) <|
    .ret)
    (.skip)) <|
  .seq (.seq (.reg false [
    ⟨none, some 10, .fa 1 (.t 2)⟩,
    ⟨none, some 11, .ld true 4 (.t 10)⟩,
    ⟨none, some 12, .fa 1 (.t 3)⟩,
    ⟨none, some 13, .ld true 4 (.t 12)⟩,
    ⟨none, some 14, .call 96 [.t 11, .t 13]⟩,
    ⟨none, some 15, .nt (.t 14)⟩]) <|
  .cond (.t 15)
    (.seq (.reg false [
      ⟨none, some 4, .mv (.c (.bool false))⟩]) <|
    .ret)
    (.skip)) <|
  .seq (.seq (.reg false [
    ⟨none, some 16, .fa 5 (.t 2)⟩,
    ⟨none, some 17, .ld true 4 (.t 16)⟩,
    ⟨none, some 18, .fa 5 (.t 3)⟩,
    ⟨none, some 19, .ld true 4 (.t 18)⟩,
    ⟨none, some 20, .call 96 [.t 17, .t 19]⟩,
    ⟨none, some 21, .nt (.t 20)⟩]) <|
  .cond (.t 21)
    (.seq (.reg false [
      ⟨none, some 4, .mv (.c (.bool false))⟩]) <|
    .ret)
    (.skip)) <|
  .seq (.seq (.reg false [
    ⟨none, some 22, .fa 9 (.t 2)⟩,
    ⟨none, some 23, .ld true 2 (.t 22)⟩,
    ⟨none, some 24, .fa 9 (.t 3)⟩,
    ⟨none, some 25, .ld true 2 (.t 24)⟩,
    ⟨none, some 26, .call 97 [.t 23, .t 25]⟩,
    ⟨none, some 27, .nt (.t 26)⟩]) <|
  .cond (.t 27)
    (.seq (.reg false [
      ⟨none, some 4, .mv (.c (.bool false))⟩]) <|
    .ret)
    (.skip)) <|
  .seq (.seq (.reg false [
    ⟨none, some 28, .fa 11 (.t 2)⟩,
    ⟨none, some 29, .ld true 2 (.t 28)⟩,
    ⟨none, some 30, .fa 11 (.t 3)⟩,
    ⟨none, some 31, .ld true 2 (.t 30)⟩,
    ⟨none, some 32, .call 97 [.t 29, .t 31]⟩,
    ⟨none, some 33, .nt (.t 32)⟩]) <|
  .cond (.t 33)
    (.seq (.reg false [
      ⟨none, some 4, .mv (.c (.bool false))⟩]) <|
    .ret)
    (.skip)) <|
  .seq (.reg false [
    ⟨none, some 4, .mv (.c (.bool true))⟩]) <|
  .ret
def f80S : SFun := ⟨34, [.t 4], .pure, f80B⟩
theorem f80OK : FnOk Go.Proofs.Try.prog 80 f80S := FnOk.of (ks := []) (cs := []) (by kernel_rfl)

/-- loop.example/g00190/laws.szPointS -/
def f82B : SC :=
  .seq (.reg false [
    ⟨none, some 4, .mv (.c (.int .i64 0))⟩]) <|
  .seq (.reg false [
    ⟨none, some 5, .mv (.t 1)⟩,
    ⟨none, some 6, .mv (.t 0)⟩,
    ⟨none, some 7, .len (.t 6)⟩,
    ⟨none, some 8, .bin .sub (.t 5) (.t 7)⟩,
    ⟨none, some 1, .mv (.t 8)⟩]) <|
  .seq (.seq (.reg false [
    ⟨none, some 9, .mv (.t 1)⟩,
    ⟨none, some 10, .bin .lss (.t 9) (.c (.int .i64 0))⟩]) <|
  .cond (.t 10)
    (.seq (.reg false [
      ⟨none, some 4, .mv (.c (.int .i64 (-1)))⟩]) <|
    .ret)
    (.skip)) <|
  .seq (.reg false [
    ⟨none, some 11, .mv (.t 1)⟩,
    ⟨none, some 4, .mv (.t 11)⟩]) <|
  .ret
def f82S : SFun := ⟨12, [.t 4], .pure, f82B⟩
theorem f82OK : FnOk Go.Proofs.Try.prog 82 f82S := FnOk.of (ks := []) (cs := []) (by kernel_rfl)

/-- loop.example/g00190/spec.NeedOf -/
def f83B : SC :=
  .seq (.reg false [
    ⟨none, some 2, .mv (.c (.int .i64 0))⟩]) <|
  .seq (.reg false [
    ⟨none, some 4, .bs 1 [.c (.int .i64 1), .c (.int .i64 1), .c (.int .i64 2), .c (.int .i64 3), .c (.int .i64 0)]⟩,
    ⟨none, some 3, .mv (.t 4)⟩]) <|
  .seq (.seq (.reg false [
    ⟨none, some 5, .mv (.t 0)⟩,
    ⟨none, some 6, .call 38 [.t 5, .c (.int .i64 1), .c (.int .i64 5)]⟩,
    ⟨none, some 7, .nt (.t 6)⟩]) <|
  .cond (.t 7)
    (.seq (.reg false [
      ⟨none, some 2, .mv (.c (.int .i64 (-1)))⟩]) <|
    .ret)
    (.skip)) <|
  .seq (.reg false [
    ⟨none, some 8, .mv (.t 3)⟩,
    ⟨none, some 9, .mv (.t 0)⟩,
    ⟨none, some 10, .bin .sub (.t 9) (.c (.int .i64 1))⟩,
    ⟨none, some 11, .ia 1 (.t 8) (.t 10)⟩,
    ⟨none, some 12, .ld false 1 (.t 11)⟩,
    ⟨none, some 2, .mv (.t 12)⟩]) <|
  .ret
def f83S : SFun := ⟨13, [.t 2], .pure, f83B⟩
theorem f83OK : FnOk Go.Proofs.Try.prog 83 f83S := FnOk.of (ks := []) (cs := []) (by kernel_rfl)

/-- loop.example/g00190/spec.PointOk -/
def f84B : SC :=
  .seq (.reg false [
    ⟨none, some 1, .bx (.t 0)⟩,
    ⟨none, some 2, .mv (.c (.bool false))⟩]) <|
  .seq (.reg false [
    ⟨none, some 3, .fa 0 (.t 1)⟩,
    ⟨none, some 4, .ld false 1 (.t 3)⟩,
    ⟨none, some 5, .call 38 [.t 4, .c (.int .i64 (-8388608)), .c (.int .i64 8388608)]⟩,
    ⟨none, some 6, .mv (.t 5)⟩,
    ⟨some (6, true), some 7, .fa 1 (.t 1)⟩,
    ⟨some (6, true), some 8, .ld false 1 (.t 7)⟩,
    ⟨some (6, true), some 9, .call 38 [.t 8, .c (.int .i64 (-8388608)), .c (.int .i64 8388608)]⟩,
    ⟨none, some 10, .pk (.t 6) (.t 9) (.c (.bool false))⟩,
    ⟨none, some 2, .mv (.t 10)⟩]) <|
  .ret
def f84S : SFun := ⟨11, [.t 2], .pure, f84B⟩
theorem f84OK : FnOk Go.Proofs.Try.prog 84 f84S := FnOk.of (ks := []) (cs := []) (by kernel_rfl)

/-- loop.example/g00190/spec.ColorOk -/
def f85B : SC :=
  .seq (.reg false [
    ⟨none, some 1, .bx (.t 0)⟩,
    ⟨none, some 2, .mv (.c (.bool false))⟩]) <|
  .seq (.reg false [
    ⟨none, some 3, .fa 0 (.t 1)⟩,
    ⟨none, some 4, .ld false 1 (.t 3)⟩,
    ⟨none, some 5, .call 38 [.t 4, .c (.int .i64 0), .c (.int .i64 255)]⟩,
    ⟨none, some 6, .mv (.t 5)⟩,
    ⟨some (6, true), some 7, .fa 1 (.t 1)⟩,
    ⟨some (6, true), some 8, .ld false 1 (.t 7)⟩,
    ⟨some (6, true), some 9, .call 38 [.t 8, .c (.int .i64 0), .c (.int .i64 255)]⟩,
    ⟨none, some 10, .pk (.t 6) (.t 9) (.c (.bool false))⟩,
    ⟨none, some 11, .mv (.t 10)⟩,
    ⟨some (11, true), some 12, .fa 2 (.t 1)⟩,
    ⟨some (11, true), some 13, .ld false 1 (.t 12)⟩,
    ⟨some (11, true), some 14, .call 38 [.t 13, .c (.int .i64 0), .c (.int .i64 255)]⟩,
    ⟨none, some 15, .pk (.t 11) (.t 14) (.c (.bool false))⟩,
    ⟨none, some 16, .mv (.t 15)⟩,
    ⟨some (16, true), some 17, .fa 3 (.t 1)⟩,
    ⟨some (16, true), some 18, .ld false 1 (.t 17)⟩,
    ⟨some (16, true), some 19, .call 38 [.t 18, .c (.int .i64 0), .c (.int .i64 255)]⟩,
    ⟨none, some 20, .pk (.t 16) (.t 19) (.c (.bool false))⟩,
    ⟨none, some 2, .mv (.t 20)⟩]) <|
  .ret
def f85S : SFun := ⟨21, [.t 2], .pure, f85B⟩
theorem f85OK : FnOk Go.Proofs.Try.prog 85 f85S := FnOk.of (ks := []) (cs := []) (by kernel_rfl)

/-- loop.example/g00190/laws.toPointS -/
def f86L0b : SC :=
  .seq (.seq (.reg false [
    ⟨none, some 8, .mv (.t 4)⟩,
    ⟨none, some 9, .mv (.t 0)⟩,
    ⟨none, some 10, .len (.t 9)⟩,
    ⟨none, some 11, .bin .lss (.t 8) (.t 10)⟩]) <|
  .cond (.t 11)
    (.skip)
    (.exit 0)) <|
  .seq (.block 1 (
    .reg false [
      ⟨none, some 14, .mv (.t 3)⟩,
      ⟨none, some 15, .mv (.t 4)⟩,
      ⟨none, some 16, .mv (.t 0)⟩,
      ⟨none, some 17, .mv (.t 4)⟩,
      ⟨none, some 18, .ia 2 (.t 16) (.t 17)⟩,
      ⟨none, some 19, .ld true 2 (.t 18)⟩,
      ⟨none, some 20, .call 88 [.t 19]⟩,
      ⟨none, some 21, .ia 2 (.t 14) (.t 15)⟩,
      ⟨none, none, .st 2 (.t 21) (.t 20)⟩])) <|
  .reg false [
    ⟨none, some 12, .mv (.t 4)⟩,
    ⟨none, some 13, .bin .add (.t 12) (.c (.int .i64 1))⟩,
    ⟨none, some 4, .mv (.t 13)⟩]
def f86L0 : SC := f86L0b
def f86B : SC :=
  .seq (.reg false [
    ⟨none, some 2, .mv (.c (.sl .nl []))⟩]) <|
  .seq (.reg false [
    ⟨none, some 5, .mv (.t 0)⟩,
    ⟨none, some 6, .len (.t 5)⟩,
    ⟨none, some 7, .mkb (.agg [.int .i64 0, .int .i64 0]) 16 (.t 6)⟩,
    ⟨none, some 3, .mv (.t 7)⟩]) <|
  .seq (.seq (.reg false [
    ⟨none, some 4, .mv (.c (.int .i64 0))⟩]) <|
  .block 0 (
    .loop [0, 3, 4] f86L0)) <|
  .seq (.reg false [
    ⟨none, some 22, .mv (.t 3)⟩,
    ⟨none, some 2, .mv (.t 22)⟩]) <|
  .ret
def f86S : SFun := ⟨23, [.t 2], .own, f86B⟩
theorem f86OK : FnOk Go.Proofs.Try.prog 86 f86S := FnOk.of (ks := [[0, 3, 4]]) (cs := []) (by kernel_rfl)

/-- loop.example/g00190/laws.toColor -/
def f87B : SC :=
  .seq (.reg false [
    ⟨none, some 1, .bx (.t 0)⟩,
    ⟨none, some 2, .al [.int .i64 0, .int .i64 0, .int .i64 0, .int .i64 0]⟩]) <|
  .seq (.reg false [
    ⟨none, some 3, .al [.int .i64 0, .int .i64 0, .int .i64 0, .int .i64 0]⟩]) <|
  .seq (.reg false [
    ⟨none, some 4, .fa 0 (.t 1)⟩,
    ⟨none, some 5, .ld false 1 (.t 4)⟩,
    ⟨none, some 6, .fa 0 (.t 3)⟩,
    ⟨none, none, .st 1 (.t 6) (.t 5)⟩]) <|
  .seq (.reg false [
    ⟨none, some 7, .fa 1 (.t 1)⟩,
    ⟨none, some 8, .ld false 1 (.t 7)⟩,
    ⟨none, some 9, .fa 1 (.t 3)⟩,
    ⟨none, none, .st 1 (.t 9) (.t 8)⟩]) <|
  .seq (.reg false [
    ⟨none, some 10, .fa 2 (.t 1)⟩,
    ⟨none, some 11, .ld false 1 (.t 10)⟩,
    ⟨none, some 12, .fa 2 (.t 3)⟩,
    ⟨none, none, .st 1 (.t 12) (.t 11)⟩]) <|
  .seq (.reg false [
    ⟨none, some 13, .fa 3 (.t 1)⟩,
    ⟨none, some 14, .ld false 1 (.t 13)⟩,
    ⟨none, some 15, .fa 3 (.t 3)⟩,
    ⟨none, none, .st 1 (.t 15) (.t 14)⟩]) <|
  .seq (.reg false [
    ⟨none, some 16, .ld true 4 (.t 3)⟩,
    ⟨none, none, .st 4 (.t 2) (.t 16)⟩]) <|
  .ret
def f87S : SFun := ⟨17, [.c 2 true 4], .pure, f87B⟩
theorem f87OK : FnOk Go.Proofs.Try.prog 87 f87S := FnOk.of (ks := []) (cs := []) (by kernel_rfl)

/-- loop.example/g00190/laws.toPoint -/
def f88B : SC :=
  .seq (.reg false [
    ⟨none, some 1, .bx (.t 0)⟩,
    ⟨none, some 2, .al [.int .i64 0, .int .i64 0]⟩]) <|
  .seq (.reg false [
    ⟨none, some 3, .al [.int .i64 0, .int .i64 0]⟩]) <|
  .seq (.reg false [
    ⟨none, some 4, .fa 0 (.t 1)⟩,
    ⟨none, some 5, .ld false 1 (.t 4)⟩,
    ⟨none, some 6, .fa 0 (.t 3)⟩,
    ⟨none, none, .st 1 (.t 6) (.t 5)⟩]) <|
  .seq (.reg false [
    ⟨none, some 7, .fa 1 (.t 1)⟩,
    ⟨none, some 8, .ld false 1 (.t 7)⟩,
    ⟨none, some 9, .fa 1 (.t 3)⟩,
    ⟨none, none, .st 1 (.t 9) (.t 8)⟩]) <|
  .seq (.reg false [
    ⟨none, some 10, .ld true 2 (.t 3)⟩,
    ⟨none, none, .st 2 (.t 2) (.t 10)⟩]) <|
  .ret
def f88S : SFun := ⟨11, [.c 2 true 2], .pure, f88B⟩
theorem f88OK : FnOk Go.Proofs.Try.prog 88 f88S := FnOk.of (ks := []) (cs := []) (by kernel_rfl)

/-- loop.example/g00190/impl.isFar -/
def f90B : SC :=
  .seq (.reg false [
    ⟨none, some 2, .mv (.c (.bool false))⟩]) <|
  .seq (.reg false [
    ⟨none, some 3, .mv (.t 0)⟩,
    ⟨none, some 4, .call 34 [.t 3, .c (.int .i64 (-8388608)), .c (.int .i64 8388608)]⟩,
    ⟨none, some 2, .mv (.t 4)⟩]) <|
  .ret
def f90S : SFun := ⟨5, [.t 2], .pure, f90B⟩
theorem f90OK : FnOk Go.Proofs.Try.prog 90 f90S := FnOk.of (ks := []) (cs := []) (by kernel_rfl)

/-- loop.example/g00190/impl.pointsOk -/
def f91L0b : SC :=
  .seq (.reg false [
    ⟨none, some 8, .bin .lss (.t 7) (.t 6)⟩]) <|
  .seq (.cond (.t 8)
    (.skip)
    (.exit 0)) <|
  .seq (.block 1 (
    .seq (.reg false [
      ⟨none, some 9, .ia 2 (.t 5) (.t 7)⟩,
      ⟨none, some 10, .ld true 2 (.t 9)⟩,
      ⟨none, some 4, .al [.int .i64 0, .int .i64 0]⟩,
      ⟨none, none, .st 2 (.t 4) (.t 10)⟩]) <|
    .seq (.reg false [
      ⟨none, some 11, .ld true 2 (.t 4)⟩,
      ⟨none, some 12, .call 94 [.t 11]⟩,
      ⟨none, some 13, .nt (.t 12)⟩]) <|
    .cond (.t 13)
      (.seq (.reg false [
        ⟨none, some 2, .mv (.c (.bool false))⟩]) <|
      .ret)
      (.skip))) <|
  .reg false [
    ⟨none, some 14, .bin .add (.t 7) (.c (.int .i64 1))⟩,
    ⟨none, some 7, .mv (.t 14)⟩]
def f91L0 : SC := f91L0b
def f91B : SC :=
  .seq (.reg false [
    ⟨none, some 2, .mv (.c (.bool false))⟩]) <|
  .seq (.seq (.reg false [
    ⟨none, some 5, .mv (.t 0)⟩,
    ⟨none, some 6, .len (.t 5)⟩,
    ⟨none, some 7, .mv (.c (.int .i64 0))⟩]) <|
  .block 0 (
    .loop [2, 5, 6, 7] f91L0)) <|
  .seq (.reg false [
    ⟨none, some 2, .mv (.c (.bool true))⟩]) <|
  .ret
def f91S : SFun := ⟨15, [.t 2], .pure, f91B⟩
theorem f91OK : FnOk Go.Proofs.Try.prog 91 f91S := FnOk.of (ks := [[2, 5, 6, 7]]) (cs := []) (by kernel_rfl)

/-- loop.example/g00190/impl.NeedOf -/
def f92B : SC :=
  .seq (.reg false [
    ⟨none, some 2, .mv (.c (.int .i64 0))⟩]) <|
  .seq (.seq (.reg false [
    ⟨none, some 3, .mv (.t 0)⟩]) <|
  .block 0 (
    .seq (.seq (.reg false [
      ⟨none, some 5, .bin .eql (.t 3) (.c (.int .i64 1))⟩,
      ⟨none, some 4, .mv (.t 5)⟩]) <|
    .cond (.t 4)
      (.skip)
      (.reg false [
        ⟨none, some 6, .bin .eql (.t 3) (.c (.int .i64 2))⟩,
        ⟨none, some 4, .mv (.t 6)⟩])) <|
    .cond (.t 4)
      (.seq (.reg false [
        ⟨none, some 2, .mv (.c (.int .i64 1))⟩]) <|
      .ret)
      (.seq (.reg false [
        ⟨none, some 8, .bin .eql (.t 3) (.c (.int .i64 3))⟩,
        ⟨none, some 7, .mv (.t 8)⟩]) <|
      .cond (.t 7)
        (.seq (.reg false [
          ⟨none, some 2, .mv (.c (.int .i64 2))⟩]) <|
        .ret)
        (.seq (.reg false [
          ⟨none, some 10, .bin .eql (.t 3) (.c (.int .i64 4))⟩,
          ⟨none, some 9, .mv (.t 10)⟩]) <|
        .cond (.t 9)
          (.seq (.reg false [
            ⟨none, some 2, .mv (.c (.int .i64 3))⟩]) <|
          .ret)
          (.seq (.reg false [
            ⟨none, some 12, .bin .eql (.t 3) (.c (.int .i64 5))⟩,
            ⟨none, some 11, .mv (.t 12)⟩]) <|
          .cond (.t 11)
            (.seq (.reg false [
              ⟨none, some 2, .mv (.c (.int .i64 0))⟩]) <|
            .ret)
            (.skip)))))) <|
  .seq (.reg false [
    ⟨none, some 2, .mv (.c (.int .i64 (-1)))⟩]) <|
  .ret
def f92S : SFun := ⟨13, [.t 2], .pure, f92B⟩
theorem f92OK : FnOk Go.Proofs.Try.prog 92 f92S := FnOk.of (ks := []) (cs := []) (by kernel_rfl)

/-- loop.example/g00190/impl.ColorOk -/
def f93B : SC :=
  .seq (.reg false [
    ⟨none, some 1, .bx (.t 0)⟩,
    ⟨none, some 2, .mv (.c (.bool false))⟩]) <|
  .seq (.reg false [
    ⟨none, some 3, .fa 0 (.t 1)⟩,
    ⟨none, some 4, .ld false 1 (.t 3)⟩,
    ⟨none, some 5, .call 74 [.t 4]⟩,
    ⟨none, some 6, .mv (.t 5)⟩,
    ⟨some (6, true), some 7, .fa 1 (.t 1)⟩,
    ⟨some (6, true), some 8, .ld false 1 (.t 7)⟩,
    ⟨some (6, true), some 9, .call 74 [.t 8]⟩,
    ⟨none, some 10, .pk (.t 6) (.t 9) (.c (.bool false))⟩,
    ⟨none, some 11, .mv (.t 10)⟩,
    ⟨some (11, true), some 12, .fa 2 (.t 1)⟩,
    ⟨some (11, true), some 13, .ld false 1 (.t 12)⟩,
    ⟨some (11, true), some 14, .call 74 [.t 13]⟩,
    ⟨none, some 15, .pk (.t 11) (.t 14) (.c (.bool false))⟩,
    ⟨none, some 16, .mv (.t 15)⟩,
    ⟨some (16, true), some 17, .fa 3 (.t 1)⟩,
    ⟨some (16, true), some 18, .ld false 1 (.t 17)⟩,
    ⟨some (16, true), some 19, .call 74 [.t 18]⟩,
    ⟨none, some 20, .pk (.t 16) (.t 19) (.c (.bool false))⟩,
    ⟨none, some 2, .mv (.t 20)⟩]) <|
  .ret
def f93S : SFun := ⟨21, [.t 2], .pure, f93B⟩
theorem f93OK : FnOk Go.Proofs.Try.prog 93 f93S := FnOk.of (ks := []) (cs := []) (by kernel_rfl)

/-- loop.example/g00190/impl.PointOk -/
def f94B : SC :=
  .seq (.reg false [
    ⟨none, some 1, .bx (.t 0)⟩,
    ⟨none, some 2, .mv (.c (.bool false))⟩]) <|
  .seq (.reg false [
    ⟨none, some 3, .fa 0 (.t 1)⟩,
    ⟨none, some 4, .ld false 1 (.t 3)⟩,
    ⟨none, some 5, .call 90 [.t 4]⟩,
    ⟨none, some 6, .mv (.t 5)⟩,
    ⟨some (6, true), some 7, .fa 1 (.t 1)⟩,
    ⟨some (6, true), some 8, .ld false 1 (.t 7)⟩,
    ⟨some (6, true), some 9, .call 90 [.t 8]⟩,
    ⟨none, some 10, .pk (.t 6) (.t 9) (.c (.bool false))⟩,
    ⟨none, some 2, .mv (.t 10)⟩]) <|
  .ret
def f94S : SFun := ⟨11, [.t 2], .pure, f94B⟩
theorem f94OK : FnOk Go.Proofs.Try.prog 94 f94S := FnOk.of (ks := []) (cs := []) (by kernel_rfl)

/-- loop.example/g00190/laws.eqPointS -/
def f95L0b : SC :=
  .seq (.seq (.reg false [
    ⟨none, some 11, .mv (.t 5)⟩,
    ⟨none, some 12, .mv (.t 0)⟩,
    ⟨none, some 13, .len (.t 12)⟩,
    ⟨none, some 14, .bin .lss (.t 11) (.t 13)⟩]) <|
  .cond (.t 14)
    (.skip)
    (.exit 0)) <|
  .seq (.block 1 (
    .seq (.reg true [
      ⟨none, some 17, .mv (.t 0)⟩,
      ⟨none, some 18, .mv (.t 5)⟩,
      ⟨none, some 19, .ia 2 (.t 17) (.t 18)⟩,
      ⟨none, some 20, .ld true 2 (.t 19)⟩,
      ⟨none, some 21, .mv (.t 1)⟩,
      ⟨none, some 22, .mv (.t 5)⟩,
      ⟨none, some 23, .ia 2 (.t 21) (.t 22)⟩,
      ⟨none, some 24, .ld true 2 (.t 23)⟩,
      ⟨none, some 25, .call 97 [.t 20, .t 24]⟩,
      ⟨none, some 26, .nt (.t 25)⟩]) <|
    .cond (.t 26)
      (.seq (.reg false [
        ⟨none, some 4, .mv (.c (.bool false))⟩]) <|
      .ret)
      (.skip))) <|
  .reg false [
    ⟨none, some 15, .mv (.t 5)⟩,
    ⟨none, some 16, .bin .add (.t 15) (.c (.int .i64 1))⟩,
    ⟨none, some 5, .mv (.t 16)⟩]
def f95L0 : SC := f95L0b
def f95B : SC :=
  .seq (.reg false [
    ⟨none, some 4, .mv (.c (.bool false))⟩]) <|
  .seq (.seq (.reg false [
    ⟨none, some 6, .mv (.t 0)⟩,
    ⟨none, some 7, .len (.t 6)⟩,
    ⟨none, some 8, .mv (.t 1)⟩,
    ⟨none, some 9, .len (.t 8)⟩,
    ⟨none, some 10, .bin .neq (.t 7) (.t 9)⟩]) <|
  .cond (.t 10)
    (.seq (.reg false [
      ⟨none, some 4, .mv (.c (.bool false))⟩]) <|
    .ret)
    (.skip)) <|
  .seq (.seq (.reg false [
    ⟨none, some 5, .mv (.c (.int .i64 0))⟩]) <|
  .block 0 (
    .loop [0, 1, 4, 5] f95L0)) <|
  .seq (.reg false [
    ⟨none, some 4, .mv (.c (.bool true))⟩]) <|
  .ret
def f95S : SFun := ⟨27, [.t 4], .pure, f95B⟩
theorem f95OK : FnOk Go.Proofs.Try.prog 95 f95S := FnOk.of (ks := [[0, 1, 4, 5]]) (cs := [[[], [], [0, 1], [2, 0, 1], [], [], [4, 5], [6, 4, 5], [3, 2, 0, 1, 7, 6, 4, 5], [8, 3, 2, 0, 1, 7, 6, 4, 5]]]) (by kernel_rfl)

/-- loop.example/g00190/laws.eqColor -/
def f96B : SC :=
  .seq (.reg false [
    ⟨none, some 2, .bx (.t 0)⟩,
    ⟨none, some 3, .bx (.t 1)⟩,
    ⟨none, some 4, .mv (.c (.bool false))⟩]) <|
  .seq (.seq (.reg false [
    ⟨none, some 5, .fa 0 (.t 2)⟩,
    ⟨none, some 6, .ld false 1 (.t 5)⟩,
    ⟨none, some 7, .fa 0 (.t 3)⟩,
    ⟨none, some 8, .ld false 1 (.t 7)⟩,
    ⟨none, some 9, .bin .neq (.t 6) (.t 8)⟩]) <|
  .cond (.t 9)
    (.seq (.reg false [
      ⟨none, some 4, .mv (.c (.bool false))⟩]) <|
    .ret)
    (.skip)) <|
  .seq (.seq (.reg false [
    ⟨none, some 10, .fa 1 (.t 2)⟩,
    ⟨none, some 11, .ld false 1 (.t 10)⟩,
    ⟨none, some 12, .fa 1 (.t 3)⟩,
    ⟨none, some 13, .ld false 1 (.t 12)⟩,
    ⟨none, some 14, .bin .neq (.t 11) (.t 13)⟩]) <|
  .cond (.t 14)
    (.seq (.reg false [
      ⟨none, some 4, .mv (.c (.bool false))⟩]) <|
    .ret)
    (.skip)) <|
  .seq (.seq (.reg false [
    ⟨none, some 15, .fa 2 (.t 2)⟩,
    ⟨none, some 16, .ld false 1 (.t 15)⟩,
    ⟨none, some 17, .fa 2 (.t 3)⟩,
    ⟨none, some 18, .ld false 1 (.t 17)⟩,
    ⟨none, some 19, .bin .neq (.t 16) (.t 18)⟩]) <|
  .cond (.t 19)
    (.seq (.reg false [
      ⟨none, some 4, .mv (.c (.bool false))⟩]) <|
    .ret)
    (.skip)) <|
  .seq (.seq (.reg false [
    ⟨none, some 20, .fa 3 (.t 2)⟩,
    ⟨none, some 21, .ld false 1 (.t 20)⟩,
    ⟨none, some 22, .fa 3 (.t 3)⟩,
    ⟨none, some 23, .ld false 1 (.t 22)⟩,
    ⟨none, some 24, .bin .neq (.t 21) (.t 23)⟩]) <|
  .cond (.t 24)
    (.seq (.reg false [
      ⟨none, some 4, .mv (.c (.bool false))⟩]) <|
    .ret)
    (.skip)) <|
  .seq (.reg false [
    ⟨none, some 4, .mv (.c (.bool true))⟩]) <|
  .ret
def f96S : SFun := ⟨25, [.t 4], .pure, f96B⟩
theorem f96OK : FnOk Go.Proofs.Try.prog 96 f96S := FnOk.of (ks := []) (cs := []) (by kernel_rfl)

/-- loop.example/g00190/laws.eqPoint -/
def f97B : SC :=
  .seq (.reg false [
    ⟨none, some 2, .bx (.t 0)⟩,
    ⟨none, some 3, .bx (.t 1)⟩,
    ⟨none, some 4, .mv (.c (.bool false))⟩]) <|
  .seq (.seq (.reg false [
    ⟨none, some 5, .fa 0 (.t 2)⟩,
    ⟨none, some 6, .ld false 1 (.t 5)⟩,
    ⟨none, some 7, .fa 0 (.t 3)⟩,
    ⟨none, some 8, .ld false 1 (.t 7)⟩,
    ⟨none, some 9, .bin .neq (.t 6) (.t 8)⟩]) <|
  .cond (.t 9)
    (.seq (.reg false [
      ⟨none, some 4, .mv (.c (.bool false))⟩]) <|
    .ret)
    (.skip)) <|
  .seq (.seq (.reg false [
    ⟨none, some 10, .fa 1 (.t 2)⟩,
    ⟨none, some 11, .ld false 1 (.t 10)⟩,
    ⟨none, some 12, .fa 1 (.t 3)⟩,
    ⟨none, some 13, .ld false 1 (.t 12)⟩,
    ⟨none, some 14, .bin .neq (.t 11) (.t 13)⟩]) <|
  .cond (.t 14)
    (.seq (.reg false [
      ⟨none, some 4, .mv (.c (.bool false))⟩]) <|
    .ret)
    (.skip)) <|
  .seq (.reg false [
    ⟨none, some 4, .mv (.c (.bool true))⟩]) <|
  .ret
def f97S : SFun := ⟨15, [.t 4], .pure, f97B⟩
theorem f97OK : FnOk Go.Proofs.Try.prog 97 f97S := FnOk.of (ks := []) (cs := []) (by kernel_rfl)

end Go.Proofs.Ytnehpfaafgnnpaa
