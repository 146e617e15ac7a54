/- Readings of functions (printed by wip/gen). -/
import Derived.Test.YtnehpfaafgnnpaaProg
import Derived.Test.YtnehpfaafgnnpaaMG
set_option linter.unusedSimpArgs false
set_option linter.unusedVariables false
set_option linter.unnecessarySimpa false
namespace Go.Proofs.Ytnehpfaafgnnpaa
open Go.AM

/-- loop.example/g00190/laws.markNodeS -/
def f29L0b : SC :=
  .seq (.seq (.reg false [
    ⟨none, some 6, .mv (.t 5)⟩,
    ⟨none, some 7, .mv (.t 0)⟩,
    ⟨none, some 8, .len (.t 7)⟩,
    ⟨none, some 9, .bin .lss (.t 6) (.t 8)⟩]) <|
  .cond (.t 9)
    (.skip)
    (.exit 0)) <|
  .seq (.block 1 (
    .seq (.reg false [
      ⟨none, some 12, .mv (.t 0)⟩,
      ⟨none, some 13, .mv (.t 5)⟩,
      ⟨none, some 14, .mv (.t 1)⟩,
      ⟨none, some 15, .ia 31 (.t 12) (.t 13)⟩,
      ⟨none, some 16, .fa 0 (.t 15)⟩,
      ⟨none, none, .st 1 (.t 16) (.t 14)⟩]) <|
    .seq (.reg false [
      ⟨none, some 17, .mv (.t 1)⟩,
      ⟨none, some 18, .bin .add (.t 17) (.c (.int .i64 1))⟩,
      ⟨none, some 1, .mv (.t 18)⟩]) <|
    .seq (.reg false [
      ⟨none, some 19, .mv (.t 0)⟩,
      ⟨none, some 20, .mv (.t 5)⟩,
      ⟨none, some 21, .mv (.t 1)⟩,
      ⟨none, some 22, .ia 31 (.t 19) (.t 20)⟩,
      ⟨none, some 23, .fa 1 (.t 22)⟩,
      ⟨none, none, .st 1 (.t 23) (.t 21)⟩]) <|
    .seq (.reg false [
      ⟨none, some 24, .mv (.t 1)⟩,
      ⟨none, some 25, .bin .add (.t 24) (.c (.int .i64 1))⟩,
      ⟨none, some 1, .mv (.t 25)⟩]) <|
    .seq (.reg false [
      ⟨none, some 26, .mv (.t 0)⟩,
      ⟨none, some 27, .mv (.t 5)⟩,
      ⟨none, some 28, .mv (.t 1)⟩,
      ⟨none, some 29, .bin .rem (.t 28) (.c (.int .i64 3))⟩,
      ⟨none, some 30, .bin .eql (.t 29) (.c (.int .i64 0))⟩,
      ⟨none, some 31, .ia 31 (.t 26) (.t 27)⟩,
      ⟨none, some 32, .fa 2 (.t 31)⟩,
      ⟨none, none, .st 1 (.t 32) (.t 30)⟩]) <|
    .seq (.reg false [
      ⟨none, some 33, .mv (.t 1)⟩,
      ⟨none, some 34, .bin .add (.t 33) (.c (.int .i64 1))⟩,
      ⟨none, some 1, .mv (.t 34)⟩]) <|
    .seq (.reg false [
      ⟨none, some 35, .mv (.t 0)⟩,
      ⟨none, some 36, .mv (.t 5)⟩,
      ⟨none, some 37, .mv (.t 1)⟩,
      ⟨none, some 38, .ia 31 (.t 35) (.t 36)⟩,
      ⟨none, some 39, .fa 3 (.t 38)⟩,
      ⟨none, some 40, .fa 0 (.t 39)⟩,
      ⟨none, none, .st 1 (.t 40) (.t 37)⟩]) <|
    .seq (.reg false [
      ⟨none, some 41, .mv (.t 1)⟩,
      ⟨none, some 42, .bin .add (.t 41) (.c (.int .i64 1))⟩,
      ⟨none, some 1, .mv (.t 42)⟩]) <|
    .seq (.reg false [
      ⟨none, some 43, .mv (.t 0)⟩,
      ⟨none, some 44, .mv (.t 5)⟩,
      ⟨none, some 45, .mv (.t 1)⟩,
      ⟨none, some 46, .ia 31 (.t 43) (.t 44)⟩,
      ⟨none, some 47, .fa 3 (.t 46)⟩,
      ⟨none, some 48, .fa 1 (.t 47)⟩,
      ⟨none, none, .st 1 (.t 48) (.t 45)⟩]) <|
    .seq (.reg false [
      ⟨none, some 49, .mv (.t 1)⟩,
      ⟨none, some 50, .bin .add (.t 49) (.c (.int .i64 1))⟩,
      ⟨none, some 1, .mv (.t 50)⟩]) <|
    .seq (.reg false [
      ⟨none, some 51, .mv (.t 0)⟩,
      ⟨none, some 52, .mv (.t 5)⟩,
      ⟨none, some 53, .mv (.t 1)⟩,
      ⟨none, some 54, .ia 31 (.t 51) (.t 52)⟩,
      ⟨none, some 55, .fa 3 (.t 54)⟩,
      ⟨none, some 56, .fa 2 (.t 55)⟩,
      ⟨none, none, .st 1 (.t 56) (.t 53)⟩]) <|
    .seq (.reg false [
      ⟨none, some 57, .mv (.t 1)⟩,
      ⟨none, some 58, .bin .add (.t 57) (.c (.int .i64 1))⟩,
      ⟨none, some 1, .mv (.t 58)⟩]) <|
    .seq (.reg false [
      ⟨none, some 59, .mv (.t 0)⟩,
      ⟨none, some 60, .mv (.t 5)⟩,
      ⟨none, some 61, .mv (.t 1)⟩,
      ⟨none, some 62, .ia 31 (.t 59) (.t 60)⟩,
      ⟨none, some 63, .fa 3 (.t 62)⟩,
      ⟨none, some 64, .fa 3 (.t 63)⟩,
      ⟨none, none, .st 1 (.t 64) (.t 61)⟩]) <|
    .seq (.reg false [
      ⟨none, some 65, .mv (.t 1)⟩,
      ⟨none, some 66, .bin .add (.t 65) (.c (.int .i64 1))⟩,
      ⟨none, some 1, .mv (.t 66)⟩]) <|
    .seq (.reg false [
      ⟨none, some 67, .mv (.t 0)⟩,
      ⟨none, some 68, .mv (.t 5)⟩,
      ⟨none, some 69, .mv (.t 1)⟩,
      ⟨none, some 70, .ia 31 (.t 67) (.t 68)⟩,
      ⟨none, some 71, .fa 3 (.t 70)⟩,
      ⟨none, some 72, .fa 4 (.t 71)⟩,
      ⟨none, none, .st 1 (.t 72) (.t 69)⟩]) <|
    .seq (.reg false [
      ⟨none, some 73, .mv (.t 1)⟩,
      ⟨none, some 74, .bin .add (.t 73) (.c (.int .i64 1))⟩,
      ⟨none, some 1, .mv (.t 74)⟩]) <|
    .seq (.reg false [
      ⟨none, some 75, .mv (.t 0)⟩,
      ⟨none, some 76, .mv (.t 5)⟩,
      ⟨none, some 77, .mv (.t 1)⟩,
      ⟨none, some 78, .ia 31 (.t 75) (.t 76)⟩,
      ⟨none, some 79, .fa 3 (.t 78)⟩,
      ⟨none, some 80, .fa 5 (.t 79)⟩,
      ⟨none, none, .st 1 (.t 80) (.t 77)⟩]) <|
    .seq (.reg false [
      ⟨none, some 81, .mv (.t 1)⟩,
      ⟨none, some 82, .bin .add (.t 81) (.c (.int .i64 1))⟩,
      ⟨none, some 1, .mv (.t 82)⟩]) <|
    .seq (.reg false [
      ⟨none, some 83, .mv (.t 0)⟩,
      ⟨none, some 84, .mv (.t 5)⟩,
      ⟨none, some 85, .ia 31 (.t 83) (.t 84)⟩,
      ⟨none, some 86, .fa 9 (.t 85)⟩,
      ⟨none, some 87, .fa 0 (.t 86)⟩,
      ⟨none, some 88, .ld false 1 (.t 87)⟩,
      ⟨none, some 89, .mv (.t 1)⟩,
      ⟨none, some 90, .call 50 [.t 88, .t 89]⟩,
      ⟨none, some 1, .mv (.t 90)⟩]) <|
    .seq (.reg false [
      ⟨none, some 91, .mv (.t 0)⟩,
      ⟨none, some 92, .mv (.t 5)⟩,
      ⟨none, some 93, .ia 31 (.t 91) (.t 92)⟩,
      ⟨none, some 94, .fa 9 (.t 93)⟩,
      ⟨none, some 95, .fa 1 (.t 94)⟩,
      ⟨none, some 96, .ld false 1 (.t 95)⟩,
      ⟨none, some 97, .mv (.t 1)⟩,
      ⟨none, some 98, .call 51 [.t 96, .t 97]⟩,
      ⟨none, some 1, .mv (.t 98)⟩]) <|
    .seq (.reg false [
      ⟨none, some 99, .mv (.t 0)⟩,
      ⟨none, some 100, .mv (.t 5)⟩,
      ⟨none, some 101, .mv (.t 1)⟩,
      ⟨none, some 102, .bin .rem (.t 101) (.c (.int .i64 3))⟩,
      ⟨none, some 103, .bin .eql (.t 102) (.c (.int .i64 0))⟩,
      ⟨none, some 104, .ia 31 (.t 99) (.t 100)⟩,
      ⟨none, some 105, .fa 11 (.t 104)⟩,
      ⟨none, none, .st 1 (.t 105) (.t 103)⟩]) <|
    .seq (.reg false [
      ⟨none, some 106, .mv (.t 1)⟩,
      ⟨none, some 107, .bin .add (.t 106) (.c (.int .i64 1))⟩,
      ⟨none, some 1, .mv (.t 107)⟩]) <|
    .seq (.reg false [
      ⟨none, some 108, .mv (.t 0)⟩,
      ⟨none, some 109, .mv (.t 5)⟩,
      ⟨none, some 110, .mv (.t 1)⟩,
      ⟨none, some 111, .ia 31 (.t 108) (.t 109)⟩,
      ⟨none, some 112, .fa 12 (.t 111)⟩,
      ⟨none, none, .st 1 (.t 112) (.t 110)⟩]) <|
    .seq (.reg false [
      ⟨none, some 113, .mv (.t 1)⟩,
      ⟨none, some 114, .bin .add (.t 113) (.c (.int .i64 1))⟩,
      ⟨none, some 1, .mv (.t 114)⟩]) <|
    .seq (.reg false [
      ⟨none, some 115, .mv (.t 0)⟩,
      ⟨none, some 116, .mv (.t 5)⟩,
      ⟨none, some 117, .ia 31 (.t 115) (.t 116)⟩,
      ⟨none, some 118, .fa 13 (.t 117)⟩,
      ⟨none, some 119, .ld false 1 (.t 118)⟩,
      ⟨none, some 120, .mv (.t 1)⟩,
      ⟨none, some 121, .call 50 [.t 119, .t 120]⟩,
      ⟨none, some 1, .mv (.t 121)⟩]) <|
    .seq (.reg false [
      ⟨none, some 122, .mv (.t 0)⟩,
      ⟨none, some 123, .mv (.t 5)⟩,
      ⟨none, some 124, .mv (.t 1)⟩,
      ⟨none, some 125, .ia 31 (.t 122) (.t 123)⟩,
      ⟨none, some 126, .fa 14 (.t 125)⟩,
      ⟨none, some 127, .fa 0 (.t 126)⟩,
      ⟨none, none, .st 1 (.t 127) (.t 124)⟩]) <|
    .seq (.reg false [
      ⟨none, some 128, .mv (.t 1)⟩,
      ⟨none, some 129, .bin .add (.t 128) (.c (.int .i64 1))⟩,
      ⟨none, some 1, .mv (.t 129)⟩]) <|
    .seq (.reg false [
      ⟨none, some 130, .mv (.t 0)⟩,
      ⟨none, some 131, .mv (.t 5)⟩,
      ⟨none, some 132, .mv (.t 1)⟩,
      ⟨none, some 133, .ia 31 (.t 130) (.t 131)⟩,
      ⟨none, some 134, .fa 14 (.t 133)⟩,
      ⟨none, some 135, .fa 1 (.t 134)⟩,
      ⟨none, some 136, .fa 0 (.t 135)⟩,
      ⟨none, none, .st 1 (.t 136) (.t 132)⟩]) <|
    .seq (.reg false [
      ⟨none, some 137, .mv (.t 1)⟩,
      ⟨none, some 138, .bin .add (.t 137) (.c (.int .i64 1))⟩,
      ⟨none, some 1, .mv (.t 138)⟩]) <|
    .seq (.reg false [
      ⟨none, some 139, .mv (.t 0)⟩,
      ⟨none, some 140, .mv (.t 5)⟩,
      ⟨none, some 141, .mv (.t 1)⟩,
      ⟨none, some 142, .ia 31 (.t 139) (.t 140)⟩,
      ⟨none, some 143, .fa 14 (.t 142)⟩,
      ⟨none, some 144, .fa 1 (.t 143)⟩,
      ⟨none, some 145, .fa 1 (.t 144)⟩,
      ⟨none, none, .st 1 (.t 145) (.t 141)⟩]) <|
    .seq (.reg false [
      ⟨none, some 146, .mv (.t 1)⟩,
      ⟨none, some 147, .bin .add (.t 146) (.c (.int .i64 1))⟩,
      ⟨none, some 1, .mv (.t 147)⟩]) <|
    .seq (.reg false [
      ⟨none, some 148, .mv (.t 0)⟩,
      ⟨none, some 149, .mv (.t 5)⟩,
      ⟨none, some 150, .mv (.t 1)⟩,
      ⟨none, some 151, .ia 31 (.t 148) (.t 149)⟩,
      ⟨none, some 152, .fa 14 (.t 151)⟩,
      ⟨none, some 153, .fa 1 (.t 152)⟩,
      ⟨none, some 154, .fa 2 (.t 153)⟩,
      ⟨none, none, .st 1 (.t 154) (.t 150)⟩]) <|
    .seq (.reg false [
      ⟨none, some 155, .mv (.t 1)⟩,
      ⟨none, some 156, .bin .add (.t 155) (.c (.int .i64 1))⟩,
      ⟨none, some 1, .mv (.t 156)⟩]) <|
    .seq (.reg false [
      ⟨none, some 157, .mv (.t 0)⟩,
      ⟨none, some 158, .mv (.t 5)⟩,
      ⟨none, some 159, .mv (.t 1)⟩,
      ⟨none, some 160, .ia 31 (.t 157) (.t 158)⟩,
      ⟨none, some 161, .fa 14 (.t 160)⟩,
      ⟨none, some 162, .fa 1 (.t 161)⟩,
      ⟨none, some 163, .fa 3 (.t 162)⟩,
      ⟨none, none, .st 1 (.t 163) (.t 159)⟩]) <|
    .seq (.reg false [
      ⟨none, some 164, .mv (.t 1)⟩,
      ⟨none, some 165, .bin .add (.t 164) (.c (.int .i64 1))⟩,
      ⟨none, some 1, .mv (.t 165)⟩]) <|
    .seq (.reg false [
      ⟨none, some 166, .mv (.t 0)⟩,
      ⟨none, some 167, .mv (.t 5)⟩,
      ⟨none, some 168, .mv (.t 1)⟩,
      ⟨none, some 169, .ia 31 (.t 166) (.t 167)⟩,
      ⟨none, some 170, .fa 14 (.t 169)⟩,
      ⟨none, some 171, .fa 5 (.t 170)⟩,
      ⟨none, some 172, .fa 0 (.t 171)⟩,
      ⟨none, none, .st 1 (.t 172) (.t 168)⟩]) <|
    .seq (.reg false [
      ⟨none, some 173, .mv (.t 1)⟩,
      ⟨none, some 174, .bin .add (.t 173) (.c (.int .i64 1))⟩,
      ⟨none, some 1, .mv (.t 174)⟩]) <|
    .seq (.reg false [
      ⟨none, some 175, .mv (.t 0)⟩,
      ⟨none, some 176, .mv (.t 5)⟩,
      ⟨none, some 177, .mv (.t 1)⟩,
      ⟨none, some 178, .ia 31 (.t 175) (.t 176)⟩,
      ⟨none, some 179, .fa 14 (.t 178)⟩,
      ⟨none, some 180, .fa 5 (.t 179)⟩,
      ⟨none, some 181, .fa 1 (.t 180)⟩,
      ⟨none, none, .st 1 (.t 181) (.t 177)⟩]) <|
    .seq (.reg false [
      ⟨none, some 182, .mv (.t 1)⟩,
      ⟨none, some 183, .bin .add (.t 182) (.c (.int .i64 1))⟩,
      ⟨none, some 1, .mv (.t 183)⟩]) <|
    .seq (.reg false [
      ⟨none, some 184, .mv (.t 0)⟩,
      ⟨none, some 185, .mv (.t 5)⟩,
      ⟨none, some 186, .mv (.t 1)⟩,
      ⟨none, some 187, .ia 31 (.t 184) (.t 185)⟩,
      ⟨none, some 188, .fa 14 (.t 187)⟩,
      ⟨none, some 189, .fa 5 (.t 188)⟩,
      ⟨none, some 190, .fa 2 (.t 189)⟩,
      ⟨none, none, .st 1 (.t 190) (.t 186)⟩]) <|
    .seq (.reg false [
      ⟨none, some 191, .mv (.t 1)⟩,
      ⟨none, some 192, .bin .add (.t 191) (.c (.int .i64 1))⟩,
      ⟨none, some 1, .mv (.t 192)⟩]) <|
    .seq (.reg false [
      ⟨none, some 193, .mv (.t 0)⟩,
      ⟨none, some 194, .mv (.t 5)⟩,
      ⟨none, some 195, .mv (.t 1)⟩,
      ⟨none, some 196, .ia 31 (.t 193) (.t 194)⟩,
      ⟨none, some 197, .fa 14 (.t 196)⟩,
      ⟨none, some 198, .fa 5 (.t 197)⟩,
      ⟨none, some 199, .fa 3 (.t 198)⟩,
      ⟨none, none, .st 1 (.t 199) (.t 195)⟩]) <|
    .seq (.reg false [
      ⟨none, some 200, .mv (.t 1)⟩,
      ⟨none, some 201, .bin .add (.t 200) (.c (.int .i64 1))⟩,
      ⟨none, some 1, .mv (.t 201)⟩]) <|
    .seq (.reg false [
      ⟨none, some 202, .mv (.t 0)⟩,
      ⟨none, some 203, .mv (.t 5)⟩,
      ⟨none, some 204, .mv (.t 1)⟩,
      ⟨none, some 205, .ia 31 (.t 202) (.t 203)⟩,
      ⟨none, some 206, .fa 14 (.t 205)⟩,
      ⟨none, some 207, .fa 9 (.t 206)⟩,
      ⟨none, some 208, .fa 0 (.t 207)⟩,
      ⟨none, none, .st 1 (.t 208) (.t 204)⟩]) <|
    .seq (.reg false [
      ⟨none, some 209, .mv (.t 1)⟩,
      ⟨none, some 210, .bin .add (.t 209) (.c (.int .i64 1))⟩,
      ⟨none, some 1, .mv (.t 210)⟩]) <|
    .seq (.reg false [
      ⟨none, some 211, .mv (.t 0)⟩,
      ⟨none, some 212, .mv (.t 5)⟩,
      ⟨none, some 213, .mv (.t 1)⟩,
      ⟨none, some 214, .ia 31 (.t 211) (.t 212)⟩,
      ⟨none, some 215, .fa 14 (.t 214)⟩,
      ⟨none, some 216, .fa 9 (.t 215)⟩,
      ⟨none, some 217, .fa 1 (.t 216)⟩,
      ⟨none, none, .st 1 (.t 217) (.t 213)⟩]) <|
    .seq (.reg false [
      ⟨none, some 218, .mv (.t 1)⟩,
      ⟨none, some 219, .bin .add (.t 218) (.c (.int .i64 1))⟩,
      ⟨none, some 1, .mv (.t 219)⟩]) <|
    .seq (.reg false [
      ⟨none, some 220, .mv (.t 0)⟩,
      ⟨none, some 221, .mv (.t 5)⟩,
      ⟨none, some 222, .mv (.t 1)⟩,
      ⟨none, some 223, .ia 31 (.t 220) (.t 221)⟩,
      ⟨none, some 224, .fa 14 (.t 223)⟩,
      ⟨none, some 225, .fa 11 (.t 224)⟩,
      ⟨none, some 226, .fa 0 (.t 225)⟩,
      ⟨none, none, .st 1 (.t 226) (.t 222)⟩]) <|
    .seq (.reg false [
      ⟨none, some 227, .mv (.t 1)⟩,
      ⟨none, some 228, .bin .add (.t 227) (.c (.int .i64 1))⟩,
      ⟨none, some 1, .mv (.t 228)⟩]) <|
    .seq (.reg false [
      ⟨none, some 229, .mv (.t 0)⟩,
      ⟨none, some 230, .mv (.t 5)⟩,
      ⟨none, some 231, .mv (.t 1)⟩,
      ⟨none, some 232, .ia 31 (.t 229) (.t 230)⟩,
      ⟨none, some 233, .fa 14 (.t 232)⟩,
      ⟨none, some 234, .fa 11 (.t 233)⟩,
      ⟨none, some 235, .fa 1 (.t 234)⟩,
      ⟨none, none, .st 1 (.t 235) (.t 231)⟩]) <|
    .seq (.reg false [
      ⟨none, some 236, .mv (.t 1)⟩,
      ⟨none, some 237, .bin .add (.t 236) (.c (.int .i64 1))⟩,
      ⟨none, some 1, .mv (.t 237)⟩]) <|
    .seq (.reg false [
      ⟨none, some 238, .mv (.t 0)⟩,
      ⟨none, some 239, .mv (.t 5)⟩,
      ⟨none, some 240, .mv (.t 1)⟩,
      ⟨none, some 241, .ia 31 (.t 238) (.t 239)⟩,
      ⟨none, some 242, .fa 27 (.t 241)⟩,
      ⟨none, none, .st 1 (.t 242) (.t 240)⟩]) <|
    .seq (.reg false [
      ⟨none, some 243, .mv (.t 1)⟩,
      ⟨none, some 244, .bin .add (.t 243) (.c (.int .i64 1))⟩,
      ⟨none, some 1, .mv (.t 244)⟩]) <|
    .seq (.reg false [
      ⟨none, some 245, .mv (.t 0)⟩,
      ⟨none, some 246, .mv (.t 5)⟩,
      ⟨none, some 247, .mv (.t 1)⟩,
      ⟨none, some 248, .ia 31 (.t 245) (.t 246)⟩,
      ⟨none, some 249, .fa 28 (.t 248)⟩,
      ⟨none, none, .st 1 (.t 249) (.t 247)⟩]) <|
    .seq (.reg false [
      ⟨none, some 250, .mv (.t 1)⟩,
      ⟨none, some 251, .bin .add (.t 250) (.c (.int .i64 1))⟩,
      ⟨none, some 1, .mv (.t 251)⟩]) <|
    .seq (.reg false [
      ⟨none, some 252, .mv (.t 0)⟩,
      ⟨none, some 253, .mv (.t 5)⟩,
      ⟨none, some 254, .ia 31 (.t 252) (.t 253)⟩,
      ⟨none, some 255, .fa 29 (.t 254)⟩,
      ⟨none, some 256, .fa 0 (.t 255)⟩,
      ⟨none, some 257, .ld false 1 (.t 256)⟩,
      ⟨none, some 258, .mv (.t 1)⟩,
      ⟨none, some 259, .call 50 [.t 257, .t 258]⟩,
      ⟨none, some 1, .mv (.t 259)⟩]) <|
    .reg false [
      ⟨none, some 260, .mv (.t 0)⟩,
      ⟨none, some 261, .mv (.t 5)⟩,
      ⟨none, some 262, .ia 31 (.t 260) (.t 261)⟩,
      ⟨none, some 263, .fa 29 (.t 262)⟩,
      ⟨none, some 264, .fa 1 (.t 263)⟩,
      ⟨none, some 265, .ld false 1 (.t 264)⟩,
      ⟨none, some 266, .mv (.t 1)⟩,
      ⟨none, some 267, .call 51 [.t 265, .t 266]⟩,
      ⟨none, some 1, .mv (.t 267)⟩])) <|
  .reg false [
    ⟨none, some 10, .mv (.t 5)⟩,
    ⟨none, some 11, .bin .add (.t 10) (.c (.int .i64 1))⟩,
    ⟨none, some 5, .mv (.t 11)⟩]
def f29L0 : SC := f29L0b
def f29B : SC :=
  .seq (.reg false [
    ⟨none, some 4, .mv (.c (.int .i64 0))⟩]) <|
  .seq (.seq (.reg false [
    ⟨none, some 5, .mv (.c (.int .i64 0))⟩]) <|
  .block 0 (
    .loop [0, 1, 5] f29L0)) <|
  .seq (.reg false [
    ⟨none, some 268, .mv (.t 1)⟩,
    ⟨none, some 4, .mv (.t 268)⟩]) <|
  .ret
def f29S : SFun := ⟨269, [.t 4], .full, f29B⟩
theorem f29OK : FnOk Go.Proofs.Try.prog 29 f29S := FnOk.of (ks := [[0, 1, 5]]) (cs := []) (by kernel_rfl)

/-- loop.example/g00190/laws.heldNodeS -/
def f30L0b : SC :=
  .seq (.seq (.reg false [
    ⟨none, some 6, .mv (.t 5)⟩,
    ⟨none, some 7, .mv (.t 0)⟩,
    ⟨none, some 8, .len (.t 7)⟩,
    ⟨none, some 9, .bin .lss (.t 6) (.t 8)⟩]) <|
  .cond (.t 9)
    (.skip)
    (.exit 0)) <|
  .seq (.block 1 (
    .seq (.seq (.reg false [
      ⟨none, some 12, .mv (.t 0)⟩,
      ⟨none, some 13, .mv (.t 5)⟩,
      ⟨none, some 14, .ia 31 (.t 12) (.t 13)⟩,
      ⟨none, some 15, .fa 0 (.t 14)⟩,
      ⟨none, some 16, .ld false 1 (.t 15)⟩,
      ⟨none, some 17, .mv (.t 1)⟩,
      ⟨none, some 18, .bin .neq (.t 16) (.t 17)⟩]) <|
    .cond (.t 18)
      (.seq (.reg false [
        ⟨none, some 4, .mv (.c (.int .i64 (-1)))⟩]) <|
      .ret)
      (.skip)) <|
    .seq (.reg false [
      ⟨none, some 19, .mv (.t 1)⟩,
      ⟨none, some 20, .bin .add (.t 19) (.c (.int .i64 1))⟩,
      ⟨none, some 1, .mv (.t 20)⟩]) <|
    .seq (.seq (.reg false [
      ⟨none, some 21, .mv (.t 0)⟩,
      ⟨none, some 22, .mv (.t 5)⟩,
      ⟨none, some 23, .ia 31 (.t 21) (.t 22)⟩,
      ⟨none, some 24, .fa 1 (.t 23)⟩,
      ⟨none, some 25, .ld false 1 (.t 24)⟩,
      ⟨none, some 26, .mv (.t 1)⟩,
      ⟨none, some 27, .bin .neq (.t 25) (.t 26)⟩]) <|
    .cond (.t 27)
      (.seq (.reg false [
        ⟨none, some 4, .mv (.c (.int .i64 (-1)))⟩]) <|
      .ret)
      (.skip)) <|
    .seq (.reg false [
      ⟨none, some 28, .mv (.t 1)⟩,
      ⟨none, some 29, .bin .add (.t 28) (.c (.int .i64 1))⟩,
      ⟨none, some 1, .mv (.t 29)⟩]) <|
    .seq (.seq (.reg false [
      ⟨none, some 30, .mv (.t 0)⟩,
      ⟨none, some 31, .mv (.t 5)⟩,
      ⟨none, some 32, .ia 31 (.t 30) (.t 31)⟩,
      ⟨none, some 33, .fa 2 (.t 32)⟩,
      ⟨none, some 34, .ld false 1 (.t 33)⟩,
      ⟨none, some 35, .mv (.t 1)⟩,
      ⟨none, some 36, .bin .rem (.t 35) (.c (.int .i64 3))⟩,
      ⟨none, some 37, .bin .eql (.t 36) (.c (.int .i64 0))⟩,
      ⟨none, some 38, .beq true (.t 34) (.t 37)⟩]) <|
    .cond (.t 38)
      (.seq (.reg false [
        ⟨none, some 4, .mv (.c (.int .i64 (-1)))⟩]) <|
      .ret)
      (.skip)) <|
    .seq (.reg false [
      ⟨none, some 39, .mv (.t 1)⟩,
      ⟨none, some 40, .bin .add (.t 39) (.c (.int .i64 1))⟩,
      ⟨none, some 1, .mv (.t 40)⟩]) <|
    .seq (.seq (.reg false [
      ⟨none, some 41, .mv (.t 0)⟩,
      ⟨none, some 42, .mv (.t 5)⟩,
      ⟨none, some 43, .ia 31 (.t 41) (.t 42)⟩,
      ⟨none, some 44, .fa 3 (.t 43)⟩,
      ⟨none, some 45, .fa 0 (.t 44)⟩,
      ⟨none, some 46, .ld false 1 (.t 45)⟩,
      ⟨none, some 47, .mv (.t 1)⟩,
      ⟨none, some 48, .bin .neq (.t 46) (.t 47)⟩]) <|
    .cond (.t 48)
      (.seq (.reg false [
        ⟨none, some 4, .mv (.c (.int .i64 (-1)))⟩]) <|
      .ret)
      (.skip)) <|
    .seq (.reg false [
      ⟨none, some 49, .mv (.t 1)⟩,
      ⟨none, some 50, .bin .add (.t 49) (.c (.int .i64 1))⟩,
      ⟨none, some 1, .mv (.t 50)⟩]) <|
    .seq (.seq (.reg false [
      ⟨none, some 51, .mv (.t 0)⟩,
      ⟨none, some 52, .mv (.t 5)⟩,
      ⟨none, some 53, .ia 31 (.t 51) (.t 52)⟩,
      ⟨none, some 54, .fa 3 (.t 53)⟩,
      ⟨none, some 55, .fa 1 (.t 54)⟩,
      ⟨none, some 56, .ld false 1 (.t 55)⟩,
      ⟨none, some 57, .mv (.t 1)⟩,
      ⟨none, some 58, .bin .neq (.t 56) (.t 57)⟩]) <|
    .cond (.t 58)
      (.seq (.reg false [
        ⟨none, some 4, .mv (.c (.int .i64 (-1)))⟩]) <|
      .ret)
      (.skip)) <|
    .seq (.reg false [
      ⟨none, some 59, .mv (.t 1)⟩,
      ⟨none, some 60, .bin .add (.t 59) (.c (.int .i64 1))⟩,
      ⟨none, some 1, .mv (.t 60)⟩]) <|
    .seq (.seq (.reg false [
      ⟨none, some 61, .mv (.t 0)⟩,
      ⟨none, some 62, .mv (.t 5)⟩,
      ⟨none, some 63, .ia 31 (.t 61) (.t 62)⟩,
      ⟨none, some 64, .fa 3 (.t 63)⟩,
      ⟨none, some 65, .fa 2 (.t 64)⟩,
      ⟨none, some 66, .ld false 1 (.t 65)⟩,
      ⟨none, some 67, .mv (.t 1)⟩,
      ⟨none, some 68, .bin .neq (.t 66) (.t 67)⟩]) <|
    .cond (.t 68)
      (.seq (.reg false [
        ⟨none, some 4, .mv (.c (.int .i64 (-1)))⟩]) <|
      .ret)
      (.skip)) <|
    .seq (.reg false [
      ⟨none, some 69, .mv (.t 1)⟩,
      ⟨none, some 70, .bin .add (.t 69) (.c (.int .i64 1))⟩,
      ⟨none, some 1, .mv (.t 70)⟩]) <|
    .seq (.seq (.reg false [
      ⟨none, some 71, .mv (.t 0)⟩,
      ⟨none, some 72, .mv (.t 5)⟩,
      ⟨none, some 73, .ia 31 (.t 71) (.t 72)⟩,
      ⟨none, some 74, .fa 3 (.t 73)⟩,
      ⟨none, some 75, .fa 3 (.t 74)⟩,
      ⟨none, some 76, .ld false 1 (.t 75)⟩,
      ⟨none, some 77, .mv (.t 1)⟩,
      ⟨none, some 78, .bin .neq (.t 76) (.t 77)⟩]) <|
    .cond (.t 78)
      (.seq (.reg false [
        ⟨none, some 4, .mv (.c (.int .i64 (-1)))⟩]) <|
      .ret)
      (.skip)) <|
    .seq (.reg false [
      ⟨none, some 79, .mv (.t 1)⟩,
      ⟨none, some 80, .bin .add (.t 79) (.c (.int .i64 1))⟩,
      ⟨none, some 1, .mv (.t 80)⟩]) <|
    .seq (.seq (.reg false [
      ⟨none, some 81, .mv (.t 0)⟩,
      ⟨none, some 82, .mv (.t 5)⟩,
      ⟨none, some 83, .ia 31 (.t 81) (.t 82)⟩,
      ⟨none, some 84, .fa 3 (.t 83)⟩,
      ⟨none, some 85, .fa 4 (.t 84)⟩,
      ⟨none, some 86, .ld false 1 (.t 85)⟩,
      ⟨none, some 87, .mv (.t 1)⟩,
      ⟨none, some 88, .bin .neq (.t 86) (.t 87)⟩]) <|
    .cond (.t 88)
      (.seq (.reg false [
        ⟨none, some 4, .mv (.c (.int .i64 (-1)))⟩]) <|
      .ret)
      (.skip)) <|
    .seq (.reg false [
      ⟨none, some 89, .mv (.t 1)⟩,
      ⟨none, some 90, .bin .add (.t 89) (.c (.int .i64 1))⟩,
      ⟨none, some 1, .mv (.t 90)⟩]) <|
    .seq (.seq (.reg false [
      ⟨none, some 91, .mv (.t 0)⟩,
      ⟨none, some 92, .mv (.t 5)⟩,
      ⟨none, some 93, .ia 31 (.t 91) (.t 92)⟩,
      ⟨none, some 94, .fa 3 (.t 93)⟩,
      ⟨none, some 95, .fa 5 (.t 94)⟩,
      ⟨none, some 96, .ld false 1 (.t 95)⟩,
      ⟨none, some 97, .mv (.t 1)⟩,
      ⟨none, some 98, .bin .neq (.t 96) (.t 97)⟩]) <|
    .cond (.t 98)
      (.seq (.reg false [
        ⟨none, some 4, .mv (.c (.int .i64 (-1)))⟩]) <|
      .ret)
      (.skip)) <|
    .seq (.reg false [
      ⟨none, some 99, .mv (.t 1)⟩,
      ⟨none, some 100, .bin .add (.t 99) (.c (.int .i64 1))⟩,
      ⟨none, some 1, .mv (.t 100)⟩]) <|
    .seq (.reg false [
      ⟨none, some 101, .mv (.t 0)⟩,
      ⟨none, some 102, .mv (.t 5)⟩,
      ⟨none, some 103, .ia 31 (.t 101) (.t 102)⟩,
      ⟨none, some 104, .fa 9 (.t 103)⟩,
      ⟨none, some 105, .fa 0 (.t 104)⟩,
      ⟨none, some 106, .ld false 1 (.t 105)⟩,
      ⟨none, some 107, .mv (.t 1)⟩,
      ⟨none, some 108, .call 52 [.t 106, .t 107]⟩,
      ⟨none, some 1, .mv (.t 108)⟩]) <|
    .seq (.seq (.reg false [
      ⟨none, some 109, .mv (.t 1)⟩,
      ⟨none, some 110, .bin .lss (.t 109) (.c (.int .i64 0))⟩]) <|
    .cond (.t 110)
      (.seq (.reg false [
        ⟨none, some 4, .mv (.c (.int .i64 (-1)))⟩]) <|
      .ret)
      (.skip)) <|
    .seq (.reg false [
      ⟨none, some 111, .mv (.t 0)⟩,
      ⟨none, some 112, .mv (.t 5)⟩,
      ⟨none, some 113, .ia 31 (.t 111) (.t 112)⟩,
      ⟨none, some 114, .fa 9 (.t 113)⟩,
      ⟨none, some 115, .fa 1 (.t 114)⟩,
      ⟨none, some 116, .ld false 1 (.t 115)⟩,
      ⟨none, some 117, .mv (.t 1)⟩,
      ⟨none, some 118, .call 53 [.t 116, .t 117]⟩,
      ⟨none, some 1, .mv (.t 118)⟩]) <|
    .seq (.seq (.reg false [
      ⟨none, some 119, .mv (.t 1)⟩,
      ⟨none, some 120, .bin .lss (.t 119) (.c (.int .i64 0))⟩]) <|
    .cond (.t 120)
      (.seq (.reg false [
        ⟨none, some 4, .mv (.c (.int .i64 (-1)))⟩]) <|
      .ret)
      (.skip)) <|
    .seq (.seq (.reg false [
      ⟨none, some 121, .mv (.t 0)⟩,
      ⟨none, some 122, .mv (.t 5)⟩,
      ⟨none, some 123, .ia 31 (.t 121) (.t 122)⟩,
      ⟨none, some 124, .fa 11 (.t 123)⟩,
      ⟨none, some 125, .ld false 1 (.t 124)⟩,
      ⟨none, some 126, .mv (.t 1)⟩,
      ⟨none, some 127, .bin .rem (.t 126) (.c (.int .i64 3))⟩,
      ⟨none, some 128, .bin .eql (.t 127) (.c (.int .i64 0))⟩,
      ⟨none, some 129, .beq true (.t 125) (.t 128)⟩]) <|
    .cond (.t 129)
      (.seq (.reg false [
        ⟨none, some 4, .mv (.c (.int .i64 (-1)))⟩]) <|
      .ret)
      (.skip)) <|
    .seq (.reg false [
      ⟨none, some 130, .mv (.t 1)⟩,
      ⟨none, some 131, .bin .add (.t 130) (.c (.int .i64 1))⟩,
      ⟨none, some 1, .mv (.t 131)⟩]) <|
    .seq (.seq (.reg false [
      ⟨none, some 132, .mv (.t 0)⟩,
      ⟨none, some 133, .mv (.t 5)⟩,
      ⟨none, some 134, .ia 31 (.t 132) (.t 133)⟩,
      ⟨none, some 135, .fa 12 (.t 134)⟩,
      ⟨none, some 136, .ld false 1 (.t 135)⟩,
      ⟨none, some 137, .mv (.t 1)⟩,
      ⟨none, some 138, .bin .neq (.t 136) (.t 137)⟩]) <|
    .cond (.t 138)
      (.seq (.reg false [
        ⟨none, some 4, .mv (.c (.int .i64 (-1)))⟩]) <|
      .ret)
      (.skip)) <|
    .seq (.reg false [
      ⟨none, some 139, .mv (.t 1)⟩,
      ⟨none, some 140, .bin .add (.t 139) (.c (.int .i64 1))⟩,
      ⟨none, some 1, .mv (.t 140)⟩]) <|
    .seq (.reg false [
      ⟨none, some 141, .mv (.t 0)⟩,
      ⟨none, some 142, .mv (.t 5)⟩,
      ⟨none, some 143, .ia 31 (.t 141) (.t 142)⟩,
      ⟨none, some 144, .fa 13 (.t 143)⟩,
      ⟨none, some 145, .ld false 1 (.t 144)⟩,
      ⟨none, some 146, .mv (.t 1)⟩,
      ⟨none, some 147, .call 52 [.t 145, .t 146]⟩,
      ⟨none, some 1, .mv (.t 147)⟩]) <|
    .seq (.seq (.reg false [
      ⟨none, some 148, .mv (.t 1)⟩,
      ⟨none, some 149, .bin .lss (.t 148) (.c (.int .i64 0))⟩]) <|
    .cond (.t 149)
      (.seq (.reg false [
        ⟨none, some 4, .mv (.c (.int .i64 (-1)))⟩]) <|
      .ret)
      (.skip)) <|
    .seq (.seq (.reg false [
      ⟨none, some 150, .mv (.t 0)⟩,
      ⟨none, some 151, .mv (.t 5)⟩,
      ⟨none, some 152, .ia 31 (.t 150) (.t 151)⟩,
      ⟨none, some 153, .fa 14 (.t 152)⟩,
      ⟨none, some 154, .fa 0 (.t 153)⟩,
      ⟨none, some 155, .ld false 1 (.t 154)⟩,
      ⟨none, some 156, .mv (.t 1)⟩,
      ⟨none, some 157, .bin .neq (.t 155) (.t 156)⟩]) <|
    .cond (.t 157)
      (.seq (.reg false [
        ⟨none, some 4, .mv (.c (.int .i64 (-1)))⟩]) <|
      .ret)
      (.skip)) <|
    .seq (.reg false [
      ⟨none, some 158, .mv (.t 1)⟩,
      ⟨none, some 159, .bin .add (.t 158) (.c (.int .i64 1))⟩,
      ⟨none, some 1, .mv (.t 159)⟩]) <|
    .seq (.seq (.reg false [
      ⟨none, some 160, .mv (.t 0)⟩,
      ⟨none, some 161, .mv (.t 5)⟩,
      ⟨none, some 162, .ia 31 (.t 160) (.t 161)⟩,
      ⟨none, some 163, .fa 14 (.t 162)⟩,
      ⟨none, some 164, .fa 1 (.t 163)⟩,
      ⟨none, some 165, .fa 0 (.t 164)⟩,
      ⟨none, some 166, .ld false 1 (.t 165)⟩,
      ⟨none, some 167, .mv (.t 1)⟩,
      ⟨none, some 168, .bin .neq (.t 166) (.t 167)⟩]) <|
    .cond (.t 168)
      (.seq (.reg false [
        ⟨none, some 4, .mv (.c (.int .i64 (-1)))⟩]) <|
      .ret)
      (.skip)) <|
    .seq (.reg false [
      ⟨none, some 169, .mv (.t 1)⟩,
      ⟨none, some 170, .bin .add (.t 169) (.c (.int .i64 1))⟩,
      ⟨none, some 1, .mv (.t 170)⟩]) <|
    .seq (.seq (.reg false [
      ⟨none, some 171, .mv (.t 0)⟩,
      ⟨none, some 172, .mv (.t 5)⟩,
      ⟨none, some 173, .ia 31 (.t 171) (.t 172)⟩,
      ⟨none, some 174, .fa 14 (.t 173)⟩,
      ⟨none, some 175, .fa 1 (.t 174)⟩,
      ⟨none, some 176, .fa 1 (.t 175)⟩,
      ⟨none, some 177, .ld false 1 (.t 176)⟩,
      ⟨none, some 178, .mv (.t 1)⟩,
      ⟨none, some 179, .bin .neq (.t 177) (.t 178)⟩]) <|
    .cond (.t 179)
      (.seq (.reg false [
        ⟨none, some 4, .mv (.c (.int .i64 (-1)))⟩]) <|
      .ret)
      (.skip)) <|
    .seq (.reg false [
      ⟨none, some 180, .mv (.t 1)⟩,
      ⟨none, some 181, .bin .add (.t 180) (.c (.int .i64 1))⟩,
      ⟨none, some 1, .mv (.t 181)⟩]) <|
    .seq (.seq (.reg false [
      ⟨none, some 182, .mv (.t 0)⟩,
      ⟨none, some 183, .mv (.t 5)⟩,
      ⟨none, some 184, .ia 31 (.t 182) (.t 183)⟩,
      ⟨none, some 185, .fa 14 (.t 184)⟩,
      ⟨none, some 186, .fa 1 (.t 185)⟩,
      ⟨none, some 187, .fa 2 (.t 186)⟩,
      ⟨none, some 188, .ld false 1 (.t 187)⟩,
      ⟨none, some 189, .mv (.t 1)⟩,
      ⟨none, some 190, .bin .neq (.t 188) (.t 189)⟩]) <|
    .cond (.t 190)
      (.seq (.reg false [
        ⟨none, some 4, .mv (.c (.int .i64 (-1)))⟩]) <|
      .ret)
      (.skip)) <|
    .seq (.reg false [
      ⟨none, some 191, .mv (.t 1)⟩,
      ⟨none, some 192, .bin .add (.t 191) (.c (.int .i64 1))⟩,
      ⟨none, some 1, .mv (.t 192)⟩]) <|
    .seq (.seq (.reg false [
      ⟨none, some 193, .mv (.t 0)⟩,
      ⟨none, some 194, .mv (.t 5)⟩,
      ⟨none, some 195, .ia 31 (.t 193) (.t 194)⟩,
      ⟨none, some 196, .fa 14 (.t 195)⟩,
      ⟨none, some 197, .fa 1 (.t 196)⟩,
      ⟨none, some 198, .fa 3 (.t 197)⟩,
      ⟨none, some 199, .ld false 1 (.t 198)⟩,
      ⟨none, some 200, .mv (.t 1)⟩,
      ⟨none, some 201, .bin .neq (.t 199) (.t 200)⟩]) <|
    .cond (.t 201)
      (.seq (.reg false [
        ⟨none, some 4, .mv (.c (.int .i64 (-1)))⟩]) <|
      .ret)
      (.skip)) <|
    .seq (.reg false [
      ⟨none, some 202, .mv (.t 1)⟩,
      ⟨none, some 203, .bin .add (.t 202) (.c (.int .i64 1))⟩,
      ⟨none, some 1, .mv (.t 203)⟩]) <|
    .seq (.seq (.reg false [
      ⟨none, some 204, .mv (.t 0)⟩,
      ⟨none, some 205, .mv (.t 5)⟩,
      ⟨none, some 206, .ia 31 (.t 204) (.t 205)⟩,
      ⟨none, some 207, .fa 14 (.t 206)⟩,
      ⟨none, some 208, .fa 5 (.t 207)⟩,
      ⟨none, some 209, .fa 0 (.t 208)⟩,
      ⟨none, some 210, .ld false 1 (.t 209)⟩,
      ⟨none, some 211, .mv (.t 1)⟩,
      ⟨none, some 212, .bin .neq (.t 210) (.t 211)⟩]) <|
    .cond (.t 212)
      (.seq (.reg false [
        ⟨none, some 4, .mv (.c (.int .i64 (-1)))⟩]) <|
      .ret)
      (.skip)) <|
    .seq (.reg false [
      ⟨none, some 213, .mv (.t 1)⟩,
      ⟨none, some 214, .bin .add (.t 213) (.c (.int .i64 1))⟩,
      ⟨none, some 1, .mv (.t 214)⟩]) <|
    .seq (.seq (.reg false [
      ⟨none, some 215, .mv (.t 0)⟩,
      ⟨none, some 216, .mv (.t 5)⟩,
      ⟨none, some 217, .ia 31 (.t 215) (.t 216)⟩,
      ⟨none, some 218, .fa 14 (.t 217)⟩,
      ⟨none, some 219, .fa 5 (.t 218)⟩,
      ⟨none, some 220, .fa 1 (.t 219)⟩,
      ⟨none, some 221, .ld false 1 (.t 220)⟩,
      ⟨none, some 222, .mv (.t 1)⟩,
      ⟨none, some 223, .bin .neq (.t 221) (.t 222)⟩]) <|
    .cond (.t 223)
      (.seq (.reg false [
        ⟨none, some 4, .mv (.c (.int .i64 (-1)))⟩]) <|
      .ret)
      (.skip)) <|
    .seq (.reg false [
      ⟨none, some 224, .mv (.t 1)⟩,
      ⟨none, some 225, .bin .add (.t 224) (.c (.int .i64 1))⟩,
      ⟨none, some 1, .mv (.t 225)⟩]) <|
    .seq (.seq (.reg false [
      ⟨none, some 226, .mv (.t 0)⟩,
      ⟨none, some 227, .mv (.t 5)⟩,
      ⟨none, some 228, .ia 31 (.t 226) (.t 227)⟩,
      ⟨none, some 229, .fa 14 (.t 228)⟩,
      ⟨none, some 230, .fa 5 (.t 229)⟩,
      ⟨none, some 231, .fa 2 (.t 230)⟩,
      ⟨none, some 232, .ld false 1 (.t 231)⟩,
      ⟨none, some 233, .mv (.t 1)⟩,
      ⟨none, some 234, .bin .neq (.t 232) (.t 233)⟩]) <|
    .cond (.t 234)
      (.seq (.reg false [
        ⟨none, some 4, .mv (.c (.int .i64 (-1)))⟩]) <|
      .ret)
      (.skip)) <|
    .seq (.reg false [
      ⟨none, some 235, .mv (.t 1)⟩,
      ⟨none, some 236, .bin .add (.t 235) (.c (.int .i64 1))⟩,
      ⟨none, some 1, .mv (.t 236)⟩]) <|
    .seq (.seq (.reg false [
      ⟨none, some 237, .mv (.t 0)⟩,
      ⟨none, some 238, .mv (.t 5)⟩,
      ⟨none, some 239, .ia 31 (.t 237) (.t 238)⟩,
      ⟨none, some 240, .fa 14 (.t 239)⟩,
      ⟨none, some 241, .fa 5 (.t 240)⟩,
      ⟨none, some 242, .fa 3 (.t 241)⟩,
      ⟨none, some 243, .ld false 1 (.t 242)⟩,
      ⟨none, some 244, .mv (.t 1)⟩,
      ⟨none, some 245, .bin .neq (.t 243) (.t 244)⟩]) <|
    .cond (.t 245)
      (.seq (.reg false [
        ⟨none, some 4, .mv (.c (.int .i64 (-1)))⟩]) <|
      .ret)
      (.skip)) <|
    .seq (.reg false [
      ⟨none, some 246, .mv (.t 1)⟩,
      ⟨none, some 247, .bin .add (.t 246) (.c (.int .i64 1))⟩,
      ⟨none, some 1, .mv (.t 247)⟩]) <|
    .seq (.seq (.reg false [
      ⟨none, some 248, .mv (.t 0)⟩,
      ⟨none, some 249, .mv (.t 5)⟩,
      ⟨none, some 250, .ia 31 (.t 248) (.t 249)⟩,
      ⟨none, some 251, .fa 14 (.t 250)⟩,
      ⟨none, some 252, .fa 9 (.t 251)⟩,
      ⟨none, some 253, .fa 0 (.t 252)⟩,
      ⟨none, some 254, .ld false 1 (.t 253)⟩,
      ⟨none, some 255, .mv (.t 1)⟩,
      ⟨none, some 256, .bin .neq (.t 254) (.t 255)⟩]) <|
    .cond (.t 256)
      (.seq (.reg false [
        ⟨none, some 4, .mv (.c (.int .i64 (-1)))⟩]) <|
      .ret)
      (.skip)) <|
    .seq (.reg false [
      ⟨none, some 257, .mv (.t 1)⟩,
      ⟨none, some 258, .bin .add (.t 257) (.c (.int .i64 1))⟩,
      ⟨none, some 1, .mv (.t 258)⟩]) <|
    .seq (.seq (.reg false [
      ⟨none, some 259, .mv (.t 0)⟩,
      ⟨none, some 260, .mv (.t 5)⟩,
      ⟨none, some 261, .ia 31 (.t 259) (.t 260)⟩,
      ⟨none, some 262, .fa 14 (.t 261)⟩,
      ⟨none, some 263, .fa 9 (.t 262)⟩,
      ⟨none, some 264, .fa 1 (.t 263)⟩,
      ⟨none, some 265, .ld false 1 (.t 264)⟩,
      ⟨none, some 266, .mv (.t 1)⟩,
      ⟨none, some 267, .bin .neq (.t 265) (.t 266)⟩]) <|
    .cond (.t 267)
      (.seq (.reg false [
        ⟨none, some 4, .mv (.c (.int .i64 (-1)))⟩]) <|
      .ret)
      (.skip)) <|
    .seq (.reg false [
      ⟨none, some 268, .mv (.t 1)⟩,
      ⟨none, some 269, .bin .add (.t 268) (.c (.int .i64 1))⟩,
      ⟨none, some 1, .mv (.t 269)⟩]) <|
    .seq (.seq (.reg false [
      ⟨none, some 270, .mv (.t 0)⟩,
      ⟨none, some 271, .mv (.t 5)⟩,
      ⟨none, some 272, .ia 31 (.t 270) (.t 271)⟩,
      ⟨none, some 273, .fa 14 (.t 272)⟩,
      ⟨none, some 274, .fa 11 (.t 273)⟩,
      ⟨none, some 275, .fa 0 (.t 274)⟩,
      ⟨none, some 276, .ld false 1 (.t 275)⟩,
      ⟨none, some 277, .mv (.t 1)⟩,
      ⟨none, some 278, .bin .neq (.t 276) (.t 277)⟩]) <|
    .cond (.t 278)
      (.seq (.reg false [
        ⟨none, some 4, .mv (.c (.int .i64 (-1)))⟩]) <|
      .ret)
      (.skip)) <|
    .seq (.reg false [
      ⟨none, some 279, .mv (.t 1)⟩,
      ⟨none, some 280, .bin .add (.t 279) (.c (.int .i64 1))⟩,
      ⟨none, some 1, .mv (.t 280)⟩]) <|
    .seq (.seq (.reg false [
      ⟨none, some 281, .mv (.t 0)⟩,
      ⟨none, some 282, .mv (.t 5)⟩,
      ⟨none, some 283, .ia 31 (.t 281) (.t 282)⟩,
      ⟨none, some 284, .fa 14 (.t 283)⟩,
      ⟨none, some 285, .fa 11 (.t 284)⟩,
      ⟨none, some 286, .fa 1 (.t 285)⟩,
      ⟨none, some 287, .ld false 1 (.t 286)⟩,
      ⟨none, some 288, .mv (.t 1)⟩,
      ⟨none, some 289, .bin .neq (.t 287) (.t 288)⟩]) <|
    .cond (.t 289)
      (.seq (.reg false [
        ⟨none, some 4, .mv (.c (.int .i64 (-1)))⟩]) <|
      .ret)
      (.skip)) <|
    .seq (.reg false [
      ⟨none, some 290, .mv (.t 1)⟩,
      ⟨none, some 291, .bin .add (.t 290) (.c (.int .i64 1))⟩,
      ⟨none, some 1, .mv (.t 291)⟩]) <|
    .seq (.seq (.reg false [
      ⟨none, some 292, .mv (.t 0)⟩,
      ⟨none, some 293, .mv (.t 5)⟩,
      ⟨none, some 294, .ia 31 (.t 292) (.t 293)⟩,
      ⟨none, some 295, .fa 27 (.t 294)⟩,
      ⟨none, some 296, .ld false 1 (.t 295)⟩,
      ⟨none, some 297, .mv (.t 1)⟩,
      ⟨none, some 298, .bin .neq (.t 296) (.t 297)⟩]) <|
    .cond (.t 298)
      (.seq (.reg false [
        ⟨none, some 4, .mv (.c (.int .i64 (-1)))⟩]) <|
      .ret)
      (.skip)) <|
    .seq (.reg false [
      ⟨none, some 299, .mv (.t 1)⟩,
      ⟨none, some 300, .bin .add (.t 299) (.c (.int .i64 1))⟩,
      ⟨none, some 1, .mv (.t 300)⟩]) <|
    .seq (.seq (.reg false [
      ⟨none, some 301, .mv (.t 0)⟩,
      ⟨none, some 302, .mv (.t 5)⟩,
      ⟨none, some 303, .ia 31 (.t 301) (.t 302)⟩,
      ⟨none, some 304, .fa 28 (.t 303)⟩,
      ⟨none, some 305, .ld false 1 (.t 304)⟩,
      ⟨none, some 306, .mv (.t 1)⟩,
      ⟨none, some 307, .bin .neq (.t 305) (.t 306)⟩]) <|
    .cond (.t 307)
      (.seq (.reg false [
        ⟨none, some 4, .mv (.c (.int .i64 (-1)))⟩]) <|
      .ret)
      (.skip)) <|
    .seq (.reg false [
      ⟨none, some 308, .mv (.t 1)⟩,
      ⟨none, some 309, .bin .add (.t 308) (.c (.int .i64 1))⟩,
      ⟨none, some 1, .mv (.t 309)⟩]) <|
    .seq (.reg false [
      ⟨none, some 310, .mv (.t 0)⟩,
      ⟨none, some 311, .mv (.t 5)⟩,
      ⟨none, some 312, .ia 31 (.t 310) (.t 311)⟩,
      ⟨none, some 313, .fa 29 (.t 312)⟩,
      ⟨none, some 314, .fa 0 (.t 313)⟩,
      ⟨none, some 315, .ld false 1 (.t 314)⟩,
      ⟨none, some 316, .mv (.t 1)⟩,
      ⟨none, some 317, .call 52 [.t 315, .t 316]⟩,
      ⟨none, some 1, .mv (.t 317)⟩]) <|
    .seq (.seq (.reg false [
      ⟨none, some 318, .mv (.t 1)⟩,
      ⟨none, some 319, .bin .lss (.t 318) (.c (.int .i64 0))⟩]) <|
    .cond (.t 319)
      (.seq (.reg false [
        ⟨none, some 4, .mv (.c (.int .i64 (-1)))⟩]) <|
      .ret)
      (.skip)) <|
    .seq (.reg false [
      ⟨none, some 320, .mv (.t 0)⟩,
      ⟨none, some 321, .mv (.t 5)⟩,
      ⟨none, some 322, .ia 31 (.t 320) (.t 321)⟩,
      ⟨none, some 323, .fa 29 (.t 322)⟩,
      ⟨none, some 324, .fa 1 (.t 323)⟩,
      ⟨none, some 325, .ld false 1 (.t 324)⟩,
      ⟨none, some 326, .mv (.t 1)⟩,
      ⟨none, some 327, .call 53 [.t 325, .t 326]⟩,
      ⟨none, some 1, .mv (.t 327)⟩]) <|
    .seq (.reg false [
      ⟨none, some 328, .mv (.t 1)⟩,
      ⟨none, some 329, .bin .lss (.t 328) (.c (.int .i64 0))⟩]) <|
    .cond (.t 329)
      (.seq (.reg false [
        ⟨none, some 4, .mv (.c (.int .i64 (-1)))⟩]) <|
      .ret)
      (.skip))) <|
  .reg false [
    ⟨none, some 10, .mv (.t 5)⟩,
    ⟨none, some 11, .bin .add (.t 10) (.c (.int .i64 1))⟩,
    ⟨none, some 5, .mv (.t 11)⟩]
def f30L0 : SC := f30L0b
def f30B : SC :=
  .seq (.reg false [
    ⟨none, some 4, .mv (.c (.int .i64 0))⟩]) <|
  .seq (.seq (.reg false [
    ⟨none, some 5, .mv (.c (.int .i64 0))⟩]) <|
  .block 0 (
    .loop [0, 1, 4, 5] f30L0)) <|
  .seq (.reg false [
    ⟨none, some 330, .mv (.t 1)⟩,
    ⟨none, some 4, .mv (.t 330)⟩]) <|
  .ret
def f30S : SFun := ⟨331, [.t 4], .pure, f30B⟩
theorem f30OK : FnOk Go.Proofs.Try.prog 30 f30S := FnOk.of (ks := [[0, 1, 4, 5]]) (cs := []) (by kernel_rfl)

/-- loop.example/g00190/impl.inRange -/
def f34B : SC :=
  .seq (.reg false [
    ⟨none, some 6, .mv (.c (.bool false))⟩]) <|
  .seq (.reg false [
    ⟨none, some 7, .mv (.t 0)⟩,
    ⟨none, some 8, .mv (.t 1)⟩,
    ⟨none, some 9, .bin .geq (.t 7) (.t 8)⟩,
    ⟨none, some 10, .mv (.t 9)⟩,
    ⟨some (10, true), some 11, .mv (.t 0)⟩,
    ⟨some (10, true), some 12, .mv (.t 2)⟩,
    ⟨some (10, true), some 13, .bin .leq (.t 11) (.t 12)⟩,
    ⟨none, some 14, .pk (.t 10) (.t 13) (.c (.bool false))⟩,
    ⟨none, some 6, .mv (.t 14)⟩]) <|
  .ret
def f34S : SFun := ⟨15, [.t 6], .pure, f34B⟩
theorem f34OK : FnOk Go.Proofs.Try.prog 34 f34S := FnOk.of (ks := []) (cs := []) (by kernel_rfl)

/-- loop.example/g00190/impl.DepthOf -/
def f35L0b : SC :=
  .seq (.seq (.reg false [
    ⟨none, some 9, .mv (.t 5)⟩,
    ⟨none, some 10, .bin .leq (.t 9) (.c (.int .i64 8))⟩]) <|
  .cond (.t 10)
    (.skip)
    (.exit 0)) <|
  .seq (.block 1 (
    .seq (.reg false [
      ⟨none, some 13, .ld true 1 (.t 2)⟩,
      ⟨none, some 14, .mv (.t 1)⟩,
      ⟨none, some 15, .call 23 [.t 13, .t 14]⟩,
      ⟨none, some 6, .mv (.t 15)⟩]) <|
    .seq (.seq (.reg false [
      ⟨none, some 16, .mv (.t 6)⟩,
      ⟨none, some 17, .bin .lss (.t 16) (.c (.int .i64 0))⟩]) <|
    .cond (.t 17)
      (.seq (.reg false [
        ⟨none, some 4, .mv (.c (.int .i64 0))⟩]) <|
      .ret)
      (.skip)) <|
    .seq (.reg false [
      ⟨none, some 18, .fa 0 (.t 2)⟩,
      ⟨none, some 19, .ld false 1 (.t 18)⟩,
      ⟨none, some 20, .mv (.t 6)⟩,
      ⟨none, some 21, .ia 31 (.t 19) (.t 20)⟩,
      ⟨none, some 22, .fa 1 (.t 21)⟩,
      ⟨none, some 23, .ld false 1 (.t 22)⟩,
      ⟨none, some 1, .mv (.t 23)⟩]) <|
    .seq (.reg false [
      ⟨none, some 24, .mv (.t 1)⟩,
      ⟨none, some 25, .bin .eql (.t 24) (.c (.int .i64 0))⟩]) <|
    .cond (.t 25)
      (.seq (.reg false [
        ⟨none, some 26, .mv (.t 5)⟩,
        ⟨none, some 4, .mv (.t 26)⟩]) <|
      .ret)
      (.skip))) <|
  .reg false [
    ⟨none, some 11, .mv (.t 5)⟩,
    ⟨none, some 12, .bin .add (.t 11) (.c (.int .i64 1))⟩,
    ⟨none, some 5, .mv (.t 12)⟩]
def f35L0 : SC := f35L0b
def f35B : SC :=
  .seq (.reg false [
    ⟨none, some 2, .bx (.t 0)⟩,
    ⟨none, some 4, .mv (.c (.int .i64 0))⟩]) <|
  .seq (.seq (.reg false [
    ⟨none, some 7, .mv (.t 1)⟩,
    ⟨none, some 8, .bin .eql (.t 7) (.c (.int .i64 0))⟩]) <|
  .cond (.t 8)
    (.seq (.reg false [
      ⟨none, some 4, .mv (.c (.int .i64 0))⟩]) <|
    .ret)
    (.skip)) <|
  .seq (.seq (.reg false [
    ⟨none, some 5, .mv (.c (.int .i64 1))⟩]) <|
  .block 0 (
    .loop [1, 2, 4, 5] f35L0)) <|
  .seq (.reg false [
    ⟨none, some 4, .mv (.c (.int .i64 0))⟩]) <|
  .ret
def f35S : SFun := ⟨27, [.t 4], .pure, f35B⟩
theorem f35OK : FnOk Go.Proofs.Try.prog 35 f35S := FnOk.of (ks := [[1, 2, 4, 5]]) (cs := []) (by kernel_rfl)

/-- loop.example/g00190/laws.szNode -/
def f36B : SC :=
  .seq (.reg false [
    ⟨none, some 2, .bx (.t 0)⟩,
    ⟨none, some 4, .mv (.c (.int .i64 0))⟩]) <|
  .seq (.reg false [
    ⟨none, some 5, .fa 9 (.t 2)⟩,
    ⟨none, some 6, .ld true 2 (.t 5)⟩,
    ⟨none, some 7, .mv (.t 1)⟩,
    ⟨none, some 8, .call 56 [.t 6, .t 7]⟩,
    ⟨none, some 1, .mv (.t 8)⟩]) <|
  .seq (.seq (.reg false [
    ⟨none, some 9, .mv (.t 1)⟩,
    ⟨none, some 10, .bin .lss (.t 9) (.c (.int .i64 0))⟩]) <|
  .cond (.t 10)
    (.seq (.reg false [
      ⟨none, some 4, .mv (.c (.int .i64 (-1)))⟩]) <|
    .ret)
    (.skip)) <|
  .seq (.reg false [
    ⟨none, some 11, .fa 13 (.t 2)⟩,
    ⟨none, some 12, .ld false 1 (.t 11)⟩,
    ⟨none, some 13, .mv (.t 1)⟩,
    ⟨none, some 14, .call 57 [.t 12, .t 13]⟩,
    ⟨none, some 1, .mv (.t 14)⟩]) <|
  .seq (.seq (.reg false [
    ⟨none, some 15, .mv (.t 1)⟩,
    ⟨none, some 16, .bin .lss (.t 15) (.c (.int .i64 0))⟩]) <|
  .cond (.t 16)
    (.seq (.reg false [
      ⟨none, some 4, .mv (.c (.int .i64 (-1)))⟩]) <|
    .ret)
    (.skip)) <|
  .seq (.reg false [
    ⟨none, some 17, .fa 29 (.t 2)⟩,
    ⟨none, some 18, .ld true 2 (.t 17)⟩,
    ⟨none, some 19, .mv (.t 1)⟩,
    ⟨none, some 20, .call 56 [.t 18, .t 19]⟩,
    ⟨none, some 1, .mv (.t 20)⟩]) <|
  .seq (.seq (.reg false [
    ⟨none, some 21, .mv (.t 1)⟩,
    ⟨none, some 22, .bin .lss (.t 21) (.c (.int .i64 0))⟩]) <|
  .cond (.t 22)
    (.seq (.reg false [
      ⟨none, some 4, .mv (.c (.int .i64 (-1)))⟩]) <|
    .ret)
    (.skip)) <|
  .seq (.reg false [
    ⟨none, some 23, .mv (.t 1)⟩,
    ⟨none, some 4, .mv (.t 23)⟩]) <|
  .ret
def f36S : SFun := ⟨24, [.t 4], .pure, f36B⟩
theorem f36OK : FnOk Go.Proofs.Try.prog 36 f36S := FnOk.of (ks := []) (cs := []) (by kernel_rfl)

/-- loop.example/g00190/spec.NodeOk -/
def f37B : SC :=
  .seq (.reg false [
    ⟨none, some 1, .bx (.t 0)⟩,
    ⟨none, some 2, .mv (.c (.bool false))⟩]) <|
  .seq (.seq (.reg false [
    ⟨none, some 3, .fa 0 (.t 1)⟩,
    ⟨none, some 4, .ld false 1 (.t 3)⟩,
    ⟨none, some 5, .call 38 [.t 4, .c (.int .i64 1), .c (.int .i64 99)]⟩,
    ⟨none, some 6, .nt (.t 5)⟩,
    ⟨none, some 7, .mv (.t 6)⟩,
    ⟨some (7, false), some 8, .fa 1 (.t 1)⟩,
    ⟨some (7, false), some 9, .ld false 1 (.t 8)⟩,
    ⟨some (7, false), some 10, .call 38 [.t 9, .c (.int .i64 0), .c (.int .i64 99)]⟩,
    ⟨some (7, false), some 11, .nt (.t 10)⟩,
    ⟨none, some 12, .pk (.t 7) (.c (.bool true)) (.t 11)⟩,
    ⟨none, some 13, .mv (.t 12)⟩,
    ⟨some (13, false), some 14, .fa 0 (.t 1)⟩,
    ⟨some (13, false), some 15, .ld false 1 (.t 14)⟩,
    ⟨some (13, false), some 16, .fa 1 (.t 1)⟩,
    ⟨some (13, false), some 17, .ld false 1 (.t 16)⟩,
    ⟨some (13, false), some 18, .bin .eql (.t 15) (.t 17)⟩,
    ⟨none, some 19, .pk (.t 13) (.c (.bool true)) (.t 18)⟩,
    ⟨none, some 20, .mv (.t 19)⟩,
    ⟨some (20, false), some 21, .fa 3 (.t 1)⟩,
    ⟨some (20, false), some 22, .ld true 6 (.t 21)⟩,
    ⟨some (20, false), some 23, .call 58 [.t 22]⟩,
    ⟨some (20, false), some 24, .nt (.t 23)⟩,
    ⟨none, some 25, .pk (.t 20) (.c (.bool true)) (.t 24)⟩,
    ⟨none, some 26, .mv (.t 25)⟩,
    ⟨some (26, false), some 27, .fa 9 (.t 1)⟩,
    ⟨some (26, false), some 28, .ld true 2 (.t 27)⟩,
    ⟨some (26, false), some 29, .call 59 [.t 28]⟩,
    ⟨some (26, false), some 30, .nt (.t 29)⟩,
    ⟨none, some 31, .pk (.t 26) (.c (.bool true)) (.t 30)⟩,
    ⟨none, some 32, .mv (.t 31)⟩,
    ⟨some (32, false), some 33, .fa 29 (.t 1)⟩,
    ⟨some (32, false), some 34, .ld true 2 (.t 33)⟩,
    ⟨some (32, false), some 35, .call 59 [.t 34]⟩,
    ⟨some (32, false), some 36, .nt (.t 35)⟩,
    ⟨none, some 37, .pk (.t 32) (.c (.bool true)) (.t 36)⟩,
    ⟨none, some 38, .mv (.t 37)⟩,
    ⟨some (38, false), some 39, .fa 12 (.t 1)⟩,
    ⟨some (38, false), some 40, .ld false 1 (.t 39)⟩,
    ⟨some (38, false), some 41, .call 38 [.t 40, .c (.int .i64 0), .c (.int .i64 2048)]⟩,
    ⟨some (38, false), some 42, .nt (.t 41)⟩,
    ⟨none, some 43, .pk (.t 38) (.c (.bool true)) (.t 42)⟩,
    ⟨none, some 44, .mv (.t 43)⟩,
    ⟨some (44, false), some 45, .fa 13 (.t 1)⟩,
    ⟨some (44, false), some 46, .ld false 1 (.t 45)⟩,
    ⟨some (44, false), some 47, .call 60 [.t 46]⟩,
    ⟨some (44, false), some 48, .nt (.t 47)⟩,
    ⟨none, some 49, .pk (.t 44) (.c (.bool true)) (.t 48)⟩,
    ⟨none, some 50, .mv (.t 49)⟩,
    ⟨some (50, false), some 51, .fa 27 (.t 1)⟩,
    ⟨some (50, false), some 52, .ld false 1 (.t 51)⟩,
    ⟨some (50, false), some 53, .call 38 [.t 52, .c (.int .i64 1), .c (.int .i64 5)]⟩,
    ⟨some (50, false), some 54, .nt (.t 53)⟩,
    ⟨none, some 55, .pk (.t 50) (.c (.bool true)) (.t 54)⟩,
    ⟨none, some 56, .mv (.t 55)⟩,
    ⟨some (56, false), some 57, .fa 28 (.t 1)⟩,
    ⟨some (56, false), some 58, .ld false 1 (.t 57)⟩,
    ⟨some (56, false), some 59, .call 38 [.t 58, .c (.int .i64 0), .c (.int .i64 255)]⟩,
    ⟨some (56, false), some 60, .nt (.t 59)⟩,
    ⟨none, some 61, .pk (.t 56) (.c (.bool true)) (.t 60)⟩]) <|
  .cond (.t 61)
    (.seq (.reg false [
      ⟨none, some 2, .mv (.c (.bool false))⟩]) <|
    .ret)
    (.skip)) <|
  .seq (.seq (.reg false [
    ⟨none, some 62, .fa 2 (.t 1)⟩,
    ⟨none, some 63, .ld false 1 (.t 62)⟩]) <|
  .cond (.t 63)
    (.seq (.reg false [
      ⟨none, some 64, .fa 9 (.t 1)⟩,
      ⟨none, some 65, .ld true 2 (.t 64)⟩,
      ⟨none, some 66, .call 61 [.t 65]⟩,
      ⟨none, some 67, .mv (.t 66)⟩,
      ⟨some (67, true), some 68, .fa 14 (.t 1)⟩,
      ⟨some (67, true), some 69, .ld true 13 (.t 68)⟩,
      ⟨some (67, true), some 70, .call 62 [.t 69]⟩,
      ⟨none, some 71, .pk (.t 67) (.t 70) (.c (.bool false))⟩,
      ⟨none, some 72, .mv (.t 71)⟩,
      ⟨some (72, true), some 73, .fa 12 (.t 1)⟩,
      ⟨some (72, true), some 74, .ld false 1 (.t 73)⟩,
      ⟨some (72, true), some 75, .bin .eql (.t 74) (.c (.int .i64 0))⟩,
      ⟨none, some 76, .pk (.t 72) (.t 75) (.c (.bool false))⟩,
      ⟨none, some 77, .mv (.t 76)⟩,
      ⟨some (77, true), some 78, .fa 13 (.t 1)⟩,
      ⟨some (77, true), some 79, .ld false 1 (.t 78)⟩,
      ⟨some (77, true), some 80, .len (.t 79)⟩,
      ⟨some (77, true), some 81, .bin .eql (.t 80) (.c (.int .i64 0))⟩,
      ⟨none, some 82, .pk (.t 77) (.t 81) (.c (.bool false))⟩,
      ⟨none, some 83, .mv (.t 82)⟩,
      ⟨some (83, true), some 84, .fa 11 (.t 1)⟩,
      ⟨some (83, true), some 85, .ld false 1 (.t 84)⟩,
      ⟨some (83, true), some 86, .nt (.t 85)⟩,
      ⟨none, some 87, .pk (.t 83) (.t 86) (.c (.bool false))⟩,
      ⟨none, some 2, .mv (.t 87)⟩]) <|
    .ret)
    (.skip)) <|
  .seq (.reg false [
    ⟨none, some 88, .fa 14 (.t 1)⟩,
    ⟨none, some 89, .ld true 13 (.t 88)⟩,
    ⟨none, some 90, .call 63 [.t 89]⟩,
    ⟨none, some 2, .mv (.t 90)⟩]) <|
  .ret
def f37S : SFun := ⟨91, [.t 2], .pure, f37B⟩
theorem f37OK : FnOk Go.Proofs.Try.prog 37 f37S := FnOk.of (ks := []) (cs := []) (by kernel_rfl)

/-- loop.example/g00190/spec.l01In -/
def f38B : SC :=
  .seq (.reg false [
    ⟨none, some 6, .mv (.c (.bool false))⟩]) <|
  .seq (.reg false [
    ⟨none, some 7, .mv (.t 0)⟩,
    ⟨none, some 8, .mv (.t 1)⟩,
    ⟨none, some 9, .bin .geq (.t 7) (.t 8)⟩,
    ⟨none, some 10, .mv (.t 9)⟩,
    ⟨some (10, true), some 11, .mv (.t 0)⟩,
    ⟨some (10, true), some 12, .mv (.t 2)⟩,
    ⟨some (10, true), some 13, .bin .leq (.t 11) (.t 12)⟩,
    ⟨none, some 14, .pk (.t 10) (.t 13) (.c (.bool false))⟩,
    ⟨none, some 6, .mv (.t 14)⟩]) <|
  .ret
def f38S : SFun := ⟨15, [.t 6], .pure, f38B⟩
theorem f38OK : FnOk Go.Proofs.Try.prog 38 f38S := FnOk.of (ks := []) (cs := []) (by kernel_rfl)

/-- loop.example/g00190/spec.DepthOf -/
def f39L0b : SC :=
  .seq (.seq (.reg false [
    ⟨none, some 8, .mv (.t 6)⟩,
    ⟨none, some 9, .bin .leq (.t 8) (.c (.int .i64 8))⟩]) <|
  .cond (.t 9)
    (.skip)
    (.exit 0)) <|
  .seq (.block 1 (
    .seq (.seq (.reg false [
      ⟨none, some 12, .mv (.t 1)⟩,
      ⟨none, some 13, .bin .eql (.t 12) (.c (.int .i64 0))⟩]) <|
    .cond (.t 13)
      (.seq (.reg false [
        ⟨none, some 14, .mv (.t 5)⟩,
        ⟨none, some 4, .mv (.t 14)⟩]) <|
      .ret)
      (.skip)) <|
    .seq (.reg false [
      ⟨none, some 15, .ld true 1 (.t 2)⟩,
      ⟨none, some 16, .mv (.t 1)⟩,
      ⟨none, some 17, .call 17 [.t 15, .t 16]⟩,
      ⟨none, some 7, .mv (.t 17)⟩]) <|
    .seq (.seq (.reg false [
      ⟨none, some 18, .mv (.t 7)⟩,
      ⟨none, some 19, .bin .lss (.t 18) (.c (.int .i64 0))⟩]) <|
    .cond (.t 19)
      (.seq (.reg false [
        ⟨none, some 4, .mv (.c (.int .i64 0))⟩]) <|
      .ret)
      (.skip)) <|
    .seq (.reg false [
      ⟨none, some 20, .mv (.t 5)⟩,
      ⟨none, some 21, .bin .add (.t 20) (.c (.int .i64 1))⟩,
      ⟨none, some 5, .mv (.t 21)⟩]) <|
    .reg false [
      ⟨none, some 22, .fa 0 (.t 2)⟩,
      ⟨none, some 23, .ld false 1 (.t 22)⟩,
      ⟨none, some 24, .mv (.t 7)⟩,
      ⟨none, some 25, .ia 31 (.t 23) (.t 24)⟩,
      ⟨none, some 26, .fa 1 (.t 25)⟩,
      ⟨none, some 27, .ld false 1 (.t 26)⟩,
      ⟨none, some 1, .mv (.t 27)⟩])) <|
  .reg false [
    ⟨none, some 10, .mv (.t 6)⟩,
    ⟨none, some 11, .bin .add (.t 10) (.c (.int .i64 1))⟩,
    ⟨none, some 6, .mv (.t 11)⟩]
def f39L0 : SC := f39L0b
def f39B : SC :=
  .seq (.reg false [
    ⟨none, some 2, .bx (.t 0)⟩,
    ⟨none, some 4, .mv (.c (.int .i64 0))⟩]) <|
  .seq (.reg false [
    ⟨none, some 5, .mv (.c (.int .i64 0))⟩]) <|
  .seq (.seq (.reg false [
    ⟨none, some 6, .mv (.c (.int .i64 0))⟩]) <|
  .block 0 (
    .loop [1, 2, 4, 5, 6] f39L0)) <|
  .seq (.reg false [
    ⟨none, some 4, .mv (.c (.int .i64 0))⟩]) <|
  .ret
def f39S : SFun := ⟨28, [.t 4], .pure, f39B⟩
theorem f39OK : FnOk Go.Proofs.Try.prog 39 f39S := FnOk.of (ks := [[1, 2, 4, 5, 6]]) (cs := []) (by kernel_rfl)

/-- loop.example/g00190/spec.l15CopyPath -/
def f40B : SC :=
  .seq (.reg false [
    ⟨none, some 1, .bx (.t 0)⟩,
    ⟨none, some 2, .al [.sl .nl [], .sl .nl []]⟩]) <|
  .seq (.reg true [
    ⟨none, some 3, .be⟩,
    ⟨none, some 4, .fa 0 (.t 1)⟩,
    ⟨none, some 5, .ld false 1 (.t 4)⟩,
    ⟨none, some 6, .app 1 8 (.t 3) (.t 5)⟩,
    ⟨none, some 7, .be⟩,
    ⟨none, some 8, .fa 1 (.t 1)⟩,
    ⟨none, some 9, .ld false 1 (.t 8)⟩,
    ⟨none, some 10, .app 2 16 (.t 7) (.t 9)⟩,
    ⟨none, some 11, .bd [.sl .nl [], .sl .nl []] [(0, 1, .t 6), (1, 1, .t 10)]⟩,
    ⟨none, none, .st 2 (.t 2) (.t 11)⟩]) <|
  .ret
def f40S : SFun := ⟨12, [.c 2 true 2], .own, f40B⟩
theorem f40OK : FnOk Go.Proofs.Try.prog 40 f40S := FnOk.of (ks := []) (cs := [[[], [], [1], [0, 2, 1], [], [], [5], [4, 6, 5, 3, 0, 2, 1], [3, 0, 2, 1, 7, 4, 6, 5], [8, 3, 0, 2, 1, 7, 4, 6, 5]]]) (by kernel_rfl)

/-- loop.example/g00190/laws.toNode -/
def f41B : SC :=
  .seq (.reg false [
    ⟨none, some 1, .bx (.t 0)⟩,
    ⟨none, some 2, .al [.int .i64 0, .int .i64 0, .bool false, .int .i64 0, .int .i64 0, .int .i64 0, .int .i64 0, .int .i64 0, .int .i64 0, .sl .nl [], .sl .nl [], .bool false, .int .i64 0, .sl .nl [], .int .i64 0, .int .i64 0, .int .i64 0, .int .i64 0, .int .i64 0, .int .i64 0, .int .i64 0, .int .i64 0, .int .i64 0, .int .i64 0, .int .i64 0, .int .i64 0, .int .i64 0, .int .i64 0, .int .i64 0, .sl .nl [], .sl .nl []]⟩]) <|
  .seq (.reg false [
    ⟨none, some 3, .al [.int .i64 0, .int .i64 0, .bool false, .int .i64 0, .int .i64 0, .int .i64 0, .int .i64 0, .int .i64 0, .int .i64 0, .sl .nl [], .sl .nl [], .bool false, .int .i64 0, .sl .nl [], .int .i64 0, .int .i64 0, .int .i64 0, .int .i64 0, .int .i64 0, .int .i64 0, .int .i64 0, .int .i64 0, .int .i64 0, .int .i64 0, .int .i64 0, .int .i64 0, .int .i64 0, .int .i64 0, .int .i64 0, .sl .nl [], .sl .nl []]⟩]) <|
  .seq (.reg false [
    ⟨none, some 4, .fa 0 (.t 1)⟩,
    ⟨none, some 5, .ld false 1 (.t 4)⟩,
    ⟨none, some 6, .fa 0 (.t 3)⟩,
    ⟨none, none, .st 1 (.t 6) (.t 5)⟩]) <|
  .seq (.reg false [
    ⟨none, some 7, .fa 1 (.t 1)⟩,
    ⟨none, some 8, .ld false 1 (.t 7)⟩,
    ⟨none, some 9, .fa 1 (.t 3)⟩,
    ⟨none, none, .st 1 (.t 9) (.t 8)⟩]) <|
  .seq (.reg false [
    ⟨none, some 10, .fa 2 (.t 1)⟩,
    ⟨none, some 11, .ld false 1 (.t 10)⟩,
    ⟨none, some 12, .fa 2 (.t 3)⟩,
    ⟨none, none, .st 1 (.t 12) (.t 11)⟩]) <|
  .seq (.reg false [
    ⟨none, some 13, .fa 3 (.t 1)⟩,
    ⟨none, some 14, .ld true 6 (.t 13)⟩,
    ⟨none, some 15, .call 64 [.t 14]⟩,
    ⟨none, some 16, .fa 3 (.t 3)⟩,
    ⟨none, none, .st 6 (.t 16) (.t 15)⟩]) <|
  .seq (.reg false [
    ⟨none, some 17, .fa 9 (.t 1)⟩,
    ⟨none, some 18, .ld true 2 (.t 17)⟩,
    ⟨none, some 19, .call 65 [.t 18]⟩,
    ⟨none, some 20, .fa 9 (.t 3)⟩,
    ⟨none, none, .st 2 (.t 20) (.t 19)⟩]) <|
  .seq (.reg false [
    ⟨none, some 21, .fa 11 (.t 1)⟩,
    ⟨none, some 22, .ld false 1 (.t 21)⟩,
    ⟨none, some 23, .fa 11 (.t 3)⟩,
    ⟨none, none, .st 1 (.t 23) (.t 22)⟩]) <|
  .seq (.reg false [
    ⟨none, some 24, .fa 12 (.t 1)⟩,
    ⟨none, some 25, .ld false 1 (.t 24)⟩,
    ⟨none, some 26, .fa 12 (.t 3)⟩,
    ⟨none, none, .st 1 (.t 26) (.t 25)⟩]) <|
  .seq (.reg false [
    ⟨none, some 27, .fa 13 (.t 1)⟩,
    ⟨none, some 28, .ld false 1 (.t 27)⟩,
    ⟨none, some 29, .call 66 [.t 28]⟩,
    ⟨none, some 30, .fa 13 (.t 3)⟩,
    ⟨none, none, .st 1 (.t 30) (.t 29)⟩]) <|
  .seq (.reg false [
    ⟨none, some 31, .fa 14 (.t 1)⟩,
    ⟨none, some 32, .ld true 13 (.t 31)⟩,
    ⟨none, some 33, .call 67 [.t 32]⟩,
    ⟨none, some 34, .fa 14 (.t 3)⟩,
    ⟨none, none, .st 13 (.t 34) (.t 33)⟩]) <|
  .seq (.reg false [
    ⟨none, some 35, .fa 27 (.t 1)⟩,
    ⟨none, some 36, .ld false 1 (.t 35)⟩,
    ⟨none, some 37, .fa 27 (.t 3)⟩,
    ⟨none, none, .st 1 (.t 37) (.t 36)⟩]) <|
  .seq (.reg false [
    ⟨none, some 38, .fa 28 (.t 1)⟩,
    ⟨none, some 39, .ld false 1 (.t 38)⟩,
    ⟨none, some 40, .fa 28 (.t 3)⟩,
    ⟨none, none, .st 1 (.t 40) (.t 39)⟩]) <|
  .seq (.reg false [
    ⟨none, some 41, .fa 29 (.t 1)⟩,
    ⟨none, some 42, .ld true 2 (.t 41)⟩,
    ⟨none, some 43, .call 65 [.t 42]⟩,
    ⟨none, some 44, .fa 29 (.t 3)⟩,
    ⟨none, none, .st 2 (.t 44) (.t 43)⟩]) <|
  .seq (.reg false [
    ⟨none, some 45, .ld true 31 (.t 3)⟩,
    ⟨none, none, .st 31 (.t 2) (.t 45)⟩]) <|
  .ret
def f41S : SFun := ⟨46, [.c 2 true 31], .own, f41B⟩
theorem f41OK : FnOk Go.Proofs.Try.prog 41 f41S := FnOk.of (ks := []) (cs := []) (by kernel_rfl)

/-- loop.example/g00190/impl.copyNode -/
def f42B : SC :=
  .seq (.reg false [
    ⟨none, some 1, .bx (.t 0)⟩,
    ⟨none, some 2, .al [.int .i64 0, .int .i64 0, .bool false, .int .i64 0, .int .i64 0, .int .i64 0, .int .i64 0, .int .i64 0, .int .i64 0, .sl .nl [], .sl .nl [], .bool false, .int .i64 0, .sl .nl [], .int .i64 0, .int .i64 0, .int .i64 0, .int .i64 0, .int .i64 0, .int .i64 0, .int .i64 0, .int .i64 0, .int .i64 0, .int .i64 0, .int .i64 0, .int .i64 0, .int .i64 0, .int .i64 0, .int .i64 0, .sl .nl [], .sl .nl []]⟩]) <|
  .seq (.reg true [
    ⟨none, some 3, .fa 9 (.t 1)⟩,
    ⟨none, some 4, .ld true 2 (.t 3)⟩,
    ⟨none, some 5, .call 68 [.t 4]⟩,
    ⟨none, some 6, .fa 29 (.t 1)⟩,
    ⟨none, some 7, .ld true 2 (.t 6)⟩,
    ⟨none, some 8, .call 68 [.t 7]⟩,
    ⟨none, some 9, .fa 9 (.t 1)⟩,
    ⟨none, none, .st 2 (.t 9) (.t 5)⟩,
    ⟨none, some 10, .fa 29 (.t 1)⟩,
    ⟨none, none, .st 2 (.t 10) (.t 8)⟩]) <|
  .seq (.reg false [
    ⟨none, some 11, .fa 13 (.t 1)⟩,
    ⟨none, some 12, .ld false 1 (.t 11)⟩,
    ⟨none, some 13, .call 69 [.t 12]⟩,
    ⟨none, some 14, .fa 13 (.t 1)⟩,
    ⟨none, none, .st 1 (.t 14) (.t 13)⟩]) <|
  .seq (.reg false [
    ⟨none, some 15, .ld true 31 (.t 1)⟩,
    ⟨none, none, .st 31 (.t 2) (.t 15)⟩]) <|
  .ret
def f42S : SFun := ⟨16, [.c 2 true 31], .own, f42B⟩
theorem f42OK : FnOk Go.Proofs.Try.prog 42 f42S := FnOk.of (ks := []) (cs := [[[], [0], [1, 0], [], [3], [4, 3, 2, 1, 0], [0, 1, 2, 3, 4], [6, 0, 1, 2, 3, 4, 5], [0, 1, 2, 3, 4, 5, 6, 7], [8, 0, 1, 2, 3, 4, 5, 6, 7]]]) (by kernel_rfl)

end Go.Proofs.Ytnehpfaafgnnpaa
