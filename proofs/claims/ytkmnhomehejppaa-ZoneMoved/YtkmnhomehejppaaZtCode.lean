import Derived.Test.YtkmnhomehejppaaZtSpec
import Derived.Test.YtkmnhomehejppaaProg
import Derived.KernelRfl
set_option linter.unusedSimpArgs false
set_option linter.unusedVariables false
set_option linter.deprecated false
namespace Go.Proofs.Zt
open Go.Aw
set_option maxRecDepth 100000

def zr4_0 : List AO := [⟨some 2, none, .box (.t 0)⟩,
  ⟨some 4, none, .mov (.c (.bool false))⟩]
def zr4_1 : List AO := [⟨some 16, none, .callF 9 []⟩,
  ⟨some 5, none, .mov (.t 16)⟩]
def zr4_2 : List AO := [⟨some 17, none, .mov (.t 1)⟩,
  ⟨some 18, none, .conv .i64 (.t 17)⟩,
  ⟨some 19, none, .bin .rem (.t 18) (.c (.int .i64 105190560))⟩,
  ⟨some 6, none, .mov (.t 19)⟩]
def zr4_3 : List AO := [⟨some 20, none, .load true 2 (.t 2)⟩,
  ⟨some 21, none, .callF 10 [(.t 20)]⟩,
  ⟨some 22, none, .un .not (.t 21)⟩]
def zr4_4 : List AO := [⟨some 23, none, .mov (.t 5)⟩,
  ⟨some 4, none, .mov (.t 23)⟩]
def zc4_0 : AC := .seq (.reg zr4_4) .ret
def zc4_1 : AC := .cond (.t 22) zc4_0 .skip
def zr4_5 : List AO := [⟨some 25, none, .load true 2 (.t 2)⟩,
  ⟨some 26, none, .mov (.t 6)⟩,
  ⟨some 27, none, .callF 11 [(.t 25), (.t 26)]⟩,
  ⟨some 24, none, .mov (.t 27)⟩,
  ⟨some 28, none, .ext 0 (.t 24)⟩,
  ⟨some 29, none, .ext 1 (.t 24)⟩,
  ⟨some 30, none, .ext 2 (.t 24)⟩,
  ⟨some 7, none, .mov (.t 28)⟩,
  ⟨some 8, none, .mov (.t 29)⟩,
  ⟨some 9, none, .mov (.t 30)⟩]
def zr4_6 : List AO := [⟨some 31, none, .mov (.t 9)⟩,
  ⟨some 32, none, .bin .neq (.t 31) (.c (.int .i64 0))⟩]
def zr4_7 : List AO := [⟨some 33, none, .mov (.t 5)⟩,
  ⟨some 34, none, .mov (.t 33)⟩,
  ⟨some 35, some (34, true), .mov (.t 7)⟩,
  ⟨some 36, some (34, true), .bin .eql (.t 35) (.c (.int .i64 0))⟩,
  ⟨some 37, none, .pick (.t 34) (.t 36) (.c (.bool false))⟩,
  ⟨some 38, none, .mov (.t 37)⟩,
  ⟨some 39, some (38, true), .mov (.t 8)⟩,
  ⟨some 40, some (38, true), .bin .eql (.t 39) (.c (.int .i64 0))⟩,
  ⟨some 41, none, .pick (.t 38) (.t 40) (.c (.bool false))⟩,
  ⟨some 4, none, .mov (.t 41)⟩]
def zc4_2 : AC := .seq (.reg zr4_7) .ret
def zc4_3 : AC := .cond (.t 32) zc4_2 .skip
def zr4_8 : List AO := [⟨some 42, none, .load true 2 (.t 2)⟩,
  ⟨some 43, none, .mov (.t 7)⟩,
  ⟨some 44, none, .mov (.t 8)⟩,
  ⟨some 45, none, .callF 20 [(.t 42), (.t 43), (.t 44)]⟩,
  ⟨some 10, none, .mov (.t 45)⟩]
def zr4_9 : List AO := [⟨some 11, none, .mov (.c (.bool false))⟩]
def zr4_10 : List AO := [⟨some 12, none, .mov (.c (.int .i64 0))⟩]
def zr4_11 : List AO := [⟨some 46, none, .mov (.t 12)⟩,
  ⟨some 47, none, .mov (.t 10)⟩,
  ⟨some 48, none, .len (.t 47)⟩,
  ⟨some 49, none, .bin .lss (.t 46) (.t 48)⟩]
def zc4_4 : AC := .cond (.t 49) .skip (.exit 0)
def zr4_12 : List (Bool × AO) := [(false, ⟨some 53, none, .load true 2 (.t 2)⟩),
  (false, ⟨some 54, none, .mov (.t 10)⟩),
  (true, ⟨some 55, none, .mov (.t 12)⟩),
  (true, ⟨some 56, none, .iadr 1 (.t 54) (.t 55)⟩),
  (true, ⟨some 57, none, .load false 1 (.t 56)⟩),
  (true, ⟨some 58, none, .callF 11 [(.t 53), (.t 57)]⟩),
  (true, ⟨some 52, none, .mov (.t 58)⟩),
  (false, ⟨some 59, none, .ext 0 (.t 52)⟩),
  (false, ⟨some 60, none, .ext 1 (.t 52)⟩),
  (false, ⟨some 61, none, .ext 2 (.t 52)⟩),
  (true, ⟨some 13, none, .mov (.t 59)⟩),
  (true, ⟨some 14, none, .mov (.t 60)⟩),
  (true, ⟨some 15, none, .mov (.t 61)⟩)]
def zr4_13 : List AO := [⟨some 62, none, .mov (.t 11)⟩,
  ⟨some 63, none, .mov (.t 62)⟩,
  ⟨some 64, some (63, false), .mov (.t 10)⟩,
  ⟨some 65, some (63, false), .mov (.t 12)⟩,
  ⟨some 66, some (63, false), .iadr 1 (.t 64) (.t 65)⟩,
  ⟨some 67, some (63, false), .load false 1 (.t 66)⟩,
  ⟨some 68, some (63, false), .mov (.t 6)⟩,
  ⟨some 69, some (63, false), .bin .eql (.t 67) (.t 68)⟩,
  ⟨some 70, none, .pick (.t 63) (.c (.bool true)) (.t 69)⟩,
  ⟨some 11, none, .mov (.t 70)⟩]
def zr4_14 : List (Bool × AO) := [(true, ⟨some 71, none, .mov (.t 15)⟩),
  (true, ⟨some 72, none, .bin .neq (.t 71) (.c (.int .i64 0))⟩),
  (true, ⟨some 73, none, .mov (.t 72)⟩),
  (false, ⟨some 74, some (73, false), .mov (.t 13)⟩),
  (true, ⟨some 75, some (73, false), .mov (.t 7)⟩),
  (true, ⟨some 76, some (73, false), .bin .neq (.t 74) (.t 75)⟩),
  (true, ⟨some 77, none, .pick (.t 73) (.c (.bool true)) (.t 76)⟩),
  (true, ⟨some 78, none, .mov (.t 77)⟩),
  (false, ⟨some 79, some (78, false), .mov (.t 14)⟩),
  (true, ⟨some 80, some (78, false), .mov (.t 8)⟩),
  (true, ⟨some 81, some (78, false), .bin .neq (.t 79) (.t 80)⟩),
  (true, ⟨some 82, none, .pick (.t 78) (.c (.bool true)) (.t 81)⟩),
  (true, ⟨some 83, none, .mov (.t 82)⟩),
  (true, ⟨some 84, some (83, false), .mov (.t 12)⟩),
  (true, ⟨some 85, some (83, false), .bin .gtr (.t 84) (.c (.int .i64 0))⟩),
  (true, ⟨some 86, some (83, false), .mov (.t 85)⟩),
  (false, ⟨some 87, some (86, true), .mov (.t 10)⟩),
  (false, ⟨some 88, some (86, true), .mov (.t 12)⟩),
  (false, ⟨some 89, some (86, true), .iadr 1 (.t 87) (.t 88)⟩),
  (false, ⟨some 90, some (86, true), .load false 1 (.t 89)⟩),
  (true, ⟨some 91, some (86, true), .mov (.t 10)⟩),
  (true, ⟨some 92, some (86, true), .iadr 1 (.t 91) (.c (.int .i64 0))⟩),
  (true, ⟨some 93, some (86, true), .load false 1 (.t 92)⟩),
  (true, ⟨some 94, some (86, true), .bin .leq (.t 90) (.t 93)⟩),
  (true, ⟨some 95, some (83, false), .pick (.t 86) (.t 94) (.c (.bool false))⟩),
  (true, ⟨some 96, none, .pick (.t 83) (.c (.bool true)) (.t 95)⟩)]
def zr4_15 : List AO := [⟨some 4, none, .mov (.c (.bool false))⟩]
def zc4_5 : AC := .seq (.reg zr4_15) .ret
def zc4_6 : AC := .cond (.t 96) zc4_5 .skip
def zc4_7 : AC := .seq (.regD true zr4_14) zc4_6
def zc4_8 : AC := .seq (.reg zr4_13) zc4_7
def zc4_9 : AC := .seq (.regD true zr4_12) zc4_8
def zr4_16 : List AO := [⟨some 50, none, .mov (.t 12)⟩,
  ⟨some 51, none, .bin .add (.t 50) (.c (.int .i64 1))⟩,
  ⟨some 12, none, .mov (.t 51)⟩]
def zc4_10 : AC := .reg zr4_16
def zc4_11 : AC := .seq (.block 1 zc4_9) zc4_10
def zc4_12 : AC := .seq (.seq (.reg zr4_11) zc4_4) zc4_11
def zc4_13 : AC := .loop zc4_12
def zc4_14 : AC := .block 0 zc4_13
def zr4_17 : List AO := [⟨some 97, none, .mov (.t 5)⟩,
  ⟨some 98, none, .mov (.t 97)⟩,
  ⟨some 99, some (98, true), .mov (.t 11)⟩,
  ⟨some 100, none, .pick (.t 98) (.t 99) (.c (.bool false))⟩,
  ⟨some 101, none, .mov (.t 100)⟩,
  ⟨some 102, some (101, true), .mov (.t 10)⟩,
  ⟨some 103, some (101, true), .len (.t 102)⟩,
  ⟨some 104, some (101, true), .bin .leq (.t 103) (.c (.int .i64 2))⟩,
  ⟨some 105, none, .pick (.t 101) (.t 104) (.c (.bool false))⟩,
  ⟨some 4, none, .mov (.t 105)⟩]
def zc4_15 : AC := .seq (.reg zr4_17) .ret
def zc4_16 : AC := .seq (.seq (.reg zr4_10) zc4_14) zc4_15
def zc4_17 : AC := .seq (.reg zr4_9) zc4_16
def zc4_18 : AC := .seq (.reg zr4_8) zc4_17
def zc4_19 : AC := .seq (.seq (.reg zr4_6) zc4_3) zc4_18
def zc4_20 : AC := .seq (.reg zr4_5) zc4_19
def zc4_21 : AC := .seq (.seq (.reg zr4_3) zc4_1) zc4_20
def zc4_22 : AC := .seq (.reg zr4_2) zc4_21
def zc4_23 : AC := .seq (.reg zr4_1) zc4_22
def zc4_24 : AC := .seq (.reg zr4_0) zc4_23
def zc4 : AC := zc4_24
theorem ok4 : Try.f4.body.bind (compCode Try.prog 106) = some zc4 := by kernel_rfl
theorem nt4 : Try.f4.ntmps = 106 := by kernel_rfl
theorem res4 : compRes Try.prog Try.f4.results.toList = some [.tmp 4] := by kernel_rfl
def zr5_0 : List AO := [⟨some 4, none, .box (.t 0)⟩,
  ⟨some 8, none, .mov (.c (.bool false))⟩]
def zr5_1 : List AO := [⟨some 24, none, .callF 9 []⟩,
  ⟨some 9, none, .mov (.t 24)⟩]
def zr5_2 : List AO := [⟨some 25, none, .load true 2 (.t 4)⟩,
  ⟨some 26, none, .callF 10 [(.t 25)]⟩,
  ⟨some 27, none, .un .not (.t 26)⟩]
def zr5_3 : List AO := [⟨some 28, none, .mov (.t 9)⟩,
  ⟨some 8, none, .mov (.t 28)⟩]
def zc5_0 : AC := .seq (.reg zr5_3) .ret
def zc5_1 : AC := .cond (.t 27) zc5_0 .skip
def zr5_4 : List AO := [⟨some 29, none, .mov (.t 1)⟩,
  ⟨some 30, none, .conv .i64 (.t 29)⟩,
  ⟨some 31, none, .bin .rem (.t 30) (.c (.int .i64 73049))⟩,
  ⟨some 32, none, .mov (.t 2)⟩,
  ⟨some 33, none, .conv .i64 (.t 32)⟩,
  ⟨some 34, none, .bin .rem (.t 33) (.c (.int .i64 1440))⟩,
  ⟨some 10, none, .mov (.t 31)⟩,
  ⟨some 11, none, .mov (.t 34)⟩]
def zr5_5 : List AO := [⟨some 35, none, .load true 2 (.t 4)⟩,
  ⟨some 36, none, .mov (.t 10)⟩,
  ⟨some 37, none, .mov (.t 11)⟩,
  ⟨some 38, none, .callF 20 [(.t 35), (.t 36), (.t 37)]⟩,
  ⟨some 12, none, .mov (.t 38)⟩]
def zr5_6 : List AO := [⟨some 40, none, .load true 2 (.t 4)⟩,
  ⟨some 41, none, .mov (.t 10)⟩,
  ⟨some 42, none, .mov (.t 11)⟩,
  ⟨some 43, none, .mov (.t 3)⟩,
  ⟨some 44, none, .callF 13 [(.t 40), (.t 41), (.t 42), (.t 43)]⟩,
  ⟨some 39, none, .mov (.t 44)⟩,
  ⟨some 45, none, .ext 0 (.t 39)⟩,
  ⟨some 46, none, .ext 1 (.t 39)⟩,
  ⟨some 13, none, .mov (.t 45)⟩,
  ⟨some 14, none, .mov (.t 46)⟩]
def zr5_7 : List AO := [⟨some 47, none, .mov (.t 12)⟩,
  ⟨some 48, none, .len (.t 47)⟩,
  ⟨some 49, none, .bin .gtr (.t 48) (.c (.int .i64 0))⟩]
def zr5_8 : List AO := [⟨some 50, none, .mov (.t 12)⟩,
  ⟨some 51, none, .iadr 1 (.t 50) (.c (.int .i64 0))⟩,
  ⟨some 52, none, .load false 1 (.t 51)⟩,
  ⟨some 15, none, .mov (.t 52)⟩]
def zr5_9 : List AO := [⟨some 53, none, .mov (.t 3)⟩]
def zr5_10 : List AO := [⟨some 54, none, .mov (.t 12)⟩,
  ⟨some 55, none, .mov (.t 12)⟩,
  ⟨some 56, none, .len (.t 55)⟩,
  ⟨some 57, none, .bin .sub (.t 56) (.c (.int .i64 1))⟩,
  ⟨some 58, none, .iadr 1 (.t 54) (.t 57)⟩,
  ⟨some 59, none, .load false 1 (.t 58)⟩,
  ⟨some 15, none, .mov (.t 59)⟩]
def zc5_2 : AC := .reg zr5_10
def zc5_3 : AC := .cond (.t 53) zc5_2 .skip
def zr5_11 : List AO := [⟨some 60, none, .mov (.t 9)⟩,
  ⟨some 61, none, .mov (.t 60)⟩,
  ⟨some 62, some (61, true), .mov (.t 14)⟩,
  ⟨some 63, some (61, true), .bin .eql (.t 62) (.c (.int .i64 0))⟩,
  ⟨some 64, none, .pick (.t 61) (.t 63) (.c (.bool false))⟩,
  ⟨some 65, none, .mov (.t 64)⟩,
  ⟨some 66, some (65, true), .mov (.t 13)⟩,
  ⟨some 67, some (65, true), .mov (.t 15)⟩,
  ⟨some 68, some (65, true), .bin .eql (.t 66) (.t 67)⟩,
  ⟨some 69, none, .pick (.t 65) (.t 68) (.c (.bool false))⟩,
  ⟨some 8, none, .mov (.t 69)⟩]
def zc5_4 : AC := .seq (.reg zr5_11) .ret
def zc5_5 : AC := .seq (.seq (.reg zr5_9) zc5_3) zc5_4
def zc5_6 : AC := .seq (.reg zr5_8) zc5_5
def zc5_7 : AC := .cond (.t 49) zc5_6 .skip
def zr5_12 : List AO := [⟨some 70, none, .mov (.t 14)⟩,
  ⟨some 71, none, .bin .neq (.t 70) (.c (.int .i64 0))⟩]
def zr5_13 : List AO := [⟨some 72, none, .mov (.t 9)⟩,
  ⟨some 73, none, .mov (.t 72)⟩,
  ⟨some 74, some (73, true), .mov (.t 13)⟩,
  ⟨some 75, some (73, true), .bin .eql (.t 74) (.c (.int .i64 0))⟩,
  ⟨some 76, none, .pick (.t 73) (.t 75) (.c (.bool false))⟩,
  ⟨some 8, none, .mov (.t 76)⟩]
def zc5_8 : AC := .seq (.reg zr5_13) .ret
def zc5_9 : AC := .cond (.t 71) zc5_8 .skip
def zr5_14 : List AO := [⟨some 78, none, .load true 2 (.t 4)⟩,
  ⟨some 79, none, .mov (.t 13)⟩,
  ⟨some 80, none, .callF 11 [(.t 78), (.t 79)]⟩,
  ⟨some 77, none, .mov (.t 80)⟩,
  ⟨some 81, none, .ext 0 (.t 77)⟩,
  ⟨some 82, none, .ext 1 (.t 77)⟩,
  ⟨some 83, none, .ext 2 (.t 77)⟩,
  ⟨some 16, none, .mov (.t 81)⟩,
  ⟨some 17, none, .mov (.t 82)⟩,
  ⟨some 18, none, .mov (.t 83)⟩]
def zr5_15 : List AO := [⟨some 85, none, .load true 2 (.t 4)⟩,
  ⟨some 86, none, .mov (.t 13)⟩,
  ⟨some 87, none, .bin .sub (.t 86) (.c (.int .i64 1))⟩,
  ⟨some 88, none, .callF 11 [(.t 85), (.t 87)]⟩,
  ⟨some 84, none, .mov (.t 88)⟩,
  ⟨some 89, none, .ext 0 (.t 84)⟩,
  ⟨some 90, none, .ext 1 (.t 84)⟩,
  ⟨some 91, none, .ext 2 (.t 84)⟩,
  ⟨some 19, none, .mov (.t 89)⟩,
  ⟨some 20, none, .mov (.t 90)⟩,
  ⟨some 21, none, .mov (.t 91)⟩]
def zr5_16 : List AO := [⟨some 92, none, .mov (.t 18)⟩,
  ⟨some 93, none, .bin .eql (.t 92) (.c (.int .i64 2))⟩,
  ⟨some 94, none, .mov (.t 93)⟩,
  ⟨some 95, some (94, false), .mov (.t 18)⟩,
  ⟨some 96, some (94, false), .bin .eql (.t 95) (.c (.int .i64 0))⟩,
  ⟨some 97, some (94, false), .mov (.t 96)⟩,
  ⟨some 98, some (97, true), .mov (.t 16)⟩,
  ⟨some 99, some (97, true), .bin .mul (.t 98) (.c (.int .i64 1440))⟩,
  ⟨some 100, some (97, true), .mov (.t 17)⟩,
  ⟨some 101, some (97, true), .bin .add (.t 99) (.t 100)⟩,
  ⟨some 102, some (97, true), .mov (.t 10)⟩,
  ⟨some 103, some (97, true), .bin .mul (.t 102) (.c (.int .i64 1440))⟩,
  ⟨some 104, some (97, true), .mov (.t 11)⟩,
  ⟨some 105, some (97, true), .bin .add (.t 103) (.t 104)⟩,
  ⟨some 106, some (97, true), .bin .gtr (.t 101) (.t 105)⟩,
  ⟨some 107, some (94, false), .pick (.t 97) (.t 106) (.c (.bool false))⟩,
  ⟨some 108, none, .pick (.t 94) (.c (.bool true)) (.t 107)⟩,
  ⟨some 22, none, .mov (.t 108)⟩]
def zr5_17 : List AO := [⟨some 109, none, .mov (.t 21)⟩,
  ⟨some 110, none, .bin .eql (.t 109) (.c (.int .i64 2))⟩,
  ⟨some 111, none, .mov (.t 110)⟩,
  ⟨some 112, some (111, false), .mov (.t 21)⟩,
  ⟨some 113, some (111, false), .bin .eql (.t 112) (.c (.int .i64 0))⟩,
  ⟨some 114, some (111, false), .mov (.t 113)⟩,
  ⟨some 115, some (114, true), .mov (.t 19)⟩,
  ⟨some 116, some (114, true), .bin .mul (.t 115) (.c (.int .i64 1440))⟩,
  ⟨some 117, some (114, true), .mov (.t 20)⟩,
  ⟨some 118, some (114, true), .bin .add (.t 116) (.t 117)⟩,
  ⟨some 119, some (114, true), .mov (.t 10)⟩,
  ⟨some 120, some (114, true), .bin .mul (.t 119) (.c (.int .i64 1440))⟩,
  ⟨some 121, some (114, true), .mov (.t 11)⟩,
  ⟨some 122, some (114, true), .bin .add (.t 120) (.t 121)⟩,
  ⟨some 123, some (114, true), .bin .lss (.t 118) (.t 122)⟩,
  ⟨some 124, some (111, false), .pick (.t 114) (.t 123) (.c (.bool false))⟩,
  ⟨some 125, none, .pick (.t 111) (.c (.bool true)) (.t 124)⟩,
  ⟨some 23, none, .mov (.t 125)⟩]
def zr5_18 : List AO := [⟨some 126, none, .mov (.t 9)⟩,
  ⟨some 127, none, .mov (.t 126)⟩,
  ⟨some 128, some (127, true), .mov (.t 22)⟩,
  ⟨some 129, none, .pick (.t 127) (.t 128) (.c (.bool false))⟩,
  ⟨some 130, none, .mov (.t 129)⟩,
  ⟨some 131, some (130, true), .mov (.t 23)⟩,
  ⟨some 132, none, .pick (.t 130) (.t 131) (.c (.bool false))⟩,
  ⟨some 8, none, .mov (.t 132)⟩]
def zc5_10 : AC := .seq (.reg zr5_18) .ret
def zc5_11 : AC := .seq (.reg zr5_17) zc5_10
def zc5_12 : AC := .seq (.reg zr5_16) zc5_11
def zc5_13 : AC := .seq (.reg zr5_15) zc5_12
def zc5_14 : AC := .seq (.reg zr5_14) zc5_13
def zc5_15 : AC := .seq (.seq (.reg zr5_12) zc5_9) zc5_14
def zc5_16 : AC := .seq (.seq (.reg zr5_7) zc5_7) zc5_15
def zc5_17 : AC := .seq (.reg zr5_6) zc5_16
def zc5_18 : AC := .seq (.reg zr5_5) zc5_17
def zc5_19 : AC := .seq (.reg zr5_4) zc5_18
def zc5_20 : AC := .seq (.seq (.reg zr5_2) zc5_1) zc5_19
def zc5_21 : AC := .seq (.reg zr5_1) zc5_20
def zc5_22 : AC := .seq (.reg zr5_0) zc5_21
def zc5 : AC := zc5_22
theorem ok5 : Try.f5.body.bind (compCode Try.prog 133) = some zc5 := by kernel_rfl
theorem nt5 : Try.f5.ntmps = 133 := by kernel_rfl
theorem res5 : compRes Try.prog Try.f5.results.toList = some [.tmp 8] := by kernel_rfl
def zr6_0 : List AO := [⟨some 4, none, .mov (.c (.bool false))⟩]
def zr6_1 : List AO := [⟨some 11, none, .callF 9 []⟩,
  ⟨some 5, none, .mov (.t 11)⟩]
def zr6_2 : List AO := [⟨some 12, none, .mov (.t 0)⟩,
  ⟨some 13, none, .bld [.int .i64 0, .nil] [(0, 1, (.t 12))]⟩,
  ⟨some 6, none, .alloc [.int .i64 0, .nil]⟩,
  ⟨none, none, .store 2 (.t 6) (.t 13)⟩]
def zr6_3 : List AO := [⟨some 14, none, .mov (.t 1)⟩,
  ⟨some 15, none, .conv .i64 (.t 14)⟩,
  ⟨some 16, none, .bin .rem (.t 15) (.c (.int .i64 105190560))⟩,
  ⟨some 7, none, .mov (.t 16)⟩]
def zr6_4 : List AO := [⟨some 18, none, .load true 2 (.t 6)⟩,
  ⟨some 19, none, .mov (.t 7)⟩,
  ⟨some 20, none, .callF 11 [(.t 18), (.t 19)]⟩,
  ⟨some 17, none, .mov (.t 20)⟩,
  ⟨some 21, none, .ext 0 (.t 17)⟩,
  ⟨some 22, none, .ext 1 (.t 17)⟩,
  ⟨some 23, none, .ext 2 (.t 17)⟩,
  ⟨some 8, none, .mov (.t 21)⟩,
  ⟨some 9, none, .mov (.t 22)⟩,
  ⟨some 10, none, .mov (.t 23)⟩]
def zr6_5 : List AO := [⟨some 24, none, .mov (.t 0)⟩,
  ⟨some 25, none, .bin .lss (.t 24) (.c (.int .i64 (-840)))⟩,
  ⟨some 26, none, .mov (.t 25)⟩,
  ⟨some 27, some (26, false), .mov (.t 0)⟩,
  ⟨some 28, some (26, false), .bin .gtr (.t 27) (.c (.int .i64 840))⟩,
  ⟨some 29, none, .pick (.t 26) (.c (.bool true)) (.t 28)⟩]
def zr6_6 : List AO := [⟨some 30, none, .mov (.t 5)⟩,
  ⟨some 31, none, .mov (.t 30)⟩,
  ⟨some 32, some (31, true), .mov (.t 10)⟩,
  ⟨some 33, some (31, true), .bin .eql (.t 32) (.c (.int .i64 1))⟩,
  ⟨some 34, none, .pick (.t 31) (.t 33) (.c (.bool false))⟩,
  ⟨some 35, none, .mov (.t 34)⟩,
  ⟨some 36, some (35, true), .load true 2 (.t 6)⟩,
  ⟨some 37, some (35, true), .callF 17 [(.t 36)]⟩,
  ⟨some 38, some (35, true), .un .not (.t 37)⟩,
  ⟨some 39, none, .pick (.t 35) (.t 38) (.c (.bool false))⟩,
  ⟨some 4, none, .mov (.t 39)⟩]
def zc6_0 : AC := .seq (.reg zr6_6) .ret
def zc6_1 : AC := .cond (.t 29) zc6_0 .skip
def zr6_7 : List AO := [⟨some 40, none, .mov (.t 7)⟩,
  ⟨some 41, none, .mov (.t 0)⟩,
  ⟨some 42, none, .bin .add (.t 40) (.t 41)⟩,
  ⟨some 43, none, .bin .lss (.t 42) (.c (.int .i64 0))⟩,
  ⟨some 44, none, .mov (.t 43)⟩,
  ⟨some 45, some (44, false), .mov (.t 7)⟩,
  ⟨some 46, some (44, false), .mov (.t 0)⟩,
  ⟨some 47, some (44, false), .bin .add (.t 45) (.t 46)⟩,
  ⟨some 48, some (44, false), .bin .gtr (.t 47) (.c (.int .i64 105190559))⟩,
  ⟨some 49, none, .pick (.t 44) (.c (.bool true)) (.t 48)⟩]
def zr6_8 : List AO := [⟨some 50, none, .mov (.t 5)⟩,
  ⟨some 51, none, .mov (.t 50)⟩,
  ⟨some 52, some (51, true), .mov (.t 10)⟩,
  ⟨some 53, some (51, true), .bin .eql (.t 52) (.c (.int .i64 2))⟩,
  ⟨some 54, none, .pick (.t 51) (.t 53) (.c (.bool false))⟩,
  ⟨some 4, none, .mov (.t 54)⟩]
def zc6_2 : AC := .seq (.reg zr6_8) .ret
def zc6_3 : AC := .cond (.t 49) zc6_2 .skip
def zr6_9 : List AO := [⟨some 55, none, .mov (.t 5)⟩,
  ⟨some 56, none, .mov (.t 55)⟩,
  ⟨some 57, some (56, true), .mov (.t 10)⟩,
  ⟨some 58, some (56, true), .bin .eql (.t 57) (.c (.int .i64 0))⟩,
  ⟨some 59, none, .pick (.t 56) (.t 58) (.c (.bool false))⟩,
  ⟨some 60, none, .mov (.t 59)⟩,
  ⟨some 61, some (60, true), .mov (.t 9)⟩,
  ⟨some 62, some (60, true), .bin .geq (.t 61) (.c (.int .i64 0))⟩,
  ⟨some 63, none, .pick (.t 60) (.t 62) (.c (.bool false))⟩,
  ⟨some 64, none, .mov (.t 63)⟩,
  ⟨some 65, some (64, true), .mov (.t 9)⟩,
  ⟨some 66, some (64, true), .bin .lss (.t 65) (.c (.int .i64 1440))⟩,
  ⟨some 67, none, .pick (.t 64) (.t 66) (.c (.bool false))⟩,
  ⟨some 68, none, .mov (.t 67)⟩,
  ⟨some 69, some (68, true), .mov (.t 8)⟩,
  ⟨some 70, some (68, true), .bin .mul (.t 69) (.c (.int .i64 1440))⟩,
  ⟨some 71, some (68, true), .mov (.t 9)⟩,
  ⟨some 72, some (68, true), .bin .add (.t 70) (.t 71)⟩,
  ⟨some 73, some (68, true), .mov (.t 7)⟩,
  ⟨some 74, some (68, true), .mov (.t 0)⟩,
  ⟨some 75, some (68, true), .bin .add (.t 73) (.t 74)⟩,
  ⟨some 76, some (68, true), .bin .eql (.t 72) (.t 75)⟩,
  ⟨some 77, none, .pick (.t 68) (.t 76) (.c (.bool false))⟩,
  ⟨some 78, none, .mov (.t 77)⟩,
  ⟨some 79, some (78, true), .load true 2 (.t 6)⟩,
  ⟨some 80, some (78, true), .mov (.t 8)⟩,
  ⟨some 81, some (78, true), .mov (.t 9)⟩,
  ⟨some 82, some (78, true), .callF 20 [(.t 79), (.t 80), (.t 81)]⟩,
  ⟨some 83, some (78, true), .mov (.t 7)⟩,
  ⟨some 84, some (78, true), .mkrow 1 1 [.int .i64 0] [(0, 1, (.t 83))]⟩,
  ⟨some 85, some (78, true), .callF 19 [(.t 82), (.t 84)]⟩,
  ⟨some 86, none, .pick (.t 78) (.t 85) (.c (.bool false))⟩,
  ⟨some 4, none, .mov (.t 86)⟩]
def zc6_4 : AC := .seq (.reg zr6_9) .ret
def zc6_5 : AC := .seq (.seq (.reg zr6_7) zc6_3) zc6_4
def zc6_6 : AC := .seq (.seq (.reg zr6_5) zc6_1) zc6_5
def zc6_7 : AC := .seq (.reg zr6_4) zc6_6
def zc6_8 : AC := .seq (.reg zr6_3) zc6_7
def zc6_9 : AC := .seq (.reg zr6_2) zc6_8
def zc6_10 : AC := .seq (.reg zr6_1) zc6_9
def zc6_11 : AC := .seq (.reg zr6_0) zc6_10
def zc6 : AC := zc6_11
theorem ok6 : Try.f6.body.bind (compCode Try.prog 87) = some zc6 := by kernel_rfl
theorem nt6 : Try.f6.ntmps = 87 := by kernel_rfl
theorem res6 : compRes Try.prog Try.f6.results.toList = some [.tmp 4] := by kernel_rfl
def zr7_0 : List AO := [⟨some 3, none, .box (.t 0)⟩,
  ⟨some 6, none, .mov (.c (.bool false))⟩]
def zr7_1 : List AO := [⟨some 22, none, .callF 9 []⟩,
  ⟨some 7, none, .mov (.t 22)⟩]
def zr7_2 : List AO := [⟨some 23, none, .load true 2 (.t 3)⟩,
  ⟨some 24, none, .callF 10 [(.t 23)]⟩,
  ⟨some 25, none, .un .not (.t 24)⟩]
def zr7_3 : List AO := [⟨some 26, none, .mov (.t 7)⟩,
  ⟨some 6, none, .mov (.t 26)⟩]
def zc7_0 : AC := .seq (.reg zr7_3) .ret
def zc7_1 : AC := .cond (.t 25) zc7_0 .skip
def zr7_4 : List AO := [⟨some 27, none, .mov (.t 1)⟩,
  ⟨some 28, none, .conv .i64 (.t 27)⟩,
  ⟨some 29, none, .bin .rem (.t 28) (.c (.int .i64 73047))⟩,
  ⟨some 8, none, .mov (.t 29)⟩]
def zr7_5 : List AO := [⟨some 31, none, .load true 2 (.t 3)⟩,
  ⟨some 32, none, .mov (.t 8)⟩,
  ⟨some 33, none, .callF 15 [(.t 31), (.t 32)]⟩,
  ⟨some 30, none, .mov (.t 33)⟩,
  ⟨some 34, none, .ext 0 (.t 30)⟩,
  ⟨some 35, none, .ext 1 (.t 30)⟩,
  ⟨some 36, none, .ext 2 (.t 30)⟩,
  ⟨some 9, none, .mov (.t 34)⟩,
  ⟨some 10, none, .mov (.t 35)⟩,
  ⟨some 11, none, .mov (.t 36)⟩]
def zr7_6 : List AO := [⟨some 38, none, .load true 2 (.t 3)⟩,
  ⟨some 39, none, .mov (.t 8)⟩,
  ⟨some 40, none, .bin .add (.t 39) (.c (.int .i64 1))⟩,
  ⟨some 41, none, .callF 15 [(.t 38), (.t 40)]⟩,
  ⟨some 37, none, .mov (.t 41)⟩,
  ⟨some 42, none, .ext 0 (.t 37)⟩,
  ⟨some 43, none, .ext 1 (.t 37)⟩,
  ⟨some 44, none, .ext 2 (.t 37)⟩,
  ⟨some 12, none, .mov (.t 42)⟩,
  ⟨some 13, none, .mov (.t 43)⟩,
  ⟨some 14, none, .mov (.t 44)⟩]
def zr7_7 : List AO := [⟨some 45, none, .mov (.t 11)⟩,
  ⟨some 46, none, .bin .neq (.t 45) (.c (.int .i64 0))⟩]
def zr7_8 : List AO := [⟨some 47, none, .mov (.t 7)⟩,
  ⟨some 48, none, .mov (.t 47)⟩,
  ⟨some 49, some (48, true), .mov (.t 9)⟩,
  ⟨some 50, some (48, true), .bin .eql (.t 49) (.c (.int .i64 0))⟩,
  ⟨some 51, none, .pick (.t 48) (.t 50) (.c (.bool false))⟩,
  ⟨some 52, none, .mov (.t 51)⟩,
  ⟨some 53, some (52, true), .mov (.t 10)⟩,
  ⟨some 54, some (52, true), .bin .eql (.t 53) (.c (.int .i64 0))⟩,
  ⟨some 55, none, .pick (.t 52) (.t 54) (.c (.bool false))⟩,
  ⟨some 6, none, .mov (.t 55)⟩]
def zc7_2 : AC := .seq (.reg zr7_8) .ret
def zc7_3 : AC := .cond (.t 46) zc7_2 .skip
def zr7_9 : List AO := [⟨some 56, none, .mov (.t 9)⟩,
  ⟨some 57, none, .mov (.t 10)⟩,
  ⟨some 58, none, .bin .gtr (.t 56) (.t 57)⟩,
  ⟨some 59, none, .mov (.t 58)⟩,
  ⟨some 60, some (59, false), .mov (.t 14)⟩,
  ⟨some 61, some (59, false), .bin .eql (.t 60) (.c (.int .i64 0))⟩,
  ⟨some 62, some (59, false), .mov (.t 61)⟩,
  ⟨some 63, some (62, true), .mov (.t 12)⟩,
  ⟨some 64, some (62, true), .mov (.t 10)⟩,
  ⟨some 65, some (62, true), .bin .neq (.t 63) (.t 64)⟩,
  ⟨some 66, some (59, false), .pick (.t 62) (.t 65) (.c (.bool false))⟩,
  ⟨some 67, none, .pick (.t 59) (.c (.bool true)) (.t 66)⟩,
  ⟨some 68, none, .mov (.t 67)⟩,
  ⟨some 69, some (68, false), .mov (.t 9)⟩,
  ⟨some 70, some (68, false), .bin .lss (.t 69) (.c (.int .i64 0))⟩,
  ⟨some 71, none, .pick (.t 68) (.c (.bool true)) (.t 70)⟩,
  ⟨some 72, none, .mov (.t 71)⟩,
  ⟨some 73, some (72, false), .mov (.t 9)⟩,
  ⟨some 74, some (72, false), .bin .gtr (.t 73) (.c (.int .i64 105190559))⟩,
  ⟨some 75, none, .pick (.t 72) (.c (.bool true)) (.t 74)⟩]
def zr7_10 : List AO := [⟨some 6, none, .mov (.c (.bool false))⟩]
def zc7_4 : AC := .seq (.reg zr7_10) .ret
def zc7_5 : AC := .cond (.t 75) zc7_4 .skip
def zr7_11 : List AO := [⟨some 76, none, .mov (.t 2)⟩,
  ⟨some 77, none, .conv .i64 (.t 76)⟩,
  ⟨some 78, none, .bin .rem (.t 77) (.c (.int .i64 105190560))⟩,
  ⟨some 15, none, .mov (.t 78)⟩]
def zr7_12 : List AO := [⟨some 80, none, .load true 2 (.t 3)⟩,
  ⟨some 81, none, .mov (.t 15)⟩,
  ⟨some 82, none, .callF 11 [(.t 80), (.t 81)]⟩,
  ⟨some 79, none, .mov (.t 82)⟩,
  ⟨some 83, none, .ext 0 (.t 79)⟩,
  ⟨some 84, none, .ext 1 (.t 79)⟩,
  ⟨some 85, none, .ext 2 (.t 79)⟩,
  ⟨some 16, none, .mov (.t 83)⟩,
  ⟨some 17, none, .mov (.t 84)⟩,
  ⟨some 18, none, .mov (.t 85)⟩]
def zr7_13 : List AO := [⟨some 87, none, .load true 2 (.t 3)⟩,
  ⟨some 88, none, .mov (.t 9)⟩,
  ⟨some 89, none, .callF 11 [(.t 87), (.t 88)]⟩,
  ⟨some 86, none, .mov (.t 89)⟩,
  ⟨some 90, none, .ext 0 (.t 86)⟩,
  ⟨some 91, none, .ext 1 (.t 86)⟩,
  ⟨some 92, none, .ext 2 (.t 86)⟩,
  ⟨some 19, none, .mov (.t 90)⟩,
  ⟨some 20, none, .mov (.t 91)⟩,
  ⟨some 21, none, .mov (.t 92)⟩]
def zr7_14 : List AO := [⟨some 93, none, .mov (.t 7)⟩,
  ⟨some 94, none, .mov (.t 93)⟩,
  ⟨some 95, some (94, true), .mov (.t 21)⟩,
  ⟨some 96, some (94, true), .bin .eql (.t 95) (.c (.int .i64 0))⟩,
  ⟨some 97, none, .pick (.t 94) (.t 96) (.c (.bool false))⟩,
  ⟨some 98, none, .mov (.t 97)⟩,
  ⟨some 99, some (98, true), .mov (.t 19)⟩,
  ⟨some 100, some (98, true), .mov (.t 8)⟩,
  ⟨some 101, some (98, true), .bin .geq (.t 99) (.t 100)⟩,
  ⟨some 102, none, .pick (.t 98) (.t 101) (.c (.bool false))⟩,
  ⟨some 103, none, .mov (.t 102)⟩,
  ⟨some 104, some (103, true), .mov (.t 15)⟩,
  ⟨some 105, some (103, true), .mov (.t 9)⟩,
  ⟨some 106, some (103, true), .bin .geq (.t 104) (.t 105)⟩,
  ⟨some 107, some (103, true), .mov (.t 106)⟩,
  ⟨some 108, some (107, false), .mov (.t 18)⟩,
  ⟨some 109, some (107, false), .bin .neq (.t 108) (.c (.int .i64 0))⟩,
  ⟨some 110, some (103, true), .pick (.t 107) (.c (.bool true)) (.t 109)⟩,
  ⟨some 111, some (103, true), .mov (.t 110)⟩,
  ⟨some 112, some (111, false), .mov (.t 16)⟩,
  ⟨some 113, some (111, false), .mov (.t 8)⟩,
  ⟨some 114, some (111, false), .bin .lss (.t 112) (.t 113)⟩,
  ⟨some 115, some (103, true), .pick (.t 111) (.c (.bool true)) (.t 114)⟩,
  ⟨some 116, none, .pick (.t 103) (.t 115) (.c (.bool false))⟩,
  ⟨some 6, none, .mov (.t 116)⟩]
def zc7_6 : AC := .seq (.reg zr7_14) .ret
def zc7_7 : AC := .seq (.reg zr7_13) zc7_6
def zc7_8 : AC := .seq (.reg zr7_12) zc7_7
def zc7_9 : AC := .seq (.reg zr7_11) zc7_8
def zc7_10 : AC := .seq (.seq (.reg zr7_9) zc7_5) zc7_9
def zc7_11 : AC := .seq (.seq (.reg zr7_7) zc7_3) zc7_10
def zc7_12 : AC := .seq (.reg zr7_6) zc7_11
def zc7_13 : AC := .seq (.reg zr7_5) zc7_12
def zc7_14 : AC := .seq (.reg zr7_4) zc7_13
def zc7_15 : AC := .seq (.seq (.reg zr7_2) zc7_1) zc7_14
def zc7_16 : AC := .seq (.reg zr7_1) zc7_15
def zc7_17 : AC := .seq (.reg zr7_0) zc7_16
def zc7 : AC := zc7_17
theorem ok7 : Try.f7.body.bind (compCode Try.prog 117) = some zc7 := by kernel_rfl
theorem nt7 : Try.f7.ntmps = 117 := by kernel_rfl
theorem res7 : compRes Try.prog Try.f7.results.toList = some [.tmp 6] := by kernel_rfl
def zr8_0 : List AO := [⟨some 3, none, .box (.t 0)⟩,
  ⟨some 6, none, .mov (.c (.bool false))⟩]
def zr8_1 : List AO := [⟨some 17, none, .callF 9 []⟩,
  ⟨some 7, none, .mov (.t 17)⟩]
def zr8_2 : List AO := [⟨some 18, none, .mov (.t 1)⟩,
  ⟨some 19, none, .conv .i64 (.t 18)⟩,
  ⟨some 20, none, .bin .rem (.t 19) (.c (.int .i64 1681))⟩,
  ⟨some 8, none, .mov (.t 20)⟩]
def zr8_3 : List AO := [⟨some 21, none, .load true 2 (.t 3)⟩,
  ⟨some 22, none, .callF 10 [(.t 21)]⟩,
  ⟨some 23, none, .un .not (.t 22)⟩,
  ⟨some 24, none, .mov (.t 23)⟩,
  ⟨some 25, some (24, false), .load true 2 (.t 3)⟩,
  ⟨some 26, some (24, false), .callF 18 [(.t 25)]⟩,
  ⟨some 27, some (24, false), .un .not (.t 26)⟩,
  ⟨some 28, none, .pick (.t 24) (.c (.bool true)) (.t 27)⟩]
def zr8_4 : List AO := [⟨some 29, none, .mov (.t 7)⟩,
  ⟨some 6, none, .mov (.t 29)⟩]
def zc8_0 : AC := .seq (.reg zr8_4) .ret
def zc8_1 : AC := .cond (.t 28) zc8_0 .skip
def zr8_5 : List AO := [⟨some 30, none, .mov (.t 2)⟩,
  ⟨some 31, none, .conv .i64 (.t 30)⟩,
  ⟨some 32, none, .bin .rem (.t 31) (.c (.int .i64 105190560))⟩,
  ⟨some 9, none, .mov (.t 32)⟩]
def zr8_6 : List AO := [⟨some 33, none, .load true 2 (.t 3)⟩,
  ⟨some 34, none, .mov (.t 8)⟩,
  ⟨some 35, none, .callF 22 [(.t 33), (.t 34)]⟩,
  ⟨some 10, none, .alloc [.int .i64 0, .nil]⟩,
  ⟨none, none, .store 2 (.t 10) (.t 35)⟩]
def zr8_7 : List AO := [⟨some 36, none, .load true 2 (.t 10)⟩,
  ⟨some 37, none, .callF 18 [(.t 36)]⟩,
  ⟨some 38, none, .un .not (.t 37)⟩]
def zr8_8 : List AO := [⟨some 39, none, .mov (.t 7)⟩,
  ⟨some 40, none, .mov (.t 39)⟩,
  ⟨some 41, some (40, true), .load true 2 (.t 10)⟩,
  ⟨some 42, some (40, true), .callF 17 [(.t 41)]⟩,
  ⟨some 43, some (40, true), .un .not (.t 42)⟩,
  ⟨some 44, none, .pick (.t 40) (.t 43) (.c (.bool false))⟩,
  ⟨some 6, none, .mov (.t 44)⟩]
def zc8_2 : AC := .seq (.reg zr8_8) .ret
def zc8_3 : AC := .cond (.t 38) zc8_2 .skip
def zr8_9 : List AO := [⟨some 46, none, .load true 2 (.t 3)⟩,
  ⟨some 47, none, .mov (.t 9)⟩,
  ⟨some 48, none, .callF 11 [(.t 46), (.t 47)]⟩,
  ⟨some 45, none, .mov (.t 48)⟩,
  ⟨some 49, none, .ext 0 (.t 45)⟩,
  ⟨some 50, none, .ext 1 (.t 45)⟩,
  ⟨some 51, none, .ext 2 (.t 45)⟩,
  ⟨some 11, none, .mov (.t 49)⟩,
  ⟨some 12, none, .mov (.t 50)⟩,
  ⟨some 13, none, .mov (.t 51)⟩]
def zr8_10 : List AO := [⟨some 53, none, .load true 2 (.t 10)⟩,
  ⟨some 54, none, .mov (.t 9)⟩,
  ⟨some 55, none, .callF 11 [(.t 53), (.t 54)]⟩,
  ⟨some 52, none, .mov (.t 55)⟩,
  ⟨some 56, none, .ext 0 (.t 52)⟩,
  ⟨some 57, none, .ext 1 (.t 52)⟩,
  ⟨some 58, none, .ext 2 (.t 52)⟩,
  ⟨some 14, none, .mov (.t 56)⟩,
  ⟨some 15, none, .mov (.t 57)⟩,
  ⟨some 16, none, .mov (.t 58)⟩]
def zr8_11 : List AO := [⟨some 59, none, .mov (.t 7)⟩,
  ⟨some 60, none, .mov (.t 59)⟩,
  ⟨some 61, some (60, true), .mov (.t 13)⟩,
  ⟨some 62, some (60, true), .bin .neq (.t 61) (.c (.int .i64 0))⟩,
  ⟨some 63, some (60, true), .mov (.t 62)⟩,
  ⟨some 64, some (63, false), .mov (.t 16)⟩,
  ⟨some 65, some (63, false), .bin .neq (.t 64) (.c (.int .i64 0))⟩,
  ⟨some 66, some (60, true), .pick (.t 63) (.c (.bool true)) (.t 65)⟩,
  ⟨some 67, some (60, true), .mov (.t 66)⟩,
  ⟨some 68, some (67, false), .mov (.t 14)⟩,
  ⟨some 69, some (67, false), .bin .mul (.t 68) (.c (.int .i64 1440))⟩,
  ⟨some 70, some (67, false), .mov (.t 15)⟩,
  ⟨some 71, some (67, false), .bin .add (.t 69) (.t 70)⟩,
  ⟨some 72, some (67, false), .mov (.t 11)⟩,
  ⟨some 73, some (67, false), .bin .mul (.t 72) (.c (.int .i64 1440))⟩,
  ⟨some 74, some (67, false), .mov (.t 12)⟩,
  ⟨some 75, some (67, false), .bin .add (.t 73) (.t 74)⟩,
  ⟨some 76, some (67, false), .mov (.t 8)⟩,
  ⟨some 77, some (67, false), .bin .add (.t 75) (.t 76)⟩,
  ⟨some 78, some (67, false), .bin .eql (.t 71) (.t 77)⟩,
  ⟨some 79, some (60, true), .pick (.t 67) (.c (.bool true)) (.t 78)⟩,
  ⟨some 80, none, .pick (.t 60) (.t 79) (.c (.bool false))⟩,
  ⟨some 6, none, .mov (.t 80)⟩]
def zc8_4 : AC := .seq (.reg zr8_11) .ret
def zc8_5 : AC := .seq (.reg zr8_10) zc8_4
def zc8_6 : AC := .seq (.reg zr8_9) zc8_5
def zc8_7 : AC := .seq (.seq (.reg zr8_7) zc8_3) zc8_6
def zc8_8 : AC := .seq (.reg zr8_6) zc8_7
def zc8_9 : AC := .seq (.reg zr8_5) zc8_8
def zc8_10 : AC := .seq (.seq (.reg zr8_3) zc8_1) zc8_9
def zc8_11 : AC := .seq (.reg zr8_2) zc8_10
def zc8_12 : AC := .seq (.reg zr8_1) zc8_11
def zc8_13 : AC := .seq (.reg zr8_0) zc8_12
def zc8 : AC := zc8_13
theorem ok8 : Try.f8.body.bind (compCode Try.prog 81) = some zc8 := by kernel_rfl
theorem nt8 : Try.f8.ntmps = 81 := by kernel_rfl
theorem res8 : compRes Try.prog Try.f8.results.toList = some [.tmp 6] := by kernel_rfl
def zr3_0 : List AO := [⟨some 5, none, .box (.t 0)⟩,
  ⟨some 10, none, .mov (.c (.bool false))⟩]
def zr3_1 : List AO := [⟨some 29, none, .callF 9 []⟩,
  ⟨some 11, none, .mov (.t 29)⟩]
def zr3_2 : List AO := [⟨some 30, none, .load true 2 (.t 5)⟩,
  ⟨some 31, none, .callF 10 [(.t 30)]⟩,
  ⟨some 32, none, .un .not (.t 31)⟩]
def zr3_3 : List AO := [⟨some 33, none, .mov (.t 11)⟩,
  ⟨some 10, none, .mov (.t 33)⟩]
def zc3_0 : AC := .seq (.reg zr3_3) .ret
def zc3_1 : AC := .cond (.t 32) zc3_0 .skip
def zr3_4 : List AO := [⟨some 35, none, .load true 2 (.t 5)⟩,
  ⟨some 36, none, .mov (.t 1)⟩,
  ⟨some 37, none, .callF 11 [(.t 35), (.t 36)]⟩,
  ⟨some 34, none, .mov (.t 37)⟩,
  ⟨some 38, none, .ext 0 (.t 34)⟩,
  ⟨some 39, none, .ext 1 (.t 34)⟩,
  ⟨some 40, none, .ext 2 (.t 34)⟩,
  ⟨some 12, none, .mov (.t 38)⟩,
  ⟨some 13, none, .mov (.t 39)⟩,
  ⟨some 14, none, .mov (.t 40)⟩]
def zr3_5 : List AO := [⟨some 42, none, .load true 2 (.t 5)⟩,
  ⟨some 43, none, .mov (.t 1)⟩,
  ⟨some 44, none, .callF 12 [(.t 42), (.t 43)]⟩,
  ⟨some 41, none, .mov (.t 44)⟩,
  ⟨some 45, none, .ext 0 (.t 41)⟩,
  ⟨some 46, none, .ext 1 (.t 41)⟩,
  ⟨some 47, none, .ext 2 (.t 41)⟩,
  ⟨some 15, none, .mov (.t 45)⟩,
  ⟨some 16, none, .mov (.t 46)⟩,
  ⟨some 17, none, .mov (.t 47)⟩]
def zr3_6 : List AO := [⟨some 49, none, .load true 2 (.t 5)⟩,
  ⟨some 50, none, .mov (.t 2)⟩,
  ⟨some 51, none, .mov (.t 3)⟩,
  ⟨some 52, none, .mov (.t 4)⟩,
  ⟨some 53, none, .callF 13 [(.t 49), (.t 50), (.t 51), (.t 52)]⟩,
  ⟨some 48, none, .mov (.t 53)⟩,
  ⟨some 54, none, .ext 0 (.t 48)⟩,
  ⟨some 55, none, .ext 1 (.t 48)⟩,
  ⟨some 18, none, .mov (.t 54)⟩,
  ⟨some 19, none, .mov (.t 55)⟩]
def zr3_7 : List AO := [⟨some 57, none, .load true 2 (.t 5)⟩,
  ⟨some 58, none, .mov (.t 2)⟩,
  ⟨some 59, none, .mov (.t 3)⟩,
  ⟨some 60, none, .mov (.t 4)⟩,
  ⟨some 61, none, .callF 14 [(.t 57), (.t 58), (.t 59), (.t 60)]⟩,
  ⟨some 56, none, .mov (.t 61)⟩,
  ⟨some 62, none, .ext 0 (.t 56)⟩,
  ⟨some 63, none, .ext 1 (.t 56)⟩,
  ⟨some 20, none, .mov (.t 62)⟩,
  ⟨some 21, none, .mov (.t 63)⟩]
def zr3_8 : List AO := [⟨some 65, none, .load true 2 (.t 5)⟩,
  ⟨some 66, none, .mov (.t 2)⟩,
  ⟨some 67, none, .callF 15 [(.t 65), (.t 66)]⟩,
  ⟨some 64, none, .mov (.t 67)⟩,
  ⟨some 68, none, .ext 0 (.t 64)⟩,
  ⟨some 69, none, .ext 1 (.t 64)⟩,
  ⟨some 70, none, .ext 2 (.t 64)⟩,
  ⟨some 22, none, .mov (.t 68)⟩,
  ⟨some 23, none, .mov (.t 69)⟩,
  ⟨some 24, none, .mov (.t 70)⟩]
def zr3_9 : List AO := [⟨some 72, none, .load true 2 (.t 5)⟩,
  ⟨some 73, none, .mov (.t 2)⟩,
  ⟨some 74, none, .callF 16 [(.t 72), (.t 73)]⟩,
  ⟨some 71, none, .mov (.t 74)⟩,
  ⟨some 75, none, .ext 0 (.t 71)⟩,
  ⟨some 76, none, .ext 1 (.t 71)⟩,
  ⟨some 77, none, .ext 2 (.t 71)⟩,
  ⟨some 25, none, .mov (.t 75)⟩,
  ⟨some 26, none, .mov (.t 76)⟩,
  ⟨some 27, none, .mov (.t 77)⟩]
def zr3_10 : List (Bool × AO) := [(false, ⟨some 78, none, .load true 2 (.t 5)⟩),
  (false, ⟨some 80, none, .load true 2 (.t 5)⟩),
  (true, ⟨some 79, none, .callF 17 [(.t 78)]⟩),
  (true, ⟨some 81, none, .callF 18 [(.t 80)]⟩),
  (true, ⟨some 82, none, .binB .eql (.t 79) (.t 81)⟩),
  (true, ⟨some 83, none, .mov (.t 82)⟩),
  (false, ⟨some 84, some (83, true), .mov (.t 12)⟩),
  (true, ⟨some 85, some (83, true), .mov (.t 15)⟩),
  (true, ⟨some 86, some (83, true), .bin .eql (.t 84) (.t 85)⟩),
  (true, ⟨some 87, none, .pick (.t 83) (.t 86) (.c (.bool false))⟩),
  (true, ⟨some 88, none, .mov (.t 87)⟩),
  (false, ⟨some 89, some (88, true), .mov (.t 13)⟩),
  (true, ⟨some 90, some (88, true), .mov (.t 16)⟩),
  (true, ⟨some 91, some (88, true), .bin .eql (.t 89) (.t 90)⟩),
  (true, ⟨some 92, none, .pick (.t 88) (.t 91) (.c (.bool false))⟩),
  (true, ⟨some 93, none, .mov (.t 92)⟩),
  (false, ⟨some 94, some (93, true), .mov (.t 14)⟩),
  (true, ⟨some 95, some (93, true), .mov (.t 17)⟩),
  (true, ⟨some 96, some (93, true), .bin .eql (.t 94) (.t 95)⟩),
  (true, ⟨some 97, none, .pick (.t 93) (.t 96) (.c (.bool false))⟩),
  (true, ⟨some 98, none, .mov (.t 97)⟩),
  (false, ⟨some 99, some (98, true), .mov (.t 18)⟩),
  (true, ⟨some 100, some (98, true), .mov (.t 20)⟩),
  (true, ⟨some 101, some (98, true), .bin .eql (.t 99) (.t 100)⟩),
  (true, ⟨some 102, none, .pick (.t 98) (.t 101) (.c (.bool false))⟩),
  (true, ⟨some 103, none, .mov (.t 102)⟩),
  (false, ⟨some 104, some (103, true), .mov (.t 19)⟩),
  (true, ⟨some 105, some (103, true), .mov (.t 21)⟩),
  (true, ⟨some 106, some (103, true), .bin .eql (.t 104) (.t 105)⟩),
  (true, ⟨some 107, none, .pick (.t 103) (.t 106) (.c (.bool false))⟩),
  (true, ⟨some 28, none, .mov (.t 107)⟩)]
def zr3_11 : List (Bool × AO) := [(true, ⟨some 108, none, .mov (.t 11)⟩),
  (true, ⟨some 109, none, .mov (.t 108)⟩),
  (true, ⟨some 110, some (109, true), .mov (.t 28)⟩),
  (true, ⟨some 111, none, .pick (.t 109) (.t 110) (.c (.bool false))⟩),
  (true, ⟨some 112, none, .mov (.t 111)⟩),
  (false, ⟨some 113, some (112, true), .mov (.t 22)⟩),
  (true, ⟨some 114, some (112, true), .mov (.t 25)⟩),
  (true, ⟨some 115, some (112, true), .bin .eql (.t 113) (.t 114)⟩),
  (true, ⟨some 116, none, .pick (.t 112) (.t 115) (.c (.bool false))⟩),
  (true, ⟨some 117, none, .mov (.t 116)⟩),
  (false, ⟨some 118, some (117, true), .mov (.t 23)⟩),
  (true, ⟨some 119, some (117, true), .mov (.t 26)⟩),
  (true, ⟨some 120, some (117, true), .bin .eql (.t 118) (.t 119)⟩),
  (true, ⟨some 121, none, .pick (.t 117) (.t 120) (.c (.bool false))⟩),
  (true, ⟨some 122, none, .mov (.t 121)⟩),
  (false, ⟨some 123, some (122, true), .mov (.t 24)⟩),
  (true, ⟨some 124, some (122, true), .mov (.t 27)⟩),
  (true, ⟨some 125, some (122, true), .bin .eql (.t 123) (.t 124)⟩),
  (true, ⟨some 126, none, .pick (.t 122) (.t 125) (.c (.bool false))⟩),
  (true, ⟨some 127, none, .mov (.t 126)⟩),
  (false, ⟨some 128, some (127, true), .load true 2 (.t 5)⟩),
  (false, ⟨some 129, some (127, true), .mov (.t 2)⟩),
  (false, ⟨some 130, some (127, true), .mov (.t 3)⟩),
  (false, ⟨some 132, some (127, true), .load true 2 (.t 5)⟩),
  (false, ⟨some 133, some (127, true), .mov (.t 2)⟩),
  (false, ⟨some 134, some (127, true), .mov (.t 3)⟩),
  (true, ⟨some 131, some (127, true), .callF 20 [(.t 128), (.t 129), (.t 130)]⟩),
  (true, ⟨some 135, some (127, true), .callF 21 [(.t 132), (.t 133), (.t 134)]⟩),
  (true, ⟨some 136, some (127, true), .callF 19 [(.t 131), (.t 135)]⟩),
  (true, ⟨some 137, none, .pick (.t 127) (.t 136) (.c (.bool false))⟩),
  (true, ⟨some 10, none, .mov (.t 137)⟩)]
def zc3_2 : AC := .seq (.regD true zr3_11) .ret
def zc3_3 : AC := .seq (.regD true zr3_10) zc3_2
def zc3_4 : AC := .seq (.reg zr3_9) zc3_3
def zc3_5 : AC := .seq (.reg zr3_8) zc3_4
def zc3_6 : AC := .seq (.reg zr3_7) zc3_5
def zc3_7 : AC := .seq (.reg zr3_6) zc3_6
def zc3_8 : AC := .seq (.reg zr3_5) zc3_7
def zc3_9 : AC := .seq (.reg zr3_4) zc3_8
def zc3_10 : AC := .seq (.seq (.reg zr3_2) zc3_1) zc3_9
def zc3_11 : AC := .seq (.reg zr3_1) zc3_10
def zc3_12 : AC := .seq (.reg zr3_0) zc3_11
def zc3 : AC := zc3_12
theorem ok3 : Try.f3.body.bind (compCode Try.prog 138) = some zc3 := by kernel_rfl
theorem nt3 : Try.f3.ntmps = 138 := by kernel_rfl
theorem res3 : compRes Try.prog Try.f3.results.toList = some [.tmp 10] := by kernel_rfl
def zr9_0 : List AO := [⟨some 0, none, .mov (.c (.bool false))⟩]
def zr9_1 : List AO := [⟨some 20, none, .bld [.int .i64 0, .int .i64 0] [(0, 1, (.c (.int .i64 100000))), (1, 1, (.c (.int .i64 120)))]⟩,
  ⟨some 21, none, .bld [.int .i64 0, .int .i64 0] [(0, 1, (.c (.int .i64 200000))), (1, 1, (.c (.int .i64 60)))]⟩,
  ⟨some 22, none, .mkrow 2 2 [.int .i64 0, .int .i64 0] [(0, 2, (.t 20)), (2, 2, (.t 21))]⟩,
  ⟨some 23, none, .bld [.int .i64 0, .nil] [(0, 1, (.c (.int .i64 60))), (1, 1, (.t 22))]⟩,
  ⟨some 1, none, .alloc [.int .i64 0, .nil]⟩,
  ⟨none, none, .store 2 (.t 1) (.t 23)⟩]
def zr9_2 : List AO := [⟨some 25, none, .load true 2 (.t 1)⟩,
  ⟨some 26, none, .callF 11 [(.t 25), (.c (.int .i64 99999))]⟩,
  ⟨some 24, none, .mov (.t 26)⟩,
  ⟨some 27, none, .ext 0 (.t 24)⟩,
  ⟨some 28, none, .ext 1 (.t 24)⟩,
  ⟨some 29, none, .ext 2 (.t 24)⟩,
  ⟨some 2, none, .mov (.t 27)⟩,
  ⟨some 3, none, .mov (.t 28)⟩,
  ⟨some 4, none, .mov (.t 29)⟩]
def zr9_3 : List AO := [⟨some 31, none, .load true 2 (.t 1)⟩,
  ⟨some 32, none, .callF 11 [(.t 31), (.c (.int .i64 100000))]⟩,
  ⟨some 30, none, .mov (.t 32)⟩,
  ⟨some 33, none, .ext 0 (.t 30)⟩,
  ⟨some 34, none, .ext 1 (.t 30)⟩,
  ⟨some 35, none, .ext 2 (.t 30)⟩,
  ⟨some 5, none, .mov (.t 33)⟩,
  ⟨some 6, none, .mov (.t 34)⟩,
  ⟨some 7, none, .mov (.t 35)⟩]
def zr9_4 : List AO := [⟨some 37, none, .load true 2 (.t 1)⟩,
  ⟨some 38, none, .callF 13 [(.t 37), (.c (.int .i64 69)), (.c (.int .i64 730)), (.c (.bool false))]⟩,
  ⟨some 36, none, .mov (.t 38)⟩,
  ⟨some 39, none, .ext 0 (.t 36)⟩,
  ⟨some 40, none, .ext 1 (.t 36)⟩,
  ⟨some 8, none, .mov (.t 39)⟩,
  ⟨some 9, none, .mov (.t 40)⟩]
def zr9_5 : List AO := [⟨some 41, none, .load true 2 (.t 1)⟩,
  ⟨some 42, none, .callF 20 [(.t 41), (.c (.int .i64 138)), (.c (.int .i64 1370))]⟩,
  ⟨some 10, none, .mov (.t 42)⟩]
def zr9_6 : List AO := [⟨some 44, none, .load true 2 (.t 1)⟩,
  ⟨some 45, none, .callF 15 [(.t 44), (.c (.int .i64 1))]⟩,
  ⟨some 43, none, .mov (.t 45)⟩,
  ⟨some 46, none, .ext 0 (.t 43)⟩,
  ⟨some 47, none, .ext 1 (.t 43)⟩,
  ⟨some 48, none, .ext 2 (.t 43)⟩,
  ⟨some 11, none, .mov (.t 46)⟩,
  ⟨some 12, none, .mov (.t 47)⟩,
  ⟨some 13, none, .mov (.t 48)⟩]
def zr9_7 : List AO := [⟨some 50, none, .load true 2 (.t 1)⟩,
  ⟨some 51, none, .callF 13 [(.t 50), (.c (.int .i64 0)), (.c (.int .i64 1440)), (.c (.bool false))]⟩,
  ⟨some 49, none, .mov (.t 51)⟩,
  ⟨some 52, none, .ext 0 (.t 49)⟩,
  ⟨some 53, none, .ext 1 (.t 49)⟩,
  ⟨some 14, none, .mov (.t 52)⟩,
  ⟨some 15, none, .mov (.t 53)⟩]
def zr9_8 : List AO := [⟨some 55, none, .bld [.int .i64 0, .nil] [(0, 1, (.c (.int .i64 (-1))))]⟩,
  ⟨some 56, none, .callF 11 [(.t 55), (.c (.int .i64 0))]⟩,
  ⟨some 54, none, .mov (.t 56)⟩,
  ⟨some 57, none, .ext 0 (.t 54)⟩,
  ⟨some 58, none, .ext 1 (.t 54)⟩,
  ⟨some 59, none, .ext 2 (.t 54)⟩,
  ⟨some 16, none, .mov (.t 57)⟩,
  ⟨some 17, none, .mov (.t 58)⟩,
  ⟨some 18, none, .mov (.t 59)⟩]
def zr9_9 : List AO := [⟨some 60, none, .load true 2 (.t 1)⟩,
  ⟨some 61, none, .callF 17 [(.t 60)]⟩,
  ⟨some 62, none, .mov (.t 61)⟩,
  ⟨some 63, some (62, true), .mov (.t 4)⟩,
  ⟨some 64, some (62, true), .bin .eql (.t 63) (.c (.int .i64 0))⟩,
  ⟨some 65, none, .pick (.t 62) (.t 64) (.c (.bool false))⟩,
  ⟨some 66, none, .mov (.t 65)⟩,
  ⟨some 67, some (66, true), .mov (.t 2)⟩,
  ⟨some 68, some (66, true), .bin .eql (.t 67) (.c (.int .i64 69))⟩,
  ⟨some 69, none, .pick (.t 66) (.t 68) (.c (.bool false))⟩,
  ⟨some 70, none, .mov (.t 69)⟩,
  ⟨some 71, some (70, true), .mov (.t 3)⟩,
  ⟨some 72, some (70, true), .bin .eql (.t 71) (.c (.int .i64 699))⟩,
  ⟨some 73, none, .pick (.t 70) (.t 72) (.c (.bool false))⟩,
  ⟨some 74, none, .mov (.t 73)⟩,
  ⟨some 75, some (74, true), .mov (.t 7)⟩,
  ⟨some 76, some (74, true), .bin .eql (.t 75) (.c (.int .i64 0))⟩,
  ⟨some 77, none, .pick (.t 74) (.t 76) (.c (.bool false))⟩,
  ⟨some 78, none, .mov (.t 77)⟩,
  ⟨some 79, some (78, true), .mov (.t 5)⟩,
  ⟨some 80, some (78, true), .bin .eql (.t 79) (.c (.int .i64 69))⟩,
  ⟨some 81, none, .pick (.t 78) (.t 80) (.c (.bool false))⟩,
  ⟨some 82, none, .mov (.t 81)⟩,
  ⟨some 83, some (82, true), .mov (.t 6)⟩,
  ⟨some 84, some (82, true), .bin .eql (.t 83) (.c (.int .i64 760))⟩,
  ⟨some 85, none, .pick (.t 82) (.t 84) (.c (.bool false))⟩,
  ⟨some 86, none, .mov (.t 85)⟩,
  ⟨some 87, some (86, true), .mov (.t 9)⟩,
  ⟨some 88, some (86, true), .bin .eql (.t 87) (.c (.int .i64 0))⟩,
  ⟨some 89, none, .pick (.t 86) (.t 88) (.c (.bool false))⟩,
  ⟨some 90, none, .mov (.t 89)⟩,
  ⟨some 91, some (90, true), .mov (.t 8)⟩,
  ⟨some 92, some (90, true), .bin .eql (.t 91) (.c (.int .i64 100000))⟩,
  ⟨some 93, none, .pick (.t 90) (.t 92) (.c (.bool false))⟩,
  ⟨some 19, none, .mov (.t 93)⟩]
def zr9_10 : List AO := [⟨some 94, none, .mov (.t 19)⟩,
  ⟨some 95, none, .mov (.t 94)⟩,
  ⟨some 96, some (95, true), .load true 2 (.t 1)⟩,
  ⟨some 97, some (95, true), .callF 20 [(.t 96), (.c (.int .i64 69)), (.c (.int .i64 730))]⟩,
  ⟨some 98, some (95, true), .len (.t 97)⟩,
  ⟨some 99, some (95, true), .bin .eql (.t 98) (.c (.int .i64 0))⟩,
  ⟨some 100, none, .pick (.t 95) (.t 99) (.c (.bool false))⟩,
  ⟨some 101, none, .mov (.t 100)⟩,
  ⟨some 102, some (101, true), .mov (.t 10)⟩,
  ⟨some 103, some (101, true), .mkrow 1 2 [.int .i64 0] [(0, 1, (.c (.int .i64 199970))), (1, 1, (.c (.int .i64 200030)))]⟩,
  ⟨some 104, some (101, true), .callF 19 [(.t 102), (.t 103)]⟩,
  ⟨some 105, none, .pick (.t 101) (.t 104) (.c (.bool false))⟩,
  ⟨some 106, none, .mov (.t 105)⟩,
  ⟨some 107, some (106, true), .mov (.t 13)⟩,
  ⟨some 108, some (106, true), .bin .eql (.t 107) (.c (.int .i64 0))⟩,
  ⟨some 109, none, .pick (.t 106) (.t 108) (.c (.bool false))⟩,
  ⟨some 110, none, .mov (.t 109)⟩,
  ⟨some 111, some (110, true), .mov (.t 11)⟩,
  ⟨some 112, some (110, true), .bin .eql (.t 111) (.c (.int .i64 1380))⟩,
  ⟨some 113, none, .pick (.t 110) (.t 112) (.c (.bool false))⟩,
  ⟨some 114, none, .mov (.t 113)⟩,
  ⟨some 115, some (114, true), .mov (.t 12)⟩,
  ⟨some 116, some (114, true), .bin .eql (.t 115) (.c (.int .i64 2820))⟩,
  ⟨some 117, none, .pick (.t 114) (.t 116) (.c (.bool false))⟩,
  ⟨some 118, none, .mov (.t 117)⟩,
  ⟨some 119, some (118, true), .mov (.t 15)⟩,
  ⟨some 120, some (118, true), .bin .eql (.t 119) (.c (.int .i64 1))⟩,
  ⟨some 121, none, .pick (.t 118) (.t 120) (.c (.bool false))⟩,
  ⟨some 122, none, .mov (.t 121)⟩,
  ⟨some 123, some (122, true), .mov (.t 18)⟩,
  ⟨some 124, some (122, true), .bin .eql (.t 123) (.c (.int .i64 2))⟩,
  ⟨some 125, none, .pick (.t 122) (.t 124) (.c (.bool false))⟩,
  ⟨some 0, none, .mov (.t 125)⟩]
def zc9_0 : AC := .seq (.reg zr9_10) .ret
def zc9_1 : AC := .seq (.reg zr9_9) zc9_0
def zc9_2 : AC := .seq (.reg zr9_8) zc9_1
def zc9_3 : AC := .seq (.reg zr9_7) zc9_2
def zc9_4 : AC := .seq (.reg zr9_6) zc9_3
def zc9_5 : AC := .seq (.reg zr9_5) zc9_4
def zc9_6 : AC := .seq (.reg zr9_4) zc9_5
def zc9_7 : AC := .seq (.reg zr9_3) zc9_6
def zc9_8 : AC := .seq (.reg zr9_2) zc9_7
def zc9_9 : AC := .seq (.reg zr9_1) zc9_8
def zc9_10 : AC := .seq (.reg zr9_0) zc9_9
def zc9 : AC := zc9_10
theorem ok9 : Try.f9.body.bind (compCode Try.prog 126) = some zc9 := by kernel_rfl
theorem nt9 : Try.f9.ntmps = 126 := by kernel_rfl
theorem res9 : compRes Try.prog Try.f9.results.toList = some [.tmp 0] := by kernel_rfl
def zr10_0 : List AO := [⟨some 1, none, .box (.t 0)⟩,
  ⟨some 2, none, .mov (.c (.bool false))⟩]
def zr10_1 : List AO := [⟨some 3, none, .fadr 1 (.t 1)⟩,
  ⟨some 4, none, .load false 1 (.t 3)⟩,
  ⟨some 5, none, .len (.t 4)⟩,
  ⟨some 6, none, .bin .leq (.t 5) (.c (.int .i64 100))⟩,
  ⟨some 2, none, .mov (.t 6)⟩]
def zc10_0 : AC := .seq (.reg zr10_1) .ret
def zc10_1 : AC := .seq (.reg zr10_0) zc10_0
def zc10 : AC := zc10_1
theorem ok10 : Try.f10.body.bind (compCode Try.prog 7) = some zc10 := by kernel_rfl
theorem nt10 : Try.f10.ntmps = 7 := by kernel_rfl
theorem res10 : compRes Try.prog Try.f10.results.toList = some [.tmp 2] := by kernel_rfl
def zr11_0 : List AO := [⟨some 2, none, .box (.t 0)⟩,
  ⟨some 3, none, .box (.t 1)⟩,
  ⟨some 4, none, .mov (.c (.int .i64 0))⟩,
  ⟨some 5, none, .mov (.c (.int .i64 0))⟩,
  ⟨some 6, none, .mov (.c (.int .i64 0))⟩]
def zr11_1 : List AO := [⟨some 10, none, .load true 2 (.t 2)⟩,
  ⟨some 11, none, .callF 17 [(.t 10)]⟩,
  ⟨some 12, none, .un .not (.t 11)⟩,
  ⟨some 13, none, .mov (.t 12)⟩,
  ⟨some 14, some (13, false), .load false 1 (.t 3)⟩,
  ⟨some 15, some (13, false), .bin .lss (.t 14) (.c (.int .i64 0))⟩,
  ⟨some 16, none, .pick (.t 13) (.c (.bool true)) (.t 15)⟩,
  ⟨some 17, none, .mov (.t 16)⟩,
  ⟨some 18, some (17, false), .load false 1 (.t 3)⟩,
  ⟨some 19, some (17, false), .bin .gtr (.t 18) (.c (.int .i64 105190559))⟩,
  ⟨some 20, none, .pick (.t 17) (.c (.bool true)) (.t 19)⟩]
def zr11_2 : List AO := [⟨some 4, none, .mov (.c (.int .i64 0))⟩,
  ⟨some 5, none, .mov (.c (.int .i64 0))⟩,
  ⟨some 6, none, .mov (.c (.int .i64 1))⟩]
def zc11_0 : AC := .seq (.reg zr11_2) .ret
def zc11_1 : AC := .cond (.t 20) zc11_0 .skip
def zr11_3 : List AO := [⟨some 22, none, .load true 2 (.t 2)⟩,
  ⟨some 23, none, .mkfn (.func 24) [] [(.t 3)]⟩,
  ⟨some 24, none, .callF 23 [(.t 22), (.t 23)]⟩,
  ⟨some 21, none, .mov (.t 24)⟩,
  ⟨some 25, none, .ext 0 (.t 21)⟩,
  ⟨some 26, none, .ext 1 (.t 21)⟩,
  ⟨some 7, none, .alloc [.int .i64 0, .int .i64 0, .int .i64 0, .int .i64 0]⟩,
  ⟨none, none, .store 4 (.t 7) (.t 25)⟩,
  ⟨some 8, none, .mov (.t 26)⟩]
def zr11_4 : List AO := [⟨some 27, none, .load false 1 (.t 3)⟩,
  ⟨some 28, none, .fadr 2 (.t 7)⟩,
  ⟨some 29, none, .load false 1 (.t 28)⟩,
  ⟨some 30, none, .bin .add (.t 27) (.t 29)⟩,
  ⟨some 9, none, .mov (.t 30)⟩]
def zr11_5 : List AO := [⟨some 31, none, .mov (.t 9)⟩,
  ⟨some 32, none, .bin .lss (.t 31) (.c (.int .i64 0))⟩,
  ⟨some 33, none, .mov (.t 32)⟩,
  ⟨some 34, some (33, false), .mov (.t 9)⟩,
  ⟨some 35, some (33, false), .bin .gtr (.t 34) (.c (.int .i64 105190559))⟩,
  ⟨some 36, none, .pick (.t 33) (.c (.bool true)) (.t 35)⟩]
def zr11_6 : List AO := [⟨some 4, none, .mov (.c (.int .i64 0))⟩,
  ⟨some 5, none, .mov (.c (.int .i64 0))⟩,
  ⟨some 6, none, .mov (.c (.int .i64 2))⟩]
def zc11_2 : AC := .seq (.reg zr11_6) .ret
def zc11_3 : AC := .cond (.t 36) zc11_2 .skip
def zr11_7 : List AO := [⟨some 37, none, .mov (.t 9)⟩,
  ⟨some 38, none, .bin .quo (.t 37) (.c (.int .i64 1440))⟩,
  ⟨some 39, none, .mov (.t 9)⟩,
  ⟨some 40, none, .bin .rem (.t 39) (.c (.int .i64 1440))⟩,
  ⟨some 4, none, .mov (.t 38)⟩,
  ⟨some 5, none, .mov (.t 40)⟩,
  ⟨some 6, none, .mov (.c (.int .i64 0))⟩]
def zc11_4 : AC := .seq (.reg zr11_7) .ret
def zc11_5 : AC := .seq (.seq (.reg zr11_5) zc11_3) zc11_4
def zc11_6 : AC := .seq (.reg zr11_4) zc11_5
def zc11_7 : AC := .seq (.reg zr11_3) zc11_6
def zc11_8 : AC := .seq (.seq (.reg zr11_1) zc11_1) zc11_7
def zc11_9 : AC := .seq (.reg zr11_0) zc11_8
def zc11 : AC := zc11_9
theorem ok11 : Try.f11.body.bind (compCode Try.prog 41) = some zc11 := by kernel_rfl
theorem nt11 : Try.f11.ntmps = 41 := by kernel_rfl
theorem res11 : compRes Try.prog Try.f11.results.toList = some [.tmp 4, .tmp 5, .tmp 6] := by kernel_rfl
def zr12_0 : List AO := [⟨some 2, none, .box (.t 0)⟩,
  ⟨some 4, none, .mov (.c (.int .i64 0))⟩,
  ⟨some 5, none, .mov (.c (.int .i64 0))⟩,
  ⟨some 6, none, .mov (.c (.int .i64 0))⟩]
def zr12_1 : List AO := [⟨some 8, none, .load true 2 (.t 2)⟩,
  ⟨some 9, none, .callF 18 [(.t 8)]⟩,
  ⟨some 10, none, .un .not (.t 9)⟩,
  ⟨some 11, none, .mov (.t 10)⟩,
  ⟨some 12, some (11, false), .mov (.t 1)⟩,
  ⟨some 13, some (11, false), .bin .lss (.t 12) (.c (.int .i64 0))⟩,
  ⟨some 14, none, .pick (.t 11) (.c (.bool true)) (.t 13)⟩,
  ⟨some 15, none, .mov (.t 14)⟩,
  ⟨some 16, some (15, false), .mov (.t 1)⟩,
  ⟨some 17, some (15, false), .bin .gtr (.t 16) (.c (.int .i64 105190559))⟩,
  ⟨some 18, none, .pick (.t 15) (.c (.bool true)) (.t 17)⟩]
def zr12_2 : List AO := [⟨some 4, none, .mov (.c (.int .i64 0))⟩,
  ⟨some 5, none, .mov (.c (.int .i64 0))⟩,
  ⟨some 6, none, .mov (.c (.int .i64 1))⟩]
def zc12_0 : AC := .seq (.reg zr12_2) .ret
def zc12_1 : AC := .cond (.t 18) zc12_0 .skip
def zr12_3 : List (Bool × AO) := [(false, ⟨some 19, none, .mov (.t 1)⟩),
  (false, ⟨some 20, none, .load true 2 (.t 2)⟩),
  (false, ⟨some 21, none, .load true 2 (.t 2)⟩),
  (true, ⟨some 22, none, .mov (.t 1)⟩),
  (true, ⟨some 23, none, .callF 26 [(.t 21), (.t 22)]⟩),
  (true, ⟨some 24, none, .callF 25 [(.t 20), (.t 23)]⟩),
  (true, ⟨some 25, none, .bin .add (.t 19) (.t 24)⟩),
  (true, ⟨some 7, none, .mov (.t 25)⟩)]
def zr12_4 : List AO := [⟨some 26, none, .mov (.t 7)⟩,
  ⟨some 27, none, .bin .lss (.t 26) (.c (.int .i64 0))⟩,
  ⟨some 28, none, .mov (.t 27)⟩,
  ⟨some 29, some (28, false), .mov (.t 7)⟩,
  ⟨some 30, some (28, false), .bin .gtr (.t 29) (.c (.int .i64 105190559))⟩,
  ⟨some 31, none, .pick (.t 28) (.c (.bool true)) (.t 30)⟩]
def zr12_5 : List AO := [⟨some 4, none, .mov (.c (.int .i64 0))⟩,
  ⟨some 5, none, .mov (.c (.int .i64 0))⟩,
  ⟨some 6, none, .mov (.c (.int .i64 2))⟩]
def zc12_2 : AC := .seq (.reg zr12_5) .ret
def zc12_3 : AC := .cond (.t 31) zc12_2 .skip
def zr12_6 : List AO := [⟨some 32, none, .mov (.t 7)⟩,
  ⟨some 33, none, .bin .quo (.t 32) (.c (.int .i64 1440))⟩,
  ⟨some 34, none, .mov (.t 7)⟩,
  ⟨some 35, none, .bin .rem (.t 34) (.c (.int .i64 1440))⟩,
  ⟨some 4, none, .mov (.t 33)⟩,
  ⟨some 5, none, .mov (.t 35)⟩,
  ⟨some 6, none, .mov (.c (.int .i64 0))⟩]
def zc12_4 : AC := .seq (.reg zr12_6) .ret
def zc12_5 : AC := .seq (.seq (.reg zr12_4) zc12_3) zc12_4
def zc12_6 : AC := .seq (.regD true zr12_3) zc12_5
def zc12_7 : AC := .seq (.seq (.reg zr12_1) zc12_1) zc12_6
def zc12_8 : AC := .seq (.reg zr12_0) zc12_7
def zc12 : AC := zc12_8
theorem ok12 : Try.f12.body.bind (compCode Try.prog 36) = some zc12 := by kernel_rfl
theorem nt12 : Try.f12.ntmps = 36 := by kernel_rfl
theorem res12 : compRes Try.prog Try.f12.results.toList = some [.tmp 4, .tmp 5, .tmp 6] := by kernel_rfl
def zr13_0 : List AO := [⟨some 4, none, .box (.t 0)⟩,
  ⟨some 8, none, .mov (.c (.int .i64 0))⟩,
  ⟨some 9, none, .mov (.c (.int .i64 0))⟩]
def zr13_1 : List AO := [⟨some 14, none, .load true 2 (.t 4)⟩,
  ⟨some 15, none, .mov (.t 1)⟩,
  ⟨some 16, none, .mov (.t 2)⟩,
  ⟨some 17, none, .callF 27 [(.t 14), (.t 15), (.t 16)]⟩,
  ⟨some 18, none, .un .not (.t 17)⟩]
def zr13_2 : List AO := [⟨some 8, none, .mov (.c (.int .i64 0))⟩,
  ⟨some 9, none, .mov (.c (.int .i64 1))⟩]
def zc13_0 : AC := .seq (.reg zr13_2) .ret
def zc13_1 : AC := .cond (.t 18) zc13_0 .skip
def zr13_3 : List AO := [⟨some 19, none, .load true 2 (.t 4)⟩,
  ⟨some 20, none, .mov (.t 1)⟩,
  ⟨some 21, none, .mov (.t 2)⟩,
  ⟨some 22, none, .callF 20 [(.t 19), (.t 20), (.t 21)]⟩,
  ⟨some 10, none, .mov (.t 22)⟩]
def zr13_4 : List AO := [⟨some 23, none, .mov (.t 10)⟩,
  ⟨some 24, none, .len (.t 23)⟩,
  ⟨some 25, none, .bin .gtr (.t 24) (.c (.int .i64 0))⟩]
def zr13_5 : List AO := [⟨some 26, none, .mov (.t 3)⟩]
def zr13_6 : List AO := [⟨some 27, none, .mov (.t 10)⟩,
  ⟨some 28, none, .mov (.t 10)⟩,
  ⟨some 29, none, .len (.t 28)⟩,
  ⟨some 30, none, .bin .sub (.t 29) (.c (.int .i64 1))⟩,
  ⟨some 31, none, .iadr 1 (.t 27) (.t 30)⟩,
  ⟨some 32, none, .load false 1 (.t 31)⟩,
  ⟨some 8, none, .mov (.t 32)⟩,
  ⟨some 9, none, .mov (.c (.int .i64 0))⟩]
def zc13_2 : AC := .seq (.reg zr13_6) .ret
def zc13_3 : AC := .cond (.t 26) zc13_2 .skip
def zr13_7 : List AO := [⟨some 33, none, .mov (.t 10)⟩,
  ⟨some 34, none, .iadr 1 (.t 33) (.c (.int .i64 0))⟩,
  ⟨some 35, none, .load false 1 (.t 34)⟩,
  ⟨some 8, none, .mov (.t 35)⟩,
  ⟨some 9, none, .mov (.c (.int .i64 0))⟩]
def zc13_4 : AC := .seq (.reg zr13_7) .ret
def zc13_5 : AC := .seq (.seq (.reg zr13_5) zc13_3) zc13_4
def zc13_6 : AC := .cond (.t 25) zc13_5 .skip
def zc13_7 : AC := .seq (.reg zr13_4) zc13_6
def zr13_8 : List AO := [⟨some 36, none, .mov (.t 1)⟩,
  ⟨some 37, none, .bin .mul (.t 36) (.c (.int .i64 1440))⟩,
  ⟨some 38, none, .mov (.t 2)⟩,
  ⟨some 39, none, .bin .add (.t 37) (.t 38)⟩,
  ⟨some 11, none, .alloc [.int .i64 0]⟩,
  ⟨none, none, .store 1 (.t 11) (.t 39)⟩]
def zr13_9 : List AO := [⟨some 41, none, .load true 2 (.t 4)⟩,
  ⟨some 42, none, .mkfn (.func 28) [] [(.t 11)]⟩,
  ⟨some 43, none, .callF 23 [(.t 41), (.t 42)]⟩,
  ⟨some 40, none, .mov (.t 43)⟩,
  ⟨some 44, none, .ext 0 (.t 40)⟩,
  ⟨some 45, none, .ext 1 (.t 40)⟩,
  ⟨some 12, none, .alloc [.int .i64 0, .int .i64 0, .int .i64 0, .int .i64 0]⟩,
  ⟨none, none, .store 4 (.t 12) (.t 44)⟩,
  ⟨some 13, none, .mov (.t 45)⟩]
def zr13_10 : List AO := [⟨some 46, none, .mov (.t 13)⟩,
  ⟨some 47, none, .un .not (.t 46)⟩]
def zr13_11 : List AO := [⟨some 8, none, .mov (.c (.int .i64 0))⟩,
  ⟨some 9, none, .mov (.c (.int .i64 2))⟩]
def zc13_8 : AC := .seq (.reg zr13_11) .ret
def zc13_9 : AC := .cond (.t 47) zc13_8 .skip
def zr13_12 : List AO := [⟨some 48, none, .fadr 0 (.t 12)⟩,
  ⟨some 49, none, .load false 1 (.t 48)⟩,
  ⟨some 8, none, .mov (.t 49)⟩,
  ⟨some 9, none, .mov (.c (.int .i64 0))⟩]
def zc13_10 : AC := .seq (.reg zr13_12) .ret
def zc13_11 : AC := .seq (.seq (.reg zr13_10) zc13_9) zc13_10
def zc13_12 : AC := .seq (.reg zr13_9) zc13_11
def zc13_13 : AC := .seq (.reg zr13_8) zc13_12
def zc13_14 : AC := .seq (.seq (.reg zr13_3) zc13_7) zc13_13
def zc13_15 : AC := .seq (.seq (.reg zr13_1) zc13_1) zc13_14
def zc13_16 : AC := .seq (.reg zr13_0) zc13_15
def zc13 : AC := zc13_16
theorem ok13 : Try.f13.body.bind (compCode Try.prog 50) = some zc13 := by kernel_rfl
theorem nt13 : Try.f13.ntmps = 50 := by kernel_rfl
theorem res13 : compRes Try.prog Try.f13.results.toList = some [.tmp 8, .tmp 9] := by kernel_rfl
def zr14_0 : List AO := [⟨some 4, none, .box (.t 0)⟩,
  ⟨some 8, none, .mov (.c (.int .i64 0))⟩,
  ⟨some 9, none, .mov (.c (.int .i64 0))⟩]
def zr14_1 : List AO := [⟨some 14, none, .load true 2 (.t 4)⟩,
  ⟨some 15, none, .mov (.t 1)⟩,
  ⟨some 16, none, .mov (.t 2)⟩,
  ⟨some 17, none, .callF 29 [(.t 14), (.t 15), (.t 16)]⟩,
  ⟨some 18, none, .un .not (.t 17)⟩]
def zr14_2 : List AO := [⟨some 8, none, .mov (.c (.int .i64 0))⟩,
  ⟨some 9, none, .mov (.c (.int .i64 1))⟩]
def zc14_0 : AC := .seq (.reg zr14_2) .ret
def zc14_1 : AC := .cond (.t 18) zc14_0 .skip
def zr14_3 : List AO := [⟨some 19, none, .load true 2 (.t 4)⟩,
  ⟨some 20, none, .mov (.t 1)⟩,
  ⟨some 21, none, .mov (.t 2)⟩,
  ⟨some 22, none, .callF 21 [(.t 19), (.t 20), (.t 21)]⟩,
  ⟨some 10, none, .mov (.t 22)⟩]
def zr14_4 : List AO := [⟨some 23, none, .mov (.t 10)⟩,
  ⟨some 24, none, .len (.t 23)⟩,
  ⟨some 25, none, .bin .gtr (.t 24) (.c (.int .i64 0))⟩]
def zr14_5 : List AO := [⟨some 26, none, .mov (.t 3)⟩]
def zr14_6 : List AO := [⟨some 27, none, .mov (.t 10)⟩,
  ⟨some 28, none, .mov (.t 10)⟩,
  ⟨some 29, none, .len (.t 28)⟩,
  ⟨some 30, none, .bin .sub (.t 29) (.c (.int .i64 1))⟩,
  ⟨some 31, none, .iadr 1 (.t 27) (.t 30)⟩,
  ⟨some 32, none, .load false 1 (.t 31)⟩,
  ⟨some 8, none, .mov (.t 32)⟩,
  ⟨some 9, none, .mov (.c (.int .i64 0))⟩]
def zc14_2 : AC := .seq (.reg zr14_6) .ret
def zc14_3 : AC := .cond (.t 26) zc14_2 .skip
def zr14_7 : List AO := [⟨some 33, none, .mov (.t 10)⟩,
  ⟨some 34, none, .iadr 1 (.t 33) (.c (.int .i64 0))⟩,
  ⟨some 35, none, .load false 1 (.t 34)⟩,
  ⟨some 8, none, .mov (.t 35)⟩,
  ⟨some 9, none, .mov (.c (.int .i64 0))⟩]
def zc14_4 : AC := .seq (.reg zr14_7) .ret
def zc14_5 : AC := .seq (.seq (.reg zr14_5) zc14_3) zc14_4
def zc14_6 : AC := .cond (.t 25) zc14_5 .skip
def zr14_8 : List AO := [⟨some 36, none, .mov (.t 1)⟩,
  ⟨some 37, none, .bin .mul (.t 36) (.c (.int .i64 1440))⟩,
  ⟨some 38, none, .mov (.t 2)⟩,
  ⟨some 39, none, .bin .add (.t 37) (.t 38)⟩,
  ⟨some 11, none, .mov (.t 39)⟩]
def zr14_9 : List AO := [⟨some 12, none, .mov (.c (.int .i64 1))⟩]
def zr14_10 : List AO := [⟨some 40, none, .mov (.t 12)⟩,
  ⟨some 41, none, .fadr 1 (.t 4)⟩,
  ⟨some 42, none, .load false 1 (.t 41)⟩,
  ⟨some 43, none, .len (.t 42)⟩,
  ⟨some 44, none, .bin .leq (.t 40) (.t 43)⟩]
def zc14_7 : AC := .cond (.t 44) .skip (.exit 0)
def zr14_11 : List AO := [⟨some 47, none, .fadr 1 (.t 4)⟩,
  ⟨some 48, none, .load false 1 (.t 47)⟩,
  ⟨some 49, none, .mov (.t 12)⟩,
  ⟨some 50, none, .bin .sub (.t 49) (.c (.int .i64 1))⟩,
  ⟨some 51, none, .iadr 2 (.t 48) (.t 50)⟩,
  ⟨some 52, none, .fadr 0 (.t 51)⟩,
  ⟨some 53, none, .load false 1 (.t 52)⟩,
  ⟨some 13, none, .mov (.t 53)⟩]
def zr14_12 : List AO := [⟨some 54, none, .mov (.t 13)⟩,
  ⟨some 55, none, .load true 2 (.t 4)⟩,
  ⟨some 56, none, .mov (.t 12)⟩,
  ⟨some 57, none, .bin .sub (.t 56) (.c (.int .i64 1))⟩,
  ⟨some 58, none, .callF 25 [(.t 55), (.t 57)]⟩,
  ⟨some 59, none, .bin .add (.t 54) (.t 58)⟩,
  ⟨some 60, none, .mov (.t 11)⟩,
  ⟨some 61, none, .bin .leq (.t 59) (.t 60)⟩,
  ⟨some 62, none, .mov (.t 61)⟩,
  ⟨some 63, some (62, true), .mov (.t 11)⟩,
  ⟨some 64, some (62, true), .mov (.t 13)⟩,
  ⟨some 65, some (62, true), .load true 2 (.t 4)⟩,
  ⟨some 66, some (62, true), .mov (.t 12)⟩,
  ⟨some 67, some (62, true), .callF 25 [(.t 65), (.t 66)]⟩,
  ⟨some 68, some (62, true), .bin .add (.t 64) (.t 67)⟩,
  ⟨some 69, some (62, true), .bin .lss (.t 63) (.t 68)⟩,
  ⟨some 70, none, .pick (.t 62) (.t 69) (.c (.bool false))⟩]
def zr14_13 : List AO := [⟨some 71, none, .mov (.t 13)⟩,
  ⟨some 8, none, .mov (.t 71)⟩,
  ⟨some 9, none, .mov (.c (.int .i64 0))⟩]
def zc14_8 : AC := .seq (.reg zr14_13) .ret
def zc14_9 : AC := .cond (.t 70) zc14_8 .skip
def zc14_10 : AC := .seq (.reg zr14_12) zc14_9
def zc14_11 : AC := .seq (.reg zr14_11) zc14_10
def zr14_14 : List AO := [⟨some 45, none, .mov (.t 12)⟩,
  ⟨some 46, none, .bin .add (.t 45) (.c (.int .i64 1))⟩,
  ⟨some 12, none, .mov (.t 46)⟩]
def zc14_12 : AC := .reg zr14_14
def zc14_13 : AC := .seq (.block 1 zc14_11) zc14_12
def zc14_14 : AC := .seq (.seq (.reg zr14_10) zc14_7) zc14_13
def zc14_15 : AC := .loop zc14_14
def zc14_16 : AC := .block 0 zc14_15
def zr14_15 : List AO := [⟨some 8, none, .mov (.c (.int .i64 0))⟩,
  ⟨some 9, none, .mov (.c (.int .i64 2))⟩]
def zc14_17 : AC := .seq (.reg zr14_15) .ret
def zc14_18 : AC := .seq (.seq (.reg zr14_9) zc14_16) zc14_17
def zc14_19 : AC := .seq (.reg zr14_8) zc14_18
def zc14_20 : AC := .seq (.seq (.reg zr14_4) zc14_6) zc14_19
def zc14_21 : AC := .seq (.reg zr14_3) zc14_20
def zc14_22 : AC := .seq (.seq (.reg zr14_1) zc14_1) zc14_21
def zc14_23 : AC := .seq (.reg zr14_0) zc14_22
def zc14 : AC := zc14_23
theorem ok14 : Try.f14.body.bind (compCode Try.prog 72) = some zc14 := by kernel_rfl
theorem nt14 : Try.f14.ntmps = 72 := by kernel_rfl
theorem res14 : compRes Try.prog Try.f14.results.toList = some [.tmp 8, .tmp 9] := by kernel_rfl
def zr15_0 : List AO := [⟨some 2, none, .box (.t 0)⟩,
  ⟨some 4, none, .mov (.c (.int .i64 0))⟩,
  ⟨some 5, none, .mov (.c (.int .i64 0))⟩,
  ⟨some 6, none, .mov (.c (.int .i64 0))⟩]
def zr15_1 : List AO := [⟨some 7, none, .load true 2 (.t 2)⟩,
  ⟨some 8, none, .callF 17 [(.t 7)]⟩,
  ⟨some 9, none, .un .not (.t 8)⟩,
  ⟨some 10, none, .mov (.t 9)⟩,
  ⟨some 11, some (10, false), .mov (.t 1)⟩,
  ⟨some 12, some (10, false), .bin .lss (.t 11) (.c (.int .i64 0))⟩,
  ⟨some 13, none, .pick (.t 10) (.c (.bool true)) (.t 12)⟩,
  ⟨some 14, none, .mov (.t 13)⟩,
  ⟨some 15, some (14, false), .mov (.t 1)⟩,
  ⟨some 16, some (14, false), .bin .geq (.t 15) (.c (.int .i64 73048))⟩,
  ⟨some 17, none, .pick (.t 14) (.c (.bool true)) (.t 16)⟩]
def zr15_2 : List AO := [⟨some 4, none, .mov (.c (.int .i64 0))⟩,
  ⟨some 5, none, .mov (.c (.int .i64 0))⟩,
  ⟨some 6, none, .mov (.c (.int .i64 1))⟩]
def zc15_0 : AC := .seq (.reg zr15_2) .ret
def zc15_1 : AC := .cond (.t 17) zc15_0 .skip
def zr15_3 : List AO := [⟨some 19, none, .load true 2 (.t 2)⟩,
  ⟨some 20, none, .mov (.t 1)⟩,
  ⟨some 21, none, .callF 13 [(.t 19), (.t 20), (.c (.int .i64 0)), (.c (.bool false))]⟩,
  ⟨some 18, none, .mov (.t 21)⟩,
  ⟨some 22, none, .ext 0 (.t 18)⟩,
  ⟨some 23, none, .ext 1 (.t 18)⟩,
  ⟨some 4, none, .mov (.t 22)⟩,
  ⟨some 6, none, .mov (.t 23)⟩]
def zr15_4 : List AO := [⟨some 24, none, .mov (.t 6)⟩,
  ⟨some 25, none, .bin .eql (.t 24) (.c (.int .i64 0))⟩]
def zr15_5 : List AO := [⟨some 27, none, .load true 2 (.t 2)⟩,
  ⟨some 28, none, .mov (.t 1)⟩,
  ⟨some 29, none, .bin .add (.t 28) (.c (.int .i64 1))⟩,
  ⟨some 30, none, .callF 13 [(.t 27), (.t 29), (.c (.int .i64 0)), (.c (.bool false))]⟩,
  ⟨some 26, none, .mov (.t 30)⟩,
  ⟨some 31, none, .ext 0 (.t 26)⟩,
  ⟨some 32, none, .ext 1 (.t 26)⟩,
  ⟨some 5, none, .mov (.t 31)⟩,
  ⟨some 6, none, .mov (.t 32)⟩]
def zc15_2 : AC := .reg zr15_5
def zc15_3 : AC := .cond (.t 25) zc15_2 .skip
def zc15_4 : AC := .seq (.reg zr15_4) zc15_3
def zr15_6 : List AO := [⟨some 33, none, .mov (.t 6)⟩,
  ⟨some 34, none, .bin .neq (.t 33) (.c (.int .i64 0))⟩]
def zr15_7 : List AO := [⟨some 35, none, .mov (.t 6)⟩,
  ⟨some 4, none, .mov (.c (.int .i64 0))⟩,
  ⟨some 5, none, .mov (.c (.int .i64 0))⟩,
  ⟨some 6, none, .mov (.t 35)⟩]
def zc15_5 : AC := .seq (.reg zr15_7) .ret
def zc15_6 : AC := .cond (.t 34) zc15_5 .skip
def zr15_8 : List AO := [⟨some 36, none, .mov (.t 4)⟩,
  ⟨some 37, none, .mov (.t 5)⟩,
  ⟨some 4, none, .mov (.t 36)⟩,
  ⟨some 5, none, .mov (.t 37)⟩,
  ⟨some 6, none, .mov (.c (.int .i64 0))⟩]
def zc15_7 : AC := .seq (.reg zr15_8) .ret
def zc15_8 : AC := .seq (.seq (.reg zr15_6) zc15_6) zc15_7
def zc15_9 : AC := .seq (.seq (.reg zr15_3) zc15_4) zc15_8
def zc15_10 : AC := .seq (.seq (.reg zr15_1) zc15_1) zc15_9
def zc15_11 : AC := .seq (.reg zr15_0) zc15_10
def zc15 : AC := zc15_11
theorem ok15 : Try.f15.body.bind (compCode Try.prog 38) = some zc15 := by kernel_rfl
theorem nt15 : Try.f15.ntmps = 38 := by kernel_rfl
theorem res15 : compRes Try.prog Try.f15.results.toList = some [.tmp 4, .tmp 5, .tmp 6] := by kernel_rfl
def zr16_0 : List AO := [⟨some 2, none, .box (.t 0)⟩,
  ⟨some 4, none, .mov (.c (.int .i64 0))⟩,
  ⟨some 5, none, .mov (.c (.int .i64 0))⟩,
  ⟨some 6, none, .mov (.c (.int .i64 0))⟩]
def zr16_1 : List AO := [⟨some 11, none, .load true 2 (.t 2)⟩,
  ⟨some 12, none, .callF 18 [(.t 11)]⟩,
  ⟨some 13, none, .un .not (.t 12)⟩,
  ⟨some 14, none, .mov (.t 13)⟩,
  ⟨some 15, some (14, false), .mov (.t 1)⟩,
  ⟨some 16, some (14, false), .bin .lss (.t 15) (.c (.int .i64 0))⟩,
  ⟨some 17, none, .pick (.t 14) (.c (.bool true)) (.t 16)⟩,
  ⟨some 18, none, .mov (.t 17)⟩,
  ⟨some 19, some (18, false), .mov (.t 1)⟩,
  ⟨some 20, some (18, false), .bin .gtr (.t 19) (.c (.int .i64 73047))⟩,
  ⟨some 21, none, .pick (.t 18) (.c (.bool true)) (.t 20)⟩]
def zr16_2 : List AO := [⟨some 4, none, .mov (.c (.int .i64 0))⟩,
  ⟨some 5, none, .mov (.c (.int .i64 0))⟩,
  ⟨some 6, none, .mov (.c (.int .i64 1))⟩]
def zc16_0 : AC := .seq (.reg zr16_2) .ret
def zc16_1 : AC := .cond (.t 21) zc16_0 .skip
def zr16_3 : List AO := [⟨some 23, none, .load true 2 (.t 2)⟩,
  ⟨some 24, none, .mov (.t 1)⟩,
  ⟨some 25, none, .callF 14 [(.t 23), (.t 24), (.c (.int .i64 0)), (.c (.bool false))]⟩,
  ⟨some 22, none, .mov (.t 25)⟩,
  ⟨some 26, none, .ext 0 (.t 22)⟩,
  ⟨some 27, none, .ext 1 (.t 22)⟩,
  ⟨some 7, none, .mov (.t 26)⟩,
  ⟨some 8, none, .mov (.t 27)⟩]
def zr16_4 : List AO := [⟨some 28, none, .mov (.t 8)⟩,
  ⟨some 29, none, .bin .neq (.t 28) (.c (.int .i64 0))⟩]
def zr16_5 : List AO := [⟨some 30, none, .mov (.t 8)⟩,
  ⟨some 4, none, .mov (.c (.int .i64 0))⟩,
  ⟨some 5, none, .mov (.c (.int .i64 0))⟩,
  ⟨some 6, none, .mov (.t 30)⟩]
def zc16_2 : AC := .seq (.reg zr16_5) .ret
def zc16_3 : AC := .cond (.t 29) zc16_2 .skip
def zr16_6 : List AO := [⟨some 32, none, .load true 2 (.t 2)⟩,
  ⟨some 33, none, .mov (.t 1)⟩,
  ⟨some 34, none, .bin .add (.t 33) (.c (.int .i64 1))⟩,
  ⟨some 35, none, .callF 14 [(.t 32), (.t 34), (.c (.int .i64 0)), (.c (.bool false))]⟩,
  ⟨some 31, none, .mov (.t 35)⟩,
  ⟨some 36, none, .ext 0 (.t 31)⟩,
  ⟨some 37, none, .ext 1 (.t 31)⟩,
  ⟨some 9, none, .mov (.t 36)⟩,
  ⟨some 10, none, .mov (.t 37)⟩]
def zr16_7 : List AO := [⟨some 38, none, .mov (.t 10)⟩,
  ⟨some 39, none, .bin .neq (.t 38) (.c (.int .i64 0))⟩]
def zr16_8 : List AO := [⟨some 40, none, .mov (.t 10)⟩,
  ⟨some 4, none, .mov (.c (.int .i64 0))⟩,
  ⟨some 5, none, .mov (.c (.int .i64 0))⟩,
  ⟨some 6, none, .mov (.t 40)⟩]
def zc16_4 : AC := .seq (.reg zr16_8) .ret
def zc16_5 : AC := .cond (.t 39) zc16_4 .skip
def zr16_9 : List AO := [⟨some 41, none, .mov (.t 7)⟩,
  ⟨some 42, none, .mov (.t 9)⟩,
  ⟨some 4, none, .mov (.t 41)⟩,
  ⟨some 5, none, .mov (.t 42)⟩,
  ⟨some 6, none, .mov (.c (.int .i64 0))⟩]
def zc16_6 : AC := .seq (.reg zr16_9) .ret
def zc16_7 : AC := .seq (.seq (.reg zr16_7) zc16_5) zc16_6
def zc16_8 : AC := .seq (.reg zr16_6) zc16_7
def zc16_9 : AC := .seq (.seq (.reg zr16_4) zc16_3) zc16_8
def zc16_10 : AC := .seq (.reg zr16_3) zc16_9
def zc16_11 : AC := .seq (.seq (.reg zr16_1) zc16_1) zc16_10
def zc16_12 : AC := .seq (.reg zr16_0) zc16_11
def zc16 : AC := zc16_12
theorem ok16 : Try.f16.body.bind (compCode Try.prog 43) = some zc16 := by kernel_rfl
theorem nt16 : Try.f16.ntmps = 43 := by kernel_rfl
theorem res16 : compRes Try.prog Try.f16.results.toList = some [.tmp 4, .tmp 5, .tmp 6] := by kernel_rfl
def zr17_0 : List AO := [⟨some 1, none, .box (.t 0)⟩,
  ⟨some 2, none, .mov (.c (.bool false))⟩]
def zr17_1 : List AO := [⟨some 3, none, .alloc [.lit .nilFunc]⟩,
  ⟨none, none, .store 1 (.t 3) (.c (.fn (.func 30) [] []))⟩]
def zr17_2 : List AO := [⟨some 7, none, .load false 1 (.t 3)⟩,
  ⟨some 8, none, .fadr 0 (.t 1)⟩,
  ⟨some 9, none, .load false 1 (.t 8)⟩,
  ⟨some 10, none, .callV (.t 7) [(.t 9)]⟩,
  ⟨some 11, none, .mov (.t 10)⟩,
  ⟨some 12, some (11, false), .fadr 1 (.t 1)⟩,
  ⟨some 13, some (11, false), .load false 1 (.t 12)⟩,
  ⟨some 14, some (11, false), .len (.t 13)⟩,
  ⟨some 15, some (11, false), .bin .gtr (.t 14) (.c (.int .i64 40))⟩,
  ⟨some 16, none, .pick (.t 11) (.c (.bool true)) (.t 15)⟩,
  ⟨some 17, none, .mov (.t 16)⟩,
  ⟨some 18, some (17, false), .fadr 1 (.t 1)⟩,
  ⟨some 19, some (17, false), .load false 1 (.t 18)⟩,
  ⟨some 20, some (17, false), .mkfn (.func 32) [] [(.t 3)]⟩,
  ⟨some 21, some (17, false), .callF 31 [(.t 19), (.t 20)]⟩,
  ⟨some 22, none, .pick (.t 17) (.c (.bool true)) (.t 21)⟩]
def zr17_3 : List AO := [⟨some 2, none, .mov (.c (.bool false))⟩]
def zc17_0 : AC := .seq (.reg zr17_3) .ret
def zc17_1 : AC := .cond (.t 22) zc17_0 .skip
def zr17_4 : List AO := [⟨some 4, none, .mov (.c (.int .i64 0))⟩]
def zr17_5 : List AO := [⟨some 23, none, .fadr 1 (.t 1)⟩,
  ⟨some 24, none, .load false 1 (.t 23)⟩,
  ⟨some 25, none, .len (.t 24)⟩,
  ⟨some 26, none, .mov (.c (.int .i64 0))⟩]
def zr17_6 : List AO := [⟨some 27, none, .bin .lss (.t 26) (.t 25)⟩]
def zr17_7 : List AO := [⟨some 28, none, .iadr 2 (.t 24) (.t 26)⟩,
  ⟨some 29, none, .load true 2 (.t 28)⟩,
  ⟨some 6, none, .alloc [.int .i64 0, .int .i64 0]⟩,
  ⟨none, none, .store 2 (.t 6) (.t 29)⟩]
def zr17_8 : List AO := [⟨some 30, none, .fadr 0 (.t 6)⟩,
  ⟨some 31, none, .load false 1 (.t 30)⟩,
  ⟨some 32, none, .mov (.t 4)⟩,
  ⟨some 33, none, .bin .sub (.t 31) (.t 32)⟩,
  ⟨some 34, none, .bin .leq (.t 33) (.c (.int .i64 5760))⟩]
def zr17_9 : List AO := [⟨some 2, none, .mov (.c (.bool false))⟩]
def zc17_2 : AC := .seq (.reg zr17_9) .ret
def zc17_3 : AC := .cond (.t 34) zc17_2 .skip
def zr17_10 : List AO := [⟨some 35, none, .fadr 0 (.t 6)⟩,
  ⟨some 36, none, .load false 1 (.t 35)⟩,
  ⟨some 4, none, .mov (.t 36)⟩]
def zc17_4 : AC := .reg zr17_10
def zc17_5 : AC := .seq (.seq (.reg zr17_8) zc17_3) zc17_4
def zc17_6 : AC := .seq (.reg zr17_7) zc17_5
def zr17_11 : List AO := [⟨some 37, none, .bin .add (.t 26) (.c (.int .i64 1))⟩,
  ⟨some 26, none, .mov (.t 37)⟩]
def zc17_7 : AC := .reg zr17_11
def zc17_8 : AC := .seq (.block 1 zc17_6) zc17_7
def zc17_9 : AC := .seq (.cond (.t 27) .skip (.exit 0)) zc17_8
def zc17_10 : AC := .seq (.reg zr17_6) zc17_9
def zc17_11 : AC := .loop zc17_10
def zc17_12 : AC := .block 0 zc17_11
def zr17_12 : List AO := [⟨some 2, none, .mov (.c (.bool true))⟩]
def zc17_13 : AC := .seq (.reg zr17_12) .ret
def zc17_14 : AC := .seq (.seq (.reg zr17_5) zc17_12) zc17_13
def zc17_15 : AC := .seq (.reg zr17_4) zc17_14
def zc17_16 : AC := .seq (.seq (.reg zr17_2) zc17_1) zc17_15
def zc17_17 : AC := .seq (.reg zr17_1) zc17_16
def zc17_18 : AC := .seq (.reg zr17_0) zc17_17
def zc17 : AC := zc17_18
theorem ok17 : Try.f17.body.bind (compCode Try.prog 38) = some zc17 := by kernel_rfl
theorem nt17 : Try.f17.ntmps = 38 := by kernel_rfl
theorem res17 : compRes Try.prog Try.f17.results.toList = some [.tmp 2] := by kernel_rfl
def zr18_0 : List AO := [⟨some 1, none, .box (.t 0)⟩,
  ⟨some 2, none, .mov (.c (.bool false))⟩]
def zr18_1 : List AO := [⟨some 6, none, .fadr 0 (.t 1)⟩,
  ⟨some 7, none, .load false 1 (.t 6)⟩,
  ⟨some 8, none, .bin .lss (.t 7) (.c (.int .i64 (-840)))⟩,
  ⟨some 9, none, .mov (.t 8)⟩,
  ⟨some 10, some (9, false), .fadr 0 (.t 1)⟩,
  ⟨some 11, some (9, false), .load false 1 (.t 10)⟩,
  ⟨some 12, some (9, false), .bin .gtr (.t 11) (.c (.int .i64 840))⟩,
  ⟨some 13, none, .pick (.t 9) (.c (.bool true)) (.t 12)⟩,
  ⟨some 14, none, .mov (.t 13)⟩,
  ⟨some 15, some (14, false), .fadr 1 (.t 1)⟩,
  ⟨some 16, some (14, false), .load false 1 (.t 15)⟩,
  ⟨some 17, some (14, false), .len (.t 16)⟩,
  ⟨some 18, some (14, false), .bin .gtr (.t 17) (.c (.int .i64 40))⟩,
  ⟨some 19, none, .pick (.t 14) (.c (.bool true)) (.t 18)⟩]
def zr18_2 : List AO := [⟨some 2, none, .mov (.c (.bool false))⟩]
def zc18_0 : AC := .seq (.reg zr18_2) .ret
def zc18_1 : AC := .cond (.t 19) zc18_0 .skip
def zr18_3 : List AO := [⟨some 3, none, .mov (.c (.int .i64 0))⟩]
def zr18_4 : List AO := [⟨some 4, none, .mov (.c (.int .i64 0))⟩]
def zr18_5 : List AO := [⟨some 20, none, .mov (.t 4)⟩,
  ⟨some 21, none, .fadr 1 (.t 1)⟩,
  ⟨some 22, none, .load false 1 (.t 21)⟩,
  ⟨some 23, none, .len (.t 22)⟩,
  ⟨some 24, none, .bin .lss (.t 20) (.t 23)⟩]
def zc18_2 : AC := .cond (.t 24) .skip (.exit 0)
def zr18_6 : List AO := [⟨some 27, none, .fadr 1 (.t 1)⟩,
  ⟨some 28, none, .load false 1 (.t 27)⟩,
  ⟨some 29, none, .mov (.t 4)⟩,
  ⟨some 30, none, .iadr 2 (.t 28) (.t 29)⟩,
  ⟨some 31, none, .load true 2 (.t 30)⟩,
  ⟨some 5, none, .alloc [.int .i64 0, .int .i64 0]⟩,
  ⟨none, none, .store 2 (.t 5) (.t 31)⟩]
def zr18_7 : List AO := [⟨some 32, none, .fadr 1 (.t 5)⟩,
  ⟨some 33, none, .load false 1 (.t 32)⟩,
  ⟨some 34, none, .bin .lss (.t 33) (.c (.int .i64 (-840)))⟩,
  ⟨some 35, none, .mov (.t 34)⟩,
  ⟨some 36, some (35, false), .fadr 1 (.t 5)⟩,
  ⟨some 37, some (35, false), .load false 1 (.t 36)⟩,
  ⟨some 38, some (35, false), .bin .gtr (.t 37) (.c (.int .i64 840))⟩,
  ⟨some 39, none, .pick (.t 35) (.c (.bool true)) (.t 38)⟩,
  ⟨some 40, none, .mov (.t 39)⟩,
  ⟨some 41, some (40, false), .fadr 0 (.t 5)⟩,
  ⟨some 42, some (40, false), .load false 1 (.t 41)⟩,
  ⟨some 43, some (40, false), .bin .gtr (.t 42) (.c (.int .i64 105190559))⟩,
  ⟨some 44, none, .pick (.t 40) (.c (.bool true)) (.t 43)⟩,
  ⟨some 45, none, .mov (.t 44)⟩,
  ⟨some 46, some (45, false), .fadr 0 (.t 5)⟩,
  ⟨some 47, some (45, false), .load false 1 (.t 46)⟩,
  ⟨some 48, some (45, false), .mov (.t 3)⟩,
  ⟨some 49, some (45, false), .bin .add (.t 48) (.c (.int .i64 5760))⟩,
  ⟨some 50, some (45, false), .bin .leq (.t 47) (.t 49)⟩,
  ⟨some 51, none, .pick (.t 45) (.c (.bool true)) (.t 50)⟩]
def zr18_8 : List AO := [⟨some 2, none, .mov (.c (.bool false))⟩]
def zc18_3 : AC := .seq (.reg zr18_8) .ret
def zc18_4 : AC := .cond (.t 51) zc18_3 .skip
def zr18_9 : List AO := [⟨some 52, none, .fadr 0 (.t 5)⟩,
  ⟨some 53, none, .load false 1 (.t 52)⟩,
  ⟨some 3, none, .mov (.t 53)⟩]
def zc18_5 : AC := .reg zr18_9
def zc18_6 : AC := .seq (.seq (.reg zr18_7) zc18_4) zc18_5
def zc18_7 : AC := .seq (.reg zr18_6) zc18_6
def zr18_10 : List AO := [⟨some 25, none, .mov (.t 4)⟩,
  ⟨some 26, none, .bin .add (.t 25) (.c (.int .i64 1))⟩,
  ⟨some 4, none, .mov (.t 26)⟩]
def zc18_8 : AC := .reg zr18_10
def zc18_9 : AC := .seq (.block 1 zc18_7) zc18_8
def zc18_10 : AC := .seq (.seq (.reg zr18_5) zc18_2) zc18_9
def zc18_11 : AC := .loop zc18_10
def zc18_12 : AC := .block 0 zc18_11
def zr18_11 : List AO := [⟨some 2, none, .mov (.c (.bool true))⟩]
def zc18_13 : AC := .seq (.reg zr18_11) .ret
def zc18_14 : AC := .seq (.seq (.reg zr18_4) zc18_12) zc18_13
def zc18_15 : AC := .seq (.reg zr18_3) zc18_14
def zc18_16 : AC := .seq (.seq (.reg zr18_1) zc18_1) zc18_15
def zc18_17 : AC := .seq (.reg zr18_0) zc18_16
def zc18 : AC := zc18_17
theorem ok18 : Try.f18.body.bind (compCode Try.prog 54) = some zc18 := by kernel_rfl
theorem nt18 : Try.f18.ntmps = 54 := by kernel_rfl
theorem res18 : compRes Try.prog Try.f18.results.toList = some [.tmp 2] := by kernel_rfl
def zr19_0 : List AO := [⟨some 4, none, .mov (.c (.bool false))⟩]
def zr19_1 : List AO := [⟨some 6, none, .mov (.t 0)⟩,
  ⟨some 7, none, .len (.t 6)⟩,
  ⟨some 8, none, .mov (.t 1)⟩,
  ⟨some 9, none, .len (.t 8)⟩,
  ⟨some 10, none, .bin .neq (.t 7) (.t 9)⟩]
def zr19_2 : List AO := [⟨some 4, none, .mov (.c (.bool false))⟩]
def zc19_0 : AC := .seq (.reg zr19_2) .ret
def zc19_1 : AC := .cond (.t 10) zc19_0 .skip
def zr19_3 : List AO := [⟨some 5, none, .mov (.c (.int .i64 0))⟩]
def zr19_4 : List AO := [⟨some 11, none, .mov (.t 5)⟩,
  ⟨some 12, none, .mov (.t 0)⟩,
  ⟨some 13, none, .len (.t 12)⟩,
  ⟨some 14, none, .bin .lss (.t 11) (.t 13)⟩]
def zc19_2 : AC := .cond (.t 14) .skip (.exit 0)
def zr19_5 : List (Bool × AO) := [(false, ⟨some 17, none, .mov (.t 0)⟩),
  (false, ⟨some 18, none, .mov (.t 5)⟩),
  (false, ⟨some 19, none, .iadr 1 (.t 17) (.t 18)⟩),
  (false, ⟨some 20, none, .load false 1 (.t 19)⟩),
  (false, ⟨some 21, none, .mov (.t 1)⟩),
  (true, ⟨some 22, none, .mov (.t 5)⟩),
  (true, ⟨some 23, none, .iadr 1 (.t 21) (.t 22)⟩),
  (true, ⟨some 24, none, .load false 1 (.t 23)⟩),
  (true, ⟨some 25, none, .bin .neq (.t 20) (.t 24)⟩)]
def zr19_6 : List AO := [⟨some 4, none, .mov (.c (.bool false))⟩]
def zc19_3 : AC := .seq (.reg zr19_6) .ret
def zc19_4 : AC := .cond (.t 25) zc19_3 .skip
def zc19_5 : AC := .seq (.regD true zr19_5) zc19_4
def zr19_7 : List AO := [⟨some 15, none, .mov (.t 5)⟩,
  ⟨some 16, none, .bin .add (.t 15) (.c (.int .i64 1))⟩,
  ⟨some 5, none, .mov (.t 16)⟩]
def zc19_6 : AC := .reg zr19_7
def zc19_7 : AC := .seq (.block 1 zc19_5) zc19_6
def zc19_8 : AC := .seq (.seq (.reg zr19_4) zc19_2) zc19_7
def zc19_9 : AC := .loop zc19_8
def zc19_10 : AC := .block 0 zc19_9
def zr19_8 : List AO := [⟨some 4, none, .mov (.c (.bool true))⟩]
def zc19_11 : AC := .seq (.reg zr19_8) .ret
def zc19_12 : AC := .seq (.seq (.reg zr19_3) zc19_10) zc19_11
def zc19_13 : AC := .seq (.seq (.reg zr19_1) zc19_1) zc19_12
def zc19_14 : AC := .seq (.reg zr19_0) zc19_13
def zc19 : AC := zc19_14
theorem ok19 : Try.f19.body.bind (compCode Try.prog 26) = some zc19 := by kernel_rfl
theorem nt19 : Try.f19.ntmps = 26 := by kernel_rfl
theorem res19 : compRes Try.prog Try.f19.results.toList = some [.tmp 4] := by kernel_rfl
def zr20_0 : List AO := [⟨some 3, none, .box (.t 0)⟩,
  ⟨some 4, none, .box (.t 1)⟩,
  ⟨some 5, none, .box (.t 2)⟩,
  ⟨some 6, none, .mov (.c (.nil))⟩]
def zr20_1 : List AO := [⟨some 10, none, .load true 2 (.t 3)⟩,
  ⟨some 11, none, .load false 1 (.t 4)⟩,
  ⟨some 12, none, .load false 1 (.t 5)⟩,
  ⟨some 13, none, .callF 27 [(.t 10), (.t 11), (.t 12)]⟩,
  ⟨some 14, none, .un .not (.t 13)⟩]
def zr20_2 : List AO := [⟨some 6, none, .mov (.c (.nil))⟩]
def zc20_0 : AC := .seq (.reg zr20_2) .ret
def zc20_1 : AC := .cond (.t 14) zc20_0 .skip
def zr20_3 : List AO := [⟨some 7, none, .alloc [.nil]⟩]
def zr20_4 : List AO := [⟨some 15, none, .load true 2 (.t 3)⟩,
  ⟨some 16, none, .callF 33 [(.t 15)]⟩]
def zr20_5 : List AO := [⟨some 8, none, .alloc [.int .i64 0, .int .i64 0, .int .i64 0, .int .i64 0]⟩,
  ⟨none, none, .store 4 (.t 8) (.t 17)⟩]
def zc20_2 : AC := .reg zr20_5
def zr20_6 : List AO := [⟨some 18, none, .load false 1 (.t 4)⟩,
  ⟨some 19, none, .bin .mul (.t 18) (.c (.int .i64 1440))⟩,
  ⟨some 20, none, .load false 1 (.t 5)⟩,
  ⟨some 21, none, .bin .add (.t 19) (.t 20)⟩,
  ⟨some 22, none, .fadr 2 (.t 8)⟩,
  ⟨some 23, none, .load false 1 (.t 22)⟩,
  ⟨some 24, none, .bin .sub (.t 21) (.t 23)⟩,
  ⟨some 9, none, .mov (.t 24)⟩]
def zr20_7 : List AO := [⟨some 25, none, .mov (.t 9)⟩,
  ⟨some 26, none, .fadr 0 (.t 8)⟩,
  ⟨some 27, none, .load false 1 (.t 26)⟩,
  ⟨some 28, none, .bin .geq (.t 25) (.t 27)⟩,
  ⟨some 29, none, .mov (.t 28)⟩,
  ⟨some 30, some (29, true), .mov (.t 9)⟩,
  ⟨some 31, some (29, true), .fadr 1 (.t 8)⟩,
  ⟨some 32, some (29, true), .load false 1 (.t 31)⟩,
  ⟨some 33, some (29, true), .bin .lss (.t 30) (.t 32)⟩,
  ⟨some 34, none, .pick (.t 29) (.t 33) (.c (.bool false))⟩]
def zr20_8 : List AO := [⟨some 35, none, .load false 1 (.t 7)⟩,
  ⟨some 36, none, .mov (.t 9)⟩,
  ⟨some 37, none, .mkrow 1 1 [.int .i64 0] [(0, 1, (.t 36))]⟩,
  ⟨some 38, none, .app 1 8 (.t 35) (.t 37)⟩,
  ⟨none, none, .store 1 (.t 7) (.t 38)⟩]
def zc20_3 : AC := .reg zr20_8
def zc20_4 : AC := .cond (.t 34) zc20_3 .skip
def zc20_5 : AC := .seq (.reg zr20_7) zc20_4
def zc20_6 : AC := .seq (.reg zr20_6) zc20_5
def zc20_7 : AC := .block 1 zc20_6
def zc20_8 : AC := .range (.t 16) [17] zc20_2 zc20_7
def zc20_9 : AC := .block 0 zc20_8
def zr20_9 : List AO := [⟨some 39, none, .load false 1 (.t 7)⟩,
  ⟨some 6, none, .mov (.t 39)⟩]
def zc20_10 : AC := .seq (.reg zr20_9) .ret
def zc20_11 : AC := .seq (.seq (.reg zr20_4) zc20_9) zc20_10
def zc20_12 : AC := .seq (.reg zr20_3) zc20_11
def zc20_13 : AC := .seq (.seq (.reg zr20_1) zc20_1) zc20_12
def zc20_14 : AC := .seq (.reg zr20_0) zc20_13
def zc20 : AC := zc20_14
theorem ok20 : Try.f20.body.bind (compCode Try.prog 40) = some zc20 := by kernel_rfl
theorem nt20 : Try.f20.ntmps = 40 := by kernel_rfl
theorem res20 : compRes Try.prog Try.f20.results.toList = some [.tmp 6] := by kernel_rfl
def zr21_0 : List AO := [⟨some 3, none, .box (.t 0)⟩,
  ⟨some 6, none, .mov (.c (.nil))⟩]
def zr21_1 : List AO := [⟨some 7, none, .mov (.c (.nil))⟩]
def zr21_2 : List AO := [⟨some 10, none, .load true 2 (.t 3)⟩,
  ⟨some 11, none, .mov (.t 1)⟩,
  ⟨some 12, none, .mov (.t 2)⟩,
  ⟨some 13, none, .callF 29 [(.t 10), (.t 11), (.t 12)]⟩,
  ⟨some 14, none, .un .not (.t 13)⟩]
def zr21_3 : List AO := [⟨some 15, none, .mov (.t 7)⟩,
  ⟨some 6, none, .mov (.t 15)⟩]
def zc21_0 : AC := .seq (.reg zr21_3) .ret
def zc21_1 : AC := .cond (.t 14) zc21_0 .skip
def zr21_4 : List AO := [⟨some 8, none, .mov (.c (.int .i64 0))⟩]
def zr21_5 : List AO := [⟨some 16, none, .mov (.t 8)⟩,
  ⟨some 17, none, .fadr 1 (.t 3)⟩,
  ⟨some 18, none, .load false 1 (.t 17)⟩,
  ⟨some 19, none, .len (.t 18)⟩,
  ⟨some 20, none, .bin .leq (.t 16) (.t 19)⟩]
def zc21_2 : AC := .cond (.t 20) .skip (.exit 0)
def zr21_6 : List AO := [⟨some 23, none, .mov (.t 1)⟩,
  ⟨some 24, none, .bin .mul (.t 23) (.c (.int .i64 1440))⟩,
  ⟨some 25, none, .mov (.t 2)⟩,
  ⟨some 26, none, .bin .add (.t 24) (.t 25)⟩,
  ⟨some 27, none, .load true 2 (.t 3)⟩,
  ⟨some 28, none, .mov (.t 8)⟩,
  ⟨some 29, none, .callF 25 [(.t 27), (.t 28)]⟩,
  ⟨some 30, none, .bin .sub (.t 26) (.t 29)⟩,
  ⟨some 9, none, .mov (.t 30)⟩]
def zr21_7 : List AO := [⟨some 31, none, .mov (.t 9)⟩,
  ⟨some 32, none, .bin .geq (.t 31) (.c (.int .i64 0))⟩,
  ⟨some 33, none, .mov (.t 32)⟩,
  ⟨some 34, some (33, true), .mov (.t 9)⟩,
  ⟨some 35, some (33, true), .bin .leq (.t 34) (.c (.int .i64 105190559))⟩,
  ⟨some 36, none, .pick (.t 33) (.t 35) (.c (.bool false))⟩,
  ⟨some 37, none, .mov (.t 36)⟩,
  ⟨some 38, some (37, true), .load true 2 (.t 3)⟩,
  ⟨some 39, some (37, true), .mov (.t 9)⟩,
  ⟨some 40, some (37, true), .callF 26 [(.t 38), (.t 39)]⟩,
  ⟨some 41, some (37, true), .mov (.t 8)⟩,
  ⟨some 42, some (37, true), .bin .eql (.t 40) (.t 41)⟩,
  ⟨some 43, none, .pick (.t 37) (.t 42) (.c (.bool false))⟩]
def zr21_8 : List AO := [⟨some 44, none, .mov (.t 7)⟩,
  ⟨some 45, none, .mov (.t 9)⟩,
  ⟨some 46, none, .mkrow 1 1 [.int .i64 0] [(0, 1, (.t 45))]⟩,
  ⟨some 47, none, .app 1 8 (.t 44) (.t 46)⟩,
  ⟨some 7, none, .mov (.t 47)⟩]
def zc21_3 : AC := .reg zr21_8
def zc21_4 : AC := .cond (.t 43) zc21_3 .skip
def zc21_5 : AC := .seq (.reg zr21_7) zc21_4
def zc21_6 : AC := .seq (.reg zr21_6) zc21_5
def zr21_9 : List AO := [⟨some 21, none, .mov (.t 8)⟩,
  ⟨some 22, none, .bin .add (.t 21) (.c (.int .i64 1))⟩,
  ⟨some 8, none, .mov (.t 22)⟩]
def zc21_7 : AC := .reg zr21_9
def zc21_8 : AC := .seq (.block 1 zc21_6) zc21_7
def zc21_9 : AC := .seq (.seq (.reg zr21_5) zc21_2) zc21_8
def zc21_10 : AC := .loop zc21_9
def zc21_11 : AC := .block 0 zc21_10
def zr21_10 : List AO := [⟨some 48, none, .mov (.t 7)⟩,
  ⟨some 6, none, .mov (.t 48)⟩]
def zc21_12 : AC := .seq (.reg zr21_10) .ret
def zc21_13 : AC := .seq (.seq (.reg zr21_4) zc21_11) zc21_12
def zc21_14 : AC := .seq (.seq (.reg zr21_2) zc21_1) zc21_13
def zc21_15 : AC := .seq (.reg zr21_1) zc21_14
def zc21_16 : AC := .seq (.reg zr21_0) zc21_15
def zc21 : AC := zc21_16
theorem ok21 : Try.f21.body.bind (compCode Try.prog 49) = some zc21 := by kernel_rfl
theorem nt21 : Try.f21.ntmps = 49 := by kernel_rfl
theorem res21 : compRes Try.prog Try.f21.results.toList = some [.tmp 6] := by kernel_rfl
def zr22_0 : List AO := [⟨some 2, none, .box (.t 0)⟩,
  ⟨some 4, none, .alloc [.int .i64 0, .nil]⟩]
def zr22_1 : List AO := [⟨some 7, none, .fadr 0 (.t 2)⟩,
  ⟨some 8, none, .load false 1 (.t 7)⟩,
  ⟨some 9, none, .mov (.t 1)⟩,
  ⟨some 10, none, .bin .add (.t 8) (.t 9)⟩,
  ⟨some 11, none, .bld [.int .i64 0, .nil] [(0, 1, (.t 10))]⟩,
  ⟨some 5, none, .alloc [.int .i64 0, .nil]⟩,
  ⟨none, none, .store 2 (.t 5) (.t 11)⟩]
def zr22_2 : List AO := [⟨some 6, none, .mov (.c (.int .i64 0))⟩]
def zr22_3 : List AO := [⟨some 12, none, .mov (.t 6)⟩,
  ⟨some 13, none, .fadr 1 (.t 2)⟩,
  ⟨some 14, none, .load false 1 (.t 13)⟩,
  ⟨some 15, none, .len (.t 14)⟩,
  ⟨some 16, none, .bin .lss (.t 12) (.t 15)⟩]
def zc22_0 : AC := .cond (.t 16) .skip (.exit 0)
def zr22_4 : List (Bool × AO) := [(false, ⟨some 19, none, .fadr 1 (.t 5)⟩),
  (false, ⟨some 20, none, .load false 1 (.t 19)⟩),
  (false, ⟨some 21, none, .fadr 1 (.t 2)⟩),
  (false, ⟨some 22, none, .load false 1 (.t 21)⟩),
  (false, ⟨some 23, none, .mov (.t 6)⟩),
  (false, ⟨some 24, none, .iadr 2 (.t 22) (.t 23)⟩),
  (false, ⟨some 25, none, .fadr 0 (.t 24)⟩),
  (false, ⟨some 26, none, .load false 1 (.t 25)⟩),
  (false, ⟨some 27, none, .fadr 1 (.t 2)⟩),
  (false, ⟨some 28, none, .load false 1 (.t 27)⟩),
  (false, ⟨some 29, none, .mov (.t 6)⟩),
  (false, ⟨some 30, none, .iadr 2 (.t 28) (.t 29)⟩),
  (false, ⟨some 31, none, .fadr 1 (.t 30)⟩),
  (false, ⟨some 32, none, .load false 1 (.t 31)⟩),
  (true, ⟨some 33, none, .mov (.t 1)⟩),
  (true, ⟨some 34, none, .bin .add (.t 32) (.t 33)⟩),
  (true, ⟨some 35, none, .bld [.int .i64 0, .int .i64 0] [(0, 1, (.t 26)), (1, 1, (.t 34))]⟩),
  (true, ⟨some 36, none, .mkrow 2 1 [.int .i64 0, .int .i64 0] [(0, 2, (.t 35))]⟩),
  (true, ⟨some 37, none, .app 2 16 (.t 20) (.t 36)⟩),
  (true, ⟨some 38, none, .fadr 1 (.t 5)⟩),
  (true, ⟨none, none, .store 1 (.t 38) (.t 37)⟩)]
def zc22_1 : AC := .regD true zr22_4
def zr22_5 : List AO := [⟨some 17, none, .mov (.t 6)⟩,
  ⟨some 18, none, .bin .add (.t 17) (.c (.int .i64 1))⟩,
  ⟨some 6, none, .mov (.t 18)⟩]
def zc22_2 : AC := .reg zr22_5
def zc22_3 : AC := .seq (.block 1 zc22_1) zc22_2
def zc22_4 : AC := .seq (.seq (.reg zr22_3) zc22_0) zc22_3
def zc22_5 : AC := .loop zc22_4
def zc22_6 : AC := .block 0 zc22_5
def zr22_6 : List AO := [⟨some 39, none, .load true 2 (.t 5)⟩,
  ⟨none, none, .store 2 (.t 4) (.t 39)⟩]
def zc22_7 : AC := .seq (.reg zr22_6) .ret
def zc22_8 : AC := .seq (.seq (.reg zr22_2) zc22_6) zc22_7
def zc22_9 : AC := .seq (.reg zr22_1) zc22_8
def zc22_10 : AC := .seq (.reg zr22_0) zc22_9
def zc22 : AC := zc22_10
theorem ok22 : Try.f22.body.bind (compCode Try.prog 40) = some zc22 := by kernel_rfl
theorem nt22 : Try.f22.ntmps = 40 := by kernel_rfl
theorem res22 : compRes Try.prog Try.f22.results.toList = some [.cell true 2 4] := by kernel_rfl
def zr23_0 : List AO := [⟨some 2, none, .box (.t 0)⟩,
  ⟨some 3, none, .box (.t 1)⟩,
  ⟨some 4, none, .alloc [.int .i64 0, .int .i64 0, .int .i64 0, .int .i64 0]⟩,
  ⟨some 5, none, .alloc [.bool false]⟩]
def zr23_1 : List AO := [⟨some 7, none, .load true 2 (.t 2)⟩,
  ⟨some 8, none, .callF 33 [(.t 7)]⟩]
def zr23_2 : List AO := [⟨some 6, none, .alloc [.int .i64 0, .int .i64 0, .int .i64 0, .int .i64 0]⟩,
  ⟨none, none, .store 4 (.t 6) (.t 9)⟩]
def zc23_0 : AC := .reg zr23_2
def zr23_3 : List AO := [⟨some 10, none, .load false 1 (.t 3)⟩,
  ⟨some 11, none, .load true 4 (.t 6)⟩,
  ⟨some 12, none, .callV (.t 10) [(.t 11)]⟩]
def zr23_4 : List AO := [⟨some 13, none, .load true 4 (.t 6)⟩,
  ⟨none, none, .store 4 (.t 4) (.t 13)⟩,
  ⟨none, none, .store 1 (.t 5) (.c (.bool true))⟩]
def zc23_1 : AC := .seq (.reg zr23_4) .ret
def zc23_2 : AC := .cond (.t 12) zc23_1 .skip
def zc23_3 : AC := .seq (.reg zr23_3) zc23_2
def zc23_4 : AC := .block 1 zc23_3
def zc23_5 : AC := .range (.t 8) [9] zc23_0 zc23_4
def zc23_6 : AC := .block 0 zc23_5
def zr23_5 : List AO := [⟨some 14, none, .bld [.int .i64 0, .int .i64 0, .int .i64 0, .int .i64 0] []⟩,
  ⟨none, none, .store 4 (.t 4) (.t 14)⟩,
  ⟨none, none, .store 1 (.t 5) (.c (.bool false))⟩]
def zc23_7 : AC := .seq (.reg zr23_5) .ret
def zc23_8 : AC := .seq (.seq (.reg zr23_1) zc23_6) zc23_7
def zc23_9 : AC := .seq (.reg zr23_0) zc23_8
def zc23 : AC := zc23_9
theorem ok23 : Try.f23.body.bind (compCode Try.prog 15) = some zc23 := by kernel_rfl
theorem nt23 : Try.f23.ntmps = 15 := by kernel_rfl
theorem res23 : compRes Try.prog Try.f23.results.toList = some [.cell true 4 4, .cell false 1 5] := by kernel_rfl
def zr24_0 : List AO := [⟨some 2, none, .box (.t 0)⟩,
  ⟨some 3, none, .mov (.c (.bool false))⟩]
def zr24_1 : List AO := [⟨some 4, none, .load false 1 (.t 1)⟩,
  ⟨some 5, none, .fadr 1 (.t 2)⟩,
  ⟨some 6, none, .load false 1 (.t 5)⟩,
  ⟨some 7, none, .bin .lss (.t 4) (.t 6)⟩,
  ⟨some 3, none, .mov (.t 7)⟩]
def zc24_0 : AC := .seq (.reg zr24_1) .ret
def zc24_1 : AC := .seq (.reg zr24_0) zc24_0
def zc24 : AC := zc24_1
theorem ok24 : Try.f24.body.bind (compCode Try.prog 8) = some zc24 := by kernel_rfl
theorem nt24 : Try.f24.ntmps = 8 := by kernel_rfl
theorem res24 : compRes Try.prog Try.f24.results.toList = some [.tmp 3] := by kernel_rfl
def zr25_0 : List AO := [⟨some 2, none, .box (.t 0)⟩,
  ⟨some 4, none, .mov (.c (.int .i64 0))⟩]
def zr25_1 : List AO := [⟨some 5, none, .mov (.t 1)⟩,
  ⟨some 6, none, .bin .eql (.t 5) (.c (.int .i64 0))⟩]
def zr25_2 : List AO := [⟨some 7, none, .fadr 0 (.t 2)⟩,
  ⟨some 8, none, .load false 1 (.t 7)⟩,
  ⟨some 4, none, .mov (.t 8)⟩]
def zc25_0 : AC := .seq (.reg zr25_2) .ret
def zc25_1 : AC := .cond (.t 6) zc25_0 .skip
def zr25_3 : List AO := [⟨some 9, none, .fadr 1 (.t 2)⟩,
  ⟨some 10, none, .load false 1 (.t 9)⟩,
  ⟨some 11, none, .mov (.t 1)⟩,
  ⟨some 12, none, .bin .sub (.t 11) (.c (.int .i64 1))⟩,
  ⟨some 13, none, .iadr 2 (.t 10) (.t 12)⟩,
  ⟨some 14, none, .fadr 1 (.t 13)⟩,
  ⟨some 15, none, .load false 1 (.t 14)⟩,
  ⟨some 4, none, .mov (.t 15)⟩]
def zc25_2 : AC := .seq (.reg zr25_3) .ret
def zc25_3 : AC := .seq (.seq (.reg zr25_1) zc25_1) zc25_2
def zc25_4 : AC := .seq (.reg zr25_0) zc25_3
def zc25 : AC := zc25_4
theorem ok25 : Try.f25.body.bind (compCode Try.prog 16) = some zc25 := by kernel_rfl
theorem nt25 : Try.f25.ntmps = 16 := by kernel_rfl
theorem res25 : compRes Try.prog Try.f25.results.toList = some [.tmp 4] := by kernel_rfl
def zr26_0 : List AO := [⟨some 2, none, .box (.t 0)⟩,
  ⟨some 4, none, .mov (.c (.int .i64 0))⟩]
def zr26_1 : List AO := [⟨some 5, none, .mov (.c (.int .i64 0))⟩]
def zr26_2 : List AO := [⟨some 6, none, .mov (.t 5)⟩,
  ⟨some 7, none, .fadr 1 (.t 2)⟩,
  ⟨some 8, none, .load false 1 (.t 7)⟩,
  ⟨some 9, none, .len (.t 8)⟩,
  ⟨some 10, none, .bin .lss (.t 6) (.t 9)⟩,
  ⟨some 11, none, .mov (.t 10)⟩,
  ⟨some 12, some (11, true), .fadr 1 (.t 2)⟩,
  ⟨some 13, some (11, true), .load false 1 (.t 12)⟩,
  ⟨some 14, some (11, true), .mov (.t 5)⟩,
  ⟨some 15, some (11, true), .iadr 2 (.t 13) (.t 14)⟩,
  ⟨some 16, some (11, true), .fadr 0 (.t 15)⟩,
  ⟨some 17, some (11, true), .load false 1 (.t 16)⟩,
  ⟨some 18, some (11, true), .mov (.t 1)⟩,
  ⟨some 19, some (11, true), .bin .leq (.t 17) (.t 18)⟩,
  ⟨some 20, none, .pick (.t 11) (.t 19) (.c (.bool false))⟩]
def zc26_0 : AC := .cond (.t 20) .skip (.exit 0)
def zr26_3 : List AO := [⟨some 21, none, .mov (.t 5)⟩,
  ⟨some 22, none, .bin .add (.t 21) (.c (.int .i64 1))⟩,
  ⟨some 5, none, .mov (.t 22)⟩]
def zc26_1 : AC := .reg zr26_3
def zc26_2 : AC := .block 1 zc26_1
def zc26_3 : AC := .seq (.seq (.reg zr26_2) zc26_0) zc26_2
def zc26_4 : AC := .loop zc26_3
def zr26_4 : List AO := [⟨some 23, none, .mov (.t 5)⟩,
  ⟨some 4, none, .mov (.t 23)⟩]
def zc26_5 : AC := .seq (.reg zr26_4) .ret
def zc26_6 : AC := .seq (.block 0 zc26_4) zc26_5
def zc26_7 : AC := .seq (.reg zr26_1) zc26_6
def zc26_8 : AC := .seq (.reg zr26_0) zc26_7
def zc26 : AC := zc26_8
theorem ok26 : Try.f26.body.bind (compCode Try.prog 24) = some zc26 := by kernel_rfl
theorem nt26 : Try.f26.ntmps = 24 := by kernel_rfl
theorem res26 : compRes Try.prog Try.f26.results.toList = some [.tmp 4] := by kernel_rfl
def zr27_0 : List AO := [⟨some 3, none, .box (.t 0)⟩,
  ⟨some 6, none, .mov (.c (.bool false))⟩]
def zr27_1 : List AO := [⟨some 7, none, .load true 2 (.t 3)⟩,
  ⟨some 8, none, .callF 17 [(.t 7)]⟩,
  ⟨some 9, none, .mov (.t 8)⟩,
  ⟨some 10, some (9, true), .mov (.t 1)⟩,
  ⟨some 11, some (9, true), .bin .geq (.t 10) (.c (.int .i64 0))⟩,
  ⟨some 12, none, .pick (.t 9) (.t 11) (.c (.bool false))⟩,
  ⟨some 13, none, .mov (.t 12)⟩,
  ⟨some 14, some (13, true), .mov (.t 1)⟩,
  ⟨some 15, some (13, true), .bin .leq (.t 14) (.c (.int .i64 73048))⟩,
  ⟨some 16, none, .pick (.t 13) (.t 15) (.c (.bool false))⟩,
  ⟨some 17, none, .mov (.t 16)⟩,
  ⟨some 18, some (17, true), .mov (.t 2)⟩,
  ⟨some 19, some (17, true), .bin .geq (.t 18) (.c (.int .i64 0))⟩,
  ⟨some 20, none, .pick (.t 17) (.t 19) (.c (.bool false))⟩,
  ⟨some 21, none, .mov (.t 20)⟩,
  ⟨some 22, some (21, true), .mov (.t 2)⟩,
  ⟨some 23, some (21, true), .bin .lss (.t 22) (.c (.int .i64 1440))⟩,
  ⟨some 24, none, .pick (.t 21) (.t 23) (.c (.bool false))⟩,
  ⟨some 6, none, .mov (.t 24)⟩]
def zc27_0 : AC := .seq (.reg zr27_1) .ret
def zc27_1 : AC := .seq (.reg zr27_0) zc27_0
def zc27 : AC := zc27_1
theorem ok27 : Try.f27.body.bind (compCode Try.prog 25) = some zc27 := by kernel_rfl
theorem nt27 : Try.f27.ntmps = 25 := by kernel_rfl
theorem res27 : compRes Try.prog Try.f27.results.toList = some [.tmp 6] := by kernel_rfl
def zr28_0 : List AO := [⟨some 2, none, .box (.t 0)⟩,
  ⟨some 3, none, .mov (.c (.bool false))⟩]
def zr28_1 : List AO := [⟨some 4, none, .fadr 0 (.t 2)⟩,
  ⟨some 5, none, .load false 1 (.t 4)⟩,
  ⟨some 6, none, .fadr 3 (.t 2)⟩,
  ⟨some 7, none, .load false 1 (.t 6)⟩,
  ⟨some 8, none, .bin .add (.t 5) (.t 7)⟩,
  ⟨some 9, none, .load false 1 (.t 1)⟩,
  ⟨some 10, none, .bin .leq (.t 8) (.t 9)⟩,
  ⟨some 11, none, .mov (.t 10)⟩,
  ⟨some 12, some (11, true), .load false 1 (.t 1)⟩,
  ⟨some 13, some (11, true), .fadr 0 (.t 2)⟩,
  ⟨some 14, some (11, true), .load false 1 (.t 13)⟩,
  ⟨some 15, some (11, true), .fadr 2 (.t 2)⟩,
  ⟨some 16, some (11, true), .load false 1 (.t 15)⟩,
  ⟨some 17, some (11, true), .bin .add (.t 14) (.t 16)⟩,
  ⟨some 18, some (11, true), .bin .lss (.t 12) (.t 17)⟩,
  ⟨some 19, none, .pick (.t 11) (.t 18) (.c (.bool false))⟩,
  ⟨some 3, none, .mov (.t 19)⟩]
def zc28_0 : AC := .seq (.reg zr28_1) .ret
def zc28_1 : AC := .seq (.reg zr28_0) zc28_0
def zc28 : AC := zc28_1
theorem ok28 : Try.f28.body.bind (compCode Try.prog 20) = some zc28 := by kernel_rfl
theorem nt28 : Try.f28.ntmps = 20 := by kernel_rfl
theorem res28 : compRes Try.prog Try.f28.results.toList = some [.tmp 3] := by kernel_rfl
def zr29_0 : List AO := [⟨some 3, none, .box (.t 0)⟩,
  ⟨some 6, none, .mov (.c (.bool false))⟩]
def zr29_1 : List AO := [⟨some 7, none, .load true 2 (.t 3)⟩,
  ⟨some 8, none, .callF 18 [(.t 7)]⟩,
  ⟨some 9, none, .mov (.t 8)⟩,
  ⟨some 10, some (9, true), .mov (.t 1)⟩,
  ⟨some 11, some (9, true), .bin .geq (.t 10) (.c (.int .i64 0))⟩,
  ⟨some 12, none, .pick (.t 9) (.t 11) (.c (.bool false))⟩,
  ⟨some 13, none, .mov (.t 12)⟩,
  ⟨some 14, some (13, true), .mov (.t 1)⟩,
  ⟨some 15, some (13, true), .bin .leq (.t 14) (.c (.int .i64 73048))⟩,
  ⟨some 16, none, .pick (.t 13) (.t 15) (.c (.bool false))⟩,
  ⟨some 17, none, .mov (.t 16)⟩,
  ⟨some 18, some (17, true), .mov (.t 2)⟩,
  ⟨some 19, some (17, true), .bin .geq (.t 18) (.c (.int .i64 0))⟩,
  ⟨some 20, none, .pick (.t 17) (.t 19) (.c (.bool false))⟩,
  ⟨some 21, none, .mov (.t 20)⟩,
  ⟨some 22, some (21, true), .mov (.t 2)⟩,
  ⟨some 23, some (21, true), .bin .leq (.t 22) (.c (.int .i64 1439))⟩,
  ⟨some 24, none, .pick (.t 21) (.t 23) (.c (.bool false))⟩,
  ⟨some 6, none, .mov (.t 24)⟩]
def zc29_0 : AC := .seq (.reg zr29_1) .ret
def zc29_1 : AC := .seq (.reg zr29_0) zc29_0
def zc29 : AC := zc29_1
theorem ok29 : Try.f29.body.bind (compCode Try.prog 25) = some zc29 := by kernel_rfl
theorem nt29 : Try.f29.ntmps = 25 := by kernel_rfl
theorem res29 : compRes Try.prog Try.f29.results.toList = some [.tmp 6] := by kernel_rfl
def zr30_0 : List AO := [⟨some 2, none, .mov (.c (.bool false))⟩]
def zr30_1 : List AO := [⟨some 3, none, .mov (.t 0)⟩,
  ⟨some 4, none, .bin .lss (.t 3) (.c (.int .i64 (-840)))⟩,
  ⟨some 5, none, .mov (.t 4)⟩,
  ⟨some 6, some (5, false), .mov (.t 0)⟩,
  ⟨some 7, some (5, false), .bin .gtr (.t 6) (.c (.int .i64 840))⟩,
  ⟨some 8, none, .pick (.t 5) (.c (.bool true)) (.t 7)⟩,
  ⟨some 2, none, .mov (.t 8)⟩]
def zc30_0 : AC := .seq (.reg zr30_1) .ret
def zc30_1 : AC := .seq (.reg zr30_0) zc30_0
def zc30 : AC := zc30_1
theorem ok30 : Try.f30.body.bind (compCode Try.prog 9) = some zc30 := by kernel_rfl
theorem nt30 : Try.f30.ntmps = 9 := by kernel_rfl
theorem res30 : compRes Try.prog Try.f30.results.toList = some [.tmp 2] := by kernel_rfl
def zr31_0 : List AO := [⟨some 4, none, .mov (.c (.bool false))⟩]
def zr31_1 : List AO := [⟨some 5, none, .mov (.t 0)⟩,
  ⟨some 6, none, .mov (.t 1)⟩,
  ⟨some 7, none, .callF 34 [(.t 5), (.t 6)]⟩,
  ⟨some 8, none, .bin .geq (.t 7) (.c (.int .i64 0))⟩,
  ⟨some 4, none, .mov (.t 8)⟩]
def zc31_0 : AC := .seq (.reg zr31_1) .ret
def zc31_1 : AC := .seq (.reg zr31_0) zc31_0
def zc31 : AC := zc31_1
theorem ok31 : Try.f31.body.bind (compCode Try.prog 9) = some zc31 := by kernel_rfl
theorem nt31 : Try.f31.ntmps = 9 := by kernel_rfl
theorem res31 : compRes Try.prog Try.f31.results.toList = some [.tmp 4] := by kernel_rfl
def zr32_0 : List AO := [⟨some 2, none, .box (.t 0)⟩,
  ⟨some 3, none, .mov (.c (.bool false))⟩]
def zr32_1 : List AO := [⟨some 4, none, .load false 1 (.t 1)⟩,
  ⟨some 5, none, .fadr 1 (.t 2)⟩,
  ⟨some 6, none, .load false 1 (.t 5)⟩,
  ⟨some 7, none, .callV (.t 4) [(.t 6)]⟩,
  ⟨some 8, none, .mov (.t 7)⟩,
  ⟨some 9, some (8, false), .fadr 0 (.t 2)⟩,
  ⟨some 10, some (8, false), .load false 1 (.t 9)⟩,
  ⟨some 11, some (8, false), .bin .lss (.t 10) (.c (.int .i64 0))⟩,
  ⟨some 12, none, .pick (.t 8) (.c (.bool true)) (.t 11)⟩,
  ⟨some 13, none, .mov (.t 12)⟩,
  ⟨some 14, some (13, false), .fadr 0 (.t 2)⟩,
  ⟨some 15, some (13, false), .load false 1 (.t 14)⟩,
  ⟨some 16, some (13, false), .bin .gtr (.t 15) (.c (.int .i64 105190559))⟩,
  ⟨some 17, none, .pick (.t 13) (.c (.bool true)) (.t 16)⟩,
  ⟨some 3, none, .mov (.t 17)⟩]
def zc32_0 : AC := .seq (.reg zr32_1) .ret
def zc32_1 : AC := .seq (.reg zr32_0) zc32_0
def zc32 : AC := zc32_1
theorem ok32 : Try.f32.body.bind (compCode Try.prog 18) = some zc32 := by kernel_rfl
theorem nt32 : Try.f32.ntmps = 18 := by kernel_rfl
theorem res32 : compRes Try.prog Try.f32.results.toList = some [.tmp 3] := by kernel_rfl
def zr33_0 : List AO := [⟨some 1, none, .box (.t 0)⟩,
  ⟨some 2, none, .mov (.c (.lit .nilFunc))⟩]
def zr33_1 : List AO := [⟨some 3, none, .mkfn (.func 35) [] [(.t 1)]⟩,
  ⟨some 2, none, .mov (.t 3)⟩]
def zc33_0 : AC := .seq (.reg zr33_1) .ret
def zc33_1 : AC := .seq (.reg zr33_0) zc33_0
def zc33 : AC := zc33_1
theorem ok33 : Try.f33.body.bind (compCode Try.prog 4) = some zc33 := by kernel_rfl
theorem nt33 : Try.f33.ntmps = 4 := by kernel_rfl
theorem res33 : compRes Try.prog Try.f33.results.toList = some [.tmp 2] := by kernel_rfl
def zr34_0 : List AO := [⟨some 4, none, .mov (.c (.int .i64 0))⟩]
def zr34_1 : List AO := [⟨some 6, none, .mov (.t 0)⟩,
  ⟨some 7, none, .len (.t 6)⟩,
  ⟨some 8, none, .mov (.c (.int .i64 0))⟩]
def zr34_2 : List AO := [⟨some 9, none, .bin .lss (.t 8) (.t 7)⟩]
def zr34_3 : List AO := [⟨some 10, none, .mov (.t 8)⟩,
  ⟨some 5, none, .mov (.t 10)⟩]
def zr34_4 : List AO := [⟨some 11, none, .mov (.t 1)⟩,
  ⟨some 12, none, .mov (.t 0)⟩,
  ⟨some 13, none, .mov (.t 5)⟩,
  ⟨some 14, none, .iadr 2 (.t 12) (.t 13)⟩,
  ⟨some 15, none, .load true 2 (.t 14)⟩,
  ⟨some 16, none, .callV (.t 11) [(.t 15)]⟩]
def zr34_5 : List AO := [⟨some 17, none, .mov (.t 5)⟩,
  ⟨some 4, none, .mov (.t 17)⟩]
def zc34_0 : AC := .seq (.reg zr34_5) .ret
def zc34_1 : AC := .cond (.t 16) zc34_0 .skip
def zc34_2 : AC := .seq (.reg zr34_4) zc34_1
def zc34_3 : AC := .seq (.reg zr34_3) zc34_2
def zr34_6 : List AO := [⟨some 18, none, .bin .add (.t 8) (.c (.int .i64 1))⟩,
  ⟨some 8, none, .mov (.t 18)⟩]
def zc34_4 : AC := .reg zr34_6
def zc34_5 : AC := .seq (.block 1 zc34_3) zc34_4
def zc34_6 : AC := .seq (.cond (.t 9) .skip (.exit 0)) zc34_5
def zc34_7 : AC := .seq (.reg zr34_2) zc34_6
def zc34_8 : AC := .loop zc34_7
def zc34_9 : AC := .block 0 zc34_8
def zr34_7 : List AO := [⟨some 4, none, .mov (.c (.int .i64 (-1)))⟩]
def zc34_10 : AC := .seq (.reg zr34_7) .ret
def zc34_11 : AC := .seq (.seq (.reg zr34_1) zc34_9) zc34_10
def zc34_12 : AC := .seq (.reg zr34_0) zc34_11
def zc34 : AC := zc34_12
theorem ok34 : Try.f34.body.bind (compCode Try.prog 19) = some zc34 := by kernel_rfl
theorem nt34 : Try.f34.ntmps = 19 := by kernel_rfl
theorem res34 : compRes Try.prog Try.f34.results.toList = some [.tmp 4] := by kernel_rfl
def zr35_0 : List AO := [⟨some 6, none, .fadr 0 (.t 1)⟩,
  ⟨some 7, none, .load false 1 (.t 6)⟩,
  ⟨some 8, none, .fadr 0 (.t 1)⟩,
  ⟨some 9, none, .load false 1 (.t 8)⟩,
  ⟨some 10, none, .bld [.int .i64 0, .int .i64 0, .int .i64 0, .int .i64 0] [(2, 1, (.t 7)), (3, 1, (.t 9))]⟩,
  ⟨some 3, none, .alloc [.int .i64 0, .int .i64 0, .int .i64 0, .int .i64 0]⟩,
  ⟨none, none, .store 4 (.t 3) (.t 10)⟩]
def zr35_1 : List AO := [⟨some 11, none, .fadr 1 (.t 1)⟩,
  ⟨some 12, none, .load false 1 (.t 11)⟩,
  ⟨some 13, none, .len (.t 12)⟩,
  ⟨some 14, none, .mov (.c (.int .i64 0))⟩]
def zr35_2 : List AO := [⟨some 15, none, .bin .lss (.t 14) (.t 13)⟩]
def zr35_3 : List AO := [⟨some 16, none, .iadr 2 (.t 12) (.t 14)⟩,
  ⟨some 17, none, .load true 2 (.t 16)⟩,
  ⟨some 5, none, .alloc [.int .i64 0, .int .i64 0]⟩,
  ⟨none, none, .store 2 (.t 5) (.t 17)⟩]
def zr35_4 : List AO := [⟨some 18, none, .fadr 0 (.t 5)⟩,
  ⟨some 19, none, .load false 1 (.t 18)⟩,
  ⟨some 20, none, .fadr 1 (.t 3)⟩,
  ⟨none, none, .store 1 (.t 20) (.t 19)⟩]
def zr35_5 : List AO := [⟨some 21, none, .mov (.t 0)⟩,
  ⟨some 22, none, .load true 4 (.t 3)⟩,
  ⟨some 23, none, .callV (.t 21) [(.t 22)]⟩,
  ⟨some 24, none, .un .not (.t 23)⟩]
def zc35_0 : AC := .cond (.t 24) .ret .skip
def zr35_6 : List AO := [⟨some 25, none, .fadr 0 (.t 5)⟩,
  ⟨some 26, none, .load false 1 (.t 25)⟩,
  ⟨some 27, none, .fadr 1 (.t 5)⟩,
  ⟨some 28, none, .load false 1 (.t 27)⟩,
  ⟨some 29, none, .fadr 2 (.t 3)⟩,
  ⟨some 30, none, .load false 1 (.t 29)⟩,
  ⟨some 31, none, .bld [.int .i64 0, .int .i64 0, .int .i64 0, .int .i64 0] [(0, 1, (.t 26)), (2, 1, (.t 28)), (3, 1, (.t 30))]⟩,
  ⟨none, none, .store 4 (.t 3) (.t 31)⟩]
def zc35_1 : AC := .reg zr35_6
def zc35_2 : AC := .seq (.seq (.reg zr35_5) zc35_0) zc35_1
def zc35_3 : AC := .seq (.reg zr35_4) zc35_2
def zc35_4 : AC := .seq (.reg zr35_3) zc35_3
def zr35_7 : List AO := [⟨some 32, none, .bin .add (.t 14) (.c (.int .i64 1))⟩,
  ⟨some 14, none, .mov (.t 32)⟩]
def zc35_5 : AC := .reg zr35_7
def zc35_6 : AC := .seq (.block 1 zc35_4) zc35_5
def zc35_7 : AC := .seq (.cond (.t 15) .skip (.exit 0)) zc35_6
def zc35_8 : AC := .seq (.reg zr35_2) zc35_7
def zc35_9 : AC := .loop zc35_8
def zc35_10 : AC := .block 0 zc35_9
def zr35_8 : List AO := [⟨some 33, none, .fadr 1 (.t 3)⟩,
  ⟨none, none, .store 1 (.t 33) (.c (.int .i64 105190560))⟩]
def zr35_9 : List AO := [⟨some 34, none, .mov (.t 0)⟩,
  ⟨some 35, none, .load true 4 (.t 3)⟩,
  ⟨some 36, none, .callV (.t 34) [(.t 35)]⟩]
def zc35_11 : AC := .reg zr35_9
def zc35_12 : AC := .seq (.reg zr35_8) zc35_11
def zc35_13 : AC := .seq (.seq (.reg zr35_1) zc35_10) zc35_12
def zc35_14 : AC := .seq (.reg zr35_0) zc35_13
def zc35 : AC := zc35_14
theorem ok35 : Try.f35.body.bind (compCode Try.prog 37) = some zc35 := by kernel_rfl
theorem nt35 : Try.f35.ntmps = 37 := by kernel_rfl
theorem res35 : compRes Try.prog Try.f35.results.toList = some [] := by kernel_rfl
end Go.Proofs.Zt
