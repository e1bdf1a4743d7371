/- For every argument of bulk at most 1048576, estoppellaw09.IncludeCopies returns true and leaves its arguments as they were. (Part 6 of what its proof rests on.) -/
import Derived.ChangeShapes
import Derived.ChangeReads
import Derived.ChangeOld
import Derived.ChangeArms
import Derived.OpenShut
import Derived.ChangeSame
import Derived.RowKit
import Derived.Test.YtpbhebjfblidlaaPe
set_option linter.unusedSimpArgs false
set_option linter.unusedVariables false
set_option linter.deprecated false
namespace Go.Proofs.Inc
open Go.Aw
set_option maxRecDepth 100000
attribute [-go_sem] nisA_sl appA_nil
def lit1 : List UInt8 := [97, 98, 99, 100, 101, 102, 103, 104, 105, 106, 107, 108, 109, 110, 111, 112, 113, 114, 115, 116, 117, 118, 119, 120, 121, 122]
def zr8_0 : List AO := [⟨some 8, none, .mov (.c (.bool false))⟩]
def zr8_1 : List AO := [⟨some 18, none, .callF 9 []⟩,
  ⟨some 9, none, .mov (.t 18)⟩]
def zr8_2 : List AO := [⟨some 19, none, .mov (.t 0)⟩,
  ⟨some 20, none, .len (.t 19)⟩,
  ⟨some 21, none, .bin .gtr (.t 20) (.c (.int .i64 20))⟩,
  ⟨some 22, none, .mov (.t 21)⟩,
  ⟨some 23, some (22, false), .mov (.t 1)⟩,
  ⟨some 24, some (22, false), .len (.t 23)⟩,
  ⟨some 25, some (22, false), .mov (.t 0)⟩,
  ⟨some 26, some (22, false), .len (.t 25)⟩,
  ⟨some 27, some (22, false), .bin .lss (.t 24) (.t 26)⟩,
  ⟨some 28, none, .pick (.t 22) (.c (.bool true)) (.t 27)⟩,
  ⟨some 29, none, .mov (.t 28)⟩,
  ⟨some 30, some (29, false), .mov (.t 2)⟩,
  ⟨some 31, some (29, false), .bin .eql (.t 30) (.c (.str []))⟩,
  ⟨some 32, none, .pick (.t 29) (.c (.bool true)) (.t 31)⟩,
  ⟨some 33, none, .mov (.t 32)⟩,
  ⟨some 34, some (33, false), .mov (.t 2)⟩,
  ⟨some 35, some (33, false), .lenS (.t 34)⟩,
  ⟨some 36, some (33, false), .bin .gtr (.t 35) (.c (.int .i64 24))⟩,
  ⟨some 37, none, .pick (.t 33) (.c (.bool true)) (.t 36)⟩,
  ⟨some 38, none, .mov (.t 37)⟩,
  ⟨some 39, some (38, false), .mov (.t 3)⟩,
  ⟨some 40, some (38, false), .bin .eql (.t 39) (.c (.str []))⟩,
  ⟨some 41, none, .pick (.t 38) (.c (.bool true)) (.t 40)⟩,
  ⟨some 42, none, .mov (.t 41)⟩,
  ⟨some 43, some (42, false), .mov (.t 3)⟩,
  ⟨some 44, some (42, false), .lenS (.t 43)⟩,
  ⟨some 45, some (42, false), .bin .gtr (.t 44) (.c (.int .i64 24))⟩,
  ⟨some 46, none, .pick (.t 42) (.c (.bool true)) (.t 45)⟩]
def zr8_3 : List AO := [⟨some 47, none, .mov (.t 9)⟩,
  ⟨some 8, none, .mov (.t 47)⟩]
def zc8_0 : AC := .seq (.reg zr8_3) .ret
def zc8_1 : AC := .cond (.t 46) zc8_0 .skip
def zr8_4 : List AO := [⟨some 48, none, .mkrow 1 2 [.str []] [(0, 1, (.c (.str [63, 114]))), (1, 1, (.c (.str [63, 97])))]⟩,
  ⟨some 49, none, .bld [.int .i64 0, .str [], .int .i64 0, .str [], .str [], .int .i64 0, .int .i64 0, .int .i64 0, .bool false, .str [], .int .i64 0, .bool false, .str [], .nil, .str [], .str [], .int .i64 0, .int .i64 0, .str [], .str [], .bool false, .str [], .str [], .bool false, .bool false, .bool false, .bool false, .bool false, .bool false, .bool false, .nil, .nil, .nil] [(0, 1, (.c (.int .i64 13))), (1, 1, (.c (.str [116]))), (31, 1, (.t 48))]⟩,
  ⟨some 10, none, .alloc [.int .i64 0, .str [], .int .i64 0, .str [], .str [], .int .i64 0, .int .i64 0, .int .i64 0, .bool false, .str [], .int .i64 0, .bool false, .str [], .nil, .str [], .str [], .int .i64 0, .int .i64 0, .str [], .str [], .bool false, .str [], .str [], .bool false, .bool false, .bool false, .bool false, .bool false, .bool false, .bool false, .nil, .nil, .nil]⟩,
  ⟨none, none, .store 33 (.t 10) (.t 49)⟩]
def zr8_5 : List AO := [⟨some 11, none, .mov (.c (.str lit1))⟩]
def zr8_6 : List AO := [⟨some 12, none, .mov (.c (.int .i64 0))⟩]
def zr8_7 : List AO := [⟨some 50, none, .mov (.t 12)⟩,
  ⟨some 51, none, .mov (.t 0)⟩,
  ⟨some 52, none, .len (.t 51)⟩,
  ⟨some 53, none, .bin .lss (.t 50) (.t 52)⟩]
def zc8_2 : AC := .cond (.t 53) .skip (.exit 0)
def zr8_8 : DT := (.pur ⟨some 56, none, .mov (.t 0)⟩ (.pur ⟨some 57, none, .mov (.t 12)⟩ (.pur ⟨some 58, none, .iadr 1 (.t 56) (.t 57)⟩ (.pur ⟨some 59, none, .load false 1 (.t 58)⟩ (.pur ⟨some 60, none, .bin .rem (.t 59) (.c (.int .u8 4))⟩ (.pur ⟨some 61, none, .conv .i64 (.t 60)⟩ (.pur ⟨some 62, none, .bin .add (.c (.int .i64 9)) (.t 61)⟩ (.pur ⟨some 63, none, .mov (.t 11)⟩ (.pur ⟨some 64, none, .mov (.t 12)⟩ (.pur ⟨some 65, none, .mov (.t 12)⟩ (.pur ⟨some 66, none, .bin .add (.t 65) (.c (.int .i64 1))⟩ (.pur ⟨some 67, none, .slcS (.t 63) (some (.t 64)) (some (.t 66))⟩ (.pur ⟨some 68, none, .mov (.t 12)⟩ (.pur ⟨some 69, none, .mov (.t 1)⟩ (.pur ⟨some 70, none, .mov (.t 12)⟩ (.pur ⟨some 71, none, .iadr 1 (.t 69) (.t 70)⟩ (.pur ⟨some 72, none, .load false 1 (.t 71)⟩ (.pur ⟨some 73, none, .conv .i64 (.t 72)⟩ (.pur ⟨some 74, none, .bld [.int .i64 0, .bool false, .str []] [(0, 1, (.t 73))]⟩ (.pur ⟨some 75, none, .mov (.t 0)⟩ (.pur ⟨some 76, none, .mov (.t 12)⟩ (.pur ⟨some 77, none, .iadr 1 (.t 75) (.t 76)⟩ (.pur ⟨some 78, none, .load false 1 (.t 77)⟩ (.pur ⟨some 79, none, .bin .gtr (.t 78) (.c (.int .u8 99))⟩ (.pur ⟨some 80, none, .bld [.int .i64 0, .str [], .int .i64 0, .str [], .str [], .int .i64 0, .int .i64 0, .int .i64 0, .bool false, .str [], .int .i64 0, .bool false, .str [], .nil, .str [], .str [], .int .i64 0, .int .i64 0, .str [], .str [], .bool false, .str [], .str [], .bool false, .bool false, .bool false, .bool false, .bool false, .bool false, .bool false, .nil, .nil, .nil] [(0, 1, (.t 62)), (1, 1, (.t 67)), (3, 1, (.c (.str [63, 114]))), (4, 1, (.c (.str [63, 97]))), (6, 1, (.t 68)), (7, 3, (.t 74)), (20, 1, (.t 79))]⟩ (.alt false ⟨some 13, none, .alloc [.int .i64 0, .str [], .int .i64 0, .str [], .str [], .int .i64 0, .int .i64 0, .int .i64 0, .bool false, .str [], .int .i64 0, .bool false, .str [], .nil, .str [], .str [], .int .i64 0, .int .i64 0, .str [], .str [], .bool false, .str [], .str [], .bool false, .bool false, .bool false, .bool false, .bool false, .bool false, .bool false, .nil, .nil, .nil]⟩ (.alt true ⟨none, none, .store 33 (.t 13) (.t 80)⟩ .done .stop) .stop))))))))))))))))))))))))))
def zr8_9 : List AO := [⟨some 81, none, .mov (.t 12)⟩,
  ⟨some 82, none, .bin .gtr (.t 81) (.c (.int .i64 0))⟩]
def zr8_10 : List AO := [⟨some 83, none, .mov (.t 11)⟩,
  ⟨some 84, none, .mov (.t 12)⟩,
  ⟨some 85, none, .bin .sub (.t 84) (.c (.int .i64 1))⟩,
  ⟨some 86, none, .mov (.t 12)⟩,
  ⟨some 87, none, .slcS (.t 83) (some (.t 85)) (some (.t 86))⟩,
  ⟨some 88, none, .bld [.str [], .int .i64 0] [(0, 1, (.t 87)), (1, 1, (.c (.int .i64 2)))]⟩,
  ⟨some 89, none, .bld [.str [], .int .i64 0] [(0, 1, (.c (.str [122, 57]))), (1, 1, (.c (.int .i64 3)))]⟩,
  ⟨some 90, none, .mkrow 2 2 [.str [], .int .i64 0] [(0, 2, (.t 88)), (2, 2, (.t 89))]⟩,
  ⟨some 91, none, .fadr 13 (.t 13)⟩,
  ⟨none, none, .store 1 (.t 91) (.t 90)⟩]
def zc8_3 : AC := .reg zr8_10
def zc8_4 : AC := .cond (.t 82) zc8_3 .skip
def zr8_11 : List AO := [⟨some 92, none, .fadr 32 (.t 10)⟩,
  ⟨some 93, none, .load false 1 (.t 92)⟩,
  ⟨some 94, none, .load true 33 (.t 13)⟩,
  ⟨some 95, none, .mkrow 33 1 [.int .i64 0, .str [], .int .i64 0, .str [], .str [], .int .i64 0, .int .i64 0, .int .i64 0, .bool false, .str [], .int .i64 0, .bool false, .str [], .nil, .str [], .str [], .int .i64 0, .int .i64 0, .str [], .str [], .bool false, .str [], .str [], .bool false, .bool false, .bool false, .bool false, .bool false, .bool false, .bool false, .nil, .nil, .nil] [(0, 33, (.t 94))]⟩,
  ⟨some 96, none, .app 33 368 (.t 93) (.t 95)⟩,
  ⟨some 97, none, .fadr 32 (.t 10)⟩,
  ⟨none, none, .store 1 (.t 97) (.t 96)⟩]
def zc8_5 : AC := .reg zr8_11
def zc8_6 : AC := .seq (.seq (.reg zr8_9) zc8_4) zc8_5
def zc8_7 : AC := .seq (.regD zr8_8) zc8_6
def zr8_12 : List AO := [⟨some 54, none, .mov (.t 12)⟩,
  ⟨some 55, none, .bin .add (.t 54) (.c (.int .i64 1))⟩,
  ⟨some 12, none, .mov (.t 55)⟩]
def zc8_8 : AC := .reg zr8_12
def zc8_9 : AC := .seq (.block 1 zc8_7) zc8_8
def zc8_10 : AC := .seq (.seq (.reg zr8_7) zc8_2) zc8_9
def zc8_11 : AC := .loop zc8_10
def zc8_12 : AC := .block 0 zc8_11
def zr8_13 : List AO := [⟨some 99, none, .mov (.t 2)⟩,
  ⟨some 100, none, .mov (.t 3)⟩,
  ⟨some 101, none, .mkrow 1 2 [.str []] [(0, 1, (.t 99)), (1, 1, (.t 100))]⟩,
  ⟨some 102, none, .bld [.int .i64 0, .str [], .int .i64 0, .str [], .str [], .int .i64 0, .int .i64 0, .int .i64 0, .bool false, .str [], .int .i64 0, .bool false, .str [], .nil, .str [], .str [], .int .i64 0, .int .i64 0, .str [], .str [], .bool false, .str [], .str [], .bool false, .bool false, .bool false, .bool false, .bool false, .bool false, .bool false, .nil, .nil, .nil] [(0, 1, (.c (.int .i64 14))), (3, 1, (.c (.str [116]))), (1, 1, (.c (.str [112]))), (31, 1, (.t 101)), (2, 1, (.c (.int .i64 5)))]⟩,
  ⟨some 103, none, .load true 33 (.t 10)⟩,
  ⟨some 104, none, .mkrow 33 2 [.int .i64 0, .str [], .int .i64 0, .str [], .str [], .int .i64 0, .int .i64 0, .int .i64 0, .bool false, .str [], .int .i64 0, .bool false, .str [], .nil, .str [], .str [], .int .i64 0, .int .i64 0, .str [], .str [], .bool false, .str [], .str [], .bool false, .bool false, .bool false, .bool false, .bool false, .bool false, .bool false, .nil, .nil, .nil] [(0, 33, (.t 102)), (33, 33, (.t 103))]⟩,
  ⟨some 105, none, .bld [.str [], .int .i64 0, .int .i64 0, .int .i64 0, .int .i64 0, .nil] [(5, 1, (.t 104))]⟩,
  ⟨some 106, none, .callF 11 [(.t 105)]⟩,
  ⟨some 98, none, .mov (.t 106)⟩,
  ⟨some 107, none, .ext 0 (.t 98)⟩,
  ⟨some 108, none, .ext 1 (.t 98)⟩,
  ⟨some 14, none, .alloc [.str [], .int .i64 0, .int .i64 0, .int .i64 0, .int .i64 0, .nil]⟩,
  ⟨none, none, .store 6 (.t 14) (.t 107)⟩,
  ⟨some 15, none, .mov (.t 108)⟩]
def zr8_14 : List AO := [⟨some 109, none, .mov (.t 15)⟩,
  ⟨some 110, none, .len (.t 109)⟩,
  ⟨some 111, none, .bin .gtr (.t 110) (.c (.int .i64 0))⟩,
  ⟨some 112, none, .mov (.t 111)⟩,
  ⟨some 113, some (112, false), .fadr 5 (.t 14)⟩,
  ⟨some 114, some (112, false), .load false 1 (.t 113)⟩,
  ⟨some 115, some (112, false), .len (.t 114)⟩,
  ⟨some 116, some (112, false), .mov (.t 0)⟩,
  ⟨some 117, some (112, false), .len (.t 116)⟩,
  ⟨some 118, some (112, false), .bin .neq (.t 115) (.t 117)⟩,
  ⟨some 119, none, .pick (.t 112) (.c (.bool true)) (.t 118)⟩]
def zr8_15 : List AO := [⟨some 8, none, .mov (.c (.bool false))⟩]
def zc8_13 : AC := .seq (.reg zr8_15) .ret
def zc8_14 : AC := .cond (.t 119) zc8_13 .skip
def zr8_16 : List AO := [⟨some 16, none, .mov (.c (.int .i64 0))⟩]
def zr8_17 : List AO := [⟨some 120, none, .mov (.t 16)⟩,
  ⟨some 121, none, .fadr 5 (.t 14)⟩,
  ⟨some 122, none, .load false 1 (.t 121)⟩,
  ⟨some 123, none, .len (.t 122)⟩,
  ⟨some 124, none, .bin .lss (.t 120) (.t 123)⟩]
def zc8_15 : AC := .cond (.t 124) .skip (.exit 2)
def zr8_18 : List AO := [⟨some 127, none, .fadr 5 (.t 14)⟩,
  ⟨some 128, none, .load false 1 (.t 127)⟩,
  ⟨some 129, none, .mov (.t 16)⟩,
  ⟨some 130, none, .iadr 33 (.t 128) (.t 129)⟩,
  ⟨some 131, none, .load true 33 (.t 130)⟩,
  ⟨some 17, none, .alloc [.int .i64 0, .str [], .int .i64 0, .str [], .str [], .int .i64 0, .int .i64 0, .int .i64 0, .bool false, .str [], .int .i64 0, .bool false, .str [], .nil, .str [], .str [], .int .i64 0, .int .i64 0, .str [], .str [], .bool false, .str [], .str [], .bool false, .bool false, .bool false, .bool false, .bool false, .bool false, .bool false, .nil, .nil, .nil]⟩,
  ⟨none, none, .store 33 (.t 17) (.t 131)⟩]
def zr8_19 : DT := (.pur ⟨some 132, none, .fadr 0 (.t 17)⟩ (.pur ⟨some 133, none, .load false 1 (.t 132)⟩ (.pur ⟨some 134, none, .fadr 32 (.t 10)⟩ (.pur ⟨some 135, none, .load false 1 (.t 134)⟩ (.alt false ⟨some 136, none, .mov (.t 16)⟩ (.alt false ⟨some 137, none, .iadr 33 (.t 135) (.t 136)⟩ (.alt false ⟨some 138, none, .fadr 0 (.t 137)⟩ (.alt false ⟨some 139, none, .load false 1 (.t 138)⟩ (.alt false ⟨some 140, none, .bin .neq (.t 133) (.t 139)⟩ (.alt false ⟨some 141, none, .mov (.t 140)⟩ (.pur ⟨some 142, some (141, false), .fadr 1 (.t 17)⟩ (.pur ⟨some 143, some (141, false), .load false 1 (.t 142)⟩ (.pur ⟨some 144, some (141, false), .mov (.t 11)⟩ (.pur ⟨some 145, some (141, false), .mov (.t 16)⟩ (.alt false ⟨some 146, some (141, false), .mov (.t 16)⟩ (.alt false ⟨some 147, some (141, false), .bin .add (.t 146) (.c (.int .i64 1))⟩ (.alt false ⟨some 148, some (141, false), .slcS (.t 144) (some (.t 145)) (some (.t 147))⟩ (.alt false ⟨some 149, some (141, false), .bin .add (.c (.str [112, 46])) (.t 148)⟩ (.alt false ⟨some 150, some (141, false), .bin .neq (.t 143) (.t 149)⟩ (.alt false ⟨some 151, none, .pick (.t 141) (.c (.bool true)) (.t 150)⟩ (.alt false ⟨some 152, none, .mov (.t 151)⟩ (.pur ⟨some 153, some (152, false), .fadr 3 (.t 17)⟩ (.pur ⟨some 154, some (152, false), .load false 1 (.t 153)⟩ (.alt false ⟨some 155, some (152, false), .mov (.t 2)⟩ (.alt false ⟨some 156, some (152, false), .bin .neq (.t 154) (.t 155)⟩ (.alt false ⟨some 157, none, .pick (.t 152) (.c (.bool true)) (.t 156)⟩ (.alt false ⟨some 158, none, .mov (.t 157)⟩ (.pur ⟨some 159, some (158, false), .fadr 4 (.t 17)⟩ (.pur ⟨some 160, some (158, false), .load false 1 (.t 159)⟩ (.alt false ⟨some 161, some (158, false), .mov (.t 3)⟩ (.alt false ⟨some 162, some (158, false), .bin .neq (.t 160) (.t 161)⟩ (.alt false ⟨some 163, none, .pick (.t 158) (.c (.bool true)) (.t 162)⟩ (.alt false ⟨some 164, none, .mov (.t 163)⟩ (.pur ⟨some 165, some (164, false), .fadr 6 (.t 17)⟩ (.pur ⟨some 166, some (164, false), .load false 1 (.t 165)⟩ (.alt false ⟨some 167, some (164, false), .mov (.t 16)⟩ (.alt false ⟨some 168, some (164, false), .bin .neq (.t 166) (.t 167)⟩ (.alt false ⟨some 169, none, .pick (.t 164) (.c (.bool true)) (.t 168)⟩ (.alt false ⟨some 170, none, .mov (.t 169)⟩ (.pur ⟨some 171, some (170, false), .fadr 7 (.t 17)⟩ (.pur ⟨some 172, some (170, false), .load true 3 (.t 171)⟩ (.pur ⟨some 173, some (170, false), .fadr 32 (.t 10)⟩ (.pur ⟨some 174, some (170, false), .load false 1 (.t 173)⟩ (.alt false ⟨some 175, some (170, false), .mov (.t 16)⟩ (.alt false ⟨some 176, some (170, false), .iadr 33 (.t 174) (.t 175)⟩ (.alt false ⟨some 177, some (170, false), .fadr 7 (.t 176)⟩ (.alt false ⟨some 178, some (170, false), .load true 3 (.t 177)⟩ (.alt false ⟨some 179, some (170, false), .eqS true [.i, .b, .s] (.t 172) (.t 178)⟩ (.alt false ⟨some 180, none, .pick (.t 170) (.c (.bool true)) (.t 179)⟩ (.alt false ⟨some 181, none, .mov (.t 180)⟩ (.pur ⟨some 182, some (181, false), .fadr 20 (.t 17)⟩ (.pur ⟨some 183, some (181, false), .load false 1 (.t 182)⟩ (.pur ⟨some 184, some (181, false), .fadr 32 (.t 10)⟩ (.pur ⟨some 185, some (181, false), .load false 1 (.t 184)⟩ (.alt false ⟨some 186, some (181, false), .mov (.t 16)⟩ (.alt false ⟨some 187, some (181, false), .iadr 33 (.t 185) (.t 186)⟩ (.alt false ⟨some 188, some (181, false), .fadr 20 (.t 187)⟩ (.alt false ⟨some 189, some (181, false), .load false 1 (.t 188)⟩ (.alt false ⟨some 190, some (181, false), .binB .neq (.t 183) (.t 189)⟩ (.alt false ⟨some 191, none, .pick (.t 181) (.c (.bool true)) (.t 190)⟩ (.alt false ⟨some 192, none, .mov (.t 191)⟩ (.alt false ⟨some 193, some (192, false), .fadr 2 (.t 17)⟩ (.alt false ⟨some 194, some (192, false), .load false 1 (.t 193)⟩ (.alt false ⟨some 195, some (192, false), .bin .neq (.t 194) (.c (.int .i64 5))⟩ (.alt false ⟨some 196, none, .pick (.t 192) (.c (.bool true)) (.t 195)⟩ (.alt false ⟨some 197, none, .mov (.t 196)⟩ (.pur ⟨some 198, some (197, false), .fadr 13 (.t 17)⟩ (.pur ⟨some 199, some (197, false), .load false 1 (.t 198)⟩ (.pur ⟨some 200, some (197, false), .len (.t 199)⟩ (.pur ⟨some 201, some (197, false), .fadr 32 (.t 10)⟩ (.pur ⟨some 202, some (197, false), .load false 1 (.t 201)⟩ (.alt false ⟨some 203, some (197, false), .mov (.t 16)⟩ (.alt false ⟨some 204, some (197, false), .iadr 33 (.t 202) (.t 203)⟩ (.alt false ⟨some 205, some (197, false), .fadr 13 (.t 204)⟩ (.alt false ⟨some 206, some (197, false), .load false 1 (.t 205)⟩ (.alt false ⟨some 207, some (197, false), .len (.t 206)⟩ (.alt false ⟨some 208, some (197, false), .bin .neq (.t 200) (.t 207)⟩ (.alt true ⟨some 209, none, .pick (.t 197) (.c (.bool true)) (.t 208)⟩ .done .stop) .stop) .stop) .stop) .stop) .stop) .stop)))))) .stop) .stop) .stop) .stop) .stop) .stop) .stop) .stop) .stop) .stop) .stop) .stop))))) .stop) .stop) .stop) .stop) .stop) .stop) .stop))))) .stop) .stop) .stop) .stop))) .stop) .stop) .stop) .stop))) .stop) .stop) .stop) .stop))) .stop) .stop) .stop) .stop) .stop) .stop) .stop))))) .stop) .stop) .stop) .stop) .stop) .stop)))))
def zr8_20 : List AO := [⟨some 8, none, .mov (.c (.bool false))⟩]
def zc8_16 : AC := .seq (.reg zr8_20) .ret
def zc8_17 : AC := .cond (.t 209) zc8_16 .skip
def zr8_21 : DT := (.alt false ⟨some 210, none, .mov (.t 16)⟩ (.alt false ⟨some 211, none, .bin .gtr (.t 210) (.c (.int .i64 0))⟩ (.alt false ⟨some 212, none, .mov (.t 211)⟩ (.pur ⟨some 213, some (212, true), .fadr 13 (.t 17)⟩ (.pur ⟨some 214, some (212, true), .load false 1 (.t 213)⟩ (.pur ⟨some 215, some (212, true), .iadr 2 (.t 214) (.c (.int .i64 0))⟩ (.pur ⟨some 216, some (212, true), .load true 2 (.t 215)⟩ (.pur ⟨some 217, some (212, true), .mov (.t 11)⟩ (.pur ⟨some 218, some (212, true), .mov (.t 16)⟩ (.pur ⟨some 219, some (212, true), .bin .sub (.t 218) (.c (.int .i64 1))⟩ (.alt false ⟨some 220, some (212, true), .mov (.t 16)⟩ (.alt false ⟨some 221, some (212, true), .slcS (.t 217) (some (.t 219)) (some (.t 220))⟩ (.alt false ⟨some 222, some (212, true), .bin .add (.c (.str [112, 46])) (.t 221)⟩ (.alt false ⟨some 223, some (212, true), .bld [.str [], .int .i64 0] [(0, 1, (.t 222)), (1, 1, (.c (.int .i64 2)))]⟩ (.alt false ⟨some 224, some (212, true), .eqS true [.s, .i] (.t 216) (.t 223)⟩ (.alt false ⟨some 225, some (212, true), .mov (.t 224)⟩ (.pur ⟨some 226, some (225, false), .fadr 13 (.t 17)⟩ (.pur ⟨some 227, some (225, false), .load false 1 (.t 226)⟩ (.pur ⟨some 228, some (225, false), .iadr 2 (.t 227) (.c (.int .i64 1))⟩ (.pur ⟨some 229, some (225, false), .load true 2 (.t 228)⟩ (.alt false ⟨some 230, some (225, false), .bld [.str [], .int .i64 0] [(0, 1, (.c (.str [122, 57]))), (1, 1, (.c (.int .i64 3)))]⟩ (.alt false ⟨some 231, some (225, false), .eqS true [.s, .i] (.t 229) (.t 230)⟩ (.alt false ⟨some 232, some (212, true), .pick (.t 225) (.c (.bool true)) (.t 231)⟩ (.alt true ⟨some 233, none, .pick (.t 212) (.t 232) (.c (.bool false))⟩ .done .stop) .stop) .stop) .stop))))) .stop) .stop) .stop) .stop) .stop) .stop)))))))) .stop) .stop) .stop)
def zr8_22 : List AO := [⟨some 8, none, .mov (.c (.bool false))⟩]
def zc8_18 : AC := .seq (.reg zr8_22) .ret
def zc8_19 : AC := .cond (.t 233) zc8_18 .skip
def zc8_20 : AC := .seq (.regD zr8_21) zc8_19
def zc8_21 : AC := .seq (.seq (.regD zr8_19) zc8_17) zc8_20
def zc8_22 : AC := .seq (.reg zr8_18) zc8_21
def zr8_23 : List AO := [⟨some 125, none, .mov (.t 16)⟩,
  ⟨some 126, none, .bin .add (.t 125) (.c (.int .i64 1))⟩,
  ⟨some 16, none, .mov (.t 126)⟩]
def zc8_23 : AC := .reg zr8_23
def zc8_24 : AC := .seq (.block 3 zc8_22) zc8_23
def zc8_25 : AC := .seq (.seq (.reg zr8_17) zc8_15) zc8_24
def zc8_26 : AC := .loop zc8_25
def zc8_27 : AC := .block 2 zc8_26
def zr8_24 : List AO := [⟨some 234, none, .mov (.t 9)⟩,
  ⟨some 8, none, .mov (.t 234)⟩]
def zc8_28 : AC := .seq (.reg zr8_24) .ret
def zc8_29 : AC := .seq (.seq (.reg zr8_16) zc8_27) zc8_28
def zc8_30 : AC := .seq (.seq (.reg zr8_14) zc8_14) zc8_29
def zc8_31 : AC := .seq (.reg zr8_13) zc8_30
def zc8_32 : AC := .seq (.seq (.reg zr8_6) zc8_12) zc8_31
def zc8_33 : AC := .seq (.reg zr8_5) zc8_32
def zc8_34 : AC := .seq (.reg zr8_4) zc8_33
def zc8_35 : AC := .seq (.seq (.reg zr8_2) zc8_1) zc8_34
def zc8_36 : AC := .seq (.reg zr8_1) zc8_35
def zc8_37 : AC := .seq (.reg zr8_0) zc8_36
def zc8 : AC := zc8_37
theorem ok8 : Try.f8.body.bind (compCode Try.prog 235) = some zc8 := by kernel_rfl
theorem nt8 : Try.f8.ntmps = 235 := by kernel_rfl
theorem res8 : compRes Try.prog Try.f8.results.toList = some [.tmp 8] := by kernel_rfl
attribute [go_sem] zr8_0 zr8_12 zr8_14 zr8_15 zr8_16 zr8_17 zr8_2 zr8_20 zr8_22 zr8_23 zr8_24 zr8_3 zr8_5 zr8_6 zr8_7 zr8_9
def s8_b1 (N : Nat) (p3 : List UInt8) (p4 : List UInt8) (l11 : List Item) (x14 : List UInt8) (x21 : Source × (List Fault)) (x26 : Int) : Option (((Int) ⊕ (Ou (Unit) (Bool)))) :=
  if x26 < (List.length x21.1.Items : Int) then
    grd (0 ≤ x26) <|
    grd (x26 < (List.length l11 : Int)) <|
    if (x21.1.Items[x26.toNat]!).Kind = (l11[x26.toNat]!).Kind then
      grd (x26 ≤ IntKind.wrap .i64 (x26 + 1) ∧ IntKind.wrap .i64 (x26 + 1) ≤ (List.length x14 : Int)) <|
      grd (2 + List.length (List.drop x26.toNat (List.take (IntKind.wrap .i64 (x26 + 1)).toNat x14)) ≤ 9223372036854775807) <|
      if (x21.1.Items[x26.toNat]!).Name = [112, 46] ++ (List.drop x26.toNat (List.take (IntKind.wrap .i64 (x26 + 1)).toNat x14)) then
        if (x21.1.Items[x26.toNat]!).Of = p3 then
          if (x21.1.Items[x26.toNat]!).Act = p4 then
            if (x21.1.Items[x26.toNat]!).Times = x26 then
              if (x21.1.Items[x26.toNat]!).Within = (l11[x26.toNat]!).Within then
                bif (((x21.1.Items[x26.toNat]!).Final) == ((l11[x26.toNat]!).Final)) then
                  if (x21.1.Items[x26.toNat]!).At = 5 then
                    if (List.length ((x21.1.Items[x26.toNat]!).Conds) : Int) = (List.length ((l11[x26.toNat]!).Conds) : Int) then
                      if 0 < x26 then
                        grd (0 < (List.length ((x21.1.Items[x26.toNat]!).Conds) : Int)) <|
                        grd (0 ≤ IntKind.wrap .i64 (x26 - 1) ∧ IntKind.wrap .i64 (x26 - 1) ≤ x26 ∧ x26 ≤ (List.length x14 : Int)) <|
                        grd (2 + List.length (List.drop (IntKind.wrap .i64 (x26 - 1)).toNat (List.take x26.toNat x14)) ≤ 9223372036854775807) <|
                        bif (decide ((((x21.1.Items[x26.toNat]!).Conds)[0]!).Name = [112, 46] ++ (List.drop (IntKind.wrap .i64 (x26 - 1)).toNat (List.take x26.toNat x14))) && (decide ((((x21.1.Items[x26.toNat]!).Conds)[0]!).Is = 2) && true)) then
                          grd (1 < (List.length ((x21.1.Items[x26.toNat]!).Conds) : Int)) <|
                          bif (decide ((((x21.1.Items[x26.toNat]!).Conds)[1]!).Name = [122, 57]) && (decide ((((x21.1.Items[x26.toNat]!).Conds)[1]!).Is = 3) && true)) then
                            some (.inl (IntKind.wrap .i64 (x26 + 1)))
                          else
                            some (.inr (.ret false))
                        else
                          some (.inr (.ret false))
                      else
                        some (.inl (IntKind.wrap .i64 (x26 + 1)))
                    else
                      some (.inr (.ret false))
                  else
                    some (.inr (.ret false))
                else
                  some (.inr (.ret false))
              else
                some (.inr (.ret false))
            else
              some (.inr (.ret false))
          else
            some (.inr (.ret false))
        else
          some (.inr (.ret false))
      else
        some (.inr (.ret false))
    else
      some (.inr (.ret false))
  else
    some (.inr (.brk ()))
def s8_k2 (N : Nat) (p1 : List Int) (p3 : List UInt8) (p4 : List UInt8) (x1 : Bool) (l11 : List Item) (x14 : List UInt8) : Option Bool :=
  (s11 N (({ Name := [], From := ({ Year := 0, Month := 0, Day := 0 } : Civil), Days := 0, Items := [({ Kind := 14, Name := [112], At := 5, Of := [116], Act := [], Word := 0, Times := 0, Within := ({ Days := 0, Business := false, Name := [] } : Span), Grace := ({ Days := 0, Business := false, Name := [] } : Span), Conds := [], By := [], Until := [], Num := ({ Num := 0, Den := 0 } : Ratio), Unit := [], Sum := [], Final := false, Give := [], To := [], Days := ({ e0 := false, e1 := false, e2 := false, e3 := false, e4 := false, e5 := false, e6 := false } : Arr7B), Dates := [], Names := [p3, p4], Items := [] } : Item), ({ Kind := 13, Name := [116], At := 0, Of := [], Act := [], Word := 0, Times := 0, Within := ({ Days := 0, Business := false, Name := [] } : Span), Grace := ({ Days := 0, Business := false, Name := [] } : Span), Conds := [], By := [], Until := [], Num := ({ Num := 0, Den := 0 } : Ratio), Unit := [], Sum := [], Final := false, Give := [], To := [], Days := ({ e0 := false, e1 := false, e2 := false, e3 := false, e4 := false, e5 := false, e6 := false } : Arr7B), Dates := [], Names := [[63, 114], [63, 97]], Items := l11 } : Item)] } : Source))).bind fun x21 =>
  if 0 < (List.length x21.2 : Int) then
    some false
  else
    if (List.length x21.1.Items : Int) = (List.length p1 : Int) then
      (iter (fun p => s8_b1 N p3 p4 l11 x14 x21 p) N 0).bind fun o27 => o27.on (fun a27 =>
        some x1)
        (fun a27r => some a27r)
    else
      some false
def s8_b3 (N : Nat) (p1 : List Int) (p2 : List Int) (l53 : List Item) (x56 : Int) : Option ((((List Item) × Int) ⊕ ((List Item) × (List UInt8)))) :=
  if x56 < (List.length p1 : Int) then
    grd (0 ≤ x56) <|
    grd (x56 ≤ IntKind.wrap .i64 (x56 + 1) ∧ IntKind.wrap .i64 (x56 + 1) ≤ (List.length lit1 : Int)) <|
    grd (x56 < (List.length p2 : Int)) <|
    if 0 < x56 then
      grd (0 ≤ IntKind.wrap .i64 (x56 - 1) ∧ IntKind.wrap .i64 (x56 - 1) ≤ x56 ∧ x56 ≤ (List.length lit1 : Int)) <|
      grd ((List.length l53 + 1) * 368 ≤ 140737488355328 ∧ List.length l53 + 1 ≤ 140737488355328) <|
      some (.inl (l53 ++ ([({ Kind := IntKind.wrap .i64 (9 + (IntKind.wrap .i64 (Int.tmod (p1[x56.toNat]!) 4))), Name := List.drop x56.toNat (List.take (IntKind.wrap .i64 (x56 + 1)).toNat lit1), At := 0, Of := [63, 114], Act := [63, 97], Word := 0, Times := x56, Within := ({ Days := IntKind.wrap .i64 (p2[x56.toNat]!), Business := false, Name := [] } : Span), Grace := ({ Days := 0, Business := false, Name := [] } : Span), Conds := [({ Name := List.drop (IntKind.wrap .i64 (x56 - 1)).toNat (List.take x56.toNat lit1), Is := 2 } : Named), ({ Name := [122, 57], Is := 3 } : Named)], By := [], Until := [], Num := ({ Num := 0, Den := 0 } : Ratio), Unit := [], Sum := [], Final := decide (99 < p1[x56.toNat]!), Give := [], To := [], Days := ({ e0 := false, e1 := false, e2 := false, e3 := false, e4 := false, e5 := false, e6 := false } : Arr7B), Dates := [], Names := [], Items := [] } : Item)]), IntKind.wrap .i64 (x56 + 1)))
    else
      grd ((List.length l53 + 1) * 368 ≤ 140737488355328 ∧ List.length l53 + 1 ≤ 140737488355328) <|
      some (.inl (l53 ++ ([({ Kind := IntKind.wrap .i64 (9 + (IntKind.wrap .i64 (Int.tmod (p1[x56.toNat]!) 4))), Name := List.drop x56.toNat (List.take (IntKind.wrap .i64 (x56 + 1)).toNat lit1), At := 0, Of := [63, 114], Act := [63, 97], Word := 0, Times := x56, Within := ({ Days := IntKind.wrap .i64 (p2[x56.toNat]!), Business := false, Name := [] } : Span), Grace := ({ Days := 0, Business := false, Name := [] } : Span), Conds := [], By := [], Until := [], Num := ({ Num := 0, Den := 0 } : Ratio), Unit := [], Sum := [], Final := decide (99 < p1[x56.toNat]!), Give := [], To := [], Days := ({ e0 := false, e1 := false, e2 := false, e3 := false, e4 := false, e5 := false, e6 := false } : Arr7B), Dates := [], Names := [], Items := [] } : Item)]), IntKind.wrap .i64 (x56 + 1)))
  else
    some (.inr (l53, lit1))
def s8 (N : Nat) (p1 : List Int) (p2 : List Int) (p3 : List UInt8) (p4 : List UInt8) : Option Bool :=
  (s9 N).bind fun x1 =>
  if 20 < (List.length p1 : Int) then
    some x1
  else
    if (List.length p2 : Int) < (List.length p1 : Int) then
      some x1
    else
      if p3 = [] then
        some x1
      else
        if 24 < (List.length p3 : Int) then
          some x1
        else
          if p4 = [] then
            some x1
          else
            if 24 < (List.length p4 : Int) then
              some x1
            else
              (iter (fun p => s8_b3 N p1 p2 p.1 p.2) N ([], 0)).bind fun a57 =>
              s8_k2 N p1 p3 p4 x1 a57.1 a57.2
set_option maxHeartbeats 4000000 in
theorem c8 (N : Nat) (p1 : List Int) (p2 : List Int) (p3 : List UInt8) (p4 : List UInt8) (r : Bool) (h : s8 N p1 p2 p3 p4 = some r) : PureC Try.prog 8 [.sl (List.map (AV.int .u8) p1), .sl (List.map (AV.int .u16) p2), .str p3, .str p4] (.bool r) := by
 refine fn_intro' 235 Try.func8 nt8 ok8 res8 (by simp) fun X hP hn hd hr => ?_
 unfold s8 at h
 repeat refine awp_seq ?_
 refine rg (h := ?_)
 repeat refine awp_seq ?_
 refine awp_reg fun K Q hK hQ => ?_
 simp -implicitDefEqProofs (disch := first | omega | rfl) only [go_sem, simprocAttr, zr8_1]
 have hh := bnd_some h; clear h; obtain ⟨x1, hx2, h⟩ := hh
 refine call_pure hP (c9 N  x1 hx2) ?_
 simp -implicitDefEqProofs (disch := first | omega | rfl) only [go_sem, simprocAttr]
 refine hK _ _ ?_; clear hK hQ K Q
 repeat refine awp_seq ?_
 rcases ite_some h with ⟨hc3, h⟩ | ⟨hc3, h⟩
 · refine rgf (eq_true hc3) ?_
   repeat refine awp_seq ?_
   refine awp_then (by rfl) ?_
   repeat refine awp_seq ?_
   refine rg (h := ?_)
   obtain rfl := som_inj h
   repeat refine awp_seq ?_
   refine awp_ret ?_
   repeat first | refine then_ret ?_ | refine blk_ret ?_
   exact rtp
 rcases ite_some h with ⟨hc4, h⟩ | ⟨hc4, h⟩
 · refine rgf (And.intro (eq_false hc3) (eq_true hc4)) ?_
   repeat refine awp_seq ?_
   refine awp_then (by rfl) ?_
   repeat refine awp_seq ?_
   refine rg (h := ?_)
   obtain rfl := som_inj h
   repeat refine awp_seq ?_
   refine awp_ret ?_
   repeat first | refine then_ret ?_ | refine blk_ret ?_
   exact rtp
 rcases ite_some h with ⟨hc5, h⟩ | ⟨hc5, h⟩
 · refine rgf (And.intro (eq_false hc3) (And.intro (eq_false hc4) (eq_true hc5))) ?_
   repeat refine awp_seq ?_
   refine awp_then (by rfl) ?_
   repeat refine awp_seq ?_
   refine rg (h := ?_)
   obtain rfl := som_inj h
   repeat refine awp_seq ?_
   refine awp_ret ?_
   repeat first | refine then_ret ?_ | refine blk_ret ?_
   exact rtp
 rcases ite_some h with ⟨hc6, h⟩ | ⟨hc6, h⟩
 · refine rgf (And.intro (eq_false hc3) (And.intro (eq_false hc4) (And.intro (eq_false hc5) (eq_true hc6)))) ?_
   repeat refine awp_seq ?_
   refine awp_then (by rfl) ?_
   repeat refine awp_seq ?_
   refine rg (h := ?_)
   obtain rfl := som_inj h
   repeat refine awp_seq ?_
   refine awp_ret ?_
   repeat first | refine then_ret ?_ | refine blk_ret ?_
   exact rtp
 rcases ite_some h with ⟨hc7, h⟩ | ⟨hc7, h⟩
 · refine rgf (And.intro (eq_false hc3) (And.intro (eq_false hc4) (And.intro (eq_false hc5) (And.intro (eq_false hc6) (eq_true hc7))))) ?_
   repeat refine awp_seq ?_
   refine awp_then (by rfl) ?_
   repeat refine awp_seq ?_
   refine rg (h := ?_)
   obtain rfl := som_inj h
   repeat refine awp_seq ?_
   refine awp_ret ?_
   repeat first | refine then_ret ?_ | refine blk_ret ?_
   exact rtp
 refine rgf (And.intro (eq_false hc3) (And.intro (eq_false hc4) (And.intro (eq_false hc5) (And.intro (eq_false hc6) (eq_false hc7))))) ?_
 rcases ite_some h with ⟨hc8, h⟩ | ⟨hc8, h⟩
 · repeat refine awp_seq ?_
   refine awp_then (by simp -implicitDefEqProofs (disch := first | omega | rfl) only [go_sem, simprocAttr, eq_true hc8]) ?_
   repeat refine awp_seq ?_
   refine rg (h := ?_)
   obtain rfl := som_inj h
   repeat refine awp_seq ?_
   refine awp_ret ?_
   repeat first | refine then_ret ?_ | refine blk_ret ?_
   exact rtp
 repeat refine awp_seq ?_
 refine awp_else (by simp -implicitDefEqProofs (disch := first | omega | rfl) only [go_sem, simprocAttr, eq_false hc8]) ?_
 repeat refine awp_seq ?_
 refine awp_skip ?_
 repeat refine awp_seq ?_
 refine awp_reg fun K Q hK hQ => ?_
 simp -implicitDefEqProofs (disch := first | omega | rfl) only [go_sem, simprocAttr, zr8_4]
 intro b9 b10
 refine hK _ _ ?_; clear hK hQ K Q
 repeat refine awp_seq ?_
 refine rg (h := ?_)
 repeat refine awp_seq ?_
 refine rg (h := ?_)
 repeat refine awp_seq ?_
 refine awp_cut (ι := {p : (List Item) × (Option Nat) × (List UInt8) // s8_k2 N p1 p3 p4 x1 p.1 p.2.2 = some r ∧ (p.2.1 = none → p.1 = [])}) (fun p => [(0, .sl (List.map (AV.int .u8) p1)), (2, .str p3), (3, .str p4), (9, .bool x1), (10, .ptr 10 b10 0), (11, .str p.1.2.2)]) (fun p => (10, b10, .cells ([.int .i64 13, .str [116], .int .i64 0, .str [], .str [], .int .i64 0, .int .i64 0, .int .i64 0, .bool false, .str [], .int .i64 0, .bool false, .str [], .nil, .str [], .str [], .int .i64 0, .int .i64 0, .str [], .str [], .bool false, .str [], .str [], .bool false, .bool false, .bool false, .bool false, .bool false, .bool false, .bool false, .nil, .row 48 b9 0 2 1, accV 501 p.1.2.1 (List.length p.1.1) 33])) :: (48, b9, .cells ([.str [63, 114], .str [63, 97]])) :: accO 501 p.1.2.1 (flt Item.av p.1.1) []) ?_ ?_
 · repeat refine awp_seq ?_
   refine awp_block ?_
   obtain ⟨o57, ho57, hO57⟩ := bnd_some h
   repeat refine awp_seq ?_
   refine awp_loop (ι := {p : Nat × (List Item) × (Option Nat) × Int // iter (fun p => s8_b3 N p1 p2 p.1 p.2) p.1 (p.2.1, p.2.2.2) = some o57 ∧ (p.2.2.1 = none → p.2.1 = [])}) (fun p => [(0, .sl (List.map (AV.int .u8) p1)), (1, .sl (List.map (AV.int .u16) p2)), (2, .str p3), (3, .str p4), (9, .bool x1), (10, .ptr 10 b10 0), (11, .str lit1), (12, .int .i64 p.1.2.2.2)]) (fun p => (10, b10, .cells ([.int .i64 13, .str [116], .int .i64 0, .str [], .str [], .int .i64 0, .int .i64 0, .int .i64 0, .bool false, .str [], .int .i64 0, .bool false, .str [], .nil, .str [], .str [], .int .i64 0, .int .i64 0, .str [], .str [], .bool false, .str [], .str [], .bool false, .bool false, .bool false, .bool false, .bool false, .bool false, .bool false, .nil, .row 48 b9 0 2 1, accV 502 p.1.2.2.1 (List.length p.1.2.1) 33])) :: (48, b9, .cells ([.str [63, 114], .str [63, 97]])) :: accO 502 p.1.2.2.1 (flt Item.av p.1.2.1) []) (fun p => p.1.1) ⟨⟨N, [], none, 0⟩, ho57, (fun _ => rfl)⟩ ?_ ?_
   · refine ent_le' ([]) (_ :: _ :: []) (_ :: _ :: []) rfl (List.Perm.refl _) ?_ ?_
     · simp -implicitDefEqProofs (disch := first | omega | rfl) only [go_sem, simprocAttr, subF_cons, subF_nil]
       exact ⟨(.keep _), (.keep _), (.keep _), (.keep _), (.keep _), (.lptr ..), (.keep _), (.keep _)⟩
     · exact (.cells (.cons (.keep _) (.cons (.keep _) (.cons (.keep _) (.cons (.keep _) (.cons (.keep _) (.cons (.keep _) (.cons (.keep _) (.cons (.keep _) (.cons (.keep _) (.cons (.keep _) (.cons (.keep _) (.cons (.keep _) (.cons (.keep _) (.cons (.keep _) (.cons (.keep _) (.cons (.keep _) (.cons (.keep _) (.cons (.keep _) (.cons (.keep _) (.cons (.keep _) (.cons (.keep _) (.cons (.keep _) (.cons (.keep _) (.cons (.keep _) (.cons (.keep _) (.cons (.keep _) (.cons (.keep _) (.cons (.keep _) (.cons (.keep _) (.cons (.keep _) (.cons (.keep _) (.cons (frz_lrow (by first | rfl | (simp; done) | ((try simp only [List.length_set, List.length_take]); omega))) (.cons (.keep _) (.nil _)))))))))))))))))))))))))))))))))) (.cell .nil))
   rintro ⟨⟨n57, l53, bo54, x56⟩, hi57, hb55⟩
   obtain ⟨m57, q57, rfl, h, hm57⟩ := iter_some hi57
   try dsimp only at h
   try dsimp only
   unfold s8_b3 at h
   repeat refine awp_seq ?_
   refine rg (h := ?_)
   rcases ite_some h with ⟨hc62, h⟩ | ⟨hc62, h⟩
   · repeat refine awp_seq ?_
     refine awp_then (by simp -implicitDefEqProofs (disch := first | omega | rfl) only [go_sem, simprocAttr, eq_true hc62]) ?_
     repeat refine awp_seq ?_
     refine awp_skip ?_
     repeat refine awp_seq ?_
     refine awp_block ?_
     repeat refine awp_seq ?_
     refine awp_regD' (_ :: _ :: accO _ _ _ []) ([]) (_ :: _ :: accO _ _ _ []) (by rw [hP]; exact mixed) (by first | rfl | (simp only [accO_app, List.cons_append, List.nil_append]; rfl) | simp only [accO_app, List.cons_append, List.nil_append]) (List.Perm.refl _) fun K hK => ?_
     obtain ⟨hg63, h⟩ := grd_some h
     obtain ⟨⟨hg64, hg65⟩, h⟩ := grd_some h
     obtain ⟨hg66, h⟩ := grd_some h
     simp -implicitDefEqProofs (disch := first | omega | rfl) only [go_sem, simprocAttr, zr8_8, eq_true hc62, eq_true hg63, eq_true hg64, eq_true hg65, eq_true hg66]
     intro b67
     refine hK _ _ ?_; clear hK K
     repeat refine awp_seq ?_
     refine rg (h := ?_)
     rcases ite_some h with ⟨hc68, h⟩ | ⟨hc68, h⟩
     · repeat refine awp_seq ?_
       refine awp_then (by simp -implicitDefEqProofs (disch := first | omega | rfl) only [go_sem, simprocAttr, eq_true hc68]) ?_
       repeat refine awp_seq ?_
       refine awp_reg fun K Q hK hQ => ?_
       obtain ⟨⟨hg69, hg70, hg71⟩, h⟩ := grd_some h
       simp -implicitDefEqProofs (disch := first | omega | rfl) only [go_sem, simprocAttr, zr8_10, eq_true hg69, eq_true hg70, eq_true hg71]
       intro b72
       refine hK _ _ ?_; clear hK hQ K Q
       repeat refine awp_seq ?_
       refine awp_le' (s' := [(0, .sl (List.map (AV.int .u8) p1)), (1, .sl (List.map (AV.int .u16) p2)), (2, .str p3), (3, .str p4), (9, .bool x1), (10, .ptr 10 b10 0), (11, .str lit1), (12, .int .i64 x56), (13, .ptr 13 b67 0)]) (own' := (10, b10, .cells ([.int .i64 13, .str [116], .int .i64 0, .str [], .str [], .int .i64 0, .int .i64 0, .int .i64 0, .bool false, .str [], .int .i64 0, .bool false, .str [], .nil, .str [], .str [], .int .i64 0, .int .i64 0, .str [], .str [], .bool false, .str [], .str [], .bool false, .bool false, .bool false, .bool false, .bool false, .bool false, .bool false, .nil, .row 48 b9 0 2 1, accV 502 bo54 (List.length l53) 33])) :: (48, b9, .cells ([.str [63, 114], .str [63, 97]])) :: accO 502 bo54 (flt Item.av l53) ((13, b67, .cells ([.int .i64 (IntKind.wrap .i64 (9 + (IntKind.wrap .i64 (Int.tmod (p1[x56.toNat]!) 4)))), .str (List.drop x56.toNat (List.take (IntKind.wrap .i64 (x56 + 1)).toNat lit1)), .int .i64 0, .str [63, 114], .str [63, 97], .int .i64 0, .int .i64 x56, .int .i64 (IntKind.wrap .i64 (p2[x56.toNat]!)), .bool false, .str [], .int .i64 0, .bool false, .str [], .sl (List.map Named.av ([({ Name := List.drop (IntKind.wrap .i64 (x56 - 1)).toNat (List.take x56.toNat lit1), Is := 2 } : Named), ({ Name := [122, 57], Is := 3 } : Named)])), .str [], .str [], .int .i64 0, .int .i64 0, .str [], .str [], .bool (decide (99 < p1[x56.toNat]!)), .str [], .str [], .bool false, .bool false, .bool false, .bool false, .bool false, .bool false, .bool false, .nil, .nil, .nil])) :: [])) (_ :: []) (_ :: _ :: accO _ _ _ (_ :: [])) (_ :: _ :: _ :: accO _ _ _ (_ :: [])) rfl (List.Perm.refl _) ?_ ?_ ?_
       · simp -implicitDefEqProofs (disch := first | omega | rfl) only [go_sem, simprocAttr, subF_cons, subF_nil]
         exact ⟨(.keep _), (.keep _), (.keep _), (.keep _), (.keep _), (.lptr ..), (.keep _), (.keep _), (.lptr ..)⟩
       · exact (.cell (.cell (.acc (FrzP.refl _ _) (.cells (.cons (.keep _) (.cons (.keep _) (.cons (.keep _) (.cons (.keep _) (.cons (.keep _) (.cons (.keep _) (.cons (.keep _) (.cons (.keep _) (.cons (.keep _) (.cons (.keep _) (.cons (.keep _) (.cons (.keep _) (.cons (.keep _) (.cons (frz_rowP (f := Named.av) (fun _ => Named.avl) (by simp -implicitDefEqProofs (disch := first | omega | rfl) only [go_sem, simprocAttr]; first | done | rfl) (by rw [show flt Named.av _ = [.str (List.drop (IntKind.wrap .i64 (x56 - 1)).toNat (List.take x56.toNat lit1)), .int .i64 2, .str [122, 57], .int .i64 3] from by simp only [flt, List.flatMap_cons, List.flatMap_nil, Named.av_eq, AV.cells, Named.cs_eq, List.cons_append, List.nil_append, List.append_nil]]; exact (.cons (.keep _) (.cons (.keep _) (.cons (.keep _) (.cons (.keep _) (.nil _)))))) (by first | rfl | simp)) (.cons (.keep _) (.cons (.keep _) (.cons (.keep _) (.cons (.keep _) (.cons (.keep _) (.cons (.keep _) (.cons (.keep _) (.cons (.keep _) (.cons (.keep _) (.cons (.keep _) (.cons (.keep _) (.cons (.keep _) (.cons (.keep _) (.cons (.keep _) (.cons (.keep _) (.cons (.keep _) (.cons (.keep _) (.cons (.keep _) (.cons (.keep _) (.nil _)))))))))))))))))))))))))))))))))) .nil))))
       repeat refine awp_seq ?_
       refine awp_le' (s' := [(0, .sl (List.map (AV.int .u8) p1)), (1, .sl (List.map (AV.int .u16) p2)), (2, .str p3), (3, .str p4), (9, .bool x1), (10, .ptr 10 b10 0), (11, .str lit1), (12, .int .i64 x56), (13, .ptr 13 b67 0)]) (own' := (10, b10, .cells ([.int .i64 13, .str [116], .int .i64 0, .str [], .str [], .int .i64 0, .int .i64 0, .int .i64 0, .bool false, .str [], .int .i64 0, .bool false, .str [], .nil, .str [], .str [], .int .i64 0, .int .i64 0, .str [], .str [], .bool false, .str [], .str [], .bool false, .bool false, .bool false, .bool false, .bool false, .bool false, .bool false, .nil, .row 48 b9 0 2 1, accV 502 bo54 (List.length l53) 33])) :: (48, b9, .cells ([.str [63, 114], .str [63, 97]])) :: accO 502 bo54 (flt Item.av l53) ((13, b67, .cells (Item.cs (({ Kind := IntKind.wrap .i64 (9 + (IntKind.wrap .i64 (Int.tmod (p1[x56.toNat]!) 4))), Name := List.drop x56.toNat (List.take (IntKind.wrap .i64 (x56 + 1)).toNat lit1), At := 0, Of := [63, 114], Act := [63, 97], Word := 0, Times := x56, Within := ({ Days := IntKind.wrap .i64 (p2[x56.toNat]!), Business := false, Name := [] } : Span), Grace := ({ Days := 0, Business := false, Name := [] } : Span), Conds := [({ Name := List.drop (IntKind.wrap .i64 (x56 - 1)).toNat (List.take x56.toNat lit1), Is := 2 } : Named), ({ Name := [122, 57], Is := 3 } : Named)], By := [], Until := [], Num := ({ Num := 0, Den := 0 } : Ratio), Unit := [], Sum := [], Final := decide (99 < p1[x56.toNat]!), Give := [], To := [], Days := ({ e0 := false, e1 := false, e2 := false, e3 := false, e4 := false, e5 := false, e6 := false } : Arr7B), Dates := [], Names := [], Items := [] } : Item)))) :: [])) ([]) (_ :: _ :: accO _ _ _ (_ :: [])) (_ :: _ :: accO _ _ _ (_ :: [])) rfl (List.Perm.refl _) ?_ ?_ ?_
       · simp -implicitDefEqProofs (disch := first | omega | rfl) only [go_sem, simprocAttr, subF_cons, subF_nil]
         exact ⟨(.keep _), (.keep _), (.keep _), (.keep _), (.keep _), (.lptr ..), (.keep _), (.keep _), (.lptr ..)⟩
       · exact (.cell (.cell (.acc (FrzP.refl _ _) (.cells (by rw [Item.cs_eq]; exact (.cons (.keep _) (.cons (.keep _) (.cons (.keep _) (.cons (.keep _) (.cons (.keep _) (.cons (.keep _) (.cons (.keep _) (.cons (.keep _) (.cons (.keep _) (.cons (.keep _) (.cons (.keep _) (.cons (.keep _) (.cons (.keep _) (.cons (.keep _) (.cons (.keep _) (.cons (.keep _) (.cons (.keep _) (.cons (.keep _) (.cons (.keep _) (.cons (.keep _) (.cons (.keep _) (.cons (.keep _) (.cons (.keep _) (.cons (.keep _) (.cons (.keep _) (.cons (.keep _) (.cons (.keep _) (.cons (.keep _) (.cons (.keep _) (.cons (.keep _) (.cons .nil (.cons .nil (.cons .nil (.nil _))))))))))))))))))))))))))))))))))) .nil))))
       repeat refine awp_seq ?_
       refine awp_reg fun K Q hK hQ => ?_
       obtain ⟨⟨hg76, hg77⟩, h⟩ := grd_some h
       simp -implicitDefEqProofs (disch := first | omega | rfl) only [go_sem, simprocAttr, zr8_11, eq_true hg76, eq_true hg77]
       intro b75
       refine app_acc (f := Item.av) (l := l53) ((95, b75, .cells (Item.cs (({ Kind := IntKind.wrap .i64 (9 + (IntKind.wrap .i64 (Int.tmod (p1[x56.toNat]!) 4))), Name := List.drop x56.toNat (List.take (IntKind.wrap .i64 (x56 + 1)).toNat lit1), At := 0, Of := [63, 114], Act := [63, 97], Word := 0, Times := x56, Within := ({ Days := IntKind.wrap .i64 (p2[x56.toNat]!), Business := false, Name := [] } : Span), Grace := ({ Days := 0, Business := false, Name := [] } : Span), Conds := [({ Name := List.drop (IntKind.wrap .i64 (x56 - 1)).toNat (List.take x56.toNat lit1), Is := 2 } : Named), ({ Name := [122, 57], Is := 3 } : Named)], By := [], Until := [], Num := ({ Num := 0, Den := 0 } : Ratio), Unit := [], Sum := [], Final := decide (99 < p1[x56.toNat]!), Give := [], To := [], Days := ({ e0 := false, e1 := false, e2 := false, e3 := false, e4 := false, e5 := false, e6 := false } : Arr7B), Dates := [], Names := [], Items := [] } : Item)))) :: (10, b10, .cells ([.int .i64 13, .str [116], .int .i64 0, .str [], .str [], .int .i64 0, .int .i64 0, .int .i64 0, .bool false, .str [], .int .i64 0, .bool false, .str [], .nil, .str [], .str [], .int .i64 0, .int .i64 0, .str [], .str [], .bool false, .str [], .str [], .bool false, .bool false, .bool false, .bool false, .bool false, .bool false, .bool false, .nil, .row 48 b9 0 2 1, accV 502 bo54 (List.length l53) 33])) :: (48, b9, .cells ([.str [63, 114], .str [63, 97]])) :: (13, b67, .cells (Item.cs (({ Kind := IntKind.wrap .i64 (9 + (IntKind.wrap .i64 (Int.tmod (p1[x56.toNat]!) 4))), Name := List.drop x56.toNat (List.take (IntKind.wrap .i64 (x56 + 1)).toNat lit1), At := 0, Of := [63, 114], Act := [63, 97], Word := 0, Times := x56, Within := ({ Days := IntKind.wrap .i64 (p2[x56.toNat]!), Business := false, Name := [] } : Span), Grace := ({ Days := 0, Business := false, Name := [] } : Span), Conds := [({ Name := List.drop (IntKind.wrap .i64 (x56 - 1)).toNat (List.take x56.toNat lit1), Is := 2 } : Named), ({ Name := [122, 57], Is := 3 } : Named)], By := [], Until := [], Num := ({ Num := 0, Den := 0 } : Ratio), Unit := [], Sum := [], Final := decide (99 < p1[x56.toNat]!), Give := [], To := [], Days := ({ e0 := false, e1 := false, e2 := false, e3 := false, e4 := false, e5 := false, e6 := false } : Arr7B), Dates := [], Names := [], Items := [] } : Item)))) :: []) hb55 (by first | rfl | simp) (fun _ => Item.avl) (by intro b hb; subst hb; simp -implicitDefEqProofs (disch := first | omega | rfl) only [go_sem, simprocAttr]) (by intro b hb; subst hb; simp -implicitDefEqProofs (disch := first | omega | rfl) only [go_sem, simprocAttr]) (by intro hb; subst hb; simp -implicitDefEqProofs (disch := first | omega | rfl) only [go_sem, simprocAttr]) ?_
       simp -implicitDefEqProofs (disch := first | omega | rfl) only [go_sem, simprocAttr, eq_true hg76, eq_true hg77]
       intro bo78 hb79
       try simp -implicitDefEqProofs (disch := first | omega | rfl) only [go_sem, simprocAttr]
       refine hK _ _ ?_; clear hK hQ K Q
       repeat refine awp_seq ?_
       refine rg (h := ?_)
       obtain rfl := som_inj h
       try dsimp only at hm57
       refine ⟨⟨⟨m57, l53 ++ ([({ Kind := IntKind.wrap .i64 (9 + (IntKind.wrap .i64 (Int.tmod (p1[x56.toNat]!) 4))), Name := List.drop x56.toNat (List.take (IntKind.wrap .i64 (x56 + 1)).toNat lit1), At := 0, Of := [63, 114], Act := [63, 97], Word := 0, Times := x56, Within := ({ Days := IntKind.wrap .i64 (p2[x56.toNat]!), Business := false, Name := [] } : Span), Grace := ({ Days := 0, Business := false, Name := [] } : Span), Conds := [({ Name := List.drop (IntKind.wrap .i64 (x56 - 1)).toNat (List.take x56.toNat lit1), Is := 2 } : Named), ({ Name := [122, 57], Is := 3 } : Named)], By := [], Until := [], Num := ({ Num := 0, Den := 0 } : Ratio), Unit := [], Sum := [], Final := decide (99 < p1[x56.toNat]!), Give := [], To := [], Days := ({ e0 := false, e1 := false, e2 := false, e3 := false, e4 := false, e5 := false, e6 := false } : Arr7B), Dates := [], Names := [], Items := [] } : Item)]), bo78, IntKind.wrap .i64 (x56 + 1)⟩, hm57, (fun h => List.length_eq_zero_iff.1 (by simpa using hb79 h))⟩, Nat.lt_succ_self _, ?_⟩
       refine ent_le' ([]) (_ :: _ :: accO _ _ _ (_ :: _ :: [])) (_ :: _ :: accO _ _ _ (_ :: _ :: [])) rfl (List.Perm.trans (perm_ha perm_cc) (List.Perm.trans perm_ac ((List.Perm.cons _ (List.Perm.trans (perm_ha perm_cc) (List.Perm.trans perm_ac (List.Perm.refl _))))))) ?_ ?_
       · simp -implicitDefEqProofs (disch := first | omega | rfl) only [go_sem, simprocAttr, subF_cons, subF_nil]
         exact ⟨(.keep _), (.keep _), (.keep _), (.keep _), (.keep _), (.lptr ..), (.keep _), (.keep _)⟩
       · exact (.cells (.cons (.keep _) (.cons (.keep _) (.cons (.keep _) (.cons (.keep _) (.cons (.keep _) (.cons (.keep _) (.cons (.keep _) (.cons (.keep _) (.cons (.keep _) (.cons (.keep _) (.cons (.keep _) (.cons (.keep _) (.cons (.keep _) (.cons (.keep _) (.cons (.keep _) (.cons (.keep _) (.cons (.keep _) (.cons (.keep _) (.cons (.keep _) (.cons (.keep _) (.cons (.keep _) (.cons (.keep _) (.cons (.keep _) (.cons (.keep _) (.cons (.keep _) (.cons (.keep _) (.cons (.keep _) (.cons (.keep _) (.cons (.keep _) (.cons (.keep _) (.cons (.keep _) (.cons (frz_lrow (by first | rfl | (simp; done) | ((try simp only [List.length_set, List.length_take]); omega))) (.cons (frz_lacc (by first | rfl | (simp; done) | ((try simp only [List.length_set, List.length_take]); omega))) (.nil _)))))))))))))))))))))))))))))))))) (.cell (.acc (FrzP.of_eq (by first | rfl | simp only [flt_app, flt_one, List.append_assoc])) (.drop (.drop .nil)))))
     repeat refine awp_seq ?_
     refine awp_else (by simp -implicitDefEqProofs (disch := first | omega | rfl) only [go_sem, simprocAttr, eq_false hc68]) ?_
     repeat refine awp_seq ?_
     refine awp_skip ?_
     repeat refine awp_seq ?_
     refine awp_le' (s' := [(0, .sl (List.map (AV.int .u8) p1)), (1, .sl (List.map (AV.int .u16) p2)), (2, .str p3), (3, .str p4), (9, .bool x1), (10, .ptr 10 b10 0), (11, .str lit1), (12, .int .i64 x56), (13, .ptr 13 b67 0)]) (own' := (10, b10, .cells ([.int .i64 13, .str [116], .int .i64 0, .str [], .str [], .int .i64 0, .int .i64 0, .int .i64 0, .bool false, .str [], .int .i64 0, .bool false, .str [], .nil, .str [], .str [], .int .i64 0, .int .i64 0, .str [], .str [], .bool false, .str [], .str [], .bool false, .bool false, .bool false, .bool false, .bool false, .bool false, .bool false, .nil, .row 48 b9 0 2 1, accV 502 bo54 (List.length l53) 33])) :: (48, b9, .cells ([.str [63, 114], .str [63, 97]])) :: accO 502 bo54 (flt Item.av l53) ((13, b67, .cells (Item.cs (({ Kind := IntKind.wrap .i64 (9 + (IntKind.wrap .i64 (Int.tmod (p1[x56.toNat]!) 4))), Name := List.drop x56.toNat (List.take (IntKind.wrap .i64 (x56 + 1)).toNat lit1), At := 0, Of := [63, 114], Act := [63, 97], Word := 0, Times := x56, Within := ({ Days := IntKind.wrap .i64 (p2[x56.toNat]!), Business := false, Name := [] } : Span), Grace := ({ Days := 0, Business := false, Name := [] } : Span), Conds := [], By := [], Until := [], Num := ({ Num := 0, Den := 0 } : Ratio), Unit := [], Sum := [], Final := decide (99 < p1[x56.toNat]!), Give := [], To := [], Days := ({ e0 := false, e1 := false, e2 := false, e3 := false, e4 := false, e5 := false, e6 := false } : Arr7B), Dates := [], Names := [], Items := [] } : Item)))) :: [])) ([]) (_ :: _ :: accO _ _ _ (_ :: [])) (_ :: _ :: accO _ _ _ (_ :: [])) rfl (List.Perm.refl _) ?_ ?_ ?_
     · simp -implicitDefEqProofs (disch := first | omega | rfl) only [go_sem, simprocAttr, subF_cons, subF_nil]
       exact ⟨(.keep _), (.keep _), (.keep _), (.keep _), (.keep _), (.lptr ..), (.keep _), (.keep _), (.lptr ..)⟩
     · exact (.cell (.cell (.acc (FrzP.refl _ _) (.cells (by rw [Item.cs_eq]; exact (.cons (.keep _) (.cons (.keep _) (.cons (.keep _) (.cons (.keep _) (.cons (.keep _) (.cons (.keep _) (.cons (.keep _) (.cons (.keep _) (.cons (.keep _) (.cons (.keep _) (.cons (.keep _) (.cons (.keep _) (.cons (.keep _) (.cons .nil (.cons (.keep _) (.cons (.keep _) (.cons (.keep _) (.cons (.keep _) (.cons (.keep _) (.cons (.keep _) (.cons (.keep _) (.cons (.keep _) (.cons (.keep _) (.cons (.keep _) (.cons (.keep _) (.cons (.keep _) (.cons (.keep _) (.cons (.keep _) (.cons (.keep _) (.cons (.keep _) (.cons .nil (.cons .nil (.cons .nil (.nil _))))))))))))))))))))))))))))))))))) .nil))))
     repeat refine awp_seq ?_
     refine awp_reg fun K Q hK hQ => ?_
     obtain ⟨⟨hg82, hg83⟩, h⟩ := grd_some h
     simp -implicitDefEqProofs (disch := first | omega | rfl) only [go_sem, simprocAttr, zr8_11, eq_true hg82, eq_true hg83]
     intro b81
     refine app_acc (f := Item.av) (l := l53) ((95, b81, .cells (Item.cs (({ Kind := IntKind.wrap .i64 (9 + (IntKind.wrap .i64 (Int.tmod (p1[x56.toNat]!) 4))), Name := List.drop x56.toNat (List.take (IntKind.wrap .i64 (x56 + 1)).toNat lit1), At := 0, Of := [63, 114], Act := [63, 97], Word := 0, Times := x56, Within := ({ Days := IntKind.wrap .i64 (p2[x56.toNat]!), Business := false, Name := [] } : Span), Grace := ({ Days := 0, Business := false, Name := [] } : Span), Conds := [], By := [], Until := [], Num := ({ Num := 0, Den := 0 } : Ratio), Unit := [], Sum := [], Final := decide (99 < p1[x56.toNat]!), Give := [], To := [], Days := ({ e0 := false, e1 := false, e2 := false, e3 := false, e4 := false, e5 := false, e6 := false } : Arr7B), Dates := [], Names := [], Items := [] } : Item)))) :: (10, b10, .cells ([.int .i64 13, .str [116], .int .i64 0, .str [], .str [], .int .i64 0, .int .i64 0, .int .i64 0, .bool false, .str [], .int .i64 0, .bool false, .str [], .nil, .str [], .str [], .int .i64 0, .int .i64 0, .str [], .str [], .bool false, .str [], .str [], .bool false, .bool false, .bool false, .bool false, .bool false, .bool false, .bool false, .nil, .row 48 b9 0 2 1, accV 502 bo54 (List.length l53) 33])) :: (48, b9, .cells ([.str [63, 114], .str [63, 97]])) :: (13, b67, .cells (Item.cs (({ Kind := IntKind.wrap .i64 (9 + (IntKind.wrap .i64 (Int.tmod (p1[x56.toNat]!) 4))), Name := List.drop x56.toNat (List.take (IntKind.wrap .i64 (x56 + 1)).toNat lit1), At := 0, Of := [63, 114], Act := [63, 97], Word := 0, Times := x56, Within := ({ Days := IntKind.wrap .i64 (p2[x56.toNat]!), Business := false, Name := [] } : Span), Grace := ({ Days := 0, Business := false, Name := [] } : Span), Conds := [], By := [], Until := [], Num := ({ Num := 0, Den := 0 } : Ratio), Unit := [], Sum := [], Final := decide (99 < p1[x56.toNat]!), Give := [], To := [], Days := ({ e0 := false, e1 := false, e2 := false, e3 := false, e4 := false, e5 := false, e6 := false } : Arr7B), Dates := [], Names := [], Items := [] } : Item)))) :: []) hb55 (by first | rfl | simp) (fun _ => Item.avl) (by intro b hb; subst hb; simp -implicitDefEqProofs (disch := first | omega | rfl) only [go_sem, simprocAttr]) (by intro b hb; subst hb; simp -implicitDefEqProofs (disch := first | omega | rfl) only [go_sem, simprocAttr]) (by intro hb; subst hb; simp -implicitDefEqProofs (disch := first | omega | rfl) only [go_sem, simprocAttr]) ?_
     simp -implicitDefEqProofs (disch := first | omega | rfl) only [go_sem, simprocAttr, eq_true hg82, eq_true hg83]
     intro bo84 hb85
     try simp -implicitDefEqProofs (disch := first | omega | rfl) only [go_sem, simprocAttr]
     refine hK _ _ ?_; clear hK hQ K Q
     repeat refine awp_seq ?_
     refine rg (h := ?_)
     obtain rfl := som_inj h
     try dsimp only at hm57
     refine ⟨⟨⟨m57, l53 ++ ([({ Kind := IntKind.wrap .i64 (9 + (IntKind.wrap .i64 (Int.tmod (p1[x56.toNat]!) 4))), Name := List.drop x56.toNat (List.take (IntKind.wrap .i64 (x56 + 1)).toNat lit1), At := 0, Of := [63, 114], Act := [63, 97], Word := 0, Times := x56, Within := ({ Days := IntKind.wrap .i64 (p2[x56.toNat]!), Business := false, Name := [] } : Span), Grace := ({ Days := 0, Business := false, Name := [] } : Span), Conds := [], By := [], Until := [], Num := ({ Num := 0, Den := 0 } : Ratio), Unit := [], Sum := [], Final := decide (99 < p1[x56.toNat]!), Give := [], To := [], Days := ({ e0 := false, e1 := false, e2 := false, e3 := false, e4 := false, e5 := false, e6 := false } : Arr7B), Dates := [], Names := [], Items := [] } : Item)]), bo84, IntKind.wrap .i64 (x56 + 1)⟩, hm57, (fun h => List.length_eq_zero_iff.1 (by simpa using hb85 h))⟩, Nat.lt_succ_self _, ?_⟩
     refine ent_le' ([]) (_ :: _ :: accO _ _ _ (_ :: _ :: [])) (_ :: _ :: accO _ _ _ (_ :: _ :: [])) rfl (List.Perm.trans (perm_ha perm_cc) (List.Perm.trans perm_ac ((List.Perm.cons _ (List.Perm.trans (perm_ha perm_cc) (List.Perm.trans perm_ac (List.Perm.refl _))))))) ?_ ?_
     · simp -implicitDefEqProofs (disch := first | omega | rfl) only [go_sem, simprocAttr, subF_cons, subF_nil]
       exact ⟨(.keep _), (.keep _), (.keep _), (.keep _), (.keep _), (.lptr ..), (.keep _), (.keep _)⟩
     · exact (.cells (.cons (.keep _) (.cons (.keep _) (.cons (.keep _) (.cons (.keep _) (.cons (.keep _) (.cons (.keep _) (.cons (.keep _) (.cons (.keep _) (.cons (.keep _) (.cons (.keep _) (.cons (.keep _) (.cons (.keep _) (.cons (.keep _) (.cons (.keep _) (.cons (.keep _) (.cons (.keep _) (.cons (.keep _) (.cons (.keep _) (.cons (.keep _) (.cons (.keep _) (.cons (.keep _) (.cons (.keep _) (.cons (.keep _) (.cons (.keep _) (.cons (.keep _) (.cons (.keep _) (.cons (.keep _) (.cons (.keep _) (.cons (.keep _) (.cons (.keep _) (.cons (.keep _) (.cons (frz_lrow (by first | rfl | (simp; done) | ((try simp only [List.length_set, List.length_take]); omega))) (.cons (frz_lacc (by first | rfl | (simp; done) | ((try simp only [List.length_set, List.length_take]); omega))) (.nil _)))))))))))))))))))))))))))))))))) (.cell (.acc (FrzP.of_eq (by first | rfl | simp only [flt_app, flt_one, List.append_assoc])) (.drop (.drop .nil)))))
   repeat refine awp_seq ?_
   refine awp_else (by simp -implicitDefEqProofs (disch := first | omega | rfl) only [go_sem, simprocAttr, eq_false hc62]) ?_
   repeat refine awp_seq ?_
   refine awp_exit ?_
   repeat' (first | refine then_exit ?_ | refine exit_here ?_ | refine exit_on rfl ?_)
   obtain rfl := som_inj h
   try dsimp only at hm57
   subst hm57
   try dsimp only at hO57
   refine ⟨⟨⟨l53, bo54, lit1⟩, hO57, hb55⟩, ?_⟩
   refine ent_le' ([]) (_ :: _ :: accO _ _ _ []) (_ :: _ :: accO _ _ _ []) rfl (List.Perm.refl _) ?_ ?_
   · simp -implicitDefEqProofs (disch := first | omega | rfl) only [go_sem, simprocAttr, subF_cons, subF_nil]
     exact ⟨(.keep _), (.keep _), (.keep _), (.keep _), (.lptr ..), (.keep _)⟩
   · exact (.cells (.cons (.keep _) (.cons (.keep _) (.cons (.keep _) (.cons (.keep _) (.cons (.keep _) (.cons (.keep _) (.cons (.keep _) (.cons (.keep _) (.cons (.keep _) (.cons (.keep _) (.cons (.keep _) (.cons (.keep _) (.cons (.keep _) (.cons (.keep _) (.cons (.keep _) (.cons (.keep _) (.cons (.keep _) (.cons (.keep _) (.cons (.keep _) (.cons (.keep _) (.cons (.keep _) (.cons (.keep _) (.cons (.keep _) (.cons (.keep _) (.cons (.keep _) (.cons (.keep _) (.cons (.keep _) (.cons (.keep _) (.cons (.keep _) (.cons (.keep _) (.cons (.keep _) (.cons (frz_lrow (by first | rfl | (simp; done) | ((try simp only [List.length_set, List.length_take]); omega))) (.cons (frz_lacc (by first | rfl | (simp; done) | ((try simp only [List.length_set, List.length_take]); omega))) (.nil _)))))))))))))))))))))))))))))))))) (.cell (.acc (FrzP.of_eq (by first | rfl | simp only [flt_app, flt_one, List.append_assoc])) .nil)))
 rintro ⟨⟨l11, bo12, x14⟩, h, hb13⟩
 try dsimp only at h hb13
 try dsimp only
 repeat refine awp_seq ?_
 refine awp_le' (s' := [(0, .sl (List.map (AV.int .u8) p1)), (2, .str p3), (3, .str p4), (9, .bool x1), (10, .ptr 10 b10 0), (11, .str x14)]) (own' := (10, b10, .cells ([.int .i64 13, .str [116], .int .i64 0, .str [], .str [], .int .i64 0, .int .i64 0, .int .i64 0, .bool false, .str [], .int .i64 0, .bool false, .str [], .nil, .str [], .str [], .int .i64 0, .int .i64 0, .str [], .str [], .bool false, .str [], .str [], .bool false, .bool false, .bool false, .bool false, .bool false, .bool false, .bool false, .nil, .sl (List.map AV.str ([[63, 114], [63, 97]])), .sl (List.map Item.av l11)])) :: []) (_ :: accO _ _ _ []) (_ :: []) (_ :: accO _ _ _ (_ :: [])) (by first | rfl | (simp only [accO_app, List.cons_append, List.nil_append]; rfl) | simp only [accO_app, List.cons_append, List.nil_append]) (List.Perm.trans perm_cc ((List.Perm.cons _ (List.Perm.trans perm_ca (List.Perm.refl _))))) ?_ ?_ ?_
 · simp -implicitDefEqProofs (disch := first | omega | rfl) only [go_sem, simprocAttr, subF_cons, subF_nil]
   exact ⟨(.keep _), (.keep _), (.keep _), (.keep _), (.lptr ..), (.keep _)⟩
 · exact (.cells (.cons (.keep _) (.cons (.keep _) (.cons (.keep _) (.cons (.keep _) (.cons (.keep _) (.cons (.keep _) (.cons (.keep _) (.cons (.keep _) (.cons (.keep _) (.cons (.keep _) (.cons (.keep _) (.cons (.keep _) (.cons (.keep _) (.cons (.keep _) (.cons (.keep _) (.cons (.keep _) (.cons (.keep _) (.cons (.keep _) (.cons (.keep _) (.cons (.keep _) (.cons (.keep _) (.cons (.keep _) (.cons (.keep _) (.cons (.keep _) (.cons (.keep _) (.cons (.keep _) (.cons (.keep _) (.cons (.keep _) (.cons (.keep _) (.cons (.keep _) (.cons (.keep _) (.cons (frz_rowP (f := AV.str) (fun _ => rfl) (by simp -implicitDefEqProofs (disch := first | omega | rfl) only [go_sem, simprocAttr]; first | done | rfl) (show FrzP _ _ [.str [63, 114], .str [63, 97]] from (.cons (.keep _) (.cons (.keep _) (.nil _)))) (by first | rfl | simp)) (.cons (frz_acc (fun _ => Item.avl) hb13 (by intro b hb; subst hb; simp -implicitDefEqProofs (disch := first | omega | rfl) only [go_sem, simprocAttr]) (by first | rfl | (simp; done) | ((try simp only [List.length_set, List.length_take]); omega))) (.nil _)))))))))))))))))))))))))))))))))) .nil)
 repeat refine awp_seq ?_
 refine awp_reg fun K Q hK hQ => ?_
 simp -implicitDefEqProofs (disch := first | omega | rfl) only [go_sem, simprocAttr, zr8_13]
 intro b19 b20
 have hh := bnd_some h; clear h; obtain ⟨x21, hx22, h⟩ := hh
 refine call_pureF' hP (_ :: _ :: []) (_ :: []) (_ :: _ :: _ :: []) rfl (List.Perm.refl _) (.cons (by rw [Source.cs_eq]; exact .aggL (.cons (.keep _) (.cons (.keep _) (.cons (.keep _) (.cons (.keep _) (.cons (.keep _) (.cons (frz_rowP (f := Item.av) (fun _ => Item.avl) (by simp -implicitDefEqProofs (disch := first | omega | rfl) only [go_sem, simprocAttr]; first | done | rfl) (by rw [show flt Item.av _ = [.int .i64 14, .str [112], .int .i64 5, .str [116], .str [], .int .i64 0, .int .i64 0, .int .i64 0, .bool false, .str [], .int .i64 0, .bool false, .str [], .sl (List.map Named.av []), .str [], .str [], .int .i64 0, .int .i64 0, .str [], .str [], .bool false, .str [], .str [], .bool false, .bool false, .bool false, .bool false, .bool false, .bool false, .bool false, .sl (List.map Civil.av []), .sl (List.map AV.str [p3, p4]), .sl (List.map Item.av []), .int .i64 13, .str [116], .int .i64 0, .str [], .str [], .int .i64 0, .int .i64 0, .int .i64 0, .bool false, .str [], .int .i64 0, .bool false, .str [], .sl (List.map Named.av []), .str [], .str [], .int .i64 0, .int .i64 0, .str [], .str [], .bool false, .str [], .str [], .bool false, .bool false, .bool false, .bool false, .bool false, .bool false, .bool false, .sl (List.map Civil.av []), .sl (List.map AV.str ([[63, 114], [63, 97]])), .sl (List.map Item.av l11)] from by simp only [flt, List.flatMap_cons, List.flatMap_nil, Item.av_eq, AV.cells, Item.cs_eq, List.cons_append, List.nil_append, List.append_nil]]; exact (.cons (.keep _) (.cons (.keep _) (.cons (.keep _) (.cons (.keep _) (.cons (.keep _) (.cons (.keep _) (.cons (.keep _) (.cons (.keep _) (.cons (.keep _) (.cons (.keep _) (.cons (.keep _) (.cons (.keep _) (.cons (.keep _) (.cons .nil (.cons (.keep _) (.cons (.keep _) (.cons (.keep _) (.cons (.keep _) (.cons (.keep _) (.cons (.keep _) (.cons (.keep _) (.cons (.keep _) (.cons (.keep _) (.cons (.keep _) (.cons (.keep _) (.cons (.keep _) (.cons (.keep _) (.cons (.keep _) (.cons (.keep _) (.cons (.keep _) (.cons .nil (.cons (frz_rowP (f := AV.str) (fun _ => rfl) (by simp -implicitDefEqProofs (disch := first | omega | rfl) only [go_sem, simprocAttr]; first | done | rfl) (show FrzP _ _ [.str p3, .str p4] from (.cons (.keep _) (.cons (.keep _) (.nil _)))) (by first | rfl | simp)) (.cons .nil (.cons (.keep _) (.cons (.keep _) (.cons (.keep _) (.cons (.keep _) (.cons (.keep _) (.cons (.keep _) (.cons (.keep _) (.cons (.keep _) (.cons (.keep _) (.cons (.keep _) (.cons (.keep _) (.cons (.keep _) (.cons (.keep _) (.cons .nil (.cons (.keep _) (.cons (.keep _) (.cons (.keep _) (.cons (.keep _) (.cons (.keep _) (.cons (.keep _) (.cons (.keep _) (.cons (.keep _) (.cons (.keep _) (.cons (.keep _) (.cons (.keep _) (.cons (.keep _) (.cons (.keep _) (.cons (.keep _) (.cons (.keep _) (.cons (.keep _) (.cons .nil (.cons (.keep _) (.cons (.keep _) (.nil _)))))))))))))))))))))))))))))))))))))))))))))))))))))))))))))))))))) (by first | rfl | simp)) .nil))))))) .nil) (c11 N (({ Name := [], From := ({ Year := 0, Month := 0, Day := 0 } : Civil), Days := 0, Items := [({ Kind := 14, Name := [112], At := 5, Of := [116], Act := [], Word := 0, Times := 0, Within := ({ Days := 0, Business := false, Name := [] } : Span), Grace := ({ Days := 0, Business := false, Name := [] } : Span), Conds := [], By := [], Until := [], Num := ({ Num := 0, Den := 0 } : Ratio), Unit := [], Sum := [], Final := false, Give := [], To := [], Days := ({ e0 := false, e1 := false, e2 := false, e3 := false, e4 := false, e5 := false, e6 := false } : Arr7B), Dates := [], Names := [p3, p4], Items := [] } : Item), ({ Kind := 13, Name := [116], At := 0, Of := [], Act := [], Word := 0, Times := 0, Within := ({ Days := 0, Business := false, Name := [] } : Span), Grace := ({ Days := 0, Business := false, Name := [] } : Span), Conds := [], By := [], Until := [], Num := ({ Num := 0, Den := 0 } : Ratio), Unit := [], Sum := [], Final := false, Give := [], To := [], Days := ({ e0 := false, e1 := false, e2 := false, e3 := false, e4 := false, e5 := false, e6 := false } : Arr7B), Dates := [], Names := [[63, 114], [63, 97]], Items := l11 } : Item)] } : Source)) x21 hx22) ?_
 simp -implicitDefEqProofs (disch := first | omega | rfl) only [go_sem, simprocAttr]
 intro b23
 refine hK _ _ ?_; clear hK hQ K Q
 repeat refine awp_seq ?_
 rcases ite_some h with ⟨hc24, h⟩ | ⟨hc24, h⟩
 · refine awp_reg fun K Q hK hQ => ?_
   simp -implicitDefEqProofs (disch := first | omega | rfl) only [go_sem, simprocAttr, zr8_14, eq_true hc24]
   first | refine hK _ _ ?_ | (refine ⟨by assumption, ?_⟩; refine hK _ _ ?_)
   clear hK hQ K Q
   repeat refine awp_seq ?_
   refine awp_then (by rfl) ?_
   repeat refine awp_seq ?_
   refine rg (h := ?_)
   obtain rfl := som_inj h
   repeat refine awp_seq ?_
   refine awp_ret ?_
   repeat first | refine then_ret ?_ | refine blk_ret ?_
   exact rtp
 refine awp_reg fun K Q hK hQ => ?_
 simp -implicitDefEqProofs (disch := first | omega | rfl) only [go_sem, simprocAttr, zr8_14, eq_false hc24]
 first | refine hK _ _ ?_ | (refine ⟨by assumption, ?_⟩; refine hK _ _ ?_)
 clear hK hQ K Q
 rcases ite_some h with ⟨hc25, h⟩ | ⟨hc25, h⟩
 · repeat refine awp_seq ?_
   refine awp_else (by simp -implicitDefEqProofs (disch := first | omega | rfl) only [go_sem, simprocAttr, eq_true hc25]) ?_
   repeat refine awp_seq ?_
   refine awp_skip ?_
   repeat refine awp_seq ?_
   refine rg (h := ?_)
   repeat refine awp_seq ?_
   refine awp_block ?_
   obtain ⟨o27, ho27, hO27⟩ := bnd_some h
   repeat refine awp_seq ?_
   refine awp_loop (ι := {p : Nat × Int // iter (fun p => s8_b1 N p3 p4 l11 x14 x21 p) p.1 p.2 = some o27}) (fun p => [(2, .str p3), (3, .str p4), (9, .bool x1), (10, .ptr 10 b10 0), (11, .str x14), (14, .ptr 14 b23 0), (16, .int .i64 p.1.2)]) (fun p => (10, b10, .cells ([.int .i64 13, .str [116], .int .i64 0, .str [], .str [], .int .i64 0, .int .i64 0, .int .i64 0, .bool false, .str [], .int .i64 0, .bool false, .str [], .nil, .str [], .str [], .int .i64 0, .int .i64 0, .str [], .str [], .bool false, .str [], .str [], .bool false, .bool false, .bool false, .bool false, .bool false, .bool false, .bool false, .nil, .sl (List.map AV.str ([[63, 114], [63, 97]])), .sl (List.map Item.av l11)])) :: (14, b23, .cells (Source.cs x21.1)) :: []) (fun p => p.1.1) ⟨⟨N, 0⟩, ho27⟩ ?_ ?_
   · refine ent_le' ([]) (_ :: _ :: []) (_ :: _ :: []) rfl (List.Perm.trans perm_cc (List.Perm.refl _)) ?_ ?_
     · simp -implicitDefEqProofs (disch := first | omega | rfl) only [go_sem, simprocAttr, subF_cons, subF_nil]
       exact ⟨(.keep _), (.keep _), (.keep _), (.lptr ..), (.keep _), (.lptr ..), (.keep _)⟩
     · exact (.cell (.cell .nil))
   rintro ⟨⟨n27, x26⟩, hi27⟩
   obtain ⟨m27, q27, rfl, h, hm27⟩ := iter_some hi27
   try dsimp only at h
   try dsimp only
   unfold s8_b1 at h
   repeat refine awp_seq ?_
   refine rg (h := ?_)
   rcases ite_some h with ⟨hc28, h⟩ | ⟨hc28, h⟩
   · repeat refine awp_seq ?_
     refine awp_then (by simp -implicitDefEqProofs (disch := first | omega | rfl) only [go_sem, simprocAttr, eq_true hc28]) ?_
     repeat refine awp_seq ?_
     refine awp_skip ?_
     repeat refine awp_seq ?_
     refine awp_block ?_
     repeat refine awp_seq ?_
     refine awp_reg fun K Q hK hQ => ?_
     obtain ⟨hg29, h⟩ := grd_some h
     simp -implicitDefEqProofs (disch := first | omega | rfl) only [go_sem, simprocAttr, zr8_18, eq_true hc28, eq_true hg29]
     intro b30
     refine hK _ _ ?_; clear hK hQ K Q
     repeat refine awp_seq ?_
     refine awp_regD' (_ :: _ :: _ :: []) ([]) (_ :: _ :: _ :: []) (by rw [hP]; exact mixed) rfl (List.Perm.refl _) fun K hK => ?_
     obtain ⟨hg31, h⟩ := grd_some h
     rcases ite_some h with ⟨hc32, h⟩ | ⟨hc32, h⟩
     · obtain ⟨⟨hg33, hg34⟩, h⟩ := grd_some h
       obtain ⟨hg35, h⟩ := grd_some h
       simp only [List.length_drop, List.cons_append, List.nil_append] at hg35
       rcases ite_some h with ⟨hc36, h⟩ | ⟨hc36, h⟩
       · simp only [List.length_drop, List.cons_append, List.nil_append] at hc36
         rcases ite_some h with ⟨hc37, h⟩ | ⟨hc37, h⟩
         · rcases ite_some h with ⟨hc38, h⟩ | ⟨hc38, h⟩
           · rcases ite_some h with ⟨hc39, h⟩ | ⟨hc39, h⟩
             · rcases ite_some h with ⟨hc40, h⟩ | ⟨hc40, h⟩
               · rcases cnd_some h with ⟨hc41, h⟩ | ⟨hc41, h⟩
                 · rcases ite_some h with ⟨hc42, h⟩ | ⟨hc42, h⟩
                   · simp -implicitDefEqProofs (disch := first | omega | rfl) only [go_sem, simprocAttr, zr8_19, eq_true hg29, eq_true hg31, eq_true hc32, eq_true hg33, eq_true hg34, eq_true hg35, eq_true hc36, eq_true hc37, eq_true hc38, eq_true hc39, eq_true hc40, hc41, eq_true hc42]
                     refine hK _ _ ?_; clear hK K
                     rcases ite_some h with ⟨hc43, h⟩ | ⟨hc43, h⟩
                     · repeat refine awp_seq ?_
                       refine awp_else (by simp -implicitDefEqProofs (disch := first | omega | rfl) only [go_sem, simprocAttr, eq_true hc43]) ?_
                       repeat refine awp_seq ?_
                       refine awp_skip ?_
                       repeat refine awp_seq ?_
                       refine awp_regD' (_ :: _ :: _ :: []) ([]) (_ :: _ :: _ :: []) (by rw [hP]; exact mixed) rfl (List.Perm.refl _) fun K hK => ?_
                       rcases ite_some h with ⟨hc44, h⟩ | ⟨hc44, h⟩
                       · obtain ⟨hg45, h⟩ := grd_some h
                         obtain ⟨⟨hg46, hg47, hg48⟩, h⟩ := grd_some h
                         obtain ⟨hg49, h⟩ := grd_some h
                         simp only [List.length_drop, List.cons_append, List.nil_append] at hg49
                         rcases cnd_some h with ⟨hc50, h⟩ | ⟨hc50, h⟩
                         · simp only [List.length_drop, List.cons_append, List.nil_append] at hc50
                           obtain ⟨hg51, h⟩ := grd_some h
                           simp -implicitDefEqProofs (disch := first | omega | rfl) only [go_sem, simprocAttr, zr8_21, Named.cs_eq, eq_true hc44, eq_true hg45, eq_true hg46, eq_true hg47, eq_true hg48, eq_true hg49, hc50, eq_true hg51]
                           refine hK _ _ ?_; clear hK K
                           rcases cnd_some h with ⟨hc52, h⟩ | ⟨hc52, h⟩
                           · repeat refine awp_seq ?_
                             refine awp_else (by simp -implicitDefEqProofs (disch := first | omega | rfl) only [go_sem, simprocAttr, hc52]) ?_
                             repeat refine awp_seq ?_
                             refine awp_skip ?_
                             repeat refine awp_seq ?_
                             refine rg (h := ?_)
                             obtain rfl := som_inj h
                             try dsimp only at hm27
                             refine ⟨⟨⟨m27, IntKind.wrap .i64 (x26 + 1)⟩, hm27⟩, Nat.lt_succ_self _, ?_⟩
                             refine ent_le' ([]) (_ :: _ :: _ :: []) (_ :: _ :: _ :: []) rfl (List.Perm.trans perm_cc ((List.Perm.cons _ (List.Perm.trans perm_cc (List.Perm.refl _))))) ?_ ?_
                             · simp -implicitDefEqProofs (disch := first | omega | rfl) only [go_sem, simprocAttr, subF_cons, subF_nil]
                               exact ⟨(.keep _), (.keep _), (.keep _), (.lptr ..), (.keep _), (.lptr ..), (.keep _)⟩
                             · exact (.cell (.cell (.drop .nil)))
                           repeat refine awp_seq ?_
                           refine awp_then (by simp -implicitDefEqProofs (disch := first | omega | rfl) only [go_sem, simprocAttr, hc52]) ?_
                           repeat refine awp_seq ?_
                           refine rg (h := ?_)
                           obtain rfl := som_inj h
                           try dsimp only at hm27
                           subst hm27
                           simp only [Ou.on_ret] at hO27
                           obtain rfl := som_inj hO27
                           repeat refine awp_seq ?_
                           refine awp_ret ?_
                           repeat first | refine then_ret ?_ | refine blk_ret ?_
                           exact rtp
                         simp only [List.length_drop, List.cons_append, List.nil_append] at hc50
                         simp -implicitDefEqProofs (disch := first | omega | rfl) only [go_sem, simprocAttr, zr8_21, Named.cs_eq, eq_true hc44, eq_true hg45, eq_true hg46, eq_true hg47, eq_true hg48, eq_true hg49, hc50]
                         refine hK _ _ ?_; clear hK K
                         repeat refine awp_seq ?_
                         refine awp_then (by rfl) ?_
                         repeat refine awp_seq ?_
                         refine rg (h := ?_)
                         obtain rfl := som_inj h
                         try dsimp only at hm27
                         subst hm27
                         simp only [Ou.on_ret] at hO27
                         obtain rfl := som_inj hO27
                         repeat refine awp_seq ?_
                         refine awp_ret ?_
                         repeat first | refine then_ret ?_ | refine blk_ret ?_
                         exact rtp
                       simp -implicitDefEqProofs (disch := first | omega | rfl) only [go_sem, simprocAttr, zr8_21, Named.cs_eq, eq_false hc44]
                       refine hK _ _ ?_; clear hK K
                       repeat refine awp_seq ?_
                       refine awp_else (by rfl) ?_
                       repeat refine awp_seq ?_
                       refine awp_skip ?_
                       repeat refine awp_seq ?_
                       refine rg (h := ?_)
                       obtain rfl := som_inj h
                       try dsimp only at hm27
                       refine ⟨⟨⟨m27, IntKind.wrap .i64 (x26 + 1)⟩, hm27⟩, Nat.lt_succ_self _, ?_⟩
                       refine ent_le' ([]) (_ :: _ :: _ :: []) (_ :: _ :: _ :: []) rfl (List.Perm.trans perm_cc ((List.Perm.cons _ (List.Perm.trans perm_cc (List.Perm.refl _))))) ?_ ?_
                       · simp -implicitDefEqProofs (disch := first | omega | rfl) only [go_sem, simprocAttr, subF_cons, subF_nil]
                         exact ⟨(.keep _), (.keep _), (.keep _), (.lptr ..), (.keep _), (.lptr ..), (.keep _)⟩
                       · exact (.cell (.cell (.drop .nil)))
                     repeat refine awp_seq ?_
                     refine awp_then (by simp -implicitDefEqProofs (disch := first | omega | rfl) only [go_sem, simprocAttr, eq_false hc43]) ?_
                     repeat refine awp_seq ?_
                     refine rg (h := ?_)
                     obtain rfl := som_inj h
                     try dsimp only at hm27
                     subst hm27
                     simp only [Ou.on_ret] at hO27
                     obtain rfl := som_inj hO27
                     repeat refine awp_seq ?_
                     refine awp_ret ?_
                     repeat first | refine then_ret ?_ | refine blk_ret ?_
                     exact rtp
                   simp -implicitDefEqProofs (disch := first | omega | rfl) only [go_sem, simprocAttr, zr8_19, eq_true hg29, eq_true hg31, eq_true hc32, eq_true hg33, eq_true hg34, eq_true hg35, eq_true hc36, eq_true hc37, eq_true hc38, eq_true hc39, eq_true hc40, hc41, eq_false hc42]
                   refine hK _ _ ?_; clear hK K
                   repeat refine awp_seq ?_
                   refine awp_then (by rfl) ?_
                   repeat refine awp_seq ?_
                   refine rg (h := ?_)
                   obtain rfl := som_inj h
                   try dsimp only at hm27
                   subst hm27
                   simp only [Ou.on_ret] at hO27
                   obtain rfl := som_inj hO27
                   repeat refine awp_seq ?_
                   refine awp_ret ?_
                   repeat first | refine then_ret ?_ | refine blk_ret ?_
                   exact rtp
                 simp -implicitDefEqProofs (disch := first | omega | rfl) only [go_sem, simprocAttr, zr8_19, eq_true hg29, eq_true hg31, eq_true hc32, eq_true hg33, eq_true hg34, eq_true hg35, eq_true hc36, eq_true hc37, eq_true hc38, eq_true hc39, eq_true hc40, hc41]
                 refine hK _ _ ?_; clear hK K
                 repeat refine awp_seq ?_
                 refine awp_then (by rfl) ?_
                 repeat refine awp_seq ?_
                 refine rg (h := ?_)
                 obtain rfl := som_inj h
                 try dsimp only at hm27
                 subst hm27
                 simp only [Ou.on_ret] at hO27
                 obtain rfl := som_inj hO27
                 repeat refine awp_seq ?_
                 refine awp_ret ?_
                 repeat first | refine then_ret ?_ | refine blk_ret ?_
                 exact rtp
               simp -implicitDefEqProofs (disch := first | omega | rfl) only [go_sem, simprocAttr, zr8_19, eq_true hg29, eq_true hg31, eq_true hc32, eq_true hg33, eq_true hg34, eq_true hg35, eq_true hc36, eq_true hc37, eq_true hc38, eq_true hc39, eq_false hc40]
               refine hK _ _ ?_; clear hK K
               repeat refine awp_seq ?_
               refine awp_then (by rfl) ?_
               repeat refine awp_seq ?_
               refine rg (h := ?_)
               obtain rfl := som_inj h
               try dsimp only at hm27
               subst hm27
               simp only [Ou.on_ret] at hO27
               obtain rfl := som_inj hO27
               repeat refine awp_seq ?_
               refine awp_ret ?_
               repeat first | refine then_ret ?_ | refine blk_ret ?_
               exact rtp
             simp -implicitDefEqProofs (disch := first | omega | rfl) only [go_sem, simprocAttr, zr8_19, eq_true hg29, eq_true hg31, eq_true hc32, eq_true hg33, eq_true hg34, eq_true hg35, eq_true hc36, eq_true hc37, eq_true hc38, eq_false hc39]
             refine hK _ _ ?_; clear hK K
             repeat refine awp_seq ?_
             refine awp_then (by rfl) ?_
             repeat refine awp_seq ?_
             refine rg (h := ?_)
             obtain rfl := som_inj h
             try dsimp only at hm27
             subst hm27
             simp only [Ou.on_ret] at hO27
             obtain rfl := som_inj hO27
             repeat refine awp_seq ?_
             refine awp_ret ?_
             repeat first | refine then_ret ?_ | refine blk_ret ?_
             exact rtp
           simp -implicitDefEqProofs (disch := first | omega | rfl) only [go_sem, simprocAttr, zr8_19, eq_true hg29, eq_true hg31, eq_true hc32, eq_true hg33, eq_true hg34, eq_true hg35, eq_true hc36, eq_true hc37, eq_false hc38]
           refine hK _ _ ?_; clear hK K
           repeat refine awp_seq ?_
           refine awp_then (by rfl) ?_
           repeat refine awp_seq ?_
           refine rg (h := ?_)
           obtain rfl := som_inj h
           try dsimp only at hm27
           subst hm27
           simp only [Ou.on_ret] at hO27
           obtain rfl := som_inj hO27
           repeat refine awp_seq ?_
           refine awp_ret ?_
           repeat first | refine then_ret ?_ | refine blk_ret ?_
           exact rtp
         simp -implicitDefEqProofs (disch := first | omega | rfl) only [go_sem, simprocAttr, zr8_19, eq_true hg29, eq_true hg31, eq_true hc32, eq_true hg33, eq_true hg34, eq_true hg35, eq_true hc36, eq_false hc37]
         refine hK _ _ ?_; clear hK K
         repeat refine awp_seq ?_
         refine awp_then (by rfl) ?_
         repeat refine awp_seq ?_
         refine rg (h := ?_)
         obtain rfl := som_inj h
         try dsimp only at hm27
         subst hm27
         simp only [Ou.on_ret] at hO27
         obtain rfl := som_inj hO27
         repeat refine awp_seq ?_
         refine awp_ret ?_
         repeat first | refine then_ret ?_ | refine blk_ret ?_
         exact rtp
       simp only [List.length_drop, List.cons_append, List.nil_append] at hc36
       simp -implicitDefEqProofs (disch := first | omega | rfl) only [go_sem, simprocAttr, zr8_19, eq_true hg29, eq_true hg31, eq_true hc32, eq_true hg33, eq_true hg34, eq_true hg35, eq_false hc36]
       refine hK _ _ ?_; clear hK K
       repeat refine awp_seq ?_
       refine awp_then (by rfl) ?_
       repeat refine awp_seq ?_
       refine rg (h := ?_)
       obtain rfl := som_inj h
       try dsimp only at hm27
       subst hm27
       simp only [Ou.on_ret] at hO27
       obtain rfl := som_inj hO27
       repeat refine awp_seq ?_
       refine awp_ret ?_
       repeat first | refine then_ret ?_ | refine blk_ret ?_
       exact rtp
     simp -implicitDefEqProofs (disch := first | omega | rfl) only [go_sem, simprocAttr, zr8_19, eq_true hg29, eq_true hg31, eq_false hc32]
     refine hK _ _ ?_; clear hK K
     repeat refine awp_seq ?_
     refine awp_then (by rfl) ?_
     repeat refine awp_seq ?_
     refine rg (h := ?_)
     obtain rfl := som_inj h
     try dsimp only at hm27
     subst hm27
     simp only [Ou.on_ret] at hO27
     obtain rfl := som_inj hO27
     repeat refine awp_seq ?_
     refine awp_ret ?_
     repeat first | refine then_ret ?_ | refine blk_ret ?_
     exact rtp
   repeat refine awp_seq ?_
   refine awp_else (by simp -implicitDefEqProofs (disch := first | omega | rfl) only [go_sem, simprocAttr, eq_false hc28]) ?_
   repeat refine awp_seq ?_
   refine awp_exit ?_
   repeat' (first | refine then_exit ?_ | refine exit_here ?_ | refine exit_on rfl ?_)
   obtain rfl := som_inj h
   try dsimp only at hm27
   subst hm27
   simp only [Ou.on_brk] at hO27
   repeat refine awp_seq ?_
   refine rg (h := ?_)
   obtain rfl := som_inj hO27
   repeat refine awp_seq ?_
   refine awp_ret ?_
   repeat first | refine then_ret ?_ | refine blk_ret ?_
   exact rtp
 repeat refine awp_seq ?_
 refine awp_then (by simp -implicitDefEqProofs (disch := first | omega | rfl) only [go_sem, simprocAttr, eq_false hc25]) ?_
 repeat refine awp_seq ?_
 refine rg (h := ?_)
 obtain rfl := som_inj h
 repeat refine awp_seq ?_
 refine awp_ret ?_
 repeat first | refine then_ret ?_ | refine blk_ret ?_
 exact rtp
end Go.Proofs.Inc
namespace Go.Aw
theorem wr {n : Int} (h1 : -9223372036854775808 ≤ n) (h2 : n ≤ 9223372036854775807) : IntKind.wrap .i64 n = n := w64 h1 h2
theorem wr_succ {i : Nat} (h : i < 9223372036854775807) : IntKind.wrap .i64 ((i : Int) + 1) = ((i + 1 : Nat) : Int) := by
  rw [wr (by omega) (by omega)]
  omega
section
variable {α σ ρ τ : Type}
def runL (f : Nat → σ → α → σ ⊕ ρ) (fin : σ → ρ) : Nat → σ → List α → ρ
  | _, s, [] => fin s
  | i, s, a :: l => match f i s a with | .inl s' => runL f fin (i + 1) s' l | .inr r => r
theorem iter_step {body : τ → Option (τ ⊕ ρ)} {N : Nat} {s s' : τ} (h : body s = some (.inl s')) : iter body (N + 1) s = iter body N s' := by
  rw [iter, h]; rfl
theorem iter_end {body : τ → Option (τ ⊕ ρ)} {N : Nat} {s : τ} {r : ρ} (h : body s = some (.inr r)) : iter body (N + 1) s = some r := by
  rw [iter, h]; rfl
theorem iter_from {body : τ → Option (τ ⊕ ρ)} (mk : σ → Int → τ) (f : Nat → σ → α → σ ⊕ ρ) (fin : σ → ρ) (Inv : Nat → σ → Prop) (L : Nat) :
    ∀ (l : List α) (i : Nat), i + l.length = L →
    (∀ (j : Nat) s a, l[j]? = some a → Inv (i + j) s → (body (mk s ((i + j : Nat) : Int)) = some (match f (i + j) s a with | .inl s' => .inl (mk s' ((i + j + 1 : Nat) : Int)) | .inr r => .inr r)) ∧ ∀ s', f (i + j) s a = .inl s' → Inv (i + j + 1) s') →
    (∀ s, Inv L s → body (mk s (L : Int)) = some (.inr (fin s))) → ∀ {N : Nat}, l.length < N → ∀ {s0 : σ}, Inv i s0 → iter body N (mk s0 (i : Int)) = some (runL f fin i s0 l)
  | [], i, hL, _, he, N, hN, s0, h0 => by
    obtain ⟨M, rfl⟩ : ∃ M, N = M + 1 := ⟨N - 1, by simp at hN; omega⟩
    simp only [List.length_nil, Nat.add_zero] at hL
    subst hL
    exact iter_end (he s0 h0)
  | a :: l, i, hL, hb, he, N, hN, s0, h0 => by
    obtain ⟨M, rfl⟩ : ∃ M, N = M + 1 := ⟨N - 1, by simp at hN; omega⟩
    obtain ⟨h1, h2⟩ := hb 0 s0 a rfl h0
    simp only [Nat.add_zero] at h1 h2
    rw [runL]
    cases hf : f i s0 a with
    | inl s' =>
      rw [hf] at h1
      rw [iter_step h1]
      refine iter_from mk f fin Inv L l (i + 1) (by simp only [List.length_cons] at hL; omega) (fun j s b hj hs => ?_) he (by simp only [List.length_cons] at hN; omega) (h2 s' hf)
      have := hb (j + 1) s b (by simpa using hj) (by rw [show i + (j + 1) = i + 1 + j by omega]; exact hs)
      rw [show i + (j + 1) = i + 1 + j by omega] at this
      exact this
    | inr r =>
      rw [hf] at h1
      exact iter_end h1
theorem iter_list {body : τ → Option (τ ⊕ ρ)} (mk : σ → Int → τ) (s0 : σ) (l : List α) (f : Nat → σ → α → σ ⊕ ρ) (fin : σ → ρ) (Inv : Nat → σ → Prop)
    (hb : ∀ (i : Nat) s a, l[i]? = some a → Inv i s → (body (mk s (i : Int)) = some (match f i s a with | .inl s' => .inl (mk s' ((i + 1 : Nat) : Int)) | .inr r => .inr r)) ∧ ∀ s', f i s a = .inl s' → Inv (i + 1) s')
    (he : ∀ s, Inv l.length s → body (mk s (l.length : Int)) = some (.inr (fin s))) {N : Nat} (hN : l.length < N) (h0 : Inv 0 s0) : iter body N (mk s0 0) = some (runL f fin 0 s0 l) := by
  have := iter_from (body := body) mk f fin Inv l.length l 0 (by simp) (fun j s a hj hs => by
    have := hb j s a hj (by simpa using hs)
    simpa using this) he hN h0
  simpa using this
theorem runL_fold {g : σ → α → σ} {fin : σ → ρ} : ∀ (l : List α) (i : Nat) (s : σ), runL (fun _ s a => .inl (g s a)) fin i s l = fin (l.foldl g s)
  | [], _, _ => rfl
  | a :: l, i, s => by rw [runL]; exact runL_fold l (i + 1) (g s a)
end
theorem getI {α : Type} [Inhabited α] {l : List α} {i : Nat} {a : α} (h : l[i]? = some a) : l[i]! = a ∧ i < l.length := by
  obtain ⟨h1, h2⟩ := List.getElem?_eq_some_iff.1 h
  exact ⟨by rw [getElem!_pos l i h1, h2], h1⟩
theorem toNat_nat {i : Nat} : ((i : Int)).toNat = i := rfl
end Go.Aw
namespace Go.Proofs.Inc
open Go.Aw
mutual
def isz : Item → Nat
  | ⟨_, _, _, _, _, _, _, _, _, _, _, _, _, _, _, _, _, _, _, _, _, l⟩ => 1 + iszl l
def iszl : List Item → Nat
  | [] => 0
  | x :: l => isz x + iszl l
end
theorem isz_eq (x : Item) : isz x = 1 + iszl x.Items := by cases x; rw [isz]
theorem iszl_nil : iszl [] = 0 := by rw [iszl]
theorem iszl_cons (x : Item) (l : List Item) : iszl (x :: l) = 1 + iszl x.Items + iszl l := by rw [iszl, isz_eq]
theorem iszl_len (l : List Item) : l.length ≤ iszl l := by
  induction l with
  | nil => simp
  | cons x l ih => rw [iszl_cons, List.length_cons]; omega
theorem iszl_mem {x : Item} {l : List Item} (h : x ∈ l) : 1 + iszl x.Items ≤ iszl l := by
  induction l with
  | nil => cases h
  | cons y l ih =>
    rw [iszl_cons]
    rcases List.mem_cons.1 h with rfl | h
    · omega
    · have := ih h; omega
abbrev Lim (f : List Item → Int → Option Int) (l : List Item) (lim : Nat) : Prop :=
  ∃ t : Nat, f l (lim : Int) = some (t : Int) ∧ t ≤ iszl l ∧ (iszl l ≤ lim → t = iszl l) ∧ (lim < iszl l → lim < t)
theorem s24_loop (N : Nat) (l : List Item) (lim : Nat) (hl : lim ≤ 1099511627776) (hs : iszl l ≤ 1099511627776) (ih : ∀ x, x ∈ l → ∀ k, k ≤ lim → Lim (s24 N) x.Items k) :
    ∀ (l' : List Item) (i n : Nat), l.drop i = l' → n ≤ lim → n + iszl l' ≤ iszl l → ∀ M, l'.length < M →
      ∃ t : Nat, iter (fun p => s24_b1 N l lim (s24 N) p.1 p.2) M ((n : Int), (i : Int)) = some (t : Int) ∧ t ≤ n + iszl l' ∧ (n + iszl l' ≤ lim → t = n + iszl l') ∧ (lim < n + iszl l' → lim < t)
  | [], i, n, hd, hn, hsz, M, hM => by
    obtain ⟨M, rfl⟩ : ∃ k, M = k + 1 := ⟨M - 1, by simp at hM; omega⟩
    have hi : l.length ≤ i := List.drop_eq_nil_iff.1 hd
    refine ⟨n, iter_end ?_, by simp [iszl_nil], by simp [iszl_nil], by simp [iszl_nil]; try omega⟩
    simp only [s24_b1]
    rw [if_neg (by omega)]
  | x :: l', i, n, hd, hn, hsz, M, hM => by
    obtain ⟨M, rfl⟩ : ∃ k, M = k + 1 := ⟨M - 1, by simp at hM; omega⟩
    have hi : l[i]? = some x := by rw [← List.head?_drop, hd]; rfl
    obtain ⟨hx, hlt⟩ := getI hi
    have hmem : x ∈ l := List.mem_of_getElem? hi
    obtain ⟨t, ht, h1, h2, h3⟩ := ih x hmem (lim - n) (by omega)
    have hm := iszl_mem hmem
    rw [iszl_cons] at hsz ⊢
    have hcast : ((lim : Int) - (n : Int)) = ((lim - n : Nat) : Int) := by omega
    have hb : s24_b1 N l lim (s24 N) (n : Int) (i : Int) = if (lim : Int) < ((n + 1 + t : Nat) : Int) then some (.inr ((n + 1 + t : Nat) : Int)) else some (.inl (((n + 1 + t : Nat) : Int), ((i + 1 : Nat) : Int))) := by
      simp only [s24_b1]
      have hlt2 : i + 1 ≤ iszl l := Nat.le_trans hlt (iszl_len l)
      rw [if_pos (by omega), grd_pos (by omega), toNat_nat, hx, hcast, wr (by omega) (by omega), ht]
      simp only [Option.bind_some]
      rw [wr (n := 1 + (t : Int)) (by omega) (by omega), wr (by omega) (by omega), wr_succ (by omega), show (n : Int) + (1 + (t : Int)) = ((n + 1 + t : Nat) : Int) by omega]
    by_cases hc : lim < n + 1 + t
    · refine ⟨n + 1 + t, iter_end (by simp only [hb]; rw [if_pos (by omega)]), by omega, by omega, by omega⟩
    · obtain ⟨t', e1, e2, e3, e4⟩ := s24_loop N l lim hl hs ih l' (i + 1) (n + 1 + t) (by rw [← List.drop_drop, hd]; rfl) (by omega) (by omega) M (by simp at hM; omega)
      refine ⟨t', by rw [iter_step (s' := (((n + 1 + t : Nat) : Int), ((i + 1 : Nat) : Int))) (by simp only [hb]; rw [if_neg (by omega)])]; exact e1, by omega, by omega, by omega⟩
theorem s24_lim : ∀ (N : Nat) (l : List Item) (lim : Nat), iszl l + 1 < N → lim ≤ 1099511627776 → iszl l ≤ 1099511627776 → Lim (s24 N) l lim
  | 0, l, lim, h, _, _ => by omega
  | N + 1, l, lim, h, hl, hs => by
    obtain ⟨t, e1, e2, e3, e4⟩ := s24_loop N l lim hl hs (fun x hx k hk => by
      have := iszl_mem hx
      exact s24_lim N x.Items k (by omega) (by omega) (by omega)) l 0 0 rfl (by omega) (by omega) N (by have := iszl_len l; omega)
    refine ⟨t, ?_, by omega, by omega, by omega⟩
    simp only [s24, s24_body]
    rw [show ((0 : Int), (0 : Int)) = (((0 : Nat) : Int), ((0 : Nat) : Int)) by rfl, e1]
    rfl
end Go.Proofs.Inc
namespace Go.Proofs.Inc
open Go.Aw
abbrev Str := List UInt8
def NB : Nat := 4194304
theorem runL_find {α ρ : Type} {p : α → Bool} {g : Nat → ρ} {y : ρ} : ∀ (l : List α) (i : Nat), runL (fun i (_ : Unit) a => if p a then .inr (g i) else .inl ()) (fun _ => y) i () l = match l.findIdx? p with | some j => g (i + j) | none => y
  | [], i => by simp [runL]
  | a :: l, i => by
    rw [runL, List.findIdx?_cons]
    cases hp : p a with
    | true => simp
    | false =>
      simp only [Bool.false_eq_true, if_false]
      rw [runL_find l (i + 1)]
      cases l.findIdx? p with
      | none => rfl
      | some j => simp only [Option.map_some]; rw [show i + 1 + j = i + (j + 1) by omega]
def find (l : List Str) (n : Str) : Option Nat := l.findIdx? (fun a => decide (n = a))
theorem find_lt {l : List Str} {n : Str} {i : Nat} (h : find l n = some i) : i < l.length := by
  unfold find at h
  exact (List.findIdx?_eq_some_iff_getElem.1 h).1
theorem s38_eq {N : Nat} {l : List Str} {n : Str} (hN : l.length < N) (hl : l.length ≤ NB) : s38 N l n = some (match find l n with | some i => (i : Int) | none => -1) := by
  have hb : iter (fun p => s38_b1 N l n p) N 0 = some _ := iter_list (fun (_ : Unit) i => i) () l (fun i _ a => if decide (n = a) then .inr (.ret (i : Int)) else .inl ()) (fun _ => .brk ()) (fun _ _ => True) (fun i s a hi _ => by
    obtain ⟨ha, hlt⟩ := getI hi
    refine ⟨?_, fun _ _ => trivial⟩
    simp only [s38_b1, NB] at *
    rw [if_pos (by omega), grd_pos (by omega), toNat_nat, ha, wr_succ (by omega)]
    by_cases h : n = a <;> simp [h]) (fun s _ => by
    simp only [s38_b1]
    rw [if_neg (by omega)]) hN trivial
  simp only [s38]
  rw [hb, runL_find]
  simp only [Option.bind_some, find]
  cases l.findIdx? (fun a => decide (n = a)) with
  | none => rfl
  | some j => simp [Ou.on]
theorem s33_eq {N : Nat} {l : List Str} {n : Str} (hN : l.length < N) (hl : l.length ≤ NB) : s33 N l n = some (find l n).isSome := by
  simp only [s33]
  rw [s38_eq hN hl]
  cases find l n <;> simp
def hit (l : List Str) (s : Str) : Bool := decide (s ≠ []) && (find l s).isSome
def rep (l args : List Str) (s : Str) : Str := if s = [] then s else match find l s with | some i => args[i]! | none => s
theorem rep_miss {l args : List Str} {s : Str} (h : hit l s = false) : rep l args s = s := by
  unfold hit at h
  unfold rep
  by_cases hs : s = []
  · simp [hs]
  · rw [if_neg hs]
    cases hf : find l s with
    | none => rfl
    | some i => simp [hs, hf] at h
theorem rep_gen {β : Type} {N : Nat} {l args : List Str} (s : Str) (x : β) (F : Str → β) (hN : l.length < N) (hl : l.length ≤ NB) (ha : l.length = args.length) (hF : F s = x) :
    ((s38 N l s).bind fun x1 => if s = [] then some (false, x) else if x1 < 0 then some (false, x) else grd (0 ≤ x1 ∧ x1 < (List.length args : Int)) (some (true, F (args[x1.toNat]!)))) = some (hit l s, F (rep l args s)) := by
  rw [s38_eq hN hl]
  simp only [Option.bind_some, hit, rep]
  by_cases hs : s = []
  · simp [hs, ← hF]
  · rw [if_neg hs, if_neg hs]
    cases hf : find l s with
    | none => simp [hs, hF]
    | some i =>
      have := find_lt hf
      simp only [hs]
      rw [if_neg (by omega), grd_pos (by omega), toNat_nat]
      simp [hs]
theorem s39_1e {N : Nat} {t u y : Item} (hN : t.Names.length < N) (hl : t.Names.length ≤ NB) (ha : t.Names.length = u.Names.length) : s39 N y t u = some (hit t.Names y.Of, { y with Of := rep t.Names u.Names y.Of }) := rep_gen y.Of y (fun v => { y with Of := v }) hN hl ha (by cases y; rfl)
theorem s39_2e {N : Nat} {t u y : Item} (hN : t.Names.length < N) (hl : t.Names.length ≤ NB) (ha : t.Names.length = u.Names.length) : s39_2 N y t u = some (hit t.Names y.Act, { y with Act := rep t.Names u.Names y.Act }) := rep_gen y.Act y (fun v => { y with Act := v }) hN hl ha (by cases y; rfl)
theorem s39_3e {N : Nat} {t u y : Item} (hN : t.Names.length < N) (hl : t.Names.length ≤ NB) (ha : t.Names.length = u.Names.length) : s39_3 N y t u = some (hit t.Names y.By, { y with By := rep t.Names u.Names y.By }) := rep_gen y.By y (fun v => { y with By := v }) hN hl ha (by cases y; rfl)
theorem s39_4e {N : Nat} {t u y : Item} (hN : t.Names.length < N) (hl : t.Names.length ≤ NB) (ha : t.Names.length = u.Names.length) : s39_4 N y t u = some (hit t.Names y.Until, { y with Until := rep t.Names u.Names y.Until }) := rep_gen y.Until y (fun v => { y with Until := v }) hN hl ha (by cases y; rfl)
theorem s39_5e {N : Nat} {t u y : Item} (hN : t.Names.length < N) (hl : t.Names.length ≤ NB) (ha : t.Names.length = u.Names.length) : s39_5 N y t u = some (hit t.Names y.Unit, { y with Unit := rep t.Names u.Names y.Unit }) := rep_gen y.Unit y (fun v => { y with Unit := v }) hN hl ha (by cases y; rfl)
theorem s39_6e {N : Nat} {t u y : Item} (hN : t.Names.length < N) (hl : t.Names.length ≤ NB) (ha : t.Names.length = u.Names.length) : s39_6 N y t u = some (hit t.Names y.Sum, { y with Sum := rep t.Names u.Names y.Sum }) := rep_gen y.Sum y (fun v => { y with Sum := v }) hN hl ha (by cases y; rfl)
theorem s39_7e {N : Nat} {t u y : Item} (hN : t.Names.length < N) (hl : t.Names.length ≤ NB) (ha : t.Names.length = u.Names.length) : s39_7 N y t u = some (hit t.Names y.To, { y with To := rep t.Names u.Names y.To }) := rep_gen y.To y (fun v => { y with To := v }) hN hl ha (by cases y; rfl)
theorem s39_8e {N : Nat} {t u y : Item} (hN : t.Names.length < N) (hl : t.Names.length ≤ NB) (ha : t.Names.length = u.Names.length) : s39_8 N y t u = some (hit t.Names y.Within.Name, { y with Within := { y.Within with Name := rep t.Names u.Names y.Within.Name } }) := rep_gen y.Within.Name y (fun v => { y with Within := { y.Within with Name := v } }) hN hl ha (by cases y; rfl)
theorem s39_9e {N : Nat} {t u y : Item} (hN : t.Names.length < N) (hl : t.Names.length ≤ NB) (ha : t.Names.length = u.Names.length) : s39_9 N y t u = some (hit t.Names y.Grace.Name, { y with Grace := { y.Grace with Name := rep t.Names u.Names y.Grace.Name } }) := rep_gen y.Grace.Name y (fun v => { y with Grace := { y.Grace with Name := v } }) hN hl ha (by cases y; rfl)
theorem s39_10e {N : Nat} {t u : Item} (hN : t.Names.length < N) (hl : t.Names.length ≤ NB) (ha : t.Names.length = u.Names.length) {l : List Named} {i : Nat} (hi : i < l.length) : s39_10 N l i t u = some (hit t.Names (l[i]!).Name, l.set i { l[i]! with Name := rep t.Names u.Names (l[i]!).Name }) := by
  refine rep_gen (l[i]!).Name l (fun v => l.set i { l[i]! with Name := v }) hN hl ha ?_
  show l.set i l[i]! = l
  rw [getElem!_pos l i hi, List.set_getElem_self]
theorem s39_11e {N : Nat} {t u : Item} (hN : t.Names.length < N) (hl : t.Names.length ≤ NB) (ha : t.Names.length = u.Names.length) {l : List Str} {i : Nat} (hi : i < l.length) : s39_11 N l i t u = some (hit t.Names (l[i]!), l.set i (rep t.Names u.Names (l[i]!))) := by
  refine rep_gen (l[i]!) l (fun v => l.set i v) hN hl ha ?_
  rw [getElem!_pos l i hi, List.set_getElem_self]
def clause (k : Int) : Bool := decide (9 ≤ k ∧ k ≤ 12)
theorem s35_eq {N : Nat} {k : Int} : s35 N k = some (clause k) := by
  simp only [s35, clause]
  by_cases h : 9 ≤ k <;> simp [h]
def defines (k : Int) : Bool := decide (k = 13 ∨ k = 6 ∨ k = 7)
end Go.Proofs.Inc
namespace Go.Proofs.Inc
open Go.Aw
theorem indexByte_lt (c : UInt8) : ∀ (l : List UInt8), -1 ≤ Lib.indexByte l c ∧ Lib.indexByte l c < (l.length : Int)
  | [] => by simp [Lib.indexByte]
  | b :: l => by
    have := indexByte_lt c l
    simp only [Lib.indexByte, List.length_cons]
    split
    · omega
    · split
      · omega
      · rename_i h; simp at h; omega
def cutd (n : Str) : Str × Str × Bool := if 0 ≤ Lib.indexByte n 46 then (n.take (Lib.indexByte n 46).toNat, n.drop (Lib.indexByte n 46 + 1).toNat, true) else (n, [], false)
theorem s43_eq {N : Nat} {n : Str} (h : n.length ≤ 1099511627776) : s43 N n = some (cutd n) := by
  have := indexByte_lt 46 n
  simp only [s43, s46, Option.bind_some, cutd]
  by_cases h0 : 0 ≤ Lib.indexByte n 46
  · rw [if_pos h0, grd_pos (by omega), grd_pos ⟨by rw [wr (by omega) (by omega)]; omega, by rw [wr (by omega) (by omega)]; omega⟩, wr (by omega) (by omega), if_pos h0]
    rfl
  · rw [if_neg h0, if_neg h0]
    rfl
def means (n : Str) (y : Item) : Bool := (clause y.Kind && decide (y.Name = n)) || (decide (y.Kind = 14) && (cutd n).2.2 && decide (y.Name = (cutd n).1))
def loc (t : Item) (n : Str) : Bool := t.Items.any (means n)
theorem s45_eq {N : Nat} {y : Item} {n : Str} : s45 N y n (cutd n).2.2 (cutd n).1 = some (means n y) := by
  simp only [s45, s35_eq, Option.bind_some, means]
  cases clause y.Kind <;> cases (cutd n).2.2 <;> by_cases h1 : y.Name = n <;> by_cases h2 : y.Kind = 14 <;> simp [h1, h2]
theorem s41_eq {N : Nat} {t : Item} {n : Str} (hn : n.length ≤ 1099511627776) (hN : t.Items.length < N) (hl : t.Items.length ≤ NB) : s41 N t n = some (loc t n) := by
  have hb : iter (fun p => s47_b1 N t.Items n (cutd n).2.2 (cutd n).1 p) N 0 = some _ := iter_list (fun (_ : Unit) i => i) () t.Items (fun i _ a => if means n a then .inr (.ret (i : Int)) else .inl ()) (fun _ => .brk ()) (fun _ _ => True) (fun i s a hi _ => by
    obtain ⟨ha, hlt⟩ := getI hi
    refine ⟨?_, fun _ _ => trivial⟩
    simp only [s47_b1, NB] at *
    rw [if_pos (by omega), grd_pos (by omega), toNat_nat, ha, wr_succ (by omega), s45_eq]
    cases means n a <;> simp) (fun s _ => by
    simp only [s47_b1]
    rw [if_neg (by omega)]) hN trivial
  simp only [s41, s43_eq hn, Option.bind_some, s44, s47]
  rw [hb, runL_find]
  simp only [Option.bind_some, loc]
  have hany : t.Items.any (means n) = (t.Items.findIdx? (means n)).isSome := by rw [List.findIdx?_isSome]
  rw [hany]
  cases t.Items.findIdx? (means n) with
  | none => rfl
  | some j => simp [Ou.on]
theorem runL_set {α ρ : Type} {g : α → α} {fin : List α → ρ} : ∀ (l pre : List α), runL (fun i s (a : α) => .inl (s.set i (g a))) fin pre.length (pre ++ l) l = fin (pre ++ l.map g)
  | [], pre => by simp [runL]
  | a :: l, pre => by
    rw [runL]
    simp only [List.set_append_right pre.length (g a) (Nat.le_refl _), Nat.sub_self, List.set_cons_zero]
    have := runL_set (g := g) (fin := fin) l (pre ++ [g a])
    simpa using this
def MapInv {α : Type} (g : α → α) (l : List α) (i : Nat) (s : List α) : Prop := s = (l.take i).map g ++ l.drop i
theorem mapInv_get {α : Type} [Inhabited α] {g : α → α} {l s : List α} {i : Nat} {a : α} (h : l[i]? = some a) (hs : MapInv g l i s) : s[i]! = a ∧ s.length = l.length ∧ MapInv g l (i + 1) (s.set i (g a)) := by
  obtain ⟨h1, h2⟩ := List.getElem?_eq_some_iff.1 h
  unfold MapInv at hs ⊢
  subst hs
  have hlen : ((l.take i).map g).length = i := by simp; omega
  refine ⟨?_, by simp; omega, ?_⟩
  · rw [getElem!_pos _ i (by simp; omega), List.getElem_append_right (by omega)]
    simp only [hlen, List.getElem_drop]
    simp only [Nat.sub_self, Nat.add_zero]
    exact h2
  · rw [List.set_append_right _ _ (by omega), hlen, Nat.sub_self, List.drop_eq_getElem_cons h1, List.set_cons_zero, List.take_succ_eq_append_getElem h1, List.map_append]
    simp [h2]
def cnd (t u : Item) (c : Named) : Named := if hit t.Names c.Name then { c with Name := rep t.Names u.Names c.Name } else if loc t c.Name then { c with Name := (u.Name ++ [46]) ++ c.Name } else c
def inst (t u y : Item) : Item :=
  if clause y.Kind then { y with Of := rep t.Names u.Names y.Of, Act := rep t.Names u.Names y.Act, By := rep t.Names u.Names y.By, Until := rep t.Names u.Names y.Until, Unit := rep t.Names u.Names y.Unit, Sum := rep t.Names u.Names y.Sum, To := rep t.Names u.Names y.To, Within := { y.Within with Name := rep t.Names u.Names y.Within.Name }, Grace := { y.Grace with Name := rep t.Names u.Names y.Grace.Name }, Conds := y.Conds.map (cnd t u), Name := (u.Name ++ [46]) ++ y.Name, At := u.At }
  else if y.Kind = 14 then { y with Names := y.Names.map (rep t.Names u.Names), Name := (u.Name ++ [46]) ++ y.Name, At := u.At }
  else { y with Name := (u.Name ++ [46]) ++ y.Name, At := u.At }
structure Bd (y : Item) : Prop where
  name : y.Name.length ≤ 1099511627776
  conds : y.Conds.length ≤ NB
  cname : ∀ c, c ∈ y.Conds → c.Name.length ≤ 1099511627776
  names : y.Names.length ≤ NB
theorem s34_eq {N : Nat} {t u y : Item} (hN : NB < N) (hl : t.Names.length ≤ NB) (hti : t.Items.length ≤ NB) (ha : t.Names.length = u.Names.length) (hu : u.Name.length ≤ 1099511627776) (hy : Bd y) : s34 N t u y = some (inst t u y) := by
  have hN' : t.Names.length < N := by omega
  have hadd : ∀ (n : Str), n.length ≤ 1099511627776 → List.length (u.Name ++ [46]) + List.length n ≤ 9223372036854775807 := fun n hn => by simp; omega
  simp only [s34, s35_eq, Option.bind_some]
  cases hc : clause y.Kind with
  | true =>
    simp only [cond_true]
    obtain ⟨y1, e1⟩ : ∃ z : Item, z = { y with Of := rep t.Names u.Names y.Of } := ⟨_, rfl⟩
    rw [s39_1e hN' hl ha, ← e1]
    simp only [Option.bind_some]
    obtain ⟨y2, e2⟩ : ∃ z : Item, z = { y1 with Act := rep t.Names u.Names y1.Act } := ⟨_, rfl⟩
    rw [s39_2e hN' hl ha, ← e2]
    simp only [Option.bind_some]
    obtain ⟨y3, e3⟩ : ∃ z : Item, z = { y2 with By := rep t.Names u.Names y2.By } := ⟨_, rfl⟩
    rw [s39_3e hN' hl ha, ← e3]
    simp only [Option.bind_some]
    obtain ⟨y4, e4⟩ : ∃ z : Item, z = { y3 with Until := rep t.Names u.Names y3.Until } := ⟨_, rfl⟩
    rw [s39_4e hN' hl ha, ← e4]
    simp only [Option.bind_some]
    obtain ⟨y5, e5⟩ : ∃ z : Item, z = { y4 with Unit := rep t.Names u.Names y4.Unit } := ⟨_, rfl⟩
    rw [s39_5e hN' hl ha, ← e5]
    simp only [Option.bind_some]
    obtain ⟨y6, e6⟩ : ∃ z : Item, z = { y5 with Sum := rep t.Names u.Names y5.Sum } := ⟨_, rfl⟩
    rw [s39_6e hN' hl ha, ← e6]
    simp only [Option.bind_some]
    obtain ⟨y7, e7⟩ : ∃ z : Item, z = { y6 with To := rep t.Names u.Names y6.To } := ⟨_, rfl⟩
    rw [s39_7e hN' hl ha, ← e7]
    simp only [Option.bind_some]
    obtain ⟨y8, e8⟩ : ∃ z : Item, z = { y7 with Within := { y7.Within with Name := rep t.Names u.Names y7.Within.Name } } := ⟨_, rfl⟩
    rw [s39_8e hN' hl ha, ← e8]
    simp only [Option.bind_some]
    obtain ⟨y9, e9⟩ : ∃ z : Item, z = { y8 with Grace := { y8.Grace with Name := rep t.Names u.Names y8.Grace.Name } } := ⟨_, rfl⟩
    rw [s39_9e hN' hl ha, ← e9]
    simp only [Option.bind_some]
    have eC : y9.Conds = y.Conds := by rw [e9, e8, e7, e6, e5, e4, e3, e2, e1]
    simp only [s34_k2, s40, eC]
    have hcl := hy.conds
    rw [grd_pos (by unfold NB at hcl; omega)]
    simp only [Option.bind_some]
    have hb : iter (fun p => s34_b1 N t u y.Conds p.1 p.2) N (y.Conds, 0) = some _ := iter_list (fun (s : List Named) i => (s, i)) y.Conds y.Conds (fun i s a => .inl (s.set i (cnd t u a))) (fun s => s) (MapInv (cnd t u) y.Conds) (fun i s a hi hs => by
      obtain ⟨ha', hlt⟩ := getI hi
      obtain ⟨h1, h2, h3⟩ := mapInv_get hi hs
      refine ⟨?_, fun s' e => by cases e; exact h3⟩
      have hlen : i < s.length := by omega
      simp only [s34_b1, NB] at *
      rw [if_pos (by omega), grd_pos (by omega), toNat_nat, s39_10e (by omega) (by unfold NB; omega) ha hlen, h1, wr_succ (by omega)]
      simp only [Option.bind_some, cnd]
      have hname := hy.cname a (List.mem_of_getElem? hi)
      cases hh : hit t.Names a.Name with
      | true => simp
      | false =>
        have hset : (s.set i { a with Name := rep t.Names u.Names a.Name }) = s := by
          rw [rep_miss hh]
          have : s[i]! = a := h1
          rw [getElem!_pos s i hlen] at this
          rw [← this, List.set_getElem_self]
        have hset2 : s.set i a = s := by
          have : s[i]! = a := h1
          rw [getElem!_pos s i hlen] at this
          rw [← this, List.set_getElem_self]
        simp only [cond_false, hset, h1]
        rw [s41_eq (by omega) (by omega) (by unfold NB; omega)]
        simp only [Option.bind_some]
        cases hlo : loc t a.Name with
        | true =>
          simp only [cond_true]
          rw [grd_pos (by omega), grd_pos (hadd _ (by omega))]
          simp
        | false => simp [hset2]) (fun s hs => by
      simp only [s34_b1]
      rw [if_neg (by omega)]) (by omega) (by simp [MapInv])
    rw [hb]
    simp only [Option.bind_some]
    have eN : y9.Name = y.Name := by rw [e9, e8, e7, e6, e5, e4, e3, e2, e1]
    rw [grd_pos (by omega), eN, grd_pos (hadd _ hy.name)]
    have hrun := runL_set (g := cnd t u) (fin := fun s => s) y.Conds []
    simp only [List.nil_append, List.length_nil] at hrun
    rw [hrun]
    unfold inst
    rw [if_pos hc]
    subst e9 e8 e7 e6 e5 e4 e3 e2 e1
    rfl
  | false =>
    simp only [cond_false]
    by_cases h14 : y.Kind = 14
    · rw [if_pos h14]
      have hnl := hy.names
      simp only [s42]
      rw [grd_pos (by unfold NB at hnl; omega)]
      simp only [Option.bind_some]
      have hb : iter (fun p => s34_b3 N t u y.Names p.1 p.2) N (y.Names, 0) = some _ := iter_list (fun (s : List Str) i => (s, i)) y.Names y.Names (fun i s a => .inl (s.set i (rep t.Names u.Names a))) (fun s => s) (MapInv (rep t.Names u.Names) y.Names) (fun i s a hi hs => by
        obtain ⟨ha', hlt⟩ := getI hi
        obtain ⟨h1, h2, h3⟩ := mapInv_get hi hs
        refine ⟨?_, fun s' e => by cases e; exact h3⟩
        have hlen : i < s.length := by omega
        simp only [s34_b3, NB] at *
        rw [if_pos (by omega), grd_pos (by omega), toNat_nat, s39_11e (by omega) (by unfold NB; omega) ha hlen, h1, wr_succ (by omega)]
        simp) (fun s hs => by
        simp only [s34_b3]
        rw [if_neg (by omega)]) (by omega) (by simp [MapInv])
      rw [hb]
      simp only [Option.bind_some]
      rw [grd_pos (by omega), grd_pos (hadd _ hy.name)]
      have hrun := runL_set (g := rep t.Names u.Names) (fin := fun s => s) y.Names []
      simp only [List.nil_append, List.length_nil] at hrun
      rw [hrun]
      unfold inst
      rw [if_neg (by simp [hc]), if_pos h14]
    · rw [if_neg h14, grd_pos (by omega), grd_pos (hadd _ hy.name)]
      unfold inst
      rw [if_neg (by simp [hc]), if_neg h14]
end Go.Proofs.Inc
namespace Go.Proofs.Inc
open Go.Aw
structure Maps where
  t : List (Str × Item)
  s : List (Str × Span)
  m : List (Str × Item)
def dfn1 (M : Maps) (y : Item) : Option Item := if y.Within.Name = [] then some y else (mlook y.Within.Name M.s).map fun d => { y with Within := d }
def dfn2 (M : Maps) (y : Item) : Option Item := if y.Grace.Name = [] then some y else (mlook y.Grace.Name M.s).map fun d => { y with Grace := d }
def dfn3 (M : Maps) (y : Item) : Option Item := if y.Sum = [] then some y else (mlook y.Sum M.m).map fun d => { y with Num := d.Num, Unit := d.Unit, Sum := [] }
def dfn (M : Maps) (y : Item) : Option Item := ((dfn1 M y).bind (dfn2 M)).bind (dfn3 M)
theorem s36_eq {N : Nat} {M : Maps} {c : Int} {o : List Item} {q : List Str} {y : Item} : match dfn M y with
    | some z => s36 N M.t M.s M.m c o q y = some (true, z)
    | none => ∃ z, s36 N M.t M.s M.m c o q y = some (false, z) := by
  have h1 : ∀ x, match dfn3 M x with | some z => s36_k1 N M.m x = some (true, z) | none => ∃ z, s36_k1 N M.m x = some (false, z) := fun x => by
    simp only [dfn3, s36_k1]
    by_cases h : x.Sum = []
    · simp [h]
    · rw [if_neg h, if_neg h]
      cases mlook x.Sum M.m with
      | none => exact ⟨_, rfl⟩
      | some d => rfl
  have h2 : ∀ x, match (dfn2 M x).bind (dfn3 M) with | some z => s36_k3 N M.s M.m x = some (true, z) | none => ∃ z, s36_k3 N M.s M.m x = some (false, z) := fun x => by
    simp only [dfn2, s36_k3, s36_k2]
    by_cases h : x.Grace.Name = []
    · rw [if_pos h, if_pos h]; exact h1 x
    · rw [if_neg h, if_neg h]
      cases mlook x.Grace.Name M.s with
      | none => exact ⟨_, rfl⟩
      | some d => exact h1 _
  simp only [dfn, s36]
  unfold dfn1
  by_cases h : y.Within.Name = []
  · rw [if_pos h, if_pos h]; exact h2 y
  · rw [if_neg h, if_neg h]
    cases mlook y.Within.Name M.s with
    | none => exact ⟨_, rfl⟩
    | some d => exact h2 _
abbrev R := Int × Bool × Int × List Item × List Str
def add (M : Maps) (c : Int) (o : List Item) (q : List Str) (y : Item) (most : Int) : R :=
  if 600 < c + 1 then (3, true, c + 1, o, q)
  else if most < (y.Name.length : Int) then (3, false, c + 1, o, q)
  else if clause y.Kind then match dfn M y with
    | some z => (0, false, c + 1, o ++ [z], q)
    | none => (8, false, c + 1, o, q)
  else (0, false, c + 1, o ++ [y], q)
theorem s27_eq {N : Nat} {M : Maps} {c : Int} {o : List Item} {q : List Str} {y : Item} {most : Int} (h0 : 0 ≤ c) (h1 : c ≤ 1099511627776) (ho : o.length ≤ 1073741824) : s27 N M.t M.s M.m c o q y most = some (add M c o q y most) := by
  simp only [s27, s32, Option.bind_some, add]
  rw [wr (by omega) (by omega)]
  by_cases hc : 600 < c + 1
  · simp [hc]
  simp only [hc, decide_false, cond_false]
  by_cases hm : most < (y.Name.length : Int)
  · simp [hm]
  rw [if_neg hm, if_neg (by simp), if_neg hm, s35_eq]
  simp only [Option.bind_some]
  cases hk : clause y.Kind with
  | false =>
    simp only [cond_false, s27_k2, s27_k1, cond_true]
    rw [grd_pos (by omega)]
    simp
  | true =>
    simp only [cond_true]
    have := s36_eq (N := N) (M := M) (c := c + 1) (o := o) (q := q) (y := y)
    cases hd : dfn M y with
    | none =>
      rw [hd] at this
      obtain ⟨z, hz⟩ := this
      rw [hz]
      simp [s27_k2]
    | some z =>
      rw [hd] at this
      rw [this]
      simp only [Option.bind_some, s27_k2, s27_k1, Bool.not_true, cond_false, cond_true]
      rw [grd_pos (by omega)]
      simp
def stepI (inc : Int → List Item → List Str → Item → R) (M : Maps) (t u : Item) (s : Int × List Item × List Str) (a : Item) : (Int × List Item × List Str) ⊕ R :=
  if (inst t u a).Kind = 14 then
    (if (inc s.1 s.2.1 s.2.2 (inst t u a)).1 = 0 then .inl (inc s.1 s.2.1 s.2.2 (inst t u a)).2.2 else .inr (inc s.1 s.2.1 s.2.2 (inst t u a)))
  else if clause (inst t u a).Kind then
    (if (add M s.1 s.2.1 s.2.2 (inst t u a) 24).1 = 0 then .inl (add M s.1 s.2.1 s.2.2 (inst t u a) 24).2.2 else .inr (add M s.1 s.2.1 s.2.2 (inst t u a) 24))
  else .inr (1, false, s)
def incl (M : Maps) : Nat → Int → List Item → List Str → Item → R
  | 0, c, o, q, _ => (3, true, c + 1, o, q)
  | k + 1, c, o, q, u =>
    if 600 < c + 1 then (3, true, c + 1, o, q)
    else match mlook u.Of M.t with
      | none => (8, false, c + 1, o, q)
      | some t =>
        if t.Names.length ≠ u.Names.length then (1, false, c + 1, o, q)
        else if (find q u.Of).isSome then (12, false, c + 1, o, q)
        else if 24 < u.Name.length then (3, false, c + 1, o, q)
        else runL (fun _ s a => stepI (incl M k) M t u s a) (fun s => (0, false, s.1, s.2.1, s.2.2.take (s.2.2.length - 1))) 0 (c + 1, o, q ++ [u.Of]) t.Items
structure BdT (t : Item) : Prop where
  names : t.Names.length ≤ NB
  items : t.Items.length ≤ NB
  bd : ∀ y, y ∈ t.Items → Bd y
structure Far (c : Int) (o : List Item) (q : List Str) : Prop where
  c0 : 0 ≤ c
  o : (o.length : Int) ≤ c
  q : (q.length : Int) ≤ c
theorem add_far {M : Maps} {c : Int} {o : List Item} {q : List Str} {y : Item} {most : Int} (h : Far c o q) : (add M c o q y most).1 = 0 → ∃ o', (add M c o q y most).2.2 = (c + 1, o', q) ∧ Far (c + 1) o' q ∧ c + 1 ≤ 600 := by
  have h1 := h.c0
  have h2 := h.o
  have h3 := h.q
  unfold add
  by_cases hc : 600 < c + 1
  · rw [if_pos hc]; simp
  rw [if_neg hc]
  by_cases hm : most < (y.Name.length : Int)
  · rw [if_pos hm]; simp
  rw [if_neg hm]
  by_cases hk : clause y.Kind = true
  · rw [if_pos hk]
    cases dfn M y with
    | none => simp
    | some z => exact fun _ => ⟨_, rfl, ⟨by omega, by simp; omega, by omega⟩, by omega⟩
  · rw [if_neg hk]
    exact fun _ => ⟨_, rfl, ⟨by omega, by simp; omega, by omega⟩, by omega⟩
theorem runL_inv {α σ ρ : Type} {f : Nat → σ → α → σ ⊕ ρ} {fin : σ → ρ} {Inv : σ → Prop} {Q : ρ → Prop} : ∀ (l : List α), (∀ i s a, a ∈ l → Inv s → match f i s a with | .inl s' => Inv s' | .inr r => Q r) → (∀ s, Inv s → Q (fin s)) → ∀ (i : Nat) (s : σ), Inv s → Q (runL f fin i s l)
  | [], _, hf, i, s, hs => hf s hs
  | a :: l, h, hf, i, s, hs => by
    have h1 := h i s a (List.mem_cons_self ..) hs
    rw [runL]
    cases hfa : f i s a with
    | inl s' => rw [hfa] at h1; exact runL_inv l (fun i s b hb hs => h i s b (List.mem_cons_of_mem _ hb) hs) hf (i + 1) s' h1
    | inr r => rw [hfa] at h1; exact h1
theorem incl_far (M : Maps) : ∀ (k : Nat) (c : Int) (o : List Item) (q : List Str) (u : Item), Far c o q → (incl M k c o q u).1 = 0 → ∃ c' o', (incl M k c o q u).2.2 = (c', o', q) ∧ Far c' o' q ∧ c + 1 ≤ c' ∧ c' ≤ 600
  | 0, c, o, q, u, h, h0 => by simp [incl] at h0
  | k + 1, c, o, q, u, h, h0 => by
    have g1 := h.c0
    have g2 := h.o
    have g3 := h.q
    unfold incl at h0 ⊢
    by_cases hc : 600 < c + 1
    · rw [if_pos hc] at h0; simp at h0
    rw [if_neg hc] at h0 ⊢
    cases ht : mlook u.Of M.t with
    | none => rw [ht] at h0; simp at h0
    | some t =>
      rw [ht] at h0
      simp only at h0 ⊢
      by_cases hn : t.Names.length ≠ u.Names.length
      · rw [if_pos hn] at h0; simp at h0
      rw [if_neg hn] at h0 ⊢
      by_cases hq : (find q u.Of).isSome = true
      · rw [if_pos hq] at h0; simp at h0
      rw [if_neg hq] at h0 ⊢
      by_cases hm : 24 < u.Name.length
      · rw [if_pos hm] at h0; simp at h0
      rw [if_neg hm] at h0 ⊢
      refine runL_inv (Inv := fun (s : Int × List Item × List Str) => s.2.2 = q ++ [u.Of] ∧ Far s.1 s.2.1 s.2.2 ∧ c + 1 ≤ s.1 ∧ s.1 ≤ 600) (Q := fun (r : R) => r.1 = 0 → ∃ c' o', r.2.2 = (c', o', q) ∧ Far c' o' q ∧ c + 1 ≤ c' ∧ c' ≤ 600) t.Items (fun i s a _ hs => ?_) (fun s hs _ => ?_) 0 _ ⟨rfl, ⟨by simp only; omega, by simp only; omega, by simp; omega⟩, by simp only; omega, by simp only; omega⟩ h0
      · obtain ⟨h1, h2, h3, h4⟩ := hs
        unfold stepI
        by_cases hk : (inst t u a).Kind = 14
        · rw [if_pos hk]
          by_cases hr : (incl M k s.1 s.2.1 s.2.2 (inst t u a)).1 = 0
          · rw [if_pos hr]
            obtain ⟨c', o', e1, e2, e3, e4⟩ := incl_far M k s.1 s.2.1 s.2.2 _ h2 hr
            simp only [e1]
            exact ⟨h1, e2, by omega, e4⟩
          · rw [if_neg hr]
            exact fun h => absurd h hr
        · rw [if_neg hk]
          by_cases hcl : clause (inst t u a).Kind = true
          · rw [if_pos hcl]
            by_cases hr : (add M s.1 s.2.1 s.2.2 (inst t u a) 24).1 = 0
            · rw [if_pos hr]
              obtain ⟨o', e1, e2, e3⟩ := add_far h2 hr
              simp only [e1]
              exact ⟨h1, e2, by omega, e3⟩
            · rw [if_neg hr]
              exact fun h => absurd h hr
          · rw [if_neg hcl]
            simp
      · obtain ⟨h1, h2, h3, h4⟩ := hs
        refine ⟨s.1, s.2.1, by rw [h1]; simp, ⟨h2.c0, h2.o, ?_⟩, h3, h4⟩
        have := h2.q
        rw [h1] at this
        simp at this
        omega
theorem s26_eq (M : Maps) (hM : ∀ n t, mlook n M.t = some t → BdT t) : ∀ (k : Nat) (N : Nat) (c : Int) (o : List Item) (q : List Str) (u : Item), NB + 1 + k < N → Far c o q → 600 ≤ (k : Int) + c → c ≤ 600 → s26 N M.t M.s M.m c o q u = some (incl M k c o q u)
  | k, 0, c, o, q, u, hN, _, _, _ => by omega
  | 0, N + 1, c, o, q, u, hN, h, hk, hc => by
    have g1 := h.c0
    simp only [s26, s26_body, s32, Option.bind_some, incl]
    rw [wr (by omega) (by omega)]
    simp [show 600 < c + 1 by omega]
  | k + 1, N + 1, c, o, q, u, hN, h, hk, hc => by
    have g1 := h.c0
    have g2 := h.o
    have g3 := h.q
    simp only [s26, s26_body, s32, Option.bind_some, incl]
    rw [wr (by omega) (by omega)]
    by_cases hc1 : 600 < c + 1
    · simp [hc1]
    simp only [hc1, decide_false, cond_false]
    rw [if_neg (by simp)]
    cases ht : mlook u.Of M.t with
    | none => rfl
    | some t =>
      have hb := hM _ _ ht
      simp only [Option.elim_some]
      by_cases hn : t.Names.length = u.Names.length
      · rw [if_pos (show (t.Names.length : Int) = (u.Names.length : Int) by omega), if_neg (show ¬ (t.Names.length ≠ u.Names.length) by simpa using hn), s33_eq (by unfold NB at hN; omega) (by unfold NB; omega)]
        simp only [Option.bind_some]
        by_cases hq : (find q u.Of).isSome = true
        · rw [hq]; simp
        have hq' : (find q u.Of).isSome = false := by simpa using hq
        rw [hq']
        simp only [cond_false]
        by_cases hm : 24 < u.Name.length
        · rw [if_pos (show (24 : Int) < (u.Name.length : Int) by omega), if_pos hm]
          simp
        rw [if_neg (show ¬ (24 : Int) < (u.Name.length : Int) by omega), if_neg hm, grd_pos (by omega), if_neg (by simp)]
        have hit : iter (fun p => s26_b1 N M.t M.s M.m u t (s26 N) p.1 p.2.1 p.2.2.1 p.2.2.2) N (c + 1, o, q ++ [u.Of], 0) = some _ := iter_list (fun (s : Int × List Item × List Str) i => (s.1, s.2.1, s.2.2, i)) (c + 1, o, q ++ [u.Of]) t.Items (fun _ s a => match stepI (incl M k) M t u s a with | .inl s' => .inl s' | .inr r => .inr (.ret r)) (fun s => .brk s)
          (fun _ s => s.2.2 = q ++ [u.Of] ∧ Far s.1 s.2.1 s.2.2 ∧ c + 1 ≤ s.1 ∧ s.1 ≤ 600) (fun i s a hi hs => by
          obtain ⟨ha, hlt⟩ := getI hi
          obtain ⟨h1, h2, h3, h4⟩ := hs
          have hlen := hb.items
          have hy := hb.bd a (List.mem_of_getElem? hi)
          have f1 := h2.c0
          have f2 := h2.o
          have hrec : ∀ z, s26 N M.t M.s M.m s.1 s.2.1 s.2.2 z = some (incl M k s.1 s.2.1 s.2.2 z) := fun z => s26_eq M hM k N s.1 s.2.1 s.2.2 z (by omega) h2 (by omega) (by omega)
          have hadd : ∀ z, s27 N M.t M.s M.m s.1 s.2.1 s.2.2 z 24 = some (add M s.1 s.2.1 s.2.2 z 24) := fun z => s27_eq f1 (by omega) (by omega)
          constructor
          · simp only [s26_b1]
            rw [if_pos (by omega), grd_pos (by omega), toNat_nat, ha, wr_succ (by unfold NB at hlen; omega), s34_eq (by omega) hb.names hb.items hn (by omega) hy]
            simp only [Option.bind_some, hrec, s35_eq, hadd]
            unfold stepI
            by_cases hk : (inst t u a).Kind = 14
            · rw [if_pos hk, if_pos hk]
              by_cases hr : (incl M k s.1 s.2.1 s.2.2 (inst t u a)).1 = 0
              · rw [if_pos hr, if_pos hr]
              · rw [if_neg hr, if_neg hr]
            · rw [if_neg hk, if_neg hk]
              cases hcl : clause (inst t u a).Kind with
              | true =>
                simp only [cond_true, if_true]
                by_cases hr : (add M s.1 s.2.1 s.2.2 (inst t u a) 24).1 = 0
                · rw [if_pos hr, if_pos hr]
                · rw [if_neg hr, if_neg hr]
              | false => rfl
          · intro s' he
            unfold stepI at he
            by_cases hk : (inst t u a).Kind = 14
            · rw [if_pos hk] at he
              by_cases hr : (incl M k s.1 s.2.1 s.2.2 (inst t u a)).1 = 0
              · rw [if_pos hr] at he
                obtain ⟨c', o', e1, e2, e3, e4⟩ := incl_far M k s.1 s.2.1 s.2.2 _ h2 hr
                cases he
                simp only [e1]
                exact ⟨h1, e2, by omega, e4⟩
              · rw [if_neg hr] at he; cases he
            · rw [if_neg hk] at he
              by_cases hcl : clause (inst t u a).Kind = true
              · rw [if_pos hcl] at he
                by_cases hr : (add M s.1 s.2.1 s.2.2 (inst t u a) 24).1 = 0
                · rw [if_pos hr] at he
                  obtain ⟨o', e1, e2, e3⟩ := add_far h2 hr
                  cases he
                  simp only [e1]
                  exact ⟨h1, e2, by omega, e3⟩
                · rw [if_neg hr] at he; cases he
              · rw [if_neg hcl] at he; cases he) (fun s hs => by
          simp only [s26_b1]
          rw [if_neg (by omega)]) (by have := hb.items; omega) ⟨rfl, ⟨by simp only; omega, by simp only; omega, by simp; omega⟩, by simp only; omega, by simp only; omega⟩
        rw [hit]
        simp only [Option.bind_some]
        have hout : ∀ (l : List Item) (i : Nat) (s : Int × List Item × List Str), (s.2.2 = q ++ [u.Of] ∧ Far s.1 s.2.1 s.2.2 ∧ c + 1 ≤ s.1 ∧ s.1 ≤ 600) →
            (Ou.on (runL (fun _ s a => match stepI (incl M k) M t u s a with | .inl s' => .inl s' | .inr r => .inr (Ou.ret r)) (fun s => Ou.brk s) i s l) (fun a27 =>
            grd (0 < List.length a27.2.2) <|
            grd (0 ≤ IntKind.wrap .i64 ((List.length a27.2.2 : Int) - 1) ∧ IntKind.wrap .i64 ((List.length a27.2.2 : Int) - 1) ≤ (List.length a27.2.2 : Int)) <|
            some ((0 : Int), false, a27.1, a27.2.1, List.take (IntKind.wrap .i64 ((List.length a27.2.2 : Int) - 1)).toNat a27.2.2)) (fun a27r => some a27r))
            = some (runL (fun _ s a => stepI (incl M k) M t u s a) (fun s => (0, false, s.1, s.2.1, s.2.2.take (s.2.2.length - 1))) i s l) := by
          intro l
          induction l with
          | nil =>
            intro i s hs
            obtain ⟨h1, h2, h3, h4⟩ := hs
            have := h2.q
            have hl : 0 < s.2.2.length := by rw [h1]; simp
            simp only [runL, Ou.on]
            rw [wr (by omega) (by omega), grd_pos hl, grd_pos (by omega)]
            simp only [Option.some.injEq, Prod.mk.injEq, true_and]
            congr 1
            omega
          | cons a l ih =>
            intro i s hs
            rw [runL, runL]
            cases he : stepI (incl M k) M t u s a with
            | inr r => rfl
            | inl s' =>
              refine ih (i + 1) s' ?_
              obtain ⟨h1, h2, h3, h4⟩ := hs
              unfold stepI at he
              by_cases hk : (inst t u a).Kind = 14
              · rw [if_pos hk] at he
                by_cases hr : (incl M k s.1 s.2.1 s.2.2 (inst t u a)).1 = 0
                · rw [if_pos hr] at he
                  obtain ⟨c', o', e1, e2, e3, e4⟩ := incl_far M k s.1 s.2.1 s.2.2 _ h2 hr
                  cases he
                  simp only [e1]
                  exact ⟨h1, e2, by omega, e4⟩
                · rw [if_neg hr] at he; cases he
              · rw [if_neg hk] at he
                by_cases hcl : clause (inst t u a).Kind = true
                · rw [if_pos hcl] at he
                  by_cases hr : (add M s.1 s.2.1 s.2.2 (inst t u a) 24).1 = 0
                  · rw [if_pos hr] at he
                    obtain ⟨o', e1, e2, e3⟩ := add_far h2 hr
                    cases he
                    simp only [e1]
                    exact ⟨h1, e2, by omega, e3⟩
                  · rw [if_neg hr] at he; cases he
                · rw [if_neg hcl] at he; cases he
        exact hout t.Items 0 _ ⟨rfl, ⟨by simp only; omega, by simp only; omega, by simp; omega⟩, by simp only; omega, by simp only; omega⟩
      · rw [if_neg (by omega), if_pos hn]
end Go.Proofs.Inc
namespace Go.Proofs.Inc
open Go.Aw
def dupS (s : Bool × List (Str × Bool)) (a : Str) : Bool × List (Str × Bool) := (s.1 || (mlook a s.2).getD false, mset a true s.2)
def dupB (l : List Str) : Bool := (l.foldl dupS (false, [])).1
def dcl (M : Maps) (y : Item) : Int × Maps :=
  if y.Kind = 13 then match mlook y.Name M.t with
    | none => (if dupB y.Names then 9 else 0, { M with t := mset y.Name y M.t })
    | some _ => (9, M)
  else if y.Kind = 6 then match mlook y.Name M.s with
    | none => (0, { M with s := mset y.Name { y.Within with Name := [] } M.s })
    | some _ => (9, M)
  else if y.Kind = 7 then match mlook y.Name M.m with
    | none => (0, { M with m := mset y.Name y M.m })
    | some _ => (9, M)
  else (0, M)
theorem s25_eq {N : Nat} {M : Maps} {y : Item} (hN : y.Names.length < N) (hl : y.Names.length ≤ NB) :
    s25 N M.t M.s M.m 0 [] [] y = some ((dcl M y).1, (dcl M y).2.t, (dcl M y).2.s, (dcl M y).2.m) := by
  simp only [s25, dcl]
  by_cases h13 : y.Kind = 13
  · rw [if_pos h13, if_pos h13]
    cases mlook y.Name M.t with
    | none =>
      have hit : iter (fun p => s25_b1 N y p.1 p.2.1 p.2.2) N (false, [], 0) = some _ := iter_list (fun (s : Bool × List (Str × Bool)) i => (s.1, s.2, i)) (false, []) y.Names (fun _ s a => .inl (dupS s a)) (fun s => s.1) (fun _ _ => True) (fun i s a hi _ => by
        obtain ⟨ha, hlt⟩ := getI hi
        refine ⟨?_, fun _ _ => trivial⟩
        simp only [s25_b1]
        rw [if_pos (by omega), grd_pos (by omega), toNat_nat, ha, wr_succ (by unfold NB at hl; omega)]
        obtain ⟨b, m⟩ := s
        cases b with
        | true => simp [dupS]
        | false => cases hm : mlook a m <;> simp [dupS, hm]) (fun s _ => by
        simp only [s25_b1]
        rw [if_neg (by omega)]) hN trivial
      simp only [Option.elim_none]
      rw [hit, runL_fold]
      simp only [Option.bind_some]
      show (bif dupB y.Names then _ else _) = _
      cases dupB y.Names <;> rfl
    | some v =>
      have hit : iter (fun p => s25_b2 N y p.1 p.2) N ([], 0) = some _ := iter_list (fun (s : List (Str × Bool)) i => (s, i)) [] y.Names (fun _ s a => .inl (mset a true s)) (fun s => ()) (fun _ _ => True) (fun i s a hi _ => by
        obtain ⟨ha, hlt⟩ := getI hi
        refine ⟨?_, fun _ _ => trivial⟩
        simp only [s25_b2]
        rw [if_pos (by omega), grd_pos (by omega), toNat_nat, ha, wr_succ (by unfold NB at hl; omega)]) (fun s _ => by
        simp only [s25_b2]
        rw [if_neg (by omega)]) hN trivial
      simp only [Option.elim_some]
      rw [hit]
      rfl
  rw [if_neg h13, if_neg h13]
  by_cases h6 : y.Kind = 6
  · rw [if_pos h6, if_pos h6]
    cases mlook y.Name M.s <;> rfl
  rw [if_neg h6, if_neg h6]
  by_cases h7 : y.Kind = 7
  · rw [if_pos h7, if_pos h7]
    cases mlook y.Name M.m <;> rfl
  rw [if_neg h7, if_neg h7]
def dcls (M : Maps) : List Item → List Int × Maps
  | [] => ([], M)
  | y :: l => ((dcl M y).1 :: (dcls (dcl M y).2 l).1, (dcls (dcl M y).2 l).2)
theorem dcls_len : ∀ (M : Maps) (l : List Item), (dcls M l).1.length = l.length
  | M, [] => rfl
  | M, y :: l => by simp [dcls, dcls_len]
theorem s11_b8_loop {N : Nat} {p1 : Source} (hN : NB < N) (hl : p1.Items.length ≤ NB) (hnames : ∀ y, y ∈ p1.Items → y.Names.length ≤ NB) : ∀ (l : List Item) (i : Nat) (M : Maps) (pre : List Int), p1.Items.drop i = l → pre.length = i → ∀ K, l.length < K →
    iter (fun p => s11_b8 N p1 p.1 p.2.1 p.2.2.1 p.2.2.2.1 p.2.2.2.2) K (M.t, M.s, M.m, pre ++ List.replicate l.length 0, (i : Int)) = some ((dcls M l).2.t, (dcls M l).2.s, (dcls M l).2.m, pre ++ (dcls M l).1)
  | [], i, M, pre, hd, hp, K, hK => by
    obtain ⟨K, rfl⟩ : ∃ k, K = k + 1 := ⟨K - 1, by simp at hK; omega⟩
    have hi : p1.Items.length ≤ i := List.drop_eq_nil_iff.1 hd
    refine iter_end ?_
    simp only [s11_b8]
    rw [if_neg (by omega)]
    simp [dcls]
  | y :: l, i, M, pre, hd, hp, K, hK => by
    obtain ⟨K, rfl⟩ : ∃ k, K = k + 1 := ⟨K - 1, by simp at hK; omega⟩
    have hi : p1.Items[i]? = some y := by rw [← List.head?_drop, hd]; rfl
    obtain ⟨hx, hlt⟩ := getI hi
    have hn := hnames y (List.mem_of_getElem? hi)
    have hb : s11_b8 N p1 M.t M.s M.m (pre ++ List.replicate (l.length + 1) 0) (i : Int) = some (.inl ((dcl M y).2.t, (dcl M y).2.s, (dcl M y).2.m, (pre ++ [(dcl M y).1]) ++ List.replicate l.length 0, ((i + 1 : Nat) : Int))) := by
      simp only [s11_b8]
      rw [if_pos (by omega), grd_pos (by omega), toNat_nat, hx, s25_eq (by omega) hn]
      simp only [Option.bind_some]
      rw [grd_pos (by simp; omega), wr_succ (by unfold NB at hl; omega), List.set_append_right i _ (by omega), hp, Nat.sub_self, List.replicate_succ, List.set_cons_zero]
      simp
    rw [List.length_cons, iter_step (by exact hb)]
    rw [s11_b8_loop hN hl hnames l (i + 1) (dcl M y).2 (pre ++ [(dcl M y).1]) (by rw [← List.drop_drop, hd]; rfl) (by simp [hp]) K (by simp at hK; omega)]
    simp [dcls]
def top (M : Maps) : Int → List Item → List Fault → List (Int × Item) → List Item × List Fault
  | _, o, F, [] => (o, F)
  | c, o, F, p :: l =>
    if defines p.2.Kind then top M c o (if p.1 = 0 then F else F ++ [⟨p.1, p.2.At⟩]) l
    else
      let r := if p.2.Kind = 14 then incl M 600 c o [] p.2 else add M c o [] p.2 p.2.Name.length
      let F' := if r.1 = 0 then F else F ++ [⟨r.1, p.2.At⟩]
      if r.2.1 then (r.2.2.2.1, F') else top M r.2.2.1 r.2.2.2.1 F' l
theorem add_q {M : Maps} {c : Int} {o : List Item} {q : List Str} {y : Item} {most : Int} : (add M c o q y most).1 = (add M c o [] y most).1 ∧ (add M c o q y most).2.1 = (add M c o [] y most).2.1 ∧ (add M c o q y most).2.2.1 = (add M c o [] y most).2.2.1 ∧ (add M c o q y most).2.2.2.1 = (add M c o [] y most).2.2.2.1 := by
  unfold add
  split
  · simp
  · split
    · simp
    · split
      · split <;> simp
      · simp
def Fine (c : Int) (r : R) : Prop := r.2.1 = false → c ≤ r.2.2.1 ∧ r.2.2.1 ≤ 600 ∧ (r.2.2.2.1.length : Int) ≤ r.2.2.1
theorem add_fine {M : Maps} {c : Int} {o : List Item} {q : List Str} {y : Item} {most : Int} (h : (o.length : Int) ≤ c) : Fine c (add M c o q y most) := by
  unfold Fine add
  by_cases hc : 600 < c + 1
  · rw [if_pos hc]; simp
  rw [if_neg hc]
  by_cases hm : most < (y.Name.length : Int)
  · rw [if_pos hm]; intro _; exact ⟨by simp only; omega, by simp only; omega, by simp only; omega⟩
  rw [if_neg hm]
  by_cases hk : clause y.Kind = true
  · rw [if_pos hk]
    cases dfn M y with
    | none => intro _; exact ⟨by simp only; omega, by simp only; omega, by simp only; omega⟩
    | some z => intro _; exact ⟨by simp only; omega, by simp only; omega, by simp; omega⟩
  · rw [if_neg hk]
    intro _; exact ⟨by simp only; omega, by simp only; omega, by simp; omega⟩
theorem incl_fine (M : Maps) : ∀ (k : Nat) (c : Int) (o : List Item) (q : List Str) (u : Item), Far c o q → Fine c (incl M k c o q u)
  | 0, c, o, q, u, h => by simp [Fine, incl]
  | k + 1, c, o, q, u, h => by
    have g1 := h.c0
    have g2 := h.o
    have g3 := h.q
    unfold Fine incl
    by_cases hc : 600 < c + 1
    · rw [if_pos hc]; simp
    rw [if_neg hc]
    have base : ∀ e : Int, ((e, false, c + 1, o, q) : R).2.1 = false → c ≤ ((e, false, c + 1, o, q) : R).2.2.1 ∧ ((e, false, c + 1, o, q) : R).2.2.1 ≤ 600 ∧ (((e, false, c + 1, o, q) : R).2.2.2.1.length : Int) ≤ ((e, false, c + 1, o, q) : R).2.2.1 := fun e _ => ⟨by simp only; omega, by simp only; omega, by simp only; omega⟩
    cases ht : mlook u.Of M.t with
    | none => exact base 8
    | some t =>
      simp only
      by_cases hn : t.Names.length ≠ u.Names.length
      · rw [if_pos hn]; exact base 1
      rw [if_neg hn]
      by_cases hq : (find q u.Of).isSome = true
      · rw [if_pos hq]; exact base 12
      rw [if_neg hq]
      by_cases hm : 24 < u.Name.length
      · rw [if_pos hm]; exact base 3
      rw [if_neg hm]
      refine runL_inv (Inv := fun (s : Int × List Item × List Str) => Far s.1 s.2.1 s.2.2 ∧ c + 1 ≤ s.1 ∧ s.1 ≤ 600) (Q := fun (r : R) => r.2.1 = false → c ≤ r.2.2.1 ∧ r.2.2.1 ≤ 600 ∧ (r.2.2.2.1.length : Int) ≤ r.2.2.1) t.Items (fun i s a _ hs => ?_) (fun s hs _ => ?_) 0 _ ⟨⟨by simp only; omega, by simp only; omega, by simp; omega⟩, by simp only; omega, by simp only; omega⟩
      · obtain ⟨h2, h3, h4⟩ := hs
        unfold stepI
        by_cases hk : (inst t u a).Kind = 14
        · rw [if_pos hk]
          by_cases hr : (incl M k s.1 s.2.1 s.2.2 (inst t u a)).1 = 0
          · rw [if_pos hr]
            obtain ⟨c', o', e1, e2, e3, e4⟩ := incl_far M k s.1 s.2.1 s.2.2 _ h2 hr
            simp only [e1]
            exact ⟨e2, by omega, e4⟩
          · rw [if_neg hr]
            intro h
            obtain ⟨f1, f2, f3⟩ := incl_fine M k s.1 s.2.1 s.2.2 (inst t u a) h2 h
            exact ⟨by omega, f2, f3⟩
        · rw [if_neg hk]
          by_cases hcl : clause (inst t u a).Kind = true
          · rw [if_pos hcl]
            by_cases hr : (add M s.1 s.2.1 s.2.2 (inst t u a) 24).1 = 0
            · rw [if_pos hr]
              obtain ⟨o', e1, e2, e3⟩ := add_far h2 hr
              simp only [e1]
              exact ⟨e2, by omega, e3⟩
            · rw [if_neg hr]
              intro h
              obtain ⟨f1, f2, f3⟩ := add_fine (M := M) (q := s.2.2) (y := inst t u a) (most := 24) h2.o h
              exact ⟨by omega, f2, f3⟩
          · rw [if_neg hcl]
            exact fun _ => ⟨by simp only; omega, by simp only; omega, h2.o⟩
      · obtain ⟨h2, h3, h4⟩ := hs
        exact ⟨by simp only; omega, by simp only; omega, h2.o⟩
theorem top_loop {N : Nat} {p1 : Source} {M : Maps} {errs : List Int} (hM : ∀ n t, mlook n M.t = some t → BdT t) (hN : NB + 602 < N) (hlen : p1.Items.length ≤ 600) (he : errs.length = p1.Items.length) :
    ∀ (l : List (Int × Item)) (i : Nat) (c : Int) (o : List Item) (q : List Str) (F : List Fault), (errs.zip p1.Items).drop i = l → 0 ≤ c → c ≤ 600 → (o.length : Int) ≤ c → F.length ≤ i → ∀ K, l.length < K →
      ∃ c' q', iter (fun p => s11_b6 N p1 M.t M.s M.m errs p.1 p.2.1 p.2.2.1 p.2.2.2.1 p.2.2.2.2) K (c, o, q, F, (i : Int)) = some (c', (top M c o F l).1, q', (top M c o F l).2)
  | [], i, c, o, q, F, hd, _, _, _, _, K, hK => by
    obtain ⟨K, rfl⟩ : ∃ k, K = k + 1 := ⟨K - 1, by simp at hK; omega⟩
    have hi : (errs.zip p1.Items).length ≤ i := List.drop_eq_nil_iff.1 hd
    rw [List.length_zip] at hi
    refine ⟨c, q, iter_end ?_⟩
    simp only [s11_b6]
    rw [if_neg (by omega)]
    rfl
  | p :: l, i, c, o, q, F, hd, hc0, hc, ho, hF, K, hK => by
    obtain ⟨K, rfl⟩ : ∃ k, K = k + 1 := ⟨K - 1, by simp at hK; omega⟩
    have hi : (errs.zip p1.Items)[i]? = some p := by rw [← List.head?_drop, hd]; rfl
    have hil : i < (errs.zip p1.Items).length := (List.getElem?_eq_some_iff.1 hi).1
    rw [List.length_zip] at hil
    have h1 : errs[i]? = some p.1 ∧ p1.Items[i]? = some p.2 := by
      rw [List.getElem?_zip_eq_some] at hi
      exact hi
    obtain ⟨hx1, hlt1⟩ := getI h1.1
    obtain ⟨hx2, hlt2⟩ := getI h1.2
    have hdn : (errs.zip p1.Items).drop (i + 1) = l := by rw [← List.drop_drop, hd]; rfl
    have next : ∀ c o q F, 0 ≤ c → c ≤ 600 → (o.length : Int) ≤ c → F.length ≤ i + 1 → ∃ c' q', iter (fun p => s11_b6 N p1 M.t M.s M.m errs p.1 p.2.1 p.2.2.1 p.2.2.2.1 p.2.2.2.2) K (c, o, q, F, ((i + 1 : Nat) : Int)) = some (c', (top M c o F l).1, q', (top M c o F l).2) :=
      fun c o q F h1 h2 h3 h4 => top_loop hM hN hlen he l (i + 1) c o q F hdn h1 h2 h3 h4 K (by simp at hK; omega)
    have hwr : IntKind.wrap .i64 ((i : Int) + 1) = ((i + 1 : Nat) : Int) := wr_succ (by omega)
    have hbody : s11_b6 N p1 M.t M.s M.m errs c o q F (i : Int) = s11_k5 N p1 M.t M.s M.m errs c o q F (i : Int) (defines p.2.Kind) := by
      simp only [s11_b6]
      rw [if_pos (by omega), grd_pos (by omega), grd_pos (by omega), toNat_nat, hx2]
      by_cases h13 : p.2.Kind = 13
      · simp [h13, defines]
      rw [if_neg h13]
      by_cases h6 : p.2.Kind = 6
      · simp [h6, defines]
      rw [if_neg h6]
      simp [h13, h6, defines]
    cases hdf : defines p.2.Kind with
    | true =>
      rw [hdf] at hbody
      simp only [s11_k5, cond_true, toNat_nat, hx1, hx2, s11_k2] at hbody
      rw [hwr] at hbody
      unfold top
      rw [if_pos hdf]
      by_cases h0 : p.1 = 0
      · rw [if_pos h0] at hbody ⊢
        obtain ⟨c', q', h⟩ := next c o q F hc0 hc ho (by omega)
        exact ⟨c', q', by rw [iter_step (by exact hbody)]; exact h⟩
      · rw [if_neg h0, grd_pos (by omega)] at hbody
        rw [if_neg h0]
        obtain ⟨c', q', h⟩ := next c o q (F ++ [⟨p.1, p.2.At⟩]) hc0 hc ho (by simp; omega)
        exact ⟨c', q', by rw [iter_step (by exact hbody)]; exact h⟩
    | false =>
      rw [hdf] at hbody
      simp only [s11_k5, cond_false, toNat_nat, hx1, hx2] at hbody
      unfold top
      rw [if_neg (by simp [hdf])]
      have hfar : Far c o [] := ⟨hc0, ho, by simpa using hc0⟩
      have fin : ∀ (r : R) (r1 : R), r1.1 = r.1 → r1.2.1 = r.2.1 → r1.2.2.1 = r.2.2.1 → r1.2.2.2.1 = r.2.2.2.1 → Fine c r →
          s11_b6 N p1 M.t M.s M.m errs c o q F (i : Int) = (if r1.1 = 0 then (bif r1.2.1 then some (.inr (r1.2.2.1, r1.2.2.2.1, r1.2.2.2.2, F)) else some (.inl (r1.2.2.1, r1.2.2.2.1, r1.2.2.2.2, F, ((i + 1 : Nat) : Int)))) else (bif r1.2.1 then some (.inr (r1.2.2.1, r1.2.2.2.1, r1.2.2.2.2, F ++ [⟨r1.1, p.2.At⟩])) else some (.inl (r1.2.2.1, r1.2.2.2.1, r1.2.2.2.2, F ++ [⟨r1.1, p.2.At⟩], ((i + 1 : Nat) : Int))))) →
          ∃ c' q', iter (fun p => s11_b6 N p1 M.t M.s M.m errs p.1 p.2.1 p.2.2.1 p.2.2.2.1 p.2.2.2.2) (K + 1) (c, o, q, F, (i : Int)) = some (c', (if r.2.1 = true then (r.2.2.2.1, if r.1 = 0 then F else F ++ [⟨r.1, p.2.At⟩]) else top M r.2.2.1 r.2.2.2.1 (if r.1 = 0 then F else F ++ [⟨r.1, p.2.At⟩]) l).1, q', (if r.2.1 = true then (r.2.2.2.1, if r.1 = 0 then F else F ++ [⟨r.1, p.2.At⟩]) else top M r.2.2.1 r.2.2.2.1 (if r.1 = 0 then F else F ++ [⟨r.1, p.2.At⟩]) l).2) := by
        intro r r1 e1 e2 e3 e4 hfine hb
        rw [e1, e2, e3, e4] at hb
        have hFl : (if r.1 = 0 then F else F ++ [⟨r.1, p.2.At⟩]).length ≤ i + 1 := by
          split
          · omega
          · simp; omega
        have hb' : s11_b6 N p1 M.t M.s M.m errs c o q F (i : Int) = (bif r.2.1 then some (.inr (r.2.2.1, r.2.2.2.1, r1.2.2.2.2, if r.1 = 0 then F else F ++ [⟨r.1, p.2.At⟩])) else some (.inl (r.2.2.1, r.2.2.2.1, r1.2.2.2.2, (if r.1 = 0 then F else F ++ [⟨r.1, p.2.At⟩]), ((i + 1 : Nat) : Int)))) := by
          rw [hb]; split <;> rfl
        cases hs : r.2.1 with
        | true =>
          rw [hs] at hb'
          exact ⟨r.2.2.1, r1.2.2.2.2, iter_end (by exact hb')⟩
        | false =>
          rw [hs] at hb'
          obtain ⟨f1, f2, f3⟩ := hfine hs
          obtain ⟨c', q', h⟩ := next r.2.2.1 r.2.2.2.1 r1.2.2.2.2 _ (by omega) f2 f3 hFl
          exact ⟨c', q', by rw [iter_step (by exact hb')]; simpa using h⟩
      by_cases h14 : p.2.Kind = 14
      · rw [if_pos h14, s26_eq M hM 600 N c o [] p.2 (by omega) hfar (by omega) hc] at hbody
        simp only [Option.bind_some, s11_k3] at hbody
        rw [grd_pos (by omega), hwr] at hbody
        simp only [if_pos h14]
        exact fin _ (incl M 600 c o [] p.2) rfl rfl rfl rfl (incl_fine M 600 c o [] p.2 hfar) (by rw [hbody])
      · rw [if_neg h14, s27_eq hc0 (by omega) (by omega)] at hbody
        simp only [Option.bind_some, s11_k4] at hbody
        rw [grd_pos (by omega), hwr] at hbody
        simp only [if_neg h14]
        obtain ⟨a1, a2, a3, a4⟩ := add_q (M := M) (c := c) (o := o) (q := q) (y := p.2) (most := p.2.Name.length)
        exact fin _ (add M c o q p.2 p.2.Name.length) a1 a2 a3 a4 (add_fine ho) (by rw [hbody])
def noSource : Source := ⟨[], ⟨0, 0, 0⟩, 0, []⟩
def M0 : Maps := ⟨[], [], []⟩
def expand (p : Source) : Source × List Fault :=
  if 600 < iszl p.Items then (noSource, [⟨3, 0⟩])
  else
    let d := dcls M0 p.Items
    let r := top d.2 0 [] [] (d.1.zip p.Items)
    if r.2 = [] then ({ p with Items := r.1 }, []) else (noSource, r.2)
theorem mlook_mset {α β : Type} [DecidableEq α] {k k' : α} {v : β} : ∀ {l : List (α × β)}, mlook k' (mset k v l) = if k' = k then some v else mlook k' l
  | [] => by simp [mset, mlook]
  | p :: l => by
    simp only [mset]
    by_cases hk : k = p.1
    · rw [if_pos hk]
      simp only [mlook]
      by_cases h' : k' = k
      · simp [h']
      · rw [if_neg h', if_neg h', if_neg (by rw [← hk]; exact h')]
    · rw [if_neg hk]
      simp only [mlook]
      by_cases h' : k' = p.1
      · rw [if_pos h', if_pos h', if_neg (by rw [h']; exact fun h => hk h.symm)]
      · rw [if_neg h', if_neg h']
        exact mlook_mset
theorem dcl_t {M : Maps} {y : Item} {n : Str} {t : Item} (h : mlook n (dcl M y).2.t = some t) : mlook n M.t = some t ∨ (t = y ∧ y.Kind = 13 ∧ n = y.Name) := by
  unfold dcl at h
  by_cases h13 : y.Kind = 13
  · rw [if_pos h13] at h
    cases hm : mlook y.Name M.t with
    | none =>
      rw [hm] at h
      simp only [mlook_mset] at h
      split at h
      · rename_i e; cases h; exact .inr ⟨rfl, h13, e⟩
      · exact .inl h
    | some _ => rw [hm] at h; exact .inl h
  rw [if_neg h13] at h
  by_cases h6 : y.Kind = 6
  · rw [if_pos h6] at h
    cases hm : mlook y.Name M.s <;> rw [hm] at h <;> exact .inl h
  rw [if_neg h6] at h
  by_cases h7 : y.Kind = 7
  · rw [if_pos h7] at h
    cases hm : mlook y.Name M.m <;> rw [hm] at h <;> exact .inl h
  rw [if_neg h7] at h
  exact .inl h
theorem dcls_t {n : Str} {t : Item} : ∀ {l : List Item} {M : Maps}, mlook n (dcls M l).2.t = some t → mlook n M.t = some t ∨ t ∈ l
  | [], M, h => .inl h
  | y :: l, M, h => by
    rcases dcls_t (l := l) h with h | h
    · rcases dcl_t h with h | ⟨rfl, _⟩
      · exact .inl h
      · exact .inr (List.mem_cons_self ..)
    · exact .inr (List.mem_cons_of_mem _ h)
structure BdS (p : Source) : Prop where
  size : iszl p.Items ≤ 1099511627776
  items : ∀ t, t ∈ p.Items → BdT t
set_option maxRecDepth 100000 in
theorem s11_eq {N : Nat} {p : Source} (hb : BdS p) (hN : NB + 602 < N) (hN' : iszl p.Items + 1 < N) : s11 N p = some (expand p) := by
  obtain ⟨t, e1, e2, e3, e4⟩ := s24_lim N p.Items 600 (by omega) (by omega) hb.size
  simp only [s11]
  rw [show ((600 : Nat) : Int) = 600 by rfl] at e1
  rw [e1]
  simp only [Option.bind_some, expand]
  by_cases hs : 600 < iszl p.Items
  · have h4 := e4 hs
    rw [if_pos hs, if_pos (show (600 : Int) < (t : Int) by omega)]; rfl
  have h3 := e3 (by omega)
  rw [if_neg hs, if_neg (show ¬ (600 : Int) < (t : Int) by omega)]
  have hlen := iszl_len p.Items
  rw [grd_pos (by omega)]
  have h1 := s11_b8_loop (N := N) (p1 := p) (by omega) (by unfold NB; omega) (fun y hy => (hb.items y hy).names) p.Items 0 M0 [] rfl rfl N (by omega)
  simp only [List.nil_append] at h1
  rw [show ((0 : Nat) : Int) = 0 by rfl] at h1
  rw [show ((([] : List (List UInt8 × Item)), ([] : List (List UInt8 × Span)), ([] : List (List UInt8 × Item)), List.replicate p.Items.length (0 : Int), (0 : Int)) : List (List UInt8 × Item) × List (List UInt8 × Span) × List (List UInt8 × Item) × List Int × Int) = (M0.t, M0.s, M0.m, List.replicate p.Items.length 0, 0) by rfl, h1]
  simp only [Option.bind_some, s11_k7]
  obtain ⟨c', q', h2⟩ := top_loop (N := N) (p1 := p) (M := (dcls M0 p.Items).2) (errs := (dcls M0 p.Items).1) (fun n t h => by
    rcases dcls_t h with h | h
    · simp [M0, mlook] at h
    · exact hb.items t h) hN (by omega) (dcls_len _ _) _ 0 0 [] [] [] rfl (by omega) (by omega) (by simp) (by simp) N (by rw [List.drop_zero, List.length_zip, dcls_len]; omega)
  rw [show ((0 : Nat) : Int) = 0 by rfl, List.drop_zero] at h2
  rw [h2]
  simp only [Option.bind_some, s11_k1]
  generalize top (dcls M0 p.Items).2 0 [] [] ((dcls M0 p.Items).1.zip p.Items) = r
  obtain ⟨o, F⟩ := r
  cases F with
  | nil => simp
  | cons f F => simp [noSource]
end Go.Proofs.Inc
namespace Go.Aw
open Go.WideShapes Go.ChangeShapes
def reach (P : Program) : List Field → Nat → Option Nat
  | [], n => some n
  | f :: r, n => if f.offset = n then reach P r (n + P.cellsOf f.type) else none
def laysT (P : Program) (d : Option TypeDesc) (c : Nat) : Bool := match d with
  | some (.slice e) => decide (e < P.types.size) && decide (0 < P.cellsOf e)
  | some (.pointer e) => decide (e < P.types.size)
  | some (.map k e) => decide (k < P.types.size) && decide (e < P.types.size)
  | some (.struct fs) => fs.toList.all (fun f => decide (f.type < P.types.size)) && (reach P fs.toList 0 == some c)
  | some (.array n e) => decide (e < P.types.size) && (n * P.cellsOf e == c)
  | _ => true
def lays (P : Program) : Bool := (List.range P.types.size).all fun t => laysT P (P.underlying t) (P.cellsOf t)
theorem lays_at {P : Program} (h : lays P = true) {t : TypeId} (ht : t < P.types.size) {d : TypeDesc} (hu : P.underlying t = some d) : laysT P (some d) (P.cellsOf t) = true := by
  have := List.all_eq_true.1 h t (List.mem_range.2 ht)
  rwa [hu] at this
section
variable {H : Type} {enc : TypeId × Value → H} {P : Program} {w : World} {base : Nat} {sp : Nat → Bool}
theorem step_spare (hl : lays P = true) {r r' : TypeId → List Value → Option (DataW H × List MemPlace)}
    (hr : ∀ t cs x, t < P.types.size → r t cs = some x → (∀ p ∈ x.2, sp p.block = true) → r' t cs = some x) {t : TypeId} (ht : t < P.types.size) {cs : List Value} {x : DataW H × List MemPlace}
    (h : DataW.trodStep enc P w base (fun _ => true) true r t cs = some x) (hs : ∀ p ∈ x.2, sp p.block = true) : DataW.trodStep enc P w base sp true r' t cs = some x := by
  unfold DataW.trodStep at h ⊢
  split at h
  case h_6 e a hu =>
    have he : e < P.types.size := by simpa [laysT] using lays_at hl ht hu
    simp only [Option.map_eq_some_iff, Option.bind_eq_some_iff] at h ⊢
    obtain ⟨y, ⟨cs', hc, hy⟩, rfl⟩ := h
    exact ⟨y, ⟨cs', hc, hr _ _ _ he hy (fun p hp => hs p (by simp [hp]))⟩, rfl⟩
  case h_8 e a len cap hu =>
    have hE : e < P.types.size ∧ 0 < P.cellsOf e := by simpa [laysT] using lays_at hl ht hu
    simp only at h ⊢
    split at h
    · rename_i hc
      rw [if_pos hc]
      simp only [Option.map_eq_some_iff, Option.bind_eq_some_iff, if_true] at h ⊢
      obtain ⟨elems, he, rest, hrest, rfl⟩ := h
      have hrl : rest.length = cap - len := by simpa using mapM_some_length hrest
      have one : ∀ (i : Nat) (y : DataW H × List MemPlace), y ∈ elems ++ rest →
          (w.cells? base (a.add (i * P.cellsOf e)) (P.cellsOf e)).bind (r e) = some y → (w.cells? base (a.add (i * P.cellsOf e)) (P.cellsOf e)).bind (r' e) = some y := by
        intro i y hy hv
        simp only [Option.bind_eq_some_iff] at hv ⊢
        obtain ⟨cs', hc', hy'⟩ := hv
        refine ⟨cs', hc', hr _ _ _ hE.1 hy' (fun p hp => hs p ?_)⟩
        simp only [List.mem_append, List.mem_flatMap]
        right
        exact ⟨y, by simpa using hy, hp⟩
      refine ⟨elems, mapM_carry he (fun i y hi hy => one i y (by simp [hy])), rest, ?_, rfl⟩
      by_cases hsp : sp a.block = true
      · rw [if_pos hsp]
        exact mapM_carry hrest (fun j y hj hy => one (len + j) y (by simp [hy]))
      · rw [if_neg hsp]
        have hpos := hE.2
        cases rest with
        | nil => rfl
        | cons z zs =>
          refine absurd (hs (.cell a.block (a.off + 0)) ?_) hsp
          simp only [List.mem_append]
          left
          exact MemPlace.mem_row.2 ⟨0, Nat.mul_pos (by simp only [List.length_cons]; omega) hpos, rfl⟩
    · cases h
  case h_9 fs cs hu =>
    have hE := lays_at hl ht hu
    simp only [laysT, Bool.and_eq_true, List.all_eq_true, decide_eq_true_eq] at hE
    split at h
    · rename_i hc
      rw [if_pos hc]
      simp only [Option.map_eq_some_iff] at h ⊢
      obtain ⟨xs, hx, rfl⟩ := h
      exact ⟨xs, mapM_carry hx (fun f y hf hy hv => hr _ _ _ (hE.1 f hf) hv (fun p hp => hs p (List.mem_flatMap.2 ⟨y, hy, hp⟩))), rfl⟩
    · cases h
  case h_10 n e cs hu =>
    have hE := lays_at hl ht hu
    simp only [laysT, Bool.and_eq_true, decide_eq_true_eq] at hE
    split at h
    · rename_i hc
      rw [if_pos hc]
      simp only [Option.map_eq_some_iff] at h ⊢
      obtain ⟨xs, hx, rfl⟩ := h
      exact ⟨xs, mapM_carry hx (fun f y _ hy hv => hr _ _ _ hE.1 hv (fun p hp => hs p (List.mem_flatMap.2 ⟨y, hy, hp⟩))), rfl⟩
    · cases h
  case h_12 =>
    exact h
  case h_14 k e b hu =>
    have hE : k < P.types.size ∧ e < P.types.size := by simpa [laysT] using lays_at hl ht hu
    split at h
    · rename_i es clock hb
      split at h
      · rename_i hc
        simp only [Option.bind_eq_some_iff] at h
        obtain ⟨entries, he, hd⟩ := h
        split at hd
        · rename_i hris
          have hx := Option.some.inj hd
          subst hx
          simp only [if_pos hc, Option.bind_eq_some_iff]
          refine ⟨entries, mapM_carry he (fun x y _ hy hv => ?_), by simp [hris]⟩
          simp only [Option.bind_eq_some_iff] at hv ⊢
          obtain ⟨key, hk, hz⟩ := hv
          refine ⟨key, hk, ?_⟩
          split at hz
          · rename_i hf
            rw [if_pos hf]
            simp only [Option.map_eq_some_iff] at hz ⊢
            obtain ⟨q, hq, rfl⟩ := hz
            exact ⟨q, hr _ _ _ hE.2 hq (fun p hp => hs p (by simp only [List.mem_cons, List.mem_flatMap]; right; exact ⟨_, hy, hp⟩)), rfl⟩
          · cases hz
        · cases hd
      · cases h
    · cases h
  all_goals first | exact h | cases h
theorem trod_spare (hl : lays P = true) : ∀ (n : Nat) (t : TypeId) (cs : List Value) (x : DataW H × List MemPlace), t < P.types.size →
    DataW.trod enc P w base (fun _ => true) true n t cs = some x → (∀ p ∈ x.2, sp p.block = true) → DataW.trod enc P w base sp true n t cs = some x := by
  intro n
  induction n with
  | zero => intro t cs x _ h; simp [DataW.trod] at h
  | succ n ih =>
    intro t cs x ht h hs
    rw [DataW.trod_step] at h ⊢
    exact step_spare hl ih ht h hs
theorem all_spare (hl : lays P = true) {w' : World} : ∀ (ts : List TypeId) (vs : List Value) (ds : List (DataW H)) (ps : List MemPlace), (∀ t ∈ ts, t < P.types.size) →
    DataW.TrodAll enc P w base (fun _ => true) true ts vs ds ps → (∀ p ∈ ps, sp p.block = true) → (∀ p ∈ ps, w.sameAt w' p) → DataW.TrodAll enc P w' base sp true ts vs ds ps
  | [], vs, ds, ps, _, h, _, _ => by
    obtain ⟨rfl, rfl, rfl⟩ := trodAll_nil h
    rfl
  | t :: ts, vs, ds, ps, ht, h, hs, hw => by
    obtain ⟨v, vs', d, ds', p, q, rfl, rfl, rfl, ⟨n, h1⟩, h2⟩ := trodAll_cons h
    refine ⟨p, q, ⟨n, ?_⟩, all_spare hl ts vs' ds' q (fun u hu => ht u (List.mem_cons_of_mem _ hu)) h2 (fun x hx => hs x (List.mem_append_right _ hx)) (fun x hx => hw x (List.mem_append_right _ hx)), rfl⟩
    exact DataW.trod_carry n t _ _ (trod_spare hl n t _ _ (ht t (List.mem_cons_self ..)) h1 (fun x hx => hs x (List.mem_append_left _ hx))) (fun x hx => hw x (List.mem_append_left _ hx))
end
def okOne (P : Program) (S : List TypeId) (t : TypeId) : Bool := decide (t < P.types.size) && match P.underlying t with
    | some .bool | some (.int _) | some .string => true
    | some (.pointer e) => decide (0 < P.cellsOf e) && S.contains e
    | some (.slice e) | some (.array _ e) => S.contains e
    | some (.struct fs) => fs.toList.all fun f => S.contains f.type
    | _ => false
def okS (P : Program) (S : List TypeId) : Bool := S.all (okOne P S)
def argAV (P : Program) (t : TypeId) (xs : List AV) : AV := match P.underlying t with
  | some (.struct _) | some (.array _ _) => .agg xs
  | _ => xs.headD .any
def Sh (P : Program) : Nat → TypeId → List AV → Prop
  | 0, _, _ => False
  | n + 1, t, xs => match P.underlying t with
    | some .bool => ∃ b, xs = [.bool b]
    | some (.int k) => ∃ i, xs = [.int k i] ∧ (Lit.int k i).wf = true
    | some .string => ∃ l, xs = [.str l] ∧ l.length ≤ maxLen
    | some (.pointer e) => xs = [.lit (.pointer none)] ∨ ∃ ys, xs = [.ref ys] ∧ Sh P n e ys
    | some (.slice e) => ∃ ys : List (List AV), xs = [.sl (ys.map (argAV P e))] ∧ ys.length ≤ maxLen ∧ ∀ y, y ∈ ys → Sh P n e y
    | some (.struct fs) => ∃ ys : List (List AV), xs = ys.flatten ∧ ys.length = fs.size ∧ ∀ (i : Nat) (f : Field) (y : List AV), fs[i]? = some f → ys[i]? = some y → Sh P n f.type y
    | some (.array m e) => ∃ ys : List (List AV), xs = ys.flatten ∧ ys.length = m ∧ ∀ y, y ∈ ys → Sh P n e y
    | _ => False
mutual
def AV.bulk : AV → Nat
  | .str l => l.length + 1
  | .sl xs => bulkL xs + 1
  | .ref cs => bulkL cs + 1
  | .agg cs => bulkL cs + 1
  | .any => 1
  | .int _ _ => 1
  | .bool _ => 1
  | .lit _ => 1
  | .ptr _ _ _ => 1
  | .row _ _ _ _ _ => 1
  | .nil => 1
  | .tup _ => 1
  | .fn _ _ _ => 1
  | .ifc _ _ => 1
  | .mapv _ _ => 1
def bulkL : List AV → Nat
  | [] => 0
  | x :: r => x.bulk + bulkL r
end
theorem bulk_sl (l : List AV) : (AV.sl l).bulk = bulkL l + 1 := by rw [AV.bulk]
theorem bulk_ref (l : List AV) : (AV.ref l).bulk = bulkL l + 1 := by rw [AV.bulk]
theorem bulk_agg (l : List AV) : (AV.agg l).bulk = bulkL l + 1 := by rw [AV.bulk]
theorem bulk_str (l : List UInt8) : (AV.str l).bulk = l.length + 1 := by rw [AV.bulk]
theorem bulk_int (k : IntKind) (n : Int) : (AV.int k n).bulk = 1 := by rw [AV.bulk]
theorem bulk_bool (b : Bool) : (AV.bool b).bulk = 1 := by rw [AV.bulk]
theorem bulk_lit (v : Value) : (AV.lit v).bulk = 1 := by rw [AV.bulk]
theorem bulkL_app : ∀ (l m : List AV), bulkL (l ++ m) = bulkL l + bulkL m
  | [], m => by simp [bulkL]
  | x :: l, m => by simp only [List.cons_append, bulkL, bulkL_app l m]; omega
structure Bulk (H : Type) where
  b : DataW H → Nat
  l : List (DataW H) → Nat
  str : ∀ s, b (.lit (.string s)) = s.length + 1
  one : ∀ d, 1 ≤ b d
  ptr : ∀ d, b (.ptr d) = b d + 1
  slice : ∀ x y, b (.slice x y) = l x + l y + 1
  agg : ∀ x, b (.agg x) = l x + 1
  nil : l [] = 0
  cons : ∀ d r, l (d :: r) = b d + l r
theorem bulk_flat {H : Type} (B : Bulk H) : ∀ (ys : List (List AV)) (ps : List (DataW H × List MemPlace)), ys.length = ps.length → (∀ (i : Nat) y p, ys[i]? = some y → ps[i]? = some p → bulkL y ≤ B.b p.1) → bulkL ys.flatten ≤ B.l (ps.map (·.1))
  | [], [], _, _ => by simp [bulkL]
  | y :: ys, p :: ps, hl, h => by
    have h0 := h 0 y p rfl rfl
    have := bulk_flat B ys ps (by simpa using hl) (fun i z q hz hq => h (i + 1) z q (by simpa using hz) (by simpa using hq))
    rw [List.flatten_cons, bulkL_app, List.map_cons, B.cons]
    omega
theorem bulk_map {H : Type} (B : Bulk H) (f : List AV → AV) : ∀ (ys : List (List AV)) (ps : List (DataW H × List MemPlace)), ys.length = ps.length → (∀ (i : Nat) y p, ys[i]? = some y → ps[i]? = some p → (f y).bulk ≤ B.b p.1) → bulkL (ys.map f) ≤ B.l (ps.map (·.1))
  | [], [], _, _ => by simp [bulkL]
  | y :: ys, p :: ps, hl, h => by
    have h0 := h 0 y p rfl rfl
    have := bulk_map B f ys ps (by simpa using hl) (fun i z q hz hq => h (i + 1) z q (by simpa using hz) (by simpa using hq))
    rw [List.map_cons, List.map_cons, B.cons, bulkL]
    omega
def BulkOk {H : Type} (P : Program) (t : TypeId) (xs : List AV) (d : DataW H) : Prop := ∀ B : Bulk H, bulkL xs ≤ B.b d ∧ (argAV P t xs).bulk ≤ B.b d
theorem bulkOk_one {H : Type} {P : Program} {t : TypeId} {x : AV} {d : DataW H} (hn : argAV P t [x] = x) (h : ∀ B : Bulk H, x.bulk ≤ B.b d) : BulkOk P t [x] d := fun B => by
  rw [hn]
  exact ⟨by simpa [bulkL] using h B, h B⟩
theorem argAV_cells {P : Program} {n : Nat} {t : TypeId} {xs : List AV} (h : Sh P n t xs) : (argAV P t xs).cells = xs := by
  cases n with
  | zero => exact h.elim
  | succ n =>
    unfold argAV
    unfold Sh at h
    cases hu : P.underlying t with
    | none => rw [hu] at h; exact h.elim
    | some d =>
      rw [hu] at h
      cases d with
      | bool => obtain ⟨_, rfl⟩ := h; rfl
      | int q => obtain ⟨_, rfl, _⟩ := h; rfl
      | string => obtain ⟨_, rfl, _⟩ := h; rfl
      | pointer e => rcases h with rfl | ⟨_, rfl, _⟩ <;> rfl
      | slice e => obtain ⟨_, rfl, _⟩ := h; rfl
      | struct fs => rfl
      | array m e => rfl
      | _ => exact h.elim
def RelL (w : World) (cs : List Value) (xs : List AV) : Prop := xs.length = cs.length ∧ ∀ (j : Nat) (v : Value) (y : AV), cs[j]? = some v → xs[j]? = some y → v.oneCell' = true ∧ Rel (fun _ => False) w v y
theorem relL_one {w : World} {v : Value} {x : AV} (h1 : v.oneCell' = true) (h2 : Rel (fun _ => False) w v x) : RelL w [v] [x] := ⟨rfl, fun j v y hv hy => by
  cases j with
  | zero =>
    simp only [List.getElem?_cons_zero, Option.some.injEq] at hv hy
    rw [← hv, ← hy]
    exact ⟨h1, h2⟩
  | succ j => simp at hv⟩
theorem relL_app {w : World} {cs ds : List Value} {xs ys : List AV} (h : RelL w cs xs) (h' : RelL w ds ys) : RelL w (cs ++ ds) (xs ++ ys) := by
  refine ⟨by simp [h.1, h'.1], fun j v y hv hy => ?_⟩
  by_cases hj : j < cs.length
  · rw [List.getElem?_append_left hj] at hv
    rw [List.getElem?_append_left (by rw [h.1]; exact hj)] at hy
    exact h.2 j v y hv hy
  · rw [List.getElem?_append_right (by omega)] at hv
    rw [List.getElem?_append_right (by rw [h.1]; omega), h.1] at hy
    exact h'.2 _ v y hv hy
theorem glue {w : World} {cs : List Value} : ∀ (ls : List Nat) (ys : List (List AV)) (acc : Nat), ys.length = ls.length → acc + ls.sum ≤ cs.length →
    (∀ (i c : Nat) (y : List AV), ls[i]? = some c → ys[i]? = some y → RelL w ((cs.drop (acc + (ls.take i).sum)).take c) y) → RelL w ((cs.drop acc).take ls.sum) ys.flatten
  | [], [], acc, _, _, _ => ⟨by simp, fun j v y hv => by simp at hv⟩
  | c :: ls, y :: ys, acc, hl, hs, h => by
    simp only [List.sum_cons] at hs
    have h0 := h 0 c y rfl rfl
    simp only [List.take_zero, List.sum_nil, Nat.add_zero] at h0
    have h1 := glue (w := w) (cs := cs) ls ys (acc + c) (by simpa using hl) (by omega) (fun i c' y' hi hy => by
      have := h (i + 1) c' y' (by simpa using hi) (by simpa using hy)
      simpa [Nat.add_assoc] using this)
    have := relL_app h0 h1
    rw [List.flatten_cons, List.sum_cons]
    rw [show (cs.drop acc).take (c + ls.sum) = (cs.drop acc).take c ++ (cs.drop (acc + c)).take ls.sum by rw [List.take_add, List.drop_drop]]
    exact this
theorem reach_sum (P : Program) : ∀ (fs : List Field) (acc n : Nat), reach P fs acc = some n → n = acc + (fs.map fun f => P.cellsOf f.type).sum ∧ ∀ (i : Nat) (f : Field), fs[i]? = some f → f.offset = acc + ((fs.map fun f => P.cellsOf f.type).take i).sum
  | [], acc, n, h => by
    simp only [reach, Option.some.injEq] at h
    exact ⟨by simp [h], fun i f hf => by simp at hf⟩
  | f :: fs, acc, n, h => by
    simp only [reach] at h
    split at h
    · rename_i he
      obtain ⟨h1, h2⟩ := reach_sum P fs _ n h
      refine ⟨by simp [h1, Nat.add_assoc], fun i g hg => ?_⟩
      cases i with
      | zero => simp at hg; subst hg; simpa using he
      | succ i =>
        have := h2 i g (by simpa using hg)
        simp [this, Nat.add_assoc]
    · cases h
theorem exists_list {β : Type} (p : Nat → β → Prop) : ∀ n, (∀ i, i < n → ∃ y, p i y) → ∃ l : List β, l.length = n ∧ ∀ (i : Nat) (y : β), l[i]? = some y → p i y
  | 0, _ => ⟨[], rfl, fun i y h => by simp at h⟩
  | n + 1, h => by
    obtain ⟨l, hl, hp⟩ := exists_list p n (fun i hi => h i (by omega))
    obtain ⟨y, hy⟩ := h n (by omega)
    refine ⟨l ++ [y], by simp [hl], fun i z hz => ?_⟩
    by_cases hi : i < n
    · rw [List.getElem?_append_left (by omega)] at hz
      exact hp i z hz
    · rw [List.getElem?_append_right (by omega)] at hz
      have hi' : i - l.length = 0 := by
        have := (List.getElem?_eq_some_iff.1 hz).1
        simp at this
        omega
      rw [hi'] at hz
      simp at hz
      rw [show i = n by omega, ← hz]
      exact hy
section
variable {H : Type} {enc : TypeId × Value → H} {P : Program} {w : World} {sp : Nat → Bool}
theorem cells_get {a : Addr} {n : Nat} {cs : List Value} (h : w.cells? 0 a n = some cs) : cs.length = n ∧ ∀ (i : Nat) (v : Value), cs[i]? = some v → w.cell? (a.add i) = some v := by
  unfold World.cells? at h
  rw [if_pos (Nat.zero_le _)] at h
  have hl : cs.length = n := by simpa using mapM_some_length h
  refine ⟨hl, fun i v hv => ?_⟩
  have hi : i < n := by rw [← hl]; exact (List.getElem?_eq_some_iff.1 hv).1
  have := mapM_some_get h i i (by simp [hi])
  rw [this]
  exact hv
theorem cell_spot {a : Addr} {v : Value} (h : w.cell? a = some v) : a.spot = none ∧ a.block < w.heap.size := by
  unfold World.cell? at h
  cases hb : w.heap[a.block]? with
  | none => simp [hb] at h
  | some o =>
    refine ⟨?_, (Array.getElem?_eq_some_iff.1 hb).1⟩
    cases o <;> simp [hb] at h
    cases hs : a.spot with
    | none => rfl
    | some _ => simp [hs] at h
theorem add_plain {a : Addr} (h : a.spot = none) (i : Nat) : a.add i = ⟨a.block, a.off + i, none⟩ := by
  unfold Addr.add
  split
  · rename_i h0
    subst h0
    cases a
    simp at h
    simp [h]
  · rfl
theorem trod_sh (hl : lays P = true) {S : List TypeId} (hS : okS P S = true) : ∀ (n : Nat) (t : TypeId) (cs : List Value) (x : DataW H × List MemPlace), t ∈ S → DataW.trod enc P w 0 sp true n t cs = some x → ∃ xs, Sh P n t xs ∧ RelL w cs xs ∧ BulkOk P t xs x.1 := by
  intro k
  induction k with
  | zero => intro t cs x _ h; simp [DataW.trod] at h
  | succ k ih =>
    intro t cs x hin h
    have hok := List.all_eq_true.1 hS t hin
    simp only [okOne, Bool.and_eq_true, decide_eq_true_eq] at hok
    obtain ⟨ht, hok⟩ := hok
    cases hu : P.underlying t with
    | none => simp [hu] at hok
    | some d =>
      rw [hu] at hok
      have hla := lays_at hl ht hu
      cases d with
      | bool =>
        obtain ⟨b, rfl, rfl⟩ := DataW.trod_bool hu h
        exact ⟨[.bool b], by simp [Sh, hu], relL_one rfl (.bool b), bulkOk_one (by simp [argAV, hu]) (fun B => by rw [bulk_bool]; exact B.one _)⟩
      | int q =>
        obtain ⟨i, rfl, rfl, hw⟩ := DataW.trod_int hu h
        exact ⟨[.int q i], by simp [Sh, hu, hw], relL_one rfl (.int q i), bulkOk_one (by simp [argAV, hu]) (fun B => by rw [bulk_int]; exact B.one _)⟩
      | string =>
        obtain ⟨s, rfl, rfl, hs⟩ := DataW.trod_string hu h
        refine ⟨[.str s.data.toList], by simp only [Sh, hu]; exact ⟨_, rfl, hs⟩, relL_one rfl ?_, bulkOk_one (by simp [argAV, hu]) (fun B => by rw [bulk_str, B.str]; exact Nat.le_refl _)⟩
        have := Rel.str (F := fun _ => False) (w := w) s.data.toList
        simpa using this
      | pointer e =>
        rcases DataW.trod_pointer hu h with ⟨rfl, rfl⟩ | ⟨a, cs', y, n', hn', rfl, rfl, hc, hy⟩
        · exact ⟨[.lit (.pointer none)], by simp [Sh, hu], relL_one rfl (.lit _), bulkOk_one (by simp [argAV, hu]) (fun B => by rw [bulk_lit]; exact B.one _)⟩
        · simp only [Bool.and_eq_true, decide_eq_true_eq] at hok
          obtain rfl : k = n' := by omega
          obtain ⟨ys, h1, h2, hbk⟩ := ih e cs' y (List.contains_iff_mem.1 hok.2) hy
          obtain ⟨hcl, hcell⟩ := cells_get hc
          obtain ⟨hsp, hlt⟩ := cell_spot (a := a) (v := cs'[0]'(by omega)) (by
            have := hcell 0 _ (List.getElem?_eq_getElem (by omega))
            simpa [Addr.add] using this)
          have hz : ∀ (j : Nat) (z : AV), ys[j]? = some z → ∃ v, w.cell? ⟨a.block, a.off + j, none⟩ = some v ∧ v.oneCell' = true ∧ Rel (fun _ => False) w v z := fun j z hj => by
            have hlt : j < cs'.length := by rw [← h2.1]; exact (List.getElem?_eq_some_iff.1 hj).1
            have hv := List.getElem?_eq_getElem hlt
            have := hcell j _ hv
            rw [add_plain hsp] at this
            exact ⟨_, this, h2.2 j _ z hv hj⟩
          have ha : a = ⟨a.block, a.off, none⟩ := by cases a; simp at hsp; simp [hsp]
          refine ⟨[.ref ys], by simp only [Sh, hu]; exact .inr ⟨ys, rfl, h1⟩, relL_one rfl ?_, bulkOk_one (by simp [argAV, hu]) (fun B => by rw [bulk_ref, B.ptr]; have := (hbk B).1; omega)⟩
          rw [ha]
          refine .ref a.block a.off ys (fun j => (w.cell? ⟨a.block, a.off + j, none⟩).getD undef) (fun f => f) hlt (fun j z hj => ?_) (fun j z hj => ?_) (fun j z hj => ?_)
          · obtain ⟨v, h3, _⟩ := hz j z hj
            simp [h3]
          · obtain ⟨v, h3, h4, _⟩ := hz j z hj
            simpa [h3] using h4
          · obtain ⟨v, h3, _, h5⟩ := hz j z hj
            simpa [h3] using h5
      | slice e =>
        rcases DataW.trod_slice hu h with ⟨rfl, rfl⟩ | ⟨a, len, cap, elems, rest, n', hn', rfl, rfl, _, hlc, hcm, hel, hE, _⟩
        · exact ⟨[.sl []], by simp only [Sh, hu]; exact ⟨[], rfl, by simp, by simp⟩, relL_one rfl .slnil, bulkOk_one (by simp [argAV, hu]) (fun B => by rw [bulk_sl]; simpa [bulkL] using B.one _)⟩
        · simp only [laysT, Bool.and_eq_true, decide_eq_true_eq] at hla
          obtain rfl : k = n' := by omega
          have hok := List.contains_iff_mem.1 hok
          obtain ⟨ys, hyl, hyp⟩ := exists_list (fun i ys => Sh P k e ys ∧ ∃ cs', w.cells? 0 (a.add (i * P.cellsOf e)) (P.cellsOf e) = some cs' ∧ RelL w cs' ys ∧ ∀ p, elems[i]? = some p → BulkOk P e ys p.1) len (fun i hi => by
            have hx : elems[i]? = some elems[i] := List.getElem?_eq_getElem (by omega)
            have := hE i hi
            rw [hx] at this
            obtain ⟨cs', hc, hy⟩ := Option.bind_eq_some_iff.1 this
            obtain ⟨ys, h1, h2, h3⟩ := ih e cs' _ hok hy
            exact ⟨ys, h1, cs', hc, h2, fun p hp => by rw [hx] at hp; cases hp; exact h3⟩)
          have hmem : ∀ y, y ∈ ys → Sh P k e y := fun y hy => by
            obtain ⟨i, hi⟩ := List.getElem?_of_mem hy
            exact (hyp i y hi).1
          refine ⟨[.sl (ys.map (argAV P e))], by simp only [Sh, hu]; exact ⟨ys, rfl, by omega, hmem⟩, relL_one rfl ?_, bulkOk_one (by simp [argAV, hu]) (fun B => by
            rw [bulk_sl, B.slice]
            have := bulk_map B (argAV P e) ys elems (by omega) (fun i y p hy hp => by
              obtain ⟨_, _, _, _, hb⟩ := hyp i y hy
              exact ((hb p hp) B).2)
            omega)⟩
          · by_cases h0 : len = 0
            · subst h0
              have : ys = [] := List.length_eq_zero_iff.1 hyl
              subst this
              exact .sl0 a cap
            · obtain ⟨y0, hy0⟩ : ∃ y, ys[0]? = some y := ⟨ys[0]'(by omega), List.getElem?_eq_getElem (by omega)⟩
              obtain ⟨_, c0, hc0, hr0, _⟩ := hyp 0 y0 hy0
              obtain ⟨hl0, hg0⟩ := cells_get hc0
              obtain ⟨hsp, hlt⟩ := cell_spot (a := a) (v := c0[0]'(by omega)) (by
                have := hg0 0 _ (List.getElem?_eq_getElem (by omega))
                simpa [Addr.add] using this)
              have hz : ∀ (i : Nat) (y : List AV) (j : Nat) (z : AV), ys[i]? = some y → y[j]? = some z → ∃ v, w.cell? ⟨a.block, a.off + (i * P.cellsOf e + j), none⟩ = some v ∧ v.oneCell' = true ∧ Rel (fun _ => False) w v z := fun i y j z hi hj => by
                obtain ⟨_, c1, hc1, hr1, _⟩ := hyp i y hi
                obtain ⟨hl1, hg1⟩ := cells_get hc1
                have hlt : j < c1.length := by rw [← hr1.1]; exact (List.getElem?_eq_some_iff.1 hj).1
                have hv := List.getElem?_eq_getElem hlt
                have := hg1 j _ hv
                rw [add_plain hsp, add_plain rfl] at this
                simp only [Nat.add_assoc] at this
                exact ⟨_, this, hr1.2 j _ z hv hj⟩
              have hget : ∀ (i : Nat) (x : AV), (ys.map (argAV P e))[i]? = some x → ∃ y, ys[i]? = some y ∧ x = argAV P e y := fun i x hx => by
                rw [List.getElem?_map] at hx
                obtain ⟨y, h1, h2⟩ := Option.map_eq_some_iff.1 hx
                exact ⟨y, h1, h2.symm⟩
              have ha : a = ⟨a.block, a.off, none⟩ := by cases a; simp at hsp; simp [hsp]
              rw [ha]
              refine .sl a.block a.off len cap (P.cellsOf e) _ (fun j => (w.cell? ⟨a.block, a.off + j, none⟩).getD undef) (fun f => f) hlt (by simp [hyl]) hlc (fun i x hx => ?_) (fun i x j z hx hj => ?_) (fun i x j z hx hj => ?_) (fun i x j z hx hj => ?_)
              · obtain ⟨y, hy, rfl⟩ := hget i x hx
                obtain ⟨hsh, c1, hc1, hr1, _⟩ := hyp i y hy
                rw [argAV_cells hsh, hr1.1, (cells_get hc1).1]
              · obtain ⟨y, hy, rfl⟩ := hget i x hx
                rw [argAV_cells (hyp i y hy).1] at hj
                obtain ⟨v, h3, _⟩ := hz i y j z hy hj
                rw [Nat.add_assoc, h3]
                simp [h3]
              · obtain ⟨y, hy, rfl⟩ := hget i x hx
                rw [argAV_cells (hyp i y hy).1] at hj
                obtain ⟨v, h3, h4, _⟩ := hz i y j z hy hj
                simpa [h3] using h4
              · obtain ⟨y, hy, rfl⟩ := hget i x hx
                rw [argAV_cells (hyp i y hy).1] at hj
                obtain ⟨v, h3, _, h5⟩ := hz i y j z hy hj
                simpa [h3] using h5
      | struct fs =>
        simp only [List.all_eq_true] at hok
        obtain ⟨ps, n', hn', rfl, hcl, hpl, hf⟩ := DataW.trod_struct hu h
        obtain rfl : k = n' := by omega
        simp only [laysT, Bool.and_eq_true, beq_iff_eq] at hla
        obtain ⟨hsum, hoff⟩ := reach_sum P fs.toList 0 _ hla.2
        obtain ⟨ys, hyl, hyp⟩ := exists_list (fun i ys => ∀ f, fs[i]? = some f → Sh P k f.type ys ∧ RelL w ((cs.drop f.offset).take (P.cellsOf f.type)) ys ∧ ∀ p, ps[i]? = some p → BulkOk P f.type ys p.1) fs.size (fun i hi => by
          have hfi : fs[i]? = some fs[i] := Array.getElem?_eq_getElem hi
          have hx : ps[i]? = some ps[i] := List.getElem?_eq_getElem (by omega)
          have := hf i _ hfi
          rw [hx] at this
          obtain ⟨ys, h1, h2, h3⟩ := ih _ _ _ (List.contains_iff_mem.1 (hok fs[i] (by simp))) this
          exact ⟨ys, fun f hff => by rw [hfi] at hff; cases hff; exact ⟨h1, h2, fun p hp => by rw [hx] at hp; cases hp; exact h3⟩⟩)
        have hbk : ∀ B : Bulk H, bulkL ys.flatten ≤ B.l (ps.map (·.1)) := fun B => bulk_flat B ys ps (by omega) (fun i y p hy hp => by
          have hi : i < fs.size := by have := (List.getElem?_eq_some_iff.1 hy).1; omega
          exact (((hyp i y hy fs[i] (Array.getElem?_eq_getElem hi)).2.2 p hp) B).1)
        refine ⟨ys.flatten, by simp only [Sh, hu]; exact ⟨ys, rfl, hyl, fun i f y hfi hy => (hyp i y hy f hfi).1⟩, ?_, fun B => by
          have := hbk B
          simp only [argAV, hu, bulk_agg, B.agg]
          omega⟩
        have hg := glue (w := w) (cs := cs) (fs.toList.map fun f => P.cellsOf f.type) ys 0 (by simp [hyl]) (by omega) (fun i c y hi hy => by
          rw [List.getElem?_map] at hi
          cases hfi : fs.toList[i]? with
          | none => simp [hfi] at hi
          | some f =>
            simp only [hfi, Option.map_some, Option.some.injEq] at hi
            rw [← hoff i f hfi, ← hi]
            exact (hyp i y hy f (by simpa using hfi)).2.1)
        rw [List.drop_zero, List.take_of_length_le (by omega)] at hg
        exact hg
      | array m e =>
        simp only [laysT, Bool.and_eq_true, decide_eq_true_eq, beq_iff_eq] at hla
        obtain ⟨ps, n', hn', rfl, hcl, hpl, hE⟩ := DataW.trod_array hu h
        obtain rfl : k = n' := by omega
        have hok := List.contains_iff_mem.1 hok
        obtain ⟨ys, hyl, hyp⟩ := exists_list (fun i ys => Sh P k e ys ∧ RelL w ((cs.drop (i * P.cellsOf e)).take (P.cellsOf e)) ys ∧ ∀ p, ps[i]? = some p → BulkOk P e ys p.1) m (fun i hi => by
          have := hE i hi
          have hx : ps[i]? = some ps[i] := List.getElem?_eq_getElem (by omega)
          rw [hx] at this
          obtain ⟨ys, h1, h2, h3⟩ := ih e _ _ hok this
          exact ⟨ys, h1, h2, fun p hp => by rw [hx] at hp; cases hp; exact h3⟩)
        have hmem : ∀ y, y ∈ ys → Sh P k e y := fun y hy => by
          obtain ⟨i, hi⟩ := List.getElem?_of_mem hy
          exact (hyp i y hi).1
        have hbk : ∀ B : Bulk H, bulkL ys.flatten ≤ B.l (ps.map (·.1)) := fun B => bulk_flat B ys ps (by omega) (fun i y p hy hp => (((hyp i y hy).2.2 p hp) B).1)
        refine ⟨ys.flatten, by simp only [Sh, hu]; exact ⟨ys, rfl, hyl, hmem⟩, ?_, fun B => by
          have := hbk B
          simp only [argAV, hu, bulk_agg, B.agg]
          omega⟩
        · have hg := glue (w := w) (cs := cs) (List.replicate m (P.cellsOf e)) ys 0 (by simp [hyl]) (by simp; omega) (fun i c y hi hy => by
            have him : i < m := by have := (List.getElem?_eq_some_iff.1 hi).1; simpa using this
            have hc : c = P.cellsOf e := by
              rw [List.getElem?_replicate, if_pos him] at hi
              exact (Option.some.inj hi).symm
            rw [List.take_replicate, List.sum_replicate_nat, Nat.min_eq_left (by omega), hc, Nat.zero_add]
            exact (hyp i y hy).2.1)
          rw [List.drop_zero, List.sum_replicate_nat, List.take_of_length_le (by omega)] at hg
          exact hg
      | _ => simp at hok
theorem cell_one {t : TypeId} {v : Value} {r : Reach} {base : Nat} (h : Cell.okWide P w r base t v) : v.oneCell' = true := by
  cases v with
  | agg cs =>
    unfold Cell.okWide Cell.ok at h
    cases hu : P.underlying t with
    | none => simp [hu] at h
    | some d => cases d <;> simp [hu] at h
  | tuple cs =>
    unfold Cell.okWide Cell.ok at h
    cases hu : P.underlying t with
    | none => simp [hu] at h
    | some d => cases d <;> simp [hu] at h
  | _ => rfl
theorem arg_rel {t : TypeId} {v : Value} {xs : List AV} {r : Reach} {base : Nat} (hval : Value.okWide P w r base t v) (h : RelL w v.cells.toList xs) : Rel (fun _ => False) w v (argAV P t xs) := by
  unfold Value.okWide at hval
  unfold argAV
  have one : v.oneCell' = true → Rel (fun _ => False) w v (xs.headD .any) := fun h1 => by
    have hc : v.cells = #[v] := by cases v <;> first | rfl | cases h1
    rw [hc] at h
    obtain ⟨hl, hr⟩ := h
    obtain ⟨x, rfl⟩ := List.length_eq_one_iff.1 (show xs.length = 1 by simpa using hl)
    exact (hr 0 v x rfl rfl).2
  split at hval
  · rename_i fs hu
    obtain ⟨cs, rfl, _⟩ := hval
    rw [hu]
    exact .agg cs xs (by simpa [Value.cells] using h.1.symm) (fun j u hj => by
      have hlt := (Array.getElem?_eq_some_iff.1 hj).1
      have hx : xs[j]? = some (xs[j]'(by rw [h.1]; simpa [Value.cells] using hlt)) := List.getElem?_eq_getElem _
      exact (h.2 j u _ (by simpa [Value.cells] using hj) hx).1) (fun j u y hj hy => (h.2 j u y (by simpa [Value.cells] using hj) hy).2)
  · rename_i m e hu
    obtain ⟨cs, rfl, _⟩ := hval
    rw [hu]
    exact .agg cs xs (by simpa [Value.cells] using h.1.symm) (fun j u hj => by
      have hlt := (Array.getElem?_eq_some_iff.1 hj).1
      have hx : xs[j]? = some (xs[j]'(by rw [h.1]; simpa [Value.cells] using hlt)) := List.getElem?_eq_getElem _
      exact (h.2 j u _ (by simpa [Value.cells] using hj) hx).1) (fun j u y hj hy => (h.2 j u y (by simpa [Value.cells] using hj) hy).2)
  · rename_i h1 h2
    have : (match P.underlying t with | some (.struct _) | some (.array _ _) => AV.agg xs | _ => xs.headD .any) = xs.headD .any := by
      split
      · rename_i hu; exact absurd hu (h1 _)
      · rename_i hu; exact absurd hu (h2 _ _)
      · rfl
    rw [this]
    exact one (cell_one hval)
inductive Args (P : Program) : List TypeId → List AV → Prop
  | nil : Args P [] []
  | cons (t : TypeId) (ts : List TypeId) (xs : List AV) (ar : List AV) (n : Nat) (h : Sh P n t xs) (hr : Args P ts ar) : Args P (t :: ts) (argAV P t xs :: ar)
theorem args_of (hl : lays P = true) {S : List TypeId} (hS : okS P S = true) {r : Reach} {base : Nat} : ∀ (ts : List TypeId) (vs : List Value) (ds : List (DataW H)) (ps : List MemPlace), (∀ t ∈ ts, t ∈ S) → DataW.TrodAll enc P w 0 sp true ts vs ds ps →
    (∀ (j : Nat) t v, ts[j]? = some t → vs[j]? = some v → Value.okWide P w r base t v) → ∃ ar, Args P ts ar ∧ (∀ B : Bulk H, bulkL ar ≤ B.l ds) ∧ vs.length = ar.length ∧ ∀ (j : Nat) (v : Value) (y : AV), vs[j]? = some v → ar[j]? = some y → Rel (fun _ => False) w v y
  | [], vs, ds, ps, _, h, _ => by
    obtain ⟨rfl, rfl, rfl⟩ := trodAll_nil h
    exact ⟨[], .nil, fun B => by simp [bulkL], rfl, fun j v y hv => by simp at hv⟩
  | t :: ts, vs, ds, ps, hok, h, hval => by
    obtain ⟨v, vs', d, ds', p, q, rfl, rfl, rfl, ⟨n, h1⟩, h2⟩ := trodAll_cons h
    obtain ⟨xs, hx, hr, hb⟩ := trod_sh hl hS n t _ _ (hok t (List.mem_cons_self ..)) h1
    obtain ⟨ar, ha, hba, hal, har⟩ := args_of hl hS ts vs' ds' q (fun u hu => hok u (List.mem_cons_of_mem _ hu)) h2 (fun j u z hu hz => hval (j + 1) u z (by simpa using hu) (by simpa using hz))
    refine ⟨argAV P t xs :: ar, .cons t ts xs ar n hx ha, fun B => by rw [B.cons, bulkL]; have := hba B; have := (hb B).2; simp only at this; omega, by simp [hal], fun j u y hu hy => ?_⟩
    cases j with
    | zero =>
      simp only [List.getElem?_cons_zero, Option.some.injEq] at hu hy
      rw [← hu, ← hy]
      exact arg_rel (hval 0 t v rfl rfl) hr
    | succ j => exact har j u y (by simpa using hu) (by simpa using hy)
end
end Go.Aw
namespace Go.Aw
open Go.WideShapes Go.ChangeShapes Go.RowKit
section
variable {H : Type} {enc : TypeId × Value → H} {P : Program}
theorem law_contract {f : Func} {fid : FuncId} {s : ChangeSpec} {tb : TypeId} {S : List TypeId} (hl : lays P = true) (hS : okS P S = true) (hts : f.params.toList.all (fun t => S.contains t) = true) (hvars : s.vars = [])
    (hfn : ∀ ds : List (DataW H), ds.length = f.params.size → s.fn H ds = { results := [.lit (.bool true)], args := ds }) (hres : f.resultTypes = #[tb]) (hub : P.underlying tb = some .bool)
    (W : World) (base : Nat) (args : Array Value) (ds gs : List (DataW H)) (before : List MemPlace) (law : ∀ ar, Args P f.params.toList ar → (∀ B : Bulk H, bulkL ar ≤ B.l (ds ++ gs)) → PureC P fid ar (.bool true))
    (hval : ∀ (j : Nat) t v, f.params[j]? = some t → args[j]? = some v → Value.okWide P W .any base t v)
    (hW : DataW.Whole enc P f.params.toList s.vars false W args.toList ds gs before) :
    Calls P fid args W fun e W' => ∃ v, e = .returned v ∧ s.post enc P f false true false false W args v W' := by
  have hW' := hW
  obtain ⟨p, q, hA, hV, rfl, hfz, hnd⟩ := hW
  rw [hvars] at hV
  obtain ⟨rfl, rfl⟩ := trodVars_none hV
  simp only [List.append_nil] at hW' hfz hnd
  have hok : ∀ t ∈ f.params.toList, t ∈ S := fun t ht => List.contains_iff_mem.1 (List.all_eq_true.1 hts t ht)
  obtain ⟨ar, hargs, hbk, hal, har⟩ := args_of hl hS f.params.toList args.toList ds p hok hA (fun j t v ht hv => hval j t v (by simpa using ht) (by simpa using hv))
  have hlt : ∀ t ∈ f.params.toList, t < P.types.size := fun t ht => by
    have := List.all_eq_true.1 hS t (hok t ht)
    simp only [okOne, Bool.and_eq_true, decide_eq_true_eq] at this
    exact this.1
  have hdl : ds.length = f.params.size := by
    have : ∀ (ts : List TypeId) (vs : List Value) (ds : List (DataW H)) (ps : List MemPlace), DataW.TrodAll enc P W 0 (fun _ => true) true ts vs ds ps → ds.length = ts.length := by
      intro ts
      induction ts with
      | nil => intro vs ds ps h; obtain ⟨_, rfl, _⟩ := trodAll_nil h; rfl
      | cons t ts ih =>
        intro vs ds ps h
        obtain ⟨_, _, _, _, _, _, _, rfl, _, _, h2⟩ := trodAll_cons h
        simp [ih _ _ _ h2]
    simpa using this _ _ _ _ hA
  refine (law ar hargs (fun B => by simpa using hbk B) (fun _ => False) args W (by simpa using hal) (fun j v y hv hy => (har j v y (by simpa using hv) hy).mono (Grow.refl _ _) (fun b _ hb => hb.elim (fun f => f) (fun h => by simp [Own.has] at h))) ⟨fun e he => by simp at he, List.nodup_nil, fun b hb => by simp [Own.has] at hb, fun b hb => hb.elim⟩).mono ?_
  rintro e W' ⟨r, own', ⟨rfl, rfl⟩, ⟨v, rfl, hv⟩, _, hg, _⟩
  cases hv
  have hb : Below W.heap.size W W' := ⟨hg.os, hg.tape, hg.out, hg.sz, fun b hb => hg.same b hb (fun h => by simp [Own.has] at h)⟩
  have hps : ∀ x ∈ p, x.block < W.heap.size := fun x hx => hW'.lt x hx
  have again : ∀ sp : Nat → Bool, (∀ x ∈ p, sp x.block = true) → DataW.TrodAll enc P W' 0 sp true f.params.toList args.toList ds p := fun sp hsp =>
    all_spare hl _ _ _ _ hlt hA hsp (fun x hx => hb.same (hps x hx))
  have hfn' := hfn ds hdl
  have res : ∀ (b : Nat) (sp : Nat → Bool) (hd : Bool), DataW.TrodAll enc P W' b sp hd f.resultTypes.toList ((Value.bool true).resultList f.resultTypes.size) (s.fn H (ds ++ [])).results [] := fun b sp hd => by
    rw [List.append_nil, hfn', hres]
    exact trodAll_cons_mk (shut_bool hub true) trodAll_mk0
  have arg : ∀ sp : Nat → Bool, (∀ x ∈ p, sp x.block = true) → DataW.TrodAll enc P W' 0 sp true f.params.toList args.toList (s.fn H (ds ++ [])).args p := fun sp hsp => by
    rw [List.append_nil, hfn']
    exact again sp hsp
  have vr : ∀ sp : Nat → Bool, DataW.TrodVars enc P W' sp s.vars (s.fn H (ds ++ [])).vars [] := fun sp => by
    rw [hvars, List.append_nil, hfn']
    rfl
  refine ⟨_, rfl, ds, [], p, [], p, [], hW', res _ _ _, arg _ (fun x hx => by simpa using hps x hx), vr _, hb.frame _, fun _ => ?_⟩
  refine ⟨ok_one hres rfl (okWide_bool_mk hub _), _, _, ([] ++ p) ++ [], ⟨[] ++ p, [], trodAll_append (arg _ (fun _ _ => rfl)) (res _ _ _), vr _, rfl, ?_, ?_⟩, ?_⟩
  · intro b off hp
    have hp' : MemPlace.cell b off ∈ p := by simpa using hp
    rw [hb.frozen (p := ⟨b, off, none⟩) (hps _ hp')]
    exact hfz b off hp'
  · intro ha
    simpa using hnd ha
  · intro x hp _
    simpa using hp
end
end Go.Aw
namespace Go.Aw
section
variable {P : Program} {k : Nat} {t : TypeId} {xs : List AV}
theorem sh_int {q : IntKind} (hu : P.underlying t = some (.int q)) (h : Sh P (k + 1) t xs) : ∃ n, xs = [.int q n] ∧ (Lit.int q n).wf = true := by simpa only [Sh, hu] using h
theorem sh_string (hu : P.underlying t = some .string) (h : Sh P (k + 1) t xs) : ∃ l, xs = [.str l] ∧ l.length ≤ maxLen := by simpa only [Sh, hu] using h
theorem sh_slice {e : TypeId} (hu : P.underlying t = some (.slice e)) (h : Sh P (k + 1) t xs) : ∃ ys : List (List AV), xs = [.sl (ys.map (argAV P e))] ∧ ys.length ≤ maxLen ∧ ∀ y, y ∈ ys → Sh P k e y := by simpa only [Sh, hu] using h
theorem arg_int {q : IntKind} (hu : P.underlying t = some (.int q)) {x : AV} : argAV P t [x] = x := by simp [argAV, hu]
theorem arg_string (hu : P.underlying t = some .string) {x : AV} : argAV P t [x] = x := by simp [argAV, hu]
theorem arg_slice {e : TypeId} (hu : P.underlying t = some (.slice e)) {x : AV} : argAV P t [x] = x := by simp [argAV, hu]
theorem args_nil {ar : List AV} (h : Args P [] ar) : ar = [] := by cases h; rfl
theorem args_cons {ts : List TypeId} {ar : List AV} (h : Args P (t :: ts) ar) : ∃ xs ar' n, ar = argAV P t xs :: ar' ∧ Sh P n t xs ∧ Args P ts ar' := by
  cases h with
  | cons _ _ xs ar' n h hr => exact ⟨xs, ar', n, rfl, h, hr⟩
theorem sh_zero (h : Sh P 0 t xs) : False := h
theorem rdl {α : Type} {f : α → List AV} {g : α → AV} {ok : α → Prop} {e : TypeId} {n : Nat} (hu : P.underlying t = some (.slice e)) (hg : ∀ a, argAV P e (f a) = g a)
    (H : ∀ m, m < n + 1 → ∀ y, Sh P m e y → ∃ a, y = f a ∧ ok a) (h : Sh P (n + 1) t xs) : ∃ l : List α, xs = [.sl (l.map g)] ∧ ∀ a, a ∈ l → ok a := by
  obtain ⟨ys, rfl, hlen, hy⟩ := sh_slice hu h
  have : ∃ l : List α, ys = l.map f ∧ ∀ a, a ∈ l → ok a := by
    clear h hlen
    induction ys with
    | nil => exact ⟨[], rfl, fun a ha => by simp at ha⟩
    | cons y ys ih =>
      obtain ⟨a, rfl, oa⟩ := H n (by omega) y (hy y (List.mem_cons_self ..))
      obtain ⟨l, rfl, ol⟩ := ih (fun z hz => hy z (List.mem_cons_of_mem _ hz))
      exact ⟨a :: l, rfl, fun b hb => by rcases List.mem_cons.1 hb with rfl | hb; exact oa; exact ol b hb⟩
  obtain ⟨l, rfl, ol⟩ := this
  refine ⟨l, ?_, ol⟩
  rw [List.map_map]
  congr 2
  exact List.map_congr_left fun a _ => hg a
theorem rng_u8 {n : Int} (h : (Lit.int .u8 n).wf = true) : 0 ≤ n ∧ n ≤ 255 := by simpa [Lit.wf, IntKind.min, IntKind.max, IntKind.signed, IntKind.bits] using h
theorem rng_u16 {n : Int} (h : (Lit.int .u16 n).wf = true) : 0 ≤ n ∧ n ≤ 65535 := by simpa [Lit.wf, IntKind.min, IntKind.max, IntKind.signed, IntKind.bits] using h
end
end Go.Aw
set_option maxRecDepth 100000
namespace Go.Proofs.Inc
open Go.Aw
theorem rd5 : ∀ (n : Nat) (xs : List AV), Sh Try.prog n 5 xs → ∃ a : Int, xs = [.int .u8 a] ∧ (0 ≤ a ∧ a ≤ 255) := by
  intro n xs h
  cases n with
  | zero => exact (sh_zero h).elim
  | succ n =>
    obtain ⟨a, rfl, w⟩ := sh_int Try.underlying5 h
    exact ⟨a, rfl, rng_u8 w⟩
theorem rd54 : ∀ (n : Nat) (xs : List AV), Sh Try.prog n 54 xs → ∃ a : List Int, xs = [.sl (List.map (AV.int .u8) a)] ∧ (∀ a1, a1 ∈ a → 0 ≤ a1 ∧ a1 ≤ 255) := by
  intro n xs h
  cases n with
  | zero => exact (sh_zero h).elim
  | succ n => exact rdl (f := fun a => [.int .u8 a]) (g := fun a => .int .u8 a) (ok := fun a => 0 ≤ a ∧ a ≤ 255) Try.underlying54 (fun a => arg_int Try.underlying5) (fun m hm y hy => rd5 m y hy) h
theorem rd48 : ∀ (n : Nat) (xs : List AV), Sh Try.prog n 48 xs → ∃ a : Int, xs = [.int .u16 a] ∧ (0 ≤ a ∧ a ≤ 65535) := by
  intro n xs h
  cases n with
  | zero => exact (sh_zero h).elim
  | succ n =>
    obtain ⟨a, rfl, w⟩ := sh_int Try.underlying48 h
    exact ⟨a, rfl, rng_u16 w⟩
theorem rd55 : ∀ (n : Nat) (xs : List AV), Sh Try.prog n 55 xs → ∃ a : List Int, xs = [.sl (List.map (AV.int .u16) a)] ∧ (∀ a1, a1 ∈ a → 0 ≤ a1 ∧ a1 ≤ 65535) := by
  intro n xs h
  cases n with
  | zero => exact (sh_zero h).elim
  | succ n => exact rdl (f := fun a => [.int .u16 a]) (g := fun a => .int .u16 a) (ok := fun a => 0 ≤ a ∧ a ≤ 65535) Try.underlying55 (fun a => arg_int Try.underlying48) (fun m hm y hy => rd48 m y hy) h
theorem rd9 : ∀ (n : Nat) (xs : List AV), Sh Try.prog n 9 xs → ∃ a : List UInt8, xs = [.str a] ∧ (List.length a ≤ 9223372036854775807) := by
  intro n xs h
  cases n with
  | zero => exact (sh_zero h).elim
  | succ n =>
    obtain ⟨a, rfl, w⟩ := sh_string Try.underlying9 h
    exact ⟨a, rfl, w⟩
end Go.Proofs.Inc
namespace Go.Proofs.Inc
open Go.Aw
inductive Dp (B : Nat) : Item → Prop
  | mk (x : Item) (name : x.Name.length ≤ B) (conds : x.Conds.length ≤ NB) (cname : ∀ c, c ∈ x.Conds → c.Name.length ≤ B) (names : x.Names.length ≤ NB) (dates : x.Dates.length ≤ NB) (items : x.Items.length ≤ NB) (rec : ∀ y, y ∈ x.Items → Dp B y) : Dp B x
theorem Dp.name {B : Nat} {x : Item} (h : Dp B x) : x.Name.length ≤ B := by cases h; assumption
theorem Dp.conds {B : Nat} {x : Item} (h : Dp B x) : x.Conds.length ≤ NB := by cases h; assumption
theorem Dp.cname {B : Nat} {x : Item} (h : Dp B x) : ∀ c, c ∈ x.Conds → c.Name.length ≤ B := by cases h; assumption
theorem Dp.names {B : Nat} {x : Item} (h : Dp B x) : x.Names.length ≤ NB := by cases h; assumption
theorem Dp.dates {B : Nat} {x : Item} (h : Dp B x) : x.Dates.length ≤ NB := by cases h; assumption
theorem Dp.items {B : Nat} {x : Item} (h : Dp B x) : x.Items.length ≤ NB := by cases h; assumption
theorem Dp.sub {B : Nat} {x : Item} (h : Dp B x) : ∀ y, y ∈ x.Items → Dp B y := by cases h; assumption
theorem Dp.mono {B C : Nat} (hBC : B ≤ C) {x : Item} (h : Dp B x) : Dp C x := by
  induction h with
  | mk x h1 h2 h3 h4 h5 h6 h7 ih => exact .mk x (by omega) h2 (fun c hc => by have := h3 c hc; omega) h4 h5 h6 ih
theorem Dp.bd {B : Nat} (hB : B ≤ 1099511627776) {x : Item} (h : Dp B x) : Bd x := ⟨by have := h.name; omega, h.conds, fun c hc => by have := h.cname c hc; omega, h.names⟩
theorem Dp.bdT {B : Nat} (hB : B ≤ 1099511627776) {x : Item} (h : Dp B x) : BdT x := ⟨h.names, h.items, fun y hy => (h.sub y hy).bd hB⟩
inductive Dq : Item → Prop
  | mk (x : Item) (conds : x.Conds.length ≤ NB) (names : x.Names.length ≤ NB) (dates : x.Dates.length ≤ NB) (items : x.Items.length ≤ NB) (rec : ∀ y, y ∈ x.Items → Dq y) : Dq x
theorem Dq.conds {x : Item} (h : Dq x) : x.Conds.length ≤ NB := by cases h; assumption
theorem Dq.names {x : Item} (h : Dq x) : x.Names.length ≤ NB := by cases h; assumption
theorem Dq.dates {x : Item} (h : Dq x) : x.Dates.length ≤ NB := by cases h; assumption
theorem Dq.items {x : Item} (h : Dq x) : x.Items.length ≤ NB := by cases h; assumption
theorem Dq.sub {x : Item} (h : Dq x) : ∀ y, y ∈ x.Items → Dq y := by cases h; assumption
theorem bdS_of {p : Source} {B : Nat} (hB : B ≤ 1099511627776) (h1 : iszl p.Items ≤ 1099511627776) (h2 : ∀ x, x ∈ p.Items → Dp B x) : BdS p := ⟨h1, fun t ht => (h2 t ht).bdT hB⟩
set_option maxRecDepth 100000 in
theorem s9_true : s9 8388608 = some true := by kernel_rfl
end Go.Proofs.Inc
namespace Go.Proofs.Inc
open Go.Aw
theorem incl_stop (M : Maps) : ∀ (k : Nat) (c : Int) (o : List Item) (q : List Str) (u : Item), (incl M k c o q u).2.1 = true → (incl M k c o q u).1 ≠ 0
  | 0, c, o, q, u, _ => by simp [incl]
  | k + 1, c, o, q, u, h => by
    revert h
    unfold incl
    by_cases hc : 600 < c + 1
    · rw [if_pos hc]; simp
    rw [if_neg hc]
    cases ht : mlook u.Of M.t with
    | none => simp
    | some t =>
      simp only
      by_cases hn : t.Names.length ≠ u.Names.length
      · rw [if_pos hn]; simp
      rw [if_neg hn]
      by_cases hq : (find q u.Of).isSome = true
      · rw [if_pos hq]; simp
      rw [if_neg hq]
      by_cases hm : 24 < u.Name.length
      · rw [if_pos hm]; simp
      rw [if_neg hm]
      refine runL_inv (Inv := fun (s : Int × List Item × List Str) => True) (Q := fun (r : R) => r.2.1 = true → r.1 ≠ 0) t.Items (fun i s a ha hs => ?_) (fun s hs => by simp) 0 _ trivial
      unfold stepI
      by_cases hk : (inst t u a).Kind = 14
      · rw [if_pos hk]
        by_cases hr : (incl M k s.1 s.2.1 s.2.2 (inst t u a)).1 = 0
        · rw [if_pos hr]; trivial
        · rw [if_neg hr]; exact fun _ => hr
      · rw [if_neg hk]
        by_cases hcl : clause (inst t u a).Kind = true
        · rw [if_pos hcl]
          by_cases hr : (add M s.1 s.2.1 s.2.2 (inst t u a) 24).1 = 0
          · rw [if_pos hr]; trivial
          · rw [if_neg hr]; exact fun _ => hr
        · rw [if_neg hcl]; simp
theorem add_stop {M : Maps} {c : Int} {o : List Item} {q : List Str} {y : Item} {most : Int} : (add M c o q y most).2.1 = true → (add M c o q y most).1 ≠ 0 := by
  unfold add
  by_cases hc : 600 < c + 1
  · rw [if_pos hc]; simp
  rw [if_neg hc]
  by_cases hm : most < (y.Name.length : Int)
  · rw [if_pos hm]; simp
  rw [if_neg hm]
  by_cases hk : clause y.Kind = true
  · rw [if_pos hk]; cases dfn M y <;> simp
  · rw [if_neg hk]; simp
def one (M : Maps) (c : Int) (o : List Item) (y : Item) : R := if y.Kind = 14 then incl M 600 c o [] y else add M c o [] y y.Name.length
theorem one_stop {M : Maps} {c : Int} {o : List Item} {y : Item} : (one M c o y).2.1 = true → (one M c o y).1 ≠ 0 := by
  unfold one
  split
  · exact incl_stop M 600 c o [] y
  · exact add_stop
def gd (M : Maps) : Int → List Item → List (Int × Item) → Option (List Item)
  | _, o, [] => some o
  | c, o, p :: l => if defines p.2.Kind then (if p.1 = 0 then gd M c o l else none) else (if (one M c o p.2).1 = 0 then gd M (one M c o p.2).2.2.1 (one M c o p.2).2.2.2.1 l else none)
theorem top_grow (M : Maps) : ∀ (l : List (Int × Item)) (c : Int) (o : List Item) (F : List Fault), F ≠ [] → (top M c o F l).2 ≠ []
  | [], c, o, F, h => h
  | p :: l, c, o, F, h => by
    have hF : ∀ e : Int, (if e = 0 then F else F ++ [(⟨e, p.2.At⟩ : Fault)]) ≠ [] := fun e => by
      by_cases he : e = 0
      · simpa [he] using h
      · rw [if_neg he]; simp
    unfold top
    by_cases hd : defines p.2.Kind = true
    · rw [if_pos hd]; exact top_grow M l c o _ (hF _)
    rw [if_neg hd]
    have step : ∀ r : R, (if r.2.1 = true then (r.2.2.2.1, (if r.1 = 0 then F else F ++ [(⟨r.1, p.2.At⟩ : Fault)])) else top M r.2.2.1 r.2.2.2.1 (if r.1 = 0 then F else F ++ [(⟨r.1, p.2.At⟩ : Fault)]) l).2 ≠ [] := fun r => by
      split
      · exact hF _
      · exact top_grow M l _ _ _ (hF _)
    exact step (one M c o p.2)
theorem top_gd (M : Maps) : ∀ (l : List (Int × Item)) (c : Int) (o : List Item), match gd M c o l with
    | some o' => top M c o [] l = (o', [])
    | none => (top M c o [] l).2 ≠ []
  | [], c, o => rfl
  | p :: l, c, o => by
    unfold gd top
    by_cases hd : defines p.2.Kind = true
    · rw [if_pos hd, if_pos hd]
      by_cases h0 : p.1 = 0
      · rw [if_pos h0, if_pos h0]; exact top_gd M l c o
      · rw [if_neg h0, if_neg h0]; exact top_grow M l c o _ (by simp)
    · rw [if_neg hd, if_neg hd]
      show match (if (one M c o p.2).1 = 0 then gd M (one M c o p.2).2.2.1 (one M c o p.2).2.2.2.1 l else none) with
        | some o' => (let r := one M c o p.2; let F' := if r.1 = 0 then [] else [] ++ [(⟨r.1, p.2.At⟩ : Fault)]; if r.2.1 = true then (r.2.2.2.1, F') else top M r.2.2.1 r.2.2.2.1 F' l) = (o', [])
        | none => (let r := one M c o p.2; let F' := if r.1 = 0 then [] else [] ++ [(⟨r.1, p.2.At⟩ : Fault)]; if r.2.1 = true then (r.2.2.2.1, F') else top M r.2.2.1 r.2.2.2.1 F' l).2 ≠ []
      simp only
      by_cases h0 : (one M c o p.2).1 = 0
      · rw [if_pos h0, if_pos h0]
        have hs : (one M c o p.2).2.1 = false := by
          cases h : (one M c o p.2).2.1 with
          | false => rfl
          | true => exact absurd h0 (one_stop h)
        rw [hs]
        simp only [Bool.false_eq_true, if_false]
        exact top_gd M l _ _
      · rw [if_neg h0, if_neg h0]
        simp only
        split
        · simp
        · exact top_grow M l _ _ _ (by simp)
def exg (p : Source) : Option (List Item) := if 600 < iszl p.Items then none else gd (dcls M0 p.Items).2 0 [] ((dcls M0 p.Items).1.zip p.Items)
theorem expand_exg (p : Source) : match exg p with
    | some o => expand p = ({ p with Items := o }, [])
    | none => (expand p).2 ≠ [] ∧ (expand p).1 = noSource := by
  unfold exg expand
  by_cases hs : 600 < iszl p.Items
  · rw [if_pos hs, if_pos hs]; simp
  rw [if_neg hs, if_neg hs]
  have := top_gd (dcls M0 p.Items).2 ((dcls M0 p.Items).1.zip p.Items) 0 []
  cases hg : gd (dcls M0 p.Items).2 0 [] ((dcls M0 p.Items).1.zip p.Items) with
  | some o =>
    rw [hg] at this
    simp only at this ⊢
    rw [this]
    simp
  | none =>
    rw [hg] at this
    simp only at this ⊢
    rw [if_neg this]
    exact ⟨this, rfl⟩
end Go.Proofs.Inc
namespace Go.Proofs.Inc
open Go.Aw
structure Kept (y z : Item) : Prop where
  kind : z.Kind = y.Kind
  name : z.Name = y.Name
  at_ : z.At = y.At
  conds : z.Conds = y.Conds
  names : z.Names = y.Names
  dates : z.Dates = y.Dates
  items : z.Items = y.Items
theorem Kept.refl (y : Item) : Kept y y := ⟨rfl, rfl, rfl, rfl, rfl, rfl, rfl⟩
theorem Kept.trans {x y z : Item} (h : Kept x y) (k : Kept y z) : Kept x z := ⟨k.1.trans h.1, k.2.trans h.2, k.3.trans h.3, k.4.trans h.4, k.5.trans h.5, k.6.trans h.6, k.7.trans h.7⟩
end Go.Proofs.Inc
namespace Go.Proofs.Inc
open Go.Aw
theorem clause_k {k : Int} (h : clause k = true) : 9 ≤ k ∧ k ≠ 14 := by
  simp only [clause, decide_eq_true_eq] at h
  omega
theorem runL_idx {α τ ρ : Type} {g : Nat → τ} {fin : List τ → ρ} : ∀ (l : List α) (i : Nat) (s : List τ), runL (fun i s _ => .inl (s ++ [g i])) fin i s l = fin (s ++ (List.range' i l.length).map g)
  | [], i, s => by simp [runL]
  | a :: l, i, s => by
    rw [runL]; simp only; rw [runL_idx l (i + 1)]
    simp [List.range'_succ]
def ltr (i : Nat) : Str := List.drop i (List.take (i + 1) lit1)
def itm (k d : List Int) (i : Nat) : Item :=
  { Kind := 9 + Int.tmod (k[i]!) 4, Name := ltr i, At := 0, Of := [63, 114], Act := [63, 97], Word := 0, Times := i, Within := { Days := d[i]!, Business := false, Name := [] }, Grace := { Days := 0, Business := false, Name := [] }, Conds := if i = 0 then [] else [{ Name := ltr (i - 1), Is := 2 }, { Name := [122, 57], Is := 3 }], By := [], Until := [], Num := { Num := 0, Den := 0 }, Unit := [], Sum := [], Final := decide (99 < k[i]!), Give := [], To := [], Days := { e0 := false, e1 := false, e2 := false, e3 := false, e4 := false, e5 := false, e6 := false }, Dates := [], Names := [], Items := [] }
def itms (k d : List Int) : List Item := (List.range k.length).map (itm k d)
def tpl (l : List Item) : Item := { Kind := 13, Name := [116], At := 0, Of := [], Act := [], Word := 0, Times := 0, Within := { Days := 0, Business := false, Name := [] }, Grace := { Days := 0, Business := false, Name := [] }, Conds := [], By := [], Until := [], Num := { Num := 0, Den := 0 }, Unit := [], Sum := [], Final := false, Give := [], To := [], Days := { e0 := false, e1 := false, e2 := false, e3 := false, e4 := false, e5 := false, e6 := false }, Dates := [], Names := [[63, 114], [63, 97]], Items := l }
def inc (r a : Str) : Item := { Kind := 14, Name := [112], At := 5, Of := [116], Act := [], Word := 0, Times := 0, Within := { Days := 0, Business := false, Name := [] }, Grace := { Days := 0, Business := false, Name := [] }, Conds := [], By := [], Until := [], Num := { Num := 0, Den := 0 }, Unit := [], Sum := [], Final := false, Give := [], To := [], Days := { e0 := false, e1 := false, e2 := false, e3 := false, e4 := false, e5 := false, e6 := false }, Dates := [], Names := [r, a], Items := [] }
theorem ltr_len {i : Nat} (h : i < 26) : (ltr i).length = 1 := by
  have hl : (lit1).length = 26 := by rfl
  unfold ltr
  rw [List.length_drop, List.length_take, hl]
  omega
theorem itm_kind {k d : List Int} {i : Nat} (h0 : 0 ≤ k[i]!) : clause (itm k d i).Kind = true := by
  show clause (9 + Int.tmod (k[i]!) 4) = true
  have h1 := Int.tmod_lt_of_pos (k[i]!) (show (0 : Int) < 4 by omega)
  have h2 := Int.tmod_nonneg 4 h0
  simp only [clause, decide_eq_true_eq]
  omega
theorem inst_itm {k d : List Int} {r a : Str} {l : List Item} {i : Nat} (h0 : 0 ≤ k[i]!) :
    inst (tpl l) (inc r a) (itm k d i) = { itm k d i with Of := r, Act := a, Conds := (itm k d i).Conds.map (cnd (tpl l) (inc r a)), Name := [112, 46] ++ ltr i, At := 5 } := by
  unfold inst
  rw [if_pos (itm_kind h0)]
  rfl
theorem means_own {y : Item} (h : clause y.Kind = true) : means y.Name y = true := by
  simp [means, h]
theorem hit_len {n : Str} (h : n.length = 1) : hit [[63, 114], [63, 97]] n = false := by
  match n, h with
  | [c], _ => simp [hit, find]
theorem conds_itm {k d : List Int} {r a : Str} {i : Nat} (hi : i < k.length) (hk : k.length ≤ 20) (h0 : ∀ x, x ∈ k → (0 : Int) ≤ x) :
    (itm k d i).Conds.map (cnd (tpl (itms k d)) (inc r a)) = if i = 0 then [] else [⟨[112, 46] ++ ltr (i - 1), 2⟩, ⟨[122, 57], 3⟩] := by
  unfold itm
  simp only
  split
  · rfl
  · rename_i hi0
    have hget : ∀ j : Nat, j < k.length → (0 : Int) ≤ k[j]! := fun j hj => by rw [getElem!_pos k j hj]; exact h0 _ (List.getElem_mem hj)
    have h1 : hit (tpl (itms k d)).Names (ltr (i - 1)) = false := hit_len (ltr_len (by omega))
    have h2 : loc (tpl (itms k d)) (ltr (i - 1)) = true := by
      refine List.any_eq_true.2 ⟨itm k d (i - 1), List.mem_map.2 ⟨i - 1, List.mem_range.2 (by omega), rfl⟩, ?_⟩
      exact means_own (y := itm k d (i - 1)) (itm_kind (hget _ (by omega)))
    have h3 : loc (tpl (itms k d)) [122, 57] = false := by
      refine List.any_eq_false.2 fun y hy => ?_
      obtain ⟨j, hj, rfl⟩ := List.mem_map.1 hy
      have hj := List.mem_range.1 hj
      have e1 : (itm k d j).Name ≠ [122, 57] := fun e => by
        have := ltr_len (i := j) (by omega)
        rw [show ltr j = [122, 57] from e] at this
        cases this
      have e2 : (itm k d j).Kind ≠ 14 := fun e => by
        have := (clause_k (itm_kind (k := k) (d := d) (hget j hj))).2
        omega
      simp [means, e1, e2]
    simp only [List.map_cons, List.map_nil]
    have c1 : cnd (tpl (itms k d)) (inc r a) ⟨ltr (i - 1), 2⟩ = ⟨[112, 46] ++ ltr (i - 1), 2⟩ := by
      unfold cnd
      simp only
      rw [h1, h2]
      rfl
    have c2 : cnd (tpl (itms k d)) (inc r a) ⟨[122, 57], 3⟩ = ⟨[122, 57], 3⟩ := by
      unfold cnd
      simp only
      rw [show hit (tpl (itms k d)).Names [122, 57] = false by rfl, h3]
      rfl
    rw [c1, c2]
theorem dfn_plain {M : Maps} {y : Item} (h1 : y.Within.Name = []) (h2 : y.Grace.Name = []) (h3 : y.Sum = []) : dfn M y = some y := by
  simp [dfn, dfn1, dfn2, dfn3, h1, h2, h3]
theorem runL_go {α σ ρ : Type} {f : Nat → σ → α → σ ⊕ ρ} {fin : σ → ρ} {g : σ → α → σ} {Inv : Nat → σ → Prop} (L : Nat) : ∀ (l : List α) (i : Nat) (s : σ), i + l.length ≤ L → (∀ i s a, i < L → a ∈ l → Inv i s → f i s a = .inl (g s a) ∧ Inv (i + 1) (g s a)) → Inv i s → runL f fin i s l = fin (l.foldl g s)
  | [], _, _, _, _, _ => rfl
  | a :: l, i, s, hL, h, h0 => by
    rw [List.length_cons] at hL
    obtain ⟨h1, h2⟩ := h i s a (by omega) (List.mem_cons_self ..) h0
    rw [runL, h1]
    exact runL_go L l (i + 1) _ (by omega) (fun i s b hi hb => h i s b hi (List.mem_cons_of_mem _ hb)) h2
theorem fold_app {α τ β : Type} {g : α → τ} : ∀ (l : List α) (c : Int) (o : List τ) (q : β), l.foldl (fun (s : Int × List τ × β) a => (s.1 + 1, s.2.1 ++ [g a], s.2.2)) (c, o, q) = (c + l.length, o ++ l.map g, q)
  | [], c, o, q => by simp
  | a :: l, c, o, q => by
    rw [List.foldl_cons, fold_app l]
    simp only [List.length_cons, List.map_cons, List.append_assoc, List.cons_append, List.nil_append, Prod.mk.injEq, and_true]
    omega
theorem iszl_itms (k d : List Int) : iszl (itms k d) = k.length := by
  have : ∀ l : List Nat, iszl (l.map (itm k d)) = l.length := fun l => by
    induction l with
    | nil => simp [iszl_nil]
    | cons x l ih => rw [List.map_cons, iszl_cons, ih, show (itm k d x).Items = [] by rfl, iszl_nil, List.length_cons]; omega
  rw [itms, this, List.length_range]
theorem exg_copies {k d : List Int} {r a : Str} (hk : k.length ≤ 20) (h0 : ∀ x, x ∈ k → (0 : Int) ≤ x) :
    exg ⟨[], ⟨0, 0, 0⟩, 0, [inc r a, tpl (itms k d)]⟩ = some ((itms k d).map (inst (tpl (itms k d)) (inc r a))) := by
  have hl : (itms k d).length = k.length := by simp [itms]
  have hsz := iszl_itms k d
  have hs : iszl [inc r a, tpl (itms k d)] = k.length + 2 := by
    rw [iszl_cons, iszl_cons, iszl_nil, show (tpl (itms k d)).Items = itms k d by rfl, show (inc r a).Items = [] by rfl, iszl_nil, hsz]
    omega
  have hget : ∀ j : Nat, j < k.length → (0 : Int) ≤ k[j]! := fun j hj => by rw [getElem!_pos k j hj]; exact h0 _ (List.getElem_mem hj)
  unfold exg
  simp only
  rw [hs, if_neg (by omega)]
  have hd : dcls M0 [inc r a, tpl (itms k d)] = ([0, 0], ⟨[([116], tpl (itms k d))], [], []⟩) := by rfl
  rw [hd]
  obtain ⟨M, hM⟩ : ∃ M : Maps, M = ⟨[([116], tpl (itms k d))], [], []⟩ := ⟨_, rfl⟩
  simp only [← hM]
  show gd M 0 [] [(0, inc r a), (0, tpl (itms k d))] = _
  have hone : one M 0 [] (inc r a) = (0, false, 1 + (k.length : Int), (itms k d).map (inst (tpl (itms k d)) (inc r a)), []) := by
    unfold one
    rw [if_pos (by rfl), show (600 : Nat) = 599 + 1 by rfl]
    unfold incl
    rw [if_neg (by omega)]
    have hm : mlook (inc r a).Of M.t = some (tpl (itms k d)) := by rw [hM]; rfl
    rw [hm]
    simp only
    rw [if_neg (by simp [tpl, inc]), if_neg (by simp [find]), if_neg (by simp [inc])]
    rw [show (tpl (itms k d)).Items = itms k d by rfl]
    rw [runL_go (g := fun (s : Int × List Item × List Str) y => (s.1 + 1, s.2.1 ++ [inst (tpl (itms k d)) (inc r a) y], s.2.2)) (Inv := fun i s => s.1 = 1 + (i : Int)) 20 (itms k d) 0 (0 + 1, [], [] ++ [(inc r a).Of]) (by omega)]
    · rw [fold_app]
      simp [hl]
    · intro i s y hi hy hs
      obtain ⟨j, hj, rfl⟩ := List.mem_map.1 hy
      have hj := List.mem_range.1 hj
      refine ⟨?_, by simp only; omega⟩
      have hc := itm_kind (d := d) (hget j hj)
      obtain ⟨z, hz⟩ : ∃ z : Item, z = { itm k d j with Of := r, Act := a, Conds := (itm k d j).Conds.map (cnd (tpl (itms k d)) (inc r a)), Name := [112, 46] ++ ltr j, At := 5 } := ⟨_, rfl⟩
      rw [inst_itm (hget j hj), ← hz]
      have zk : z.Kind = (itm k d j).Kind := by rw [hz]
      have zn : z.Name.length = 3 := by
        rw [hz]
        show ([112, 46] ++ ltr j : Str).length = 3
        rw [List.length_append, ltr_len (by omega)]
        rfl
      have e : add M s.1 s.2.1 s.2.2 z 24 = (0, false, s.1 + 1, s.2.1 ++ [z], s.2.2) := by
        unfold add
        rw [if_neg (by omega), if_neg (by omega), zk, if_pos hc, dfn_plain (by rw [hz]; rfl) (by rw [hz]; rfl) (by rw [hz]; rfl)]
      unfold stepI
      rw [inst_itm (hget j hj), ← hz, if_neg (by rw [zk]; exact (clause_k hc).2), zk, if_pos hc, e, if_pos rfl]
    · simp
  unfold gd
  rw [if_neg (by simp [inc, defines]), hone]
  simp only [if_true]
  unfold gd
  rw [if_pos (by rfl), if_pos rfl]
  rfl
theorem s8_true {p1 p2 : List Int} {p3 p4 : Str} (o0 : ∀ x, x ∈ p1 → (0 : Int) ≤ x ∧ x ≤ 255) (o1 : ∀ x, x ∈ p2 → (0 : Int) ≤ x ∧ x ≤ 65535) : s8 8388608 p1 p2 p3 p4 = some true := by
  simp only [s8, s9_true, Option.bind_some]
  by_cases g1 : 20 < (List.length p1 : Int)
  · rw [if_pos g1]
  rw [if_neg g1]
  by_cases g2 : (List.length p2 : Int) < (List.length p1 : Int)
  · rw [if_pos g2]
  rw [if_neg g2]
  by_cases g3 : p3 = []
  · rw [if_pos g3]
  rw [if_neg g3]
  by_cases g4 : 24 < (List.length p3 : Int)
  · rw [if_pos g4]
  rw [if_neg g4]
  by_cases g5 : p4 = []
  · rw [if_pos g5]
  rw [if_neg g5]
  by_cases g6 : 24 < (List.length p4 : Int)
  · rw [if_pos g6]
  rw [if_neg g6]
  have h0 : ∀ x, x ∈ p1 → (0 : Int) ≤ x := fun x hx => (o0 x hx).1
  have hl26 : (lit1).length = 26 := by rfl
  have hil : (itms p1 p2).length = p1.length := by simp [itms]
  have hloop : iter (fun p => s8_b3 8388608 p1 p2 p.1 p.2) 8388608 ([], 0) = some _ := iter_list (fun (s : List Item) i => (s, i)) [] p1 (fun i s _ => .inl (s ++ [itm p1 p2 i])) (fun s => (s, lit1)) (fun i s => s.length = i) (fun i s a hi hs => by
    obtain ⟨ha, hlt⟩ := getI hi
    obtain ⟨a0, a1⟩ := o0 a (List.mem_of_getElem? hi)
    have b2 : i < p2.length := by omega
    have bm : p2[i]! ∈ p2 := by rw [getElem!_pos p2 i b2]; exact List.getElem_mem b2
    obtain ⟨d0, d1⟩ := o1 _ bm
    have t1 := Int.tmod_lt_of_pos a (show (0 : Int) < 4 by omega)
    have t2 := Int.tmod_nonneg 4 a0
    refine ⟨?_, fun s' e => by cases e; simp; omega⟩
    simp only [s8_b3]
    rw [if_pos (by omega), grd_pos (by omega), grd_pos (by rw [wr_succ (by omega), hl26]; omega), grd_pos (by omega), toNat_nat, ha, wr_succ (by omega), toNat_nat, wr (n := Int.tmod a 4) (by omega) (by omega), wr (n := 9 + Int.tmod a 4) (by omega) (by omega), wr (n := p2[i]!) (by omega) (by omega)]
    by_cases hi0 : i = 0
    · rw [if_neg (by omega), grd_pos (by omega)]
      simp only [itm, hi0, if_pos trivial, ltr]
      rw [← ha, hi0]
    · rw [if_pos (by omega), wr (by omega) (by omega), grd_pos (by rw [hl26]; omega), grd_pos (by omega)]
      simp only [itm, if_neg hi0, ltr]
      rw [ha, show ((i : Int) - 1).toNat = i - 1 by omega, show i - 1 + 1 = i by omega]) (fun s hs => by
    simp only [s8_b3]
    rw [if_neg (by omega)]) (by omega) rfl
  rw [hloop, runL_idx]
  simp only [Option.bind_some, List.nil_append, s8_k2]
  rw [show (List.range' 0 p1.length).map (itm p1 p2) = itms p1 p2 by rw [itms, List.range_eq_range']]
  obtain ⟨q, hq⟩ : ∃ q : Source, q = ⟨[], ⟨0, 0, 0⟩, 0, [inc p3 p4, tpl (itms p1 p2)]⟩ := ⟨_, rfl⟩
  show (s11 8388608 (⟨[], ⟨0, 0, 0⟩, 0, [inc p3 p4, tpl (itms p1 p2)]⟩ : Source)).bind _ = _
  rw [← hq]
  have qi : q.Items = [inc p3 p4, tpl (itms p1 p2)] := by rw [hq]
  have hsz : iszl (itms p1 p2) = p1.length := iszl_itms p1 p2
  have hqs : iszl q.Items ≤ 30 := by
    rw [qi, iszl_cons, iszl_cons, iszl_nil, show (tpl (itms p1 p2)).Items = itms p1 p2 by rfl, show (inc p3 p4).Items = [] by rfl, iszl_nil, hsz]
    omega
  have hqd : ∀ y, y ∈ q.Items → Dp 1048576 y := fun y hy => by
    rw [qi] at hy
    rcases List.mem_cons.1 hy with h | h
    · rw [h]; exact .mk _ (by simp [inc]) (by simp [inc]) (by simp [inc]) (by simp [inc, NB]) (by simp [inc]) (by simp [inc]) (by simp [inc])
    · rw [List.mem_singleton.1 h]
      refine .mk _ (by simp [tpl]) (by simp [tpl]) (by simp [tpl]) (by simp [tpl, NB]) (by simp [tpl]) (by show (itms p1 p2).length ≤ NB; unfold NB; omega) (fun y hy => ?_)
      obtain ⟨j, hj, rfl⟩ := List.mem_map.1 hy
      have hj := List.mem_range.1 hj
      have hn := ltr_len (i := j) (by omega)
      have hn1 := ltr_len (i := j - 1) (by omega)
      refine .mk _ (by show (ltr j).length ≤ _; omega) ?_ (fun c hc => ?_) (by simp [itm]) (by simp [itm]) (by simp [itm]) (by simp [itm])
      · show (if j = 0 then _ else _ : List Named).length ≤ NB
        unfold NB; split <;> simp
      · have hc : c ∈ (if j = 0 then [] else [⟨ltr (j - 1), 2⟩, ⟨[122, 57], 3⟩] : List Named) := hc
        split at hc
        · cases hc
        · rcases List.mem_cons.1 hc with h | h
          · rw [h]; simp only; omega
          · rw [List.mem_singleton.1 h]; simp
  rw [s11_eq (bdS_of (B := 1048576) (by omega) (by omega) hqd) (by unfold NB; omega) (by omega)]
  simp only [Option.bind_some]
  have e1 := expand_exg q
  rw [show exg q = some ((itms p1 p2).map (inst (tpl (itms p1 p2)) (inc p3 p4))) by rw [hq]; exact exg_copies (by omega) h0] at e1
  simp only at e1
  rw [e1]
  simp only [List.length_nil, List.length_map, hil]
  rw [if_neg (by omega), if_pos trivial]
  obtain ⟨out, ho⟩ : ∃ l : List Item, l = (itms p1 p2).map (inst (tpl (itms p1 p2)) (inc p3 p4)) := ⟨_, rfl⟩
  have hol : out.length = p1.length := by rw [ho, List.length_map, hil]
  rw [← ho]
  have hl2 : iter (fun r => s8_b1 8388608 p3 p4 (itms p1 p2) lit1 (({ q with Items := out } : Source), []) r) 8388608 0 = some _ := iter_list (fun (_ : Unit) i => i) () out (fun i _ a => .inl ()) (fun _ => .brk ()) (fun _ _ => True) (fun i s a hi _ => by
    obtain ⟨ha, hlt⟩ := getI hi
    refine ⟨?_, fun _ _ => trivial⟩
    have hik : i < p1.length := by omega
    have hgi : (itms p1 p2)[i]! = itm p1 p2 i := by
      rw [getElem!_pos _ i (by omega)]
      simp [itms]
    have ea : a = { itm p1 p2 i with Of := p3, Act := p4, Conds := if i = 0 then [] else [⟨[112, 46] ++ ltr (i - 1), 2⟩, ⟨[122, 57], 3⟩], Name := [112, 46] ++ ltr i, At := 5 } := by
      have hg : (0 : Int) ≤ p1[i]! := by rw [getElem!_pos p1 i hik]; exact h0 _ (List.getElem_mem hik)
      rw [← conds_itm (d := p2) (r := p3) (a := p4) hik (by omega) h0, ← inst_itm hg]
      rw [ho, List.getElem?_map] at hi
      obtain ⟨y, hy, rfl⟩ := Option.map_eq_some_iff.1 hi
      rw [← (getI hy).1, hgi]
    have hn := ltr_len (i := i) (by omega)
    have kk : a.Kind = (itm p1 p2 i).Kind := by rw [ea]
    have kn : a.Name = [112, 46] ++ List.drop i (List.take (i + 1) lit1) := by rw [ea]; rfl
    have ko : a.Of = p3 := by rw [ea]
    have kc : a.Act = p4 := by rw [ea]
    have kt : a.Times = (i : Int) := by rw [ea]; rfl
    have kw : a.Within = (itm p1 p2 i).Within := by rw [ea]
    have kf : (a.Final == (itm p1 p2 i).Final) = true := by rw [ea]; simp
    have k5 : a.At = 5 := by rw [ea]
    have kd : a.Conds = if i = 0 then [] else [⟨[112, 46] ++ ltr (i - 1), 2⟩, ⟨[122, 57], 3⟩] := by rw [ea]
    have kl : (List.length a.Conds : Int) = (List.length (itm p1 p2 i).Conds : Int) := by
      rw [kd]
      show _ = (List.length (if i = 0 then _ else _ : List Named) : Int)
      split <;> rfl
    clear ea
    simp only [s8_b1]
    rw [if_pos (by omega), grd_pos (by omega), grd_pos (by omega), toNat_nat, ha, hgi, if_pos kk, grd_pos (by rw [wr_succ (by omega), hl26]; omega), wr_succ (by omega), toNat_nat, grd_pos (by rw [show List.drop i (List.take (i + 1) lit1) = ltr i by rfl]; omega), if_pos kn, if_pos ko, if_pos kc, if_pos kt, if_pos kw, kf, cond_true, if_pos k5, if_pos kl]
    by_cases hi0 : i = 0
    · rw [if_neg (by omega)]
    · rw [if_neg hi0] at kd
      have hn1 := ltr_len (i := i - 1) (by omega)
      have e1 : List.drop (IntKind.wrap .i64 ((i : Int) - 1)).toNat (List.take i lit1) = ltr (i - 1) := by
        rw [wr (by omega) (by omega), show ((i : Int) - 1).toNat = i - 1 by omega, ltr, show i - 1 + 1 = i by omega]
      rw [if_pos (by omega), kd, grd_pos (by simp), grd_pos (by rw [wr (by omega) (by omega), hl26]; omega), e1, grd_pos (by omega)]
      simp [grd_pos]) (fun s _ => by
    simp only [s8_b1]
    rw [if_neg (by omega)]) (by omega) trivial
  rw [hl2, runL_fold]
  rfl
theorem law8 (a0 : List Int) (o0 : ∀ a1, a1 ∈ a0 → 0 ≤ a1 ∧ a1 ≤ 255) (a1 : List Int) (o1 : ∀ a2, a2 ∈ a1 → 0 ≤ a2 ∧ a2 ≤ 65535) (a2 : Str) (o2 : List.length a2 ≤ 9223372036854775807) (a3 : Str) (o3 : List.length a3 ≤ 9223372036854775807) (hb : bulkL [.sl (List.map (AV.int .u8) a0), .sl (List.map (AV.int .u16) a1), .str a2, .str a3] ≤ 1048576) : PureC Try.prog 8 [.sl (List.map (AV.int .u8) a0), .sl (List.map (AV.int .u16) a1), .str a2, .str a3] (.bool true) := c8 8388608 a0 a1 a2 a3 true (s8_true o0 o1)
end Go.Proofs.Inc
