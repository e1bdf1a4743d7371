/- For every argument of bulk at most 1048576, estoppellaw09.IncludeCopies returns true and leaves its arguments as they were. (Part 5 of what its proof rests on.) -/
import Derived.Test.YtpbhebjfblidlaaPd
set_option linter.unusedSimpArgs false
set_option linter.unusedVariables false
set_option linter.deprecated false
namespace Go.Proofs.Inc
open Go.Aw
set_option maxRecDepth 100000
attribute [-go_sem] nisA_sl appA_nil
def zr11_0 : List AO := [⟨some 1, none, .box (.t 0)⟩,
  ⟨some 2, none, .alloc [.str [], .int .i64 0, .int .i64 0, .int .i64 0, .int .i64 0, .nil]⟩,
  ⟨some 3, none, .mov (.c (.nil))⟩]
def zr11_1 : List AO := [⟨some 13, none, .fadr 5 (.t 1)⟩,
  ⟨some 14, none, .load false 1 (.t 13)⟩,
  ⟨some 15, none, .callF 24 [(.t 14), (.c (.int .i64 600))]⟩,
  ⟨some 16, none, .bin .gtr (.t 15) (.c (.int .i64 600))⟩]
def zr11_2 : List AO := [⟨some 17, none, .bld [.str [], .int .i64 0, .int .i64 0, .int .i64 0, .int .i64 0, .nil] []⟩,
  ⟨some 18, none, .bld [.int .i64 0, .int .i64 0] [(0, 1, (.c (.int .i64 3)))]⟩,
  ⟨some 19, none, .mkrow 2 1 [.int .i64 0, .int .i64 0] [(0, 2, (.t 18))]⟩,
  ⟨none, none, .store 6 (.t 2) (.t 17)⟩,
  ⟨some 3, none, .mov (.t 19)⟩]
def zc11_0 : AC := .seq (.reg zr11_2) .ret
def zc11_1 : AC := .cond (.t 16) zc11_0 .skip
def zr11_3 : List AO := [⟨some 20, none, .mkmap⟩,
  ⟨some 21, none, .mkmap⟩,
  ⟨some 22, none, .mkmap⟩,
  ⟨some 23, none, .bld [.lit (.map none), .lit (.map none), .lit (.map none), .int .i64 0, .nil, .nil] [(0, 1, (.t 20)), (1, 1, (.t 21)), (2, 1, (.t 22))]⟩,
  ⟨some 24, none, .box (.t 23)⟩,
  ⟨some 4, none, .mov (.t 24)⟩]
def zr11_4 : List AO := [⟨some 25, none, .fadr 5 (.t 1)⟩,
  ⟨some 26, none, .load false 1 (.t 25)⟩,
  ⟨some 27, none, .len (.t 26)⟩,
  ⟨some 28, none, .mkslice 1 8 [.int .i64 0] (.t 27)⟩,
  ⟨some 5, none, .mov (.t 28)⟩]
def zr11_5 : List AO := [⟨some 29, none, .fadr 5 (.t 1)⟩,
  ⟨some 30, none, .load false 1 (.t 29)⟩,
  ⟨some 31, none, .len (.t 30)⟩,
  ⟨some 32, none, .mov (.c (.int .i64 0))⟩]
def zr11_6 : List AO := [⟨some 33, none, .bin .lss (.t 32) (.t 31)⟩]
def zr11_7 : List AO := [⟨some 34, none, .mov (.t 32)⟩,
  ⟨some 35, none, .iadr 33 (.t 30) (.t 32)⟩,
  ⟨some 36, none, .load true 33 (.t 35)⟩,
  ⟨some 7, none, .alloc [.int .i64 0, .str [], .int .i64 0, .str [], .str [], .int .i64 0, .int .i64 0, .int .i64 0, .bool false, .str [], .int .i64 0, .bool false, .str [], .nil, .str [], .str [], .int .i64 0, .int .i64 0, .str [], .str [], .bool false, .str [], .str [], .bool false, .bool false, .bool false, .bool false, .bool false, .bool false, .bool false, .nil, .nil, .nil]⟩,
  ⟨some 6, none, .mov (.t 34)⟩,
  ⟨none, none, .store 33 (.t 7) (.t 36)⟩]
def zr11_8 : List AO := [⟨some 37, none, .mov (.t 5)⟩,
  ⟨some 38, none, .mov (.t 6)⟩,
  ⟨some 39, none, .mov (.t 4)⟩,
  ⟨some 40, none, .load true 33 (.t 7)⟩,
  ⟨some 41, none, .callF 25 [(.t 39), (.t 40)]⟩,
  ⟨some 42, none, .iadr 1 (.t 37) (.t 38)⟩,
  ⟨none, none, .store 1 (.t 42) (.t 41)⟩]
def zc11_2 : AC := .reg zr11_8
def zc11_3 : AC := .seq (.reg zr11_7) zc11_2
def zr11_9 : List AO := [⟨some 43, none, .bin .add (.t 32) (.c (.int .i64 1))⟩,
  ⟨some 32, none, .mov (.t 43)⟩]
def zc11_4 : AC := .reg zr11_9
def zc11_5 : AC := .seq (.block 1 zc11_3) zc11_4
def zc11_6 : AC := .seq (.cond (.t 33) .skip (.exit 0)) zc11_5
def zc11_7 : AC := .seq (.reg zr11_6) zc11_6
def zc11_8 : AC := .loop zc11_7
def zc11_9 : AC := .block 0 zc11_8
def zr11_10 : List AO := [⟨some 8, none, .mov (.c (.nil))⟩]
def zr11_11 : List AO := [⟨some 44, none, .fadr 5 (.t 1)⟩,
  ⟨some 45, none, .load false 1 (.t 44)⟩,
  ⟨some 46, none, .len (.t 45)⟩,
  ⟨some 47, none, .mov (.c (.int .i64 0))⟩]
def zr11_12 : List AO := [⟨some 48, none, .bin .lss (.t 47) (.t 46)⟩]
def zr11_13 : List AO := [⟨some 49, none, .mov (.t 47)⟩,
  ⟨some 50, none, .iadr 33 (.t 45) (.t 47)⟩,
  ⟨some 51, none, .load true 33 (.t 50)⟩,
  ⟨some 10, none, .alloc [.int .i64 0, .str [], .int .i64 0, .str [], .str [], .int .i64 0, .int .i64 0, .int .i64 0, .bool false, .str [], .int .i64 0, .bool false, .str [], .nil, .str [], .str [], .int .i64 0, .int .i64 0, .str [], .str [], .bool false, .str [], .str [], .bool false, .bool false, .bool false, .bool false, .bool false, .bool false, .bool false, .nil, .nil, .nil]⟩,
  ⟨some 9, none, .mov (.t 49)⟩,
  ⟨none, none, .store 33 (.t 10) (.t 51)⟩]
def zr11_14 : List AO := [⟨some 52, none, .mov (.t 5)⟩,
  ⟨some 53, none, .mov (.t 9)⟩,
  ⟨some 54, none, .iadr 1 (.t 52) (.t 53)⟩,
  ⟨some 55, none, .load false 1 (.t 54)⟩,
  ⟨some 11, none, .mov (.t 55)⟩,
  ⟨some 12, none, .mov (.c (.bool false))⟩]
def zr11_15 : List AO := [⟨some 56, none, .fadr 0 (.t 10)⟩,
  ⟨some 57, none, .load false 1 (.t 56)⟩]
def zr11_16 : List AO := [⟨some 68, none, .bin .eql (.t 57) (.c (.int .i64 13))⟩,
  ⟨some 67, none, .mov (.t 68)⟩]
def zr11_17 : List AO := [⟨some 69, none, .bin .eql (.t 57) (.c (.int .i64 6))⟩,
  ⟨some 67, none, .mov (.t 69)⟩]
def zr11_18 : List AO := [⟨some 70, none, .bin .eql (.t 57) (.c (.int .i64 7))⟩,
  ⟨some 67, none, .mov (.t 70)⟩]
def zc11_10 : AC := .reg zr11_18
def zc11_11 : AC := .cond (.t 67) .skip zc11_10
def zc11_12 : AC := .seq (.reg zr11_17) zc11_11
def zc11_13 : AC := .cond (.t 67) .skip zc11_12
def zr11_19 : List AO := [⟨some 72, none, .bin .eql (.t 57) (.c (.int .i64 14))⟩,
  ⟨some 71, none, .mov (.t 72)⟩]
def zr11_20 : List AO := [⟨some 73, none, .mov (.t 4)⟩,
  ⟨some 74, none, .nilc (.t 73)⟩,
  ⟨some 75, none, .fadr 5 (.t 74)⟩,
  ⟨none, none, .store 1 (.t 75) (.c (.nil))⟩]
def zr11_21 : List AO := [⟨some 77, none, .mov (.t 4)⟩,
  ⟨some 78, none, .load true 33 (.t 10)⟩,
  ⟨some 79, none, .callF 26 [(.t 77), (.t 78)]⟩,
  ⟨some 76, none, .mov (.t 79)⟩,
  ⟨some 80, none, .ext 0 (.t 76)⟩,
  ⟨some 81, none, .ext 1 (.t 76)⟩,
  ⟨some 11, none, .mov (.t 80)⟩,
  ⟨some 12, none, .mov (.t 81)⟩]
def zc11_14 : AC := .reg zr11_21
def zc11_15 : AC := .seq (.reg zr11_20) zc11_14
def zr11_22 : List AO := [⟨some 59, none, .mov (.t 4)⟩,
  ⟨some 60, none, .load true 33 (.t 10)⟩,
  ⟨some 61, none, .fadr 1 (.t 10)⟩,
  ⟨some 62, none, .load false 1 (.t 61)⟩,
  ⟨some 63, none, .lenS (.t 62)⟩,
  ⟨some 64, none, .callF 27 [(.t 59), (.t 60), (.t 63)]⟩,
  ⟨some 58, none, .mov (.t 64)⟩,
  ⟨some 65, none, .ext 0 (.t 58)⟩,
  ⟨some 66, none, .ext 1 (.t 58)⟩,
  ⟨some 11, none, .mov (.t 65)⟩,
  ⟨some 12, none, .mov (.t 66)⟩]
def zc11_16 : AC := .reg zr11_22
def zc11_17 : AC := .cond (.t 71) zc11_15 zc11_16
def zc11_18 : AC := .seq (.reg zr11_19) zc11_17
def zc11_19 : AC := .cond (.t 67) .skip zc11_18
def zc11_20 : AC := .seq (.seq (.reg zr11_16) zc11_13) zc11_19
def zc11_21 : AC := .block 4 zc11_20
def zr11_23 : List AO := [⟨some 82, none, .mov (.t 11)⟩,
  ⟨some 83, none, .bin .neq (.t 82) (.c (.int .i64 0))⟩]
def zr11_24 : List AO := [⟨some 84, none, .mov (.t 8)⟩,
  ⟨some 85, none, .mov (.t 11)⟩,
  ⟨some 86, none, .fadr 2 (.t 10)⟩,
  ⟨some 87, none, .load false 1 (.t 86)⟩,
  ⟨some 88, none, .bld [.int .i64 0, .int .i64 0] [(0, 1, (.t 85)), (1, 1, (.t 87))]⟩,
  ⟨some 89, none, .mkrow 2 1 [.int .i64 0, .int .i64 0] [(0, 2, (.t 88))]⟩,
  ⟨some 90, none, .app 2 16 (.t 84) (.t 89)⟩,
  ⟨some 8, none, .mov (.t 90)⟩]
def zc11_22 : AC := .reg zr11_24
def zc11_23 : AC := .cond (.t 83) zc11_22 .skip
def zr11_25 : List AO := [⟨some 91, none, .mov (.t 12)⟩]
def zc11_24 : AC := .cond (.t 91) (.exit 2) .skip
def zc11_25 : AC := .seq (.reg zr11_25) zc11_24
def zc11_26 : AC := .seq (.seq (.reg zr11_23) zc11_23) zc11_25
def zc11_27 : AC := .seq (.seq (.reg zr11_15) zc11_21) zc11_26
def zc11_28 : AC := .seq (.reg zr11_14) zc11_27
def zc11_29 : AC := .seq (.reg zr11_13) zc11_28
def zr11_26 : List AO := [⟨some 92, none, .bin .add (.t 47) (.c (.int .i64 1))⟩,
  ⟨some 47, none, .mov (.t 92)⟩]
def zc11_30 : AC := .reg zr11_26
def zc11_31 : AC := .seq (.block 3 zc11_29) zc11_30
def zc11_32 : AC := .seq (.cond (.t 48) .skip (.exit 2)) zc11_31
def zc11_33 : AC := .seq (.reg zr11_12) zc11_32
def zc11_34 : AC := .loop zc11_33
def zc11_35 : AC := .block 2 zc11_34
def zr11_27 : List AO := [⟨some 93, none, .mov (.t 8)⟩,
  ⟨some 94, none, .len (.t 93)⟩,
  ⟨some 95, none, .bin .gtr (.t 94) (.c (.int .i64 0))⟩]
def zr11_28 : List AO := [⟨some 96, none, .bld [.str [], .int .i64 0, .int .i64 0, .int .i64 0, .int .i64 0, .nil] []⟩,
  ⟨some 97, none, .mov (.t 8)⟩,
  ⟨none, none, .store 6 (.t 2) (.t 96)⟩,
  ⟨some 3, none, .mov (.t 97)⟩]
def zc11_36 : AC := .seq (.reg zr11_28) .ret
def zc11_37 : AC := .cond (.t 95) zc11_36 .skip
def zr11_29 : DT := (.pur ⟨some 98, none, .fadr 0 (.t 1)⟩ (.pur ⟨some 99, none, .load false 1 (.t 98)⟩ (.pur ⟨some 100, none, .fadr 1 (.t 1)⟩ (.pur ⟨some 101, none, .load true 3 (.t 100)⟩ (.pur ⟨some 102, none, .fadr 4 (.t 1)⟩ (.pur ⟨some 103, none, .load false 1 (.t 102)⟩ (.alt false ⟨some 104, none, .mov (.t 4)⟩ (.alt false ⟨some 105, none, .nilc (.t 104)⟩ (.alt false ⟨some 106, none, .fadr 4 (.t 105)⟩ (.alt false ⟨some 107, none, .load false 1 (.t 106)⟩ (.alt false ⟨some 108, none, .bld [.str [], .int .i64 0, .int .i64 0, .int .i64 0, .int .i64 0, .nil] [(0, 1, (.t 99)), (1, 3, (.t 101)), (4, 1, (.t 103)), (5, 1, (.t 107))]⟩ (.alt false ⟨none, none, .store 6 (.t 2) (.t 108)⟩ (.alt true ⟨some 3, none, .mov (.c (.nil))⟩ .done .stop) .stop) .stop) .stop) .stop) .stop) .stop)))))))
def zc11_38 : AC := .seq (.regD zr11_29) .ret
def zc11_39 : AC := .seq (.seq (.reg zr11_27) zc11_37) zc11_38
def zc11_40 : AC := .seq (.seq (.reg zr11_11) zc11_35) zc11_39
def zc11_41 : AC := .seq (.reg zr11_10) zc11_40
def zc11_42 : AC := .seq (.seq (.reg zr11_5) zc11_9) zc11_41
def zc11_43 : AC := .seq (.reg zr11_4) zc11_42
def zc11_44 : AC := .seq (.reg zr11_3) zc11_43
def zc11_45 : AC := .seq (.seq (.reg zr11_1) zc11_1) zc11_44
def zc11_46 : AC := .seq (.reg zr11_0) zc11_45
def zc11 : AC := zc11_46
theorem ok11 : Try.f11.body.bind (compCode Try.prog 109) = some zc11 := by kernel_rfl
theorem nt11 : Try.f11.ntmps = 109 := by kernel_rfl
theorem res11 : compRes Try.prog Try.f11.results.toList = some [.cell true 6 2, .tmp 3] := by kernel_rfl
attribute [go_sem] zr11_10 zr11_11 zr11_12 zr11_14 zr11_15 zr11_16 zr11_17 zr11_18 zr11_19 zr11_20 zr11_23 zr11_25 zr11_26 zr11_27 zr11_28 zr11_5 zr11_6 zr11_9
def s11_k1 (N : Nat) (p1 : Source) (x24 : Int) (l25 : List Item) (l28 : List (List UInt8)) (l31 : List Fault) : Option (Source × (List Fault)) :=
  if 0 < (List.length l31 : Int) then
    some (({ Name := [], From := ({ Year := 0, Month := 0, Day := 0 } : Civil), Days := 0, Items := [] } : Source), l31)
  else
    some ({ p1 with Items := l25 }, [])
def s11_k2 (N : Nat) (x35 : Int) (l36 : List Item) (l39 : List (List UInt8)) (x47 : Int) (l77 : List Fault) : Option (((Int × (List Item) × (List (List UInt8)) × (List Fault) × Int) ⊕ (Int × (List Item) × (List (List UInt8)) × (List Fault)))) :=
  some (.inl (x35, l36, l39, l77, IntKind.wrap .i64 (x47 + 1)))
def s11_k3 (N : Nat) (x47 : Int) (x87 : Int × Bool × Int × (List Item) × (List (List UInt8))) (l93 : List Fault) : Option (((Int × (List Item) × (List (List UInt8)) × (List Fault) × Int) ⊕ (Int × (List Item) × (List (List UInt8)) × (List Fault)))) :=
  bif x87.2.1 then
    some (.inr (x87.2.2.1, x87.2.2.2.1, x87.2.2.2.2, l93))
  else
    some (.inl (x87.2.2.1, x87.2.2.2.1, x87.2.2.2.2, l93, IntKind.wrap .i64 (x47 + 1)))
def s11_k4 (N : Nat) (x47 : Int) (x103 : Int × Bool × Int × (List Item) × (List (List UInt8))) (l109 : List Fault) : Option (((Int × (List Item) × (List (List UInt8)) × (List Fault) × Int) ⊕ (Int × (List Item) × (List (List UInt8)) × (List Fault)))) :=
  bif x103.2.1 then
    some (.inr (x103.2.2.1, x103.2.2.2.1, x103.2.2.2.2, l109))
  else
    some (.inl (x103.2.2.1, x103.2.2.2.1, x103.2.2.2.2, l109, IntKind.wrap .i64 (x47 + 1)))
def s11_k5 (N : Nat) (p1 : Source) (m14 : List (List UInt8 × Item)) (m15 : List (List UInt8 × Span)) (m16 : List (List UInt8 × Item)) (l21 : List Int) (x35 : Int) (l36 : List Item) (l39 : List (List UInt8)) (l44 : List Fault) (x47 : Int) (x75 : Bool) : Option (((Int × (List Item) × (List (List UInt8)) × (List Fault) × Int) ⊕ (Int × (List Item) × (List (List UInt8)) × (List Fault)))) :=
  bif x75 then
    if l21[x47.toNat]! = 0 then
      s11_k2 N x35 l36 l39 x47 l44
    else
      grd ((List.length l44 + 1) * 16 ≤ 140737488355328 ∧ List.length l44 + 1 ≤ 140737488355328) <|
      s11_k2 N x35 l36 l39 x47 (l44 ++ ([({ Err := l21[x47.toNat]!, At := (p1.Items[x47.toNat]!).At } : Fault)]))
  else
    if (p1.Items[x47.toNat]!).Kind = 14 then
      (s26 N m14 m15 m16 x35 l36 [] (p1.Items[x47.toNat]!)).bind fun x87 =>
      if x87.1 = 0 then
        s11_k3 N x47 x87 l44
      else
        grd ((List.length l44 + 1) * 16 ≤ 140737488355328 ∧ List.length l44 + 1 ≤ 140737488355328) <|
        s11_k3 N x47 x87 (l44 ++ ([({ Err := x87.1, At := (p1.Items[x47.toNat]!).At } : Fault)]))
    else
      (s27 N m14 m15 m16 x35 l36 l39 (p1.Items[x47.toNat]!) ((List.length ((p1.Items[x47.toNat]!).Name) : Int))).bind fun x103 =>
      if x103.1 = 0 then
        s11_k4 N x47 x103 l44
      else
        grd ((List.length l44 + 1) * 16 ≤ 140737488355328 ∧ List.length l44 + 1 ≤ 140737488355328) <|
        s11_k4 N x47 x103 (l44 ++ ([({ Err := x103.1, At := (p1.Items[x47.toNat]!).At } : Fault)]))
def s11_b6 (N : Nat) (p1 : Source) (m14 : List (List UInt8 × Item)) (m15 : List (List UInt8 × Span)) (m16 : List (List UInt8 × Item)) (l21 : List Int) (x35 : Int) (l36 : List Item) (l39 : List (List UInt8)) (l44 : List Fault) (x47 : Int) : Option (((Int × (List Item) × (List (List UInt8)) × (List Fault) × Int) ⊕ (Int × (List Item) × (List (List UInt8)) × (List Fault)))) :=
  if x47 < (List.length p1.Items : Int) then
    grd (0 ≤ x47) <|
    grd (x47 < (List.length l21 : Int)) <|
    if (p1.Items[x47.toNat]!).Kind = 13 then
      s11_k5 N p1 m14 m15 m16 l21 x35 l36 l39 l44 x47 (decide ((p1.Items[x47.toNat]!).Kind = 13))
    else
      if (p1.Items[x47.toNat]!).Kind = 6 then
        s11_k5 N p1 m14 m15 m16 l21 x35 l36 l39 l44 x47 (decide ((p1.Items[x47.toNat]!).Kind = 6))
      else
        s11_k5 N p1 m14 m15 m16 l21 x35 l36 l39 l44 x47 (decide ((p1.Items[x47.toNat]!).Kind = 7))
  else
    some (.inr (x35, l36, l39, l44))
def s11_k7 (N : Nat) (p1 : Source) (m14 : List (List UInt8 × Item)) (m15 : List (List UInt8 × Span)) (m16 : List (List UInt8 × Item)) (l21 : List Int) : Option (Source × (List Fault)) :=
  (iter (fun p => s11_b6 N p1 m14 m15 m16 l21 p.1 p.2.1 p.2.2.1 p.2.2.2.1 p.2.2.2.2) N (0, ([] : List Item), ([] : List (List UInt8)), [], 0)).bind fun a48 =>
  s11_k1 N p1 a48.1 a48.2.1 a48.2.2.1 a48.2.2.2
def s11_b8 (N : Nat) (p1 : Source) (m121 : List (List UInt8 × Item)) (m122 : List (List UInt8 × Span)) (m123 : List (List UInt8 × Item)) (l128 : List Int) (x131 : Int) : Option ((((List (List UInt8 × Item)) × (List (List UInt8 × Span)) × (List (List UInt8 × Item)) × (List Int) × Int) ⊕ ((List (List UInt8 × Item)) × (List (List UInt8 × Span)) × (List (List UInt8 × Item)) × (List Int)))) :=
  if x131 < (List.length p1.Items : Int) then
    grd (0 ≤ x131) <|
    (s25 N m121 m122 m123 0 ([] : List Item) ([] : List (List UInt8)) (p1.Items[x131.toNat]!)).bind fun x146 =>
    grd (x131 < (List.length l128 : Int)) <|
    some (.inl (x146.2.1, x146.2.2.1, x146.2.2.2, List.set l128 x131.toNat x146.1, IntKind.wrap .i64 (x131 + 1)))
  else
    some (.inr (m121, m122, m123, l128))
def s11 (N : Nat) (p1 : Source) : Option (Source × (List Fault)) :=
  (s24 N p1.Items 600).bind fun x3 =>
  if 600 < x3 then
    some (({ Name := [], From := ({ Year := 0, Month := 0, Day := 0 } : Civil), Days := 0, Items := [] } : Source), [({ Err := 3, At := 0 } : Fault)])
  else
    grd (8 * (List.length p1.Items : Int) ≤ 281474976710656 ∧ (List.length p1.Items : Int) ≤ 9223372036854775807) <|
    (iter (fun p => s11_b8 N p1 p.1 p.2.1 p.2.2.1 p.2.2.2.1 p.2.2.2.2) N ([], [], [], List.replicate (List.length p1.Items) 0, 0)).bind fun a132 =>
    s11_k7 N p1 a132.1 a132.2.1 a132.2.2.1 a132.2.2.2
set_option maxHeartbeats 4000000 in
theorem c11 (N : Nat) (p1 : Source) (r : Source × (List Fault)) (h : s11 N p1 = some r) : PureC Try.prog 11 [.agg (Source.cs p1)] (.tup [.agg (Source.cs r.1), .sl (List.map Fault.av r.2)]) := by
 refine fn_intro' 109 Try.func11 nt11 ok11 res11 (by simp) fun X hP hn hd hr => ?_
 unfold s11 at h
 repeat refine awp_seq ?_
 refine awp_reg fun K Q hK hQ => ?_
 simp -implicitDefEqProofs (disch := first | omega | rfl) only [go_sem, simprocAttr, zr11_0, argS]
 intro b1 b2
 refine hK _ _ ?_; clear hK hQ K Q
 repeat refine awp_seq ?_
 refine awp_reg fun K Q hK hQ => ?_
 simp -implicitDefEqProofs (disch := first | omega | rfl) only [go_sem, simprocAttr, zr11_1]
 have hh := bnd_some h; clear h; obtain ⟨x3, hx4, h⟩ := hh
 refine call_pure hP (c24 N p1.Items 600 x3 hx4) ?_
 simp -implicitDefEqProofs (disch := first | omega | rfl) only [go_sem, simprocAttr]
 refine hK _ _ ?_; clear hK hQ K Q
 rcases ite_some h with ⟨hc5, h⟩ | ⟨hc5, h⟩
 · repeat refine awp_seq ?_
   refine awp_then (by simp -implicitDefEqProofs (disch := first | omega | rfl) only [go_sem, simprocAttr, eq_true hc5]) ?_
   repeat refine awp_seq ?_
   refine awp_reg fun K Q hK hQ => ?_
   simp -implicitDefEqProofs (disch := first | omega | rfl) only [go_sem, simprocAttr, zr11_2]
   intro b6
   refine hK _ _ ?_; clear hK hQ K Q
   obtain rfl := som_inj h
   repeat refine awp_seq ?_
   refine awp_le' (s' := [(2, .ptr 2 b2 0), (3, .sl (List.map Fault.av [({ Err := 3, At := 0 } : Fault)]))]) (own' := (2, b2, .cells (Source.cs ({ Name := [], From := ({ Year := 0, Month := 0, Day := 0 } : Civil), Days := 0, Items := [] } : Source))) :: []) (_ :: []) (_ :: _ :: []) (_ :: _ :: _ :: []) rfl (List.Perm.refl _) ?_ ?_ ?_
   · simp -implicitDefEqProofs (disch := first | omega | rfl) only [go_sem, simprocAttr, subF_cons, subF_nil]
     exact ⟨(.lptr ..), (frz_rowP (f := Fault.av) (fun _ => Fault.avl) (by simp -implicitDefEqProofs (disch := first | omega | rfl) only [go_sem, simprocAttr]; first | done | rfl) (by rw [show flt Fault.av _ = [.int .i64 3, .int .i64 0] from by simp only [flt, List.flatMap_cons, List.flatMap_nil, Fault.av_eq, AV.cells, Fault.cs_eq, List.cons_append, List.nil_append, List.append_nil]]; exact (.cons (.keep _) (.cons (.keep _) (.nil _)))) (by first | rfl | simp))⟩
   · exact (.cells (by rw [Source.cs_eq]; exact (.cons (.keep _) (.cons (.keep _) (.cons (.keep _) (.cons (.keep _) (.cons (.keep _) (.cons .nil (.nil _)))))))) (.drop .nil))
   refine awp_ret ?_
   repeat first | refine then_ret ?_ | refine blk_ret ?_
   exact rtp
 repeat refine awp_seq ?_
 refine awp_else (by simp -implicitDefEqProofs (disch := first | omega | rfl) only [go_sem, simprocAttr, eq_false hc5]) ?_
 repeat refine awp_seq ?_
 refine awp_skip ?_
 repeat refine awp_seq ?_
 refine awp_reg fun K Q hK hQ => ?_
 simp -implicitDefEqProofs (disch := first | omega | rfl) only [go_sem, simprocAttr, zr11_3, mapnil]
 intro b7 b8 b9 b10
 refine hK _ _ ?_; clear hK hQ K Q
 repeat refine awp_seq ?_
 refine awp_reg fun K Q hK hQ => ?_
 obtain ⟨⟨hg11, hg12⟩, h⟩ := grd_some h
 simp -implicitDefEqProofs (disch := first | omega | rfl) only [go_sem, simprocAttr, zr11_4, eq_true hg11, eq_true hg12]
 intro b13
 refine hK _ _ ?_; clear hK hQ K Q
 repeat refine awp_seq ?_
 refine rg (h := ?_)
 repeat refine awp_seq ?_
 refine awp_cut (ι := {p : (List (List UInt8 × Item)) × (List (List UInt8 × Span)) × (List (List UInt8 × Item)) × (Option Nat) × (Option Nat) × (List Int) × (Option Nat) // s11_k7 N p1 p.1 p.2.1 p.2.2.1 p.2.2.2.2.2.1 = some r ∧ (p.2.2.2.1 = none → ([] : List Item) = []) ∧ (p.2.2.2.2.1 = none → ([] : List (List UInt8)) = []) ∧ (p.2.2.2.2.2.2 = none → p.2.2.2.2.2.1 = [])}) (fun p => [(1, .ptr 1 b1 0), (2, .ptr 2 b2 0), (4, .ptr 24 b10 0), (5, accV 503 p.1.2.2.2.2.2.2 (List.length p.1.2.2.2.2.2.1) 1)]) (fun p => (1, b1, .cells (Source.cs p1)) :: (2, b2, .cells ([.str [], .int .i64 0, .int .i64 0, .int .i64 0, .int .i64 0, .nil])) :: (24, b10, .cells ([.mapv 20 b7, .mapv 21 b8, .mapv 22 b9, .int .i64 0, accV 501 p.1.2.2.2.1 (List.length ([] : List Item)) 33, accV 502 p.1.2.2.2.2.1 (List.length ([] : List (List UInt8))) 1])) :: (20, b7, .map (List.map (fun p => (AV.str p.1, .agg (Item.cs p.2))) p.1.1)) :: (21, b8, .map (List.map (fun p => (AV.str p.1, .agg (Span.cs p.2))) p.1.2.1)) :: (22, b9, .map (List.map (fun p => (AV.str p.1, .agg (Item.cs p.2))) p.1.2.2.1)) :: accO 501 p.1.2.2.2.1 (flt Item.av ([] : List Item)) (accO 502 p.1.2.2.2.2.1 (flt AV.str ([] : List (List UInt8))) (accO 503 p.1.2.2.2.2.2.2 (flt (AV.int .i64) p.1.2.2.2.2.2.1) []))) ?_ ?_
 · repeat refine awp_seq ?_
   refine awp_block ?_
   obtain ⟨o132, ho132, hO132⟩ := bnd_some h
   repeat refine awp_seq ?_
   refine awp_loop (ι := {p : Nat × (List (List UInt8 × Item)) × (List (List UInt8 × Span)) × (List (List UInt8 × Item)) × (Option Nat) × (Option Nat) × (List Int) × (Option Nat) × Int // iter (fun p => s11_b8 N p1 p.1 p.2.1 p.2.2.1 p.2.2.2.1 p.2.2.2.2) p.1 (p.2.1, p.2.2.1, p.2.2.2.1, p.2.2.2.2.2.2.1, p.2.2.2.2.2.2.2.2) = some o132 ∧ (p.2.2.2.2.1 = none → ([] : List Item) = []) ∧ (p.2.2.2.2.2.1 = none → ([] : List (List UInt8)) = []) ∧ (p.2.2.2.2.2.2.2.1 = none → p.2.2.2.2.2.2.1 = [])}) (fun p => [(1, .ptr 1 b1 0), (2, .ptr 2 b2 0), (4, .ptr 24 b10 0), (5, accV 526 p.1.2.2.2.2.2.2.2.1 (List.length p.1.2.2.2.2.2.2.1) 1), (30, .sl (List.map Item.av p1.Items)), (31, .int .i64 (List.length p1.Items : Int)), (32, .int .i64 p.1.2.2.2.2.2.2.2.2)]) (fun p => (1, b1, .cells (Source.cs p1)) :: (2, b2, .cells ([.str [], .int .i64 0, .int .i64 0, .int .i64 0, .int .i64 0, .nil])) :: (24, b10, .cells ([.mapv 20 b7, .mapv 21 b8, .mapv 22 b9, .int .i64 0, accV 524 p.1.2.2.2.2.1 (List.length ([] : List Item)) 33, accV 525 p.1.2.2.2.2.2.1 (List.length ([] : List (List UInt8))) 1])) :: (20, b7, .map (List.map (fun p => (AV.str p.1, .agg (Item.cs p.2))) p.1.2.1)) :: (21, b8, .map (List.map (fun p => (AV.str p.1, .agg (Span.cs p.2))) p.1.2.2.1)) :: (22, b9, .map (List.map (fun p => (AV.str p.1, .agg (Item.cs p.2))) p.1.2.2.2.1)) :: accO 524 p.1.2.2.2.2.1 (flt Item.av ([] : List Item)) (accO 525 p.1.2.2.2.2.2.1 (flt AV.str ([] : List (List UInt8))) (accO 526 p.1.2.2.2.2.2.2.2.1 (flt (AV.int .i64) p.1.2.2.2.2.2.2.1) []))) (fun p => p.1.1) ⟨⟨N, [], [], [], none, none, List.replicate (List.length p1.Items) 0, (some b13), 0⟩, ho132, (fun _ => rfl), (fun _ => rfl), (fun h => by cases h)⟩ ?_ ?_
   · refine ent_le' ([]) (_ :: _ :: _ :: _ :: _ :: _ :: _ :: []) (_ :: _ :: _ :: _ :: _ :: _ :: _ :: []) rfl (List.Perm.trans ((List.Perm.cons _ ((List.Perm.cons _ ((List.Perm.cons _ (List.Perm.cons _ (List.Perm.cons _ perm_cc)))))))) (List.Perm.trans ((List.Perm.cons _ ((List.Perm.cons _ (List.Perm.cons _ (List.Perm.cons _ perm_cc)))))) (List.Perm.trans ((List.Perm.cons _ (List.Perm.cons _ (List.Perm.cons _ perm_cc)))) (List.Perm.trans (List.Perm.cons _ (List.Perm.cons _ perm_cc)) (List.Perm.trans (List.Perm.cons _ perm_cc) (List.Perm.trans perm_cc ((List.Perm.cons _ (List.Perm.trans ((List.Perm.cons _ ((List.Perm.cons _ (List.Perm.cons _ (List.Perm.cons _ perm_cc)))))) (List.Perm.trans ((List.Perm.cons _ (List.Perm.cons _ (List.Perm.cons _ perm_cc)))) (List.Perm.trans (List.Perm.cons _ (List.Perm.cons _ perm_cc)) (List.Perm.trans (List.Perm.cons _ perm_cc) (List.Perm.trans perm_cc ((List.Perm.cons _ (List.Perm.trans perm_cc ((List.Perm.cons _ (List.Perm.trans (List.Perm.cons _ (List.Perm.cons _ perm_cc)) (List.Perm.trans (List.Perm.cons _ perm_cc) (List.Perm.trans perm_cc ((List.Perm.cons _ (List.Perm.trans (List.Perm.cons _ perm_cc) (List.Perm.trans perm_cc ((List.Perm.cons _ (List.Perm.trans perm_cc (List.Perm.refl _))))))))))))))))))))))))))))) ?_ ?_
     · simp -implicitDefEqProofs (disch := first | omega | rfl) only [go_sem, simprocAttr, subF_cons, subF_nil]
       exact ⟨(.lptr ..), (.lptr ..), (.lptr ..), (frz_lrow (by first | rfl | (simp; done) | ((try simp only [List.length_set, List.length_take]); omega))), (.keep _), (.keep _), (.keep _)⟩
     · exact (.cell (.cell (.cells (.cons (.lmap ..) (.cons (.lmap ..) (.cons (.lmap ..) (.cons (.keep _) (.cons (.keep _) (.cons (.keep _) (.nil _))))))) (.map' (by first | rfl | simp) (.map' (by first | rfl | simp) (.map' (by first | rfl | simp) (.cells (FrzP.of_eq (by first | rfl | simp)) .nil)))))))
   rintro ⟨⟨n132, m121, m122, m123, bo124, bo126, l128, bo129, x131⟩, hi132, hb125, hb127, hb130⟩
   obtain ⟨m132, q132, rfl, h, hm132⟩ := iter_some hi132
   try dsimp only at h
   try dsimp only
   unfold s11_b8 at h
   repeat refine awp_seq ?_
   refine rg (h := ?_)
   rcases ite_some h with ⟨hc143, h⟩ | ⟨hc143, h⟩
   · repeat refine awp_seq ?_
     refine awp_then (by simp -implicitDefEqProofs (disch := first | omega | rfl) only [go_sem, simprocAttr, eq_true hc143]) ?_
     repeat refine awp_seq ?_
     refine awp_skip ?_
     repeat refine awp_seq ?_
     refine awp_block ?_
     repeat refine awp_seq ?_
     refine awp_reg fun K Q hK hQ => ?_
     obtain ⟨hg144, h⟩ := grd_some h
     simp -implicitDefEqProofs (disch := first | omega | rfl) only [go_sem, simprocAttr, zr11_7, eq_true hc143, eq_true hg144]
     intro b145
     refine hK _ _ ?_; clear hK hQ K Q
     repeat refine awp_seq ?_
     refine awp_reg fun K Q hK hQ => ?_
     simp -implicitDefEqProofs (disch := first | omega | rfl) only [go_sem, simprocAttr, zr11_8]
     have hh := bnd_some h; clear h; obtain ⟨x146, hx147, h⟩ := hh
     refine call_own hP ([]) (_ :: _ :: _ :: _ :: accO _ _ _ (accO _ _ _ (_ :: _ :: _ :: accO _ _ _ []))) (_ :: _ :: _ :: _ :: accO _ _ _ (accO _ _ _ (_ :: _ :: _ :: accO _ _ _ []))) ((7, b145, .cells (Item.cs (p1.Items[x131.toNat]!))) :: (1, b1, .cells (Source.cs p1)) :: (2, b2, .cells ([.str [], .int .i64 0, .int .i64 0, .int .i64 0, .int .i64 0, .nil])) :: accO 526 bo129 (flt (AV.int .i64) l128) []) (_ :: _ :: _ :: _ :: accO _ _ _ (accO _ _ _ (_ :: _ :: _ :: accO _ _ _ []))) rfl (List.Perm.trans (List.Perm.cons _ (List.Perm.cons _ perm_cc)) (List.Perm.trans (List.Perm.cons _ perm_cc) (List.Perm.trans perm_cc ((List.Perm.cons _ (List.Perm.trans (List.Perm.cons _ (List.Perm.cons _ perm_cc)) (List.Perm.trans (List.Perm.cons _ perm_cc) (List.Perm.trans perm_cc ((List.Perm.cons _ (List.Perm.trans (List.Perm.cons _ (List.Perm.cons _ perm_cc)) (List.Perm.trans (List.Perm.cons _ perm_cc) (List.Perm.trans perm_cc ((List.Perm.cons _ (List.Perm.trans (List.Perm.cons _ (List.Perm.cons _ perm_cc)) (List.Perm.trans (List.Perm.cons _ perm_cc) (List.Perm.trans perm_cc ((List.Perm.cons _ (List.Perm.trans (List.Perm.cons _ (List.Perm.cons _ perm_ca)) (List.Perm.trans (List.Perm.cons _ perm_ca) (List.Perm.trans perm_ca ((perm_ha (List.Perm.trans (List.Perm.cons _ (List.Perm.cons _ perm_ca)) (List.Perm.trans (List.Perm.cons _ perm_ca) (List.Perm.trans perm_ca (List.Perm.refl _))))))))))))))))))))))))))))) (fun q o => q = .val (.int .i64 x146.1) ∧ o = (24, b10, .cells ([.mapv 20 b7, .mapv 21 b8, .mapv 22 b9, .int .i64 0, accV 530 bo124 (List.length ([] : List Item)) 33, accV 531 bo126 (List.length ([] : List (List UInt8))) 1])) :: (20, b7, .map (List.map (fun p => (AV.str p.1, .agg (Item.cs p.2))) x146.2.1)) :: (21, b8, .map (List.map (fun p => (AV.str p.1, .agg (Span.cs p.2))) x146.2.2.1)) :: (22, b9, .map (List.map (fun p => (AV.str p.1, .agg (Item.cs p.2))) x146.2.2.2)) :: accO 530 bo124 (flt Item.av ([] : List Item)) (accO 531 bo126 (flt AV.str ([] : List (List UInt8))) [])) (c25 N m121 m122 m123 0 ([] : List Item) ([] : List (List UInt8)) (p1.Items[x131.toNat]!) b10 b7 b8 b9 bo124 hb125 bo126 hb127 x146 hx147) (by rintro q o ⟨rfl, rfl⟩; exact ⟨_, _, .val (.keep _), (.cells (.cons (.lmap ..) (.cons (.lmap ..) (.cons (.lmap ..) (.cons (.keep _) (.cons (frz_lacc (by first | rfl | (simp; done) | ((try simp only [List.length_set, List.length_take]); omega))) (.cons (frz_lacc (by first | rfl | (simp; done) | ((try simp only [List.length_set, List.length_take]); omega))) (.nil _))))))) (.map' (by first | rfl | simp) (.map' (by first | rfl | simp) (.map' (by first | rfl | simp) (.acc (FrzP.refl _ _) (.acc (FrzP.refl _ _) .nil)))))), rfl, rfl⟩) (by first | rfl | (simp only [accO_app, List.cons_append, List.nil_append]; rfl) | simp only [accO_app, List.cons_append, List.nil_append]) (.cells (.cons (.lmap ..) (.cons (.lmap ..) (.cons (.lmap ..) (.cons (.keep _) (.cons (frz_lacc (by first | rfl | (simp; done) | ((try simp only [List.length_set, List.length_take]); omega))) (.cons (frz_lacc (by first | rfl | (simp; done) | ((try simp only [List.length_set, List.length_take]); omega))) (.nil _))))))) (.map' (by first | rfl | simp) (.map' (by first | rfl | simp) (.map' (by first | rfl | simp) (.acc (FrzP.refl _ _) (.acc (FrzP.refl _ _) (.cell (.cell (.cell (.acc (FrzP.refl _ _) .nil)))))))))) (.cons (.lptr ..) (.cons (.keep _) .nil)) ?_
     rintro q o ⟨rfl, rfl⟩
     obtain ⟨hg148, h⟩ := grd_some h
     obtain ⟨b149, hs150⟩ := acc_some (acc_len hb130) (show 0 < List.length l128 by first | omega | simp)
     subst hs150
     simp -implicitDefEqProofs (disch := first | omega | rfl) only [go_sem, simprocAttr, accV_some, accO_some, eq_true (show x131.toNat + 1 ≤ List.length l128 by omega), eq_true hg144, eq_true hg148]
     refine hK _ _ ?_; clear hK hQ K Q
     repeat refine awp_seq ?_
     refine rg (h := ?_)
     obtain rfl := som_inj h
     try dsimp only at hm132
     refine ⟨⟨⟨m132, x146.2.1, x146.2.2.1, x146.2.2.2, bo124, bo126, List.set l128 x131.toNat x146.1, (some b149), IntKind.wrap .i64 (x131 + 1)⟩, hm132, hb125, hb127, (fun h => by cases h)⟩, Nat.lt_succ_self _, ?_⟩
     refine ent_le' ([]) (_ :: _ :: _ :: _ :: _ :: _ :: accO _ _ _ (accO _ _ _ (_ :: _ :: []))) (_ :: _ :: _ :: _ :: _ :: _ :: accO _ _ _ (accO _ _ _ (_ :: _ :: []))) rfl (List.Perm.trans ((List.Perm.cons _ ((List.Perm.cons _ ((List.Perm.cons _ ((List.Perm.cons _ (perm_ha (perm_ha perm_cc)))))))))) (List.Perm.trans ((List.Perm.cons _ ((List.Perm.cons _ ((List.Perm.cons _ (List.Perm.cons _ (perm_ha perm_ac)))))))) (List.Perm.trans ((List.Perm.cons _ ((List.Perm.cons _ (List.Perm.cons _ (List.Perm.cons _ perm_ac)))))) (List.Perm.trans ((List.Perm.cons _ (List.Perm.cons _ (List.Perm.cons _ perm_cc)))) (List.Perm.trans (List.Perm.cons _ (List.Perm.cons _ perm_cc)) (List.Perm.trans (List.Perm.cons _ perm_cc) (List.Perm.trans perm_cc ((List.Perm.cons _ (List.Perm.trans ((List.Perm.cons _ ((List.Perm.cons _ ((List.Perm.cons _ ((List.Perm.cons _ (perm_ha (perm_ha perm_cc)))))))))) (List.Perm.trans ((List.Perm.cons _ ((List.Perm.cons _ ((List.Perm.cons _ (List.Perm.cons _ (perm_ha perm_ac)))))))) (List.Perm.trans ((List.Perm.cons _ ((List.Perm.cons _ (List.Perm.cons _ (List.Perm.cons _ perm_ac)))))) (List.Perm.trans ((List.Perm.cons _ (List.Perm.cons _ (List.Perm.cons _ perm_cc)))) (List.Perm.trans (List.Perm.cons _ (List.Perm.cons _ perm_cc)) (List.Perm.trans (List.Perm.cons _ perm_cc) (List.Perm.trans perm_cc ((List.Perm.cons _ ((List.Perm.cons _ ((List.Perm.cons _ ((List.Perm.cons _ ((List.Perm.cons _ ((perm_ha ((perm_ha (List.Perm.trans perm_cc (List.Perm.refl _)))))))))))))))))))))))))))))))) ?_ ?_
     · simp -implicitDefEqProofs (disch := first | omega | rfl) only [go_sem, simprocAttr, subF_cons, subF_nil]
       exact ⟨(.lptr ..), (.lptr ..), (.lptr ..), (frz_lrow (by first | rfl | (simp; done) | ((try simp only [List.length_set, List.length_take]); omega))), (.keep _), (.keep _), (.keep _)⟩
     · exact (.cell (.cell (.cells (.cons (.lmap ..) (.cons (.lmap ..) (.cons (.lmap ..) (.cons (.keep _) (.cons (frz_lacc (by first | rfl | (simp; done) | ((try simp only [List.length_set, List.length_take]); omega))) (.cons (frz_lacc (by first | rfl | (simp; done) | ((try simp only [List.length_set, List.length_take]); omega))) (.nil _))))))) (.map' (by first | rfl | simp) (.map' (by first | rfl | simp) (.map' (by first | rfl | simp) (.acc (FrzP.refl _ _) (.acc (FrzP.refl _ _) (.cells (FrzP.of_eq (by first | rfl | simp)) (.drop .nil))))))))))
   repeat refine awp_seq ?_
   refine awp_else (by simp -implicitDefEqProofs (disch := first | omega | rfl) only [go_sem, simprocAttr, eq_false hc143]) ?_
   repeat refine awp_seq ?_
   refine awp_exit ?_
   repeat' (first | refine then_exit ?_ | refine exit_here ?_ | refine exit_on rfl ?_)
   obtain rfl := som_inj h
   try dsimp only at hm132
   subst hm132
   try dsimp only at hO132
   refine ⟨⟨⟨m121, m122, m123, bo124, bo126, l128, bo129⟩, hO132, hb125, hb127, hb130⟩, ?_⟩
   refine ent_le' ([]) (_ :: _ :: _ :: _ :: _ :: _ :: accO _ _ _ (accO _ _ _ (accO _ _ _ []))) (_ :: _ :: _ :: _ :: _ :: _ :: accO _ _ _ (accO _ _ _ (accO _ _ _ []))) rfl (List.Perm.refl _) ?_ ?_
   · simp -implicitDefEqProofs (disch := first | omega | rfl) only [go_sem, simprocAttr, subF_cons, subF_nil]
     exact ⟨(.lptr ..), (.lptr ..), (.lptr ..), (frz_lacc (by first | rfl | (simp; done) | ((try simp only [List.length_set, List.length_take]); omega)))⟩
   · exact (.cell (.cell (.cells (.cons (.lmap ..) (.cons (.lmap ..) (.cons (.lmap ..) (.cons (.keep _) (.cons (frz_lacc (by first | rfl | (simp; done) | ((try simp only [List.length_set, List.length_take]); omega))) (.cons (frz_lacc (by first | rfl | (simp; done) | ((try simp only [List.length_set, List.length_take]); omega))) (.nil _))))))) (.map' (by first | rfl | simp) (.map' (by first | rfl | simp) (.map' (by first | rfl | simp) (.acc (FrzP.refl _ _) (.acc (FrzP.refl _ _) (.acc (FrzP.of_eq (by first | rfl | simp only [flt_app, flt_one, List.append_assoc])) .nil)))))))))
 rintro ⟨⟨m14, m15, m16, bo17, bo19, l21, bo22⟩, h, hb18, hb20, hb23⟩
 try dsimp only at h hb18 hb20 hb23
 try dsimp only
 repeat refine awp_seq ?_
 refine rg (h := ?_)
 repeat refine awp_seq ?_
 refine rg (h := ?_)
 repeat refine awp_seq ?_
 refine awp_cut (ι := {p : Int × (List Item) × (Option Nat) × (List (List UInt8)) × (Option Nat) × (List Fault) × (Option Nat) // s11_k1 N p1 p.1 p.2.1 p.2.2.2.1 p.2.2.2.2.2.1 = some r ∧ (p.2.2.1 = none → p.2.1 = []) ∧ (p.2.2.2.2.1 = none → p.2.2.2.1 = []) ∧ (p.2.2.2.2.2.2 = none → p.2.2.2.2.2.1 = [])}) (fun p => [(1, .ptr 1 b1 0), (2, .ptr 2 b2 0), (4, .ptr 24 b10 0), (8, accV 506 p.1.2.2.2.2.2.2 (List.length p.1.2.2.2.2.2.1) 2)]) (fun p => (1, b1, .cells (Source.cs p1)) :: (2, b2, .cells ([.str [], .int .i64 0, .int .i64 0, .int .i64 0, .int .i64 0, .nil])) :: (24, b10, .cells ([.mapv 20 b7, .mapv 21 b8, .mapv 22 b9, .int .i64 p.1.1, accV 504 p.1.2.2.1 (List.length p.1.2.1) 33, accV 505 p.1.2.2.2.2.1 (List.length p.1.2.2.2.1) 1])) :: (20, b7, .map (List.map (fun p => (AV.str p.1, .agg (Item.cs p.2))) m14)) :: (21, b8, .map (List.map (fun p => (AV.str p.1, .agg (Span.cs p.2))) m15)) :: (22, b9, .map (List.map (fun p => (AV.str p.1, .agg (Item.cs p.2))) m16)) :: accO 504 p.1.2.2.1 (flt Item.av p.1.2.1) (accO 505 p.1.2.2.2.2.1 (flt AV.str p.1.2.2.2.1) (accO 506 p.1.2.2.2.2.2.2 (flt Fault.av p.1.2.2.2.2.2.1) []))) ?_ ?_
 · repeat refine awp_seq ?_
   refine awp_block ?_
   obtain ⟨o48, ho48, hO48⟩ := bnd_some h
   repeat refine awp_seq ?_
   refine awp_loop (ι := {p : Nat × Int × (List Item) × (Option Nat) × (List (List UInt8)) × (Option Nat) × (Option Nat) × (List Fault) × (Option Nat) × Int // iter (fun p => s11_b6 N p1 m14 m15 m16 l21 p.1 p.2.1 p.2.2.1 p.2.2.2.1 p.2.2.2.2) p.1 (p.2.1, p.2.2.1, p.2.2.2.2.1, p.2.2.2.2.2.2.2.1, p.2.2.2.2.2.2.2.2.2) = some o48 ∧ (p.2.2.2.1 = none → p.2.2.1 = []) ∧ (p.2.2.2.2.2.1 = none → p.2.2.2.2.1 = []) ∧ (p.2.2.2.2.2.2.1 = none → l21 = []) ∧ (p.2.2.2.2.2.2.2.2.1 = none → p.2.2.2.2.2.2.2.1 = [])}) (fun p => [(1, .ptr 1 b1 0), (2, .ptr 2 b2 0), (4, .ptr 24 b10 0), (5, accV 509 p.1.2.2.2.2.2.2.1 (List.length l21) 1), (8, accV 510 p.1.2.2.2.2.2.2.2.2.1 (List.length p.1.2.2.2.2.2.2.2.1) 2), (45, .sl (List.map Item.av p1.Items)), (46, .int .i64 (List.length p1.Items : Int)), (47, .int .i64 p.1.2.2.2.2.2.2.2.2.2)]) (fun p => (1, b1, .cells (Source.cs p1)) :: (2, b2, .cells ([.str [], .int .i64 0, .int .i64 0, .int .i64 0, .int .i64 0, .nil])) :: (24, b10, .cells ([.mapv 20 b7, .mapv 21 b8, .mapv 22 b9, .int .i64 p.1.2.1, accV 507 p.1.2.2.2.1 (List.length p.1.2.2.1) 33, accV 508 p.1.2.2.2.2.2.1 (List.length p.1.2.2.2.2.1) 1])) :: (20, b7, .map (List.map (fun p => (AV.str p.1, .agg (Item.cs p.2))) m14)) :: (21, b8, .map (List.map (fun p => (AV.str p.1, .agg (Span.cs p.2))) m15)) :: (22, b9, .map (List.map (fun p => (AV.str p.1, .agg (Item.cs p.2))) m16)) :: accO 507 p.1.2.2.2.1 (flt Item.av p.1.2.2.1) (accO 508 p.1.2.2.2.2.2.1 (flt AV.str p.1.2.2.2.2.1) (accO 509 p.1.2.2.2.2.2.2.1 (flt (AV.int .i64) l21) (accO 510 p.1.2.2.2.2.2.2.2.2.1 (flt Fault.av p.1.2.2.2.2.2.2.2.1) [])))) (fun p => p.1.1) ⟨⟨N, 0, ([] : List Item), bo17, ([] : List (List UInt8)), bo19, bo22, [], none, 0⟩, ho48, hb18, hb20, hb23, (fun _ => rfl)⟩ ?_ ?_
   · refine ent_le' ([]) (_ :: _ :: _ :: _ :: _ :: _ :: accO _ _ _ (accO _ _ _ (accO _ _ _ []))) (_ :: _ :: _ :: _ :: _ :: _ :: accO _ _ _ (accO _ _ _ (accO _ _ _ []))) rfl (List.Perm.refl _) ?_ ?_
     · simp -implicitDefEqProofs (disch := first | omega | rfl) only [go_sem, simprocAttr, subF_cons, subF_nil]
       exact ⟨(.lptr ..), (.lptr ..), (.lptr ..), (frz_lacc (by first | rfl | (simp; done) | ((try simp only [List.length_set, List.length_take]); omega))), (.keep _), (.keep _), (.keep _), (.keep _)⟩
     · exact (.cell (.cell (.cells (.cons (.lmap ..) (.cons (.lmap ..) (.cons (.lmap ..) (.cons (.keep _) (.cons (frz_lacc (by first | rfl | (simp; done) | ((try simp only [List.length_set, List.length_take]); omega))) (.cons (frz_lacc (by first | rfl | (simp; done) | ((try simp only [List.length_set, List.length_take]); omega))) (.nil _))))))) (.map' (by first | rfl | simp) (.map' (by first | rfl | simp) (.map' (by first | rfl | simp) (.acc (FrzP.of_eq (by first | rfl | simp only [flt_app, flt_one, List.append_assoc])) (.acc (FrzP.of_eq (by first | rfl | simp only [flt_app, flt_one, List.append_assoc])) (.acc (FrzP.refl _ _) .nil)))))))))
   rintro ⟨⟨n48, x35, l36, bo37, l39, bo40, bo42, l44, bo45, x47⟩, hi48, hb38, hb41, hb43, hb46⟩
   obtain ⟨m48, q48, rfl, h, hm48⟩ := iter_some hi48
   try dsimp only at h
   try dsimp only
   unfold s11_b6 at h
   repeat refine awp_seq ?_
   refine rg (h := ?_)
   rcases ite_some h with ⟨hc69, h⟩ | ⟨hc69, h⟩
   · repeat refine awp_seq ?_
     refine awp_then (by simp -implicitDefEqProofs (disch := first | omega | rfl) only [go_sem, simprocAttr, eq_true hc69]) ?_
     repeat refine awp_seq ?_
     refine awp_skip ?_
     repeat refine awp_seq ?_
     refine awp_block ?_
     repeat refine awp_seq ?_
     refine awp_reg fun K Q hK hQ => ?_
     obtain ⟨hg70, h⟩ := grd_some h
     simp -implicitDefEqProofs (disch := first | omega | rfl) only [go_sem, simprocAttr, zr11_13, eq_true hc69, eq_true hg70]
     intro b71
     refine hK _ _ ?_; clear hK hQ K Q
     repeat refine awp_seq ?_
     obtain ⟨hg72, h⟩ := grd_some h
     obtain ⟨b73, hs74⟩ := acc_some (acc_len hb43) (show 0 < List.length l21 by first | omega | simp)
     subst hs74
     refine rg (by intro K Q; simp -implicitDefEqProofs (disch := first | omega | rfl) only [go_sem, simprocAttr, accV_some, accO_some, eq_true (show x47.toNat + 1 ≤ List.length l21 by omega), eq_true hg70, eq_true hg72] <;> rfl) ?_
     repeat refine awp_seq ?_
     refine rg (h := ?_)
     repeat refine awp_seq ?_
     refine awp_block ?_
     repeat refine awp_seq ?_
     refine rg (h := ?_)
     repeat refine awp_seq ?_
     refine awp_cut (ι := {p : Bool // s11_k5 N p1 m14 m15 m16 l21 x35 l36 l39 l44 x47 p = some q48}) (fun p => [(1, .ptr 1 b1 0), (2, .ptr 2 b2 0), (4, .ptr 24 b10 0), (5, .row 509 b73 0 (List.length l21) 1), (8, accV 510 bo45 (List.length l44) 2), (10, .ptr 10 b71 0), (11, .int .i64 (l21[x47.toNat]!)), (12, .bool false), (45, .sl (List.map Item.av p1.Items)), (46, .int .i64 (List.length p1.Items : Int)), (47, .int .i64 x47), (57, .int .i64 ((p1.Items[x47.toNat]!).Kind)), (67, .bool p.1)]) (fun p => (1, b1, .cells (Source.cs p1)) :: (2, b2, .cells ([.str [], .int .i64 0, .int .i64 0, .int .i64 0, .int .i64 0, .nil])) :: (24, b10, .cells ([.mapv 20 b7, .mapv 21 b8, .mapv 22 b9, .int .i64 x35, accV 507 bo37 (List.length l36) 33, accV 508 bo40 (List.length l39) 1])) :: (20, b7, .map (List.map (fun p => (AV.str p.1, .agg (Item.cs p.2))) m14)) :: (21, b8, .map (List.map (fun p => (AV.str p.1, .agg (Span.cs p.2))) m15)) :: (22, b9, .map (List.map (fun p => (AV.str p.1, .agg (Item.cs p.2))) m16)) :: accO 507 bo37 (flt Item.av l36) (accO 508 bo40 (flt AV.str l39) ((509, b73, .cells (flt (AV.int .i64) l21)) :: accO 510 bo45 (flt Fault.av l44) ((10, b71, .cells (Item.cs (p1.Items[x47.toNat]!))) :: [])))) ?_ ?_
     · rcases ite_some h with ⟨hc119, h⟩ | ⟨hc119, h⟩
       · repeat refine awp_seq ?_
         refine awp_then (by simp -implicitDefEqProofs (disch := first | omega | rfl) only [go_sem, simprocAttr, eq_true hc119]) ?_
         repeat refine awp_seq ?_
         refine awp_skip ?_
         refine ⟨⟨decide ((p1.Items[x47.toNat]!).Kind = 13), h⟩, ?_⟩
         refine ent_le' ([]) (_ :: _ :: _ :: _ :: _ :: _ :: accO _ _ _ (accO _ _ _ (_ :: accO _ _ _ (_ :: [])))) (_ :: _ :: _ :: _ :: _ :: _ :: accO _ _ _ (accO _ _ _ (_ :: accO _ _ _ (_ :: [])))) rfl (List.Perm.trans perm_cc ((List.Perm.cons _ (List.Perm.trans perm_cc ((List.Perm.cons _ (List.Perm.trans perm_cc ((List.Perm.cons _ (List.Perm.trans perm_cc ((List.Perm.cons _ (List.Perm.trans perm_cc ((List.Perm.cons _ (List.Perm.trans perm_cc ((List.Perm.cons _ (List.Perm.trans perm_ca ((perm_ha (List.Perm.trans perm_ca ((perm_ha (List.Perm.trans perm_cc ((List.Perm.cons _ (List.Perm.trans perm_ca (List.Perm.refl _))))))))))))))))))))))))))))) ?_ ?_
         · simp -implicitDefEqProofs (disch := first | omega | rfl) only [go_sem, simprocAttr, subF_cons, subF_nil]
           exact ⟨(.lptr ..), (.lptr ..), (.lptr ..), (frz_lrow (by first | rfl | (simp; done) | ((try simp only [List.length_set, List.length_take]); omega))), (frz_lacc (by first | rfl | (simp; done) | ((try simp only [List.length_set, List.length_take]); omega))), (.lptr ..), (.keep _), (.keep _), (.keep _), (.keep _), (.keep _), (.keep _), (.keep _)⟩
         · exact (.cell (.cell (.cell (.map' (by first | rfl | simp) (.map' (by first | rfl | simp) (.map' (by first | rfl | simp) (.acc (FrzP.refl _ _) (.acc (FrzP.refl _ _) (.cell (.acc (FrzP.refl _ _) (.cell .nil)))))))))))
       repeat refine awp_seq ?_
       refine awp_else (by simp -implicitDefEqProofs (disch := first | omega | rfl) only [go_sem, simprocAttr, eq_false hc119]) ?_
       repeat refine awp_seq ?_
       refine rg (h := ?_)
       rcases ite_some h with ⟨hc120, h⟩ | ⟨hc120, h⟩
       · repeat refine awp_seq ?_
         refine awp_then (by simp -implicitDefEqProofs (disch := first | omega | rfl) only [go_sem, simprocAttr, eq_true hc120]) ?_
         repeat refine awp_seq ?_
         refine awp_skip ?_
         refine ⟨⟨decide ((p1.Items[x47.toNat]!).Kind = 6), h⟩, ?_⟩
         refine ent_le' ([]) (_ :: _ :: _ :: _ :: _ :: _ :: accO _ _ _ (accO _ _ _ (_ :: accO _ _ _ (_ :: [])))) (_ :: _ :: _ :: _ :: _ :: _ :: accO _ _ _ (accO _ _ _ (_ :: accO _ _ _ (_ :: [])))) rfl (List.Perm.trans perm_cc ((List.Perm.cons _ (List.Perm.trans perm_cc ((List.Perm.cons _ (List.Perm.trans perm_cc ((List.Perm.cons _ (List.Perm.trans perm_cc ((List.Perm.cons _ (List.Perm.trans perm_cc ((List.Perm.cons _ (List.Perm.trans perm_cc ((List.Perm.cons _ (List.Perm.trans perm_ca ((perm_ha (List.Perm.trans perm_ca ((perm_ha (List.Perm.trans perm_cc ((List.Perm.cons _ (List.Perm.trans perm_ca (List.Perm.refl _))))))))))))))))))))))))))))) ?_ ?_
         · simp -implicitDefEqProofs (disch := first | omega | rfl) only [go_sem, simprocAttr, subF_cons, subF_nil]
           exact ⟨(.lptr ..), (.lptr ..), (.lptr ..), (frz_lrow (by first | rfl | (simp; done) | ((try simp only [List.length_set, List.length_take]); omega))), (frz_lacc (by first | rfl | (simp; done) | ((try simp only [List.length_set, List.length_take]); omega))), (.lptr ..), (.keep _), (.keep _), (.keep _), (.keep _), (.keep _), (.keep _), (.keep _)⟩
         · exact (.cell (.cell (.cell (.map' (by first | rfl | simp) (.map' (by first | rfl | simp) (.map' (by first | rfl | simp) (.acc (FrzP.refl _ _) (.acc (FrzP.refl _ _) (.cell (.acc (FrzP.refl _ _) (.cell .nil)))))))))))
       repeat refine awp_seq ?_
       refine awp_else (by simp -implicitDefEqProofs (disch := first | omega | rfl) only [go_sem, simprocAttr, eq_false hc120]) ?_
       repeat refine awp_seq ?_
       refine rg (h := ?_)
       refine ⟨⟨decide ((p1.Items[x47.toNat]!).Kind = 7), h⟩, ?_⟩
       refine ent_le' ([]) (_ :: _ :: _ :: _ :: _ :: _ :: accO _ _ _ (accO _ _ _ (_ :: accO _ _ _ (_ :: [])))) (_ :: _ :: _ :: _ :: _ :: _ :: accO _ _ _ (accO _ _ _ (_ :: accO _ _ _ (_ :: [])))) rfl (List.Perm.trans perm_cc ((List.Perm.cons _ (List.Perm.trans perm_cc ((List.Perm.cons _ (List.Perm.trans perm_cc ((List.Perm.cons _ (List.Perm.trans perm_cc ((List.Perm.cons _ (List.Perm.trans perm_cc ((List.Perm.cons _ (List.Perm.trans perm_cc ((List.Perm.cons _ (List.Perm.trans perm_ca ((perm_ha (List.Perm.trans perm_ca ((perm_ha (List.Perm.trans perm_cc ((List.Perm.cons _ (List.Perm.trans perm_ca (List.Perm.refl _))))))))))))))))))))))))))))) ?_ ?_
       · simp -implicitDefEqProofs (disch := first | omega | rfl) only [go_sem, simprocAttr, subF_cons, subF_nil]
         exact ⟨(.lptr ..), (.lptr ..), (.lptr ..), (frz_lrow (by first | rfl | (simp; done) | ((try simp only [List.length_set, List.length_take]); omega))), (frz_lacc (by first | rfl | (simp; done) | ((try simp only [List.length_set, List.length_take]); omega))), (.lptr ..), (.keep _), (.keep _), (.keep _), (.keep _), (.keep _), (.keep _), (.keep _)⟩
       · exact (.cell (.cell (.cell (.map' (by first | rfl | simp) (.map' (by first | rfl | simp) (.map' (by first | rfl | simp) (.acc (FrzP.refl _ _) (.acc (FrzP.refl _ _) (.cell (.acc (FrzP.refl _ _) (.cell .nil)))))))))))
     rintro ⟨x75, h⟩
     try dsimp only at h
     try dsimp only
     rcases cnd_some h with ⟨hc76, h⟩ | ⟨hc76, h⟩
     · repeat refine awp_seq ?_
       refine awp_then (by simp -implicitDefEqProofs (disch := first | omega | rfl) only [go_sem, simprocAttr, hc76]) ?_
       repeat refine awp_seq ?_
       refine awp_skip ?_
       repeat refine awp_seq ?_
       refine rg (h := ?_)
       repeat refine awp_seq ?_
       refine awp_cut (ι := {p : (List Fault) × (Option Nat) // s11_k2 N x35 l36 l39 x47 p.1 = some q48 ∧ (p.2 = none → p.1 = [])}) (fun p => [(1, .ptr 1 b1 0), (2, .ptr 2 b2 0), (4, .ptr 24 b10 0), (5, .row 509 b73 0 (List.length l21) 1), (8, accV 517 p.1.2 (List.length p.1.1) 2), (12, .bool false), (45, .sl (List.map Item.av p1.Items)), (46, .int .i64 (List.length p1.Items : Int)), (47, .int .i64 x47)]) (fun p => (1, b1, .cells (Source.cs p1)) :: (2, b2, .cells ([.str [], .int .i64 0, .int .i64 0, .int .i64 0, .int .i64 0, .nil])) :: (24, b10, .cells ([.mapv 20 b7, .mapv 21 b8, .mapv 22 b9, .int .i64 x35, accV 507 bo37 (List.length l36) 33, accV 508 bo40 (List.length l39) 1])) :: (20, b7, .map (List.map (fun p => (AV.str p.1, .agg (Item.cs p.2))) m14)) :: (21, b8, .map (List.map (fun p => (AV.str p.1, .agg (Span.cs p.2))) m15)) :: (22, b9, .map (List.map (fun p => (AV.str p.1, .agg (Item.cs p.2))) m16)) :: accO 507 bo37 (flt Item.av l36) (accO 508 bo40 (flt AV.str l39) ((509, b73, .cells (flt (AV.int .i64) l21)) :: accO 517 p.1.2 (flt Fault.av p.1.1) []))) ?_ ?_
       · rcases ite_some h with ⟨hc80, h⟩ | ⟨hc80, h⟩
         · repeat refine awp_seq ?_
           refine awp_else (by simp -implicitDefEqProofs (disch := first | omega | rfl) only [go_sem, simprocAttr, eq_true hc80]) ?_
           repeat refine awp_seq ?_
           refine awp_skip ?_
           refine ⟨⟨⟨l44, bo45⟩, h, hb46⟩, ?_⟩
           refine ent_le' ([]) (_ :: _ :: _ :: _ :: _ :: _ :: accO _ _ _ (accO _ _ _ (_ :: accO _ _ _ (_ :: [])))) (_ :: _ :: _ :: _ :: _ :: _ :: accO _ _ _ (accO _ _ _ (_ :: accO _ _ _ (_ :: [])))) rfl (List.Perm.refl _) ?_ ?_
           · simp -implicitDefEqProofs (disch := first | omega | rfl) only [go_sem, simprocAttr, subF_cons, subF_nil]
             exact ⟨(.lptr ..), (.lptr ..), (.lptr ..), (frz_lrow (by first | rfl | (simp; done) | ((try simp only [List.length_set, List.length_take]); omega))), (frz_lacc (by first | rfl | (simp; done) | ((try simp only [List.length_set, List.length_take]); omega))), (.keep _), (.keep _), (.keep _), (.keep _)⟩
           · exact (.cell (.cell (.cell (.map' (by first | rfl | simp) (.map' (by first | rfl | simp) (.map' (by first | rfl | simp) (.acc (FrzP.refl _ _) (.acc (FrzP.refl _ _) (.cell (.acc (FrzP.of_eq (by first | rfl | simp only [flt_app, flt_one, List.append_assoc])) (.drop .nil)))))))))))
         repeat refine awp_seq ?_
         refine awp_then (by simp -implicitDefEqProofs (disch := first | omega | rfl) only [go_sem, simprocAttr, eq_false hc80]) ?_
         repeat refine awp_seq ?_
         refine awp_reg fun K Q hK hQ => ?_
         obtain ⟨⟨hg82, hg83⟩, h⟩ := grd_some h
         simp -implicitDefEqProofs (disch := first | omega | rfl) only [go_sem, simprocAttr, zr11_24, eq_true hg82, eq_true hg83]
         intro b81
         refine app_acc (f := Fault.av) (l := l44) ((89, b81, .cells ([.int .i64 (l21[x47.toNat]!), .int .i64 ((p1.Items[x47.toNat]!).At)])) :: (1, b1, .cells (Source.cs p1)) :: (2, b2, .cells ([.str [], .int .i64 0, .int .i64 0, .int .i64 0, .int .i64 0, .nil])) :: (24, b10, .cells ([.mapv 20 b7, .mapv 21 b8, .mapv 22 b9, .int .i64 x35, accV 507 bo37 (List.length l36) 33, accV 508 bo40 (List.length l39) 1])) :: (20, b7, .map (List.map (fun p => (AV.str p.1, .agg (Item.cs p.2))) m14)) :: (21, b8, .map (List.map (fun p => (AV.str p.1, .agg (Span.cs p.2))) m15)) :: (22, b9, .map (List.map (fun p => (AV.str p.1, .agg (Item.cs p.2))) m16)) :: accO 507 bo37 (flt Item.av l36) (accO 508 bo40 (flt AV.str l39) ((509, b73, .cells (flt (AV.int .i64) l21)) :: (10, b71, .cells (Item.cs (p1.Items[x47.toNat]!))) :: []))) hb46 (by first | rfl | simp) (fun _ => Fault.avl) (by intro b hb; subst hb; simp -implicitDefEqProofs (disch := first | omega | rfl) only [go_sem, simprocAttr]) (by intro b hb; subst hb; simp -implicitDefEqProofs (disch := first | omega | rfl) only [go_sem, simprocAttr]) (by intro hb; subst hb; simp -implicitDefEqProofs (disch := first | omega | rfl) only [go_sem, simprocAttr]) ?_
         simp -implicitDefEqProofs (disch := first | omega | rfl) only [go_sem, simprocAttr, eq_true hg82, eq_true hg83]
         intro bo84 hb85
         try simp -implicitDefEqProofs (disch := first | omega | rfl) only [go_sem, simprocAttr]
         refine hK _ _ ?_; clear hK hQ K Q
         refine ⟨⟨⟨l44 ++ ([({ Err := l21[x47.toNat]!, At := (p1.Items[x47.toNat]!).At } : Fault)]), bo84⟩, h, (fun h => List.length_eq_zero_iff.1 (by simpa using hb85 h))⟩, ?_⟩
         refine ent_le' ([]) (_ :: _ :: _ :: _ :: _ :: _ :: accO _ _ _ (accO _ _ _ (_ :: accO _ _ _ (_ :: _ :: [])))) (_ :: _ :: _ :: _ :: _ :: _ :: accO _ _ _ (accO _ _ _ (_ :: accO _ _ _ (_ :: _ :: [])))) rfl (List.Perm.trans (perm_ha perm_cc) (List.Perm.trans perm_ac ((List.Perm.cons _ (List.Perm.trans (perm_ha perm_cc) (List.Perm.trans perm_ac ((List.Perm.cons _ (List.Perm.trans (perm_ha perm_cc) (List.Perm.trans perm_ac ((List.Perm.cons _ (List.Perm.trans (perm_ha perm_cc) (List.Perm.trans perm_ac ((List.Perm.cons _ (List.Perm.trans (perm_ha perm_cc) (List.Perm.trans perm_ac ((List.Perm.cons _ (List.Perm.trans (perm_ha perm_cc) (List.Perm.trans perm_ac ((List.Perm.cons _ (List.Perm.trans (perm_ha perm_ca) (List.Perm.trans perm_aa ((perm_ha (List.Perm.trans (perm_ha perm_ca) (List.Perm.trans perm_aa ((perm_ha (List.Perm.trans (perm_ha perm_cc) (List.Perm.trans perm_ac (List.Perm.refl _))))))))))))))))))))))))))))))))))) ?_ ?_
         · simp -implicitDefEqProofs (disch := first | omega | rfl) only [go_sem, simprocAttr, subF_cons, subF_nil]
           exact ⟨(.lptr ..), (.lptr ..), (.lptr ..), (frz_lrow (by first | rfl | (simp; done) | ((try simp only [List.length_set, List.length_take]); omega))), (frz_lacc (by first | rfl | (simp; done) | ((try simp only [List.length_set, List.length_take]); omega))), (.keep _), (.keep _), (.keep _), (.keep _)⟩
         · exact (.cell (.cell (.cell (.map' (by first | rfl | simp) (.map' (by first | rfl | simp) (.map' (by first | rfl | simp) (.acc (FrzP.refl _ _) (.acc (FrzP.refl _ _) (.cell (.acc (FrzP.of_eq (by first | rfl | simp only [flt_app, flt_one, List.append_assoc])) (.drop (.drop .nil))))))))))))
       rintro ⟨⟨l77, bo78⟩, h, hb79⟩
       try dsimp only at h hb79
       try dsimp only
       repeat refine awp_seq ?_
       refine rg (h := ?_)
       repeat refine awp_seq ?_
       refine awp_else (by rfl) ?_
       repeat refine awp_seq ?_
       refine awp_skip ?_
       repeat refine awp_seq ?_
       refine rg (h := ?_)
       obtain rfl := som_inj h
       try dsimp only at hm48
       refine ⟨⟨⟨m48, x35, l36, bo37, l39, bo40, (some b73), l77, bo78, IntKind.wrap .i64 (x47 + 1)⟩, hm48, hb38, hb41, (fun h => by cases h), hb79⟩, Nat.lt_succ_self _, ?_⟩
       refine ent_le' ([]) (_ :: _ :: _ :: _ :: _ :: _ :: accO _ _ _ (accO _ _ _ (_ :: accO _ _ _ []))) (_ :: _ :: _ :: _ :: _ :: _ :: accO _ _ _ (accO _ _ _ (_ :: accO _ _ _ []))) rfl (List.Perm.refl _) ?_ ?_
       · simp -implicitDefEqProofs (disch := first | omega | rfl) only [go_sem, simprocAttr, subF_cons, subF_nil]
         exact ⟨(.lptr ..), (.lptr ..), (.lptr ..), (frz_lrow (by first | rfl | (simp; done) | ((try simp only [List.length_set, List.length_take]); omega))), (frz_lacc (by first | rfl | (simp; done) | ((try simp only [List.length_set, List.length_take]); omega))), (.keep _), (.keep _), (.keep _)⟩
       · exact (.cell (.cell (.cell (.map' (by first | rfl | simp) (.map' (by first | rfl | simp) (.map' (by first | rfl | simp) (.acc (FrzP.refl _ _) (.acc (FrzP.refl _ _) (.cell (.acc (FrzP.of_eq (by first | rfl | simp only [flt_app, flt_one, List.append_assoc])) .nil))))))))))
     repeat refine awp_seq ?_
     refine awp_else (by simp -implicitDefEqProofs (disch := first | omega | rfl) only [go_sem, simprocAttr, hc76]) ?_
     repeat refine awp_seq ?_
     refine rg (h := ?_)
     rcases ite_some h with ⟨hc86, h⟩ | ⟨hc86, h⟩
     · repeat refine awp_seq ?_
       refine awp_then (by simp -implicitDefEqProofs (disch := first | omega | rfl) only [go_sem, simprocAttr, eq_true hc86]) ?_
       repeat refine awp_seq ?_
       refine rg (h := ?_)
       repeat refine awp_seq ?_
       refine awp_reg fun K Q hK hQ => ?_
       simp -implicitDefEqProofs (disch := first | omega | rfl) only [go_sem, simprocAttr, zr11_21]
       have hh := bnd_some h; clear h; obtain ⟨x87, hx88, h⟩ := hh
       refine call_own hP ([]) (_ :: _ :: _ :: _ :: accO _ _ _ (_ :: _ :: accO _ _ _ (_ :: accO _ _ _ (_ :: [])))) (_ :: _ :: _ :: _ :: accO _ _ _ (_ :: _ :: accO _ _ _ (_ :: accO _ _ _ (_ :: [])))) ((1, b1, .cells (Source.cs p1)) :: (2, b2, .cells ([.str [], .int .i64 0, .int .i64 0, .int .i64 0, .int .i64 0, .nil])) :: accO 508 bo40 (flt AV.str l39) ((509, b73, .cells (flt (AV.int .i64) l21)) :: accO 510 bo45 (flt Fault.av l44) ((10, b71, .cells (Item.cs (p1.Items[x47.toNat]!))) :: []))) (_ :: _ :: _ :: _ :: accO _ _ _ (_ :: _ :: accO _ _ _ (_ :: accO _ _ _ (_ :: [])))) rfl (List.Perm.trans (List.Perm.cons _ perm_cc) (List.Perm.trans perm_cc ((List.Perm.cons _ (List.Perm.trans (List.Perm.cons _ perm_cc) (List.Perm.trans perm_cc ((List.Perm.cons _ (List.Perm.trans (List.Perm.cons _ perm_cc) (List.Perm.trans perm_cc ((List.Perm.cons _ (List.Perm.trans (List.Perm.cons _ perm_cc) (List.Perm.trans perm_cc ((List.Perm.cons _ (List.Perm.trans (List.Perm.cons _ perm_ca) (List.Perm.trans perm_ca (List.Perm.refl _))))))))))))))))))) (fun q o => ∃ (bo89 : Option Nat), ∃ (bo91 : Option Nat), (bo89 = none → x87.2.2.2.1 = []) ∧ (bo91 = none → x87.2.2.2.2 = []) ∧ q = .val (.tup [.int .i64 x87.1, .bool x87.2.1]) ∧ o = (24, b10, .cells ([.mapv 20 b7, .mapv 21 b8, .mapv 22 b9, .int .i64 x87.2.2.1, accV 518 bo89 (List.length x87.2.2.2.1) 33, accV 519 bo91 (List.length x87.2.2.2.2) 1])) :: (20, b7, .map (List.map (fun p => (AV.str p.1, .agg (Item.cs p.2))) m14)) :: (21, b8, .map (List.map (fun p => (AV.str p.1, .agg (Span.cs p.2))) m15)) :: (22, b9, .map (List.map (fun p => (AV.str p.1, .agg (Item.cs p.2))) m16)) :: accO 518 bo89 (flt Item.av x87.2.2.2.1) (accO 519 bo91 (flt AV.str x87.2.2.2.2) [])) (c26 N m14 m15 m16 x35 l36 [] (p1.Items[x47.toNat]!) b10 b7 b8 b9 bo37 hb38 none (fun _ => rfl) x87 hx88) (by rintro q o ⟨bo89, bo91, hb90, hb92, rfl, rfl⟩; exact ⟨_, _, .val (.keep _), (.cells (.cons (.lmap ..) (.cons (.lmap ..) (.cons (.lmap ..) (.cons (.keep _) (.cons (frz_lacc (by first | rfl | (simp; done) | ((try simp only [List.length_set, List.length_take]); omega))) (.cons (frz_lacc (by first | rfl | (simp; done) | ((try simp only [List.length_set, List.length_take]); omega))) (.nil _))))))) (.map' (by first | rfl | simp) (.map' (by first | rfl | simp) (.map' (by first | rfl | simp) (.acc (FrzP.refl _ _) (.acc (FrzP.refl _ _) .nil)))))), bo89, bo91, hb90, hb92, rfl, rfl⟩) (by first | rfl | (simp only [accO_app, List.cons_append, List.nil_append]; rfl) | simp only [accO_app, List.cons_append, List.nil_append]) (.cells (.cons (.lmap ..) (.cons (.lmap ..) (.cons (.lmap ..) (.cons (.keep _) (.cons (frz_lacc (by first | rfl | (simp; done) | ((try simp only [List.length_set, List.length_take]); omega))) (.cons (.keep _) (.nil _))))))) (.map' (by first | rfl | simp) (.map' (by first | rfl | simp) (.map' (by first | rfl | simp) (.acc (FrzP.refl _ _) (.cell (.cell (.acc (FrzP.refl _ _) (.cell (.acc (FrzP.refl _ _) (.cell .nil))))))))))) (.cons (.lptr ..) (.cons (.keep _) .nil)) ?_
       rintro q o ⟨bo89, bo91, hb90, hb92, rfl, rfl⟩
       simp -implicitDefEqProofs (disch := first | omega | rfl) only [go_sem, simprocAttr]
       refine hK _ _ ?_; clear hK hQ K Q
       repeat refine awp_seq ?_
       refine rg (h := ?_)
       repeat refine awp_seq ?_
       refine awp_cut (ι := {p : (List Fault) × (Option Nat) // s11_k3 N x47 x87 p.1 = some q48 ∧ (p.2 = none → p.1 = [])}) (fun p => [(1, .ptr 1 b1 0), (2, .ptr 2 b2 0), (4, .ptr 24 b10 0), (5, .row 509 b73 0 (List.length l21) 1), (8, accV 520 p.1.2 (List.length p.1.1) 2), (12, .bool x87.2.1), (45, .sl (List.map Item.av p1.Items)), (46, .int .i64 (List.length p1.Items : Int)), (47, .int .i64 x47)]) (fun p => (1, b1, .cells (Source.cs p1)) :: (2, b2, .cells ([.str [], .int .i64 0, .int .i64 0, .int .i64 0, .int .i64 0, .nil])) :: (24, b10, .cells ([.mapv 20 b7, .mapv 21 b8, .mapv 22 b9, .int .i64 x87.2.2.1, accV 518 bo89 (List.length x87.2.2.2.1) 33, accV 519 bo91 (List.length x87.2.2.2.2) 1])) :: (20, b7, .map (List.map (fun p => (AV.str p.1, .agg (Item.cs p.2))) m14)) :: (21, b8, .map (List.map (fun p => (AV.str p.1, .agg (Span.cs p.2))) m15)) :: (22, b9, .map (List.map (fun p => (AV.str p.1, .agg (Item.cs p.2))) m16)) :: accO 518 bo89 (flt Item.av x87.2.2.2.1) (accO 519 bo91 (flt AV.str x87.2.2.2.2) ((509, b73, .cells (flt (AV.int .i64) l21)) :: accO 520 p.1.2 (flt Fault.av p.1.1) []))) ?_ ?_
       · rcases ite_some h with ⟨hc97, h⟩ | ⟨hc97, h⟩
         · repeat refine awp_seq ?_
           refine awp_else (by simp -implicitDefEqProofs (disch := first | omega | rfl) only [go_sem, simprocAttr, eq_true hc97]) ?_
           repeat refine awp_seq ?_
           refine awp_skip ?_
           refine ⟨⟨⟨l44, bo45⟩, h, hb46⟩, ?_⟩
           refine ent_le' ([]) (_ :: _ :: _ :: _ :: _ :: _ :: accO _ _ _ (accO _ _ _ (_ :: accO _ _ _ (accO _ _ _ (_ :: []))))) (_ :: _ :: _ :: _ :: _ :: _ :: accO _ _ _ (accO _ _ _ (_ :: accO _ _ _ (accO _ _ _ (_ :: []))))) rfl (List.Perm.trans ((List.Perm.cons _ ((List.Perm.cons _ ((List.Perm.cons _ (List.Perm.cons _ (perm_ha perm_ac)))))))) (List.Perm.trans ((List.Perm.cons _ ((List.Perm.cons _ (List.Perm.cons _ (List.Perm.cons _ perm_ac)))))) (List.Perm.trans ((List.Perm.cons _ (List.Perm.cons _ (List.Perm.cons _ perm_cc)))) (List.Perm.trans (List.Perm.cons _ (List.Perm.cons _ perm_cc)) (List.Perm.trans (List.Perm.cons _ perm_cc) (List.Perm.trans perm_cc ((List.Perm.cons _ (List.Perm.trans ((List.Perm.cons _ ((List.Perm.cons _ ((List.Perm.cons _ (List.Perm.cons _ (perm_ha perm_ac)))))))) (List.Perm.trans ((List.Perm.cons _ ((List.Perm.cons _ (List.Perm.cons _ (List.Perm.cons _ perm_ac)))))) (List.Perm.trans ((List.Perm.cons _ (List.Perm.cons _ (List.Perm.cons _ perm_cc)))) (List.Perm.trans (List.Perm.cons _ (List.Perm.cons _ perm_cc)) (List.Perm.trans (List.Perm.cons _ perm_cc) (List.Perm.trans perm_cc ((List.Perm.cons _ ((List.Perm.cons _ ((List.Perm.cons _ ((List.Perm.cons _ ((List.Perm.cons _ ((perm_ha ((perm_ha (List.Perm.trans perm_ac ((List.Perm.cons _ (List.Perm.trans perm_aa (List.Perm.refl _))))))))))))))))))))))))))))))))) ?_ ?_
           · simp -implicitDefEqProofs (disch := first | omega | rfl) only [go_sem, simprocAttr, subF_cons, subF_nil]
             exact ⟨(.lptr ..), (.lptr ..), (.lptr ..), (frz_lrow (by first | rfl | (simp; done) | ((try simp only [List.length_set, List.length_take]); omega))), (frz_lacc (by first | rfl | (simp; done) | ((try simp only [List.length_set, List.length_take]); omega))), (.keep _), (.keep _), (.keep _), (.keep _)⟩
           · exact (.cell (.cell (.cell (.map' (by first | rfl | simp) (.map' (by first | rfl | simp) (.map' (by first | rfl | simp) (.acc (FrzP.refl _ _) (.acc (FrzP.refl _ _) (.cell (.acc (FrzP.of_eq (by first | rfl | simp only [flt_app, flt_one, List.append_assoc])) (.accDrop (.drop .nil))))))))))))
         repeat refine awp_seq ?_
         refine awp_then (by simp -implicitDefEqProofs (disch := first | omega | rfl) only [go_sem, simprocAttr, eq_false hc97]) ?_
         repeat refine awp_seq ?_
         refine awp_reg fun K Q hK hQ => ?_
         obtain ⟨⟨hg99, hg100⟩, h⟩ := grd_some h
         simp -implicitDefEqProofs (disch := first | omega | rfl) only [go_sem, simprocAttr, zr11_24, eq_true hg99, eq_true hg100]
         intro b98
         refine app_acc (f := Fault.av) (l := l44) ((89, b98, .cells ([.int .i64 x87.1, .int .i64 ((p1.Items[x47.toNat]!).At)])) :: (24, b10, .cells ([.mapv 20 b7, .mapv 21 b8, .mapv 22 b9, .int .i64 x87.2.2.1, accV 518 bo89 (List.length x87.2.2.2.1) 33, accV 519 bo91 (List.length x87.2.2.2.2) 1])) :: (20, b7, .map (List.map (fun p => (AV.str p.1, .agg (Item.cs p.2))) m14)) :: (21, b8, .map (List.map (fun p => (AV.str p.1, .agg (Span.cs p.2))) m15)) :: (22, b9, .map (List.map (fun p => (AV.str p.1, .agg (Item.cs p.2))) m16)) :: accO 518 bo89 (flt Item.av x87.2.2.2.1) (accO 519 bo91 (flt AV.str x87.2.2.2.2) ((1, b1, .cells (Source.cs p1)) :: (2, b2, .cells ([.str [], .int .i64 0, .int .i64 0, .int .i64 0, .int .i64 0, .nil])) :: accO 508 bo40 (flt AV.str l39) ((509, b73, .cells (flt (AV.int .i64) l21)) :: (10, b71, .cells (Item.cs (p1.Items[x47.toNat]!))) :: [])))) hb46 (by first | rfl | simp) (fun _ => Fault.avl) (by intro b hb; subst hb; simp -implicitDefEqProofs (disch := first | omega | rfl) only [go_sem, simprocAttr]) (by intro b hb; subst hb; simp -implicitDefEqProofs (disch := first | omega | rfl) only [go_sem, simprocAttr]) (by intro hb; subst hb; simp -implicitDefEqProofs (disch := first | omega | rfl) only [go_sem, simprocAttr]) ?_
         simp -implicitDefEqProofs (disch := first | omega | rfl) only [go_sem, simprocAttr, eq_true hg99, eq_true hg100]
         intro bo101 hb102
         try simp -implicitDefEqProofs (disch := first | omega | rfl) only [go_sem, simprocAttr]
         refine hK _ _ ?_; clear hK hQ K Q
         refine ⟨⟨⟨l44 ++ ([({ Err := x87.1, At := (p1.Items[x47.toNat]!).At } : Fault)]), bo101⟩, h, (fun h => List.length_eq_zero_iff.1 (by simpa using hb102 h))⟩, ?_⟩
         refine ent_le' ([]) (_ :: _ :: _ :: _ :: _ :: _ :: accO _ _ _ (accO _ _ _ (_ :: accO _ _ _ (_ :: accO _ _ _ (_ :: []))))) (_ :: _ :: _ :: _ :: _ :: _ :: accO _ _ _ (accO _ _ _ (_ :: accO _ _ _ (_ :: accO _ _ _ (_ :: []))))) rfl (List.Perm.trans ((perm_ha ((List.Perm.cons _ ((List.Perm.cons _ ((List.Perm.cons _ ((List.Perm.cons _ (List.Perm.cons _ (perm_ha perm_ac)))))))))))) (List.Perm.trans ((perm_ha ((List.Perm.cons _ ((List.Perm.cons _ ((List.Perm.cons _ (List.Perm.cons _ (List.Perm.cons _ perm_ac)))))))))) (List.Perm.trans ((perm_ha ((List.Perm.cons _ ((List.Perm.cons _ (List.Perm.cons _ (List.Perm.cons _ perm_cc)))))))) (List.Perm.trans ((perm_ha ((List.Perm.cons _ (List.Perm.cons _ (List.Perm.cons _ perm_cc)))))) (List.Perm.trans ((perm_ha (List.Perm.cons _ (List.Perm.cons _ perm_cc)))) (List.Perm.trans (perm_ha (List.Perm.cons _ perm_cc)) (List.Perm.trans (perm_ha perm_cc) (List.Perm.trans perm_ac ((List.Perm.cons _ (List.Perm.trans ((perm_ha ((List.Perm.cons _ ((List.Perm.cons _ ((List.Perm.cons _ ((List.Perm.cons _ (List.Perm.cons _ (perm_ha perm_ac)))))))))))) (List.Perm.trans ((perm_ha ((List.Perm.cons _ ((List.Perm.cons _ ((List.Perm.cons _ (List.Perm.cons _ (List.Perm.cons _ perm_ac)))))))))) (List.Perm.trans ((perm_ha ((List.Perm.cons _ ((List.Perm.cons _ (List.Perm.cons _ (List.Perm.cons _ perm_cc)))))))) (List.Perm.trans ((perm_ha ((List.Perm.cons _ (List.Perm.cons _ (List.Perm.cons _ perm_cc)))))) (List.Perm.trans ((perm_ha (List.Perm.cons _ (List.Perm.cons _ perm_cc)))) (List.Perm.trans (perm_ha (List.Perm.cons _ perm_cc)) (List.Perm.trans (perm_ha perm_cc) (List.Perm.trans perm_ac ((List.Perm.cons _ (List.Perm.trans (perm_ha perm_cc) (List.Perm.trans perm_ac ((List.Perm.cons _ (List.Perm.trans (perm_ha perm_cc) (List.Perm.trans perm_ac ((List.Perm.cons _ (List.Perm.trans (perm_ha perm_cc) (List.Perm.trans perm_ac ((List.Perm.cons _ (List.Perm.trans (perm_ha perm_cc) (List.Perm.trans perm_ac ((List.Perm.cons _ (List.Perm.trans (perm_ha perm_ca) (List.Perm.trans perm_aa ((perm_ha (List.Perm.trans (perm_ha perm_ca) (List.Perm.trans perm_aa ((perm_ha (List.Perm.trans (perm_ha (List.Perm.cons _ perm_ac)) (List.Perm.trans (perm_ha perm_cc) (List.Perm.trans perm_ac (List.Perm.refl _)))))))))))))))))))))))))))))))))))))))))))))))) ?_ ?_
         · simp -implicitDefEqProofs (disch := first | omega | rfl) only [go_sem, simprocAttr, subF_cons, subF_nil]
           exact ⟨(.lptr ..), (.lptr ..), (.lptr ..), (frz_lrow (by first | rfl | (simp; done) | ((try simp only [List.length_set, List.length_take]); omega))), (frz_lacc (by first | rfl | (simp; done) | ((try simp only [List.length_set, List.length_take]); omega))), (.keep _), (.keep _), (.keep _), (.keep _)⟩
         · exact (.cell (.cell (.cell (.map' (by first | rfl | simp) (.map' (by first | rfl | simp) (.map' (by first | rfl | simp) (.acc (FrzP.refl _ _) (.acc (FrzP.refl _ _) (.cell (.acc (FrzP.of_eq (by first | rfl | simp only [flt_app, flt_one, List.append_assoc])) (.drop (.accDrop (.drop .nil)))))))))))))
       rintro ⟨⟨l93, bo94⟩, h, hb95⟩
       try dsimp only at h hb95
       try dsimp only
       repeat refine awp_seq ?_
       refine rg (h := ?_)
       rcases cnd_some h with ⟨hc96, h⟩ | ⟨hc96, h⟩
       · repeat refine awp_seq ?_
         refine awp_then (by simp -implicitDefEqProofs (disch := first | omega | rfl) only [go_sem, simprocAttr, hc96]) ?_
         repeat refine awp_seq ?_
         refine awp_exit ?_
         repeat' (first | refine then_exit ?_ | refine exit_here ?_ | refine exit_on rfl ?_)
         obtain rfl := som_inj h
         try dsimp only at hm48
         subst hm48
         try dsimp only at hO48
         refine ⟨⟨⟨x87.2.2.1, x87.2.2.2.1, bo89, x87.2.2.2.2, bo91, l93, bo94⟩, hO48, hb90, hb92, hb95⟩, ?_⟩
         refine ent_le' ([]) (_ :: _ :: _ :: _ :: _ :: _ :: accO _ _ _ (accO _ _ _ (accO _ _ _ (_ :: [])))) (_ :: _ :: _ :: _ :: _ :: _ :: accO _ _ _ (accO _ _ _ (accO _ _ _ (_ :: [])))) rfl ((List.Perm.cons _ ((List.Perm.cons _ ((List.Perm.cons _ ((List.Perm.cons _ ((List.Perm.cons _ ((List.Perm.cons _ ((perm_ha ((perm_ha (List.Perm.trans perm_ca (List.Perm.refl _)))))))))))))))))) ?_ ?_
         · simp -implicitDefEqProofs (disch := first | omega | rfl) only [go_sem, simprocAttr, subF_cons, subF_nil]
           exact ⟨(.lptr ..), (.lptr ..), (.lptr ..), (frz_lacc (by first | rfl | (simp; done) | ((try simp only [List.length_set, List.length_take]); omega)))⟩
         · exact (.cell (.cell (.cells (.cons (.lmap ..) (.cons (.lmap ..) (.cons (.lmap ..) (.cons (.keep _) (.cons (frz_lacc (by first | rfl | (simp; done) | ((try simp only [List.length_set, List.length_take]); omega))) (.cons (frz_lacc (by first | rfl | (simp; done) | ((try simp only [List.length_set, List.length_take]); omega))) (.nil _))))))) (.map' (by first | rfl | simp) (.map' (by first | rfl | simp) (.map' (by first | rfl | simp) (.acc (FrzP.of_eq (by first | rfl | simp only [flt_app, flt_one, List.append_assoc])) (.acc (FrzP.of_eq (by first | rfl | simp only [flt_app, flt_one, List.append_assoc])) (.acc (FrzP.of_eq (by first | rfl | simp only [flt_app, flt_one, List.append_assoc])) (.drop .nil))))))))))
       repeat refine awp_seq ?_
       refine awp_else (by simp -implicitDefEqProofs (disch := first | omega | rfl) only [go_sem, simprocAttr, hc96]) ?_
       repeat refine awp_seq ?_
       refine awp_skip ?_
       repeat refine awp_seq ?_
       refine rg (h := ?_)
       obtain rfl := som_inj h
       try dsimp only at hm48
       refine ⟨⟨⟨m48, x87.2.2.1, x87.2.2.2.1, bo89, x87.2.2.2.2, bo91, (some b73), l93, bo94, IntKind.wrap .i64 (x47 + 1)⟩, hm48, hb90, hb92, (fun h => by cases h), hb95⟩, Nat.lt_succ_self _, ?_⟩
       refine ent_le' ([]) (_ :: _ :: _ :: _ :: _ :: _ :: accO _ _ _ (accO _ _ _ (_ :: accO _ _ _ []))) (_ :: _ :: _ :: _ :: _ :: _ :: accO _ _ _ (accO _ _ _ (_ :: accO _ _ _ []))) rfl (List.Perm.refl _) ?_ ?_
       · simp -implicitDefEqProofs (disch := first | omega | rfl) only [go_sem, simprocAttr, subF_cons, subF_nil]
         exact ⟨(.lptr ..), (.lptr ..), (.lptr ..), (frz_lrow (by first | rfl | (simp; done) | ((try simp only [List.length_set, List.length_take]); omega))), (frz_lacc (by first | rfl | (simp; done) | ((try simp only [List.length_set, List.length_take]); omega))), (.keep _), (.keep _), (.keep _)⟩
       · exact (.cell (.cell (.cells (.cons (.lmap ..) (.cons (.lmap ..) (.cons (.lmap ..) (.cons (.keep _) (.cons (frz_lacc (by first | rfl | (simp; done) | ((try simp only [List.length_set, List.length_take]); omega))) (.cons (frz_lacc (by first | rfl | (simp; done) | ((try simp only [List.length_set, List.length_take]); omega))) (.nil _))))))) (.map' (by first | rfl | simp) (.map' (by first | rfl | simp) (.map' (by first | rfl | simp) (.acc (FrzP.of_eq (by first | rfl | simp only [flt_app, flt_one, List.append_assoc])) (.acc (FrzP.of_eq (by first | rfl | simp only [flt_app, flt_one, List.append_assoc])) (.cell (.acc (FrzP.of_eq (by first | rfl | simp only [flt_app, flt_one, List.append_assoc])) .nil))))))))))
     repeat refine awp_seq ?_
     refine awp_else (by simp -implicitDefEqProofs (disch := first | omega | rfl) only [go_sem, simprocAttr, eq_false hc86]) ?_
     repeat refine awp_seq ?_
     refine awp_reg fun K Q hK hQ => ?_
     simp -implicitDefEqProofs (disch := first | omega | rfl) only [go_sem, simprocAttr, zr11_22]
     have hh := bnd_some h; clear h; obtain ⟨x103, hx104, h⟩ := hh
     refine call_own hP ([]) (_ :: _ :: _ :: _ :: accO _ _ _ (accO _ _ _ (_ :: _ :: _ :: accO _ _ _ (_ :: [])))) (_ :: _ :: _ :: _ :: accO _ _ _ (accO _ _ _ (_ :: _ :: _ :: accO _ _ _ (_ :: [])))) ((1, b1, .cells (Source.cs p1)) :: (2, b2, .cells ([.str [], .int .i64 0, .int .i64 0, .int .i64 0, .int .i64 0, .nil])) :: (509, b73, .cells (flt (AV.int .i64) l21)) :: accO 510 bo45 (flt Fault.av l44) ((10, b71, .cells (Item.cs (p1.Items[x47.toNat]!))) :: [])) (_ :: _ :: _ :: _ :: accO _ _ _ (accO _ _ _ (_ :: _ :: _ :: accO _ _ _ (_ :: [])))) rfl (List.Perm.trans (List.Perm.cons _ perm_cc) (List.Perm.trans perm_cc ((List.Perm.cons _ (List.Perm.trans (List.Perm.cons _ perm_cc) (List.Perm.trans perm_cc ((List.Perm.cons _ (List.Perm.trans (List.Perm.cons _ perm_cc) (List.Perm.trans perm_cc ((List.Perm.cons _ (List.Perm.trans (List.Perm.cons _ perm_cc) (List.Perm.trans perm_cc ((List.Perm.cons _ (List.Perm.trans (List.Perm.cons _ perm_ca) (List.Perm.trans perm_ca ((perm_ha (List.Perm.trans (List.Perm.cons _ perm_ca) (List.Perm.trans perm_ca (List.Perm.refl _))))))))))))))))))))))) (fun q o => ∃ (bo105 : Option Nat), ∃ (bo107 : Option Nat), (bo105 = none → x103.2.2.2.1 = []) ∧ (bo107 = none → x103.2.2.2.2 = []) ∧ q = .val (.tup [.int .i64 x103.1, .bool x103.2.1]) ∧ o = (24, b10, .cells ([.mapv 20 b7, .mapv 21 b8, .mapv 22 b9, .int .i64 x103.2.2.1, accV 521 bo105 (List.length x103.2.2.2.1) 33, accV 522 bo107 (List.length x103.2.2.2.2) 1])) :: (20, b7, .map (List.map (fun p => (AV.str p.1, .agg (Item.cs p.2))) m14)) :: (21, b8, .map (List.map (fun p => (AV.str p.1, .agg (Span.cs p.2))) m15)) :: (22, b9, .map (List.map (fun p => (AV.str p.1, .agg (Item.cs p.2))) m16)) :: accO 521 bo105 (flt Item.av x103.2.2.2.1) (accO 522 bo107 (flt AV.str x103.2.2.2.2) [])) (c27 N m14 m15 m16 x35 l36 l39 (p1.Items[x47.toNat]!) ((List.length ((p1.Items[x47.toNat]!).Name) : Int)) b10 b7 b8 b9 bo37 hb38 bo40 hb41 x103 hx104) (by rintro q o ⟨bo105, bo107, hb106, hb108, rfl, rfl⟩; exact ⟨_, _, .val (.keep _), (.cells (.cons (.lmap ..) (.cons (.lmap ..) (.cons (.lmap ..) (.cons (.keep _) (.cons (frz_lacc (by first | rfl | (simp; done) | ((try simp only [List.length_set, List.length_take]); omega))) (.cons (frz_lacc (by first | rfl | (simp; done) | ((try simp only [List.length_set, List.length_take]); omega))) (.nil _))))))) (.map' (by first | rfl | simp) (.map' (by first | rfl | simp) (.map' (by first | rfl | simp) (.acc (FrzP.refl _ _) (.acc (FrzP.refl _ _) .nil)))))), bo105, bo107, hb106, hb108, rfl, rfl⟩) (by first | rfl | (simp only [accO_app, List.cons_append, List.nil_append]; rfl) | simp only [accO_app, List.cons_append, List.nil_append]) (.cells (.cons (.lmap ..) (.cons (.lmap ..) (.cons (.lmap ..) (.cons (.keep _) (.cons (frz_lacc (by first | rfl | (simp; done) | ((try simp only [List.length_set, List.length_take]); omega))) (.cons (frz_lacc (by first | rfl | (simp; done) | ((try simp only [List.length_set, List.length_take]); omega))) (.nil _))))))) (.map' (by first | rfl | simp) (.map' (by first | rfl | simp) (.map' (by first | rfl | simp) (.acc (FrzP.refl _ _) (.acc (FrzP.refl _ _) (.cell (.cell (.cell (.acc (FrzP.refl _ _) (.cell .nil))))))))))) (.cons (.lptr ..) (.cons (.keep _) (.cons (.keep _) .nil))) ?_
     rintro q o ⟨bo105, bo107, hb106, hb108, rfl, rfl⟩
     simp -implicitDefEqProofs (disch := first | omega | rfl) only [go_sem, simprocAttr]
     refine hK _ _ ?_; clear hK hQ K Q
     repeat refine awp_seq ?_
     refine rg (h := ?_)
     repeat refine awp_seq ?_
     refine awp_cut (ι := {p : (List Fault) × (Option Nat) // s11_k4 N x47 x103 p.1 = some q48 ∧ (p.2 = none → p.1 = [])}) (fun p => [(1, .ptr 1 b1 0), (2, .ptr 2 b2 0), (4, .ptr 24 b10 0), (5, .row 509 b73 0 (List.length l21) 1), (8, accV 523 p.1.2 (List.length p.1.1) 2), (12, .bool x103.2.1), (45, .sl (List.map Item.av p1.Items)), (46, .int .i64 (List.length p1.Items : Int)), (47, .int .i64 x47)]) (fun p => (1, b1, .cells (Source.cs p1)) :: (2, b2, .cells ([.str [], .int .i64 0, .int .i64 0, .int .i64 0, .int .i64 0, .nil])) :: (24, b10, .cells ([.mapv 20 b7, .mapv 21 b8, .mapv 22 b9, .int .i64 x103.2.2.1, accV 521 bo105 (List.length x103.2.2.2.1) 33, accV 522 bo107 (List.length x103.2.2.2.2) 1])) :: (20, b7, .map (List.map (fun p => (AV.str p.1, .agg (Item.cs p.2))) m14)) :: (21, b8, .map (List.map (fun p => (AV.str p.1, .agg (Span.cs p.2))) m15)) :: (22, b9, .map (List.map (fun p => (AV.str p.1, .agg (Item.cs p.2))) m16)) :: accO 521 bo105 (flt Item.av x103.2.2.2.1) (accO 522 bo107 (flt AV.str x103.2.2.2.2) ((509, b73, .cells (flt (AV.int .i64) l21)) :: accO 523 p.1.2 (flt Fault.av p.1.1) []))) ?_ ?_
     · rcases ite_some h with ⟨hc113, h⟩ | ⟨hc113, h⟩
       · repeat refine awp_seq ?_
         refine awp_else (by simp -implicitDefEqProofs (disch := first | omega | rfl) only [go_sem, simprocAttr, eq_true hc113]) ?_
         repeat refine awp_seq ?_
         refine awp_skip ?_
         refine ⟨⟨⟨l44, bo45⟩, h, hb46⟩, ?_⟩
         refine ent_le' ([]) (_ :: _ :: _ :: _ :: _ :: _ :: accO _ _ _ (accO _ _ _ (_ :: accO _ _ _ (_ :: [])))) (_ :: _ :: _ :: _ :: _ :: _ :: accO _ _ _ (accO _ _ _ (_ :: accO _ _ _ (_ :: [])))) rfl (List.Perm.trans ((List.Perm.cons _ ((List.Perm.cons _ ((List.Perm.cons _ (List.Perm.cons _ (perm_ha perm_ac)))))))) (List.Perm.trans ((List.Perm.cons _ ((List.Perm.cons _ (List.Perm.cons _ (List.Perm.cons _ perm_ac)))))) (List.Perm.trans ((List.Perm.cons _ (List.Perm.cons _ (List.Perm.cons _ perm_cc)))) (List.Perm.trans (List.Perm.cons _ (List.Perm.cons _ perm_cc)) (List.Perm.trans (List.Perm.cons _ perm_cc) (List.Perm.trans perm_cc ((List.Perm.cons _ (List.Perm.trans ((List.Perm.cons _ ((List.Perm.cons _ ((List.Perm.cons _ (List.Perm.cons _ (perm_ha perm_ac)))))))) (List.Perm.trans ((List.Perm.cons _ ((List.Perm.cons _ (List.Perm.cons _ (List.Perm.cons _ perm_ac)))))) (List.Perm.trans ((List.Perm.cons _ (List.Perm.cons _ (List.Perm.cons _ perm_cc)))) (List.Perm.trans (List.Perm.cons _ (List.Perm.cons _ perm_cc)) (List.Perm.trans (List.Perm.cons _ perm_cc) (List.Perm.trans perm_cc (List.Perm.refl _))))))))))))))) ?_ ?_
         · simp -implicitDefEqProofs (disch := first | omega | rfl) only [go_sem, simprocAttr, subF_cons, subF_nil]
           exact ⟨(.lptr ..), (.lptr ..), (.lptr ..), (frz_lrow (by first | rfl | (simp; done) | ((try simp only [List.length_set, List.length_take]); omega))), (frz_lacc (by first | rfl | (simp; done) | ((try simp only [List.length_set, List.length_take]); omega))), (.keep _), (.keep _), (.keep _), (.keep _)⟩
         · exact (.cell (.cell (.cell (.map' (by first | rfl | simp) (.map' (by first | rfl | simp) (.map' (by first | rfl | simp) (.acc (FrzP.refl _ _) (.acc (FrzP.refl _ _) (.cell (.acc (FrzP.of_eq (by first | rfl | simp only [flt_app, flt_one, List.append_assoc])) (.drop .nil)))))))))))
       repeat refine awp_seq ?_
       refine awp_then (by simp -implicitDefEqProofs (disch := first | omega | rfl) only [go_sem, simprocAttr, eq_false hc113]) ?_
       repeat refine awp_seq ?_
       refine awp_reg fun K Q hK hQ => ?_
       obtain ⟨⟨hg115, hg116⟩, h⟩ := grd_some h
       simp -implicitDefEqProofs (disch := first | omega | rfl) only [go_sem, simprocAttr, zr11_24, eq_true hg115, eq_true hg116]
       intro b114
       refine app_acc (f := Fault.av) (l := l44) ((89, b114, .cells ([.int .i64 x103.1, .int .i64 ((p1.Items[x47.toNat]!).At)])) :: (24, b10, .cells ([.mapv 20 b7, .mapv 21 b8, .mapv 22 b9, .int .i64 x103.2.2.1, accV 521 bo105 (List.length x103.2.2.2.1) 33, accV 522 bo107 (List.length x103.2.2.2.2) 1])) :: (20, b7, .map (List.map (fun p => (AV.str p.1, .agg (Item.cs p.2))) m14)) :: (21, b8, .map (List.map (fun p => (AV.str p.1, .agg (Span.cs p.2))) m15)) :: (22, b9, .map (List.map (fun p => (AV.str p.1, .agg (Item.cs p.2))) m16)) :: accO 521 bo105 (flt Item.av x103.2.2.2.1) (accO 522 bo107 (flt AV.str x103.2.2.2.2) ((1, b1, .cells (Source.cs p1)) :: (2, b2, .cells ([.str [], .int .i64 0, .int .i64 0, .int .i64 0, .int .i64 0, .nil])) :: (509, b73, .cells (flt (AV.int .i64) l21)) :: (10, b71, .cells (Item.cs (p1.Items[x47.toNat]!))) :: []))) hb46 (by first | rfl | simp) (fun _ => Fault.avl) (by intro b hb; subst hb; simp -implicitDefEqProofs (disch := first | omega | rfl) only [go_sem, simprocAttr]) (by intro b hb; subst hb; simp -implicitDefEqProofs (disch := first | omega | rfl) only [go_sem, simprocAttr]) (by intro hb; subst hb; simp -implicitDefEqProofs (disch := first | omega | rfl) only [go_sem, simprocAttr]) ?_
       simp -implicitDefEqProofs (disch := first | omega | rfl) only [go_sem, simprocAttr, eq_true hg115, eq_true hg116]
       intro bo117 hb118
       try simp -implicitDefEqProofs (disch := first | omega | rfl) only [go_sem, simprocAttr]
       refine hK _ _ ?_; clear hK hQ K Q
       refine ⟨⟨⟨l44 ++ ([({ Err := x103.1, At := (p1.Items[x47.toNat]!).At } : Fault)]), bo117⟩, h, (fun h => List.length_eq_zero_iff.1 (by simpa using hb118 h))⟩, ?_⟩
       refine ent_le' ([]) (_ :: _ :: _ :: _ :: _ :: _ :: accO _ _ _ (accO _ _ _ (_ :: accO _ _ _ (_ :: _ :: [])))) (_ :: _ :: _ :: _ :: _ :: _ :: accO _ _ _ (accO _ _ _ (_ :: accO _ _ _ (_ :: _ :: [])))) rfl (List.Perm.trans ((perm_ha ((List.Perm.cons _ ((List.Perm.cons _ ((List.Perm.cons _ ((List.Perm.cons _ (List.Perm.cons _ (perm_ha perm_ac)))))))))))) (List.Perm.trans ((perm_ha ((List.Perm.cons _ ((List.Perm.cons _ ((List.Perm.cons _ (List.Perm.cons _ (List.Perm.cons _ perm_ac)))))))))) (List.Perm.trans ((perm_ha ((List.Perm.cons _ ((List.Perm.cons _ (List.Perm.cons _ (List.Perm.cons _ perm_cc)))))))) (List.Perm.trans ((perm_ha ((List.Perm.cons _ (List.Perm.cons _ (List.Perm.cons _ perm_cc)))))) (List.Perm.trans ((perm_ha (List.Perm.cons _ (List.Perm.cons _ perm_cc)))) (List.Perm.trans (perm_ha (List.Perm.cons _ perm_cc)) (List.Perm.trans (perm_ha perm_cc) (List.Perm.trans perm_ac ((List.Perm.cons _ (List.Perm.trans ((perm_ha ((List.Perm.cons _ ((List.Perm.cons _ ((List.Perm.cons _ ((List.Perm.cons _ (List.Perm.cons _ (perm_ha perm_ac)))))))))))) (List.Perm.trans ((perm_ha ((List.Perm.cons _ ((List.Perm.cons _ ((List.Perm.cons _ (List.Perm.cons _ (List.Perm.cons _ perm_ac)))))))))) (List.Perm.trans ((perm_ha ((List.Perm.cons _ ((List.Perm.cons _ (List.Perm.cons _ (List.Perm.cons _ perm_cc)))))))) (List.Perm.trans ((perm_ha ((List.Perm.cons _ (List.Perm.cons _ (List.Perm.cons _ perm_cc)))))) (List.Perm.trans ((perm_ha (List.Perm.cons _ (List.Perm.cons _ perm_cc)))) (List.Perm.trans (perm_ha (List.Perm.cons _ perm_cc)) (List.Perm.trans (perm_ha perm_cc) (List.Perm.trans perm_ac ((List.Perm.cons _ (List.Perm.trans (perm_ha perm_cc) (List.Perm.trans perm_ac ((List.Perm.cons _ (List.Perm.trans (perm_ha perm_cc) (List.Perm.trans perm_ac ((List.Perm.cons _ (List.Perm.trans (perm_ha perm_cc) (List.Perm.trans perm_ac ((List.Perm.cons _ (List.Perm.trans (perm_ha perm_cc) (List.Perm.trans perm_ac ((List.Perm.cons _ (List.Perm.trans (perm_ha perm_ca) (List.Perm.trans perm_aa ((perm_ha (List.Perm.trans (perm_ha perm_ca) (List.Perm.trans perm_aa ((perm_ha (List.Perm.trans (perm_ha perm_cc) (List.Perm.trans perm_ac (List.Perm.refl _))))))))))))))))))))))))))))))))))))))))))))))) ?_ ?_
       · simp -implicitDefEqProofs (disch := first | omega | rfl) only [go_sem, simprocAttr, subF_cons, subF_nil]
         exact ⟨(.lptr ..), (.lptr ..), (.lptr ..), (frz_lrow (by first | rfl | (simp; done) | ((try simp only [List.length_set, List.length_take]); omega))), (frz_lacc (by first | rfl | (simp; done) | ((try simp only [List.length_set, List.length_take]); omega))), (.keep _), (.keep _), (.keep _), (.keep _)⟩
       · exact (.cell (.cell (.cell (.map' (by first | rfl | simp) (.map' (by first | rfl | simp) (.map' (by first | rfl | simp) (.acc (FrzP.refl _ _) (.acc (FrzP.refl _ _) (.cell (.acc (FrzP.of_eq (by first | rfl | simp only [flt_app, flt_one, List.append_assoc])) (.drop (.drop .nil))))))))))))
     rintro ⟨⟨l109, bo110⟩, h, hb111⟩
     try dsimp only at h hb111
     try dsimp only
     repeat refine awp_seq ?_
     refine rg (h := ?_)
     rcases cnd_some h with ⟨hc112, h⟩ | ⟨hc112, h⟩
     · repeat refine awp_seq ?_
       refine awp_then (by simp -implicitDefEqProofs (disch := first | omega | rfl) only [go_sem, simprocAttr, hc112]) ?_
       repeat refine awp_seq ?_
       refine awp_exit ?_
       repeat' (first | refine then_exit ?_ | refine exit_here ?_ | refine exit_on rfl ?_)
       obtain rfl := som_inj h
       try dsimp only at hm48
       subst hm48
       try dsimp only at hO48
       refine ⟨⟨⟨x103.2.2.1, x103.2.2.2.1, bo105, x103.2.2.2.2, bo107, l109, bo110⟩, hO48, hb106, hb108, hb111⟩, ?_⟩
       refine ent_le' ([]) (_ :: _ :: _ :: _ :: _ :: _ :: accO _ _ _ (accO _ _ _ (accO _ _ _ (_ :: [])))) (_ :: _ :: _ :: _ :: _ :: _ :: accO _ _ _ (accO _ _ _ (accO _ _ _ (_ :: [])))) rfl ((List.Perm.cons _ ((List.Perm.cons _ ((List.Perm.cons _ ((List.Perm.cons _ ((List.Perm.cons _ ((List.Perm.cons _ ((perm_ha ((perm_ha (List.Perm.trans perm_ca (List.Perm.refl _)))))))))))))))))) ?_ ?_
       · simp -implicitDefEqProofs (disch := first | omega | rfl) only [go_sem, simprocAttr, subF_cons, subF_nil]
         exact ⟨(.lptr ..), (.lptr ..), (.lptr ..), (frz_lacc (by first | rfl | (simp; done) | ((try simp only [List.length_set, List.length_take]); omega)))⟩
       · exact (.cell (.cell (.cells (.cons (.lmap ..) (.cons (.lmap ..) (.cons (.lmap ..) (.cons (.keep _) (.cons (frz_lacc (by first | rfl | (simp; done) | ((try simp only [List.length_set, List.length_take]); omega))) (.cons (frz_lacc (by first | rfl | (simp; done) | ((try simp only [List.length_set, List.length_take]); omega))) (.nil _))))))) (.map' (by first | rfl | simp) (.map' (by first | rfl | simp) (.map' (by first | rfl | simp) (.acc (FrzP.of_eq (by first | rfl | simp only [flt_app, flt_one, List.append_assoc])) (.acc (FrzP.of_eq (by first | rfl | simp only [flt_app, flt_one, List.append_assoc])) (.acc (FrzP.of_eq (by first | rfl | simp only [flt_app, flt_one, List.append_assoc])) (.drop .nil))))))))))
     repeat refine awp_seq ?_
     refine awp_else (by simp -implicitDefEqProofs (disch := first | omega | rfl) only [go_sem, simprocAttr, hc112]) ?_
     repeat refine awp_seq ?_
     refine awp_skip ?_
     repeat refine awp_seq ?_
     refine rg (h := ?_)
     obtain rfl := som_inj h
     try dsimp only at hm48
     refine ⟨⟨⟨m48, x103.2.2.1, x103.2.2.2.1, bo105, x103.2.2.2.2, bo107, (some b73), l109, bo110, IntKind.wrap .i64 (x47 + 1)⟩, hm48, hb106, hb108, (fun h => by cases h), hb111⟩, Nat.lt_succ_self _, ?_⟩
     refine ent_le' ([]) (_ :: _ :: _ :: _ :: _ :: _ :: accO _ _ _ (accO _ _ _ (_ :: accO _ _ _ []))) (_ :: _ :: _ :: _ :: _ :: _ :: accO _ _ _ (accO _ _ _ (_ :: accO _ _ _ []))) rfl (List.Perm.refl _) ?_ ?_
     · simp -implicitDefEqProofs (disch := first | omega | rfl) only [go_sem, simprocAttr, subF_cons, subF_nil]
       exact ⟨(.lptr ..), (.lptr ..), (.lptr ..), (frz_lrow (by first | rfl | (simp; done) | ((try simp only [List.length_set, List.length_take]); omega))), (frz_lacc (by first | rfl | (simp; done) | ((try simp only [List.length_set, List.length_take]); omega))), (.keep _), (.keep _), (.keep _)⟩
     · exact (.cell (.cell (.cells (.cons (.lmap ..) (.cons (.lmap ..) (.cons (.lmap ..) (.cons (.keep _) (.cons (frz_lacc (by first | rfl | (simp; done) | ((try simp only [List.length_set, List.length_take]); omega))) (.cons (frz_lacc (by first | rfl | (simp; done) | ((try simp only [List.length_set, List.length_take]); omega))) (.nil _))))))) (.map' (by first | rfl | simp) (.map' (by first | rfl | simp) (.map' (by first | rfl | simp) (.acc (FrzP.of_eq (by first | rfl | simp only [flt_app, flt_one, List.append_assoc])) (.acc (FrzP.of_eq (by first | rfl | simp only [flt_app, flt_one, List.append_assoc])) (.cell (.acc (FrzP.of_eq (by first | rfl | simp only [flt_app, flt_one, List.append_assoc])) .nil))))))))))
   repeat refine awp_seq ?_
   refine awp_else (by simp -implicitDefEqProofs (disch := first | omega | rfl) only [go_sem, simprocAttr, eq_false hc69]) ?_
   repeat refine awp_seq ?_
   refine awp_exit ?_
   repeat' (first | refine then_exit ?_ | refine exit_here ?_ | refine exit_on rfl ?_)
   obtain rfl := som_inj h
   try dsimp only at hm48
   subst hm48
   try dsimp only at hO48
   refine ⟨⟨⟨x35, l36, bo37, l39, bo40, l44, bo45⟩, hO48, hb38, hb41, hb46⟩, ?_⟩
   refine ent_le' ([]) (_ :: _ :: _ :: _ :: _ :: _ :: accO _ _ _ (accO _ _ _ (accO _ _ _ (accO _ _ _ [])))) (_ :: _ :: _ :: _ :: _ :: _ :: accO _ _ _ (accO _ _ _ (accO _ _ _ (accO _ _ _ [])))) rfl ((List.Perm.cons _ ((List.Perm.cons _ ((List.Perm.cons _ ((List.Perm.cons _ ((List.Perm.cons _ ((List.Perm.cons _ ((perm_ha ((perm_ha (List.Perm.trans perm_aa (List.Perm.refl _)))))))))))))))))) ?_ ?_
   · simp -implicitDefEqProofs (disch := first | omega | rfl) only [go_sem, simprocAttr, subF_cons, subF_nil]
     exact ⟨(.lptr ..), (.lptr ..), (.lptr ..), (frz_lacc (by first | rfl | (simp; done) | ((try simp only [List.length_set, List.length_take]); omega)))⟩
   · exact (.cell (.cell (.cells (.cons (.lmap ..) (.cons (.lmap ..) (.cons (.lmap ..) (.cons (.keep _) (.cons (frz_lacc (by first | rfl | (simp; done) | ((try simp only [List.length_set, List.length_take]); omega))) (.cons (frz_lacc (by first | rfl | (simp; done) | ((try simp only [List.length_set, List.length_take]); omega))) (.nil _))))))) (.map' (by first | rfl | simp) (.map' (by first | rfl | simp) (.map' (by first | rfl | simp) (.acc (FrzP.of_eq (by first | rfl | simp only [flt_app, flt_one, List.append_assoc])) (.acc (FrzP.of_eq (by first | rfl | simp only [flt_app, flt_one, List.append_assoc])) (.acc (FrzP.of_eq (by first | rfl | simp only [flt_app, flt_one, List.append_assoc])) (.accDrop .nil))))))))))
 rintro ⟨⟨x24, l25, bo26, l28, bo29, l31, bo32⟩, h, hb27, hb30, hb33⟩
 try dsimp only at h hb27 hb30 hb33
 try dsimp only
 repeat refine awp_seq ?_
 refine rg (by intro K Q; simp -implicitDefEqProofs (disch := first | omega | rfl) only [go_sem, simprocAttr, lenA_acc (acc_len hb33)] <;> rfl) ?_
 rcases ite_some h with ⟨hc34, h⟩ | ⟨hc34, h⟩
 · repeat refine awp_seq ?_
   refine awp_then (by simp -implicitDefEqProofs (disch := first | omega | rfl) only [go_sem, simprocAttr, eq_true hc34]) ?_
   repeat refine awp_seq ?_
   refine rg (h := ?_)
   obtain rfl := som_inj h
   repeat refine awp_seq ?_
   refine awp_le' (s' := [(2, .ptr 2 b2 0), (3, .sl (List.map Fault.av l31))]) (own' := (2, b2, .cells (Source.cs ({ Name := [], From := ({ Year := 0, Month := 0, Day := 0 } : Civil), Days := 0, Items := [] } : Source))) :: []) (accO _ _ _ []) (_ :: _ :: _ :: _ :: _ :: _ :: accO _ _ _ (accO _ _ _ [])) (accO _ _ _ (_ :: _ :: _ :: _ :: _ :: _ :: accO _ _ _ (accO _ _ _ []))) (by first | rfl | (simp only [accO_app, List.cons_append, List.nil_append]; rfl) | simp only [accO_app, List.cons_append, List.nil_append]) (List.Perm.trans ((List.Perm.cons _ ((List.Perm.cons _ ((List.Perm.cons _ ((List.Perm.cons _ ((List.Perm.cons _ (List.Perm.cons _ (perm_ha perm_aa)))))))))))) (List.Perm.trans ((List.Perm.cons _ ((List.Perm.cons _ ((List.Perm.cons _ ((List.Perm.cons _ (List.Perm.cons _ (List.Perm.cons _ perm_aa)))))))))) (List.Perm.trans ((List.Perm.cons _ ((List.Perm.cons _ ((List.Perm.cons _ (List.Perm.cons _ (List.Perm.cons _ perm_ca)))))))) (List.Perm.trans ((List.Perm.cons _ ((List.Perm.cons _ (List.Perm.cons _ (List.Perm.cons _ perm_ca)))))) (List.Perm.trans ((List.Perm.cons _ (List.Perm.cons _ (List.Perm.cons _ perm_ca)))) (List.Perm.trans (List.Perm.cons _ (List.Perm.cons _ perm_ca)) (List.Perm.trans (List.Perm.cons _ perm_ca) (List.Perm.trans perm_ca ((perm_ha (List.Perm.trans perm_cc (List.Perm.refl _)))))))))))) ?_ ?_ ?_
   · simp -implicitDefEqProofs (disch := first | omega | rfl) only [go_sem, simprocAttr, subF_cons, subF_nil]
     exact ⟨(.lptr ..), (frz_acc (fun _ => Fault.avl) hb33 (by intro b hb; subst hb; simp -implicitDefEqProofs (disch := first | omega | rfl) only [go_sem, simprocAttr]) (by first | rfl | (simp; done) | ((try simp only [List.length_set, List.length_take]); omega)))⟩
   · exact (.cells (by rw [Source.cs_eq]; exact (.cons (.keep _) (.cons (.keep _) (.cons (.keep _) (.cons (.keep _) (.cons (.keep _) (.cons .nil (.nil _)))))))) (.drop (.drop (.drop (.drop (.drop (.accDrop (.accDrop .nil))))))))
   refine awp_ret ?_
   repeat first | refine then_ret ?_ | refine blk_ret ?_
   exact rtp
 repeat refine awp_seq ?_
 refine awp_else (by simp -implicitDefEqProofs (disch := first | omega | rfl) only [go_sem, simprocAttr, eq_false hc34]) ?_
 repeat refine awp_seq ?_
 refine awp_skip ?_
 repeat refine awp_seq ?_
 refine awp_regD' (_ :: _ :: _ :: _ :: _ :: accO _ _ _ (accO _ _ _ (accO _ _ _ []))) (_ :: []) (_ :: _ :: _ :: _ :: _ :: accO _ _ _ (accO _ _ _ (accO _ _ _ (_ :: [])))) (by rw [hP]; exact mixed) (by first | rfl | (simp only [accO_app, List.cons_append, List.nil_append]; rfl) | simp only [accO_app, List.cons_append, List.nil_append]) ((List.Perm.cons _ (List.Perm.trans perm_cc ((List.Perm.cons _ (List.Perm.trans perm_cc ((List.Perm.cons _ (List.Perm.trans perm_cc ((List.Perm.cons _ (List.Perm.trans perm_cc ((List.Perm.cons _ (List.Perm.trans perm_ca ((perm_ha (List.Perm.trans perm_ca ((perm_ha (List.Perm.trans perm_ca (List.Perm.refl _)))))))))))))))))))))) fun K hK => ?_
 simp -implicitDefEqProofs (disch := first | omega | rfl) only [go_sem, simprocAttr, zr11_29, Civil.cs_eq]
 refine hK _ _ ?_; clear hK K
 obtain rfl := som_inj h
 repeat refine awp_seq ?_
 refine awp_le' (s' := [(2, .ptr 2 b2 0), (3, .sl (List.map Fault.av []))]) (own' := (2, b2, .cells (Source.cs ({ p1 with Items := l25 }))) :: []) (accO _ _ _ []) (_ :: _ :: _ :: _ :: _ :: _ :: accO _ _ _ (accO _ _ _ [])) (accO _ _ _ (_ :: _ :: _ :: _ :: _ :: _ :: accO _ _ _ (accO _ _ _ []))) (by first | rfl | (simp only [accO_app, List.cons_append, List.nil_append]; rfl) | simp only [accO_app, List.cons_append, List.nil_append]) (List.Perm.trans ((List.Perm.cons _ ((List.Perm.cons _ (List.Perm.cons _ (List.Perm.cons _ perm_ca)))))) (List.Perm.trans ((List.Perm.cons _ (List.Perm.cons _ (List.Perm.cons _ perm_ca)))) (List.Perm.trans (List.Perm.cons _ (List.Perm.cons _ perm_ca)) (List.Perm.trans (List.Perm.cons _ perm_ca) (List.Perm.trans perm_ca ((perm_ha (List.Perm.trans ((List.Perm.cons _ ((List.Perm.cons _ ((List.Perm.cons _ ((List.Perm.cons _ (List.Perm.cons _ (perm_ha perm_ac)))))))))) (List.Perm.trans ((List.Perm.cons _ ((List.Perm.cons _ ((List.Perm.cons _ (List.Perm.cons _ (List.Perm.cons _ perm_ac)))))))) (List.Perm.trans ((List.Perm.cons _ ((List.Perm.cons _ (List.Perm.cons _ (List.Perm.cons _ perm_cc)))))) (List.Perm.trans ((List.Perm.cons _ (List.Perm.cons _ (List.Perm.cons _ perm_cc)))) (List.Perm.trans (List.Perm.cons _ (List.Perm.cons _ perm_cc)) (List.Perm.trans (List.Perm.cons _ perm_cc) (List.Perm.trans perm_cc (List.Perm.refl _))))))))))))))) ?_ ?_ ?_
 · simp -implicitDefEqProofs (disch := first | omega | rfl) only [go_sem, simprocAttr, subF_cons, subF_nil]
   exact ⟨(.lptr ..), .nil⟩
 · exact (.cells (by rw [Source.cs_eq]; exact (.cons (.keep _) (.cons (.keep _) (.cons (.keep _) (.cons (.keep _) (.cons (.keep _) (.cons (frz_acc (fun _ => Item.avl) hb27 (by intro b hb; subst hb; simp -implicitDefEqProofs (disch := first | omega | rfl) only [go_sem, simprocAttr]) (by first | rfl | (simp; done) | ((try simp only [List.length_set, List.length_take]); omega))) (.nil _)))))))) (.drop (.drop (.drop (.drop (.drop (.accDrop (.accDrop .nil))))))))
 refine awp_ret ?_
 repeat first | refine then_ret ?_ | refine blk_ret ?_
 exact rtp
end Go.Proofs.Inc
namespace Go.Proofs.Inc
open Go.Aw
set_option maxRecDepth 100000
attribute [-go_sem] nisA_sl appA_nil
def zr9_0 : List AO := [⟨some 0, none, .mov (.c (.bool false))⟩]
def zr9_1 : List AO := [⟨some 12, none, .bld [.int .i64 0, .bool false, .str []] [(0, 1, (.c (.int .i64 5)))]⟩,
  ⟨some 13, none, .bld [.int .i64 0, .str [], .int .i64 0, .str [], .str [], .int .i64 0, .int .i64 0, .int .i64 0, .bool false, .str [], .int .i64 0, .bool false, .str [], .nil, .str [], .str [], .int .i64 0, .int .i64 0, .str [], .str [], .bool false, .str [], .str [], .bool false, .bool false, .bool false, .bool false, .bool false, .bool false, .bool false, .nil, .nil, .nil] [(0, 1, (.c (.int .i64 6))), (1, 1, (.c (.str [116, 101, 114, 109]))), (7, 3, (.t 12))]⟩,
  ⟨some 1, none, .alloc [.int .i64 0, .str [], .int .i64 0, .str [], .str [], .int .i64 0, .int .i64 0, .int .i64 0, .bool false, .str [], .int .i64 0, .bool false, .str [], .nil, .str [], .str [], .int .i64 0, .int .i64 0, .str [], .str [], .bool false, .str [], .str [], .bool false, .bool false, .bool false, .bool false, .bool false, .bool false, .bool false, .nil, .nil, .nil]⟩,
  ⟨none, none, .store 33 (.t 1) (.t 13)⟩]
def zr9_2 : List AO := [⟨some 14, none, .mkrow 1 1 [.str []] [(0, 1, (.c (.str [98, 117, 121, 101, 114])))]⟩,
  ⟨some 15, none, .bld [.int .i64 0, .str [], .int .i64 0, .str [], .str [], .int .i64 0, .int .i64 0, .int .i64 0, .bool false, .str [], .int .i64 0, .bool false, .str [], .nil, .str [], .str [], .int .i64 0, .int .i64 0, .str [], .str [], .bool false, .str [], .str [], .bool false, .bool false, .bool false, .bool false, .bool false, .bool false, .bool false, .nil, .nil, .nil] [(0, 1, (.c (.int .i64 14))), (3, 1, (.c (.str [115, 97, 108, 101]))), (1, 1, (.c (.str [115, 49]))), (31, 1, (.t 14)), (2, 1, (.c (.int .i64 7)))]⟩,
  ⟨some 2, none, .alloc [.int .i64 0, .str [], .int .i64 0, .str [], .str [], .int .i64 0, .int .i64 0, .int .i64 0, .bool false, .str [], .int .i64 0, .bool false, .str [], .nil, .str [], .str [], .int .i64 0, .int .i64 0, .str [], .str [], .bool false, .str [], .str [], .bool false, .bool false, .bool false, .bool false, .bool false, .bool false, .bool false, .nil, .nil, .nil]⟩,
  ⟨none, none, .store 33 (.t 2) (.t 15)⟩]
def zr9_3 : List AO := [⟨some 16, none, .bld [.int .i64 0, .str [], .int .i64 0, .str [], .str [], .int .i64 0, .int .i64 0, .int .i64 0, .bool false, .str [], .int .i64 0, .bool false, .str [], .nil, .str [], .str [], .int .i64 0, .int .i64 0, .str [], .str [], .bool false, .str [], .str [], .bool false, .bool false, .bool false, .bool false, .bool false, .bool false, .bool false, .nil, .nil, .nil] [(0, 1, (.c (.int .i64 14))), (3, 1, (.c (.str [115, 97, 108, 101]))), (1, 1, (.c (.str [115, 50]))), (2, 1, (.c (.int .i64 8)))]⟩,
  ⟨some 3, none, .alloc [.int .i64 0, .str [], .int .i64 0, .str [], .str [], .int .i64 0, .int .i64 0, .int .i64 0, .bool false, .str [], .int .i64 0, .bool false, .str [], .nil, .str [], .str [], .int .i64 0, .int .i64 0, .str [], .str [], .bool false, .str [], .str [], .bool false, .bool false, .bool false, .bool false, .bool false, .bool false, .bool false, .nil, .nil, .nil]⟩,
  ⟨none, none, .store 33 (.t 3) (.t 16)⟩]
def zr9_4 : List AO := [⟨some 17, none, .mkrow 1 1 [.str []] [(0, 1, (.c (.str [98, 117, 121, 101, 114])))]⟩,
  ⟨some 18, none, .bld [.int .i64 0, .str [], .int .i64 0, .str [], .str [], .int .i64 0, .int .i64 0, .int .i64 0, .bool false, .str [], .int .i64 0, .bool false, .str [], .nil, .str [], .str [], .int .i64 0, .int .i64 0, .str [], .str [], .bool false, .str [], .str [], .bool false, .bool false, .bool false, .bool false, .bool false, .bool false, .bool false, .nil, .nil, .nil] [(0, 1, (.c (.int .i64 14))), (3, 1, (.c (.str [108, 101, 97, 115, 101]))), (1, 1, (.c (.str [115, 51]))), (31, 1, (.t 17)), (2, 1, (.c (.int .i64 9)))]⟩,
  ⟨some 4, none, .alloc [.int .i64 0, .str [], .int .i64 0, .str [], .str [], .int .i64 0, .int .i64 0, .int .i64 0, .bool false, .str [], .int .i64 0, .bool false, .str [], .nil, .str [], .str [], .int .i64 0, .int .i64 0, .str [], .str [], .bool false, .str [], .str [], .bool false, .bool false, .bool false, .bool false, .bool false, .bool false, .bool false, .nil, .nil, .nil]⟩,
  ⟨none, none, .store 33 (.t 4) (.t 18)⟩]
def zr9_5 : DT := (.pur ⟨some 20, none, .load true 33 (.t 2)⟩ (.pur ⟨some 22, none, .load true 33 (.t 1)⟩ (.alt false ⟨some 21, none, .callF 21 []⟩ (.alt false ⟨some 23, none, .mkrow 33 3 [.int .i64 0, .str [], .int .i64 0, .str [], .str [], .int .i64 0, .int .i64 0, .int .i64 0, .bool false, .str [], .int .i64 0, .bool false, .str [], .nil, .str [], .str [], .int .i64 0, .int .i64 0, .str [], .str [], .bool false, .str [], .str [], .bool false, .bool false, .bool false, .bool false, .bool false, .bool false, .bool false, .nil, .nil, .nil] [(0, 33, (.t 20)), (33, 33, (.t 21)), (66, 33, (.t 22))]⟩ (.pur ⟨some 24, none, .bld [.str [], .int .i64 0, .int .i64 0, .int .i64 0, .int .i64 0, .nil] [(5, 1, (.t 23))]⟩ (.alt false ⟨some 25, none, .callF 11 [(.t 24)]⟩ (.pur ⟨some 19, none, .mov (.t 25)⟩ (.pur ⟨some 26, none, .ext 0 (.t 19)⟩ (.pur ⟨some 27, none, .ext 1 (.t 19)⟩ (.alt false ⟨some 5, none, .alloc [.str [], .int .i64 0, .int .i64 0, .int .i64 0, .int .i64 0, .nil]⟩ (.alt false ⟨none, none, .store 6 (.t 5) (.t 26)⟩ (.alt true ⟨some 6, none, .mov (.t 27)⟩ .done .stop) .stop) .stop)))) (.alt false ⟨some 5, none, .alloc [.str [], .int .i64 0, .int .i64 0, .int .i64 0, .int .i64 0, .nil]⟩ (.alt false ⟨some 25, none, .callF 11 [(.t 24)]⟩ (.alt false ⟨some 19, none, .mov (.t 25)⟩ (.pur ⟨some 26, none, .ext 0 (.t 19)⟩ (.pur ⟨some 27, none, .ext 1 (.t 19)⟩ (.alt false ⟨none, none, .store 6 (.t 5) (.t 26)⟩ (.alt true ⟨some 6, none, .mov (.t 27)⟩ .done .stop) .stop))) .stop) .stop) .stop))) (.alt false ⟨some 5, none, .alloc [.str [], .int .i64 0, .int .i64 0, .int .i64 0, .int .i64 0, .nil]⟩ (.alt false ⟨some 23, none, .mkrow 33 3 [.int .i64 0, .str [], .int .i64 0, .str [], .str [], .int .i64 0, .int .i64 0, .int .i64 0, .bool false, .str [], .int .i64 0, .bool false, .str [], .nil, .str [], .str [], .int .i64 0, .int .i64 0, .str [], .str [], .bool false, .str [], .str [], .bool false, .bool false, .bool false, .bool false, .bool false, .bool false, .bool false, .nil, .nil, .nil] [(0, 33, (.t 20)), (33, 33, (.t 21)), (66, 33, (.t 22))]⟩ (.alt false ⟨some 24, none, .bld [.str [], .int .i64 0, .int .i64 0, .int .i64 0, .int .i64 0, .nil] [(5, 1, (.t 23))]⟩ (.alt false ⟨some 25, none, .callF 11 [(.t 24)]⟩ (.alt false ⟨some 19, none, .mov (.t 25)⟩ (.pur ⟨some 26, none, .ext 0 (.t 19)⟩ (.pur ⟨some 27, none, .ext 1 (.t 19)⟩ (.alt false ⟨none, none, .store 6 (.t 5) (.t 26)⟩ (.alt true ⟨some 6, none, .mov (.t 27)⟩ .done .stop) .stop))) .stop) .stop) .stop) .stop) .stop)) (.alt false ⟨some 5, none, .alloc [.str [], .int .i64 0, .int .i64 0, .int .i64 0, .int .i64 0, .nil]⟩ (.alt false ⟨some 21, none, .callF 21 []⟩ (.alt false ⟨some 23, none, .mkrow 33 3 [.int .i64 0, .str [], .int .i64 0, .str [], .str [], .int .i64 0, .int .i64 0, .int .i64 0, .bool false, .str [], .int .i64 0, .bool false, .str [], .nil, .str [], .str [], .int .i64 0, .int .i64 0, .str [], .str [], .bool false, .str [], .str [], .bool false, .bool false, .bool false, .bool false, .bool false, .bool false, .bool false, .nil, .nil, .nil] [(0, 33, (.t 20)), (33, 33, (.t 21)), (66, 33, (.t 22))]⟩ (.alt false ⟨some 24, none, .bld [.str [], .int .i64 0, .int .i64 0, .int .i64 0, .int .i64 0, .nil] [(5, 1, (.t 23))]⟩ (.alt false ⟨some 25, none, .callF 11 [(.t 24)]⟩ (.alt false ⟨some 19, none, .mov (.t 25)⟩ (.pur ⟨some 26, none, .ext 0 (.t 19)⟩ (.pur ⟨some 27, none, .ext 1 (.t 19)⟩ (.alt false ⟨none, none, .store 6 (.t 5) (.t 26)⟩ (.alt true ⟨some 6, none, .mov (.t 27)⟩ .done .stop) .stop))) .stop) .stop) .stop) .stop) .stop) .stop))))
def zr9_6 : DT := (.pur ⟨some 29, none, .load true 33 (.t 3)⟩ (.pur ⟨some 30, none, .load true 33 (.t 4)⟩ (.pur ⟨some 32, none, .load true 33 (.t 1)⟩ (.alt false ⟨some 31, none, .callF 21 []⟩ (.alt false ⟨some 33, none, .mkrow 33 4 [.int .i64 0, .str [], .int .i64 0, .str [], .str [], .int .i64 0, .int .i64 0, .int .i64 0, .bool false, .str [], .int .i64 0, .bool false, .str [], .nil, .str [], .str [], .int .i64 0, .int .i64 0, .str [], .str [], .bool false, .str [], .str [], .bool false, .bool false, .bool false, .bool false, .bool false, .bool false, .bool false, .nil, .nil, .nil] [(0, 33, (.t 29)), (33, 33, (.t 30)), (66, 33, (.t 31)), (99, 33, (.t 32))]⟩ (.pur ⟨some 34, none, .bld [.str [], .int .i64 0, .int .i64 0, .int .i64 0, .int .i64 0, .nil] [(5, 1, (.t 33))]⟩ (.alt false ⟨some 35, none, .callF 11 [(.t 34)]⟩ (.pur ⟨some 28, none, .mov (.t 35)⟩ (.pur ⟨some 36, none, .ext 0 (.t 28)⟩ (.pur ⟨some 37, none, .ext 1 (.t 28)⟩ (.alt false ⟨some 7, none, .alloc [.str [], .int .i64 0, .int .i64 0, .int .i64 0, .int .i64 0, .nil]⟩ (.alt false ⟨none, none, .store 6 (.t 7) (.t 36)⟩ (.alt true ⟨some 8, none, .mov (.t 37)⟩ .done .stop) .stop) .stop)))) (.alt false ⟨some 7, none, .alloc [.str [], .int .i64 0, .int .i64 0, .int .i64 0, .int .i64 0, .nil]⟩ (.alt false ⟨some 35, none, .callF 11 [(.t 34)]⟩ (.alt false ⟨some 28, none, .mov (.t 35)⟩ (.pur ⟨some 36, none, .ext 0 (.t 28)⟩ (.pur ⟨some 37, none, .ext 1 (.t 28)⟩ (.alt false ⟨none, none, .store 6 (.t 7) (.t 36)⟩ (.alt true ⟨some 8, none, .mov (.t 37)⟩ .done .stop) .stop))) .stop) .stop) .stop))) (.alt false ⟨some 7, none, .alloc [.str [], .int .i64 0, .int .i64 0, .int .i64 0, .int .i64 0, .nil]⟩ (.alt false ⟨some 33, none, .mkrow 33 4 [.int .i64 0, .str [], .int .i64 0, .str [], .str [], .int .i64 0, .int .i64 0, .int .i64 0, .bool false, .str [], .int .i64 0, .bool false, .str [], .nil, .str [], .str [], .int .i64 0, .int .i64 0, .str [], .str [], .bool false, .str [], .str [], .bool false, .bool false, .bool false, .bool false, .bool false, .bool false, .bool false, .nil, .nil, .nil] [(0, 33, (.t 29)), (33, 33, (.t 30)), (66, 33, (.t 31)), (99, 33, (.t 32))]⟩ (.alt false ⟨some 34, none, .bld [.str [], .int .i64 0, .int .i64 0, .int .i64 0, .int .i64 0, .nil] [(5, 1, (.t 33))]⟩ (.alt false ⟨some 35, none, .callF 11 [(.t 34)]⟩ (.alt false ⟨some 28, none, .mov (.t 35)⟩ (.pur ⟨some 36, none, .ext 0 (.t 28)⟩ (.pur ⟨some 37, none, .ext 1 (.t 28)⟩ (.alt false ⟨none, none, .store 6 (.t 7) (.t 36)⟩ (.alt true ⟨some 8, none, .mov (.t 37)⟩ .done .stop) .stop))) .stop) .stop) .stop) .stop) .stop)) (.alt false ⟨some 7, none, .alloc [.str [], .int .i64 0, .int .i64 0, .int .i64 0, .int .i64 0, .nil]⟩ (.alt false ⟨some 31, none, .callF 21 []⟩ (.alt false ⟨some 33, none, .mkrow 33 4 [.int .i64 0, .str [], .int .i64 0, .str [], .str [], .int .i64 0, .int .i64 0, .int .i64 0, .bool false, .str [], .int .i64 0, .bool false, .str [], .nil, .str [], .str [], .int .i64 0, .int .i64 0, .str [], .str [], .bool false, .str [], .str [], .bool false, .bool false, .bool false, .bool false, .bool false, .bool false, .bool false, .nil, .nil, .nil] [(0, 33, (.t 29)), (33, 33, (.t 30)), (66, 33, (.t 31)), (99, 33, (.t 32))]⟩ (.alt false ⟨some 34, none, .bld [.str [], .int .i64 0, .int .i64 0, .int .i64 0, .int .i64 0, .nil] [(5, 1, (.t 33))]⟩ (.alt false ⟨some 35, none, .callF 11 [(.t 34)]⟩ (.alt false ⟨some 28, none, .mov (.t 35)⟩ (.pur ⟨some 36, none, .ext 0 (.t 28)⟩ (.pur ⟨some 37, none, .ext 1 (.t 28)⟩ (.alt false ⟨none, none, .store 6 (.t 7) (.t 36)⟩ (.alt true ⟨some 8, none, .mov (.t 37)⟩ .done .stop) .stop))) .stop) .stop) .stop) .stop) .stop) .stop)))))
def zr9_7 : List AO := [⟨some 38, none, .mov (.t 6)⟩,
  ⟨some 39, none, .len (.t 38)⟩,
  ⟨some 40, none, .bin .gtr (.t 39) (.c (.int .i64 0))⟩,
  ⟨some 41, none, .mov (.t 40)⟩,
  ⟨some 42, some (41, false), .fadr 5 (.t 5)⟩,
  ⟨some 43, some (41, false), .load false 1 (.t 42)⟩,
  ⟨some 44, some (41, false), .len (.t 43)⟩,
  ⟨some 45, some (41, false), .bin .neq (.t 44) (.c (.int .i64 2))⟩,
  ⟨some 46, none, .pick (.t 41) (.c (.bool true)) (.t 45)⟩,
  ⟨some 47, none, .mov (.t 46)⟩,
  ⟨some 48, some (47, false), .mov (.t 8)⟩,
  ⟨some 49, some (47, false), .len (.t 48)⟩,
  ⟨some 50, some (47, false), .bin .neq (.t 49) (.c (.int .i64 2))⟩,
  ⟨some 51, none, .pick (.t 47) (.c (.bool true)) (.t 50)⟩,
  ⟨some 52, none, .mov (.t 51)⟩,
  ⟨some 53, some (52, false), .fadr 5 (.t 5)⟩,
  ⟨some 54, some (52, false), .load false 1 (.t 53)⟩,
  ⟨some 55, some (52, false), .iadr 33 (.t 54) (.c (.int .i64 0))⟩,
  ⟨some 56, some (52, false), .fadr 13 (.t 55)⟩,
  ⟨some 57, some (52, false), .load false 1 (.t 56)⟩,
  ⟨some 58, some (52, false), .len (.t 57)⟩,
  ⟨some 59, some (52, false), .bin .neq (.t 58) (.c (.int .i64 1))⟩,
  ⟨some 60, none, .pick (.t 52) (.c (.bool true)) (.t 59)⟩]
def zr9_8 : List AO := [⟨some 0, none, .mov (.c (.bool false))⟩]
def zc9_0 : AC := .seq (.reg zr9_8) .ret
def zc9_1 : AC := .cond (.t 60) zc9_0 .skip
def zr9_9 : DT := (.pur ⟨some 61, none, .fadr 5 (.t 5)⟩ (.pur ⟨some 62, none, .load false 1 (.t 61)⟩ (.pur ⟨some 63, none, .iadr 33 (.t 62) (.c (.int .i64 0))⟩ (.pur ⟨some 64, none, .load true 33 (.t 63)⟩ (.pur ⟨some 65, none, .fadr 5 (.t 5)⟩ (.pur ⟨some 66, none, .load false 1 (.t 65)⟩ (.pur ⟨some 67, none, .iadr 33 (.t 66) (.c (.int .i64 1))⟩ (.pur ⟨some 68, none, .load true 33 (.t 67)⟩ (.alt false ⟨some 9, none, .alloc [.int .i64 0, .str [], .int .i64 0, .str [], .str [], .int .i64 0, .int .i64 0, .int .i64 0, .bool false, .str [], .int .i64 0, .bool false, .str [], .nil, .str [], .str [], .int .i64 0, .int .i64 0, .str [], .str [], .bool false, .str [], .str [], .bool false, .bool false, .bool false, .bool false, .bool false, .bool false, .bool false, .nil, .nil, .nil]⟩ (.alt false ⟨some 10, none, .alloc [.int .i64 0, .str [], .int .i64 0, .str [], .str [], .int .i64 0, .int .i64 0, .int .i64 0, .bool false, .str [], .int .i64 0, .bool false, .str [], .nil, .str [], .str [], .int .i64 0, .int .i64 0, .str [], .str [], .bool false, .str [], .str [], .bool false, .bool false, .bool false, .bool false, .bool false, .bool false, .bool false, .nil, .nil, .nil]⟩ (.alt false ⟨none, none, .store 33 (.t 9) (.t 64)⟩ (.alt true ⟨none, none, .store 33 (.t 10) (.t 68)⟩ .done .stop) .stop) .stop) (.alt false ⟨some 10, none, .alloc [.int .i64 0, .str [], .int .i64 0, .str [], .str [], .int .i64 0, .int .i64 0, .int .i64 0, .bool false, .str [], .int .i64 0, .bool false, .str [], .nil, .str [], .str [], .int .i64 0, .int .i64 0, .str [], .str [], .bool false, .str [], .str [], .bool false, .bool false, .bool false, .bool false, .bool false, .bool false, .bool false, .nil, .nil, .nil]⟩ (.alt false ⟨some 9, none, .alloc [.int .i64 0, .str [], .int .i64 0, .str [], .str [], .int .i64 0, .int .i64 0, .int .i64 0, .bool false, .str [], .int .i64 0, .bool false, .str [], .nil, .str [], .str [], .int .i64 0, .int .i64 0, .str [], .str [], .bool false, .str [], .str [], .bool false, .bool false, .bool false, .bool false, .bool false, .bool false, .bool false, .nil, .nil, .nil]⟩ (.alt false ⟨none, none, .store 33 (.t 9) (.t 64)⟩ (.alt true ⟨none, none, .store 33 (.t 10) (.t 68)⟩ .done .stop) .stop) .stop) .stop))))))))))
def zr9_10 : List AO := [⟨some 69, none, .fadr 1 (.t 9)⟩,
  ⟨some 70, none, .load false 1 (.t 69)⟩,
  ⟨some 71, none, .bin .eql (.t 70) (.c (.str [115, 49, 46, 112, 97, 121]))⟩,
  ⟨some 72, none, .mov (.t 71)⟩,
  ⟨some 73, some (72, true), .fadr 3 (.t 9)⟩,
  ⟨some 74, some (72, true), .load false 1 (.t 73)⟩,
  ⟨some 75, some (72, true), .bin .eql (.t 74) (.c (.str [98, 117, 121, 101, 114]))⟩,
  ⟨some 76, none, .pick (.t 72) (.t 75) (.c (.bool false))⟩,
  ⟨some 77, none, .mov (.t 76)⟩,
  ⟨some 78, some (77, true), .fadr 7 (.t 9)⟩,
  ⟨some 79, some (77, true), .load true 3 (.t 78)⟩,
  ⟨some 80, some (77, true), .bld [.int .i64 0, .bool false, .str []] [(0, 1, (.c (.int .i64 5)))]⟩,
  ⟨some 81, some (77, true), .eqS false [.i, .b, .s] (.t 79) (.t 80)⟩,
  ⟨some 82, none, .pick (.t 77) (.t 81) (.c (.bool false))⟩,
  ⟨some 83, none, .mov (.t 82)⟩,
  ⟨some 84, some (83, true), .fadr 13 (.t 9)⟩,
  ⟨some 85, some (83, true), .load false 1 (.t 84)⟩,
  ⟨some 86, some (83, true), .iadr 2 (.t 85) (.c (.int .i64 0))⟩,
  ⟨some 87, some (83, true), .fadr 0 (.t 86)⟩,
  ⟨some 88, some (83, true), .load false 1 (.t 87)⟩,
  ⟨some 89, some (83, true), .bin .eql (.t 88) (.c (.str [115, 49, 46, 103, 105, 118, 101]))⟩,
  ⟨some 90, none, .pick (.t 83) (.t 89) (.c (.bool false))⟩,
  ⟨some 91, none, .mov (.t 90)⟩,
  ⟨some 92, some (91, true), .fadr 2 (.t 9)⟩,
  ⟨some 93, some (91, true), .load false 1 (.t 92)⟩,
  ⟨some 94, some (91, true), .bin .eql (.t 93) (.c (.int .i64 7))⟩,
  ⟨some 95, none, .pick (.t 91) (.t 94) (.c (.bool false))⟩,
  ⟨some 96, none, .mov (.t 95)⟩,
  ⟨some 97, some (96, true), .fadr 1 (.t 10)⟩,
  ⟨some 98, some (96, true), .load false 1 (.t 97)⟩,
  ⟨some 99, some (96, true), .bin .eql (.t 98) (.c (.str [115, 49, 46, 103, 105, 118, 101]))⟩,
  ⟨some 100, none, .pick (.t 96) (.t 99) (.c (.bool false))⟩,
  ⟨some 101, none, .mov (.t 100)⟩,
  ⟨some 102, some (101, true), .fadr 3 (.t 10)⟩,
  ⟨some 103, some (101, true), .load false 1 (.t 102)⟩,
  ⟨some 104, some (101, true), .bin .eql (.t 103) (.c (.str [115, 101, 108, 108, 101, 114]))⟩,
  ⟨some 105, none, .pick (.t 101) (.t 104) (.c (.bool false))⟩,
  ⟨some 106, none, .mov (.t 105)⟩,
  ⟨some 107, some (106, true), .fadr 7 (.t 10)⟩,
  ⟨some 108, some (106, true), .load true 3 (.t 107)⟩,
  ⟨some 109, some (106, true), .bld [.int .i64 0, .bool false, .str []] [(0, 1, (.c (.int .i64 3)))]⟩,
  ⟨some 110, some (106, true), .eqS false [.i, .b, .s] (.t 108) (.t 109)⟩,
  ⟨some 111, none, .pick (.t 106) (.t 110) (.c (.bool false))⟩,
  ⟨some 11, none, .mov (.t 111)⟩]
def zr9_11 : List AO := [⟨some 112, none, .mov (.t 11)⟩,
  ⟨some 113, none, .mov (.t 112)⟩,
  ⟨some 114, some (113, true), .mov (.t 8)⟩,
  ⟨some 115, some (113, true), .iadr 2 (.t 114) (.c (.int .i64 0))⟩,
  ⟨some 116, some (113, true), .load true 2 (.t 115)⟩,
  ⟨some 117, some (113, true), .bld [.int .i64 0, .int .i64 0] [(0, 1, (.c (.int .i64 1))), (1, 1, (.c (.int .i64 8)))]⟩,
  ⟨some 118, some (113, true), .eqS false [.i, .i] (.t 116) (.t 117)⟩,
  ⟨some 119, none, .pick (.t 113) (.t 118) (.c (.bool false))⟩,
  ⟨some 120, none, .mov (.t 119)⟩,
  ⟨some 121, some (120, true), .mov (.t 8)⟩,
  ⟨some 122, some (120, true), .iadr 2 (.t 121) (.c (.int .i64 1))⟩,
  ⟨some 123, some (120, true), .load true 2 (.t 122)⟩,
  ⟨some 124, some (120, true), .bld [.int .i64 0, .int .i64 0] [(0, 1, (.c (.int .i64 8))), (1, 1, (.c (.int .i64 9)))]⟩,
  ⟨some 125, some (120, true), .eqS false [.i, .i] (.t 123) (.t 124)⟩,
  ⟨some 126, none, .pick (.t 120) (.t 125) (.c (.bool false))⟩,
  ⟨some 0, none, .mov (.t 126)⟩]
def zc9_2 : AC := .seq (.reg zr9_11) .ret
def zc9_3 : AC := .seq (.reg zr9_10) zc9_2
def zc9_4 : AC := .seq (.regD zr9_9) zc9_3
def zc9_5 : AC := .seq (.seq (.reg zr9_7) zc9_1) zc9_4
def zc9_6 : AC := .seq (.regD zr9_6) zc9_5
def zc9_7 : AC := .seq (.regD zr9_5) zc9_6
def zc9_8 : AC := .seq (.reg zr9_4) zc9_7
def zc9_9 : AC := .seq (.reg zr9_3) zc9_8
def zc9_10 : AC := .seq (.reg zr9_2) zc9_9
def zc9_11 : AC := .seq (.reg zr9_1) zc9_10
def zc9_12 : AC := .seq (.reg zr9_0) zc9_11
def zc9 : AC := zc9_12
theorem ok9 : Try.f9.body.bind (compCode Try.prog 127) = some zc9 := by kernel_rfl
theorem nt9 : Try.f9.ntmps = 127 := by kernel_rfl
theorem res9 : compRes Try.prog Try.f9.results.toList = some [.tmp 0] := by kernel_rfl
attribute [go_sem] zr9_0 zr9_10 zr9_11 zr9_7 zr9_8
def s9_k1 (N : Nat) (l10 : List Fault) (x18 : Bool) : Option Bool :=
  bif x18 then
    grd (0 < (List.length l10 : Int)) <|
    bif (decide ((l10[0]!).Err = 1) && (decide ((l10[0]!).At = 8) && true)) then
      grd (1 < (List.length l10 : Int)) <|
      some ((decide ((l10[1]!).Err = 8) && (decide ((l10[1]!).At = 9) && true)))
    else
      some false
  else
    some false
def s9_k2 (N : Nat) (x8 : Source) (l10 : List Fault) : Option Bool :=
  if (x8.Items[0]!).Name = [115, 49, 46, 112, 97, 121] then
    if (x8.Items[0]!).Of = [98, 117, 121, 101, 114] then
      bif (decide (((x8.Items[0]!).Within).Days = 5) && (((((x8.Items[0]!).Within).Business) == false) && (decide (((x8.Items[0]!).Within).Name = []) && true))) then
        grd (0 < (List.length ((x8.Items[0]!).Conds) : Int)) <|
        if (((x8.Items[0]!).Conds)[0]!).Name = [115, 49, 46, 103, 105, 118, 101] then
          if (x8.Items[0]!).At = 7 then
            if (x8.Items[1]!).Name = [115, 49, 46, 103, 105, 118, 101] then
              if (x8.Items[1]!).Of = [115, 101, 108, 108, 101, 114] then
                s9_k1 N l10 ((decide (((x8.Items[1]!).Within).Days = 3) && (((((x8.Items[1]!).Within).Business) == false) && (decide (((x8.Items[1]!).Within).Name = []) && true))))
              else
                s9_k1 N l10 false
            else
              s9_k1 N l10 false
          else
            s9_k1 N l10 false
        else
          s9_k1 N l10 false
      else
        s9_k1 N l10 false
    else
      s9_k1 N l10 false
  else
    s9_k1 N l10 false
def s9_k3 (N : Nat) (x8 : Source) (l9 : List Fault) (l10 : List Fault) : Option Bool :=
  if 0 < (List.length l9 : Int) then
    some false
  else
    if (List.length x8.Items : Int) = 2 then
      if (List.length l10 : Int) = 2 then
        grd (0 < (List.length x8.Items : Int)) <|
        if (List.length ((x8.Items[0]!).Conds) : Int) = 1 then
          grd (1 < (List.length x8.Items : Int)) <|
          s9_k2 N x8 l10
        else
          some false
      else
        some false
    else
      some false
def s9_k4 (N : Nat) (x8 : Source) (l9 : List Fault) : Option Bool :=
  (s21 N).bind fun x41 =>
  (s11 N (({ Name := [], From := ({ Year := 0, Month := 0, Day := 0 } : Civil), Days := 0, Items := [({ Kind := 14, Name := [115, 50], At := 8, Of := [115, 97, 108, 101], Act := [], Word := 0, Times := 0, Within := ({ Days := 0, Business := false, Name := [] } : Span), Grace := ({ Days := 0, Business := false, Name := [] } : Span), Conds := [], By := [], Until := [], Num := ({ Num := 0, Den := 0 } : Ratio), Unit := [], Sum := [], Final := false, Give := [], To := [], Days := ({ e0 := false, e1 := false, e2 := false, e3 := false, e4 := false, e5 := false, e6 := false } : Arr7B), Dates := [], Names := [], Items := [] } : Item), ({ Kind := 14, Name := [115, 51], At := 9, Of := [108, 101, 97, 115, 101], Act := [], Word := 0, Times := 0, Within := ({ Days := 0, Business := false, Name := [] } : Span), Grace := ({ Days := 0, Business := false, Name := [] } : Span), Conds := [], By := [], Until := [], Num := ({ Num := 0, Den := 0 } : Ratio), Unit := [], Sum := [], Final := false, Give := [], To := [], Days := ({ e0 := false, e1 := false, e2 := false, e3 := false, e4 := false, e5 := false, e6 := false } : Arr7B), Dates := [], Names := [[98, 117, 121, 101, 114]], Items := [] } : Item), x41, ({ Kind := 6, Name := [116, 101, 114, 109], At := 0, Of := [], Act := [], Word := 0, Times := 0, Within := ({ Days := 5, Business := false, Name := [] } : Span), Grace := ({ Days := 0, Business := false, Name := [] } : Span), Conds := [], By := [], Until := [], Num := ({ Num := 0, Den := 0 } : Ratio), Unit := [], Sum := [], Final := false, Give := [], To := [], Days := ({ e0 := false, e1 := false, e2 := false, e3 := false, e4 := false, e5 := false, e6 := false } : Arr7B), Dates := [], Names := [], Items := [] } : Item)] } : Source))).bind fun x44 =>
  s9_k3 N x8 l9 x44.2
def s9 (N : Nat) : Option Bool :=
  (s21 N).bind fun x65 =>
  (s11 N (({ Name := [], From := ({ Year := 0, Month := 0, Day := 0 } : Civil), Days := 0, Items := [({ Kind := 14, Name := [115, 49], At := 7, Of := [115, 97, 108, 101], Act := [], Word := 0, Times := 0, Within := ({ Days := 0, Business := false, Name := [] } : Span), Grace := ({ Days := 0, Business := false, Name := [] } : Span), Conds := [], By := [], Until := [], Num := ({ Num := 0, Den := 0 } : Ratio), Unit := [], Sum := [], Final := false, Give := [], To := [], Days := ({ e0 := false, e1 := false, e2 := false, e3 := false, e4 := false, e5 := false, e6 := false } : Arr7B), Dates := [], Names := [[98, 117, 121, 101, 114]], Items := [] } : Item), x65, ({ Kind := 6, Name := [116, 101, 114, 109], At := 0, Of := [], Act := [], Word := 0, Times := 0, Within := ({ Days := 5, Business := false, Name := [] } : Span), Grace := ({ Days := 0, Business := false, Name := [] } : Span), Conds := [], By := [], Until := [], Num := ({ Num := 0, Den := 0 } : Ratio), Unit := [], Sum := [], Final := false, Give := [], To := [], Days := ({ e0 := false, e1 := false, e2 := false, e3 := false, e4 := false, e5 := false, e6 := false } : Arr7B), Dates := [], Names := [], Items := [] } : Item)] } : Source))).bind fun x68 =>
  s9_k4 N x68.1 x68.2
set_option maxHeartbeats 4000000 in
theorem c9 (N : Nat) (r : Bool) (h : s9 N  = some r) : PureC Try.prog 9 [] (.bool r) := by
 refine fn_intro' 127 Try.func9 nt9 ok9 res9 (by simp) fun X hP hn hd hr => ?_
 unfold s9 at h
 repeat refine awp_seq ?_
 refine rg (h := ?_)
 repeat refine awp_seq ?_
 refine awp_reg fun K Q hK hQ => ?_
 simp -implicitDefEqProofs (disch := first | omega | rfl) only [go_sem, simprocAttr, zr9_1]
 intro b1
 refine hK _ _ ?_; clear hK hQ K Q
 repeat refine awp_seq ?_
 refine awp_reg fun K Q hK hQ => ?_
 simp -implicitDefEqProofs (disch := first | omega | rfl) only [go_sem, simprocAttr, zr9_2]
 intro b2 b3
 refine hK _ _ ?_; clear hK hQ K Q
 repeat refine awp_seq ?_
 refine awp_reg fun K Q hK hQ => ?_
 simp -implicitDefEqProofs (disch := first | omega | rfl) only [go_sem, simprocAttr, zr9_3]
 intro b4
 refine hK _ _ ?_; clear hK hQ K Q
 repeat refine awp_seq ?_
 refine awp_reg fun K Q hK hQ => ?_
 simp -implicitDefEqProofs (disch := first | omega | rfl) only [go_sem, simprocAttr, zr9_4]
 intro b5 b6
 refine hK _ _ ?_; clear hK hQ K Q
 repeat refine awp_seq ?_
 refine awp_cut (ι := {p : Nat × Source × (List Fault) // s9_k4 N p.2.1 p.2.2 = some r}) (fun p => [(1, .ptr 1 b1 0), (3, .ptr 3 b4 0), (4, .ptr 4 b6 0), (5, .ptr 5 p.1.1 0), (6, .sl (List.map Fault.av p.1.2.2))]) (fun p => (1, b1, .cells ([.int .i64 6, .str [116, 101, 114, 109], .int .i64 0, .str [], .str [], .int .i64 0, .int .i64 0, .int .i64 5, .bool false, .str [], .int .i64 0, .bool false, .str [], .nil, .str [], .str [], .int .i64 0, .int .i64 0, .str [], .str [], .bool false, .str [], .str [], .bool false, .bool false, .bool false, .bool false, .bool false, .bool false, .bool false, .nil, .nil, .nil])) :: (3, b4, .cells ([.int .i64 14, .str [115, 50], .int .i64 8, .str [115, 97, 108, 101], .str [], .int .i64 0, .int .i64 0, .int .i64 0, .bool false, .str [], .int .i64 0, .bool false, .str [], .nil, .str [], .str [], .int .i64 0, .int .i64 0, .str [], .str [], .bool false, .str [], .str [], .bool false, .bool false, .bool false, .bool false, .bool false, .bool false, .bool false, .nil, .nil, .nil])) :: (4, b6, .cells ([.int .i64 14, .str [115, 51], .int .i64 9, .str [108, 101, 97, 115, 101], .str [], .int .i64 0, .int .i64 0, .int .i64 0, .bool false, .str [], .int .i64 0, .bool false, .str [], .nil, .str [], .str [], .int .i64 0, .int .i64 0, .str [], .str [], .bool false, .str [], .str [], .bool false, .bool false, .bool false, .bool false, .bool false, .bool false, .bool false, .nil, .row 17 b5 0 1 1, .nil])) :: (17, b5, .cells ([.str [98, 117, 121, 101, 114]])) :: (5, p.1.1, .cells (Source.cs p.1.2.1)) :: []) ?_ ?_
 · repeat refine awp_seq ?_
   refine awp_le' (s' := [(1, .ptr 1 b1 0), (2, .ptr 2 b3 0), (3, .ptr 3 b4 0), (4, .ptr 4 b6 0)]) (own' := (4, b6, .cells ([.int .i64 14, .str [115, 51], .int .i64 9, .str [108, 101, 97, 115, 101], .str [], .int .i64 0, .int .i64 0, .int .i64 0, .bool false, .str [], .int .i64 0, .bool false, .str [], .nil, .str [], .str [], .int .i64 0, .int .i64 0, .str [], .str [], .bool false, .str [], .str [], .bool false, .bool false, .bool false, .bool false, .bool false, .bool false, .bool false, .nil, .row 17 b5 0 1 1, .nil])) :: (17, b5, .cells ([.str [98, 117, 121, 101, 114]])) :: (3, b4, .cells ([.int .i64 14, .str [115, 50], .int .i64 8, .str [115, 97, 108, 101], .str [], .int .i64 0, .int .i64 0, .int .i64 0, .bool false, .str [], .int .i64 0, .bool false, .str [], .nil, .str [], .str [], .int .i64 0, .int .i64 0, .str [], .str [], .bool false, .str [], .str [], .bool false, .bool false, .bool false, .bool false, .bool false, .bool false, .bool false, .nil, .nil, .nil])) :: (2, b3, .cells ([.int .i64 14, .str [115, 49], .int .i64 7, .str [115, 97, 108, 101], .str [], .int .i64 0, .int .i64 0, .int .i64 0, .bool false, .str [], .int .i64 0, .bool false, .str [], .nil, .str [], .str [], .int .i64 0, .int .i64 0, .str [], .str [], .bool false, .str [], .str [], .bool false, .bool false, .bool false, .bool false, .bool false, .bool false, .bool false, .nil, .sl (List.map AV.str ([[98, 117, 121, 101, 114]])), .nil])) :: (1, b1, .cells ([.int .i64 6, .str [116, 101, 114, 109], .int .i64 0, .str [], .str [], .int .i64 0, .int .i64 0, .int .i64 5, .bool false, .str [], .int .i64 0, .bool false, .str [], .nil, .str [], .str [], .int .i64 0, .int .i64 0, .str [], .str [], .bool false, .str [], .str [], .bool false, .bool false, .bool false, .bool false, .bool false, .bool false, .bool false, .nil, .nil, .nil])) :: []) (_ :: []) (_ :: _ :: _ :: _ :: _ :: []) (_ :: _ :: _ :: _ :: _ :: _ :: []) rfl (List.Perm.trans ((List.Perm.cons _ (List.Perm.cons _ (List.Perm.cons _ perm_cc)))) (List.Perm.trans (List.Perm.cons _ (List.Perm.cons _ perm_cc)) (List.Perm.trans (List.Perm.cons _ perm_cc) (List.Perm.trans perm_cc (List.Perm.refl _))))) ?_ ?_ ?_
   · simp -implicitDefEqProofs (disch := first | omega | rfl) only [go_sem, simprocAttr, subF_cons, subF_nil]
     exact ⟨(.lptr ..), (.lptr ..), (.lptr ..), (.lptr ..)⟩
   · exact (.cell (.cell (.cell (.cells (.cons (.keep _) (.cons (.keep _) (.cons (.keep _) (.cons (.keep _) (.cons (.keep _) (.cons (.keep _) (.cons (.keep _) (.cons (.keep _) (.cons (.keep _) (.cons (.keep _) (.cons (.keep _) (.cons (.keep _) (.cons (.keep _) (.cons (.keep _) (.cons (.keep _) (.cons (.keep _) (.cons (.keep _) (.cons (.keep _) (.cons (.keep _) (.cons (.keep _) (.cons (.keep _) (.cons (.keep _) (.cons (.keep _) (.cons (.keep _) (.cons (.keep _) (.cons (.keep _) (.cons (.keep _) (.cons (.keep _) (.cons (.keep _) (.cons (.keep _) (.cons (.keep _) (.cons (frz_rowP (f := AV.str) (fun _ => rfl) (by simp -implicitDefEqProofs (disch := first | omega | rfl) only [go_sem, simprocAttr]; first | done | rfl) (show FrzP _ _ [.str [98, 117, 121, 101, 114]] from (.cons (.keep _) (.nil _))) (by first | rfl | simp)) (.cons (.keep _) (.nil _)))))))))))))))))))))))))))))))))) (.cell .nil)))))
   repeat refine awp_seq ?_
   refine awp_regD' (_ :: _ :: _ :: _ :: _ :: []) ([]) (_ :: _ :: _ :: _ :: _ :: []) (by rw [hP]; exact mixed) rfl (List.Perm.refl _) fun K hK => ?_
   simp -implicitDefEqProofs (disch := first | omega | rfl) only [go_sem, simprocAttr, zr9_5]
   refine runT_alts ⟨?_, ?_⟩
   · simp -implicitDefEqProofs (disch := first | omega | rfl) only [go_sem, simprocAttr]
     have hh := bnd_some h; clear h; obtain ⟨x65, hx66, h⟩ := hh
     refine call_pure hP (c21 N  x65 hx66) ?_
     simp -implicitDefEqProofs (disch := first | omega | rfl) only [go_sem, simprocAttr]
     refine runT_alts ⟨?_, ?_⟩
     · simp -implicitDefEqProofs (disch := first | omega | rfl) only [go_sem, simprocAttr, Item.cs_eq]
       intro b67
       refine runT_alts ⟨?_, ?_⟩
       · simp -implicitDefEqProofs (disch := first | omega | rfl) only [go_sem, simprocAttr]
         have hh := bnd_some h; clear h; obtain ⟨x68, hx69, h⟩ := hh
         refine call_pureF' hP (_ :: []) ([]) (_ :: []) rfl (List.Perm.refl _) (.cons (by rw [Source.cs_eq]; exact .aggL (.cons (.keep _) (.cons (.keep _) (.cons (.keep _) (.cons (.keep _) (.cons (.keep _) (.cons (frz_rowP (f := Item.av) (fun _ => Item.avl) (by simp -implicitDefEqProofs (disch := first | omega | rfl) only [go_sem, simprocAttr]; first | done | rfl) (by rw [show flt Item.av _ = [.int .i64 14, .str [115, 49], .int .i64 7, .str [115, 97, 108, 101], .str [], .int .i64 0, .int .i64 0, .int .i64 0, .bool false, .str [], .int .i64 0, .bool false, .str [], .sl (List.map Named.av []), .str [], .str [], .int .i64 0, .int .i64 0, .str [], .str [], .bool false, .str [], .str [], .bool false, .bool false, .bool false, .bool false, .bool false, .bool false, .bool false, .sl (List.map Civil.av []), .sl (List.map AV.str ([[98, 117, 121, 101, 114]])), .sl (List.map Item.av []), .int .i64 x65.Kind, .str x65.Name, .int .i64 x65.At, .str x65.Of, .str x65.Act, .int .i64 x65.Word, .int .i64 x65.Times, .int .i64 x65.Within.Days, .bool x65.Within.Business, .str x65.Within.Name, .int .i64 x65.Grace.Days, .bool x65.Grace.Business, .str x65.Grace.Name, .sl (List.map Named.av x65.Conds), .str x65.By, .str x65.Until, .int .i64 x65.Num.Num, .int .i64 x65.Num.Den, .str x65.Unit, .str x65.Sum, .bool x65.Final, .str x65.Give, .str x65.To, .bool x65.Days.e0, .bool x65.Days.e1, .bool x65.Days.e2, .bool x65.Days.e3, .bool x65.Days.e4, .bool x65.Days.e5, .bool x65.Days.e6, .sl (List.map Civil.av x65.Dates), .sl (List.map AV.str x65.Names), .sl (List.map Item.av x65.Items), .int .i64 6, .str [116, 101, 114, 109], .int .i64 0, .str [], .str [], .int .i64 0, .int .i64 0, .int .i64 5, .bool false, .str [], .int .i64 0, .bool false, .str [], .sl (List.map Named.av []), .str [], .str [], .int .i64 0, .int .i64 0, .str [], .str [], .bool false, .str [], .str [], .bool false, .bool false, .bool false, .bool false, .bool false, .bool false, .bool false, .sl (List.map Civil.av []), .sl (List.map AV.str []), .sl (List.map Item.av [])] from by simp only [flt, List.flatMap_cons, List.flatMap_nil, Item.av_eq, AV.cells, Item.cs_eq, List.cons_append, List.nil_append, List.append_nil]]; exact (.cons (.keep _) (.cons (.keep _) (.cons (.keep _) (.cons (.keep _) (.cons (.keep _) (.cons (.keep _) (.cons (.keep _) (.cons (.keep _) (.cons (.keep _) (.cons (.keep _) (.cons (.keep _) (.cons (.keep _) (.cons (.keep _) (.cons .nil (.cons (.keep _) (.cons (.keep _) (.cons (.keep _) (.cons (.keep _) (.cons (.keep _) (.cons (.keep _) (.cons (.keep _) (.cons (.keep _) (.cons (.keep _) (.cons (.keep _) (.cons (.keep _) (.cons (.keep _) (.cons (.keep _) (.cons (.keep _) (.cons (.keep _) (.cons (.keep _) (.cons .nil (.cons (.keep _) (.cons .nil (.cons (.keep _) (.cons (.keep _) (.cons (.keep _) (.cons (.keep _) (.cons (.keep _) (.cons (.keep _) (.cons (.keep _) (.cons (.keep _) (.cons (.keep _) (.cons (.keep _) (.cons (.keep _) (.cons (.keep _) (.cons (.keep _) (.cons (.keep _) (.cons (.keep _) (.cons (.keep _) (.cons (.keep _) (.cons (.keep _) (.cons (.keep _) (.cons (.keep _) (.cons (.keep _) (.cons (.keep _) (.cons (.keep _) (.cons (.keep _) (.cons (.keep _) (.cons (.keep _) (.cons (.keep _) (.cons (.keep _) (.cons (.keep _) (.cons (.keep _) (.cons (.keep _) (.cons (.keep _) (.cons (.keep _) (.cons (.keep _) (.cons (.keep _) (.cons (.keep _) (.cons (.keep _) (.cons (.keep _) (.cons (.keep _) (.cons (.keep _) (.cons (.keep _) (.cons (.keep _) (.cons (.keep _) (.cons (.keep _) (.cons (.keep _) (.cons (.keep _) (.cons .nil (.cons (.keep _) (.cons (.keep _) (.cons (.keep _) (.cons (.keep _) (.cons (.keep _) (.cons (.keep _) (.cons (.keep _) (.cons (.keep _) (.cons (.keep _) (.cons (.keep _) (.cons (.keep _) (.cons (.keep _) (.cons (.keep _) (.cons (.keep _) (.cons (.keep _) (.cons (.keep _) (.cons .nil (.cons .nil (.cons .nil (.nil _))))))))))))))))))))))))))))))))))))))))))))))))))))))))))))))))))))))))))))))))))))))))))))))))))))) (by first | rfl | simp)) .nil))))))) .nil) (c11 N (({ Name := [], From := ({ Year := 0, Month := 0, Day := 0 } : Civil), Days := 0, Items := [({ Kind := 14, Name := [115, 49], At := 7, Of := [115, 97, 108, 101], Act := [], Word := 0, Times := 0, Within := ({ Days := 0, Business := false, Name := [] } : Span), Grace := ({ Days := 0, Business := false, Name := [] } : Span), Conds := [], By := [], Until := [], Num := ({ Num := 0, Den := 0 } : Ratio), Unit := [], Sum := [], Final := false, Give := [], To := [], Days := ({ e0 := false, e1 := false, e2 := false, e3 := false, e4 := false, e5 := false, e6 := false } : Arr7B), Dates := [], Names := [[98, 117, 121, 101, 114]], Items := [] } : Item), x65, ({ Kind := 6, Name := [116, 101, 114, 109], At := 0, Of := [], Act := [], Word := 0, Times := 0, Within := ({ Days := 5, Business := false, Name := [] } : Span), Grace := ({ Days := 0, Business := false, Name := [] } : Span), Conds := [], By := [], Until := [], Num := ({ Num := 0, Den := 0 } : Ratio), Unit := [], Sum := [], Final := false, Give := [], To := [], Days := ({ e0 := false, e1 := false, e2 := false, e3 := false, e4 := false, e5 := false, e6 := false } : Arr7B), Dates := [], Names := [], Items := [] } : Item)] } : Source)) x68 hx69) ?_
         simp -implicitDefEqProofs (disch := first | omega | rfl) only [go_sem, simprocAttr]
         intro b70
         refine hK _ _ ?_; clear hK K
         refine ⟨⟨⟨b70, x68.1, x68.2⟩, h⟩, ?_⟩
         refine ent_le' ([]) (_ :: _ :: _ :: _ :: _ :: _ :: []) (_ :: _ :: _ :: _ :: _ :: _ :: []) rfl (List.Perm.trans ((List.Perm.cons _ (List.Perm.cons _ (List.Perm.cons _ perm_cc)))) (List.Perm.trans (List.Perm.cons _ (List.Perm.cons _ perm_cc)) (List.Perm.trans (List.Perm.cons _ perm_cc) (List.Perm.trans perm_cc ((List.Perm.cons _ (List.Perm.trans (List.Perm.cons _ perm_cc) (List.Perm.trans perm_cc ((List.Perm.cons _ ((List.Perm.cons _ ((List.Perm.cons _ (List.Perm.trans perm_cc (List.Perm.refl _)))))))))))))))) ?_ ?_
         · simp -implicitDefEqProofs (disch := first | omega | rfl) only [go_sem, simprocAttr, subF_cons, subF_nil]
           exact ⟨(.lptr ..), (.lptr ..), (.lptr ..), (.lptr ..), (.keep _)⟩
         · exact (.cell (.cell (.cell (.cell (.cells (FrzP.of_eq (by first | rfl | simp)) (.drop .nil))))))
       replace h : (
      (s11 N (({ Name := [], From := ({ Year := 0, Month := 0, Day := 0 } : Civil), Days := 0, Items := [({ Kind := 14, Name := [115, 49], At := 7, Of := [115, 97, 108, 101], Act := [], Word := 0, Times := 0, Within := ({ Days := 0, Business := false, Name := [] } : Span), Grace := ({ Days := 0, Business := false, Name := [] } : Span), Conds := [], By := [], Until := [], Num := ({ Num := 0, Den := 0 } : Ratio), Unit := [], Sum := [], Final := false, Give := [], To := [], Days := ({ e0 := false, e1 := false, e2 := false, e3 := false, e4 := false, e5 := false, e6 := false } : Arr7B), Dates := [], Names := [[98, 117, 121, 101, 114]], Items := [] } : Item), x65, ({ Kind := 6, Name := [116, 101, 114, 109], At := 0, Of := [], Act := [], Word := 0, Times := 0, Within := ({ Days := 5, Business := false, Name := [] } : Span), Grace := ({ Days := 0, Business := false, Name := [] } : Span), Conds := [], By := [], Until := [], Num := ({ Num := 0, Den := 0 } : Ratio), Unit := [], Sum := [], Final := false, Give := [], To := [], Days := ({ e0 := false, e1 := false, e2 := false, e3 := false, e4 := false, e5 := false, e6 := false } : Arr7B), Dates := [], Names := [], Items := [] } : Item)] } : Source))).bind fun x72 =>
      s9_k4 N x72.1 x72.2) = some r := by
         first | exact h | simpa [grd, set_snoc, Int.lt_add_one_iff] using h
       simp -implicitDefEqProofs (disch := first | omega | rfl) only [go_sem, simprocAttr]
       intro b71
       have hh := bnd_some h; clear h; obtain ⟨x72, hx73, h⟩ := hh
       refine call_pureF' hP (_ :: []) (_ :: []) (_ :: _ :: []) rfl (List.Perm.trans perm_cc (List.Perm.refl _)) (.cons (by rw [Source.cs_eq]; exact .aggL (.cons (.keep _) (.cons (.keep _) (.cons (.keep _) (.cons (.keep _) (.cons (.keep _) (.cons (frz_rowP (f := Item.av) (fun _ => Item.avl) (by simp -implicitDefEqProofs (disch := first | omega | rfl) only [go_sem, simprocAttr]; first | done | rfl) (by rw [show flt Item.av _ = [.int .i64 14, .str [115, 49], .int .i64 7, .str [115, 97, 108, 101], .str [], .int .i64 0, .int .i64 0, .int .i64 0, .bool false, .str [], .int .i64 0, .bool false, .str [], .sl (List.map Named.av []), .str [], .str [], .int .i64 0, .int .i64 0, .str [], .str [], .bool false, .str [], .str [], .bool false, .bool false, .bool false, .bool false, .bool false, .bool false, .bool false, .sl (List.map Civil.av []), .sl (List.map AV.str ([[98, 117, 121, 101, 114]])), .sl (List.map Item.av []), .int .i64 x65.Kind, .str x65.Name, .int .i64 x65.At, .str x65.Of, .str x65.Act, .int .i64 x65.Word, .int .i64 x65.Times, .int .i64 x65.Within.Days, .bool x65.Within.Business, .str x65.Within.Name, .int .i64 x65.Grace.Days, .bool x65.Grace.Business, .str x65.Grace.Name, .sl (List.map Named.av x65.Conds), .str x65.By, .str x65.Until, .int .i64 x65.Num.Num, .int .i64 x65.Num.Den, .str x65.Unit, .str x65.Sum, .bool x65.Final, .str x65.Give, .str x65.To, .bool x65.Days.e0, .bool x65.Days.e1, .bool x65.Days.e2, .bool x65.Days.e3, .bool x65.Days.e4, .bool x65.Days.e5, .bool x65.Days.e6, .sl (List.map Civil.av x65.Dates), .sl (List.map AV.str x65.Names), .sl (List.map Item.av x65.Items), .int .i64 6, .str [116, 101, 114, 109], .int .i64 0, .str [], .str [], .int .i64 0, .int .i64 0, .int .i64 5, .bool false, .str [], .int .i64 0, .bool false, .str [], .sl (List.map Named.av []), .str [], .str [], .int .i64 0, .int .i64 0, .str [], .str [], .bool false, .str [], .str [], .bool false, .bool false, .bool false, .bool false, .bool false, .bool false, .bool false, .sl (List.map Civil.av []), .sl (List.map AV.str []), .sl (List.map Item.av [])] from by simp only [flt, List.flatMap_cons, List.flatMap_nil, Item.av_eq, AV.cells, Item.cs_eq, List.cons_append, List.nil_append, List.append_nil]]; exact (.cons (.keep _) (.cons (.keep _) (.cons (.keep _) (.cons (.keep _) (.cons (.keep _) (.cons (.keep _) (.cons (.keep _) (.cons (.keep _) (.cons (.keep _) (.cons (.keep _) (.cons (.keep _) (.cons (.keep _) (.cons (.keep _) (.cons .nil (.cons (.keep _) (.cons (.keep _) (.cons (.keep _) (.cons (.keep _) (.cons (.keep _) (.cons (.keep _) (.cons (.keep _) (.cons (.keep _) (.cons (.keep _) (.cons (.keep _) (.cons (.keep _) (.cons (.keep _) (.cons (.keep _) (.cons (.keep _) (.cons (.keep _) (.cons (.keep _) (.cons .nil (.cons (.keep _) (.cons .nil (.cons (.keep _) (.cons (.keep _) (.cons (.keep _) (.cons (.keep _) (.cons (.keep _) (.cons (.keep _) (.cons (.keep _) (.cons (.keep _) (.cons (.keep _) (.cons (.keep _) (.cons (.keep _) (.cons (.keep _) (.cons (.keep _) (.cons (.keep _) (.cons (.keep _) (.cons (.keep _) (.cons (.keep _) (.cons (.keep _) (.cons (.keep _) (.cons (.keep _) (.cons (.keep _) (.cons (.keep _) (.cons (.keep _) (.cons (.keep _) (.cons (.keep _) (.cons (.keep _) (.cons (.keep _) (.cons (.keep _) (.cons (.keep _) (.cons (.keep _) (.cons (.keep _) (.cons (.keep _) (.cons (.keep _) (.cons (.keep _) (.cons (.keep _) (.cons (.keep _) (.cons (.keep _) (.cons (.keep _) (.cons (.keep _) (.cons (.keep _) (.cons (.keep _) (.cons (.keep _) (.cons (.keep _) (.cons (.keep _) (.cons (.keep _) (.cons (.keep _) (.cons .nil (.cons (.keep _) (.cons (.keep _) (.cons (.keep _) (.cons (.keep _) (.cons (.keep _) (.cons (.keep _) (.cons (.keep _) (.cons (.keep _) (.cons (.keep _) (.cons (.keep _) (.cons (.keep _) (.cons (.keep _) (.cons (.keep _) (.cons (.keep _) (.cons (.keep _) (.cons (.keep _) (.cons .nil (.cons .nil (.cons .nil (.nil _))))))))))))))))))))))))))))))))))))))))))))))))))))))))))))))))))))))))))))))))))))))))))))))))))))) (by first | rfl | simp)) .nil))))))) .nil) (c11 N (({ Name := [], From := ({ Year := 0, Month := 0, Day := 0 } : Civil), Days := 0, Items := [({ Kind := 14, Name := [115, 49], At := 7, Of := [115, 97, 108, 101], Act := [], Word := 0, Times := 0, Within := ({ Days := 0, Business := false, Name := [] } : Span), Grace := ({ Days := 0, Business := false, Name := [] } : Span), Conds := [], By := [], Until := [], Num := ({ Num := 0, Den := 0 } : Ratio), Unit := [], Sum := [], Final := false, Give := [], To := [], Days := ({ e0 := false, e1 := false, e2 := false, e3 := false, e4 := false, e5 := false, e6 := false } : Arr7B), Dates := [], Names := [[98, 117, 121, 101, 114]], Items := [] } : Item), x65, ({ Kind := 6, Name := [116, 101, 114, 109], At := 0, Of := [], Act := [], Word := 0, Times := 0, Within := ({ Days := 5, Business := false, Name := [] } : Span), Grace := ({ Days := 0, Business := false, Name := [] } : Span), Conds := [], By := [], Until := [], Num := ({ Num := 0, Den := 0 } : Ratio), Unit := [], Sum := [], Final := false, Give := [], To := [], Days := ({ e0 := false, e1 := false, e2 := false, e3 := false, e4 := false, e5 := false, e6 := false } : Arr7B), Dates := [], Names := [], Items := [] } : Item)] } : Source)) x72 hx73) ?_
       simp -implicitDefEqProofs (disch := first | omega | rfl) only [go_sem, simprocAttr]
       refine hK _ _ ?_; clear hK K
       refine ⟨⟨⟨b71, x72.1, x72.2⟩, h⟩, ?_⟩
       refine ent_le' ([]) (_ :: _ :: _ :: _ :: _ :: _ :: []) (_ :: _ :: _ :: _ :: _ :: _ :: []) rfl (List.Perm.trans ((List.Perm.cons _ (List.Perm.cons _ (List.Perm.cons _ perm_cc)))) (List.Perm.trans (List.Perm.cons _ (List.Perm.cons _ perm_cc)) (List.Perm.trans (List.Perm.cons _ perm_cc) (List.Perm.trans perm_cc ((List.Perm.cons _ (List.Perm.trans (List.Perm.cons _ perm_cc) (List.Perm.trans perm_cc ((List.Perm.cons _ ((List.Perm.cons _ ((List.Perm.cons _ (List.Perm.trans perm_cc (List.Perm.refl _)))))))))))))))) ?_ ?_
       · simp -implicitDefEqProofs (disch := first | omega | rfl) only [go_sem, simprocAttr, subF_cons, subF_nil]
         exact ⟨(.lptr ..), (.lptr ..), (.lptr ..), (.lptr ..), (.keep _)⟩
       · exact (.cell (.cell (.cell (.cell (.cells (FrzP.of_eq (by first | rfl | simp)) (.drop .nil))))))
     replace h : (
      (s11 N (({ Name := [], From := ({ Year := 0, Month := 0, Day := 0 } : Civil), Days := 0, Items := [({ Kind := 14, Name := [115, 49], At := 7, Of := [115, 97, 108, 101], Act := [], Word := 0, Times := 0, Within := ({ Days := 0, Business := false, Name := [] } : Span), Grace := ({ Days := 0, Business := false, Name := [] } : Span), Conds := [], By := [], Until := [], Num := ({ Num := 0, Den := 0 } : Ratio), Unit := [], Sum := [], Final := false, Give := [], To := [], Days := ({ e0 := false, e1 := false, e2 := false, e3 := false, e4 := false, e5 := false, e6 := false } : Arr7B), Dates := [], Names := [[98, 117, 121, 101, 114]], Items := [] } : Item), x65, ({ Kind := 6, Name := [116, 101, 114, 109], At := 0, Of := [], Act := [], Word := 0, Times := 0, Within := ({ Days := 5, Business := false, Name := [] } : Span), Grace := ({ Days := 0, Business := false, Name := [] } : Span), Conds := [], By := [], Until := [], Num := ({ Num := 0, Den := 0 } : Ratio), Unit := [], Sum := [], Final := false, Give := [], To := [], Days := ({ e0 := false, e1 := false, e2 := false, e3 := false, e4 := false, e5 := false, e6 := false } : Arr7B), Dates := [], Names := [], Items := [] } : Item)] } : Source))).bind fun x76 =>
      s9_k4 N x76.1 x76.2) = some r := by
       first | exact h | simpa [grd, set_snoc, Int.lt_add_one_iff] using h
     simp -implicitDefEqProofs (disch := first | omega | rfl) only [go_sem, simprocAttr, Item.cs_eq]
     intro b74 b75
     have hh := bnd_some h; clear h; obtain ⟨x76, hx77, h⟩ := hh
     refine call_pureF' hP (_ :: []) (_ :: []) (_ :: _ :: []) rfl (List.Perm.refl _) (.cons (by rw [Source.cs_eq]; exact .aggL (.cons (.keep _) (.cons (.keep _) (.cons (.keep _) (.cons (.keep _) (.cons (.keep _) (.cons (frz_rowP (f := Item.av) (fun _ => Item.avl) (by simp -implicitDefEqProofs (disch := first | omega | rfl) only [go_sem, simprocAttr]; first | done | rfl) (by rw [show flt Item.av _ = [.int .i64 14, .str [115, 49], .int .i64 7, .str [115, 97, 108, 101], .str [], .int .i64 0, .int .i64 0, .int .i64 0, .bool false, .str [], .int .i64 0, .bool false, .str [], .sl (List.map Named.av []), .str [], .str [], .int .i64 0, .int .i64 0, .str [], .str [], .bool false, .str [], .str [], .bool false, .bool false, .bool false, .bool false, .bool false, .bool false, .bool false, .sl (List.map Civil.av []), .sl (List.map AV.str ([[98, 117, 121, 101, 114]])), .sl (List.map Item.av []), .int .i64 x65.Kind, .str x65.Name, .int .i64 x65.At, .str x65.Of, .str x65.Act, .int .i64 x65.Word, .int .i64 x65.Times, .int .i64 x65.Within.Days, .bool x65.Within.Business, .str x65.Within.Name, .int .i64 x65.Grace.Days, .bool x65.Grace.Business, .str x65.Grace.Name, .sl (List.map Named.av x65.Conds), .str x65.By, .str x65.Until, .int .i64 x65.Num.Num, .int .i64 x65.Num.Den, .str x65.Unit, .str x65.Sum, .bool x65.Final, .str x65.Give, .str x65.To, .bool x65.Days.e0, .bool x65.Days.e1, .bool x65.Days.e2, .bool x65.Days.e3, .bool x65.Days.e4, .bool x65.Days.e5, .bool x65.Days.e6, .sl (List.map Civil.av x65.Dates), .sl (List.map AV.str x65.Names), .sl (List.map Item.av x65.Items), .int .i64 6, .str [116, 101, 114, 109], .int .i64 0, .str [], .str [], .int .i64 0, .int .i64 0, .int .i64 5, .bool false, .str [], .int .i64 0, .bool false, .str [], .sl (List.map Named.av []), .str [], .str [], .int .i64 0, .int .i64 0, .str [], .str [], .bool false, .str [], .str [], .bool false, .bool false, .bool false, .bool false, .bool false, .bool false, .bool false, .sl (List.map Civil.av []), .sl (List.map AV.str []), .sl (List.map Item.av [])] from by simp only [flt, List.flatMap_cons, List.flatMap_nil, Item.av_eq, AV.cells, Item.cs_eq, List.cons_append, List.nil_append, List.append_nil]]; exact (.cons (.keep _) (.cons (.keep _) (.cons (.keep _) (.cons (.keep _) (.cons (.keep _) (.cons (.keep _) (.cons (.keep _) (.cons (.keep _) (.cons (.keep _) (.cons (.keep _) (.cons (.keep _) (.cons (.keep _) (.cons (.keep _) (.cons .nil (.cons (.keep _) (.cons (.keep _) (.cons (.keep _) (.cons (.keep _) (.cons (.keep _) (.cons (.keep _) (.cons (.keep _) (.cons (.keep _) (.cons (.keep _) (.cons (.keep _) (.cons (.keep _) (.cons (.keep _) (.cons (.keep _) (.cons (.keep _) (.cons (.keep _) (.cons (.keep _) (.cons .nil (.cons (.keep _) (.cons .nil (.cons (.keep _) (.cons (.keep _) (.cons (.keep _) (.cons (.keep _) (.cons (.keep _) (.cons (.keep _) (.cons (.keep _) (.cons (.keep _) (.cons (.keep _) (.cons (.keep _) (.cons (.keep _) (.cons (.keep _) (.cons (.keep _) (.cons (.keep _) (.cons (.keep _) (.cons (.keep _) (.cons (.keep _) (.cons (.keep _) (.cons (.keep _) (.cons (.keep _) (.cons (.keep _) (.cons (.keep _) (.cons (.keep _) (.cons (.keep _) (.cons (.keep _) (.cons (.keep _) (.cons (.keep _) (.cons (.keep _) (.cons (.keep _) (.cons (.keep _) (.cons (.keep _) (.cons (.keep _) (.cons (.keep _) (.cons (.keep _) (.cons (.keep _) (.cons (.keep _) (.cons (.keep _) (.cons (.keep _) (.cons (.keep _) (.cons (.keep _) (.cons (.keep _) (.cons (.keep _) (.cons (.keep _) (.cons (.keep _) (.cons (.keep _) (.cons (.keep _) (.cons .nil (.cons (.keep _) (.cons (.keep _) (.cons (.keep _) (.cons (.keep _) (.cons (.keep _) (.cons (.keep _) (.cons (.keep _) (.cons (.keep _) (.cons (.keep _) (.cons (.keep _) (.cons (.keep _) (.cons (.keep _) (.cons (.keep _) (.cons (.keep _) (.cons (.keep _) (.cons (.keep _) (.cons .nil (.cons .nil (.cons .nil (.nil _))))))))))))))))))))))))))))))))))))))))))))))))))))))))))))))))))))))))))))))))))))))))))))))))))))) (by first | rfl | simp)) .nil))))))) .nil) (c11 N (({ Name := [], From := ({ Year := 0, Month := 0, Day := 0 } : Civil), Days := 0, Items := [({ Kind := 14, Name := [115, 49], At := 7, Of := [115, 97, 108, 101], Act := [], Word := 0, Times := 0, Within := ({ Days := 0, Business := false, Name := [] } : Span), Grace := ({ Days := 0, Business := false, Name := [] } : Span), Conds := [], By := [], Until := [], Num := ({ Num := 0, Den := 0 } : Ratio), Unit := [], Sum := [], Final := false, Give := [], To := [], Days := ({ e0 := false, e1 := false, e2 := false, e3 := false, e4 := false, e5 := false, e6 := false } : Arr7B), Dates := [], Names := [[98, 117, 121, 101, 114]], Items := [] } : Item), x65, ({ Kind := 6, Name := [116, 101, 114, 109], At := 0, Of := [], Act := [], Word := 0, Times := 0, Within := ({ Days := 5, Business := false, Name := [] } : Span), Grace := ({ Days := 0, Business := false, Name := [] } : Span), Conds := [], By := [], Until := [], Num := ({ Num := 0, Den := 0 } : Ratio), Unit := [], Sum := [], Final := false, Give := [], To := [], Days := ({ e0 := false, e1 := false, e2 := false, e3 := false, e4 := false, e5 := false, e6 := false } : Arr7B), Dates := [], Names := [], Items := [] } : Item)] } : Source)) x76 hx77) ?_
     simp -implicitDefEqProofs (disch := first | omega | rfl) only [go_sem, simprocAttr]
     refine hK _ _ ?_; clear hK K
     refine ⟨⟨⟨b74, x76.1, x76.2⟩, h⟩, ?_⟩
     refine ent_le' ([]) (_ :: _ :: _ :: _ :: _ :: _ :: []) (_ :: _ :: _ :: _ :: _ :: _ :: []) rfl (List.Perm.trans ((List.Perm.cons _ (List.Perm.cons _ (List.Perm.cons _ perm_cc)))) (List.Perm.trans (List.Perm.cons _ (List.Perm.cons _ perm_cc)) (List.Perm.trans (List.Perm.cons _ perm_cc) (List.Perm.trans perm_cc ((List.Perm.cons _ (List.Perm.trans (List.Perm.cons _ perm_cc) (List.Perm.trans perm_cc ((List.Perm.cons _ ((List.Perm.cons _ ((List.Perm.cons _ (List.Perm.trans perm_cc (List.Perm.refl _)))))))))))))))) ?_ ?_
     · simp -implicitDefEqProofs (disch := first | omega | rfl) only [go_sem, simprocAttr, subF_cons, subF_nil]
       exact ⟨(.lptr ..), (.lptr ..), (.lptr ..), (.lptr ..), (.keep _)⟩
     · exact (.cell (.cell (.cell (.cell (.cells (FrzP.of_eq (by first | rfl | simp)) (.drop .nil))))))
   replace h : (
      (s21 N).bind fun x79 =>
      (s11 N (({ Name := [], From := ({ Year := 0, Month := 0, Day := 0 } : Civil), Days := 0, Items := [({ Kind := 14, Name := [115, 49], At := 7, Of := [115, 97, 108, 101], Act := [], Word := 0, Times := 0, Within := ({ Days := 0, Business := false, Name := [] } : Span), Grace := ({ Days := 0, Business := false, Name := [] } : Span), Conds := [], By := [], Until := [], Num := ({ Num := 0, Den := 0 } : Ratio), Unit := [], Sum := [], Final := false, Give := [], To := [], Days := ({ e0 := false, e1 := false, e2 := false, e3 := false, e4 := false, e5 := false, e6 := false } : Arr7B), Dates := [], Names := [[98, 117, 121, 101, 114]], Items := [] } : Item), x79, ({ Kind := 6, Name := [116, 101, 114, 109], At := 0, Of := [], Act := [], Word := 0, Times := 0, Within := ({ Days := 5, Business := false, Name := [] } : Span), Grace := ({ Days := 0, Business := false, Name := [] } : Span), Conds := [], By := [], Until := [], Num := ({ Num := 0, Den := 0 } : Ratio), Unit := [], Sum := [], Final := false, Give := [], To := [], Days := ({ e0 := false, e1 := false, e2 := false, e3 := false, e4 := false, e5 := false, e6 := false } : Arr7B), Dates := [], Names := [], Items := [] } : Item)] } : Source))).bind fun x82 =>
      s9_k4 N x82.1 x82.2) = some r := by
     first | exact h | simpa [grd, set_snoc, Int.lt_add_one_iff] using h
   simp -implicitDefEqProofs (disch := first | omega | rfl) only [go_sem, simprocAttr]
   intro b78
   have hh := bnd_some h; clear h; obtain ⟨x79, hx80, h⟩ := hh
   refine call_pure hP (c21 N  x79 hx80) ?_
   simp -implicitDefEqProofs (disch := first | omega | rfl) only [go_sem, simprocAttr, Item.cs_eq]
   intro b81
   have hh := bnd_some h; clear h; obtain ⟨x82, hx83, h⟩ := hh
   refine call_pureF' hP (_ :: []) (_ :: []) (_ :: _ :: []) rfl (List.Perm.refl _) (.cons (by rw [Source.cs_eq]; exact .aggL (.cons (.keep _) (.cons (.keep _) (.cons (.keep _) (.cons (.keep _) (.cons (.keep _) (.cons (frz_rowP (f := Item.av) (fun _ => Item.avl) (by simp -implicitDefEqProofs (disch := first | omega | rfl) only [go_sem, simprocAttr]; first | done | rfl) (by rw [show flt Item.av _ = [.int .i64 14, .str [115, 49], .int .i64 7, .str [115, 97, 108, 101], .str [], .int .i64 0, .int .i64 0, .int .i64 0, .bool false, .str [], .int .i64 0, .bool false, .str [], .sl (List.map Named.av []), .str [], .str [], .int .i64 0, .int .i64 0, .str [], .str [], .bool false, .str [], .str [], .bool false, .bool false, .bool false, .bool false, .bool false, .bool false, .bool false, .sl (List.map Civil.av []), .sl (List.map AV.str ([[98, 117, 121, 101, 114]])), .sl (List.map Item.av []), .int .i64 x79.Kind, .str x79.Name, .int .i64 x79.At, .str x79.Of, .str x79.Act, .int .i64 x79.Word, .int .i64 x79.Times, .int .i64 x79.Within.Days, .bool x79.Within.Business, .str x79.Within.Name, .int .i64 x79.Grace.Days, .bool x79.Grace.Business, .str x79.Grace.Name, .sl (List.map Named.av x79.Conds), .str x79.By, .str x79.Until, .int .i64 x79.Num.Num, .int .i64 x79.Num.Den, .str x79.Unit, .str x79.Sum, .bool x79.Final, .str x79.Give, .str x79.To, .bool x79.Days.e0, .bool x79.Days.e1, .bool x79.Days.e2, .bool x79.Days.e3, .bool x79.Days.e4, .bool x79.Days.e5, .bool x79.Days.e6, .sl (List.map Civil.av x79.Dates), .sl (List.map AV.str x79.Names), .sl (List.map Item.av x79.Items), .int .i64 6, .str [116, 101, 114, 109], .int .i64 0, .str [], .str [], .int .i64 0, .int .i64 0, .int .i64 5, .bool false, .str [], .int .i64 0, .bool false, .str [], .sl (List.map Named.av []), .str [], .str [], .int .i64 0, .int .i64 0, .str [], .str [], .bool false, .str [], .str [], .bool false, .bool false, .bool false, .bool false, .bool false, .bool false, .bool false, .sl (List.map Civil.av []), .sl (List.map AV.str []), .sl (List.map Item.av [])] from by simp only [flt, List.flatMap_cons, List.flatMap_nil, Item.av_eq, AV.cells, Item.cs_eq, List.cons_append, List.nil_append, List.append_nil]]; exact (.cons (.keep _) (.cons (.keep _) (.cons (.keep _) (.cons (.keep _) (.cons (.keep _) (.cons (.keep _) (.cons (.keep _) (.cons (.keep _) (.cons (.keep _) (.cons (.keep _) (.cons (.keep _) (.cons (.keep _) (.cons (.keep _) (.cons .nil (.cons (.keep _) (.cons (.keep _) (.cons (.keep _) (.cons (.keep _) (.cons (.keep _) (.cons (.keep _) (.cons (.keep _) (.cons (.keep _) (.cons (.keep _) (.cons (.keep _) (.cons (.keep _) (.cons (.keep _) (.cons (.keep _) (.cons (.keep _) (.cons (.keep _) (.cons (.keep _) (.cons .nil (.cons (.keep _) (.cons .nil (.cons (.keep _) (.cons (.keep _) (.cons (.keep _) (.cons (.keep _) (.cons (.keep _) (.cons (.keep _) (.cons (.keep _) (.cons (.keep _) (.cons (.keep _) (.cons (.keep _) (.cons (.keep _) (.cons (.keep _) (.cons (.keep _) (.cons (.keep _) (.cons (.keep _) (.cons (.keep _) (.cons (.keep _) (.cons (.keep _) (.cons (.keep _) (.cons (.keep _) (.cons (.keep _) (.cons (.keep _) (.cons (.keep _) (.cons (.keep _) (.cons (.keep _) (.cons (.keep _) (.cons (.keep _) (.cons (.keep _) (.cons (.keep _) (.cons (.keep _) (.cons (.keep _) (.cons (.keep _) (.cons (.keep _) (.cons (.keep _) (.cons (.keep _) (.cons (.keep _) (.cons (.keep _) (.cons (.keep _) (.cons (.keep _) (.cons (.keep _) (.cons (.keep _) (.cons (.keep _) (.cons (.keep _) (.cons (.keep _) (.cons (.keep _) (.cons (.keep _) (.cons .nil (.cons (.keep _) (.cons (.keep _) (.cons (.keep _) (.cons (.keep _) (.cons (.keep _) (.cons (.keep _) (.cons (.keep _) (.cons (.keep _) (.cons (.keep _) (.cons (.keep _) (.cons (.keep _) (.cons (.keep _) (.cons (.keep _) (.cons (.keep _) (.cons (.keep _) (.cons (.keep _) (.cons .nil (.cons .nil (.cons .nil (.nil _))))))))))))))))))))))))))))))))))))))))))))))))))))))))))))))))))))))))))))))))))))))))))))))))))))) (by first | rfl | simp)) .nil))))))) .nil) (c11 N (({ Name := [], From := ({ Year := 0, Month := 0, Day := 0 } : Civil), Days := 0, Items := [({ Kind := 14, Name := [115, 49], At := 7, Of := [115, 97, 108, 101], Act := [], Word := 0, Times := 0, Within := ({ Days := 0, Business := false, Name := [] } : Span), Grace := ({ Days := 0, Business := false, Name := [] } : Span), Conds := [], By := [], Until := [], Num := ({ Num := 0, Den := 0 } : Ratio), Unit := [], Sum := [], Final := false, Give := [], To := [], Days := ({ e0 := false, e1 := false, e2 := false, e3 := false, e4 := false, e5 := false, e6 := false } : Arr7B), Dates := [], Names := [[98, 117, 121, 101, 114]], Items := [] } : Item), x79, ({ Kind := 6, Name := [116, 101, 114, 109], At := 0, Of := [], Act := [], Word := 0, Times := 0, Within := ({ Days := 5, Business := false, Name := [] } : Span), Grace := ({ Days := 0, Business := false, Name := [] } : Span), Conds := [], By := [], Until := [], Num := ({ Num := 0, Den := 0 } : Ratio), Unit := [], Sum := [], Final := false, Give := [], To := [], Days := ({ e0 := false, e1 := false, e2 := false, e3 := false, e4 := false, e5 := false, e6 := false } : Arr7B), Dates := [], Names := [], Items := [] } : Item)] } : Source)) x82 hx83) ?_
   simp -implicitDefEqProofs (disch := first | omega | rfl) only [go_sem, simprocAttr]
   refine hK _ _ ?_; clear hK K
   refine ⟨⟨⟨b78, x82.1, x82.2⟩, h⟩, ?_⟩
   refine ent_le' ([]) (_ :: _ :: _ :: _ :: _ :: _ :: []) (_ :: _ :: _ :: _ :: _ :: _ :: []) rfl (List.Perm.trans ((List.Perm.cons _ (List.Perm.cons _ (List.Perm.cons _ perm_cc)))) (List.Perm.trans (List.Perm.cons _ (List.Perm.cons _ perm_cc)) (List.Perm.trans (List.Perm.cons _ perm_cc) (List.Perm.trans perm_cc ((List.Perm.cons _ (List.Perm.trans (List.Perm.cons _ perm_cc) (List.Perm.trans perm_cc ((List.Perm.cons _ ((List.Perm.cons _ ((List.Perm.cons _ (List.Perm.trans perm_cc (List.Perm.refl _)))))))))))))))) ?_ ?_
   · simp -implicitDefEqProofs (disch := first | omega | rfl) only [go_sem, simprocAttr, subF_cons, subF_nil]
     exact ⟨(.lptr ..), (.lptr ..), (.lptr ..), (.lptr ..), (.keep _)⟩
   · exact (.cell (.cell (.cell (.cell (.cells (FrzP.of_eq (by first | rfl | simp)) (.drop .nil))))))
 rintro ⟨⟨b7, x8, l9⟩, h⟩
 try dsimp only at h
 try dsimp only
 repeat refine awp_seq ?_
 refine awp_cut (ι := {p : (List Fault) // s9_k3 N x8 l9 p = some r}) (fun p => [(5, .ptr 5 b7 0), (6, .sl (List.map Fault.av l9)), (8, .sl (List.map Fault.av p.1))]) (fun p => (5, b7, .cells (Source.cs x8)) :: []) ?_ ?_
 · repeat refine awp_seq ?_
   refine awp_le' (s' := [(1, .ptr 1 b1 0), (3, .ptr 3 b4 0), (4, .ptr 4 b6 0), (5, .ptr 5 b7 0), (6, .sl (List.map Fault.av l9))]) (own' := (1, b1, .cells ([.int .i64 6, .str [116, 101, 114, 109], .int .i64 0, .str [], .str [], .int .i64 0, .int .i64 0, .int .i64 5, .bool false, .str [], .int .i64 0, .bool false, .str [], .nil, .str [], .str [], .int .i64 0, .int .i64 0, .str [], .str [], .bool false, .str [], .str [], .bool false, .bool false, .bool false, .bool false, .bool false, .bool false, .bool false, .nil, .nil, .nil])) :: (3, b4, .cells ([.int .i64 14, .str [115, 50], .int .i64 8, .str [115, 97, 108, 101], .str [], .int .i64 0, .int .i64 0, .int .i64 0, .bool false, .str [], .int .i64 0, .bool false, .str [], .nil, .str [], .str [], .int .i64 0, .int .i64 0, .str [], .str [], .bool false, .str [], .str [], .bool false, .bool false, .bool false, .bool false, .bool false, .bool false, .bool false, .nil, .nil, .nil])) :: (4, b6, .cells ([.int .i64 14, .str [115, 51], .int .i64 9, .str [108, 101, 97, 115, 101], .str [], .int .i64 0, .int .i64 0, .int .i64 0, .bool false, .str [], .int .i64 0, .bool false, .str [], .nil, .str [], .str [], .int .i64 0, .int .i64 0, .str [], .str [], .bool false, .str [], .str [], .bool false, .bool false, .bool false, .bool false, .bool false, .bool false, .bool false, .nil, .sl (List.map AV.str ([[98, 117, 121, 101, 114]])), .nil])) :: (5, b7, .cells (Source.cs x8)) :: []) (_ :: []) (_ :: _ :: _ :: _ :: []) (_ :: _ :: _ :: _ :: _ :: []) rfl (List.Perm.trans (List.Perm.cons _ (List.Perm.cons _ perm_cc)) (List.Perm.trans (List.Perm.cons _ perm_cc) (List.Perm.trans perm_cc (List.Perm.refl _)))) ?_ ?_ ?_
   · simp -implicitDefEqProofs (disch := first | omega | rfl) only [go_sem, simprocAttr, subF_cons, subF_nil]
     exact ⟨(.lptr ..), (.lptr ..), (.lptr ..), (.lptr ..), (.keep _)⟩
   · exact (.cell (.cell (.cells (.cons (.keep _) (.cons (.keep _) (.cons (.keep _) (.cons (.keep _) (.cons (.keep _) (.cons (.keep _) (.cons (.keep _) (.cons (.keep _) (.cons (.keep _) (.cons (.keep _) (.cons (.keep _) (.cons (.keep _) (.cons (.keep _) (.cons (.keep _) (.cons (.keep _) (.cons (.keep _) (.cons (.keep _) (.cons (.keep _) (.cons (.keep _) (.cons (.keep _) (.cons (.keep _) (.cons (.keep _) (.cons (.keep _) (.cons (.keep _) (.cons (.keep _) (.cons (.keep _) (.cons (.keep _) (.cons (.keep _) (.cons (.keep _) (.cons (.keep _) (.cons (.keep _) (.cons (frz_rowP (f := AV.str) (fun _ => rfl) (by simp -implicitDefEqProofs (disch := first | omega | rfl) only [go_sem, simprocAttr]; first | done | rfl) (show FrzP _ _ [.str [98, 117, 121, 101, 114]] from (.cons (.keep _) (.nil _))) (by first | rfl | simp)) (.cons (.keep _) (.nil _)))))))))))))))))))))))))))))))))) (.cell .nil))))
   repeat refine awp_seq ?_
   refine awp_regD' (_ :: _ :: _ :: _ :: []) ([]) (_ :: _ :: _ :: _ :: []) (by rw [hP]; exact mixed) rfl (List.Perm.refl _) fun K hK => ?_
   simp -implicitDefEqProofs (disch := first | omega | rfl) only [go_sem, simprocAttr, zr9_6]
   refine runT_alts ⟨?_, ?_⟩
   · simp -implicitDefEqProofs (disch := first | omega | rfl) only [go_sem, simprocAttr]
     have hh := bnd_some h; clear h; obtain ⟨x41, hx42, h⟩ := hh
     refine call_pure hP (c21 N  x41 hx42) ?_
     simp -implicitDefEqProofs (disch := first | omega | rfl) only [go_sem, simprocAttr]
     refine runT_alts ⟨?_, ?_⟩
     · simp -implicitDefEqProofs (disch := first | omega | rfl) only [go_sem, simprocAttr, Item.cs_eq]
       intro b43
       refine runT_alts ⟨?_, ?_⟩
       · simp -implicitDefEqProofs (disch := first | omega | rfl) only [go_sem, simprocAttr]
         have hh := bnd_some h; clear h; obtain ⟨x44, hx45, h⟩ := hh
         refine call_pureF' hP (_ :: []) ([]) (_ :: []) rfl (List.Perm.refl _) (.cons (by rw [Source.cs_eq]; exact .aggL (.cons (.keep _) (.cons (.keep _) (.cons (.keep _) (.cons (.keep _) (.cons (.keep _) (.cons (frz_rowP (f := Item.av) (fun _ => Item.avl) (by simp -implicitDefEqProofs (disch := first | omega | rfl) only [go_sem, simprocAttr]; first | done | rfl) (by rw [show flt Item.av _ = [.int .i64 14, .str [115, 50], .int .i64 8, .str [115, 97, 108, 101], .str [], .int .i64 0, .int .i64 0, .int .i64 0, .bool false, .str [], .int .i64 0, .bool false, .str [], .sl (List.map Named.av []), .str [], .str [], .int .i64 0, .int .i64 0, .str [], .str [], .bool false, .str [], .str [], .bool false, .bool false, .bool false, .bool false, .bool false, .bool false, .bool false, .sl (List.map Civil.av []), .sl (List.map AV.str []), .sl (List.map Item.av []), .int .i64 14, .str [115, 51], .int .i64 9, .str [108, 101, 97, 115, 101], .str [], .int .i64 0, .int .i64 0, .int .i64 0, .bool false, .str [], .int .i64 0, .bool false, .str [], .sl (List.map Named.av []), .str [], .str [], .int .i64 0, .int .i64 0, .str [], .str [], .bool false, .str [], .str [], .bool false, .bool false, .bool false, .bool false, .bool false, .bool false, .bool false, .sl (List.map Civil.av []), .sl (List.map AV.str ([[98, 117, 121, 101, 114]])), .sl (List.map Item.av []), .int .i64 x41.Kind, .str x41.Name, .int .i64 x41.At, .str x41.Of, .str x41.Act, .int .i64 x41.Word, .int .i64 x41.Times, .int .i64 x41.Within.Days, .bool x41.Within.Business, .str x41.Within.Name, .int .i64 x41.Grace.Days, .bool x41.Grace.Business, .str x41.Grace.Name, .sl (List.map Named.av x41.Conds), .str x41.By, .str x41.Until, .int .i64 x41.Num.Num, .int .i64 x41.Num.Den, .str x41.Unit, .str x41.Sum, .bool x41.Final, .str x41.Give, .str x41.To, .bool x41.Days.e0, .bool x41.Days.e1, .bool x41.Days.e2, .bool x41.Days.e3, .bool x41.Days.e4, .bool x41.Days.e5, .bool x41.Days.e6, .sl (List.map Civil.av x41.Dates), .sl (List.map AV.str x41.Names), .sl (List.map Item.av x41.Items), .int .i64 6, .str [116, 101, 114, 109], .int .i64 0, .str [], .str [], .int .i64 0, .int .i64 0, .int .i64 5, .bool false, .str [], .int .i64 0, .bool false, .str [], .sl (List.map Named.av []), .str [], .str [], .int .i64 0, .int .i64 0, .str [], .str [], .bool false, .str [], .str [], .bool false, .bool false, .bool false, .bool false, .bool false, .bool false, .bool false, .sl (List.map Civil.av []), .sl (List.map AV.str []), .sl (List.map Item.av [])] from by simp only [flt, List.flatMap_cons, List.flatMap_nil, Item.av_eq, AV.cells, Item.cs_eq, List.cons_append, List.nil_append, List.append_nil]]; exact (.cons (.keep _) (.cons (.keep _) (.cons (.keep _) (.cons (.keep _) (.cons (.keep _) (.cons (.keep _) (.cons (.keep _) (.cons (.keep _) (.cons (.keep _) (.cons (.keep _) (.cons (.keep _) (.cons (.keep _) (.cons (.keep _) (.cons .nil (.cons (.keep _) (.cons (.keep _) (.cons (.keep _) (.cons (.keep _) (.cons (.keep _) (.cons (.keep _) (.cons (.keep _) (.cons (.keep _) (.cons (.keep _) (.cons (.keep _) (.cons (.keep _) (.cons (.keep _) (.cons (.keep _) (.cons (.keep _) (.cons (.keep _) (.cons (.keep _) (.cons .nil (.cons .nil (.cons .nil (.cons (.keep _) (.cons (.keep _) (.cons (.keep _) (.cons (.keep _) (.cons (.keep _) (.cons (.keep _) (.cons (.keep _) (.cons (.keep _) (.cons (.keep _) (.cons (.keep _) (.cons (.keep _) (.cons (.keep _) (.cons (.keep _) (.cons .nil (.cons (.keep _) (.cons (.keep _) (.cons (.keep _) (.cons (.keep _) (.cons (.keep _) (.cons (.keep _) (.cons (.keep _) (.cons (.keep _) (.cons (.keep _) (.cons (.keep _) (.cons (.keep _) (.cons (.keep _) (.cons (.keep _) (.cons (.keep _) (.cons (.keep _) (.cons (.keep _) (.cons .nil (.cons (.keep _) (.cons .nil (.cons (.keep _) (.cons (.keep _) (.cons (.keep _) (.cons (.keep _) (.cons (.keep _) (.cons (.keep _) (.cons (.keep _) (.cons (.keep _) (.cons (.keep _) (.cons (.keep _) (.cons (.keep _) (.cons (.keep _) (.cons (.keep _) (.cons (.keep _) (.cons (.keep _) (.cons (.keep _) (.cons (.keep _) (.cons (.keep _) (.cons (.keep _) (.cons (.keep _) (.cons (.keep _) (.cons (.keep _) (.cons (.keep _) (.cons (.keep _) (.cons (.keep _) (.cons (.keep _) (.cons (.keep _) (.cons (.keep _) (.cons (.keep _) (.cons (.keep _) (.cons (.keep _) (.cons (.keep _) (.cons (.keep _) (.cons (.keep _) (.cons (.keep _) (.cons (.keep _) (.cons (.keep _) (.cons (.keep _) (.cons (.keep _) (.cons (.keep _) (.cons (.keep _) (.cons (.keep _) (.cons (.keep _) (.cons (.keep _) (.cons (.keep _) (.cons (.keep _) (.cons .nil (.cons (.keep _) (.cons (.keep _) (.cons (.keep _) (.cons (.keep _) (.cons (.keep _) (.cons (.keep _) (.cons (.keep _) (.cons (.keep _) (.cons (.keep _) (.cons (.keep _) (.cons (.keep _) (.cons (.keep _) (.cons (.keep _) (.cons (.keep _) (.cons (.keep _) (.cons (.keep _) (.cons .nil (.cons .nil (.cons .nil (.nil _)))))))))))))))))))))))))))))))))))))))))))))))))))))))))))))))))))))))))))))))))))))))))))))))))))))))))))))))))))))))))))))))))))))) (by first | rfl | simp)) .nil))))))) .nil) (c11 N (({ Name := [], From := ({ Year := 0, Month := 0, Day := 0 } : Civil), Days := 0, Items := [({ Kind := 14, Name := [115, 50], At := 8, Of := [115, 97, 108, 101], Act := [], Word := 0, Times := 0, Within := ({ Days := 0, Business := false, Name := [] } : Span), Grace := ({ Days := 0, Business := false, Name := [] } : Span), Conds := [], By := [], Until := [], Num := ({ Num := 0, Den := 0 } : Ratio), Unit := [], Sum := [], Final := false, Give := [], To := [], Days := ({ e0 := false, e1 := false, e2 := false, e3 := false, e4 := false, e5 := false, e6 := false } : Arr7B), Dates := [], Names := [], Items := [] } : Item), ({ Kind := 14, Name := [115, 51], At := 9, Of := [108, 101, 97, 115, 101], Act := [], Word := 0, Times := 0, Within := ({ Days := 0, Business := false, Name := [] } : Span), Grace := ({ Days := 0, Business := false, Name := [] } : Span), Conds := [], By := [], Until := [], Num := ({ Num := 0, Den := 0 } : Ratio), Unit := [], Sum := [], Final := false, Give := [], To := [], Days := ({ e0 := false, e1 := false, e2 := false, e3 := false, e4 := false, e5 := false, e6 := false } : Arr7B), Dates := [], Names := [[98, 117, 121, 101, 114]], Items := [] } : Item), x41, ({ Kind := 6, Name := [116, 101, 114, 109], At := 0, Of := [], Act := [], Word := 0, Times := 0, Within := ({ Days := 5, Business := false, Name := [] } : Span), Grace := ({ Days := 0, Business := false, Name := [] } : Span), Conds := [], By := [], Until := [], Num := ({ Num := 0, Den := 0 } : Ratio), Unit := [], Sum := [], Final := false, Give := [], To := [], Days := ({ e0 := false, e1 := false, e2 := false, e3 := false, e4 := false, e5 := false, e6 := false } : Arr7B), Dates := [], Names := [], Items := [] } : Item)] } : Source)) x44 hx45) ?_
         simp -implicitDefEqProofs (disch := first | omega | rfl) only [go_sem, simprocAttr]
         intro b46
         refine hK _ _ ?_; clear hK K
         refine ⟨⟨x44.2, h⟩, ?_⟩
         refine ent_le' ([]) (_ :: _ :: _ :: _ :: _ :: []) (_ :: _ :: _ :: _ :: _ :: []) rfl (List.Perm.trans (List.Perm.cons _ (List.Perm.cons _ perm_cc)) (List.Perm.trans (List.Perm.cons _ perm_cc) (List.Perm.trans perm_cc (List.Perm.refl _)))) ?_ ?_
         · simp -implicitDefEqProofs (disch := first | omega | rfl) only [go_sem, simprocAttr, subF_cons, subF_nil]
           exact ⟨(.lptr ..), (.keep _), (.keep _)⟩
         · exact (.cell (.drop (.drop (.drop (.drop .nil)))))
       replace h : (
      (s11 N (({ Name := [], From := ({ Year := 0, Month := 0, Day := 0 } : Civil), Days := 0, Items := [({ Kind := 14, Name := [115, 50], At := 8, Of := [115, 97, 108, 101], Act := [], Word := 0, Times := 0, Within := ({ Days := 0, Business := false, Name := [] } : Span), Grace := ({ Days := 0, Business := false, Name := [] } : Span), Conds := [], By := [], Until := [], Num := ({ Num := 0, Den := 0 } : Ratio), Unit := [], Sum := [], Final := false, Give := [], To := [], Days := ({ e0 := false, e1 := false, e2 := false, e3 := false, e4 := false, e5 := false, e6 := false } : Arr7B), Dates := [], Names := [], Items := [] } : Item), ({ Kind := 14, Name := [115, 51], At := 9, Of := [108, 101, 97, 115, 101], Act := [], Word := 0, Times := 0, Within := ({ Days := 0, Business := false, Name := [] } : Span), Grace := ({ Days := 0, Business := false, Name := [] } : Span), Conds := [], By := [], Until := [], Num := ({ Num := 0, Den := 0 } : Ratio), Unit := [], Sum := [], Final := false, Give := [], To := [], Days := ({ e0 := false, e1 := false, e2 := false, e3 := false, e4 := false, e5 := false, e6 := false } : Arr7B), Dates := [], Names := [[98, 117, 121, 101, 114]], Items := [] } : Item), x41, ({ Kind := 6, Name := [116, 101, 114, 109], At := 0, Of := [], Act := [], Word := 0, Times := 0, Within := ({ Days := 5, Business := false, Name := [] } : Span), Grace := ({ Days := 0, Business := false, Name := [] } : Span), Conds := [], By := [], Until := [], Num := ({ Num := 0, Den := 0 } : Ratio), Unit := [], Sum := [], Final := false, Give := [], To := [], Days := ({ e0 := false, e1 := false, e2 := false, e3 := false, e4 := false, e5 := false, e6 := false } : Arr7B), Dates := [], Names := [], Items := [] } : Item)] } : Source))).bind fun x48 =>
      s9_k3 N x8 l9 x48.2) = some r := by
         first | exact h | simpa [grd, set_snoc, Int.lt_add_one_iff] using h
       simp -implicitDefEqProofs (disch := first | omega | rfl) only [go_sem, simprocAttr]
       intro b47
       have hh := bnd_some h; clear h; obtain ⟨x48, hx49, h⟩ := hh
       refine call_pureF' hP (_ :: []) (_ :: []) (_ :: _ :: []) rfl (List.Perm.trans perm_cc (List.Perm.refl _)) (.cons (by rw [Source.cs_eq]; exact .aggL (.cons (.keep _) (.cons (.keep _) (.cons (.keep _) (.cons (.keep _) (.cons (.keep _) (.cons (frz_rowP (f := Item.av) (fun _ => Item.avl) (by simp -implicitDefEqProofs (disch := first | omega | rfl) only [go_sem, simprocAttr]; first | done | rfl) (by rw [show flt Item.av _ = [.int .i64 14, .str [115, 50], .int .i64 8, .str [115, 97, 108, 101], .str [], .int .i64 0, .int .i64 0, .int .i64 0, .bool false, .str [], .int .i64 0, .bool false, .str [], .sl (List.map Named.av []), .str [], .str [], .int .i64 0, .int .i64 0, .str [], .str [], .bool false, .str [], .str [], .bool false, .bool false, .bool false, .bool false, .bool false, .bool false, .bool false, .sl (List.map Civil.av []), .sl (List.map AV.str []), .sl (List.map Item.av []), .int .i64 14, .str [115, 51], .int .i64 9, .str [108, 101, 97, 115, 101], .str [], .int .i64 0, .int .i64 0, .int .i64 0, .bool false, .str [], .int .i64 0, .bool false, .str [], .sl (List.map Named.av []), .str [], .str [], .int .i64 0, .int .i64 0, .str [], .str [], .bool false, .str [], .str [], .bool false, .bool false, .bool false, .bool false, .bool false, .bool false, .bool false, .sl (List.map Civil.av []), .sl (List.map AV.str ([[98, 117, 121, 101, 114]])), .sl (List.map Item.av []), .int .i64 x41.Kind, .str x41.Name, .int .i64 x41.At, .str x41.Of, .str x41.Act, .int .i64 x41.Word, .int .i64 x41.Times, .int .i64 x41.Within.Days, .bool x41.Within.Business, .str x41.Within.Name, .int .i64 x41.Grace.Days, .bool x41.Grace.Business, .str x41.Grace.Name, .sl (List.map Named.av x41.Conds), .str x41.By, .str x41.Until, .int .i64 x41.Num.Num, .int .i64 x41.Num.Den, .str x41.Unit, .str x41.Sum, .bool x41.Final, .str x41.Give, .str x41.To, .bool x41.Days.e0, .bool x41.Days.e1, .bool x41.Days.e2, .bool x41.Days.e3, .bool x41.Days.e4, .bool x41.Days.e5, .bool x41.Days.e6, .sl (List.map Civil.av x41.Dates), .sl (List.map AV.str x41.Names), .sl (List.map Item.av x41.Items), .int .i64 6, .str [116, 101, 114, 109], .int .i64 0, .str [], .str [], .int .i64 0, .int .i64 0, .int .i64 5, .bool false, .str [], .int .i64 0, .bool false, .str [], .sl (List.map Named.av []), .str [], .str [], .int .i64 0, .int .i64 0, .str [], .str [], .bool false, .str [], .str [], .bool false, .bool false, .bool false, .bool false, .bool false, .bool false, .bool false, .sl (List.map Civil.av []), .sl (List.map AV.str []), .sl (List.map Item.av [])] from by simp only [flt, List.flatMap_cons, List.flatMap_nil, Item.av_eq, AV.cells, Item.cs_eq, List.cons_append, List.nil_append, List.append_nil]]; exact (.cons (.keep _) (.cons (.keep _) (.cons (.keep _) (.cons (.keep _) (.cons (.keep _) (.cons (.keep _) (.cons (.keep _) (.cons (.keep _) (.cons (.keep _) (.cons (.keep _) (.cons (.keep _) (.cons (.keep _) (.cons (.keep _) (.cons .nil (.cons (.keep _) (.cons (.keep _) (.cons (.keep _) (.cons (.keep _) (.cons (.keep _) (.cons (.keep _) (.cons (.keep _) (.cons (.keep _) (.cons (.keep _) (.cons (.keep _) (.cons (.keep _) (.cons (.keep _) (.cons (.keep _) (.cons (.keep _) (.cons (.keep _) (.cons (.keep _) (.cons .nil (.cons .nil (.cons .nil (.cons (.keep _) (.cons (.keep _) (.cons (.keep _) (.cons (.keep _) (.cons (.keep _) (.cons (.keep _) (.cons (.keep _) (.cons (.keep _) (.cons (.keep _) (.cons (.keep _) (.cons (.keep _) (.cons (.keep _) (.cons (.keep _) (.cons .nil (.cons (.keep _) (.cons (.keep _) (.cons (.keep _) (.cons (.keep _) (.cons (.keep _) (.cons (.keep _) (.cons (.keep _) (.cons (.keep _) (.cons (.keep _) (.cons (.keep _) (.cons (.keep _) (.cons (.keep _) (.cons (.keep _) (.cons (.keep _) (.cons (.keep _) (.cons (.keep _) (.cons .nil (.cons (.keep _) (.cons .nil (.cons (.keep _) (.cons (.keep _) (.cons (.keep _) (.cons (.keep _) (.cons (.keep _) (.cons (.keep _) (.cons (.keep _) (.cons (.keep _) (.cons (.keep _) (.cons (.keep _) (.cons (.keep _) (.cons (.keep _) (.cons (.keep _) (.cons (.keep _) (.cons (.keep _) (.cons (.keep _) (.cons (.keep _) (.cons (.keep _) (.cons (.keep _) (.cons (.keep _) (.cons (.keep _) (.cons (.keep _) (.cons (.keep _) (.cons (.keep _) (.cons (.keep _) (.cons (.keep _) (.cons (.keep _) (.cons (.keep _) (.cons (.keep _) (.cons (.keep _) (.cons (.keep _) (.cons (.keep _) (.cons (.keep _) (.cons (.keep _) (.cons (.keep _) (.cons (.keep _) (.cons (.keep _) (.cons (.keep _) (.cons (.keep _) (.cons (.keep _) (.cons (.keep _) (.cons (.keep _) (.cons (.keep _) (.cons (.keep _) (.cons (.keep _) (.cons (.keep _) (.cons .nil (.cons (.keep _) (.cons (.keep _) (.cons (.keep _) (.cons (.keep _) (.cons (.keep _) (.cons (.keep _) (.cons (.keep _) (.cons (.keep _) (.cons (.keep _) (.cons (.keep _) (.cons (.keep _) (.cons (.keep _) (.cons (.keep _) (.cons (.keep _) (.cons (.keep _) (.cons (.keep _) (.cons .nil (.cons .nil (.cons .nil (.nil _)))))))))))))))))))))))))))))))))))))))))))))))))))))))))))))))))))))))))))))))))))))))))))))))))))))))))))))))))))))))))))))))))))))) (by first | rfl | simp)) .nil))))))) .nil) (c11 N (({ Name := [], From := ({ Year := 0, Month := 0, Day := 0 } : Civil), Days := 0, Items := [({ Kind := 14, Name := [115, 50], At := 8, Of := [115, 97, 108, 101], Act := [], Word := 0, Times := 0, Within := ({ Days := 0, Business := false, Name := [] } : Span), Grace := ({ Days := 0, Business := false, Name := [] } : Span), Conds := [], By := [], Until := [], Num := ({ Num := 0, Den := 0 } : Ratio), Unit := [], Sum := [], Final := false, Give := [], To := [], Days := ({ e0 := false, e1 := false, e2 := false, e3 := false, e4 := false, e5 := false, e6 := false } : Arr7B), Dates := [], Names := [], Items := [] } : Item), ({ Kind := 14, Name := [115, 51], At := 9, Of := [108, 101, 97, 115, 101], Act := [], Word := 0, Times := 0, Within := ({ Days := 0, Business := false, Name := [] } : Span), Grace := ({ Days := 0, Business := false, Name := [] } : Span), Conds := [], By := [], Until := [], Num := ({ Num := 0, Den := 0 } : Ratio), Unit := [], Sum := [], Final := false, Give := [], To := [], Days := ({ e0 := false, e1 := false, e2 := false, e3 := false, e4 := false, e5 := false, e6 := false } : Arr7B), Dates := [], Names := [[98, 117, 121, 101, 114]], Items := [] } : Item), x41, ({ Kind := 6, Name := [116, 101, 114, 109], At := 0, Of := [], Act := [], Word := 0, Times := 0, Within := ({ Days := 5, Business := false, Name := [] } : Span), Grace := ({ Days := 0, Business := false, Name := [] } : Span), Conds := [], By := [], Until := [], Num := ({ Num := 0, Den := 0 } : Ratio), Unit := [], Sum := [], Final := false, Give := [], To := [], Days := ({ e0 := false, e1 := false, e2 := false, e3 := false, e4 := false, e5 := false, e6 := false } : Arr7B), Dates := [], Names := [], Items := [] } : Item)] } : Source)) x48 hx49) ?_
       simp -implicitDefEqProofs (disch := first | omega | rfl) only [go_sem, simprocAttr]
       refine hK _ _ ?_; clear hK K
       refine ⟨⟨x48.2, h⟩, ?_⟩
       refine ent_le' ([]) (_ :: _ :: _ :: _ :: _ :: []) (_ :: _ :: _ :: _ :: _ :: []) rfl (List.Perm.trans (List.Perm.cons _ (List.Perm.cons _ perm_cc)) (List.Perm.trans (List.Perm.cons _ perm_cc) (List.Perm.trans perm_cc (List.Perm.refl _)))) ?_ ?_
       · simp -implicitDefEqProofs (disch := first | omega | rfl) only [go_sem, simprocAttr, subF_cons, subF_nil]
         exact ⟨(.lptr ..), (.keep _), (.keep _)⟩
       · exact (.cell (.drop (.drop (.drop (.drop .nil)))))
     replace h : (
      (s11 N (({ Name := [], From := ({ Year := 0, Month := 0, Day := 0 } : Civil), Days := 0, Items := [({ Kind := 14, Name := [115, 50], At := 8, Of := [115, 97, 108, 101], Act := [], Word := 0, Times := 0, Within := ({ Days := 0, Business := false, Name := [] } : Span), Grace := ({ Days := 0, Business := false, Name := [] } : Span), Conds := [], By := [], Until := [], Num := ({ Num := 0, Den := 0 } : Ratio), Unit := [], Sum := [], Final := false, Give := [], To := [], Days := ({ e0 := false, e1 := false, e2 := false, e3 := false, e4 := false, e5 := false, e6 := false } : Arr7B), Dates := [], Names := [], Items := [] } : Item), ({ Kind := 14, Name := [115, 51], At := 9, Of := [108, 101, 97, 115, 101], Act := [], Word := 0, Times := 0, Within := ({ Days := 0, Business := false, Name := [] } : Span), Grace := ({ Days := 0, Business := false, Name := [] } : Span), Conds := [], By := [], Until := [], Num := ({ Num := 0, Den := 0 } : Ratio), Unit := [], Sum := [], Final := false, Give := [], To := [], Days := ({ e0 := false, e1 := false, e2 := false, e3 := false, e4 := false, e5 := false, e6 := false } : Arr7B), Dates := [], Names := [[98, 117, 121, 101, 114]], Items := [] } : Item), x41, ({ Kind := 6, Name := [116, 101, 114, 109], At := 0, Of := [], Act := [], Word := 0, Times := 0, Within := ({ Days := 5, Business := false, Name := [] } : Span), Grace := ({ Days := 0, Business := false, Name := [] } : Span), Conds := [], By := [], Until := [], Num := ({ Num := 0, Den := 0 } : Ratio), Unit := [], Sum := [], Final := false, Give := [], To := [], Days := ({ e0 := false, e1 := false, e2 := false, e3 := false, e4 := false, e5 := false, e6 := false } : Arr7B), Dates := [], Names := [], Items := [] } : Item)] } : Source))).bind fun x52 =>
      s9_k3 N x8 l9 x52.2) = some r := by
       first | exact h | simpa [grd, set_snoc, Int.lt_add_one_iff] using h
     simp -implicitDefEqProofs (disch := first | omega | rfl) only [go_sem, simprocAttr, Item.cs_eq]
     intro b50 b51
     have hh := bnd_some h; clear h; obtain ⟨x52, hx53, h⟩ := hh
     refine call_pureF' hP (_ :: []) (_ :: []) (_ :: _ :: []) rfl (List.Perm.refl _) (.cons (by rw [Source.cs_eq]; exact .aggL (.cons (.keep _) (.cons (.keep _) (.cons (.keep _) (.cons (.keep _) (.cons (.keep _) (.cons (frz_rowP (f := Item.av) (fun _ => Item.avl) (by simp -implicitDefEqProofs (disch := first | omega | rfl) only [go_sem, simprocAttr]; first | done | rfl) (by rw [show flt Item.av _ = [.int .i64 14, .str [115, 50], .int .i64 8, .str [115, 97, 108, 101], .str [], .int .i64 0, .int .i64 0, .int .i64 0, .bool false, .str [], .int .i64 0, .bool false, .str [], .sl (List.map Named.av []), .str [], .str [], .int .i64 0, .int .i64 0, .str [], .str [], .bool false, .str [], .str [], .bool false, .bool false, .bool false, .bool false, .bool false, .bool false, .bool false, .sl (List.map Civil.av []), .sl (List.map AV.str []), .sl (List.map Item.av []), .int .i64 14, .str [115, 51], .int .i64 9, .str [108, 101, 97, 115, 101], .str [], .int .i64 0, .int .i64 0, .int .i64 0, .bool false, .str [], .int .i64 0, .bool false, .str [], .sl (List.map Named.av []), .str [], .str [], .int .i64 0, .int .i64 0, .str [], .str [], .bool false, .str [], .str [], .bool false, .bool false, .bool false, .bool false, .bool false, .bool false, .bool false, .sl (List.map Civil.av []), .sl (List.map AV.str ([[98, 117, 121, 101, 114]])), .sl (List.map Item.av []), .int .i64 x41.Kind, .str x41.Name, .int .i64 x41.At, .str x41.Of, .str x41.Act, .int .i64 x41.Word, .int .i64 x41.Times, .int .i64 x41.Within.Days, .bool x41.Within.Business, .str x41.Within.Name, .int .i64 x41.Grace.Days, .bool x41.Grace.Business, .str x41.Grace.Name, .sl (List.map Named.av x41.Conds), .str x41.By, .str x41.Until, .int .i64 x41.Num.Num, .int .i64 x41.Num.Den, .str x41.Unit, .str x41.Sum, .bool x41.Final, .str x41.Give, .str x41.To, .bool x41.Days.e0, .bool x41.Days.e1, .bool x41.Days.e2, .bool x41.Days.e3, .bool x41.Days.e4, .bool x41.Days.e5, .bool x41.Days.e6, .sl (List.map Civil.av x41.Dates), .sl (List.map AV.str x41.Names), .sl (List.map Item.av x41.Items), .int .i64 6, .str [116, 101, 114, 109], .int .i64 0, .str [], .str [], .int .i64 0, .int .i64 0, .int .i64 5, .bool false, .str [], .int .i64 0, .bool false, .str [], .sl (List.map Named.av []), .str [], .str [], .int .i64 0, .int .i64 0, .str [], .str [], .bool false, .str [], .str [], .bool false, .bool false, .bool false, .bool false, .bool false, .bool false, .bool false, .sl (List.map Civil.av []), .sl (List.map AV.str []), .sl (List.map Item.av [])] from by simp only [flt, List.flatMap_cons, List.flatMap_nil, Item.av_eq, AV.cells, Item.cs_eq, List.cons_append, List.nil_append, List.append_nil]]; exact (.cons (.keep _) (.cons (.keep _) (.cons (.keep _) (.cons (.keep _) (.cons (.keep _) (.cons (.keep _) (.cons (.keep _) (.cons (.keep _) (.cons (.keep _) (.cons (.keep _) (.cons (.keep _) (.cons (.keep _) (.cons (.keep _) (.cons .nil (.cons (.keep _) (.cons (.keep _) (.cons (.keep _) (.cons (.keep _) (.cons (.keep _) (.cons (.keep _) (.cons (.keep _) (.cons (.keep _) (.cons (.keep _) (.cons (.keep _) (.cons (.keep _) (.cons (.keep _) (.cons (.keep _) (.cons (.keep _) (.cons (.keep _) (.cons (.keep _) (.cons .nil (.cons .nil (.cons .nil (.cons (.keep _) (.cons (.keep _) (.cons (.keep _) (.cons (.keep _) (.cons (.keep _) (.cons (.keep _) (.cons (.keep _) (.cons (.keep _) (.cons (.keep _) (.cons (.keep _) (.cons (.keep _) (.cons (.keep _) (.cons (.keep _) (.cons .nil (.cons (.keep _) (.cons (.keep _) (.cons (.keep _) (.cons (.keep _) (.cons (.keep _) (.cons (.keep _) (.cons (.keep _) (.cons (.keep _) (.cons (.keep _) (.cons (.keep _) (.cons (.keep _) (.cons (.keep _) (.cons (.keep _) (.cons (.keep _) (.cons (.keep _) (.cons (.keep _) (.cons .nil (.cons (.keep _) (.cons .nil (.cons (.keep _) (.cons (.keep _) (.cons (.keep _) (.cons (.keep _) (.cons (.keep _) (.cons (.keep _) (.cons (.keep _) (.cons (.keep _) (.cons (.keep _) (.cons (.keep _) (.cons (.keep _) (.cons (.keep _) (.cons (.keep _) (.cons (.keep _) (.cons (.keep _) (.cons (.keep _) (.cons (.keep _) (.cons (.keep _) (.cons (.keep _) (.cons (.keep _) (.cons (.keep _) (.cons (.keep _) (.cons (.keep _) (.cons (.keep _) (.cons (.keep _) (.cons (.keep _) (.cons (.keep _) (.cons (.keep _) (.cons (.keep _) (.cons (.keep _) (.cons (.keep _) (.cons (.keep _) (.cons (.keep _) (.cons (.keep _) (.cons (.keep _) (.cons (.keep _) (.cons (.keep _) (.cons (.keep _) (.cons (.keep _) (.cons (.keep _) (.cons (.keep _) (.cons (.keep _) (.cons (.keep _) (.cons (.keep _) (.cons (.keep _) (.cons (.keep _) (.cons .nil (.cons (.keep _) (.cons (.keep _) (.cons (.keep _) (.cons (.keep _) (.cons (.keep _) (.cons (.keep _) (.cons (.keep _) (.cons (.keep _) (.cons (.keep _) (.cons (.keep _) (.cons (.keep _) (.cons (.keep _) (.cons (.keep _) (.cons (.keep _) (.cons (.keep _) (.cons (.keep _) (.cons .nil (.cons .nil (.cons .nil (.nil _)))))))))))))))))))))))))))))))))))))))))))))))))))))))))))))))))))))))))))))))))))))))))))))))))))))))))))))))))))))))))))))))))))))) (by first | rfl | simp)) .nil))))))) .nil) (c11 N (({ Name := [], From := ({ Year := 0, Month := 0, Day := 0 } : Civil), Days := 0, Items := [({ Kind := 14, Name := [115, 50], At := 8, Of := [115, 97, 108, 101], Act := [], Word := 0, Times := 0, Within := ({ Days := 0, Business := false, Name := [] } : Span), Grace := ({ Days := 0, Business := false, Name := [] } : Span), Conds := [], By := [], Until := [], Num := ({ Num := 0, Den := 0 } : Ratio), Unit := [], Sum := [], Final := false, Give := [], To := [], Days := ({ e0 := false, e1 := false, e2 := false, e3 := false, e4 := false, e5 := false, e6 := false } : Arr7B), Dates := [], Names := [], Items := [] } : Item), ({ Kind := 14, Name := [115, 51], At := 9, Of := [108, 101, 97, 115, 101], Act := [], Word := 0, Times := 0, Within := ({ Days := 0, Business := false, Name := [] } : Span), Grace := ({ Days := 0, Business := false, Name := [] } : Span), Conds := [], By := [], Until := [], Num := ({ Num := 0, Den := 0 } : Ratio), Unit := [], Sum := [], Final := false, Give := [], To := [], Days := ({ e0 := false, e1 := false, e2 := false, e3 := false, e4 := false, e5 := false, e6 := false } : Arr7B), Dates := [], Names := [[98, 117, 121, 101, 114]], Items := [] } : Item), x41, ({ Kind := 6, Name := [116, 101, 114, 109], At := 0, Of := [], Act := [], Word := 0, Times := 0, Within := ({ Days := 5, Business := false, Name := [] } : Span), Grace := ({ Days := 0, Business := false, Name := [] } : Span), Conds := [], By := [], Until := [], Num := ({ Num := 0, Den := 0 } : Ratio), Unit := [], Sum := [], Final := false, Give := [], To := [], Days := ({ e0 := false, e1 := false, e2 := false, e3 := false, e4 := false, e5 := false, e6 := false } : Arr7B), Dates := [], Names := [], Items := [] } : Item)] } : Source)) x52 hx53) ?_
     simp -implicitDefEqProofs (disch := first | omega | rfl) only [go_sem, simprocAttr]
     refine hK _ _ ?_; clear hK K
     refine ⟨⟨x52.2, h⟩, ?_⟩
     refine ent_le' ([]) (_ :: _ :: _ :: _ :: _ :: []) (_ :: _ :: _ :: _ :: _ :: []) rfl (List.Perm.trans (List.Perm.cons _ (List.Perm.cons _ perm_cc)) (List.Perm.trans (List.Perm.cons _ perm_cc) (List.Perm.trans perm_cc (List.Perm.refl _)))) ?_ ?_
     · simp -implicitDefEqProofs (disch := first | omega | rfl) only [go_sem, simprocAttr, subF_cons, subF_nil]
       exact ⟨(.lptr ..), (.keep _), (.keep _)⟩
     · exact (.cell (.drop (.drop (.drop (.drop .nil)))))
   replace h : (
      (s21 N).bind fun x55 =>
      (s11 N (({ Name := [], From := ({ Year := 0, Month := 0, Day := 0 } : Civil), Days := 0, Items := [({ Kind := 14, Name := [115, 50], At := 8, Of := [115, 97, 108, 101], Act := [], Word := 0, Times := 0, Within := ({ Days := 0, Business := false, Name := [] } : Span), Grace := ({ Days := 0, Business := false, Name := [] } : Span), Conds := [], By := [], Until := [], Num := ({ Num := 0, Den := 0 } : Ratio), Unit := [], Sum := [], Final := false, Give := [], To := [], Days := ({ e0 := false, e1 := false, e2 := false, e3 := false, e4 := false, e5 := false, e6 := false } : Arr7B), Dates := [], Names := [], Items := [] } : Item), ({ Kind := 14, Name := [115, 51], At := 9, Of := [108, 101, 97, 115, 101], Act := [], Word := 0, Times := 0, Within := ({ Days := 0, Business := false, Name := [] } : Span), Grace := ({ Days := 0, Business := false, Name := [] } : Span), Conds := [], By := [], Until := [], Num := ({ Num := 0, Den := 0 } : Ratio), Unit := [], Sum := [], Final := false, Give := [], To := [], Days := ({ e0 := false, e1 := false, e2 := false, e3 := false, e4 := false, e5 := false, e6 := false } : Arr7B), Dates := [], Names := [[98, 117, 121, 101, 114]], Items := [] } : Item), x55, ({ Kind := 6, Name := [116, 101, 114, 109], At := 0, Of := [], Act := [], Word := 0, Times := 0, Within := ({ Days := 5, Business := false, Name := [] } : Span), Grace := ({ Days := 0, Business := false, Name := [] } : Span), Conds := [], By := [], Until := [], Num := ({ Num := 0, Den := 0 } : Ratio), Unit := [], Sum := [], Final := false, Give := [], To := [], Days := ({ e0 := false, e1 := false, e2 := false, e3 := false, e4 := false, e5 := false, e6 := false } : Arr7B), Dates := [], Names := [], Items := [] } : Item)] } : Source))).bind fun x58 =>
      s9_k3 N x8 l9 x58.2) = some r := by
     first | exact h | simpa [grd, set_snoc, Int.lt_add_one_iff] using h
   simp -implicitDefEqProofs (disch := first | omega | rfl) only [go_sem, simprocAttr]
   intro b54
   have hh := bnd_some h; clear h; obtain ⟨x55, hx56, h⟩ := hh
   refine call_pure hP (c21 N  x55 hx56) ?_
   simp -implicitDefEqProofs (disch := first | omega | rfl) only [go_sem, simprocAttr, Item.cs_eq]
   intro b57
   have hh := bnd_some h; clear h; obtain ⟨x58, hx59, h⟩ := hh
   refine call_pureF' hP (_ :: []) (_ :: []) (_ :: _ :: []) rfl (List.Perm.refl _) (.cons (by rw [Source.cs_eq]; exact .aggL (.cons (.keep _) (.cons (.keep _) (.cons (.keep _) (.cons (.keep _) (.cons (.keep _) (.cons (frz_rowP (f := Item.av) (fun _ => Item.avl) (by simp -implicitDefEqProofs (disch := first | omega | rfl) only [go_sem, simprocAttr]; first | done | rfl) (by rw [show flt Item.av _ = [.int .i64 14, .str [115, 50], .int .i64 8, .str [115, 97, 108, 101], .str [], .int .i64 0, .int .i64 0, .int .i64 0, .bool false, .str [], .int .i64 0, .bool false, .str [], .sl (List.map Named.av []), .str [], .str [], .int .i64 0, .int .i64 0, .str [], .str [], .bool false, .str [], .str [], .bool false, .bool false, .bool false, .bool false, .bool false, .bool false, .bool false, .sl (List.map Civil.av []), .sl (List.map AV.str []), .sl (List.map Item.av []), .int .i64 14, .str [115, 51], .int .i64 9, .str [108, 101, 97, 115, 101], .str [], .int .i64 0, .int .i64 0, .int .i64 0, .bool false, .str [], .int .i64 0, .bool false, .str [], .sl (List.map Named.av []), .str [], .str [], .int .i64 0, .int .i64 0, .str [], .str [], .bool false, .str [], .str [], .bool false, .bool false, .bool false, .bool false, .bool false, .bool false, .bool false, .sl (List.map Civil.av []), .sl (List.map AV.str ([[98, 117, 121, 101, 114]])), .sl (List.map Item.av []), .int .i64 x55.Kind, .str x55.Name, .int .i64 x55.At, .str x55.Of, .str x55.Act, .int .i64 x55.Word, .int .i64 x55.Times, .int .i64 x55.Within.Days, .bool x55.Within.Business, .str x55.Within.Name, .int .i64 x55.Grace.Days, .bool x55.Grace.Business, .str x55.Grace.Name, .sl (List.map Named.av x55.Conds), .str x55.By, .str x55.Until, .int .i64 x55.Num.Num, .int .i64 x55.Num.Den, .str x55.Unit, .str x55.Sum, .bool x55.Final, .str x55.Give, .str x55.To, .bool x55.Days.e0, .bool x55.Days.e1, .bool x55.Days.e2, .bool x55.Days.e3, .bool x55.Days.e4, .bool x55.Days.e5, .bool x55.Days.e6, .sl (List.map Civil.av x55.Dates), .sl (List.map AV.str x55.Names), .sl (List.map Item.av x55.Items), .int .i64 6, .str [116, 101, 114, 109], .int .i64 0, .str [], .str [], .int .i64 0, .int .i64 0, .int .i64 5, .bool false, .str [], .int .i64 0, .bool false, .str [], .sl (List.map Named.av []), .str [], .str [], .int .i64 0, .int .i64 0, .str [], .str [], .bool false, .str [], .str [], .bool false, .bool false, .bool false, .bool false, .bool false, .bool false, .bool false, .sl (List.map Civil.av []), .sl (List.map AV.str []), .sl (List.map Item.av [])] from by simp only [flt, List.flatMap_cons, List.flatMap_nil, Item.av_eq, AV.cells, Item.cs_eq, List.cons_append, List.nil_append, List.append_nil]]; exact (.cons (.keep _) (.cons (.keep _) (.cons (.keep _) (.cons (.keep _) (.cons (.keep _) (.cons (.keep _) (.cons (.keep _) (.cons (.keep _) (.cons (.keep _) (.cons (.keep _) (.cons (.keep _) (.cons (.keep _) (.cons (.keep _) (.cons .nil (.cons (.keep _) (.cons (.keep _) (.cons (.keep _) (.cons (.keep _) (.cons (.keep _) (.cons (.keep _) (.cons (.keep _) (.cons (.keep _) (.cons (.keep _) (.cons (.keep _) (.cons (.keep _) (.cons (.keep _) (.cons (.keep _) (.cons (.keep _) (.cons (.keep _) (.cons (.keep _) (.cons .nil (.cons .nil (.cons .nil (.cons (.keep _) (.cons (.keep _) (.cons (.keep _) (.cons (.keep _) (.cons (.keep _) (.cons (.keep _) (.cons (.keep _) (.cons (.keep _) (.cons (.keep _) (.cons (.keep _) (.cons (.keep _) (.cons (.keep _) (.cons (.keep _) (.cons .nil (.cons (.keep _) (.cons (.keep _) (.cons (.keep _) (.cons (.keep _) (.cons (.keep _) (.cons (.keep _) (.cons (.keep _) (.cons (.keep _) (.cons (.keep _) (.cons (.keep _) (.cons (.keep _) (.cons (.keep _) (.cons (.keep _) (.cons (.keep _) (.cons (.keep _) (.cons (.keep _) (.cons .nil (.cons (.keep _) (.cons .nil (.cons (.keep _) (.cons (.keep _) (.cons (.keep _) (.cons (.keep _) (.cons (.keep _) (.cons (.keep _) (.cons (.keep _) (.cons (.keep _) (.cons (.keep _) (.cons (.keep _) (.cons (.keep _) (.cons (.keep _) (.cons (.keep _) (.cons (.keep _) (.cons (.keep _) (.cons (.keep _) (.cons (.keep _) (.cons (.keep _) (.cons (.keep _) (.cons (.keep _) (.cons (.keep _) (.cons (.keep _) (.cons (.keep _) (.cons (.keep _) (.cons (.keep _) (.cons (.keep _) (.cons (.keep _) (.cons (.keep _) (.cons (.keep _) (.cons (.keep _) (.cons (.keep _) (.cons (.keep _) (.cons (.keep _) (.cons (.keep _) (.cons (.keep _) (.cons (.keep _) (.cons (.keep _) (.cons (.keep _) (.cons (.keep _) (.cons (.keep _) (.cons (.keep _) (.cons (.keep _) (.cons (.keep _) (.cons (.keep _) (.cons (.keep _) (.cons (.keep _) (.cons .nil (.cons (.keep _) (.cons (.keep _) (.cons (.keep _) (.cons (.keep _) (.cons (.keep _) (.cons (.keep _) (.cons (.keep _) (.cons (.keep _) (.cons (.keep _) (.cons (.keep _) (.cons (.keep _) (.cons (.keep _) (.cons (.keep _) (.cons (.keep _) (.cons (.keep _) (.cons (.keep _) (.cons .nil (.cons .nil (.cons .nil (.nil _)))))))))))))))))))))))))))))))))))))))))))))))))))))))))))))))))))))))))))))))))))))))))))))))))))))))))))))))))))))))))))))))))))))) (by first | rfl | simp)) .nil))))))) .nil) (c11 N (({ Name := [], From := ({ Year := 0, Month := 0, Day := 0 } : Civil), Days := 0, Items := [({ Kind := 14, Name := [115, 50], At := 8, Of := [115, 97, 108, 101], Act := [], Word := 0, Times := 0, Within := ({ Days := 0, Business := false, Name := [] } : Span), Grace := ({ Days := 0, Business := false, Name := [] } : Span), Conds := [], By := [], Until := [], Num := ({ Num := 0, Den := 0 } : Ratio), Unit := [], Sum := [], Final := false, Give := [], To := [], Days := ({ e0 := false, e1 := false, e2 := false, e3 := false, e4 := false, e5 := false, e6 := false } : Arr7B), Dates := [], Names := [], Items := [] } : Item), ({ Kind := 14, Name := [115, 51], At := 9, Of := [108, 101, 97, 115, 101], Act := [], Word := 0, Times := 0, Within := ({ Days := 0, Business := false, Name := [] } : Span), Grace := ({ Days := 0, Business := false, Name := [] } : Span), Conds := [], By := [], Until := [], Num := ({ Num := 0, Den := 0 } : Ratio), Unit := [], Sum := [], Final := false, Give := [], To := [], Days := ({ e0 := false, e1 := false, e2 := false, e3 := false, e4 := false, e5 := false, e6 := false } : Arr7B), Dates := [], Names := [[98, 117, 121, 101, 114]], Items := [] } : Item), x55, ({ Kind := 6, Name := [116, 101, 114, 109], At := 0, Of := [], Act := [], Word := 0, Times := 0, Within := ({ Days := 5, Business := false, Name := [] } : Span), Grace := ({ Days := 0, Business := false, Name := [] } : Span), Conds := [], By := [], Until := [], Num := ({ Num := 0, Den := 0 } : Ratio), Unit := [], Sum := [], Final := false, Give := [], To := [], Days := ({ e0 := false, e1 := false, e2 := false, e3 := false, e4 := false, e5 := false, e6 := false } : Arr7B), Dates := [], Names := [], Items := [] } : Item)] } : Source)) x58 hx59) ?_
   simp -implicitDefEqProofs (disch := first | omega | rfl) only [go_sem, simprocAttr]
   refine hK _ _ ?_; clear hK K
   refine ⟨⟨x58.2, h⟩, ?_⟩
   refine ent_le' ([]) (_ :: _ :: _ :: _ :: _ :: []) (_ :: _ :: _ :: _ :: _ :: []) rfl (List.Perm.trans (List.Perm.cons _ (List.Perm.cons _ perm_cc)) (List.Perm.trans (List.Perm.cons _ perm_cc) (List.Perm.trans perm_cc (List.Perm.refl _)))) ?_ ?_
   · simp -implicitDefEqProofs (disch := first | omega | rfl) only [go_sem, simprocAttr, subF_cons, subF_nil]
     exact ⟨(.lptr ..), (.keep _), (.keep _)⟩
   · exact (.cell (.drop (.drop (.drop (.drop .nil)))))
 rintro ⟨l10, h⟩
 try dsimp only at h
 try dsimp only
 repeat refine awp_seq ?_
 rcases ite_some h with ⟨hc11, h⟩ | ⟨hc11, h⟩
 · refine awp_reg fun K Q hK hQ => ?_
   simp -implicitDefEqProofs (disch := first | omega | rfl) only [go_sem, simprocAttr, zr9_7, eq_true hc11]
   first | refine hK _ _ ?_ | (refine ⟨by assumption, ?_⟩; refine hK _ _ ?_)
   clear hK hQ K Q
   repeat refine awp_seq ?_
   refine awp_then (by rfl) ?_
   repeat refine awp_seq ?_
   refine rg (h := ?_)
   obtain rfl := som_inj h
   repeat refine awp_seq ?_
   refine awp_ret ?_
   repeat first | refine then_ret ?_ | refine blk_ret ?_
   exact rtp
 rcases ite_some h with ⟨hc12, h⟩ | ⟨hc12, h⟩
 · rcases ite_some h with ⟨hc13, h⟩ | ⟨hc13, h⟩
   · obtain ⟨hg14, h⟩ := grd_some h
     refine awp_reg fun K Q hK hQ => ?_
     simp -implicitDefEqProofs (disch := first | omega | rfl) only [go_sem, simprocAttr, zr9_7, eq_false hc11, eq_true hc12, eq_true hc13, eq_true hg14]
     first | refine hK _ _ ?_ | (refine ⟨by assumption, ?_⟩; refine hK _ _ ?_)
     clear hK hQ K Q
     rcases ite_some h with ⟨hc15, h⟩ | ⟨hc15, h⟩
     · repeat refine awp_seq ?_
       refine awp_else (by simp -implicitDefEqProofs (disch := first | omega | rfl) only [go_sem, simprocAttr, eq_true hc15]) ?_
       repeat refine awp_seq ?_
       refine awp_skip ?_
       repeat refine awp_seq ?_
       refine awp_cut (ι := {p : Nat × Nat // s9_k2 N x8 l10 = some r}) (fun p => [(8, .sl (List.map Fault.av l10)), (9, .ptr 9 p.1.1 0), (10, .ptr 10 p.1.2 0)]) (fun p => (9, p.1.1, .cells (Item.cs (x8.Items[0]!))) :: (10, p.1.2, .cells (Item.cs (x8.Items[1]!))) :: []) ?_ ?_
       · repeat refine awp_seq ?_
         refine awp_regD' (_ :: []) ([]) (_ :: []) (by rw [hP]; exact mixed) rfl (List.Perm.refl _) fun K hK => ?_
         obtain ⟨hg31, h⟩ := grd_some h
         simp -implicitDefEqProofs (disch := first | omega | rfl) only [go_sem, simprocAttr, zr9_9, eq_true hg14, eq_true hg31]
         refine runT_alts ⟨?_, ?_⟩
         · simp -implicitDefEqProofs (disch := first | omega | rfl) only [go_sem, simprocAttr]
           intro b32 b33
           refine hK _ _ ?_; clear hK K
           refine ⟨⟨⟨b32, b33⟩, h⟩, ?_⟩
           refine ent_le' ([]) (_ :: _ :: _ :: []) (_ :: _ :: _ :: []) rfl (List.Perm.trans (List.Perm.cons _ perm_cc) (List.Perm.trans perm_cc ((List.Perm.cons _ (List.Perm.trans perm_cc (List.Perm.refl _)))))) ?_ ?_
           · simp -implicitDefEqProofs (disch := first | omega | rfl) only [go_sem, simprocAttr, subF_cons, subF_nil]
             exact ⟨(.keep _), (.lptr ..), (.lptr ..)⟩
           · exact (.cell (.cell (.drop .nil)))
         simp -implicitDefEqProofs (disch := first | omega | rfl) only [go_sem, simprocAttr]
         intro b34 b35
         refine hK _ _ ?_; clear hK K
         refine ⟨⟨⟨b35, b34⟩, h⟩, ?_⟩
         refine ent_le' ([]) (_ :: _ :: _ :: []) (_ :: _ :: _ :: []) rfl (List.Perm.trans perm_cc ((List.Perm.cons _ (List.Perm.trans perm_cc (List.Perm.refl _))))) ?_ ?_
         · simp -implicitDefEqProofs (disch := first | omega | rfl) only [go_sem, simprocAttr, subF_cons, subF_nil]
           exact ⟨(.keep _), (.lptr ..), (.lptr ..)⟩
         · exact (.cell (.cell (.drop .nil)))
       rintro ⟨⟨b16, b17⟩, h⟩
       try dsimp only at h
       try dsimp only
       repeat refine awp_seq ?_
       refine awp_cut (ι := {p : Bool // s9_k1 N l10 p = some r}) (fun p => [(8, .sl (List.map Fault.av l10)), (11, .bool p.1)]) (fun p => []) ?_ ?_
       · repeat refine awp_seq ?_
         rcases ite_some h with ⟨hc23, h⟩ | ⟨hc23, h⟩
         · rcases ite_some h with ⟨hc24, h⟩ | ⟨hc24, h⟩
           · rcases cnd_some h with ⟨hc25, h⟩ | ⟨hc25, h⟩
             · obtain ⟨hg26, h⟩ := grd_some h
               rcases ite_some h with ⟨hc27, h⟩ | ⟨hc27, h⟩
               · rcases ite_some h with ⟨hc28, h⟩ | ⟨hc28, h⟩
                 · rcases ite_some h with ⟨hc29, h⟩ | ⟨hc29, h⟩
                   · rcases ite_some h with ⟨hc30, h⟩ | ⟨hc30, h⟩
                     · refine awp_reg fun K Q hK hQ => ?_
                       simp -implicitDefEqProofs (disch := first | omega | rfl) only [go_sem, simprocAttr, zr9_10, Span.cs_eq, eq_true hc23, eq_true hc24, hc25, eq_true hg26, eq_true hc27, eq_true hc28, eq_true hc29, eq_true hc30]
                       first | refine hK _ _ ?_ | (refine ⟨by assumption, ?_⟩; refine hK _ _ ?_)
                       clear hK hQ K Q
                       refine ⟨⟨(decide (((x8.Items[1]!).Within).Days = 3) && (((((x8.Items[1]!).Within).Business) == false) && (decide (((x8.Items[1]!).Within).Name = []) && true))), h⟩, ?_⟩
                       refine ent_le' ([]) (_ :: _ :: []) (_ :: _ :: []) rfl (List.Perm.refl _) ?_ ?_
                       · simp -implicitDefEqProofs (disch := first | omega | rfl) only [go_sem, simprocAttr, subF_cons, subF_nil]
                         exact ⟨(.keep _), (.keep _)⟩
                       · exact (.drop (.drop .nil))
                     refine awp_reg fun K Q hK hQ => ?_
                     simp -implicitDefEqProofs (disch := first | omega | rfl) only [go_sem, simprocAttr, zr9_10, Span.cs_eq, eq_true hc23, eq_true hc24, hc25, eq_true hg26, eq_true hc27, eq_true hc28, eq_true hc29, eq_false hc30]
                     first | refine hK _ _ ?_ | (refine ⟨by assumption, ?_⟩; refine hK _ _ ?_)
                     clear hK hQ K Q
                     refine ⟨⟨false, h⟩, ?_⟩
                     refine ent_le' ([]) (_ :: _ :: []) (_ :: _ :: []) rfl (List.Perm.refl _) ?_ ?_
                     · simp -implicitDefEqProofs (disch := first | omega | rfl) only [go_sem, simprocAttr, subF_cons, subF_nil]
                       exact ⟨(.keep _), (.keep _)⟩
                     · exact (.drop (.drop .nil))
                   refine awp_reg fun K Q hK hQ => ?_
                   simp -implicitDefEqProofs (disch := first | omega | rfl) only [go_sem, simprocAttr, zr9_10, Span.cs_eq, eq_true hc23, eq_true hc24, hc25, eq_true hg26, eq_true hc27, eq_true hc28, eq_false hc29]
                   first | refine hK _ _ ?_ | (refine ⟨by assumption, ?_⟩; refine hK _ _ ?_)
                   clear hK hQ K Q
                   refine ⟨⟨false, h⟩, ?_⟩
                   refine ent_le' ([]) (_ :: _ :: []) (_ :: _ :: []) rfl (List.Perm.refl _) ?_ ?_
                   · simp -implicitDefEqProofs (disch := first | omega | rfl) only [go_sem, simprocAttr, subF_cons, subF_nil]
                     exact ⟨(.keep _), (.keep _)⟩
                   · exact (.drop (.drop .nil))
                 refine awp_reg fun K Q hK hQ => ?_
                 simp -implicitDefEqProofs (disch := first | omega | rfl) only [go_sem, simprocAttr, zr9_10, Span.cs_eq, eq_true hc23, eq_true hc24, hc25, eq_true hg26, eq_true hc27, eq_false hc28]
                 first | refine hK _ _ ?_ | (refine ⟨by assumption, ?_⟩; refine hK _ _ ?_)
                 clear hK hQ K Q
                 refine ⟨⟨false, h⟩, ?_⟩
                 refine ent_le' ([]) (_ :: _ :: []) (_ :: _ :: []) rfl (List.Perm.refl _) ?_ ?_
                 · simp -implicitDefEqProofs (disch := first | omega | rfl) only [go_sem, simprocAttr, subF_cons, subF_nil]
                   exact ⟨(.keep _), (.keep _)⟩
                 · exact (.drop (.drop .nil))
               refine awp_reg fun K Q hK hQ => ?_
               simp -implicitDefEqProofs (disch := first | omega | rfl) only [go_sem, simprocAttr, zr9_10, Span.cs_eq, eq_true hc23, eq_true hc24, hc25, eq_true hg26, eq_false hc27]
               first | refine hK _ _ ?_ | (refine ⟨by assumption, ?_⟩; refine hK _ _ ?_)
               clear hK hQ K Q
               refine ⟨⟨false, h⟩, ?_⟩
               refine ent_le' ([]) (_ :: _ :: []) (_ :: _ :: []) rfl (List.Perm.refl _) ?_ ?_
               · simp -implicitDefEqProofs (disch := first | omega | rfl) only [go_sem, simprocAttr, subF_cons, subF_nil]
                 exact ⟨(.keep _), (.keep _)⟩
               · exact (.drop (.drop .nil))
             refine rg (by intro K Q; simp -implicitDefEqProofs (disch := first | omega | rfl) only [go_sem, simprocAttr, Span.cs_eq, eq_true hc23, eq_true hc24, hc25] <;> rfl) ?_
             refine ⟨⟨false, h⟩, ?_⟩
             refine ent_le' ([]) (_ :: _ :: []) (_ :: _ :: []) rfl (List.Perm.refl _) ?_ ?_
             · simp -implicitDefEqProofs (disch := first | omega | rfl) only [go_sem, simprocAttr, subF_cons, subF_nil]
               exact ⟨(.keep _), (.keep _)⟩
             · exact (.drop (.drop .nil))
           refine rg (by intro K Q; simp -implicitDefEqProofs (disch := first | omega | rfl) only [go_sem, simprocAttr, Span.cs_eq, eq_true hc23, eq_false hc24] <;> rfl) ?_
           refine ⟨⟨false, h⟩, ?_⟩
           refine ent_le' ([]) (_ :: _ :: []) (_ :: _ :: []) rfl (List.Perm.refl _) ?_ ?_
           · simp -implicitDefEqProofs (disch := first | omega | rfl) only [go_sem, simprocAttr, subF_cons, subF_nil]
             exact ⟨(.keep _), (.keep _)⟩
           · exact (.drop (.drop .nil))
         refine rg (by intro K Q; simp -implicitDefEqProofs (disch := first | omega | rfl) only [go_sem, simprocAttr, Span.cs_eq, eq_false hc23] <;> rfl) ?_
         refine ⟨⟨false, h⟩, ?_⟩
         refine ent_le' ([]) (_ :: _ :: []) (_ :: _ :: []) rfl (List.Perm.refl _) ?_ ?_
         · simp -implicitDefEqProofs (disch := first | omega | rfl) only [go_sem, simprocAttr, subF_cons, subF_nil]
           exact ⟨(.keep _), (.keep _)⟩
         · exact (.drop (.drop .nil))
       rintro ⟨x18, h⟩
       try dsimp only at h
       try dsimp only
       repeat refine awp_seq ?_
       rcases cnd_some h with ⟨hc19, h⟩ | ⟨hc19, h⟩
       · obtain ⟨hg20, h⟩ := grd_some h
         rcases cnd_some h with ⟨hc21, h⟩ | ⟨hc21, h⟩
         · obtain ⟨hg22, h⟩ := grd_some h
           refine awp_reg fun K Q hK hQ => ?_
           simp -implicitDefEqProofs (disch := first | omega | rfl) only [go_sem, simprocAttr, zr9_11, Fault.cs_eq, hc19, eq_true hg20, hc21, eq_true hg22]
           first | refine hK _ _ ?_ | (refine ⟨by assumption, ?_⟩; refine hK _ _ ?_)
           clear hK hQ K Q
           obtain rfl := som_inj h
           repeat refine awp_seq ?_
           refine awp_ret ?_
           repeat first | refine then_ret ?_ | refine blk_ret ?_
           exact rtp
         refine awp_reg fun K Q hK hQ => ?_
         simp -implicitDefEqProofs (disch := first | omega | rfl) only [go_sem, simprocAttr, zr9_11, Fault.cs_eq, hc19, eq_true hg20, hc21]
         first | refine hK _ _ ?_ | (refine ⟨by assumption, ?_⟩; refine hK _ _ ?_)
         clear hK hQ K Q
         obtain rfl := som_inj h
         repeat refine awp_seq ?_
         refine awp_ret ?_
         repeat first | refine then_ret ?_ | refine blk_ret ?_
         exact rtp
       refine rg (by intro K Q; simp -implicitDefEqProofs (disch := first | omega | rfl) only [go_sem, simprocAttr, Fault.cs_eq, hc19] <;> rfl) ?_
       obtain rfl := som_inj h
       repeat refine awp_seq ?_
       refine awp_ret ?_
       repeat first | refine then_ret ?_ | refine blk_ret ?_
       exact rtp
     repeat refine awp_seq ?_
     refine awp_then (by simp -implicitDefEqProofs (disch := first | omega | rfl) only [go_sem, simprocAttr, eq_false hc15]) ?_
     repeat refine awp_seq ?_
     refine rg (h := ?_)
     obtain rfl := som_inj h
     repeat refine awp_seq ?_
     refine awp_ret ?_
     repeat first | refine then_ret ?_ | refine blk_ret ?_
     exact rtp
   refine awp_reg fun K Q hK hQ => ?_
   simp -implicitDefEqProofs (disch := first | omega | rfl) only [go_sem, simprocAttr, zr9_7, eq_false hc11, eq_true hc12, eq_false hc13]
   first | refine hK _ _ ?_ | (refine ⟨by assumption, ?_⟩; refine hK _ _ ?_)
   clear hK hQ K Q
   repeat refine awp_seq ?_
   refine awp_then (by rfl) ?_
   repeat refine awp_seq ?_
   refine rg (h := ?_)
   obtain rfl := som_inj h
   repeat refine awp_seq ?_
   refine awp_ret ?_
   repeat first | refine then_ret ?_ | refine blk_ret ?_
   exact rtp
 refine awp_reg fun K Q hK hQ => ?_
 simp -implicitDefEqProofs (disch := first | omega | rfl) only [go_sem, simprocAttr, zr9_7, eq_false hc11, eq_false hc12]
 first | refine hK _ _ ?_ | (refine ⟨by assumption, ?_⟩; refine hK _ _ ?_)
 clear hK hQ K Q
 repeat refine awp_seq ?_
 refine awp_then (by rfl) ?_
 repeat refine awp_seq ?_
 refine rg (h := ?_)
 obtain rfl := som_inj h
 repeat refine awp_seq ?_
 refine awp_ret ?_
 repeat first | refine then_ret ?_ | refine blk_ret ?_
 exact rtp
end Go.Proofs.Inc
