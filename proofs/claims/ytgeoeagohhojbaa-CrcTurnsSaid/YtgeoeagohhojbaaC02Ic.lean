-- Printed by gen.py (wip/tools): the abstract code of each function, and that it fits the program.
import Derived.Test.YtgeoeagohhojbaaAs20
import Derived.Test.YtgeoeagohhojbaaRows
namespace Go.AS.C
open Go Go.Proofs
set_option maxRecDepth 100000
abbrev chantrylaw02_CrcSums : FuncId := 3
abbrev chantrylaw02_CrcSeals : FuncId := 4
abbrev chantrylaw02_CrcTurns : FuncId := 5
abbrev chantrylaw02_CrcOdd : FuncId := 6
abbrev chantrylaw02_awake : FuncId := 7
abbrev crc_Sum : FuncId := 8
abbrev chantryref02_Sum : FuncId := 9
abbrev crc_More : FuncId := 10
abbrev chantryref02_More : FuncId := 11
abbrev crc_Seal : FuncId := 12
abbrev crc_Open : FuncId := 13
abbrev chantryref02_Open : FuncId := 14
abbrev chantryref02_Seal : FuncId := 15
abbrev slices_Concat_byte_byte : FuncId := 16
abbrev crc_tail : FuncId := 17
abbrev slices_Equal_byte_byte : FuncId := 18
abbrev slices_Clone_byte_byte : FuncId := 19
abbrev slices_Grow_byte_byte : FuncId := 20
abbrev num_Fix : FuncId := 21
abbrev num_is : FuncId := 22

/-- chantry/chantrylaw02.CrcSums -/
noncomputable def ic_chantrylaw02_CrcSums : IC :=
  (.seq (.ops [
    ⟨(some 6), none, false, .mov (.const (.bool false))⟩]) (.seq (.seq (.ops [
    ⟨(some 8), none, false, .mov (.tmp 0)⟩,
    ⟨(some 9), none, false, .lens false (.tmp 8)⟩,
    ⟨(some 10), none, false, .bin .gtr (.tmp 9) (.const (.int .i64 2000))⟩,
    ⟨(some 11), none, false, .mov (.tmp 10)⟩,
    ⟨(some 12), (some (11, false)), false, .mov (.tmp 1)⟩,
    ⟨(some 13), (some (11, false)), false, .lens false (.tmp 12)⟩,
    ⟨(some 14), (some (11, false)), false, .bin .gtr (.tmp 13) (.const (.int .i64 2000))⟩,
    ⟨(some 15), none, false, .pick (.tmp 11) (.const (.bool true)) (.tmp 14)⟩]) (.cond (.tmp 15) (.seq (.ops [
    ⟨(some 16), none, false, .call chantrylaw02_awake []⟩,
    ⟨(some 6), none, false, .mov (.tmp 16)⟩]) .ret) .skip)) (.seq (.ops [
    ⟨(some 17), none, false, .mov (.tmp 0)⟩,
    ⟨(some 18), none, false, .call crc_Sum [(.tmp 17)]⟩,
    ⟨(some 7), none, false, .mov (.tmp 18)⟩]) (.seq (.ops [
    ⟨(some 19), none, false, .mov (.tmp 7)⟩,
    ⟨(some 20), none, false, .mov (.tmp 0)⟩,
    ⟨(some 21), none, false, .call chantryref02_Sum [(.tmp 20)]⟩,
    ⟨(some 22), none, false, .bin .eql (.tmp 19) (.tmp 21)⟩,
    ⟨(some 23), none, false, .mov (.tmp 22)⟩,
    ⟨(some 24), (some (23, true)), false, .mov (.tmp 7)⟩,
    ⟨(some 25), (some (23, true)), false, .mov (.tmp 1)⟩,
    ⟨(some 26), (some (23, true)), false, .call crc_More [(.tmp 24), (.tmp 25)]⟩,
    ⟨(some 27), (some (23, true)), false, .lit [.int .u8 0] 1 0 []⟩,
    ⟨(some 28), (some (23, true)), false, .mov (.tmp 0)⟩,
    ⟨(some 29), (some (23, true)), false, .app (.tmp 27) (.tmp 28) 1 1⟩,
    ⟨(some 30), (some (23, true)), false, .mov (.tmp 1)⟩,
    ⟨(some 31), (some (23, true)), false, .app (.tmp 29) (.tmp 30) 1 1⟩,
    ⟨(some 32), (some (23, true)), false, .call crc_Sum [(.tmp 31)]⟩,
    ⟨(some 33), (some (23, true)), false, .bin .eql (.tmp 26) (.tmp 32)⟩,
    ⟨(some 34), none, false, .pick (.tmp 23) (.tmp 33) (.const (.bool false))⟩,
    ⟨(some 35), none, false, .mov (.tmp 34)⟩,
    ⟨(some 36), (some (35, true)), false, .mov (.tmp 2)⟩,
    ⟨(some 37), (some (35, true)), false, .mov (.tmp 1)⟩,
    ⟨(some 38), (some (35, true)), false, .call crc_More [(.tmp 36), (.tmp 37)]⟩,
    ⟨(some 39), (some (35, true)), false, .mov (.tmp 2)⟩,
    ⟨(some 40), (some (35, true)), false, .mov (.tmp 1)⟩,
    ⟨(some 41), (some (35, true)), false, .call chantryref02_More [(.tmp 39), (.tmp 40)]⟩,
    ⟨(some 42), (some (35, true)), false, .bin .eql (.tmp 38) (.tmp 41)⟩,
    ⟨(some 43), none, false, .pick (.tmp 35) (.tmp 42) (.const (.bool false))⟩,
    ⟨(some 44), none, false, .mov (.tmp 43)⟩,
    ⟨(some 45), (some (44, true)), false, .call chantrylaw02_awake []⟩,
    ⟨(some 46), none, false, .pick (.tmp 44) (.tmp 45) (.const (.bool false))⟩,
    ⟨(some 6), none, false, .mov (.tmp 46)⟩]) .ret))))
theorem fits_chantrylaw02_CrcSums : Fits Try.prog 0 chantrylaw02_CrcSums ic_chantrylaw02_CrcSums [.tmp 6] 3 :=
  ⟨Try.f3, Try.func3, by decide, by kernel_rfl, by kernel_rfl⟩

/-- chantry/chantrylaw02.CrcSeals -/
noncomputable def ic_chantrylaw02_CrcSeals : IC :=
  (.seq (.ops [
    ⟨(some 4), none, false, .mov (.const (.bool false))⟩]) (.seq (.seq (.ops [
    ⟨(some 12), none, false, .mov (.tmp 0)⟩,
    ⟨(some 13), none, false, .lens false (.tmp 12)⟩,
    ⟨(some 14), none, false, .bin .gtr (.tmp 13) (.const (.int .i64 2000))⟩,
    ⟨(some 15), none, false, .mov (.tmp 14)⟩,
    ⟨(some 16), (some (15, false)), false, .mov (.tmp 1)⟩,
    ⟨(some 17), (some (15, false)), false, .lens false (.tmp 16)⟩,
    ⟨(some 18), (some (15, false)), false, .bin .gtr (.tmp 17) (.const (.int .i64 2000))⟩,
    ⟨(some 19), none, false, .pick (.tmp 15) (.const (.bool true)) (.tmp 18)⟩]) (.cond (.tmp 19) (.seq (.ops [
    ⟨(some 20), none, false, .call chantrylaw02_awake []⟩,
    ⟨(some 4), none, false, .mov (.tmp 20)⟩]) .ret) .skip)) (.seq (.ops [
    ⟨(some 21), none, false, .mov (.tmp 0)⟩,
    ⟨(some 22), none, false, .call crc_Seal [(.tmp 21)]⟩,
    ⟨(some 5), none, false, .mov (.tmp 22)⟩]) (.seq (.ops [
    ⟨(some 24), none, false, .mov (.tmp 5)⟩,
    ⟨(some 25), none, false, .call crc_Open [(.tmp 24)]⟩,
    ⟨(some 23), none, false, .mov (.tmp 25)⟩,
    ⟨(some 26), none, false, .ext (.tmp 23) 0⟩,
    ⟨(some 27), none, false, .ext (.tmp 23) 1⟩,
    ⟨(some 6), none, false, .mov (.tmp 26)⟩,
    ⟨(some 7), none, false, .mov (.tmp 27)⟩]) (.seq (.ops [
    ⟨(some 29), none, false, .mov (.tmp 1)⟩,
    ⟨(some 30), none, false, .call crc_Open [(.tmp 29)]⟩,
    ⟨(some 28), none, false, .mov (.tmp 30)⟩,
    ⟨(some 31), none, false, .ext (.tmp 28) 0⟩,
    ⟨(some 32), none, false, .ext (.tmp 28) 1⟩,
    ⟨(some 8), none, false, .mov (.tmp 31)⟩,
    ⟨(some 9), none, false, .mov (.tmp 32)⟩]) (.seq (.ops [
    ⟨(some 34), none, false, .mov (.tmp 1)⟩,
    ⟨(some 35), none, false, .call chantryref02_Open [(.tmp 34)]⟩,
    ⟨(some 33), none, false, .mov (.tmp 35)⟩,
    ⟨(some 36), none, false, .ext (.tmp 33) 0⟩,
    ⟨(some 37), none, false, .ext (.tmp 33) 1⟩,
    ⟨(some 10), none, false, .mov (.tmp 36)⟩,
    ⟨(some 11), none, false, .mov (.tmp 37)⟩]) (.seq (.draw [
    ⟨(some 38), none, false, .mov (.tmp 5)⟩,
    ⟨(some 39), none, false, .b2s (.tmp 38)⟩,
    ⟨(some 40), none, false, .mov (.tmp 0)⟩,
    ⟨(some 41), none, true, .call chantryref02_Seal [(.tmp 40)]⟩,
    ⟨(some 42), none, false, .b2s (.tmp 41)⟩,
    ⟨(some 43), none, false, .bin .eql (.tmp 39) (.tmp 42)⟩,
    ⟨(some 44), none, false, .mov (.tmp 43)⟩,
    ⟨(some 45), (some (44, true)), false, .mov (.tmp 7)⟩,
    ⟨(some 46), (some (44, true)), false, .bin .eql (.tmp 45) (.const (.int .i64 0))⟩,
    ⟨(some 47), none, false, .pick (.tmp 44) (.tmp 46) (.const (.bool false))⟩,
    ⟨(some 48), none, false, .mov (.tmp 47)⟩,
    ⟨(some 49), (some (48, true)), false, .mov (.tmp 6)⟩,
    ⟨(some 50), (some (48, true)), false, .b2s (.tmp 49)⟩,
    ⟨(some 51), (some (48, true)), false, .mov (.tmp 0)⟩,
    ⟨(some 52), (some (48, true)), false, .b2s (.tmp 51)⟩,
    ⟨(some 53), (some (48, true)), false, .bin .eql (.tmp 50) (.tmp 52)⟩,
    ⟨(some 54), none, false, .pick (.tmp 48) (.tmp 53) (.const (.bool false))⟩,
    ⟨(some 55), none, false, .mov (.tmp 54)⟩,
    ⟨(some 56), (some (55, true)), false, .mov (.tmp 9)⟩,
    ⟨(some 57), (some (55, true)), false, .mov (.tmp 11)⟩,
    ⟨(some 58), (some (55, true)), false, .bin .eql (.tmp 56) (.tmp 57)⟩,
    ⟨(some 59), none, false, .pick (.tmp 55) (.tmp 58) (.const (.bool false))⟩,
    ⟨(some 60), none, false, .mov (.tmp 59)⟩,
    ⟨(some 61), (some (60, true)), false, .mov (.tmp 8)⟩,
    ⟨(some 62), (some (60, true)), false, .b2s (.tmp 61)⟩,
    ⟨(some 63), (some (60, true)), false, .mov (.tmp 10)⟩,
    ⟨(some 64), (some (60, true)), false, .b2s (.tmp 63)⟩,
    ⟨(some 65), (some (60, true)), false, .bin .eql (.tmp 62) (.tmp 64)⟩,
    ⟨(some 66), none, false, .pick (.tmp 60) (.tmp 65) (.const (.bool false))⟩,
    ⟨(some 67), none, false, .mov (.tmp 66)⟩,
    ⟨(some 68), (some (67, true)), false, .call chantrylaw02_awake []⟩,
    ⟨(some 69), none, false, .pick (.tmp 67) (.tmp 68) (.const (.bool false))⟩,
    ⟨(some 4), none, false, .mov (.tmp 69)⟩]) .ret)))))))
theorem fits_chantrylaw02_CrcSeals : Fits Try.prog 0 chantrylaw02_CrcSeals ic_chantrylaw02_CrcSeals [.tmp 4] 2 :=
  ⟨Try.f4, Try.func4, by decide, by kernel_rfl, by kernel_rfl⟩

/-- chantry/chantrylaw02.CrcTurns -/
noncomputable def ic_chantrylaw02_CrcTurns : IC :=
  (.seq (.ops [
    ⟨(some 5), none, false, .box (.tmp 2)⟩,
    ⟨(some 6), none, false, .mov (.const (.bool false))⟩]) (.seq (.ops [
    ⟨(some 11), none, false, .mov (.tmp 0)⟩,
    ⟨(some 12), none, false, .call chantryref02_Seal [(.tmp 11)]⟩,
    ⟨(some 7), none, false, .mov (.tmp 12)⟩]) (.seq (.seq (.ops [
    ⟨(some 13), none, false, .mov (.tmp 0)⟩,
    ⟨(some 14), none, false, .lens false (.tmp 13)⟩,
    ⟨(some 15), none, false, .bin .gtr (.tmp 14) (.const (.int .i64 2000))⟩,
    ⟨(some 16), none, false, .mov (.tmp 15)⟩,
    ⟨(some 17), (some (16, false)), false, .mov (.tmp 1)⟩,
    ⟨(some 18), (some (16, false)), false, .bin .lss (.tmp 17) (.const (.int .i64 0))⟩,
    ⟨(some 19), none, false, .pick (.tmp 16) (.const (.bool true)) (.tmp 18)⟩,
    ⟨(some 20), none, false, .mov (.tmp 19)⟩,
    ⟨(some 21), (some (20, false)), false, .mov (.tmp 1)⟩,
    ⟨(some 22), (some (20, false)), false, .mov (.tmp 7)⟩,
    ⟨(some 23), (some (20, false)), false, .lens false (.tmp 22)⟩,
    ⟨(some 24), (some (20, false)), false, .bin .sub (.tmp 23) (.const (.int .i64 4))⟩,
    ⟨(some 25), (some (20, false)), false, .bin .gtr (.tmp 21) (.tmp 24)⟩,
    ⟨(some 26), none, false, .pick (.tmp 20) (.const (.bool true)) (.tmp 25)⟩,
    ⟨(some 27), none, false, .mov (.tmp 26)⟩,
    ⟨(some 28), (some (27, false)), false, .loadn (.tmp 5) 4⟩,
    ⟨(some 29), (some (27, false)), false, .build [.int .u8 0, .int .u8 0, .int .u8 0, .int .u8 0] []⟩,
    ⟨(some 30), (some (27, false)), false, .eqagg false (Try.prog.keyLits 8 33) (.tmp 28) (.tmp 29)⟩,
    ⟨(some 31), none, false, .pick (.tmp 27) (.const (.bool true)) (.tmp 30)⟩]) (.cond (.tmp 31) (.seq (.ops [
    ⟨(some 32), none, false, .call chantrylaw02_awake []⟩,
    ⟨(some 6), none, false, .mov (.tmp 32)⟩]) .ret) .skip)) (.seq (.seq (.ops [
    ⟨(some 8), none, false, .mov (.const (.int .i64 0))⟩]) (.block 0 (.loop (.seq (.seq (.ops [
    ⟨(some 33), none, false, .mov (.tmp 8)⟩,
    ⟨(some 34), none, false, .bin .lss (.tmp 33) (.const (.int .i64 4))⟩]) (.cond (.tmp 34) .skip (.exit 0))) (.seq (.block 1 (.draw [
    ⟨(some 37), none, false, .mov (.tmp 7)⟩,
    ⟨(some 38), none, false, .mov (.tmp 1)⟩,
    ⟨(some 39), none, false, .mov (.tmp 8)⟩,
    ⟨(some 40), none, false, .bin .add (.tmp 38) (.tmp 39)⟩,
    ⟨(some 41), none, false, .mov (.tmp 7)⟩,
    ⟨(some 42), none, false, .mov (.tmp 1)⟩,
    ⟨(some 43), none, false, .mov (.tmp 8)⟩,
    ⟨(some 44), none, false, .bin .add (.tmp 42) (.tmp 43)⟩,
    ⟨(some 45), none, false, .iaddr (.tmp 41) (.tmp 44) 1⟩,
    ⟨(some 46), none, false, .load1 (.tmp 45)⟩,
    ⟨(some 47), none, false, .mov (.tmp 8)⟩,
    ⟨(some 48), none, false, .iarr (.tmp 5) (.tmp 47) 4 1⟩,
    ⟨(some 49), none, false, .load1 (.tmp 48)⟩,
    ⟨(some 50), none, false, .bin .xor (.tmp 46) (.tmp 49)⟩,
    ⟨(some 51), none, false, .iaddr (.tmp 37) (.tmp 40) 1⟩,
    ⟨none, none, false, .store (.tmp 51) (.tmp 50) 1⟩])) (.ops [
    ⟨(some 35), none, false, .mov (.tmp 8)⟩,
    ⟨(some 36), none, false, .bin .add (.tmp 35) (.const (.int .i64 1))⟩,
    ⟨(some 8), none, false, .mov (.tmp 36)⟩])))))) (.seq (.ops [
    ⟨(some 53), none, false, .mov (.tmp 7)⟩,
    ⟨(some 54), none, false, .call crc_Open [(.tmp 53)]⟩,
    ⟨(some 52), none, false, .mov (.tmp 54)⟩,
    ⟨(some 55), none, false, .ext (.tmp 52) 0⟩,
    ⟨(some 56), none, false, .ext (.tmp 52) 1⟩,
    ⟨(some 9), none, false, .mov (.tmp 55)⟩,
    ⟨(some 10), none, false, .mov (.tmp 56)⟩]) (.seq (.ops [
    ⟨(some 57), none, false, .mov (.tmp 10)⟩,
    ⟨(some 58), none, false, .bin .eql (.tmp 57) (.const (.int .i64 12))⟩,
    ⟨(some 59), none, false, .mov (.tmp 58)⟩,
    ⟨(some 60), (some (59, true)), false, .mov (.tmp 9)⟩,
    ⟨(some 61), (some (59, true)), false, .lens false (.tmp 60)⟩,
    ⟨(some 62), (some (59, true)), false, .bin .eql (.tmp 61) (.const (.int .i64 0))⟩,
    ⟨(some 63), none, false, .pick (.tmp 59) (.tmp 62) (.const (.bool false))⟩,
    ⟨(some 64), none, false, .mov (.tmp 63)⟩,
    ⟨(some 65), (some (64, true)), false, .call chantrylaw02_awake []⟩,
    ⟨(some 66), none, false, .pick (.tmp 64) (.tmp 65) (.const (.bool false))⟩,
    ⟨(some 6), none, false, .mov (.tmp 66)⟩]) .ret))))))
theorem fits_chantrylaw02_CrcTurns : Fits Try.prog 0 chantrylaw02_CrcTurns ic_chantrylaw02_CrcTurns [.tmp 6] 3 :=
  ⟨Try.f5, Try.func5, by decide, by kernel_rfl, by kernel_rfl⟩

/-- chantry/chantrylaw02.CrcOdd -/
noncomputable def ic_chantrylaw02_CrcOdd : IC :=
  (.seq (.ops [
    ⟨(some 6), none, false, .mov (.const (.bool false))⟩]) (.seq (.seq (.ops [
    ⟨(some 9), none, false, .mov (.tmp 0)⟩,
    ⟨(some 10), none, false, .lens false (.tmp 9)⟩,
    ⟨(some 11), none, false, .bin .gtr (.tmp 10) (.const (.int .i64 500))⟩,
    ⟨(some 12), none, false, .mov (.tmp 11)⟩,
    ⟨(some 13), (some (12, false)), false, .mov (.tmp 1)⟩,
    ⟨(some 14), (some (12, false)), false, .lens false (.tmp 13)⟩,
    ⟨(some 15), (some (12, false)), false, .mov (.tmp 0)⟩,
    ⟨(some 16), (some (12, false)), false, .lens false (.tmp 15)⟩,
    ⟨(some 17), (some (12, false)), false, .bin .neq (.tmp 14) (.tmp 16)⟩,
    ⟨(some 18), none, false, .pick (.tmp 12) (.const (.bool true)) (.tmp 17)⟩,
    ⟨(some 19), none, false, .mov (.tmp 18)⟩,
    ⟨(some 20), (some (19, false)), false, .mov (.tmp 2)⟩,
    ⟨(some 21), (some (19, false)), false, .lens false (.tmp 20)⟩,
    ⟨(some 22), (some (19, false)), false, .mov (.tmp 0)⟩,
    ⟨(some 23), (some (19, false)), false, .lens false (.tmp 22)⟩,
    ⟨(some 24), (some (19, false)), false, .bin .neq (.tmp 21) (.tmp 23)⟩,
    ⟨(some 25), none, false, .pick (.tmp 19) (.const (.bool true)) (.tmp 24)⟩]) (.cond (.tmp 25) (.seq (.ops [
    ⟨(some 26), none, false, .call chantrylaw02_awake []⟩,
    ⟨(some 6), none, false, .mov (.tmp 26)⟩]) .ret) .skip)) (.seq (.ops [
    ⟨(some 7), none, false, .mov (.const (.slice none 0 0))⟩]) (.seq (.seq (.ops [
    ⟨(some 8), none, false, .mov (.const (.int .i64 0))⟩]) (.block 0 (.loop (.seq (.seq (.ops [
    ⟨(some 27), none, false, .mov (.tmp 8)⟩,
    ⟨(some 28), none, false, .mov (.tmp 0)⟩,
    ⟨(some 29), none, false, .lens false (.tmp 28)⟩,
    ⟨(some 30), none, false, .bin .lss (.tmp 27) (.tmp 29)⟩]) (.cond (.tmp 30) .skip (.exit 0))) (.seq (.block 1 (.draw [
    ⟨(some 33), none, false, .mov (.tmp 7)⟩,
    ⟨(some 34), none, false, .mov (.tmp 0)⟩,
    ⟨(some 35), none, false, .mov (.tmp 8)⟩,
    ⟨(some 36), none, false, .iaddr (.tmp 34) (.tmp 35) 1⟩,
    ⟨(some 37), none, false, .load1 (.tmp 36)⟩,
    ⟨(some 38), none, false, .mov (.tmp 1)⟩,
    ⟨(some 39), none, false, .mov (.tmp 8)⟩,
    ⟨(some 40), none, false, .iaddr (.tmp 38) (.tmp 39) 1⟩,
    ⟨(some 41), none, false, .load1 (.tmp 40)⟩,
    ⟨(some 42), none, false, .bin .xor (.tmp 37) (.tmp 41)⟩,
    ⟨(some 43), none, false, .mov (.tmp 2)⟩,
    ⟨(some 44), none, false, .mov (.tmp 8)⟩,
    ⟨(some 45), none, false, .iaddr (.tmp 43) (.tmp 44) 1⟩,
    ⟨(some 46), none, false, .load1 (.tmp 45)⟩,
    ⟨(some 47), none, false, .bin .xor (.tmp 42) (.tmp 46)⟩,
    ⟨(some 48), none, false, .lit [.int .u8 0] 1 1 [(0, 1, (.tmp 47))]⟩,
    ⟨(some 49), none, false, .app (.tmp 33) (.tmp 48) 1 1⟩,
    ⟨(some 7), none, false, .mov (.tmp 49)⟩])) (.ops [
    ⟨(some 31), none, false, .mov (.tmp 8)⟩,
    ⟨(some 32), none, false, .bin .add (.tmp 31) (.const (.int .i64 1))⟩,
    ⟨(some 8), none, false, .mov (.tmp 32)⟩])))))) (.seq (.ops [
    ⟨(some 50), none, false, .mov (.tmp 7)⟩,
    ⟨(some 51), none, false, .call crc_Sum [(.tmp 50)]⟩,
    ⟨(some 52), none, false, .mov (.tmp 0)⟩,
    ⟨(some 53), none, false, .call crc_Sum [(.tmp 52)]⟩,
    ⟨(some 54), none, false, .mov (.tmp 1)⟩,
    ⟨(some 55), none, false, .call crc_Sum [(.tmp 54)]⟩,
    ⟨(some 56), none, false, .bin .xor (.tmp 53) (.tmp 55)⟩,
    ⟨(some 57), none, false, .mov (.tmp 2)⟩,
    ⟨(some 58), none, false, .call crc_Sum [(.tmp 57)]⟩,
    ⟨(some 59), none, false, .bin .xor (.tmp 56) (.tmp 58)⟩,
    ⟨(some 60), none, false, .bin .eql (.tmp 51) (.tmp 59)⟩,
    ⟨(some 61), none, false, .mov (.tmp 60)⟩,
    ⟨(some 62), (some (61, true)), false, .call chantrylaw02_awake []⟩,
    ⟨(some 63), none, false, .pick (.tmp 61) (.tmp 62) (.const (.bool false))⟩,
    ⟨(some 6), none, false, .mov (.tmp 63)⟩]) .ret)))))
theorem fits_chantrylaw02_CrcOdd : Fits Try.prog 0 chantrylaw02_CrcOdd ic_chantrylaw02_CrcOdd [.tmp 6] 3 :=
  ⟨Try.f6, Try.func6, by decide, by kernel_rfl, by kernel_rfl⟩

/-- chantry/chantrylaw02.awake -/
noncomputable def ic_chantrylaw02_awake : IC :=
  (.seq (.ops [
    ⟨(some 0), none, false, .mov (.const (.bool false))⟩]) (.seq (.ops [
    ⟨(some 8), none, false, .lit [.int .u8 0] 1 2 [(0, 1, (.const (.int .u8 97))), (1, 1, (.const (.int .u8 98)))]⟩,
    ⟨(some 9), none, false, .mks (.tmp 8)⟩,
    ⟨(some 10), none, false, .call crc_Seal [(.tmp 9)]⟩,
    ⟨(some 11), none, false, .call crc_Open [(.tmp 10)]⟩,
    ⟨(some 7), none, false, .mov (.tmp 11)⟩,
    ⟨(some 12), none, false, .ext (.tmp 7) 0⟩,
    ⟨(some 13), none, false, .ext (.tmp 7) 1⟩,
    ⟨(some 1), none, false, .mov (.tmp 12)⟩,
    ⟨(some 2), none, false, .mov (.tmp 13)⟩]) (.seq (.ops [
    ⟨(some 15), none, false, .lit [.int .u8 0] 1 6 [(0, 1, (.const (.int .u8 97))), (1, 1, (.const (.int .u8 98))), (2, 1, (.const (.int .u8 99))), (3, 1, (.const (.int .u8 100))), (4, 1, (.const (.int .u8 101))), (5, 1, (.const (.int .u8 102)))]⟩,
    ⟨(some 16), none, false, .mks (.tmp 15)⟩,
    ⟨(some 17), none, false, .call crc_Open [(.tmp 16)]⟩,
    ⟨(some 14), none, false, .mov (.tmp 17)⟩,
    ⟨(some 18), none, false, .ext (.tmp 14) 0⟩,
    ⟨(some 19), none, false, .ext (.tmp 14) 1⟩,
    ⟨(some 3), none, false, .mov (.tmp 18)⟩,
    ⟨(some 4), none, false, .mov (.tmp 19)⟩]) (.seq (.ops [
    ⟨(some 21), none, false, .lit [.int .u8 0] 1 3 [(0, 1, (.const (.int .u8 97))), (1, 1, (.const (.int .u8 98))), (2, 1, (.const (.int .u8 99)))]⟩,
    ⟨(some 22), none, false, .mks (.tmp 21)⟩,
    ⟨(some 23), none, false, .call crc_Open [(.tmp 22)]⟩,
    ⟨(some 20), none, false, .mov (.tmp 23)⟩,
    ⟨(some 24), none, false, .ext (.tmp 20) 0⟩,
    ⟨(some 25), none, false, .ext (.tmp 20) 1⟩,
    ⟨(some 5), none, false, .mov (.tmp 24)⟩,
    ⟨(some 6), none, false, .mov (.tmp 25)⟩]) (.seq (.ops [
    ⟨(some 26), none, false, .lit [.int .u8 0] 1 9 [(0, 1, (.const (.int .u8 49))), (1, 1, (.const (.int .u8 50))), (2, 1, (.const (.int .u8 51))), (3, 1, (.const (.int .u8 52))), (4, 1, (.const (.int .u8 53))), (5, 1, (.const (.int .u8 54))), (6, 1, (.const (.int .u8 55))), (7, 1, (.const (.int .u8 56))), (8, 1, (.const (.int .u8 57)))]⟩,
    ⟨(some 27), none, false, .mks (.tmp 26)⟩,
    ⟨(some 28), none, false, .call crc_Sum [(.tmp 27)]⟩,
    ⟨(some 29), none, false, .bin .eql (.tmp 28) (.const (.int .u32 3808858755))⟩,
    ⟨(some 30), none, false, .mov (.tmp 29)⟩,
    ⟨(some 31), (some (30, true)), false, .lit [.int .u8 0] 1 4 [(0, 1, (.const (.int .u8 49))), (1, 1, (.const (.int .u8 50))), (2, 1, (.const (.int .u8 51))), (3, 1, (.const (.int .u8 52)))]⟩,
    ⟨(some 32), (some (30, true)), false, .mks (.tmp 31)⟩,
    ⟨(some 33), (some (30, true)), false, .call crc_Sum [(.tmp 32)]⟩,
    ⟨(some 34), (some (30, true)), false, .lit [.int .u8 0] 1 5 [(0, 1, (.const (.int .u8 53))), (1, 1, (.const (.int .u8 54))), (2, 1, (.const (.int .u8 55))), (3, 1, (.const (.int .u8 56))), (4, 1, (.const (.int .u8 57)))]⟩,
    ⟨(some 35), (some (30, true)), false, .mks (.tmp 34)⟩,
    ⟨(some 36), (some (30, true)), false, .call crc_More [(.tmp 33), (.tmp 35)]⟩,
    ⟨(some 37), (some (30, true)), false, .bin .eql (.tmp 36) (.const (.int .u32 3808858755))⟩,
    ⟨(some 38), none, false, .pick (.tmp 30) (.tmp 37) (.const (.bool false))⟩,
    ⟨(some 39), none, false, .mov (.tmp 38)⟩,
    ⟨(some 40), (some (39, true)), false, .mov (.tmp 1)⟩,
    ⟨(some 41), (some (39, true)), false, .b2s (.tmp 40)⟩,
    ⟨(some 42), (some (39, true)), false, .bin .eql (.tmp 41) (.const (.string ⟨#[97, 98]⟩))⟩,
    ⟨(some 43), none, false, .pick (.tmp 39) (.tmp 42) (.const (.bool false))⟩,
    ⟨(some 44), none, false, .mov (.tmp 43)⟩,
    ⟨(some 45), (some (44, true)), false, .mov (.tmp 2)⟩,
    ⟨(some 46), (some (44, true)), false, .bin .eql (.tmp 45) (.const (.int .i64 0))⟩,
    ⟨(some 47), none, false, .pick (.tmp 44) (.tmp 46) (.const (.bool false))⟩,
    ⟨(some 48), none, false, .mov (.tmp 47)⟩,
    ⟨(some 49), (some (48, true)), false, .mov (.tmp 4)⟩,
    ⟨(some 50), (some (48, true)), false, .bin .eql (.tmp 49) (.const (.int .i64 12))⟩,
    ⟨(some 51), none, false, .pick (.tmp 48) (.tmp 50) (.const (.bool false))⟩,
    ⟨(some 52), none, false, .mov (.tmp 51)⟩,
    ⟨(some 53), (some (52, true)), false, .mov (.tmp 6)⟩,
    ⟨(some 54), (some (52, true)), false, .bin .eql (.tmp 53) (.const (.int .i64 12))⟩,
    ⟨(some 55), none, false, .pick (.tmp 52) (.tmp 54) (.const (.bool false))⟩,
    ⟨(some 56), none, false, .mov (.tmp 55)⟩,
    ⟨(some 57), (some (56, true)), false, .call crc_Sum [(.const (.slice none 0 0))]⟩,
    ⟨(some 58), (some (56, true)), false, .bin .eql (.tmp 57) (.const (.int .u32 0))⟩,
    ⟨(some 59), none, false, .pick (.tmp 56) (.tmp 58) (.const (.bool false))⟩,
    ⟨(some 0), none, false, .mov (.tmp 59)⟩]) .ret)))))
theorem fits_chantrylaw02_awake : Fits Try.prog 0 chantrylaw02_awake ic_chantrylaw02_awake [.tmp 0] 0 :=
  ⟨Try.f7, Try.func7, by decide, by kernel_rfl, by kernel_rfl⟩

/-- chantry/crc.Sum -/
noncomputable def ic_crc_Sum : IC :=
  (.seq (.ops [
    ⟨(some 2), none, false, .mov (.const (.int .u32 0))⟩]) (.seq (.ops [
    ⟨(some 3), none, false, .mov (.tmp 0)⟩,
    ⟨(some 4), none, false, .call crc_More [(.const (.int .u32 0)), (.tmp 3)]⟩,
    ⟨(some 2), none, false, .mov (.tmp 4)⟩]) .ret))
theorem fits_crc_Sum : Fits Try.prog 0 crc_Sum ic_crc_Sum [.tmp 2] 1 :=
  ⟨Try.f8, Try.func8, by decide, by kernel_rfl, by kernel_rfl⟩

/-- chantry/chantryref02.Sum -/
noncomputable def ic_chantryref02_Sum : IC :=
  (.seq (.ops [
    ⟨(some 2), none, false, .mov (.const (.int .u32 0))⟩]) (.seq (.ops [
    ⟨(some 3), none, false, .mov (.tmp 0)⟩,
    ⟨(some 4), none, false, .call chantryref02_More [(.const (.int .u32 0)), (.tmp 3)]⟩,
    ⟨(some 2), none, false, .mov (.tmp 4)⟩]) .ret))
theorem fits_chantryref02_Sum : Fits Try.prog 0 chantryref02_Sum ic_chantryref02_Sum [.tmp 2] 1 :=
  ⟨Try.f9, Try.func9, by decide, by kernel_rfl, by kernel_rfl⟩

/-- chantry/crc.More -/
noncomputable def ic_crc_More : IC :=
  (.seq (.ops [
    ⟨(some 4), none, false, .mov (.const (.int .u32 0))⟩]) (.seq (.ops [
    ⟨(some 8), none, false, .mov (.tmp 0)⟩,
    ⟨(some 9), none, false, .un .xor (.tmp 8)⟩,
    ⟨(some 5), none, false, .mov (.tmp 9)⟩]) (.seq (.seq (.ops [
    ⟨(some 10), none, false, .mov (.tmp 1)⟩,
    ⟨(some 11), none, false, .lens false (.tmp 10)⟩,
    ⟨(some 12), none, false, .mov (.const (.int .i64 0))⟩]) (.block 0 (.loop (.seq (.ops [
    ⟨(some 13), none, false, .bin .lss (.tmp 12) (.tmp 11)⟩]) (.seq (.cond (.tmp 13) .skip (.exit 0)) (.seq (.block 1 (.seq (.ops [
    ⟨(some 14), none, false, .iaddr (.tmp 10) (.tmp 12) 1⟩,
    ⟨(some 15), none, false, .load1 (.tmp 14)⟩,
    ⟨(some 7), none, false, .mov (.tmp 15)⟩]) (.seq (.ops [
    ⟨(some 16), none, false, .mov (.tmp 5)⟩,
    ⟨(some 17), none, false, .mov (.tmp 7)⟩,
    ⟨(some 18), none, false, .conv .u32 (.tmp 17)⟩,
    ⟨(some 19), none, false, .bin .xor (.tmp 16) (.tmp 18)⟩,
    ⟨(some 5), none, false, .mov (.tmp 19)⟩]) (.seq (.ops [
    ⟨(some 20), none, false, .mov (.const (.int .i64 0))⟩]) (.block 2 (.loop (.seq (.ops [
    ⟨(some 21), none, false, .bin .lss (.tmp 20) (.const (.int .i64 8))⟩]) (.seq (.cond (.tmp 21) .skip (.exit 2)) (.seq (.block 3 (.ops [
    ⟨(some 22), none, false, .mov (.tmp 5)⟩,
    ⟨(some 23), none, false, .bin .shr (.tmp 22) (.const (.int .u64 1))⟩,
    ⟨(some 24), none, false, .mov (.tmp 5)⟩,
    ⟨(some 25), none, false, .bin .and (.tmp 24) (.const (.int .u32 1))⟩,
    ⟨(some 26), none, false, .un .neg (.tmp 25)⟩,
    ⟨(some 27), none, false, .bin .and (.const (.int .u32 2197175160)) (.tmp 26)⟩,
    ⟨(some 28), none, false, .bin .xor (.tmp 23) (.tmp 27)⟩,
    ⟨(some 5), none, false, .mov (.tmp 28)⟩])) (.ops [
    ⟨(some 29), none, false, .bin .add (.tmp 20) (.const (.int .i64 1))⟩,
    ⟨(some 20), none, false, .mov (.tmp 29)⟩])))))))))) (.ops [
    ⟨(some 30), none, false, .bin .add (.tmp 12) (.const (.int .i64 1))⟩,
    ⟨(some 12), none, false, .mov (.tmp 30)⟩]))))))) (.seq (.ops [
    ⟨(some 31), none, false, .mov (.tmp 5)⟩,
    ⟨(some 32), none, false, .un .xor (.tmp 31)⟩,
    ⟨(some 4), none, false, .mov (.tmp 32)⟩]) .ret))))
theorem fits_crc_More : Fits Try.prog 0 crc_More ic_crc_More [.tmp 4] 2 :=
  ⟨Try.f10, Try.func10, by decide, by kernel_rfl, by kernel_rfl⟩

/-- chantry/chantryref02.More -/
noncomputable def ic_chantryref02_More : IC :=
  (.seq (.ops [
    ⟨(some 4), none, false, .mov (.const (.int .u32 0))⟩]) (.seq (.ops [
    ⟨(some 9), none, false, .mov (.tmp 0)⟩,
    ⟨(some 10), none, false, .bin .xor (.tmp 9) (.const (.int .u32 4294967295))⟩,
    ⟨(some 5), none, false, .mov (.tmp 10)⟩]) (.seq (.seq (.ops [
    ⟨(some 6), none, false, .mov (.const (.int .i64 0))⟩]) (.block 0 (.loop (.seq (.seq (.ops [
    ⟨(some 11), none, false, .mov (.tmp 6)⟩,
    ⟨(some 12), none, false, .mov (.tmp 1)⟩,
    ⟨(some 13), none, false, .lens false (.tmp 12)⟩,
    ⟨(some 14), none, false, .bin .lss (.tmp 11) (.tmp 13)⟩]) (.cond (.tmp 14) .skip (.exit 0))) (.seq (.block 1 (.seq (.ops [
    ⟨(some 17), none, false, .mov (.tmp 5)⟩,
    ⟨(some 18), none, false, .mov (.tmp 1)⟩,
    ⟨(some 19), none, false, .mov (.tmp 6)⟩,
    ⟨(some 20), none, false, .iaddr (.tmp 18) (.tmp 19) 1⟩,
    ⟨(some 21), none, false, .load1 (.tmp 20)⟩,
    ⟨(some 22), none, false, .conv .u32 (.tmp 21)⟩,
    ⟨(some 23), none, false, .bin .xor (.tmp 17) (.tmp 22)⟩,
    ⟨(some 5), none, false, .mov (.tmp 23)⟩]) (.seq (.ops [
    ⟨(some 7), none, false, .mov (.const (.int .i64 0))⟩]) (.block 2 (.loop (.seq (.seq (.ops [
    ⟨(some 24), none, false, .mov (.tmp 7)⟩,
    ⟨(some 25), none, false, .bin .lss (.tmp 24) (.const (.int .i64 8))⟩]) (.cond (.tmp 25) .skip (.exit 2))) (.seq (.block 3 (.seq (.ops [
    ⟨(some 28), none, false, .mov (.tmp 5)⟩,
    ⟨(some 29), none, false, .bin .rem (.tmp 28) (.const (.int .u32 2))⟩,
    ⟨(some 8), none, false, .mov (.tmp 29)⟩]) (.seq (.ops [
    ⟨(some 30), none, false, .mov (.tmp 5)⟩,
    ⟨(some 31), none, false, .bin .quo (.tmp 30) (.const (.int .u32 2))⟩,
    ⟨(some 5), none, false, .mov (.tmp 31)⟩]) (.seq (.ops [
    ⟨(some 32), none, false, .mov (.tmp 8)⟩,
    ⟨(some 33), none, false, .bin .eql (.tmp 32) (.const (.int .u32 1))⟩]) (.cond (.tmp 33) (.ops [
    ⟨(some 34), none, false, .mov (.tmp 5)⟩,
    ⟨(some 35), none, false, .bin .xor (.tmp 34) (.const (.int .u32 2197175160))⟩,
    ⟨(some 5), none, false, .mov (.tmp 35)⟩]) .skip))))) (.ops [
    ⟨(some 26), none, false, .mov (.tmp 7)⟩,
    ⟨(some 27), none, false, .bin .add (.tmp 26) (.const (.int .i64 1))⟩,
    ⟨(some 7), none, false, .mov (.tmp 27)⟩])))))))) (.ops [
    ⟨(some 15), none, false, .mov (.tmp 6)⟩,
    ⟨(some 16), none, false, .bin .add (.tmp 15) (.const (.int .i64 1))⟩,
    ⟨(some 6), none, false, .mov (.tmp 16)⟩])))))) (.seq (.ops [
    ⟨(some 36), none, false, .mov (.tmp 5)⟩,
    ⟨(some 37), none, false, .bin .xor (.tmp 36) (.const (.int .u32 4294967295))⟩,
    ⟨(some 4), none, false, .mov (.tmp 37)⟩]) .ret))))
theorem fits_chantryref02_More : Fits Try.prog 0 chantryref02_More ic_chantryref02_More [.tmp 4] 2 :=
  ⟨Try.f11, Try.func11, by decide, by kernel_rfl, by kernel_rfl⟩

/-- chantry/crc.Seal -/
noncomputable def ic_crc_Seal : IC :=
  (.seq (.ops [
    ⟨(some 2), none, false, .mov (.const (.slice none 0 0))⟩]) (.seq (.ops [
    ⟨(some 3), none, false, .mov (.tmp 0)⟩,
    ⟨(some 4), none, false, .mov (.tmp 0)⟩,
    ⟨(some 5), none, false, .call crc_Sum [(.tmp 4)]⟩,
    ⟨(some 6), none, false, .call crc_tail [(.tmp 5)]⟩,
    ⟨(some 7), none, false, .lit [.slice none 0 0] 1 2 [(0, 1, (.tmp 3)), (1, 1, (.tmp 6))]⟩,
    ⟨(some 8), none, false, .call slices_Concat_byte_byte [(.tmp 7)]⟩,
    ⟨(some 2), none, false, .mov (.tmp 8)⟩]) .ret))
theorem fits_crc_Seal : Fits Try.prog 0 crc_Seal ic_crc_Seal [.tmp 2] 1 :=
  ⟨Try.f12, Try.func12, by decide, by kernel_rfl, by kernel_rfl⟩

/-- chantry/crc.Open -/
noncomputable def ic_crc_Open : IC :=
  (.seq (.ops [
    ⟨(some 2), none, false, .mov (.const (.slice none 0 0))⟩,
    ⟨(some 3), none, false, .mov (.const (.int .i64 0))⟩]) (.seq (.ops [
    ⟨(some 5), none, false, .mov (.tmp 0)⟩,
    ⟨(some 6), none, false, .lens false (.tmp 5)⟩,
    ⟨(some 7), none, false, .bin .sub (.tmp 6) (.const (.int .i64 4))⟩,
    ⟨(some 4), none, false, .mov (.tmp 7)⟩]) (.seq (.seq (.draw [
    ⟨(some 8), none, false, .mov (.tmp 4)⟩,
    ⟨(some 9), none, false, .bin .lss (.tmp 8) (.const (.int .i64 0))⟩,
    ⟨(some 10), none, false, .mov (.tmp 9)⟩,
    ⟨(some 11), (some (10, false)), false, .mov (.tmp 0)⟩,
    ⟨(some 12), (some (10, false)), false, .mov (.tmp 4)⟩,
    ⟨(some 13), (some (10, false)), false, .sll (.tmp 11) (some (.tmp 12)) none none 1⟩,
    ⟨(some 14), (some (10, false)), false, .mov (.tmp 0)⟩,
    ⟨(some 15), (some (10, false)), false, .mov (.tmp 4)⟩,
    ⟨(some 16), (some (10, false)), false, .sll (.tmp 14) none (some (.tmp 15)) none 1⟩,
    ⟨(some 17), (some (10, false)), true, .call crc_Sum [(.tmp 16)]⟩,
    ⟨(some 18), (some (10, false)), true, .call crc_tail [(.tmp 17)]⟩,
    ⟨(some 19), (some (10, false)), false, .call slices_Equal_byte_byte [(.tmp 13), (.tmp 18)]⟩,
    ⟨(some 20), (some (10, false)), false, .un .not (.tmp 19)⟩,
    ⟨(some 21), none, false, .pick (.tmp 10) (.const (.bool true)) (.tmp 20)⟩]) (.cond (.tmp 21) (.seq (.ops [
    ⟨(some 2), none, false, .mov (.const (.slice none 0 0))⟩,
    ⟨(some 3), none, false, .mov (.const (.int .i64 12))⟩]) .ret) .skip)) (.seq (.ops [
    ⟨(some 22), none, false, .mov (.tmp 0)⟩,
    ⟨(some 23), none, false, .mov (.tmp 4)⟩,
    ⟨(some 24), none, false, .sll (.tmp 22) none (some (.tmp 23)) none 1⟩,
    ⟨(some 25), none, false, .call slices_Clone_byte_byte [(.tmp 24)]⟩,
    ⟨(some 2), none, false, .mov (.tmp 25)⟩,
    ⟨(some 3), none, false, .mov (.const (.int .i64 0))⟩]) .ret))))
theorem fits_crc_Open : Fits Try.prog 0 crc_Open ic_crc_Open [.tmp 2, .tmp 3] 1 :=
  ⟨Try.f13, Try.func13, by decide, by kernel_rfl, by kernel_rfl⟩

/-- chantry/chantryref02.Open -/
noncomputable def ic_chantryref02_Open : IC :=
  (.seq (.ops [
    ⟨(some 2), none, false, .mov (.const (.slice none 0 0))⟩,
    ⟨(some 3), none, false, .mov (.const (.int .i64 0))⟩]) (.seq (.ops [
    ⟨(some 5), none, false, .mov (.tmp 0)⟩,
    ⟨(some 6), none, false, .lens false (.tmp 5)⟩,
    ⟨(some 7), none, false, .bin .sub (.tmp 6) (.const (.int .i64 4))⟩,
    ⟨(some 4), none, false, .mov (.tmp 7)⟩]) (.seq (.seq (.draw [
    ⟨(some 8), none, false, .mov (.tmp 4)⟩,
    ⟨(some 9), none, false, .bin .lss (.tmp 8) (.const (.int .i64 0))⟩,
    ⟨(some 10), none, false, .mov (.tmp 9)⟩,
    ⟨(some 11), (some (10, false)), false, .mov (.tmp 0)⟩,
    ⟨(some 12), (some (10, false)), false, .mov (.tmp 4)⟩,
    ⟨(some 13), (some (10, false)), false, .sll (.tmp 11) none (some (.tmp 12)) none 1⟩,
    ⟨(some 16), (some (10, false)), false, .mov (.tmp 0)⟩,
    ⟨(some 17), (some (10, false)), false, .b2s (.tmp 16)⟩,
    ⟨(some 14), (some (10, false)), true, .call chantryref02_Seal [(.tmp 13)]⟩,
    ⟨(some 15), (some (10, false)), false, .b2s (.tmp 14)⟩,
    ⟨(some 18), (some (10, false)), false, .bin .neq (.tmp 15) (.tmp 17)⟩,
    ⟨(some 19), none, false, .pick (.tmp 10) (.const (.bool true)) (.tmp 18)⟩]) (.cond (.tmp 19) (.seq (.ops [
    ⟨(some 2), none, false, .mov (.const (.slice none 0 0))⟩,
    ⟨(some 3), none, false, .mov (.const (.int .i64 12))⟩]) .ret) .skip)) (.seq (.ops [
    ⟨(some 20), none, false, .mov (.tmp 0)⟩,
    ⟨(some 21), none, false, .mov (.tmp 4)⟩,
    ⟨(some 22), none, false, .sll (.tmp 20) none (some (.tmp 21)) none 1⟩,
    ⟨(some 2), none, false, .mov (.tmp 22)⟩,
    ⟨(some 3), none, false, .mov (.const (.int .i64 0))⟩]) .ret))))
theorem fits_chantryref02_Open : Fits Try.prog 0 chantryref02_Open ic_chantryref02_Open [.tmp 2, .tmp 3] 1 :=
  ⟨Try.f14, Try.func14, by decide, by kernel_rfl, by kernel_rfl⟩

/-- chantry/chantryref02.Seal -/
noncomputable def ic_chantryref02_Seal : IC :=
  (.seq (.ops [
    ⟨(some 2), none, false, .mov (.const (.slice none 0 0))⟩]) (.seq (.ops [
    ⟨(some 4), none, false, .mov (.tmp 0)⟩,
    ⟨(some 5), none, false, .call chantryref02_Sum [(.tmp 4)]⟩,
    ⟨(some 3), none, false, .mov (.tmp 5)⟩]) (.seq (.ops [
    ⟨(some 6), none, false, .lit [.int .u8 0] 1 0 []⟩,
    ⟨(some 7), none, false, .mov (.tmp 0)⟩,
    ⟨(some 8), none, false, .app (.tmp 6) (.tmp 7) 1 1⟩,
    ⟨(some 9), none, false, .mov (.tmp 3)⟩,
    ⟨(some 10), none, false, .bin .rem (.tmp 9) (.const (.int .u32 256))⟩,
    ⟨(some 11), none, false, .conv .u8 (.tmp 10)⟩,
    ⟨(some 12), none, false, .mov (.tmp 3)⟩,
    ⟨(some 13), none, false, .bin .quo (.tmp 12) (.const (.int .u32 256))⟩,
    ⟨(some 14), none, false, .bin .rem (.tmp 13) (.const (.int .u32 256))⟩,
    ⟨(some 15), none, false, .conv .u8 (.tmp 14)⟩,
    ⟨(some 16), none, false, .mov (.tmp 3)⟩,
    ⟨(some 17), none, false, .bin .quo (.tmp 16) (.const (.int .u32 65536))⟩,
    ⟨(some 18), none, false, .bin .rem (.tmp 17) (.const (.int .u32 256))⟩,
    ⟨(some 19), none, false, .conv .u8 (.tmp 18)⟩,
    ⟨(some 20), none, false, .mov (.tmp 3)⟩,
    ⟨(some 21), none, false, .bin .quo (.tmp 20) (.const (.int .u32 16777216))⟩,
    ⟨(some 22), none, false, .conv .u8 (.tmp 21)⟩,
    ⟨(some 23), none, false, .lit [.int .u8 0] 1 4 [(0, 1, (.tmp 11)), (1, 1, (.tmp 15)), (2, 1, (.tmp 19)), (3, 1, (.tmp 22))]⟩,
    ⟨(some 24), none, false, .app (.tmp 8) (.tmp 23) 1 1⟩,
    ⟨(some 2), none, false, .mov (.tmp 24)⟩]) .ret)))
theorem fits_chantryref02_Seal : Fits Try.prog 0 chantryref02_Seal ic_chantryref02_Seal [.tmp 2] 1 :=
  ⟨Try.f15, Try.func15, by decide, by kernel_rfl, by kernel_rfl⟩

/-- slices.Concat[[]byte,byte] -/
noncomputable def ic_slices_Concat_byte_byte : IC :=
  (.seq (.ops [
    ⟨(some 2), none, false, .mov (.const (.slice none 0 0))⟩]) (.seq (.ops [
    ⟨(some 3), none, false, .mov (.const (.int .i64 0))⟩]) (.seq (.seq (.ops [
    ⟨(some 9), none, false, .mov (.tmp 0)⟩,
    ⟨(some 10), none, false, .lens false (.tmp 9)⟩,
    ⟨(some 11), none, false, .mov (.const (.int .i64 0))⟩]) (.block 0 (.loop (.seq (.ops [
    ⟨(some 12), none, false, .bin .lss (.tmp 11) (.tmp 10)⟩]) (.seq (.cond (.tmp 12) .skip (.exit 0)) (.seq (.block 1 (.seq (.ops [
    ⟨(some 13), none, false, .iaddr (.tmp 9) (.tmp 11) 1⟩,
    ⟨(some 14), none, false, .load1 (.tmp 13)⟩,
    ⟨(some 5), none, false, .mov (.tmp 14)⟩]) (.seq (.ops [
    ⟨(some 15), none, false, .mov (.tmp 3)⟩,
    ⟨(some 16), none, false, .mov (.tmp 5)⟩,
    ⟨(some 17), none, false, .lens false (.tmp 16)⟩,
    ⟨(some 18), none, false, .bin .add (.tmp 15) (.tmp 17)⟩,
    ⟨(some 3), none, false, .mov (.tmp 18)⟩]) (.seq (.ops [
    ⟨(some 19), none, false, .mov (.tmp 3)⟩,
    ⟨(some 20), none, false, .bin .lss (.tmp 19) (.const (.int .i64 0))⟩]) (.cond (.tmp 20) (.ops [
    ⟨(some 21), none, false, .ifc 9 (.const (.string ⟨#[108, 101, 110, 32, 111, 117, 116, 32, 111, 102, 32, 114, 97, 110, 103, 101]⟩))⟩,
    ⟨none, none, false, .fail⟩]) .skip))))) (.ops [
    ⟨(some 22), none, false, .bin .add (.tmp 11) (.const (.int .i64 1))⟩,
    ⟨(some 11), none, false, .mov (.tmp 22)⟩]))))))) (.seq (.ops [
    ⟨(some 23), none, false, .mov (.tmp 3)⟩,
    ⟨(some 24), none, false, .call slices_Grow_byte_byte [(.const (.slice none 0 0)), (.tmp 23)]⟩,
    ⟨(some 6), none, false, .mov (.tmp 24)⟩]) (.seq (.seq (.ops [
    ⟨(some 25), none, false, .mov (.tmp 0)⟩,
    ⟨(some 26), none, false, .lens false (.tmp 25)⟩,
    ⟨(some 27), none, false, .mov (.const (.int .i64 0))⟩]) (.block 2 (.loop (.seq (.ops [
    ⟨(some 28), none, false, .bin .lss (.tmp 27) (.tmp 26)⟩]) (.seq (.cond (.tmp 28) .skip (.exit 2)) (.seq (.block 3 (.seq (.ops [
    ⟨(some 29), none, false, .iaddr (.tmp 25) (.tmp 27) 1⟩,
    ⟨(some 30), none, false, .load1 (.tmp 29)⟩,
    ⟨(some 8), none, false, .mov (.tmp 30)⟩]) (.ops [
    ⟨(some 31), none, false, .mov (.tmp 6)⟩,
    ⟨(some 32), none, false, .mov (.tmp 8)⟩,
    ⟨(some 33), none, false, .app (.tmp 31) (.tmp 32) 1 1⟩,
    ⟨(some 6), none, false, .mov (.tmp 33)⟩]))) (.ops [
    ⟨(some 34), none, false, .bin .add (.tmp 27) (.const (.int .i64 1))⟩,
    ⟨(some 27), none, false, .mov (.tmp 34)⟩]))))))) (.seq (.ops [
    ⟨(some 35), none, false, .mov (.tmp 6)⟩,
    ⟨(some 2), none, false, .mov (.tmp 35)⟩]) .ret))))))
theorem fits_slices_Concat_byte_byte : Fits Try.prog 0 slices_Concat_byte_byte ic_slices_Concat_byte_byte [.tmp 2] 1 :=
  ⟨Try.f16, Try.func16, by decide, by kernel_rfl, by kernel_rfl⟩

/-- chantry/crc.tail -/
noncomputable def ic_crc_tail : IC :=
  (.seq (.ops [
    ⟨(some 2), none, false, .mov (.const (.slice none 0 0))⟩]) (.seq (.ops [
    ⟨(some 8), none, false, .mov (.tmp 0)⟩,
    ⟨(some 9), none, false, .bin .and (.tmp 8) (.const (.int .u32 65535))⟩,
    ⟨(some 10), none, false, .conv .i64 (.tmp 9)⟩,
    ⟨(some 11), none, false, .call num_Fix [(.tmp 10), (.const (.int .i64 2))]⟩,
    ⟨(some 7), none, false, .mov (.tmp 11)⟩,
    ⟨(some 12), none, false, .ext (.tmp 7) 0⟩,
    ⟨(some 13), none, false, .ext (.tmp 7) 1⟩,
    ⟨(some 3), none, false, .mov (.tmp 12)⟩,
    ⟨(some 4), none, false, .mov (.tmp 13)⟩]) (.seq (.ops [
    ⟨(some 15), none, false, .mov (.tmp 0)⟩,
    ⟨(some 16), none, false, .bin .shr (.tmp 15) (.const (.int .u64 16))⟩,
    ⟨(some 17), none, false, .conv .i64 (.tmp 16)⟩,
    ⟨(some 18), none, false, .call num_Fix [(.tmp 17), (.const (.int .i64 2))]⟩,
    ⟨(some 14), none, false, .mov (.tmp 18)⟩,
    ⟨(some 19), none, false, .ext (.tmp 14) 0⟩,
    ⟨(some 20), none, false, .ext (.tmp 14) 1⟩,
    ⟨(some 5), none, false, .mov (.tmp 19)⟩,
    ⟨(some 6), none, false, .mov (.tmp 20)⟩]) (.seq (.ops [
    ⟨(some 21), none, false, .mov (.tmp 3)⟩,
    ⟨(some 22), none, false, .mov (.tmp 5)⟩,
    ⟨(some 23), none, false, .lit [.slice none 0 0] 1 2 [(0, 1, (.tmp 21)), (1, 1, (.tmp 22))]⟩,
    ⟨(some 24), none, false, .call slices_Concat_byte_byte [(.tmp 23)]⟩,
    ⟨(some 2), none, false, .mov (.tmp 24)⟩]) .ret))))
theorem fits_crc_tail : Fits Try.prog 0 crc_tail ic_crc_tail [.tmp 2] 1 :=
  ⟨Try.f17, Try.func17, by decide, by kernel_rfl, by kernel_rfl⟩

/-- slices.Equal[[]byte,byte] -/
noncomputable def ic_slices_Equal_byte_byte : IC :=
  (.seq (.ops [
    ⟨(some 4), none, false, .mov (.const (.bool false))⟩]) (.seq (.seq (.ops [
    ⟨(some 6), none, false, .mov (.tmp 0)⟩,
    ⟨(some 7), none, false, .lens false (.tmp 6)⟩,
    ⟨(some 8), none, false, .mov (.tmp 1)⟩,
    ⟨(some 9), none, false, .lens false (.tmp 8)⟩,
    ⟨(some 10), none, false, .bin .neq (.tmp 7) (.tmp 9)⟩]) (.cond (.tmp 10) (.seq (.ops [
    ⟨(some 4), none, false, .mov (.const (.bool false))⟩]) .ret) .skip)) (.seq (.seq (.ops [
    ⟨(some 11), none, false, .mov (.tmp 0)⟩,
    ⟨(some 12), none, false, .lens false (.tmp 11)⟩,
    ⟨(some 13), none, false, .mov (.const (.int .i64 0))⟩]) (.block 0 (.loop (.seq (.ops [
    ⟨(some 14), none, false, .bin .lss (.tmp 13) (.tmp 12)⟩]) (.seq (.cond (.tmp 14) .skip (.exit 0)) (.seq (.block 1 (.seq (.ops [
    ⟨(some 15), none, false, .mov (.tmp 13)⟩,
    ⟨(some 5), none, false, .mov (.tmp 15)⟩]) (.seq (.draw [
    ⟨(some 16), none, false, .mov (.tmp 0)⟩,
    ⟨(some 17), none, false, .mov (.tmp 5)⟩,
    ⟨(some 18), none, false, .iaddr (.tmp 16) (.tmp 17) 1⟩,
    ⟨(some 19), none, false, .load1 (.tmp 18)⟩,
    ⟨(some 20), none, false, .mov (.tmp 1)⟩,
    ⟨(some 21), none, false, .mov (.tmp 5)⟩,
    ⟨(some 22), none, false, .iaddr (.tmp 20) (.tmp 21) 1⟩,
    ⟨(some 23), none, false, .load1 (.tmp 22)⟩,
    ⟨(some 24), none, false, .bin .neq (.tmp 19) (.tmp 23)⟩]) (.cond (.tmp 24) (.seq (.ops [
    ⟨(some 4), none, false, .mov (.const (.bool false))⟩]) .ret) .skip)))) (.ops [
    ⟨(some 25), none, false, .bin .add (.tmp 13) (.const (.int .i64 1))⟩,
    ⟨(some 13), none, false, .mov (.tmp 25)⟩]))))))) (.seq (.ops [
    ⟨(some 4), none, false, .mov (.const (.bool true))⟩]) .ret))))
theorem fits_slices_Equal_byte_byte : Fits Try.prog 0 slices_Equal_byte_byte ic_slices_Equal_byte_byte [.tmp 4] 2 :=
  ⟨Try.f18, Try.func18, by decide, by kernel_rfl, by kernel_rfl⟩

/-- slices.Clone[[]byte,byte] -/
noncomputable def ic_slices_Clone_byte_byte : IC :=
  (.seq (.ops [
    ⟨(some 2), none, false, .mov (.const (.slice none 0 0))⟩]) (.seq (.seq (.ops [
    ⟨(some 3), none, false, .mov (.tmp 0)⟩,
    ⟨(some 4), none, false, .isnil (.slice 5) (.tmp 3) false⟩]) (.cond (.tmp 4) (.seq (.ops [
    ⟨(some 2), none, false, .mov (.const (.slice none 0 0))⟩]) .ret) .skip)) (.seq (.ops [
    ⟨(some 5), none, false, .lit [.int .u8 0] 1 0 []⟩,
    ⟨(some 6), none, false, .mov (.tmp 0)⟩,
    ⟨(some 7), none, false, .app (.tmp 5) (.tmp 6) 1 1⟩,
    ⟨(some 2), none, false, .mov (.tmp 7)⟩]) .ret)))
theorem fits_slices_Clone_byte_byte : Fits Try.prog 0 slices_Clone_byte_byte ic_slices_Clone_byte_byte [.tmp 2] 1 :=
  ⟨Try.f19, Try.func19, by decide, by kernel_rfl, by kernel_rfl⟩

/-- slices.Grow[[]byte,byte] -/
noncomputable def ic_slices_Grow_byte_byte : IC :=
  (.seq (.ops [
    ⟨(some 4), none, false, .mov (.const (.slice none 0 0))⟩]) (.seq (.seq (.ops [
    ⟨(some 5), none, false, .mov (.tmp 1)⟩,
    ⟨(some 6), none, false, .bin .lss (.tmp 5) (.const (.int .i64 0))⟩]) (.cond (.tmp 6) (.ops [
    ⟨(some 7), none, false, .ifc 9 (.const (.string ⟨#[99, 97, 110, 110, 111, 116, 32, 98, 101, 32, 110, 101, 103, 97, 116, 105, 118, 101]⟩))⟩,
    ⟨none, none, false, .fail⟩]) .skip)) (.seq (.seq (.ops [
    ⟨(some 8), none, false, .mov (.tmp 1)⟩,
    ⟨(some 9), none, false, .mov (.tmp 0)⟩,
    ⟨(some 10), none, false, .capn (.tmp 9)⟩,
    ⟨(some 11), none, false, .mov (.tmp 0)⟩,
    ⟨(some 12), none, false, .lens false (.tmp 11)⟩,
    ⟨(some 13), none, false, .bin .sub (.tmp 10) (.tmp 12)⟩,
    ⟨(some 14), none, false, .bin .sub (.tmp 8) (.tmp 13)⟩,
    ⟨(some 1), none, false, .mov (.tmp 14)⟩]) (.seq (.ops [
    ⟨(some 15), none, false, .mov (.tmp 1)⟩,
    ⟨(some 16), none, false, .bin .gtr (.tmp 15) (.const (.int .i64 0))⟩]) (.cond (.tmp 16) (.ops [
    ⟨(some 17), none, false, .mov (.tmp 0)⟩,
    ⟨(some 18), none, false, .mov (.tmp 0)⟩,
    ⟨(some 19), none, false, .capn (.tmp 18)⟩,
    ⟨(some 20), none, false, .sll (.tmp 17) none (some (.tmp 19)) none 1⟩,
    ⟨(some 21), none, false, .mov (.tmp 1)⟩,
    ⟨(some 22), none, false, .appz (.tmp 20) (.tmp 21) [.int .u8 0] 1⟩,
    ⟨(some 23), none, false, .mov (.tmp 0)⟩,
    ⟨(some 24), none, false, .lens false (.tmp 23)⟩,
    ⟨(some 25), none, false, .sll (.tmp 22) none (some (.tmp 24)) none 1⟩,
    ⟨(some 0), none, false, .mov (.tmp 25)⟩]) .skip))) (.seq (.ops [
    ⟨(some 26), none, false, .mov (.tmp 0)⟩,
    ⟨(some 4), none, false, .mov (.tmp 26)⟩]) .ret))))
theorem fits_slices_Grow_byte_byte : Fits Try.prog 0 slices_Grow_byte_byte ic_slices_Grow_byte_byte [.tmp 4] 2 :=
  ⟨Try.f20, Try.func20, by decide, by kernel_rfl, by kernel_rfl⟩

/-- chantry/num.Fix -/
noncomputable def ic_num_Fix : IC :=
  (.seq (.ops [
    ⟨(some 4), none, false, .mov (.const (.slice none 0 0))⟩,
    ⟨(some 5), none, false, .mov (.const (.int .i64 0))⟩]) (.seq (.seq (.ops [
    ⟨(some 8), none, false, .mov (.tmp 1)⟩,
    ⟨(some 9), none, false, .bin .lss (.tmp 8) (.const (.int .i64 1))⟩,
    ⟨(some 10), none, false, .mov (.tmp 9)⟩,
    ⟨(some 11), (some (10, false)), false, .mov (.tmp 1)⟩,
    ⟨(some 12), (some (10, false)), false, .bin .gtr (.tmp 11) (.const (.int .i64 4))⟩,
    ⟨(some 13), none, false, .pick (.tmp 10) (.const (.bool true)) (.tmp 12)⟩,
    ⟨(some 14), none, false, .mov (.tmp 13)⟩,
    ⟨(some 15), (some (14, false)), false, .mov (.tmp 0)⟩,
    ⟨(some 16), (some (14, false)), false, .call num_is [(.tmp 15)]⟩,
    ⟨(some 17), (some (14, false)), false, .un .not (.tmp 16)⟩,
    ⟨(some 18), none, false, .pick (.tmp 14) (.const (.bool true)) (.tmp 17)⟩,
    ⟨(some 19), none, false, .mov (.tmp 18)⟩,
    ⟨(some 20), (some (19, false)), false, .mov (.tmp 0)⟩,
    ⟨(some 21), (some (19, false)), false, .mov (.tmp 1)⟩,
    ⟨(some 22), (some (19, false)), false, .bin .mul (.const (.int .i64 8)) (.tmp 21)⟩,
    ⟨(some 23), (some (19, false)), false, .bin .shr (.tmp 20) (.tmp 22)⟩,
    ⟨(some 24), (some (19, false)), false, .bin .gtr (.tmp 23) (.const (.int .i64 0))⟩,
    ⟨(some 25), none, false, .pick (.tmp 19) (.const (.bool true)) (.tmp 24)⟩]) (.cond (.tmp 25) (.seq (.ops [
    ⟨(some 4), none, false, .mov (.const (.slice none 0 0))⟩,
    ⟨(some 5), none, false, .mov (.const (.int .i64 1))⟩]) .ret) .skip)) (.seq (.ops [
    ⟨(some 26), none, false, .mov (.tmp 1)⟩,
    ⟨(some 27), none, false, .mk [.int .u8 0] 1 (.tmp 26) (.tmp 26)⟩,
    ⟨(some 6), none, false, .mov (.tmp 27)⟩]) (.seq (.seq (.ops [
    ⟨(some 28), none, false, .mov (.tmp 6)⟩,
    ⟨(some 29), none, false, .lens false (.tmp 28)⟩,
    ⟨(some 30), none, false, .mov (.const (.int .i64 0))⟩]) (.block 0 (.loop (.seq (.ops [
    ⟨(some 31), none, false, .bin .lss (.tmp 30) (.tmp 29)⟩]) (.seq (.cond (.tmp 31) .skip (.exit 0)) (.seq (.block 1 (.seq (.ops [
    ⟨(some 32), none, false, .mov (.tmp 30)⟩,
    ⟨(some 7), none, false, .mov (.tmp 32)⟩]) (.ops [
    ⟨(some 33), none, false, .mov (.tmp 6)⟩,
    ⟨(some 34), none, false, .mov (.tmp 7)⟩,
    ⟨(some 35), none, false, .mov (.tmp 0)⟩,
    ⟨(some 36), none, false, .mov (.tmp 7)⟩,
    ⟨(some 37), none, false, .bin .mul (.const (.int .i64 8)) (.tmp 36)⟩,
    ⟨(some 38), none, false, .bin .shr (.tmp 35) (.tmp 37)⟩,
    ⟨(some 39), none, false, .conv .u8 (.tmp 38)⟩,
    ⟨(some 40), none, false, .iaddr (.tmp 33) (.tmp 34) 1⟩,
    ⟨none, none, false, .store (.tmp 40) (.tmp 39) 1⟩]))) (.ops [
    ⟨(some 41), none, false, .bin .add (.tmp 30) (.const (.int .i64 1))⟩,
    ⟨(some 30), none, false, .mov (.tmp 41)⟩]))))))) (.seq (.ops [
    ⟨(some 42), none, false, .mov (.tmp 6)⟩,
    ⟨(some 4), none, false, .mov (.tmp 42)⟩,
    ⟨(some 5), none, false, .mov (.const (.int .i64 0))⟩]) .ret)))))
theorem fits_num_Fix : Fits Try.prog 0 num_Fix ic_num_Fix [.tmp 4, .tmp 5] 2 :=
  ⟨Try.f21, Try.func21, by decide, by kernel_rfl, by kernel_rfl⟩

/-- chantry/num.is -/
noncomputable def ic_num_is : IC :=
  (.seq (.ops [
    ⟨(some 2), none, false, .mov (.const (.bool false))⟩]) (.seq (.ops [
    ⟨(some 3), none, false, .mov (.tmp 0)⟩,
    ⟨(some 4), none, false, .bin .geq (.tmp 3) (.const (.int .i64 0))⟩,
    ⟨(some 5), none, false, .mov (.tmp 4)⟩,
    ⟨(some 6), (some (5, true)), false, .mov (.tmp 0)⟩,
    ⟨(some 7), (some (5, true)), false, .bin .leq (.tmp 6) (.const (.int .i64 2147483647))⟩,
    ⟨(some 8), none, false, .pick (.tmp 5) (.tmp 7) (.const (.bool false))⟩,
    ⟨(some 2), none, false, .mov (.tmp 8)⟩]) .ret))
theorem fits_num_is : Fits Try.prog 0 num_is ic_num_is [.tmp 2] 1 :=
  ⟨Try.f22, Try.func22, by decide, by kernel_rfl, by kernel_rfl⟩

end Go.AS.C
