/- Lemmas for the proof of a given statement; no conditions. -/
import Derived.Test.YtbnedbhfephkeaaM3
import Derived.Test.YtbnedbhfephkeaaRows
-- Printed by gen.py (wip/tools): the abstract code of each function, and that it fits the program.
namespace Go.AS.C
open Go Go.Proofs
set_option maxRecDepth 100000
abbrev chantrylaw32_JournalPuts : FuncId := 3
abbrev chantrylaw32_JournalGets : FuncId := 4
abbrev chantrylaw32_JournalCuts : FuncId := 5
abbrev chantrylaw32_awake : FuncId := 6
abbrev journal_Put : FuncId := 7
abbrev chantryref32_Put : FuncId := 8
abbrev journal_Get : FuncId := 9
abbrev journal_Size : FuncId := 10
abbrev chantryref01_Bytes : FuncId := 11
abbrev chantryref32_Get : FuncId := 12
abbrev chantryref32_Size : FuncId := 13
abbrev journal_check : FuncId := 14
abbrev journal_each_byte_int : FuncId := 15
abbrev journal_Put_1 : FuncId := 16
abbrev num_Put : FuncId := 17
abbrev slices_Concat_byte_byte : FuncId := 18
abbrev journal_each_byte_byte : FuncId := 19
abbrev journal_text : FuncId := 20
abbrev chantryref01_Put : FuncId := 21
abbrev chantryref01_Text : FuncId := 22
abbrev num_From : FuncId := 23
abbrev num_Cursor_Num : FuncId := 24
abbrev num_Cursor_Bad : FuncId := 25
abbrev num_Cursor_Text : FuncId := 26
abbrev num_Cursor_Left : FuncId := 27
abbrev journal_Get_1 : FuncId := 28
abbrev chantryref01_Num : FuncId := 29
abbrev chantryref01_From : FuncId := 30
abbrev chantryref01_TakeText : FuncId := 31
abbrev slices_IndexFunc_int_int : FuncId := 32
abbrev journal_check_1 : FuncId := 33
abbrev num_is : FuncId := 34
abbrev slices_Grow_byte_byte : FuncId := 35
abbrev num_Text : FuncId := 36
abbrev slices_Clone_byte_byte : FuncId := 37
abbrev num_Get : FuncId := 38
abbrev num_Cursor_fail : FuncId := 39
abbrev num_Cursor_Take : FuncId := 40
abbrev chantryref01_Get : FuncId := 41
abbrev chantryref01_spoilt : FuncId := 42
abbrev chantryref01_Take : FuncId := 43
abbrev runtime_boundsError_Error : FuncId := 44
abbrev runtime_boundsError_RuntimeError : FuncId := 45
abbrev runtime_errorString_Error : FuncId := 46
abbrev runtime_errorString_RuntimeError : FuncId := 47
abbrev runtime_plainError_Error : FuncId := 48
abbrev runtime_plainError_RuntimeError : FuncId := 49
abbrev runtime_errorAddressString_Error : FuncId := 50
abbrev runtime_errorAddressString_RuntimeError : FuncId := 51
abbrev runtime_TypeAssertionError_Error : FuncId := 52
abbrev runtime_TypeAssertionError_RuntimeError : FuncId := 53
abbrev runtime_PanicNilError_Error : FuncId := 54
abbrev runtime_PanicNilError_RuntimeError : FuncId := 55
abbrev internal_abi_Type_Align : FuncId := 56
abbrev internal_runtime_maps_unhashableTypeError_Error : FuncId := 57
abbrev internal_runtime_maps_unhashableTypeError_RuntimeError : FuncId := 58
abbrev internal_abi_Kind_String : FuncId := 59

/-- chantry/chantrylaw32.JournalPuts -/
noncomputable def ic_chantrylaw32_JournalPuts : IC :=
  (.seq (.ops [
    ⟨(some 2), none, false, .mov (.const (.bool false))⟩]) (.seq (.seq (.ops [
    ⟨(some 11), none, false, .mov (.tmp 0)⟩,
    ⟨(some 12), none, false, .lens false (.tmp 11)⟩,
    ⟨(some 13), none, false, .bin .gtr (.tmp 12) (.const (.int .i64 40))⟩]) (.cond (.tmp 13) (.seq (.ops [
    ⟨(some 14), none, false, .call chantrylaw32_awake []⟩,
    ⟨(some 2), none, false, .mov (.tmp 14)⟩]) .ret) .skip)) (.seq (.ops [
    ⟨(some 3), none, false, .mov (.const (.slice none 0 0))⟩]) (.seq (.seq (.ops [
    ⟨(some 4), none, false, .mov (.const (.int .i64 0))⟩]) (.block 0 (.loop (.seq (.seq (.ops [
    ⟨(some 15), none, false, .mov (.tmp 4)⟩,
    ⟨(some 16), none, false, .mov (.tmp 0)⟩,
    ⟨(some 17), none, false, .lens false (.tmp 16)⟩,
    ⟨(some 18), none, false, .bin .lss (.tmp 15) (.tmp 17)⟩]) (.cond (.tmp 18) .skip (.exit 0))) (.seq (.block 1 (.seq (.seq (.ops [
    ⟨(some 21), none, false, .mov (.tmp 0)⟩,
    ⟨(some 22), none, false, .mov (.tmp 4)⟩,
    ⟨(some 23), none, false, .iaddr (.tmp 21) (.tmp 22) 1⟩,
    ⟨(some 24), none, false, .load1 (.tmp 23)⟩,
    ⟨(some 25), none, false, .lens false (.tmp 24)⟩,
    ⟨(some 26), none, false, .bin .gtr (.tmp 25) (.const (.int .i64 500))⟩]) (.cond (.tmp 26) (.seq (.ops [
    ⟨(some 27), none, false, .call chantrylaw32_awake []⟩,
    ⟨(some 2), none, false, .mov (.tmp 27)⟩]) .ret) .skip)) (.ops [
    ⟨(some 28), none, false, .mov (.tmp 3)⟩,
    ⟨(some 29), none, false, .mov (.tmp 0)⟩,
    ⟨(some 30), none, false, .mov (.tmp 4)⟩,
    ⟨(some 31), none, false, .iaddr (.tmp 29) (.tmp 30) 1⟩,
    ⟨(some 32), none, false, .load1 (.tmp 31)⟩,
    ⟨(some 33), none, false, .lens false (.tmp 32)⟩,
    ⟨(some 34), none, false, .lit [.int .i64 0] 1 1 [(0, 1, (.tmp 33))]⟩,
    ⟨(some 35), none, false, .app (.tmp 28) (.tmp 34) 1 8⟩,
    ⟨(some 3), none, false, .mov (.tmp 35)⟩]))) (.ops [
    ⟨(some 19), none, false, .mov (.tmp 4)⟩,
    ⟨(some 20), none, false, .bin .add (.tmp 19) (.const (.int .i64 1))⟩,
    ⟨(some 4), none, false, .mov (.tmp 20)⟩])))))) (.seq (.ops [
    ⟨(some 37), none, false, .mov (.tmp 0)⟩,
    ⟨(some 38), none, false, .call journal_Put [(.tmp 37)]⟩,
    ⟨(some 36), none, false, .mov (.tmp 38)⟩,
    ⟨(some 39), none, false, .ext (.tmp 36) 0⟩,
    ⟨(some 40), none, false, .ext (.tmp 36) 1⟩,
    ⟨(some 5), none, false, .mov (.tmp 39)⟩,
    ⟨(some 6), none, false, .mov (.tmp 40)⟩]) (.seq (.ops [
    ⟨(some 42), none, false, .mov (.tmp 0)⟩,
    ⟨(some 43), none, false, .call chantryref32_Put [(.tmp 42)]⟩,
    ⟨(some 41), none, false, .mov (.tmp 43)⟩,
    ⟨(some 44), none, false, .ext (.tmp 41) 0⟩,
    ⟨(some 45), none, false, .ext (.tmp 41) 1⟩,
    ⟨(some 7), none, false, .mov (.tmp 44)⟩,
    ⟨(some 8), none, false, .mov (.tmp 45)⟩]) (.seq (.ops [
    ⟨(some 47), none, false, .mov (.tmp 5)⟩,
    ⟨(some 48), none, false, .call journal_Get [(.tmp 47)]⟩,
    ⟨(some 46), none, false, .mov (.tmp 48)⟩,
    ⟨(some 49), none, false, .ext (.tmp 46) 0⟩,
    ⟨(some 50), none, false, .ext (.tmp 46) 1⟩,
    ⟨(some 9), none, false, .mov (.tmp 49)⟩,
    ⟨(some 10), none, false, .mov (.tmp 50)⟩]) (.seq (.ops [
    ⟨(some 51), none, false, .mov (.tmp 5)⟩,
    ⟨(some 52), none, false, .b2s (.tmp 51)⟩,
    ⟨(some 53), none, false, .mov (.tmp 7)⟩,
    ⟨(some 54), none, false, .b2s (.tmp 53)⟩,
    ⟨(some 55), none, false, .bin .eql (.tmp 52) (.tmp 54)⟩,
    ⟨(some 56), none, false, .mov (.tmp 55)⟩,
    ⟨(some 57), (some (56, true)), false, .mov (.tmp 6)⟩,
    ⟨(some 58), (some (56, true)), false, .mov (.tmp 8)⟩,
    ⟨(some 59), (some (56, true)), false, .bin .eql (.tmp 57) (.tmp 58)⟩,
    ⟨(some 60), none, false, .pick (.tmp 56) (.tmp 59) (.const (.bool false))⟩,
    ⟨(some 61), none, false, .mov (.tmp 60)⟩,
    ⟨(some 62), (some (61, true)), false, .mov (.tmp 3)⟩,
    ⟨(some 63), (some (61, true)), false, .call journal_Size [(.tmp 62)]⟩,
    ⟨(some 64), (some (61, true)), false, .mov (.tmp 5)⟩,
    ⟨(some 65), (some (61, true)), false, .lens false (.tmp 64)⟩,
    ⟨(some 66), (some (61, true)), false, .bin .eql (.tmp 63) (.tmp 65)⟩,
    ⟨(some 67), none, false, .pick (.tmp 61) (.tmp 66) (.const (.bool false))⟩,
    ⟨(some 68), none, false, .mov (.tmp 67)⟩,
    ⟨(some 69), (some (68, true)), false, .mov (.tmp 6)⟩,
    ⟨(some 70), (some (68, true)), false, .bin .neq (.tmp 69) (.const (.int .i64 0))⟩,
    ⟨(some 71), (some (68, true)), false, .mov (.tmp 70)⟩,
    ⟨(some 72), (some (71, false)), false, .mov (.tmp 10)⟩,
    ⟨(some 73), (some (71, false)), false, .bin .eql (.tmp 72) (.const (.int .i64 0))⟩,
    ⟨(some 74), (some (71, false)), false, .mov (.tmp 73)⟩,
    ⟨(some 75), (some (74, true)), false, .mov (.tmp 9)⟩,
    ⟨(some 76), (some (74, true)), false, .mov (.tmp 0)⟩,
    ⟨(some 77), (some (74, true)), false, .call chantryref01_Bytes [(.tmp 75), (.tmp 76)]⟩,
    ⟨(some 78), (some (71, false)), false, .pick (.tmp 74) (.tmp 77) (.const (.bool false))⟩,
    ⟨(some 79), (some (68, true)), false, .pick (.tmp 71) (.const (.bool true)) (.tmp 78)⟩,
    ⟨(some 80), none, false, .pick (.tmp 68) (.tmp 79) (.const (.bool false))⟩,
    ⟨(some 81), none, false, .mov (.tmp 80)⟩,
    ⟨(some 82), (some (81, true)), false, .call chantrylaw32_awake []⟩,
    ⟨(some 83), none, false, .pick (.tmp 81) (.tmp 82) (.const (.bool false))⟩,
    ⟨(some 2), none, false, .mov (.tmp 83)⟩]) .ret))))))))
theorem fits_chantrylaw32_JournalPuts : Fits Try.prog 0 chantrylaw32_JournalPuts ic_chantrylaw32_JournalPuts [.tmp 2] 1 :=
  ⟨Try.f3, Try.func3, by decide, by kernel_rfl, by kernel_rfl⟩

/-- chantry/chantrylaw32.JournalGets -/
noncomputable def ic_chantrylaw32_JournalGets : IC :=
  (.seq (.ops [
    ⟨(some 4), none, false, .mov (.const (.bool false))⟩]) (.seq (.seq (.ops [
    ⟨(some 11), none, false, .mov (.tmp 0)⟩,
    ⟨(some 12), none, false, .lens false (.tmp 11)⟩,
    ⟨(some 13), none, false, .bin .gtr (.tmp 12) (.const (.int .i64 2000))⟩,
    ⟨(some 14), none, false, .mov (.tmp 13)⟩,
    ⟨(some 15), (some (14, false)), false, .mov (.tmp 1)⟩,
    ⟨(some 16), (some (14, false)), false, .lens false (.tmp 15)⟩,
    ⟨(some 17), (some (14, false)), false, .bin .gtr (.tmp 16) (.const (.int .i64 50))⟩,
    ⟨(some 18), none, false, .pick (.tmp 14) (.const (.bool true)) (.tmp 17)⟩]) (.cond (.tmp 18) (.seq (.ops [
    ⟨(some 19), none, false, .call chantrylaw32_awake []⟩,
    ⟨(some 4), none, false, .mov (.tmp 19)⟩]) .ret) .skip)) (.seq (.ops [
    ⟨(some 21), none, false, .mov (.tmp 0)⟩,
    ⟨(some 22), none, false, .call journal_Get [(.tmp 21)]⟩,
    ⟨(some 20), none, false, .mov (.tmp 22)⟩,
    ⟨(some 23), none, false, .ext (.tmp 20) 0⟩,
    ⟨(some 24), none, false, .ext (.tmp 20) 1⟩,
    ⟨(some 5), none, false, .mov (.tmp 23)⟩,
    ⟨(some 6), none, false, .mov (.tmp 24)⟩]) (.seq (.ops [
    ⟨(some 26), none, false, .mov (.tmp 0)⟩,
    ⟨(some 27), none, false, .call chantryref32_Get [(.tmp 26)]⟩,
    ⟨(some 25), none, false, .mov (.tmp 27)⟩,
    ⟨(some 28), none, false, .ext (.tmp 25) 0⟩,
    ⟨(some 29), none, false, .ext (.tmp 25) 1⟩,
    ⟨(some 7), none, false, .mov (.tmp 28)⟩,
    ⟨(some 8), none, false, .mov (.tmp 29)⟩]) (.seq (.ops [
    ⟨(some 31), none, false, .mov (.tmp 5)⟩,
    ⟨(some 32), none, false, .call journal_Put [(.tmp 31)]⟩,
    ⟨(some 30), none, false, .mov (.tmp 32)⟩,
    ⟨(some 33), none, false, .ext (.tmp 30) 0⟩,
    ⟨(some 34), none, false, .ext (.tmp 30) 1⟩,
    ⟨(some 9), none, false, .mov (.tmp 33)⟩,
    ⟨(some 10), none, false, .mov (.tmp 34)⟩]) (.seq (.ops [
    ⟨(some 35), none, false, .mov (.tmp 5)⟩,
    ⟨(some 36), none, false, .mov (.tmp 7)⟩,
    ⟨(some 37), none, false, .call chantryref01_Bytes [(.tmp 35), (.tmp 36)]⟩,
    ⟨(some 38), none, false, .mov (.tmp 37)⟩,
    ⟨(some 39), (some (38, true)), false, .mov (.tmp 6)⟩,
    ⟨(some 40), (some (38, true)), false, .mov (.tmp 8)⟩,
    ⟨(some 41), (some (38, true)), false, .bin .eql (.tmp 39) (.tmp 40)⟩,
    ⟨(some 42), none, false, .pick (.tmp 38) (.tmp 41) (.const (.bool false))⟩,
    ⟨(some 43), none, false, .mov (.tmp 42)⟩,
    ⟨(some 44), (some (43, true)), false, .mov (.tmp 6)⟩,
    ⟨(some 45), (some (43, true)), false, .bin .neq (.tmp 44) (.const (.int .i64 0))⟩,
    ⟨(some 46), (some (43, true)), false, .mov (.tmp 45)⟩,
    ⟨(some 47), (some (46, false)), false, .mov (.tmp 10)⟩,
    ⟨(some 48), (some (46, false)), false, .bin .eql (.tmp 47) (.const (.int .i64 0))⟩,
    ⟨(some 49), (some (46, false)), false, .mov (.tmp 48)⟩,
    ⟨(some 50), (some (49, true)), false, .mov (.tmp 9)⟩,
    ⟨(some 51), (some (49, true)), false, .b2s (.tmp 50)⟩,
    ⟨(some 52), (some (49, true)), false, .mov (.tmp 0)⟩,
    ⟨(some 53), (some (49, true)), false, .b2s (.tmp 52)⟩,
    ⟨(some 54), (some (49, true)), false, .bin .eql (.tmp 51) (.tmp 53)⟩,
    ⟨(some 55), (some (46, false)), false, .pick (.tmp 49) (.tmp 54) (.const (.bool false))⟩,
    ⟨(some 56), (some (43, true)), false, .pick (.tmp 46) (.const (.bool true)) (.tmp 55)⟩,
    ⟨(some 57), none, false, .pick (.tmp 43) (.tmp 56) (.const (.bool false))⟩,
    ⟨(some 58), none, false, .mov (.tmp 57)⟩,
    ⟨(some 59), (some (58, true)), false, .mov (.tmp 1)⟩,
    ⟨(some 60), (some (58, true)), false, .call journal_Size [(.tmp 59)]⟩,
    ⟨(some 61), (some (58, true)), false, .mov (.tmp 1)⟩,
    ⟨(some 62), (some (58, true)), false, .call chantryref32_Size [(.tmp 61)]⟩,
    ⟨(some 63), (some (58, true)), false, .bin .eql (.tmp 60) (.tmp 62)⟩,
    ⟨(some 64), none, false, .pick (.tmp 58) (.tmp 63) (.const (.bool false))⟩,
    ⟨(some 65), none, false, .mov (.tmp 64)⟩,
    ⟨(some 66), (some (65, true)), false, .call chantrylaw32_awake []⟩,
    ⟨(some 67), none, false, .pick (.tmp 65) (.tmp 66) (.const (.bool false))⟩,
    ⟨(some 4), none, false, .mov (.tmp 67)⟩]) .ret))))))
theorem fits_chantrylaw32_JournalGets : Fits Try.prog 0 chantrylaw32_JournalGets ic_chantrylaw32_JournalGets [.tmp 4] 2 :=
  ⟨Try.f4, Try.func4, by decide, by kernel_rfl, by kernel_rfl⟩

/-- chantry/chantrylaw32.JournalCuts -/
noncomputable def ic_chantrylaw32_JournalCuts : IC :=
  (.seq (.ops [
    ⟨(some 4), none, false, .mov (.const (.bool false))⟩]) (.seq (.seq (.ops [
    ⟨(some 10), none, false, .mov (.tmp 0)⟩,
    ⟨(some 11), none, false, .lens false (.tmp 10)⟩,
    ⟨(some 12), none, false, .bin .gtr (.tmp 11) (.const (.int .i64 32))⟩]) (.cond (.tmp 12) (.seq (.ops [
    ⟨(some 13), none, false, .call chantrylaw32_awake []⟩,
    ⟨(some 4), none, false, .mov (.tmp 13)⟩]) .ret) .skip)) (.seq (.seq (.ops [
    ⟨(some 5), none, false, .mov (.const (.int .i64 0))⟩]) (.block 0 (.loop (.seq (.seq (.ops [
    ⟨(some 14), none, false, .mov (.tmp 5)⟩,
    ⟨(some 15), none, false, .mov (.tmp 0)⟩,
    ⟨(some 16), none, false, .lens false (.tmp 15)⟩,
    ⟨(some 17), none, false, .bin .lss (.tmp 14) (.tmp 16)⟩]) (.cond (.tmp 17) .skip (.exit 0))) (.seq (.block 1 (.seq (.ops [
    ⟨(some 20), none, false, .mov (.tmp 0)⟩,
    ⟨(some 21), none, false, .mov (.tmp 5)⟩,
    ⟨(some 22), none, false, .iaddr (.tmp 20) (.tmp 21) 1⟩,
    ⟨(some 23), none, false, .load1 (.tmp 22)⟩,
    ⟨(some 24), none, false, .lens false (.tmp 23)⟩,
    ⟨(some 25), none, false, .bin .gtr (.tmp 24) (.const (.int .i64 500))⟩]) (.cond (.tmp 25) (.seq (.ops [
    ⟨(some 26), none, false, .call chantrylaw32_awake []⟩,
    ⟨(some 4), none, false, .mov (.tmp 26)⟩]) .ret) .skip))) (.ops [
    ⟨(some 18), none, false, .mov (.tmp 5)⟩,
    ⟨(some 19), none, false, .bin .add (.tmp 18) (.const (.int .i64 1))⟩,
    ⟨(some 5), none, false, .mov (.tmp 19)⟩])))))) (.seq (.ops [
    ⟨(some 28), none, false, .mov (.tmp 0)⟩,
    ⟨(some 29), none, false, .call chantryref32_Put [(.tmp 28)]⟩,
    ⟨(some 27), none, false, .mov (.tmp 29)⟩,
    ⟨(some 30), none, false, .ext (.tmp 27) 0⟩,
    ⟨(some 31), none, false, .ext (.tmp 27) 1⟩,
    ⟨(some 6), none, false, .mov (.tmp 30)⟩,
    ⟨(some 7), none, false, .mov (.tmp 31)⟩]) (.seq (.seq (.ops [
    ⟨(some 32), none, false, .mov (.tmp 7)⟩,
    ⟨(some 33), none, false, .bin .neq (.tmp 32) (.const (.int .i64 0))⟩,
    ⟨(some 34), none, false, .mov (.tmp 33)⟩,
    ⟨(some 35), (some (34, false)), false, .mov (.tmp 1)⟩,
    ⟨(some 36), (some (34, false)), false, .bin .lss (.tmp 35) (.const (.int .i64 0))⟩,
    ⟨(some 37), none, false, .pick (.tmp 34) (.const (.bool true)) (.tmp 36)⟩,
    ⟨(some 38), none, false, .mov (.tmp 37)⟩,
    ⟨(some 39), (some (38, false)), false, .mov (.tmp 1)⟩,
    ⟨(some 40), (some (38, false)), false, .mov (.tmp 6)⟩,
    ⟨(some 41), (some (38, false)), false, .lens false (.tmp 40)⟩,
    ⟨(some 42), (some (38, false)), false, .bin .geq (.tmp 39) (.tmp 41)⟩,
    ⟨(some 43), none, false, .pick (.tmp 38) (.const (.bool true)) (.tmp 42)⟩]) (.cond (.tmp 43) (.seq (.ops [
    ⟨(some 44), none, false, .call chantrylaw32_awake []⟩,
    ⟨(some 4), none, false, .mov (.tmp 44)⟩]) .ret) .skip)) (.seq (.ops [
    ⟨(some 46), none, false, .mov (.tmp 6)⟩,
    ⟨(some 47), none, false, .mov (.tmp 1)⟩,
    ⟨(some 48), none, false, .sll (.tmp 46) none (some (.tmp 47)) none 1⟩,
    ⟨(some 49), none, false, .call journal_Get [(.tmp 48)]⟩,
    ⟨(some 45), none, false, .mov (.tmp 49)⟩,
    ⟨(some 50), none, false, .ext (.tmp 45) 0⟩,
    ⟨(some 51), none, false, .ext (.tmp 45) 1⟩,
    ⟨(some 8), none, false, .mov (.tmp 50)⟩,
    ⟨(some 9), none, false, .mov (.tmp 51)⟩]) (.seq (.ops [
    ⟨(some 52), none, false, .mov (.tmp 9)⟩,
    ⟨(some 53), none, false, .bin .eql (.tmp 52) (.const (.int .i64 5))⟩,
    ⟨(some 54), none, false, .mov (.tmp 53)⟩,
    ⟨(some 55), (some (54, true)), false, .call chantrylaw32_awake []⟩,
    ⟨(some 56), none, false, .pick (.tmp 54) (.tmp 55) (.const (.bool false))⟩,
    ⟨(some 4), none, false, .mov (.tmp 56)⟩]) .ret)))))))
theorem fits_chantrylaw32_JournalCuts : Fits Try.prog 0 chantrylaw32_JournalCuts ic_chantrylaw32_JournalCuts [.tmp 4] 2 :=
  ⟨Try.f5, Try.func5, by decide, by kernel_rfl, by kernel_rfl⟩

/-- chantry/chantrylaw32.awake -/
noncomputable def ic_chantrylaw32_awake : IC :=
  (.seq (.ops [
    ⟨(some 0), none, false, .mov (.const (.bool false))⟩]) (.seq (.ops [
    ⟨(some 16), none, false, .lit [.int .u8 0] 1 1 [(0, 1, (.const (.int .u8 97)))]⟩,
    ⟨(some 17), none, false, .mks (.tmp 16)⟩,
    ⟨(some 18), none, false, .lit [.int .u8 0] 1 2 [(0, 1, (.const (.int .u8 98))), (1, 1, (.const (.int .u8 99)))]⟩,
    ⟨(some 19), none, false, .mks (.tmp 18)⟩,
    ⟨(some 20), none, false, .lit [.slice none 0 0] 1 2 [(0, 1, (.tmp 17)), (1, 1, (.tmp 19))]⟩,
    ⟨(some 21), none, false, .call journal_Put [(.tmp 20)]⟩,
    ⟨(some 15), none, false, .mov (.tmp 21)⟩,
    ⟨(some 22), none, false, .ext (.tmp 15) 0⟩,
    ⟨(some 23), none, false, .ext (.tmp 15) 1⟩,
    ⟨(some 1), none, false, .mov (.tmp 22)⟩,
    ⟨(some 2), none, false, .mov (.tmp 23)⟩]) (.seq (.ops [
    ⟨(some 25), none, false, .mov (.tmp 1)⟩,
    ⟨(some 26), none, false, .call journal_Get [(.tmp 25)]⟩,
    ⟨(some 24), none, false, .mov (.tmp 26)⟩,
    ⟨(some 27), none, false, .ext (.tmp 24) 0⟩,
    ⟨(some 28), none, false, .ext (.tmp 24) 1⟩,
    ⟨(some 3), none, false, .mov (.tmp 27)⟩,
    ⟨(some 4), none, false, .mov (.tmp 28)⟩]) (.seq (.ops [
    ⟨(some 30), none, false, .mov (.tmp 1)⟩,
    ⟨(some 31), none, false, .lit [.int .u8 0] 1 1 [(0, 1, (.const (.int .u8 0)))]⟩,
    ⟨(some 32), none, false, .app (.tmp 30) (.tmp 31) 1 1⟩,
    ⟨(some 33), none, false, .call journal_Get [(.tmp 32)]⟩,
    ⟨(some 29), none, false, .mov (.tmp 33)⟩,
    ⟨(some 34), none, false, .ext (.tmp 29) 0⟩,
    ⟨(some 35), none, false, .ext (.tmp 29) 1⟩,
    ⟨(some 5), none, false, .mov (.tmp 34)⟩,
    ⟨(some 6), none, false, .mov (.tmp 35)⟩]) (.seq (.ops [
    ⟨(some 37), none, false, .call journal_Put [(.const (.slice none 0 0))]⟩,
    ⟨(some 36), none, false, .mov (.tmp 37)⟩,
    ⟨(some 38), none, false, .ext (.tmp 36) 0⟩,
    ⟨(some 39), none, false, .ext (.tmp 36) 1⟩,
    ⟨(some 7), none, false, .mov (.tmp 38)⟩,
    ⟨(some 8), none, false, .mov (.tmp 39)⟩]) (.seq (.ops [
    ⟨(some 41), none, false, .lit [.slice none 0 0] 1 1 [(0, 1, (.const (.slice none 0 0)))]⟩,
    ⟨(some 42), none, false, .call journal_Put [(.tmp 41)]⟩,
    ⟨(some 40), none, false, .mov (.tmp 42)⟩,
    ⟨(some 43), none, false, .ext (.tmp 40) 0⟩,
    ⟨(some 44), none, false, .ext (.tmp 40) 1⟩,
    ⟨(some 9), none, false, .mov (.tmp 43)⟩,
    ⟨(some 10), none, false, .mov (.tmp 44)⟩]) (.seq (.ops [
    ⟨(some 46), none, false, .mk [.int .u8 0] 1 (.const (.int .i64 385)) (.const (.int .i64 385))⟩,
    ⟨(some 47), none, false, .lit [.slice none 0 0] 1 1 [(0, 1, (.tmp 46))]⟩,
    ⟨(some 48), none, false, .call journal_Put [(.tmp 47)]⟩,
    ⟨(some 45), none, false, .mov (.tmp 48)⟩,
    ⟨(some 49), none, false, .ext (.tmp 45) 0⟩,
    ⟨(some 50), none, false, .ext (.tmp 45) 1⟩,
    ⟨(some 11), none, false, .mov (.tmp 49)⟩,
    ⟨(some 12), none, false, .mov (.tmp 50)⟩]) (.seq (.ops [
    ⟨(some 52), none, false, .mk [.slice none 0 0] 24 (.const (.int .i64 33)) (.const (.int .i64 33))⟩,
    ⟨(some 53), none, false, .call journal_Put [(.tmp 52)]⟩,
    ⟨(some 51), none, false, .mov (.tmp 53)⟩,
    ⟨(some 54), none, false, .ext (.tmp 51) 0⟩,
    ⟨(some 55), none, false, .ext (.tmp 51) 1⟩,
    ⟨(some 13), none, false, .mov (.tmp 54)⟩,
    ⟨(some 14), none, false, .mov (.tmp 55)⟩]) (.seq (.ops [
    ⟨(some 56), none, false, .mov (.tmp 2)⟩,
    ⟨(some 57), none, false, .bin .eql (.tmp 56) (.const (.int .i64 0))⟩,
    ⟨(some 58), none, false, .mov (.tmp 57)⟩,
    ⟨(some 59), (some (58, true)), false, .mov (.tmp 1)⟩,
    ⟨(some 60), (some (58, true)), false, .b2s (.tmp 59)⟩,
    ⟨(some 61), (some (58, true)), false, .bin .eql (.tmp 60) (.const (.string ⟨#[2, 1, 97, 2, 98, 99]⟩))⟩,
    ⟨(some 62), none, false, .pick (.tmp 58) (.tmp 61) (.const (.bool false))⟩,
    ⟨(some 63), none, false, .mov (.tmp 62)⟩,
    ⟨(some 64), (some (63, true)), false, .mov (.tmp 4)⟩,
    ⟨(some 65), (some (63, true)), false, .bin .eql (.tmp 64) (.const (.int .i64 0))⟩,
    ⟨(some 66), none, false, .pick (.tmp 63) (.tmp 65) (.const (.bool false))⟩,
    ⟨(some 67), none, false, .mov (.tmp 66)⟩,
    ⟨(some 68), (some (67, true)), false, .mov (.tmp 3)⟩,
    ⟨(some 69), (some (67, true)), false, .lens false (.tmp 68)⟩,
    ⟨(some 70), (some (67, true)), false, .bin .eql (.tmp 69) (.const (.int .i64 2))⟩,
    ⟨(some 71), none, false, .pick (.tmp 67) (.tmp 70) (.const (.bool false))⟩,
    ⟨(some 72), none, false, .mov (.tmp 71)⟩,
    ⟨(some 73), (some (72, true)), false, .mov (.tmp 3)⟩,
    ⟨(some 74), (some (72, true)), false, .iaddr (.tmp 73) (.const (.int .i64 1)) 1⟩,
    ⟨(some 75), (some (72, true)), false, .load1 (.tmp 74)⟩,
    ⟨(some 76), (some (72, true)), false, .b2s (.tmp 75)⟩,
    ⟨(some 77), (some (72, true)), false, .bin .eql (.tmp 76) (.const (.string ⟨#[98, 99]⟩))⟩,
    ⟨(some 78), none, false, .pick (.tmp 72) (.tmp 77) (.const (.bool false))⟩,
    ⟨(some 79), none, false, .mov (.tmp 78)⟩,
    ⟨(some 80), (some (79, true)), false, .mov (.tmp 6)⟩,
    ⟨(some 81), (some (79, true)), false, .bin .eql (.tmp 80) (.const (.int .i64 5))⟩,
    ⟨(some 82), none, false, .pick (.tmp 79) (.tmp 81) (.const (.bool false))⟩,
    ⟨(some 83), none, false, .mov (.tmp 82)⟩,
    ⟨(some 84), (some (83, true)), false, .mov (.tmp 8)⟩,
    ⟨(some 85), (some (83, true)), false, .bin .eql (.tmp 84) (.const (.int .i64 1))⟩,
    ⟨(some 86), none, false, .pick (.tmp 83) (.tmp 85) (.const (.bool false))⟩,
    ⟨(some 87), none, false, .mov (.tmp 86)⟩,
    ⟨(some 88), (some (87, true)), false, .mov (.tmp 10)⟩,
    ⟨(some 89), (some (87, true)), false, .bin .eql (.tmp 88) (.const (.int .i64 1))⟩,
    ⟨(some 90), none, false, .pick (.tmp 87) (.tmp 89) (.const (.bool false))⟩,
    ⟨(some 91), none, false, .mov (.tmp 90)⟩,
    ⟨(some 92), (some (91, true)), false, .mov (.tmp 12)⟩,
    ⟨(some 93), (some (91, true)), false, .bin .eql (.tmp 92) (.const (.int .i64 3))⟩,
    ⟨(some 94), none, false, .pick (.tmp 91) (.tmp 93) (.const (.bool false))⟩,
    ⟨(some 95), none, false, .mov (.tmp 94)⟩,
    ⟨(some 96), (some (95, true)), false, .mov (.tmp 14)⟩,
    ⟨(some 97), (some (95, true)), false, .bin .eql (.tmp 96) (.const (.int .i64 4))⟩,
    ⟨(some 98), none, false, .pick (.tmp 95) (.tmp 97) (.const (.bool false))⟩,
    ⟨(some 99), none, false, .mov (.tmp 98)⟩,
    ⟨(some 100), (some (99, true)), false, .lit [.int .i64 0] 1 2 [(0, 1, (.const (.int .i64 1))), (1, 1, (.const (.int .i64 2)))]⟩,
    ⟨(some 101), (some (99, true)), false, .call journal_Size [(.tmp 100)]⟩,
    ⟨(some 102), (some (99, true)), false, .bin .eql (.tmp 101) (.const (.int .i64 6))⟩,
    ⟨(some 103), none, false, .pick (.tmp 99) (.tmp 102) (.const (.bool false))⟩,
    ⟨(some 104), none, false, .mov (.tmp 103)⟩,
    ⟨(some 105), (some (104, true)), false, .call journal_Size [(.const (.slice none 0 0))]⟩,
    ⟨(some 106), (some (104, true)), false, .bin .eql (.tmp 105) (.const (.int .i64 0))⟩,
    ⟨(some 107), none, false, .pick (.tmp 104) (.tmp 106) (.const (.bool false))⟩,
    ⟨(some 0), none, false, .mov (.tmp 107)⟩]) .ret)))))))))
theorem fits_chantrylaw32_awake : Fits Try.prog 0 chantrylaw32_awake ic_chantrylaw32_awake [.tmp 0] 0 :=
  ⟨Try.f6, Try.func6, by decide, by kernel_rfl, by kernel_rfl⟩

/-- chantry/journal.Put -/
noncomputable def ic_journal_Put : IC :=
  (.seq (.ops [
    ⟨(some 2), none, false, .mov (.const (.slice none 0 0))⟩,
    ⟨(some 3), none, false, .mov (.const (.int .i64 0))⟩]) (.seq (.seq (.ops [
    ⟨(some 7), none, false, .mov (.tmp 0)⟩,
    ⟨(some 8), none, false, .call journal_each_byte_int [(.tmp 7), (.func 16)]⟩,
    ⟨(some 9), none, false, .call journal_check [(.tmp 8)]⟩,
    ⟨(some 4), none, false, .mov (.tmp 9)⟩]) (.seq (.ops [
    ⟨(some 10), none, false, .mov (.tmp 4)⟩,
    ⟨(some 11), none, false, .bin .neq (.tmp 10) (.const (.int .i64 0))⟩]) (.cond (.tmp 11) (.seq (.ops [
    ⟨(some 12), none, false, .mov (.tmp 4)⟩,
    ⟨(some 2), none, false, .mov (.const (.slice none 0 0))⟩,
    ⟨(some 3), none, false, .mov (.tmp 12)⟩]) .ret) .skip))) (.seq (.ops [
    ⟨(some 14), none, false, .mov (.tmp 0)⟩,
    ⟨(some 15), none, false, .lens false (.tmp 14)⟩,
    ⟨(some 16), none, false, .call num_Put [(.tmp 15)]⟩,
    ⟨(some 13), none, false, .mov (.tmp 16)⟩,
    ⟨(some 17), none, false, .ext (.tmp 13) 0⟩,
    ⟨(some 18), none, false, .ext (.tmp 13) 1⟩,
    ⟨(some 5), none, false, .mov (.tmp 17)⟩,
    ⟨(some 6), none, false, .mov (.tmp 18)⟩]) (.seq (.ops [
    ⟨(some 19), none, false, .mov (.tmp 5)⟩,
    ⟨(some 20), none, false, .mov (.tmp 0)⟩,
    ⟨(some 21), none, false, .call journal_each_byte_byte [(.tmp 20), (.func 20)]⟩,
    ⟨(some 22), none, false, .call slices_Concat_byte_byte [(.tmp 21)]⟩,
    ⟨(some 23), none, false, .lit [.slice none 0 0] 1 2 [(0, 1, (.tmp 19)), (1, 1, (.tmp 22))]⟩,
    ⟨(some 24), none, false, .call slices_Concat_byte_byte [(.tmp 23)]⟩,
    ⟨(some 2), none, false, .mov (.tmp 24)⟩,
    ⟨(some 3), none, false, .mov (.const (.int .i64 0))⟩]) .ret))))
theorem fits_journal_Put : Fits Try.prog 0 journal_Put ic_journal_Put [.tmp 2, .tmp 3] 1 :=
  ⟨Try.f7, Try.func7, by decide, by kernel_rfl, by kernel_rfl⟩

/-- chantry/chantryref32.Put -/
noncomputable def ic_chantryref32_Put : IC :=
  (.seq (.ops [
    ⟨(some 2), none, false, .mov (.const (.slice none 0 0))⟩,
    ⟨(some 3), none, false, .mov (.const (.int .i64 0))⟩]) (.seq (.block 0 (.seq (.ops [
    ⟨(some 10), none, false, .mov (.tmp 0)⟩,
    ⟨(some 11), none, false, .lens false (.tmp 10)⟩,
    ⟨(some 12), none, false, .bin .eql (.tmp 11) (.const (.int .i64 0))⟩,
    ⟨(some 9), none, false, .mov (.tmp 12)⟩]) (.cond (.tmp 9) (.seq (.ops [
    ⟨(some 2), none, false, .mov (.const (.slice none 0 0))⟩,
    ⟨(some 3), none, false, .mov (.const (.int .i64 1))⟩]) .ret) (.seq (.ops [
    ⟨(some 14), none, false, .mov (.tmp 0)⟩,
    ⟨(some 15), none, false, .lens false (.tmp 14)⟩,
    ⟨(some 16), none, false, .bin .gtr (.tmp 15) (.const (.int .i64 32))⟩,
    ⟨(some 13), none, false, .mov (.tmp 16)⟩]) (.cond (.tmp 13) (.seq (.ops [
    ⟨(some 2), none, false, .mov (.const (.slice none 0 0))⟩,
    ⟨(some 3), none, false, .mov (.const (.int .i64 4))⟩]) .ret) .skip))))) (.seq (.ops [
    ⟨(some 18), none, false, .mov (.tmp 0)⟩,
    ⟨(some 19), none, false, .lens false (.tmp 18)⟩,
    ⟨(some 20), none, false, .call chantryref01_Put [(.tmp 19)]⟩,
    ⟨(some 17), none, false, .mov (.tmp 20)⟩,
    ⟨(some 21), none, false, .ext (.tmp 17) 0⟩,
    ⟨(some 22), none, false, .ext (.tmp 17) 1⟩,
    ⟨(some 4), none, false, .mov (.tmp 21)⟩,
    ⟨(some 5), none, false, .mov (.tmp 22)⟩]) (.seq (.seq (.ops [
    ⟨(some 6), none, false, .mov (.const (.int .i64 0))⟩]) (.block 1 (.loop (.seq (.seq (.ops [
    ⟨(some 23), none, false, .mov (.tmp 6)⟩,
    ⟨(some 24), none, false, .mov (.tmp 0)⟩,
    ⟨(some 25), none, false, .lens false (.tmp 24)⟩,
    ⟨(some 26), none, false, .bin .lss (.tmp 23) (.tmp 25)⟩]) (.cond (.tmp 26) .skip (.exit 1))) (.seq (.block 2 (.seq (.seq (.ops [
    ⟨(some 29), none, false, .mov (.tmp 0)⟩,
    ⟨(some 30), none, false, .mov (.tmp 6)⟩,
    ⟨(some 31), none, false, .iaddr (.tmp 29) (.tmp 30) 1⟩,
    ⟨(some 32), none, false, .load1 (.tmp 31)⟩,
    ⟨(some 33), none, false, .lens false (.tmp 32)⟩,
    ⟨(some 34), none, false, .bin .eql (.tmp 33) (.const (.int .i64 0))⟩]) (.cond (.tmp 34) (.seq (.ops [
    ⟨(some 2), none, false, .mov (.const (.slice none 0 0))⟩,
    ⟨(some 3), none, false, .mov (.const (.int .i64 1))⟩]) .ret) .skip)) (.seq (.seq (.ops [
    ⟨(some 35), none, false, .mov (.tmp 0)⟩,
    ⟨(some 36), none, false, .mov (.tmp 6)⟩,
    ⟨(some 37), none, false, .iaddr (.tmp 35) (.tmp 36) 1⟩,
    ⟨(some 38), none, false, .load1 (.tmp 37)⟩,
    ⟨(some 39), none, false, .lens false (.tmp 38)⟩,
    ⟨(some 40), none, false, .bin .gtr (.tmp 39) (.const (.int .i64 384))⟩]) (.cond (.tmp 40) (.seq (.ops [
    ⟨(some 2), none, false, .mov (.const (.slice none 0 0))⟩,
    ⟨(some 3), none, false, .mov (.const (.int .i64 3))⟩]) .ret) .skip)) (.seq (.ops [
    ⟨(some 42), none, false, .mov (.tmp 0)⟩,
    ⟨(some 43), none, false, .mov (.tmp 6)⟩,
    ⟨(some 44), none, false, .iaddr (.tmp 42) (.tmp 43) 1⟩,
    ⟨(some 45), none, false, .load1 (.tmp 44)⟩,
    ⟨(some 46), none, false, .call chantryref01_Text [(.tmp 45)]⟩,
    ⟨(some 41), none, false, .mov (.tmp 46)⟩,
    ⟨(some 47), none, false, .ext (.tmp 41) 0⟩,
    ⟨(some 48), none, false, .ext (.tmp 41) 1⟩,
    ⟨(some 7), none, false, .mov (.tmp 47)⟩,
    ⟨(some 8), none, false, .mov (.tmp 48)⟩]) (.ops [
    ⟨(some 49), none, false, .mov (.tmp 4)⟩,
    ⟨(some 50), none, false, .mov (.tmp 7)⟩,
    ⟨(some 51), none, false, .app (.tmp 49) (.tmp 50) 1 1⟩,
    ⟨(some 4), none, false, .mov (.tmp 51)⟩]))))) (.ops [
    ⟨(some 27), none, false, .mov (.tmp 6)⟩,
    ⟨(some 28), none, false, .bin .add (.tmp 27) (.const (.int .i64 1))⟩,
    ⟨(some 6), none, false, .mov (.tmp 28)⟩])))))) (.seq (.ops [
    ⟨(some 52), none, false, .mov (.tmp 4)⟩,
    ⟨(some 2), none, false, .mov (.tmp 52)⟩,
    ⟨(some 3), none, false, .mov (.const (.int .i64 0))⟩]) .ret)))))
theorem fits_chantryref32_Put : Fits Try.prog 0 chantryref32_Put ic_chantryref32_Put [.tmp 2, .tmp 3] 1 :=
  ⟨Try.f8, Try.func8, by decide, by kernel_rfl, by kernel_rfl⟩

/-- chantry/journal.Get -/
noncomputable def ic_journal_Get : IC :=
  (.seq (.ops [
    ⟨(some 2), none, false, .mov (.const (.slice none 0 0))⟩,
    ⟨(some 3), none, false, .mov (.const (.int .i64 0))⟩]) (.seq (.ops [
    ⟨(some 7), none, false, .mov (.tmp 0)⟩,
    ⟨(some 8), none, false, .call num_From [(.tmp 7)]⟩,
    ⟨(some 4), none, false, .mov (.tmp 8)⟩]) (.seq (.ops [
    ⟨(some 5), none, false, .mov (.const (.slice none 0 0))⟩]) (.seq (.seq (.ops [
    ⟨(some 9), none, false, .mov (.tmp 4)⟩,
    ⟨(some 10), none, false, .call num_Cursor_Num [(.tmp 9)]⟩,
    ⟨(some 6), none, false, .mov (.tmp 10)⟩]) (.block 0 (.loop (.seq (.seq (.ops [
    ⟨(some 11), none, false, .mov (.tmp 6)⟩,
    ⟨(some 12), none, false, .bin .gtr (.tmp 11) (.const (.int .i64 0))⟩,
    ⟨(some 13), none, false, .mov (.tmp 12)⟩,
    ⟨(some 14), (some (13, true)), false, .mov (.tmp 4)⟩,
    ⟨(some 15), (some (13, true)), false, .call num_Cursor_Bad [(.tmp 14)]⟩,
    ⟨(some 16), (some (13, true)), false, .un .not (.tmp 15)⟩,
    ⟨(some 17), none, false, .pick (.tmp 13) (.tmp 16) (.const (.bool false))⟩]) (.cond (.tmp 17) .skip (.exit 0))) (.seq (.block 1 (.ops [
    ⟨(some 20), none, false, .mov (.tmp 5)⟩,
    ⟨(some 21), none, false, .mov (.tmp 4)⟩,
    ⟨(some 22), none, false, .call num_Cursor_Text [(.tmp 21)]⟩,
    ⟨(some 23), none, false, .lit [.slice none 0 0] 1 1 [(0, 1, (.tmp 22))]⟩,
    ⟨(some 24), none, false, .app (.tmp 20) (.tmp 23) 1 24⟩,
    ⟨(some 5), none, false, .mov (.tmp 24)⟩])) (.ops [
    ⟨(some 18), none, false, .mov (.tmp 6)⟩,
    ⟨(some 19), none, false, .bin .sub (.tmp 18) (.const (.int .i64 1))⟩,
    ⟨(some 6), none, false, .mov (.tmp 19)⟩])))))) (.seq (.seq (.ops [
    ⟨(some 25), none, false, .mov (.tmp 4)⟩,
    ⟨(some 26), none, false, .call num_Cursor_Bad [(.tmp 25)]⟩,
    ⟨(some 27), none, false, .mov (.tmp 26)⟩,
    ⟨(some 28), (some (27, false)), false, .mov (.tmp 4)⟩,
    ⟨(some 29), (some (27, false)), false, .call num_Cursor_Left [(.tmp 28)]⟩,
    ⟨(some 30), (some (27, false)), false, .bin .gtr (.tmp 29) (.const (.int .i64 0))⟩,
    ⟨(some 31), none, false, .pick (.tmp 27) (.const (.bool true)) (.tmp 30)⟩,
    ⟨(some 32), none, false, .mov (.tmp 31)⟩,
    ⟨(some 33), (some (32, false)), false, .mov (.tmp 5)⟩,
    ⟨(some 34), (some (32, false)), false, .call journal_each_byte_int [(.tmp 33), (.func 28)]⟩,
    ⟨(some 35), (some (32, false)), false, .call journal_check [(.tmp 34)]⟩,
    ⟨(some 36), (some (32, false)), false, .bin .neq (.tmp 35) (.const (.int .i64 0))⟩,
    ⟨(some 37), none, false, .pick (.tmp 32) (.const (.bool true)) (.tmp 36)⟩]) (.cond (.tmp 37) (.seq (.ops [
    ⟨(some 2), none, false, .mov (.const (.slice none 0 0))⟩,
    ⟨(some 3), none, false, .mov (.const (.int .i64 5))⟩]) .ret) .skip)) (.seq (.ops [
    ⟨(some 38), none, false, .mov (.tmp 5)⟩,
    ⟨(some 2), none, false, .mov (.tmp 38)⟩,
    ⟨(some 3), none, false, .mov (.const (.int .i64 0))⟩]) .ret))))))
theorem fits_journal_Get : Fits Try.prog 0 journal_Get ic_journal_Get [.tmp 2, .tmp 3] 1 :=
  ⟨Try.f9, Try.func9, by decide, by kernel_rfl, by kernel_rfl⟩

/-- chantry/journal.Size -/
noncomputable def ic_journal_Size : IC :=
  (.seq (.ops [
    ⟨(some 2), none, false, .mov (.const (.int .i64 0))⟩]) (.seq (.seq (.ops [
    ⟨(some 10), none, false, .mov (.tmp 0)⟩,
    ⟨(some 11), none, false, .call journal_check [(.tmp 10)]⟩,
    ⟨(some 12), none, false, .bin .neq (.tmp 11) (.const (.int .i64 0))⟩]) (.cond (.tmp 12) (.seq (.ops [
    ⟨(some 2), none, false, .mov (.const (.int .i64 0))⟩]) .ret) .skip)) (.seq (.ops [
    ⟨(some 14), none, false, .mov (.tmp 0)⟩,
    ⟨(some 15), none, false, .lens false (.tmp 14)⟩,
    ⟨(some 16), none, false, .call num_Put [(.tmp 15)]⟩,
    ⟨(some 13), none, false, .mov (.tmp 16)⟩,
    ⟨(some 17), none, false, .ext (.tmp 13) 0⟩,
    ⟨(some 18), none, false, .ext (.tmp 13) 1⟩,
    ⟨(some 3), none, false, .mov (.tmp 17)⟩,
    ⟨(some 4), none, false, .mov (.tmp 18)⟩]) (.seq (.ops [
    ⟨(some 19), none, false, .mov (.tmp 3)⟩,
    ⟨(some 20), none, false, .lens false (.tmp 19)⟩,
    ⟨(some 5), none, false, .mov (.tmp 20)⟩]) (.seq (.seq (.ops [
    ⟨(some 21), none, false, .mov (.tmp 0)⟩,
    ⟨(some 22), none, false, .lens false (.tmp 21)⟩,
    ⟨(some 23), none, false, .mov (.const (.int .i64 0))⟩]) (.block 0 (.loop (.seq (.ops [
    ⟨(some 24), none, false, .bin .lss (.tmp 23) (.tmp 22)⟩]) (.seq (.cond (.tmp 24) .skip (.exit 0)) (.seq (.block 1 (.seq (.ops [
    ⟨(some 25), none, false, .iaddr (.tmp 21) (.tmp 23) 1⟩,
    ⟨(some 26), none, false, .load1 (.tmp 25)⟩,
    ⟨(some 7), none, false, .mov (.tmp 26)⟩]) (.seq (.ops [
    ⟨(some 28), none, false, .mov (.tmp 7)⟩,
    ⟨(some 29), none, false, .call num_Put [(.tmp 28)]⟩,
    ⟨(some 27), none, false, .mov (.tmp 29)⟩,
    ⟨(some 30), none, false, .ext (.tmp 27) 0⟩,
    ⟨(some 31), none, false, .ext (.tmp 27) 1⟩,
    ⟨(some 8), none, false, .mov (.tmp 30)⟩,
    ⟨(some 9), none, false, .mov (.tmp 31)⟩]) (.ops [
    ⟨(some 32), none, false, .mov (.tmp 5)⟩,
    ⟨(some 33), none, false, .mov (.tmp 8)⟩,
    ⟨(some 34), none, false, .lens false (.tmp 33)⟩,
    ⟨(some 35), none, false, .mov (.tmp 7)⟩,
    ⟨(some 36), none, false, .bin .add (.tmp 34) (.tmp 35)⟩,
    ⟨(some 37), none, false, .bin .add (.tmp 32) (.tmp 36)⟩,
    ⟨(some 5), none, false, .mov (.tmp 37)⟩])))) (.ops [
    ⟨(some 38), none, false, .bin .add (.tmp 23) (.const (.int .i64 1))⟩,
    ⟨(some 23), none, false, .mov (.tmp 38)⟩]))))))) (.seq (.ops [
    ⟨(some 39), none, false, .mov (.tmp 5)⟩,
    ⟨(some 2), none, false, .mov (.tmp 39)⟩]) .ret))))))
theorem fits_journal_Size : Fits Try.prog 0 journal_Size ic_journal_Size [.tmp 2] 1 :=
  ⟨Try.f10, Try.func10, by decide, by kernel_rfl, by kernel_rfl⟩

/-- chantry/chantryref01.Bytes -/
noncomputable def ic_chantryref01_Bytes : IC :=
  (.seq (.ops [
    ⟨(some 4), none, false, .mov (.const (.bool false))⟩]) (.seq (.seq (.ops [
    ⟨(some 6), none, false, .mov (.tmp 0)⟩,
    ⟨(some 7), none, false, .lens false (.tmp 6)⟩,
    ⟨(some 8), none, false, .mov (.tmp 1)⟩,
    ⟨(some 9), none, false, .lens false (.tmp 8)⟩,
    ⟨(some 10), none, false, .bin .neq (.tmp 7) (.tmp 9)⟩]) (.cond (.tmp 10) (.seq (.ops [
    ⟨(some 4), none, false, .mov (.const (.bool false))⟩]) .ret) .skip)) (.seq (.seq (.ops [
    ⟨(some 5), none, false, .mov (.const (.int .i64 0))⟩]) (.block 0 (.loop (.seq (.seq (.ops [
    ⟨(some 11), none, false, .mov (.tmp 5)⟩,
    ⟨(some 12), none, false, .mov (.tmp 0)⟩,
    ⟨(some 13), none, false, .lens false (.tmp 12)⟩,
    ⟨(some 14), none, false, .bin .lss (.tmp 11) (.tmp 13)⟩]) (.cond (.tmp 14) .skip (.exit 0))) (.seq (.block 1 (.seq (.draw [
    ⟨(some 17), none, false, .mov (.tmp 0)⟩,
    ⟨(some 18), none, false, .mov (.tmp 5)⟩,
    ⟨(some 19), none, false, .iaddr (.tmp 17) (.tmp 18) 1⟩,
    ⟨(some 20), none, false, .load1 (.tmp 19)⟩,
    ⟨(some 21), none, false, .b2s (.tmp 20)⟩,
    ⟨(some 22), none, false, .mov (.tmp 1)⟩,
    ⟨(some 23), none, false, .mov (.tmp 5)⟩,
    ⟨(some 24), none, false, .iaddr (.tmp 22) (.tmp 23) 1⟩,
    ⟨(some 25), none, false, .load1 (.tmp 24)⟩,
    ⟨(some 26), none, false, .b2s (.tmp 25)⟩,
    ⟨(some 27), none, false, .bin .neq (.tmp 21) (.tmp 26)⟩]) (.cond (.tmp 27) (.seq (.ops [
    ⟨(some 4), none, false, .mov (.const (.bool false))⟩]) .ret) .skip))) (.ops [
    ⟨(some 15), none, false, .mov (.tmp 5)⟩,
    ⟨(some 16), none, false, .bin .add (.tmp 15) (.const (.int .i64 1))⟩,
    ⟨(some 5), none, false, .mov (.tmp 16)⟩])))))) (.seq (.ops [
    ⟨(some 4), none, false, .mov (.const (.bool true))⟩]) .ret))))
theorem fits_chantryref01_Bytes : Fits Try.prog 0 chantryref01_Bytes ic_chantryref01_Bytes [.tmp 4] 2 :=
  ⟨Try.f11, Try.func11, by decide, by kernel_rfl, by kernel_rfl⟩

/-- chantry/chantryref32.Get -/
noncomputable def ic_chantryref32_Get : IC :=
  (.seq (.ops [
    ⟨(some 2), none, false, .mov (.const (.slice none 0 0))⟩,
    ⟨(some 3), none, false, .mov (.const (.int .i64 0))⟩]) (.seq (.ops [
    ⟨(some 13), none, false, .mov (.tmp 0)⟩,
    ⟨(some 14), none, false, .call chantryref01_From [(.tmp 13)]⟩,
    ⟨(some 15), none, false, .call chantryref01_Num [(.tmp 14)]⟩,
    ⟨(some 12), none, false, .mov (.tmp 15)⟩,
    ⟨(some 16), none, false, .ext (.tmp 12) 0⟩,
    ⟨(some 17), none, false, .ext (.tmp 12) 1⟩,
    ⟨(some 4), none, false, .new [.slice none 0 0, .int .i64 0, .bool false]⟩,
    ⟨none, none, false, .store (.tmp 4) (.tmp 16) 3⟩,
    ⟨(some 5), none, false, .mov (.tmp 17)⟩]) (.seq (.ops [
    ⟨(some 6), none, false, .mov (.const (.slice none 0 0))⟩]) (.seq (.seq (.ops [
    ⟨(some 7), none, false, .mov (.const (.int .i64 0))⟩]) (.block 0 (.loop (.seq (.seq (.ops [
    ⟨(some 18), none, false, .mov (.tmp 7)⟩,
    ⟨(some 19), none, false, .mov (.tmp 5)⟩,
    ⟨(some 20), none, false, .bin .lss (.tmp 18) (.tmp 19)⟩,
    ⟨(some 21), none, false, .mov (.tmp 20)⟩,
    ⟨(some 22), (some (21, true)), false, .faddr (.tmp 4) 2⟩,
    ⟨(some 23), (some (21, true)), false, .load1 (.tmp 22)⟩,
    ⟨(some 24), (some (21, true)), false, .un .not (.tmp 23)⟩,
    ⟨(some 25), none, false, .pick (.tmp 21) (.tmp 24) (.const (.bool false))⟩]) (.cond (.tmp 25) .skip (.exit 0))) (.seq (.block 1 (.seq (.ops [
    ⟨(some 29), none, false, .loadn (.tmp 4) 3⟩,
    ⟨(some 30), none, false, .call chantryref01_TakeText [(.tmp 29)]⟩,
    ⟨(some 28), none, false, .mov (.tmp 30)⟩,
    ⟨(some 31), none, false, .ext (.tmp 28) 0⟩,
    ⟨(some 32), none, false, .ext (.tmp 28) 1⟩,
    ⟨(some 8), none, false, .new [.slice none 0 0, .int .i64 0, .bool false]⟩,
    ⟨none, none, false, .store (.tmp 8) (.tmp 31) 3⟩,
    ⟨(some 9), none, false, .mov (.tmp 32)⟩]) (.seq (.ops [
    ⟨(some 33), none, false, .loadn (.tmp 8) 3⟩,
    ⟨none, none, false, .store (.tmp 4) (.tmp 33) 3⟩]) (.ops [
    ⟨(some 34), none, false, .mov (.tmp 6)⟩,
    ⟨(some 35), none, false, .mov (.tmp 9)⟩,
    ⟨(some 36), none, false, .lit [.slice none 0 0] 1 1 [(0, 1, (.tmp 35))]⟩,
    ⟨(some 37), none, false, .app (.tmp 34) (.tmp 36) 1 24⟩,
    ⟨(some 6), none, false, .mov (.tmp 37)⟩])))) (.ops [
    ⟨(some 26), none, false, .mov (.tmp 7)⟩,
    ⟨(some 27), none, false, .bin .add (.tmp 26) (.const (.int .i64 1))⟩,
    ⟨(some 7), none, false, .mov (.tmp 27)⟩])))))) (.seq (.ops [
    ⟨(some 39), none, false, .mov (.tmp 6)⟩,
    ⟨(some 40), none, false, .call chantryref32_Put [(.tmp 39)]⟩,
    ⟨(some 38), none, false, .mov (.tmp 40)⟩,
    ⟨(some 41), none, false, .ext (.tmp 38) 0⟩,
    ⟨(some 42), none, false, .ext (.tmp 38) 1⟩,
    ⟨(some 10), none, false, .mov (.tmp 41)⟩,
    ⟨(some 11), none, false, .mov (.tmp 42)⟩]) (.seq (.seq (.ops [
    ⟨(some 43), none, false, .faddr (.tmp 4) 2⟩,
    ⟨(some 44), none, false, .load1 (.tmp 43)⟩,
    ⟨(some 45), none, false, .mov (.tmp 44)⟩,
    ⟨(some 46), (some (45, false)), false, .mov (.tmp 11)⟩,
    ⟨(some 47), (some (45, false)), false, .bin .neq (.tmp 46) (.const (.int .i64 0))⟩,
    ⟨(some 48), none, false, .pick (.tmp 45) (.const (.bool true)) (.tmp 47)⟩,
    ⟨(some 49), none, false, .mov (.tmp 48)⟩,
    ⟨(some 50), (some (49, false)), false, .mov (.tmp 10)⟩,
    ⟨(some 51), (some (49, false)), false, .b2s (.tmp 50)⟩,
    ⟨(some 52), (some (49, false)), false, .mov (.tmp 0)⟩,
    ⟨(some 53), (some (49, false)), false, .b2s (.tmp 52)⟩,
    ⟨(some 54), (some (49, false)), false, .bin .neq (.tmp 51) (.tmp 53)⟩,
    ⟨(some 55), none, false, .pick (.tmp 49) (.const (.bool true)) (.tmp 54)⟩]) (.cond (.tmp 55) (.seq (.ops [
    ⟨(some 2), none, false, .mov (.const (.slice none 0 0))⟩,
    ⟨(some 3), none, false, .mov (.const (.int .i64 5))⟩]) .ret) .skip)) (.seq (.ops [
    ⟨(some 56), none, false, .mov (.tmp 6)⟩,
    ⟨(some 2), none, false, .mov (.tmp 56)⟩,
    ⟨(some 3), none, false, .mov (.const (.int .i64 0))⟩]) .ret)))))))
theorem fits_chantryref32_Get : Fits Try.prog 0 chantryref32_Get ic_chantryref32_Get [.tmp 2, .tmp 3] 1 :=
  ⟨Try.f12, Try.func12, by decide, by kernel_rfl, by kernel_rfl⟩

/-- chantry/chantryref32.Size -/
noncomputable def ic_chantryref32_Size : IC :=
  (.seq (.ops [
    ⟨(some 2), none, false, .mov (.const (.int .i64 0))⟩]) (.seq (.seq (.ops [
    ⟨(some 5), none, false, .mov (.tmp 0)⟩,
    ⟨(some 6), none, false, .lens false (.tmp 5)⟩,
    ⟨(some 7), none, false, .bin .eql (.tmp 6) (.const (.int .i64 0))⟩,
    ⟨(some 8), none, false, .mov (.tmp 7)⟩,
    ⟨(some 9), (some (8, false)), false, .mov (.tmp 0)⟩,
    ⟨(some 10), (some (8, false)), false, .lens false (.tmp 9)⟩,
    ⟨(some 11), (some (8, false)), false, .bin .gtr (.tmp 10) (.const (.int .i64 32))⟩,
    ⟨(some 12), none, false, .pick (.tmp 8) (.const (.bool true)) (.tmp 11)⟩]) (.cond (.tmp 12) (.seq (.ops [
    ⟨(some 2), none, false, .mov (.const (.int .i64 0))⟩]) .ret) .skip)) (.seq (.ops [
    ⟨(some 3), none, false, .mov (.const (.int .i64 1))⟩]) (.seq (.seq (.ops [
    ⟨(some 4), none, false, .mov (.const (.int .i64 0))⟩]) (.block 0 (.loop (.seq (.seq (.ops [
    ⟨(some 13), none, false, .mov (.tmp 4)⟩,
    ⟨(some 14), none, false, .mov (.tmp 0)⟩,
    ⟨(some 15), none, false, .lens false (.tmp 14)⟩,
    ⟨(some 16), none, false, .bin .lss (.tmp 13) (.tmp 15)⟩]) (.cond (.tmp 16) .skip (.exit 0))) (.seq (.block 1 (.seq (.seq (.ops [
    ⟨(some 19), none, false, .mov (.tmp 0)⟩,
    ⟨(some 20), none, false, .mov (.tmp 4)⟩,
    ⟨(some 21), none, false, .iaddr (.tmp 19) (.tmp 20) 1⟩,
    ⟨(some 22), none, false, .load1 (.tmp 21)⟩,
    ⟨(some 23), none, false, .bin .lss (.tmp 22) (.const (.int .i64 1))⟩,
    ⟨(some 24), none, false, .mov (.tmp 23)⟩,
    ⟨(some 25), (some (24, false)), false, .mov (.tmp 0)⟩,
    ⟨(some 26), (some (24, false)), false, .mov (.tmp 4)⟩,
    ⟨(some 27), (some (24, false)), false, .iaddr (.tmp 25) (.tmp 26) 1⟩,
    ⟨(some 28), (some (24, false)), false, .load1 (.tmp 27)⟩,
    ⟨(some 29), (some (24, false)), false, .bin .gtr (.tmp 28) (.const (.int .i64 384))⟩,
    ⟨(some 30), none, false, .pick (.tmp 24) (.const (.bool true)) (.tmp 29)⟩]) (.cond (.tmp 30) (.seq (.ops [
    ⟨(some 2), none, false, .mov (.const (.int .i64 0))⟩]) .ret) .skip)) (.seq (.ops [
    ⟨(some 31), none, false, .mov (.tmp 3)⟩,
    ⟨(some 32), none, false, .bin .add (.tmp 31) (.const (.int .i64 1))⟩,
    ⟨(some 33), none, false, .mov (.tmp 0)⟩,
    ⟨(some 34), none, false, .mov (.tmp 4)⟩,
    ⟨(some 35), none, false, .iaddr (.tmp 33) (.tmp 34) 1⟩,
    ⟨(some 36), none, false, .load1 (.tmp 35)⟩,
    ⟨(some 37), none, false, .bin .add (.tmp 32) (.tmp 36)⟩,
    ⟨(some 3), none, false, .mov (.tmp 37)⟩]) (.seq (.ops [
    ⟨(some 38), none, false, .mov (.tmp 0)⟩,
    ⟨(some 39), none, false, .mov (.tmp 4)⟩,
    ⟨(some 40), none, false, .iaddr (.tmp 38) (.tmp 39) 1⟩,
    ⟨(some 41), none, false, .load1 (.tmp 40)⟩,
    ⟨(some 42), none, false, .bin .gtr (.tmp 41) (.const (.int .i64 127))⟩]) (.cond (.tmp 42) (.ops [
    ⟨(some 43), none, false, .mov (.tmp 3)⟩,
    ⟨(some 44), none, false, .bin .add (.tmp 43) (.const (.int .i64 1))⟩,
    ⟨(some 3), none, false, .mov (.tmp 44)⟩]) .skip))))) (.ops [
    ⟨(some 17), none, false, .mov (.tmp 4)⟩,
    ⟨(some 18), none, false, .bin .add (.tmp 17) (.const (.int .i64 1))⟩,
    ⟨(some 4), none, false, .mov (.tmp 18)⟩])))))) (.seq (.ops [
    ⟨(some 45), none, false, .mov (.tmp 3)⟩,
    ⟨(some 2), none, false, .mov (.tmp 45)⟩]) .ret)))))
theorem fits_chantryref32_Size : Fits Try.prog 0 chantryref32_Size ic_chantryref32_Size [.tmp 2] 1 :=
  ⟨Try.f13, Try.func13, by decide, by kernel_rfl, by kernel_rfl⟩

/-- chantry/journal.check -/
noncomputable def ic_journal_check : IC :=
  (.seq (.ops [
    ⟨(some 2), none, false, .mov (.const (.int .i64 0))⟩]) (.seq (.block 0 (.seq (.ops [
    ⟨(some 5), none, false, .mov (.tmp 0)⟩,
    ⟨(some 6), none, false, .lens false (.tmp 5)⟩,
    ⟨(some 7), none, false, .bin .eql (.tmp 6) (.const (.int .i64 0))⟩,
    ⟨(some 4), none, false, .mov (.tmp 7)⟩]) (.cond (.tmp 4) (.seq (.ops [
    ⟨(some 2), none, false, .mov (.const (.int .i64 1))⟩]) .ret) (.seq (.ops [
    ⟨(some 9), none, false, .mov (.tmp 0)⟩,
    ⟨(some 10), none, false, .lens false (.tmp 9)⟩,
    ⟨(some 11), none, false, .bin .gtr (.tmp 10) (.const (.int .i64 32))⟩,
    ⟨(some 8), none, false, .mov (.tmp 11)⟩]) (.cond (.tmp 8) (.seq (.ops [
    ⟨(some 2), none, false, .mov (.const (.int .i64 4))⟩]) .ret) .skip))))) (.seq (.ops [
    ⟨(some 12), none, false, .mov (.tmp 0)⟩,
    ⟨(some 13), none, false, .call slices_IndexFunc_int_int [(.tmp 12), (.func 33)]⟩,
    ⟨(some 3), none, false, .mov (.tmp 13)⟩]) (.seq (.block 1 (.seq (.ops [
    ⟨(some 15), none, false, .mov (.tmp 3)⟩,
    ⟨(some 16), none, false, .bin .lss (.tmp 15) (.const (.int .i64 0))⟩,
    ⟨(some 14), none, false, .mov (.tmp 16)⟩]) (.cond (.tmp 14) (.seq (.ops [
    ⟨(some 2), none, false, .mov (.const (.int .i64 0))⟩]) .ret) (.seq (.ops [
    ⟨(some 18), none, false, .mov (.tmp 0)⟩,
    ⟨(some 19), none, false, .mov (.tmp 3)⟩,
    ⟨(some 20), none, false, .iaddr (.tmp 18) (.tmp 19) 1⟩,
    ⟨(some 21), none, false, .load1 (.tmp 20)⟩,
    ⟨(some 22), none, false, .bin .lss (.tmp 21) (.const (.int .i64 1))⟩,
    ⟨(some 17), none, false, .mov (.tmp 22)⟩]) (.cond (.tmp 17) (.seq (.ops [
    ⟨(some 2), none, false, .mov (.const (.int .i64 1))⟩]) .ret) .skip))))) (.seq (.ops [
    ⟨(some 2), none, false, .mov (.const (.int .i64 3))⟩]) .ret)))))
theorem fits_journal_check : Fits Try.prog 0 journal_check ic_journal_check [.tmp 2] 1 :=
  ⟨Try.f14, Try.func14, by decide, by kernel_rfl, by kernel_rfl⟩

/-- chantry/journal.each[[]byte,int] -/
noncomputable def ic_journal_each_byte_int : IC :=
  (.seq (.ops [
    ⟨(some 4), none, false, .mov (.const (.slice none 0 0))⟩]) (.seq (.ops [
    ⟨(some 5), none, false, .mov (.const (.slice none 0 0))⟩]) (.seq (.seq (.ops [
    ⟨(some 8), none, false, .mov (.tmp 0)⟩,
    ⟨(some 9), none, false, .lens false (.tmp 8)⟩,
    ⟨(some 10), none, false, .mov (.const (.int .i64 0))⟩]) (.block 0 (.loop (.seq (.ops [
    ⟨(some 11), none, false, .bin .lss (.tmp 10) (.tmp 9)⟩]) (.seq (.cond (.tmp 11) .skip (.exit 0)) (.seq (.block 1 (.seq (.ops [
    ⟨(some 12), none, false, .iaddr (.tmp 8) (.tmp 10) 1⟩,
    ⟨(some 13), none, false, .load1 (.tmp 12)⟩,
    ⟨(some 7), none, false, .mov (.tmp 13)⟩]) (.ops [
    ⟨(some 14), none, false, .mov (.tmp 5)⟩,
    ⟨(some 15), none, false, .mov (.tmp 1)⟩,
    ⟨(some 16), none, false, .mov (.tmp 7)⟩,
    ⟨(some 17), none, false, .calld (.tmp 15) [(.tmp 16)]⟩,
    ⟨(some 18), none, false, .lit [.int .i64 0] 1 1 [(0, 1, (.tmp 17))]⟩,
    ⟨(some 19), none, false, .app (.tmp 14) (.tmp 18) 1 8⟩,
    ⟨(some 5), none, false, .mov (.tmp 19)⟩]))) (.ops [
    ⟨(some 20), none, false, .bin .add (.tmp 10) (.const (.int .i64 1))⟩,
    ⟨(some 10), none, false, .mov (.tmp 20)⟩]))))))) (.seq (.ops [
    ⟨(some 21), none, false, .mov (.tmp 5)⟩,
    ⟨(some 4), none, false, .mov (.tmp 21)⟩]) .ret))))
theorem fits_journal_each_byte_int : Fits Try.prog 0 journal_each_byte_int ic_journal_each_byte_int [.tmp 4] 2 :=
  ⟨Try.f15, Try.func15, by decide, by kernel_rfl, by kernel_rfl⟩

/-- chantry/journal.Put$1 -/
noncomputable def ic_journal_Put_1 : IC :=
  (.seq (.ops [
    ⟨(some 2), none, false, .mov (.const (.int .i64 0))⟩]) (.seq (.ops [
    ⟨(some 3), none, false, .mov (.tmp 0)⟩,
    ⟨(some 4), none, false, .lens false (.tmp 3)⟩,
    ⟨(some 2), none, false, .mov (.tmp 4)⟩]) .ret))
theorem fits_journal_Put_1 : Fits Try.prog 0 journal_Put_1 ic_journal_Put_1 [.tmp 2] 1 :=
  ⟨Try.f16, Try.func16, by decide, by kernel_rfl, by kernel_rfl⟩

/-- chantry/num.Put -/
noncomputable def ic_num_Put : IC :=
  (.seq (.ops [
    ⟨(some 2), none, false, .mov (.const (.slice none 0 0))⟩,
    ⟨(some 3), none, false, .mov (.const (.int .i64 0))⟩]) (.seq (.seq (.ops [
    ⟨(some 5), none, false, .mov (.tmp 0)⟩,
    ⟨(some 6), none, false, .call num_is [(.tmp 5)]⟩,
    ⟨(some 7), none, false, .un .not (.tmp 6)⟩]) (.cond (.tmp 7) (.seq (.ops [
    ⟨(some 2), none, false, .mov (.const (.slice none 0 0))⟩,
    ⟨(some 3), none, false, .mov (.const (.int .i64 1))⟩]) .ret) .skip)) (.seq (.ops [
    ⟨(some 4), none, false, .mov (.const (.slice none 0 0))⟩]) (.seq (.block 0 (.loop (.seq (.seq (.ops [
    ⟨(some 8), none, false, .mov (.tmp 0)⟩,
    ⟨(some 9), none, false, .bin .geq (.tmp 8) (.const (.int .i64 128))⟩]) (.cond (.tmp 9) .skip (.exit 0))) (.seq (.block 1 (.ops [
    ⟨(some 12), none, false, .mov (.tmp 4)⟩,
    ⟨(some 13), none, false, .mov (.tmp 0)⟩,
    ⟨(some 14), none, false, .conv .u8 (.tmp 13)⟩,
    ⟨(some 15), none, false, .bin .or (.tmp 14) (.const (.int .u8 128))⟩,
    ⟨(some 16), none, false, .lit [.int .u8 0] 1 1 [(0, 1, (.tmp 15))]⟩,
    ⟨(some 17), none, false, .app (.tmp 12) (.tmp 16) 1 1⟩,
    ⟨(some 4), none, false, .mov (.tmp 17)⟩])) (.ops [
    ⟨(some 10), none, false, .mov (.tmp 0)⟩,
    ⟨(some 11), none, false, .bin .shr (.tmp 10) (.const (.int .u64 7))⟩,
    ⟨(some 0), none, false, .mov (.tmp 11)⟩]))))) (.seq (.ops [
    ⟨(some 18), none, false, .mov (.tmp 4)⟩,
    ⟨(some 19), none, false, .mov (.tmp 0)⟩,
    ⟨(some 20), none, false, .conv .u8 (.tmp 19)⟩,
    ⟨(some 21), none, false, .lit [.int .u8 0] 1 1 [(0, 1, (.tmp 20))]⟩,
    ⟨(some 22), none, false, .app (.tmp 18) (.tmp 21) 1 1⟩,
    ⟨(some 2), none, false, .mov (.tmp 22)⟩,
    ⟨(some 3), none, false, .mov (.const (.int .i64 0))⟩]) .ret)))))
theorem fits_num_Put : Fits Try.prog 0 num_Put ic_num_Put [.tmp 2, .tmp 3] 1 :=
  ⟨Try.f17, Try.func17, by decide, by kernel_rfl, by kernel_rfl⟩

/-- slices.Concat[[]byte,byte] -/
noncomputable def ic_slices_Concat_byte_byte : IC :=
  (.seq (.ops [
    ⟨(some 2), none, false, .mov (.const (.slice none 0 0))⟩]) (.seq (.ops [
    ⟨(some 3), none, false, .mov (.const (.int .i64 0))⟩]) (.seq (.seq (.ops [
    ⟨(some 9), none, false, .mov (.tmp 0)⟩,
    ⟨(some 10), none, false, .lens false (.tmp 9)⟩,
    ⟨(some 11), none, false, .mov (.const (.int .i64 0))⟩]) (.block 0 (.loop (.seq (.ops [
    ⟨(some 12), none, false, .bin .lss (.tmp 11) (.tmp 10)⟩]) (.seq (.cond (.tmp 12) .skip (.exit 0)) (.seq (.block 1 (.seq (.ops [
    ⟨(some 13), none, false, .iaddr (.tmp 9) (.tmp 11) 1⟩,
    ⟨(some 14), none, false, .load1 (.tmp 13)⟩,
    ⟨(some 5), none, false, .mov (.tmp 14)⟩]) (.seq (.ops [
    ⟨(some 15), none, false, .mov (.tmp 3)⟩,
    ⟨(some 16), none, false, .mov (.tmp 5)⟩,
    ⟨(some 17), none, false, .lens false (.tmp 16)⟩,
    ⟨(some 18), none, false, .bin .add (.tmp 15) (.tmp 17)⟩,
    ⟨(some 3), none, false, .mov (.tmp 18)⟩]) (.seq (.ops [
    ⟨(some 19), none, false, .mov (.tmp 3)⟩,
    ⟨(some 20), none, false, .bin .lss (.tmp 19) (.const (.int .i64 0))⟩]) (.cond (.tmp 20) (.ops [
    ⟨(some 21), none, false, .ifc 9 (.const (.string ⟨#[108, 101, 110, 32, 111, 117, 116, 32, 111, 102, 32, 114, 97, 110, 103, 101]⟩))⟩,
    ⟨none, none, false, .fail⟩]) .skip))))) (.ops [
    ⟨(some 22), none, false, .bin .add (.tmp 11) (.const (.int .i64 1))⟩,
    ⟨(some 11), none, false, .mov (.tmp 22)⟩]))))))) (.seq (.ops [
    ⟨(some 23), none, false, .mov (.tmp 3)⟩,
    ⟨(some 24), none, false, .call slices_Grow_byte_byte [(.const (.slice none 0 0)), (.tmp 23)]⟩,
    ⟨(some 6), none, false, .mov (.tmp 24)⟩]) (.seq (.seq (.ops [
    ⟨(some 25), none, false, .mov (.tmp 0)⟩,
    ⟨(some 26), none, false, .lens false (.tmp 25)⟩,
    ⟨(some 27), none, false, .mov (.const (.int .i64 0))⟩]) (.block 2 (.loop (.seq (.ops [
    ⟨(some 28), none, false, .bin .lss (.tmp 27) (.tmp 26)⟩]) (.seq (.cond (.tmp 28) .skip (.exit 2)) (.seq (.block 3 (.seq (.ops [
    ⟨(some 29), none, false, .iaddr (.tmp 25) (.tmp 27) 1⟩,
    ⟨(some 30), none, false, .load1 (.tmp 29)⟩,
    ⟨(some 8), none, false, .mov (.tmp 30)⟩]) (.ops [
    ⟨(some 31), none, false, .mov (.tmp 6)⟩,
    ⟨(some 32), none, false, .mov (.tmp 8)⟩,
    ⟨(some 33), none, false, .app (.tmp 31) (.tmp 32) 1 1⟩,
    ⟨(some 6), none, false, .mov (.tmp 33)⟩]))) (.ops [
    ⟨(some 34), none, false, .bin .add (.tmp 27) (.const (.int .i64 1))⟩,
    ⟨(some 27), none, false, .mov (.tmp 34)⟩]))))))) (.seq (.ops [
    ⟨(some 35), none, false, .mov (.tmp 6)⟩,
    ⟨(some 2), none, false, .mov (.tmp 35)⟩]) .ret))))))
theorem fits_slices_Concat_byte_byte : Fits Try.prog 0 slices_Concat_byte_byte ic_slices_Concat_byte_byte [.tmp 2] 1 :=
  ⟨Try.f18, Try.func18, by decide, by kernel_rfl, by kernel_rfl⟩

/-- chantry/journal.each[[]byte,[]byte] -/
noncomputable def ic_journal_each_byte_byte : IC :=
  (.seq (.ops [
    ⟨(some 4), none, false, .mov (.const (.slice none 0 0))⟩]) (.seq (.ops [
    ⟨(some 5), none, false, .mov (.const (.slice none 0 0))⟩]) (.seq (.seq (.ops [
    ⟨(some 8), none, false, .mov (.tmp 0)⟩,
    ⟨(some 9), none, false, .lens false (.tmp 8)⟩,
    ⟨(some 10), none, false, .mov (.const (.int .i64 0))⟩]) (.block 0 (.loop (.seq (.ops [
    ⟨(some 11), none, false, .bin .lss (.tmp 10) (.tmp 9)⟩]) (.seq (.cond (.tmp 11) .skip (.exit 0)) (.seq (.block 1 (.seq (.ops [
    ⟨(some 12), none, false, .iaddr (.tmp 8) (.tmp 10) 1⟩,
    ⟨(some 13), none, false, .load1 (.tmp 12)⟩,
    ⟨(some 7), none, false, .mov (.tmp 13)⟩]) (.ops [
    ⟨(some 14), none, false, .mov (.tmp 5)⟩,
    ⟨(some 15), none, false, .mov (.tmp 1)⟩,
    ⟨(some 16), none, false, .mov (.tmp 7)⟩,
    ⟨(some 17), none, false, .calld (.tmp 15) [(.tmp 16)]⟩,
    ⟨(some 18), none, false, .lit [.slice none 0 0] 1 1 [(0, 1, (.tmp 17))]⟩,
    ⟨(some 19), none, false, .app (.tmp 14) (.tmp 18) 1 24⟩,
    ⟨(some 5), none, false, .mov (.tmp 19)⟩]))) (.ops [
    ⟨(some 20), none, false, .bin .add (.tmp 10) (.const (.int .i64 1))⟩,
    ⟨(some 10), none, false, .mov (.tmp 20)⟩]))))))) (.seq (.ops [
    ⟨(some 21), none, false, .mov (.tmp 5)⟩,
    ⟨(some 4), none, false, .mov (.tmp 21)⟩]) .ret))))
theorem fits_journal_each_byte_byte : Fits Try.prog 0 journal_each_byte_byte ic_journal_each_byte_byte [.tmp 4] 2 :=
  ⟨Try.f19, Try.func19, by decide, by kernel_rfl, by kernel_rfl⟩

/-- chantry/journal.text -/
noncomputable def ic_journal_text : IC :=
  (.seq (.ops [
    ⟨(some 2), none, false, .mov (.const (.slice none 0 0))⟩]) (.seq (.ops [
    ⟨(some 6), none, false, .mov (.tmp 0)⟩,
    ⟨(some 7), none, false, .call num_Text [(.tmp 6)]⟩,
    ⟨(some 5), none, false, .mov (.tmp 7)⟩,
    ⟨(some 8), none, false, .ext (.tmp 5) 0⟩,
    ⟨(some 9), none, false, .ext (.tmp 5) 1⟩,
    ⟨(some 3), none, false, .mov (.tmp 8)⟩,
    ⟨(some 4), none, false, .mov (.tmp 9)⟩]) (.seq (.ops [
    ⟨(some 10), none, false, .mov (.tmp 3)⟩,
    ⟨(some 2), none, false, .mov (.tmp 10)⟩]) .ret)))
theorem fits_journal_text : Fits Try.prog 0 journal_text ic_journal_text [.tmp 2] 1 :=
  ⟨Try.f20, Try.func20, by decide, by kernel_rfl, by kernel_rfl⟩

/-- chantry/chantryref01.Put -/
noncomputable def ic_chantryref01_Put : IC :=
  (.seq (.ops [
    ⟨(some 2), none, false, .mov (.const (.slice none 0 0))⟩,
    ⟨(some 3), none, false, .mov (.const (.int .i64 0))⟩]) (.seq (.seq (.ops [
    ⟨(some 5), none, false, .mov (.tmp 0)⟩,
    ⟨(some 6), none, false, .bin .lss (.tmp 5) (.const (.int .i64 0))⟩,
    ⟨(some 7), none, false, .mov (.tmp 6)⟩,
    ⟨(some 8), (some (7, false)), false, .mov (.tmp 0)⟩,
    ⟨(some 9), (some (7, false)), false, .bin .gtr (.tmp 8) (.const (.int .i64 2147483647))⟩,
    ⟨(some 10), none, false, .pick (.tmp 7) (.const (.bool true)) (.tmp 9)⟩]) (.cond (.tmp 10) (.seq (.ops [
    ⟨(some 2), none, false, .mov (.const (.slice none 0 0))⟩,
    ⟨(some 3), none, false, .mov (.const (.int .i64 1))⟩]) .ret) .skip)) (.seq (.ops [
    ⟨(some 4), none, false, .mov (.const (.slice none 0 0))⟩]) (.seq (.block 0 (.loop (.seq (.seq (.ops [
    ⟨(some 11), none, false, .mov (.tmp 0)⟩,
    ⟨(some 12), none, false, .bin .geq (.tmp 11) (.const (.int .i64 128))⟩]) (.cond (.tmp 12) .skip (.exit 0))) (.block 1 (.seq (.ops [
    ⟨(some 13), none, false, .mov (.tmp 4)⟩,
    ⟨(some 14), none, false, .mov (.tmp 0)⟩,
    ⟨(some 15), none, false, .bin .rem (.tmp 14) (.const (.int .i64 128))⟩,
    ⟨(some 16), none, false, .bin .add (.tmp 15) (.const (.int .i64 128))⟩,
    ⟨(some 17), none, false, .conv .u8 (.tmp 16)⟩,
    ⟨(some 18), none, false, .lit [.int .u8 0] 1 1 [(0, 1, (.tmp 17))]⟩,
    ⟨(some 19), none, false, .app (.tmp 13) (.tmp 18) 1 1⟩,
    ⟨(some 4), none, false, .mov (.tmp 19)⟩]) (.ops [
    ⟨(some 20), none, false, .mov (.tmp 0)⟩,
    ⟨(some 21), none, false, .bin .quo (.tmp 20) (.const (.int .i64 128))⟩,
    ⟨(some 0), none, false, .mov (.tmp 21)⟩])))))) (.seq (.ops [
    ⟨(some 22), none, false, .mov (.tmp 4)⟩,
    ⟨(some 23), none, false, .mov (.tmp 0)⟩,
    ⟨(some 24), none, false, .conv .u8 (.tmp 23)⟩,
    ⟨(some 25), none, false, .lit [.int .u8 0] 1 1 [(0, 1, (.tmp 24))]⟩,
    ⟨(some 26), none, false, .app (.tmp 22) (.tmp 25) 1 1⟩,
    ⟨(some 2), none, false, .mov (.tmp 26)⟩,
    ⟨(some 3), none, false, .mov (.const (.int .i64 0))⟩]) .ret)))))
theorem fits_chantryref01_Put : Fits Try.prog 0 chantryref01_Put ic_chantryref01_Put [.tmp 2, .tmp 3] 1 :=
  ⟨Try.f21, Try.func21, by decide, by kernel_rfl, by kernel_rfl⟩

/-- chantry/chantryref01.Text -/
noncomputable def ic_chantryref01_Text : IC :=
  (.seq (.ops [
    ⟨(some 2), none, false, .mov (.const (.slice none 0 0))⟩,
    ⟨(some 3), none, false, .mov (.const (.int .i64 0))⟩]) (.seq (.seq (.ops [
    ⟨(some 6), none, false, .mov (.tmp 0)⟩,
    ⟨(some 7), none, false, .lens false (.tmp 6)⟩,
    ⟨(some 8), none, false, .bin .gtr (.tmp 7) (.const (.int .i64 262144))⟩]) (.cond (.tmp 8) (.seq (.ops [
    ⟨(some 2), none, false, .mov (.const (.slice none 0 0))⟩,
    ⟨(some 3), none, false, .mov (.const (.int .i64 3))⟩]) .ret) .skip)) (.seq (.ops [
    ⟨(some 10), none, false, .mov (.tmp 0)⟩,
    ⟨(some 11), none, false, .lens false (.tmp 10)⟩,
    ⟨(some 12), none, false, .call chantryref01_Put [(.tmp 11)]⟩,
    ⟨(some 9), none, false, .mov (.tmp 12)⟩,
    ⟨(some 13), none, false, .ext (.tmp 9) 0⟩,
    ⟨(some 14), none, false, .ext (.tmp 9) 1⟩,
    ⟨(some 4), none, false, .mov (.tmp 13)⟩,
    ⟨(some 5), none, false, .mov (.tmp 14)⟩]) (.seq (.ops [
    ⟨(some 15), none, false, .mov (.tmp 4)⟩,
    ⟨(some 16), none, false, .mov (.tmp 0)⟩,
    ⟨(some 17), none, false, .app (.tmp 15) (.tmp 16) 1 1⟩,
    ⟨(some 2), none, false, .mov (.tmp 17)⟩,
    ⟨(some 3), none, false, .mov (.const (.int .i64 0))⟩]) .ret))))
theorem fits_chantryref01_Text : Fits Try.prog 0 chantryref01_Text ic_chantryref01_Text [.tmp 2, .tmp 3] 1 :=
  ⟨Try.f22, Try.func22, by decide, by kernel_rfl, by kernel_rfl⟩

/-- chantry/num.From -/
noncomputable def ic_num_From : IC :=
  (.seq (.ops [
    ⟨(some 2), none, false, .mov (.const (.pointer none))⟩]) (.seq (.ops [
    ⟨(some 3), none, false, .mov (.tmp 0)⟩,
    ⟨(some 4), none, false, .call slices_Clone_byte_byte [(.tmp 3)]⟩,
    ⟨(some 5), none, false, .build [.slice none 0 0, .bool false] [(0, 1, (.tmp 4))]⟩,
    ⟨(some 6), none, false, .box (.tmp 5)⟩,
    ⟨(some 2), none, false, .mov (.tmp 6)⟩]) .ret))
theorem fits_num_From : Fits Try.prog 0 num_From ic_num_From [.tmp 2] 1 :=
  ⟨Try.f23, Try.func23, by decide, by kernel_rfl, by kernel_rfl⟩

/-- (*chantry/num.Cursor).Num -/
noncomputable def ic_num_Cursor_Num : IC :=
  (.seq (.ops [
    ⟨(some 2), none, false, .mov (.const (.int .i64 0))⟩]) (.seq (.seq (.ops [
    ⟨(some 6), none, false, .mov (.tmp 0)⟩,
    ⟨(some 7), none, false, .call num_Cursor_Bad [(.tmp 6)]⟩]) (.cond (.tmp 7) (.seq (.ops [
    ⟨(some 2), none, false, .mov (.const (.int .i64 0))⟩]) .ret) .skip)) (.seq (.ops [
    ⟨(some 9), none, false, .mov (.tmp 0)⟩,
    ⟨(some 10), none, false, .nilc (.tmp 9)⟩,
    ⟨(some 11), none, false, .faddr (.tmp 10) 0⟩,
    ⟨(some 12), none, false, .load1 (.tmp 11)⟩,
    ⟨(some 13), none, false, .call num_Get [(.tmp 12)]⟩,
    ⟨(some 8), none, false, .mov (.tmp 13)⟩,
    ⟨(some 14), none, false, .ext (.tmp 8) 0⟩,
    ⟨(some 15), none, false, .ext (.tmp 8) 1⟩,
    ⟨(some 16), none, false, .ext (.tmp 8) 2⟩,
    ⟨(some 3), none, false, .mov (.tmp 14)⟩,
    ⟨(some 4), none, false, .mov (.tmp 15)⟩,
    ⟨(some 5), none, false, .mov (.tmp 16)⟩]) (.seq (.seq (.ops [
    ⟨(some 17), none, false, .mov (.tmp 5)⟩,
    ⟨(some 18), none, false, .bin .neq (.tmp 17) (.const (.int .i64 0))⟩]) (.cond (.tmp 18) (.seq (.ops [
    ⟨(some 19), none, false, .mov (.tmp 0)⟩,
    ⟨(some 20), none, false, .call num_Cursor_fail [(.tmp 19)]⟩]) (.seq (.ops [
    ⟨(some 2), none, false, .mov (.const (.int .i64 0))⟩]) .ret)) .skip)) (.seq (.ops [
    ⟨(some 21), none, false, .mov (.tmp 0)⟩,
    ⟨(some 22), none, false, .mov (.tmp 0)⟩,
    ⟨(some 23), none, false, .nilc (.tmp 22)⟩,
    ⟨(some 24), none, false, .faddr (.tmp 23) 0⟩,
    ⟨(some 25), none, false, .load1 (.tmp 24)⟩,
    ⟨(some 26), none, false, .mov (.tmp 4)⟩,
    ⟨(some 27), none, false, .sll (.tmp 25) (some (.tmp 26)) none none 1⟩,
    ⟨(some 28), none, false, .nilc (.tmp 21)⟩,
    ⟨(some 29), none, false, .faddr (.tmp 28) 0⟩,
    ⟨none, none, false, .store (.tmp 29) (.tmp 27) 1⟩]) (.seq (.ops [
    ⟨(some 30), none, false, .mov (.tmp 3)⟩,
    ⟨(some 2), none, false, .mov (.tmp 30)⟩]) .ret))))))
theorem fits_num_Cursor_Num : Fits Try.prog 0 num_Cursor_Num ic_num_Cursor_Num [.tmp 2] 1 :=
  ⟨Try.f24, Try.func24, by decide, by kernel_rfl, by kernel_rfl⟩

/-- (*chantry/num.Cursor).Bad -/
noncomputable def ic_num_Cursor_Bad : IC :=
  (.seq (.ops [
    ⟨(some 2), none, false, .mov (.const (.bool false))⟩]) (.seq (.ops [
    ⟨(some 3), none, false, .mov (.tmp 0)⟩,
    ⟨(some 4), none, false, .isnil (.pointer 60) (.tmp 3) false⟩,
    ⟨(some 5), none, false, .mov (.tmp 4)⟩,
    ⟨(some 6), (some (5, false)), false, .mov (.tmp 0)⟩,
    ⟨(some 7), (some (5, false)), false, .nilc (.tmp 6)⟩,
    ⟨(some 8), (some (5, false)), false, .faddr (.tmp 7) 1⟩,
    ⟨(some 9), (some (5, false)), false, .load1 (.tmp 8)⟩,
    ⟨(some 10), none, false, .pick (.tmp 5) (.const (.bool true)) (.tmp 9)⟩,
    ⟨(some 2), none, false, .mov (.tmp 10)⟩]) .ret))
theorem fits_num_Cursor_Bad : Fits Try.prog 0 num_Cursor_Bad ic_num_Cursor_Bad [.tmp 2] 1 :=
  ⟨Try.f25, Try.func25, by decide, by kernel_rfl, by kernel_rfl⟩

/-- (*chantry/num.Cursor).Text -/
noncomputable def ic_num_Cursor_Text : IC :=
  (.seq (.ops [
    ⟨(some 2), none, false, .mov (.const (.slice none 0 0))⟩]) (.seq (.ops [
    ⟨(some 4), none, false, .mov (.tmp 0)⟩,
    ⟨(some 5), none, false, .call num_Cursor_Num [(.tmp 4)]⟩,
    ⟨(some 3), none, false, .mov (.tmp 5)⟩]) (.seq (.seq (.ops [
    ⟨(some 6), none, false, .mov (.tmp 3)⟩,
    ⟨(some 7), none, false, .bin .gtr (.tmp 6) (.const (.int .i64 262144))⟩]) (.cond (.tmp 7) (.ops [
    ⟨(some 3), none, false, .mov (.const (.int .i64 (-1)))⟩]) .skip)) (.seq (.seq (.ops [
    ⟨(some 8), none, false, .mov (.tmp 0)⟩,
    ⟨(some 9), none, false, .call num_Cursor_Bad [(.tmp 8)]⟩]) (.cond (.tmp 9) (.seq (.ops [
    ⟨(some 2), none, false, .mov (.const (.slice none 0 0))⟩]) .ret) .skip)) (.seq (.ops [
    ⟨(some 10), none, false, .mov (.tmp 0)⟩,
    ⟨(some 11), none, false, .mov (.tmp 3)⟩,
    ⟨(some 12), none, false, .call num_Cursor_Take [(.tmp 10), (.tmp 11)]⟩,
    ⟨(some 2), none, false, .mov (.tmp 12)⟩]) .ret)))))
theorem fits_num_Cursor_Text : Fits Try.prog 0 num_Cursor_Text ic_num_Cursor_Text [.tmp 2] 1 :=
  ⟨Try.f26, Try.func26, by decide, by kernel_rfl, by kernel_rfl⟩

/-- (*chantry/num.Cursor).Left -/
noncomputable def ic_num_Cursor_Left : IC :=
  (.seq (.ops [
    ⟨(some 2), none, false, .mov (.const (.int .i64 0))⟩]) (.seq (.seq (.ops [
    ⟨(some 3), none, false, .mov (.tmp 0)⟩,
    ⟨(some 4), none, false, .call num_Cursor_Bad [(.tmp 3)]⟩]) (.cond (.tmp 4) (.seq (.ops [
    ⟨(some 2), none, false, .mov (.const (.int .i64 0))⟩]) .ret) .skip)) (.seq (.ops [
    ⟨(some 5), none, false, .mov (.tmp 0)⟩,
    ⟨(some 6), none, false, .nilc (.tmp 5)⟩,
    ⟨(some 7), none, false, .faddr (.tmp 6) 0⟩,
    ⟨(some 8), none, false, .load1 (.tmp 7)⟩,
    ⟨(some 9), none, false, .lens false (.tmp 8)⟩,
    ⟨(some 2), none, false, .mov (.tmp 9)⟩]) .ret)))
theorem fits_num_Cursor_Left : Fits Try.prog 0 num_Cursor_Left ic_num_Cursor_Left [.tmp 2] 1 :=
  ⟨Try.f27, Try.func27, by decide, by kernel_rfl, by kernel_rfl⟩

/-- chantry/journal.Get$1 -/
noncomputable def ic_journal_Get_1 : IC :=
  (.seq (.ops [
    ⟨(some 2), none, false, .mov (.const (.int .i64 0))⟩]) (.seq (.ops [
    ⟨(some 3), none, false, .mov (.tmp 0)⟩,
    ⟨(some 4), none, false, .lens false (.tmp 3)⟩,
    ⟨(some 2), none, false, .mov (.tmp 4)⟩]) .ret))
theorem fits_journal_Get_1 : Fits Try.prog 0 journal_Get_1 ic_journal_Get_1 [.tmp 2] 1 :=
  ⟨Try.f28, Try.func28, by decide, by kernel_rfl, by kernel_rfl⟩

/-- chantry/chantryref01.Num -/
noncomputable def ic_chantryref01_Num : IC :=
  (.seq (.ops [
    ⟨(some 1), none, false, .box (.tmp 0)⟩,
    ⟨(some 2), none, false, .new [.slice none 0 0, .int .i64 0, .bool false]⟩,
    ⟨(some 3), none, false, .mov (.const (.int .i64 0))⟩]) (.seq (.seq (.ops [
    ⟨(some 7), none, false, .faddr (.tmp 1) 2⟩,
    ⟨(some 8), none, false, .load1 (.tmp 7)⟩]) (.cond (.tmp 8) (.seq (.ops [
    ⟨(some 9), none, false, .loadn (.tmp 1) 3⟩,
    ⟨none, none, false, .store (.tmp 2) (.tmp 9) 3⟩,
    ⟨(some 3), none, false, .mov (.const (.int .i64 0))⟩]) .ret) .skip)) (.seq (.ops [
    ⟨(some 11), none, false, .faddr (.tmp 1) 0⟩,
    ⟨(some 12), none, false, .load1 (.tmp 11)⟩,
    ⟨(some 13), none, false, .faddr (.tmp 1) 1⟩,
    ⟨(some 14), none, false, .load1 (.tmp 13)⟩,
    ⟨(some 15), none, false, .sll (.tmp 12) (some (.tmp 14)) none none 1⟩,
    ⟨(some 16), none, false, .call chantryref01_Get [(.tmp 15)]⟩,
    ⟨(some 10), none, false, .mov (.tmp 16)⟩,
    ⟨(some 17), none, false, .ext (.tmp 10) 0⟩,
    ⟨(some 18), none, false, .ext (.tmp 10) 1⟩,
    ⟨(some 19), none, false, .ext (.tmp 10) 2⟩,
    ⟨(some 4), none, false, .mov (.tmp 17)⟩,
    ⟨(some 5), none, false, .mov (.tmp 18)⟩,
    ⟨(some 6), none, false, .mov (.tmp 19)⟩]) (.seq (.seq (.ops [
    ⟨(some 20), none, false, .mov (.tmp 6)⟩,
    ⟨(some 21), none, false, .bin .neq (.tmp 20) (.const (.int .i64 0))⟩]) (.cond (.tmp 21) (.seq (.ops [
    ⟨(some 22), none, false, .loadn (.tmp 1) 3⟩,
    ⟨(some 23), none, false, .call chantryref01_spoilt [(.tmp 22)]⟩,
    ⟨none, none, false, .store (.tmp 2) (.tmp 23) 3⟩,
    ⟨(some 3), none, false, .mov (.const (.int .i64 0))⟩]) .ret) .skip)) (.seq (.ops [
    ⟨(some 24), none, false, .faddr (.tmp 1) 0⟩,
    ⟨(some 25), none, false, .load1 (.tmp 24)⟩,
    ⟨(some 26), none, false, .faddr (.tmp 1) 1⟩,
    ⟨(some 27), none, false, .load1 (.tmp 26)⟩,
    ⟨(some 28), none, false, .mov (.tmp 5)⟩,
    ⟨(some 29), none, false, .bin .add (.tmp 27) (.tmp 28)⟩,
    ⟨(some 30), none, false, .build [.slice none 0 0, .int .i64 0, .bool false] [(0, 1, (.tmp 25)), (1, 1, (.tmp 29))]⟩,
    ⟨(some 31), none, false, .mov (.tmp 4)⟩,
    ⟨none, none, false, .store (.tmp 2) (.tmp 30) 3⟩,
    ⟨(some 3), none, false, .mov (.tmp 31)⟩]) .ret)))))
theorem fits_chantryref01_Num : Fits Try.prog 0 chantryref01_Num ic_chantryref01_Num [.many 2 3, .tmp 3] 1 :=
  ⟨Try.f29, Try.func29, by decide, by kernel_rfl, by kernel_rfl⟩

/-- chantry/chantryref01.From -/
noncomputable def ic_chantryref01_From : IC :=
  (.seq (.ops [
    ⟨(some 2), none, false, .new [.slice none 0 0, .int .i64 0, .bool false]⟩]) (.seq (.ops [
    ⟨(some 3), none, false, .mov (.tmp 0)⟩,
    ⟨(some 4), none, false, .build [.slice none 0 0, .int .i64 0, .bool false] [(0, 1, (.tmp 3))]⟩,
    ⟨none, none, false, .store (.tmp 2) (.tmp 4) 3⟩]) .ret))
theorem fits_chantryref01_From : Fits Try.prog 0 chantryref01_From ic_chantryref01_From [.many 2 3] 1 :=
  ⟨Try.f30, Try.func30, by decide, by kernel_rfl, by kernel_rfl⟩

/-- chantry/chantryref01.TakeText -/
noncomputable def ic_chantryref01_TakeText : IC :=
  (.seq (.ops [
    ⟨(some 1), none, false, .box (.tmp 0)⟩,
    ⟨(some 2), none, false, .new [.slice none 0 0, .int .i64 0, .bool false]⟩,
    ⟨(some 3), none, false, .mov (.const (.slice none 0 0))⟩]) (.seq (.ops [
    ⟨(some 7), none, false, .loadn (.tmp 1) 3⟩,
    ⟨(some 8), none, false, .call chantryref01_Num [(.tmp 7)]⟩,
    ⟨(some 6), none, false, .mov (.tmp 8)⟩,
    ⟨(some 9), none, false, .ext (.tmp 6) 0⟩,
    ⟨(some 10), none, false, .ext (.tmp 6) 1⟩,
    ⟨(some 4), none, false, .new [.slice none 0 0, .int .i64 0, .bool false]⟩,
    ⟨none, none, false, .store (.tmp 4) (.tmp 9) 3⟩,
    ⟨(some 5), none, false, .mov (.tmp 10)⟩]) (.seq (.seq (.ops [
    ⟨(some 11), none, false, .faddr (.tmp 4) 2⟩,
    ⟨(some 12), none, false, .load1 (.tmp 11)⟩,
    ⟨(some 13), none, false, .mov (.tmp 12)⟩,
    ⟨(some 14), (some (13, false)), false, .mov (.tmp 5)⟩,
    ⟨(some 15), (some (13, false)), false, .bin .gtr (.tmp 14) (.const (.int .i64 262144))⟩,
    ⟨(some 16), none, false, .pick (.tmp 13) (.const (.bool true)) (.tmp 15)⟩]) (.cond (.tmp 16) (.seq (.ops [
    ⟨(some 17), none, false, .loadn (.tmp 1) 3⟩,
    ⟨(some 18), none, false, .call chantryref01_spoilt [(.tmp 17)]⟩,
    ⟨none, none, false, .store (.tmp 2) (.tmp 18) 3⟩,
    ⟨(some 3), none, false, .mov (.const (.slice none 0 0))⟩]) .ret) .skip)) (.seq (.ops [
    ⟨(some 19), none, false, .loadn (.tmp 4) 3⟩,
    ⟨(some 20), none, false, .mov (.tmp 5)⟩,
    ⟨(some 21), none, false, .call chantryref01_Take [(.tmp 19), (.tmp 20)]⟩,
    ⟨(some 22), none, false, .ext (.tmp 21) 0⟩,
    ⟨(some 23), none, false, .ext (.tmp 21) 1⟩,
    ⟨none, none, false, .store (.tmp 2) (.tmp 22) 3⟩,
    ⟨(some 3), none, false, .mov (.tmp 23)⟩]) .ret))))
theorem fits_chantryref01_TakeText : Fits Try.prog 0 chantryref01_TakeText ic_chantryref01_TakeText [.many 2 3, .tmp 3] 1 :=
  ⟨Try.f31, Try.func31, by decide, by kernel_rfl, by kernel_rfl⟩

/-- slices.IndexFunc[[]int,int] -/
noncomputable def ic_slices_IndexFunc_int_int : IC :=
  (.seq (.ops [
    ⟨(some 4), none, false, .mov (.const (.int .i64 0))⟩]) (.seq (.seq (.ops [
    ⟨(some 6), none, false, .mov (.tmp 0)⟩,
    ⟨(some 7), none, false, .lens false (.tmp 6)⟩,
    ⟨(some 8), none, false, .mov (.const (.int .i64 0))⟩]) (.block 0 (.loop (.seq (.ops [
    ⟨(some 9), none, false, .bin .lss (.tmp 8) (.tmp 7)⟩]) (.seq (.cond (.tmp 9) .skip (.exit 0)) (.seq (.block 1 (.seq (.ops [
    ⟨(some 10), none, false, .mov (.tmp 8)⟩,
    ⟨(some 5), none, false, .mov (.tmp 10)⟩]) (.seq (.ops [
    ⟨(some 11), none, false, .mov (.tmp 1)⟩,
    ⟨(some 12), none, false, .mov (.tmp 0)⟩,
    ⟨(some 13), none, false, .mov (.tmp 5)⟩,
    ⟨(some 14), none, false, .iaddr (.tmp 12) (.tmp 13) 1⟩,
    ⟨(some 15), none, false, .load1 (.tmp 14)⟩,
    ⟨(some 16), none, false, .calld (.tmp 11) [(.tmp 15)]⟩]) (.cond (.tmp 16) (.seq (.ops [
    ⟨(some 17), none, false, .mov (.tmp 5)⟩,
    ⟨(some 4), none, false, .mov (.tmp 17)⟩]) .ret) .skip)))) (.ops [
    ⟨(some 18), none, false, .bin .add (.tmp 8) (.const (.int .i64 1))⟩,
    ⟨(some 8), none, false, .mov (.tmp 18)⟩]))))))) (.seq (.ops [
    ⟨(some 4), none, false, .mov (.const (.int .i64 (-1)))⟩]) .ret)))
theorem fits_slices_IndexFunc_int_int : Fits Try.prog 0 slices_IndexFunc_int_int ic_slices_IndexFunc_int_int [.tmp 4] 2 :=
  ⟨Try.f32, Try.func32, by decide, by kernel_rfl, by kernel_rfl⟩

/-- chantry/journal.check$1 -/
noncomputable def ic_journal_check_1 : IC :=
  (.seq (.ops [
    ⟨(some 2), none, false, .mov (.const (.bool false))⟩]) (.seq (.ops [
    ⟨(some 3), none, false, .mov (.tmp 0)⟩,
    ⟨(some 4), none, false, .bin .lss (.tmp 3) (.const (.int .i64 1))⟩,
    ⟨(some 5), none, false, .mov (.tmp 4)⟩,
    ⟨(some 6), (some (5, false)), false, .mov (.tmp 0)⟩,
    ⟨(some 7), (some (5, false)), false, .bin .gtr (.tmp 6) (.const (.int .i64 384))⟩,
    ⟨(some 8), none, false, .pick (.tmp 5) (.const (.bool true)) (.tmp 7)⟩,
    ⟨(some 2), none, false, .mov (.tmp 8)⟩]) .ret))
theorem fits_journal_check_1 : Fits Try.prog 0 journal_check_1 ic_journal_check_1 [.tmp 2] 1 :=
  ⟨Try.f33, Try.func33, by decide, by kernel_rfl, by kernel_rfl⟩

/-- chantry/num.is -/
noncomputable def ic_num_is : IC :=
  (.seq (.ops [
    ⟨(some 2), none, false, .mov (.const (.bool false))⟩]) (.seq (.ops [
    ⟨(some 3), none, false, .mov (.tmp 0)⟩,
    ⟨(some 4), none, false, .bin .geq (.tmp 3) (.const (.int .i64 0))⟩,
    ⟨(some 5), none, false, .mov (.tmp 4)⟩,
    ⟨(some 6), (some (5, true)), false, .mov (.tmp 0)⟩,
    ⟨(some 7), (some (5, true)), false, .bin .leq (.tmp 6) (.const (.int .i64 2147483647))⟩,
    ⟨(some 8), none, false, .pick (.tmp 5) (.tmp 7) (.const (.bool false))⟩,
    ⟨(some 2), none, false, .mov (.tmp 8)⟩]) .ret))
theorem fits_num_is : Fits Try.prog 0 num_is ic_num_is [.tmp 2] 1 :=
  ⟨Try.f34, Try.func34, by decide, by kernel_rfl, by kernel_rfl⟩

/-- slices.Grow[[]byte,byte] -/
noncomputable def ic_slices_Grow_byte_byte : IC :=
  (.seq (.ops [
    ⟨(some 4), none, false, .mov (.const (.slice none 0 0))⟩]) (.seq (.seq (.ops [
    ⟨(some 5), none, false, .mov (.tmp 1)⟩,
    ⟨(some 6), none, false, .bin .lss (.tmp 5) (.const (.int .i64 0))⟩]) (.cond (.tmp 6) (.ops [
    ⟨(some 7), none, false, .ifc 9 (.const (.string ⟨#[99, 97, 110, 110, 111, 116, 32, 98, 101, 32, 110, 101, 103, 97, 116, 105, 118, 101]⟩))⟩,
    ⟨none, none, false, .fail⟩]) .skip)) (.seq (.seq (.ops [
    ⟨(some 8), none, false, .mov (.tmp 1)⟩,
    ⟨(some 9), none, false, .mov (.tmp 0)⟩,
    ⟨(some 10), none, false, .capn (.tmp 9)⟩,
    ⟨(some 11), none, false, .mov (.tmp 0)⟩,
    ⟨(some 12), none, false, .lens false (.tmp 11)⟩,
    ⟨(some 13), none, false, .bin .sub (.tmp 10) (.tmp 12)⟩,
    ⟨(some 14), none, false, .bin .sub (.tmp 8) (.tmp 13)⟩,
    ⟨(some 1), none, false, .mov (.tmp 14)⟩]) (.seq (.ops [
    ⟨(some 15), none, false, .mov (.tmp 1)⟩,
    ⟨(some 16), none, false, .bin .gtr (.tmp 15) (.const (.int .i64 0))⟩]) (.cond (.tmp 16) (.ops [
    ⟨(some 17), none, false, .mov (.tmp 0)⟩,
    ⟨(some 18), none, false, .mov (.tmp 0)⟩,
    ⟨(some 19), none, false, .capn (.tmp 18)⟩,
    ⟨(some 20), none, false, .sll (.tmp 17) none (some (.tmp 19)) none 1⟩,
    ⟨(some 21), none, false, .mov (.tmp 1)⟩,
    ⟨(some 22), none, false, .appz (.tmp 20) (.tmp 21) [.int .u8 0] 1⟩,
    ⟨(some 23), none, false, .mov (.tmp 0)⟩,
    ⟨(some 24), none, false, .lens false (.tmp 23)⟩,
    ⟨(some 25), none, false, .sll (.tmp 22) none (some (.tmp 24)) none 1⟩,
    ⟨(some 0), none, false, .mov (.tmp 25)⟩]) .skip))) (.seq (.ops [
    ⟨(some 26), none, false, .mov (.tmp 0)⟩,
    ⟨(some 4), none, false, .mov (.tmp 26)⟩]) .ret))))
theorem fits_slices_Grow_byte_byte : Fits Try.prog 0 slices_Grow_byte_byte ic_slices_Grow_byte_byte [.tmp 4] 2 :=
  ⟨Try.f35, Try.func35, by decide, by kernel_rfl, by kernel_rfl⟩

/-- chantry/num.Text -/
noncomputable def ic_num_Text : IC :=
  (.seq (.ops [
    ⟨(some 2), none, false, .mov (.const (.slice none 0 0))⟩,
    ⟨(some 3), none, false, .mov (.const (.int .i64 0))⟩]) (.seq (.seq (.ops [
    ⟨(some 6), none, false, .mov (.tmp 0)⟩,
    ⟨(some 7), none, false, .lens false (.tmp 6)⟩,
    ⟨(some 8), none, false, .bin .gtr (.tmp 7) (.const (.int .i64 262144))⟩]) (.cond (.tmp 8) (.seq (.ops [
    ⟨(some 2), none, false, .mov (.const (.slice none 0 0))⟩,
    ⟨(some 3), none, false, .mov (.const (.int .i64 3))⟩]) .ret) .skip)) (.seq (.ops [
    ⟨(some 10), none, false, .mov (.tmp 0)⟩,
    ⟨(some 11), none, false, .lens false (.tmp 10)⟩,
    ⟨(some 12), none, false, .call num_Put [(.tmp 11)]⟩,
    ⟨(some 9), none, false, .mov (.tmp 12)⟩,
    ⟨(some 13), none, false, .ext (.tmp 9) 0⟩,
    ⟨(some 14), none, false, .ext (.tmp 9) 1⟩,
    ⟨(some 4), none, false, .mov (.tmp 13)⟩,
    ⟨(some 5), none, false, .mov (.tmp 14)⟩]) (.seq (.ops [
    ⟨(some 15), none, false, .mov (.tmp 4)⟩,
    ⟨(some 16), none, false, .mov (.tmp 0)⟩,
    ⟨(some 17), none, false, .lit [.slice none 0 0] 1 2 [(0, 1, (.tmp 15)), (1, 1, (.tmp 16))]⟩,
    ⟨(some 18), none, false, .call slices_Concat_byte_byte [(.tmp 17)]⟩,
    ⟨(some 2), none, false, .mov (.tmp 18)⟩,
    ⟨(some 3), none, false, .mov (.const (.int .i64 0))⟩]) .ret))))
theorem fits_num_Text : Fits Try.prog 0 num_Text ic_num_Text [.tmp 2, .tmp 3] 1 :=
  ⟨Try.f36, Try.func36, by decide, by kernel_rfl, by kernel_rfl⟩

/-- slices.Clone[[]byte,byte] -/
noncomputable def ic_slices_Clone_byte_byte : IC :=
  (.seq (.ops [
    ⟨(some 2), none, false, .mov (.const (.slice none 0 0))⟩]) (.seq (.seq (.ops [
    ⟨(some 3), none, false, .mov (.tmp 0)⟩,
    ⟨(some 4), none, false, .isnil (.slice 5) (.tmp 3) false⟩]) (.cond (.tmp 4) (.seq (.ops [
    ⟨(some 2), none, false, .mov (.const (.slice none 0 0))⟩]) .ret) .skip)) (.seq (.ops [
    ⟨(some 5), none, false, .lit [.int .u8 0] 1 0 []⟩,
    ⟨(some 6), none, false, .mov (.tmp 0)⟩,
    ⟨(some 7), none, false, .app (.tmp 5) (.tmp 6) 1 1⟩,
    ⟨(some 2), none, false, .mov (.tmp 7)⟩]) .ret)))
theorem fits_slices_Clone_byte_byte : Fits Try.prog 0 slices_Clone_byte_byte ic_slices_Clone_byte_byte [.tmp 2] 1 :=
  ⟨Try.f37, Try.func37, by decide, by kernel_rfl, by kernel_rfl⟩

/-- chantry/num.Get -/
noncomputable def ic_num_Get : IC :=
  (.seq (.ops [
    ⟨(some 2), none, false, .mov (.const (.int .i64 0))⟩,
    ⟨(some 3), none, false, .mov (.const (.int .i64 0))⟩,
    ⟨(some 4), none, false, .mov (.const (.int .i64 0))⟩]) (.seq (.ops [
    ⟨(some 5), none, false, .mov (.const (.int .i64 0))⟩]) (.seq (.seq (.ops [
    ⟨(some 8), none, false, .mov (.tmp 0)⟩,
    ⟨(some 9), none, false, .mov (.tmp 0)⟩,
    ⟨(some 10), none, false, .lens false (.tmp 9)⟩,
    ⟨(some 11), none, false, .mn (.tmp 10) (.const (.int .i64 5))⟩,
    ⟨(some 12), none, false, .sll (.tmp 8) none (some (.tmp 11)) none 1⟩,
    ⟨(some 13), none, false, .lens false (.tmp 12)⟩,
    ⟨(some 14), none, false, .mov (.const (.int .i64 0))⟩]) (.block 0 (.loop (.seq (.ops [
    ⟨(some 15), none, false, .bin .lss (.tmp 14) (.tmp 13)⟩]) (.seq (.cond (.tmp 15) .skip (.exit 0)) (.seq (.block 1 (.seq (.ops [
    ⟨(some 16), none, false, .mov (.tmp 14)⟩,
    ⟨(some 17), none, false, .iaddr (.tmp 12) (.tmp 14) 1⟩,
    ⟨(some 18), none, false, .load1 (.tmp 17)⟩,
    ⟨(some 6), none, false, .mov (.tmp 16)⟩,
    ⟨(some 7), none, false, .mov (.tmp 18)⟩]) (.seq (.ops [
    ⟨(some 19), none, false, .mov (.tmp 5)⟩,
    ⟨(some 20), none, false, .mov (.tmp 7)⟩,
    ⟨(some 21), none, false, .bin .and (.tmp 20) (.const (.int .u8 127))⟩,
    ⟨(some 22), none, false, .conv .i64 (.tmp 21)⟩,
    ⟨(some 23), none, false, .mov (.tmp 6)⟩,
    ⟨(some 24), none, false, .bin .mul (.const (.int .i64 7)) (.tmp 23)⟩,
    ⟨(some 25), none, false, .bin .shl (.tmp 22) (.tmp 24)⟩,
    ⟨(some 26), none, false, .bin .or (.tmp 19) (.tmp 25)⟩,
    ⟨(some 5), none, false, .mov (.tmp 26)⟩]) (.seq (.block 2 (.seq (.ops [
    ⟨(some 28), none, false, .mov (.tmp 7)⟩,
    ⟨(some 29), none, false, .bin .geq (.tmp 28) (.const (.int .u8 128))⟩,
    ⟨(some 27), none, false, .mov (.tmp 29)⟩]) (.cond (.tmp 27) (.exit 1) (.seq (.ops [
    ⟨(some 31), none, false, .mov (.tmp 5)⟩,
    ⟨(some 32), none, false, .call num_is [(.tmp 31)]⟩,
    ⟨(some 33), none, false, .un .not (.tmp 32)⟩,
    ⟨(some 34), none, false, .mov (.tmp 33)⟩,
    ⟨(some 35), (some (34, false)), false, .mov (.tmp 6)⟩,
    ⟨(some 36), (some (34, false)), false, .bin .gtr (.tmp 35) (.const (.int .i64 0))⟩,
    ⟨(some 37), (some (34, false)), false, .mov (.tmp 36)⟩,
    ⟨(some 38), (some (37, true)), false, .mov (.tmp 7)⟩,
    ⟨(some 39), (some (37, true)), false, .bin .eql (.tmp 38) (.const (.int .u8 0))⟩,
    ⟨(some 40), (some (34, false)), false, .pick (.tmp 37) (.tmp 39) (.const (.bool false))⟩,
    ⟨(some 41), none, false, .pick (.tmp 34) (.const (.bool true)) (.tmp 40)⟩,
    ⟨(some 30), none, false, .mov (.tmp 41)⟩]) (.cond (.tmp 30) (.seq (.ops [
    ⟨(some 2), none, false, .mov (.const (.int .i64 0))⟩,
    ⟨(some 3), none, false, .mov (.const (.int .i64 0))⟩,
    ⟨(some 4), none, false, .mov (.const (.int .i64 5))⟩]) .ret) .skip))))) (.seq (.ops [
    ⟨(some 42), none, false, .mov (.tmp 5)⟩,
    ⟨(some 43), none, false, .mov (.tmp 6)⟩,
    ⟨(some 44), none, false, .bin .add (.tmp 43) (.const (.int .i64 1))⟩,
    ⟨(some 2), none, false, .mov (.tmp 42)⟩,
    ⟨(some 3), none, false, .mov (.tmp 44)⟩,
    ⟨(some 4), none, false, .mov (.const (.int .i64 0))⟩]) .ret))))) (.ops [
    ⟨(some 45), none, false, .bin .add (.tmp 14) (.const (.int .i64 1))⟩,
    ⟨(some 14), none, false, .mov (.tmp 45)⟩]))))))) (.seq (.ops [
    ⟨(some 2), none, false, .mov (.const (.int .i64 0))⟩,
    ⟨(some 3), none, false, .mov (.const (.int .i64 0))⟩,
    ⟨(some 4), none, false, .mov (.const (.int .i64 5))⟩]) .ret))))
theorem fits_num_Get : Fits Try.prog 0 num_Get ic_num_Get [.tmp 2, .tmp 3, .tmp 4] 1 :=
  ⟨Try.f38, Try.func38, by decide, by kernel_rfl, by kernel_rfl⟩

/-- (*chantry/num.Cursor).fail -/
noncomputable def ic_num_Cursor_fail : IC :=
  (.seq (.ops [
    ⟨(some 2), none, false, .mov (.tmp 0)⟩,
    ⟨(some 3), none, false, .isnil (.pointer 60) (.tmp 2) true⟩]) (.cond (.tmp 3) (.ops [
    ⟨(some 4), none, false, .mov (.tmp 0)⟩,
    ⟨(some 5), none, false, .mov (.tmp 0)⟩,
    ⟨(some 6), none, false, .nilc (.tmp 4)⟩,
    ⟨(some 7), none, false, .faddr (.tmp 6) 0⟩,
    ⟨none, none, false, .store (.tmp 7) (.const (.slice none 0 0)) 1⟩,
    ⟨(some 8), none, false, .nilc (.tmp 5)⟩,
    ⟨(some 9), none, false, .faddr (.tmp 8) 1⟩,
    ⟨none, none, false, .store (.tmp 9) (.const (.bool true)) 1⟩]) .skip))
theorem fits_num_Cursor_fail : Fits Try.prog 0 num_Cursor_fail ic_num_Cursor_fail [] 1 :=
  ⟨Try.f39, Try.func39, by decide, by kernel_rfl, by kernel_rfl⟩

/-- (*chantry/num.Cursor).Take -/
noncomputable def ic_num_Cursor_Take : IC :=
  (.seq (.ops [
    ⟨(some 4), none, false, .mov (.const (.slice none 0 0))⟩]) (.seq (.seq (.ops [
    ⟨(some 6), none, false, .mov (.tmp 0)⟩,
    ⟨(some 7), none, false, .call num_Cursor_Bad [(.tmp 6)]⟩,
    ⟨(some 8), none, false, .mov (.tmp 7)⟩,
    ⟨(some 9), (some (8, false)), false, .mov (.tmp 1)⟩,
    ⟨(some 10), (some (8, false)), false, .bin .lss (.tmp 9) (.const (.int .i64 0))⟩,
    ⟨(some 11), none, false, .pick (.tmp 8) (.const (.bool true)) (.tmp 10)⟩,
    ⟨(some 12), none, false, .mov (.tmp 11)⟩,
    ⟨(some 13), (some (12, false)), false, .mov (.tmp 1)⟩,
    ⟨(some 14), (some (12, false)), false, .mov (.tmp 0)⟩,
    ⟨(some 15), (some (12, false)), false, .nilc (.tmp 14)⟩,
    ⟨(some 16), (some (12, false)), false, .faddr (.tmp 15) 0⟩,
    ⟨(some 17), (some (12, false)), false, .load1 (.tmp 16)⟩,
    ⟨(some 18), (some (12, false)), false, .lens false (.tmp 17)⟩,
    ⟨(some 19), (some (12, false)), false, .bin .gtr (.tmp 13) (.tmp 18)⟩,
    ⟨(some 20), none, false, .pick (.tmp 12) (.const (.bool true)) (.tmp 19)⟩]) (.cond (.tmp 20) (.seq (.ops [
    ⟨(some 21), none, false, .mov (.tmp 0)⟩,
    ⟨(some 22), none, false, .call num_Cursor_fail [(.tmp 21)]⟩]) (.seq (.ops [
    ⟨(some 4), none, false, .mov (.const (.slice none 0 0))⟩]) .ret)) .skip)) (.seq (.ops [
    ⟨(some 23), none, false, .mov (.tmp 1)⟩,
    ⟨(some 24), none, false, .mk [.int .u8 0] 1 (.tmp 23) (.tmp 23)⟩,
    ⟨(some 5), none, false, .mov (.tmp 24)⟩]) (.seq (.ops [
    ⟨(some 25), none, false, .mov (.tmp 5)⟩,
    ⟨(some 26), none, false, .mov (.tmp 0)⟩,
    ⟨(some 27), none, false, .nilc (.tmp 26)⟩,
    ⟨(some 28), none, false, .faddr (.tmp 27) 0⟩,
    ⟨(some 29), none, false, .load1 (.tmp 28)⟩,
    ⟨(some 30), none, false, .copy (.tmp 25) (.tmp 29) 1⟩]) (.seq (.ops [
    ⟨(some 31), none, false, .mov (.tmp 0)⟩,
    ⟨(some 32), none, false, .mov (.tmp 0)⟩,
    ⟨(some 33), none, false, .nilc (.tmp 32)⟩,
    ⟨(some 34), none, false, .faddr (.tmp 33) 0⟩,
    ⟨(some 35), none, false, .load1 (.tmp 34)⟩,
    ⟨(some 36), none, false, .mov (.tmp 1)⟩,
    ⟨(some 37), none, false, .sll (.tmp 35) (some (.tmp 36)) none none 1⟩,
    ⟨(some 38), none, false, .nilc (.tmp 31)⟩,
    ⟨(some 39), none, false, .faddr (.tmp 38) 0⟩,
    ⟨none, none, false, .store (.tmp 39) (.tmp 37) 1⟩]) (.seq (.ops [
    ⟨(some 40), none, false, .mov (.tmp 5)⟩,
    ⟨(some 4), none, false, .mov (.tmp 40)⟩]) .ret))))))
theorem fits_num_Cursor_Take : Fits Try.prog 0 num_Cursor_Take ic_num_Cursor_Take [.tmp 4] 2 :=
  ⟨Try.f40, Try.func40, by decide, by kernel_rfl, by kernel_rfl⟩

/-- chantry/chantryref01.Get -/
noncomputable def ic_chantryref01_Get : IC :=
  (.seq (.ops [
    ⟨(some 2), none, false, .mov (.const (.int .i64 0))⟩,
    ⟨(some 3), none, false, .mov (.const (.int .i64 0))⟩,
    ⟨(some 4), none, false, .mov (.const (.int .i64 0))⟩]) (.seq (.ops [
    ⟨(some 5), none, false, .mov (.const (.int .i64 0))⟩]) (.seq (.ops [
    ⟨(some 6), none, false, .mov (.const (.int .i64 1))⟩]) (.seq (.seq (.ops [
    ⟨(some 7), none, false, .mov (.const (.int .i64 0))⟩]) (.block 0 (.loop (.seq (.seq (.ops [
    ⟨(some 8), none, false, .mov (.tmp 7)⟩,
    ⟨(some 9), none, false, .mov (.tmp 0)⟩,
    ⟨(some 10), none, false, .lens false (.tmp 9)⟩,
    ⟨(some 11), none, false, .bin .lss (.tmp 8) (.tmp 10)⟩,
    ⟨(some 12), none, false, .mov (.tmp 11)⟩,
    ⟨(some 13), (some (12, true)), false, .mov (.tmp 7)⟩,
    ⟨(some 14), (some (12, true)), false, .bin .lss (.tmp 13) (.const (.int .i64 5))⟩,
    ⟨(some 15), none, false, .pick (.tmp 12) (.tmp 14) (.const (.bool false))⟩]) (.cond (.tmp 15) .skip (.exit 0))) (.seq (.block 1 (.seq (.ops [
    ⟨(some 18), none, false, .mov (.tmp 5)⟩,
    ⟨(some 19), none, false, .mov (.tmp 0)⟩,
    ⟨(some 20), none, false, .mov (.tmp 7)⟩,
    ⟨(some 21), none, false, .iaddr (.tmp 19) (.tmp 20) 1⟩,
    ⟨(some 22), none, false, .load1 (.tmp 21)⟩,
    ⟨(some 23), none, false, .bin .rem (.tmp 22) (.const (.int .u8 128))⟩,
    ⟨(some 24), none, false, .conv .i64 (.tmp 23)⟩,
    ⟨(some 25), none, false, .mov (.tmp 6)⟩,
    ⟨(some 26), none, false, .bin .mul (.tmp 24) (.tmp 25)⟩,
    ⟨(some 27), none, false, .bin .add (.tmp 18) (.tmp 26)⟩,
    ⟨(some 5), none, false, .mov (.tmp 27)⟩]) (.seq (.ops [
    ⟨(some 28), none, false, .mov (.tmp 6)⟩,
    ⟨(some 29), none, false, .bin .mul (.tmp 28) (.const (.int .i64 128))⟩,
    ⟨(some 6), none, false, .mov (.tmp 29)⟩]) (.seq (.seq (.ops [
    ⟨(some 30), none, false, .mov (.tmp 0)⟩,
    ⟨(some 31), none, false, .mov (.tmp 7)⟩,
    ⟨(some 32), none, false, .iaddr (.tmp 30) (.tmp 31) 1⟩,
    ⟨(some 33), none, false, .load1 (.tmp 32)⟩,
    ⟨(some 34), none, false, .bin .geq (.tmp 33) (.const (.int .u8 128))⟩]) (.cond (.tmp 34) (.exit 1) .skip)) (.seq (.seq (.ops [
    ⟨(some 35), none, false, .mov (.tmp 5)⟩,
    ⟨(some 36), none, false, .bin .gtr (.tmp 35) (.const (.int .i64 2147483647))⟩,
    ⟨(some 37), none, false, .mov (.tmp 36)⟩,
    ⟨(some 38), (some (37, false)), false, .mov (.tmp 7)⟩,
    ⟨(some 39), (some (37, false)), false, .bin .gtr (.tmp 38) (.const (.int .i64 0))⟩,
    ⟨(some 40), (some (37, false)), false, .mov (.tmp 39)⟩,
    ⟨(some 41), (some (40, true)), false, .mov (.tmp 0)⟩,
    ⟨(some 42), (some (40, true)), false, .mov (.tmp 7)⟩,
    ⟨(some 43), (some (40, true)), false, .iaddr (.tmp 41) (.tmp 42) 1⟩,
    ⟨(some 44), (some (40, true)), false, .load1 (.tmp 43)⟩,
    ⟨(some 45), (some (40, true)), false, .bin .eql (.tmp 44) (.const (.int .u8 0))⟩,
    ⟨(some 46), (some (37, false)), false, .pick (.tmp 40) (.tmp 45) (.const (.bool false))⟩,
    ⟨(some 47), none, false, .pick (.tmp 37) (.const (.bool true)) (.tmp 46)⟩]) (.cond (.tmp 47) (.seq (.ops [
    ⟨(some 2), none, false, .mov (.const (.int .i64 0))⟩,
    ⟨(some 3), none, false, .mov (.const (.int .i64 0))⟩,
    ⟨(some 4), none, false, .mov (.const (.int .i64 5))⟩]) .ret) .skip)) (.seq (.ops [
    ⟨(some 48), none, false, .mov (.tmp 5)⟩,
    ⟨(some 49), none, false, .mov (.tmp 7)⟩,
    ⟨(some 50), none, false, .bin .add (.tmp 49) (.const (.int .i64 1))⟩,
    ⟨(some 2), none, false, .mov (.tmp 48)⟩,
    ⟨(some 3), none, false, .mov (.tmp 50)⟩,
    ⟨(some 4), none, false, .mov (.const (.int .i64 0))⟩]) .ret)))))) (.ops [
    ⟨(some 16), none, false, .mov (.tmp 7)⟩,
    ⟨(some 17), none, false, .bin .add (.tmp 16) (.const (.int .i64 1))⟩,
    ⟨(some 7), none, false, .mov (.tmp 17)⟩])))))) (.seq (.ops [
    ⟨(some 2), none, false, .mov (.const (.int .i64 0))⟩,
    ⟨(some 3), none, false, .mov (.const (.int .i64 0))⟩,
    ⟨(some 4), none, false, .mov (.const (.int .i64 5))⟩]) .ret)))))
theorem fits_chantryref01_Get : Fits Try.prog 0 chantryref01_Get ic_chantryref01_Get [.tmp 2, .tmp 3, .tmp 4] 1 :=
  ⟨Try.f41, Try.func41, by decide, by kernel_rfl, by kernel_rfl⟩

/-- chantry/chantryref01.spoilt -/
noncomputable def ic_chantryref01_spoilt : IC :=
  (.seq (.ops [
    ⟨(some 1), none, false, .box (.tmp 0)⟩,
    ⟨(some 2), none, false, .new [.slice none 0 0, .int .i64 0, .bool false]⟩]) (.seq (.ops [
    ⟨(some 3), none, false, .build [.slice none 0 0, .int .i64 0, .bool false] [(2, 1, (.const (.bool true)))]⟩,
    ⟨none, none, false, .store (.tmp 2) (.tmp 3) 3⟩]) .ret))
theorem fits_chantryref01_spoilt : Fits Try.prog 0 chantryref01_spoilt ic_chantryref01_spoilt [.many 2 3] 1 :=
  ⟨Try.f42, Try.func42, by decide, by kernel_rfl, by kernel_rfl⟩

/-- chantry/chantryref01.Take -/
noncomputable def ic_chantryref01_Take : IC :=
  (.seq (.ops [
    ⟨(some 2), none, false, .box (.tmp 0)⟩,
    ⟨(some 4), none, false, .new [.slice none 0 0, .int .i64 0, .bool false]⟩,
    ⟨(some 5), none, false, .mov (.const (.slice none 0 0))⟩]) (.seq (.seq (.ops [
    ⟨(some 6), none, false, .faddr (.tmp 2) 2⟩,
    ⟨(some 7), none, false, .load1 (.tmp 6)⟩,
    ⟨(some 8), none, false, .mov (.tmp 7)⟩,
    ⟨(some 9), (some (8, false)), false, .mov (.tmp 1)⟩,
    ⟨(some 10), (some (8, false)), false, .bin .lss (.tmp 9) (.const (.int .i64 0))⟩,
    ⟨(some 11), none, false, .pick (.tmp 8) (.const (.bool true)) (.tmp 10)⟩,
    ⟨(some 12), none, false, .mov (.tmp 11)⟩,
    ⟨(some 13), (some (12, false)), false, .mov (.tmp 1)⟩,
    ⟨(some 14), (some (12, false)), false, .faddr (.tmp 2) 0⟩,
    ⟨(some 15), (some (12, false)), false, .load1 (.tmp 14)⟩,
    ⟨(some 16), (some (12, false)), false, .lens false (.tmp 15)⟩,
    ⟨(some 17), (some (12, false)), false, .faddr (.tmp 2) 1⟩,
    ⟨(some 18), (some (12, false)), false, .load1 (.tmp 17)⟩,
    ⟨(some 19), (some (12, false)), false, .bin .sub (.tmp 16) (.tmp 18)⟩,
    ⟨(some 20), (some (12, false)), false, .bin .gtr (.tmp 13) (.tmp 19)⟩,
    ⟨(some 21), none, false, .pick (.tmp 12) (.const (.bool true)) (.tmp 20)⟩]) (.cond (.tmp 21) (.seq (.ops [
    ⟨(some 22), none, false, .loadn (.tmp 2) 3⟩,
    ⟨(some 23), none, false, .call chantryref01_spoilt [(.tmp 22)]⟩,
    ⟨none, none, false, .store (.tmp 4) (.tmp 23) 3⟩,
    ⟨(some 5), none, false, .mov (.const (.slice none 0 0))⟩]) .ret) .skip)) (.seq (.draw [
    ⟨(some 24), none, false, .faddr (.tmp 2) 0⟩,
    ⟨(some 25), none, false, .load1 (.tmp 24)⟩,
    ⟨(some 26), none, false, .faddr (.tmp 2) 1⟩,
    ⟨(some 27), none, false, .load1 (.tmp 26)⟩,
    ⟨(some 28), none, false, .mov (.tmp 1)⟩,
    ⟨(some 29), none, false, .bin .add (.tmp 27) (.tmp 28)⟩,
    ⟨(some 30), none, false, .build [.slice none 0 0, .int .i64 0, .bool false] [(0, 1, (.tmp 25)), (1, 1, (.tmp 29))]⟩,
    ⟨(some 31), none, false, .faddr (.tmp 2) 0⟩,
    ⟨(some 32), none, true, .load1 (.tmp 31)⟩,
    ⟨(some 33), none, false, .faddr (.tmp 2) 1⟩,
    ⟨(some 34), none, true, .load1 (.tmp 33)⟩,
    ⟨(some 35), none, false, .faddr (.tmp 2) 1⟩,
    ⟨(some 36), none, true, .load1 (.tmp 35)⟩,
    ⟨(some 37), none, false, .mov (.tmp 1)⟩,
    ⟨(some 38), none, false, .bin .add (.tmp 36) (.tmp 37)⟩,
    ⟨(some 39), none, true, .sll (.tmp 32) (some (.tmp 34)) (some (.tmp 38)) none 1⟩,
    ⟨none, none, true, .store (.tmp 4) (.tmp 30) 3⟩,
    ⟨(some 5), none, false, .mov (.tmp 39)⟩]) .ret)))
theorem fits_chantryref01_Take : Fits Try.prog 0 chantryref01_Take ic_chantryref01_Take [.many 4 3, .tmp 5] 2 :=
  ⟨Try.f43, Try.func43, by decide, by kernel_rfl, by kernel_rfl⟩

-- NOT SERVED 44 (runtime.boundsError).Error: no body

-- NOT SERVED 45 (runtime.boundsError).RuntimeError: no body

-- NOT SERVED 46 (runtime.errorString).Error: no body

-- NOT SERVED 47 (runtime.errorString).RuntimeError: no body

-- NOT SERVED 48 (runtime.plainError).Error: no body

-- NOT SERVED 49 (runtime.plainError).RuntimeError: no body

-- NOT SERVED 50 (runtime.errorAddressString).Error: no body

-- NOT SERVED 51 (runtime.errorAddressString).RuntimeError: no body

-- NOT SERVED 52 (*runtime.TypeAssertionError).Error: no body

-- NOT SERVED 53 (*runtime.TypeAssertionError).RuntimeError: no body

-- NOT SERVED 54 (*runtime.PanicNilError).Error: no body

-- NOT SERVED 55 (*runtime.PanicNilError).RuntimeError: no body

-- NOT SERVED 56 (*internal/abi.Type).Align: no body

-- NOT SERVED 57 (internal/runtime/maps.unhashableTypeError).Error: no body

-- NOT SERVED 58 (internal/runtime/maps.unhashableTypeError).RuntimeError: no body

-- NOT SERVED 59 (internal/abi.Kind).String: no body

end Go.AS.C

namespace Go.AS.C
open Go Go.Proofs
set_option linter.unusedVariables false
set_option linter.unusedSimpArgs false
set_option maxRecDepth 10000

theorem mixed : Try.prog.follows .mixedOrders = true := by kernel_rfl

end Go.AS.C

namespace Go.AS.C
open Go
set_option linter.unusedVariables false
set_option linter.unusedSimpArgs false
set_option maxRecDepth 10000

/-- One bit's turn. -/
def bit1 (c : BitVec 32) : BitVec 32 := (c >>> 1) ^^^ (2197175160#32 &&& -(c &&& 1#32))

def bitsN : Nat → BitVec 32 → BitVec 32
  | 0, c => c
  | n + 1, c => bit1 (bitsN n c)

def byte1 (c : BitVec 32) (b : UInt8) : BitVec 32 := bitsN 8 (c ^^^ BitVec.ofNat 32 b.toNat)

def more (s : BitVec 32) (bs : List UInt8) : BitVec 32 := ~~~ (bs.foldl byte1 (~~~ s))

theorem hpoly : (Value.int .u32 2197175160) = u32 2197175160#32 := rfl

theorem shr1 (a : BitVec 32) : binA .shr (u32 a) (.int .u64 1) = some (u32 (a >>> 1)) := binA_shr32 a .u64 1 (by omega)

theorem hone32 : (Value.int .u32 1) = u32 1#32 := rfl

theorem and1 (c : BitVec 32) : c &&& 1#32 = if c.toNat % 2 = 1 then 1#32 else 0#32 := by
  apply BitVec.eq_of_toNat_eq
  rw [BitVec.toNat_and]
  simp only [BitVec.toNat_ofNat, Nat.reducePow, Nat.reduceMod, Nat.and_one_is_mod]
  split <;> simp <;> omega

theorem rem2 (c : BitVec 32) : c % 2#32 = if c.toNat % 2 = 1 then 1#32 else 0#32 := by
  apply BitVec.eq_of_toNat_eq
  rw [BitVec.toNat_umod]
  simp only [BitVec.toNat_ofNat, Nat.reducePow, Nat.reduceMod]
  split <;> simp <;> omega

theorem quo2 (c : BitVec 32) : c / 2#32 = c >>> 1 := by
  apply BitVec.eq_of_toNat_eq
  rw [BitVec.toNat_udiv, BitVec.toNat_ushiftRight, Nat.shiftRight_eq_div_pow]
  rfl

theorem bit1_eq (c : BitVec 32) : bit1 c = if c % 2#32 = 1#32 then (c / 2#32) ^^^ 2197175160#32 else c / 2#32 := by
  unfold bit1
  rw [and1, rem2, quo2]
  split
  · rename_i h
    have e : -(1#32) = BitVec.allOnes 32 := by decide
    simp [e]
  · simp

theorem htwo32 : (Value.int .u32 2) = u32 2#32 := rfl

theorem hones32 : (Value.int .u32 4294967295) = u32 4294967295#32 := rfl

theorem xor_ones (c : BitVec 32) : c ^^^ 4294967295#32 = ~~~ c := by
  have : (4294967295#32) = BitVec.allOnes 32 := by decide
  rw [this, BitVec.xor_allOnes]

theorem hzero32 : (Value.int .u32 0) = u32 0#32 := rfl

/-- n as w bytes, the lowest first. -/
def leB (n w : Nat) : List UInt8 := (List.range w).map fun j => UInt8.ofNat (n / 2 ^ (8 * j))

theorem leB_length (n w : Nat) : (leB n w).length = w := by simp [leB]

theorem flat_take_le {α : Type} (l : List (List α)) (k : Nat) : (l.take k).flatten.length ≤ l.flatten.length := by
  conv => rhs; rw [← List.take_append_drop k l, List.flatten_append, List.length_append]
  omega

theorem flat_take_succ {α : Type} (l : List (List α)) {k : Nat} {x : List α} (h : l[k]? = some x) : (l.take (k + 1)).flatten = (l.take k).flatten ++ x := by
  rw [List.take_add_one, h]
  simp

theorem leB4 (s : BitVec 32) : leB (s &&& 65535#32).toNat 2 ++ leB (s >>> 16).toNat 2 = leB s.toNat 4 := by
  have h := s.isLt
  have e1 : (s &&& 65535#32).toNat = s.toNat % 65536 := by
    rw [BitVec.toNat_and]
    exact Nat.and_two_pow_sub_one_eq_mod s.toNat 16
  have e2 : (s >>> 16).toNat = s.toNat / 65536 := by
    rw [BitVec.toNat_ushiftRight, Nat.shiftRight_eq_div_pow]
  rw [e1, e2]
  have r2 : List.range 2 = [0, 1] := by decide
  have r4 : List.range 4 = [0, 1, 2, 3] := by decide
  unfold leB
  rw [r2, r4]
  simp only [List.map_cons, List.map_nil, List.cons_append, List.nil_append]
  simp only [List.cons.injEq, and_true]
  exact ⟨u8eq (by omega), u8eq (by omega), u8eq (by omega), u8eq (by omega)⟩

theorem h65535 : (Value.int .u32 65535) = u32 65535#32 := rfl

theorem shr16 (a : BitVec 32) : binA .shr (u32 a) (.int .u64 16) = some (u32 (a >>> 16)) := binA_shr32 a .u64 16 (by omega)

/-- What seals bytes. -/
def sealB (bs : List UInt8) : List UInt8 := bs ++ leB (more 0#32 bs).toNat 4

theorem sealB_length (bs : List UInt8) : (sealB bs).length = bs.length + 4 := by simp [sealB, leB_length]

/-- What was sealed is these bytes. -/
def openB (bs : List UInt8) : Option (List UInt8) :=
  if 4 ≤ bs.length ∧ bs.drop (bs.length - 4) = leB (more 0#32 (bs.take (bs.length - 4))).toNat 4 then some (bs.take (bs.length - 4)) else none

theorem openB_sealB (bs : List UInt8) : openB (sealB bs) = some bs := by
  unfold openB
  have e : (sealB bs).length - 4 = bs.length := by rw [sealB_length]; omega
  have h1 : (sealB bs).take bs.length = bs := by unfold sealB; simp
  have h2 : (sealB bs).drop bs.length = leB (more 0#32 bs).toNat 4 := by unfold sealB; simp
  rw [e, h1, h2, if_pos ⟨by rw [sealB_length]; omega, rfl⟩]

theorem openB_iff {bs x : List UInt8} : openB bs = some x ↔ bs = sealB x := by
  constructor
  · intro h
    unfold openB at h
    split at h
    · rename_i hc
      injection h with h
      rw [h] at hc
      unfold sealB
      rw [← hc.2, ← h]
      simp
    · cases h
  · rintro rfl
    exact openB_sealB x

theorem h256 : (Value.int .u32 256) = u32 256#32 := rfl

theorem h65536 : (Value.int .u32 65536) = u32 65536#32 := rfl

theorem h16m : (Value.int .u32 16777216) = u32 16777216#32 := rfl

theorem leB4' (s : BitVec 32) : [UInt8.ofNat (s % 256#32).toNat, UInt8.ofNat (s / 256#32 % 256#32).toNat, UInt8.ofNat (s / 65536#32 % 256#32).toNat, UInt8.ofNat (s / 16777216#32).toNat] = leB s.toNat 4 := by
  have r4 : List.range 4 = [0, 1, 2, 3] := by decide
  unfold leB
  rw [r4]
  simp only [List.map_cons, List.map_nil, BitVec.toNat_umod, BitVec.toNat_udiv, BitVec.toNat_ofNat, Nat.reducePow, Nat.reduceMod]
  simp only [List.cons.injEq, and_true]
  have hs := s.isLt
  refine ⟨u8eq ?_, u8eq ?_, u8eq ?_⟩ <;> omega

theorem openB_seal {bs : List UInt8} (h : 4 ≤ bs.length) : (sealB (bs.take (bs.length - 4)) != bs) = (openB bs).isNone := by
  cases ho : openB bs with
  | none =>
    simp only [Option.isNone_none, bne_iff_ne, ne_eq]
    intro he
    have := openB_sealB (bs.take (bs.length - 4))
    rw [he, ho] at this
    cases this
  | some x =>
    have := openB_iff.1 ho
    subst this
    have e : (sealB x).length - 4 = x.length := by rw [sealB_length]; omega
    have h1 : (sealB x).take x.length = x := by unfold sealB; simp
    rw [e, h1]
    simp

theorem more_append (s : BitVec 32) (a b : List UInt8) : more (more s a) b = more s (a ++ b) := by
  unfold more
  rw [BitVec.not_not, List.foldl_append]

end Go.AS.C

namespace Go.AS.C
open Go
set_option linter.unusedVariables false
set_option linter.unusedSimpArgs false

/-- Bytes as a number, the lowest first. -/
def leN : List UInt8 → Nat
  | [] => 0
  | b :: r => b.toNat + 256 * leN r
theorem leN_append : ∀ (a b : List UInt8), leN (a ++ b) = leN a + 256 ^ a.length * leN b
  | [], b => by simp [leN]
  | x :: a, b => by
    simp only [List.cons_append, leN, leN_append a b, List.length_cons, Nat.pow_succ, Nat.mul_add, ← Nat.mul_assoc]
    rw [Nat.mul_comm 256 (256 ^ a.length)]
    omega
theorem leN_lt : ∀ a : List UInt8, leN a < 256 ^ a.length
  | [] => by simp [leN]
  | x :: a => by
    have h1 := leN_lt a
    have h2 := x.toNat_lt
    simp only [leN, List.length_cons, Nat.pow_succ]
    omega
theorem pow256 (k : Nat) : 2 ^ (8 * k) = 256 ^ k := by rw [Nat.pow_mul]

/-- What num.Unfix gives: the number, and the error. -/
def unfixN (bs : List UInt8) : Nat × Nat := if bs.length < 1 ∨ 4 < bs.length then (0, 1) else if leN bs ≤ 2147483647 then (leN bs, 0) else (0, 5)

theorem wrap_i64_nat (n : Nat) (h : n < 2 ^ 62) : IntKind.i64.wrap (n : Int) = n := wrap_i64 _ (by omega) (by omega)
theorem toNat_i64 (n : Nat) (h : n < 2 ^ 62) : (BitVec.ofInt 64 (n : Int)).toNat = n := by
  rw [BitVec.ofInt_natCast, BitVec.toNat_ofNat, Nat.mod_eq_of_lt (by omega)]
theorem or_ii (a b : Nat) (ha : a < 2 ^ 62) (hb : b < 2 ^ 62) : binA .or (ii a) (ii b) = some (ii ((a ||| b : Nat) : Int)) := by
  show (if IntKind.i64 = IntKind.i64 then some (Value.int .i64 (IntKind.i64.wrap ((BitVec.ofInt 64 (a : Int) ||| BitVec.ofInt 64 (b : Int)).toNat : Int))) else none) = _
  rw [if_pos rfl, BitVec.toNat_or, toNat_i64 a ha, toNat_i64 b hb, wrap_i64_nat _ (Nat.or_lt_two_pow ha hb)]
theorem and_ii (a b : Nat) (ha : a < 2 ^ 62) (hb : b < 2 ^ 62) : binA .and (ii a) (ii b) = some (ii ((a &&& b : Nat) : Int)) := by
  show (if IntKind.i64 = IntKind.i64 then some (Value.int .i64 (IntKind.i64.wrap ((BitVec.ofInt 64 (a : Int) &&& BitVec.ofInt 64 (b : Int)).toNat : Int))) else none) = _
  rw [if_pos rfl, BitVec.toNat_and, toNat_i64 a ha, toNat_i64 b hb, wrap_i64_nat _ (Nat.and_lt_two_pow _ hb)]
theorem shl_ii (a : Nat) (k : IntKind) (m : Nat) (hm : m ≤ 64) (h : a * 2 ^ m < 2 ^ 62) : binA .shl (ii a) (.int k m) = some (ii ((a * 2 ^ m : Nat) : Int)) := by
  simp only [binA]
  have hn : ¬ ((m : Int) < 0) := by omega
  rw [if_neg hn]
  have : min ((m : Int).toNat) IntKind.i64.bits = m := by
    show min ((m : Int).toNat) 64 = m
    simp; omega
  rw [this, show ((2 : Int) ^ m) = ((2 ^ m : Nat) : Int) by simp, ← Int.natCast_mul, wrap_i64_nat _ h]
theorem add_ii (a b : Nat) (h : a + b < 2 ^ 62) : binA .add (ii a) (ii b) = some (ii ((a + b : Nat) : Int)) := by
  rw [binA_addi _ _ (by omega) (by omega)]; rfl
theorem sub_ii (a b : Nat) (h : b ≤ a) (h2 : a < 2 ^ 62) : binA .sub (ii a) (ii b) = some (ii ((a - b : Nat) : Int)) := by
  rw [binA_subi _ _ (by omega) (by omega)]
  congr 2; omega
theorem or_low (a b k : Nat) (h : a < 2 ^ k) : a ||| (b * 2 ^ k) = a + b * 2 ^ k := by
  rw [Nat.mul_comm, Nat.or_comm, ← Nat.two_pow_add_eq_or_of_lt h, Nat.add_comm]
theorem div_ii (a b : Nat) (hb : b ≠ 0) (ha : a < 2 ^ 62) : binA .quo (ii a) (ii b) = some (ii ((a / b : Nat) : Int)) := by
  simp only [binA, ii]
  have hb2 : True ∧ (b : Int) ≠ 0 := ⟨trivial, by omega⟩
  rw [if_pos hb2, Int.tdiv_eq_ediv_of_nonneg (by omega), ← Int.natCast_ediv, wrap_i64_nat _ (Nat.lt_of_le_of_lt (Nat.div_le_self _ _) ha)]
theorem rem_ii (a b : Nat) (hb : b ≠ 0) : binA .rem (ii a) (ii b) = some (ii ((a % b : Nat) : Int)) := by
  simp only [binA, ii]
  have hb2 : True ∧ (b : Int) ≠ 0 := ⟨trivial, by omega⟩
  rw [if_pos hb2, Int.tmod_eq_emod_of_nonneg (by omega), ← Int.natCast_emod]
end Go.AS.C

namespace Go.AS.C
open Go
set_option linter.unusedVariables false
set_option linter.unusedSimpArgs false

theorem binA_or8 (a b : UInt8) : binA .or (by8 a) (by8 b) = some (by8 (a ||| b)) := by
  show (if IntKind.u8 = IntKind.u8 then some (Value.int .u8 (IntKind.u8.wrap ((BitVec.ofInt 8 (a.toNat : Int) ||| BitVec.ofInt 8 (b.toNat : Int)).toNat : Int))) else none) = _
  rw [if_pos rfl, ofInt_u8, ofInt_u8]
  have h1 : (a.toBitVec ||| b.toBitVec).toNat = (a ||| b).toNat := by simp
  rw [h1, wrap_u8 _ (a ||| b).toNat_lt]
  rfl
theorem binA_and8 (a b : UInt8) : binA .and (by8 a) (by8 b) = some (by8 (a &&& b)) := by
  show (if IntKind.u8 = IntKind.u8 then some (Value.int .u8 (IntKind.u8.wrap ((BitVec.ofInt 8 (a.toNat : Int) &&& BitVec.ofInt 8 (b.toNat : Int)).toNat : Int))) else none) = _
  rw [if_pos rfl, ofInt_u8, ofInt_u8]
  have h1 : (a.toBitVec &&& b.toBitVec).toNat = (a &&& b).toNat := by simp
  rw [h1, wrap_u8 _ (a &&& b).toNat_lt]
  rfl
theorem binA_shr8 (a : UInt8) (k : IntKind) (n : Nat) (h : n ≤ 8) : binA .shr (by8 a) (.int k n) = some (by8 (UInt8.ofNat (a.toNat / 2 ^ n))) := by
  simp only [binA, by8]
  have hn : ¬ ((n : Int) < 0) := by omega
  rw [if_neg hn]
  have : min ((n : Int).toNat) IntKind.u8.bits = n := by
    show min ((n : Int).toNat) 8 = n
    simp; omega
  rw [this, show ((2 : Int) ^ n) = ((2 ^ n : Nat) : Int) by simp, Int.fdiv_eq_ediv_of_nonneg _ (Int.natCast_nonneg _)]
  congr 2
  have hlt : a.toNat / 2 ^ n < 256 := Nat.lt_of_le_of_lt (Nat.div_le_self _ _) a.toNat_lt
  rw [UInt8.toNat_ofNat', Nat.mod_eq_of_lt hlt, Int.natCast_ediv]
theorem binA_sub8 (a b : UInt8) (h : b.toNat ≤ a.toNat) : binA .sub (by8 a) (by8 b) = some (by8 (UInt8.ofNat (a.toNat - b.toNat))) := by
  simp only [binA, by8, if_true]
  congr 2
  have ha := a.toNat_lt
  have e : (a.toNat : Int) - (b.toNat : Int) = ((a.toNat - b.toNat : Nat) : Int) := by omega
  rw [e, wrap_u8 _ (by omega), UInt8.toNat_ofNat', Nat.mod_eq_of_lt (by omega)]
theorem binA_gtr8 (a b : UInt8) : binA .gtr (by8 a) (by8 b) = some (.bool (decide (b.toNat < a.toNat))) := by
  simp only [binA, by8, if_true]
  congr 2
  rw [decide_eq_decide]
  omega
theorem b8_0 : (Value.int .u8 0) = by8 0 := rfl
theorem b8_1 : (Value.int .u8 1) = by8 1 := rfl

/-- How many bits of a byte are 1. -/
def popN (n : Nat) : Nat := (n % 2) + (n / 2 % 2) + (n / 4 % 2) + (n / 8 % 2) + (n / 16 % 2) + (n / 32 % 2) + (n / 64 % 2) + (n / 128 % 2)
def popB (b : UInt8) : Nat := popN b.toNat
def popL (l : List UInt8) : Nat := (l.map popB).sum
theorem pop_step : ∀ n : Fin 256, n.val ≠ 0 → popN (n.val &&& (n.val - 1)) + 1 = popN n.val := by decide +kernel
theorem popB_step (x : UInt8) (h : 0 < x.toNat) : popB (x &&& UInt8.ofNat (x.toNat - 1)) + 1 = popB x := by
  have := pop_step ⟨x.toNat, x.toNat_lt⟩ (by simp; omega)
  unfold popB
  have hx := x.toNat_lt
  rw [UInt8.toNat_and, UInt8.toNat_ofNat', Nat.mod_eq_of_lt (by omega)]
  exact this
theorem and_less (x : UInt8) (h : 0 < x.toNat) : (x &&& UInt8.ofNat (x.toNat - 1)).toNat < x.toNat := by
  have hx := x.toNat_lt
  rw [UInt8.toNat_and, UInt8.toNat_ofNat', Nat.mod_eq_of_lt (by omega)]
  have : x.toNat &&& (x.toNat - 1) ≤ x.toNat - 1 := Nat.and_le_right
  omega
theorem popB_le (x : UInt8) : popB x ≤ 8 := by unfold popB popN; omega
theorem popL_take_succ {l : List UInt8} {k : Nat} {x : UInt8} (h : l[k]? = some x) : popL (l.take (k + 1)) = popL (l.take k) + popB x := by
  unfold popL
  rw [List.take_add_one, h]
  simp
theorem popL_le (l : List UInt8) : popL l ≤ 8 * l.length := by
  unfold popL
  induction l with
  | nil => simp
  | cons a l ih => simp only [List.map_cons, List.sum_cons, List.length_cons]; have := popB_le a; omega
theorem popL_take_le (l : List UInt8) (k : Nat) : popL (l.take k) ≤ popL l := by
  conv => rhs; rw [← List.take_append_drop k l]
  unfold popL
  rw [List.map_append, List.sum_append]
  omega
/-- The first k bits. -/
def popK (n : Nat) : Nat → Nat
  | 0 => 0
  | k + 1 => popK n k + n / 2 ^ k % 2
theorem popK_8 (n : Nat) : popK n 8 = popN n := by simp [popK, popN]
end Go.AS.C

namespace Go.AS.C
open Go
set_option linter.unusedVariables false
set_option linter.unusedSimpArgs false

theorem ext_bytes (s : ByteArray) (l h : Nat) : (s.extract l h).data.toList = (s.data.toList.drop l).take (h - l) := by
  rw [ByteArray.data_extract, Array.toList_extract, List.extract_eq_take_drop]
theorem size_bytes (s : ByteArray) : s.size = s.data.toList.length := by rw [Array.length_toList]; rfl
theorem sls_both {A : AH} {s : ByteArray} {l h : Nat} (h1 : l ≤ h) (h2 : h ≤ s.size) : sSls A (.string s) (some (ii l)) (some (ii h)) = some (.string (s.extract l h), A) := by
  unfold sSls
  simp only [bnd_both h1 h2]
  rfl
theorem s2b_row (A : AH) (s : ByteArray) : sS2b A (.string s) = some (.slice (some ⟨A.length, 0, none⟩) s.size s.size, A ++ [.row (s.data.toList.map by8) .own 1 false]) := id rfl
theorem s2b_byt (A : AH) (s : ByteArray) : OwnB A.length (A ++ [.row (s.data.toList.map by8) .own 1 false]) (.slice (some ⟨A.length, 0, none⟩) s.size s.size) s.data.toList :=
  own_row (get_last _ _) (size_bytes s) (Nat.le_refl _) (Nat.le_refl _)
theorem lens_str {A : AH} {s : ByteArray} : sLens A true (.string s) = some (ii s.size, A) := id rfl
end Go.AS.C

namespace Go.AS.C
open Go
set_option linter.unusedVariables false
set_option linter.unusedSimpArgs false
set_option maxRecDepth 10000

theorem b8_128 : (Value.int .u8 128) = by8 128 := rfl
theorem b8_127 : (Value.int .u8 127) = by8 127 := rfl
theorem or128 (m : Nat) : UInt8.ofNat m ||| 128 = UInt8.ofNat (m % 128 + 128) := by
  have h : ∀ x : Fin 256, (x.val ||| 128) = x.val % 128 + 128 := by decide +kernel
  apply UInt8.toNat_inj.1
  have := h ⟨m % 256, Nat.mod_lt _ (by omega)⟩
  simp only at this
  rw [UInt8.toNat_or, UInt8.toNat_ofNat', UInt8.toNat_ofNat', show (128 : UInt8).toNat = 128 from rfl, this]
  omega
theorem and127 (x : UInt8) : (x &&& 127).toNat = x.toNat % 128 := by
  rw [UInt8.toNat_and, show (127 : UInt8).toNat = 2 ^ 7 - 1 from rfl, Nat.and_two_pow_sub_one_eq_mod]
theorem binA_rem8 (x : UInt8) : binA .rem (by8 x) (.int .u8 128) = some (by8 (x &&& 127)) := by
  simp only [binA, by8]
  rw [if_pos ⟨trivial, by decide⟩, Int.tmod_eq_emod_of_nonneg (by omega), and127]
  rfl
theorem binA_geq8 (x : UInt8) (n : Int) : binA .geq (by8 x) (.int .u8 n) = some (.bool (decide (n ≤ (x.toNat : Int)))) := by
  simp [binA, by8]
theorem binA_eql8 (x : UInt8) (n : Int) : binA .eql (by8 x) (.int .u8 n) = some (.bool (decide ((x.toNat : Int) = n))) := by
  simp only [by8, eqlI]

/-- A number's bytes: seven bits in each, the lowest first. -/
def putN (n : Nat) : List UInt8 := if n < 128 then [UInt8.ofNat n] else UInt8.ofNat (n % 128 + 128) :: putN (n / 128)
theorem putN_small {n : Nat} (h : n < 128) : putN n = [UInt8.ofNat n] := by rw [putN, if_pos h]
theorem putN_big {n : Nat} (h : 128 ≤ n) : putN n = UInt8.ofNat (n % 128 + 128) :: putN (n / 128) := by rw [putN, if_neg (by omega)]
theorem putN_len {n : Nat} : ∀ k, n < 128 ^ (k + 1) → (putN n).length ≤ k + 1
  | 0, h => by rw [putN_small (by simpa using h)]; simp
  | k + 1, h => by
    rcases Nat.lt_or_ge n 128 with h1 | h1
    · rw [putN_small h1]; simp
    · rw [putN_big h1, List.length_cons]
      have : n / 128 < 128 ^ (k + 1) := by
        rw [Nat.div_lt_iff_lt_mul (by omega)]
        rw [Nat.pow_succ] at h; exact h
      have := putN_len k this
      omega
theorem putN_pos (n : Nat) : 1 ≤ (putN n).length := by
  rw [putN]; split <;> simp
theorem putN_len5 {n : Nat} (h : n ≤ 2147483647) : (putN n).length ≤ 5 := putN_len 4 (by omega)

/-- The number with which bytes begin: from place i on, n being told so far. -/
def getGo : Nat → Nat → List UInt8 → Option (Nat × Nat)
  | _, _, [] => none
  | i, n, b :: r => if 5 ≤ i then none else if 128 ≤ b.toNat then getGo (i + 1) (n + b.toNat % 128 * 128 ^ i) r
    else if 2147483647 < n + b.toNat % 128 * 128 ^ i ∨ (0 < i ∧ b.toNat = 0) then none else some (n + b.toNat % 128 * 128 ^ i, i + 1)
def getN (bs : List UInt8) : Option (Nat × Nat) := getGo 0 0 bs
/-- What Get gives. -/
def getT (bs : List UInt8) : Nat × Nat × Nat := match getN bs with | some (n, k) => (n, k, 0) | none => (0, 0, 5)

theorem getGo_put (r : List UInt8) : ∀ (k i m n : Nat), m < 128 ^ (k + 1) → i + k < 5 → n + m * 128 ^ i ≤ 2147483647 → (0 < i → 0 < m) → getGo i n (putN m ++ r) = some (n + m * 128 ^ i, i + (putN m).length)
  | k, i, m, n, hm, hi, hn, h0 => by
    rcases Nat.lt_or_ge m 128 with h | h
    · rw [putN_small h]
      have e : (UInt8.ofNat m).toNat = m := by rw [UInt8.toNat_ofNat', Nat.mod_eq_of_lt (by omega)]
      show getGo i n (UInt8.ofNat m :: r) = _
      unfold getGo
      rw [e, Nat.mod_eq_of_lt h, if_neg (by omega), if_neg (by omega), if_neg (by omega)]
      rfl
    · rw [putN_big h, List.cons_append]
      have e : (UInt8.ofNat (m % 128 + 128)).toNat = m % 128 + 128 := by rw [UInt8.toNat_ofNat', Nat.mod_eq_of_lt (by omega)]
      unfold getGo
      have e2 : (m % 128 + 128) % 128 = m % 128 := by omega
      rw [e, e2, if_neg (by omega), if_pos (by omega)]
      have e3 : n + m % 128 * 128 ^ i + m / 128 * 128 ^ (i + 1) = n + m * 128 ^ i := by
        have := Nat.div_add_mod m 128
        rw [Nat.pow_succ, show m / 128 * (128 ^ i * 128) = (128 * (m / 128)) * 128 ^ i by rw [Nat.mul_comm (128 ^ i) 128, ← Nat.mul_assoc, Nat.mul_comm (m / 128) 128], Nat.add_assoc, ← Nat.add_mul]
        rw [Nat.add_comm (m % 128), this]
      cases k with
      | zero => simp at hm; omega
      | succ k =>
        have hlt : m / 128 < 128 ^ (k + 1) := by
          rw [Nat.div_lt_iff_lt_mul (by omega)]
          rw [Nat.pow_succ] at hm; exact hm
        rw [getGo_put r k (i + 1) (m / 128) _ hlt (by omega) (by rw [e3]; exact hn) (fun _ => Nat.div_pos h (by omega)), e3, List.length_cons]
        congr 2
        omega
theorem getN_put {n : Nat} (h : n ≤ 2147483647) (r : List UInt8) : getN (putN n ++ r) = some (n, (putN n).length) := by
  have := getGo_put r 4 0 n 0 (by omega) (by omega) (by simpa using h) (fun h => by omega)
  simpa [getN] using this

theorem getGo_ok : ∀ (bs : List UInt8) (i n m k : Nat), n < 128 ^ i → getGo i n bs = some (m, k) → i < k ∧ k ≤ i + bs.length ∧ k ≤ 5 ∧ m ≤ 2147483647 ∧ n ≤ m ∧ (m - n) % 128 ^ i = 0 ∧ putN ((m - n) / 128 ^ i) = bs.take (k - i) ∧ (0 < i → 0 < (m - n) / 128 ^ i)
  | [], i, n, m, k, _, h => by cases h
  | b :: r, i, n, m, k, hn, h => by
    unfold getGo at h
    split at h
    · cases h
    · rename_i hi
      have hp : 0 < 128 ^ i := Nat.pow_pos (by omega)
      split at h
      · rename_i hb
        have hb8 := b.toNat_lt
        have hn2 : n + b.toNat % 128 * 128 ^ i < 128 ^ (i + 1) := by
          have : b.toNat % 128 * 128 ^ i ≤ 127 * 128 ^ i := Nat.mul_le_mul_right _ (by omega)
          rw [Nat.pow_succ]; omega
        obtain ⟨h1, h2, h3, h4, h5, h6, h7, h8⟩ := getGo_ok r (i + 1) _ m k hn2 h
        have hx := h8 (by omega)
        generalize hq : (m - (n + b.toNat % 128 * 128 ^ i)) / 128 ^ (i + 1) = q at h7 hx
        have hm : m - (n + b.toNat % 128 * 128 ^ i) = q * 128 ^ (i + 1) := by
          have := Nat.div_add_mod (m - (n + b.toNat % 128 * 128 ^ i)) (128 ^ (i + 1))
          rw [hq, h6, Nat.mul_comm] at this
          omega
        have hm2 : m - n = (b.toNat % 128 + 128 * q) * 128 ^ i := by
          have e : 128 * q * 128 ^ i = q * 128 ^ (i + 1) := by rw [Nat.pow_succ]; ac_rfl
          rw [Nat.add_mul, e]
          omega
        have hd : (m - n) / 128 ^ i = b.toNat % 128 + 128 * q := by rw [hm2, Nat.mul_div_cancel _ hp]
        refine ⟨by omega, by simp; omega, h3, h4, by omega, by rw [hm2]; exact Nat.mul_mod_left _ _, ?_, by omega⟩
        rw [hd, putN_big (by omega)]
        have e1 : (b.toNat % 128 + 128 * q) % 128 + 128 = b.toNat := by omega
        have e2 : (b.toNat % 128 + 128 * q) / 128 = q := by omega
        have e3 : k - i = (k - (i + 1)) + 1 := by omega
        rw [e1, e2, e3, List.take_succ_cons, h7]
        congr 1
        exact UInt8.toNat_inj.1 (by rw [UInt8.toNat_ofNat', Nat.mod_eq_of_lt hb8])
      · rename_i hb
        split at h
        · cases h
        · rename_i hc
          simp only [Option.some.injEq, Prod.mk.injEq] at h
          obtain ⟨rfl, rfl⟩ := h
          have hb8 := b.toNat_lt
          have e1 : b.toNat % 128 = b.toNat := by omega
          have e2 : n + b.toNat % 128 * 128 ^ i - n = b.toNat * 128 ^ i := by rw [e1]; omega
          refine ⟨by omega, by simp only [List.length_cons]; omega, by omega, by omega, by omega, by rw [e2]; exact Nat.mul_mod_left _ _, ?_, ?_⟩
          · rw [e2, Nat.mul_div_cancel _ hp, putN_small (by omega), show i + 1 - i = 1 by omega]
            show [UInt8.ofNat b.toNat] = [b]
            rw [UInt8.ofNat_toNat]
          · intro h0
            rw [e2, Nat.mul_div_cancel _ hp]
            omega
theorem getN_ok {bs : List UInt8} {n k : Nat} (h : getN bs = some (n, k)) : 1 ≤ k ∧ k ≤ bs.length ∧ k ≤ 5 ∧ n ≤ 2147483647 ∧ putN n = bs.take k := by
  obtain ⟨h1, h2, h3, h4, _, _, h7, _⟩ := getGo_ok bs 0 0 n k (by simp) h
  simp at h7 h2
  exact ⟨by omega, h2, h3, h4, h7⟩

/-- A text's bytes. -/
def textN (bs : List UInt8) : List UInt8 := putN bs.length ++ bs
/-- What Fix gives. -/
def fixF (n w : Int) : Option (List UInt8) := if (1 ≤ w ∧ w ≤ 4) ∧ (0 ≤ n ∧ n ≤ 2147483647) ∧ n.toNat / 256 ^ w.toNat = 0 then some (leB n.toNat w.toNat) else none
theorem leN_leB (w : Nat) : ∀ n, n < 256 ^ w → leN (leB n w) = n := by
  induction w with
  | zero => intro n h; simp at h; subst h; rfl
  | succ w ih =>
    intro n h
    have e : leB n (w + 1) = UInt8.ofNat n :: leB (n / 256) w := by
      unfold leB
      rw [List.range_succ_eq_map, List.map_cons, List.map_map]
      congr 1
      · simp
      apply List.map_congr_left
      intro k _
      show UInt8.ofNat (n / 2 ^ (8 * (k + 1))) = UInt8.ofNat (n / 256 / 2 ^ (8 * k))
      rw [Nat.div_div_eq_div_mul, show 2 ^ (8 * (k + 1)) = 256 * 2 ^ (8 * k) by rw [Nat.mul_add, Nat.pow_add, Nat.mul_comm]]
    rw [e]
    unfold leN
    rw [ih (n / 256) (by rw [Nat.div_lt_iff_lt_mul (by omega)]; rw [Nat.pow_succ] at h; exact h), UInt8.toNat_ofNat']
    omega
theorem fixF_unfix {n w : Int} {z : List UInt8} (h : fixF n w = some z) : unfixN z = (n.toNat, 0) := by
  unfold fixF at h
  split at h
  · rename_i hc
    obtain ⟨h1, h2, h3⟩ := hc
    obtain rfl := Option.some.inj h
    have h4 : n.toNat < 256 ^ w.toNat := by
      rcases Nat.lt_or_ge n.toNat (256 ^ w.toNat) with h | h
      · exact h
      · have := Nat.div_pos h (Nat.pow_pos (by omega)); omega
    unfold unfixN
    rw [leB_length, if_neg (by omega), leN_leB _ _ h4, if_pos (by omega)]
  · cases h
end Go.AS.C

namespace Go.AS.C
open Go Go.Proofs
set_option linter.unusedVariables false
set_option linter.unusedSimpArgs false
set_option maxRecDepth 10000

def wrI (n : Int) : Bool := decide (n < 1) || decide (n > 384)
/-- What is wrong with texts of these sizes. -/
def checkI (l : List Int) : Nat := if l.length = 0 then 1 else if 32 < l.length then 4 else match l.find? wrI with | none => 0 | some n => if n < 1 then 1 else 3
def lensI (ts : List (List UInt8)) : List Int := ts.map fun t => (t.length : Int)
def recJ (ts : List (List UInt8)) : List UInt8 := putN ts.length ++ (ts.map textN).flatten
/-- The record of texts. -/
def putJ (ts : List (List UInt8)) : List UInt8 := if checkI (lensI ts) = 0 then recJ ts else []
theorem checkI_zero {l : List Int} : checkI l = 0 ↔ 1 ≤ l.length ∧ l.length ≤ 32 ∧ ∀ n ∈ l, 1 ≤ n ∧ n ≤ 384 := by
  unfold checkI
  constructor
  · intro h
    split at h
    · cases h
    · split at h
      · cases h
      · split at h
        · rename_i h0 h1 h2
          refine ⟨by omega, by omega, fun n hn => ?_⟩
          have := List.find?_eq_none.1 h2 n hn
          simp only [wrI, Bool.or_eq_true, decide_eq_true_eq] at this
          omega
        · split at h <;> cases h
  · rintro ⟨h1, h2, h3⟩
    rw [if_neg (by omega), if_neg (by omega)]
    have : l.find? wrI = none := by
      rw [List.find?_eq_none]
      intro n hn
      have := h3 n hn
      simp only [wrI, Bool.or_eq_true, decide_eq_true_eq]
      omega
    rw [this]
/-- A number is put behind numbers of the call's own. -/
theorem app_int {A A0 : AH} {w : Value} {l : List Int} (x : Int) (hl : Le A0 A) (h : OwnS A0.length A 1 w l.length (ints .i64 l)) (hb : l.length ≤ 2 ^ 40) :
    sLit A [.int .i64 0] 1 1 [(0, 1, ii x)] = some (.slice (some ⟨A.length, 0, none⟩) 1 1, A ++ [.row [ii x] .own 1 true]) ∧
    ∃ w' A', sApp (A ++ [.row [ii x] .own 1 true]) w (.slice (some ⟨A.length, 0, none⟩) 1 1) 1 8 = some (w', A') ∧ Le A0 A' ∧ OwnS A0.length A' 1 w' (l ++ [x]).length (ints .i64 (l ++ [x])) := by
  have l1 := lit1 (A := A) (z := .int .i64 0) (len := 1) (ps := [(0, 1, ii x)]) [ii x] rfl rfl (by
    intro y hy
    rw [List.mem_singleton] at hy
    subst hy; exact one1_int _ _)
  have k1 : Le A (A ++ [.row [ii x] .own 1 true]) := .push _ _
  obtain ⟨v2, A2, p1, p2, p3, _⟩ := app_cells (bytes := 8) (hl.trans k1) (OwnS.le h k1) (sl_last A (cs := [ii x]) (st := .own) (ex := true) (c := 1) (by simp) (by simp)) rfl (by omega) (by simp; omega) (by omega)
  rw [List.length_singleton] at l1 p1
  exact ⟨l1, v2, A2, p1, p2, by simpa [ints] using p3⟩

theorem check_1_spec {A : AH} {n : Int} {Q : Value → AH → Prop} (hq : Q (.bool (wrI n)) A) : ACalls 0 Try.prog journal_check_1 [ii n] Q A := by
  refine ACalls.of_fits mixed fits_journal_check_1 rfl ?_
  unfold ic_journal_check_1
  have i0 : initA [ii n] 0 = ii n := rfl
  generalize initA [ii n] = a at i0
  by_cases h1 : n < 1
  · have e : wrI n = true := by simp [wrI, h1]
    rw [e] at hq
    simp (maxSteps := 1000000) (disch := omega) only [W_seq, W_ops, W_draw, W_block, W_skip, W_exit, W_ret, sq_normal, sq_ret, sq_exit, W_condv, condW_true, condW_false, thenA_normal, thenA_ret, thenA_exit, if_true, if_false, Bool.false_eq_true, decide_eq_true_eq, inBlockA_normal, inBlockA_ret, inBlockA_same, inBlockA_other, noGotoA_normal, noGotoA_ret, noGotoA_exit, Wops_nil, Wops_cons, Wops_le, Wops_guard, Wops_guardle, ok1_some, okV_some, kont_at, kontL_at, gdB_true, gdB_false, decide_true, decide_false, ev_tmp, ev_const, ev_func, ev_global, put_some, put_none, upd_same, upd_at, gd_bt, gd_bf, Bool.not_true, Bool.not_false, pick_true, pick_false, pick_b, not_b, W1_mov, W1_pick, W1_new, W1_box, W1_build, W1_lit, W1_load1, W1_loadn, W1_store, W1_nilc, W1_bin, W1_un, W1_conv, W1_b2s, W1_s2b, W1_field1, W1_fieldn, W1_faddr, W1_iaddr, W1_iarr, W1_idxs, W1_idxa1, W1_idxan, W1_sls, W1_sll, W1_sla, W1_mk, W1_ext, W1_fn, W1_ifc, W1_lens, W1_lenc, W1_app, W1_apps, W1_copy, W1_mn, W1_mx, W1_isnil, W1_strc, W1_beq, W1_mks, W1_capn, W1_appz, W1_eqagg, W1_call, W1_calld, callD_func, List.nil_append, List.append_nil, List.map_cons, List.map_nil, Option.map_some, Option.map_none, reduceIte, Option.some.injEq, exists_eq_left', Nat.reduceBEq, iv_ii, postA_ret, postA_normal, resVs_nil, resVs_tmp, resVs_one, resVs_many, Option.bind_some, tupleOf, Int.toNat_natCast, true_and, and_true, Nat.reduceEqDiff, RdOk_nil, RdOk_refl, rd_load1, rd_loadn, rd_b2s, rd_sll, rd_sla, rd_call, rd_calld, rd_new, rd_box, rd_lit, rd_store, rd_s2b, rd_mk, rd_app, rd_apps, rd_appz, rd_mks, rd_copy, blk_ptr, blk_sl, blk_nil, List.cons_append, addI, subI, mulI, quoI, remI, shrI, eqlI, neqI, eqS, neS, beqB, bneB, lenS, lenV, pickB, ext0, ext1, ext2, ext30, ext31, binA_lss, binA_leq, binA_gtr, binA_geq, convI, decide_eq_true, decide_eq_false, gd_undef, W_scope, mnI, mxI, inBlockA_ne, dec_refl, dec_nrefl, beq_self_eq_true, ite_true, ite_false, i0]
    exact hq
  · by_cases h2 : n > 384
    · have e : wrI n = true := by simp [wrI, h2]
      rw [e] at hq
      simp (maxSteps := 1000000) (disch := omega) only [W_seq, W_ops, W_draw, W_block, W_skip, W_exit, W_ret, sq_normal, sq_ret, sq_exit, W_condv, condW_true, condW_false, thenA_normal, thenA_ret, thenA_exit, if_true, if_false, Bool.false_eq_true, decide_eq_true_eq, inBlockA_normal, inBlockA_ret, inBlockA_same, inBlockA_other, noGotoA_normal, noGotoA_ret, noGotoA_exit, Wops_nil, Wops_cons, Wops_le, Wops_guard, Wops_guardle, ok1_some, okV_some, kont_at, kontL_at, gdB_true, gdB_false, decide_true, decide_false, ev_tmp, ev_const, ev_func, ev_global, put_some, put_none, upd_same, upd_at, gd_bt, gd_bf, Bool.not_true, Bool.not_false, pick_true, pick_false, pick_b, not_b, W1_mov, W1_pick, W1_new, W1_box, W1_build, W1_lit, W1_load1, W1_loadn, W1_store, W1_nilc, W1_bin, W1_un, W1_conv, W1_b2s, W1_s2b, W1_field1, W1_fieldn, W1_faddr, W1_iaddr, W1_iarr, W1_idxs, W1_idxa1, W1_idxan, W1_sls, W1_sll, W1_sla, W1_mk, W1_ext, W1_fn, W1_ifc, W1_lens, W1_lenc, W1_app, W1_apps, W1_copy, W1_mn, W1_mx, W1_isnil, W1_strc, W1_beq, W1_mks, W1_capn, W1_appz, W1_eqagg, W1_call, W1_calld, callD_func, List.nil_append, List.append_nil, List.map_cons, List.map_nil, Option.map_some, Option.map_none, reduceIte, Option.some.injEq, exists_eq_left', Nat.reduceBEq, iv_ii, postA_ret, postA_normal, resVs_nil, resVs_tmp, resVs_one, resVs_many, Option.bind_some, tupleOf, Int.toNat_natCast, true_and, and_true, Nat.reduceEqDiff, RdOk_nil, RdOk_refl, rd_load1, rd_loadn, rd_b2s, rd_sll, rd_sla, rd_call, rd_calld, rd_new, rd_box, rd_lit, rd_store, rd_s2b, rd_mk, rd_app, rd_apps, rd_appz, rd_mks, rd_copy, blk_ptr, blk_sl, blk_nil, List.cons_append, addI, subI, mulI, quoI, remI, shrI, eqlI, neqI, eqS, neS, beqB, bneB, lenS, lenV, pickB, ext0, ext1, ext2, ext30, ext31, binA_lss, binA_leq, binA_gtr, binA_geq, convI, decide_eq_true, decide_eq_false, gd_undef, W_scope, mnI, mxI, inBlockA_ne, dec_refl, dec_nrefl, beq_self_eq_true, ite_true, ite_false, i0]
      exact hq
    · have e : wrI n = false := by simp [wrI]; omega
      rw [e] at hq
      simp (maxSteps := 1000000) (disch := omega) only [W_seq, W_ops, W_draw, W_block, W_skip, W_exit, W_ret, sq_normal, sq_ret, sq_exit, W_condv, condW_true, condW_false, thenA_normal, thenA_ret, thenA_exit, if_true, if_false, Bool.false_eq_true, decide_eq_true_eq, inBlockA_normal, inBlockA_ret, inBlockA_same, inBlockA_other, noGotoA_normal, noGotoA_ret, noGotoA_exit, Wops_nil, Wops_cons, Wops_le, Wops_guard, Wops_guardle, ok1_some, okV_some, kont_at, kontL_at, gdB_true, gdB_false, decide_true, decide_false, ev_tmp, ev_const, ev_func, ev_global, put_some, put_none, upd_same, upd_at, gd_bt, gd_bf, Bool.not_true, Bool.not_false, pick_true, pick_false, pick_b, not_b, W1_mov, W1_pick, W1_new, W1_box, W1_build, W1_lit, W1_load1, W1_loadn, W1_store, W1_nilc, W1_bin, W1_un, W1_conv, W1_b2s, W1_s2b, W1_field1, W1_fieldn, W1_faddr, W1_iaddr, W1_iarr, W1_idxs, W1_idxa1, W1_idxan, W1_sls, W1_sll, W1_sla, W1_mk, W1_ext, W1_fn, W1_ifc, W1_lens, W1_lenc, W1_app, W1_apps, W1_copy, W1_mn, W1_mx, W1_isnil, W1_strc, W1_beq, W1_mks, W1_capn, W1_appz, W1_eqagg, W1_call, W1_calld, callD_func, List.nil_append, List.append_nil, List.map_cons, List.map_nil, Option.map_some, Option.map_none, reduceIte, Option.some.injEq, exists_eq_left', Nat.reduceBEq, iv_ii, postA_ret, postA_normal, resVs_nil, resVs_tmp, resVs_one, resVs_many, Option.bind_some, tupleOf, Int.toNat_natCast, true_and, and_true, Nat.reduceEqDiff, RdOk_nil, RdOk_refl, rd_load1, rd_loadn, rd_b2s, rd_sll, rd_sla, rd_call, rd_calld, rd_new, rd_box, rd_lit, rd_store, rd_s2b, rd_mk, rd_app, rd_apps, rd_appz, rd_mks, rd_copy, blk_ptr, blk_sl, blk_nil, List.cons_append, addI, subI, mulI, quoI, remI, shrI, eqlI, neqI, eqS, neS, beqB, bneB, lenS, lenV, pickB, ext0, ext1, ext2, ext30, ext31, binA_lss, binA_leq, binA_gtr, binA_geq, convI, decide_eq_true, decide_eq_false, gd_undef, W_scope, mnI, mxI, inBlockA_ne, dec_refl, dec_nrefl, beq_self_eq_true, ite_true, ite_false, i0]
      exact hq
theorem check_1_ok : calleeOk Try.prog journal_check_1 = true := by kernel_rfl
theorem IndexFunc_spec {A : AH} {v : Value} {l : List Int} {Q : Value → AH → Prop} (hv : Sl A 1 v l.length (ints .i64 l)) (hl : l.length < 2 ^ 62) (hn : l.find? wrI = none → Q (ii (-1)) A) (hs : ∀ (k : Nat) n, l[k]? = some n → l.find? wrI = some n → Q (ii k) A) :
    ACalls 0 Try.prog slices_IndexFunc_int_int [v, .func (.func journal_check_1) #[] #[]] Q A := by
  refine ACalls.of_fits mixed fits_slices_IndexFunc_int_int rfl ?_
  unfold ic_slices_IndexFunc_int_int
  have i0 : initA [v, .func (.func journal_check_1) #[] #[]] 0 = v := rfl
  have i1 : initA [v, .func (.func journal_check_1) #[] #[]] 1 = .func (.func journal_check_1) #[] #[] := rfl
  generalize initA [v, .func (.func journal_check_1) #[] #[]] = a at i0 i1
  simp (maxSteps := 1000000) (disch := omega) only [W_seq, W_ops, W_draw, W_block, W_skip, W_exit, W_ret, sq_normal, sq_ret, sq_exit, W_condv, condW_true, condW_false, thenA_normal, thenA_ret, thenA_exit, if_true, if_false, Bool.false_eq_true, decide_eq_true_eq, inBlockA_normal, inBlockA_ret, inBlockA_same, inBlockA_other, noGotoA_normal, noGotoA_ret, noGotoA_exit, Wops_nil, Wops_cons, Wops_le, Wops_guard, Wops_guardle, ok1_some, okV_some, kont_at, kontL_at, gdB_true, gdB_false, decide_true, decide_false, ev_tmp, ev_const, ev_func, ev_global, put_some, put_none, upd_same, upd_at, gd_bt, gd_bf, Bool.not_true, Bool.not_false, pick_true, pick_false, pick_b, not_b, W1_mov, W1_pick, W1_new, W1_box, W1_build, W1_lit, W1_load1, W1_loadn, W1_store, W1_nilc, W1_bin, W1_un, W1_conv, W1_b2s, W1_s2b, W1_field1, W1_fieldn, W1_faddr, W1_iaddr, W1_iarr, W1_idxs, W1_idxa1, W1_idxan, W1_sls, W1_sll, W1_sla, W1_mk, W1_ext, W1_fn, W1_ifc, W1_lens, W1_lenc, W1_app, W1_apps, W1_copy, W1_mn, W1_mx, W1_isnil, W1_strc, W1_beq, W1_mks, W1_capn, W1_appz, W1_eqagg, W1_call, W1_calld, callD_func, List.nil_append, List.append_nil, List.map_cons, List.map_nil, Option.map_some, Option.map_none, reduceIte, Option.some.injEq, exists_eq_left', Nat.reduceBEq, iv_ii, postA_ret, postA_normal, resVs_nil, resVs_tmp, resVs_one, resVs_many, Option.bind_some, tupleOf, Int.toNat_natCast, true_and, and_true, Nat.reduceEqDiff, RdOk_nil, RdOk_refl, rd_load1, rd_loadn, rd_b2s, rd_sll, rd_sla, rd_call, rd_calld, rd_new, rd_box, rd_lit, rd_store, rd_s2b, rd_mk, rd_app, rd_apps, rd_appz, rd_mks, rd_copy, blk_ptr, blk_sl, blk_nil, List.cons_append, addI, subI, mulI, quoI, remI, shrI, eqlI, neqI, eqS, neS, beqB, bneB, lenS, lenV, pickB, ext0, ext1, ext2, ext30, ext31, binA_lss, binA_leq, binA_gtr, binA_geq, convI, decide_eq_true, decide_eq_false, gd_undef, W_scope, mnI, mxI, inBlockA_ne, dec_refl, dec_nrefl, beq_self_eq_true, ite_true, ite_false, i0, i1, hv.len]
  refine W_loop (fun a' A' => A' = A ∧ ∃ k : Nat, k ≤ l.length ∧ l.find? wrI = (l.drop k).find? wrI ∧ a' 0 = v ∧ a' 1 = .func (.func journal_check_1) #[] #[] ∧ a' 7 = ii l.length ∧ a' 8 = ii k) (fun a' _ => l.length - (iv (a' 8)).toNat) ?_ ?_
  · refine ⟨rfl, 0, by omega, rfl, ?_⟩
    simp (maxSteps := 1000000) (disch := omega) only [W_seq, W_ops, W_draw, W_block, W_skip, W_exit, W_ret, sq_normal, sq_ret, sq_exit, W_condv, condW_true, condW_false, thenA_normal, thenA_ret, thenA_exit, if_true, if_false, Bool.false_eq_true, decide_eq_true_eq, inBlockA_normal, inBlockA_ret, inBlockA_same, inBlockA_other, noGotoA_normal, noGotoA_ret, noGotoA_exit, Wops_nil, Wops_cons, Wops_le, Wops_guard, Wops_guardle, ok1_some, okV_some, kont_at, kontL_at, gdB_true, gdB_false, decide_true, decide_false, ev_tmp, ev_const, ev_func, ev_global, put_some, put_none, upd_same, upd_at, gd_bt, gd_bf, Bool.not_true, Bool.not_false, pick_true, pick_false, pick_b, not_b, W1_mov, W1_pick, W1_new, W1_box, W1_build, W1_lit, W1_load1, W1_loadn, W1_store, W1_nilc, W1_bin, W1_un, W1_conv, W1_b2s, W1_s2b, W1_field1, W1_fieldn, W1_faddr, W1_iaddr, W1_iarr, W1_idxs, W1_idxa1, W1_idxan, W1_sls, W1_sll, W1_sla, W1_mk, W1_ext, W1_fn, W1_ifc, W1_lens, W1_lenc, W1_app, W1_apps, W1_copy, W1_mn, W1_mx, W1_isnil, W1_strc, W1_beq, W1_mks, W1_capn, W1_appz, W1_eqagg, W1_call, W1_calld, callD_func, List.nil_append, List.append_nil, List.map_cons, List.map_nil, Option.map_some, Option.map_none, reduceIte, Option.some.injEq, exists_eq_left', Nat.reduceBEq, iv_ii, postA_ret, postA_normal, resVs_nil, resVs_tmp, resVs_one, resVs_many, Option.bind_some, tupleOf, Int.toNat_natCast, true_and, and_true, Nat.reduceEqDiff, RdOk_nil, RdOk_refl, rd_load1, rd_loadn, rd_b2s, rd_sll, rd_sla, rd_call, rd_calld, rd_new, rd_box, rd_lit, rd_store, rd_s2b, rd_mk, rd_app, rd_apps, rd_appz, rd_mks, rd_copy, blk_ptr, blk_sl, blk_nil, List.cons_append, addI, subI, mulI, quoI, remI, shrI, eqlI, neqI, eqS, neS, beqB, bneB, lenS, lenV, pickB, ext0, ext1, ext2, ext30, ext31, binA_lss, binA_leq, binA_gtr, binA_geq, convI, decide_eq_true, decide_eq_false, gd_undef, W_scope, mnI, mxI, inBlockA_ne, dec_refl, dec_nrefl, beq_self_eq_true, ite_true, ite_false, i0, i1]
    try simp
  · rintro a2 B ⟨rfl, k, hk, hw, g0, g1, g7, g8⟩
    rcases Nat.lt_or_ge k l.length with hlt | hge
    · obtain ⟨n, hnn⟩ : ∃ n, l[k]? = some n := ⟨_, List.getElem?_eq_getElem hlt⟩
      obtain ⟨p, hp1, hp2⟩ := hv.at1 (j := k) (v0 := ii n) (by unfold ints; rw [List.getElem?_map, hnn]; rfl)
      have hd : l.drop k = n :: l.drop (k + 1) := by
        rw [List.drop_eq_getElem_cons hlt]
        rw [List.getElem?_eq_getElem hlt] at hnn
        rw [Option.some.inj hnn]
      rw [hd, List.find?_cons] at hw
      simp (maxSteps := 1000000) (disch := omega) only [W_seq, W_ops, W_draw, W_block, W_skip, W_exit, W_ret, sq_normal, sq_ret, sq_exit, W_condv, condW_true, condW_false, thenA_normal, thenA_ret, thenA_exit, if_true, if_false, Bool.false_eq_true, decide_eq_true_eq, inBlockA_normal, inBlockA_ret, inBlockA_same, inBlockA_other, noGotoA_normal, noGotoA_ret, noGotoA_exit, Wops_nil, Wops_cons, Wops_le, Wops_guard, Wops_guardle, ok1_some, okV_some, kont_at, kontL_at, gdB_true, gdB_false, decide_true, decide_false, ev_tmp, ev_const, ev_func, ev_global, put_some, put_none, upd_same, upd_at, gd_bt, gd_bf, Bool.not_true, Bool.not_false, pick_true, pick_false, pick_b, not_b, W1_mov, W1_pick, W1_new, W1_box, W1_build, W1_lit, W1_load1, W1_loadn, W1_store, W1_nilc, W1_bin, W1_un, W1_conv, W1_b2s, W1_s2b, W1_field1, W1_fieldn, W1_faddr, W1_iaddr, W1_iarr, W1_idxs, W1_idxa1, W1_idxan, W1_sls, W1_sll, W1_sla, W1_mk, W1_ext, W1_fn, W1_ifc, W1_lens, W1_lenc, W1_app, W1_apps, W1_copy, W1_mn, W1_mx, W1_isnil, W1_strc, W1_beq, W1_mks, W1_capn, W1_appz, W1_eqagg, W1_call, W1_calld, callD_func, List.nil_append, List.append_nil, List.map_cons, List.map_nil, Option.map_some, Option.map_none, reduceIte, Option.some.injEq, exists_eq_left', Nat.reduceBEq, iv_ii, postA_ret, postA_normal, resVs_nil, resVs_tmp, resVs_one, resVs_many, Option.bind_some, tupleOf, Int.toNat_natCast, true_and, and_true, Nat.reduceEqDiff, RdOk_nil, RdOk_refl, rd_load1, rd_loadn, rd_b2s, rd_sll, rd_sla, rd_call, rd_calld, rd_new, rd_box, rd_lit, rd_store, rd_s2b, rd_mk, rd_app, rd_apps, rd_appz, rd_mks, rd_copy, blk_ptr, blk_sl, blk_nil, List.cons_append, addI, subI, mulI, quoI, remI, shrI, eqlI, neqI, eqS, neS, beqB, bneB, lenS, lenV, pickB, ext0, ext1, ext2, ext30, ext31, binA_lss, binA_leq, binA_gtr, binA_geq, convI, decide_eq_true, decide_eq_false, gd_undef, W_scope, mnI, mxI, inBlockA_ne, dec_refl, dec_nrefl, beq_self_eq_true, ite_true, ite_false, g0, g1, g7, g8, hp1, hp2]
      refine ⟨check_1_ok, check_1_spec ?_⟩
      cases hwr : wrI n with
      | true =>
        rw [hwr] at hw
        simp (maxSteps := 1000000) (disch := omega) only [W_seq, W_ops, W_draw, W_block, W_skip, W_exit, W_ret, sq_normal, sq_ret, sq_exit, W_condv, condW_true, condW_false, thenA_normal, thenA_ret, thenA_exit, if_true, if_false, Bool.false_eq_true, decide_eq_true_eq, inBlockA_normal, inBlockA_ret, inBlockA_same, inBlockA_other, noGotoA_normal, noGotoA_ret, noGotoA_exit, Wops_nil, Wops_cons, Wops_le, Wops_guard, Wops_guardle, ok1_some, okV_some, kont_at, kontL_at, gdB_true, gdB_false, decide_true, decide_false, ev_tmp, ev_const, ev_func, ev_global, put_some, put_none, upd_same, upd_at, gd_bt, gd_bf, Bool.not_true, Bool.not_false, pick_true, pick_false, pick_b, not_b, W1_mov, W1_pick, W1_new, W1_box, W1_build, W1_lit, W1_load1, W1_loadn, W1_store, W1_nilc, W1_bin, W1_un, W1_conv, W1_b2s, W1_s2b, W1_field1, W1_fieldn, W1_faddr, W1_iaddr, W1_iarr, W1_idxs, W1_idxa1, W1_idxan, W1_sls, W1_sll, W1_sla, W1_mk, W1_ext, W1_fn, W1_ifc, W1_lens, W1_lenc, W1_app, W1_apps, W1_copy, W1_mn, W1_mx, W1_isnil, W1_strc, W1_beq, W1_mks, W1_capn, W1_appz, W1_eqagg, W1_call, W1_calld, callD_func, List.nil_append, List.append_nil, List.map_cons, List.map_nil, Option.map_some, Option.map_none, reduceIte, Option.some.injEq, exists_eq_left', Nat.reduceBEq, iv_ii, postA_ret, postA_normal, resVs_nil, resVs_tmp, resVs_one, resVs_many, Option.bind_some, tupleOf, Int.toNat_natCast, true_and, and_true, Nat.reduceEqDiff, RdOk_nil, RdOk_refl, rd_load1, rd_loadn, rd_b2s, rd_sll, rd_sla, rd_call, rd_calld, rd_new, rd_box, rd_lit, rd_store, rd_s2b, rd_mk, rd_app, rd_apps, rd_appz, rd_mks, rd_copy, blk_ptr, blk_sl, blk_nil, List.cons_append, addI, subI, mulI, quoI, remI, shrI, eqlI, neqI, eqS, neS, beqB, bneB, lenS, lenV, pickB, ext0, ext1, ext2, ext30, ext31, binA_lss, binA_leq, binA_gtr, binA_geq, convI, decide_eq_true, decide_eq_false, gd_undef, W_scope, mnI, mxI, inBlockA_ne, dec_refl, dec_nrefl, beq_self_eq_true, ite_true, ite_false, g0, g1, g7, g8]
        exact hs k n hnn hw
      | false =>
        rw [hwr] at hw
        simp (maxSteps := 1000000) (disch := omega) only [W_seq, W_ops, W_draw, W_block, W_skip, W_exit, W_ret, sq_normal, sq_ret, sq_exit, W_condv, condW_true, condW_false, thenA_normal, thenA_ret, thenA_exit, if_true, if_false, Bool.false_eq_true, decide_eq_true_eq, inBlockA_normal, inBlockA_ret, inBlockA_same, inBlockA_other, noGotoA_normal, noGotoA_ret, noGotoA_exit, Wops_nil, Wops_cons, Wops_le, Wops_guard, Wops_guardle, ok1_some, okV_some, kont_at, kontL_at, gdB_true, gdB_false, decide_true, decide_false, ev_tmp, ev_const, ev_func, ev_global, put_some, put_none, upd_same, upd_at, gd_bt, gd_bf, Bool.not_true, Bool.not_false, pick_true, pick_false, pick_b, not_b, W1_mov, W1_pick, W1_new, W1_box, W1_build, W1_lit, W1_load1, W1_loadn, W1_store, W1_nilc, W1_bin, W1_un, W1_conv, W1_b2s, W1_s2b, W1_field1, W1_fieldn, W1_faddr, W1_iaddr, W1_iarr, W1_idxs, W1_idxa1, W1_idxan, W1_sls, W1_sll, W1_sla, W1_mk, W1_ext, W1_fn, W1_ifc, W1_lens, W1_lenc, W1_app, W1_apps, W1_copy, W1_mn, W1_mx, W1_isnil, W1_strc, W1_beq, W1_mks, W1_capn, W1_appz, W1_eqagg, W1_call, W1_calld, callD_func, List.nil_append, List.append_nil, List.map_cons, List.map_nil, Option.map_some, Option.map_none, reduceIte, Option.some.injEq, exists_eq_left', Nat.reduceBEq, iv_ii, postA_ret, postA_normal, resVs_nil, resVs_tmp, resVs_one, resVs_many, Option.bind_some, tupleOf, Int.toNat_natCast, true_and, and_true, Nat.reduceEqDiff, RdOk_nil, RdOk_refl, rd_load1, rd_loadn, rd_b2s, rd_sll, rd_sla, rd_call, rd_calld, rd_new, rd_box, rd_lit, rd_store, rd_s2b, rd_mk, rd_app, rd_apps, rd_appz, rd_mks, rd_copy, blk_ptr, blk_sl, blk_nil, List.cons_append, addI, subI, mulI, quoI, remI, shrI, eqlI, neqI, eqS, neS, beqB, bneB, lenS, lenV, pickB, ext0, ext1, ext2, ext30, ext31, binA_lss, binA_leq, binA_gtr, binA_geq, convI, decide_eq_true, decide_eq_false, gd_undef, W_scope, mnI, mxI, inBlockA_ne, dec_refl, dec_nrefl, beq_self_eq_true, ite_true, ite_false, g0, g1, g7, g8]
        exact ⟨⟨k + 1, by omega, hw, rfl⟩, by omega⟩
    · rw [List.drop_of_length_le hge, List.find?_nil] at hw
      simp (maxSteps := 1000000) (disch := omega) only [W_seq, W_ops, W_draw, W_block, W_skip, W_exit, W_ret, sq_normal, sq_ret, sq_exit, W_condv, condW_true, condW_false, thenA_normal, thenA_ret, thenA_exit, if_true, if_false, Bool.false_eq_true, decide_eq_true_eq, inBlockA_normal, inBlockA_ret, inBlockA_same, inBlockA_other, noGotoA_normal, noGotoA_ret, noGotoA_exit, Wops_nil, Wops_cons, Wops_le, Wops_guard, Wops_guardle, ok1_some, okV_some, kont_at, kontL_at, gdB_true, gdB_false, decide_true, decide_false, ev_tmp, ev_const, ev_func, ev_global, put_some, put_none, upd_same, upd_at, gd_bt, gd_bf, Bool.not_true, Bool.not_false, pick_true, pick_false, pick_b, not_b, W1_mov, W1_pick, W1_new, W1_box, W1_build, W1_lit, W1_load1, W1_loadn, W1_store, W1_nilc, W1_bin, W1_un, W1_conv, W1_b2s, W1_s2b, W1_field1, W1_fieldn, W1_faddr, W1_iaddr, W1_iarr, W1_idxs, W1_idxa1, W1_idxan, W1_sls, W1_sll, W1_sla, W1_mk, W1_ext, W1_fn, W1_ifc, W1_lens, W1_lenc, W1_app, W1_apps, W1_copy, W1_mn, W1_mx, W1_isnil, W1_strc, W1_beq, W1_mks, W1_capn, W1_appz, W1_eqagg, W1_call, W1_calld, callD_func, List.nil_append, List.append_nil, List.map_cons, List.map_nil, Option.map_some, Option.map_none, reduceIte, Option.some.injEq, exists_eq_left', Nat.reduceBEq, iv_ii, postA_ret, postA_normal, resVs_nil, resVs_tmp, resVs_one, resVs_many, Option.bind_some, tupleOf, Int.toNat_natCast, true_and, and_true, Nat.reduceEqDiff, RdOk_nil, RdOk_refl, rd_load1, rd_loadn, rd_b2s, rd_sll, rd_sla, rd_call, rd_calld, rd_new, rd_box, rd_lit, rd_store, rd_s2b, rd_mk, rd_app, rd_apps, rd_appz, rd_mks, rd_copy, blk_ptr, blk_sl, blk_nil, List.cons_append, addI, subI, mulI, quoI, remI, shrI, eqlI, neqI, eqS, neS, beqB, bneB, lenS, lenV, pickB, ext0, ext1, ext2, ext30, ext31, binA_lss, binA_leq, binA_gtr, binA_geq, convI, decide_eq_true, decide_eq_false, gd_undef, W_scope, mnI, mxI, inBlockA_ne, dec_refl, dec_nrefl, beq_self_eq_true, ite_true, ite_false, g8, g7]
      exact hn hw
theorem check_spec {A : AH} {v : Value} {l : List Int} {Q : Value → AH → Prop} (hv : Sl A 1 v l.length (ints .i64 l)) (hl : l.length < 2 ^ 62) (hq : Q (ii (checkI l)) A) : ACalls 0 Try.prog journal_check [v] Q A := by
  refine ACalls.of_fits mixed fits_journal_check rfl ?_
  unfold ic_journal_check
  have i0 : initA [v] 0 = v := rfl
  generalize initA [v] = a at i0
  by_cases h0 : l.length = 0
  · have e : checkI l = 1 := by unfold checkI; rw [if_pos h0]
    rw [e] at hq
    simp (maxSteps := 1000000) (disch := omega) only [W_seq, W_ops, W_draw, W_block, W_skip, W_exit, W_ret, sq_normal, sq_ret, sq_exit, W_condv, condW_true, condW_false, thenA_normal, thenA_ret, thenA_exit, if_true, if_false, Bool.false_eq_true, decide_eq_true_eq, inBlockA_normal, inBlockA_ret, inBlockA_same, inBlockA_other, noGotoA_normal, noGotoA_ret, noGotoA_exit, Wops_nil, Wops_cons, Wops_le, Wops_guard, Wops_guardle, ok1_some, okV_some, kont_at, kontL_at, gdB_true, gdB_false, decide_true, decide_false, ev_tmp, ev_const, ev_func, ev_global, put_some, put_none, upd_same, upd_at, gd_bt, gd_bf, Bool.not_true, Bool.not_false, pick_true, pick_false, pick_b, not_b, W1_mov, W1_pick, W1_new, W1_box, W1_build, W1_lit, W1_load1, W1_loadn, W1_store, W1_nilc, W1_bin, W1_un, W1_conv, W1_b2s, W1_s2b, W1_field1, W1_fieldn, W1_faddr, W1_iaddr, W1_iarr, W1_idxs, W1_idxa1, W1_idxan, W1_sls, W1_sll, W1_sla, W1_mk, W1_ext, W1_fn, W1_ifc, W1_lens, W1_lenc, W1_app, W1_apps, W1_copy, W1_mn, W1_mx, W1_isnil, W1_strc, W1_beq, W1_mks, W1_capn, W1_appz, W1_eqagg, W1_call, W1_calld, callD_func, List.nil_append, List.append_nil, List.map_cons, List.map_nil, Option.map_some, Option.map_none, reduceIte, Option.some.injEq, exists_eq_left', Nat.reduceBEq, iv_ii, postA_ret, postA_normal, resVs_nil, resVs_tmp, resVs_one, resVs_many, Option.bind_some, tupleOf, Int.toNat_natCast, true_and, and_true, Nat.reduceEqDiff, RdOk_nil, RdOk_refl, rd_load1, rd_loadn, rd_b2s, rd_sll, rd_sla, rd_call, rd_calld, rd_new, rd_box, rd_lit, rd_store, rd_s2b, rd_mk, rd_app, rd_apps, rd_appz, rd_mks, rd_copy, blk_ptr, blk_sl, blk_nil, List.cons_append, addI, subI, mulI, quoI, remI, shrI, eqlI, neqI, eqS, neS, beqB, bneB, lenS, lenV, pickB, ext0, ext1, ext2, ext30, ext31, binA_lss, binA_leq, binA_gtr, binA_geq, convI, decide_eq_true, decide_eq_false, gd_undef, W_scope, mnI, mxI, inBlockA_ne, dec_refl, dec_nrefl, beq_self_eq_true, ite_true, ite_false, i0, hv.len]
    exact hq
  · by_cases h32 : 32 < l.length
    · have e : checkI l = 4 := by unfold checkI; rw [if_neg h0, if_pos h32]
      rw [e] at hq
      simp (maxSteps := 1000000) (disch := omega) only [W_seq, W_ops, W_draw, W_block, W_skip, W_exit, W_ret, sq_normal, sq_ret, sq_exit, W_condv, condW_true, condW_false, thenA_normal, thenA_ret, thenA_exit, if_true, if_false, Bool.false_eq_true, decide_eq_true_eq, inBlockA_normal, inBlockA_ret, inBlockA_same, inBlockA_other, noGotoA_normal, noGotoA_ret, noGotoA_exit, Wops_nil, Wops_cons, Wops_le, Wops_guard, Wops_guardle, ok1_some, okV_some, kont_at, kontL_at, gdB_true, gdB_false, decide_true, decide_false, ev_tmp, ev_const, ev_func, ev_global, put_some, put_none, upd_same, upd_at, gd_bt, gd_bf, Bool.not_true, Bool.not_false, pick_true, pick_false, pick_b, not_b, W1_mov, W1_pick, W1_new, W1_box, W1_build, W1_lit, W1_load1, W1_loadn, W1_store, W1_nilc, W1_bin, W1_un, W1_conv, W1_b2s, W1_s2b, W1_field1, W1_fieldn, W1_faddr, W1_iaddr, W1_iarr, W1_idxs, W1_idxa1, W1_idxan, W1_sls, W1_sll, W1_sla, W1_mk, W1_ext, W1_fn, W1_ifc, W1_lens, W1_lenc, W1_app, W1_apps, W1_copy, W1_mn, W1_mx, W1_isnil, W1_strc, W1_beq, W1_mks, W1_capn, W1_appz, W1_eqagg, W1_call, W1_calld, callD_func, List.nil_append, List.append_nil, List.map_cons, List.map_nil, Option.map_some, Option.map_none, reduceIte, Option.some.injEq, exists_eq_left', Nat.reduceBEq, iv_ii, postA_ret, postA_normal, resVs_nil, resVs_tmp, resVs_one, resVs_many, Option.bind_some, tupleOf, Int.toNat_natCast, true_and, and_true, Nat.reduceEqDiff, RdOk_nil, RdOk_refl, rd_load1, rd_loadn, rd_b2s, rd_sll, rd_sla, rd_call, rd_calld, rd_new, rd_box, rd_lit, rd_store, rd_s2b, rd_mk, rd_app, rd_apps, rd_appz, rd_mks, rd_copy, blk_ptr, blk_sl, blk_nil, List.cons_append, addI, subI, mulI, quoI, remI, shrI, eqlI, neqI, eqS, neS, beqB, bneB, lenS, lenV, pickB, ext0, ext1, ext2, ext30, ext31, binA_lss, binA_leq, binA_gtr, binA_geq, convI, decide_eq_true, decide_eq_false, gd_undef, W_scope, mnI, mxI, inBlockA_ne, dec_refl, dec_nrefl, beq_self_eq_true, ite_true, ite_false, i0, hv.len]
      exact hq
    · have e : checkI l = match l.find? wrI with | none => 0 | some n => if n < 1 then 1 else 3 := by unfold checkI; rw [if_neg h0, if_neg h32]
      rw [e] at hq
      simp (maxSteps := 1000000) (disch := omega) only [W_seq, W_ops, W_draw, W_block, W_skip, W_exit, W_ret, sq_normal, sq_ret, sq_exit, W_condv, condW_true, condW_false, thenA_normal, thenA_ret, thenA_exit, if_true, if_false, Bool.false_eq_true, decide_eq_true_eq, inBlockA_normal, inBlockA_ret, inBlockA_same, inBlockA_other, noGotoA_normal, noGotoA_ret, noGotoA_exit, Wops_nil, Wops_cons, Wops_le, Wops_guard, Wops_guardle, ok1_some, okV_some, kont_at, kontL_at, gdB_true, gdB_false, decide_true, decide_false, ev_tmp, ev_const, ev_func, ev_global, put_some, put_none, upd_same, upd_at, gd_bt, gd_bf, Bool.not_true, Bool.not_false, pick_true, pick_false, pick_b, not_b, W1_mov, W1_pick, W1_new, W1_box, W1_build, W1_lit, W1_load1, W1_loadn, W1_store, W1_nilc, W1_bin, W1_un, W1_conv, W1_b2s, W1_s2b, W1_field1, W1_fieldn, W1_faddr, W1_iaddr, W1_iarr, W1_idxs, W1_idxa1, W1_idxan, W1_sls, W1_sll, W1_sla, W1_mk, W1_ext, W1_fn, W1_ifc, W1_lens, W1_lenc, W1_app, W1_apps, W1_copy, W1_mn, W1_mx, W1_isnil, W1_strc, W1_beq, W1_mks, W1_capn, W1_appz, W1_eqagg, W1_call, W1_calld, callD_func, List.nil_append, List.append_nil, List.map_cons, List.map_nil, Option.map_some, Option.map_none, reduceIte, Option.some.injEq, exists_eq_left', Nat.reduceBEq, iv_ii, postA_ret, postA_normal, resVs_nil, resVs_tmp, resVs_one, resVs_many, Option.bind_some, tupleOf, Int.toNat_natCast, true_and, and_true, Nat.reduceEqDiff, RdOk_nil, RdOk_refl, rd_load1, rd_loadn, rd_b2s, rd_sll, rd_sla, rd_call, rd_calld, rd_new, rd_box, rd_lit, rd_store, rd_s2b, rd_mk, rd_app, rd_apps, rd_appz, rd_mks, rd_copy, blk_ptr, blk_sl, blk_nil, List.cons_append, addI, subI, mulI, quoI, remI, shrI, eqlI, neqI, eqS, neS, beqB, bneB, lenS, lenV, pickB, ext0, ext1, ext2, ext30, ext31, binA_lss, binA_leq, binA_gtr, binA_geq, convI, decide_eq_true, decide_eq_false, gd_undef, W_scope, mnI, mxI, inBlockA_ne, dec_refl, dec_nrefl, beq_self_eq_true, ite_true, ite_false, i0, hv.len]
      refine IndexFunc_spec hv hl (fun hn => ?_) (fun k n hk hn => ?_)
      · rw [hn] at hq
        simp (maxSteps := 1000000) (disch := omega) only [W_seq, W_ops, W_draw, W_block, W_skip, W_exit, W_ret, sq_normal, sq_ret, sq_exit, W_condv, condW_true, condW_false, thenA_normal, thenA_ret, thenA_exit, if_true, if_false, Bool.false_eq_true, decide_eq_true_eq, inBlockA_normal, inBlockA_ret, inBlockA_same, inBlockA_other, noGotoA_normal, noGotoA_ret, noGotoA_exit, Wops_nil, Wops_cons, Wops_le, Wops_guard, Wops_guardle, ok1_some, okV_some, kont_at, kontL_at, gdB_true, gdB_false, decide_true, decide_false, ev_tmp, ev_const, ev_func, ev_global, put_some, put_none, upd_same, upd_at, gd_bt, gd_bf, Bool.not_true, Bool.not_false, pick_true, pick_false, pick_b, not_b, W1_mov, W1_pick, W1_new, W1_box, W1_build, W1_lit, W1_load1, W1_loadn, W1_store, W1_nilc, W1_bin, W1_un, W1_conv, W1_b2s, W1_s2b, W1_field1, W1_fieldn, W1_faddr, W1_iaddr, W1_iarr, W1_idxs, W1_idxa1, W1_idxan, W1_sls, W1_sll, W1_sla, W1_mk, W1_ext, W1_fn, W1_ifc, W1_lens, W1_lenc, W1_app, W1_apps, W1_copy, W1_mn, W1_mx, W1_isnil, W1_strc, W1_beq, W1_mks, W1_capn, W1_appz, W1_eqagg, W1_call, W1_calld, callD_func, List.nil_append, List.append_nil, List.map_cons, List.map_nil, Option.map_some, Option.map_none, reduceIte, Option.some.injEq, exists_eq_left', Nat.reduceBEq, iv_ii, postA_ret, postA_normal, resVs_nil, resVs_tmp, resVs_one, resVs_many, Option.bind_some, tupleOf, Int.toNat_natCast, true_and, and_true, Nat.reduceEqDiff, RdOk_nil, RdOk_refl, rd_load1, rd_loadn, rd_b2s, rd_sll, rd_sla, rd_call, rd_calld, rd_new, rd_box, rd_lit, rd_store, rd_s2b, rd_mk, rd_app, rd_apps, rd_appz, rd_mks, rd_copy, blk_ptr, blk_sl, blk_nil, List.cons_append, addI, subI, mulI, quoI, remI, shrI, eqlI, neqI, eqS, neS, beqB, bneB, lenS, lenV, pickB, ext0, ext1, ext2, ext30, ext31, binA_lss, binA_leq, binA_gtr, binA_geq, convI, decide_eq_true, decide_eq_false, gd_undef, W_scope, mnI, mxI, inBlockA_ne, dec_refl, dec_nrefl, beq_self_eq_true, ite_true, ite_false, i0]
        exact hq
      · rw [hn] at hq
        obtain ⟨p, hp1, hp2⟩ := hv.at1 (j := k) (v0 := ii n) (by unfold ints; rw [List.getElem?_map, hk]; rfl)
        by_cases h1 : n < 1
        · simp only [if_pos h1] at hq
          simp (maxSteps := 1000000) (disch := omega) only [W_seq, W_ops, W_draw, W_block, W_skip, W_exit, W_ret, sq_normal, sq_ret, sq_exit, W_condv, condW_true, condW_false, thenA_normal, thenA_ret, thenA_exit, if_true, if_false, Bool.false_eq_true, decide_eq_true_eq, inBlockA_normal, inBlockA_ret, inBlockA_same, inBlockA_other, noGotoA_normal, noGotoA_ret, noGotoA_exit, Wops_nil, Wops_cons, Wops_le, Wops_guard, Wops_guardle, ok1_some, okV_some, kont_at, kontL_at, gdB_true, gdB_false, decide_true, decide_false, ev_tmp, ev_const, ev_func, ev_global, put_some, put_none, upd_same, upd_at, gd_bt, gd_bf, Bool.not_true, Bool.not_false, pick_true, pick_false, pick_b, not_b, W1_mov, W1_pick, W1_new, W1_box, W1_build, W1_lit, W1_load1, W1_loadn, W1_store, W1_nilc, W1_bin, W1_un, W1_conv, W1_b2s, W1_s2b, W1_field1, W1_fieldn, W1_faddr, W1_iaddr, W1_iarr, W1_idxs, W1_idxa1, W1_idxan, W1_sls, W1_sll, W1_sla, W1_mk, W1_ext, W1_fn, W1_ifc, W1_lens, W1_lenc, W1_app, W1_apps, W1_copy, W1_mn, W1_mx, W1_isnil, W1_strc, W1_beq, W1_mks, W1_capn, W1_appz, W1_eqagg, W1_call, W1_calld, callD_func, List.nil_append, List.append_nil, List.map_cons, List.map_nil, Option.map_some, Option.map_none, reduceIte, Option.some.injEq, exists_eq_left', Nat.reduceBEq, iv_ii, postA_ret, postA_normal, resVs_nil, resVs_tmp, resVs_one, resVs_many, Option.bind_some, tupleOf, Int.toNat_natCast, true_and, and_true, Nat.reduceEqDiff, RdOk_nil, RdOk_refl, rd_load1, rd_loadn, rd_b2s, rd_sll, rd_sla, rd_call, rd_calld, rd_new, rd_box, rd_lit, rd_store, rd_s2b, rd_mk, rd_app, rd_apps, rd_appz, rd_mks, rd_copy, blk_ptr, blk_sl, blk_nil, List.cons_append, addI, subI, mulI, quoI, remI, shrI, eqlI, neqI, eqS, neS, beqB, bneB, lenS, lenV, pickB, ext0, ext1, ext2, ext30, ext31, binA_lss, binA_leq, binA_gtr, binA_geq, convI, decide_eq_true, decide_eq_false, gd_undef, W_scope, mnI, mxI, inBlockA_ne, dec_refl, dec_nrefl, beq_self_eq_true, ite_true, ite_false, i0, hp1, hp2]
          exact hq
        · simp only [if_neg h1] at hq
          simp (maxSteps := 1000000) (disch := omega) only [W_seq, W_ops, W_draw, W_block, W_skip, W_exit, W_ret, sq_normal, sq_ret, sq_exit, W_condv, condW_true, condW_false, thenA_normal, thenA_ret, thenA_exit, if_true, if_false, Bool.false_eq_true, decide_eq_true_eq, inBlockA_normal, inBlockA_ret, inBlockA_same, inBlockA_other, noGotoA_normal, noGotoA_ret, noGotoA_exit, Wops_nil, Wops_cons, Wops_le, Wops_guard, Wops_guardle, ok1_some, okV_some, kont_at, kontL_at, gdB_true, gdB_false, decide_true, decide_false, ev_tmp, ev_const, ev_func, ev_global, put_some, put_none, upd_same, upd_at, gd_bt, gd_bf, Bool.not_true, Bool.not_false, pick_true, pick_false, pick_b, not_b, W1_mov, W1_pick, W1_new, W1_box, W1_build, W1_lit, W1_load1, W1_loadn, W1_store, W1_nilc, W1_bin, W1_un, W1_conv, W1_b2s, W1_s2b, W1_field1, W1_fieldn, W1_faddr, W1_iaddr, W1_iarr, W1_idxs, W1_idxa1, W1_idxan, W1_sls, W1_sll, W1_sla, W1_mk, W1_ext, W1_fn, W1_ifc, W1_lens, W1_lenc, W1_app, W1_apps, W1_copy, W1_mn, W1_mx, W1_isnil, W1_strc, W1_beq, W1_mks, W1_capn, W1_appz, W1_eqagg, W1_call, W1_calld, callD_func, List.nil_append, List.append_nil, List.map_cons, List.map_nil, Option.map_some, Option.map_none, reduceIte, Option.some.injEq, exists_eq_left', Nat.reduceBEq, iv_ii, postA_ret, postA_normal, resVs_nil, resVs_tmp, resVs_one, resVs_many, Option.bind_some, tupleOf, Int.toNat_natCast, true_and, and_true, Nat.reduceEqDiff, RdOk_nil, RdOk_refl, rd_load1, rd_loadn, rd_b2s, rd_sll, rd_sla, rd_call, rd_calld, rd_new, rd_box, rd_lit, rd_store, rd_s2b, rd_mk, rd_app, rd_apps, rd_appz, rd_mks, rd_copy, blk_ptr, blk_sl, blk_nil, List.cons_append, addI, subI, mulI, quoI, remI, shrI, eqlI, neqI, eqS, neS, beqB, bneB, lenS, lenV, pickB, ext0, ext1, ext2, ext30, ext31, binA_lss, binA_leq, binA_gtr, binA_geq, convI, decide_eq_true, decide_eq_false, gd_undef, W_scope, mnI, mxI, inBlockA_ne, dec_refl, dec_nrefl, beq_self_eq_true, ite_true, ite_false, i0, hp1, hp2]
          exact hq
end Go.AS.C

namespace Go.AS.C
open Go Go.Proofs
set_option linter.unusedVariables false
set_option linter.unusedSimpArgs false
set_option maxRecDepth 10000

theorem num_is_spec {A : AH} {n : Int} {Q : Value → AH → Prop} (hq : Q (.bool (decide (0 ≤ n ∧ n ≤ 2147483647))) A) : ACalls 0 Try.prog num_is [ii n] Q A := by
  refine ACalls.of_fits mixed fits_num_is rfl ?_
  unfold ic_num_is
  have i0 : initA [ii n] 0 = ii n := rfl
  generalize initA [ii n] = a at i0
  by_cases h : (0 : Int) ≤ n
  · have h1 : (n ≥ 0) = True := by simp [h]
    simp only [W_seq, W_ops, W_draw, W_block, W_skip, W_exit, W_ret, sq_normal, sq_ret, sq_exit, W_condv, condW_true, condW_false, thenA_normal, thenA_ret, thenA_exit, if_true, if_false, Bool.false_eq_true, decide_eq_true_eq, inBlockA_normal, inBlockA_ret, inBlockA_same, inBlockA_other, noGotoA_normal, noGotoA_ret, noGotoA_exit, Wops_nil, Wops_cons, Wops_le, Wops_guard, Wops_guardle, ok1_some, okV_some, kont_at, kontL_at, gdB_true, gdB_false, decide_true, decide_false, ev_tmp, ev_const, ev_func, ev_global, put_some, put_none, upd_same, upd_at, gd_bt, gd_bf, Bool.not_true, Bool.not_false, pick_true, pick_false, pick_b, not_b, W1_mov, W1_pick, W1_new, W1_box, W1_build, W1_lit, W1_load1, W1_loadn, W1_store, W1_nilc, W1_bin, W1_un, W1_conv, W1_b2s, W1_s2b, W1_field1, W1_fieldn, W1_faddr, W1_iaddr, W1_iarr, W1_idxs, W1_idxa1, W1_idxan, W1_sls, W1_sll, W1_sla, W1_mk, W1_ext, W1_fn, W1_ifc, W1_lens, W1_lenc, W1_app, W1_apps, W1_copy, W1_mn, W1_mx, W1_isnil, W1_strc, W1_beq, W1_mks, W1_capn, W1_appz, W1_eqagg, W1_call, W1_calld, callD_func, List.nil_append, List.append_nil, List.map_cons, List.map_nil, Option.map_some, Option.map_none, reduceIte, Option.some.injEq, exists_eq_left', Nat.reduceBEq, iv_ii, postA_ret, postA_normal, resVs_nil, resVs_tmp, resVs_one, resVs_many, Option.bind_some, tupleOf, Int.toNat_natCast, true_and, and_true, Nat.reduceEqDiff, RdOk_nil, RdOk_refl, rd_load1, rd_loadn, rd_b2s, rd_sll, rd_sla, rd_call, rd_calld, rd_new, rd_box, rd_lit, rd_store, rd_s2b, rd_mk, rd_app, rd_apps, rd_appz, rd_mks, rd_copy, blk_ptr, blk_sl, blk_nil, List.cons_append, i0, binA_geq, binA_leq, h1]
    simpa [h] using hq
  · have h1 : (n ≥ 0) = False := by simp; omega
    simp only [W_seq, W_ops, W_draw, W_block, W_skip, W_exit, W_ret, sq_normal, sq_ret, sq_exit, W_condv, condW_true, condW_false, thenA_normal, thenA_ret, thenA_exit, if_true, if_false, Bool.false_eq_true, decide_eq_true_eq, inBlockA_normal, inBlockA_ret, inBlockA_same, inBlockA_other, noGotoA_normal, noGotoA_ret, noGotoA_exit, Wops_nil, Wops_cons, Wops_le, Wops_guard, Wops_guardle, ok1_some, okV_some, kont_at, kontL_at, gdB_true, gdB_false, decide_true, decide_false, ev_tmp, ev_const, ev_func, ev_global, put_some, put_none, upd_same, upd_at, gd_bt, gd_bf, Bool.not_true, Bool.not_false, pick_true, pick_false, pick_b, not_b, W1_mov, W1_pick, W1_new, W1_box, W1_build, W1_lit, W1_load1, W1_loadn, W1_store, W1_nilc, W1_bin, W1_un, W1_conv, W1_b2s, W1_s2b, W1_field1, W1_fieldn, W1_faddr, W1_iaddr, W1_iarr, W1_idxs, W1_idxa1, W1_idxan, W1_sls, W1_sll, W1_sla, W1_mk, W1_ext, W1_fn, W1_ifc, W1_lens, W1_lenc, W1_app, W1_apps, W1_copy, W1_mn, W1_mx, W1_isnil, W1_strc, W1_beq, W1_mks, W1_capn, W1_appz, W1_eqagg, W1_call, W1_calld, callD_func, List.nil_append, List.append_nil, List.map_cons, List.map_nil, Option.map_some, Option.map_none, reduceIte, Option.some.injEq, exists_eq_left', Nat.reduceBEq, iv_ii, postA_ret, postA_normal, resVs_nil, resVs_tmp, resVs_one, resVs_many, Option.bind_some, tupleOf, Int.toNat_natCast, true_and, and_true, Nat.reduceEqDiff, RdOk_nil, RdOk_refl, rd_load1, rd_loadn, rd_b2s, rd_sll, rd_sla, rd_call, rd_calld, rd_new, rd_box, rd_lit, rd_store, rd_s2b, rd_mk, rd_app, rd_apps, rd_appz, rd_mks, rd_copy, blk_ptr, blk_sl, blk_nil, List.cons_append, i0, binA_geq, binA_leq, h1]
    simpa [h] using hq

end Go.AS.C

namespace Go.AS.C
open Go Go.Proofs
set_option linter.unusedVariables false
set_option linter.unusedSimpArgs false
set_option maxRecDepth 10000

theorem num_Put_spec {A : AH} {n : Int} {Q : Value → AH → Prop} (hok : ∀ t A', 0 ≤ n → n ≤ 2147483647 → Le A A' → OwnB A.length A' t (putN n.toNat) → Q (.tuple #[t, ii 0]) A')
    (hbad : ¬ (0 ≤ n ∧ n ≤ 2147483647) → Q (.tuple #[.slice none 0 0, ii 1]) A) : ACalls 0 Try.prog num_Put [ii n] Q A := by
  refine ACalls.of_fits mixed fits_num_Put rfl ?_
  unfold ic_num_Put
  have i0 : initA [ii n] 0 = ii n := rfl
  generalize initA [ii n] = a at i0
  simp (maxSteps := 1000000) (disch := omega) only [W_seq, W_ops, W_draw, W_block, W_skip, W_exit, W_ret, sq_normal, sq_ret, sq_exit, W_condv, condW_true, condW_false, thenA_normal, thenA_ret, thenA_exit, if_true, if_false, Bool.false_eq_true, decide_eq_true_eq, inBlockA_normal, inBlockA_ret, inBlockA_same, inBlockA_other, noGotoA_normal, noGotoA_ret, noGotoA_exit, Wops_nil, Wops_cons, Wops_le, Wops_guard, Wops_guardle, ok1_some, okV_some, kont_at, kontL_at, gdB_true, gdB_false, decide_true, decide_false, ev_tmp, ev_const, ev_func, ev_global, put_some, put_none, upd_same, upd_at, gd_bt, gd_bf, Bool.not_true, Bool.not_false, pick_true, pick_false, pick_b, not_b, W1_mov, W1_pick, W1_new, W1_box, W1_build, W1_lit, W1_load1, W1_loadn, W1_store, W1_nilc, W1_bin, W1_un, W1_conv, W1_b2s, W1_s2b, W1_field1, W1_fieldn, W1_faddr, W1_iaddr, W1_iarr, W1_idxs, W1_idxa1, W1_idxan, W1_sls, W1_sll, W1_sla, W1_mk, W1_ext, W1_fn, W1_ifc, W1_lens, W1_lenc, W1_app, W1_apps, W1_copy, W1_mn, W1_mx, W1_isnil, W1_strc, W1_beq, W1_mks, W1_capn, W1_appz, W1_eqagg, W1_call, W1_calld, callD_func, List.nil_append, List.append_nil, List.map_cons, List.map_nil, Option.map_some, Option.map_none, reduceIte, Option.some.injEq, exists_eq_left', Nat.reduceBEq, iv_ii, postA_ret, postA_normal, resVs_nil, resVs_tmp, resVs_one, resVs_many, Option.bind_some, tupleOf, Int.toNat_natCast, true_and, and_true, Nat.reduceEqDiff, RdOk_nil, RdOk_refl, rd_load1, rd_loadn, rd_b2s, rd_sll, rd_sla, rd_call, rd_calld, rd_new, rd_box, rd_lit, rd_store, rd_s2b, rd_mk, rd_app, rd_apps, rd_appz, rd_mks, rd_copy, blk_ptr, blk_sl, blk_nil, List.cons_append, addI, subI, mulI, quoI, remI, shrI, eqlI, neqI, eqS, neS, beqB, bneB, lenS, lenV, pickB, ext0, ext1, ext2, ext30, ext31, binA_lss, binA_leq, binA_gtr, binA_geq, convI, decide_eq_true, decide_eq_false, gd_undef, W_scope, mnI, mxI, inBlockA_ne, dec_refl, dec_nrefl, beq_self_eq_true, ite_true, ite_false, i0]
  refine num_is_spec ?_
  by_cases h : 0 ≤ n ∧ n ≤ 2147483647
  · obtain ⟨m, rfl⟩ : ∃ m : Nat, n = m := ⟨n.toNat, by omega⟩
    simp (maxSteps := 1000000) (disch := omega) only [W_seq, W_ops, W_draw, W_block, W_skip, W_exit, W_ret, sq_normal, sq_ret, sq_exit, W_condv, condW_true, condW_false, thenA_normal, thenA_ret, thenA_exit, if_true, if_false, Bool.false_eq_true, decide_eq_true_eq, inBlockA_normal, inBlockA_ret, inBlockA_same, inBlockA_other, noGotoA_normal, noGotoA_ret, noGotoA_exit, Wops_nil, Wops_cons, Wops_le, Wops_guard, Wops_guardle, ok1_some, okV_some, kont_at, kontL_at, gdB_true, gdB_false, decide_true, decide_false, ev_tmp, ev_const, ev_func, ev_global, put_some, put_none, upd_same, upd_at, gd_bt, gd_bf, Bool.not_true, Bool.not_false, pick_true, pick_false, pick_b, not_b, W1_mov, W1_pick, W1_new, W1_box, W1_build, W1_lit, W1_load1, W1_loadn, W1_store, W1_nilc, W1_bin, W1_un, W1_conv, W1_b2s, W1_s2b, W1_field1, W1_fieldn, W1_faddr, W1_iaddr, W1_iarr, W1_idxs, W1_idxa1, W1_idxan, W1_sls, W1_sll, W1_sla, W1_mk, W1_ext, W1_fn, W1_ifc, W1_lens, W1_lenc, W1_app, W1_apps, W1_copy, W1_mn, W1_mx, W1_isnil, W1_strc, W1_beq, W1_mks, W1_capn, W1_appz, W1_eqagg, W1_call, W1_calld, callD_func, List.nil_append, List.append_nil, List.map_cons, List.map_nil, Option.map_some, Option.map_none, reduceIte, Option.some.injEq, exists_eq_left', Nat.reduceBEq, iv_ii, postA_ret, postA_normal, resVs_nil, resVs_tmp, resVs_one, resVs_many, Option.bind_some, tupleOf, Int.toNat_natCast, true_and, and_true, Nat.reduceEqDiff, RdOk_nil, RdOk_refl, rd_load1, rd_loadn, rd_b2s, rd_sll, rd_sla, rd_call, rd_calld, rd_new, rd_box, rd_lit, rd_store, rd_s2b, rd_mk, rd_app, rd_apps, rd_appz, rd_mks, rd_copy, blk_ptr, blk_sl, blk_nil, List.cons_append, addI, subI, mulI, quoI, remI, shrI, eqlI, neqI, eqS, neS, beqB, bneB, lenS, lenV, pickB, ext0, ext1, ext2, ext30, ext31, binA_lss, binA_leq, binA_gtr, binA_geq, convI, decide_eq_true, decide_eq_false, gd_undef, W_scope, mnI, mxI, inBlockA_ne, dec_refl, dec_nrefl, beq_self_eq_true, ite_true, ite_false, i0]
    refine W_loop (fun a' B => ∃ (k : Nat) (z : List UInt8), Le A B ∧ k ≤ m ∧ z.length ≤ 5 ∧ a' 0 = ii k ∧ OwnB A.length B (a' 4) z ∧ z ++ putN k = putN m) (fun a' _ => (iv (a' 0)).toNat) ?_ ?_
    · refine ⟨m, [], .refl _, Nat.le_refl _, by simp, ?_⟩
      simp (maxSteps := 1000000) (disch := omega) only [W_seq, W_ops, W_draw, W_block, W_skip, W_exit, W_ret, sq_normal, sq_ret, sq_exit, W_condv, condW_true, condW_false, thenA_normal, thenA_ret, thenA_exit, if_true, if_false, Bool.false_eq_true, decide_eq_true_eq, inBlockA_normal, inBlockA_ret, inBlockA_same, inBlockA_other, noGotoA_normal, noGotoA_ret, noGotoA_exit, Wops_nil, Wops_cons, Wops_le, Wops_guard, Wops_guardle, ok1_some, okV_some, kont_at, kontL_at, gdB_true, gdB_false, decide_true, decide_false, ev_tmp, ev_const, ev_func, ev_global, put_some, put_none, upd_same, upd_at, gd_bt, gd_bf, Bool.not_true, Bool.not_false, pick_true, pick_false, pick_b, not_b, W1_mov, W1_pick, W1_new, W1_box, W1_build, W1_lit, W1_load1, W1_loadn, W1_store, W1_nilc, W1_bin, W1_un, W1_conv, W1_b2s, W1_s2b, W1_field1, W1_fieldn, W1_faddr, W1_iaddr, W1_iarr, W1_idxs, W1_idxa1, W1_idxan, W1_sls, W1_sll, W1_sla, W1_mk, W1_ext, W1_fn, W1_ifc, W1_lens, W1_lenc, W1_app, W1_apps, W1_copy, W1_mn, W1_mx, W1_isnil, W1_strc, W1_beq, W1_mks, W1_capn, W1_appz, W1_eqagg, W1_call, W1_calld, callD_func, List.nil_append, List.append_nil, List.map_cons, List.map_nil, Option.map_some, Option.map_none, reduceIte, Option.some.injEq, exists_eq_left', Nat.reduceBEq, iv_ii, postA_ret, postA_normal, resVs_nil, resVs_tmp, resVs_one, resVs_many, Option.bind_some, tupleOf, Int.toNat_natCast, true_and, and_true, Nat.reduceEqDiff, RdOk_nil, RdOk_refl, rd_load1, rd_loadn, rd_b2s, rd_sll, rd_sla, rd_call, rd_calld, rd_new, rd_box, rd_lit, rd_store, rd_s2b, rd_mk, rd_app, rd_apps, rd_appz, rd_mks, rd_copy, blk_ptr, blk_sl, blk_nil, List.cons_append, addI, subI, mulI, quoI, remI, shrI, eqlI, neqI, eqS, neS, beqB, bneB, lenS, lenV, pickB, ext0, ext1, ext2, ext30, ext31, binA_lss, binA_leq, binA_gtr, binA_geq, convI, decide_eq_true, decide_eq_false, gd_undef, W_scope, mnI, mxI, inBlockA_ne, dec_refl, dec_nrefl, beq_self_eq_true, ite_true, ite_false, i0]
      exact OwnB.nil _ _
    · rintro a2 B ⟨k, z, hle, hk, hz5, g0, g4, hz⟩
      by_cases hge : 128 ≤ k
      · have l1 := litB B [UInt8.ofNat k ||| 128] (len := 1) (ps := [(0, 1, by8 (UInt8.ofNat k ||| 128))]) rfl rfl
        have k1 : Le B (B ++ [.row (List.map by8 [UInt8.ofNat k ||| 128]) .own 1 true]) := .push _ _
        obtain ⟨v2, A2, p1, p2, p3, _⟩ := app_bytes (hle.trans k1) (OwnS.le g4 k1) (byt_last B [UInt8.ofNat k ||| 128]) (by simp; omega)
        rw [List.length_singleton] at p1
        simp only [List.map_cons, List.map_nil, List.length_singleton] at l1 p1
        simp (maxSteps := 1000000) (disch := omega) only [W_seq, W_ops, W_draw, W_block, W_skip, W_exit, W_ret, sq_normal, sq_ret, sq_exit, W_condv, condW_true, condW_false, thenA_normal, thenA_ret, thenA_exit, if_true, if_false, Bool.false_eq_true, decide_eq_true_eq, inBlockA_normal, inBlockA_ret, inBlockA_same, inBlockA_other, noGotoA_normal, noGotoA_ret, noGotoA_exit, Wops_nil, Wops_cons, Wops_le, Wops_guard, Wops_guardle, ok1_some, okV_some, kont_at, kontL_at, gdB_true, gdB_false, decide_true, decide_false, ev_tmp, ev_const, ev_func, ev_global, put_some, put_none, upd_same, upd_at, gd_bt, gd_bf, Bool.not_true, Bool.not_false, pick_true, pick_false, pick_b, not_b, W1_mov, W1_pick, W1_new, W1_box, W1_build, W1_lit, W1_load1, W1_loadn, W1_store, W1_nilc, W1_bin, W1_un, W1_conv, W1_b2s, W1_s2b, W1_field1, W1_fieldn, W1_faddr, W1_iaddr, W1_iarr, W1_idxs, W1_idxa1, W1_idxan, W1_sls, W1_sll, W1_sla, W1_mk, W1_ext, W1_fn, W1_ifc, W1_lens, W1_lenc, W1_app, W1_apps, W1_copy, W1_mn, W1_mx, W1_isnil, W1_strc, W1_beq, W1_mks, W1_capn, W1_appz, W1_eqagg, W1_call, W1_calld, callD_func, List.nil_append, List.append_nil, List.map_cons, List.map_nil, Option.map_some, Option.map_none, reduceIte, Option.some.injEq, exists_eq_left', Nat.reduceBEq, iv_ii, postA_ret, postA_normal, resVs_nil, resVs_tmp, resVs_one, resVs_many, Option.bind_some, tupleOf, Int.toNat_natCast, true_and, and_true, Nat.reduceEqDiff, RdOk_nil, RdOk_refl, rd_load1, rd_loadn, rd_b2s, rd_sll, rd_sla, rd_call, rd_calld, rd_new, rd_box, rd_lit, rd_store, rd_s2b, rd_mk, rd_app, rd_apps, rd_appz, rd_mks, rd_copy, blk_ptr, blk_sl, blk_nil, List.cons_append, addI, subI, mulI, quoI, remI, shrI, eqlI, neqI, eqS, neS, beqB, bneB, lenS, lenV, pickB, ext0, ext1, ext2, ext30, ext31, binA_lss, binA_leq, binA_gtr, binA_geq, convI, decide_eq_true, decide_eq_false, gd_undef, W_scope, mnI, mxI, inBlockA_ne, dec_refl, dec_nrefl, beq_self_eq_true, ite_true, ite_false, g0, conv_u8_ii, b8_128, binA_or8, l1, p1]
        have hlen := congrArg List.length hz
        rw [List.length_append] at hlen
        have h5 := putN_len5 (n := m) (by omega)
        have h1 := putN_pos k
        refine ⟨⟨k / 128, z ++ [UInt8.ofNat k ||| 128], p2, by omega, by simp; omega, by simp, p3, ?_⟩, by first | omega | (simp; omega)⟩
        rw [← hz, putN_big hge, or128]
        simp
      · have l1 := litB B [UInt8.ofNat k] (len := 1) (ps := [(0, 1, by8 (UInt8.ofNat k))]) rfl rfl
        have k1 : Le B (B ++ [.row (List.map by8 [UInt8.ofNat k]) .own 1 true]) := .push _ _
        obtain ⟨v2, A2, p1, p2, p3, _⟩ := app_bytes (hle.trans k1) (OwnS.le g4 k1) (byt_last B [UInt8.ofNat k]) (by simp; omega)
        rw [List.length_singleton] at p1
        simp only [List.map_cons, List.map_nil, List.length_singleton] at l1 p1
        simp (maxSteps := 1000000) (disch := omega) only [W_seq, W_ops, W_draw, W_block, W_skip, W_exit, W_ret, sq_normal, sq_ret, sq_exit, W_condv, condW_true, condW_false, thenA_normal, thenA_ret, thenA_exit, if_true, if_false, Bool.false_eq_true, decide_eq_true_eq, inBlockA_normal, inBlockA_ret, inBlockA_same, inBlockA_other, noGotoA_normal, noGotoA_ret, noGotoA_exit, Wops_nil, Wops_cons, Wops_le, Wops_guard, Wops_guardle, ok1_some, okV_some, kont_at, kontL_at, gdB_true, gdB_false, decide_true, decide_false, ev_tmp, ev_const, ev_func, ev_global, put_some, put_none, upd_same, upd_at, gd_bt, gd_bf, Bool.not_true, Bool.not_false, pick_true, pick_false, pick_b, not_b, W1_mov, W1_pick, W1_new, W1_box, W1_build, W1_lit, W1_load1, W1_loadn, W1_store, W1_nilc, W1_bin, W1_un, W1_conv, W1_b2s, W1_s2b, W1_field1, W1_fieldn, W1_faddr, W1_iaddr, W1_iarr, W1_idxs, W1_idxa1, W1_idxan, W1_sls, W1_sll, W1_sla, W1_mk, W1_ext, W1_fn, W1_ifc, W1_lens, W1_lenc, W1_app, W1_apps, W1_copy, W1_mn, W1_mx, W1_isnil, W1_strc, W1_beq, W1_mks, W1_capn, W1_appz, W1_eqagg, W1_call, W1_calld, callD_func, List.nil_append, List.append_nil, List.map_cons, List.map_nil, Option.map_some, Option.map_none, reduceIte, Option.some.injEq, exists_eq_left', Nat.reduceBEq, iv_ii, postA_ret, postA_normal, resVs_nil, resVs_tmp, resVs_one, resVs_many, Option.bind_some, tupleOf, Int.toNat_natCast, true_and, and_true, Nat.reduceEqDiff, RdOk_nil, RdOk_refl, rd_load1, rd_loadn, rd_b2s, rd_sll, rd_sla, rd_call, rd_calld, rd_new, rd_box, rd_lit, rd_store, rd_s2b, rd_mk, rd_app, rd_apps, rd_appz, rd_mks, rd_copy, blk_ptr, blk_sl, blk_nil, List.cons_append, addI, subI, mulI, quoI, remI, shrI, eqlI, neqI, eqS, neS, beqB, bneB, lenS, lenV, pickB, ext0, ext1, ext2, ext30, ext31, binA_lss, binA_leq, binA_gtr, binA_geq, convI, decide_eq_true, decide_eq_false, gd_undef, W_scope, mnI, mxI, inBlockA_ne, dec_refl, dec_nrefl, beq_self_eq_true, ite_true, ite_false, g0, conv_u8_ii, l1, p1]
        refine hok _ _ (by omega) (by omega) p2 ?_
        rw [putN_small (by omega)] at hz
        rw [hz] at p3
        exact p3
  · simp (maxSteps := 1000000) (disch := omega) only [W_seq, W_ops, W_draw, W_block, W_skip, W_exit, W_ret, sq_normal, sq_ret, sq_exit, W_condv, condW_true, condW_false, thenA_normal, thenA_ret, thenA_exit, if_true, if_false, Bool.false_eq_true, decide_eq_true_eq, inBlockA_normal, inBlockA_ret, inBlockA_same, inBlockA_other, noGotoA_normal, noGotoA_ret, noGotoA_exit, Wops_nil, Wops_cons, Wops_le, Wops_guard, Wops_guardle, ok1_some, okV_some, kont_at, kontL_at, gdB_true, gdB_false, decide_true, decide_false, ev_tmp, ev_const, ev_func, ev_global, put_some, put_none, upd_same, upd_at, gd_bt, gd_bf, Bool.not_true, Bool.not_false, pick_true, pick_false, pick_b, not_b, W1_mov, W1_pick, W1_new, W1_box, W1_build, W1_lit, W1_load1, W1_loadn, W1_store, W1_nilc, W1_bin, W1_un, W1_conv, W1_b2s, W1_s2b, W1_field1, W1_fieldn, W1_faddr, W1_iaddr, W1_iarr, W1_idxs, W1_idxa1, W1_idxan, W1_sls, W1_sll, W1_sla, W1_mk, W1_ext, W1_fn, W1_ifc, W1_lens, W1_lenc, W1_app, W1_apps, W1_copy, W1_mn, W1_mx, W1_isnil, W1_strc, W1_beq, W1_mks, W1_capn, W1_appz, W1_eqagg, W1_call, W1_calld, callD_func, List.nil_append, List.append_nil, List.map_cons, List.map_nil, Option.map_some, Option.map_none, reduceIte, Option.some.injEq, exists_eq_left', Nat.reduceBEq, iv_ii, postA_ret, postA_normal, resVs_nil, resVs_tmp, resVs_one, resVs_many, Option.bind_some, tupleOf, Int.toNat_natCast, true_and, and_true, Nat.reduceEqDiff, RdOk_nil, RdOk_refl, rd_load1, rd_loadn, rd_b2s, rd_sll, rd_sla, rd_call, rd_calld, rd_new, rd_box, rd_lit, rd_store, rd_s2b, rd_mk, rd_app, rd_apps, rd_appz, rd_mks, rd_copy, blk_ptr, blk_sl, blk_nil, List.cons_append, addI, subI, mulI, quoI, remI, shrI, eqlI, neqI, eqS, neS, beqB, bneB, lenS, lenV, pickB, ext0, ext1, ext2, ext30, ext31, binA_lss, binA_leq, binA_gtr, binA_geq, convI, decide_eq_true, decide_eq_false, gd_undef, W_scope, mnI, mxI, inBlockA_ne, dec_refl, dec_nrefl, beq_self_eq_true, ite_true, ite_false, i0]
    exact hbad h

theorem ref01_Put_spec {A : AH} {n : Int} {Q : Value → AH → Prop} (hok : ∀ t A', 0 ≤ n → n ≤ 2147483647 → Le A A' → OwnB A.length A' t (putN n.toNat) → Q (.tuple #[t, ii 0]) A')
    (hbad : ¬ (0 ≤ n ∧ n ≤ 2147483647) → Q (.tuple #[.slice none 0 0, ii 1]) A) : ACalls 0 Try.prog chantryref01_Put [ii n] Q A := by
  refine ACalls.of_fits mixed fits_chantryref01_Put rfl ?_
  unfold ic_chantryref01_Put
  have i0 : initA [ii n] 0 = ii n := rfl
  generalize initA [ii n] = a at i0
  by_cases h : 0 ≤ n ∧ n ≤ 2147483647
  · obtain ⟨m, rfl⟩ : ∃ m : Nat, n = m := ⟨n.toNat, by omega⟩
    simp (maxSteps := 1000000) (disch := omega) only [W_seq, W_ops, W_draw, W_block, W_skip, W_exit, W_ret, sq_normal, sq_ret, sq_exit, W_condv, condW_true, condW_false, thenA_normal, thenA_ret, thenA_exit, if_true, if_false, Bool.false_eq_true, decide_eq_true_eq, inBlockA_normal, inBlockA_ret, inBlockA_same, inBlockA_other, noGotoA_normal, noGotoA_ret, noGotoA_exit, Wops_nil, Wops_cons, Wops_le, Wops_guard, Wops_guardle, ok1_some, okV_some, kont_at, kontL_at, gdB_true, gdB_false, decide_true, decide_false, ev_tmp, ev_const, ev_func, ev_global, put_some, put_none, upd_same, upd_at, gd_bt, gd_bf, Bool.not_true, Bool.not_false, pick_true, pick_false, pick_b, not_b, W1_mov, W1_pick, W1_new, W1_box, W1_build, W1_lit, W1_load1, W1_loadn, W1_store, W1_nilc, W1_bin, W1_un, W1_conv, W1_b2s, W1_s2b, W1_field1, W1_fieldn, W1_faddr, W1_iaddr, W1_iarr, W1_idxs, W1_idxa1, W1_idxan, W1_sls, W1_sll, W1_sla, W1_mk, W1_ext, W1_fn, W1_ifc, W1_lens, W1_lenc, W1_app, W1_apps, W1_copy, W1_mn, W1_mx, W1_isnil, W1_strc, W1_beq, W1_mks, W1_capn, W1_appz, W1_eqagg, W1_call, W1_calld, callD_func, List.nil_append, List.append_nil, List.map_cons, List.map_nil, Option.map_some, Option.map_none, reduceIte, Option.some.injEq, exists_eq_left', Nat.reduceBEq, iv_ii, postA_ret, postA_normal, resVs_nil, resVs_tmp, resVs_one, resVs_many, Option.bind_some, tupleOf, Int.toNat_natCast, true_and, and_true, Nat.reduceEqDiff, RdOk_nil, RdOk_refl, rd_load1, rd_loadn, rd_b2s, rd_sll, rd_sla, rd_call, rd_calld, rd_new, rd_box, rd_lit, rd_store, rd_s2b, rd_mk, rd_app, rd_apps, rd_appz, rd_mks, rd_copy, blk_ptr, blk_sl, blk_nil, List.cons_append, addI, subI, mulI, quoI, remI, shrI, eqlI, neqI, eqS, neS, beqB, bneB, lenS, lenV, pickB, ext0, ext1, ext2, ext30, ext31, binA_lss, binA_leq, binA_gtr, binA_geq, convI, decide_eq_true, decide_eq_false, gd_undef, W_scope, mnI, mxI, inBlockA_ne, dec_refl, dec_nrefl, beq_self_eq_true, ite_true, ite_false, i0]
    refine W_loop (fun a' B => ∃ (k : Nat) (z : List UInt8), Le A B ∧ k ≤ m ∧ z.length ≤ 5 ∧ a' 0 = ii k ∧ OwnB A.length B (a' 4) z ∧ z ++ putN k = putN m) (fun a' _ => (iv (a' 0)).toNat) ?_ ?_
    · refine ⟨m, [], .refl _, Nat.le_refl _, by simp, ?_⟩
      simp (maxSteps := 1000000) (disch := omega) only [W_seq, W_ops, W_draw, W_block, W_skip, W_exit, W_ret, sq_normal, sq_ret, sq_exit, W_condv, condW_true, condW_false, thenA_normal, thenA_ret, thenA_exit, if_true, if_false, Bool.false_eq_true, decide_eq_true_eq, inBlockA_normal, inBlockA_ret, inBlockA_same, inBlockA_other, noGotoA_normal, noGotoA_ret, noGotoA_exit, Wops_nil, Wops_cons, Wops_le, Wops_guard, Wops_guardle, ok1_some, okV_some, kont_at, kontL_at, gdB_true, gdB_false, decide_true, decide_false, ev_tmp, ev_const, ev_func, ev_global, put_some, put_none, upd_same, upd_at, gd_bt, gd_bf, Bool.not_true, Bool.not_false, pick_true, pick_false, pick_b, not_b, W1_mov, W1_pick, W1_new, W1_box, W1_build, W1_lit, W1_load1, W1_loadn, W1_store, W1_nilc, W1_bin, W1_un, W1_conv, W1_b2s, W1_s2b, W1_field1, W1_fieldn, W1_faddr, W1_iaddr, W1_iarr, W1_idxs, W1_idxa1, W1_idxan, W1_sls, W1_sll, W1_sla, W1_mk, W1_ext, W1_fn, W1_ifc, W1_lens, W1_lenc, W1_app, W1_apps, W1_copy, W1_mn, W1_mx, W1_isnil, W1_strc, W1_beq, W1_mks, W1_capn, W1_appz, W1_eqagg, W1_call, W1_calld, callD_func, List.nil_append, List.append_nil, List.map_cons, List.map_nil, Option.map_some, Option.map_none, reduceIte, Option.some.injEq, exists_eq_left', Nat.reduceBEq, iv_ii, postA_ret, postA_normal, resVs_nil, resVs_tmp, resVs_one, resVs_many, Option.bind_some, tupleOf, Int.toNat_natCast, true_and, and_true, Nat.reduceEqDiff, RdOk_nil, RdOk_refl, rd_load1, rd_loadn, rd_b2s, rd_sll, rd_sla, rd_call, rd_calld, rd_new, rd_box, rd_lit, rd_store, rd_s2b, rd_mk, rd_app, rd_apps, rd_appz, rd_mks, rd_copy, blk_ptr, blk_sl, blk_nil, List.cons_append, addI, subI, mulI, quoI, remI, shrI, eqlI, neqI, eqS, neS, beqB, bneB, lenS, lenV, pickB, ext0, ext1, ext2, ext30, ext31, binA_lss, binA_leq, binA_gtr, binA_geq, convI, decide_eq_true, decide_eq_false, gd_undef, W_scope, mnI, mxI, inBlockA_ne, dec_refl, dec_nrefl, beq_self_eq_true, ite_true, ite_false, i0]
      exact OwnB.nil _ _
    · rintro a2 B ⟨k, z, hle, hk, hz5, g0, g4, hz⟩
      by_cases hge : 128 ≤ k
      · have e8 : ∀ A, sConv A .u8 (.int .i64 ((k : Int) % 128 + 128)) = some (by8 (UInt8.ofNat (k % 128 + 128)), A) := fun A => conv_u8_ii A (k % 128 + 128)
        have l1 := litB B [UInt8.ofNat (k % 128 + 128)] (len := 1) (ps := [(0, 1, by8 (UInt8.ofNat (k % 128 + 128)))]) rfl rfl
        have k1 : Le B (B ++ [.row (List.map by8 [UInt8.ofNat (k % 128 + 128)]) .own 1 true]) := .push _ _
        obtain ⟨v2, A2, p1, p2, p3, _⟩ := app_bytes (hle.trans k1) (OwnS.le g4 k1) (byt_last B [UInt8.ofNat (k % 128 + 128)]) (by simp; omega)
        rw [List.length_singleton] at p1
        simp only [List.map_cons, List.map_nil, List.length_singleton] at l1 p1
        simp (maxSteps := 1000000) (disch := omega) only [W_seq, W_ops, W_draw, W_block, W_skip, W_exit, W_ret, sq_normal, sq_ret, sq_exit, W_condv, condW_true, condW_false, thenA_normal, thenA_ret, thenA_exit, if_true, if_false, Bool.false_eq_true, decide_eq_true_eq, inBlockA_normal, inBlockA_ret, inBlockA_same, inBlockA_other, noGotoA_normal, noGotoA_ret, noGotoA_exit, Wops_nil, Wops_cons, Wops_le, Wops_guard, Wops_guardle, ok1_some, okV_some, kont_at, kontL_at, gdB_true, gdB_false, decide_true, decide_false, ev_tmp, ev_const, ev_func, ev_global, put_some, put_none, upd_same, upd_at, gd_bt, gd_bf, Bool.not_true, Bool.not_false, pick_true, pick_false, pick_b, not_b, W1_mov, W1_pick, W1_new, W1_box, W1_build, W1_lit, W1_load1, W1_loadn, W1_store, W1_nilc, W1_bin, W1_un, W1_conv, W1_b2s, W1_s2b, W1_field1, W1_fieldn, W1_faddr, W1_iaddr, W1_iarr, W1_idxs, W1_idxa1, W1_idxan, W1_sls, W1_sll, W1_sla, W1_mk, W1_ext, W1_fn, W1_ifc, W1_lens, W1_lenc, W1_app, W1_apps, W1_copy, W1_mn, W1_mx, W1_isnil, W1_strc, W1_beq, W1_mks, W1_capn, W1_appz, W1_eqagg, W1_call, W1_calld, callD_func, List.nil_append, List.append_nil, List.map_cons, List.map_nil, Option.map_some, Option.map_none, reduceIte, Option.some.injEq, exists_eq_left', Nat.reduceBEq, iv_ii, postA_ret, postA_normal, resVs_nil, resVs_tmp, resVs_one, resVs_many, Option.bind_some, tupleOf, Int.toNat_natCast, true_and, and_true, Nat.reduceEqDiff, RdOk_nil, RdOk_refl, rd_load1, rd_loadn, rd_b2s, rd_sll, rd_sla, rd_call, rd_calld, rd_new, rd_box, rd_lit, rd_store, rd_s2b, rd_mk, rd_app, rd_apps, rd_appz, rd_mks, rd_copy, blk_ptr, blk_sl, blk_nil, List.cons_append, addI, subI, mulI, quoI, remI, shrI, eqlI, neqI, eqS, neS, beqB, bneB, lenS, lenV, pickB, ext0, ext1, ext2, ext30, ext31, binA_lss, binA_leq, binA_gtr, binA_geq, convI, decide_eq_true, decide_eq_false, gd_undef, W_scope, mnI, mxI, inBlockA_ne, dec_refl, dec_nrefl, beq_self_eq_true, ite_true, ite_false, g0, e8, l1, p1]
        have hlen := congrArg List.length hz
        rw [List.length_append] at hlen
        have h5 := putN_len5 (n := m) (by omega)
        have h1 := putN_pos k
        refine ⟨⟨k / 128, z ++ [UInt8.ofNat (k % 128 + 128)], p2, by omega, by simp; omega, by simp, p3, ?_⟩, by first | omega | (simp; omega)⟩
        rw [← hz, putN_big hge]
        simp
      · have l1 := litB B [UInt8.ofNat k] (len := 1) (ps := [(0, 1, by8 (UInt8.ofNat k))]) rfl rfl
        have k1 : Le B (B ++ [.row (List.map by8 [UInt8.ofNat k]) .own 1 true]) := .push _ _
        obtain ⟨v2, A2, p1, p2, p3, _⟩ := app_bytes (hle.trans k1) (OwnS.le g4 k1) (byt_last B [UInt8.ofNat k]) (by simp; omega)
        rw [List.length_singleton] at p1
        simp only [List.map_cons, List.map_nil, List.length_singleton] at l1 p1
        simp (maxSteps := 1000000) (disch := omega) only [W_seq, W_ops, W_draw, W_block, W_skip, W_exit, W_ret, sq_normal, sq_ret, sq_exit, W_condv, condW_true, condW_false, thenA_normal, thenA_ret, thenA_exit, if_true, if_false, Bool.false_eq_true, decide_eq_true_eq, inBlockA_normal, inBlockA_ret, inBlockA_same, inBlockA_other, noGotoA_normal, noGotoA_ret, noGotoA_exit, Wops_nil, Wops_cons, Wops_le, Wops_guard, Wops_guardle, ok1_some, okV_some, kont_at, kontL_at, gdB_true, gdB_false, decide_true, decide_false, ev_tmp, ev_const, ev_func, ev_global, put_some, put_none, upd_same, upd_at, gd_bt, gd_bf, Bool.not_true, Bool.not_false, pick_true, pick_false, pick_b, not_b, W1_mov, W1_pick, W1_new, W1_box, W1_build, W1_lit, W1_load1, W1_loadn, W1_store, W1_nilc, W1_bin, W1_un, W1_conv, W1_b2s, W1_s2b, W1_field1, W1_fieldn, W1_faddr, W1_iaddr, W1_iarr, W1_idxs, W1_idxa1, W1_idxan, W1_sls, W1_sll, W1_sla, W1_mk, W1_ext, W1_fn, W1_ifc, W1_lens, W1_lenc, W1_app, W1_apps, W1_copy, W1_mn, W1_mx, W1_isnil, W1_strc, W1_beq, W1_mks, W1_capn, W1_appz, W1_eqagg, W1_call, W1_calld, callD_func, List.nil_append, List.append_nil, List.map_cons, List.map_nil, Option.map_some, Option.map_none, reduceIte, Option.some.injEq, exists_eq_left', Nat.reduceBEq, iv_ii, postA_ret, postA_normal, resVs_nil, resVs_tmp, resVs_one, resVs_many, Option.bind_some, tupleOf, Int.toNat_natCast, true_and, and_true, Nat.reduceEqDiff, RdOk_nil, RdOk_refl, rd_load1, rd_loadn, rd_b2s, rd_sll, rd_sla, rd_call, rd_calld, rd_new, rd_box, rd_lit, rd_store, rd_s2b, rd_mk, rd_app, rd_apps, rd_appz, rd_mks, rd_copy, blk_ptr, blk_sl, blk_nil, List.cons_append, addI, subI, mulI, quoI, remI, shrI, eqlI, neqI, eqS, neS, beqB, bneB, lenS, lenV, pickB, ext0, ext1, ext2, ext30, ext31, binA_lss, binA_leq, binA_gtr, binA_geq, convI, decide_eq_true, decide_eq_false, gd_undef, W_scope, mnI, mxI, inBlockA_ne, dec_refl, dec_nrefl, beq_self_eq_true, ite_true, ite_false, g0, conv_u8_ii, l1, p1]
        refine hok _ _ (by omega) (by omega) p2 ?_
        rw [putN_small (by omega)] at hz
        rw [hz] at p3
        exact p3
  · by_cases h0 : n < 0
    · simp (maxSteps := 1000000) (disch := omega) only [W_seq, W_ops, W_draw, W_block, W_skip, W_exit, W_ret, sq_normal, sq_ret, sq_exit, W_condv, condW_true, condW_false, thenA_normal, thenA_ret, thenA_exit, if_true, if_false, Bool.false_eq_true, decide_eq_true_eq, inBlockA_normal, inBlockA_ret, inBlockA_same, inBlockA_other, noGotoA_normal, noGotoA_ret, noGotoA_exit, Wops_nil, Wops_cons, Wops_le, Wops_guard, Wops_guardle, ok1_some, okV_some, kont_at, kontL_at, gdB_true, gdB_false, decide_true, decide_false, ev_tmp, ev_const, ev_func, ev_global, put_some, put_none, upd_same, upd_at, gd_bt, gd_bf, Bool.not_true, Bool.not_false, pick_true, pick_false, pick_b, not_b, W1_mov, W1_pick, W1_new, W1_box, W1_build, W1_lit, W1_load1, W1_loadn, W1_store, W1_nilc, W1_bin, W1_un, W1_conv, W1_b2s, W1_s2b, W1_field1, W1_fieldn, W1_faddr, W1_iaddr, W1_iarr, W1_idxs, W1_idxa1, W1_idxan, W1_sls, W1_sll, W1_sla, W1_mk, W1_ext, W1_fn, W1_ifc, W1_lens, W1_lenc, W1_app, W1_apps, W1_copy, W1_mn, W1_mx, W1_isnil, W1_strc, W1_beq, W1_mks, W1_capn, W1_appz, W1_eqagg, W1_call, W1_calld, callD_func, List.nil_append, List.append_nil, List.map_cons, List.map_nil, Option.map_some, Option.map_none, reduceIte, Option.some.injEq, exists_eq_left', Nat.reduceBEq, iv_ii, postA_ret, postA_normal, resVs_nil, resVs_tmp, resVs_one, resVs_many, Option.bind_some, tupleOf, Int.toNat_natCast, true_and, and_true, Nat.reduceEqDiff, RdOk_nil, RdOk_refl, rd_load1, rd_loadn, rd_b2s, rd_sll, rd_sla, rd_call, rd_calld, rd_new, rd_box, rd_lit, rd_store, rd_s2b, rd_mk, rd_app, rd_apps, rd_appz, rd_mks, rd_copy, blk_ptr, blk_sl, blk_nil, List.cons_append, addI, subI, mulI, quoI, remI, shrI, eqlI, neqI, eqS, neS, beqB, bneB, lenS, lenV, pickB, ext0, ext1, ext2, ext30, ext31, binA_lss, binA_leq, binA_gtr, binA_geq, convI, decide_eq_true, decide_eq_false, gd_undef, W_scope, mnI, mxI, inBlockA_ne, dec_refl, dec_nrefl, beq_self_eq_true, ite_true, ite_false, i0]
      exact hbad h
    · simp (maxSteps := 1000000) (disch := omega) only [W_seq, W_ops, W_draw, W_block, W_skip, W_exit, W_ret, sq_normal, sq_ret, sq_exit, W_condv, condW_true, condW_false, thenA_normal, thenA_ret, thenA_exit, if_true, if_false, Bool.false_eq_true, decide_eq_true_eq, inBlockA_normal, inBlockA_ret, inBlockA_same, inBlockA_other, noGotoA_normal, noGotoA_ret, noGotoA_exit, Wops_nil, Wops_cons, Wops_le, Wops_guard, Wops_guardle, ok1_some, okV_some, kont_at, kontL_at, gdB_true, gdB_false, decide_true, decide_false, ev_tmp, ev_const, ev_func, ev_global, put_some, put_none, upd_same, upd_at, gd_bt, gd_bf, Bool.not_true, Bool.not_false, pick_true, pick_false, pick_b, not_b, W1_mov, W1_pick, W1_new, W1_box, W1_build, W1_lit, W1_load1, W1_loadn, W1_store, W1_nilc, W1_bin, W1_un, W1_conv, W1_b2s, W1_s2b, W1_field1, W1_fieldn, W1_faddr, W1_iaddr, W1_iarr, W1_idxs, W1_idxa1, W1_idxan, W1_sls, W1_sll, W1_sla, W1_mk, W1_ext, W1_fn, W1_ifc, W1_lens, W1_lenc, W1_app, W1_apps, W1_copy, W1_mn, W1_mx, W1_isnil, W1_strc, W1_beq, W1_mks, W1_capn, W1_appz, W1_eqagg, W1_call, W1_calld, callD_func, List.nil_append, List.append_nil, List.map_cons, List.map_nil, Option.map_some, Option.map_none, reduceIte, Option.some.injEq, exists_eq_left', Nat.reduceBEq, iv_ii, postA_ret, postA_normal, resVs_nil, resVs_tmp, resVs_one, resVs_many, Option.bind_some, tupleOf, Int.toNat_natCast, true_and, and_true, Nat.reduceEqDiff, RdOk_nil, RdOk_refl, rd_load1, rd_loadn, rd_b2s, rd_sll, rd_sla, rd_call, rd_calld, rd_new, rd_box, rd_lit, rd_store, rd_s2b, rd_mk, rd_app, rd_apps, rd_appz, rd_mks, rd_copy, blk_ptr, blk_sl, blk_nil, List.cons_append, addI, subI, mulI, quoI, remI, shrI, eqlI, neqI, eqS, neS, beqB, bneB, lenS, lenV, pickB, ext0, ext1, ext2, ext30, ext31, binA_lss, binA_leq, binA_gtr, binA_geq, convI, decide_eq_true, decide_eq_false, gd_undef, W_scope, mnI, mxI, inBlockA_ne, dec_refl, dec_nrefl, beq_self_eq_true, ite_true, ite_false, i0]
      exact hbad h
end Go.AS.C

namespace Go.AS.C
open Go Go.Proofs
set_option linter.unusedVariables false
set_option linter.unusedSimpArgs false
set_option maxRecDepth 10000

theorem slices_Grow_nil {A : AH} {n : Nat} {Q : Value → AH → Prop} (hn : n ≤ 2 ^ 40) (hq : ∀ v A', Le A A' → OwnB A.length A' v [] → Q v A') : ACalls 0 Try.prog slices_Grow_byte_byte [.slice none 0 0, ii n] Q A := by
  refine ACalls.of_fits mixed fits_slices_Grow_byte_byte rfl ?_
  unfold ic_slices_Grow_byte_byte
  have i0 : initA [.slice none 0 0, ii n] 0 = .slice none 0 0 := rfl
  have i1 : initA [.slice none 0 0, ii n] 1 = ii n := rfl
  generalize initA [.slice none 0 0, ii n] = a at i0 i1
  have c1 : ((n : Int) < 0) = False := by simp
  have c2 : sCapn A (.slice none 0 0) = some (ii 0, A) := rfl
  have c3 : binA .sub (ii 0) (ii ((0 : Nat) : Int)) = some (ii 0) := by rw [binA_subi _ _ (by omega) (by omega)]; rfl
  have c4 : binA .sub (ii n) (ii 0) = some (ii n) := by rw [binA_subi _ _ (by omega) (by omega)]; simp
  by_cases h0 : n = 0
  · subst h0
    have c5 : (((0 : Nat) : Int) > 0) = False := by simp
    simp only [W_seq, W_ops, W_draw, W_block, W_skip, W_exit, W_ret, sq_normal, sq_ret, sq_exit, W_condv, condW_true, condW_false, thenA_normal, thenA_ret, thenA_exit, if_true, if_false, Bool.false_eq_true, decide_eq_true_eq, inBlockA_normal, inBlockA_ret, inBlockA_same, inBlockA_other, noGotoA_normal, noGotoA_ret, noGotoA_exit, Wops_nil, Wops_cons, Wops_le, Wops_guard, Wops_guardle, ok1_some, okV_some, kont_at, kontL_at, gdB_true, gdB_false, decide_true, decide_false, ev_tmp, ev_const, ev_func, ev_global, put_some, put_none, upd_same, upd_at, gd_bt, gd_bf, Bool.not_true, Bool.not_false, pick_true, pick_false, pick_b, not_b, W1_mov, W1_pick, W1_new, W1_box, W1_build, W1_lit, W1_load1, W1_loadn, W1_store, W1_nilc, W1_bin, W1_un, W1_conv, W1_b2s, W1_s2b, W1_field1, W1_fieldn, W1_faddr, W1_iaddr, W1_iarr, W1_idxs, W1_idxa1, W1_idxan, W1_sls, W1_sll, W1_sla, W1_mk, W1_ext, W1_fn, W1_ifc, W1_lens, W1_lenc, W1_app, W1_apps, W1_copy, W1_mn, W1_mx, W1_isnil, W1_strc, W1_beq, W1_mks, W1_capn, W1_appz, W1_eqagg, W1_call, W1_calld, callD_func, List.nil_append, List.append_nil, List.map_cons, List.map_nil, Option.map_some, Option.map_none, reduceIte, Option.some.injEq, exists_eq_left', Nat.reduceBEq, iv_ii, postA_ret, postA_normal, resVs_nil, resVs_tmp, resVs_one, resVs_many, Option.bind_some, tupleOf, Int.toNat_natCast, true_and, and_true, Nat.reduceEqDiff, RdOk_nil, RdOk_refl, rd_load1, rd_loadn, rd_b2s, rd_sll, rd_sla, rd_call, rd_calld, rd_new, rd_box, rd_lit, rd_store, rd_s2b, rd_mk, rd_app, rd_apps, rd_appz, rd_mks, rd_copy, blk_ptr, blk_sl, blk_nil, List.cons_append, i0, i1, binA_lss, c1, c2, lens_sl, c3, c4, binA_gtr, c5]
    exact hq _ _ (.refl _) (OwnB.nil _ _)
  · have c5 : ((n : Int) > 0) = True := by simp; omega
    have c6 : sSll A (.slice none 0 0) none (some (ii 0)) none 1 = some (.slice none 0 0, A) := rfl
    obtain ⟨v', A', e1, e2, e3, _⟩ := app_own (A0 := A) (A := A) (v := .slice none 0 0) (new := (List.replicate n [Value.int .u8 0]).flatten) (k := n) (bytes := 1) (.refl _) (OwnS.nil A.length A 1) (by omega) (by omega) (by omega) (by simp) (by
      unfold ones
      rw [List.all_eq_true]
      intro x hx
      rw [List.mem_flatten] at hx
      obtain ⟨l, hl, hx⟩ := hx
      obtain rfl := List.eq_of_mem_replicate hl
      rw [List.mem_singleton] at hx
      subst hx; rfl)
    have c7 : sAppz A (.slice none 0 0) (ii n) [.int .u8 0] 1 = some (v', A') := by
      rw [appz_eq (by omega), Int.toNat_natCast]
      exact e1
    have c8 : ∃ u, sSll A' v' none (some (ii ((0 : Nat) : Int))) none 1 = some (u, A') ∧ OwnB A.length A' u [] := by
      obtain ⟨f0, f⟩ := e3
      rcases f with ⟨rfl, f⟩ | ⟨rfl, f⟩ | ⟨i, o, c, rc, ex, rfl, f1, f2, f3, f4, f5⟩
      · omega
      · omega
      · refine ⟨.slice (some ⟨i, o, none⟩) 0 c, ?_, ⟨by simp, .inr (.inr ⟨i, o, c, rc, ex, rfl, by simp, f2, f3, by simp; omega, fun j hj => by simp at hj⟩)⟩⟩
        unfold sSll boundsA rowSz
        simp only [f3]
        simp [asI]
    obtain ⟨u, c8, c9⟩ := c8
    simp only [W_seq, W_ops, W_draw, W_block, W_skip, W_exit, W_ret, sq_normal, sq_ret, sq_exit, W_condv, condW_true, condW_false, thenA_normal, thenA_ret, thenA_exit, if_true, if_false, Bool.false_eq_true, decide_eq_true_eq, inBlockA_normal, inBlockA_ret, inBlockA_same, inBlockA_other, noGotoA_normal, noGotoA_ret, noGotoA_exit, Wops_nil, Wops_cons, Wops_le, Wops_guard, Wops_guardle, ok1_some, okV_some, kont_at, kontL_at, gdB_true, gdB_false, decide_true, decide_false, ev_tmp, ev_const, ev_func, ev_global, put_some, put_none, upd_same, upd_at, gd_bt, gd_bf, Bool.not_true, Bool.not_false, pick_true, pick_false, pick_b, not_b, W1_mov, W1_pick, W1_new, W1_box, W1_build, W1_lit, W1_load1, W1_loadn, W1_store, W1_nilc, W1_bin, W1_un, W1_conv, W1_b2s, W1_s2b, W1_field1, W1_fieldn, W1_faddr, W1_iaddr, W1_iarr, W1_idxs, W1_idxa1, W1_idxan, W1_sls, W1_sll, W1_sla, W1_mk, W1_ext, W1_fn, W1_ifc, W1_lens, W1_lenc, W1_app, W1_apps, W1_copy, W1_mn, W1_mx, W1_isnil, W1_strc, W1_beq, W1_mks, W1_capn, W1_appz, W1_eqagg, W1_call, W1_calld, callD_func, List.nil_append, List.append_nil, List.map_cons, List.map_nil, Option.map_some, Option.map_none, reduceIte, Option.some.injEq, exists_eq_left', Nat.reduceBEq, iv_ii, postA_ret, postA_normal, resVs_nil, resVs_tmp, resVs_one, resVs_many, Option.bind_some, tupleOf, Int.toNat_natCast, true_and, and_true, Nat.reduceEqDiff, RdOk_nil, RdOk_refl, rd_load1, rd_loadn, rd_b2s, rd_sll, rd_sla, rd_call, rd_calld, rd_new, rd_box, rd_lit, rd_store, rd_s2b, rd_mk, rd_app, rd_apps, rd_appz, rd_mks, rd_copy, blk_ptr, blk_sl, blk_nil, List.cons_append, i0, i1, binA_lss, c1, c2, lens_sl, c3, c4, binA_gtr, c5, c6, c7, c8]
    exact hq _ _ e2 c9

theorem slices_Concat_spec {A : AH} {v : Value} {vs : List Value} {bss : List (List UInt8)} {Q : Value → AH → Prop} (hv : Sl A 1 v vs.length vs) (hn : vs.length = bss.length)
    (hb : ∀ (j : Nat) x bs, vs[j]? = some x → bss[j]? = some bs → Byt A x bs) (hl : bss.flatten.length ≤ 2 ^ 40) (hc : bss.length ≤ 2 ^ 40) (hq : ∀ v A', Le A A' → OwnB A.length A' v bss.flatten → Q v A') :
    ACalls 0 Try.prog slices_Concat_byte_byte [v] Q A := by
  refine ACalls.of_fits mixed fits_slices_Concat_byte_byte rfl ?_
  unfold ic_slices_Concat_byte_byte
  have i0 : initA [v] 0 = v := rfl
  generalize initA [v] = a at i0
  simp only [W_seq, W_ops, W_draw, W_block, W_skip, W_exit, W_ret, sq_normal, sq_ret, sq_exit, W_condv, condW_true, condW_false, thenA_normal, thenA_ret, thenA_exit, if_true, if_false, Bool.false_eq_true, decide_eq_true_eq, inBlockA_normal, inBlockA_ret, inBlockA_same, inBlockA_other, noGotoA_normal, noGotoA_ret, noGotoA_exit, Wops_nil, Wops_cons, Wops_le, Wops_guard, Wops_guardle, ok1_some, okV_some, kont_at, kontL_at, gdB_true, gdB_false, decide_true, decide_false, ev_tmp, ev_const, ev_func, ev_global, put_some, put_none, upd_same, upd_at, gd_bt, gd_bf, Bool.not_true, Bool.not_false, pick_true, pick_false, pick_b, not_b, W1_mov, W1_pick, W1_new, W1_box, W1_build, W1_lit, W1_load1, W1_loadn, W1_store, W1_nilc, W1_bin, W1_un, W1_conv, W1_b2s, W1_s2b, W1_field1, W1_fieldn, W1_faddr, W1_iaddr, W1_iarr, W1_idxs, W1_idxa1, W1_idxan, W1_sls, W1_sll, W1_sla, W1_mk, W1_ext, W1_fn, W1_ifc, W1_lens, W1_lenc, W1_app, W1_apps, W1_copy, W1_mn, W1_mx, W1_isnil, W1_strc, W1_beq, W1_mks, W1_capn, W1_appz, W1_eqagg, W1_call, W1_calld, callD_func, List.nil_append, List.append_nil, List.map_cons, List.map_nil, Option.map_some, Option.map_none, reduceIte, Option.some.injEq, exists_eq_left', Nat.reduceBEq, iv_ii, postA_ret, postA_normal, resVs_nil, resVs_tmp, resVs_one, resVs_many, Option.bind_some, tupleOf, Int.toNat_natCast, true_and, and_true, Nat.reduceEqDiff, RdOk_nil, RdOk_refl, rd_load1, rd_loadn, rd_b2s, rd_sll, rd_sla, rd_call, rd_calld, rd_new, rd_box, rd_lit, rd_store, rd_s2b, rd_mk, rd_app, rd_apps, rd_appz, rd_mks, rd_copy, blk_ptr, blk_sl, blk_nil, List.cons_append, i0, hv.len]
  refine W_loop (fun a' A' => A' = A ∧ ∃ k : Nat, k ≤ bss.length ∧ a' 0 = v ∧ a' 9 = v ∧ a' 10 = ii vs.length ∧ a' 11 = ii k ∧ a' 3 = ii (((bss.take k).flatten.length : Nat) : Int)) (fun a' _ => (bss.length - (iv (a' 11)).toNat)) ?_ ?_
  · refine ⟨rfl, 0, by omega, ?_⟩
    simp only [W_seq, W_ops, W_draw, W_block, W_skip, W_exit, W_ret, sq_normal, sq_ret, sq_exit, W_condv, condW_true, condW_false, thenA_normal, thenA_ret, thenA_exit, if_true, if_false, Bool.false_eq_true, decide_eq_true_eq, inBlockA_normal, inBlockA_ret, inBlockA_same, inBlockA_other, noGotoA_normal, noGotoA_ret, noGotoA_exit, Wops_nil, Wops_cons, Wops_le, Wops_guard, Wops_guardle, ok1_some, okV_some, kont_at, kontL_at, gdB_true, gdB_false, decide_true, decide_false, ev_tmp, ev_const, ev_func, ev_global, put_some, put_none, upd_same, upd_at, gd_bt, gd_bf, Bool.not_true, Bool.not_false, pick_true, pick_false, pick_b, not_b, W1_mov, W1_pick, W1_new, W1_box, W1_build, W1_lit, W1_load1, W1_loadn, W1_store, W1_nilc, W1_bin, W1_un, W1_conv, W1_b2s, W1_s2b, W1_field1, W1_fieldn, W1_faddr, W1_iaddr, W1_iarr, W1_idxs, W1_idxa1, W1_idxan, W1_sls, W1_sll, W1_sla, W1_mk, W1_ext, W1_fn, W1_ifc, W1_lens, W1_lenc, W1_app, W1_apps, W1_copy, W1_mn, W1_mx, W1_isnil, W1_strc, W1_beq, W1_mks, W1_capn, W1_appz, W1_eqagg, W1_call, W1_calld, callD_func, List.nil_append, List.append_nil, List.map_cons, List.map_nil, Option.map_some, Option.map_none, reduceIte, Option.some.injEq, exists_eq_left', Nat.reduceBEq, iv_ii, postA_ret, postA_normal, resVs_nil, resVs_tmp, resVs_one, resVs_many, Option.bind_some, tupleOf, Int.toNat_natCast, true_and, and_true, Nat.reduceEqDiff, RdOk_nil, RdOk_refl, rd_load1, rd_loadn, rd_b2s, rd_sll, rd_sla, rd_call, rd_calld, rd_new, rd_box, rd_lit, rd_store, rd_s2b, rd_mk, rd_app, rd_apps, rd_appz, rd_mks, rd_copy, blk_ptr, blk_sl, blk_nil, List.cons_append, i0]
    simp
  · rintro a A' ⟨rfl, k, hk, g0, g9, g10, g11, g3⟩
    rcases Nat.lt_or_ge k bss.length with hlt | hge
    · have hc1 : ((k : Int) < (vs.length : Int)) = True := by simp; omega
      obtain ⟨x, hx⟩ : ∃ b, vs[k]? = some b := ⟨_, List.getElem?_eq_getElem (by omega)⟩
      obtain ⟨bs, hbs⟩ : ∃ b, bss[k]? = some b := ⟨_, List.getElem?_eq_getElem hlt⟩
      obtain ⟨p, hp1, hp2⟩ := hv.at1 hx
      have hle := flat_take_le bss (k + 1)
      have hsu := flat_take_succ bss hbs
      rw [hsu, List.length_append] at hle
      have hadd : binA .add (ii (((bss.take k).flatten.length : Nat) : Int)) (ii (bs.length : Nat)) = some (ii (((bss.take (k + 1)).flatten.length : Nat) : Int)) := by
        rw [binA_addi _ _ (by omega) (by omega), hsu, List.length_append]
        simp
      have hc2 : ((((bss.take (k + 1)).flatten.length : Nat) : Int) < 0) = False := by simp
      simp only [W_seq, W_ops, W_draw, W_block, W_skip, W_exit, W_ret, sq_normal, sq_ret, sq_exit, W_condv, condW_true, condW_false, thenA_normal, thenA_ret, thenA_exit, if_true, if_false, Bool.false_eq_true, decide_eq_true_eq, inBlockA_normal, inBlockA_ret, inBlockA_same, inBlockA_other, noGotoA_normal, noGotoA_ret, noGotoA_exit, Wops_nil, Wops_cons, Wops_le, Wops_guard, Wops_guardle, ok1_some, okV_some, kont_at, kontL_at, gdB_true, gdB_false, decide_true, decide_false, ev_tmp, ev_const, ev_func, ev_global, put_some, put_none, upd_same, upd_at, gd_bt, gd_bf, Bool.not_true, Bool.not_false, pick_true, pick_false, pick_b, not_b, W1_mov, W1_pick, W1_new, W1_box, W1_build, W1_lit, W1_load1, W1_loadn, W1_store, W1_nilc, W1_bin, W1_un, W1_conv, W1_b2s, W1_s2b, W1_field1, W1_fieldn, W1_faddr, W1_iaddr, W1_iarr, W1_idxs, W1_idxa1, W1_idxan, W1_sls, W1_sll, W1_sla, W1_mk, W1_ext, W1_fn, W1_ifc, W1_lens, W1_lenc, W1_app, W1_apps, W1_copy, W1_mn, W1_mx, W1_isnil, W1_strc, W1_beq, W1_mks, W1_capn, W1_appz, W1_eqagg, W1_call, W1_calld, callD_func, List.nil_append, List.append_nil, List.map_cons, List.map_nil, Option.map_some, Option.map_none, reduceIte, Option.some.injEq, exists_eq_left', Nat.reduceBEq, iv_ii, postA_ret, postA_normal, resVs_nil, resVs_tmp, resVs_one, resVs_many, Option.bind_some, tupleOf, Int.toNat_natCast, true_and, and_true, Nat.reduceEqDiff, RdOk_nil, RdOk_refl, rd_load1, rd_loadn, rd_b2s, rd_sll, rd_sla, rd_call, rd_calld, rd_new, rd_box, rd_lit, rd_store, rd_s2b, rd_mk, rd_app, rd_apps, rd_appz, rd_mks, rd_copy, blk_ptr, blk_sl, blk_nil, List.cons_append, g0, g9, g10, g11, g3, binA_lss, hc1, hp1, hp2, (hb k x bs hx hbs).len, hadd, hc2, binA_add1 k (by omega)]
      exact ⟨⟨k + 1, by omega, rfl, rfl⟩, by omega⟩
    · have hc1 : ((k : Int) < (vs.length : Int)) = False := by simp; omega
      have hk : k = bss.length := by omega
      subst hk
      simp only [W_seq, W_ops, W_draw, W_block, W_skip, W_exit, W_ret, sq_normal, sq_ret, sq_exit, W_condv, condW_true, condW_false, thenA_normal, thenA_ret, thenA_exit, if_true, if_false, Bool.false_eq_true, decide_eq_true_eq, inBlockA_normal, inBlockA_ret, inBlockA_same, inBlockA_other, noGotoA_normal, noGotoA_ret, noGotoA_exit, Wops_nil, Wops_cons, Wops_le, Wops_guard, Wops_guardle, ok1_some, okV_some, kont_at, kontL_at, gdB_true, gdB_false, decide_true, decide_false, ev_tmp, ev_const, ev_func, ev_global, put_some, put_none, upd_same, upd_at, gd_bt, gd_bf, Bool.not_true, Bool.not_false, pick_true, pick_false, pick_b, not_b, W1_mov, W1_pick, W1_new, W1_box, W1_build, W1_lit, W1_load1, W1_loadn, W1_store, W1_nilc, W1_bin, W1_un, W1_conv, W1_b2s, W1_s2b, W1_field1, W1_fieldn, W1_faddr, W1_iaddr, W1_iarr, W1_idxs, W1_idxa1, W1_idxan, W1_sls, W1_sll, W1_sla, W1_mk, W1_ext, W1_fn, W1_ifc, W1_lens, W1_lenc, W1_app, W1_apps, W1_copy, W1_mn, W1_mx, W1_isnil, W1_strc, W1_beq, W1_mks, W1_capn, W1_appz, W1_eqagg, W1_call, W1_calld, callD_func, List.nil_append, List.append_nil, List.map_cons, List.map_nil, Option.map_some, Option.map_none, reduceIte, Option.some.injEq, exists_eq_left', Nat.reduceBEq, iv_ii, postA_ret, postA_normal, resVs_nil, resVs_tmp, resVs_one, resVs_many, Option.bind_some, tupleOf, Int.toNat_natCast, true_and, and_true, Nat.reduceEqDiff, RdOk_nil, RdOk_refl, rd_load1, rd_loadn, rd_b2s, rd_sll, rd_sla, rd_call, rd_calld, rd_new, rd_box, rd_lit, rd_store, rd_s2b, rd_mk, rd_app, rd_apps, rd_appz, rd_mks, rd_copy, blk_ptr, blk_sl, blk_nil, List.cons_append, g0, g9, g10, g11, g3, binA_lss, hc1]
      rw [List.take_length]
      refine slices_Grow_nil hl fun u A1 hle1 hown => ?_
      simp only [W_seq, W_ops, W_draw, W_block, W_skip, W_exit, W_ret, sq_normal, sq_ret, sq_exit, W_condv, condW_true, condW_false, thenA_normal, thenA_ret, thenA_exit, if_true, if_false, Bool.false_eq_true, decide_eq_true_eq, inBlockA_normal, inBlockA_ret, inBlockA_same, inBlockA_other, noGotoA_normal, noGotoA_ret, noGotoA_exit, Wops_nil, Wops_cons, Wops_le, Wops_guard, Wops_guardle, ok1_some, okV_some, kont_at, kontL_at, gdB_true, gdB_false, decide_true, decide_false, ev_tmp, ev_const, ev_func, ev_global, put_some, put_none, upd_same, upd_at, gd_bt, gd_bf, Bool.not_true, Bool.not_false, pick_true, pick_false, pick_b, not_b, W1_mov, W1_pick, W1_new, W1_box, W1_build, W1_lit, W1_load1, W1_loadn, W1_store, W1_nilc, W1_bin, W1_un, W1_conv, W1_b2s, W1_s2b, W1_field1, W1_fieldn, W1_faddr, W1_iaddr, W1_iarr, W1_idxs, W1_idxa1, W1_idxan, W1_sls, W1_sll, W1_sla, W1_mk, W1_ext, W1_fn, W1_ifc, W1_lens, W1_lenc, W1_app, W1_apps, W1_copy, W1_mn, W1_mx, W1_isnil, W1_strc, W1_beq, W1_mks, W1_capn, W1_appz, W1_eqagg, W1_call, W1_calld, callD_func, List.nil_append, List.append_nil, List.map_cons, List.map_nil, Option.map_some, Option.map_none, reduceIte, Option.some.injEq, exists_eq_left', Nat.reduceBEq, iv_ii, postA_ret, postA_normal, resVs_nil, resVs_tmp, resVs_one, resVs_many, Option.bind_some, tupleOf, Int.toNat_natCast, true_and, and_true, Nat.reduceEqDiff, RdOk_nil, RdOk_refl, rd_load1, rd_loadn, rd_b2s, rd_sll, rd_sla, rd_call, rd_calld, rd_new, rd_box, rd_lit, rd_store, rd_s2b, rd_mk, rd_app, rd_apps, rd_appz, rd_mks, rd_copy, blk_ptr, blk_sl, blk_nil, List.cons_append, g0, (hv.le hle1).len]
      refine W_loop (fun a' B => ∃ k : Nat, k ≤ bss.length ∧ Le A' B ∧ a' 25 = v ∧ a' 26 = ii vs.length ∧ a' 27 = ii k ∧ OwnB A'.length B (a' 6) (bss.take k).flatten) (fun a' _ => (bss.length - (iv (a' 27)).toNat)) ?_ ?_
      · refine ⟨0, by omega, hle1, ?_⟩
        simp only [W_seq, W_ops, W_draw, W_block, W_skip, W_exit, W_ret, sq_normal, sq_ret, sq_exit, W_condv, condW_true, condW_false, thenA_normal, thenA_ret, thenA_exit, if_true, if_false, Bool.false_eq_true, decide_eq_true_eq, inBlockA_normal, inBlockA_ret, inBlockA_same, inBlockA_other, noGotoA_normal, noGotoA_ret, noGotoA_exit, Wops_nil, Wops_cons, Wops_le, Wops_guard, Wops_guardle, ok1_some, okV_some, kont_at, kontL_at, gdB_true, gdB_false, decide_true, decide_false, ev_tmp, ev_const, ev_func, ev_global, put_some, put_none, upd_same, upd_at, gd_bt, gd_bf, Bool.not_true, Bool.not_false, pick_true, pick_false, pick_b, not_b, W1_mov, W1_pick, W1_new, W1_box, W1_build, W1_lit, W1_load1, W1_loadn, W1_store, W1_nilc, W1_bin, W1_un, W1_conv, W1_b2s, W1_s2b, W1_field1, W1_fieldn, W1_faddr, W1_iaddr, W1_iarr, W1_idxs, W1_idxa1, W1_idxan, W1_sls, W1_sll, W1_sla, W1_mk, W1_ext, W1_fn, W1_ifc, W1_lens, W1_lenc, W1_app, W1_apps, W1_copy, W1_mn, W1_mx, W1_isnil, W1_strc, W1_beq, W1_mks, W1_capn, W1_appz, W1_eqagg, W1_call, W1_calld, callD_func, List.nil_append, List.append_nil, List.map_cons, List.map_nil, Option.map_some, Option.map_none, reduceIte, Option.some.injEq, exists_eq_left', Nat.reduceBEq, iv_ii, postA_ret, postA_normal, resVs_nil, resVs_tmp, resVs_one, resVs_many, Option.bind_some, tupleOf, Int.toNat_natCast, true_and, and_true, Nat.reduceEqDiff, RdOk_nil, RdOk_refl, rd_load1, rd_loadn, rd_b2s, rd_sll, rd_sla, rd_call, rd_calld, rd_new, rd_box, rd_lit, rd_store, rd_s2b, rd_mk, rd_app, rd_apps, rd_appz, rd_mks, rd_copy, blk_ptr, blk_sl, blk_nil, List.cons_append]
        simpa using hown
      · rintro a2 B ⟨k, hk, hle2, f25, f26, f27, f6⟩
        rcases Nat.lt_or_ge k bss.length with hlt | hge
        · have hc1 : ((k : Int) < (vs.length : Int)) = True := by simp; omega
          obtain ⟨x, hx⟩ : ∃ b, vs[k]? = some b := ⟨_, List.getElem?_eq_getElem (by omega)⟩
          obtain ⟨bs, hbs⟩ : ∃ b, bss[k]? = some b := ⟨_, List.getElem?_eq_getElem hlt⟩
          obtain ⟨p, hp1, hp2⟩ := (hv.le hle2).at1 hx
          have hle := flat_take_le bss (k + 1)
          have hsu := flat_take_succ bss hbs
          rw [hsu, List.length_append] at hle
          obtain ⟨v', B', q1, q2, q3, _⟩ := app_bytes hle2 f6 ((hb k x bs hx hbs).le hle2) (by omega)
          rw [← hsu] at q3
          simp only [W_seq, W_ops, W_draw, W_block, W_skip, W_exit, W_ret, sq_normal, sq_ret, sq_exit, W_condv, condW_true, condW_false, thenA_normal, thenA_ret, thenA_exit, if_true, if_false, Bool.false_eq_true, decide_eq_true_eq, inBlockA_normal, inBlockA_ret, inBlockA_same, inBlockA_other, noGotoA_normal, noGotoA_ret, noGotoA_exit, Wops_nil, Wops_cons, Wops_le, Wops_guard, Wops_guardle, ok1_some, okV_some, kont_at, kontL_at, gdB_true, gdB_false, decide_true, decide_false, ev_tmp, ev_const, ev_func, ev_global, put_some, put_none, upd_same, upd_at, gd_bt, gd_bf, Bool.not_true, Bool.not_false, pick_true, pick_false, pick_b, not_b, W1_mov, W1_pick, W1_new, W1_box, W1_build, W1_lit, W1_load1, W1_loadn, W1_store, W1_nilc, W1_bin, W1_un, W1_conv, W1_b2s, W1_s2b, W1_field1, W1_fieldn, W1_faddr, W1_iaddr, W1_iarr, W1_idxs, W1_idxa1, W1_idxan, W1_sls, W1_sll, W1_sla, W1_mk, W1_ext, W1_fn, W1_ifc, W1_lens, W1_lenc, W1_app, W1_apps, W1_copy, W1_mn, W1_mx, W1_isnil, W1_strc, W1_beq, W1_mks, W1_capn, W1_appz, W1_eqagg, W1_call, W1_calld, callD_func, List.nil_append, List.append_nil, List.map_cons, List.map_nil, Option.map_some, Option.map_none, reduceIte, Option.some.injEq, exists_eq_left', Nat.reduceBEq, iv_ii, postA_ret, postA_normal, resVs_nil, resVs_tmp, resVs_one, resVs_many, Option.bind_some, tupleOf, Int.toNat_natCast, true_and, and_true, Nat.reduceEqDiff, RdOk_nil, RdOk_refl, rd_load1, rd_loadn, rd_b2s, rd_sll, rd_sla, rd_call, rd_calld, rd_new, rd_box, rd_lit, rd_store, rd_s2b, rd_mk, rd_app, rd_apps, rd_appz, rd_mks, rd_copy, blk_ptr, blk_sl, blk_nil, List.cons_append, f25, f26, f27, binA_lss, hc1, hp1, hp2, q1, binA_add1 k (by omega)]
          exact ⟨⟨k + 1, by omega, q2, rfl, q3⟩, by omega⟩
        · have hc1 : ((k : Int) < (vs.length : Int)) = False := by simp; omega
          have hk : k = bss.length := by omega
          subst hk
          simp only [W_seq, W_ops, W_draw, W_block, W_skip, W_exit, W_ret, sq_normal, sq_ret, sq_exit, W_condv, condW_true, condW_false, thenA_normal, thenA_ret, thenA_exit, if_true, if_false, Bool.false_eq_true, decide_eq_true_eq, inBlockA_normal, inBlockA_ret, inBlockA_same, inBlockA_other, noGotoA_normal, noGotoA_ret, noGotoA_exit, Wops_nil, Wops_cons, Wops_le, Wops_guard, Wops_guardle, ok1_some, okV_some, kont_at, kontL_at, gdB_true, gdB_false, decide_true, decide_false, ev_tmp, ev_const, ev_func, ev_global, put_some, put_none, upd_same, upd_at, gd_bt, gd_bf, Bool.not_true, Bool.not_false, pick_true, pick_false, pick_b, not_b, W1_mov, W1_pick, W1_new, W1_box, W1_build, W1_lit, W1_load1, W1_loadn, W1_store, W1_nilc, W1_bin, W1_un, W1_conv, W1_b2s, W1_s2b, W1_field1, W1_fieldn, W1_faddr, W1_iaddr, W1_iarr, W1_idxs, W1_idxa1, W1_idxan, W1_sls, W1_sll, W1_sla, W1_mk, W1_ext, W1_fn, W1_ifc, W1_lens, W1_lenc, W1_app, W1_apps, W1_copy, W1_mn, W1_mx, W1_isnil, W1_strc, W1_beq, W1_mks, W1_capn, W1_appz, W1_eqagg, W1_call, W1_calld, callD_func, List.nil_append, List.append_nil, List.map_cons, List.map_nil, Option.map_some, Option.map_none, reduceIte, Option.some.injEq, exists_eq_left', Nat.reduceBEq, iv_ii, postA_ret, postA_normal, resVs_nil, resVs_tmp, resVs_one, resVs_many, Option.bind_some, tupleOf, Int.toNat_natCast, true_and, and_true, Nat.reduceEqDiff, RdOk_nil, RdOk_refl, rd_load1, rd_loadn, rd_b2s, rd_sll, rd_sla, rd_call, rd_calld, rd_new, rd_box, rd_lit, rd_store, rd_s2b, rd_mk, rd_app, rd_apps, rd_appz, rd_mks, rd_copy, blk_ptr, blk_sl, blk_nil, List.cons_append, f25, f26, f27, binA_lss, hc1]
          rw [List.take_length] at f6
          exact hq _ _ hle2 f6

end Go.AS.C

namespace Go.AS.C
open Go Go.Proofs
set_option linter.unusedVariables false
set_option linter.unusedSimpArgs false
set_option maxRecDepth 10000

theorem num_Text_spec {A : AH} {v : Value} {bs : List UInt8} {Q : Value → AH → Prop} (hv : Byt A v bs) (hok : ∀ t A', bs.length ≤ 262144 → Le A A' → OwnB A.length A' t (textN bs) → Q (.tuple #[t, ii 0]) A')
    (hbad : 262144 < bs.length → Q (.tuple #[.slice none 0 0, ii 3]) A) : ACalls 0 Try.prog num_Text [v] Q A := by
  refine ACalls.of_fits mixed fits_num_Text rfl ?_
  unfold ic_num_Text
  have i0 : initA [v] 0 = v := rfl
  generalize initA [v] = a at i0
  by_cases h : bs.length ≤ 262144
  · simp (maxSteps := 1000000) (disch := omega) only [W_seq, W_ops, W_draw, W_block, W_skip, W_exit, W_ret, sq_normal, sq_ret, sq_exit, W_condv, condW_true, condW_false, thenA_normal, thenA_ret, thenA_exit, if_true, if_false, Bool.false_eq_true, decide_eq_true_eq, inBlockA_normal, inBlockA_ret, inBlockA_same, inBlockA_other, noGotoA_normal, noGotoA_ret, noGotoA_exit, Wops_nil, Wops_cons, Wops_le, Wops_guard, Wops_guardle, ok1_some, okV_some, kont_at, kontL_at, gdB_true, gdB_false, decide_true, decide_false, ev_tmp, ev_const, ev_func, ev_global, put_some, put_none, upd_same, upd_at, gd_bt, gd_bf, Bool.not_true, Bool.not_false, pick_true, pick_false, pick_b, not_b, W1_mov, W1_pick, W1_new, W1_box, W1_build, W1_lit, W1_load1, W1_loadn, W1_store, W1_nilc, W1_bin, W1_un, W1_conv, W1_b2s, W1_s2b, W1_field1, W1_fieldn, W1_faddr, W1_iaddr, W1_iarr, W1_idxs, W1_idxa1, W1_idxan, W1_sls, W1_sll, W1_sla, W1_mk, W1_ext, W1_fn, W1_ifc, W1_lens, W1_lenc, W1_app, W1_apps, W1_copy, W1_mn, W1_mx, W1_isnil, W1_strc, W1_beq, W1_mks, W1_capn, W1_appz, W1_eqagg, W1_call, W1_calld, callD_func, List.nil_append, List.append_nil, List.map_cons, List.map_nil, Option.map_some, Option.map_none, reduceIte, Option.some.injEq, exists_eq_left', Nat.reduceBEq, iv_ii, postA_ret, postA_normal, resVs_nil, resVs_tmp, resVs_one, resVs_many, Option.bind_some, tupleOf, Int.toNat_natCast, true_and, and_true, Nat.reduceEqDiff, RdOk_nil, RdOk_refl, rd_load1, rd_loadn, rd_b2s, rd_sll, rd_sla, rd_call, rd_calld, rd_new, rd_box, rd_lit, rd_store, rd_s2b, rd_mk, rd_app, rd_apps, rd_appz, rd_mks, rd_copy, blk_ptr, blk_sl, blk_nil, List.cons_append, addI, subI, mulI, quoI, remI, shrI, eqlI, neqI, eqS, neS, beqB, bneB, lenS, lenV, pickB, ext0, ext1, ext2, ext30, ext31, binA_lss, binA_leq, binA_gtr, binA_geq, convI, decide_eq_true, decide_eq_false, gd_undef, W_scope, mnI, mxI, inBlockA_ne, dec_refl, dec_nrefl, beq_self_eq_true, ite_true, ite_false, i0, hv.len]
    refine num_Put_spec (fun t A1 _ _ h1 o1 => ?_) (fun h => absurd h (by omega))
    rw [Int.toNat_natCast] at o1
    have l1 := lit1 (A := A1) (z := .slice none 0 0) (len := 2) (ps := [(0, 1, t), (1, 1, v)]) [t, v] rfl rfl (by
      intro x hx
      simp only [List.mem_cons, List.not_mem_nil, or_false] at hx
      rcases hx with rfl | rfl
      · obtain ⟨p, c, hs, _⟩ := o1.byt.shape
        rw [hs]; exact one1_sl _ _ _
      · obtain ⟨p, c, hs, _⟩ := hv.shape
        rw [hs]; exact one1_sl _ _ _)
    have k1 : Le A1 (A1 ++ [.row [t, v] .own 1 true]) := .push _ _
    simp (maxSteps := 1000000) (disch := omega) only [W_seq, W_ops, W_draw, W_block, W_skip, W_exit, W_ret, sq_normal, sq_ret, sq_exit, W_condv, condW_true, condW_false, thenA_normal, thenA_ret, thenA_exit, if_true, if_false, Bool.false_eq_true, decide_eq_true_eq, inBlockA_normal, inBlockA_ret, inBlockA_same, inBlockA_other, noGotoA_normal, noGotoA_ret, noGotoA_exit, Wops_nil, Wops_cons, Wops_le, Wops_guard, Wops_guardle, ok1_some, okV_some, kont_at, kontL_at, gdB_true, gdB_false, decide_true, decide_false, ev_tmp, ev_const, ev_func, ev_global, put_some, put_none, upd_same, upd_at, gd_bt, gd_bf, Bool.not_true, Bool.not_false, pick_true, pick_false, pick_b, not_b, W1_mov, W1_pick, W1_new, W1_box, W1_build, W1_lit, W1_load1, W1_loadn, W1_store, W1_nilc, W1_bin, W1_un, W1_conv, W1_b2s, W1_s2b, W1_field1, W1_fieldn, W1_faddr, W1_iaddr, W1_iarr, W1_idxs, W1_idxa1, W1_idxan, W1_sls, W1_sll, W1_sla, W1_mk, W1_ext, W1_fn, W1_ifc, W1_lens, W1_lenc, W1_app, W1_apps, W1_copy, W1_mn, W1_mx, W1_isnil, W1_strc, W1_beq, W1_mks, W1_capn, W1_appz, W1_eqagg, W1_call, W1_calld, callD_func, List.nil_append, List.append_nil, List.map_cons, List.map_nil, Option.map_some, Option.map_none, reduceIte, Option.some.injEq, exists_eq_left', Nat.reduceBEq, iv_ii, postA_ret, postA_normal, resVs_nil, resVs_tmp, resVs_one, resVs_many, Option.bind_some, tupleOf, Int.toNat_natCast, true_and, and_true, Nat.reduceEqDiff, RdOk_nil, RdOk_refl, rd_load1, rd_loadn, rd_b2s, rd_sll, rd_sla, rd_call, rd_calld, rd_new, rd_box, rd_lit, rd_store, rd_s2b, rd_mk, rd_app, rd_apps, rd_appz, rd_mks, rd_copy, blk_ptr, blk_sl, blk_nil, List.cons_append, addI, subI, mulI, quoI, remI, shrI, eqlI, neqI, eqS, neS, beqB, bneB, lenS, lenV, pickB, ext0, ext1, ext2, ext30, ext31, binA_lss, binA_leq, binA_gtr, binA_geq, convI, decide_eq_true, decide_eq_false, gd_undef, W_scope, mnI, mxI, inBlockA_ne, dec_refl, dec_nrefl, beq_self_eq_true, ite_true, ite_false, i0, hv.len, l1]
    refine slices_Concat_spec (vs := [t, v]) (bss := [putN bs.length, bs]) (sl_last A1 (cs := [t, v]) (by simp) (by simp)) rfl ?_ ?_ (by simp) (fun u A2 h2 o2 => ?_)
    · intro j x b hx hb
      cases j with
      | zero =>
        simp only [List.getElem?_cons_zero, Option.some.injEq] at hx hb
        subst hx hb
        exact o1.byt.le k1
      | succ j =>
        cases j with
        | zero =>
          simp only [List.getElem?_cons_succ, List.getElem?_cons_zero, Option.some.injEq] at hx hb
          subst hx hb
          exact hv.le (h1.trans k1)
        | succ j => simp at hx
    · have := putN_len5 (n := bs.length) (by omega)
      simp; omega
    · simp (maxSteps := 1000000) (disch := omega) only [W_seq, W_ops, W_draw, W_block, W_skip, W_exit, W_ret, sq_normal, sq_ret, sq_exit, W_condv, condW_true, condW_false, thenA_normal, thenA_ret, thenA_exit, if_true, if_false, Bool.false_eq_true, decide_eq_true_eq, inBlockA_normal, inBlockA_ret, inBlockA_same, inBlockA_other, noGotoA_normal, noGotoA_ret, noGotoA_exit, Wops_nil, Wops_cons, Wops_le, Wops_guard, Wops_guardle, ok1_some, okV_some, kont_at, kontL_at, gdB_true, gdB_false, decide_true, decide_false, ev_tmp, ev_const, ev_func, ev_global, put_some, put_none, upd_same, upd_at, gd_bt, gd_bf, Bool.not_true, Bool.not_false, pick_true, pick_false, pick_b, not_b, W1_mov, W1_pick, W1_new, W1_box, W1_build, W1_lit, W1_load1, W1_loadn, W1_store, W1_nilc, W1_bin, W1_un, W1_conv, W1_b2s, W1_s2b, W1_field1, W1_fieldn, W1_faddr, W1_iaddr, W1_iarr, W1_idxs, W1_idxa1, W1_idxan, W1_sls, W1_sll, W1_sla, W1_mk, W1_ext, W1_fn, W1_ifc, W1_lens, W1_lenc, W1_app, W1_apps, W1_copy, W1_mn, W1_mx, W1_isnil, W1_strc, W1_beq, W1_mks, W1_capn, W1_appz, W1_eqagg, W1_call, W1_calld, callD_func, List.nil_append, List.append_nil, List.map_cons, List.map_nil, Option.map_some, Option.map_none, reduceIte, Option.some.injEq, exists_eq_left', Nat.reduceBEq, iv_ii, postA_ret, postA_normal, resVs_nil, resVs_tmp, resVs_one, resVs_many, Option.bind_some, tupleOf, Int.toNat_natCast, true_and, and_true, Nat.reduceEqDiff, RdOk_nil, RdOk_refl, rd_load1, rd_loadn, rd_b2s, rd_sll, rd_sla, rd_call, rd_calld, rd_new, rd_box, rd_lit, rd_store, rd_s2b, rd_mk, rd_app, rd_apps, rd_appz, rd_mks, rd_copy, blk_ptr, blk_sl, blk_nil, List.cons_append, addI, subI, mulI, quoI, remI, shrI, eqlI, neqI, eqS, neS, beqB, bneB, lenS, lenV, pickB, ext0, ext1, ext2, ext30, ext31, binA_lss, binA_leq, binA_gtr, binA_geq, convI, decide_eq_true, decide_eq_false, gd_undef, W_scope, mnI, mxI, inBlockA_ne, dec_refl, dec_nrefl, beq_self_eq_true, ite_true, ite_false]
      refine hok _ _ h ((h1.trans k1).trans h2) ?_
      have e : [putN bs.length, bs].flatten = textN bs := by simp [textN]
      rw [e] at o2
      exact OwnS.mono o2 (h1.trans k1).len
  · simp (maxSteps := 1000000) (disch := omega) only [W_seq, W_ops, W_draw, W_block, W_skip, W_exit, W_ret, sq_normal, sq_ret, sq_exit, W_condv, condW_true, condW_false, thenA_normal, thenA_ret, thenA_exit, if_true, if_false, Bool.false_eq_true, decide_eq_true_eq, inBlockA_normal, inBlockA_ret, inBlockA_same, inBlockA_other, noGotoA_normal, noGotoA_ret, noGotoA_exit, Wops_nil, Wops_cons, Wops_le, Wops_guard, Wops_guardle, ok1_some, okV_some, kont_at, kontL_at, gdB_true, gdB_false, decide_true, decide_false, ev_tmp, ev_const, ev_func, ev_global, put_some, put_none, upd_same, upd_at, gd_bt, gd_bf, Bool.not_true, Bool.not_false, pick_true, pick_false, pick_b, not_b, W1_mov, W1_pick, W1_new, W1_box, W1_build, W1_lit, W1_load1, W1_loadn, W1_store, W1_nilc, W1_bin, W1_un, W1_conv, W1_b2s, W1_s2b, W1_field1, W1_fieldn, W1_faddr, W1_iaddr, W1_iarr, W1_idxs, W1_idxa1, W1_idxan, W1_sls, W1_sll, W1_sla, W1_mk, W1_ext, W1_fn, W1_ifc, W1_lens, W1_lenc, W1_app, W1_apps, W1_copy, W1_mn, W1_mx, W1_isnil, W1_strc, W1_beq, W1_mks, W1_capn, W1_appz, W1_eqagg, W1_call, W1_calld, callD_func, List.nil_append, List.append_nil, List.map_cons, List.map_nil, Option.map_some, Option.map_none, reduceIte, Option.some.injEq, exists_eq_left', Nat.reduceBEq, iv_ii, postA_ret, postA_normal, resVs_nil, resVs_tmp, resVs_one, resVs_many, Option.bind_some, tupleOf, Int.toNat_natCast, true_and, and_true, Nat.reduceEqDiff, RdOk_nil, RdOk_refl, rd_load1, rd_loadn, rd_b2s, rd_sll, rd_sla, rd_call, rd_calld, rd_new, rd_box, rd_lit, rd_store, rd_s2b, rd_mk, rd_app, rd_apps, rd_appz, rd_mks, rd_copy, blk_ptr, blk_sl, blk_nil, List.cons_append, addI, subI, mulI, quoI, remI, shrI, eqlI, neqI, eqS, neS, beqB, bneB, lenS, lenV, pickB, ext0, ext1, ext2, ext30, ext31, binA_lss, binA_leq, binA_gtr, binA_geq, convI, decide_eq_true, decide_eq_false, gd_undef, W_scope, mnI, mxI, inBlockA_ne, dec_refl, dec_nrefl, beq_self_eq_true, ite_true, ite_false, i0, hv.len]
    exact hbad (by omega)

theorem ref01_Text_spec {A : AH} {v : Value} {bs : List UInt8} {Q : Value → AH → Prop} (hv : Byt A v bs) (hok : ∀ t A', bs.length ≤ 262144 → Le A A' → OwnB A.length A' t (textN bs) → Q (.tuple #[t, ii 0]) A')
    (hbad : 262144 < bs.length → Q (.tuple #[.slice none 0 0, ii 3]) A) : ACalls 0 Try.prog chantryref01_Text [v] Q A := by
  refine ACalls.of_fits mixed fits_chantryref01_Text rfl ?_
  unfold ic_chantryref01_Text
  have i0 : initA [v] 0 = v := rfl
  generalize initA [v] = a at i0
  by_cases h : bs.length ≤ 262144
  · simp (maxSteps := 1000000) (disch := omega) only [W_seq, W_ops, W_draw, W_block, W_skip, W_exit, W_ret, sq_normal, sq_ret, sq_exit, W_condv, condW_true, condW_false, thenA_normal, thenA_ret, thenA_exit, if_true, if_false, Bool.false_eq_true, decide_eq_true_eq, inBlockA_normal, inBlockA_ret, inBlockA_same, inBlockA_other, noGotoA_normal, noGotoA_ret, noGotoA_exit, Wops_nil, Wops_cons, Wops_le, Wops_guard, Wops_guardle, ok1_some, okV_some, kont_at, kontL_at, gdB_true, gdB_false, decide_true, decide_false, ev_tmp, ev_const, ev_func, ev_global, put_some, put_none, upd_same, upd_at, gd_bt, gd_bf, Bool.not_true, Bool.not_false, pick_true, pick_false, pick_b, not_b, W1_mov, W1_pick, W1_new, W1_box, W1_build, W1_lit, W1_load1, W1_loadn, W1_store, W1_nilc, W1_bin, W1_un, W1_conv, W1_b2s, W1_s2b, W1_field1, W1_fieldn, W1_faddr, W1_iaddr, W1_iarr, W1_idxs, W1_idxa1, W1_idxan, W1_sls, W1_sll, W1_sla, W1_mk, W1_ext, W1_fn, W1_ifc, W1_lens, W1_lenc, W1_app, W1_apps, W1_copy, W1_mn, W1_mx, W1_isnil, W1_strc, W1_beq, W1_mks, W1_capn, W1_appz, W1_eqagg, W1_call, W1_calld, callD_func, List.nil_append, List.append_nil, List.map_cons, List.map_nil, Option.map_some, Option.map_none, reduceIte, Option.some.injEq, exists_eq_left', Nat.reduceBEq, iv_ii, postA_ret, postA_normal, resVs_nil, resVs_tmp, resVs_one, resVs_many, Option.bind_some, tupleOf, Int.toNat_natCast, true_and, and_true, Nat.reduceEqDiff, RdOk_nil, RdOk_refl, rd_load1, rd_loadn, rd_b2s, rd_sll, rd_sla, rd_call, rd_calld, rd_new, rd_box, rd_lit, rd_store, rd_s2b, rd_mk, rd_app, rd_apps, rd_appz, rd_mks, rd_copy, blk_ptr, blk_sl, blk_nil, List.cons_append, addI, subI, mulI, quoI, remI, shrI, eqlI, neqI, eqS, neS, beqB, bneB, lenS, lenV, pickB, ext0, ext1, ext2, ext30, ext31, binA_lss, binA_leq, binA_gtr, binA_geq, convI, decide_eq_true, decide_eq_false, gd_undef, W_scope, mnI, mxI, inBlockA_ne, dec_refl, dec_nrefl, beq_self_eq_true, ite_true, ite_false, i0, hv.len]
    refine ref01_Put_spec (fun t A1 _ _ h1 o1 => ?_) (fun h => absurd h (by omega))
    rw [Int.toNat_natCast] at o1
    have := putN_len5 (n := bs.length) (by omega)
    obtain ⟨v2, A2, p1, p2, p3, _⟩ := app_bytes h1 o1 (hv.le h1) (by omega)
    simp (maxSteps := 1000000) (disch := omega) only [W_seq, W_ops, W_draw, W_block, W_skip, W_exit, W_ret, sq_normal, sq_ret, sq_exit, W_condv, condW_true, condW_false, thenA_normal, thenA_ret, thenA_exit, if_true, if_false, Bool.false_eq_true, decide_eq_true_eq, inBlockA_normal, inBlockA_ret, inBlockA_same, inBlockA_other, noGotoA_normal, noGotoA_ret, noGotoA_exit, Wops_nil, Wops_cons, Wops_le, Wops_guard, Wops_guardle, ok1_some, okV_some, kont_at, kontL_at, gdB_true, gdB_false, decide_true, decide_false, ev_tmp, ev_const, ev_func, ev_global, put_some, put_none, upd_same, upd_at, gd_bt, gd_bf, Bool.not_true, Bool.not_false, pick_true, pick_false, pick_b, not_b, W1_mov, W1_pick, W1_new, W1_box, W1_build, W1_lit, W1_load1, W1_loadn, W1_store, W1_nilc, W1_bin, W1_un, W1_conv, W1_b2s, W1_s2b, W1_field1, W1_fieldn, W1_faddr, W1_iaddr, W1_iarr, W1_idxs, W1_idxa1, W1_idxan, W1_sls, W1_sll, W1_sla, W1_mk, W1_ext, W1_fn, W1_ifc, W1_lens, W1_lenc, W1_app, W1_apps, W1_copy, W1_mn, W1_mx, W1_isnil, W1_strc, W1_beq, W1_mks, W1_capn, W1_appz, W1_eqagg, W1_call, W1_calld, callD_func, List.nil_append, List.append_nil, List.map_cons, List.map_nil, Option.map_some, Option.map_none, reduceIte, Option.some.injEq, exists_eq_left', Nat.reduceBEq, iv_ii, postA_ret, postA_normal, resVs_nil, resVs_tmp, resVs_one, resVs_many, Option.bind_some, tupleOf, Int.toNat_natCast, true_and, and_true, Nat.reduceEqDiff, RdOk_nil, RdOk_refl, rd_load1, rd_loadn, rd_b2s, rd_sll, rd_sla, rd_call, rd_calld, rd_new, rd_box, rd_lit, rd_store, rd_s2b, rd_mk, rd_app, rd_apps, rd_appz, rd_mks, rd_copy, blk_ptr, blk_sl, blk_nil, List.cons_append, addI, subI, mulI, quoI, remI, shrI, eqlI, neqI, eqS, neS, beqB, bneB, lenS, lenV, pickB, ext0, ext1, ext2, ext30, ext31, binA_lss, binA_leq, binA_gtr, binA_geq, convI, decide_eq_true, decide_eq_false, gd_undef, W_scope, mnI, mxI, inBlockA_ne, dec_refl, dec_nrefl, beq_self_eq_true, ite_true, ite_false, i0, p1]
    exact hok _ _ h p2 p3
  · simp (maxSteps := 1000000) (disch := omega) only [W_seq, W_ops, W_draw, W_block, W_skip, W_exit, W_ret, sq_normal, sq_ret, sq_exit, W_condv, condW_true, condW_false, thenA_normal, thenA_ret, thenA_exit, if_true, if_false, Bool.false_eq_true, decide_eq_true_eq, inBlockA_normal, inBlockA_ret, inBlockA_same, inBlockA_other, noGotoA_normal, noGotoA_ret, noGotoA_exit, Wops_nil, Wops_cons, Wops_le, Wops_guard, Wops_guardle, ok1_some, okV_some, kont_at, kontL_at, gdB_true, gdB_false, decide_true, decide_false, ev_tmp, ev_const, ev_func, ev_global, put_some, put_none, upd_same, upd_at, gd_bt, gd_bf, Bool.not_true, Bool.not_false, pick_true, pick_false, pick_b, not_b, W1_mov, W1_pick, W1_new, W1_box, W1_build, W1_lit, W1_load1, W1_loadn, W1_store, W1_nilc, W1_bin, W1_un, W1_conv, W1_b2s, W1_s2b, W1_field1, W1_fieldn, W1_faddr, W1_iaddr, W1_iarr, W1_idxs, W1_idxa1, W1_idxan, W1_sls, W1_sll, W1_sla, W1_mk, W1_ext, W1_fn, W1_ifc, W1_lens, W1_lenc, W1_app, W1_apps, W1_copy, W1_mn, W1_mx, W1_isnil, W1_strc, W1_beq, W1_mks, W1_capn, W1_appz, W1_eqagg, W1_call, W1_calld, callD_func, List.nil_append, List.append_nil, List.map_cons, List.map_nil, Option.map_some, Option.map_none, reduceIte, Option.some.injEq, exists_eq_left', Nat.reduceBEq, iv_ii, postA_ret, postA_normal, resVs_nil, resVs_tmp, resVs_one, resVs_many, Option.bind_some, tupleOf, Int.toNat_natCast, true_and, and_true, Nat.reduceEqDiff, RdOk_nil, RdOk_refl, rd_load1, rd_loadn, rd_b2s, rd_sll, rd_sla, rd_call, rd_calld, rd_new, rd_box, rd_lit, rd_store, rd_s2b, rd_mk, rd_app, rd_apps, rd_appz, rd_mks, rd_copy, blk_ptr, blk_sl, blk_nil, List.cons_append, addI, subI, mulI, quoI, remI, shrI, eqlI, neqI, eqS, neS, beqB, bneB, lenS, lenV, pickB, ext0, ext1, ext2, ext30, ext31, binA_lss, binA_leq, binA_gtr, binA_geq, convI, decide_eq_true, decide_eq_false, gd_undef, W_scope, mnI, mxI, inBlockA_ne, dec_refl, dec_nrefl, beq_self_eq_true, ite_true, ite_false, i0, hv.len]
    exact hbad (by omega)
end Go.AS.C
